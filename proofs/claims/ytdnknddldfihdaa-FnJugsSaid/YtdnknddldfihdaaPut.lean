/- JugSteps' own function 'put'. -/
import Derived.Test.YtdnknddldfihdaaCon
namespace Go.Proofs.Ytdnknddldfihdaa
open Go.ChangeShapes Go.WideShapes Go.ChangeAt Go.RowKit
set_option linter.unusedVariables false

/-- What lies in memory while the steps are gathered: the state's box at h, the box of 'out' at h + 1, the steps from h + 2 on. -/
structure JX (w0 : World) (h : Nat) (B : Option Addr) (cs : Nat) (s : List Int) (A : Option Addr) (c : Nat) (ts : List Tr) (w : World) : Prop where
  bel : Below h w0 w
  st : Blk w h 22 #[.slice B s.length cs]
  ou : Blk w (h + 1) 30 #[.slice A ts.length c]
  own : OwnSS w (h + 2) A c ts
  rd : RdI w h B s
  sz : h + 2 ≤ w.heap.size
section
variable {w0 w w' : World} {h cs c : Nat} {B A : Option Addr} {s : List Int} {ts : List Tr}
theorem JX.next (H : JX w0 h B cs s A c ts w) (b : Below w.heap.size w w') : JX w0 h B cs s A c ts w' :=
  ⟨H.bel.trans (b.mono (by have := H.sz; omega)), H.st.next b, H.ou.next b, H.own.next b, H.rd.below b (by have := H.sz; omega), Nat.le_trans H.sz b.size⟩
theorem JX.rds (H : JX w0 h B cs s A c ts w) : RdI w w.heap.size B s := H.rd.more (by have := H.sz; omega)
end
/-- What 'put' has done. -/
def PutP (w0 : World) (h : Nat) (B : Option Addr) (cs : Nat) (s : List Int) (ts : List Tr) (x : List Int) (W : World) (e : Ending) (w' : World) : Prop :=
  e = .returned (.tuple #[]) ∧ ∃ (A : Option Addr) (c : Nat) (us : List Tr), JX w0 h B cs s A c us w' ∧ valT us = putL s x (valT ts) ∧ W.heap.size ≤ w'.heap.size
theorem putL_self {s x : List Int} (L : List (List Int)) (h : (x == s) = true) : putL s x L = L := by unfold putL; rw [h]; simp
theorem putL_has {s x : List Int} {L : List (List Int)} (h2 : hasSS L x = true) : putL s x L = L := by unfold putL; unfold hasSS at h2; rw [h2]; simp
theorem putL_new {s x : List Int} {L : List (List Int)} (h : (x == s) = false) (h2 : hasSS L x = false) : putL s x L = L ++ [x] := by unfold putL; unfold hasSS at h2; rw [h, h2]; simp
set_option maxHeartbeats 1000000 in
theorem put_c (w0 : World) (h : Nat) (B : Option Addr) (cs : Nat) (s : List Int) (A : Option Addr) (c : Nat) (ts : List Tr) (g cg : Nat) (x : List Int) (W : World) (H : JX w0 h B cs s A c ts W) (hx : InT W (h + 2) (g, cg, x)) (hne : ∀ u ∈ ts, u.1 ≠ g) (hl : ts.length ≤ 1048576) (hi : ∀ t ∈ ts, t.2.2.length ≤ 1048576) (hxl : x.length ≤ 1048576) :
    Calls Try.prog 42 #[.slice (some ⟨g, 0, none⟩) x.length cg, .pointer (some ⟨h, 0, none⟩), .pointer (some ⟨h + 1, 0, none⟩)] W (PutP w0 h B cs s ts x W) := by
  have b0 := (Below.refl W.heap.size W).alloc (Nat.le_refl _) (.cells #[.slice (some ⟨g, 0, none⟩) x.length cg] 22)
  have X := Blk.new W 22 #[.slice (some ⟨g, 0, none⟩) x.length cg]
  have H1 := H.next b0
  have hx1 := hx.next b0
  have hW := H.sz
  obtain ⟨x0, -, xL⟩ := X.one
  obtain ⟨s0, -, sL⟩ := H1.st.one
  obtain ⟨o0, of, oL⟩ := H1.ou.one
  have hE := Lib.hid (equalS_c (some ⟨g, 0, none⟩) B cg cs x s _ hx1.rd H1.rds hxl)
  have hQ := Lib.hid (fun q => hasP_c ((W.alloc (.cells #[.slice (some ⟨g, 0, none⟩) x.length cg] 22)).drewN q) (h + 2) A c ts W.heap.size (some ⟨g, 0, none⟩) cg x (H1.own.next (below_drewN (Below.refl _ _) q)) hl hi X hx1.rd)
  cases hb : x == s
  · rw [hb] at hE
    cases hc : hasSS (valT ts) x
    · rw [hc] at hQ
      have hput := Lib.hid (putL_new hb hc)
      have hx2 : ∀ q, InT ((W.alloc (.cells #[.slice (some ⟨g, 0, none⟩) x.length cg] 22)).drewN q) (h + 2) (g, cg, x) := fun q => hx1.next (below_drewN (Below.refl _ _) q)
      have H2 : ∀ q, JX w0 h B cs s A c ts ((W.alloc (.cells #[.slice (some ⟨g, 0, none⟩) x.length cg] 22)).drewN q) := fun q => H1.next (below_drewN (Below.refl _ _) q)
      have H2' := Lib.hid H2
      have hx2' := Lib.hid hx2
      clear H H1 hx hx1 b0 H2 hx2 hb hc
      go_enter Try.func42, Try.ntmps42
      go_wp2_with fail
      refine hE.out.mono ?_
      rintro e w1 ⟨rfl, q, rfl⟩
      go_wp2_with fail
      refine (hQ.out q).mono ?_
      rintro e w1 ⟨rfl, q2, rfl⟩
      have H3 := H2'.out (q + q2)
      have hx3 := hx2'.out (q + q2)
      rw [← drew2] at H3 hx3
      have X3 := (X.drewN q).drewN q2
      have hszW : W.heap.size ≤ (((W.alloc (.cells #[.slice (some ⟨g, 0, none⟩) x.length cg] 22)).drewN q).drewN q2).heap.size := by show W.heap.size ≤ (W.alloc (.cells #[.slice (some ⟨g, 0, none⟩) x.length cg] 22)).heap.size; simp
      generalize ((W.alloc (.cells #[.slice (some ⟨g, 0, none⟩) x.length cg] 22)).drewN q).drewN q2 = W3 at H3 hx3 X3 hszW ⊢
      clear x0 xL s0 sL o0 of oL X hE hQ H2' hx2'
      obtain ⟨x0, -, xL⟩ := X3.one
      obtain ⟨o0, of, oL⟩ := H3.ou.one
      have b4 := (Below.refl W3.heap.size W3).alloc (Nat.le_refl _) (.cells #[.slice (some ⟨g, 0, none⟩) x.length cg] 22)
      have hb4 := Blk.new W3 22 #[.slice (some ⟨g, 0, none⟩) x.length cg]
      have H4 := H3.next b4
      have hx4 := hx3.next b4
      have hr4 : RdV (W3.alloc (.cells #[.slice (some ⟨g, 0, none⟩) x.length cg] 22)) (W3.alloc (.cells #[.slice (some ⟨g, 0, none⟩) x.length cg] 22)).heap.size (some ⟨W3.heap.size, 0, none⟩) [encT (g, cg, x)] := RdV.of_blk hb4
      have hge := H4.own.row.row_ge
      have hsz4 := H4.sz
      have hs4 : W.heap.size ≤ (W3.alloc (.cells #[.slice (some ⟨g, 0, none⟩) x.length cg] 22)).heap.size := Nat.le_trans hszW b4.size
      clear H3 hx3 b4 hb4 X3 hszW
      go_wp2_with (first | (at_builtin; refine wpList_append_v rowSS _ rfl (.tmp 14) (.tmp 16) rfl (h + 2) A ts.length c (ts.map encT) rfl H4.own.row (W3.alloc (.cells #[.slice (some ⟨g, 0, none⟩) x.length cg] 22)).heap.size (some ⟨W3.heap.size, 0, none⟩) 1 1 [encT (g, cg, x)] rfl rfl hr4 (one_enc _) (by omega) hsz4 ?_; intro A' c' w5 o5 g5 at5; (have hou := H4.ou.grown g5 (fun e => by have := hge (h + 1) e.symm; omega)); (obtain ⟨p0, pf, pL⟩ := hou.one)) | fail)
      go_end0
      have hst := H4.st.grown g5 (fun e => by have := hge h e.symm; omega)
      have hO5 := H4.own.snoc o5 g5 hx4 hne
      refine ⟨rfl, A', c', ts ++ [(g, cg, x)], ⟨?_, ?_, ?_, ?_, ?_, ?_⟩, ?_, ?_⟩
      · exact (H4.bel.grown g5 (by omega) (fun k hk => by have := hge k hk; omega)).setCell (p := ⟨h + 1, 0, none⟩) (show h ≤ h + 1 by omega) _
      · exact hst.far (p := ⟨h + 1, 0, none⟩) (show h ≠ h + 1 by omega) _
      · have := hou.set_ 0 (.slice A' (ts.length + 1) c')
        rw [List.length_append]
        exact this
      · exact hO5.under (grownBy_set _) (by omega)
      · exact (H4.rd.kept g5 (by omega) (fun k hk => by have := hge k hk; omega)).setCell (p := ⟨h + 1, 0, none⟩) (show h ≤ h + 1 by omega) _
      · have := g5.size; simp only [World.size_setCell]; omega
      · rw [hput.out]; simp [valT]
      · have := g5.size; simp only [World.size_setCell]; omega
    · rw [hc] at hQ
      have hput := Lib.hid (putL_has (s := s) hc)
      clear H hx hx1 X b0 hb hc
      go_enter Try.func42, Try.ntmps42
      go_wp2_with fail
      refine hE.out.mono ?_
      rintro e w1 ⟨rfl, q, rfl⟩
      go_wp2_with fail
      refine (hQ.out q).mono ?_
      rintro e w1 ⟨rfl, q2, rfl⟩
      go_wp2
      go_end0
      exact ⟨rfl, A, c, ts, (H1.next (below_drewN (Below.refl _ _) _)), hput.out.symm, by simp⟩
  · rw [hb] at hE
    have hput := Lib.hid (putL_self (valT ts) hb)
    clear H hx hx1 X b0 hb hQ
    go_enter Try.func42, Try.ntmps42
    go_wp2_with fail
    refine hE.out.mono ?_
    rintro e w1 ⟨rfl, q, rfl⟩
    go_wp2
    go_end0
    exact ⟨rfl, A, c, ts, (H1.next (below_drewN (Below.refl _ _) _)), hput.out.symm, by simp⟩
end Go.Proofs.Ytdnknddldfihdaa
