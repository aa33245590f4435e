/- Draws of lists of fields, and the law's draw. -/
import Derived.Test.YtkbgifnmcklmiaaDrawF
namespace Go.Proofs.Ytkbgifnmcklmiaa
open Go.ChangeShapes Go.WideShapes Go.ChangeAt Go.RowKit
set_option linter.unusedVariables false

/-- A list of fields and their starts, all rows of the call's own. -/
structure LsX (w0 w : World) (A : Option Addr) (c : Nat) (fs : List Fd) (A' : Option Addr) (c' : Nat) (ss : List Int) : Prop where
  own : OwnV w w0.heap.size 27 2 A fs.length c (fcells fs)
  ins : ∀ f ∈ fs, OwnI w w0.heap.size f.A f.c f.ws
  row : OwnI w w0.heap.size A' c' ss
  sep : ∀ f ∈ fs, Sep f.A (.slice A' ss.length c')
theorem OwnV.cur {w w' : World} {base e sz g n c : Nat} {A : Option Addr} {cs : List Value} (h : OwnV w base e sz A n c cs) (hg : w.grownBy w' (some g)) (hlt : g < base) : OwnV w' base e sz A n c cs :=
  h.kept hg (fun k e hk => by
    injection hk with hk
    rcases h.form with ⟨e0, _⟩ | ⟨g0, e0, hb, _⟩
    · rw [e0] at e; cases e
    · rw [e0] at e; injection e with e; injection e with e; omega)
section
variable {w0 w w' : World} {A A' : Option Addr} {c c' g : Nat} {fs : List Fd} {ss : List Int}
theorem LsX.next (h : LsX w0 w A c fs A' c' ss) (b : Below w.heap.size w w') : LsX w0 w' A c fs A' c' ss := ⟨h.own.next b, fun f hf => (h.ins f hf).next b, h.row.next b, h.sep⟩
theorem LsX.cur (h : LsX w0 w A c fs A' c' ss) (hg : w.grownBy w' (some g)) (hlt : g < w0.heap.size) : LsX w0 w' A c fs A' c' ss := ⟨h.own.cur hg hlt, fun f hf => (h.ins f hf).cur hg hlt, h.row.cur hg hlt, h.sep⟩
/-- One field more, whose row is newer than all. -/
theorem LsX.addF {B : Nat} {w1 : World} {f : Fd} {A2 : Option Addr} {c2 : Nat} (h : LsX w0 w A c fs A' c' ss) (hf : OwnI w B f.A f.c f.ws) (hB : w0.heap.size ≤ B) (hs : ∀ k, (Value.slice A' ss.length c').ownBlock = some k → k < B)
    (hg : w.grownBy w1 (Value.slice A fs.length c).ownBlock) (ho : OwnV w1 w0.heap.size 27 2 A2 (fs ++ [f]).length c2 (fcells (fs ++ [f]))) : LsX w0 w1 A2 c2 (fs ++ [f]) A' c' ss := by
  have hk : ∀ {base : Nat} {A : Option Addr} {c : Nat} {xs : List Int}, OwnI w base A c xs → OwnI w1 base A c xs := fun h' => OwnV.kept h' hg (fun g' hg' e => OwnV.apart h' h.own (by decide) g' hg' e)
  refine ⟨ho, fun q hq => ?_, hk h.row, fun q hq => ?_⟩
  · rcases List.mem_append.1 hq with hq | hq
    · exact hk (h.ins q hq)
    · rw [List.mem_singleton] at hq; subst hq; exact (hk hf).more hB
  · rcases List.mem_append.1 hq with hq | hq
    · exact h.sep q hq
    · rw [List.mem_singleton] at hq
      subst hq
      intro g' hg' e
      have h1 := hf.row_ge g' (by rw [hg']; rfl)
      have h2 := hs g' e
      omega
/-- One start more. -/
theorem LsX.addS {w1 : World} {x : Int} {A2 : Option Addr} {c2 : Nat} (h : LsX w0 w A c fs A' c' ss) (hg : w.grownBy w1 (Value.slice A' ss.length c').ownBlock) (hat : A2 = A' ∨ A2 = some ⟨w.heap.size, 0, none⟩) (ho : OwnI w1 w0.heap.size A2 c2 (ss ++ [x])) : LsX w0 w1 A c fs A2 c2 (ss ++ [x]) := by
  refine ⟨h.own.kept hg (fun g' hg' e => OwnV.apart h.own h.row (by decide) g' hg' e), fun f hf => OwnV.kept (h.ins f hf) hg (h.sep f hf), ho, fun f hf => ?_⟩
  intro g' hg' e
  rcases hat with e2 | e2
  · refine h.sep f hf g' hg' ?_
    rw [e2] at e
    cases A' with
    | none => simp [Value.ownBlock] at e
    | some a => exact e
  · have h1 := (World.ownsRow.lt (h.ins f hf) g' (by rw [hg']; rfl)).2
    rw [e2] at e
    simp only [Value.ownBlock] at e
    injection e with e
    omega
end
def okAll (fs : List Fd) (ss : List Int) : Prop := fs.length ≤ 3 ∧ ss.length = fs.length ∧ (∀ f ∈ fs, okWs f.a f.ws) ∧ ∀ s ∈ ss, 0 ≤ s ∧ s ≤ 11
def ListP (w : World) (g B : Nat) (code : List Int) (e : Ending) (w' : World) : Prop :=
  ∃ (A : Option Addr) (c : Nat) (fs : List Fd) (A' : Option Addr) (c' : Nat) (ss : List Int), e = .returned (.tuple #[.slice A fs.length c, .slice A' ss.length c']) ∧ LsX w w' A c fs A' c' ss ∧ okAll fs ss ∧ CurB w' g B code ∧ w.grownBy w' (some g)
set_option maxHeartbeats 4000000 in
theorem l27List_c (g B : Nat) (code : List Int) (w : World) (hC : CurB w g B code) : Calls Try.prog 41 #[.pointer (some ⟨g, 0, none⟩)] w (ListP w g B code) := by
  have hgl := hC.lt
  have E1 := Blk.new w 27 #[]
  have E2 := Blk.new (w.alloc (.cells #[] 27)) 3 #[]
  have hC0 := (hC.alloc (.cells #[] 27)).alloc (.cells #[] 3)
  have hG0 : w.grownBy ((w.alloc (.cells #[] 27)).alloc (.cells #[] 3)) (some g) := grownBy_al (World.grownBy_alloc w _ _) _
  have hX0 : LsX w ((w.alloc (.cells #[] 27)).alloc (.cells #[] 3)) (some ⟨w.heap.size, 0, none⟩) 0 [] (some ⟨w.heap.size + 1, 0, none⟩) 0 [] :=
    ⟨OwnV.of_blk (Nat.le_refl _) rfl (Nat.zero_le _) (E1.alloc _), (fun f hf => by cases hf), OwnI.of_blk (Nat.le_succ _) (Nat.zero_le _) (by simp only [World.size_alloc] at E2; exact E2), (fun f hf => by cases hf)⟩
  go_enter Try.func41, Try.ntmps41
  go_wp2_with fail
  refine (l01Below_c g B code 4 _ hC0 (by omega) (by omega)).mono ?_
  rintro e w1 ⟨n, rfl, n0, n1, hC1, hg1⟩
  have hX1 := hX0.cur hg1 hgl
  have hG1 := hG0.trans hg1
  clear hC0 hG0 hg1 hC hX0 E1 E2
  obtain ⟨m, rfl⟩ := Int.eq_ofNat_of_zero_le n0
  go_wp2
  go_loopw [4, 5, 7] (fun s t i wr => ∃ (A : Option Addr) (c : Nat) (fs : List Fd) (A' : Option Addr) (c' : Nat) (ss : List Int), fs.length ≤ m ∧ i = .int .i64 (fs.length : Nat) ∧ s = .slice A fs.length c ∧ t = .slice A' ss.length c' ∧ LsX w wr A c fs A' c' ss ∧ Hid (okAll fs ss) ∧ CurB wr g B code ∧ w.grownBy wr (some g)) (fun _ _ i _ => m - (intOf i).toNat)
  case atStart => exact ⟨_, _, [], _, _, [], Nat.zero_le _, rfl, rfl, rfl, hX1, ⟨Nat.zero_le _, rfl, (fun f hf => by cases hf), (fun f hf => by cases hf)⟩, hC1, hG1⟩
  case round =>
    clear hC1 hG1 hX1
    obtain ⟨A, c, fs, A', c', ss, hk, rfl, rfl, rfl, hX, hok, hC, hG⟩ := hrel
    by_cases hlt : fs.length < m
    · have hl3 : fs.length < 3 := by omega
      have hs3 : ss.length < 3 := by have := hok.out.2.1; omega
      have hsz := hG.size
      go_wp2_with fail
      refine (l27Field_c g B code _ hC).mono ?_
      rintro e w2 ⟨a, A1, c1, ws, rfl, o1, hw, hC2, hg2⟩
      have hX2 := hX.cur hg2 hgl
      have hG2 := hG.trans hg2
      have hsold : ∀ k, (Value.slice A' ss.length c').ownBlock = some k → k < wr.heap.size := fun k hk => (World.ownsRow.lt hX.row k hk).2
      clear hX hC hG hg2
      have F := Blk.new w2 27 #[.int .i64 a, .slice A1 ws.length c1]
      obtain ⟨f0, f1, -, -, fL⟩ := F.two
      have b1 := (Below.refl w2.heap.size w2).alloc (Nat.le_refl _) (.cells #[.int .i64 a, .slice A1 ws.length c1] 27)
      have V := Blk.new (w2.alloc (.cells #[.int .i64 a, .slice A1 ws.length c1] 27)) 27 #[.int .i64 a, .slice A1 ws.length c1]
      have b2 := b1.alloc b1.size (.cells #[.int .i64 a, .slice A1 ws.length c1] 27)
      have hX3 := hX2.next b2
      have o3 := o1.next b2
      have hC3 := hC2.next b2
      have hG3 := grownBy_below hG2 b2
      have hszW : w2.heap.size + 1 = (w2.alloc (.cells #[.int .i64 a, .slice A1 ws.length c1] 27)).heap.size := by simp
      rw [← hszW] at V
      have V2 := RdV.of_blk (cs := [.int .i64 a, .slice A1 ws.length c1]) V
      clear b1 b2 V F hX2 o1 hC2 hG2 hszW
      have hszG := hG3.size
      go_wp2_with (at_builtin; refine wpList_append_v rowFld _ rfl (.tmp 20) (.tmp 22) rfl w.heap.size A fs.length c (fcells fs) rfl hX3.own _ (some ⟨w2.heap.size + 1, 0, none⟩) 1 1 [.int .i64 a, .slice A1 ws.length c1] rfl rfl V2 (by intro u hu; simp at hu; rcases hu with rfl | rfl <;> rfl) (by omega) hszG ?_; intro A2 c2 w3 hO2 hg3 hat)
      have hX4 : LsX w w3 A2 c2 (fs ++ [⟨a, A1, c1, ws⟩]) A' c' ss := hX3.addF (f := ⟨a, A1, c1, ws⟩) o3 hsz hsold hg3 (by rw [field_toV, show (fs ++ [(⟨a, A1, c1, ws⟩ : Fd)]).length = fs.length + 1 by simp]; exact hO2)
      have hrg := hX3.own.row_ge
      have hC4 := hC3.kept hg3 (fun k e => by have := hrg k e; omega)
      have hG4 := grownBy_over hG3 hg3 hrg
      clear hX3 o3 hC3 hG3 hO2 hg3 hat V2 hsold hszG
      refine (l01Below_c g B code 12 _ hC4 (by omega) (by omega)).mono ?_
      rintro e w4 ⟨x, rfl, x0, x1, hC5, hg5⟩
      have hX5 := hX4.cur hg5 hgl
      have hG5 := hG4.trans hg5
      clear hX4 hC4 hG4 hg5
      have b6 := (Below.refl w4.heap.size w4).alloc (Nat.le_refl _) (.cells #[.int .i64 x] 3)
      have hX6 := hX5.next b6
      have hC6 := hC5.next b6
      have hG6 := grownBy_below hG5 b6
      have hone := RdI.of_ints (xs := [x]) (Blk.new w4 3 #[.int .i64 x])
      have hszG := hG6.size
      clear hX5 hC5 hG5 b6
      go_wp2_with (at_builtin; refine wpList_append_rd _ rfl (.tmp 24) (.tmp 27) rfl w.heap.size A' ss.length c' ss rfl rfl hX6.row _ (some ⟨w4.heap.size, 0, none⟩) 1 1 [x] rfl rfl hone (by simp; omega) hszG ?_; intro A6 c6 w6 hO6 hg6 hat6)
      have hrg := hX6.row.row_ge
      have hX7 := hX6.addS hg6 hat6 hO6
      have hC7 := hC6.kept hg6 (fun k e => by have := hrg k e; omega)
      have hG7 := grownBy_over hG6 hg6 hrg
      have hok2 := Lib.hid (show okAll (fs ++ [⟨a, A1, c1, ws⟩]) (ss ++ [x]) by
        obtain ⟨q1, q2, q3, q4⟩ := hok.out
        refine ⟨by simp; omega, by simp; omega, fun f hf => ?_, fun s hs => ?_⟩
        · rcases List.mem_append.1 hf with hf | hf
          · exact q3 f hf
          · rw [List.mem_singleton] at hf; subst hf; exact hw
        · rcases List.mem_append.1 hs with hs | hs
          · exact q4 s hs
          · rw [List.mem_singleton] at hs; subst hs; exact ⟨x0, by omega⟩)
      clear hX6 hC6 hG6 hok
      go_roundw
      case rel => exact ⟨A2, c2, fs ++ [⟨a, A1, c1, ws⟩], A6, c6, ss ++ [x], by simp; omega, by simp, by simp, by simp, hX7, hok2, hC7, hG7⟩
      case measure => simp [intOf]; omega
    · obtain rfl : fs.length = m := by omega
      go_wp2
      refine bodyPost_ret (v := .tuple #[.slice A fs.length c, .slice A' ss.length c']) (by simp [results, Try.results41, go_sem, *]) rfl ⟨A, c, fs, A', c', ss, rfl, hX, hok.out, hC, hG⟩
end Go.Proofs.Ytkbgifnmcklmiaa
