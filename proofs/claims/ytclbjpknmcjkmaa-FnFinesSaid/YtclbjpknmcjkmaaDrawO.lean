/- DrawOffenses: valid offenses. -/
import Derived.Test.YtclbjpknmcjkmaaLaw
import Derived.Test.YtclbjpknmcjkmaaOwnS
import Derived.Test.YtclbjpknmcjkmaaDrawB
namespace Go.Proofs.Ytclbjpknmcjkmaa
open Go.ChangeShapes Go.WideShapes Go.ChangeAt Go.RowKit
set_option linter.unusedVariables false

theorem OwnZ.cur {w w' : World} {base g n c : Nat} {A : Option Addr} {xs : List Int} (h : OwnZ w base A n c xs) (hg : w.grownBy w' (some g)) (hlt : g < base) : OwnZ w' base A n c xs :=
  h.kept hg (fun k e hk => by
    injection hk with hk
    rcases h.form with ⟨e0, _⟩ | ⟨g0, e0, hb, _⟩
    · rw [e0] at e; cases e
    · rw [e0] at e; injection e with e; injection e with e; omega)
theorem OwnZ.row_ge2 {w : World} {base : Nat} {A : Option Addr} {n c : Nat} {zs : List Int} (h : OwnZ w base A n c zs) : ∀ k, (Value.slice A n c).ownBlock = some k → base ≤ k := fun k hk => (World.ownsRow.lt h k hk).1
theorem OwnZ.empty (w : World) : OwnZ (w.alloc (.cells #[] 37)) w.heap.size (some ⟨w.heap.size, 0, none⟩) 0 0 [] := OwnZ.of_blk (zs := []) (Nat.le_refl _) rfl (by unfold maxLen; simp) (Blk.new _ _ _)

def goodT (t : Of) (day : Int) : Prop := ∀ k, k < t.length → (1 ≤ pe t k ∧ pe t k ≤ 4) ∧ (0 ≤ dy t k ∧ dy t k ≤ day) ∧ (1 ≤ li t k ∧ li t k ≤ 30) ∧ (0 < k → dy t (k - 1) ≤ dy t k)
theorem goodT_snoc {t : Of} {day x y z : Int} (h : goodT t day) (hd : day ≤ y) (y0 : 0 ≤ y) (x0 : 1 ≤ x) (x1 : x ≤ 4) (z0 : 1 ≤ z) (z1 : z ≤ 30) : goodT (t ++ [(x, y, z)]) y := by
  intro k hk
  have hlt : ∀ j, j < t.length → pe (t ++ [(x, y, z)]) j = pe t j ∧ dy (t ++ [(x, y, z)]) j = dy t j ∧ li (t ++ [(x, y, z)]) j = li t j := fun j hj => by
    simp only [pe, dy, li, List.getD, List.getElem?_append_left hj, and_self]
  have hlast : (t ++ [(x, y, z)])[t.length]? = some (x, y, z) := by simp
  rw [List.length_append] at hk
  by_cases e : k < t.length
  · obtain ⟨e1, e2, e3⟩ := hlt k e
    obtain ⟨a, b, c, d⟩ := h k e
    rw [e1, e2, e3]
    refine ⟨a, ⟨b.1, by omega⟩, c, fun h0 => ?_⟩
    rw [(hlt (k - 1) (by omega)).2.1]
    exact d h0
  · have hkl : k = t.length := by simp at hk; omega
    subst hkl
    rw [pe_at hlast, dy_at hlast, li_at hlast]
    refine ⟨⟨x0, x1⟩, ⟨y0, Int.le_refl _⟩, ⟨z0, z1⟩, fun h0 => ?_⟩
    rw [(hlt (t.length - 1) (by omega)).2.1]
    have := (h (t.length - 1) (by omega)).2.1.2
    omega
theorem goodT_off {t : Of} {day : Int} (h : goodT t day) (hl : t.length ≤ 8) (hd : day ≤ 1000) : offB t = true := by
  unfold offB
  simp only [Bool.and_eq_true, decide_eq_true_eq]
  refine ⟨by omega, (allAt_iff _ _).2 fun k hk => ?_⟩
  obtain ⟨a, b, c, d⟩ := h k hk
  unfold offAt
  simp only [Bool.and_eq_true, Bool.or_eq_true, inB_iff, beq_iff_eq, decide_eq_true_eq]
  refine ⟨⟨⟨by omega, by omega⟩, by omega⟩, ?_⟩
  by_cases h0 : k = 0
  · exact .inl h0
  · exact .inr (d (by omega))
def OffP (w : World) (g B : Nat) (code : List Int) (e : Ending) (w' : World) : Prop :=
  ∃ (A : Option Addr) (c : Nat) (t : Of), e = .returned (.slice A t.length c) ∧ OwnZ w' w.heap.size A t.length c (flat3 t) ∧ t.length ≤ 8 ∧ (∀ k, k < t.length → 1 ≤ pe t k ∧ pe t k ≤ 4) ∧ offB t = true ∧ CurB w' g B code ∧ w.grownBy w' (some g)
set_option maxHeartbeats 2000000 in
theorem l25List_c (g B : Nat) (code : List Int) (w : World) (hC : CurB w g B code) : Calls Try.prog 33 #[.pointer (some ⟨g, 0, none⟩)] w (OffP w g B code) := by
  have hgl := hC.lt
  have hE := OwnZ.empty w
  have hC0 := hC.alloc (.cells #[] 37)
  have hG0 : w.grownBy (w.alloc (.cells #[] 37)) (some g) := World.grownBy_alloc w _ _
  go_enter Try.func33, Try.ntmps33
  go_wp2_with fail
  refine (l01Below_c g B code 9 _ hC0 (by omega) (by omega)).mono ?_
  rintro e w1 ⟨n, rfl, n0, n1, hC1, hg1⟩
  replace hE := hE.cur hg1 hgl
  have hG1 := hG0.trans hg1
  clear hC0 hG0 hg1 hC
  obtain ⟨m, rfl⟩ := Int.eq_ofNat_of_zero_le n0
  go_wp2
  go_loopw [3, 4, 5] (fun s dd i wr => ∃ (j : Nat) (A1 : Option Addr) (c1 : Nat) (t : Of) (day : Int), j ≤ m ∧ i = .int .i64 j ∧ s = .slice A1 t.length c1 ∧ dd = .int .i64 day ∧ t.length + j ≤ 8 ∧ 0 ≤ day ∧ day ≤ 60 * (t.length : Int) ∧ OwnZ wr w.heap.size A1 t.length c1 (flat3 t) ∧ Hid (goodT t day) ∧ CurB wr g B code ∧ w.grownBy wr (some g)) (fun _ _ i _ => (intOf i).toNat)
  case atStart => exact ⟨m, _, _, [], 0, Nat.le_refl _, rfl, rfl, rfl, by simp; omega, Int.le_refl _, by simp, hE, (fun k hk => by simp at hk), hC1, hG1⟩
  case round =>
    clear hE hC1 hG1
    obtain ⟨j, A1, cc, t, day, hj, rfl, rfl, rfl, hlen, d0, d1, hO, hgood, hC, hG⟩ := hrel
    by_cases hlt : 0 < j
    · have hltI : (0 : Int) < (j : Int) := by omega
      go_wp2_with fail
      refine (l01Below_c g B code 60 _ hC (by omega) (by omega)).mono ?_
      rintro e w2 ⟨dx, rfl, dx0, dx1, hC2, hg2⟩
      have hO2 := hO.cur hg2 hgl
      have hG2 := hG.trans hg2
      clear hO hG hC hg2
      go_wp2_with fail
      refine (l01Below_c g B code 4 _ hC2 (by omega) (by omega)).mono ?_
      rintro e w3 ⟨x, rfl, x0, x1, hC3, hg3⟩
      have hO3 := hO2.cur hg3 hgl
      have hG3 := hG2.trans hg3
      clear hO2 hG2 hC2 hg3
      go_wp2_with fail
      refine (l01Below_c g B code 30 _ hC3 (by omega) (by omega)).mono ?_
      rintro e w4 ⟨z, rfl, z0, z1, hC4, hg4⟩
      have hO4 := hO3.cur hg4 hgl
      have hG4 := hG3.trans hg4
      clear hO3 hG3 hC3 hg4
      have hw4 : w.heap.size ≤ w4.heap.size := hG4.size
      have hone : RdI (w4.alloc (.cells #[.int .i64 (1 + x), .int .i64 (day + dx), .int .i64 (1 + z)] 37)) (w4.alloc (.cells #[.int .i64 (1 + x), .int .i64 (day + dx), .int .i64 (1 + z)] 37)).heap.size (some ⟨w4.heap.size, 0, none⟩) (flat3 [(1 + x, day + dx, 1 + z)]) := RdI.of_ints (xs := flat3 [(1 + x, day + dx, 1 + z)]) (Blk.new _ _ _)
      have hOa := hO4.alloc (.cells #[.int .i64 (1 + x), .int .i64 (day + dx), .int .i64 (1 + z)] 37)
      have hCa := hC4.alloc (.cells #[.int .i64 (1 + x), .int .i64 (day + dx), .int .i64 (1 + z)] 37)
      have hGa := Lib.hid (grownBy_al hG4 (.cells #[.int .i64 (1 + x), .int .i64 (day + dx), .int .i64 (1 + z)] 37))
      have hgood' := Lib.hid (goodT_snoc hgood.out (show day ≤ day + dx by omega) (by omega) (show 1 ≤ 1 + x by omega) (by omega) (show 1 ≤ 1 + z by omega) (by omega))
      clear hO4 hG4 hC4
      go_wp2_with (first | (at_builtin; refine wpList_append_z _ rfl (.tmp 17) (.tmp 26) rfl w.heap.size A1 t.length cc (flat3 t) rfl hOa (w4.alloc (.cells #[.int .i64 (1 + x), .int .i64 (day + dx), .int .i64 (1 + z)] 37)).heap.size _ 1 1 (flat3 [(1 + x, day + dx, 1 + z)]) rfl rfl hone (by omega) (by simp; omega) ?_; intro A' c' w5 hOn hgr hat) | fail)
      have hrow := hOa.row_ge2
      go_roundw
      case rel =>
        refine ⟨j - 1, A', c', t ++ [(1 + x, day + dx, 1 + z)], day + dx, by omega, ?_, ?_, rfl, ?_, by omega, ?_, ?_, hgood'.out, hCa.kept hgr (fun k hk => by have := hrow k hk; omega), grownBy_over hGa.out hgr hrow⟩
        · congr 1; omega
        · rw [List.length_append]; rfl
        · rw [List.length_append]; simp; omega
        · rw [List.length_append]; simp; omega
        · rw [List.length_append, flat3_append]; exact hOn
      case measure => simp [intOf]; omega
    · obtain rfl : j = 0 := by omega
      go_wp2
      go_ret
      exact ⟨_, _, t, rfl, hO, by omega, fun k hk => (hgood.out k hk).1, goodT_off hgood.out (by omega) (by omega), hC, hG⟩
def DrawOffP (w : World) (e : Ending) (w' : World) : Prop :=
  ∃ (A : Option Addr) (c : Nat) (t : Of), e = .returned (.slice A t.length c) ∧ OwnZ w' w.heap.size A t.length c (flat3 t) ∧ t.length ≤ 8 ∧ (∀ k, k < t.length → 1 ≤ pe t k ∧ pe t k ≤ 4) ∧ offB t = true ∧ Below w.heap.size w w'
theorem drawOff_c (A : Option Addr) (c : Nat) (code : List Int) (w : World) (hr : RdB w w.heap.size A code) (hl : code.length ≤ 1048576) : Calls Try.prog 25 #[.slice A code.length c] w (DrawOffP w) := by
  go_enter Try.func25, Try.ntmps25
  go_wp2_with fail
  refine (l01New_c _ _ _ _ hr hl).mono ?_
  rintro e w1 ⟨rfl, hC, b⟩
  go_wp2_with fail
  refine (l25List_c _ _ code _ hC).mono ?_
  rintro e w2 ⟨A2, c2, t, rfl, hO, h8, hp, hoff, hC2, hg2⟩
  go_wp2
  go_ret
  exact ⟨A2, c2, t, rfl, hO.more b.size, h8, hp, hoff, below_of_grown b hg2 b.size (Nat.le_refl _)⟩
end Go.Proofs.Ytclbjpknmcjkmaa
