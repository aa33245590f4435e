/- DrawTariff: a valid tariff. -/
import Derived.Test.YtfdeeaeenkjehaaPlain
import Derived.Test.YtfdeeaeenkjehaaOwnS
import Derived.Test.YtfdeeaeenkjehaaDrawB
namespace Go.Proofs.Ytfdeeaeenkjehaa
open Go.ChangeShapes Go.WideShapes Go.ChangeAt Go.RowKit
set_option linter.unusedVariables false

theorem OwnZ.cur {w w' : World} {base g n c : Nat} {A : Option Addr} {xs : List Int} (h : OwnZ w base A n c xs) (hg : w.grownBy w' (some g)) (hlt : g < base) : OwnZ w' base A n c xs :=
  h.kept hg (fun k e hk => by
    injection hk with hk
    rcases h.form with ⟨e0, _⟩ | ⟨g0, e0, hb, _⟩
    · rw [e0] at e; cases e
    · rw [e0] at e; injection e with e; injection e with e; omega)
theorem OwnZ.row_ge2 {w : World} {base : Nat} {A : Option Addr} {n c : Nat} {zs : List Int} (h : OwnZ w base A n c zs) : ∀ k, (Value.slice A n c).ownBlock = some k → base ≤ k := fun k hk => (World.ownsRow.lt h k hk).1
theorem OwnZ.empty (w : World) : OwnZ (w.alloc (.cells #[] 37)) w.heap.size (some ⟨w.heap.size, 0, none⟩) 0 0 [] := OwnZ.of_blk (zs := []) (Nat.le_refl _) rfl (by unfold maxLen; simp) (Blk.new _ _ _)
def goodT (t : Tf) (u p : Int) : Prop := ∀ k, k < t.length → (1 ≤ up t k ∧ up t k ≤ u) ∧ (0 ≤ pr t k ∧ pr t k ≤ p) ∧ (0 < k → up t (k - 1) < up t k ∧ pr t (k - 1) ≤ pr t k)
theorem goodT_snoc {t : Tf} {u p u' q : Int} (h : goodT t u p) (hu : u < u') (u0 : 0 ≤ u) (p0 : 0 ≤ p) (hq : p ≤ q) : goodT (t ++ [(u', p)]) u' q := by
  intro k hk
  have hlt : ∀ j, j < t.length → up (t ++ [(u', p)]) j = up t j ∧ pr (t ++ [(u', p)]) j = pr t j := fun j hj => by
    simp only [up, pr, List.getD, List.getElem?_append_left hj, and_self]
  have hlast : (t ++ [(u', p)])[t.length]? = some (u', p) := by simp
  rw [List.length_append] at hk
  by_cases e : k < t.length
  · obtain ⟨e1, e2⟩ := hlt k e
    obtain ⟨a, b, c⟩ := h k e
    rw [e1, e2]
    refine ⟨⟨a.1, by omega⟩, ⟨b.1, by omega⟩, fun h0 => ?_⟩
    rw [(hlt (k - 1) (by omega)).1, (hlt (k - 1) (by omega)).2]
    exact c h0
  · have hkl : k = t.length := by simp at hk; omega
    subst hkl
    rw [up_at hlast, pr_at hlast]
    refine ⟨⟨by omega, Int.le_refl _⟩, ⟨p0, hq⟩, fun h0 => ?_⟩
    rw [(hlt (t.length - 1) (by omega)).1, (hlt (t.length - 1) (by omega)).2]
    have := h (t.length - 1) (by omega)
    omega
theorem goodT_ok {t : Tf} {u p : Int} (h : goodT t u p) (h1 : 1 ≤ t.length) (hl : t.length ≤ 4) (hu : u ≤ 1000) (hp : p ≤ 100) : tariffB t = true := by
  unfold tariffB
  simp only [Bool.and_eq_true, inB_iff]
  refine ⟨by omega, (allAt_iff _ _).2 fun k hk => ?_⟩
  obtain ⟨a, b, c⟩ := h k hk
  unfold stepAt
  simp only [Bool.and_eq_true, Bool.or_eq_true, inB_iff, beq_iff_eq, decide_eq_true_eq]
  refine ⟨⟨by omega, by omega⟩, ?_⟩
  by_cases h0 : k = 0
  · exact .inl h0
  · exact .inr (c (by omega))
def TarP (w : World) (g B : Nat) (code : List Int) (e : Ending) (w' : World) : Prop :=
  ∃ (A : Option Addr) (c : Nat) (t : Tf), e = .returned (.slice A t.length c) ∧ OwnZ w' w.heap.size A t.length c (flat2 t) ∧ tariffB t = true ∧ CurB w' g B code ∧ w.grownBy w' (some g)
set_option maxHeartbeats 2000000 in
theorem l32Tariff_c (g B : Nat) (code : List Int) (w : World) (hC : CurB w g B code) : Calls Try.prog 31 #[.pointer (some ⟨g, 0, none⟩)] w (TarP w g B code) := by
  have hgl := hC.lt
  have hE := OwnZ.empty w
  have hC0 := hC.alloc (.cells #[] 37)
  have hG0 : w.grownBy (w.alloc (.cells #[] 37)) (some g) := World.grownBy_alloc w _ _
  go_enter Try.func31, Try.ntmps31
  go_wp2_with fail
  refine (l01Below_c g B code 3 _ hC0 (by omega) (by omega)).mono ?_
  rintro e w1 ⟨p0, rfl, p00, p01, hC1, hg1⟩
  replace hE := hE.cur hg1 hgl
  have hG1 := hG0.trans hg1
  clear hC0 hG0 hg1 hC
  go_wp2_with fail
  refine (l01Below_c g B code 4 _ hC1 (by omega) (by omega)).mono ?_
  rintro e w2 ⟨n, rfl, n0, n1, hC2, hg2⟩
  replace hE := hE.cur hg2 hgl
  have hG2 := hG1.trans hg2
  clear hC1 hG1 hg2
  obtain ⟨m, rfl⟩ := Int.eq_ofNat_of_zero_le n0
  go_wp2
  go_loopw [3, 4, 5, 7] (fun s uu pp i wr => ∃ (k : Nat) (A1 : Option Addr) (c1 : Nat) (t : Tf) (u p : Int), k ≤ m + 1 ∧ i = .int .i64 k ∧ s = .slice A1 t.length c1 ∧ uu = .int .i64 u ∧ pp = .int .i64 p ∧ Hid (t.length = k) ∧ t.length ≤ 4 ∧ 0 ≤ u ∧ u ≤ 60 * (t.length : Int) ∧ 0 ≤ p ∧ p ≤ 2 + 5 * (t.length : Int) ∧ OwnZ wr w.heap.size A1 t.length c1 (flat2 t) ∧ Hid (goodT t u p) ∧ CurB wr g B code ∧ w.grownBy wr (some g)) (fun _ _ _ i _ => m + 1 - (intOf i).toNat)
  case atStart => exact ⟨0, _, _, [], 0, p0, Nat.zero_le _, rfl, rfl, rfl, rfl, rfl, Nat.zero_le _, Int.le_refl _, by simp, p00, by simp; omega, hE, (fun k hk => by simp at hk), hC2, hG2⟩
  case round =>
    clear hE hC2 hG2
    obtain ⟨k, A1, cc, t, u, p, hk, rfl, rfl, rfl, rfl, hlen, hl4, u0, u1, q0, q1, hO, hgood, hC, hG⟩ := hrel
    by_cases hlt : k < m + 1
    · have hlk : t.length < 4 := by have := hlen.out; omega
      go_wp2_with fail
      refine (l01Below_c g B code 60 _ hC (by omega) (by omega)).mono ?_
      rintro e w3 ⟨du, rfl, du0, du1, hC3, hg3⟩
      have hO3 := hO.cur hg3 hgl
      have hG3 := hG.trans hg3
      clear hO hG hC hg3
      have hw3 : w.heap.size ≤ w3.heap.size := hG3.size
      have hone : RdI (w3.alloc (.cells #[.int .i64 (u + 1 + du), .int .i64 p] 37)) (w3.alloc (.cells #[.int .i64 (u + 1 + du), .int .i64 p] 37)).heap.size (some ⟨w3.heap.size, 0, none⟩) (flat2 [(u + 1 + du, p)]) := RdI.of_ints (xs := flat2 [(u + 1 + du, p)]) (Blk.new _ _ _)
      have hOa := hO3.alloc (.cells #[.int .i64 (u + 1 + du), .int .i64 p] 37)
      have hCa := hC3.alloc (.cells #[.int .i64 (u + 1 + du), .int .i64 p] 37)
      have hGa := Lib.hid (grownBy_al hG3 (.cells #[.int .i64 (u + 1 + du), .int .i64 p] 37))
      have hrow := Lib.hid hOa.row_ge2
      have hl2 := Lib.hid (show t.length + 1 = k + 1 by have := hlen.out; omega)
      clear hO3 hG3 hC3
      go_wp2_with (first | (at_builtin; refine wpList_append_z _ rfl (.tmp 24) (.tmp 28) rfl w.heap.size A1 t.length cc (flat2 t) rfl hOa (w3.alloc (.cells #[.int .i64 (u + 1 + du), .int .i64 p] 37)).heap.size _ 1 1 (flat2 [(u + 1 + du, p)]) rfl rfl hone (by omega) (by simp; omega) ?_; intro A' c' w5 hOn hgr hat) | fail)
      have hC5 := hCa.kept hgr (fun k hk => by have := hrow.out k hk; omega)
      have hG5 := grownBy_over hGa.out hgr hrow.out
      refine (l01Below_c g B code 6 _ hC5 (by omega) (by omega)).mono ?_
      rintro e w6 ⟨dp, rfl, dp0, dp1, hC6, hg6⟩
      have hO6 := hOn.cur hg6 hgl
      have hgood' := Lib.hid (goodT_snoc hgood.out (show u < u + 1 + du by omega) u0 q0 (show p ≤ p + dp by omega))
      go_wp2
      go_roundw
      case rel =>
        refine ⟨k + 1, A', c', t ++ [(u + 1 + du, p)], u + 1 + du, p + dp, by omega, by go_num, ?_, rfl, rfl, ?_, ?_, by omega, ?_, by omega, ?_, ?_, hgood'.out, hC6, hG5.trans hg6⟩
        · rw [List.length_append]; rfl
        · show (t ++ [(u + 1 + du, p)]).length = k + 1; rw [List.length_append]; exact hl2.out
        · rw [List.length_append]; simp; omega
        · rw [List.length_append]; simp; omega
        · rw [List.length_append]; simp; omega
        · rw [List.length_append, flat2_append]; exact hO6
      case measure => simp [intOf]; omega
    · have hlk := Lib.hid (show t.length = m + 1 by have := hlen.out; omega)
      go_wp2
      go_ret
      exact ⟨_, _, t, rfl, hO, goodT_ok hgood.out (by have := hlk.out; omega) hl4 (by omega) (by omega), hC, hG⟩
def DrawTarP (w : World) (e : Ending) (w' : World) : Prop :=
  ∃ (A : Option Addr) (c : Nat) (t : Tf), e = .returned (.slice A t.length c) ∧ OwnZ w' w.heap.size A t.length c (flat2 t) ∧ tariffB t = true ∧ Below w.heap.size w w'
theorem drawTar_c (A : Option Addr) (c : Nat) (code : List Int) (w : World) (hr : RdB w w.heap.size A code) (hl : code.length ≤ 1048576) : Calls Try.prog 23 #[.slice A code.length c] w (DrawTarP w) := by
  go_enter Try.func23, Try.ntmps23
  go_wp2_with fail
  refine (l01New_c _ _ _ _ hr hl).mono ?_
  rintro e w1 ⟨rfl, hC, b⟩
  go_wp2_with fail
  refine (l32Tariff_c _ _ code _ hC).mono ?_
  rintro e w2 ⟨A2, c2, t, rfl, hO, ht, hC2, hg2⟩
  go_wp2
  go_ret
  exact ⟨A2, c2, t, rfl, hO.more b.size, ht, below_of_grown b hg2 b.size (Nat.le_refl _)⟩
end Go.Proofs.Ytfdeeaeenkjehaa
