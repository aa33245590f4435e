/- LitersFor, both. -/
import Derived.Test.YtfdeeaeenkjehaaNext
namespace Go.Proofs.Ytfdeeaeenkjehaa
open Go.ChangeShapes Go.WideShapes Go.ChangeAt Go.RowKit
set_option linter.unusedVariables false

theorem costZ_in {t : Tf} (ht : tariffB t = true) {l : Int} (h0 : 0 ≤ l) (h1 : l ≤ topF t) : costZ t l = costP t l t.length := cost_yes ht ((inB_iff _ _ _).2 ⟨h0, h1⟩)
theorem costZ_mono {t : Tf} (ht : tariffB t = true) {l k : Int} (h0 : 0 ≤ l) (h : l ≤ k) (h1 : k ≤ topF t) : costZ t l ≤ costZ t k := by
  rw [costZ_in ht h0 (by omega), costZ_in ht (by omega) h1]
  exact costP_mono ht h _ (Nat.le_refl _)
theorem costZ_zero {t : Tf} (ht : tariffB t = true) : costZ t 0 = 0 := by
  have := (top_b ht).1
  rw [costZ_in ht (Int.le_refl _) (by omega)]
  exact costP_zero ht _ (Nat.le_refl _)
theorem lit_no {t : Tf} {m : Int} (h : tariffB t = false ∨ m < 0) : litZ t m = -1 := by
  unfold litZ
  rcases h with h | h
  · rw [h]; rfl
  · rw [decide_eq_false (by omega), Bool.and_false]; rfl
/-- The most liters: it is known by its marks. -/
theorem lit_is {t : Tf} {m n : Int} (ht : tariffB t = true) (hm : 0 ≤ m) (n0 : 0 ≤ n) (n1 : n ≤ topF t) (h1 : costZ t n ≤ m) (h2 : n = topF t ∨ m < costZ t (n + 1)) : litZ t m = n := by
  unfold litZ
  rw [ht, decide_eq_true hm]
  have htop := (top_b ht).1
  have e : litN (fun l => costP t l t.length) m (topF t).toNat = n.toNat := by
    refine litN_is (by omega) (fun j hj1 hj2 => ?_) (.inr ?_)
    · rcases h2 with h2 | h2
      · omega
      · have h3 := costZ_mono ht (l := n + 1) (k := (j : Int)) (by omega) (by omega) (by omega)
        rw [costZ_in ht (l := (j : Int)) (by omega) (by omega)] at h3
        show m < costP t (j : Int) t.length
        omega
    · have e2 : ((n.toNat : Nat) : Int) = n := by omega
      show costP t (n.toNat : Int) t.length ≤ m
      rw [e2, ← costZ_in ht n0 n1]
      exact h1
  rw [e]
  show ((n.toNat : Nat) : Int) = n
  omega

set_option maxHeartbeats 1000000 in
theorem sLit_c (A : Option Addr) (c : Nat) (t : Tf) (m : Int) (w : World) (hr : RdI w w.heap.size A (flat2 t)) (hl : t.length ≤ 1048576) :
    Calls Try.prog 20 #[.slice A t.length c, .int .i64 m] w fun e w' => e = .returned (.int .i64 (litZ t m)) ∧ Below w.heap.size w w' := by
  cases ht : tariffB t
  · rw [lit_no (.inl ht)]
    go_enter Try.func20, Try.ntmps20
    go_wp2_with fail
    refine (sTariffOk_c _ _ _ _ hr hl).mono ?_
    rintro e w1 ⟨rfl, b⟩
    go_wp2
    go_ret
    exact ⟨rfl, b⟩
  · by_cases hm : m < 0
    · rw [lit_no (.inr hm)]
      go_enter Try.func20, Try.ntmps20
      go_wp2_with fail
      refine (sTariffOk_c _ _ _ _ hr hl).mono ?_
      rintro e w1 ⟨rfl, b⟩
      go_wp2
      go_ret
      exact ⟨rfl, b⟩
    · have hl1 := (tariff_b t ht).1
      have hl2 := (tariff_b t ht).2.1
      obtain ⟨htop0, htop1⟩ := top_b ht
      have ht' := Lib.hid ht
      go_enter Try.func20, Try.ntmps20
      go_wp2_with fail
      refine (sTariffOk_c _ _ _ _ hr hl).mono ?_
      rintro e w1 ⟨rfl, H⟩
      obtain ⟨g, off, rfl, hg, hc⟩ := (hr.below H (Nat.le_refl _)).lastC hl1
      go_wp2
      clear hc ht
      go_loopw [5, 6] (fun lo hi wr => ∃ a b : Int, lo = .int .i64 a ∧ hi = .int .i64 b ∧ 0 ≤ a ∧ a ≤ b ∧ b ≤ topF t ∧ Hid (costZ t a ≤ m) ∧ Hid (b = topF t ∨ m < costZ t (b + 1)) ∧ Below w.heap.size w wr) (fun lo hi _ => (intOf hi - intOf lo).toNat)
      case atStart => exact ⟨0, topF t, rfl, rfl, Int.le_refl _, by omega, Int.le_refl _, by show costZ t 0 ≤ m; rw [costZ_zero ht'.out]; omega, .inl rfl, H⟩
      case round =>
        clear H
        obtain ⟨x, y, rfl, rfl, x0, xy, y1, hx, hy, H⟩ := hrel
        by_cases hlt : x < y
        · obtain ⟨q0, q1, -⟩ := costZ_b t ((x + y + 1) / 2)
          by_cases hc : costZ t ((x + y + 1) / 2) ≤ m
          · have hc' := Lib.hid hc
            go_wp2_with fail
            refine (sCostOf_c _ _ _ _ _ (hr.at_world H) hl).mono ?_
            rintro e wn ⟨rfl, b⟩
            replace H := chain H b (Nat.le_refl _)
            clear b
            go_wp2
            go_roundw
            case rel => exact ⟨(x + y + 1) / 2, y, rfl, rfl, by omega, by omega, y1, hc'.out, hy, H⟩
            case measure => simp [intOf]; omega
          · have hc' := Lib.hid (show m < costZ t ((x + y + 1) / 2 - 1 + 1) by rw [Int.sub_add_cancel]; omega)
            go_wp2_with fail
            refine (sCostOf_c _ _ _ _ _ (hr.at_world H) hl).mono ?_
            rintro e wn ⟨rfl, b⟩
            replace H := chain H b (Nat.le_refl _)
            clear b
            go_wp2
            go_roundw
            case rel => exact ⟨x, (x + y + 1) / 2 - 1, rfl, rfl, x0, by omega, by omega, hx, .inr hc'.out, H⟩
            case measure => simp [intOf]; omega
        · obtain rfl : x = y := by omega
          have hlit := Lib.hid (lit_is ht'.out (by omega) x0 y1 hx.out hy.out)
          go_wp2
          go_ret
          exact ⟨by rw [hlit.out]; rfl, H⟩

/-- The program's closure. -/
theorem lit1_c (A : Option Addr) (c : Nat) (t : Tf) (m n : Int) (gt gm : Nat) (w : World) (hr : RdI w w.heap.size A (flat2 t)) (hl : t.length ≤ 1048576) (P : Blk w gt 25 #[.slice A t.length c]) (M : Blk w gm 3 #[.int .i64 m]) :
    Calls Try.prog 30 #[.int .i64 n, .pointer (some ⟨gt, 0, none⟩), .pointer (some ⟨gm, 0, none⟩)] w fun e w' => e = .returned (.bool (decide (m < costZ t n))) ∧ Below w.heap.size w w' := by
  obtain ⟨p0, -, pL⟩ := P.one
  obtain ⟨m0, -, mL⟩ := M.one
  have H0 := Below.refl w.heap.size w
  go_enter Try.func30, Try.ntmps30
  go_wp2
  go_region_held3 (fun w' => w'.cell? ⟨gt, 0, none⟩ = some (.slice A t.length c) ∧ w'.cell? ⟨gm, 0, none⟩ = some (.int .i64 m) ∧ Below w.heap.size w w')
    ((go_split_ands; refine ⟨?_, ?_, ?_⟩ <;> first | assumption | exact cell_next b (by assumption) | exact chain (by assumption) b (Nat.le_refl _) | exact Below.drew (by assumption)))
    (first | (go_at_call 15; refine (iCostOf_c _ _ _ _ _ (hr.at_world ?_) hl).mono ?_; (go_split_ands; assumption); rintro e w2 ⟨rfl, b⟩))
  go_wp2
  go_ret
  rename_i hh
  exact ⟨rfl, hh.2.2⟩

/-- The least number that is enough, of those that were asked for. -/
def LeastR (p : Int → Bool) (h0 : Int) (w : World) (e : Ending) (w' : World) : Prop := ∃ r : Int, 0 ≤ r ∧ r ≤ h0 + 1 ∧ (∀ j, 0 ≤ j → j < r → p j = false) ∧ (r = h0 + 1 ∨ p r = true) ∧ e = .returned (.int .i64 r) ∧ Below w.heap.size w w'
set_option maxHeartbeats 1000000 in
theorem least_c (A : Option Addr) (c : Nat) (t : Tf) (m h0 : Int) (gt gm : Nat) (w : World) (hr : RdI w w.heap.size A (flat2 t)) (hl : t.length ≤ 1048576) (P : Blk w gt 25 #[.slice A t.length c]) (M : Blk w gm 3 #[.int .i64 m])
    (hh0 : 0 ≤ h0) (hh1 : h0 ≤ 100000) (hmono : ∀ j k : Int, 0 ≤ j → j ≤ k → k ≤ h0 → costZ t j ≤ costZ t k) :
    Calls Try.prog 29 #[.int .i64 0, .int .i64 h0, .func (.func 30) #[] #[.pointer (some ⟨gt, 0, none⟩), .pointer (some ⟨gm, 0, none⟩)]] w (LeastR (fun j => decide (m < costZ t j)) h0 w) := by
  have hmono' := Lib.hid hmono
  clear hmono
  go_enter Try.func29, Try.ntmps29
  go_wp2
  go_loopw [0, 1] (fun lo hi wr => ∃ a b : Int, lo = .int .i64 a ∧ hi = .int .i64 b ∧ 0 ≤ a ∧ a ≤ b ∧ b ≤ h0 + 1 ∧ Hid (∀ j, 0 ≤ j → j < a → decide (m < costZ t j) = false) ∧ Hid (b = h0 + 1 ∨ decide (m < costZ t b) = true) ∧ Below w.heap.size w wr) (fun lo hi _ => (intOf hi - intOf lo).toNat)
  case atStart => exact ⟨0, h0 + 1, rfl, rfl, Int.le_refl _, by omega, Int.le_refl _, fun j _ _ => by omega, .inl rfl, Below.refl _ _⟩
  case round =>
    obtain ⟨x, y, rfl, rfl, x0, xy, y1, hx, hy, H⟩ := hrel
    by_cases hlt : x < y
    · cases hc : decide (m < costZ t ((x + y) / 2))
      · have hx' : Hid (∀ j, 0 ≤ j → j < (x + y) / 2 + 1 → decide (m < costZ t j) = false) := fun j j0 j1 => by
          have h1 := hmono'.out j ((x + y) / 2) j0 (by omega) (by omega)
          have h2 : ¬ m < costZ t ((x + y) / 2) := of_decide_eq_false hc
          exact decide_eq_false (by omega)
        go_wp2_with fail
        refine (lit1_c _ _ _ _ _ _ _ _ (hr.at_world H) hl (P.below H P.lt) (M.below H M.lt)).mono ?_
        rintro e wn ⟨rfl, b⟩
        replace H := chain H b (Nat.le_refl _)
        clear b
        go_wp2
        go_roundw
        case rel => exact ⟨(x + y) / 2 + 1, y, rfl, rfl, by omega, by omega, y1, hx', hy, H⟩
        case measure => simp [intOf]; omega
      · have hc' := Lib.hid hc
        go_wp2_with fail
        refine (lit1_c _ _ _ _ _ _ _ _ (hr.at_world H) hl (P.below H P.lt) (M.below H M.lt)).mono ?_
        rintro e wn ⟨rfl, b⟩
        replace H := chain H b (Nat.le_refl _)
        clear b
        go_wp2
        go_roundw
        case rel => exact ⟨x, (x + y) / 2, rfl, rfl, x0, by omega, by omega, hx, .inr hc'.out, H⟩
        case measure => simp [intOf]; omega
    · obtain rfl : x = y := by omega
      go_wp2
      go_ret
      exact ⟨x, x0, y1, hx.out, hy.out, rfl, H⟩

set_option maxHeartbeats 1000000 in
theorem iLit_c (A : Option Addr) (c : Nat) (t : Tf) (m : Int) (w : World) (hr : RdI w w.heap.size A (flat2 t)) (hl : t.length ≤ 1048576) :
    Calls Try.prog 21 #[.slice A t.length c, .int .i64 m] w fun e w' => e = .returned (.int .i64 (litZ t m)) ∧ Below w.heap.size w w' := by
  have P := (Blk.new w 25 #[.slice A t.length c]).alloc (.cells #[.int .i64 m] 3)
  have M := Blk.new (w.alloc (.cells #[.slice A t.length c] 25)) 3 #[.int .i64 m]
  simp only [World.size_alloc] at M
  have H : Below w.heap.size w ((w.alloc (.cells #[.slice A t.length c] 25)).alloc (.cells #[.int .i64 m] 3)) := (((Below.refl w.heap.size w).alloc (by first | exact Nat.le_refl _ | (simp only [World.size_alloc]; omega)) (.cells #[.slice A t.length c] 25)).alloc (by first | exact Nat.le_refl _ | (simp only [World.size_alloc]; omega)) (.cells #[.int .i64 m] 3))
  obtain ⟨p0, -, pL⟩ := P.one
  obtain ⟨m0, -, mL⟩ := M.one
  cases ht : tariffB t
  · rw [lit_no (.inl ht)]
    go_enter Try.func21, Try.ntmps21
    go_wp2_with fail
    refine (iTariffOk_c _ _ _ _ (hr.at_world H) hl).mono ?_
    rintro e w1 ⟨rfl, b⟩
    replace P := P.next b
    replace M := M.next b
    replace H := chain H b (Nat.le_refl _)
    clear b
    try clear p0 pL
    obtain ⟨p0, -, pL⟩ := P.one
    try clear m0 mL
    obtain ⟨m0, -, mL⟩ := M.one
    go_wp2
    go_ret
    exact ⟨rfl, H⟩
  · by_cases hm : m < 0
    · rw [lit_no (.inr hm)]
      go_enter Try.func21, Try.ntmps21
      go_wp2_with fail
      refine (iTariffOk_c _ _ _ _ (hr.at_world H) hl).mono ?_
      rintro e w1 ⟨rfl, b⟩
      replace P := P.next b
      replace M := M.next b
      replace H := chain H b (Nat.le_refl _)
      clear b
      try clear p0 pL
      obtain ⟨p0, -, pL⟩ := P.one
      try clear m0 mL
      obtain ⟨m0, -, mL⟩ := M.one
      go_wp2
      go_ret
      exact ⟨rfl, H⟩
    · have hl1 := (tariff_b t ht).1
      have hl2 := (tariff_b t ht).2.1
      obtain ⟨htop0, htop1⟩ := top_b ht
      have ht' := Lib.hid ht
      go_enter Try.func21, Try.ntmps21
      go_wp2_with fail
      refine (iTariffOk_c _ _ _ _ (hr.at_world H) hl).mono ?_
      rintro e w1 ⟨rfl, b⟩
      replace P := P.next b
      replace M := M.next b
      replace H := chain H b (Nat.le_refl _)
      clear b
      try clear p0 pL
      obtain ⟨p0, -, pL⟩ := P.one
      try clear m0 mL
      obtain ⟨m0, -, mL⟩ := M.one
      obtain ⟨g, off, rfl, hg, hc⟩ := (hr.below H (Nat.le_refl _)).lastC hl1
      go_wp2_with fail
      refine (least_c _ _ t m _ _ _ _ (hr.at_world H) hl P M (by omega) htop1 (fun j k j0 jk k1 => costZ_mono ht'.out j0 jk k1)).mono ?_
      rintro e wn ⟨r, r0, r1, hx, hy, rfl, b⟩
      replace H := chain H b (Nat.le_refl _)
      clear b
      have hr1 : 1 ≤ r := by
        rcases Int.lt_or_le r 1 with h | h
        · obtain rfl : r = 0 := by omega
          rcases hy with h | h
          · omega
          · have h3 : m < costZ t 0 := of_decide_eq_true h
            rw [costZ_zero ht'.out] at h3
            omega
        · exact h
      have hlit := Lib.hid (show litZ t m = r - 1 by
        refine lit_is ht'.out (by omega) (by omega) (by omega) ?_ ?_
        · have := of_decide_eq_false (hx (r - 1) (by omega) (by omega))
          omega
        · rcases hy with h | h
          · exact .inl (by omega)
          · have := of_decide_eq_true h
            rw [Int.sub_add_cancel]
            exact .inr this)
      clear hx hy
      go_wp2
      go_ret
      exact ⟨by rw [hlit.out]; rfl, H⟩
end Go.Proofs.Ytfdeeaeenkjehaa
