/- FinesOf and IsFirst, both. -/
import Derived.Test.YtclbjpknmcjkmaaFine
namespace Go.Proofs.Ytclbjpknmcjkmaa
open Go.ChangeShapes Go.WideShapes Go.ChangeAt Go.RowKit
set_option linter.unusedVariables false

theorem fines_no {t : Of} {p : Int} (h : offB t = false) : finesZ t p = -1 := by unfold finesZ; rw [h]; rfl
theorem fines_yes {t : Of} {p : Int} (h : offB t = true) : finesZ t p = finesP t p t.length := by unfold finesZ; rw [h]; rfl
theorem fines_hit {t : Of} {p : Int} {k : Nat} {x y z : Int} (h : t[k]? = some (x, y, z)) (hx : (x == p) = true) : finesP t p (k + 1) = finesP t p k + fineF t k := by
  rw [finesP_succ, pe_at h, if_pos hx]
theorem fines_miss {t : Of} {p : Int} {k : Nat} {x y z : Int} (h : t[k]? = some (x, y, z)) (hx : (x == p) = false) : finesP t p (k + 1) = finesP t p k := by
  rw [finesP_succ, pe_at h, if_neg (by rw [hx]; simp), Int.add_zero]

set_option maxHeartbeats 2000000 in
theorem sFines_c (A : Option Addr) (c : Nat) (t : Of) (p : Int) (w : World) (hr : RdI w w.heap.size A (flat3 t)) (hl : t.length ≤ 1048576)  :
    Calls Try.prog 16 #[.slice A t.length c, .int .i64 p] w fun e w' => e = .returned (.int .i64 (finesZ t p)) ∧ Below w.heap.size w w' := by
  cases ht : offB t
  · rw [fines_no ht]
    go_enter Try.func16, Try.ntmps16
    go_wp2_with fail
    refine (sOk_c _ _ _ _ hr hl).mono ?_
    rintro e w1 ⟨rfl, b⟩
    go_wp2
    go_ret
    exact ⟨rfl, b⟩
  · have h40 := (off_b t ht).1
    rw [fines_yes ht]
    have hf' := Lib.hid (fun k (hk : k < t.length) => fineZ_at ht hk)
    have hb' := Lib.hid (fun k (hk : k ≤ t.length) => finesP_b ht p k hk)
    have hF' := Lib.hid (fun k (hk : k < t.length) => fineF_b ht hk)
    go_enter Try.func16, Try.ntmps16
    go_wp2_with fail
    refine (sOk_c _ _ _ _ hr hl).mono ?_
    rintro e w1 ⟨rfl, b⟩
    go_wp2
    clear ht
    go_loopw [5, 6] (fun s i wr => ∃ k : Nat, k ≤ t.length ∧ i = .int .i64 k ∧ s = .int .i64 (finesP t p k) ∧ Below w.heap.size w wr) (fun _ i _ => t.length - (intOf i).toNat)
    case atStart => exact ⟨0, Nat.zero_le _, rfl, rfl, b⟩
    case round =>
      clear b
      obtain ⟨k, hk, rfl, rfl, H⟩ := hrel
      by_cases hlt : k < t.length
      · obtain ⟨g, off, x, y, z, rfl, hg, hc0, hc1, hc2, hx⟩ := (hr.below H (Nat.le_refl _)).at3 hlt
        have hgw : g < wr.heap.size := Nat.lt_of_lt_of_le hg H.size
        have hb := hb'.out k hk
        have hF := hF'.out k hlt
        have hz := Lib.hid (hf'.out k hlt)
        cases hxp : x == p
        · have hs := Lib.hid (fines_miss (p := p) hx.out hxp)
          generalize finesP t p k = S at *
          go_wp2
          go_roundw
          case rel => exact ⟨k + 1, by omega, by go_num, by rw [hs.out], H⟩
          case measure => simp [intOf]; omega
        · have hs := Lib.hid (fines_hit (p := p) hx.out hxp)
          generalize finesP t p k = S at *
          generalize fineF t k = F at *
          go_wp2_with fail
          refine (sFineOf_c _ _ _ _ _ (hr.at_world (H)) hl ).mono ?_
          rw [hz.out]
          rintro e wn ⟨rfl, b⟩
          replace H := chain (H) b (Nat.le_refl _)
          clear b hc0 hc1 hc2
          go_wp2
          go_roundw
          case rel => exact ⟨k + 1, by omega, by go_num, by rw [hs.out], H⟩
          case measure => simp [intOf]; omega
      · obtain rfl : k = t.length := by omega
        go_wp2
        go_ret
        exact ⟨rfl, H⟩
set_option maxHeartbeats 2000000 in
theorem iFines_c (A : Option Addr) (c : Nat) (t : Of) (p : Int) (w : World) (hr : RdI w w.heap.size A (flat3 t)) (hl : t.length ≤ 1048576) (hc : t.length ≤ c) (hc' : c ≤ maxLen) :
    Calls Try.prog 17 #[.slice A t.length c, .int .i64 p] w fun e w' => e = .returned (.int .i64 (finesZ t p)) ∧ Below w.heap.size w w' := by
  cases ht : offB t
  · rw [fines_no ht]
    go_enter Try.func17, Try.ntmps17
    go_wp2_with fail
    refine (iOk_c _ _ _ _ hr hl).mono ?_
    rintro e w1 ⟨rfl, b⟩
    go_wp2
    go_ret
    exact ⟨rfl, b⟩
  · have h40 := (off_b t ht).1
    rw [fines_yes ht]
    have hf' := Lib.hid (fun k (hk : k < t.length) => fineZ_at ht hk)
    have hb' := Lib.hid (fun k (hk : k ≤ t.length) => finesP_b ht p k hk)
    have hF' := Lib.hid (fun k (hk : k < t.length) => fineF_b ht hk)
    go_enter Try.func17, Try.ntmps17
    go_wp2_with fail
    refine (iOk_c _ _ _ _ hr hl).mono ?_
    rintro e w1 ⟨rfl, b⟩
    go_wp2
    clear ht
    go_loopw [5, 13] (fun s i wr => ∃ k : Nat, k ≤ t.length ∧ i = .int .i64 k ∧ s = .int .i64 (finesP t p k) ∧ Below w.heap.size w wr) (fun _ i _ => t.length - (intOf i).toNat)
    case atStart => exact ⟨0, Nat.zero_le _, rfl, rfl, b⟩
    case round =>
      clear b
      obtain ⟨k, hk, rfl, rfl, H⟩ := hrel
      by_cases hlt : k < t.length
      · obtain ⟨g, off, x, y, z, rfl, hg, hc0, hc1, hc2, hx⟩ := (hr.below H (Nat.le_refl _)).at3 hlt
        have hgw : g < wr.heap.size := Nat.lt_of_lt_of_le hg H.size
        have hb := hb'.out k hk
        have hF := hF'.out k hlt
        have hz := Lib.hid (hf'.out k hlt)
        cases hxp : x == p
        · have hs := Lib.hid (fines_miss (p := p) hx.out hxp)
          generalize finesP t p k = S at *
          go_wp2
          go_roundw
          case rel => exact ⟨k + 1, by omega, by go_num, by rw [hs.out], H.alloc H.size _⟩
          case measure => simp [intOf]; omega
        · have hs := Lib.hid (fines_hit (p := p) hx.out hxp)
          generalize finesP t p k = S at *
          generalize fineF t k = F at *
          go_wp2_with fail
          refine (iFineOf_c _ _ _ _ _ (hr.at_world (H.alloc H.size _)) hl hc hc').mono ?_
          rw [hz.out]
          rintro e wn ⟨rfl, b⟩
          replace H := chain (H.alloc H.size _) b (Nat.le_refl _)
          clear b hc0 hc1 hc2
          go_wp2
          go_roundw
          case rel => exact ⟨k + 1, by omega, by go_num, by rw [hs.out], H⟩
          case measure => simp [intOf]; omega
      · obtain rfl : k = t.length := by omega
        go_wp2
        go_ret
        exact ⟨rfl, H⟩

theorem first_no {t : Of} {k : Int} (h : offB t = false ∨ inB k 0 (t.length - 1) = false) : firstZ t k = false := by
  unfold firstZ
  rcases h with h | h <;> simp [h]
theorem first_yes {t : Of} {n : Nat} (h : offB t = true) (h2 : inB (n : Int) 0 (t.length - 1) = true) : firstZ t n = allAt (firstAt t n) n := by
  unfold firstZ
  rw [h, h2]
  rfl
theorem first_eq {t : Of} {n i : Nat} {X Y Z x y z : Int} (hX : t[n]? = some (X, Y, Z)) (hx : t[i]? = some (x, y, z)) : firstAt t n i = !(x == X) := by
  unfold firstAt
  rw [pe_at hX, pe_at hx]
set_option maxHeartbeats 2000000 in
theorem sFirst_c (A : Option Addr) (c : Nat) (t : Of) (k : Int) (w : World) (hr : RdI w w.heap.size A (flat3 t)) (hl : t.length ≤ 1048576)  :
    Calls Try.prog 10 #[.slice A t.length c, .int .i64 k] w fun e w' => e = .returned (.bool (firstZ t k)) ∧ Below w.heap.size w w' := by
  skip
  cases ht : offB t
  · rw [first_no (.inl ht)]
    go_enter Try.func10, Try.ntmps10
    go_wp2_with fail
    refine (sOk_c _ _ _ _ hr hl).mono ?_
    rintro e w1 ⟨rfl, b⟩
    go_wp2
    go_ret
    exact ⟨rfl, b⟩
  · have h40 := (off_b t ht).1
    cases hin : inB k 0 (t.length - 1)
    · rw [first_no (.inr hin)]
      go_enter Try.func10, Try.ntmps10
      go_wp2_with fail
      refine (sOk_c _ _ _ _ hr hl).mono ?_
      rintro e w1 ⟨rfl, b⟩
      go_wp2_with fail
      refine (l01In_c _ _ _ _).mono ?_
      rintro e w' ⟨rfl, rfl⟩
      go_wp2
      go_ret
      exact ⟨rfl, b⟩
    · obtain ⟨k0, k1⟩ := (inB_iff _ _ _).1 hin
      obtain ⟨n, rfl⟩ := Int.eq_ofNat_of_zero_le k0
      have hn : n < t.length := by omega
      have hf := Lib.hid (first_yes ht hin)
      obtain ⟨g, off, X, Y, Z, rfl, hg, -, -, -, hX⟩ := hr.at3 hn
      skip
      go_enter Try.func10, Try.ntmps10
      go_wp2_with fail
      refine (sOk_c _ _ _ _ hr hl).mono ?_
      rintro e w1 ⟨rfl, b⟩
      go_wp2_with fail
      refine (l01In_c _ _ _ _).mono ?_
      rintro e w' ⟨rfl, rfl⟩
      go_wp2
      clear hin ht
      go_loopw [5] (fun i wr => ∃ j : Nat, j ≤ n ∧ i = .int .i64 j ∧ Below w.heap.size w wr ∧ Hid (AllTo (firstAt t n) j)) (fun i _ => n - (intOf i).toNat)
      case atStart => exact ⟨0, Nat.zero_le _, rfl, b, AllTo.zero _⟩
      case round =>
        clear b
        obtain ⟨i, hi, rfl, H, hall⟩ := hrel
        by_cases hlt : i < n
        · obtain ⟨X', Y', Z', -, hC0, hC1, hC2, hX'⟩ := (hr.below H (Nat.le_refl _)).at3C hn
          obtain ⟨rfl, rfl, rfl⟩ : X = X' ∧ Y = Y' ∧ Z = Z' := by have := hX.out.symm.trans hX'.out; simpa using this
          obtain ⟨x, y, z, -, hc0, hc1, hc2, hx⟩ := (hr.below H (Nat.le_refl _)).at3C (show i < t.length by omega)
          have hgw : g < wr.heap.size := Nat.lt_of_lt_of_le hg H.size
          have hil : i < t.length := by omega
          have hq := Lib.hid (first_eq hX.out hx.out)
          cases hxx : x == X
          · have hgood := Lib.hid (show firstAt t n i = true by rw [hq.out, hxx]; rfl)
            go_wp2
            go_quiet (fail)
            go_wp2
            go_roundw
            case rel => exact ⟨i + 1, by omega, by go_num, below_drewN (H) _, hall.out.succ hgood.out⟩
            case measure => simp [intOf]; omega
          · have hbad := Lib.hid (show firstAt t n i = false by rw [hq.out, hxx]; rfl)
            go_wp2
            go_quiet (fail)
            go_wp2
            go_ret
            exact ⟨by rw [hf.out, allAt_not hlt hbad.out]; rfl, below_drewN (H) _⟩
        · go_wp2
          go_ret
          exact ⟨by rw [hf.out, hall.out.all hi hlt]; rfl, H⟩
set_option maxHeartbeats 2000000 in
theorem iFirst_c (A : Option Addr) (c : Nat) (t : Of) (k : Int) (w : World) (hr : RdI w w.heap.size A (flat3 t)) (hl : t.length ≤ 1048576) (hc : t.length ≤ c) (hc' : c ≤ maxLen) :
    Calls Try.prog 12 #[.slice A t.length c, .int .i64 k] w fun e w' => e = .returned (.bool (firstZ t k)) ∧ Below w.heap.size w w' := by
  unfold maxLen at hc'
  cases ht : offB t
  · rw [first_no (.inl ht)]
    go_enter Try.func12, Try.ntmps12
    go_wp2_with fail
    refine (iOk_c _ _ _ _ hr hl).mono ?_
    rintro e w1 ⟨rfl, b⟩
    go_wp2
    go_ret
    exact ⟨rfl, b⟩
  · have h40 := (off_b t ht).1
    cases hin : inB k 0 (t.length - 1)
    · rw [first_no (.inr hin)]
      go_enter Try.func12, Try.ntmps12
      go_wp2_with fail
      refine (iOk_c _ _ _ _ hr hl).mono ?_
      rintro e w1 ⟨rfl, b⟩
      go_wp2_with fail
      refine (within_c _ _ _ _).mono ?_
      rintro e w' ⟨rfl, rfl⟩
      go_wp2
      go_ret
      exact ⟨rfl, b⟩
    · obtain ⟨k0, k1⟩ := (inB_iff _ _ _).1 hin
      obtain ⟨n, rfl⟩ := Int.eq_ofNat_of_zero_le k0
      have hn : n < t.length := by omega
      have hf := Lib.hid (first_yes ht hin)
      obtain ⟨g, off, X, Y, Z, rfl, hg, -, -, -, hX⟩ := hr.at3 hn
      have e4 : (n : Int) ≤ (c : Int) := by omega
      go_enter Try.func12, Try.ntmps12
      go_wp2_with fail
      refine (iOk_c _ _ _ _ hr hl).mono ?_
      rintro e w1 ⟨rfl, b⟩
      go_wp2_with fail
      refine (within_c _ _ _ _).mono ?_
      rintro e w' ⟨rfl, rfl⟩
      go_wp2
      clear hin ht
      go_loopw [22] (fun i wr => ∃ j : Nat, j ≤ n ∧ i = .int .i64 j ∧ Below w.heap.size w wr ∧ Hid (AllTo (firstAt t n) j)) (fun i _ => n - (intOf i).toNat)
      case atStart => exact ⟨0, Nat.zero_le _, rfl, b, AllTo.zero _⟩
      case round =>
        clear b
        obtain ⟨i, hi, rfl, H, hall⟩ := hrel
        by_cases hlt : i < n
        · obtain ⟨X', Y', Z', -, hC0, hC1, hC2, hX'⟩ := (hr.below H (Nat.le_refl _)).at3C hn
          obtain ⟨rfl, rfl, rfl⟩ : X = X' ∧ Y = Y' ∧ Z = Z' := by have := hX.out.symm.trans hX'.out; simpa using this
          obtain ⟨x, y, z, -, hc0, hc1, hc2, hx⟩ := (hr.below H (Nat.le_refl _)).at3C (show i < t.length by omega)
          have hgw : g < wr.heap.size := Nat.lt_of_lt_of_le hg H.size
          have hil : i < t.length := by omega
          have hq := Lib.hid (first_eq hX.out hx.out)
          cases hxx : x == X
          · have hgood := Lib.hid (show firstAt t n i = true by rw [hq.out, hxx]; rfl)
            go_wp2
            go_quiet (fail)
            go_wp2
            go_roundw
            case rel => exact ⟨i + 1, by omega, by go_num, below_drewN (H.alloc H.size _) _, hall.out.succ hgood.out⟩
            case measure => simp [intOf]; omega
          · have hbad := Lib.hid (show firstAt t n i = false by rw [hq.out, hxx]; rfl)
            go_wp2
            go_quiet (fail)
            go_wp2
            go_ret
            exact ⟨by rw [hf.out, allAt_not hlt hbad.out]; rfl, below_drewN (H.alloc H.size _) _⟩
        · go_wp2
          go_ret
          exact ⟨by rw [hf.out, hall.out.all hi hlt]; rfl, H⟩
end Go.Proofs.Ytclbjpknmcjkmaa
