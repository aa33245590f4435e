/- FineOf, both. -/
import Derived.Test.YtclbjpknmcjkmaaOk
namespace Go.Proofs.Ytclbjpknmcjkmaa
open Go.ChangeShapes Go.WideShapes Go.ChangeAt Go.RowKit
set_option linter.unusedVariables false

theorem i64_sub (a b : Int) (h : -9000000000000000000 ≤ a - b ∧ a - b ≤ 9000000000000000000) : IntKind.i64.wrap (a - b) = a - b := IntWalk.i64_in _ (by omega)
theorem i64_add (a b : Int) (h : -9000000000000000000 ≤ a + b ∧ a + b ≤ 9000000000000000000) : IntKind.i64.wrap (a + b) = a + b := IntWalk.i64_in _ (by omega)
theorem i64_mul (a b : Int) (h : -9000000000000000000 ≤ a * b ∧ a * b ≤ 9000000000000000000) : IntKind.i64.wrap (a * b) = a * b := IntWalk.i64_in _ (by omega)
theorem fine_no {t : Of} {k : Int} (h : offB t = false ∨ inB k 0 (t.length - 1) = false) : fineZ t k = -1 := by
  unfold fineZ
  rcases h with h | h <;> simp [h]
theorem times_hit {t : Of} {n i : Nat} (h : hitP t n i = true) : timesP t n (i + 1) = min 16 (2 * timesP t n i) := by
  show (if hitP t n i then min 16 (2 * timesP t n i) else timesP t n i) = _
  rw [if_pos h]
theorem times_miss {t : Of} {n i : Nat} (h : hitP t n i = false) : timesP t n (i + 1) = timesP t n i := by
  show (if hitP t n i then min 16 (2 * timesP t n i) else timesP t n i) = _
  rw [if_neg (by rw [h]; simp)]
theorem hit_eq {t : Of} {n i : Nat} {X Y Z x y z : Int} (hX : t[n]? = some (X, Y, Z)) (hx : t[i]? = some (x, y, z)) : hitP t n i = ((x == X) && decide (Y - y ≤ 100)) := by
  unfold hitP
  rw [pe_at hX, pe_at hx, dy_at hX, dy_at hx]

set_option maxHeartbeats 4000000 in
theorem sFineOf_c (A : Option Addr) (c : Nat) (t : Of) (k : Int) (w : World) (hr : RdI w w.heap.size A (flat3 t)) (hl : t.length ≤ 1048576) :
    Calls Try.prog 14 #[.slice A t.length c, .int .i64 k] w fun e w' => e = .returned (.int .i64 (fineZ t k)) ∧ Below w.heap.size w w' := by
  cases ht : offB t
  · rw [fine_no (.inl ht)]
    go_enter Try.func14, Try.ntmps14
    go_wp2_with fail
    refine (sOk_c _ _ _ _ hr hl).mono ?_
    rintro e w1 ⟨rfl, b⟩
    go_wp2
    go_ret
    exact ⟨rfl, b⟩
  · have h40 := (off_b t ht).1
    cases hin : inB k 0 (t.length - 1)
    · rw [fine_no (.inr hin)]
      go_enter Try.func14, Try.ntmps14
      go_wp2_with fail
      refine (sOk_c _ _ _ _ hr hl).mono ?_
      rintro e w1 ⟨rfl, b⟩
      go_wp2_with fail
      refine (l01In_c _ _ _ _).mono ?_
      rintro e w' ⟨rfl, rfl⟩
      go_wp2
      go_ret
      exact ⟨rfl, b⟩
    · obtain ⟨k0, k1⟩ := (inB_iff _ _ _).1 hin
      obtain ⟨n, rfl⟩ := Int.eq_ofNat_of_zero_le k0
      have hn : n < t.length := by omega
      rw [fineZ_at ht hn]
      have hf' := Lib.hid (off_b t ht).2
      have times_b' := Lib.hid (timesP_b t n)
      have hfb := fineF_b ht hn
      obtain ⟨-, -, f0, f1⟩ := hfb
      obtain ⟨g, off, X, Y, Z, rfl, hg, -, -, -, hX⟩ := hr.at3 hn
      have hfe := Lib.hid (show fineF t n = timesP t n n * Z by unfold fineF; rw [li_at hX.out])
      have hYZ := (hf'.out n hn).2
      rw [dy_at hX.out, li_at hX.out] at hYZ
      obtain ⟨⟨Y0, Y1⟩, ⟨Z0, Z1⟩, -⟩ := hYZ
      go_enter Try.func14, Try.ntmps14
      go_wp2_with fail
      refine (sOk_c _ _ _ _ hr hl).mono ?_
      rintro e w1 ⟨rfl, b⟩
      go_wp2_with fail
      refine (l01In_c _ _ _ _).mono ?_
      rintro e w' ⟨rfl, rfl⟩
      go_wp2
      clear hin ht
      go_loopw [5, 6] (fun tm i wr => ∃ j : Nat, j ≤ n ∧ i = .int .i64 j ∧ tm = .int .i64 (timesP t n j) ∧ Below w.heap.size w wr) (fun _ i _ => n - (intOf i).toNat)
      case atStart => exact ⟨0, Nat.zero_le _, rfl, rfl, b⟩
      case round =>
        clear b
        obtain ⟨i, hi, rfl, rfl, H⟩ := hrel
        by_cases hlt : i < n
        · obtain ⟨X', Y', Z', -, hC0, hC1, hC2, hX'⟩ := (hr.below H (Nat.le_refl _)).at3C hn
          obtain ⟨rfl, rfl, rfl⟩ : X = X' ∧ Y = Y' ∧ Z = Z' := by have := hX.out.symm.trans hX'.out; simpa using this
          obtain ⟨x, y, z, -, hc0, hc1, hc2, hx⟩ := (hr.below H (Nat.le_refl _)).at3C (show i < t.length by omega)
          clear hc2 hC2
          have hil : i < t.length := by omega
          clear f0 f1
          have hb := times_b'.out i
          generalize hT : timesP t n i = T at hb
          have hT := Lib.hid hT
          obtain ⟨T0, T1⟩ := hb
          have hq := Lib.hid (hit_eq hX.out hx.out)
          have hyb := (hf'.out i (by omega)).2.1
          rw [dy_at hx.out] at hyb
          obtain ⟨y0, y1⟩ := hyb
          have ew : IntKind.i64.wrap (Y - y) = Y - y := i64_sub _ _ (by omega)
          cases hxx : x == X
          · have hstep := Lib.hid (times_miss (show hitP t n i = false by rw [hq.out, hxx]; rfl))
            have hval := Lib.hid hT.out
            go_wp2
            go_quiet (fail)
            go_wp2
            go_roundw
            case rel => exact ⟨i + 1, by omega, by go_num, by rw [hstep.out, hval.out], below_drewN H _⟩
            case measure => simp [intOf]; omega
          · by_cases hyy : Y - y ≤ 100
            · have hstep := Lib.hid (times_hit (show hitP t n i = true by rw [hq.out, hxx, decide_eq_true hyy]; rfl))
              by_cases h16 : 2 * T < 16
              · have hval := Lib.hid (show min 16 (2 * timesP t n i) = 2 * T by rw [hT.out]; omega)
                go_wp2
                go_quiet (fail)
                go_wp2
                go_roundw
                case rel => exact ⟨i + 1, by omega, by go_num, by rw [hstep.out, hval.out], below_drewN H _⟩
                case measure => simp [intOf]; omega
              · have hval := Lib.hid (show min 16 (2 * timesP t n i) = 16 by rw [hT.out]; omega)
                go_wp2
                go_quiet (fail)
                go_wp2
                go_roundw
                case rel => exact ⟨i + 1, by omega, by go_num, by rw [hstep.out, hval.out], below_drewN H _⟩
                case measure => simp [intOf]; omega
            · have hstep := Lib.hid (times_miss (show hitP t n i = false by rw [hq.out, hxx, decide_eq_false hyy]; rfl))
              have hval := Lib.hid hT.out
              have hyy' : 100 < Y - y := by omega
              clear hyy
              go_wp2
              go_quiet (fail)
              go_wp2
              go_roundw
              case rel => exact ⟨i + 1, by omega, by go_num, by rw [hstep.out, hval.out], below_drewN H _⟩
              case measure => simp [intOf]; omega
        · obtain rfl : i = n := by omega
          obtain ⟨X', Y', Z', -, hC0, hC1, hC2, hX'⟩ := (hr.below H (Nat.le_refl _)).at3C hn
          obtain ⟨rfl, rfl, rfl⟩ : X = X' ∧ Y = Y' ∧ Z = Z' := by have := hX.out.symm.trans hX'.out; simpa using this
          rw [hfe.out] at f0 f1
          generalize timesP t i i = T at *
          go_wp2
          go_ret
          exact ⟨by rw [hfe.out]; rfl, H⟩
set_option maxHeartbeats 4000000 in
theorem iFineOf_c (A : Option Addr) (c : Nat) (t : Of) (k : Int) (w : World) (hr : RdI w w.heap.size A (flat3 t)) (hl : t.length ≤ 1048576) (hc : t.length ≤ c) (hc2 : c ≤ maxLen) :
    Calls Try.prog 15 #[.slice A t.length c, .int .i64 k] w fun e w' => e = .returned (.int .i64 (fineZ t k)) ∧ Below w.heap.size w w' := by
  unfold maxLen at hc2
  cases ht : offB t
  · rw [fine_no (.inl ht)]
    go_enter Try.func15, Try.ntmps15
    go_wp2_with fail
    refine (iOk_c _ _ _ _ hr hl).mono ?_
    rintro e w1 ⟨rfl, b⟩
    go_wp2
    go_ret
    exact ⟨rfl, b⟩
  · have h40 := (off_b t ht).1
    cases hin : inB k 0 (t.length - 1)
    · rw [fine_no (.inr hin)]
      go_enter Try.func15, Try.ntmps15
      go_wp2_with fail
      refine (iOk_c _ _ _ _ hr hl).mono ?_
      rintro e w1 ⟨rfl, b⟩
      go_wp2_with fail
      refine (within_c _ _ _ _).mono ?_
      rintro e w' ⟨rfl, rfl⟩
      go_wp2
      go_ret
      exact ⟨rfl, b⟩
    · obtain ⟨k0, k1⟩ := (inB_iff _ _ _).1 hin
      obtain ⟨n, rfl⟩ := Int.eq_ofNat_of_zero_le k0
      have hn : n < t.length := by omega
      rw [fineZ_at ht hn]
      have hf' := Lib.hid (off_b t ht).2
      have times_b' := Lib.hid (timesP_b t n)
      have hfb := fineF_b ht hn
      obtain ⟨-, -, f0, f1⟩ := hfb
      obtain ⟨g, off, X, Y, Z, rfl, hg, -, -, -, hX⟩ := hr.at3 hn
      have hfe := Lib.hid (show fineF t n = timesP t n n * Z by unfold fineF; rw [li_at hX.out])
      have hYZ := (hf'.out n hn).2
      rw [dy_at hX.out, li_at hX.out] at hYZ
      obtain ⟨⟨Y0, Y1⟩, ⟨Z0, Z1⟩, -⟩ := hYZ
      go_enter Try.func15, Try.ntmps15
      go_wp2_with fail
      refine (iOk_c _ _ _ _ hr hl).mono ?_
      rintro e w1 ⟨rfl, b⟩
      go_wp2_with fail
      refine (within_c _ _ _ _).mono ?_
      rintro e w' ⟨rfl, rfl⟩
      have e4 : (n : Int) ≤ (c : Int) := by omega
      have e5 : (0 : Int) ≤ (n : Int) := by omega
      go_wp2
      clear hin ht
      go_loopw [5, 23] (fun tm i wr => ∃ j : Nat, j ≤ n ∧ i = .int .i64 j ∧ tm = .int .i64 (timesP t n j) ∧ Below w.heap.size w wr) (fun _ i _ => n - (intOf i).toNat)
      case atStart => exact ⟨0, Nat.zero_le _, rfl, rfl, b⟩
      case round =>
        clear b
        obtain ⟨i, hi, rfl, rfl, H⟩ := hrel
        by_cases hlt : i < n
        · obtain ⟨X', Y', Z', -, hC0, hC1, hC2, hX'⟩ := (hr.below H (Nat.le_refl _)).at3C hn
          obtain ⟨rfl, rfl, rfl⟩ : X = X' ∧ Y = Y' ∧ Z = Z' := by have := hX.out.symm.trans hX'.out; simpa using this
          obtain ⟨x, y, z, -, hc0, hc1, hc2, hx⟩ := (hr.below H (Nat.le_refl _)).at3C (show i < t.length by omega)
          have hgw : g < wr.heap.size := Nat.lt_of_lt_of_le hg H.size
          have hil : i < t.length := by omega
          clear f0 f1
          have hb := times_b'.out i
          generalize hT : timesP t n i = T at hb
          have hT := Lib.hid hT
          obtain ⟨T0, T1⟩ := hb
          have hq := Lib.hid (hit_eq hX.out hx.out)
          have hyb := (hf'.out i (by omega)).2.1
          rw [dy_at hx.out] at hyb
          obtain ⟨y0, y1⟩ := hyb
          have ew : IntKind.i64.wrap (Y - y) = Y - y := i64_sub _ _ (by omega)
          cases hxx : x == X
          · have hstep := Lib.hid (times_miss (show hitP t n i = false by rw [hq.out, hxx]; rfl))
            have hval := Lib.hid hT.out
            go_wp2
            go_quiet (fail)
            go_wp2
            go_roundw
            case rel => exact ⟨i + 1, by omega, by go_num, by rw [hstep.out, hval.out], below_drewN (H.alloc H.size _) _⟩
            case measure => simp [intOf]; omega
          · by_cases hyy : Y - y ≤ 100
            · have hstep := Lib.hid (times_hit (show hitP t n i = true by rw [hq.out, hxx, decide_eq_true hyy]; rfl))
              by_cases h16 : 2 * T < 16
              · have hval := Lib.hid (show min 16 (2 * timesP t n i) = 2 * T by rw [hT.out]; omega)
                go_wp2
                go_quiet (fail)
                go_wp2
                go_roundw
                case rel => exact ⟨i + 1, by omega, by go_num, by rw [hstep.out, hval.out], below_drewN (H.alloc H.size _) _⟩
                case measure => simp [intOf]; omega
              · have hval := Lib.hid (show min 16 (2 * timesP t n i) = 16 by rw [hT.out]; omega)
                go_wp2
                go_quiet (fail)
                go_wp2
                go_roundw
                case rel => exact ⟨i + 1, by omega, by go_num, by rw [hstep.out, hval.out], below_drewN (H.alloc H.size _) _⟩
                case measure => simp [intOf]; omega
            · have hstep := Lib.hid (times_miss (show hitP t n i = false by rw [hq.out, hxx, decide_eq_false hyy]; rfl))
              have hval := Lib.hid hT.out
              have hyy' : 100 < Y - y := by omega
              clear hyy
              go_wp2
              go_quiet (fail)
              go_wp2
              go_roundw
              case rel => exact ⟨i + 1, by omega, by go_num, by rw [hstep.out, hval.out], below_drewN (H.alloc H.size _) _⟩
              case measure => simp [intOf]; omega
        · obtain rfl : i = n := by omega
          obtain ⟨X', Y', Z', -, hC0, hC1, hC2, hX'⟩ := (hr.below H (Nat.le_refl _)).at3C hn
          obtain ⟨rfl, rfl, rfl⟩ : X = X' ∧ Y = Y' ∧ Z = Z' := by have := hX.out.symm.trans hX'.out; simpa using this
          rw [hfe.out] at f0 f1
          generalize timesP t i i = T at *
          go_wp2
          go_ret
          exact ⟨by rw [hfe.out]; rfl, H⟩
end Go.Proofs.Ytclbjpknmcjkmaa
