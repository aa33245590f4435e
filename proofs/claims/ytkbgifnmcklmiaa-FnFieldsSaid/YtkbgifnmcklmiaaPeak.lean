/- PeakOf, both. -/
import Derived.Test.YtkbgifnmcklmiaaPeakP
import Derived.StillTailTactics
namespace Go.Proofs.Ytkbgifnmcklmiaa
open Go.ChangeShapes Go.WideShapes Go.ChangeAt Go.RowKit
set_option linter.unusedVariables false

set_option maxHeartbeats 4000000 in
theorem iPeak_c (A : Option Addr) (c : Nat) (fs : List Fd) (A' : Option Addr) (c' : Nat) (ss : List Int) (w : World) (hr : RdF w w.heap.size A fs) (hl : fs.length ≤ 2000000) (hfl : ∀ f ∈ fs, f.ws.length ≤ 1048576) (hs : RdI w w.heap.size A' ss) (hsl : ss.length ≤ 2000000) :
    Calls Try.prog 25 #[.slice A fs.length c, .slice A' ss.length c'] w fun e w' => e = .returned (.int .i64 (peakZ (vals fs) ss)) ∧ Below w.heap.size w w' := by
  by_cases h1 : fs.length ≤ 6
  · by_cases h2 : ss.length = fs.length
    · rw [peak_go (by simpa using h1) (by simpa using h2)]
      have hne : ((ss.length : Int) != (fs.length : Int)) = false := by simp [h2]
      have h6 : ¬ (6 : Int) < (fs.length : Int) := by omega
      have h2' := Lib.hid h2
      have hfl' := Lib.hid hfl
      clear h2 hfl
      go_enter Try.func25, Try.ntmps25
      go_wp2
      clear hne h6
      go_loopw [5, 6] (fun best wk wr => ∃ (k : Nat) (b : Int), k ≤ 53 ∧ wk = .int .i64 k ∧ best = .int .i64 b ∧ 0 ≤ b ∧ b ≤ 600000 ∧ Hid (peakR (planZ (vals fs) ss) 53 0 0 = peakR (planZ (vals fs) ss) (53 - k) k b) ∧ Below w.heap.size w wr) (fun _ wk _ => 53 - (intOf wk).toNat)
      case atStart => exact ⟨0, 0, Nat.zero_le _, rfl, rfl, Int.le_refl _, by omega, rfl, Below.refl _ _⟩
      case round =>
        obtain ⟨k, b, hk, rfl, rfl, b0, b1, hq, H⟩ := hrel
        by_cases hlt : k < 53
        · have hkI : (k : Int) ≤ 52 := by omega
          have hq2 : Hid (peakR (planZ (vals fs) ss) 53 0 0 = peakR (planZ (vals fs) ss) ((53 - (k + 1)) + 1) k b) := by rw [hq.out, show 53 - k = (53 - (k + 1)) + 1 by omega]; exact Lib.hid rfl
          clear hq
          go_wp2
          go_loopw [7, 27] (fun n i wr => ∃ (j : Nat) (acc : Int), j ≤ fs.length ∧ i = .int .i64 j ∧ n = .int .i64 acc ∧ 0 ≤ acc ∧ acc ≤ 100000 * (j : Int) ∧ Hid (weekZ (planZ (vals fs) ss) k 0 = weekZ ((planZ (vals fs) ss).drop j) k acc) ∧ Below w.heap.size w wr) (fun _ i _ => fs.length - (intOf i).toNat)
          case atStart => exact ⟨0, 0, Nat.zero_le _, rfl, rfl, Int.le_refl _, by omega, rfl, H⟩
          case round =>
            clear H
            obtain ⟨j, acc, hj, rfl, rfl, ac0, ac1, hw, H⟩ := hrel
            by_cases hlj : j < fs.length
            · obtain ⟨g, off, a, A1, c1, ws, rfl, hg, hc0, hc1, hx, hi⟩ := (hr.step H).at_ hlj
              obtain ⟨g', off', s, rfl, hg', hcs, hsx, -⟩ := (hs.step H).at_ (show j < ss.length by have := h2'.out; omega)
              have hjs : (j : Int) < (ss.length : Int) := by have := h2'.out; omega
              have hwl := Lib.hid (show ws.length ≤ 1048576 from hfl'.out _ (List.mem_of_getElem? hx.out))
              have hd := Lib.hid (plan_drop (vals_at hx.out) hsx.out)
              clear hx hsx
              obtain ⟨v0, v1⟩ := needAt_b ((a, ws), s) k
              have hv := Lib.hid (show needZ a ws s k = needAt ((a, ws), s) k from rfl)
              have hgr : g < wr.heap.size := hg
              have hgr' : g' < wr.heap.size := hg'
              by_cases hn : needAt ((a, ws), s) k < 0
              · have hfin := Lib.hid (show peakR (planZ (vals fs) ss) 53 0 0 = -1 by rw [hq2.out]; exact peakR_no (by rw [hw.out, hd.out]; exact Int.lt_of_le_of_lt (Int.le_of_eq (weekZ_no hn)) (by omega)))
                clear hq2 hw hd
                generalize needAt ((a, ws), s) k = v at *
                go_wp2
                have P := Blk.new wr 27 #[.int .i64 a, .slice A1 ws.length c1]
                have H2 := (Below.refl wr.heap.size wr).alloc (Nat.le_refl _) (.cells #[.int .i64 a, .slice A1 ws.length c1] 27)
                have hi2 := hi.step H2
                have hcs2 := cell_next H2 hcs
                replace H := chain H H2 (Nat.le_refl _)
                obtain ⟨p0, p1, -, -, -⟩ := P.two
                generalize wr.alloc (.cells #[.int .i64 a, .slice A1 ws.length c1] 27) = W at *
                clear H2 P hc0 hc1 hcs hi
                go_still_tail 6, (by kernel_rfl)
                change wpList _ _ _ _ _ W.drew
                replace H := H.drew
                replace hi2 : RdI W.drew W.drew.heap.size A1 ws := hi2
                clear p0 p1 hcs2
                generalize W.drew = W1 at *
                go_wp2_with fail
                refine (iNeed_c a A1 c1 ws s (k : Int) _ hi2 hwl.out).mono ?_
                rintro e w1 ⟨rfl, b2⟩
                replace H := chain H b2 (Nat.le_refl _)
                rw [hv.out]
                clear b2 hi2
                go_wp2
                go_ret
                exact ⟨by rw [hfin.out]; rfl, H⟩
              · have hw2 := Lib.hid (show weekZ (planZ (vals fs) ss) k 0 = weekZ ((planZ (vals fs) ss).drop (j + 1)) k (acc + needAt ((a, ws), s) k) by rw [hw.out, hd.out]; exact weekZ_go hn)
                clear hw hd
                generalize needAt ((a, ws), s) k = v at *
                go_wp2
                have P := Blk.new wr 27 #[.int .i64 a, .slice A1 ws.length c1]
                have H2 := (Below.refl wr.heap.size wr).alloc (Nat.le_refl _) (.cells #[.int .i64 a, .slice A1 ws.length c1] 27)
                have hi2 := hi.step H2
                have hcs2 := cell_next H2 hcs
                replace H := chain H H2 (Nat.le_refl _)
                obtain ⟨p0, p1, -, -, -⟩ := P.two
                generalize wr.alloc (.cells #[.int .i64 a, .slice A1 ws.length c1] 27) = W at *
                clear H2 P hc0 hc1 hcs hi
                go_still_tail 6, (by kernel_rfl)
                change wpList _ _ _ _ _ W.drew
                replace H := H.drew
                replace hi2 : RdI W.drew W.drew.heap.size A1 ws := hi2
                clear p0 p1 hcs2
                generalize W.drew = W1 at *
                go_wp2_with fail
                refine (iNeed_c a A1 c1 ws s (k : Int) _ hi2 hwl.out).mono ?_
                rintro e w1 ⟨rfl, b2⟩
                replace H := chain H b2 (Nat.le_refl _)
                rw [hv.out]
                clear b2 hi2
                go_wp2
                go_roundw
                case rel => exact ⟨j + 1, acc + v, by omega, by go_num, rfl, by omega, by omega, hw2, H⟩
                case measure => simp [intOf]; omega
            · have hw2 := Lib.hid (show weekZ (planZ (vals fs) ss) k 0 = acc by rw [hw.out, plan_end (by simpa using hlj)]; rfl)
              clear hw
              by_cases hb : b < acc
              · have hq3 := Lib.hid (show peakR (planZ (vals fs) ss) 53 0 0 = peakR (planZ (vals fs) ss) (53 - (k + 1)) ((k : Int) + 1) acc by rw [hq2.out]; exact peakR_up hw2.out (by omega) hb)
                clear hq2 hw2
                go_wp2
                go_roundw
                case rel => exact ⟨k + 1, acc, by omega, by go_num, rfl, by omega, by omega, by have := hq3.out; exact Lib.hid (by rw [this]; congr 1), H⟩
                case measure => simp [intOf]; omega
              · have hq3 := Lib.hid (show peakR (planZ (vals fs) ss) 53 0 0 = peakR (planZ (vals fs) ss) (53 - (k + 1)) ((k : Int) + 1) b by rw [hq2.out]; exact peakR_keep hw2.out (by omega) hb)
                clear hq2 hw2
                go_wp2
                go_roundw
                case rel => exact ⟨k + 1, b, by omega, by go_num, rfl, by omega, by omega, by have := hq3.out; exact Lib.hid (by rw [this]; congr 1), H⟩
                case measure => simp [intOf]; omega
        · have hkI : ¬ (k : Int) ≤ 52 := by omega
          have hf := Lib.hid (show peakR (planZ (vals fs) ss) 53 0 0 = b by rw [hq.out, show 53 - k = 0 by omega]; rfl)
          clear hq
          go_wp2
          go_ret
          exact ⟨by rw [hf.out]; rfl, H⟩
    · rw [peak_no (by simp; omega)]
      have hne : ((ss.length : Int) != (fs.length : Int)) = true := by simp; omega
      have h6 : ¬ (6 : Int) < (fs.length : Int) := by omega
      go_enter Try.func25, Try.ntmps25
      go_wp2
      go_ret
      exact ⟨rfl, Below.refl _ _⟩
  · rw [peak_no (by simp; omega)]
    have h6 : (6 : Int) < (fs.length : Int) := by omega
    go_enter Try.func25, Try.ntmps25
    go_wp2
    go_ret
    exact ⟨rfl, Below.refl _ _⟩
set_option maxHeartbeats 4000000 in
theorem sPeak_c (A : Option Addr) (c : Nat) (fs : List Fd) (A' : Option Addr) (c' : Nat) (ss : List Int) (w : World) (hr : RdF w w.heap.size A fs) (hl : fs.length ≤ 2000000) (hfl : ∀ f ∈ fs, f.ws.length ≤ 1048576) (hs : RdI w w.heap.size A' ss) (hsl : ss.length ≤ 2000000) :
    Calls Try.prog 22 #[.slice A fs.length c, .slice A' ss.length c'] w fun e w' => e = .returned (.int .i64 (peakZ (vals fs) ss)) ∧ Below w.heap.size w w' := by
  by_cases h1 : fs.length ≤ 6
  · by_cases h2 : ss.length = fs.length
    · rw [peak_go (by simpa using h1) (by simpa using h2)]
      have hne : ((ss.length : Int) != (fs.length : Int)) = false := by simp [h2]
      have h6 : ¬ (6 : Int) < (fs.length : Int) := by omega
      have h2' := Lib.hid h2
      have hfl' := Lib.hid hfl
      clear h2 hfl
      go_enter Try.func22, Try.ntmps22
      go_wp2
      clear hne h6
      go_loopw [5, 6] (fun best wk wr => ∃ (k : Nat) (b : Int), k ≤ 53 ∧ wk = .int .i64 k ∧ best = .int .i64 b ∧ 0 ≤ b ∧ b ≤ 600000 ∧ Hid (peakR (planZ (vals fs) ss) 53 0 0 = peakR (planZ (vals fs) ss) (53 - k) k b) ∧ Below w.heap.size w wr) (fun _ wk _ => 53 - (intOf wk).toNat)
      case atStart => exact ⟨0, 0, Nat.zero_le _, rfl, rfl, Int.le_refl _, by omega, rfl, Below.refl _ _⟩
      case round =>
        obtain ⟨k, b, hk, rfl, rfl, b0, b1, hq, H⟩ := hrel
        by_cases hlt : k < 53
        · have hkI : (k : Int) ≤ 52 := by omega
          have hq2 : Hid (peakR (planZ (vals fs) ss) 53 0 0 = peakR (planZ (vals fs) ss) ((53 - (k + 1)) + 1) k b) := by rw [hq.out, show 53 - k = (53 - (k + 1)) + 1 by omega]; exact Lib.hid rfl
          clear hq
          go_wp2
          go_loopw [7, 8] (fun n i wr => ∃ (j : Nat) (acc : Int), j ≤ fs.length ∧ i = .int .i64 j ∧ n = .int .i64 acc ∧ 0 ≤ acc ∧ acc ≤ 100000 * (j : Int) ∧ Hid (weekZ (planZ (vals fs) ss) k 0 = weekZ ((planZ (vals fs) ss).drop j) k acc) ∧ Below w.heap.size w wr) (fun _ i _ => fs.length - (intOf i).toNat)
          case atStart => exact ⟨0, 0, Nat.zero_le _, rfl, rfl, Int.le_refl _, by omega, rfl, H⟩
          case round =>
            clear H
            obtain ⟨j, acc, hj, rfl, rfl, ac0, ac1, hw, H⟩ := hrel
            by_cases hlj : j < fs.length
            · obtain ⟨g, off, a, A1, c1, ws, rfl, hg, hc0, hc1, hx, hi⟩ := (hr.step H).at_ hlj
              obtain ⟨g', off', s, rfl, hg', hcs, hsx, -⟩ := (hs.step H).at_ (show j < ss.length by have := h2'.out; omega)
              have hjs : (j : Int) < (ss.length : Int) := by have := h2'.out; omega
              have hwl := Lib.hid (show ws.length ≤ 1048576 from hfl'.out _ (List.mem_of_getElem? hx.out))
              have hd := Lib.hid (plan_drop (vals_at hx.out) hsx.out)
              clear hx hsx
              obtain ⟨v0, v1⟩ := needAt_b ((a, ws), s) k
              have hv := Lib.hid (show needZ a ws s k = needAt ((a, ws), s) k from rfl)
              have hgr : g < wr.heap.size := hg
              have hgr' : g' < wr.heap.size := hg'
              by_cases hn : needAt ((a, ws), s) k < 0
              · have hfin := Lib.hid (show peakR (planZ (vals fs) ss) 53 0 0 = -1 by rw [hq2.out]; exact peakR_no (by rw [hw.out, hd.out]; exact Int.lt_of_le_of_lt (Int.le_of_eq (weekZ_no hn)) (by omega)))
                clear hq2 hw hd
                generalize needAt ((a, ws), s) k = v at *
                go_wp2
                go_still_tail 9, (by kernel_rfl)
                change wpList _ _ _ _ _ wr.drew
                replace H := H.drew
                have hi2 : RdI wr.drew wr.drew.heap.size A1 ws := hi
                clear hc0 hc1 hcs hi
                generalize wr.drew = W1 at *
                go_wp2_with fail
                refine (sNeed_c a A1 c1 ws s (k : Int) _ hi2 hwl.out).mono ?_
                rintro e w1 ⟨rfl, b2⟩
                replace H := chain H b2 (Nat.le_refl _)
                rw [hv.out]
                clear b2 hi2
                go_wp2
                go_ret
                exact ⟨by rw [hfin.out]; rfl, H⟩
              · have hw2 := Lib.hid (show weekZ (planZ (vals fs) ss) k 0 = weekZ ((planZ (vals fs) ss).drop (j + 1)) k (acc + needAt ((a, ws), s) k) by rw [hw.out, hd.out]; exact weekZ_go hn)
                clear hw hd
                generalize needAt ((a, ws), s) k = v at *
                go_wp2
                go_still_tail 9, (by kernel_rfl)
                change wpList _ _ _ _ _ wr.drew
                replace H := H.drew
                have hi2 : RdI wr.drew wr.drew.heap.size A1 ws := hi
                clear hc0 hc1 hcs hi
                generalize wr.drew = W1 at *
                go_wp2_with fail
                refine (sNeed_c a A1 c1 ws s (k : Int) _ hi2 hwl.out).mono ?_
                rintro e w1 ⟨rfl, b2⟩
                replace H := chain H b2 (Nat.le_refl _)
                rw [hv.out]
                clear b2 hi2
                go_wp2
                go_roundw
                case rel => exact ⟨j + 1, acc + v, by omega, by go_num, rfl, by omega, by omega, hw2, H⟩
                case measure => simp [intOf]; omega
            · have hw2 := Lib.hid (show weekZ (planZ (vals fs) ss) k 0 = acc by rw [hw.out, plan_end (by simpa using hlj)]; rfl)
              clear hw
              by_cases hb : b < acc
              · have hq3 := Lib.hid (show peakR (planZ (vals fs) ss) 53 0 0 = peakR (planZ (vals fs) ss) (53 - (k + 1)) ((k : Int) + 1) acc by rw [hq2.out]; exact peakR_up hw2.out (by omega) hb)
                clear hq2 hw2
                go_wp2
                go_roundw
                case rel => exact ⟨k + 1, acc, by omega, by go_num, rfl, by omega, by omega, by have := hq3.out; exact Lib.hid (by rw [this]; congr 1), H⟩
                case measure => simp [intOf]; omega
              · have hq3 := Lib.hid (show peakR (planZ (vals fs) ss) 53 0 0 = peakR (planZ (vals fs) ss) (53 - (k + 1)) ((k : Int) + 1) b by rw [hq2.out]; exact peakR_keep hw2.out (by omega) hb)
                clear hq2 hw2
                go_wp2
                go_roundw
                case rel => exact ⟨k + 1, b, by omega, by go_num, rfl, by omega, by omega, by have := hq3.out; exact Lib.hid (by rw [this]; congr 1), H⟩
                case measure => simp [intOf]; omega
        · have hkI : ¬ (k : Int) ≤ 52 := by omega
          have hf := Lib.hid (show peakR (planZ (vals fs) ss) 53 0 0 = b by rw [hq.out, show 53 - k = 0 by omega]; rfl)
          clear hq
          go_wp2
          go_ret
          exact ⟨by rw [hf.out]; rfl, H⟩
    · rw [peak_no (by simp; omega)]
      have hne : ((ss.length : Int) != (fs.length : Int)) = true := by simp; omega
      have h6 : ¬ (6 : Int) < (fs.length : Int) := by omega
      go_enter Try.func22, Try.ntmps22
      go_wp2
      go_ret
      exact ⟨rfl, Below.refl _ _⟩
  · rw [peak_no (by simp; omega)]
    have h6 : (6 : Int) < (fs.length : Int) := by omega
    go_enter Try.func22, Try.ntmps22
    go_wp2
    go_ret
    exact ⟨rfl, Below.refl _ _⟩
end Go.Proofs.Ytkbgifnmcklmiaa
