/- CheapestWatch, the reference's. -/
import Derived.Test.YtcmealoppnpdcaaCheap
namespace Go.Proofs.Ytcmealoppnpdcaa
open Go.ChangeShapes Go.WideShapes Go.ChangeAt Go.RowKit
set_option linter.unusedVariables false

theorem bckV_no {t : Wf} {b : Int} {L : List Int} {h : Int} {k : Nat} (hc : covAt t h k = false) : bckV t b L h (k + 1) = bckV t b L h k := by rw [bckV_succ, hc, Bool.false_and, if_neg (by simp)]
theorem bckV_take {t : Wf} {b : Int} {L : List Int} {h : Int} {k : Nat} (hc : covAt t h k = true) (hv : bckV t b L h k < 0 ∨ xAt t b L k < bckV t b L h k) : bckV t b L h (k + 1) = xAt t b L k := by
  rw [bckV_succ, hc, Bool.true_and, if_pos]
  rcases hv with hv | hv
  · rw [decide_eq_true hv]; rfl
  · rw [decide_eq_true hv, Bool.or_true]
theorem bckV_keep {t : Wf} {b : Int} {L : List Int} {h : Int} {k : Nat} (hv : ¬ bckV t b L h k < 0) (hv2 : ¬ xAt t b L k < bckV t b L h k) : bckV t b L h (k + 1) = bckV t b L h k := by
  rw [bckV_succ, decide_eq_false hv, decide_eq_false hv2]
  simp
/-- The value of a later hour. -/
theorem later_b {t : Wf} {a b : Nat} (hw : isW t a b = true) {m : Nat} {y : Int} (hm : m < b) (ha : a ≤ b - 1 - m) (h1 : ((b - 1 - m : Nat) : Int) < y) (h2 : y < (b : Int)) : 0 ≤ (bkL t b m).getD y.toNat 0 ∧ (bkL t b m).getD y.toNat 0 ≤ 48000 := by
  obtain ⟨_, _, _, _, hb48, _⟩ := isW_b hw
  have e := bkL_stay t b (by omega) (h := y.toNat) (by omega) m (by omega) (by omega)
  have hb := bF_b hw (b - y.toNat) y.toNat (Nat.le_refl _) (by omega) (by omega)
  have ef : bF t b y.toNat = (bkL t b (b - y.toNat)).getD y.toNat 0 := by unfold bF; rw [if_pos (by omega)]
  rw [e, ← ef]
  omega
theorem set_set_same (L : List Int) (i : Nat) (u v : Int) : (L.set i u).set i v = L.set i v := List.set_set ..

set_option maxRecDepth 100000 in
set_option maxHeartbeats 8000000 in
theorem sCheap_c (A : Option Addr) (c : Nat) (t : Wf) (a b : Int) (w : World) (hr : RdI w w.heap.size A (flat3 t)) (hl : t.length ≤ 1048576) :
    Calls Try.prog 22 #[.slice A t.length c, .int .i64 a, .int .i64 b] w fun e w' => e = .returned (.int .i64 (cheapZ t a b)) ∧ Below w.heap.size w w' := by
  cases hok : isW t a b
  · rw [cheap_no hok]
    go_enter Try.func22, Try.ntmps22
    go_wp2_with fail
    refine (sIsW_c _ _ _ _ _ _ hr hl).mono ?_
    rintro e w1 ⟨rfl, H⟩
    go_wp2
    go_ret
    exact ⟨rfl, H⟩
  · obtain ⟨hWB, a0, a1, b0, b1, hcov⟩ := isW_b hok
    obtain ⟨a, rfl⟩ := Int.eq_ofNat_of_zero_le a0
    obtain ⟨b, rfl⟩ := Int.eq_ofNat_of_zero_le b0
    have hf' := Lib.hid (wat_b t hWB).2
    have h16 := (wat_b t hWB).1
    have hok' := Lib.hid hok
    clear hcov hWB
    have hmk : ∀ W : World, (Instr.makeSlice 31 (.int .i64 49) (.int .i64 49)).run Try.prog W = .ok (.slice (some ⟨W.heap.size, 0, none⟩) 49 49) (W.alloc (.cells (ints (List.replicate 49 (0 : Int))).toArray 3)) := by
      intro W
      rw [← made49]
      exact run_make_row' (P := Try.prog) 31 3 (.int .i64 0) 8 Try.underlying31 infoInt rfl .i64 .i64 49 (by omega) (by omega) W
    have hb48 : ¬ (48 : Int) < (b : Int) := by omega
    by_cases hab : a < b
    · rw [cheap_yes hok hab]
      have habI : (a : Int) < (b : Int) := by omega
      go_enter Try.func22, Try.ntmps22
      go_wp2_with fail
      refine (sIsW_c _ _ _ _ _ _ hr hl).mono ?_
      rintro e w1 ⟨rfl, H⟩
      have hGw : w.heap.size ≤ w1.heap.size := H.size
      obtain ⟨G, hG⟩ : ∃ G, w1.heap.size = G := ⟨_, rfl⟩
      have hGB := Blk.new w1 3 (ints (List.replicate 49 (0 : Int))).toArray
      have HG := H.alloc H.size (.cells (ints (List.replicate 49 (0 : Int))).toArray 3)
      rw [hG] at hGB hGw
      go_wp2
      clear hmk hok
      replace hG := Lib.hid hG
      go_loopw [8] (fun i wr => ∃ m : Nat, m ≤ b - a ∧ i = .int .i64 ((b : Int) - 1 - (m : Int)) ∧ Blk wr G 3 (ints (bkL t b m)).toArray ∧ Below w.heap.size w wr) (fun i _ => (intOf i + 1).toNat)
      case atStart => exact ⟨0, Nat.zero_le _, by go_num, hGB, HG⟩
      case round =>
        clear hGB HG H
        obtain ⟨m, hm, rfl, hB, H⟩ := hrel
        have hil := bkL_len t b m
        by_cases hlt : m < b - a
        · have ei : (b : Int) - 1 - (m : Int) = ((b - 1 - m : Nat) : Int) := by omega
          rw [ei]
          clear ei
          have hh49 : ((b - 1 - m : Nat) : Int) < 49 := by omega
          have hha : (a : Int) ≤ ((b - 1 - m : Nat) : Int) := by omega
          have hcell := hB.icell (b - 1 - m) (by omega)
          have hfr := hB.frozen (b - 1 - m)
          have hst := hB.iset (b - 1 - m) (-1)
          have hset := H.setCell (p := ⟨G, b - 1 - m, none⟩) hGw (.int .i64 (-1))
          generalize (bkL t b m).getD (b - 1 - m) 0 = u at hcell
          clear hil
          go_wp2
          clear hcell hfr hB H
          go_loopw [9] (fun i wr => ∃ k : Nat, k ≤ t.length ∧ i = .int .i64 k ∧ Blk wr G 3 (ints ((bkL t b m).set (b - 1 - m) (bckV t b (bkL t b m) ((b - 1 - m : Nat) : Int) k))).toArray ∧ Below w.heap.size w wr) (fun i _ => t.length - (intOf i).toNat)
          case atStart => exact ⟨0, Nat.zero_le _, rfl, hst, hset⟩
          case round =>
            clear hst hset
            obtain ⟨k, hk, rfl, hB, H⟩ := hrel
            by_cases hlk : k < t.length
            · obtain ⟨g, off, x, y, z, rfl, hg, hc0, hc1, hc2, hx⟩ := (hr.below H (Nat.le_refl _)).at3 hlk
              obtain ⟨f0, f1, f2, f3, f4⟩ := hf'.out k hlk
              rw [fr_at hx.out] at f0 f1
              rw [wt_at hx.out] at f1 f2
              rw [py_at hx.out] at f3 f4
              have hcov := Lib.hid (cov_iff t ((b - 1 - m : Nat) : Int) k)
              by_cases h1 : x ≤ ((b - 1 - m : Nat) : Int)
              · by_cases h2 : ((b - 1 - m : Nat) : Int) < y
                · have hc := hcov.out.2 (by rw [fr_at hx.out, wt_at hx.out]; exact ⟨h1, h2⟩)
                  generalize hv : bckV t b (bkL t b m) ((b - 1 - m : Nat) : Int) k = v at *
                  have hv := Lib.hid hv
                  have hbl := bkL_len t b m
                  have hch := hB.icell (b - 1 - m) (by rw [List.length_set]; omega)
                  rw [getD_set_same (by omega)] at hch
                  have hfr := hB.frozen (b - 1 - m)
                  by_cases hyb : y < (b : Int)
                  · obtain ⟨q0, q1⟩ := later_b hok'.out (m := m) (by omega) (by omega) h2 hyb
                    have hxv := Lib.hid (show xAt t b (bkL t b m) k = z + (bkL t b m).getD y.toNat 0 by unfold xAt; rw [py_at hx.out, wt_at hx.out, if_pos hyb])
                    have hcy := hB.icell y.toNat (by rw [List.length_set]; omega)
                    rw [getD_set_ne (by omega)] at hcy
                    have hy0 : (0 : Int) ≤ y := by omega
                    have hy49 : y < 49 := by omega
                    clear hbl
                    generalize (bkL t b m).getD y.toNat 0 = q at *
                    by_cases hv0 : v < 0
                    · have hnx := Lib.hid (bckV_take (b := (b : Int)) (L := bkL t b m) hc (.inl (by rw [hv.out]; exact hv0)))
                      go_wp2
                      go_roundw
                      case rel => exact ⟨k + 1, by omega, by go_num, by have := hB.iset (b - 1 - m) (z + q); rw [set_set_same] at this; rw [hnx.out, hxv.out]; exact this, H.setCell hGw _⟩
                      case measure => simp [intOf]; omega
                    · by_cases hv1 : z + q < v
                      · have hnx := Lib.hid (bckV_take (b := (b : Int)) (L := bkL t b m) hc (.inr (by rw [hv.out, hxv.out]; exact hv1)))
                        go_wp2
                        go_roundw
                        case rel => exact ⟨k + 1, by omega, by go_num, by have := hB.iset (b - 1 - m) (z + q); rw [set_set_same] at this; rw [hnx.out, hxv.out]; exact this, H.setCell hGw _⟩
                        case measure => simp [intOf]; omega
                      · have hnx := Lib.hid (bckV_keep (t := t) (h := ((b - 1 - m : Nat) : Int)) (k := k) (b := (b : Int)) (L := bkL t b m) (by rw [hv.out]; exact hv0) (by rw [hv.out, hxv.out]; exact hv1))
                        go_wp2
                        go_roundw
                        case rel => exact ⟨k + 1, by omega, by go_num, by rw [hnx.out, hv.out]; exact hB, H⟩
                        case measure => simp [intOf]; omega
                  · have hxv := Lib.hid (show xAt t b (bkL t b m) k = z by unfold xAt; rw [py_at hx.out, wt_at hx.out, if_neg hyb, Int.add_zero])
                    have hcy := hc1
                    clear hbl
                    by_cases hv0 : v < 0
                    · have hnx := Lib.hid (bckV_take (b := (b : Int)) (L := bkL t b m) hc (.inl (by rw [hv.out]; exact hv0)))
                      go_wp2
                      go_roundw
                      case rel => exact ⟨k + 1, by omega, by go_num, by have := hB.iset (b - 1 - m) (z); rw [set_set_same] at this; rw [hnx.out, hxv.out]; exact this, H.setCell hGw _⟩
                      case measure => simp [intOf]; omega
                    · by_cases hv1 : z < v
                      · have hnx := Lib.hid (bckV_take (b := (b : Int)) (L := bkL t b m) hc (.inr (by rw [hv.out, hxv.out]; exact hv1)))
                        go_wp2
                        go_roundw
                        case rel => exact ⟨k + 1, by omega, by go_num, by have := hB.iset (b - 1 - m) (z); rw [set_set_same] at this; rw [hnx.out, hxv.out]; exact this, H.setCell hGw _⟩
                        case measure => simp [intOf]; omega
                      · have hnx := Lib.hid (bckV_keep (t := t) (h := ((b - 1 - m : Nat) : Int)) (k := k) (b := (b : Int)) (L := bkL t b m) (by rw [hv.out]; exact hv0) (by rw [hv.out, hxv.out]; exact hv1))
                        go_wp2
                        go_roundw
                        case rel => exact ⟨k + 1, by omega, by go_num, by rw [hnx.out, hv.out]; exact hB, H⟩
                        case measure => simp [intOf]; omega
                · have hc : covAt t ((b - 1 - m : Nat) : Int) k = false := by rw [Bool.eq_false_iff]; intro hc; have := hcov.out.1 hc; rw [wt_at hx.out] at this; omega
                  have hnx := Lib.hid (bckV_no (b := (b : Int)) (L := bkL t b m) hc)
                  go_wp2
                  go_roundw
                  case rel => exact ⟨k + 1, by omega, by go_num, by rw [hnx.out]; exact hB, H⟩
                  case measure => simp [intOf]; omega
              · have hc : covAt t ((b - 1 - m : Nat) : Int) k = false := by rw [Bool.eq_false_iff]; intro hc; have := hcov.out.1 hc; rw [fr_at hx.out] at this; omega
                have hnx := Lib.hid (bckV_no (b := (b : Int)) (L := bkL t b m) hc)
                go_wp2
                go_roundw
                case rel => exact ⟨k + 1, by omega, by go_num, by rw [hnx.out]; exact hB, H⟩
                case measure => simp [intOf]; omega
            · obtain rfl : k = t.length := by omega
              go_wp2
              go_roundw
              case rel => exact ⟨m + 1, by omega, by rw [show (b : Int) - 1 - ((m + 1 : Nat) : Int) = ((b - 1 - m : Nat) : Int) - 1 by omega], hB, H⟩
              case measure => simp only [intOf]; omega
        · obtain rfl : m = b - a := by omega
          have ei : (b : Int) - 1 - ((b - a : Nat) : Int) = (a : Int) - 1 := by omega
          rw [ei]
          clear ei
          have hfin := Lib.hid (show bF t b a = (bkL t b (b - a)).getD a 0 by unfold bF; rw [if_pos hab])
          have hcell := hB.icell a (by omega)
          have ha49 : (a : Int) < 49 := by omega
          clear hil
          generalize (bkL t b (b - a)).getD a 0 = v at *
          go_wp2
          go_ret
          exact ⟨by rw [hfin.out]; rfl, H⟩
    · rw [cheap_none hok (by omega)]
      have habI : (b : Int) ≤ (a : Int) := by omega
      go_enter Try.func22, Try.ntmps22
      go_wp2_with fail
      refine (sIsW_c _ _ _ _ _ _ hr hl).mono ?_
      rintro e w1 ⟨rfl, H⟩
      have HG := H.alloc H.size (.cells (ints (List.replicate 49 (0 : Int))).toArray 3)
      go_wp2
      clear hmk hok
      go_loopw [8] (fun i wr => i = .int .i64 ((b : Int) - 1) ∧ Below w.heap.size w wr) (fun i _ => 0)
      case atStart => exact ⟨rfl, HG⟩
      case round =>
        clear HG H
        obtain ⟨rfl, H⟩ := hrel
        go_wp2
        go_ret
        exact ⟨rfl, H⟩
end Go.Proofs.Ytcmealoppnpdcaa
