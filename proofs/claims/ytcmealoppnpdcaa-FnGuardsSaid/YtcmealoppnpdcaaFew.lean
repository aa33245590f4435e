/- FewestWatches, both. -/
import Derived.Test.YtcmealoppnpdcaaGaps
namespace Go.Proofs.Ytcmealoppnpdcaa
open Go.ChangeShapes Go.WideShapes Go.ChangeAt Go.RowKit
set_option linter.unusedVariables false

def RetIB (w : World) (xs : List Int) (bv : Bool) (e : Ending) (w' : World) : Prop := ∃ A c, e = .returned (.tuple #[.slice A xs.length c, .bool bv]) ∧ OwnI w' w.heap.size A c xs ∧ Below w.heap.size w w'
theorem best_hit {t : Wf} {h : Int} {j : Nat} {x y z : Int} (hx : t[j]? = some (x, y, z)) (h1 : x ≤ h) (h2 : h < y) (h3 : bestP t h j < 0 ∨ wt t (bestP t h j).toNat < y) : bestP t h (j + 1) = (j : Int) := by
  rw [bestP_succ, wt_at hx, (cov_iff t h j).2 (by rw [fr_at hx, wt_at hx]; exact ⟨h1, h2⟩), if_pos]
  rcases h3 with h3 | h3
  · rw [decide_eq_true h3]; rfl
  · rw [decide_eq_true h3, Bool.or_true]; rfl
theorem best_miss {t : Wf} {h : Int} {j : Nat} {x y z : Int} (hx : t[j]? = some (x, y, z)) (h3 : ¬ x ≤ h ∨ ¬ h < y ∨ (¬ bestP t h j < 0 ∧ ¬ wt t (bestP t h j).toNat < y)) : bestP t h (j + 1) = bestP t h j := by
  rw [bestP_succ, wt_at hx, if_neg]
  rcases h3 with h3 | h3 | h3
  · unfold covAt; rw [fr_at hx, decide_eq_false h3]; simp
  · unfold covAt; rw [wt_at hx, decide_eq_false h3]; simp
  · rw [decide_eq_false h3.1, decide_eq_false h3.2]; simp
theorem fewL_no {t : Wf} {a b : Int} (h : isW t a b = false) : fewL t a b = [] := by unfold fewL; rw [h]; rfl
theorem fewL_yes {t : Wf} {a b : Int} (h : isW t a b = true) : fewL t a b = fewP t b 49 a := by unfold fewL; rw [h]; rfl

set_option maxHeartbeats 4000000 in
theorem iFew_c (A : Option Addr) (c : Nat) (t : Wf) (a b : Int) (w : World) (hr : RdI w w.heap.size A (flat3 t)) (hl : t.length ≤ 1048576) :
    Calls Try.prog 25 #[.slice A t.length c, .int .i64 a, .int .i64 b] w (RetIB w (fewL t a b) (isW t a b)) := by
  cases hok : isW t a b
  · rw [fewL_no hok]
    go_enter Try.func25, Try.ntmps25
    go_wp2_with fail
    refine (iIsW_c _ _ _ _ _ _ hr hl).mono ?_
    rintro e w1 ⟨rfl, H⟩
    go_wp2
    go_ret2
    exact ⟨none, 0, rfl, World.ownsRow_nil _ _ _ _, H⟩
  · rw [fewL_yes hok]
    obtain ⟨hWB, a0, a1, b0, b1, hcov⟩ := isW_b hok
    have hcov' := Lib.hid hcov
    have hf' := Lib.hid (wat_b t hWB).2
    have h16 := (wat_b t hWB).1
    clear hcov hWB
    go_enter Try.func25, Try.ntmps25
    go_wp2_with fail
    refine (iIsW_c _ _ _ _ _ _ hr hl).mono ?_
    rintro e w1 ⟨rfl, hH⟩
    have hE : OwnI w1 w.heap.size none 0 [] := World.ownsRow_nil _ _ _ _
    go_wp2
    clear hok
    go_loopw [8, 9] (fun s i wr => ∃ (n : Nat) (h : Int) (acc : List Int) (A1 : Option Addr) (c1 : Nat), a ≤ h ∧ (b - h ≤ n ∧ h ≤ 48) ∧ acc.length + n ≤ 49 ∧ i = .int .i64 h ∧ s = .slice A1 acc.length c1 ∧ OwnI wr w.heap.size A1 c1 acc ∧ Hid (fewP t b 49 a = acc ++ fewP t b n h) ∧ Below w.heap.size w wr) (fun _ i _ => (b - intOf i).toNat)
    case atStart => exact ⟨49, a, [], _, _, Int.le_refl _, by omega, by simp, rfl, rfl, hE, rfl, hH⟩
    case round =>
      clear hE hH
      obtain ⟨n1, h, acc, A1, cc, ha0, ⟨hn, h48⟩, hal, rfl, rfl, hO, hq, H⟩ := hrel
      by_cases hlt : h < b
      · obtain ⟨n, rfl⟩ : ∃ n, n1 = n + 1 := ⟨n1 - 1, by omega⟩
        obtain ⟨wo, rfl⟩ : ∃ wo : World, wo = wr := ⟨_, rfl⟩
        obtain ⟨k0, hk0, -⟩ := hcov'.out h ha0 hlt
        obtain ⟨g, off, X0, Y0, Z0, rfl, hg, -, -, -, -⟩ := hr.at3 hk0
        clear hk0
        go_wp2
        go_loopw [10, 24] (fun s i wx => ∃ j : Nat, j ≤ t.length ∧ i = .int .i64 j ∧ s = .int .i64 (bestP t h j) ∧ Below wo.heap.size wo wx) (fun _ i _ => t.length - (intOf i).toNat)
        case atStart => exact ⟨0, Nat.zero_le _, rfl, rfl, Below.refl _ _⟩
        case round =>
          obtain ⟨j, hj, rfl, rfl, G⟩ := hrel
          by_cases hlj : j < t.length
          · obtain ⟨x, y, z, -, hc0, hc1, hc2, hx⟩ := (hr.at_world (chain H G (Nat.le_refl _))).at3C hlj
            have hgw : g < wr.heap.size := Nat.lt_of_lt_of_le (Nat.lt_of_lt_of_le hg H.size) G.size
            have hjI : (j : Int) < (t.length : Int) := by omega
            by_cases h1 : x ≤ h
            · by_cases h2 : h < y
              · obtain ⟨hb0, hb1, -⟩ := bestP_b t h j
                by_cases h3 : bestP t h j < 0
                · have hs := Lib.hid (best_hit hx.out h1 h2 (.inl h3))
                  generalize bestP t h j = B at *
                  go_wp2
                  go_quiet (fail)
                  go_wp2
                  go_roundw
                  case rel => exact ⟨j + 1, by omega, by go_num, by rw [hs.out], below_drewN (G.alloc G.size _) _⟩
                  case measure => simp [intOf]; omega
                · obtain ⟨m, hm⟩ := Int.eq_ofNat_of_zero_le (show 0 ≤ bestP t h j by omega)
                  have hml : m < t.length := by omega
                  obtain ⟨x', y', z', -, hC0, hC1, hC2, hX⟩ := (hr.at_world (chain H G (Nat.le_refl _))).at3C hml
                  clear hC0 hC2
                  have hmt : (bestP t h j).toNat = m := by omega
                  have hm0 : ¬ (m : Int) < 0 := by omega
                  have hmI : (m : Int) < (t.length : Int) := by omega
                  by_cases h4 : y' < y
                  · have hs := Lib.hid (best_hit hx.out h1 h2 (.inr (by rw [hmt, wt_at hX.out]; exact h4)))
                    clear hmt
                    rw [hm] at hb0 hb1 h3 ⊢
                    clear hm
                    go_wp2
                    go_quiet (fail)
                    go_wp2
                    go_roundw
                    case rel => exact ⟨j + 1, by omega, by go_num, by rw [hs.out], below_drewN (G.alloc G.size _) _⟩
                    case measure => simp [intOf]; omega
                  · have hs := Lib.hid ((best_miss hx.out (.inr (.inr ⟨h3, by rw [hmt, wt_at hX.out]; exact h4⟩))).trans hm)
                    clear hmt
                    rw [hm] at hb0 hb1 h3 ⊢
                    clear hm
                    go_wp2
                    go_quiet (fail)
                    go_wp2
                    go_roundw
                    case rel => exact ⟨j + 1, by omega, by go_num, by rw [hs.out], below_drewN (G.alloc G.size _) _⟩
                    case measure => simp [intOf]; omega
              · have hs := Lib.hid (best_miss hx.out (.inr (.inl h2)))
                have hd2 : decide (h < y) = false := decide_eq_false h2
                clear h2
                generalize bestP t h j = B at *
                go_wp2
                go_quiet (fail)
                go_wp2
                go_roundw
                case rel => exact ⟨j + 1, by omega, by go_num, by rw [hs.out], below_drewN (G.alloc G.size _) _⟩
                case measure => simp [intOf]; omega
            · have hs := Lib.hid (best_miss hx.out (.inl h1))
              have hd1 : decide (x ≤ h) = false := decide_eq_false h1
              clear h1
              generalize bestP t h j = B at *
              go_wp2
              go_quiet (fail)
              go_wp2
              go_roundw
              case rel => exact ⟨j + 1, by omega, by go_num, by rw [hs.out], below_drewN (G.alloc G.size _) _⟩
              case measure => simp [intOf]; omega
          · obtain rfl : j = t.length := by omega
            replace H := chain H G (Nat.le_refl _)
            replace hO := hO.next G
            clear G
            obtain ⟨k, hk, hk1, hk2⟩ := hcov'.out h ha0 hlt
            obtain ⟨hv0, -⟩ := bestP_max t h t.length k hk ((cov_iff _ _ _).2 ⟨hk1, hk2⟩)
            obtain ⟨-, hv1, hv2⟩ := bestP_b t h t.length
            have hv3 := (cov_iff _ _ _).1 (hv2 hv0)
            obtain ⟨m, hm⟩ := Int.eq_ofNat_of_zero_le hv0
            have hml : m < t.length := by omega
            have hstep := Lib.hid (fewP_step t b n h hlt)
            have hmt : (bestP t h t.length).toNat = m := by omega
            have hw48 := (hf'.out m hml).2.2.1
            rw [hmt] at hv3
            have hstep' := Lib.hid (show fewP t b (n + 1) h = (m : Int) :: fewP t b n (wt t m) by rw [hstep.out, hmt, hm])
            clear hv2 hv1 hv0 hstep hmt hk1 hk2 hk
            rw [hm]
            clear hm
            have hO0 := hO
            have hsz1 := H.size
            have hone : RdI (wr.alloc (.cells #[.int .i64 m] 3)) (wr.alloc (.cells #[.int .i64 m] 3)).heap.size (some ⟨wr.heap.size, 0, none⟩) [(m : Int)] := RdI.of_ints (xs := [(m : Int)]) (Blk.new _ _ _)
            have hOa : OwnI (wr.alloc (.cells #[.int .i64 m] 3)) w.heap.size A1 cc acc := World.ownsRow.alloc hO _
            go_wp2_with (first | (at_builtin; refine wpList_append_rd _ rfl (.tmp 55) (.tmp 57) rfl w.heap.size A1 acc.length cc acc rfl rfl hOa (wr.alloc (.cells #[.int .i64 m] 3)).heap.size (some ⟨wr.heap.size, 0, none⟩) 1 1 [(m : Int)] rfl rfl hone (by simp; omega) (by simp; omega) ?_; intro A' c' w1 hOn hgr hat; (have HB : Below w.heap.size w w1 := (H.alloc H.size _).grown hgr (by simp; omega) (fun k' hk' => (World.ownsRow.lt hO0 k' hk').1)); (obtain ⟨X, Y, Z, hC⟩ := (hr.below HB (Nat.le_refl _)).at3C hml); (have hC1 := hC.2.2.1); (have hYY := Lib.hid (wt_at hC.2.2.2.2.out)); clear hC) | fail)
            go_roundw
            case rel =>
              refine ⟨n, Y, acc ++ [(m : Int)], A', c', ?_, ?_, ?_, ?_, ?_, hOn, ?_, HB⟩
              · rw [← hYY.out]; omega
              · rw [← hYY.out]; omega
              · rw [List.length_append]; show acc.length + 1 + n ≤ 49; omega
              · rfl
              · rw [List.length_append]; rfl
              · show fewP t b 49 a = acc ++ [(m : Int)] ++ fewP t b n Y
                rw [hq.out, hstep'.out, hYY.out, List.append_assoc]; rfl
            case measure => rw [hYY.out] at hv3; simp [intOf]; omega
      · have hfin := Lib.hid (show fewP t b 49 a = acc by rw [hq.out, fewP_end _ _ _ _ (by omega), List.append_nil])
        go_wp2
        go_ret2
        exact ⟨_, _, by rw [hfin.out]; rfl, by rw [hfin.out]; exact hO, H⟩
set_option maxHeartbeats 4000000 in
theorem sFew_c (A : Option Addr) (c : Nat) (t : Wf) (a b : Int) (w : World) (hr : RdI w w.heap.size A (flat3 t)) (hl : t.length ≤ 1048576) :
    Calls Try.prog 24 #[.slice A t.length c, .int .i64 a, .int .i64 b] w (RetIB w (fewL t a b) (isW t a b)) := by
  have hE : OwnI (w.alloc (.cells #[] 3)) w.heap.size (some ⟨w.heap.size, 0, none⟩) 0 [] := OwnI.of_blk (xs := []) (Nat.le_refl _) (by unfold maxLen; simp) (Blk.new _ _ _)
  have hH := (Below.refl w.heap.size w).alloc (Nat.le_refl _) (.cells #[] 3)
  cases hok : isW t a b
  · rw [fewL_no hok]
    go_enter Try.func24, Try.ntmps24
    go_wp2_with fail
    refine (sIsW_c _ _ _ _ _ _ (hr.at_world hH) hl).mono ?_
    rintro e w1 ⟨rfl, bb⟩
    replace hE := hE.next bb
    replace hH := chain hH bb (Nat.le_refl _)
    clear bb
    go_wp2
    go_ret2
    exact ⟨_, _, rfl, hE, hH⟩
  · rw [fewL_yes hok]
    obtain ⟨hWB, a0, a1, b0, b1, hcov⟩ := isW_b hok
    have hcov' := Lib.hid hcov
    have hf' := Lib.hid (wat_b t hWB).2
    have h16 := (wat_b t hWB).1
    clear hcov hWB
    go_enter Try.func24, Try.ntmps24
    go_wp2_with fail
    refine (sIsW_c _ _ _ _ _ _ (hr.at_world hH) hl).mono ?_
    rintro e w1 ⟨rfl, bb⟩
    replace hE := hE.next bb
    replace hH := chain hH bb (Nat.le_refl _)
    clear bb
    go_wp2
    clear hok
    go_loopw [8, 1] (fun s i wr => ∃ (n : Nat) (h : Int) (acc : List Int) (A1 : Option Addr) (c1 : Nat), a ≤ h ∧ (b - h ≤ n ∧ h ≤ 48) ∧ acc.length + n ≤ 49 ∧ i = .int .i64 h ∧ s = .slice A1 acc.length c1 ∧ OwnI wr w.heap.size A1 c1 acc ∧ Hid (fewP t b 49 a = acc ++ fewP t b n h) ∧ Below w.heap.size w wr) (fun _ i _ => (b - intOf i).toNat)
    case atStart => exact ⟨49, a, [], _, _, Int.le_refl _, by omega, by simp, rfl, rfl, hE, rfl, hH⟩
    case round =>
      clear hE hH
      obtain ⟨n1, h, acc, A1, cc, ha0, ⟨hn, h48⟩, hal, rfl, rfl, hO, hq, H⟩ := hrel
      by_cases hlt : h < b
      · obtain ⟨n, rfl⟩ : ∃ n, n1 = n + 1 := ⟨n1 - 1, by omega⟩
        obtain ⟨wo, rfl⟩ : ∃ wo : World, wo = wr := ⟨_, rfl⟩
        obtain ⟨k0, hk0, -⟩ := hcov'.out h ha0 hlt
        obtain ⟨g, off, X0, Y0, Z0, rfl, hg, -, -, -, -⟩ := hr.at3 hk0
        clear hk0
        go_wp2
        go_loopw [9, 10] (fun s i wx => ∃ j : Nat, j ≤ t.length ∧ i = .int .i64 j ∧ s = .int .i64 (bestP t h j) ∧ Below wo.heap.size wo wx) (fun _ i _ => t.length - (intOf i).toNat)
        case atStart => exact ⟨0, Nat.zero_le _, rfl, rfl, Below.refl _ _⟩
        case round =>
          obtain ⟨j, hj, rfl, rfl, G⟩ := hrel
          by_cases hlj : j < t.length
          · obtain ⟨x, y, z, -, hc0, hc1, hc2, hx⟩ := (hr.at_world (chain H G (Nat.le_refl _))).at3C hlj
            have hgw : g < wr.heap.size := Nat.lt_of_lt_of_le (Nat.lt_of_lt_of_le hg H.size) G.size
            have hjI : (j : Int) < (t.length : Int) := by omega
            by_cases h1 : x ≤ h
            · by_cases h2 : h < y
              · obtain ⟨hb0, hb1, -⟩ := bestP_b t h j
                by_cases h3 : bestP t h j < 0
                · have hs := Lib.hid (best_hit hx.out h1 h2 (.inl h3))
                  generalize bestP t h j = B at *
                  go_wp2
                  go_quiet (fail)
                  go_wp2
                  go_roundw
                  case rel => exact ⟨j + 1, by omega, by go_num, by rw [hs.out], below_drewN G _⟩
                  case measure => simp [intOf]; omega
                · obtain ⟨m, hm⟩ := Int.eq_ofNat_of_zero_le (show 0 ≤ bestP t h j by omega)
                  have hml : m < t.length := by omega
                  obtain ⟨x', y', z', -, hC0, hC1, hC2, hX⟩ := (hr.at_world (chain H G (Nat.le_refl _))).at3C hml
                  clear hC0 hC2
                  have hmt : (bestP t h j).toNat = m := by omega
                  have hm0 : ¬ (m : Int) < 0 := by omega
                  have hmI : (m : Int) < (t.length : Int) := by omega
                  by_cases h4 : y' < y
                  · have hs := Lib.hid (best_hit hx.out h1 h2 (.inr (by rw [hmt, wt_at hX.out]; exact h4)))
                    clear hmt
                    rw [hm] at hb0 hb1 h3 ⊢
                    clear hm
                    go_wp2
                    go_quiet (fail)
                    go_wp2
                    go_roundw
                    case rel => exact ⟨j + 1, by omega, by go_num, by rw [hs.out], below_drewN G _⟩
                    case measure => simp [intOf]; omega
                  · have hs := Lib.hid ((best_miss hx.out (.inr (.inr ⟨h3, by rw [hmt, wt_at hX.out]; exact h4⟩))).trans hm)
                    clear hmt
                    rw [hm] at hb0 hb1 h3 ⊢
                    clear hm
                    go_wp2
                    go_quiet (fail)
                    go_wp2
                    go_roundw
                    case rel => exact ⟨j + 1, by omega, by go_num, by rw [hs.out], below_drewN G _⟩
                    case measure => simp [intOf]; omega
              · have hs := Lib.hid (best_miss hx.out (.inr (.inl h2)))
                have hd2 : decide (h < y) = false := decide_eq_false h2
                clear h2
                generalize bestP t h j = B at *
                go_wp2
                go_quiet (fail)
                go_wp2
                go_roundw
                case rel => exact ⟨j + 1, by omega, by go_num, by rw [hs.out], below_drewN G _⟩
                case measure => simp [intOf]; omega
            · have hs := Lib.hid (best_miss hx.out (.inl h1))
              have hd1 : decide (x ≤ h) = false := decide_eq_false h1
              clear h1
              generalize bestP t h j = B at *
              go_wp2
              go_quiet (fail)
              go_wp2
              go_roundw
              case rel => exact ⟨j + 1, by omega, by go_num, by rw [hs.out], below_drewN G _⟩
              case measure => simp [intOf]; omega
          · obtain rfl : j = t.length := by omega
            replace H := chain H G (Nat.le_refl _)
            replace hO := hO.next G
            clear G
            obtain ⟨k, hk, hk1, hk2⟩ := hcov'.out h ha0 hlt
            obtain ⟨hv0, -⟩ := bestP_max t h t.length k hk ((cov_iff _ _ _).2 ⟨hk1, hk2⟩)
            obtain ⟨-, hv1, hv2⟩ := bestP_b t h t.length
            have hv3 := (cov_iff _ _ _).1 (hv2 hv0)
            obtain ⟨m, hm⟩ := Int.eq_ofNat_of_zero_le hv0
            have hml : m < t.length := by omega
            have hstep := Lib.hid (fewP_step t b n h hlt)
            have hmt : (bestP t h t.length).toNat = m := by omega
            have hw48 := (hf'.out m hml).2.2.1
            rw [hmt] at hv3
            have hstep' := Lib.hid (show fewP t b (n + 1) h = (m : Int) :: fewP t b n (wt t m) by rw [hstep.out, hmt, hm])
            clear hv2 hv1 hv0 hstep hmt hk1 hk2 hk
            rw [hm]
            clear hm
            have hO0 := hO
            have hsz1 := H.size
            have hone : RdI (wr.alloc (.cells #[.int .i64 m] 3)) (wr.alloc (.cells #[.int .i64 m] 3)).heap.size (some ⟨wr.heap.size, 0, none⟩) [(m : Int)] := RdI.of_ints (xs := [(m : Int)]) (Blk.new _ _ _)
            have hOa : OwnI (wr.alloc (.cells #[.int .i64 m] 3)) w.heap.size A1 cc acc := World.ownsRow.alloc hO _
            go_wp2_with (first | (at_builtin; refine wpList_append_rd _ rfl (.tmp 61) (.tmp 63) rfl w.heap.size A1 acc.length cc acc rfl rfl hOa (wr.alloc (.cells #[.int .i64 m] 3)).heap.size (some ⟨wr.heap.size, 0, none⟩) 1 1 [(m : Int)] rfl rfl hone (by simp; omega) (by simp; omega) ?_; intro A' c' w1 hOn hgr hat; (have HB : Below w.heap.size w w1 := (H.alloc H.size _).grown hgr (by simp; omega) (fun k' hk' => (World.ownsRow.lt hO0 k' hk').1)); (obtain ⟨X, Y, Z, hC⟩ := (hr.below HB (Nat.le_refl _)).at3C hml); (have hC1 := hC.2.2.1); (have hYY := Lib.hid (wt_at hC.2.2.2.2.out)); clear hC) | fail)
            go_roundw
            case rel =>
              refine ⟨n, Y, acc ++ [(m : Int)], A', c', ?_, ?_, ?_, ?_, ?_, hOn, ?_, HB⟩
              · rw [← hYY.out]; omega
              · rw [← hYY.out]; omega
              · rw [List.length_append]; show acc.length + 1 + n ≤ 49; omega
              · rfl
              · rw [List.length_append]; rfl
              · show fewP t b 49 a = acc ++ [(m : Int)] ++ fewP t b n Y
                rw [hq.out, hstep'.out, hYY.out, List.append_assoc]; rfl
            case measure => rw [hYY.out] at hv3; simp [intOf]; omega
      · have hfin := Lib.hid (show fewP t b 49 a = acc by rw [hq.out, fewP_end _ _ _ _ (by omega), List.append_nil])
        go_wp2
        go_ret2
        exact ⟨_, _, by rw [hfin.out]; rfl, by rw [hfin.out]; exact hO, H⟩
end Go.Proofs.Ytcmealoppnpdcaa
