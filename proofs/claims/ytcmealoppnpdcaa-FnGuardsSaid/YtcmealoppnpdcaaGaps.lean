/- GapsIn and IsWatched, both. -/
import Derived.Test.YtcmealoppnpdcaaOk
import Derived.Test.YtcmealoppnpdcaaOwn
namespace Go.Proofs.Ytcmealoppnpdcaa
open Go.ChangeShapes Go.WideShapes Go.ChangeAt Go.RowKit
set_option linter.unusedVariables false

theorem gapsL_no {t : Wf} {a b : Int} (h : okW t a b = false) : gapsL t a b = [] := by unfold gapsL; rw [h]; rfl
theorem gapsL_yes {t : Wf} {a b : Int} (h : okW t a b = true) : gapsL t a b = gapsP t a (b - a).toNat := by unfold gapsL; rw [h]; rfl
theorem gaps_hit {t : Wf} {a : Int} {n : Nat} (h : seenP t (a + n) = true) : gapsP t a (n + 1) = gapsP t a n := by rw [gapsP_succ, if_pos h, List.append_nil]
theorem gaps_miss {t : Wf} {a : Int} {n : Nat} (h : seenP t (a + n) = false) : gapsP t a (n + 1) = gapsP t a n ++ [a + (n : Int)] := by rw [gapsP_succ, if_neg (by rw [h]; simp)]
theorem any_step {t : Wf} {h : Int} {j : Nat} {x y z : Int} (hx : t[j]? = some (x, y, z)) : anyTo (covAt t h) (j + 1) = (anyTo (covAt t h) j || (decide (x ≤ h) && decide (h < y))) := by
  show (anyTo (covAt t h) j || covAt t h j) = _
  unfold covAt
  rw [fr_at hx, wt_at hx]
theorem any_all {t : Wf} {h : Int} {j : Nat} (h1 : j ≤ t.length) (h2 : ¬ j < t.length) : anyTo (covAt t h) j = seenP t h := by
  obtain rfl : j = t.length := by omega
  rfl

theorem watchOk_c (A : Option Addr) (c : Nat) (t : Wf) (a b : Int) (w : World) (hr : RdI w w.heap.size A (flat3 t)) (hl : t.length ≤ 1048576) :
    Calls Try.prog 33 #[.slice A t.length c, .int .i64 a, .int .i64 b] w fun e w' => e = .returned (.bool (okW t a b)) ∧ Below w.heap.size w w' := by
  unfold okW
  cases h1 : watB t
  · go_enter Try.func33, Try.ntmps33
    go_wp2_with fail
    refine (iOk_c _ _ _ _ hr hl).mono ?_
    rintro e w1 ⟨rfl, b⟩
    go_wp2
    go_ret
    exact ⟨rfl, b⟩
  · cases h2 : inB a 0 48
    all_goals
      go_enter Try.func33, Try.ntmps33
      go_wp2_with fail
      refine (iOk_c _ _ _ _ hr hl).mono ?_
      rintro e w1 ⟨rfl, b⟩
      go_wp2_with (go_at_call 31; refine (within_c _ _ _ _).mono ?_; rintro e w' ⟨rfl, rfl⟩)
      go_ret
      exact ⟨by simp, b⟩

set_option maxHeartbeats 4000000 in
theorem iGaps_c (A : Option Addr) (c : Nat) (t : Wf) (a b : Int) (w : World) (hr : RdI w w.heap.size A (flat3 t)) (hl : t.length ≤ 1048576) :
    Calls Try.prog 17 #[.slice A t.length c, .int .i64 a, .int .i64 b] w (RetI w (gapsL t a b)) := by
  cases hok : okW t a b
  · rw [gapsL_no hok]
    go_enter Try.func17, Try.ntmps17
    go_wp2_with fail
    refine (watchOk_c _ _ _ _ _ _ hr hl).mono ?_
    rintro e w1 ⟨rfl, H⟩
    go_wp2
    go_ret
    exact ⟨none, 0, rfl, World.ownsRow_nil _ _ _ _, H⟩
  · rw [gapsL_yes hok]
    obtain ⟨_, a0, a1, b0, b1⟩ := okW_b hok
    go_enter Try.func17, Try.ntmps17
    go_wp2_with fail
    refine (watchOk_c _ _ _ _ _ _ hr hl).mono ?_
    rintro e w1 ⟨rfl, hH⟩
    have hE : OwnI w1 w.heap.size none 0 [] := World.ownsRow_nil _ _ _ _
    go_wp2
    clear hok
    go_loopw [7, 8] (fun s i wr => ∃ (n : Nat) (A : Option Addr) (c : Nat), n ≤ (b - a).toNat ∧ i = .int .i64 (a + n) ∧ s = .slice A (gapsP t a n).length c ∧ OwnI wr w.heap.size A c (gapsP t a n) ∧ Below w.heap.size w wr) (fun _ i _ => (b - intOf i).toNat)
    case atStart => exact ⟨0, _, _, Nat.zero_le _, by simp, rfl, hE, hH⟩
    case round =>
      clear hE hH
      obtain ⟨n, A, cc, hn, rfl, rfl, hO, H⟩ := hrel
      by_cases hlt : a + (n : Int) < b
      · obtain ⟨wo, rfl⟩ : ∃ wo : World, wo = wr := ⟨_, rfl⟩
        have hgl := gapsP_len t a n
        go_wp2
        go_loopw [9, 25] (fun s i wx => ∃ j : Nat, j ≤ t.length ∧ i = .int .i64 j ∧ s = .bool (anyTo (covAt t (a + n)) j) ∧ Below wo.heap.size wo wx) (fun _ i _ => t.length - (intOf i).toNat)
        case atStart => exact ⟨0, Nat.zero_le _, rfl, rfl, Below.refl _ _⟩
        case round =>
          obtain ⟨j, hj, rfl, rfl, G⟩ := hrel
          by_cases hlj : j < t.length
          · obtain ⟨g, off, x, y, z, rfl, hg, hc0, hc1, hc2, hx⟩ := (hr.at_world (chain H G (Nat.le_refl _))).at3 hlj
            have hs := Lib.hid (any_step (h := a + n) hx.out)
            cases hany : anyTo (covAt t (a + n)) j
            · rw [hany, Bool.false_or] at hs
              by_cases h1 : x ≤ a + n
              · by_cases h2 : a + n < y
                · replace hs := Lib.hid (show anyTo (covAt t (a + n)) (j + 1) = true by rw [hs.out, decide_eq_true h1, decide_eq_true h2]; rfl)
                  go_wp2
                  go_roundw
                  case rel => exact ⟨j + 1, by omega, by go_num, by rw [hs.out], G.alloc G.size _⟩
                  case measure => simp [intOf]; omega
                · replace hs := Lib.hid (show anyTo (covAt t (a + n)) (j + 1) = false by rw [hs.out, decide_eq_false h2, Bool.and_false])
                  have hd2 : decide (a + (n : Int) < y) = false := decide_eq_false h2
                  clear h2
                  go_wp2
                  go_roundw
                  case rel => exact ⟨j + 1, by omega, by go_num, by rw [hs.out], G.alloc G.size _⟩
                  case measure => simp [intOf]; omega
              · replace hs := Lib.hid (show anyTo (covAt t (a + n)) (j + 1) = false by rw [hs.out, decide_eq_false h1]; rfl)
                have hd1 : decide (x ≤ a + (n : Int)) = false := decide_eq_false h1
                clear h1
                go_wp2
                go_roundw
                case rel => exact ⟨j + 1, by omega, by go_num, by rw [hs.out], G.alloc G.size _⟩
                case measure => simp [intOf]; omega
            · replace hs := Lib.hid (show anyTo (covAt t (a + n)) (j + 1) = true by rw [hs.out, hany]; rfl)
              go_wp2
              go_roundw
              case rel => exact ⟨j + 1, by omega, by go_num, by rw [hs.out], G.alloc G.size _⟩
              case measure => simp [intOf]; omega
          · replace H := chain H G (Nat.le_refl _)
            replace hO := hO.next G
            clear G
            cases hseen : seenP t (a + n)
            · have hany := (any_all (h := a + n) hj hlj).trans hseen
              have hst := Lib.hid (gaps_miss hseen)
              have hO0 := hO
              have hsz1 := H.size
              have hone : RdI (wr.alloc (.cells #[.int .i64 (a + n)] 3)) (wr.alloc (.cells #[.int .i64 (a + n)] 3)).heap.size (some ⟨wr.heap.size, 0, none⟩) [a + (n : Int)] := RdI.of_ints (xs := [a + (n : Int)]) (Blk.new _ _ _)
              have hOa : OwnI (wr.alloc (.cells #[.int .i64 (a + n)] 3)) w.heap.size A cc (gapsP t a n) := World.ownsRow.alloc hO _
              clear hseen
              go_wp2_with (first | (at_builtin; refine wpList_append_rd _ rfl (.tmp 45) (.tmp 47) rfl w.heap.size A (gapsP t a n).length cc (gapsP t a n) rfl rfl hOa (wr.alloc (.cells #[.int .i64 (a + n)] 3)).heap.size (some ⟨wr.heap.size, 0, none⟩) 1 1 [a + (n : Int)] rfl rfl hone (by simp; omega) (by simp; omega) ?_; intro A' c' w1 hOn hgr hat) | fail)
              go_roundw
              case rel =>
                refine ⟨n + 1, A', c', by omega, by go_num, ?_, ?_, ?_⟩
                · rw [hst.out, List.length_append]; rfl
                · rw [hst.out]; exact hOn
                · exact (H.alloc H.size _).grown hgr (by simp; omega) (fun k' hk' => (World.ownsRow.lt hO0 k' hk').1)
              case measure => simp [intOf]; omega
            · have hany := (any_all (h := a + n) hj hlj).trans hseen
              have hst := Lib.hid (gaps_hit hseen)
              clear hseen
              go_wp2
              go_roundw
              case rel => exact ⟨n + 1, A, cc, by omega, by go_num, by rw [hst.out], by rw [hst.out]; exact hO, H⟩
              case measure => simp [intOf]; omega
      · have hfin := Lib.hid (show (b - a).toNat = n by omega)
        go_wp2
        go_ret
        exact ⟨_, _, by rw [hfin.out]; rfl, by rw [hfin.out]; exact hO, H⟩
set_option maxHeartbeats 4000000 in
theorem sGaps_c (A : Option Addr) (c : Nat) (t : Wf) (a b : Int) (w : World) (hr : RdI w w.heap.size A (flat3 t)) (hl : t.length ≤ 1048576) :
    Calls Try.prog 16 #[.slice A t.length c, .int .i64 a, .int .i64 b] w (RetI w (gapsL t a b)) := by
  have hE : OwnI (w.alloc (.cells #[] 3)) w.heap.size (some ⟨w.heap.size, 0, none⟩) 0 [] := OwnI.of_blk (xs := []) (Nat.le_refl _) (by unfold maxLen; simp) (Blk.new _ _ _)
  have hH := (Below.refl w.heap.size w).alloc (Nat.le_refl _) (.cells #[] 3)
  cases hok : okW t a b
  · rw [gapsL_no hok]
    unfold okW at hok
    cases h1 : watB t
    · clear hok
      go_enter Try.func16, Try.ntmps16
      go_wp2_with fail
      refine (sOk_c _ _ _ _ (hr.at_world hH) hl).mono ?_
      rintro e w1 ⟨rfl, bb⟩
      replace hE := hE.next bb
      replace hH := chain hH bb (Nat.le_refl _)
      clear bb
      go_wp2
      go_ret
      exact ⟨_, _, rfl, hE, hH⟩
    · cases h2 : inB a 0 48
      · clear hok
        go_enter Try.func16, Try.ntmps16
        go_wp2_with fail
        refine (sOk_c _ _ _ _ (hr.at_world hH) hl).mono ?_
        rintro e w1 ⟨rfl, bb⟩
        replace hE := hE.next bb
        replace hH := chain hH bb (Nat.le_refl _)
        clear bb
        go_wp2_with (go_at_call 29; refine (l01In_c _ _ _ _).mono ?_; rintro e w' ⟨rfl, rfl⟩)
        go_ret
        exact ⟨_, _, rfl, hE, hH⟩
      · have h3 : inB b 0 48 = false := by rw [h1, h2] at hok; exact hok
        clear hok
        go_enter Try.func16, Try.ntmps16
        go_wp2_with fail
        refine (sOk_c _ _ _ _ (hr.at_world hH) hl).mono ?_
        rintro e w1 ⟨rfl, bb⟩
        replace hE := hE.next bb
        replace hH := chain hH bb (Nat.le_refl _)
        clear bb
        go_wp2_with (go_at_call 29; refine (l01In_c _ _ _ _).mono ?_; rintro e w' ⟨rfl, rfl⟩)
        go_ret
        exact ⟨_, _, rfl, hE, hH⟩
  · rw [gapsL_yes hok]
    obtain ⟨_, a0, a1, b0, b1⟩ := okW_b hok
    unfold okW at hok
    simp only [Bool.and_eq_true] at hok
    obtain ⟨⟨h1, h2⟩, h3⟩ := hok
    go_enter Try.func16, Try.ntmps16
    go_wp2_with fail
    refine (sOk_c _ _ _ _ (hr.at_world hH) hl).mono ?_
    rintro e w1 ⟨rfl, bb⟩
    replace hE := hE.next bb
    replace hH := chain hH bb (Nat.le_refl _)
    clear bb
    go_wp2_with (go_at_call 29; refine (l01In_c _ _ _ _).mono ?_; rintro e w' ⟨rfl, rfl⟩)
    clear h1 h2 h3
    go_loopw [7, 8] (fun s i wr => ∃ (n : Nat) (A : Option Addr) (c : Nat), n ≤ (b - a).toNat ∧ i = .int .i64 (a + n) ∧ s = .slice A (gapsP t a n).length c ∧ OwnI wr w.heap.size A c (gapsP t a n) ∧ Below w.heap.size w wr) (fun _ i _ => (b - intOf i).toNat)
    case atStart => exact ⟨0, _, _, Nat.zero_le _, by simp, rfl, hE, hH⟩
    case round =>
      clear hE hH
      obtain ⟨n, A, cc, hn, rfl, rfl, hO, H⟩ := hrel
      by_cases hlt : a + (n : Int) < b
      · obtain ⟨wo, rfl⟩ : ∃ wo : World, wo = wr := ⟨_, rfl⟩
        have hgl := gapsP_len t a n
        go_wp2
        go_loopw [9, 10] (fun s i wx => ∃ j : Nat, j ≤ t.length ∧ i = .int .i64 j ∧ s = .bool (anyTo (covAt t (a + n)) j) ∧ Below wo.heap.size wo wx) (fun _ i _ => t.length - (intOf i).toNat)
        case atStart => exact ⟨0, Nat.zero_le _, rfl, rfl, Below.refl _ _⟩
        case round =>
          obtain ⟨j, hj, rfl, rfl, G⟩ := hrel
          by_cases hlj : j < t.length
          · obtain ⟨g, off, x, y, z, rfl, hg, hc0, hc1, hc2, hx⟩ := (hr.at_world (chain H G (Nat.le_refl _))).at3 hlj
            have hs := Lib.hid (any_step (h := a + n) hx.out)
            cases hany : anyTo (covAt t (a + n)) j
            · rw [hany, Bool.false_or] at hs
              by_cases h1 : x ≤ a + n
              · by_cases h2 : a + n < y
                · replace hs := Lib.hid (show anyTo (covAt t (a + n)) (j + 1) = true by rw [hs.out, decide_eq_true h1, decide_eq_true h2]; rfl)
                  go_wp2
                  go_roundw
                  case rel => exact ⟨j + 1, by omega, by go_num, by rw [hs.out], G⟩
                  case measure => simp [intOf]; omega
                · replace hs := Lib.hid (show anyTo (covAt t (a + n)) (j + 1) = false by rw [hs.out, decide_eq_false h2, Bool.and_false])
                  have hd2 : decide (a + (n : Int) < y) = false := decide_eq_false h2
                  clear h2
                  go_wp2
                  go_roundw
                  case rel => exact ⟨j + 1, by omega, by go_num, by rw [hs.out], G⟩
                  case measure => simp [intOf]; omega
              · replace hs := Lib.hid (show anyTo (covAt t (a + n)) (j + 1) = false by rw [hs.out, decide_eq_false h1]; rfl)
                have hd1 : decide (x ≤ a + (n : Int)) = false := decide_eq_false h1
                clear h1
                go_wp2
                go_roundw
                case rel => exact ⟨j + 1, by omega, by go_num, by rw [hs.out], G⟩
                case measure => simp [intOf]; omega
            · replace hs := Lib.hid (show anyTo (covAt t (a + n)) (j + 1) = true by rw [hs.out, hany]; rfl)
              go_wp2
              go_roundw
              case rel => exact ⟨j + 1, by omega, by go_num, by rw [hs.out], G⟩
              case measure => simp [intOf]; omega
          · replace H := chain H G (Nat.le_refl _)
            replace hO := hO.next G
            clear G
            cases hseen : seenP t (a + n)
            · have hany := (any_all (h := a + n) hj hlj).trans hseen
              have hst := Lib.hid (gaps_miss hseen)
              have hO0 := hO
              have hsz1 := H.size
              have hone : RdI (wr.alloc (.cells #[.int .i64 (a + n)] 3)) (wr.alloc (.cells #[.int .i64 (a + n)] 3)).heap.size (some ⟨wr.heap.size, 0, none⟩) [a + (n : Int)] := RdI.of_ints (xs := [a + (n : Int)]) (Blk.new _ _ _)
              have hOa : OwnI (wr.alloc (.cells #[.int .i64 (a + n)] 3)) w.heap.size A cc (gapsP t a n) := World.ownsRow.alloc hO _
              clear hseen
              go_wp2_with (first | (at_builtin; refine wpList_append_rd _ rfl (.tmp 59) (.tmp 61) rfl w.heap.size A (gapsP t a n).length cc (gapsP t a n) rfl rfl hOa (wr.alloc (.cells #[.int .i64 (a + n)] 3)).heap.size (some ⟨wr.heap.size, 0, none⟩) 1 1 [a + (n : Int)] rfl rfl hone (by simp; omega) (by simp; omega) ?_; intro A' c' w1 hOn hgr hat) | fail)
              go_roundw
              case rel =>
                refine ⟨n + 1, A', c', by omega, by go_num, ?_, ?_, ?_⟩
                · rw [hst.out, List.length_append]; rfl
                · rw [hst.out]; exact hOn
                · exact (H.alloc H.size _).grown hgr (by simp; omega) (fun k' hk' => (World.ownsRow.lt hO0 k' hk').1)
              case measure => simp [intOf]; omega
            · have hany := (any_all (h := a + n) hj hlj).trans hseen
              have hst := Lib.hid (gaps_hit hseen)
              clear hseen
              go_wp2
              go_roundw
              case rel => exact ⟨n + 1, A, cc, by omega, by go_num, by rw [hst.out], by rw [hst.out]; exact hO, H⟩
              case measure => simp [intOf]; omega
      · have hfin := Lib.hid (show (b - a).toNat = n by omega)
        go_wp2
        go_ret
        exact ⟨_, _, by rw [hfin.out]; rfl, by rw [hfin.out]; exact hO, H⟩

theorem isW_no {t : Wf} {a b : Int} (h : okW t a b = false) : isW t a b = false := by unfold isW; rw [h]; rfl
theorem isW_yes {t : Wf} {a b : Int} (h : okW t a b = true) : isW t a b = (((gapsL t a b).length : Int) == 0) := by unfold isW; rw [h]; rfl
set_option maxHeartbeats 1000000 in
theorem iIsW_c (A : Option Addr) (c : Nat) (t : Wf) (a b : Int) (w : World) (hr : RdI w w.heap.size A (flat3 t)) (hl : t.length ≤ 1048576) :
    Calls Try.prog 15 #[.slice A t.length c, .int .i64 a, .int .i64 b] w fun e w' => e = .returned (.bool (isW t a b)) ∧ Below w.heap.size w w' := by
  cases hok : okW t a b
  · rw [isW_no hok]
    go_enter Try.func15, Try.ntmps15
    go_wp2_with fail
    refine (watchOk_c _ _ _ _ _ _ hr hl).mono ?_
    rintro e w1 ⟨rfl, H⟩
    go_wp2
    go_ret
    exact ⟨rfl, H⟩
  · rw [isW_yes hok]
    generalize hq : (((gapsL t a b).length : Int) == 0) = q
    go_enter Try.func15, Try.ntmps15
    go_wp2_with fail
    refine (watchOk_c _ _ _ _ _ _ hr hl).mono ?_
    rintro e w1 ⟨rfl, H⟩
    go_wp2_with fail
    refine (iGaps_c _ _ _ _ _ _ (hr.at_world H) hl).mono ?_
    rintro e w2 ⟨A', c', rfl, -, b2⟩
    replace H := chain H b2 (Nat.le_refl _)
    go_wp2
    go_ret
    exact ⟨rfl, H⟩
set_option maxHeartbeats 1000000 in
theorem sIsW_c (A : Option Addr) (c : Nat) (t : Wf) (a b : Int) (w : World) (hr : RdI w w.heap.size A (flat3 t)) (hl : t.length ≤ 1048576) :
    Calls Try.prog 14 #[.slice A t.length c, .int .i64 a, .int .i64 b] w fun e w' => e = .returned (.bool (isW t a b)) ∧ Below w.heap.size w w' := by
  cases hok : okW t a b
  · rw [isW_no hok]
    unfold okW at hok
    cases h1 : watB t
    · clear hok
      go_enter Try.func14, Try.ntmps14
      go_wp2_with fail
      refine (sOk_c _ _ _ _ hr hl).mono ?_
      rintro e w1 ⟨rfl, H⟩
      go_wp2
      go_ret
      exact ⟨rfl, H⟩
    · cases h2 : inB a 0 48
      · clear hok
        go_enter Try.func14, Try.ntmps14
        go_wp2_with fail
        refine (sOk_c _ _ _ _ hr hl).mono ?_
        rintro e w1 ⟨rfl, H⟩
        go_wp2_with (go_at_call 29; refine (l01In_c _ _ _ _).mono ?_; rintro e w' ⟨rfl, rfl⟩)
        go_ret
        exact ⟨rfl, H⟩
      · have h3 : inB b 0 48 = false := by rw [h1, h2] at hok; exact hok
        clear hok
        go_enter Try.func14, Try.ntmps14
        go_wp2_with fail
        refine (sOk_c _ _ _ _ hr hl).mono ?_
        rintro e w1 ⟨rfl, H⟩
        go_wp2_with (go_at_call 29; refine (l01In_c _ _ _ _).mono ?_; rintro e w' ⟨rfl, rfl⟩)
        go_ret
        exact ⟨rfl, H⟩
  · rw [isW_yes hok]
    generalize hq : (((gapsL t a b).length : Int) == 0) = q
    unfold okW at hok
    simp only [Bool.and_eq_true] at hok
    obtain ⟨⟨h1, h2⟩, h3⟩ := hok
    go_enter Try.func14, Try.ntmps14
    go_wp2_with fail
    refine (sOk_c _ _ _ _ hr hl).mono ?_
    rintro e w1 ⟨rfl, H⟩
    go_wp2_with fail
    refine (l01In_c _ _ _ _).mono ?_
    rintro e w' ⟨rfl, rfl⟩
    go_wp2_with fail
    refine (l01In_c _ _ _ _).mono ?_
    rintro e w' ⟨rfl, rfl⟩
    go_wp2_with fail
    refine (sGaps_c _ _ _ _ _ _ (hr.at_world H) hl).mono ?_
    rintro e w2 ⟨A', c', rfl, -, b2⟩
    replace H := chain H b2 (Nat.le_refl _)
    go_wp2
    go_ret
    exact ⟨rfl, H⟩
end Go.Proofs.Ytcmealoppnpdcaa
