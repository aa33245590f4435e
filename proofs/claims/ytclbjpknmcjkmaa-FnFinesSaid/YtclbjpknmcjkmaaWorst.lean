/- WorstPerson, both. -/
import Derived.Test.YtclbjpknmcjkmaaFines
namespace Go.Proofs.Ytclbjpknmcjkmaa
open Go.ChangeShapes Go.WideShapes Go.ChangeAt Go.RowKit
set_option linter.unusedVariables false

theorem worst_hit {t : Of} {k : Nat} {x : Int} (hx : pe t k = x) (h : (decide (worstP t k < 0) || beatsP t x (worstP t k)) = true) : worstP t (k + 1) = x := by
  rw [worstP_succ, hx, if_pos h]
theorem worst_miss {t : Of} {k : Nat} {x : Int} (hx : pe t k = x) (h : (decide (worstP t k < 0) || beatsP t x (worstP t k)) = false) : worstP t (k + 1) = worstP t k := by
  rw [worstP_succ, hx, if_neg (by rw [h]; simp)]
theorem worstZ_no {t : Of} (h : offB t = false) : worstZ t = -1 := by unfold worstZ; rw [h]; rfl
theorem worstZ_yes {t : Of} (h : offB t = true) : worstZ t = worstP t t.length := by unfold worstZ; rw [h]; rfl
theorem beats_gt {t : Of} {p w : Int} (h : finesP t w t.length < finesP t p t.length) : beatsP t p w = true := by unfold beatsP; rw [decide_eq_true h]; rfl
theorem beats_eq {t : Of} {p w : Int} (h : finesP t p t.length = finesP t w t.length) (h2 : p < w) : beatsP t p w = true := by unfold beatsP; rw [h, decide_eq_true h2]; simp
theorem beats_no {t : Of} {p w : Int} (h : ¬ finesP t w t.length < finesP t p t.length) (h2 : finesP t p t.length = finesP t w t.length → ¬ p < w) : beatsP t p w = false := by
  unfold beatsP
  rw [decide_eq_false h, Bool.false_or]
  by_cases e : finesP t p t.length = finesP t w t.length
  · rw [decide_eq_false (h2 e), Bool.and_false]
  · rw [beq_eq_false_iff_ne.2 e]; rfl

set_option maxHeartbeats 4000000 in
theorem sWorst_c (A : Option Addr) (c : Nat) (t : Of) (w : World) (hr : RdI w w.heap.size A (flat3 t)) (hl : t.length ≤ 1048576) :
    Calls Try.prog 22 #[.slice A t.length c] w fun e w' => e = .returned (.int .i64 (worstZ t)) ∧ Below w.heap.size w w' := by
  cases ht : offB t
  · rw [worstZ_no ht]
    have ht' := Lib.hid ht
    clear ht
    go_enter Try.func22, Try.ntmps22
    go_wp2
    go_loopw [3, 4] (fun b i wr => b = .int .i64 (-1) ∧ i = .int .i64 0 ∧ Below w.heap.size w wr) (fun _ _ _ => 0)
    case atStart => exact ⟨rfl, rfl, Below.refl _ _⟩
    case round =>
      obtain ⟨rfl, rfl, H⟩ := hrel
      by_cases h0 : 0 < t.length
      · go_wp2_with fail
        refine (sOk_c _ _ _ _ (hr.at_world H) hl).mono ?_
        rw [ht'.out]
        rintro e wn ⟨rfl, b⟩
        replace H := chain H b (Nat.le_refl _)
        clear b
        go_wp2
        go_ret
        exact ⟨rfl, H⟩
      · go_wp2
        go_ret
        exact ⟨rfl, H⟩
  · have h40 := (off_b t ht).1
    rw [worstZ_yes ht]
    have hB' := Lib.hid (fun k (hk : k ≤ t.length) => worstP_b ht k hk)
    have hP' := Lib.hid (fun p => fines_yes (p := p) ht)
    have ht' := Lib.hid ht
    clear ht
    go_enter Try.func22, Try.ntmps22
    go_wp2
    go_loopw [3, 4] (fun s i wr => ∃ k : Nat, k ≤ t.length ∧ i = .int .i64 k ∧ s = .int .i64 (worstP t k) ∧ Below w.heap.size w wr) (fun _ i _ => t.length - (intOf i).toNat)
    case atStart => exact ⟨0, Nat.zero_le _, rfl, rfl, Below.refl _ _⟩
    case round =>
      obtain ⟨k, hk, rfl, rfl, H⟩ := hrel
      by_cases hlt : k < t.length
      · obtain ⟨g, off, x, y, z, rfl, hg, hc0, hc1, hc2, hx⟩ := (hr.below H (Nat.le_refl _)).at3 hlt
        have hpe := Lib.hid (pe_at hx.out)
        obtain ⟨hw0, hw1, -⟩ := hB'.out k hk
        have hm := Lib.hid (fun h => worst_miss (t := t) (k := k) (x := x) hpe.out h)
        have hh := Lib.hid (fun h => worst_hit (t := t) (k := k) (x := x) hpe.out h)
        generalize worstP t k = W at *
        have hFx := Lib.hid (hP'.out x)
        have hFw := Lib.hid (hP'.out W)
        by_cases hneg : W < 0
        · have hnew := Lib.hid (hh.out (by rw [decide_eq_true hneg]; rfl))
          go_wp2_with fail
          refine (sOk_c _ _ _ _ (hr.at_world H) hl).mono ?_
          rw [ht'.out]
          rintro e wn ⟨rfl, b⟩
          replace H := chain H b (Nat.le_refl _)
          clear b hc0 hc1 hc2
          obtain ⟨x', y', z', -, hc0, -, -, hx'⟩ := (hr.below H (Nat.le_refl _)).at3C hlt
          obtain ⟨rfl, rfl, rfl⟩ : x = x' ∧ y = y' ∧ z = z' := by have := hx.out.symm.trans hx'.out; simpa using this
          go_wp2
          go_roundw
          case rel => exact ⟨k + 1, by omega, by go_num, by rw [hnew.out], H⟩
          case measure => simp [intOf]; omega
        · have hneg' : decide (W < 0) = false := decide_eq_false hneg
          by_cases hgt : finesP t W t.length < finesP t x t.length
          · have hnew := Lib.hid (hh.out (by rw [beats_gt hgt, Bool.or_true]))
            go_wp2_with fail
            refine (sOk_c _ _ _ _ (hr.at_world H) hl).mono ?_
            rw [ht'.out]
            rintro e wn ⟨rfl, b⟩
            replace H := chain H b (Nat.le_refl _)
            clear b hc0 hc1 hc2
            obtain ⟨x', y', z', -, hc0, -, -, hx'⟩ := (hr.below H (Nat.le_refl _)).at3C hlt
            obtain ⟨rfl, rfl, rfl⟩ : x = x' ∧ y = y' ∧ z = z' := by have := hx.out.symm.trans hx'.out; simpa using this
            go_wp2_with fail
            refine (sFines_c _ _ _ _ _ (hr.at_world H) hl).mono ?_
            rw [hFx.out]
            rintro e wn ⟨rfl, b⟩
            replace H := chain H b (Nat.le_refl _)
            clear b
            go_wp2_with fail
            refine (sFines_c _ _ _ _ _ (hr.at_world H) hl).mono ?_
            rw [hFw.out]
            rintro e wn ⟨rfl, b⟩
            replace H := chain H b (Nat.le_refl _)
            clear b
            go_wp2
            go_roundw
            case rel => exact ⟨k + 1, by omega, by go_num, by rw [hnew.out], H⟩
            case measure => simp [intOf]; omega
          · by_cases heq : finesP t x t.length = finesP t W t.length
            · have heb : (finesP t x t.length == finesP t W t.length) = true := beq_iff_eq.2 heq
              by_cases hlw : x < W
              · have hnew := Lib.hid (hh.out (by rw [beats_eq heq hlw, Bool.or_true]))
                clear heq
                go_wp2_with fail
                refine (sOk_c _ _ _ _ (hr.at_world H) hl).mono ?_
                rw [ht'.out]
                rintro e wn ⟨rfl, b⟩
                replace H := chain H b (Nat.le_refl _)
                clear b hc0 hc1 hc2
                obtain ⟨x', y', z', -, hc0, -, -, hx'⟩ := (hr.below H (Nat.le_refl _)).at3C hlt
                obtain ⟨rfl, rfl, rfl⟩ : x = x' ∧ y = y' ∧ z = z' := by have := hx.out.symm.trans hx'.out; simpa using this
                go_wp2_with fail
                refine (sFines_c _ _ _ _ _ (hr.at_world H) hl).mono ?_
                rw [hFx.out]
                rintro e wn ⟨rfl, b⟩
                replace H := chain H b (Nat.le_refl _)
                clear b
                go_wp2_with fail
                refine (sFines_c _ _ _ _ _ (hr.at_world H) hl).mono ?_
                rw [hFw.out]
                rintro e wn ⟨rfl, b⟩
                replace H := chain H b (Nat.le_refl _)
                clear b
                go_wp2_with fail
                refine (sFines_c _ _ _ _ _ (hr.at_world H) hl).mono ?_
                rw [hFx.out]
                rintro e wn ⟨rfl, b⟩
                replace H := chain H b (Nat.le_refl _)
                clear b
                go_wp2_with fail
                refine (sFines_c _ _ _ _ _ (hr.at_world H) hl).mono ?_
                rw [hFw.out]
                rintro e wn ⟨rfl, b⟩
                replace H := chain H b (Nat.le_refl _)
                clear b
                go_wp2
                go_roundw
                case rel => exact ⟨k + 1, by omega, by go_num, by rw [hnew.out], H⟩
                case measure => simp [intOf]; omega
              · have hnew := Lib.hid (hm.out (by rw [beats_no hgt (fun _ => hlw), hneg']; rfl))
                clear heq
                go_wp2_with fail
                refine (sOk_c _ _ _ _ (hr.at_world H) hl).mono ?_
                rw [ht'.out]
                rintro e wn ⟨rfl, b⟩
                replace H := chain H b (Nat.le_refl _)
                clear b hc0 hc1 hc2
                obtain ⟨x', y', z', -, hc0, -, -, hx'⟩ := (hr.below H (Nat.le_refl _)).at3C hlt
                obtain ⟨rfl, rfl, rfl⟩ : x = x' ∧ y = y' ∧ z = z' := by have := hx.out.symm.trans hx'.out; simpa using this
                go_wp2_with fail
                refine (sFines_c _ _ _ _ _ (hr.at_world H) hl).mono ?_
                rw [hFx.out]
                rintro e wn ⟨rfl, b⟩
                replace H := chain H b (Nat.le_refl _)
                clear b
                go_wp2_with fail
                refine (sFines_c _ _ _ _ _ (hr.at_world H) hl).mono ?_
                rw [hFw.out]
                rintro e wn ⟨rfl, b⟩
                replace H := chain H b (Nat.le_refl _)
                clear b
                go_wp2_with fail
                refine (sFines_c _ _ _ _ _ (hr.at_world H) hl).mono ?_
                rw [hFx.out]
                rintro e wn ⟨rfl, b⟩
                replace H := chain H b (Nat.le_refl _)
                clear b
                go_wp2_with fail
                refine (sFines_c _ _ _ _ _ (hr.at_world H) hl).mono ?_
                rw [hFw.out]
                rintro e wn ⟨rfl, b⟩
                replace H := chain H b (Nat.le_refl _)
                clear b
                go_wp2
                go_roundw
                case rel => exact ⟨k + 1, by omega, by go_num, by rw [hnew.out], H⟩
                case measure => simp [intOf]; omega
            · have heb : (finesP t x t.length == finesP t W t.length) = false := beq_eq_false_iff_ne.2 heq
              have hnew := Lib.hid (hm.out (by rw [beats_no hgt (fun e => absurd e heq), hneg']; rfl))
              clear heq
              go_wp2_with fail
              refine (sOk_c _ _ _ _ (hr.at_world H) hl).mono ?_
              rw [ht'.out]
              rintro e wn ⟨rfl, b⟩
              replace H := chain H b (Nat.le_refl _)
              clear b hc0 hc1 hc2
              obtain ⟨x', y', z', -, hc0, -, -, hx'⟩ := (hr.below H (Nat.le_refl _)).at3C hlt
              obtain ⟨rfl, rfl, rfl⟩ : x = x' ∧ y = y' ∧ z = z' := by have := hx.out.symm.trans hx'.out; simpa using this
              go_wp2_with fail
              refine (sFines_c _ _ _ _ _ (hr.at_world H) hl).mono ?_
              rw [hFx.out]
              rintro e wn ⟨rfl, b⟩
              replace H := chain H b (Nat.le_refl _)
              clear b
              go_wp2_with fail
              refine (sFines_c _ _ _ _ _ (hr.at_world H) hl).mono ?_
              rw [hFw.out]
              rintro e wn ⟨rfl, b⟩
              replace H := chain H b (Nat.le_refl _)
              clear b
              go_wp2_with fail
              refine (sFines_c _ _ _ _ _ (hr.at_world H) hl).mono ?_
              rw [hFx.out]
              rintro e wn ⟨rfl, b⟩
              replace H := chain H b (Nat.le_refl _)
              clear b
              go_wp2_with fail
              refine (sFines_c _ _ _ _ _ (hr.at_world H) hl).mono ?_
              rw [hFw.out]
              rintro e wn ⟨rfl, b⟩
              replace H := chain H b (Nat.le_refl _)
              clear b
              go_wp2
              go_roundw
              case rel => exact ⟨k + 1, by omega, by go_num, by rw [hnew.out], H⟩
              case measure => simp [intOf]; omega
      · obtain rfl : k = t.length := by omega
        go_wp2
        go_ret
        exact ⟨rfl, H⟩

/-- The program's own test, the two ways. -/
theorem iw_yes {t : Of} (h : offB t = true) {k : Nat} (hk : k < t.length) {x : Int} (hx : pe t k = x) (hc : mostP t k < finesP t x t.length ∨ (finesP t x t.length = mostP t k ∧ x < worstP t k)) : worstP t (k + 1) = x ∧ mostP t (k + 1) = finesP t x t.length := by
  have hs := worst_step h hk
  rw [hx] at hs
  have ht : (decide (worstP t k < 0) || beatsP t x (worstP t k)) = true := by
    rw [← hs]
    rcases hc with hc | ⟨hc, hc2⟩
    · rw [decide_eq_true hc]; rfl
    · rw [hc, decide_eq_true hc2]; simp
  have e := worst_hit hx ht
  exact ⟨e, by rw [most_step, e]⟩
theorem iw_no {t : Of} (h : offB t = true) {k : Nat} (hk : k < t.length) {x : Int} (hx : pe t k = x) (h1 : ¬ mostP t k < finesP t x t.length) (h2 : finesP t x t.length = mostP t k → ¬ x < worstP t k) : worstP t (k + 1) = worstP t k ∧ mostP t (k + 1) = mostP t k := by
  have hs := worst_step h hk
  rw [hx] at hs
  have ht : (decide (worstP t k < 0) || beatsP t x (worstP t k)) = false := by
    rw [← hs, decide_eq_false h1, Bool.false_or]
    by_cases e : finesP t x t.length = mostP t k
    · rw [decide_eq_false (h2 e), Bool.and_false]
    · rw [beq_eq_false_iff_ne.2 e]; rfl
  have e := worst_miss hx ht
  refine ⟨e, ?_⟩
  rw [most_step, e]
  by_cases hk0 : k = 0
  · subst hk0
    have hp := finesP_pos h hk
    rw [hx] at hp
    have e1 : mostP t 0 = 0 := rfl
    omega
  · unfold mostP
    rw [if_neg hk0]
theorem most_b {t : Of} (h : offB t = true) {k : Nat} (hk : k ≤ t.length) : 0 ≤ mostP t k ∧ mostP t k ≤ 6400000 := by
  unfold mostP
  split
  · omega
  · have := finesP_b h (worstP t k) t.length (Nat.le_refl _)
    have := (off_b t h).1
    omega
set_option maxHeartbeats 4000000 in
theorem iWorst_c (A : Option Addr) (c : Nat) (t : Of) (w : World) (hr : RdI w w.heap.size A (flat3 t)) (hl : t.length ≤ 1048576) (hc : t.length ≤ c) (hc' : c ≤ maxLen) :
    Calls Try.prog 23 #[.slice A t.length c] w fun e w' => e = .returned (.int .i64 (worstZ t)) ∧ Below w.heap.size w w' := by
  cases ht : offB t
  · rw [worstZ_no ht]
    go_enter Try.func23, Try.ntmps23
    go_wp2_with fail
    refine (iOk_c _ _ _ _ hr hl).mono ?_
    rintro e wn ⟨rfl, b⟩
    go_wp2
    go_ret
    exact ⟨rfl, b⟩
  · have h40 := (off_b t ht).1
    rw [worstZ_yes ht]
    have hB' := Lib.hid (fun k (hk : k ≤ t.length) => worstP_b ht k hk)
    have hM' := Lib.hid (fun k (hk : k ≤ t.length) => most_b ht hk)
    have hP' := Lib.hid (fun p => fines_yes (p := p) ht)
    have ht' := Lib.hid ht
    go_enter Try.func23, Try.ntmps23
    go_wp2_with fail
    refine (iOk_c _ _ _ _ hr hl).mono ?_
    rintro e wn ⟨rfl, b⟩
    go_wp2
    clear ht
    go_loopw [3, 4, 13] (fun s m i wr => ∃ k : Nat, k ≤ t.length ∧ i = .int .i64 k ∧ s = .int .i64 (worstP t k) ∧ m = .int .i64 (mostP t k) ∧ Below w.heap.size w wr) (fun _ _ i _ => t.length - (intOf i).toNat)
    case atStart => exact ⟨0, Nat.zero_le _, rfl, rfl, rfl, b⟩
    case round =>
      clear b
      obtain ⟨k, hk, rfl, rfl, rfl, H⟩ := hrel
      by_cases hlt : k < t.length
      · obtain ⟨g, off, x, y, z, rfl, hg, hc0, hc1, hc2, hx⟩ := (hr.below H (Nat.le_refl _)).at3 hlt
        have P := Blk.new wr 37 #[.int .i64 x, .int .i64 y, .int .i64 z]
        have hpe := Lib.hid (pe_at hx.out)
        obtain ⟨hw0, hw1, -⟩ := hB'.out k hk
        obtain ⟨hm0, hm1⟩ := hM'.out k hk
        have hyes := Lib.hid (iw_yes ht'.out hlt hpe.out)
        have hno := Lib.hid (iw_no ht'.out hlt hpe.out)
        have hFx := Lib.hid (hP'.out x)
        generalize worstP t k = W at *
        generalize mostP t k = M at *
        by_cases hgt : M < finesP t x t.length
        · have hnew := Lib.hid (hyes.out (.inl hgt))
          generalize finesP t x t.length = V at *
          go_wp2_with fail
          refine (iFines_c _ _ _ _ _ (hr.at_world (H.alloc H.size _)) hl hc hc').mono ?_
          rw [hFx.out]
          rintro e wn ⟨rfl, b⟩
          replace P := P.next b
          replace H := chain (H.alloc H.size _) b (Nat.le_refl _)
          clear b hc0 hc1 hc2
          obtain ⟨p0, -, -, -, -, -, pL⟩ := P.three
          go_wp2
          go_roundw
          case rel => exact ⟨k + 1, by omega, by go_num, by rw [hnew.out.1], by rw [hnew.out.2], H⟩
          case measure => simp [intOf]; omega
        · by_cases heq : finesP t x t.length = M
          · have heb : (finesP t x t.length == M) = true := beq_iff_eq.2 heq
            by_cases hlw : x < W
            · have hnew := Lib.hid (hyes.out (.inr ⟨heq, hlw⟩))
              clear heq
              generalize finesP t x t.length = V at *
              go_wp2_with fail
              refine (iFines_c _ _ _ _ _ (hr.at_world (H.alloc H.size _)) hl hc hc').mono ?_
              rw [hFx.out]
              rintro e wn ⟨rfl, b⟩
              replace P := P.next b
              replace H := chain (H.alloc H.size _) b (Nat.le_refl _)
              clear b hc0 hc1 hc2
              obtain ⟨p0, -, -, -, -, -, pL⟩ := P.three
              go_wp2
              go_roundw
              case rel => exact ⟨k + 1, by omega, by go_num, by rw [hnew.out.1], by rw [hnew.out.2], H⟩
              case measure => simp [intOf]; omega
            · have hnew := Lib.hid (hno.out hgt (fun _ => hlw))
              clear heq
              generalize finesP t x t.length = V at *
              go_wp2_with fail
              refine (iFines_c _ _ _ _ _ (hr.at_world (H.alloc H.size _)) hl hc hc').mono ?_
              rw [hFx.out]
              rintro e wn ⟨rfl, b⟩
              replace P := P.next b
              replace H := chain (H.alloc H.size _) b (Nat.le_refl _)
              clear b hc0 hc1 hc2
              obtain ⟨p0, -, -, -, -, -, pL⟩ := P.three
              go_wp2
              go_roundw
              case rel => exact ⟨k + 1, by omega, by go_num, by rw [hnew.out.1], by rw [hnew.out.2], H⟩
              case measure => simp [intOf]; omega
          · have heb : (finesP t x t.length == M) = false := beq_eq_false_iff_ne.2 heq
            have hnew := Lib.hid (hno.out hgt (fun e => absurd e heq))
            clear heq
            generalize finesP t x t.length = V at *
            go_wp2_with fail
            refine (iFines_c _ _ _ _ _ (hr.at_world (H.alloc H.size _)) hl hc hc').mono ?_
            rw [hFx.out]
            rintro e wn ⟨rfl, b⟩
            replace P := P.next b
            replace H := chain (H.alloc H.size _) b (Nat.le_refl _)
            clear b hc0 hc1 hc2
            obtain ⟨p0, -, -, -, -, -, pL⟩ := P.three
            go_wp2
            go_roundw
            case rel => exact ⟨k + 1, by omega, by go_num, by rw [hnew.out.1], by rw [hnew.out.2], H⟩
            case measure => simp [intOf]; omega
      · obtain rfl : k = t.length := by omega
        go_wp2
        go_ret
        exact ⟨rfl, H⟩
end Go.Proofs.Ytclbjpknmcjkmaa
