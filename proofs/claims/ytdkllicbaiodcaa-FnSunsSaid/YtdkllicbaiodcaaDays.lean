/- spec.DaysUntilDry. -/
import Derived.Test.YtdkllicbaiodcaaLit
namespace Go.Proofs.Ytdkllicbaiodcaa
open Go.ChangeShapes Go.WideShapes Go.ChangeAt Go.RowKit
set_option linter.unusedVariables false

@[go_sem] theorem eqPondV (a b d e : Int) (c f : Bool) (w : World) : (Op.equalIn 10000 25 (.agg #[.int .i64 a, .int .i64 b, .bool c]) (.agg #[.int .i64 d, .int .i64 e, .bool f])).run Try.prog w = .ok (a == d && (b == e && c == f)) w := by
  have u3 := Try.underlying3
  have u4 := Try.underlying4
  have a3 := Try.isAgg3
  have a4 := Try.isAgg4
  have z3 := Try.sizeOf3
  have z4 := Try.sizeOf4
  rw [show (10000 : Nat) = 9999 + 1 from rfl, run_equalIn_agg w 9999 25 _ _ (by kernel_rfl) (by kernel_rfl)]
  simp only [Program.fieldsOf, Try.underlying25]
  go_simp
  by_cases h1 : a = d <;> by_cases h2 : b = e <;> cases c <;> cases f <;> simp [h1, h2]

set_option maxHeartbeats 1000000 in
theorem sDays_c (s d ht : Int) (c : Bool) (w : World) : Calls Try.prog 18 #[.agg #[.int .i64 s, .int .i64 d, .bool c], .int .i64 ht] w fun e w' => e = .returned (.int .i64 (daysF s d ht c)) ∧ Below w.heap.size w w' := by
  unfold daysF
  have P : Blk (w.alloc (.cells #[.int .i64 s, .int .i64 d, .bool c] 25)) w.heap.size 25 #[.int .i64 s, .int .i64 d, .bool c] := Blk.new _ _ _
  have H : Below w.heap.size w (w.alloc (.cells #[.int .i64 s, .int .i64 d, .bool c] 25)) := (Below.refl _ _).alloc (Nat.le_refl _) _
  cases hp : pondB s d
  · go_enter Try.func18, Try.ntmps18
    go_wp2_with fail
    refine (sPondOk_c _ _ _ _).mono ?_
    rintro e w1 ⟨rfl, b⟩
    replace P := P.next b
    replace H := chain H b (Nat.le_refl _)
    clear b
    try clear a0 a1 a2 aL
    obtain ⟨a0, a1, a2, -, -, -, aL⟩ := P.three
    go_wp2
    go_ret
    exact ⟨by simp, H⟩
  · cases hq : inB ht 0 400
    · go_enter Try.func18, Try.ntmps18
      go_wp2_with fail
      refine (sPondOk_c _ _ _ _).mono ?_
      rintro e w1 ⟨rfl, b⟩
      replace P := P.next b
      replace H := chain H b (Nat.le_refl _)
      clear b
      try clear a0 a1 a2 aL
      obtain ⟨a0, a1, a2, -, -, -, aL⟩ := P.three
      go_wp2_with (go_at_call 29; refine (l01In_c _ _ _ _).mono ?_; rintro e w' ⟨rfl, rfl⟩)
      go_ret
      exact ⟨by simp, H⟩
    · obtain ⟨hq0, hq1⟩ := (inB_iff _ _ _).1 hq
      obtain ⟨⟨hs0, hs1⟩, hd0, hd1⟩ := (pondB_iff _ _).1 hp
      obtain ⟨hn0, hn1⟩ := driedF_b c ht hq0 hq1
      have hp' := Lib.hid hp
      have hq' := Lib.hid hq
      go_enter Try.func18, Try.ntmps18
      go_wp2_with fail
      refine (sPondOk_c _ _ _ _).mono ?_
      rintro e w1 ⟨rfl, b⟩
      replace P := P.next b
      replace H := chain H b (Nat.le_refl _)
      clear b
      try clear a0 a1 a2 aL
      obtain ⟨a0, a1, a2, -, -, -, aL⟩ := P.three
      go_wp2_with (go_at_call 29; refine (l01In_c _ _ _ _).mono ?_; rintro e w' ⟨rfl, rfl⟩)
      clear hp hq
      go_loopw [5] (fun i wr => ∃ (k : Nat) (d' : Int), i = .int .i64 k ∧ 0 ≤ d' ∧ d' ≤ d ∧ (k : Int) + d' ≤ d ∧ Below w.heap.size w wr ∧ Blk wr w.heap.size 25 #[.int .i64 s, .int .i64 d', .bool c] ∧ Hid (0 < driedF c ht → ceilF d (driedF c ht) = k + ceilF d' (driedF c ht)) ∧ Hid (driedF c ht = 0 → d' = d ∧ k = 0)) (fun i _ => 5000 - (intOf i).toNat)
      case atStart => exact ⟨0, d, rfl, hd0, Int.le_refl _, by omega, H, P, by intro _; simp, fun _ => ⟨rfl, rfl⟩⟩
      case round =>
        clear P H a0 a1 a2 aL
        obtain ⟨k, d', rfl, g0, g1, g2, H, P, hA, hB⟩ := hrel
        obtain ⟨a0, a1, a2, f0, f1, f2, aL⟩ := P.three
        by_cases hd' : 0 < d'
        · have hpd : pondB s d' = true := (pondB_iff _ _).2 ⟨⟨hs0, hs1⟩, by omega, by omega⟩
          have hdry : dryF s d' ht c = max 0 (d' - driedF c ht) := by unfold dryF; rw [hpd, hq'.out]; rfl
          clear hpd
          generalize hx : dryF s d' ht c = x at hdry
          have hx' := Lib.hid hx
          clear hx
          have hdry' := Lib.hid hdry
          by_cases hn : driedF c ht = 0
          · have hxd : (x == d') = true := by rw [hdry, hn]; simp; omega
            have hfin := Lib.hid (show ceilF d (driedF c ht) = -1 by
              have := (hB.out hn).1
              unfold ceilF; rw [if_neg (by omega), if_pos hn])
            clear hn hdry
            go_wp2_with fail
            refine (sDryDay_c _ _ _ _ _).mono ?_
            rintro e w1 ⟨rfl, b⟩
            rw [hx'.out]
            replace P := P.next b
            replace H := chain H b (Nat.le_refl _)
            clear b
            clear a0 a1 a2 f0 f1 f2 aL
            obtain ⟨a0, a1, a2, f0, f1, f2, aL⟩ := P.three
            go_wp2
            go_ret
            exact ⟨by rw [hfin.out]; simp, H.alloc (by first | (simp; done) | (simp; omega) | omega) _⟩
          · have hxd : (x == d') = false := beq_eq_false_iff_ne.2 (by omega)
            have hstep := Lib.hid (ceilF_step d' (driedF c ht) hd' (by omega))
            have hx0 : 0 ≤ x := by omega
            have hx1 : x < d' := by omega
            have hn' : 0 < driedF c ht := by omega
            clear hn hdry
            go_wp2_with fail
            refine (sDryDay_c _ _ _ _ _).mono ?_
            rintro e w1 ⟨rfl, b⟩
            rw [hx'.out]
            replace P := P.next b
            replace H := chain H b (Nat.le_refl _)
            clear b
            clear a0 a1 a2 f0 f1 f2 aL
            obtain ⟨a0, a1, a2, f0, f1, f2, aL⟩ := P.three
            go_wp2
            go_roundw
            case rel => 
              refine ⟨k + 1, x, by go_num, hx0, by omega, by omega, (by go_grown), ?_, fun h => ?_, fun h => absurd h (by omega)⟩
              · exact (P.put3 (.int .i64 s) (.int .i64 x) (.bool c)).alloc _
              · have := hA.out h
                rw [hstep.out, ← hdry'.out] at this
                omega
            case measure => simp [intOf]; omega
        · obtain rfl : d' = 0 := by omega
          go_wp2
          go_ret
          refine ⟨?_, H⟩
          have hz : ceilF d (driedF c ht) = k := by
            by_cases hn : driedF c ht = 0
            · obtain ⟨e1, e2⟩ := hB.out hn
              subst e2
              unfold ceilF; rw [if_pos e1.symm]; rfl
            · rw [hA.out (by omega)]; unfold ceilF; simp
          rw [hz]; rfl
end Go.Proofs.Ytdkllicbaiodcaa
