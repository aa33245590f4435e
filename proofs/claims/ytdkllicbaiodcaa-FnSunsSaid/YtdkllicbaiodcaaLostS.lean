/- spec.LostBy. -/
import Derived.Test.YtdkllicbaiodcaaLost
namespace Go.Proofs.Ytdkllicbaiodcaa
open Go.ChangeShapes Go.WideShapes Go.ChangeAt Go.RowKit
set_option linter.unusedVariables false

set_option maxHeartbeats 1000000 in
theorem sLost_c (s d : Int) (c : Bool) (A : Option Addr) (cp : Nat) (hs : List Int) (w : World) (hr : RdI w w.heap.size A hs) (hl : hs.length ≤ 1048576) :
    Calls Try.prog 20 #[.agg #[.int .i64 s, .int .i64 d, .bool c], .slice A hs.length cp] w fun e w' => e = .returned (.int .i64 (lostF s d c hs)) ∧ Below w.heap.size w w' := by
  have P : Blk (w.alloc (.cells #[.int .i64 s, .int .i64 d, .bool c] 25)) w.heap.size 25 #[.int .i64 s, .int .i64 d, .bool c] := Blk.new _ _ _
  have H : Below w.heap.size w (w.alloc (.cells #[.int .i64 s, .int .i64 d, .bool c] 25)) := (Below.refl _ _).alloc (Nat.le_refl _) _
  cases hp : pondB s d
  · rw [lostF_no s d c hs (.inl hp)]
    go_enter Try.func20, Try.ntmps20
    go_wp2_with fail
    refine (sPondOk_c _ _ _ _).mono ?_
    rintro e w1 ⟨rfl, b⟩
    replace P := P.next b
    replace H := chain H b (Nat.le_refl _)
    clear b
    try clear a0 a1 a2 aL
    obtain ⟨a0, a1, a2, -, -, -, aL⟩ := P.three
    go_wp2
    go_ret
    exact ⟨rfl, H⟩
  · by_cases h100 : hs.length ≤ 100
    · have hlb : decide ((100 : Int) < (hs.length : Int)) = false := by simp; omega
      have hp' := Lib.hid hp
      obtain ⟨hd0, hd1⟩ : 0 ≤ d ∧ d ≤ 5000 := ((pondB_iff _ _).1 hp).2
      have H' := H
      go_enter Try.func20, Try.ntmps20
      go_wp2_with fail
      refine (sPondOk_c _ _ _ _).mono ?_
      rintro e w1 ⟨rfl, b⟩
      replace P := P.next b
      replace H := chain H b (Nat.le_refl _)
      clear b
      try clear a0 a1 a2 aL
      obtain ⟨a0, a1, a2, -, -, -, aL⟩ := P.three
      go_wp2_with fail
      clear hp
      go_loopw [6] (fun i wr => ∃ (k : Nat) (d' : Int), k ≤ hs.length ∧ i = .int .i64 k ∧ 0 ≤ d' ∧ d' ≤ d ∧ Below w.heap.size w wr ∧ Blk wr w.heap.size 25 #[.int .i64 s, .int .i64 d, .bool c] ∧ Blk wr w1.heap.size 25 #[.int .i64 s, .int .i64 d', .bool c] ∧ Hid (leftF s c d hs = leftF s c d' (hs.drop k)) ∧ Hid (allB hs 0 400 = allB (hs.drop k) 0 400)) (fun i _ => hs.length - (intOf i).toNat)
      case atStart => exact ⟨0, d, Nat.zero_le _, rfl, hd0, Int.le_refl _, H.alloc H.size _, P.alloc _, Blk.new _ _ _, rfl, rfl⟩
      case round =>
        clear P H H' a0 a1 a2
        obtain ⟨k, d', hk, rfl, g0, g1, H, P, Q, hq, hall⟩ := hrel
        by_cases hlt : k < hs.length
        · obtain ⟨b, off, x, rfl, hbb, hc, hx, hd⟩ := (hr.below H (Nat.le_refl _)).at_ hlt
          obtain ⟨b0, b1, b2, f0, f1, f2, bL⟩ := Q.three
          have hbL : b < wr.heap.size := Nat.lt_of_lt_of_le hbb H.size
          cases hin : inB x 0 400
          · go_wp2_with (go_at_call 29; refine (l01In_c _ _ _ _).mono ?_; rintro e w' ⟨rfl, rfl⟩)
            go_ret
            exact ⟨by rw [lostF_no s d c hs (.inr (.inr (by rw [hall.out, hd.out, allB_cons, hin]; rfl)))]; rfl, H⟩
          · have hpd := Lib.hid (pondB_le s d d' hp'.out g0 g1)
            have hdb := dryF_b s d' x c hpd.out
            generalize hy : dryF s d' x c = y at hdb
            have hy' := Lib.hid hy
            clear hy
            obtain ⟨hy0, hy1⟩ := hdb
            go_wp2_with (go_at_call 29; refine (l01In_c _ _ _ _).mono ?_; rintro e w' ⟨rfl, rfl⟩)
            go_region_with (go_at_call 15; refine (sDryDay_c _ _ _ _ _).mono ?_; rintro e w2 ⟨rfl, bb⟩; (rw [hy'.out]); obtain ⟨e0, e1, e2, e3, e4, e5, e6⟩ := (Q.drew.next bb).three)
            all_goals
              replace P := P.drew.next bb
              replace Q := Q.drew.next bb
              replace H := chain H.drew bb (Nat.le_refl _)
              clear bb hc b0 b1 b2 f0 f1 f2
              go_wp2
              go_roundw
              case rel =>
                refine ⟨k + 1, y, by omega, by go_num, hy0, by omega, (by go_grown), ?_, Q.put3 (.int .i64 s) (.int .i64 y) (.bool c), ?_, ?_⟩
                · exact ((P.far (by simp; omega) _).far (by simp; omega) _).far (by simp; omega) _
                · rw [hq.out, hd.out, ← hy'.out]; rfl
                · rw [hall.out, hd.out, allB_cons, hin]; exact Bool.true_and _
              case measure => simp [intOf]; omega
        · have hpd := Lib.hid (pondB_le s d d' hp'.out g0 g1)
          have l0 := litF_b s d hp'.out
          have l1 := litF_b s d' hpd.out
          have hw : IntKind.i64.wrap (litF s d - litF s d') = litF s d - litF s d' := IntWalk.i64_in _ (by omega)
          obtain ⟨a0, a1, a2, -, -, -, -⟩ := P.three
          obtain ⟨b0, b1, b2, -, -, -, bL⟩ := Q.three
          go_wp2
          go_region_held3 (fun w' => w'.cell? ⟨w.heap.size, 0, none⟩ = some (.int .i64 s) ∧ w'.cell? ⟨w.heap.size, 1, none⟩ = some (.int .i64 d) ∧ w'.cell? ⟨w.heap.size, 2, none⟩ = some (.bool c) ∧ w'.cell? ⟨w1.heap.size, 0, none⟩ = some (.int .i64 s) ∧ w'.cell? ⟨w1.heap.size, 1, none⟩ = some (.int .i64 d') ∧ w'.cell? ⟨w1.heap.size, 2, none⟩ = some (.bool c) ∧ Below w.heap.size w w')
            ((go_split_ands; refine ⟨?_, ?_, ?_, ?_, ?_, ?_, ?_⟩ <;> first | assumption | exact cell_next b (by assumption) | exact chain (by assumption) b (Nat.le_refl _) | exact Below.drew (by assumption)))
            (first | (go_at_call 13; refine (sLitersOf_c _ _ _ _).mono ?_; rintro e w2 ⟨rfl, b⟩))
          go_wp2
          go_ret
          rename_i hh
          exact ⟨by rw [lostF_yes s d c hs hp'.out h100 (by rw [hall.out, drop_end hs hk hlt]; rfl), hq.out, drop_end hs hk hlt]; rfl, hh.2.2.2.2.2.2⟩
    · have hlb : decide ((100 : Int) < (hs.length : Int)) = true := by simp; omega
      rw [lostF_no s d c hs (.inr (.inl h100))]
      go_enter Try.func20, Try.ntmps20
      go_wp2_with fail
      refine (sPondOk_c _ _ _ _).mono ?_
      rintro e w1 ⟨rfl, b⟩
      replace P := P.next b
      replace H := chain H b (Nat.le_refl _)
      clear b
      try clear a0 a1 a2 aL
      obtain ⟨a0, a1, a2, -, -, -, aL⟩ := P.three
      go_wp2
      go_ret
      exact ⟨rfl, H⟩
end Go.Proofs.Ytdkllicbaiodcaa
