/- spec.DryDay. -/
import Derived.Test.YtdkllicbaiodcaaDry
namespace Go.Proofs.Ytdkllicbaiodcaa
open Go.ChangeShapes Go.WideShapes Go.ChangeAt Go.RowKit
set_option linter.unusedVariables false

set_option maxHeartbeats 1000000 in
theorem sDryDay_c (s d ht : Int) (c : Bool) (w : World) : Calls Try.prog 15 #[.agg #[.int .i64 s, .int .i64 d, .bool c], .int .i64 ht] w fun e w' => e = .returned (.agg #[.int .i64 s, .int .i64 (dryF s d ht c), .bool c]) ∧ Below w.heap.size w w' := by
  unfold dryF
  cases hp : pondB s d
  · go_enter Try.func15, Try.ntmps15
    go_wp2_with fail
    refine (sPondOk_c _ _ _ _).mono ?_
    rintro e w1 ⟨rfl, hb⟩
    have P1 : Blk w1 w.heap.size 25 #[.int .i64 s, .int .i64 d, .bool c] := ((Blk.new _ _ _).alloc _).below hb (by first | (simp; done) | (simp; omega) | omega)
    have Q1 : Blk w1 ((w.alloc (.cells #[.int .i64 s, .int .i64 d, .bool c] 25)).heap.size) 25 #[.int .i64 0, .int .i64 0, .bool false] := (Blk.new (w.alloc _) _ _).below hb (by first | (simp; done) | (simp; omega) | omega)
    rw [World.size_alloc] at Q1
    obtain ⟨a0, a1, a2, a3, a4, a5, a6⟩ := P1.three
    obtain ⟨b0, b1, b2, b3, b4, b5, b6⟩ := Q1.three
    have hB1 : Below w.heap.size w w1 := (((Below.refl _ _).alloc (Nat.le_refl _) _).alloc (by first | (simp; done) | (simp; omega) | omega) _).trans (hb.mono (by first | (simp; done) | (simp; omega) | omega))
    clear hb
    go_wp2
    refine bodyPost_ret (v := .agg #[.int .i64 s, .int .i64 d, .bool c]) (by simp [results, Try.results15, go_sem, *]) rfl ⟨by simp, (by go_grown)⟩
  · cases hq : inB ht 0 400
    · go_enter Try.func15, Try.ntmps15
      go_wp2_with fail
      refine (sPondOk_c _ _ _ _).mono ?_
      rintro e w1 ⟨rfl, hb⟩
      have P1 : Blk w1 w.heap.size 25 #[.int .i64 s, .int .i64 d, .bool c] := ((Blk.new _ _ _).alloc _).below hb (by first | (simp; done) | (simp; omega) | omega)
      have Q1 : Blk w1 ((w.alloc (.cells #[.int .i64 s, .int .i64 d, .bool c] 25)).heap.size) 25 #[.int .i64 0, .int .i64 0, .bool false] := (Blk.new (w.alloc _) _ _).below hb (by first | (simp; done) | (simp; omega) | omega)
      rw [World.size_alloc] at Q1
      obtain ⟨a0, a1, a2, a3, a4, a5, a6⟩ := P1.three
      obtain ⟨b0, b1, b2, b3, b4, b5, b6⟩ := Q1.three
      have hB1 : Below w.heap.size w w1 := (((Below.refl _ _).alloc (Nat.le_refl _) _).alloc (by first | (simp; done) | (simp; omega) | omega) _).trans (hb.mono (by first | (simp; done) | (simp; omega) | omega))
      clear hb
      go_wp2_with (go_at_call 29; refine (l01In_c _ _ _ _).mono ?_; rintro e w' ⟨rfl, rfl⟩)
      refine bodyPost_ret (v := .agg #[.int .i64 s, .int .i64 d, .bool c]) (by simp [results, Try.results15, go_sem, *]) rfl ⟨by simp, (by go_grown)⟩
    · obtain ⟨hq0, hq1⟩ := (inB_iff _ _ _).1 hq
      obtain ⟨⟨hs0, hs1⟩, hd0, hd1⟩ := (pondB_iff _ _).1 hp
      cases c
      · go_enter Try.func15, Try.ntmps15
        go_wp2_with fail
        refine (sPondOk_c _ _ _ _).mono ?_
        rintro e w1 ⟨rfl, hb⟩
        have P1 := ((Blk.new w 25 _).alloc _).below hb (by first | (simp; done) | (simp; omega) | omega)
        have Q1 := (Blk.new (w.alloc _) 25 _).below hb (by first | (simp; done) | (simp; omega) | omega)
        rw [World.size_alloc] at Q1
        obtain ⟨a0, a1, a2, a3, a4, a5, a6⟩ := P1.three
        obtain ⟨b0, b1, b2, b3, b4, b5, b6⟩ := Q1.three
        have hB1 : Below w.heap.size w w1 := (((Below.refl _ _).alloc (Nat.le_refl _) _).alloc (by first | (simp; done) | (simp; omega) | omega) _).trans (hb.mono (by first | (simp; done) | (simp; omega) | omega))
        clear hb
        go_wp2_with (go_at_call 29; refine (l01In_c _ _ _ _).mono ?_; rintro e w' ⟨rfl, rfl⟩)
        go_wp2
        all_goals refine bodyPost_ret (v := .agg #[.int .i64 s, .int .i64 (max 0 (d - driedF false ht)), .bool false]) (by simp [results, Try.results15, go_sem, driedF, *]; try omega) rfl ⟨by simp, (by go_grown)⟩
      · go_enter Try.func15, Try.ntmps15
        go_wp2_with fail
        refine (sPondOk_c _ _ _ _).mono ?_
        rintro e w1 ⟨rfl, hb⟩
        have P1 := ((Blk.new w 25 _).alloc _).below hb (by first | (simp; done) | (simp; omega) | omega)
        have Q1 := (Blk.new (w.alloc _) 25 _).below hb (by first | (simp; done) | (simp; omega) | omega)
        rw [World.size_alloc] at Q1
        obtain ⟨a0, a1, a2, a3, a4, a5, a6⟩ := P1.three
        obtain ⟨b0, b1, b2, b3, b4, b5, b6⟩ := Q1.three
        have hB1 : Below w.heap.size w w1 := (((Below.refl _ _).alloc (Nat.le_refl _) _).alloc (by first | (simp; done) | (simp; omega) | omega) _).trans (hb.mono (by first | (simp; done) | (simp; omega) | omega))
        clear hb
        go_wp2_with (go_at_call 29; refine (l01In_c _ _ _ _).mono ?_; rintro e w' ⟨rfl, rfl⟩)
        go_wp2
        all_goals refine bodyPost_ret (v := .agg #[.int .i64 s, .int .i64 (max 0 (d - driedF true ht)), .bool true]) (by simp [results, Try.results15, go_sem, driedF, *]; try omega) rfl ⟨by simp, (by go_grown)⟩
end Go.Proofs.Ytdkllicbaiodcaa
