/- impl.DryDay and spec.DryDay. -/
import Derived.Test.YtdkllicbaiodcaaBase
namespace Go.Proofs.Ytdkllicbaiodcaa
open Go.ChangeShapes Go.WideShapes Go.ChangeAt Go.RowKit
set_option linter.unusedVariables false

theorem driedF_b (c : Bool) (h : Int) (h0 : 0 ≤ h) (h1 : h ≤ 400) : 0 ≤ driedF c h ∧ driedF c h ≤ 100 := by unfold driedF; split <;> omega
set_option maxHeartbeats 2000000 in
theorem iDryDay_c (s d ht : Int) (c : Bool) (w : World) : Calls Try.prog 16 #[.agg #[.int .i64 s, .int .i64 d, .bool c], .int .i64 ht] w fun e w' => e = .returned (.agg #[.int .i64 s, .int .i64 (dryF s d ht c), .bool c]) ∧ Below w.heap.size w w' := by
  unfold dryF
  cases hp : pondB s d
  · go_enter Try.func16, Try.ntmps16
    go_wp2_with fail
    refine (iPondOk_c _ _ _ _).mono ?_
    rintro e w1 ⟨rfl, hb⟩
    have P1 : Blk w1 w.heap.size 25 #[.int .i64 s, .int .i64 d, .bool c] := ((Blk.new _ _ _).alloc _).below hb (by first | (simp; done) | (simp; omega) | omega)
    have Q1 : Blk w1 ((w.alloc (.cells #[.int .i64 s, .int .i64 d, .bool c] 25)).heap.size) 25 #[.int .i64 0, .int .i64 0, .bool false] := (Blk.new (w.alloc _) _ _).below hb (by first | (simp; done) | (simp; omega) | omega)
    rw [World.size_alloc] at Q1
    obtain ⟨a0, a1, a2, a3, a4, a5, a6⟩ := P1.three
    obtain ⟨b0, b1, b2, b3, b4, b5, b6⟩ := Q1.three
    have hB1 : Below w.heap.size w w1 := (((Below.refl _ _).alloc (Nat.le_refl _) _).alloc (by first | (simp; done) | (simp; omega) | omega) _).trans (hb.mono (by first | (simp; done) | (simp; omega) | omega))
    clear hb
    go_wp2
    refine bodyPost_ret (v := .agg #[.int .i64 s, .int .i64 d, .bool c]) (by simp [results, Try.results16, go_sem, *]) rfl ⟨by simp, (by go_grown)⟩
  · cases hq : inB ht 0 400
    · go_enter Try.func16, Try.ntmps16
      go_wp2_with fail
      refine (iPondOk_c _ _ _ _).mono ?_
      rintro e w1 ⟨rfl, hb⟩
      have P1 : Blk w1 w.heap.size 25 #[.int .i64 s, .int .i64 d, .bool c] := ((Blk.new _ _ _).alloc _).below hb (by first | (simp; done) | (simp; omega) | omega)
      have Q1 : Blk w1 ((w.alloc (.cells #[.int .i64 s, .int .i64 d, .bool c] 25)).heap.size) 25 #[.int .i64 0, .int .i64 0, .bool false] := (Blk.new (w.alloc _) _ _).below hb (by first | (simp; done) | (simp; omega) | omega)
      rw [World.size_alloc] at Q1
      obtain ⟨a0, a1, a2, a3, a4, a5, a6⟩ := P1.three
      obtain ⟨b0, b1, b2, b3, b4, b5, b6⟩ := Q1.three
      have hB1 : Below w.heap.size w w1 := (((Below.refl _ _).alloc (Nat.le_refl _) _).alloc (by first | (simp; done) | (simp; omega) | omega) _).trans (hb.mono (by first | (simp; done) | (simp; omega) | omega))
      clear hb
      go_wp2_with (go_at_call 30; refine (within_c _ _ _ _).mono ?_; rintro e w' ⟨rfl, rfl⟩)
      refine bodyPost_ret (v := .agg #[.int .i64 s, .int .i64 d, .bool c]) (by simp [results, Try.results16, go_sem, *]) rfl ⟨by simp, (by go_grown)⟩
    · obtain ⟨hq0, hq1⟩ := (inB_iff _ _ _).1 hq
      obtain ⟨⟨hs0, hs1⟩, hd0, hd1⟩ := (pondB_iff _ _).1 hp
      obtain ⟨hdf0, hdf1⟩ := driedF_b c ht hq0 hq1
      go_enter Try.func16, Try.ntmps16
      go_wp2_with fail
      refine (iPondOk_c _ _ _ _).mono ?_
      rintro e w1 ⟨rfl, hb⟩
      have P1 : Blk w1 w.heap.size 25 #[.int .i64 s, .int .i64 d, .bool c] := ((Blk.new _ _ _).alloc _).below hb (by first | (simp; done) | (simp; omega) | omega)
      have Q1 : Blk w1 ((w.alloc (.cells #[.int .i64 s, .int .i64 d, .bool c] 25)).heap.size) 25 #[.int .i64 0, .int .i64 0, .bool false] := (Blk.new (w.alloc _) _ _).below hb (by first | (simp; done) | (simp; omega) | omega)
      rw [World.size_alloc] at Q1
      obtain ⟨a0, a1, a2, a3, a4, a5, a6⟩ := P1.three
      obtain ⟨b0, b1, b2, b3, b4, b5, b6⟩ := Q1.three
      have hB1 : Below w.heap.size w w1 := (((Below.refl _ _).alloc (Nat.le_refl _) _).alloc (by first | (simp; done) | (simp; omega) | omega) _).trans (hb.mono (by first | (simp; done) | (simp; omega) | omega))
      clear hb
      go_wp2_with (go_at_call 30; refine (within_c _ _ _ _).mono ?_; rintro e w' ⟨rfl, rfl⟩)
      have hw : IntKind.i64.wrap (d - driedF c ht) = d - driedF c ht := IntWalk.i64_in _ (by omega)
      go_region_with (go_at_call 31; refine (driedBy_c _ _ _ _ hq0 hq1 _).mono ?_; rintro e w2 ⟨rfl, hb2⟩; obtain ⟨c0, c1, c2, c3, c4, c5, c6⟩ := (Blk.below (Blk.drew P1) hb2 a6).three; obtain ⟨d0, d1, d2, d3, d4, d5, d6⟩ := (Blk.below (Blk.drew Q1) hb2 b6).three)
      all_goals
        have hB2 : Below w.heap.size w w2 := (hB1.drew).trans (hb2.mono (by first | (simp; done) | (simp; omega) | omega))
        clear hb2 hw
        go_wp2
        all_goals refine bodyPost_ret (v := .agg #[.int .i64 s, .int .i64 (max 0 (d - driedF c ht)), .bool c]) (by simp [results, Try.results16, go_sem, *]; try omega) rfl ⟨by simp, (by go_grown)⟩
end Go.Proofs.Ytdkllicbaiodcaa
