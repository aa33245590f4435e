/- LostBy, both. -/
import Derived.Test.YtdkllicbaiodcaaDryS
import Derived.Test.YtdkllicbaiodcaaLit
namespace Go.Proofs.Ytdkllicbaiodcaa
open Go.ChangeShapes Go.WideShapes Go.ChangeAt Go.RowKit
set_option linter.unusedVariables false

/-- What is left of the depth after the days hs. -/
def leftF (s : Int) (c : Bool) : Int → List Int → Int
  | d, [] => d
  | d, ht :: hs => leftF s c (dryF s d ht c) hs
theorem dryF_b (s d ht : Int) (c : Bool) (hp : pondB s d = true) : 0 ≤ dryF s d ht c ∧ dryF s d ht c ≤ d := by
  obtain ⟨⟨h1, h2⟩, h3, h4⟩ := (pondB_iff _ _).1 hp
  unfold dryF
  split
  · rename_i h
    rw [hp, Bool.true_and] at h
    have := driedF_b c ht ((inB_iff _ _ _).1 h).1 ((inB_iff _ _ _).1 h).2
    omega
  · omega
theorem pondB_le (s d d' : Int) (hp : pondB s d = true) (h0 : 0 ≤ d') (h1 : d' ≤ d) : pondB s d' = true := by
  obtain ⟨⟨a, b⟩, c, e⟩ := (pondB_iff _ _).1 hp
  exact (pondB_iff _ _).2 ⟨⟨a, b⟩, by omega, by omega⟩
theorem leftF_b (s : Int) (c : Bool) (hs : List Int) : ∀ d, pondB s d = true → 0 ≤ leftF s c d hs ∧ leftF s c d hs ≤ d := by
  induction hs with
  | nil => intro d hp; obtain ⟨_, h3, _⟩ := (pondB_iff _ _).1 hp; exact ⟨h3, Int.le_refl _⟩
  | cons x t ih =>
    intro d hp
    have hb := dryF_b s d x c hp
    have := ih (dryF s d x c) (pondB_le s d _ hp hb.1 hb.2)
    exact ⟨this.1, Int.le_trans this.2 hb.2⟩
def lostF (s d : Int) (c : Bool) (hs : List Int) : Int := if pondB s d && decide (hs.length ≤ 100) && allB hs 0 400 then litF s d - litF s (leftF s c d hs) else -1

theorem lostF_no (s d : Int) (c : Bool) (hs : List Int) (h : pondB s d = false ∨ ¬ hs.length ≤ 100 ∨ allB hs 0 400 = false) : lostF s d c hs = -1 := by
  unfold lostF
  rcases h with h | h | h <;> simp [h]
theorem lostF_yes (s d : Int) (c : Bool) (hs : List Int) (h : pondB s d = true) (h1 : hs.length ≤ 100) (h2 : allB hs 0 400 = true) : lostF s d c hs = litF s d - litF s (leftF s c d hs) := by
  unfold lostF
  simp [h, h1, h2]
theorem litF_b (s d : Int) (h : pondB s d = true) : 0 ≤ litF s d ∧ litF s d ≤ 5000000 := by unfold litF; rw [h]; exact mul_b s d h

set_option maxHeartbeats 1000000 in
theorem iLost_c (s d : Int) (c : Bool) (A : Option Addr) (cp : Nat) (hs : List Int) (w : World) (hr : RdI w w.heap.size A hs) (hl : hs.length ≤ 1048576) :
    Calls Try.prog 22 #[.agg #[.int .i64 s, .int .i64 d, .bool c], .slice A hs.length cp] w fun e w' => e = .returned (.int .i64 (lostF s d c hs)) ∧ Below w.heap.size w w' := by
  have P : Blk (w.alloc (.cells #[.int .i64 s, .int .i64 d, .bool c] 25)) w.heap.size 25 #[.int .i64 s, .int .i64 d, .bool c] := Blk.new _ _ _
  have H : Below w.heap.size w (w.alloc (.cells #[.int .i64 s, .int .i64 d, .bool c] 25)) := (Below.refl _ _).alloc (Nat.le_refl _) _
  cases hp : pondB s d
  · rw [lostF_no s d c hs (.inl hp)]
    go_enter Try.func22, Try.ntmps22
    go_wp2_with fail
    refine (iPondOk_c _ _ _ _).mono ?_
    rintro e w1 ⟨rfl, b⟩
    replace P := P.next b
    replace H := chain H b (Nat.le_refl _)
    clear b
    try clear a0 a1 a2 aL
    obtain ⟨a0, a1, a2, -, -, -, aL⟩ := P.three
    go_wp2
    go_ret
    exact ⟨rfl, H⟩
  · by_cases h100 : hs.length ≤ 100
    · have hlb : decide ((100 : Int) < (hs.length : Int)) = false := by simp; omega
      cases hall : allB hs 0 400
      · rw [lostF_no s d c hs (.inr (.inr hall))]
        go_enter Try.func22, Try.ntmps22
        go_wp2_with fail
        refine (iPondOk_c _ _ _ _).mono ?_
        rintro e w1 ⟨rfl, b⟩
        replace P := P.next b
        replace H := chain H b (Nat.le_refl _)
        clear b
        try clear a0 a1 a2 aL
        obtain ⟨a0, a1, a2, -, -, -, aL⟩ := P.three
        go_wp2_with fail
        refine (allWithin_c _ _ _ _ _ _ ((hr.below H (Nat.le_refl _)).more H.size) hl).mono ?_
        rintro e w' ⟨rfl, rfl⟩
        go_wp2
        go_ret
        exact ⟨rfl, H⟩
      · rw [lostF_yes s d c hs hp h100 hall]
        have hp' := Lib.hid hp
        obtain ⟨hd0, hd1⟩ : 0 ≤ d ∧ d ≤ 5000 := ((pondB_iff _ _).1 hp).2
        go_enter Try.func22, Try.ntmps22
        go_wp2_with fail
        refine (iPondOk_c _ _ _ _).mono ?_
        rintro e w1 ⟨rfl, b⟩
        replace P := P.next b
        replace H := chain H b (Nat.le_refl _)
        clear b
        try clear a0 a1 a2 aL
        obtain ⟨a0, a1, a2, -, -, -, aL⟩ := P.three
        go_wp2_with fail
        refine (allWithin_c _ _ _ _ _ _ ((hr.below H (Nat.le_refl _)).more H.size) hl).mono ?_
        rintro e w' ⟨rfl, rfl⟩
        go_wp2_with fail
        clear hall hp
        go_loopw [7, 24] (fun _ i wr => ∃ (k : Nat) (d' : Int), k ≤ hs.length ∧ i = .int .i64 k ∧ 0 ≤ d' ∧ d' ≤ d ∧ Below w.heap.size w wr ∧ Blk wr w.heap.size 25 #[.int .i64 s, .int .i64 d, .bool c] ∧ Blk wr w1.heap.size 25 #[.int .i64 s, .int .i64 d', .bool c] ∧ Hid (leftF s c d hs = leftF s c d' (hs.drop k))) (fun _ i _ => hs.length - (intOf i).toNat)
        case atStart => exact ⟨0, d, Nat.zero_le _, rfl, hd0, Int.le_refl _, H.alloc H.size _, P.alloc _, Blk.new _ _ _, rfl⟩
        case round =>
          clear P H a0 a1 a2
          obtain ⟨k, d', hk, rfl, g0, g1, H, P, Q, hq⟩ := hrel
          by_cases hlt : k < hs.length
          · obtain ⟨b, off, x, rfl, hbb, hc, hx, hd⟩ := (hr.below H (Nat.le_refl _)).at_ hlt
            obtain ⟨b0, b1, b2, f0, f1, f2, bL⟩ := Q.three
            have hpd := Lib.hid (pondB_le s d d' hp'.out g0 g1)
            have hdb := dryF_b s d' x c hpd.out
            generalize hy : dryF s d' x c = y at hdb
            have hy' := Lib.hid hy
            clear hy
            obtain ⟨hy0, hy1⟩ := hdb
            go_wp2_with fail
            refine (iDryDay_c _ _ _ _ _).mono ?_
            rintro e w2 ⟨rfl, bb⟩
            rw [hy'.out]
            replace P := P.next bb
            replace Q := Q.next bb
            replace H := chain H bb (Nat.le_refl _)
            clear bb b0 b1 b2 f0 f1 f2 bL hc
            obtain ⟨b0, b1, b2, f0, f1, f2, bL⟩ := Q.three
            go_wp2
            go_roundw
            case rel =>
              refine ⟨k + 1, y, by omega, by go_num, hy0, by omega, (by go_grown), ?_, Q.put3 (.int .i64 s) (.int .i64 y) (.bool c), ?_⟩
              · exact ((P.far (by simp; omega) _).far (by simp; omega) _).far (by simp; omega) _
              · rw [hq.out, hd.out, ← hy'.out]; rfl
            case measure => simp [intOf]; omega
          · have hpd := Lib.hid (pondB_le s d d' hp'.out g0 g1)
            have l0 := litF_b s d hp'.out
            have l1 := litF_b s d' hpd.out
            have hw : IntKind.i64.wrap (litF s d - litF s d') = litF s d - litF s d' := IntWalk.i64_in _ (by omega)
            obtain ⟨a0, a1, a2, -, -, -, -⟩ := P.three
            obtain ⟨b0, b1, b2, -, -, -, bL⟩ := Q.three
            go_wp2
            go_region_held3 (fun w' => w'.cell? ⟨w.heap.size, 0, none⟩ = some (.int .i64 s) ∧ w'.cell? ⟨w.heap.size, 1, none⟩ = some (.int .i64 d) ∧ w'.cell? ⟨w.heap.size, 2, none⟩ = some (.bool c) ∧ w'.cell? ⟨w1.heap.size, 0, none⟩ = some (.int .i64 s) ∧ w'.cell? ⟨w1.heap.size, 1, none⟩ = some (.int .i64 d') ∧ w'.cell? ⟨w1.heap.size, 2, none⟩ = some (.bool c) ∧ Below w.heap.size w w')
              ((go_split_ands; refine ⟨?_, ?_, ?_, ?_, ?_, ?_, ?_⟩ <;> first | assumption | exact cell_next b (by assumption) | exact chain (by assumption) b (Nat.le_refl _) | exact Below.drew (by assumption)))
              (first | (go_at_call 14; refine (iLitersOf_c _ _ _ _).mono ?_; rintro e w2 ⟨rfl, b⟩))
            go_wp2
            go_ret
            rename_i hh
            exact ⟨by rw [hq.out, drop_end hs hk hlt]; rfl, hh.2.2.2.2.2.2⟩
    · have hlb : decide ((100 : Int) < (hs.length : Int)) = true := by simp; omega
      rw [lostF_no s d c hs (.inr (.inl h100))]
      go_enter Try.func22, Try.ntmps22
      go_wp2_with fail
      refine (iPondOk_c _ _ _ _).mono ?_
      rintro e w1 ⟨rfl, b⟩
      replace P := P.next b
      replace H := chain H b (Nat.le_refl _)
      clear b
      try clear a0 a1 a2 aL
      obtain ⟨a0, a1, a2, -, -, -, aL⟩ := P.three
      go_wp2
      go_ret
      exact ⟨rfl, H⟩
end Go.Proofs.Ytdkllicbaiodcaa
