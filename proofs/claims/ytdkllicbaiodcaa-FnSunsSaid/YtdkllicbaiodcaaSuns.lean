/- Ponds: the plain law of FnSuns. -/
import Derived.Test.YtdkllicbaiodcaaDays
import Derived.Test.YtdkllicbaiodcaaCover
namespace Go.Proofs.Ytdkllicbaiodcaa
open Go.ChangeShapes Go.WideShapes Go.ChangeAt Go.RowKit
set_option linter.unusedVariables false

theorem dryF_yes {s d h : Int} (c : Bool) (hp : pondB s d = true) (h0 : 0 ≤ h) (h1 : h ≤ 400) : dryF s d h c = max 0 (d - driedF c h) := by
  unfold dryF
  have : inB h 0 400 = true := (inB_iff _ _ _).2 ⟨h0, h1⟩
  rw [hp, this]; rfl
theorem leftF_mono (s : Int) (hs : List Int) : (∀ y ∈ hs, 0 ≤ y ∧ y ≤ 400) → ∀ d d', pondB s d = true → pondB s d' = true → d ≤ d' → leftF s false d hs ≤ leftF s true d' hs := by
  induction hs with
  | nil => intro _ d d' _ _ h; exact h
  | cons x t ih =>
    intro hall d d' hp hp' hd
    have hx := hall x List.mem_cons_self
    have b1 := dryF_b s d x false hp
    have b2 := dryF_b s d' x true hp'
    have e1 := dryF_yes false hp hx.1 hx.2
    have e2 := dryF_yes true hp' hx.1 hx.2
    have q1 : driedF false x = x / 4 := rfl
    have q2 : driedF true x = x / 40 := rfl
    show leftF s false (dryF s d x false) t ≤ leftF s true (dryF s d' x true) t
    refine ih (fun y hy => hall y (List.mem_cons_of_mem _ hy)) _ _ (pondB_le s d _ hp b1.1 b1.2) (pondB_le s d' _ hp' b2.1 b2.2) ?_
    rw [e1, e2, q1, q2]
    omega
theorem litF_yes {s d : Int} (hp : pondB s d = true) : litF s d = s * d := by unfold litF; rw [hp]; rfl
theorem ceilF_0 (n : Int) : ceilF 0 n = 0 := by unfold ceilF; rw [if_pos rfl]
theorem ceilF_pos {d n : Int} (hd : 0 < d) (hn : 0 < n) : 1 ≤ ceilF d n := by
  unfold ceilF
  rw [if_neg (by omega), if_neg (by omega)]
  have := Int.ediv_le_ediv hn (show n ≤ d + n - 1 by omega)
  rw [Int.ediv_self (by omega)] at this
  exact this
theorem ceilF_nn {d n : Int} (hd : 0 ≤ d) (hn : 0 < n) : 0 ≤ ceilF d n := by
  by_cases h : d = 0
  · subst h; rw [ceilF_0]; omega
  · have := ceilF_pos (show 0 < d by omega) hn; omega
theorem ceilF_le {d n : Int} (hd : 0 ≤ d) (hn : 0 < n) : ceilF d n ≤ d := by
  unfold ceilF
  by_cases h : d = 0
  · rw [if_pos h]; omega
  · rw [if_neg h, if_neg (by omega)]
    have h1 : d + n - 1 ≤ d * n := by
      obtain ⟨a, ha⟩ : ∃ a, d = a + 1 := ⟨d - 1, by omega⟩
      obtain ⟨b, hb⟩ : ∃ b, n = b + 1 := ⟨n - 1, by omega⟩
      have hab : 0 ≤ a * b := Int.mul_nonneg (by omega) (by omega)
      rw [ha, hb, Int.add_mul, Int.mul_add, Int.one_mul, Int.mul_one]
      omega
    have h2 := Int.ediv_le_ediv hn h1
    rw [Int.mul_ediv_cancel _ (by omega)] at h2
    exact h2
/-- A smaller step takes no fewer days. -/
theorem ceilF_anti {d m n : Int} (hd : 0 ≤ d) (hm : 0 < m) (hmn : m ≤ n) : ceilF d n ≤ ceilF d m := by
  by_cases h : d = 0
  · subst h; rw [ceilF_0, ceilF_0]; omega
  · unfold ceilF
    rw [if_neg h, if_neg (by omega), if_neg h, if_neg (by omega)]
    have hq0 : 0 ≤ (d + m - 1) / m := Int.ediv_nonneg (by omega) (by omega)
    have hq := Int.mul_ediv_add_emod (d + m - 1) m
    have hr := Int.emod_lt_of_pos (d + m - 1) hm
    generalize (d + m - 1) / m = q at *
    have h1 : m * q ≤ n * q := Int.mul_le_mul_of_nonneg_right hmn hq0
    have h2 : (d + n - 1) ≤ n * q + (n - 1) := by omega
    have h3 := Int.ediv_le_ediv (show 0 < n by omega) h2
    have h4 : (n * q + (n - 1)) / n = q := by
      rw [Int.add_comm, Int.add_mul_ediv_left _ _ (by omega), Int.ediv_eq_zero_of_lt (by omega) (by omega), Int.zero_add]
    rw [h4] at h3
    exact h3

/-- All that the law's last line asks. -/
theorem suns_facts (s d : Int) (c : Bool) (hs : List Int) (s0 : 1 ≤ s) (s1 : s ≤ 60) (d0 : 0 ≤ d) (d1 : d ≤ 597) (h8 : hs.length ≤ 8) (hall : ∀ y ∈ hs, 0 ≤ y ∧ y ≤ 255) :
    pondB s d = true ∧ pondB s (leftF s c d hs) = true ∧ (0 ≤ lostF s d c hs ∧ lostF s d c hs ≤ s * d) ∧ litF s d = s * d ∧ litF s (leftF s c d hs) = s * d - lostF s d c hs ∧ 0 ≤ coverF s d hs ∧ coverF s d hs = lostF s d false hs - lostF s d true hs ∧ (0 ≤ s * d ∧ s * d ≤ 5000000) ∧
    (0 ≤ lostF s d false hs ∧ lostF s d false hs ≤ 5000000) ∧ (0 ≤ lostF s d true hs ∧ lostF s d true hs ≤ 5000000) := by
  have hp : pondB s d = true := (pondB_iff _ _).2 ⟨⟨by omega, by omega⟩, by omega, by omega⟩
  have hB : allB hs 0 400 = true := (allB_iff _ _ _).2 fun x hx => by have := hall x hx; omega
  have hq : ∀ b, pondB s (leftF s b d hs) = true := fun b => by
    have := leftF_b s b hs d hp
    exact pondB_le s d _ hp this.1 this.2
  have hL : ∀ b, lostF s d b hs = s * d - s * leftF s b d hs := fun b => by
    rw [lostF_yes s d b hs hp (by omega) hB, litF_yes hp, litF_yes (hq b)]
  have hb : ∀ b, 0 ≤ s * leftF s b d hs ∧ s * leftF s b d hs ≤ s * d := fun b => by
    have := leftF_b s b hs d hp
    exact ⟨Int.mul_nonneg (by omega) this.1, Int.mul_le_mul_of_nonneg_left this.2 (by omega)⟩
  have hm := mul_b s d hp
  have h1 : s * leftF s false d hs ≤ s * leftF s true d hs := Int.mul_le_mul_of_nonneg_left (leftF_mono s hs (fun y hy => by have := hall y hy; omega) d d hp hp (Int.le_refl _)) (by omega)
  have hc : coverF s d hs = lostF s d false hs - lostF s d true hs := by
    unfold coverF
    rw [if_neg (by rw [hL]; have := hb false; omega)]
  have b1 := hb c
  have b2 := hb false
  have b3 := hb true
  refine ⟨hp, hq c, ?_, litF_yes hp, ?_, ?_, hc, hm, ?_, ?_⟩
  · rw [hL]; omega
  · rw [hL, litF_yes (hq c)]; omega
  · rw [hc, hL, hL]; omega
  · rw [hL]; omega
  · rw [hL]; omega
end Go.Proofs.Ytdkllicbaiodcaa
