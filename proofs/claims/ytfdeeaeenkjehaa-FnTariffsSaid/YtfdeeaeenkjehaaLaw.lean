/- Plain facts for FnTariffs. -/
import Derived.Test.YtfdeeaeenkjehaaLit
namespace Go.Proofs.Ytfdeeaeenkjehaa
set_option linter.unusedVariables false

theorem litN_spec (f : Int → Int) (m : Int) : ∀ K : Nat, (litN f m K = 0 ∨ f (litN f m K : Nat) ≤ m) ∧ ∀ j : Nat, litN f m K < j → j ≤ K → m < f (j : Int) := by
  intro K
  induction K with
  | zero => exact ⟨.inl rfl, fun j h1 h2 => by omega⟩
  | succ K ih =>
    have e : litN f m (K + 1) = if f ((K : Int) + 1) ≤ m then K + 1 else litN f m K := rfl
    have e1 : ((K + 1 : Nat) : Int) = (K : Int) + 1 := by omega
    rw [e]
    by_cases h : f ((K : Int) + 1) ≤ m
    · rw [if_pos h]
      exact ⟨.inr (by rw [e1]; exact h), fun j h1 h2 => by omega⟩
    · rw [if_neg h]
      refine ⟨ih.1, fun j h1 h2 => ?_⟩
      by_cases hj : j = K + 1
      · subst hj; rw [e1]; omega
      · exact ih.2 j h1 (by omega)
theorem lit_facts {t : Tf} (ht : tariffB t = true) {m : Int} (hm : 0 ≤ m) : ∃ n, litZ t m = n ∧ 0 ≤ n ∧ n ≤ topF t ∧ (0 ≤ costZ t n ∧ costZ t n ≤ m) ∧ (n = topF t ∨ m < costZ t (n + 1)) ∧ (∀ a, 0 ≤ a → a ≤ topF t → costZ t a ≤ m → a ≤ n) := by
  have htop := top_b ht
  obtain ⟨h1, h2⟩ := litN_spec (fun l => costP t l t.length) m (topF t).toNat
  have hle := litN_le (fun l => costP t l t.length) m (topF t).toNat
  have hz : litZ t m = (litN (fun l => costP t l t.length) m (topF t).toNat : Nat) := by
    unfold litZ
    rw [ht, decide_eq_true hm]; rfl
  generalize litN (fun l => costP t l t.length) m (topF t).toNat = n at *
  have hn : (n : Int) ≤ topF t := by omega
  have hc := costZ_in ht (l := (n : Int)) (by omega) hn
  have hcb := costP_b ht (n : Int) t.length (Nat.le_refl _)
  refine ⟨n, hz, by omega, hn, ⟨by omega, ?_⟩, ?_, fun a a0 a1 ha => ?_⟩
  · rw [hc]
    rcases h1 with e | e
    · subst e
      have := costP_zero ht t.length (Nat.le_refl _)
      have e0 : ((0 : Nat) : Int) = 0 := rfl
      rw [e0]; omega
    · exact e
  · by_cases e : (n : Int) = topF t
    · exact .inl e
    · right
      have h3 := h2 (n + 1) (by omega) (by omega)
      have e1 : ((n + 1 : Nat) : Int) = (n : Int) + 1 := by omega
      rw [e1] at h3
      rw [costZ_in ht (by omega) (by omega)]
      exact h3
  · apply Decidable.byContradiction
    intro hna
    obtain ⟨k, rfl⟩ := Int.eq_ofNat_of_zero_le a0
    have h3 := h2 k (by omega) (by omega)
    rw [costZ_in ht a0 a1] at ha
    have h4 : m < costP t (k : Int) t.length := h3
    omega
/-- What the law asks of the costs. -/
theorem cost_facts {t : Tf} (ht : tariffB t = true) {a b : Int} (a0 : 0 ≤ a) (b0 : 0 ≤ b) (hab : a + b ≤ topF t) : (0 ≤ costZ t a ∧ costZ t a ≤ 1000000000) ∧ (0 ≤ costZ t b ∧ costZ t b ≤ 1000000000) ∧ (costZ t a + costZ t b ≤ costZ t (a + b) ∧ costZ t (a + b) ≤ 1000000000) ∧ shareZ t a b = costZ t (a + b) - costZ t a - costZ t b := by
  obtain ⟨n, rfl⟩ := Int.eq_ofNat_of_zero_le b0
  have h10 := (tariff_b t ht).2.1
  have e1 := costZ_in ht a0 (show a ≤ topF t by omega)
  have e2 := costZ_in ht (l := (n : Int)) b0 (by omega)
  have e3 := costZ_in ht (l := a + n) (by omega) hab
  have b1 := costP_b ht a t.length (Nat.le_refl _)
  have b2 := costP_b ht (n : Int) t.length (Nat.le_refl _)
  have b3 := costP_b ht (a + n) t.length (Nat.le_refl _)
  have hs := cost_super ht a0 n hab
  refine ⟨by omega, by omega, by omega, share_yes (by omega) (by omega) (by omega)⟩
theorem next_facts {t : Tf} (ht : tariffB t = true) {a : Int} (a0 : 0 ≤ a) (a1 : a < topF t) : ∃ p, nextZ t a = p ∧ costZ t (a + 1) = costZ t a + p ∧ pr t 0 ≤ p ∧ p ≤ pr t (t.length - 1) ∧ (0 ≤ p ∧ p ≤ 1000) ∧ (0 < a → nextZ t (a - 1) ≤ p) := by
  have hn := next_yes ht ((inB_iff a 0 (topF t - 1)).2 ⟨a0, by omega⟩)
  have e1 := costZ_in ht a0 (show a ≤ topF t by omega)
  have e2 := costZ_in ht (l := a + 1) (by omega) (by omega)
  have hb := next_b ht a0 a1
  obtain ⟨h1, h10, hf⟩ := tariff_b t ht
  have f0 := (hf 0 (by omega)).2.1
  have f1 := (hf (t.length - 1) (by omega)).2.1
  refine ⟨nextZ t a, rfl, by omega, by omega, by omega, by omega, fun h => ?_⟩
  have hn2 := next_yes ht ((inB_iff (a - 1) 0 (topF t - 1)).2 ⟨by omega, by omega⟩)
  have e3 := costZ_in ht (l := a - 1) (by omega) (by omega)
  have e4 : a - 1 + 1 = a := by omega
  rw [e4] at hn2
  have hm := next_mono ht (l := a - 1) (m := a) (by omega) (by omega) a1
  rw [e4] at hm
  omega
theorem cost_over {t : Tf} : costZ t (topF t + 1) = -1 := by
  apply cost_no
  right
  exact (inB_not _ _ _).2 (.inr (by omega))
end Go.Proofs.Ytfdeeaeenkjehaa
