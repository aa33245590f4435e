/- Plain facts for FnCanals. -/
import Derived.Test.YtoongfjidenbnaaDam
import Derived.Test.YtoongfjidenbnaaFlow
import Derived.Test.YtoongfjidenbnaaDig
namespace Go.Proofs.Ytoongfjidenbnaa
open Go.ChangeShapes Go.WideShapes Go.ChangeAt Go.RowKit
set_option linter.unusedVariables false

theorem mx_mem : ∀ (t : List Int) (m : Int), mx m t = m ∨ mx m t ∈ t := by
  intro t
  induction t with
  | nil => intro m; exact .inl rfl
  | cons y t ih =>
    intro m
    have e : mx m (y :: t) = mx (max m y) t := rfl
    rw [e]
    rcases ih (max m y) with h | h
    · rw [h]
      by_cases hm : m ≤ y
      · right; rw [Int.max_eq_right hm]; exact List.mem_cons_self
      · left; rw [Int.max_eq_left (by omega)]
    · exact .inr (List.mem_cons_of_mem _ h)
theorem mx_is {t : List Int} {M : Int} (h0 : 0 ≤ M) (hle : ∀ x ∈ t, x ≤ M) (hm : M = 0 ∨ M ∈ t) : mx 0 t = M := by
  have h1 := mx_ge t 0
  have h2 := mx_mem t 0
  have h3 : M ≤ mx 0 t := by
    rcases hm with e | e
    · omega
    · exact h1.2 M e
  have h4 : mx 0 t ≤ M := by
    rcases h2 with e | e
    · omega
    · exact hle _ e
  omega
theorem mx_sub {s t : List Int} (h : ∀ x ∈ s, x ∈ t) : mx 0 s ≤ mx 0 t := by
  rcases mx_mem s 0 with e | e
  · have := (mx_ge t 0).1; omega
  · exact (mx_ge t 0).2 _ (h _ e)
theorem mx_set {t : List Int} {i : Nat} {x v : Int} (hi : t[i]? = some x) (hv : v ≤ x) (hx : x < mx 0 t) : mx 0 (t.set i v) = mx 0 t := by
  have h1 := mx_ge t 0
  refine mx_is h1.1 (fun y hy => ?_) ?_
  · rcases List.mem_or_eq_of_mem_set hy with h | h
    · exact h1.2 y h
    · omega
  · rcases mx_mem t 0 with e | e
    · exact .inl e
    · right
      obtain ⟨j, hj, he⟩ := List.mem_iff_getElem.1 e
      have hij : i ≠ j := by
        intro h
        subst h
        rw [List.getElem?_eq_getElem hj, he] at hi
        have := Option.some.inj hi
        omega
      exact List.mem_iff_getElem.2 ⟨j, by simpa using hj, by rw [List.getElem_set_ne hij]; exact he⟩
section
variable {g : List Int} {k : Nat} {x : Int} (hx : g[k]? = some x)
include hx
theorem pool_hi (hp : 0 < poolF g k) : x < mx 0 (g.take (k + 1)) ∧ x < mx 0 (g.drop k) := by
  unfold poolF at hp
  rw [getD_of hx] at hp
  omega
theorem mxT_dig (hp : 0 < poolF g k) (j : Nat) : mx 0 ((g.set k (x - 1)).take (j + 1)) = mx 0 (g.take (j + 1)) := by
  rw [List.take_set]
  by_cases h : k < j + 1
  · refine mx_set (by rw [List.getElem?_take, if_pos h]; exact hx) (by omega) ?_
    have h1 := (pool_hi hx hp).1
    have h2 : mx 0 (g.take (k + 1)) ≤ mx 0 (g.take (j + 1)) := mx_sub fun y hy => by
      have e : g.take (k + 1) = (g.take (j + 1)).take (k + 1) := by rw [List.take_take]; congr 1; omega
      rw [e] at hy
      exact List.mem_of_mem_take hy
    omega
  · rw [List.set_eq_of_length_le (by simp; omega)]
theorem mxD_dig (hp : 0 < poolF g k) (j : Nat) : mx 0 ((g.set k (x - 1)).drop j) = mx 0 (g.drop j) := by
  rw [List.drop_set]
  by_cases h : k < j
  · rw [if_pos h]
  · rw [if_neg h]
    refine mx_set (x := x) (by rw [List.getElem?_drop, show j + (k - j) = k by omega]; exact hx) (by omega) ?_
    have h1 := (pool_hi hx hp).2
    have h2 : mx 0 (g.drop k) ≤ mx 0 (g.drop j) := mx_sub fun y hy => by
      have e : g.drop k = (g.drop j).drop (k - j) := by rw [List.drop_drop]; congr 1; omega
      rw [e] at hy
      exact List.mem_of_mem_drop hy
    omega
theorem pool_dig (hp : 0 < poolF g k) (j : Nat) : poolF (g.set k (x - 1)) j = poolF g j + (if j = k then 1 else 0) := by
  have hk : k < g.length := (List.getElem?_eq_some_iff.1 hx).1
  unfold poolF
  rw [mxT_dig hx hp, mxD_dig hx hp]
  by_cases h : j = k
  · subst h
    have e : (g.set j (x - 1)).getD j 0 = x - 1 := by simp [List.getD, hk]
    rw [e, getD_of hx, if_pos rfl]
    omega
  · have e : (g.set k (x - 1)).getD j 0 = g.getD j 0 := by simp [List.getD, List.getElem?_set_ne (Ne.symm h)]
    rw [e, if_neg h]
    omega
theorem sum_dig (hp : 0 < poolF g k) : ∀ n, sumP (g.set k (x - 1)) n = sumP g n + (if k < n then 1 else 0) := by
  intro n
  induction n with
  | zero => rfl
  | succ n ih =>
    have e1 : sumP (g.set k (x - 1)) (n + 1) = sumP (g.set k (x - 1)) n + poolF (g.set k (x - 1)) n := rfl
    have e2 : sumP g (n + 1) = sumP g n + poolF g n := rfl
    rw [e1, e2, ih, pool_dig hx hp]
    by_cases h1 : k < n
    · rw [if_pos h1, if_neg (by omega), if_pos (by omega)]; omega
    · by_cases h2 : n = k
      · rw [if_neg h1, if_pos h2, if_pos (by omega)]; omega
      · rw [if_neg h1, if_neg h2, if_neg (by omega)]; omega
/-- A pool dug one deeper holds one more. -/
theorem dig_sum (hg : groundB g = true) (h1 : 1 ≤ x) (hp : 0 < poolF g k) : poolSumZ (g.set k (x - 1)) = poolSumZ g + 1 := by
  have hk : k < g.length := (List.getElem?_eq_some_iff.1 hx).1
  have hg' : groundB (g.set k (x - 1)) = true := by
    have hg2 := hg
    unfold groundB at hg2 ⊢
    simp only [Bool.and_eq_true, inB_iff, allB_iff, List.length_set] at hg2 ⊢
    refine ⟨hg2.1, fun y hy => ?_⟩
    have hx2 := hg2.2 x (List.mem_of_getElem? hx)
    rcases List.mem_or_eq_of_mem_set hy with h | h
    · exact hg2.2 y h
    · omega
  unfold poolSumZ
  rw [hg, hg', if_pos rfl, if_pos rfl, List.length_set, sum_dig hx hp, if_pos hk]
end
theorem pool_first {g : List Int} (hl : 0 < g.length) (h0 : ∀ x ∈ g, 0 ≤ x ∧ x ≤ 100) : poolF g 0 = 0 := by
  have h1 := poolF_nn g 0 hl
  have hm := h0 (g.getD 0 0) (by simp [List.getD, hl])
  have h2 : mx 0 (g.take (0 + 1)) = g.getD 0 0 := mx_is hm.1 (fun y hy => by
    rw [List.take_succ_eq_append_getElem hl] at hy
    simp at hy
    have e : g.getD 0 0 = g[0] := by simp [List.getD, hl]
    omega) (.inr (getD_mem_take hl))
  unfold poolF at h1 ⊢
  omega
theorem pool_last {g : List Int} {k : Nat} (hl : k + 1 = g.length) (h0 : ∀ x ∈ g, 0 ≤ x ∧ x ≤ 100) : poolF g k = 0 := by
  have hk : k < g.length := by omega
  have h1 := poolF_nn g k hk
  have e : g.getD k 0 = g[k] := by simp [List.getD, hk]
  have hm := h0 (g.getD k 0) (by simp [List.getD, hk])
  have h2 : mx 0 (g.drop k) = g.getD k 0 := mx_is hm.1 (fun y hy => by
    rw [List.drop_eq_getElem_cons hk, List.drop_of_length_le (by omega)] at hy
    have := List.mem_singleton.1 hy
    omega) (.inr (getD_mem_drop hk))
  unfold poolF at h1 ⊢
  omega
theorem left_lo (g : List Int) : ∀ k, g.getD (leftG g k) 0 ≤ g.getD k 0 := by
  intro k
  induction k with
  | zero => exact Int.le_refl _
  | succ k ih =>
    unfold leftG
    split
    · omega
    · exact Int.le_refl _
theorem right_lo (g : List Int) : ∀ n k, g.getD (rightG g n k) 0 ≤ g.getD k 0 := by
  intro n
  induction n with
  | zero => intro k; exact Int.le_refl _
  | succ n ih =>
    intro k
    unfold rightG
    split
    · rename_i h
      have := ih (k + 1)
      omega
    · exact Int.le_refl _
def cupA : List Int := [3, 0, 2]
theorem cup_ok : poolSumZ cupA = 2 := by decide
theorem sum_all {g : List Int} (hg : groundB g = true) : poolSumZ g = sumP g g.length := by unfold poolSumZ; rw [hg]; rfl
theorem cnt_all {g : List Int} (hg : groundB g = true) : poolCntZ g = (cntP g g.length : Nat) := by unfold poolCntZ; rw [hg]; rfl
theorem on_at {g : List Int} (hg : groundB g = true) {k : Nat} (hk : k < g.length) : onB g (k : Int) = true := by
  unfold onB
  rw [hg, (inB_iff (k : Int) 0 (g.length - 1)).2 ⟨by omega, by omega⟩]; rfl
/-- Where the water flows. -/
theorem flow_facts {g : List Int} (hg : groundB g = true) {k : Nat} (hk : k < g.length) : ∃ i j : Nat, flowL g k = (k : Int) - i ∧ flowR g k = (j : Int) - k ∧ i ≤ k ∧ k ≤ j ∧ j < g.length ∧ g.getD i 0 ≤ g.getD k 0 ∧ g.getD j 0 ≤ g.getD k 0 := by
  have h1 := leftG_b g k
  have h2 := rightG_b g g.length k hk
  refine ⟨leftG g k, rightG g g.length k, ?_, ?_, h1, h2.1, h2.2, left_lo g k, right_lo g _ k⟩
  · unfold flowL; rw [on_at hg hk, if_pos rfl, Int.toNat_natCast]
  · unfold flowR; rw [on_at hg hk, if_pos rfl, Int.toNat_natCast]
theorem dig_facts {g : List Int} (hg : groundB g = true) {k : Nat} {x : Int} (hx : g[k]? = some x) : digB g k 1 = decide (1 ≤ x) ∧ digL g k 1 = (if 1 ≤ x then g.set k (x - 1) else g) := by
  have hk : k < g.length := (List.getElem?_eq_some_iff.1 hx).1
  have h1 : digB g k 1 = decide (1 ≤ x) := by
    unfold digB
    rw [on_at hg hk, (inB_iff 1 1 100).2 ⟨by omega, by omega⟩, Int.toNat_natCast, getD_of hx]
    rfl
  refine ⟨h1, ?_⟩
  unfold digL
  rw [h1, Int.toNat_natCast, getD_of hx]
  by_cases h : 1 ≤ x <;> simp [h]
/-- The best dam. -/
theorem dam_facts {g : List Int} (hg : groundB g = true) : ∃ b : Nat, damZ g 9 = (b : Int) ∧ b < g.length ∧ ∀ i, i < g.length → damV g 9 i ≤ damV g 9 b := by
  have h9 : inB 9 0 100 = true := (inB_iff 9 0 100).2 ⟨by omega, by omega⟩
  have hl : 0 < g.length := by have h := hg; unfold groundB at h; simp only [Bool.and_eq_true, inB_iff] at h; omega
  obtain ⟨⟨a1, a2⟩, _, c1, d1, e1⟩ := damK_b hg h9 g.length (Nat.le_refl _)
  have hz := damZ_yes hg h9
  have hc := c1 hl
  obtain ⟨b, hb⟩ := Int.eq_ofNat_of_zero_le hc
  have he := e1 hc
  rw [hb, Int.toNat_natCast] at he
  refine ⟨b, by rw [hz, hb], by omega, fun i hi => ?_⟩
  have := d1 i hi
  omega
theorem cnt_step {g : List Int} {k : Nat} {b : Bool} (h : isPool g k = b) : cntP g (k + 1) = cntP g k + (if b then 1 else 0) := by
  have e : cntP g (k + 1) = cntP g k + (if isPool g k then 1 else 0) := rfl
  rw [e, h]
end Go.Proofs.Ytoongfjidenbnaa
