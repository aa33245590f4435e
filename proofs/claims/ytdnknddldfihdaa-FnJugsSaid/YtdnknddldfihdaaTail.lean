/- A region that draws its order: first operations that are quiet in a class of worlds (loads; calls that leave a world of the class), then operations whose order is forced (a store, an append). One walk serves every order. -/
import Derived.Test.YtdnknddldfihdaaMem2
import Derived.StillTail
import Derived.StillTailTactics
namespace Go.Proofs.Ytdnknddldfihdaa
open Go.ChangeShapes Go.WideShapes Go.ChangeAt Go.RowKit
set_option linter.unusedVariables false

section
variable {P : Program} {ops : Array Oper} {md : Region.Mode} {C : World → Prop}
/-- Whatever order is picked for the first n operations: each is quiet in the class; when they are over, L holds. -/
def HeadQ (P : Program) (md : Region.Mode) (ops : Array Oper) (C : World → Prop) (n : Nat) (L : Array Bool → Act → Prop) : Nat → Array Bool → Act → Prop
  | 0, lst, a => L lst a
  | f + 1, lst, a => Region.ready md ops lst ≠ [] ∧ ∀ i ∈ Region.ready md ops lst, i < n ∧ qOp P ops C i (HeadQ P md ops C n L f (lst.setIfInBounds i true)) a
theorem HeadQ.any {n g : Nat} {L : Array Bool → Act → Prop} {Q : Exit → Act → World → Prop} (hL : ∀ lst a w, C w → L lst a → wpAny P md ops Q g lst a w) (f : Nat) :
    ∀ (lst : Array Bool) (a : Act) (w : World), C w → HeadQ P md ops C n L f lst a → wpAny P md ops Q (f + g) lst a w := by
  induction f with
  | zero => intro lst a w hw h; rw [Nat.zero_add]; exact hL _ _ _ hw h
  | succ f ih =>
    intro lst a w hw h
    have e : f + 1 + g = (f + g) + 1 := by omega
    rw [e]
    exact ⟨fun h0 => absurd h0 h.1, fun i hi => wpOp_of_qOp hw (fun a' w' hw' h' => ih _ a' w' hw' h') (h.2 i hi).2⟩
theorem HeadQ.first {n i : Nat} {oi : Oper} {v : Value} {L : Array Bool → Act → Prop} (hi : ops[i]? = some oi) (hsel : ∀ (j : Nat) (o : Oper) cs b, ops[j]? = some o → o.op ≠ .select cs b)
    (hs : Region.sinkB md ops n = true) (hc : Region.chainB md ops n = true) (hn : n < ops.size) (hin : i < n) (hdone : ∀ lst a, L lst a → ∀ j ∈ Region.ready md ops lst, n ≤ j) (f : Nat) :
    ∀ (lst : Array Bool) (a : Act), HeadInv md ops n lst →
      (∀ j oj, ops[j]? = some oj → j ≠ i → lst.getD j true = false → (∀ e ∈ oj.after, Region.binds md e = true → e.on ≠ i) → oi.apart ops oj = true) →
      i ∈ Region.ready md ops lst → YieldsIn P ops C oi v a → HeadQ P md ops C n L f (lst.setIfInBounds i true) (a.put oi.dst v) → HeadQ P md ops C n L (f + 1) lst a := by
  induction f with
  | zero =>
    intro lst a inv _ hr hy H
    have hun := (mem_ready.1 hr).1
    refine ⟨fun h => List.not_mem_nil (h ▸ hr), fun j hj => ?_⟩
    have hjn : j < n := Decidable.byContradiction fun h => tail_waits hs hc hn inv _ i rfl hin hun j (by omega) hj
    refine ⟨hjn, ?_⟩
    by_cases hji : j = i
    · subst hji; exact hy.qOp hi H
    · have := hdone _ _ H j (ready_mono hj hji)
      omega
  | succ f ih =>
    intro lst a inv hfree hr hy H
    have hun := (mem_ready.1 hr).1
    refine ⟨fun h => List.not_mem_nil (h ▸ hr), fun j hj => ?_⟩
    have hjn : j < n := Decidable.byContradiction fun h => tail_waits hs hc hn inv _ i rfl hin hun j (by omega) hj
    refine ⟨hjn, ?_⟩
    by_cases hji : j = i
    · subst hji; exact hy.qOp hi H
    · have h1 := (H.2 j (ready_mono hj hji)).2
      obtain ⟨hjun, oj, hoj, hall⟩ := mem_ready.1 hj
      have hnot : ∀ e ∈ oj.after, Region.binds md e = true → e.on ≠ i := by
        intro e he hb heq
        have h2 := hall e he hb
        rw [heq, getD_both hun] at h2
        cases h2
      have h2 := qOp_put hoj (hfree j oj hoj hji hjun hnot) (fun cs b => hsel i oi cs b hi) (fun cs b => hsel j oj cs b hoj) hy h1
      refine qOp_mono (fun a' h3 => ih _ a' (inv.set hj hjn) ?_ (ready_mono hr (Ne.symm hji)) h3.1 ?_) h2
      · intro k ok hk hki hkun hno
        refine hfree k ok hk hki ?_ hno
        by_cases hjk : j = k
        · subst hjk; exact hjun
        · rw [getD_set_ne true hjk] at hkun; exact hkun
      · rw [Array.setIfInBounds_comm _ _ hji]
        exact h3.2
theorem HeadQ.lex {n g : Nat} {Lq : Act → Prop} (hsel : Region.noSelect ops = true) (hs : Region.sinkB md ops n = true) (hc : Region.chainB md ops n = true) (hn : n < ops.size) (l : List Oper) :
    ∀ (k : Nat) (lst : Array Bool) (a : Act), (∀ j, j < l.length → l[j]? = ops[k + j]?) → k + l.length = n → HeadInv md ops n lst →
    Region.lexHead md ops g l.length k lst = true → wpQuiet P ops C Lq l a → HeadQ P md ops C n (fun lst' a' => Region.seqB md ops g n lst' = true ∧ Lq a') l.length lst a := by
  induction l with
  | nil =>
    intro k lst a _ hk _ hB h
    obtain rfl : k = n := by simpa using hk
    exact ⟨by simpa [Region.lexHead] using hB, h⟩
  | cons o l ih =>
    intro k lst a hl hk inv hB h
    have h0 : ops[k]? = some o := by simpa using (hl 0 (by simp)).symm
    simp only [List.length_cons, Region.lexHead, Bool.and_eq_true] at hB
    have hkn : k < n := by simp only [List.length_cons] at hk; omega
    have hr' : k ∈ Region.ready md ops lst := by simpa using hB.1.1
    have hst : qOp P ops C k (wpQuiet P ops C Lq l) a := by unfold qOp; simp only [h0]; exact h
    obtain ⟨v, hy, hK⟩ := yieldsIn_of_qOp h0 hst
    refine HeadQ.first h0 (Region.noSelect_spec hsel) hs hc hn hkn (fun _ _ hL => seqB_ready hL.1) l.length lst a inv (Region.free_spec h0 hB.1.2) hr' hy
      (ih (k + 1) _ _ (fun j hj => ?_) (by simp only [List.length_cons] at hk; omega) (inv.set hr' hkn) hB.2 hK)
    have := hl (j + 1) (by simp; omega)
    simpa [Nat.add_assoc, Nat.add_comm 1 j] using this
/-- The region's law: n operations quiet in the class C, then the others in their order, from any world of the class. -/
theorem wp_region_tail {id : Nat} {Q : Exit → Act → World → Prop} {a : Act} {w : World} {l : List Oper} (n : Nat) (hm : P.follows .mixedOrders = true) (hB : Region.lexTailB .any l.toArray n = true) (hC : C w.drew)
    (h : wpQuiet P l.toArray C (fun a' => ∀ W, C W → wpList P l.toArray Q (l.drop n) a' W) (l.take n) a) : (Code.region id l.toArray true).wp P Q a w := by
  simp only [Region.lexTailB, Bool.and_eq_true, decide_eq_true_eq] at hB
  obtain ⟨⟨⟨⟨hsel, hn⟩, hs⟩, hc⟩, hlex⟩ := hB
  have hn' : n < l.length := by simpa using hn
  have htl : (l.take n).length = n := by simp; omega
  have hdl : (l.drop n).length = l.toArray.size - n := by simp
  have inv0 : HeadInv .any l.toArray n (Array.replicate l.toArray.size false) := by
    refine ⟨by simp, fun j oj _ hl => ?_, fun t _ ht => getD_in (by simpa using ht) (getD_replicate_false _ _)⟩
    rw [getD_replicate_false] at hl; cases hl
  have H := HeadQ.lex (md := .any) (g := l.toArray.size - n) hsel hs hc hn (l.take n) 0 _ a (fun j hj => by rw [htl] at hj; simp [hj]) (by simpa using htl) inv0 (by rw [htl]; exact hlex) h
  refine wp_region_any hm ?_
  have h2 := HeadQ.any (Q := Q) (g := l.toArray.size - n) (fun lst a' W hW hL => by
    have := wpAny_of_seq (md := .any) (Q' := Q) (l.drop n) n lst a' W (fun j => by simp [List.getElem?_drop]) (by rw [hdl]; exact hL.1) (hL.2 W hW)
    rwa [hdl] at this) _ _ _ _ hC H
  have e : n + (l.toArray.size - n) = l.toArray.size := by omega
  rw [htl, e] at h2
  exact h2
end

/-- A world of a class. -/
structure Wd (S : World → Prop) where
  val : World
  ok : S val
theorem wp_region_class {P : Program} {S : World → Prop} {id : Nat} {Q : Exit → Act → World → Prop} {a : Act} {w : World} {l : List Oper} (hm : P.follows .mixedOrders = true) (hB : Region.lexB .any l.toArray = true) (hS : S w.drew)
    (h : wpQuiet P l.toArray (fun w' => ∃ U : Wd S, w' = U.val) (fun a' => ∀ w', (∃ U : Wd S, w' = U.val) → Q .normal a' w') l a) : (Code.region id l.toArray true).wp P Q a w :=
  wp_region_quiet (C := fun w' => ∃ U : Wd S, w' = U.val) hm hB ⟨⟨_, hS⟩, rfl⟩ (by simpa using h)
theorem wp_region_tail_class {P : Program} {S : World → Prop} {id : Nat} {Q : Exit → Act → World → Prop} {a : Act} {w : World} {l : List Oper} (n : Nat) (hm : P.follows .mixedOrders = true) (hB : Region.lexTailB .any l.toArray n = true) (hS : S w.drew)
    (h : wpQuiet P l.toArray (fun w' => ∃ U : Wd S, w' = U.val) (fun a' => ∀ W, (∃ U : Wd S, W = U.val) → wpList P l.toArray Q (l.drop n) a' W) (l.take n) a) : (Code.region id l.toArray true).wp P Q a w :=
  wp_region_tail (C := fun w' => ∃ U : Wd S, w' = U.val) n hm hB ⟨⟨_, hS⟩, rfl⟩ h
/-- The class of the worlds that differ from W0 only above its heap. -/
def BS (W0 W : World) : Prop := Below W0.heap.size W0 W
theorem BS.next {W0 W W' : World} (h : BS W0 W) (b : Below W.heap.size W W') : BS W0 W' := chain h b (Nat.le_refl _)
theorem BS.cell {W0 : World} (U : Wd (BS W0)) {a : Addr} {v : Value} (h : W0.cell? a = some v) : U.val.cell? a = some v := (Below.cell U.ok (World.block_lt_of_cell? _ _ h)).trans h
theorem BS.rd {W0 : World} (U : Wd (BS W0)) {A : Option Addr} {xs : List Int} (h : RdI W0 W0.heap.size A xs) : RdI U.val U.val.heap.size A xs := h.at_world U.ok
end Go.Proofs.Ytdnknddldfihdaa
