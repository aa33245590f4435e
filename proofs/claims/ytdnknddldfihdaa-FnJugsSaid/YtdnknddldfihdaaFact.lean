/- Facts on what the operations of a drawn region have yielded: each keeps while memory only grows. -/
import Derived.Test.YtdnknddldfihdaaInv
import Derived.Test.YtdnknddldfihdaaRow
namespace Go.Proofs.Ytdnknddldfihdaa
open Go.ChangeShapes Go.WideShapes Go.ChangeAt Go.RowKit
set_option linter.unusedVariables false

/-- What is known of one value. -/
structure Fact where
  P : Value → World → Prop
  st : ∀ x w w', Below w.heap.size w w' → P x w → P x w'
  pure : Bool
  hp : pure = true → ∀ x w w', P x w → P x w'
def Fact.any : Fact := ⟨fun _ _ => True, fun _ _ _ _ _ => trivial, true, fun _ _ _ _ _ => trivial⟩
def Fact.val (c : Value) : Fact := ⟨fun x _ => x = c, fun _ _ _ _ h => h, true, fun _ _ _ _ h => h⟩
/-- A slice over a block that is known whole. -/
def Fact.blk (base : Nat) (e n : Nat) (cs : Array Value) : Fact :=
  ⟨fun x w => ∃ g, x = .slice (some ⟨g, 0, none⟩) n n ∧ base ≤ g ∧ Blk w g e cs, fun _ _ _ b ⟨g, h1, h2, h3⟩ => ⟨g, h1, h2, h3.next b⟩, false, fun h => by cases h⟩
/-- A row of the call's own. -/
def Fact.own (base : Nat) (e sz n : Nat) (cs : List Value) : Fact :=
  ⟨fun x w => ∃ A c, x = .slice A n c ∧ OwnV w base e sz A n c cs, fun _ _ _ b ⟨A, c, h1, h2⟩ => ⟨A, c, h1, h2.next b⟩, false, fun h => by cases h⟩
/-- A value with a fact that keeps while memory grows. -/
def Fact.of (P : Value → World → Prop) (st : ∀ x w w', Below w.heap.size w w' → P x w → P x w') : Fact := ⟨P, st, false, fun h => by cases h⟩
/-- The operations that are done yielded what is said of them, until the operation that uses the fact up. The older blocks are as they were until operation S is done; those below block B ever. -/
def FInv (B S : Nat) (W : World) (Fs : List Fact) (dead : Nat → Nat) (X : (Nat → Bool) → (Nat → Value) → World → Prop) (d : Nat → Bool) (vs : Nat → Value) (w : World) : Prop :=
  (Below B W w ∧ (d S = false → Below W.heap.size W w)) ∧ d 999 = false ∧ (∀ j, d j = true → d (dead j) = false → (Fs.getD j Fact.any).P (vs j) w) ∧ X d vs w
section
variable {B S : Nat} {W : World} {Fs : List Fact} {dead : Nat → Nat} {X : (Nat → Bool) → (Nat → Value) → World → Prop} {d : Nat → Bool} {vs : Nat → Value} {w : World}
theorem FInv.start (X0 : ∀ vs, X (fun _ => false) vs W.drew) : ∀ vs, FInv B S W Fs dead X (fun _ => false) vs W.drew := fun vs => ⟨⟨(Below.refl _ _).drew, fun _ => (Below.refl _ _).drew⟩, rfl, fun j h _ => absurd h (by simp), X0 vs⟩
theorem FInv.get (h : FInv B S W Fs dead X d vs w) {j : Nat} (hd : d j = true) (hk : d (dead j) = false) : (Fs.getD j Fact.any).P (vs j) w := h.2.2.1 j hd hk
theorem FInv.no (h : FInv B S W Fs dead X d vs w) : d 999 = false := h.2.1
theorem FInv.old (h : FInv B S W Fs dead X d vs w) (hS : d S = false) : Below W.heap.size W w := h.1.2 hS
theorem FInv.bel (h : FInv B S W Fs dead X d vs w) : Below B W w := h.1.1
theorem upd_mono {d : Nat → Bool} {k j : Nat} (h : upd d k true j = false) : d j = false ∧ j ≠ k := by
  unfold upd at h
  split at h
  · cases h
  · rename_i hne; exact ⟨h, hne⟩
theorem FInv.put (h : FInv B S W Fs dead X d vs w) {w' : World} {k : Nat} {v : Value} (b : Below w.heap.size w w') (hk : k ≠ 999) (hv : (Fs.getD k Fact.any).P v w') (hX : X (upd d k true) (upd vs k v) w') (hB : B ≤ W.heap.size := by omega) : FInv B S W Fs dead X (upd d k true) (upd vs k v) w' := by
  obtain ⟨⟨h1, h1'⟩, h2, h3, h4⟩ := h
  refine ⟨⟨chain h1 b (Nat.le_trans hB (by first | exact Nat.le_refl _ | omega)), fun hS => chain (h1' (upd_mono hS).1) b (Nat.le_refl _)⟩, ?_, fun j hj hdj => ?_, hX⟩
  · rw [upd_ne (Ne.symm hk)]; exact h2
  · by_cases hjk : j = k
    · subst hjk; rw [upd_same]; exact hv
    · rw [upd_ne hjk] at hj ⊢
      exact (Fs.getD j Fact.any).st _ _ _ b (h3 j hj (upd_mono hdj).1)
/-- The same world, some draws on. -/
theorem FInv.pure_ (h : FInv B S W Fs dead X d vs w) {k : Nat} {v : Value} (hk : k ≠ 999) (hv : (Fs.getD k Fact.any).P v w) (hX : X (upd d k true) (upd vs k v) w) (hB : B ≤ W.heap.size := by omega) : FInv B S W Fs dead X (upd d k true) (upd vs k v) w := h.put (Below.refl _ _) hk hv hX hB
/-- An operation that writes memory of the region's own: the other facts that live on say nothing of memory, or are shown anew. -/
theorem FInv.wrote (h : FInv B S W Fs dead X d vs w) {w' : World} {k : Nat} {v : Value} (b : Below B W w') (b' : upd d k true S = false → Below W.heap.size W w') (hk : k ≠ 999) (hv : (Fs.getD k Fact.any).P v w')
    (hf : ∀ j, d j = true → j ≠ k → dead j ≠ k → d (dead j) = false → (Fs.getD j Fact.any).P (vs j) w → (Fs.getD j Fact.any).pure = true ∨ (Fs.getD j Fact.any).P (vs j) w') (hX : X (upd d k true) (upd vs k v) w') : FInv B S W Fs dead X (upd d k true) (upd vs k v) w' := by
  obtain ⟨h1, h2, h3, h4⟩ := h
  refine ⟨⟨b, b'⟩, ?_, fun j hj hdj => ?_, hX⟩
  · rw [upd_ne (Ne.symm hk)]; exact h2
  · by_cases hjk : j = k
    · subst hjk; rw [upd_same]; exact hv
    · rw [upd_ne hjk] at hj ⊢
      obtain ⟨e1, e2⟩ := upd_mono hdj
      rcases hf j hj hjk e2 e1 (h3 j hj e1) with hp | hp
      · exact (Fs.getD j Fact.any).hp hp _ _ _ (h3 j hj e1)
      · exact hp
/-- The same for a row that grows. -/
theorem FInv.row (h : FInv B S W Fs dead X d vs w) {w' : World} {k : Nat} {v : Value} {row : Option Nat} (hg : w.grownBy w' row) (hrow : ∀ g, row = some g → W.heap.size ≤ g) (hk : k ≠ 999) (hv : (Fs.getD k Fact.any).P v w')
    (hf : ∀ j, d j = true → j ≠ k → dead j ≠ k → d (dead j) = false → (Fs.getD j Fact.any).P (vs j) w → (Fs.getD j Fact.any).pure = true ∨ (Fs.getD j Fact.any).P (vs j) w') (hX : X (upd d k true) (upd vs k v) w') (hB : B ≤ W.heap.size := by omega) : FInv B S W Fs dead X (upd d k true) (upd vs k v) w' :=
  h.wrote (h.bel.grown hg (Nat.le_trans hB h.bel.size) (fun g e => Nat.le_trans hB (hrow g e))) (fun hS => (h.old (upd_mono hS).1).grown hg (h.old (upd_mono hS).1).size hrow) hk hv hf hX
end
/-- The rule for a drawn region, with facts. -/
theorem wp_region_facts {id : Nat} {Q : Exit → Act → World → Prop} {a : Act} {w : World} {l : List Oper} (B S : Nat) (Fs : List Fact) (dead : Nat → Nat) (X : (Nat → Bool) → (Nat → Value) → World → Prop) (hm : Try.prog.follows .mixedOrders = true) (hB : invB l = true)
    (X0 : ∀ vs, X (fun _ => false) vs w.drew) (hops : eachOp l Try.prog l.toArray Q (FInv B S w Fs dead X) (fun vs => putAll l 0 vs a) 0 l)
    (hend : ∀ d vs w', FInv B S w Fs dead X d vs w' → (∀ i, i < l.length → d i = true) → Q .normal (putAll l 0 vs a) w') : (Code.region id l.toArray true).wp Try.prog Q a w :=
  wp_region_inv (FInv B S w Fs dead X) hm hB (FInv.start X0) hops hend
end Go.Proofs.Ytdnknddldfihdaa
