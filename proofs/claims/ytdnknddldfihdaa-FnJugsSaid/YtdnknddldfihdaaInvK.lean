/- The rule for a drawn region by an invariant, made cheap: what follows an operation is a letter, the frame is written once, a guard is a fact. -/
import Derived.Test.YtdnknddldfihdaaFact
namespace Go.Proofs.Ytdnknddldfihdaa
open Go.ChangeShapes Go.WideShapes Go.ChangeAt Go.RowKit
set_option linter.unusedVariables false

theorem not_yet {b : Bool} (h : b = true → False) : b = false := by cases b <;> simp_all
section
variable {P : Program} {Q : Exit → Act → World → Prop}
/-- One operation, whatever follows: it is wanted, and leads to the invariant. -/
def stepK (P : Program) (L : List Oper) (Inv : (Nat → Bool) → (Nat → Value) → World → Prop) (FR : (Nat → Value) → Act) (k : Nat) (o : Oper) : Prop :=
  ∀ ops d vs w (K : Exit → Act → World → Prop), Inv d vs w → Closed L d → d k = false → (o.after.toList.all fun e => d e.on) = true → (∀ v w', Inv (upd d k true) (upd vs k v) w' → K .normal ((FR vs).put o.dst v) w') →
    (match o.guard with | none => True | some (g, b) => vs g = .bool b ∧ g < k) ∧ wpList P ops K [{ o with guard := none }] (FR vs) w
def eachK (P : Program) (L : List Oper) (Inv : (Nat → Bool) → (Nat → Value) → World → Prop) (FR : (Nat → Value) → Act) : Nat → List Oper → Prop
  | _, [] => True
  | k, o :: t => stepK P L Inv FR k o ∧ eachK P L Inv FR (k + 1) t
theorem putAll_size (l : List Oper) : ∀ (k : Nat) (vs : Nat → Value) (a : Act), (putAll l k vs a).tmps.size = a.tmps.size := by
  induction l with
  | nil => intro k vs a; rfl
  | cons o t ih =>
    intro k vs a
    show (putAll t (k + 1) vs (a.put o.dst (vs k))).tmps.size = _
    rw [ih]
    cases o.dst <;> simp [Act.put]
theorem putAll_get (l : List Oper) : ∀ (k : Nat) (vs : Nat → Value) (a : Act) (j : Nat) (o : Oper) (t : Tmp), (l.filterMap (·.dst)).Nodup → l[j]? = some o → o.dst = some t → t < a.tmps.size → (putAll l k vs a).tmps[t]? = some (vs (k + j)) := by
  intro k vs a j o t hn hj ho ht
  have h := putAll_upd l k vs a j o (vs (k + j)) hn hj
  have e : upd vs (k + j) (vs (k + j)) = vs := by
    funext i
    unfold upd
    split
    · rename_i h; rw [h]
    · rfl
  rw [e] at h
  rw [h, ho]
  simp [Act.put, putAll_size, ht]
theorem eachK_each {L : List Oper} {Inv : (Nat → Bool) → (Nat → Value) → World → Prop} {FR : (Nat → Value) → Act} {a : Act} (hfr : ∀ vs, putAll L 0 vs a = FR vs) (hn : (L.filterMap (·.dst)).Nodup) (hsz : ∀ (j : Nat) (o : Oper) (t : Tmp), L[j]? = some o → o.dst = some t → t < a.tmps.size) (hgd : ∀ (j : Nat) (o : Oper) g b, L[j]? = some o → o.guard = some (g, b) → ∃ og t, L[g]? = some og ∧ og.dst = some t) (l : List Oper) :
    ∀ k, (∀ j, l[j]? = L[k + j]?) → eachK P L Inv FR k l → eachOp L P L.toArray Q Inv (fun vs => putAll L 0 vs a) k l := by
  induction l with
  | nil => intro k _ _; trivial
  | cons o t ih =>
    intro k hl h
    have h0 : L[k]? = some o := by simpa using (hl 0).symm
    refine ⟨fun d vs w hI hcl hk hd => ?_, ih (k + 1) (fun j => by have := hl (j + 1); simpa [Nat.add_assoc, Nat.add_comm 1 j] using this) h.2⟩
    have hK := h.1 L.toArray d vs w (InvPost Q Inv (fun vs => putAll L 0 vs a) d vs k o.dst) hI hcl hk hd (fun v w' hI' => ⟨v, by rw [← hfr], hI'⟩)
    obtain ⟨hg, hw⟩ := hK
    show wpList P L.toArray _ [o] (putAll L 0 vs a) w
    have hw' : wpList P L.toArray (InvPost Q Inv (fun vs => putAll L 0 vs a) d vs k o.dst) [{ o with guard := none }] (putAll L 0 vs a) w := by rw [hfr]; exact hw
    have hwant : Region.wanted o (yielded L.toArray (putAll L 0 vs a).tmps) = true := by
      unfold Region.wanted
      cases hgo : o.guard with
      | none => rfl
      | some q =>
        obtain ⟨g, b⟩ := q
        rw [hgo] at hg
        obtain ⟨og, tt, h1, h2⟩ := hgd k o g b h0 hgo
        have h3 := putAll_get L 0 vs a g og tt hn h1 h2 (hsz g og tt h1 h2)
        rw [Nat.zero_add, hg.1] at h3
        simp only [yielded, List.getElem?_toArray, h1, Option.bind_some, h2, h3]
        simp
    have hwn : Region.wanted { o with guard := none } (yielded L.toArray (putAll L 0 vs a).tmps) = true := rfl
    unfold wpList at hw' ⊢
    rw [if_pos hwn] at hw'
    rw [if_pos hwant]
    exact hw'
def sizeB (l : List Oper) (n : Nat) : Bool :=
  (l.all fun o => match o.dst with | some t => decide (t < n) | none => true) && l.all fun o => match o.guard with | some (g, _) => (match l[g]? with | some og => og.dst.isSome | none => false) | none => true
theorem wp_region_invK {id : Nat} {a : Act} {w : World} {l : List Oper} (Inv : (Nat → Bool) → (Nat → Value) → World → Prop) (FR : (Nat → Value) → Act) (hm : P.follows .mixedOrders = true) (hB : invB l = true) (hS : sizeB l a.tmps.size = true) (hfr : ∀ vs, putAll l 0 vs a = FR vs)
    (h0 : Inv (fun _ => false) (vs0 l a) w.drew) (hops : eachK P l Inv FR 0 l)
    (hend : ∀ d vs w, Inv d vs w → (∀ i, i < l.length → d i = true) → Q .normal (FR vs) w) : (Code.region id l.toArray true).wp P Q a w := by
  have hn : (l.filterMap (·.dst)).Nodup := by
    simp only [invB, Bool.and_eq_true, decide_eq_true_eq] at hB
    exact hB.1.2
  simp only [sizeB, Bool.and_eq_true, List.all_eq_true] at hS
  refine wp_region_inv0 Inv hm hB h0 (eachK_each hfr hn (fun j o t hj ht => ?_) (fun j o g b hj hg => ?_) l 0 (fun j => by rw [Nat.zero_add]) hops) (fun d vs w hI hd => by rw [hfr]; exact hend d vs w hI hd)
  · have := hS.1 o (List.mem_of_getElem? hj)
    rw [ht] at this
    simpa using this
  · have := hS.2 o (List.mem_of_getElem? hj)
    rw [hg] at this
    simp only at this
    split at this
    · rename_i og hog
      exact ⟨og, _, hog, (Option.some_get this).symm⟩
    · cases this
end
/-- The rule for a drawn region, with facts. -/
theorem wp_region_factsK {id : Nat} {Q : Exit → Act → World → Prop} {a : Act} {w : World} {l : List Oper} (B S : Nat) (Fs : List Fact) (dead : Nat → Nat) (X : (Nat → Bool) → (Nat → Value) → World → Prop) (FR : (Nat → Value) → Act) (hm : Try.prog.follows .mixedOrders = true) (hB : invB l = true) (hS : sizeB l a.tmps.size = true) (hfr : ∀ vs, putAll l 0 vs a = FR vs)
    (X0 : X (fun _ => false) (vs0 l a) w.drew) (hops : eachK Try.prog l (FInv B S w Fs dead X) FR 0 l)
    (hend : ∀ d vs w', FInv B S w Fs dead X d vs w' → (∀ i, i < l.length → d i = true) → Q .normal (FR vs) w') : (Code.region id l.toArray true).wp Try.prog Q a w :=
  wp_region_invK (FInv B S w Fs dead X) FR hm hB hS hfr ⟨⟨(Below.refl _ _).drew, fun _ => (Below.refl _ _).drew⟩, rfl, fun j h _ => absurd h (by simp), X0⟩ hops hend
end Go.Proofs.Ytdnknddldfihdaa
