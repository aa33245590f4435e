/- The rule for a drawn region with edges that do not bind: they are struck first. -/
import Derived.Test.YtifljdnlaginfaaInvK
namespace Go.Proofs.Ytifljdnlaginfaa
open Go.ChangeShapes Go.WideShapes Go.ChangeAt Go.RowKit
set_option linter.unusedVariables false

def stripO (o : Oper) : Oper := { o with after := (o.after.toList.filter (Region.binds .any)).toArray }
def stripL (l : List Oper) : List Oper := l.map stripO
section
variable {P : Program} {Q : Exit → Act → World → Prop} {l : List Oper}
theorem strip_at (i : Nat) : (stripL l).toArray[i]? = (l.toArray[i]?).map stripO := by simp [stripL]
theorem strip_ready (lst : Array Bool) (i : Nat) : i ∈ Region.ready .any (stripL l).toArray lst ↔ i ∈ Region.ready .any l.toArray lst := by
  rw [mem_ready, mem_ready]
  refine and_congr_right fun _ => ?_
  constructor
  · rintro ⟨o, ho, h⟩
    rw [strip_at] at ho
    obtain ⟨p, hp, rfl⟩ := Option.map_eq_some_iff.1 ho
    exact ⟨p, hp, fun e he hb => h e (by simp [stripO, he, hb]) hb⟩
  · rintro ⟨o, ho, h⟩
    refine ⟨stripO o, by rw [strip_at, ho]; rfl, fun e he hb => h e ?_ hb⟩
    simp [stripO] at he
    exact he.1
theorem strip_yielded (tmps : Array Value) : yielded (stripL l).toArray tmps = yielded l.toArray tmps := by
  funext j
  unfold yielded
  rw [strip_at]
  cases l.toArray[j]? <;> rfl
theorem strip_wp {o : Oper} {a : Act} {w : World} {K : Act → World → Prop} : (stripO o).wp P a w K Q = o.wp P a w K Q := rfl
theorem strip_any : ∀ (n : Nat) (lst : Array Bool) (a : Act) (w : World), wpAny P .any (stripL l).toArray Q n lst a w → wpAny P .any l.toArray Q n lst a w := by
  have hnil : ∀ lst, Region.ready .any l.toArray lst = [] ↔ Region.ready .any (stripL l).toArray lst = [] := fun lst => by
    rw [List.eq_nil_iff_forall_not_mem, List.eq_nil_iff_forall_not_mem]
    exact ⟨fun h i hi => h i ((strip_ready lst i).1 hi), fun h i hi => h i ((strip_ready lst i).2 hi)⟩
  intro n
  induction n with
  | zero =>
    intro lst a w h
    exact ⟨(hnil lst).2 h.1, h.2⟩
  | succ n ih =>
    intro lst a w h
    refine ⟨fun hr => h.1 ((hnil lst).1 hr), fun i hi => ?_⟩
    have h2 := h.2 i ((strip_ready lst i).2 hi)
    unfold wpOp at h2 ⊢
    rw [strip_at] at h2
    cases ho : l.toArray[i]? with
    | none => rw [ho] at h2; exact ih _ _ _ h2
    | some o =>
      rw [ho] at h2
      simp only [Option.map_some] at h2 ⊢
      rw [strip_yielded] at h2
      by_cases hw : Region.wanted o (yielded l.toArray a.tmps) = true
      · have hw' : Region.wanted (stripO o) (yielded l.toArray a.tmps) = true := hw
        rw [if_pos hw'] at h2
        rw [if_pos hw]
        exact h2.imp (fun h3 => Oper.wp_mono (o := o) (fun a w h => ih _ a w h) h3) id
      · have hw' : ¬ Region.wanted (stripO o) (yielded l.toArray a.tmps) = true := hw
        rw [if_neg hw'] at h2
        rw [if_neg hw]
        exact ih _ _ _ h2
theorem wp_region_stripped {id : Nat} {a : Act} {w : World} {l' : List Oper} (hm : P.follows .mixedOrders = true) (hst : stripL l = l') (h : wpAny P .any l'.toArray Q l'.length (Array.replicate l'.length false) a w.drew) : (Code.region id l.toArray true).wp P Q a w := by
  subst hst
  refine wp_region_any hm ?_
  have hl : (stripL l).length = l.length := by simp [stripL]
  rw [hl] at h
  have := strip_any _ _ _ _ h
  simpa using this
theorem wpAny_invK {a : Act} {w : World} (Inv : (Nat → Bool) → (Nat → Value) → World → Prop) (FR : (Nat → Value) → Act) (hB : invB l = true) (hS : sizeB l a.tmps.size = true) (hfr : ∀ vs, putAll l 0 vs a = FR vs)
    (h0 : Inv (fun _ => false) (vs0 l a) w.drew) (hops : eachK P l Inv FR 0 l)
    (hend : ∀ d vs w, Inv d vs w → (∀ i, i < l.length → d i = true) → Q .normal (FR vs) w) : wpAny P .any l.toArray Q l.length (Array.replicate l.length false) a w.drew := by
  have hn : (l.filterMap (·.dst)).Nodup := by
    simp only [invB, Bool.and_eq_true, decide_eq_true_eq] at hB
    exact hB.1.2
  simp only [sizeB, Bool.and_eq_true, List.all_eq_true] at hS
  exact wpAny_inv0 (P := P) (Q := Q) Inv hB h0 (eachK_each hfr hn (fun j o t hj ht => by
    have := hS.1 o (List.mem_of_getElem? hj)
    rw [ht] at this
    simpa using this) (fun j o g b hj hg => by
    have := hS.2 o (List.mem_of_getElem? hj)
    rw [hg] at this
    simp only at this
    split at this
    · rename_i og hog
      exact ⟨og, _, hog, (Option.some_get this).symm⟩
    · cases this) l 0 (fun j => by rw [Nat.zero_add]) hops) (fun d vs w hI hd => by rw [hfr]; exact hend d vs w hI hd)
end
/-- The rule for a drawn region, with facts; edges that do not bind have been struck. -/
theorem wpAny_factsK {Q : Exit → Act → World → Prop} {a : Act} {w : World} {l : List Oper} (B S : Nat) (Fs : List Fact) (dead : Nat → Nat) (X : (Nat → Bool) → (Nat → Value) → World → Prop) (FR : (Nat → Value) → Act) (hB : invB l = true) (hS : sizeB l a.tmps.size = true) (hfr : ∀ vs, putAll l 0 vs a = FR vs)
    (X0 : X (fun _ => false) (vs0 l a) w.drew) (hops : eachK Try.prog l (FInv B S w Fs dead X) FR 0 l)
    (hend : ∀ d vs w', FInv B S w Fs dead X d vs w' → (∀ i, i < l.length → d i = true) → Q .normal (FR vs) w') : wpAny Try.prog .any l.toArray Q l.length (Array.replicate l.length false) a w.drew :=
  wpAny_invK (FInv B S w Fs dead X) FR hB hS hfr ⟨⟨(Below.refl _ _).drew, fun _ => (Below.refl _ _).drew⟩, rfl, fun j h _ => absurd h (by simp), X0⟩ hops hend
end Go.Proofs.Ytifljdnlaginfaa
