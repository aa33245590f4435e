/- A region that draws its order, by an invariant: what is known of every operation that has been carried out, and of the world. Each operation is shown once, whatever came before it. -/
import Derived.Test.YtdnknddldfihdaaMem2
namespace Go.Proofs.Ytdnknddldfihdaa
open Go.ChangeShapes Go.WideShapes Go.ChangeAt Go.RowKit
set_option linter.unusedVariables false

def upd {α : Type} (f : Nat → α) (k : Nat) (v : α) : Nat → α := fun i => if i = k then v else f i
theorem upd_same {α : Type} (f : Nat → α) (k : Nat) (v : α) : upd f k v k = v := if_pos rfl
theorem upd_ne {α : Type} {f : Nat → α} {k i : Nat} {v : α} (h : i ≠ k) : upd f k v i = f i := if_neg h
/-- The frame in which operation number k has yielded 'vs k'. -/
def putAll : List Oper → Nat → (Nat → Value) → Act → Act
  | [], _, _, a => a
  | o :: t, k, vs, a => putAll t (k + 1) vs (a.put o.dst (vs k))
/-- Every edge leads back, each operation that writes a slot writes one of its own. -/
def invB (l : List Oper) : Bool :=
  ((List.range l.length).all fun k => match l[k]? with
    | some o => o.after.all fun e => decide (e.on < k) && Region.binds .any e
    | none => true) && decide (l.filterMap (·.dst)).Nodup && l.all fun o => match o.op with | .select _ _ => false | _ => true
theorem put_put_ne (a : Act) (d d' : Option Tmp) (u v : Value) (h : ∀ t, d = some t → d' ≠ some t) : (a.put d u).put d' v = (a.put d' v).put d u := by
  exact Act.put_comm a u v h
theorem put_put_same (a : Act) (d : Option Tmp) (u v : Value) : (a.put d u).put d v = a.put d v := by
  cases d with
  | none => rfl
  | some t => simp [Act.put]
theorem putAll_put (l : List Oper) : ∀ (k : Nat) (vs : Nat → Value) (a : Act) (d : Option Tmp) (v : Value), (∀ t, d = some t → t ∉ l.filterMap (·.dst)) → putAll l k vs (a.put d v) = (putAll l k vs a).put d v := by
  induction l with
  | nil => intro k vs a d v _; rfl
  | cons o t ih =>
    intro k vs a d v h
    show putAll t (k + 1) vs ((a.put d v).put o.dst (vs k)) = (putAll t (k + 1) vs (a.put o.dst (vs k))).put d v
    have h1 : ∀ x, d = some x → x ∉ t.filterMap (·.dst) := fun x hx hm => h x hx (by
      rw [List.filterMap_cons]
      split
      · exact hm
      · exact List.mem_cons_of_mem _ hm)
    have h2 : ∀ x, d = some x → o.dst ≠ some x := fun x hx e => h x hx (by
      rw [List.filterMap_cons, e]
      exact List.mem_cons_self ..)
    rw [put_put_ne a d o.dst v (vs k) h2, ih (k + 1) vs _ d v h1]
theorem putAll_lt (l : List Oper) : ∀ (k : Nat) (vs : Nat → Value) (a : Act) (j : Nat) (v : Value), j < k → putAll l k (upd vs j v) a = putAll l k vs a := by
  induction l with
  | nil => intro k vs a j v _; rfl
  | cons o t ih =>
    intro k vs a j v h
    show putAll t (k + 1) (upd vs j v) (a.put o.dst (upd vs j v k)) = putAll t (k + 1) vs (a.put o.dst (vs k))
    rw [upd_ne (by omega), ih (k + 1) vs _ j v (by omega)]
theorem putAll_upd (l : List Oper) : ∀ (k : Nat) (vs : Nat → Value) (a : Act) (j : Nat) (o : Oper) (v : Value), (l.filterMap (·.dst)).Nodup → l[j]? = some o → putAll l k (upd vs (k + j) v) a = (putAll l k vs a).put o.dst v := by
  induction l with
  | nil => intro k vs a j o v _ h; simp at h
  | cons p t ih =>
    intro k vs a j o v hn h
    rw [List.filterMap_cons] at hn
    cases j with
    | zero =>
      simp at h
      subst h
      show putAll t (k + 1) (upd vs k v) (a.put p.dst (upd vs k v k)) = (putAll t (k + 1) vs (a.put p.dst (vs k))).put p.dst v
      rw [upd_same, putAll_lt t (k + 1) vs _ k v (Nat.lt_succ_self k)]
      have hd : ∀ x, p.dst = some x → x ∉ t.filterMap (·.dst) := by
        intro x hx
        rw [hx] at hn
        exact (List.nodup_cons.1 hn).1
      rw [← putAll_put t (k + 1) vs _ p.dst v hd, put_put_same]
    | succ j =>
      have hn2 : (t.filterMap (·.dst)).Nodup := by
        cases hp : p.dst with
        | none => rw [hp] at hn; exact hn
        | some x => rw [hp] at hn; exact (List.nodup_cons.1 hn).2
      show putAll t (k + 1) (upd vs (k + (j + 1)) v) (a.put p.dst (upd vs (k + (j + 1)) v k)) = (putAll t (k + 1) vs (a.put p.dst (vs k))).put o.dst v
      rw [upd_ne (show k ≠ k + (j + 1) by omega), show k + (j + 1) = k + 1 + j by omega]
      exact ih (k + 1) vs _ j o v hn2 (by simpa using h)
theorem put_self (a : Act) (d : Option Tmp) : a.put d (match d with | some t => a.tmps.getD t undef | none => undef) = a := by
  cases d with
  | none => rfl
  | some t =>
    show ({ a with tmps := a.tmps.setIfInBounds t (a.tmps.getD t undef) } : Act) = a
    have e : a.tmps.setIfInBounds t (a.tmps.getD t undef) = a.tmps := by
      apply Array.ext
      · simp
      · intro i h1 h2
        rw [Array.getElem_setIfInBounds (by simpa using h2)]
        split
        · rename_i e; subst e; simp [Array.getD, h2]
        · rfl
    rw [e]
theorem putAll_self (l : List Oper) : ∀ (k : Nat) (vs : Nat → Value) (a : Act), (∀ j o, l[j]? = some o → vs (k + j) = match o.dst with | some t => a.tmps.getD t undef | none => undef) → putAll l k vs a = a := by
  induction l with
  | nil => intro k vs a _; rfl
  | cons o t ih =>
    intro k vs a h
    show putAll t (k + 1) vs (a.put o.dst (vs k)) = a
    have h0 := h 0 o rfl
    rw [Nat.add_zero] at h0
    rw [h0, put_self]
    exact ih (k + 1) vs a fun j p hj => by
      have := h (j + 1) p (by simpa using hj)
      rw [show k + (j + 1) = k + 1 + j by omega] at this
      exact this

section
variable {P : Program} {Q : Exit → Act → World → Prop}
/-- What is asked behind one operation. -/
def InvPost (Q : Exit → Act → World → Prop) (Inv : (Nat → Bool) → (Nat → Value) → World → Prop) (fr : (Nat → Value) → Act) (d : Nat → Bool) (vs : Nat → Value) (k : Nat) (dst : Option Tmp) : Exit → Act → World → Prop
  | .normal, a, w => ∃ v, a = (fr vs).put dst v ∧ Inv (upd d k true) (upd vs k v) w
  | e, a, w => Q e a w
/-- What is done is done behind all that it waits for. -/
def Closed (l : List Oper) (d : Nat → Bool) : Prop := ∀ (j : Nat) (o : Oper), l[j]? = some o → d j = true → (o.after.toList.all fun e => d e.on) = true
def eachOp (L : List Oper) (P : Program) (ops : Array Oper) (Q : Exit → Act → World → Prop) (Inv : (Nat → Bool) → (Nat → Value) → World → Prop) (fr : (Nat → Value) → Act) : Nat → List Oper → Prop
  | _, [] => True
  | k, o :: t => (∀ d vs w, Inv d vs w → Closed L d → d k = false → (o.after.toList.all fun e => d e.on) = true → wpList P ops (InvPost Q Inv fr d vs k o.dst) [o] (fr vs) w) ∧ eachOp L P ops Q Inv fr (k + 1) t
theorem eachOp_at {L : List Oper} {ops : Array Oper} {Inv : (Nat → Bool) → (Nat → Value) → World → Prop} {fr : (Nat → Value) → Act} (l : List Oper) : ∀ (k j : Nat) (o : Oper), eachOp L P ops Q Inv fr k l → l[j]? = some o →
    ∀ d vs w, Inv d vs w → Closed L d → d (k + j) = false → (o.after.toList.all fun e => d e.on) = true → wpList P ops (InvPost Q Inv fr d vs (k + j) o.dst) [o] (fr vs) w := by
  induction l with
  | nil => intro k j o _ h; simp at h
  | cons p t ih =>
    intro k j o he h
    cases j with
    | zero => simp at h; subst h; exact he.1
    | succ j =>
      rw [show k + (j + 1) = k + 1 + j by omega]
      exact ih (k + 1) j o he.2 (by simpa using h)
theorem invPost_out {Inv : (Nat → Bool) → (Nat → Value) → World → Prop} {fr : (Nat → Value) → Act} {d : Nat → Bool} {vs : Nat → Value} {k : Nat} {dst : Option Tmp} {o : Oper} {a : Act} {w : World} {K : Act → World → Prop}
    (h : o.wp P a w K (InvPost Q Inv fr d vs k dst)) : o.wp P a w K Q := by
  unfold Oper.wp at *
  generalize (execOp a.eval o).run P w = r at *
  cases r with
  | ok n w' =>
    cases n <;> simp only [Oper.upon] at h ⊢ <;>
      first
        | exact h
        | exact Calls.mono h (fun e w'' he => by cases e <;> exact he)
  | halt x w' => cases x <;> simp only [Oper.upon] at h ⊢ <;> exact h
/-- What the slots of the operations hold before the region. -/
def vs0 (l : List Oper) (a : Act) : Nat → Value := fun k => match (l[k]?).bind (·.dst) with | some t => a.tmps.getD t undef | none => undef
theorem wpAny_inv0 {a : Act} {w : World} {l : List Oper} (Inv : (Nat → Bool) → (Nat → Value) → World → Prop) (hB : invB l = true)
    (h0 : Inv (fun _ => false) (vs0 l a) w.drew) (hops : eachOp l P l.toArray Q Inv (fun vs => putAll l 0 vs a) 0 l)
    (hend : ∀ d vs w, Inv d vs w → (∀ i, i < l.length → d i = true) → Q .normal (putAll l 0 vs a) w) : wpAny P .any l.toArray Q l.length (Array.replicate l.length false) a w.drew := by
  simp only [invB, Bool.and_eq_true, List.all_eq_true, decide_eq_true_eq] at hB
  obtain ⟨⟨hg, hn⟩, hsel⟩ := hB
  have hg' : ∀ (k : Nat) (o : Oper), l[k]? = some o → ∀ e ∈ o.after, e.on < k := by
    intro k o ho
    have hk : k < l.length := (List.getElem?_eq_some_iff.1 ho).1
    have := hg k (List.mem_range.2 hk)
    rw [ho] at this
    simp only [Bool.and_eq_true, Array.all_eq_true_iff_forall_mem, decide_eq_true_eq] at this
    exact fun e he => (this e he).1
  have hbind : ∀ (k : Nat) (o : Oper), l[k]? = some o → ∀ e ∈ o.after, Region.binds .any e = true := by
    intro k o ho e he
    have hk : k < l.length := (List.getElem?_eq_some_iff.1 ho).1
    have := hg k (List.mem_range.2 hk)
    rw [ho] at this
    simp only [Bool.and_eq_true, Array.all_eq_true_iff_forall_mem] at this
    exact (this e he).2
  -- the number of operations that are still to come
  have key : ∀ (n : Nat) (lst : Array Bool) (d : Nat → Bool) (vs : Nat → Value) (w : World), lst.size = l.length → (∀ i, i < l.length → lst.getD i true = d i ∧ lst.getD i false = d i) → ((List.range l.length).filter fun i => !d i).length = n → Inv d vs w → Closed l d →
      wpAny P .any l.toArray Q n lst (putAll l 0 vs a) w := by
    intro n
    induction n with
    | zero =>
      intro lst d vs w hs hd hc hI hcl
      have hall : ∀ i, i < l.length → d i = true := by
        intro i hi
        cases hdi : d i
        · have : i ∈ (List.range l.length).filter fun i => !d i := List.mem_filter.2 ⟨List.mem_range.2 hi, by simp [hdi]⟩
          rw [List.eq_nil_of_length_eq_zero hc] at this
          cases this
        · rfl
      refine ⟨?_, hend d vs w hI hall⟩
      rw [List.eq_nil_iff_forall_not_mem]
      intro i hi
      obtain ⟨h1, o, ho, _⟩ := mem_ready.1 hi
      have hil : i < l.length := by
        have := (Array.getElem?_eq_some_iff.1 ho).1
        simpa using this
      rw [(hd i hil).1, hall i hil] at h1
      cases h1
    | succ n ih =>
      intro lst d vs w hs hd hc hI hcl
      refine ⟨?_, ?_⟩
      · intro hr
        -- the first that is to come is ready
        exfalso
        have hex : ∃ i, i < l.length ∧ d i = false := by
          cases hf : (List.range l.length).filter fun i => !d i with
          | nil => rw [hf] at hc; cases hc
          | cons x t =>
            have hx : x ∈ (List.range l.length).filter fun i => !d i := by rw [hf]; exact List.mem_cons_self ..
            obtain ⟨h1, h2⟩ := List.mem_filter.1 hx
            exact ⟨x, List.mem_range.1 h1, by simpa using h2⟩
        obtain ⟨i0, hi0, hdi0⟩ := hex
        have hmin : ∀ m, ∀ i, i ≤ m → i < l.length → d i = false → ∃ i, i < l.length ∧ d i = false ∧ ∀ j, j < i → d j = true := by
          intro m
          induction m with
          | zero =>
            intro i hi hil hdi
            obtain rfl : i = 0 := by omega
            exact ⟨0, hil, hdi, fun j hj => absurd hj (Nat.not_lt_zero _)⟩
          | succ m ihm =>
            intro i hi hil hdi
            by_cases hall : ∀ j, j < i → d j = true
            · exact ⟨i, hil, hdi, hall⟩
            · have : ∃ j, j < i ∧ d j = false := by
                apply Classical.byContradiction
                intro hno
                apply hall
                intro j hj
                cases hdj : d j
                · exact absurd ⟨j, hj, hdj⟩ hno
                · rfl
              obtain ⟨j, hj, hdj⟩ := this
              exact ihm j (by omega) (by omega) hdj
        obtain ⟨i, hil, hdi, hbef⟩ := hmin i0 i0 (Nat.le_refl _) hi0 hdi0
        have ho : l[i]? = some l[i] := List.getElem?_eq_getElem hil
        have hmem : i ∈ Region.ready .any l.toArray lst := mem_ready.2 ⟨by rw [(hd i hil).1, hdi], l[i], by simp, fun e he hb => by
          have hlt := (hg' i _ ho) e he
          rw [(hd e.on (by omega)).2]
          exact hbef _ hlt⟩
        rw [hr] at hmem
        cases hmem
      · intro i hi
        obtain ⟨h1, o, ho, h3⟩ := mem_ready.1 hi
        have hil : i < l.length := by
          have := (Array.getElem?_eq_some_iff.1 ho).1
          simpa using this
        have hol : l[i]? = some o := by simpa using ho
        have hdi : d i = false := by rw [← (hd i hil).1]; exact h1
        have hdeps : (o.after.toList.all fun e => d e.on) = true := by
          rw [List.all_eq_true]
          intro e he
          have he' : e ∈ o.after := by simpa using he
          have hb := hbind i o hol e he'
          have hlt := (hg' i o hol) e he'
          rw [← (hd e.on (by omega)).2]
          exact h3 e he' hb
        have hop := eachOp_at l 0 i o hops hol d vs w hI hcl (by rw [Nat.zero_add]; exact hdi) hdeps
        rw [Nat.zero_add] at hop
        -- one operation
        unfold wpOp
        rw [ho]
        have hnext : ∀ a' w', InvPost Q Inv (fun vs => putAll l 0 vs a) d vs i o.dst .normal a' w' → wpAny P .any l.toArray Q n (lst.setIfInBounds i true) a' w' := by
          rintro a' w' ⟨v, rfl, hI'⟩
          have e := putAll_upd l 0 vs a i o v hn hol
          rw [Nat.zero_add] at e
          show wpAny P .any l.toArray Q n (lst.setIfInBounds i true) ((putAll l 0 vs a).put o.dst v) w'
          rw [← e]
          refine ih _ (upd d i true) _ _ (by simpa using hs) ?_ ?_ hI' ?_
          · intro j hj
            by_cases hji : j = i
            · subst hji
              rw [upd_same]
              constructor <;> simp [Array.getD, hs, hj]
            · rw [upd_ne hji, getD_set_ne true (Ne.symm hji), getD_set_ne false (Ne.symm hji)]
              exact hd j hj
          · have hcnt : ∀ (L : List Nat), L.Nodup → i ∈ L → (L.filter fun j => !d j).length = (L.filter fun j => !(upd d i true) j).length + 1 := by
              intro L hL
              induction L with
              | nil => intro h; cases h
              | cons x t iht =>
                intro hx
                have hxt := List.nodup_cons.1 hL
                rcases List.mem_cons.1 hx with rfl | hx
                · have e1 : (t.filter fun j => !d j) = t.filter fun j => !(upd d i true) j := by
                    apply List.filter_congr
                    intro j hj
                    have hjx : j ≠ i := by intro e; subst e; exact hxt.1 hj
                    rw [upd_ne hjx]
                  rw [List.filter_cons, List.filter_cons, upd_same, hdi, e1]
                  simp
                · have hne : x ≠ i := by intro e; subst e; exact hxt.1 hx
                  have := iht hxt.2 hx
                  rw [List.filter_cons, List.filter_cons, upd_ne hne]
                  split <;> simp [this]
            have := hcnt (List.range l.length) List.nodup_range (List.mem_range.2 hil)
            omega
          · intro j p hp hj
            have hold : (p.after.toList.all fun e => d e.on) = true := by
              by_cases hji : j = i
              · subst hji
                rw [hol] at hp
                injection hp with hp
                subst hp
                exact hdeps
              · rw [upd_ne hji] at hj
                exact hcl j p hp hj
            rw [List.all_eq_true] at hold ⊢
            intro e he
            have := hold e he
            unfold upd
            split
            · rfl
            · exact this
        unfold wpList at hop
        by_cases hw : Region.wanted o (yielded l.toArray (putAll l 0 vs a).tmps) = true
        · simp only [hw, if_true] at hop ⊢
          rcases hop with hop | ⟨h4, h5⟩
          · left
            have h6 := Oper.wp_mono (K' := wpAny P .any l.toArray Q n (lst.setIfInBounds i true)) (fun a w h => hnext a w h) hop
            exact invPost_out h6
          · exact .inr ⟨h4, h5⟩
        · simp only [hw] at hop ⊢
          exact hnext _ _ hop
  have h1 := key l.length (Array.replicate l.length false) (fun _ => false) (vs0 l a) w.drew (by simp)
    (fun i hi => by simp [Array.getD, hi]) (by simp only [Bool.not_false]; rw [List.filter_eq_self.2 (fun _ _ => rfl), List.length_range]) h0 (fun j o _ h => absurd h (by simp))
  have h2 : putAll l 0 (vs0 l a) a = a := by
    refine putAll_self l 0 _ a fun j o hj => ?_
    unfold vs0
    rw [Nat.zero_add, hj]
    rfl
  rw [h2] at h1
  exact h1
theorem wp_region_inv0 {id : Nat} {a : Act} {w : World} {l : List Oper} (Inv : (Nat → Bool) → (Nat → Value) → World → Prop) (hm : P.follows .mixedOrders = true) (hB : invB l = true)
    (h0 : Inv (fun _ => false) (vs0 l a) w.drew) (hops : eachOp l P l.toArray Q Inv (fun vs => putAll l 0 vs a) 0 l)
    (hend : ∀ d vs w, Inv d vs w → (∀ i, i < l.length → d i = true) → Q .normal (putAll l 0 vs a) w) : (Code.region id l.toArray true).wp P Q a w := by
  have h := wpAny_inv0 Inv hB h0 hops hend
  refine wp_region_any hm ?_
  simpa using h
theorem wp_region_inv {id : Nat} {a : Act} {w : World} {l : List Oper} (Inv : (Nat → Bool) → (Nat → Value) → World → Prop) (hm : P.follows .mixedOrders = true) (hB : invB l = true)
    (h0 : ∀ vs, Inv (fun _ => false) vs w.drew) (hops : eachOp l P l.toArray Q Inv (fun vs => putAll l 0 vs a) 0 l)
    (hend : ∀ d vs w, Inv d vs w → (∀ i, i < l.length → d i = true) → Q .normal (putAll l 0 vs a) w) : (Code.region id l.toArray true).wp P Q a w :=
  wp_region_inv0 Inv hm hB (h0 _) hops hend
end
end Go.Proofs.Ytdnknddldfihdaa
