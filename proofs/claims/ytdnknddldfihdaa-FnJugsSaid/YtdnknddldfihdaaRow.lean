/- Rows of any element, as lists of cells: reading, rows of the call's own, append. -/
import Derived.Test.YtdnknddldfihdaaMem2
namespace Go.Proofs.Ytdnknddldfihdaa
open Go.ChangeShapes Go.WideShapes Go.ChangeAt Go.RowKit
set_option linter.unusedVariables false

/-- The cells from the address on are the list; they lie below block B. -/
def RdV (w : World) (B : Nat) (A : Option Addr) (cs : List Value) : Prop :=
  cs = [] ∨ ∃ b off, A = some ⟨b, off, none⟩ ∧ b < B ∧ ∀ k u, cs[k]? = some u → w.cell? ⟨b, off + k, none⟩ = some u
section
variable {w w' : World} {B B' : Nat} {A : Option Addr} {cs : List Value}
theorem RdV.nil : RdV w B A [] := .inl rfl
theorem RdV.keep (h : RdV w B A cs) (hk : ∀ b o, b < B → w'.cell? ⟨b, o, none⟩ = w.cell? ⟨b, o, none⟩) : RdV w' B A cs := by
  rcases h with rfl | ⟨b, off, e, hb, hc⟩
  · exact .inl rfl
  · exact .inr ⟨b, off, e, hb, fun k x hl => (hk _ _ hb).trans (hc k x hl)⟩
theorem RdV.more (h : RdV w B A cs) (hB : B ≤ B') : RdV w B' A cs := by
  rcases h with rfl | ⟨b, off, e, hb, hc⟩
  · exact .inl rfl
  · exact .inr ⟨b, off, e, by omega, hc⟩
theorem RdV.below {C : Nat} (h : RdV w B A cs) (hb : Below C w w') (hC : B ≤ C) : RdV w' B A cs := h.keep fun b _ hp => hb.cell (p := ⟨b, _, none⟩) (Nat.lt_of_lt_of_le hp hC)
theorem RdV.step (h : RdV w w.heap.size A cs) (H : Below w.heap.size w w') : RdV w' w'.heap.size A cs := (h.below H (Nat.le_refl _)).more H.size
theorem RdV.cells {a : Addr} (hr : RdV w B (some a) cs) : ∀ j u, cs[j]? = some u → w.cell? (a.add j) = some u := by
  intro j u hu
  rcases hr with rfl | ⟨b, off, e, hb, hc⟩
  · simp at hu
  · injection e with e
    subst e
    rw [add_plain]
    exact hc j u hu
theorem RdV.of_blk {g e : Nat} (h : Blk w g e cs.toArray) : RdV w w.heap.size (some ⟨g, 0, none⟩) cs :=
  .inr ⟨g, 0, rfl, h.lt, fun k x hk => by rw [Nat.zero_add, h.cell k]; simpa using hk⟩
theorem RdV.drop (h : RdV w B A cs) {b off : Nat} (hA : A = some ⟨b, off, none⟩) (j : Nat) : RdV w B (some ⟨b, off + j, none⟩) (cs.drop j) := by
  rcases h with rfl | ⟨b', off', e, hb, hc⟩
  · left; simp
  · rw [hA] at e
    injection e with e
    injection e with e1 e2
    subst e1 e2
    refine .inr ⟨b, off + j, rfl, hb, fun k u hk => ?_⟩
    rw [List.getElem?_drop] at hk
    have := hc _ _ hk
    rw [← Nat.add_assoc] at this
    exact this
theorem RdV.take (h : RdV w B A cs) (n : Nat) : RdV w B A (cs.take n) := by
  rcases h with rfl | ⟨b', off', e, hb, hc⟩
  · left; simp
  · refine .inr ⟨b', off', e, hb, fun k u hk => hc k u ?_⟩
    rw [List.getElem?_take] at hk
    split at hk
    · exact hk
    · cases hk
end

/-- The slice (A, n, c) is a row of the call's own, from block 'base' on: elements of type e, sz cells each; cs: all its cells. -/
def OwnV (w : World) (base : Nat) (e : TypeId) (sz : Nat) (A : Option Addr) (n c : Nat) (cs : List Value) : Prop := w.ownsRow base e sz (.slice A n c) n cs
section
variable {w w' : World} {base e sz : Nat} {A : Option Addr} {n c : Nat} {cs : List Value}
theorem OwnV.len (h : OwnV w base e sz A n c cs) : cs.length = n * sz := h.1
theorem OwnV.form (h : OwnV w base e sz A n c cs) : (A = none ∧ n = 0 ∧ c = 0 ∧ cs = []) ∨ ∃ g, A = some ⟨g, 0, none⟩ ∧ base ≤ g ∧ g < w.heap.size ∧ n ≤ c ∧ c ≤ maxLen := by
  have hl := h.len
  rcases h.2 with ⟨hv, h0⟩ | ⟨g, cap, cur, hv, hb, hh, hnc, hm, hs, ht⟩
  · injection hv with e1 e2 e3
    exact .inl ⟨e1, h0, e3, List.eq_nil_of_length_eq_zero (by rw [hl, h0, Nat.zero_mul])⟩
  · injection hv with e1 e2 e3
    subst e3
    exact .inr ⟨g, e1, hb, Blk.lt (t := e) (cs := cur) hh, hnc, hm⟩
theorem OwnV.rd (h : OwnV w base e sz A n c cs) : RdV w w.heap.size A cs := by
  have hl := h.len
  rcases h.2 with ⟨_, h0⟩ | ⟨g, cap, cur, hv, hb, hh, hnc, hm, hs, ht⟩
  · left
    exact List.eq_nil_of_length_eq_zero (by rw [hl, h0, Nat.zero_mul])
  · right
    injection hv with hA
    refine ⟨g, 0, hA, Blk.lt (t := e) (cs := cur) hh, fun k x hk => ?_⟩
    rw [Nat.zero_add, Blk.cell (t := e) (cs := cur) hh k]
    have hkl : k < cs.length := (List.getElem?_eq_some_iff.1 hk).1
    rw [← ht, List.getElem?_take, if_pos (by rw [← hl]; exact hkl)] at hk
    simpa using hk
theorem OwnV.below {C : Nat} (h : OwnV w base e sz A n c cs) (hb : Below C w w') (hC : w.heap.size ≤ C) : OwnV w' base e sz A n c cs := by
  refine ⟨h.1, ?_⟩
  rcases h.2 with hn | ⟨g, cap, cur, hv, hb', hh, rest⟩
  · exact .inl hn
  · exact .inr ⟨g, cap, cur, hv, hb', (hb.block g (Nat.lt_of_lt_of_le (Blk.lt (t := e) (cs := cur) hh) hC)).trans hh, rest⟩
theorem OwnV.next (h : OwnV w base e sz A n c cs) (hb : Below w.heap.size w w') : OwnV w' base e sz A n c cs := h.below hb (Nat.le_refl _)
theorem OwnV.more {b : Nat} (h : OwnV w base e sz A n c cs) (hb : b ≤ base) : OwnV w b e sz A n c cs := by
  refine ⟨h.1, ?_⟩
  rcases h.2 with hn | ⟨g, cap, cur, hv, hb', rest⟩
  · exact .inl hn
  · exact .inr ⟨g, cap, cur, hv, Nat.le_trans hb hb', rest⟩
theorem OwnV.alloc (h : OwnV w base e sz A n c cs) (o : Obj) : OwnV (w.alloc o) base e sz A n c cs := World.ownsRow.alloc h o
theorem OwnV.of_blk {g : Nat} (hb : base ≤ g) (hn : cs.length = n * sz) (hm : n ≤ maxLen) (h : Blk w g e cs.toArray) : OwnV w base e sz (some ⟨g, 0, none⟩) n n cs :=
  ⟨hn, .inr ⟨g, n, cs.toArray, rfl, hb, h, Nat.le_refl _, hm, by simpa using hn, List.take_of_length_le (by simp; omega)⟩⟩
theorem OwnV.nil (w : World) (base e sz : Nat) : OwnV w base e sz none 0 0 [] := World.ownsRow_nil _ _ _ _
theorem OwnV.row_ge (h : OwnV w base e sz A n c cs) : ∀ k, (Value.slice A n c).ownBlock = some k → base ≤ k := fun k hk => (World.ownsRow.lt h k hk).1
/-- A row that another row's writing leaves alone. -/
theorem OwnV.kept {row : Option Nat} (h : OwnV w base e sz A n c cs) (hg : w.grownBy w' row) (hne : ∀ g, A = some ⟨g, 0, none⟩ → row ≠ some g) : OwnV w' base e sz A n c cs := by
  refine World.ownsRow.kept h hg ?_
  rcases A with _ | a
  · exact .inl rfl
  · right
    intro e
    rcases h.form with ⟨e1, _⟩ | ⟨g, e1, _⟩
    · cases e1
    · injection e1 with e1
      subst e1
      exact hne g rfl (by rw [← e]; rfl)
/-- Two rows whose elements are of two types lie in two blocks. -/
theorem OwnV.apart {base' e' sz' : Nat} {A' : Option Addr} {n' c' : Nat} {cs' : List Value} (h : OwnV w base e sz A n c cs) (h' : OwnV w base' e' sz' A' n' c' cs') (hne : e ≠ e') : ∀ g, A = some ⟨g, 0, none⟩ → (Value.slice A' n' c').ownBlock ≠ some g := by
  intro g hA hb
  rcases h.2 with ⟨hv, _⟩ | ⟨g1, cap, cur, hv, _, hh, _⟩
  · injection hv with e1; rw [hA] at e1; cases e1
  · injection hv with e1
    rw [hA] at e1
    injection e1 with e1
    injection e1 with e1
    subst e1
    rcases h'.2 with ⟨hv', _⟩ | ⟨g2, cap2, cur2, hv', _, hh', _⟩
    · rw [hv'] at hb; simp [Value.ownBlock] at hb
    · rw [hv'] at hb
      simp only [Value.ownBlock, Option.some.injEq] at hb
      subst hb
      rw [hh] at hh'
      injection hh' with hh'
      injection hh' with _ h2 _
      exact hne h2
end
theorem OwnV.far {w : World} {base e sz : Nat} {A : Option Addr} {n c : Nat} {cs : List Value} (h : OwnV w base e sz A n c cs) {p : Addr} (hp : ∀ g, A = some ⟨g, 0, none⟩ → g ≠ p.block) (u : Value) : OwnV (w.setCell p u) base e sz A n c cs := by
  refine ⟨h.1, ?_⟩
  rcases h.2 with hn | ⟨g, cap, cur, hv, hb', hh, rest⟩
  · exact .inl hn
  · have hA : A = some ⟨g, 0, none⟩ := by injection hv
    exact .inr ⟨g, cap, cur, hv, hb', (Below.heap_setCell w p u g (hp g hA)).trans hh, rest⟩
theorem RdV.kept {w w' : World} {B : Nat} {A : Option Addr} {cs : List Value} {row : Option Nat} (h : RdV w B A cs) (hg : w.grownBy w' row) (hB : B ≤ w.heap.size) (hr : ∀ k, row = some k → B ≤ k) : RdV w' B A cs :=
  h.keep fun b o hp => World.cell?_of_block (w := w) (a := ⟨b, o, none⟩) (hg.block b (by omega) (fun e => by have := hr b e.symm; omega))

theorem RdI.toV {w : World} {B : Nat} {A : Option Addr} {xs : List Int} (h : RdI w B A xs) : RdV w B A (ints xs) := by
  rcases h with e | ⟨b, off, e, hb, hc⟩
  · subst e; exact .inl rfl
  · refine .inr ⟨b, off, e, hb, fun k u hk => ?_⟩
    simp only [ints, List.getElem?_map, Option.map_eq_some_iff] at hk
    obtain ⟨x, hx, rfl⟩ := hk
    exact hc k x hx
/-- What an append needs to know of the types. -/
structure RowT (T e : TypeId) (sz bytes : Nat) where
  und : Try.prog.underlying T = some (.slice e)
  info : ∃ i z, Try.prog.info? e = some i ∧ i.zero = some z ∧ i.size = sz ∧ i.bytes = bytes ∧ z.cells.size = sz
  pos : 0 < sz
  fits : bytes ≤ 64
theorem run_append_v {T e sz bytes : Nat} (K : RowT T e sz bytes) (w : World) (base : Nat) (ty : TypeId) (A0 : Option Addr) (n0 c0 : Nat) (cs : List Value) (hown : OwnV w base e sz A0 n0 c0 cs) (B : Nat) (A : Option Addr) (m c : Nat) (ys : List Value) (hm : ys.length = m * sz) (hr : RdV w B A ys) (hone : ∀ u ∈ ys, u.oneCell' = true)
    (hb : n0 + m ≤ 1099511627776) (hbase : base ≤ w.heap.size) :
    ∃ A' c' w', (Builtin.append_ #[T, T] ty #[.slice A0 n0 c0, .slice A m c]).run Try.prog w = .ok (.slice A' (n0 + m) c') w' ∧ OwnV w' base e sz A' (n0 + m) c' (cs ++ ys) ∧ w.grownBy w' (Value.slice A0 n0 c0).ownBlock ∧
      (A' = A0 ∨ A' = some ⟨w.heap.size, 0, none⟩) := by
  obtain ⟨i, z, hi, hz0, hz1, hz2, hz3⟩ := K.info
  rcases A with _ | a
  · have hy : ys = [] := by
      rcases hr with e | ⟨b, off, e, _⟩
      · exact e
      · cases e
    subst hy
    have hm0 : m = 0 := by
      have : m * sz = 0 := by simpa using hm.symm
      rcases Nat.mul_eq_zero.1 this with h | h
      · exact h
      · have := K.pos; omega
    subst hm0
    have hsz := K.pos
    refine ⟨A0, c0, w, ?_, by simpa using hown, World.grownBy.refl w _, .inl rfl⟩
    rcases hown.2 with ⟨hv, h0⟩ | ⟨g, cap, cur, hv, _, _, hnc, _⟩
    · injection hv with e1 e2 e3
      subst e1 e2 e3
      simp [Builtin.append_, run_underlying K.und, sizeOf, typeInfo, hi, Builtin.lenOf, Builtin.firstCells]
    · injection hv with e1 e2 e3
      subst e1 e3
      simp [Builtin.append_, run_underlying K.und, sizeOf, typeInfo, hi, Builtin.lenOf, Builtin.firstCells, hnc, storeCells]
  · have hby : (n0 + m) * bytes ≤ 140737488355328 := by
      have := Nat.mul_le_mul hb K.fits
      omega
    obtain ⟨v', w', hrun, hown', hg, _, hat⟩ := run_append_own_at (P := Try.prog) w base T ty e i z sz bytes K.und hi hz0 hz1 hz2 hz3 K.pos _ _ _ hown a m c ys hm hr.cells hone (by unfold maxLen; omega) hby hbase
    rcases hown'.2 with ⟨hv, h0⟩ | ⟨g, cap, cur, hv, _⟩
    · refine ⟨none, 0, w', by rw [hrun, hv, h0], ?_, hg, ?_⟩
      · unfold OwnV
        rw [hv, h0] at hown'
        rw [h0]
        exact hown'
      · left
        rw [hv] at hat
        rcases hat with e | e
        · rcases A0 with _ | a0
          · rfl
          · simp [Value.ownBlock] at e
        · simp [Value.ownBlock] at e
    · refine ⟨some ⟨g, 0, none⟩, cap, w', by rw [hrun, hv], ?_, hg, ?_⟩
      · unfold OwnV
        rw [← hv]
        exact hown'
      · rw [hv] at hat
        rcases hat with e | e
        · left
          rcases hown.form with ⟨e0, _⟩ | ⟨g0, e0, _⟩
          · rw [e0] at e; simp [Value.ownBlock] at e
          · rw [e0] at e ⊢
            simp [Value.ownBlock] at e
            rw [e]
        · right
          simp [Value.ownBlock] at e
          rw [e]
theorem wpList_append_v {T e sz bytes : Nat} (K : RowT T e sz bytes) {ops : Array Oper} {rest : List Oper} {o : Oper} {a : Act} {Q : Exit → Act → World → Prop} (w : World) (hgd : o.guard = none) (s x : Operand)
    (ho : o.op = .call { callee := .builtin .append, args := #[s, x], argTypes := #[T, T] })
    (base : Nat) (A0 : Option Addr) (n c0 : Nat) (cs : List Value) (hs : a.eval s = .slice A0 n c0) (hown : OwnV w base e sz A0 n c0 cs) (B : Nat) (A : Option Addr) (m c : Nat) (ys : List Value) (hm : ys.length = m * sz) (hx : a.eval x = .slice A m c) (hr : RdV w B A ys) (hone : ∀ u ∈ ys, u.oneCell' = true)
    (hb : n + m ≤ 1099511627776) (hbase : base ≤ w.heap.size)
    (h : ∀ A' c' w', OwnV w' base e sz A' (n + m) c' (cs ++ ys) → w.grownBy w' (Value.slice A0 n c0).ownBlock → (A' = A0 ∨ A' = some ⟨w.heap.size, 0, none⟩) → wpList Try.prog ops Q rest (a.put o.dst (.slice A' (n + m) c')) w') : wpList Try.prog ops Q (o :: rest) a w := by
  refine wpList_plain hgd fun K2 hK => ?_
  obtain ⟨A', c', w', hrun, h2, h3, h4⟩ := run_append_v K w base o.type A0 n c0 cs hown B A m c ys hm hr hone hb hbase
  unfold Oper.wp execOp
  simp only [ho, resolve, invoke, builtin, Sem.run_bind, Sem.run_pure, Result.andThen_ok, List.map_toArray, List.map_cons, List.map_nil, hs, hx, hrun]
  exact hK _ _ (h A' c' w' h2 h3 h4)
theorem step_append_v {T e sz bytes : Nat} (K : RowT T e sz bytes) {ops : Array Oper} {o : Oper} {a : Act} {w : World} {KK : Act → World → Prop} {Q : Exit → Act → World → Prop} {E : Prop} (hg : o.guard = none) (s x : Operand)
    (ho : o.op = Op.call { callee := Callee.builtin Builtin.append, args := #[s, x], argTypes := #[T, T] })
    (base : Nat) (A0 : Option Addr) (n c0 : Nat) (cs : List Value) (hs : a.eval s = .slice A0 n c0) (hown : OwnV w base e sz A0 n c0 cs) (B : Nat) (A : Option Addr) (m c : Nat) (ys : List Value) (hm : ys.length = m * sz) (hx : a.eval x = .slice A m c) (hr : RdV w B A ys) (hone : ∀ u ∈ ys, u.oneCell' = true)
    (hb : n + m ≤ 1099511627776) (hbase : base ≤ w.heap.size)
    (hK : ∀ A' c' w', OwnV w' base e sz A' (n + m) c' (cs ++ ys) → w.grownBy w' (Value.slice A0 n c0).ownBlock → (A' = A0 ∨ A' = some ⟨w.heap.size, 0, none⟩) → KK (a.put o.dst (.slice A' (n + m) c')) w') :
    if Region.wanted o (yielded ops a.tmps) = true then Oper.wp Try.prog o a w KK Q else E := by
  have hw : Region.wanted o (yielded ops a.tmps) = true := by simp [Region.wanted, hg]
  rw [if_pos hw]
  obtain ⟨A', c', w', hrun, h2, h3, h4⟩ := run_append_v K w base o.type A0 n c0 cs hown B A m c ys hm hr hone hb hbase
  unfold Oper.wp execOp
  simp only [ho, resolve, invoke, builtin, Sem.run_bind, Sem.run_pure, Result.andThen_ok, List.map_toArray, List.map_cons, List.map_nil, hs, hx, hrun]
  exact hK _ _ _ h2 h3 h4
/-- An append onto an empty slice without room leaves all older blocks alone. -/
theorem run_append_e {T e sz bytes : Nat} (K : RowT T e sz bytes) (w : World) (base : Nat) (ty : TypeId) (g : Nat) (hb0 : base ≤ g) (hB : Blk w g e #[]) (B : Nat) (A : Option Addr) (m c : Nat) (ys : List Value) (hm : ys.length = m * sz) (hr : RdV w B A ys) (hone : ∀ u ∈ ys, u.oneCell' = true)
    (hb : m ≤ 1099511627776) (hbase : base ≤ w.heap.size) :
    ∃ A' c' w', (Builtin.append_ #[T, T] ty #[.slice (some ⟨g, 0, none⟩) 0 0, .slice A m c]).run Try.prog w = .ok (.slice A' m c') w' ∧ OwnV w' base e sz A' m c' ys ∧ Below w.heap.size w w' ∧ (A' = some ⟨g, 0, none⟩ ∨ A' = some ⟨w.heap.size, 0, none⟩) := by
  have hown : OwnV w base e sz (some ⟨g, 0, none⟩) 0 0 [] := OwnV.of_blk hb0 (by simp) (Nat.zero_le _) hB
  obtain ⟨A', c', w', hrun, ho, hg, hat⟩ := run_append_v K w base ty (some ⟨g, 0, none⟩) 0 0 [] hown B A m c ys hm hr hone (by omega) hbase
  rw [Nat.zero_add] at hrun ho
  rw [List.nil_append] at ho
  refine ⟨A', c', w', hrun, ho, ?_, hat⟩
  obtain ⟨i, z, hi, hz0, hz1, hz2, hz3⟩ := K.info
  rcases A with _ | a
  · have hy : ys = [] := by
      rcases hr with e | ⟨b, off, e, _⟩
      · exact e
      · cases e
    subst hy
    have hm0 : m = 0 := by
      have : m * sz = 0 := by simpa using hm.symm
      rcases Nat.mul_eq_zero.1 this with h | h
      · exact h
      · have := K.pos; omega
    subst hm0
    have h2 : (Builtin.append_ #[T, T] ty #[.slice (some ⟨g, 0, none⟩) 0 0, .slice none 0 c]).run Try.prog w = .ok (.slice (some ⟨g, 0, none⟩) 0 0) w := by
      simp [Builtin.append_, run_underlying K.und, sizeOf, typeInfo, hi, Builtin.lenOf, Builtin.firstCells, storeCells]
    rw [h2] at hrun
    injection hrun with _ hw
    subst hw
    exact Below.refl _ _
  · by_cases hm0 : m = 0
    · subst hm0
      have hy : ys = [] := List.eq_nil_of_length_eq_zero (by rw [hm, Nat.zero_mul])
      subst hy
      have h2 := run_append_room (P := Try.prog) w T ty e i K.und hi g 0 0 #[] hB a 0 c [] (by simp) (by simp) (by simp) (Nat.le_refl _) (by simp)
      rw [h2] at hrun
      injection hrun with _ hw
      subst hw
      refine ⟨rfl, rfl, rfl, by simp [World.setRow], fun k hk => ?_⟩
      by_cases hkg : k = g
      · subst hkg
        rw [setRow_heap w k _ _ _ _ hB, hB]
        simp
      · exact setRow_other w g k _ hkg
    · have h2 := run_append_grow (P := Try.prog) w T ty e i z K.und hi hz0 ⟨g, 0, none⟩ 0 0 [] (by simp) (by simp) a m c ys (by rw [hz1]; exact hm) hr.cells (by omega) (by omega) (growslice_fits (by omega) (by rw [hz2, Nat.zero_add]; have := Nat.mul_le_mul hb K.fits; omega))
      rw [h2] at hrun
      injection hrun with _ hw
      subst hw
      exact ((Below.refl _ _).drew).alloc (Nat.le_refl _) _
theorem wpList_append_e {T e sz bytes : Nat} (K : RowT T e sz bytes) {ops : Array Oper} {rest : List Oper} {o : Oper} {a : Act} {Q : Exit → Act → World → Prop} (w : World) (hgd : o.guard = none) (s x : Operand)
    (ho : o.op = .call { callee := .builtin .append, args := #[s, x], argTypes := #[T, T] })
    (base g : Nat) (hs : a.eval s = .slice (some ⟨g, 0, none⟩) 0 0) (hb0 : base ≤ g) (hB : Blk w g e #[]) (B : Nat) (A : Option Addr) (m c : Nat) (ys : List Value) (hm : ys.length = m * sz) (hx : a.eval x = .slice A m c) (hr : RdV w B A ys) (hone : ∀ u ∈ ys, u.oneCell' = true)
    (hb : m ≤ 1099511627776) (hbase : base ≤ w.heap.size)
    (h : ∀ A' c' w', OwnV w' base e sz A' m c' ys → Below w.heap.size w w' → (A' = some ⟨g, 0, none⟩ ∨ A' = some ⟨w.heap.size, 0, none⟩) → wpList Try.prog ops Q rest (a.put o.dst (.slice A' m c')) w') : wpList Try.prog ops Q (o :: rest) a w := by
  refine wpList_plain hgd fun K2 hK => ?_
  obtain ⟨A', c', w', hrun, h2, h3, h4⟩ := run_append_e K w base o.type g hb0 hB B A m c ys hm hr hone hb hbase
  unfold Oper.wp execOp
  simp only [ho, resolve, invoke, builtin, Sem.run_bind, Sem.run_pure, Result.andThen_ok, List.map_toArray, List.map_cons, List.map_nil, hs, hx, hrun]
  exact hK _ _ (h A' c' w' h2 h3 h4)
/-- A row that grows leaves the older blocks alone. -/
theorem grown_below {w w' : World} {row : Option Nat} {C : Nat} (hg : w.grownBy w' row) (hr : ∀ k, row = some k → C ≤ k) (hC : C ≤ w.heap.size) : Below C w w' := (Below.refl C w).grown hg hC hr
theorem rowInt : RowT 22 3 1 8 := ⟨Try.underlying22, by
  obtain ⟨i0, hi, hz0, hz1, hz2⟩ := info_parts (show (Try.prog.info? 3).map (fun i => (i.zero, i.size, i.bytes)) = some (some (.int .i64 0), 1, 8) by kernel_rfl)
  exact ⟨i0, _, hi, hz0, hz1, hz2, rfl⟩, by omega, by omega⟩
end Go.Proofs.Ytdnknddldfihdaa
