/- Rows of structs of ints that a call made itself: append, mark, held. -/
import Derived.Test.YtifljdnlaginfaaMk
import Derived.Test.YtifljdnlaginfaaS3
namespace Go.Proofs.Ytifljdnlaginfaa
open Go.ChangeShapes Go.WideShapes Go.ChangeAt Go.RowKit
set_option linter.unusedVariables false

/-- The slice (A, n, c) is a row of structs of the call's own, from block 'base' on; zs: its ints, flat. -/
def OwnZ (w : World) (base : Nat) (A : Option Addr) (n c : Nat) (zs : List Int) : Prop := w.ownsRow base 53 3 (.slice A n c) n (ints zs)

section
variable {w w' : World} {base : Nat} {A : Option Addr} {n c : Nat} {zs : List Int}
theorem OwnZ.len (h : OwnZ w base A n c zs) : zs.length = n * 3 := by simpa using h.1
theorem OwnZ.form (h : OwnZ w base A n c zs) : (A = none ∧ n = 0 ∧ zs = []) ∨ ∃ g, A = some ⟨g, 0, none⟩ ∧ base ≤ g ∧ g < w.heap.size ∧ n ≤ c ∧ c ≤ maxLen := by
  have hl := h.len
  rcases h.2 with ⟨hv, h0⟩ | ⟨g, cap, cur, hv, hb, hh, hnc, hm, hs, ht⟩
  · injection hv with e1 e2 e3
    exact .inl ⟨e1, h0, List.eq_nil_of_length_eq_zero (by omega)⟩
  · injection hv with e1 e2 e3
    subst e3
    exact .inr ⟨g, e1, hb, Blk.lt (t := 53) (cs := cur) hh, hnc, hm⟩
theorem OwnZ.rd (h : OwnZ w base A n c zs) : RdI w w.heap.size A zs := by
  have hl := h.len
  rcases h.2 with ⟨_, h0⟩ | ⟨g, cap, cur, hv, hb, hh, hnc, hm, hs, ht⟩
  · left
    exact List.eq_nil_of_length_eq_zero (by omega)
  · right
    injection hv with hA
    refine ⟨g, 0, hA, Blk.lt (t := 53) (cs := cur) hh, fun k x hk => ?_⟩
    rw [Nat.zero_add, Blk.cell (t := 53) (cs := cur) hh k]
    have h2 := ints_get hk
    have hkl : k < zs.length := (List.getElem?_eq_some_iff.1 hk).1
    rw [← ht, List.getElem?_take, if_pos (by omega)] at h2
    simpa using h2
theorem OwnZ.below {C : Nat} (h : OwnZ w base A n c zs) (hb : Below C w w') (hC : w.heap.size ≤ C) : OwnZ w' base A n c zs := by
  refine ⟨h.1, ?_⟩
  rcases h.2 with hn | ⟨g, cap, cur, hv, hb', hh, rest⟩
  · exact .inl hn
  · exact .inr ⟨g, cap, cur, hv, hb', (hb.block g (Nat.lt_of_lt_of_le (Blk.lt (t := 53) (cs := cur) hh) hC)).trans hh, rest⟩
theorem OwnZ.next (h : OwnZ w base A n c zs) (hb : Below w.heap.size w w') : OwnZ w' base A n c zs := h.below hb (Nat.le_refl _)
theorem OwnZ.more {b : Nat} (h : OwnZ w base A n c zs) (hb : b ≤ base) : OwnZ w b A n c zs := by
  refine ⟨h.1, ?_⟩
  rcases h.2 with hn | ⟨g, cap, cur, hv, hb', rest⟩
  · exact .inl hn
  · exact .inr ⟨g, cap, cur, hv, Nat.le_trans hb hb', rest⟩
theorem OwnZ.alloc (h : OwnZ w base A n c zs) (o : Obj) : OwnZ (w.alloc o) base A n c zs := World.ownsRow.alloc h o
theorem OwnZ.of_blk {g : Nat} (hb : base ≤ g) (hn : zs.length = n * 3) (hm : n ≤ maxLen) (h : Blk w g 53 (ints zs).toArray) : OwnZ w base (some ⟨g, 0, none⟩) n n zs :=
  ⟨by simpa using hn, .inr ⟨g, n, (ints zs).toArray, rfl, hb, h, Nat.le_refl _, hm, by simpa using hn, List.take_of_length_le (by simp; omega)⟩⟩
theorem OwnZ.nil (w : World) (base : Nat) : OwnZ w base none 0 0 [] := World.ownsRow_nil _ _ _ _
/-- A row that another row's writing leaves alone. -/
theorem OwnZ.kept {row : Option Nat} (h : OwnZ w base A n c zs) (hg : w.grownBy w' row) (hne : ∀ g, A = some ⟨g, 0, none⟩ → row ≠ some g) : OwnZ w' base A n c zs := by
  refine World.ownsRow.kept h hg ?_
  rcases A with _ | a
  · exact .inl rfl
  · right
    intro e
    rcases h.form with ⟨e1, _⟩ | ⟨g, e1, _⟩
    · cases e1
    · injection e1 with e1
      subst e1
      exact hne g rfl (by rw [← e]; rfl)
end

theorem run_append_z (w : World) (base : Nat) (ty : TypeId) (A0 : Option Addr) (n0 c0 : Nat) (zs : List Int) (hown : OwnZ w base A0 n0 c0 zs) (B : Nat) (a : Addr) (m c : Nat) (ys : List Int) (hm : ys.length = m * 3) (hr : RdI w B (some a) ys)
    (hb : n0 + m ≤ 1099511627776) (hbase : base ≤ w.heap.size) :
    ∃ A' c' w', (Builtin.append_ #[37, 37] ty #[.slice A0 n0 c0, .slice (some a) m c]).run Try.prog w = .ok (.slice A' (n0 + m) c') w' ∧ OwnZ w' base A' (n0 + m) c' (zs ++ ys) ∧ w.grownBy w' (Value.slice A0 n0 c0).ownBlock ∧
      (A' = A0 ∨ A' = some ⟨w.heap.size, 0, none⟩) := by
  obtain ⟨i0, hi, hz0, hz1, hz2⟩ := info_parts infoS
  obtain ⟨v', w', hrun, hown', hg, _, hat⟩ := run_append_own_at (P := Try.prog) w base 37 ty 53 i0 _ 3 24 Try.underlying37 hi hz0 hz1 hz2 rfl (by decide) _ _ _ hown a m c (ints ys) (by simpa using hm) hr.cells (ints_one ys) (by unfold maxLen; omega) (by omega) hbase
  have hin : ints (zs ++ ys) = ints zs ++ ints ys := by simp [ints]
  rcases hown'.2 with ⟨hv, h0⟩ | ⟨g, cap, cur, hv, _⟩
  · refine ⟨none, 0, w', by rw [hrun, hv, h0], ?_, hg, ?_⟩
    · unfold OwnZ
      rw [hin]
      rw [hv, h0] at hown'
      rw [h0]
      exact hown'
    · left
      rw [hv] at hat
      rcases hat with e | e
      · rcases A0 with _ | a0
        · rfl
        · simp [Value.ownBlock] at e
      · simp [Value.ownBlock] at e
  · refine ⟨some ⟨g, 0, none⟩, cap, w', by rw [hrun, hv], ?_, hg, ?_⟩
    · unfold OwnZ
      rw [hin, ← hv]
      exact hown'
    · rw [hv] at hat
      rcases hat with e | e
      · left
        rcases hown.form with ⟨e0, _⟩ | ⟨g0, e0, _⟩
        · rw [e0] at e; simp [Value.ownBlock] at e
        · rw [e0] at e ⊢
          simp [Value.ownBlock] at e
          rw [e]
      · right
        simp [Value.ownBlock] at e
        rw [e]
theorem wpList_append_z {ops : Array Oper} {rest : List Oper} {o : Oper} {a : Act} {Q : Exit → Act → World → Prop} (w : World) (hgd : o.guard = none) (s x : Operand)
    (ho : o.op = .call { callee := .builtin .append, args := #[s, x], argTypes := #[37, 37] })
    (base : Nat) (A0 : Option Addr) (n c0 : Nat) (zs : List Int) (hs : a.eval s = .slice A0 n c0) (hown : OwnZ w base A0 n c0 zs) (B : Nat) (ad : Addr) (m c : Nat) (ys : List Int) (hm : ys.length = m * 3) (hx : a.eval x = .slice (some ad) m c) (hr : RdI w B (some ad) ys)
    (hb : n + m ≤ 1099511627776) (hbase : base ≤ w.heap.size)
    (h : ∀ A' c' w', OwnZ w' base A' (n + m) c' (zs ++ ys) → w.grownBy w' (Value.slice A0 n c0).ownBlock → (A' = A0 ∨ A' = some ⟨w.heap.size, 0, none⟩) → wpList Try.prog ops Q rest (a.put o.dst (.slice A' (n + m) c')) w') : wpList Try.prog ops Q (o :: rest) a w := by
  refine wpList_plain hgd fun K hK => ?_
  obtain ⟨A', c', w', hrun, h2, h3, h4⟩ := run_append_z w base o.type A0 n c0 zs hown B ad m c ys hm hr hb hbase
  unfold Oper.wp execOp
  simp only [ho, resolve, invoke, builtin, Sem.run_bind, Sem.run_pure, Result.andThen_ok, List.map_toArray, List.map_cons, List.map_nil, hs, hx, hrun]
  exact hK _ _ (h A' c' w' h2 h3 h4)

/-- What a function hands back: a row of its own that reads as xs. -/
def RetS (w : World) (xs : List (Int × Int × Int)) (e : Ending) (w' : World) : Prop := ∃ A c, e = .returned (.slice A xs.length c) ∧ OwnZ w' w.heap.size A xs.length c (flat3 xs) ∧ Below w.heap.size w w'


end Go.Proofs.Ytifljdnlaginfaa
