/- Rows of ints that a call made itself: append, mark, held. -/
import Derived.Test.YtdnknddldfihdaaMk
namespace Go.Proofs.Ytdnknddldfihdaa
open Go.ChangeShapes Go.WideShapes Go.ChangeAt Go.RowKit
set_option linter.unusedVariables false

/-- The slice (A, length of xs, c) is a row of ints of the call's own, from block 'base' on. -/
def OwnI (w : World) (base : Nat) (A : Option Addr) (c : Nat) (xs : List Int) : Prop := w.ownsRow base 3 1 (.slice A xs.length c) xs.length (ints xs)

section
variable {w w' : World} {base : Nat} {A : Option Addr} {c : Nat} {xs : List Int}
theorem OwnI.form (h : OwnI w base A c xs) : (A = none ∧ xs = []) ∨ ∃ g, A = some ⟨g, 0, none⟩ ∧ base ≤ g ∧ g < w.heap.size ∧ xs.length ≤ c ∧ c ≤ maxLen := by
  rcases h.2 with ⟨hv, h0⟩ | ⟨g, cap, cur, hv, hb, hh, hnc, hm, hs, ht⟩
  · injection hv with e1 e2 e3
    exact .inl ⟨e1, List.eq_nil_of_length_eq_zero h0⟩
  · injection hv with e1 e2 e3
    subst e3
    exact .inr ⟨g, e1, hb, Blk.lt (t := 3) (cs := cur) hh, hnc, hm⟩
theorem OwnI.rd (h : OwnI w base A c xs) : RdI w w.heap.size A xs := RdI.of_own h
theorem OwnI.cap (h : OwnI w base A c xs) : xs.length ≤ c ∨ xs = [] := by
  rcases h.form with ⟨_, e⟩ | ⟨_, _, _, _, e, _⟩
  · exact .inr e
  · exact .inl e
theorem OwnI.below {C : Nat} (h : OwnI w base A c xs) (hb : Below C w w') (hC : w.heap.size ≤ C) : OwnI w' base A c xs := by
  refine ⟨h.1, ?_⟩
  rcases h.2 with hn | ⟨g, cap, cur, hv, hb', hh, rest⟩
  · exact .inl hn
  · exact .inr ⟨g, cap, cur, hv, hb', (hb.block g (Nat.lt_of_lt_of_le (Blk.lt (t := 3) (cs := cur) hh) hC)).trans hh, rest⟩
theorem OwnI.next (h : OwnI w base A c xs) (hb : Below w.heap.size w w') : OwnI w' base A c xs := h.below hb (Nat.le_refl _)
theorem OwnI.more {b : Nat} (h : OwnI w base A c xs) (hb : b ≤ base) : OwnI w b A c xs := by
  refine ⟨h.1, ?_⟩
  rcases h.2 with hn | ⟨g, cap, cur, hv, hb', rest⟩
  · exact .inl hn
  · exact .inr ⟨g, cap, cur, hv, Nat.le_trans hb hb', rest⟩
theorem OwnI.of_blk {g : Nat} (hb : base ≤ g) (hm : xs.length ≤ maxLen) (h : Blk w g 3 (ints xs).toArray) : OwnI w base (some ⟨g, 0, none⟩) xs.length xs :=
  ⟨by simp, .inr ⟨g, xs.length, (ints xs).toArray, rfl, hb, h, Nat.le_refl _, hm, by simp, by rw [Nat.mul_one]; exact List.take_of_length_le (by simp)⟩⟩
/-- A row that another row's writing leaves alone. -/
theorem OwnI.kept {row : Option Nat} (h : OwnI w base A c xs) (hg : w.grownBy w' row) (hne : ∀ g, A = some ⟨g, 0, none⟩ → row ≠ some g) : OwnI w' base A c xs := by
  refine World.ownsRow.kept h hg ?_
  rcases A with _ | a
  · exact .inl rfl
  · right
    intro e
    rcases h.form with ⟨e1, _⟩ | ⟨g, e1, _⟩
    · cases e1
    · injection e1 with e1
      subst e1
      exact hne g rfl (by rw [← e]; rfl)
end

/-- append onto a row of the call's own, of a slice that reads as a list (nil too). -/
theorem run_append_rd (w : World) (base : Nat) (ty : TypeId) (A0 : Option Addr) (c0 : Nat) (xs : List Int) (hown : OwnI w base A0 c0 xs) (B : Nat) (A : Option Addr) (m c : Nat) (ys : List Int) (hm : ys.length = m) (hr : RdI w B A ys)
    (hb : xs.length + ys.length ≤ 17592186044416) (hbase : base ≤ w.heap.size) :
    ∃ A' c' w', (Builtin.append_ #[22, 22] ty #[.slice A0 xs.length c0, .slice A m c]).run Try.prog w = .ok (.slice A' (xs.length + m) c') w' ∧ OwnI w' base A' c' (xs ++ ys) ∧ w.grownBy w' (Value.slice A0 xs.length c0).ownBlock ∧
      (A' = A0 ∨ A' = some ⟨w.heap.size, 0, none⟩) := by
  obtain ⟨i0, hi, hz0, hz1, hz2⟩ := info_parts infoInt
  rcases A with _ | a
  · have hy : ys = [] := by
      rcases hr with e | ⟨b, off, e, _⟩
      · exact e
      · cases e
    subst hy
    have hm0 : m = 0 := by simpa using hm.symm
    subst hm0
    refine ⟨A0, c0, w, ?_, by simpa using hown, World.grownBy.refl w _, .inl rfl⟩
    rcases hown.2 with ⟨hv, h0⟩ | ⟨g, cap, cur, hv, _, _, hnc, _⟩
    · rw [hv]
      have hx : xs = [] := List.eq_nil_of_length_eq_zero h0
      subst hx
      simp [Builtin.append_, run_underlying Try.underlying22, sizeOf, typeInfo, hi, Builtin.lenOf, Builtin.firstCells]
      injection hv with e1 e2 e3
      exact ⟨e1.symm, e3.symm⟩
    · rw [hv]
      injection hv with e1 e2 e3
      subst e1 e3
      simp [Builtin.append_, run_underlying Try.underlying22, sizeOf, typeInfo, hi, Builtin.lenOf, Builtin.firstCells, hnc, storeCells]
  · subst hm
    obtain ⟨v', w', hrun, hown', hg, _, hat⟩ := run_append_own_at (P := Try.prog) w base 22 ty 3 i0 (.int .i64 0) 1 8 Try.underlying22 hi hz0 hz1 hz2 rfl (by decide) _ _ _ hown a ys.length c (ints ys) (by simp) hr.cells (ints_one ys) (by unfold maxLen; omega) (by omega) hbase
    have hlen : (xs ++ ys).length = xs.length + ys.length := List.length_append
    have hin : ints (xs ++ ys) = ints xs ++ ints ys := by simp [ints]
    rcases hown'.2 with ⟨hv, h0⟩ | ⟨g, cap, cur, hv, _⟩
    · refine ⟨none, 0, w', by rw [hrun, hv, h0], ?_, hg, ?_⟩
      · unfold OwnI
        rw [hlen, hin, h0, ← hv]
        rw [h0] at hown'
        exact hown'
      · left
        rw [hv] at hat
        rcases hat with e | e
        · rcases A0 with _ | a0
          · rfl
          · simp [Value.ownBlock] at e
        · simp [Value.ownBlock] at e
    · refine ⟨some ⟨g, 0, none⟩, cap, w', by rw [hrun, hv], ?_, hg, ?_⟩
      · unfold OwnI
        rw [hlen, hin, ← hv]
        exact hown'
      · rw [hv] at hat
        rcases hat with e | e
        · left
          rcases hown.form with ⟨e0, _⟩ | ⟨g0, e0, _⟩
          · rw [e0] at e; simp [Value.ownBlock] at e
          · rw [e0] at e ⊢
            simp [Value.ownBlock] at e
            rw [e]
        · right
          simp [Value.ownBlock] at e
          rw [e]

theorem wpList_append_rd {ops : Array Oper} {rest : List Oper} {o : Oper} {a : Act} {Q : Exit → Act → World → Prop} (w : World) (hgd : o.guard = none) (s x : Operand)
    (ho : o.op = .call { callee := .builtin .append, args := #[s, x], argTypes := #[22, 22] })
    (base : Nat) (A0 : Option Addr) (n c0 : Nat) (xs : List Int) (hn : xs.length = n) (hs : a.eval s = .slice A0 n c0) (hown : OwnI w base A0 c0 xs) (B : Nat) (A : Option Addr) (m c : Nat) (ys : List Int) (hm : ys.length = m) (hx : a.eval x = .slice A m c) (hr : RdI w B A ys)
    (hb : xs.length + ys.length ≤ 17592186044416) (hbase : base ≤ w.heap.size)
    (h : ∀ A' c' w', OwnI w' base A' c' (xs ++ ys) → w.grownBy w' (Value.slice A0 n c0).ownBlock → (A' = A0 ∨ A' = some ⟨w.heap.size, 0, none⟩) → wpList Try.prog ops Q rest (a.put o.dst (.slice A' (n + m) c')) w') : wpList Try.prog ops Q (o :: rest) a w := by
  subst hn
  refine wpList_plain hgd fun K hK => ?_
  obtain ⟨A', c', w', hrun, h2, h3, h4⟩ := run_append_rd w base o.type A0 c0 xs hown B A m c ys hm hr hb hbase
  unfold Oper.wp execOp
  simp only [ho, resolve, invoke, builtin, Sem.run_bind, Sem.run_pure, Result.andThen_ok, List.map_toArray, List.map_cons, List.map_nil, hs, hx, hrun]
  exact hK _ _ (h A' c' w' h2 h3 h4)

/-- What a function hands back: a row of its own that reads as xs. -/
def RetI (w : World) (xs : List Int) (e : Ending) (w' : World) : Prop := ∃ A c, e = .returned (.slice A xs.length c) ∧ OwnI w' w.heap.size A c xs ∧ Below w.heap.size w w'

theorem copyInts_c (A : Option Addr) (c : Nat) (xs : List Int) (w : World) (hr : RdI w w.heap.size A xs) (hl : xs.length ≤ 1048576) :
    Calls Try.prog 46 #[.slice A xs.length c] w (RetI w xs) := by
  have h0 : OwnI w w.heap.size none 0 [] := World.ownsRow_nil _ _ _ _
  go_enter Try.func46, Try.ntmps46
  go_wp2_with (at_builtin; refine wpList_append_rd _ rfl _ _ rfl w.heap.size none 0 0 [] rfl rfl h0 w.heap.size A xs.length c xs rfl rfl hr (by simp; omega) (Nat.le_refl _) ?_; intro A' c' w' hown hg hat)
  go_ret
  refine ⟨A', c', ?_, by simpa using hown, (Below.refl _ _).grown hg (Nat.le_refl _) (by simp [Value.ownBlock])⟩
  simp
set_option maxHeartbeats 400000 in
theorem markIntS_c (base : Nat) (A : Option Addr) (c : Nat) (xs : List Int) (k : Int) (w : World) (hown : OwnI w base A c xs) (hl : xs.length ≤ 17592186044416) (hk0 : 0 ≤ k) (hk1 : k ≤ 17592186044416) :
    Calls Try.prog 26 #[.slice A xs.length c, .int .i64 k] w fun e w' => e = .returned (.int .i64 (k + (xs.length : Int))) ∧ OwnI w' base A c (marks k xs.length) ∧ w.grownBy w' (Value.slice A xs.length c).ownBlock := by
  rcases hown.form with ⟨rfl, rfl⟩ | ⟨g, rfl, hg, hgl, hc, hm⟩
  · go_enter Try.func26, Try.ntmps26
    go_wp2
    go_loop [1, 5] (fun kk i => kk = .int .i64 k ∧ i = .int .i64 0) (fun _ _ => 0)
    case atStart => exact ⟨rfl, rfl⟩
    case round =>
      obtain ⟨rfl, rfl⟩ := hrel
      go_wp2
      go_ret
      have hz : marks k 0 = [] := rfl
      exact ⟨by simp, by rw [hz]; exact hown, World.grownBy.refl w _⟩
  · go_enter Try.func26, Try.ntmps26
    go_wp2
    go_loopw [1, 5] (fun kk i wr => ∃ j : Nat, j ≤ xs.length ∧ kk = .int .i64 (k + (j : Int)) ∧ i = .int .i64 j ∧ wr.ownsRow base 3 1 (.slice (some ⟨g, 0, none⟩) xs.length c) xs.length (ints (marking xs k j)) ∧ w.grownBy wr (some g)) (fun _ i _ => xs.length - (intOf i).toNat)
    case atStart => exact ⟨0, Nat.zero_le _, by go_num, rfl, by rw [marking_zero]; exact hown, World.grownBy.refl w _⟩
    case round =>
      obtain ⟨j, hj, rfl, rfl, hO, hG⟩ := hrel
      by_cases hlt : j < xs.length
      · have hml := marking_length xs k j hj
        obtain ⟨u, hu⟩ : ∃ u, (ints (marking xs k j))[j]? = some u := ⟨_, List.getElem?_eq_getElem (by simp; omega)⟩
        have hcell := (hO.cellAt j (by omega)).trans hu
        have hfr := hO.frozenAt j
        have hst := hO.stored j (.int .i64 (k + (j : Int)))
        have hset : Hid ((ints (marking xs k j)).set j (.int .i64 (k + (j : Int))) = ints (marking xs k (j + 1))) := by rw [← marking_set xs k j hlt]; show _ = _; simp [ints, List.map_set]
        clear hu hml
        go_wp2
        go_roundw
        case rel => exact ⟨j + 1, by omega, by go_num, by go_num, by rw [← hset.out]; exact hst.1, hG.trans hst.2⟩
        case measure => simp [intOf]; omega
      · obtain rfl : j = xs.length := by omega
        go_wp2
        go_ret
        exact ⟨rfl, by unfold OwnI; rw [marks_length, ← marking_end]; exact hO, hG⟩

set_option maxHeartbeats 400000 in
theorem heldIntS_c (A : Option Addr) (n c : Nat) (k : Int) (w : World) (hr : RdI w w.heap.size A (marks k n)) (hl : n ≤ 17592186044416) (hk0 : 0 ≤ k) (hk1 : k ≤ 17592186044416) :
    Calls Try.prog 52 #[.slice A n c, .int .i64 k] w fun e w' => e = .returned (.int .i64 (k + (n : Int))) ∧ w = w' := by
  go_enter Try.func52, Try.ntmps52
  go_wp2
  go_loop [1, 5] (fun kk i => ∃ j : Nat, j ≤ n ∧ kk = .int .i64 (k + (j : Int)) ∧ i = .int .i64 j) (fun _ i => n - (intOf i).toNat)
  case atStart => exact ⟨0, Nat.zero_le _, by go_num, rfl⟩
  case round =>
    obtain ⟨j, hj, rfl, rfl⟩ := hrel
    by_cases hlt : j < n
    · obtain ⟨b, off, x, rfl, hb, hc, hx, hd⟩ := hr.at_ (by simpa using hlt)
      obtain rfl : x = k + (j : Int) := by have := hx.out; rw [marks_at k n j hlt] at this; exact (Option.some.inj this).symm
      have hne : (k + (j : Int) != k + (j : Int)) = false := by simp
      clear hx hd
      go_wp2
      go_round
      case rel => exact ⟨j + 1, by omega, by go_num, by go_num⟩
      case measure => simp [intOf]; omega
    · obtain rfl : j = n := by omega
      go_wp2
      go_ret
      exact ⟨rfl, rfl⟩
end Go.Proofs.Ytdnknddldfihdaa
