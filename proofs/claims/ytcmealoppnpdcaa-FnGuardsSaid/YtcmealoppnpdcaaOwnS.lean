/- Rows of structs of ints that a call made itself: append, mark, held. -/
import Derived.Test.YtcmealoppnpdcaaMk
import Derived.Test.YtcmealoppnpdcaaS3
namespace Go.Proofs.Ytcmealoppnpdcaa
open Go.ChangeShapes Go.WideShapes Go.ChangeAt Go.RowKit
set_option linter.unusedVariables false

/-- The slice (A, n, c) is a row of structs of the call's own, from block 'base' on; zs: its ints, flat. -/
def OwnZ (w : World) (base : Nat) (A : Option Addr) (n c : Nat) (zs : List Int) : Prop := w.ownsRow base 44 3 (.slice A n c) n (ints zs)

section
variable {w w' : World} {base : Nat} {A : Option Addr} {n c : Nat} {zs : List Int}
theorem OwnZ.len (h : OwnZ w base A n c zs) : zs.length = n * 3 := by simpa using h.1
theorem OwnZ.form (h : OwnZ w base A n c zs) : (A = none ∧ n = 0 ∧ zs = []) ∨ ∃ g, A = some ⟨g, 0, none⟩ ∧ base ≤ g ∧ g < w.heap.size ∧ n ≤ c ∧ c ≤ maxLen := by
  have hl := h.len
  rcases h.2 with ⟨hv, h0⟩ | ⟨g, cap, cur, hv, hb, hh, hnc, hm, hs, ht⟩
  · injection hv with e1 e2 e3
    exact .inl ⟨e1, h0, List.eq_nil_of_length_eq_zero (by omega)⟩
  · injection hv with e1 e2 e3
    subst e3
    exact .inr ⟨g, e1, hb, Blk.lt (t := 44) (cs := cur) hh, hnc, hm⟩
theorem OwnZ.rd (h : OwnZ w base A n c zs) : RdI w w.heap.size A zs := by
  have hl := h.len
  rcases h.2 with ⟨_, h0⟩ | ⟨g, cap, cur, hv, hb, hh, hnc, hm, hs, ht⟩
  · left
    exact List.eq_nil_of_length_eq_zero (by omega)
  · right
    injection hv with hA
    refine ⟨g, 0, hA, Blk.lt (t := 44) (cs := cur) hh, fun k x hk => ?_⟩
    rw [Nat.zero_add, Blk.cell (t := 44) (cs := cur) hh k]
    have h2 := ints_get hk
    have hkl : k < zs.length := (List.getElem?_eq_some_iff.1 hk).1
    rw [← ht, List.getElem?_take, if_pos (by omega)] at h2
    simpa using h2
theorem OwnZ.below {C : Nat} (h : OwnZ w base A n c zs) (hb : Below C w w') (hC : w.heap.size ≤ C) : OwnZ w' base A n c zs := by
  refine ⟨h.1, ?_⟩
  rcases h.2 with hn | ⟨g, cap, cur, hv, hb', hh, rest⟩
  · exact .inl hn
  · exact .inr ⟨g, cap, cur, hv, hb', (hb.block g (Nat.lt_of_lt_of_le (Blk.lt (t := 44) (cs := cur) hh) hC)).trans hh, rest⟩
theorem OwnZ.next (h : OwnZ w base A n c zs) (hb : Below w.heap.size w w') : OwnZ w' base A n c zs := h.below hb (Nat.le_refl _)
theorem OwnZ.more {b : Nat} (h : OwnZ w base A n c zs) (hb : b ≤ base) : OwnZ w b A n c zs := by
  refine ⟨h.1, ?_⟩
  rcases h.2 with hn | ⟨g, cap, cur, hv, hb', rest⟩
  · exact .inl hn
  · exact .inr ⟨g, cap, cur, hv, Nat.le_trans hb hb', rest⟩
theorem OwnZ.alloc (h : OwnZ w base A n c zs) (o : Obj) : OwnZ (w.alloc o) base A n c zs := World.ownsRow.alloc h o
theorem OwnZ.of_blk {g : Nat} (hb : base ≤ g) (hn : zs.length = n * 3) (hm : n ≤ maxLen) (h : Blk w g 44 (ints zs).toArray) : OwnZ w base (some ⟨g, 0, none⟩) n n zs :=
  ⟨by simpa using hn, .inr ⟨g, n, (ints zs).toArray, rfl, hb, h, Nat.le_refl _, hm, by simpa using hn, List.take_of_length_le (by simp; omega)⟩⟩
theorem OwnZ.nil (w : World) (base : Nat) : OwnZ w base none 0 0 [] := World.ownsRow_nil _ _ _ _
/-- A row that another row's writing leaves alone. -/
theorem OwnZ.kept {row : Option Nat} (h : OwnZ w base A n c zs) (hg : w.grownBy w' row) (hne : ∀ g, A = some ⟨g, 0, none⟩ → row ≠ some g) : OwnZ w' base A n c zs := by
  refine World.ownsRow.kept h hg ?_
  rcases A with _ | a
  · exact .inl rfl
  · right
    intro e
    rcases h.form with ⟨e1, _⟩ | ⟨g, e1, _⟩
    · cases e1
    · injection e1 with e1
      subst e1
      exact hne g rfl (by rw [← e]; rfl)
end

theorem run_append_z (w : World) (base : Nat) (ty : TypeId) (A0 : Option Addr) (n0 c0 : Nat) (zs : List Int) (hown : OwnZ w base A0 n0 c0 zs) (B : Nat) (a : Addr) (m c : Nat) (ys : List Int) (hm : ys.length = m * 3) (hr : RdI w B (some a) ys)
    (hb : n0 + m ≤ 1099511627776) (hbase : base ≤ w.heap.size) :
    ∃ A' c' w', (Builtin.append_ #[25, 25] ty #[.slice A0 n0 c0, .slice (some a) m c]).run Try.prog w = .ok (.slice A' (n0 + m) c') w' ∧ OwnZ w' base A' (n0 + m) c' (zs ++ ys) ∧ w.grownBy w' (Value.slice A0 n0 c0).ownBlock ∧
      (A' = A0 ∨ A' = some ⟨w.heap.size, 0, none⟩) := by
  obtain ⟨i0, hi, hz0, hz1, hz2⟩ := info_parts infoS
  obtain ⟨v', w', hrun, hown', hg, _, hat⟩ := run_append_own_at (P := Try.prog) w base 25 ty 44 i0 _ 3 24 Try.underlying25 hi hz0 hz1 hz2 rfl (by decide) _ _ _ hown a m c (ints ys) (by simpa using hm) hr.cells (ints_one ys) (by unfold maxLen; omega) (by omega) hbase
  have hin : ints (zs ++ ys) = ints zs ++ ints ys := by simp [ints]
  rcases hown'.2 with ⟨hv, h0⟩ | ⟨g, cap, cur, hv, _⟩
  · refine ⟨none, 0, w', by rw [hrun, hv, h0], ?_, hg, ?_⟩
    · unfold OwnZ
      rw [hin]
      rw [hv, h0] at hown'
      rw [h0]
      exact hown'
    · left
      rw [hv] at hat
      rcases hat with e | e
      · rcases A0 with _ | a0
        · rfl
        · simp [Value.ownBlock] at e
      · simp [Value.ownBlock] at e
  · refine ⟨some ⟨g, 0, none⟩, cap, w', by rw [hrun, hv], ?_, hg, ?_⟩
    · unfold OwnZ
      rw [hin, ← hv]
      exact hown'
    · rw [hv] at hat
      rcases hat with e | e
      · left
        rcases hown.form with ⟨e0, _⟩ | ⟨g0, e0, _⟩
        · rw [e0] at e; simp [Value.ownBlock] at e
        · rw [e0] at e ⊢
          simp [Value.ownBlock] at e
          rw [e]
      · right
        simp [Value.ownBlock] at e
        rw [e]
theorem wpList_append_z {ops : Array Oper} {rest : List Oper} {o : Oper} {a : Act} {Q : Exit → Act → World → Prop} (w : World) (hgd : o.guard = none) (s x : Operand)
    (ho : o.op = .call { callee := .builtin .append, args := #[s, x], argTypes := #[25, 25] })
    (base : Nat) (A0 : Option Addr) (n c0 : Nat) (zs : List Int) (hs : a.eval s = .slice A0 n c0) (hown : OwnZ w base A0 n c0 zs) (B : Nat) (ad : Addr) (m c : Nat) (ys : List Int) (hm : ys.length = m * 3) (hx : a.eval x = .slice (some ad) m c) (hr : RdI w B (some ad) ys)
    (hb : n + m ≤ 1099511627776) (hbase : base ≤ w.heap.size)
    (h : ∀ A' c' w', OwnZ w' base A' (n + m) c' (zs ++ ys) → w.grownBy w' (Value.slice A0 n c0).ownBlock → (A' = A0 ∨ A' = some ⟨w.heap.size, 0, none⟩) → wpList Try.prog ops Q rest (a.put o.dst (.slice A' (n + m) c')) w') : wpList Try.prog ops Q (o :: rest) a w := by
  refine wpList_plain hgd fun K hK => ?_
  obtain ⟨A', c', w', hrun, h2, h3, h4⟩ := run_append_z w base o.type A0 n c0 zs hown B ad m c ys hm hr hb hbase
  unfold Oper.wp execOp
  simp only [ho, resolve, invoke, builtin, Sem.run_bind, Sem.run_pure, Result.andThen_ok, List.map_toArray, List.map_cons, List.map_nil, hs, hx, hrun]
  exact hK _ _ (h A' c' w' h2 h3 h4)

/-- What a function hands back: a row of its own that reads as xs. -/
def RetS (w : World) (xs : List (Int × Int × Int)) (e : Ending) (w' : World) : Prop := ∃ A c, e = .returned (.slice A xs.length c) ∧ OwnZ w' w.heap.size A xs.length c (flat3 xs) ∧ Below w.heap.size w w'

set_option maxHeartbeats 1000000 in
theorem markWatchS_c (base : Nat) (A : Option Addr) (n c : Nat) (zs : List Int) (k : Int) (w : World) (hown : OwnZ w base A n c zs) (hl : n ≤ 1099511627776) (hk0 : 0 ≤ k) (hk1 : k ≤ 17592186044416) :
    Calls Try.prog 19 #[.slice A n c, .int .i64 k] w fun e w' => e = .returned (.int .i64 (k + (n : Int) * 3)) ∧ OwnZ w' base A n c (marks k (n * 3)) ∧ w.grownBy w' (Value.slice A n c).ownBlock := by
  have hzl := hown.len
  rcases hown.form with ⟨rfl, rfl, rfl⟩ | ⟨g, rfl, hg, hgl, hc, hm⟩
  · go_enter Try.func19, Try.ntmps19
    go_wp2
    go_loop [1, 5] (fun kk i => kk = .int .i64 k ∧ i = .int .i64 0) (fun _ _ => 0)
    case atStart => exact ⟨rfl, rfl⟩
    case round =>
      obtain ⟨rfl, rfl⟩ := hrel
      go_wp2
      go_ret
      have hz : marks k (0 * 3) = [] := rfl
      exact ⟨by simp, by rw [hz]; exact hown, World.grownBy.refl w _⟩
  · go_enter Try.func19, Try.ntmps19
    go_wp2
    go_loopw [1, 5] (fun kk i wr => ∃ j : Nat, j ≤ n ∧ kk = .int .i64 (k + (j : Int) * 3) ∧ i = .int .i64 j ∧ wr.ownsRow base 44 3 (.slice (some ⟨g, 0, none⟩) n c) n (ints (marking zs k (j * 3))) ∧ w.grownBy wr (some g)) (fun _ i _ => n - (intOf i).toNat)
    case atStart => exact ⟨0, Nat.zero_le _, by go_num, rfl, by rw [Nat.zero_mul, marking_zero]; exact hown, World.grownBy.refl w _⟩
    case round =>
      obtain ⟨j, hj, rfl, rfl, hO, hG⟩ := hrel
      by_cases hlt : j < n
      · have hml := marking_length zs k (j * 3) (by omega)
        have hu : ∀ i, i < 3 → ∃ u, (ints (marking zs k (j * 3)))[j * 3 + i]? = some u := fun i hi => ⟨_, List.getElem?_eq_getElem (by simp; omega)⟩
        obtain ⟨u0, hu0⟩ := hu 0 (by omega)
        obtain ⟨u1, hu1⟩ := hu 1 (by omega)
        have hcell0 := (hO.cellAt (j * 3) (by omega)).trans hu0
        have hcell1 := (hO.cellAt (j * 3 + 1) (by omega)).trans hu1
        have hfr0 := hO.frozenAt (j * 3)
        have hfr1 := hO.frozenAt (j * 3 + 1)
        have hst0 := hO.stored (j * 3) (.int .i64 (k + (j : Int) * 3))
        have hst1 := hst0.1.stored (j * 3 + 1) (.int .i64 (k + (j : Int) * 3 + 1))
        have s1 := ints_marking_set zs k (k + (j : Int) * 3) (j * 3) (by omega) (by omega)
        have s2 := ints_marking_set zs k (k + (j : Int) * 3 + 1) (j * 3 + 1) (by omega) (by omega)
        obtain ⟨u2, hu2⟩ := hu 2 (by omega)
        have hcell2 := (hO.cellAt (j * 3 + 2) (by omega)).trans hu2
        have hfr2 := hO.frozenAt (j * 3 + 2)
        have hst2 := hst1.1.stored (j * 3 + 2) (.int .i64 (k + (j : Int) * 3 + 1 + 1))
        have s3 := ints_marking_set zs k (k + (j : Int) * 3 + 1 + 1) (j * 3 + 1 + 1) (by omega) (by omega)
        have hset := Lib.hid (show _ = ints (marking zs k ((j + 1) * 3)) from (by rw [s1, s2, s3, show (j + 1) * 3 = j * 3 + 1 + 1 + 1 by omega] : (((ints (marking zs k (j * 3))).set (j * 3) (.int .i64 (k + (j : Int) * 3))).set (j * 3 + 1) (.int .i64 (k + (j : Int) * 3 + 1))).set (j * 3 + 1 + 1) (.int .i64 (k + (j : Int) * 3 + 1 + 1)) = ints (marking zs k ((j + 1) * 3))))
        have hG' := Lib.hid (((hG.trans hst0.2).trans hst1.2).trans hst2.2)
        have hO' := Lib.hid hst2.1
        clear hu hu0 hu1 hu2 hml hst0 hst1 hst2 s1 s2 s3
        go_wp2
        go_roundw
        case rel => exact ⟨j + 1, by omega, by go_num, by go_num, by rw [← hset.out]; exact hO'.out, hG'.out⟩
        case measure => simp [intOf]; omega
      · obtain rfl : j = n := by omega
        go_wp2
        go_ret
        exact ⟨rfl, by rw [← hzl, ← marking_end, hzl]; exact hO, hG⟩

end Go.Proofs.Ytcmealoppnpdcaa
