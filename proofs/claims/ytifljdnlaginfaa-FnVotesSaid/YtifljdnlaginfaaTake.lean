/- Parts of rows: takes, drops, the step of an append inside a drawn region. -/
import Derived.Test.YtifljdnlaginfaaOwnS
import Derived.Test.YtifljdnlaginfaaRightsS
import Derived.Deep.RegionLaw
namespace Go.Proofs.Ytifljdnlaginfaa
open Go.ChangeShapes Go.WideShapes Go.ChangeAt Go.RowKit
set_option linter.unusedVariables false

theorem RdI.takeN {w : World} {B : Nat} {A : Option Addr} {xs : List Int} (h : RdI w B A xs) (n : Nat) : RdI w B A (xs.take n) := by
  rcases h with rfl | ⟨b, off, e, hb, hc⟩
  · left; simp
  · exact .inr ⟨b, off, e, hb, fun k x hk => hc k x (by
      rw [List.getElem?_take] at hk
      split at hk
      · exact hk
      · cases hk)⟩
theorem RdI.dropN {w : World} {B b off : Nat} {xs : List Int} (h : RdI w B (some ⟨b, off, none⟩) xs) (n : Nat) : RdI w B (some ⟨b, off + n, none⟩) (xs.drop n) := by
  rcases h with rfl | ⟨b', off', e, hb, hc⟩
  · left; simp
  · injection e with e
    injection e with e1 e2
    subst e1 e2
    exact .inr ⟨_, _, rfl, hb, fun k x hk => by
      rw [Nat.add_assoc]
      exact hc (n + k) x (by rw [← hk, List.getElem?_drop])⟩
theorem flat3_take : ∀ (k : Nat) (o : Rf), flat3 (o.take k) = (flat3 o).take (k * 3) := by
  intro k
  induction k with
  | zero => intro o; simp [flat3]
  | succ k ih =>
    intro o
    cases o with
    | nil => simp [flat3]
    | cons x o =>
      have e : (k + 1) * 3 = k * 3 + 1 + 1 + 1 := by omega
      rw [List.take_succ_cons, e]
      show x.1 :: x.2.1 :: x.2.2 :: flat3 (o.take k) = (x.1 :: x.2.1 :: x.2.2 :: flat3 o).take _
      rw [ih o]
      rfl
theorem flat3_drop : ∀ (k : Nat) (o : Rf), flat3 (o.drop k) = (flat3 o).drop (k * 3) := by
  intro k
  induction k with
  | zero => intro o; simp
  | succ k ih =>
    intro o
    cases o with
    | nil => simp [flat3]
    | cons x o =>
      have e : (k + 1) * 3 = k * 3 + 1 + 1 + 1 := by omega
      rw [List.drop_succ_cons, e]
      show flat3 (o.drop k) = (x.1 :: x.2.1 :: x.2.2 :: flat3 o).drop _
      rw [ih o]
      rfl
theorem step_append_z {ops : Array Oper} {o : Oper} {a : Act} {w : World} {K : Act → World → Prop} {Q : Exit → Act → World → Prop} {E : Prop} (hg : o.guard = none) (s x : Operand)
    (ho : o.op = Op.call { callee := Callee.builtin Builtin.append, args := #[s, x], argTypes := #[37, 37] })
    (base : Nat) (A0 : Option Addr) (n c0 : Nat) (zs : List Int) (hs : a.eval s = .slice A0 n c0) (hown : OwnZ w base A0 n c0 zs) (B : Nat) (ad : Addr) (m c : Nat) (ys : List Int) (hm : ys.length = m * 3) (hx : a.eval x = .slice (some ad) m c) (hr : RdI w B (some ad) ys)
    (hb : n + m ≤ 1099511627776) (hbase : base ≤ w.heap.size)
    (hK : ∀ A' c' w', OwnZ w' base A' (n + m) c' (zs ++ ys) → w.grownBy w' (Value.slice A0 n c0).ownBlock → (A' = A0 ∨ A' = some ⟨w.heap.size, 0, none⟩) → K (a.put o.dst (.slice A' (n + m) c')) w') :
    if Region.wanted o (yielded ops a.tmps) = true then Oper.wp Try.prog o a w K Q else E := by
  have hw : Region.wanted o (yielded ops a.tmps) = true := by simp [Region.wanted, hg]
  rw [if_pos hw]
  obtain ⟨A', c', w', hrun, h2, h3, h4⟩ := run_append_z w base o.type A0 n c0 zs hown B ad m c ys hm hr hb hbase
  unfold Oper.wp execOp
  simp only [ho, resolve, invoke, builtin, Sem.run_bind, Sem.run_pure, Result.andThen_ok, List.map_toArray, List.map_cons, List.map_nil, hs, hx, hrun]
  exact hK _ _ _ h2 h3 h4
theorem OwnZ.row_ge2 {w : World} {base : Nat} {A : Option Addr} {n c : Nat} {zs : List Int} (h : OwnZ w base A n c zs) : ∀ k, (Value.slice A n c).ownBlock = some k → base ≤ k := fun k hk => (World.ownsRow.lt h k hk).1
theorem OwnZ.empty (w : World) : OwnZ (w.alloc (.cells #[] 53)) w.heap.size (some ⟨w.heap.size, 0, none⟩) 0 0 [] := OwnZ.of_blk (zs := []) (Nat.le_refl _) rfl (by unfold maxLen; simp) (Blk.new _ _ _)
end Go.Proofs.Ytifljdnlaginfaa
