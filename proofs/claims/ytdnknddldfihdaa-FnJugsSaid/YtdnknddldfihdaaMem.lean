/- Words for memory: a slice of ints that reads as a list; a block known whole; plain small lemmas. -/
import Derived.Test.YtdnknddldfihdaaRows
import Derived.WalkKit
import Derived.ProofKit
import Derived.OpenShut
import Derived.ShutString
import Derived.ChangeOld
import Derived.Below
import Derived.Lib.Hide
import Derived.WalkLawsBesides
import Derived.WalkSpells
import Derived.BigQuiet
import Derived.Deep.QuietTactic
import Derived.Lib.SmallJoins
import Derived.Outline
import Derived.Handy
import Derived.BigRegion
import Derived.RegionTactic
import Derived.Deep.RegionWith
import Derived.Deep.RegionHeld3
import Derived.Deep.DeepCutAuto
import Derived.Deep.Draws
import Derived.Deep.OwnRows
import Derived.Laws.Rows
import Derived.OpenShut
import Derived.Laws.OwnMore
import Derived.Laws.MakeOwn
import Derived.Maps.AppendAt
namespace Go.Proofs.Ytdnknddldfihdaa
open Go.ChangeShapes Go.WideShapes Go.ChangeAt Go.RowKit
set_option linter.unusedVariables false

/-! ### Blocks known whole -/
def Blk (w : World) (g : Nat) (t : TypeId) (cs : Array Value) : Prop := w.heap[g]? = some (.cells cs t (0, 0))
section
variable {w w' : World} {g : Nat} {t : TypeId} {cs : Array Value}
theorem Blk.lt (h : Blk w g t cs) : g < w.heap.size := by
  rcases Nat.lt_or_ge g w.heap.size with hlt | hge
  · exact hlt
  · unfold Blk at h; rw [Array.getElem?_eq_none hge] at h; cases h
theorem Blk.cell (h : Blk w g t cs) (i : Nat) : w.cell? ⟨g, i, none⟩ = cs[i]? := cell_of_row w g i cs t (0, 0) h
theorem Blk.frozen (h : Blk w g t cs) (i : Nat) : w.frozen? ⟨g, i, none⟩ = false := by
  unfold Blk at h
  simp [World.frozen?, h]
theorem Blk.new (w : World) (t : TypeId) (cs : Array Value) : Blk (w.alloc (.cells cs t)) w.heap.size t cs := heap_alloc_new w _
theorem Blk.drew (h : Blk w g t cs) : Blk w.drew g t cs := h
theorem Blk.drewN (h : Blk w g t cs) (n : Nat) : Blk (w.drewN n) g t cs := h
theorem Blk.alloc (h : Blk w g t cs) (o : Obj) : Blk (w.alloc o) g t cs := (Below.heap_alloc w o g h.lt).trans h
theorem Blk.set_ (h : Blk w g t cs) (i : Nat) (u : Value) : Blk (w.setCell ⟨g, i, none⟩ u) g t (cs.setIfInBounds i u) := by
  unfold Blk at h ⊢
  simp [World.setCell, Array.getElem?_modify, h]
theorem Blk.far (h : Blk w g t cs) {p : Addr} (hp : g ≠ p.block) (u : Value) : Blk (w.setCell p u) g t cs := (Below.heap_setCell w p u g hp).trans h
theorem Blk.below {B : Nat} (h : Blk w g t cs) (hb : Below B w w') (hg : g < B) : Blk w' g t cs := (hb.block g hg).trans h
theorem Blk.grown {row : Option Nat} (h : Blk w g t cs) (hb : w.grownBy w' row) (hg : some g ≠ row) : Blk w' g t cs := (hb.block g h.lt hg).trans h
theorem Blk.one {x : Value} (h : Blk w g t #[x]) : w.cell? ⟨g, 0, none⟩ = some x ∧ w.frozen? ⟨g, 0, none⟩ = false ∧ g < w.heap.size :=
  ⟨h.cell 0, h.frozen 0, h.lt⟩
theorem Blk.two {x y : Value} (h : Blk w g t #[x, y]) : w.cell? ⟨g, 0, none⟩ = some x ∧ w.cell? ⟨g, 1, none⟩ = some y ∧ w.frozen? ⟨g, 0, none⟩ = false ∧ w.frozen? ⟨g, 1, none⟩ = false ∧ g < w.heap.size :=
  ⟨h.cell 0, h.cell 1, h.frozen 0, h.frozen 1, h.lt⟩
theorem Blk.three {x y z : Value} (h : Blk w g t #[x, y, z]) : w.cell? ⟨g, 0, none⟩ = some x ∧ w.cell? ⟨g, 1, none⟩ = some y ∧ w.cell? ⟨g, 2, none⟩ = some z ∧ w.frozen? ⟨g, 0, none⟩ = false ∧ w.frozen? ⟨g, 1, none⟩ = false ∧ w.frozen? ⟨g, 2, none⟩ = false ∧ g < w.heap.size :=
  ⟨h.cell 0, h.cell 1, h.cell 2, h.frozen 0, h.frozen 1, h.frozen 2, h.lt⟩
end
theorem Blk.next {W w1 : World} {g : Nat} {t : TypeId} {cs : Array Value} (h : Blk W g t cs) (b : Below W.heap.size W w1) : Blk w1 g t cs := h.below b h.lt
theorem chain {B : Nat} {w W w1 : World} (h : Below B w W) (b : Below W.heap.size W w1) (hB : B ≤ w.heap.size) : Below B w w1 := h.trans (b.mono (Nat.le_trans hB h.size))
theorem Blk.four {w : World} {g : Nat} {t : TypeId} {x y z u : Value} (h : Blk w g t #[x, y, z, u]) : w.cell? ⟨g, 0, none⟩ = some x ∧ w.cell? ⟨g, 1, none⟩ = some y ∧ w.cell? ⟨g, 2, none⟩ = some z ∧ w.cell? ⟨g, 3, none⟩ = some u ∧ w.frozen? ⟨g, 0, none⟩ = false ∧ w.frozen? ⟨g, 1, none⟩ = false ∧ w.frozen? ⟨g, 2, none⟩ = false ∧ w.frozen? ⟨g, 3, none⟩ = false ∧ g < w.heap.size :=
  ⟨h.cell 0, h.cell 1, h.cell 2, h.cell 3, h.frozen 0, h.frozen 1, h.frozen 2, h.frozen 3, h.lt⟩
theorem Blk.put3 {w : World} {g : Nat} {t : TypeId} {x y z : Value} (h : Blk w g t #[x, y, z]) (x' y' z' : Value) : Blk (((w.setCell ⟨g, 0, none⟩ x').setCell ⟨g, 1, none⟩ y').setCell ⟨g, 2, none⟩ z') g t #[x', y', z'] := by
  simpa using ((h.set_ 0 x').set_ 1 y').set_ 2 z'
theorem Blk.put2 {w : World} {g : Nat} {t : TypeId} {x y : Value} (h : Blk w g t #[x, y]) (x' y' : Value) : Blk ((w.setCell ⟨g, 0, none⟩ x').setCell ⟨g, 1, none⟩ y') g t #[x', y'] := by
  simpa using (h.set_ 0 x').set_ 1 y'
theorem cell_next {W w1 : World} (b : Below W.heap.size W w1) {p : Addr} {v : Value} (h : W.cell? p = some v) : w1.cell? p = some v := (b.cell (World.block_lt_of_cell? W _ h)).trans h
theorem bcell {W w1 : World} (hb : Below W.heap.size W w1) : (∀ b o, b < W.heap.size → w1.cell? ⟨b, o, none⟩ = W.cell? ⟨b, o, none⟩) ∧ (∀ b o, b < W.heap.size → w1.frozen? ⟨b, o, none⟩ = W.frozen? ⟨b, o, none⟩) :=
  ⟨fun b o h => hb.cell (p := ⟨b, o, none⟩) h, fun b o h => hb.frozen (p := ⟨b, o, none⟩) h⟩
theorem below_drewN {B : Nat} {a w : World} (h : Below B a w) (n : Nat) : Below B a (w.drewN n) := ⟨h.os, h.tape, h.output, h.size, h.block⟩

/-! ### A slice of ints that reads as a list: it is empty, or its cells lie below block B -/
def RdI (w : World) (B : Nat) (A : Option Addr) (xs : List Int) : Prop :=
  xs = [] ∨ ∃ b off, A = some ⟨b, off, none⟩ ∧ b < B ∧ ∀ k x, xs[k]? = some x → w.cell? ⟨b, off + k, none⟩ = some (.int .i64 x)
section
variable {w w' : World} {B B' : Nat} {A : Option Addr} {xs : List Int}
theorem RdI.nil : RdI w B A [] := .inl rfl
/-- Element k: its place, its value, and what it is of the list. -/
theorem RdI.at_ {k : Nat} (h : RdI w B A xs) (hk : k < xs.length) : ∃ b off x, A = some ⟨b, off, none⟩ ∧ b < B ∧ w.cell? ⟨b, off + k, none⟩ = some (.int .i64 x) ∧ Hid (xs[k]? = some x) ∧ Hid (xs.drop k = x :: xs.drop (k + 1)) := by
  rcases h with rfl | ⟨b, off, e, hb, hc⟩
  · simp at hk
  · exact ⟨b, off, xs[k], e, hb, hc k _ (List.getElem?_eq_getElem hk), List.getElem?_eq_getElem hk, List.drop_eq_getElem_cons hk⟩
theorem RdI.keep (h : RdI w B A xs) (hk : ∀ b o, b < B → w'.cell? ⟨b, o, none⟩ = w.cell? ⟨b, o, none⟩) : RdI w' B A xs := by
  rcases h with rfl | ⟨b, off, e, hb, hc⟩
  · exact .inl rfl
  · exact .inr ⟨b, off, e, hb, fun k x hl => (hk _ _ hb).trans (hc k x hl)⟩
theorem RdI.more (h : RdI w B A xs) (hB : B ≤ B') : RdI w B' A xs := by
  rcases h with rfl | ⟨b, off, e, hb, hc⟩
  · exact .inl rfl
  · exact .inr ⟨b, off, e, by omega, hc⟩
theorem RdI.below {C : Nat} (h : RdI w B A xs) (hb : Below C w w') (hC : B ≤ C) : RdI w' B A xs := h.keep fun b _ hp => hb.cell (p := ⟨b, _, none⟩) (Nat.lt_of_lt_of_le hp hC)
theorem RdI.next (h : RdI w B A xs) (b : Below w.heap.size w w') (hB : B ≤ w.heap.size) : RdI w' B A xs := h.below b hB
theorem RdI.drew (h : RdI w B A xs) : RdI w.drew B A xs := h
theorem RdI.drewN (h : RdI w B A xs) (k : Nat) : RdI (w.drewN k) B A xs := h
theorem RdI.alloc (h : RdI w B A xs) (hB : B ≤ w.heap.size) (o : Obj) : RdI (w.alloc o) B A xs := h.keep fun _ _ hp => World.cell?_alloc_lt w o _ (Nat.lt_of_lt_of_le hp hB)
theorem RdI.setCell (h : RdI w B A xs) {p : Addr} (hB : B ≤ p.block) (u : Value) : RdI (w.setCell p u) B A xs :=
  h.keep fun b o hq => World.cell?_setCell_other w p ⟨b, o, none⟩ u (fun e => by subst e; exact absurd hq (Nat.not_lt.2 hB))
end
def ints (xs : List Int) : List Value := xs.map (Value.int .i64)
@[simp] theorem ints_length (xs : List Int) : (ints xs).length = xs.length := by simp [ints]
theorem ints_get {xs : List Int} {k : Nat} {x : Int} (h : xs[k]? = some x) : (ints xs)[k]? = some (.int .i64 x) := by
  simp [ints, h]
theorem RdI.of_own {w : World} {base e : Nat} {A : Option Addr} {n c : Nat} {xs : List Int} (h : w.ownsRow base e 1 (.slice A n c) n (ints xs)) : RdI w w.heap.size A xs := by
  rcases h.2 with ⟨_, h0⟩ | ⟨g, cap, cur, hv, hb, hh, hnc, hm, hs, ht⟩
  · left
    have := h.1
    rw [h0] at this
    exact List.eq_nil_of_length_eq_zero (by simpa using this)
  · right
    injection hv with hA
    have hl : n = xs.length := by have := h.1; simp at this; omega
    refine ⟨g, 0, hA, Blk.lt (t := e) (cs := cur) hh, fun k x hk => ?_⟩
    rw [Nat.zero_add, Blk.cell (t := e) (cs := cur) hh k]
    have h2 := ints_get hk
    have hkl : k < xs.length := (List.getElem?_eq_some_iff.1 hk).1
    rw [← ht, List.getElem?_take, if_pos (by omega)] at h2
    simpa using h2
theorem RdI.of_open {w : World} {a : Addr} {zs : List Int} {len : Nat} (h : ∀ i, i < zs.length → w.cell? (a.add i) = some (.int .i64 (zs.getD i 0))) : RdI w w.heap.size (some a) (zs.take len) := by
  by_cases h0 : zs.take len = []
  · exact .inl h0
  · have hpos : 0 < zs.length := by
      rcases Nat.eq_zero_or_pos zs.length with e | e
      · exact absurd (by simp [List.eq_nil_of_length_eq_zero e]) h0
      · exact e
    obtain ⟨b, off, spot⟩ := a
    have hspot : spot = none := by simpa [Addr.add] using World.cell?_spot (h 0 hpos)
    subst hspot
    have hb := World.block_lt_of_cell? w _ (h 0 hpos)
    refine .inr ⟨b, off, rfl, by simpa [Addr.add] using hb, fun k x hk => ?_⟩
    have hk2 : zs[k]? = some x := by
      rw [List.getElem?_take] at hk
      split at hk
      · exact hk
      · cases hk
    have hkl : k < zs.length := (List.getElem?_eq_some_iff.1 hk2).1
    have e : zs.getD k 0 = x := by simp [List.getD, hk2]
    have := h k hkl
    rw [add_plain, e] at this
    exact this
theorem RdI.of_blk {w : World} {g e : Nat} {cs : Array Value} {xs : List Int} (h : Blk w g e cs) (hc : ∀ (k : Nat) (x : Int), xs[k]? = some x → cs[k]? = some (Value.int .i64 x)) : RdI w w.heap.size (some ⟨g, 0, none⟩) xs :=
  .inr ⟨g, 0, rfl, h.lt, fun k x hk => by rw [Nat.zero_add, h.cell k]; exact hc k x hk⟩
/-- A row that is being filled: k cells are written, the others are 0. -/
def fillA (xs : List Value) (z : Value) (k : Nat) : Array Value := (xs.take k ++ List.replicate (xs.length - k) z).toArray
theorem fillA_zero (xs : List Value) (z : Value) : madeCells #[z] xs.length = fillA xs z 0 := by
  rw [← Array.toList_inj, toList_madeCells_one]; simp [fillA]
theorem fillA_at {xs : List Value} {z : Value} {k : Nat} (h : k < xs.length) : (fillA xs z k)[k]? = some z := by
  simp only [fillA, List.getElem?_toArray]
  rw [List.getElem?_append_right (by simp; omega), List.getElem?_replicate, if_pos (by simp; omega)]
theorem fillA_set {xs : List Value} {z u : Value} {k : Nat} (h : xs[k]? = some u) : (fillA xs z k).setIfInBounds k u = fillA xs z (k + 1) := by
  have hk : k < xs.length := (List.getElem?_eq_some_iff.1 h).1
  have hu : xs[k] = u := by have := (List.getElem?_eq_some_iff.1 h).2; exact this
  rw [← Array.toList_inj]
  simp only [fillA, List.setIfInBounds_toArray]
  rw [List.set_append_right _ _ (by simp; omega)]
  have e1 : k - (xs.take k).length = 0 := by simp; omega
  have e2 : xs.length - k = (xs.length - (k + 1)) + 1 := by omega
  rw [e1, e2, List.replicate_succ, List.set_cons_zero, List.take_succ_eq_append_getElem hk, hu]
  simp
theorem fillA_end (xs : List Value) (z : Value) : fillA xs z xs.length = xs.toArray := by simp [fillA]
theorem drop_end (xs : List Int) {k : Nat} (h : k ≤ xs.length) (h' : ¬ k < xs.length) : xs.drop k = [] := List.drop_of_length_le (by omega)

def inB (n lo hi : Int) : Bool := decide (lo ≤ n) && decide (n ≤ hi)
theorem inB_iff (n lo hi : Int) : inB n lo hi = true ↔ lo ≤ n ∧ n ≤ hi := by simp [inB]
theorem inB_not (n lo hi : Int) : inB n lo hi = false ↔ n < lo ∨ hi < n := by
  unfold inB; simp; omega
theorem own_ : ownKnob Try.prog.godebug = none := by kernel_rfl
theorem laidOut_ : laidOutB Try.prog = true := by kernel_rfl
end Go.Proofs.Ytdnknddldfihdaa
