/- Slices of fields: each cell pair holds an area and a slice of weeks. A law's copies and comparisons. -/
import Derived.Test.YtkbgifnmcklmiaaTo
import Derived.Deep.Slices
import Derived.Deep.Fields
import Derived.ChangeSame
namespace Go.Proofs.Ytkbgifnmcklmiaa
open Go.ChangeShapes Go.WideShapes Go.ChangeAt Go.RowKit Go.Deep
set_option linter.unusedVariables false

/-! ### A field in memory -/
structure Fd where
  a : Int
  A : Option Addr
  c : Nat
  ws : List Int
def Fd.cells (f : Fd) : List Value := [.int .i64 f.a, .slice f.A f.ws.length f.c]
def Fd.val (f : Fd) : Int × List Int := (f.a, f.ws)
def vals (fs : List Fd) : List (Int × List Int) := fs.map Fd.val
def fcells : List Fd → List Value
  | [] => []
  | f :: t => .int .i64 f.a :: .slice f.A f.ws.length f.c :: fcells t
theorem fcells_length (fs : List Fd) : (fcells fs).length = fs.length * 2 := by
  induction fs with
  | nil => rfl
  | cons x t ih => simp [fcells, ih]; omega
theorem fcells_append (fs gs : List Fd) : fcells (fs ++ gs) = fcells fs ++ fcells gs := by
  induction fs with
  | nil => rfl
  | cons x t ih => simp [fcells, ih]
theorem fcells_get (fs : List Fd) : ∀ (k : Nat) (f : Fd), fs[k]? = some f → (fcells fs)[k * 2]? = some (.int .i64 f.a) ∧ (fcells fs)[k * 2 + 1]? = some (.slice f.A f.ws.length f.c) := by
  induction fs with
  | nil => intro k x h; simp at h
  | cons y t ih =>
    intro k x h
    cases k with
    | zero => simp at h; subst h; exact ⟨rfl, rfl⟩
    | succ k =>
      have := ih k x (by simpa using h)
      have e1 : (k + 1) * 2 = k * 2 + 1 + 1 := by omega
      rw [e1]
      simpa [fcells] using this
theorem fcells_one (fs : List Fd) : ∀ u ∈ fcells fs, u.oneCell' = true := by
  induction fs with
  | nil => intro u h; simp [fcells] at h
  | cons x t ih =>
    intro u h
    simp only [fcells, List.mem_cons] at h
    rcases h with rfl | rfl | h
    · rfl
    · rfl
    · exact ih u h
theorem fcells_set (gs : List Fd) (z f : Fd) (t : List Fd) : ((fcells (gs ++ z :: t)).set (gs.length * 2) (.int .i64 f.a)).set (gs.length * 2 + 1) (.slice f.A f.ws.length f.c) = fcells (gs ++ f :: t) := by
  induction gs with
  | nil => rfl
  | cons g u ih =>
    have e1 : (g :: u).length * 2 = u.length * 2 + 1 + 1 := by simp; omega
    rw [e1]
    simp only [List.cons_append, fcells, List.set_cons_succ, ih]

/-- The inner rows lie below block B. -/
def RdIn (w : World) (B : Nat) (fs : List Fd) : Prop := ∀ f ∈ fs, RdI w B f.A f.ws
/-- A slice of fields that reads as the list. -/
def RdF (w : World) (B : Nat) (A : Option Addr) (fs : List Fd) : Prop :=
  (fs = [] ∨ ∃ b off, A = some ⟨b, off, none⟩ ∧ b < B ∧ ∀ k f, fs[k]? = some f → w.cell? ⟨b, off + k * 2, none⟩ = some (.int .i64 f.a) ∧ w.cell? ⟨b, off + k * 2 + 1, none⟩ = some (.slice f.A f.ws.length f.c)) ∧ RdIn w B fs
section
variable {w w' : World} {B B' : Nat} {A : Option Addr} {fs : List Fd}
theorem RdIn.keep (h : RdIn w B fs) (hk : ∀ b o, b < B → w'.cell? ⟨b, o, none⟩ = w.cell? ⟨b, o, none⟩) : RdIn w' B fs := fun f hf => (h f hf).keep hk
theorem RdIn.more (h : RdIn w B fs) (hB : B ≤ B') : RdIn w B' fs := fun f hf => (h f hf).more hB
theorem RdIn.step {W : World} (h : RdIn w w.heap.size fs) (H : Below w.heap.size w W) : RdIn W W.heap.size fs := fun f hf => (h f hf).step H
theorem RdF.keep (h : RdF w B A fs) (hk : ∀ b o, b < B → w'.cell? ⟨b, o, none⟩ = w.cell? ⟨b, o, none⟩) : RdF w' B A fs := by
  refine ⟨?_, h.2.keep hk⟩
  rcases h.1 with e | ⟨b, off, e, hb, hc⟩
  · exact .inl e
  · exact .inr ⟨b, off, e, hb, fun k x hl => ⟨(hk _ _ hb).trans (hc k x hl).1, (hk _ _ hb).trans (hc k x hl).2⟩⟩
theorem RdF.more (h : RdF w B A fs) (hB : B ≤ B') : RdF w B' A fs := by
  refine ⟨?_, h.2.more hB⟩
  rcases h.1 with e | ⟨b, off, e, hb, hc⟩
  · exact .inl e
  · exact .inr ⟨b, off, e, by omega, hc⟩
theorem RdF.step {W : World} (h : RdF w w.heap.size A fs) (H : Below w.heap.size w W) : RdF W W.heap.size A fs := (h.keep fun b _ hp => H.cell (p := ⟨b, _, none⟩) hp).more H.size
theorem RdF.nil : RdF w B A [] := ⟨.inl rfl, fun f hf => by cases hf⟩
/-- Element k. -/
theorem RdF.at_ {k : Nat} (h : RdF w B A fs) (hk : k < fs.length) : ∃ b off a A1 c ws, A = some ⟨b, off, none⟩ ∧ b < B ∧ w.cell? ⟨b, off + k * 2, none⟩ = some (.int .i64 a) ∧ w.cell? ⟨b, off + k * 2 + 1, none⟩ = some (.slice A1 ws.length c) ∧ Hid (fs[k]? = some ⟨a, A1, c, ws⟩) ∧ RdI w B A1 ws := by
  have hx : fs[k]? = some fs[k] := List.getElem?_eq_getElem hk
  rcases h.1 with e | ⟨b, off, e, hb, hc⟩
  · subst e; exact absurd hk (Nat.not_lt_zero _)
  · exact ⟨b, off, _, _, _, _, e, hb, (hc k _ hx).1, (hc k _ hx).2, hx, h.2 _ (List.getElem_mem hk)⟩
theorem RdF.atC {b off k : Nat} (h : RdF w B (some ⟨b, off, none⟩) fs) (hk : k < fs.length) : ∃ a A1 c ws, b < B ∧ w.cell? ⟨b, off + k * 2, none⟩ = some (.int .i64 a) ∧ w.cell? ⟨b, off + k * 2 + 1, none⟩ = some (.slice A1 ws.length c) ∧ Hid (fs[k]? = some ⟨a, A1, c, ws⟩) ∧ RdI w B A1 ws := by
  obtain ⟨b', off', x, y, z, u, e, h1, h2, h3, h4, h5⟩ := h.at_ hk
  injection e with e
  injection e with e1 e2
  subst e1 e2
  exact ⟨x, y, z, u, h1, h2, h3, h4, h5⟩
theorem RdF.of_blk {g e : Nat} {cs : Array Value} (h : Blk w g e cs) (hc : cs = (fcells fs).toArray) (hi : RdIn w w.heap.size fs) : RdF w w.heap.size (some ⟨g, 0, none⟩) fs := by
  subst hc
  refine ⟨.inr ⟨g, 0, rfl, h.lt, fun k f hk => ?_⟩, hi⟩
  obtain ⟨g0, g1⟩ := fcells_get fs k f hk
  rw [Nat.zero_add, h.cell, h.cell]
  exact ⟨by simpa using g0, by simpa using g1⟩
end
theorem vals_at {fs : List Fd} {k : Nat} {f : Fd} (h : fs[k]? = some f) : (vals fs)[k]? = some f.val := by simp [vals, h]
theorem vals_drop {fs : List Fd} {k : Nat} {f : Fd} (h : fs[k]? = some f) : (vals fs).drop k = f.val :: (vals fs).drop (k + 1) := by
  have hl := (List.getElem?_eq_some_iff.1 (vals_at h)).1
  rw [List.drop_eq_getElem_cons hl, (List.getElem?_eq_some_iff.1 (vals_at h)).2]
@[simp] theorem vals_length (fs : List Fd) : (vals fs).length = fs.length := by simp [vals]

/-! ### A law's argument -/
section
variable {H : Type} {enc : TypeId × Value → H} {w : World} {base : Nat} {spare : Nat → Bool} {held : Bool}
theorem one_of {l : List Value} {v : Value} {k : Nat} (h : (l.drop k).take 1 = [v]) : l[k]? = some v := by
  have h1 : ((l.drop k).take 1)[0]? = some v := by rw [h]; rfl
  rw [List.getElem?_take, if_pos (by omega), List.getElem?_drop] at h1
  exact h1
theorem open_flds {t e : TypeId} {f0 f1 : Field} {s : Option Addr} {len cap : Nat} {d : DataW H} {p : List MemPlace} (ht : Try.prog.underlying t = some (.slice e)) (he : Try.prog.underlying e = some (.struct #[f0, f1]))
    (hC : Try.prog.cellsOf e = 2) (t0 : f0.type = 3) (o0 : f0.offset = 0) (t1 : f1.type = 22) (o1 : f1.offset = 1) (cI : Try.prog.cellsOf 3 = 1) (cS : Try.prog.cellsOf 22 = 1)
    (h : DataW.Trod enc Try.prog w base (fun _ => true) held t (.slice s len cap) d p) :
    ∃ fs : List Fd, len = fs.length ∧ len ≤ maxLen ∧ RdF w w.heap.size s fs ∧ ∀ f ∈ fs, f.ws.length ≤ maxLen := by
  obtain ⟨fuel, hf⟩ := h
  rcases open_slice ht hf with ⟨hcs, _⟩ | ⟨a, len', cap', m, n, D, Pl, hcs, hb, hl, hm, hmm, hx, hi⟩
  · simp [Value.cells] at hcs
    obtain ⟨rfl, rfl, rfl⟩ := hcs
    exact ⟨[], rfl, by unfold maxLen; omega, RdF.nil, fun f hf => by cases hf⟩
  · simp [Value.cells] at hcs
    obtain ⟨rfl, rfl, rfl⟩ := hcs
    simp only [if_true] at hmm
    have hat : ∀ i, i < len → ∃ q : Fd, w.cell? (a.add (i * 2)) = some (.int .i64 q.a) ∧ w.cell? (a.add (i * 2 + 1)) = some (.slice q.A q.ws.length q.c) ∧ RdI w w.heap.size q.A q.ws ∧ q.ws.length ≤ maxLen := by
      intro i hil
      obtain ⟨cs', hc, ht'⟩ := hi i (by omega)
      rw [hC] at hc
      obtain ⟨ys, n', hn', hy, hlen, hyl, hff⟩ := DataW.trod_struct he ht'
      obtain ⟨_, hcl, hcat⟩ := World.cells?_some hc
      have k0 := hff 0 f0 rfl
      have k1 := hff 1 f1 rfl
      rw [o0, t0, cI] at k0
      rw [o1, t1, cS] at k1
      have hys : ∀ j, j < ys.length → ∃ y, ys[j]? = some y := fun j hj => ⟨_, List.getElem?_eq_getElem hj⟩
      have hyl2 : ys.length = 2 := hyl
      obtain ⟨y0, hy0⟩ := hys 0 (by omega)
      obtain ⟨y1, hy1⟩ := hys 1 (by omega)
      rw [hy0] at k0
      rw [hy1] at k1
      obtain ⟨x, ex, _, _⟩ := DataW.trod_int Try.underlying3 k0
      have gx := one_of ex
      have q0 := hcat 0 (by omega)
      rw [gx, Go.Deep.add_add] at q0
      have q1 := hcat 1 (by omega)
      rw [Go.Deep.add_add] at q1
      rcases open_ints Try.underlying22 Try.underlying3 (by kernel_rfl) k1 with ⟨hcs, _⟩ | ⟨x', l, c, zs, hcs, _, hl', hm', hz, _, hcell, hwz⟩
      · have gy := one_of hcs
        rw [gy] at q1
        exact ⟨⟨x, none, 0, []⟩, q0, q1, .inl rfl, Nat.zero_le _⟩
      · have gy := one_of hcs
        rw [gy] at q1
        have hlz : l ≤ zs.length := by
          split at hz <;> omega
        have e : (zs.take l).length = l := by simp; omega
        exact ⟨⟨x, some x', c, zs.take l⟩, q0, by rw [e]; exact q1, RdI.of_open hcell, by rw [e]; omega⟩
    have hf2 : ∀ i, ∃ q : Fd, i < len → w.cell? (a.add (i * 2)) = some (.int .i64 q.a) ∧ w.cell? (a.add (i * 2 + 1)) = some (.slice q.A q.ws.length q.c) ∧ RdI w w.heap.size q.A q.ws ∧ q.ws.length ≤ maxLen := by
      intro i
      by_cases hil : i < len
      · obtain ⟨q, hq⟩ := hat i hil
        exact ⟨q, fun _ => hq⟩
      · exact ⟨⟨0, none, 0, []⟩, fun h => absurd h hil⟩
    let f := fun i => Classical.choose (hf2 i)
    have hfs : ∀ i, i < len → w.cell? (a.add (i * 2)) = some (.int .i64 (f i).a) ∧ w.cell? (a.add (i * 2 + 1)) = some (.slice (f i).A (f i).ws.length (f i).c) ∧ RdI w w.heap.size (f i).A (f i).ws ∧ (f i).ws.length ≤ maxLen := fun i => Classical.choose_spec (hf2 i)
    have hxl : ((List.range len).map f).length = len := by simp
    have hin : ∀ q ∈ (List.range len).map f, RdI w w.heap.size q.A q.ws ∧ q.ws.length ≤ maxLen := by
      intro q hq
      simp only [List.mem_map, List.mem_range] at hq
      obtain ⟨i, hi, rfl⟩ := hq
      exact (hfs i hi).2.2
    refine ⟨(List.range len).map f, hxl.symm, by omega, ⟨?_, fun q hq => (hin q hq).1⟩, fun q hq => (hin q hq).2⟩
    by_cases h0 : len = 0
    · subst h0; exact .inl rfl
    · obtain ⟨b, off, spot⟩ := a
      have hspot : spot = none := by simpa [Addr.add] using World.cell?_spot (hfs 0 (by omega)).1
      subst hspot
      have hb' := World.block_lt_of_cell? w _ (hfs 0 (by omega)).1
      refine .inr ⟨b, off, rfl, by simpa [Addr.add] using hb', fun k q hk => ?_⟩
      have hkl : k < len := by have := (List.getElem?_eq_some_iff.1 hk).1; omega
      have hq : f k = q := by simpa [hkl] using hk
      obtain ⟨c0, c1, _⟩ := hfs k hkl
      rw [hq, add_plain] at c0 c1
      exact ⟨c0, by rw [Nat.add_assoc]; exact c1⟩
end
end Go.Proofs.Ytkbgifnmcklmiaa
