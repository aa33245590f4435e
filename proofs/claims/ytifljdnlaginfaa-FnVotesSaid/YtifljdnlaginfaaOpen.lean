/- A law's argument that is a slice of structs of two or of three ints: it reads as a flat list. -/
import Derived.Test.YtifljdnlaginfaaFlat
import Derived.Deep.Slices
import Derived.Deep.Fields
import Derived.ChangeSame
namespace Go.Proofs.Ytifljdnlaginfaa
open Go.ChangeShapes Go.WideShapes Go.ChangeAt Go.RowKit Go.Deep
set_option linter.unusedVariables false

section
variable {H : Type} {enc : TypeId × Value → H} {w : World} {base : Nat} {spare : Nat → Bool} {held : Bool}
/-- Each element's fields, a cell each, read as ints. -/
theorem open_fields {t e : TypeId} {fs : Array Field} {fuel : Nat} {cs : List Value} {x : DataW H × List MemPlace} (ht : Try.prog.underlying t = some (.slice e)) (he : Try.prog.underlying e = some (.struct fs))
    (hone : oneCellFields Try.prog fs = true) (hC : Try.prog.cellsOf e = fs.size) (hint : ∀ (j : Nat) (f : Field), fs[j]? = some f → f.type = 3) (h : DataW.trod enc Try.prog w base spare held fuel t cs = some x) :
    cs = [.slice none 0 0] ∨
    ∃ (a : Addr) (len cap m : Nat), cs = [.slice (some a) len cap] ∧ len ≤ cap ∧ cap ≤ maxLen ∧ m = (if spare a.block then cap else len) ∧
      ∀ i, i < m → ∀ j, j < fs.size → ∃ v : Int, w.cell? (a.add (i * fs.size + j)) = some (.int .i64 v) := by
  rcases open_slice ht h with ⟨h0, _⟩ | ⟨a, len, cap, m, n, D, Pl, hcs, hb, hl, hm, hmm, hx, hi⟩
  · exact .inl h0
  · refine .inr ⟨a, len, cap, m, hcs, hl, hm, hmm, fun i him j hj => ?_⟩
    obtain ⟨cs', hc, ht'⟩ := hi i him
    rw [hC] at hc
    obtain ⟨ys, n', hn', hy, hlen, hyl, hf⟩ := DataW.trod_struct he ht'
    obtain ⟨_, hcl, hat⟩ := World.cells?_some hc
    obtain ⟨f, hfj⟩ : ∃ f, fs[j]? = some f := ⟨_, Array.getElem?_eq_getElem hj⟩
    obtain ⟨ho, hk⟩ := hone_of hone j f hfj
    have hcell := hat j hj
    have h1 := hf j f hfj
    rw [ho, hk] at h1
    have hone' : (cs'.drop j).take 1 = [cs'[j]'(by omega)] := by
      rw [List.drop_eq_getElem_cons (by omega)]
      rfl
    have hys : ys[j]? = some (ys[j]'(by omega)) := List.getElem?_eq_getElem (by omega)
    rw [hone', hint j f hfj, hys] at h1
    obtain ⟨v, ev, _, _⟩ := DataW.trod_int Try.underlying3 h1
    simp only [List.cons.injEq, and_true] at ev
    have hv : cs'[j]? = some (cs'[j]'(by omega)) := List.getElem?_eq_getElem (by omega)
    exact ⟨v, by rw [← Go.Deep.add_add, hcell, hv, ev]⟩
theorem open_flat2 {t e : TypeId} {f0 f1 : Field} {s : Option Addr} {len cap : Nat} {d : DataW H} {p : List MemPlace} (ht : Try.prog.underlying t = some (.slice e)) (he : Try.prog.underlying e = some (.struct #[f0, f1]))
    (hone : oneCellFields Try.prog #[f0, f1] = true) (hC : Try.prog.cellsOf e = 2) (t0 : f0.type = 3) (t1 : f1.type = 3) (h : DataW.Trod enc Try.prog w base (fun _ => true) held t (.slice s len cap) d p) :
    ∃ xs : List (Int × Int), len = xs.length ∧ len ≤ maxLen ∧ RdI w w.heap.size s (flat2 xs) := by
  have hint : ∀ (j : Nat) (f : Field), (#[f0, f1] : Array Field)[j]? = some f → f.type = 3 := by
    intro j f hj
    match j, hj with
    | 0, hj => cases hj; exact t0
    | 1, hj => cases hj; exact t1
    | j + 2, hj => simp at hj
  obtain ⟨fuel, hf⟩ := h
  rcases open_fields ht he hone hC hint hf with hcs | ⟨a, len', cap', m, hcs, hl, hm, hmm, hat⟩
  · simp [Value.cells] at hcs
    obtain ⟨rfl, rfl, rfl⟩ := hcs
    exact ⟨[], rfl, by unfold maxLen; omega, .inl rfl⟩
  · simp [Value.cells] at hcs
    obtain ⟨rfl, rfl, rfl⟩ := hcs
    simp only [if_true] at hmm
    have hf : ∀ i, ∃ q : Int × Int, i < len → w.cell? (a.add (i * 2)) = some (.int .i64 q.1) ∧ w.cell? (a.add (i * 2 + 1)) = some (.int .i64 q.2) := by
      intro i
      by_cases hi : i < len
      · obtain ⟨x, hx⟩ := hat i (by omega) 0 (by simp)
        obtain ⟨y, hy⟩ := hat i (by omega) 1 (by simp)
        exact ⟨(x, y), fun _ => ⟨hx, hy⟩⟩
      · exact ⟨(0, 0), fun h => absurd h hi⟩
    let f := fun i => Classical.choose (hf i)
    have hfs : ∀ i, i < len → w.cell? (a.add (i * 2)) = some (.int .i64 (f i).1) ∧ w.cell? (a.add (i * 2 + 1)) = some (.int .i64 (f i).2) := fun i => Classical.choose_spec (hf i)
    have hxl : ((List.range len).map f).length = len := by simp
    have hall : ∀ i, i < (flat2 ((List.range len).map f)).length → w.cell? (a.add i) = some (.int .i64 ((flat2 ((List.range len).map f)).getD i 0)) := by
      intro i hi
      rw [flat2_length, hxl] at hi
      have hk : i / 2 < len := by omega
      obtain ⟨g0, g1⟩ := flat2_get ((List.range len).map f) (i / 2) (f (i / 2)) (by simp [hk])
      obtain ⟨c0, c1⟩ := hfs (i / 2) hk
      rcases Nat.mod_two_eq_zero_or_one i with e | e
      · have ei : i / 2 * 2 = i := by omega
        rw [ei] at g0 c0
        rw [c0, List.getD, g0]
        rfl
      · have ei : i / 2 * 2 + 1 = i := by omega
        rw [ei] at g1 c1
        rw [c1, List.getD, g1]
        rfl
    have hr := RdI.of_open (len := (flat2 ((List.range len).map f)).length) hall
    rw [List.take_length] at hr
    exact ⟨(List.range len).map f, hxl.symm, by omega, hr⟩
theorem open_flat3 {t e : TypeId} {f0 f1 f2 : Field} {s : Option Addr} {len cap : Nat} {d : DataW H} {p : List MemPlace} (ht : Try.prog.underlying t = some (.slice e)) (he : Try.prog.underlying e = some (.struct #[f0, f1, f2]))
    (hone : oneCellFields Try.prog #[f0, f1, f2] = true) (hC : Try.prog.cellsOf e = 3) (t0 : f0.type = 3) (t1 : f1.type = 3) (t2 : f2.type = 3) (h : DataW.Trod enc Try.prog w base (fun _ => true) held t (.slice s len cap) d p) :
    ∃ xs : List (Int × Int × Int), len = xs.length ∧ len ≤ maxLen ∧ RdI w w.heap.size s (flat3 xs) := by
  have hint : ∀ (j : Nat) (f : Field), (#[f0, f1, f2] : Array Field)[j]? = some f → f.type = 3 := by
    intro j f hj
    match j, hj with
    | 0, hj => cases hj; exact t0
    | 1, hj => cases hj; exact t1
    | 2, hj => cases hj; exact t2
    | j + 3, hj => simp at hj
  obtain ⟨fuel, hf⟩ := h
  rcases open_fields ht he hone hC hint hf with hcs | ⟨a, len', cap', m, hcs, hl, hm, hmm, hat⟩
  · simp [Value.cells] at hcs
    obtain ⟨rfl, rfl, rfl⟩ := hcs
    exact ⟨[], rfl, by unfold maxLen; omega, .inl rfl⟩
  · simp [Value.cells] at hcs
    obtain ⟨rfl, rfl, rfl⟩ := hcs
    simp only [if_true] at hmm
    have hf : ∀ i, ∃ q : Int × Int × Int, i < len → w.cell? (a.add (i * 3)) = some (.int .i64 q.1) ∧ w.cell? (a.add (i * 3 + 1)) = some (.int .i64 q.2.1) ∧ w.cell? (a.add (i * 3 + 2)) = some (.int .i64 q.2.2) := by
      intro i
      by_cases hi : i < len
      · obtain ⟨x, hx⟩ := hat i (by omega) 0 (by simp)
        obtain ⟨y, hy⟩ := hat i (by omega) 1 (by simp)
        obtain ⟨z, hz⟩ := hat i (by omega) 2 (by simp)
        exact ⟨(x, y, z), fun _ => ⟨hx, hy, hz⟩⟩
      · exact ⟨(0, 0, 0), fun h => absurd h hi⟩
    let f := fun i => Classical.choose (hf i)
    have hfs : ∀ i, i < len → w.cell? (a.add (i * 3)) = some (.int .i64 (f i).1) ∧ w.cell? (a.add (i * 3 + 1)) = some (.int .i64 (f i).2.1) ∧ w.cell? (a.add (i * 3 + 2)) = some (.int .i64 (f i).2.2) := fun i => Classical.choose_spec (hf i)
    have hxl : ((List.range len).map f).length = len := by simp
    have hall : ∀ i, i < (flat3 ((List.range len).map f)).length → w.cell? (a.add i) = some (.int .i64 ((flat3 ((List.range len).map f)).getD i 0)) := by
      intro i hi
      rw [flat3_length, hxl] at hi
      have hk : i / 3 < len := by omega
      obtain ⟨g0, g1, g2⟩ := flat3_get ((List.range len).map f) (i / 3) (f (i / 3)) (by simp [hk])
      obtain ⟨c0, c1, c2⟩ := hfs (i / 3) hk
      have hm3 : i % 3 = 0 ∨ i % 3 = 1 ∨ i % 3 = 2 := by omega
      rcases hm3 with e | e | e
      · have ei : i / 3 * 3 = i := by omega
        rw [ei] at g0 c0
        rw [c0, List.getD, g0]
        rfl
      · have ei : i / 3 * 3 + 1 = i := by omega
        rw [ei] at g1 c1
        rw [c1, List.getD, g1]
        rfl
      · have ei : i / 3 * 3 + 2 = i := by omega
        rw [ei] at g2 c2
        rw [c2, List.getD, g2]
        rfl
    have hr := RdI.of_open (len := (flat3 ((List.range len).map f)).length) hall
    rw [List.take_length] at hr
    exact ⟨(List.range len).map f, hxl.symm, by omega, hr⟩
end
end Go.Proofs.Ytifljdnlaginfaa
