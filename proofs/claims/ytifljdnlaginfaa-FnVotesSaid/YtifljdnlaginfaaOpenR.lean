/- A law's argument that is a slice of rights: an owner and a fraction. It reads as a flat list. -/
import Derived.Test.YtifljdnlaginfaaOpen
namespace Go.Proofs.Ytifljdnlaginfaa
open Go.ChangeShapes Go.WideShapes Go.ChangeAt Go.RowKit Go.Deep
set_option linter.unusedVariables false

section
variable {H : Type} {enc : TypeId × Value → H} {w : World} {base : Nat} {spare : Nat → Bool} {held : Bool}
theorem one_of {l : List Value} {v : Value} {k : Nat} (h : (l.drop k).take 1 = [v]) : l[k]? = some v := by
  have h1 : ((l.drop k).take 1)[0]? = some v := by rw [h]; rfl
  rw [List.getElem?_take, if_pos (by omega), List.getElem?_drop] at h1
  exact h1
theorem open_flatR {t e : TypeId} {f0 f1 g0 g1 : Field} {s : Option Addr} {len cap : Nat} {d : DataW H} {p : List MemPlace} (ht : Try.prog.underlying t = some (.slice e)) (he : Try.prog.underlying e = some (.struct #[f0, f1])) (hfr : Try.prog.underlying f1.type = some (.struct #[g0, g1]))
    (hC : Try.prog.cellsOf e = 3) (t0 : f0.type = 3) (o0 : f0.offset = 0) (o1 : f1.offset = 1) (c1 : Try.prog.cellsOf f1.type = 2) (cI : Try.prog.cellsOf 3 = 1) (u0 : g0.type = 3) (p0 : g0.offset = 0) (u1 : g1.type = 3) (p1 : g1.offset = 1)
    (h : DataW.Trod enc Try.prog w base (fun _ => true) held t (.slice s len cap) d p) :
    ∃ xs : List (Int × Int × Int), len = xs.length ∧ len ≤ maxLen ∧ RdI w w.heap.size s (flat3 xs) := by
  obtain ⟨fuel, hf⟩ := h
  rcases open_slice ht hf with ⟨hcs, _⟩ | ⟨a, len', cap', m, n, D, Pl, hcs, hb, hl, hm, hmm, hx, hi⟩
  · simp [Value.cells] at hcs
    obtain ⟨rfl, rfl, rfl⟩ := hcs
    exact ⟨[], rfl, by unfold maxLen; omega, .inl rfl⟩
  · simp [Value.cells] at hcs
    obtain ⟨rfl, rfl, rfl⟩ := hcs
    simp only [if_true] at hmm
    have hat : ∀ i, i < len → ∃ q : Int × Int × Int, w.cell? (a.add (i * 3)) = some (.int .i64 q.1) ∧ w.cell? (a.add (i * 3 + 1)) = some (.int .i64 q.2.1) ∧ w.cell? (a.add (i * 3 + 2)) = some (.int .i64 q.2.2) := by
      intro i hil
      obtain ⟨cs', hc, ht'⟩ := hi i (by omega)
      rw [hC] at hc
      obtain ⟨ys, n', hn', hy, hlen, hyl, hff⟩ := DataW.trod_struct he ht'
      obtain ⟨_, hcl, hcat⟩ := World.cells?_some hc
      have k0 := hff 0 f0 rfl
      have k1 := hff 1 f1 rfl
      rw [o0, t0, cI] at k0
      rw [o1, c1] at k1
      have hys : ∀ j, j < ys.length → ∃ y, ys[j]? = some y := fun j hj => ⟨_, List.getElem?_eq_getElem hj⟩
      have hyl2 : ys.length = 2 := hyl
      obtain ⟨y0, hy0⟩ := hys 0 (by omega)
      obtain ⟨y1, hy1⟩ := hys 1 (by omega)
      rw [hy0] at k0
      rw [hy1] at k1
      obtain ⟨x, ex, _, _⟩ := DataW.trod_int Try.underlying3 k0
      obtain ⟨zs, n2, hn2, hz, hzlen, hzl, hgg⟩ := DataW.trod_struct hfr k1
      have m0 := hgg 0 g0 rfl
      have m1 := hgg 1 g1 rfl
      rw [p0, u0, cI] at m0
      rw [p1, u1, cI] at m1
      have hzl2 : zs.length = 2 := hzl
      obtain ⟨z0, hz0⟩ : ∃ y, zs[0]? = some y := ⟨_, List.getElem?_eq_getElem (by omega)⟩
      obtain ⟨z1, hz1⟩ : ∃ y, zs[1]? = some y := ⟨_, List.getElem?_eq_getElem (by omega)⟩
      rw [hz0] at m0
      rw [hz1] at m1
      obtain ⟨y, ey, _, _⟩ := DataW.trod_int Try.underlying3 m0
      obtain ⟨z, ez, _, _⟩ := DataW.trod_int Try.underlying3 m1
      have gx := one_of ex
      have gy := one_of ey
      have gz := one_of ez
      rw [List.getElem?_take, if_pos (by omega), List.getElem?_drop] at gy gz
      refine ⟨(x, y, z), ?_, ?_, ?_⟩
      · have := hcat 0 (by omega)
        rw [gx, Go.Deep.add_add] at this
        exact this
      · have := hcat 1 (by omega)
        rw [gy, Go.Deep.add_add] at this
        exact this
      · have := hcat 2 (by omega)
        rw [gz, Go.Deep.add_add] at this
        exact this
    have hf2 : ∀ i, ∃ q : Int × Int × Int, i < len → w.cell? (a.add (i * 3)) = some (.int .i64 q.1) ∧ w.cell? (a.add (i * 3 + 1)) = some (.int .i64 q.2.1) ∧ w.cell? (a.add (i * 3 + 2)) = some (.int .i64 q.2.2) := by
      intro i
      by_cases hil : i < len
      · obtain ⟨q, hq⟩ := hat i hil
        exact ⟨q, fun _ => hq⟩
      · exact ⟨(0, 0, 0), fun h => absurd h hil⟩
    let f := fun i => Classical.choose (hf2 i)
    have hfs : ∀ i, i < len → w.cell? (a.add (i * 3)) = some (.int .i64 (f i).1) ∧ w.cell? (a.add (i * 3 + 1)) = some (.int .i64 (f i).2.1) ∧ w.cell? (a.add (i * 3 + 2)) = some (.int .i64 (f i).2.2) := fun i => Classical.choose_spec (hf2 i)
    have hxl : ((List.range len).map f).length = len := by simp
    have hall : ∀ i, i < (flat3 ((List.range len).map f)).length → w.cell? (a.add i) = some (.int .i64 ((flat3 ((List.range len).map f)).getD i 0)) := by
      intro i hi
      rw [flat3_length, hxl] at hi
      have hk : i / 3 < len := by omega
      obtain ⟨g0, g1, g2⟩ := flat3_get ((List.range len).map f) (i / 3) (f (i / 3)) (by simp [hk])
      obtain ⟨c0, c1, c2⟩ := hfs (i / 3) hk
      have hm3 : i % 3 = 0 ∨ i % 3 = 1 ∨ i % 3 = 2 := by omega
      rcases hm3 with e | e | e
      · have ei : i / 3 * 3 = i := by omega
        rw [ei] at g0 c0
        rw [c0, List.getD, g0]
        rfl
      · have ei : i / 3 * 3 + 1 = i := by omega
        rw [ei] at g1 c1
        rw [c1, List.getD, g1]
        rfl
      · have ei : i / 3 * 3 + 2 = i := by omega
        rw [ei] at g2 c2
        rw [c2, List.getD, g2]
        rfl
    have hr := RdI.of_open (len := (flat3 ((List.range len).map f)).length) hall
    rw [List.take_length] at hr
    exact ⟨(List.range len).map f, hxl.symm, by omega, hr⟩
end
end Go.Proofs.Ytifljdnlaginfaa
