/- The law's draw of fields. -/
import Derived.Test.YtkbgifnmcklmiaaDrawL2
namespace Go.Proofs.Ytkbgifnmcklmiaa
open Go.ChangeShapes Go.WideShapes Go.ChangeAt Go.RowKit
set_option linter.unusedVariables false

theorem ownI_far {w : World} {base c : Nat} {A : Option Addr} {xs : List Int} (h : OwnI w base A c xs) {p : Addr} (hp : p.block < base) (u : Value) : OwnI (w.setCell p u) base A c xs :=
  OwnV.far h (fun g e => by have := h.row_ge g (by rw [e]; rfl); omega) u
theorem LsX.far {w0 w : World} {A A' : Option Addr} {c c' : Nat} {fs : List Fd} {ss : List Int} (h : LsX w0 w A c fs A' c' ss) {p : Addr} (hp : p.block < w0.heap.size) (u : Value) : LsX w0 (w.setCell p u) A c fs A' c' ss :=
  ⟨OwnV.far h.own (fun g e => by have := h.own.row_ge g (by rw [e]; rfl); omega) u, fun f hf => ownI_far (h.ins f hf) hp u, ownI_far h.row hp u, h.sep⟩
theorem LsX.rd {w0 w : World} {A A' : Option Addr} {c c' : Nat} {fs : List Fd} {ss : List Int} (h : LsX w0 w A c fs A' c' ss) : RdF w w.heap.size A fs ∧ RdI w w.heap.size A' ss :=
  ⟨RdF.ofV h.own.rd (fun f hf => OwnI.rd (h.ins f hf)), OwnI.rd h.row⟩
theorem RdB.step {w W : World} {A : Option Addr} {xs : List Int} (hr : RdB w w.heap.size A xs) (H : Below w.heap.size w W) : RdB W W.heap.size A xs := (hr.below H (Nat.le_refl _)).more H.size
def DrawFP (w : World) (e : Ending) (w' : World) : Prop :=
  ∃ (A : Option Addr) (c : Nat) (fs : List Fd) (A' : Option Addr) (c' : Nat) (ss : List Int) (a : Int) (Af : Option Addr) (cf : Nat) (ws : List Int),
    e = .returned (.tuple #[.slice A fs.length c, .slice A' ss.length c', .agg #[.int .i64 a, .slice Af ws.length cf]]) ∧ RdF w' w'.heap.size A fs ∧ RdI w' w'.heap.size A' ss ∧ RdI w' w'.heap.size Af ws ∧ okAll fs ss ∧ okWs a ws ∧ Below w.heap.size w w'
set_option maxHeartbeats 2000000 in
theorem drawFields_c (A : Option Addr) (c : Nat) (code : List Int) (w : World) (hr : RdB w w.heap.size A code) (hl : code.length ≤ 1048576) : Calls Try.prog 31 #[.slice A code.length c] w (DrawFP w) := by
  have R0 := Blk.new w 27 #[.int .i64 0, .slice none 0 0]
  have b0 := (Below.refl w.heap.size w).alloc (Nat.le_refl _) (.cells #[.int .i64 0, .slice none 0 0] 27)
  have hr1 := hr.step b0
  go_enter Try.func31, Try.ntmps31
  go_wp2_with fail
  refine (l01New_c _ _ _ _ hr1 hl).mono ?_
  rintro e w1 ⟨rfl, hC, b⟩
  have R1 := R0.next b
  simp only [World.size_alloc] at hC
  replace b0 := chain b0 b (Nat.le_refl _)
  clear R0 hr1 b hr
  go_wp2_with fail
  refine (l27List_c (w.heap.size + 1) _ code _ hC).mono ?_
  rintro e w2 ⟨A2, c2, fs, A3, c3, ss, rfl, hX, hok, hC2, hg2⟩
  have hgl := hC.lt
  have hw1 := Lib.hid (show w.heap.size < w1.heap.size by omega)
  have hsz2 := hg2.size
  have hw2 := Lib.hid (show w.heap.size < w2.heap.size by omega)
  have R2 := R1.grown hg2 (fun e => by injection e with e; omega)
  have b2 := below_of_grown b0 hg2 b0.size (by omega)
  clear R1 b0 hC hg2
  go_wp2_with fail
  refine (l27Field_c (w.heap.size + 1) _ code _ hC2).mono ?_
  rintro e w3 ⟨a, Af, cf, ws, rfl, oF, hw, hC3, hg3⟩
  have R3 := R2.grown hg3 (fun e => by injection e with e; omega)
  have b3 := below_of_grown b2 hg3 b2.size (by omega)
  have hX3 := hX.cur hg3 hgl
  clear R2 b2 hC2 hC3 hg3 hX
  obtain ⟨r0, r1, rf0, rf1, rL⟩ := R3.two
  have hb1 := b3.size
  have hXr := Lib.hid hX3
  have oFr := Lib.hid oF
  clear hX3 oF
  go_wp2
  have hX4 := (hXr.out.far (p := ⟨w.heap.size, 0, none⟩) hw1.out (.int .i64 a)).far (p := ⟨w.heap.size, 1, none⟩) hw1.out (.slice Af ws.length cf)
  have oF4 := ownI_far (ownI_far oFr.out (p := ⟨w.heap.size, 0, none⟩) hw2.out (.int .i64 a)) (p := ⟨w.heap.size, 1, none⟩) hw2.out (.slice Af ws.length cf)
  have b4 := (b3.setCell (p := ⟨w.heap.size, 0, none⟩) (Nat.le_refl _) (.int .i64 a)).setCell (p := ⟨w.heap.size, 1, none⟩) (Nat.le_refl _) (.slice Af ws.length cf)
  refine bodyPost_ret (v := .tuple #[.slice A2 fs.length c2, .slice A3 ss.length c3, .agg #[.int .i64 a, .slice Af ws.length cf]]) (by simp [results, Try.results31, go_sem, *]) rfl ⟨A2, c2, fs, A3, c3, ss, a, Af, cf, ws, rfl, hX4.rd.1, hX4.rd.2, OwnI.rd oF4, hok, hw, b4⟩
end Go.Proofs.Ytkbgifnmcklmiaa
