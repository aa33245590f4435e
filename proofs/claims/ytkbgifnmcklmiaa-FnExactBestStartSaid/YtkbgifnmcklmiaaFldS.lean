/- A law's copies and comparisons of slices of fields. -/
import Derived.Test.YtkbgifnmcklmiaaPeakP
namespace Go.Proofs.Ytkbgifnmcklmiaa
open Go.ChangeShapes Go.WideShapes Go.ChangeAt Go.RowKit
set_option linter.unusedVariables false

/-! ### How much a law's argument takes -/
def szF : List Vf → Int → Int
  | [], l => l
  | v :: t, l => if l < (v.2.length : Int) then -1 else szF t (l - (v.2.length : Int))
def szFS (vs : List Vf) (l : Int) : Int := if l < (vs.length : Int) then -1 else szF vs (l - (vs.length : Int))
theorem szF_no {v : Vf} {t : List Vf} {l : Int} (h : l < (v.2.length : Int)) : szF (v :: t) l = -1 := if_pos h
theorem szF_go {v : Vf} {t : List Vf} {l : Int} (h : ¬ l < (v.2.length : Int)) : szF (v :: t) l = szF t (l - (v.2.length : Int)) := if_neg h
theorem szF_b (vs : List Vf) : ∀ l, 0 ≤ l → szF vs l = -1 ∨ (0 ≤ szF vs l ∧ szF vs l ≤ l ∧ ∀ v ∈ vs, (v.2.length : Int) ≤ l) := by
  induction vs with
  | nil => intro l h; right; exact ⟨h, Int.le_refl _, fun v hv => by cases hv⟩
  | cons x t ih =>
    intro l h
    by_cases hx : l < (x.2.length : Int)
    · left; exact szF_no hx
    · rw [szF_go hx]
      rcases ih (l - (x.2.length : Int)) (by omega) with e | ⟨e0, e1, e2⟩
      · left; exact e
      · right
        refine ⟨e0, by omega, fun v hv => ?_⟩
        rcases List.mem_cons.1 hv with rfl | hv
        · omega
        · have := e2 v hv; omega
theorem szFS_b (vs : List Vf) (l : Int) (h : 0 ≤ l) : szFS vs l = -1 ∨ (0 ≤ szFS vs l ∧ szFS vs l ≤ l ∧ (vs.length : Int) ≤ l ∧ ∀ v ∈ vs, (v.2.length : Int) ≤ l) := by
  unfold szFS
  by_cases hl : l < (vs.length : Int)
  · left; exact if_pos hl
  · rw [if_neg hl]
    rcases szF_b vs (l - (vs.length : Int)) (by omega) with e | ⟨e0, e1, e2⟩
    · left; exact e
    · right
      exact ⟨e0, by omega, by omega, fun v hv => by have := e2 v hv; omega⟩
set_option maxHeartbeats 1000000 in
theorem szFieldS_c (A : Option Addr) (c : Nat) (fs : List Fd) (l : Int) (w : World) (hr : RdF w w.heap.size A fs) (hm : fs.length ≤ maxLen) (hfl : ∀ f ∈ fs, f.ws.length ≤ maxLen) (l0 : 0 ≤ l) (l1 : l ≤ 1048576) :
    Calls Try.prog 21 #[.slice A fs.length c, .int .i64 l] w fun e w' => e = .returned (.int .i64 (szFS (vals fs) l)) ∧ Below w.heap.size w w' := by
  have hfl' := Lib.hid hfl
  clear hfl
  by_cases h : l < (fs.length : Int)
  · have hv : szFS (vals fs) l = -1 := if_pos (by simpa using h)
    rw [hv]
    clear hv
    unfold maxLen at hm
    have h2 : l - (fs.length : Int) < 0 := by omega
    go_enter Try.func21, Try.ntmps21
    go_wp2
    go_ret
    exact ⟨rfl, Below.refl _ _⟩
  · have hv := Lib.hid (show szFS (vals fs) l = szF (vals fs) (l - (fs.length : Int)) by unfold szFS; rw [vals_length]; exact if_neg h)
    unfold maxLen at hm
    have h2 : ¬ l - (fs.length : Int) < 0 := by omega
    go_enter Try.func21, Try.ntmps21
    go_wp2
    go_loopw [1, 5] (fun x i wr => ∃ (k : Nat) (y : Int), k ≤ fs.length ∧ i = .int .i64 k ∧ x = .int .i64 y ∧ 0 ≤ y ∧ y ≤ 1048576 ∧ Hid (szFS (vals fs) l = szF ((vals fs).drop k) y) ∧ Below w.heap.size w wr) (fun _ i _ => fs.length - (intOf i).toNat)
    case atStart => exact ⟨0, l - (fs.length : Int), Nat.zero_le _, rfl, rfl, by omega, by omega, hv, Below.refl _ _⟩
    case round =>
      obtain ⟨k, y, hk, rfl, rfl, y0, y1, hq, H⟩ := hrel
      by_cases hlt : k < fs.length
      · obtain ⟨g, off, a, A1, c1, ws, rfl, hg, hc0, hc1, hx, hi⟩ := (hr.step H).at_ hlt
        have hwl := hfl'.out _ (List.mem_of_getElem? hx.out)
        have hd := Lib.hid (vals_drop hx.out)
        have hS := Lib.hid (fun W => szField_c a A1 ws.length c1 y W hwl y0 y1)
        clear hx hwl
        by_cases hn : y < (ws.length : Int)
        · have hfin := Lib.hid (show szFS (vals fs) l = -1 by rw [hq.out, hd.out]; exact szF_no hn)
          rw [if_pos hn] at hS
          clear hq hd
          go_wp2_with fail
          refine (hS.out _).mono ?_
          rintro e w1 ⟨rfl, b⟩
          replace H := chain H b (Nat.le_refl _)
          go_wp2
          go_ret
          exact ⟨by rw [hfin.out]; rfl, H⟩
        · have hq2 := Lib.hid (show szFS (vals fs) l = szF ((vals fs).drop (k + 1)) (y - (ws.length : Int)) by rw [hq.out, hd.out]; exact szF_go hn)
          rw [if_neg hn] at hS
          have hz : ¬ y - (ws.length : Int) < 0 := by omega
          clear hq hd
          go_wp2_with fail
          refine (hS.out _).mono ?_
          rintro e w1 ⟨rfl, b⟩
          replace H := chain H b (Nat.le_refl _)
          go_wp2
          go_roundw
          case rel => exact ⟨k + 1, y - (ws.length : Int), by omega, by go_num, rfl, by omega, by omega, hq2, H⟩
          case measure => simp [intOf]; omega
      · have hfin := Lib.hid (show szFS (vals fs) l = y by rw [hq.out, List.drop_of_length_le (by simp; omega)]; rfl)
        clear hq
        go_wp2
        go_ret
        exact ⟨by rw [hfin.out]; rfl, H⟩

/-! ### The copy -/
def zFd : Fd := ⟨0, none, 0, []⟩
theorem zcells (n : Nat) : madeCells #[.int .i64 0, .slice none 0 0] (n * 2) = (fcells (List.replicate n zFd)).toArray := by
  have hl : (fcells (List.replicate n zFd)).length = n * 2 := by rw [fcells_length, List.length_replicate]
  apply Array.ext
  · simp [madeCells, hl]
  · intro i h1 h2
    have hi : i / 2 < n := by simp [madeCells] at h1; omega
    obtain ⟨g0, g1⟩ := fcells_get (List.replicate n zFd) (i / 2) zFd (by simp [hi])
    have h3 : (fcells (List.replicate n zFd))[i]? = some ((fcells (List.replicate n zFd)).toArray[i]) := by simp
    simp only [madeCells, Array.getElem_map, Array.getElem_range]
    rcases Nat.mod_two_eq_zero_or_one i with e | e
    · have ei : i / 2 * 2 = i := by omega
      rw [ei] at g0
      rw [g0] at h3
      injection h3 with h3
      rw [← h3]
      simp [e, zFd]
    · have ei : i / 2 * 2 + 1 = i := by omega
      rw [ei] at g1
      rw [g1] at h3
      injection h3 with h3
      rw [← h3]
      simp [e, zFd]
theorem infoFd : (Try.prog.info? 27).map (fun i => (i.zero, i.size, i.bytes)) = some (some (.agg #[.int .i64 0, .slice none 0 0]), 2, 32) := by kernel_rfl
theorem run_make_rowN {P : Program} (t e : TypeId) (i : TypeInfo) (z : Value) (ht : P.underlying t = some (.slice e)) (hi : P.info? e = some i) (hz : i.zero = some z)
    (kl kc : IntKind) (n c : Nat) (hnc : n ≤ c) (hbytes : i.bytes * c ≤ 281474976710656) (h63 : c ≤ 9223372036854775807) (w : World) :
    (Instr.makeSlice t (.int kl (n : Int)) (.int kc (c : Int))).run P w = .ok (.slice (some ⟨w.heap.size, 0, none⟩) n c) (w.alloc (.cells (madeCells z.cells (c * i.size)) e)) := by
  have hb : (i.bytes : Int) * (c : Int) ≤ 281474976710656 := by
    have h : ((i.bytes * c : Nat) : Int) ≤ 281474976710656 := by omega
    rwa [Int.natCast_mul] at h
  have hr := run_make (P := P) w t e i z ht hi hz kl kc n c (by omega) (by omega) hb (by omega)
  simp only [Int.toNat_natCast] at hr
  exact hr
/-- A row in the making: gs is there, the others are zero. -/
def FillF (wr : World) (g : Nat) (gs : List Fd) (n : Nat) : Prop := Blk wr g 27 (fcells (gs ++ List.replicate (n - gs.length) zFd)).toArray
theorem FillF.put {wr : World} {g : Nat} {gs : List Fd} {n : Nat} (h : FillF wr g gs n) (f : Fd) (hl : gs.length < n) :
    FillF ((wr.setCell ⟨g, gs.length * 2, none⟩ (.int .i64 f.a)).setCell ⟨g, gs.length * 2 + 1, none⟩ (.slice f.A f.ws.length f.c)) g (gs ++ [f]) n := by
  unfold FillF at h ⊢
  have e : n - gs.length = (n - (gs ++ [f]).length) + 1 := by simp; omega
  rw [e, List.replicate_succ] at h
  have h2 := (h.set_ (gs.length * 2) (.int .i64 f.a)).set_ (gs.length * 2 + 1) (.slice f.A f.ws.length f.c)
  rw [List.setIfInBounds_toArray, List.setIfInBounds_toArray, fcells_set] at h2
  rw [List.append_assoc]
  exact h2
theorem FillF.cells {wr : World} {g : Nat} {gs : List Fd} {n : Nat} (h : FillF wr g gs n) (hl : gs.length < n) : (∃ u, wr.cell? ⟨g, gs.length * 2, none⟩ = some (.int .i64 u)) ∧ (∃ A l c, wr.cell? ⟨g, gs.length * 2 + 1, none⟩ = some (.slice A l c)) ∧ wr.frozen? ⟨g, gs.length * 2, none⟩ = false ∧ wr.frozen? ⟨g, gs.length * 2 + 1, none⟩ = false := by
  have hx : (gs ++ List.replicate (n - gs.length) zFd)[gs.length]? = some zFd := by
    rw [List.getElem?_append_right (Nat.le_refl _), Nat.sub_self, List.getElem?_replicate, if_pos (by omega)]
  obtain ⟨g0, g1⟩ := fcells_get _ _ _ hx
  refine ⟨⟨_, (Blk.cell h _).trans (by simpa using g0)⟩, ⟨_, _, _, (Blk.cell h _).trans (by simpa using g1)⟩, Blk.frozen h _, Blk.frozen h _⟩
/-- The inner rows are their own blocks behind block 'base'. -/
def OwnIn (w : World) (base : Nat) (gs : List Fd) : Prop := ∀ f ∈ gs, ∃ g, f.A = some ⟨g, 0, none⟩ ∧ base < g ∧ Blk w g 3 (ints f.ws).toArray
theorem OwnIn.rd {w : World} {base : Nat} {gs : List Fd} (h : OwnIn w base gs) : RdIn w w.heap.size gs := fun f hf => by
  obtain ⟨g, e, _, B⟩ := h f hf
  rw [e]
  exact RdI.of_ints B
theorem OwnIn.far {w : World} {base : Nat} {gs : List Fd} (h : OwnIn w base gs) {p : Addr} (hp : p.block = base) (u : Value) : OwnIn (w.setCell p u) base gs := fun f hf => by
  obtain ⟨g, e, hb, B⟩ := h f hf
  exact ⟨g, e, hb, B.far (by omega) u⟩
/-- What toFieldS hands back. -/
def RetFs (w : World) (vs : List Vf) (e : Ending) (w' : World) : Prop := ∃ gs c, vals gs = vs ∧ e = .returned (.slice (some ⟨w.heap.size, 0, none⟩) gs.length c) ∧ RdF w' w'.heap.size (some ⟨w.heap.size, 0, none⟩) gs ∧ Below w.heap.size w w'
set_option maxHeartbeats 2000000 in
theorem toFieldS_c (A : Option Addr) (c : Nat) (fs : List Fd) (w : World) (hr : RdF w w.heap.size A fs) (hl : fs.length ≤ 1048576) (hfl : ∀ f ∈ fs, f.ws.length ≤ 1048576) :
    Calls Try.prog 23 #[.slice A fs.length c] w (RetFs w (vals fs)) := by
  have hfl' := Lib.hid hfl
  clear hfl
  obtain ⟨i0, hi0, hz0, hz1, hz2⟩ := info_parts infoFd
  have hmk0 := fun (W : World) => run_make_rowN (P := Try.prog) 39 27 i0 _ Try.underlying39 hi0 hz0 .i64 .i64 fs.length fs.length (Nat.le_refl _) (by rw [hz2]; omega) (by omega) W
  rw [hz1] at hmk0
  have hmk : ∀ W : World, (Instr.makeSlice 39 (.int .i64 (fs.length : Int)) (.int .i64 (fs.length : Int))).run Try.prog W = .ok (.slice (some ⟨W.heap.size, 0, none⟩) fs.length fs.length) (W.alloc (.cells (fcells (List.replicate fs.length zFd)).toArray 27)) := by
    intro W
    rw [← zcells]
    exact hmk0 W
  clear hmk0 hi0 hz0 hz1 hz2
  go_enter Try.func23, Try.ntmps23
  go_wp2
  clear hmk
  go_loopw [4] (fun i wr => ∃ gs : List Fd, gs.length ≤ fs.length ∧ i = .int .i64 (gs.length : Nat) ∧ Below w.heap.size w wr ∧ FillF wr w.heap.size gs fs.length ∧ Hid (vals gs = (vals fs).take gs.length) ∧ Hid (OwnIn wr w.heap.size gs)) (fun i _ => fs.length - (intOf i).toNat)
  case atStart => exact ⟨[], Nat.zero_le _, rfl, (Below.refl _ _).alloc (Nat.le_refl _) _, Blk.new _ _ _, rfl, fun f hf => by cases hf⟩
  case round =>
    obtain ⟨gs, hk, rfl, hb, hB, hv, hin⟩ := hrel
    by_cases hlt : gs.length < fs.length
    · obtain ⟨g, off, a, A1, c1, ws, rfl, hg, hc0, hc1, hx, hi⟩ := (hr.step hb).at_ hlt
      have hwl := hfl'.out _ (List.mem_of_getElem? hx.out)
      go_wp2_with fail
      refine (toField_c a A1 c1 ws _ hi hwl).mono ?_
      rintro e w1 ⟨g2, rfl, hg2, Q, b1⟩
      have hgw0 := Blk.lt hB
      have hin2 := Lib.hid (show OwnIn w1 w.heap.size (gs ++ [⟨a, some ⟨g2, 0, none⟩, ws.length, ws⟩]) by
        intro f hf
        rcases List.mem_append.1 hf with hf | hf
        · obtain ⟨g3, e3, b3, B3⟩ := hin.out f hf
          exact ⟨g3, e3, b3, B3.next b1⟩
        · rw [List.mem_singleton] at hf
          subst hf
          exact ⟨g2, rfl, by omega, Q⟩)
      have hv2 := Lib.hid (show vals (gs ++ [⟨a, some ⟨g2, 0, none⟩, ws.length, ws⟩]) = (vals fs).take (gs.length + 1) by
        have h1 : vals (gs ++ [⟨a, some ⟨g2, 0, none⟩, ws.length, ws⟩]) = vals gs ++ [(a, ws)] := by simp [vals, Fd.val]
        have h2 := vals_at hx.out
        rw [h1, hv.out, List.take_add_one, h2]
        rfl)
      replace hb := chain hb b1 (Nat.le_refl _)
      replace hB : FillF w1 w.heap.size gs fs.length := Blk.next hB b1
      have hput := Lib.hid (hB.put ⟨a, some ⟨g2, 0, none⟩, ws.length, ws⟩ hlt)
      obtain ⟨⟨u, hcell0⟩, ⟨B1, m1, d1, hcell1⟩, hfr0, hfr1⟩ := hB.cells hlt
      have hgw := Blk.lt hB
      clear b1 hc0 hc1 hi hin hv hx hwl hB Q hg2 hgw0
      go_wp2
      go_roundw
      case rel =>
        refine ⟨gs ++ [⟨a, some ⟨g2, 0, none⟩, ws.length, ws⟩], by simp; omega, by simp, (hb.setCell (Nat.le_refl _) _).setCell (Nat.le_refl _) _, hput.out, ?_, ?_⟩
        · rw [show (gs ++ [(⟨a, some ⟨g2, 0, none⟩, ws.length, ws⟩ : Fd)]).length = gs.length + 1 by simp]
          exact hv2
        · exact Lib.hid ((hin2.out.far rfl _).far rfl _)
      case measure => simp [intOf]; omega
    · have hlen : gs.length = fs.length := by omega
      have hvv : vals gs = vals fs := by rw [hv.out, hlen, ← vals_length fs, List.take_length]
      have hBB : RdF wr wr.heap.size (some ⟨w.heap.size, 0, none⟩) gs := RdF.of_blk hB (by rw [hlen, Nat.sub_self]; simp) hin.out.rd
      have hBH := Lib.hid hBB
      clear hBB hB hin hv
      go_wp2
      go_ret
      exact ⟨gs, fs.length, hvv, by rw [hlen]; rfl, hBH.out, hb⟩
theorem len_of {fs gs : List Fd} {n : Nat} (hv : vals gs = vals fs) (h : ∀ f ∈ fs, f.ws.length ≤ n) : ∀ f ∈ gs, f.ws.length ≤ n := fun f hf => by
  have h1 : f.val ∈ vals fs := by rw [← hv]; exact List.mem_map_of_mem hf
  obtain ⟨f2, hf2, e⟩ := List.mem_map.1 h1
  have := h f2 hf2
  have e2 : f2.ws = f.ws := congrArg Prod.snd e
  rw [← e2]
  exact this
theorem consF_beq (a a' : Int) (ws ws' : List Int) (t u : List Vf) : (((a, ws) :: t) == ((a', ws') :: u)) = ((a == a' && ws == ws') && (t == u)) := rfl
set_option maxHeartbeats 2000000 in
theorem eqFieldS_c (A A' : Option Addr) (c c' : Nat) (fs gs : List Fd) (w : World) (hr : RdF w w.heap.size A fs) (hr' : RdF w w.heap.size A' gs) (hl : fs.length ≤ 1048576) (hfl : ∀ f ∈ fs, f.ws.length ≤ 1048576) :
    Calls Try.prog 26 #[.slice A fs.length c, .slice A' gs.length c'] w fun e w' => e = .returned (.bool (vals fs == vals gs)) ∧ Below w.heap.size w w' := by
  by_cases hlen : fs.length = gs.length
  · have hlb : ((fs.length : Int) != (gs.length : Int)) = false := by simp [hlen]
    have hlen' := Lib.hid hlen
    have hfl' := Lib.hid hfl
    clear hlen hfl
    go_enter Try.func26, Try.ntmps26
    go_wp2
    go_loopw [5] (fun i wr => ∃ k : Nat, k ≤ fs.length ∧ i = .int .i64 k ∧ Below w.heap.size w wr ∧ Hid ((vals fs == vals gs) = ((vals fs).drop k == (vals gs).drop k))) (fun i _ => fs.length - (intOf i).toNat)
    case atStart => exact ⟨0, Nat.zero_le _, rfl, Below.refl _ _, rfl⟩
    case round =>
      obtain ⟨k, hk, rfl, hb, hq⟩ := hrel
      by_cases hlt : k < fs.length
      · have hlt' : k < gs.length := by have := hlen'.out; omega
        obtain ⟨g, off, a, A1, c1, ws, rfl, hg, hc0, hc1, hx, hi⟩ := (hr.step hb).at_ hlt
        obtain ⟨g', off', a', A1', c1', ws', rfl, hg', hc0', hc1', hx', hi'⟩ := (hr'.step hb).at_ hlt'
        have hwl := hfl'.out _ (List.mem_of_getElem? hx.out)
        have hd := Lib.hid (vals_drop hx.out)
        have hd' := Lib.hid (vals_drop hx'.out)
        clear hx hx'
        cases hxx : (a == a' && ws == ws')
        · go_wp2
          have HH := Below.refl wr.heap.size wr
          go_region_held3 (fun w' => w'.cell? ⟨g, off + k * 2, none⟩ = some (.int .i64 a) ∧ w'.cell? ⟨g, off + k * 2 + 1, none⟩ = some (.slice A1 ws.length c1) ∧ w'.cell? ⟨g', off' + k * 2, none⟩ = some (.int .i64 a') ∧ w'.cell? ⟨g', off' + k * 2 + 1, none⟩ = some (.slice A1' ws'.length c1') ∧ Below wr.heap.size wr w')
            ((go_split_ands; refine ⟨?_, ?_, ?_, ?_, ?_⟩ <;> first | assumption | exact cell_next b (by assumption) | exact chain (by assumption) b (Nat.le_refl _) | exact Below.drew (by assumption)))
            (first | (go_at_call 14; refine (eqField_c a A1 c1 ws a' A1' c1' ws' _ (hi.step ?_) (hi'.step ?_) hwl).mono ?_; (go_split_ands; assumption); (go_split_ands; assumption); rintro e w2 ⟨rfl, b⟩))
          go_wp2
          rename_i hh
          have H := chain hb hh.2.2.2.2 (Nat.le_refl _)
          clear hh
          go_ret
          exact ⟨by rw [hq.out, hd.out, hd'.out]; show _ = Ending.returned (.bool (((a, ws) :: _) == ((a', ws') :: _))); rw [consF_beq, hxx]; rfl, H⟩
        · go_wp2
          have HH := Below.refl wr.heap.size wr
          go_region_held3 (fun w' => w'.cell? ⟨g, off + k * 2, none⟩ = some (.int .i64 a) ∧ w'.cell? ⟨g, off + k * 2 + 1, none⟩ = some (.slice A1 ws.length c1) ∧ w'.cell? ⟨g', off' + k * 2, none⟩ = some (.int .i64 a') ∧ w'.cell? ⟨g', off' + k * 2 + 1, none⟩ = some (.slice A1' ws'.length c1') ∧ Below wr.heap.size wr w')
            ((go_split_ands; refine ⟨?_, ?_, ?_, ?_, ?_⟩ <;> first | assumption | exact cell_next b (by assumption) | exact chain (by assumption) b (Nat.le_refl _) | exact Below.drew (by assumption)))
            (first | (go_at_call 14; refine (eqField_c a A1 c1 ws a' A1' c1' ws' _ (hi.step ?_) (hi'.step ?_) hwl).mono ?_; (go_split_ands; assumption); (go_split_ands; assumption); rintro e w2 ⟨rfl, b⟩))
          go_wp2
          rename_i hh
          have H := chain hb hh.2.2.2.2 (Nat.le_refl _)
          have hq2 := Lib.hid (show (vals fs == vals gs) = ((vals fs).drop (k + 1) == (vals gs).drop (k + 1)) by rw [hq.out, hd.out, hd'.out]; show (((a, ws) :: _) == ((a', ws') :: _)) = _; rw [consF_beq, hxx]; exact Bool.true_and _)
          clear hh hq hd hd'
          go_roundw
          case rel => exact ⟨k + 1, by omega, by go_num, H, hq2⟩
          case measure => simp [intOf]; omega
      · have hfin := Lib.hid (show (vals fs == vals gs) = true by rw [hq.out, List.drop_of_length_le (by simp; omega), List.drop_of_length_le (by simp; have := hlen'.out; omega)]; rfl)
        clear hq
        go_wp2
        go_ret
        exact ⟨by rw [hfin.out]; rfl, hb⟩
  · have hlb : ((fs.length : Int) != (gs.length : Int)) = true := by simp; omega
    have hf : (vals fs == vals gs) = false := beq_eq_false_iff_ne.2 (fun h => hlen (by have := congrArg List.length h; simpa using this))
    rw [hf]
    clear hf
    go_enter Try.func26, Try.ntmps26
    go_wp2
    go_ret
    exact ⟨rfl, Below.refl _ _⟩
end Go.Proofs.Ytkbgifnmcklmiaa
