/- A law's copies and comparisons of slices of structs of three ints. -/
import Derived.Test.YtifljdnlaginfaaFlat
import Derived.Laws.MakeOwn
namespace Go.Proofs.Ytifljdnlaginfaa
open Go.ChangeShapes Go.WideShapes Go.ChangeAt Go.RowKit
set_option linter.unusedVariables false

theorem run_make_rowN {P : Program} (t e : TypeId) (i : TypeInfo) (z : Value) (ht : P.underlying t = some (.slice e)) (hi : P.info? e = some i) (hz : i.zero = some z)
    (kl kc : IntKind) (n c : Nat) (hnc : n ≤ c) (hbytes : i.bytes * c ≤ 281474976710656) (h63 : c ≤ 9223372036854775807) (w : World) :
    (Instr.makeSlice t (.int kl (n : Int)) (.int kc (c : Int))).run P w = .ok (.slice (some ⟨w.heap.size, 0, none⟩) n c) (w.alloc (.cells (madeCells z.cells (c * i.size)) e)) := by
  have hb : (i.bytes : Int) * (c : Int) ≤ 281474976710656 := by
    have h : ((i.bytes * c : Nat) : Int) ≤ 281474976710656 := by omega
    rwa [Int.natCast_mul] at h
  have hr := run_make (P := P) w t e i z ht hi hz kl kc n c (by omega) (by omega) hb (by omega)
  simp only [Int.toNat_natCast] at hr
  exact hr
theorem szRightS_c (A : Option Addr) (n c : Nat) (l : Int) (w : World) (hn : n ≤ maxLen) (l0 : 0 ≤ l) (l1 : l ≤ 1048576) : Calls Try.prog 19 #[.slice A n c, .int .i64 l] w fun e w' => e = .returned (.int .i64 (if l < (n : Int) then -1 else l - (n : Int))) ∧ w = w' := by
  unfold maxLen at hn
  by_cases h : l < (n : Int)
  · rw [if_pos h]
    go_enter Try.func19, Try.ntmps19
    go_wp2
    go_ret
    exact ⟨rfl, rfl⟩
  · rw [if_neg h]
    go_enter Try.func19, Try.ntmps19
    go_wp2
    go_ret
    exact ⟨rfl, rfl⟩
theorem toFraction_c (y z : Int) (w : World) : Calls Try.prog 48 #[.agg #[.int .i64 y, .int .i64 z]] w fun e w' => e = .returned (.agg #[.int .i64 y, .int .i64 z]) ∧ Below w.heap.size w w' := by
  go_enter Try.func48, Try.ntmps48
  go_wp2
  refine bodyPost_ret (v := .agg #[.int .i64 y, .int .i64 z]) (by simp [results, Try.results48, go_sem]) rfl ⟨rfl, ?_⟩
  exact (by go_grown)
theorem toRight_c (x y z : Int) (w : World) : Calls Try.prog 38 #[.agg #[.int .i64 x, .int .i64 y, .int .i64 z]] w fun e w' => e = .returned (.agg #[.int .i64 x, .int .i64 y, .int .i64 z]) ∧ Below w.heap.size w w' := by
  have P := ((Blk.new w 58 #[.int .i64 x, .int .i64 y, .int .i64 z]).alloc (.cells #[.int .i64 0, .int .i64 0, .int .i64 0] 53)).alloc (.cells #[.int .i64 x, .int .i64 0, .int .i64 0] 53)
  have R := (Blk.new (w.alloc (.cells #[.int .i64 x, .int .i64 y, .int .i64 z] 58)) 53 #[.int .i64 0, .int .i64 0, .int .i64 0]).alloc (.cells #[.int .i64 x, .int .i64 0, .int .i64 0] 53)
  simp only [World.size_alloc] at R
  have O := Blk.new ((w.alloc (.cells #[.int .i64 x, .int .i64 y, .int .i64 z] 58)).alloc (.cells #[.int .i64 0, .int .i64 0, .int .i64 0] 53)) 53 #[.int .i64 x, .int .i64 0, .int .i64 0]
  simp only [World.size_alloc] at O
  have H : Below w.heap.size w (((w.alloc (.cells #[.int .i64 x, .int .i64 y, .int .i64 z] 58)).alloc (.cells #[.int .i64 0, .int .i64 0, .int .i64 0] 53)).alloc (.cells #[.int .i64 x, .int .i64 0, .int .i64 0] 53)) := ((((Below.refl w.heap.size w).alloc (by first | exact Nat.le_refl _ | (simp only [World.size_alloc]; omega)) (.cells #[.int .i64 x, .int .i64 y, .int .i64 z] 58)).alloc (by first | exact Nat.le_refl _ | (simp only [World.size_alloc]; omega)) (.cells #[.int .i64 0, .int .i64 0, .int .i64 0] 53)).alloc (by first | exact Nat.le_refl _ | (simp only [World.size_alloc]; omega)) (.cells #[.int .i64 x, .int .i64 0, .int .i64 0] 53))
  go_enter Try.func38, Try.ntmps38
  go_wp2_with fail
  refine (toFraction_c y z _).mono ?_
  rintro e w1 ⟨rfl, b⟩
  replace P := P.next b
  replace R := R.next b
  replace O := O.next b
  replace H := chain H b (Nat.le_refl _)
  clear b
  try clear p0 p1 p2 pL
  obtain ⟨p0, p1, p2, -, -, -, pL⟩ := P.three
  try clear r0 r1 r2 rf0 rf1 rf2 rL
  obtain ⟨r0, r1, r2, rf0, rf1, rf2, rL⟩ := R.three
  try clear o0 o1 o2 of0 of1 of2 oL
  obtain ⟨o0, o1, o2, of0, of1, of2, oL⟩ := O.three
  go_wp2
  refine bodyPost_ret (v := .agg #[.int .i64 x, .int .i64 y, .int .i64 z]) (by simp [results, Try.results38, go_sem, *]) rfl ⟨rfl, ?_⟩
  exact (by go_grown)
theorem eqFraction_c (y z y' z' : Int) (w : World) : Calls Try.prog 23 #[.agg #[.int .i64 y, .int .i64 z], .agg #[.int .i64 y', .int .i64 z']] w fun e w' => e = .returned (.bool (y == y' && z == z')) ∧ Below w.heap.size w w' := by
  cases h2 : y == y'
  · have g2 : (y != y') = true := by simp [bne, h2]
    go_enter Try.func23, Try.ntmps23
    go_wp2
    go_ret
    exact ⟨by simp, (by go_grown)⟩
  · have g2 : (y != y') = false := by simp [bne, h2]
    cases h3 : z == z'
    · have g3 : (z != z') = true := by simp [bne, h3]
      go_enter Try.func23, Try.ntmps23
      go_wp2
      go_ret
      exact ⟨by simp, (by go_grown)⟩
    · have g3 : (z != z') = false := by simp [bne, h3]
      go_enter Try.func23, Try.ntmps23
      go_wp2
      go_ret
      exact ⟨by simp, (by go_grown)⟩
theorem eqRight_c (x y z x' y' z' : Int) (w : World) : Calls Try.prog 41 #[.agg #[.int .i64 x, .int .i64 y, .int .i64 z], .agg #[.int .i64 x', .int .i64 y', .int .i64 z']] w fun e w' => e = .returned (.bool (x == x' && (y == y' && z == z'))) ∧ Below w.heap.size w w' := by
  have H := ((Below.refl w.heap.size w).alloc (Nat.le_refl _) (.cells #[.int .i64 x, .int .i64 y, .int .i64 z] 53)).alloc (by simp) (.cells #[.int .i64 x', .int .i64 y', .int .i64 z'] 53)
  cases h1 : x == x'
  · have g1 : (x != x') = true := by simp [bne, h1]
    go_enter Try.func41, Try.ntmps41
    go_wp2
    go_ret
    exact ⟨by simp, H⟩
  · have g1 : (x != x') = false := by simp [bne, h1]
    have hF := Lib.hid (fun W => eqFraction_c y z y' z' W)
    cases h2 : (y == y' && z == z')
    all_goals
      rw [h2] at hF
      go_enter Try.func41, Try.ntmps41
      go_wp2_with fail
      refine (hF.out _).mono ?_
      rintro e w1 ⟨rfl, b⟩
      replace H := chain H b (Nat.le_refl _)
      go_wp2
      go_ret
      exact ⟨rfl, H⟩
theorem infoS : (Try.prog.info? 53).map (fun i => (i.zero, i.size, i.bytes)) = some (some (.agg #[.int .i64 0, .int .i64 0, .int .i64 0]), 3, 24) := by kernel_rfl
theorem flat3_fill (xs : List (Int × Int × Int)) : madeCells #[.int .i64 0, .int .i64 0, .int .i64 0] (xs.length * 3) = fillA (ints (flat3 xs)) (.int .i64 0) 0 := by
  have e : fillA (ints (flat3 xs)) (.int .i64 0) 0 = Array.replicate (xs.length * 3) (.int .i64 0) := by rw [← Array.toList_inj]; simp [fillA, flat3_length]
  rw [e]
  apply Array.ext
  · simp [madeCells]
  · intro i h1 h2
    simp only [madeCells, Array.getElem_map, Array.getElem_range, Array.getElem_replicate]
    have h3 : i % 3 = 0 ∨ i % 3 = 1 ∨ i % 3 = 2 := by omega
    rcases h3 with e | e | e <;> simp [e]

theorem fillA_at' {xs : List Value} {z : Value} {k j : Nat} (h : j < xs.length ∧ k ≤ j) : (fillA xs z k)[j]? = some z := by
  simp only [fillA, List.getElem?_toArray]
  rw [List.getElem?_append_right (by simp; omega), List.getElem?_replicate, if_pos (by simp; omega)]
set_option maxHeartbeats 400000 in
theorem toRightS_c (A : Option Addr) (c : Nat) (xs : List (Int × Int × Int)) (w : World) (hr : RdI w w.heap.size A (flat3 xs)) (hl : xs.length ≤ 1048576) :
    Calls Try.prog 21 #[.slice A xs.length c] w fun e w' => e = .returned (.slice (some ⟨w.heap.size, 0, none⟩) xs.length xs.length) ∧ Below w.heap.size w w' ∧ Blk w' w.heap.size 53 (ints (flat3 xs)).toArray := by
  obtain ⟨i0, hi0, hz0, hz1, hz2⟩ := info_parts infoS
  have hmk0 := fun (W : World) => run_make_rowN (P := Try.prog) 37 53 i0 _ Try.underlying37 hi0 hz0 .i64 .i64 xs.length xs.length (Nat.le_refl _) (by rw [hz2]; omega) (by omega) W
  rw [hz1] at hmk0
  have hmk : ∀ W : World, (Instr.makeSlice 37 (.int .i64 (xs.length : Int)) (.int .i64 (xs.length : Int))).run Try.prog W = .ok (.slice (some ⟨W.heap.size, 0, none⟩) xs.length xs.length) (W.alloc (.cells (fillA (ints (flat3 xs)) (.int .i64 0) 0) 53)) := by
    intro W
    rw [← flat3_fill]
    exact hmk0 W
  clear hmk0 hi0 hz0 hz1 hz2
  go_enter Try.func21, Try.ntmps21
  go_wp2
  clear hmk
  go_loopw [4] (fun i wr => ∃ k : Nat, k ≤ xs.length ∧ i = .int .i64 k ∧ Below w.heap.size w wr ∧ Blk wr w.heap.size 53 (fillA (ints (flat3 xs)) (.int .i64 0) (k * 3))) (fun i _ => xs.length - (intOf i).toNat)
  case atStart => exact ⟨0, Nat.zero_le _, rfl, (Below.refl _ _).alloc (Nat.le_refl _) _, by rw [Nat.zero_mul]; exact Blk.new _ _ _⟩
  case round =>
    obtain ⟨k, hk, rfl, hb, hB⟩ := hrel
    by_cases hlt : k < xs.length
    · obtain ⟨b, off, x, y, z, rfl, hbb, hc0, hc1, hc2, hx⟩ := (hr.below hb (Nat.le_refl _)).at3 hlt
      have hy2 := flat3_get xs k _ hx.out
      have hcell0 := (hB.cell (k * 3)).trans (fillA_at (by simp [flat3_length]; omega))
      have hcell1 := (hB.cell (k * 3 + 1)).trans (fillA_at' (by simp [flat3_length]; omega))
      have hfr0 := hB.frozen (k * 3)
      have hfr1 := hB.frozen (k * 3 + 1)
      have hcell2 := (hB.cell (k * 3 + 2)).trans (fillA_at' (by simp [flat3_length]; omega))
      have hfr2 := hB.frozen (k * 3 + 2)
      go_wp2_with fail
      refine (toRight_c _ _ _ _).mono ?_
      rintro e w1 ⟨rfl, b1⟩
      replace hb := chain hb b1 (Nat.le_refl _)
      replace hB := hB.next b1
      clear b1 hcell0 hcell1 hcell2 hfr0 hfr1 hfr2 hc0 hc1 hc2
      have hcell0 := (hB.cell (k * 3)).trans (fillA_at (by simp [flat3_length]; omega))
      have hcell1 := (hB.cell (k * 3 + 1)).trans (fillA_at' (by simp [flat3_length]; omega))
      have hfr0 := hB.frozen (k * 3)
      have hfr1 := hB.frozen (k * 3 + 1)
      have hcell2 := (hB.cell (k * 3 + 2)).trans (fillA_at' (by simp [flat3_length]; omega))
      have hfr2 := hB.frozen (k * 3 + 2)
      go_wp2
      go_roundw
      case rel =>
        refine ⟨k + 1, by omega, by go_num, ((hb.setCell (Nat.le_refl _) _).setCell (Nat.le_refl _) _).setCell (Nat.le_refl _) _, ?_⟩
        have e : (k + 1) * 3 = k * 3 + 1 + 1 + 1 := by omega
        rw [e, ← fillA_set (ints_get hy2.2.2), ← fillA_set (ints_get hy2.2.1), ← fillA_set (ints_get hy2.1)]
        exact ((hB.set_ (k * 3) _).set_ (k * 3 + 1) _).set_ (k * 3 + 2) _
      case measure => simp [intOf]; omega
    · obtain rfl : k = xs.length := by omega
      go_wp2
      go_ret
      exact ⟨rfl, hb, by have := fillA_end (ints (flat3 xs)) (.int .i64 0); rw [ints_length, flat3_length] at this; rw [← this]; exact hB⟩
theorem cons3_beq (x y z x' y' z' : Int) (t u : List (Int × Int × Int)) : (((x, y, z) :: t) == ((x', y', z') :: u)) = ((x == x' && (y == y' && z == z')) && (t == u)) := rfl

set_option maxHeartbeats 400000 in
theorem eqRightS_c (A A' : Option Addr) (c c' : Nat) (xs ys : List (Int × Int × Int)) (w : World) (hr : RdI w w.heap.size A (flat3 xs)) (hr' : RdI w w.heap.size A' (flat3 ys)) (hl : xs.length ≤ 1048576) :
    Calls Try.prog 24 #[.slice A xs.length c, .slice A' ys.length c'] w fun e w' => e = .returned (.bool (xs == ys)) ∧ Below w.heap.size w w' := by
  by_cases hlen : xs.length = ys.length
  · have hlb : ((xs.length : Int) != (ys.length : Int)) = false := by simp [hlen]
    have hlen' := Lib.hid hlen
    clear hlen
    go_enter Try.func24, Try.ntmps24
    go_wp2
    go_loopw [5] (fun i wr => ∃ k : Nat, k ≤ xs.length ∧ i = .int .i64 k ∧ Below w.heap.size w wr ∧ Hid ((xs == ys) = (xs.drop k == ys.drop k))) (fun i _ => xs.length - (intOf i).toNat)
    case atStart => exact ⟨0, Nat.zero_le _, rfl, Below.refl _ _, rfl⟩
    case round =>
      obtain ⟨k, hk, rfl, hb, hq⟩ := hrel
      by_cases hlt : k < xs.length
      · have hlt' : k < ys.length := by have := hlen'.out; omega
        obtain ⟨g, off, x, y, z, rfl, hbb, hc0, hc1, hc2, hx⟩ := (hr.below hb (Nat.le_refl _)).at3 hlt
        obtain ⟨g', off', x', y', z', rfl, hbb', hc0', hc1', hc2', hx'⟩ := (hr'.below hb (Nat.le_refl _)).at3 hlt'
        have hd := Lib.hid (show xs.drop k = (x, y, z) :: xs.drop (k + 1) by rw [List.drop_eq_getElem_cons hlt, (List.getElem?_eq_some_iff.1 hx.out).2])
        have hd' := Lib.hid (show ys.drop k = (x', y', z') :: ys.drop (k + 1) by rw [List.drop_eq_getElem_cons hlt', (List.getElem?_eq_some_iff.1 hx'.out).2])
        clear hx hx'
        cases hxx : (x == x' && (y == y' && z == z'))
        · go_wp2
          go_region_held3 (fun w' => w'.cell? ⟨g, off + k * 3, none⟩ = some (.int .i64 x) ∧ w'.cell? ⟨g, off + k * 3 + 1, none⟩ = some (.int .i64 y) ∧ w'.cell? ⟨g, off + k * 3 + 2, none⟩ = some (.int .i64 z) ∧ w'.cell? ⟨g', off' + k * 3, none⟩ = some (.int .i64 x') ∧ w'.cell? ⟨g', off' + k * 3 + 1, none⟩ = some (.int .i64 y') ∧ w'.cell? ⟨g', off' + k * 3 + 2, none⟩ = some (.int .i64 z') ∧ Below w.heap.size w w')
            ((go_split_ands; refine ⟨?_, ?_, ?_, ?_, ?_, ?_, ?_⟩ <;> first | assumption | exact cell_next b (by assumption) | exact chain (by assumption) b (Nat.le_refl _) | exact Below.drew (by assumption)))
            (first | (go_at_call 41; refine (eqRight_c _ _ _ _ _ _ _).mono ?_; rintro e w2 ⟨rfl, b⟩))
          go_wp2
          rename_i hh
          have H := hh.2.2.2.2.2.2
          clear hh
          go_ret
          exact ⟨by rw [hq.out, hd.out, hd'.out, cons3_beq, hxx]; rfl, H⟩
        · go_wp2
          go_region_held3 (fun w' => w'.cell? ⟨g, off + k * 3, none⟩ = some (.int .i64 x) ∧ w'.cell? ⟨g, off + k * 3 + 1, none⟩ = some (.int .i64 y) ∧ w'.cell? ⟨g, off + k * 3 + 2, none⟩ = some (.int .i64 z) ∧ w'.cell? ⟨g', off' + k * 3, none⟩ = some (.int .i64 x') ∧ w'.cell? ⟨g', off' + k * 3 + 1, none⟩ = some (.int .i64 y') ∧ w'.cell? ⟨g', off' + k * 3 + 2, none⟩ = some (.int .i64 z') ∧ Below w.heap.size w w')
            ((go_split_ands; refine ⟨?_, ?_, ?_, ?_, ?_, ?_, ?_⟩ <;> first | assumption | exact cell_next b (by assumption) | exact chain (by assumption) b (Nat.le_refl _) | exact Below.drew (by assumption)))
            (first | (go_at_call 41; refine (eqRight_c _ _ _ _ _ _ _).mono ?_; rintro e w2 ⟨rfl, b⟩))
          go_wp2
          rename_i hh
          have H := hh.2.2.2.2.2.2
          clear hh
          go_roundw
          case rel => exact ⟨k + 1, by omega, by go_num, H, by rw [hq.out, hd.out, hd'.out, cons3_beq, hxx]; exact Bool.true_and _⟩
          case measure => simp [intOf]; omega
      · go_wp2
        go_ret
        exact ⟨by rw [hq.out, List.drop_of_length_le (by omega), List.drop_of_length_le (by have := hlen'.out; omega)]; rfl, hb⟩
  · have hlb : ((xs.length : Int) != (ys.length : Int)) = true := by simp; omega
    have hf : (xs == ys) = false := beq_eq_false_iff_ne.2 (fun h => hlen (by rw [h]))
    rw [hf]
    clear hf
    go_enter Try.func24, Try.ntmps24
    go_wp2
    go_ret
    exact ⟨rfl, Below.refl _ _⟩
end Go.Proofs.Ytifljdnlaginfaa
