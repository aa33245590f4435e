/- Draws: the cursor over a slice of bytes. -/
import Derived.Test.YtdnknddldfihdaaMem2
namespace Go.Proofs.Ytdnknddldfihdaa
open Go.ChangeShapes Go.WideShapes Go.ChangeAt Go.RowKit
set_option linter.unusedVariables false

/-- A slice of bytes that reads as the list xs below block B. -/
def RdB (w : World) (B : Nat) (A : Option Addr) (xs : List Int) : Prop :=
  xs = [] ∨ ∃ b off, A = some ⟨b, off, none⟩ ∧ b < B ∧ ∀ k x, xs[k]? = some x → w.cell? ⟨b, off + k, none⟩ = some (.int .u8 x) ∧ 0 ≤ x ∧ x ≤ 255
section
variable {w w' : World} {B B' : Nat} {A : Option Addr} {xs : List Int}
theorem RdB.at_ {k : Nat} (h : RdB w B A xs) (hk : k < xs.length) : ∃ b off x, A = some ⟨b, off, none⟩ ∧ b < B ∧ w.cell? ⟨b, off + k, none⟩ = some (.int .u8 x) ∧ 0 ≤ x ∧ x ≤ 255 := by
  rcases h with rfl | ⟨b, off, e, hb, hc⟩
  · simp at hk
  · have := hc k _ (List.getElem?_eq_getElem hk)
    exact ⟨b, off, xs[k], e, hb, this.1, this.2⟩
theorem RdB.keep (h : RdB w B A xs) (hk : ∀ b o, b < B → w'.cell? ⟨b, o, none⟩ = w.cell? ⟨b, o, none⟩) : RdB w' B A xs := by
  rcases h with rfl | ⟨b, off, e, hb, hc⟩
  · exact .inl rfl
  · exact .inr ⟨b, off, e, hb, fun k x hl => ⟨(hk _ _ hb).trans (hc k x hl).1, (hc k x hl).2⟩⟩
theorem RdB.below {C : Nat} (h : RdB w B A xs) (hb : Below C w w') (hC : B ≤ C) : RdB w' B A xs := h.keep fun b _ hp => hb.cell (p := ⟨b, _, none⟩) (Nat.lt_of_lt_of_le hp hC)
theorem RdB.more (h : RdB w B A xs) (hB : B ≤ B') : RdB w B' A xs := by
  rcases h with rfl | ⟨b, off, e, hb, hc⟩
  · exact .inl rfl
  · exact .inr ⟨b, off, e, by omega, hc⟩
theorem RdB.grown {g : Nat} (h : RdB w B A xs) (hg : w.grownBy w' (some g)) (hB : B ≤ g) (hs : B ≤ w.heap.size) : RdB w' B A xs :=
  h.keep fun b o hp => World.cell?_of_block (w := w) (a := ⟨b, o, none⟩) (hg.block b (by omega) (fun e => by injection e with e; omega))
theorem RdB.of_open {w : World} {a : Addr} {zs : List Int} {len : Nat} (h : ∀ i, i < zs.length → w.cell? (a.add i) = some (.int .u8 (zs.getD i 0))) (hw : ∀ n ∈ zs, (Lit.int .u8 n).wf = true) : RdB w w.heap.size (some a) (zs.take len) := by
  by_cases h0 : zs.take len = []
  · exact .inl h0
  · have hpos : 0 < zs.length := by
      rcases Nat.eq_zero_or_pos zs.length with e | e
      · exact absurd (by simp [List.eq_nil_of_length_eq_zero e]) h0
      · exact e
    obtain ⟨b, off, spot⟩ := a
    have hspot : spot = none := by simpa [Addr.add] using World.cell?_spot (h 0 hpos)
    subst hspot
    have hb := World.block_lt_of_cell? w _ (h 0 hpos)
    refine .inr ⟨b, off, rfl, by simpa [Addr.add] using hb, fun k x hk => ?_⟩
    have hk2 : zs[k]? = some x := by
      rw [List.getElem?_take] at hk
      split at hk
      · exact hk
      · cases hk
    have hkl : k < zs.length := (List.getElem?_eq_some_iff.1 hk2).1
    have e : zs.getD k 0 = x := by simp [List.getD, hk2]
    have := h k hkl
    rw [add_plain, e] at this
    have hwx := hw x (List.mem_of_getElem? hk2)
    simp [Lit.wf, IntKind.min, IntKind.max, IntKind.signed, IntKind.bits] at hwx
    exact ⟨this, by omega, by omega⟩
end

theorem and255 (x : Int) : 0 ≤ bits .and .i64 x 255 ∧ bits .and .i64 x 255 ≤ 255 := by
  have e : bits .and .i64 x 255 = IntKind.i64.wrap ((BitVec.ofInt 64 x &&& BitVec.ofInt 64 255).toNat : Int) := rfl
  have h : (BitVec.ofInt 64 x &&& BitVec.ofInt 64 255).toNat ≤ 255 := by
    rw [BitVec.toNat_and]
    exact Nat.le_trans Nat.and_le_right (by decide)
  rw [e, IntWalk.i64_in _ (by omega)]
  omega

/-- The cursor lies in block g; its bytes read as xs below block B. -/
def CurB (w : World) (g B : Nat) (xs : List Int) : Prop :=
  ∃ (A : Option Addr) (c i : Nat) (h : Int), Blk w g 54 #[.slice A xs.length c, .int .i64 i, .int .i64 h] ∧ RdB w B A xs ∧ i ≤ xs.length ∧ xs.length ≤ 1048576 ∧ B ≤ g
theorem CurB.lt {w : World} {g B : Nat} {xs : List Int} (h : CurB w g B xs) : g < w.heap.size := by
  obtain ⟨A, c, i, hh, P, _⟩ := h
  exact P.lt
theorem CurB.ge {w : World} {g B : Nat} {xs : List Int} (h : CurB w g B xs) : B ≤ g := by
  obtain ⟨A, c, i, hh, P, _, _, _, hB⟩ := h
  exact hB
theorem CurB.below {C : Nat} {w w' : World} {g B : Nat} {xs : List Int} (h : CurB w g B xs) (hb : Below C w w') (hC : g < C) : CurB w' g B xs := by
  obtain ⟨A, c, i, hh, P, hr, h1, h2, h3⟩ := h
  exact ⟨A, c, i, hh, P.below hb hC, hr.below hb (by omega), h1, h2, h3⟩
theorem CurB.next {w w' : World} {g B : Nat} {xs : List Int} (h : CurB w g B xs) (hb : Below w.heap.size w w') : CurB w' g B xs := h.below hb h.lt
theorem CurB.alloc {w : World} {g B : Nat} {xs : List Int} (h : CurB w g B xs) (o : Obj) : CurB (w.alloc o) g B xs := h.next ((Below.refl _ _).alloc (Nat.le_refl _) o)
/-- Another row grows; the cursor stays. -/
theorem CurB.kept {row : Option Nat} {w w' : World} {g B : Nat} {xs : List Int} (h : CurB w g B xs) (hg : w.grownBy w' row) (hr : ∀ k, row = some k → g < k) : CurB w' g B xs := by
  obtain ⟨A, c, i, hh, P, hr', h1, h2, h3⟩ := h
  refine ⟨A, c, i, hh, P.grown hg (fun e => by have := hr g e.symm; omega), hr'.keep fun b o hb => ?_, h1, h2, h3⟩
  exact World.cell?_of_block (w := w) (a := ⟨b, o, none⟩) (hg.block b (by have := P.lt; omega) (fun e => by have := hr b e.symm; omega))
/-- What a draw gives: a number from 0 to n; only the cursor has changed. -/
def DrawP (w : World) (g B : Nat) (xs : List Int) (n : Int) (e : Ending) (w' : World) : Prop := ∃ x : Int, e = .returned (.int .i64 x) ∧ 0 ≤ x ∧ x ≤ n ∧ CurB w' g B xs ∧ w.grownBy w' (some g)
theorem grownBy_set {w : World} {g i : Nat} (v : Value) : w.grownBy (w.setCell ⟨g, i, none⟩ v) (some g) :=
  ⟨rfl, rfl, rfl, by simp, fun k hk hne => Below.heap_setCell w ⟨g, i, none⟩ v k (fun e => hne (by rw [e]))⟩
theorem grownBy_drew {w w' : World} {row : Option Nat} (h : w.grownBy w' row) (n : Nat) : w.grownBy (w'.drewN n) row := ⟨h.os, h.tape, h.output, h.size, h.block⟩
theorem CurB.drewN {w : World} {g B : Nat} {xs : List Int} (h : CurB w g B xs) (n : Nat) : CurB (w.drewN n) g B xs := h

set_option maxHeartbeats 1000000 in
theorem l01Byte_c (g B : Nat) (xs : List Int) (w : World) (hC : CurB w g B xs) : Calls Try.prog 61 #[.pointer (some ⟨g, 0, none⟩)] w (DrawP w g B xs 255) := by
  obtain ⟨A, c, i, h, P, hr, hi, hl, hB⟩ := hC
  obtain ⟨p0, p1, p2, pf0, pf1, pf2, pL⟩ := P.three
  go_enter Try.func61, Try.ntmps61
  go_wp2
  generalize wrap64 (wrap64 (h * 6364136223846793005) + 1442695040888963407) = v
  have hg1 : w.grownBy (w.setCell ⟨g, 2, none⟩ (.int .i64 v)) (some g) := grownBy_set _
  replace P := P.put3_2 (.int .i64 v)
  replace hr := hr.grown hg1 hB (by omega)
  generalize w.setCell ⟨g, 2, none⟩ (.int .i64 v) = w1 at *
  clear p0 p1 p2 pf0 pf1 pf2 pL
  obtain ⟨p0, p1, p2, pf0, pf1, pf2, pL⟩ := P.three
  go_quiet (fail)
  go_wp2
  generalize bits .xor .i64 (v / 8589934592) (v / 35184372088832) = u
  obtain ⟨x0, x1⟩ := and255 u
  generalize bits .and .i64 u 255 = x at *
  by_cases hlt : i < xs.length
  · obtain ⟨b, off, y, rfl, hb, hc, y0, y1⟩ := hr.at_ hlt
    go_quiet (fail)
    go_wp2
    go_quiet (fail)
    go_wp2
    obtain ⟨z0, z1⟩ := and255 (x + y)
    generalize bits .and .i64 (x + y) 255 = z at *
    go_ret
    refine ⟨z, rfl, z0, z1, ⟨some ⟨b, off, none⟩, c, i + 1, v, ?_, ?_, by omega, hl, hB⟩, ?_⟩
    · exact Blk.put3_1 (P.drewN _) (.int .i64 ((i + 1 : Nat) : Int))
    · exact hr.grown ((grownBy_drew (World.grownBy.refl w1 _) _).trans (grownBy_set _)) hB (by omega)
    · exact hg1.trans ((grownBy_drew (World.grownBy.refl w1 _) _).trans (grownBy_set _))
  · go_quiet (fail)
    go_wp2
    go_ret
    exact ⟨x, rfl, x0, x1, ⟨A, c, i, v, P, hr, hi, hl, hB⟩, grownBy_drew (grownBy_drew hg1 _) _⟩

set_option maxRecDepth 100000 in
set_option maxHeartbeats 1000000 in
theorem l01New_c (A : Option Addr) (c : Nat) (xs : List Int) (w : World) (hr : RdB w w.heap.size A xs) (hl : xs.length ≤ 1048576) : Calls Try.prog 37 #[.slice A xs.length c] w fun e w' => e = .returned (.pointer (some ⟨w.heap.size, 0, none⟩)) ∧ CurB w' w.heap.size w.heap.size xs ∧ Below w.heap.size w w' := by
  go_enter Try.func37, Try.ntmps37
  go_wp2
  go_loop [3, 4] (fun h i => ∃ (k : Nat) (hv : Int), k ≤ xs.length ∧ i = .int .i64 k ∧ h = .int .i64 hv) (fun _ i => xs.length - (intOf i).toNat)
  case atStart => exact ⟨0, _, Nat.zero_le _, rfl, rfl⟩
  case round =>
    obtain ⟨k, hv, hk, rfl, rfl⟩ := hrel
    by_cases hlt : k < xs.length
    · by_cases h4 : k < 4000
      · obtain ⟨b, off, y, rfl, hb, hc, y0, y1⟩ := hr.at_ hlt
        go_wp2
        go_round
        case rel => exact ⟨k + 1, _, by omega, by go_num, rfl⟩
        case measure => simp [intOf]; omega
      · have h4' : decide (k < 4000) = false := decide_eq_false h4
        have h4'' : decide ((k : Int) < 4000) = false := decide_eq_false (by omega)
        clear h4
        go_wp2
        go_ret
        exact ⟨rfl, ⟨A, c, 0, hv, Blk.new _ _ _, hr.below ((Below.refl _ _).alloc (Nat.le_refl _) _) (Nat.le_refl _), Nat.zero_le _, hl, Nat.le_refl _⟩, (Below.refl _ _).alloc (Nat.le_refl _) _⟩
    · go_wp2
      go_ret
      exact ⟨rfl, ⟨A, c, 0, hv, Blk.new _ _ _, hr.below ((Below.refl _ _).alloc (Nat.le_refl _) _) (Nat.le_refl _), Nat.zero_le _, hl, Nat.le_refl _⟩, (Below.refl _ _).alloc (Nat.le_refl _) _⟩

theorem tmod_b {x n : Int} (x0 : 0 ≤ x) (n0 : 0 < n) : 0 ≤ x.tmod n ∧ x.tmod n ≤ n - 1 := by
  rw [Int.tmod_eq_emod_of_nonneg x0]
  have := Int.emod_nonneg x (show n ≠ 0 by omega)
  have := Int.emod_lt_of_pos x n0
  omega
set_option maxHeartbeats 1000000 in
theorem l01Below_c (g B : Nat) (xs : List Int) (n : Int) (w : World) (hC : CurB w g B xs) (h0 : 0 < n) (h1 : n ≤ 256) : Calls Try.prog 54 #[.pointer (some ⟨g, 0, none⟩), .int .i64 n] w (DrawP w g B xs (n - 1)) := by
  go_enter Try.func54, Try.ntmps54
  go_wp2_with fail
  refine (l01Byte_c g B xs _ hC).mono ?_
  rintro e w1 ⟨x, rfl, x0, x1, hC1, hg1⟩
  have e1 := Int.emod_nonneg x (show n ≠ 0 by omega)
  have e2 := Int.emod_lt_of_pos x h0
  go_wp2
  go_ret
  exact ⟨x % n, by first | rfl | (rw [Int.tmod_eq_emod_of_nonneg x0]), e1, by omega, hC1, hg1⟩
set_option maxHeartbeats 1000000 in
theorem big_c (A : Option Addr) (c : Nat) (xs : List Int) (w : World) : Calls Try.prog 14 #[.slice A xs.length c] w fun e w' => e = .returned (.bool (decide ((1048576 : Int) < xs.length))) ∧ w = w' := by
  go_enter Try.func14, Try.ntmps14
  go_wp2
  go_ret
  exact ⟨rfl, rfl⟩
def AtP (w : World) (e : Ending) (w' : World) : Prop := ∃ x : Int, e = .returned (.int .i64 x) ∧ 0 ≤ x ∧ x ≤ 255 ∧ w = w'
set_option maxHeartbeats 1000000 in
theorem at_c (A : Option Addr) (c : Nat) (xs : List Int) (i : Int) (w : World) (hr : RdB w w.heap.size A xs) (hl : xs.length ≤ 1048576) (i0 : 0 ≤ i) (i1 : i ≤ 10) : Calls Try.prog 16 #[.slice A xs.length c, .int .i64 i] w (AtP w) := by
  by_cases h0 : xs.length = 0
  · go_enter Try.func16, Try.ntmps16
    go_wp2
    go_ret
    exact ⟨0, rfl, by omega, by omega, rfl⟩
  · have hlt := Int.emod_lt_of_pos (i * 5 + 1) (show (0 : Int) < xs.length by omega)
    have hge := Int.emod_nonneg (i * 5 + 1) (show (xs.length : Int) ≠ 0 by omega)
    go_enter Try.func16, Try.ntmps16
    obtain ⟨k, hk⟩ := Int.eq_ofNat_of_zero_le hge
    have hkl : k < xs.length := by omega
    obtain ⟨b, off, x, rfl, hb, hc, x0, x1⟩ := hr.at_ hkl
    go_wp2
    go_ret
    exact ⟨x, rfl, x0, x1, rfl⟩
end Go.Proofs.Ytdnknddldfihdaa
