/- Draws of jugs. -/
import Derived.Test.YtdnknddldfihdaaDrawL
import Derived.Test.YtdnknddldfihdaaSteps
namespace Go.Proofs.Ytdnknddldfihdaa
open Go.ChangeShapes Go.WideShapes Go.ChangeAt Go.RowKit
set_option linter.unusedVariables false

set_option maxHeartbeats 1000000 in
theorem l30Jugs_c (g B : Nat) (code : List Int) (w : World) (hC : CurB w g B code) : Calls Try.prog 36 #[.pointer (some ⟨g, 0, none⟩)] w (RowP w g B code (1) (9) 1 3) := by
  have hgl := hC.lt
  have hE := OwnI.empty w
  have hC0 := hC.alloc (.cells #[] 3)
  have hG0 : w.grownBy (w.alloc (.cells #[] 3)) (some g) := World.grownBy_alloc w _ _
  go_enter Try.func36, Try.ntmps36
  go_wp2_with fail
  refine (l01Below_c g B code 3 _ hC0 (by omega) (by omega)).mono ?_
  rintro e w1 ⟨n, rfl, n0, n1, hC1, hg1⟩
  replace hE := hE.cur hg1 hgl
  have hG1 := hG0.trans hg1
  clear hC0 hG0 hg1 hC
  obtain ⟨m, rfl⟩ := Int.eq_ofNat_of_zero_le n0
  go_wp2
  go_loopw [3, 5] (fun s i wr => ∃ (k : Nat) (A1 : Option Addr) (c1 : Nat) (ys : List Int), k ≤ m + 1 ∧ i = .int .i64 k ∧ s = .slice A1 ys.length c1 ∧ Hid (ys.length = k) ∧ ys.length ≤ 3 ∧ OwnI wr w.heap.size A1 c1 ys ∧ Hid (∀ y ∈ ys, 1 ≤ y ∧ y ≤ 9) ∧ CurB wr g B code ∧ w.grownBy wr (some g)) (fun _ i _ => m + 1 - (intOf i).toNat)
  case atStart => exact ⟨0, _, _, [], Nat.zero_le _, rfl, rfl, rfl, Nat.zero_le _, hE, (fun y hy => by cases hy), hC1, hG1⟩
  case round =>
    clear hE hC1 hG1
    obtain ⟨k, A1, cc, ys, hk, rfl, rfl, hlen, hl2, hO, hall, hC, hG⟩ := hrel
    by_cases hlt : k < m + 1
    · go_wp2_with fail
      refine (l01Below_c g B code (12 - 3 * (1 + (m : Int))) _ hC (by omega) (by omega)).mono ?_
      rintro e w2 ⟨x, rfl, x0, x1, hC2, hg2⟩
      have hO2 := hO.cur hg2 hgl
      have hG2 := hG.trans hg2
      have hw2 : w.heap.size ≤ w2.heap.size := hG2.size
      have hone : RdI (w2.alloc (.cells #[.int .i64 (1 + x)] 3)) (w2.alloc (.cells #[.int .i64 (1 + x)] 3)).heap.size (some ⟨w2.heap.size, 0, none⟩) [1 + x] := RdI.of_ints (xs := [1 + x]) (Blk.new _ _ _)
      have hOa := hO2.alloc (.cells #[.int .i64 (1 + x)] 3)
      have hCa := hC2.alloc (.cells #[.int .i64 (1 + x)] 3)
      have hGa := Lib.hid (grownBy_al hG2 (.cells #[.int .i64 (1 + x)] 3))
      have hl3 : ys.length < 3 := by have := hlen.out; omega
      have hl4 := Lib.hid (show ys.length + 1 = k + 1 by have := hlen.out; omega)
      clear hO2 hG2 hG hO hC hC2 hg2
      go_wp2_with (first | (at_builtin; refine wpList_append_rd _ rfl (.tmp 15) (.tmp 22) rfl w.heap.size A1 ys.length cc ys rfl rfl hOa (w2.alloc (.cells #[.int .i64 (1 + x)] 3)).heap.size (some ⟨w2.heap.size, 0, none⟩) 1 1 [1 + x] rfl rfl hone (by simp; omega) (by simp; omega) ?_; intro A' c' w3 hOn hgr hat) | fail)
      have hrow := hOa.row_ge
      go_roundw
      case rel =>
        refine ⟨k + 1, A', c', ys ++ [1 + x], by omega, by go_num, ?_, ?_, ?_, hOn, ?_, hCa.kept hgr (fun k hk => by have := hrow k hk; omega), grownBy_over hGa.out hgr hrow⟩
        · rw [List.length_append]; rfl
        · show (ys ++ [1 + x]).length = k + 1; rw [List.length_append]; exact hl4.out
        · rw [List.length_append]; simp; omega
        · intro y hy
          rcases List.mem_append.1 hy with h | h
          · exact hall.out y h
          · rw [List.mem_singleton.1 h]; exact ⟨by omega, by omega⟩
      case measure => simp [intOf]; omega
    · have hlk : ys.length = m + 1 := by have := hlen.out; omega
      have hlk' := Lib.hid hlk
      clear hlk
      go_wp2
      go_ret
      exact ⟨_, _, ys, rfl, hO, by have := hlk'.out; omega, hl2, hall.out, hC, hG⟩

def DrawJP (w : World) (e : Ending) (w' : World) : Prop := ∃ (A : Option Addr) (c : Nat) (v : List Int), e = .returned (.slice A v.length c) ∧ OwnI w' w.heap.size A c v ∧ 1 ≤ v.length ∧ v.length ≤ 3 ∧ (∀ y ∈ v, 1 ≤ y ∧ y ≤ 9) ∧ Below w.heap.size w w'
set_option maxHeartbeats 1000000 in
theorem drawJugs_c (A : Option Addr) (c : Nat) (code : List Int) (w : World) (hr : RdB w w.heap.size A code) (hl : code.length ≤ 1048576) : Calls Try.prog 15 #[.slice A code.length c] w (DrawJP w) := by
  go_enter Try.func15, Try.ntmps15
  go_wp2_with fail
  refine (l01New_c _ _ _ _ hr hl).mono ?_
  rintro e w1 ⟨rfl, hC, b⟩
  go_wp2_with fail
  refine (l30Jugs_c _ _ code _ hC).mono ?_
  rintro e w2 ⟨A2, c2, v, rfl, hO, h1, h9, hv, hC2, hg2⟩
  go_wp2
  go_ret
  exact ⟨A2, c2, v, rfl, hO.more b.size, h1, h9, hv, below_of_grown b hg2 b.size (Nat.le_refl _)⟩
theorem jugs_of {v : List Int} (h1 : 1 ≤ v.length) (h3 : v.length ≤ 3) (h : ∀ y ∈ v, 1 ≤ y ∧ y ≤ 9) : jugsB v = true := by
  unfold jugsB
  rw [(inB_iff _ _ _).2 (by omega), (allB_iff _ _ _).2 (fun x hx => by have := h x hx; omega)]; rfl
end Go.Proofs.Ytdnknddldfihdaa
