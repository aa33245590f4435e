/- FieldOk, NeedIn, Harvest, SeasonNeed, both. -/
import Derived.Test.YtkbgifnmcklmiaaOwn
namespace Go.Proofs.Ytkbgifnmcklmiaa
open Go.ChangeShapes Go.WideShapes Go.ChangeAt Go.RowKit
set_option linter.unusedVariables false

def fieldB (a : Int) (ws : List Int) : Bool := inB a 1 1000 && inB ws.length 1 30 && allB ws 0 100
theorem field_b {a : Int} {ws : List Int} (h : fieldB a ws = true) : (1 ≤ a ∧ a ≤ 1000) ∧ (1 ≤ ws.length ∧ ws.length ≤ 30) ∧ ∀ x ∈ ws, 0 ≤ x ∧ x ≤ 100 := by
  unfold fieldB at h
  simp only [Bool.and_eq_true, inB_iff, allB_iff] at h
  exact ⟨h.1.1, by omega, h.2⟩
theorem RdI.step {w W : World} {A : Option Addr} {xs : List Int} (hr : RdI w w.heap.size A xs) (H : Below w.heap.size w W) : RdI W W.heap.size A xs := (hr.below H (Nat.le_refl _)).more H.size

set_option maxHeartbeats 1000000 in
theorem iFok_c (a : Int) (A : Option Addr) (c : Nat) (ws : List Int) (w : World) (hr : RdI w w.heap.size A ws) (hl : ws.length ≤ 1048576) :
    Calls Try.prog 13 #[.agg #[.int .i64 a, .slice A ws.length c]] w fun e w' => e = .returned (.bool (fieldB a ws)) ∧ Below w.heap.size w w' := by
  have P := Blk.new w 27 #[.int .i64 a, .slice A ws.length c]
  have H := (Below.refl w.heap.size w).alloc (Nat.le_refl _) (.cells #[.int .i64 a, .slice A ws.length c] 27)
  obtain ⟨p0, p1, -, -, pL⟩ := P.two
  unfold fieldB
  cases h1 : inB a 1 1000
  · go_enter Try.func13, Try.ntmps13
    go_wp2_with (go_at_call 34; refine (within_c _ _ _ _).mono ?_; rintro e w' ⟨rfl, rfl⟩)
    go_ret
    exact ⟨rfl, H⟩
  · cases h2 : inB ws.length 1 30
    · go_enter Try.func13, Try.ntmps13
      go_wp2_with (go_at_call 34; refine (within_c _ _ _ _).mono ?_; rintro e w' ⟨rfl, rfl⟩)
      go_ret
      exact ⟨rfl, H⟩
    · go_enter Try.func13, Try.ntmps13
      go_wp2_with fail
      refine (within_c _ _ _ _).mono ?_
      rintro e w' ⟨rfl, rfl⟩
      go_wp2_with fail
      refine (within_c _ _ _ _).mono ?_
      rintro e w' ⟨rfl, rfl⟩
      go_wp2_with fail
      refine (allWithin_c _ _ _ _ _ _ (hr.step H) hl).mono ?_
      rintro e w' ⟨rfl, rfl⟩
      go_wp2
      go_ret
      exact ⟨rfl, H⟩
theorem fieldB_bad {a : Int} {ws : List Int} (h : allB ws 0 100 = false) : fieldB a ws = false := by unfold fieldB; rw [h, Bool.and_false]
theorem fieldB_all {a : Int} {ws : List Int} (h : allB ws 0 100 = true) : fieldB a ws = (inB a 1 1000 && inB ws.length 1 30) := by unfold fieldB; rw [h, Bool.and_true]
set_option maxHeartbeats 1000000 in
theorem sFok_c (a : Int) (A : Option Addr) (c : Nat) (ws : List Int) (w : World) (hr : RdI w w.heap.size A ws) (hl : ws.length ≤ 1048576) :
    Calls Try.prog 11 #[.agg #[.int .i64 a, .slice A ws.length c]] w fun e w' => e = .returned (.bool (fieldB a ws)) ∧ Below w.heap.size w w' := by
  have P := Blk.new w 27 #[.int .i64 a, .slice A ws.length c]
  have H := (Below.refl w.heap.size w).alloc (Nat.le_refl _) (.cells #[.int .i64 a, .slice A ws.length c] 27)
  obtain ⟨p0, p1, -, -, pL⟩ := P.two
  have hr2 := hr.step H
  go_enter Try.func11, Try.ntmps11
  go_wp2
  go_loop [3] (fun i => ∃ k : Nat, k ≤ ws.length ∧ i = .int .i64 k ∧ Hid (allB ws 0 100 = allB (ws.drop k) 0 100)) (fun i => ws.length - (intOf i).toNat)
  case atStart => exact ⟨0, Nat.zero_le _, rfl, rfl⟩
  case round =>
    obtain ⟨k, hk, rfl, hall⟩ := hrel
    by_cases hlt : k < ws.length
    · obtain ⟨b, off, x, rfl, hb, hc, hx, hd⟩ := hr2.at_ hlt
      cases hin : inB x 0 100
      · have hbad := Lib.hid (show fieldB a ws = false from fieldB_bad (by rw [hall.out, hd.out, allB_cons, hin]; rfl))
        go_wp2_with (go_at_call 33; refine (l01In_c _ _ _ _).mono ?_; rintro e w' ⟨rfl, rfl⟩)
        go_ret
        exact ⟨by rw [hbad.out]; rfl, H⟩
      · go_wp2_with (go_at_call 33; refine (l01In_c _ _ _ _).mono ?_; rintro e w' ⟨rfl, rfl⟩)
        go_round
        case rel => exact ⟨k + 1, by omega, by go_num, by rw [hall.out, hd.out, allB_cons, hin]; exact Bool.true_and _⟩
        case measure => simp [intOf]; omega
    · have hgood := Lib.hid (show fieldB a ws = _ from fieldB_all (by rw [hall.out, drop_end ws hk hlt]; rfl))
      cases h1 : inB a 1 1000
      · go_wp2_with (go_at_call 33; refine (l01In_c _ _ _ _).mono ?_; rintro e w' ⟨rfl, rfl⟩)
        go_ret
        exact ⟨by rw [hgood.out, h1]; rfl, H⟩
      · go_wp2_with (go_at_call 33; refine (l01In_c _ _ _ _).mono ?_; rintro e w' ⟨rfl, rfl⟩)
        go_ret
        exact ⟨by rw [hgood.out, h1]; rfl, H⟩

/-! ### NeedIn -/
def needZ (a : Int) (ws : List Int) (s wk : Int) : Int := if fieldB a ws && (inB s 0 52 && inB wk 0 52) then (if inB (wk - s) 0 (ws.length - 1) then a * ws.getD (wk - s).toNat 0 else 0) else -1
theorem need_no {a : Int} {ws : List Int} {s wk : Int} (h : fieldB a ws = false ∨ inB s 0 52 = false ∨ inB wk 0 52 = false) : needZ a ws s wk = -1 := by
  unfold needZ
  rcases h with h | h | h <;> simp [h]
theorem need_out {a : Int} {ws : List Int} {s wk : Int} (h : fieldB a ws = true) (h1 : inB s 0 52 = true) (h2 : inB wk 0 52 = true) (h3 : inB (wk - s) 0 (ws.length - 1) = false) : needZ a ws s wk = 0 := by
  unfold needZ
  rw [h, h1, h2, h3]
  rfl
theorem need_in {a : Int} {ws : List Int} {s wk x : Int} {n : Nat} (h : fieldB a ws = true) (h1 : inB s 0 52 = true) (h2 : inB wk 0 52 = true) (h3 : inB (wk - s) 0 (ws.length - 1) = true) (hn : wk - s = (n : Int)) (hx : ws[n]? = some x) : needZ a ws s wk = a * x := by
  unfold needZ
  rw [h, h1, h2, h3, hn]
  simp [List.getD, hx]
theorem mul_b5 (a x : Int) (a0 : 1 ≤ a) (a1 : a ≤ 1000) (x0 : 0 ≤ x) (x1 : x ≤ 100) : 0 ≤ a * x ∧ a * x ≤ 100000 := by
  have h1 := Int.mul_nonneg (show 0 ≤ a by omega) x0
  have h2 : a * x ≤ 1000 * 100 := Int.mul_le_mul a1 x1 x0 (by omega)
  omega
theorem needZ_b (a : Int) (ws : List Int) (s wk : Int) : -1 ≤ needZ a ws s wk ∧ needZ a ws s wk ≤ 100000 := by
  unfold needZ
  by_cases h : (fieldB a ws && (inB s 0 52 && inB wk 0 52)) = true
  · rw [if_pos h]
    simp only [Bool.and_eq_true] at h
    obtain ⟨⟨a0, a1⟩, ⟨l0, l1⟩, hb⟩ := field_b h.1
    split
    · rename_i h3
      obtain ⟨u0, u1⟩ := (inB_iff _ _ _).1 h3
      have hlt : (wk - s).toNat < ws.length := by omega
      have e : ws.getD (wk - s).toNat 0 = ws[(wk - s).toNat] := by simp [List.getD, hlt]
      rw [e]
      have hx := hb _ (List.getElem_mem hlt)
      have := mul_b5 a _ a0 a1 hx.1 hx.2
      omega
    · omega
  · rw [if_neg h]; omega
theorem needZ_ok {a : Int} {ws : List Int} {s wk : Int} (h : fieldB a ws = true) (h1 : inB s 0 52 = true) (h2 : inB wk 0 52 = true) : 0 ≤ needZ a ws s wk := by
  obtain ⟨⟨a0, a1⟩, ⟨l0, l1⟩, hb⟩ := field_b h
  cases h3 : inB (wk - s) 0 (ws.length - 1)
  · rw [need_out h h1 h2 h3]; omega
  · obtain ⟨u0, u1⟩ := (inB_iff _ _ _).1 h3
    have hlt : (wk - s).toNat < ws.length := by omega
    rw [need_in h h1 h2 h3 (n := (wk - s).toNat) (by omega) (List.getElem?_eq_getElem hlt)]
    have hx := hb _ (List.getElem_mem hlt)
    exact (mul_b5 a _ a0 a1 hx.1 hx.2).1

set_option maxHeartbeats 2000000 in
theorem iNeed_c (a : Int) (A : Option Addr) (c : Nat) (ws : List Int) (s wk : Int) (w : World) (hr : RdI w w.heap.size A ws) (hl : ws.length ≤ 1048576) :
    Calls Try.prog 16 #[.agg #[.int .i64 a, .slice A ws.length c], .int .i64 s, .int .i64 wk] w fun e w' => e = .returned (.int .i64 (needZ a ws s wk)) ∧ Below w.heap.size w w' := by
  have P := Blk.new w 27 #[.int .i64 a, .slice A ws.length c]
  have H := (Below.refl w.heap.size w).alloc (Nat.le_refl _) (.cells #[.int .i64 a, .slice A ws.length c] 27)
  obtain ⟨p0, p1, -, -, pL⟩ := P.two
  cases hf : fieldB a ws
  · rw [need_no (.inl hf)]
    go_enter Try.func16, Try.ntmps16
    go_wp2_with fail
    refine (iFok_c a A c ws _ (hr.step H) hl).mono ?_
    rintro e w1 ⟨rfl, b⟩
    replace P := P.next b
    replace H := chain H b (Nat.le_refl _)
    clear b p0 p1 pL
    obtain ⟨p0, p1, -, -, pL⟩ := P.two
    go_wp2
    go_ret
    exact ⟨rfl, H⟩
  · obtain ⟨⟨a0, a1⟩, ⟨l0, l1⟩, hb⟩ := field_b hf
    cases h1 : inB s 0 52
    · rw [need_no (.inr (.inl h1))]
      go_enter Try.func16, Try.ntmps16
      go_wp2_with fail
      refine (iFok_c a A c ws _ (hr.step H) hl).mono ?_
      rintro e w1 ⟨rfl, b⟩
      replace P := P.next b
      replace H := chain H b (Nat.le_refl _)
      clear b p0 p1 pL
      obtain ⟨p0, p1, -, -, pL⟩ := P.two
      go_wp2_with fail
      refine (within_c _ _ _ _).mono ?_
      rintro e w' ⟨rfl, rfl⟩
      go_wp2
      go_ret
      exact ⟨rfl, H⟩
    · cases h2 : inB wk 0 52
      · rw [need_no (.inr (.inr h2))]
        go_enter Try.func16, Try.ntmps16
        go_wp2_with fail
        refine (iFok_c a A c ws _ (hr.step H) hl).mono ?_
        rintro e w1 ⟨rfl, b⟩
        replace P := P.next b
        replace H := chain H b (Nat.le_refl _)
        clear b p0 p1 pL
        obtain ⟨p0, p1, -, -, pL⟩ := P.two
        go_wp2_with fail
        refine (within_c _ _ _ _).mono ?_
        rintro e w' ⟨rfl, rfl⟩
        go_wp2_with fail
        refine (within_c _ _ _ _).mono ?_
        rintro e w' ⟨rfl, rfl⟩
        go_wp2
        go_ret
        exact ⟨rfl, H⟩
      · obtain ⟨s0, s1⟩ := (inB_iff _ _ _).1 h1
        obtain ⟨k0, k1⟩ := (inB_iff _ _ _).1 h2
        cases h3 : inB (wk - s) 0 (ws.length - 1)
        · rw [need_out hf h1 h2 h3]
          go_enter Try.func16, Try.ntmps16
          go_wp2_with fail
          refine (iFok_c a A c ws _ (hr.step H) hl).mono ?_
          rintro e w1 ⟨rfl, b⟩
          replace P := P.next b
          replace H := chain H b (Nat.le_refl _)
          clear b p0 p1 pL
          obtain ⟨p0, p1, -, -, pL⟩ := P.two
          go_wp2_with fail
          refine (within_c _ _ _ _).mono ?_
          rintro e w' ⟨rfl, rfl⟩
          go_wp2_with fail
          refine (within_c _ _ _ _).mono ?_
          rintro e w' ⟨rfl, rfl⟩
          go_wp2_with fail
          refine (within_c _ _ _ _).mono ?_
          rintro e w' ⟨rfl, rfl⟩
          go_wp2
          go_ret
          exact ⟨rfl, H⟩
        · obtain ⟨u0, u1⟩ := (inB_iff _ _ _).1 h3
          obtain ⟨n, hn⟩ := Int.eq_ofNat_of_zero_le u0
          have hlt : n < ws.length := by omega
          obtain ⟨g, off, x, hA, hg, -, hx, -⟩ := hr.at_ hlt
          rw [need_in hf h1 h2 h3 hn hx.out]
          subst hA
          have hx100 := hb x (List.mem_of_getElem? hx.out)
          obtain ⟨m0, m1⟩ := mul_b5 a x a0 a1 hx100.1 hx100.2
          have hb' := Lib.hid hb
          have hn' := Lib.hid hn
          clear hb hn
          go_enter Try.func16, Try.ntmps16
          go_wp2_with fail
          refine (iFok_c a _ c ws _ (hr.step H) hl).mono ?_
          rintro e w1 ⟨rfl, b⟩
          replace P := P.next b
          replace H := chain H b (Nat.le_refl _)
          clear b p0 p1 pL
          obtain ⟨p0, p1, -, -, pL⟩ := P.two
          go_wp2_with fail
          refine (within_c _ _ _ _).mono ?_
          rintro e w' ⟨rfl, rfl⟩
          go_wp2_with fail
          refine (within_c _ _ _ _).mono ?_
          rintro e w' ⟨rfl, rfl⟩
          go_wp2_with fail
          refine (within_c _ _ _ _).mono ?_
          rintro e w' ⟨rfl, rfl⟩
          obtain ⟨b', off', x', e', -, hc, hx', -⟩ := (hr.step H).at_ hlt
          injection e' with e'
          injection e' with e1 e2
          subst e1 e2
          obtain rfl : x = x' := by have := hx.out.symm.trans hx'.out; exact Option.some.inj this
          have e1 : IntKind.i64.wrap (wk - s) = (n : Int) := by rw [hn'.out]; exact IntWalk.i64_in _ (by omega)
          have e2 : IntKind.i64.wrap (a * x) = a * x := IntWalk.i64_in _ (by omega)
          have e3 : (n : Int) < (ws.length : Int) := by omega
          skip
          go_wp2
          go_quiet (fail)
          go_wp2
          go_ret
          exact ⟨rfl, below_drewN H _⟩
set_option maxHeartbeats 2000000 in
theorem sNeed_c (a : Int) (A : Option Addr) (c : Nat) (ws : List Int) (s wk : Int) (w : World) (hr : RdI w w.heap.size A ws) (hl : ws.length ≤ 1048576) :
    Calls Try.prog 15 #[.agg #[.int .i64 a, .slice A ws.length c], .int .i64 s, .int .i64 wk] w fun e w' => e = .returned (.int .i64 (needZ a ws s wk)) ∧ Below w.heap.size w w' := by
  have P := Blk.new w 27 #[.int .i64 a, .slice A ws.length c]
  have H := (Below.refl w.heap.size w).alloc (Nat.le_refl _) (.cells #[.int .i64 a, .slice A ws.length c] 27)
  obtain ⟨p0, p1, -, -, pL⟩ := P.two
  cases hf : fieldB a ws
  · rw [need_no (.inl hf)]
    go_enter Try.func15, Try.ntmps15
    go_wp2_with fail
    refine (sFok_c a A c ws _ (hr.step H) hl).mono ?_
    rintro e w1 ⟨rfl, b⟩
    replace P := P.next b
    replace H := chain H b (Nat.le_refl _)
    clear b p0 p1 pL
    obtain ⟨p0, p1, -, -, pL⟩ := P.two
    go_wp2
    go_ret
    exact ⟨rfl, H⟩
  · obtain ⟨⟨a0, a1⟩, ⟨l0, l1⟩, hb⟩ := field_b hf
    cases h1 : inB s 0 52
    · rw [need_no (.inr (.inl h1))]
      go_enter Try.func15, Try.ntmps15
      go_wp2_with fail
      refine (sFok_c a A c ws _ (hr.step H) hl).mono ?_
      rintro e w1 ⟨rfl, b⟩
      replace P := P.next b
      replace H := chain H b (Nat.le_refl _)
      clear b p0 p1 pL
      obtain ⟨p0, p1, -, -, pL⟩ := P.two
      go_wp2_with fail
      refine (l01In_c _ _ _ _).mono ?_
      rintro e w' ⟨rfl, rfl⟩
      go_wp2
      go_ret
      exact ⟨rfl, H⟩
    · cases h2 : inB wk 0 52
      · rw [need_no (.inr (.inr h2))]
        go_enter Try.func15, Try.ntmps15
        go_wp2_with fail
        refine (sFok_c a A c ws _ (hr.step H) hl).mono ?_
        rintro e w1 ⟨rfl, b⟩
        replace P := P.next b
        replace H := chain H b (Nat.le_refl _)
        clear b p0 p1 pL
        obtain ⟨p0, p1, -, -, pL⟩ := P.two
        go_wp2_with fail
        refine (l01In_c _ _ _ _).mono ?_
        rintro e w' ⟨rfl, rfl⟩
        go_wp2_with fail
        refine (l01In_c _ _ _ _).mono ?_
        rintro e w' ⟨rfl, rfl⟩
        go_wp2
        go_ret
        exact ⟨rfl, H⟩
      · obtain ⟨s0, s1⟩ := (inB_iff _ _ _).1 h1
        obtain ⟨k0, k1⟩ := (inB_iff _ _ _).1 h2
        cases h3 : inB (wk - s) 0 (ws.length - 1)
        · rw [need_out hf h1 h2 h3]
          go_enter Try.func15, Try.ntmps15
          go_wp2_with fail
          refine (sFok_c a A c ws _ (hr.step H) hl).mono ?_
          rintro e w1 ⟨rfl, b⟩
          replace P := P.next b
          replace H := chain H b (Nat.le_refl _)
          clear b p0 p1 pL
          obtain ⟨p0, p1, -, -, pL⟩ := P.two
          go_wp2_with fail
          refine (l01In_c _ _ _ _).mono ?_
          rintro e w' ⟨rfl, rfl⟩
          go_wp2_with fail
          refine (l01In_c _ _ _ _).mono ?_
          rintro e w' ⟨rfl, rfl⟩
          go_wp2_with fail
          refine (l01In_c _ _ _ _).mono ?_
          rintro e w' ⟨rfl, rfl⟩
          go_wp2
          go_ret
          exact ⟨rfl, H⟩
        · obtain ⟨u0, u1⟩ := (inB_iff _ _ _).1 h3
          obtain ⟨n, hn⟩ := Int.eq_ofNat_of_zero_le u0
          have hlt : n < ws.length := by omega
          obtain ⟨g, off, x, hA, hg, -, hx, -⟩ := hr.at_ hlt
          rw [need_in hf h1 h2 h3 hn hx.out]
          subst hA
          have hx100 := hb x (List.mem_of_getElem? hx.out)
          obtain ⟨m0, m1⟩ := mul_b5 a x a0 a1 hx100.1 hx100.2
          have hb' := Lib.hid hb
          have hn' := Lib.hid hn
          clear hb hn
          go_enter Try.func15, Try.ntmps15
          go_wp2_with fail
          refine (sFok_c a _ c ws _ (hr.step H) hl).mono ?_
          rintro e w1 ⟨rfl, b⟩
          replace P := P.next b
          replace H := chain H b (Nat.le_refl _)
          clear b p0 p1 pL
          obtain ⟨p0, p1, -, -, pL⟩ := P.two
          go_wp2_with fail
          refine (l01In_c _ _ _ _).mono ?_
          rintro e w' ⟨rfl, rfl⟩
          go_wp2_with fail
          refine (l01In_c _ _ _ _).mono ?_
          rintro e w' ⟨rfl, rfl⟩
          go_wp2_with fail
          refine (l01In_c _ _ _ _).mono ?_
          rintro e w' ⟨rfl, rfl⟩
          obtain ⟨b', off', x', e', -, hc, hx', -⟩ := (hr.step H).at_ hlt
          injection e' with e'
          injection e' with e1 e2
          subst e1 e2
          obtain rfl : x = x' := by have := hx.out.symm.trans hx'.out; exact Option.some.inj this
          have e1 : IntKind.i64.wrap (wk - s) = (n : Int) := by rw [hn'.out]; exact IntWalk.i64_in _ (by omega)
          have e2 : IntKind.i64.wrap (a * x) = a * x := IntWalk.i64_in _ (by omega)
          have e3 : (n : Int) < (ws.length : Int) := by omega
          rw [hn'.out] at h3 ⊢
          go_wp2
          go_quiet (fail)
          go_wp2
          go_ret
          exact ⟨rfl, below_drewN H _⟩

/-! ### Harvest and SeasonNeed -/
def harvZ (a : Int) (ws : List Int) (s : Int) : Int := if fieldB a ws && inB s 0 52 then s + (ws.length : Int) else -1
theorem harv_no {a : Int} {ws : List Int} {s : Int} (h : fieldB a ws = false ∨ inB s 0 52 = false) : harvZ a ws s = -1 := by
  unfold harvZ
  rcases h with h | h <;> simp [h]
theorem harv_yes {a : Int} {ws : List Int} {s : Int} (h : fieldB a ws = true) (h1 : inB s 0 52 = true) : harvZ a ws s = s + (ws.length : Int) := by
  unfold harvZ
  rw [h, h1]
  rfl
set_option maxHeartbeats 1000000 in
theorem iHarv_c (a : Int) (A : Option Addr) (c : Nat) (ws : List Int) (s : Int) (w : World) (hr : RdI w w.heap.size A ws) (hl : ws.length ≤ 1048576) :
    Calls Try.prog 18 #[.agg #[.int .i64 a, .slice A ws.length c], .int .i64 s] w fun e w' => e = .returned (.int .i64 (harvZ a ws s)) ∧ Below w.heap.size w w' := by
  have P := Blk.new w 27 #[.int .i64 a, .slice A ws.length c]
  have H := (Below.refl w.heap.size w).alloc (Nat.le_refl _) (.cells #[.int .i64 a, .slice A ws.length c] 27)
  obtain ⟨p0, p1, -, -, pL⟩ := P.two
  cases hf : fieldB a ws
  · rw [harv_no (.inl hf)]
    go_enter Try.func18, Try.ntmps18
    go_wp2_with fail
    refine (iFok_c a A c ws _ (hr.step H) hl).mono ?_
    rintro e w1 ⟨rfl, b⟩
    replace P := P.next b
    replace H := chain H b (Nat.le_refl _)
    clear b p0 p1 pL
    obtain ⟨p0, p1, -, -, pL⟩ := P.two
    go_wp2
    go_ret
    exact ⟨rfl, H⟩
  · cases h1 : inB s 0 52
    · rw [harv_no (.inr h1)]
      go_enter Try.func18, Try.ntmps18
      go_wp2_with fail
      refine (iFok_c a A c ws _ (hr.step H) hl).mono ?_
      rintro e w1 ⟨rfl, b⟩
      replace P := P.next b
      replace H := chain H b (Nat.le_refl _)
      clear b p0 p1 pL
      obtain ⟨p0, p1, -, -, pL⟩ := P.two
      go_wp2_with fail
      refine (within_c _ _ _ _).mono ?_
      rintro e w' ⟨rfl, rfl⟩
      go_wp2
      go_ret
      exact ⟨rfl, H⟩
    · rw [harv_yes hf h1]
      obtain ⟨s0, s1⟩ := (inB_iff _ _ _).1 h1
      go_enter Try.func18, Try.ntmps18
      go_wp2_with fail
      refine (iFok_c a A c ws _ (hr.step H) hl).mono ?_
      rintro e w1 ⟨rfl, b⟩
      replace P := P.next b
      replace H := chain H b (Nat.le_refl _)
      clear b p0 p1 pL
      obtain ⟨p0, p1, -, -, pL⟩ := P.two
      go_wp2_with fail
      refine (within_c _ _ _ _).mono ?_
      rintro e w' ⟨rfl, rfl⟩
      go_wp2
      go_ret
      exact ⟨rfl, H⟩
set_option maxHeartbeats 1000000 in
theorem sHarv_c (a : Int) (A : Option Addr) (c : Nat) (ws : List Int) (s : Int) (w : World) (hr : RdI w w.heap.size A ws) (hl : ws.length ≤ 1048576) :
    Calls Try.prog 17 #[.agg #[.int .i64 a, .slice A ws.length c], .int .i64 s] w fun e w' => e = .returned (.int .i64 (harvZ a ws s)) ∧ Below w.heap.size w w' := by
  have P := Blk.new w 27 #[.int .i64 a, .slice A ws.length c]
  have H := (Below.refl w.heap.size w).alloc (Nat.le_refl _) (.cells #[.int .i64 a, .slice A ws.length c] 27)
  obtain ⟨p0, p1, -, -, pL⟩ := P.two
  cases hf : fieldB a ws
  · rw [harv_no (.inl hf)]
    go_enter Try.func17, Try.ntmps17
    go_wp2_with fail
    refine (sFok_c a A c ws _ (hr.step H) hl).mono ?_
    rintro e w1 ⟨rfl, b⟩
    replace P := P.next b
    replace H := chain H b (Nat.le_refl _)
    clear b p0 p1 pL
    obtain ⟨p0, p1, -, -, pL⟩ := P.two
    go_wp2
    go_ret
    exact ⟨rfl, H⟩
  · cases h1 : inB s 0 52
    · rw [harv_no (.inr h1)]
      go_enter Try.func17, Try.ntmps17
      go_wp2_with fail
      refine (sFok_c a A c ws _ (hr.step H) hl).mono ?_
      rintro e w1 ⟨rfl, b⟩
      replace P := P.next b
      replace H := chain H b (Nat.le_refl _)
      clear b p0 p1 pL
      obtain ⟨p0, p1, -, -, pL⟩ := P.two
      go_wp2_with fail
      refine (l01In_c _ _ _ _).mono ?_
      rintro e w' ⟨rfl, rfl⟩
      go_wp2
      go_ret
      exact ⟨rfl, H⟩
    · rw [harv_yes hf h1]
      obtain ⟨s0, s1⟩ := (inB_iff _ _ _).1 h1
      go_enter Try.func17, Try.ntmps17
      go_wp2_with fail
      refine (sFok_c a A c ws _ (hr.step H) hl).mono ?_
      rintro e w1 ⟨rfl, b⟩
      replace P := P.next b
      replace H := chain H b (Nat.le_refl _)
      clear b p0 p1 pL
      obtain ⟨p0, p1, -, -, pL⟩ := P.two
      go_wp2_with fail
      refine (l01In_c _ _ _ _).mono ?_
      rintro e w' ⟨rfl, rfl⟩
      go_wp2
      go_ret
      exact ⟨rfl, H⟩
def sumI : List Int → Int
  | [] => 0
  | x :: t => x + sumI t
theorem sumI_b (xs : List Int) (h : ∀ x ∈ xs, 0 ≤ x ∧ x ≤ 100) : 0 ≤ sumI xs ∧ sumI xs ≤ 100 * (xs.length : Int) := by
  induction xs with
  | nil => exact ⟨Int.le_refl _, by simp [sumI]⟩
  | cons x t ih =>
    have h1 := ih (fun y hy => h y (List.mem_cons_of_mem _ hy))
    have h2 := h x (List.mem_cons_self ..)
    show 0 ≤ x + sumI t ∧ x + sumI t ≤ 100 * (((x :: t).length : Nat) : Int)
    rw [List.length_cons]
    omega
set_option maxHeartbeats 1000000 in
theorem sumOf_c (A : Option Addr) (c : Nat) (xs : List Int) (w : World) (hr : RdI w w.heap.size A xs) (hl : xs.length ≤ 30) (hb : ∀ x ∈ xs, 0 ≤ x ∧ x ≤ 100) :
    Calls Try.prog 37 #[.slice A xs.length c] w fun e w' => e = .returned (.int .i64 (sumI xs)) ∧ w = w' := by
  have hb' := Lib.hid hb
  clear hb
  go_enter Try.func37, Try.ntmps37
  go_wp2
  go_loop [3, 8] (fun s i => ∃ (k : Nat) (y : Int), k ≤ xs.length ∧ i = .int .i64 k ∧ s = .int .i64 y ∧ 0 ≤ y ∧ y ≤ 100 * (k : Int) ∧ Hid (sumI xs = y + sumI (xs.drop k))) (fun _ i => xs.length - (intOf i).toNat)
  case atStart => exact ⟨0, 0, Nat.zero_le _, rfl, rfl, Int.le_refl _, by omega, by show sumI xs = 0 + sumI xs; omega⟩
  case round =>
    obtain ⟨k, y, hk, rfl, rfl, y0, y1, hq⟩ := hrel
    by_cases hlt : k < xs.length
    · obtain ⟨b, off, x, rfl, hg, hc, hx, hd⟩ := hr.at_ hlt
      obtain ⟨x0, x1⟩ := hb'.out x (List.mem_of_getElem? hx.out)
      have hn := Lib.hid (show sumI xs = y + x + sumI (xs.drop (k + 1)) by rw [hq.out, hd.out]; show y + (x + sumI _) = _; omega)
      clear hq hx hd
      go_wp2
      go_round
      case rel => exact ⟨k + 1, y + x, by omega, by go_num, rfl, by omega, by omega, hn⟩
      case measure => simp [intOf]; omega
    · have hf := Lib.hid (show sumI xs = y by rw [hq.out, drop_end xs hk hlt]; show y + 0 = y; omega)
      go_wp2
      go_ret
      exact ⟨by rw [hf.out]; rfl, rfl⟩
set_option maxHeartbeats 1000000 in
theorem l06Sum_c (A : Option Addr) (c : Nat) (xs : List Int) (w : World) (hr : RdI w w.heap.size A xs) (hl : xs.length ≤ 30) (hb : ∀ x ∈ xs, 0 ≤ x ∧ x ≤ 100) :
    Calls Try.prog 36 #[.slice A xs.length c] w fun e w' => e = .returned (.int .i64 (sumI xs)) ∧ w = w' := by
  have hb' := Lib.hid hb
  clear hb
  go_enter Try.func36, Try.ntmps36
  go_wp2
  go_loop [3, 4] (fun s i => ∃ (k : Nat) (y : Int), k ≤ xs.length ∧ i = .int .i64 k ∧ s = .int .i64 y ∧ 0 ≤ y ∧ y ≤ 100 * (k : Int) ∧ Hid (sumI xs = y + sumI (xs.drop k))) (fun _ i => xs.length - (intOf i).toNat)
  case atStart => exact ⟨0, 0, Nat.zero_le _, rfl, rfl, Int.le_refl _, by omega, by show sumI xs = 0 + sumI xs; omega⟩
  case round =>
    obtain ⟨k, y, hk, rfl, rfl, y0, y1, hq⟩ := hrel
    by_cases hlt : k < xs.length
    · obtain ⟨b, off, x, rfl, hg, hc, hx, hd⟩ := hr.at_ hlt
      obtain ⟨x0, x1⟩ := hb'.out x (List.mem_of_getElem? hx.out)
      have hn := Lib.hid (show sumI xs = y + x + sumI (xs.drop (k + 1)) by rw [hq.out, hd.out]; show y + (x + sumI _) = _; omega)
      clear hq hx hd
      go_wp2
      go_round
      case rel => exact ⟨k + 1, y + x, by omega, by go_num, rfl, by omega, by omega, hn⟩
      case measure => simp [intOf]; omega
    · have hf := Lib.hid (show sumI xs = y by rw [hq.out, drop_end xs hk hlt]; show y + 0 = y; omega)
      go_wp2
      go_ret
      exact ⟨by rw [hf.out]; rfl, rfl⟩
def seasZ (a : Int) (ws : List Int) : Int := if fieldB a ws then a * sumI ws else -1
theorem seas_no {a : Int} {ws : List Int} (h : fieldB a ws = false) : seasZ a ws = -1 := by unfold seasZ; rw [h]; rfl
theorem seas_yes {a : Int} {ws : List Int} (h : fieldB a ws = true) : seasZ a ws = a * sumI ws := by unfold seasZ; rw [h]; rfl
set_option maxHeartbeats 1000000 in
theorem iSeas_c (a : Int) (A : Option Addr) (c : Nat) (ws : List Int) (w : World) (hr : RdI w w.heap.size A ws) (hl : ws.length ≤ 1048576) :
    Calls Try.prog 20 #[.agg #[.int .i64 a, .slice A ws.length c]] w fun e w' => e = .returned (.int .i64 (seasZ a ws)) ∧ Below w.heap.size w w' := by
  have P := Blk.new w 27 #[.int .i64 a, .slice A ws.length c]
  have H := (Below.refl w.heap.size w).alloc (Nat.le_refl _) (.cells #[.int .i64 a, .slice A ws.length c] 27)
  obtain ⟨p0, p1, -, -, pL⟩ := P.two
  cases hf : fieldB a ws
  · rw [seas_no hf]
    go_enter Try.func20, Try.ntmps20
    go_wp2_with fail
    refine (iFok_c a A c ws _ (hr.step H) hl).mono ?_
    rintro e w1 ⟨rfl, b⟩
    replace P := P.next b
    replace H := chain H b (Nat.le_refl _)
    clear b p0 p1 pL
    obtain ⟨p0, p1, -, -, pL⟩ := P.two
    go_wp2
    go_ret
    exact ⟨rfl, H⟩
  · rw [seas_yes hf]
    obtain ⟨⟨a0, a1⟩, ⟨l0, l1⟩, hb⟩ := field_b hf
    obtain ⟨t0, t1⟩ := sumI_b ws hb
    have m0 : 0 ≤ a * sumI ws := Int.mul_nonneg (by omega) t0
    have m1 : a * sumI ws ≤ 1000 * 3000 := Int.mul_le_mul a1 (by omega) t0 (by omega)
    have e2 : IntKind.i64.wrap (a * sumI ws) = a * sumI ws := IntWalk.i64_in _ (by omega)
    have hS := Lib.hid (fun W (hrW : RdI W W.heap.size A ws) => sumOf_c A c ws W hrW (by omega) hb)
    clear hb
    generalize sumI ws = S at *
    go_enter Try.func20, Try.ntmps20
    go_wp2_with fail
    refine (iFok_c a A c ws _ (hr.step H) hl).mono ?_
    rintro e w1 ⟨rfl, b⟩
    replace P := P.next b
    replace H := chain H b (Nat.le_refl _)
    clear b p0 p1 pL
    obtain ⟨p0, p1, -, -, pL⟩ := P.two
    have hrw := Lib.hid (hr.step H)
    go_wp2
    have hS2 : Hid (∀ m, Calls Try.prog 37 #[.slice A ws.length c] (w1.drewN m) fun e w' => e = .returned (.int .i64 S) ∧ w1.drewN m = w') := fun m => hS.out _ (hrw.out.drewN m)
    go_quiet ((go_at_call 37; (have h1 := hS2.out); (with_reducible refine Calls.mono (h1 _) ?_); rintro e w' ⟨rfl, rfl⟩; exact ⟨rfl, _, rfl⟩))
    go_wp2
    go_ret
    exact ⟨rfl, below_drewN H _⟩
set_option maxHeartbeats 1000000 in
theorem sSeas_c (a : Int) (A : Option Addr) (c : Nat) (ws : List Int) (w : World) (hr : RdI w w.heap.size A ws) (hl : ws.length ≤ 1048576) :
    Calls Try.prog 19 #[.agg #[.int .i64 a, .slice A ws.length c]] w fun e w' => e = .returned (.int .i64 (seasZ a ws)) ∧ Below w.heap.size w w' := by
  have P := Blk.new w 27 #[.int .i64 a, .slice A ws.length c]
  have H := (Below.refl w.heap.size w).alloc (Nat.le_refl _) (.cells #[.int .i64 a, .slice A ws.length c] 27)
  obtain ⟨p0, p1, -, -, pL⟩ := P.two
  cases hf : fieldB a ws
  · rw [seas_no hf]
    go_enter Try.func19, Try.ntmps19
    go_wp2_with fail
    refine (sFok_c a A c ws _ (hr.step H) hl).mono ?_
    rintro e w1 ⟨rfl, b⟩
    replace P := P.next b
    replace H := chain H b (Nat.le_refl _)
    clear b p0 p1 pL
    obtain ⟨p0, p1, -, -, pL⟩ := P.two
    go_wp2
    go_ret
    exact ⟨rfl, H⟩
  · rw [seas_yes hf]
    obtain ⟨⟨a0, a1⟩, ⟨l0, l1⟩, hb⟩ := field_b hf
    obtain ⟨t0, t1⟩ := sumI_b ws hb
    have m0 : 0 ≤ a * sumI ws := Int.mul_nonneg (by omega) t0
    have m1 : a * sumI ws ≤ 1000 * 3000 := Int.mul_le_mul a1 (by omega) t0 (by omega)
    have e2 : IntKind.i64.wrap (a * sumI ws) = a * sumI ws := IntWalk.i64_in _ (by omega)
    have hS := Lib.hid (fun W (hrW : RdI W W.heap.size A ws) => l06Sum_c A c ws W hrW (by omega) hb)
    clear hb
    generalize sumI ws = S at *
    go_enter Try.func19, Try.ntmps19
    go_wp2_with fail
    refine (sFok_c a A c ws _ (hr.step H) hl).mono ?_
    rintro e w1 ⟨rfl, b⟩
    replace P := P.next b
    replace H := chain H b (Nat.le_refl _)
    clear b p0 p1 pL
    obtain ⟨p0, p1, -, -, pL⟩ := P.two
    have hrw := Lib.hid (hr.step H)
    go_wp2
    have hS2 : Hid (∀ m, Calls Try.prog 36 #[.slice A ws.length c] (w1.drewN m) fun e w' => e = .returned (.int .i64 S) ∧ w1.drewN m = w') := fun m => hS.out _ (hrw.out.drewN m)
    go_quiet ((go_at_call 36; (have h1 := hS2.out); (with_reducible refine Calls.mono (h1 _) ?_); rintro e w' ⟨rfl, rfl⟩; exact ⟨rfl, _, rfl⟩))
    go_wp2
    go_ret
    exact ⟨rfl, below_drewN H _⟩
end Go.Proofs.Ytkbgifnmcklmiaa
