/- PoolAt, both. -/
import Derived.Test.YtoongfjidenbnaaBase
namespace Go.Proofs.Ytoongfjidenbnaa
open Go.ChangeShapes Go.WideShapes Go.ChangeAt Go.RowKit
set_option linter.unusedVariables false

theorem RdI.take {w : World} {B : Nat} {A : Option Addr} {xs : List Int} (h : RdI w B A xs) (n : Nat) : RdI w B A (xs.take n) := by
  rcases h with rfl | ⟨b, off, e, hb, hc⟩
  · left; simp
  · exact .inr ⟨b, off, e, hb, fun k x hk => hc k x (by
      rw [List.getElem?_take] at hk
      split at hk
      · exact hk
      · cases hk)⟩
theorem RdI.dropAt {w : World} {B b off : Nat} {xs : List Int} (h : RdI w B (some ⟨b, off, none⟩) xs) (n : Nat) : RdI w B (some ⟨b, off + n, none⟩) (xs.drop n) := by
  rcases h with rfl | ⟨b', off', e, hb, hc⟩
  · left; simp
  · injection e with e
    injection e with e1 e2
    subst e1 e2
    exact .inr ⟨_, _, rfl, hb, fun k x hk => by
      rw [Nat.add_assoc]
      exact hc (n + k) x (by rw [← hk, List.getElem?_drop])⟩

def poolF (g : List Int) (k : Nat) : Int := min (mx 0 (g.take (k + 1))) (mx 0 (g.drop k)) - g.getD k 0
def poolZ (g : List Int) (k : Int) : Int := if onB g k then poolF g k.toNat else -1
theorem poolF_b (g : List Int) (k : Nat) (hk : k < g.length) (h : ∀ x ∈ g, 0 ≤ x ∧ x ≤ 100) : -100 ≤ poolF g k ∧ poolF g k ≤ 100 := by
  have h1 := mx_b (g.take (k + 1)) 0 (by omega) (by omega) (fun x hx => h x (List.mem_of_mem_take hx))
  have h2 := mx_b (g.drop k) 0 (by omega) (by omega) (fun x hx => h x (List.mem_of_mem_drop hx))
  have h3 := h (g.getD k 0) (by simp [List.getD, hk])
  unfold poolF
  omega
theorem ret_int {k : IntKind} {a b : Int} (h : a = b) : Ending.returned (.int k a) = .returned (.int k b) := by rw [h]
theorem getD_of {g : List Int} {k : Nat} {x : Int} (h : g[k]? = some x) : g.getD k 0 = x := by simp [List.getD, h]

set_option maxHeartbeats 1000000 in
theorem iPoolAt_c (A : Option Addr) (c : Nat) (g : List Int) (k : Int) (w : World) (hr : RdI w w.heap.size A g) (hl : g.length ≤ 1048576) (hc : g.length ≤ c) (hc2 : c ≤ maxLen) :
    Calls Try.prog 18 #[.slice A g.length c, .int .i64 k] w fun e w' => e = .returned (.int .i64 (poolZ g k)) ∧ Below w.heap.size w w' := by
  unfold maxLen at hc2
  cases hon : onB g k
  · have hf : poolZ g k = -1 := by unfold poolZ; rw [hon]; rfl
    rw [hf]
    clear hf
    go_enter Try.func18, Try.ntmps18
    go_wp2_with fail
    refine (onGround_c _ _ _ _ _ hr hl).mono ?_
    rintro e w' ⟨rfl, rfl⟩
    go_wp2
    go_ret
    exact ⟨rfl, Below.refl _ _⟩
  · obtain ⟨h0, h1, h30, hb⟩ := onB_b g k hon
    obtain ⟨n, rfl⟩ := Int.eq_ofNat_of_zero_le h0
    have hn : n < g.length := by omega
    have hf : poolZ g n = poolF g n := by unfold poolZ; rw [hon]; rfl
    rw [hf]
    clear hf
    obtain ⟨b, off, x, rfl, hbb, hcx, hx, hd⟩ := hr.at_ hn
    have hbT : ∀ x ∈ g.take (n + 1), 0 ≤ x ∧ x ≤ 100 := fun x hx => hb x (List.mem_of_mem_take hx)
    have hbD : ∀ x ∈ g.drop n, 0 ≤ x ∧ x ≤ 100 := fun x hx => hb x (List.mem_of_mem_drop hx)
    have m1 := mx_b (g.take (n + 1)) 0 (by omega) (by omega) hbT
    have m2 := mx_b (g.drop n) 0 (by omega) (by omega) hbD
    have hfin := Lib.hid (show poolF g n = min (mx 0 (g.take (n + 1))) (mx 0 (g.drop n)) - x by unfold poolF; rw [getD_of hx.out])
    have hx100 := hb x (List.mem_of_getElem? hx.out)
    have hlT := Lib.hid (show (g.take (n + 1)).length = n + 1 by simp; omega)
    have hlD := Lib.hid (show (g.drop n).length = g.length - n by simp)
    have hbT' := Lib.hid hbT
    have hbD' := Lib.hid hbD
    have hb' := Lib.hid hb
    clear hbT hbD hb
    have hT := hr.take (n + 1)
    have hD := hr.dropAt n
    go_enter Try.func18, Try.ntmps18
    go_wp2_with fail
    refine (onGround_c _ _ _ _ _ hr hl).mono ?_
    rintro e w' ⟨rfl, rfl⟩
    go_wp2_with fail
    have e1 : IntKind.i64.wrap ((n : Int) + 1) = (n : Int) + 1 := IntWalk.i64_in _ (by omega)
    have e2 : ((n : Int) + 1).toNat = n + 1 := by omega
    have e3 : (0 : Int) ≤ (n : Int) + 1 := by omega
    have e4 : (n : Int) + 1 ≤ (c : Int) := by omega
    have e5 : IntKind.i64.wrap (min (mx 0 (g.take (n + 1))) (mx 0 (g.drop n)) - x) = min (mx 0 (g.take (n + 1))) (mx 0 (g.drop n)) - x := IntWalk.i64_in _ (by omega)
    have C1 : Hid (∀ m, Calls Try.prog 36 #[.slice (some ⟨b, off, none⟩) (n + 1) c] (w.drewN m) fun e w' => e = .returned (.int .i64 (mx 0 (g.take (n + 1)))) ∧ w.drewN m = w') :=
      fun m => Max_c _ _ _ (g.take (n + 1)) _ (hT.drewN m) (by rw [hlT.out]; omega) hlT.out (by omega) hbT'.out
    have C2 : Hid (∀ m, Calls Try.prog 36 #[.slice (some ⟨b, off + n, none⟩) (g.length - n) (c - n)] (w.drewN m) fun e w' => e = .returned (.int .i64 (mx 0 (g.drop n))) ∧ w.drewN m = w') :=
      fun m => Max_c _ _ _ (g.drop n) _ (hD.drewN m) (by rw [hlD.out]; omega) hlD.out (by omega) hbD'.out
    clear hT hD
    generalize mx 0 (g.take (n + 1)) = y1 at *
    generalize mx 0 (g.drop n) = y2 at *
    have e6 : n < c := by omega
    go_quiet ((go_at_call 36; (have h1 := C1.out); (have h2 := C2.out); (first | (with_reducible refine Calls.mono (h1 _) ?_) | (with_reducible refine Calls.mono (h2 _) ?_)); rintro e w' ⟨rfl, rfl⟩; exact ⟨rfl, _, rfl⟩))
    go_wp2
    all_goals
      go_ret
      exact ⟨by rw [hfin.out]; exact ret_int (by omega), below_drewN (Below.refl _ _) _⟩

set_option maxHeartbeats 1000000 in
theorem sPoolAt_c (A : Option Addr) (c : Nat) (g : List Int) (k : Int) (w : World) (hr : RdI w w.heap.size A g) (hl : g.length ≤ 1048576) :
    Calls Try.prog 17 #[.slice A g.length c, .int .i64 k] w fun e w' => e = .returned (.int .i64 (poolZ g k)) ∧ w = w' := by
  cases hg : groundB g
  · have hf : poolZ g k = -1 := by unfold poolZ onB; rw [hg]; rfl
    rw [hf]
    clear hf
    go_enter Try.func17, Try.ntmps17
    go_wp2_with fail
    refine (sGroundOk_c _ _ _ _ hr hl).mono ?_
    rintro e w' ⟨rfl, rfl⟩
    go_wp2
    go_ret
    exact ⟨rfl, rfl⟩
  · cases hin : inB k 0 (g.length - 1)
    · have hf : poolZ g k = -1 := by unfold poolZ onB; rw [hg, hin]; rfl
      rw [hf]
      clear hf
      go_enter Try.func17, Try.ntmps17
      go_wp2_with fail
      refine (sGroundOk_c _ _ _ _ hr hl).mono ?_
      rintro e w' ⟨rfl, rfl⟩
      go_wp2_with (go_at_call 32; refine (l01In_c _ _ _ _).mono ?_; rintro e w' ⟨rfl, rfl⟩)
      go_ret
      exact ⟨rfl, rfl⟩
    · have hon : onB g k = true := by unfold onB; rw [hg, hin]; rfl
      obtain ⟨h0, h1, h30, hb⟩ := onB_b g k hon
      obtain ⟨n, rfl⟩ := Int.eq_ofNat_of_zero_le h0
      have hn : n < g.length := by omega
      have hf : poolZ g n = poolF g n := by unfold poolZ; rw [hon]; rfl
      rw [hf]
      have hb' := Lib.hid hb
      have hlT := Lib.hid (show (g.take (n + 1)).length = n + 1 by simp; omega)
      clear hf hon hb
      go_enter Try.func17, Try.ntmps17
      go_wp2_with fail
      refine (sGroundOk_c _ _ _ _ hr hl).mono ?_
      rintro e w' ⟨rfl, rfl⟩
      go_wp2_with (go_at_call 32; refine (l01In_c _ _ _ _).mono ?_; rintro e w' ⟨rfl, rfl⟩)
      clear hg hin
      go_loop [5, 6] (fun m i => ∃ (j : Nat) (y : Int), j ≤ n + 1 ∧ i = .int .i64 j ∧ m = .int .i64 y ∧ 0 ≤ y ∧ y ≤ 100 ∧ Hid (mx 0 (g.take (n + 1)) = mx y ((g.take (n + 1)).drop j))) (fun _ i => n + 1 - (intOf i).toNat)
      case atStart => exact ⟨0, 0, Nat.zero_le _, rfl, rfl, by omega, by omega, rfl⟩
      case round =>
        obtain ⟨j, y, hj, rfl, rfl, y0, y1, hm⟩ := hrel
        by_cases hlt : j < n + 1
        · obtain ⟨b, off, x, rfl, hbb, hc, hx, hd⟩ := (hr.take (n + 1)).at_ (by rw [hlT.out]; exact hlt)
          have hx100 := hb'.out x (List.mem_of_mem_take (List.mem_of_getElem? hx.out))
          by_cases hyx : y < x
          · go_wp2
            go_round
            case rel => exact ⟨j + 1, x, by omega, by go_num, rfl, by omega, by omega, by rw [hm.out, hd.out]; show mx (max y x) _ = _; rw [Int.max_eq_right (by omega)]⟩
            case measure => simp [intOf]; omega
          · go_wp2
            go_round
            case rel => exact ⟨j + 1, y, by omega, by go_num, rfl, by omega, by omega, by rw [hm.out, hd.out]; show mx (max y x) _ = _; rw [Int.max_eq_left (by omega)]⟩
            case measure => simp [intOf]; omega
        · have hm' := Lib.hid (show mx 0 (g.take (n + 1)) = y by rw [hm.out, List.drop_of_length_le (by rw [hlT.out]; omega)]; rfl)
          clear hm
          go_wp2
          go_loop [7, 8] (fun m i => ∃ (j : Nat) (z : Int), n ≤ j ∧ j ≤ g.length ∧ i = .int .i64 j ∧ m = .int .i64 z ∧ 0 ≤ z ∧ z ≤ 100 ∧ Hid (mx 0 (g.drop n) = mx z (g.drop j))) (fun _ i => g.length - (intOf i).toNat)
          case atStart => exact ⟨n, 0, Nat.le_refl _, by omega, rfl, rfl, by omega, by omega, rfl⟩
          case round =>
            obtain ⟨i, z, hi0, hi, rfl, rfl, z0, z1, hz⟩ := hrel
            by_cases hlt2 : i < g.length
            · obtain ⟨b, off, x, rfl, hbb, hc, hx, hd⟩ := hr.at_ hlt2
              have hx100 := hb'.out x (List.mem_of_getElem? hx.out)
              by_cases hyx : z < x
              · go_wp2
                go_round
                case rel => exact ⟨i + 1, x, by omega, by omega, by go_num, rfl, by omega, by omega, by rw [hz.out, hd.out]; show mx (max z x) _ = _; rw [Int.max_eq_right (by omega)]⟩
                case measure => simp [intOf]; omega
              · go_wp2
                go_round
                case rel => exact ⟨i + 1, z, by omega, by omega, by go_num, rfl, by omega, by omega, by rw [hz.out, hd.out]; show mx (max z x) _ = _; rw [Int.max_eq_left (by omega)]⟩
                case measure => simp [intOf]; omega
            · have hz' := Lib.hid (show mx 0 (g.drop n) = z by rw [hz.out, drop_end g hi hlt2]; rfl)
              obtain ⟨b, off, x, rfl, hbb, hc, hx, hd⟩ := hr.at_ hn
              have hx100 := hb'.out x (List.mem_of_getElem? hx.out)
              by_cases hyz : z < y
              all_goals
                go_wp2
                go_ret
                exact ⟨by unfold poolF; rw [hm'.out, hz'.out, getD_of hx.out]; exact ret_int (by omega), rfl⟩
end Go.Proofs.Ytoongfjidenbnaa
