/- BestDam, both. -/
import Derived.Test.YtoongfjidenbnaaSum
import Derived.Test.YtoongfjidenbnaaOwn2
namespace Go.Proofs.Ytoongfjidenbnaa
open Go.ChangeShapes Go.WideShapes Go.ChangeAt Go.RowKit
set_option linter.unusedVariables false

theorem mx_ge : ∀ (t : List Int) (m : Int), m ≤ mx m t ∧ ∀ x ∈ t, x ≤ mx m t := by
  intro t
  induction t with
  | nil => intro m; exact ⟨Int.le_refl _, fun x hx => by cases hx⟩
  | cons y t ih =>
    intro m
    have h := ih (max m y)
    have e : mx m (y :: t) = mx (max m y) t := rfl
    rw [e]
    refine ⟨by omega, fun x hx => ?_⟩
    rcases List.mem_cons.1 hx with rfl | hx
    · omega
    · exact h.2 x hx
theorem getD_mem_take {g : List Int} {k : Nat} (hk : k < g.length) : g.getD k 0 ∈ g.take (k + 1) := by
  have e : g.getD k 0 = g[k] := by simp [List.getD, hk]
  rw [List.take_succ_eq_append_getElem hk, e]
  exact List.mem_append_right _ (List.mem_singleton_self _)
theorem getD_mem_drop {g : List Int} {k : Nat} (hk : k < g.length) : g.getD k 0 ∈ g.drop k := by
  have e : g.getD k 0 = g[k] := by simp [List.getD, hk]
  rw [List.drop_eq_getElem_cons hk, e]
  exact List.mem_cons_self
theorem poolF_nn (g : List Int) (k : Nat) (hk : k < g.length) : 0 ≤ poolF g k := by
  have h1 := (mx_ge (g.take (k + 1)) 0).2 _ (getD_mem_take hk)
  have h2 := (mx_ge (g.drop k) 0).2 _ (getD_mem_drop hk)
  unfold poolF
  omega
theorem sumP_nn (g : List Int) : ∀ k, k ≤ g.length → 0 ≤ sumP g k := by
  intro k
  induction k with
  | zero => intro _; exact Int.le_refl _
  | succ k ih =>
    intro hk
    have := ih (by omega)
    have hp := poolF_nn g k (by omega)
    have e : sumP g (k + 1) = sumP g k + poolF g k := rfl
    omega
def raise (g : List Int) (h : Int) (k : Nat) : List Int := g.set k (max (g.getD k 0) h)
theorem raise_ok {g : List Int} {h : Int} {k : Nat} (hg : groundB g = true) (hh : inB h 0 100 = true) (hk : k < g.length) : groundB (raise g h k) = true := by
  unfold groundB at hg ⊢
  unfold raise
  simp only [Bool.and_eq_true, inB_iff, allB_iff, List.length_set] at hg hh ⊢
  refine ⟨hg.1, fun x hx => ?_⟩
  rcases List.mem_or_eq_of_mem_set hx with h1 | h1
  · exact hg.2 x h1
  · have := hg.2 (g.getD k 0) (by simp [List.getD, hk])
    omega
def damV (g : List Int) (h : Int) (k : Nat) : Int := poolSumZ (raise g h k)
theorem damV_b {g : List Int} {h : Int} {k : Nat} (hg : groundB g = true) (hh : inB h 0 100 = true) (hk : k < g.length) : 0 ≤ damV g h k ∧ damV g h k ≤ 3000 := by
  have ho := raise_ok hg hh hk
  have h30 := groundB_b _ ho
  have e : damV g h k = sumP (raise g h k) (raise g h k).length := by unfold damV poolSumZ; rw [ho]; rfl
  rw [e]
  have h1 := sumP_nn (raise g h k) _ (Nat.le_refl _)
  have h2 := sumP_b (raise g h k) h30.2 _ (Nat.le_refl _)
  have h3 := h30.1
  omega
def damStep (g : List Int) (h : Int) (k : Nat) (s : Int × Int) : Int × Int := if s.2 < damV g h k then ((k : Int), damV g h k) else s
def damK (g : List Int) (h : Int) : Nat → Int × Int
  | 0 => (-1, -1)
  | k + 1 => damStep g h k (damK g h k)
theorem damK_succ (g : List Int) (h : Int) (k : Nat) : damK g h (k + 1) = damStep g h k (damK g h k) := rfl
theorem damK_b {g : List Int} {h : Int} (hg : groundB g = true) (hh : inB h 0 100 = true) : ∀ k, k ≤ g.length → (-1 ≤ (damK g h k).1 ∧ (damK g h k).1 < k) ∧ (-1 ≤ (damK g h k).2 ∧ (damK g h k).2 ≤ 3000) ∧ (0 < k → 0 ≤ (damK g h k).1) ∧ (∀ j, j < k → damV g h j ≤ (damK g h k).2) ∧ (0 ≤ (damK g h k).1 → damV g h (damK g h k).1.toNat = (damK g h k).2) := by
  intro k
  induction k with
  | zero => intro _; exact ⟨show -1 ≤ (-1 : Int) ∧ (-1 : Int) < ((0 : Nat) : Int) by omega, show -1 ≤ (-1 : Int) ∧ (-1 : Int) ≤ 3000 by omega, fun h => absurd h (by omega), fun j hj => absurd hj (by omega), fun h => absurd (show (0 : Int) ≤ -1 from h) (by omega)⟩
  | succ k ih =>
    intro hk
    obtain ⟨⟨a1, a2⟩, ⟨b1, b2⟩, c1, d1, e1⟩ := ih (by omega)
    obtain ⟨v0, v1⟩ := damV_b hg hh (show k < g.length by omega)
    have hz : k = 0 → damK g h k = (-1, -1) := fun e => by subst e; rfl
    rw [damK_succ]
    unfold damStep
    generalize damK g h k = s at *
    by_cases hs : s.2 < damV g h k
    · rw [if_pos hs]
      refine ⟨⟨by simp only; omega, by simp only; omega⟩, ⟨by simp only; omega, v1⟩, fun _ => by simp only; omega, fun j hj => ?_, fun _ => by simp⟩
      by_cases hjk : j = k
      · subst hjk; exact Int.le_refl _
      · have := d1 j (by omega); simp only; omega
    · rw [if_neg hs]
      refine ⟨⟨a1, by omega⟩, ⟨b1, b2⟩, fun _ => ?_, fun j hj => ?_, e1⟩
      · by_cases h0 : k = 0
        · subst h0
          by_cases hn : 0 ≤ s.1
          · exact hn
          · exfalso
            rw [hz rfl] at hs; simp only at hs; omega
        · exact c1 (by omega)
      · by_cases hjk : j = k
        · subst hjk; omega
        · exact d1 j (by omega)
def damZ (g : List Int) (h : Int) : Int := if groundB g && inB h 0 100 then (damK g h g.length).1 else -1
theorem damZ_no {g : List Int} {h : Int} (hn : groundB g = false ∨ inB h 0 100 = false) : damZ g h = -1 := by
  unfold damZ
  rcases hn with e | e <;> simp [e]
theorem damZ_yes {g : List Int} {h : Int} (hg : groundB g = true) (hh : inB h 0 100 = true) : damZ g h = (damK g h g.length).1 := by
  unfold damZ
  simp [hg, hh]
theorem dam_hit {g : List Int} {h b m : Int} {k : Nat} (hs : damK g h k = (b, m)) (hlt : m < damV g h k) : damK g h (k + 1) = ((k : Int), damV g h k) := by
  rw [damK_succ, hs]; unfold damStep; rw [if_pos hlt]
theorem dam_miss {g : List Int} {h b m : Int} {k : Nat} (hs : damK g h k = (b, m)) (hlt : ¬ m < damV g h k) : damK g h (k + 1) = (b, m) := by
  rw [damK_succ, hs]; unfold damStep; rw [if_neg hlt]
theorem iPoolSum_set (A : Option Addr) (c : Nat) (g : List Int) (k : Nat) (v d : Int) (w : World) (hr : RdI w w.heap.size A (g.set k v)) (hl : g.length ≤ 1048576) (hc : g.length ≤ c) (hc2 : c ≤ maxLen) (hd : poolSumZ (g.set k v) = d) :
    Calls Try.prog 24 #[.slice A g.length c] w fun e w' => e = .returned (.int .i64 d) ∧ Below w.heap.size w w' := by
  have h := iPoolSum_c A c (g.set k v) w hr (by rw [List.length_set]; exact hl) (by rw [List.length_set]; exact hc) hc2
  rw [List.length_set, hd] at h
  exact h
theorem sPoolSum_set (A : Option Addr) (c : Nat) (g : List Int) (k : Nat) (v d : Int) (w : World) (hr : RdI w w.heap.size A (g.set k v)) (hl : g.length ≤ 1048576) (hd : poolSumZ (g.set k v) = d) :
    Calls Try.prog 23 #[.slice A g.length c] w fun e w' => e = .returned (.int .i64 d) ∧ w = w' := by
  have h := sPoolSum_c A c (g.set k v) w hr (by rw [List.length_set]; exact hl)
  rw [List.length_set, hd] at h
  exact h

set_option maxHeartbeats 2000000 in
theorem iDam_c (A : Option Addr) (c : Nat) (g : List Int) (h : Int) (w : World) (hr : RdI w w.heap.size A g) (hl : g.length ≤ 1048576) :
    Calls Try.prog 28 #[.slice A g.length c, .int .i64 h] w fun e w' => e = .returned (.int .i64 (damZ g h)) ∧ Below w.heap.size w w' := by
  cases hg : groundB g
  · rw [damZ_no (.inl hg)]
    go_enter Try.func28, Try.ntmps28
    go_wp2_with fail
    refine (iGroundOk_c _ _ _ _ hr hl).mono ?_
    rintro e w' ⟨rfl, rfl⟩
    go_wp2
    go_ret
    exact ⟨rfl, Below.refl _ _⟩
  · cases hin : inB h 0 100
    · rw [damZ_no (.inr hin)]
      go_enter Try.func28, Try.ntmps28
      go_wp2_with fail
      refine (iGroundOk_c _ _ _ _ hr hl).mono ?_
      rintro e w' ⟨rfl, rfl⟩
      go_wp2_with (go_at_call 33; refine (within_c _ _ _ _).mono ?_; rintro e w' ⟨rfl, rfl⟩)
      go_ret
      exact ⟨rfl, Below.refl _ _⟩
    · rw [damZ_yes hg hin]
      obtain ⟨h30, hb⟩ := groundB_b g hg
      have hb' := Lib.hid hb
      have hg' := Lib.hid hg
      have hin' := Lib.hid hin
      clear hb
      go_enter Try.func28, Try.ntmps28
      go_wp2_with fail
      refine (iGroundOk_c _ _ _ _ hr hl).mono ?_
      rintro e w' ⟨rfl, rfl⟩
      go_wp2_with (go_at_call 33; refine (within_c _ _ _ _).mono ?_; rintro e w' ⟨rfl, rfl⟩)
      clear hg hin
      go_loopw [5, 6, 20] (fun bs ms i wr => ∃ (k : Nat) (b m : Int), k ≤ g.length ∧ i = .int .i64 k ∧ bs = .int .i64 b ∧ ms = .int .i64 m ∧ Hid (damK g h k = (b, m)) ∧ -1 ≤ m ∧ m ≤ 3000 ∧ Below w.heap.size w wr) (fun _ _ i _ => g.length - (intOf i).toNat)
      case atStart => exact ⟨0, -1, -1, Nat.zero_le _, rfl, rfl, rfl, rfl, by omega, by omega, Below.refl _ _⟩
      case round =>
        obtain ⟨k, b, m, hk, rfl, rfl, rfl, hs, m0, m1, H⟩ := hrel
        by_cases hlt : k < g.length
        · obtain ⟨bb, off, x, -, -, -, hx, -⟩ := hr.at_ hlt
          obtain ⟨d0, d1⟩ := damV_b hg'.out hin'.out hlt
          have hx100 := hb'.out x (List.mem_of_getElem? hx.out)
          obtain ⟨h0, h1⟩ := (inB_iff _ _ _).1 hin'.out
          obtain ⟨d, hde⟩ : ∃ d, damV g h k = d := ⟨_, rfl⟩
          rw [hde] at d0 d1
          have hdv := Lib.hid hde
          clear hde
          by_cases hxh : x < h
          · have hd := Lib.hid (show poolSumZ (g.set k (h)) = d by rw [← hdv.out]; unfold damV raise; rw [getDat hx.out]; congr 2; omega)
            go_wp2_with fail
            refine (copyInts_c _ _ g _ (hr.at_world H) hl).mono ?_
            rintro e w2 ⟨A2, c2, rfl, hX, b⟩
            have hsz := H.size
            replace H := chain H b (Nat.le_refl _)
            clear b
            obtain ⟨g2, rfl, hg2, hg2l, hc2, hm2⟩ := hX.some_ hlt
            have hcell := hX.cellI hx.out
            have hfr := hX.frz k
            have hX' := hX.stored k (h)
            replace H := H.setCell (p := ⟨g2, k, none⟩) (show w.heap.size ≤ g2 by omega) (.int .i64 (h))
            clear hX
            go_wp2_with fail
            refine (iPoolSum_set _ _ g k (h) d _ hX'.rd hl hc2 hm2 hd.out).mono ?_
            rintro e w3 ⟨rfl, b⟩
            replace H := chain H b (Nat.le_refl _)
            clear b hX'
            by_cases hmd : m < d
            · have hst := Lib.hid (show damK g h (k + 1) = ((k : Int), d) by rw [← hdv.out]; exact dam_hit hs.out (by rw [hdv.out]; exact hmd))
              go_wp2
              go_roundw
              case rel => exact ⟨k + 1, k, d, by omega, by go_num, rfl, rfl, hst.out, by omega, by omega, H⟩
              case measure => simp [intOf]; omega
            · have hst := Lib.hid (show damK g h (k + 1) = (b, m) from dam_miss hs.out (by rw [hdv.out]; exact hmd))
              have hmd2 : decide (m < d) = false := decide_eq_false hmd
              go_wp2
              go_roundw
              case rel => exact ⟨k + 1, b, m, by omega, by go_num, rfl, rfl, hst.out, m0, m1, H⟩
              case measure => simp [intOf]; omega
          · have hxh2 : decide (x < h) = false := decide_eq_false hxh
            have hd := Lib.hid (show poolSumZ (g.set k (x)) = d by rw [← hdv.out]; unfold damV raise; rw [getDat hx.out]; congr 2; omega)
            go_wp2_with fail
            refine (copyInts_c _ _ g _ (hr.at_world H) hl).mono ?_
            rintro e w2 ⟨A2, c2, rfl, hX, b⟩
            have hsz := H.size
            replace H := chain H b (Nat.le_refl _)
            clear b
            obtain ⟨g2, rfl, hg2, hg2l, hc2, hm2⟩ := hX.some_ hlt
            have hcell := hX.cellI hx.out
            have hfr := hX.frz k
            have hX' := hX.stored k (x)
            replace H := H.setCell (p := ⟨g2, k, none⟩) (show w.heap.size ≤ g2 by omega) (.int .i64 (x))
            clear hX
            go_wp2_with fail
            refine (iPoolSum_set _ _ g k (x) d _ hX'.rd hl hc2 hm2 hd.out).mono ?_
            rintro e w3 ⟨rfl, b⟩
            replace H := chain H b (Nat.le_refl _)
            clear b hX'
            by_cases hmd : m < d
            · have hst := Lib.hid (show damK g h (k + 1) = ((k : Int), d) by rw [← hdv.out]; exact dam_hit hs.out (by rw [hdv.out]; exact hmd))
              go_wp2
              go_roundw
              case rel => exact ⟨k + 1, k, d, by omega, by go_num, rfl, rfl, hst.out, by omega, by omega, H⟩
              case measure => simp [intOf]; omega
            · have hst := Lib.hid (show damK g h (k + 1) = (b, m) from dam_miss hs.out (by rw [hdv.out]; exact hmd))
              have hmd2 : decide (m < d) = false := decide_eq_false hmd
              go_wp2
              go_roundw
              case rel => exact ⟨k + 1, b, m, by omega, by go_num, rfl, rfl, hst.out, m0, m1, H⟩
              case measure => simp [intOf]; omega
        · obtain rfl : k = g.length := by omega
          go_wp2
          go_ret
          exact ⟨by rw [hs.out]; rfl, H⟩

set_option maxHeartbeats 2000000 in
theorem sDam_c (A : Option Addr) (c : Nat) (g : List Int) (h : Int) (w : World) (hr : RdI w w.heap.size A g) (hl : g.length ≤ 1048576) :
    Calls Try.prog 27 #[.slice A g.length c, .int .i64 h] w fun e w' => e = .returned (.int .i64 (damZ g h)) ∧ Below w.heap.size w w' := by
  cases hg : groundB g
  · rw [damZ_no (.inl hg)]
    go_enter Try.func27, Try.ntmps27
    go_wp2_with fail
    refine (sGroundOk_c _ _ _ _ hr hl).mono ?_
    rintro e w' ⟨rfl, rfl⟩
    go_wp2
    go_ret
    exact ⟨rfl, Below.refl _ _⟩
  · cases hin : inB h 0 100
    · rw [damZ_no (.inr hin)]
      go_enter Try.func27, Try.ntmps27
      go_wp2_with fail
      refine (sGroundOk_c _ _ _ _ hr hl).mono ?_
      rintro e w' ⟨rfl, rfl⟩
      go_wp2_with (go_at_call 32; refine (l01In_c _ _ _ _).mono ?_; rintro e w' ⟨rfl, rfl⟩)
      go_ret
      exact ⟨rfl, Below.refl _ _⟩
    · rw [damZ_yes hg hin]
      obtain ⟨h30, hb⟩ := groundB_b g hg
      have hg0 : 0 < g.length := by unfold groundB at hg; simp only [Bool.and_eq_true, inB_iff] at hg; omega
      have hb' := Lib.hid hb
      have hg' := Lib.hid hg
      have hin' := Lib.hid hin
      clear hb
      go_enter Try.func27, Try.ntmps27
      go_wp2_with fail
      refine (sGroundOk_c _ _ _ _ hr hl).mono ?_
      rintro e w' ⟨rfl, rfl⟩
      go_wp2_with (go_at_call 32; refine (l01In_c _ _ _ _).mono ?_; rintro e w' ⟨rfl, rfl⟩)
      clear hg hin
      go_loopw [5, 6, 7] (fun bs ms i wr => ∃ (k : Nat) (b m : Int), k ≤ g.length ∧ i = .int .i64 k ∧ bs = .int .i64 b ∧ ms = .int .i64 m ∧ Hid (k = 0 → b = -1 ∧ m = 0) ∧ Hid (k ≠ 0 → damK g h k = (b, m)) ∧ -1 ≤ m ∧ m ≤ 3000 ∧ Below w.heap.size w wr) (fun _ _ i _ => g.length - (intOf i).toNat)
      case atStart => exact ⟨0, -1, 0, Nat.zero_le _, rfl, rfl, rfl, fun _ => ⟨rfl, rfl⟩, fun e => absurd rfl e, by omega, by omega, Below.refl _ _⟩
      case round =>
        obtain ⟨k, b, m, hk, rfl, rfl, rfl, h0s, h1s, m0, m1, H⟩ := hrel
        by_cases hlt : k < g.length
        · obtain ⟨bb, off, x, -, -, -, hx, -⟩ := hr.at_ hlt
          obtain ⟨d0, d1⟩ := damV_b hg'.out hin'.out hlt
          have hx100 := hb'.out x (List.mem_of_getElem? hx.out)
          obtain ⟨h0, h1⟩ := (inB_iff _ _ _).1 hin'.out
          obtain ⟨d, hde⟩ : ∃ d, damV g h k = d := ⟨_, rfl⟩
          rw [hde] at d0 d1
          have hdv := Lib.hid hde
          clear hde
          by_cases hxh : x < h
          · have hd := Lib.hid (show poolSumZ (g.set k (h)) = d by rw [← hdv.out]; unfold damV raise; rw [getDat hx.out]; congr 2; omega)
            by_cases hk0 : k = 0
            · obtain ⟨rfl, rfl⟩ := h0s.out hk0
              have hst := Lib.hid (show damK g h (k + 1) = ((k : Int), d) by rw [← hdv.out]; exact dam_hit (b := -1) (m := -1) (by rw [hk0]; rfl) (by rw [hdv.out]; omega))
              clear hk0
              have hE2 := OwnI.empty wr
              have hsz := H.size
              have hra := (hr.at_world H).alloc (Nat.le_refl _) (.cells #[] 3)
              go_wp2_with (first | (at_builtin; refine wpList_append_rd _ rfl (.tmp 24) (.tmp 25) rfl wr.heap.size (some ⟨wr.heap.size, 0, none⟩) 0 0 [] rfl rfl hE2 wr.heap.size A g.length c g rfl rfl hra (by simp; omega) (by simp) ?_; intro A2 c2 w2 hX hgr hat; (simp only [List.nil_append] at hX); (have H2 : Below w.heap.size w w2 := (H.alloc H.size _).grown hgr (by simp; omega) (fun k' hk' => by simp only [Value.ownBlock] at hk'; injection hk' with hk'; omega)); (obtain ⟨g2, rfl, hg2, hg2l, hc2, hm2⟩ := hX.some_ hlt); (have hcell := hX.cellI hx.out); (have hfr := hX.frz k); (have hX' := hX.stored k (h)); (have H3 := Lib.hid (H2.setCell (p := ⟨g2, k, none⟩) (show w.heap.size ≤ g2 by omega) (.int .i64 (h)))); clear hX hgr hat H2) | fail)
              refine (sPoolSum_set _ _ g k (h) d _ hX'.rd hl hd.out).mono ?_
              rintro e w' ⟨rfl, rfl⟩
              clear hX' hE2 hra H
              have H := H3.out
              go_wp2
              go_roundw
              case rel => exact ⟨k + 1, k, d, by omega, by go_num, rfl, rfl, fun e => by omega, fun _ => hst.out, by omega, by omega, H⟩
              case measure => simp [intOf]; omega
            · have hs := Lib.hid (h1s.out hk0)
              obtain ⟨-, -, q0, -, -⟩ := damK_b hg'.out hin'.out k (by omega)
              have hb0 : 0 ≤ b := by have := q0 (by omega); rw [hs.out] at this; exact this
              have hbd : decide (b < 0) = false := decide_eq_false (by omega)
              clear hk0 q0
              by_cases hmd : m < d
              · have hst := Lib.hid (show damK g h (k + 1) = ((k : Int), d) by rw [← hdv.out]; exact dam_hit hs.out (by rw [hdv.out]; exact hmd))
                have hE2 := OwnI.empty wr
                have hsz := H.size
                have hra := (hr.at_world H).alloc (Nat.le_refl _) (.cells #[] 3)
                go_wp2_with (first | (at_builtin; refine wpList_append_rd _ rfl (.tmp 24) (.tmp 25) rfl wr.heap.size (some ⟨wr.heap.size, 0, none⟩) 0 0 [] rfl rfl hE2 wr.heap.size A g.length c g rfl rfl hra (by simp; omega) (by simp) ?_; intro A2 c2 w2 hX hgr hat; (simp only [List.nil_append] at hX); (have H2 : Below w.heap.size w w2 := (H.alloc H.size _).grown hgr (by simp; omega) (fun k' hk' => by simp only [Value.ownBlock] at hk'; injection hk' with hk'; omega)); (obtain ⟨g2, rfl, hg2, hg2l, hc2, hm2⟩ := hX.some_ hlt); (have hcell := hX.cellI hx.out); (have hfr := hX.frz k); (have hX' := hX.stored k (h)); (have H3 := Lib.hid (H2.setCell (p := ⟨g2, k, none⟩) (show w.heap.size ≤ g2 by omega) (.int .i64 (h)))); clear hX hgr hat H2) | fail)
                refine (sPoolSum_set _ _ g k (h) d _ hX'.rd hl hd.out).mono ?_
                rintro e w' ⟨rfl, rfl⟩
                clear hX' hE2 hra H
                have H := H3.out
                go_wp2
                go_roundw
                case rel => exact ⟨k + 1, k, d, by omega, by go_num, rfl, rfl, fun e => by omega, fun _ => hst.out, by omega, by omega, H⟩
                case measure => simp [intOf]; omega
              · have hst := Lib.hid (show damK g h (k + 1) = (b, m) from dam_miss hs.out (by rw [hdv.out]; exact hmd))
                have hmd2 : decide (m < d) = false := decide_eq_false hmd
                have hE2 := OwnI.empty wr
                have hsz := H.size
                have hra := (hr.at_world H).alloc (Nat.le_refl _) (.cells #[] 3)
                go_wp2_with (first | (at_builtin; refine wpList_append_rd _ rfl (.tmp 24) (.tmp 25) rfl wr.heap.size (some ⟨wr.heap.size, 0, none⟩) 0 0 [] rfl rfl hE2 wr.heap.size A g.length c g rfl rfl hra (by simp; omega) (by simp) ?_; intro A2 c2 w2 hX hgr hat; (simp only [List.nil_append] at hX); (have H2 : Below w.heap.size w w2 := (H.alloc H.size _).grown hgr (by simp; omega) (fun k' hk' => by simp only [Value.ownBlock] at hk'; injection hk' with hk'; omega)); (obtain ⟨g2, rfl, hg2, hg2l, hc2, hm2⟩ := hX.some_ hlt); (have hcell := hX.cellI hx.out); (have hfr := hX.frz k); (have hX' := hX.stored k (h)); (have H3 := Lib.hid (H2.setCell (p := ⟨g2, k, none⟩) (show w.heap.size ≤ g2 by omega) (.int .i64 (h)))); clear hX hgr hat H2) | fail)
                refine (sPoolSum_set _ _ g k (h) d _ hX'.rd hl hd.out).mono ?_
                rintro e w' ⟨rfl, rfl⟩
                clear hX' hE2 hra H
                have H := H3.out
                go_wp2
                go_roundw
                case rel => exact ⟨k + 1, b, m, by omega, by go_num, rfl, rfl, fun e => by omega, fun _ => hst.out, m0, m1, H⟩
                case measure => simp [intOf]; omega
          · have hxh2 : decide (x < h) = false := decide_eq_false hxh
            have hd := Lib.hid (show poolSumZ (g.set k (x)) = d by rw [← hdv.out]; unfold damV raise; rw [getDat hx.out]; congr 2; omega)
            by_cases hk0 : k = 0
            · obtain ⟨rfl, rfl⟩ := h0s.out hk0
              have hst := Lib.hid (show damK g h (k + 1) = ((k : Int), d) by rw [← hdv.out]; exact dam_hit (b := -1) (m := -1) (by rw [hk0]; rfl) (by rw [hdv.out]; omega))
              clear hk0
              have hE2 := OwnI.empty wr
              have hsz := H.size
              have hra := (hr.at_world H).alloc (Nat.le_refl _) (.cells #[] 3)
              go_wp2_with (first | (at_builtin; refine wpList_append_rd _ rfl (.tmp 24) (.tmp 25) rfl wr.heap.size (some ⟨wr.heap.size, 0, none⟩) 0 0 [] rfl rfl hE2 wr.heap.size A g.length c g rfl rfl hra (by simp; omega) (by simp) ?_; intro A2 c2 w2 hX hgr hat; (simp only [List.nil_append] at hX); (have H2 : Below w.heap.size w w2 := (H.alloc H.size _).grown hgr (by simp; omega) (fun k' hk' => by simp only [Value.ownBlock] at hk'; injection hk' with hk'; omega)); (obtain ⟨g2, rfl, hg2, hg2l, hc2, hm2⟩ := hX.some_ hlt); (have hcell := hX.cellI hx.out); (have hfr := hX.frz k); (have hX' := hX.stored k (x)); (have H3 := Lib.hid (H2.setCell (p := ⟨g2, k, none⟩) (show w.heap.size ≤ g2 by omega) (.int .i64 (x)))); clear hX hgr hat H2) | fail)
              refine (sPoolSum_set _ _ g k (x) d _ hX'.rd hl hd.out).mono ?_
              rintro e w' ⟨rfl, rfl⟩
              clear hX' hE2 hra H
              have H := H3.out
              go_wp2
              go_roundw
              case rel => exact ⟨k + 1, k, d, by omega, by go_num, rfl, rfl, fun e => by omega, fun _ => hst.out, by omega, by omega, H⟩
              case measure => simp [intOf]; omega
            · have hs := Lib.hid (h1s.out hk0)
              obtain ⟨-, -, q0, -, -⟩ := damK_b hg'.out hin'.out k (by omega)
              have hb0 : 0 ≤ b := by have := q0 (by omega); rw [hs.out] at this; exact this
              have hbd : decide (b < 0) = false := decide_eq_false (by omega)
              clear hk0 q0
              by_cases hmd : m < d
              · have hst := Lib.hid (show damK g h (k + 1) = ((k : Int), d) by rw [← hdv.out]; exact dam_hit hs.out (by rw [hdv.out]; exact hmd))
                have hE2 := OwnI.empty wr
                have hsz := H.size
                have hra := (hr.at_world H).alloc (Nat.le_refl _) (.cells #[] 3)
                go_wp2_with (first | (at_builtin; refine wpList_append_rd _ rfl (.tmp 24) (.tmp 25) rfl wr.heap.size (some ⟨wr.heap.size, 0, none⟩) 0 0 [] rfl rfl hE2 wr.heap.size A g.length c g rfl rfl hra (by simp; omega) (by simp) ?_; intro A2 c2 w2 hX hgr hat; (simp only [List.nil_append] at hX); (have H2 : Below w.heap.size w w2 := (H.alloc H.size _).grown hgr (by simp; omega) (fun k' hk' => by simp only [Value.ownBlock] at hk'; injection hk' with hk'; omega)); (obtain ⟨g2, rfl, hg2, hg2l, hc2, hm2⟩ := hX.some_ hlt); (have hcell := hX.cellI hx.out); (have hfr := hX.frz k); (have hX' := hX.stored k (x)); (have H3 := Lib.hid (H2.setCell (p := ⟨g2, k, none⟩) (show w.heap.size ≤ g2 by omega) (.int .i64 (x)))); clear hX hgr hat H2) | fail)
                refine (sPoolSum_set _ _ g k (x) d _ hX'.rd hl hd.out).mono ?_
                rintro e w' ⟨rfl, rfl⟩
                clear hX' hE2 hra H
                have H := H3.out
                go_wp2
                go_roundw
                case rel => exact ⟨k + 1, k, d, by omega, by go_num, rfl, rfl, fun e => by omega, fun _ => hst.out, by omega, by omega, H⟩
                case measure => simp [intOf]; omega
              · have hst := Lib.hid (show damK g h (k + 1) = (b, m) from dam_miss hs.out (by rw [hdv.out]; exact hmd))
                have hmd2 : decide (m < d) = false := decide_eq_false hmd
                have hE2 := OwnI.empty wr
                have hsz := H.size
                have hra := (hr.at_world H).alloc (Nat.le_refl _) (.cells #[] 3)
                go_wp2_with (first | (at_builtin; refine wpList_append_rd _ rfl (.tmp 24) (.tmp 25) rfl wr.heap.size (some ⟨wr.heap.size, 0, none⟩) 0 0 [] rfl rfl hE2 wr.heap.size A g.length c g rfl rfl hra (by simp; omega) (by simp) ?_; intro A2 c2 w2 hX hgr hat; (simp only [List.nil_append] at hX); (have H2 : Below w.heap.size w w2 := (H.alloc H.size _).grown hgr (by simp; omega) (fun k' hk' => by simp only [Value.ownBlock] at hk'; injection hk' with hk'; omega)); (obtain ⟨g2, rfl, hg2, hg2l, hc2, hm2⟩ := hX.some_ hlt); (have hcell := hX.cellI hx.out); (have hfr := hX.frz k); (have hX' := hX.stored k (x)); (have H3 := Lib.hid (H2.setCell (p := ⟨g2, k, none⟩) (show w.heap.size ≤ g2 by omega) (.int .i64 (x)))); clear hX hgr hat H2) | fail)
                refine (sPoolSum_set _ _ g k (x) d _ hX'.rd hl hd.out).mono ?_
                rintro e w' ⟨rfl, rfl⟩
                clear hX' hE2 hra H
                have H := H3.out
                go_wp2
                go_roundw
                case rel => exact ⟨k + 1, b, m, by omega, by go_num, rfl, rfl, fun e => by omega, fun _ => hst.out, m0, m1, H⟩
                case measure => simp [intOf]; omega
        · obtain rfl : k = g.length := by omega
          go_wp2
          go_ret
          exact ⟨by rw [h1s.out (by omega)]; rfl, H⟩
end Go.Proofs.Ytoongfjidenbnaa
