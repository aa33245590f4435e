/- FnVotes, plainly: all that its walk compares. -/
import Derived.Test.YtifljdnlaginfaaDrawR
import Derived.Test.YtifljdnlaginfaaKey
import Derived.Test.YtifljdnlaginfaaBoth
namespace Go.Proofs.Ytifljdnlaginfaa
open Go.ChangeShapes Go.WideShapes Go.ChangeAt Go.RowKit
set_option linter.unusedVariables false

theorem cnt_total : ∀ xs : List Int, (∀ x ∈ xs, x = -1 ∨ x = 0 ∨ x = 1) → cnt 1 xs + cnt 0 xs + cnt (-1) xs = xs.length
  | [], _ => rfl
  | x :: t, h => by
    have ih := cnt_total t (fun y hy => h y (List.mem_cons_of_mem _ hy))
    rw [cnt_cons, cnt_cons, cnt_cons, List.length_cons]
    rcases h x List.mem_cons_self with e | e | e <;> subst e <;> simp <;> omega
theorem vote_of {v : List Int} (hl : v.length ≤ 9) (h : ∀ y ∈ v, -1 ≤ y ∧ y ≤ 1) : voteB v = true := by
  unfold voteB
  rw [decide_eq_true (by omega), (allB_iff _ _ _).2 h]; rfl
theorem vote_facts {v : List Int} (h : voteB v = true) {q : Int} (q0 : 0 ≤ q) (q1 : q ≤ 11) : ∃ Y N M : Int, cntZ v 1 = Y ∧ cntZ v 0 = N ∧ cntZ v (-1) = M ∧ 0 ≤ Y ∧ 0 ≤ N ∧ 0 ≤ M ∧ Y + N + M = v.length ∧ passB v q = (decide (q ≤ Y + N) && decide (N < Y)) := by
  refine ⟨_, _, _, rfl, rfl, rfl, ?_, ?_, ?_, ?_, ?_⟩
  · rw [cnt_yes h]; omega
  · rw [cnt_yes h]; omega
  · rw [cnt_yes h]; omega
  · rw [cnt_yes h, cnt_yes h, cnt_yes h]
    have := cnt_total v (vote_b h).2
    omega
  · unfold passB
    rw [decide_eq_true (show 0 ≤ cntZ v 1 by rw [cnt_yes h]; omega), (inB_iff q 0 40).2 (by omega)]
    simp
theorem keyP_has (xs : List Int) (q : Int) (i : Nat) : ∀ n, (keyP xs q n).contains (i : Int) = (decide (i < n) && keyAt xs q i)
  | 0 => by simp [keyP]
  | n + 1 => by
    rw [keyP_succ]
    have ih := keyP_has xs q i n
    by_cases hi : i = n
    · subst hi
      cases hk : keyAt xs q i
      · rw [if_neg (by simp), List.append_nil, ih, hk]; simp
      · rw [if_pos rfl]
        simp
    · have e : decide (i < n + 1) = decide (i < n) := by
        by_cases h : i < n
        · rw [decide_eq_true h, decide_eq_true (by omega)]
        · rw [decide_eq_false h, decide_eq_false (by omega)]
      rw [e, ← ih]
      split
      · rw [List.contains_eq_any_beq, List.any_append, ← List.contains_eq_any_beq]
        have : ((i : Int) == (n : Int)) = false := beq_eq_false_iff_ne.2 (by omega)
        simp [this]
      · rw [List.append_nil]
theorem keyL_has {xs : List Int} {q : Int} (h : voteB xs = true) (q0 : 0 ≤ q) (q1 : q ≤ 11) {i : Nat} {x : Int} (hi : xs[i]? = some x) : (keyL xs q).contains (i : Int) = ((x != -1) && (passB (xs.set i (-1)) q != passB xs q)) := by
  have hl := (List.getElem?_eq_some_iff.1 hi).1
  rw [keyL_yes h ((inB_iff _ _ _).2 (by omega)), keyP_has, decide_eq_true hl, Bool.true_and]
  unfold keyAt
  rw [getDat hi]
  congr 1
  rcases (vote_b h).2 x (List.mem_of_getElem? hi) with e | e | e <;> subst e <;> decide
/-! ### Rights -/
theorem cnt_rep (v u : Int) : ∀ n, cnt v (List.replicate n u) = if u == v then n else 0
  | 0 => by simp [cnt]
  | n + 1 => by
    rw [List.replicate_succ, cnt_cons, cnt_rep v u n]
    split <;> omega
theorem vote_rep {n : Nat} {u : Int} (hn : n ≤ 12) (hu : -1 ≤ u ∧ u ≤ 1) : voteB (List.replicate n u) = true := by
  unfold voteB
  rw [decide_eq_true (by simp; omega), (allB_iff _ _ _).2 (fun x hx => by rw [List.eq_of_mem_replicate hx]; exact hu)]; rfl
theorem yesP_ones (t : Rf) : ∀ n, n ≤ t.length → yesP t (List.replicate t.length 1) n = t.take n
  | 0, _ => by simp [yesP]
  | n + 1, h => by
    rw [yesP_succ, yesP_ones t n (by omega), List.take_add_one]
    have e : (List.replicate t.length (1 : Int)).getD n 0 = 1 := by
      rw [List.getD_eq_getElem?_getD, List.getElem?_replicate, if_pos (by omega)]; rfl
    rw [e, if_pos (by decide), List.getD_eq_getElem?_getD, List.getElem?_eq_getElem (by omega)]
    rfl
theorem yesP_zeros (t : Rf) (m : Nat) : ∀ n, yesP t (List.replicate m 0) n = []
  | 0 => by simp [yesP]
  | n + 1 => by
    rw [yesP_succ, yesP_zeros t m n]
    have e : ((List.replicate m (0 : Int)).getD n 0 == 1) = false := by
      rw [List.getD_eq_getElem?_getD, List.getElem?_replicate]
      split <;> rfl
    rw [e]; rfl
theorem sum_one {t : Rf} (h : rightsB t = true) : sumR t = some (1, 1) := by
  unfold rightsB oneO at h
  simp only [Bool.and_eq_true] at h
  obtain ⟨_, h1, h2, h3⟩ := h
  obtain ⟨⟨p, q⟩, hp⟩ := Option.isSome_iff_exists.1 h1
  rw [hp] at h2 h3 ⊢
  have e2 : p = 1 := by simpa [oT] using h2
  have e3 : q = 1 := by simpa [oU] using h3
  rw [e2, e3]
theorem share_ones {t : Rf} (h : rightsB t = true) : shareO t (List.replicate t.length 1) = some (1, 1) := by
  have hl := (rights_b h).2
  rw [share_yes h (by simp) (vote_rep hl (by omega)), yesP_ones t t.length (Nat.le_refl _), List.take_length, sum_one h]
theorem share_zeros {t : Rf} (h : rightsB t = true) : shareO t (List.replicate t.length 0) = some (0, 1) := by
  have hl := (rights_b h).2
  rw [share_yes h (by simp) (vote_rep hl (by omega)), yesP_zeros]
  rfl
theorem share_less {t : Rf} (h : rightsB t = true) (u : Int) : shareO t (List.replicate (t.length - 1) u) = none := by
  have hl := (rights_b h).1
  exact share_no (.inr (.inl (by simp; omega)))
theorem both_ones {t : Rf} (h : rightsB t = true) : bothB t (List.replicate t.length 1) = true := by
  obtain ⟨h1, h12⟩ := rights_b h
  have hv := vote_rep (n := t.length) (u := 1) h12 (by omega)
  have hs := share_ones h
  have hp : passB (List.replicate t.length 1) (((List.replicate t.length (1 : Int)).length + 1) / 2) = true := by
    have e1 : cntZ (List.replicate t.length 1) 1 = (t.length : Int) := by rw [cnt_yes hv, cnt_rep]; simp
    have e0 : cntZ (List.replicate t.length 1) 0 = 0 := by rw [cnt_yes hv, cnt_rep]; simp
    unfold passB
    rw [e1, e0, List.length_replicate, decide_eq_true (show (0 : Int) ≤ (t.length : Int) by omega), (inB_iff _ _ _).2 (show 0 ≤ ((t.length : Int) + 1) / 2 ∧ ((t.length : Int) + 1) / 2 ≤ 40 by omega), decide_eq_true (show ((t.length : Int) + 1) / 2 ≤ (t.length : Int) + 0 by omega), decide_eq_true (show (0 : Int) < (t.length : Int) by omega)]
    rfl
  rw [both_some (by rw [hs]; rfl) hp, hs]
  decide +kernel
theorem both_zeros {t : Rf} (h : rightsB t = true) : bothB t (List.replicate t.length 0) = false := by
  obtain ⟨h1, h12⟩ := rights_b h
  have hv := vote_rep (n := t.length) (u := 0) h12 (by omega)
  refine both_fail ?_
  have e1 : cntZ (List.replicate t.length 0) 1 = 0 := by rw [cnt_yes hv, cnt_rep]; simp
  have e0 : cntZ (List.replicate t.length 0) 0 = (t.length : Int) := by rw [cnt_yes hv, cnt_rep]; simp
  unfold passB
  rw [e1, e0, decide_eq_false (show ¬ (t.length : Int) < 0 by omega), Bool.and_false]
def hasV (xs : List Int) (v : Int) : Bool := xs.contains v
theorem hasV_cons (x : Int) (xs : List Int) (v : Int) : hasV (x :: xs) v = (v == x || hasV xs v) := by unfold hasV; rw [List.contains_cons]
set_option maxHeartbeats 400000 in
theorem has_c (A : Option Addr) (c : Nat) (xs : List Int) (v : Int) (w : World) (hr : RdI w w.heap.size A xs) (hl : xs.length ≤ 1048576) :
    Calls Try.prog 30 #[.slice A xs.length c, .int .i64 v] w fun e w' => e = .returned (.bool (hasV xs v)) ∧ w = w' := by
  go_enter Try.func30, Try.ntmps30
  go_wp2
  go_loop [5] (fun i => ∃ k : Nat, k ≤ xs.length ∧ i = .int .i64 k ∧ Hid (hasV xs v = hasV (xs.drop k) v)) (fun i => xs.length - (intOf i).toNat)
  case atStart => exact ⟨0, Nat.zero_le _, rfl, rfl⟩
  case round =>
    obtain ⟨k, hk, rfl, hall⟩ := hrel
    by_cases hlt : k < xs.length
    · obtain ⟨b, off, x, rfl, hb, hc, hx, hd⟩ := hr.at_ hlt
      cases hin : x == v
      · go_wp2
        go_round
        case rel => exact ⟨k + 1, by omega, by go_num, by
          rw [hall.out, hd.out, hasV_cons, show (v == x) = false by rw [Bool.eq_false_iff] at hin ⊢; intro h; exact hin (by simpa using (by simpa using h : v = x).symm), Bool.false_or]; rfl⟩
        case measure => simp [intOf]; omega
      · go_wp2
        go_ret
        exact ⟨by
          rw [hall.out, hd.out, hasV_cons, show (v == x) = true by simpa using (by simpa using hin : x = v).symm, Bool.true_or]; rfl, rfl⟩
    · go_wp2
      go_ret
      exact ⟨by rw [hall.out, drop_end xs hk hlt]; rfl, rfl⟩
theorem OwnV.lt_ {w : World} {base e sz : Nat} {A : Option Addr} {n c : Nat} {cs : List Value} (h : OwnV w base e sz A n c cs) : ∀ g, A = some ⟨g, 0, none⟩ → g < w.heap.size := fun g e => by
  rcases h.form with ⟨e0, _⟩ | ⟨g0, e0, _, hl, _⟩
  · rw [e0] at e; cases e
  · rw [e0] at e; injection e with e; injection e with e; omega
theorem OwnV.row_of {w : World} {base e sz : Nat} {A : Option Addr} {n c : Nat} {cs : List Value} (h : OwnV w base e sz A n c cs) : ∀ k, (Value.slice A n c).ownBlock = some k → A = some ⟨k, 0, none⟩ := fun k hk => by
  rcases h.form with ⟨e0, _⟩ | ⟨g0, e0, _⟩
  · rw [e0] at hk; cases hk
  · rw [e0] at hk ⊢; simp only [Value.ownBlock] at hk; injection hk with hk; rw [hk]
theorem rep_snoc (k : Nat) (u : Int) : ints (List.replicate k u) ++ ints [u] = ints (List.replicate (k + 1) u) := by
  simp [ints, List.replicate_succ']
theorem share1_c (A A' : Option Addr) (c c' : Nat) (t : Rf) (w : World) (h : rightsB t = true) (hr : RdI w w.heap.size A (flat3 t)) (hv : RdI w w.heap.size A' (List.replicate t.length 1)) :
    Calls Try.prog 22 #[.slice A t.length c, .slice A' t.length c'] w fun e w' => e = .returned (.tuple #[.agg #[.int .i64 1, .int .i64 1], .bool true]) ∧ Below w.heap.size w w' := by
  have hl := (rights_b h).2
  have := iShare_c A A' c c' t _ w hr (by omega) hv (by simp; omega)
  rw [share_ones h, List.length_replicate] at this
  exact this
theorem share0_c (A A' : Option Addr) (c c' : Nat) (t : Rf) (w : World) (h : rightsB t = true) (hr : RdI w w.heap.size A (flat3 t)) (hv : RdI w w.heap.size A' (List.replicate t.length 0)) :
    Calls Try.prog 22 #[.slice A t.length c, .slice A' t.length c'] w fun e w' => e = .returned (.tuple #[.agg #[.int .i64 0, .int .i64 1], .bool true]) ∧ Below w.heap.size w w' := by
  have hl := (rights_b h).2
  have := iShare_c A A' c c' t _ w hr (by omega) hv (by simp; omega)
  rw [share_zeros h, List.length_replicate] at this
  exact this
theorem shareX_c (A A' : Option Addr) (c c' : Nat) (t : Rf) (w : World) (h : rightsB t = true) (hr : RdI w w.heap.size A (flat3 t)) (hv : RdI w w.heap.size A' (List.replicate (t.length - 1) 1)) :
    Calls Try.prog 22 #[.slice A t.length c, .slice A' (t.length - 1) c'] w fun e w' => e = .returned (.tuple #[.agg #[.int .i64 0, .int .i64 0], .bool false]) ∧ Below w.heap.size w w' := by
  have hl := (rights_b h).2
  have := iShare_c A A' c c' t _ w hr (by omega) hv (by simp; omega)
  rw [share_less h, List.length_replicate] at this
  exact this
theorem both1_c (A A' : Option Addr) (c c' : Nat) (t : Rf) (w : World) (h : rightsB t = true) (hr : RdI w w.heap.size A (flat3 t)) (hv : RdI w w.heap.size A' (List.replicate t.length 1)) :
    Calls Try.prog 26 #[.slice A t.length c, .slice A' t.length c'] w fun e w' => e = .returned (.bool true) ∧ Below w.heap.size w w' := by
  have hl := (rights_b h).2
  have := iBoth_c A A' c c' t _ w hr (by omega) hv (by simp; omega)
  rw [both_ones h, List.length_replicate] at this
  exact this
theorem both0_c (A A' : Option Addr) (c c' : Nat) (t : Rf) (w : World) (h : rightsB t = true) (hr : RdI w w.heap.size A (flat3 t)) (hv : RdI w w.heap.size A' (List.replicate t.length 0)) :
    Calls Try.prog 26 #[.slice A t.length c, .slice A' t.length c'] w fun e w' => e = .returned (.bool false) ∧ Below w.heap.size w w' := by
  have hl := (rights_b h).2
  have := iBoth_c A A' c c' t _ w hr (by omega) hv (by simp; omega)
  rw [both_zeros h, List.length_replicate] at this
  exact this
end Go.Proofs.Ytifljdnlaginfaa
