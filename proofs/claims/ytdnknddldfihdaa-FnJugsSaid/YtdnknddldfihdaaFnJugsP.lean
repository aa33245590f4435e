/- FnJugs, plainly: the way is a chain, what is measured is a multiple, and the small functions of the laws. -/
import Derived.Test.YtdnknddldfihdaaDrawJ
import Derived.Test.YtdnknddldfihdaaFor
namespace Go.Proofs.Ytdnknddldfihdaa
open Go.ChangeShapes Go.WideShapes Go.ChangeAt Go.RowKit
set_option linter.unusedVariables false

/-! ### The way -/
def atS (P : Sts) (j : Nat) : List Int := P.1.getD j []
theorem atS_of {P : Sts} {j : Nat} {x : List Int} (h : P.1[j]? = some x) : atS P j = x := by
  unfold atS; rw [List.getD_eq_getElem?_getD, h]; rfl
theorem atS_some {P : Sts} {j : Nat} (h : j < P.1.length) : P.1[j]? = some (atS P j) := by
  unfold atS; rw [List.getD_eq_getElem?_getD, List.getElem?_eq_getElem h]; rfl
/-- The numbers of the way's states: rising, each a step from the one before it. -/
structure Way (J : List Int) (P : Sts) (i : Nat) (idx : List Nat) : Prop where
  path : pathL P (i : Int) = idx.map (atS P)
  pos : 0 < idx.length
  last : idx[idx.length - 1]? = some i
  lt : ∀ m j : Nat, idx[m]? = some j → m + 1 < idx.length → j < i
  ins : ∀ m j : Nat, idx[m]? = some j → j ≤ i
  step : ∀ m a b : Nat, idx[m]? = some a → idx[m + 1]? = some b → atS P b ∈ stepsL J (atS P a)
  one : i = 0 → idx.length = 1
theorem way_of {J : List Int} {k : Nat} {P : Sts} (h : BOk J k P) : ∀ (n i : Nat), i ≤ n → i < P.1.length → ∃ idx, Way J P i idx := by
  intro n
  induction n with
  | zero =>
    intro i hi hl
    obtain rfl : i = 0 := by omega
    refine ⟨[0], ⟨?_, by simp, rfl, ?_, ?_, ?_, fun _ => rfl⟩⟩
    · rw [path_step h 0, List.getD_eq_getElem?_getD, h.f0]
      show pathL P (-1) ++ _ = _
      rw [path_neg]; rfl
    · intro m j hj hm; simp at hm
    · intro m j hj
      rcases m with _ | m
      · simp at hj; omega
      · simp at hj
    · intro m a b ha hb; simp at hb
  | succ n ih =>
    intro i hi hl
    by_cases hi0 : i ≤ n
    · exact ih i hi0 hl
    · obtain rfl : i = n + 1 := by omega
      obtain ⟨f, x, y, e1, e2, e3, e4, e5, e6⟩ := h.fr (n + 1) (by omega) hl
      obtain ⟨idx, W⟩ := ih f (by omega) (by omega)
      have hWp := W.pos
      refine ⟨idx ++ [n + 1], ⟨?_, by simp, ?_, ?_, ?_, ?_, fun e => by omega⟩⟩
      · rw [path_step h (n + 1), List.getD_eq_getElem?_getD, e1]
        show pathL P (f : Int) ++ [atS P (n + 1)] = _
        rw [W.path, List.map_append]; rfl
      · rw [List.length_append]; simp
      · intro m j hj hm
        rw [List.length_append] at hm
        simp at hm
        rw [List.getElem?_append_left hm] at hj
        have := W.ins m j hj
        omega
      · intro m j hj
        by_cases hm : m < idx.length
        · rw [List.getElem?_append_left hm] at hj
          have := W.ins m j hj
          omega
        · have hml := (List.getElem?_eq_some_iff.1 hj).1
          rw [List.length_append] at hml
          simp at hml
          obtain rfl : m = idx.length := by omega
          simp at hj; omega
      · intro m a b ha hb
        have hml := (List.getElem?_eq_some_iff.1 hb).1
        rw [List.length_append] at hml
        simp at hml
        by_cases hm : m + 1 < idx.length
        · rw [List.getElem?_append_left (by omega)] at ha
          rw [List.getElem?_append_left hm] at hb
          exact W.step m a b ha hb
        · obtain rfl : m = idx.length - 1 := by omega
          rw [List.getElem?_append_left (by omega), W.last] at ha
          rw [show idx.length - 1 + 1 = idx.length by omega] at hb
          have hb' : b = n + 1 := by simpa using hb.symm
          injection ha with ha
          rw [hb', ← ha, atS_of e4, atS_of e5]
          exact e6
/-- The list that is walked: what the law asks of it. -/
structure ForOk (J : List Int) (v : Int) (L : List (List Int)) : Prop where
  ok : ∀ s ∈ L, OkS J s
  hit : ∀ (m : Nat) s, L[m]? = some s → hasL s v = decide (m + 1 = L.length)
  step : ∀ (m : Nat) s t, L[m]? = some s → L[m + 1]? = some t → t ∈ stepsL J s
  zero : v = 0 → L.length = 1
theorem hasL_rep0 {n : Nat} (h : 1 ≤ n) : hasL (List.replicate n 0) 0 = true := by
  unfold hasL; rw [List.contains_iff_mem]; exact List.mem_replicate.2 ⟨by omega, rfl⟩
theorem for_ok {J : List Int} (hj : jugsB J = true) {v : Int} (hv : inB v 0 12 = true) (nn : Nat) : ForOk J v (forP nn J v) := by
  have hJ := jok_of hj
  have hP := bfs_ok hJ nn
  rw [forP_yes hj hv]
  unfold stepsN
  generalize bfs J nn = P at hP ⊢
  cases ho : P.1.findIdx? (fun s => hasL s v) with
  | none =>
    refine ⟨by simp [pickL], by simp [pickL], by simp [pickL], fun e => ?_⟩
    rw [List.findIdx?_eq_none_iff] at ho
    have := ho _ (List.mem_of_getElem? hP.zero)
    rw [e, hasL_rep0 hJ.l1] at this
    cases this
  | some i =>
    rw [List.findIdx?_eq_some_iff_getElem] at ho
    obtain ⟨hi, hhit, hno⟩ := ho
    obtain ⟨idx, W⟩ := way_of hP i i (Nat.le_refl _) hi
    show ForOk J v (pathL P (i : Int))
    rw [W.path]
    have hin : ∀ m j : Nat, idx[m]? = some j → j < P.1.length := fun m j h => by have := W.ins m j h; omega
    have hget : ∀ (m : Nat) s, (idx.map (atS P))[m]? = some s → ∃ j, idx[m]? = some j ∧ atS P j = s := fun m s h => by
      rw [List.getElem?_map] at h
      cases hm : idx[m]? with
      | none => rw [hm] at h; cases h
      | some j => rw [hm] at h; injection h with h; exact ⟨j, rfl, h⟩
    refine ⟨fun s hs => ?_, fun m s h => ?_, fun m s t h1 h2 => ?_, fun e => ?_⟩
    · obtain ⟨m, hm⟩ := List.getElem?_of_mem hs
      obtain ⟨j, hj, rfl⟩ := hget m s hm
      exact hP.ok _ (List.mem_of_getElem? (atS_some (hin m j hj)))
    · obtain ⟨j, hj, rfl⟩ := hget m s h
      have hml := (List.getElem?_eq_some_iff.1 hj).1
      have hjl := hin m j hj
      rw [List.length_map]
      by_cases hm : m + 1 = idx.length
      · rw [decide_eq_true hm]
        have e := W.last
        rw [show idx.length - 1 = m by omega, hj] at e
        injection e with e
        subst e
        have h9 : P.1[j] = atS P j := by have := atS_some hjl; rw [List.getElem?_eq_getElem hjl] at this; injection this
        rw [h9] at hhit
        exact hhit
      · rw [decide_eq_false hm]
        have h8 := W.lt m j hj (by omega)
        have h9 : P.1[j] = atS P j := by have := atS_some hjl; rw [List.getElem?_eq_getElem hjl] at this; injection this
        have := hno j h8
        rw [h9] at this
        simpa using this
    · obtain ⟨a, ha, rfl⟩ := hget m s h1
      obtain ⟨b, hb, rfl⟩ := hget (m + 1) t h2
      exact W.step m a b ha hb
    · rw [List.length_map]
      refine W.one ?_
      rcases Nat.eq_zero_or_pos i with h | h
      · exact h
      · exfalso
        have h0 := hno 0 h
        have h9 : P.1[0]'(by omega) = List.replicate J.length 0 := (List.getElem?_eq_some_iff.1 hP.zero).2
        rw [h9, e, hasL_rep0 hJ.l1] at h0
        exact h0 rfl
/-! ### Multiples -/
def Dv (g : Int) (s : List Int) : Prop := ∀ x ∈ s, g ∣ x
theorem Dv.at0 {g : Int} {s : List Int} (h : Dv g s) (k : Nat) : g ∣ at0 s k := by
  by_cases hk : k < s.length
  · exact h _ (at0_in hk)
  · unfold Go.Proofs.Ytdnknddldfihdaa.at0
    rw [List.getD_eq_getElem?_getD, List.getElem?_eq_none (by omega)]
    exact Int.dvd_zero g
theorem Dv.set {g : Int} {s : List Int} (h : Dv g s) (k : Nat) {v : Int} (hv : g ∣ v) : Dv g (s.set k v) := fun x hx => by
  rcases List.mem_or_eq_of_mem_set hx with h1 | h1
  · exact h x h1
  · rw [h1]; exact hv
theorem dv_min {g a b : Int} (ha : g ∣ a) (hb : g ∣ b) : g ∣ min a b := by
  rcases Int.le_total a b with h | h
  · rw [Int.min_eq_left h]; exact ha
  · rw [Int.min_eq_right h]; exact hb
theorem Dv.mv {g : Int} {J s : List Int} (hJ : Dv g J) (h : Dv g s) (p q : Nat) : Dv g (mvL J s p q) := by
  rcases p with _ | p
  · rcases q with _ | q
    · exact h
    · exact h.set q (hJ.at0 q)
  · rcases q with _ | q
    · exact h.set p (Int.dvd_zero g)
    · have hm : g ∣ min (Go.Proofs.Ytdnknddldfihdaa.at0 s p) (Go.Proofs.Ytdnknddldfihdaa.at0 J q - Go.Proofs.Ytdnknddldfihdaa.at0 s q) := dv_min (h.at0 p) (Int.dvd_sub (hJ.at0 q) (h.at0 q))
      exact (h.set p (Int.dvd_sub (h.at0 p) hm)).set q (Int.dvd_add (h.at0 q) hm)
theorem dv_all {g : Int} {J : List Int} {k : Nat} {P : Sts} (hJ : Dv g J) (h : BOk J k P) : ∀ (n i : Nat) (s : List Int), i ≤ n → P.1[i]? = some s → Dv g s := by
  intro n
  induction n with
  | zero =>
    intro i s hi hs
    obtain rfl : i = 0 := by omega
    rw [h.zero] at hs
    injection hs with hs
    rw [← hs]
    intro x hx
    rw [(List.mem_replicate.1 hx).2]
    exact Int.dvd_zero g
  | succ n ih =>
    intro i s hi hs
    by_cases hi0 : i ≤ n
    · exact ih i s hi0 hs
    · obtain rfl : i = n + 1 := by omega
      obtain ⟨f, x, y, e1, e2, e3, e4, e5, e6⟩ := h.fr (n + 1) (by omega) (List.getElem?_eq_some_iff.1 hs).1
      rw [hs] at e4
      injection e4 with e4
      have hy := ih f y (by omega) e5
      obtain ⟨p, q, -, -, -, e⟩ := mem_moves.1 (mem_steps.1 e6).2
      rw [e4, e]
      exact hJ.mv hy p q
theorem for_mult {J : List Int} (hj : jugsB J = true) {v : Int} (hv : inB v 0 12 = true) (nn : Nat) {g M : Int} (hg : Dv g J) (hM : ∀ x ∈ J, x ≤ M) (hne : 0 ≤ fewP nn J v) : g ∣ v ∧ v ≤ M := by
  have hJ := jok_of hj
  have hP := bfs_ok hJ nn
  unfold fewP at hne
  rw [forP_yes hj hv] at hne
  unfold stepsN at hne
  generalize bfs J nn = P at hP hne
  cases ho : P.1.findIdx? (fun s => hasL s v) with
  | none => rw [ho] at hne; exact absurd hne (by simp [pickL])
  | some i =>
    rw [List.findIdx?_eq_some_iff_getElem] at ho
    obtain ⟨hi, hhit, -⟩ := ho
    have hm : v ∈ P.1[i] := by unfold hasL at hhit; exact List.contains_iff_mem.1 hhit
    have hd := dv_all hg hP i i _ (Nat.le_refl _) (List.getElem?_eq_getElem hi)
    refine ⟨hd v hm, ?_⟩
    have hok := hP.ok _ (List.getElem_mem hi)
    obtain ⟨k, hk, e⟩ := at0_mem hm
    have h2 := hok.2 k (by rw [← hok.1]; exact hk)
    have h3 := hM _ (at0_in (s := J) (k := k) (by rw [← hok.1]; exact hk))
    omega
/-! ### Two states at least -/
theorem mem_addS {i : Nat} {P : Sts} {x : List Int} : x ∈ (addS i P x).1 := by
  unfold addS
  split
  · rename_i h; simpa using h
  · simp
theorem mem_fold {k : Nat} {x : List Int} : ∀ (l : List (List Int)) (P : Sts), x ∈ l → x ∈ (l.foldl (addS k) P).1
  | [], _, h => by cases h
  | y :: l, P, h => by
    rw [List.foldl_cons]
    rcases List.mem_cons.1 h with e | e
    · subst e; exact (fold_prefix l (addS k P x)).1.subset mem_addS
    · exact mem_fold l _ e
theorem cnt_two {J : List Int} (hj : jugsB J = true) {nn : Nat} (hn : 2197 ≤ nn) : 2 ≤ cntS nn J := by
  have hJ := jok_of hj
  rw [cntS_yes hj]
  have h0 : 0 < (bfs J 0).1.length := (bfs_ok hJ 0).pos
  have h1 := bfs_prefix J 1 (nn - 1)
  rw [show 1 + (nn - 1) = nn by omega] at h1
  obtain ⟨y, ys, hy⟩ := List.exists_cons_of_ne_nil (steps_ne hJ (okS_zero hJ))
  have hy1 : y ∈ stepsL J (List.replicate J.length 0) := by rw [hy]; exact List.mem_cons_self
  have hy2 := (mem_steps.1 hy1).1
  have hb : bfs J 1 = (stepsL J (List.replicate J.length 0)).foldl (addS 0) (bfs J 0) := by
    rw [show (1 : Nat) = 0 + 1 from rfl, bfs_succ h0]; rfl
  have hm1 : y ∈ (bfs J 1).1 := by rw [hb]; exact mem_fold _ _ hy1
  have hm := h1.1.subset hm1
  have hz := List.mem_of_getElem? (bfs_ok hJ nn).zero
  generalize (bfs J nn).1 = L at hm hz
  have : 2 ≤ L.length := by
    rcases L with _ | ⟨a, _ | ⟨b, t⟩⟩
    · cases hm
    · rw [List.mem_singleton] at hm hz
      exact absurd (hm.trans hz.symm) hy2
    · simp
  omega
/-! ### Three and five -/
theorem j35 : jugsB [3, 5] = true := by decide
theorem few35 {nn : Nat} (hn : 2197 ≤ nn) : fewP nn [3, 5] 4 = 6 := by
  have hJ := jok_of j35
  have hl : (bfs [3, 5] 16).1.length = 16 := by decide +kernel
  have hb := bfs_lim hJ (k := 16) (n := nn) (by rw [hl]; omega) hn
  have h7 : (stepsN 16 [3, 5] 4).length = 7 := by decide +kernel
  unfold fewP
  rw [forP_yes j35 (by decide)]
  unfold stepsN at h7 ⊢
  rw [← hb, h7]
  rfl
/-! ### The law's own small functions -/
theorem hasL_cons (x : Int) (xs : List Int) (v : Int) : hasL (x :: xs) v = (v == x || hasL xs v) := by unfold hasL; rw [List.contains_cons]
set_option maxHeartbeats 400000 in
theorem lhas_c (A : Option Addr) (c : Nat) (xs : List Int) (v : Int) (w : World) (hr : RdI w w.heap.size A xs) (hl : xs.length ≤ 1048576) :
    Calls Try.prog 20 #[.slice A xs.length c, .int .i64 v] w fun e w' => e = .returned (.bool (hasL xs v)) ∧ w = w' := by
  go_enter Try.func20, Try.ntmps20
  go_wp2
  go_loop [5] (fun i => ∃ k : Nat, k ≤ xs.length ∧ i = .int .i64 k ∧ Hid (hasL xs v = hasL (xs.drop k) v)) (fun i => xs.length - (intOf i).toNat)
  case atStart => exact ⟨0, Nat.zero_le _, rfl, rfl⟩
  case round =>
    obtain ⟨k, hk, rfl, hall⟩ := hrel
    by_cases hlt : k < xs.length
    · obtain ⟨b, off, x, rfl, hb, hc, hx, hd⟩ := hr.at_ hlt
      cases hin : x == v
      · go_wp2
        go_round
        case rel => exact ⟨k + 1, by omega, by go_num, by
          rw [hall.out, hd.out, hasL_cons, show (v == x) = false by rw [Bool.eq_false_iff] at hin ⊢; intro h; exact hin (by simpa using (by simpa using h : v = x).symm), Bool.false_or]; rfl⟩
        case measure => simp [intOf]; omega
      · go_wp2
        go_ret
        exact ⟨by
          rw [hall.out, hd.out, hasL_cons, show (v == x) = true by simpa using (by simpa using hin : x = v).symm, Bool.true_or]; rfl, rfl⟩
    · go_wp2
      go_ret
      exact ⟨by rw [hall.out, drop_end xs hk hlt]; rfl, rfl⟩
set_option maxHeartbeats 400000 in
theorem sameI_c (A A' : Option Addr) (c c' : Nat) (xs ys : List Int) (w : World) (hr : RdI w w.heap.size A xs) (hr' : RdI w w.heap.size A' ys) (hl : xs.length ≤ 1048576) :
    Calls Try.prog 22 #[.slice A xs.length c, .slice A' ys.length c'] w (DrewP w (.bool (xs == ys))) := by
  by_cases hlen : xs.length = ys.length
  · have hlb : ((xs.length : Int) != (ys.length : Int)) = false := by simp [hlen]
    have hlen' := Lib.hid hlen
    clear hlen
    go_enter Try.func22, Try.ntmps22
    go_wp2
    go_loopw [5] (fun i wr => ∃ k q : Nat, k ≤ xs.length ∧ i = .int .i64 k ∧ wr = w.drewN q ∧ Hid ((xs == ys) = (xs.drop k == ys.drop k))) (fun i _ => xs.length - (intOf i).toNat)
    case atStart => exact ⟨0, 0, Nat.zero_le _, rfl, rfl, rfl⟩
    case round =>
      obtain ⟨k, q, hk, rfl, rfl, hq⟩ := hrel
      by_cases hlt : k < xs.length
      · have hlt' : k < ys.length := by have := hlen'.out; omega
        obtain ⟨b, off, x, rfl, hbb, hc, hx, hd⟩ := hr.at_ hlt
        obtain ⟨b', off', x', rfl, hbb', hc', hx', hd'⟩ := hr'.at_ hlt'
        cases hxx : x == x'
        · have hne : (x != x') = true := by simp [bne, hxx]
          go_wp2
          go_quiet (fail)
          go_wp2
          go_ret
          exact ⟨by rw [hq.out, hd.out, hd'.out, List.cons_beq_cons, hxx]; rfl, _, drew2 _ _ _⟩
        · have hne : (x != x') = false := by simp [bne, hxx]
          go_wp2
          go_quiet (fail)
          go_wp2
          go_roundw
          case rel => exact ⟨k + 1, _, by omega, by go_num, rfl, by rw [hq.out, hd.out, hd'.out, List.cons_beq_cons, hxx]; exact Bool.true_and _⟩
          case measure => simp [intOf]; omega
      · go_wp2
        go_ret
        exact ⟨by rw [hq.out, drop_end xs hk hlt, drop_end ys (by have := hlen'.out; omega) (by have := hlen'.out; omega)]; rfl, _, rfl⟩
  · have hlb : ((xs.length : Int) != (ys.length : Int)) = true := by simp; omega
    have hf : (xs == ys) = false := beq_eq_false_iff_ne.2 (fun h => hlen (by rw [h]))
    rw [hf]
    clear hf
    go_enter Try.func22, Try.ntmps22
    go_wp2
    go_ret
    exact ⟨rfl, 0, rfl⟩
end Go.Proofs.Ytdnknddldfihdaa
