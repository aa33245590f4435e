/- The program's JugSteps. -/
import Derived.Test.YtdnknddldfihdaaPut
namespace Go.Proofs.Ytdnknddldfihdaa
open Go.ChangeShapes Go.WideShapes Go.ChangeAt Go.RowKit
set_option linter.unusedVariables false

def validB (J s : List Int) : Bool := decide (∀ j, j < s.length → 0 ≤ at0 s j ∧ at0 s j ≤ at0 J j)
def stepsP (J s : List Int) : List (List Int) := if jugsB J && (s.length == J.length && validB J s) then stepsL J s else []
theorem stepsP_no {J s : List Int} (h : jugsB J = false ∨ s.length ≠ J.length ∨ validB J s = false) : stepsP J s = [] := by
  unfold stepsP
  rcases h with h | h | h <;> simp [h]
theorem stepsP_yes {J s : List Int} (h1 : jugsB J = true) (h2 : s.length = J.length) (h3 : validB J s = true) : stepsP J s = stepsL J s := by
  unfold stepsP
  rw [h1, h3, h2]; simp
theorem jok_of {J : List Int} (h : jugsB J = true) : JOk J := by
  unfold jugsB at h
  simp only [Bool.and_eq_true, inB_iff, allB_iff] at h
  exact ⟨by omega, by omega, fun k hk => h.2 _ (at0_in hk)⟩
theorem oks_of {J s : List Int} (h2 : s.length = J.length) (h3 : validB J s = true) : OkS J s := ⟨h2, fun k hk => of_decide_eq_true h3 k (by omega)⟩
/-- What is done when the jugs below i have been gone through. -/
def DI (J s : List Int) (i : Nat) (y : List Int) : Prop := ∃ a, a < i ∧ (y = s.set a (at0 J a) ∨ y = s.set a 0 ∨ ∃ b, b < J.length ∧ b ≠ a ∧ y = pourL J s a b)
/-- .. and of jug i its filling, its emptying, and its pourings into the jugs below k. -/
def DK (J s : List Int) (i k : Nat) (y : List Int) : Prop := ((DI J s i y ∨ y = s.set i (at0 J i)) ∨ y = s.set i 0) ∨ ∃ b, b < k ∧ b ≠ i ∧ y = pourL J s i b
theorem dk_zero (J s : List Int) (i : Nat) (y : List Int) : ((DI J s i y ∨ y = s.set i (at0 J i)) ∨ y = s.set i 0) ↔ DK J s i 0 y := by
  unfold DK
  constructor
  · intro h; exact .inl h
  · rintro (h | ⟨b, hb, _⟩)
    · exact h
    · omega
theorem dk_same (J s : List Int) (i : Nat) (y : List Int) : DK J s i i y ↔ DK J s i (i + 1) y := by
  unfold DK
  constructor
  · rintro (h | ⟨b, hb, h⟩)
    · exact .inl h
    · exact .inr ⟨b, by omega, h⟩
  · rintro (h | ⟨b, hb, hne, h⟩)
    · exact .inl h
    · exact .inr ⟨b, by omega, hne, h⟩
theorem dk_next {J s : List Int} {i k : Nat} (hk : k ≠ i) (y : List Int) : (DK J s i k y ∨ y = pourL J s i k) ↔ DK J s i (k + 1) y := by
  unfold DK
  constructor
  · rintro ((h | ⟨b, hb, h⟩) | h)
    · exact .inl h
    · exact .inr ⟨b, by omega, h⟩
    · exact .inr ⟨k, by omega, hk, h⟩
  · rintro (h | ⟨b, hb, hne, h⟩)
    · exact .inl (.inl h)
    · by_cases e : b = k
      · subst e; exact .inr h
      · exact .inl (.inr ⟨b, by omega, hne, h⟩)
theorem dk_end (J s : List Int) (i : Nat) (y : List Int) : DK J s i J.length y ↔ DI J s (i + 1) y := by
  unfold DK DI
  constructor
  · rintro (((⟨a, ha, h⟩ | h) | h) | ⟨b, hb, hne, h⟩)
    · exact ⟨a, by omega, h⟩
    · exact ⟨i, by omega, .inl h⟩
    · exact ⟨i, by omega, .inr (.inl h)⟩
    · exact ⟨i, by omega, .inr (.inr ⟨b, hb, hne, h⟩)⟩
  · rintro ⟨a, ha, h⟩
    by_cases e : a = i
    · subst e
      rcases h with h | h | ⟨b, hb, hne, h⟩
      · exact .inl (.inl (.inr h))
      · exact .inl (.inr h)
      · exact .inr ⟨b, hb, hne, h⟩
    · exact .inl (.inl (.inl ⟨a, by omega, h⟩))
theorem di_zero (J s : List Int) (y : List Int) : False ↔ DI J s 0 y := by
  unfold DI
  constructor
  · intro h; cases h
  · rintro ⟨a, ha, _⟩; omega
theorem RdI.atC {w : World} {B b off : Nat} {xs : List Int} {k : Nat} (h : RdI w B (some ⟨b, off, none⟩) xs) (hk : k < xs.length) : ∃ x, b < B ∧ w.cell? ⟨b, off + k, none⟩ = some (.int .i64 x) ∧ Hid (xs[k]? = some x) := by
  obtain ⟨b', off', x, e, h1, h2, h3, _⟩ := h.at_ hk
  injection e with e
  injection e with e1 e2
  subst e1 e2
  exact ⟨x, h1, h2, h3⟩
theorem di_moves (J s y : List Int) : DI J s J.length y ↔ y ∈ movesL J s := by
  rw [mem_moves]
  unfold DI
  constructor
  · rintro ⟨a, ha, h | h | ⟨b, hb, hne, h⟩⟩
    · exact ⟨0, a + 1, by omega, by omega, by omega, h⟩
    · exact ⟨a + 1, 0, by omega, by omega, by omega, h⟩
    · exact ⟨a + 1, b + 1, by omega, by omega, by omega, h⟩
  · rintro ⟨p, q, hp, hq, hne, h⟩
    rcases p with _ | p
    · rcases q with _ | q
      · exact absurd rfl hne
      · exact ⟨q, by omega, .inl h⟩
    · rcases q with _ | q
      · exact ⟨p, by omega, .inr (.inl h)⟩
      · exact ⟨p, by omega, .inr (.inr ⟨q, by omega, by omega, h⟩)⟩
theorem steps_ne {J s : List Int} (hJ : JOk J) (hs : OkS J s) : stepsL J s ≠ [] := by
  have h1 := hJ.l1
  have h0 := hs.2 0 (by omega)
  have hj := hJ.b 0 (by omega)
  have hsl := hs.1
  intro e
  by_cases h : at0 s 0 = at0 J 0
  · have : s.set 0 0 ∈ stepsL J s := mem_steps.2 ⟨fun e2 => by
      have h2 := at0_set s 0 0 0
      rw [e2, if_pos ⟨rfl, by omega⟩] at h2
      omega, (di_moves J s _).1 ⟨0, by omega, .inr (.inl rfl)⟩⟩
    rw [e] at this; cases this
  · have : s.set 0 (at0 J 0) ∈ stepsL J s := mem_steps.2 ⟨fun e2 => by
      have h2 := at0_set s 0 (at0 J 0) 0
      rw [e2, if_pos ⟨rfl, by omega⟩] at h2
      omega, (di_moves J s _).1 ⟨0, by omega, .inl rfl⟩⟩
    rw [e] at this; cases this
theorem at0_get {xs : List Int} {k : Nat} {x : Int} (h : xs[k]? = some x) : at0 xs k = x := getDat h
/-- Slices of slices that read as L: what JugSteps and StepsFor hand back. -/
def RetSS (w : World) (L : List (List Int)) (e : Ending) (w' : World) : Prop := ∃ (B : Option Addr) (d : Nat) (ts : List Tr), e = .returned (.slice B ts.length d) ∧ OwnSS w' w.heap.size B d ts ∧ valT ts = L ∧ Below w.heap.size w w'
theorem AccU.lens {n : Nat} {D : List Int → Prop} {s : List Int} {ts : List Tr} (h : AccU n D s (valT ts)) (hn : n ≤ 3) : ∀ t ∈ ts, t.2.2.length ≤ 1048576 := fun t ht => by
  have := h.2.2 t.2.2 (List.mem_map_of_mem ht)
  omega
theorem fresh_ne {w : World} {h c : Nat} {A : Option Addr} {ts : List Tr} (hO : OwnSS w h A c ts) {g : Nat} (hg : w.heap.size ≤ g) : ∀ u ∈ ts, u.1 ≠ g := fun u hu => by have := (hO.all u hu).b; omega
theorem val_len {ts us : List Tr} {s x : List Int} (h : valT us = putL s x (valT ts)) : us.length ≤ ts.length + 1 := by
  have := putL_len (s := s) (x := x) (out := valT ts)
  rw [← h, valT_length, valT_length] at this
  exact this
set_option maxRecDepth 100000 in
set_option maxHeartbeats 4000000 in
theorem iSteps_c (A A' : Option Addr) (c c' : Nat) (J s : List Int) (w : World) (hr : RdI w w.heap.size A J) (hl : J.length ≤ 1048576) (hr' : RdI w w.heap.size A' s) (hl' : s.length ≤ 1048576) :
    Calls Try.prog 21 #[.slice A J.length c, .slice A' s.length c'] w (RetSS w (stepsP J s)) := by
  have b1 := (Below.refl w.heap.size w).alloc (Nat.le_refl _) (.cells #[.slice A' s.length c'] 22)
  have S1 := Blk.new w 22 #[.slice A' s.length c']
  have hr1 := hr.at_world b1
  obtain ⟨s0, -, sL⟩ := S1.one
  cases hj : jugsB J
  · have hno := Lib.hid (stepsP_no (J := J) (s := s) (.inl hj))
    have hcj := Lib.hid (iJugsOk_c A c J _ hr1 hl)
    rw [hj] at hcj
    go_enter Try.func21, Try.ntmps21
    go_wp2_with fail
    refine hcj.out.mono ?_
    rintro e w' ⟨rfl, rfl⟩
    go_wp2
    go_ret
    exact ⟨none, 0, [], rfl, OwnSS.nil _ _, hno.out.symm, b1⟩
  have hcj := Lib.hid (iJugsOk_c A c J _ hr1 hl)
  rw [hj] at hcj
  by_cases hsl : s.length = J.length
  · have hlb : ((s.length : Int) != (J.length : Int)) = false := by simp [hsl]
    have hsl' := Lib.hid hsl
    have hJ := jok_of hj
    have hJ1 := hJ.l1
    have hJ3 := hJ.l3
    have hs3 : s.length ≤ 3 := by omega
    have hs1 : 1 ≤ s.length := by omega
    have hJ' := Lib.hid hJ
    have hj' := Lib.hid hj
    clear hsl hJ hj
    go_enter Try.func21, Try.ntmps21
    go_wp2_with fail
    refine hcj.out.mono ?_
    rintro e w' ⟨rfl, rfl⟩
    clear hcj
    go_wp2
    go_loop [27] (fun i => ∃ k : Nat, k ≤ s.length ∧ i = .int .i64 k ∧ Hid (∀ j, j < k → 0 ≤ at0 s j ∧ at0 s j ≤ at0 J j)) (fun i => s.length - (intOf i).toNat)
    case atStart => exact ⟨0, Nat.zero_le _, rfl, fun j hj => absurd hj (Nat.not_lt_zero _)⟩
    case round =>
      obtain ⟨k, hk, rfl, hall⟩ := hrel
      by_cases hlt : k < s.length
      · obtain ⟨b, off, x, rfl, hb, hc, hx, hd⟩ := (hr'.at_world b1).at_ hlt
        obtain ⟨b', off', y, rfl, hb', hc', hy, hd'⟩ := hr1.at_ (show k < J.length by have := hsl'.out; omega)
        have hltJ : (k : Int) < (J.length : Int) := by have := hsl'.out; omega
        cases hin : inB x 0 y
        · have hno := Lib.hid (stepsP_no (J := J) (s := s) (.inr (.inr (decide_eq_false (fun h => by
            have := h k hlt
            rw [at0_get hx.out, at0_get hy.out] at this
            rw [(inB_iff _ _ _).2 this] at hin; cases hin)))))
          go_wp2_with (go_at_call 34; refine (within_c _ _ _ _).mono ?_; rintro e w' ⟨rfl, rfl⟩)
          go_ret
          exact ⟨none, 0, [], rfl, OwnSS.nil _ _, hno.out.symm, b1⟩
        · have hin' := (inB_iff _ _ _).1 hin
          have hin2 := Lib.hid hin'
          clear hin'
          go_wp2_with (go_at_call 34; refine (within_c _ _ _ _).mono ?_; rintro e w' ⟨rfl, rfl⟩)
          go_round
          case rel =>
            refine ⟨k + 1, by omega, by go_num, (fun j hj => ?_)⟩
            by_cases e : j = k
            · subst e; rw [at0_get hx.out, at0_get hy.out]; exact hin2.out
            · exact hall.out j (by omega)
          case measure => simp [intOf]; omega
      · obtain rfl : k = s.length := by omega
        have hv : validB J s = true := decide_eq_true hall.out
        have hyes := Lib.hid (stepsP_yes hj'.out hsl'.out hv)
        have hok := Lib.hid (oks_of hsl'.out hv)
        clear hv hall hlt hk
        have b2 := b1.alloc (by simp) (.cells #[.slice none 0 0] 30)
        have O2 := Blk.new (w.alloc (.cells #[.slice A' s.length c'] 22)) 30 #[.slice none 0 0]
        simp only [World.size_alloc] at O2
        have H0 : JX w w.heap.size A' c' s none 0 [] ((w.alloc (.cells #[.slice A' s.length c'] 22)).alloc (.cells #[.slice none 0 0] 30)) :=
          ⟨b2, S1.alloc _, O2, OwnSS.nil _ _, hr'.below b2 (Nat.le_refl _), by simp⟩
        have hA0 := Lib.hid (AccU.nil (n := s.length) (s := s))
        clear b1 b2 O2 S1 s0 sL hr1 hr'
        go_wp2
        obtain ⟨bs, os, -, rfl, hbs, -, -, -⟩ := H0.rd.at_ (show 0 < s.length by omega)
        obtain ⟨bj, oj, -, rfl, hbj, -, -, -⟩ := hr.at_ (show 0 < J.length by omega)
        go_loopw [43] (fun i wr => ∃ (k : Nat) (A1 : Option Addr) (c1 : Nat) (ts : List Tr), k ≤ s.length ∧ i = .int .i64 k ∧ JX w w.heap.size (some ⟨bs, os, none⟩) c' s A1 c1 ts wr ∧ Hid (AccU s.length (DI J s k) s (valT ts)) ∧ ts.length ≤ 4 * k) (fun i _ => s.length - (intOf i).toNat)
        case atStart => exact ⟨0, none, 0, [], Nat.zero_le _, rfl, H0, hA0.out.congr (di_zero J s), by simp⟩
        case round =>
          clear H0 hA0
          obtain ⟨k, A1, c1, ts, hk, rfl, H, hacc, htl⟩ := hrel
          obtain ⟨s0, -, sL⟩ := H.st.one
          by_cases hlt : k < s.length
          · have hltJ : (k : Int) < (J.length : Int) := by have := hsl'.out; omega
            obtain ⟨y, -, hcy, hy⟩ := (hr.below H.bel (Nat.le_refl _)).atC (show k < J.length by have := hsl'.out; omega)
            obtain ⟨sa, hsa⟩ : ∃ x, s[k]? = some x := ⟨_, List.getElem?_eq_getElem hlt⟩
            have hyk := Lib.hid (at0_get hy.out)
            have hsa' := Lib.hid hsa
            have hyb := Lib.hid (hJ'.out.b k (by have := hsl'.out; omega))
            clear hsa
            go_wp2_with fail
            refine (copyInts_c (some ⟨bs, os, none⟩) c' s _ H.rds hl').mono ?_
            rintro e w2 ⟨A2, c2, rfl, hX, b2⟩
            obtain ⟨g2, rfl, hg2, hg2l, -, -⟩ := OwnI.some_ hX hlt
            have hcell := hX.cellI hsa'.out
            have hfr := hX.frz k
            have hfc := (by have h9 := b2.cell (p := ⟨bj, oj + k, none⟩) (show bj < wr.heap.size by have := H.sz; omega); exact h9.trans hcy)
            have hX3 := hX.stored k (y)
            have b3 : Below wr.heap.size wr (w2.setCell ⟨g2, k, none⟩ (.int .i64 (y))) := b2.setCell (p := ⟨g2, k, none⟩) hg2 _
            have H3 := H.next b3
            have hx3 : InT (w2.setCell ⟨g2, k, none⟩ (.int .i64 (y))) (w.heap.size + 2) (g2, c2, s.set k y) := OwnI.more hX3 H.sz
            have hp := put_c w w.heap.size (some ⟨bs, os, none⟩) c' s A1 c1 ts g2 c2 (s.set k y) _ H3 hx3 (fresh_ne H.own hg2) (by omega) (hacc.out.lens hs3) (by simp; omega)
            rw [List.length_set] at hp
            have hsz3 := b3.size
            have hp' := Lib.hid hp
            clear hp
            go_wp2_with fail
            refine hp'.out.mono ?_
            rintro e wa ⟨rfl, Aa, ca, ta, Ha, hva, hsz4⟩
            replace hva := Lib.hid hva
            clear hp' hx3 H3 b3 hX3 hfc hfr hcell hX b2 hg2 hg2l hsz3 hsz4 s0 sL
            have hacc2 : Hid (AccU s.length (fun z => DI J s k z ∨ z = s.set k (at0 J k)) s (valT ta)) := by
              have h9 := hacc.out.put (x := s.set k y) (by simp)
              rw [← hva.out] at h9
              rw [← hyk.out] at h9
              exact h9
            have hta := val_len hva.out
            clear hacc hva H hcy hyb
            obtain ⟨s0, -, sL⟩ := Ha.st.one
            go_wp2_with fail
            refine (copyInts_c (some ⟨bs, os, none⟩) c' s _ Ha.rds hl').mono ?_
            rintro e w2 ⟨A2, c2, rfl, hX, b2⟩
            obtain ⟨g2, rfl, hg2, hg2l, -, -⟩ := OwnI.some_ hX hlt
            have hcell := hX.cellI hsa'.out
            have hfr := hX.frz k
            have hfc := trivial
            have hX3 := hX.stored k (0)
            have b3 : Below wa.heap.size wa (w2.setCell ⟨g2, k, none⟩ (.int .i64 (0))) := b2.setCell (p := ⟨g2, k, none⟩) hg2 _
            have H3 := Ha.next b3
            have hx3 : InT (w2.setCell ⟨g2, k, none⟩ (.int .i64 (0))) (w.heap.size + 2) (g2, c2, s.set k 0) := OwnI.more hX3 Ha.sz
            have hp := put_c w w.heap.size (some ⟨bs, os, none⟩) c' s Aa ca ta g2 c2 (s.set k 0) _ H3 hx3 (fresh_ne Ha.own hg2) (by omega) (hacc2.out.lens hs3) (by simp; omega)
            rw [List.length_set] at hp
            have hsz3 := b3.size
            have hp' := Lib.hid hp
            clear hp
            go_wp2_with fail
            refine hp'.out.mono ?_
            rintro e wa ⟨rfl, Ab, cb, tb, Hb, hvb, hsz4⟩
            replace hvb := Lib.hid hvb
            clear hp' hx3 H3 b3 hX3 hfc hfr hcell hX b2 hg2 hg2l hsz3 hsz4 s0 sL
            have hacc3 : Hid (AccU s.length (DK J s k 0) s (valT tb)) := by
              have h9 := hacc2.out.put (x := s.set k 0) (by simp)
              rw [← hvb.out] at h9
              exact h9.congr (dk_zero J s k)
            have htb := val_len hvb.out
            clear hacc2 hvb Ha
            obtain ⟨s0, -, sL⟩ := Hb.st.one
            have htb2 : tb.length ≤ 4 * k + 2 := by omega
            clear hta htb htl hyk hltJ hy
            go_wp2
            go_loopw [68] (fun i wr => ∃ (m : Nat) (A1 : Option Addr) (c1 : Nat) (ts : List Tr), m ≤ s.length ∧ i = .int .i64 m ∧ JX w w.heap.size (some ⟨bs, os, none⟩) c' s A1 c1 ts wr ∧ Hid (AccU s.length (DK J s k m) s (valT ts)) ∧ ts.length + (if k < m then 1 else 0) ≤ 4 * k + 2 + m) (fun i _ => s.length - (intOf i).toNat)
            case atStart => exact ⟨0, Ab, cb, tb, Nat.zero_le _, rfl, Hb, hacc3, by simp; omega⟩
            case round =>
              clear Hb hacc3 htb2
              obtain ⟨m, A1, c1, ts, hm, rfl, H, hacc, htl⟩ := hrel
              obtain ⟨s0, -, sL⟩ := H.st.one
              by_cases hltm : m < s.length
              · by_cases hmk : m = k
                · subst hmk
                  go_wp2
                  go_roundw
                  case rel => exact ⟨m + 1, A1, c1, ts, by omega, by go_num, H, hacc.out.congr (dk_same J s m), by simp at htl ⊢; omega⟩
                  case measure => simp [intOf]; omega
                · have hmkI : ¬ (m : Int) = (k : Int) := by omega
                  have hltJ : (m : Int) < (J.length : Int) := by have := hsl'.out; omega
                  obtain ⟨yb, -, hcy, hy⟩ := (hr.below H.bel (Nat.le_refl _)).atC (show m < J.length by have := hsl'.out; omega)
                  obtain ⟨sb, hbs2, hcb, hsb⟩ := H.rd.atC hltm
                  obtain ⟨sa2, hbs3, hca, hsa2⟩ := H.rd.atC hlt
                  obtain rfl : sa = sa2 := Option.some.inj (hsa'.out.symm.trans hsa2.out)
                  have h1 := hok.out.2 k (by have := hsl'.out; omega)
                  have h2 := hok.out.2 m (by have := hsl'.out; omega)
                  have h3 := hJ'.out.b k (by have := hsl'.out; omega)
                  have h4 := hJ'.out.b m (by have := hsl'.out; omega)
                  rw [at0_get hsa'.out] at h1
                  rw [at0_get hsb.out, at0_get hy.out] at h2
                  rw [at0_get hy.out] at h4
                  obtain ⟨a0, a1⟩ : 0 ≤ sa ∧ sa ≤ 12 := by omega
                  obtain ⟨d0, d1, d2⟩ : 0 ≤ sb ∧ sb ≤ yb ∧ yb ≤ 12 := by omega
                  clear h1 h2 h3 h4
                  have hpl := Lib.hid (show pourL J s k m = (s.set k (sa - min sa (yb - sb))).set m (sb + min sa (yb - sb)) by unfold pourL; rw [at0_get hsa'.out, at0_get hsb.out, at0_get hy.out])
                  obtain ⟨v, hv⟩ : ∃ v, min sa (yb - sb) = v := ⟨_, rfl⟩
                  have hv01 : 0 ≤ v ∧ v ≤ 12 := by omega
                  obtain ⟨v0, v1⟩ := hv01
                  rw [hv] at hpl
                  have hv' := Lib.hid hv
                  clear hv
                  go_upto_region 24 with fail
                  go_cut [13] (fun u wx => u = .int .i64 v ∧ ∃ q, wx = wr.drewN q)
                  case first =>
                    go_quiet (fail)
                    go_wp2
                    go_meet
                    exact ⟨by rw [hv'.out], _, rfl⟩
                  case rest =>
                    obtain ⟨rfl, q, rfl⟩ := hcut
                    have Hq := H.next (below_drewN (Below.refl _ _) q)
                    clear hcy hcb hca H s0 sL
                    generalize wr.drewN q = W2 at Hq ⊢
                    obtain ⟨s0, -, sL⟩ := Hq.st.one
                    go_wp2_with fail
                    refine (copyInts_c (some ⟨bs, os, none⟩) c' s _ Hq.rds hl').mono ?_
                    rintro e w2 ⟨A2, c2, rfl, hX, b2⟩
                    obtain ⟨g2, rfl, hg2, hg2l, -, -⟩ := OwnI.some_ hX hlt
                    have hcell := hX.cellI hsa'.out
                    have hcell2 := hX.cellI hsb.out
                    have hfr := hX.frz k
                    have hfr2 := hX.frz m
                    have hX2 := hX.stored k (sa - v)
                    have hX3 := hX2.stored m (sb + v)
                    have b3 : Below W2.heap.size W2 ((w2.setCell ⟨g2, k, none⟩ (.int .i64 (sa - v))).setCell ⟨g2, m, none⟩ (.int .i64 (sb + v))) := (b2.setCell (p := ⟨g2, k, none⟩) hg2 _).setCell (p := ⟨g2, m, none⟩) hg2 _
                    have H3 := Hq.next b3
                    have hx3 : InT ((w2.setCell ⟨g2, k, none⟩ (.int .i64 (sa - v))).setCell ⟨g2, m, none⟩ (.int .i64 (sb + v))) (w.heap.size + 2) (g2, c2, (s.set k (sa - v)).set m (sb + v)) := OwnI.more hX3 Hq.sz
                    have hp := put_c w w.heap.size (some ⟨bs, os, none⟩) c' s A1 c1 ts g2 c2 ((s.set k (sa - v)).set m (sb + v)) _ H3 hx3 (fresh_ne Hq.own hg2) (by split at htl <;> omega) (hacc.out.lens hs3) (by simp; omega)
                    rw [List.length_set, List.length_set] at hp
                    have hp' := Lib.hid hp
                    have hkm : ¬ (k = m) := fun e => hmk e.symm
                    clear hp hX2 hX3
                    go_wp2_with fail
                    refine hp'.out.mono ?_
                    rintro e wa ⟨rfl, Aa, ca, ta, Ha, hva, hsz4⟩
                    have hva := Lib.hid hva
                    have hta := val_len hva.out
                    clear hp' hx3 H3 b3 hfr hfr2 hcell hcell2 hX b2 hg2 hg2l hsz4 s0 sL Hq
                    have hacc4 : Hid (AccU s.length (DK J s k (m + 1)) s (valT ta)) := by
                      have h9 := hacc.out.put (x := (s.set k (sa - v)).set m (sb + v)) (by simp)
                      rw [← hva.out] at h9
                      rw [← hpl.out] at h9
                      exact h9.congr (dk_next hmk)
                    clear hacc hva
                    go_wp2
                    go_roundw
                    case rel => exact ⟨m + 1, Aa, ca, ta, by omega, by go_num, Ha, hacc4, by split at htl <;> split <;> omega⟩
                    case measure => simp [intOf]; omega
              · obtain rfl : m = s.length := by omega
                go_wp2
                go_roundw
                case rel => exact ⟨k + 1, A1, c1, ts, by omega, by go_num, H, hacc.out.congr (fun z => by rw [hsl'.out]; exact dk_end J s k z), by rw [if_pos hlt] at htl; omega⟩
                case measure => simp [intOf]; omega
          · obtain rfl : k = s.length := by omega
            have hn0 : 0 < ts.length := by
              have hne := steps_ne hJ'.out hok.out
              obtain ⟨z, zs, hz⟩ := List.exists_cons_of_ne_nil hne
              have hz1 : z ∈ stepsL J s := by rw [hz]; exact List.mem_cons_self
              have hz2 := mem_steps.1 hz1
              have hz3 : z ∈ valT ts := (hacc.out.2.1 z).2 ⟨hz2.1, by rw [hsl'.out]; exact (di_moves J s z).2 hz2.2⟩
              have := List.length_pos_of_mem hz3
              rwa [valT_length] at this
            obtain ⟨ga, rfl, hga, hgal, hc1, -⟩ := H.own.some_ hn0
            obtain ⟨o0, -, oL⟩ := H.ou.one
            have hS := Lib.hid (sortSS_c wr (w.heap.size + 2) ga c1 ts H.own hn0 (by omega) (hacc.out.lens hs3))
            go_wp2_with fail
            refine hS.out.mono ?_
            rintro e w9 ⟨rfl, us, hpm, hul, hso, hO9, hg9⟩
            have hou := H.ou.grown hg9 (fun e => by injection e with e; omega)
            have hb9 : Below w.heap.size w w9 := H.bel.grown hg9 (by have := H.sz; omega) (fun q hq => by injection hq with hq; omega)
            have hul' := Lib.hid hul
            have hval := Lib.hid (show valT us = stepsP J s by
              rw [hyes.out]
              refine steps_eq ?_
              have hp2 : (valT us).Perm (valT ts) := hpm.map _
              exact (hacc.out.sorted hp2 hso).congr (fun z => by rw [hsl'.out]; exact di_moves J s z))
            clear o0 oL hS H hacc hpm hso hg9 hul s0 sL
            obtain ⟨o0, -, oL⟩ := hou.one
            go_wp2
            go_ret
            exact ⟨some ⟨ga, 0, none⟩, c1, us, by rw [hul'.out]; rfl, hO9.more (by omega), hval.out, hb9⟩
  · have hlb : ((s.length : Int) != (J.length : Int)) = true := by simp; omega
    have hno := Lib.hid (stepsP_no (J := J) (s := s) (.inr (.inl hsl)))
    clear hsl
    go_enter Try.func21, Try.ntmps21
    go_wp2_with fail
    refine hcj.out.mono ?_
    rintro e w' ⟨rfl, rfl⟩
    go_wp2
    go_ret
    exact ⟨none, 0, [], rfl, OwnSS.nil _ _, hno.out.symm, b1⟩
end Go.Proofs.Ytdnknddldfihdaa
