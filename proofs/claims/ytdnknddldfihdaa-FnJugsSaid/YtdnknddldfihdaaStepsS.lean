/- The reference's JugSteps. -/
import Derived.Test.YtdnknddldfihdaaSteps
import Derived.Test.YtdnknddldfihdaaInvK
import Derived.Deep.CutBlock
namespace Go.Proofs.Ytdnknddldfihdaa
open Go.ChangeShapes Go.WideShapes Go.ChangeAt Go.RowKit
set_option linter.unusedVariables false

/-- What is done when the places ahead of (p, q) have been gone through. -/
def DS (J s : List Int) (p q : Nat) (y : List Int) : Prop := ∃ a b, a ≤ J.length ∧ b ≤ J.length ∧ a ≠ b ∧ (a < p ∨ (a = p ∧ b < q)) ∧ y = mvL J s a b
theorem ds_zero (J s y : List Int) : False ↔ DS J s 0 0 y := by
  unfold DS
  constructor
  · intro h; cases h
  · rintro ⟨a, b, _, _, _, h, _⟩; omega
theorem ds_same {J s : List Int} (p : Nat) (y : List Int) : DS J s p p y ↔ DS J s p (p + 1) y := by
  unfold DS
  constructor
  · rintro ⟨a, b, h1, h2, h3, h4, h5⟩; exact ⟨a, b, h1, h2, h3, by omega, h5⟩
  · rintro ⟨a, b, h1, h2, h3, h4, h5⟩; exact ⟨a, b, h1, h2, h3, by omega, h5⟩
theorem ds_next {J s : List Int} {p q : Nat} (hp : p ≤ J.length) (hq : q ≤ J.length) (hne : p ≠ q) (y : List Int) : (DS J s p q y ∨ y = mvL J s p q) ↔ DS J s p (q + 1) y := by
  unfold DS
  constructor
  · rintro (⟨a, b, h1, h2, h3, h4, h5⟩ | h)
    · exact ⟨a, b, h1, h2, h3, by omega, h5⟩
    · exact ⟨p, q, hp, hq, hne, by omega, h⟩
  · rintro ⟨a, b, h1, h2, h3, h4, h5⟩
    by_cases e : a = p ∧ b = q
    · right; rw [h5, e.1, e.2]
    · left; exact ⟨a, b, h1, h2, h3, by omega, h5⟩
theorem ds_end (J s : List Int) (p : Nat) (y : List Int) : DS J s p (J.length + 1) y ↔ DS J s (p + 1) 0 y := by
  unfold DS
  constructor
  · rintro ⟨a, b, h1, h2, h3, h4, h5⟩; exact ⟨a, b, h1, h2, h3, by omega, h5⟩
  · rintro ⟨a, b, h1, h2, h3, h4, h5⟩; exact ⟨a, b, h1, h2, h3, by omega, h5⟩
theorem ds_all (J s y : List Int) : DS J s (J.length + 1) 0 y ↔ y ∈ movesL J s := by
  rw [mem_moves]
  unfold DS
  constructor
  · rintro ⟨a, b, h1, h2, h3, h4, h5⟩; exact ⟨a, b, h1, h2, h3, h5⟩
  · rintro ⟨a, b, h1, h2, h3, h5⟩; exact ⟨a, b, h1, h2, h3, by omega, h5⟩
theorem Acc.lens {n : Nat} {D : List Int → Prop} {s : List Int} {ts : List Tr} (h : Go.Proofs.Ytdnknddldfihdaa.Acc n D s (valT ts)) (hn : n ≤ 3) : ∀ t ∈ ts, t.2.2.length = n := fun t ht => h.2.2 t.2.2 (List.mem_map_of_mem ht)
theorem encs_one (l : List Tr) : ∀ u ∈ l.map encT, u.oneCell' = true := fun u hu => by
  obtain ⟨t, _, rfl⟩ := List.mem_map.1 hu
  rfl
theorem OwnSS.insert {w : World} {base c c' j : Nat} {A A' : Option Addr} {ts : List Tr} {t : Tr} (h : OwnSS w base A c ts) (ht : InT w base t) (hne : ∀ u ∈ ts, u.1 ≠ t.1) (hj : j ≤ ts.length) (ho : OwnV w base 22 1 A' (ts.length + 1) c' ((ts.take j).map encT ++ [encT t] ++ (ts.drop j).map encT)) : OwnSS w base A' c' (ts.take j ++ t :: ts.drop j) := by
  refine ⟨?_, fun u hu => ?_, ?_⟩
  · have e1 : (ts.take j ++ t :: ts.drop j).length = ts.length + 1 := by simp; omega
    have e2 : (ts.take j ++ t :: ts.drop j).map encT = (ts.take j).map encT ++ [encT t] ++ (ts.drop j).map encT := by simp
    rw [e1, e2]; exact ho
  · rw [List.mem_append, List.mem_cons] at hu
    rcases hu with hu | hu | hu
    · exact h.all u (List.mem_of_mem_take hu)
    · rw [hu]; exact ht
    · exact h.all u (List.mem_of_mem_drop hu)
  · have hp := h.dis
    rw [← List.take_append_drop j ts, List.pairwise_append] at hp
    rw [List.pairwise_append, List.pairwise_cons]
    refine ⟨hp.1, ⟨fun u hu => (hne u (List.mem_of_mem_drop hu)).symm, hp.2.1⟩, fun u hu v hv => ?_⟩
    rcases List.mem_cons.1 hv with e | e
    · rw [e]; exact hne u (List.mem_of_mem_take hu)
    · exact hp.2.2 u hu v e
theorem OwnSS.atC {w : World} {base g c k : Nat} {ts : List Tr} (h : OwnSS w base (some ⟨g, 0, none⟩) c ts) (hk : k < ts.length) : ∃ b d xs, g < w.heap.size ∧ w.cell? ⟨g, k, none⟩ = some (.slice (some ⟨b, 0, none⟩) xs.length d) ∧ RdI w w.heap.size (some ⟨b, 0, none⟩) xs ∧ Hid (ts[k]? = some (b, d, xs)) ∧ Hid ((valT ts)[k]? = some xs) := by
  obtain ⟨g', b, d, xs, e, h1, h2, h3, h4, h5, h6⟩ := h.at_ hk
  injection e with e
  injection e with e
  subst e
  exact ⟨b, d, xs, h2, h3, h4, h5, by show (valT ts)[k]? = some xs; unfold valT; rw [List.getElem?_map, h5.out]; rfl⟩
theorem OwnSS.empty (w : World) : OwnSS (w.alloc (.cells #[] 22)) w.heap.size (some ⟨w.heap.size, 0, none⟩) 0 [] := ⟨OwnV.of_blk (Nat.le_refl _) rfl (Nat.zero_le _) (Blk.new _ _ _), by simp, .nil⟩
def stepF (b0 gz c1 j g2 c2 sl : Nat) (ts : List Tr) (AD : Addr) : List Fact := [Fact.blk b0 22 0 #[], Fact.val (.slice (some ⟨gz, 0, none⟩) ts.length c1), Fact.val (.int .i64 (j : Int)), Fact.val (.slice (some ⟨gz, 0, none⟩) j c1), Fact.own b0 22 1 j ((ts.take j).map encT), Fact.val (Value.slice (some ⟨g2, 0, none⟩) sl c2), Fact.blk b0 22 1 #[(Value.slice (some ⟨g2, 0, none⟩) sl c2)], Fact.own b0 22 1 (j + 1) (((ts.take j).map encT) ++ [(Value.slice (some ⟨g2, 0, none⟩) sl c2)]), Fact.val (.slice (some ⟨gz, 0, none⟩) ts.length c1), Fact.val (.int .i64 (j : Int)), Fact.val (.slice (some AD) (ts.length - j) (c1 - j)), Fact.own b0 22 1 (j + 1 + (ts.length - j)) (((ts.take j).map encT) ++ [(Value.slice (some ⟨g2, 0, none⟩) sl c2)] ++ ((ts.drop j).map encT)), Fact.own b0 22 1 (j + 1 + (ts.length - j)) (((ts.take j).map encT) ++ [(Value.slice (some ⟨g2, 0, none⟩) sl c2)] ++ ((ts.drop j).map encT))]
set_option maxRecDepth 100000 in
set_option maxHeartbeats 4000000 in
theorem sSteps_c (A A' : Option Addr) (c c' : Nat) (J s : List Int) (w : World) (hr : RdI w w.heap.size A J) (hl : J.length ≤ 1048576) (hr' : RdI w w.heap.size A' s) (hl' : s.length ≤ 1048576) :
    Calls Try.prog 24 #[.slice A J.length c, .slice A' s.length c'] w (RetSS w (stepsP J s)) := by
  have hE := OwnSS.empty w
  have b1 := (Below.refl w.heap.size w).alloc (Nat.le_refl _) (.cells #[] 22)
  have hr1 := hr.at_world b1
  have hcj := Lib.hid (sJugsOk_c A c J _ hr1 hl)
  cases hj : jugsB J
  · have hno := Lib.hid (stepsP_no (J := J) (s := s) (.inl hj))
    rw [hj] at hcj
    go_enter Try.func24, Try.ntmps24
    go_wp2_with fail
    refine hcj.out.mono ?_
    rintro e w' ⟨rfl, rfl⟩
    go_wp2
    go_ret
    exact ⟨_, _, [], rfl, hE, hno.out.symm, b1⟩
  rw [hj] at hcj
  by_cases hsl : s.length = J.length
  · have hlb : ((s.length : Int) != (J.length : Int)) = false := by simp [hsl]
    have hsl' := Lib.hid hsl
    have hJ := jok_of hj
    have hJ1 := hJ.l1
    have hJ3 := hJ.l3
    have hs3 : s.length ≤ 3 := by omega
    have hs1 : 1 ≤ s.length := by omega
    have hJ' := Lib.hid hJ
    have hj' := Lib.hid hj
    obtain ⟨bs, os, -, rfl, hbs, -, -, -⟩ := hr'.at_ (show 0 < s.length by omega)
    obtain ⟨bj, oj, -, rfl, hbj, -, -, -⟩ := hr.at_ (show 0 < J.length by omega)
    clear hsl hJ hj
    have hr2 := hr'.at_world b1
    go_enter Try.func24, Try.ntmps24
    go_wp2_with fail
    refine hcj.out.mono ?_
    rintro e w' ⟨rfl, rfl⟩
    clear hcj
    go_wp2
    go_loopw [6] (fun i wr => ∃ k q : Nat, k ≤ J.length ∧ i = .int .i64 k ∧ wr = (w.alloc (.cells #[] 22)).drewN q ∧ Hid (∀ j, j < k → 0 ≤ at0 s j ∧ at0 s j ≤ at0 J j)) (fun i _ => J.length - (intOf i).toNat)
    case atStart => exact ⟨0, 0, Nat.zero_le _, rfl, rfl, fun j hj => absurd hj (Nat.not_lt_zero _)⟩
    case round =>
      obtain ⟨k, q, hk, rfl, rfl, hall⟩ := hrel
      by_cases hlt : k < J.length
      · have hlts : (k : Int) < (s.length : Int) := by have := hsl'.out; omega
        obtain ⟨x, hb, hc, hx⟩ := hr2.atC (show k < s.length by have := hsl'.out; omega)
        obtain ⟨y, hb', hc', hy⟩ := hr1.atC hlt
        cases hin : inB x 0 y
        · have hno := Lib.hid (stepsP_no (J := J) (s := s) (.inr (.inr (decide_eq_false (fun h => by
            have := h k (by have := hsl'.out; omega)
            rw [at0_get hx.out, at0_get hy.out] at this
            rw [(inB_iff _ _ _).2 this] at hin; cases hin)))))
          go_wp2
          go_quiet ((go_at_call 33; refine Calls.mono (l01In_c _ _ _ _) ?_; rintro e w' ⟨rfl, rfl⟩; exact ⟨rfl, _, rfl⟩))
          go_wp2
          go_ret
          exact ⟨_, _, [], rfl, hE.next (below_drewN (below_drewN (Below.refl _ _) _) _), hno.out.symm, below_drewN (below_drewN b1 _) _⟩
        · have hin2 := Lib.hid ((inB_iff _ _ _).1 hin)
          go_wp2
          go_quiet ((go_at_call 33; refine Calls.mono (l01In_c _ _ _ _) ?_; rintro e w' ⟨rfl, rfl⟩; exact ⟨rfl, _, rfl⟩))
          go_wp2
          go_roundw
          case rel =>
            refine ⟨k + 1, _, by omega, by go_num, rfl, (fun j hj => ?_)⟩
            by_cases e : j = k
            · subst e; rw [at0_get hx.out, at0_get hy.out]; exact hin2.out
            · exact hall.out j (by omega)
          case measure => simp [intOf]; omega
      · obtain rfl : k = J.length := by omega
        have hv : validB J s = true := decide_eq_true (fun j hj => hall.out j (by have := hsl'.out; omega))
        have hyes := Lib.hid (stepsP_yes hj'.out hsl'.out hv)
        have hok := Lib.hid (oks_of hsl'.out hv)
        have b2 := below_drewN b1 q
        have R1 := hr.below b2 (Nat.le_refl _)
        have R2 := hr'.below b2 (Nat.le_refl _)
        have hE2 := hE.next (below_drewN (Below.refl _ _) q)
        have hA0 := Lib.hid ((Acc.nil (n := s.length) (s := s)).congr (ds_zero J s))
        clear hv hall hlt hk b1 hE hr1 hr2 R1 R2
        generalize (w.alloc (.cells #[] 22)).drewN q = W0 at *
        go_wp2
        go_loopw [5, 8] (fun o i wr => ∃ (p : Nat) (gz c1 : Nat) (ts : List Tr), p ≤ J.length + 1 ∧ i = .int .i64 ((p : Int) - 1) ∧ o = .slice (some ⟨gz, 0, none⟩) ts.length c1 ∧ OwnSS wr w.heap.size (some ⟨gz, 0, none⟩) c1 ts ∧ Hid (Go.Proofs.Ytdnknddldfihdaa.Acc s.length (DS J s p 0) s (valT ts)) ∧ ts.length ≤ 4 * p ∧ Below w.heap.size w wr) (fun _ i _ => J.length + 1 - (intOf i + 1).toNat)
        case atStart => exact ⟨0, _, _, [], Nat.zero_le _, rfl, rfl, hE2, hA0, by simp, b2⟩
        case round =>
          clear hE2 hA0
          obtain ⟨p, gz, c1, ts, hp, rfl, rfl, hO, hacc, htl, H⟩ := hrel
          by_cases hlt : p < J.length + 1
          · have hltI : (p : Int) - 1 < (J.length : Int) := by omega
            go_wp2
            go_loopw [5, 9] (fun o i wr => ∃ (q : Nat) (gz c1 : Nat) (ts : List Tr), q ≤ J.length + 1 ∧ i = .int .i64 ((q : Int) - 1) ∧ o = .slice (some ⟨gz, 0, none⟩) ts.length c1 ∧ OwnSS wr w.heap.size (some ⟨gz, 0, none⟩) c1 ts ∧ Hid (Go.Proofs.Ytdnknddldfihdaa.Acc s.length (DS J s p q) s (valT ts)) ∧ ts.length ≤ 4 * p + q ∧ Below w.heap.size w wr) (fun _ i _ => J.length + 1 - (intOf i + 1).toNat)
            case atStart => exact ⟨0, _, _, ts, Nat.zero_le _, rfl, rfl, hO, hacc, by omega, H⟩
            case round =>
              clear hO hacc htl H
              obtain ⟨q, gz, c1, ts, hq, rfl, rfl, hO, hacc, htl, H⟩ := hrel
              by_cases hltq : q < J.length + 1
              · have hltqI : (q : Int) - 1 < (J.length : Int) := by omega
                have hEx := OwnI.empty wr
                have bx := (Below.refl wr.heap.size wr).alloc (Nat.le_refl _) (.cells #[] 3)
                have Rs := Lib.hid (((hr'.below H (Nat.le_refl _)).more H.size).next bx (Nat.le_refl _))
                have hwr0 := H.size
                go_upto_block 6 with (first | (at_builtin; refine wpList_append_rd _ rfl (.tmp 54) (.tmp 55) rfl wr.heap.size (some ⟨wr.heap.size, 0, none⟩) 0 0 [] rfl rfl hEx wr.heap.size (some ⟨bs, os, none⟩) s.length c' s rfl rfl Rs.out (by simp; omega) (by simp) ?_; intro A2 c2 w2 hX hgr hat; (simp only [List.nil_append] at hX); (obtain ⟨g2, rfl, hg2, hg2l, -, -⟩ := OwnI.some_ hX (show 0 < s.length by omega)); (have b2 : Below wr.heap.size wr w2 := bx.grown hgr (by simp) (fun k' hk' => by simp only [Value.ownBlock] at hk'; injection hk' with hk'; omega)); clear hgr hat hEx bx Rs) | fail)
                by_cases hpq : p = q
                · subst hpq
                  go_wp2
                  go_roundw
                  case rel => exact ⟨p + 1, gz, c1, ts, by omega, by first | go_num | (congr 1; omega), rfl, hO.next b2, hacc.out.congr (ds_same p), by omega, chain H b2 (Nat.le_refl _)⟩
                  case measure => simp [intOf]; omega
                · go_cut [10] (fun v wx => v = .slice (some ⟨g2, 0, none⟩) s.length c2 ∧ OwnI wx wr.heap.size (some ⟨g2, 0, none⟩) c2 (mvL J s p q) ∧ Below wr.heap.size wr wx)
                  case first =>
                    have hpI : ¬ (p : Int) - 1 = (q : Int) - 1 := by omega
                    rcases p with _ | p
                    · rcases q with _ | q
                      · exact absurd rfl hpq
                      · obtain ⟨y, -, hcy, hy⟩ := (hr.below (chain H b2 (Nat.le_refl _)) (Nat.le_refl _)).atC (show q < J.length by omega)
                        obtain ⟨sb, hsb⟩ : ∃ x, s[q]? = some x := ⟨_, List.getElem?_eq_getElem (show q < s.length by have := hsl'.out; omega)⟩
                        have hcell := hX.cellI hsb
                        have hfr := hX.frz q
                        have hqs : (q : Int) < (s.length : Int) := by have := hsl'.out; omega
                        have hX2 := hX.stored q y
                        have hyk := Lib.hid (at0_get hy.out)
                        clear hsb
                        go_wp2
                        go_meet
                        exact ⟨rfl, by show OwnI _ _ _ _ (s.set q (at0 J q)); rw [hyk.out]; exact hX2, b2.setCell (p := ⟨g2, q, none⟩) hg2 _⟩
                    · have hps : (p : Int) < (s.length : Int) := by have := hsl'.out; omega
                      obtain ⟨sa, hsa⟩ : ∃ x, s[p]? = some x := ⟨_, List.getElem?_eq_getElem (show p < s.length by have := hsl'.out; omega)⟩
                      have hcell := hX.cellI hsa
                      have hfr := hX.frz p
                      have hsa' := Lib.hid hsa
                      clear hsa
                      rcases q with _ | q
                      · have hX2 := hX.stored p 0
                        go_wp2
                        go_meet
                        exact ⟨rfl, hX2, b2.setCell (p := ⟨g2, p, none⟩) hg2 _⟩
                      · obtain ⟨y, -, hcy, hy⟩ := (hr.below (chain H b2 (Nat.le_refl _)) (Nat.le_refl _)).atC (show q < J.length by omega)
                        obtain ⟨sb, hsb⟩ : ∃ x, s[q]? = some x := ⟨_, List.getElem?_eq_getElem (show q < s.length by have := hsl'.out; omega)⟩
                        have hsb' := Lib.hid hsb
                        have hqs : (q : Int) < (s.length : Int) := by have := hsl'.out; omega
                        have h1 := hok.out.2 p (by have := hsl'.out; omega)
                        have h2 := hok.out.2 q (by omega)
                        have h3 := hJ'.out.b p (by have := hsl'.out; omega)
                        have h4 := hJ'.out.b q (by omega)
                        rw [at0_get hsa'.out] at h1
                        rw [at0_get hsb, at0_get hy.out] at h2
                        rw [at0_get hy.out] at h4
                        obtain ⟨a0, a1⟩ : 0 ≤ sa ∧ sa ≤ 12 := by omega
                        obtain ⟨d0, d1, d2⟩ : 0 ≤ sb ∧ sb ≤ y ∧ y ≤ 12 := by omega
                        clear h1 h2 h3 h4 hsb
                        have hpl := Lib.hid (show mvL J s (p + 1) (q + 1) = (s.set p (sa - min sa (y - sb))).set q (sb + min sa (y - sb)) by show pourL J s p q = _; unfold pourL; rw [at0_get hsa'.out, at0_get hsb'.out, at0_get hy.out])
                        obtain ⟨v, hv⟩ : ∃ v, min sa (y - sb) = v := ⟨_, rfl⟩
                        have hv01 : 0 ≤ v ∧ v ≤ 12 := by omega
                        obtain ⟨v0, v1⟩ := hv01
                        rw [hv] at hpl
                        have hcell2 := hX.cellI hsb'.out
                        have hfr2 := hX.frz q
                        have hpqn : ¬ p = q := fun e => hpq (by rw [e])
                        go_wp2
                        go_quiet (fail)
                        go_wp2
                        go_meet
                        exact ⟨rfl, by rw [hpl.out]; exact ((hX.next (below_drewN (Below.refl _ _) _)).stored p (sa - v)).stored q (sb + v), ((below_drewN b2 _).setCell (p := ⟨g2, p, none⟩) hg2 _).setCell (p := ⟨g2, q, none⟩) hg2 _⟩
                  case rest =>
                    clear hX b2
                    obtain ⟨rfl, hX, b2⟩ := hcut
                    have hds := Lib.hid (fun y => ds_next (J := J) (s := s) (show p ≤ J.length by omega) (show q ≤ J.length by omega) hpq y)
                    have hXl := mvL_length J s p q
                    obtain ⟨X, hXe⟩ : ∃ X, mvL J s p q = X := ⟨_, rfl⟩
                    rw [hXe] at hX hds hXl
                    have hXl' := Lib.hid hXl
                    have hT : InT wc w.heap.size (g2, c2, X) := OwnI.more hX H.size
                    have hne := Lib.hid (fresh_ne hO hg2)
                    replace hO := hO.next b2
                    replace H := chain H b2 (Nat.le_refl _)
                    have Rs := (hr'.below H (Nat.le_refl _)).more H.size
                    have hS := Lib.hid (sameS_c (some ⟨g2, 0, none⟩) (some ⟨bs, os, none⟩) c2 c' X s wc hX.rd Rs (by omega) hXl.symm)
                    rw [hXl] at hS
                    clear hXe b2 hX hXl Rs hg2 hg2l hpq hwr0
                    cases hb : X == s
                    · rw [hb] at hS
                      have hb' := Lib.hid hb
                      clear hb
                      go_wp2_with fail
                      refine hS.out.mono ?_
                      rintro e w3 ⟨rfl, q3, rfl⟩
                      replace hO := hO.next (below_drewN (Below.refl _ _) q3)
                      replace H := below_drewN H q3
                      replace hT := hT.next (below_drewN (Below.refl _ _) q3)
                      clear hS
                      generalize wc.drewN q3 = W1 at hO H hT ⊢
                      go_upto_block 7 with fail
                      go_cut [12] (fun i wy => ∃ j q4 : Nat, j ≤ ts.length ∧ i = .int .i64 j ∧ wy = W1.drewN q4 ∧ Hid (∀ y ∈ (valT ts).take j, lessL y X = true) ∧ Hid (j = ts.length ∨ ∃ y, (valT ts)[j]? = some y ∧ lessL y X = false))
                      case first =>
                        go_wp2_with fail
                        go_loopw [12] (fun i wy => ∃ j q4 : Nat, j ≤ ts.length ∧ i = .int .i64 j ∧ wy = W1.drewN q4 ∧ Hid (∀ y ∈ (valT ts).take j, lessL y X = true)) (fun i _ => ts.length - (intOf i).toNat)
                        case atStart => exact ⟨0, 0, Nat.zero_le _, rfl, rfl, (fun y hy => by simp at hy)⟩
                        case round =>
                          obtain ⟨j, q4, hj, rfl, rfl, hall⟩ := hrel
                          by_cases hjl : j < ts.length
                          · obtain ⟨gb, db, xs, hgz, hc, hrx, hx, hvx⟩ := hO.atC hjl
                            have hxl : xs.length = s.length := hacc.out.lens hs3 _ (List.mem_of_getElem? hx.out)
                            have hL := Lib.hid (lessS_c (some ⟨gb, 0, none⟩) (some ⟨g2, 0, none⟩) db c2 xs X (W1.drewN q4) hrx hT.rd (by omega) (by rw [hXl'.out, hxl]))
                            rw [hXl'.out, hxl] at hL
                            rw [hxl] at hc
                            clear hxl hrx
                            cases hb2 : lessL xs X
                            · rw [hb2] at hL
                              have hb2' := Lib.hid hb2
                              clear hb2
                              go_wp2_with fail
                              refine hL.out.mono ?_
                              rintro e w3 ⟨rfl, q5, rfl⟩
                              go_wp2
                              go_meet
                              exact ⟨j, q4 + q5, by omega, rfl, by first | rfl | exact drew2 _ _ _, hall, .inr ⟨xs, hvx.out, hb2'.out⟩⟩
                            · rw [hb2] at hL
                              have hb2' := Lib.hid hb2
                              clear hb2
                              go_wp2_with fail
                              refine hL.out.mono ?_
                              rintro e w3 ⟨rfl, q5, rfl⟩
                              go_wp2
                              go_roundw
                              case rel =>
                                refine ⟨j + 1, q4 + q5, by omega, by go_num, by first | rfl | exact drew2 _ _ _, (fun y hy => ?_)⟩
                                rw [List.take_add_one, hvx.out] at hy
                                rcases List.mem_append.1 hy with h | h
                                · exact hall.out y h
                                · have : y = xs := by simpa using h
                                  rw [this]; exact hb2'.out
                              case measure => simp [intOf]; omega
                          · obtain rfl : j = ts.length := by omega
                            go_wp2
                            go_meet
                            exact ⟨ts.length, q4, Nat.le_refl _, rfl, rfl, hall, .inl rfl⟩
                      case rest =>
                        obtain ⟨j, q4, hj, rfl, rfl, hall, hat⟩ := hcut
                        replace hO := hO.next (below_drewN (Below.refl _ _) q4)
                        replace H := below_drewN H q4
                        replace hT := hT.next (below_drewN (Below.refl _ _) q4)
                        generalize W1.drewN q4 = W2 at hO H hT ⊢
                        by_cases hjl : j < ts.length
                        · obtain ⟨gb, db, xs, hgz, hc, hrx, hx, hvx⟩ := hO.atC hjl
                          have hxl : xs.length = s.length := hacc.out.lens hs3 _ (List.mem_of_getElem? hx.out)
                          have hL := Lib.hid (sameS_c (some ⟨gb, 0, none⟩) (some ⟨g2, 0, none⟩) db c2 xs X W2 hrx hT.rd (by omega) (by rw [hXl'.out, hxl]))
                          rw [hXl'.out, hxl] at hL
                          rw [hxl] at hc
                          have hless : lessL xs X = false := by
                            rcases hat.out with e | ⟨y, hy, hl⟩
                            · omega
                            · rw [hvx.out] at hy; injection hy with hy; rw [hy]; exact hl
                          have hless' := Lib.hid hless
                          clear hxl hrx hless
                          cases hb2 : xs == X
                          · rw [hb2] at hL
                            have hat2 : Hid (j = (valT ts).length ∨ ∃ y, (valT ts)[j]? = some y ∧ lessL y X = false ∧ y ≠ X) := .inr ⟨xs, hvx.out, hless'.out, by simpa using hb2⟩
                            clear hb2
                            go_wp2_with fail
                            refine hL.out.mono ?_
                            rintro e w3 ⟨rfl, q5, rfl⟩
                            replace hO := hO.next (below_drewN (Below.refl _ _) q5)
                            replace H := below_drewN H q5
                            replace hT := hT.next (below_drewN (Below.refl _ _) q5)
                            clear hL hc hx hvx hless' hat
                            generalize W2.drewN q5 = W2 at hO H hT ⊢
                            obtain ⟨hgz1, hgz2, hjc, -⟩ : w.heap.size ≤ gz ∧ gz < W2.heap.size ∧ ts.length ≤ c1 ∧ c1 ≤ maxLen := by
                              rcases hO.row.form with ⟨e, _⟩ | ⟨g', e, h1, h2, h3, h4⟩
                              · cases e
                              · injection e with e; injection e with e; subst e; exact ⟨h1, h2, h3, h4⟩
                            have RO := hO.row.rd
                            have R1 : Hid (RdV W2 W2.heap.size (some ⟨gz, 0, none⟩) ((ts.take j).map encT)) := by
                              have h9 := RO.take j
                              rw [← List.map_take] at h9
                              exact h9
                            obtain ⟨AD, hAD, hRA⟩ : ∃ AD : Addr, (if c1 = j then some (⟨gz, 0, none⟩ : Addr) else some ⟨gz, j, none⟩) = some AD ∧ Hid (RdV W2 W2.heap.size (some AD) ((ts.drop j).map encT)) := by
                              by_cases hck : c1 = j
                              · refine ⟨⟨gz, 0, none⟩, by simp [hck], ?_⟩
                                have h9 : ts.drop j = [] := List.drop_of_length_le (by omega)
                                rw [h9]; exact .inl rfl
                              · refine ⟨⟨gz, j, none⟩, by simp [hck], ?_⟩
                                have h9 := RO.drop rfl j
                                rw [Nat.zero_add, ← List.map_drop] at h9
                                exact h9
                            have hjc2 : j ≤ c1 := by omega
                            have hsz2 := H.size
                            clear RO hgz1 hgz2 hjc
                            go_upto_region 30 with fail
                            refine wp_region_factsK (W2.heap.size) 999 (stepF W2.heap.size gz c1 j g2 c2 s.length ts AD) (fun j => match j with | 0 => 4 | 4 => 7 | 6 => 7 | 7 => 11 | _ => 999) (fun d vs _ => d 12 = false → vs 12 = (.slice (some ⟨gz, 0, none⟩) ts.length c1)) ?_ (by kernel_rfl) (by kernel_rfl) (by first | rfl | decide) (fun vs => ?_) (fun _ => rfl) ?_ ?_
                            rotate_left
                            · simp only [putAll, Act.put, List.setIfInBounds_toArray, List.set_cons_succ, List.set_cons_zero]
                              rfl
                            · refine ⟨?_, ?_, ?_, ?_, ?_, ?_, ?_, ?_, ?_, ?_, ?_, ?_, ?_, trivial⟩
                              · intro ops d vs w1 K hI hcl hk hd hK
                                have hO := hI.old hI.no
                                refine ⟨trivial, ?_⟩
                                dsimp only
                                go_wp2
                                exact hI.put (k := 0) (v := (.slice (some ⟨w1.heap.size, 0, none⟩) 0 0)) ((Below.refl w1.heap.size w1).alloc (Nat.le_refl _) (.cells #[] 22)) (by omega) ⟨w1.heap.size, rfl, hO.size, Blk.new w1 _ _⟩ (hI.2.2.2)
                              · intro ops d vs w1 K hI hcl hk hd hK
                                have hO := hI.old hI.no
                                have h12 : vs 12 = (.slice (some ⟨gz, 0, none⟩) ts.length c1) := hI.2.2.2 (not_yet (fun h => absurd (hcl 12 _ rfl h) (by simp [hk])))
                                refine ⟨trivial, ?_⟩
                                dsimp only
                                go_wp2
                                exact hI.pure_ (k := 1) (v := (.slice (some ⟨gz, 0, none⟩) ts.length c1)) (by omega) rfl (hI.2.2.2)
                              · intro ops d vs w1 K hI hcl hk hd hK
                                have hO := hI.old hI.no
                                refine ⟨trivial, ?_⟩
                                dsimp only
                                go_wp2
                                exact hI.pure_ (k := 2) (v := (.int .i64 (j : Int))) (by omega) rfl (hI.2.2.2)
                              · intro ops d vs w1 K hI hcl hk hd hK
                                have hO := hI.old hI.no
                                have hd0 : d 1 = true ∧ d 2 = true := by simp at hd; simp [hd]
                                have e1 : vs 1 = (.slice (some ⟨gz, 0, none⟩) ts.length c1) := hI.get hd0.1 hI.no
                                have e2 : vs 2 = (.int .i64 (j : Int)) := hI.get hd0.2 hI.no
                                refine ⟨trivial, ?_⟩
                                dsimp only
                                go_wp2
                                exact hI.pure_ (k := 3) (v := (.slice (some ⟨gz, 0, none⟩) j c1)) (by omega) rfl (hI.2.2.2)
                              · intro ops d vs w1 K hI hcl hk hd hK
                                have hO := hI.old hI.no
                                have hd0 : d 3 = true := by simp at hd; simp [hd]
                                have e3 : vs 3 = (.slice (some ⟨gz, 0, none⟩) j c1) := hI.get hd0 hI.no
                                have hd00 : d 0 = true := by simp at hd; simp [hd]
                                have q0 : ∃ g, vs 0 = .slice (some ⟨g, 0, none⟩) 0 0 ∧ W2.heap.size ≤ g ∧ Blk w1 g 22 #[] := hI.get hd00 hk
                                refine Exists.elim q0 fun g q => ?_
                                have e0 := q.1
                                have hg0 := q.2.1
                                have B := q.2.2
                                have hv : RdV w1 w1.heap.size (some ⟨gz, 0, none⟩) ((ts.take j).map encT) := RdV.step R1.out hO
                                refine ⟨trivial, ?_⟩
                                dsimp only
                                refine wpList_append_e rowSS _ rfl (.tmp 139) (.tmp 142) rfl W2.heap.size g e0 hg0 B w1.heap.size (some ⟨gz, 0, none⟩) j c1 ((ts.take j).map encT) (by simp; omega) e3 hv (encs_one _) (by omega) hO.size ?_
                                intro A4 c4 w4 o4 b4 hat
                                exact wpList_nil (hK (.slice A4 j c4) w4 (hI.put (k := 4) (v := .slice A4 j c4) b4 (by omega) ⟨A4, c4, rfl, o4⟩ hI.2.2.2))
                              · intro ops d vs w1 K hI hcl hk hd hK
                                have hO := hI.old hI.no
                                refine ⟨trivial, ?_⟩
                                dsimp only
                                go_wp2
                                exact hI.pure_ (k := 5) (v := (Value.slice (some ⟨g2, 0, none⟩) s.length c2)) (by omega) rfl (hI.2.2.2)
                              · intro ops d vs w1 K hI hcl hk hd hK
                                have hO := hI.old hI.no
                                have hd0 : d 5 = true := by simp at hd; simp [hd]
                                have e5 : vs 5 = (Value.slice (some ⟨g2, 0, none⟩) s.length c2) := hI.get hd0 hI.no
                                refine ⟨trivial, ?_⟩
                                dsimp only
                                go_wp2
                                exact hI.put (k := 6) (v := (.slice (some ⟨w1.heap.size, 0, none⟩) 1 1)) ((Below.refl w1.heap.size w1).alloc (Nat.le_refl _) (.cells #[(Value.slice (some ⟨g2, 0, none⟩) s.length c2)] 22)) (by omega) ⟨w1.heap.size, rfl, hO.size, Blk.new w1 _ _⟩ (hI.2.2.2)
                              · intro ops d vs w1 K hI hcl hk hd hK
                                have hO := hI.old hI.no
                                have hd0 : d 4 = true ∧ d 6 = true := by simp at hd; simp [hd]
                                have q4 : ∃ A4 c4, vs 4 = .slice A4 j c4 ∧ OwnV w1 W2.heap.size 22 1 A4 j c4 ((ts.take j).map encT) := hI.get hd0.1 hk
                                have q8 : ∃ g, vs 6 = .slice (some ⟨g, 0, none⟩) 1 1 ∧ W2.heap.size ≤ g ∧ Blk w1 g 22 #[(Value.slice (some ⟨g2, 0, none⟩) s.length c2)] := hI.get hd0.2 hk
                                refine Exists.elim q4 fun A4 q => Exists.elim q fun c4 q => Exists.elim q8 fun g r => ?_
                                have e4 := q.1
                                have o4 := q.2
                                have e6 := r.1
                                have B := r.2.2
                                refine ⟨trivial, ?_⟩
                                dsimp only
                                refine wpList_append_v rowSS _ rfl (.tmp 143) (.tmp 145) rfl W2.heap.size A4 j c4 ((ts.take j).map encT) e4 o4 w1.heap.size (some ⟨g, 0, none⟩) 1 1 [(Value.slice (some ⟨g2, 0, none⟩) s.length c2)] rfl e6 (RdV.of_blk B) (by intro u hu; simp at hu; subst hu; rfl) (by omega) hO.size ?_
                                intro A7 c7 w7 o7 hg hat
                                exact wpList_nil (hK (.slice A7 (j + 1) c7) w7 (hI.row (k := 7) (v := .slice A7 (j + 1) c7) hg o4.row_ge (by omega) ⟨A7, c7, rfl, o7⟩ (fun j2 hj hjk hdk hal hP => match j2, hj, hjk, hdk, hal, hP with | 0, hj, _, _, hal, hP => absurd hal (by simp [hd0.1]) | 1, _, _, _, _, _ => .inl rfl | 2, _, _, _, _, _ => .inl rfl | 3, _, _, _, _, _ => .inl rfl | 4, _, _, h, _, _ => absurd rfl h | 5, _, _, _, _, _ => .inl rfl | 6, _, _, h, _, _ => absurd rfl h | 7, _, h, _, _, _ => absurd rfl h | 8, _, _, _, _, _ => .inl rfl | 9, _, _, _, _, _ => .inl rfl | 10, _, _, _, _, _ => .inl rfl | 11, hj, _, _, hal, hP => absurd (hcl 11 _ rfl hj) (by simp [hk]) | 12, hj, _, _, hal, hP => absurd (hcl 12 _ rfl hj) (by simp [hk]) | n + 13, _, _, _, _, _ => .inl rfl) hI.2.2.2))
                              · intro ops d vs w1 K hI hcl hk hd hK
                                have hO := hI.old hI.no
                                have h12 : vs 12 = (.slice (some ⟨gz, 0, none⟩) ts.length c1) := hI.2.2.2 (not_yet (fun h => absurd (hcl 12 _ rfl h) (by simp [hk])))
                                refine ⟨trivial, ?_⟩
                                dsimp only
                                go_wp2
                                exact hI.pure_ (k := 8) (v := (.slice (some ⟨gz, 0, none⟩) ts.length c1)) (by omega) rfl (hI.2.2.2)
                              · intro ops d vs w1 K hI hcl hk hd hK
                                have hO := hI.old hI.no
                                refine ⟨trivial, ?_⟩
                                dsimp only
                                go_wp2
                                exact hI.pure_ (k := 9) (v := (.int .i64 (j : Int))) (by omega) rfl (hI.2.2.2)
                              · intro ops d vs w1 K hI hcl hk hd hK
                                have hO := hI.old hI.no
                                have hd0 : d 8 = true ∧ d 9 = true := by simp at hd; simp [hd]
                                have e8 : vs 8 = (.slice (some ⟨gz, 0, none⟩) ts.length c1) := hI.get hd0.1 hI.no
                                have e9 : vs 9 = (.int .i64 (j : Int)) := hI.get hd0.2 hI.no
                                refine ⟨trivial, ?_⟩
                                dsimp only
                                go_wp2
                                exact hI.pure_ (k := 10) (v := (.slice (some AD) (ts.length - j) (c1 - j))) (by omega) rfl (hI.2.2.2)
                              · intro ops d vs w1 K hI hcl hk hd hK
                                have hO := hI.old hI.no
                                have hd0 : d 10 = true := by simp at hd; simp [hd]
                                have e10 : vs 10 = (.slice (some AD) (ts.length - j) (c1 - j)) := hI.get hd0 hI.no
                                have hd9 : d 7 = true := by simp at hd; simp [hd]
                                have q9 : ∃ A9 c9, vs 7 = .slice A9 (j + 1) c9 ∧ OwnV w1 W2.heap.size 22 1 A9 (j + 1) c9 (((ts.take j).map encT) ++ [(Value.slice (some ⟨g2, 0, none⟩) s.length c2)]) := hI.get hd9 hk
                                refine Exists.elim q9 fun A9 q => Exists.elim q fun c9 q => ?_
                                have e9 := q.1
                                have o9 := q.2
                                have hv : RdV w1 w1.heap.size (some AD) ((ts.drop j).map encT) := RdV.step hRA.out hO
                                refine ⟨trivial, ?_⟩
                                dsimp only
                                refine wpList_append_v rowSS _ rfl (.tmp 146) (.tmp 149) rfl W2.heap.size A9 (j + 1) c9 _ e9 o9 w1.heap.size (some AD) (ts.length - j) (c1 - j) ((ts.drop j).map encT) (by simp) e10 hv (encs_one _) (by omega) hO.size ?_
                                intro A13 c13 w13 o13 hg hat
                                exact wpList_nil (hK (.slice A13 (j + 1 + (ts.length - j)) c13) w13 (hI.row (k := 11) (v := .slice A13 (j + 1 + (ts.length - j)) c13) hg o9.row_ge (by omega) ⟨A13, c13, rfl, o13⟩ (fun j2 hj hjk hdk hal hP => match j2, hj, hjk, hdk, hal, hP with | 0, hj, _, _, hal, hP => absurd hal (by have := hcl 7 _ rfl hd9; simp at this; simp [this]) | 1, _, _, _, _, _ => .inl rfl | 2, _, _, _, _, _ => .inl rfl | 3, _, _, _, _, _ => .inl rfl | 4, hj, _, _, hal, hP => absurd hal (by simp [hd9]) | 5, _, _, _, _, _ => .inl rfl | 6, hj, _, _, hal, hP => absurd hal (by simp [hd9]) | 7, _, _, h, _, _ => absurd rfl h | 8, _, _, _, _, _ => .inl rfl | 9, _, _, _, _, _ => .inl rfl | 10, _, _, _, _, _ => .inl rfl | 11, _, h, _, _, _ => absurd rfl h | 12, hj, _, _, hal, hP => absurd (hcl 12 _ rfl hj) (by simp [hk]) | n + 13, _, _, _, _, _ => .inl rfl) hI.2.2.2))
                              · intro ops d vs w1 K hI hcl hk hd hK
                                have hO := hI.old hI.no
                                have hd13 : d 11 = true := by simp at hd; simp [hd]
                                have q13 : ∃ A13 c13, vs 11 = .slice A13 (j + 1 + (ts.length - j)) c13 ∧ OwnV w1 W2.heap.size 22 1 A13 (j + 1 + (ts.length - j)) c13 (((ts.take j).map encT) ++ [(Value.slice (some ⟨g2, 0, none⟩) s.length c2)] ++ ((ts.drop j).map encT)) := hI.get hd13 hI.no
                                refine Exists.elim q13 fun A13 q => Exists.elim q fun c13 q => ?_
                                have e11 := q.1
                                have o13 := q.2
                                refine ⟨trivial, ?_⟩
                                dsimp only
                                go_wp2
                                exact hI.pure_ (k := 12) (v := .slice A13 (j + 1 + (ts.length - j)) c13) (by omega) ⟨A13, c13, rfl, o13⟩ (fun h => absurd h (by simp [upd]))
                            · intro d vs w1 hI hd
                              obtain ⟨A13, c13, e12, o13⟩ : (Fact.own W2.heap.size 22 1 (j + 1 + (ts.length - j)) (((ts.take j).map encT) ++ [(Value.slice (some ⟨g2, 0, none⟩) s.length c2)] ++ ((ts.drop j).map encT))).P (vs 12) w1 := hI.get (hd 12 (by decide)) hI.no
                              have b8 := hI.old hI.no
                              have hlen : j + 1 + (ts.length - j) = ts.length + 1 := by omega
                              rw [hlen] at e12 o13
                              replace hd := Lib.hid hd
                              rw [e12]
                              clear hI hd e12 hlen
                              go_wp2
                              have hOn := hO.next b8
                              have hTn := hT.next b8
                              have hXV : encT (g2, c2, X) = .slice (some ⟨g2, 0, none⟩) s.length c2 := by unfold encT; show Value.slice _ X.length _ = _; rw [hXl'.out]
                              have o14 : OwnV w1 w.heap.size 22 1 A13 (ts.length + 1) c13 ((ts.take j).map encT ++ [encT (g2, c2, X)] ++ (ts.drop j).map encT) := by rw [hXV]; exact OwnV.more o13 hsz2
                              have hins := OwnSS.insert hOn hTn hne.out hj o14
                              have hl3 : (ts.take j ++ (g2, c2, X) :: ts.drop j).length = ts.length + 1 := by simp; omega
                              have hacn : Hid (Go.Proofs.Ytdnknddldfihdaa.Acc s.length (DS J s p (q + 1)) s (valT (ts.take j ++ (g2, c2, X) :: ts.drop j))) := by
                                have h9 := (hacc.out.ins (x := X) hXl'.out (by simpa using hb'.out) (k := j) (by rw [valT_length]; exact hj) hall.out hat2.out).congr hds.out
                                have h10 : valT (ts.take j ++ (g2, c2, X) :: ts.drop j) = (valT ts).take j ++ X :: (valT ts).drop j := by simp [valT]
                                rw [h10]; exact h9
                              obtain ⟨gn, hgn, -⟩ := hins.some_ (show 0 < (ts.take j ++ (g2, c2, X) :: ts.drop j).length by omega)
                              subst hgn
                              have Hn := chain H b8 (Nat.le_refl _)
                              have hl3' := Lib.hid hl3
                              clear hl3 hXV o14 o13 hOn hTn
                              go_roundw
                              case rel => exact ⟨q + 1, gn, c13, ts.take j ++ (g2, c2, X) :: ts.drop j, by omega, by first | go_num | (congr 1; omega), by rw [hl3'.out], hins, hacn, by rw [hl3'.out]; omega, Hn⟩
                              case measure => simp [intOf]; omega
                          · rw [hb2] at hL
                            have hm : X ∈ valT ts := by
                              have e : xs = X := by simpa using hb2
                              rw [← e]; exact List.mem_of_getElem? hvx.out
                            have hm' := Lib.hid hm
                            clear hb2 hm
                            go_wp2_with fail
                            refine hL.out.mono ?_
                            rintro e w3 ⟨rfl, q5, rfl⟩
                            go_wp2
                            go_roundw
                            case rel => exact ⟨q + 1, gz, c1, ts, by omega, by first | go_num | (congr 1; omega), rfl, hO.next (below_drewN (Below.refl _ _) q5), (hacc.out.same hm'.out).congr hds.out, by omega, below_drewN H q5⟩
                            case measure => simp [intOf]; omega
                        · have hat2 : Hid (j = (valT ts).length ∨ ∃ y, (valT ts)[j]? = some y ∧ lessL y X = false ∧ y ≠ X) := .inl (by rw [valT_length]; omega)
                          have hjb : ((j : Int) == (ts.length : Int)) = true := by simp; omega
                          clear hat
                          obtain ⟨hgz1, hgz2, hjc, -⟩ : w.heap.size ≤ gz ∧ gz < W2.heap.size ∧ ts.length ≤ c1 ∧ c1 ≤ maxLen := by
                            rcases hO.row.form with ⟨e, _⟩ | ⟨g', e, h1, h2, h3, h4⟩
                            · cases e
                            · injection e with e; injection e with e; subst e; exact ⟨h1, h2, h3, h4⟩
                          have RO := hO.row.rd
                          have R1 : Hid (RdV W2 W2.heap.size (some ⟨gz, 0, none⟩) ((ts.take j).map encT)) := by
                            have h9 := RO.take j
                            rw [← List.map_take] at h9
                            exact h9
                          obtain ⟨AD, hAD, hRA⟩ : ∃ AD : Addr, (if c1 = j then some (⟨gz, 0, none⟩ : Addr) else some ⟨gz, j, none⟩) = some AD ∧ Hid (RdV W2 W2.heap.size (some AD) ((ts.drop j).map encT)) := by
                            by_cases hck : c1 = j
                            · refine ⟨⟨gz, 0, none⟩, by simp [hck], ?_⟩
                              have h9 : ts.drop j = [] := List.drop_of_length_le (by omega)
                              rw [h9]; exact .inl rfl
                            · refine ⟨⟨gz, j, none⟩, by simp [hck], ?_⟩
                              have h9 := RO.drop rfl j
                              rw [Nat.zero_add, ← List.map_drop] at h9
                              exact h9
                          have hjc2 : j ≤ c1 := by omega
                          have hsz2 := H.size
                          clear RO hgz1 hgz2 hjc
                          go_upto_region 30 with fail
                          refine wp_region_factsK (W2.heap.size) 999 (stepF W2.heap.size gz c1 j g2 c2 s.length ts AD) (fun j => match j with | 0 => 4 | 4 => 7 | 6 => 7 | 7 => 11 | _ => 999) (fun d vs _ => d 12 = false → vs 12 = (.slice (some ⟨gz, 0, none⟩) ts.length c1)) ?_ (by kernel_rfl) (by kernel_rfl) (by first | rfl | decide) (fun vs => ?_) (fun _ => rfl) ?_ ?_
                          rotate_left
                          · simp only [putAll, Act.put, List.setIfInBounds_toArray, List.set_cons_succ, List.set_cons_zero]
                            rfl
                          · refine ⟨?_, ?_, ?_, ?_, ?_, ?_, ?_, ?_, ?_, ?_, ?_, ?_, ?_, trivial⟩
                            · intro ops d vs w1 K hI hcl hk hd hK
                              have hO := hI.old hI.no
                              refine ⟨trivial, ?_⟩
                              dsimp only
                              go_wp2
                              exact hI.put (k := 0) (v := (.slice (some ⟨w1.heap.size, 0, none⟩) 0 0)) ((Below.refl w1.heap.size w1).alloc (Nat.le_refl _) (.cells #[] 22)) (by omega) ⟨w1.heap.size, rfl, hO.size, Blk.new w1 _ _⟩ (hI.2.2.2)
                            · intro ops d vs w1 K hI hcl hk hd hK
                              have hO := hI.old hI.no
                              have h12 : vs 12 = (.slice (some ⟨gz, 0, none⟩) ts.length c1) := hI.2.2.2 (not_yet (fun h => absurd (hcl 12 _ rfl h) (by simp [hk])))
                              refine ⟨trivial, ?_⟩
                              dsimp only
                              go_wp2
                              exact hI.pure_ (k := 1) (v := (.slice (some ⟨gz, 0, none⟩) ts.length c1)) (by omega) rfl (hI.2.2.2)
                            · intro ops d vs w1 K hI hcl hk hd hK
                              have hO := hI.old hI.no
                              refine ⟨trivial, ?_⟩
                              dsimp only
                              go_wp2
                              exact hI.pure_ (k := 2) (v := (.int .i64 (j : Int))) (by omega) rfl (hI.2.2.2)
                            · intro ops d vs w1 K hI hcl hk hd hK
                              have hO := hI.old hI.no
                              have hd0 : d 1 = true ∧ d 2 = true := by simp at hd; simp [hd]
                              have e1 : vs 1 = (.slice (some ⟨gz, 0, none⟩) ts.length c1) := hI.get hd0.1 hI.no
                              have e2 : vs 2 = (.int .i64 (j : Int)) := hI.get hd0.2 hI.no
                              refine ⟨trivial, ?_⟩
                              dsimp only
                              go_wp2
                              exact hI.pure_ (k := 3) (v := (.slice (some ⟨gz, 0, none⟩) j c1)) (by omega) rfl (hI.2.2.2)
                            · intro ops d vs w1 K hI hcl hk hd hK
                              have hO := hI.old hI.no
                              have hd0 : d 3 = true := by simp at hd; simp [hd]
                              have e3 : vs 3 = (.slice (some ⟨gz, 0, none⟩) j c1) := hI.get hd0 hI.no
                              have hd00 : d 0 = true := by simp at hd; simp [hd]
                              have q0 : ∃ g, vs 0 = .slice (some ⟨g, 0, none⟩) 0 0 ∧ W2.heap.size ≤ g ∧ Blk w1 g 22 #[] := hI.get hd00 hk
                              refine Exists.elim q0 fun g q => ?_
                              have e0 := q.1
                              have hg0 := q.2.1
                              have B := q.2.2
                              have hv : RdV w1 w1.heap.size (some ⟨gz, 0, none⟩) ((ts.take j).map encT) := RdV.step R1.out hO
                              refine ⟨trivial, ?_⟩
                              dsimp only
                              refine wpList_append_e rowSS _ rfl (.tmp 139) (.tmp 142) rfl W2.heap.size g e0 hg0 B w1.heap.size (some ⟨gz, 0, none⟩) j c1 ((ts.take j).map encT) (by simp; omega) e3 hv (encs_one _) (by omega) hO.size ?_
                              intro A4 c4 w4 o4 b4 hat
                              exact wpList_nil (hK (.slice A4 j c4) w4 (hI.put (k := 4) (v := .slice A4 j c4) b4 (by omega) ⟨A4, c4, rfl, o4⟩ hI.2.2.2))
                            · intro ops d vs w1 K hI hcl hk hd hK
                              have hO := hI.old hI.no
                              refine ⟨trivial, ?_⟩
                              dsimp only
                              go_wp2
                              exact hI.pure_ (k := 5) (v := (Value.slice (some ⟨g2, 0, none⟩) s.length c2)) (by omega) rfl (hI.2.2.2)
                            · intro ops d vs w1 K hI hcl hk hd hK
                              have hO := hI.old hI.no
                              have hd0 : d 5 = true := by simp at hd; simp [hd]
                              have e5 : vs 5 = (Value.slice (some ⟨g2, 0, none⟩) s.length c2) := hI.get hd0 hI.no
                              refine ⟨trivial, ?_⟩
                              dsimp only
                              go_wp2
                              exact hI.put (k := 6) (v := (.slice (some ⟨w1.heap.size, 0, none⟩) 1 1)) ((Below.refl w1.heap.size w1).alloc (Nat.le_refl _) (.cells #[(Value.slice (some ⟨g2, 0, none⟩) s.length c2)] 22)) (by omega) ⟨w1.heap.size, rfl, hO.size, Blk.new w1 _ _⟩ (hI.2.2.2)
                            · intro ops d vs w1 K hI hcl hk hd hK
                              have hO := hI.old hI.no
                              have hd0 : d 4 = true ∧ d 6 = true := by simp at hd; simp [hd]
                              have q4 : ∃ A4 c4, vs 4 = .slice A4 j c4 ∧ OwnV w1 W2.heap.size 22 1 A4 j c4 ((ts.take j).map encT) := hI.get hd0.1 hk
                              have q8 : ∃ g, vs 6 = .slice (some ⟨g, 0, none⟩) 1 1 ∧ W2.heap.size ≤ g ∧ Blk w1 g 22 #[(Value.slice (some ⟨g2, 0, none⟩) s.length c2)] := hI.get hd0.2 hk
                              refine Exists.elim q4 fun A4 q => Exists.elim q fun c4 q => Exists.elim q8 fun g r => ?_
                              have e4 := q.1
                              have o4 := q.2
                              have e6 := r.1
                              have B := r.2.2
                              refine ⟨trivial, ?_⟩
                              dsimp only
                              refine wpList_append_v rowSS _ rfl (.tmp 143) (.tmp 145) rfl W2.heap.size A4 j c4 ((ts.take j).map encT) e4 o4 w1.heap.size (some ⟨g, 0, none⟩) 1 1 [(Value.slice (some ⟨g2, 0, none⟩) s.length c2)] rfl e6 (RdV.of_blk B) (by intro u hu; simp at hu; subst hu; rfl) (by omega) hO.size ?_
                              intro A7 c7 w7 o7 hg hat
                              exact wpList_nil (hK (.slice A7 (j + 1) c7) w7 (hI.row (k := 7) (v := .slice A7 (j + 1) c7) hg o4.row_ge (by omega) ⟨A7, c7, rfl, o7⟩ (fun j2 hj hjk hdk hal hP => match j2, hj, hjk, hdk, hal, hP with | 0, hj, _, _, hal, hP => absurd hal (by simp [hd0.1]) | 1, _, _, _, _, _ => .inl rfl | 2, _, _, _, _, _ => .inl rfl | 3, _, _, _, _, _ => .inl rfl | 4, _, _, h, _, _ => absurd rfl h | 5, _, _, _, _, _ => .inl rfl | 6, _, _, h, _, _ => absurd rfl h | 7, _, h, _, _, _ => absurd rfl h | 8, _, _, _, _, _ => .inl rfl | 9, _, _, _, _, _ => .inl rfl | 10, _, _, _, _, _ => .inl rfl | 11, hj, _, _, hal, hP => absurd (hcl 11 _ rfl hj) (by simp [hk]) | 12, hj, _, _, hal, hP => absurd (hcl 12 _ rfl hj) (by simp [hk]) | n + 13, _, _, _, _, _ => .inl rfl) hI.2.2.2))
                            · intro ops d vs w1 K hI hcl hk hd hK
                              have hO := hI.old hI.no
                              have h12 : vs 12 = (.slice (some ⟨gz, 0, none⟩) ts.length c1) := hI.2.2.2 (not_yet (fun h => absurd (hcl 12 _ rfl h) (by simp [hk])))
                              refine ⟨trivial, ?_⟩
                              dsimp only
                              go_wp2
                              exact hI.pure_ (k := 8) (v := (.slice (some ⟨gz, 0, none⟩) ts.length c1)) (by omega) rfl (hI.2.2.2)
                            · intro ops d vs w1 K hI hcl hk hd hK
                              have hO := hI.old hI.no
                              refine ⟨trivial, ?_⟩
                              dsimp only
                              go_wp2
                              exact hI.pure_ (k := 9) (v := (.int .i64 (j : Int))) (by omega) rfl (hI.2.2.2)
                            · intro ops d vs w1 K hI hcl hk hd hK
                              have hO := hI.old hI.no
                              have hd0 : d 8 = true ∧ d 9 = true := by simp at hd; simp [hd]
                              have e8 : vs 8 = (.slice (some ⟨gz, 0, none⟩) ts.length c1) := hI.get hd0.1 hI.no
                              have e9 : vs 9 = (.int .i64 (j : Int)) := hI.get hd0.2 hI.no
                              refine ⟨trivial, ?_⟩
                              dsimp only
                              go_wp2
                              exact hI.pure_ (k := 10) (v := (.slice (some AD) (ts.length - j) (c1 - j))) (by omega) rfl (hI.2.2.2)
                            · intro ops d vs w1 K hI hcl hk hd hK
                              have hO := hI.old hI.no
                              have hd0 : d 10 = true := by simp at hd; simp [hd]
                              have e10 : vs 10 = (.slice (some AD) (ts.length - j) (c1 - j)) := hI.get hd0 hI.no
                              have hd9 : d 7 = true := by simp at hd; simp [hd]
                              have q9 : ∃ A9 c9, vs 7 = .slice A9 (j + 1) c9 ∧ OwnV w1 W2.heap.size 22 1 A9 (j + 1) c9 (((ts.take j).map encT) ++ [(Value.slice (some ⟨g2, 0, none⟩) s.length c2)]) := hI.get hd9 hk
                              refine Exists.elim q9 fun A9 q => Exists.elim q fun c9 q => ?_
                              have e9 := q.1
                              have o9 := q.2
                              have hv : RdV w1 w1.heap.size (some AD) ((ts.drop j).map encT) := RdV.step hRA.out hO
                              refine ⟨trivial, ?_⟩
                              dsimp only
                              refine wpList_append_v rowSS _ rfl (.tmp 146) (.tmp 149) rfl W2.heap.size A9 (j + 1) c9 _ e9 o9 w1.heap.size (some AD) (ts.length - j) (c1 - j) ((ts.drop j).map encT) (by simp) e10 hv (encs_one _) (by omega) hO.size ?_
                              intro A13 c13 w13 o13 hg hat
                              exact wpList_nil (hK (.slice A13 (j + 1 + (ts.length - j)) c13) w13 (hI.row (k := 11) (v := .slice A13 (j + 1 + (ts.length - j)) c13) hg o9.row_ge (by omega) ⟨A13, c13, rfl, o13⟩ (fun j2 hj hjk hdk hal hP => match j2, hj, hjk, hdk, hal, hP with | 0, hj, _, _, hal, hP => absurd hal (by have := hcl 7 _ rfl hd9; simp at this; simp [this]) | 1, _, _, _, _, _ => .inl rfl | 2, _, _, _, _, _ => .inl rfl | 3, _, _, _, _, _ => .inl rfl | 4, hj, _, _, hal, hP => absurd hal (by simp [hd9]) | 5, _, _, _, _, _ => .inl rfl | 6, hj, _, _, hal, hP => absurd hal (by simp [hd9]) | 7, _, _, h, _, _ => absurd rfl h | 8, _, _, _, _, _ => .inl rfl | 9, _, _, _, _, _ => .inl rfl | 10, _, _, _, _, _ => .inl rfl | 11, _, h, _, _, _ => absurd rfl h | 12, hj, _, _, hal, hP => absurd (hcl 12 _ rfl hj) (by simp [hk]) | n + 13, _, _, _, _, _ => .inl rfl) hI.2.2.2))
                            · intro ops d vs w1 K hI hcl hk hd hK
                              have hO := hI.old hI.no
                              have hd13 : d 11 = true := by simp at hd; simp [hd]
                              have q13 : ∃ A13 c13, vs 11 = .slice A13 (j + 1 + (ts.length - j)) c13 ∧ OwnV w1 W2.heap.size 22 1 A13 (j + 1 + (ts.length - j)) c13 (((ts.take j).map encT) ++ [(Value.slice (some ⟨g2, 0, none⟩) s.length c2)] ++ ((ts.drop j).map encT)) := hI.get hd13 hI.no
                              refine Exists.elim q13 fun A13 q => Exists.elim q fun c13 q => ?_
                              have e11 := q.1
                              have o13 := q.2
                              refine ⟨trivial, ?_⟩
                              dsimp only
                              go_wp2
                              exact hI.pure_ (k := 12) (v := .slice A13 (j + 1 + (ts.length - j)) c13) (by omega) ⟨A13, c13, rfl, o13⟩ (fun h => absurd h (by simp [upd]))
                          · intro d vs w1 hI hd
                            obtain ⟨A13, c13, e12, o13⟩ : (Fact.own W2.heap.size 22 1 (j + 1 + (ts.length - j)) (((ts.take j).map encT) ++ [(Value.slice (some ⟨g2, 0, none⟩) s.length c2)] ++ ((ts.drop j).map encT))).P (vs 12) w1 := hI.get (hd 12 (by decide)) hI.no
                            have b8 := hI.old hI.no
                            have hlen : j + 1 + (ts.length - j) = ts.length + 1 := by omega
                            rw [hlen] at e12 o13
                            replace hd := Lib.hid hd
                            rw [e12]
                            clear hI hd e12 hlen
                            go_wp2
                            have hOn := hO.next b8
                            have hTn := hT.next b8
                            have hXV : encT (g2, c2, X) = .slice (some ⟨g2, 0, none⟩) s.length c2 := by unfold encT; show Value.slice _ X.length _ = _; rw [hXl'.out]
                            have o14 : OwnV w1 w.heap.size 22 1 A13 (ts.length + 1) c13 ((ts.take j).map encT ++ [encT (g2, c2, X)] ++ (ts.drop j).map encT) := by rw [hXV]; exact OwnV.more o13 hsz2
                            have hins := OwnSS.insert hOn hTn hne.out hj o14
                            have hl3 : (ts.take j ++ (g2, c2, X) :: ts.drop j).length = ts.length + 1 := by simp; omega
                            have hacn : Hid (Go.Proofs.Ytdnknddldfihdaa.Acc s.length (DS J s p (q + 1)) s (valT (ts.take j ++ (g2, c2, X) :: ts.drop j))) := by
                              have h9 := (hacc.out.ins (x := X) hXl'.out (by simpa using hb'.out) (k := j) (by rw [valT_length]; exact hj) hall.out hat2.out).congr hds.out
                              have h10 : valT (ts.take j ++ (g2, c2, X) :: ts.drop j) = (valT ts).take j ++ X :: (valT ts).drop j := by simp [valT]
                              rw [h10]; exact h9
                            obtain ⟨gn, hgn, -⟩ := hins.some_ (show 0 < (ts.take j ++ (g2, c2, X) :: ts.drop j).length by omega)
                            subst hgn
                            have Hn := chain H b8 (Nat.le_refl _)
                            have hl3' := Lib.hid hl3
                            clear hl3 hXV o14 o13 hOn hTn
                            go_roundw
                            case rel => exact ⟨q + 1, gn, c13, ts.take j ++ (g2, c2, X) :: ts.drop j, by omega, by first | go_num | (congr 1; omega), by rw [hl3'.out], hins, hacn, by rw [hl3'.out]; omega, Hn⟩
                            case measure => simp [intOf]; omega
                    · rw [hb] at hS
                      have hb' := Lib.hid (show X = s by simpa using hb)
                      clear hb
                      go_wp2_with fail
                      refine hS.out.mono ?_
                      rintro e w3 ⟨rfl, q3, rfl⟩
                      go_wp2
                      go_roundw
                      case rel => exact ⟨q + 1, gz, c1, ts, by omega, by first | go_num | (congr 1; omega), rfl, hO.next (below_drewN (Below.refl _ _) q3), (hacc.out.self hb'.out).congr hds.out, by omega, below_drewN H q3⟩
                      case measure => simp [intOf]; omega
              · obtain rfl : q = J.length + 1 := by omega
                go_wp2
                go_roundw
                case rel => exact ⟨p + 1, gz, c1, ts, by omega, by first | go_num | (congr 1; omega), rfl, hO, hacc.out.congr (ds_end J s p), by omega, H⟩
                case measure => simp [intOf]; omega
          · obtain rfl : p = J.length + 1 := by omega
            go_wp2
            go_ret
            exact ⟨_, _, ts, rfl, hO, by rw [hyes.out]; exact steps_eq (hacc.out.congr (ds_all J s)), H⟩
  · have hlb : ((s.length : Int) != (J.length : Int)) = true := by simp; omega
    have hno := Lib.hid (stepsP_no (J := J) (s := s) (.inr (.inl hsl)))
    clear hsl
    go_enter Try.func24, Try.ntmps24
    go_wp2_with fail
    refine hcj.out.mono ?_
    rintro e w' ⟨rfl, rfl⟩
    go_wp2
    go_ret
    exact ⟨_, _, [], rfl, hE, hno.out.symm, b1⟩
end Go.Proofs.Ytdnknddldfihdaa
