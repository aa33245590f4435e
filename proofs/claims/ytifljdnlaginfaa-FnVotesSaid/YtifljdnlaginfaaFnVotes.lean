/- FnVotes: votes are counted, and only key voters can change what is passed. -/
import Derived.Test.YtifljdnlaginfaaFnVotesP
import Derived.Test.YtifljdnlaginfaaOpenR
namespace Go.Proofs.Ytifljdnlaginfaa
open Go.ChangeShapes Go.WideShapes Go.ChangeAt Go.RowKit Go.Joins
set_option linter.unusedVariables false

/-- The worlds in which all that lay in W0 lies. -/
def SB (W0 U : World) : Prop := Below W0.heap.size W0 U
theorem rdV_ints {w : World} {base e : Nat} {A : Option Addr} {n c : Nat} {xs : List Int} (h : OwnV w base e 1 A n c (ints xs)) : RdI w w.heap.size A xs := RdI.of_own (n := n) h
set_option maxRecDepth 100000 in
set_option maxHeartbeats 4000000 in
theorem FnVotes_walk (A : Option Addr) (cp : Nat) (code : List Int) (w : World) (hm : code.length ≤ maxLen) (hr : RdB w w.heap.size A code) :
    Calls Try.prog 8 #[.slice A code.length cp] w fun e w' => e = .returned (.bool true) ∧ Below w.heap.size w w' := by
  by_cases hl : code.length ≤ 1048576
  · have hd := Lib.hid (show decide ((1048576 : Int) < code.length) = false from decide_eq_false (by omega))
    clear hm
    go_enter Try.func8, Try.ntmps8
    go_wp2_with fail
    refine (big_c _ _ _ _).mono ?_
    rw [hd.out]
    rintro e w' ⟨rfl, rfl⟩
    go_wp2_with fail
    refine (drawVotes_c _ _ _ _ hr hl).mono ?_
    rintro e w1 ⟨A1, c1, v, rfl, hO, h9, hv, H⟩
    have V := hO.rd
    have hvb := Lib.hid (vote_of h9 hv)
    have hvl : v.length ≤ 1048576 := by omega
    have hr1 := Lib.hid ((hr.below H (Nat.le_refl _)).more H.size)
    clear hv hO
    go_wp2_with fail
    obtain ⟨Y, N, M, hY, hN, hM, Y0, N0, M0, hsum, -⟩ := vote_facts hvb.out (show (0 : Int) ≤ 0 by omega) (by omega)
    have hcnt := Lib.hid (iCount_t A1 c1 v w1 V hvl)
    rw [hY, hN, hM] at hcnt
    refine hcnt.out.mono ?_
    rintro e w2 ⟨rfl, b⟩
    replace H := chain H b (Nat.le_refl _)
    replace V := V.at_world b
    have hr2 := Lib.hid ((hr1.out.below b (Nat.le_refl _)).more b.size)
    have hsum' := Lib.hid hsum
    clear b hr1 hcnt hsum
    go_wp2_with fail
    refine (at_c _ _ _ _ _ hr2.out hl (by omega) (by omega)).mono ?_
    rintro e w' ⟨a', rfl, a0, a1, rfl⟩
    have am0 := Int.emod_nonneg a' (show (12 : Int) ≠ 0 by omega)
    have am1 := Int.emod_lt_of_pos a' (show (0 : Int) < 12 by omega)
    go_wp2_with fail
    obtain ⟨q, hq⟩ : ∃ q, a' % 12 = q := ⟨_, rfl⟩
    rw [hq] at am0 am1 ⊢
    clear a0 a1 hq
    have hpf := (vote_facts hvb.out am0 (show q ≤ 11 by omega))
    have hp1 := Lib.hid (show passB v q = (decide (q ≤ Y + N) && decide (N < Y)) by
      obtain ⟨Y', N', M', e1, e2, e3, -, -, -, -, e4⟩ := hpf
      rw [e4, ← e1, ← e2, hY, hN])
    clear hpf hY hN hM
    refine (iPass_c _ _ v q _ V hvl).mono ?_
    have hkey := Lib.hid (fun (i : Nat) (x : Int) (h : v[i]? = some x) => keyL_has hvb.out am0 (show q ≤ 11 by omega) h)
    obtain ⟨P, hP⟩ : ∃ P, passB v q = P := ⟨_, rfl⟩
    rw [hP] at hp1 hkey ⊢
    rintro e w3 ⟨rfl, b⟩
    replace H := chain H b (Nat.le_refl _)
    replace V := V.at_world b
    have hr3 := Lib.hid ((hr2.out.below b (Nat.le_refl _)).more b.size)
    clear b hr2 hP
    go_wp2_with fail
    refine (iKey_c _ _ v q _ V hvl).mono ?_
    have hkl := Lib.hid (keyL_len v q)
    obtain ⟨ks, hks⟩ : ∃ ks, keyL v q = ks := ⟨_, rfl⟩
    rw [hks] at hkey hkl ⊢
    clear hks
    rintro e w4 ⟨A4, c4, rfl, K, b⟩
    replace H := chain H b (Nat.le_refl _)
    replace V := V.at_world b
    have hr4 := Lib.hid ((hr3.out.below b (Nat.le_refl _)).more b.size)
    replace K := K.rd
    clear b hr3
    go_upto_region 8 with fail
    have hY0 : ¬ Y < 0 := by omega
    have hk9 : ks.length ≤ 9 := by have := hkl.out; omega
    have hs2 : (Y + N + M != (v.length : Int)) = false := by rw [hsum'.out]; simp
    have hsz0 := H.size
    go_cut [66] (fun s wx => s = .bool false ∧ w4 = wx)
    case first =>
      have hb40 : Y ≤ 9 ∧ N ≤ 9 ∧ M ≤ 9 := by have := hsum'.out; omega
      have hw1 : IntKind.i64.wrap (Y + N) = Y + N := IntWalk.i64_in _ (by omega)
      have hw2 : IntKind.i64.wrap (Y + N + M) = Y + N + M := IntWalk.i64_in _ (by omega)
      by_cases h1 : N < Y
      · by_cases h2 : q ≤ Y + N
        · obtain rfl : P = true := by rw [hp1.out, decide_eq_true h1, decide_eq_true h2]; rfl
          go_wp2
          go_meet
          exact ⟨rfl, rfl⟩
        · obtain rfl : P = false := by rw [hp1.out, decide_eq_false h2]; rfl
          have hd2 : decide (q ≤ Y + N) = false := decide_eq_false h2
          go_wp2
          go_meet
          exact ⟨rfl, rfl⟩
      · obtain rfl : P = false := by rw [hp1.out, decide_eq_false h1, Bool.and_false]
        have hd1 : decide (N < Y) = false := decide_eq_false h1
        go_wp2
        go_meet
        exact ⟨rfl, rfl⟩
    case rest =>
      obtain ⟨rfl, rfl⟩ := hcut
      clear hY0 hs2 hp1 hsum' Y0 N0 M0
      go_wp2
      go_loopw [10] (fun i wr => ∃ k : Nat, k ≤ v.length ∧ i = .int .i64 k ∧ Below w.heap.size w wr ∧ RdI wr w4.heap.size A1 v ∧ RdI wr w4.heap.size A4 ks ∧ Hid (RdB wr w4.heap.size A code) ∧ w4.heap.size ≤ wr.heap.size) (fun i _ => v.length - (intOf i).toNat)
      case atStart => exact ⟨0, Nat.zero_le _, rfl, H, V, K, hr4, Nat.le_refl _⟩
      case round =>
        clear H V K hr4
        obtain ⟨k, hk, rfl, H, V, K, hcr, hs⟩ := hrel
        by_cases hlt : k < v.length
        · obtain ⟨g, off, x, rfl, hg, hcx, hx, hxd⟩ := V.at_ hlt
          have hE := OwnI.empty wr
          have b0 := (Below.refl wr.heap.size wr).alloc (Nat.le_refl _) (.cells #[] 3)
          have V0 := Lib.hid ((V.more hs).next b0 (Nat.le_refl _))
          have hkx := Lib.hid (hkey.out k x hx.out)
          have hwr0 := H.size
          go_wp2_with (first | (at_builtin; refine wpList_append_rd _ rfl (.tmp 73) (.tmp 74) rfl wr.heap.size (some ⟨wr.heap.size, 0, none⟩) 0 0 [] rfl rfl hE wr.heap.size (some ⟨g, off, none⟩) v.length c1 v rfl rfl V0.out (by simp; omega) (by simp) ?_; intro A5 c5 w5 hX hgr hat; (simp only [List.nil_append] at hX); (obtain ⟨g5, rfl, hg5, hg5l, -, -⟩ := OwnI.some_ hX hlt); (have b5 : Below wr.heap.size wr w5 := b0.grown hgr (by simp) (fun k' hk' => by simp only [Value.ownBlock] at hk'; injection hk' with hk'; omega)); (have hcell := hX.cellI hx.out); (have hfr := hX.frz k)) | fail)
          go_upto_region 15 with fail
          have hX2 := hX.stored k (-1)
          have b6 : Below wr.heap.size wr (w5.setCell ⟨g5, k, none⟩ (.int .i64 (-1))) := b5.setCell (p := ⟨g5, k, none⟩) hg5 _
          have hvx : (w5.setCell ⟨g5, k, none⟩ (.int .i64 (-1))).cell? ⟨g, off + k, none⟩ = some (.int .i64 x) := (b6.cell (p := ⟨g, off + k, none⟩) (show g < wr.heap.size by omega)).trans hcx
          have hK6 := (K.more hs).next b6 (Nat.le_refl _)
          have hR6 := hX2.rd
          have hs6 := b6.size
          generalize w5.setCell ⟨g5, k, none⟩ (.int .i64 (-1)) = w6 at b6 hvx hK6 hR6 hs6 ⊢
          clear hX hX2 b5 hcell hfr hgr hat hE V0
          have hS0 : SB w6 w6.drew := (Below.refl _ _).drew
          haveI hne : Nonempty (Wd (SB w6)) := ⟨⟨_, hS0⟩⟩
          have cv : ∀ U : Wd (SB w6), U.val.cell? ⟨g, off + k, none⟩ = some (.int .i64 x) := fun U => (U.ok.cell (p := ⟨g, off + k, none⟩) (show g < w6.heap.size by omega)).trans hvx
          have hPs := Lib.hid (fun U : Wd (SB w6) => iPass_set (some ⟨g5, 0, none⟩) c5 v k (-1) q U.val (hR6.at_world U.ok) hvl)
          have hHs := Lib.hid (fun U : Wd (SB w6) => has_c A4 c4 ks (k : Int) U.val ((hK6.more hs6).at_world U.ok) (by omega))
          obtain ⟨pb, hpb⟩ : ∃ pb, passB (v.set k (-1)) q = pb := ⟨_, rfl⟩
          rw [hpb] at hPs hkx
          have hkx2 := Lib.hid (show hasV ks (k : Int) = ((x != -1) && (pb != P)) from hkx.out)
          rw [hkx2.out] at hHs
          clear hpb hkx hkx2
          by_cases hx1 : x = -1
          · have hxb : (x != -1) = false := by rw [hx1]; rfl
            rw [hxb, Bool.false_and] at hHs
            refine wp_region_class (S := SB w6) (by kernel_rfl) (by kernel_rfl) hS0 ?_
            clear hS0
            repeat (go_big_quiet_step ((first | (go_at_call 30; refine (hHs.out _).mono ?_; rintro e w2 ⟨rfl, rfl⟩; exact ⟨rfl, _, rfl⟩) | (go_at_call 14; refine (hPs.out _).mono ?_; rintro e w2 ⟨rfl, b⟩; exact ⟨rfl, ⟨_, chain (Wd.ok _) b (Nat.le_refl _)⟩, rfl⟩))))
            refine wpQuiet_nil ?_
            rintro W9 ⟨⟨U, hU⟩, rfl⟩
            have b7 : Below wr.heap.size wr W9 := chain b6 hU (Nat.le_refl _)
            clear hU cv hne
            go_wp2
            go_roundw
            case rel => exact ⟨k + 1, by omega, by go_num, chain H b7 (Nat.le_refl _), V.below b7 hs, K.below b7 hs, hcr.out.below b7 hs, Nat.le_trans hs b7.size⟩
            case measure => simp [intOf]; omega
          · have hxb : (x != -1) = true := by simpa using hx1
            rw [hxb, Bool.true_and] at hHs
            cases pb
            · cases P
              · refine wp_region_class (S := SB w6) (by kernel_rfl) (by kernel_rfl) hS0 ?_
                clear hS0
                repeat (go_big_quiet_step ((first | (go_at_call 30; refine (hHs.out _).mono ?_; rintro e w2 ⟨rfl, rfl⟩; exact ⟨rfl, _, rfl⟩) | (go_at_call 14; refine (hPs.out _).mono ?_; rintro e w2 ⟨rfl, b⟩; exact ⟨rfl, ⟨_, chain (Wd.ok _) b (Nat.le_refl _)⟩, rfl⟩))))
                refine wpQuiet_nil ?_
                rintro W9 ⟨⟨U, hU⟩, rfl⟩
                have b7 : Below wr.heap.size wr W9 := chain b6 hU (Nat.le_refl _)
                clear hU cv hne
                go_wp2
                go_roundw
                case rel => exact ⟨k + 1, by omega, by go_num, chain H b7 (Nat.le_refl _), V.below b7 hs, K.below b7 hs, hcr.out.below b7 hs, Nat.le_trans hs b7.size⟩
                case measure => simp [intOf]; omega
              · refine wp_region_class (S := SB w6) (by kernel_rfl) (by kernel_rfl) hS0 ?_
                clear hS0
                repeat (go_big_quiet_step ((first | (go_at_call 30; refine (hHs.out _).mono ?_; rintro e w2 ⟨rfl, rfl⟩; exact ⟨rfl, _, rfl⟩) | (go_at_call 14; refine (hPs.out _).mono ?_; rintro e w2 ⟨rfl, b⟩; exact ⟨rfl, ⟨_, chain (Wd.ok _) b (Nat.le_refl _)⟩, rfl⟩))))
                refine wpQuiet_nil ?_
                rintro W9 ⟨⟨U, hU⟩, rfl⟩
                have b7 : Below wr.heap.size wr W9 := chain b6 hU (Nat.le_refl _)
                clear hU cv hne
                go_wp2
                go_roundw
                case rel => exact ⟨k + 1, by omega, by go_num, chain H b7 (Nat.le_refl _), V.below b7 hs, K.below b7 hs, hcr.out.below b7 hs, Nat.le_trans hs b7.size⟩
                case measure => simp [intOf]; omega
            · cases P
              · refine wp_region_class (S := SB w6) (by kernel_rfl) (by kernel_rfl) hS0 ?_
                clear hS0
                repeat (go_big_quiet_step ((first | (go_at_call 30; refine (hHs.out _).mono ?_; rintro e w2 ⟨rfl, rfl⟩; exact ⟨rfl, _, rfl⟩) | (go_at_call 14; refine (hPs.out _).mono ?_; rintro e w2 ⟨rfl, b⟩; exact ⟨rfl, ⟨_, chain (Wd.ok _) b (Nat.le_refl _)⟩, rfl⟩))))
                refine wpQuiet_nil ?_
                rintro W9 ⟨⟨U, hU⟩, rfl⟩
                have b7 : Below wr.heap.size wr W9 := chain b6 hU (Nat.le_refl _)
                clear hU cv hne
                go_wp2
                go_roundw
                case rel => exact ⟨k + 1, by omega, by go_num, chain H b7 (Nat.le_refl _), V.below b7 hs, K.below b7 hs, hcr.out.below b7 hs, Nat.le_trans hs b7.size⟩
                case measure => simp [intOf]; omega
              · refine wp_region_class (S := SB w6) (by kernel_rfl) (by kernel_rfl) hS0 ?_
                clear hS0
                repeat (go_big_quiet_step ((first | (go_at_call 30; refine (hHs.out _).mono ?_; rintro e w2 ⟨rfl, rfl⟩; exact ⟨rfl, _, rfl⟩) | (go_at_call 14; refine (hPs.out _).mono ?_; rintro e w2 ⟨rfl, b⟩; exact ⟨rfl, ⟨_, chain (Wd.ok _) b (Nat.le_refl _)⟩, rfl⟩))))
                refine wpQuiet_nil ?_
                rintro W9 ⟨⟨U, hU⟩, rfl⟩
                have b7 : Below wr.heap.size wr W9 := chain b6 hU (Nat.le_refl _)
                clear hU cv hne
                go_wp2
                go_roundw
                case rel => exact ⟨k + 1, by omega, by go_num, chain H b7 (Nat.le_refl _), V.below b7 hs, K.below b7 hs, hcr.out.below b7 hs, Nat.le_trans hs b7.size⟩
                case measure => simp [intOf]; omega
        · obtain rfl : k = v.length := by omega
          clear hlt hk hkey V K
          go_wp2_with fail
          refine (drawRights_c _ _ code _ (hcr.out.more hs) hl).mono ?_
          rintro e w7 ⟨A7, c7, t, rfl, hT, hrt, b⟩
          have T := hT.rd
          replace H := chain H b (Nat.le_refl _)
          have hsz7 := H.size
          obtain ⟨t1, t12⟩ := rights_b hrt
          have hrt' := Lib.hid hrt
          clear b hT hrt hcr hs
          have hE1 : OwnV ((w7.alloc (.cells #[] 3)).alloc (.cells #[] 3)) w7.heap.size 3 1 (some ⟨w7.heap.size, 0, none⟩) 0 0 (ints (List.replicate 0 1)) := (OwnI.empty w7).alloc _
          have hE2 : OwnV ((w7.alloc (.cells #[] 3)).alloc (.cells #[] 3)) w7.heap.size 3 1 (some ⟨w7.heap.size + 1, 0, none⟩) 0 0 (ints (List.replicate 0 0)) := by
            have := (OwnI.empty (w7.alloc (.cells #[] 3))).more (b := w7.heap.size) (by simp)
            simp only [World.size_alloc] at this
            exact this
          have bE : Below w7.heap.size w7 ((w7.alloc (.cells #[] 3)).alloc (.cells #[] 3)) := ((Below.refl w7.heap.size w7).alloc (Nat.le_refl _) _).alloc (by simp) _
          have hT0 := T.below bE (Nat.le_refl _)
          have HE := chain H bE (Nat.le_refl _)
          go_wp2
          go_loopw [13, 14, 15] (fun s1 s2 i wr => ∃ (k : Nat) (B1 : Option Addr) (d1 : Nat) (B2 : Option Addr) (d2 : Nat), k ≤ t.length ∧ i = .int .i64 k ∧ s1 = .slice B1 k d1 ∧ s2 = .slice B2 k d2 ∧ OwnV wr w7.heap.size 3 1 B1 k d1 (ints (List.replicate k 1)) ∧ OwnV wr w7.heap.size 3 1 B2 k d2 (ints (List.replicate k 0)) ∧ Hid (∀ g1 g2, B1 = some ⟨g1, 0, none⟩ → B2 = some ⟨g2, 0, none⟩ → g1 ≠ g2) ∧ Below w.heap.size w wr ∧ RdI wr w7.heap.size A7 (flat3 t) ∧ w7.heap.size ≤ wr.heap.size) (fun _ _ i _ => t.length - (intOf i).toNat)
          case atStart => exact ⟨0, _, _, _, _, Nat.zero_le _, rfl, rfl, rfl, hE1, hE2, (fun g1 g2 e1 e2 => by injection e1 with e1; injection e1 with e1; injection e2 with e2; injection e2 with e2; omega), HE, hT0, bE.size⟩
          case round =>
            clear hE1 hE2 HE hT0 H T bE
            obtain ⟨k, B1, d1, B2, d2, hk, rfl, rfl, rfl, hO1, hO2, hap, H, T, hs⟩ := hrel
            by_cases hlt : k < t.length
            · have hz0 := H.size
              have hone1 : RdV (wr.alloc (.cells #[.int .i64 1] 3)) (wr.alloc (.cells #[.int .i64 1] 3)).heap.size (some ⟨wr.heap.size, 0, none⟩) (ints [1]) := RdV.of_blk (Blk.new _ _ _)
              have hO1a := hO1.alloc (.cells #[.int .i64 1] 3)
              have hO2a := hO2.alloc (.cells #[.int .i64 1] 3)
              have Ha := H.alloc H.size (.cells #[.int .i64 1] 3)
              have Ta := T.alloc hs (.cells #[.int .i64 1] 3)
              have hlt1 := hO1.lt_
              have hlt2 := hO2.lt_
              have hlt1' := Lib.hid hlt1
              have hlt2' := Lib.hid hlt2
              clear hO1 hO2 H T hlt1 hlt2
              go_wp2_with (first
                | (at_builtin; refine wpList_append_v rowInt _ rfl (.tmp 105) (.tmp 106) rfl w7.heap.size B1 k d1 (ints (List.replicate k 1)) rfl hO1a (wr.alloc (.cells #[.int .i64 1] 3)).heap.size (some ⟨wr.heap.size, 0, none⟩) 1 1 (ints [1]) rfl rfl hone1 (ints_one _) (by omega) (by simp; omega) ?_; intro B3 d3 w8 o8 g8 at8; (have hrow8 := hO1a.row_ge); (have ap8 : Hid (∀ g1 g2, B3 = some ⟨g1, 0, none⟩ → B2 = some ⟨g2, 0, none⟩ → g1 ≠ g2) := (by intro g1 g2 e1 e2; have := hlt2'.out g2 e2; rcases at8 with e | e; (exact hap.out g1 g2 (e ▸ e1) e2); (rw [e] at e1; injection e1 with e1; injection e1 with e1; simp at e1; omega))); (have o2 := OwnV.kept hO2a g8 (fun g2 e2 hk' => by (rcases B1 with _ | a1); (cases hk'); (have hf := hO1a.form; rcases hf with ⟨e0, _⟩ | ⟨g1, e1, _⟩; (cases e0); (rw [e1] at hk'; simp only [Value.ownBlock] at hk'; injection hk' with hk'; exact hap.out g1 g2 e1 e2 hk')))); (have H8 := Ha.grown g8 (by simp; omega) (fun j hj => by have := hrow8 j hj; omega)); (have T8 := Ta.kept g8 (by simp; omega) hrow8); (have z8 := g8.size); (have hone2 : RdV (w8.alloc (.cells #[.int .i64 0] 3)) (w8.alloc (.cells #[.int .i64 0] 3)).heap.size (some ⟨w8.heap.size, 0, none⟩) (ints [0]) := RdV.of_blk (Blk.new _ _ _)); (have o2a := o2.alloc (.cells #[.int .i64 0] 3)); (have o8a := o8.alloc (.cells #[.int .i64 0] 3)); (have z8' : w7.heap.size ≤ w8.heap.size := by simp at z8; omega); (have hlt8 := Lib.hid o8.lt_); (have H8a := H8.alloc H8.size (.cells #[.int .i64 0] 3)); (have T8a := T8.alloc z8' (.cells #[.int .i64 0] 3)); clear o2 o8 H8 T8 g8 at8 hrow8 Ha Ta hO1a hO2a hone1)
                | (at_builtin; refine wpList_append_v rowInt _ rfl (.tmp 108) (.tmp 109) rfl w7.heap.size B2 k d2 (ints (List.replicate k 0)) rfl o2a (w8.alloc (.cells #[.int .i64 0] 3)).heap.size (some ⟨w8.heap.size, 0, none⟩) 1 1 (ints [0]) rfl rfl hone2 (ints_one _) (by omega) (by simp; omega) ?_; intro B4 d4 w9 o9 g9 at9)
                | fail)
              have hrow9 := o2a.row_ge
              have hrw9 := o2a.row_of
              go_roundw
              case rel =>
                refine ⟨k + 1, B3, d3, B4, d4, by omega, by go_num, rfl, rfl, ?_, ?_, ?_, H8a.grown g9 (by simp; omega) (fun j hj => by have := hrow9 j hj; omega), T8a.kept g9 (by simp; omega) hrow9, by have := g9.size; simp at this; omega⟩
                · rw [← rep_snoc]
                  exact OwnV.kept o8a g9 (fun g1 e1 hk' => ap8.out g1 g1 e1 (hrw9 g1 hk') rfl)
                · rw [← rep_snoc]; exact o9
                · intro g1 g2 e1 e2
                  have := hlt8.out g1 e1
                  rcases at9 with e | e
                  · exact ap8.out g1 g2 e1 (e ▸ e2)
                  · rw [e] at e2; injection e2 with e2; injection e2 with e2; simp at e2; omega
              case measure => simp [intOf]; omega
            · obtain rfl : k = t.length := by omega
              obtain ⟨g1, rfl, hg1⟩ : ∃ g1, B1 = some ⟨g1, 0, none⟩ ∧ t.length ≤ d1 := by
                rcases hO1.form with ⟨_, e, _⟩ | ⟨g0, e, _, _, h, _⟩
                · omega
                · exact ⟨g0, e, h⟩
              obtain ⟨C, hC⟩ : ∃ C, C = wr.heap.size := ⟨_, rfl⟩
              have Y1 := rdV_ints hO1
              have Y2 := rdV_ints hO2
              replace T := T.more hs
              obtain ⟨AD, hAD, YD⟩ : ∃ AD : Addr, (if d1 = 1 then some (⟨g1, 0, none⟩ : Addr) else some ⟨g1, 1, none⟩) = some AD ∧ Hid (RdI wr wr.heap.size (some AD) (List.replicate (t.length - 1) 1)) := by
                by_cases hd1 : d1 = 1
                · refine ⟨⟨g1, 0, none⟩, by simp [hd1], ?_⟩
                  have : t.length - 1 = 0 := by omega
                  rw [this]; exact .inl rfl
                · refine ⟨⟨g1, 1, none⟩, by simp [hd1], ?_⟩
                  have h2 := Y1.dropN 1
                  rw [Nat.zero_add, List.drop_replicate] at h2
                  exact h2
              have hszr := H.size
              rw [← hC] at Y1 Y2 YD T
              have hCs : C ≤ wr.heap.size := by omega
              clear hO1 hO2 hap hlt hs hC
              go_wp2_with fail
              refine (share1_c _ _ _ _ t _ hrt'.out (T.more hCs) (Y1.more hCs)).mono ?_
              rintro e w10 ⟨rfl, b⟩
              replace H := chain H b (Nat.le_refl _)
              replace T := T.below b hCs
              replace Y1 := Y1.below b hCs
              replace Y2 := Y2.below b hCs
              replace YD := Lib.hid (YD.out.below b hCs)
              replace hCs := Nat.le_trans hCs b.size
              clear b
              have P1 := Blk.new w10 34 #[.int .i64 1, .int .i64 1]
              replace H := H.alloc H.size (.cells #[.int .i64 1, .int .i64 1] 34)
              replace T := T.alloc hCs (.cells #[.int .i64 1, .int .i64 1] 34)
              replace Y1 := Y1.alloc hCs (.cells #[.int .i64 1, .int .i64 1] 34)
              replace Y2 := Y2.alloc hCs (.cells #[.int .i64 1, .int .i64 1] 34)
              replace YD := Lib.hid (YD.out.alloc hCs (.cells #[.int .i64 1, .int .i64 1] 34))
              replace hCs : C ≤ (w10.alloc (.cells #[.int .i64 1, .int .i64 1] 34)).heap.size := by simp; omega
              go_wp2_with fail
              generalize w10.alloc (.cells #[.int .i64 1, .int .i64 1] 34) = w10 at *
              refine (share0_c _ _ _ _ t _ hrt'.out (T.more hCs) (Y2.more hCs)).mono ?_
              rintro e w11 ⟨rfl, b⟩
              replace P1 := P1.next b
              replace H := chain H b (Nat.le_refl _)
              replace T := T.below b hCs
              replace Y1 := Y1.below b hCs
              replace Y2 := Y2.below b hCs
              replace YD := Lib.hid (YD.out.below b hCs)
              replace hCs := Nat.le_trans hCs b.size
              clear b
              have P2 := Blk.new w11 34 #[.int .i64 0, .int .i64 1]
              replace P1 := P1.alloc (.cells #[.int .i64 0, .int .i64 1] 34)
              replace H := H.alloc H.size (.cells #[.int .i64 0, .int .i64 1] 34)
              replace T := T.alloc hCs (.cells #[.int .i64 0, .int .i64 1] 34)
              replace Y1 := Y1.alloc hCs (.cells #[.int .i64 0, .int .i64 1] 34)
              replace Y2 := Y2.alloc hCs (.cells #[.int .i64 0, .int .i64 1] 34)
              replace YD := Lib.hid (YD.out.alloc hCs (.cells #[.int .i64 0, .int .i64 1] 34))
              replace hCs : C ≤ (w11.alloc (.cells #[.int .i64 0, .int .i64 1] 34)).heap.size := by simp; omega
              go_wp2_with fail
              refine (shareX_c _ _ _ _ t _ hrt'.out (T.more hCs) (YD.out.more hCs)).mono ?_
              rintro e w12 ⟨rfl, b⟩
              replace P1 := (P1.next b).alloc (.cells #[.int .i64 0, .int .i64 0] 34)
              replace P2 := (P2.next b).alloc (.cells #[.int .i64 0, .int .i64 0] 34)
              replace H := chain H b (Nat.le_refl _)
              replace T := T.below b hCs
              replace Y1 := Y1.below b hCs
              replace Y2 := Y2.below b hCs
              replace YD := Lib.hid (YD.out.below b hCs)
              replace hCs := Nat.le_trans hCs b.size
              clear b
              replace H := H.alloc H.size (.cells #[.int .i64 0, .int .i64 0] 34)
              replace T := T.alloc hCs (.cells #[.int .i64 0, .int .i64 0] 34)
              replace Y1 := Y1.alloc hCs (.cells #[.int .i64 0, .int .i64 0] 34)
              replace Y2 := Y2.alloc hCs (.cells #[.int .i64 0, .int .i64 0] 34)
              replace YD := Lib.hid (YD.out.alloc hCs (.cells #[.int .i64 0, .int .i64 0] 34))
              replace hCs : C ≤ (w12.alloc (.cells #[.int .i64 0, .int .i64 0] 34)).heap.size := by simp; omega
              obtain ⟨p0, p1, -, -, pL⟩ := P1.two
              obtain ⟨q0, q1, -, -, qL⟩ := P2.two
              go_wp2_with fail
              refine (both1_c _ _ _ _ t _ hrt'.out (T.more hCs) (Y1.more hCs)).mono ?_
              rintro e w13 ⟨rfl, b⟩
              replace H := chain H b (Nat.le_refl _)
              replace T := T.below b hCs
              replace Y1 := Y1.below b hCs
              replace Y2 := Y2.below b hCs
              replace YD := Lib.hid (YD.out.below b hCs)
              replace hCs := Nat.le_trans hCs b.size
              clear b
              clear p0 p1 pL q0 q1 qL P1 P2
              go_wp2_with fail
              refine (both0_c _ _ _ _ t _ hrt'.out (T.more hCs) (Y2.more hCs)).mono ?_
              rintro e w14 ⟨rfl, b⟩
              go_wp2
              go_ret
              exact ⟨rfl, chain H b (Nat.le_refl _)⟩
  · have hd := Lib.hid (show decide ((1048576 : Int) < code.length) = true from decide_eq_true (by omega))
    go_enter Try.func8, Try.ntmps8
    go_wp2_with fail
    refine (big_c _ _ _ _).mono ?_
    rw [hd.out]
    rintro e w' ⟨rfl, rfl⟩
    go_wp2
    go_ret
    exact ⟨rfl, Below.refl _ _⟩
set_option maxRecDepth 100000 in
theorem FnVotes_lifted (os : Os) (started : os.Started) (H : Type) (enc : TypeId × Value → H) :
    ReturnsInHanded {} Try.checked os 8 .any (Rows.fnVotesSpec.pre6 enc Try.prog Try.f8 Rows.fnVotesRow.domain false) (Rows.fnVotesSpec.post enc Try.prog Try.f8 false true false false) := by
  refine returnsInHanded_of_change (C := Try.checked) own_ started (by kernel_rfl) Try.func8
    (ChangeSpec.witness6 (enc := enc) (C := Try.checked) false ⟨#[], #[.slice none 0 0], []⟩ 8 (by kernel_rfl) (by kernel_rfl) (by kernel_rfl) (by kernel_rfl)) ?_
  intro W base args ds gs before hval0 hW hcnd _
  have hval : ∀ (j : Nat) t v, Try.f8.params[j]? = some t → args[j]? = some v → Value.okWide Try.prog W .any base t v := hval0
  have hW' := hW
  obtain ⟨p, q, hA0, hV, rfl, hfz, hnd⟩ := hW
  have hA : DataW.TrodAll enc Try.prog W 0 (fun _ => true) true Try.f8.params.toList args.toList ds p := hA0
  rw [Try.params8] at hA hval
  obtain ⟨v0, vs0, d0, ds0, p0, q0, hargs, rfl, rfl, h0, r0⟩ := trodAll_cons hA
  obtain ⟨rfl, rfl, rfl⟩ := trodAll_nil r0
  obtain rfl : args = #[v0] := by cases args; simp_all
  obtain ⟨rfl, rfl⟩ := trodVars_none hV
  have k0 := h0
  have lt0 : ∀ x ∈ p0, x.block < W.heap.size := by obtain ⟨m, hm⟩ := k0; exact DataW.trod_lt m _ _ _ hm
  obtain ⟨s0, len0, cap0, rfl⟩ := okWide_slice Try.underlying43 (hval 0 43 v0 rfl rfl)
  obtain ⟨x0, rfl, m0, r_0⟩ : ∃ zs : List Int, len0 = zs.length ∧ zs.length ≤ maxLen ∧ RdB W W.heap.size s0 zs := by
    obtain ⟨fuel, hf⟩ := h0
    rcases open_ints Try.underlying43 Try.underlying5 (by kernel_rfl) hf with ⟨hcs, _⟩ | ⟨x, l, c, zs, hcs, _, hl, hm, hz, _, hcell, hwz⟩
    · simp [Value.cells] at hcs
      obtain ⟨rfl, rfl, rfl⟩ := hcs
      exact ⟨[], rfl, Nat.zero_le _, .inl rfl⟩
    · simp [Value.cells] at hcs
      obtain ⟨rfl, rfl, rfl⟩ := hcs
      have hlz : len0 ≤ zs.length := by simp only [if_true] at hz; omega
      exact ⟨zs.take len0, by simp; omega, by simp; omega, RdB.of_open hcell hwz⟩
  clear hA0 hval0
  refine (FnVotes_walk s0 cap0 x0 W m0 r_0).mono fun e W' ⟨he, bel⟩ => ?_
  subst he
  exact ⟨_, rfl, _, _, _, [], _, [], hW', trodAll_mk1 (shut_bool Try.underlying4 _), (trodAll_cons_mk (Below.trod laidOut_ (by kernel_rfl) (of_decide_eq_true (by kernel_rfl)) k0 bel lt0) trodAll_mk0), rfl, bel.frame _, fun h => by cases h⟩

theorem FnVotes_over : Rows.fnVotesRow.holds Try.pinned (OpenSpec.ofChange Rows.fnVotesSpec) :=
  OpenClaim.holds_of_wide 8 Try.f8 rfl rfl rfl rfl rfl rfl rfl ⟨rfl, rfl, rfl, rfl, rfl⟩ rfl rfl rfl rfl rfl (by kernel_rfl) Try.func8 (by kernel_rfl)
    (of_decide_eq_true (by kernel_rfl)) (by unfold Func.isWrapper; first | (rw [if_pos (by decide +kernel)]; kernel_rfl) | (rw [if_neg (by decide +kernel)]; exact ⟨rfl, rfl⟩))
    (fun os started H enc _ => FnVotes_lifted os started H enc)

theorem FnVotes_proved : Rows.FnVotesSaid := FnVotes_over
end Go.Proofs.Ytifljdnlaginfaa
