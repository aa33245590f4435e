/- FnJugs: a way to measure is a chain of steps, and none is shorter. -/
import Derived.Test.YtdnknddldfihdaaFnJugsP
namespace Go.Proofs.Ytdnknddldfihdaa
open Go.ChangeShapes Go.WideShapes Go.ChangeAt Go.RowKit
set_option linter.unusedVariables false

theorem hasSS_take {L : List (List Int)} {y z : List Int} {m : Nat} (h : L[m]? = some z) : hasSS (L.take (m + 1)) y = (hasSS (L.take m) y || (z == y)) := by
  unfold hasSS
  rw [List.take_add_one, h, List.contains_eq_any_beq, List.contains_eq_any_beq, List.any_append]
  have e : (y == z) = (z == y) := Bool.beq_comm
  simp [e]
set_option maxRecDepth 100000 in
set_option maxHeartbeats 4000000 in
theorem FnJugs_walk (A : Option Addr) (cp : Nat) (code : List Int) (w : World) (hm : code.length ≤ maxLen) (hr : RdB w w.heap.size A code) :
    Calls Try.prog 4 #[.slice A code.length cp] w fun e w' => e = .returned (.bool true) ∧ Below w.heap.size w w' := by
  by_cases hl : code.length ≤ 1048576
  · have hd := Lib.hid (show decide ((1048576 : Int) < code.length) = false from decide_eq_false (by omega))
    clear hm
    obtain ⟨nn, hnn⟩ : ∃ nn, 2197 ≤ nn := ⟨2197, Nat.le_refl _⟩
    go_enter Try.func4, Try.ntmps4
    go_wp2_with fail
    refine (big_c _ _ _ _).mono ?_
    rw [hd.out]
    rintro e w' ⟨rfl, rfl⟩
    go_wp2_with fail
    refine (drawJugs_c _ _ _ _ hr hl).mono ?_
    rintro e w1 ⟨A1, c1, J, rfl, hO, h1, h3, hJv, H⟩
    have V := hO.rd
    have hj := Lib.hid (jugs_of h1 h3 hJv)
    have hJb := Lib.hid hJv
    have hJl : J.length ≤ 1048576 := by omega
    have hr1 := Lib.hid ((hr.below H (Nat.le_refl _)).more H.size)
    clear hO hJv
    go_wp2_with fail
    refine (at_c _ _ _ _ _ hr1.out hl (by omega) (by omega)).mono ?_
    rintro e w' ⟨a', rfl, a0, a1, rfl⟩
    have am0 := Int.emod_nonneg a' (show (8 : Int) ≠ 0 by omega)
    have am1 := Int.emod_lt_of_pos a' (show (0 : Int) < 8 by omega)
    go_wp2_with fail
    obtain ⟨v, hv⟩ : ∃ v, a' % 8 = v := ⟨_, rfl⟩
    rw [hv] at am0 am1 ⊢
    clear a0 a1 hv hr1 hr
    obtain ⟨vn, rfl⟩ := Int.eq_ofNat_of_zero_le am0
    have hvn : vn ≤ 7 := by omega
    have hin : inB (vn : Int) 0 12 = true := (inB_iff _ _ _).2 (by omega)
    clear am0 am1
    have hfo := Lib.hid (for_ok hj.out hin nn)
    have hmu := Lib.hid (fun (g M : Int) (hg : Dv g J) (hM : ∀ x ∈ J, x ≤ M) => for_mult hj.out hin nn hg hM)
    have hsm := (for_small nn J vn).1
    refine (iFor_c nn hnn A1 c1 J vn _ V hJl).mono ?_
    rintro e w2 ⟨B, d, ts, rfl, hT, hval, b⟩
    have hlen : (forP nn J vn).length = ts.length := by rw [← hval, valT_length]
    have htl : ts.length ≤ 10000 := by omega
    obtain ⟨n, hnf⟩ : ∃ n, fewP nn J vn = n := ⟨_, rfl⟩
    have hnl : n = (ts.length : Int) - 1 := by rw [← hnf]; unfold fewP; rw [hlen]
    have hnl' := Lib.hid hnl
    rw [hnf] at hmu
    rw [← hval] at hfo
    replace hT := hT.more H.size
    replace H := chain H b (Nat.le_refl _)
    replace V := V.at_world b
    clear b hval hsm hlen
    have hFw := Lib.hid (iFew_c nn hnn A1 c1 J vn w2 V hJl)
    rw [hnf] at hFw
    go_wp2_with fail
    refine hFw.out.mono ?_
    rintro e w3 ⟨rfl, b⟩
    replace hT := hT.next b
    replace H := chain H b (Nat.le_refl _)
    replace V := V.at_world b
    clear b hFw
    have hCn := Lib.hid (iCan_c nn hnn A1 c1 J vn w3 V hJl)
    rw [hnf] at hCn
    have hn0 : -1 ≤ n ∧ n ≤ 10000 := by omega
    obtain ⟨hn0, hn1⟩ := hn0
    have hnb : (n != (ts.length : Int) - 1) = false := by rw [hnl]; simp
    clear hnf hnl
    go_upto_region 7 with fail
    go_cut [43] (fun s wx => s = .bool false ∧ Below w3.heap.size w3 wx)
    case first =>
      by_cases h0 : 0 ≤ n
      · have h0d := decide_eq_true h0
        rw [h0d] at hCn
        go_wp2_with fail
        refine hCn.out.mono ?_
        rintro e w4 ⟨rfl, b⟩
        go_wp2
        go_meet
        exact ⟨rfl, b⟩
      · have h0d := decide_eq_false h0
        rw [h0d] at hCn
        go_wp2_with fail
        refine hCn.out.mono ?_
        rintro e w4 ⟨rfl, b⟩
        go_wp2
        go_meet
        exact ⟨rfl, b⟩
    case rest =>
      obtain ⟨rfl, b⟩ := hcut
      clear hnb hCn
      replace hT := hT.next b
      replace H := chain H b (Nat.le_refl _)
      replace V := V.at_world b
      clear b
      go_wp2
      go_loopw [7] (fun i wr => ∃ k : Nat, k ≤ ts.length ∧ i = .int .i64 k ∧ Below wc.heap.size wc wr) (fun i _ => ts.length - (intOf i).toNat)
      case atStart => exact ⟨0, Nat.zero_le _, rfl, Below.refl _ _⟩
      case round =>
        obtain ⟨k, hk, rfl, hb⟩ := hrel
        replace hT := hT.next hb
        replace V := V.at_world hb
        replace H := chain H hb (Nat.le_refl _)
        by_cases hlt : k < ts.length
        · obtain ⟨g, b, dd, xs, rfl, hg, hgl, hc, hrx, hx, hdr⟩ := hT.at_ hlt
          have hxk : (valT ts)[k]? = some xs := by unfold valT; rw [List.getElem?_map, hx.out]; rfl
          have hok := Lib.hid (hfo.out.ok xs (List.mem_of_getElem? hxk))
          have hxl : xs.length ≤ 1048576 := by have := hok.out.1; omega
          have hlb : ((xs.length : Int) != (J.length : Int)) = false := by rw [hok.out.1]; simp
          have hasc := Lib.hid (lhas_c (some ⟨b, 0, none⟩) dd xs vn wr hrx hxl)
          have hq : hasL xs vn = ((k : Int) == n) := by
            rw [hfo.out.hit k xs hxk, valT_length]
            have := hnl'.out
            by_cases h : k + 1 = ts.length
            · rw [decide_eq_true h]; exact (beq_iff_eq.2 (by omega)).symm
            · rw [decide_eq_false h]; exact (beq_eq_false_iff_ne.2 (by omega)).symm
          obtain ⟨q, hqe⟩ : ∃ q, ((k : Int) == n) = q := ⟨_, rfl⟩
          rw [hq, hqe] at hasc
          have hxk' := Lib.hid hxk
          have hT' := Lib.hid hT
          clear hq hxk hdr hx hT
          go_wp2_with fail
          refine hasc.out.mono ?_
          rintro e w' ⟨rfl, rfl⟩
          clear hlb hasc
          go_upto_region 15 with fail
          go_cut [68] (fun s wx => s = .bool false ∧ wr = wx)
          case first =>
            cases q
            · go_wp2
              go_meet
              exact ⟨rfl, rfl⟩
            · go_wp2
              go_meet
              exact ⟨rfl, rfl⟩
          case rest =>
            obtain ⟨rfl, rfl⟩ := hcut
            clear hqe
            by_cases hk0 : 0 < k
            · obtain ⟨p, rfl⟩ : ∃ p, k = p + 1 := ⟨k - 1, by omega⟩
              have hkp : ((p + 1 : Nat) : Int) - 1 = (p : Int) := by omega
              obtain ⟨g', b', dd', ys, eg, hg', hgl', hc', hry, hy, -⟩ := hT'.out.at_ (show p < ts.length by omega)
              injection eg with eg
              injection eg with eg
              subst eg
              have hyk : (valT ts)[p]? = some ys := by unfold valT; rw [List.getElem?_map, hy.out]; rfl
              have hoky := hfo.out.ok ys (List.mem_of_getElem? hyk)
              have hyl : ys.length ≤ 1048576 := by have := hoky.1; omega
              have hst : xs ∈ stepsP J ys := by rw [stepsP_ok hj.out hoky]; exact hfo.out.step p ys xs hyk hxk'.out
              have hmem := Lib.hid (show hasSS (stepsP J ys) xs = true by unfold hasSS; exact List.contains_iff_mem.2 hst)
              obtain ⟨hss1, hss2⟩ := steps_small J ys
              have hss2' := Lib.hid hss2
              have hSt := Lib.hid (iSteps_c A1 (some ⟨b', 0, none⟩) c1 dd' J ys wr V hJl hry hyl)
              clear hst hoky hyk hy hss2 hT'
              go_wp2_with fail
              refine hSt.out.mono ?_
              rintro e w5 ⟨B5, d5, us, rfl, hU, hv5, b5⟩
              rw [← hv5] at hmem hss1 hss2'
              rw [valT_length] at hss1
              have hb5 := chain hb b5 (Nat.le_refl _)
              have hc5 := (b5.cell (p := ⟨g, p + 1, none⟩) hgl).trans hc
              have hgl5 : g < w5.heap.size := Nat.lt_of_lt_of_le hgl b5.size
              have hrx5 := Lib.hid (hrx.at_world b5)
              clear hSt hv5 hkp hc hc' hgl hgl' b5 hxk' hry hrx hyl
              go_wp2
              go_loopw [9, 11] (fun f i wr => ∃ m : Nat, m ≤ us.length ∧ i = .int .i64 m ∧ f = .bool (hasSS ((valT us).take m) xs) ∧ Below w5.heap.size w5 wr) (fun _ i _ => us.length - (intOf i).toNat)
              case atStart => exact ⟨0, Nat.zero_le _, rfl, rfl, Below.refl _ _⟩
              case round =>
                obtain ⟨m, hm, rfl, rfl, hb2⟩ := hrel
                by_cases hlt2 : m < us.length
                · obtain ⟨gu, bz, dz, zs, rfl, hgu, hgul, hcz, hrz, hz, -⟩ := (hU.next hb2).at_ hlt2
                  have hzk : (valT us)[m]? = some zs := by unfold valT; rw [List.getElem?_map, hz.out]; rfl
                  have hzl : zs.length ≤ 1048576 := by have := hss2'.out zs (List.mem_of_getElem? hzk); omega
                  have hc6 := (hb2.cell (p := ⟨g, p + 1, none⟩) hgl5).trans hc5
                  have hgl6 : g < wr.heap.size := Nat.lt_of_lt_of_le hgl5 hb2.size
                  have hrx6 := hrx5.out.at_world hb2
                  have hN := Lib.hid (hasSS_take (y := xs) hzk)
                  obtain ⟨F, hF⟩ : ∃ F, hasSS ((valT us).take m) xs = F := ⟨_, rfl⟩
                  rw [hF] at hN ⊢
                  clear hF hzk hz
                  go_upto_region 23 with fail
                  have hS0 : SB wr wr.drew := (Below.refl _ _).drew
                  haveI hne : Nonempty (Wd (SB wr)) := ⟨⟨_, hS0⟩⟩
                  have cz : ∀ U : Wd (SB wr), U.val.cell? ⟨gu, m, none⟩ = some (.slice (some ⟨bz, 0, none⟩) zs.length dz) := fun U => (U.ok.cell (p := ⟨gu, m, none⟩) hgul).trans hcz
                  have cx : ∀ U : Wd (SB wr), U.val.cell? ⟨g, p + 1, none⟩ = some (.slice (some ⟨b, 0, none⟩) xs.length dd) := fun U => (U.ok.cell (p := ⟨g, p + 1, none⟩) hgl6).trans hc6
                  have hE := Lib.hid (fun U : Wd (SB wr) => sameI_c (some ⟨bz, 0, none⟩) (some ⟨b, 0, none⟩) dz dd zs xs U.val (hrz.at_world U.ok) (hrx6.at_world U.ok) hzl)
                  obtain ⟨bb, hbb⟩ : ∃ bb, (zs == xs) = bb := ⟨_, rfl⟩
                  rw [hbb] at hE hN
                  clear hbb hcz hc6 hrz hrx6
                  cases F
                  · refine wp_region_class (S := SB wr) (by kernel_rfl) (by kernel_rfl) hS0 ?_
                    clear hS0
                    repeat (go_big_quiet_step ((go_at_call 22; refine (hE.out _).mono ?_; rintro e w2 ⟨rfl, q, rfl⟩; exact ⟨rfl, ⟨_, below_drewN (Wd.ok _) q⟩, rfl⟩)))
                    refine wpQuiet_nil ?_
                    rintro W9 ⟨⟨U, hU9⟩, rfl⟩
                    have b9 : Below w5.heap.size w5 W9 := chain hb2 hU9 (Nat.le_refl _)
                    clear hU9 cz cx hne hE
                    go_wp2
                    go_roundw
                    case rel => exact ⟨m + 1, by omega, by go_num, by rw [hN.out]; rfl, b9⟩
                    case measure => simp [intOf]; omega
                  · refine wp_region_class (S := SB wr) (by kernel_rfl) (by kernel_rfl) hS0 ?_
                    clear hS0
                    repeat (go_big_quiet_step ((go_at_call 22; refine (hE.out _).mono ?_; rintro e w2 ⟨rfl, q, rfl⟩; exact ⟨rfl, ⟨_, below_drewN (Wd.ok _) q⟩, rfl⟩)))
                    refine wpQuiet_nil ?_
                    rintro W9 ⟨⟨U, hU9⟩, rfl⟩
                    have b9 : Below w5.heap.size w5 W9 := chain hb2 hU9 (Nat.le_refl _)
                    clear hU9 cz cx hne hE
                    go_wp2
                    go_roundw
                    case rel => exact ⟨m + 1, by omega, by go_num, by rw [hN.out]; rfl, b9⟩
                    case measure => simp [intOf]; omega
                · obtain rfl : m = us.length := by omega
                  have hF : hasSS ((valT us).take us.length) xs = true := by rw [List.take_of_length_le (by rw [valT_length]; exact Nat.le_refl _)]; exact hmem.out
                  rw [hF]
                  clear hF
                  go_wp2
                  go_roundw
                  case rel => exact ⟨p + 1 + 1, by omega, by go_num, chain hb5 hb2 (Nat.le_refl _)⟩
                  case measure => simp [intOf]; omega
            · go_wp2
              go_roundw
              case rel => exact ⟨k + 1, by omega, by go_num, hb⟩
              case measure => simp [intOf]; omega
        · clear hT
          obtain ⟨W5, hW5⟩ : ∃ W, W = wr := ⟨_, rfl⟩
          subst hW5
          obtain ⟨ga, off, x0, rfl, hga, hc0, hx0, -⟩ := V.at_ (show 0 < J.length from h1)
          rw [Nat.add_zero] at hc0
          have hx0b := hJb.out x0 (List.mem_of_getElem? hx0.out)
          obtain ⟨G0, rfl⟩ := Int.eq_ofNat_of_zero_le (show 0 ≤ x0 by omega)
          clear hb hx0
          go_wp2
          clear hlt hk
          go_loopw [12, 13, 14] (fun s1 s2 i wz => ∃ (k G : Nat) (M : Int), k ≤ J.length ∧ i = .int .i64 k ∧ s1 = .int .i64 G ∧ s2 = .int .i64 M ∧ 1 ≤ G ∧ G ≤ 9 ∧ 1 ≤ M ∧ M ≤ 9 ∧ Hid (Dv (G : Int) (J.take k)) ∧ Hid (∀ x ∈ J.take k, x ≤ M) ∧ Below W5.heap.size W5 wz) (fun _ _ i _ => J.length - (intOf i).toNat)
          case atStart => exact ⟨0, G0, _, Nat.zero_le _, rfl, rfl, rfl, by omega, by omega, by omega, by omega, (fun x hx => by cases hx), (fun x hx => by cases hx), Below.refl _ _⟩
          case round =>
            clear hc0 hx0b hga
            obtain ⟨k, G, M, hk, rfl, rfl, rfl, hG1, hG9, hM1, hM9, hDv, hMx, hb3⟩ := hrel
            replace V := V.at_world hb3
            replace H := chain H hb3 (Nat.le_refl _)
            obtain ⟨W6, hW6⟩ : ∃ W, W = wr := ⟨_, rfl⟩
            subst hW6
            by_cases hlt : k < J.length
            · obtain ⟨ga', off', y, eg, hgy, hcy, hy, -⟩ := V.at_ hlt
              injection eg with eg
              injection eg with e1 e2
              subst e1 e2
              have hyb := hJb.out y (List.mem_of_getElem? hy.out)
              obtain ⟨Y, rfl⟩ := Int.eq_ofNat_of_zero_le (show 0 ≤ y by omega)
              have hin2 := Lib.hid (show ∀ x ∈ J.take (k + 1), x ∈ J.take k ∨ x = (Y : Int) from fun x hx => by
                rw [List.take_add_one, hy.out] at hx
                rcases List.mem_append.1 hx with h | h
                · exact .inl h
                · right; simpa using h)
              clear hy
              obtain ⟨M2, hM2, hM2a, hM2b, hM2c⟩ : ∃ M2 : Int, Hid (max M (Y : Int) = M2) ∧ Hid (M ≤ M2) ∧ Hid ((Y : Int) ≤ M2) ∧ 1 ≤ M2 ∧ M2 ≤ 9 :=
                ⟨_, rfl, Int.le_max_left _ _, Int.le_max_right _ _, Int.le_trans hM1 (Int.le_max_left _ _), Int.max_le.2 ⟨hM9, by omega⟩⟩
              go_upto_region 31 with fail
              go_cut [13] (fun s wx => s = .int .i64 M2 ∧ W6 = wx)
              case first =>
                go_wp2
                go_meet
                exact ⟨by rw [← hM2.out], rfl⟩
              case rest =>
                obtain ⟨rfl, rfl⟩ := hcut
                clear hM2
                go_wp2
                go_loopw [15, 16] (fun a b wz => ∃ p q : Nat, p ≤ 9 ∧ q ≤ 9 ∧ a = .int .i64 p ∧ b = .int .i64 q ∧ Hid (Nat.gcd G Y = Nat.gcd p q) ∧ Below W6.heap.size W6 wz) (fun _ b _ => (intOf b).toNat)
                case atStart => exact ⟨G, Y, hG9, by omega, rfl, rfl, rfl, Below.refl _ _⟩
                case round =>
                  obtain ⟨p, q, hp, hq, rfl, rfl, hgc, hb4⟩ := hrel
                  by_cases h0 : q = 0
                  · subst h0
                    have hgf := Lib.hid (show Nat.gcd G Y = p by rw [hgc.out, Nat.gcd_zero_right])
                    have hp1 : 1 ≤ p := by rw [← hgf.out]; exact Nat.gcd_pos_of_pos_left _ hG1
                    have hd1 := Lib.hid (show (p : Int) ∣ (G : Int) by rw [← hgf.out]; exact Int.ofNat_dvd.2 (Nat.gcd_dvd_left _ _))
                    have hd2 := Lib.hid (show (p : Int) ∣ (Y : Int) by rw [← hgf.out]; exact Int.ofNat_dvd.2 (Nat.gcd_dvd_right _ _))
                    clear hgf hgc
                    go_wp2
                    go_roundw
                    case rel =>
                      refine ⟨k + 1, p, M2, by omega, by go_num, rfl, rfl, hp1, hp, hM2c.1, hM2c.2, ?_, ?_, chain hb3 hb4 (Nat.le_refl _)⟩
                      · intro x hx
                        rcases hin2.out x hx with h | h
                        · exact Int.dvd_trans hd1.out (hDv.out x h)
                        · rw [h]; exact hd2.out
                      · intro x hx
                        rcases hin2.out x hx with h | h
                        · exact Int.le_trans (hMx.out x h) hM2a.out
                        · rw [h]; exact hM2b.out
                    case measure => simp [intOf]; omega
                  · have hne : ((q : Int) != 0) = true := by simp; omega
                    have hne2 : ((q : Int) == 0) = false := by simp; omega
                    have hltq := Nat.mod_lt p (show q > 0 by omega)
                    have hq2 := Lib.hid (show Nat.gcd G Y = Nat.gcd q (p % q) by rw [hgc.out, Nat.gcd_comm p q, Nat.gcd_rec q p, Nat.gcd_comm])
                    have e1 : Int.tmod (p : Int) (q : Int) = ((p % q : Nat) : Int) := rfl
                    have e2 : IntKind.i64.wrap ((p % q : Nat) : Int) = ((p % q : Nat) : Int) := IntWalk.i64_in _ (by omega)
                    go_wp2
                    go_quiet (fail)
                    go_wp2
                    go_roundw
                    case rel => exact ⟨q, p % q, hq, by omega, rfl, rfl, hq2, below_drewN hb4 _⟩
                    case measure => simp [intOf]; omega
            · obtain rfl : k = J.length := by omega
              rw [List.take_length] at hDv hMx
              have hmm := Lib.hid (fun h => hmu.out G M hDv.out hMx.out h)
              have hcn := Lib.hid (iCnt_c nn hnn (some ⟨ga, off, none⟩) c1 J W6 V hJl)
              have hc2 := cnt_two hj.out hnn
              obtain ⟨C, hC⟩ : ∃ C, cntS nn J = C := ⟨_, rfl⟩
              rw [hC] at hcn hc2
              have hn01 := Lib.hid (show vn = 0 → n = 0 from fun e => by
                have h5 := hfo.out.zero (by omega)
                rw [valT_length] at h5
                have := hnl'.out
                omega)
              clear hC hlt hDv hMx hmu hfo
              go_wp2_with fail
              refine hcn.out.mono ?_
              rintro e w7 ⟨rfl, b⟩
              replace V := V.at_world b
              replace H := chain H b (Nat.le_refl _)
              have hjo := Lib.hid (iJugsOk_c (some ⟨ga, off, none⟩) c1 J w7 V hJl)
              rw [hj.out] at hjo
              clear b hcn
              have hr9 : RdI (w7.alloc (.cells #[.int .i64 3, .int .i64 5] 3)) (w7.alloc (.cells #[.int .i64 3, .int .i64 5] 3)).heap.size (some ⟨w7.heap.size, 0, none⟩) [3, 5] := RdI.of_ints (xs := [3, 5]) (Blk.new _ _ _)
              have hf9 := Lib.hid (iFew_c nn hnn (some ⟨w7.heap.size, 0, none⟩) 2 [3, 5] 4 _ hr9 (by decide))
              rw [few35 hnn] at hf9
              have H9 := H.alloc H.size (.cells #[.int .i64 3, .int .i64 5] 3)
              clear hr9 H
              have hG0 : ((G : Int) == 0) = false := by simp; omega
              by_cases hneg : n < 0
              · have hv0 : 0 < vn := by
                  rcases Nat.eq_zero_or_pos vn with h | h
                  · have := hn01.out h; omega
                  · exact h
                clear hmm
                go_wp2_with fail
                refine hjo.out.mono ?_
                rintro e w' ⟨rfl, rfl⟩
                go_wp2_with fail
                refine hf9.out.mono ?_
                rintro e w9 ⟨rfl, b⟩
                go_wp2
                go_ret
                exact ⟨rfl, chain H9 b (Nat.le_refl _)⟩
              · obtain ⟨hm1, hm2⟩ := hmm.out (by omega)
                have e1 : Int.tmod (vn : Int) (G : Int) = 0 := Int.tmod_eq_zero_of_dvd hm1
                clear hm1 hmm
                by_cases hv0 : vn = 0
                · have hn9 := hn01.out hv0
                  go_wp2_with fail
                  refine hjo.out.mono ?_
                  rintro e w' ⟨rfl, rfl⟩
                  go_wp2_with fail
                  refine hf9.out.mono ?_
                  rintro e w9 ⟨rfl, b⟩
                  go_wp2
                  go_ret
                  exact ⟨rfl, chain H9 b (Nat.le_refl _)⟩
                · have hv1 : 0 < vn := Nat.pos_of_ne_zero hv0
                  go_wp2_with fail
                  refine hjo.out.mono ?_
                  rintro e w' ⟨rfl, rfl⟩
                  go_wp2_with fail
                  refine hf9.out.mono ?_
                  rintro e w9 ⟨rfl, b⟩
                  go_wp2
                  go_ret
                  exact ⟨rfl, chain H9 b (Nat.le_refl _)⟩
  · have hd := Lib.hid (show decide ((1048576 : Int) < code.length) = true from decide_eq_true (by omega))
    go_enter Try.func4, Try.ntmps4
    go_wp2_with fail
    refine (big_c _ _ _ _).mono ?_
    rw [hd.out]
    rintro e w' ⟨rfl, rfl⟩
    go_wp2
    go_ret
    exact ⟨rfl, Below.refl _ _⟩
set_option maxRecDepth 100000 in
theorem FnJugs_lifted (os : Os) (started : os.Started) (H : Type) (enc : TypeId × Value → H) :
    ReturnsInHanded {} Try.checked os 4 .any (Rows.fnJugsSpec.pre6 enc Try.prog Try.f4 Rows.fnJugsRow.domain false) (Rows.fnJugsSpec.post enc Try.prog Try.f4 false true false false) := by
  refine returnsInHanded_of_change (C := Try.checked) own_ started (by kernel_rfl) Try.func4
    (ChangeSpec.witness6 (enc := enc) (C := Try.checked) false ⟨#[], #[.slice none 0 0], []⟩ 8 (by kernel_rfl) (by kernel_rfl) (by kernel_rfl) (by kernel_rfl)) ?_
  intro W base args ds gs before hval0 hW hcnd _
  have hval : ∀ (j : Nat) t v, Try.f4.params[j]? = some t → args[j]? = some v → Value.okWide Try.prog W .any base t v := hval0
  have hW' := hW
  obtain ⟨p, q, hA0, hV, rfl, hfz, hnd⟩ := hW
  have hA : DataW.TrodAll enc Try.prog W 0 (fun _ => true) true Try.f4.params.toList args.toList ds p := hA0
  rw [Try.params4] at hA hval
  obtain ⟨v0, vs0, d0, ds0, p0, q0, hargs, rfl, rfl, h0, r0⟩ := trodAll_cons hA
  obtain ⟨rfl, rfl, rfl⟩ := trodAll_nil r0
  obtain rfl : args = #[v0] := by cases args; simp_all
  obtain ⟨rfl, rfl⟩ := trodVars_none hV
  have k0 := h0
  have lt0 : ∀ x ∈ p0, x.block < W.heap.size := by obtain ⟨m, hm⟩ := k0; exact DataW.trod_lt m _ _ _ hm
  obtain ⟨s0, len0, cap0, rfl⟩ := okWide_slice Try.underlying26 (hval 0 26 v0 rfl rfl)
  obtain ⟨x0, rfl, m0, r_0⟩ : ∃ zs : List Int, len0 = zs.length ∧ zs.length ≤ maxLen ∧ RdB W W.heap.size s0 zs := by
    obtain ⟨fuel, hf⟩ := h0
    rcases open_ints Try.underlying26 Try.underlying5 (by kernel_rfl) hf with ⟨hcs, _⟩ | ⟨x, l, c, zs, hcs, _, hl, hm, hz, _, hcell, hwz⟩
    · simp [Value.cells] at hcs
      obtain ⟨rfl, rfl, rfl⟩ := hcs
      exact ⟨[], rfl, Nat.zero_le _, .inl rfl⟩
    · simp [Value.cells] at hcs
      obtain ⟨rfl, rfl, rfl⟩ := hcs
      have hlz : len0 ≤ zs.length := by simp only [if_true] at hz; omega
      exact ⟨zs.take len0, by simp; omega, by simp; omega, RdB.of_open hcell hwz⟩
  clear hA0 hval0
  refine (FnJugs_walk s0 cap0 x0 W m0 r_0).mono fun e W' ⟨he, bel⟩ => ?_
  subst he
  exact ⟨_, rfl, _, _, _, [], _, [], hW', trodAll_mk1 (shut_bool Try.underlying4 _), (trodAll_cons_mk (Below.trod laidOut_ (by kernel_rfl) (of_decide_eq_true (by kernel_rfl)) k0 bel lt0) trodAll_mk0), rfl, bel.frame _, fun h => by cases h⟩

theorem FnJugs_over : Rows.fnJugsRow.holds Try.pinned (OpenSpec.ofChange Rows.fnJugsSpec) :=
  OpenClaim.holds_of_wide 4 Try.f4 rfl rfl rfl rfl rfl rfl rfl ⟨rfl, rfl, rfl, rfl, rfl⟩ rfl rfl rfl rfl rfl (by kernel_rfl) Try.func4 (by kernel_rfl)
    (of_decide_eq_true (by kernel_rfl)) (by unfold Func.isWrapper; first | (rw [if_pos (by decide +kernel)]; kernel_rfl) | (rw [if_neg (by decide +kernel)]; exact ⟨rfl, rfl⟩))
    (fun os started H enc _ => FnJugs_lifted os started H enc)

theorem FnJugs_proved : Rows.FnJugsSaid := FnJugs_over
end Go.Proofs.Ytdnknddldfihdaa
