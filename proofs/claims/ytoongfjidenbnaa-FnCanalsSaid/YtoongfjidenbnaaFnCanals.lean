/- FnCanals: pools stand between higher ground, and digging at the lowest place never empties them. -/
import Derived.Test.YtoongfjidenbnaaDrawG
import Derived.Test.YtoongfjidenbnaaLaw
import Derived.Test.YtoongfjidenbnaaTail
namespace Go.Proofs.Ytoongfjidenbnaa
open Go.ChangeShapes Go.WideShapes Go.ChangeAt Go.RowKit Go.Joins
set_option linter.unusedVariables false

set_option maxRecDepth 100000 in
set_option maxHeartbeats 4000000 in
theorem FnCanals_walk (A : Option Addr) (cp : Nat) (code : List Int) (w : World) (hm : code.length ≤ maxLen) (hr : RdB w w.heap.size A code) :
    Calls Try.prog 10 #[.slice A code.length cp] w fun e w' => e = .returned (.bool true) ∧ Below w.heap.size w w' := by
  by_cases hl : code.length ≤ 1048576
  · have hd := Lib.hid (show decide ((1048576 : Int) < code.length) = false from decide_eq_false (by omega))
    clear hm
    go_enter Try.func10, Try.ntmps10
    go_wp2_with fail
    refine (big_c _ _ _ _).mono ?_
    rw [hd.out]
    rintro e w' ⟨rfl, rfl⟩
    go_wp2_with fail
    refine (drawGround_c _ _ _ _ hr hl).mono ?_
    rintro e w1 ⟨A1, c1, g, rfl, hO, g1, g12, hb, H⟩
    obtain ⟨b1, rfl, hb1, hb2, hc1, hc2⟩ := hO.some_ (k := 0) (by omega)
    have hgB : groundB g = true := by
      unfold groundB
      simp only [Bool.and_eq_true, inB_iff, allB_iff]
      exact ⟨by omega, fun x hx => by have := hb x hx; omega⟩
    have R := hO.rd
    have hb' := Lib.hid hb
    have hg' := Lib.hid hgB
    have hl8 : g.length ≤ 1048576 := by omega
    have hw1 : w.heap.size ≤ w1.heap.size := H.size
    have hsn := Lib.hid (sum_all hgB)
    have hn0 := sumP_nn g g.length (Nat.le_refl _)
    have hn1 := (sumP_b g (fun x hx => by have := hb x hx; omega) g.length (Nat.le_refl _)).2
    obtain ⟨n, hn⟩ : ∃ n, sumP g g.length = n := ⟨_, rfl⟩
    rw [hn] at hn0 hn1 hsn
    have hn' := Lib.hid hn
    clear hn hb hgB hO
    go_wp2_with fail
    refine (iPoolSum_c _ _ g _ R hl8 hc1 hc2).mono ?_
    rw [hsn.out]
    rintro e w2 ⟨rfl, b⟩
    have hs2 := b.size
    replace H := chain H b (Nat.le_refl _)
    replace R := R.below b (Nat.le_refl _)
    clear b
    go_wp2
    go_loopw [5, 6, 7] (fun sm pt i wr => ∃ k : Nat, k ≤ g.length ∧ i = .int .i64 k ∧ sm = .int .i64 (sumP g k) ∧ pt = .int .i64 (cntP g k : Nat) ∧ Below w.heap.size w wr ∧ RdI wr w1.heap.size (some ⟨b1, 0, none⟩) g ∧ w1.heap.size ≤ wr.heap.size) (fun _ _ i _ => g.length - (intOf i).toNat)
    case atStart => exact ⟨0, Nat.zero_le _, rfl, rfl, rfl, H, R, hs2⟩
    case round =>
      clear H R hs2
      obtain ⟨k, hk, rfl, rfl, rfl, H, R, hs⟩ := hrel
      by_cases hlt : k < g.length
      · obtain ⟨x, hbx, hcx, hx, -⟩ := R.atC hlt
        have hsb := sumP_b g (fun x hx => by have := hb'.out x hx; omega) k hk
        have hpn := poolF_nn g k hlt
        have hpb := (poolF_b g k hlt (fun x hx => by have := hb'.out x hx; omega)).2
        have hcb := cntP_b g k
        have hse := Lib.hid (show sumP g (k + 1) = sumP g k + poolF g k from rfl)
        have hpz := Lib.hid (poolZ_at g k hg'.out hlt)
        have hp0 := Lib.hid (fun (e : k = 0) => show poolF g k = 0 by subst e; exact pool_first hlt (fun x hx => by have := hb'.out x hx; omega))
        have hpl := Lib.hid (fun (e : k + 1 = g.length) => pool_last e (fun x hx => by have := hb'.out x hx; omega))
        have hx8 := hb'.out x (List.mem_of_getElem? hx.out)
        obtain ⟨hdg1, hdg2⟩ := dig_facts hg'.out hx.out
        have hds := Lib.hid (fun h1 hp => dig_sum hx.out hg'.out h1 hp)
        have hdg1' := Lib.hid hdg1
        have hdg2' := Lib.hid hdg2
        obtain ⟨i, j, hfi, hfj, hik, hkj, hjl, hgi, hgj⟩ := flow_facts hg'.out hlt
        obtain ⟨L, hL⟩ : ∃ L, flowL g k = L := ⟨_, rfl⟩
        obtain ⟨Q, hQ⟩ : ∃ Q, flowR g k = Q := ⟨_, rfl⟩
        rw [hL] at hfi
        rw [hQ] at hfj
        have hL' := Lib.hid hL
        have hQ' := Lib.hid hQ
        have hLw := Lib.hid (show IntKind.i64.wrap ((k : Int) - L) = (i : Int) by rw [IntWalk.i64_in _ (by omega)]; omega)
        have hQw := Lib.hid (show IntKind.i64.wrap ((k : Int) + Q) = (j : Int) by rw [IntWalk.i64_in _ (by omega)]; omega)
        obtain ⟨L0, L1, Q0, Q1⟩ : 0 ≤ L ∧ L ≤ 30 ∧ 0 ≤ Q ∧ Q ≤ 30 := by omega
        clear hL hQ
        obtain ⟨yi, -, -, hyi, -⟩ := R.atC (show i < g.length by omega)
        obtain ⟨yj, -, -, hyj, -⟩ := R.atC hjl
        rw [getD_of hyi.out, getD_of hx.out] at hgi
        rw [getD_of hyj.out, getD_of hx.out] at hgj
        have hpool := Lib.hid (show isPool g k = (decide (0 < poolF g k) && (k == 0 || poolF g (k - 1) == 0)) from rfl)
        clear hdg1 hdg2 hfi hfj
        obtain ⟨p, hp⟩ : ∃ p, poolF g k = p := ⟨_, rfl⟩
        obtain ⟨s, hs3⟩ : ∃ s, sumP g k = s := ⟨_, rfl⟩
        obtain ⟨c, hcc⟩ : ∃ c, cntP g k = c := ⟨_, rfl⟩
        rw [hp] at hpn hpb hse hpz hp0 hpl hds hpool
        rw [hs3] at hsb hse
        rw [hcc] at hcb
        rw [hs3, hcc]
        have hcc' := Lib.hid hcc
        clear hp hs3 hcc
        go_wp2_with fail
        refine (iPoolAt_c _ _ g _ _ (R.more hs) hl8 hc1 hc2).mono ?_
        rw [hpz.out]
        rintro e w3 ⟨rfl, b⟩
        have hs3 := b.size
        replace H := chain H b (Nat.le_refl _)
        replace R := R.below b hs
        clear b hcx
        have hsm : -(100 * (k : Int)) ≤ s ∧ s ≤ 100 * (k : Int) := hsb
        go_upto_region 12 with (fail)
        go_cut [52] (fun s wc => s = .bool false ∧ wc = w3)
        case first =>
          have hp0n : decide (p < 0) = false := decide_eq_false (by omega)
          by_cases hp0' : p = 0
          · have hpne : (p != 0) = false := by rw [hp0']; rfl
            clear hp0'
            cases hkb : ((k : Int) == 0)
            · cases hkb2 : ((k : Int) == (g.length : Int) - 1)
              · go_wp2_with fail
                go_meet
                exact ⟨rfl, rfl⟩
              · go_wp2_with fail
                go_meet
                exact ⟨rfl, rfl⟩
            · go_wp2_with fail
              go_meet
              exact ⟨rfl, rfl⟩
          · have hkb : ((k : Int) == 0) = false := beq_eq_false_iff_ne.2 (fun e => hp0' (hp0.out (by omega)))
            have hkb2 : ((k : Int) == (g.length : Int) - 1) = false := beq_eq_false_iff_ne.2 (fun e => hp0' (hpl.out (by omega)))
            clear hp0'
            go_wp2_with fail
            go_meet
            exact ⟨rfl, rfl⟩
        case rest =>
          obtain ⟨rfl, rfl⟩ := hcut
          go_upto_region 14 with (fail)
          go_cut [61] (fun s wx => s = .bool (isPool g k) ∧ Below w.heap.size w wx ∧ RdI wx w1.heap.size (some ⟨b1, 0, none⟩) g ∧ w1.heap.size ≤ wx.heap.size)
          case first =>
            by_cases hpos : 0 < p
            · have hk0 : k ≠ 0 := fun e => by have := hp0.out e; omega
              have hz0 := poolZ_at g (k - 1) hg'.out (by omega)
              have e1 : ((k - 1 : Nat) : Int) = (k : Int) - 1 := by omega
              rw [e1] at hz0
              have hz0' := Lib.hid hz0
              obtain ⟨q, hq⟩ : ∃ q, poolF g (k - 1) = q := ⟨_, rfl⟩
              rw [hq] at hz0' hpool
              clear e1 hz0 hq
              have hpq := Lib.hid (show isPool g k = (q == 0) by rw [hpool.out, decide_eq_true hpos]; simp [hk0])
              clear hk0
              go_wp2_with fail
              refine (iPoolAt_c _ _ g _ _ (R.more (by omega)) hl8 hc1 hc2).mono ?_
              rw [hz0'.out]
              rintro e w4 ⟨rfl, b⟩
              have hs4 := b.size
              replace H := chain H b (Nat.le_refl _)
              replace R := R.below b (by omega)
              clear b
              go_wp2
              go_meet
              exact ⟨by rw [hpq.out], H, R, by omega⟩
            · have hpd : decide (0 < p) = false := decide_eq_false hpos
              have hpq := Lib.hid (show isPool g k = false by rw [hpool.out, hpd]; rfl)
              clear hpos
              go_wp2
              go_meet
              exact ⟨by rw [hpq.out], H, R, by omega⟩
          case rest =>
            clear H R
            obtain ⟨rfl, H, R, hs4⟩ := hcut
            obtain ⟨P, hP⟩ : ∃ P, isPool g k = P := ⟨_, rfl⟩
            rw [hP]
            have hcn := Lib.hid (cnt_step hP)
            rw [hcc'.out] at hcn
            clear hP
            go_upto_if 61 with (fail)
            go_cut [6] (fun s wy => s = .int .i64 (cntP g (k + 1) : Nat) ∧ Below w.heap.size w wy ∧ RdI wy w1.heap.size (some ⟨b1, 0, none⟩) g ∧ w1.heap.size ≤ wy.heap.size)
            case first =>
              cases P
              · have hcn2 := Lib.hid (show cntP g (k + 1) = c from hcn.out)
                go_wp2
                go_meet
                exact ⟨by rw [hcn2.out], H, R, by omega⟩
              · have hcn2 := Lib.hid (show cntP g (k + 1) = c + 1 from hcn.out)
                go_wp2
                go_meet
                exact ⟨by rw [hcn2.out]; go_num, H, R, by omega⟩
            case rest =>
              clear H R
              obtain ⟨rfl, H, R, hs4'⟩ := hcut
              obtain ⟨cn, hcne⟩ : ∃ cn : Nat, cntP g (k + 1) = cn := ⟨_, rfl⟩
              have hcn31 : cn ≤ 31 := by rw [← hcne]; have := cntP_b g (k + 1); omega
              rw [hcne]
              have hcne' := Lib.hid hcne
              clear hcne
              go_wp2_with fail
              refine (iFlowsTo_c _ _ g _ _ (R.more (by omega)) hl8).mono ?_
              rw [hL'.out, hQ'.out]
              rintro e w5 ⟨rfl, b⟩
              have hs5 := b.size
              replace H := chain H b (Nat.le_refl _)
              replace R := R.below b (by omega)
              clear b
              go_wp2
              obtain ⟨yi2, -, hci, hyi2, -⟩ := R.atC (show i < g.length by omega)
              obtain rfl : yi = yi2 := Option.some.inj (hyi.out.symm.trans hyi2.out)
              obtain ⟨yj2, -, hcj, hyj2, -⟩ := R.atC hjl
              obtain rfl : yj = yj2 := Option.some.inj (hyj.out.symm.trans hyj2.out)
              obtain ⟨x2, -, hck, hx2, -⟩ := R.atC hlt
              obtain rfl : x = x2 := Option.some.inj (hx.out.symm.trans hx2.out)
              rw [Nat.zero_add] at hci hcj hck
              have hd1 : decide (L < 0) = false := decide_eq_false (by omega)
              have hd2 : decide (Q < 0) = false := decide_eq_false (by omega)
              have hd3 : decide ((i : Int) < 0) = false := decide_eq_false (by omega)
              have hd4 : decide ((g.length : Int) ≤ (j : Int)) = false := decide_eq_false (by omega)
              have hd5 : decide (x < yi) = false := decide_eq_false (by omega)
              have hd6 : decide (x < yj) = false := decide_eq_false (by omega)
              have hi0 : (0 : Int) ≤ (i : Int) := by omega
              have hi1 : (i : Int) < (g.length : Int) := by omega
              have hj0 : (0 : Int) ≤ (j : Int) := by omega
              have hj1 : (j : Int) < (g.length : Int) := by omega
              have hk0I : (0 : Int) ≤ (k : Int) := by omega
              have hk1I : (k : Int) < (g.length : Int) := by omega
              have hw3 := hLw.out
              have hw4 := hQw.out
              clear hyi2 hyj2 hx2
              go_quiet (fail)
              clear hw3 hw4
              go_wp2_with fail
              refine (iDigAt_c _ _ g _ _ _ ((R.drewN _).more (show w1.heap.size ≤ w5.heap.size by omega)) hl8).mono ?_
              rw [hdg1'.out, hdg2'.out]
              rintro e w6 ⟨A6, c6, rfl, hO6, b⟩
              replace b : Below w5.heap.size w5 w6 := ⟨b.os, b.tape, b.output, b.size, b.block⟩
              have hs6 := b.size
              replace H := chain H b (Nat.le_refl _)
              replace R := R.below b (by omega)
              clear b hci hcj hck
              obtain ⟨x3, -, hck, hx3, -⟩ := R.atC hlt
              obtain rfl : x = x3 := Option.some.inj (hx.out.symm.trans hx3.out)
              rw [Nat.zero_add] at hck
              clear hx3
              by_cases hx1 : 1 ≤ x
              · have hx1d : decide (1 ≤ x) = true := decide_eq_true hx1
                rw [hx1d, if_pos hx1]
                rw [if_pos hx1] at hO6
                rw [List.length_set]
                by_cases hpos : 0 < p
                · have hsd := Lib.hid (hds.out hx1 hpos)
                  rw [hsn.out] at hsd
                  obtain ⟨g6, rfl, hg61, hg62, hc61, hc62⟩ := hO6.some_ (k := 0) (by rw [List.length_set]; omega)
                  rw [List.length_set] at hc61
                  have hbn : (n + 1 != n + 1) = false := by simp
                  go_wp2_with fail
                  refine (iPoolSum_set _ _ g k (x - 1) (n + 1) _ hO6.rd hl8 hc61 hc62 hsd.out).mono ?_
                  rintro e w7 ⟨rfl, b⟩
                  replace H := chain H b (Nat.le_refl _)
                  replace R := R.below b (by omega)
                  have hs7 := b.size
                  clear b hck
                  go_wp2
                  go_roundw
                  case rel =>
                    exact ⟨k + 1, by omega, by go_num, by rw [hse.out], by rw [hcne'.out], H, R, by omega⟩
                  case measure => simp [intOf]; omega
                · have hpd : decide (0 < p) = false := decide_eq_false hpos
                  clear hpos
                  go_wp2
                  go_roundw
                  case rel =>
                    exact ⟨k + 1, by omega, by go_num, by rw [hse.out], by rw [hcne'.out], H, R, by omega⟩
                  case measure => simp [intOf]; omega
              · have hx1d : decide (1 ≤ x) = false := decide_eq_false hx1
                rw [hx1d, if_neg hx1]
                clear hx1
                go_wp2
                go_roundw
                case rel =>
                  exact ⟨k + 1, by omega, by go_num, by rw [hse.out], by rw [hcne'.out], H, R, by omega⟩
                case measure => simp [intOf]; omega
      · obtain rfl : k = g.length := by omega
        obtain ⟨b, hbz, hbl, hbm⟩ := dam_facts hg'.out
        have hbz' := Lib.hid hbz
        have hbm' := Lib.hid hbm
        have hcz := Lib.hid (cnt_all hg'.out)
        rw [hn'.out]
        have hcb := cntP_b g g.length
        obtain ⟨cn, hcn⟩ : ∃ cn, cntP g g.length = cn := ⟨_, rfl⟩
        rw [hcn] at hcb hcz
        rw [hcn]
        clear hbz hbm hcn
        go_wp2_with fail
        clear hlt hk
        refine (iDam_c _ _ g _ _ (R.more hs) hl8).mono ?_
        rw [hbz'.out]
        rintro e w3 ⟨rfl, b3⟩
        have hs3 := b3.size
        replace H := chain H b3 (Nat.le_refl _)
        replace R := R.below b3 hs
        clear b3
        obtain ⟨xb, -, -, hxb, -⟩ := R.atC hbl
        have h9 : inB 9 0 100 = true := (inB_iff 9 0 100).2 ⟨by omega, by omega⟩
        have hxb8 := hb'.out xb (List.mem_of_getElem? hxb.out)
        have hxb9 : xb < 9 := by omega
        have hbI : (b : Int) < (g.length : Int) := by omega
        have hbd : decide ((g.length : Int) ≤ (b : Int)) = false := decide_eq_false (by omega)
        have hE := OwnI.empty w3
        have hra := ((R.more (show w1.heap.size ≤ w3.heap.size by omega)).alloc (Nat.le_refl _) (.cells #[] 3))
        have hsx := Lib.hid (show poolSumZ (g.set b 9) = damV g 9 b by unfold damV raise; rw [getDat hxb.out]; congr 2; omega)
        go_upto_region 28 with (first | (at_builtin; refine wpList_append_rd _ rfl (.tmp 154) (.tmp 155) rfl w3.heap.size (some ⟨w3.heap.size, 0, none⟩) 0 0 [] rfl rfl hE w3.heap.size (some ⟨b1, 0, none⟩) g.length c1 g rfl rfl hra (by simp; omega) (by simp) ?_; intro A2 c2 w4 hX hgr hat; (simp only [List.nil_append] at hX); (have H4 : Below w3.heap.size w3 w4 := ((Below.refl _ _).alloc (Nat.le_refl _) _).grown hgr (by simp) (fun k' hk' => by simp only [Value.ownBlock] at hk'; injection hk' with hk'; omega)); (obtain ⟨g2, rfl, hg2, hg2l, hcx2, hm2⟩ := hX.some_ hbl); (have hcell := hX.cellI hxb.out); (have hfr := hX.frz b); (have hX' := hX.stored b 9); (have hX3 := Lib.hid (hX.grew b 9)); clear hgr hat) | fail)
        replace hX3 := hX3.out
        have H5 : Below w3.heap.size w3 (w4.setCell ⟨g2, b, none⟩ (.int .i64 9)) := H4.setCell (p := ⟨g2, b, none⟩) hg2 _
        have H6 := chain H H5 (Nat.le_refl _)
        have hs5 := H5.size
        replace R := R.below H5 (by omega)
        have hw5 : w3.heap.size ≤ w4.heap.size := H4.size
        have hX5 : OwnI (w4.setCell ⟨g2, b, none⟩ (.int .i64 9)) w3.heap.size (some ⟨g2, 0, none⟩) c2 (g.set b 9) := hX'
        generalize hwz : w4.setCell ⟨g2, b, none⟩ (.int .i64 9) = w5 at *
        have hg25 : g2 < w5.heap.size := hX5.lt_ _ rfl
        clear hX hX' hX3 H4 H5 hcell hfr hwz hE hra H hg2l
        have hE2 := OwnI.empty w5
        have hra2 := ((R.more (show w1.heap.size ≤ w5.heap.size by omega)).alloc (Nat.le_refl _) (.cells #[] 3))
        go_wp2_with (first | (at_builtin; refine wpList_append_rd _ rfl (.tmp 166) (.tmp 167) rfl w5.heap.size (some ⟨w5.heap.size, 0, none⟩) 0 0 [] rfl rfl hE2 w5.heap.size (some ⟨b1, 0, none⟩) g.length c1 g rfl rfl hra2 (by simp; omega) (by simp) ?_; intro A3 c3 w6 hY hgr hat; (simp only [List.nil_append] at hY); (have H7 : Below w5.heap.size w5 w6 := ((Below.refl _ _).alloc (Nat.le_refl _) _).grown hgr (by simp) (fun k' hk' => by simp only [Value.ownBlock] at hk'; injection hk' with hk'; omega)); clear hgr hat) | fail)
        have H8 := chain H6 H7 (Nat.le_refl _)
        have hs6 := H7.size
        replace R := R.below H7 (by omega)
        have hX6 := hX5.next H7
        clear hX5 H6 H7 hE2 hra2
        refine (at_c _ _ _ _ _ ((hr.below H8 (Nat.le_refl _)).more H8.size) hl (by omega) (by omega)).mono ?_
        rintro e w' ⟨a, rfl, a0, a1, rfl⟩
        have am0 := Int.emod_nonneg a (show (g.length : Int) ≠ 0 by omega)
        have am1 := Int.emod_lt_of_pos a (show (0 : Int) < (g.length : Int) by omega)
        obtain ⟨i, hi⟩ := Int.eq_ofNat_of_zero_le am0
        rw [hi] at am0 am1
        have hil : i < g.length := by omega
        obtain ⟨yi, -, -, hyi, -⟩ := R.atC hil
        have hyi8 := hb'.out yi (List.mem_of_getElem? hyi.out)
        have hyi9 : yi < 9 := by omega
        have hsy := Lib.hid (show poolSumZ (g.set i 9) = damV g 9 i by unfold damV raise; rw [getDat hyi.out]; congr 2; omega)
        have hle := hbm'.out i hil
        obtain ⟨vx, hvx⟩ : ∃ v, damV g 9 b = v := ⟨_, rfl⟩
        obtain ⟨vy, hvy⟩ : ∃ v, damV g 9 i = v := ⟨_, rfl⟩
        rw [hvx] at hle hsx
        rw [hvy] at hle hsy
        obtain ⟨g3, rfl, hg3, hg3l, hcy2, hm3⟩ := hY.some_ hil
        have hcell := hY.cellI hyi.out
        have hfr := hY.frz i
        have hY' := hY.stored i 9
        have hY3 := hY.grew i 9
        have hX7 := hX6.kept hY3 (fun gb e h => by injection h with h; injection e with e; injection e with e; omega)
        have H9 := Lib.hid (H8.setCell (p := ⟨g3, i, none⟩) (show w.heap.size ≤ g3 by omega) (.int .i64 9))
        have R9 := Lib.hid (R.setCell (p := ⟨g3, i, none⟩) (show w1.heap.size ≤ g3 by omega) (.int .i64 9))
        clear hY hX6 hY3 hvx hvy
        go_wp2_with fail
        have hw9 : w6.heap.size = (w6.setCell ⟨g3, i, none⟩ (.int .i64 9)).heap.size := by simp
        generalize hwz : w6.setCell ⟨g3, i, none⟩ (.int .i64 9) = w9 at *
        clear hcell hfr hi
        have H := H9.out
        have R := R9.out
        refine (iPoolCount_c _ _ g _ (R.more (by omega)) hl8 hc1 hc2).mono ?_
        rw [hcz.out]
        rintro e w10 ⟨rfl, b10⟩
        have hs10 := b10.size
        replace H := chain H b10 (Nat.le_refl _)
        replace R := R.below b10 (by omega)
        have hX := hX7.next b10
        have hY := hY'.next b10
        clear b10 hX7 hY'
        go_wp2_with fail
        refine (iPoolSum_set _ _ g b 9 vx _ hX.rd hl8 hcx2 hm2 hsx.out).mono ?_
        rintro e w11 ⟨rfl, b11⟩
        have hs11 := b11.size
        replace H := chain H b11 (Nat.le_refl _)
        replace R := R.below b11 (by omega)
        replace hY := hY.next b11
        clear b11 hX
        go_wp2_with fail
        refine (iPoolSum_set _ _ g i 9 vy _ hY.rd hl8 hcy2 hm3 hsy.out).mono ?_
        rintro e w12 ⟨rfl, b12⟩
        have hs12 := b12.size
        replace H := chain H b12 (Nat.le_refl _)
        replace R := R.below b12 (by omega)
        clear b12 hY
        have RL : RdI _ _ _ cupA := RdI.of_ints (xs := cupA) (Blk.new w12 3 #[.int .i64 3, .int .i64 0, .int .i64 2])
        replace H := H.alloc H.size (.cells #[.int .i64 3, .int .i64 0, .int .i64 2] 3)
        replace R := R.alloc (by omega) (.cells #[.int .i64 3, .int .i64 0, .int .i64 2] 3)
        have h3m : (3 : Nat) ≤ maxLen := by unfold maxLen; omega
        have hcup := Lib.hid cup_ok
        have hfo := Lib.hid (iPoolSum_c (some ⟨w12.heap.size, 0, none⟩) 3 cupA _ RL (by decide) (by decide) h3m)
        rw [hcup.out] at hfo
        clear h3m
        go_wp2_with fail
        refine hfo.out.mono ?_
        rintro e w13 ⟨rfl, b13⟩
        have hs13 := b13.size
        simp only [World.size_alloc] at hs13
        replace H := chain H b13 (Nat.le_refl _)
        replace R := R.below b13 (by simp only [World.size_alloc]; omega)
        clear b13
        go_wp2_with fail
        refine (iGroundOk_c _ _ g _ (R.more (by omega)) hl8).mono ?_
        rw [hg'.out]
        rintro e w' ⟨rfl, rfl⟩
        go_wp2
        go_ret
        exact ⟨rfl, H⟩
  · have hd := Lib.hid (show decide ((1048576 : Int) < code.length) = true from decide_eq_true (by omega))
    go_enter Try.func10, Try.ntmps10
    go_wp2_with fail
    refine (big_c _ _ _ _).mono ?_
    rw [hd.out]
    rintro e w' ⟨rfl, rfl⟩
    go_wp2
    go_ret
    exact ⟨rfl, Below.refl _ _⟩
set_option maxRecDepth 100000 in
theorem FnCanals_lifted (os : Os) (started : os.Started) (H : Type) (enc : TypeId × Value → H) :
    ReturnsInHanded {} Try.checked os 10 .any (Rows.fnCanalsSpec.pre6 enc Try.prog Try.f10 Rows.fnCanalsRow.domain false) (Rows.fnCanalsSpec.post enc Try.prog Try.f10 false true false false) := by
  refine returnsInHanded_of_change (C := Try.checked) own_ started (by kernel_rfl) Try.func10
    (ChangeSpec.witness6 (enc := enc) (C := Try.checked) false ⟨#[], #[.slice none 0 0], []⟩ 8 (by kernel_rfl) (by kernel_rfl) (by kernel_rfl) (by kernel_rfl)) ?_
  intro W base args ds gs before hval0 hW hcnd _
  have hval : ∀ (j : Nat) t v, Try.f10.params[j]? = some t → args[j]? = some v → Value.okWide Try.prog W .any base t v := hval0
  have hW' := hW
  obtain ⟨p, q, hA0, hV, rfl, hfz, hnd⟩ := hW
  have hA : DataW.TrodAll enc Try.prog W 0 (fun _ => true) true Try.f10.params.toList args.toList ds p := hA0
  rw [Try.params10] at hA hval
  obtain ⟨v0, vs0, d0, ds0, p0, q0, hargs, rfl, rfl, h0, r0⟩ := trodAll_cons hA
  obtain ⟨rfl, rfl, rfl⟩ := trodAll_nil r0
  obtain rfl : args = #[v0] := by cases args; simp_all
  obtain ⟨rfl, rfl⟩ := trodVars_none hV
  have k0 := h0
  have lt0 : ∀ x ∈ p0, x.block < W.heap.size := by obtain ⟨m, hm⟩ := k0; exact DataW.trod_lt m _ _ _ hm
  obtain ⟨s0, len0, cap0, rfl⟩ := okWide_slice Try.underlying34 (hval 0 34 v0 rfl rfl)
  obtain ⟨x0, rfl, m0, r_0⟩ : ∃ zs : List Int, len0 = zs.length ∧ zs.length ≤ maxLen ∧ RdB W W.heap.size s0 zs := by
    obtain ⟨fuel, hf⟩ := h0
    rcases open_ints Try.underlying34 Try.underlying5 (by kernel_rfl) hf with ⟨hcs, _⟩ | ⟨x, l, c, zs, hcs, _, hl, hm, hz, _, hcell, hwz⟩
    · simp [Value.cells] at hcs
      obtain ⟨rfl, rfl, rfl⟩ := hcs
      exact ⟨[], rfl, Nat.zero_le _, .inl rfl⟩
    · simp [Value.cells] at hcs
      obtain ⟨rfl, rfl, rfl⟩ := hcs
      have hlz : len0 ≤ zs.length := by simp only [if_true] at hz; omega
      exact ⟨zs.take len0, by simp; omega, by simp; omega, RdB.of_open hcell hwz⟩
  clear hA0 hval0
  refine (FnCanals_walk s0 cap0 x0 W m0 r_0).mono fun e W' ⟨he, bel⟩ => ?_
  subst he
  exact ⟨_, rfl, _, _, _, [], _, [], hW', trodAll_mk1 (shut_bool Try.underlying4 _), (trodAll_cons_mk (Below.trod laidOut_ (by kernel_rfl) (of_decide_eq_true (by kernel_rfl)) k0 bel lt0) trodAll_mk0), rfl, bel.frame _, fun h => by cases h⟩

theorem FnCanals_over : Rows.fnCanalsRow.holds Try.pinned (OpenSpec.ofChange Rows.fnCanalsSpec) :=
  OpenClaim.holds_of_wide 10 Try.f10 rfl rfl rfl rfl rfl rfl rfl ⟨rfl, rfl, rfl, rfl, rfl⟩ rfl rfl rfl rfl rfl (by kernel_rfl) Try.func10 (by kernel_rfl)
    (of_decide_eq_true (by kernel_rfl)) (by unfold Func.isWrapper; first | (rw [if_pos (by decide +kernel)]; kernel_rfl) | (rw [if_neg (by decide +kernel)]; exact ⟨rfl, rfl⟩))
    (fun os started H enc _ => FnCanals_lifted os started H enc)

theorem FnCanals_proved : Rows.FnCanalsSaid := FnCanals_over
end Go.Proofs.Ytoongfjidenbnaa
