/- FnSuns: a covered pond never loses more than an open one. -/
import Derived.Test.YtdkllicbaiodcaaSuns
import Derived.Test.YtdkllicbaiodcaaDrawP
import Derived.Test.YtdkllicbaiodcaaTail
namespace Go.Proofs.Ytdkllicbaiodcaa
open Go.ChangeShapes Go.WideShapes Go.ChangeAt Go.RowKit Go.Joins
set_option linter.unusedVariables false

set_option maxRecDepth 100000 in
set_option maxHeartbeats 4000000 in
theorem FnSuns_walk (A : Option Addr) (cp : Nat) (code : List Int) (w : World) (hm : code.length ≤ maxLen) (hr : RdB w w.heap.size A code) :
    Calls Try.prog 9 #[.slice A code.length cp] w fun e w' => e = .returned (.bool true) ∧ Below w.heap.size w w' := by
  by_cases hl : code.length ≤ 1048576
  · have hd := Lib.hid (show decide ((1048576 : Int) < code.length) = false from decide_eq_false (by omega))
    clear hm
    go_enter Try.func9, Try.ntmps9
    go_wp2_with fail
    refine (big_c _ _ _ _).mono ?_
    rw [hd.out]
    rintro e w' ⟨rfl, rfl⟩
    go_wp2_with fail
    refine (drawPond_c _ _ _ _ hr hl).mono ?_
    rintro e w1 ⟨s, d, c, A1, c1, hs, rfl, s0, s1, d0, d1, h8, hall, R, H⟩
    obtain ⟨hp, hpx, ⟨n0, n1⟩, hlit, hlx, v0, hcov, ⟨l0, l1⟩, ⟨lo0, lo1⟩, ⟨ls0, ls1⟩⟩ := suns_facts s d c hs s0 s1 d0 d1 h8 hall
    have hl8 : hs.length ≤ 1048576 := by omega
    have hw1 : w.heap.size ≤ w1.heap.size := H.size
    have P := Blk.new w1 25 #[.int .i64 s, .int .i64 d, .bool c]
    replace H := H.alloc H.size (.cells #[.int .i64 s, .int .i64 d, .bool c] 25)
    replace R := R.at_world ((Below.refl w1.heap.size w1).alloc (Nat.le_refl _) (.cells #[.int .i64 s, .int .i64 d, .bool c] 25))
    have hp' := Lib.hid hp
    have hpx' := Lib.hid hpx
    have hlit' := Lib.hid hlit
    have hlx' := Lib.hid hlx
    have hcov' := Lib.hid hcov
    have hall' := Lib.hid hall
    clear hp hpx hlit hlx hcov hall
    obtain ⟨p0, p1, p2, -, -, -, pL⟩ := P.three
    -- what is lost, what a cover saves, the liters
    go_wp2_with fail
    refine (iLost_c _ _ _ _ _ _ _ R hl8).mono ?_
    rintro e w2 ⟨rfl, b⟩
    replace H := chain H b (Nat.le_refl _)
    replace R := R.at_world b
    replace P := P.next b
    clear b p0 p1 p2 pL
    obtain ⟨p0, p1, p2, -, -, -, pL⟩ := P.three
    go_wp2_with fail
    refine (iCover_c _ _ _ _ _ _ _ R hl8).mono ?_
    rintro e w3 ⟨rfl, b⟩
    replace H := chain H b (Nat.le_refl _)
    replace R := R.at_world b
    replace P := P.next b
    clear b p0 p1 p2 pL
    obtain ⟨p0, p1, p2, -, -, -, pL⟩ := P.three
    go_wp2_with fail
    refine (iLitersOf_c _ _ _ _).mono ?_
    rw [hlit'.out]
    rintro e w4 ⟨rfl, b⟩
    replace H := chain H b (Nat.le_refl _)
    replace R := R.at_world b
    replace P := P.next b
    clear b p0 p1 p2 pL
    obtain ⟨p0, p1, p2, -, -, -, pL⟩ := P.three
    have hR0 := R
    have Q := Blk.new w4 25 #[.int .i64 s, .int .i64 d, .bool c]
    have hPQ : w1.heap.size < w4.heap.size := P.lt
    replace P := P.alloc (.cells #[.int .i64 s, .int .i64 d, .bool c] 25)
    replace H := H.alloc H.size (.cells #[.int .i64 s, .int .i64 d, .bool c] 25)
    replace R := R.at_world ((Below.refl w4.heap.size w4).alloc (Nat.le_refl _) (.cells #[.int .i64 s, .int .i64 d, .bool c] 25))
    obtain ⟨hd0, hd1⟩ : 0 ≤ d ∧ d ≤ 5000 := by omega
    go_wp2
    go_loopw [9] (fun i wr => ∃ (k : Nat) (x : Int), k ≤ hs.length ∧ i = .int .i64 k ∧ 0 ≤ x ∧ x ≤ d ∧ Below w.heap.size w wr ∧ RdI wr w4.heap.size A1 hs ∧ Blk wr w1.heap.size 25 #[.int .i64 s, .int .i64 d, .bool c] ∧ Blk wr w4.heap.size 25 #[.int .i64 s, .int .i64 x, .bool c] ∧ Hid (leftF s c d hs = leftF s c x (hs.drop k))) (fun i _ => hs.length - (intOf i).toNat)
    case atStart => exact ⟨0, d, Nat.zero_le _, rfl, hd0, Int.le_refl _, H, hR0.alloc (Nat.le_refl _) _, P, Q, rfl⟩
    case round =>
      clear P H Q R p0 p1 p2 pL hR0
      obtain ⟨k, x, hk, rfl, g0, g1, H, R, P, Q, hq⟩ := hrel
      by_cases hlt : k < hs.length
      · obtain ⟨b, off, y, rfl, hbb, hc, hy, hdr⟩ := R.at_ hlt
        obtain ⟨b0, b1, b2, f0, f1, f2, bL⟩ := Q.three
        have hpd := Lib.hid (pondB_le s d x hp'.out g0 g1)
        have hdb := dryF_b s x y c hpd.out
        obtain ⟨z, hz⟩ : ∃ z, dryF s x y c = z := ⟨_, rfl⟩
        rw [hz] at hdb
        have hz' := Lib.hid hz
        clear hz
        obtain ⟨hz0, hz1⟩ := hdb
        go_wp2
        haveI hne : Nonempty (Wd (BS wr)) := ⟨⟨wr, Below.refl _ _⟩⟩
        have k0 : ∀ U : Wd (BS wr), U.val.cell? ⟨w4.heap.size, 0, none⟩ = some (.int .i64 s) := fun U => BS.cell U b0
        have k1 : ∀ U : Wd (BS wr), U.val.cell? ⟨w4.heap.size, 1, none⟩ = some (.int .i64 x) := fun U => BS.cell U b1
        have k2 : ∀ U : Wd (BS wr), U.val.cell? ⟨w4.heap.size, 2, none⟩ = some (.bool c) := fun U => BS.cell U b2
        have k3 : ∀ U : Wd (BS wr), U.val.cell? ⟨b, off + k, none⟩ = some (.int .i64 y) := fun U => BS.cell U hc
        refine wp_region_tail_class (S := BS wr) 6 (by kernel_rfl) (by kernel_rfl) ((Below.refl _ _).drew) ?_
        simp only [List.take_succ_cons, List.take_zero, List.drop_succ_cons, List.drop_zero]
        repeat (go_big_quiet_step ((go_at_call 16; refine (iDryDay_c _ _ _ _ _).mono ?_; rintro e w2 ⟨rfl, b⟩; exact ⟨rfl, ⟨_, BS.next (Wd.ok _) b⟩, rfl⟩)))
        refine wpQuiet_nil ?_
        intro U hU
        have hU2 : Below wr.heap.size wr U := by obtain ⟨V, rfl⟩ := hU; exact V.ok
        rw [hz'.out]
        replace P := P.next hU2
        replace Q := Q.next hU2
        replace H := chain H hU2 (Nat.le_refl _)
        replace R := R.below hU2 (by have := hU2.size; have := Q.lt; omega)
        clear hU hU2 k0 k1 k2 k3 hne b0 b1 b2 f0 f1 f2 bL hc
        obtain ⟨b0, b1, b2, f0, f1, f2, bL⟩ := Q.three
        go_wp2
        go_roundw
        case rel =>
          refine ⟨k + 1, z, by omega, by go_num, hz0, by omega, (by go_grown), ((R.setCell (Nat.le_refl _) _).setCell (Nat.le_refl _) _).setCell (Nat.le_refl _) _, ?_, Q.put3 (.int .i64 s) (.int .i64 z) (.bool c), ?_⟩
          · exact ((P.far (by simp; omega) _).far (by simp; omega) _).far (by simp; omega) _
          · rw [hq.out, hdr.out, ← hz'.out]; rfl
        case measure => simp [intOf]; omega
      · have hxe := Lib.hid (show leftF s c d hs = x by rw [hq.out, drop_end hs hk hlt]; rfl)
        have hR : RdI wr wr.heap.size A1 hs := R.more (by have := Q.lt; omega)
        obtain ⟨p0, p1, p2, -, -, -, pL⟩ := P.three
        have O := (Blk.new wr 25 #[.int .i64 s, .int .i64 d, .bool false]).alloc (.cells #[.int .i64 s, .int .i64 d, .bool true] 25)
        have S := Blk.new (wr.alloc (.cells #[.int .i64 s, .int .i64 d, .bool false] 25)) 25 #[.int .i64 s, .int .i64 d, .bool true]
        have hwr := Q.lt
        have b := ((Below.refl wr.heap.size wr).alloc (Nat.le_refl _) (.cells #[.int .i64 s, .int .i64 d, .bool false] 25)).alloc (by simp) (.cells #[.int .i64 s, .int .i64 d, .bool true] 25)
        have hr6 := Lib.hid (show RdB _ _ A code from (hr.below (chain H b (Nat.le_refl _)) (Nat.le_refl _)).more (chain H b (Nat.le_refl _)).size)
        go_wp2_with fail
        refine (at_c _ _ _ _ _ hr6.out hl (by omega) (by omega)).mono ?_
        rintro e w6 ⟨a, rfl, a0, a1, rfl⟩
        replace H := chain H b (Nat.le_refl _)
        replace P := P.next b
        replace Q := Q.next b
        replace R := R.below b (by omega)
        clear b hr6 p0 p1 p2 pL hR
        generalize hw6 : (wr.alloc (.cells #[.int .i64 s, .int .i64 d, .bool false] 25)).alloc (.cells #[.int .i64 s, .int .i64 d, .bool true] 25) = w6 at *
        have hsz6 : wr.heap.size + 2 ≤ w6.heap.size := by rw [← hw6]; simp
        have hS1 : (wr.alloc (.cells #[.int .i64 s, .int .i64 d, .bool false] 25)).heap.size = wr.heap.size + 1 := by simp
        rw [hS1] at S
        clear hw6 hS1
        obtain ⟨o0, o1, o2, -, -, -, oL⟩ := O.three
        have am0 := Int.emod_nonneg a (show (200 : Int) ≠ 0 by omega)
        have am1 := Int.emod_lt_of_pos a (show (0 : Int) < 200 by omega)
        go_wp2_with fail
        obtain ⟨ht, hht⟩ : ∃ ht : Int, 40 + a % 200 = ht := ⟨_, rfl⟩
        rw [hht]
        obtain ⟨ht0, ht1⟩ : 40 ≤ ht ∧ ht ≤ 239 := by omega
        clear hht am0 am1 a0 a1
        refine (iDays_c _ _ _ _ _).mono ?_
        have hdays : ∀ ht c, 40 ≤ ht → ht ≤ 239 → daysF s d ht c = ceilF d (driedF c ht) := fun ht c h0 h1 => by
          unfold daysF
          rw [hp'.out, (inB_iff ht 0 400).2 ⟨by omega, by omega⟩]; rfl
        rw [hdays ht false ht0 ht1]
        have hn : driedF false ht = ht / 4 := rfl
        have hn2 : driedF true ht = ht / 40 := rfl
        have hm0 : 0 ≤ ceilF d (driedF false ht) := ceilF_nn d0 (by omega)
        have hm1 : ceilF d (driedF false ht) ≤ d := ceilF_le d0 (by omega)
        have hm2 : daysF s d ht false ≤ daysF s d ht true := by
          rw [hdays ht false ht0 ht1, hdays ht true ht0 ht1]
          exact ceilF_anti d0 (by omega) (by omega)
        rw [hdays ht false ht0 ht1] at hm2
        obtain ⟨m, hmm⟩ := Int.eq_ofNat_of_zero_le hm0
        rw [hmm] at hm1 hm2 ⊢
        have hmm' := Lib.hid hmm
        clear hdays hn hn2 hm0 hmm
        rintro e w7 ⟨rfl, b⟩
        replace H := chain H b (Nat.le_refl _)
        replace P := P.next b
        replace Q := Q.next b
        replace O := O.next b
        replace S := S.next b
        replace R := R.below b (by omega)
        have hsz7 : w6.heap.size ≤ w7.heap.size := b.size
        clear b o0 o1 o2 oL
        obtain ⟨o0, o1, o2, -, -, -, oL⟩ := O.three
        have Y := Blk.new w7 25 #[.int .i64 s, .int .i64 d, .bool false]
        go_wp2
        clear o0 o1 o2 oL
        go_loopw [15] (fun i wv => ∃ (k : Nat) (y : Int), k ≤ m ∧ i = .int .i64 k ∧ 0 ≤ y ∧ y ≤ d ∧ Below w.heap.size w wv ∧ RdI wv w4.heap.size A1 hs ∧ Blk wv w1.heap.size 25 #[.int .i64 s, .int .i64 d, .bool c] ∧ Blk wv w4.heap.size 25 #[.int .i64 s, .int .i64 x, .bool c] ∧ Blk wv wr.heap.size 25 #[.int .i64 s, .int .i64 d, .bool false] ∧ Blk wv (wr.heap.size + 1) 25 #[.int .i64 s, .int .i64 d, .bool true] ∧ Blk wv w7.heap.size 25 #[.int .i64 s, .int .i64 y, .bool false] ∧ Hid (ceilF y (driedF false ht) = (m : Int) - k)) (fun i _ => m - (intOf i).toNat)
        case atStart => exact ⟨0, d, Nat.zero_le _, rfl, hd0, Int.le_refl _, H.alloc H.size _, R.alloc (by omega) _, P.alloc _, Q.alloc _, O.alloc _, S.alloc _, Y, by show _ = _; rw [hmm'.out]; simp⟩
        case round =>
          clear P H Q R O S Y
          obtain ⟨k, y, hk, rfl, y0, y1, H, R, P, Q, O, S, Y, hq⟩ := hrel
          obtain ⟨b0, b1, b2, f0, f1, f2, bL⟩ := Y.three
          have hdn : driedF false ht = ht / 4 := rfl
          by_cases hlt : k < m
          · have hy0 : y ≠ 0 := by
              intro e
              have := hq.out
              rw [e, ceilF_0] at this
              omega
            have hyb : (y == 0) = false := beq_eq_false_iff_ne.2 hy0
            have hstep := ceilF_step y (driedF false ht) (by omega) (by omega)
            have hdr := Lib.hid (dryF_yes false (pondB_le s d y hp'.out y0 y1) (show 0 ≤ ht by omega) (show ht ≤ 400 by omega))
            obtain ⟨z, hz⟩ : ∃ z, dryF s y ht false = z := ⟨_, rfl⟩
            have hz2 := hdr.out
            rw [hz] at hz2
            have hzq := Lib.hid (show ceilF z (driedF false ht) = (m : Int) - (k + 1 : Nat) by rw [hz2]; have := hq.out; omega)
            obtain ⟨hz0, hz1⟩ : 0 ≤ z ∧ z ≤ d := by omega
            have hz' := Lib.hid hz
            clear hz hz2 hstep hdn hdr
            go_wp2_with fail
            refine (iDryDay_c _ _ _ _ _).mono ?_
            rw [hz'.out]
            rintro e w8 ⟨rfl, b⟩
            have hvs : w7.heap.size < _ := Y.lt
            replace H := chain H b (Nat.le_refl _)
            replace P := P.next b
            replace Q := Q.next b
            replace O := O.next b
            replace S := S.next b
            replace R := R.below b (by omega)
            replace Y := Y.next b
            clear b b0 b1 b2 f0 f1 f2 bL
            obtain ⟨b0, b1, b2, f0, f1, f2, bL⟩ := Y.three
            go_wp2
            go_roundw
            case rel =>
              refine ⟨k + 1, z, by omega, by go_num, hz0, hz1, ?_, ((R.setCell (by simp only []; omega) _).setCell (by simp only []; omega) _).setCell (by simp only []; omega) _, ?_, ?_, ?_, ?_, Y.put3 (.int .i64 s) (.int .i64 z) (.bool false), hzq.out⟩
              · exact ((H.setCell (by simp only []; omega) _).setCell (by simp only []; omega) _).setCell (by simp only []; omega) _
              · exact ((P.far (by simp only []; omega) _).far (by simp only []; omega) _).far (by simp only []; omega) _
              · exact ((Q.far (by simp only []; omega) _).far (by simp only []; omega) _).far (by simp only []; omega) _
              · exact ((O.far (by simp only []; omega) _).far (by simp only []; omega) _).far (by simp only []; omega) _
              · exact ((S.far (by simp only []; omega) _).far (by simp only []; omega) _).far (by simp only []; omega) _
            case measure => simp [intOf]; omega
          · have hyz : y = 0 := by
              apply Decidable.byContradiction
              intro hne
              have := ceilF_pos (show 0 < y by omega) (show 0 < driedF false ht by omega)
              have := hq.out
              omega
            subst hyz
            have hC1 := Lib.hid (fun W => iLitersOf_c s x c W)
            have hxl : litF s x = s * d - lostF s d c hs := by rw [← hxe.out]; exact hlx'.out
            rw [hxl] at hC1
            have hC2 := Lib.hid (fun W => iPondOk_c s x c W)
            have hxp : pondB s x = true := by rw [← hxe.out]; exact hpx'.out
            rw [hxp] at hC2
            have hC3 := Lib.hid (fun W hr => iLost_c s d false A1 c1 hs W hr hl8)
            have hC4 := Lib.hid (fun W hr => iLost_c s d true A1 c1 hs W hr hl8)
            have hC5 := Lib.hid (fun W => iDays_c s d ht true W)
            have hC6 := Lib.hid (fun W => iDays_c s d 3 false W)
            have hd3 : daysF s d 3 false = if d = 0 then 0 else -1 := by
              unfold daysF
              rw [hp'.out, (inB_iff 3 0 400).2 ⟨by omega, by omega⟩]
              show ceilF d (3 / 4) = _
              unfold ceilF
              by_cases h0 : d = 0
              · rw [if_pos h0, if_pos h0]
              · rw [if_neg h0, if_neg h0, if_pos (by decide)]
            rw [hd3] at hC6
            have hve := beq_iff_eq.2 hcov'.out
            clear hxl hxp hd3 hxe hq hdn hcov' hlx' hpx' hlit' hmm'
            generalize lostF s d c hs = n at *
            generalize coverF s d hs = v at *
            generalize lostF s d false hs = lo at *
            generalize lostF s d true hs = ls at *
            generalize daysF s d ht true = q2 at *
            have w1' : IntKind.i64.wrap (s * d) = s * d := IntWalk.i64_in _ (by omega)
            have w2' : IntKind.i64.wrap (s * d - n) = s * d - n := IntWalk.i64_in _ (by omega)
            have w3' : IntKind.i64.wrap (lo - ls) = lo - ls := IntWalk.i64_in _ (by omega)
            have hm00 : (0 : Int) ≤ (m : Int) := by omega
            obtain ⟨p0, p1, p2, -, -, -, pL⟩ := P.three
            obtain ⟨x0, x1, x2, -, -, -, xL⟩ := Q.three
            obtain ⟨o0, o1, o2, -, -, -, oL⟩ := O.three
            obtain ⟨z0, z1, z2, -, -, -, zL⟩ := S.three
            have hR9 := Lib.hid (R.more (show w4.heap.size ≤ _ from Nat.le_of_lt xL))
            by_cases hd : 0 < d
            · have hd6 : (if d = 0 then (0 : Int) else -1) = -1 := if_neg (by omega)
              rw [hd6] at hC6
              clear hd6
              go_wp2
              haveI hne : Nonempty (Wd (BS wr)) := ⟨⟨wr, Below.refl _ _⟩⟩
              have k0 := fun U : Wd (BS wr) => BS.cell U p0
              have k1 := fun U : Wd (BS wr) => BS.cell U p1
              have k2 := fun U : Wd (BS wr) => BS.cell U x0
              have k3 := fun U : Wd (BS wr) => BS.cell U x1
              have k4 := fun U : Wd (BS wr) => BS.cell U x2
              have k5 := fun U : Wd (BS wr) => BS.cell U o0
              have k6 := fun U : Wd (BS wr) => BS.cell U o1
              have k7 := fun U : Wd (BS wr) => BS.cell U o2
              have k8 := fun U : Wd (BS wr) => BS.cell U z0
              have k9 := fun U : Wd (BS wr) => BS.cell U z1
              have k10 := fun U : Wd (BS wr) => BS.cell U z2
              have k11 := fun U : Wd (BS wr) => BS.cell U b1
              clear p0 p1 p2 pL x0 x1 x2 xL o0 o1 o2 oL z0 z1 z2 zL b0 b1 b2 f0 f1 f2 bL
              try dsimp only [List.append]
              refine wp_region_class (S := BS wr) (by kernel_rfl) (by kernel_rfl) ((Below.refl _ _).drew) ?_
              repeat (go_big_quiet_step ((first
                | (go_at_call 14; (with_reducible refine (hC1.out _).mono ?_); rintro e w2 ⟨rfl, b⟩; exact ⟨rfl, ⟨_, BS.next (Wd.ok _) b⟩, rfl⟩)
                | (go_at_call 12; (with_reducible refine (hC2.out _).mono ?_); rintro e w2 ⟨rfl, b⟩; exact ⟨rfl, ⟨_, BS.next (Wd.ok _) b⟩, rfl⟩)
                | (go_at_call 22; (with_reducible refine (hC3.out _ (BS.rd _ hR9.out)).mono ?_); rintro e w2 ⟨rfl, b⟩; exact ⟨rfl, ⟨_, BS.next (Wd.ok _) b⟩, rfl⟩)
                | (go_at_call 22; (with_reducible refine (hC4.out _ (BS.rd _ hR9.out)).mono ?_); rintro e w2 ⟨rfl, b⟩; exact ⟨rfl, ⟨_, BS.next (Wd.ok _) b⟩, rfl⟩)
                | (go_at_call 19; (with_reducible refine (hC5.out _).mono ?_); rintro e w2 ⟨rfl, b⟩; exact ⟨rfl, ⟨_, BS.next (Wd.ok _) b⟩, rfl⟩)
                | (go_at_call 19; (with_reducible refine (hC6.out _).mono ?_); rintro e w2 ⟨rfl, b⟩; exact ⟨rfl, ⟨_, BS.next (Wd.ok _) b⟩, rfl⟩))))
              refine wpQuiet_nil ?_
              intro U hU
              have hU2 : Below wr.heap.size wr U := by obtain ⟨V, rfl⟩ := hU; exact V.ok
              go_wp2
              go_ret
              exact ⟨rfl, chain H hU2 (Nat.le_refl _)⟩
            · have hd6 : (if d = 0 then (0 : Int) else -1) = 0 := if_pos (by omega)
              rw [hd6] at hC6
              have hdd : decide (0 < d) = false := decide_eq_false hd
              clear hd6
              go_wp2
              haveI hne : Nonempty (Wd (BS wr)) := ⟨⟨wr, Below.refl _ _⟩⟩
              have k0 := fun U : Wd (BS wr) => BS.cell U p0
              have k1 := fun U : Wd (BS wr) => BS.cell U p1
              have k2 := fun U : Wd (BS wr) => BS.cell U x0
              have k3 := fun U : Wd (BS wr) => BS.cell U x1
              have k4 := fun U : Wd (BS wr) => BS.cell U x2
              have k5 := fun U : Wd (BS wr) => BS.cell U o0
              have k6 := fun U : Wd (BS wr) => BS.cell U o1
              have k7 := fun U : Wd (BS wr) => BS.cell U o2
              have k8 := fun U : Wd (BS wr) => BS.cell U z0
              have k9 := fun U : Wd (BS wr) => BS.cell U z1
              have k10 := fun U : Wd (BS wr) => BS.cell U z2
              have k11 := fun U : Wd (BS wr) => BS.cell U b1
              clear p0 p1 p2 pL x0 x1 x2 xL o0 o1 o2 oL z0 z1 z2 zL b0 b1 b2 f0 f1 f2 bL
              try dsimp only [List.append]
              refine wp_region_class (S := BS wr) (by kernel_rfl) (by kernel_rfl) ((Below.refl _ _).drew) ?_
              repeat (go_big_quiet_step ((first
                | (go_at_call 14; (with_reducible refine (hC1.out _).mono ?_); rintro e w2 ⟨rfl, b⟩; exact ⟨rfl, ⟨_, BS.next (Wd.ok _) b⟩, rfl⟩)
                | (go_at_call 12; (with_reducible refine (hC2.out _).mono ?_); rintro e w2 ⟨rfl, b⟩; exact ⟨rfl, ⟨_, BS.next (Wd.ok _) b⟩, rfl⟩)
                | (go_at_call 22; (with_reducible refine (hC3.out _ (BS.rd _ hR9.out)).mono ?_); rintro e w2 ⟨rfl, b⟩; exact ⟨rfl, ⟨_, BS.next (Wd.ok _) b⟩, rfl⟩)
                | (go_at_call 22; (with_reducible refine (hC4.out _ (BS.rd _ hR9.out)).mono ?_); rintro e w2 ⟨rfl, b⟩; exact ⟨rfl, ⟨_, BS.next (Wd.ok _) b⟩, rfl⟩)
                | (go_at_call 19; (with_reducible refine (hC5.out _).mono ?_); rintro e w2 ⟨rfl, b⟩; exact ⟨rfl, ⟨_, BS.next (Wd.ok _) b⟩, rfl⟩)
                | (go_at_call 19; (with_reducible refine (hC6.out _).mono ?_); rintro e w2 ⟨rfl, b⟩; exact ⟨rfl, ⟨_, BS.next (Wd.ok _) b⟩, rfl⟩))))
              refine wpQuiet_nil ?_
              intro U hU
              have hU2 : Below wr.heap.size wr U := by obtain ⟨V, rfl⟩ := hU; exact V.ok
              go_wp2
              go_ret
              exact ⟨rfl, chain H hU2 (Nat.le_refl _)⟩
  · have hd := Lib.hid (show decide ((1048576 : Int) < code.length) = true from decide_eq_true (by omega))
    go_enter Try.func9, Try.ntmps9
    go_wp2_with fail
    refine (big_c _ _ _ _).mono ?_
    rw [hd.out]
    rintro e w' ⟨rfl, rfl⟩
    go_wp2
    go_ret
    exact ⟨rfl, Below.refl _ _⟩
set_option maxRecDepth 100000 in
theorem FnSuns_lifted (os : Os) (started : os.Started) (H : Type) (enc : TypeId × Value → H) :
    ReturnsInHanded {} Try.checked os 9 .any (Rows.fnSunsSpec.pre6 enc Try.prog Try.f9 Rows.fnSunsRow.domain false) (Rows.fnSunsSpec.post enc Try.prog Try.f9 false true false false) := by
  refine returnsInHanded_of_change (C := Try.checked) own_ started (by kernel_rfl) Try.func9
    (ChangeSpec.witness6 (enc := enc) (C := Try.checked) false ⟨#[], #[.slice none 0 0], []⟩ 8 (by kernel_rfl) (by kernel_rfl) (by kernel_rfl) (by kernel_rfl)) ?_
  intro W base args ds gs before hval0 hW hcnd _
  have hval : ∀ (j : Nat) t v, Try.f9.params[j]? = some t → args[j]? = some v → Value.okWide Try.prog W .any base t v := hval0
  have hW' := hW
  obtain ⟨p, q, hA0, hV, rfl, hfz, hnd⟩ := hW
  have hA : DataW.TrodAll enc Try.prog W 0 (fun _ => true) true Try.f9.params.toList args.toList ds p := hA0
  rw [Try.params9] at hA hval
  obtain ⟨v0, vs0, d0, ds0, p0, q0, hargs, rfl, rfl, h0, r0⟩ := trodAll_cons hA
  obtain ⟨rfl, rfl, rfl⟩ := trodAll_nil r0
  obtain rfl : args = #[v0] := by cases args; simp_all
  obtain ⟨rfl, rfl⟩ := trodVars_none hV
  have k0 := h0
  have lt0 : ∀ x ∈ p0, x.block < W.heap.size := by obtain ⟨m, hm⟩ := k0; exact DataW.trod_lt m _ _ _ hm
  obtain ⟨s0, len0, cap0, rfl⟩ := okWide_slice Try.underlying38 (hval 0 38 v0 rfl rfl)
  obtain ⟨x0, rfl, m0, r_0⟩ : ∃ zs : List Int, len0 = zs.length ∧ zs.length ≤ maxLen ∧ RdB W W.heap.size s0 zs := by
    obtain ⟨fuel, hf⟩ := h0
    rcases open_ints Try.underlying38 Try.underlying5 (by kernel_rfl) hf with ⟨hcs, _⟩ | ⟨x, l, c, zs, hcs, _, hl, hm, hz, _, hcell, hwz⟩
    · simp [Value.cells] at hcs
      obtain ⟨rfl, rfl, rfl⟩ := hcs
      exact ⟨[], rfl, Nat.zero_le _, .inl rfl⟩
    · simp [Value.cells] at hcs
      obtain ⟨rfl, rfl, rfl⟩ := hcs
      have hlz : len0 ≤ zs.length := by simp only [if_true] at hz; omega
      exact ⟨zs.take len0, by simp; omega, by simp; omega, RdB.of_open hcell hwz⟩
  clear hA0 hval0
  refine (FnSuns_walk s0 cap0 x0 W m0 r_0).mono fun e W' ⟨he, bel⟩ => ?_
  subst he
  exact ⟨_, rfl, _, _, _, [], _, [], hW', trodAll_mk1 (shut_bool Try.underlying4 _), (trodAll_cons_mk (Below.trod laidOut_ (by kernel_rfl) (of_decide_eq_true (by kernel_rfl)) k0 bel lt0) trodAll_mk0), rfl, bel.frame _, fun h => by cases h⟩

theorem FnSuns_over : Rows.fnSunsRow.holds Try.pinned (OpenSpec.ofChange Rows.fnSunsSpec) :=
  OpenClaim.holds_of_wide 9 Try.f9 rfl rfl rfl rfl rfl rfl rfl ⟨rfl, rfl, rfl, rfl, rfl⟩ rfl rfl rfl rfl rfl (by kernel_rfl) Try.func9 (by kernel_rfl)
    (of_decide_eq_true (by kernel_rfl)) (by unfold Func.isWrapper; first | (rw [if_pos (by decide +kernel)]; kernel_rfl) | (rw [if_neg (by decide +kernel)]; exact ⟨rfl, rfl⟩))
    (fun os started H enc _ => FnSuns_lifted os started H enc)

theorem FnSuns_proved : Rows.FnSunsSaid := FnSuns_over
end Go.Proofs.Ytdkllicbaiodcaa
