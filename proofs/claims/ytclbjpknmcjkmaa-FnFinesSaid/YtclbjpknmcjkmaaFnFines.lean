/- FnFines: fines double up to sixteen times, and a pardon never makes them greater. -/
import Derived.Test.YtclbjpknmcjkmaaDrawO
import Derived.Test.YtclbjpknmcjkmaaPard
import Derived.Test.YtclbjpknmcjkmaaWorst
import Derived.Test.YtclbjpknmcjkmaaTail
namespace Go.Proofs.Ytclbjpknmcjkmaa
open Go.ChangeShapes Go.WideShapes Go.ChangeAt Go.RowKit Go.Joins
set_option linter.unusedVariables false

theorem OwnZ.caps {w : World} {base n c : Nat} {A : Option Addr} {zs : List Int} (h : OwnZ w base A n c zs) : n ≤ c ∧ c ≤ maxLen := by
  rcases h.2 with ⟨hv, h0⟩ | ⟨g, cap, cur, hv, hb, hh, hnc, hm, hs, ht⟩
  · injection hv with e1 e2 e3
    subst e3
    exact ⟨by omega, Nat.zero_le _⟩
  · injection hv with e1 e2 e3
    subst e3
    exact ⟨hnc, hm⟩
set_option maxRecDepth 100000 in
set_option maxHeartbeats 4000000 in
theorem FnFines_walk (A : Option Addr) (cp : Nat) (code : List Int) (w : World) (hm : code.length ≤ maxLen) (hr : RdB w w.heap.size A code) :
    Calls Try.prog 8 #[.slice A code.length cp] w fun e w' => e = .returned (.bool true) ∧ Below w.heap.size w w' := by
  by_cases hl : code.length ≤ 1048576
  · have hd := Lib.hid (show decide ((1048576 : Int) < code.length) = false from decide_eq_false (by omega))
    clear hm
    go_enter Try.func8, Try.ntmps8
    go_wp2_with fail
    refine (big_c _ _ _ _).mono ?_
    rw [hd.out]
    rintro e w' ⟨rfl, rfl⟩
    go_wp2_with fail
    refine (drawOff_c _ _ _ _ hr hl).mono ?_
    rintro e w1 ⟨A1, c1, t, rfl, hO, h8, hp, hoff, H⟩
    obtain ⟨hc1, hc2⟩ := hO.caps
    have R := hO.rd
    have hp' := Lib.hid hp
    have hoff' := Lib.hid hoff
    have hl8 : t.length ≤ 1048576 := by omega
    have hw1 : w.heap.size ≤ w1.heap.size := H.size
    clear hp hoff hO
    go_wp2
    go_loopw [4] (fun i wr => ∃ k : Nat, k ≤ t.length ∧ i = .int .i64 k ∧ Below w.heap.size w wr ∧ RdI wr w1.heap.size A1 (flat3 t) ∧ w1.heap.size ≤ wr.heap.size) (fun i _ => t.length - (intOf i).toNat)
    case atStart => exact ⟨0, Nat.zero_le _, rfl, H, R, Nat.le_refl _⟩
    case round =>
      clear H R
      obtain ⟨k, hk, rfl, H, R, hs⟩ := hrel
      by_cases hlt : k < t.length
      · obtain ⟨g, off, x, y, z, rfl, hg, hx0, hx1, hx2, hx⟩ := R.at3 hlt
        obtain ⟨f0, f1, f2, f3⟩ := fineF_b hoff'.out hlt
        have hmod := fine_mod t k
        have hfz := Lib.hid (fineZ_at hoff'.out hlt)
        have hli := li_at hx.out
        rw [hli] at f0 f1 hmod
        have hlz : 1 ≤ z ∧ z ≤ 10000 := by have := ((off_b t hoff'.out).2 k hlt).2.2.1; rw [hli] at this; exact this
        have hlp := Lib.hid (off_b t hoff'.out).2
        have hfirst := Lib.hid (fun h => (first_fine (t := t) (k := k) h).trans hli)
        obtain ⟨f, hf⟩ : ∃ f, fineF t k = f := ⟨_, rfl⟩
        rw [hf] at f0 f1 f2 f3 hmod
        have hf' := Lib.hid hf
        clear hf hli
        go_wp2_with fail
        refine (iFineOf_c _ _ t _ _ (R.more hs) hl8 hc1 hc2).mono ?_
        rw [hfz.out, hf'.out]
        rintro e w2 ⟨rfl, b⟩
        have hs2 := b.size
        replace H := chain H b (Nat.le_refl _)
        replace R := R.below b hs
        have hx0' := cell_next b hx0
        have hx2' := cell_next b hx2
        clear hx0 hx1 hx2 b
        have hF := Lib.hid (fun W hr => iFirst_c (some ⟨g, off, none⟩) c1 t k W hr hl8 hc1 hc2)
        cases hfi : firstZ t k
        · rw [hfi] at hF
          clear hfi
          go_wp2_with fail
          refine (hF.out _ (R.more (by omega))).mono ?_
          rintro e w3 ⟨rfl, b⟩
          have hs3 := b.size
          replace H := chain H b (Nat.le_refl _)
          replace R := R.below b (by omega)
          have hx2 := cell_next b hx2'
          clear b hx0' hx2'
          go_wp2
          go_roundw
          case rel => exact ⟨k + 1, by omega, by go_num, H, R, by omega⟩
          case measure => simp [intOf]; omega
        · rw [hfi] at hF
          have hfe : (f != z) = false := by
            have := hfirst.out hfi
            rw [hf'.out] at this
            rw [this]; simp
          clear hfi
          go_wp2_with fail
          refine (hF.out _ (R.more (by omega))).mono ?_
          rintro e w3 ⟨rfl, b⟩
          have hs3 := b.size
          replace H := chain H b (Nat.le_refl _)
          replace R := R.below b (by omega)
          have hx2 := cell_next b hx2'
          clear b hx0' hx2'
          go_wp2
          go_roundw
          case rel => exact ⟨k + 1, by omega, by go_num, H, R, by omega⟩
          case measure => simp [intOf]; omega
      · have hwz := Lib.hid (worstZ_yes hoff'.out)
        go_wp2_with fail
        clear hlt hk
        refine (iWorst_c _ _ t _ (R.more hs) hl8 hc1 hc2).mono ?_
        rw [hwz.out]
        rintro e w2 ⟨rfl, b⟩
        have hs2 := b.size
        replace H := chain H b (Nat.le_refl _)
        replace R := R.below b hs
        replace hs := Nat.le_trans hs hs2
        clear b hs2 hwz
        obtain ⟨v, hv⟩ : ∃ v, worstP t t.length = v := ⟨_, rfl⟩
        rw [hv]
        have hv' := Lib.hid hv
        clear hv
        go_wp2
        go_loopw [7, 8, 10] (fun ms sm i wr => ∃ q : Nat, q ≤ 6 ∧ i = .int .i64 ((q : Int) + 1) ∧ ms = .int .i64 (mostQ t q) ∧ sm = .int .i64 (sumQ t q) ∧ Below w.heap.size w wr ∧ RdI wr w1.heap.size A1 (flat3 t) ∧ w1.heap.size ≤ wr.heap.size) (fun _ _ i _ => 7 - (intOf i).toNat)
        case atStart => exact ⟨0, Nat.zero_le _, rfl, rfl, rfl, H, R, hs⟩
        case round =>
          clear H R hs
          obtain ⟨q, hq, rfl, rfl, rfl, H, R, hs⟩ := hrel
          by_cases hlt : q < 6
          · have b1 := mostQ_b hoff'.out q
            have b2 := sumQ_b hoff'.out q
            have b3 := finesP_b hoff'.out ((q + 1 : Nat) : Int) t.length (Nat.le_refl _)
            have e1 := Lib.hid (show mostQ t (q + 1) = max (mostQ t q) (finesP t ((q + 1 : Nat) : Int) t.length) from rfl)
            have e2 := Lib.hid (show sumQ t (q + 1) = sumQ t q + finesP t ((q + 1 : Nat) : Int) t.length from rfl)
            have hq6 : (q : Int) + 1 ≤ 6 := by omega
            have hfy := Lib.hid (show finesZ t ((q : Int) + 1) = finesP t ((q + 1 : Nat) : Int) t.length from fines_yes hoff'.out)
            generalize finesP t ((q + 1 : Nat) : Int) t.length = n at *
            generalize mostQ t q = ms at *
            generalize sumQ t q = sm at *
            go_wp2_with fail
            refine (iFines_c _ _ t _ _ (R.more hs) hl8 hc1 hc2).mono ?_
            rw [hfy.out]
            rintro e w3 ⟨rfl, b⟩
            have hs3 := b.size
            replace H := chain H b (Nat.le_refl _)
            replace R := R.below b hs
            clear b
            by_cases hmn : ms < n
            · go_wp2
              go_roundw
              case rel => exact ⟨q + 1, by omega, by go_num, by rw [e1.out]; congr 1; omega, by rw [e2.out], H, R, by omega⟩
              case measure => simp [intOf]; omega
            · have hmn2 : decide (ms < n) = false := decide_eq_false hmn
              go_wp2
              go_roundw
              case rel => exact ⟨q + 1, by omega, by go_num, by rw [e1.out]; congr 1; omega, by rw [e2.out], H, R, by omega⟩
              case measure => simp [intOf]; omega
          · obtain rfl : q = 6 := by omega
            rw [show ((6 : Nat) : Int) + 1 = 7 from rfl]
            go_wp2
            clear hlt hq
            go_loopw [9, 12] (fun al i wr => ∃ k : Nat, k ≤ t.length ∧ i = .int .i64 k ∧ al = .int .i64 (allP t k) ∧ Below w.heap.size w wr ∧ RdI wr w1.heap.size A1 (flat3 t) ∧ w1.heap.size ≤ wr.heap.size) (fun _ i _ => t.length - (intOf i).toNat)
            case atStart => exact ⟨0, Nat.zero_le _, rfl, rfl, H, R, hs⟩
            case round =>
              clear H R hs
              obtain ⟨k, hk, rfl, rfl, H, R, hs⟩ := hrel
              by_cases hlt : k < t.length
              · have b1 := allP_b hoff'.out k hk
                obtain ⟨f0, f1, f2, f3⟩ := fineF_b hoff'.out hlt
                have hfz := Lib.hid (fineZ_at hoff'.out hlt)
                have e1 := Lib.hid (show allP t (k + 1) = allP t k + fineF t k from rfl)
                clear f0 f1
                generalize fineF t k = f at *
                generalize allP t k = al at *
                go_wp2_with fail
                refine (iFineOf_c _ _ t _ _ (R.more hs) hl8 hc1 hc2).mono ?_
                rw [hfz.out]
                rintro e w3 ⟨rfl, b⟩
                have hs3 := b.size
                replace H := chain H b (Nat.le_refl _)
                replace R := R.below b hs
                clear b
                go_wp2
                go_roundw
                case rel => exact ⟨k + 1, by omega, by go_num, by rw [e1.out], H, R, by omega⟩
                case measure => simp [intOf]; omega
              · obtain rfl : k = t.length := by omega
                go_wp2_with fail
                clear hlt hk
                refine (at_c _ _ _ _ _ ((hr.below H (Nat.le_refl _)).more H.size) hl (by omega) (by omega)).mono ?_
                rintro e w3 ⟨a, rfl, a0, a1, rfl⟩
                obtain ⟨d, hd⟩ : ∃ d, a * 2 = d := ⟨_, rfl⟩
                obtain ⟨hr1, hr2, hr3, hr4⟩ := pard_facts hoff'.out d
                have hpl := Lib.hid (pardL_yes (d := d) hoff'.out)
                rw [pardK_end] at hpl
                obtain ⟨r, hrr⟩ : ∃ r, pardP t d = r := ⟨_, rfl⟩
                rw [hrr] at hr1 hr2 hr3 hr4
                have hrr' := Lib.hid hrr
                have hr1' := Lib.hid hr1
                have hr2' := Lib.hid hr2
                have hr3' := Lib.hid hr3
                have hd' := Lib.hid hd
                obtain ⟨d0, d1⟩ : 0 ≤ d ∧ d ≤ 510 := by omega
                clear hrr hr1 hr2 hr3 hd
                have hlr8 : r.length ≤ 1048576 := by omega
                go_wp2_with fail
                rw [hd'.out]
                refine (iPard_c _ _ t _ _ (R.more hs) hl8).mono ?_
                rw [hpl.out, hrr'.out]
                rintro e w4 ⟨A2, c2, rfl, hO, b⟩
                have hs4 := b.size
                replace H := chain H b (Nat.le_refl _)
                replace R := R.below b hs
                obtain ⟨hk1, hk2⟩ := hO.caps
                have S := hO.rd
                have hw4 : w1.heap.size ≤ w4.heap.size := by omega
                replace hs := hw4
                clear b hO hs4 hrr' hpl
                go_wp2
                go_loopw [15] (fun i wr => ∃ k : Nat, k ≤ r.length ∧ i = .int .i64 k ∧ Below w.heap.size w wr ∧ RdI wr w1.heap.size A1 (flat3 t) ∧ RdI wr w4.heap.size A2 (flat3 r) ∧ w4.heap.size ≤ wr.heap.size) (fun i _ => r.length - (intOf i).toNat)
                case atStart => exact ⟨0, Nat.zero_le _, rfl, H, R, S, Nat.le_refl _⟩
                case round =>
                  clear H R S
                  obtain ⟨k, hk, rfl, H, R, S, hs5⟩ := hrel
                  by_cases hlt : k < r.length
                  · obtain ⟨g, off, x, y, z, rfl, hg, hx0, hx1, hx2, hx⟩ := S.at3 hlt
                    have hyd : d ≤ y := by have := hr3'.out k hlt; rw [dy_at hx.out] at this; exact this
                    have hydd : decide (y < d) = false := decide_eq_false (by omega)
                    clear hx
                    go_wp2
                    go_roundw
                    case rel => exact ⟨k + 1, by omega, by go_num, H, R, S, hs5⟩
                    case measure => simp [intOf]; omega
                  · go_wp2
                    clear hlt hk
                    go_loopw [16] (fun i wr => ∃ q : Nat, q ≤ 6 ∧ i = .int .i64 ((q : Int) + 1) ∧ Below w.heap.size w wr ∧ RdI wr w1.heap.size A1 (flat3 t) ∧ RdI wr w4.heap.size A2 (flat3 r) ∧ w4.heap.size ≤ wr.heap.size) (fun i _ => 7 - (intOf i).toNat)
                    case atStart => exact ⟨0, Nat.zero_le _, rfl, H, R, S, hs5⟩
                    case round =>
                      clear H R S hs5
                      obtain ⟨q, hq, rfl, H, R, S, hs5⟩ := hrel
                      by_cases hlt : q < 6
                      · have hq6 : (q : Int) + 1 ≤ 6 := by omega
                        have hle := hr2'.out ((q : Int) + 1)
                        have h1 := Lib.hid (show finesZ r ((q : Int) + 1) = finesP r ((q : Int) + 1) r.length from fines_yes hr1'.out)
                        have h2 := Lib.hid (show finesZ t ((q : Int) + 1) = finesP t ((q : Int) + 1) t.length from fines_yes hoff'.out)
                        generalize finesP r ((q : Int) + 1) r.length = n1 at *
                        generalize finesP t ((q : Int) + 1) t.length = n2 at *
                        have hnd : decide (n2 < n1) = false := decide_eq_false (by omega)
                        go_wp2_with fail
                        refine (iFines_c _ _ r _ _ (S.more hs5) hlr8 hk1 hk2).mono ?_
                        rw [h1.out]
                        rintro e w5 ⟨rfl, b⟩
                        have hs6 := b.size
                        replace H := chain H b (Nat.le_refl _)
                        replace R := R.below b (by omega)
                        replace S := S.below b hs5
                        clear b
                        go_wp2_with fail
                        refine (iFines_c _ _ t _ _ (R.more (by omega)) hl8 hc1 hc2).mono ?_
                        rw [h2.out]
                        rintro e w6 ⟨rfl, b⟩
                        have hs7 := b.size
                        replace H := chain H b (Nat.le_refl _)
                        replace R := R.below b (by omega)
                        replace S := S.below b (by omega)
                        clear b
                        go_wp2
                        go_roundw
                        case rel => exact ⟨q + 1, by omega, by go_num, H, R, S, by omega⟩
                        case measure => simp [intOf]; omega
                      · obtain rfl : q = 6 := by omega
                        rw [show ((6 : Nat) : Int) + 1 = 7 from rfl]
                        clear hlt hq
                        have hsa := sumQ_all hp'.out
                        have hob := Lib.hid (fun W hr => iOk_c A2 c2 r W hr hlr8)
                        rw [hr1'.out] at hob
                        rw [hsa]
                        generalize allP t t.length = al at *
                        clear hsa
                        have hrl : (r.length : Int) ≤ (t.length : Int) := by omega
                        by_cases h0 : t.length = 0
                        · obtain rfl : v = -1 := by rw [← hv'.out, h0]; rfl
                          have hn0 : ((t.length : Int) == 0) = true := beq_iff_eq.2 (by omega)
                          clear h0
                          go_wp2_with fail
                          refine (hob.out _ (S.more (by omega))).mono ?_
                          rintro e w7 ⟨rfl, b⟩
                          have hs8 := b.size
                          replace H := chain H b (Nat.le_refl _)
                          clear b
                          have L := Blk.new w7 37 #[.int .i64 3, .int .i64 1, .int .i64 5, .int .i64 3, .int .i64 90, .int .i64 2]
                          have RL : RdI _ _ _ (flat3 exA) := RdI.of_ints (xs := flat3 exA) L
                          replace H := H.alloc H.size (.cells #[.int .i64 3, .int .i64 1, .int .i64 5, .int .i64 3, .int .i64 90, .int .i64 2] 37)
                          have hex := Lib.hid exA_ok
                          have h2m : (2 : Nat) ≤ maxLen := by unfold maxLen; omega
                          have hfo := Lib.hid (iFineOf_c (some ⟨w7.heap.size, 0, none⟩) 2 exA 1 _ RL (by decide) (by decide) h2m)
                          rw [hex.out] at hfo
                          clear h2m
                          go_wp2_with fail
                          refine hfo.out.mono ?_
                          rintro e w8 ⟨rfl, b⟩
                          go_wp2
                          go_ret
                          exact ⟨rfl, chain H b (Nat.le_refl _)⟩
                        · have hv1 : 1 ≤ v := by rw [← hv'.out]; exact (worstP_pos hoff'.out (Nat.le_refl _) (by omega)).1
                          have hmw := Lib.hid (show finesZ t v = mostQ t 6 by rw [fines_yes hoff'.out, ← hv'.out]; exact most_worst hoff'.out hp'.out (by omega))
                          have hn0 : ((t.length : Int) == 0) = false := beq_eq_false_iff_ne.2 (by omega)
                          have hv2 : (v == -1) = false := beq_eq_false_iff_ne.2 (by omega)
                          have hv3 : decide (v < 0) = false := decide_eq_false (by omega)
                          clear h0
                          go_wp2_with fail
                          refine (iFines_c _ _ t _ _ (R.more (by omega)) hl8 hc1 hc2).mono ?_
                          rw [hmw.out]
                          rintro e w6 ⟨rfl, b⟩
                          have hs7 := b.size
                          replace H := chain H b (Nat.le_refl _)
                          replace R := R.below b (by omega)
                          replace S := S.below b (by omega)
                          clear b
                          go_wp2_with fail
                          refine (hob.out _ (S.more (by omega))).mono ?_
                          rintro e w7 ⟨rfl, b⟩
                          have hs8 := b.size
                          replace H := chain H b (Nat.le_refl _)
                          clear b
                          have L := Blk.new w7 37 #[.int .i64 3, .int .i64 1, .int .i64 5, .int .i64 3, .int .i64 90, .int .i64 2]
                          have RL : RdI _ _ _ (flat3 exA) := RdI.of_ints (xs := flat3 exA) L
                          replace H := H.alloc H.size (.cells #[.int .i64 3, .int .i64 1, .int .i64 5, .int .i64 3, .int .i64 90, .int .i64 2] 37)
                          have hex := Lib.hid exA_ok
                          have h2m : (2 : Nat) ≤ maxLen := by unfold maxLen; omega
                          have hfo := Lib.hid (iFineOf_c (some ⟨w7.heap.size, 0, none⟩) 2 exA 1 _ RL (by decide) (by decide) h2m)
                          rw [hex.out] at hfo
                          clear h2m
                          go_wp2_with fail
                          refine hfo.out.mono ?_
                          rintro e w8 ⟨rfl, b⟩
                          go_wp2
                          go_ret
                          exact ⟨rfl, chain H b (Nat.le_refl _)⟩
  · have hd := Lib.hid (show decide ((1048576 : Int) < code.length) = true from decide_eq_true (by omega))
    go_enter Try.func8, Try.ntmps8
    go_wp2_with fail
    refine (big_c _ _ _ _).mono ?_
    rw [hd.out]
    rintro e w' ⟨rfl, rfl⟩
    go_wp2
    go_ret
    exact ⟨rfl, Below.refl _ _⟩
set_option maxRecDepth 100000 in
theorem FnFines_lifted (os : Os) (started : os.Started) (H : Type) (enc : TypeId × Value → H) :
    ReturnsInHanded {} Try.checked os 8 .any (Rows.fnFinesSpec.pre6 enc Try.prog Try.f8 Rows.fnFinesRow.domain false) (Rows.fnFinesSpec.post enc Try.prog Try.f8 false true false false) := by
  refine returnsInHanded_of_change (C := Try.checked) own_ started (by kernel_rfl) Try.func8
    (ChangeSpec.witness6 (enc := enc) (C := Try.checked) false ⟨#[], #[.slice none 0 0], []⟩ 8 (by kernel_rfl) (by kernel_rfl) (by kernel_rfl) (by kernel_rfl)) ?_
  intro W base args ds gs before hval0 hW hcnd _
  have hval : ∀ (j : Nat) t v, Try.f8.params[j]? = some t → args[j]? = some v → Value.okWide Try.prog W .any base t v := hval0
  have hW' := hW
  obtain ⟨p, q, hA0, hV, rfl, hfz, hnd⟩ := hW
  have hA : DataW.TrodAll enc Try.prog W 0 (fun _ => true) true Try.f8.params.toList args.toList ds p := hA0
  rw [Try.params8] at hA hval
  obtain ⟨v0, vs0, d0, ds0, p0, q0, hargs, rfl, rfl, h0, r0⟩ := trodAll_cons hA
  obtain ⟨rfl, rfl, rfl⟩ := trodAll_nil r0
  obtain rfl : args = #[v0] := by cases args; simp_all
  obtain ⟨rfl, rfl⟩ := trodVars_none hV
  have k0 := h0
  have lt0 : ∀ x ∈ p0, x.block < W.heap.size := by obtain ⟨m, hm⟩ := k0; exact DataW.trod_lt m _ _ _ hm
  obtain ⟨s0, len0, cap0, rfl⟩ := okWide_slice Try.underlying33 (hval 0 33 v0 rfl rfl)
  obtain ⟨x0, rfl, m0, r_0⟩ : ∃ zs : List Int, len0 = zs.length ∧ zs.length ≤ maxLen ∧ RdB W W.heap.size s0 zs := by
    obtain ⟨fuel, hf⟩ := h0
    rcases open_ints Try.underlying33 Try.underlying5 (by kernel_rfl) hf with ⟨hcs, _⟩ | ⟨x, l, c, zs, hcs, _, hl, hm, hz, _, hcell, hwz⟩
    · simp [Value.cells] at hcs
      obtain ⟨rfl, rfl, rfl⟩ := hcs
      exact ⟨[], rfl, Nat.zero_le _, .inl rfl⟩
    · simp [Value.cells] at hcs
      obtain ⟨rfl, rfl, rfl⟩ := hcs
      have hlz : len0 ≤ zs.length := by simp only [if_true] at hz; omega
      exact ⟨zs.take len0, by simp; omega, by simp; omega, RdB.of_open hcell hwz⟩
  clear hA0 hval0
  refine (FnFines_walk s0 cap0 x0 W m0 r_0).mono fun e W' ⟨he, bel⟩ => ?_
  subst he
  exact ⟨_, rfl, _, _, _, [], _, [], hW', trodAll_mk1 (shut_bool Try.underlying4 _), (trodAll_cons_mk (Below.trod laidOut_ (by kernel_rfl) (of_decide_eq_true (by kernel_rfl)) k0 bel lt0) trodAll_mk0), rfl, bel.frame _, fun h => by cases h⟩

theorem FnFines_over : Rows.fnFinesRow.holds Try.pinned (OpenSpec.ofChange Rows.fnFinesSpec) :=
  OpenClaim.holds_of_wide 8 Try.f8 rfl rfl rfl rfl rfl rfl rfl ⟨rfl, rfl, rfl, rfl, rfl⟩ rfl rfl rfl rfl rfl (by kernel_rfl) Try.func8 (by kernel_rfl)
    (of_decide_eq_true (by kernel_rfl)) (by unfold Func.isWrapper; first | (rw [if_pos (by decide +kernel)]; kernel_rfl) | (rw [if_neg (by decide +kernel)]; exact ⟨rfl, rfl⟩))
    (fun os started H enc _ => FnFines_lifted os started H enc)

theorem FnFines_proved : Rows.FnFinesSaid := FnFines_over
end Go.Proofs.Ytclbjpknmcjkmaa
