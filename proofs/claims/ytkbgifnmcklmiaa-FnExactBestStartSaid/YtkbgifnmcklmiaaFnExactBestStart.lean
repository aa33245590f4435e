/- FnExactBestStart: the program's BestStart returns what the reference's returns. -/
import Derived.Test.YtkbgifnmcklmiaaBestS
import Derived.Test.YtkbgifnmcklmiaaFldS
import Derived.Deep.RegionHeld3
namespace Go.Proofs.Ytkbgifnmcklmiaa
open Go.ChangeShapes Go.WideShapes Go.ChangeAt Go.RowKit Go.Joins
set_option linter.unusedVariables false

theorem vals_ws {fs : List Fd} {l : Int} (h : ∀ v ∈ vals fs, (v.2.length : Int) ≤ l) : ∀ f ∈ fs, (f.ws.length : Int) ≤ l := fun f hf => h f.val (List.mem_map_of_mem hf)
def lFacts (A : Option Addr) (c : Nat) (fs : List Fd) (A' : Option Addr) (c' : Nat) (ss : List Int) (a : Int) (Aw : Option Addr) (cw : Nat) (ws : List Int) (last r : Int) : List Fact :=
  [Fact.val (.slice A fs.length c), Fact.of (fun x w => ∃ (gs : List Fd) (g d : Nat), x = .slice (some ⟨g, 0, none⟩) gs.length d ∧ vals gs = vals fs ∧ RdF w w.heap.size (some ⟨g, 0, none⟩) gs) (fun x w w' b ⟨gs, g, d, h1, h2, h3⟩ => ⟨gs, g, d, h1, h2, h3.step b⟩),
   Fact.val (.slice A' ss.length c'), Fact.of (fun x w => ∃ g, x = .slice (some ⟨g, 0, none⟩) ss.length ss.length ∧ RdI w w.heap.size (some ⟨g, 0, none⟩) ss) (fun x w w' b ⟨g, h1, h2⟩ => ⟨g, h1, h2.step b⟩),
   Fact.val (.agg #[.int .i64 a, .slice Aw ws.length cw]), Fact.of (fun x w => ∃ g, x = .agg #[.int .i64 a, .slice (some ⟨g, 0, none⟩) ws.length ws.length] ∧ RdI w w.heap.size (some ⟨g, 0, none⟩) ws) (fun x w w' b ⟨g, h1, h2⟩ => ⟨g, h1, h2.step b⟩),
   Fact.val (.int .i64 last), Fact.val (.int .i64 r), Fact.val (.int .i64 r)]
set_option maxHeartbeats 4000000 in
theorem FnExactBestStart_walk (A : Option Addr) (cp : Nat) (fs : List Fd) (A' : Option Addr) (cp' : Nat) (ss : List Int) (a : Int) (Aw : Option Addr) (cw : Nat) (ws : List Int) (last : Int) (w : World) (hm : fs.length ≤ maxLen) (hr : RdF w w.heap.size A fs) (hfl : ∀ f ∈ fs, f.ws.length ≤ maxLen) (hs : RdI w w.heap.size A' ss) (hwf : ∀ n ∈ ss, (Lit.int .i64 n).wf = true)
    (wa : (Lit.int .i64 a).wf = true) (hmw : ws.length ≤ maxLen) (hrw : RdI w w.heap.size Aw ws) (wl : (Lit.int .i64 last).wf = true) :
    Calls Try.prog 8 #[.slice A fs.length cp, .slice A' ss.length cp', .agg #[.int .i64 a, .slice Aw ws.length cw], .int .i64 last] w fun e w' => e = .returned (.bool true) ∧ Below w.heap.size w w' := by
  clear hwf wa
  have hl64 : last ≤ 9223372036854775807 := by
    have h := wl
    simp only [Lit.wf, Bool.and_eq_true, decide_eq_true_eq] at h
    have hmax : IntKind.i64.max = 9223372036854775807 := by decide
    omega
  clear wl
  have P := Blk.new w 24 #[.int .i64 a, .slice Aw ws.length cw]
  have H := (Below.refl w.heap.size w).alloc (Nat.le_refl _) (.cells #[.int .i64 a, .slice Aw ws.length cw] 24)
  have hr0 := Lib.hid hr
  have hs0 := Lib.hid hs
  have hrw0 := Lib.hid hrw
  obtain ⟨p0, p1, -, -, pL⟩ := P.two
  by_cases hsl : ss.length ≤ 1048576
  · have hgt : ¬ (1048576 : Int) < (ss.length : Int) := by omega
    have hz := szFieldS_c A cp fs 1048576 _ (hr.step H) hm hfl (by omega) (by omega)
    rcases szFS_b (vals fs) 1048576 (by omega) with e | ⟨e0, e1, e2, e3⟩
    · rw [e] at hz
      replace hz := Lib.hid hz
      clear hfl e hm
      go_enter Try.func8, Try.ntmps8
      go_wp2_with fail
      refine hz.out.mono ?_
      rintro e w1 ⟨rfl, b⟩
      replace H := chain H b (Nat.le_refl _)
      clear b
      go_wp2
      go_ret
      exact ⟨rfl, H⟩
    · replace hz := Lib.hid hz
      have hl : fs.length ≤ 1048576 := by rw [vals_length] at e2; omega
      have hfl2 := Lib.hid (show ∀ f ∈ fs, f.ws.length ≤ 1048576 from fun f hf => by have := vals_ws e3 f hf; omega)
      have hneg : ¬ szFS (vals fs) 1048576 < 0 := by omega
      generalize szFS (vals fs) 1048576 = z at *
      have hS := Lib.hid (fun W => szField_c a Aw ws.length cw z W hmw e0 e1)
      clear e2 e3 hfl hm
      by_cases hzw : z < (ws.length : Int)
      · rw [if_pos hzw] at hS
        clear hzw
        go_enter Try.func8, Try.ntmps8
        go_wp2_with fail
        refine hz.out.mono ?_
        rintro e w1 ⟨rfl, b⟩
        replace P := P.next b
        replace H := chain H b (Nat.le_refl _)
        clear b
        clear p0 p1 pL
        obtain ⟨p0, p1, -, -, pL⟩ := P.two
        go_wp2_with fail
        refine (hS.out _).mono ?_
        rintro e w1 ⟨rfl, b⟩
        replace H := chain H b (Nat.le_refl _)
        clear b
        go_wp2
        go_ret
        exact ⟨rfl, H⟩
      · rw [if_neg hzw] at hS
        have hwl : ws.length ≤ 1048576 := by omega
        have hzz : ¬ z - (ws.length : Int) < 0 := by omega
        obtain ⟨r, hrr⟩ : ∃ r, bestZ (vals fs) ss (a, ws) last = r := ⟨_, rfl⟩
        have hres : (r != r) = false := by simp
        replace hrr := Lib.hid hrr
        clear hmw
        go_enter Try.func8, Try.ntmps8
        go_wp2_with fail
        refine hz.out.mono ?_
        rintro e w1 ⟨rfl, b⟩
        replace P := P.next b
        replace H := chain H b (Nat.le_refl _)
        clear b
        clear p0 p1 pL
        obtain ⟨p0, p1, -, -, pL⟩ := P.two
        go_wp2_with fail
        refine (hS.out _).mono ?_
        rintro e w2 ⟨rfl, b⟩
        replace P := P.next b
        replace H := chain H b (Nat.le_refl _)
        clear b
        clear p0 p1 pL
        obtain ⟨p0, p1, -, -, pL⟩ := P.two
        go_wp2
        have hra := Lib.hid (hr0.out.step H)
        have hsa := Lib.hid (hs0.out.step H)
        have hwa := Lib.hid (hrw0.out.step H)
        clear hr hs hrw hz hS hzw hzz hneg hgt e0 e1
        refine wp_region_facts w2.heap.size 999 (lFacts A cp fs A' cp' ss a Aw cw ws last r) (fun _ => 999) (fun _ _ _ => True) (by kernel_rfl) (by kernel_rfl) (fun _ => trivial) ?_ ?_
        · refine ⟨?_, ?_, ?_, ?_, ?_, ?_, ?_, ?_, ?_, trivial⟩
          · intro d vs w1 hI hcl hk hd
            have hO := hI.old hI.no
            simp only [putAll, Act.put, List.setIfInBounds_toArray, List.set_cons_succ, List.set_cons_zero]
            go_wp2
            exact ⟨.slice A fs.length cp, rfl, hI.pure_ (k := 0) (v := .slice A fs.length cp) (by omega) rfl trivial⟩
          · intro d vs w1 hI hcl hk hd
            have hO := hI.old hI.no
            have hd0 : d 0 = true := by simpa using hd
            have e0 : vs 0 = .slice A fs.length cp := hI.get hd0 hI.no
            have hra1 := hra.out.step hO
            simp only [putAll, Act.put, List.setIfInBounds_toArray, List.set_cons_succ, List.set_cons_zero]
            go_wp2_with fail
            refine (toFieldS_c A cp fs _ hra1 hl hfl2.out).mono ?_
            rintro e w3 ⟨gs, d1, hv, rfl, hg, b⟩
            replace hv := Lib.hid hv
            go_wp2
            exact ⟨.slice (some ⟨w1.heap.size, 0, none⟩) gs.length d1, by simp only [e0]; rfl, hI.put (k := 1) (v := .slice (some ⟨w1.heap.size, 0, none⟩) gs.length d1) b (by omega) ⟨gs, _, d1, rfl, hv.out, hg⟩ trivial⟩
          · intro d vs w1 hI hcl hk hd
            have hO := hI.old hI.no
            simp only [putAll, Act.put, List.setIfInBounds_toArray, List.set_cons_succ, List.set_cons_zero]
            go_wp2
            exact ⟨.slice A' ss.length cp', rfl, hI.pure_ (k := 2) (v := .slice A' ss.length cp') (by omega) rfl trivial⟩
          · intro d vs w1 hI hcl hk hd
            have hO := hI.old hI.no
            have hd0 : d 2 = true := by simp at hd; exact hd.1
            have e0 : vs 2 = .slice A' ss.length cp' := hI.get hd0 hI.no
            have hsa1 := hsa.out.step hO
            simp only [putAll, Act.put, List.setIfInBounds_toArray, List.set_cons_succ, List.set_cons_zero]
            go_wp2_with fail
            refine (toIntS_c A' cp' ss _ hsa1 hsl).mono ?_
            rintro e w3 ⟨rfl, b, Q⟩
            go_wp2
            exact ⟨.slice (some ⟨w1.heap.size, 0, none⟩) ss.length ss.length, by simp only [e0]; rfl, hI.put (k := 3) (v := .slice (some ⟨w1.heap.size, 0, none⟩) ss.length ss.length) b (by omega) ⟨_, rfl, RdI.of_ints Q⟩ trivial⟩
          · intro d vs w1 hI hcl hk hd
            have hO := hI.old hI.no
            have r0 := cell_next hO p0
            have r1 := cell_next hO p1
            simp only [putAll, Act.put, List.setIfInBounds_toArray, List.set_cons_succ, List.set_cons_zero]
            go_wp2
            exact ⟨.agg #[.int .i64 a, .slice Aw ws.length cw], rfl, hI.pure_ (k := 4) (v := .agg #[.int .i64 a, .slice Aw ws.length cw]) (by omega) rfl trivial⟩
          · intro d vs w1 hI hcl hk hd
            have hO := hI.old hI.no
            have hd0 : d 4 = true := by simp at hd; exact hd.1
            have e0 : vs 4 = .agg #[.int .i64 a, .slice Aw ws.length cw] := hI.get hd0 hI.no
            have hwa1 := hwa.out.step hO
            simp only [putAll, Act.put, List.setIfInBounds_toArray, List.set_cons_succ, List.set_cons_zero]
            go_wp2_with fail
            refine (toField_c a Aw cw ws _ hwa1 hwl).mono ?_
            rintro e w3 ⟨g, rfl, hg, Q, b⟩
            go_wp2
            exact ⟨.agg #[.int .i64 a, .slice (some ⟨g, 0, none⟩) ws.length ws.length], by simp only [e0]; rfl, hI.put (k := 5) (v := .agg #[.int .i64 a, .slice (some ⟨g, 0, none⟩) ws.length ws.length]) b (by omega) ⟨_, rfl, RdI.of_ints Q⟩ trivial⟩
          · intro d vs w1 hI hcl hk hd
            have hO := hI.old hI.no
            simp only [putAll, Act.put, List.setIfInBounds_toArray, List.set_cons_succ, List.set_cons_zero]
            go_wp2
            exact ⟨.int .i64 last, rfl, hI.pure_ (k := 6) (v := .int .i64 last) (by omega) rfl trivial⟩
          · intro d vs w1 hI hcl hk hd
            have hO := hI.old hI.no
            have hd0 : d 1 = true ∧ d 3 = true ∧ d 5 = true ∧ d 6 = true := by simp at hd; exact ⟨hd.1, hd.2.1, hd.2.2.1, hd.2.2.2.1⟩
            obtain ⟨gs, g, d1, e1, hv, hg⟩ : ∃ (gs : List Fd) (g d : Nat), vs 1 = .slice (some ⟨g, 0, none⟩) gs.length d ∧ vals gs = vals fs ∧ RdF w1 w1.heap.size (some ⟨g, 0, none⟩) gs := hI.get hd0.1 hI.no
            obtain ⟨g3, e3, hg3⟩ : ∃ g, vs 3 = .slice (some ⟨g, 0, none⟩) ss.length ss.length ∧ RdI w1 w1.heap.size (some ⟨g, 0, none⟩) ss := hI.get hd0.2.1 hI.no
            obtain ⟨g5, e5, hg5⟩ : ∃ g, vs 5 = .agg #[.int .i64 a, .slice (some ⟨g, 0, none⟩) ws.length ws.length] ∧ RdI w1 w1.heap.size (some ⟨g, 0, none⟩) ws := hI.get hd0.2.2.1 hI.no
            have e6 : vs 6 = .int .i64 last := hI.get hd0.2.2.2 hI.no
            have hgl : gs.length ≤ 1048576 := by have := congrArg List.length hv; simp at this; omega
            have hcall := Lib.hid (sBest_all _ d1 gs _ ss.length ss a (some ⟨g5, 0, none⟩) ws.length ws last w1 hg hgl (len_of hv hfl2.out) hg3 hsl hg5 hwl hl64)
            rw [hv, hrr.out] at hcall
            clear hv hg hg3 hg5
            simp only [putAll, Act.put, List.setIfInBounds_toArray, List.set_cons_succ, List.set_cons_zero]
            go_wp2_with fail
            refine hcall.out.mono ?_
            rintro e w3 ⟨rfl, b⟩
            go_wp2
            exact ⟨.int .i64 r, by simp only [e1, e3, e5, e6]; rfl, hI.put (k := 7) (v := .int .i64 r) b (by omega) rfl trivial⟩
          · intro d vs w1 hI hcl hk hd
            have hO := hI.old hI.no
            have hd0 : d 7 = true := by simp at hd; exact hd.1
            have e0 : vs 7 = .int .i64 r := hI.get hd0 hI.no
            simp only [putAll, Act.put, List.setIfInBounds_toArray, List.set_cons_succ, List.set_cons_zero]
            go_wp2
            exact ⟨.int .i64 r, by simp only [e0]; rfl, hI.pure_ (k := 8) (v := .int .i64 r) (by omega) rfl trivial⟩
        · intro d vs w3 hI hd
          have e8 : vs 8 = .int .i64 r := hI.get (hd 8 (by decide)) hI.no
          have b := hI.old hI.no
          replace P := P.next b
          replace H := chain H b (Nat.le_refl _)
          clear b
          simp only [putAll, Act.put, List.setIfInBounds_toArray, List.set_cons_succ, List.set_cons_zero, e8]
          clear hI e8 hd hra hsa hwa p0 p1 pL
          generalize vs 0 = z0
          generalize vs 1 = z1
          generalize vs 2 = z2
          generalize vs 3 = z3
          generalize vs 4 = z4
          generalize vs 5 = z5
          generalize vs 6 = z6
          generalize vs 7 = z7
          go_wp2_with fail
          refine (toFieldS_c A cp fs _ (hr0.out.step H) hl hfl2.out).mono ?_
          rintro e w4 ⟨gs, d2, hv, rfl, hg, b⟩
          have hgl : gs.length ≤ 1048576 := by have := congrArg List.length hv; simp at this; omega
          have hgf := Lib.hid (show ∀ f ∈ gs, f.ws.length ≤ 1048576 from len_of hv hfl2.out)
          replace hv := Lib.hid hv
          replace P := P.next b
          replace H := chain H b (Nat.le_refl _)
          clear b
          go_wp2_with fail
          refine (toIntS_c A' cp' ss _ (hs0.out.step H) hsl).mono ?_
          rintro e w5 ⟨rfl, b, Q⟩
          replace hg := hg.step b
          replace P := P.next b
          have R := RdI.of_ints Q
          clear Q
          replace H := chain H b (Nat.le_refl _)
          clear b
          obtain ⟨p0, p1, -, -, pL⟩ := P.two
          go_wp2_with fail
          refine (toField_c a Aw cw ws _ (hrw0.out.step H) hwl).mono ?_
          rintro e w6 ⟨g6, rfl, hg6, Q, b⟩
          replace hg := hg.step b
          replace R := R.step b
          replace P := P.next b
          have F := RdI.of_ints Q
          clear Q hg6 p0 p1 pL
          replace H := chain H b (Nat.le_refl _)
          clear b
          have X := Blk.new w6 27 #[.int .i64 a, .slice (some ⟨g6, 0, none⟩) ws.length ws.length]
          have b := (Below.refl w6.heap.size w6).alloc (Nat.le_refl _) (.cells #[.int .i64 a, .slice (some ⟨g6, 0, none⟩) ws.length ws.length] 27)
          replace hg := hg.step b
          replace R := R.step b
          replace F := F.step b
          replace P := P.next b
          replace H := chain H b (Nat.le_refl _)
          clear b
          have hcall := Lib.hid (iBest_all _ d2 gs _ ss.length ss a (some ⟨g6, 0, none⟩) ws.length ws last _ hg hgl hgf.out R hsl F hwl)
          rw [hv.out, hrr.out] at hcall
          obtain ⟨x0, x1, -, -, xL⟩ := X.two
          go_wp2_with fail
          refine hcall.out.mono ?_
          rintro e w7 ⟨rfl, b⟩
          replace hg := hg.step b
          replace R := R.step b
          replace F := F.step b
          replace P := P.next b
          replace X := X.next b
          clear x0 x1 xL hcall
          replace H := chain H b (Nat.le_refl _)
          clear b
          go_wp2_with fail
          refine (toFieldS_c A cp fs _ (hr0.out.step H) hl hfl2.out).mono ?_
          rintro e w8 ⟨gs2, d3, hv2, rfl, hg2, b⟩
          replace hg := hg.step b
          replace R := R.step b
          replace F := F.step b
          replace P := P.next b
          replace X := X.next b
          replace H := chain H b (Nat.le_refl _)
          clear b
          have heq := Lib.hid (show (vals gs == vals gs2) = true by rw [hv.out, hv2]; simp)
          replace hv2 := Lib.hid hv2
          go_wp2_with fail
          refine (eqFieldS_c _ _ d2 d3 gs gs2 _ hg hg2 hgl hgf.out).mono ?_
          rintro e w9 ⟨rfl, b⟩
          rw [heq.out]
          replace R := R.step b
          replace F := F.step b
          replace P := P.next b
          replace X := X.next b
          clear hg hg2 heq hv2
          replace H := chain H b (Nat.le_refl _)
          clear b
          go_wp2_with fail
          refine (toIntS_c A' cp' ss _ (hs0.out.step H) hsl).mono ?_
          rintro e w10 ⟨rfl, b, Q⟩
          replace R := R.step b
          replace F := F.step b
          replace P := P.next b
          replace X := X.next b
          have R2 := RdI.of_ints Q
          clear Q
          replace H := chain H b (Nat.le_refl _)
          clear b
          go_wp2_with fail
          refine (eqIntS_c _ _ _ _ ss ss _ R R2 hsl).mono ?_
          rintro e w11 ⟨rfl, b⟩
          rw [show (ss == ss) = true by simp]
          replace F := F.step b
          replace P := P.next b
          replace X := X.next b
          clear R R2
          replace H := chain H b (Nat.le_refl _)
          clear b
          obtain ⟨p0, p1, -, -, pL⟩ := P.two
          obtain ⟨x0, x1, -, -, xL⟩ := X.two
          have haa : (a == a && ws == ws) = true := by simp
          have hWw := Lib.hid (hrw0.out.step H)
          go_wp2
          have HH := Below.refl w11.heap.size w11
          go_region_held3 (fun w' => w'.cell? ⟨w.heap.size, 0, none⟩ = some (.int .i64 a) ∧ w'.cell? ⟨w.heap.size, 1, none⟩ = some (.slice Aw ws.length cw) ∧ w'.cell? ⟨w6.heap.size, 0, none⟩ = some (.int .i64 a) ∧ w'.cell? ⟨w6.heap.size, 1, none⟩ = some (.slice (some ⟨g6, 0, none⟩) ws.length ws.length) ∧ Below w11.heap.size w11 w')
            ((go_split_ands; refine ⟨?_, ?_, ?_, ?_, ?_⟩ <;> first | assumption | exact cell_next b (by assumption) | exact chain (by assumption) b (Nat.le_refl _) | exact Below.drew (by assumption)))
            (first | (go_at_call 12; refine (toField_c a Aw cw ws _ (hWw.out.step ?_) hwl).mono ?_; (go_split_ands; assumption); rintro e w12 ⟨g12, rfl, hg12, Q, b⟩) | (go_at_call 14; refine (eqField_c a _ _ ws a _ _ ws _ (F.step ?_) (RdI.of_ints Q) hwl).mono ?_; (go_split_ands; assumption); rintro e w13 ⟨rfl, b⟩))
          go_wp2
          go_ret
          rename_i hh
          exact ⟨rfl, chain H hh.2.2.2.2 (Nat.le_refl _)⟩
  · have hgt : (1048576 : Int) < (ss.length : Int) := by omega
    go_enter Try.func8, Try.ntmps8
    go_wp2
    go_ret
    exact ⟨rfl, H⟩
set_option maxRecDepth 100000 in
theorem FnExactBestStart_lifted (os : Os) (started : os.Started) (H : Type) (enc : TypeId × Value → H) :
    ReturnsInHanded {} Try.checked os 8 .any (Rows.fnExactBestStartSpec.pre6 enc Try.prog Try.f8 Rows.fnExactBestStartRow.domain false) (Rows.fnExactBestStartSpec.post enc Try.prog Try.f8 false true false false) := by
  refine returnsInHanded_of_change (C := Try.checked) own_ started (by kernel_rfl) Try.func8
    (ChangeSpec.witness6 (enc := enc) (C := Try.checked) false ⟨#[], #[.slice none 0 0, .slice none 0 0, .agg #[.int .i64 0, .slice none 0 0], .int .i64 0], []⟩ 8 (by kernel_rfl) (by kernel_rfl) (by kernel_rfl) (by kernel_rfl)) ?_
  intro W base args ds gs before hval0 hW hcnd _
  have hval : ∀ (j : Nat) t v, Try.f8.params[j]? = some t → args[j]? = some v → Value.okWide Try.prog W .any base t v := hval0
  have hW' := hW
  obtain ⟨p, q, hA0, hV, rfl, hfz, hnd⟩ := hW
  have hA : DataW.TrodAll enc Try.prog W 0 (fun _ => true) true Try.f8.params.toList args.toList ds p := hA0
  rw [Try.params8] at hA hval
  obtain ⟨v0, vs0, d0, ds0, p0, q0, hargs, rfl, rfl, h0, r0⟩ := trodAll_cons hA
  obtain ⟨v1, vs1, d1, ds1, p1, q1, rfl, rfl, rfl, h1, r1⟩ := trodAll_cons r0
  obtain ⟨v2, vs2, d2, ds2, p2, q2, rfl, rfl, rfl, h2, r2⟩ := trodAll_cons r1
  obtain ⟨v3, vs3, d3, ds3, p3, q3, rfl, rfl, rfl, h3, r3⟩ := trodAll_cons r2
  obtain ⟨rfl, rfl, rfl⟩ := trodAll_nil r3
  obtain rfl : args = #[v0, v1, v2, v3] := by cases args; simp_all
  obtain ⟨rfl, rfl⟩ := trodVars_none hV
  have k0 := h0
  have lt0 : ∀ x ∈ p0, x.block < W.heap.size := by obtain ⟨m, hm⟩ := k0; exact DataW.trod_lt m _ _ _ hm
  obtain ⟨s0, len0, cap0, rfl⟩ := okWide_slice Try.underlying36 (hval 0 36 v0 rfl rfl)
  obtain ⟨x0, rfl, m0, r_0, f_0⟩ := open_flds Try.underlying36 Try.underlying24 (by kernel_rfl) rfl rfl rfl rfl (by kernel_rfl) (by kernel_rfl) h0
  have k1 := h1
  have lt1 : ∀ x ∈ p1, x.block < W.heap.size := by obtain ⟨m, hm⟩ := k1; exact DataW.trod_lt m _ _ _ hm
  obtain ⟨s1, len1, cap1, rfl⟩ := okWide_slice Try.underlying22 (hval 1 22 v1 rfl rfl)
  obtain ⟨x1, rfl, r_1, w1⟩ : ∃ zs : List Int, len1 = zs.length ∧ RdI W W.heap.size s1 zs ∧ ∀ n ∈ zs, (Lit.int .i64 n).wf = true := by
    obtain ⟨fuel, hf⟩ := h1
    rcases open_ints Try.underlying22 Try.underlying3 (by kernel_rfl) hf with ⟨hcs, _⟩ | ⟨x, l, c, zs, hcs, _, hl, hm, hz, _, hcell, hwz⟩
    · simp [Value.cells] at hcs
      obtain ⟨rfl, rfl, rfl⟩ := hcs
      exact ⟨[], rfl, .inl rfl, by simp⟩
    · simp [Value.cells] at hcs
      obtain ⟨rfl, rfl, rfl⟩ := hcs
      have hlz : len1 ≤ zs.length := by simp only [if_true] at hz; omega
      exact ⟨zs.take len1, by simp; omega, RdI.of_open hcell, fun n hn => hwz n (List.mem_of_mem_take hn)⟩
  have k2 := h2
  have lt2 : ∀ x ∈ p2, x.block < W.heap.size := by obtain ⟨m, hm⟩ := k2; exact DataW.trod_lt m _ _ _ hm
  obtain ⟨c2_0, c2_1, y2_0, y2_1, m2, rfl, rfl, rfl, hy2_0, hy2_1⟩ := open_agg2 Try.underlying24 (by kernel_rfl) (show Try.prog.cellsOf 24 = 2 by kernel_rfl) (hval 2 24 v2 rfl rfl) h2
  obtain ⟨a2_0, e2_0, rfl, w2_0⟩ := DataW.trod_int Try.underlying3 hy2_0
  simp only [List.cons.injEq, and_true] at e2_0
  subst e2_0
  obtain ⟨s2, cap2, x2, rfl, mx2, r_2⟩ : ∃ (s : Option Addr) (c : Nat) (zs : List Int), c2_1 = .slice s zs.length c ∧ zs.length ≤ maxLen ∧ RdI W W.heap.size s zs := by
    rcases open_ints Try.underlying22 Try.underlying3 (by kernel_rfl) hy2_1 with ⟨hcs, _⟩ | ⟨x, l, c, zs, hcs, _, hl, hm, hz, _, hcell, hwz⟩
    · simp only [List.cons.injEq, and_true] at hcs
      exact ⟨none, 0, [], hcs, Nat.zero_le _, .inl rfl⟩
    · simp only [List.cons.injEq, and_true] at hcs
      have hlz : l ≤ zs.length := by simp only [if_true] at hz; omega
      have e : (zs.take l).length = l := by simp; omega
      exact ⟨some x, c, zs.take l, by rw [e]; exact hcs, by rw [e]; omega, RdI.of_open hcell⟩
  have k3 := h3
  have lt3 : ∀ x ∈ p3, x.block < W.heap.size := by obtain ⟨m, hm⟩ := k3; exact DataW.trod_lt m _ _ _ hm
  obtain ⟨a3, rfl, rfl, rfl, w3⟩ := open_int Try.underlying3 (hval 3 3 v3 rfl rfl) h3
  clear hA0 hval0
  refine (FnExactBestStart_walk s0 cap0 x0 s1 cap1 x1 a2_0 s2 cap2 x2 a3 W m0 r_0 f_0 r_1 w1 w2_0 mx2 r_2 w3).mono fun e W' ⟨he, bel⟩ => ?_
  subst he
  exact ⟨_, rfl, _, _, _, [], _, [], hW', trodAll_mk1 (shut_bool Try.underlying4 _), (trodAll_cons_mk (Below.trod laidOut_ (by kernel_rfl) (of_decide_eq_true (by kernel_rfl)) k0 bel lt0) (trodAll_cons_mk (Below.trod laidOut_ (by kernel_rfl) (of_decide_eq_true (by kernel_rfl)) k1 bel lt1) (trodAll_cons_mk (Below.trod laidOut_ (by kernel_rfl) (of_decide_eq_true (by kernel_rfl)) k2 bel lt2) (trodAll_cons_mk (Below.trod laidOut_ (by kernel_rfl) (of_decide_eq_true (by kernel_rfl)) k3 bel lt3) trodAll_mk0)))), rfl, bel.frame _, fun h => by cases h⟩

theorem FnExactBestStart_over : Rows.fnExactBestStartRow.holds Try.pinned (OpenSpec.ofChange Rows.fnExactBestStartSpec) :=
  OpenClaim.holds_of_wide 8 Try.f8 rfl rfl rfl rfl rfl rfl rfl ⟨rfl, rfl, rfl, rfl, rfl⟩ rfl rfl rfl rfl rfl (by kernel_rfl) Try.func8 (by kernel_rfl)
    (of_decide_eq_true (by kernel_rfl)) (by unfold Func.isWrapper; first | (rw [if_pos (by decide +kernel)]; kernel_rfl) | (rw [if_neg (by decide +kernel)]; exact ⟨rfl, rfl⟩))
    (fun os started H enc _ => FnExactBestStart_lifted os started H enc)

theorem FnExactBestStart_proved : Rows.FnExactBestStartSaid := FnExactBestStart_over
end Go.Proofs.Ytkbgifnmcklmiaa
