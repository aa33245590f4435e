/- FnFields: no start makes the peak less than the best one. -/
import Derived.Test.YtkbgifnmcklmiaaFieldsP
import Derived.Test.YtkbgifnmcklmiaaInvK
namespace Go.Proofs.Ytkbgifnmcklmiaa
open Go.ChangeShapes Go.WideShapes Go.ChangeAt Go.RowKit
set_option linter.unusedVariables false

set_option maxRecDepth 100000 in
set_option maxHeartbeats 12000000 in
theorem FnFields_walk (A : Option Addr) (cp : Nat) (code : List Int) (w : World) (hm : code.length ≤ maxLen) (hrb : RdB w w.heap.size A code) :
    Calls Try.prog 9 #[.slice A code.length cp] w fun e w' => e = .returned (.bool true) ∧ Below w.heap.size w w' := by
  by_cases hl : code.length ≤ 1048576
  · have hd := Lib.hid (show decide ((1048576 : Int) < code.length) = false from decide_eq_false (by omega))
    clear hm
    go_enter Try.func9, Try.ntmps9
    go_wp2_with fail
    refine (big_c _ _ _ _).mono ?_
    rintro e w' ⟨rfl, rfl⟩
    rw [hd.out]
    go_wp2_with fail
    refine (drawFields_c _ _ _ _ hrb hl).mono ?_
    rintro e w2 ⟨A2, c2, fs, A3, c3, ss, a, Af, cf, ws, rfl, hr, hs, hf, hok, hw, H⟩
    have hfs3 : fs.length ≤ 3 := hok.1
    have hss3 : ss.length = fs.length := hok.2.1
    have hwsl : 1 ≤ ws.length ∧ ws.length ≤ 6 := hw.2.1
    have hfb := Lib.hid (okWs_field hw)
    obtain ⟨hp0, bb, hbe, hb0, hb20, hall, hadd⟩ := law_best hok hw
    have hfl := Lib.hid (show ∀ f ∈ fs, f.ws.length ≤ 1048576 from fun f hf => by have := (hok.2.2.1 f hf).2.1; omega)
    have hok' := Lib.hid hok
    have hw' := Lib.hid hw
    have hall' := Lib.hid hall
    have hss3' := Lib.hid hss3
    have hssl : ss.length ≤ 3 := by omega
    clear hok hw hall hrb hd hss3
    obtain ⟨p, hp⟩ : ∃ p, peakZ (vals fs) ss = p := ⟨_, rfl⟩
    rw [hp] at hp0 hadd
    replace hp := Lib.hid hp
    replace hbe := Lib.hid hbe
    have P := Blk.new w2 27 #[.int .i64 a, .slice Af ws.length cf]
    have b := (Below.refl w2.heap.size w2).alloc (Nat.le_refl _) (.cells #[.int .i64 a, .slice Af ws.length cf] 27)
    replace H := chain H b (Nat.le_refl _)
    replace hr := hr.step b
    replace hs := hs.step b
    replace hf := hf.step b
    clear b
    obtain ⟨fb, hfbe⟩ : ∃ fb, fb = w2.heap.size := ⟨_, rfl⟩
    obtain ⟨p0, p1, -, -, pL⟩ := P.two
    have hc1 := Lib.hid (iPeak_c A2 c2 fs A3 c3 ss _ hr (by omega) hfl.out hs (by omega))
    rw [hp.out] at hc1
    go_wp2_with fail
    rw [← hfbe] at P p0 p1 pL ⊢
    clear hfbe
    refine hc1.out.mono ?_
    rintro e w3 ⟨rfl, b⟩
    clear p0 p1 pL hc1
    replace H := chain H b (Nat.le_refl _)
    replace hr := hr.step b
    replace hs := hs.step b
    replace hf := hf.step b
    replace P := P.next b
    clear b
    obtain ⟨p0, p1, -, -, pL⟩ := P.two
    have hc2 := Lib.hid (iBest_all A2 c2 fs A3 c3 ss a Af cf ws 20 _ hr (by omega) hfl.out hs (by omega) hf (by omega))
    rw [hbe.out] at hc2
    go_wp2_with fail
    refine hc2.out.mono ?_
    rintro e w4 ⟨rfl, b⟩
    clear p0 p1 pL hc2
    replace H := chain H b (Nat.le_refl _)
    replace hr := hr.step b
    replace hs := hs.step b
    replace hf := hf.step b
    replace P := P.next b
    clear b
    have hn1 : ¬ p < 0 := by omega
    have hn2 : ¬ bb < 0 := by omega
    have hn3 : ¬ (20 : Int) < bb := by omega
    obtain ⟨p0, p1, -, -, pL⟩ := P.two
    go_wp2
    have hr2 := Lib.hid hr
    have hs2 := Lib.hid hs
    have hf2 := Lib.hid hf
    clear hr hs hf hn1 hn2 hn3
    refine wp_region_facts w4.heap.size 999 [Fact.blk w4.heap.size 27 0 #[], Fact.val (.slice A2 fs.length c2), Fact.own w4.heap.size 27 2 fs.length (fcells fs), Fact.val (.agg #[.int .i64 a, .slice Af ws.length cf]), Fact.blk w4.heap.size 27 1 #[.int .i64 a, .slice Af ws.length cf], Fact.own w4.heap.size 27 2 (fs.length + 1) (fcells (fs ++ [(⟨a, Af, cf, ws⟩ : Fd)])), Fact.own w4.heap.size 27 2 (fs.length + 1) (fcells (fs ++ [(⟨a, Af, cf, ws⟩ : Fd)]))]
      (fun j => match j with | 0 => 2 | 2 => 5 | 4 => 5 | _ => 999) (fun _ _ _ => True) (by kernel_rfl) (by kernel_rfl) (fun _ => trivial) ?_ ?_
    · refine ⟨?_, ?_, ?_, ?_, ?_, ?_, ?_, trivial⟩
      · intro d vs w1 hI hcl hk hd
        have hO := hI.old hI.no
        simp only [putAll, Act.put, List.setIfInBounds_toArray, List.set_cons_succ, List.set_cons_zero]
        go_wp2
        exact ⟨.slice (some ⟨w1.heap.size, 0, none⟩) 0 0, rfl, hI.put (k := 0) (v := .slice (some ⟨w1.heap.size, 0, none⟩) 0 0) ((Below.refl _ _).alloc (Nat.le_refl _) _) (by omega) ⟨_, rfl, hO.size, Blk.new _ _ _⟩ trivial⟩
      · intro d vs w1 hI hcl hk hd
        have hO := hI.old hI.no
        simp only [putAll, Act.put, List.setIfInBounds_toArray, List.set_cons_succ, List.set_cons_zero]
        go_wp2
        exact ⟨.slice A2 fs.length c2, rfl, hI.pure_ (k := 1) (v := .slice A2 fs.length c2) (by omega) rfl trivial⟩
      · intro d vs w1 hI hcl hk hd
        have hO := hI.old hI.no
        have hd0 : d 0 = true ∧ d 1 = true := by simp at hd; simp [hd]
        obtain ⟨g, e0, hg0, B⟩ : (Fact.blk w4.heap.size 27 0 #[]).P (vs 0) w1 := hI.get hd0.1 hk
        have e1 : vs 1 = .slice A2 fs.length c2 := hI.get hd0.2 hI.no
        have hv1 : RdV w1 w1.heap.size A2 (fcells fs) := RdV.step hr2.out.toV hO
        simp only [putAll, Act.put, List.setIfInBounds_toArray, List.set_cons_succ, List.set_cons_zero]
        refine wpList_append_e rowFld _ rfl (.tmp 39) (.tmp 40) rfl w4.heap.size g e0 hg0 B w1.heap.size A2 fs.length c2 (fcells fs) (fcells_length fs) e1 hv1 (fcells_one fs) (by omega) hO.size ?_
        intro A8 c8 w8 hown b2 hat
        exact ⟨.slice A8 fs.length c8, rfl, hI.put (k := 2) (v := .slice A8 fs.length c8) b2 (by omega) ⟨A8, c8, rfl, hown⟩ trivial⟩
      · intro d vs w1 hI hcl hk hd
        have hO := hI.old hI.no
        have q0 := cell_next hO p0
        have q1 := cell_next hO p1
        simp only [putAll, Act.put, List.setIfInBounds_toArray, List.set_cons_succ, List.set_cons_zero]
        go_wp2
        exact ⟨.agg #[.int .i64 a, .slice Af ws.length cf], rfl, hI.pure_ (k := 3) (v := .agg #[.int .i64 a, .slice Af ws.length cf]) (by omega) rfl trivial⟩
      · intro d vs w1 hI hcl hk hd
        have hO := hI.old hI.no
        have hd0 : d 3 = true := by simp at hd; simp [hd]
        have e0 : vs 3 = .agg #[.int .i64 a, .slice Af ws.length cf] := hI.get hd0 hI.no
        simp only [putAll, Act.put, List.setIfInBounds_toArray, List.set_cons_succ, List.set_cons_zero]
        go_wp2
        exact ⟨.slice (some ⟨w1.heap.size, 0, none⟩) 1 1, by simp only [e0]; rfl, hI.put (k := 4) (v := .slice (some ⟨w1.heap.size, 0, none⟩) 1 1) ((Below.refl _ _).alloc (Nat.le_refl _) _) (by omega) ⟨_, rfl, hO.size, Blk.new _ _ _⟩ trivial⟩
      · intro d vs w1 hI hcl hk hd
        have hO := hI.old hI.no
        have hd0 : d 2 = true ∧ d 4 = true := by simp at hd; simp [hd]
        obtain ⟨A8, c8, e1, hown⟩ : (Fact.own w4.heap.size 27 2 fs.length (fcells fs)).P (vs 2) w1 := hI.get hd0.1 hk
        obtain ⟨g, e3, hgW, B⟩ : (Fact.blk w4.heap.size 27 1 #[.int .i64 a, .slice Af ws.length cf]).P (vs 4) w1 := hI.get hd0.2 hk
        simp only [putAll, Act.put, List.setIfInBounds_toArray, List.set_cons_succ, List.set_cons_zero]
        refine wpList_append_v rowFld _ rfl (.tmp 41) (.tmp 43) rfl w4.heap.size A8 fs.length c8 (fcells fs) e1 hown w1.heap.size (some ⟨g, 0, none⟩) 1 1 [Value.int .i64 a, Value.slice Af ws.length cf] rfl e3 (RdV.of_blk B) (by intro u hu; simp at hu; rcases hu with rfl | rfl <;> rfl) (by omega) hO.size ?_
        intro A9 c9 w9 hown2 hg hat
        rw [← field_toV] at hown2
        exact ⟨.slice A9 (fs.length + 1) c9, rfl, hI.row (k := 5) (v := .slice A9 (fs.length + 1) c9) hg hown.row_ge (by omega) ⟨A9, c9, rfl, hown2⟩ (fun j hj hjk hdk hal _ => by
          match j, hjk, hdk with
          | 0, _, _ => exact absurd hal (by simp [hd0.1])
          | 1, _, _ => exact .inl rfl
          | 2, _, h => exact absurd rfl h
          | 3, _, _ => exact .inl rfl
          | 4, _, h => exact absurd rfl h
          | 5, h, _ => exact absurd rfl h
          | 6, _, _ => exact absurd (hcl 6 _ rfl hj) (by simp [hk])
          | n + 7, _, _ => exact .inl rfl) trivial⟩
      · intro d vs w1 hI hcl hk hd
        have hO := hI.old hI.no
        have hd0 : d 5 = true := by simp at hd; simp [hd]
        obtain ⟨A9, c9, e1, hown⟩ : (Fact.own w4.heap.size 27 2 (fs.length + 1) (fcells (fs ++ [(⟨a, Af, cf, ws⟩ : Fd)]))).P (vs 5) w1 := hI.get hd0 hI.no
        simp only [putAll, Act.put, List.setIfInBounds_toArray, List.set_cons_succ, List.set_cons_zero]
        go_wp2
        exact ⟨.slice A9 (fs.length + 1) c9, by simp only [e1]; rfl, hI.pure_ (k := 6) (v := .slice A9 (fs.length + 1) c9) (by omega) ⟨A9, c9, rfl, hown⟩ trivial⟩
    · intro d vs w5 hI hd
      obtain ⟨A9, c9, e1, hown⟩ : (Fact.own w4.heap.size 27 2 (fs.length + 1) (fcells (fs ++ [(⟨a, Af, cf, ws⟩ : Fd)]))).P (vs 6) w5 := hI.get (hd 6 (by decide)) hI.no
      have b := hI.old hI.no
      obtain ⟨gs, hgs⟩ : ∃ gs, fs ++ [(⟨a, Af, cf, ws⟩ : Fd)] = gs := ⟨_, rfl⟩
      have hgl : fs.length + 1 = gs.length := by rw [← hgs]; simp
      have hgv := Lib.hid (show vals gs = vals fs ++ [(a, ws)] by rw [← hgs]; simp [vals, Fd.val])
      have hgf := Lib.hid (show ∀ f ∈ gs, f.ws.length ≤ 1048576 by
        intro f hf'
        rw [← hgs] at hf'
        rcases List.mem_append.1 hf' with hf' | hf'
        · exact hfl.out f hf'
        · rw [List.mem_singleton] at hf'; subst hf'; show ws.length ≤ 1048576; omega)
      rw [hgs] at hown
      have hgr : RdF w5 w5.heap.size A9 gs := RdF.ofV hown.rd (fun f hf' => by
        rw [← hgs] at hf'
        rcases List.mem_append.1 hf' with hf' | hf'
        · exact (hr2.out.2 f hf').step b
        · rw [List.mem_singleton] at hf'; subst hf'; exact hf2.out.step b)
      rw [hgl] at e1
      have hgl4 : gs.length ≤ 4 := by omega
      have hs := hs2.out.step b
      have hf := hf2.out.step b
      replace P := P.next b
      replace H := chain H b (Nat.le_refl _)
      replace hd := Lib.hid hd
      replace hgs := Lib.hid hgs
      simp only [putAll, Act.put, List.setIfInBounds_toArray, List.set_cons_succ, List.set_cons_zero, e1]
      clear hI e1 hd hown b hr2 hs2 hf2 p0 p1 pL hgl hgs
      generalize vs 0 = z0
      generalize vs 1 = z1
      generalize vs 2 = z2
      generalize vs 3 = z3
      generalize vs 4 = z4
      generalize vs 5 = z5
      have hT := Lib.hid (fun x => show peakZ (vals gs) (ss ++ [x]) = tryZ (vals fs) ss (a, ws) x by rw [hgv.out]; rfl)
      obtain ⟨T, hTT⟩ : ∃ T, tryZ (vals fs) ss (a, ws) = T := ⟨_, rfl⟩
      rw [hTT] at hT hall' hadd
      replace hTT := Lib.hid hTT
      have E := Blk.new w5 3 #[]
      have bE := (Below.refl w5.heap.size w5).alloc (Nat.le_refl _) (.cells #[] 3)
      have hv := RdI.toV (hs.step bE)
      go_wp2_with (first
        | (at_builtin; refine wpList_append_e rowInt _ rfl (.tmp 46) (.tmp 47) rfl w5.heap.size w5.heap.size rfl (Nat.le_refl _) E _ A3 ss.length c3 (ints ss) (by simp) rfl hv (ints_one ss) (by omega) (by simp) ?_; intro A5 c5 w6 o5 b5 hat5; (have b5a := (chain bE b5 (Nat.le_refl _))); (have b5b := b5a.alloc b5a.size (.cells #[.int .i64 bb] 3)); (have o5a : OwnI (w6.alloc (.cells #[.int .i64 bb] 3)) w5.heap.size A5 c5 ss := OwnV.alloc o5 _); (have hone := RdI.of_ints (xs := [bb]) (Blk.new w6 3 #[.int .i64 bb])); (have hsz6 := b5b.size))
        | (at_builtin; refine wpList_append_rd _ rfl (.tmp 48) (.tmp 50) rfl w5.heap.size A5 ss.length c5 ss rfl rfl o5a _ (some ⟨w6.heap.size, 0, none⟩) 1 1 [bb] rfl rfl hone (by simp; omega) hsz6 ?_; intro A7 c7 w7 o7 g7 hat7))
      have b := b5b.grown g7 b5b.size o5a.row_ge
      have R7 := o7.rd
      obtain ⟨s7, hs7⟩ : ∃ s7, ss ++ [bb] = s7 := ⟨_, rfl⟩
      have hl7 : ss.length + 1 = s7.length := by rw [← hs7]; simp
      have hl7' : s7.length ≤ 4 := by omega
      have hc7 := Lib.hid (iPeak_c A9 c9 gs A7 c7 s7 _ (hgr.step b) (by omega) hgf.out (by rw [← hs7]; exact R7) (by omega))
      rw [← hs7, hT.out bb, hs7] at hc7
      rw [hl7]
      replace hs7 := Lib.hid hs7
      replace hl7 := Lib.hid hl7
      replace hgr := hgr.step b
      replace H := chain H b (Nat.le_refl _)
      replace hs := hs.step b
      replace hf := hf.step b
      replace P := P.next b
      clear E bE hv b5 hat5 b5a b5b o5 o5a hone hsz6 o7 g7 hat7 b R7
      refine hc7.out.mono ?_
      rintro e w8 ⟨rfl, b⟩
      replace hgr := hgr.step b
      replace H := chain H b (Nat.le_refl _)
      replace hs := hs.step b
      replace hf := hf.step b
      replace P := P.next b
      clear b hc7
      go_wp2
      go_loopw [10] (fun x wr => ∃ k : Nat, k ≤ 21 ∧ x = .int .i64 k ∧ RdF wr wr.heap.size A9 gs ∧ RdI wr wr.heap.size A3 ss ∧ RdI wr wr.heap.size Af ws ∧ Blk wr fb 27 #[.int .i64 a, .slice Af ws.length cf] ∧ Below w.heap.size w wr) (fun x _ => 21 - (intOf x).toNat)
      case atStart => exact ⟨0, Nat.zero_le _, rfl, hgr, hs, hf, P, H⟩
      case round =>
        clear hgr hs hf P H
        obtain ⟨k, hk, rfl, hgr, hs, hf, P, H⟩ := hrel
        by_cases hlt : k < 21
        · have hkI : (k : Int) ≤ 20 := by omega
          obtain ⟨q1, q2, q3⟩ := hall'.out (k : Int) (by omega) hkI
          rw [hp.out] at q2
          have n1 : ¬ T (k : Int) < T bb := by omega
          have n2 : ¬ T (k : Int) < p := by omega
          have n3 := Lib.hid (show (k : Int) < bb → (T (k : Int) == T bb) = false from fun h => beq_eq_false_iff_ne.2 (fun e => by have := q3 h; omega))
          clear q1 q2 q3
          have E := Blk.new wr 3 #[]
          have bE := (Below.refl wr.heap.size wr).alloc (Nat.le_refl _) (.cells #[] 3)
          have hv := RdI.toV (hs.step bE)
          go_wp2_with (first
            | (at_builtin; refine wpList_append_e rowInt _ rfl (.tmp 58) (.tmp 59) rfl wr.heap.size wr.heap.size rfl (Nat.le_refl _) E _ A3 ss.length c3 (ints ss) (by simp) rfl hv (ints_one ss) (by omega) (by simp) ?_; intro A5 c5 w6 o5 b5 hat5; (have b5a := (chain bE b5 (Nat.le_refl _))); (have b5b := b5a.alloc b5a.size (.cells #[.int .i64 (k : Int)] 3)); (have o5a : OwnI (w6.alloc (.cells #[.int .i64 (k : Int)] 3)) wr.heap.size A5 c5 ss := OwnV.alloc o5 _); (have hone := RdI.of_ints (xs := [(k : Int)]) (Blk.new w6 3 #[.int .i64 (k : Int)])); (have hsz6 := b5b.size))
            | (at_builtin; refine wpList_append_rd _ rfl (.tmp 60) (.tmp 62) rfl wr.heap.size A5 ss.length c5 ss rfl rfl o5a _ (some ⟨w6.heap.size, 0, none⟩) 1 1 [(k : Int)] rfl rfl hone (by simp; omega) hsz6 ?_; intro A7 c7 w7 o7 g7 hat7))
          have b := b5b.grown g7 b5b.size o5a.row_ge
          have R7 := o7.rd
          obtain ⟨s7, hs7⟩ : ∃ s7, ss ++ [(k : Int)] = s7 := ⟨_, rfl⟩
          have hl7 : ss.length + 1 = s7.length := by rw [← hs7]; simp
          have hl7' : s7.length ≤ 4 := by omega
          have hc7 := Lib.hid (iPeak_c A9 c9 gs A7 c7 s7 _ (hgr.step b) (by omega) hgf.out (by rw [← hs7]; exact R7) (by omega))
          rw [← hs7, hT.out (k : Int), hs7] at hc7
          rw [hl7]
          replace hs7 := Lib.hid hs7
          replace hl7 := Lib.hid hl7
          replace hgr := hgr.step b
          replace H := chain H b (Nat.le_refl _)
          replace hs := hs.step b
          replace hf := hf.step b
          replace P := P.next b
          clear E bE hv b5 hat5 b5a b5b o5 o5a hone hsz6 o7 g7 hat7 b R7
          refine hc7.out.mono ?_
          rintro e w8 ⟨rfl, b⟩
          replace hgr := hgr.step b
          replace H := chain H b (Nat.le_refl _)
          replace hs := hs.step b
          replace hf := hf.step b
          replace P := P.next b
          clear b hc7
          by_cases hkb : (k : Int) < bb
          · have n4 := n3.out hkb
            go_wp2
            go_roundw
            case rel => exact ⟨k + 1, by omega, by go_num, hgr, hs, hf, P, H⟩
            case measure => simp [intOf]; omega
          · go_wp2
            go_roundw
            case rel => exact ⟨k + 1, by omega, by go_num, hgr, hs, hf, P, H⟩
            case measure => simp [intOf]; omega
        · have hkI : ¬ (k : Int) ≤ 20 := by omega
          clear hgr hs
          go_wp2
          go_loopw [12, 13] (fun s x wr => ∃ j : Nat, j ≤ 53 ∧ x = .int .i64 j ∧ s = .int .i64 (needSum a ws j) ∧ RdI wr wr.heap.size Af ws ∧ Blk wr fb 27 #[.int .i64 a, .slice Af ws.length cf] ∧ Below w.heap.size w wr) (fun _ x _ => 53 - (intOf x).toNat)
          case atStart => exact ⟨0, Nat.zero_le _, rfl, rfl, hf, P, H⟩
          case round =>
            clear hf P H
            obtain ⟨j, hj, rfl, rfl, hf, P, H⟩ := hrel
            obtain ⟨m0, m1⟩ := needSum_b a ws hfb.out j hj
            obtain ⟨p0, p1, -, -, pL⟩ := P.two
            by_cases hlj : j < 53
            · have hjI : (j : Int) ≤ 52 := by omega
              obtain ⟨v0, v1⟩ := needZ_b a ws 4 j
              have hsum := Lib.hid (show needSum a ws (j + 1) = needSum a ws j + needZ a ws 4 j from rfl)
              have hc := Lib.hid (iNeed_c a Af cf ws 4 j _ hf (by omega))
              generalize needSum a ws j = sj at *
              generalize needZ a ws 4 j = vj at *
              go_wp2_with fail
              refine hc.out.mono ?_
              rintro e w9 ⟨rfl, b⟩
              replace hf := hf.step b
              replace P := P.next b
              replace H := chain H b (Nat.le_refl _)
              go_wp2
              go_roundw
              case rel => exact ⟨j + 1, by omega, by go_num, by rw [hsum.out], hf, P, H⟩
              case measure => simp [intOf]; omega
            · have hjI : ¬ (j : Int) ≤ 52 := by omega
              have hse := Lib.hid (show needSum a ws j = seasZ a ws by rw [show j = 53 by omega]; exact season hfb.out)
              rw [hse.out] at m0 m1 ⊢
              have hS2 := Lib.hid (iSeas_c a Af cf ws)
              have hH2 := Lib.hid (iHarv_c a Af cf ws 4)
              have hN2 := Lib.hid (iNeed_c a Af cf ws 4)
              have hF2 := Lib.hid (iFok_c a Af cf ws)
              rw [hfb.out] at hF2
              rw [show harvZ a ws 4 = 4 + (ws.length : Int) from harv_yes hfb.out rfl] at hH2
              have hN3 := Lib.hid (show needZ a ws 4 3 = 0 from need_out hfb.out rfl rfl ((inB_not _ _ _).2 (.inl (by omega))))
              obtain ⟨bf, off, x0, rfl, hbf, hcx, hx, -⟩ := hf.at_ (show 0 < ws.length by omega)
              have hN4 := Lib.hid (show needZ a ws 4 4 = a * x0 from need_in hfb.out rfl rfl ((inB_iff _ _ _).2 ⟨by omega, by omega⟩) (n := 0) (by omega) hx.out)
              have hxb := hw'.out.2.2 x0 (List.mem_of_getElem? hx.out)
              obtain ⟨a0, a1⟩ := hw'.out.1
              obtain ⟨u0, u1⟩ := mul_b5 a x0 (by omega) (by omega) (by omega) (by omega)
              have e2 : IntKind.i64.wrap (a * x0) = a * x0 := IntWalk.i64_in _ (by omega)
              obtain ⟨q, hq⟩ : ∃ q, peakZ [(a, ws)] [0] = q := ⟨_, rfl⟩
              obtain ⟨tb, htb⟩ : ∃ tb, T bb = tb := ⟨_, rfl⟩
              have hqb := peakZ_b [(a, ws)] [0]
              have hpb := peakZ_b (vals fs) ss
              have hTb := Lib.hid (show -1 ≤ tb ∧ tb ≤ 600000 by rw [← htb, ← hTT.out]; exact peakZ_b _ _)
              rw [hq] at hqb hadd
              rw [hp.out] at hpb
              rw [htb] at hadd ⊢
              obtain ⟨t0, t1⟩ := hTb.out
              replace hq := Lib.hid hq
              replace htb := Lib.hid htb
              rw [Nat.add_zero] at hcx
              have hcell : ∀ w1, Below wr.heap.size wr w1 → w1.cell? ⟨fb, 0, none⟩ = some (.int .i64 a) ∧ w1.cell? ⟨fb, 1, none⟩ = some (.slice (some ⟨bf, off, none⟩) ws.length cf) := fun w1 hO => ⟨cell_next hO p0, cell_next hO p1⟩
              have hl6 : ws.length ≤ 1048576 := by omega
              have hcS := fun w1 hO => hS2.out w1 (hf.step hO) hl6
              have hcH := fun w1 hO => hH2.out w1 (hf.step hO) hl6
              have hcN3 := fun w1 hO => hN2.out 3 w1 (hf.step hO) hl6
              have hcN4 := fun w1 hO => hN2.out 4 w1 (hf.step hO) hl6
              have hcF := fun w1 hO => hF2.out w1 (hf.step hO) hl6
              rw [hN3.out] at hcN3
              rw [hN4.out] at hcN4
              have hcP : ∀ (w1 : World), Below wr.heap.size wr w1 → ∀ x1 x2, (Fact.blk wr.heap.size 27 1 #[.int .i64 a, .slice (some ⟨bf, off, none⟩) ws.length cf]).P x1 w1 → (Fact.blk wr.heap.size 3 1 #[.int .i64 0]).P x2 w1 →
                  Calls Try.prog 25 #[x1, x2] w1 fun e w' => e = .returned (.int .i64 q) ∧ Below w1.heap.size w1 w' := fun w1 hO x1 x2 ⟨g1, e1, _, B1⟩ ⟨g2, e2, _, B2⟩ => by
                have h1 : RdF w1 w1.heap.size (some ⟨g1, 0, none⟩) [(⟨a, some ⟨bf, off, none⟩, cf, ws⟩ : Fd)] := RdF.of_blk B1 rfl (fun f hf' => by rw [List.mem_singleton] at hf'; subst hf'; exact hf.step hO)
                have h3 := iPeak_c (some ⟨g1, 0, none⟩) 1 [(⟨a, some ⟨bf, off, none⟩, cf, ws⟩ : Fd)] (some ⟨g2, 0, none⟩) 1 [0] w1 h1 (by simp) (fun f hf' => by rw [List.mem_singleton] at hf'; subst hf'; exact hl6) (RdI.of_ints (xs := [0]) B2) (by simp)
                rw [show peakZ (vals [(⟨a, some ⟨bf, off, none⟩, cf, ws⟩ : Fd)]) [0] = q from hq.out] at h3
                rw [e1, e2]
                exact h3
              replace hcS := Lib.hid hcS
              replace hcH := Lib.hid hcH
              replace hcN3 := Lib.hid hcN3
              replace hcN4 := Lib.hid hcN4
              replace hcF := Lib.hid hcF
              replace hcP := Lib.hid hcP
              replace hcell := Lib.hid hcell
              clear hf P p0 p1 pL hbf hx hxb hq
              generalize seasZ a ws = S at *
              go_wp2
              refine wp_region_factsK (wr.heap.size) 999 [Fact.val (.int .i64 S), Fact.val (.agg #[.int .i64 a, .slice (some ⟨bf, off, none⟩) ws.length cf]), Fact.val (.int .i64 S), Fact.val (.bool true), Fact.val (.bool true), Fact.val (.agg #[.int .i64 a, .slice (some ⟨bf, off, none⟩) ws.length cf]), Fact.val (.int .i64 (4 + (ws.length : Int))), Fact.val (.pointer (some ⟨fb, 1, none⟩)), Fact.val (.slice (some ⟨bf, off, none⟩) ws.length cf), Fact.val (.int .i64 (ws.length : Int)), Fact.val (.int .i64 (4 + (ws.length : Int))), Fact.val (.bool true), Fact.val (.bool true), Fact.val (.bool true), Fact.val (.agg #[.int .i64 a, .slice (some ⟨bf, off, none⟩) ws.length cf]), Fact.val (.int .i64 0), Fact.val (.bool true), Fact.val (.bool true), Fact.val (.bool true), Fact.val (.agg #[.int .i64 a, .slice (some ⟨bf, off, none⟩) ws.length cf]), Fact.val (.int .i64 (a * x0)), Fact.val (.pointer (some ⟨fb, 0, none⟩)), Fact.val (.int .i64 a), Fact.val (.pointer (some ⟨fb, 1, none⟩)), Fact.val (.slice (some ⟨bf, off, none⟩) ws.length cf), Fact.val (.pointer (some ⟨bf, off, none⟩)), Fact.val (.int .i64 x0), Fact.val (.int .i64 (a * x0)), Fact.val (.bool true), Fact.val (.bool true), Fact.val (.bool true), Fact.val (.int .i64 tb), Fact.val (.int .i64 p), Fact.val (.agg #[.int .i64 a, .slice (some ⟨bf, off, none⟩) ws.length cf]), Fact.blk wr.heap.size 27 1 #[.int .i64 a, .slice (some ⟨bf, off, none⟩) ws.length cf], Fact.blk wr.heap.size 3 1 #[.int .i64 0], Fact.val (.int .i64 q), Fact.val (.int .i64 (p + q)), Fact.val (.bool true), Fact.val (.bool true), Fact.val (.bool true), Fact.val (.agg #[.int .i64 a, .slice (some ⟨bf, off, none⟩) ws.length cf]), Fact.val (.bool true), Fact.val (.bool true), Fact.val (.bool true)] (fun j => match j with | 34 => 36 | 35 => 36 | _ => 999) (fun _ _ _ => True) ?_ (by kernel_rfl) (by kernel_rfl) (by first | rfl | decide) (fun vs => ?_) (fun _ => trivial) ?_ ?_
              rotate_left
              · simp only [putAll, Act.put, List.setIfInBounds_toArray, List.set_cons_succ, List.set_cons_zero]
                rfl
              · refine ⟨?_, ?_, ?_, ?_, ?_, ?_, ?_, ?_, ?_, ?_, ?_, ?_, ?_, ?_, ?_, ?_, ?_, ?_, ?_, ?_, ?_, ?_, ?_, ?_, ?_, ?_, ?_, ?_, ?_, ?_, ?_, ?_, ?_, ?_, ?_, ?_, ?_, ?_, ?_, ?_, ?_, ?_, ?_, ?_, ?_, trivial⟩
                · intro ops d vs w1 K hI hcl hk hd hK
                  have hO := hI.old hI.no
                  refine ⟨trivial, ?_⟩
                  dsimp only
                  go_wp2
                  exact hI.pure_ (k := 0) (v := (.int .i64 S)) (by omega) rfl trivial
                · intro ops d vs w1 K hI hcl hk hd hK
                  have hO := hI.old hI.no
                  have y0 := (hcell.out w1 hO).1
                  have y1 := (hcell.out w1 hO).2
                  refine ⟨trivial, ?_⟩
                  dsimp only
                  go_wp2
                  exact hI.pure_ (k := 1) (v := (.agg #[.int .i64 a, .slice (some ⟨bf, off, none⟩) ws.length cf])) (by omega) rfl trivial
                · intro ops d vs w1 K hI hcl hk hd hK
                  have hO := hI.old hI.no
                  have hd0 : d 1 = true := by simp at hd; simp [hd]
                  have e1 : vs 1 = (.agg #[.int .i64 a, .slice (some ⟨bf, off, none⟩) ws.length cf]) := hI.get hd0 hI.no
                  have hc := Lib.hid (hcS.out w1 hO)
                  refine ⟨trivial, ?_⟩
                  dsimp only
                  go_wp2_with fail
                  refine hc.out.mono ?_
                  rintro e w9 ⟨rfl, b⟩
                  go_wp2
                  have h := hK (.int .i64 S) w9 (hI.put (k := 2) (v := (.int .i64 S)) b (by omega) rfl trivial)
                  simp only [Act.put, List.setIfInBounds_toArray, List.set_cons_succ, List.set_cons_zero, e1] at h
                  exact h
                · intro ops d vs w1 K hI hcl hk hd hK
                  have hO := hI.old hI.no
                  have hd0 : d 0 = true ∧ d 2 = true := by simp at hd; simp [hd]
                  have e0 : vs 0 = (.int .i64 S) := hI.get hd0.1 hI.no
                  have e2 : vs 2 = (.int .i64 S) := hI.get hd0.2 hI.no
                  refine ⟨trivial, ?_⟩
                  dsimp only
                  go_wp2
                  exact hI.pure_ (k := 3) (v := (.bool true)) (by omega) rfl trivial
                · intro ops d vs w1 K hI hcl hk hd hK
                  have hO := hI.old hI.no
                  have hd0 : d 3 = true := by simp at hd; simp [hd]
                  have e3 : vs 3 = (.bool true) := hI.get hd0 hI.no
                  refine ⟨trivial, ?_⟩
                  dsimp only
                  go_wp2
                  exact hI.pure_ (k := 4) (v := (.bool true)) (by omega) rfl trivial
                · intro ops d vs w1 K hI hcl hk hd hK
                  have hO := hI.old hI.no
                  have hd0 : d 4 = true := by simp at hd; simp [hd]
                  have e4 : vs 4 = (.bool true) := hI.get hd0 hI.no
                  have y0 := (hcell.out w1 hO).1
                  have y1 := (hcell.out w1 hO).2
                  refine ⟨⟨e4, by omega⟩, ?_⟩
                  dsimp only
                  go_wp2
                  exact hI.pure_ (k := 5) (v := (.agg #[.int .i64 a, .slice (some ⟨bf, off, none⟩) ws.length cf])) (by omega) rfl trivial
                · intro ops d vs w1 K hI hcl hk hd hK
                  have hO := hI.old hI.no
                  have hd0 : d 4 = true ∧ d 5 = true := by simp at hd; simp [hd]
                  have e4 : vs 4 = (.bool true) := hI.get hd0.1 hI.no
                  have e5 : vs 5 = (.agg #[.int .i64 a, .slice (some ⟨bf, off, none⟩) ws.length cf]) := hI.get hd0.2 hI.no
                  have hc := Lib.hid (hcH.out w1 hO)
                  refine ⟨⟨e4, by omega⟩, ?_⟩
                  dsimp only
                  go_wp2_with fail
                  refine hc.out.mono ?_
                  rintro e w9 ⟨rfl, b⟩
                  go_wp2
                  have h := hK (.int .i64 (4 + (ws.length : Int))) w9 (hI.put (k := 6) (v := (.int .i64 (4 + (ws.length : Int)))) b (by omega) rfl trivial)
                  simp only [Act.put, List.setIfInBounds_toArray, List.set_cons_succ, List.set_cons_zero, e4, e5] at h
                  exact h
                · intro ops d vs w1 K hI hcl hk hd hK
                  have hO := hI.old hI.no
                  have hd0 : d 4 = true := by simp at hd; simp [hd]
                  have e4 : vs 4 = (.bool true) := hI.get hd0 hI.no
                  refine ⟨⟨e4, by omega⟩, ?_⟩
                  dsimp only
                  go_wp2
                  exact hI.pure_ (k := 7) (v := (.pointer (some ⟨fb, 1, none⟩))) (by omega) rfl trivial
                · intro ops d vs w1 K hI hcl hk hd hK
                  have hO := hI.old hI.no
                  have hd0 : d 4 = true ∧ d 7 = true := by simp at hd; simp [hd]
                  have e4 : vs 4 = (.bool true) := hI.get hd0.1 hI.no
                  have e7 : vs 7 = (.pointer (some ⟨fb, 1, none⟩)) := hI.get hd0.2 hI.no
                  have y0 := (hcell.out w1 hO).1
                  have y1 := (hcell.out w1 hO).2
                  refine ⟨⟨e4, by omega⟩, ?_⟩
                  dsimp only
                  go_wp2
                  exact hI.pure_ (k := 8) (v := (.slice (some ⟨bf, off, none⟩) ws.length cf)) (by omega) rfl trivial
                · intro ops d vs w1 K hI hcl hk hd hK
                  have hO := hI.old hI.no
                  have hd0 : d 4 = true ∧ d 8 = true := by simp at hd; simp [hd]
                  have e4 : vs 4 = (.bool true) := hI.get hd0.1 hI.no
                  have e8 : vs 8 = (.slice (some ⟨bf, off, none⟩) ws.length cf) := hI.get hd0.2 hI.no
                  refine ⟨⟨e4, by omega⟩, ?_⟩
                  dsimp only
                  go_wp2
                  exact hI.pure_ (k := 9) (v := (.int .i64 (ws.length : Int))) (by omega) rfl trivial
                · intro ops d vs w1 K hI hcl hk hd hK
                  have hO := hI.old hI.no
                  have hd0 : d 4 = true ∧ d 9 = true := by simp at hd; simp [hd]
                  have e4 : vs 4 = (.bool true) := hI.get hd0.1 hI.no
                  have e9 : vs 9 = (.int .i64 (ws.length : Int)) := hI.get hd0.2 hI.no
                  refine ⟨⟨e4, by omega⟩, ?_⟩
                  dsimp only
                  go_wp2
                  exact hI.pure_ (k := 10) (v := (.int .i64 (4 + (ws.length : Int)))) (by omega) rfl trivial
                · intro ops d vs w1 K hI hcl hk hd hK
                  have hO := hI.old hI.no
                  have hd0 : d 4 = true ∧ d 6 = true ∧ d 10 = true := by simp at hd; simp [hd]
                  have e4 : vs 4 = (.bool true) := hI.get hd0.1 hI.no
                  have e6 : vs 6 = (.int .i64 (4 + (ws.length : Int))) := hI.get hd0.2.1 hI.no
                  have e10 : vs 10 = (.int .i64 (4 + (ws.length : Int))) := hI.get hd0.2.2 hI.no
                  refine ⟨⟨e4, by omega⟩, ?_⟩
                  dsimp only
                  go_wp2
                  exact hI.pure_ (k := 11) (v := (.bool true)) (by omega) rfl trivial
                · intro ops d vs w1 K hI hcl hk hd hK
                  have hO := hI.old hI.no
                  have hd0 : d 4 = true ∧ d 11 = true := by simp at hd; simp [hd]
                  have e4 : vs 4 = (.bool true) := hI.get hd0.1 hI.no
                  have e11 : vs 11 = (.bool true) := hI.get hd0.2 hI.no
                  refine ⟨trivial, ?_⟩
                  dsimp only
                  go_wp2
                  exact hI.pure_ (k := 12) (v := (.bool true)) (by omega) rfl trivial
                · intro ops d vs w1 K hI hcl hk hd hK
                  have hO := hI.old hI.no
                  have hd0 : d 12 = true := by simp at hd; simp [hd]
                  have e12 : vs 12 = (.bool true) := hI.get hd0 hI.no
                  refine ⟨trivial, ?_⟩
                  dsimp only
                  go_wp2
                  exact hI.pure_ (k := 13) (v := (.bool true)) (by omega) rfl trivial
                · intro ops d vs w1 K hI hcl hk hd hK
                  have hO := hI.old hI.no
                  have hd0 : d 13 = true := by simp at hd; simp [hd]
                  have e13 : vs 13 = (.bool true) := hI.get hd0 hI.no
                  have y0 := (hcell.out w1 hO).1
                  have y1 := (hcell.out w1 hO).2
                  refine ⟨⟨e13, by omega⟩, ?_⟩
                  dsimp only
                  go_wp2
                  exact hI.pure_ (k := 14) (v := (.agg #[.int .i64 a, .slice (some ⟨bf, off, none⟩) ws.length cf])) (by omega) rfl trivial
                · intro ops d vs w1 K hI hcl hk hd hK
                  have hO := hI.old hI.no
                  have hd0 : d 13 = true ∧ d 14 = true := by simp at hd; simp [hd]
                  have e13 : vs 13 = (.bool true) := hI.get hd0.1 hI.no
                  have e14 : vs 14 = (.agg #[.int .i64 a, .slice (some ⟨bf, off, none⟩) ws.length cf]) := hI.get hd0.2 hI.no
                  have hc := Lib.hid (hcN3.out w1 hO)
                  refine ⟨⟨e13, by omega⟩, ?_⟩
                  dsimp only
                  go_wp2_with fail
                  refine hc.out.mono ?_
                  rintro e w9 ⟨rfl, b⟩
                  go_wp2
                  have h := hK (.int .i64 0) w9 (hI.put (k := 15) (v := (.int .i64 0)) b (by omega) rfl trivial)
                  simp only [Act.put, List.setIfInBounds_toArray, List.set_cons_succ, List.set_cons_zero, e13, e14] at h
                  exact h
                · intro ops d vs w1 K hI hcl hk hd hK
                  have hO := hI.old hI.no
                  have hd0 : d 13 = true ∧ d 15 = true := by simp at hd; simp [hd]
                  have e13 : vs 13 = (.bool true) := hI.get hd0.1 hI.no
                  have e15 : vs 15 = (.int .i64 0) := hI.get hd0.2 hI.no
                  refine ⟨⟨e13, by omega⟩, ?_⟩
                  dsimp only
                  go_wp2
                  exact hI.pure_ (k := 16) (v := (.bool true)) (by omega) rfl trivial
                · intro ops d vs w1 K hI hcl hk hd hK
                  have hO := hI.old hI.no
                  have hd0 : d 13 = true ∧ d 16 = true := by simp at hd; simp [hd]
                  have e13 : vs 13 = (.bool true) := hI.get hd0.1 hI.no
                  have e16 : vs 16 = (.bool true) := hI.get hd0.2 hI.no
                  refine ⟨trivial, ?_⟩
                  dsimp only
                  go_wp2
                  exact hI.pure_ (k := 17) (v := (.bool true)) (by omega) rfl trivial
                · intro ops d vs w1 K hI hcl hk hd hK
                  have hO := hI.old hI.no
                  have hd0 : d 17 = true := by simp at hd; simp [hd]
                  have e17 : vs 17 = (.bool true) := hI.get hd0 hI.no
                  refine ⟨trivial, ?_⟩
                  dsimp only
                  go_wp2
                  exact hI.pure_ (k := 18) (v := (.bool true)) (by omega) rfl trivial
                · intro ops d vs w1 K hI hcl hk hd hK
                  have hO := hI.old hI.no
                  have hd0 : d 18 = true := by simp at hd; simp [hd]
                  have e18 : vs 18 = (.bool true) := hI.get hd0 hI.no
                  have y0 := (hcell.out w1 hO).1
                  have y1 := (hcell.out w1 hO).2
                  refine ⟨⟨e18, by omega⟩, ?_⟩
                  dsimp only
                  go_wp2
                  exact hI.pure_ (k := 19) (v := (.agg #[.int .i64 a, .slice (some ⟨bf, off, none⟩) ws.length cf])) (by omega) rfl trivial
                · intro ops d vs w1 K hI hcl hk hd hK
                  have hO := hI.old hI.no
                  have hd0 : d 18 = true ∧ d 19 = true := by simp at hd; simp [hd]
                  have e18 : vs 18 = (.bool true) := hI.get hd0.1 hI.no
                  have e19 : vs 19 = (.agg #[.int .i64 a, .slice (some ⟨bf, off, none⟩) ws.length cf]) := hI.get hd0.2 hI.no
                  have hc := Lib.hid (hcN4.out w1 hO)
                  refine ⟨⟨e18, by omega⟩, ?_⟩
                  dsimp only
                  go_wp2_with fail
                  refine hc.out.mono ?_
                  rintro e w9 ⟨rfl, b⟩
                  go_wp2
                  have h := hK (.int .i64 (a * x0)) w9 (hI.put (k := 20) (v := (.int .i64 (a * x0))) b (by omega) rfl trivial)
                  simp only [Act.put, List.setIfInBounds_toArray, List.set_cons_succ, List.set_cons_zero, e18, e19] at h
                  exact h
                · intro ops d vs w1 K hI hcl hk hd hK
                  have hO := hI.old hI.no
                  have hd0 : d 18 = true := by simp at hd; simp [hd]
                  have e18 : vs 18 = (.bool true) := hI.get hd0 hI.no
                  refine ⟨⟨e18, by omega⟩, ?_⟩
                  dsimp only
                  go_wp2
                  exact hI.pure_ (k := 21) (v := (.pointer (some ⟨fb, 0, none⟩))) (by omega) rfl trivial
                · intro ops d vs w1 K hI hcl hk hd hK
                  have hO := hI.old hI.no
                  have hd0 : d 18 = true ∧ d 21 = true := by simp at hd; simp [hd]
                  have e18 : vs 18 = (.bool true) := hI.get hd0.1 hI.no
                  have e21 : vs 21 = (.pointer (some ⟨fb, 0, none⟩)) := hI.get hd0.2 hI.no
                  have y0 := (hcell.out w1 hO).1
                  have y1 := (hcell.out w1 hO).2
                  refine ⟨⟨e18, by omega⟩, ?_⟩
                  dsimp only
                  go_wp2
                  exact hI.pure_ (k := 22) (v := (.int .i64 a)) (by omega) rfl trivial
                · intro ops d vs w1 K hI hcl hk hd hK
                  have hO := hI.old hI.no
                  have hd0 : d 18 = true := by simp at hd; simp [hd]
                  have e18 : vs 18 = (.bool true) := hI.get hd0 hI.no
                  refine ⟨⟨e18, by omega⟩, ?_⟩
                  dsimp only
                  go_wp2
                  exact hI.pure_ (k := 23) (v := (.pointer (some ⟨fb, 1, none⟩))) (by omega) rfl trivial
                · intro ops d vs w1 K hI hcl hk hd hK
                  have hO := hI.old hI.no
                  have hd0 : d 18 = true ∧ d 23 = true := by simp at hd; simp [hd]
                  have e18 : vs 18 = (.bool true) := hI.get hd0.1 hI.no
                  have e23 : vs 23 = (.pointer (some ⟨fb, 1, none⟩)) := hI.get hd0.2 hI.no
                  have y0 := (hcell.out w1 hO).1
                  have y1 := (hcell.out w1 hO).2
                  refine ⟨⟨e18, by omega⟩, ?_⟩
                  dsimp only
                  go_wp2
                  exact hI.pure_ (k := 24) (v := (.slice (some ⟨bf, off, none⟩) ws.length cf)) (by omega) rfl trivial
                · intro ops d vs w1 K hI hcl hk hd hK
                  have hO := hI.old hI.no
                  have hd0 : d 18 = true ∧ d 24 = true := by simp at hd; simp [hd]
                  have e18 : vs 18 = (.bool true) := hI.get hd0.1 hI.no
                  have e24 : vs 24 = (.slice (some ⟨bf, off, none⟩) ws.length cf) := hI.get hd0.2 hI.no
                  refine ⟨⟨e18, by omega⟩, ?_⟩
                  dsimp only
                  go_wp2
                  exact hI.pure_ (k := 25) (v := (.pointer (some ⟨bf, off, none⟩))) (by omega) rfl trivial
                · intro ops d vs w1 K hI hcl hk hd hK
                  have hO := hI.old hI.no
                  have hd0 : d 18 = true ∧ d 25 = true := by simp at hd; simp [hd]
                  have e18 : vs 18 = (.bool true) := hI.get hd0.1 hI.no
                  have e25 : vs 25 = (.pointer (some ⟨bf, off, none⟩)) := hI.get hd0.2 hI.no
                  have y2 := cell_next hO hcx
                  refine ⟨⟨e18, by omega⟩, ?_⟩
                  dsimp only
                  go_wp2
                  exact hI.pure_ (k := 26) (v := (.int .i64 x0)) (by omega) rfl trivial
                · intro ops d vs w1 K hI hcl hk hd hK
                  have hO := hI.old hI.no
                  have hd0 : d 18 = true ∧ d 22 = true ∧ d 26 = true := by simp at hd; simp [hd]
                  have e18 : vs 18 = (.bool true) := hI.get hd0.1 hI.no
                  have e22 : vs 22 = (.int .i64 a) := hI.get hd0.2.1 hI.no
                  have e26 : vs 26 = (.int .i64 x0) := hI.get hd0.2.2 hI.no
                  refine ⟨⟨e18, by omega⟩, ?_⟩
                  dsimp only
                  go_wp2
                  exact hI.pure_ (k := 27) (v := (.int .i64 (a * x0))) (by omega) rfl trivial
                · intro ops d vs w1 K hI hcl hk hd hK
                  have hO := hI.old hI.no
                  have hd0 : d 18 = true ∧ d 20 = true ∧ d 27 = true := by simp at hd; simp [hd]
                  have e18 : vs 18 = (.bool true) := hI.get hd0.1 hI.no
                  have e20 : vs 20 = (.int .i64 (a * x0)) := hI.get hd0.2.1 hI.no
                  have e27 : vs 27 = (.int .i64 (a * x0)) := hI.get hd0.2.2 hI.no
                  refine ⟨⟨e18, by omega⟩, ?_⟩
                  dsimp only
                  go_wp2
                  exact hI.pure_ (k := 28) (v := (.bool true)) (by omega) rfl trivial
                · intro ops d vs w1 K hI hcl hk hd hK
                  have hO := hI.old hI.no
                  have hd0 : d 18 = true ∧ d 28 = true := by simp at hd; simp [hd]
                  have e18 : vs 18 = (.bool true) := hI.get hd0.1 hI.no
                  have e28 : vs 28 = (.bool true) := hI.get hd0.2 hI.no
                  refine ⟨trivial, ?_⟩
                  dsimp only
                  go_wp2
                  exact hI.pure_ (k := 29) (v := (.bool true)) (by omega) rfl trivial
                · intro ops d vs w1 K hI hcl hk hd hK
                  have hO := hI.old hI.no
                  have hd0 : d 29 = true := by simp at hd; simp [hd]
                  have e29 : vs 29 = (.bool true) := hI.get hd0 hI.no
                  refine ⟨trivial, ?_⟩
                  dsimp only
                  go_wp2
                  exact hI.pure_ (k := 30) (v := (.bool true)) (by omega) rfl trivial
                · intro ops d vs w1 K hI hcl hk hd hK
                  have hO := hI.old hI.no
                  have hd0 : d 30 = true := by simp at hd; simp [hd]
                  have e30 : vs 30 = (.bool true) := hI.get hd0 hI.no
                  refine ⟨⟨e30, by omega⟩, ?_⟩
                  dsimp only
                  go_wp2
                  exact hI.pure_ (k := 31) (v := (.int .i64 tb)) (by omega) rfl trivial
                · intro ops d vs w1 K hI hcl hk hd hK
                  have hO := hI.old hI.no
                  have hd0 : d 30 = true := by simp at hd; simp [hd]
                  have e30 : vs 30 = (.bool true) := hI.get hd0 hI.no
                  refine ⟨⟨e30, by omega⟩, ?_⟩
                  dsimp only
                  go_wp2
                  exact hI.pure_ (k := 32) (v := (.int .i64 p)) (by omega) rfl trivial
                · intro ops d vs w1 K hI hcl hk hd hK
                  have hO := hI.old hI.no
                  have hd0 : d 30 = true := by simp at hd; simp [hd]
                  have e30 : vs 30 = (.bool true) := hI.get hd0 hI.no
                  have y0 := (hcell.out w1 hO).1
                  have y1 := (hcell.out w1 hO).2
                  refine ⟨⟨e30, by omega⟩, ?_⟩
                  dsimp only
                  go_wp2
                  exact hI.pure_ (k := 33) (v := (.agg #[.int .i64 a, .slice (some ⟨bf, off, none⟩) ws.length cf])) (by omega) rfl trivial
                · intro ops d vs w1 K hI hcl hk hd hK
                  have hO := hI.old hI.no
                  have hd0 : d 30 = true ∧ d 33 = true := by simp at hd; simp [hd]
                  have e30 : vs 30 = (.bool true) := hI.get hd0.1 hI.no
                  have e33 : vs 33 = (.agg #[.int .i64 a, .slice (some ⟨bf, off, none⟩) ws.length cf]) := hI.get hd0.2 hI.no
                  refine ⟨⟨e30, by omega⟩, ?_⟩
                  dsimp only
                  go_wp2
                  exact hI.put (k := 34) (v := (.slice (some ⟨w1.heap.size, 0, none⟩) 1 1)) ((Below.refl w1.heap.size w1).alloc (Nat.le_refl _) (.cells #[.int .i64 a, .slice (some ⟨bf, off, none⟩) ws.length cf] 27)) (by omega) ⟨w1.heap.size, rfl, hO.size, Blk.new w1 _ _⟩ trivial
                · intro ops d vs w1 K hI hcl hk hd hK
                  have hO := hI.old hI.no
                  have hd0 : d 30 = true := by simp at hd; simp [hd]
                  have e30 : vs 30 = (.bool true) := hI.get hd0 hI.no
                  refine ⟨⟨e30, by omega⟩, ?_⟩
                  dsimp only
                  go_wp2
                  exact hI.put (k := 35) (v := (.slice (some ⟨w1.heap.size, 0, none⟩) 1 1)) ((Below.refl w1.heap.size w1).alloc (Nat.le_refl _) (.cells #[.int .i64 0] 3)) (by omega) ⟨w1.heap.size, rfl, hO.size, Blk.new w1 _ _⟩ trivial
                · intro ops d vs w1 K hI hcl hk hd hK
                  have hO := hI.old hI.no
                  have hd0 : d 30 = true := by simp at hd; simp [hd]
                  have e30 : vs 30 = (.bool true) := hI.get hd0 hI.no
                  have hd34 : d 34 = true := by simp at hd; simp [hd]
                  have hd35 : d 35 = true := by simp at hd; simp [hd]
                  have hc := Lib.hid (hcP.out w1 hO (vs 34) (vs 35) (hI.get hd34 hk) (hI.get hd35 hk))
                  refine ⟨⟨e30, by omega⟩, ?_⟩
                  dsimp only
                  go_wp2_with fail
                  refine hc.out.mono ?_
                  rintro e w9 ⟨rfl, b⟩
                  go_wp2
                  have h := hK (.int .i64 q) w9 (hI.put (k := 36) (v := (.int .i64 q)) b (by omega) rfl trivial)
                  simp only [Act.put, List.setIfInBounds_toArray, List.set_cons_succ, List.set_cons_zero, e30] at h
                  exact h
                · intro ops d vs w1 K hI hcl hk hd hK
                  have hO := hI.old hI.no
                  have hd0 : d 30 = true ∧ d 32 = true ∧ d 36 = true := by simp at hd; simp [hd]
                  have e30 : vs 30 = (.bool true) := hI.get hd0.1 hI.no
                  have e32 : vs 32 = (.int .i64 p) := hI.get hd0.2.1 hI.no
                  have e36 : vs 36 = (.int .i64 q) := hI.get hd0.2.2 hI.no
                  refine ⟨⟨e30, by omega⟩, ?_⟩
                  dsimp only
                  go_wp2
                  exact hI.pure_ (k := 37) (v := (.int .i64 (p + q))) (by omega) rfl trivial
                · intro ops d vs w1 K hI hcl hk hd hK
                  have hO := hI.old hI.no
                  have hd0 : d 30 = true ∧ d 31 = true ∧ d 37 = true := by simp at hd; simp [hd]
                  have e30 : vs 30 = (.bool true) := hI.get hd0.1 hI.no
                  have e31 : vs 31 = (.int .i64 tb) := hI.get hd0.2.1 hI.no
                  have e37 : vs 37 = (.int .i64 (p + q)) := hI.get hd0.2.2 hI.no
                  refine ⟨⟨e30, by omega⟩, ?_⟩
                  dsimp only
                  go_wp2
                  exact hI.pure_ (k := 38) (v := (.bool true)) (by omega) rfl trivial
                · intro ops d vs w1 K hI hcl hk hd hK
                  have hO := hI.old hI.no
                  have hd0 : d 30 = true ∧ d 38 = true := by simp at hd; simp [hd]
                  have e30 : vs 30 = (.bool true) := hI.get hd0.1 hI.no
                  have e38 : vs 38 = (.bool true) := hI.get hd0.2 hI.no
                  refine ⟨trivial, ?_⟩
                  dsimp only
                  go_wp2
                  exact hI.pure_ (k := 39) (v := (.bool true)) (by omega) rfl trivial
                · intro ops d vs w1 K hI hcl hk hd hK
                  have hO := hI.old hI.no
                  have hd0 : d 39 = true := by simp at hd; simp [hd]
                  have e39 : vs 39 = (.bool true) := hI.get hd0 hI.no
                  refine ⟨trivial, ?_⟩
                  dsimp only
                  go_wp2
                  exact hI.pure_ (k := 40) (v := (.bool true)) (by omega) rfl trivial
                · intro ops d vs w1 K hI hcl hk hd hK
                  have hO := hI.old hI.no
                  have hd0 : d 40 = true := by simp at hd; simp [hd]
                  have e40 : vs 40 = (.bool true) := hI.get hd0 hI.no
                  have y0 := (hcell.out w1 hO).1
                  have y1 := (hcell.out w1 hO).2
                  refine ⟨⟨e40, by omega⟩, ?_⟩
                  dsimp only
                  go_wp2
                  exact hI.pure_ (k := 41) (v := (.agg #[.int .i64 a, .slice (some ⟨bf, off, none⟩) ws.length cf])) (by omega) rfl trivial
                · intro ops d vs w1 K hI hcl hk hd hK
                  have hO := hI.old hI.no
                  have hd0 : d 40 = true ∧ d 41 = true := by simp at hd; simp [hd]
                  have e40 : vs 40 = (.bool true) := hI.get hd0.1 hI.no
                  have e41 : vs 41 = (.agg #[.int .i64 a, .slice (some ⟨bf, off, none⟩) ws.length cf]) := hI.get hd0.2 hI.no
                  have hc := Lib.hid (hcF.out w1 hO)
                  refine ⟨⟨e40, by omega⟩, ?_⟩
                  dsimp only
                  go_wp2_with fail
                  refine hc.out.mono ?_
                  rintro e w9 ⟨rfl, b⟩
                  go_wp2
                  have h := hK (.bool true) w9 (hI.put (k := 42) (v := (.bool true)) b (by omega) rfl trivial)
                  simp only [Act.put, List.setIfInBounds_toArray, List.set_cons_succ, List.set_cons_zero, e40, e41] at h
                  exact h
                · intro ops d vs w1 K hI hcl hk hd hK
                  have hO := hI.old hI.no
                  have hd0 : d 40 = true ∧ d 42 = true := by simp at hd; simp [hd]
                  have e40 : vs 40 = (.bool true) := hI.get hd0.1 hI.no
                  have e42 : vs 42 = (.bool true) := hI.get hd0.2 hI.no
                  refine ⟨trivial, ?_⟩
                  dsimp only
                  go_wp2
                  exact hI.pure_ (k := 43) (v := (.bool true)) (by omega) rfl trivial
                · intro ops d vs w1 K hI hcl hk hd hK
                  have hO := hI.old hI.no
                  have hd0 : d 43 = true := by simp at hd; simp [hd]
                  have e43 : vs 43 = (.bool true) := hI.get hd0 hI.no
                  refine ⟨trivial, ?_⟩
                  dsimp only
                  go_wp2
                  exact hI.pure_ (k := 44) (v := (.bool true)) (by omega) rfl trivial
              · intro d vs w1 hI hd
                have e44 : vs 44 = .bool true := hI.get (hd 44 (by decide)) hI.no
                replace H := chain H (hI.old hI.no) (Nat.le_refl _)
                rw [e44]
                clear hI hd e44
                go_wp2
                go_ret
                exact ⟨rfl, H⟩
  · have hd := Lib.hid (show decide ((1048576 : Int) < code.length) = true from decide_eq_true (by omega))
    go_enter Try.func9, Try.ntmps9
    go_wp2_with fail
    refine (big_c _ _ _ _).mono ?_
    rintro e w' ⟨rfl, rfl⟩
    rw [hd.out]
    go_wp2
    go_ret
    exact ⟨rfl, Below.refl _ _⟩
set_option maxRecDepth 100000 in
theorem FnFields_lifted (os : Os) (started : os.Started) (H : Type) (enc : TypeId × Value → H) :
    ReturnsInHanded {} Try.checked os 9 .any (Rows.fnFieldsSpec.pre6 enc Try.prog Try.f9 Rows.fnFieldsRow.domain false) (Rows.fnFieldsSpec.post enc Try.prog Try.f9 false true false false) := by
  refine returnsInHanded_of_change (C := Try.checked) own_ started (by kernel_rfl) Try.func9
    (ChangeSpec.witness6 (enc := enc) (C := Try.checked) false ⟨#[], #[.slice none 0 0], []⟩ 8 (by kernel_rfl) (by kernel_rfl) (by kernel_rfl) (by kernel_rfl)) ?_
  intro W base args ds gs before hval0 hW hcnd _
  have hval : ∀ (j : Nat) t v, Try.f9.params[j]? = some t → args[j]? = some v → Value.okWide Try.prog W .any base t v := hval0
  have hW' := hW
  obtain ⟨p, q, hA0, hV, rfl, hfz, hnd⟩ := hW
  have hA : DataW.TrodAll enc Try.prog W 0 (fun _ => true) true Try.f9.params.toList args.toList ds p := hA0
  rw [Try.params9] at hA hval
  obtain ⟨v0, vs0, d0, ds0, p0, q0, hargs, rfl, rfl, h0, r0⟩ := trodAll_cons hA
  obtain ⟨rfl, rfl, rfl⟩ := trodAll_nil r0
  obtain rfl : args = #[v0] := by cases args; simp_all
  obtain ⟨rfl, rfl⟩ := trodVars_none hV
  have k0 := h0
  have lt0 : ∀ x ∈ p0, x.block < W.heap.size := by obtain ⟨m, hm⟩ := k0; exact DataW.trod_lt m _ _ _ hm
  obtain ⟨s0, len0, cap0, rfl⟩ := okWide_slice Try.underlying47 (hval 0 47 v0 rfl rfl)
  obtain ⟨x0, rfl, m0, r_0⟩ : ∃ zs : List Int, len0 = zs.length ∧ zs.length ≤ maxLen ∧ RdB W W.heap.size s0 zs := by
    obtain ⟨fuel, hf⟩ := h0
    rcases open_ints Try.underlying47 Try.underlying5 (by kernel_rfl) hf with ⟨hcs, _⟩ | ⟨x, l, c, zs, hcs, _, hl, hm, hz, _, hcell, hwz⟩
    · simp [Value.cells] at hcs
      obtain ⟨rfl, rfl, rfl⟩ := hcs
      exact ⟨[], rfl, Nat.zero_le _, .inl rfl⟩
    · simp [Value.cells] at hcs
      obtain ⟨rfl, rfl, rfl⟩ := hcs
      have hlz : len0 ≤ zs.length := by simp only [if_true] at hz; omega
      exact ⟨zs.take len0, by simp; omega, by simp; omega, RdB.of_open hcell hwz⟩
  clear hA0 hval0
  refine (FnFields_walk s0 cap0 x0 W m0 r_0).mono fun e W' ⟨he, bel⟩ => ?_
  subst he
  exact ⟨_, rfl, _, _, _, [], _, [], hW', trodAll_mk1 (shut_bool Try.underlying4 _), (trodAll_cons_mk (Below.trod laidOut_ (by kernel_rfl) (of_decide_eq_true (by kernel_rfl)) k0 bel lt0) trodAll_mk0), rfl, bel.frame _, fun h => by cases h⟩

theorem FnFields_over : Rows.fnFieldsRow.holds Try.pinned (OpenSpec.ofChange Rows.fnFieldsSpec) :=
  OpenClaim.holds_of_wide 9 Try.f9 rfl rfl rfl rfl rfl rfl rfl ⟨rfl, rfl, rfl, rfl, rfl⟩ rfl rfl rfl rfl rfl (by kernel_rfl) Try.func9 (by kernel_rfl)
    (of_decide_eq_true (by kernel_rfl)) (by unfold Func.isWrapper; first | (rw [if_pos (by decide +kernel)]; kernel_rfl) | (rw [if_neg (by decide +kernel)]; exact ⟨rfl, rfl⟩))
    (fun os started H enc _ => FnFields_lifted os started H enc)

theorem FnFields_proved : Rows.FnFieldsSaid := FnFields_over
end Go.Proofs.Ytkbgifnmcklmiaa
