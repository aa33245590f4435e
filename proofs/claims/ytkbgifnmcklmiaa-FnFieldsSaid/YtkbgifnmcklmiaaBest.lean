/- BestStart, both. -/
import Derived.Test.YtkbgifnmcklmiaaPeak
import Derived.Test.YtkbgifnmcklmiaaFact
import Derived.Test.YtkbgifnmcklmiaaOwn2
namespace Go.Proofs.Ytkbgifnmcklmiaa
open Go.ChangeShapes Go.WideShapes Go.ChangeAt Go.RowKit
set_option linter.unusedVariables false

theorem rowFld : RowT 39 27 2 32 := ⟨Try.underlying39, by
  obtain ⟨i0, hi, hz0, hz1, hz2⟩ := info_parts (show (Try.prog.info? 27).map (fun i => (i.zero, i.size, i.bytes)) = some (some (.agg #[.int .i64 0, .slice none 0 0]), 2, 32) by kernel_rfl)
  exact ⟨i0, _, hi, hz0, hz1, hz2, rfl⟩, by omega, by omega⟩
theorem RdF.toV {w : World} {B : Nat} {A : Option Addr} {fs : List Fd} (h : RdF w B A fs) : RdV w B A (fcells fs) := by
  rcases h.1 with e | ⟨b, off, e, hb, hc⟩
  · subst e; exact .inl rfl
  · refine .inr ⟨b, off, e, hb, fun k u hk => ?_⟩
    have hkl : k < fs.length * 2 := by have := (List.getElem?_eq_some_iff.1 hk).1; rwa [fcells_length] at this
    have hx : fs[k / 2]? = some fs[k / 2] := List.getElem?_eq_getElem (by omega)
    obtain ⟨g0, g1⟩ := fcells_get fs (k / 2) _ hx
    obtain ⟨c0, c1⟩ := hc (k / 2) _ hx
    rcases Nat.mod_two_eq_zero_or_one k with e | e
    · have ei : k / 2 * 2 = k := by omega
      rw [ei] at g0 c0
      rw [c0, ← g0, hk]
    · have ei : k / 2 * 2 + 1 = k := by omega
      rw [ei] at g1
      rw [Nat.add_assoc, ei] at c1
      rw [c1, ← g1, hk]
theorem RdF.ofV {w : World} {B : Nat} {A : Option Addr} {fs : List Fd} (h : RdV w B A (fcells fs)) (hi : RdIn w B fs) : RdF w B A fs := by
  refine ⟨?_, hi⟩
  rcases h with e | ⟨b, off, e, hb, hc⟩
  · left
    have := fcells_length fs
    rw [e] at this
    exact List.eq_nil_of_length_eq_zero (by simp at this; omega)
  · refine .inr ⟨b, off, e, hb, fun k f hk => ?_⟩
    obtain ⟨g0, g1⟩ := fcells_get fs k f hk
    exact ⟨hc _ _ g0, by have := hc _ _ g1; rw [← Nat.add_assoc] at this; exact this⟩

set_option maxHeartbeats 4000000 in
theorem iBest_all (A : Option Addr) (c : Nat) (fs : List Fd) (A' : Option Addr) (c' : Nat) (ss : List Int) (a : Int) (Aw : Option Addr) (cw : Nat) (ws : List Int) (last : Int) (w : World) (hr : RdF w w.heap.size A fs) (hl : fs.length ≤ 1048576) (hfl : ∀ f ∈ fs, f.ws.length ≤ 1048576) (hs : RdI w w.heap.size A' ss) (hsl : ss.length ≤ 1048576) (hw : RdI w w.heap.size Aw ws) (hwl : ws.length ≤ 1048576) :
    Calls Try.prog 29 #[.slice A fs.length c, .slice A' ss.length c', .agg #[.int .i64 a, Value.slice Aw ws.length cw], .int .i64 last] w fun e w' => e = .returned (.int .i64 (bestZ (vals fs) ss (a, ws) last)) ∧ Below w.heap.size w w' := by
  have P := Blk.new w 27 #[.int .i64 a, Value.slice Aw ws.length cw]
  have H := (Below.refl w.heap.size w).alloc (Nat.le_refl _) (.cells #[.int .i64 a, Value.slice Aw ws.length cw] 27)
  obtain ⟨p0, p1, -, -, pL⟩ := P.two
  cases hlast : inB last 0 52
  · rw [best_no hlast]
    go_enter Try.func29, Try.ntmps29
    go_wp2_with fail
    refine (within_c _ _ _ _).mono ?_
    rintro e w' ⟨rfl, rfl⟩
    go_wp2
    go_ret
    exact ⟨rfl, H⟩
  · rw [best_go hlast]
    have hfl' := Lib.hid hfl
    obtain ⟨l0, l1⟩ := (inB_iff _ _ _).1 hlast
    obtain ⟨L, rfl⟩ := Int.eq_ofNat_of_zero_le l0
    rw [Int.toNat_natCast]
    go_enter Try.func29, Try.ntmps29
    go_wp2_with fail
    refine (within_c _ _ _ _).mono ?_
    rintro e w' ⟨rfl, rfl⟩
    go_wp2
    have hr2 := Lib.hid (hr.step H)
    have hw2 := Lib.hid (hw.step H)
    have hs2 := Lib.hid (hs.step H)
    clear hr hs hw
    generalize w.alloc (.cells #[.int .i64 a, Value.slice Aw ws.length cw] 27) = W at *
    refine wp_region_facts W.heap.size 999 [Fact.val (.slice A fs.length c), Fact.own W.heap.size 27 2 fs.length (fcells fs), Fact.val (.agg #[.int .i64 a, Value.slice Aw ws.length cw]), Fact.blk W.heap.size 27 1 #[.int .i64 a, Value.slice Aw ws.length cw], Fact.own W.heap.size 27 2 (fs.length + 1) (fcells fs ++ [Value.int .i64 a, Value.slice Aw ws.length cw]), Fact.own W.heap.size 27 2 (fs.length + 1) (fcells fs ++ [Value.int .i64 a, Value.slice Aw ws.length cw])]
      (fun j => match j with | 1 => 4 | 3 => 4 | _ => 999) (fun _ _ _ => True) (by kernel_rfl) (by kernel_rfl) (fun _ => trivial) ?_ ?_
    · refine ⟨?_, ?_, ?_, ?_, ?_, ?_, trivial⟩
      · intro d vs w1 hI hcl hk hd
        simp only [putAll, Act.put]
        go_wp2
        exact ⟨.slice A fs.length c, rfl, hI.pure_ (by omega) rfl trivial⟩
      · intro d vs w1 hI hcl hk hd
        have hd0 : d 0 = true := by simpa using hd
        have e0 : vs 0 = .slice A fs.length c := hI.get hd0 hI.no
        simp only [putAll, Act.put, List.setIfInBounds_toArray, List.set_cons_succ, List.set_cons_zero]
        have hv : RdV w1 w1.heap.size A (fcells fs) := RdV.step hr2.out.toV (hI.old hI.no)
        refine wpList_append_v rowFld _ rfl (.const (.slice none 0 0)) (.tmp 17) rfl W.heap.size none 0 0 [] rfl (OwnV.nil _ _ _ _) w1.heap.size A fs.length c (fcells fs) (fcells_length fs) e0 hv (fcells_one fs) (by omega) (hI.old hI.no).size ?_
        intro A1 c1 w2 hown hg hat
        rw [List.nil_append, Nat.zero_add] at hown
        exact ⟨.slice A1 (0 + fs.length) c1, rfl, hI.put (grown_below hg (by simp [Value.ownBlock]) (Nat.le_refl _)) (by omega) ⟨A1, c1, by rw [Nat.zero_add], hown⟩ trivial⟩
      · intro d vs w1 hI hcl hk hd
        have q0 := cell_next (hI.old hI.no) p0
        have q1 := cell_next (hI.old hI.no) p1
        simp only [putAll, Act.put]
        go_wp2
        exact ⟨.agg #[.int .i64 a, Value.slice Aw ws.length cw], rfl, hI.pure_ (by omega) rfl trivial⟩
      · intro d vs w1 hI hcl hk hd
        have hd0 : d 2 = true := by simpa using hd
        have e0 : vs 2 = .agg #[.int .i64 a, Value.slice Aw ws.length cw] := hI.get hd0 hI.no
        simp only [putAll, Act.put, List.setIfInBounds_toArray, List.set_cons_succ, List.set_cons_zero]
        go_wp2
        exact ⟨.slice (some ⟨w1.heap.size, 0, none⟩) 1 1, by simp only [e0]; rfl, hI.put ((Below.refl _ _).alloc (Nat.le_refl _) _) (by omega) ⟨_, rfl, (hI.old hI.no).size, Blk.new _ _ _⟩ trivial⟩
      · intro d vs w1 hI hcl hk hd
        have hd0 : d 1 = true ∧ d 3 = true := by simp at hd; exact ⟨hd.1, hd.2.1⟩
        obtain ⟨A1, c1, e1, hown⟩ : (Fact.own W.heap.size 27 2 fs.length (fcells fs)).P (vs 1) w1 := hI.get hd0.1 hk
        obtain ⟨g, e3, hgW, B⟩ : (Fact.blk W.heap.size 27 1 #[.int .i64 a, Value.slice Aw ws.length cw]).P (vs 3) w1 := hI.get hd0.2 hk
        simp only [putAll, Act.put, List.setIfInBounds_toArray, List.set_cons_succ, List.set_cons_zero]
        refine wpList_append_v rowFld _ rfl (.tmp 18) (.tmp 20) rfl W.heap.size A1 fs.length c1 (fcells fs) e1 hown w1.heap.size (some ⟨g, 0, none⟩) 1 1 [Value.int .i64 a, Value.slice Aw ws.length cw] rfl e3 (RdV.of_blk B) (by intro u hu; simp at hu; rcases hu with rfl | rfl <;> rfl) (by omega) (hI.old hI.no).size ?_
        intro A2 c2 w2 hown2 hg hat
        exact ⟨.slice A2 (fs.length + 1) c2, rfl, hI.row (k := 4) hg hown.row_ge (by omega) ⟨A2, c2, rfl, hown2⟩ (fun j hj hjk hdk _ _ => by
          match j, hjk, hdk with
          | 0, _, _ => exact .inl rfl
          | 2, _, _ => exact .inl rfl
          | 1, _, h => exact absurd rfl h
          | 3, _, h => exact absurd rfl h
          | 4, h, _ => exact absurd rfl h
          | 5, _, _ => exact absurd (hcl 5 _ rfl hj) (by simp [hk])
          | n + 6, _, _ => exact .inl rfl) trivial⟩
      · intro d vs w1 hI hcl hk hd
        have hd0 : d 4 = true := by simp at hd; exact hd.1
        obtain ⟨A1, c1, e1, hown⟩ : (Fact.own W.heap.size 27 2 (fs.length + 1) (fcells fs ++ [Value.int .i64 a, Value.slice Aw ws.length cw])).P (vs 4) w1 := hI.get hd0 hI.no
        simp only [putAll, Act.put, List.setIfInBounds_toArray, List.set_cons_succ, List.set_cons_zero]
        go_wp2
        exact ⟨.slice A1 (fs.length + 1) c1, by simp only [e1]; rfl, hI.pure_ (by omega) ⟨A1, c1, rfl, hown⟩ trivial⟩
    · intro d vs w1 hI hd
      obtain ⟨A1, c1, e1, hown⟩ : (Fact.own W.heap.size 27 2 (fs.length + 1) (fcells fs ++ [Value.int .i64 a, Value.slice Aw ws.length cw])).P (vs 5) w1 := hI.get (hd 5 (by decide)) hI.no
      obtain ⟨gs, hgs⟩ : ∃ gs, fs ++ [(⟨a, Aw, cw, ws⟩ : Fd)] = gs := ⟨_, rfl⟩
      have hgl : gs.length = fs.length + 1 := by rw [← hgs]; simp
      have hgv := Lib.hid (show vals gs = vals fs ++ [(a, ws)] by rw [← hgs]; simp [vals, Fd.val])
      have hgc : fcells gs = fcells fs ++ [Value.int .i64 a, Value.slice Aw ws.length cw] := by rw [← hgs, fcells_append]; rfl
      have hgf := Lib.hid (show ∀ f ∈ gs, f.ws.length ≤ 1048576 by
        intro f hf
        rw [← hgs] at hf
        rcases List.mem_append.1 hf with hf | hf
        · exact hfl'.out f hf
        · rw [List.mem_singleton] at hf; subst hf; exact hwl)
      have hgr := Lib.hid (show RdF w1 w1.heap.size A1 gs from RdF.ofV (by rw [hgc]; exact hown.rd) (by
        have hin : RdIn W W.heap.size gs := by
          intro f hf
          rw [← hgs] at hf
          rcases List.mem_append.1 hf with hf | hf
          · exact hr2.out.2 f hf
          · rw [List.mem_singleton] at hf; subst hf; exact hw2.out
        exact hin.step (hI.old hI.no)))
      have hs3 := Lib.hid (hs2.out.step (hI.old hI.no))
      replace H := chain H (hI.old hI.no) (Nat.le_refl _)
      rw [← hgl] at e1
      replace hgs := Lib.hid hgs
      replace hgl := Lib.hid hgl
      replace hd := Lib.hid hd
      clear hown hgc hr2 hw2 hs2 hfl hfl'
      have hT0 := Lib.hid (bestR_least (tryZ (vals fs) ss (a, ws)) (L + 1) 0 0 (-1))
      simp only [putAll, Act.put, List.setIfInBounds_toArray, List.set_cons_succ, List.set_cons_zero, e1]
      clear hI e1 hd hgs p0 p1 P
      generalize vs 0 = z0
      generalize vs 1 = z1
      generalize vs 2 = z2
      generalize vs 3 = z3
      generalize vs 4 = z4
      go_wp2
      go_loopw [10, 11, 12] (fun be pk st wr => ∃ (k : Nat) (b p : Int), k ≤ L + 1 ∧ st = .int .i64 k ∧ be = .int .i64 b ∧ pk = .int .i64 p ∧ -1 ≤ b ∧ b ≤ 52 ∧ -1 ≤ p ∧ p ≤ 600000 ∧ Hid (bestR (tryZ (vals fs) ss (a, ws)) (L + 1) 0 (-1) 0 = bestR (tryZ (vals fs) ss (a, ws)) (L + 1 - k) k b p) ∧ Below w1.heap.size w1 wr ∧ Below w.heap.size w wr) (fun _ _ st _ => L + 1 - (intOf st).toNat)
      case atStart => exact ⟨0, -1, -1, Nat.zero_le _, rfl, rfl, rfl, by omega, by omega, by omega, by omega, hT0.out, Below.refl _ _, H⟩
      case round =>
        clear H
        obtain ⟨k, b, p, hk, rfl, rfl, rfl, b0, b1, p0, p1, hq, H1, H⟩ := hrel
        by_cases hlt : k < L + 1
        · have hkI : (k : Int) ≤ (L : Int) := by omega
          have hq2 : Hid (bestR (tryZ (vals fs) ss (a, ws)) (L + 1) 0 (-1) 0 = bestR (tryZ (vals fs) ss (a, ws)) ((L + 1 - (k + 1)) + 1) k b p) := by rw [hq.out, show L + 1 - k = (L + 1 - (k + 1)) + 1 by omega]; exact Lib.hid rfl
          have hT := Lib.hid (show peakZ (vals gs) (ss ++ [(k : Int)]) = tryZ (vals fs) ss (a, ws) k by rw [hgv.out]; rfl)
          have hTb := Lib.hid (peakZ_b (vals gs) (ss ++ [(k : Int)]))
          rw [hT.out] at hTb
          clear hq
          obtain ⟨T, hTT⟩ : ∃ T, tryZ (vals fs) ss (a, ws) = T := ⟨_, rfl⟩
          rw [hTT] at hT hTb
          replace hTT := Lib.hid hTT
          obtain ⟨T0, T1⟩ := hTb.out
          by_cases hneg : T k < 0
          · have hfin := Lib.hid (show bestR (tryZ (vals fs) ss (a, ws)) (L + 1) 0 (-1) 0 = -1 by rw [hq2.out, hTT.out]; exact bestR_no hneg)
            clear hq2
            generalize T k = v at *
            go_wp2_with fail
            refine (copyInts_c A' c' ss _ (hs3.out.step H1) hsl).mono ?_
            rintro e w2 ⟨A2, c2, rfl, hO, b2⟩
            have hblk := Blk.new w2 3 #[.int .i64 (k : Int)]
            have b2a := b2.alloc b2.size (.cells #[.int .i64 (k : Int)] 3)
            have hOa : OwnI (w2.alloc (.cells #[.int .i64 (k : Int)] 3)) wr.heap.size A2 c2 ss := OwnI.alloc hO _
            have hszb := b2.size
            clear hO b2
            go_wp2_with (at_builtin; refine wpList_append_rd _ rfl (.tmp 29) (.tmp 31) rfl wr.heap.size A2 ss.length c2 ss rfl rfl hOa (w2.alloc (.cells #[.int .i64 (k : Int)] 3)).heap.size (some ⟨w2.heap.size, 0, none⟩) 1 1 [(k : Int)] rfl rfl (RdI.of_ints hblk) (by simp; omega) (by simp; omega) ?_; intro A3 c3 w3 hO3 hg3 hat3)
            have b3 : Below wr.heap.size wr w3 := b2a.grown hg3 b2a.size hOa.row_ge
            obtain ⟨s2, hs2⟩ : ∃ s2, ss ++ [(k : Int)] = s2 := ⟨_, rfl⟩
            have hl2 : ss.length + 1 = s2.length := by rw [← hs2]; simp
            rw [hs2] at hO3 hT
            rw [hl2]
            have hl3 : s2.length ≤ 2000000 := by omega
            replace hl2 := Lib.hid hl2
            replace hs2 := Lib.hid hs2
            replace H1 := chain H1 b3 (Nat.le_refl _)
            replace H := chain H b3 (Nat.le_refl _)
            have hO4 := hO3.rd
            clear hblk b2a hOa hszb hg3 hat3 b3 hO3
            go_wp2_with fail
            refine (iPeak_c A1 c1 gs A3 c3 s2 _ (hgr.out.step H1) (by have := hgl.out; omega) hgf.out hO4 hl3).mono ?_
            rintro e w4 ⟨rfl, b4⟩
            rw [hT.out]
            replace H1 := chain H1 b4 (Nat.le_refl _)
            replace H := chain H b4 (Nat.le_refl _)
            clear b4 hO4
            go_wp2
            go_ret
            exact ⟨by rw [hfin.out]; rfl, H⟩
          · by_cases hb : b < 0
            · have hnx := Lib.hid (show bestR (tryZ (vals fs) ss (a, ws)) (L + 1) 0 (-1) 0 = bestR (tryZ (vals fs) ss (a, ws)) (L + 1 - (k + 1)) ((k : Int) + 1) k (T k) by rw [hq2.out, hTT.out]; exact bestR_new rfl hneg (.inl hb))
              clear hq2
              generalize T k = v at *
              go_wp2_with fail
              refine (copyInts_c A' c' ss _ (hs3.out.step H1) hsl).mono ?_
              rintro e w2 ⟨A2, c2, rfl, hO, b2⟩
              have hblk := Blk.new w2 3 #[.int .i64 (k : Int)]
              have b2a := b2.alloc b2.size (.cells #[.int .i64 (k : Int)] 3)
              have hOa : OwnI (w2.alloc (.cells #[.int .i64 (k : Int)] 3)) wr.heap.size A2 c2 ss := OwnI.alloc hO _
              have hszb := b2.size
              clear hO b2
              go_wp2_with (at_builtin; refine wpList_append_rd _ rfl (.tmp 29) (.tmp 31) rfl wr.heap.size A2 ss.length c2 ss rfl rfl hOa (w2.alloc (.cells #[.int .i64 (k : Int)] 3)).heap.size (some ⟨w2.heap.size, 0, none⟩) 1 1 [(k : Int)] rfl rfl (RdI.of_ints hblk) (by simp; omega) (by simp; omega) ?_; intro A3 c3 w3 hO3 hg3 hat3)
              have b3 : Below wr.heap.size wr w3 := b2a.grown hg3 b2a.size hOa.row_ge
              obtain ⟨s2, hs2⟩ : ∃ s2, ss ++ [(k : Int)] = s2 := ⟨_, rfl⟩
              have hl2 : ss.length + 1 = s2.length := by rw [← hs2]; simp
              rw [hs2] at hO3 hT
              rw [hl2]
              have hl3 : s2.length ≤ 2000000 := by omega
              replace hl2 := Lib.hid hl2
              replace hs2 := Lib.hid hs2
              replace H1 := chain H1 b3 (Nat.le_refl _)
              replace H := chain H b3 (Nat.le_refl _)
              have hO4 := hO3.rd
              clear hblk b2a hOa hszb hg3 hat3 b3 hO3
              go_wp2_with fail
              refine (iPeak_c A1 c1 gs A3 c3 s2 _ (hgr.out.step H1) (by have := hgl.out; omega) hgf.out hO4 hl3).mono ?_
              rintro e w4 ⟨rfl, b4⟩
              rw [hT.out]
              replace H1 := chain H1 b4 (Nat.le_refl _)
              replace H := chain H b4 (Nat.le_refl _)
              clear b4 hO4
              go_wp2
              go_roundw
              case rel => exact ⟨k + 1, k, v, by omega, by go_num, rfl, rfl, by omega, by omega, by omega, by omega, by have := hnx.out; exact Lib.hid (by rw [this]; congr 1), H1, H⟩
              case measure => simp [intOf]; omega
            · by_cases hp : T k < p
              · have hnx := Lib.hid (show bestR (tryZ (vals fs) ss (a, ws)) (L + 1) 0 (-1) 0 = bestR (tryZ (vals fs) ss (a, ws)) (L + 1 - (k + 1)) ((k : Int) + 1) k (T k) by rw [hq2.out, hTT.out]; exact bestR_new rfl hneg (.inr hp))
                clear hq2
                generalize T k = v at *
                go_wp2_with fail
                refine (copyInts_c A' c' ss _ (hs3.out.step H1) hsl).mono ?_
                rintro e w2 ⟨A2, c2, rfl, hO, b2⟩
                have hblk := Blk.new w2 3 #[.int .i64 (k : Int)]
                have b2a := b2.alloc b2.size (.cells #[.int .i64 (k : Int)] 3)
                have hOa : OwnI (w2.alloc (.cells #[.int .i64 (k : Int)] 3)) wr.heap.size A2 c2 ss := OwnI.alloc hO _
                have hszb := b2.size
                clear hO b2
                go_wp2_with (at_builtin; refine wpList_append_rd _ rfl (.tmp 29) (.tmp 31) rfl wr.heap.size A2 ss.length c2 ss rfl rfl hOa (w2.alloc (.cells #[.int .i64 (k : Int)] 3)).heap.size (some ⟨w2.heap.size, 0, none⟩) 1 1 [(k : Int)] rfl rfl (RdI.of_ints hblk) (by simp; omega) (by simp; omega) ?_; intro A3 c3 w3 hO3 hg3 hat3)
                have b3 : Below wr.heap.size wr w3 := b2a.grown hg3 b2a.size hOa.row_ge
                obtain ⟨s2, hs2⟩ : ∃ s2, ss ++ [(k : Int)] = s2 := ⟨_, rfl⟩
                have hl2 : ss.length + 1 = s2.length := by rw [← hs2]; simp
                rw [hs2] at hO3 hT
                rw [hl2]
                have hl3 : s2.length ≤ 2000000 := by omega
                replace hl2 := Lib.hid hl2
                replace hs2 := Lib.hid hs2
                replace H1 := chain H1 b3 (Nat.le_refl _)
                replace H := chain H b3 (Nat.le_refl _)
                have hO4 := hO3.rd
                clear hblk b2a hOa hszb hg3 hat3 b3 hO3
                go_wp2_with fail
                refine (iPeak_c A1 c1 gs A3 c3 s2 _ (hgr.out.step H1) (by have := hgl.out; omega) hgf.out hO4 hl3).mono ?_
                rintro e w4 ⟨rfl, b4⟩
                rw [hT.out]
                replace H1 := chain H1 b4 (Nat.le_refl _)
                replace H := chain H b4 (Nat.le_refl _)
                clear b4 hO4
                go_wp2
                go_roundw
                case rel => exact ⟨k + 1, k, v, by omega, by go_num, rfl, rfl, by omega, by omega, by omega, by omega, by have := hnx.out; exact Lib.hid (by rw [this]; congr 1), H1, H⟩
                case measure => simp [intOf]; omega
              · have hnx := Lib.hid (show bestR (tryZ (vals fs) ss (a, ws)) (L + 1) 0 (-1) 0 = bestR (tryZ (vals fs) ss (a, ws)) (L + 1 - (k + 1)) ((k : Int) + 1) b p by rw [hq2.out, hTT.out]; exact bestR_keep rfl hneg hb hp)
                clear hq2
                generalize T k = v at *
                go_wp2_with fail
                refine (copyInts_c A' c' ss _ (hs3.out.step H1) hsl).mono ?_
                rintro e w2 ⟨A2, c2, rfl, hO, b2⟩
                have hblk := Blk.new w2 3 #[.int .i64 (k : Int)]
                have b2a := b2.alloc b2.size (.cells #[.int .i64 (k : Int)] 3)
                have hOa : OwnI (w2.alloc (.cells #[.int .i64 (k : Int)] 3)) wr.heap.size A2 c2 ss := OwnI.alloc hO _
                have hszb := b2.size
                clear hO b2
                go_wp2_with (at_builtin; refine wpList_append_rd _ rfl (.tmp 29) (.tmp 31) rfl wr.heap.size A2 ss.length c2 ss rfl rfl hOa (w2.alloc (.cells #[.int .i64 (k : Int)] 3)).heap.size (some ⟨w2.heap.size, 0, none⟩) 1 1 [(k : Int)] rfl rfl (RdI.of_ints hblk) (by simp; omega) (by simp; omega) ?_; intro A3 c3 w3 hO3 hg3 hat3)
                have b3 : Below wr.heap.size wr w3 := b2a.grown hg3 b2a.size hOa.row_ge
                obtain ⟨s2, hs2⟩ : ∃ s2, ss ++ [(k : Int)] = s2 := ⟨_, rfl⟩
                have hl2 : ss.length + 1 = s2.length := by rw [← hs2]; simp
                rw [hs2] at hO3 hT
                rw [hl2]
                have hl3 : s2.length ≤ 2000000 := by omega
                replace hl2 := Lib.hid hl2
                replace hs2 := Lib.hid hs2
                replace H1 := chain H1 b3 (Nat.le_refl _)
                replace H := chain H b3 (Nat.le_refl _)
                have hO4 := hO3.rd
                clear hblk b2a hOa hszb hg3 hat3 b3 hO3
                go_wp2_with fail
                refine (iPeak_c A1 c1 gs A3 c3 s2 _ (hgr.out.step H1) (by have := hgl.out; omega) hgf.out hO4 hl3).mono ?_
                rintro e w4 ⟨rfl, b4⟩
                rw [hT.out]
                replace H1 := chain H1 b4 (Nat.le_refl _)
                replace H := chain H b4 (Nat.le_refl _)
                clear b4 hO4
                go_wp2
                go_roundw
                case rel => exact ⟨k + 1, b, p, by omega, by go_num, rfl, rfl, b0, b1, p0, p1, by have := hnx.out; exact Lib.hid (by rw [this]; congr 1), H1, H⟩
                case measure => simp [intOf]; omega
        · have hkI : ¬ (k : Int) ≤ (L : Int) := by omega
          have hf := Lib.hid (show bestR (tryZ (vals fs) ss (a, ws)) (L + 1) 0 (-1) 0 = b by rw [hq.out, show L + 1 - k = 0 by omega]; rfl)
          clear hq
          go_wp2
          go_ret
          exact ⟨by rw [hf.out]; rfl, H⟩
end Go.Proofs.Ytkbgifnmcklmiaa
