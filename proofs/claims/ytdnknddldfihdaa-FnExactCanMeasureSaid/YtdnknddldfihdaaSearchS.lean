/- The reference's search. -/
import Derived.Test.YtdnknddldfihdaaFor
import Derived.Deep.CutBlock
namespace Go.Proofs.Ytdnknddldfihdaa
open Go.ChangeShapes Go.WideShapes Go.ChangeAt Go.RowKit
set_option linter.unusedVariables false

theorem OwnV.not_row {w : World} {base e sz : Nat} {A : Option Addr} {n c : Nat} {cs : List Value} (h : OwnV w base e sz A n c cs) {g e' : Nat} {cs' : Array Value} (B : Blk w g e' cs') (hne : e' ≠ e) : (Value.slice A n c).ownBlock ≠ some g := by
  intro hb
  rcases h.2 with ⟨hv, _⟩ | ⟨g1, cap, cur, hv, _, hh, _⟩
  · rw [hv] at hb; simp [Value.ownBlock] at hb
  · rw [hv] at hb
    simp only [Value.ownBlock, Option.some.injEq] at hb
    subst hb
    unfold Blk at B
    rw [hh] at B
    injection B with B
    injection B with _ h2 _
    exact hne h2.symm
/-- Which codes have been seen. -/
def seenL (L : List (List Int)) : List Value := (List.range 2197).map fun (c : Nat) => Value.bool (L.any fun x => codeL x == (c : Int))
theorem seenL_len (L : List (List Int)) : (seenL L).length = 2197 := by unfold seenL; rw [List.length_map, List.length_range]
theorem seenL_get (L : List (List Int)) {c : Nat} (hc : c < 2197) : (seenL L)[c]? = some (.bool (L.any fun x => codeL x == (c : Int))) := by
  unfold seenL
  rw [List.getElem?_map, List.getElem?_range hc]
  rfl
theorem seenL_set (L : List (List Int)) {y : List Int} {c : Nat} (hc : c < 2197) (hy : codeL y = (c : Int)) : (seenL L).set c (.bool true) = seenL (L ++ [y]) := by
  refine List.ext_getElem? fun i => ?_
  rw [List.getElem?_set]
  by_cases hi : i < 2197
  · rw [seenL_get (L ++ [y]) hi, List.any_append]
    by_cases e : c = i
    · subst e
      rw [if_pos rfl, if_pos (by rw [seenL_len]; exact hi)]
      simp [hy]
    · rw [if_neg e, seenL_get _ hi]
      have : (codeL y == (i : Int)) = false := beq_eq_false_iff_ne.2 (by omega)
      simp [this]
  · have h1 : (seenL (L ++ [y]))[i]? = none := List.getElem?_eq_none (by rw [seenL_len]; omega)
    have h2 : (seenL L)[i]? = none := List.getElem?_eq_none (by rw [seenL_len]; omega)
    rw [h1, h2, if_neg (by omega)]
theorem madeB (n : Nat) : madeCells #[Value.bool false] n = (List.replicate n (Value.bool false)).toArray := by
  rw [← Array.toList_inj, toList_madeCells_one]
theorem seen_none {n : Nat} (hn : n = 2197) : List.replicate n (Value.bool false) = seenL [] := by
  refine List.ext_getElem? fun i => ?_
  rw [List.getElem?_replicate]
  by_cases hi : i < 2197
  · rw [if_pos (by omega), seenL_get [] hi]; simp
  · rw [if_neg (by omega), List.getElem?_eq_none (by rw [seenL_len]; omega)]
theorem Blk.seen {w : World} {g c : Nat} {L : List (List Int)} {y : List Int} (h : Blk w g 4 (seenL L).toArray) (hc : c < 2197) (hy : codeL y = (c : Int)) : Blk (w.setCell ⟨g, c, none⟩ (.bool true)) g 4 (seenL (L ++ [y])).toArray := by
  have h2 := h.set_ c (.bool true)
  rw [List.setIfInBounds_toArray, seenL_set L hc hy] at h2
  exact h2
theorem Blk.seen_at {w : World} {g c : Nat} {L : List (List Int)} (h : Blk w g 4 (seenL L).toArray) (hc : c < 2197) : w.cell? ⟨g, c, none⟩ = some (.bool (L.any fun x => codeL x == (c : Int))) := by
  rw [h.cell, List.getElem?_toArray]; exact seenL_get L hc
theorem code_zero (n : Nat) : codeL (List.replicate n 0) = 0 := by
  unfold codeL
  induction n with
  | zero => rfl
  | succ n ih => rw [List.replicate_succ, List.foldl_cons]; exact ih
theorem seen_has {J : List Int} (hJ : JOk J) {L : List (List Int)} {y : List Int} (hL : ∀ x ∈ L, OkS J x) (hy : OkS J y) {c : Nat} (hc : codeL y = (c : Int)) : (L.any fun x => codeL x == (c : Int)) = hasSS L y := by
  unfold hasSS
  rw [← hc, List.contains_eq_any_beq]
  apply Bool.eq_iff_iff.2
  rw [List.any_eq_true, List.any_eq_true]
  constructor
  · rintro ⟨x, hx, h⟩
    have := hJ.code_inj (hL x hx) hy (by simpa using h)
    exact ⟨x, hx, by rw [this]; simp⟩
  · rintro ⟨x, hx, h⟩
    have e : y = x := by simpa using h
    exact ⟨x, hx, by rw [e]; simp⟩
theorem infoBool : (Try.prog.info? 4).map (fun i => (i.zero, i.size, i.bytes)) = some (some (.bool false), 1, 1) := by kernel_rfl
theorem notI {w : World} {base c g e' : Nat} {A : Option Addr} {xs : List Int} {cs' : Array Value} (h : OwnI w base A c xs) (B : Blk w g e' cs') (hne : e' ≠ 3) : (Value.slice A xs.length c).ownBlock ≠ some g :=
  OwnV.not_row (show OwnV w base 3 1 A xs.length c (ints xs) from h) B hne
theorem S2.put {w0 wr : World} {base b2 t2 m d c fc gn i : Nat} {us ts : List Tr} {B A fA : Option Addr} {F : List Int} {cs : Array Value} (h : S2 w0 base b2 t2 m us B d A c ts fA fc F wr) (N : Blk wr gn 4 cs) (hb : base ≤ w0.heap.size) (hg : base ≤ gn) (v : Value) : S2 w0 base b2 t2 m us B d A c ts fA fc F (wr.setCell ⟨gn, i, none⟩ v) := by
  have hgr : wr.grownBy (wr.setCell ⟨gn, i, none⟩ v) (some gn) := grownBy_set v
  have hI : ∀ {b3 : Nat} {t : Tr}, InT wr b3 t → some gn ≠ some t.1 := fun ht e => notI ht N (by decide) (by rw [e]; rfl)
  have hS : ∀ {b3 c3 : Nat} {A3 : Option Addr} {us : List Tr}, OwnSS wr b3 A3 c3 us → OwnSS (wr.setCell ⟨gn, i, none⟩ v) b3 A3 c3 us := fun ho => ho.kept hgr (fun g e hk => OwnV.not_row ho.row N (by decide) (by rw [e]; exact congrArg some (by injection hk with hk; exact hk.symm))) (fun t ht => hI (ho.all t ht))
  exact { h with own := hS h.own, frm := OwnI.kept h.frm hgr (fun g e hk => notI h.frm N (by decide) (by rw [e]; exact congrArg some (by injection hk with hk; exact hk.symm))), stp := hS h.stp, bel := h.bel.grown hgr (Nat.le_trans hb h.bel.size) (fun k hk => by injection hk with hk; omega), sz := Nat.le_trans h.sz hgr.size }
/-- What the reference's search hands back. -/
def SrchS (w : World) (J : List Int) (e : Ending) (w' : World) : Prop :=
  ∃ (A : Option Addr) (c : Nat) (ts : List Tr) (fA : Option Addr) (fc : Nat) (F : List Int) (k : Nat), e = .returned (.tuple #[.slice A ts.length c, .slice fA F.length fc]) ∧ OwnSS w' w.heap.size A c ts ∧ OwnI w' w.heap.size fA fc F ∧ Below w.heap.size w w' ∧ (valT ts, F) = bfs J k ∧ k = ts.length
set_option maxRecDepth 100000 in
set_option maxHeartbeats 4000000 in
theorem sSearch_c (A : Option Addr) (c : Nat) (J : List Int) (w : World) (hr : RdI w w.heap.size A J) (hl : J.length ≤ 1048576) (hj : jugsB J = true) :
    Calls Try.prog 53 #[.slice A J.length c] w (SrchS w J) := by
  have hJ := jok_of hj
  have hJ1 := hJ.l1
  have hJ3 := hJ.l3
  have hJ' := Lib.hid hJ
  have hj' := Lib.hid hj
  clear hj hJ
  have hmk := fun (W : World) => run_make_row' (P := Try.prog) 22 3 (.int .i64 0) 8 Try.underlying22 infoInt rfl .i64 .i64 J.length (by omega) (by omega) W
  have hmk2 : ∀ W : World, Sem.run Try.prog (Instr.makeSlice 60 (.int .i64 2197) (.int .i64 2197)) W = .ok (.slice (some ⟨W.heap.size, 0, none⟩) 2197 2197) (W.alloc (.cells (madeCells #[.bool false] 2197) 4)) := fun (W : World) => run_make_row' (P := Try.prog) 60 4 (.bool false) 1 Try.underlying60 infoBool rfl .i64 .i64 2197 (by omega) (by omega) W
  have hO0 := ((start_ss w J.length hJ3).alloc (.cells #[.int .i64 (-1)] 3)).alloc (.cells (madeCells #[.bool false] 2197) 4)
  have hF0 : OwnI (((w.alloc (.cells (madeCells #[.int .i64 0] J.length) 3)).alloc (.cells #[.slice (some ⟨w.heap.size, 0, none⟩) J.length J.length] 22)).alloc (.cells #[.int .i64 (-1)] 3)) w.heap.size (some ⟨w.heap.size + 1 + 1, 0, none⟩) 1 [-1] := by
    have h3 := Blk.new ((w.alloc (.cells (madeCells #[.int .i64 0] J.length) 3)).alloc (.cells #[.slice (some ⟨w.heap.size, 0, none⟩) J.length J.length] 22)) 3 #[.int .i64 (-1)]
    simp only [World.size_alloc] at h3
    exact OwnI.of_blk (xs := [-1]) (by omega) (by unfold maxLen; simp) h3
  have bel0 : Below w.heap.size w ((((w.alloc (.cells (madeCells #[.int .i64 0] J.length) 3)).alloc (.cells #[.slice (some ⟨w.heap.size, 0, none⟩) J.length J.length] 22)).alloc (.cells #[.int .i64 (-1)] 3)).alloc (.cells (madeCells #[.bool false] 2197) 4)) := ((((Below.refl w.heap.size w).alloc (Nat.le_refl _) _).alloc (by simp) _).alloc (by simp; omega) _).alloc (by simp; omega) _
  have hN0 : Blk ((((w.alloc (.cells (madeCells #[.int .i64 0] J.length) 3)).alloc (.cells #[.slice (some ⟨w.heap.size, 0, none⟩) J.length J.length] 22)).alloc (.cells #[.int .i64 (-1)] 3)).alloc (.cells (madeCells #[.bool false] 2197) 4)) (w.heap.size + 1 + 1 + 1) 4 (seenL []).toArray := by
    have h3 := Blk.new (((w.alloc (.cells (madeCells #[.int .i64 0] J.length) 3)).alloc (.cells #[.slice (some ⟨w.heap.size, 0, none⟩) J.length J.length] 22)).alloc (.cells #[.int .i64 (-1)] 3)) 4 (madeCells #[.bool false] 2197)
    simp only [World.size_alloc] at h3
    have e : madeCells #[Value.bool false] 2197 = (seenL []).toArray := by rw [madeB, seen_none rfl]
    rw [← e]; exact h3
  replace hF0 := OwnI.alloc hF0 (.cells (madeCells #[.bool false] 2197) 4)
  obtain ⟨gn, hgn⟩ : ∃ gn, gn = w.heap.size + 1 + 1 + 1 := ⟨_, rfl⟩
  rw [← hgn] at hN0
  go_enter Try.func53, Try.ntmps53
  go_upto_region 4 with fail
  rw [← hgn]
  clear hmk hmk2
  generalize (((w.alloc (.cells (madeCells #[.int .i64 0] J.length) 3)).alloc (.cells #[.slice (some ⟨w.heap.size, 0, none⟩) J.length J.length] 22)).alloc (.cells #[.int .i64 (-1)] 3)).alloc (.cells (madeCells #[.bool false] 2197) 4) = W0 at hO0 bel0 hF0 hN0 ⊢
  have hs0 := hN0.seen_at (c := 0) (by omega)
  have hsf := hN0.frozen 0
  have hN1 := hN0.seen (c := 0) (y := List.replicate J.length 0) (by omega) (code_zero _)
  have hg1 : W0.grownBy (W0.setCell ⟨gn, 0, none⟩ (.bool true)) (some gn) := grownBy_set _
  replace hO0 := hO0.kept hg1 (fun g e hk => by injection e with e; injection e with e; injection hk with hk; omega) (fun t ht hk => by rw [List.mem_singleton.1 ht] at hk; injection hk with hk; simp only at hk; omega)
  replace hF0 := OwnI.kept hF0 hg1 (fun g e hk => by injection e with e; injection e with e; injection hk with hk; omega)
  replace bel0 := bel0.grown hg1 bel0.size (fun k hk => by injection hk with hk; omega)
  have hgw : w.heap.size ≤ gn := by omega
  have hgw2 : w.heap.size + 1 + 1 < gn := by omega
  clear hN0 hg1 hgn
  go_wp2
  clear hs0 hsf
  generalize W0.setCell ⟨gn, 0, none⟩ (.bool true) = W0 at hO0 bel0 hF0 hN1 ⊢
  go_loopw [4, 5, 7] (fun s7 s8 i wr => ∃ (k : Nat) (A1 : Option Addr) (c1 : Nat) (ts : List Tr) (fA : Option Addr) (fc : Nat) (F : List Int), k ≤ ts.length ∧ i = .int .i64 k ∧ s7 = .slice A1 ts.length c1 ∧ s8 = .slice fA F.length fc ∧ OwnSS wr w.heap.size A1 c1 ts ∧ OwnI wr w.heap.size fA fc F ∧ Below w.heap.size w wr ∧ Blk wr gn 4 (seenL (valT ts)).toArray ∧ Hid (∀ t ∈ ts, ∀ g, fA = some ⟨g, 0, none⟩ → g ≠ t.1) ∧ Hid ((valT ts, F) = bfs J k)) (fun _ _ i _ => 2198 - (intOf i).toNat)
  case atStart => exact ⟨0, _, _, _, _, _, [-1], Nat.zero_le _, rfl, rfl, rfl, hO0, hF0, bel0, hN1, (fun t ht g e h => by rw [List.mem_singleton.1 ht] at h; injection e with e; injection e with e; simp only at h; omega), rfl⟩
  case round =>
    clear hO0 hF0 bel0 hN1
    obtain ⟨k, A1, c1, ts, fA, fc, F, hk, rfl, rfl, rfl, hO, hF, H, N, hap, hbf⟩ := hrel
    have hbok : BOk J k (valT ts, F) := by rw [hbf.out]; exact bfs_ok hJ'.out k
    have htl := hbok.len_le hJ'.out
    have hfl := hbok.len
    simp only [valT_length] at htl hfl
    have hbok' := Lib.hid hbok
    clear hbok hfl
    by_cases hlt : k < ts.length
    · obtain ⟨gs, gb, db, xs, rfl, hgs, hgsl, hc, hrx, hx, hd⟩ := hO.at_ hlt
      have hvx : Hid ((valT ts)[k]? = some xs) := by show (valT ts)[k]? = some xs; unfold valT; rw [List.getElem?_map, hx.out]; rfl
      have hok : OkS J xs := hbok'.out.ok xs (List.mem_of_getElem? hvx.out)
      have hxl : xs.length = J.length := hok.1
      have hok' := Lib.hid hok
      have hxl3 : xs.length ≤ 1048576 := by omega
      clear hok hxl
      have hr1 := (hr.below H (Nat.le_refl _)).more H.size
      go_wp2_with fail
      refine (sSteps_c A (some ⟨gb, 0, none⟩) c db J xs wr hr1 hl hrx hxl3).mono ?_
      rintro e w2 ⟨B, d, us, rfl, hU, hvu, b⟩
      rw [stepsP_ok hj'.out hok'.out] at hvu
      have hlA := hO.lt
      have hlF := OwnI.lt_ hF
      have hUl := hU.lt
      have hz1 := H.size
      have hz2 := b.size
      have S0 : S2 w w.heap.size wr.heap.size w2.heap.size 0 us B d (some ⟨gs, 0, none⟩) c1 ts fA fc F w2 :=
        ⟨hO.next b, hF.next b, hU, chain H b (Nat.le_refl _), fun g e => .inl (hlA.1 g e), fun g e => .inl (hlF g e), fun t ht => .inl (.inl (hlA.2 t ht)), hap.out, Nat.le_refl _, fun g e => ⟨by
          rcases hU.row.form with ⟨e0, _⟩ | ⟨g0, e0, h1, _⟩
          · rw [e0] at e; cases e
          · rw [e0] at e; injection e with e; injection e with e; omega, hUl.1 g e⟩, fun u hu => (hU.all u hu).b, hz1⟩
      obtain ⟨bb, hbb⟩ : ∃ bb, wr.heap.size = bb := ⟨_, rfl⟩
      rw [hbb] at S0
      replace N := N.next b
      have hvu' := Lib.hid hvu
      have hul : us.length ≤ 10000 := by
        have := (steps_small J xs).1
        rw [stepsP_ok hj'.out hok'.out, ← hvu, valT_length] at this
        exact this
      clear hvu hO hF H b hU hlA hlF hUl hc hrx hr1 hz1 hz2 hap hbb
      have hf0 := Lib.hid (show (valT ts, F) = ((stepsL J xs).take 0).foldl (addS k) (bfs J k) by rw [List.take_zero]; exact hbf.out)
      have hbk : Hid ((bfs J k).1[k]? = some xs) := by show (bfs J k).1[k]? = some xs; rw [← hbf.out]; exact hvx.out
      clear hbf hvx hx hbok' hk hd
      go_wp2
      go_loopw [4, 5, 9] (fun s7 s8 i wr => ∃ (m : Nat) (A1 : Option Addr) (c1 : Nat) (ts : List Tr) (fA : Option Addr) (fc : Nat) (F : List Int), m ≤ us.length ∧ i = .int .i64 m ∧ s7 = .slice A1 ts.length c1 ∧ s8 = .slice fA F.length fc ∧ S2 w w.heap.size bb w2.heap.size m us B d A1 c1 ts fA fc F wr ∧ Blk wr gn 4 (seenL (valT ts)).toArray ∧ Hid ((valT ts, F) = ((stepsL J xs).take m).foldl (addS k) (bfs J k))) (fun _ _ i _ => us.length - (intOf i).toNat)
      case atStart => exact ⟨0, _, _, ts, _, _, F, Nat.zero_le _, rfl, rfl, rfl, S0, N, hf0⟩
      case round =>
        clear S0 hf0 hlt htl N
        obtain ⟨m, A1, c1, ts, fA, fc, F, hm, rfl, rfl, rfl, S, N, hf⟩ := hrel
        have hbok : BOk J (k + 1) (valT ts, F) := by rw [hf.out]; exact bok_part hJ'.out hbk.out m
        have htl := hbok.len_le hJ'.out
        have hfl := hbok.len
        simp only [valT_length] at htl hfl
        have hfl' := Lib.hid hfl
        have hbok' := Lib.hid hbok
        clear hbok hfl
        by_cases hltm : m < us.length
        · obtain ⟨gB, ub, ud, y, hBe, hgB, hgBl, hcu, hry, hy, -⟩ := S.stp.at_ hltm
          subst hBe
          have hvy : Hid ((stepsL J xs)[m]? = some y) := by show (stepsL J xs)[m]? = some y; rw [← hvu'.out]; unfold valT; rw [List.getElem?_map, hy.out]; rfl
          have hoky : OkS J y := okS_steps (fun k hk => by have := hJ'.out.b k hk; omega) hok'.out y (List.mem_of_getElem? hvy.out)
          have hyl3 : y.length ≤ 3 := by have := hoky.1; omega
          have hcode := hJ'.out.code hoky
          obtain ⟨cn, hcn⟩ := Int.eq_ofNat_of_zero_le hcode.1
          have hcn2 : cn < 2197 := by omega
          have hdg := hJ'.out.digits hoky
          have hC1 := Lib.hid (fun (W : World) (h : RdI W W.heap.size (some ⟨ub, 0, none⟩) y) => codeS_c (some ⟨ub, 0, none⟩) ud y W h hyl3 hdg)
          rw [hcn] at hC1
          have hsn := N.seen_at hcn2
          rw [seen_has hJ'.out hbok'.out.ok hoky hcn] at hsn
          have hsf := N.frozen cn
          have hft := Lib.hid (fold_take (k := k) (m := m) (bfs J k) hvy.out)
          have hcn' := Lib.hid hcn
          clear hcn hcode hdg hoky
          cases hc : hasSS (valT ts) y
          · rw [hc] at hsn
            have hf2 : Hid ((valT ts ++ [y], F ++ [(k : Int)]) = ((stepsL J xs).take (m + 1)).foldl (addS k) (bfs J k)) := by
              show _ = _
              rw [hft.out, ← hf.out, addS_new hc]
            clear hc hft hf
            go_wp2_with fail
            refine (hC1.out _ hry).mono ?_
            rintro e w' ⟨rfl, rfl⟩
            go_wp2_with fail
            refine (hC1.out _ hry).mono ?_
            rintro e w' ⟨rfl, rfl⟩
            have S1 := S.put (i := cn) N (Nat.le_refl _) hgw (.bool true)
            have N1 := N.seen hcn2 hcn'.out
            go_upto_region 14 with fail
            clear hsn hsf hcu hry S N hC1
            generalize wr.setCell ⟨gn, cn, none⟩ (.bool true) = W3 at S1 N1 ⊢
            obtain ⟨ub2, ud2, y2, -, hcu, -, hy2, -⟩ := S1.stp.atC hltm
            obtain ⟨rfl, rfl, rfl⟩ : ub = ub2 ∧ ud = ud2 ∧ y = y2 := by
              have h9 := Option.some.inj (hy.out.symm.trans hy2.out)
              injection h9 with h9 h10
              injection h10 with h10 h11
              exact ⟨h9, h10, h11⟩
            have hgBl3 : gB < W3.heap.size := by
              rcases S1.stp.row.form with ⟨e, _⟩ | ⟨g0, e, _, h, _⟩
              · cases e
              · injection e with e; injection e with e; omega
            have b4 := (Below.refl W3.heap.size W3).alloc (Nat.le_refl _) (.cells #[.slice (some ⟨ub, 0, none⟩) y.length ud] 22)
            have S4 := S1.next b4 (Nat.le_refl _)
            have N4 := N1.next b4
            have hr4 : RdV (W3.alloc (.cells #[.slice (some ⟨ub, 0, none⟩) y.length ud] 22)) (W3.alloc (.cells #[.slice (some ⟨ub, 0, none⟩) y.length ud] 22)).heap.size (some ⟨W3.heap.size, 0, none⟩) [encT (ub, ud, y)] := RdV.of_blk (Blk.new _ _ _)
            have hsz4 := S4.bel.size
            clear S1 N1 b4 hy2
            go_wp2_with (first
              | (at_builtin; refine wpList_append_v rowSS _ rfl (.tmp 52) (.tmp 57) rfl w.heap.size A1 ts.length c1 (ts.map encT) rfl S4.own.row (W3.alloc (.cells #[.slice (some ⟨ub, 0, none⟩) y.length ud] 22)).heap.size (some ⟨W3.heap.size, 0, none⟩) 1 1 [encT (ub, ud, y)] rfl rfl hr4 (one_enc _) (by omega) hsz4 ?_; intro A5 c5 w5 o5 g5 at5; (have S5 := S4.app hy.out o5 g5 at5 (Nat.le_refl _)); (have N5 := N4.grown g5 (fun e => OwnV.not_row S4.own.row N4 (by decide) e.symm)); (have S6 := S5.next ((Below.refl w5.heap.size w5).alloc (Nat.le_refl _) (.cells #[.int .i64 (k : Int)] 3)) (Nat.le_refl _)); (have N6 := N5.alloc (.cells #[.int .i64 (k : Int)] 3)); (have hr6 : RdI (w5.alloc (.cells #[.int .i64 (k : Int)] 3)) (w5.alloc (.cells #[.int .i64 (k : Int)] 3)).heap.size (some ⟨w5.heap.size, 0, none⟩) [(k : Int)] := RdI.of_ints (xs := [(k : Int)]) (Blk.new _ _ _)); (have hsz6 := S6.bel.size); clear S4 S5 N4 N5 hr4 hsz4 o5 g5 at5)
              | (at_builtin; refine wpList_append_rd _ rfl (.tmp 59) (.tmp 61) rfl w.heap.size fA F.length fc F rfl rfl S6.frm (w5.alloc (.cells #[.int .i64 (k : Int)] 3)).heap.size (some ⟨w5.heap.size, 0, none⟩) 1 1 [(k : Int)] rfl rfl hr6 (by have := hfl'.out; simp; omega) hsz6 ?_; intro A7 c7 w7 o7 g7 at7)
              | fail)
            have S7 := S6.from_ o7 g7 at7 (Nat.le_refl _)
            have N7 := N6.grown g7 (fun e => notI S6.frm N6 (by decide) e.symm)
            have hvn : valT (ts ++ [(ub, ud, y)]) = valT ts ++ [y] := by simp [valT]
            rw [← hvn] at N7
            have hf3 : Hid ((valT (ts ++ [(ub, ud, y)]), F ++ [(k : Int)]) = ((stepsL J xs).take (m + 1)).foldl (addS k) (bfs J k)) := by
              rw [hvn]; exact hf2
            clear S6 N6 o7 g7 at7 hr6 hf2 hvn
            go_roundw
            case rel => exact ⟨m + 1, A5, c5, ts ++ [(ub, ud, y)], A7, c7, F ++ [(k : Int)], by omega, by go_num, by rw [List.length_append]; rfl, by rw [List.length_append]; rfl, S7, N7, hf3⟩
            case measure => simp [intOf]; omega
          · rw [hc] at hsn
            have hf2 : Hid ((valT ts, F) = ((stepsL J xs).take (m + 1)).foldl (addS k) (bfs J k)) := by
              show _ = _
              rw [hft.out, ← hf.out, addS_old hc]
            clear hc hft hf
            go_wp2_with fail
            refine (hC1.out _ hry).mono ?_
            rintro e w' ⟨rfl, rfl⟩
            have S3 := S.skip
            clear hC1
            go_wp2
            go_roundw
            case rel => exact ⟨m + 1, A1, c1, ts, fA, fc, F, by omega, by go_num, rfl, rfl, S3, N, hf2⟩
            case measure => simp [intOf]; omega
        · obtain rfl : m = us.length := by omega
          have hbf2 : Hid ((valT ts, F) = bfs J (k + 1)) := by
            show _ = _
            rw [hf.out, bfs_round hbk.out, List.take_of_length_le (by rw [← hvu'.out, valT_length]; exact Nat.le_refl _)]
          have hkt : k + 1 ≤ ts.length := by
            have hkl := (List.getElem?_eq_some_iff.1 hbk.out).1
            have hpf := (bfs_prefix J k 1).1
            rw [← hbf2.out] at hpf
            have := hpf.length_le
            simp only [valT_length] at this
            omega
          go_wp2
          go_roundw
          case rel => exact ⟨k + 1, A1, c1, ts, fA, fc, F, hkt, by go_num, rfl, rfl, S.own, S.frm, S.bel, N, S.ap, hbf2⟩
          case measure => simp [intOf]; omega
    · have hke : k = ts.length := by omega
      have hke' := Lib.hid hke
      have hkI : ¬ (k : Int) < (ts.length : Int) := by omega
      clear hke
      go_wp2
      go_ret2
      exact ⟨_, _, ts, _, _, F, k, rfl, hO, hF, H, hbf.out, hke'.out⟩
end Go.Proofs.Ytdnknddldfihdaa
