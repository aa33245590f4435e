/- The program's search. -/
import Derived.Test.YtdnknddldfihdaaSrch
namespace Go.Proofs.Ytdnknddldfihdaa
open Go.ChangeShapes Go.WideShapes Go.ChangeAt Go.RowKit
set_option linter.unusedVariables false

/-- What the search hands back: the states and where each came from, after k rounds; the last one, if it is wanted. -/
def SrchP (w : World) (J : List Int) (p : List Int → Bool) (e : Ending) (w' : World) : Prop :=
  ∃ (A : Option Addr) (c : Nat) (ts : List Tr) (fA : Option Addr) (fc : Nat) (F : List Int) (last : Int) (k : Nat), e = .returned (.tuple #[.slice A ts.length c, .slice fA F.length fc, .int .i64 last]) ∧ OwnSS w' w.heap.size A c ts ∧ OwnI w' w.heap.size fA fc F ∧ Below w.heap.size w w' ∧ (valT ts, F) = bfs J k ∧ (∀ j y, j < k → (valT ts)[j]? = some y → p y = false) ∧ ((last = (k : Int) ∧ ∃ y, (valT ts)[k]? = some y ∧ p y = true) ∨ (last = -1 ∧ k = ts.length))
def wantP (v : Int) (y : List Int) : Bool := hasL y v
def noP (y : List Int) : Bool := false
theorem wantS_c (g c : Nat) (xs : List Int) (bw : Nat) (v : Int) (w : World) (hr : RdI w w.heap.size (some ⟨g, 0, none⟩) xs) (hl : xs.length ≤ 1048576) (hw : Blk w bw 3 #[.int .i64 v]) :
    Calls Try.prog 39 #[.slice (some ⟨g, 0, none⟩) xs.length c, .pointer (some ⟨bw, 0, none⟩)] w (DrewP w (.bool (wantP v xs))) := by
  unfold wantP
  obtain ⟨p0, -, pL⟩ := hw.one
  have hH := Lib.hid (hasInt_c (some ⟨g, 0, none⟩) c xs v w hr hl)
  go_enter Try.func39, Try.ntmps39
  go_wp2_with fail
  refine hH.out.mono ?_
  rintro e w' ⟨rfl, rfl⟩
  go_wp2
  go_ret
  exact ⟨rfl, 0, rfl⟩
theorem wantC_c (g c : Nat) (xs : List Int) (w : World) :
    Calls Try.prog 49 #[.slice (some ⟨g, 0, none⟩) xs.length c] w (DrewP w (.bool (noP xs))) := by
  go_enter Try.func49, Try.ntmps49
  go_wp2
  go_ret
  exact ⟨rfl, 0, rfl⟩
theorem madeCells_rep (n : Nat) : madeCells #[Value.int .i64 0] n = Array.replicate n (.int .i64 0) := by
  rw [← Array.toList_inj, toList_madeCells_one]; simp
theorem start_ss (w : World) (n : Nat) (hn : n ≤ 3) : OwnSS ((w.alloc (.cells (madeCells #[.int .i64 0] n) 3)).alloc (.cells #[.slice (some ⟨w.heap.size, 0, none⟩) n n] 22)) w.heap.size (some ⟨w.heap.size + 1, 0, none⟩) 1 [(w.heap.size, n, List.replicate n 0)] := by
  have h1 : OwnI (w.alloc (.cells (madeCells #[.int .i64 0] n) 3)) w.heap.size (some ⟨w.heap.size, 0, none⟩) n (List.replicate n 0) := by
    have := OwnI.of_blk (w := w.alloc (.cells (madeCells #[.int .i64 0] n) 3)) (base := w.heap.size) (xs := List.replicate n 0) (g := w.heap.size) (Nat.le_refl _) (by unfold maxLen; simp; omega) (by
      have h2 : (ints (List.replicate n 0)).toArray = madeCells #[.int .i64 0] n := by
        rw [madeCells_rep]; simp [ints]
      rw [h2]; exact Blk.new _ _ _)
    rw [List.length_replicate] at this
    exact this
  refine ⟨?_, fun t ht => ?_, List.pairwise_singleton _ _⟩
  · have h3 := Blk.new (w.alloc (.cells (madeCells #[.int .i64 0] n) 3)) 22 #[.slice (some ⟨w.heap.size, 0, none⟩) n n]
    simp only [World.size_alloc] at h3
    refine OwnV.of_blk (n := 1) (cs := [encT (w.heap.size, n, List.replicate n 0)]) (by omega) rfl (by unfold maxLen; omega) ?_
    have h4 : [encT (w.heap.size, n, List.replicate n 0)].toArray = #[.slice (some ⟨w.heap.size, 0, none⟩) n n] := by simp [encT]
    rw [h4]; exact h3
  · rw [List.mem_singleton.1 ht]
    exact OwnI.alloc h1 _
set_option maxRecDepth 100000 in
set_option maxHeartbeats 4000000 in
theorem searchS_c (A : Option Addr) (c : Nat) (J : List Int) (bw : Nat) (v : Int) (w : World) (hr : RdI w w.heap.size A J) (hl : J.length ≤ 1048576) (hj : jugsB J = true) (hw : Blk w bw 3 #[.int .i64 v]) :
    Calls Try.prog 38 #[.slice A J.length c, .func (.func 39) #[] #[.pointer (some ⟨bw, 0, none⟩)]] w (SrchP w J (wantP v)) := by
  have hJ := jok_of hj
  have hJ1 := hJ.l1
  have hJ3 := hJ.l3
  have hJ' := Lib.hid hJ
  have hj' := Lib.hid hj
  clear hj hJ
  have hmk := fun (W : World) => run_make_row' (P := Try.prog) 22 3 (.int .i64 0) 8 Try.underlying22 infoInt rfl .i64 .i64 J.length (by omega) (by omega) W
  have hO0 := (start_ss w J.length hJ3).alloc (.cells #[.int .i64 (-1)] 3)
  have bel0 : Below w.heap.size w (((w.alloc (.cells (madeCells #[.int .i64 0] J.length) 3)).alloc (.cells #[.slice (some ⟨w.heap.size, 0, none⟩) J.length J.length] 22)).alloc (.cells #[.int .i64 (-1)] 3)) := (((Below.refl w.heap.size w).alloc (Nat.le_refl _) _).alloc (by simp) _).alloc (by simp; omega) _
  have hF0 : OwnI (((w.alloc (.cells (madeCells #[.int .i64 0] J.length) 3)).alloc (.cells #[.slice (some ⟨w.heap.size, 0, none⟩) J.length J.length] 22)).alloc (.cells #[.int .i64 (-1)] 3)) w.heap.size (some ⟨w.heap.size + 1 + 1, 0, none⟩) 1 [-1] := by
    have h3 := Blk.new ((w.alloc (.cells (madeCells #[.int .i64 0] J.length) 3)).alloc (.cells #[.slice (some ⟨w.heap.size, 0, none⟩) J.length J.length] 22)) 3 #[.int .i64 (-1)]
    simp only [World.size_alloc] at h3
    exact OwnI.of_blk (xs := [-1]) (by omega) (by unfold maxLen; simp) h3
  go_enter Try.func38, Try.ntmps38
  go_wp2
  clear hmk
  generalize ((w.alloc (.cells (madeCells #[.int .i64 0] J.length) 3)).alloc (.cells #[.slice (some ⟨w.heap.size, 0, none⟩) J.length J.length] 22)).alloc (.cells #[.int .i64 (-1)] 3) = W0 at hO0 bel0 hF0 ⊢
  go_loopw [7, 8, 9] (fun s7 s8 i wr => ∃ (k : Nat) (A1 : Option Addr) (c1 : Nat) (ts : List Tr) (fA : Option Addr) (fc : Nat) (F : List Int), k ≤ ts.length ∧ i = .int .i64 k ∧ s7 = .slice A1 ts.length c1 ∧ s8 = .slice fA F.length fc ∧ OwnSS wr w.heap.size A1 c1 ts ∧ OwnI wr w.heap.size fA fc F ∧ Below w.heap.size w wr ∧ Hid (∀ t ∈ ts, ∀ g, fA = some ⟨g, 0, none⟩ → g ≠ t.1) ∧ Hid ((valT ts, F) = bfs J k) ∧ Hid (∀ j y, j < k → (valT ts)[j]? = some y → wantP v y = false)) (fun _ _ i _ => 2198 - (intOf i).toNat)
  case atStart => exact ⟨0, _, _, _, _, _, [-1], Nat.zero_le _, rfl, rfl, rfl, hO0, hF0, bel0, (fun t ht g e h => by rw [List.mem_singleton.1 ht] at h; injection e with e; injection e with e; simp only at h; omega), rfl, (fun j y hj => absurd hj (Nat.not_lt_zero _))⟩
  case round =>
    clear hO0 hF0 bel0
    obtain ⟨k, A1, c1, ts, fA, fc, F, hk, rfl, rfl, rfl, hO, hF, H, hap, hbf, hno⟩ := hrel
    have hbok : BOk J k (valT ts, F) := by rw [hbf.out]; exact bfs_ok hJ'.out k
    have htl := hbok.len_le hJ'.out
    have hfl := hbok.len
    simp only [valT_length] at htl hfl
    have hbok' := Lib.hid hbok
    have hfl' := Lib.hid hfl
    clear hbok hfl
    by_cases hlt : k < ts.length
    · obtain ⟨gs, gb, db, xs, rfl, hgs, hgsl, hc, hrx, hx, hd⟩ := hO.at_ hlt
      have hvx : Hid ((valT ts)[k]? = some xs) := by show (valT ts)[k]? = some xs; unfold valT; rw [List.getElem?_map, hx.out]; rfl
      have hok : OkS J xs := hbok'.out.ok xs (List.mem_of_getElem? hvx.out)
      have hxl : xs.length = J.length := hok.1
      have hok' := Lib.hid hok
      have hxl3 : xs.length ≤ 1048576 := by omega
      have hxl' := Lib.hid hxl
      clear hok hxl
      have hW := Lib.hid (wantS_c gb db xs bw v wr hrx hxl3 (hw.below H hw.lt))
      cases hpx : wantP v xs
      · have hpx' := Lib.hid hpx
        rw [hpx] at hW
        clear hpx
        go_wp2_with fail
        refine hW.out.mono ?_
        rintro e w1 ⟨rfl, q, rfl⟩
        replace hO := hO.next (below_drewN (Below.refl _ _) q)
        replace hF := hF.next (below_drewN (Below.refl _ _) q)
        replace H := below_drewN H q
        have hrx1 : RdI (wr.drewN q) (wr.drewN q).heap.size (some ⟨gb, 0, none⟩) xs := hrx
        clear hc hrx hd hW
        have hc1 := (hO.atC hlt)
        obtain ⟨gb2, db2, xs2, -, hc, -, hx2, -⟩ := hc1
        obtain ⟨rfl, rfl, rfl⟩ : gb = gb2 ∧ db = db2 ∧ xs = xs2 := by
          have h9 := Option.some.inj (hx.out.symm.trans hx2.out)
          injection h9 with h9 h10
          injection h10 with h10 h11
          exact ⟨h9, h10, h11⟩
        generalize wr.drewN q = w1 at hO hF H hrx1 hc ⊢
        have hr1 := (hr.below H (Nat.le_refl _)).more H.size
        go_wp2_with fail
        refine (iSteps_c A (some ⟨gb, 0, none⟩) c db J xs w1 hr1 hl hrx1 hxl3).mono ?_
        rintro e w2 ⟨B, d, us, rfl, hU, hvu, b⟩
        rw [stepsP_ok hj'.out hok'.out] at hvu
        have hlA := hO.lt
        have hlF := OwnI.lt_ hF
        have hUl := hU.lt
        have hz1 := H.size
        have hz2 := b.size
        have S0 : S2 w w.heap.size w1.heap.size w2.heap.size 0 us B d (some ⟨gs, 0, none⟩) c1 ts fA fc F w2 :=
          ⟨hO.next b, hF.next b, hU, chain H b (Nat.le_refl _), fun g e => .inl (hlA.1 g e), fun g e => .inl (hlF g e), fun t ht => .inl (.inl (hlA.2 t ht)), hap.out, Nat.le_refl _, fun g e => ⟨by
            rcases hU.row.form with ⟨e0, _⟩ | ⟨g0, e0, h1, _⟩
            · rw [e0] at e; cases e
            · rw [e0] at e; injection e with e; injection e with e; omega, hUl.1 g e⟩, fun u hu => (hU.all u hu).b, hz1⟩
        have hvu' := Lib.hid hvu
        have hul : us.length ≤ 10000 := by
          have := (steps_small J xs).1
          rw [stepsP_ok hj'.out hok'.out, ← hvu, valT_length] at this
          exact this
        clear hvu hO hF H b hU hlA hlF hUl hc hrx1 hr1 hz1 hz2 hap
        have hf0 := Lib.hid (show (valT ts, F) = ((stepsL J xs).take 0).foldl (addS k) (bfs J k) by rw [List.take_zero]; exact hbf.out)
        have hbk : Hid ((bfs J k).1[k]? = some xs) := by show (bfs J k).1[k]? = some xs; rw [← hbf.out]; exact hvx.out
        have hpre : Hid (∀ j y, j < k + 1 → (bfs J k).1[j]? = some y → wantP v y = false) := by
          show ∀ j y, j < k + 1 → (bfs J k).1[j]? = some y → wantP v y = false
          rw [← hbf.out]
          intro j y hj hy
          by_cases e : j = k
          · subst e
            have h9 := Option.some.inj (hvx.out.symm.trans hy)
            rw [← h9]; exact hpx'.out
          · exact hno.out j y (by omega) hy
        clear hbf hvx hx hx2 hno hpx' hbok' hfl' hk
        go_wp2
        go_loopw [7, 8, 39] (fun s7 s8 i wr => ∃ (m : Nat) (A1 : Option Addr) (c1 : Nat) (ts : List Tr) (fA : Option Addr) (fc : Nat) (F : List Int), m ≤ us.length ∧ i = .int .i64 m ∧ s7 = .slice A1 ts.length c1 ∧ s8 = .slice fA F.length fc ∧ S2 w w.heap.size w1.heap.size w2.heap.size m us B d A1 c1 ts fA fc F wr ∧ Hid ((valT ts, F) = ((stepsL J xs).take m).foldl (addS k) (bfs J k))) (fun _ _ i _ => us.length - (intOf i).toNat)
        case atStart => exact ⟨0, _, _, ts, _, _, F, Nat.zero_le _, rfl, rfl, rfl, S0, hf0⟩
        case round =>
          clear S0 hf0 hlt htl
          obtain ⟨m, A1, c1, ts, fA, fc, F, hm, rfl, rfl, rfl, S, hf⟩ := hrel
          have hbok : BOk J (k + 1) (valT ts, F) := by rw [hf.out]; exact bok_part hJ'.out hbk.out m
          have htl := hbok.len_le hJ'.out
          have hfl := hbok.len
          simp only [valT_length] at htl hfl
          have hfl' := Lib.hid hfl
          have hlen3 : ∀ t ∈ ts, t.2.2.length ≤ 1048576 := fun t ht => by
            have := (hbok.ok t.2.2 (List.mem_map_of_mem ht)).1
            omega
          have hlen' := Lib.hid hlen3
          have hbok' := Lib.hid hbok
          clear hbok hfl hlen3
          by_cases hltm : m < us.length
          · obtain ⟨gB, ub, ud, y, hBe, hgB, hgBl, hcu, hry, hy, -⟩ := S.stp.at_ hltm
            subst hBe
            have hvy : Hid ((stepsL J xs)[m]? = some y) := by show (stepsL J xs)[m]? = some y; rw [← hvu'.out]; unfold valT; rw [List.getElem?_map, hy.out]; rfl
            have X := Blk.new wr 22 #[.slice (some ⟨ub, 0, none⟩) y.length ud]
            have bx := (Below.refl wr.heap.size wr).alloc (Nat.le_refl _) (.cells #[.slice (some ⟨ub, 0, none⟩) y.length ud] 22)
            have S1 := S.next bx (Nat.le_refl _)
            have hQ := Lib.hid (hasQ_c (wr.alloc (.cells #[.slice (some ⟨ub, 0, none⟩) y.length ud] 22)) w.heap.size A1 c1 ts wr.heap.size (some ⟨ub, 0, none⟩) ud y S1.own (by omega) hlen'.out X (hry.at_world bx))
            have hft := Lib.hid (fold_take (k := k) (m := m) (bfs J k) hvy.out)
            clear S bx hry
            cases hc : hasSS (valT ts) y
            · rw [hc] at hQ
              have hf2 : Hid ((valT ts ++ [y], F ++ [(k : Int)]) = ((stepsL J xs).take (m + 1)).foldl (addS k) (bfs J k)) := by
                show _ = _
                rw [hft.out, ← hf.out, addS_new hc]
              clear hc hft hf
              go_wp2_with fail
              refine hQ.out.mono ?_
              rintro e w3 ⟨rfl, q, rfl⟩
              have S3 := S1.next (below_drewN (Below.refl _ _) q) (Nat.le_refl _)
              have X3 := X.drewN q
              clear hQ S1 X
              generalize (wr.alloc (.cells #[.slice (some ⟨ub, 0, none⟩) y.length ud] 22)).drewN q = W3 at S3 X3 ⊢
              obtain ⟨x0, -, xL⟩ := X3.one
              have b4 := (Below.refl W3.heap.size W3).alloc (Nat.le_refl _) (.cells #[.slice (some ⟨ub, 0, none⟩) y.length ud] 22)
              have S4 := S3.next b4 (Nat.le_refl _)
              have hr4 : RdV (W3.alloc (.cells #[.slice (some ⟨ub, 0, none⟩) y.length ud] 22)) (W3.alloc (.cells #[.slice (some ⟨ub, 0, none⟩) y.length ud] 22)).heap.size (some ⟨W3.heap.size, 0, none⟩) [encT (ub, ud, y)] := RdV.of_blk (Blk.new _ _ _)
              have hsz4 := S4.bel.size
              clear S3 b4 X3
              go_wp2_with (first
                | (at_builtin; refine wpList_append_v rowSS _ rfl (.tmp 47) (.tmp 49) rfl w.heap.size A1 ts.length c1 (ts.map encT) rfl S4.own.row (W3.alloc (.cells #[.slice (some ⟨ub, 0, none⟩) y.length ud] 22)).heap.size (some ⟨W3.heap.size, 0, none⟩) 1 1 [encT (ub, ud, y)] rfl rfl hr4 (one_enc _) (by omega) hsz4 ?_; intro A5 c5 w5 o5 g5 at5; (have S5 := S4.app hy.out o5 g5 at5 (Nat.le_refl _)); (have S6 := S5.next ((Below.refl w5.heap.size w5).alloc (Nat.le_refl _) (.cells #[.int .i64 (k : Int)] 3)) (Nat.le_refl _)); (have hr6 : RdI (w5.alloc (.cells #[.int .i64 (k : Int)] 3)) (w5.alloc (.cells #[.int .i64 (k : Int)] 3)).heap.size (some ⟨w5.heap.size, 0, none⟩) [(k : Int)] := RdI.of_ints (xs := [(k : Int)]) (Blk.new _ _ _)); (have hsz6 := S6.bel.size); clear S4 S5 hr4 hsz4 o5 g5 at5)
                | (at_builtin; refine wpList_append_rd _ rfl (.tmp 51) (.tmp 53) rfl w.heap.size fA F.length fc F rfl rfl S6.frm (w5.alloc (.cells #[.int .i64 (k : Int)] 3)).heap.size (some ⟨w5.heap.size, 0, none⟩) 1 1 [(k : Int)] rfl rfl hr6 (by have := hfl'.out; simp; omega) hsz6 ?_; intro A7 c7 w7 o7 g7 at7)
                | fail)
              have S7 := S6.from_ o7 g7 at7 (Nat.le_refl _)
              have hf3 : Hid ((valT (ts ++ [(ub, ud, y)]), F ++ [(k : Int)]) = ((stepsL J xs).take (m + 1)).foldl (addS k) (bfs J k)) := by
                have : valT (ts ++ [(ub, ud, y)]) = valT ts ++ [y] := by simp [valT]
                rw [this]; exact hf2
              clear S6 o7 g7 at7 hr6 hf2
              go_roundw
              case rel => exact ⟨m + 1, A5, c5, ts ++ [(ub, ud, y)], A7, c7, F ++ [(k : Int)], by omega, by go_num, by rw [List.length_append]; rfl, by rw [List.length_append]; rfl, S7, hf3⟩
              case measure => simp [intOf]; omega
            · rw [hc] at hQ
              have hf2 : Hid ((valT ts, F) = ((stepsL J xs).take (m + 1)).foldl (addS k) (bfs J k)) := by
                show _ = _
                rw [hft.out, ← hf.out, addS_old hc]
              clear hc hft hf
              go_wp2_with fail
              refine hQ.out.mono ?_
              rintro e w3 ⟨rfl, q, rfl⟩
              have S3 := (S1.next (below_drewN (Below.refl _ _) q) (Nat.le_refl _)).skip
              clear S1 X hQ
              go_wp2
              go_roundw
              case rel => exact ⟨m + 1, A1, c1, ts, fA, fc, F, by omega, by go_num, rfl, rfl, S3, hf2⟩
              case measure => simp [intOf]; omega
          · obtain rfl : m = us.length := by omega
            have hbf2 : Hid ((valT ts, F) = bfs J (k + 1)) := by
              show _ = _
              rw [hf.out, bfs_round hbk.out, List.take_of_length_le (by rw [← hvu'.out, valT_length]; exact Nat.le_refl _)]
            have hno2 : Hid (∀ j y, j < k + 1 → (valT ts)[j]? = some y → wantP v y = false) := by
              show ∀ j y, j < k + 1 → (valT ts)[j]? = some y → wantP v y = false
              intro j y hj hy
              have hkl := (List.getElem?_eq_some_iff.1 hbk.out).1
              have hpf := (bfs_prefix J k 1).1
              rw [← hbf2.out] at hpf
              obtain ⟨r, hr⟩ := hpf
              refine hpre.out j y hj ?_
              have h9 : (valT ts)[j]? = ((bfs J k).1 ++ r)[j]? := by rw [hr]
              rw [h9, List.getElem?_append_left (by omega)] at hy
              exact hy
            have hkt : k + 1 ≤ ts.length := by
              have hkl := (List.getElem?_eq_some_iff.1 hbk.out).1
              have hpf := (bfs_prefix J k 1).1
              rw [← hbf2.out] at hpf
              have := hpf.length_le
              simp only [valT_length] at this
              omega
            go_wp2
            go_roundw
            case rel => exact ⟨k + 1, A1, c1, ts, fA, fc, F, hkt, by go_num, rfl, rfl, S.own, S.frm, S.bel, S.ap, hbf2, hno2⟩
            case measure => simp [intOf]; omega
      · have hpx' := Lib.hid hpx
        rw [hpx] at hW
        clear hpx
        go_wp2_with fail
        refine hW.out.mono ?_
        rintro e w1 ⟨rfl, q, rfl⟩
        go_wp2
        go_ret3
        exact ⟨_, _, ts, _, _, F, (k : Int), k, rfl, hO.next (below_drewN (Below.refl _ _) q), hF.next (below_drewN (Below.refl _ _) q), below_drewN H q, hbf.out, hno.out, .inl ⟨rfl, xs, hvx.out, hpx'.out⟩⟩
    · have hke : k = ts.length := by omega
      have hke' := Lib.hid hke
      have hkI : ¬ (k : Int) < (ts.length : Int) := by omega
      clear hke
      go_wp2
      go_ret3
      exact ⟨_, _, ts, _, _, F, -1, k, rfl, hO, hF, H, hbf.out, hno.out, .inr ⟨rfl, hke'.out⟩⟩
set_option maxRecDepth 100000 in
set_option maxHeartbeats 4000000 in
theorem searchC_c (A : Option Addr) (c : Nat) (J : List Int)  (w : World) (hr : RdI w w.heap.size A J) (hl : J.length ≤ 1048576) (hj : jugsB J = true)  :
    Calls Try.prog 38 #[.slice A J.length c, .func (.func 49) #[] #[]] w (SrchP w J (noP)) := by
  have hJ := jok_of hj
  have hJ1 := hJ.l1
  have hJ3 := hJ.l3
  have hJ' := Lib.hid hJ
  have hj' := Lib.hid hj
  clear hj hJ
  have hmk := fun (W : World) => run_make_row' (P := Try.prog) 22 3 (.int .i64 0) 8 Try.underlying22 infoInt rfl .i64 .i64 J.length (by omega) (by omega) W
  have hO0 := (start_ss w J.length hJ3).alloc (.cells #[.int .i64 (-1)] 3)
  have bel0 : Below w.heap.size w (((w.alloc (.cells (madeCells #[.int .i64 0] J.length) 3)).alloc (.cells #[.slice (some ⟨w.heap.size, 0, none⟩) J.length J.length] 22)).alloc (.cells #[.int .i64 (-1)] 3)) := (((Below.refl w.heap.size w).alloc (Nat.le_refl _) _).alloc (by simp) _).alloc (by simp; omega) _
  have hF0 : OwnI (((w.alloc (.cells (madeCells #[.int .i64 0] J.length) 3)).alloc (.cells #[.slice (some ⟨w.heap.size, 0, none⟩) J.length J.length] 22)).alloc (.cells #[.int .i64 (-1)] 3)) w.heap.size (some ⟨w.heap.size + 1 + 1, 0, none⟩) 1 [-1] := by
    have h3 := Blk.new ((w.alloc (.cells (madeCells #[.int .i64 0] J.length) 3)).alloc (.cells #[.slice (some ⟨w.heap.size, 0, none⟩) J.length J.length] 22)) 3 #[.int .i64 (-1)]
    simp only [World.size_alloc] at h3
    exact OwnI.of_blk (xs := [-1]) (by omega) (by unfold maxLen; simp) h3
  go_enter Try.func38, Try.ntmps38
  go_wp2
  clear hmk
  generalize ((w.alloc (.cells (madeCells #[.int .i64 0] J.length) 3)).alloc (.cells #[.slice (some ⟨w.heap.size, 0, none⟩) J.length J.length] 22)).alloc (.cells #[.int .i64 (-1)] 3) = W0 at hO0 bel0 hF0 ⊢
  go_loopw [7, 8, 9] (fun s7 s8 i wr => ∃ (k : Nat) (A1 : Option Addr) (c1 : Nat) (ts : List Tr) (fA : Option Addr) (fc : Nat) (F : List Int), k ≤ ts.length ∧ i = .int .i64 k ∧ s7 = .slice A1 ts.length c1 ∧ s8 = .slice fA F.length fc ∧ OwnSS wr w.heap.size A1 c1 ts ∧ OwnI wr w.heap.size fA fc F ∧ Below w.heap.size w wr ∧ Hid (∀ t ∈ ts, ∀ g, fA = some ⟨g, 0, none⟩ → g ≠ t.1) ∧ Hid ((valT ts, F) = bfs J k) ∧ Hid (∀ j y, j < k → (valT ts)[j]? = some y → noP y = false)) (fun _ _ i _ => 2198 - (intOf i).toNat)
  case atStart => exact ⟨0, _, _, _, _, _, [-1], Nat.zero_le _, rfl, rfl, rfl, hO0, hF0, bel0, (fun t ht g e h => by rw [List.mem_singleton.1 ht] at h; injection e with e; injection e with e; simp only at h; omega), rfl, (fun j y hj => absurd hj (Nat.not_lt_zero _))⟩
  case round =>
    clear hO0 hF0 bel0
    obtain ⟨k, A1, c1, ts, fA, fc, F, hk, rfl, rfl, rfl, hO, hF, H, hap, hbf, hno⟩ := hrel
    have hbok : BOk J k (valT ts, F) := by rw [hbf.out]; exact bfs_ok hJ'.out k
    have htl := hbok.len_le hJ'.out
    have hfl := hbok.len
    simp only [valT_length] at htl hfl
    have hbok' := Lib.hid hbok
    have hfl' := Lib.hid hfl
    clear hbok hfl
    by_cases hlt : k < ts.length
    · obtain ⟨gs, gb, db, xs, rfl, hgs, hgsl, hc, hrx, hx, hd⟩ := hO.at_ hlt
      have hvx : Hid ((valT ts)[k]? = some xs) := by show (valT ts)[k]? = some xs; unfold valT; rw [List.getElem?_map, hx.out]; rfl
      have hok : OkS J xs := hbok'.out.ok xs (List.mem_of_getElem? hvx.out)
      have hxl : xs.length = J.length := hok.1
      have hok' := Lib.hid hok
      have hxl3 : xs.length ≤ 1048576 := by omega
      have hxl' := Lib.hid hxl
      clear hok hxl
      have hW := Lib.hid (wantC_c gb db xs wr)
      cases hpx : noP xs
      · have hpx' := Lib.hid hpx
        rw [hpx] at hW
        clear hpx
        go_wp2_with fail
        refine hW.out.mono ?_
        rintro e w1 ⟨rfl, q, rfl⟩
        replace hO := hO.next (below_drewN (Below.refl _ _) q)
        replace hF := hF.next (below_drewN (Below.refl _ _) q)
        replace H := below_drewN H q
        have hrx1 : RdI (wr.drewN q) (wr.drewN q).heap.size (some ⟨gb, 0, none⟩) xs := hrx
        clear hc hrx hd hW
        have hc1 := (hO.atC hlt)
        obtain ⟨gb2, db2, xs2, -, hc, -, hx2, -⟩ := hc1
        obtain ⟨rfl, rfl, rfl⟩ : gb = gb2 ∧ db = db2 ∧ xs = xs2 := by
          have h9 := Option.some.inj (hx.out.symm.trans hx2.out)
          injection h9 with h9 h10
          injection h10 with h10 h11
          exact ⟨h9, h10, h11⟩
        generalize wr.drewN q = w1 at hO hF H hrx1 hc ⊢
        have hr1 := (hr.below H (Nat.le_refl _)).more H.size
        go_wp2_with fail
        refine (iSteps_c A (some ⟨gb, 0, none⟩) c db J xs w1 hr1 hl hrx1 hxl3).mono ?_
        rintro e w2 ⟨B, d, us, rfl, hU, hvu, b⟩
        rw [stepsP_ok hj'.out hok'.out] at hvu
        have hlA := hO.lt
        have hlF := OwnI.lt_ hF
        have hUl := hU.lt
        have hz1 := H.size
        have hz2 := b.size
        have S0 : S2 w w.heap.size w1.heap.size w2.heap.size 0 us B d (some ⟨gs, 0, none⟩) c1 ts fA fc F w2 :=
          ⟨hO.next b, hF.next b, hU, chain H b (Nat.le_refl _), fun g e => .inl (hlA.1 g e), fun g e => .inl (hlF g e), fun t ht => .inl (.inl (hlA.2 t ht)), hap.out, Nat.le_refl _, fun g e => ⟨by
            rcases hU.row.form with ⟨e0, _⟩ | ⟨g0, e0, h1, _⟩
            · rw [e0] at e; cases e
            · rw [e0] at e; injection e with e; injection e with e; omega, hUl.1 g e⟩, fun u hu => (hU.all u hu).b, hz1⟩
        have hvu' := Lib.hid hvu
        have hul : us.length ≤ 10000 := by
          have := (steps_small J xs).1
          rw [stepsP_ok hj'.out hok'.out, ← hvu, valT_length] at this
          exact this
        clear hvu hO hF H b hU hlA hlF hUl hc hrx1 hr1 hz1 hz2 hap
        have hf0 := Lib.hid (show (valT ts, F) = ((stepsL J xs).take 0).foldl (addS k) (bfs J k) by rw [List.take_zero]; exact hbf.out)
        have hbk : Hid ((bfs J k).1[k]? = some xs) := by show (bfs J k).1[k]? = some xs; rw [← hbf.out]; exact hvx.out
        have hpre : Hid (∀ j y, j < k + 1 → (bfs J k).1[j]? = some y → noP y = false) := by
          show ∀ j y, j < k + 1 → (bfs J k).1[j]? = some y → noP y = false
          rw [← hbf.out]
          intro j y hj hy
          by_cases e : j = k
          · subst e
            have h9 := Option.some.inj (hvx.out.symm.trans hy)
            rw [← h9]; exact hpx'.out
          · exact hno.out j y (by omega) hy
        clear hbf hvx hx hx2 hno hpx' hbok' hfl' hk
        go_wp2
        go_loopw [7, 8, 39] (fun s7 s8 i wr => ∃ (m : Nat) (A1 : Option Addr) (c1 : Nat) (ts : List Tr) (fA : Option Addr) (fc : Nat) (F : List Int), m ≤ us.length ∧ i = .int .i64 m ∧ s7 = .slice A1 ts.length c1 ∧ s8 = .slice fA F.length fc ∧ S2 w w.heap.size w1.heap.size w2.heap.size m us B d A1 c1 ts fA fc F wr ∧ Hid ((valT ts, F) = ((stepsL J xs).take m).foldl (addS k) (bfs J k))) (fun _ _ i _ => us.length - (intOf i).toNat)
        case atStart => exact ⟨0, _, _, ts, _, _, F, Nat.zero_le _, rfl, rfl, rfl, S0, hf0⟩
        case round =>
          clear S0 hf0 hlt htl
          obtain ⟨m, A1, c1, ts, fA, fc, F, hm, rfl, rfl, rfl, S, hf⟩ := hrel
          have hbok : BOk J (k + 1) (valT ts, F) := by rw [hf.out]; exact bok_part hJ'.out hbk.out m
          have htl := hbok.len_le hJ'.out
          have hfl := hbok.len
          simp only [valT_length] at htl hfl
          have hfl' := Lib.hid hfl
          have hlen3 : ∀ t ∈ ts, t.2.2.length ≤ 1048576 := fun t ht => by
            have := (hbok.ok t.2.2 (List.mem_map_of_mem ht)).1
            omega
          have hlen' := Lib.hid hlen3
          have hbok' := Lib.hid hbok
          clear hbok hfl hlen3
          by_cases hltm : m < us.length
          · obtain ⟨gB, ub, ud, y, hBe, hgB, hgBl, hcu, hry, hy, -⟩ := S.stp.at_ hltm
            subst hBe
            have hvy : Hid ((stepsL J xs)[m]? = some y) := by show (stepsL J xs)[m]? = some y; rw [← hvu'.out]; unfold valT; rw [List.getElem?_map, hy.out]; rfl
            have X := Blk.new wr 22 #[.slice (some ⟨ub, 0, none⟩) y.length ud]
            have bx := (Below.refl wr.heap.size wr).alloc (Nat.le_refl _) (.cells #[.slice (some ⟨ub, 0, none⟩) y.length ud] 22)
            have S1 := S.next bx (Nat.le_refl _)
            have hQ := Lib.hid (hasQ_c (wr.alloc (.cells #[.slice (some ⟨ub, 0, none⟩) y.length ud] 22)) w.heap.size A1 c1 ts wr.heap.size (some ⟨ub, 0, none⟩) ud y S1.own (by omega) hlen'.out X (hry.at_world bx))
            have hft := Lib.hid (fold_take (k := k) (m := m) (bfs J k) hvy.out)
            clear S bx hry
            cases hc : hasSS (valT ts) y
            · rw [hc] at hQ
              have hf2 : Hid ((valT ts ++ [y], F ++ [(k : Int)]) = ((stepsL J xs).take (m + 1)).foldl (addS k) (bfs J k)) := by
                show _ = _
                rw [hft.out, ← hf.out, addS_new hc]
              clear hc hft hf
              go_wp2_with fail
              refine hQ.out.mono ?_
              rintro e w3 ⟨rfl, q, rfl⟩
              have S3 := S1.next (below_drewN (Below.refl _ _) q) (Nat.le_refl _)
              have X3 := X.drewN q
              clear hQ S1 X
              generalize (wr.alloc (.cells #[.slice (some ⟨ub, 0, none⟩) y.length ud] 22)).drewN q = W3 at S3 X3 ⊢
              obtain ⟨x0, -, xL⟩ := X3.one
              have b4 := (Below.refl W3.heap.size W3).alloc (Nat.le_refl _) (.cells #[.slice (some ⟨ub, 0, none⟩) y.length ud] 22)
              have S4 := S3.next b4 (Nat.le_refl _)
              have hr4 : RdV (W3.alloc (.cells #[.slice (some ⟨ub, 0, none⟩) y.length ud] 22)) (W3.alloc (.cells #[.slice (some ⟨ub, 0, none⟩) y.length ud] 22)).heap.size (some ⟨W3.heap.size, 0, none⟩) [encT (ub, ud, y)] := RdV.of_blk (Blk.new _ _ _)
              have hsz4 := S4.bel.size
              clear S3 b4 X3
              go_wp2_with (first
                | (at_builtin; refine wpList_append_v rowSS _ rfl (.tmp 47) (.tmp 49) rfl w.heap.size A1 ts.length c1 (ts.map encT) rfl S4.own.row (W3.alloc (.cells #[.slice (some ⟨ub, 0, none⟩) y.length ud] 22)).heap.size (some ⟨W3.heap.size, 0, none⟩) 1 1 [encT (ub, ud, y)] rfl rfl hr4 (one_enc _) (by omega) hsz4 ?_; intro A5 c5 w5 o5 g5 at5; (have S5 := S4.app hy.out o5 g5 at5 (Nat.le_refl _)); (have S6 := S5.next ((Below.refl w5.heap.size w5).alloc (Nat.le_refl _) (.cells #[.int .i64 (k : Int)] 3)) (Nat.le_refl _)); (have hr6 : RdI (w5.alloc (.cells #[.int .i64 (k : Int)] 3)) (w5.alloc (.cells #[.int .i64 (k : Int)] 3)).heap.size (some ⟨w5.heap.size, 0, none⟩) [(k : Int)] := RdI.of_ints (xs := [(k : Int)]) (Blk.new _ _ _)); (have hsz6 := S6.bel.size); clear S4 S5 hr4 hsz4 o5 g5 at5)
                | (at_builtin; refine wpList_append_rd _ rfl (.tmp 51) (.tmp 53) rfl w.heap.size fA F.length fc F rfl rfl S6.frm (w5.alloc (.cells #[.int .i64 (k : Int)] 3)).heap.size (some ⟨w5.heap.size, 0, none⟩) 1 1 [(k : Int)] rfl rfl hr6 (by have := hfl'.out; simp; omega) hsz6 ?_; intro A7 c7 w7 o7 g7 at7)
                | fail)
              have S7 := S6.from_ o7 g7 at7 (Nat.le_refl _)
              have hf3 : Hid ((valT (ts ++ [(ub, ud, y)]), F ++ [(k : Int)]) = ((stepsL J xs).take (m + 1)).foldl (addS k) (bfs J k)) := by
                have : valT (ts ++ [(ub, ud, y)]) = valT ts ++ [y] := by simp [valT]
                rw [this]; exact hf2
              clear S6 o7 g7 at7 hr6 hf2
              go_roundw
              case rel => exact ⟨m + 1, A5, c5, ts ++ [(ub, ud, y)], A7, c7, F ++ [(k : Int)], by omega, by go_num, by rw [List.length_append]; rfl, by rw [List.length_append]; rfl, S7, hf3⟩
              case measure => simp [intOf]; omega
            · rw [hc] at hQ
              have hf2 : Hid ((valT ts, F) = ((stepsL J xs).take (m + 1)).foldl (addS k) (bfs J k)) := by
                show _ = _
                rw [hft.out, ← hf.out, addS_old hc]
              clear hc hft hf
              go_wp2_with fail
              refine hQ.out.mono ?_
              rintro e w3 ⟨rfl, q, rfl⟩
              have S3 := (S1.next (below_drewN (Below.refl _ _) q) (Nat.le_refl _)).skip
              clear S1 X hQ
              go_wp2
              go_roundw
              case rel => exact ⟨m + 1, A1, c1, ts, fA, fc, F, by omega, by go_num, rfl, rfl, S3, hf2⟩
              case measure => simp [intOf]; omega
          · obtain rfl : m = us.length := by omega
            have hbf2 : Hid ((valT ts, F) = bfs J (k + 1)) := by
              show _ = _
              rw [hf.out, bfs_round hbk.out, List.take_of_length_le (by rw [← hvu'.out, valT_length]; exact Nat.le_refl _)]
            have hno2 : Hid (∀ j y, j < k + 1 → (valT ts)[j]? = some y → noP y = false) := by
              show ∀ j y, j < k + 1 → (valT ts)[j]? = some y → noP y = false
              intro j y hj hy
              have hkl := (List.getElem?_eq_some_iff.1 hbk.out).1
              have hpf := (bfs_prefix J k 1).1
              rw [← hbf2.out] at hpf
              obtain ⟨r, hr⟩ := hpf
              refine hpre.out j y hj ?_
              have h9 : (valT ts)[j]? = ((bfs J k).1 ++ r)[j]? := by rw [hr]
              rw [h9, List.getElem?_append_left (by omega)] at hy
              exact hy
            have hkt : k + 1 ≤ ts.length := by
              have hkl := (List.getElem?_eq_some_iff.1 hbk.out).1
              have hpf := (bfs_prefix J k 1).1
              rw [← hbf2.out] at hpf
              have := hpf.length_le
              simp only [valT_length] at this
              omega
            go_wp2
            go_roundw
            case rel => exact ⟨k + 1, A1, c1, ts, fA, fc, F, hkt, by go_num, rfl, rfl, S.own, S.frm, S.bel, S.ap, hbf2, hno2⟩
            case measure => simp [intOf]; omega
      · have hpx' := Lib.hid hpx
        rw [hpx] at hW
        clear hpx
        go_wp2_with fail
        refine hW.out.mono ?_
        rintro e w1 ⟨rfl, q, rfl⟩
        go_wp2
        go_ret3
        exact ⟨_, _, ts, _, _, F, (k : Int), k, rfl, hO.next (below_drewN (Below.refl _ _) q), hF.next (below_drewN (Below.refl _ _) q), below_drewN H q, hbf.out, hno.out, .inl ⟨rfl, xs, hvx.out, hpx'.out⟩⟩
    · have hke : k = ts.length := by omega
      have hke' := Lib.hid hke
      have hkI : ¬ (k : Int) < (ts.length : Int) := by omega
      clear hke
      go_wp2
      go_ret3
      exact ⟨_, _, ts, _, _, F, -1, k, rfl, hO, hF, H, hbf.out, hno.out, .inr ⟨rfl, hke'.out⟩⟩
end Go.Proofs.Ytdnknddldfihdaa
