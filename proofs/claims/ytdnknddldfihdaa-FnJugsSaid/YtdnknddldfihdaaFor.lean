/- The program's StepsFor, FewestSteps, CanMeasure, CountStates. -/
import Derived.Test.YtdnknddldfihdaaSearch
namespace Go.Proofs.Ytdnknddldfihdaa
open Go.ChangeShapes Go.WideShapes Go.ChangeAt Go.RowKit
set_option linter.unusedVariables false

/-- The way back from the first that is found. -/
def pickL (P : Sts) : Option Nat → List (List Int)
  | some i => pathL P (i : Int)
  | none => []
/-- The steps, as the search finds them in n rounds. -/
def stepsN (n : Nat) (J : List Int) (v : Int) : List (List Int) := pickL (bfs J n) ((bfs J n).1.findIdx? fun s => hasL s v)
def forP (n : Nat) (J : List Int) (v : Int) : List (List Int) := if jugsB J && inB v 0 12 then stepsN n J v else []
def cntS (n : Nat) (J : List Int) : Int := if jugsB J then ((bfs J n).1.length : Int) else -1
theorem forP_no {n : Nat} {J : List Int} {v : Int} (h : jugsB J = false ∨ inB v 0 12 = false) : forP n J v = [] := by
  unfold forP
  rcases h with h | h <;> simp [h]
theorem forP_yes {n : Nat} {J : List Int} {v : Int} (h1 : jugsB J = true) (h2 : inB v 0 12 = true) : forP n J v = stepsN n J v := by
  unfold forP
  rw [if_pos (by rw [h1, h2]; decide)]
theorem bfs_lim {J : List Int} (hJ : JOk J) {k n : Nat} (h : ¬ k < (bfs J k).1.length) (hn : 2197 ≤ n) : bfs J k = bfs J n := by
  rcases Nat.le_total k n with hk | hk
  · obtain ⟨m, e⟩ := Nat.exists_eq_add_of_le hk
    rw [e, bfs_end h m]
  · obtain ⟨m, e⟩ := Nat.exists_eq_add_of_le hk
    have := (bfs_ok hJ n).len_le hJ
    rw [e, bfs_end (k := n) (by omega) m]
theorem bfs_in_lim {J : List Int} (hJ : JOk J) {k n : Nat} (hk : k ≤ (bfs J k).1.length) (hn : 2197 ≤ n) : (bfs J k).1 <+: (bfs J n).1 ∧ (bfs J k).2 <+: (bfs J n).2 := by
  have h := (bfs_ok hJ k).len_le hJ
  obtain ⟨m, e⟩ := Nat.exists_eq_add_of_le (show k ≤ n by omega)
  rw [e]
  exact bfs_prefix J k m
theorem search_not {J : List Int} {P : Sts} {k : Nat} (hb : P = bfs J k) (hk : k = P.1.length) : ¬ k < (bfs J k).1.length := by
  have h : (bfs J k).1.length = P.1.length := by rw [hb]
  omega
theorem search_lim {J : List Int} (hJ : JOk J) {P : Sts} {k n : Nat} (hn : 2197 ≤ n) (hb : P = bfs J k) (hk : k = P.1.length) : P = bfs J n := hb.trans (bfs_lim hJ (search_not hb hk) hn)
theorem search_hit {J : List Int} {v : Int} {P Q : Sts} {k n : Nat} (hbok : BOk J k P) (hQ : BOk J n Q) (h1 : P.1 <+: Q.1) (h2 : P.2 <+: Q.2) (hno : ∀ j y, j < k → P.1[j]? = some y → hasL y v = false) {y : List Int} (hy : P.1[k]? = some y) (hyv : hasL y v = true) : Q.1.findIdx? (fun s => hasL s v) = some k ∧ pathL Q (k : Int) = pathL P (k : Int) := by
  have hkl := (List.getElem?_eq_some_iff.1 hy).1
  refine ⟨?_, (path_prefix hbok hQ h1 h2 k k (Nat.le_refl _) hkl).symm⟩
  obtain ⟨t, ht⟩ := h1
  have hlen : P.1.length ≤ Q.1.length := by rw [← ht]; simp
  rw [List.findIdx?_eq_some_iff_getElem]
  refine ⟨by omega, ?_, fun j hj => ?_⟩
  · have h1 : Q.1[k]? = some y := by rw [← ht, List.getElem?_append_left hkl]; exact hy
    rw [(List.getElem?_eq_some_iff.1 h1).2]; exact hyv
  · have hjl : j < P.1.length := by omega
    have h1 : Q.1[j]? = some P.1[j] := by rw [← ht, List.getElem?_append_left hjl]; exact List.getElem?_eq_getElem hjl
    rw [(List.getElem?_eq_some_iff.1 h1).2, hno j P.1[j] hj (List.getElem?_eq_getElem hjl)]
    simp
theorem search_miss {v : Int} {P : Sts} {k : Nat} (hno : ∀ j y, j < k → P.1[j]? = some y → hasL y v = false) (hk : k = P.1.length) : P.1.findIdx? (fun s => hasL s v) = none := by
  rw [List.findIdx?_eq_none_iff]
  intro x hx
  obtain ⟨j, hj, e⟩ := List.getElem_of_mem hx
  exact hno j x (by omega) (by rw [← e]; exact List.getElem?_eq_getElem hj)
theorem search_for {J : List Int} {v : Int} (hJ : JOk J) {P : Sts} {k n : Nat} {last : Int} (hn : 2197 ≤ n) (hb : P = bfs J k) (hno : ∀ j y, j < k → P.1[j]? = some y → hasL y v = false) (h : (last = (k : Int) ∧ ∃ y, P.1[k]? = some y ∧ hasL y v = true) ∨ (last = -1 ∧ k = P.1.length)) : stepsN n J v = pathL P last := by
  unfold stepsN
  rcases h with ⟨e, y, hy, hyv⟩ | ⟨e, hk⟩
  · have hkl := (List.getElem?_eq_some_iff.1 hy).1
    have hbok : BOk J k P := by rw [hb]; exact bfs_ok hJ k
    have hle : k ≤ (bfs J k).1.length := by rw [← hb]; exact Nat.le_of_lt hkl
    have hpre := bfs_in_lim hJ hle hn
    rw [← hb] at hpre
    have h9 := search_hit hbok (bfs_ok hJ n) hpre.1 hpre.2 hno hy hyv
    rw [e, h9.1]
    exact h9.2
  · have hf := search_lim hJ hn hb hk
    have h9 := search_miss hno hk
    rw [hf] at h9
    rw [e, path_neg, h9]
    rfl
theorem BOk.from_ {J : List Int} {k : Nat} {P : Sts} (h : BOk J k P) {n : Nat} (hn : n < P.1.length) : ∃ f : Int, P.2[n]? = some f ∧ -1 ≤ f ∧ f < (n : Int) ∧ P.2.getD n (-1) = f := by
  rcases n with _ | n
  · exact ⟨-1, h.f0, by omega, by omega, by rw [List.getD_eq_getElem?_getD, h.f0]; rfl⟩
  · obtain ⟨f, x, y, e, hf, _⟩ := h.fr (n + 1) (by omega) hn
    exact ⟨(f : Int), e, by omega, by omega, by rw [List.getD_eq_getElem?_getD, e]; rfl⟩
theorem OwnSS.atT {w : World} {base c k : Nat} {A : Option Addr} {ts : List Tr} (h : OwnSS w base A c ts) (hk : k < ts.length) : ∃ g b d xs, A = some ⟨g, 0, none⟩ ∧ g < w.heap.size ∧ w.cell? ⟨g, k, none⟩ = some (.slice (some ⟨b, 0, none⟩) xs.length d) ∧ Hid (ts[k]? = some (b, d, xs)) ∧ Hid ((valT ts).getD k [] = xs) := by
  obtain ⟨g, b, d, xs, e, h1, h2, h3, h4, h5, h6⟩ := h.at_ hk
  refine ⟨g, b, d, xs, e, h2, h3, h5, ?_⟩
  show (valT ts).getD k [] = xs
  unfold valT
  rw [List.getD_eq_getElem?_getD, List.getElem?_map, h5.out]; rfl
set_option maxRecDepth 100000 in
set_option maxHeartbeats 4000000 in
theorem iFor_c (nn : Nat) (hnn : 2197 ≤ nn) (A : Option Addr) (c : Nat) (J : List Int) (v : Int) (w : World) (hr : RdI w w.heap.size A J) (hl : J.length ≤ 1048576) :
    Calls Try.prog 17 #[.slice A J.length c, .int .i64 v] w (RetSS w (forP nn J v)) := by
  have b1 := (Below.refl w.heap.size w).alloc (Nat.le_refl _) (.cells #[.int .i64 v] 3)
  have V1 := Blk.new w 3 #[.int .i64 v]
  have hr1 := hr.at_world b1
  obtain ⟨v0, -, vL⟩ := V1.one
  have hcj := Lib.hid (iJugsOk_c A c J _ hr1 hl)
  cases hj : jugsB J
  · have hno := Lib.hid (forP_no (n := nn) (J := J) (v := v) (.inl hj))
    rw [hj] at hcj
    go_enter Try.func17, Try.ntmps17
    go_wp2_with fail
    refine hcj.out.mono ?_
    rintro e w' ⟨rfl, rfl⟩
    go_wp2
    go_ret
    exact ⟨none, 0, [], rfl, OwnSS.nil _ _, hno.out.symm, b1⟩
  rw [hj] at hcj
  cases hin : inB v 0 12
  · have hno := Lib.hid (forP_no (n := nn) (J := J) (v := v) (.inr hin))
    go_enter Try.func17, Try.ntmps17
    go_wp2_with fail
    refine hcj.out.mono ?_
    rintro e w' ⟨rfl, rfl⟩
    go_wp2_with (go_at_call 34; refine (within_c _ _ _ _).mono ?_; rintro e w' ⟨rfl, rfl⟩)
    go_ret
    exact ⟨none, 0, [], rfl, OwnSS.nil _ _, hno.out.symm, b1⟩
  · have hyes := Lib.hid (forP_yes (n := nn) hj hin)
    have hJ := Lib.hid (jok_of hj)
    have hS := Lib.hid (searchS_c A c J w.heap.size v _ hr1 hl hj V1)
    have hsz1 : w.heap.size ≤ (w.alloc (.cells #[.int .i64 v] 3)).heap.size := by simp
    clear hj
    go_enter Try.func17, Try.ntmps17
    go_wp2_with fail
    refine hcj.out.mono ?_
    rintro e w' ⟨rfl, rfl⟩
    go_wp2_with (first | (go_at_call 34; refine (within_c _ _ _ _).mono ?_; rintro e w' ⟨rfl, rfl⟩) | fail)
    refine hS.out.mono ?_
    rintro e w1 ⟨As, cs, ts, fA, fc, F, last, k, rfl, hO, hF, b, hbf, hno, hlast⟩
    replace hO := hO.more hsz1
    replace hF := OwnI.more hF hsz1
    have H := chain b1 b (Nat.le_refl _)
    have hJJ := hJ.out
    have hbok : BOk J k (valT ts, F) := by rw [hbf]; exact bfs_ok hJJ k
    have hres := Lib.hid (show forP nn J v = pathL (valT ts, F) last by
      rw [hyes.out]
      exact search_for hJJ hnn hbf hno (by rw [valT_length]; exact hlast))
    have htl := hbok.len_le hJJ
    have hfl := hbok.len
    simp only [valT_length] at htl hfl
    have hfl' := Lib.hid hfl
    have hlr : -1 ≤ last ∧ last < (ts.length : Int) := by
      rcases hlast with ⟨e, y, hy, _⟩ | ⟨e, _⟩
      · have h1 := (List.getElem?_eq_some_iff.1 hy).1
        rw [valT_length] at h1
        omega
      · omega
    obtain ⟨hl0, hl1⟩ := hlr
    have hbok' := Lib.hid hbok
    have hsz : w.heap.size ≤ w1.heap.size := H.size
    clear hbok hfl hlast hbf hno hS hcj hr1 V1 v0 vL b1 b hJJ
    go_wp2
    go_loopw [8, 9] (fun s8 i wr => ∃ (n : Int) (A2 : Option Addr) (c2 : Nat) (os : List Tr), -1 ≤ n ∧ n < (ts.length : Int) ∧ i = .int .i64 n ∧ s8 = .slice A2 os.length c2 ∧ OwnV wr w1.heap.size 22 1 A2 os.length c2 (os.map encT) ∧ Below w1.heap.size w1 wr ∧ Hid (∀ t ∈ os, ∃ j : Nat, n < (j : Int) ∧ ts[j]? = some t) ∧ Hid (os.Pairwise fun t u => t.1 ≠ u.1) ∧ Hid (pathL (valT ts, F) last = pathL (valT ts, F) n ++ (valT os).reverse) ∧ (os.length : Int) + n ≤ last) (fun _ i _ => (intOf i + 1).toNat)
    case atStart => exact ⟨last, none, 0, [], hl0, hl1, rfl, rfl, OwnV.nil _ _ _ _, Below.refl _ _, (fun t ht => by cases ht), .nil, (show _ = _ ++ (valT []).reverse by rw [show (valT []).reverse = [] from rfl, List.append_nil]), by simp⟩
    case round =>
      obtain ⟨n, A2, c2, os, hn0, hn1, rfl, rfl, hV, HB, hidx, hdis, hpath, hol⟩ := hrel
      by_cases hneg : 0 ≤ n
      · obtain ⟨m, rfl⟩ := Int.eq_ofNat_of_zero_le hneg
        have hml : m < ts.length := by omega
        obtain ⟨f, hf, hf0, hf1, hf2⟩ := hbok'.out.from_ (n := m) (by rw [valT_length]; exact hml)
        have hst := Lib.hid (path_step hbok'.out m)
        obtain ⟨gs, b, d, xs, rfl, hgs, hc, hx, hxv⟩ := (hO.next HB).atT hml
        obtain ⟨gf, rfl, -, hgf, -, -⟩ := OwnI.some_ hF (show m < F.length by have := hfl'.out; omega)
        have hfc := (OwnI.next hF HB).cellI hf
        have hf2' := Lib.hid hf2
        have hfF := Lib.hid hf
        have hmF : (m : Int) < (F.length : Int) := by have := hfl'.out; omega
        have hr4 : RdV (wr.alloc (.cells #[.slice (some ⟨b, 0, none⟩) xs.length d] 22)) (wr.alloc (.cells #[.slice (some ⟨b, 0, none⟩) xs.length d] 22)).heap.size (some ⟨wr.heap.size, 0, none⟩) [encT (b, d, xs)] := RdV.of_blk (Blk.new _ _ _)
        have hVa := hV.alloc (.cells #[.slice (some ⟨b, 0, none⟩) xs.length d] 22)
        have HBa := HB.alloc HB.size (.cells #[.slice (some ⟨b, 0, none⟩) xs.length d] 22)
        have hsza := HBa.size
        have hge := hVa.row_ge
        clear hf hf2 hV
        go_wp2_with (first | (at_builtin; refine wpList_append_v rowSS _ rfl (.tmp 32) (.tmp 37) rfl w1.heap.size A2 os.length c2 (os.map encT) rfl hVa (wr.alloc (.cells #[.slice (some ⟨b, 0, none⟩) xs.length d] 22)).heap.size (some ⟨wr.heap.size, 0, none⟩) 1 1 [encT (b, d, xs)] rfl rfl hr4 (one_enc _) (by omega) hsza ?_; intro A5 c5 w5 o5 g5 at5; (have HB5 : Below w1.heap.size w1 w5 := HBa.grown g5 hsza (fun k hk => hge k hk)); (have hfc5 := (OwnI.next hF HB5).cellI (i := m) (x := f) hfF.out); clear hfc hr4 hVa HBa hsza hge g5 at5) | fail)
        go_roundw
        case rel =>
          refine ⟨f, A5, c5, os ++ [(b, d, xs)], hf0, by omega, rfl, by rw [List.length_append]; rfl, by rw [List.length_append, List.map_append]; exact o5, HB5, ?_, ?_, ?_, by rw [List.length_append]; simp; omega⟩
          · intro t ht
            rcases List.mem_append.1 ht with h | h
            · obtain ⟨j, hj, hjt⟩ := hidx.out t h
              exact ⟨j, by omega, hjt⟩
            · rw [List.mem_singleton.1 h]; exact ⟨m, by omega, hx.out⟩
          · show (os ++ [(b, d, xs)]).Pairwise fun t u => t.1 ≠ u.1
            rw [List.pairwise_append]
            refine ⟨hdis.out, List.pairwise_singleton _ _, fun t ht u hu => ?_⟩
            rw [List.mem_singleton.1 hu]
            obtain ⟨j, hj, hjt⟩ := hidx.out t ht
            obtain ⟨hjl, hje⟩ := List.getElem?_eq_some_iff.1 hjt
            obtain ⟨hml2, hme⟩ := List.getElem?_eq_some_iff.1 hx.out
            have h9 := List.pairwise_iff_getElem.1 hO.dis m j hml hjl (by omega)
            rw [hje, hme] at h9
            exact fun e => h9 e.symm
          · show pathL (valT ts, F) last = pathL (valT ts, F) f ++ (valT (os ++ [(b, d, xs)])).reverse
            have h1 := hst.out
            simp only at h1
            rw [hf2'.out, hxv.out] at h1
            have h2 := hpath.out
            rw [h1] at h2
            rw [h2]
            have h3 : valT (os ++ [(b, d, xs)]) = valT os ++ [xs] := by simp [valT]
            rw [h3]
            simp
        case measure => simp [intOf]; omega
      · obtain rfl : n = -1 := by omega
        have hOs : OwnSS wr w.heap.size A2 c2 os := ⟨hV.more hsz, fun t ht => by
          obtain ⟨j, _, hjt⟩ := hidx.out t ht
          exact (hO.next HB).all t (List.mem_of_getElem? hjt), hdis.out⟩
        have hls : ∀ t ∈ os, t.2.2.length ≤ 1048576 := fun t ht => by
          obtain ⟨j, _, hjt⟩ := hidx.out t ht
          have h9 := (hbok'.out.ok t.2.2 (List.mem_map_of_mem (List.mem_of_getElem? hjt))).1
          have := hJ.out.l3
          omega
        have hR := Lib.hid (revSS_c wr w.heap.size A2 c2 os hOs (Nat.le_trans hsz HB.size) (by omega) hls)
        have hval := Lib.hid (show valT os.reverse = forP nn J v by
          rw [hres.out, hpath.out, path_neg, List.nil_append]
          simp [valT])
        have Hw := chain H HB (Nat.le_refl _)
        clear hOs hls hV HB hidx hdis hpath
        go_wp2_with fail
        refine hR.out.mono ?_
        rintro e w9 ⟨rfl, hO9, b9⟩
        go_wp2
        go_ret
        exact ⟨A2, c2, os.reverse, by rw [List.length_reverse]; rfl, hO9, hval.out, Hw.trans b9⟩
theorem path_in {J : List Int} {k : Nat} {P : Sts} (h : BOk J k P) : ∀ (n i : Nat), i ≤ n → i < P.1.length → (pathL P (i : Int)).length ≤ i + 1 ∧ ∀ y ∈ pathL P (i : Int), y ∈ P.1 := by
  intro n
  induction n with
  | zero =>
    intro i hi hil
    obtain ⟨f, hf, h0, h1, h2⟩ := h.from_ hil
    have hfe : f = -1 := by omega
    have hm : P.1.getD i [] ∈ P.1 := by rw [List.getD_eq_getElem?_getD, List.getElem?_eq_getElem hil]; exact List.getElem_mem hil
    rw [path_step h i, h2, hfe, path_neg]
    exact ⟨by simp, fun y hy => by rw [List.nil_append, List.mem_singleton] at hy; rw [hy]; exact hm⟩
  | succ n ih =>
    intro i hi hil
    obtain ⟨f, hf, h0, h1, h2⟩ := h.from_ hil
    have hm : P.1.getD i [] ∈ P.1 := by rw [List.getD_eq_getElem?_getD, List.getElem?_eq_getElem hil]; exact List.getElem_mem hil
    rw [path_step h i, h2]
    by_cases hf0 : f < 0
    · have hfe : f = -1 := by omega
      rw [hfe, path_neg]
      exact ⟨by simp, fun y hy => by rw [List.nil_append, List.mem_singleton] at hy; rw [hy]; exact hm⟩
    · obtain ⟨j, rfl⟩ := Int.eq_ofNat_of_zero_le (show 0 ≤ f by omega)
      obtain ⟨h3, h4⟩ := ih j (by omega) (by omega)
      refine ⟨by rw [List.length_append]; simp; omega, fun y hy => ?_⟩
      rcases List.mem_append.1 hy with h5 | h5
      · exact h4 y h5
      · rw [List.mem_singleton.1 h5]; exact hm
theorem pick_small {J : List Int} (hJ : JOk J) {n : Nat} {P : Sts} (h : BOk J n P) (o : Option Nat) (ho : ∀ i, o = some i → i < P.1.length) : SmallL (pickL P o) := by
  cases o with
  | none => exact ⟨by simp [pickL], by simp [pickL]⟩
  | some i =>
    have hi := ho i rfl
    obtain ⟨h1, h2⟩ := path_in h i i (Nat.le_refl _) hi
    have h3 := h.len_le hJ
    refine ⟨by show (pathL P (i : Int)).length ≤ 10000; omega, fun y hy => ?_⟩
    have h4 := (h.ok y (h2 y hy)).1
    have h5 := hJ.l3
    omega
theorem for_small (n : Nat) (J : List Int) (v : Int) : SmallL (forP n J v) := by
  unfold forP
  split
  · rename_i h
    simp only [Bool.and_eq_true] at h
    have hJ := jok_of h.1
    unfold stepsN
    refine pick_small hJ (bfs_ok hJ n) _ (fun i hi => ?_)
    rw [List.findIdx?_eq_some_iff_getElem] at hi
    exact hi.1
  · exact ⟨by simp, by simp⟩
def fewP (n : Nat) (J : List Int) (v : Int) : Int := ((forP n J v).length : Int) - 1
theorem iFew_c (nn : Nat) (hnn : 2197 ≤ nn) (A : Option Addr) (c : Nat) (J : List Int) (v : Int) (w : World) (hr : RdI w w.heap.size A J) (hl : J.length ≤ 1048576) :
    Calls Try.prog 18 #[.slice A J.length c, .int .i64 v] w fun e w' => e = .returned (.int .i64 (fewP nn J v)) ∧ Below w.heap.size w w' := by
  have hsm := (for_small nn J v).1
  go_enter Try.func18, Try.ntmps18
  go_wp2_with fail
  refine (iFor_c nn hnn A c J v w hr hl).mono ?_
  rintro e w1 ⟨B, d, ts, rfl, hO, hv, b⟩
  have hlen : (forP nn J v).length = ts.length := by rw [← hv, valT_length]
  have hf := Lib.hid (show fewP nn J v = (ts.length : Int) - 1 by unfold fewP; rw [hlen])
  have htl : ts.length ≤ 10000 := by omega
  clear hlen hv hsm hO
  go_wp2
  go_ret
  exact ⟨by rw [hf.out]; rfl, b⟩
theorem iCan_c (nn : Nat) (hnn : 2197 ≤ nn) (A : Option Addr) (c : Nat) (J : List Int) (v : Int) (w : World) (hr : RdI w w.heap.size A J) (hl : J.length ≤ 1048576) :
    Calls Try.prog 19 #[.slice A J.length c, .int .i64 v] w fun e w' => e = .returned (.bool (decide (0 ≤ fewP nn J v))) ∧ Below w.heap.size w w' := by
  have h := Lib.hid (iFew_c nn hnn A c J v w hr hl)
  generalize fewP nn J v = x at h ⊢
  by_cases hx : 0 ≤ x
  · rw [decide_eq_true hx]
    go_enter Try.func19, Try.ntmps19
    go_wp2_with fail
    refine h.out.mono ?_
    rintro e w1 ⟨rfl, b⟩
    go_wp2
    go_ret
    exact ⟨rfl, b⟩
  · have hxd := decide_eq_false hx
    rw [hxd]
    go_enter Try.func19, Try.ntmps19
    go_wp2_with fail
    refine h.out.mono ?_
    rintro e w1 ⟨rfl, b⟩
    go_wp2
    go_ret
    exact ⟨rfl, b⟩
theorem cntS_no {n : Nat} {J : List Int} (h : jugsB J = false) : cntS n J = -1 := by unfold cntS; rw [h]; rfl
theorem cntS_yes {n : Nat} {J : List Int} (h : jugsB J = true) : cntS n J = ((bfs J n).1.length : Int) := by unfold cntS; rw [if_pos h]
theorem iCnt_c (nn : Nat) (hnn : 2197 ≤ nn) (A : Option Addr) (c : Nat) (J : List Int) (w : World) (hr : RdI w w.heap.size A J) (hl : J.length ≤ 1048576) :
    Calls Try.prog 23 #[.slice A J.length c] w fun e w' => e = .returned (.int .i64 (cntS nn J)) ∧ Below w.heap.size w w' := by
  have hcj := Lib.hid (iJugsOk_c A c J _ hr hl)
  cases hj : jugsB J
  · rw [hj] at hcj
    rw [cntS_no hj]
    go_enter Try.func23, Try.ntmps23
    go_wp2_with fail
    refine hcj.out.mono ?_
    rintro e w' ⟨rfl, rfl⟩
    go_wp2
    go_ret
    exact ⟨rfl, Below.refl _ _⟩
  · rw [hj] at hcj
    have hres := Lib.hid (cntS_yes (n := nn) hj)
    have hJ := Lib.hid (jok_of hj)
    have hS := Lib.hid (searchC_c A c J w hr hl hj)
    clear hj
    go_enter Try.func23, Try.ntmps23
    go_wp2_with fail
    refine hcj.out.mono ?_
    rintro e w' ⟨rfl, rfl⟩
    go_wp2_with fail
    refine hS.out.mono ?_
    rintro e w1 ⟨As, cs, ts, fA, fc, F, last, k, rfl, hO, hF, b, hbf, hno, hlast⟩
    have hk : k = ts.length := by
      rcases hlast with ⟨_, y, _, h⟩ | ⟨_, h⟩
      · cases h
      · exact h
    have hfin := search_lim hJ.out hnn hbf (show k = (valT ts).length by rw [valT_length]; exact hk)
    have hval := Lib.hid (show cntS nn J = (ts.length : Int) by rw [hres.out, ← hfin]; show ((valT ts).length : Int) = _; rw [valT_length])
    clear hfin hlast hno hbf hF hO hS hk
    go_wp2
    go_ret
    exact ⟨by rw [hval.out]; rfl, b⟩
end Go.Proofs.Ytdnknddldfihdaa
