/- The reference's StepsFor, FewestSteps, CanMeasure, CountStates. -/
import Derived.Test.YtdnknddldfihdaaSearchS
namespace Go.Proofs.Ytdnknddldfihdaa
open Go.ChangeShapes Go.WideShapes Go.ChangeAt Go.RowKit
set_option linter.unusedVariables false

theorem find_first {P : Sts} {v : Int} {i : Nat} (hno : ∀ j y, j < i → P.1[j]? = some y → hasL y v = false) {y : List Int} (hy : P.1[i]? = some y) (hyv : hasL y v = true) : P.1.findIdx? (fun s => hasL s v) = some i := by
  obtain ⟨hil, hie⟩ := List.getElem?_eq_some_iff.1 hy
  rw [List.findIdx?_eq_some_iff_getElem]
  refine ⟨hil, by rw [hie]; exact hyv, fun j hj => ?_⟩
  rw [hno j P.1[j] hj (List.getElem?_eq_getElem (by omega))]
  simp
theorem hasL_take {xs : List Int} {v x : Int} {k : Nat} (hx : xs[k]? = some x) : hasL (xs.take (k + 1)) v = (hasL (xs.take k) v || (x == v)) := by
  unfold hasL
  rw [List.take_add_one, hx, List.contains_eq_any_beq, List.any_append, ← List.contains_eq_any_beq]
  congr 1
  simp only [Option.toList_some, List.any_cons, List.any_nil, Bool.or_false]
  exact Bool.beq_comm
set_option maxRecDepth 100000 in
set_option maxHeartbeats 4000000 in
theorem sFor_c (nn : Nat) (hnn : 2197 ≤ nn) (A : Option Addr) (c : Nat) (J : List Int) (v : Int) (w : World) (hr : RdI w w.heap.size A J) (hl : J.length ≤ 1048576) :
    Calls Try.prog 32 #[.slice A J.length c, .int .i64 v] w (RetSS w (forP nn J v)) := by
  have hE := OwnSS.empty w
  have b1 := (Below.refl w.heap.size w).alloc (Nat.le_refl _) (.cells #[] 22)
  have hr1 := hr.at_world b1
  have hcj := Lib.hid (sJugsOk_c A c J _ hr1 hl)
  cases hj : jugsB J
  · have hno := Lib.hid (forP_no (n := nn) (J := J) (v := v) (.inl hj))
    rw [hj] at hcj
    go_enter Try.func32, Try.ntmps32
    go_wp2_with fail
    refine hcj.out.mono ?_
    rintro e w' ⟨rfl, rfl⟩
    go_wp2
    go_ret
    exact ⟨_, _, [], rfl, hE, hno.out.symm, b1⟩
  rw [hj] at hcj
  cases hin : inB v 0 12
  · have hno := Lib.hid (forP_no (n := nn) (J := J) (v := v) (.inr hin))
    go_enter Try.func32, Try.ntmps32
    go_wp2_with fail
    refine hcj.out.mono ?_
    rintro e w' ⟨rfl, rfl⟩
    go_wp2_with (go_at_call 33; refine (l01In_c _ _ _ _).mono ?_; rintro e w' ⟨rfl, rfl⟩)
    go_ret
    exact ⟨_, _, [], rfl, hE, hno.out.symm, b1⟩
  · have hyes := Lib.hid (forP_yes (n := nn) hj hin)
    have hJ := Lib.hid (jok_of hj)
    have hS := Lib.hid (sSearch_c A c J _ hr1 hl hj)
    have hsz1 : w.heap.size ≤ (w.alloc (.cells #[] 22)).heap.size := by simp
    have hJl := (jok_of hj).l1
    have hJl3 := (jok_of hj).l3
    clear hj
    go_enter Try.func32, Try.ntmps32
    go_wp2_with fail
    refine hcj.out.mono ?_
    rintro e w' ⟨rfl, rfl⟩
    go_wp2_with (first | (go_at_call 33; refine (l01In_c _ _ _ _).mono ?_; rintro e w' ⟨rfl, rfl⟩) | fail)
    refine hS.out.mono ?_
    rintro e w1 ⟨As, cs, ts, fA, fc, F, k, rfl, hO, hF, b, hbf, hk⟩
    replace hO := hO.more hsz1
    replace hF := OwnI.more hF hsz1
    have H := chain b1 b (Nat.le_refl _)
    have hE1 := hE.next b
    have hJJ := hJ.out
    have hbok : BOk J k (valT ts, F) := by rw [hbf]; exact bfs_ok hJJ k
    have htl := hbok.len_le hJJ
    have hfl := hbok.len
    simp only [valT_length] at htl hfl
    have hfl' := Lib.hid hfl
    have hfin := Lib.hid (search_lim hJJ hnn hbf (show k = (valT ts).length by rw [valT_length]; exact hk))
    have hbok' := Lib.hid hbok
    have hsz : w.heap.size ≤ w1.heap.size := H.size
    clear hbok hfl hbf hk hS hcj hr1 b1 b hJJ hE hsz1
    go_wp2
    go_loopw [5, 8] (fun s5 i wr => ∃ (k : Nat), k ≤ ts.length ∧ i = .int .i64 k ∧ s5 = .slice (some ⟨w.heap.size, 0, none⟩) 0 0 ∧ w1 = wr ∧ Hid (∀ j y, j < k → (valT ts)[j]? = some y → hasL y v = false)) (fun _ i _ => ts.length - (intOf i).toNat)
    case atStart => exact ⟨0, Nat.zero_le _, rfl, rfl, rfl, fun j y hj => absurd hj (Nat.not_lt_zero _)⟩
    case round =>
      obtain ⟨m, hm, rfl, rfl, rfl, hno⟩ := hrel
      by_cases hlt : m < ts.length
      · obtain ⟨gs, gb, db, xs, rfl, -, hgsl, hc, hrx, hx, hd⟩ := hO.at_ hlt
        have hvx : Hid ((valT ts)[m]? = some xs) := by show (valT ts)[m]? = some xs; unfold valT; rw [List.getElem?_map, hx.out]; rfl
        have hxl : xs.length = J.length := (hbok'.out.ok xs (List.mem_of_getElem? hvx.out)).1
        have hxl' := Lib.hid hxl
        clear hxl
        go_wp2
        go_loopw [9, 10] (fun fo i wr => ∃ (j : Nat), j ≤ J.length ∧ i = .int .i64 j ∧ fo = .bool (hasL (xs.take j) v) ∧ w1 = wr) (fun _ i _ => J.length - (intOf i).toNat)
        case atStart => exact ⟨0, Nat.zero_le _, rfl, rfl, rfl⟩
        case round =>
          obtain ⟨j, hjl, rfl, rfl, rfl⟩ := hrel
          by_cases hltj : j < J.length
          · have hltx : (j : Int) < (xs.length : Int) := by have := hxl'.out; omega
            obtain ⟨x, -, hcx, hxx⟩ := hrx.atC (show j < xs.length by have := hxl'.out; omega)
            rw [Nat.zero_add] at hcx
            have hts := Lib.hid (hasL_take (v := v) hxx.out)
            cases hb : hasL (xs.take j) v
            · rw [hb, Bool.false_or] at hts
              cases hxv : x == v
              · rw [hxv] at hts
                go_wp2
                go_roundw
                case rel => exact ⟨j + 1, by omega, by go_num, by rw [hts.out], by first | trivial | rfl⟩
                case measure => simp [intOf]; omega
              · rw [hxv] at hts
                go_wp2
                go_roundw
                case rel => exact ⟨j + 1, by omega, by go_num, by rw [hts.out], by first | trivial | rfl⟩
                case measure => simp [intOf]; omega
            · rw [hb, Bool.true_or] at hts
              go_wp2
              go_roundw
              case rel => exact ⟨j + 1, by omega, by go_num, by rw [hts.out], by first | trivial | rfl⟩
              case measure => simp [intOf]; omega
          · obtain rfl : j = J.length := by omega
            have hfull : hasL (xs.take J.length) v = hasL xs v := by rw [List.take_of_length_le (by have := hxl'.out; omega)]
            rw [hfull]
            cases hb : hasL xs v
            · have hb' := Lib.hid hb
              clear hfull hb
              go_wp2
              go_roundw
              case rel =>
                refine ⟨m + 1, by omega, by go_num, rfl, by first | trivial | rfl, fun j y hj hy => ?_⟩
                by_cases e : j = m
                · subst e
                  rw [hvx.out] at hy
                  injection hy with hy
                  rw [← hy]; exact hb'.out
                · exact hno.out j y (by omega) hy
              case measure => simp [intOf]; omega
            · have hres := Lib.hid (show forP nn J v = pathL (valT ts, F) (m : Int) by
                rw [hyes.out]
                unfold stepsN
                rw [← hfin.out, find_first hno.out hvx.out hb]
                rfl)
              clear hfull hb hc hrx hd hno
              go_wp2
              go_loopw [5, 8] (fun s5 i wr => ∃ (n : Int) (A2 : Option Addr) (c2 : Nat) (os : List Tr), -1 ≤ n ∧ n < (ts.length : Int) ∧ i = .int .i64 n ∧ s5 = .slice A2 os.length c2 ∧ OwnV wr w.heap.size 22 1 A2 os.length c2 (os.map encT) ∧ Below w1.heap.size w1 wr ∧ Hid (∀ t ∈ os, ∃ j : Nat, n < (j : Int) ∧ ts[j]? = some t) ∧ Hid (os.Pairwise fun t u => t.1 ≠ u.1) ∧ Hid (pathL (valT ts, F) (m : Int) = pathL (valT ts, F) n ++ valT os) ∧ (os.length : Int) + n ≤ m) (fun _ i _ => (intOf i + 1).toNat)
              case atStart => exact ⟨(m : Int), _, _, [], by omega, by omega, rfl, rfl, hE1.row, Below.refl _ _, (fun t ht => by cases ht), .nil, (show _ = _ ++ valT [] by rw [show valT [] = [] from rfl, List.append_nil]), by simp⟩
              case round =>
                clear hvx hx
                obtain ⟨n, A2, c2, os, hn0, hn1, rfl, rfl, hV, HB, hidx, hdis, hpath, hol⟩ := hrel
                by_cases hneg : 0 ≤ n
                · obtain ⟨p, rfl⟩ := Int.eq_ofNat_of_zero_le hneg
                  have hml : p < ts.length := by omega
                  obtain ⟨f, hf, hf0, hf1, hf2⟩ := hbok'.out.from_ (n := p) (by rw [valT_length]; exact hml)
                  have hst := Lib.hid (path_step hbok'.out p)
                  obtain ⟨gs2, b, d, ys, e2, hgs2, hc, hx, hxv⟩ := (hO.next HB).atT hml
                  obtain rfl : gs = gs2 := by injection e2 with e2; injection e2
                  obtain ⟨gf, rfl, -, hgf, -, -⟩ := OwnI.some_ hF (show p < F.length by have := hfl'.out; omega)
                  have hfc := (OwnI.next hF HB).cellI hf
                  have hf2' := Lib.hid hf2
                  have hfF := Lib.hid hf
                  have hmF : (p : Int) < (F.length : Int) := by have := hfl'.out; omega
                  have hB4 := Blk.new wr 22 #[.slice (some ⟨b, 0, none⟩) ys.length d]
                  have hV4 : OwnV (wr.alloc (.cells #[.slice (some ⟨b, 0, none⟩) ys.length d] 22)) wr.heap.size 22 1 (some ⟨wr.heap.size, 0, none⟩) 1 1 [encT (b, d, ys)] := OwnV.of_blk (Nat.le_refl _) rfl (by unfold maxLen; omega) hB4
                  have hr4 : RdV (wr.alloc (.cells #[.slice (some ⟨b, 0, none⟩) ys.length d] 22)) (wr.alloc (.cells #[.slice (some ⟨b, 0, none⟩) ys.length d] 22)).heap.size A2 (os.map encT) := (hV.alloc _).rd
                  have HBa := HB.alloc HB.size (.cells #[.slice (some ⟨b, 0, none⟩) ys.length d] 22)
                  have hszb := HB.size
                  have hsza : w1.heap.size ≤ (wr.alloc (.cells #[.slice (some ⟨b, 0, none⟩) ys.length d] 22)).heap.size := HBa.size
                  have hszc : wr.heap.size ≤ (wr.alloc (.cells #[.slice (some ⟨b, 0, none⟩) ys.length d] 22)).heap.size := by simp
                  clear hf hf2 hB4
                  go_wp2_with (first | (at_builtin; refine wpList_append_v rowSS _ rfl (.tmp 58) (.tmp 59) rfl wr.heap.size (some ⟨wr.heap.size, 0, none⟩) 1 1 [encT (b, d, ys)] rfl hV4 (wr.alloc (.cells #[.slice (some ⟨b, 0, none⟩) ys.length d] 22)).heap.size A2 os.length c2 (os.map encT) (by simp) rfl hr4 (encs_one _) (by omega) hszc ?_; intro A5 c5 w5 o5 g5 at5; (have HB5 : Below w1.heap.size w1 w5 := HBa.grown g5 hsza (fun k hk => by simp only [Value.ownBlock] at hk; injection hk with hk; omega)); (have hfc5 := (OwnI.next hF HB5).cellI hfF.out); clear hfc hr4 hV4 HBa hsza hszc g5 at5 hV) | fail)
                  have hlen5 : 1 + os.length = ((b, d, ys) :: os).length := by simp; omega
                  go_roundw
                  case rel =>
                    refine ⟨f, A5, c5, (b, d, ys) :: os, hf0, by omega, rfl, by rw [← hlen5], ?_, HB5, ?_, ?_, ?_, by simp; omega⟩
                    · rw [← hlen5]
                      exact OwnV.more o5 (by omega)
                    · intro t ht
                      rcases List.mem_cons.1 ht with h | h
                      · rw [h]; exact ⟨p, by omega, hx.out⟩
                      · obtain ⟨j, hj, hjt⟩ := hidx.out t h
                        exact ⟨j, by omega, hjt⟩
                    · show ((b, d, ys) :: os).Pairwise fun t u => t.1 ≠ u.1
                      rw [List.pairwise_cons]
                      refine ⟨fun t ht => ?_, hdis.out⟩
                      obtain ⟨j, hj, hjt⟩ := hidx.out t ht
                      obtain ⟨hjl, hje⟩ := List.getElem?_eq_some_iff.1 hjt
                      obtain ⟨hml2, hme⟩ := List.getElem?_eq_some_iff.1 hx.out
                      have h9 := List.pairwise_iff_getElem.1 hO.dis p j hml hjl (by omega)
                      rw [hje, hme] at h9
                      exact h9
                    · show pathL (valT ts, F) (m : Int) = pathL (valT ts, F) f ++ valT ((b, d, ys) :: os)
                      have h1 := hst.out
                      simp only at h1
                      rw [hf2'.out, hxv.out] at h1
                      have h2 := hpath.out
                      rw [h1] at h2
                      rw [h2]
                      simp [valT]
                  case measure => simp [intOf]; omega
                · obtain rfl : n = -1 := by omega
                  have hOs : OwnSS wr w.heap.size A2 c2 os := ⟨hV, fun t ht => by
                    obtain ⟨j, _, hjt⟩ := hidx.out t ht
                    exact (hO.next HB).all t (List.mem_of_getElem? hjt), hdis.out⟩
                  have hval := Lib.hid (show valT os = forP nn J v by
                    rw [hres.out, hpath.out, path_neg, List.nil_append])
                  have Hw := chain H HB (Nat.le_refl _)
                  clear hV HB hidx hdis hpath
                  go_wp2
                  go_ret
                  exact ⟨A2, c2, os, rfl, hOs, hval.out, Hw⟩
      · obtain rfl : m = ts.length := by omega
        have hres := Lib.hid (show forP nn J v = [] by
          rw [hyes.out]
          unfold stepsN
          rw [← hfin.out, search_miss hno.out (by rw [valT_length])]
          rfl)
        go_wp2
        go_ret
        exact ⟨_, _, [], rfl, hE1, hres.out.symm, H⟩
theorem sFew_c (nn : Nat) (hnn : 2197 ≤ nn) (A : Option Addr) (c : Nat) (J : List Int) (v : Int) (w : World) (hr : RdI w w.heap.size A J) (hl : J.length ≤ 1048576) :
    Calls Try.prog 30 #[.slice A J.length c, .int .i64 v] w fun e w' => e = .returned (.int .i64 (fewP nn J v)) ∧ Below w.heap.size w w' := by
  have hsm := (for_small nn J v).1
  go_enter Try.func30, Try.ntmps30
  go_wp2_with fail
  refine (sFor_c nn hnn A c J v w hr hl).mono ?_
  rintro e w1 ⟨B, d, ts, rfl, hO, hv, b⟩
  have hlen : (forP nn J v).length = ts.length := by rw [← hv, valT_length]
  have hf := Lib.hid (show fewP nn J v = (ts.length : Int) - 1 by unfold fewP; rw [hlen])
  have htl : ts.length ≤ 10000 := by omega
  clear hlen hv hsm hO
  go_wp2
  go_ret
  exact ⟨by rw [hf.out]; rfl, b⟩
theorem sCan_c (nn : Nat) (hnn : 2197 ≤ nn) (A : Option Addr) (c : Nat) (J : List Int) (v : Int) (w : World) (hr : RdI w w.heap.size A J) (hl : J.length ≤ 1048576) :
    Calls Try.prog 31 #[.slice A J.length c, .int .i64 v] w fun e w' => e = .returned (.bool (decide (0 ≤ fewP nn J v))) ∧ Below w.heap.size w w' := by
  have h := Lib.hid (sFew_c nn hnn A c J v w hr hl)
  generalize fewP nn J v = x at h ⊢
  by_cases hx : 0 ≤ x
  · rw [decide_eq_true hx]
    go_enter Try.func31, Try.ntmps31
    go_wp2_with fail
    refine h.out.mono ?_
    rintro e w1 ⟨rfl, b⟩
    go_wp2
    go_ret
    exact ⟨rfl, b⟩
  · have hxd := decide_eq_false hx
    rw [hxd]
    go_enter Try.func31, Try.ntmps31
    go_wp2_with fail
    refine h.out.mono ?_
    rintro e w1 ⟨rfl, b⟩
    go_wp2
    go_ret
    exact ⟨rfl, b⟩
theorem sCnt_c (nn : Nat) (hnn : 2197 ≤ nn) (A : Option Addr) (c : Nat) (J : List Int) (w : World) (hr : RdI w w.heap.size A J) (hl : J.length ≤ 1048576) :
    Calls Try.prog 29 #[.slice A J.length c] w fun e w' => e = .returned (.int .i64 (cntS nn J)) ∧ Below w.heap.size w w' := by
  have hcj := Lib.hid (sJugsOk_c A c J _ hr hl)
  cases hj : jugsB J
  · rw [hj] at hcj
    rw [cntS_no hj]
    go_enter Try.func29, Try.ntmps29
    go_wp2_with fail
    refine hcj.out.mono ?_
    rintro e w' ⟨rfl, rfl⟩
    go_wp2
    go_ret
    exact ⟨rfl, Below.refl _ _⟩
  · rw [hj] at hcj
    have hres := Lib.hid (cntS_yes (n := nn) hj)
    have hJ := Lib.hid (jok_of hj)
    have hS := Lib.hid (sSearch_c A c J w hr hl hj)
    clear hj
    go_enter Try.func29, Try.ntmps29
    go_wp2_with fail
    refine hcj.out.mono ?_
    rintro e w' ⟨rfl, rfl⟩
    go_wp2_with fail
    refine hS.out.mono ?_
    rintro e w1 ⟨As, cs, ts, fA, fc, F, k, rfl, hO, hF, b, hbf, hk⟩
    have hfin := search_lim hJ.out hnn hbf (show k = (valT ts).length by rw [valT_length]; exact hk)
    have hval := Lib.hid (show cntS nn J = (ts.length : Int) by rw [hres.out, ← hfin]; show ((valT ts).length : Int) = _; rw [valT_length])
    clear hfin hbf hF hO hS hk
    go_wp2
    go_ret
    exact ⟨by rw [hval.out]; rfl, b⟩
end Go.Proofs.Ytdnknddldfihdaa
