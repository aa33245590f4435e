/- CheapestWatch, the program's. -/
import Derived.Test.YtcmealoppnpdcaaGaps
import Derived.Test.YtcmealoppnpdcaaDp
import Derived.StillTailTactics
namespace Go.Proofs.Ytcmealoppnpdcaa
open Go.ChangeShapes Go.WideShapes Go.ChangeAt Go.RowKit
set_option linter.unusedVariables false

theorem i64_add (a b : Int) (h : -9000000000000000000 ≤ a + b ∧ a + b ≤ 9000000000000000000) : IntKind.i64.wrap (a + b) = a + b := IntWalk.i64_in _ (by omega)
theorem ints_setA (ps : List Int) (i : Nat) (v : Int) : ((ints ps).toArray).setIfInBounds i (.int .i64 v) = (ints (ps.set i v)).toArray := by
  rw [← Array.toList_inj]
  simp [ints, List.map_set]
theorem ints_atA (ps : List Int) (i : Nat) (h : i < ps.length) : ((ints ps).toArray)[i]? = some (.int .i64 (ps.getD i 0)) := by
  simp [ints, List.getD, h]
theorem Blk.icell {w : World} {g e : Nat} {ps : List Int} (h : Blk w g e (ints ps).toArray) (i : Nat) (hi : i < ps.length) : w.cell? ⟨g, i, none⟩ = some (.int .i64 (ps.getD i 0)) := (h.cell i).trans (ints_atA ps i hi)
theorem Blk.iset {w : World} {g e : Nat} {ps : List Int} (h : Blk w g e (ints ps).toArray) (i : Nat) (v : Int) : Blk (w.setCell ⟨g, i, none⟩ (.int .i64 v)) g e (ints (ps.set i v)).toArray := by
  rw [← ints_setA]
  exact h.set_ i _
theorem made49 : madeCells #[.int .i64 0] 49 = (ints (List.replicate 49 (0 : Int))).toArray := by
  have := fillA_zero (ints (List.replicate 49 (0 : Int))) (.int .i64 0)
  rw [ints_length, List.length_replicate] at this
  rw [this, ← Array.toList_inj]
  simp only [fillA, List.take_zero, List.nil_append, ints_length, List.length_replicate, Nat.sub_zero]
  simp [ints]
theorem Inn.bounds {t : Wf} {a b h : Nat} {ps q : List Int} {j k : Nat} (hp : Phi t a b h ps) (hq : Inn t b h ps q j k) : ∀ i, i ≤ b → 0 ≤ q.getD i 0 ∧ q.getD i 0 ≤ 1073741824 := by
  intro i hi
  have := hp.2.1 i hi
  by_cases hih : i ≤ h
  · rw [hq.2.1 i hih]; exact this
  · have := hq.2.2.1 i (by omega) hi
    omega
theorem cheap_no {t : Wf} {a b : Int} (h : isW t a b = false) : cheapZ t a b = -1 := by unfold cheapZ; rw [h]; rfl
theorem cheap_none {t : Wf} {a b : Int} (h : isW t a b = true) (h2 : ¬ a < b) : cheapZ t a b = 0 := by unfold cheapZ; rw [h, if_pos rfl, if_neg h2]
theorem cheap_yes {t : Wf} {a b : Nat} (h : isW t a b = true) (h2 : a < b) : cheapZ t a b = bF t b a := by
  unfold cheapZ
  rw [h, if_pos rfl, if_pos (by omega)]
  rfl

def RelK (w : World) (t : Wf) (b h G gb : Nat) (x y z : Int) (qs : List Int) (j : Nat) (i : Value) (wr : World) : Prop := ∃ (k : Nat) (q : List Int), h < k ∧ (k ≤ b + 1 ∧ (k : Int) ≤ y + 1) ∧ i = .int .i64 k ∧ Blk wr G 3 (ints q).toArray ∧ Blk wr gb 44 #[.int .i64 x, .int .i64 y, .int .i64 z] ∧ Hid (Inn t b h qs q j k) ∧ Below w.heap.size w wr
set_option maxHeartbeats 8000000 in
theorem iCheap_c (A : Option Addr) (c : Nat) (t : Wf) (a b : Int) (w : World) (hr : RdI w w.heap.size A (flat3 t)) (hl : t.length ≤ 1048576) :
    Calls Try.prog 23 #[.slice A t.length c, .int .i64 a, .int .i64 b] w fun e w' => e = .returned (.int .i64 (cheapZ t a b)) ∧ Below w.heap.size w w' := by
  cases hok : isW t a b
  · rw [cheap_no hok]
    go_enter Try.func23, Try.ntmps23
    go_wp2_with fail
    refine (iIsW_c _ _ _ _ _ _ hr hl).mono ?_
    rintro e w1 ⟨rfl, H⟩
    go_wp2
    go_ret
    exact ⟨rfl, H⟩
  · obtain ⟨hWB, a0, a1, b0, b1, hcov⟩ := isW_b hok
    obtain ⟨a, rfl⟩ := Int.eq_ofNat_of_zero_le a0
    obtain ⟨b, rfl⟩ := Int.eq_ofNat_of_zero_le b0
    have hf' := Lib.hid (wat_b t hWB).2
    have h16 := (wat_b t hWB).1
    have hok' := Lib.hid hok
    clear hcov hWB
    have hmk : ∀ W : World, (Instr.makeSlice 31 (.int .i64 49) (.int .i64 49)).run Try.prog W = .ok (.slice (some ⟨W.heap.size, 0, none⟩) 49 49) (W.alloc (.cells (ints (List.replicate 49 (0 : Int))).toArray 3)) := by
      intro W
      rw [← made49]
      exact run_make_row' (P := Try.prog) 31 3 (.int .i64 0) 8 Try.underlying31 infoInt rfl .i64 .i64 49 (by omega) (by omega) W
    by_cases hab : a < b
    · rw [cheap_yes hok hab]
      have habI : (a : Int) < (b : Int) := by omega
      go_enter Try.func23, Try.ntmps23
      go_wp2_with fail
      refine (iIsW_c _ _ _ _ _ _ hr hl).mono ?_
      rintro e w1 ⟨rfl, H⟩
      have hGw : w.heap.size ≤ w1.heap.size := H.size
      obtain ⟨G, hG⟩ : ∃ G, w1.heap.size = G := ⟨_, rfl⟩
      have hGB := Blk.new w1 3 (ints (List.replicate 49 (0 : Int))).toArray
      have HG := H.alloc H.size (.cells (ints (List.replicate 49 (0 : Int))).toArray 3)
      rw [hG] at hGB hGw
      go_wp2
      clear hmk hok
      replace hG := Lib.hid hG
      go_loopw [8] (fun i wr => ∃ n : Nat, n ≤ b - a ∧ i = .int .i64 ((a + 1 + n : Nat) : Int) ∧ Blk wr G 3 (ints (iniL a n)).toArray ∧ Below w.heap.size w wr) (fun i _ => (b + 1 - intOf i).toNat)
      case atStart => exact ⟨0, Nat.zero_le _, by go_num, hGB, HG⟩
      case round =>
        clear hGB HG H
        obtain ⟨n, hn, rfl, hB, H⟩ := hrel
        have hil := iniL_len a n
        by_cases hlt : n < b - a
        · have hi : a + 1 + n < (iniL a n).length := by omega
          have hcell := hB.icell (a + 1 + n) hi
          have hfr := hB.frozen (a + 1 + n)
          have hle : ((a + 1 + n : Nat) : Int) ≤ (b : Int) := by omega
          have hi49 : ((a + 1 + n : Nat) : Int) < 49 := by omega
          clear hil hi
          go_wp2
          go_roundw
          case rel => exact ⟨n + 1, by omega, by go_num, hB.iset (a + 1 + n) 1073741824, H.setCell hGw _⟩
          case measure => simp [intOf]; omega
        · obtain rfl : n = b - a := by omega
          have hPhi := Lib.hid (Phi.start hok'.out hab)
          generalize hps : iniL a (b - a) = ps at *
          clear hps
          go_wp2
          go_loopw [9] (fun i wr => ∃ (h : Nat) (qs : List Int), a ≤ h ∧ h ≤ b ∧ i = .int .i64 h ∧ Blk wr G 3 (ints qs).toArray ∧ Hid (Phi t a b h qs) ∧ Below w.heap.size w wr) (fun i _ => (b - intOf i).toNat)
          case atStart => exact ⟨a, ps, Nat.le_refl _, by omega, rfl, hB, hPhi, H⟩
          case round =>
            clear hPhi hB H
            obtain ⟨h, qs, hah, hhb, rfl, hB, hPhi, H⟩ := hrel
            by_cases hlt : h < b
            · have hltI : (h : Int) < (b : Int) := by omega
              go_wp2
              go_loopw [37] (fun i wr => ∃ (j : Nat) (q : List Int), j ≤ t.length ∧ i = .int .i64 j ∧ Blk wr G 3 (ints q).toArray ∧ Hid (Inn t b h qs q j (h + 1)) ∧ Below w.heap.size w wr) (fun i _ => t.length - (intOf i).toNat)
              case atStart => exact ⟨0, qs, Nat.zero_le _, rfl, hB, Inn.start hPhi.out hlt, H⟩
              case round =>
                clear hB H
                obtain ⟨j, q, hj, rfl, hB, hInn, H⟩ := hrel
                by_cases hlj : j < t.length
                · obtain ⟨g, off, x, y, z, rfl, hg, hc0, hc1, hc2, hx⟩ := (hr.below H (Nat.le_refl _)).at3 hlj
                  obtain ⟨f0, f1, f2, f3, f4⟩ := hf'.out j hlj
                  rw [fr_at hx.out] at f0 f1
                  rw [wt_at hx.out] at f1 f2
                  rw [py_at hx.out] at f3 f4
                  have hcov := Lib.hid (cov_iff t (h : Int) j)
                  by_cases h1 : x ≤ (h : Int)
                  · by_cases h2 : (h : Int) < y
                    · have hc := Lib.hid (hcov.out.2 (by rw [fr_at hx.out, wt_at hx.out]; exact ⟨h1, h2⟩))
                      have hwt := Lib.hid (wt_at hx.out)
                      have hpy := Lib.hid (py_at hx.out)
                      have hb0 := Blk.new wr 44 #[.int .i64 x, .int .i64 y, .int .i64 z]
                      have hGlt := hB.lt
                      obtain ⟨gb, hgb⟩ : ∃ gb, wr.heap.size = gb := ⟨_, rfl⟩
                      rw [hgb] at hb0 hGlt
                      have hB' := hB.alloc (.cells #[.int .i64 x, .int .i64 y, .int .i64 z] 44)
                      have H' := H.alloc H.size (.cells #[.int .i64 x, .int .i64 y, .int .i64 z] 44)
                      go_wp2
                      clear hc0 hc1 hc2
                      replace hgb := Lib.hid hgb
                      go_loopw [12] (fun i wr => RelK w t b h G gb x y z qs j i wr) (fun i _ => (b + 1 - intOf i).toNat)
                      case atStart => exact ⟨h + 1, q, by omega, by omega, by go_num, hB', hb0, hInn, H'⟩
                      case round =>
                        clear hB hInn H hB' hb0 H'
                        obtain ⟨k, q, hhk, ⟨hk1, hk2⟩, rfl, hB, hb, hInn, H⟩ := hrel
                        obtain ⟨p0, p1, p2, -, -, -, -⟩ := hb.three
                        by_cases hby : (b : Int) < y
                        · by_cases hkb : (k : Int) ≤ (b : Int)
                          · have hkb' : k ≤ b := by omega
                            have hky : (k : Int) ≤ y := by omega
                            obtain ⟨u0, u1⟩ := hInn.out.bounds hPhi.out k hkb'
                            obtain ⟨v0, v1⟩ := hInn.out.bounds hPhi.out h (by omega)
                            have hql := hInn.out.1
                            have hck := hB.icell k (by omega)
                            have hch := hB.icell h (by omega)
                            have hfr := hB.frozen k
                            have hk49 : (k : Int) < 49 := by omega
                            have hh49 : (h : Int) < 49 := by omega
                            have hnext := Lib.hid (hInn.out.step hPhi.out (by rw [hpy.out]; exact f3) hlj hc.out hhk hkb' (by omega) (by rw [hwt.out]; exact hky))
                            clear hql
                            by_cases hmin : q.getD h 0 + z < q.getD k 0
                            · have hstep := Lib.hid (show min (q.getD k 0) (q.getD h 0 + py t j) = q.getD h 0 + z by rw [hpy.out]; omega)
                              have e1 : IntKind.i64.wrap (q.getD h 0 + z) = q.getD h 0 + z := i64_add _ _ (by omega)
                              generalize q.getD k 0 = qk at *
                              generalize q.getD h 0 = qh at *
                              go_wp2
                              go_still_tail 15, (by kernel_rfl)
                              change wpList _ _ _ _ _ wr.drew
                              have hck' : wr.drew.cell? ⟨G, k, none⟩ = some (.int .i64 qk) := hck
                              have hfr' : wr.drew.frozen? ⟨G, k, none⟩ = false := hfr
                              have hBd : Blk wr.drew G 3 (ints q).toArray := hB
                              have hbd : Blk wr.drew gb 44 #[.int .i64 x, .int .i64 y, .int .i64 z] := hb
                              have Hd : Below w.heap.size w wr.drew := Below.drew H
                              clear hck hfr hB hb H hch p0 p1 p2
                              generalize wr.drew = wd at *
                              have hRK : RelK w t b h G gb x y z qs j (.int .i64 ((k : Int) + 1)) (wd.setCell ⟨G, k, none⟩ (.int .i64 (qh + z))) := ⟨k + 1, q.set k (qh + z), by omega, by omega, by go_num, hBd.iset k _, hbd.far (by simp; omega) _, by have := hnext.out; rw [hstep.out] at this; exact this, Hd.setCell hGw _⟩
                              replace hRK := Lib.hid hRK
                              go_wp2
                              go_roundw
                              case rel => first | exact hRK.out | ((repeat apply Exists.intro); exact ⟨hRK.out, rfl⟩)
                              case measure => simp [intOf]; omega
                            · have hstep := Lib.hid (show min (q.getD k 0) (q.getD h 0 + py t j) = q.getD k 0 by rw [hpy.out]; omega)
                              have hdm : decide (q.getD h 0 + z < q.getD k 0) = false := decide_eq_false hmin
                              have e1 : IntKind.i64.wrap (q.getD h 0 + z) = q.getD h 0 + z := i64_add _ _ (by omega)
                              generalize q.getD k 0 = qk at *
                              generalize q.getD h 0 = qh at *
                              go_wp2
                              go_still_tail 15, (by kernel_rfl)
                              change wpList _ _ _ _ _ wr.drew
                              have hck' : wr.drew.cell? ⟨G, k, none⟩ = some (.int .i64 qk) := hck
                              have hfr' : wr.drew.frozen? ⟨G, k, none⟩ = false := hfr
                              have hBd : Blk wr.drew G 3 (ints q).toArray := hB
                              have hbd : Blk wr.drew gb 44 #[.int .i64 x, .int .i64 y, .int .i64 z] := hb
                              have Hd : Below w.heap.size w wr.drew := Below.drew H
                              clear hck hfr hB hb H hch p0 p1 p2
                              generalize wr.drew = wd at *
                              have hRK : RelK w t b h G gb x y z qs j (.int .i64 ((k : Int) + 1)) (wd.setCell ⟨G, k, none⟩ (.int .i64 (qk))) := ⟨k + 1, q.set k (qk), by omega, by omega, by go_num, hBd.iset k _, hbd.far (by simp; omega) _, by have := hnext.out; rw [hstep.out] at this; exact this, Hd.setCell hGw _⟩
                              replace hRK := Lib.hid hRK
                              go_wp2
                              go_roundw
                              case rel => first | exact hRK.out | ((repeat apply Exists.intro); exact ⟨hRK.out, rfl⟩)
                              case measure => simp [intOf]; omega
                          · have hnx := Lib.hid (hInn.out.done (fun i i1 i2 => by omega))
                            go_wp2
                            go_roundw
                            case rel => exact ⟨j + 1, q, by omega, by go_num, hB, hnx, H⟩
                            case measure => simp [intOf]; omega
                        · by_cases hky : (k : Int) ≤ y
                          · have hkb' : k ≤ b := by omega
                            obtain ⟨u0, u1⟩ := hInn.out.bounds hPhi.out k hkb'
                            obtain ⟨v0, v1⟩ := hInn.out.bounds hPhi.out h (by omega)
                            have hql := hInn.out.1
                            have hck := hB.icell k (by omega)
                            have hch := hB.icell h (by omega)
                            have hfr := hB.frozen k
                            have hk49 : (k : Int) < 49 := by omega
                            have hh49 : (h : Int) < 49 := by omega
                            have hnext := Lib.hid (hInn.out.step hPhi.out (by rw [hpy.out]; exact f3) hlj hc.out hhk hkb' (by omega) (by rw [hwt.out]; exact hky))
                            clear hql
                            by_cases hmin : q.getD h 0 + z < q.getD k 0
                            · have hstep := Lib.hid (show min (q.getD k 0) (q.getD h 0 + py t j) = q.getD h 0 + z by rw [hpy.out]; omega)
                              have e1 : IntKind.i64.wrap (q.getD h 0 + z) = q.getD h 0 + z := i64_add _ _ (by omega)
                              generalize q.getD k 0 = qk at *
                              generalize q.getD h 0 = qh at *
                              go_wp2
                              go_still_tail 15, (by kernel_rfl)
                              change wpList _ _ _ _ _ wr.drew
                              have hck' : wr.drew.cell? ⟨G, k, none⟩ = some (.int .i64 qk) := hck
                              have hfr' : wr.drew.frozen? ⟨G, k, none⟩ = false := hfr
                              have hBd : Blk wr.drew G 3 (ints q).toArray := hB
                              have hbd : Blk wr.drew gb 44 #[.int .i64 x, .int .i64 y, .int .i64 z] := hb
                              have Hd : Below w.heap.size w wr.drew := Below.drew H
                              clear hck hfr hB hb H hch p0 p1 p2
                              generalize wr.drew = wd at *
                              have hRK : RelK w t b h G gb x y z qs j (.int .i64 ((k : Int) + 1)) (wd.setCell ⟨G, k, none⟩ (.int .i64 (qh + z))) := ⟨k + 1, q.set k (qh + z), by omega, by omega, by go_num, hBd.iset k _, hbd.far (by simp; omega) _, by have := hnext.out; rw [hstep.out] at this; exact this, Hd.setCell hGw _⟩
                              replace hRK := Lib.hid hRK
                              go_wp2
                              go_roundw
                              case rel => first | exact hRK.out | ((repeat apply Exists.intro); exact ⟨hRK.out, rfl⟩)
                              case measure => simp [intOf]; omega
                            · have hstep := Lib.hid (show min (q.getD k 0) (q.getD h 0 + py t j) = q.getD k 0 by rw [hpy.out]; omega)
                              have hdm : decide (q.getD h 0 + z < q.getD k 0) = false := decide_eq_false hmin
                              have e1 : IntKind.i64.wrap (q.getD h 0 + z) = q.getD h 0 + z := i64_add _ _ (by omega)
                              generalize q.getD k 0 = qk at *
                              generalize q.getD h 0 = qh at *
                              go_wp2
                              go_still_tail 15, (by kernel_rfl)
                              change wpList _ _ _ _ _ wr.drew
                              have hck' : wr.drew.cell? ⟨G, k, none⟩ = some (.int .i64 qk) := hck
                              have hfr' : wr.drew.frozen? ⟨G, k, none⟩ = false := hfr
                              have hBd : Blk wr.drew G 3 (ints q).toArray := hB
                              have hbd : Blk wr.drew gb 44 #[.int .i64 x, .int .i64 y, .int .i64 z] := hb
                              have Hd : Below w.heap.size w wr.drew := Below.drew H
                              clear hck hfr hB hb H hch p0 p1 p2
                              generalize wr.drew = wd at *
                              have hRK : RelK w t b h G gb x y z qs j (.int .i64 ((k : Int) + 1)) (wd.setCell ⟨G, k, none⟩ (.int .i64 (qk))) := ⟨k + 1, q.set k (qk), by omega, by omega, by go_num, hBd.iset k _, hbd.far (by simp; omega) _, by have := hnext.out; rw [hstep.out] at this; exact this, Hd.setCell hGw _⟩
                              replace hRK := Lib.hid hRK
                              go_wp2
                              go_roundw
                              case rel => first | exact hRK.out | ((repeat apply Exists.intro); exact ⟨hRK.out, rfl⟩)
                              case measure => simp [intOf]; omega
                          · have hnx := Lib.hid (hInn.out.done (fun i i1 i2 => by rw [hwt.out] at i2; omega))
                            go_wp2
                            go_roundw
                            case rel => exact ⟨j + 1, q, by omega, by go_num, hB, hnx, H⟩
                            case measure => simp [intOf]; omega
                    · have hnx := Lib.hid (hInn.out.skip (by rw [Bool.eq_false_iff]; intro hc; have := hcov.out.1 hc; rw [wt_at hx.out] at this; omega))
                      have hd2 : decide ((h : Int) < y) = false := decide_eq_false h2
                      go_wp2
                      go_roundw
                      case rel => exact ⟨j + 1, q, by omega, by go_num, hB.alloc _, hnx, H.alloc H.size _⟩
                      case measure => simp [intOf]; omega
                  · have hnx := Lib.hid (hInn.out.skip (by rw [Bool.eq_false_iff]; intro hc; have := hcov.out.1 hc; rw [fr_at hx.out] at this; omega))
                    have hd1 : decide (x ≤ (h : Int)) = false := decide_eq_false h1
                    go_wp2
                    go_roundw
                    case rel => exact ⟨j + 1, q, by omega, by go_num, hB.alloc _, hnx, H.alloc H.size _⟩
                    case measure => simp [intOf]; omega
                · obtain rfl : j = t.length := by omega
                  have hnx := Lib.hid (hInn.out.fin hok'.out hPhi.out hah hlt)
                  go_wp2
                  go_roundw
                  case rel => exact ⟨h + 1, q, by omega, by omega, by go_num, hB, hnx, H⟩
                  case measure => simp [intOf]; omega
            · obtain rfl : h = b := by omega
              have hfin := Lib.hid hPhi.out.fin
              have hlen := hPhi.out.1
              have hcell := hB.icell h (by omega)
              have hb49 : (h : Int) < 49 := by omega
              clear hlen
              generalize qs.getD h 0 = v at *
              go_wp2
              go_ret
              exact ⟨by rw [← hfin.out]; rfl, H⟩
    · rw [cheap_none hok (by omega)]
      have habI : (b : Int) ≤ (a : Int) := by omega
      go_enter Try.func23, Try.ntmps23
      go_wp2_with fail
      refine (iIsW_c _ _ _ _ _ _ hr hl).mono ?_
      rintro e w1 ⟨rfl, H⟩
      have HG := H.alloc H.size (.cells (ints (List.replicate 49 (0 : Int))).toArray 3)
      go_wp2
      clear hmk hok
      go_loopw [8] (fun i wr => i = .int .i64 ((a : Int) + 1) ∧ Below w.heap.size w wr) (fun i _ => 0)
      case atStart => exact ⟨rfl, HG⟩
      case round =>
        clear HG H
        obtain ⟨rfl, H⟩ := hrel
        go_wp2
        go_loopw [9] (fun i wr => i = .int .i64 (a : Int) ∧ Below w.heap.size w wr) (fun i _ => 0)
        case atStart => exact ⟨rfl, H⟩
        case round =>
          clear H
          obtain ⟨rfl, H⟩ := hrel
          go_wp2
          go_ret
          exact ⟨rfl, H⟩
end Go.Proofs.Ytcmealoppnpdcaa
