/- ShareVote, both. -/
import Derived.Test.YtifljdnlaginfaaRightsS
import Derived.Test.YtifljdnlaginfaaCount
import Derived.Test.YtifljdnlaginfaaOwnS
namespace Go.Proofs.Ytifljdnlaginfaa
open Go.ChangeShapes Go.WideShapes Go.ChangeAt Go.RowKit
set_option linter.unusedVariables false

def yesP (t : Rf) (v : List Int) : Nat → Rf
  | 0 => []
  | n + 1 => yesP t v n ++ if v.getD n 0 == 1 then [t.getD n (0, 0, 0)] else []
theorem yesP_succ (t : Rf) (v : List Int) (n : Nat) : yesP t v (n + 1) = yesP t v n ++ if v.getD n 0 == 1 then [t.getD n (0, 0, 0)] else [] := rfl
theorem yesP_hit {t : Rf} {v : List Int} {n : Nat} {x y z : Int} (h : t[n]? = some (x, y, z)) (hv : v[n]? = some 1) : yesP t v (n + 1) = yesP t v n ++ [(x, y, z)] := by
  rw [yesP_succ, getD_at h, getD_at hv]; rfl
theorem yesP_miss {t : Rf} {v : List Int} {n : Nat} {u : Int} (hv : v[n]? = some u) (hu : u ≠ 1) : yesP t v (n + 1) = yesP t v n := by
  rw [yesP_succ, getD_at hv, if_neg (by simpa using hu), List.append_nil]
theorem yesP_len (t : Rf) (v : List Int) : ∀ n, (yesP t v n).length ≤ n := by
  intro n
  induction n with
  | zero => exact Nat.le_refl _
  | succ n ih =>
    rw [yesP_succ, List.length_append]
    split <;> simp <;> omega
def shareO (t : Rf) (v : List Int) : Option (Int × Int) := if rightsB t && (v.length == t.length && voteB v) then sumR (yesP t v t.length) else none
theorem share_no {t : Rf} {v : List Int} (h : rightsB t = false ∨ v.length ≠ t.length ∨ voteB v = false) : shareO t v = none := by
  unfold shareO
  rcases h with h | h | h
  · rw [h]; rfl
  · have : (v.length == t.length) = false := by simpa using h
    rw [this]; simp
  · rw [h]; simp
theorem share_yes {t : Rf} {v : List Int} (h1 : rightsB t = true) (h2 : v.length = t.length) (h3 : voteB v = true) : shareO t v = sumR (yesP t v t.length) := by
  unfold shareO
  have : (v.length == t.length) = true := by simpa using h2
  rw [h1, this, h3]; rfl
theorem rights_b {t : Rf} (h : rightsB t = true) : 1 ≤ t.length ∧ t.length ≤ 12 := by
  unfold rightsB at h
  simp only [Bool.and_eq_true, inB_iff] at h
  omega
theorem OwnZ.row_ge {w : World} {base : Nat} {A : Option Addr} {n c : Nat} {zs : List Int} (h : OwnZ w base A n c zs) : ∀ k, (Value.slice A n c).ownBlock = some k → base ≤ k := fun k hk => (World.ownsRow.lt h k hk).1

set_option maxHeartbeats 2000000 in
theorem iShare_no (A A' : Option Addr) (c c' : Nat) (t : Rf) (v : List Int) (w : World) (hr : RdI w w.heap.size A (flat3 t)) (hl : t.length ≤ 1048576) (hv : RdI w w.heap.size A' v) (hvl : v.length ≤ 1048576) (hno : rightsB t = false ∨ v.length ≠ t.length ∨ voteB v = false) :
    Calls Try.prog 22 #[.slice A t.length c, .slice A' v.length c'] w fun e w' => RetO none e ∧ Below w.heap.size w w' := by
  have R := Blk.new w 34 #[.int .i64 0, .int .i64 0]
  have H : Below w.heap.size w (w.alloc (.cells #[.int .i64 0, .int .i64 0] 34)) := ((Below.refl w.heap.size w).alloc (by first | exact Nat.le_refl _ | (simp only [World.size_alloc]; omega)) (.cells #[.int .i64 0, .int .i64 0] 34))
  obtain ⟨r0, r1, rf0, rf1, rL⟩ := R.two
  have hcnt := Lib.hid (iCount_t A' c' v _ (hv.at_world H) hvl)
  have hrt := Lib.hid (fun W hr => iRights_c A c t W hr hl)
  by_cases hb : rightsB t = false
  · rw [hb] at hrt
    clear hno hb
    go_enter Try.func22, Try.ntmps22
    go_wp2_with fail
    refine hcnt.out.mono ?_
    rintro e w1 ⟨rfl, b⟩
    replace R := R.next b
    replace H := chain H b (Nat.le_refl _)
    clear b
    try clear r0 r1 rf0 rf1 rL
    obtain ⟨r0, r1, rf0, rf1, rL⟩ := R.two
    go_wp2_with fail
    refine (hrt.out _ (hr.at_world H)).mono ?_
    rintro e w1 ⟨rfl, b⟩
    replace R := R.next b
    replace H := chain H b (Nat.le_refl _)
    clear b
    try clear r0 r1 rf0 rf1 rL
    obtain ⟨r0, r1, rf0, rf1, rL⟩ := R.two
    go_wp2
    refine bodyPost_ret (v := .tuple #[.agg #[.int .i64 0, .int .i64 0], .bool false]) (by simp [results, Try.results22, go_sem, *]) rfl ⟨RetO.no, ?_⟩
    exact (by go_grown)
  · have hb' : rightsB t = true := by simpa using hb
    rw [hb'] at hrt
    clear hb
    by_cases hvv : v.length = t.length
    · have hvb : voteB v = false := by
        rcases hno with h | h | h
        · rw [hb'] at h; cases h
        · exact absurd hvv h
        · exact h
      have hneg := cnt_no hvb 1
      have hne : ((v.length : Int) != (t.length : Int)) = false := by simp [hvv]
      rw [hneg] at hcnt
      clear hno hvb hneg hvv hb'
      go_enter Try.func22, Try.ntmps22
      go_wp2_with fail
      refine hcnt.out.mono ?_
      rintro e w1 ⟨rfl, b⟩
      replace R := R.next b
      replace H := chain H b (Nat.le_refl _)
      clear b
      try clear r0 r1 rf0 rf1 rL
      obtain ⟨r0, r1, rf0, rf1, rL⟩ := R.two
      go_wp2_with fail
      refine (hrt.out _ (hr.at_world H)).mono ?_
      rintro e w1 ⟨rfl, b⟩
      replace R := R.next b
      replace H := chain H b (Nat.le_refl _)
      clear b
      try clear r0 r1 rf0 rf1 rL
      obtain ⟨r0, r1, rf0, rf1, rL⟩ := R.two
      go_wp2
      refine bodyPost_ret (v := .tuple #[.agg #[.int .i64 0, .int .i64 0], .bool false]) (by simp [results, Try.results22, go_sem, *]) rfl ⟨RetO.no, ?_⟩
      exact (by go_grown)
    · have hne : ((v.length : Int) != (t.length : Int)) = true := by simp; omega
      clear hno hvv hb'
      go_enter Try.func22, Try.ntmps22
      go_wp2_with fail
      refine hcnt.out.mono ?_
      rintro e w1 ⟨rfl, b⟩
      replace R := R.next b
      replace H := chain H b (Nat.le_refl _)
      clear b
      try clear r0 r1 rf0 rf1 rL
      obtain ⟨r0, r1, rf0, rf1, rL⟩ := R.two
      go_wp2_with fail
      refine (hrt.out _ (hr.at_world H)).mono ?_
      rintro e w1 ⟨rfl, b⟩
      replace R := R.next b
      replace H := chain H b (Nat.le_refl _)
      clear b
      try clear r0 r1 rf0 rf1 rL
      obtain ⟨r0, r1, rf0, rf1, rL⟩ := R.two
      go_wp2
      refine bodyPost_ret (v := .tuple #[.agg #[.int .i64 0, .int .i64 0], .bool false]) (by simp [results, Try.results22, go_sem, *]) rfl ⟨RetO.no, ?_⟩
      exact (by go_grown)
set_option maxHeartbeats 2000000 in
theorem sShare_no (A A' : Option Addr) (c c' : Nat) (t : Rf) (v : List Int) (w : World) (hr : RdI w w.heap.size A (flat3 t)) (hl : t.length ≤ 1048576) (hv : RdI w w.heap.size A' v) (hvl : v.length ≤ 1048576) (hno : rightsB t = false ∨ v.length ≠ t.length ∨ voteB v = false) :
    Calls Try.prog 20 #[.slice A t.length c, .slice A' v.length c'] w fun e w' => RetO none e ∧ Below w.heap.size w w' := by
  have R := Blk.new w 34 #[.int .i64 0, .int .i64 0]
  have H : Below w.heap.size w (w.alloc (.cells #[.int .i64 0, .int .i64 0] 34)) := ((Below.refl w.heap.size w).alloc (by first | exact Nat.le_refl _ | (simp only [World.size_alloc]; omega)) (.cells #[.int .i64 0, .int .i64 0] 34))
  obtain ⟨r0, r1, rf0, rf1, rL⟩ := R.two
  have hcnt := Lib.hid (sCount_t A' c' v _ (hv.at_world H) hvl)
  have hrt := Lib.hid (fun W hr => sRights_c A c t W hr hl)
  by_cases hb : rightsB t = false
  · rw [hb] at hrt
    clear hno hb
    go_enter Try.func20, Try.ntmps20
    go_wp2_with fail
    refine hcnt.out.mono ?_
    rintro e w1 ⟨rfl, rfl⟩
    go_wp2_with fail
    refine (hrt.out _ (hr.at_world H)).mono ?_
    rintro e w1 ⟨rfl, b⟩
    replace R := R.next b
    replace H := chain H b (Nat.le_refl _)
    clear b
    try clear r0 r1 rf0 rf1 rL
    obtain ⟨r0, r1, rf0, rf1, rL⟩ := R.two
    go_wp2
    refine bodyPost_ret (v := .tuple #[.agg #[.int .i64 0, .int .i64 0], .bool false]) (by simp [results, Try.results20, go_sem, *]) rfl ⟨RetO.no, ?_⟩
    exact (by go_grown)
  · have hb' : rightsB t = true := by simpa using hb
    rw [hb'] at hrt
    clear hb
    by_cases hvv : v.length = t.length
    · have hvb : voteB v = false := by
        rcases hno with h | h | h
        · rw [hb'] at h; cases h
        · exact absurd hvv h
        · exact h
      have hneg := cnt_no hvb 1
      have hne : ((v.length : Int) != (t.length : Int)) = false := by simp [hvv]
      rw [hneg] at hcnt
      clear hno hvb hneg hvv hb'
      go_enter Try.func20, Try.ntmps20
      go_wp2_with fail
      refine hcnt.out.mono ?_
      rintro e w1 ⟨rfl, rfl⟩
      go_wp2_with fail
      refine (hrt.out _ (hr.at_world H)).mono ?_
      rintro e w1 ⟨rfl, b⟩
      replace R := R.next b
      replace H := chain H b (Nat.le_refl _)
      clear b
      try clear r0 r1 rf0 rf1 rL
      obtain ⟨r0, r1, rf0, rf1, rL⟩ := R.two
      go_wp2
      refine bodyPost_ret (v := .tuple #[.agg #[.int .i64 0, .int .i64 0], .bool false]) (by simp [results, Try.results20, go_sem, *]) rfl ⟨RetO.no, ?_⟩
      exact (by go_grown)
    · have hne : ((v.length : Int) != (t.length : Int)) = true := by simp; omega
      clear hno hvv hb'
      go_enter Try.func20, Try.ntmps20
      go_wp2_with fail
      refine hcnt.out.mono ?_
      rintro e w1 ⟨rfl, rfl⟩
      go_wp2_with fail
      refine (hrt.out _ (hr.at_world H)).mono ?_
      rintro e w1 ⟨rfl, b⟩
      replace R := R.next b
      replace H := chain H b (Nat.le_refl _)
      clear b
      try clear r0 r1 rf0 rf1 rL
      obtain ⟨r0, r1, rf0, rf1, rL⟩ := R.two
      go_wp2
      refine bodyPost_ret (v := .tuple #[.agg #[.int .i64 0, .int .i64 0], .bool false]) (by simp [results, Try.results20, go_sem, *]) rfl ⟨RetO.no, ?_⟩
      exact (by go_grown)
set_option maxHeartbeats 4000000 in
theorem iShare_yes (A A' : Option Addr) (c c' : Nat) (t : Rf) (v : List Int) (w : World) (hr : RdI w w.heap.size A (flat3 t)) (hl : t.length ≤ 1048576) (hv : RdI w w.heap.size A' v) (hvl : v.length ≤ 1048576) (h1 : rightsB t = true) (h2 : v.length = t.length) (h3 : voteB v = true) :
    Calls Try.prog 22 #[.slice A t.length c, .slice A' v.length c'] w fun e w' => RetO (sumR (yesP t v t.length)) e ∧ Below w.heap.size w w' := by
  obtain ⟨l1, l12⟩ := rights_b h1
  have hy0 : ¬ cntZ v 1 < 0 := by have := (cntZ_ok v 1).2 h3; omega
  have h2' := Lib.hid h2
  have hne : ((v.length : Int) != (t.length : Int)) = false := by simp [h2]
  have R := Blk.new w 34 #[.int .i64 0, .int .i64 0]
  have H : Below w.heap.size w (w.alloc (.cells #[.int .i64 0, .int .i64 0] 34)) := ((Below.refl w.heap.size w).alloc (by first | exact Nat.le_refl _ | (simp only [World.size_alloc]; omega)) (.cells #[.int .i64 0, .int .i64 0] 34))
  obtain ⟨r0, r1, rf0, rf1, rL⟩ := R.two
  have hcnt := Lib.hid (iCount_t A' c' v _ (hv.at_world H) hvl)
  have hrt := Lib.hid (fun W hr => iRights_c A c t W hr hl)
  rw [h1] at hrt
  clear h1 h2 h3
  go_enter Try.func22, Try.ntmps22
  go_wp2_with fail
  refine hcnt.out.mono ?_
  rintro e w1 ⟨rfl, b⟩
  replace R := R.next b
  replace H := chain H b (Nat.le_refl _)
  clear b
  try clear r0 r1 rf0 rf1 rL
  obtain ⟨r0, r1, rf0, rf1, rL⟩ := R.two
  go_wp2_with fail
  refine (hrt.out _ (hr.at_world H)).mono ?_
  rintro e w1 ⟨rfl, b⟩
  replace R := R.next b
  replace H := chain H b (Nat.le_refl _)
  clear b
  try clear r0 r1 rf0 rf1 rL
  obtain ⟨r0, r1, rf0, rf1, rL⟩ := R.two
  go_wp2
  clear r0 r1 rf0 rf1 rL hrt hcnt hy0 hne
  go_loopw [9, 35] (fun s i wr => ∃ (k : Nat) (A1 : Option Addr) (c1 : Nat), k ≤ t.length ∧ i = .int .i64 k ∧ s = .slice A1 (yesP t v k).length c1 ∧ OwnZ wr (w.heap.size + 1) A1 (yesP t v k).length c1 (flat3 (yesP t v k)) ∧ Blk wr w.heap.size 34 #[.int .i64 0, .int .i64 0] ∧ Below w.heap.size w wr) (fun _ i _ => t.length - (intOf i).toNat)
  case atStart => exact ⟨0, none, 0, Nat.zero_le _, rfl, rfl, OwnZ.nil _ _, R, H⟩
  case round =>
    clear R H
    obtain ⟨k, A1, cc, hk, rfl, rfl, hO, R, H⟩ := hrel
    have hRL := R.lt
    by_cases hlt : k < t.length
    · obtain ⟨g, off, x, y, z, rfl, hg, hc0, hc1, hc2, hx⟩ := (hr.below H (Nat.le_refl _)).at3 hlt
      obtain ⟨g', off', u, rfl, hg', hcu, hu, -⟩ := (hv.below H (Nat.le_refl _)).at_ (show k < v.length by have := h2'.out; omega)
      have hkv : (k : Int) < (v.length : Int) := by have := h2'.out; omega
      have hgw' : g' < wr.heap.size := Nat.lt_of_lt_of_le hg' H.size
      by_cases hu1 : u = 1
      · subst hu1
        have hO0 := hO
        have hsz1 := H.size
        have hlen := yesP_len t v k
        have hone : RdI ((wr.alloc (.cells #[.int .i64 x, .int .i64 y, .int .i64 z] 53)).alloc (.cells #[.int .i64 x, .int .i64 y, .int .i64 z] 53)) ((wr.alloc (.cells #[.int .i64 x, .int .i64 y, .int .i64 z] 53)).alloc (.cells #[.int .i64 x, .int .i64 y, .int .i64 z] 53)).heap.size (some ⟨wr.heap.size + 1, 0, none⟩) (flat3 [(x, y, z)]) := (by have h := RdI.of_ints (xs := flat3 [(x, y, z)]) (Blk.new (wr.alloc (.cells #[.int .i64 x, .int .i64 y, .int .i64 z] 53)) 53 #[.int .i64 x, .int .i64 y, .int .i64 z]); simp only [World.size_alloc] at h ⊢; exact h)
        have hst := Lib.hid (yesP_hit hx.out hu.out)
        go_wp2_with (first | (at_builtin; refine wpList_append_z _ rfl (.tmp 45) (.tmp 47) rfl (w.heap.size + 1) A1 (yesP t v k).length cc (flat3 (yesP t v k)) rfl ((hO0.alloc _).alloc _) ((wr.alloc (.cells #[.int .i64 x, .int .i64 y, .int .i64 z] 53)).alloc (.cells #[.int .i64 x, .int .i64 y, .int .i64 z] 53)).heap.size _ 1 1 (flat3 [(x, y, z)]) rfl rfl hone (by omega) (by simp; omega) ?_; intro A' c' w1 hOn hgr hat) | fail)
        go_roundw
        case rel =>
          refine ⟨k + 1, A', c', by omega, by go_num, ?_, ?_, ?_, ?_⟩
          · rw [hst.out, List.length_append]; rfl
          · rw [hst.out, List.length_append, flat3_append]; exact hOn
          · exact ((R.alloc _).alloc _).grown hgr (fun h => by have := hO0.row_ge w.heap.size h.symm; omega)
          · exact ((H.alloc H.size _).alloc (by simp; omega) _).grown hgr (by simp; omega) (fun k' hk' => by have := hO0.row_ge k' hk'; omega)
        case measure => simp [intOf]; omega
      · have hub : (u == 1) = false := beq_eq_false_iff_ne.2 hu1
        have hst := Lib.hid (yesP_miss (t := t) hu.out hu1)
        clear hu1
        go_wp2
        go_roundw
        case rel => exact ⟨k + 1, A1, cc, by omega, by go_num, by rw [hst.out], by rw [hst.out]; exact hO.alloc _, R.alloc _, H.alloc H.size _⟩
        case measure => simp [intOf]; omega
    · obtain rfl : k = t.length := by omega
      have hlen := yesP_len t v t.length
      have hS := Lib.hid (iSum_c A1 cc (yesP t v t.length) wr hO.rd (by omega))
      unfold RetO at hS
      have hres : Hid (RetO (sumR (yesP t v t.length)) = RetO (sumR (yesP t v t.length))) := rfl
      obtain ⟨p, hp⟩ : ∃ p, oT (sumR (yesP t v t.length)) = p := ⟨_, rfl⟩
      obtain ⟨q, hq⟩ : ∃ q, oU (sumR (yesP t v t.length)) = q := ⟨_, rfl⟩
      obtain ⟨o, ho⟩ : ∃ o, (sumR (yesP t v t.length)).isSome = o := ⟨_, rfl⟩
      rw [hp, hq, ho] at hS
      have hp' := Lib.hid hp
      have hq' := Lib.hid hq
      have ho' := Lib.hid ho
      clear hp hq ho
      obtain ⟨r0, r1, rf0, rf1, rL⟩ := R.two
      go_wp2_with fail
      refine hS.out.mono ?_
      rintro e w1 ⟨rfl, b⟩
      replace R := R.next b
      replace H := chain H b (Nat.le_refl _)
      clear b
      try clear r0 r1 rf0 rf1 rL
      obtain ⟨r0, r1, rf0, rf1, rL⟩ := R.two
      go_wp2
      refine bodyPost_ret (v := .tuple #[.agg #[.int .i64 p, .int .i64 q], .bool o]) (by simp [results, Try.results22, go_sem, *]) rfl ⟨by unfold RetO; rw [hp'.out, hq'.out, ho'.out], ?_⟩
      exact (by go_grown)
set_option maxHeartbeats 4000000 in
theorem sShare_yes (A A' : Option Addr) (c c' : Nat) (t : Rf) (v : List Int) (w : World) (hr : RdI w w.heap.size A (flat3 t)) (hl : t.length ≤ 1048576) (hv : RdI w w.heap.size A' v) (hvl : v.length ≤ 1048576) (h1 : rightsB t = true) (h2 : v.length = t.length) (h3 : voteB v = true) :
    Calls Try.prog 20 #[.slice A t.length c, .slice A' v.length c'] w fun e w' => RetO (sumR (yesP t v t.length)) e ∧ Below w.heap.size w w' := by
  obtain ⟨l1, l12⟩ := rights_b h1
  have hy0 : ¬ cntZ v 1 < 0 := by have := (cntZ_ok v 1).2 h3; omega
  have h2' := Lib.hid h2
  have hne : ((v.length : Int) != (t.length : Int)) = false := by simp [h2]
  have R := Blk.new w 34 #[.int .i64 0, .int .i64 0]
  have H : Below w.heap.size w (w.alloc (.cells #[.int .i64 0, .int .i64 0] 34)) := ((Below.refl w.heap.size w).alloc (by first | exact Nat.le_refl _ | (simp only [World.size_alloc]; omega)) (.cells #[.int .i64 0, .int .i64 0] 34))
  obtain ⟨r0, r1, rf0, rf1, rL⟩ := R.two
  have hcnt := Lib.hid (sCount_t A' c' v _ (hv.at_world H) hvl)
  have hrt := Lib.hid (fun W hr => sRights_c A c t W hr hl)
  rw [h1] at hrt
  clear h1 h2 h3
  go_enter Try.func20, Try.ntmps20
  go_wp2_with fail
  refine hcnt.out.mono ?_
  rintro e w1 ⟨rfl, rfl⟩
  go_wp2_with fail
  refine (hrt.out _ (hr.at_world H)).mono ?_
  rintro e w1 ⟨rfl, b⟩
  replace R := R.next b
  replace H := chain H b (Nat.le_refl _)
  clear b
  try clear r0 r1 rf0 rf1 rL
  obtain ⟨r0, r1, rf0, rf1, rL⟩ := R.two
  have R0 := R
  have hsz0 := H.size
  have H0 := H
  have R1 := R.alloc (.cells #[] 53)
  have H1 := H.alloc H.size (.cells #[] 53)
  have hE : OwnZ (w1.alloc (.cells #[] 53)) (w.heap.size + 1) (some ⟨w1.heap.size, 0, none⟩) 0 0 [] := OwnZ.of_blk (zs := []) (by omega) rfl (by unfold maxLen; simp) (Blk.new _ _ _)
  go_wp2
  clear r0 r1 rf0 rf1 rL hrt hcnt hy0 hne
  go_loopw [9, 10] (fun s i wr => ∃ (k : Nat) (A1 : Option Addr) (c1 : Nat), k ≤ t.length ∧ i = .int .i64 k ∧ s = .slice A1 (yesP t v k).length c1 ∧ OwnZ wr (w.heap.size + 1) A1 (yesP t v k).length c1 (flat3 (yesP t v k)) ∧ Blk wr w.heap.size 34 #[.int .i64 0, .int .i64 0] ∧ Below w.heap.size w wr) (fun _ i _ => t.length - (intOf i).toNat)
  case atStart => exact ⟨0, _, _, Nat.zero_le _, rfl, rfl, hE, R1, H1⟩
  case round =>
    clear R H
    clear hE R1 H1 R0 H0
    obtain ⟨k, A1, cc, hk, rfl, rfl, hO, R, H⟩ := hrel
    have hRL := R.lt
    by_cases hlt : k < t.length
    · obtain ⟨g, off, x, y, z, rfl, hg, hc0, hc1, hc2, hx⟩ := (hr.below H (Nat.le_refl _)).at3 hlt
      obtain ⟨g', off', u, rfl, hg', hcu, hu, -⟩ := (hv.below H (Nat.le_refl _)).at_ (show k < v.length by have := h2'.out; omega)
      have hkv : (k : Int) < (v.length : Int) := by have := h2'.out; omega
      have hgw' : g' < wr.heap.size := Nat.lt_of_lt_of_le hg' H.size
      by_cases hu1 : u = 1
      · subst hu1
        have hO0 := hO
        have hsz1 := H.size
        have hlen := yesP_len t v k
        have hone : RdI (wr.alloc (.cells #[.int .i64 x, .int .i64 y, .int .i64 z] 53)) (wr.alloc (.cells #[.int .i64 x, .int .i64 y, .int .i64 z] 53)).heap.size (some ⟨wr.heap.size, 0, none⟩) (flat3 [(x, y, z)]) := RdI.of_ints (xs := flat3 [(x, y, z)]) (Blk.new _ _ _)
        have hst := Lib.hid (yesP_hit hx.out hu.out)
        go_wp2_with (first | (at_builtin; refine wpList_append_z _ rfl (.tmp 46) (.tmp 51) rfl (w.heap.size + 1) A1 (yesP t v k).length cc (flat3 (yesP t v k)) rfl (hO0.alloc _) (wr.alloc (.cells #[.int .i64 x, .int .i64 y, .int .i64 z] 53)).heap.size _ 1 1 (flat3 [(x, y, z)]) rfl rfl hone (by omega) (by simp; omega) ?_; intro A' c' w1 hOn hgr hat) | fail)
        go_roundw
        case rel =>
          refine ⟨k + 1, A', c', by omega, by go_num, ?_, ?_, ?_, ?_⟩
          · rw [hst.out, List.length_append]; rfl
          · rw [hst.out, List.length_append, flat3_append]; exact hOn
          · exact (R.alloc _).grown hgr (fun h => by have := hO0.row_ge w.heap.size h.symm; omega)
          · exact (H.alloc H.size _).grown hgr (by simp; omega) (fun k' hk' => by have := hO0.row_ge k' hk'; omega)
        case measure => simp [intOf]; omega
      · have hub : (u == 1) = false := beq_eq_false_iff_ne.2 hu1
        have hst := Lib.hid (yesP_miss (t := t) hu.out hu1)
        clear hu1
        go_wp2
        go_roundw
        case rel => exact ⟨k + 1, A1, cc, by omega, by go_num, by rw [hst.out], by rw [hst.out]; exact hO, R, H⟩
        case measure => simp [intOf]; omega
    · obtain rfl : k = t.length := by omega
      have hlen := yesP_len t v t.length
      have hS := Lib.hid (sSum_c A1 cc (yesP t v t.length) wr hO.rd (by omega))
      unfold RetO at hS
      have hres : Hid (RetO (sumR (yesP t v t.length)) = RetO (sumR (yesP t v t.length))) := rfl
      obtain ⟨p, hp⟩ : ∃ p, oT (sumR (yesP t v t.length)) = p := ⟨_, rfl⟩
      obtain ⟨q, hq⟩ : ∃ q, oU (sumR (yesP t v t.length)) = q := ⟨_, rfl⟩
      obtain ⟨o, ho⟩ : ∃ o, (sumR (yesP t v t.length)).isSome = o := ⟨_, rfl⟩
      rw [hp, hq, ho] at hS
      have hp' := Lib.hid hp
      have hq' := Lib.hid hq
      have ho' := Lib.hid ho
      clear hp hq ho
      obtain ⟨r0, r1, rf0, rf1, rL⟩ := R.two
      go_wp2_with fail
      refine hS.out.mono ?_
      rintro e w1 ⟨rfl, b⟩
      replace R := R.next b
      replace H := chain H b (Nat.le_refl _)
      clear b
      try clear r0 r1 rf0 rf1 rL
      obtain ⟨r0, r1, rf0, rf1, rL⟩ := R.two
      go_wp2
      refine bodyPost_ret (v := .tuple #[.agg #[.int .i64 p, .int .i64 q], .bool o]) (by simp [results, Try.results20, go_sem, *]) rfl ⟨by unfold RetO; rw [hp'.out, hq'.out, ho'.out], ?_⟩
      exact (by go_grown)
theorem iShare_c (A A' : Option Addr) (c c' : Nat) (t : Rf) (v : List Int) (w : World) (hr : RdI w w.heap.size A (flat3 t)) (hl : t.length ≤ 1048576) (hv : RdI w w.heap.size A' v) (hvl : v.length ≤ 1048576) :
    Calls Try.prog 22 #[.slice A t.length c, .slice A' v.length c'] w fun e w' => RetO (shareO t v) e ∧ Below w.heap.size w w' := by
  by_cases h : rightsB t = false ∨ v.length ≠ t.length ∨ voteB v = false
  · rw [share_no h]
    exact iShare_no A A' c c' t v w hr hl hv hvl h
  · have h1 : rightsB t = true := by cases e : rightsB t; · exact absurd (.inl e) h
                                     · rfl
    have h2 : v.length = t.length := Decidable.byContradiction fun e => h (.inr (.inl e))
    have h3 : voteB v = true := by cases e : voteB v; · exact absurd (.inr (.inr e)) h
                                   · rfl
    rw [share_yes h1 h2 h3]
    exact iShare_yes A A' c c' t v w hr hl hv hvl h1 h2 h3
theorem sShare_c (A A' : Option Addr) (c c' : Nat) (t : Rf) (v : List Int) (w : World) (hr : RdI w w.heap.size A (flat3 t)) (hl : t.length ≤ 1048576) (hv : RdI w w.heap.size A' v) (hvl : v.length ≤ 1048576) :
    Calls Try.prog 20 #[.slice A t.length c, .slice A' v.length c'] w fun e w' => RetO (shareO t v) e ∧ Below w.heap.size w w' := by
  by_cases h : rightsB t = false ∨ v.length ≠ t.length ∨ voteB v = false
  · rw [share_no h]
    exact sShare_no A A' c c' t v w hr hl hv hvl h
  · have h1 : rightsB t = true := by cases e : rightsB t; · exact absurd (.inl e) h
                                     · rfl
    have h2 : v.length = t.length := Decidable.byContradiction fun e => h (.inr (.inl e))
    have h3 : voteB v = true := by cases e : voteB v; · exact absurd (.inr (.inr e)) h
                                   · rfl
    rw [share_yes h1 h2 h3]
    exact sShare_yes A A' c c' t v w hr hl hv hvl h1 h2 h3
end Go.Proofs.Ytifljdnlaginfaa
