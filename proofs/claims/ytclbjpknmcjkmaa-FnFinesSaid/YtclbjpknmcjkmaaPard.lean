/- Pardoned, both. -/
import Derived.Test.YtclbjpknmcjkmaaFines
import Derived.Test.YtclbjpknmcjkmaaOwnS
namespace Go.Proofs.Ytclbjpknmcjkmaa
open Go.ChangeShapes Go.WideShapes Go.ChangeAt Go.RowKit
set_option linter.unusedVariables false

def pardK (t : Of) (d : Int) (k : Nat) : Of := pardP (t.take k) d
theorem pardK_hit {t : Of} {d : Int} {k : Nat} {x y z : Int} (h : t[k]? = some (x, y, z)) (hd : d ≤ y) : pardK t d (k + 1) = pardK t d k ++ [(x, y, z)] := by
  obtain ⟨hk, he⟩ := List.getElem?_eq_some_iff.1 h
  unfold pardK pardP
  rw [List.take_succ_eq_append_getElem hk, he, List.filter_append]
  simp [hd]
theorem pardK_miss {t : Of} {d : Int} {k : Nat} {x y z : Int} (h : t[k]? = some (x, y, z)) (hd : ¬ d ≤ y) : pardK t d (k + 1) = pardK t d k := by
  obtain ⟨hk, he⟩ := List.getElem?_eq_some_iff.1 h
  unfold pardK pardP
  rw [List.take_succ_eq_append_getElem hk, he, List.filter_append]
  simp [hd]
theorem pardK_len (t : Of) (d : Int) (k : Nat) : (pardK t d k).length ≤ k := by
  unfold pardK pardP
  exact Nat.le_trans (List.length_filter_le _ _) (List.length_take_le _ _)
theorem pardK_end (t : Of) (d : Int) : pardK t d t.length = pardP t d := by unfold pardK; rw [List.take_length]
theorem pardL_len (t : Of) (d : Int) : (pardL t d).length ≤ t.length := by
  unfold pardL
  split
  · exact List.length_filter_le _ _
  · exact Nat.zero_le _
theorem pardL_no {t : Of} {d : Int} (h : offB t = false) : pardL t d = [] := by unfold pardL; rw [h]; rfl
theorem pardL_yes {t : Of} {d : Int} (h : offB t = true) : pardL t d = pardK t d t.length := by unfold pardL; rw [h, pardK_end]; rfl
theorem OwnZ.row_ge {w : World} {base : Nat} {A : Option Addr} {n c : Nat} {zs : List Int} (h : OwnZ w base A n c zs) : ∀ k, (Value.slice A n c).ownBlock = some k → base ≤ k := fun k hk => (World.ownsRow.lt h k hk).1

set_option maxHeartbeats 2000000 in
theorem sPard_c (A : Option Addr) (c : Nat) (t : Of) (d : Int) (w : World) (hr : RdI w w.heap.size A (flat3 t)) (hl : t.length ≤ 1048576) :
    Calls Try.prog 18 #[.slice A t.length c, .int .i64 d] w (RetS w (pardL t d)) := by
  have hE : OwnZ (w.alloc (.cells #[] 37)) w.heap.size (some ⟨w.heap.size, 0, none⟩) 0 0 [] := OwnZ.of_blk (zs := []) (Nat.le_refl _) rfl (by unfold maxLen; simp) (Blk.new _ _ _)
  have hH := (Below.refl w.heap.size w).alloc (Nat.le_refl _) (.cells #[] 37)
  cases ht : offB t
  · rw [pardL_no ht]
    have ht' := Lib.hid ht
    clear ht
    go_enter Try.func18, Try.ntmps18
    go_wp2
    go_loopw [5, 6] (fun s i wr => s = .slice (some ⟨w.heap.size, 0, none⟩) 0 0 ∧ i = .int .i64 0 ∧ OwnZ wr w.heap.size (some ⟨w.heap.size, 0, none⟩) 0 0 [] ∧ Below w.heap.size w wr) (fun _ _ _ => 0)
    case atStart => exact ⟨rfl, rfl, hE, hH⟩
    case round =>
      clear hE hH
      obtain ⟨rfl, rfl, hO, H⟩ := hrel
      by_cases h0 : 0 < t.length
      · go_wp2_with fail
        refine (sOk_c _ _ _ _ (hr.at_world H) hl).mono ?_
        rw [ht'.out]
        rintro e wn ⟨rfl, b⟩
        replace H := chain H b (Nat.le_refl _)
        replace hO := hO.next b
        clear b
        go_wp2
        go_ret
        exact ⟨_, _, rfl, hO, H⟩
      · go_wp2
        go_ret
        exact ⟨_, _, rfl, hO, H⟩
  · have h40 := (off_b t ht).1
    rw [pardL_yes ht]
    have ht' := Lib.hid ht
    clear ht
    go_enter Try.func18, Try.ntmps18
    go_wp2
    go_loopw [5, 6] (fun s i wr => ∃ (k : Nat) (A : Option Addr) (c : Nat), k ≤ t.length ∧ i = .int .i64 k ∧ s = .slice A (pardK t d k).length c ∧ OwnZ wr w.heap.size A (pardK t d k).length c (flat3 (pardK t d k)) ∧ Below w.heap.size w wr) (fun _ i _ => t.length - (intOf i).toNat)
    case atStart => exact ⟨0, _, _, Nat.zero_le _, rfl, rfl, hE, hH⟩
    case round =>
      clear hE hH
      obtain ⟨k, A, cc, hk, rfl, rfl, hO, H⟩ := hrel
      by_cases hlt : k < t.length
      · go_wp2_with fail
        refine (sOk_c _ _ _ _ (hr.at_world H) hl).mono ?_
        rw [ht'.out]
        rintro e wn ⟨rfl, b⟩
        replace H := chain H b (Nat.le_refl _)
        replace hO := hO.next b
        clear b
        obtain ⟨g, off, x, y, z, rfl, hg, hc0, hc1, hc2, hx⟩ := (hr.below H (Nat.le_refl _)).at3 hlt
        by_cases hd : d ≤ y
        · have hO0 := hO
          have hsz1 := H.size
          have hlen := pardK_len t d k
          have hone : RdI (wn.alloc (.cells #[.int .i64 x, .int .i64 y, .int .i64 z] 37)) (wn.alloc (.cells #[.int .i64 x, .int .i64 y, .int .i64 z] 37)).heap.size (some ⟨wn.heap.size, 0, none⟩) (flat3 [(x, y, z)]) := RdI.of_ints (Blk.new _ _ _)
          have hst := Lib.hid (pardK_hit hx.out hd)
          go_wp2_with (first | (at_builtin; refine wpList_append_z _ rfl (.tmp 25) (.tmp 30) rfl w.heap.size A (pardK t d k).length cc (flat3 (pardK t d k)) rfl (hO0.alloc _) (wn.alloc (.cells #[.int .i64 x, .int .i64 y, .int .i64 z] 37)).heap.size _ 1 1 (flat3 [(x, y, z)]) rfl rfl hone (by omega) (by simp; omega) ?_; intro A' c' w1 hOn hgr hat) | fail)
          go_roundw
          case rel =>
            refine ⟨k + 1, A', c', by omega, by go_num, ?_, ?_, ?_⟩
            · rw [hst.out, List.length_append]; rfl
            · rw [hst.out, List.length_append, flat3_append]; exact hOn
            · exact (H.alloc H.size _).grown hgr (by simp; omega) (fun k' hk' => hO0.row_ge k' hk')
          case measure => simp [intOf]; omega
        · have hst := Lib.hid (pardK_miss hx.out hd)
          go_wp2
          go_roundw
          case rel => exact ⟨k + 1, A, cc, by omega, by go_num, by rw [hst.out], by rw [hst.out]; exact hO, H⟩
          case measure => simp [intOf]; omega
      · obtain rfl : k = t.length := by omega
        go_wp2
        go_ret
        exact ⟨_, _, rfl, hO, H⟩
set_option maxHeartbeats 2000000 in
theorem iPard_c (A : Option Addr) (c : Nat) (t : Of) (d : Int) (w : World) (hr : RdI w w.heap.size A (flat3 t)) (hl : t.length ≤ 1048576) :
    Calls Try.prog 19 #[.slice A t.length c, .int .i64 d] w (RetS w (pardL t d)) := by
  cases ht : offB t
  · rw [pardL_no ht]
    go_enter Try.func19, Try.ntmps19
    go_wp2_with fail
    refine (iOk_c _ _ _ _ hr hl).mono ?_
    rintro e wn ⟨rfl, b⟩
    go_wp2
    go_ret
    exact ⟨none, 0, rfl, OwnZ.nil _ _, b⟩
  · have h40 := (off_b t ht).1
    rw [pardL_yes ht]
    go_enter Try.func19, Try.ntmps19
    go_wp2_with fail
    refine (iOk_c _ _ _ _ hr hl).mono ?_
    rintro e wn ⟨rfl, b⟩
    go_wp2
    clear ht
    go_loopw [5, 13] (fun s i wr => ∃ (k : Nat) (A : Option Addr) (c : Nat), k ≤ t.length ∧ i = .int .i64 k ∧ s = .slice A (pardK t d k).length c ∧ OwnZ wr w.heap.size A (pardK t d k).length c (flat3 (pardK t d k)) ∧ Below w.heap.size w wr) (fun _ i _ => t.length - (intOf i).toNat)
    case atStart => exact ⟨0, none, 0, Nat.zero_le _, rfl, rfl, OwnZ.nil _ _, b⟩
    case round =>
      clear b
      obtain ⟨k, A, cc, hk, rfl, rfl, hO, H⟩ := hrel
      by_cases hlt : k < t.length
      · obtain ⟨g, off, x, y, z, rfl, hg, hc0, hc1, hc2, hx⟩ := (hr.below H (Nat.le_refl _)).at3 hlt
        by_cases hd : d ≤ y
        · have hO0 := hO
          have hsz1 := H.size
          have hlen := pardK_len t d k
          have hone : RdI ((wr.alloc (.cells #[.int .i64 x, .int .i64 y, .int .i64 z] 37)).alloc (.cells #[.int .i64 x, .int .i64 y, .int .i64 z] 37)) ((wr.alloc (.cells #[.int .i64 x, .int .i64 y, .int .i64 z] 37)).alloc (.cells #[.int .i64 x, .int .i64 y, .int .i64 z] 37)).heap.size (some ⟨wr.heap.size + 1, 0, none⟩) (flat3 [(x, y, z)]) := (by have h := RdI.of_ints (xs := flat3 [(x, y, z)]) (Blk.new (wr.alloc (.cells #[.int .i64 x, .int .i64 y, .int .i64 z] 37)) 37 #[.int .i64 x, .int .i64 y, .int .i64 z]); simp only [World.size_alloc] at h ⊢; exact h)
          have hst := Lib.hid (pardK_hit hx.out hd)
          go_wp2_with (first | (at_builtin; refine wpList_append_z _ rfl (.tmp 21) (.tmp 23) rfl w.heap.size A (pardK t d k).length cc (flat3 (pardK t d k)) rfl ((hO0.alloc _).alloc _) ((wr.alloc (.cells #[.int .i64 x, .int .i64 y, .int .i64 z] 37)).alloc (.cells #[.int .i64 x, .int .i64 y, .int .i64 z] 37)).heap.size _ 1 1 (flat3 [(x, y, z)]) rfl rfl hone (by omega) (by simp; omega) ?_; intro A' c' w1 hOn hgr hat) | fail)
          go_roundw
          case rel =>
            refine ⟨k + 1, A', c', by omega, by go_num, ?_, ?_, ?_⟩
            · rw [hst.out, List.length_append]; rfl
            · rw [hst.out, List.length_append, flat3_append]; exact hOn
            · exact ((H.alloc H.size _).alloc (by simp; omega) _).grown hgr (by simp; omega) (fun k' hk' => hO0.row_ge k' hk')
          case measure => simp [intOf]; omega
        · have hst := Lib.hid (pardK_miss hx.out hd)
          go_wp2
          go_roundw
          case rel => exact ⟨k + 1, A, cc, by omega, by go_num, by rw [hst.out], by rw [hst.out]; exact hO.alloc _, H.alloc H.size _⟩
          case measure => simp [intOf]; omega
      · obtain rfl : k = t.length := by omega
        go_wp2
        go_ret
        exact ⟨_, _, rfl, hO, H⟩
end Go.Proofs.Ytclbjpknmcjkmaa
