/- DigAt, both. -/
import Derived.Test.YtoongfjidenbnaaPool
import Derived.Test.YtoongfjidenbnaaOwn
namespace Go.Proofs.Ytoongfjidenbnaa
open Go.ChangeShapes Go.WideShapes Go.ChangeAt Go.RowKit
set_option linter.unusedVariables false

def digB (g : List Int) (k d : Int) : Bool := onB g k && inB d 1 100 && decide (d ≤ g.getD k.toNat 0)
def digL (g : List Int) (k d : Int) : List Int := if digB g k d then g.set k.toNat (g.getD k.toNat 0 - d) else g
theorem digL_length (g : List Int) (k d : Int) : (digL g k d).length = g.length := by unfold digL; split <;> simp
/-- A row of the call's own and a bool. -/
def RetIB (w : World) (xs : List Int) (b : Bool) (e : Ending) (w' : World) : Prop := ∃ A c, e = .returned (.tuple #[.slice A xs.length c, .bool b]) ∧ OwnI w' w.heap.size A c xs ∧ Below w.heap.size w w'

set_option maxHeartbeats 1000000 in
theorem iDigAt_c (A : Option Addr) (c : Nat) (g : List Int) (k d : Int) (w : World) (hr : RdI w w.heap.size A g) (hl : g.length ≤ 1048576) :
    Calls Try.prog 20 #[.slice A g.length c, .int .i64 k, .int .i64 d] w (RetIB w (digL g k d) (digB g k d)) := by
  cases hon : onB g k
  · have hf : digL g k d = g := by unfold digL digB; rw [hon]; rfl
    have hf2 : digB g k d = false := by unfold digB; rw [hon]; rfl
    rw [hf, hf2]
    clear hf hf2
    go_enter Try.func20, Try.ntmps20
    go_wp2_with fail
    refine (copyInts_c _ _ _ _ hr hl).mono ?_
    rintro e w1 ⟨A', c', rfl, hO, H⟩
    go_wp2_with fail
    refine (onGround_c _ _ _ _ _ (hr.at_world H) hl).mono ?_
    rintro e w' ⟨rfl, rfl⟩
    go_wp2
    go_ret2
    exact ⟨A', c', rfl, hO, H⟩
  · cases hin : inB d 1 100
    · have hf : digL g k d = g := by unfold digL digB; rw [hon, hin]; rfl
      have hf2 : digB g k d = false := by unfold digB; rw [hon, hin]; rfl
      rw [hf, hf2]
      clear hf hf2
      go_enter Try.func20, Try.ntmps20
      go_wp2_with fail
      refine (copyInts_c _ _ _ _ hr hl).mono ?_
      rintro e w1 ⟨A', c', rfl, hO, H⟩
      go_wp2_with fail
      refine (onGround_c _ _ _ _ _ (hr.at_world H) hl).mono ?_
      rintro e w' ⟨rfl, rfl⟩
      go_wp2_with (go_at_call 33; refine (within_c _ _ _ _).mono ?_; rintro e w' ⟨rfl, rfl⟩)
      go_ret2
      exact ⟨A', c', rfl, hO, H⟩
    · obtain ⟨h0, h1, h30, hb⟩ := onB_b g k hon
      obtain ⟨d0, d1⟩ := (inB_iff _ _ _).1 hin
      obtain ⟨n, rfl⟩ := Int.eq_ofNat_of_zero_le h0
      have hn : n < g.length := by omega
      obtain ⟨b, off, x, rfl, hbb, hcx, hx, hd⟩ := hr.at_ hn
      have hx100 := hb x (List.mem_of_getElem? hx.out)
      by_cases hlt : x < d
      · have hf2 : digB g n d = false := by unfold digB; rw [Int.toNat_natCast, getD_of hx.out, decide_eq_false (by omega), Bool.and_false]
        have hf : digL g n d = g := by unfold digL; rw [hf2]; rfl
        rw [hf, hf2]
        clear hf hf2 hb
        go_enter Try.func20, Try.ntmps20
        go_wp2_with fail
        refine (copyInts_c _ _ _ _ hr hl).mono ?_
        rintro e w1 ⟨A', c', rfl, hO, H⟩
        have hcx1 := cell_next H hcx
        go_wp2_with fail
        refine (onGround_c _ _ _ _ _ (hr.at_world H) hl).mono ?_
        rintro e w' ⟨rfl, rfl⟩
        go_wp2_with (go_at_call 33; refine (within_c _ _ _ _).mono ?_; rintro e w' ⟨rfl, rfl⟩)
        go_ret2
        exact ⟨A', c', rfl, hO, H⟩
      · have hf2 : digB g n d = true := by unfold digB; rw [hon, hin, Int.toNat_natCast, getD_of hx.out, decide_eq_true (by omega)]; rfl
        have hf : digL g n d = g.set n (x - d) := by unfold digL; rw [hf2, if_pos rfl, Int.toNat_natCast, getD_of hx.out]
        rw [hf, hf2]
        have hf' := Lib.hid hf
        clear hf hf2 hb
        go_enter Try.func20, Try.ntmps20
        go_wp2_with fail
        refine (copyInts_c _ _ _ _ hr hl).mono ?_
        rintro e w1 ⟨A', c', rfl, hO, H⟩
        have hcx1 := cell_next H hcx
        go_wp2_with fail
        refine (onGround_c _ _ _ _ _ (hr.at_world H) hl).mono ?_
        rintro e w' ⟨rfl, rfl⟩
        go_wp2_with fail
        refine (within_c _ _ _ _).mono ?_
        rintro e w' ⟨rfl, rfl⟩
        go_wp2_with fail
        refine (copyInts_c _ _ _ _ (hr.at_world H) hl).mono ?_
        rintro e w2 ⟨A2, c2, rfl, hO2, H2⟩
        have hz := H.size
        replace H := chain H H2 (Nat.le_refl _)
        rcases hO2.form with ⟨rfl, e0⟩ | ⟨g2, rfl, hg2, hgl2, hc2, hm2⟩
        · rw [e0] at hn; simp at hn
        · have hcell : w2.cell? ⟨g2, n, none⟩ = some (.int .i64 x) := (hO2.cellAt n (by omega)).trans (ints_get hx.out)
          have hfr := hO2.frozenAt n
          have hst := hO2.stored n (.int .i64 (x - d))
          have hset : Hid ((ints g).set n (.int .i64 (x - d)) = ints (g.set n (x - d))) := by show _ = _; simp [ints, List.map_set]
          clear hcx hcx1
          go_wp2
          go_ret2
          refine ⟨some ⟨g2, 0, none⟩, c2, by simp, ?_, ?_⟩
          · have h3 := hst.1
            rw [hset.out] at h3
            have h4 : OwnI (w2.setCell ⟨g2, n, none⟩ (.int .i64 (x - d))) w1.heap.size (some ⟨g2, 0, none⟩) c2 (g.set n (x - d)) := by unfold OwnI; rw [List.length_set]; exact h3
            exact h4.more hz
          · exact H.setCell (p := ⟨g2, n, none⟩) (Nat.le_trans hz hg2) _

set_option maxHeartbeats 1000000 in
theorem sDigAt_c (A : Option Addr) (c : Nat) (g : List Int) (k d : Int) (w : World) (hr : RdI w w.heap.size A g) (hl : g.length ≤ 1048576) :
    Calls Try.prog 19 #[.slice A g.length c, .int .i64 k, .int .i64 d] w (RetIB w (digL g k d) (digB g k d)) := by
  have hE : OwnI (w.alloc (.cells #[] 3)) w.heap.size (some ⟨w.heap.size, 0, none⟩) 0 [] := OwnI.of_blk (xs := []) (Nat.le_refl _) (by unfold maxLen; simp) (Blk.new _ _ _)
  cases hgB : groundB g
  · have hf2 : digB g k d = false := by unfold digB onB; rw [hgB]; rfl
    have hf : digL g k d = g := by unfold digL; rw [hf2]; rfl
    rw [hf, hf2]
    clear hf hf2
    go_enter Try.func19, Try.ntmps19
    go_wp2_with (first | (at_builtin; refine wpList_append_rd _ rfl (.tmp 9) (.tmp 10) rfl w.heap.size (some ⟨w.heap.size, 0, none⟩) 0 0 [] rfl rfl hE w.heap.size A g.length c g rfl rfl (hr.alloc (Nat.le_refl _) _) (by simp; omega) (by simp) ?_; intro A' c' w1 hO hgr hat) | fail)
    simp only [List.nil_append] at hO
    have H : Below w.heap.size w w1 := ((Below.refl _ _).alloc (Nat.le_refl _) (.cells #[] 3)).grown hgr (by simp) (by simp [Value.ownBlock])
    clear hgr hat
    go_wp2_with fail
    refine (sGroundOk_c _ _ _ _ (hr.at_world H) hl).mono ?_
    rintro e w' ⟨rfl, rfl⟩
    go_wp2
    go_ret2
    exact ⟨A', c', rfl, hO, H⟩
  · have h30 := (show 1 ≤ g.length ∧ g.length ≤ 30 by unfold groundB at hgB; simp only [Bool.and_eq_true, inB_iff] at hgB; omega)
    obtain ⟨g1, g30⟩ := h30
    cases hk : inB k 0 (g.length - 1)
    · have hf2 : digB g k d = false := by unfold digB onB; rw [hgB, hk]; rfl
      have hf : digL g k d = g := by unfold digL; rw [hf2]; rfl
      rw [hf, hf2]
      clear hf hf2
      go_enter Try.func19, Try.ntmps19
      go_wp2_with (first | (at_builtin; refine wpList_append_rd _ rfl (.tmp 9) (.tmp 10) rfl w.heap.size (some ⟨w.heap.size, 0, none⟩) 0 0 [] rfl rfl hE w.heap.size A g.length c g rfl rfl (hr.alloc (Nat.le_refl _) _) (by simp; omega) (by simp) ?_; intro A' c' w1 hO hgr hat) | fail)
      simp only [List.nil_append] at hO
      have H : Below w.heap.size w w1 := ((Below.refl _ _).alloc (Nat.le_refl _) (.cells #[] 3)).grown hgr (by simp) (by simp [Value.ownBlock])
      clear hgr hat
      go_wp2_with fail
      refine (sGroundOk_c _ _ _ _ (hr.at_world H) hl).mono ?_
      rintro e w' ⟨rfl, rfl⟩
      go_wp2_with (go_at_call 32; refine (l01In_c _ _ _ _).mono ?_; rintro e w' ⟨rfl, rfl⟩)
      go_ret2
      exact ⟨A', c', rfl, hO, H⟩
    · have hon : onB g k = true := by unfold onB; rw [hgB, hk]; rfl
      cases hin : inB d 1 100
      · have hf2 : digB g k d = false := by unfold digB; rw [hon, hin]; rfl
        have hf : digL g k d = g := by unfold digL; rw [hf2]; rfl
        rw [hf, hf2]
        clear hf hf2 hon
        go_enter Try.func19, Try.ntmps19
        go_wp2_with (first | (at_builtin; refine wpList_append_rd _ rfl (.tmp 9) (.tmp 10) rfl w.heap.size (some ⟨w.heap.size, 0, none⟩) 0 0 [] rfl rfl hE w.heap.size A g.length c g rfl rfl (hr.alloc (Nat.le_refl _) _) (by simp; omega) (by simp) ?_; intro A' c' w1 hO hgr hat) | fail)
        simp only [List.nil_append] at hO
        have H : Below w.heap.size w w1 := ((Below.refl _ _).alloc (Nat.le_refl _) (.cells #[] 3)).grown hgr (by simp) (by simp [Value.ownBlock])
        clear hgr hat
        go_wp2_with fail
        refine (sGroundOk_c _ _ _ _ (hr.at_world H) hl).mono ?_
        rintro e w' ⟨rfl, rfl⟩
        go_wp2_with (go_at_call 32; refine (l01In_c _ _ _ _).mono ?_; rintro e w' ⟨rfl, rfl⟩)
        go_ret2
        exact ⟨A', c', rfl, hO, H⟩
      · obtain ⟨h0, h1, -, hb⟩ := onB_b g k hon
        obtain ⟨d0, d1⟩ := (inB_iff _ _ _).1 hin
        obtain ⟨n, rfl⟩ := Int.eq_ofNat_of_zero_le h0
        have hn : n < g.length := by omega
        obtain ⟨b, off, x, rfl, hbb, hcx, hx, hd⟩ := hr.at_ hn
        have hx100 := hb x (List.mem_of_getElem? hx.out)
        by_cases hlt : x < d
        · have hf2 : digB g n d = false := by unfold digB; rw [Int.toNat_natCast, getD_of hx.out, decide_eq_false (by omega), Bool.and_false]
          have hf : digL g n d = g := by unfold digL; rw [hf2]; rfl
          rw [hf, hf2]
          clear hf hf2 hb hon
          go_enter Try.func19, Try.ntmps19
          go_wp2_with (first | (at_builtin; refine wpList_append_rd _ rfl (.tmp 9) (.tmp 10) rfl w.heap.size (some ⟨w.heap.size, 0, none⟩) 0 0 [] rfl rfl hE w.heap.size (some ⟨b, off, none⟩) g.length c g rfl rfl (hr.alloc (Nat.le_refl _) _) (by simp; omega) (by simp) ?_; intro A' c' w1 hO hgr hat) | fail)
          simp only [List.nil_append] at hO
          have H : Below w.heap.size w w1 := ((Below.refl _ _).alloc (Nat.le_refl _) (.cells #[] 3)).grown hgr (by simp) (by simp [Value.ownBlock])
          clear hgr hat
          go_wp2_with fail
          refine (sGroundOk_c _ _ _ _ (hr.at_world H) hl).mono ?_
          rintro e w' ⟨rfl, rfl⟩
          have hcx1 := cell_next H hcx
          go_wp2_with (go_at_call 32; refine (l01In_c _ _ _ _).mono ?_; rintro e w' ⟨rfl, rfl⟩)
          go_ret2
          exact ⟨A', c', rfl, hO, H⟩
        · have hf2 : digB g n d = true := by unfold digB; rw [hon, hin, Int.toNat_natCast, getD_of hx.out, decide_eq_true (by omega)]; rfl
          have hf : digL g n d = g.set n (x - d) := by unfold digL; rw [hf2, if_pos rfl, Int.toNat_natCast, getD_of hx.out]
          rw [hf, hf2]
          clear hf hf2 hb hon
          go_enter Try.func19, Try.ntmps19
          go_wp2_with (first | (at_builtin; refine wpList_append_rd _ rfl (.tmp 9) (.tmp 10) rfl w.heap.size (some ⟨w.heap.size, 0, none⟩) 0 0 [] rfl rfl hE w.heap.size (some ⟨b, off, none⟩) g.length c g rfl rfl (hr.alloc (Nat.le_refl _) _) (by simp; omega) (by simp) ?_; intro A' c' w1 hO hgr hat) | fail)
          simp only [List.nil_append] at hO
          have H : Below w.heap.size w w1 := ((Below.refl _ _).alloc (Nat.le_refl _) (.cells #[] 3)).grown hgr (by simp) (by simp [Value.ownBlock])
          clear hgr hat
          go_wp2_with fail
          refine (sGroundOk_c _ _ _ _ (hr.at_world H) hl).mono ?_
          rintro e w' ⟨rfl, rfl⟩
          have hcx1 := cell_next H hcx
          rcases hO.form with ⟨rfl, e0⟩ | ⟨g2, rfl, hg2, hgl2, hc2, hm2⟩
          · rw [e0] at hn; simp at hn
          · have hcell : w1.cell? ⟨g2, n, none⟩ = some (.int .i64 x) := (hO.cellAt n (by omega)).trans (ints_get hx.out)
            have hfr := hO.frozenAt n
            have hst := hO.stored n (.int .i64 (x - d))
            have hset : Hid ((ints g).set n (.int .i64 (x - d)) = ints (g.set n (x - d))) := by show _ = _; simp [ints, List.map_set]
            clear hcx
            go_wp2_with (go_at_call 32; refine (l01In_c _ _ _ _).mono ?_; rintro e w' ⟨rfl, rfl⟩)
            go_ret2
            refine ⟨some ⟨g2, 0, none⟩, c', by simp, ?_, ?_⟩
            · have h3 := hst.1
              rw [hset.out] at h3
              unfold OwnI; rw [List.length_set]; exact h3
            · exact H.setCell (p := ⟨g2, n, none⟩) hg2 _
end Go.Proofs.Ytoongfjidenbnaa
