/- RightsOk, both. -/
import Derived.Test.YtifljdnlaginfaaSumS
import Derived.Test.YtifljdnlaginfaaTail
namespace Go.Proofs.Ytifljdnlaginfaa
open Go.ChangeShapes Go.WideShapes Go.ChangeAt Go.RowKit
set_option linter.unusedVariables false

def rightAt (t : Rf) (k : Nat) : Bool := inB (ow t k) 1 999 && (k == 0 || decide (ow t (k - 1) < ow t k)) && (fracB (tp t k) (bt t k) && !(tp t k == 0))
def oneO (o : Option (Int × Int)) : Bool := o.isSome && (oT o == 1 && oU o == 1)
def rightsB (t : Rf) : Bool := inB t.length 1 12 && allAt (rightAt t) t.length && oneO (sumR t)
theorem rightAt_eq {t : Rf} {k : Nat} {x y z : Int} (h : t[k]? = some (x, y, z)) : rightAt t k = (inB x 1 999 && (k == 0 || decide (ow t (k - 1) < x)) && (fracB y z && !(y == 0))) := by
  unfold rightAt
  rw [ow_at h, tp_at h, bt_at h]
theorem rights_len {t : Rf} (h : inB t.length 1 12 = false) : rightsB t = false := by unfold rightsB; rw [h]; rfl
theorem rights_bad {t : Rf} (h : allAt (rightAt t) t.length = false) : rightsB t = false := by unfold rightsB; rw [h, Bool.and_false]; rfl
theorem rights_all {t : Rf} (h : inB t.length 1 12 = true) (h2 : allAt (rightAt t) t.length = true) : rightsB t = oneO (sumR t) := by unfold rightsB; rw [h, h2]; rfl

def CS (L : List (Addr × Value)) (w W : World) : Prop := (∀ p ∈ L, W.cell? p.1 = some p.2) ∧ Below w.heap.size w W
theorem CS.next {L : List (Addr × Value)} {w W W' : World} (h : CS L w W) (b : Below W.heap.size W W') : CS L w W' := ⟨fun p hp => cell_next b (h.1 p hp), chain h.2 b (Nat.le_refl _)⟩
set_option maxHeartbeats 4000000 in
theorem iRights_c (A : Option Addr) (c : Nat) (t : Rf) (w : World) (hr : RdI w w.heap.size A (flat3 t)) (hl : t.length ≤ 1048576) :
    Calls Try.prog 39 #[.slice A t.length c] w fun e w' => e = .returned (.bool (rightsB t)) ∧ Below w.heap.size w w' := by
  cases hin : inB t.length 1 12
  · rw [rights_len hin]
    go_enter Try.func39, Try.ntmps39
    go_wp2_with fail
    refine (within_c _ _ _ _).mono ?_
    rintro e w' ⟨rfl, rfl⟩
    go_wp2
    go_ret
    exact ⟨rfl, Below.refl _ _⟩
  · obtain ⟨hl1, hl12⟩ := (inB_iff _ _ _).1 hin
    have hin' := Lib.hid hin
    go_enter Try.func39, Try.ntmps39
    go_wp2_with fail
    refine (within_c _ _ _ _).mono ?_
    rintro e w' ⟨rfl, rfl⟩
    go_wp2
    clear hin
    go_loopw [13] (fun i wr => ∃ k : Nat, k ≤ t.length ∧ i = .int .i64 k ∧ Below w.heap.size w wr ∧ Hid (AllTo (rightAt t) k)) (fun i _ => t.length - (intOf i).toNat)
    case atStart => exact ⟨0, Nat.zero_le _, rfl, Below.refl _ _, AllTo.zero _⟩
    case round =>
      obtain ⟨k, hk, rfl, H, hall⟩ := hrel
      by_cases hlt : k < t.length
      · obtain ⟨g, off, x, y, z, rfl, hg, hc0, hc1, hc2, hx⟩ := (hr.below H (Nat.le_refl _)).at3 hlt
        have hgw : g < wr.heap.size := Nat.lt_of_lt_of_le hg H.size
        have hq := Lib.hid (rightAt_eq hx.out)
        cases h1 : inB x 1 999
        · have hbad := Lib.hid (show rightAt t k = false by rw [hq.out, h1]; rfl)
          go_wp2
          go_quiet ((go_at_call 34; refine Calls.mono (within_c _ _ _ _) ?_; rintro e w' ⟨rfl, rfl⟩; exact ⟨rfl, _, rfl⟩))
          go_wp2
          go_ret
          exact ⟨by rw [rights_bad (allAt_not hlt hbad.out)]; rfl, below_drewN (H.alloc H.size _) _⟩
        · by_cases hk0 : k = 0
          · subst hk0
            simp only [Nat.zero_mul, Nat.add_zero] at hc0 hc1 hc2
            cases h3 : fracB y z
            · have hbad := Lib.hid (show rightAt t 0 = false by rw [hq.out, h1, h3]; rfl)
              have B := Blk.new wr 53 #[.int .i64 x, .int .i64 y, .int .i64 z]
              obtain ⟨b0, b1, b2, -, -, -, bL⟩ := B.three
              have HB := H.alloc H.size (.cells #[.int .i64 x, .int .i64 y, .int .i64 z] 53)
              have HC := Below.refl (wr.alloc (.cells #[.int .i64 x, .int .i64 y, .int .i64 z] 53)).heap.size (wr.alloc (.cells #[.int .i64 x, .int .i64 y, .int .i64 z] 53))
              have hFk := Lib.hid (fun W => iFok_c y z W)
              rw [h3] at hFk
              go_wp2
              have hS0 : CS [(⟨wr.heap.size, 0, none⟩, .int .i64 x), (⟨wr.heap.size, 1, none⟩, .int .i64 y), (⟨wr.heap.size, 2, none⟩, .int .i64 z)] w ((wr.alloc (.cells #[.int .i64 x, .int .i64 y, .int .i64 z] 53)).drew) := ⟨by simp only [List.mem_cons, List.not_mem_nil, or_false, forall_eq_or_imp, forall_eq]; first | exact ⟨b0, b1, b2⟩ | exact ⟨b0, b1, b2, (World.cell?_alloc_lt _ _ _ (World.block_lt_of_cell? _ _ hd0)).trans hd0⟩, Below.drew HB⟩
              haveI hne : Nonempty (Wd (CS [(⟨wr.heap.size, 0, none⟩, .int .i64 x), (⟨wr.heap.size, 1, none⟩, .int .i64 y), (⟨wr.heap.size, 2, none⟩, .int .i64 z)] w)) := ⟨⟨_, hS0⟩⟩
              have c0 : ∀ U : Wd (CS [(⟨wr.heap.size, 0, none⟩, .int .i64 x), (⟨wr.heap.size, 1, none⟩, .int .i64 y), (⟨wr.heap.size, 2, none⟩, .int .i64 z)] w), U.val.cell? ⟨wr.heap.size, 0, none⟩ = some (.int .i64 x) := fun U => U.ok.1 (⟨wr.heap.size, 0, none⟩, .int .i64 x) (by simp)
              have c1 : ∀ U : Wd (CS [(⟨wr.heap.size, 0, none⟩, .int .i64 x), (⟨wr.heap.size, 1, none⟩, .int .i64 y), (⟨wr.heap.size, 2, none⟩, .int .i64 z)] w), U.val.cell? ⟨wr.heap.size, 1, none⟩ = some (.int .i64 y) := fun U => U.ok.1 (⟨wr.heap.size, 1, none⟩, .int .i64 y) (by simp)
              have c2 : ∀ U : Wd (CS [(⟨wr.heap.size, 0, none⟩, .int .i64 x), (⟨wr.heap.size, 1, none⟩, .int .i64 y), (⟨wr.heap.size, 2, none⟩, .int .i64 z)] w), U.val.cell? ⟨wr.heap.size, 2, none⟩ = some (.int .i64 z) := fun U => U.ok.1 (⟨wr.heap.size, 2, none⟩, .int .i64 z) (by simp)
              skip
              refine wp_region_class (S := CS [(⟨wr.heap.size, 0, none⟩, .int .i64 x), (⟨wr.heap.size, 1, none⟩, .int .i64 y), (⟨wr.heap.size, 2, none⟩, .int .i64 z)] w) (by kernel_rfl) (by kernel_rfl) hS0 ?_
              clear hS0 HB
              repeat (go_big_quiet_step ((first | (go_at_call 34; refine (within_c _ _ _ _).mono ?_; rintro e w2 ⟨rfl, rfl⟩; exact ⟨rfl, _, rfl⟩) | (go_at_call 49; refine (hFk.out _).mono ?_; rintro e w2 ⟨rfl, b⟩; exact ⟨rfl, ⟨_, CS.next (Wd.ok _) b⟩, rfl⟩))))
              refine wpQuiet_nil ?_
              rintro _ ⟨⟨U, hU⟩, rfl⟩
              have H2 := hU.2
              clear hU c0 c1 c2 hne
              go_wp2
              go_ret
              exact ⟨by rw [rights_bad (allAt_not hlt hbad.out)]; rfl, H2⟩
            · cases h4 : y == 0
              · have hgood := Lib.hid (show rightAt t 0 = true by rw [hq.out, h1, h3, h4]; rfl)
                have B := Blk.new wr 53 #[.int .i64 x, .int .i64 y, .int .i64 z]
                obtain ⟨b0, b1, b2, -, -, -, bL⟩ := B.three
                have HB := H.alloc H.size (.cells #[.int .i64 x, .int .i64 y, .int .i64 z] 53)
                have HC := Below.refl (wr.alloc (.cells #[.int .i64 x, .int .i64 y, .int .i64 z] 53)).heap.size (wr.alloc (.cells #[.int .i64 x, .int .i64 y, .int .i64 z] 53))
                have hFk := Lib.hid (fun W => iFok_c y z W)
                rw [h3] at hFk
                go_wp2
                have hS0 : CS [(⟨wr.heap.size, 0, none⟩, .int .i64 x), (⟨wr.heap.size, 1, none⟩, .int .i64 y), (⟨wr.heap.size, 2, none⟩, .int .i64 z)] w ((wr.alloc (.cells #[.int .i64 x, .int .i64 y, .int .i64 z] 53)).drew) := ⟨by simp only [List.mem_cons, List.not_mem_nil, or_false, forall_eq_or_imp, forall_eq]; first | exact ⟨b0, b1, b2⟩ | exact ⟨b0, b1, b2, (World.cell?_alloc_lt _ _ _ (World.block_lt_of_cell? _ _ hd0)).trans hd0⟩, Below.drew HB⟩
                haveI hne : Nonempty (Wd (CS [(⟨wr.heap.size, 0, none⟩, .int .i64 x), (⟨wr.heap.size, 1, none⟩, .int .i64 y), (⟨wr.heap.size, 2, none⟩, .int .i64 z)] w)) := ⟨⟨_, hS0⟩⟩
                have c0 : ∀ U : Wd (CS [(⟨wr.heap.size, 0, none⟩, .int .i64 x), (⟨wr.heap.size, 1, none⟩, .int .i64 y), (⟨wr.heap.size, 2, none⟩, .int .i64 z)] w), U.val.cell? ⟨wr.heap.size, 0, none⟩ = some (.int .i64 x) := fun U => U.ok.1 (⟨wr.heap.size, 0, none⟩, .int .i64 x) (by simp)
                have c1 : ∀ U : Wd (CS [(⟨wr.heap.size, 0, none⟩, .int .i64 x), (⟨wr.heap.size, 1, none⟩, .int .i64 y), (⟨wr.heap.size, 2, none⟩, .int .i64 z)] w), U.val.cell? ⟨wr.heap.size, 1, none⟩ = some (.int .i64 y) := fun U => U.ok.1 (⟨wr.heap.size, 1, none⟩, .int .i64 y) (by simp)
                have c2 : ∀ U : Wd (CS [(⟨wr.heap.size, 0, none⟩, .int .i64 x), (⟨wr.heap.size, 1, none⟩, .int .i64 y), (⟨wr.heap.size, 2, none⟩, .int .i64 z)] w), U.val.cell? ⟨wr.heap.size, 2, none⟩ = some (.int .i64 z) := fun U => U.ok.1 (⟨wr.heap.size, 2, none⟩, .int .i64 z) (by simp)
                skip
                refine wp_region_class (S := CS [(⟨wr.heap.size, 0, none⟩, .int .i64 x), (⟨wr.heap.size, 1, none⟩, .int .i64 y), (⟨wr.heap.size, 2, none⟩, .int .i64 z)] w) (by kernel_rfl) (by kernel_rfl) hS0 ?_
                clear hS0 HB
                repeat (go_big_quiet_step ((first | (go_at_call 34; refine (within_c _ _ _ _).mono ?_; rintro e w2 ⟨rfl, rfl⟩; exact ⟨rfl, _, rfl⟩) | (go_at_call 49; refine (hFk.out _).mono ?_; rintro e w2 ⟨rfl, b⟩; exact ⟨rfl, ⟨_, CS.next (Wd.ok _) b⟩, rfl⟩))))
                refine wpQuiet_nil ?_
                rintro _ ⟨⟨U, hU⟩, rfl⟩
                have H2 := hU.2
                clear hU c0 c1 c2 hne
                go_wp2
                go_roundw
                case rel => exact ⟨0 + 1, by omega, by go_num, H2, hall.out.succ hgood.out⟩
                case measure => simp [intOf]; omega
              · have hbad := Lib.hid (show rightAt t 0 = false by rw [hq.out, h1, h3, h4]; rfl)
                have B := Blk.new wr 53 #[.int .i64 x, .int .i64 y, .int .i64 z]
                obtain ⟨b0, b1, b2, -, -, -, bL⟩ := B.three
                have HB := H.alloc H.size (.cells #[.int .i64 x, .int .i64 y, .int .i64 z] 53)
                have HC := Below.refl (wr.alloc (.cells #[.int .i64 x, .int .i64 y, .int .i64 z] 53)).heap.size (wr.alloc (.cells #[.int .i64 x, .int .i64 y, .int .i64 z] 53))
                have hFk := Lib.hid (fun W => iFok_c y z W)
                rw [h3] at hFk
                go_wp2
                have hS0 : CS [(⟨wr.heap.size, 0, none⟩, .int .i64 x), (⟨wr.heap.size, 1, none⟩, .int .i64 y), (⟨wr.heap.size, 2, none⟩, .int .i64 z)] w ((wr.alloc (.cells #[.int .i64 x, .int .i64 y, .int .i64 z] 53)).drew) := ⟨by simp only [List.mem_cons, List.not_mem_nil, or_false, forall_eq_or_imp, forall_eq]; first | exact ⟨b0, b1, b2⟩ | exact ⟨b0, b1, b2, (World.cell?_alloc_lt _ _ _ (World.block_lt_of_cell? _ _ hd0)).trans hd0⟩, Below.drew HB⟩
                haveI hne : Nonempty (Wd (CS [(⟨wr.heap.size, 0, none⟩, .int .i64 x), (⟨wr.heap.size, 1, none⟩, .int .i64 y), (⟨wr.heap.size, 2, none⟩, .int .i64 z)] w)) := ⟨⟨_, hS0⟩⟩
                have c0 : ∀ U : Wd (CS [(⟨wr.heap.size, 0, none⟩, .int .i64 x), (⟨wr.heap.size, 1, none⟩, .int .i64 y), (⟨wr.heap.size, 2, none⟩, .int .i64 z)] w), U.val.cell? ⟨wr.heap.size, 0, none⟩ = some (.int .i64 x) := fun U => U.ok.1 (⟨wr.heap.size, 0, none⟩, .int .i64 x) (by simp)
                have c1 : ∀ U : Wd (CS [(⟨wr.heap.size, 0, none⟩, .int .i64 x), (⟨wr.heap.size, 1, none⟩, .int .i64 y), (⟨wr.heap.size, 2, none⟩, .int .i64 z)] w), U.val.cell? ⟨wr.heap.size, 1, none⟩ = some (.int .i64 y) := fun U => U.ok.1 (⟨wr.heap.size, 1, none⟩, .int .i64 y) (by simp)
                have c2 : ∀ U : Wd (CS [(⟨wr.heap.size, 0, none⟩, .int .i64 x), (⟨wr.heap.size, 1, none⟩, .int .i64 y), (⟨wr.heap.size, 2, none⟩, .int .i64 z)] w), U.val.cell? ⟨wr.heap.size, 2, none⟩ = some (.int .i64 z) := fun U => U.ok.1 (⟨wr.heap.size, 2, none⟩, .int .i64 z) (by simp)
                skip
                refine wp_region_class (S := CS [(⟨wr.heap.size, 0, none⟩, .int .i64 x), (⟨wr.heap.size, 1, none⟩, .int .i64 y), (⟨wr.heap.size, 2, none⟩, .int .i64 z)] w) (by kernel_rfl) (by kernel_rfl) hS0 ?_
                clear hS0 HB
                repeat (go_big_quiet_step ((first | (go_at_call 34; refine (within_c _ _ _ _).mono ?_; rintro e w2 ⟨rfl, rfl⟩; exact ⟨rfl, _, rfl⟩) | (go_at_call 49; refine (hFk.out _).mono ?_; rintro e w2 ⟨rfl, b⟩; exact ⟨rfl, ⟨_, CS.next (Wd.ok _) b⟩, rfl⟩))))
                refine wpQuiet_nil ?_
                rintro _ ⟨⟨U, hU⟩, rfl⟩
                have H2 := hU.2
                clear hU c0 c1 c2 hne
                go_wp2
                go_ret
                exact ⟨by rw [rights_bad (allAt_not hlt hbad.out)]; rfl, H2⟩
          · obtain ⟨m, rfl⟩ : ∃ m, k = m + 1 := ⟨k - 1, by omega⟩
            clear hk0
            have hwm : IntKind.i64.wrap (m : Int) = (m : Int) := IntWalk.i64_in _ (by omega)
            have hml : m < t.length := by omega
            have hlt1 : (m : Int) + 1 < (t.length : Int) := by omega
            have hlt0 : (0 : Int) ≤ (m : Int) + 1 := by omega
            obtain ⟨x0, y0, z0, -, hd0, hd1, hd2, hx0⟩ := (hr.below H (Nat.le_refl _)).at3C (show m < t.length by omega)
            have hq' := Lib.hid (show rightAt t (m + 1) = (inB x 1 999 && decide (x0 < x) && (fracB y z && !(y == 0))) by rw [hq.out, Nat.add_sub_cancel, ow_at hx0.out]; rfl)
            clear hq hd1 hd2
            by_cases h2 : x ≤ x0
            · have hbad := Lib.hid (show rightAt t (m + 1) = false by rw [hq'.out, h1, decide_eq_false (show ¬ x0 < x by omega)]; rfl)
              go_wp2
              go_quiet ((go_at_call 34; refine Calls.mono (within_c _ _ _ _) ?_; rintro e w' ⟨rfl, rfl⟩; exact ⟨rfl, _, rfl⟩))
              go_wp2
              go_ret
              exact ⟨by rw [rights_bad (allAt_not hlt hbad.out)]; rfl, below_drewN (H.alloc H.size _) _⟩
            · have h2' : x0 < x := by omega
              have hd2 : decide (x ≤ x0) = false := decide_eq_false h2
              clear h2
              cases h3 : fracB y z
              · have hbad := Lib.hid (show rightAt t (m + 1) = false by rw [hq'.out, h1, decide_eq_true h2', h3]; rfl)
                have B := Blk.new wr 53 #[.int .i64 x, .int .i64 y, .int .i64 z]
                obtain ⟨b0, b1, b2, -, -, -, bL⟩ := B.three
                have HB := H.alloc H.size (.cells #[.int .i64 x, .int .i64 y, .int .i64 z] 53)
                have HC := Below.refl (wr.alloc (.cells #[.int .i64 x, .int .i64 y, .int .i64 z] 53)).heap.size (wr.alloc (.cells #[.int .i64 x, .int .i64 y, .int .i64 z] 53))
                have hFk := Lib.hid (fun W => iFok_c y z W)
                rw [h3] at hFk
                go_wp2
                have hS0 : CS [(⟨wr.heap.size, 0, none⟩, .int .i64 x), (⟨wr.heap.size, 1, none⟩, .int .i64 y), (⟨wr.heap.size, 2, none⟩, .int .i64 z), (⟨g, off + m * 3, none⟩, .int .i64 x0)] w ((wr.alloc (.cells #[.int .i64 x, .int .i64 y, .int .i64 z] 53)).drew) := ⟨by simp only [List.mem_cons, List.not_mem_nil, or_false, forall_eq_or_imp, forall_eq]; first | exact ⟨b0, b1, b2⟩ | exact ⟨b0, b1, b2, (World.cell?_alloc_lt _ _ _ (World.block_lt_of_cell? _ _ hd0)).trans hd0⟩, Below.drew HB⟩
                haveI hne : Nonempty (Wd (CS [(⟨wr.heap.size, 0, none⟩, .int .i64 x), (⟨wr.heap.size, 1, none⟩, .int .i64 y), (⟨wr.heap.size, 2, none⟩, .int .i64 z), (⟨g, off + m * 3, none⟩, .int .i64 x0)] w)) := ⟨⟨_, hS0⟩⟩
                have c0 : ∀ U : Wd (CS [(⟨wr.heap.size, 0, none⟩, .int .i64 x), (⟨wr.heap.size, 1, none⟩, .int .i64 y), (⟨wr.heap.size, 2, none⟩, .int .i64 z), (⟨g, off + m * 3, none⟩, .int .i64 x0)] w), U.val.cell? ⟨wr.heap.size, 0, none⟩ = some (.int .i64 x) := fun U => U.ok.1 (⟨wr.heap.size, 0, none⟩, .int .i64 x) (by simp)
                have c1 : ∀ U : Wd (CS [(⟨wr.heap.size, 0, none⟩, .int .i64 x), (⟨wr.heap.size, 1, none⟩, .int .i64 y), (⟨wr.heap.size, 2, none⟩, .int .i64 z), (⟨g, off + m * 3, none⟩, .int .i64 x0)] w), U.val.cell? ⟨wr.heap.size, 1, none⟩ = some (.int .i64 y) := fun U => U.ok.1 (⟨wr.heap.size, 1, none⟩, .int .i64 y) (by simp)
                have c2 : ∀ U : Wd (CS [(⟨wr.heap.size, 0, none⟩, .int .i64 x), (⟨wr.heap.size, 1, none⟩, .int .i64 y), (⟨wr.heap.size, 2, none⟩, .int .i64 z), (⟨g, off + m * 3, none⟩, .int .i64 x0)] w), U.val.cell? ⟨wr.heap.size, 2, none⟩ = some (.int .i64 z) := fun U => U.ok.1 (⟨wr.heap.size, 2, none⟩, .int .i64 z) (by simp)
                have c3 : ∀ U : Wd (CS [(⟨wr.heap.size, 0, none⟩, .int .i64 x), (⟨wr.heap.size, 1, none⟩, .int .i64 y), (⟨wr.heap.size, 2, none⟩, .int .i64 z), (⟨g, off + m * 3, none⟩, .int .i64 x0)] w), U.val.cell? ⟨g, off + m * 3, none⟩ = some (.int .i64 x0) := fun U => U.ok.1 (⟨g, off + m * 3, none⟩, .int .i64 x0) (by simp)
                refine wp_region_class (S := CS [(⟨wr.heap.size, 0, none⟩, .int .i64 x), (⟨wr.heap.size, 1, none⟩, .int .i64 y), (⟨wr.heap.size, 2, none⟩, .int .i64 z), (⟨g, off + m * 3, none⟩, .int .i64 x0)] w) (by kernel_rfl) (by kernel_rfl) hS0 ?_
                clear hS0 HB
                repeat (go_big_quiet_step ((first | (go_at_call 34; refine (within_c _ _ _ _).mono ?_; rintro e w2 ⟨rfl, rfl⟩; exact ⟨rfl, _, rfl⟩) | (go_at_call 49; refine (hFk.out _).mono ?_; rintro e w2 ⟨rfl, b⟩; exact ⟨rfl, ⟨_, CS.next (Wd.ok _) b⟩, rfl⟩))))
                refine wpQuiet_nil ?_
                rintro _ ⟨⟨U, hU⟩, rfl⟩
                have H2 := hU.2
                clear hU c0 c1 c2 hne
                go_wp2
                go_ret
                exact ⟨by rw [rights_bad (allAt_not hlt hbad.out)]; rfl, H2⟩
              · cases h4 : y == 0
                · have hgood := Lib.hid (show rightAt t (m + 1) = true by rw [hq'.out, h1, decide_eq_true h2', h3, h4]; rfl)
                  have B := Blk.new wr 53 #[.int .i64 x, .int .i64 y, .int .i64 z]
                  obtain ⟨b0, b1, b2, -, -, -, bL⟩ := B.three
                  have HB := H.alloc H.size (.cells #[.int .i64 x, .int .i64 y, .int .i64 z] 53)
                  have HC := Below.refl (wr.alloc (.cells #[.int .i64 x, .int .i64 y, .int .i64 z] 53)).heap.size (wr.alloc (.cells #[.int .i64 x, .int .i64 y, .int .i64 z] 53))
                  have hFk := Lib.hid (fun W => iFok_c y z W)
                  rw [h3] at hFk
                  go_wp2
                  have hS0 : CS [(⟨wr.heap.size, 0, none⟩, .int .i64 x), (⟨wr.heap.size, 1, none⟩, .int .i64 y), (⟨wr.heap.size, 2, none⟩, .int .i64 z), (⟨g, off + m * 3, none⟩, .int .i64 x0)] w ((wr.alloc (.cells #[.int .i64 x, .int .i64 y, .int .i64 z] 53)).drew) := ⟨by simp only [List.mem_cons, List.not_mem_nil, or_false, forall_eq_or_imp, forall_eq]; first | exact ⟨b0, b1, b2⟩ | exact ⟨b0, b1, b2, (World.cell?_alloc_lt _ _ _ (World.block_lt_of_cell? _ _ hd0)).trans hd0⟩, Below.drew HB⟩
                  haveI hne : Nonempty (Wd (CS [(⟨wr.heap.size, 0, none⟩, .int .i64 x), (⟨wr.heap.size, 1, none⟩, .int .i64 y), (⟨wr.heap.size, 2, none⟩, .int .i64 z), (⟨g, off + m * 3, none⟩, .int .i64 x0)] w)) := ⟨⟨_, hS0⟩⟩
                  have c0 : ∀ U : Wd (CS [(⟨wr.heap.size, 0, none⟩, .int .i64 x), (⟨wr.heap.size, 1, none⟩, .int .i64 y), (⟨wr.heap.size, 2, none⟩, .int .i64 z), (⟨g, off + m * 3, none⟩, .int .i64 x0)] w), U.val.cell? ⟨wr.heap.size, 0, none⟩ = some (.int .i64 x) := fun U => U.ok.1 (⟨wr.heap.size, 0, none⟩, .int .i64 x) (by simp)
                  have c1 : ∀ U : Wd (CS [(⟨wr.heap.size, 0, none⟩, .int .i64 x), (⟨wr.heap.size, 1, none⟩, .int .i64 y), (⟨wr.heap.size, 2, none⟩, .int .i64 z), (⟨g, off + m * 3, none⟩, .int .i64 x0)] w), U.val.cell? ⟨wr.heap.size, 1, none⟩ = some (.int .i64 y) := fun U => U.ok.1 (⟨wr.heap.size, 1, none⟩, .int .i64 y) (by simp)
                  have c2 : ∀ U : Wd (CS [(⟨wr.heap.size, 0, none⟩, .int .i64 x), (⟨wr.heap.size, 1, none⟩, .int .i64 y), (⟨wr.heap.size, 2, none⟩, .int .i64 z), (⟨g, off + m * 3, none⟩, .int .i64 x0)] w), U.val.cell? ⟨wr.heap.size, 2, none⟩ = some (.int .i64 z) := fun U => U.ok.1 (⟨wr.heap.size, 2, none⟩, .int .i64 z) (by simp)
                  have c3 : ∀ U : Wd (CS [(⟨wr.heap.size, 0, none⟩, .int .i64 x), (⟨wr.heap.size, 1, none⟩, .int .i64 y), (⟨wr.heap.size, 2, none⟩, .int .i64 z), (⟨g, off + m * 3, none⟩, .int .i64 x0)] w), U.val.cell? ⟨g, off + m * 3, none⟩ = some (.int .i64 x0) := fun U => U.ok.1 (⟨g, off + m * 3, none⟩, .int .i64 x0) (by simp)
                  refine wp_region_class (S := CS [(⟨wr.heap.size, 0, none⟩, .int .i64 x), (⟨wr.heap.size, 1, none⟩, .int .i64 y), (⟨wr.heap.size, 2, none⟩, .int .i64 z), (⟨g, off + m * 3, none⟩, .int .i64 x0)] w) (by kernel_rfl) (by kernel_rfl) hS0 ?_
                  clear hS0 HB
                  repeat (go_big_quiet_step ((first | (go_at_call 34; refine (within_c _ _ _ _).mono ?_; rintro e w2 ⟨rfl, rfl⟩; exact ⟨rfl, _, rfl⟩) | (go_at_call 49; refine (hFk.out _).mono ?_; rintro e w2 ⟨rfl, b⟩; exact ⟨rfl, ⟨_, CS.next (Wd.ok _) b⟩, rfl⟩))))
                  refine wpQuiet_nil ?_
                  rintro _ ⟨⟨U, hU⟩, rfl⟩
                  have H2 := hU.2
                  clear hU c0 c1 c2 hne
                  go_wp2
                  go_roundw
                  case rel => exact ⟨m + 1 + 1, by omega, by go_num, H2, hall.out.succ hgood.out⟩
                  case measure => simp [intOf]; omega
                · have hbad := Lib.hid (show rightAt t (m + 1) = false by rw [hq'.out, h1, decide_eq_true h2', h3, h4]; rfl)
                  have B := Blk.new wr 53 #[.int .i64 x, .int .i64 y, .int .i64 z]
                  obtain ⟨b0, b1, b2, -, -, -, bL⟩ := B.three
                  have HB := H.alloc H.size (.cells #[.int .i64 x, .int .i64 y, .int .i64 z] 53)
                  have HC := Below.refl (wr.alloc (.cells #[.int .i64 x, .int .i64 y, .int .i64 z] 53)).heap.size (wr.alloc (.cells #[.int .i64 x, .int .i64 y, .int .i64 z] 53))
                  have hFk := Lib.hid (fun W => iFok_c y z W)
                  rw [h3] at hFk
                  go_wp2
                  have hS0 : CS [(⟨wr.heap.size, 0, none⟩, .int .i64 x), (⟨wr.heap.size, 1, none⟩, .int .i64 y), (⟨wr.heap.size, 2, none⟩, .int .i64 z), (⟨g, off + m * 3, none⟩, .int .i64 x0)] w ((wr.alloc (.cells #[.int .i64 x, .int .i64 y, .int .i64 z] 53)).drew) := ⟨by simp only [List.mem_cons, List.not_mem_nil, or_false, forall_eq_or_imp, forall_eq]; first | exact ⟨b0, b1, b2⟩ | exact ⟨b0, b1, b2, (World.cell?_alloc_lt _ _ _ (World.block_lt_of_cell? _ _ hd0)).trans hd0⟩, Below.drew HB⟩
                  haveI hne : Nonempty (Wd (CS [(⟨wr.heap.size, 0, none⟩, .int .i64 x), (⟨wr.heap.size, 1, none⟩, .int .i64 y), (⟨wr.heap.size, 2, none⟩, .int .i64 z), (⟨g, off + m * 3, none⟩, .int .i64 x0)] w)) := ⟨⟨_, hS0⟩⟩
                  have c0 : ∀ U : Wd (CS [(⟨wr.heap.size, 0, none⟩, .int .i64 x), (⟨wr.heap.size, 1, none⟩, .int .i64 y), (⟨wr.heap.size, 2, none⟩, .int .i64 z), (⟨g, off + m * 3, none⟩, .int .i64 x0)] w), U.val.cell? ⟨wr.heap.size, 0, none⟩ = some (.int .i64 x) := fun U => U.ok.1 (⟨wr.heap.size, 0, none⟩, .int .i64 x) (by simp)
                  have c1 : ∀ U : Wd (CS [(⟨wr.heap.size, 0, none⟩, .int .i64 x), (⟨wr.heap.size, 1, none⟩, .int .i64 y), (⟨wr.heap.size, 2, none⟩, .int .i64 z), (⟨g, off + m * 3, none⟩, .int .i64 x0)] w), U.val.cell? ⟨wr.heap.size, 1, none⟩ = some (.int .i64 y) := fun U => U.ok.1 (⟨wr.heap.size, 1, none⟩, .int .i64 y) (by simp)
                  have c2 : ∀ U : Wd (CS [(⟨wr.heap.size, 0, none⟩, .int .i64 x), (⟨wr.heap.size, 1, none⟩, .int .i64 y), (⟨wr.heap.size, 2, none⟩, .int .i64 z), (⟨g, off + m * 3, none⟩, .int .i64 x0)] w), U.val.cell? ⟨wr.heap.size, 2, none⟩ = some (.int .i64 z) := fun U => U.ok.1 (⟨wr.heap.size, 2, none⟩, .int .i64 z) (by simp)
                  have c3 : ∀ U : Wd (CS [(⟨wr.heap.size, 0, none⟩, .int .i64 x), (⟨wr.heap.size, 1, none⟩, .int .i64 y), (⟨wr.heap.size, 2, none⟩, .int .i64 z), (⟨g, off + m * 3, none⟩, .int .i64 x0)] w), U.val.cell? ⟨g, off + m * 3, none⟩ = some (.int .i64 x0) := fun U => U.ok.1 (⟨g, off + m * 3, none⟩, .int .i64 x0) (by simp)
                  refine wp_region_class (S := CS [(⟨wr.heap.size, 0, none⟩, .int .i64 x), (⟨wr.heap.size, 1, none⟩, .int .i64 y), (⟨wr.heap.size, 2, none⟩, .int .i64 z), (⟨g, off + m * 3, none⟩, .int .i64 x0)] w) (by kernel_rfl) (by kernel_rfl) hS0 ?_
                  clear hS0 HB
                  repeat (go_big_quiet_step ((first | (go_at_call 34; refine (within_c _ _ _ _).mono ?_; rintro e w2 ⟨rfl, rfl⟩; exact ⟨rfl, _, rfl⟩) | (go_at_call 49; refine (hFk.out _).mono ?_; rintro e w2 ⟨rfl, b⟩; exact ⟨rfl, ⟨_, CS.next (Wd.ok _) b⟩, rfl⟩))))
                  refine wpQuiet_nil ?_
                  rintro _ ⟨⟨U, hU⟩, rfl⟩
                  have H2 := hU.2
                  clear hU c0 c1 c2 hne
                  go_wp2
                  go_ret
                  exact ⟨by rw [rights_bad (allAt_not hlt hbad.out)]; rfl, H2⟩
      · have hfin := Lib.hid (rights_all hin'.out (hall.out.all hk hlt))
        have hS := Lib.hid (iSum_c A c t wr (hr.at_world H) hl)
        unfold RetO at hS
        rcases hs : sumR t with _ | ⟨p, q⟩
        · have hres := Lib.hid (show rightsB t = false by rw [hfin.out, hs]; rfl)
          rw [hs] at hS
          have e1 : oT none = 0 := rfl
          have e2 : oU none = 0 := rfl
          rw [e1, e2] at hS
          clear hs e1 e2
          go_wp2_with fail
          refine hS.out.mono ?_
          rintro e w1 ⟨rfl, b⟩
          replace H := chain H b (Nat.le_refl _)
          go_wp2
          go_ret
          exact ⟨by rw [hres.out]; rfl, H.alloc H.size _⟩
        · have hres := Lib.hid (show rightsB t = (p == 1 && q == 1) by rw [hfin.out, hs]; rfl)
          rw [hs] at hS
          have e1 : oT (some (p, q)) = p := rfl
          have e2 : oU (some (p, q)) = q := rfl
          rw [e1, e2] at hS
          clear hs e1 e2
          by_cases hp : p = 1
          · subst hp
            by_cases hq : q = 1
            · subst hq
              go_wp2_with fail
              refine hS.out.mono ?_
              rintro e w1 ⟨rfl, b⟩
              replace H := chain H b (Nat.le_refl _)
              go_wp2
              go_ret
              exact ⟨by rw [hres.out]; rfl, H.alloc H.size _⟩
            · have hqb : (q == 1) = false := beq_eq_false_iff_ne.2 hq
              rw [hqb] at hres
              go_wp2_with fail
              refine hS.out.mono ?_
              rintro e w1 ⟨rfl, b⟩
              replace H := chain H b (Nat.le_refl _)
              go_wp2
              go_ret
              exact ⟨by rw [hres.out]; rfl, H.alloc H.size _⟩
          · have hpb : (p == 1) = false := beq_eq_false_iff_ne.2 hp
            rw [hpb] at hres
            go_wp2_with fail
            refine hS.out.mono ?_
            rintro e w1 ⟨rfl, b⟩
            replace H := chain H b (Nat.le_refl _)
            go_wp2
            go_ret
            exact ⟨by rw [hres.out]; rfl, H.alloc H.size _⟩
end Go.Proofs.Ytifljdnlaginfaa
