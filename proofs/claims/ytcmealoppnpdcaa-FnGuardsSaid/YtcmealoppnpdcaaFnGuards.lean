/- FnGuards: as few watches as possible leave no gap, and none of them can be left out. -/
import Derived.Test.YtcmealoppnpdcaaDrawW
import Derived.Test.YtcmealoppnpdcaaLaw
import Derived.Test.YtcmealoppnpdcaaFew
import Derived.Test.YtcmealoppnpdcaaCheapS
import Derived.Test.YtcmealoppnpdcaaOwn2
import Derived.Test.YtcmealoppnpdcaaTail
import Derived.Deep.RegionLaw
namespace Go.Proofs.Ytcmealoppnpdcaa
open Go.ChangeShapes Go.WideShapes Go.ChangeAt Go.RowKit Go.Joins
set_option linter.unusedVariables false

theorem RdI.takeN {w : World} {B : Nat} {A : Option Addr} {xs : List Int} (h : RdI w B A xs) (n : Nat) : RdI w B A (xs.take n) := by
  rcases h with rfl | ⟨b, off, e, hb, hc⟩
  · left; simp
  · exact .inr ⟨b, off, e, hb, fun k x hk => hc k x (by
      rw [List.getElem?_take] at hk
      split at hk
      · exact hk
      · cases hk)⟩
theorem RdI.dropN {w : World} {B b off : Nat} {xs : List Int} (h : RdI w B (some ⟨b, off, none⟩) xs) (n : Nat) : RdI w B (some ⟨b, off + n, none⟩) (xs.drop n) := by
  rcases h with rfl | ⟨b', off', e, hb, hc⟩
  · left; simp
  · injection e with e
    injection e with e1 e2
    subst e1 e2
    exact .inr ⟨_, _, rfl, hb, fun k x hk => by
      rw [Nat.add_assoc]
      exact hc (n + k) x (by rw [← hk, List.getElem?_drop])⟩
theorem flat3_take : ∀ (k : Nat) (o : Wf), flat3 (o.take k) = (flat3 o).take (k * 3) := by
  intro k
  induction k with
  | zero => intro o; simp [flat3]
  | succ k ih =>
    intro o
    cases o with
    | nil => simp [flat3]
    | cons x o =>
      have e : (k + 1) * 3 = k * 3 + 1 + 1 + 1 := by omega
      rw [List.take_succ_cons, e]
      show x.1 :: x.2.1 :: x.2.2 :: flat3 (o.take k) = (x.1 :: x.2.1 :: x.2.2 :: flat3 o).take _
      rw [ih o]
      rfl
theorem flat3_drop : ∀ (k : Nat) (o : Wf), flat3 (o.drop k) = (flat3 o).drop (k * 3) := by
  intro k
  induction k with
  | zero => intro o; simp
  | succ k ih =>
    intro o
    cases o with
    | nil => simp [flat3]
    | cons x o =>
      have e : (k + 1) * 3 = k * 3 + 1 + 1 + 1 := by omega
      rw [List.drop_succ_cons, e]
      show flat3 (o.drop k) = (x.1 :: x.2.1 :: x.2.2 :: flat3 o).drop _
      rw [ih o]
      rfl
theorem step_append_z {ops : Array Oper} {o : Oper} {a : Act} {w : World} {K : Act → World → Prop} {Q : Exit → Act → World → Prop} {E : Prop} (hg : o.guard = none) (s x : Operand)
    (ho : o.op = Op.call { callee := Callee.builtin Builtin.append, args := #[s, x], argTypes := #[25, 25] })
    (base : Nat) (A0 : Option Addr) (n c0 : Nat) (zs : List Int) (hs : a.eval s = .slice A0 n c0) (hown : OwnZ w base A0 n c0 zs) (B : Nat) (ad : Addr) (m c : Nat) (ys : List Int) (hm : ys.length = m * 3) (hx : a.eval x = .slice (some ad) m c) (hr : RdI w B (some ad) ys)
    (hb : n + m ≤ 1099511627776) (hbase : base ≤ w.heap.size)
    (hK : ∀ A' c' w', OwnZ w' base A' (n + m) c' (zs ++ ys) → w.grownBy w' (Value.slice A0 n c0).ownBlock → (A' = A0 ∨ A' = some ⟨w.heap.size, 0, none⟩) → K (a.put o.dst (.slice A' (n + m) c')) w') :
    if Region.wanted o (yielded ops a.tmps) = true then Oper.wp Try.prog o a w K Q else E := by
  have hw : Region.wanted o (yielded ops a.tmps) = true := by simp [Region.wanted, hg]
  rw [if_pos hw]
  obtain ⟨A', c', w', hrun, h2, h3, h4⟩ := run_append_z w base o.type A0 n c0 zs hown B ad m c ys hm hr hb hbase
  unfold Oper.wp execOp
  simp only [ho, resolve, invoke, builtin, Sem.run_bind, Sem.run_pure, Result.andThen_ok, List.map_toArray, List.map_cons, List.map_nil, hs, hx, hrun]
  exact hK _ _ _ h2 h3 h4
theorem below_kept {B : Nat} {w w1 w2 : World} {row : Option Nat} (h : Below B w w1) (hg : w1.grownBy w2 row) (hB : B ≤ w1.heap.size) (hr : ∀ k, row = some k → B ≤ k) : Below B w w2 := h.grown hg hB hr
set_option maxRecDepth 100000 in
set_option maxHeartbeats 4000000 in
theorem FnGuards_walk (A : Option Addr) (cp : Nat) (code : List Int) (w : World) (hm : code.length ≤ maxLen) (hr : RdB w w.heap.size A code) :
    Calls Try.prog 8 #[.slice A code.length cp] w fun e w' => e = .returned (.bool true) ∧ Below w.heap.size w w' := by
  by_cases hl : code.length ≤ 1048576
  · have hd := Lib.hid (show decide ((1048576 : Int) < code.length) = false from decide_eq_false (by omega))
    clear hm
    go_enter Try.func8, Try.ntmps8
    go_wp2_with fail
    refine (big_c _ _ _ _).mono ?_
    rw [hd.out]
    rintro e w' ⟨rfl, rfl⟩
    go_wp2_with fail
    refine (drawWat_c _ _ _ _ hr hl).mono ?_
    rintro e w1 ⟨A1, c1, t, rfl, hO, ht, h10, H⟩
    have T := hO.rd
    have ht' := Lib.hid ht
    have hl8 : t.length ≤ 1048576 := by omega
    have hr1 := Lib.hid ((hr.below H (Nat.le_refl _)).more H.size)
    clear ht hO
    go_wp2_with fail
    refine (at_c _ _ _ _ _ hr1.out hl (by omega) (by omega)).mono ?_
    rintro e w' ⟨a', rfl, a0, a1, rfl⟩
    have am0 := Int.emod_nonneg a' (show (20 : Int) ≠ 0 by omega)
    have am1 := Int.emod_lt_of_pos a' (show (0 : Int) < 20 by omega)
    go_wp2_with fail
    obtain ⟨a, ha⟩ : ∃ a, a' % 20 = a := ⟨_, rfl⟩
    rw [ha] at am0 am1 ⊢
    clear a0 a1 ha
    refine (at_c _ _ _ _ _ hr1.out hl (by omega) (by omega)).mono ?_
    rintro e w' ⟨b', rfl, b0, b1, rfl⟩
    have bm0 := Int.emod_nonneg b' (show (12 : Int) ≠ 0 by omega)
    have bm1 := Int.emod_lt_of_pos b' (show (0 : Int) < 12 by omega)
    go_wp2_with fail
    obtain ⟨b, hb⟩ : ∃ b, a + b' % 12 = b := ⟨_, rfl⟩
    rw [hb]
    obtain ⟨hb0, hb1⟩ : a ≤ b ∧ b ≤ a + 11 := by omega
    clear hb bm0 bm1 b0 b1
    obtain ⟨f, hfe, hf11, hfr, hfp, hft, hff, hcd, hgd, hc1, hc0⟩ := guard_facts ht'.out am0 (show a ≤ 48 by omega) (show 0 ≤ b by omega) (show b ≤ 48 by omega) (show b - a ≤ 11 by omega)
    have hgi := Lib.hid (gaps_in (t := t) (a := a) (b := b))
    have hgl48 := gapsL_len t a b
    have hfe' := Lib.hid hfe
    have hfr' := Lib.hid hfr
    have hfp' := Lib.hid hfp
    have hol := Lib.hid (ownL_len t f)
    obtain ⟨W, hW⟩ : ∃ W, isW t a b = W := ⟨_, rfl⟩
    rw [hW] at hft hff hcd hgd
    have hft' := Lib.hid hft
    have hff' := Lib.hid hff
    have hW' := Lib.hid hW
    obtain ⟨c, hc⟩ : ∃ c, cheapZ t a b = c := ⟨_, rfl⟩
    rw [hc] at hcd hc0 hc1 hft'
    have hc' := Lib.hid hc
    obtain ⟨gs, hgs⟩ : ∃ gs, gapsL t a b = gs := ⟨_, rfl⟩
    rw [hgs] at hgi hgl48 hgd
    have hgs' := Lib.hid hgs
    clear hfe hfr hfp hft hff hW hc hgs
    have hWW : (W != W) = false := by simp
    refine (iIsW_c _ _ t _ _ _ T hl8).mono ?_
    rw [hW'.out]
    rintro e w2 ⟨rfl, b2⟩
    replace H := chain H b2 (Nat.le_refl _)
    replace T := T.at_world b2
    clear b2
    go_wp2_with fail
    refine (iGaps_c _ _ t _ _ _ T hl8).mono ?_
    rw [hgs'.out]
    rintro e w3 ⟨A3, c3, rfl, G, b3⟩
    replace H := chain H b3 (Nat.le_refl _)
    replace T := T.at_world b3
    have S := G.rd
    clear b3 G
    go_wp2_with fail
    refine (iFew_c _ _ t _ _ _ T hl8).mono ?_
    rw [hfe'.out, hW'.out]
    rintro e w4 ⟨A4, c4, rfl, F, b4⟩
    replace H := chain H b4 (Nat.le_refl _)
    replace T := T.at_world b4
    replace S := S.at_world b4
    have R := F.rd
    clear b4 F
    go_wp2_with fail
    refine (iCheap_c _ _ t _ _ _ T hl8).mono ?_
    rw [hc'.out]
    rintro e w5 ⟨rfl, b5⟩
    replace H := chain H b5 (Nat.le_refl _)
    replace T := T.at_world b5
    replace S := S.at_world b5
    replace R := R.at_world b5
    clear b5
    go_wp2_with fail
    refine (sIsW_c _ _ t _ _ _ T hl8).mono ?_
    rw [hW'.out]
    rintro e w6 ⟨rfl, b6⟩
    replace H := chain H b6 (Nat.le_refl _)
    replace T := T.at_world b6
    replace S := S.at_world b6
    replace R := R.at_world b6
    clear b6
    have hE := OwnZ.empty w6
    have hE0 : OwnZ (w6.alloc (.cells #[] 44)) w6.heap.size (some ⟨w6.heap.size, 0, none⟩) ((ownL t f).take 0).length 0 (flat3 ((ownL t f).take 0)) := hE
    have hw6 : w.heap.size ≤ w6.heap.size := H.size
    replace H := H.alloc H.size (.cells #[] 44)
    replace T := T.alloc (Nat.le_refl _) (.cells #[] 44)
    replace S := S.alloc (Nat.le_refl _) (.cells #[] 44)
    replace R := R.alloc (Nat.le_refl _) (.cells #[] 44)
    clear hE
    go_wp2
    go_loopw [11, 12, 13] (fun ps os i wr => ∃ (k : Nat) (A5 : Option Addr) (c5 : Nat), k ≤ f.length ∧ i = .int .i64 k ∧ ps = .int .i64 (payK (ownL t f) k) ∧ os = .slice A5 k c5 ∧ OwnZ wr w6.heap.size A5 k c5 (flat3 ((ownL t f).take k)) ∧ Below w.heap.size w wr ∧ RdI wr w6.heap.size A1 (flat3 t) ∧ RdI wr w6.heap.size A3 gs ∧ RdI wr w6.heap.size A4 f ∧ w6.heap.size ≤ wr.heap.size) (fun _ _ i _ => f.length - (intOf i).toNat)
    case atStart => exact ⟨0, _, _, Nat.zero_le _, rfl, rfl, rfl, hE0, H, T, S, R, by simp⟩
    case round =>
      clear H T S R hE0
      obtain ⟨k, A5, c5, hk, rfl, rfl, rfl, hO, H, T, S, R, hs⟩ := hrel
      by_cases hlt : k < f.length
      · obtain ⟨gf, of, fx, rfl, hgf, hcf, hfx, -⟩ := R.at_ hlt
        obtain ⟨x0, x1⟩ := hfr'.out fx (List.mem_of_getElem? hfx.out)
        obtain ⟨n, rfl⟩ := Int.eq_ofNat_of_zero_le x0
        obtain ⟨gt, ot, x, y, z, rfl, hgt, hx0, hx1, hx2, hx⟩ := T.at3 (show n < t.length by omega)
        obtain ⟨e1, e2⟩ := own_take_succ hfx.out hx.out
        obtain ⟨p0, p1⟩ := hfp'.out k hk
        have hz := (wat_b t ht'.out).2 n (by omega)
        rw [py_at hx.out] at hz
        have e1' := Lib.hid e1
        have e2' := Lib.hid e2
        obtain ⟨p, hp⟩ : ∃ p, payK (ownL t f) k = p := ⟨_, rfl⟩
        rw [hp] at p0 p1 e2' ⊢
        have hn0 : (0 : Int) ≤ (n : Int) := by omega
        have hnl : (n : Int) < (t.length : Int) := by omega
        have hgw : gf < wr.heap.size := by omega
        have hgtw : gt < wr.heap.size := by omega
        have hone : RdI (wr.alloc (.cells #[.int .i64 x, .int .i64 y, .int .i64 z] 44)) (wr.alloc (.cells #[.int .i64 x, .int .i64 y, .int .i64 z] 44)).heap.size (some ⟨wr.heap.size, 0, none⟩) (flat3 [(x, y, z)]) := RdI.of_ints (xs := flat3 [(x, y, z)]) (Blk.new _ _ _)
        have hOa := hO.alloc (.cells #[.int .i64 x, .int .i64 y, .int .i64 z] 44)
        have hrow := Lib.hid hOa.row_ge2
        have hfl := Lib.hid (show (flat3 ((ownL t f).take (k + 1))) = flat3 ((ownL t f).take k) ++ flat3 [(x, y, z)] by rw [e1'.out, flat3_append])
        clear e1 e2 hp
        go_wp2_with (first | (at_builtin; refine wpList_append_z _ rfl (.tmp 103) (.tmp 111) rfl w6.heap.size A5 k c5 (flat3 ((ownL t f).take k)) rfl hOa (wr.alloc (.cells #[.int .i64 x, .int .i64 y, .int .i64 z] 44)).heap.size _ 1 1 (flat3 [(x, y, z)]) rfl rfl hone (by omega) (by simp; omega) ?_; intro A' c' w7 hOn hgr hat) | fail)
        go_roundw
        case rel =>
          have hrw : ∀ k', (Value.slice A5 k c5).ownBlock = some k' → w6.heap.size ≤ k' := hrow.out
          refine ⟨k + 1, A', c', by omega, by go_num, by rw [e2'.out], rfl, by rw [hfl.out]; exact hOn, (H.alloc H.size _).grown hgr (by simp; omega) (fun k' hk' => by have := hrw k' hk'; omega), ?_, ?_, ?_, ?_⟩
          · exact (T.alloc hs _).kept hgr (by simp; omega) hrw
          · exact (S.alloc hs _).kept hgr (by simp; omega) hrw
          · exact (R.alloc hs _).kept hgr (by simp; omega) hrw
          · have := hgr.size; simp at this; omega
        case measure => simp [intOf]; omega
      · obtain rfl : k = f.length := by omega
        have hOO : OwnZ wr w6.heap.size A5 f.length c5 (flat3 (ownL t f)) := by
          have h2 := hO
          rw [List.take_of_length_le (by rw [hol.out]; exact Nat.le_refl _)] at h2
          exact h2
        have hIo := Lib.hid (fun W' (h : RdI W' W'.heap.size A5 (flat3 (ownL t f))) => iIsW_c A5 c5 (ownL t f) a b W' h (by rw [hol.out]; omega))
        rw [hol.out] at hIo
        clear hO
        go_upto_region 21 with (fail)
        clear hlt hk
        obtain ⟨pp0, pp1⟩ := hfp'.out f.length (Nat.le_refl _)
        obtain ⟨p, hp⟩ : ∃ p, payK (ownL t f) f.length = p := ⟨_, rfl⟩
        rw [hp] at pp0 pp1 hft' ⊢
        clear hp
        go_cut [125] (fun s wx => s = .bool false ∧ OwnZ wx w6.heap.size A5 f.length c5 (flat3 (ownL t f)) ∧ Below w.heap.size w wx ∧ RdI wx w6.heap.size A1 (flat3 t) ∧ RdI wx w6.heap.size A3 gs ∧ w6.heap.size ≤ wx.heap.size)
        case first =>
          cases W
          · go_wp2
            go_meet
            exact ⟨rfl, hOO, H, T, S, hs⟩
          · obtain ⟨q1, q2, -⟩ := hft'.out rfl
            rw [q1] at hIo
            have hcp : decide (p < c) = false := decide_eq_false (by omega)
            clear q1
            go_wp2_with fail
            refine (hIo.out _ hOO.rd).mono ?_
            rintro e w7 ⟨rfl, b7⟩
            go_wp2
            go_meet
            exact ⟨rfl, hOO.next b7, chain H b7 (Nat.le_refl _), T.below b7 hs, S.below b7 hs, Nat.le_trans hs b7.size⟩
        case rest =>
          clear hOO H T S R hs
          obtain ⟨rfl, hOO, H, T, S, hs⟩ := hcut
          go_wp2
          go_loopw [14] (fun i wy => ∃ k : Nat, k ≤ f.length ∧ i = .int .i64 k ∧ OwnZ wy w6.heap.size A5 f.length c5 (flat3 (ownL t f)) ∧ Below w.heap.size w wy ∧ RdI wy w6.heap.size A1 (flat3 t) ∧ RdI wy w6.heap.size A3 gs ∧ w6.heap.size ≤ wy.heap.size) (fun i _ => f.length - (intOf i).toNat)
          case atStart => exact ⟨0, Nat.zero_le _, rfl, hOO, H, T, S, hs⟩
          case round =>
            clear hOO H T S hs
            obtain ⟨k, hk, rfl, hOO, H, T, S, hs⟩ := hrel
            by_cases hlt : k < f.length
            · have hWt : W = true := by
                cases W
                · have := hff'.out rfl
                  rw [this] at hlt
                  simp at hlt
                · rfl
              subst hWt
              have hless := Lib.hid ((hft'.out rfl).2.2 k hlt)
              obtain ⟨g5, rfl, hg5, hg5l, hc5, hc5m⟩ : ∃ g5, A5 = some ⟨g5, 0, none⟩ ∧ w6.heap.size ≤ g5 ∧ g5 < wr.heap.size ∧ f.length ≤ c5 ∧ c5 ≤ maxLen := by
                rcases hOO.form with ⟨_, e, _⟩ | ⟨g5, e, h1, h2, h3, h4⟩
                · omega
                · exact ⟨g5, e, h1, h2, h3, h4⟩
              unfold maxLen at hc5m
              have hll := less_len (o := ownL t f) (k := k) (by rw [hol.out]; exact hlt)
              rw [hol.out] at hll
              have hIl := Lib.hid (fun A7 c7 W' (h : RdI W' W'.heap.size A7 (flat3 (lessL (ownL t f) k))) => iIsW_c A7 c7 (lessL (ownL t f) k) a b W' h (by omega))
              rw [hll, hless.out] at hIl
              have hll' := Lib.hid hll
              clear hll
              have RO := hOO.rd
              have R1 := Lib.hid (show RdI wr wr.heap.size (some ⟨g5, 0, none⟩) (flat3 ((ownL t f).take k)) by rw [flat3_take]; exact RO.takeN _)
              have R2 := Lib.hid (show RdI wr wr.heap.size (some ⟨g5, (k + 1) * 3, none⟩) (flat3 ((ownL t f).drop (k + 1))) by rw [flat3_drop]; have := RO.dropN ((k + 1) * 3); rw [Nat.zero_add] at this; exact this)
              have l1 := Lib.hid (show (flat3 ((ownL t f).take k)).length = k * 3 by rw [flat3_length, List.length_take, hol.out]; congr 1; omega)
              have l2 := Lib.hid (show (flat3 ((ownL t f).drop (k + 1))).length = (f.length - (k + 1)) * 3 by rw [flat3_length, List.length_drop, hol.out])
              have hfj := Lib.hid (show flat3 (lessL (ownL t f) k) = flat3 ((ownL t f).take k) ++ flat3 ((ownL t f).drop (k + 1)) by unfold lessL; rw [flat3_append])
              clear RO
              have hic : k ≤ c5 := by omega
              have hwr : IntKind.i64.wrap ((k : Int) + 1) = (k : Int) + 1 := IntWalk.i64_in _ (by omega)
              have hp0 : (0 : Int) ≤ (k : Int) + 1 := by omega
              have hp1 : (k : Int) + 1 ≤ (f.length : Int) := by omega
              have hp2 : ((k : Int) + 1).toNat = k + 1 := by omega
              go_upto_region 26 with (fail)
              go_cut [15] (fun s wz => ∃ (A7 : Option Addr) (c7 : Nat), s = .slice A7 (f.length - 1) c7 ∧ RdI wz wz.heap.size A7 (flat3 (lessL (ownL t f) k)) ∧ OwnZ wz w6.heap.size (some ⟨g5, 0, none⟩) f.length c5 (flat3 (ownL t f)) ∧ Below w.heap.size w wz ∧ RdI wz w6.heap.size A1 (flat3 t) ∧ RdI wz w6.heap.size A3 gs ∧ w6.heap.size ≤ wz.heap.size)
              case first =>
                have hmeet : ∀ (W7 w7 w8 : World) (row row' : Option Nat), Below wr.heap.size wr W7 → W7.grownBy w7 row → wr.heap.size ≤ W7.heap.size → (∀ j, row = some j → wr.heap.size ≤ j) → w7.grownBy w8 row' → (∀ j, row' = some j → wr.heap.size ≤ j) → Below wr.heap.size wr w8 := fun W7 w7 w8 row row' b1 b2 b3 b4 b5 b6 => (b1.grown b2 b3 b4).grown b5 (Nat.le_trans b3 b2.size) b6
                have hmeet' := Lib.hid hmeet
                clear hmeet
                obtain ⟨AD, hA, hRA⟩ : ∃ AD : Addr, (if c5 = k + 1 then some (⟨g5, 0, none⟩ : Addr) else some ⟨g5, (k + 1) * 3, none⟩) = some AD ∧ Hid (RdI wr wr.heap.size (some AD) (flat3 ((ownL t f).drop (k + 1)))) := by
                  by_cases hck : c5 = k + 1
                  · refine ⟨⟨g5, 0, none⟩, by simp [hck], ?_⟩
                    have : (ownL t f).drop (k + 1) = [] := List.drop_of_length_le (by rw [hol.out]; omega)
                    rw [this]; exact .inl rfl
                  · exact ⟨⟨g5, (k + 1) * 3, none⟩, by simp [hck], R2⟩
                go_region_law (first
                  | (refine step_append_z rfl (.tmp 135) (.tmp 138) rfl wr.heap.size (some ⟨wr.heap.size, 0, none⟩) 0 0 [] rfl (by exact OwnZ.empty wr) wr.heap.size ⟨g5, 0, none⟩ k _ (flat3 ((ownL t f).take k)) l1.out rfl (by exact R1.out.alloc (Nat.le_refl _) _) (by omega) (by simp) ?_; intro A7 c7 w7 h1 h2 h3)
                  | (refine step_append_z rfl (.tmp 139) (.tmp 143) rfl wr.heap.size A7 k c7 (flat3 ((ownL t f).take k)) rfl (by simpa using h1) wr.heap.size AD (f.length - (k + 1)) _ (flat3 ((ownL t f).drop (k + 1))) l2.out rfl (by exact RdI.kept (by exact hRA.out.alloc (Nat.le_refl _) _) h2 (by simp) (fun k' hk' => by simp only [Value.ownBlock] at hk'; injection hk' with hk'; omega)) (by omega) (by have := h2.size; simp at this; omega) ?_; intro A8 c8 w8 j1 j2 j3))
                have b8 : Below wr.heap.size wr w8 := hmeet'.out _ w7 w8 _ _ (by exact ((Below.refl wr.heap.size wr).alloc (Nat.le_refl _) _).drew) h2 (by simp) (fun j hj => by simp only [Value.ownBlock] at hj; injection hj with hj; omega) j2 (fun j hj => h1.row_ge2 j (by simpa using hj))
                have hlen8 : k + (f.length - (k + 1)) = f.length - 1 := by omega
                rw [hlen8] at j1
                rw [← hfj.out] at j1
                have j4 := j1.rd
                clear h1 h2 h3 j1 j2 j3
                go_wp2
                go_meet
                exact ⟨A8, c8, by first | rfl | rw [hlen8], j4, hOO.next b8, chain H b8 (Nat.le_refl _), T.below b8 hs, S.below b8 hs, Nat.le_trans hs b8.size⟩
              case rest =>
                clear hOO H T S hs
                obtain ⟨A7, c7, rfl, L7, hOO, H, T, S, hs⟩ := hcut
                go_wp2_with fail
                refine (hIl.out _ _ _ L7).mono ?_
                rintro e w9 ⟨rfl, b9⟩
                go_wp2
                go_roundw
                case rel => exact ⟨k + 1, by omega, by go_num, hOO.next b9, chain H b9 (Nat.le_refl _), T.below b9 hs, S.below b9 hs, Nat.le_trans hs b9.size⟩
                case measure => simp [intOf]; omega
            · obtain rfl : k = f.length := by omega
              go_wp2
              clear hlt hk
              go_loopw [16] (fun i wy => ∃ k : Nat, k ≤ gs.length ∧ i = .int .i64 k ∧ Below w.heap.size w wy ∧ RdI wy w6.heap.size A1 (flat3 t) ∧ RdI wy w6.heap.size A3 gs ∧ w6.heap.size ≤ wy.heap.size) (fun i _ => gs.length - (intOf i).toNat)
              case atStart => exact ⟨0, Nat.zero_le _, rfl, H, T, S, hs⟩
              case round =>
                clear hOO H T S hs
                obtain ⟨k, hk, rfl, H, T, S, hs⟩ := hrel
                by_cases hlt : k < gs.length
                · obtain ⟨gf, of, x, rfl, hgf, hcf, hx, -⟩ := S.at_ hlt
                  obtain ⟨x0, x1⟩ := hgi.out x (List.mem_of_getElem? hx.out)
                  have hxd : decide (x < a) = false := decide_eq_false (by omega)
                  have hxd2 : decide (b ≤ x) = false := decide_eq_false (by omega)
                  go_wp2
                  go_roundw
                  case rel => exact ⟨k + 1, by omega, by go_num, H, T, S, hs⟩
                  case measure => simp [intOf]; omega
                · have h5 := Lib.hid (isW_five ht'.out)
                  have h6 := Lib.hid gaps_six
                  go_wp2_with fail
                  clear hlt hk
                  refine (iOk_c _ _ t _ (T.more hs) hl8).mono ?_
                  rw [ht'.out]
                  rintro e w9 ⟨rfl, b9⟩
                  replace H := chain H b9 (Nat.le_refl _)
                  replace T := T.below b9 hs
                  have hs9 := b9.size
                  clear b9
                  go_wp2_with fail
                  refine (iIsW_c _ _ t _ _ _ (T.more (by omega)) hl8).mono ?_
                  rw [h5.out]
                  rintro e w10 ⟨rfl, b10⟩
                  replace H := chain H b10 (Nat.le_refl _)
                  clear b10
                  have hG := Lib.hid (iGaps_c none 0 [] 3 9 w10 (.inl rfl) (by simp))
                  go_wp2_with fail
                  refine hG.out.mono ?_
                  rintro e w11 ⟨A11, c11, rfl, -, b11⟩
                  rw [h6.out]
                  go_wp2
                  go_ret
                  exact ⟨rfl, chain H b11 (Nat.le_refl _)⟩
  · have hd := Lib.hid (show decide ((1048576 : Int) < code.length) = true from decide_eq_true (by omega))
    go_enter Try.func8, Try.ntmps8
    go_wp2_with fail
    refine (big_c _ _ _ _).mono ?_
    rw [hd.out]
    rintro e w' ⟨rfl, rfl⟩
    go_wp2
    go_ret
    exact ⟨rfl, Below.refl _ _⟩
set_option maxRecDepth 100000 in
theorem FnGuards_lifted (os : Os) (started : os.Started) (H : Type) (enc : TypeId × Value → H) :
    ReturnsInHanded {} Try.checked os 8 .any (Rows.fnGuardsSpec.pre6 enc Try.prog Try.f8 Rows.fnGuardsRow.domain false) (Rows.fnGuardsSpec.post enc Try.prog Try.f8 false true false false) := by
  refine returnsInHanded_of_change (C := Try.checked) own_ started (by kernel_rfl) Try.func8
    (ChangeSpec.witness6 (enc := enc) (C := Try.checked) false ⟨#[], #[.slice none 0 0], []⟩ 8 (by kernel_rfl) (by kernel_rfl) (by kernel_rfl) (by kernel_rfl)) ?_
  intro W base args ds gs before hval0 hW hcnd _
  have hval : ∀ (j : Nat) t v, Try.f8.params[j]? = some t → args[j]? = some v → Value.okWide Try.prog W .any base t v := hval0
  have hW' := hW
  obtain ⟨p, q, hA0, hV, rfl, hfz, hnd⟩ := hW
  have hA : DataW.TrodAll enc Try.prog W 0 (fun _ => true) true Try.f8.params.toList args.toList ds p := hA0
  rw [Try.params8] at hA hval
  obtain ⟨v0, vs0, d0, ds0, p0, q0, hargs, rfl, rfl, h0, r0⟩ := trodAll_cons hA
  obtain ⟨rfl, rfl, rfl⟩ := trodAll_nil r0
  obtain rfl : args = #[v0] := by cases args; simp_all
  obtain ⟨rfl, rfl⟩ := trodVars_none hV
  have k0 := h0
  have lt0 : ∀ x ∈ p0, x.block < W.heap.size := by obtain ⟨m, hm⟩ := k0; exact DataW.trod_lt m _ _ _ hm
  obtain ⟨s0, len0, cap0, rfl⟩ := okWide_slice Try.underlying39 (hval 0 39 v0 rfl rfl)
  obtain ⟨x0, rfl, m0, r_0⟩ : ∃ zs : List Int, len0 = zs.length ∧ zs.length ≤ maxLen ∧ RdB W W.heap.size s0 zs := by
    obtain ⟨fuel, hf⟩ := h0
    rcases open_ints Try.underlying39 Try.underlying5 (by kernel_rfl) hf with ⟨hcs, _⟩ | ⟨x, l, c, zs, hcs, _, hl, hm, hz, _, hcell, hwz⟩
    · simp [Value.cells] at hcs
      obtain ⟨rfl, rfl, rfl⟩ := hcs
      exact ⟨[], rfl, Nat.zero_le _, .inl rfl⟩
    · simp [Value.cells] at hcs
      obtain ⟨rfl, rfl, rfl⟩ := hcs
      have hlz : len0 ≤ zs.length := by simp only [if_true] at hz; omega
      exact ⟨zs.take len0, by simp; omega, by simp; omega, RdB.of_open hcell hwz⟩
  clear hA0 hval0
  refine (FnGuards_walk s0 cap0 x0 W m0 r_0).mono fun e W' ⟨he, bel⟩ => ?_
  subst he
  exact ⟨_, rfl, _, _, _, [], _, [], hW', trodAll_mk1 (shut_bool Try.underlying4 _), (trodAll_cons_mk (Below.trod laidOut_ (by kernel_rfl) (of_decide_eq_true (by kernel_rfl)) k0 bel lt0) trodAll_mk0), rfl, bel.frame _, fun h => by cases h⟩

theorem FnGuards_over : Rows.fnGuardsRow.holds Try.pinned (OpenSpec.ofChange Rows.fnGuardsSpec) :=
  OpenClaim.holds_of_wide 8 Try.f8 rfl rfl rfl rfl rfl rfl rfl ⟨rfl, rfl, rfl, rfl, rfl⟩ rfl rfl rfl rfl rfl (by kernel_rfl) Try.func8 (by kernel_rfl)
    (of_decide_eq_true (by kernel_rfl)) (by unfold Func.isWrapper; first | (rw [if_pos (by decide +kernel)]; kernel_rfl) | (rw [if_neg (by decide +kernel)]; exact ⟨rfl, rfl⟩))
    (fun os started H enc _ => FnGuards_lifted os started H enc)

theorem FnGuards_proved : Rows.FnGuardsSaid := FnGuards_over
end Go.Proofs.Ytcmealoppnpdcaa
