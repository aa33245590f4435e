/- TimesFraction and SellShare, the reference's: only that the result is valid. -/
import Derived.Test.YtifljdnlaginfaaRightsS
import Derived.Test.YtifljdnlaginfaaTake
import Derived.Test.YtifljdnlaginfaaInvK
import Derived.Deep.CutBlock
namespace Go.Proofs.Ytifljdnlaginfaa
open Go.ChangeShapes Go.WideShapes Go.ChangeAt Go.RowKit
set_option linter.unusedVariables false

theorem rowR : RowT 37 53 3 24 := ⟨Try.underlying37, by
  obtain ⟨i0, hi, hz0, hz1, hz2⟩ := info_parts infoS
  exact ⟨i0, _, hi, hz0, hz1, hz2, rfl⟩, by omega, by omega⟩
theorem rights_b' {t : Rf} (h : rightsB t = true) : 1 ≤ t.length ∧ t.length ≤ 12 := by
  unfold rightsB at h
  simp only [Bool.and_eq_true, inB_iff] at h
  omega
def AnyF (w : World) (e : Ending) (w' : World) : Prop := ∃ (p q : Int) (o : Bool), e = .returned (.tuple #[.agg #[.int .i64 p, .int .i64 q], .bool o]) ∧ Below w.heap.size w w'
set_option maxHeartbeats 2000000 in
theorem sTimes_c (a b c d : Int) (w : World) : Calls Try.prog 61 #[.agg #[.int .i64 a, .int .i64 b], .agg #[.int .i64 c, .int .i64 d]] w (AnyF w) := by
  have P := ((Blk.new w 34 #[.int .i64 a, .int .i64 b]).alloc (.cells #[.int .i64 c, .int .i64 d] 34)).alloc (.cells #[.int .i64 0, .int .i64 0] 34)
  have Q := (Blk.new (w.alloc (.cells #[.int .i64 a, .int .i64 b] 34)) 34 #[.int .i64 c, .int .i64 d]).alloc (.cells #[.int .i64 0, .int .i64 0] 34)
  simp only [World.size_alloc] at Q
  have R := Blk.new ((w.alloc (.cells #[.int .i64 a, .int .i64 b] 34)).alloc (.cells #[.int .i64 c, .int .i64 d] 34)) 34 #[.int .i64 0, .int .i64 0]
  simp only [World.size_alloc] at R
  have H : Below w.heap.size w (((w.alloc (.cells #[.int .i64 a, .int .i64 b] 34)).alloc (.cells #[.int .i64 c, .int .i64 d] 34)).alloc (.cells #[.int .i64 0, .int .i64 0] 34)) := ((((Below.refl w.heap.size w).alloc (by first | exact Nat.le_refl _ | (simp only [World.size_alloc]; omega)) (.cells #[.int .i64 a, .int .i64 b] 34)).alloc (by first | exact Nat.le_refl _ | (simp only [World.size_alloc]; omega)) (.cells #[.int .i64 c, .int .i64 d] 34)).alloc (by first | exact Nat.le_refl _ | (simp only [World.size_alloc]; omega)) (.cells #[.int .i64 0, .int .i64 0] 34))
  obtain ⟨p0, p1, p2, p3, pL⟩ := P.two
  obtain ⟨q0, q1, q2, q3, qL⟩ := Q.two
  have hF := Lib.hid (fun W => sFok_c a b W)
  have hG := Lib.hid (fun W => sFok_c c d W)
  cases h1 : fracB a b
  · rw [h1] at hF
    go_enter Try.func61, Try.ntmps61
    go_wp2_with fail
    refine (hF.out _).mono ?_
    rintro e w1 ⟨rfl, b⟩
    replace P := P.next b
    replace Q := Q.next b
    replace R := R.next b
    replace H := chain H b (Nat.le_refl _)
    clear b
    try clear p0 p1 pL
    obtain ⟨p0, p1, -, -, pL⟩ := P.two
    try clear q0 q1 qL
    obtain ⟨q0, q1, -, -, qL⟩ := Q.two
    try clear r0 r1 rf0 rf1 rL
    obtain ⟨r0, r1, rf0, rf1, rL⟩ := R.two
    go_wp2
    refine bodyPost_ret (v := .tuple #[.agg #[.int .i64 0, .int .i64 0], .bool false]) (by simp [results, Try.results61, go_sem, *]) rfl ⟨0, 0, false, rfl, ?_⟩
    exact (by go_grown)
  · rw [h1] at hF
    cases h2 : fracB c d
    · rw [h2] at hG
      go_enter Try.func61, Try.ntmps61
      go_wp2_with fail
      refine (hF.out _).mono ?_
      rintro e w1 ⟨rfl, b⟩
      replace P := P.next b
      replace Q := Q.next b
      replace R := R.next b
      replace H := chain H b (Nat.le_refl _)
      clear b
      try clear p0 p1 pL
      obtain ⟨p0, p1, -, -, pL⟩ := P.two
      try clear q0 q1 qL
      obtain ⟨q0, q1, -, -, qL⟩ := Q.two
      try clear r0 r1 rf0 rf1 rL
      obtain ⟨r0, r1, rf0, rf1, rL⟩ := R.two
      go_wp2_with fail
      refine (hG.out _).mono ?_
      rintro e w1 ⟨rfl, b⟩
      replace P := P.next b
      replace Q := Q.next b
      replace R := R.next b
      replace H := chain H b (Nat.le_refl _)
      clear b
      try clear p0 p1 pL
      obtain ⟨p0, p1, -, -, pL⟩ := P.two
      try clear q0 q1 qL
      obtain ⟨q0, q1, -, -, qL⟩ := Q.two
      try clear r0 r1 rf0 rf1 rL
      obtain ⟨r0, r1, rf0, rf1, rL⟩ := R.two
      go_wp2
      refine bodyPost_ret (v := .tuple #[.agg #[.int .i64 0, .int .i64 0], .bool false]) (by simp [results, Try.results61, go_sem, *]) rfl ⟨0, 0, false, rfl, ?_⟩
      exact (by go_grown)
    · rw [h2] at hG
      obtain ⟨⟨b0, b1⟩, ⟨a0, a1⟩, -⟩ := frac_b h1
      obtain ⟨⟨d0, d1⟩, ⟨c0, c1⟩, -⟩ := frac_b h2
      obtain ⟨m0, m1⟩ := mul_b8 a c a0 a1 c0 c1
      obtain ⟨m4, m5⟩ := mul_b8 b d (by omega) b1 (by omega) d1
      have hM := Lib.hid (fun W => sMake_c (a * c) (b * d) W)
      unfold RetF at hM
      generalize mkB (a * c) (b * d) = K at hM
      generalize fT K (redT (a * c) (b * d)) = T at hM
      generalize fT K (redU (a * c) (b * d)) = U at hM
      clear h1 h2
      have w1' : IntKind.i64.wrap (a * c) = a * c := IntWalk.i64_in _ (by omega)
      have w2' : IntKind.i64.wrap (b * d) = b * d := IntWalk.i64_in _ (by omega)
      go_enter Try.func61, Try.ntmps61
      go_wp2_with fail
      refine (hF.out _).mono ?_
      rintro e w1 ⟨rfl, b⟩
      replace P := P.next b
      replace Q := Q.next b
      replace R := R.next b
      replace H := chain H b (Nat.le_refl _)
      clear b
      try clear p0 p1 pL
      obtain ⟨p0, p1, -, -, pL⟩ := P.two
      try clear q0 q1 qL
      obtain ⟨q0, q1, -, -, qL⟩ := Q.two
      try clear r0 r1 rf0 rf1 rL
      obtain ⟨r0, r1, rf0, rf1, rL⟩ := R.two
      go_wp2_with fail
      refine (hG.out _).mono ?_
      rintro e w1 ⟨rfl, b⟩
      replace P := P.next b
      replace Q := Q.next b
      replace R := R.next b
      replace H := chain H b (Nat.le_refl _)
      clear b
      try clear p0 p1 pL
      obtain ⟨p0, p1, -, -, pL⟩ := P.two
      try clear q0 q1 qL
      obtain ⟨q0, q1, -, -, qL⟩ := Q.two
      try clear r0 r1 rf0 rf1 rL
      obtain ⟨r0, r1, rf0, rf1, rL⟩ := R.two
      go_wp2_with fail
      refine (hM.out _).mono ?_
      rintro e w1 ⟨rfl, b⟩
      replace R := R.next b
      replace H := chain H b (Nat.le_refl _)
      clear b
      try clear r0 r1 rf0 rf1 rL
      obtain ⟨r0, r1, rf0, rf1, rL⟩ := R.two
      go_wp2
      refine bodyPost_ret (v := .tuple #[.agg #[.int .i64 T, .int .i64 U], .bool K]) (by simp [results, Try.results61, go_sem, *]) rfl ⟨T, U, K, rfl, ?_⟩
      exact (by go_grown)

theorem sAny_c (a b c d : Int) (w : World) : Calls Try.prog 47 #[.agg #[.int .i64 a, .int .i64 b], .agg #[.int .i64 c, .int .i64 d]] w (AnyF w) := by
  refine (sAdd_c a b c d w).mono ?_
  intro e w' h
  exact ⟨_, _, _, h.1, h.2⟩
/-- Any flat row is one of rights. -/
theorem flat_any : ∀ (n : Nat) (zs : List Int), zs.length = n * 3 → ∃ o : Rf, o.length = n ∧ flat3 o = zs := by
  intro n
  induction n with
  | zero => intro zs h; exact ⟨[], rfl, by have : zs = [] := List.eq_nil_of_length_eq_zero (by omega); rw [this]; rfl⟩
  | succ n ih =>
    intro zs h
    match zs, h with
    | x :: y :: z :: zs, h =>
      obtain ⟨o, h1, h2⟩ := ih zs (by simp at h; omega)
      exact ⟨(x, y, z) :: o, by simp [h1], by show x :: y :: z :: flat3 o = _; rw [h2]⟩
    | [], h => simp at h
    | [_], h => simp at h; omega
    | [_, _], h => simp at h; omega
theorem grown_set {w : World} {g i : Nat} (v : Value) : w.grownBy (w.setCell ⟨g, i, none⟩ v) (some g) :=
  ⟨rfl, rfl, rfl, by simp, fun k hk hne => Below.heap_setCell w ⟨g, i, none⟩ v k (fun e => hne (by rw [e]))⟩
theorem OwnZ.put {w : World} {base n c b i : Nat} {A : Option Addr} {zs : List Int} (h : OwnZ w base A n c zs) (hne : ∀ g, A = some ⟨g, 0, none⟩ → some b ≠ some g) (v : Value) : OwnZ (w.setCell ⟨b, i, none⟩ v) base A n c zs :=
  h.kept (w' := w.setCell ⟨b, i, none⟩ v) (grown_set v) hne
theorem OwnZ.stored {w : World} {base g n c : Nat} {xs : List Int} (h : OwnZ w base (some ⟨g, 0, none⟩) n c xs) (i : Nat) (v : Int) : OwnZ (w.setCell ⟨g, i, none⟩ (.int .i64 v)) base (some ⟨g, 0, none⟩) n c (xs.set i v) := by
  have h1 := (World.ownsRow.stored h i (.int .i64 v)).1
  unfold OwnZ
  have e : ints (xs.set i v) = (ints xs).set i (.int .i64 v) := by simp [ints, List.map_set]
  rw [e]
  exact h1
def sellF (b0 gz c2 j : Nat) (o : Rf) (tw m1 m2 : Int) (AD : Addr) : List Fact := [Fact.blk b0 53 0 #[], Fact.val (.slice (some ⟨gz, 0, none⟩) o.length c2), Fact.val (.int .i64 (j : Int)), Fact.val (.slice (some ⟨gz, 0, none⟩) j c2), Fact.own b0 53 3 j (ints (flat3 (o.take j))), Fact.val (.int .i64 tw), Fact.val (.agg #[.int .i64 m1, .int .i64 m2]), Fact.val (.agg #[.int .i64 tw, .int .i64 m1, .int .i64 m2]), Fact.blk b0 53 1 #[.int .i64 tw, .int .i64 m1, .int .i64 m2], Fact.own b0 53 3 (j + 1) (ints (flat3 (o.take j)) ++ [Value.int .i64 tw, Value.int .i64 m1, Value.int .i64 m2]), Fact.val (.slice (some ⟨gz, 0, none⟩) o.length c2), Fact.val (.int .i64 (j : Int)), Fact.val (.slice (some AD) (o.length - j) (c2 - j)), Fact.own b0 53 3 (j + 1 + (o.length - j)) (ints (flat3 (o.take j)) ++ [Value.int .i64 tw, Value.int .i64 m1, Value.int .i64 m2] ++ ints (flat3 (o.drop j))), Fact.own b0 53 3 (j + 1 + (o.length - j)) (ints (flat3 (o.take j)) ++ [Value.int .i64 tw, Value.int .i64 m1, Value.int .i64 m2] ++ ints (flat3 (o.drop j)))]
def SellP (w : World) (e : Ending) (w' : World) : Prop := ∃ (A : Option Addr) (c : Nat) (t : Rf) (o : Bool), e = .returned (.tuple #[.slice A t.length c, .bool o]) ∧ OwnZ w' w.heap.size A t.length c (flat3 t) ∧ rightsB t = true ∧ Below w.heap.size w w'
set_option maxRecDepth 100000 in
set_option maxHeartbeats 4000000 in
theorem sSell_c (A : Option Addr) (c : Nat) (t : Rf) (fm tw pt pb : Int) (w : World) (hr : RdI w w.heap.size A (flat3 t)) (ht : rightsB t = true) :
    Calls Try.prog 55 #[.slice A t.length c, .int .i64 fm, .int .i64 tw, .agg #[.int .i64 pt, .int .i64 pb]] w (SellP w) := by
  have h12 := (rights_b' ht).1
  have h120 := (rights_b' ht).2
  have ht' := Lib.hid ht
  have P := Blk.new w 34 #[.int .i64 pt, .int .i64 pb]
  have H := (Below.refl w.heap.size w).alloc (Nat.le_refl _) (.cells #[.int .i64 pt, .int .i64 pb] 34)
  obtain ⟨g, off, x0, y0, z0, rfl, hg, -, -, -, -⟩ := hr.at3 (show 0 < t.length by omega)
  have R := hr.at_world H
  have hE := OwnZ.of_blk (w := (w.alloc (.cells #[.int .i64 pt, .int .i64 pb] 34)).alloc (.cells #[] 53)) (base := w.heap.size + 1) (zs := []) (n := 0) (g := w.heap.size + 1) (Nat.le_refl _) rfl (by unfold maxLen; simp) (by have := Blk.new (w.alloc (.cells #[.int .i64 pt, .int .i64 pb] 34)) 53 #[]; simp only [World.size_alloc] at this; exact this)
  replace P := P.alloc (.cells #[] 53)
  replace H := H.alloc H.size (.cells #[] 53)
  replace R := R.alloc (Nat.le_refl _) (.cells #[] 53)
  have hl3 := flat3_length t
  clear ht
  go_enter Try.func55, Try.ntmps55
  go_upto_region 2 with (first | (at_builtin; refine wpList_append_z _ rfl (.tmp 23) (.tmp 24) rfl (w.heap.size + 1) (some ⟨w.heap.size + 1, 0, none⟩) 0 0 [] rfl hE (w.heap.size + 1) _ t.length c (flat3 t) hl3 rfl (by simpa using R) (by omega) (by simp) ?_; intro A1 c1 w1 hO hgr hat) | fail)
  simp only [List.nil_append, Nat.zero_add] at hO
  have hne : some w.heap.size ≠ (Value.slice (some ⟨w.heap.size + 1, 0, none⟩) 0 0).ownBlock := by simp [Value.ownBlock]
  replace P := P.grown hgr hne
  replace H := H.grown hgr (by simp; omega) (fun k hk => by simp only [Value.ownBlock] at hk; injection hk with hk; omega)
  have RW := hr.at_world H
  clear hE R hgr hat hne
  have hS := Lib.hid (fun W h => sRights_c (some ⟨g, off, none⟩) c t W h (by omega))
  rw [ht'.out] at hS
  have hF := Lib.hid (fun W => sFok_c pt pb W)
  obtain ⟨fo, hfo⟩ : ∃ fo, fracB pt pb = fo := ⟨_, rfl⟩
  rw [hfo] at hF
  obtain ⟨p0, p1, -, -, pL⟩ := P.two
  go_cut [50] (fun s wx => ∃ x : Bool, s = .bool x ∧ Blk wx w.heap.size 34 #[.int .i64 pt, .int .i64 pb] ∧ OwnZ wx (w.heap.size + 1) A1 t.length c1 (flat3 t) ∧ Below w.heap.size w wx ∧ w1.heap.size ≤ wx.heap.size ∧ (x = false → Hid (fracB pt pb = true)))
  case first =>
    go_wp2_with fail
    refine (hS.out _ RW).mono ?_
    rintro e w2 ⟨rfl, b2⟩
    replace P := P.next b2
    replace H := chain H b2 (Nat.le_refl _)
    replace hO := hO.next b2
    have hs2 := b2.size
    clear b2 p0 p1 pL
    obtain ⟨p0, p1, -, -, pL⟩ := P.two
    go_wp2_with fail
    refine (hF.out _).mono ?_
    rintro e w3 ⟨rfl, b3⟩
    replace P := P.next b3
    replace H := chain H b3 (Nat.le_refl _)
    replace hO := hO.next b3
    have hs3 := b3.size
    clear b3 p0 p1 pL
    obtain ⟨p0, p1, -, -, pL⟩ := P.two
    cases fo
    · go_wp2
      go_meet
      exact ⟨true, rfl, P, hO, H, by omega, fun e => by cases e⟩
    · have hfo' := Lib.hid hfo
      clear hfo
      by_cases hpb : pb < pt
      · go_wp2
        go_meet
        exact ⟨true, rfl, P, hO, H, by omega, fun e => by cases e⟩
      · have hpbd : decide (pb < pt) = false := decide_eq_false hpb
        cases hft : fm == tw
        · go_wp2_with fail
          refine (l01In_c _ _ _ _).mono ?_
          rintro e w' ⟨rfl, rfl⟩
          go_wp2
          go_meet
          exact ⟨_, rfl, P, hO, H, by omega, fun _ => hfo'⟩
        · go_wp2
          go_meet
          exact ⟨true, rfl, P, hO, H, by omega, fun e => by cases e⟩
  case rest =>
    clear hO P H hS hF RW p0 p1 pL
    obtain ⟨x, rfl, P, hO, H, hs1, hfb⟩ := hcut
    cases x
    · obtain ⟨⟨pb0, pb1⟩, ⟨pt0, pt1⟩, -⟩ := frac_b (hfb rfl)
      clear hfb
      have hA1 := Lib.hid (fun gb (e : A1 = some ⟨gb, 0, none⟩) => show gb < wc.heap.size by
        rcases hO.form with ⟨e0, _⟩ | ⟨g0, e0, _, hlt, _⟩
        · rw [e0] at e; cases e
        · rw [e0] at e; injection e with e; injection e with e; omega)
      have hwc : w.heap.size + 1 ≤ wc.heap.size := by have := P.lt; omega
      have hZ := OwnZ.of_blk (w := (wc.alloc (.cells #[] 53)).alloc (.cells #[.int .i64 0, .int .i64 0] 34)) (base := wc.heap.size) (zs := []) (n := 0) (g := wc.heap.size) (Nat.le_refl _) rfl (by unfold maxLen; simp) ((Blk.new wc 53 #[]).alloc _)
      have M := Blk.new (wc.alloc (.cells #[] 53)) 34 #[.int .i64 0, .int .i64 0]
      simp only [World.size_alloc] at M
      have b0 := ((Below.refl wc.heap.size wc).alloc (Nat.le_refl _) (.cells #[] 53)).alloc (by simp) (.cells #[.int .i64 0, .int .i64 0] 34)
      replace P := P.next b0
      replace hO := hO.next b0
      replace H := chain H b0 (Nat.le_refl _)
      clear b0
      go_wp2
      go_loopw [11, 13, 14] (fun s fd i wr => ∃ (k n : Nat) (A2 : Option Addr) (c2 : Nat) (zs : List Int) (m1 m2 : Int) (fv : Bool), k ≤ t.length ∧ i = .int .i64 k ∧ s = .slice A2 n c2 ∧ fd = .bool fv ∧ n ≤ k ∧ OwnZ wr wc.heap.size A2 n c2 zs ∧ Hid (∃ gz, A2 = some ⟨gz, 0, none⟩ ∧ gz ≠ wc.heap.size + 1) ∧ Blk wr (wc.heap.size + 1) 34 #[.int .i64 m1, .int .i64 m2] ∧ Blk wr w.heap.size 34 #[.int .i64 pt, .int .i64 pb] ∧ OwnZ wr (w.heap.size + 1) A1 t.length c1 (flat3 t) ∧ Below w.heap.size w wr ∧ wc.heap.size + 2 ≤ wr.heap.size) (fun _ _ i _ => t.length - (intOf i).toNat)
      case atStart => exact ⟨0, 0, _, _, [], 0, 0, false, Nat.zero_le _, rfl, rfl, rfl, Nat.le_refl _, hZ, ⟨_, rfl, by omega⟩, M, P, hO, H, by simp⟩
      case round =>
        clear hZ M P hO H
        obtain ⟨k, n, A2, c2, zs, m1, m2, fv, hk, rfl, rfl, rfl, hn, hZ, hz, M, P, hO, H, hs⟩ := hrel
        by_cases hlt : k < t.length
        · obtain ⟨x, y, z, hgx, hx0, hx1, hx2, hx⟩ := (hr.at_world H).at3C hlt
          have X := Blk.new wr 53 #[.int .i64 x, .int .i64 y, .int .i64 z]
          have b0 := (Below.refl wr.heap.size wr).alloc (Nat.le_refl _) (.cells #[.int .i64 x, .int .i64 y, .int .i64 z] 53)
          have hzr := Lib.hid (fun gb (e : A2 = some ⟨gb, 0, none⟩) => show gb < wr.heap.size by
            rcases hZ.form with ⟨e0, _⟩ | ⟨g0, e0, _, hlt, _⟩
            · rw [e0] at e; cases e
            · rw [e0] at e; injection e with e; injection e with e; omega)
          have hs1 : wr.heap.size + 1 ≤ (wr.alloc (.cells #[.int .i64 x, .int .i64 y, .int .i64 z] 53)).heap.size := by simp
          replace hZ := hZ.next b0
          replace M := M.next b0
          replace P := P.next b0
          replace hO := hO.next b0
          replace H := chain H b0 (Nat.le_refl _)
          clear b0
          cases hxf : x == fm
          · obtain ⟨xx0, xx1, xx2, -, -, -, xL⟩ := X.three
            by_cases hy : 0 < y
            · obtain ⟨gz, rfl, hgz⟩ := hz.out
              have hgz0 : wc.heap.size ≤ gz := by rcases hZ.form with ⟨e0, _⟩ | ⟨g0, e0, h1, _⟩; (cases e0); (injection e0 with e0; injection e0 with e0; omega)
              have hone : RdI ((wr.alloc (.cells #[.int .i64 x, .int .i64 y, .int .i64 z] 53)).alloc (.cells #[.int .i64 x, .int .i64 y, .int .i64 z] 53)) ((wr.alloc (.cells #[.int .i64 x, .int .i64 y, .int .i64 z] 53)).alloc (.cells #[.int .i64 x, .int .i64 y, .int .i64 z] 53)).heap.size (some ⟨wr.heap.size + 1, 0, none⟩) (flat3 [(x, y, z)]) := (by have h := RdI.of_ints (xs := flat3 [(x, y, z)]) (Blk.new (wr.alloc (.cells #[.int .i64 x, .int .i64 y, .int .i64 z] 53)) 53 #[.int .i64 x, .int .i64 y, .int .i64 z]); simp only [World.size_alloc] at h ⊢; exact h)
              have hZa := hZ.alloc (.cells #[.int .i64 x, .int .i64 y, .int .i64 z] 53)
              have hZl := Lib.hid (fun g0 (e : (some ⟨gz, 0, none⟩ : Option Addr) = some ⟨g0, 0, none⟩) => show g0 < (wr.alloc (.cells #[.int .i64 x, .int .i64 y, .int .i64 z] 53)).heap.size by
                rcases hZ.form with ⟨e0, _⟩ | ⟨g1, e0, _, h2, _⟩; (cases e0); (injection e0 with e0; injection e0 with e0; injection e with e; injection e with e; omega))
              go_wp2_with (first | (at_builtin; refine wpList_append_z _ rfl (.tmp 103) (.tmp 105) rfl wc.heap.size (some ⟨gz, 0, none⟩) n c2 zs rfl hZa ((wr.alloc (.cells #[.int .i64 x, .int .i64 y, .int .i64 z] 53)).alloc (.cells #[.int .i64 x, .int .i64 y, .int .i64 z] 53)).heap.size _ 1 1 (flat3 [(x, y, z)]) rfl rfl hone (by omega) (by simp; omega) ?_; intro A' c' w9 hOn hgr hat) | fail)
              go_roundw
              case rel =>
                refine ⟨k + 1, n + 1, A', c', zs ++ flat3 [(x, y, z)], m1, m2, fv, by omega, by go_num, rfl, rfl, by omega, hOn, ?_, (M.alloc _).grown hgr (by simp [Value.ownBlock]; omega), (P.alloc _).grown hgr (by simp [Value.ownBlock]; have := P.lt; omega), (hO.alloc _).kept hgr (fun gb e => by have := hA1.out gb e; simp [Value.ownBlock]; omega), (H.alloc H.size _).grown hgr (by simp; omega) (fun k' hk' => by simp only [Value.ownBlock] at hk'; injection hk' with hk'; have := P.lt; omega), by have := hgr.size; simp at this; omega⟩
                rcases hat with e | e
                · exact ⟨gz, e, hgz⟩
                · exact ⟨_, e, by simp; omega⟩
              case measure => simp [intOf]; omega
            · have hyd : decide (0 < y) = false := decide_eq_false hy
              go_wp2
              go_roundw
              case rel => exact ⟨k + 1, n, A2, c2, zs, m1, m2, fv, by omega, by go_num, rfl, rfl, by omega, hZ, hz, M, P, hO, H, by omega⟩
              case measure => simp [intOf]; omega
          · have hTA := Lib.hid (fun W => sTimes_c y z pt pb W)
            have hTB := Lib.hid (fun W => sTimes_c y z (pb - pt) pb W)
            have hwr : IntKind.i64.wrap (pb - pt) = pb - pt := IntWalk.i64_in _ (by omega)
            obtain ⟨xx0, xx1, xx2, -, -, -, xL⟩ := X.three
            obtain ⟨p0, p1, -, -, pL⟩ := P.two
            go_wp2_with fail
            refine (hTA.out _).mono ?_
            rintro e w2 ⟨f1, f2, fo1, rfl, b2⟩
            replace X := X.next b2
            replace hZ := hZ.next b2
            replace M := M.next b2
            replace P := P.next b2
            replace hO := hO.next b2
            replace H := chain H b2 (Nat.le_refl _)
            have hs2 := b2.size
            clear b2 xx0 xx1 xx2 xL p0 p1 pL
            obtain ⟨xx0, xx1, xx2, -, -, -, xL⟩ := X.three
            obtain ⟨p0, p1, -, -, pL⟩ := P.two
            have F1 := Blk.new w2 34 #[.int .i64 f1, .int .i64 f2]
            have b0 := (Below.refl w2.heap.size w2).alloc (Nat.le_refl _) (.cells #[.int .i64 f1, .int .i64 f2] 34)
            have X' := X.next b0
            replace hZ := hZ.next b0
            replace M := M.next b0
            have P' := P.next b0
            replace hO := hO.next b0
            replace H := chain H b0 (Nat.le_refl _)
            clear b0
            go_wp2_with fail
            refine (hTB.out _).mono ?_
            rintro e w3 ⟨f3, f4, fo2, rfl, b3⟩
            clear X P xx0 xx1 xx2 xL p0 p1 pL
            have X := X'.next b3
            have P := P'.next b3
            replace F1 := F1.next b3
            replace hZ := hZ.next b3
            replace M := M.next b3
            replace hO := hO.next b3
            replace H := chain H b3 (Nat.le_refl _)
            have hs3 := b3.size
            simp only [World.size_alloc] at hs3
            clear b3 X' P'
            obtain ⟨xx0, xx1, xx2, xf0, xf1, xf2, xL⟩ := X.three
            obtain ⟨v0, v1, -, -, vL⟩ := F1.two
            obtain ⟨m0', m1', mf0, mf1, mL⟩ := M.two
            cases fo1
            · go_wp2
              go_ret2
              exact ⟨_, _, t, false, rfl, (hO.alloc _).more (by omega), ht'.out, H.alloc (by omega) _⟩
            cases fo2
            · go_wp2
              go_ret2
              exact ⟨_, _, t, false, rfl, (hO.alloc _).more (by omega), ht'.out, H.alloc (by omega) _⟩
            clear hTA hTB hwr hxf
            have hd1 : wc.heap.size + 1 ≠ w3.heap.size := by omega
            have hd2 : wr.heap.size ≠ wc.heap.size + 1 := by omega
            have hd3 : wr.heap.size ≠ w3.heap.size := by omega
            have hd4 : w2.heap.size ≠ w3.heap.size := by omega
            go_upto_region 19 with fail
            clear xx0 xx1 xx2 xf0 xf1 xf2 xL v0 v1 vL m0' m1' mf0 mf1 mL F1
            have hd5 : w.heap.size ≠ wc.heap.size + 1 := by omega
            have hd6 : w.heap.size ≠ wr.heap.size := by omega
            obtain ⟨gz, e0, hgz⟩ := hz.out
            have hgz' : ∀ g0, A2 = some ⟨g0, 0, none⟩ → some (wc.heap.size + 1) ≠ some g0 ∧ some wr.heap.size ≠ some g0 := by
              intro g0 e1
              rw [e0] at e1
              injection e1 with e1
              injection e1 with e1
              have := hzr.out g0 (by rw [e0, e1])
              subst e1
              exact ⟨fun h => by injection h with h; omega, fun h => by injection h with h; omega⟩
            have hgb' : ∀ g0, A1 = some ⟨g0, 0, none⟩ → some (wc.heap.size + 1) ≠ some g0 ∧ some wr.heap.size ≠ some g0 := by
              intro g0 e1
              have := hA1.out g0 e1
              exact ⟨fun h => by injection h with h; omega, fun h => by injection h with h; omega⟩
            clear e0 hgz
            have hs4 : wr.heap.size ≤ (((((w3.setCell ⟨wc.heap.size + 1, 0, none⟩ (.int .i64 f1)).setCell ⟨wc.heap.size + 1, 1, none⟩ (.int .i64 f2)).setCell ⟨wr.heap.size, 1, none⟩ (.int .i64 f3)).setCell ⟨wr.heap.size, 2, none⟩ (.int .i64 f4)).alloc (.cells #[.int .i64 f3, .int .i64 f4] 34)).heap.size := by simp; omega
            replace X := Blk.alloc (((((X.far (p := ⟨wc.heap.size + 1, 0, none⟩) hd2 (.int .i64 f1)).far (p := ⟨wc.heap.size + 1, 1, none⟩) hd2 (.int .i64 f2))).put3_1 (.int .i64 f3)).put3_2 (.int .i64 f4)) (.cells #[.int .i64 f3, .int .i64 f4] 34)
            replace M := Blk.alloc (((M.put2 (.int .i64 f1) (.int .i64 f2)).far (p := ⟨wr.heap.size, 1, none⟩) hd2.symm (.int .i64 f3)).far (p := ⟨wr.heap.size, 2, none⟩) hd2.symm (.int .i64 f4)) (.cells #[.int .i64 f3, .int .i64 f4] 34)
            replace P := Blk.alloc ((((P.far (p := ⟨wc.heap.size + 1, 0, none⟩) hd5 (.int .i64 f1)).far (p := ⟨wc.heap.size + 1, 1, none⟩) hd5 (.int .i64 f2)).far (p := ⟨wr.heap.size, 1, none⟩) hd6 (.int .i64 f3)).far (p := ⟨wr.heap.size, 2, none⟩) hd6 (.int .i64 f4)) (.cells #[.int .i64 f3, .int .i64 f4] 34)
            replace hZ := OwnZ.alloc ((((hZ.put (b := wc.heap.size + 1) (i := 0) (fun g h => (hgz' g h).1) (.int .i64 f1)).put (b := wc.heap.size + 1) (i := 1) (fun g h => (hgz' g h).1) (.int .i64 f2)).put (b := wr.heap.size) (i := 1) (fun g h => (hgz' g h).2) (.int .i64 f3)).put (b := wr.heap.size) (i := 2) (fun g h => (hgz' g h).2) (.int .i64 f4)) (.cells #[.int .i64 f3, .int .i64 f4] 34)
            replace hO := OwnZ.alloc ((((hO.put (b := wc.heap.size + 1) (i := 0) (fun g h => (hgb' g h).1) (.int .i64 f1)).put (b := wc.heap.size + 1) (i := 1) (fun g h => (hgb' g h).1) (.int .i64 f2)).put (b := wr.heap.size) (i := 1) (fun g h => (hgb' g h).2) (.int .i64 f3)).put (b := wr.heap.size) (i := 2) (fun g h => (hgb' g h).2) (.int .i64 f4)) (.cells #[.int .i64 f3, .int .i64 f4] 34)
            replace H := Below.alloc ((((H.setCell (p := ⟨wc.heap.size + 1, 0, none⟩) (show w.heap.size ≤ wc.heap.size + 1 by omega) (.int .i64 f1)).setCell (p := ⟨wc.heap.size + 1, 1, none⟩) (show w.heap.size ≤ wc.heap.size + 1 by omega) (.int .i64 f2)).setCell (p := ⟨wr.heap.size, 1, none⟩) (show w.heap.size ≤ wr.heap.size by omega) (.int .i64 f3)).setCell (p := ⟨wr.heap.size, 2, none⟩) (show w.heap.size ≤ wr.heap.size by omega) (.int .i64 f4)) (by simp; omega) (.cells #[.int .i64 f3, .int .i64 f4] 34)
            clear hgz' hgb' hd1 hd3 hd4
            generalize (((((w3.setCell ⟨wc.heap.size + 1, 0, none⟩ (.int .i64 f1)).setCell ⟨wc.heap.size + 1, 1, none⟩ (.int .i64 f2)).setCell ⟨wr.heap.size, 1, none⟩ (.int .i64 f3)).setCell ⟨wr.heap.size, 2, none⟩ (.int .i64 f4)).alloc (.cells #[.int .i64 f3, .int .i64 f4] 34)) = w4 at X M P hZ hO H hs4 ⊢
            obtain ⟨xx0, xx1, xx2, -, -, -, xL⟩ := X.three
            by_cases hy : 0 < f3
            · obtain ⟨gz, rfl, hgz⟩ := hz.out
              have hgz0 : wc.heap.size ≤ gz := by rcases hZ.form with ⟨e0, _⟩ | ⟨g0, e0, h1, _⟩; (cases e0); (injection e0 with e0; injection e0 with e0; omega)
              have hone : RdI (w4.alloc (.cells #[.int .i64 x, .int .i64 f3, .int .i64 f4] 53)) (w4.alloc (.cells #[.int .i64 x, .int .i64 f3, .int .i64 f4] 53)).heap.size (some ⟨w4.heap.size, 0, none⟩) (flat3 [(x, f3, f4)]) := (by have h := RdI.of_ints (xs := flat3 [(x, f3, f4)]) (Blk.new w4 53 #[.int .i64 x, .int .i64 f3, .int .i64 f4]); simp only [World.size_alloc] at h ⊢; exact h)
              have hZa := hZ.alloc (.cells #[.int .i64 x, .int .i64 f3, .int .i64 f4] 53)
              have hZl := Lib.hid (fun g0 (e : (some ⟨gz, 0, none⟩ : Option Addr) = some ⟨g0, 0, none⟩) => show g0 < w4.heap.size by
                rcases hZ.form with ⟨e0, _⟩ | ⟨g1, e0, _, h2, _⟩; (cases e0); (injection e0 with e0; injection e0 with e0; injection e with e; injection e with e; omega))
              go_wp2_with (first | (at_builtin; refine wpList_append_z _ rfl (.tmp 103) (.tmp 105) rfl wc.heap.size (some ⟨gz, 0, none⟩) n c2 zs rfl hZa (w4.alloc (.cells #[.int .i64 x, .int .i64 f3, .int .i64 f4] 53)).heap.size _ 1 1 (flat3 [(x, f3, f4)]) rfl rfl hone (by omega) (by simp; omega) ?_; intro A' c' w9 hOn hgr hat) | fail)
              go_roundw
              case rel =>
                refine ⟨k + 1, n + 1, A', c', zs ++ flat3 [(x, f3, f4)], f1, f2, true, by omega, by go_num, rfl, rfl, by omega, hOn, ?_, (M.alloc _).grown hgr (by simp [Value.ownBlock]; omega), (P.alloc _).grown hgr (by simp [Value.ownBlock]; have := P.lt; omega), (hO.alloc _).kept hgr (fun gb e => by have := hA1.out gb e; simp [Value.ownBlock]; omega), (H.alloc H.size _).grown hgr (by simp; omega) (fun k' hk' => by simp only [Value.ownBlock] at hk'; injection hk' with hk'; have := P.lt; omega), by have := hgr.size; simp at this; omega⟩
                rcases hat with e | e
                · exact ⟨gz, e, hgz⟩
                · exact ⟨_, e, by simp; omega⟩
              case measure => simp [intOf]; omega
            · have hyd : decide (0 < f3) = false := decide_eq_false hy
              go_wp2
              go_roundw
              case rel => exact ⟨k + 1, n, A2, c2, zs, f1, f2, true, by omega, by go_num, rfl, rfl, by omega, hZ, hz, M, P, hO, H, by omega⟩
              case measure => simp [intOf]; omega
        · obtain rfl : k = t.length := by omega
          cases fv
          · go_wp2
            go_ret2
            exact ⟨_, _, t, false, rfl, hO.more (by omega), ht'.out, H⟩
          · obtain ⟨gz, rfl, hgz⟩ := hz.out
            have hgz0 : wc.heap.size ≤ gz ∧ gz < wr.heap.size := by
              rcases hZ.form with ⟨e0, _⟩ | ⟨g0, e0, h1, h2, _⟩
              · cases e0
              · injection e0 with e0; injection e0 with e0; omega
            clear hz
            obtain ⟨o, ho1, rfl⟩ := flat_any n zs hZ.len
            subst ho1
            have ho12 : o.length ≤ 12 := by omega
            go_upto_block 2 with fail
            obtain ⟨W1, rfl⟩ : ∃ W1, W1 = wc := ⟨_, rfl⟩
            obtain ⟨W2, rfl⟩ : ∃ W2, W2 = wr := ⟨_, rfl⟩
            clear hlt
            go_cut [20] (fun i wx => ∃ j : Nat, j ≤ o.length ∧ i = .int .i64 j ∧ W2 = wx)
            case first =>
              go_wp2_with fail
              go_loopw [20] (fun i wx => ∃ j : Nat, j ≤ o.length ∧ i = .int .i64 j ∧ W2 = wx) (fun i _ => o.length - (intOf i).toNat)
              case atStart => exact ⟨0, Nat.zero_le _, rfl, rfl⟩
              case round =>
                obtain ⟨j, hj, rfl, rfl⟩ := hrel
                by_cases hjl : j < o.length
                · obtain ⟨u, v, q, hgu, hu0, hu1, hu2, hu⟩ := hZ.rd.at3C hjl
                  simp only [Nat.zero_add] at hu0 hu1 hu2
                  by_cases hul : u < tw
                  · go_wp2
                    go_roundw
                    case rel => exact ⟨j + 1, by omega, by go_num, trivial⟩
                    case measure => simp [intOf]; omega
                  · have huld : decide (u < tw) = false := decide_eq_false hul
                    go_wp2
                    go_meet
                    exact ⟨j, hj, rfl, rfl⟩
                · go_wp2
                  go_meet
                  exact ⟨j, hj, rfl, rfl⟩
            case rest =>
              obtain ⟨j, hj, rfl, rfl⟩ := hcut
              go_upto_region 26 with fail
              go_cut [137] (fun b wx => ∃ m : Bool, b = .bool m ∧ (m = true → Hid (j < o.length)) ∧ W2 = wx)
              case first =>
                by_cases hjl : j < o.length
                · obtain ⟨u, v, q, hgu, hu0, hu1, hu2, hu⟩ := hZ.rd.at3C hjl
                  simp only [Nat.zero_add] at hu0 hu1 hu2
                  cases hut : u == tw
                  · go_wp2
                    go_meet
                    exact ⟨false, rfl, fun e => (by cases e), rfl⟩
                  · have hjl' := Lib.hid hjl
                    go_wp2
                    go_meet
                    exact ⟨true, rfl, fun _ => hjl', rfl⟩
                · go_wp2
                  go_meet
                  exact ⟨false, rfl, fun e => (by cases e), rfl⟩
              case rest =>
                obtain ⟨m, rfl, hm, rfl⟩ := hcut
                go_upto_if 137 with fail
                go_cut [11] (fun s wx => ∃ (A3 : Option Addr) (c3 : Nat) (o3 : Rf), s = .slice A3 o3.length c3 ∧ OwnZ wx W1.heap.size A3 o3.length c3 (flat3 o3) ∧ o3.length ≤ 14 ∧ OwnZ wx (w.heap.size + 1) A1 t.length c1 (flat3 t) ∧ Below w.heap.size w wx)
                case first =>
                  cases m
                  · obtain ⟨m0', m1', -, -, mL⟩ := M.two
                    by_cases hm1 : 0 < m1
                    · go_upto_region 32 with fail
                      have RO := hZ.rd
                      have R1 := Lib.hid (show RdI W2 W2.heap.size (some ⟨gz, 0, none⟩) (flat3 (o.take j)) by rw [flat3_take]; exact RO.takeN _)
                      have R2 := Lib.hid (show RdI W2 W2.heap.size (some ⟨gz, j * 3, none⟩) (flat3 (o.drop j)) by rw [flat3_drop]; have := RO.dropN (j * 3); rw [Nat.zero_add] at this; exact this)
                      have l1 := Lib.hid (show (flat3 (o.take j)).length = j * 3 by rw [flat3_length, List.length_take]; congr 1; omega)
                      have l2 := Lib.hid (show (flat3 (o.drop j)).length = (o.length - j) * 3 by rw [flat3_length, List.length_drop])
                      clear RO
                      have hjc : j ≤ c2 := by
                        rcases hZ.form with ⟨e0, _⟩ | ⟨g0, e0, _, _, h3, _⟩
                        · cases e0
                        · omega
                      obtain ⟨AD, hAD, hRA⟩ : ∃ AD : Addr, (if c2 = j then some (⟨gz, 0, none⟩ : Addr) else some ⟨gz, j * 3, none⟩) = some AD ∧ Hid (RdI W2 W2.heap.size (some AD) (flat3 (o.drop j))) := by
                        by_cases hck : c2 = j
                        · refine ⟨⟨gz, 0, none⟩, by simp [hck], ?_⟩
                          have : o.drop j = [] := List.drop_of_length_le (by rcases hZ.form with ⟨e0, _⟩ | ⟨g0, e0, _, _, h3, _⟩; (cases e0); omega)
                          rw [this]; exact .inl rfl
                        · exact ⟨⟨gz, j * 3, none⟩, by simp [hck], R2⟩
                      refine wp_region_factsK (W2.heap.size) 999 (sellF W2.heap.size gz c2 j o tw m1 m2 AD) (fun j => match j with | 0 => 4 | 4 => 9 | 8 => 9 | 9 => 13 | _ => 999) (fun d vs _ => d 14 = false → vs 14 = (.slice (some ⟨gz, 0, none⟩) o.length c2)) ?_ (by kernel_rfl) (by kernel_rfl) (by first | rfl | decide) (fun vs => ?_) (fun _ => rfl) ?_ ?_
                      rotate_left
                      · simp only [putAll, Act.put, List.setIfInBounds_toArray, List.set_cons_succ, List.set_cons_zero]
                        rfl
                      · refine ⟨?_, ?_, ?_, ?_, ?_, ?_, ?_, ?_, ?_, ?_, ?_, ?_, ?_, ?_, ?_, trivial⟩
                        · intro ops d vs w1 K hI hcl hk hd hK
                          have hO := hI.old hI.no
                          refine ⟨trivial, ?_⟩
                          dsimp only
                          go_wp2
                          exact hI.put (k := 0) (v := (.slice (some ⟨w1.heap.size, 0, none⟩) 0 0)) ((Below.refl w1.heap.size w1).alloc (Nat.le_refl _) (.cells #[] 53)) (by omega) ⟨w1.heap.size, rfl, hO.size, Blk.new w1 _ _⟩ (hI.2.2.2)
                        · intro ops d vs w1 K hI hcl hk hd hK
                          have hO := hI.old hI.no
                          have h14 : vs 14 = (.slice (some ⟨gz, 0, none⟩) o.length c2) := hI.2.2.2 (not_yet (fun h => absurd (hcl 14 _ rfl h) (by simp [hk])))
                          refine ⟨trivial, ?_⟩
                          dsimp only
                          go_wp2
                          exact hI.pure_ (k := 1) (v := (.slice (some ⟨gz, 0, none⟩) o.length c2)) (by omega) rfl (hI.2.2.2)
                        · intro ops d vs w1 K hI hcl hk hd hK
                          have hO := hI.old hI.no
                          refine ⟨trivial, ?_⟩
                          dsimp only
                          go_wp2
                          exact hI.pure_ (k := 2) (v := (.int .i64 (j : Int))) (by omega) rfl (hI.2.2.2)
                        · intro ops d vs w1 K hI hcl hk hd hK
                          have hO := hI.old hI.no
                          have hd0 : d 1 = true ∧ d 2 = true := by simp at hd; simp [hd]
                          have e1 : vs 1 = (.slice (some ⟨gz, 0, none⟩) o.length c2) := hI.get hd0.1 hI.no
                          have e2 : vs 2 = (.int .i64 (j : Int)) := hI.get hd0.2 hI.no
                          refine ⟨trivial, ?_⟩
                          dsimp only
                          go_wp2
                          exact hI.pure_ (k := 3) (v := (.slice (some ⟨gz, 0, none⟩) j c2)) (by omega) rfl (hI.2.2.2)
                        · intro ops d vs w1 K hI hcl hk hd hK
                          have hO := hI.old hI.no
                          have hd0 : d 3 = true := by simp at hd; simp [hd]
                          have e3 : vs 3 = (.slice (some ⟨gz, 0, none⟩) j c2) := hI.get hd0 hI.no
                          have hd00 : d 0 = true := by simp at hd; simp [hd]
                          have q0 : ∃ g, vs 0 = .slice (some ⟨g, 0, none⟩) 0 0 ∧ W2.heap.size ≤ g ∧ Blk w1 g 53 #[] := hI.get hd00 hk
                          refine Exists.elim q0 fun g q => ?_
                          have e0 := q.1
                          have hg0 := q.2.1
                          have B := q.2.2
                          have hv : RdV w1 w1.heap.size (some ⟨gz, 0, none⟩) (ints (flat3 (o.take j))) := RdV.step (RdI.toV R1.out) hO
                          refine ⟨trivial, ?_⟩
                          dsimp only
                          refine wpList_append_e rowR _ rfl (.tmp 159) (.tmp 162) rfl W2.heap.size g e0 hg0 B w1.heap.size (some ⟨gz, 0, none⟩) j c2 (ints (flat3 (o.take j))) (by rw [ints_length]; exact l1.out) e3 hv (ints_one _) (by omega) hO.size ?_
                          intro A4 c4 w4 o4 b4 hat
                          exact wpList_nil (hK (.slice A4 j c4) w4 (hI.put (k := 4) (v := .slice A4 j c4) b4 (by omega) ⟨A4, c4, rfl, o4⟩ hI.2.2.2))
                        · intro ops d vs w1 K hI hcl hk hd hK
                          have hO := hI.old hI.no
                          refine ⟨trivial, ?_⟩
                          dsimp only
                          go_wp2
                          exact hI.pure_ (k := 5) (v := (.int .i64 tw)) (by omega) rfl (hI.2.2.2)
                        · intro ops d vs w1 K hI hcl hk hd hK
                          have hO := hI.old hI.no
                          have y0 := cell_next hO m0'
                          have y1 := cell_next hO m1'
                          refine ⟨trivial, ?_⟩
                          dsimp only
                          go_wp2
                          exact hI.pure_ (k := 6) (v := (.agg #[.int .i64 m1, .int .i64 m2])) (by omega) rfl (hI.2.2.2)
                        · intro ops d vs w1 K hI hcl hk hd hK
                          have hO := hI.old hI.no
                          have hd0 : d 5 = true ∧ d 6 = true := by simp at hd; simp [hd]
                          have e5 : vs 5 = (.int .i64 tw) := hI.get hd0.1 hI.no
                          have e6 : vs 6 = (.agg #[.int .i64 m1, .int .i64 m2]) := hI.get hd0.2 hI.no
                          refine ⟨trivial, ?_⟩
                          dsimp only
                          go_wp2
                          exact hI.pure_ (k := 7) (v := (.agg #[.int .i64 tw, .int .i64 m1, .int .i64 m2])) (by omega) rfl (hI.2.2.2)
                        · intro ops d vs w1 K hI hcl hk hd hK
                          have hO := hI.old hI.no
                          have hd0 : d 7 = true := by simp at hd; simp [hd]
                          have e7 : vs 7 = (.agg #[.int .i64 tw, .int .i64 m1, .int .i64 m2]) := hI.get hd0 hI.no
                          refine ⟨trivial, ?_⟩
                          dsimp only
                          go_wp2
                          exact hI.put (k := 8) (v := (.slice (some ⟨w1.heap.size, 0, none⟩) 1 1)) ((Below.refl w1.heap.size w1).alloc (Nat.le_refl _) (.cells #[.int .i64 tw, .int .i64 m1, .int .i64 m2] 53)) (by omega) ⟨w1.heap.size, rfl, hO.size, Blk.new w1 _ _⟩ (hI.2.2.2)
                        · intro ops d vs w1 K hI hcl hk hd hK
                          have hO := hI.old hI.no
                          have hd0 : d 4 = true ∧ d 8 = true := by simp at hd; simp [hd]
                          have q4 : ∃ A4 c4, vs 4 = .slice A4 j c4 ∧ OwnV w1 W2.heap.size 53 3 A4 j c4 (ints (flat3 (o.take j))) := hI.get hd0.1 hk
                          have q8 : ∃ g, vs 8 = .slice (some ⟨g, 0, none⟩) 1 1 ∧ W2.heap.size ≤ g ∧ Blk w1 g 53 #[.int .i64 tw, .int .i64 m1, .int .i64 m2] := hI.get hd0.2 hk
                          refine Exists.elim q4 fun A4 q => Exists.elim q fun c4 q => Exists.elim q8 fun g r => ?_
                          have e4 := q.1
                          have o4 := q.2
                          have e8 := r.1
                          have B := r.2.2
                          refine ⟨trivial, ?_⟩
                          dsimp only
                          refine wpList_append_v rowR _ rfl (.tmp 163) (.tmp 167) rfl W2.heap.size A4 j c4 (ints (flat3 (o.take j))) e4 o4 w1.heap.size (some ⟨g, 0, none⟩) 1 1 [Value.int .i64 tw, Value.int .i64 m1, Value.int .i64 m2] rfl e8 (RdV.of_blk B) (by intro u hu; simp at hu; rcases hu with rfl | rfl | rfl <;> rfl) (by omega) hO.size ?_
                          intro A9 c9 w9 o9 hg hat
                          exact wpList_nil (hK (.slice A9 (j + 1) c9) w9 (hI.row (k := 9) (v := .slice A9 (j + 1) c9) hg o4.row_ge (by omega) ⟨A9, c9, rfl, o9⟩ (fun j2 hj hjk hdk hal hP => match j2, hj, hjk, hdk, hal, hP with | 0, hj, _, _, hal, hP => absurd hal (by simp [hd0.1]) | 1, _, _, _, _, _ => .inl rfl | 2, _, _, _, _, _ => .inl rfl | 3, _, _, _, _, _ => .inl rfl | 4, _, _, h, _, _ => absurd rfl h | 5, _, _, _, _, _ => .inl rfl | 6, _, _, _, _, _ => .inl rfl | 7, _, _, _, _, _ => .inl rfl | 8, _, _, h, _, _ => absurd rfl h | 9, _, h, _, _, _ => absurd rfl h | 10, _, _, _, _, _ => .inl rfl | 11, _, _, _, _, _ => .inl rfl | 12, _, _, _, _, _ => .inl rfl | 13, hj, _, _, hal, hP => absurd (hcl 13 _ rfl hj) (by simp [hk]) | 14, hj, _, _, hal, hP => absurd (hcl 14 _ rfl hj) (by simp [hk]) | n + 15, _, _, _, _, _ => .inl rfl) hI.2.2.2))
                        · intro ops d vs w1 K hI hcl hk hd hK
                          have hO := hI.old hI.no
                          have h14 : vs 14 = (.slice (some ⟨gz, 0, none⟩) o.length c2) := hI.2.2.2 (not_yet (fun h => absurd (hcl 14 _ rfl h) (by simp [hk])))
                          refine ⟨trivial, ?_⟩
                          dsimp only
                          go_wp2
                          exact hI.pure_ (k := 10) (v := (.slice (some ⟨gz, 0, none⟩) o.length c2)) (by omega) rfl (hI.2.2.2)
                        · intro ops d vs w1 K hI hcl hk hd hK
                          have hO := hI.old hI.no
                          refine ⟨trivial, ?_⟩
                          dsimp only
                          go_wp2
                          exact hI.pure_ (k := 11) (v := (.int .i64 (j : Int))) (by omega) rfl (hI.2.2.2)
                        · intro ops d vs w1 K hI hcl hk hd hK
                          have hO := hI.old hI.no
                          have hd0 : d 10 = true ∧ d 11 = true := by simp at hd; simp [hd]
                          have e10 : vs 10 = (.slice (some ⟨gz, 0, none⟩) o.length c2) := hI.get hd0.1 hI.no
                          have e11 : vs 11 = (.int .i64 (j : Int)) := hI.get hd0.2 hI.no
                          refine ⟨trivial, ?_⟩
                          dsimp only
                          go_wp2
                          exact hI.pure_ (k := 12) (v := (.slice (some AD) (o.length - j) (c2 - j))) (by omega) rfl (hI.2.2.2)
                        · intro ops d vs w1 K hI hcl hk hd hK
                          have hO := hI.old hI.no
                          have hd0 : d 12 = true := by simp at hd; simp [hd]
                          have e12 : vs 12 = (.slice (some AD) (o.length - j) (c2 - j)) := hI.get hd0 hI.no
                          have hd9 : d 9 = true := by simp at hd; simp [hd]
                          have q9 : ∃ A9 c9, vs 9 = .slice A9 (j + 1) c9 ∧ OwnV w1 W2.heap.size 53 3 A9 (j + 1) c9 (ints (flat3 (o.take j)) ++ [Value.int .i64 tw, Value.int .i64 m1, Value.int .i64 m2]) := hI.get hd9 hk
                          refine Exists.elim q9 fun A9 q => Exists.elim q fun c9 q => ?_
                          have e9 := q.1
                          have o9 := q.2
                          have hv : RdV w1 w1.heap.size (some AD) (ints (flat3 (o.drop j))) := RdV.step (RdI.toV hRA.out) hO
                          refine ⟨trivial, ?_⟩
                          dsimp only
                          refine wpList_append_v rowR _ rfl (.tmp 168) (.tmp 171) rfl W2.heap.size A9 (j + 1) c9 _ e9 o9 w1.heap.size (some AD) (o.length - j) (c2 - j) (ints (flat3 (o.drop j))) (by rw [ints_length]; exact l2.out) e12 hv (ints_one _) (by omega) hO.size ?_
                          intro A13 c13 w13 o13 hg hat
                          exact wpList_nil (hK (.slice A13 (j + 1 + (o.length - j)) c13) w13 (hI.row (k := 13) (v := .slice A13 (j + 1 + (o.length - j)) c13) hg o9.row_ge (by omega) ⟨A13, c13, rfl, o13⟩ (fun j2 hj hjk hdk hal hP => match j2, hj, hjk, hdk, hal, hP with | 0, hj, _, _, hal, hP => absurd hal (by have := hcl 9 _ rfl hd9; simp at this; simp [this]) | 1, _, _, _, _, _ => .inl rfl | 2, _, _, _, _, _ => .inl rfl | 3, _, _, _, _, _ => .inl rfl | 4, hj, _, _, hal, hP => absurd hal (by simp [hd9]) | 5, _, _, _, _, _ => .inl rfl | 6, _, _, _, _, _ => .inl rfl | 7, _, _, _, _, _ => .inl rfl | 8, hj, _, _, hal, hP => absurd hal (by simp [hd9]) | 9, _, _, h, _, _ => absurd rfl h | 10, _, _, _, _, _ => .inl rfl | 11, _, _, _, _, _ => .inl rfl | 12, _, _, _, _, _ => .inl rfl | 13, _, h, _, _, _ => absurd rfl h | 14, hj, _, _, hal, hP => absurd (hcl 14 _ rfl hj) (by simp [hk]) | n + 15, _, _, _, _, _ => .inl rfl) hI.2.2.2))
                        · intro ops d vs w1 K hI hcl hk hd hK
                          have hO := hI.old hI.no
                          have hd13 : d 13 = true := by simp at hd; simp [hd]
                          have q13 : ∃ A13 c13, vs 13 = .slice A13 (j + 1 + (o.length - j)) c13 ∧ OwnV w1 W2.heap.size 53 3 A13 (j + 1 + (o.length - j)) c13 (ints (flat3 (o.take j)) ++ [Value.int .i64 tw, Value.int .i64 m1, Value.int .i64 m2] ++ ints (flat3 (o.drop j))) := hI.get hd13 hI.no
                          refine Exists.elim q13 fun A13 q => Exists.elim q fun c13 q => ?_
                          have e13 := q.1
                          have o13 := q.2
                          refine ⟨trivial, ?_⟩
                          dsimp only
                          go_wp2
                          exact hI.pure_ (k := 14) (v := .slice A13 (j + 1 + (o.length - j)) c13) (by omega) ⟨A13, c13, rfl, o13⟩ (fun h => absurd h (by simp [upd]))
                      · intro d vs w1 hI hd
                        obtain ⟨A13, c13, e14, o13⟩ : (Fact.own W2.heap.size 53 3 (j + 1 + (o.length - j)) (ints (flat3 (o.take j)) ++ [Value.int .i64 tw, Value.int .i64 m1, Value.int .i64 m2] ++ ints (flat3 (o.drop j)))).P (vs 14) w1 := hI.get (hd 14 (by decide)) hI.no
                        have b8 := hI.old hI.no
                        have hlen : j + 1 + (o.length - j) = o.length + 1 := by omega
                        rw [hlen] at e14 o13
                        obtain ⟨o3, ho3⟩ : ∃ o3, o.take j ++ [(tw, m1, m2)] ++ o.drop j = o3 := ⟨_, rfl⟩
                        have hl3 : o.length + 1 = o3.length := by rw [← ho3]; simp; omega
                        have hf3 : ints (flat3 (o.take j)) ++ [Value.int .i64 tw, Value.int .i64 m1, Value.int .i64 m2] ++ ints (flat3 (o.drop j)) = ints (flat3 o3) := by rw [← ho3, flat3_append, flat3_append]; simp [ints, flat3]
                        rw [hf3, hl3] at o13
                        rw [hl3] at e14
                        replace hd := Lib.hid hd
                        rw [e14]
                        clear hI hd e14 hf3 hlen
                        go_wp2
                        go_meet
                        exact ⟨A13, c13, o3, rfl, OwnV.more o13 (by omega), by omega, hO.next b8, chain H b8 (Nat.le_refl _)⟩
                    · have hm1d : decide (0 < m1) = false := decide_eq_false hm1
                      go_wp2
                      go_meet
                      exact ⟨_, _, o, rfl, hZ, by omega, hO, H⟩
                  · have hjl := (hm rfl).out
                    obtain ⟨u, v, q, hgu, hu0, hu1, hu2, hu⟩ := hZ.rd.at3C hjl
                    simp only [Nat.zero_add] at hu0 hu1 hu2
                    obtain ⟨p0, p1, -, -, mL⟩ := M.two
                    have hA := Lib.hid (fun W => sAny_c v q m1 m2 W)
                    go_upto_region 27 with fail
                    have n1 := World.new_ne W2 _ p0
                    have n2 := World.new_ne W2 _ p1
                    have n3 := World.new_ne W2 _ hu1
                    have n4 := World.new_ne W2 _ hu2
                    have hgz1 := hgz0.2
                    go_region_held3 (fun w' => w'.cell? ⟨W1.heap.size + 1, 0, none⟩ = some (.int .i64 m1) ∧ w'.cell? ⟨W1.heap.size + 1, 1, none⟩ = some (.int .i64 m2) ∧ w'.cell? ⟨gz, j * 3 + 1, none⟩ = some (.int .i64 v) ∧ w'.cell? ⟨gz, j * 3 + 2, none⟩ = some (.int .i64 q))
                      (first | (go_split_ands; refine ⟨?_, ?_, ?_, ?_⟩ <;> first | assumption | exact cell_next b (by assumption) | exact cell_alloc (by assumption) | exact cell_alloc (cell_next b (by assumption)) | go_keep) | go_keep)
                      ((go_at_call 47; refine (hA.out _).mono ?_; rintro e w2 ⟨f1, f2, fo, rfl, b⟩; obtain ⟨hc, hf⟩ := bcell b; have hzz := b.size; simp at hzz))
                    · have F2 : Blk (w2.alloc (.cells #[.int .i64 f1, .int .i64 f2] 34)) w2.heap.size 34 #[.int .i64 f1, .int .i64 f2] := Blk.new w2 _ _
                      have hZ2 : OwnZ (w2.alloc (.cells #[.int .i64 f1, .int .i64 f2] 34)) W1.heap.size (some ⟨gz, 0, none⟩) o.length c2 (flat3 o) := OwnZ.alloc (OwnZ.next (w := W2.drew) hZ b) _
                      have hO2 : OwnZ (w2.alloc (.cells #[.int .i64 f1, .int .i64 f2] 34)) (w.heap.size + 1) A1 t.length c1 (flat3 t) := OwnZ.alloc (OwnZ.next (w := W2.drew) hO b) _
                      have H2 : Below w.heap.size w (w2.alloc (.cells #[.int .i64 f1, .int .i64 f2] 34)) := Below.alloc (chain H.drew b (Nat.le_refl _)) (by have := H.size; omega) _
                      generalize (w2.alloc (.cells #[.int .i64 f1, .int .i64 f2] 34)) = w4 at hZ2 hO2 H2 F2 ⊢
                      clear n1 n2 n3 n4 hc hf hzz b p0 p1 hu0 hu1 hu2 mL hA
                      obtain ⟨v0, v1, -, -, vL⟩ := F2.two
                      obtain ⟨u', v', q', hgu', hv0, hv1, hv2, -⟩ := hZ2.rd.at3C hjl
                      simp only [Nat.zero_add] at hv0 hv1 hv2
                      have fz1 := World.ownsRow.frozenAt hZ2 (j * 3 + 1)
                      have fz2 := World.ownsRow.frozenAt hZ2 (j * 3 + 2)
                      have hsz := H2.size
                      cases fo
                      · go_wp2
                        go_ret2
                        exact ⟨_, _, t, false, rfl, hO2.more (by omega), ht'.out, H2⟩
                      · go_wp2
                        go_meet
                        have hZ3 := (hZ2.stored (j * 3 + 1) f1).stored (j * 3 + 2) f2
                        obtain ⟨o3, e3, e4⟩ := flat_any o.length _ hZ3.len
                        refine ⟨_, _, o3, by rw [e3], ?_, by omega, ?_, ?_⟩
                        · rw [e3, e4]; exact hZ3
                        · exact (hO2.put (b := gz) (i := j * 3 + 1) (fun g h => by have := hA1.out g h; intro h2; injection h2 with h2; omega) (.int .i64 f1)).put (b := gz) (i := j * 3 + 2) (fun g h => by have := hA1.out g h; intro h2; injection h2 with h2; omega) (.int .i64 f2)
                        · exact (H2.setCell (p := ⟨gz, j * 3 + 1, none⟩) (show w.heap.size ≤ gz by omega) (.int .i64 f1)).setCell (p := ⟨gz, j * 3 + 2, none⟩) (show w.heap.size ≤ gz by omega) (.int .i64 f2)
                    · have F2 : Blk ((w2.setCell ⟨W2.heap.size, 0, none⟩ (.int .i64 f1)).setCell ⟨W2.heap.size, 1, none⟩ (.int .i64 f2)) W2.heap.size 34 #[.int .i64 f1, .int .i64 f2] := ((Blk.drew (Blk.new W2 _ _)).next b).put2 _ _
                      have hZ2 : OwnZ ((w2.setCell ⟨W2.heap.size, 0, none⟩ (.int .i64 f1)).setCell ⟨W2.heap.size, 1, none⟩ (.int .i64 f2)) W1.heap.size (some ⟨gz, 0, none⟩) o.length c2 (flat3 o) := ((OwnZ.next (w := (W2.alloc _).drew) (OwnZ.alloc hZ _) b).put (b := W2.heap.size) (i := 0) (fun g h => by injection h with h; injection h with h; intro h2; injection h2 with h2; omega) (.int .i64 f1)).put (b := W2.heap.size) (i := 1) (fun g h => by injection h with h; injection h with h; intro h2; injection h2 with h2; omega) (.int .i64 f2)
                      have hO2 : OwnZ ((w2.setCell ⟨W2.heap.size, 0, none⟩ (.int .i64 f1)).setCell ⟨W2.heap.size, 1, none⟩ (.int .i64 f2)) (w.heap.size + 1) A1 t.length c1 (flat3 t) := ((OwnZ.next (w := (W2.alloc _).drew) (OwnZ.alloc hO _) b).put (b := W2.heap.size) (i := 0) (fun g h => by have := hA1.out g h; intro h2; injection h2 with h2; omega) (.int .i64 f1)).put (b := W2.heap.size) (i := 1) (fun g h => by have := hA1.out g h; intro h2; injection h2 with h2; omega) (.int .i64 f2)
                      have H2 : Below w.heap.size w ((w2.setCell ⟨W2.heap.size, 0, none⟩ (.int .i64 f1)).setCell ⟨W2.heap.size, 1, none⟩ (.int .i64 f2)) := ((chain (H.alloc H.size _).drew b (Nat.le_refl _)).setCell (p := ⟨W2.heap.size, 0, none⟩) (show w.heap.size ≤ W2.heap.size from H.size) (.int .i64 f1)).setCell (p := ⟨W2.heap.size, 1, none⟩) (show w.heap.size ≤ W2.heap.size from H.size) (.int .i64 f2)
                      generalize ((w2.setCell ⟨W2.heap.size, 0, none⟩ (.int .i64 f1)).setCell ⟨W2.heap.size, 1, none⟩ (.int .i64 f2)) = w4 at hZ2 hO2 H2 F2 ⊢
                      clear n1 n2 n3 n4 hc hf hzz b p0 p1 hu0 hu1 hu2 mL hA
                      obtain ⟨v0, v1, -, -, vL⟩ := F2.two
                      obtain ⟨u', v', q', hgu', hv0, hv1, hv2, -⟩ := hZ2.rd.at3C hjl
                      simp only [Nat.zero_add] at hv0 hv1 hv2
                      have fz1 := World.ownsRow.frozenAt hZ2 (j * 3 + 1)
                      have fz2 := World.ownsRow.frozenAt hZ2 (j * 3 + 2)
                      have hsz := H2.size
                      cases fo
                      · go_wp2
                        go_ret2
                        exact ⟨_, _, t, false, rfl, hO2.more (by omega), ht'.out, H2⟩
                      · go_wp2
                        go_meet
                        have hZ3 := (hZ2.stored (j * 3 + 1) f1).stored (j * 3 + 2) f2
                        obtain ⟨o3, e3, e4⟩ := flat_any o.length _ hZ3.len
                        refine ⟨_, _, o3, by rw [e3], ?_, by omega, ?_, ?_⟩
                        · rw [e3, e4]; exact hZ3
                        · exact (hO2.put (b := gz) (i := j * 3 + 1) (fun g h => by have := hA1.out g h; intro h2; injection h2 with h2; omega) (.int .i64 f1)).put (b := gz) (i := j * 3 + 2) (fun g h => by have := hA1.out g h; intro h2; injection h2 with h2; omega) (.int .i64 f2)
                        · exact (H2.setCell (p := ⟨gz, j * 3 + 1, none⟩) (show w.heap.size ≤ gz by omega) (.int .i64 f1)).setCell (p := ⟨gz, j * 3 + 2, none⟩) (show w.heap.size ≤ gz by omega) (.int .i64 f2)
                case rest =>
                  clear hZ hO H M P
                  obtain ⟨A3, c3, o3, rfl, hZ, ho3, hO, H⟩ := hcut
                  have hS := Lib.hid (sRights_c A3 c3 o3 wc hZ.rd (by omega))
                  cases hob : rightsB o3
                  · rw [hob] at hS
                    go_wp2_with fail
                    refine hS.out.mono ?_
                    rintro e w5 ⟨rfl, b5⟩
                    go_wp2
                    go_ret2
                    exact ⟨_, _, t, false, rfl, (hO.next b5).more (by omega), ht'.out, chain H b5 (Nat.le_refl _)⟩
                  · rw [hob] at hS
                    have hob' := Lib.hid hob
                    go_wp2_with fail
                    refine hS.out.mono ?_
                    rintro e w5 ⟨rfl, b5⟩
                    go_wp2
                    go_ret2
                    exact ⟨_, _, o3, true, rfl, (hZ.next b5).more (by omega), hob'.out, chain H b5 (Nat.le_refl _)⟩
    · go_wp2
      go_ret2
      exact ⟨_, _, t, false, rfl, hO.more (by omega), ht'.out, H⟩
end Go.Proofs.Ytifljdnlaginfaa
