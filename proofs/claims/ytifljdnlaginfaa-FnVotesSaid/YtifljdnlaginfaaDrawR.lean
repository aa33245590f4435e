/- Draws of rights. -/
import Derived.Test.YtifljdnlaginfaaDrawV
import Derived.Test.YtifljdnlaginfaaSell
import Derived.Test.YtifljdnlaginfaaInvS
namespace Go.Proofs.Ytifljdnlaginfaa
open Go.ChangeShapes Go.WideShapes Go.ChangeAt Go.RowKit
set_option linter.unusedVariables false

theorem rights_one {x : Int} (h0 : 1 ≤ x) (h1 : x ≤ 9) : rightsB [(x, 1, 1)] = true := by
  have h : x = 1 ∨ x = 2 ∨ x = 3 ∨ x = 4 ∨ x = 5 ∨ x = 6 ∨ x = 7 ∨ x = 8 ∨ x = 9 := by omega
  rcases h with rfl | rfl | rfl | rfl | rfl | rfl | rfl | rfl | rfl <;> decide +kernel
def RgtP (w : World) (g B : Nat) (code : List Int) (e : Ending) (w' : World) : Prop :=
  ∃ (A : Option Addr) (c : Nat) (t : Rf), e = .returned (.slice A t.length c) ∧ OwnZ w' w.heap.size A t.length c (flat3 t) ∧ rightsB t = true ∧ CurB w' g B code ∧ w.grownBy w' (some g)
theorem OwnZ.cur {w w' : World} {base g n c : Nat} {A : Option Addr} {xs : List Int} (h : OwnZ w base A n c xs) (hg : w.grownBy w' (some g)) (hlt : g < base) : OwnZ w' base A n c xs :=
  h.kept hg (fun k e hk => by
    injection hk with hk
    rcases h.form with ⟨e0, _⟩ | ⟨g0, e0, hb, _⟩
    · rw [e0] at e; cases e
    · rw [e0] at e; injection e with e; injection e with e; omega)
/-- What lies in memory while a share is sold. -/
structure RgX (w0 : World) (g B f : Nat) (code : List Int) (p q : Int) (A : Option Addr) (c : Nat) (t : Rf) (w : World) : Prop where
  cur : CurB w g B code
  grew : w0.grownBy w (some g)
  frc : Blk w f 34 #[.int .i64 p, .int .i64 q]
  row : OwnZ w w0.heap.size A t.length c (flat3 t)
theorem RgX.next {w0 w w' : World} {g B f : Nat} {code : List Int} {p q : Int} {A : Option Addr} {c : Nat} {t : Rf} (h : RgX w0 g B f code p q A c t w) (b : Below w.heap.size w w') : RgX w0 g B f code p q A c t w' :=
  ⟨h.cur.next b, grownBy_below h.grew b, h.frc.next b, h.row.next b⟩
theorem RgX.drawn {w0 w w' : World} {g B f : Nat} {code : List Int} {p q : Int} {A : Option Addr} {c : Nat} {t : Rf} (h : RgX w0 g B f code p q A c t w) (hC : CurB w' g B code) (hg : w.grownBy w' (some g)) (hgl : g < w0.heap.size) (hgf : g < f) : RgX w0 g B f code p q A c t w' :=
  ⟨hC, h.grew.trans hg, h.frc.grown hg (fun e => by injection e with e; omega), h.row.cur hg hgl⟩
def ExI : Fact := ⟨fun v _ => ∃ x : Int, v = .int .i64 x, fun _ _ _ _ h => h, true, fun _ _ _ _ h => h⟩
def ExN (n : Int) : Fact := ⟨fun v _ => ∃ x : Int, v = .int .i64 x ∧ 0 ≤ x ∧ x ≤ n, fun _ _ _ _ h => h, true, fun _ _ _ _ h => h⟩
def SoldV (base : Nat) (v : Value) (w : World) : Prop := ∃ (A : Option Addr) (c : Nat) (t : Rf) (o : Bool), v = .tuple #[.slice A t.length c, .bool o] ∧ OwnZ w base A t.length c (flat3 t) ∧ rightsB t = true
def RowvV (base : Nat) (v : Value) (w : World) : Prop := ∃ (A : Option Addr) (c : Nat) (t : Rf), v = .slice A t.length c ∧ OwnZ w base A t.length c (flat3 t) ∧ rightsB t = true
def SoldF (base : Nat) : Fact := Fact.of (SoldV base) (fun _ _ _ b ⟨A, c, t, o, h1, h2, h3⟩ => ⟨A, c, t, o, h1, h2.next b, h3⟩)
def RowvF (base : Nat) : Fact := Fact.of (RowvV base) (fun _ _ _ b ⟨A, c, t, h1, h2, h3⟩ => ⟨A, c, t, h1, h2.next b, h3⟩)
def rgF (base gz c1 y n g : Nat) (p q : Int) : List Fact := [Fact.val (.slice (some ⟨gz, 0, none⟩) n c1), Fact.val (.slice (some ⟨gz, 0, none⟩) n c1), Fact.val (.int .i64 (y : Int)), Fact.val (.pointer (some ⟨gz, y * 3, none⟩)), Fact.val (.pointer (some ⟨gz, y * 3, none⟩)), ExI, Fact.val (.pointer (some ⟨g, 0, none⟩)), ExN 11, ExI, Fact.val (.agg #[.int .i64 p, .int .i64 q]), SoldF base, SoldF base, RowvF base, Fact.any, RowvF base]

set_option maxHeartbeats 4000000 in
theorem l12Rights_c (g B : Nat) (code : List Int) (w : World) (hC : CurB w g B code) : Calls Try.prog 46 #[.pointer (some ⟨g, 0, none⟩)] w (RgtP w g B code) := by
  have hgl := hC.lt
  go_enter Try.func46, Try.ntmps46
  go_wp2_with fail
  refine (l01Below_c g B code 9 _ hC (by omega) (by omega)).mono ?_
  rintro e w1 ⟨x0, rfl, x0l, x0h, hC1, hg1⟩
  obtain ⟨x, rfl⟩ : ∃ x, x0 = x - 1 := ⟨x0 + 1, by omega⟩
  have ex : 1 + (x - 1) = x := by omega
  have hR := Lib.hid (rights_one (x := x) (by omega) (by omega))
  have hZ : OwnZ (w1.alloc (.cells #[.int .i64 x, .int .i64 1, .int .i64 1] 53)) w.heap.size (some ⟨w1.heap.size, 0, none⟩) 1 1 (flat3 [(x, 1, 1)]) := OwnZ.of_blk hg1.size rfl (by unfold maxLen; omega) (Blk.new _ _ _)
  have hCa := hC1.alloc (.cells #[.int .i64 x, .int .i64 1, .int .i64 1] 53)
  have hGa := grownBy_al hg1 (.cells #[.int .i64 x, .int .i64 1, .int .i64 1] 53)
  clear hC hC1 hg1
  go_wp2_with fail
  refine (l01Below_c g B code 6 _ hCa (by omega) (by omega)).mono ?_
  rintro e w2 ⟨m0, rfl, m0l, m0h, hC2, hg2⟩
  have hZ2 := hZ.cur hg2 hgl
  have hG2 := hGa.trans hg2
  obtain ⟨m, rfl⟩ := Int.eq_ofNat_of_zero_le m0l
  clear hZ hCa hGa hg2 ex x0l x0h m0l
  go_wp2
  go_loopw [3, 4] (fun s i wr => ∃ (k : Nat) (A1 : Option Addr) (c1 : Nat) (t : Rf), k ≤ 5 ∧ i = .int .i64 k ∧ s = .slice A1 t.length c1 ∧ Hid (rightsB t = true) ∧ CurB wr g B code ∧ w.grownBy wr (some g) ∧ OwnZ wr w.heap.size A1 t.length c1 (flat3 t)) (fun _ i _ => (intOf i).toNat)
  case atStart => exact ⟨m, _, _, [(x, 1, 1)], by omega, rfl, rfl, hR, hC2, hG2, hZ2⟩
  case round =>
    clear hC2 hG2 hZ2 hR
    obtain ⟨k, A1, c1, t, hk5, rfl, rfl, hR, hC, hG, hO⟩ := hrel
    rcases k with _ | k
    · go_wp2
      go_ret
      exact ⟨A1, c1, t, rfl, hO, hR.out, hC, hG⟩
    · obtain ⟨h1t, h12⟩ := rights_b' hR.out
      have hk0 : (0 : Int) < ((k + 1 : Nat) : Int) := by omega
      obtain ⟨gz, rfl, hgz⟩ : ∃ gz, A1 = some ⟨gz, 0, none⟩ ∧ w.heap.size ≤ gz := by
        rcases hO.form with ⟨_, e, _⟩ | ⟨g0, e, h, _⟩
        · omega
        · exact ⟨g0, e, h⟩
      go_wp2_with fail
      refine (l01Below_c g B code t.length _ hC (by omega) (by omega)).mono ?_
      rintro e w3 ⟨y0, rfl, y0l, y0h, hC3, hg3⟩
      have hO3 := hO.cur hg3 hgl
      have hG3 := hG.trans hg3
      obtain ⟨y, rfl⟩ := Int.eq_ofNat_of_zero_le y0l
      have hyt : y < t.length := by omega
      clear hC hO hG hg3 y0l y0h
      go_wp2_with fail
      refine (l01Below_c g B code 3 _ hC3 (by omega) (by omega)).mono ?_
      rintro e w4 ⟨u, rfl, u0, u1, hC4, hg4⟩
      have hO4 := hO3.cur hg4 hgl
      have hG4 := hG3.trans hg4
      clear hC3 hO3 hG3 hg4
      have hM := Lib.hid (fun W => sMake_c (1 + u) 4 W)
      unfold RetF at hM
      generalize mkB (1 + u) 4 = K at hM
      obtain ⟨p, hp⟩ : ∃ p, fT K (redT (1 + u) 4) = p := ⟨_, rfl⟩
      obtain ⟨q, hq⟩ : ∃ q, fT K (redU (1 + u) 4) = q := ⟨_, rfl⟩
      rw [hp, hq] at hM
      clear hp hq
      go_wp2_with fail
      refine (hM.out _).mono ?_
      rintro e w5 ⟨rfl, b5⟩
      have hF6 := Blk.new w5 34 #[.int .i64 p, .int .i64 q]
      have hO6 := (hO4.next b5).alloc (.cells #[.int .i64 p, .int .i64 q] 34)
      have hG6 := grownBy_al (grownBy_below hG4 b5) (.cells #[.int .i64 p, .int .i64 q] 34)
      have hC6 := (hC4.next b5).alloc (.cells #[.int .i64 p, .int .i64 q] 34)
      have hgf : g < w5.heap.size := by have := hG4.size; have := b5.size; omega
      clear hO4 hG4 hC4 b5 hM u0 u1
      go_upto_region 7 with fail
      obtain ⟨f, hf⟩ : ∃ f, f = w5.heap.size := ⟨_, rfl⟩
      rw [← hf] at hF6 hgf ⊢
      generalize w5.alloc (.cells #[.int .i64 p, .int .i64 q] 34) = W6 at *
      clear hf
      have hgW : g ≤ W6.heap.size := by have := hG6.size; omega
      have bdr := (Below.refl W6.heap.size W6).drew
      have hX0 : RgX w g B f code p q (some ⟨gz, 0, none⟩) c1 t W6.drew := RgX.next ⟨hC6, hG6, hF6, hO6⟩ bdr
      clear bdr hC6 hG6 hF6 hO6
      refine wp_region_stripped (l' := ?l2) (by kernel_rfl) ?hst ?h
      case hst =>
        simp only [stripL, stripO, List.map_cons, List.map_nil, List.filter_cons, List.filter_nil, Region.binds]
        rfl
      refine wpAny_factsK (g) 7 (rgF w.heap.size gz c1 y t.length g p q) (fun _ => 999) (fun d vs w' => RgX w g B f code p q (some ⟨gz, 0, none⟩) c1 t w' ∧ (d 14 = false → vs 14 = (.slice (some ⟨gz, 0, none⟩) t.length c1))) ?_ (by kernel_rfl) (by first | rfl | decide) (fun vs => ?_) ⟨hX0, fun _ => rfl⟩ ?_ ?_
      rotate_left
      · simp only [putAll, Act.put, List.setIfInBounds_toArray, List.set_cons_succ, List.set_cons_zero]
        rfl
      · refine ⟨?_, ?_, ?_, ?_, ?_, ?_, ?_, ?_, ?_, ?_, ?_, ?_, ?_, ?_, ?_, trivial⟩
        · intro ops d vs w1 K hI hcl hk hd hK
          have hX : RgX w g B f code p q (some ⟨gz, 0, none⟩) c1 t w1 := hI.2.2.2.1
          have hV : d 14 = false → vs 14 = (.slice (some ⟨gz, 0, none⟩) t.length c1) := hI.2.2.2.2
          have h10 : d 10 = false := not_yet fun h => by have := hcl 10 _ rfl h; simp at this; rw [hk] at this; simp at this
          have h11 : d 11 = false := not_yet fun h => by have := hcl 11 _ rfl h; simp at this; simp [h10] at this
          have h12 : d 12 = false := not_yet fun h => by have := hcl 12 _ rfl h; simp at this; simp [h11] at this
          have h14 : d 14 = false := not_yet fun h => by have := hcl 14 _ rfl h; simp at this; simp [h12] at this
          have e14 := hV h14
          refine ⟨trivial, ?_⟩
          dsimp only
          go_wp2
          exact hI.pure_ (k := 0) (v := (.slice (some ⟨gz, 0, none⟩) t.length c1)) (by omega) rfl ⟨hX, hV⟩
        · intro ops d vs w1 K hI hcl hk hd hK
          have hX : RgX w g B f code p q (some ⟨gz, 0, none⟩) c1 t w1 := hI.2.2.2.1
          have hV : d 14 = false → vs 14 = (.slice (some ⟨gz, 0, none⟩) t.length c1) := hI.2.2.2.2
          have h3 : d 3 = false := not_yet fun h => by have := hcl 3 _ rfl h; simp at this; rw [hk] at this; simp at this
          have h4 : d 4 = false := not_yet fun h => by have := hcl 4 _ rfl h; simp at this; simp [h3] at this
          have h5 : d 5 = false := not_yet fun h => by have := hcl 5 _ rfl h; simp at this; simp [h4] at this
          have h10 : d 10 = false := not_yet fun h => by have := hcl 10 _ rfl h; simp at this; simp [h5] at this
          have h11 : d 11 = false := not_yet fun h => by have := hcl 11 _ rfl h; simp at this; simp [h10] at this
          have h12 : d 12 = false := not_yet fun h => by have := hcl 12 _ rfl h; simp at this; simp [h11] at this
          have h14 : d 14 = false := not_yet fun h => by have := hcl 14 _ rfl h; simp at this; simp [h12] at this
          have e14 := hV h14
          refine ⟨trivial, ?_⟩
          dsimp only
          go_wp2
          exact hI.pure_ (k := 1) (v := (.slice (some ⟨gz, 0, none⟩) t.length c1)) (by omega) rfl ⟨hX, hV⟩
        · intro ops d vs w1 K hI hcl hk hd hK
          have hX : RgX w g B f code p q (some ⟨gz, 0, none⟩) c1 t w1 := hI.2.2.2.1
          have hV : d 14 = false → vs 14 = (.slice (some ⟨gz, 0, none⟩) t.length c1) := hI.2.2.2.2
          refine ⟨trivial, ?_⟩
          dsimp only
          go_wp2
          exact hI.pure_ (k := 2) (v := (.int .i64 (y : Int))) (by omega) rfl ⟨hX, hV⟩
        · intro ops d vs w1 K hI hcl hk hd hK
          have hd0 : d 1 = true ∧ d 2 = true := by simp at hd; simp [hd]
          have e1 : vs 1 = (.slice (some ⟨gz, 0, none⟩) t.length c1) := hI.get hd0.1 hI.no
          have e2 : vs 2 = (.int .i64 (y : Int)) := hI.get hd0.2 hI.no
          have hX : RgX w g B f code p q (some ⟨gz, 0, none⟩) c1 t w1 := hI.2.2.2.1
          have hV : d 14 = false → vs 14 = (.slice (some ⟨gz, 0, none⟩) t.length c1) := hI.2.2.2.2
          refine ⟨trivial, ?_⟩
          dsimp only
          go_wp2
          exact hI.pure_ (k := 3) (v := (.pointer (some ⟨gz, y * 3, none⟩))) (by omega) rfl ⟨hX, hV⟩
        · intro ops d vs w1 K hI hcl hk hd hK
          have hd0 : d 3 = true := by simp at hd; simp [hd]
          have e3 : vs 3 = (.pointer (some ⟨gz, y * 3, none⟩)) := hI.get hd0 hI.no
          have hX : RgX w g B f code p q (some ⟨gz, 0, none⟩) c1 t w1 := hI.2.2.2.1
          have hV : d 14 = false → vs 14 = (.slice (some ⟨gz, 0, none⟩) t.length c1) := hI.2.2.2.2
          refine ⟨trivial, ?_⟩
          dsimp only
          go_wp2
          exact hI.pure_ (k := 4) (v := (.pointer (some ⟨gz, y * 3, none⟩))) (by omega) rfl ⟨hX, hV⟩
        · intro ops d vs w1 K hI hcl hk hd hK
          have hd0 : d 4 = true := by simp at hd; simp [hd]
          have e4 : vs 4 = (.pointer (some ⟨gz, y * 3, none⟩)) := hI.get hd0 hI.no
          have hX : RgX w g B f code p q (some ⟨gz, 0, none⟩) c1 t w1 := hI.2.2.2.1
          have hV : d 14 = false → vs 14 = (.slice (some ⟨gz, 0, none⟩) t.length c1) := hI.2.2.2.2
          obtain ⟨fm, fm1, fm2, -, hf0, -, -, -⟩ := hX.row.rd.at3C hyt
          simp only [Nat.zero_add] at hf0
          refine ⟨trivial, ?_⟩
          dsimp only
          go_wp2
          exact hI.pure_ (k := 5) (v := .int .i64 fm) (by omega) ⟨fm, rfl⟩ ⟨hX, hV⟩
        · intro ops d vs w1 K hI hcl hk hd hK
          have hX : RgX w g B f code p q (some ⟨gz, 0, none⟩) c1 t w1 := hI.2.2.2.1
          have hV : d 14 = false → vs 14 = (.slice (some ⟨gz, 0, none⟩) t.length c1) := hI.2.2.2.2
          refine ⟨trivial, ?_⟩
          dsimp only
          go_wp2
          exact hI.pure_ (k := 6) (v := (.pointer (some ⟨g, 0, none⟩))) (by omega) rfl ⟨hX, hV⟩
        · intro ops d vs w1 K hI hcl hk hd hK
          have hd0 : d 6 = true := by simp at hd; simp [hd]
          have e6 : vs 6 = (.pointer (some ⟨g, 0, none⟩)) := hI.get hd0 hI.no
          have hX : RgX w g B f code p q (some ⟨gz, 0, none⟩) c1 t w1 := hI.2.2.2.1
          have hV : d 14 = false → vs 14 = (.slice (some ⟨gz, 0, none⟩) t.length c1) := hI.2.2.2.2
          have h8 : d 8 = false := not_yet fun h => by have := hcl 8 _ rfl h; simp at this; rw [hk] at this; simp at this
          have h10 : d 10 = false := not_yet fun h => by have := hcl 10 _ rfl h; simp at this; simp [h8] at this
          have h11 : d 11 = false := not_yet fun h => by have := hcl 11 _ rfl h; simp at this; simp [h10] at this
          have h12 : d 12 = false := not_yet fun h => by have := hcl 12 _ rfl h; simp at this; simp [h11] at this
          have h13 : d 13 = false := not_yet fun h => by have := hcl 13 _ rfl h; simp at this; simp [h11] at this
          have h14 : d 14 = false := not_yet fun h => by have := hcl 14 _ rfl h; simp at this; simp [h12] at this
          have e14 := hV h14
          have hsz := hX.grew.size
          have hbs := hI.bel.size
          have hcc := hX.cur.lt
          refine ⟨trivial, ?_⟩
          dsimp only
          go_wp2_with fail
          refine (l01Below_c g B code 12 _ hX.cur (by omega) (by omega)).mono ?_
          rintro e w9 ⟨x, rfl, x0, x1, hC9, hg9⟩
          go_wp2
          have h := hK (.int .i64 x) w9 (hI.wrote (k := 7) (v := .int .i64 x) (hI.bel.grown hg9 (by omega) (fun q e => by injection e with e; omega)) (fun h => absurd h (by simp [upd])) (by omega) ⟨x, rfl, x0, by omega⟩ (fun j hj hjk hdk hal hP => (match j, hj, hjk with
            | 0, _, _ => .inl rfl
            | 1, _, _ => .inl rfl
            | 2, _, _ => .inl rfl
            | 3, _, _ => .inl rfl
            | 4, _, _ => .inl rfl
            | 5, _, _ => .inl rfl
            | 6, _, _ => .inl rfl
            | 7, _, h => absurd rfl h
            | 8, h, _ => by rw [h8] at h; cases h
            | 9, _, _ => .inl rfl
            | 10, h, _ => by rw [h10] at h; cases h
            | 11, h, _ => by rw [h11] at h; cases h
            | 12, h, _ => by rw [h12] at h; cases h
            | 13, h, _ => by rw [h13] at h; cases h
            | 14, h, _ => by rw [h14] at h; cases h
            | n + 15, _, _ => .inl rfl)) ⟨hX.drawn hC9 hg9 hgl hgf, hV⟩)
          simp only [Act.put, List.setIfInBounds_toArray, List.set_cons_succ, List.set_cons_zero, e6, e14] at h
          exact h
        · intro ops d vs w1 K hI hcl hk hd hK
          have hX : RgX w g B f code p q (some ⟨gz, 0, none⟩) c1 t w1 := hI.2.2.2.1
          have hV : d 14 = false → vs 14 = (.slice (some ⟨gz, 0, none⟩) t.length c1) := hI.2.2.2.2
          have hd7 : d 7 = true := by simp at hd; simp [hd]
          obtain ⟨x, e7, x0, x1⟩ : ∃ x : Int, vs 7 = .int .i64 x ∧ 0 ≤ x ∧ x ≤ 11 := hI.get hd7 hI.no
          refine ⟨trivial, ?_⟩
          dsimp only
          go_wp2
          exact hI.pure_ (k := 8) (v := .int .i64 (1 + x)) (by omega) ⟨_, rfl⟩ ⟨hX, hV⟩
        · intro ops d vs w1 K hI hcl hk hd hK
          have hX : RgX w g B f code p q (some ⟨gz, 0, none⟩) c1 t w1 := hI.2.2.2.1
          have hV : d 14 = false → vs 14 = (.slice (some ⟨gz, 0, none⟩) t.length c1) := hI.2.2.2.2
          obtain ⟨p0, p1, -, -, pL⟩ := hX.frc.two
          refine ⟨trivial, ?_⟩
          dsimp only
          go_wp2
          exact hI.pure_ (k := 9) (v := .agg #[.int .i64 p, .int .i64 q]) (by omega) rfl ⟨hX, hV⟩
        · intro ops d vs w1 K hI hcl hk hd hK
          have hd0 : d 0 = true ∧ d 9 = true := by simp at hd; simp [hd]
          have e0 : vs 0 = (.slice (some ⟨gz, 0, none⟩) t.length c1) := hI.get hd0.1 hI.no
          have e9 : vs 9 = (.agg #[.int .i64 p, .int .i64 q]) := hI.get hd0.2 hI.no
          have hX : RgX w g B f code p q (some ⟨gz, 0, none⟩) c1 t w1 := hI.2.2.2.1
          have hV : d 14 = false → vs 14 = (.slice (some ⟨gz, 0, none⟩) t.length c1) := hI.2.2.2.2
          have hd5 : d 5 = true := by simp at hd; simp [hd]
          have hd8 : d 8 = true := by simp at hd; simp [hd]
          obtain ⟨fm, e5⟩ : ∃ x : Int, vs 5 = .int .i64 x := hI.get hd5 hI.no
          obtain ⟨tw, e8⟩ : ∃ x : Int, vs 8 = .int .i64 x := hI.get hd8 hI.no
          have hsz := hX.grew.size
          refine ⟨trivial, ?_⟩
          dsimp only
          go_wp2_with fail
          refine (sSell_c (some ⟨gz, 0, none⟩) c1 t fm tw p q _ hX.row.rd hR.out).mono ?_
          rintro e w9 ⟨A9, c9, t9, o9, rfl, hO9, hR9, b⟩
          go_wp2
          have h := hK (.tuple #[.slice A9 t9.length c9, .bool o9]) w9 (hI.put (k := 10) (v := .tuple #[.slice A9 t9.length c9, .bool o9]) b (by omega) ⟨A9, c9, t9, o9, rfl, hO9.more hsz, hR9⟩ ⟨hX.next b, hV⟩)
          simp only [Act.put, List.setIfInBounds_toArray, List.set_cons_succ, List.set_cons_zero, e0, e5, e8, e9] at h
          exact h
        · intro ops d vs w1 K hI hcl hk hd hK
          have hX : RgX w g B f code p q (some ⟨gz, 0, none⟩) c1 t w1 := hI.2.2.2.1
          have hV : d 14 = false → vs 14 = (.slice (some ⟨gz, 0, none⟩) t.length c1) := hI.2.2.2.2
          have hd10 : d 10 = true := by simp at hd; simp [hd]
          obtain ⟨A9, c9, t9, o9, e10, hO9, hR9⟩ : SoldV w.heap.size (vs 10) w1 := hI.get hd10 hI.no
          refine ⟨trivial, ?_⟩
          dsimp only
          go_wp2
          exact hI.pure_ (k := 11) (v := .tuple #[.slice A9 t9.length c9, .bool o9]) (by omega) ⟨A9, c9, t9, o9, rfl, hO9, hR9⟩ ⟨hX, hV⟩
        · intro ops d vs w1 K hI hcl hk hd hK
          have hX : RgX w g B f code p q (some ⟨gz, 0, none⟩) c1 t w1 := hI.2.2.2.1
          have hV : d 14 = false → vs 14 = (.slice (some ⟨gz, 0, none⟩) t.length c1) := hI.2.2.2.2
          have hd11 : d 11 = true := by simp at hd; simp [hd]
          obtain ⟨A9, c9, t9, o9, e11, hO9, hR9⟩ : SoldV w.heap.size (vs 11) w1 := hI.get hd11 hI.no
          refine ⟨trivial, ?_⟩
          dsimp only
          go_wp2
          exact hI.pure_ (k := 12) (v := .slice A9 t9.length c9) (by omega) ⟨A9, c9, t9, rfl, hO9, hR9⟩ ⟨hX, hV⟩
        · intro ops d vs w1 K hI hcl hk hd hK
          have hX : RgX w g B f code p q (some ⟨gz, 0, none⟩) c1 t w1 := hI.2.2.2.1
          have hV : d 14 = false → vs 14 = (.slice (some ⟨gz, 0, none⟩) t.length c1) := hI.2.2.2.2
          have hd11 : d 11 = true := by simp at hd; simp [hd]
          obtain ⟨A9, c9, t9, o9, e11, hO9, hR9⟩ : SoldV w.heap.size (vs 11) w1 := hI.get hd11 hI.no
          refine ⟨trivial, ?_⟩
          dsimp only
          go_wp2
          exact hI.pure_ (k := 13) (v := .bool o9) (by omega) trivial ⟨hX, hV⟩
        · intro ops d vs w1 K hI hcl hk hd hK
          have hX : RgX w g B f code p q (some ⟨gz, 0, none⟩) c1 t w1 := hI.2.2.2.1
          have hV : d 14 = false → vs 14 = (.slice (some ⟨gz, 0, none⟩) t.length c1) := hI.2.2.2.2
          have hd12 : d 12 = true := by simp at hd; simp [hd]
          obtain ⟨A9, c9, t9, e12, hO9, hR9⟩ : RowvV w.heap.size (vs 12) w1 := hI.get hd12 hI.no
          refine ⟨trivial, ?_⟩
          dsimp only
          go_wp2
          exact hI.pure_ (k := 14) (v := .slice A9 t9.length c9) (by omega) ⟨A9, c9, t9, rfl, hO9, hR9⟩ ⟨hX, fun h => absurd h (by simp [upd])⟩
      · intro d vs w1 hI hd
        have hX : RgX w g B f code p q (some ⟨gz, 0, none⟩) c1 t w1 := hI.2.2.2.1
        obtain ⟨A9, c9, t9, e14, hO9, hR9⟩ : RowvV w.heap.size (vs 14) w1 := hI.get (hd 14 (by decide)) hI.no
        have hR9 := Lib.hid hR9
        have hC9 := hX.cur
        have hG9 := hX.grew
        clear hI hX hd hX0 hR
        rw [e14]
        clear e14
        generalize vs 0 = z0
        generalize vs 1 = z1
        generalize vs 2 = z2
        generalize vs 3 = z3
        generalize vs 4 = z4
        generalize vs 5 = z5
        generalize vs 6 = z6
        generalize vs 7 = z7
        generalize vs 8 = z8
        generalize vs 9 = z9
        generalize vs 10 = z10
        generalize vs 11 = z11
        generalize vs 12 = z12
        generalize vs 13 = z13
        go_wp2
        go_roundw
        case rel => exact ⟨k, A9, c9, t9, by omega, by go_num, rfl, hR9, hC9, hG9, hO9⟩
        case measure => simp [intOf]

def DrawRP (w : World) (e : Ending) (w' : World) : Prop := ∃ (A : Option Addr) (c : Nat) (t : Rf), e = .returned (.slice A t.length c) ∧ OwnZ w' w.heap.size A t.length c (flat3 t) ∧ rightsB t = true ∧ Below w.heap.size w w'
set_option maxHeartbeats 1000000 in
theorem drawRights_c (A : Option Addr) (c : Nat) (code : List Int) (w : World) (hr : RdB w w.heap.size A code) (hl : code.length ≤ 1048576) : Calls Try.prog 31 #[.slice A code.length c] w (DrawRP w) := by
  go_enter Try.func31, Try.ntmps31
  go_wp2_with fail
  refine (l01New_c _ _ _ _ hr hl).mono ?_
  rintro e w1 ⟨rfl, hC, b⟩
  go_wp2_with fail
  refine (l12Rights_c _ _ code _ hC).mono ?_
  rintro e w2 ⟨A2, c2, t, rfl, hO, hR, hC2, hg2⟩
  go_wp2
  go_ret
  exact ⟨A2, c2, t, rfl, hO.more b.size, hR, below_of_grown b hg2 b.size (Nat.le_refl _)⟩
end Go.Proofs.Ytifljdnlaginfaa
