/- BestStart of the reference. -/
import Derived.Test.YtkbgifnmcklmiaaCopy
namespace Go.Proofs.Ytkbgifnmcklmiaa
open Go.ChangeShapes Go.WideShapes Go.ChangeAt Go.RowKit
set_option linter.unusedVariables false

def Sep (A : Option Addr) (v : Value) : Prop := ∀ g, A = some ⟨g, 0, none⟩ → v.ownBlock ≠ some g
/-- What is known of the copied field and of what is built on it. -/
def XB (b0 : Nat) (a : Int) (ws : List Int) (fs : List Fd) (d : Nat → Bool) (vs : Nat → Value) (w : World) : Prop :=
  d 4 = true → ∃ A4 c4, vs 4 = .agg #[.int .i64 a, .slice A4 ws.length c4] ∧ OwnV w b0 3 1 A4 ws.length c4 (ints ws) ∧
    (d 5 = true → d 6 = false → ∃ g, vs 5 = .slice (some ⟨g, 0, none⟩) 1 1 ∧ b0 ≤ g ∧ Blk w g 27 #[.int .i64 a, .slice A4 ws.length c4]) ∧
    (d 6 = true → ∃ A6 c6, vs 6 = .slice A6 (fs.length + 1) c6 ∧ OwnV w b0 27 2 A6 (fs.length + 1) c6 (fcells fs ++ [.int .i64 a, .slice A4 ws.length c4])) ∧
    (d 7 = true → d 9 = false → Sep A4 (vs 7)) ∧ (d 9 = true → d 12 = false → Sep A4 (vs 9))
theorem upd_f {d : Nat → Bool} {k j : Nat} (h : upd d k true j = false) : d j = false := (upd_mono h).1
theorem upd_t {d : Nat → Bool} {k j : Nat} (h : upd d k true j = true) (hne : j ≠ k) : d j = true := by rwa [upd_ne hne] at h
theorem XB.put {b0 : Nat} {a : Int} {ws : List Int} {fs : List Fd} {d : Nat → Bool} {vs : Nat → Value} {w w' : World} {k : Nat} {v : Value} (h : XB b0 a ws fs d vs w) (b : Below w.heap.size w w') (h4 : k ≠ 4) (h5 : k ≠ 5) (h6 : k ≠ 6) (h7 : k ≠ 7) (h9 : k ≠ 9) :
    XB b0 a ws fs (upd d k true) (upd vs k v) w' := by
  intro hd
  obtain ⟨A4, c4, e4, o4, f5, f6, f7, f9⟩ := h (upd_t hd (Ne.symm h4))
  refine ⟨A4, c4, by rw [upd_ne (Ne.symm h4)]; exact e4, o4.next b, fun k5 k6 => ?_, fun k6 => ?_, fun k7 k9 => ?_, fun k9 k12 => ?_⟩
  · obtain ⟨g, e, hg, B⟩ := f5 (upd_t k5 (Ne.symm h5)) (upd_f k6)
    exact ⟨g, by rw [upd_ne (Ne.symm h5)]; exact e, hg, B.next b⟩
  · obtain ⟨A6, c6, e, o6⟩ := f6 (upd_t k6 (Ne.symm h6))
    exact ⟨A6, c6, by rw [upd_ne (Ne.symm h6)]; exact e, o6.next b⟩
  · rw [upd_ne (Ne.symm h7)]; exact f7 (upd_t k7 (Ne.symm h7)) (upd_f k9)
  · rw [upd_ne (Ne.symm h9)]; exact f9 (upd_t k9 (Ne.symm h9)) (upd_f k12)

def sFacts (W0 : Nat) (A : Option Addr) (c : Nat) (fs : List Fd) (A' : Option Addr) (c' : Nat) (ss : List Int) (a : Int) (Aw : Option Addr) (cw : Nat) (ws : List Int) (s pk : Int) : List Fact :=
  [Fact.blk W0 27 0 #[], Fact.val (.slice A fs.length c), Fact.own W0 27 2 fs.length (fcells fs), Fact.val (.agg #[.int .i64 a, .slice Aw ws.length cw]), Fact.any, Fact.any, Fact.any,
   Fact.blk W0 3 0 #[], Fact.val (.slice A' ss.length c'), Fact.own W0 3 1 ss.length (ints ss), Fact.val (.int .i64 s), Fact.blk W0 3 1 #[.int .i64 s], Fact.own W0 3 1 (ss.length + 1) (ints (ss ++ [s])), Fact.val (.int .i64 pk), Fact.val (.int .i64 pk)]
def sDead : Nat → Nat
  | 0 => 2
  | 2 => 6
  | 7 => 9
  | 9 => 12
  | 11 => 12
  | 12 => 13
  | _ => 999
theorem ints_append (xs ys : List Int) : ints (xs ++ ys) = ints xs ++ ints ys := by simp [ints]
theorem OwnV.not_row {w : World} {base e sz : Nat} {A : Option Addr} {n c : Nat} {cs : List Value} (h : OwnV w base e sz A n c cs) {g e' : Nat} {cs' : Array Value} (B : Blk w g e' cs') (hne : e' ≠ e) : (Value.slice A n c).ownBlock ≠ some g := by
  intro hb
  rcases h.2 with ⟨hv, _⟩ | ⟨g1, cap, cur, hv, _, hh, _⟩
  · rw [hv] at hb; simp [Value.ownBlock] at hb
  · rw [hv] at hb
    simp only [Value.ownBlock, Option.some.injEq] at hb
    subst hb
    unfold Blk at B
    rw [hh] at B
    injection B with B
    injection B with _ h2 _
    exact hne h2.symm
theorem field_toV {fs : List Fd} {a : Int} {A4 : Option Addr} {c4 : Nat} {ws : List Int} : fcells (fs ++ [⟨a, A4, c4, ws⟩]) = fcells fs ++ [.int .i64 a, .slice A4 ws.length c4] := by rw [fcells_append]; rfl
set_option maxHeartbeats 4000000 in
theorem sBest_all (A : Option Addr) (c : Nat) (fs : List Fd) (A' : Option Addr) (c' : Nat) (ss : List Int) (a : Int) (Aw : Option Addr) (cw : Nat) (ws : List Int) (last : Int) (w : World) (hr : RdF w w.heap.size A fs) (hl : fs.length ≤ 1048576) (hfl : ∀ f ∈ fs, f.ws.length ≤ 1048576) (hs : RdI w w.heap.size A' ss) (hsl : ss.length ≤ 1048576) (hw : RdI w w.heap.size Aw ws) (hwl : ws.length ≤ 1048576) (hw64 : last ≤ 9223372036854775807) :
    Calls Try.prog 28 #[.slice A fs.length c, .slice A' ss.length c', .agg #[.int .i64 a, .slice Aw ws.length cw], .int .i64 last] w fun e w' => e = .returned (.int .i64 (bestZ (vals fs) ss (a, ws) last)) ∧ Below w.heap.size w w' := by
  have P := Blk.new w 27 #[.int .i64 a, .slice Aw ws.length cw]
  have H := (Below.refl w.heap.size w).alloc (Nat.le_refl _) (.cells #[.int .i64 a, .slice Aw ws.length cw] 27)
  have hr2 := Lib.hid (hr.step H)
  have hw2 := Lib.hid (hw.step H)
  have hs2 := Lib.hid (hs.step H)
  cases hlast : inB last 0 52
  · rw [best_no hlast]
    have hn := Lib.hid ((inB_not _ _ _).1 hlast)
    go_enter Try.func28, Try.ntmps28
    go_wp2
    go_loopw [9, 10, 11] (fun be le st wr => be = .int .i64 (-1) ∧ st = .int .i64 0 ∧ Below w.heap.size w wr) (fun _ _ _ _ => 0)
    case atStart => exact ⟨rfl, rfl, H⟩
    case round =>
      clear H
      obtain ⟨rfl, rfl, H⟩ := hrel
      rcases hn.out with h | h
      · go_wp2
        go_ret
        exact ⟨rfl, H⟩
      · have h0 : 0 ≤ last := by omega
        have h52 : ¬ last ≤ 52 := by omega
        go_wp2
        go_ret
        exact ⟨rfl, H⟩
  · rw [best_go hlast]
    have hfl' := Lib.hid hfl
    obtain ⟨l0, l1⟩ := (inB_iff _ _ _).1 hlast
    obtain ⟨L, rfl⟩ := Int.eq_ofNat_of_zero_le l0
    rw [Int.toNat_natCast]
    go_enter Try.func28, Try.ntmps28
    go_wp2
    clear hr hs hw hfl
    generalize w.alloc (.cells #[.int .i64 a, .slice Aw ws.length cw] 27) = W0 at *
    go_loopw [9, 10, 11] (fun be pk st wr => ∃ (k : Nat) (b p : Int), k ≤ L + 1 ∧ st = .int .i64 k ∧ be = .int .i64 b ∧ pk = .int .i64 p ∧ -1 ≤ b ∧ b ≤ 52 ∧ -1 ≤ p ∧ p ≤ 600000 ∧ Hid (bestR (tryZ (vals fs) ss (a, ws)) (L + 1) 0 (-1) 0 = bestR (tryZ (vals fs) ss (a, ws)) (L + 1 - k) k b p) ∧ Below W0.heap.size W0 wr ∧ Below w.heap.size w wr) (fun _ _ st _ => L + 1 - (intOf st).toNat)
    case atStart => exact ⟨0, -1, 0, Nat.zero_le _, rfl, rfl, rfl, by omega, by omega, by omega, by omega, rfl, Below.refl _ _, H⟩
    case round =>
      clear H
      obtain ⟨k, b, p, hk, rfl, rfl, rfl, b0, b1, q0, q1, hq, H1, H⟩ := hrel
      by_cases hlt : k < L + 1
      · have hkI : (k : Int) ≤ (L : Int) := by omega
        have hk52 : (L : Int) ≤ 52 := l1
        have hq2 : Hid (bestR (tryZ (vals fs) ss (a, ws)) (L + 1) 0 (-1) 0 = bestR (tryZ (vals fs) ss (a, ws)) ((L + 1 - (k + 1)) + 1) k b p) := by rw [hq.out, show L + 1 - k = (L + 1 - (k + 1)) + 1 by omega]; exact Lib.hid rfl
        obtain ⟨v, hv⟩ : ∃ v, tryZ (vals fs) ss (a, ws) k = v := ⟨_, rfl⟩
        have hTb := Lib.hid (peakZ_b (vals fs ++ [(a, ws)]) (ss ++ [(k : Int)]))
        have hT := Lib.hid (show peakZ (vals fs ++ [(a, ws)]) (ss ++ [(k : Int)]) = v from hv)
        rw [hT.out] at hTb
        obtain ⟨T0, T1⟩ := hTb.out
        replace hv := Lib.hid hv
        have hrr := Lib.hid (hr2.out.step H1)
        have hww := Lib.hid (hw2.out.step H1)
        have hss := Lib.hid (hs2.out.step H1)
        obtain ⟨p0, p1, -, -, pL⟩ := (P.next H1).two
        clear hq hTb
        go_wp2
        refine wp_region_facts wr.heap.size 999 (sFacts wr.heap.size A c fs A' c' ss a Aw cw ws k v) sDead (XB wr.heap.size a ws fs) (by kernel_rfl) (by kernel_rfl) (fun _ h => by cases h) ?_ ?_
        · refine ⟨?_, ?_, ?_, ?_, ?_, ?_, ?_, ?_, ?_, ?_, ?_, ?_, ?_, ?_, ?_, trivial⟩
          · intro d vs w1 hI hcl hk hd
            have hX := hI.2.2.2
            have hO := hI.old hI.no
            simp only [putAll, Act.put, List.setIfInBounds_toArray, List.set_cons_succ, List.set_cons_zero]
            go_wp2
            have b2 := (Below.refl w1.heap.size w1).alloc (Nat.le_refl _) (.cells #[] 27)
            exact ⟨.slice (some ⟨w1.heap.size, 0, none⟩) 0 0, rfl, hI.put (k := 0) (v := .slice (some ⟨w1.heap.size, 0, none⟩) 0 0) b2 (by omega) ⟨_, rfl, hO.size, Blk.new _ _ _⟩ (hX.put b2 (by omega) (by omega) (by omega) (by omega) (by omega))⟩
          · intro d vs w1 hI hcl hk hd
            have hX := hI.2.2.2
            have hO := hI.old hI.no
            simp only [putAll, Act.put, List.setIfInBounds_toArray, List.set_cons_succ, List.set_cons_zero]
            go_wp2
            exact ⟨.slice A fs.length c, rfl, hI.pure_ (k := 1) (v := .slice A fs.length c) (by omega) rfl (hX.put (Below.refl _ _) (by omega) (by omega) (by omega) (by omega) (by omega))⟩
          · intro d vs w1 hI hcl hk hd
            have hX := hI.2.2.2
            have hO := hI.old hI.no
            have hd0 : d 0 = true ∧ d 1 = true := by simp at hd; exact ⟨hd.1, hd.2⟩
            obtain ⟨g, e0, hg0, B⟩ : (Fact.blk wr.heap.size 27 0 #[]).P (vs 0) w1 := hI.get hd0.1 hk
            have e1 : vs 1 = .slice A fs.length c := hI.get hd0.2 hI.no
            have hv1 : RdV w1 w1.heap.size A (fcells fs) := RdV.step hrr.out.toV hO
            simp only [putAll, Act.put, List.setIfInBounds_toArray, List.set_cons_succ, List.set_cons_zero]
            refine wpList_append_e rowFld _ rfl (.tmp 22) (.tmp 23) rfl wr.heap.size g e0 hg0 B w1.heap.size A fs.length c (fcells fs) (fcells_length fs) e1 hv1 (fcells_one fs) (by omega) hO.size ?_
            intro A2 c2 w2 hown b2 hat
            exact ⟨.slice A2 fs.length c2, rfl, hI.put (k := 2) (v := .slice A2 fs.length c2) b2 (by omega) ⟨A2, c2, rfl, hown⟩ (hX.put b2 (by omega) (by omega) (by omega) (by omega) (by omega))⟩
          · intro d vs w1 hI hcl hk hd
            have hX := hI.2.2.2
            have hO := hI.old hI.no
            obtain ⟨r0, r1⟩ : w1.cell? ⟨w.heap.size, 0, none⟩ = some (.int .i64 a) ∧ w1.cell? ⟨w.heap.size, 1, none⟩ = some (.slice Aw ws.length cw) := ⟨cell_next hO p0, cell_next hO p1⟩
            simp only [putAll, Act.put, List.setIfInBounds_toArray, List.set_cons_succ, List.set_cons_zero]
            go_wp2
            exact ⟨.agg #[.int .i64 a, .slice Aw ws.length cw], rfl, hI.pure_ (k := 3) (v := .agg #[.int .i64 a, .slice Aw ws.length cw]) (by omega) rfl (hX.put (Below.refl _ _) (by omega) (by omega) (by omega) (by omega) (by omega))⟩
          · intro d vs w1 hI hcl hk hd
            have hX := hI.2.2.2
            have hO := hI.old hI.no
            have hd0 : d 3 = true ∧ d 2 = true := by simp at hd; exact hd
            have e3 : vs 3 = .agg #[.int .i64 a, .slice Aw ws.length cw] := hI.get hd0.1 hI.no
            have hw1 : RdI w1 w1.heap.size Aw ws := hww.out.step hO
            have hd9 : d 9 = false := by
              cases h : d 9
              · rfl
              · have := hcl 9 _ rfl h; simp at this; have h6 := hcl 6 _ rfl this.2.2; simp at h6; rw [hk] at h6; simp at h6
            have hd6 : d 6 = false := by
              cases h : d 6
              · rfl
              · have h6 := hcl 6 _ rfl h; simp at h6; rw [hk] at h6; simp at h6
            simp only [putAll, Act.put, List.setIfInBounds_toArray, List.set_cons_succ, List.set_cons_zero]
            go_wp2_with fail
            refine (copy_c a Aw cw ws w1 hw1 hwl).mono ?_
            rintro e w2 ⟨A4, c4, rfl, o4, b2⟩
            go_wp2
            refine ⟨.agg #[.int .i64 a, .slice A4 ws.length c4], by simp only [e3]; rfl, hI.put (k := 4) (v := .agg #[.int .i64 a, .slice A4 ws.length c4]) b2 (by omega) trivial (fun _ => ⟨A4, c4, rfl, OwnV.more o4 hO.size, fun h5 => ?_, fun h6 => ?_, fun h7 h9 => ?_, fun h9 => ?_⟩)⟩
            · have := hcl 5 _ rfl h5; simp at this; rw [hk] at this; cases this
            · rw [show upd d 4 true 6 = d 6 from rfl, hd6] at h6; cases h6
            · obtain ⟨g, e7, hg7, B7⟩ : (Fact.blk wr.heap.size 3 0 #[]).P (vs 7) w1 := hI.get h7 hd9
              intro g' hg'
              have := OwnI.row_ge o4 g' (by rw [hg']; rfl)
              have hl := B7.lt
              show (vs 7).ownBlock ≠ some g'
              rw [e7]
              intro e; simp only [Value.ownBlock] at e; injection e with e; omega
            · rw [show upd d 4 true 9 = d 9 from rfl, hd9] at h9; cases h9
          · intro d vs w1 hI hcl hk hd
            have hX := hI.2.2.2
            have hO := hI.old hI.no
            have hd4 : d 4 = true := by simpa using hd
            obtain ⟨A4, c4, e4, o4, f5, f6, f7, f9⟩ := hX hd4
            have hd6 : d 6 = false := by
              cases h : d 6
              · rfl
              · have h6 := hcl 6 _ rfl h; simp at h6; rw [hk] at h6; simp at h6
            simp only [putAll, Act.put, List.setIfInBounds_toArray, List.set_cons_succ, List.set_cons_zero]
            go_wp2
            have b2 := (Below.refl w1.heap.size w1).alloc (Nat.le_refl _) (.cells #[.int .i64 a, .slice A4 ws.length c4] 27)
            refine ⟨.slice (some ⟨w1.heap.size, 0, none⟩) 1 1, by simp only [e4]; rfl, hI.put (k := 5) (v := .slice (some ⟨w1.heap.size, 0, none⟩) 1 1) b2 (by omega) trivial (fun _ => ⟨A4, c4, e4, o4.next b2, fun _ _ => ⟨_, rfl, hO.size, Blk.new _ _ _⟩, fun h6 => ?_, f7, f9⟩)⟩
            rw [show upd d 5 true 6 = d 6 from rfl, hd6] at h6; cases h6
          · intro d vs w1 hI hcl hk hd
            have hX := hI.2.2.2
            have hO := hI.old hI.no
            have hd0 : d 2 = true ∧ d 5 = true ∧ d 4 = true := by simp at hd; exact hd
            obtain ⟨A4, c4, e4, o4, f5, f6, f7, f9⟩ := hX hd0.2.2
            obtain ⟨A2, c2, e2, o2⟩ : (Fact.own wr.heap.size 27 2 fs.length (fcells fs)).P (vs 2) w1 := hI.get hd0.1 hk
            obtain ⟨g5, e5, hg5, B5⟩ := f5 hd0.2.1 hk
            have hd9 : d 9 = false := by
              cases h : d 9
              · rfl
              · have := hcl 9 _ rfl h; simp at this; rw [hk] at this; simp at this
            simp only [putAll, Act.put, List.setIfInBounds_toArray, List.set_cons_succ, List.set_cons_zero]
            refine wpList_append_v rowFld _ rfl (.tmp 24) (.tmp 27) rfl wr.heap.size A2 fs.length c2 (fcells fs) e2 o2 w1.heap.size (some ⟨g5, 0, none⟩) 1 1 [Value.int .i64 a, Value.slice A4 ws.length c4] rfl e5 (RdV.of_blk B5) (by intro u hu; simp at hu; rcases hu with rfl | rfl <;> rfl) (by omega) hO.size ?_
            intro A6 c6 w2 o6 hg hat
            have hother : ∀ g e' cs, Blk w1 g e' cs → e' ≠ 27 → Blk w2 g e' cs := fun g e' cs B hne => B.grown hg (fun e => o2.not_row B hne e.symm)
            refine ⟨.slice A6 (fs.length + 1) c6, rfl, hI.row (k := 6) (v := .slice A6 (fs.length + 1) c6) hg o2.row_ge (by omega) trivial (fun j hj hjk hdk hal hP => ?_) (fun _ => ⟨A4, c4, e4, o4.kept hg (fun g hg' e => o4.apart o2 (by decide) g hg' e), fun _ h6 => absurd h6 (by simp [upd]), fun _ => ⟨A6, c6, rfl, o6⟩, f7, f9⟩)⟩
            match j, hjk, hdk, hP with
            | 0, _, _, _ => exact absurd hal (by simp [sDead, hd0.1])
            | 1, _, _, _ => exact .inl rfl
            | 2, _, h, _ => exact absurd rfl h
            | 3, _, _, _ => exact .inl rfl
            | 4, _, _, _ => exact .inl rfl
            | 5, _, _, _ => exact .inl rfl
            | 6, h, _, _ => exact absurd rfl h
            | 7, _, _, hP => obtain ⟨g, e, h1, B⟩ := hP; exact .inr ⟨g, e, h1, hother _ _ _ B (by decide)⟩
            | 8, _, _, _ => exact .inl rfl
            | 9, _, _, _ => rw [hd9] at hj; cases hj
            | 10, _, _, _ => exact .inl rfl
            | 11, _, _, hP => obtain ⟨g, e, h1, B⟩ := hP; exact .inr ⟨g, e, h1, hother _ _ _ B (by decide)⟩
            | 12, _, _, _ => have := hcl 12 _ rfl hj; simp at this; rw [hd9] at this; simp at this
            | 13, _, _, _ => exact .inl rfl
            | 14, _, _, _ => exact .inl rfl
            | n + 15, _, _, _ => exact .inl rfl
          · intro d vs w1 hI hcl hk hd
            have hX := hI.2.2.2
            have hO := hI.old hI.no
            have hd9 : d 9 = false := by
              cases h : d 9
              · rfl
              · have := hcl 9 _ rfl h; simp at this; rw [hk] at this; simp at this
            simp only [putAll, Act.put, List.setIfInBounds_toArray, List.set_cons_succ, List.set_cons_zero]
            go_wp2
            have b2 := (Below.refl w1.heap.size w1).alloc (Nat.le_refl _) (.cells #[] 3)
            refine ⟨.slice (some ⟨w1.heap.size, 0, none⟩) 0 0, rfl, hI.put (k := 7) (v := .slice (some ⟨w1.heap.size, 0, none⟩) 0 0) b2 (by omega) ⟨_, rfl, hO.size, Blk.new _ _ _⟩ (fun h4 => ?_)⟩
            obtain ⟨A4, c4, e4, o4, f5, f6, f7, f9⟩ := hX h4
            refine ⟨A4, c4, e4, o4.next b2, fun h5 h6 => ?_, fun h6 => ?_, fun _ _ => ?_, fun h9 => ?_⟩
            · obtain ⟨g, e, hg, B⟩ := f5 h5 h6; exact ⟨g, e, hg, B.next b2⟩
            · obtain ⟨A6, c6, e, o6⟩ := f6 h6; exact ⟨A6, c6, e, o6.next b2⟩
            · intro g hg e
              have := (World.ownsRow.lt o4 g (by rw [hg]; rfl)).2
              simp only [upd_same, Value.ownBlock] at e; injection e with e; omega
            · rw [show upd d 7 true 9 = d 9 from rfl, hd9] at h9; cases h9
          · intro d vs w1 hI hcl hk hd
            have hX := hI.2.2.2
            have hO := hI.old hI.no
            simp only [putAll, Act.put, List.setIfInBounds_toArray, List.set_cons_succ, List.set_cons_zero]
            go_wp2
            exact ⟨.slice A' ss.length c', rfl, hI.pure_ (k := 8) (v := .slice A' ss.length c') (by omega) rfl (hX.put (Below.refl _ _) (by omega) (by omega) (by omega) (by omega) (by omega))⟩
          · intro d vs w1 hI hcl hk hd
            have hX := hI.2.2.2
            have hO := hI.old hI.no
            have hd0 : d 7 = true ∧ d 8 = true ∧ d 6 = true := by simp at hd; exact hd
            obtain ⟨g7, e7, hg7, B7⟩ : (Fact.blk wr.heap.size 3 0 #[]).P (vs 7) w1 := hI.get hd0.1 hk
            have e8 : vs 8 = .slice A' ss.length c' := hI.get hd0.2.1 hI.no
            have hv1 : RdV w1 w1.heap.size A' (ints ss) := RdV.step hss.out.toV hO
            simp only [putAll, Act.put, List.setIfInBounds_toArray, List.set_cons_succ, List.set_cons_zero]
            refine wpList_append_e rowInt _ rfl (.tmp 29) (.tmp 30) rfl wr.heap.size g7 e7 hg7 B7 w1.heap.size A' ss.length c' (ints ss) (by simp) e8 hv1 (ints_one ss) (by omega) hO.size ?_
            intro A9 c9 w2 o9 b2 hat
            refine ⟨.slice A9 ss.length c9, rfl, hI.put (k := 9) (v := .slice A9 ss.length c9) b2 (by omega) ⟨A9, c9, rfl, o9⟩ (fun h4 => ?_)⟩
            obtain ⟨A4, c4, e4, o4, f5, f6, f7, f9⟩ := hX h4
            refine ⟨A4, c4, e4, o4.next b2, fun h5 h6 => ?_, fun h6 => ?_, fun _ h9 => absurd h9 (by simp [upd]), fun _ _ => ?_⟩
            · obtain ⟨g, e, hg, B⟩ := f5 h5 h6; exact ⟨g, e, hg, B.next b2⟩
            · obtain ⟨A6, c6, e, o6⟩ := f6 h6; exact ⟨A6, c6, e, o6.next b2⟩
            · intro g hg e
              have h1 := (World.ownsRow.lt o4 g (by rw [hg]; rfl)).2
              have h2 := f7 hd0.1 hk g hg
              rw [e7] at h2
              simp only [upd_same] at e
              rcases hat with h | h
              · rw [h] at e; exact h2 e
              · rw [h] at e; simp only [Value.ownBlock] at e; injection e with e; omega
          · intro d vs w1 hI hcl hk hd
            have hX := hI.2.2.2
            have hO := hI.old hI.no
            simp only [putAll, Act.put, List.setIfInBounds_toArray, List.set_cons_succ, List.set_cons_zero]
            go_wp2
            exact ⟨.int .i64 k, rfl, hI.pure_ (k := 10) (v := .int .i64 k) (by omega) rfl (hX.put (Below.refl _ _) (by omega) (by omega) (by omega) (by omega) (by omega))⟩
          · intro d vs w1 hI hcl hk hd
            have hX := hI.2.2.2
            have hO := hI.old hI.no
            have hd0 : d 10 = true := by simpa using hd
            have e10 : vs 10 = .int .i64 k := hI.get hd0 hI.no
            simp only [putAll, Act.put, List.setIfInBounds_toArray, List.set_cons_succ, List.set_cons_zero]
            go_wp2
            have b2 := (Below.refl w1.heap.size w1).alloc (Nat.le_refl _) (.cells #[.int .i64 (k : Int)] 3)
            exact ⟨.slice (some ⟨w1.heap.size, 0, none⟩) 1 1, by simp only [e10]; rfl, hI.put (k := 11) (v := .slice (some ⟨w1.heap.size, 0, none⟩) 1 1) b2 (by omega) ⟨_, rfl, hO.size, Blk.new _ _ _⟩ (hX.put b2 (by omega) (by omega) (by omega) (by omega) (by omega))⟩
          · intro d vs w1 hI hcl hk hd
            have hX := hI.2.2.2
            have hO := hI.old hI.no
            have hd0 : d 9 = true ∧ d 11 = true := by simp at hd; exact ⟨hd.1, hd.2.1⟩
            obtain ⟨A9, c9, e9, o9⟩ : (Fact.own wr.heap.size 3 1 ss.length (ints ss)).P (vs 9) w1 := hI.get hd0.1 hk
            obtain ⟨g11, e11, hg11, B11⟩ : (Fact.blk wr.heap.size 3 1 #[.int .i64 (k : Int)]).P (vs 11) w1 := hI.get hd0.2 hk
            have h6 : d 6 = true := by have := hcl 9 _ rfl hd0.1; simp at this; exact this.2.2
            have h4 : d 4 = true := by have := hcl 6 _ rfl h6; simp at this; exact this.2.2
            obtain ⟨A4, c4, e4, o4, f5, f6, f7, f9⟩ := hX h4
            obtain ⟨A6, c6, e6, o6⟩ := f6 h6
            simp only [putAll, Act.put, List.setIfInBounds_toArray, List.set_cons_succ, List.set_cons_zero]
            refine wpList_append_v rowInt _ rfl (.tmp 31) (.tmp 33) rfl wr.heap.size A9 ss.length c9 (ints ss) e9 o9 w1.heap.size (some ⟨g11, 0, none⟩) 1 1 (ints [(k : Int)]) rfl e11 (RdV.of_blk B11) (ints_one _) (by omega) hO.size ?_
            intro A12 c12 w2 o12 hg hat
            rw [← ints_append] at o12
            have hsep := f9 hd0.1 hk
            rw [e9] at hsep
            refine ⟨.slice A12 (ss.length + 1) c12, rfl, hI.row (k := 12) (v := .slice A12 (ss.length + 1) c12) hg o9.row_ge (by omega) ⟨A12, c12, rfl, o12⟩ (fun j hj hjk hdk hal hP => ?_) (fun _ => ⟨A4, c4, e4, o4.kept hg hsep, fun _ h => ?_, fun _ => ⟨A6, c6, e6, o6.kept hg (fun g hg' e => o6.apart o9 (by decide) g hg' e)⟩, fun _ h => ?_, fun _ h => absurd h (by simp [upd])⟩)⟩
            · match j, hjk, hdk, hP with
              | 0, _, _, _ => exact absurd hal (by have := hcl 6 _ rfl h6; simp at this; simp [sDead, this.1])
              | 1, _, _, _ => exact .inl rfl
              | 2, _, _, _ => exact absurd hal (by simp [sDead, h6])
              | 3, _, _, _ => exact .inl rfl
              | 4, _, _, _ => exact .inl rfl
              | 5, _, _, _ => exact .inl rfl
              | 6, _, _, _ => exact .inl rfl
              | 7, _, _, _ => exact absurd hal (by simp [sDead, hd0.1])
              | 8, _, _, _ => exact .inl rfl
              | 9, _, h, _ => exact absurd rfl h
              | 10, _, _, _ => exact .inl rfl
              | 11, _, h, _ => exact absurd rfl h
              | 12, h, _, _ => exact absurd rfl h
              | 13, _, _, _ => exact .inl rfl
              | 14, _, _, _ => exact .inl rfl
              | n + 15, _, _, _ => exact .inl rfl
            · rw [show upd d 12 true 6 = d 6 from rfl, h6] at h; cases h
            · rw [show upd d 12 true 9 = d 9 from rfl, hd0.1] at h; cases h
          · intro d vs w1 hI hcl hk hd
            have hX := hI.2.2.2
            have hO := hI.old hI.no
            have hd0 : d 6 = true ∧ d 12 = true := by simp at hd; exact hd
            obtain ⟨A12, c12, e12, o12⟩ : (Fact.own wr.heap.size 3 1 (ss.length + 1) (ints (ss ++ [(k : Int)]))).P (vs 12) w1 := hI.get hd0.2 hk
            have h4 : d 4 = true := by have := hcl 6 _ rfl hd0.1; simp at this; exact this.2.2
            obtain ⟨A4, c4, e4, o4, f5, f6, f7, f9⟩ := hX h4
            obtain ⟨A6, c6, e6, o6⟩ := f6 hd0.1
            have hin : RdIn w1 w1.heap.size (fs ++ [⟨a, A4, c4, ws⟩]) := by
              intro f hf
              rcases List.mem_append.1 hf with hf | hf
              · exact (hrr.out.2 f hf).step hO
              · rw [List.mem_singleton] at hf; subst hf; exact OwnI.rd o4
            have hRF : RdF w1 w1.heap.size A6 (fs ++ [⟨a, A4, c4, ws⟩]) := RdF.ofV (by rw [field_toV]; exact o6.rd) hin
            have hRI : RdI w1 w1.heap.size A12 (ss ++ [(k : Int)]) := OwnI.rd (c := c12) (base := wr.heap.size) (by unfold OwnI; rw [show (ss ++ [(k : Int)]).length = ss.length + 1 by simp]; exact o12)
            have hcall := Lib.hid (sPeak_c A6 c6 (fs ++ [⟨a, A4, c4, ws⟩]) A12 c12 (ss ++ [(k : Int)]) w1 hRF (by simp; omega) (by
              intro f hf
              rcases List.mem_append.1 hf with hf | hf
              · exact hfl'.out f hf
              · rw [List.mem_singleton] at hf; subst hf; exact hwl) hRI (by simp; omega))
            rw [show (fs ++ [(⟨a, A4, c4, ws⟩ : Fd)]).length = fs.length + 1 by simp, show (ss ++ [(k : Int)]).length = ss.length + 1 by simp, show vals (fs ++ [(⟨a, A4, c4, ws⟩ : Fd)]) = vals fs ++ [(a, ws)] by simp [vals, Fd.val], hT.out] at hcall
            clear hRF hRI hin
            simp only [putAll, Act.put, List.setIfInBounds_toArray, List.set_cons_succ, List.set_cons_zero]
            go_wp2_with fail
            refine hcall.out.mono ?_
            rintro e w2 ⟨rfl, b2⟩
            go_wp2
            exact ⟨.int .i64 v, by simp only [e4, e6, e12]; rfl, hI.put (k := 13) (v := .int .i64 v) b2 (by omega) rfl (hX.put b2 (by omega) (by omega) (by omega) (by omega) (by omega))⟩
          · intro d vs w1 hI hcl hk hd
            have hX := hI.2.2.2
            have hO := hI.old hI.no
            have hd0 : d 13 = true := by simp at hd; exact hd.1
            have e13 : vs 13 = .int .i64 v := hI.get hd0 hI.no
            simp only [putAll, Act.put, List.setIfInBounds_toArray, List.set_cons_succ, List.set_cons_zero]
            go_wp2
            exact ⟨.int .i64 v, by simp only [e13]; rfl, hI.pure_ (k := 14) (v := .int .i64 v) (by omega) rfl (hX.put (Below.refl _ _) (by omega) (by omega) (by omega) (by omega) (by omega))⟩
        · intro d vs w1 hI hd
          have e14 : vs 14 = .int .i64 v := hI.get (hd 14 (by decide)) hI.no
          have b2 := hI.old hI.no
          replace H1 := chain H1 b2 (Nat.le_refl _)
          replace H := chain H b2 (Nat.le_refl _)
          simp only [putAll, Act.put, List.setIfInBounds_toArray, List.set_cons_succ, List.set_cons_zero, e14]
          clear hI e14 hd b2 hrr hww hss p0 p1 pL
          generalize vs 0 = z0
          generalize vs 1 = z1
          generalize vs 2 = z2
          generalize vs 3 = z3
          generalize vs 4 = z4
          generalize vs 5 = z5
          generalize vs 6 = z6
          generalize vs 7 = z7
          generalize vs 8 = z8
          generalize vs 9 = z9
          generalize vs 10 = z10
          generalize vs 11 = z11
          generalize vs 12 = z12
          generalize vs 13 = z13
          by_cases hneg : v < 0
          · have hfin := Lib.hid (show bestR (tryZ (vals fs) ss (a, ws)) (L + 1) 0 (-1) 0 = -1 by rw [hq2.out]; exact bestR_no (by rw [hv.out]; exact hneg))
            clear hq2
            go_wp2
            go_ret
            exact ⟨by rw [hfin.out]; rfl, H⟩
          · by_cases hb : b < 0
            · have hnx := Lib.hid (show bestR (tryZ (vals fs) ss (a, ws)) (L + 1) 0 (-1) 0 = bestR (tryZ (vals fs) ss (a, ws)) (L + 1 - (k + 1)) ((k : Int) + 1) k v by rw [hq2.out]; exact bestR_new hv.out hneg (.inl hb))
              clear hq2
              go_wp2
              go_roundw
              case rel => exact ⟨k + 1, k, v, by omega, by go_num, rfl, rfl, by omega, by omega, by omega, by omega, by have := hnx.out; exact Lib.hid (by rw [this]; congr 1), H1, H⟩
              case measure => simp [intOf]; omega
            · by_cases hp : v < p
              · have hnx := Lib.hid (show bestR (tryZ (vals fs) ss (a, ws)) (L + 1) 0 (-1) 0 = bestR (tryZ (vals fs) ss (a, ws)) (L + 1 - (k + 1)) ((k : Int) + 1) k v by rw [hq2.out]; exact bestR_new hv.out hneg (.inr hp))
                clear hq2
                go_wp2
                go_roundw
                case rel => exact ⟨k + 1, k, v, by omega, by go_num, rfl, rfl, by omega, by omega, by omega, by omega, by have := hnx.out; exact Lib.hid (by rw [this]; congr 1), H1, H⟩
                case measure => simp [intOf]; omega
              · have hnx := Lib.hid (show bestR (tryZ (vals fs) ss (a, ws)) (L + 1) 0 (-1) 0 = bestR (tryZ (vals fs) ss (a, ws)) (L + 1 - (k + 1)) ((k : Int) + 1) b p by rw [hq2.out]; exact bestR_keep hv.out hneg hb hp)
                clear hq2
                go_wp2
                go_roundw
                case rel => exact ⟨k + 1, b, p, by omega, by go_num, rfl, rfl, b0, b1, q0, q1, by have := hnx.out; exact Lib.hid (by rw [this]; congr 1), H1, H⟩
                case measure => simp [intOf]; omega
      · have hkI : ¬ (k : Int) ≤ (L : Int) := by omega
        have hk52 : (L : Int) ≤ 52 := l1
        have hf := Lib.hid (show bestR (tryZ (vals fs) ss (a, ws)) (L + 1) 0 (-1) 0 = b by rw [hq.out, show L + 1 - k = 0 by omega]; rfl)
        clear hq
        go_wp2
        go_ret
        exact ⟨by rw [hf.out]; rfl, H⟩
end Go.Proofs.Ytkbgifnmcklmiaa
