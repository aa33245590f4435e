/- Contracts of the functions on cisterns and stores. -/
import Derived.Test.YtgbmfcacabckpaaMem2
namespace Go.Proofs.Ytgbmfcacabckpaa
open Go.ChangeShapes Go.WideShapes Go.ChangeAt Go.RowKit
set_option linter.unusedVariables false

/-- A store that came in: three numbers. -/
theorem open_store {H : Type} {enc : TypeId × Value → H} {w : World} {base : Nat} {spare : Nat → Bool} {held : Bool} {r : Reach} {b0 : Nat} {v : Value} {d : DataW H} {p : List MemPlace}
    (hv : Value.okWide Try.prog w r b0 25 v) (h : DataW.Trod enc Try.prog w base spare held 25 v d p) :
    ∃ x y z : Int, v = .agg #[.int .i64 x, .int .i64 y, .int .i64 z] ∧ (Lit.int .i64 x).wf = true ∧ (Lit.int .i64 y).wf = true ∧ (Lit.int .i64 z).wf = true := by
  obtain ⟨cs, rfl, hsz⟩ := okWide_struct Try.underlying25 hv
  have h3 : Try.prog.cellsOf 25 = 3 := by kernel_rfl
  have h2 : Try.prog.cellsOf 23 = 2 := by kernel_rfl
  have h1 : Try.prog.cellsOf 3 = 1 := by kernel_rfl
  obtain ⟨c0, c1, c2, rfl⟩ := Joins.array3 (hsz.trans h3)
  obtain ⟨fuel, hf⟩ := h
  obtain ⟨xs, n, _, _, _, hlen, hg⟩ := DataW.trod_struct Try.underlying25 hf
  match xs, hlen with
  | [x0, x1], _ =>
    have g0 := hg 0 _ rfl
    have g1 := hg 1 _ rfl
    simp [Value.cells, h2] at g0
    simp [Value.cells, h1] at g1
    obtain ⟨ys, m, _, _, _, hlen', hg'⟩ := DataW.trod_struct Try.underlying23 g0
    match ys, hlen' with
    | [y0, y1], _ =>
      have f0 := hg' 0 _ rfl
      have f1 := hg' 1 _ rfl
      simp [h1] at f0 f1
      obtain ⟨a, ea, _, wa⟩ := DataW.trod_int Try.underlying3 f0
      obtain ⟨a', ea', _, wa'⟩ := DataW.trod_int Try.underlying3 f1
      obtain ⟨a'', ea'', _, wa''⟩ := DataW.trod_int Try.underlying3 g1
      simp only [List.cons.injEq, and_true] at ea ea' ea''
      subst ea ea' ea''
      exact ⟨a, a', a'', rfl, wa, wa', wa''⟩

def cisB (r l : Int) : Bool := inB r 1 1000000 && inB l 0 r
theorem cisB_iff (r l : Int) : cisB r l = true ↔ (1 ≤ r ∧ r ≤ 1000000) ∧ 0 ≤ l ∧ l ≤ r := by simp [cisB, inB_iff]
def stoB (r l v : Int) : Bool := cisB r l && inB v 0 r
theorem stoB_iff (r l v : Int) : stoB r l v = true ↔ ((1 ≤ r ∧ r ≤ 1000000) ∧ 0 ≤ l ∧ l ≤ r) ∧ 0 ≤ v ∧ v ≤ r := by simp [stoB, cisB_iff, inB_iff]

theorem l04Water_c (n : Int) (w : World) : Calls Try.prog 22 #[.int .i64 n] w fun e w' => e = .returned (.bool (inB n 0 1000000)) ∧ w = w' := by
  go_enter Try.func22, Try.ntmps22
  go_wp2_with (go_at_call 18; refine (l01In_c _ _ _ _).mono ?_; rintro e w' ⟨rfl, rfl⟩)
  go_ret
  exact ⟨rfl, rfl⟩

theorem sCisternOk_c (r l : Int) (w : World) : Calls Try.prog 17 #[.agg #[.int .i64 r, .int .i64 l]] w fun e w' => e = .returned (.bool (cisB r l)) ∧ Below w.heap.size w w' := by
  unfold cisB
  cases h1 : inB r 1 1000000
  all_goals
    go_enter Try.func17, Try.ntmps17
    go_wp2_with (go_at_call 18; refine (l01In_c _ _ _ _).mono ?_; rintro e w' ⟨rfl, rfl⟩)
    go_ret
    exact ⟨by simp, (by go_grown)⟩

theorem iCisternOk_c (r l : Int) (w : World) : Calls Try.prog 20 #[.agg #[.int .i64 r, .int .i64 l]] w fun e w' => e = .returned (.bool (cisB r l)) ∧ Below w.heap.size w w' := by
  unfold cisB
  cases h1 : inB r 1 1000000
  all_goals
    go_enter Try.func20, Try.ntmps20
    go_wp2_with (go_at_call 21; refine (within_c _ _ _ _).mono ?_; rintro e w' ⟨rfl, rfl⟩)
    go_ret
    exact ⟨by simp, (by go_grown)⟩

theorem sStoreOk_c (r l v : Int) (w : World) : Calls Try.prog 7 #[.agg #[.int .i64 r, .int .i64 l, .int .i64 v]] w fun e w' => e = .returned (.bool (stoB r l v)) ∧ Below w.heap.size w w' := by
  unfold stoB
  have P : Blk (w.alloc (.cells #[.int .i64 r, .int .i64 l, .int .i64 v] 29)) w.heap.size 29 #[.int .i64 r, .int .i64 l, .int .i64 v] := Blk.new _ _ _
  have H : Below w.heap.size w (w.alloc (.cells #[.int .i64 r, .int .i64 l, .int .i64 v] 29)) := (Below.refl _ _).alloc (Nat.le_refl _) _
  cases h1 : cisB r l
  all_goals
    go_enter Try.func7, Try.ntmps7
    go_wp2_with fail
    refine (sCisternOk_c _ _ _).mono ?_
    rintro e w1 ⟨rfl, b⟩
    replace P := P.next b
    replace H := chain H b (Nat.le_refl _)
    clear b
    try clear a0 a1 a2 aL
    obtain ⟨a0, a1, a2, -, -, -, aL⟩ := P.three
    go_wp2_with (go_at_call 18; refine (l01In_c _ _ _ _).mono ?_; rintro e w' ⟨rfl, rfl⟩)
    go_ret
    exact ⟨by simp, H⟩

theorem iStoreOk_c (r l v : Int) (w : World) : Calls Try.prog 9 #[.agg #[.int .i64 r, .int .i64 l, .int .i64 v]] w fun e w' => e = .returned (.bool (stoB r l v)) ∧ Below w.heap.size w w' := by
  unfold stoB
  have P : Blk (w.alloc (.cells #[.int .i64 r, .int .i64 l, .int .i64 v] 29)) w.heap.size 29 #[.int .i64 r, .int .i64 l, .int .i64 v] := Blk.new _ _ _
  have H : Below w.heap.size w (w.alloc (.cells #[.int .i64 r, .int .i64 l, .int .i64 v] 29)) := (Below.refl _ _).alloc (Nat.le_refl _) _
  cases h1 : cisB r l
  all_goals
    go_enter Try.func9, Try.ntmps9
    go_wp2_with fail
    refine (iCisternOk_c _ _ _).mono ?_
    rintro e w1 ⟨rfl, b⟩
    replace P := P.next b
    replace H := chain H b (Nat.le_refl _)
    clear b
    try clear a0 a1 a2 aL
    obtain ⟨a0, a1, a2, -, -, -, aL⟩ := P.three
    go_wp2_with (go_at_call 21; refine (within_c _ _ _ _).mono ?_; rintro e w' ⟨rfl, rfl⟩)
    go_ret
    exact ⟨by simp, H⟩

theorem toCistern_c (r l : Int) (w : World) : Calls Try.prog 19 #[.agg #[.int .i64 r, .int .i64 l]] w fun e w' => e = .returned (.agg #[.int .i64 r, .int .i64 l]) ∧ Below w.heap.size w w' := by
  go_enter Try.func19, Try.ntmps19
  go_wp2
  go_returns
  exact ⟨rfl, (by go_grown)⟩

theorem toStore_c (r l v : Int) (w : World) : Calls Try.prog 8 #[.agg #[.int .i64 r, .int .i64 l, .int .i64 v]] w fun e w' => e = .returned (.agg #[.int .i64 r, .int .i64 l, .int .i64 v]) ∧ Below w.heap.size w w' := by
  have P := ((Blk.new w 25 #[.int .i64 r, .int .i64 l, .int .i64 v]).alloc (.cells #[.int .i64 0, .int .i64 0, .int .i64 0] 29)).alloc (.cells #[.int .i64 0, .int .i64 0, .int .i64 0] 29)
  have Q := (Blk.new (w.alloc (.cells #[.int .i64 r, .int .i64 l, .int .i64 v] 25)) 29 #[.int .i64 0, .int .i64 0, .int .i64 0]).alloc (.cells #[.int .i64 0, .int .i64 0, .int .i64 0] 29)
  simp only [World.size_alloc] at Q
  have U := Blk.new ((w.alloc (.cells #[.int .i64 r, .int .i64 l, .int .i64 v] 25)).alloc (.cells #[.int .i64 0, .int .i64 0, .int .i64 0] 29)) 29 #[.int .i64 0, .int .i64 0, .int .i64 0]
  simp only [World.size_alloc] at U
  have H : Below w.heap.size w (((w.alloc (.cells #[.int .i64 r, .int .i64 l, .int .i64 v] 25)).alloc (.cells #[.int .i64 0, .int .i64 0, .int .i64 0] 29)).alloc (.cells #[.int .i64 0, .int .i64 0, .int .i64 0] 29)) := ((((Below.refl w.heap.size w).alloc (by first | exact Nat.le_refl _ | (simp only [World.size_alloc]; omega)) (.cells #[.int .i64 r, .int .i64 l, .int .i64 v] 25)).alloc (by first | exact Nat.le_refl _ | (simp only [World.size_alloc]; omega)) (.cells #[.int .i64 0, .int .i64 0, .int .i64 0] 29)).alloc (by first | exact Nat.le_refl _ | (simp only [World.size_alloc]; omega)) (.cells #[.int .i64 0, .int .i64 0, .int .i64 0] 29))
  go_enter Try.func8, Try.ntmps8
  go_wp2_with fail
  refine (toCistern_c _ _ _).mono ?_
  rintro e w1 ⟨rfl, b⟩
  replace P := P.next b
  replace Q := Q.next b
  replace U := U.next b
  replace H := chain H b (Nat.le_refl _)
  clear b
  try clear p0 p1 p2 pL
  obtain ⟨p0, p1, p2, -, -, -, pL⟩ := P.three
  try clear q0 q1 q2 qf0 qf1 qf2 qL
  obtain ⟨q0, q1, q2, qf0, qf1, qf2, qL⟩ := Q.three
  try clear u0 u1 u2 uf0 uf1 uf2 uL
  obtain ⟨u0, u1, u2, uf0, uf1, uf2, uL⟩ := U.three
  go_wp2
  refine bodyPost_ret (v := .agg #[.int .i64 r, .int .i64 l, .int .i64 v]) (by simp [results, Try.results8, go_sem, *]) rfl ⟨rfl, (by go_grown)⟩

theorem eqCistern_c (r l r' l' : Int) (w : World) : Calls Try.prog 25 #[.agg #[.int .i64 r, .int .i64 l], .agg #[.int .i64 r', .int .i64 l']] w fun e w' => e = .returned (.bool (r == r' && l == l')) ∧ Below w.heap.size w w' := by
  cases h1 : r == r'
  · have g1 : (r != r') = true := by simp [bne, h1]
    go_enter Try.func25, Try.ntmps25
    go_wp2
    go_ret
    exact ⟨by simp, (by go_grown)⟩
  · have g1 : (r != r') = false := by simp [bne, h1]
    cases h2 : l == l'
    · have g2 : (l != l') = true := by simp [bne, h2]
      go_enter Try.func25, Try.ntmps25
      go_wp2
      go_ret
      exact ⟨by simp, (by go_grown)⟩
    · have g2 : (l != l') = false := by simp [bne, h2]
      go_enter Try.func25, Try.ntmps25
      go_wp2
      go_ret
      exact ⟨by simp, (by go_grown)⟩

/-- Two stores that are alike. -/
theorem eqStore_c (r l v : Int) (w : World) : Calls Try.prog 14 #[.agg #[.int .i64 r, .int .i64 l, .int .i64 v], .agg #[.int .i64 r, .int .i64 l, .int .i64 v]] w fun e w' => e = .returned (.bool true) ∧ Below w.heap.size w w' := by
  have P := (Blk.new w 29 #[.int .i64 r, .int .i64 l, .int .i64 v]).alloc (.cells #[.int .i64 r, .int .i64 l, .int .i64 v] 29)
  have Q := Blk.new (w.alloc (.cells #[.int .i64 r, .int .i64 l, .int .i64 v] 29)) 29 #[.int .i64 r, .int .i64 l, .int .i64 v]
  simp only [World.size_alloc] at Q
  have H : Below w.heap.size w ((w.alloc (.cells #[.int .i64 r, .int .i64 l, .int .i64 v] 29)).alloc (.cells #[.int .i64 r, .int .i64 l, .int .i64 v] 29)) := (((Below.refl w.heap.size w).alloc (by first | exact Nat.le_refl _ | (simp only [World.size_alloc]; omega)) (.cells #[.int .i64 r, .int .i64 l, .int .i64 v] 29)).alloc (by first | exact Nat.le_refl _ | (simp only [World.size_alloc]; omega)) (.cells #[.int .i64 r, .int .i64 l, .int .i64 v] 29))
  have hq : (r == r && l == l) = true := by simp
  have hv : (v != v) = false := by simp
  go_enter Try.func14, Try.ntmps14
  go_wp2_with fail
  refine (eqCistern_c _ _ _ _ _).mono ?_
  rintro e w1 ⟨rfl, b⟩
  replace P := P.next b
  replace Q := Q.next b
  replace H := chain H b (Nat.le_refl _)
  clear b
  try clear p0 p1 p2 pL
  obtain ⟨p0, p1, p2, -, -, -, pL⟩ := P.three
  try clear q0 q1 q2 qL
  obtain ⟨q0, q1, q2, -, -, -, qL⟩ := Q.three
  go_wp2
  go_ret
  exact ⟨rfl, H⟩

def usF (r l v : Int) : Int := if stoB r l v then max 0 (l - v) else -1

theorem sUsable_c (r l v : Int) (w : World) : Calls Try.prog 10 #[.agg #[.int .i64 r, .int .i64 l, .int .i64 v]] w fun e w' => e = .returned (.int .i64 (usF r l v)) ∧ Below w.heap.size w w' := by
  have P := Blk.new w 29 #[.int .i64 r, .int .i64 l, .int .i64 v]
  have H : Below w.heap.size w (w.alloc (.cells #[.int .i64 r, .int .i64 l, .int .i64 v] 29)) := ((Below.refl w.heap.size w).alloc (by first | exact Nat.le_refl _ | (simp only [World.size_alloc]; omega)) (.cells #[.int .i64 r, .int .i64 l, .int .i64 v] 29))
  cases hp : stoB r l v
  · have hf : usF r l v = -1 := by unfold usF; rw [hp]; rfl
    rw [hf]
    clear hf
    go_enter Try.func10, Try.ntmps10
    go_wp2_with fail
    refine (sStoreOk_c _ _ _ _).mono ?_
    rintro e w1 ⟨rfl, b⟩
    replace P := P.next b
    replace H := chain H b (Nat.le_refl _)
    clear b
    try clear p0 p1 p2 pL
    obtain ⟨p0, p1, p2, -, -, -, pL⟩ := P.three
    go_wp2
    go_ret
    exact ⟨rfl, H⟩
  · have hb := (stoB_iff _ _ _).1 hp
    obtain ⟨⟨⟨h1, h2⟩, h3, h4⟩, h5, h6⟩ := hb
    by_cases hlt : v < l
    · have hf : usF r l v = l - v := by unfold usF; rw [hp, if_pos rfl]; omega
      rw [hf]
      clear hf
      go_enter Try.func10, Try.ntmps10
      go_wp2_with fail
      refine (sStoreOk_c _ _ _ _).mono ?_
      rintro e w1 ⟨rfl, b⟩
      replace P := P.next b
      replace H := chain H b (Nat.le_refl _)
      clear b
      try clear p0 p1 p2 pL
      obtain ⟨p0, p1, p2, -, -, -, pL⟩ := P.three
      go_wp2
      go_ret
      exact ⟨rfl, H⟩
    · have hf : usF r l v = 0 := by unfold usF; rw [hp, if_pos rfl]; omega
      rw [hf]
      clear hf
      go_enter Try.func10, Try.ntmps10
      go_wp2_with fail
      refine (sStoreOk_c _ _ _ _).mono ?_
      rintro e w1 ⟨rfl, b⟩
      replace P := P.next b
      replace H := chain H b (Nat.le_refl _)
      clear b
      try clear p0 p1 p2 pL
      obtain ⟨p0, p1, p2, -, -, -, pL⟩ := P.three
      go_wp2
      go_ret
      exact ⟨rfl, H⟩

theorem iUsable_c (r l v : Int) (w : World) : Calls Try.prog 11 #[.agg #[.int .i64 r, .int .i64 l, .int .i64 v]] w fun e w' => e = .returned (.int .i64 (usF r l v)) ∧ Below w.heap.size w w' := by
  have P := Blk.new w 29 #[.int .i64 r, .int .i64 l, .int .i64 v]
  have H : Below w.heap.size w (w.alloc (.cells #[.int .i64 r, .int .i64 l, .int .i64 v] 29)) := ((Below.refl w.heap.size w).alloc (by first | exact Nat.le_refl _ | (simp only [World.size_alloc]; omega)) (.cells #[.int .i64 r, .int .i64 l, .int .i64 v] 29))
  cases hp : stoB r l v
  · have hf : usF r l v = -1 := by unfold usF; rw [hp]; rfl
    rw [hf]
    clear hf
    go_enter Try.func11, Try.ntmps11
    go_wp2_with fail
    refine (iStoreOk_c _ _ _ _).mono ?_
    rintro e w1 ⟨rfl, b⟩
    replace P := P.next b
    replace H := chain H b (Nat.le_refl _)
    clear b
    try clear p0 p1 p2 pL
    obtain ⟨p0, p1, p2, -, -, -, pL⟩ := P.three
    go_wp2
    go_ret
    exact ⟨rfl, H⟩
  · have hb := (stoB_iff _ _ _).1 hp
    obtain ⟨⟨⟨h1, h2⟩, h3, h4⟩, h5, h6⟩ := hb
    by_cases hlt : v < l
    · have hf : usF r l v = l - v := by unfold usF; rw [hp, if_pos rfl]; omega
      rw [hf]
      clear hf
      go_enter Try.func11, Try.ntmps11
      go_wp2_with fail
      refine (iStoreOk_c _ _ _ _).mono ?_
      rintro e w1 ⟨rfl, b⟩
      replace P := P.next b
      replace H := chain H b (Nat.le_refl _)
      clear b
      try clear p0 p1 p2 pL
      obtain ⟨p0, p1, p2, -, -, -, pL⟩ := P.three
      go_wp2
      go_ret
      exact ⟨rfl, H⟩
    · have hf : usF r l v = 0 := by unfold usF; rw [hp, if_pos rfl]; omega
      rw [hf]
      clear hf
      go_enter Try.func11, Try.ntmps11
      go_wp2_with fail
      refine (iStoreOk_c _ _ _ _).mono ?_
      rintro e w1 ⟨rfl, b⟩
      replace P := P.next b
      replace H := chain H b (Nat.le_refl _)
      clear b
      try clear p0 p1 p2 pL
      obtain ⟨p0, p1, p2, -, -, -, pL⟩ := P.three
      go_wp2
      go_ret
      exact ⟨rfl, H⟩
end Go.Proofs.Ytgbmfcacabckpaa
