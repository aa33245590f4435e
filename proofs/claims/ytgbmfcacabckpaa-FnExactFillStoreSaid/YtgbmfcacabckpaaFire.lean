/- FightFire and FillStore. -/
import Derived.Test.YtgbmfcacabckpaaTake
namespace Go.Proofs.Ytgbmfcacabckpaa
open Go.ChangeShapes Go.WideShapes Go.ChangeAt Go.RowKit
set_option linter.unusedVariables false

def fireL (r l v n : Int) : Int := if stoB r l v && inB n 0 1000000 then takeL r l n else l
def fireN (r l v n : Int) : Int := if stoB r l v && inB n 0 1000000 then takeN r l n else -1
def fillL (r l v n : Int) : Int := if stoB r l v && inB n 0 1000000 then pourL r l n else l
def fillN (r l v n : Int) : Int := if stoB r l v && inB n 0 1000000 then pourN r l n else -1

set_option maxHeartbeats 2000000 in
theorem sFightFire_c (r l v n : Int) (w : World) : Calls Try.prog 12 #[.agg #[.int .i64 r, .int .i64 l, .int .i64 v], .int .i64 n] w fun e w' => e = .returned (.tuple #[.agg #[.int .i64 r, .int .i64 (fireL r l v n), .int .i64 v], .int .i64 (fireN r l v n)]) ∧ Below w.heap.size w w' := by
  have P := (Blk.new w 29 #[.int .i64 r, .int .i64 l, .int .i64 v]).alloc (.cells #[.int .i64 0, .int .i64 0, .int .i64 0] 29)
  have Q := Blk.new (w.alloc (.cells #[.int .i64 r, .int .i64 l, .int .i64 v] 29)) 29 #[.int .i64 0, .int .i64 0, .int .i64 0]
  simp only [World.size_alloc] at Q
  have H : Below w.heap.size w ((w.alloc (.cells #[.int .i64 r, .int .i64 l, .int .i64 v] 29)).alloc (.cells #[.int .i64 0, .int .i64 0, .int .i64 0] 29)) := (((Below.refl w.heap.size w).alloc (by first | exact Nat.le_refl _ | (simp only [World.size_alloc]; omega)) (.cells #[.int .i64 r, .int .i64 l, .int .i64 v] 29)).alloc (by first | exact Nat.le_refl _ | (simp only [World.size_alloc]; omega)) (.cells #[.int .i64 0, .int .i64 0, .int .i64 0] 29))
  cases hp : stoB r l v
  · have hf : fireL r l v n = l := by unfold fireL; rw [hp]; rfl
    have hg : fireN r l v n = -1 := by unfold fireN; rw [hp]; rfl
    rw [hf, hg]
    clear hf hg
    go_enter Try.func12, Try.ntmps12
    go_wp2_with fail
    refine (sStoreOk_c _ _ _ _).mono ?_
    rintro e w1 ⟨rfl, b⟩
    replace P := P.next b
    replace Q := Q.next b
    replace H := chain H b (Nat.le_refl _)
    clear b
    try clear p0 p1 p2 pf0 pf1 pf2 pL
    obtain ⟨p0, p1, p2, pf0, pf1, pf2, pL⟩ := P.three
    try clear q0 q1 q2 qf0 qf1 qf2 qL
    obtain ⟨q0, q1, q2, qf0, qf1, qf2, qL⟩ := Q.three
    go_wp2
    refine bodyPost_ret (v := .tuple #[.agg #[.int .i64 r, .int .i64 l, .int .i64 v], .int .i64 (-1)]) (by simp [results, Try.results12, go_sem, *]) rfl ⟨rfl, (by go_grown)⟩
  · cases hq : inB n 0 1000000
    · have hf : fireL r l v n = l := by unfold fireL; rw [hp, hq]; rfl
      have hg : fireN r l v n = -1 := by unfold fireN; rw [hp, hq]; rfl
      rw [hf, hg]
      clear hf hg
      go_enter Try.func12, Try.ntmps12
      go_wp2_with fail
      refine (sStoreOk_c _ _ _ _).mono ?_
      rintro e w1 ⟨rfl, b⟩
      replace P := P.next b
      replace Q := Q.next b
      replace H := chain H b (Nat.le_refl _)
      clear b
      try clear p0 p1 p2 pf0 pf1 pf2 pL
      obtain ⟨p0, p1, p2, pf0, pf1, pf2, pL⟩ := P.three
      try clear q0 q1 q2 qf0 qf1 qf2 qL
      obtain ⟨q0, q1, q2, qf0, qf1, qf2, qL⟩ := Q.three
      go_wp2_with (go_at_call 22; refine (l04Water_c _ _).mono ?_; rintro e w' ⟨rfl, rfl⟩)
      refine bodyPost_ret (v := .tuple #[.agg #[.int .i64 r, .int .i64 l, .int .i64 v], .int .i64 (-1)]) (by simp [results, Try.results12, go_sem, *]) rfl ⟨rfl, (by go_grown)⟩
    · have hf : fireL r l v n = takeL r l n := by unfold fireL; rw [hp, hq]; rfl
      have hg : fireN r l v n = takeN r l n := by unfold fireN; rw [hp, hq]; rfl
      rw [hf, hg]
      clear hf hg
      go_enter Try.func12, Try.ntmps12
      go_wp2_with fail
      refine (sStoreOk_c _ _ _ _).mono ?_
      rintro e w1 ⟨rfl, b⟩
      replace P := P.next b
      replace Q := Q.next b
      replace H := chain H b (Nat.le_refl _)
      clear b
      try clear p0 p1 p2 pf0 pf1 pf2 pL
      obtain ⟨p0, p1, p2, pf0, pf1, pf2, pL⟩ := P.three
      try clear q0 q1 q2 qf0 qf1 qf2 qL
      obtain ⟨q0, q1, q2, qf0, qf1, qf2, qL⟩ := Q.three
      go_wp2_with fail
      refine (l04Water_c _ _).mono ?_
      rintro e w' ⟨rfl, rfl⟩
      go_wp2_with fail
      refine (sTakeOut_c _ _ _ _).mono ?_
      rintro e w1 ⟨rfl, b⟩
      replace P := P.next b
      replace Q := Q.next b
      replace H := chain H b (Nat.le_refl _)
      clear b
      try clear p0 p1 p2 pf0 pf1 pf2 pL
      obtain ⟨p0, p1, p2, pf0, pf1, pf2, pL⟩ := P.three
      try clear q0 q1 q2 qf0 qf1 qf2 qL
      obtain ⟨q0, q1, q2, qf0, qf1, qf2, qL⟩ := Q.three
      go_wp2
      refine bodyPost_ret (v := .tuple #[.agg #[.int .i64 r, .int .i64 (takeL r l n), .int .i64 v], .int .i64 (takeN r l n)]) (by simp [results, Try.results12, go_sem, *]) rfl ⟨rfl, (by go_grown)⟩

set_option maxHeartbeats 2000000 in
theorem sFillStore_c (r l v n : Int) (w : World) : Calls Try.prog 15 #[.agg #[.int .i64 r, .int .i64 l, .int .i64 v], .int .i64 n] w fun e w' => e = .returned (.tuple #[.agg #[.int .i64 r, .int .i64 (fillL r l v n), .int .i64 v], .int .i64 (fillN r l v n)]) ∧ Below w.heap.size w w' := by
  have P := (Blk.new w 29 #[.int .i64 r, .int .i64 l, .int .i64 v]).alloc (.cells #[.int .i64 0, .int .i64 0, .int .i64 0] 29)
  have Q := Blk.new (w.alloc (.cells #[.int .i64 r, .int .i64 l, .int .i64 v] 29)) 29 #[.int .i64 0, .int .i64 0, .int .i64 0]
  simp only [World.size_alloc] at Q
  have H : Below w.heap.size w ((w.alloc (.cells #[.int .i64 r, .int .i64 l, .int .i64 v] 29)).alloc (.cells #[.int .i64 0, .int .i64 0, .int .i64 0] 29)) := (((Below.refl w.heap.size w).alloc (by first | exact Nat.le_refl _ | (simp only [World.size_alloc]; omega)) (.cells #[.int .i64 r, .int .i64 l, .int .i64 v] 29)).alloc (by first | exact Nat.le_refl _ | (simp only [World.size_alloc]; omega)) (.cells #[.int .i64 0, .int .i64 0, .int .i64 0] 29))
  cases hp : stoB r l v
  · have hf : fillL r l v n = l := by unfold fillL; rw [hp]; rfl
    have hg : fillN r l v n = -1 := by unfold fillN; rw [hp]; rfl
    rw [hf, hg]
    clear hf hg
    go_enter Try.func15, Try.ntmps15
    go_wp2_with fail
    refine (sStoreOk_c _ _ _ _).mono ?_
    rintro e w1 ⟨rfl, b⟩
    replace P := P.next b
    replace Q := Q.next b
    replace H := chain H b (Nat.le_refl _)
    clear b
    try clear p0 p1 p2 pf0 pf1 pf2 pL
    obtain ⟨p0, p1, p2, pf0, pf1, pf2, pL⟩ := P.three
    try clear q0 q1 q2 qf0 qf1 qf2 qL
    obtain ⟨q0, q1, q2, qf0, qf1, qf2, qL⟩ := Q.three
    go_wp2
    refine bodyPost_ret (v := .tuple #[.agg #[.int .i64 r, .int .i64 l, .int .i64 v], .int .i64 (-1)]) (by simp [results, Try.results15, go_sem, *]) rfl ⟨rfl, (by go_grown)⟩
  · cases hq : inB n 0 1000000
    · have hf : fillL r l v n = l := by unfold fillL; rw [hp, hq]; rfl
      have hg : fillN r l v n = -1 := by unfold fillN; rw [hp, hq]; rfl
      rw [hf, hg]
      clear hf hg
      go_enter Try.func15, Try.ntmps15
      go_wp2_with fail
      refine (sStoreOk_c _ _ _ _).mono ?_
      rintro e w1 ⟨rfl, b⟩
      replace P := P.next b
      replace Q := Q.next b
      replace H := chain H b (Nat.le_refl _)
      clear b
      try clear p0 p1 p2 pf0 pf1 pf2 pL
      obtain ⟨p0, p1, p2, pf0, pf1, pf2, pL⟩ := P.three
      try clear q0 q1 q2 qf0 qf1 qf2 qL
      obtain ⟨q0, q1, q2, qf0, qf1, qf2, qL⟩ := Q.three
      go_wp2_with (go_at_call 22; refine (l04Water_c _ _).mono ?_; rintro e w' ⟨rfl, rfl⟩)
      refine bodyPost_ret (v := .tuple #[.agg #[.int .i64 r, .int .i64 l, .int .i64 v], .int .i64 (-1)]) (by simp [results, Try.results15, go_sem, *]) rfl ⟨rfl, (by go_grown)⟩
    · have hf : fillL r l v n = pourL r l n := by unfold fillL; rw [hp, hq]; rfl
      have hg : fillN r l v n = pourN r l n := by unfold fillN; rw [hp, hq]; rfl
      rw [hf, hg]
      clear hf hg
      go_enter Try.func15, Try.ntmps15
      go_wp2_with fail
      refine (sStoreOk_c _ _ _ _).mono ?_
      rintro e w1 ⟨rfl, b⟩
      replace P := P.next b
      replace Q := Q.next b
      replace H := chain H b (Nat.le_refl _)
      clear b
      try clear p0 p1 p2 pf0 pf1 pf2 pL
      obtain ⟨p0, p1, p2, pf0, pf1, pf2, pL⟩ := P.three
      try clear q0 q1 q2 qf0 qf1 qf2 qL
      obtain ⟨q0, q1, q2, qf0, qf1, qf2, qL⟩ := Q.three
      go_wp2_with fail
      refine (l04Water_c _ _).mono ?_
      rintro e w' ⟨rfl, rfl⟩
      go_wp2_with fail
      refine (sPour_c _ _ _ _).mono ?_
      rintro e w1 ⟨rfl, b⟩
      replace P := P.next b
      replace Q := Q.next b
      replace H := chain H b (Nat.le_refl _)
      clear b
      try clear p0 p1 p2 pf0 pf1 pf2 pL
      obtain ⟨p0, p1, p2, pf0, pf1, pf2, pL⟩ := P.three
      try clear q0 q1 q2 qf0 qf1 qf2 qL
      obtain ⟨q0, q1, q2, qf0, qf1, qf2, qL⟩ := Q.three
      go_wp2
      refine bodyPost_ret (v := .tuple #[.agg #[.int .i64 r, .int .i64 (pourL r l n), .int .i64 v], .int .i64 (pourN r l n)]) (by simp [results, Try.results15, go_sem, *]) rfl ⟨rfl, (by go_grown)⟩

set_option maxHeartbeats 2000000 in
theorem iFightFire_c (r l v n : Int) (w : World) : Calls Try.prog 13 #[.agg #[.int .i64 r, .int .i64 l, .int .i64 v], .int .i64 n] w fun e w' => e = .returned (.tuple #[.agg #[.int .i64 r, .int .i64 (fireL r l v n), .int .i64 v], .int .i64 (fireN r l v n)]) ∧ Below w.heap.size w w' := by
  have P := (Blk.new w 29 #[.int .i64 r, .int .i64 l, .int .i64 v]).alloc (.cells #[.int .i64 0, .int .i64 0, .int .i64 0] 29)
  have Q := Blk.new (w.alloc (.cells #[.int .i64 r, .int .i64 l, .int .i64 v] 29)) 29 #[.int .i64 0, .int .i64 0, .int .i64 0]
  simp only [World.size_alloc] at Q
  have H : Below w.heap.size w ((w.alloc (.cells #[.int .i64 r, .int .i64 l, .int .i64 v] 29)).alloc (.cells #[.int .i64 0, .int .i64 0, .int .i64 0] 29)) := (((Below.refl w.heap.size w).alloc (by first | exact Nat.le_refl _ | (simp only [World.size_alloc]; omega)) (.cells #[.int .i64 r, .int .i64 l, .int .i64 v] 29)).alloc (by first | exact Nat.le_refl _ | (simp only [World.size_alloc]; omega)) (.cells #[.int .i64 0, .int .i64 0, .int .i64 0] 29))
  cases hp : stoB r l v
  · have hf : fireL r l v n = l := by unfold fireL; rw [hp]; rfl
    have hg : fireN r l v n = -1 := by unfold fireN; rw [hp]; rfl
    rw [hf, hg]
    clear hf hg
    go_enter Try.func13, Try.ntmps13
    go_wp2_with fail
    refine (iStoreOk_c _ _ _ _).mono ?_
    rintro e w1 ⟨rfl, b⟩
    replace P := P.next b
    replace Q := Q.next b
    replace H := chain H b (Nat.le_refl _)
    clear b
    try clear p0 p1 p2 pf0 pf1 pf2 pL
    obtain ⟨p0, p1, p2, pf0, pf1, pf2, pL⟩ := P.three
    try clear q0 q1 q2 qf0 qf1 qf2 qL
    obtain ⟨q0, q1, q2, qf0, qf1, qf2, qL⟩ := Q.three
    go_wp2
    refine bodyPost_ret (v := .tuple #[.agg #[.int .i64 r, .int .i64 l, .int .i64 v], .int .i64 (-1)]) (by simp [results, Try.results13, go_sem, *]) rfl ⟨rfl, (by go_grown)⟩
  · cases hq : inB n 0 1000000
    · have hf : fireL r l v n = l := by unfold fireL; rw [hp, hq]; rfl
      have hg : fireN r l v n = -1 := by unfold fireN; rw [hp, hq]; rfl
      rw [hf, hg]
      clear hf hg
      go_enter Try.func13, Try.ntmps13
      go_wp2_with fail
      refine (iStoreOk_c _ _ _ _).mono ?_
      rintro e w1 ⟨rfl, b⟩
      replace P := P.next b
      replace Q := Q.next b
      replace H := chain H b (Nat.le_refl _)
      clear b
      try clear p0 p1 p2 pf0 pf1 pf2 pL
      obtain ⟨p0, p1, p2, pf0, pf1, pf2, pL⟩ := P.three
      try clear q0 q1 q2 qf0 qf1 qf2 qL
      obtain ⟨q0, q1, q2, qf0, qf1, qf2, qL⟩ := Q.three
      go_wp2_with (go_at_call 21; refine (within_c _ _ _ _).mono ?_; rintro e w' ⟨rfl, rfl⟩)
      refine bodyPost_ret (v := .tuple #[.agg #[.int .i64 r, .int .i64 l, .int .i64 v], .int .i64 (-1)]) (by simp [results, Try.results13, go_sem, *]) rfl ⟨rfl, (by go_grown)⟩
    · have hf : fireL r l v n = takeL r l n := by unfold fireL; rw [hp, hq]; rfl
      have hg : fireN r l v n = takeN r l n := by unfold fireN; rw [hp, hq]; rfl
      rw [hf, hg]
      clear hf hg
      go_enter Try.func13, Try.ntmps13
      go_wp2_with fail
      refine (iStoreOk_c _ _ _ _).mono ?_
      rintro e w1 ⟨rfl, b⟩
      replace P := P.next b
      replace Q := Q.next b
      replace H := chain H b (Nat.le_refl _)
      clear b
      try clear p0 p1 p2 pf0 pf1 pf2 pL
      obtain ⟨p0, p1, p2, pf0, pf1, pf2, pL⟩ := P.three
      try clear q0 q1 q2 qf0 qf1 qf2 qL
      obtain ⟨q0, q1, q2, qf0, qf1, qf2, qL⟩ := Q.three
      go_wp2_with fail
      refine (within_c _ _ _ _).mono ?_
      rintro e w' ⟨rfl, rfl⟩
      go_wp2_with fail
      refine (iTakeOut_c _ _ _ _).mono ?_
      rintro e w1 ⟨rfl, b⟩
      replace P := P.next b
      replace Q := Q.next b
      replace H := chain H b (Nat.le_refl _)
      clear b
      try clear p0 p1 p2 pf0 pf1 pf2 pL
      obtain ⟨p0, p1, p2, pf0, pf1, pf2, pL⟩ := P.three
      try clear q0 q1 q2 qf0 qf1 qf2 qL
      obtain ⟨q0, q1, q2, qf0, qf1, qf2, qL⟩ := Q.three
      go_wp2
      refine bodyPost_ret (v := .tuple #[.agg #[.int .i64 r, .int .i64 (takeL r l n), .int .i64 v], .int .i64 (takeN r l n)]) (by simp [results, Try.results13, go_sem, *]) rfl ⟨rfl, (by go_grown)⟩

set_option maxHeartbeats 2000000 in
theorem iFillStore_c (r l v n : Int) (w : World) : Calls Try.prog 16 #[.agg #[.int .i64 r, .int .i64 l, .int .i64 v], .int .i64 n] w fun e w' => e = .returned (.tuple #[.agg #[.int .i64 r, .int .i64 (fillL r l v n), .int .i64 v], .int .i64 (fillN r l v n)]) ∧ Below w.heap.size w w' := by
  have P := (Blk.new w 29 #[.int .i64 r, .int .i64 l, .int .i64 v]).alloc (.cells #[.int .i64 0, .int .i64 0, .int .i64 0] 29)
  have Q := Blk.new (w.alloc (.cells #[.int .i64 r, .int .i64 l, .int .i64 v] 29)) 29 #[.int .i64 0, .int .i64 0, .int .i64 0]
  simp only [World.size_alloc] at Q
  have H : Below w.heap.size w ((w.alloc (.cells #[.int .i64 r, .int .i64 l, .int .i64 v] 29)).alloc (.cells #[.int .i64 0, .int .i64 0, .int .i64 0] 29)) := (((Below.refl w.heap.size w).alloc (by first | exact Nat.le_refl _ | (simp only [World.size_alloc]; omega)) (.cells #[.int .i64 r, .int .i64 l, .int .i64 v] 29)).alloc (by first | exact Nat.le_refl _ | (simp only [World.size_alloc]; omega)) (.cells #[.int .i64 0, .int .i64 0, .int .i64 0] 29))
  cases hp : stoB r l v
  · have hf : fillL r l v n = l := by unfold fillL; rw [hp]; rfl
    have hg : fillN r l v n = -1 := by unfold fillN; rw [hp]; rfl
    rw [hf, hg]
    clear hf hg
    go_enter Try.func16, Try.ntmps16
    go_wp2_with fail
    refine (iStoreOk_c _ _ _ _).mono ?_
    rintro e w1 ⟨rfl, b⟩
    replace P := P.next b
    replace Q := Q.next b
    replace H := chain H b (Nat.le_refl _)
    clear b
    try clear p0 p1 p2 pf0 pf1 pf2 pL
    obtain ⟨p0, p1, p2, pf0, pf1, pf2, pL⟩ := P.three
    try clear q0 q1 q2 qf0 qf1 qf2 qL
    obtain ⟨q0, q1, q2, qf0, qf1, qf2, qL⟩ := Q.three
    go_wp2
    refine bodyPost_ret (v := .tuple #[.agg #[.int .i64 r, .int .i64 l, .int .i64 v], .int .i64 (-1)]) (by simp [results, Try.results16, go_sem, *]) rfl ⟨rfl, (by go_grown)⟩
  · cases hq : inB n 0 1000000
    · have hf : fillL r l v n = l := by unfold fillL; rw [hp, hq]; rfl
      have hg : fillN r l v n = -1 := by unfold fillN; rw [hp, hq]; rfl
      rw [hf, hg]
      clear hf hg
      go_enter Try.func16, Try.ntmps16
      go_wp2_with fail
      refine (iStoreOk_c _ _ _ _).mono ?_
      rintro e w1 ⟨rfl, b⟩
      replace P := P.next b
      replace Q := Q.next b
      replace H := chain H b (Nat.le_refl _)
      clear b
      try clear p0 p1 p2 pf0 pf1 pf2 pL
      obtain ⟨p0, p1, p2, pf0, pf1, pf2, pL⟩ := P.three
      try clear q0 q1 q2 qf0 qf1 qf2 qL
      obtain ⟨q0, q1, q2, qf0, qf1, qf2, qL⟩ := Q.three
      go_wp2_with (go_at_call 21; refine (within_c _ _ _ _).mono ?_; rintro e w' ⟨rfl, rfl⟩)
      refine bodyPost_ret (v := .tuple #[.agg #[.int .i64 r, .int .i64 l, .int .i64 v], .int .i64 (-1)]) (by simp [results, Try.results16, go_sem, *]) rfl ⟨rfl, (by go_grown)⟩
    · have hf : fillL r l v n = pourL r l n := by unfold fillL; rw [hp, hq]; rfl
      have hg : fillN r l v n = pourN r l n := by unfold fillN; rw [hp, hq]; rfl
      rw [hf, hg]
      clear hf hg
      go_enter Try.func16, Try.ntmps16
      go_wp2_with fail
      refine (iStoreOk_c _ _ _ _).mono ?_
      rintro e w1 ⟨rfl, b⟩
      replace P := P.next b
      replace Q := Q.next b
      replace H := chain H b (Nat.le_refl _)
      clear b
      try clear p0 p1 p2 pf0 pf1 pf2 pL
      obtain ⟨p0, p1, p2, pf0, pf1, pf2, pL⟩ := P.three
      try clear q0 q1 q2 qf0 qf1 qf2 qL
      obtain ⟨q0, q1, q2, qf0, qf1, qf2, qL⟩ := Q.three
      go_wp2_with fail
      refine (within_c _ _ _ _).mono ?_
      rintro e w' ⟨rfl, rfl⟩
      go_wp2_with fail
      refine (iPour_c _ _ _ _).mono ?_
      rintro e w1 ⟨rfl, b⟩
      replace P := P.next b
      replace Q := Q.next b
      replace H := chain H b (Nat.le_refl _)
      clear b
      try clear p0 p1 p2 pf0 pf1 pf2 pL
      obtain ⟨p0, p1, p2, pf0, pf1, pf2, pL⟩ := P.three
      try clear q0 q1 q2 qf0 qf1 qf2 qL
      obtain ⟨q0, q1, q2, qf0, qf1, qf2, qL⟩ := Q.three
      go_wp2
      refine bodyPost_ret (v := .tuple #[.agg #[.int .i64 r, .int .i64 (pourL r l n), .int .i64 v], .int .i64 (pourN r l n)]) (by simp [results, Try.results16, go_sem, *]) rfl ⟨rfl, (by go_grown)⟩
end Go.Proofs.Ytgbmfcacabckpaa
