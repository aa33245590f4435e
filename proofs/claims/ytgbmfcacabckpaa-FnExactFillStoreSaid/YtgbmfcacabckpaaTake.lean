/- TakeOut and Pour, FightFire and FillStore. -/
import Derived.Test.YtgbmfcacabckpaaBase
namespace Go.Proofs.Ytgbmfcacabckpaa
open Go.ChangeShapes Go.WideShapes Go.ChangeAt Go.RowKit
set_option linter.unusedVariables false

/-- The level behind a taking out, and what came out. -/
def takeL (r l n : Int) : Int := if cisB r l && inB n 0 1000000 then l - min n l else l
def takeN (r l n : Int) : Int := if cisB r l && inB n 0 1000000 then min n l else -1
def pourL (r l n : Int) : Int := if cisB r l && inB n 0 1000000 then l + min n (r - l) else l
def pourN (r l n : Int) : Int := if cisB r l && inB n 0 1000000 then n - min n (r - l) else -1

set_option maxHeartbeats 400000 in
theorem sTakeOut_c (r l n : Int) (w : World) : Calls Try.prog 23 #[.agg #[.int .i64 r, .int .i64 l], .int .i64 n] w fun e w' => e = .returned (.tuple #[.agg #[.int .i64 r, .int .i64 (takeL r l n)], .int .i64 (takeN r l n)]) ∧ Below w.heap.size w w' := by
  have P := (Blk.new w 27 #[.int .i64 r, .int .i64 l]).alloc (.cells #[.int .i64 0, .int .i64 0] 27)
  have Q := Blk.new (w.alloc (.cells #[.int .i64 r, .int .i64 l] 27)) 27 #[.int .i64 0, .int .i64 0]
  simp only [World.size_alloc] at Q
  have H : Below w.heap.size w ((w.alloc (.cells #[.int .i64 r, .int .i64 l] 27)).alloc (.cells #[.int .i64 0, .int .i64 0] 27)) := (((Below.refl w.heap.size w).alloc (by first | exact Nat.le_refl _ | (simp only [World.size_alloc]; omega)) (.cells #[.int .i64 r, .int .i64 l] 27)).alloc (by first | exact Nat.le_refl _ | (simp only [World.size_alloc]; omega)) (.cells #[.int .i64 0, .int .i64 0] 27))
  cases hp : cisB r l
  · have hf : takeL r l n = l := by unfold takeL; rw [hp]; rfl
    have hg : takeN r l n = -1 := by unfold takeN; rw [hp]; rfl
    rw [hf, hg]
    clear hf hg
    go_enter Try.func23, Try.ntmps23
    go_wp2_with fail
    refine (sCisternOk_c _ _ _).mono ?_
    rintro e w1 ⟨rfl, b⟩
    replace P := P.next b
    replace Q := Q.next b
    replace H := chain H b (Nat.le_refl _)
    clear b
    try clear p0 p1 pf0 pf1 pL
    obtain ⟨p0, p1, pf0, pf1, pL⟩ := P.two
    try clear q0 q1 qf0 qf1 qL
    obtain ⟨q0, q1, qf0, qf1, qL⟩ := Q.two
    go_wp2
    refine bodyPost_ret (v := .tuple #[.agg #[.int .i64 r, .int .i64 l], .int .i64 (-1)]) (by simp [results, Try.results23, go_sem, *]) rfl ⟨rfl, (by go_grown)⟩
  · cases hq : inB n 0 1000000
    · have hf : takeL r l n = l := by unfold takeL; rw [hp, hq]; rfl
      have hg : takeN r l n = -1 := by unfold takeN; rw [hp, hq]; rfl
      rw [hf, hg]
      clear hf hg
      go_enter Try.func23, Try.ntmps23
      go_wp2_with fail
      refine (sCisternOk_c _ _ _).mono ?_
      rintro e w1 ⟨rfl, b⟩
      replace P := P.next b
      replace Q := Q.next b
      replace H := chain H b (Nat.le_refl _)
      clear b
      try clear p0 p1 pf0 pf1 pL
      obtain ⟨p0, p1, pf0, pf1, pL⟩ := P.two
      try clear q0 q1 qf0 qf1 qL
      obtain ⟨q0, q1, qf0, qf1, qL⟩ := Q.two
      go_wp2_with (go_at_call 22; refine (l04Water_c _ _).mono ?_; rintro e w' ⟨rfl, rfl⟩)
      refine bodyPost_ret (v := .tuple #[.agg #[.int .i64 r, .int .i64 l], .int .i64 (-1)]) (by simp [results, Try.results23, go_sem, *]) rfl ⟨rfl, (by go_grown)⟩
    · obtain ⟨⟨h1, h2⟩, h3, h4⟩ := (cisB_iff _ _).1 hp
      obtain ⟨h5, h6⟩ := (inB_iff _ _ _).1 hq
      by_cases hlt : ¬ l < n
      · have hf : takeL r l n = l - n := by unfold takeL; rw [hp, hq, Bool.and_self, if_pos rfl]; omega
        have hg : takeN r l n = n := by unfold takeN; rw [hp, hq, Bool.and_self, if_pos rfl]; omega
        rw [hf, hg]
        clear hf hg
        go_enter Try.func23, Try.ntmps23
        go_wp2_with fail
        refine (sCisternOk_c _ _ _).mono ?_
        rintro e w1 ⟨rfl, b⟩
        replace P := P.next b
        replace Q := Q.next b
        replace H := chain H b (Nat.le_refl _)
        clear b
        try clear p0 p1 pf0 pf1 pL
        obtain ⟨p0, p1, pf0, pf1, pL⟩ := P.two
        try clear q0 q1 qf0 qf1 qL
        obtain ⟨q0, q1, qf0, qf1, qL⟩ := Q.two
        go_wp2_with (go_at_call 22; refine (l04Water_c _ _).mono ?_; rintro e w' ⟨rfl, rfl⟩)
        refine bodyPost_ret (v := .tuple #[.agg #[.int .i64 r, .int .i64 (l - n)], .int .i64 (n)]) (by simp [results, Try.results23, go_sem, *]; try omega) rfl ⟨rfl, (by go_grown)⟩
      · have hf : takeL r l n = 0 := by unfold takeL; rw [hp, hq, Bool.and_self, if_pos rfl]; omega
        have hg : takeN r l n = l := by unfold takeN; rw [hp, hq, Bool.and_self, if_pos rfl]; omega
        rw [hf, hg]
        clear hf hg
        go_enter Try.func23, Try.ntmps23
        go_wp2_with fail
        refine (sCisternOk_c _ _ _).mono ?_
        rintro e w1 ⟨rfl, b⟩
        replace P := P.next b
        replace Q := Q.next b
        replace H := chain H b (Nat.le_refl _)
        clear b
        try clear p0 p1 pf0 pf1 pL
        obtain ⟨p0, p1, pf0, pf1, pL⟩ := P.two
        try clear q0 q1 qf0 qf1 qL
        obtain ⟨q0, q1, qf0, qf1, qL⟩ := Q.two
        go_wp2_with (go_at_call 22; refine (l04Water_c _ _).mono ?_; rintro e w' ⟨rfl, rfl⟩)
        refine bodyPost_ret (v := .tuple #[.agg #[.int .i64 r, .int .i64 0], .int .i64 (l)]) (by simp [results, Try.results23, go_sem, *]; try omega) rfl ⟨rfl, (by go_grown)⟩

set_option maxHeartbeats 400000 in
theorem iTakeOut_c (r l n : Int) (w : World) : Calls Try.prog 24 #[.agg #[.int .i64 r, .int .i64 l], .int .i64 n] w fun e w' => e = .returned (.tuple #[.agg #[.int .i64 r, .int .i64 (takeL r l n)], .int .i64 (takeN r l n)]) ∧ Below w.heap.size w w' := by
  have P := (Blk.new w 27 #[.int .i64 r, .int .i64 l]).alloc (.cells #[.int .i64 0, .int .i64 0] 27)
  have Q := Blk.new (w.alloc (.cells #[.int .i64 r, .int .i64 l] 27)) 27 #[.int .i64 0, .int .i64 0]
  simp only [World.size_alloc] at Q
  have H : Below w.heap.size w ((w.alloc (.cells #[.int .i64 r, .int .i64 l] 27)).alloc (.cells #[.int .i64 0, .int .i64 0] 27)) := (((Below.refl w.heap.size w).alloc (by first | exact Nat.le_refl _ | (simp only [World.size_alloc]; omega)) (.cells #[.int .i64 r, .int .i64 l] 27)).alloc (by first | exact Nat.le_refl _ | (simp only [World.size_alloc]; omega)) (.cells #[.int .i64 0, .int .i64 0] 27))
  cases hp : cisB r l
  · have hf : takeL r l n = l := by unfold takeL; rw [hp]; rfl
    have hg : takeN r l n = -1 := by unfold takeN; rw [hp]; rfl
    rw [hf, hg]
    clear hf hg
    go_enter Try.func24, Try.ntmps24
    go_wp2_with fail
    refine (iCisternOk_c _ _ _).mono ?_
    rintro e w1 ⟨rfl, b⟩
    replace P := P.next b
    replace Q := Q.next b
    replace H := chain H b (Nat.le_refl _)
    clear b
    try clear p0 p1 pf0 pf1 pL
    obtain ⟨p0, p1, pf0, pf1, pL⟩ := P.two
    try clear q0 q1 qf0 qf1 qL
    obtain ⟨q0, q1, qf0, qf1, qL⟩ := Q.two
    go_wp2
    refine bodyPost_ret (v := .tuple #[.agg #[.int .i64 r, .int .i64 l], .int .i64 (-1)]) (by simp [results, Try.results24, go_sem, *]) rfl ⟨rfl, (by go_grown)⟩
  · cases hq : inB n 0 1000000
    · have hf : takeL r l n = l := by unfold takeL; rw [hp, hq]; rfl
      have hg : takeN r l n = -1 := by unfold takeN; rw [hp, hq]; rfl
      rw [hf, hg]
      clear hf hg
      go_enter Try.func24, Try.ntmps24
      go_wp2_with fail
      refine (iCisternOk_c _ _ _).mono ?_
      rintro e w1 ⟨rfl, b⟩
      replace P := P.next b
      replace Q := Q.next b
      replace H := chain H b (Nat.le_refl _)
      clear b
      try clear p0 p1 pf0 pf1 pL
      obtain ⟨p0, p1, pf0, pf1, pL⟩ := P.two
      try clear q0 q1 qf0 qf1 qL
      obtain ⟨q0, q1, qf0, qf1, qL⟩ := Q.two
      go_wp2_with (go_at_call 21; refine (within_c _ _ _ _).mono ?_; rintro e w' ⟨rfl, rfl⟩)
      refine bodyPost_ret (v := .tuple #[.agg #[.int .i64 r, .int .i64 l], .int .i64 (-1)]) (by simp [results, Try.results24, go_sem, *]) rfl ⟨rfl, (by go_grown)⟩
    · obtain ⟨⟨h1, h2⟩, h3, h4⟩ := (cisB_iff _ _).1 hp
      obtain ⟨h5, h6⟩ := (inB_iff _ _ _).1 hq
      by_cases hlt : ¬ l < n
      · have hf : takeL r l n = l - n := by unfold takeL; rw [hp, hq, Bool.and_self, if_pos rfl]; omega
        have hg : takeN r l n = n := by unfold takeN; rw [hp, hq, Bool.and_self, if_pos rfl]; omega
        rw [hf, hg]
        clear hf hg
        go_enter Try.func24, Try.ntmps24
        go_wp2_with fail
        refine (iCisternOk_c _ _ _).mono ?_
        rintro e w1 ⟨rfl, b⟩
        replace P := P.next b
        replace Q := Q.next b
        replace H := chain H b (Nat.le_refl _)
        clear b
        try clear p0 p1 pf0 pf1 pL
        obtain ⟨p0, p1, pf0, pf1, pL⟩ := P.two
        try clear q0 q1 qf0 qf1 qL
        obtain ⟨q0, q1, qf0, qf1, qL⟩ := Q.two
        go_wp2_with (go_at_call 21; refine (within_c _ _ _ _).mono ?_; rintro e w' ⟨rfl, rfl⟩)
        refine bodyPost_ret (v := .tuple #[.agg #[.int .i64 r, .int .i64 (l - n)], .int .i64 (n)]) (by simp [results, Try.results24, go_sem, *]; try omega) rfl ⟨rfl, (by go_grown)⟩
      · have hf : takeL r l n = 0 := by unfold takeL; rw [hp, hq, Bool.and_self, if_pos rfl]; omega
        have hg : takeN r l n = l := by unfold takeN; rw [hp, hq, Bool.and_self, if_pos rfl]; omega
        rw [hf, hg]
        clear hf hg
        go_enter Try.func24, Try.ntmps24
        go_wp2_with fail
        refine (iCisternOk_c _ _ _).mono ?_
        rintro e w1 ⟨rfl, b⟩
        replace P := P.next b
        replace Q := Q.next b
        replace H := chain H b (Nat.le_refl _)
        clear b
        try clear p0 p1 pf0 pf1 pL
        obtain ⟨p0, p1, pf0, pf1, pL⟩ := P.two
        try clear q0 q1 qf0 qf1 qL
        obtain ⟨q0, q1, qf0, qf1, qL⟩ := Q.two
        go_wp2_with (go_at_call 21; refine (within_c _ _ _ _).mono ?_; rintro e w' ⟨rfl, rfl⟩)
        refine bodyPost_ret (v := .tuple #[.agg #[.int .i64 r, .int .i64 0], .int .i64 (l)]) (by simp [results, Try.results24, go_sem, *]; try omega) rfl ⟨rfl, (by go_grown)⟩

set_option maxHeartbeats 400000 in
theorem sPour_c (r l n : Int) (w : World) : Calls Try.prog 26 #[.agg #[.int .i64 r, .int .i64 l], .int .i64 n] w fun e w' => e = .returned (.tuple #[.agg #[.int .i64 r, .int .i64 (pourL r l n)], .int .i64 (pourN r l n)]) ∧ Below w.heap.size w w' := by
  have P := (Blk.new w 27 #[.int .i64 r, .int .i64 l]).alloc (.cells #[.int .i64 0, .int .i64 0] 27)
  have Q := Blk.new (w.alloc (.cells #[.int .i64 r, .int .i64 l] 27)) 27 #[.int .i64 0, .int .i64 0]
  simp only [World.size_alloc] at Q
  have H : Below w.heap.size w ((w.alloc (.cells #[.int .i64 r, .int .i64 l] 27)).alloc (.cells #[.int .i64 0, .int .i64 0] 27)) := (((Below.refl w.heap.size w).alloc (by first | exact Nat.le_refl _ | (simp only [World.size_alloc]; omega)) (.cells #[.int .i64 r, .int .i64 l] 27)).alloc (by first | exact Nat.le_refl _ | (simp only [World.size_alloc]; omega)) (.cells #[.int .i64 0, .int .i64 0] 27))
  cases hp : cisB r l
  · have hf : pourL r l n = l := by unfold pourL; rw [hp]; rfl
    have hg : pourN r l n = -1 := by unfold pourN; rw [hp]; rfl
    rw [hf, hg]
    clear hf hg
    go_enter Try.func26, Try.ntmps26
    go_wp2_with fail
    refine (sCisternOk_c _ _ _).mono ?_
    rintro e w1 ⟨rfl, b⟩
    replace P := P.next b
    replace Q := Q.next b
    replace H := chain H b (Nat.le_refl _)
    clear b
    try clear p0 p1 pf0 pf1 pL
    obtain ⟨p0, p1, pf0, pf1, pL⟩ := P.two
    try clear q0 q1 qf0 qf1 qL
    obtain ⟨q0, q1, qf0, qf1, qL⟩ := Q.two
    go_wp2
    refine bodyPost_ret (v := .tuple #[.agg #[.int .i64 r, .int .i64 l], .int .i64 (-1)]) (by simp [results, Try.results26, go_sem, *]) rfl ⟨rfl, (by go_grown)⟩
  · cases hq : inB n 0 1000000
    · have hf : pourL r l n = l := by unfold pourL; rw [hp, hq]; rfl
      have hg : pourN r l n = -1 := by unfold pourN; rw [hp, hq]; rfl
      rw [hf, hg]
      clear hf hg
      go_enter Try.func26, Try.ntmps26
      go_wp2_with fail
      refine (sCisternOk_c _ _ _).mono ?_
      rintro e w1 ⟨rfl, b⟩
      replace P := P.next b
      replace Q := Q.next b
      replace H := chain H b (Nat.le_refl _)
      clear b
      try clear p0 p1 pf0 pf1 pL
      obtain ⟨p0, p1, pf0, pf1, pL⟩ := P.two
      try clear q0 q1 qf0 qf1 qL
      obtain ⟨q0, q1, qf0, qf1, qL⟩ := Q.two
      go_wp2_with (go_at_call 22; refine (l04Water_c _ _).mono ?_; rintro e w' ⟨rfl, rfl⟩)
      refine bodyPost_ret (v := .tuple #[.agg #[.int .i64 r, .int .i64 l], .int .i64 (-1)]) (by simp [results, Try.results26, go_sem, *]) rfl ⟨rfl, (by go_grown)⟩
    · obtain ⟨⟨h1, h2⟩, h3, h4⟩ := (cisB_iff _ _).1 hp
      obtain ⟨h5, h6⟩ := (inB_iff _ _ _).1 hq
      by_cases hlt : ¬ r - l < n
      · have hf : pourL r l n = l + n := by unfold pourL; rw [hp, hq, Bool.and_self, if_pos rfl]; omega
        have hg : pourN r l n = 0 := by unfold pourN; rw [hp, hq, Bool.and_self, if_pos rfl]; omega
        rw [hf, hg]
        clear hf hg
        go_enter Try.func26, Try.ntmps26
        go_wp2_with fail
        refine (sCisternOk_c _ _ _).mono ?_
        rintro e w1 ⟨rfl, b⟩
        replace P := P.next b
        replace Q := Q.next b
        replace H := chain H b (Nat.le_refl _)
        clear b
        try clear p0 p1 pf0 pf1 pL
        obtain ⟨p0, p1, pf0, pf1, pL⟩ := P.two
        try clear q0 q1 qf0 qf1 qL
        obtain ⟨q0, q1, qf0, qf1, qL⟩ := Q.two
        go_wp2_with (go_at_call 22; refine (l04Water_c _ _).mono ?_; rintro e w' ⟨rfl, rfl⟩)
        refine bodyPost_ret (v := .tuple #[.agg #[.int .i64 r, .int .i64 (l + n)], .int .i64 0]) (by simp [results, Try.results26, go_sem, *]; try omega) rfl ⟨rfl, (by go_grown)⟩
      · have hf : pourL r l n = r := by unfold pourL; rw [hp, hq, Bool.and_self, if_pos rfl]; omega
        have hg : pourN r l n = n - (r - l) := by unfold pourN; rw [hp, hq, Bool.and_self, if_pos rfl]; omega
        rw [hf, hg]
        clear hf hg
        go_enter Try.func26, Try.ntmps26
        go_wp2_with fail
        refine (sCisternOk_c _ _ _).mono ?_
        rintro e w1 ⟨rfl, b⟩
        replace P := P.next b
        replace Q := Q.next b
        replace H := chain H b (Nat.le_refl _)
        clear b
        try clear p0 p1 pf0 pf1 pL
        obtain ⟨p0, p1, pf0, pf1, pL⟩ := P.two
        try clear q0 q1 qf0 qf1 qL
        obtain ⟨q0, q1, qf0, qf1, qL⟩ := Q.two
        go_wp2_with (go_at_call 22; refine (l04Water_c _ _).mono ?_; rintro e w' ⟨rfl, rfl⟩)
        refine bodyPost_ret (v := .tuple #[.agg #[.int .i64 r, .int .i64 r], .int .i64 (n - (r - l))]) (by simp [results, Try.results26, go_sem, *]; try omega) rfl ⟨rfl, (by go_grown)⟩

set_option maxHeartbeats 400000 in
theorem iPour_c (r l n : Int) (w : World) : Calls Try.prog 27 #[.agg #[.int .i64 r, .int .i64 l], .int .i64 n] w fun e w' => e = .returned (.tuple #[.agg #[.int .i64 r, .int .i64 (pourL r l n)], .int .i64 (pourN r l n)]) ∧ Below w.heap.size w w' := by
  have P := (Blk.new w 27 #[.int .i64 r, .int .i64 l]).alloc (.cells #[.int .i64 0, .int .i64 0] 27)
  have Q := Blk.new (w.alloc (.cells #[.int .i64 r, .int .i64 l] 27)) 27 #[.int .i64 0, .int .i64 0]
  simp only [World.size_alloc] at Q
  have H : Below w.heap.size w ((w.alloc (.cells #[.int .i64 r, .int .i64 l] 27)).alloc (.cells #[.int .i64 0, .int .i64 0] 27)) := (((Below.refl w.heap.size w).alloc (by first | exact Nat.le_refl _ | (simp only [World.size_alloc]; omega)) (.cells #[.int .i64 r, .int .i64 l] 27)).alloc (by first | exact Nat.le_refl _ | (simp only [World.size_alloc]; omega)) (.cells #[.int .i64 0, .int .i64 0] 27))
  cases hp : cisB r l
  · have hf : pourL r l n = l := by unfold pourL; rw [hp]; rfl
    have hg : pourN r l n = -1 := by unfold pourN; rw [hp]; rfl
    rw [hf, hg]
    clear hf hg
    go_enter Try.func27, Try.ntmps27
    go_wp2_with fail
    refine (iCisternOk_c _ _ _).mono ?_
    rintro e w1 ⟨rfl, b⟩
    replace P := P.next b
    replace Q := Q.next b
    replace H := chain H b (Nat.le_refl _)
    clear b
    try clear p0 p1 pf0 pf1 pL
    obtain ⟨p0, p1, pf0, pf1, pL⟩ := P.two
    try clear q0 q1 qf0 qf1 qL
    obtain ⟨q0, q1, qf0, qf1, qL⟩ := Q.two
    go_wp2
    refine bodyPost_ret (v := .tuple #[.agg #[.int .i64 r, .int .i64 l], .int .i64 (-1)]) (by simp [results, Try.results27, go_sem, *]) rfl ⟨rfl, (by go_grown)⟩
  · cases hq : inB n 0 1000000
    · have hf : pourL r l n = l := by unfold pourL; rw [hp, hq]; rfl
      have hg : pourN r l n = -1 := by unfold pourN; rw [hp, hq]; rfl
      rw [hf, hg]
      clear hf hg
      go_enter Try.func27, Try.ntmps27
      go_wp2_with fail
      refine (iCisternOk_c _ _ _).mono ?_
      rintro e w1 ⟨rfl, b⟩
      replace P := P.next b
      replace Q := Q.next b
      replace H := chain H b (Nat.le_refl _)
      clear b
      try clear p0 p1 pf0 pf1 pL
      obtain ⟨p0, p1, pf0, pf1, pL⟩ := P.two
      try clear q0 q1 qf0 qf1 qL
      obtain ⟨q0, q1, qf0, qf1, qL⟩ := Q.two
      go_wp2_with (go_at_call 21; refine (within_c _ _ _ _).mono ?_; rintro e w' ⟨rfl, rfl⟩)
      refine bodyPost_ret (v := .tuple #[.agg #[.int .i64 r, .int .i64 l], .int .i64 (-1)]) (by simp [results, Try.results27, go_sem, *]) rfl ⟨rfl, (by go_grown)⟩
    · obtain ⟨⟨h1, h2⟩, h3, h4⟩ := (cisB_iff _ _).1 hp
      obtain ⟨h5, h6⟩ := (inB_iff _ _ _).1 hq
      by_cases hlt : ¬ r - l < n
      · have hf : pourL r l n = l + n := by unfold pourL; rw [hp, hq, Bool.and_self, if_pos rfl]; omega
        have hg : pourN r l n = 0 := by unfold pourN; rw [hp, hq, Bool.and_self, if_pos rfl]; omega
        rw [hf, hg]
        clear hf hg
        go_enter Try.func27, Try.ntmps27
        go_wp2_with fail
        refine (iCisternOk_c _ _ _).mono ?_
        rintro e w1 ⟨rfl, b⟩
        replace P := P.next b
        replace Q := Q.next b
        replace H := chain H b (Nat.le_refl _)
        clear b
        try clear p0 p1 pf0 pf1 pL
        obtain ⟨p0, p1, pf0, pf1, pL⟩ := P.two
        try clear q0 q1 qf0 qf1 qL
        obtain ⟨q0, q1, qf0, qf1, qL⟩ := Q.two
        go_wp2_with (go_at_call 21; refine (within_c _ _ _ _).mono ?_; rintro e w' ⟨rfl, rfl⟩)
        refine bodyPost_ret (v := .tuple #[.agg #[.int .i64 r, .int .i64 (l + n)], .int .i64 0]) (by simp [results, Try.results27, go_sem, *]; try omega) rfl ⟨rfl, (by go_grown)⟩
      · have hf : pourL r l n = r := by unfold pourL; rw [hp, hq, Bool.and_self, if_pos rfl]; omega
        have hg : pourN r l n = n - (r - l) := by unfold pourN; rw [hp, hq, Bool.and_self, if_pos rfl]; omega
        rw [hf, hg]
        clear hf hg
        go_enter Try.func27, Try.ntmps27
        go_wp2_with fail
        refine (iCisternOk_c _ _ _).mono ?_
        rintro e w1 ⟨rfl, b⟩
        replace P := P.next b
        replace Q := Q.next b
        replace H := chain H b (Nat.le_refl _)
        clear b
        try clear p0 p1 pf0 pf1 pL
        obtain ⟨p0, p1, pf0, pf1, pL⟩ := P.two
        try clear q0 q1 qf0 qf1 qL
        obtain ⟨q0, q1, qf0, qf1, qL⟩ := Q.two
        go_wp2_with (go_at_call 21; refine (within_c _ _ _ _).mono ?_; rintro e w' ⟨rfl, rfl⟩)
        refine bodyPost_ret (v := .tuple #[.agg #[.int .i64 r, .int .i64 r], .int .i64 (n - (r - l))]) (by simp [results, Try.results27, go_sem, *]; try omega) rfl ⟨rfl, (by go_grown)⟩
end Go.Proofs.Ytgbmfcacabckpaa
