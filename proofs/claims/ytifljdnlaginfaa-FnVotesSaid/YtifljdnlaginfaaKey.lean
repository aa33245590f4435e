/- KeyVoters, both. -/
import Derived.Test.YtifljdnlaginfaaCount
import Derived.Test.YtifljdnlaginfaaOwn2
namespace Go.Proofs.Ytifljdnlaginfaa
open Go.ChangeShapes Go.WideShapes Go.ChangeAt Go.RowKit
set_option linter.unusedVariables false

def keyAt (xs : List Int) (q : Int) (i : Nat) : Bool := decide (0 ≤ xs.getD i 0) && (passB (xs.set i (-1)) q != passB xs q)
def keyP (xs : List Int) (q : Int) : Nat → List Int
  | 0 => []
  | n + 1 => keyP xs q n ++ if keyAt xs q n then [(n : Int)] else []
theorem keyP_succ (xs : List Int) (q : Int) (n : Nat) : keyP xs q (n + 1) = keyP xs q n ++ if keyAt xs q n then [(n : Int)] else [] := rfl
theorem keyP_len (xs : List Int) (q : Int) : ∀ n, (keyP xs q n).length ≤ n := by
  intro n
  induction n with
  | zero => exact Nat.le_refl _
  | succ n ih =>
    rw [keyP_succ, List.length_append]
    split <;> simp <;> omega
theorem key_hit {xs : List Int} {q : Int} {n : Nat} (h : keyAt xs q n = true) : keyP xs q (n + 1) = keyP xs q n ++ [(n : Int)] := by rw [keyP_succ, if_pos h]
theorem key_miss {xs : List Int} {q : Int} {n : Nat} (h : keyAt xs q n = false) : keyP xs q (n + 1) = keyP xs q n := by rw [keyP_succ, if_neg (by rw [h]; simp), List.append_nil]
def keyL (xs : List Int) (q : Int) : List Int := if voteB xs && inB q 0 40 then keyP xs q xs.length else []
theorem keyL_no {xs : List Int} {q : Int} (h : voteB xs = false ∨ inB q 0 40 = false) : keyL xs q = [] := by
  unfold keyL
  rcases h with h | h <;> simp [h]
theorem keyL_yes {xs : List Int} {q : Int} (h : voteB xs = true) (h2 : inB q 0 40 = true) : keyL xs q = keyP xs q xs.length := by
  unfold keyL
  rw [h, h2]
  rfl
theorem keyL_len (xs : List Int) (q : Int) : (keyL xs q).length ≤ xs.length := by
  unfold keyL
  split
  · exact keyP_len _ _ _
  · exact Nat.zero_le _
theorem iPass_set (A : Option Addr) (c : Nat) (xs : List Int) (k : Nat) (v q : Int) (w : World) (hr : RdI w w.heap.size A (xs.set k v)) (hl : xs.length ≤ 1048576) :
    Calls Try.prog 14 #[.slice A xs.length c, .int .i64 q] w fun e w' => e = .returned (.bool (passB (xs.set k v) q)) ∧ Below w.heap.size w w' := by
  have h := iPass_c A c (xs.set k v) q w hr (by rw [List.length_set]; exact hl)
  rw [List.length_set] at h
  exact h
theorem sPass_set (A : Option Addr) (c : Nat) (xs : List Int) (k : Nat) (v q : Int) (w : World) (hr : RdI w w.heap.size A (xs.set k v)) (hl : xs.length ≤ 1048576) :
    Calls Try.prog 13 #[.slice A xs.length c, .int .i64 q] w fun e w' => e = .returned (.bool (passB (xs.set k v) q)) ∧ Below w.heap.size w w' := by
  have h := sPass_c A c (xs.set k v) q w hr (by rw [List.length_set]; exact hl)
  rw [List.length_set] at h
  exact h
set_option maxHeartbeats 4000000 in
theorem iKey_c (A : Option Addr) (c : Nat) (xs : List Int) (q : Int) (w : World) (hr : RdI w w.heap.size A xs) (hl : xs.length ≤ 1048576) :
    Calls Try.prog 16 #[.slice A xs.length c, .int .i64 q] w (RetI w (keyL xs q)) := by
  cases hv : voteB xs
  · rw [keyL_no (.inl hv)]
    have hy := cnt_no hv
    have h1 := Lib.hid (iCount_t A c xs w hr hl)
    rw [hy, hy, hy] at h1
    clear hy
    go_enter Try.func16, Try.ntmps16
    go_wp2_with fail
    refine h1.out.mono ?_
    rintro e w1 ⟨rfl, H⟩
    go_wp2
    go_ret
    exact ⟨none, 0, rfl, World.ownsRow_nil _ _ _ _, H⟩
  · have h40 := (vote_b hv).1
    have hy0 : ¬ cntZ xs 1 < 0 := by have := (cntZ_ok xs 1).2 hv; omega
    cases hin : inB q 0 40
    · rw [keyL_no (.inr hin)]
      go_enter Try.func16, Try.ntmps16
      go_wp2_with fail
      refine (iCount_t A c xs w hr hl).mono ?_
      rintro e w1 ⟨rfl, H⟩
      go_wp2_with (go_at_call 34; refine (within_c _ _ _ _).mono ?_; rintro e w' ⟨rfl, rfl⟩)
      go_ret
      exact ⟨none, 0, rfl, World.ownsRow_nil _ _ _ _, H⟩
    · rw [keyL_yes hv hin]
      go_enter Try.func16, Try.ntmps16
      go_wp2_with fail
      refine (iCount_t A c xs w hr hl).mono ?_
      rintro e w1 ⟨rfl, hH⟩
      have hE : OwnI w1 w.heap.size none 0 [] := World.ownsRow_nil _ _ _ _
      go_wp2_with (go_at_call 34; refine (within_c _ _ _ _).mono ?_; rintro e w' ⟨rfl, rfl⟩)
      clear hv hin hy0
      go_loopw [8, 27] (fun s i wr => ∃ (k : Nat) (A1 : Option Addr) (c1 : Nat), k ≤ xs.length ∧ i = .int .i64 k ∧ s = .slice A1 (keyP xs q k).length c1 ∧ OwnI wr w.heap.size A1 c1 (keyP xs q k) ∧ Below w.heap.size w wr) (fun _ i _ => xs.length - (intOf i).toNat)
      case atStart => exact ⟨0, none, 0, Nat.zero_le _, rfl, rfl, hE, hH⟩
      case round =>
        clear hE hH
        obtain ⟨k, A1, cc, hk, rfl, rfl, hO, H⟩ := hrel
        by_cases hlt : k < xs.length
        · obtain ⟨g, off, x, rfl, hg, hc, hx, hd⟩ := (hr.below H (Nat.le_refl _)).at_ hlt
          have hgx := Lib.hid (show xs.getD k 0 = x from getDat hx.out)
          by_cases hneg : x < 0
          · have hk2 : keyAt xs q k = false := by unfold keyAt; rw [hgx.out, decide_eq_false (by omega)]; rfl
            have hst := Lib.hid (key_miss hk2)
            go_wp2
            go_roundw
            case rel => exact ⟨k + 1, A1, cc, by omega, by go_num, by rw [hst.out], by rw [hst.out]; exact hO, H⟩
            case measure => simp [intOf]; omega
          · have hkq := Lib.hid (show keyAt xs q k = (passB (xs.set k (-1)) q != passB xs q) by unfold keyAt; rw [hgx.out, decide_eq_true (by omega)]; exact Bool.true_and _)
            go_wp2_with fail
            refine (copyInts_c _ _ xs _ (hr.at_world H) hl).mono ?_
            rintro e w2 ⟨A2, c2, rfl, hX, b⟩
            have hsz := H.size
            replace H := chain H b (Nat.le_refl _)
            have hO' := hO.next b
            have hos := hO.lt_
            clear b hO
            obtain ⟨g2, rfl, hg2, hg2l, -, -⟩ : ∃ g2, A2 = some ⟨g2, 0, none⟩ ∧ wr.heap.size ≤ g2 ∧ g2 < w2.heap.size ∧ True ∧ True := by
              rcases hX.form with ⟨_, e⟩ | ⟨g2, e1, e2, e3, _, _⟩
              · rw [e] at hlt; exact absurd hlt (by simp)
              · exact ⟨g2, e1, e2, e3, trivial, trivial⟩
            have hcell := hX.cellI hx.out
            have hfr := World.ownsRow.frozenAt hX k
            have hX' := hX.stored k (-1)
            have hg := World.ownsRow.stored hX k (.int .i64 (-1))
            have hO := hO'.kept hg.2 (fun gb e h => by have := hos gb e; injection h with h; omega)
            replace H := H.setCell (p := ⟨g2, k, none⟩) (show w.heap.size ≤ g2 by omega) (.int .i64 (-1))
            clear hO' hg hos hX
            cases hb1 : passB (xs.set k (-1)) q
            · cases hb2 : passB xs q
              · have hk2 : keyAt xs q k = false := by rw [hkq.out, hb1, hb2]; rfl
                have hst := Lib.hid (key_miss hk2)
                clear hk2
                go_wp2_with fail
                refine (iPass_set _ _ xs k (-1) q _ hX'.rd hl).mono ?_
                rintro e w3 ⟨rfl, b⟩
                replace H := chain H b (Nat.le_refl _)
                replace hO := hO.next b
                clear b hX'
                go_wp2_with fail
                refine (iPass_c _ _ xs q _ (hr.at_world H) hl).mono ?_
                rintro e w4 ⟨rfl, b⟩
                replace H := chain H b (Nat.le_refl _)
                replace hO := hO.next b
                clear b
                go_wp2
                go_roundw
                case rel => exact ⟨k + 1, A1, cc, by omega, by go_num, by rw [hst.out], by rw [hst.out]; exact hO, H⟩
                case measure => simp [intOf]; omega
              · have hk2 := Lib.hid (show keyAt xs q k = true by rw [hkq.out, hb1, hb2]; rfl)
                go_wp2_with fail
                refine (iPass_set _ _ xs k (-1) q _ hX'.rd hl).mono ?_
                rintro e w3 ⟨rfl, b⟩
                replace H := chain H b (Nat.le_refl _)
                replace hO := hO.next b
                clear b hX'
                go_wp2_with fail
                refine (iPass_c _ _ xs q _ (hr.at_world H) hl).mono ?_
                rintro e w4 ⟨rfl, b⟩
                replace H := chain H b (Nat.le_refl _)
                replace hO := hO.next b
                clear b
                have hst := Lib.hid (key_hit hk2.out)
                have hO0 := hO
                have hsz1 := H.size
                have hgl := keyP_len xs q k
                have hone : RdI (w4.alloc (.cells #[.int .i64 k] 3)) (w4.alloc (.cells #[.int .i64 k] 3)).heap.size (some ⟨w4.heap.size, 0, none⟩) [(k : Int)] := RdI.of_ints (xs := [(k : Int)]) (Blk.new _ _ _)
                have hOa : OwnI (w4.alloc (.cells #[.int .i64 k] 3)) w.heap.size A1 cc (keyP xs q k) := World.ownsRow.alloc hO _
                go_wp2_with (first | (at_builtin; refine wpList_append_rd _ rfl (.tmp 46) (.tmp 48) rfl w.heap.size A1 (keyP xs q k).length cc (keyP xs q k) rfl rfl hOa (w4.alloc (.cells #[.int .i64 k] 3)).heap.size (some ⟨w4.heap.size, 0, none⟩) 1 1 [(k : Int)] rfl rfl hone (by simp; omega) (by simp; omega) ?_; intro A' c' w1 hOn hgr hat) | fail)
                go_roundw
                case rel =>
                  refine ⟨k + 1, A', c', by omega, by go_num, ?_, ?_, ?_⟩
                  · rw [hst.out, List.length_append]; rfl
                  · rw [hst.out]; exact hOn
                  · exact (H.alloc H.size _).grown hgr (by simp; omega) (fun k' hk' => (World.ownsRow.lt hO0 k' hk').1)
                case measure => simp [intOf]; omega
            · cases hb2 : passB xs q
              · have hk2 := Lib.hid (show keyAt xs q k = true by rw [hkq.out, hb1, hb2]; rfl)
                go_wp2_with fail
                refine (iPass_set _ _ xs k (-1) q _ hX'.rd hl).mono ?_
                rintro e w3 ⟨rfl, b⟩
                replace H := chain H b (Nat.le_refl _)
                replace hO := hO.next b
                clear b hX'
                go_wp2_with fail
                refine (iPass_c _ _ xs q _ (hr.at_world H) hl).mono ?_
                rintro e w4 ⟨rfl, b⟩
                replace H := chain H b (Nat.le_refl _)
                replace hO := hO.next b
                clear b
                have hst := Lib.hid (key_hit hk2.out)
                have hO0 := hO
                have hsz1 := H.size
                have hgl := keyP_len xs q k
                have hone : RdI (w4.alloc (.cells #[.int .i64 k] 3)) (w4.alloc (.cells #[.int .i64 k] 3)).heap.size (some ⟨w4.heap.size, 0, none⟩) [(k : Int)] := RdI.of_ints (xs := [(k : Int)]) (Blk.new _ _ _)
                have hOa : OwnI (w4.alloc (.cells #[.int .i64 k] 3)) w.heap.size A1 cc (keyP xs q k) := World.ownsRow.alloc hO _
                go_wp2_with (first | (at_builtin; refine wpList_append_rd _ rfl (.tmp 46) (.tmp 48) rfl w.heap.size A1 (keyP xs q k).length cc (keyP xs q k) rfl rfl hOa (w4.alloc (.cells #[.int .i64 k] 3)).heap.size (some ⟨w4.heap.size, 0, none⟩) 1 1 [(k : Int)] rfl rfl hone (by simp; omega) (by simp; omega) ?_; intro A' c' w1 hOn hgr hat) | fail)
                go_roundw
                case rel =>
                  refine ⟨k + 1, A', c', by omega, by go_num, ?_, ?_, ?_⟩
                  · rw [hst.out, List.length_append]; rfl
                  · rw [hst.out]; exact hOn
                  · exact (H.alloc H.size _).grown hgr (by simp; omega) (fun k' hk' => (World.ownsRow.lt hO0 k' hk').1)
                case measure => simp [intOf]; omega
              · have hk2 : keyAt xs q k = false := by rw [hkq.out, hb1, hb2]; rfl
                have hst := Lib.hid (key_miss hk2)
                clear hk2
                go_wp2_with fail
                refine (iPass_set _ _ xs k (-1) q _ hX'.rd hl).mono ?_
                rintro e w3 ⟨rfl, b⟩
                replace H := chain H b (Nat.le_refl _)
                replace hO := hO.next b
                clear b hX'
                go_wp2_with fail
                refine (iPass_c _ _ xs q _ (hr.at_world H) hl).mono ?_
                rintro e w4 ⟨rfl, b⟩
                replace H := chain H b (Nat.le_refl _)
                replace hO := hO.next b
                clear b
                go_wp2
                go_roundw
                case rel => exact ⟨k + 1, A1, cc, by omega, by go_num, by rw [hst.out], by rw [hst.out]; exact hO, H⟩
                case measure => simp [intOf]; omega
        · obtain rfl : k = xs.length := by omega
          go_wp2
          go_ret
          exact ⟨_, _, rfl, hO, H⟩

theorem same3 {g off b o : Nat} {xs : List Int} {k : Nat} {x y : Int} (e : (some ⟨g, off, none⟩ : Option Addr) = some ⟨b, o, none⟩) (h1 : Hid (xs[k]? = some y)) (h2 : Hid (xs[k]? = some x)) : g = b ∧ off = o ∧ x = y := by
  injection e with e
  injection e with e1 e2
  have := h1.out.symm.trans h2.out
  exact ⟨e1, e2, (Option.some.inj this).symm⟩
set_option maxHeartbeats 4000000 in
theorem sKey_c (A : Option Addr) (c : Nat) (xs : List Int) (q : Int) (w : World) (hr : RdI w w.heap.size A xs) (hl : xs.length ≤ 1048576) :
    Calls Try.prog 15 #[.slice A xs.length c, .int .i64 q] w (RetI w (keyL xs q)) := by
  have hE : OwnI (w.alloc (.cells #[] 3)) w.heap.size (some ⟨w.heap.size, 0, none⟩) 0 [] := OwnI.of_blk (xs := []) (Nat.le_refl _) (by unfold maxLen; simp) (Blk.new _ _ _)
  have hH := (Below.refl w.heap.size w).alloc (Nat.le_refl _) (.cells #[] 3)
  have hra0 := hr.at_world hH
  cases hv : voteB xs
  · rw [keyL_no (.inl hv)]
    have hy := cnt_no hv
    have h1 := Lib.hid (sCount_t A c xs _ hra0 hl)
    rw [hy, hy, hy] at h1
    clear hy
    go_enter Try.func15, Try.ntmps15
    go_wp2_with fail
    refine h1.out.mono ?_
    rintro e w1 ⟨rfl, rfl⟩
    go_wp2
    go_ret
    exact ⟨_, _, rfl, hE, hH⟩
  · have h40 := (vote_b hv).1
    have hy0 : ¬ cntZ xs 1 < 0 := by have := (cntZ_ok xs 1).2 hv; omega
    cases hin : inB q 0 40
    · rw [keyL_no (.inr hin)]
      go_enter Try.func15, Try.ntmps15
      go_wp2_with fail
      refine (sCount_t A c xs _ hra0 hl).mono ?_
      rintro e w1 ⟨rfl, rfl⟩
      go_wp2_with (go_at_call 33; refine (l01In_c _ _ _ _).mono ?_; rintro e w' ⟨rfl, rfl⟩)
      go_ret
      exact ⟨_, _, rfl, hE, hH⟩
    · rw [keyL_yes hv hin]
      go_enter Try.func15, Try.ntmps15
      go_wp2_with fail
      refine (sCount_t A c xs _ hra0 hl).mono ?_
      rintro e w1 ⟨rfl, rfl⟩
      go_wp2_with (go_at_call 33; refine (l01In_c _ _ _ _).mono ?_; rintro e w' ⟨rfl, rfl⟩)
      clear hv hin hy0
      go_loopw [5, 9] (fun s i wr => ∃ (k : Nat) (A1 : Option Addr) (c1 : Nat), k ≤ xs.length ∧ i = .int .i64 k ∧ s = .slice A1 (keyP xs q k).length c1 ∧ OwnI wr w.heap.size A1 c1 (keyP xs q k) ∧ Below w.heap.size w wr) (fun _ i _ => xs.length - (intOf i).toNat)
      case atStart => exact ⟨0, _, _, Nat.zero_le _, rfl, rfl, hE, hH⟩
      case round =>
        clear hE hH hra0
        obtain ⟨k, A1, cc, hk, rfl, rfl, hO, H⟩ := hrel
        by_cases hlt : k < xs.length
        · obtain ⟨g, off, x, rfl, hg, hc, hx, hd⟩ := (hr.below H (Nat.le_refl _)).at_ hlt
          have hgx := Lib.hid (show xs.getD k 0 = x from getDat hx.out)
          by_cases hneg : x < 0
          · have hk2 : keyAt xs q k = false := by unfold keyAt; rw [hgx.out, decide_eq_false (by omega)]; rfl
            have hst := Lib.hid (key_miss hk2)
            have hdx : decide (0 ≤ x) = false := decide_eq_false (by omega)
            clear hk2
            have hE2 : OwnI (wr.alloc (.cells #[] 3)) wr.heap.size (some ⟨wr.heap.size, 0, none⟩) 0 [] := OwnI.of_blk (xs := []) (Nat.le_refl _) (by unfold maxLen; simp) (Blk.new _ _ _)
            have hos := hO.lt_
            have hsz := H.size
            have hOa : OwnI (wr.alloc (.cells #[] 3)) w.heap.size A1 cc (keyP xs q k) := World.ownsRow.alloc hO _
            have hra := (hr.at_world H).alloc (Nat.le_refl _) (.cells #[] 3)
            have hx0 := hx
            go_wp2_with (first | (at_builtin; refine wpList_append_rd _ rfl (.tmp 32) (.tmp 33) rfl wr.heap.size (some ⟨wr.heap.size, 0, none⟩) 0 0 [] rfl rfl hE2 wr.heap.size (some ⟨g, off, none⟩) xs.length c xs rfl rfl hra (by simp; omega) (by simp) ?_; intro A2 c2 w2 hX hgr hat; (simp only [List.nil_append] at hX); (have hO2 := hOa.kept hgr (fun gb e h => by have := hos gb e; simp only [Value.ownBlock] at h; injection h with h; omega)); (have H2 : Below w.heap.size w w2 := (H.alloc H.size _).grown hgr (by simp; omega) (fun k' hk' => by simp only [Value.ownBlock] at hk'; injection hk' with hk'; omega)); (obtain ⟨g2, rfl, hg2⟩ : ∃ g2, A2 = some ⟨g2, 0, none⟩ ∧ wr.heap.size ≤ g2 := by (obtain ⟨gs2, es2, bs2, -⟩ := OwnI.some_ hX hlt); exact ⟨gs2, es2, bs2⟩); (have hcell := hX.cellI hx0.out); (have hfr := World.ownsRow.frozenAt hX k); (have hst := World.ownsRow.stored hX k (.int .i64 (-1))); (have hX' := hX.stored k (-1)); (have hO3 := Lib.hid (hO2.kept hst.2 (fun gb e h => by have := hos gb e; injection h with h; omega))); (have H3 := Lib.hid (H2.setCell (p := ⟨g2, k, none⟩) (show w.heap.size ≤ g2 by omega) (.int .i64 (-1)))); (obtain ⟨b3, o3, x3, e3, hb3, hc3, hx3, -⟩ := (hr.at_world H3.out).at_ hlt); (obtain ⟨rfl, rfl, rfl⟩ := same3 e3 hx3 hx0); clear hX hgr hat hO2 H2 hst e3 hb3 hx3) | fail)
            go_roundw
            case rel => exact ⟨k + 1, A1, cc, by omega, by go_num, by rw [hst.out], by rw [hst.out]; exact hO3.out, H3.out⟩
            case measure => simp [intOf]; omega
          · have hkq := Lib.hid (show keyAt xs q k = (passB (xs.set k (-1)) q != passB xs q) by unfold keyAt; rw [hgx.out, decide_eq_true (by omega)]; exact Bool.true_and _)
            cases hb1 : passB (xs.set k (-1)) q
            · cases hb2 : passB xs q
              · have hE2 : OwnI (wr.alloc (.cells #[] 3)) wr.heap.size (some ⟨wr.heap.size, 0, none⟩) 0 [] := OwnI.of_blk (xs := []) (Nat.le_refl _) (by unfold maxLen; simp) (Blk.new _ _ _)
                have hos := hO.lt_
                have hsz := H.size
                have hOa : OwnI (wr.alloc (.cells #[] 3)) w.heap.size A1 cc (keyP xs q k) := World.ownsRow.alloc hO _
                have hra := (hr.at_world H).alloc (Nat.le_refl _) (.cells #[] 3)
                have hx0 := hx
                go_wp2_with (first | (at_builtin; refine wpList_append_rd _ rfl (.tmp 32) (.tmp 33) rfl wr.heap.size (some ⟨wr.heap.size, 0, none⟩) 0 0 [] rfl rfl hE2 wr.heap.size (some ⟨g, off, none⟩) xs.length c xs rfl rfl hra (by simp; omega) (by simp) ?_; intro A2 c2 w2 hX hgr hat; (simp only [List.nil_append] at hX); (have hO2 := hOa.kept hgr (fun gb e h => by have := hos gb e; simp only [Value.ownBlock] at h; injection h with h; omega)); (have H2 : Below w.heap.size w w2 := (H.alloc H.size _).grown hgr (by simp; omega) (fun k' hk' => by simp only [Value.ownBlock] at hk'; injection hk' with hk'; omega)); (obtain ⟨g2, rfl, hg2⟩ : ∃ g2, A2 = some ⟨g2, 0, none⟩ ∧ wr.heap.size ≤ g2 := by (obtain ⟨gs2, es2, bs2, -⟩ := OwnI.some_ hX hlt); exact ⟨gs2, es2, bs2⟩); (have hcell := hX.cellI hx0.out); (have hfr := World.ownsRow.frozenAt hX k); (have hst := World.ownsRow.stored hX k (.int .i64 (-1))); (have hX' := hX.stored k (-1)); (have hO3 := Lib.hid (hO2.kept hst.2 (fun gb e h => by have := hos gb e; injection h with h; omega))); (have H3 := Lib.hid (H2.setCell (p := ⟨g2, k, none⟩) (show w.heap.size ≤ g2 by omega) (.int .i64 (-1)))); (obtain ⟨b3, o3, x3, e3, hb3, hc3, hx3, -⟩ := (hr.at_world H3.out).at_ hlt); (obtain ⟨rfl, rfl, rfl⟩ := same3 e3 hx3 hx0); clear hX hgr hat hO2 H2 hst e3 hb3 hx3) | fail)
                clear hO H
                have hO := hO3.out
                have H := H3.out
                have hk2 : keyAt xs q k = false := by rw [hkq.out, hb1, hb2]; rfl
                have hst := Lib.hid (key_miss hk2)
                clear hk2
                go_wp2_with fail
                refine (sPass_set _ _ xs k (-1) q _ hX'.rd hl).mono ?_
                rintro e w3 ⟨rfl, b⟩
                replace H := chain H b (Nat.le_refl _)
                replace hO := hO.next b
                clear b hX'
                go_wp2_with fail
                refine (sPass_c _ _ xs q _ (hr.at_world H) hl).mono ?_
                rintro e w4 ⟨rfl, b⟩
                replace H := chain H b (Nat.le_refl _)
                replace hO := hO.next b
                clear b
                go_wp2
                go_roundw
                case rel => exact ⟨k + 1, A1, cc, by omega, by go_num, by rw [hst.out], by rw [hst.out]; exact hO, H⟩
                case measure => simp [intOf]; omega
              · have hE2 : OwnI (wr.alloc (.cells #[] 3)) wr.heap.size (some ⟨wr.heap.size, 0, none⟩) 0 [] := OwnI.of_blk (xs := []) (Nat.le_refl _) (by unfold maxLen; simp) (Blk.new _ _ _)
                have hos := hO.lt_
                have hsz := H.size
                have hOa : OwnI (wr.alloc (.cells #[] 3)) w.heap.size A1 cc (keyP xs q k) := World.ownsRow.alloc hO _
                have hra := (hr.at_world H).alloc (Nat.le_refl _) (.cells #[] 3)
                have hx0 := hx
                go_wp2_with (first | (at_builtin; refine wpList_append_rd _ rfl (.tmp 32) (.tmp 33) rfl wr.heap.size (some ⟨wr.heap.size, 0, none⟩) 0 0 [] rfl rfl hE2 wr.heap.size (some ⟨g, off, none⟩) xs.length c xs rfl rfl hra (by simp; omega) (by simp) ?_; intro A2 c2 w2 hX hgr hat; (simp only [List.nil_append] at hX); (have hO2 := hOa.kept hgr (fun gb e h => by have := hos gb e; simp only [Value.ownBlock] at h; injection h with h; omega)); (have H2 : Below w.heap.size w w2 := (H.alloc H.size _).grown hgr (by simp; omega) (fun k' hk' => by simp only [Value.ownBlock] at hk'; injection hk' with hk'; omega)); (obtain ⟨g2, rfl, hg2⟩ : ∃ g2, A2 = some ⟨g2, 0, none⟩ ∧ wr.heap.size ≤ g2 := by (obtain ⟨gs2, es2, bs2, -⟩ := OwnI.some_ hX hlt); exact ⟨gs2, es2, bs2⟩); (have hcell := hX.cellI hx0.out); (have hfr := World.ownsRow.frozenAt hX k); (have hst := World.ownsRow.stored hX k (.int .i64 (-1))); (have hX' := hX.stored k (-1)); (have hO3 := Lib.hid (hO2.kept hst.2 (fun gb e h => by have := hos gb e; injection h with h; omega))); (have H3 := Lib.hid (H2.setCell (p := ⟨g2, k, none⟩) (show w.heap.size ≤ g2 by omega) (.int .i64 (-1)))); (obtain ⟨b3, o3, x3, e3, hb3, hc3, hx3, -⟩ := (hr.at_world H3.out).at_ hlt); (obtain ⟨rfl, rfl, rfl⟩ := same3 e3 hx3 hx0); clear hX hgr hat hO2 H2 hst e3 hb3 hx3) | fail)
                clear hO H
                have hO := hO3.out
                have H := H3.out
                have hk2 := Lib.hid (show keyAt xs q k = true by rw [hkq.out, hb1, hb2]; rfl)
                go_wp2_with fail
                refine (sPass_set _ _ xs k (-1) q _ hX'.rd hl).mono ?_
                rintro e w3 ⟨rfl, b⟩
                replace H := chain H b (Nat.le_refl _)
                replace hO := hO.next b
                clear b hX'
                go_wp2_with fail
                refine (sPass_c _ _ xs q _ (hr.at_world H) hl).mono ?_
                rintro e w4 ⟨rfl, b⟩
                replace H := chain H b (Nat.le_refl _)
                replace hO := hO.next b
                clear b
                have hst := Lib.hid (key_hit hk2.out)
                have hO0 := hO
                have hsz1 := H.size
                have hgl := keyP_len xs q k
                have hone : RdI (w4.alloc (.cells #[.int .i64 k] 3)) (w4.alloc (.cells #[.int .i64 k] 3)).heap.size (some ⟨w4.heap.size, 0, none⟩) [(k : Int)] := RdI.of_ints (xs := [(k : Int)]) (Blk.new _ _ _)
                have hOa : OwnI (w4.alloc (.cells #[.int .i64 k] 3)) w.heap.size A1 cc (keyP xs q k) := World.ownsRow.alloc hO _
                go_wp2_with (first | (at_builtin; refine wpList_append_rd _ rfl (.tmp 52) (.tmp 54) rfl w.heap.size A1 (keyP xs q k).length cc (keyP xs q k) rfl rfl hOa (w4.alloc (.cells #[.int .i64 k] 3)).heap.size (some ⟨w4.heap.size, 0, none⟩) 1 1 [(k : Int)] rfl rfl hone (by simp; omega) (by simp; omega) ?_; intro A' c' w1 hOn hgr hat) | fail)
                go_roundw
                case rel =>
                  refine ⟨k + 1, A', c', by omega, by go_num, ?_, ?_, ?_⟩
                  · rw [hst.out, List.length_append]; rfl
                  · rw [hst.out]; exact hOn
                  · exact (H.alloc H.size _).grown hgr (by simp; omega) (fun k' hk' => (World.ownsRow.lt hO0 k' hk').1)
                case measure => simp [intOf]; omega
            · cases hb2 : passB xs q
              · have hE2 : OwnI (wr.alloc (.cells #[] 3)) wr.heap.size (some ⟨wr.heap.size, 0, none⟩) 0 [] := OwnI.of_blk (xs := []) (Nat.le_refl _) (by unfold maxLen; simp) (Blk.new _ _ _)
                have hos := hO.lt_
                have hsz := H.size
                have hOa : OwnI (wr.alloc (.cells #[] 3)) w.heap.size A1 cc (keyP xs q k) := World.ownsRow.alloc hO _
                have hra := (hr.at_world H).alloc (Nat.le_refl _) (.cells #[] 3)
                have hx0 := hx
                go_wp2_with (first | (at_builtin; refine wpList_append_rd _ rfl (.tmp 32) (.tmp 33) rfl wr.heap.size (some ⟨wr.heap.size, 0, none⟩) 0 0 [] rfl rfl hE2 wr.heap.size (some ⟨g, off, none⟩) xs.length c xs rfl rfl hra (by simp; omega) (by simp) ?_; intro A2 c2 w2 hX hgr hat; (simp only [List.nil_append] at hX); (have hO2 := hOa.kept hgr (fun gb e h => by have := hos gb e; simp only [Value.ownBlock] at h; injection h with h; omega)); (have H2 : Below w.heap.size w w2 := (H.alloc H.size _).grown hgr (by simp; omega) (fun k' hk' => by simp only [Value.ownBlock] at hk'; injection hk' with hk'; omega)); (obtain ⟨g2, rfl, hg2⟩ : ∃ g2, A2 = some ⟨g2, 0, none⟩ ∧ wr.heap.size ≤ g2 := by (obtain ⟨gs2, es2, bs2, -⟩ := OwnI.some_ hX hlt); exact ⟨gs2, es2, bs2⟩); (have hcell := hX.cellI hx0.out); (have hfr := World.ownsRow.frozenAt hX k); (have hst := World.ownsRow.stored hX k (.int .i64 (-1))); (have hX' := hX.stored k (-1)); (have hO3 := Lib.hid (hO2.kept hst.2 (fun gb e h => by have := hos gb e; injection h with h; omega))); (have H3 := Lib.hid (H2.setCell (p := ⟨g2, k, none⟩) (show w.heap.size ≤ g2 by omega) (.int .i64 (-1)))); (obtain ⟨b3, o3, x3, e3, hb3, hc3, hx3, -⟩ := (hr.at_world H3.out).at_ hlt); (obtain ⟨rfl, rfl, rfl⟩ := same3 e3 hx3 hx0); clear hX hgr hat hO2 H2 hst e3 hb3 hx3) | fail)
                clear hO H
                have hO := hO3.out
                have H := H3.out
                have hk2 := Lib.hid (show keyAt xs q k = true by rw [hkq.out, hb1, hb2]; rfl)
                go_wp2_with fail
                refine (sPass_set _ _ xs k (-1) q _ hX'.rd hl).mono ?_
                rintro e w3 ⟨rfl, b⟩
                replace H := chain H b (Nat.le_refl _)
                replace hO := hO.next b
                clear b hX'
                go_wp2_with fail
                refine (sPass_c _ _ xs q _ (hr.at_world H) hl).mono ?_
                rintro e w4 ⟨rfl, b⟩
                replace H := chain H b (Nat.le_refl _)
                replace hO := hO.next b
                clear b
                have hst := Lib.hid (key_hit hk2.out)
                have hO0 := hO
                have hsz1 := H.size
                have hgl := keyP_len xs q k
                have hone : RdI (w4.alloc (.cells #[.int .i64 k] 3)) (w4.alloc (.cells #[.int .i64 k] 3)).heap.size (some ⟨w4.heap.size, 0, none⟩) [(k : Int)] := RdI.of_ints (xs := [(k : Int)]) (Blk.new _ _ _)
                have hOa : OwnI (w4.alloc (.cells #[.int .i64 k] 3)) w.heap.size A1 cc (keyP xs q k) := World.ownsRow.alloc hO _
                go_wp2_with (first | (at_builtin; refine wpList_append_rd _ rfl (.tmp 52) (.tmp 54) rfl w.heap.size A1 (keyP xs q k).length cc (keyP xs q k) rfl rfl hOa (w4.alloc (.cells #[.int .i64 k] 3)).heap.size (some ⟨w4.heap.size, 0, none⟩) 1 1 [(k : Int)] rfl rfl hone (by simp; omega) (by simp; omega) ?_; intro A' c' w1 hOn hgr hat) | fail)
                go_roundw
                case rel =>
                  refine ⟨k + 1, A', c', by omega, by go_num, ?_, ?_, ?_⟩
                  · rw [hst.out, List.length_append]; rfl
                  · rw [hst.out]; exact hOn
                  · exact (H.alloc H.size _).grown hgr (by simp; omega) (fun k' hk' => (World.ownsRow.lt hO0 k' hk').1)
                case measure => simp [intOf]; omega
              · have hE2 : OwnI (wr.alloc (.cells #[] 3)) wr.heap.size (some ⟨wr.heap.size, 0, none⟩) 0 [] := OwnI.of_blk (xs := []) (Nat.le_refl _) (by unfold maxLen; simp) (Blk.new _ _ _)
                have hos := hO.lt_
                have hsz := H.size
                have hOa : OwnI (wr.alloc (.cells #[] 3)) w.heap.size A1 cc (keyP xs q k) := World.ownsRow.alloc hO _
                have hra := (hr.at_world H).alloc (Nat.le_refl _) (.cells #[] 3)
                have hx0 := hx
                go_wp2_with (first | (at_builtin; refine wpList_append_rd _ rfl (.tmp 32) (.tmp 33) rfl wr.heap.size (some ⟨wr.heap.size, 0, none⟩) 0 0 [] rfl rfl hE2 wr.heap.size (some ⟨g, off, none⟩) xs.length c xs rfl rfl hra (by simp; omega) (by simp) ?_; intro A2 c2 w2 hX hgr hat; (simp only [List.nil_append] at hX); (have hO2 := hOa.kept hgr (fun gb e h => by have := hos gb e; simp only [Value.ownBlock] at h; injection h with h; omega)); (have H2 : Below w.heap.size w w2 := (H.alloc H.size _).grown hgr (by simp; omega) (fun k' hk' => by simp only [Value.ownBlock] at hk'; injection hk' with hk'; omega)); (obtain ⟨g2, rfl, hg2⟩ : ∃ g2, A2 = some ⟨g2, 0, none⟩ ∧ wr.heap.size ≤ g2 := by (obtain ⟨gs2, es2, bs2, -⟩ := OwnI.some_ hX hlt); exact ⟨gs2, es2, bs2⟩); (have hcell := hX.cellI hx0.out); (have hfr := World.ownsRow.frozenAt hX k); (have hst := World.ownsRow.stored hX k (.int .i64 (-1))); (have hX' := hX.stored k (-1)); (have hO3 := Lib.hid (hO2.kept hst.2 (fun gb e h => by have := hos gb e; injection h with h; omega))); (have H3 := Lib.hid (H2.setCell (p := ⟨g2, k, none⟩) (show w.heap.size ≤ g2 by omega) (.int .i64 (-1)))); (obtain ⟨b3, o3, x3, e3, hb3, hc3, hx3, -⟩ := (hr.at_world H3.out).at_ hlt); (obtain ⟨rfl, rfl, rfl⟩ := same3 e3 hx3 hx0); clear hX hgr hat hO2 H2 hst e3 hb3 hx3) | fail)
                clear hO H
                have hO := hO3.out
                have H := H3.out
                have hk2 : keyAt xs q k = false := by rw [hkq.out, hb1, hb2]; rfl
                have hst := Lib.hid (key_miss hk2)
                clear hk2
                go_wp2_with fail
                refine (sPass_set _ _ xs k (-1) q _ hX'.rd hl).mono ?_
                rintro e w3 ⟨rfl, b⟩
                replace H := chain H b (Nat.le_refl _)
                replace hO := hO.next b
                clear b hX'
                go_wp2_with fail
                refine (sPass_c _ _ xs q _ (hr.at_world H) hl).mono ?_
                rintro e w4 ⟨rfl, b⟩
                replace H := chain H b (Nat.le_refl _)
                replace hO := hO.next b
                clear b
                go_wp2
                go_roundw
                case rel => exact ⟨k + 1, A1, cc, by omega, by go_num, by rw [hst.out], by rw [hst.out]; exact hO, H⟩
                case measure => simp [intOf]; omega
        · obtain rfl : k = xs.length := by omega
          go_wp2
          go_ret
          exact ⟨_, _, rfl, hO, H⟩
end Go.Proofs.Ytifljdnlaginfaa
