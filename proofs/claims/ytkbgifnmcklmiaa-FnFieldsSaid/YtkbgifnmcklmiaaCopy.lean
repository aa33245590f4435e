/- The copy of a field that the reference makes. -/
import Derived.Test.YtkbgifnmcklmiaaBest
namespace Go.Proofs.Ytkbgifnmcklmiaa
open Go.ChangeShapes Go.WideShapes Go.ChangeAt Go.RowKit
set_option linter.unusedVariables false

theorem RdI.toV {w : World} {B : Nat} {A : Option Addr} {xs : List Int} (h : RdI w B A xs) : RdV w B A (ints xs) := by
  rcases h with e | ⟨b, off, e, hb, hc⟩
  · subst e; exact .inl rfl
  · refine .inr ⟨b, off, e, hb, fun k u hk => ?_⟩
    simp only [ints, List.getElem?_map, Option.map_eq_some_iff] at hk
    obtain ⟨x, hx, rfl⟩ := hk
    exact hc k x hx
/-- A copy of a field: its own row. -/
def RetCp (w : World) (a : Int) (ws : List Int) (e : Ending) (w' : World) : Prop := ∃ A c, e = .returned (.agg #[.int .i64 a, .slice A ws.length c]) ∧ OwnI w' w.heap.size A c ws ∧ Below w.heap.size w w'
set_option maxHeartbeats 2000000 in
theorem copy_c (a : Int) (A : Option Addr) (c : Nat) (ws : List Int) (w : World) (hr : RdI w w.heap.size A ws) (hl : ws.length ≤ 1048576) :
    Calls Try.prog 38 #[.agg #[.int .i64 a, .slice A ws.length c]] w (RetCp w a ws) := by
  have P := (Blk.new w 27 #[.int .i64 a, .slice A ws.length c]).alloc (.cells #[.int .i64 0, .slice none 0 0] 27)
  have R := Blk.new (w.alloc (.cells #[.int .i64 a, .slice A ws.length c] 27)) 27 #[.int .i64 0, .slice none 0 0]
  simp only [World.size_alloc] at R
  have H : Below w.heap.size w ((w.alloc (.cells #[.int .i64 a, .slice A ws.length c] 27)).alloc (.cells #[.int .i64 0, .slice none 0 0] 27)) := (((Below.refl w.heap.size w).alloc (by first | exact Nat.le_refl _ | (simp only [World.size_alloc]; omega)) (.cells #[.int .i64 a, .slice A ws.length c] 27)).alloc (by first | exact Nat.le_refl _ | (simp only [World.size_alloc]; omega)) (.cells #[.int .i64 0, .slice none 0 0] 27))
  have hr2 := hr.at_world H
  have hsz : ((w.alloc (.cells #[.int .i64 a, .slice A ws.length c] 27)).alloc (.cells #[.int .i64 0, .slice none 0 0] 27)).heap.size = w.heap.size + 2 := by simp
  go_enter Try.func38, Try.ntmps38
  go_wp2
  generalize (w.alloc (.cells #[.int .i64 a, .slice A ws.length c] 27)).alloc (.cells #[.int .i64 0, .slice none 0 0] 27) = W at *
  have hle : w.heap.size ≤ W.heap.size := by omega
  have hle2 : w.heap.size + 1 < W.heap.size := by omega
  clear hsz
  refine wp_region_facts w.heap.size 7 [Fact.val (.pointer (some ⟨w.heap.size, 0, none⟩)), Fact.val (.int .i64 a), Fact.blk W.heap.size 3 0 #[], Fact.val (.pointer (some ⟨w.heap.size, 1, none⟩)), Fact.val (.slice A ws.length c), Fact.own W.heap.size 3 1 ws.length (ints ws),
      Fact.of (fun x w1 => ∃ A2 c2, x = .agg #[.int .i64 a, .slice A2 ws.length c2] ∧ OwnV w1 W.heap.size 3 1 A2 ws.length c2 (ints ws)) (fun x w1 w2 b ⟨A2, c2, h1, h2⟩ => ⟨A2, c2, h1, h2.next b⟩),
      Fact.of (fun x w1 => ∃ A2 c2, Blk w1 (w.heap.size + 1) 27 #[.int .i64 a, .slice A2 ws.length c2] ∧ OwnV w1 W.heap.size 3 1 A2 ws.length c2 (ints ws)) (fun x w1 w2 b ⟨A2, c2, h1, h2⟩ => ⟨A2, c2, h1.next b, h2.next b⟩)]
      (fun j => match j with | 2 => 5 | 5 => 7 | 6 => 7 | _ => 999) (fun _ _ _ => True) (by kernel_rfl) (by kernel_rfl) (fun _ => trivial) ?_ ?_
  · refine ⟨?_, ?_, ?_, ?_, ?_, ?_, ?_, ?_, trivial⟩
    · intro d vs w1 hI hcl hk hd
      simp only [putAll, Act.put, List.setIfInBounds_toArray, List.set_cons_succ, List.set_cons_zero]
      go_wp2
      exact ⟨.pointer (some ⟨w.heap.size, 0, none⟩), rfl, hI.pure_ (k := 0) (v := .pointer (some ⟨w.heap.size, 0, none⟩)) (by omega) rfl trivial⟩
    · intro d vs w1 hI hcl hk hd
      have h7 : d 7 = false := by
        cases h : d 7
        · rfl
        · exact absurd (hcl 7 _ rfl h) (by simp [hk])
      have hd0 : d 0 = true := by simpa using hd
      have e0 : vs 0 = .pointer (some ⟨w.heap.size, 0, none⟩) := hI.get hd0 hI.no
      obtain ⟨p0, p1, -, -, pL⟩ := (P.next (hI.old h7)).two
      simp only [putAll, Act.put, List.setIfInBounds_toArray, List.set_cons_succ, List.set_cons_zero]
      go_wp2
      exact ⟨.int .i64 a, by simp only [e0]; rfl, hI.pure_ (k := 1) (v := .int .i64 a) (by omega) rfl trivial⟩
    · intro d vs w1 hI hcl hk hd
      have h7 : d 7 = false := by
        cases h : d 7
        · rfl
        · exact absurd (hcl 7 _ rfl h) (by simp [hk])
      simp only [putAll, Act.put, List.setIfInBounds_toArray, List.set_cons_succ, List.set_cons_zero]
      go_wp2
      exact ⟨.slice (some ⟨w1.heap.size, 0, none⟩) 0 0, rfl, hI.put (k := 2) (v := .slice (some ⟨w1.heap.size, 0, none⟩) 0 0) ((Below.refl _ _).alloc (Nat.le_refl _) _) (by omega) ⟨_, rfl, (hI.old h7).size, Blk.new _ _ _⟩ trivial⟩
    · intro d vs w1 hI hcl hk hd
      simp only [putAll, Act.put, List.setIfInBounds_toArray, List.set_cons_succ, List.set_cons_zero]
      go_wp2
      exact ⟨.pointer (some ⟨w.heap.size, 1, none⟩), rfl, hI.pure_ (k := 3) (v := .pointer (some ⟨w.heap.size, 1, none⟩)) (by omega) rfl trivial⟩
    · intro d vs w1 hI hcl hk hd
      have h7 : d 7 = false := by
        cases h : d 7
        · rfl
        · exact absurd (hcl 7 _ rfl h) (by simp [hk])
      have hd0 : d 3 = true := by simpa using hd
      have e0 : vs 3 = .pointer (some ⟨w.heap.size, 1, none⟩) := hI.get hd0 hI.no
      obtain ⟨p0, p1, -, -, pL⟩ := (P.next (hI.old h7)).two
      simp only [putAll, Act.put, List.setIfInBounds_toArray, List.set_cons_succ, List.set_cons_zero]
      go_wp2
      exact ⟨.slice A ws.length c, by simp only [e0]; rfl, hI.pure_ (k := 4) (v := .slice A ws.length c) (by omega) rfl trivial⟩
    · intro d vs w1 hI hcl hk hd
      have h7 : d 7 = false := by
        cases h : d 7
        · rfl
        · exact absurd (hcl 7 _ rfl h) (by simp [hk])
      have hd0 : d 2 = true ∧ d 4 = true := by simp at hd; exact ⟨hd.1, hd.2⟩
      obtain ⟨g, e2, hg0, B⟩ : (Fact.blk W.heap.size 3 0 #[]).P (vs 2) w1 := hI.get hd0.1 hk
      have e4 : vs 4 = .slice A ws.length c := hI.get hd0.2 hI.no
      have hv : RdV w1 w1.heap.size A (ints ws) := RdV.step hr2.toV (hI.old h7)
      simp only [putAll, Act.put, List.setIfInBounds_toArray, List.set_cons_succ, List.set_cons_zero]
      refine wpList_append_v rowInt _ rfl (.tmp 5) (.tmp 7) rfl W.heap.size (some ⟨g, 0, none⟩) 0 0 [] e2 (OwnV.of_blk hg0 rfl (Nat.zero_le _) B) w1.heap.size A ws.length c (ints ws) (by simp) e4 hv (ints_one ws) (by omega) (hI.old h7).size ?_
      intro A2 c2 w2 hown hg hat
      rw [List.nil_append, Nat.zero_add] at hown
      exact ⟨.slice A2 (0 + ws.length) c2, rfl, hI.row (k := 5) (v := .slice A2 (0 + ws.length) c2) hg (fun k e => by simp only [Value.ownBlock] at e; injection e with e; omega) (by omega) ⟨A2, c2, by rw [Nat.zero_add], hown⟩ (fun j hj hjk hdk _ _ => by
        match j, hjk, hdk with
        | 0, _, _ => exact .inl rfl
        | 1, _, _ => exact .inl rfl
        | 2, _, h => exact absurd rfl h
        | 3, _, _ => exact .inl rfl
        | 4, _, _ => exact .inl rfl
        | 5, h, _ => exact absurd rfl h
        | 6, _, _ => exact absurd (hcl 6 _ rfl hj) (by simp [hk])
        | 7, _, _ => exact absurd hj (by simp [h7])
        | n + 8, _, _ => exact .inl rfl) trivial⟩
    · intro d vs w1 hI hcl hk hd
      have h7 : d 7 = false := by
        cases h : d 7
        · rfl
        · exact absurd (hcl 7 _ rfl h) (by simp [hk])
      have hd0 : d 1 = true ∧ d 5 = true := by simp at hd; exact ⟨hd.1, hd.2⟩
      obtain ⟨A2, c2, e5, hown⟩ : (Fact.own W.heap.size 3 1 ws.length (ints ws)).P (vs 5) w1 := hI.get hd0.2 h7
      have e1 : vs 1 = .int .i64 a := hI.get hd0.1 hI.no
      simp only [putAll, Act.put, List.setIfInBounds_toArray, List.set_cons_succ, List.set_cons_zero]
      go_wp2
      exact ⟨.agg #[.int .i64 a, .slice A2 ws.length c2], by simp only [e1, e5]; rfl, hI.pure_ (k := 6) (v := .agg #[.int .i64 a, .slice A2 ws.length c2]) (by omega) ⟨A2, c2, rfl, hown⟩ trivial⟩
    · intro d vs w1 hI hcl hk hd
      have hd0 : d 6 = true := by simp at hd; exact hd.1
      obtain ⟨A2, c2, e6, hown⟩ : ∃ A2 c2, vs 6 = .agg #[.int .i64 a, .slice A2 ws.length c2] ∧ OwnV w1 W.heap.size 3 1 A2 ws.length c2 (ints ws) := hI.get hd0 hk
      have R1 := R.next (hI.old hk)
      obtain ⟨r0, r1, rf0, rf1, rL⟩ := R1.two
      have hB := hI.bel
      have hnb : ∀ g, A2 = some ⟨g, 0, none⟩ → g ≠ w.heap.size + 1 := fun g e => by
        have := hown.row_ge g (by rw [e]; rfl)
        omega
      simp only [putAll, Act.put, List.setIfInBounds_toArray, List.set_cons_succ, List.set_cons_zero]
      go_wp2
      have hS : Below w.heap.size w1 ((w1.setCell ⟨w.heap.size + 1, 0, none⟩ (.int .i64 a)).setCell ⟨w.heap.size + 1, 1, none⟩ (.slice A2 ws.length c2)) := ((Below.refl _ _).setCell (p := ⟨w.heap.size + 1, 0, none⟩) (Nat.le_succ _) _).setCell (p := ⟨w.heap.size + 1, 1, none⟩) (Nat.le_succ _) _
      have hO2 : OwnV ((w1.setCell ⟨w.heap.size + 1, 0, none⟩ (.int .i64 a)).setCell ⟨w.heap.size + 1, 1, none⟩ (.slice A2 ws.length c2)) W.heap.size 3 1 A2 ws.length c2 (ints ws) := (OwnV.far hown hnb _).far hnb _
      exact ⟨undef, by simp only [e6]; rfl, hI.wrote (k := 7) (v := undef) (hB.trans hS) (fun h => absurd h (by simp [upd])) (by omega) ⟨A2, c2, R1.put2 _ _, hO2⟩ (fun j hj hjk hdk hal _ => by
        match j, hjk, hdk with
        | 0, _, _ => exact .inl rfl
        | 1, _, _ => exact .inl rfl
        | 2, _, _ => exact absurd hal (by have := hcl 6 _ rfl hd0; simp at this; simp [this.2])
        | 3, _, _ => exact .inl rfl
        | 4, _, _ => exact .inl rfl
        | 5, _, h => exact absurd rfl h
        | 6, _, h => exact absurd rfl h
        | 7, h, _ => exact absurd rfl h
        | n + 8, _, _ => exact .inl rfl) trivial⟩
  · intro d vs w1 hI hd
    obtain ⟨A2, c2, B, hown⟩ : ∃ A2 c2, Blk w1 (w.heap.size + 1) 27 #[.int .i64 a, .slice A2 ws.length c2] ∧ OwnV w1 W.heap.size 3 1 A2 ws.length c2 (ints ws) := hI.get (hd 7 (by decide)) hI.no
    obtain ⟨q0, q1, -, -, qL⟩ := B.two
    have H2 := H.trans hI.bel
    simp only [putAll, Act.put, List.setIfInBounds_toArray, List.set_cons_succ, List.set_cons_zero]
    go_wp2
    refine bodyPost_ret (v := .agg #[.int .i64 a, .slice A2 ws.length c2]) (by simp [results, Try.results38, go_sem, *]) rfl ⟨A2, c2, rfl, ?_, ?_⟩
    · exact OwnV.more hown hle
    · exact H2
end Go.Proofs.Ytkbgifnmcklmiaa
