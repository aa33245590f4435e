/- Draws of fields. -/
import Derived.Test.YtkbgifnmcklmiaaDrawL
import Derived.Test.YtkbgifnmcklmiaaBestS
namespace Go.Proofs.Ytkbgifnmcklmiaa
open Go.ChangeShapes Go.WideShapes Go.ChangeAt Go.RowKit
set_option linter.unusedVariables false

def okWs (a : Int) (ws : List Int) : Prop := (1 ≤ a ∧ a ≤ 30) ∧ (1 ≤ ws.length ∧ ws.length ≤ 6) ∧ ∀ y ∈ ws, 0 ≤ y ∧ y ≤ 19
def FldP (w : World) (g B : Nat) (code : List Int) (e : Ending) (w' : World) : Prop :=
  ∃ (a : Int) (A : Option Addr) (c : Nat) (ws : List Int), e = .returned (.agg #[.int .i64 a, .slice A ws.length c]) ∧ OwnI w' w.heap.size A c ws ∧ okWs a ws ∧ CurB w' g B code ∧ w.grownBy w' (some g)
theorem OwnI.apart {w : World} {base c g e : Nat} {A : Option Addr} {ws : List Int} {cs : Array Value} (h : OwnI w base A c ws) (B : Blk w g e cs) (hne : e ≠ 3) : ∀ g', A = some ⟨g', 0, none⟩ → g' ≠ g := by
  intro g' hA hg
  subst hg
  exact OwnV.not_row h B hne (by rw [hA]; rfl)
/-- What lies in memory while weeks are drawn. -/
structure WkX (w0 : World) (g B r f : Nat) (code : List Int) (a : Int) (A : Option Addr) (c : Nat) (ws : List Int) (d : Nat → Bool) (w : World) : Prop where
  cur : CurB w g B code
  grew : w0.grownBy w (some g)
  res : Blk w r 27 #[.int .i64 0, .slice none 0 0]
  fld : d 7 = false → Blk w f 27 #[.int .i64 a, .slice A ws.length c]
  row : d 5 = false → OwnI w w0.heap.size A c ws
theorem WkX.next {w0 w w' : World} {g B r f : Nat} {code : List Int} {a : Int} {A : Option Addr} {c : Nat} {ws : List Int} {d : Nat → Bool} (h : WkX w0 g B r f code a A c ws d w) (b : Below w.heap.size w w') (k : Nat) : WkX w0 g B r f code a A c ws (upd d k true) w' :=
  ⟨h.cur.next b, grownBy_below h.grew b, h.res.next b, fun h7 => (h.fld (upd_f h7)).next b, fun h5 => (h.row (upd_f h5)).next b⟩
theorem WkX.drew {w0 w : World} {g B r f : Nat} {code : List Int} {a : Int} {A : Option Addr} {c : Nat} {ws : List Int} {d : Nat → Bool} (h : WkX w0 g B r f code a A c ws d w) : WkX w0 g B r f code a A c ws d w.drew :=
  have b := (Below.refl w.heap.size w).drew
  ⟨h.cur.next b, grownBy_below h.grew b, h.res.next b, fun h7 => (h.fld h7).next b, fun h5 => (h.row h5).next b⟩
def wFacts (w0 f : Nat) (a : Int) (A : Option Addr) (c g : Nat) (ws : List Int) : List Fact :=
  [Fact.val (.pointer (some ⟨f, 1, none⟩)), Fact.val (.slice A ws.length c), Fact.val (.pointer (some ⟨g, 0, none⟩)), ⟨fun v _ => ∃ x : Int, v = .int .i64 x ∧ 0 ≤ x ∧ x ≤ 19, fun _ _ _ _ h => h, true, fun _ _ _ _ h => h⟩,
   Fact.of (fun v w => ∃ (x : Int) (q : Nat), (0 ≤ x ∧ x ≤ 19) ∧ v = .slice (some ⟨q, 0, none⟩) 1 1 ∧ Blk w q 3 #[.int .i64 x]) (fun v w w' b ⟨x, q, h1, h2, h3⟩ => ⟨x, q, h1, h2, h3.next b⟩),
   Fact.of (fun v w => ∃ (x : Int) (A5 : Option Addr) (c5 : Nat), (0 ≤ x ∧ x ≤ 19) ∧ v = .slice A5 (ws.length + 1) c5 ∧ OwnV w w0 3 1 A5 (ws.length + 1) c5 (ints (ws ++ [x]))) (fun v w w' b ⟨x, A5, c5, h1, h2, h3⟩ => ⟨x, A5, c5, h1, h2, h3.next b⟩),
   Fact.val (.pointer (some ⟨f, 1, none⟩)),
   Fact.of (fun v w => ∃ (x : Int) (A5 : Option Addr) (c5 : Nat), (0 ≤ x ∧ x ≤ 19) ∧ Blk w f 27 #[.int .i64 a, .slice A5 (ws.length + 1) c5] ∧ OwnV w w0 3 1 A5 (ws.length + 1) c5 (ints (ws ++ [x]))) (fun v w w' b ⟨x, A5, c5, h1, h2, h3⟩ => ⟨x, A5, c5, h1, h2.next b, h3.next b⟩)]
def wDead : Nat → Nat
  | 4 => 5
  | 5 => 7
  | _ => 999
set_option maxHeartbeats 4000000 in
theorem l27Field_c (g B : Nat) (code : List Int) (w : World) (hC : CurB w g B code) : Calls Try.prog 42 #[.pointer (some ⟨g, 0, none⟩)] w (FldP w g B code) := by
  have hgl := hC.lt
  have R0 := Blk.new w 27 #[.int .i64 0, .slice none 0 0]
  have hC0 := hC.alloc (.cells #[.int .i64 0, .slice none 0 0] 27)
  have hG0 : w.grownBy (w.alloc (.cells #[.int .i64 0, .slice none 0 0] 27)) (some g) := World.grownBy_alloc w _ _
  go_enter Try.func42, Try.ntmps42
  go_wp2_with fail
  refine (l01Below_c g B code 30 _ hC0 (by omega) (by omega)).mono ?_
  rintro e w2 ⟨a0, rfl, a0l, a0h, hC1, hg1⟩
  have hG1 := hG0.trans hg1
  have R1 := R0.grown hg1 (fun e => by injection e with e; omega)
  clear hC0 hG0 hg1 hC R0
  obtain ⟨a, rfl⟩ : ∃ a, a0 = a - 1 := ⟨a0 + 1, by omega⟩
  have ea : 1 + (a - 1) = a := by omega
  have ha1 : 1 ≤ a := by omega
  have ha30 : a ≤ 30 := by omega
  have F1 := Blk.new w2 27 #[.int .i64 a, .slice none 0 0]
  have hsz := hG1.size
  have hCa := hC1.alloc (.cells #[.int .i64 a, .slice none 0 0] 27)
  have hGa := grownBy_al hG1 (.cells #[.int .i64 a, .slice none 0 0] 27)
  have Ra := R1.alloc (.cells #[.int .i64 a, .slice none 0 0] 27)
  have hfr : w.heap.size < w2.heap.size := R1.lt
  obtain ⟨f, hf⟩ : ∃ f, f = w2.heap.size := ⟨_, rfl⟩
  have hgf : g < w2.heap.size := by omega
  go_wp2_with fail
  rw [← hf] at F1 hfr hgf ⊢
  clear hC1 hG1 R1 a0l
  generalize w2.alloc (.cells #[.int .i64 a, .slice none 0 0] 27) = W2 at *
  clear hf
  refine (l01Below_c g B code 6 _ hCa (by omega) (by omega)).mono ?_
  rintro e w3 ⟨n0, rfl, n0l, n0h, hC2, hg2⟩
  have hG2 := hGa.trans hg2
  have R2 := Ra.grown hg2 (fun e => by injection e with e; omega)
  have F2 := F1.grown hg2 (fun e => by injection e with e; omega)
  clear hCa hGa Ra F1 hg2
  obtain ⟨m0, hm0⟩ := Int.eq_ofNat_of_zero_le n0l
  obtain ⟨m, hm⟩ : ∃ m, m = m0 + 1 := ⟨_, rfl⟩
  have em : 1 + n0 = (m : Int) := by omega
  have hm1 : 1 ≤ m := by omega
  have hm6 : m ≤ 6 := by omega
  clear hm hm0 n0l n0h
  go_wp2
  go_loopw [5] (fun i wr => ∃ (k : Nat) (A1 : Option Addr) (c1 : Nat) (ws : List Int), k ≤ m ∧ i = .int .i64 k ∧ Hid (ws.length = k) ∧ Hid (∀ y ∈ ws, 0 ≤ y ∧ y ≤ 19) ∧ CurB wr g B code ∧ w.grownBy wr (some g) ∧ Blk wr w.heap.size 27 #[.int .i64 0, .slice none 0 0] ∧ Blk wr f 27 #[.int .i64 a, .slice A1 ws.length c1] ∧ OwnI wr w.heap.size A1 c1 ws) (fun i _ => m - (intOf i).toNat)
  case atStart => exact ⟨0, none, 0, [], Nat.zero_le _, rfl, rfl, (fun y hy => by cases hy), hC2, hG2, R2, F2, OwnI.nil _ _⟩
  case round =>
    clear hC2 hG2 R2 F2 em
    obtain ⟨k, A1, c1, ws, hk, rfl, hlen, hall, hC, hG, R, F, hO⟩ := hrel
    by_cases hlt : k < m
    · have hl5 : ws.length < 6 := by have := hlen.out; omega
      have hsz2 := hG.size
      go_wp2
      refine wp_region_facts g 3 (wFacts w.heap.size f a A1 c1 g ws) wDead (fun d _ w' => WkX w g B w.heap.size f code a A1 c1 ws d w') (by kernel_rfl) (by kernel_rfl) (fun _ => WkX.drew ⟨hC, hG, R, fun _ => F, fun _ => hO⟩) ?_ ?_
      · refine ⟨?_, ?_, ?_, ?_, ?_, ?_, ?_, ?_, trivial⟩
        · intro d vs w1 hI hcl hk hd
          have hX : WkX w g B w.heap.size f code a A1 c1 ws d w1 := hI.2.2.2
          simp only [putAll, Act.put, List.setIfInBounds_toArray, List.set_cons_succ, List.set_cons_zero]
          go_wp2
          exact ⟨.pointer (some ⟨f, 1, none⟩), rfl, hI.pure_ (k := 0) (v := .pointer (some ⟨f, 1, none⟩)) (by omega) rfl (hX.next (Below.refl _ _) 0)⟩
        · intro d vs w1 hI hcl hk hd
          have hX : WkX w g B w.heap.size f code a A1 c1 ws d w1 := hI.2.2.2
          have h7 : d 7 = false := by
            cases h : d 7
            · rfl
            · exact absurd (hcl 7 _ rfl h) (by simp [hk])
          have hd0 : d 0 = true := by simpa using hd
          have e0 : vs 0 = .pointer (some ⟨f, 1, none⟩) := hI.get hd0 hI.no
          obtain ⟨x0, x1, -, -, xL⟩ := (hX.fld h7).two
          simp only [putAll, Act.put, List.setIfInBounds_toArray, List.set_cons_succ, List.set_cons_zero]
          go_wp2
          exact ⟨.slice A1 ws.length c1, by simp only [e0]; rfl, hI.pure_ (k := 1) (v := .slice A1 ws.length c1) (by omega) rfl (hX.next (Below.refl _ _) 1)⟩
        · intro d vs w1 hI hcl hk hd
          have hX : WkX w g B w.heap.size f code a A1 c1 ws d w1 := hI.2.2.2
          simp only [putAll, Act.put, List.setIfInBounds_toArray, List.set_cons_succ, List.set_cons_zero]
          go_wp2
          exact ⟨.pointer (some ⟨g, 0, none⟩), rfl, hI.pure_ (k := 2) (v := .pointer (some ⟨g, 0, none⟩)) (by omega) rfl (hX.next (Below.refl _ _) 2)⟩
        · intro d vs w1 hI hcl hk hd
          have hX : WkX w g B w.heap.size f code a A1 c1 ws d w1 := hI.2.2.2
          have h7 : d 7 = false := by
            cases h : d 7
            · rfl
            · exact absurd (hcl 7 _ rfl h) (by simp [hk])
          have h5 : d 5 = false := by
            cases h : d 5
            · rfl
            · have := hcl 5 _ rfl h; simp at this; rw [hk] at this; simp at this
          have h4 : d 4 = false := by
            cases h : d 4
            · rfl
            · have := hcl 4 _ rfl h; simp at this; rw [hk] at this; simp at this
          have hd0 : d 2 = true := by simpa using hd
          have e0 : vs 2 = .pointer (some ⟨g, 0, none⟩) := hI.get hd0 hI.no
          simp only [putAll, Act.put, List.setIfInBounds_toArray, List.set_cons_succ, List.set_cons_zero]
          go_wp2_with fail
          refine (l01Below_c g B code 20 _ hX.cur (by omega) (by omega)).mono ?_
          rintro e w4 ⟨x, rfl, x0, x1, hC4, hg4⟩
          go_wp2
          have hfne : some f ≠ some g := fun e => by injection e with e; omega
          have hrne : some w.heap.size ≠ some g := fun e => by injection e with e; omega
          refine ⟨.int .i64 x, by simp only [e0]; rfl, hI.wrote (k := 3) (v := .int .i64 x) (hI.bel.grown hg4 (by have := hI.bel.size; have := hX.cur.lt; omega) (fun q e => by injection e with e; omega)) (fun h => absurd h (by simp [upd])) (by omega) ⟨x, rfl, x0, by omega⟩ (fun j hj hjk hdk hal hP => ?_) ⟨hC4, hX.grew.trans hg4, hX.res.grown hg4 hrne, fun h => (hX.fld (upd_f h)).grown hg4 hfne, fun h => (hX.row (upd_f h)).cur hg4 hgl⟩⟩
          match j, hjk, hdk, hP with
          | 0, _, _, _ => exact .inl rfl
          | 1, _, _, _ => exact .inl rfl
          | 2, _, _, _ => exact .inl rfl
          | 3, h, _, _ => exact absurd rfl h
          | 4, _, _, _ => rw [h4] at hj; cases hj
          | 5, _, _, _ => rw [h5] at hj; cases hj
          | 6, _, _, _ => exact .inl rfl
          | 7, _, _, _ => rw [h7] at hj; cases hj
          | n + 8, _, _, _ => exact .inl rfl
        · intro d vs w1 hI hcl hk hd
          have hX : WkX w g B w.heap.size f code a A1 c1 ws d w1 := hI.2.2.2
          have h7 : d 7 = false := by
            cases h : d 7
            · rfl
            · exact absurd (hcl 7 _ rfl h) (by simp [hk])
          have h5 : d 5 = false := by
            cases h : d 5
            · rfl
            · have := hcl 5 _ rfl h; simp at this; rw [hk] at this; simp at this
          have hd0 : d 3 = true := by simpa using hd
          obtain ⟨x, e3, x0, x1⟩ : ∃ x : Int, vs 3 = .int .i64 x ∧ 0 ≤ x ∧ x ≤ 19 := hI.get hd0 hI.no
          simp only [putAll, Act.put, List.setIfInBounds_toArray, List.set_cons_succ, List.set_cons_zero]
          go_wp2
          have b2 := (Below.refl w1.heap.size w1).alloc (Nat.le_refl _) (.cells #[.int .i64 x] 3)
          exact ⟨.slice (some ⟨w1.heap.size, 0, none⟩) 1 1, by simp only [e3]; rfl, hI.put (k := 4) (v := .slice (some ⟨w1.heap.size, 0, none⟩) 1 1) b2 (by omega) ⟨x, _, ⟨x0, x1⟩, rfl, Blk.new _ _ _⟩ (hX.next b2 4)⟩
        · intro d vs w1 hI hcl hk hd
          have hX : WkX w g B w.heap.size f code a A1 c1 ws d w1 := hI.2.2.2
          have h7 : d 7 = false := by
            cases h : d 7
            · rfl
            · exact absurd (hcl 7 _ rfl h) (by simp [hk])
          have hd0 : d 1 = true ∧ d 4 = true := by simp at hd; exact ⟨hd.1, hd.2.1⟩
          have e1 : vs 1 = .slice A1 ws.length c1 := hI.get hd0.1 hI.no
          obtain ⟨x, q, ⟨x0, x1⟩, e4, B4⟩ : ∃ (x : Int) (q : Nat), (0 ≤ x ∧ x ≤ 19) ∧ vs 4 = .slice (some ⟨q, 0, none⟩) 1 1 ∧ Blk w1 q 3 #[.int .i64 x] := hI.get hd0.2 hk
          have hrow := hX.row hk
          have hcl3 : d 3 = true := by simpa using hcl 4 _ rfl hd0.2
          have hsz1 := hX.grew.size
          have hcur := hX.cur.lt
          have hlt1 : g < w.heap.size := hgl
          simp only [putAll, Act.put, List.setIfInBounds_toArray, List.set_cons_succ, List.set_cons_zero]
          refine wpList_append_v rowInt _ rfl (.tmp 19) (.tmp 22) rfl w.heap.size A1 ws.length c1 (ints ws) e1 hrow w1.heap.size (some ⟨q, 0, none⟩) 1 1 (ints [x]) rfl e4 (RdV.of_blk B4) (ints_one _) (by omega) hsz1 ?_
          intro A5 c5 w4 o5 hg hat
          rw [← ints_append] at o5
          have hrg := hrow.row_ge
          refine ⟨.slice A5 (ws.length + 1) c5, rfl, hI.wrote (k := 5) (v := .slice A5 (ws.length + 1) c5) (hI.bel.grown hg (by have := hI.bel.size; omega) (fun q e => by have := hrg q e; omega)) (fun h => absurd h (by simp [upd, hcl3])) (by omega) ⟨x, A5, c5, ⟨x0, x1⟩, rfl, o5⟩ (fun j hj hjk hdk hal hP => ?_) ⟨hX.cur.kept hg (fun q e => by have := hrg q e; omega), grownBy_over hX.grew hg hrg, hX.res.grown hg (fun e => OwnV.not_row hrow hX.res (by decide) e.symm), fun h => (hX.fld (upd_f h)).grown hg (fun e => OwnV.not_row hrow (hX.fld (upd_f h)) (by decide) e.symm), fun h => absurd h (by simp [upd])⟩⟩
          match j, hjk, hdk, hP with
          | 0, _, _, _ => exact .inl rfl
          | 1, _, _, _ => exact .inl rfl
          | 2, _, _, _ => exact .inl rfl
          | 3, _, _, _ => exact .inl rfl
          | 4, _, h, _ => exact absurd rfl h
          | 5, h, _, _ => exact absurd rfl h
          | 6, _, _, _ => exact .inl rfl
          | 7, _, _, _ => rw [h7] at hj; cases hj
          | n + 8, _, _, _ => exact .inl rfl
        · intro d vs w1 hI hcl hk hd
          have hX : WkX w g B w.heap.size f code a A1 c1 ws d w1 := hI.2.2.2
          simp only [putAll, Act.put, List.setIfInBounds_toArray, List.set_cons_succ, List.set_cons_zero]
          go_wp2
          exact ⟨.pointer (some ⟨f, 1, none⟩), rfl, hI.pure_ (k := 6) (v := .pointer (some ⟨f, 1, none⟩)) (by omega) rfl (hX.next (Below.refl _ _) 6)⟩
        · intro d vs w1 hI hcl hk hd
          have hX : WkX w g B w.heap.size f code a A1 c1 ws d w1 := hI.2.2.2
          have hd0 : d 6 = true ∧ d 5 = true := by simp at hd; simp [hd]
          have e6 : vs 6 = .pointer (some ⟨f, 1, none⟩) := hI.get hd0.1 hI.no
          obtain ⟨x, A5, c5, ⟨x0, x1⟩, e5, o5⟩ : ∃ (x : Int) (A5 : Option Addr) (c5 : Nat), (0 ≤ x ∧ x ≤ 19) ∧ vs 5 = .slice A5 (ws.length + 1) c5 ∧ OwnV w1 w.heap.size 3 1 A5 (ws.length + 1) c5 (ints (ws ++ [x])) := hI.get hd0.2 hk
          have F1 := hX.fld hk
          obtain ⟨y0, y1, yf0, yf1, yL⟩ := F1.two
          have hap := fun g' (e : A5 = some ⟨g', 0, none⟩) => show g' ≠ f from fun h => OwnV.not_row o5 F1 (by decide) (by rw [e, h]; rfl)
          have hg4 := grownBy_set (w := w1) (g := f) (i := 1) (.slice A5 (ws.length + 1) c5)
          have hbel := hI.bel
          simp only [putAll, Act.put, List.setIfInBounds_toArray, List.set_cons_succ, List.set_cons_zero]
          go_wp2
          refine ⟨undef, by simp only [e5, e6]; rfl, hI.wrote (k := 7) (v := undef) (hbel.grown hg4 (by have := hbel.size; omega) (fun q e => by injection e with e; omega)) (fun h => ?_) (by omega) ⟨x, A5, c5, ⟨x0, x1⟩, F1.put2_1 _, OwnV.far o5 hap _⟩ (fun j hj hjk hdk hal hP => ?_) ⟨hX.cur.put hgf _, grownBy_put hX.grew (by omega) _, hX.res.far (by simp; omega) _, fun h => absurd h (by simp [upd]), fun h => ?_⟩⟩
          · have h4 := hcl 5 _ rfl hd0.2
            simp at h4
            have h3 := hcl 4 _ rfl h4.2.1
            simp at h3
            exact absurd h (by simp [upd, h3])
          · match j, hjk, hdk, hP with
            | 0, _, _, _ => exact .inl rfl
            | 1, _, _, _ => exact .inl rfl
            | 2, _, _, _ => exact .inl rfl
            | 3, _, _, _ => exact .inl rfl
            | 4, _, _, _ => exact absurd hal (by simp [wDead, hd0.2])
            | 5, _, h, _ => exact absurd rfl h
            | 6, _, _, _ => exact .inl rfl
            | 7, h, _, _ => exact absurd rfl h
            | n + 8, _, _, _ => exact .inl rfl
          · exact absurd h (by simp [upd, hd0.2])
      · intro d vs w1 hI hd
        have hX : WkX w g B w.heap.size f code a A1 c1 ws d w1 := hI.2.2.2
        obtain ⟨x, A5, c5, ⟨x0, x1⟩, F5, o5⟩ : ∃ (x : Int) (A5 : Option Addr) (c5 : Nat), (0 ≤ x ∧ x ≤ 19) ∧ Blk w1 f 27 #[.int .i64 a, .slice A5 (ws.length + 1) c5] ∧ OwnV w1 w.heap.size 3 1 A5 (ws.length + 1) c5 (ints (ws ++ [x])) := hI.get (hd 7 (by decide)) hI.no
        have hC5 := hX.cur
        have hG5 := hX.grew
        have hR5 := hX.res
        obtain ⟨ws2, hw2⟩ : ∃ ws2, ws ++ [x] = ws2 := ⟨_, rfl⟩
        have hl2 : ws.length + 1 = ws2.length := by rw [← hw2]; simp
        rw [hl2] at F5 o5
        rw [hw2] at o5
        have hlen2 := Lib.hid (show ws2.length = k + 1 by have := hlen.out; omega)
        have hall2 := Lib.hid (show ∀ y ∈ ws2, 0 ≤ y ∧ y ≤ 19 by
          intro y hy
          rw [← hw2] at hy
          rcases List.mem_append.1 hy with h | h
          · exact hall.out y h
          · rw [List.mem_singleton.1 h]; exact ⟨x0, x1⟩)
        clear hI hX hd hC hG R F hO hlen hall hl5 hl2 hw2
        simp only [putAll, Act.put, List.setIfInBounds_toArray, List.set_cons_succ, List.set_cons_zero]
        generalize vs 0 = z0
        generalize vs 1 = z1
        generalize vs 2 = z2
        generalize vs 3 = z3
        generalize vs 4 = z4
        generalize vs 5 = z5
        generalize vs 6 = z6
        go_wp2
        go_roundw
        case rel => exact ⟨k + 1, A5, c5, ws2, by omega, by go_num, hlen2, hall2, hC5, hG5, hR5, F5, o5⟩
        case measure => simp [intOf]; omega
    · have hkI : ¬ (k : Int) < (m : Int) := by omega
      obtain ⟨r0, r1, rf0, rf1, rL⟩ := R.two
      obtain ⟨x0, x1, -, -, xL⟩ := F.two
      have hok := Lib.hid (show okWs a ws from ⟨⟨by omega, by omega⟩, ⟨by have := hlen.out; omega, by have := hlen.out; omega⟩, hall.out⟩)
      have hap1 := OwnI.apart hO R (by decide)
      have hap1' := Lib.hid hap1
      clear hap1
      go_wp2
      have hS2 : OwnI ((wr.setCell ⟨w.heap.size, 0, none⟩ (.int .i64 a)).setCell ⟨w.heap.size, 1, none⟩ (.slice A1 ws.length c1)) w.heap.size A1 c1 ws := OwnV.far (OwnV.far hO hap1'.out _) hap1'.out _
      refine bodyPost_ret (v := .agg #[.int .i64 a, .slice A1 ws.length c1]) (by simp [results, Try.results42, go_sem, *]) rfl ⟨a, A1, c1, ws, rfl, hS2, hok.out, (hC.put hgl _).put hgl _, grownBy_put (grownBy_put hG (Nat.le_refl _) _) (Nat.le_refl _) _⟩
end Go.Proofs.Ytkbgifnmcklmiaa
