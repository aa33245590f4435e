/- Words for the laws of jugs: slices of slices that lie below or above what is written. -/
import Derived.Test.YtdnknddldfihdaaStepsS
namespace Go.Proofs.Ytdnknddldfihdaa
open Go.ChangeShapes Go.WideShapes Go.ChangeAt Go.RowKit
set_option linter.unusedVariables false

/-- All its blocks lie below M. -/
def LtSS (M : Nat) (A : Option Addr) (ts : List Tr) : Prop := (∀ g, A = some ⟨g, 0, none⟩ → g < M) ∧ ∀ t ∈ ts, t.1 < M
section
variable {w w' : World} {base M C c g : Nat} {A : Option Addr} {ts : List Tr}
theorem OwnSS.lt (h : OwnSS w base A c ts) : LtSS w.heap.size A ts := ⟨fun g e => by
  rcases h.row.form with ⟨e0, _⟩ | ⟨g0, e0, _, hl, _⟩
  · rw [e0] at e; cases e
  · rw [e0] at e; injection e with e; injection e with e; omega, fun t ht => (h.all t ht).b.2⟩
theorem OwnSS.above (h : OwnSS w base A c ts) (hL : LtSS M A ts) (hg : w.grownBy w' (some g)) (hM : M ≤ g) : OwnSS w' base A c ts :=
  h.kept hg (fun g' e hk => by injection hk with hk; have := hL.1 g' e; omega) (fun t ht hk => by injection hk with hk; have := hL.2 t ht; omega)
theorem OwnSS.belowB (h : OwnSS w base A c ts) (hL : LtSS M A ts) (hb : Below C w w') (hM : M ≤ C) : OwnSS w' base A c ts := by
  refine ⟨⟨h.row.1, ?_⟩, fun t ht => ⟨(h.all t ht).1, ?_⟩, h.dis⟩
  · rcases h.row.2 with hn | ⟨g, cap, cur, hv, hb', hh, rest⟩
    · exact .inl hn
    · have hA : A = some ⟨g, 0, none⟩ := by injection hv
      exact .inr ⟨g, cap, cur, hv, hb', (hb.block g (Nat.lt_of_lt_of_le (hL.1 g hA) hM)).trans hh, rest⟩
  · rcases (h.all t ht).2 with hn | ⟨g, cap, cur, hv, hb', hh, rest⟩
    · exact .inl hn
    · have hA : t.1 = g := by injection hv with e1; injection e1 with e1; injection e1
      exact .inr ⟨g, cap, cur, hv, hb', (hb.block g (by have := hL.2 t ht; omega)).trans hh, rest⟩
end
/-- A list of lists that is not great. -/
def SmallL (L : List (List Int)) : Prop := L.length ≤ 10000 ∧ ∀ y ∈ L, y.length ≤ 3
def TsOk (ts : List Tr) : Prop := ts.length ≤ 10000 ∧ (∀ t ∈ ts, t.2.2.length ≤ 1048576) ∧ totT ts ≤ 30000
theorem SmallL.tot {ts : List Tr} (h : SmallL (valT ts)) : TsOk ts := by
  have h1 : ∀ t ∈ ts, t.2.2.length ≤ 3 := fun t ht => h.2 _ (List.mem_map_of_mem ht)
  have hl : ts.length ≤ 10000 := by have := h.1; rwa [valT_length] at this
  refine ⟨hl, fun t ht => by have := h1 t ht; omega, ?_⟩
  have : ∀ us : List Tr, (∀ t ∈ us, t.2.2.length ≤ 3) → totT us ≤ 3 * us.length := by
    intro us
    induction us with
    | nil => intro _; exact Nat.le_refl _
    | cons t r ih =>
      intro hu
      have h2 := hu t List.mem_cons_self
      have h3 := ih (fun x hx => hu x (List.mem_cons_of_mem _ hx))
      show t.2.2.length + totT r ≤ 3 * (r.length + 1)
      omega
  have := this ts h1
  omega
theorem insL_len (x : List Int) (L : List (List Int)) : (insL x L).length ≤ L.length + 1 := by
  obtain ⟨k, hk, _, ⟨e, _⟩ | ⟨e, _⟩⟩ := insL_cut x L
  · rw [e]; omega
  · rw [e]; simp; omega
theorem fold_len {s : List Int} : ∀ (l out : List (List Int)), (l.foldl (fun out x => if x == s then out else insL x out) out).length ≤ out.length + l.length
  | [], out => by simp
  | x :: l, out => by
    rw [List.foldl_cons, List.length_cons]
    have h := fold_len (s := s) l (if x == s then out else insL x out)
    have h2 : (if x == s then out else insL x out).length ≤ out.length + 1 := by
      split
      · omega
      · exact insL_len x out
    omega
theorem steps_small (J s : List Int) : SmallL (stepsP J s) := by
  unfold stepsP
  split
  · rename_i h
    simp only [Bool.and_eq_true, beq_iff_eq] at h
    have hJ := jok_of h.1
    have hs := h.2.1
    have h3 := hJ.l3
    refine ⟨?_, fun y hy => ?_⟩
    · have h1 := fold_len (s := s) (movesL J s) []
      have h2 : (movesL J s).length ≤ 16 := by
        have hJl : J.length = 1 ∨ J.length = 2 ∨ J.length = 3 := by have := hJ.l1; omega
        unfold movesL
        rcases hJl with e | e | e <;> rw [e] <;> simp [List.range_succ, List.flatMap] <;> decide
      unfold stepsL
      rw [List.length_nil, Nat.zero_add] at h1
      exact Nat.le_trans h1 (by omega)
    · have := acc_steps.2.2 y hy
      omega
  · exact ⟨by simp, by simp⟩
theorem eqSS_yes (B C : Nat) (A A' : Option Addr) (c c' : Nat) (ts us : List Tr) (w : World) (hO : OwnSS w B A c ts) (hO' : OwnSS w C A' c' us) (L : List (List Int)) (h1 : valT ts = L) (h2 : valT us = L) (hS : SmallL L) :
    Calls Try.prog 25 #[.slice A ts.length c, .slice A' us.length c'] w fun e w' => e = .returned (.bool true) ∧ Below w.heap.size w w' := by
  rw [← h1] at hS
  have ht := hS.tot
  have := eqIntSS_c B C A A' c c' ts us w hO hO' (by have := ht.1; omega) ht.2.1
  rw [h1, h2, show (L == L) = true by simp] at this
  exact this
end Go.Proofs.Ytdnknddldfihdaa
