/- The program's search, in memory: what lies where. -/
import Derived.Test.YtdnknddldfihdaaLawJ
namespace Go.Proofs.Ytdnknddldfihdaa
open Go.ChangeShapes Go.WideShapes Go.ChangeAt Go.RowKit
set_option linter.unusedVariables false

theorem stepsP_ok {J s : List Int} (hj : jugsB J = true) (h : OkS J s) : stepsP J s = stepsL J s :=
  stepsP_yes hj h.1 (decide_eq_true (fun j hj => h.2 j (by rw [← h.1]; exact hj)))
/-- Outside of what the steps occupy. -/
def Out (b t g : Nat) : Prop := g < b ∨ t ≤ g
/-- What lies in memory while the steps of one state are gone through. -/
structure S2 (w0 : World) (base b2 t2 m : Nat) (us : List Tr) (B : Option Addr) (d : Nat) (A : Option Addr) (c : Nat) (ts : List Tr) (fA : Option Addr) (fc : Nat) (F : List Int) (wr : World) : Prop where
  own : OwnSS wr base A c ts
  frm : OwnI wr base fA fc F
  stp : OwnSS wr b2 B d us
  bel : Below base w0 wr
  hA : ∀ g, A = some ⟨g, 0, none⟩ → Out b2 t2 g
  hF : ∀ g, fA = some ⟨g, 0, none⟩ → Out b2 t2 g
  hT : ∀ t ∈ ts, Out b2 t2 t.1 ∨ ∃ u ∈ us.take m, t.1 = u.1
  ap : ∀ t ∈ ts, ∀ g, fA = some ⟨g, 0, none⟩ → g ≠ t.1
  sz : t2 ≤ wr.heap.size
  hB : ∀ g, B = some ⟨g, 0, none⟩ → b2 ≤ g ∧ g < t2
  hU : ∀ u ∈ us, b2 ≤ u.1 ∧ u.1 < t2
  bb : base ≤ b2
section
variable {w0 wr w' : World} {base b2 t2 m d c fc : Nat} {us ts : List Tr} {B A fA : Option Addr} {F : List Int}
theorem OwnI.row_of {w : World} {base c : Nat} {A : Option Addr} {xs : List Int} (h : OwnI w base A c xs) : ∀ k n, (Value.slice A n c).ownBlock = some k → A = some ⟨k, 0, none⟩ := fun k n hk => by
  rcases h.form with ⟨e0, _⟩ | ⟨g0, e0, _⟩
  · rw [e0] at hk; cases hk
  · rw [e0] at hk ⊢; simp only [Value.ownBlock] at hk; injection hk with hk; rw [hk]
theorem OwnSS.row_of {w : World} {base c : Nat} {A : Option Addr} {ts : List Tr} (h : OwnSS w base A c ts) : ∀ k n, (Value.slice A n c).ownBlock = some k → A = some ⟨k, 0, none⟩ := fun k n hk => by
  rcases h.row.form with ⟨e0, _⟩ | ⟨g0, e0, _⟩
  · rw [e0] at hk; cases hk
  · rw [e0] at hk ⊢; simp only [Value.ownBlock] at hk; injection hk with hk; rw [hk]
/-- A slice of ints and a slice of slices lie apart. -/
theorem OwnSS.apartI {w : World} {base b3 c fc : Nat} {A fA : Option Addr} {ts : List Tr} {F : List Int} (h : OwnSS w base A c ts) (hf : OwnI w b3 fA fc F) : ∀ g g', A = some ⟨g, 0, none⟩ → fA = some ⟨g', 0, none⟩ → g ≠ g' := fun g g' e e' he => by
  have h1 := OwnV.apart (e' := 3) h.row (h' := (show OwnV w b3 3 1 fA F.length fc (ints F) from hf)) (by decide) g e
  rw [e', he] at h1
  exact h1 rfl
theorem S2.next (h : S2 w0 base b2 t2 m us B d A c ts fA fc F wr) (b : Below wr.heap.size wr w') (hb : base ≤ w0.heap.size) : S2 w0 base b2 t2 m us B d A c ts fA fc F w' :=
  { h with own := h.own.next b, frm := h.frm.next b, stp := h.stp.next b, bel := chain h.bel b hb, sz := Nat.le_trans h.sz b.size }
theorem take_up {u : Tr} {l : List Tr} {m : Nat} (h : u ∈ l.take m) : u ∈ l.take (m + 1) := by
  rw [List.take_add_one]
  exact List.mem_append.2 (.inl h)
theorem S2.skip (h : S2 w0 base b2 t2 m us B d A c ts fA fc F wr) : S2 w0 base b2 t2 (m + 1) us B d A c ts fA fc F wr := by
  refine { h with hT := fun t ht => ?_ }
  rcases h.hT t ht with h1 | ⟨u, hu, e⟩
  · exact .inl h1
  · exact .inr ⟨u, take_up hu, e⟩
theorem S2.app (h : S2 w0 base b2 t2 m us B d A c ts fA fc F wr) {A' : Option Addr} {c' : Nat} {u : Tr} (hu : us[m]? = some u) (ho : OwnV w' base 22 1 A' (ts.length + 1) c' (ts.map encT ++ [encT u])) (hg : wr.grownBy w' (Value.slice A ts.length c).ownBlock) (hat : A' = A ∨ A' = some ⟨wr.heap.size, 0, none⟩) (hb : base ≤ w0.heap.size) :
    S2 w0 base b2 t2 (m + 1) us B d A' c' (ts ++ [u]) fA fc F w' := by
  have hum := List.mem_of_getElem? hu
  have huU := h.hU u hum
  have hml := (List.getElem?_eq_some_iff.1 hu).1
  have hne : ∀ t ∈ ts, t.1 ≠ u.1 := fun t ht e => by
    rcases h.hT t ht with h1 | ⟨v, hv, e2⟩
    · unfold Out at h1; omega
    · obtain ⟨i, hi, e3⟩ := List.getElem_of_mem hv
      rw [List.getElem_take] at e3
      have hi2 : i < m := by simp at hi; omega
      have := List.pairwise_iff_getElem.1 h.stp.dis i m (by omega) hml hi2
      rw [e3, (List.getElem?_eq_some_iff.1 hu).2] at this
      exact this (e2.symm.trans e)
  have hrow := h.own.row_of
  refine ⟨h.own.snoc ho hg ((h.stp.all u hum).more h.bb) hne, h.frm.kept hg (fun g e hk => h.own.apartI h.frm g g (hrow g _ hk) e rfl), h.stp.kept hg (fun g e hk => ?_) (fun t ht hk => h.own.far (h.stp.all t ht) t.1 (hrow _ _ hk) rfl), h.bel.grown hg (Nat.le_trans hb h.bel.size) (fun k hk => h.own.row.row_ge k hk), fun g e => ?_, h.hF, fun t ht => ?_, fun t ht g e => ?_, Nat.le_trans h.sz hg.size, h.hB, h.hU, h.bb⟩
  · have h1 := h.hA g (hrow g _ hk)
    have h2 := h.hB g e
    unfold Out at h1; omega
  · rcases hat with e2 | e2
    · exact h.hA g (e2 ▸ e)
    · rw [e2] at e; injection e with e; injection e with e; have := h.sz; unfold Out; omega
  · rcases List.mem_append.1 ht with ht | ht
    · rcases h.hT t ht with h1 | ⟨v, hv, e2⟩
      · exact .inl h1
      · exact .inr ⟨v, take_up hv, e2⟩
    · rw [List.mem_singleton.1 ht]
      refine .inr ⟨u, ?_, rfl⟩
      rw [List.take_add_one, hu]
      simp
  · rcases List.mem_append.1 ht with ht | ht
    · exact h.ap t ht g e
    · rw [List.mem_singleton.1 ht]
      have := h.hF g e
      unfold Out at this; omega
theorem S2.from_ (h : S2 w0 base b2 t2 m us B d A c ts fA fc F wr) {fA' : Option Addr} {fc' : Nat} {F' : List Int} (ho : OwnI w' base fA' fc' F') (hg : wr.grownBy w' (Value.slice fA F.length fc).ownBlock) (hat : fA' = fA ∨ fA' = some ⟨wr.heap.size, 0, none⟩) (hb : base ≤ w0.heap.size) :
    S2 w0 base b2 t2 m us B d A c ts fA' fc' F' w' := by
  have hrow := h.frm.row_of
  have hge := OwnI.row_ge h.frm
  refine ⟨h.own.kept hg (fun g e hk => h.own.apartI h.frm g g e (hrow g _ hk) rfl) (fun t ht hk => h.ap t ht t.1 (hrow _ _ hk) rfl), ho, h.stp.kept hg (fun g e hk => h.stp.apartI h.frm g g e (hrow g _ hk) rfl) (fun u hu hk => ?_), h.bel.grown hg (Nat.le_trans hb h.bel.size) hge, h.hA, fun g e => ?_, h.hT, fun t ht g e => ?_, Nat.le_trans h.sz hg.size, h.hB, h.hU, h.bb⟩
  · have h1 := h.hF _ (hrow _ _ hk)
    have h2 := h.hU u hu
    unfold Out at h1; omega
  · rcases hat with e2 | e2
    · exact h.hF g (e2 ▸ e)
    · rw [e2] at e; injection e with e; injection e with e; have := h.sz; unfold Out; omega
  · rcases hat with e2 | e2
    · exact h.ap t ht g (e2 ▸ e)
    · rw [e2] at e; injection e with e; injection e with e
      have := (h.own.all t ht).b.2
      omega
end
theorem bok_part {J y : List Int} {k : Nat} (hJ : JOk J) (hy : (bfs J k).1[k]? = some y) (m : Nat) : BOk J (k + 1) (((stepsL J y).take m).foldl (addS k) (bfs J k)) := by
  have h := bfs_ok hJ k
  exact (BOk.fold _ _ (h.mono (Nat.le_succ _)) hy (fun x hx => ⟨List.mem_of_mem_take hx, okS_steps (fun k hk => by have := hJ.b k hk; omega) (h.ok y (List.mem_of_getElem? hy)) x (List.mem_of_mem_take hx)⟩)).1
theorem bfs_round {J y : List Int} {k : Nat} (hy : (bfs J k).1[k]? = some y) : bfs J (k + 1) = (stepsL J y).foldl (addS k) (bfs J k) := by
  obtain ⟨hk, e⟩ := List.getElem?_eq_some_iff.1 hy
  rw [bfs_succ hk]
  unfold rnd
  rw [List.getD_eq_getElem?_getD, hy]
  rfl
theorem fold_take {J y x : List Int} {k m : Nat} (P : Sts) (hx : (stepsL J y)[m]? = some x) : ((stepsL J y).take (m + 1)).foldl (addS k) P = addS k (((stepsL J y).take m).foldl (addS k) P) x := by
  rw [List.take_add_one, hx, List.foldl_append]
  rfl
theorem addS_old {k : Nat} {L : List (List Int)} {F : List Int} {x : List Int} (h : hasSS L x = true) : addS k (L, F) x = (L, F) := by unfold addS; unfold hasSS at h; rw [if_pos h]
theorem addS_new {k : Nat} {L : List (List Int)} {F : List Int} {x : List Int} (h : hasSS L x = false) : addS k (L, F) x = (L ++ [x], F ++ [(k : Int)]) := by unfold addS; unfold hasSS at h; rw [if_neg (by rw [h]; simp)]
end Go.Proofs.Ytdnknddldfihdaa
