/- Slices of slices of ints that a call made itself; equal, marked, held. -/
import Derived.Test.YtdnknddldfihdaaLib
import Derived.Test.YtdnknddldfihdaaTail
import Derived.Test.YtdnknddldfihdaaDrawB
namespace Go.Proofs.Ytdnknddldfihdaa
open Go.ChangeShapes Go.WideShapes Go.ChangeAt Go.RowKit
set_option linter.unusedVariables false

/-- Block, capacity, what it reads as. -/
abbrev Tr : Type := Nat × Nat × List Int
def encT (t : Tr) : Value := .slice (some ⟨t.1, 0, none⟩) t.2.2.length t.2.1
def valT (ts : List Tr) : List (List Int) := ts.map (·.2.2)
def InT (w : World) (base : Nat) (t : Tr) : Prop := OwnI w base (some ⟨t.1, 0, none⟩) t.2.1 t.2.2
section
variable {w w' : World} {base : Nat} {t : Tr}
theorem InT.b (h : InT w base t) : base ≤ t.1 ∧ t.1 < w.heap.size := by
  rcases OwnI.form h with ⟨e, _⟩ | ⟨g, e, h1, h2, _⟩
  · cases e
  · injection e with e; injection e with e; omega
theorem InT.rd (h : InT w base t) : RdI w w.heap.size (some ⟨t.1, 0, none⟩) t.2.2 := OwnI.rd h
theorem InT.next (h : InT w base t) (b : Below w.heap.size w w') : InT w' base t := OwnI.next h b
theorem InT.more {c : Nat} (h : InT w base t) (hb : c ≤ base) : InT w c t := OwnI.more h hb
theorem InT.kept {row : Option Nat} (h : InT w base t) (hg : w.grownBy w' row) (hne : row ≠ some t.1) : InT w' base t :=
  OwnI.kept h hg (fun g e => by injection e with e; injection e with e; rw [← e]; exact hne)
end
/-- A slice of slices of the call's own: the row, and each slice in it, from block 'base' on; no two in one block. -/
structure OwnSS (w : World) (base : Nat) (A : Option Addr) (c : Nat) (ts : List Tr) : Prop where
  row : OwnV w base 22 1 A ts.length c (ts.map encT)
  all : ∀ t ∈ ts, InT w base t
  dis : ts.Pairwise fun t u => t.1 ≠ u.1
section
variable {w w' : World} {base : Nat} {A : Option Addr} {c : Nat} {ts : List Tr}
theorem OwnSS.next (h : OwnSS w base A c ts) (b : Below w.heap.size w w') : OwnSS w' base A c ts := ⟨h.row.next b, fun t ht => (h.all t ht).next b, h.dis⟩
theorem OwnSS.more {d : Nat} (h : OwnSS w base A c ts) (hb : d ≤ base) : OwnSS w d A c ts := ⟨h.row.more hb, fun t ht => (h.all t ht).more hb, h.dis⟩
theorem OwnSS.alloc (h : OwnSS w base A c ts) (o : Obj) : OwnSS (w.alloc o) base A c ts := h.next ((Below.refl _ _).alloc (Nat.le_refl _) o)
theorem OwnSS.kept {row : Option Nat} (h : OwnSS w base A c ts) (hg : w.grownBy w' row) (h1 : ∀ g, A = some ⟨g, 0, none⟩ → row ≠ some g) (h2 : ∀ t ∈ ts, row ≠ some t.1) : OwnSS w' base A c ts :=
  ⟨h.row.kept hg h1, fun t ht => (h.all t ht).kept hg (h2 t ht), h.dis⟩
/-- What lies below the base is none of its blocks. -/
theorem OwnSS.under {g : Nat} (h : OwnSS w base A c ts) (hg : w.grownBy w' (some g)) (hb : g < base) : OwnSS w' base A c ts :=
  h.kept hg (fun g' e hk => by
    injection hk with hk
    rcases h.row.form with ⟨e0, _⟩ | ⟨g0, e0, h1, _⟩
    · rw [e0] at e; cases e
    · rw [e0] at e; injection e with e; injection e with e; omega) (fun t ht hk => by injection hk with hk; have := (h.all t ht).b; omega)
theorem OwnSS.nil (w : World) (base : Nat) : OwnSS w base none 0 [] := ⟨OwnV.nil _ _ _ _, by simp, .nil⟩
theorem OwnSS.some_ {k : Nat} (h : OwnSS w base A c ts) (hk : k < ts.length) : ∃ g, A = some ⟨g, 0, none⟩ ∧ base ≤ g ∧ g < w.heap.size ∧ ts.length ≤ c ∧ c ≤ maxLen := by
  rcases h.row.form with ⟨_, e, _⟩ | ⟨g, h1, h2, h3, h4, h5⟩
  · omega
  · exact ⟨g, h1, h2, h3, h4, h5⟩
theorem OwnSS.at_ {k : Nat} (h : OwnSS w base A c ts) (hk : k < ts.length) : ∃ g b d xs, A = some ⟨g, 0, none⟩ ∧ base ≤ g ∧ g < w.heap.size ∧ w.cell? ⟨g, k, none⟩ = some (.slice (some ⟨b, 0, none⟩) xs.length d) ∧ RdI w w.heap.size (some ⟨b, 0, none⟩) xs ∧ Hid (ts[k]? = some (b, d, xs)) ∧ Hid ((valT ts).drop k = xs :: (valT ts).drop (k + 1)) := by
  obtain ⟨g, e, h1, h2, h3, h4⟩ := h.some_ hk
  subst e
  obtain ⟨⟨b, d, xs⟩, ht⟩ : ∃ t, ts[k]? = some t := ⟨_, List.getElem?_eq_getElem hk⟩
  have hc := h.row.rd.cells k (encT (b, d, xs)) (by rw [List.getElem?_map, ht]; rfl)
  rw [add_plain, Nat.zero_add] at hc
  refine ⟨g, b, d, xs, rfl, h1, h2, hc, (h.all _ (List.mem_of_getElem? ht)).rd, ht, ?_⟩
  have hv : (valT ts)[k]? = some xs := by unfold valT; rw [List.getElem?_map, ht]; rfl
  have hl := (List.getElem?_eq_some_iff.1 hv)
  show (valT ts).drop k = _
  rw [List.drop_eq_getElem_cons hl.1, hl.2]
theorem OwnSS.far (h : OwnSS w base A c ts) {t : Tr} {b2 : Nat} (hi : InT w b2 t) : ∀ g, A = some ⟨g, 0, none⟩ → t.1 ≠ g := fun g e he => by
  have := OwnV.apart (e' := 3) h.row (h' := (show OwnV w b2 3 1 (some ⟨t.1, 0, none⟩) t.2.2.length t.2.1 (ints t.2.2) from hi)) (by decide) g e
  rw [he] at this
  exact this rfl
theorem valT_length (ts : List Tr) : (valT ts).length = ts.length := by simp [valT]
/-- One of its slices has been written. -/
theorem OwnSS.setRow {j : Nat} {t t' : Tr} (h : OwnSS w base A c ts) (hj : ts[j]? = some t) (hg : w.grownBy w' (some t.1)) (hn : InT w' base t') (e1 : t'.1 = t.1) (e2 : t'.2.1 = t.2.1) (e3 : t'.2.2.length = t.2.2.length) : OwnSS w' base A c (ts.set j t') := by
  have hjl := (List.getElem?_eq_some_iff.1 hj).1
  have he : encT t' = encT t := by unfold encT; rw [e1, e2, e3]
  have hm : (ts.set j t').map encT = ts.map encT := by
    rw [List.map_set]
    refine List.ext_getElem? fun i => ?_
    rw [List.getElem?_set]
    split
    · rename_i hij
      subst hij
      rw [List.getElem?_map, hj]
      simp [he, hjl]
    · rfl
  refine ⟨?_, fun u hu => ?_, ?_⟩
  · rw [hm, List.length_set]
    exact h.row.kept hg (fun g e hk => h.far (h.all t (List.mem_of_getElem? hj)) g e (by injection hk))
  · obtain ⟨i, hi, e⟩ := List.getElem_of_mem hu
    rw [List.getElem_set] at e
    split at e
    · rw [← e]; exact hn
    · rename_i hij
      have hi' : i < ts.length := by simpa using hi
      have hui : ts[i] = u := e
      rw [← hui]
      refine (h.all _ (List.getElem_mem hi')).kept hg (fun hk => ?_)
      injection hk with hk
      have hd := List.pairwise_iff_getElem.1 h.dis
      have hjt : ts[j] = t := (List.getElem?_eq_some_iff.1 hj).2
      rcases Nat.lt_or_gt_of_ne hij with h1 | h1
      · exact hd j i hjl hi' h1 (by rw [hjt]; exact hk)
      · exact hd i j hi' hjl h1 (by rw [hjt]; exact hk.symm)
  · have hp : (ts.set j t').map (·.1) = ts.map (·.1) := by
      rw [List.map_set]
      refine List.ext_getElem? fun i => ?_
      rw [List.getElem?_set]
      split
      · rename_i hij
        subst hij
        rw [List.getElem?_map, hj]
        simp [e1, hjl]
      · rfl
    have h1 : (ts.map (·.1)).Pairwise (· ≠ ·) := List.pairwise_map.2 h.dis
    rw [← hp] at h1
    exact List.pairwise_map.1 h1
theorem OwnSS.snoc {A' : Option Addr} {c' : Nat} {t : Tr} (h : OwnSS w base A c ts) (ho : OwnV w' base 22 1 A' (ts.length + 1) c' (ts.map encT ++ [encT t])) (hg : w.grownBy w' (Value.slice A ts.length c).ownBlock) (ht : InT w base t) (hne : ∀ u ∈ ts, u.1 ≠ t.1) : OwnSS w' base A' c' (ts ++ [t]) := by
  have hrow : ∀ k, (Value.slice A ts.length c).ownBlock = some k → A = some ⟨k, 0, none⟩ := fun k hk => by
    rcases h.row.form with ⟨e0, _⟩ | ⟨g0, e0, _⟩
    · rw [e0] at hk; cases hk
    · rw [e0] at hk ⊢; simp only [Value.ownBlock] at hk; injection hk with hk; rw [hk]
  refine ⟨?_, fun u hu => ?_, ?_⟩
  · rw [List.length_append, List.map_append]; exact ho
  · rcases List.mem_append.1 hu with hu | hu
    · exact (h.all u hu).kept hg (fun hk => h.far (h.all u hu) u.1 (hrow _ hk) rfl)
    · rw [List.mem_singleton.1 hu]; exact ht.kept hg (fun hk => h.far ht t.1 (hrow _ hk) rfl)
  · rw [List.pairwise_append]
    exact ⟨h.dis, List.pairwise_singleton _ _, fun u hu v hv => by rw [List.mem_singleton.1 hv]; exact hne u hu⟩
end
def SB (W0 U : World) : Prop := Below W0.heap.size W0 U
theorem rowSS : RowT 30 22 1 24 := ⟨Try.underlying30, by
  obtain ⟨i0, hi, hz0, hz1, hz2⟩ := info_parts (show (Try.prog.info? 22).map (fun i => (i.zero, i.size, i.bytes)) = some (some (.slice none 0 0), 1, 24) by kernel_rfl)
  exact ⟨i0, _, hi, hz0, hz1, hz2, rfl⟩, by omega, by omega⟩
theorem one_enc (t : Tr) : ∀ u ∈ [encT t], u.oneCell' = true := fun u hu => by rw [List.mem_singleton.1 hu]; rfl
/-! ### The law's words -/
set_option maxHeartbeats 1000000 in
theorem eqIntSS_c (B C : Nat) (A A' : Option Addr) (c c' : Nat) (ts us : List Tr) (w : World) (hO : OwnSS w B A c ts) (hO' : OwnSS w C A' c' us) (hl : ts.length ≤ 1048576) (hi : ∀ t ∈ ts, t.2.2.length ≤ 1048576) :
    Calls Try.prog 25 #[.slice A ts.length c, .slice A' us.length c'] w fun e w' => e = .returned (.bool (valT ts == valT us)) ∧ Below w.heap.size w w' := by
  by_cases hlen : ts.length = us.length
  · have hlb : ((ts.length : Int) != (us.length : Int)) = false := by simp [hlen]
    have hlen' := Lib.hid hlen
    clear hlen
    go_enter Try.func25, Try.ntmps25
    go_wp2
    go_loopw [5] (fun i wr => ∃ k : Nat, k ≤ ts.length ∧ i = .int .i64 k ∧ Below w.heap.size w wr ∧ Hid ((valT ts == valT us) = ((valT ts).drop k == (valT us).drop k))) (fun i _ => ts.length - (intOf i).toNat)
    case atStart => exact ⟨0, Nat.zero_le _, rfl, Below.refl _ _, rfl⟩
    case round =>
      obtain ⟨k, hk, rfl, hb, hq⟩ := hrel
      by_cases hlt : k < ts.length
      · have hlt' : k < us.length := by have := hlen'.out; omega
        have h1 := hO.next hb
        have h2 := hO'.next hb
        obtain ⟨g, b, d, xs, rfl, hg, hgl, hc, hrx, hx, hd⟩ := h1.at_ hlt
        obtain ⟨g', b', d', ys, rfl, hg', hgl', hc', hry, hy, hd'⟩ := h2.at_ hlt'
        have hxl := hi _ (List.mem_of_getElem? hx.out)
        clear h1 h2
        go_upto_region 6 with fail
        have hS0 : SB wr wr.drew := (Below.refl _ _).drew
        haveI hne : Nonempty (Wd (SB wr)) := ⟨⟨_, hS0⟩⟩
        have c1 : ∀ U : Wd (SB wr), U.val.cell? ⟨g, k, none⟩ = some (.slice (some ⟨b, 0, none⟩) xs.length d) := fun U => (U.ok.cell (p := ⟨g, k, none⟩) hgl).trans hc
        have c2 : ∀ U : Wd (SB wr), U.val.cell? ⟨g', k, none⟩ = some (.slice (some ⟨b', 0, none⟩) ys.length d') := fun U => (U.ok.cell (p := ⟨g', k, none⟩) hgl').trans hc'
        have hE := Lib.hid (fun U : Wd (SB wr) => eqIntS_c (some ⟨b, 0, none⟩) (some ⟨b', 0, none⟩) d d' xs ys U.val (hrx.at_world U.ok) (hry.at_world U.ok) hxl)
        have hq2 := Lib.hid (show (valT ts == valT us) = ((xs == ys) && ((valT ts).drop (k + 1) == (valT us).drop (k + 1))) by rw [hq.out, hd.out, hd'.out, List.cons_beq_cons])
        generalize (xs == ys) = bb at hE hq2
        refine wp_region_class (S := SB wr) (by kernel_rfl) (by kernel_rfl) hS0 ?_
        clear hS0 hq hd hd' hc hc'
        repeat (go_big_quiet_step ((go_at_call 13; refine (hE.out _).mono ?_; rintro e w2 ⟨rfl, b⟩; exact ⟨rfl, ⟨_, chain (Wd.ok _) b (Nat.le_refl _)⟩, rfl⟩)))
        refine wpQuiet_nil ?_
        rintro W9 ⟨⟨U, hU⟩, rfl⟩
        have b9 : Below w.heap.size w W9 := chain hb hU (Nat.le_refl _)
        clear c1 c2 hE hne
        cases bb
        · go_wp2
          go_ret
          exact ⟨by rw [hq2.out]; rfl, b9⟩
        · go_wp2
          go_roundw
          case rel => exact ⟨k + 1, by omega, by go_num, b9, by rw [hq2.out]; exact Bool.true_and _⟩
          case measure => simp [intOf]; omega
      · go_wp2
        go_ret
        refine ⟨?_, hb⟩
        have e1 : (valT ts).drop k = [] := List.drop_of_length_le (by rw [valT_length]; omega)
        have e2 : (valT us).drop k = [] := List.drop_of_length_le (by rw [valT_length]; have := hlen'.out; omega)
        rw [hq.out, e1, e2]; rfl
  · have hlb : ((ts.length : Int) != (us.length : Int)) = true := by simp; omega
    have hf : (valT ts == valT us) = false := beq_eq_false_iff_ne.2 (fun h => hlen (by rw [← valT_length ts, ← valT_length us, h]))
    rw [hf]
    clear hf
    go_enter Try.func25, Try.ntmps25
    go_wp2
    go_ret
    exact ⟨rfl, Below.refl _ _⟩
/-! ### Marks -/
def totT : List Tr → Nat
  | [] => 0
  | t :: r => t.2.2.length + totT r
def markT (k : Int) : List Tr → List Tr
  | [] => []
  | t :: r => (t.1, t.2.1, marks k t.2.2.length) :: markT (k + (t.2.2.length : Int)) r
theorem markT_append (k : Int) : ∀ (a b : List Tr), markT k (a ++ b) = markT k a ++ markT (k + (totT a : Int)) b
  | [], b => by simp [markT, totT]
  | t :: r, b => by
    show _ :: markT (k + _) (r ++ b) = _ :: (markT (k + _) r ++ _)
    rw [markT_append (k + (t.2.2.length : Int)) r b]
    have : k + (t.2.2.length : Int) + (totT r : Int) = k + (totT (t :: r) : Int) := by simp [totT]; omega
    rw [this]
theorem totT_append : ∀ (a b : List Tr), totT (a ++ b) = totT a + totT b
  | [], b => by simp [totT]
  | t :: r, b => by show _ + totT (r ++ b) = _ + totT r + totT b; rw [totT_append r b]; omega
theorem markT_length (k : Int) : ∀ ts : List Tr, (markT k ts).length = ts.length
  | [] => rfl
  | t :: r => by show (markT _ r).length + 1 = r.length + 1; rw [markT_length]
theorem totT_mark (k : Int) : ∀ ts : List Tr, totT (markT k ts) = totT ts
  | [] => rfl
  | t :: r => by show (marks k _).length + totT (markT _ r) = _ + totT r; rw [totT_mark, marks_length]
theorem totT_take (ts : List Tr) {k : Nat} {t : Tr} (h : ts[k]? = some t) : totT (ts.take (k + 1)) = totT (ts.take k) + t.2.2.length := by
  obtain ⟨hk, e⟩ := List.getElem?_eq_some_iff.1 h
  rw [List.take_add_one, h, totT_append]
  simp [totT]
theorem totT_le (ts : List Tr) : ∀ k, totT (ts.take k) ≤ totT ts := fun k => by
  have := totT_append (ts.take k) (ts.drop k)
  rw [List.take_append_drop] at this
  omega
def markAt (k : Int) (ts : List Tr) (j : Nat) : List Tr := markT k (ts.take j) ++ ts.drop j
theorem markAt_zero (k : Int) (ts : List Tr) : markAt k ts 0 = ts := rfl
theorem markAt_end (k : Int) (ts : List Tr) : markAt k ts ts.length = markT k ts := by simp [markAt]
theorem markAt_len (k : Int) (ts : List Tr) (j : Nat) : (markAt k ts j).length = ts.length := by simp [markAt, markT_length]; omega
theorem markAt_get (k : Int) (ts : List Tr) {j : Nat} (hj : j < ts.length) : (markAt k ts j)[j]? = ts[j]? := by
  unfold markAt
  have hl : (markT k (ts.take j)).length = j := by rw [markT_length, List.length_take]; omega
  rw [List.getElem?_append_right (by omega), hl, Nat.sub_self, List.getElem?_drop, Nat.add_zero]
theorem markAt_set (k : Int) (ts : List Tr) {j : Nat} {t : Tr} (h : ts[j]? = some t) : (markAt k ts j).set j (t.1, t.2.1, marks (k + (totT (ts.take j) : Int)) t.2.2.length) = markAt k ts (j + 1) := by
  obtain ⟨hj, e⟩ := List.getElem?_eq_some_iff.1 h
  unfold markAt
  have hl : (markT k (ts.take j)).length = j := by rw [markT_length, List.length_take]; omega
  rw [List.set_append_right _ _ (by omega), hl, Nat.sub_self, List.drop_eq_getElem_cons hj, List.set_cons_zero, List.take_add_one, h, markT_append]
  simp [markT]
set_option maxHeartbeats 1000000 in
theorem markIntSS_c (base : Nat) (A : Option Addr) (c : Nat) (ts : List Tr) (k : Int) (w : World) (hO : OwnSS w base A c ts) (hbs : base ≤ w.heap.size) (hl : ts.length ≤ 1048576) (ht : totT ts ≤ 1000000000) (hk0 : 0 ≤ k) (hk1 : k ≤ 1000) :
    Calls Try.prog 27 #[.slice A ts.length c, .int .i64 k] w fun e w' => e = .returned (.int .i64 (k + (totT ts : Int))) ∧ OwnSS w' base A c (markT k ts) ∧ Below base w w' := by
  go_enter Try.func27, Try.ntmps27
  go_wp2
  go_loopw [1, 5] (fun kk i wr => ∃ j : Nat, j ≤ ts.length ∧ kk = .int .i64 (k + (totT (ts.take j) : Int)) ∧ i = .int .i64 j ∧ OwnSS wr base A c (markAt k ts j) ∧ Below base w wr) (fun _ i _ => ts.length - (intOf i).toNat)
  case atStart => exact ⟨0, Nat.zero_le _, by simp [totT], rfl, by rw [markAt_zero]; exact hO, Below.refl _ _⟩
  case round =>
    clear hO
    obtain ⟨j, hj, rfl, rfl, hO, H⟩ := hrel
    by_cases hlt : j < ts.length
    · obtain ⟨g, b, d, xs, rfl, hg, hgl, hc, hrx, hx, hd⟩ := hO.at_ (k := j) (by rw [markAt_len]; exact hlt)
      have hx2 : ts[j]? = some (b, d, xs) := by rw [← markAt_get k ts hlt]; exact hx.out
      have hxi : InT wr base (b, d, xs) := hO.all _ (List.mem_of_getElem? hx.out)
      have htk := totT_take ts hx2
      have htl := totT_le ts (j + 1)
      have hms := Lib.hid (markAt_set k ts hx2)
      have hx' := hx
      have hO' := Lib.hid hO
      have hxl : xs.length ≤ 17592186044416 := by simp only at htk; omega
      have htk' := Lib.hid htk
      have hjb : totT (ts.take j) + 0 ≤ 1000000000 := by omega
      clear hO hd hrx htk
      generalize hT : totT (ts.take j) = T at *
      go_wp2_with fail
      refine (markIntS_c base (some ⟨b, 0, none⟩) d xs _ _ hxi hxl (by omega) (by omega)).mono ?_
      rintro e w2 ⟨rfl, hn, hgr⟩
      have hgr' : wr.grownBy w2 (some b) := hgr
      have hb1 := hxi.b
      have hO2 := hO'.out.setRow (t' := (b, d, marks (k + (T : Int)) xs.length)) hx'.out hgr' (by show OwnI w2 base _ d (marks (k + (T : Int)) xs.length); exact hn) rfl rfl (by simp)
      go_wp2
      go_roundw
      case rel =>
        refine ⟨j + 1, by omega, ?_, by go_num, ?_, H.grown hgr' (by have := H.size; omega) (fun q hq => by injection hq with hq; rw [← hq]; exact hb1.1)⟩
        · have := htk'.out
          rw [this]
          go_num
        · have h9 := hms.out
          rw [← h9]; exact hO2
      case measure => simp [intOf]; omega
    · obtain rfl : j = ts.length := by omega
      have hml := markAt_end k ts
      have e1 : ts.take ts.length = ts := List.take_length
      rw [hml] at hO
      rw [e1]
      go_wp2
      go_ret
      exact ⟨rfl, hO, H⟩
set_option maxHeartbeats 1000000 in
theorem heldIntSS_c (base : Nat) (A : Option Addr) (c : Nat) (ts : List Tr) (k : Int) (w : World) (hO : OwnSS w base A c (markT k ts)) (hl : ts.length ≤ 1048576) (ht : totT ts ≤ 1000000000) (hk0 : 0 ≤ k) (hk1 : k ≤ 1000) :
    Calls Try.prog 28 #[.slice A ts.length c, .int .i64 k] w fun e w' => e = .returned (.int .i64 (k + (totT ts : Int))) ∧ w = w' := by
  have hml := markT_length k ts
  go_enter Try.func28, Try.ntmps28
  go_wp2
  go_loop [1, 5] (fun kk i => ∃ j : Nat, j ≤ ts.length ∧ kk = .int .i64 (k + (totT (ts.take j) : Int)) ∧ i = .int .i64 j) (fun _ i => ts.length - (intOf i).toNat)
  case atStart => exact ⟨0, Nat.zero_le _, by simp [totT], rfl⟩
  case round =>
    obtain ⟨j, hj, rfl, rfl⟩ := hrel
    by_cases hlt : j < ts.length
    · obtain ⟨g, b, d, ys, rfl, hg, hgl, hc, hrx, hx, hd⟩ := hO.at_ (k := j) (by rw [hml]; exact hlt)
      obtain ⟨⟨b0, d0, xs⟩, hxs⟩ : ∃ t, ts[j]? = some t := ⟨_, List.getElem?_eq_getElem hlt⟩
      have hye : ys = marks (k + (totT (ts.take j) : Int)) xs.length := by
        have h1 := hx.out
        have h2 : markT k ts = markT k (ts.take j) ++ markT (k + (totT (ts.take j) : Int)) (ts.drop j) := by rw [← markT_append, List.take_append_drop]
        have hl2 : (markT k (ts.take j)).length = j := by rw [markT_length, List.length_take]; omega
        have h3 : ts.drop j = (b0, d0, xs) :: ts.drop (j + 1) := by rw [List.drop_eq_getElem_cons hlt, (List.getElem?_eq_some_iff.1 hxs).2]
        rw [h2, List.getElem?_append_right (by omega), hl2, Nat.sub_self, h3] at h1
        simp [markT] at h1
        exact h1.2.2.symm
      have htk := totT_take ts hxs
      have htl := totT_le ts (j + 1)
      have hyl : ys.length = xs.length := by rw [hye]; simp
      rw [hyl] at hc
      rw [hye] at hrx
      have htk' := Lib.hid htk
      have hxl : xs.length ≤ 17592186044416 := by simp only at htk; omega
      have hjb : totT (ts.take j) + xs.length ≤ 1000000000 := by simp only at htk; omega
      clear hye hyl hx hd htk
      generalize hT : totT (ts.take j) = T at *
      go_wp2_with fail
      refine (heldIntS_c _ _ _ _ _ hrx hxl (by omega) (by omega)).mono ?_
      rintro e w' ⟨rfl, rfl⟩
      have hnn : ¬ k + (T : Int) + (xs.length : Int) < 0 := by omega
      go_wp2
      go_round
      case rel =>
        refine ⟨j + 1, by omega, ?_, by go_num⟩
        have := htk'.out
        rw [this]
        go_num
      case measure => simp [intOf]; omega
    · obtain rfl : j = ts.length := by omega
      have e1 : ts.take ts.length = ts := List.take_length
      rw [e1]
      go_wp2
      go_ret
      exact ⟨rfl, rfl⟩
end Go.Proofs.Ytdnknddldfihdaa
