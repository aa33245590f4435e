/- The library's functions on slices of slices: has, sort, reverse, at what a call made itself. -/
import Derived.Test.YtdnknddldfihdaaSS
import Derived.Test.YtdnknddldfihdaaShelf
namespace Go.Proofs.Ytdnknddldfihdaa
open Go.ChangeShapes Go.WideShapes Go.ChangeAt Go.RowKit
set_option linter.unusedVariables false

/-! ### ContainsFunc -/
/-- What can be read as a slice of ints in w. -/
structure RdT (w : World) where
  val : Tr
  ok : RdI w w.heap.size (some ⟨val.1, 0, none⟩) val.2.2 ∧ val.2.2.length ≤ 1048576
instance (w : World) : Inhabited (RdT w) := ⟨⟨(0, 0, []), .inl rfl, by simp⟩⟩
def encR (w : World) (a : RdT w) : Value := encT a.val
def readsT {w : World} (ts : List Tr) (h : ∀ t ∈ ts, RdI w w.heap.size (some ⟨t.1, 0, none⟩) t.2.2 ∧ t.2.2.length ≤ 1048576) : List (RdT w) := ts.pmap (fun t ht => (⟨t, ht⟩ : RdT w)) h
theorem readsT_val {w : World} (ts : List Tr) (h : ∀ t ∈ ts, RdI w w.heap.size (some ⟨t.1, 0, none⟩) t.2.2 ∧ t.2.2.length ≤ 1048576) : (readsT ts h).map (·.val) = ts := by
  unfold readsT
  rw [List.map_pmap]
  simp
theorem readsT_len {w : World} (ts : List Tr) (h : ∀ t ∈ ts, RdI w w.heap.size (some ⟨t.1, 0, none⟩) t.2.2 ∧ t.2.2.length ≤ 1048576) : (readsT ts h).length = ts.length := by simp [readsT]
theorem readsT_enc {w : World} (ts : List Tr) (h : ∀ t ∈ ts, RdI w w.heap.size (some ⟨t.1, 0, none⟩) t.2.2 ∧ t.2.2.length ≤ 1048576) {j : Nat} (hj : j < ts.length) : (ts.map encT)[j]? = some (encR w ((readsT ts h)[j]!)) := by
  have hl := readsT_len ts h
  rw [getElem!_pos (readsT ts h) j (by omega), List.getElem?_map, List.getElem?_eq_getElem hj]
  unfold readsT encR
  simp
def hasSS (L : List (List Int)) (y : List Int) : Bool := L.contains y
set_option maxHeartbeats 400000 in
theorem predP (w : World) (b : Nat) (B : Option Addr) (cy : Nat) (y : List Int) (hb : Blk w b 22 #[.slice B y.length cy]) (hr : RdI w w.heap.size B y) :
    PredAt Try.prog 45 #[.pointer (some ⟨b, 0, none⟩)] (encR w) (fun a => a.val.2.2 == y) w := fun W ⟨⟨g, d, xs⟩, hx, hl⟩ hbW => by
  have P := hb.next hbW
  obtain ⟨p0, -, pL⟩ := P.one
  have hE := Lib.hid (equalS_c (some ⟨g, 0, none⟩) B d cy xs y W (hx.at_world hbW) (hr.at_world hbW) hl)
  show Calls Try.prog 45 #[.slice (some ⟨g, 0, none⟩) xs.length d, .pointer (some ⟨b, 0, none⟩)] W (DrewP W (.bool (xs == y)))
  go_enter Try.func45, Try.ntmps45
  go_wp2_with fail
  refine hE.out.mono ?_
  rintro e w1 ⟨rfl, q, rfl⟩
  go_wp2
  go_ret
  exact ⟨rfl, q, rfl⟩
set_option maxHeartbeats 400000 in
theorem hasP_c (w : World) (base : Nat) (A : Option Addr) (c : Nat) (ts : List Tr) (b : Nat) (B : Option Addr) (cy : Nat) (y : List Int) (hO : OwnSS w base A c ts) (hl : ts.length ≤ 1048576) (hi : ∀ t ∈ ts, t.2.2.length ≤ 1048576) (hb : Blk w b 22 #[.slice B y.length cy]) (hr : RdI w w.heap.size B y) :
    Calls Try.prog 44 #[.slice A ts.length c, .func (.func 45) #[] #[.pointer (some ⟨b, 0, none⟩)]] w (DrewP w (.bool (hasSS (valT ts) y))) := by
  have hall : ∀ t ∈ ts, RdI w w.heap.size (some ⟨t.1, 0, none⟩) t.2.2 ∧ t.2.2.length ≤ 1048576 := fun t ht => ⟨(hO.all t ht).rd, hi t ht⟩
  by_cases h0 : ts.length = 0
  · have e : ts = [] := List.eq_nil_of_length_eq_zero h0
    subst e
    exact (AnyE.slices_ContainsFunc_empty Try.layHas A c _ w).mono fun e w' ⟨h1, h2⟩ => ⟨h1, 0, h2⟩
  · obtain ⟨g, e, h1, h2, h3, h4⟩ := hO.some_ (show 0 < ts.length by omega)
    subst e
    have hlen := readsT_len ts hall
    have h := AnyE.slices_ContainsFunc Try.layHas (encR w) (fun a => a.val.2.2 == y) 45 #[.pointer (some ⟨b, 0, none⟩)] (enters_of Try.func45 (by kernel_rfl) rfl) g 0 ts.length c (readsT ts hall) w (predP w b B cy y hb hr) (by omega) (by omega) (fun j hj => by
      have := hO.row.rd.cells j _ (readsT_enc ts hall (by omega))
      rw [add_plain] at this
      exact this)
    have hr2 : ((readsT ts hall).take ts.length).any (fun a => a.val.2.2 == y) = hasSS (valT ts) y := by
      rw [List.take_of_length_le (by omega)]
      unfold hasSS valT
      have e2 : ts.map (·.2.2) = (readsT ts hall).map (fun a => a.val.2.2) := by
        conv => lhs; rw [← readsT_val ts hall]
        rw [List.map_map]; rfl
      rw [e2, List.contains_eq_any_beq, List.any_map]
      congr 1
      funext a
      exact Bool.beq_comm
    rw [hr2] at h
    exact h
set_option maxHeartbeats 400000 in
theorem predQ (w : World) (b : Nat) (B : Option Addr) (cy : Nat) (y : List Int) (hb : Blk w b 22 #[.slice B y.length cy]) (hr : RdI w w.heap.size B y) :
    PredAt Try.prog 55 #[.pointer (some ⟨b, 0, none⟩)] (encR w) (fun a => a.val.2.2 == y) w := fun W ⟨⟨g, d, xs⟩, hx, hl⟩ hbW => by
  have P := hb.next hbW
  obtain ⟨p0, -, pL⟩ := P.one
  have hE := Lib.hid (equalS_c (some ⟨g, 0, none⟩) B d cy xs y W (hx.at_world hbW) (hr.at_world hbW) hl)
  show Calls Try.prog 55 #[.slice (some ⟨g, 0, none⟩) xs.length d, .pointer (some ⟨b, 0, none⟩)] W (DrewP W (.bool (xs == y)))
  go_enter Try.func55, Try.ntmps55
  go_wp2_with fail
  refine hE.out.mono ?_
  rintro e w1 ⟨rfl, q, rfl⟩
  go_wp2
  go_ret
  exact ⟨rfl, q, rfl⟩
set_option maxHeartbeats 400000 in
theorem hasQ_c (w : World) (base : Nat) (A : Option Addr) (c : Nat) (ts : List Tr) (b : Nat) (B : Option Addr) (cy : Nat) (y : List Int) (hO : OwnSS w base A c ts) (hl : ts.length ≤ 1048576) (hi : ∀ t ∈ ts, t.2.2.length ≤ 1048576) (hb : Blk w b 22 #[.slice B y.length cy]) (hr : RdI w w.heap.size B y) :
    Calls Try.prog 44 #[.slice A ts.length c, .func (.func 55) #[] #[.pointer (some ⟨b, 0, none⟩)]] w (DrewP w (.bool (hasSS (valT ts) y))) := by
  have hall : ∀ t ∈ ts, RdI w w.heap.size (some ⟨t.1, 0, none⟩) t.2.2 ∧ t.2.2.length ≤ 1048576 := fun t ht => ⟨(hO.all t ht).rd, hi t ht⟩
  by_cases h0 : ts.length = 0
  · have e : ts = [] := List.eq_nil_of_length_eq_zero h0
    subst e
    exact (AnyE.slices_ContainsFunc_empty Try.layHas A c _ w).mono fun e w' ⟨h1, h2⟩ => ⟨h1, 0, h2⟩
  · obtain ⟨g, e, h1, h2, h3, h4⟩ := hO.some_ (show 0 < ts.length by omega)
    subst e
    have hlen := readsT_len ts hall
    have h := AnyE.slices_ContainsFunc Try.layHas (encR w) (fun a => a.val.2.2 == y) 55 #[.pointer (some ⟨b, 0, none⟩)] (enters_of Try.func55 (by kernel_rfl) rfl) g 0 ts.length c (readsT ts hall) w (predQ w b B cy y hb hr) (by omega) (by omega) (fun j hj => by
      have := hO.row.rd.cells j _ (readsT_enc ts hall (by omega))
      rw [add_plain] at this
      exact this)
    have hr2 : ((readsT ts hall).take ts.length).any (fun a => a.val.2.2 == y) = hasSS (valT ts) y := by
      rw [List.take_of_length_le (by omega)]
      unfold hasSS valT
      have e2 : ts.map (·.2.2) = (readsT ts hall).map (fun a => a.val.2.2) := by
        conv => lhs; rw [← readsT_val ts hall]
        rw [List.map_map]; rfl
      rw [e2, List.contains_eq_any_beq, List.any_map]
      congr 1
      funext a
      exact Bool.beq_comm
    rw [hr2] at h
    exact h
/-! ### SortFunc and Reverse -/
theorem heap_mapBlock (w : World) (blk : Nat) (f : Array Value → Array Value) {cs : Array Value} {e : TypeId} (h : Blk w blk e cs) : Blk (Sort.mapBlock w blk f) blk e (f cs) := by
  unfold Blk at h ⊢
  show (w.heap.modify blk (Sort.onCells f))[blk]? = _
  rw [Array.getElem?_modify, if_pos rfl, h]
  rfl
theorem other_mapBlock (w : World) (blk : Nat) (f : Array Value → Array Value) (k : Nat) (hk : k ≠ blk) : (Sort.mapBlock w blk f).heap[k]? = w.heap[k]? := by
  show (w.heap.modify blk (Sort.onCells f))[k]? = _
  rw [Array.getElem?_modify, if_neg (fun h => hk h.symm)]
theorem grownBy_putRow {α : Type} [Inhabited α] (enc : α → Value) (w : World) (blk off : Nat) (d : Array α) (n : Nat) : w.grownBy ((Sort.putRow enc w blk off d).drewN n) (some blk) :=
  ⟨rfl, rfl, rfl, by show w.heap.size ≤ (Sort.putRow enc w blk off d).heap.size; rw [Sort.size_putRow]; exact Nat.le_refl _, fun k _ hne => other_mapBlock w blk _ k (fun e => hne (by rw [e]))⟩
theorem putRow_own {α : Type} [Inhabited α] (enc : α → Value) {w : World} {base g n c : Nat} {cs : List Value} {e : TypeId} (h : OwnV w base e 1 (some ⟨g, 0, none⟩) n c cs) (d : Array α) (hd : d.size = n) (q : Nat) : OwnV ((Sort.putRow enc w g 0 d).drewN q) base e 1 (some ⟨g, 0, none⟩) n c (d.toList.map enc) := by
  refine ⟨by simp [hd], ?_⟩
  rcases h.2 with ⟨hv, _⟩ | ⟨g1, cap, cur, hv, hb, hh, hnc, hm, hs, ht⟩
  · cases hv
  · injection hv with e1 e2 e3
    injection e1 with e1
    injection e1 with e1
    subst e1 e3
    refine .inr ⟨g, c, Sort.putCells enc 0 d cur, rfl, hb, heap_mapBlock w g _ hh, hnc, hm, by simp [Sort.putCells, hs], ?_⟩
    refine List.ext_getElem? fun i => ?_
    rw [List.getElem?_take, List.getElem?_map]
    by_cases hi : i < n * 1
    · rw [if_pos hi]
      have hid : i < d.size := by omega
      have hic : i < cur.size := by rw [hs]; omega
      simp [Sort.putCells, hic, hid, getElem!_pos]
    · rw [if_neg hi]
      rw [List.getElem?_eq_none (by simp; omega)]; rfl
theorem holds_own {α : Type} [Inhabited α] (enc : α → Value) {w : World} {base g n c : Nat} {e : TypeId} (d : Array α) (hd : d.size = n) (h : OwnV w base e 1 (some ⟨g, 0, none⟩) n c (d.toList.map enc)) : Sort.Holds enc w g 0 d := by
  intro j hj
  have h1 := h.rd.cells j (enc d[j]!) (by rw [List.getElem?_map]; simp [hj, getElem!_pos])
  rw [add_plain] at h1
  refine ⟨h1, ?_⟩
  rw [Nat.zero_add]
  exact World.ownsRow.frozenAt h j
/-- The order of the sort. -/
def cfR (w : World) (a b : RdT w) : Int := cmpL a.val.2.2 b.val.2.2
theorem swoR (w : World) : Sort.SWO (ltOf (cfR w)) :=
  ⟨fun x => by unfold ltOf cfR; rw [cmpL_self]; rfl,
   fun x y z h1 h2 => by unfold ltOf cfR at *; simp only [decide_eq_true_eq] at *; exact cmpL_trans _ _ _ h1 h2,
   fun x y z h1 h2 => by unfold ltOf cfR at *; simp only [decide_eq_false_iff_not] at *; exact cmpL_ntrans _ _ _ h1 h2⟩
/-- What is read elsewhere, is read while the row is sorted. -/
theorem rd_sortWorld {α : Type} [Inhabited α] (enc : α → Value) {w : World} {blk off m : Nat} {dk : Array α} {os : Array Obj} {A : Option Addr} {xs : List Int} (h : RdI w w.heap.size A xs) (hne : ∀ g o, A = some ⟨g, o, none⟩ → xs ≠ [] → g ≠ blk) : RdI (sortWorld enc w blk off m dk os) (sortWorld enc w blk off m dk os).heap.size A xs := by
  have hsz : w.heap.size ≤ (sortWorld enc w blk off m dk os).heap.size := by
    unfold sortWorld Sort.grow
    simp only [Array.size_append]
    have : (Sort.putRow enc (Sort.ahead w m) blk off dk).heap.size = w.heap.size := by rw [Sort.size_putRow]; rfl
    omega
  rcases h with rfl | ⟨b, o, e, hb, hc⟩
  · exact .inl rfl
  · by_cases hx : xs = []
    · exact .inl hx
    · refine .inr ⟨b, o, e, by omega, fun k x hk => ?_⟩
      have hbn := hne b o e hx
      have h1 : (sortWorld enc w blk off m dk os).cell? ⟨b, o + k, none⟩ = w.cell? ⟨b, o + k, none⟩ := by
        unfold sortWorld
        rw [Sort.cell?_grow _ _ _ (by show b < (Sort.putRow enc (Sort.ahead w m) blk off dk).heap.size; rw [Sort.size_putRow]; exact hb), Sort.cell?_putRow_other enc _ blk off dk _ (.inl hbn)]
        rfl
      rw [h1]; exact hc k x hk
theorem lenS (n : Nat) (W : World) (h : n ≤ 12) : Calls Try.prog 58 #[.int .u64 n] W fun e w' => (∃ l : Int, e = .returned (.int .i64 l)) ∧ w' = W :=
  (Any.bits_Len Try.layLen n W (by omega) (by omega)).mono fun _ _ ⟨he, hw⟩ => ⟨⟨_, he⟩, hw⟩
theorem perm_of {α : Type} [Inhabited α] {d d' : Array α} (h : Sort.PermIn 0 d.size d d') : d'.toList.Perm d.toList := by
  have h3 := h.2.2
  have h1 := h.1
  rw [Array.extract_eq_self_of_le (by omega), Array.extract_eq_self_of_le (by omega)] at h3
  exact h3
/-- What an unsorted row holds, sorted. -/
def SortedP (w : World) (base g c : Nat) (ts : List Tr) (e : Ending) (w' : World) : Prop :=
  e = .returned (.tuple #[]) ∧ ∃ us : List Tr, us.Perm ts ∧ us.length = ts.length ∧ (valT us).Pairwise (fun a b => ¬ cmpL b a < 0) ∧ OwnSS w' base (some ⟨g, 0, none⟩) c us ∧ w.grownBy w' (some g)
set_option maxHeartbeats 1000000 in
theorem sortSS_c (w : World) (base g : Nat) (c : Nat) (ts : List Tr) (hO : OwnSS w base (some ⟨g, 0, none⟩) c ts) (hn : 0 < ts.length) (h12 : ts.length ≤ 12) (hi : ∀ t ∈ ts, t.2.2.length ≤ 1048576) :
    Calls Try.prog 47 #[.slice (some ⟨g, 0, none⟩) ts.length c, .func (.func 48) #[] #[]] w (SortedP w base g c ts) := by
  have hall : ∀ t ∈ ts, RdI w w.heap.size (some ⟨t.1, 0, none⟩) t.2.2 ∧ t.2.2.length ≤ 1048576 := fun t ht => ⟨(hO.all t ht).rd, hi t ht⟩
  have hlen := readsT_len ts hall
  have hval := readsT_val ts hall
  have henc : ((readsT ts hall).toArray.toList.map (encR w)) = ts.map encT := by
    show (readsT ts hall).map (fun a => encT a.val) = _
    conv => rhs; rw [← hval]
    rw [List.map_map]; rfl
  by_cases h0 : ts.length = 0
  · exact absurd h0 (by have := hn; omega)
  have hO2 : OwnV w base 22 1 (some ⟨g, 0, none⟩) ts.length c ((readsT ts hall).toArray.toList.map (encR w)) := by rw [henc]; exact hO.row
  have hH := holds_own (encR w) (readsT ts hall).toArray (by simpa using hlen) hO2
  have hne : ∀ (x : RdT w) (g' o : Nat), (some ⟨x.val.1, 0, none⟩ : Option Addr) = some ⟨g', o, none⟩ → x.val.2.2 ≠ [] → g' ≠ g := by
    intro x g' o e hx hg
    injection e with e
    injection e with e1 e2
    subst e2
    rcases x.ok.1 with h | ⟨b, o2, e3, _, hc⟩
    · exact hx h
    · injection e3 with e3
      injection e3 with e4 e5
      obtain ⟨y, ys, hy⟩ := List.exists_cons_of_ne_nil hx
      have h1 := hc 0 y (by rw [hy]; rfl)
      have h2 := (hH 0 (by simp; omega)).1
      rw [← e4, e1, hg, ← e5] at h1
      rw [h1] at h2
      simp [encR, encT] at h2
  have hcmp : CmpReads Try.prog 48 #[] (encR w) (cfR w) g 0 (readsT ts hall).toArray.size w := fun m os dk hs x y =>
    (cmpS_c (some ⟨x.val.1, 0, none⟩) (some ⟨y.val.1, 0, none⟩) x.val.2.1 y.val.2.1 x.val.2.2 y.val.2.2 _ (rd_sortWorld (encR w) x.ok.1 (hne x)) (rd_sortWorld (encR w) y.ok.1 (hne y)) x.ok.2 y.ok.2).mono fun e w' ⟨h1, h2⟩ => ⟨h1, 0, h2.symm⟩
  have h := Any.slices_SortFunc_small_sorted Try.laySort (encR w) (fun _ => rfl) (cfR w) (swoR w) 48 #[] g 0 c (readsT ts hall).toArray w (enters_of Try.func48 (by kernel_rfl) rfl) hcmp hH (by simp; omega) lenS
  have hsz : (readsT ts hall).toArray.size = ts.length := by simpa using hlen
  rw [hsz] at h
  refine h.mono ?_
  rintro e w' ⟨rfl, d', n, hp, hs, rfl⟩
  have hp1 : Sort.PermIn 0 (readsT ts hall).toArray.size (readsT ts hall).toArray d' := by rw [hsz]; exact hp
  have hpm := perm_of hp1
  have hd' : d'.size = ts.length := by rw [hp1.1, hsz]
  have hpu : (d'.toList.map (·.val)).Perm ts := by
    have := hpm.map (·.val)
    rw [show ((readsT ts hall).toArray.toList.map (·.val)) = ts from hval] at this
    exact this
  have hg := grownBy_putRow (encR w) w g 0 d' n
  refine ⟨rfl, d'.toList.map (·.val), hpu, hpu.length_eq, ?_, ⟨?_, fun t ht => ?_, ?_⟩, hg⟩
  · rw [List.pairwise_iff_getElem]
    intro i j hi hj hij
    have hi' : i < d'.size := by simpa [valT] using hi
    have hj' : j < d'.size := by simpa [valT] using hj
    have h1 := hs i j (Nat.zero_le _) hij (by omega)
    unfold ltOf cfR at h1
    rw [getElem!_pos d' i hi', getElem!_pos d' j hj'] at h1
    simp only [decide_eq_false_iff_not] at h1
    simp only [valT, List.getElem_map, Array.getElem_toList]
    exact h1
  · have := putRow_own (encR w) hO.row d' hd' n
    rw [hpu.length_eq, List.map_map]
    exact this
  · have ht2 := hpu.mem_iff.1 ht
    refine (hO.all t ht2).kept hg (fun hk => ?_)
    injection hk with hk
    exact hO.far (hO.all t ht2) g rfl hk.symm
  · exact hpu.symm.pairwise hO.dis (fun h h2 => h h2.symm)
/-- What is turned round. -/
def RevP (w : World) (base : Nat) (A : Option Addr) (c : Nat) (ts : List Tr) (e : Ending) (w' : World) : Prop :=
  e = .returned (.tuple #[]) ∧ OwnSS w' base A c ts.reverse ∧ Below base w w'
set_option maxHeartbeats 1000000 in
theorem revSS_c (w : World) (base : Nat) (A : Option Addr) (c : Nat) (ts : List Tr) (hO : OwnSS w base A c ts) (hbs : base ≤ w.heap.size) (hl : ts.length ≤ 1048576) (hi : ∀ t ∈ ts, t.2.2.length ≤ 1048576) :
    Calls Try.prog 41 #[.slice A ts.length c] w (RevP w base A c ts) := by
  have hall : ∀ t ∈ ts, RdI w w.heap.size (some ⟨t.1, 0, none⟩) t.2.2 ∧ t.2.2.length ≤ 1048576 := fun t ht => ⟨(hO.all t ht).rd, hi t ht⟩
  have hlen := readsT_len ts hall
  have hval := readsT_val ts hall
  have henc : ((readsT ts hall).toArray.toList.map (encR w)) = ts.map encT := by
    show (readsT ts hall).map (fun a => encT a.val) = _
    conv => rhs; rw [← hval]
    rw [List.map_map]; rfl
  by_cases h0 : ts.length = 0
  · have e : ts = [] := List.eq_nil_of_length_eq_zero h0
    subst e
    exact (AnyE.slices_Reverse_empty Try.layReverse A c w).mono fun e w' ⟨h1, h2⟩ => ⟨h1, by rw [h2]; exact hO, by rw [h2]; exact Below.refl _ _⟩
  obtain ⟨g, e, h1, h2, h3, h4⟩ := hO.some_ (show 0 < ts.length by omega)
  subst e
  have hO2 : OwnV w base 22 1 (some ⟨g, 0, none⟩) ts.length c ((readsT ts hall).toArray.toList.map (encR w)) := by rw [henc]; exact hO.row
  have hH := holds_own (encR w) (readsT ts hall).toArray (by simpa using hlen) hO2
  have h := AnyE.slices_Reverse Try.layReverse (encR w) (fun _ => rfl) g 0 c (readsT ts hall) w hH (by omega)
  rw [hlen] at h
  refine h.mono ?_
  rintro e w' ⟨rfl, n, rfl⟩
  have hg : w.grownBy (Sort.putRow (encR w) (Sort.ahead w n) g 0 (readsT ts hall).reverse.toArray) (some g) := grownBy_putRow (encR w) w g 0 _ n
  have hrv : ((readsT ts hall).reverse.toArray.toList.map (encR w)) = ts.reverse.map encT := by
    show (readsT ts hall).reverse.map (fun a => encT a.val) = _
    rw [List.map_reverse, List.map_reverse]
    congr 1
  refine ⟨rfl, ⟨?_, fun t ht => ?_, ?_⟩, (Below.refl _ _).grown hg hbs (fun k hk => by injection hk with hk; omega)⟩
  · have := putRow_own (encR w) hO.row (readsT ts hall).reverse.toArray (by simpa using hlen) n
    rw [List.length_reverse, ← hrv]
    exact this
  · have ht2 := List.mem_reverse.1 ht
    refine (hO.all t ht2).kept hg (fun hk => ?_)
    injection hk with hk
    exact hO.far (hO.all t ht2) g rfl hk.symm
  · exact List.pairwise_reverse.2 (hO.dis.imp fun h h2 => h h2.symm)
end Go.Proofs.Ytdnknddldfihdaa
