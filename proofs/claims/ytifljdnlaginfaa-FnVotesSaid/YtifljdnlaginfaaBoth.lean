/- PassesBoth, both. -/
import Derived.Test.YtifljdnlaginfaaShare
namespace Go.Proofs.Ytifljdnlaginfaa
open Go.ChangeShapes Go.WideShapes Go.ChangeAt Go.RowKit
set_option linter.unusedVariables false

def bothB (t : Rf) (v : List Int) : Bool := (shareO t v).isSome && passB v (((v.length : Int) + 1) / 2) && decide (0 < cmpF (oT (shareO t v)) (oU (shareO t v)) 1 2)
theorem both_none {t : Rf} {v : List Int} (h : (shareO t v).isSome = false) : bothB t v = false := by unfold bothB; rw [h]; rfl
theorem both_fail {t : Rf} {v : List Int} (h : passB v (((v.length : Int) + 1) / 2) = false) : bothB t v = false := by unfold bothB; rw [h, Bool.and_false]; rfl
theorem both_some {t : Rf} {v : List Int} (h : (shareO t v).isSome = true) (h2 : passB v (((v.length : Int) + 1) / 2) = true) : bothB t v = decide (0 < cmpF (oT (shareO t v)) (oU (shareO t v)) 1 2) := by unfold bothB; rw [h, h2]; rfl

set_option maxHeartbeats 2000000 in
theorem iBoth_c (A A' : Option Addr) (c c' : Nat) (t : Rf) (v : List Int) (w : World) (hr : RdI w w.heap.size A (flat3 t)) (hl : t.length ≤ 1048576) (hv : RdI w w.heap.size A' v) (hvl : v.length ≤ 1048576) :
    Calls Try.prog 26 #[.slice A t.length c, .slice A' v.length c'] w fun e w' => e = .returned (.bool (bothB t v)) ∧ Below w.heap.size w w' := by
  have hS := Lib.hid (iShare_c A A' c c' t v w hr hl hv hvl)
  unfold RetO at hS
  cases ho : (shareO t v).isSome
  · have hres := Lib.hid (both_none ho)
    rw [ho] at hS
    generalize oT (shareO t v) = p at hS
    generalize oU (shareO t v) = q at hS
    clear ho
    go_enter Try.func26, Try.ntmps26
    go_wp2_with fail
    refine hS.out.mono ?_
    rintro e w1 ⟨rfl, H⟩
    go_wp2
    go_ret
    exact ⟨by rw [hres.out]; rfl, H.alloc H.size _⟩
  · rw [ho] at hS
    have hP := Lib.hid (fun W (h : Below w.heap.size w W) => iPass_c A' c' v (((v.length : Int) + 1) / 2) W (hv.at_world h) hvl)
    cases hp : passB v (((v.length : Int) + 1) / 2)
    · have hres := Lib.hid (both_fail (t := t) hp)
      rw [hp] at hP
      generalize oT (shareO t v) = p at hS
      generalize oU (shareO t v) = q at hS
      clear ho hp
      go_enter Try.func26, Try.ntmps26
      go_wp2_with fail
      refine hS.out.mono ?_
      rintro e w1 ⟨rfl, H⟩
      have H' := H.alloc H.size (.cells #[.int .i64 p, .int .i64 q] 34)
      go_wp2_with fail
      refine (hP.out _ H').mono ?_
      rintro e w2 ⟨rfl, b⟩
      go_wp2
      go_ret
      exact ⟨by rw [hres.out]; rfl, chain H' b (Nat.le_refl _)⟩
    · have hres := Lib.hid (both_some ho hp)
      rw [hp] at hP
      generalize oT (shareO t v) = p at *
      generalize oU (shareO t v) = q at *
      clear ho hp
      go_enter Try.func26, Try.ntmps26
      go_wp2_with fail
      refine hS.out.mono ?_
      rintro e w1 ⟨rfl, H⟩
      have F := Blk.new w1 34 #[.int .i64 p, .int .i64 q]
      have H' := H.alloc H.size (.cells #[.int .i64 p, .int .i64 q] 34)
      go_wp2_with fail
      refine (hP.out _ H').mono ?_
      rintro e w2 ⟨rfl, b⟩
      replace F := F.next b
      replace H := chain H' b (Nat.le_refl _)
      clear b H'
      obtain ⟨f0, f1, ff0, ff1, fL⟩ := F.two
      go_wp2_with fail
      refine (iCmp_c _ _ _ _ _).mono ?_
      rintro e w3 ⟨rfl, b⟩
      replace H := chain H b (Nat.le_refl _)
      generalize cmpF p q 1 2 = m at *
      go_wp2
      go_ret
      exact ⟨by rw [hres.out]; rfl, H⟩

set_option maxHeartbeats 2000000 in
theorem sBoth_c (A A' : Option Addr) (c c' : Nat) (t : Rf) (v : List Int) (w : World) (hr : RdI w w.heap.size A (flat3 t)) (hl : t.length ≤ 1048576) (hv : RdI w w.heap.size A' v) (hvl : v.length ≤ 1048576) :
    Calls Try.prog 25 #[.slice A t.length c, .slice A' v.length c'] w fun e w' => e = .returned (.bool (bothB t v)) ∧ Below w.heap.size w w' := by
  have hS := Lib.hid (sShare_c A A' c c' t v w hr hl hv hvl)
  unfold RetO at hS
  cases ho : (shareO t v).isSome
  · have hres := Lib.hid (both_none ho)
    rw [ho] at hS
    generalize oT (shareO t v) = p at hS
    generalize oU (shareO t v) = q at hS
    clear ho
    go_enter Try.func25, Try.ntmps25
    go_wp2_with fail
    refine hS.out.mono ?_
    rintro e w1 ⟨rfl, H⟩
    go_wp2
    go_ret
    exact ⟨by rw [hres.out]; rfl, H.alloc H.size _⟩
  · rw [ho] at hS
    have hP := Lib.hid (fun W (h : Below w.heap.size w W) => sPass_c A' c' v (((v.length : Int) + 1) / 2) W (hv.at_world h) hvl)
    cases hp : passB v (((v.length : Int) + 1) / 2)
    · have hres := Lib.hid (both_fail (t := t) hp)
      rw [hp] at hP
      generalize oT (shareO t v) = p at hS
      generalize oU (shareO t v) = q at hS
      clear ho hp
      go_enter Try.func25, Try.ntmps25
      go_wp2_with fail
      refine hS.out.mono ?_
      rintro e w1 ⟨rfl, H⟩
      have H' := H.alloc H.size (.cells #[.int .i64 p, .int .i64 q] 34)
      go_wp2_with fail
      refine (hP.out _ H').mono ?_
      rintro e w2 ⟨rfl, b⟩
      go_wp2
      go_ret
      exact ⟨by rw [hres.out]; rfl, chain H' b (Nat.le_refl _)⟩
    · have hres := Lib.hid (both_some ho hp)
      rw [hp] at hP
      generalize oT (shareO t v) = p at *
      generalize oU (shareO t v) = q at *
      clear ho hp
      go_enter Try.func25, Try.ntmps25
      go_wp2_with fail
      refine hS.out.mono ?_
      rintro e w1 ⟨rfl, H⟩
      have F := Blk.new w1 34 #[.int .i64 p, .int .i64 q]
      have H' := H.alloc H.size (.cells #[.int .i64 p, .int .i64 q] 34)
      go_wp2_with fail
      refine (hP.out _ H').mono ?_
      rintro e w2 ⟨rfl, b⟩
      replace F := F.next b
      replace H := chain H' b (Nat.le_refl _)
      clear b H'
      obtain ⟨f0, f1, ff0, ff1, fL⟩ := F.two
      go_wp2_with fail
      refine (sCmp_c _ _ _ _ _).mono ?_
      rintro e w3 ⟨rfl, b⟩
      replace H := chain H b (Nat.le_refl _)
      generalize cmpF p q 1 2 = m at *
      go_wp2
      go_ret
      exact ⟨by rw [hres.out]; rfl, H⟩
end Go.Proofs.Ytifljdnlaginfaa
