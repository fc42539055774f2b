/- The walk of the law FieldPolySpec: true. Conditions: the slices read as lists. -/
import Derived.Test.YtlfgfnfcdffhpaaS
namespace Go.Proofs.Ytlfgfnfcdffhpaa
open Go.RowKit
set_option linter.unusedVariables false

set_option maxRecDepth 100000 in
set_option maxHeartbeats 1000000 in
theorem polySpec_any (A : Option Addr) (n c : Nat) (xs : List Int) (B : Option Addr) (m d : Nat) (ps : List (Int × Int)) (t : Int) (w : World) (hx : RdI w A n xs) (hp : RdP w B m ps) :
    Calls Try.prog 4 #[.slice A n c, .slice B m d, .int .i64 t] w fun e w' => e = .returned (.bool true) ∧ Below w.heap.size w w' := by
  have HX := Lib.hid hx
  have HP := Lib.hid hp
  have hc1 := hx.cap
  have hc2 := hp.cap
  clear hx hp
  have hv : Hid (valL t xs 0 1 = horL t xs) := Lib.hid (by rw [val_P, horL_eq])
  by_cases h1 : 100 < n
  · go_enter Try.func4, Try.ntmps4
    go_wp2_with fail
    refine (sane_any _).mono ?_
    rintro e w1 ⟨rfl, hb1⟩
    go_wp2
    go_ret
    exact ⟨rfl, hb1⟩
  · by_cases h2 : (m : Int) ≤ 70
    · have hf : ∀ W, Calls Try.prog 18 #[.slice B m d] W fun e w' => e = .returned (.bool true) ∧ W = w' := fun W => by
        have := few_any B m d W
        rw [decide_eq_true h2] at this
        exact this
      go_enter Try.func4, Try.ntmps4
      go_wp2_with fail
      refine (sane_any _).mono ?_
      rintro e w1 ⟨rfl, hb1⟩
      go_wp2_with fail
      refine (hf _).mono ?_
      clear hf
      rintro e w' ⟨rfl, rfl⟩
      go_wp2_with fail
      refine (at_any B m d ps t _ (HP.out.below hb1)).mono ?_
      rintro e w2 ⟨rfl, hb2⟩
      have hb3 := hb1.trans (hb2.mono hb1.size)
      go_wp2_with fail
      refine (rat_any B m d ps t _ (HP.out.below hb3)).mono ?_
      rintro e w3 ⟨rfl, hd3⟩
      have hb4 := hb3.trans (hd3.below.mono hb3.size)
      go_wp2_with fail
      refine (value_any A n c xs t _ (HX.out.below hb4)).mono ?_
      rintro e w4 ⟨rfl, hb5⟩
      have hb6 := hb4.trans (hb5.mono hb4.size)
      go_wp2_with fail
      refine (rvalue_any A n c xs t _ (HX.out.below hb6)).mono ?_
      rintro e w5 ⟨rfl, hd6⟩
      have hb7 := hb6.trans (hd6.below.mono hb6.size)
      rw [hv.out, fat_at, fatE_eq]
      go_wp2
      go_ret
      exact ⟨rfl, hb7⟩
    · have hf : ∀ W, Calls Try.prog 18 #[.slice B m d] W fun e w' => e = .returned (.bool false) ∧ W = w' := fun W => by
        have := few_any B m d W
        rw [decide_eq_false h2] at this
        exact this
      go_enter Try.func4, Try.ntmps4
      go_wp2_with fail
      refine (sane_any _).mono ?_
      rintro e w1 ⟨rfl, hb1⟩
      go_wp2_with fail
      refine (hf _).mono ?_
      clear hf
      rintro e w' ⟨rfl, rfl⟩
      go_wp2
      go_ret
      exact ⟨rfl, hb1⟩

end Go.Proofs.Ytlfgfnfcdffhpaa
