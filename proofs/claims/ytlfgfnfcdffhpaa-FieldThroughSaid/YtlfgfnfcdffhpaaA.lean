/- Contracts of the small functions of packages field and signatoryref09: each returns the number modulo the prime. Conditions: none but the slices' readability. -/
import Derived.Test.YtlfgfnfcdffhpaaRows
import Derived.WalkKit
import Derived.WalkSpells
import Derived.WalkLawsBesides
import Derived.Lib.Hide
namespace Go.Proofs.Ytlfgfnfcdffhpaa
open Go.RowKit

def fm (a : Int) : Int := a % 1073741789
theorem fm_lo (a : Int) : 0 ≤ fm a := Int.emod_nonneg _ (by decide)
theorem fm_hi (a : Int) : fm a < 1073741789 := Int.emod_lt_of_pos _ (by decide)
theorem tmod_split (a : Int) : (0 ≤ a ∧ Int.tmod a 1073741789 = a % 1073741789) ∨ (a < 0 ∧ Int.tmod a 1073741789 = -((-a) % 1073741789)) := by
  by_cases h : 0 ≤ a
  · exact .inl ⟨h, Int.tmod_eq_emod_of_nonneg h⟩
  · refine .inr ⟨by omega, ?_⟩
    have : Int.tmod (-(-a)) 1073741789 = -(Int.tmod (-a) 1073741789) := Int.neg_tmod ..
    rw [Int.neg_neg] at this
    rw [this, Int.tmod_eq_emod_of_nonneg (by omega)]
theorem fm_neg (a : Int) (h : Int.tmod a 1073741789 < 0) : wrap64 (Int.tmod a 1073741789 + 1073741789) = fm a := by
  have := tmod_split a
  unfold fm wrap64; omega
theorem fm_pos (a : Int) (h : ¬ Int.tmod a 1073741789 < 0) : Int.tmod a 1073741789 = fm a := by
  have := tmod_split a
  unfold fm; omega
theorem fm_mul (a b : Int) : Int.tmod (wrap64 (fm a * fm b)) 1073741789 = fm (a * b) := by
  have h0 := Int.mul_nonneg (fm_lo a) (fm_lo b)
  have h1 : fm a * fm b ≤ 1073741788 * 1073741788 := Int.mul_le_mul (by have := fm_hi a; omega) (by have := fm_hi b; omega) (fm_lo b) (by omega)
  have h2 : wrap64 (fm a * fm b) = fm a * fm b := by unfold wrap64; omega
  rw [h2, Int.tmod_eq_emod_of_nonneg h0]
  unfold fm
  rw [← Int.mul_emod]
theorem fm_fm (a : Int) : fm (fm a) = fm a := by unfold fm; exact Int.emod_emod ..
theorem fm_add (a b : Int) : Int.tmod (wrap64 (fm a + fm b)) 1073741789 = fm (a + b) := by
  have h0 := fm_lo a
  have h1 := fm_hi a
  have h2 := fm_lo b
  have h3 := fm_hi b
  have h4 : wrap64 (fm a + fm b) = fm a + fm b := by unfold wrap64; omega
  rw [h4, Int.tmod_eq_emod_of_nonneg (by omega)]
  unfold fm
  rw [← Int.add_emod]
theorem ret64 {a b : Int} (h : a = b) : Ending.returned (.int .i64 a) = .returned (.int .i64 b) := by rw [h]

set_option maxHeartbeats 400000 in
theorem mod_any (a : Int) (w : World) : Calls Try.prog 12 #[.int .i64 a] w fun e w' => e = .returned (.int .i64 (fm a)) ∧ w = w' := by
  by_cases h : Int.tmod a 1073741789 < 0
  · have h0 := Lib.hid (fm_neg a h)
    go_enter Try.func12, Try.ntmps12
    go_wp2
    go_ret
    exact ⟨ret64 h0.out, rfl⟩
  · have h0 := Lib.hid (fm_pos a h)
    go_enter Try.func12, Try.ntmps12
    go_wp2
    go_ret
    exact ⟨ret64 h0.out, rfl⟩
set_option maxHeartbeats 400000 in
theorem rmod_any (a : Int) (w : World) : Calls Try.prog 13 #[.int .i64 a] w fun e w' => e = .returned (.int .i64 (fm a)) ∧ w = w' := by
  by_cases h : Int.tmod a 1073741789 < 0
  · have h0 := Lib.hid (fm_neg a h)
    go_enter Try.func13, Try.ntmps13
    go_wp2
    go_ret
    exact ⟨ret64 h0.out, rfl⟩
  · have h0 := Lib.hid (fm_pos a h)
    go_enter Try.func13, Try.ntmps13
    go_wp2
    go_ret
    exact ⟨ret64 h0.out, rfl⟩
set_option maxHeartbeats 400000 in
theorem mul_any (a b : Int) (w : World) : Calls Try.prog 16 #[.int .i64 a, .int .i64 b] w fun e w' => e = .returned (.int .i64 (fm (a * b))) ∧ w = w' := by
  go_enter Try.func16, Try.ntmps16
  go_wp2_with fail
  refine (mod_any _ _).mono ?_
  rintro e w' ⟨rfl, rfl⟩
  go_wp2_with fail
  refine (mod_any _ _).mono ?_
  rintro e w' ⟨rfl, rfl⟩
  go_wp2
  go_ret
  exact ⟨ret64 (fm_mul a b), rfl⟩
set_option maxHeartbeats 400000 in
theorem rmul_any (a b : Int) (w : World) : Calls Try.prog 17 #[.int .i64 a, .int .i64 b] w fun e w' => e = .returned (.int .i64 (fm (a * b))) ∧ w = w' := by
  go_enter Try.func17, Try.ntmps17
  go_wp2_with fail
  refine (rmod_any _ _).mono ?_
  rintro e w' ⟨rfl, rfl⟩
  go_wp2_with fail
  refine (rmod_any _ _).mono ?_
  rintro e w' ⟨rfl, rfl⟩
  go_wp2
  go_ret
  exact ⟨ret64 (fm_mul a b), rfl⟩
set_option maxHeartbeats 400000 in
theorem radd_any (a b : Int) (w : World) : Calls Try.prog 15 #[.int .i64 a, .int .i64 b] w fun e w' => e = .returned (.int .i64 (fm (a + b))) ∧ w = w' := by
  go_enter Try.func15, Try.ntmps15
  go_wp2_with fail
  refine (rmod_any _ _).mono ?_
  rintro e w' ⟨rfl, rfl⟩
  go_wp2_with fail
  refine (rmod_any _ _).mono ?_
  rintro e w' ⟨rfl, rfl⟩
  go_wp2
  go_ret
  exact ⟨ret64 (fm_add a b), rfl⟩

end Go.Proofs.Ytlfgfnfcdffhpaa
