/- The walk of the law FieldLaws: true. Conditions: none. -/
import Derived.Test.YtlfgfnfcdffhpaaS
import Derived.OpenShut
namespace Go.Proofs.Ytlfgfnfcdffhpaa
open Go.RowKit
set_option linter.unusedVariables false

theorem in_at (a : Int) (w : World) : Calls Try.prog 23 #[.int .i64 (fm a)] w fun e w' => e = .returned (.bool true) ∧ w = w' := by
  have := in_any (fm a) w
  rw [in_fm] at this
  exact this
theorem in_inv (a : Int) (w : World) : Calls Try.prog 23 #[.int .i64 (invV a)] w fun e w' => e = .returned (.bool true) ∧ w = w' := by
  have := in_at (invV a) w
  rw [(invV_spec a).2] at this
  exact this
theorem q1 (a b : Int) : fm (fm b + fm a) = fm (a + b) := by rw [fm_add_l, fm_add_r, Int.add_comm]
theorem q2 (a b : Int) : fm (fm b * fm a) = fm (a * b) := by rw [fm_mul_l, fm_mul_r, Int.mul_comm]
theorem q3 (a b c : Int) : fm (fm (a + b) + c) = fm (a + b + c) := fm_add_l _ _
theorem q4 (a b c : Int) : fm (a + fm (b + c)) = fm (a + b + c) := by rw [fm_add_r, Int.add_assoc]
theorem q5 (a b c : Int) : fm (fm (a * b) * c) = fm (a * b * c) := fm_mul_l _ _
theorem q6 (a b c : Int) : fm (a * fm (b * c)) = fm (a * b * c) := by rw [fm_mul_r, Int.mul_assoc]
theorem q7 (a b c : Int) : fm (a * fm (b + c)) = fm (a * b + a * c) := by rw [fm_mul_r, Int.mul_add]
theorem q8 (a b c : Int) : fm (fm (a * b) + fm (a * c)) = fm (a * b + a * c) := by rw [fm_add_l, fm_add_r]
theorem q9 (a : Int) : fm (a + 0) = fm a := by rw [Int.add_zero]
theorem q10 (a : Int) : fm (a * 1) = fm a := by rw [Int.mul_one]
theorem q11 (a : Int) : fm (fm a + -(fm a)) = 0 := by rw [Int.add_right_neg]; rfl
theorem q12 (a : Int) (h : 0 ≤ a) (h' : a < 9223372036854775808) : Int.tmod (wrap64 (a - fm a)) 1073741789 = 0 := by
  have h1 : wrap64 (a - fm a) = a - fm a := by
    have := fm_lo a
    have h2 : fm a ≤ a := by unfold fm; omega
    unfold wrap64
    omega
  have h2 : 0 ≤ a - fm a := by unfold fm; omega
  rw [h1, Int.tmod_eq_emod_of_nonneg h2]
  unfold fm
  omega

set_option maxRecDepth 100000 in
set_option maxHeartbeats 1000000 in
theorem laws_posA (a b c : Int) (w : World) (h1 : (Int.tmod (wrap64 (a - fm a)) 1073741789 != 0) = false) (k1 : (fm a == 0) = true) (k3 : (fm (a * b) == 0) = true) (k4 : invV a = 0 ∧ invE a = 90) :
    Calls Try.prog 5 #[.int .i64 a, .int .i64 b, .int .i64 c] w fun e w' => e = .returned (.bool true) ∧ Below w.heap.size w w' := by
  have K4 := Lib.hid k4
  clear k4
  have l1 := fm_lo a
  have l2 := fm_hi a
  go_enter Try.func5, Try.ntmps5
  go_wp2_with fail
  refine (sane_any _).mono ?_
  rintro e w1 ⟨rfl, hb1⟩
  go_wp2_with fail
  refine (mod_any a _).mono ?_
  rintro e w' ⟨rfl, rfl⟩
  go_wp2_with fail
  refine (mod_any b _).mono ?_
  rintro e w' ⟨rfl, rfl⟩
  go_wp2_with fail
  refine (mod_any c _).mono ?_
  rintro e w' ⟨rfl, rfl⟩
  go_wp2_with fail
  refine (in_at a _).mono ?_
  rintro e w' ⟨rfl, rfl⟩
  go_wp2_with fail
  refine (in_at b _).mono ?_
  rintro e w' ⟨rfl, rfl⟩
  go_wp2_with fail
  refine (in_at c _).mono ?_
  rintro e w' ⟨rfl, rfl⟩
  go_wp2_with fail
  refine (mod_at (fm a) (fm a) (fm_fm a) _).mono ?_
  rintro e w' ⟨rfl, rfl⟩
  go_wp2_with fail
  refine (add_any a b _).mono ?_
  rintro e w' ⟨rfl, rfl⟩
  go_wp2_with fail
  refine (add_at (fm b) (fm a) (fm (a + b)) (q1 a b) _).mono ?_
  rintro e w' ⟨rfl, rfl⟩
  go_wp2_with fail
  refine (mul_any a b _).mono ?_
  rintro e w' ⟨rfl, rfl⟩
  go_wp2_with fail
  refine (mul_at (fm b) (fm a) (fm (a * b)) (q2 a b) _).mono ?_
  rintro e w' ⟨rfl, rfl⟩
  go_wp2_with fail
  refine (add_any a b _).mono ?_
  rintro e w' ⟨rfl, rfl⟩
  go_wp2_with fail
  refine (add_at (fm (a + b)) c _ (q3 a b c) _).mono ?_
  rintro e w' ⟨rfl, rfl⟩
  go_wp2_with fail
  refine (add_any b c _).mono ?_
  rintro e w' ⟨rfl, rfl⟩
  go_wp2_with fail
  refine (add_at a (fm (b + c)) _ (q4 a b c) _).mono ?_
  rintro e w' ⟨rfl, rfl⟩
  go_wp2_with fail
  refine (mul_any a b _).mono ?_
  rintro e w' ⟨rfl, rfl⟩
  go_wp2_with fail
  refine (mul_at (fm (a * b)) c _ (q5 a b c) _).mono ?_
  rintro e w' ⟨rfl, rfl⟩
  go_wp2_with fail
  refine (mul_any b c _).mono ?_
  rintro e w' ⟨rfl, rfl⟩
  go_wp2_with fail
  refine (mul_at a (fm (b * c)) _ (q6 a b c) _).mono ?_
  rintro e w' ⟨rfl, rfl⟩
  go_wp2_with fail
  refine (add_any b c _).mono ?_
  rintro e w' ⟨rfl, rfl⟩
  go_wp2_with fail
  refine (mul_at a (fm (b + c)) _ (q7 a b c) _).mono ?_
  rintro e w' ⟨rfl, rfl⟩
  go_wp2_with fail
  refine (mul_any a b _).mono ?_
  rintro e w' ⟨rfl, rfl⟩
  go_wp2_with fail
  refine (mul_any a c _).mono ?_
  rintro e w' ⟨rfl, rfl⟩
  go_wp2_with fail
  refine (add_at (fm (a * b)) (fm (a * c)) _ (q8 a b c) _).mono ?_
  rintro e w' ⟨rfl, rfl⟩
  go_wp2_with fail
  refine (add_at a 0 (fm a) (q9 a) _).mono ?_
  rintro e w' ⟨rfl, rfl⟩
  go_wp2_with fail
  refine (mul_at a 1 (fm a) (q10 a) _).mono ?_
  rintro e w' ⟨rfl, rfl⟩
  go_wp2_with fail
  refine (add_at (fm a) (-(fm a)) 0 (q11 a) _).mono ?_
  rintro e w' ⟨rfl, rfl⟩
  go_wp2_with fail
  refine (mul_any a b _).mono ?_
  rintro e w' ⟨rfl, rfl⟩
  go_wp2_with fail
  refine (inv_at a 0 90 K4.out _).mono ?_
  rintro e w' ⟨rfl, rfl⟩
  go_wp2
  go_ret
  exact ⟨rfl, by repeat (first | exact hb1 | refine Below.alloc ?_ (by have := hb1.size; simp; omega) _)⟩

set_option maxRecDepth 100000 in
set_option maxHeartbeats 1000000 in
theorem laws_posB (a b c : Int) (w : World) (h1 : (Int.tmod (wrap64 (a - fm a)) 1073741789 != 0) = false) (k1 : (fm a == 0) = false) (k2 : (fm b == 0) = true) (k3 : (fm (a * b) == 0) = true) (k4 : invE a = 0 ∧ fm (a * invV a) = 1) :
    Calls Try.prog 5 #[.int .i64 a, .int .i64 b, .int .i64 c] w fun e w' => e = .returned (.bool true) ∧ Below w.heap.size w w' := by
  have K4 := Lib.hid k4
  clear k4
  have l1 := fm_lo a
  have l2 := fm_hi a
  go_enter Try.func5, Try.ntmps5
  go_wp2_with fail
  refine (sane_any _).mono ?_
  rintro e w1 ⟨rfl, hb1⟩
  go_wp2_with fail
  refine (mod_any a _).mono ?_
  rintro e w' ⟨rfl, rfl⟩
  go_wp2_with fail
  refine (mod_any b _).mono ?_
  rintro e w' ⟨rfl, rfl⟩
  go_wp2_with fail
  refine (mod_any c _).mono ?_
  rintro e w' ⟨rfl, rfl⟩
  go_wp2_with fail
  refine (in_at a _).mono ?_
  rintro e w' ⟨rfl, rfl⟩
  go_wp2_with fail
  refine (in_at b _).mono ?_
  rintro e w' ⟨rfl, rfl⟩
  go_wp2_with fail
  refine (in_at c _).mono ?_
  rintro e w' ⟨rfl, rfl⟩
  go_wp2_with fail
  refine (mod_at (fm a) (fm a) (fm_fm a) _).mono ?_
  rintro e w' ⟨rfl, rfl⟩
  go_wp2_with fail
  refine (add_any a b _).mono ?_
  rintro e w' ⟨rfl, rfl⟩
  go_wp2_with fail
  refine (add_at (fm b) (fm a) (fm (a + b)) (q1 a b) _).mono ?_
  rintro e w' ⟨rfl, rfl⟩
  go_wp2_with fail
  refine (mul_any a b _).mono ?_
  rintro e w' ⟨rfl, rfl⟩
  go_wp2_with fail
  refine (mul_at (fm b) (fm a) (fm (a * b)) (q2 a b) _).mono ?_
  rintro e w' ⟨rfl, rfl⟩
  go_wp2_with fail
  refine (add_any a b _).mono ?_
  rintro e w' ⟨rfl, rfl⟩
  go_wp2_with fail
  refine (add_at (fm (a + b)) c _ (q3 a b c) _).mono ?_
  rintro e w' ⟨rfl, rfl⟩
  go_wp2_with fail
  refine (add_any b c _).mono ?_
  rintro e w' ⟨rfl, rfl⟩
  go_wp2_with fail
  refine (add_at a (fm (b + c)) _ (q4 a b c) _).mono ?_
  rintro e w' ⟨rfl, rfl⟩
  go_wp2_with fail
  refine (mul_any a b _).mono ?_
  rintro e w' ⟨rfl, rfl⟩
  go_wp2_with fail
  refine (mul_at (fm (a * b)) c _ (q5 a b c) _).mono ?_
  rintro e w' ⟨rfl, rfl⟩
  go_wp2_with fail
  refine (mul_any b c _).mono ?_
  rintro e w' ⟨rfl, rfl⟩
  go_wp2_with fail
  refine (mul_at a (fm (b * c)) _ (q6 a b c) _).mono ?_
  rintro e w' ⟨rfl, rfl⟩
  go_wp2_with fail
  refine (add_any b c _).mono ?_
  rintro e w' ⟨rfl, rfl⟩
  go_wp2_with fail
  refine (mul_at a (fm (b + c)) _ (q7 a b c) _).mono ?_
  rintro e w' ⟨rfl, rfl⟩
  go_wp2_with fail
  refine (mul_any a b _).mono ?_
  rintro e w' ⟨rfl, rfl⟩
  go_wp2_with fail
  refine (mul_any a c _).mono ?_
  rintro e w' ⟨rfl, rfl⟩
  go_wp2_with fail
  refine (add_at (fm (a * b)) (fm (a * c)) _ (q8 a b c) _).mono ?_
  rintro e w' ⟨rfl, rfl⟩
  go_wp2_with fail
  refine (add_at a 0 (fm a) (q9 a) _).mono ?_
  rintro e w' ⟨rfl, rfl⟩
  go_wp2_with fail
  refine (mul_at a 1 (fm a) (q10 a) _).mono ?_
  rintro e w' ⟨rfl, rfl⟩
  go_wp2_with fail
  refine (add_at (fm a) (-(fm a)) 0 (q11 a) _).mono ?_
  rintro e w' ⟨rfl, rfl⟩
  go_wp2_with fail
  refine (mul_any a b _).mono ?_
  rintro e w' ⟨rfl, rfl⟩
  go_wp2_with fail
  refine (inv_at a (invV a) 0 ⟨rfl, K4.out.1⟩ _).mono ?_
  rintro e w' ⟨rfl, rfl⟩
  go_wp2_with fail
  refine (in_inv a _).mono ?_
  rintro e w' ⟨rfl, rfl⟩
  go_wp2_with fail
  refine (mul_at a (invV a) 1 K4.out.2 _).mono ?_
  rintro e w' ⟨rfl, rfl⟩
  go_wp2
  go_ret
  exact ⟨rfl, by repeat (first | exact hb1 | refine Below.alloc ?_ (by have := hb1.size; simp; omega) _)⟩

set_option maxRecDepth 100000 in
set_option maxHeartbeats 1000000 in
theorem laws_posC (a b c : Int) (w : World) (h1 : (Int.tmod (wrap64 (a - fm a)) 1073741789 != 0) = false) (k1 : (fm a == 0) = false) (k2 : (fm b == 0) = false) (k3 : (fm (a * b) == 0) = false) (k4 : invE a = 0 ∧ fm (a * invV a) = 1) :
    Calls Try.prog 5 #[.int .i64 a, .int .i64 b, .int .i64 c] w fun e w' => e = .returned (.bool true) ∧ Below w.heap.size w w' := by
  have K4 := Lib.hid k4
  clear k4
  have l1 := fm_lo a
  have l2 := fm_hi a
  go_enter Try.func5, Try.ntmps5
  go_wp2_with fail
  refine (sane_any _).mono ?_
  rintro e w1 ⟨rfl, hb1⟩
  go_wp2_with fail
  refine (mod_any a _).mono ?_
  rintro e w' ⟨rfl, rfl⟩
  go_wp2_with fail
  refine (mod_any b _).mono ?_
  rintro e w' ⟨rfl, rfl⟩
  go_wp2_with fail
  refine (mod_any c _).mono ?_
  rintro e w' ⟨rfl, rfl⟩
  go_wp2_with fail
  refine (in_at a _).mono ?_
  rintro e w' ⟨rfl, rfl⟩
  go_wp2_with fail
  refine (in_at b _).mono ?_
  rintro e w' ⟨rfl, rfl⟩
  go_wp2_with fail
  refine (in_at c _).mono ?_
  rintro e w' ⟨rfl, rfl⟩
  go_wp2_with fail
  refine (mod_at (fm a) (fm a) (fm_fm a) _).mono ?_
  rintro e w' ⟨rfl, rfl⟩
  go_wp2_with fail
  refine (add_any a b _).mono ?_
  rintro e w' ⟨rfl, rfl⟩
  go_wp2_with fail
  refine (add_at (fm b) (fm a) (fm (a + b)) (q1 a b) _).mono ?_
  rintro e w' ⟨rfl, rfl⟩
  go_wp2_with fail
  refine (mul_any a b _).mono ?_
  rintro e w' ⟨rfl, rfl⟩
  go_wp2_with fail
  refine (mul_at (fm b) (fm a) (fm (a * b)) (q2 a b) _).mono ?_
  rintro e w' ⟨rfl, rfl⟩
  go_wp2_with fail
  refine (add_any a b _).mono ?_
  rintro e w' ⟨rfl, rfl⟩
  go_wp2_with fail
  refine (add_at (fm (a + b)) c _ (q3 a b c) _).mono ?_
  rintro e w' ⟨rfl, rfl⟩
  go_wp2_with fail
  refine (add_any b c _).mono ?_
  rintro e w' ⟨rfl, rfl⟩
  go_wp2_with fail
  refine (add_at a (fm (b + c)) _ (q4 a b c) _).mono ?_
  rintro e w' ⟨rfl, rfl⟩
  go_wp2_with fail
  refine (mul_any a b _).mono ?_
  rintro e w' ⟨rfl, rfl⟩
  go_wp2_with fail
  refine (mul_at (fm (a * b)) c _ (q5 a b c) _).mono ?_
  rintro e w' ⟨rfl, rfl⟩
  go_wp2_with fail
  refine (mul_any b c _).mono ?_
  rintro e w' ⟨rfl, rfl⟩
  go_wp2_with fail
  refine (mul_at a (fm (b * c)) _ (q6 a b c) _).mono ?_
  rintro e w' ⟨rfl, rfl⟩
  go_wp2_with fail
  refine (add_any b c _).mono ?_
  rintro e w' ⟨rfl, rfl⟩
  go_wp2_with fail
  refine (mul_at a (fm (b + c)) _ (q7 a b c) _).mono ?_
  rintro e w' ⟨rfl, rfl⟩
  go_wp2_with fail
  refine (mul_any a b _).mono ?_
  rintro e w' ⟨rfl, rfl⟩
  go_wp2_with fail
  refine (mul_any a c _).mono ?_
  rintro e w' ⟨rfl, rfl⟩
  go_wp2_with fail
  refine (add_at (fm (a * b)) (fm (a * c)) _ (q8 a b c) _).mono ?_
  rintro e w' ⟨rfl, rfl⟩
  go_wp2_with fail
  refine (add_at a 0 (fm a) (q9 a) _).mono ?_
  rintro e w' ⟨rfl, rfl⟩
  go_wp2_with fail
  refine (mul_at a 1 (fm a) (q10 a) _).mono ?_
  rintro e w' ⟨rfl, rfl⟩
  go_wp2_with fail
  refine (add_at (fm a) (-(fm a)) 0 (q11 a) _).mono ?_
  rintro e w' ⟨rfl, rfl⟩
  go_wp2_with fail
  refine (mul_any a b _).mono ?_
  rintro e w' ⟨rfl, rfl⟩
  go_wp2_with fail
  refine (inv_at a (invV a) 0 ⟨rfl, K4.out.1⟩ _).mono ?_
  rintro e w' ⟨rfl, rfl⟩
  go_wp2_with fail
  refine (in_inv a _).mono ?_
  rintro e w' ⟨rfl, rfl⟩
  go_wp2_with fail
  refine (mul_at a (invV a) 1 K4.out.2 _).mono ?_
  rintro e w' ⟨rfl, rfl⟩
  go_wp2
  go_ret
  exact ⟨rfl, by repeat (first | exact hb1 | refine Below.alloc ?_ (by have := hb1.size; simp; omega) _)⟩

set_option maxRecDepth 100000 in
set_option maxHeartbeats 1000000 in
theorem laws_negA (a b c : Int) (w : World) (h1 : (Int.tmod (wrap64 (a - fm a)) 1073741789 != 0) = true) (h2 : a < 0) (k1 : (fm a == 0) = true) (k3 : (fm (a * b) == 0) = true) (k4 : invV a = 0 ∧ invE a = 90) :
    Calls Try.prog 5 #[.int .i64 a, .int .i64 b, .int .i64 c] w fun e w' => e = .returned (.bool true) ∧ Below w.heap.size w w' := by
  have K4 := Lib.hid k4
  clear k4
  have l1 := fm_lo a
  have l2 := fm_hi a
  go_enter Try.func5, Try.ntmps5
  go_wp2_with fail
  refine (sane_any _).mono ?_
  rintro e w1 ⟨rfl, hb1⟩
  go_wp2_with fail
  refine (mod_any a _).mono ?_
  rintro e w' ⟨rfl, rfl⟩
  go_wp2_with fail
  refine (mod_any b _).mono ?_
  rintro e w' ⟨rfl, rfl⟩
  go_wp2_with fail
  refine (mod_any c _).mono ?_
  rintro e w' ⟨rfl, rfl⟩
  go_wp2_with fail
  refine (in_at a _).mono ?_
  rintro e w' ⟨rfl, rfl⟩
  go_wp2_with fail
  refine (in_at b _).mono ?_
  rintro e w' ⟨rfl, rfl⟩
  go_wp2_with fail
  refine (in_at c _).mono ?_
  rintro e w' ⟨rfl, rfl⟩
  go_wp2_with fail
  refine (mod_at (fm a) (fm a) (fm_fm a) _).mono ?_
  rintro e w' ⟨rfl, rfl⟩
  go_wp2_with fail
  refine (add_any a b _).mono ?_
  rintro e w' ⟨rfl, rfl⟩
  go_wp2_with fail
  refine (add_at (fm b) (fm a) (fm (a + b)) (q1 a b) _).mono ?_
  rintro e w' ⟨rfl, rfl⟩
  go_wp2_with fail
  refine (mul_any a b _).mono ?_
  rintro e w' ⟨rfl, rfl⟩
  go_wp2_with fail
  refine (mul_at (fm b) (fm a) (fm (a * b)) (q2 a b) _).mono ?_
  rintro e w' ⟨rfl, rfl⟩
  go_wp2_with fail
  refine (add_any a b _).mono ?_
  rintro e w' ⟨rfl, rfl⟩
  go_wp2_with fail
  refine (add_at (fm (a + b)) c _ (q3 a b c) _).mono ?_
  rintro e w' ⟨rfl, rfl⟩
  go_wp2_with fail
  refine (add_any b c _).mono ?_
  rintro e w' ⟨rfl, rfl⟩
  go_wp2_with fail
  refine (add_at a (fm (b + c)) _ (q4 a b c) _).mono ?_
  rintro e w' ⟨rfl, rfl⟩
  go_wp2_with fail
  refine (mul_any a b _).mono ?_
  rintro e w' ⟨rfl, rfl⟩
  go_wp2_with fail
  refine (mul_at (fm (a * b)) c _ (q5 a b c) _).mono ?_
  rintro e w' ⟨rfl, rfl⟩
  go_wp2_with fail
  refine (mul_any b c _).mono ?_
  rintro e w' ⟨rfl, rfl⟩
  go_wp2_with fail
  refine (mul_at a (fm (b * c)) _ (q6 a b c) _).mono ?_
  rintro e w' ⟨rfl, rfl⟩
  go_wp2_with fail
  refine (add_any b c _).mono ?_
  rintro e w' ⟨rfl, rfl⟩
  go_wp2_with fail
  refine (mul_at a (fm (b + c)) _ (q7 a b c) _).mono ?_
  rintro e w' ⟨rfl, rfl⟩
  go_wp2_with fail
  refine (mul_any a b _).mono ?_
  rintro e w' ⟨rfl, rfl⟩
  go_wp2_with fail
  refine (mul_any a c _).mono ?_
  rintro e w' ⟨rfl, rfl⟩
  go_wp2_with fail
  refine (add_at (fm (a * b)) (fm (a * c)) _ (q8 a b c) _).mono ?_
  rintro e w' ⟨rfl, rfl⟩
  go_wp2_with fail
  refine (add_at a 0 (fm a) (q9 a) _).mono ?_
  rintro e w' ⟨rfl, rfl⟩
  go_wp2_with fail
  refine (mul_at a 1 (fm a) (q10 a) _).mono ?_
  rintro e w' ⟨rfl, rfl⟩
  go_wp2_with fail
  refine (add_at (fm a) (-(fm a)) 0 (q11 a) _).mono ?_
  rintro e w' ⟨rfl, rfl⟩
  go_wp2_with fail
  refine (mul_any a b _).mono ?_
  rintro e w' ⟨rfl, rfl⟩
  go_wp2_with fail
  refine (inv_at a 0 90 K4.out _).mono ?_
  rintro e w' ⟨rfl, rfl⟩
  go_wp2
  go_ret
  exact ⟨rfl, by repeat (first | exact hb1 | refine Below.alloc ?_ (by have := hb1.size; simp; omega) _)⟩

set_option maxRecDepth 100000 in
set_option maxHeartbeats 1000000 in
theorem laws_negB (a b c : Int) (w : World) (h1 : (Int.tmod (wrap64 (a - fm a)) 1073741789 != 0) = true) (h2 : a < 0) (k1 : (fm a == 0) = false) (k2 : (fm b == 0) = true) (k3 : (fm (a * b) == 0) = true) (k4 : invE a = 0 ∧ fm (a * invV a) = 1) :
    Calls Try.prog 5 #[.int .i64 a, .int .i64 b, .int .i64 c] w fun e w' => e = .returned (.bool true) ∧ Below w.heap.size w w' := by
  have K4 := Lib.hid k4
  clear k4
  have l1 := fm_lo a
  have l2 := fm_hi a
  go_enter Try.func5, Try.ntmps5
  go_wp2_with fail
  refine (sane_any _).mono ?_
  rintro e w1 ⟨rfl, hb1⟩
  go_wp2_with fail
  refine (mod_any a _).mono ?_
  rintro e w' ⟨rfl, rfl⟩
  go_wp2_with fail
  refine (mod_any b _).mono ?_
  rintro e w' ⟨rfl, rfl⟩
  go_wp2_with fail
  refine (mod_any c _).mono ?_
  rintro e w' ⟨rfl, rfl⟩
  go_wp2_with fail
  refine (in_at a _).mono ?_
  rintro e w' ⟨rfl, rfl⟩
  go_wp2_with fail
  refine (in_at b _).mono ?_
  rintro e w' ⟨rfl, rfl⟩
  go_wp2_with fail
  refine (in_at c _).mono ?_
  rintro e w' ⟨rfl, rfl⟩
  go_wp2_with fail
  refine (mod_at (fm a) (fm a) (fm_fm a) _).mono ?_
  rintro e w' ⟨rfl, rfl⟩
  go_wp2_with fail
  refine (add_any a b _).mono ?_
  rintro e w' ⟨rfl, rfl⟩
  go_wp2_with fail
  refine (add_at (fm b) (fm a) (fm (a + b)) (q1 a b) _).mono ?_
  rintro e w' ⟨rfl, rfl⟩
  go_wp2_with fail
  refine (mul_any a b _).mono ?_
  rintro e w' ⟨rfl, rfl⟩
  go_wp2_with fail
  refine (mul_at (fm b) (fm a) (fm (a * b)) (q2 a b) _).mono ?_
  rintro e w' ⟨rfl, rfl⟩
  go_wp2_with fail
  refine (add_any a b _).mono ?_
  rintro e w' ⟨rfl, rfl⟩
  go_wp2_with fail
  refine (add_at (fm (a + b)) c _ (q3 a b c) _).mono ?_
  rintro e w' ⟨rfl, rfl⟩
  go_wp2_with fail
  refine (add_any b c _).mono ?_
  rintro e w' ⟨rfl, rfl⟩
  go_wp2_with fail
  refine (add_at a (fm (b + c)) _ (q4 a b c) _).mono ?_
  rintro e w' ⟨rfl, rfl⟩
  go_wp2_with fail
  refine (mul_any a b _).mono ?_
  rintro e w' ⟨rfl, rfl⟩
  go_wp2_with fail
  refine (mul_at (fm (a * b)) c _ (q5 a b c) _).mono ?_
  rintro e w' ⟨rfl, rfl⟩
  go_wp2_with fail
  refine (mul_any b c _).mono ?_
  rintro e w' ⟨rfl, rfl⟩
  go_wp2_with fail
  refine (mul_at a (fm (b * c)) _ (q6 a b c) _).mono ?_
  rintro e w' ⟨rfl, rfl⟩
  go_wp2_with fail
  refine (add_any b c _).mono ?_
  rintro e w' ⟨rfl, rfl⟩
  go_wp2_with fail
  refine (mul_at a (fm (b + c)) _ (q7 a b c) _).mono ?_
  rintro e w' ⟨rfl, rfl⟩
  go_wp2_with fail
  refine (mul_any a b _).mono ?_
  rintro e w' ⟨rfl, rfl⟩
  go_wp2_with fail
  refine (mul_any a c _).mono ?_
  rintro e w' ⟨rfl, rfl⟩
  go_wp2_with fail
  refine (add_at (fm (a * b)) (fm (a * c)) _ (q8 a b c) _).mono ?_
  rintro e w' ⟨rfl, rfl⟩
  go_wp2_with fail
  refine (add_at a 0 (fm a) (q9 a) _).mono ?_
  rintro e w' ⟨rfl, rfl⟩
  go_wp2_with fail
  refine (mul_at a 1 (fm a) (q10 a) _).mono ?_
  rintro e w' ⟨rfl, rfl⟩
  go_wp2_with fail
  refine (add_at (fm a) (-(fm a)) 0 (q11 a) _).mono ?_
  rintro e w' ⟨rfl, rfl⟩
  go_wp2_with fail
  refine (mul_any a b _).mono ?_
  rintro e w' ⟨rfl, rfl⟩
  go_wp2_with fail
  refine (inv_at a (invV a) 0 ⟨rfl, K4.out.1⟩ _).mono ?_
  rintro e w' ⟨rfl, rfl⟩
  go_wp2_with fail
  refine (in_inv a _).mono ?_
  rintro e w' ⟨rfl, rfl⟩
  go_wp2_with fail
  refine (mul_at a (invV a) 1 K4.out.2 _).mono ?_
  rintro e w' ⟨rfl, rfl⟩
  go_wp2
  go_ret
  exact ⟨rfl, by repeat (first | exact hb1 | refine Below.alloc ?_ (by have := hb1.size; simp; omega) _)⟩

set_option maxRecDepth 100000 in
set_option maxHeartbeats 1000000 in
theorem laws_negC (a b c : Int) (w : World) (h1 : (Int.tmod (wrap64 (a - fm a)) 1073741789 != 0) = true) (h2 : a < 0) (k1 : (fm a == 0) = false) (k2 : (fm b == 0) = false) (k3 : (fm (a * b) == 0) = false) (k4 : invE a = 0 ∧ fm (a * invV a) = 1) :
    Calls Try.prog 5 #[.int .i64 a, .int .i64 b, .int .i64 c] w fun e w' => e = .returned (.bool true) ∧ Below w.heap.size w w' := by
  have K4 := Lib.hid k4
  clear k4
  have l1 := fm_lo a
  have l2 := fm_hi a
  go_enter Try.func5, Try.ntmps5
  go_wp2_with fail
  refine (sane_any _).mono ?_
  rintro e w1 ⟨rfl, hb1⟩
  go_wp2_with fail
  refine (mod_any a _).mono ?_
  rintro e w' ⟨rfl, rfl⟩
  go_wp2_with fail
  refine (mod_any b _).mono ?_
  rintro e w' ⟨rfl, rfl⟩
  go_wp2_with fail
  refine (mod_any c _).mono ?_
  rintro e w' ⟨rfl, rfl⟩
  go_wp2_with fail
  refine (in_at a _).mono ?_
  rintro e w' ⟨rfl, rfl⟩
  go_wp2_with fail
  refine (in_at b _).mono ?_
  rintro e w' ⟨rfl, rfl⟩
  go_wp2_with fail
  refine (in_at c _).mono ?_
  rintro e w' ⟨rfl, rfl⟩
  go_wp2_with fail
  refine (mod_at (fm a) (fm a) (fm_fm a) _).mono ?_
  rintro e w' ⟨rfl, rfl⟩
  go_wp2_with fail
  refine (add_any a b _).mono ?_
  rintro e w' ⟨rfl, rfl⟩
  go_wp2_with fail
  refine (add_at (fm b) (fm a) (fm (a + b)) (q1 a b) _).mono ?_
  rintro e w' ⟨rfl, rfl⟩
  go_wp2_with fail
  refine (mul_any a b _).mono ?_
  rintro e w' ⟨rfl, rfl⟩
  go_wp2_with fail
  refine (mul_at (fm b) (fm a) (fm (a * b)) (q2 a b) _).mono ?_
  rintro e w' ⟨rfl, rfl⟩
  go_wp2_with fail
  refine (add_any a b _).mono ?_
  rintro e w' ⟨rfl, rfl⟩
  go_wp2_with fail
  refine (add_at (fm (a + b)) c _ (q3 a b c) _).mono ?_
  rintro e w' ⟨rfl, rfl⟩
  go_wp2_with fail
  refine (add_any b c _).mono ?_
  rintro e w' ⟨rfl, rfl⟩
  go_wp2_with fail
  refine (add_at a (fm (b + c)) _ (q4 a b c) _).mono ?_
  rintro e w' ⟨rfl, rfl⟩
  go_wp2_with fail
  refine (mul_any a b _).mono ?_
  rintro e w' ⟨rfl, rfl⟩
  go_wp2_with fail
  refine (mul_at (fm (a * b)) c _ (q5 a b c) _).mono ?_
  rintro e w' ⟨rfl, rfl⟩
  go_wp2_with fail
  refine (mul_any b c _).mono ?_
  rintro e w' ⟨rfl, rfl⟩
  go_wp2_with fail
  refine (mul_at a (fm (b * c)) _ (q6 a b c) _).mono ?_
  rintro e w' ⟨rfl, rfl⟩
  go_wp2_with fail
  refine (add_any b c _).mono ?_
  rintro e w' ⟨rfl, rfl⟩
  go_wp2_with fail
  refine (mul_at a (fm (b + c)) _ (q7 a b c) _).mono ?_
  rintro e w' ⟨rfl, rfl⟩
  go_wp2_with fail
  refine (mul_any a b _).mono ?_
  rintro e w' ⟨rfl, rfl⟩
  go_wp2_with fail
  refine (mul_any a c _).mono ?_
  rintro e w' ⟨rfl, rfl⟩
  go_wp2_with fail
  refine (add_at (fm (a * b)) (fm (a * c)) _ (q8 a b c) _).mono ?_
  rintro e w' ⟨rfl, rfl⟩
  go_wp2_with fail
  refine (add_at a 0 (fm a) (q9 a) _).mono ?_
  rintro e w' ⟨rfl, rfl⟩
  go_wp2_with fail
  refine (mul_at a 1 (fm a) (q10 a) _).mono ?_
  rintro e w' ⟨rfl, rfl⟩
  go_wp2_with fail
  refine (add_at (fm a) (-(fm a)) 0 (q11 a) _).mono ?_
  rintro e w' ⟨rfl, rfl⟩
  go_wp2_with fail
  refine (mul_any a b _).mono ?_
  rintro e w' ⟨rfl, rfl⟩
  go_wp2_with fail
  refine (inv_at a (invV a) 0 ⟨rfl, K4.out.1⟩ _).mono ?_
  rintro e w' ⟨rfl, rfl⟩
  go_wp2_with fail
  refine (in_inv a _).mono ?_
  rintro e w' ⟨rfl, rfl⟩
  go_wp2_with fail
  refine (mul_at a (invV a) 1 K4.out.2 _).mono ?_
  rintro e w' ⟨rfl, rfl⟩
  go_wp2
  go_ret
  exact ⟨rfl, by repeat (first | exact hb1 | refine Below.alloc ?_ (by have := hb1.size; simp; omega) _)⟩

theorem laws_any (a b c : Int) (w : World) (ha : (Lit.int .i64 a).wf = true) :
    Calls Try.prog 5 #[.int .i64 a, .int .i64 b, .int .i64 c] w fun e w' => e = .returned (.bool true) ∧ Below w.heap.size w w' := by
  have hb : a < 9223372036854775808 := by
    have := (bounds_i64 ha).2
    omega
  by_cases h1 : Int.tmod (wrap64 (a - fm a)) 1073741789 = 0
  · have t1 : (Int.tmod (wrap64 (a - fm a)) 1073741789 != 0) = false := by simp [h1]
    by_cases k1 : fm a = 0
    · exact laws_posA a b c w t1 (by simp [k1]) (by simp [fm_zero_mul k1]) ⟨by simp [invV, k1], by simp [invE, k1]⟩
    · have k4 : invE a = 0 ∧ fm (a * invV a) = 1 := ⟨by simp [invE, k1], invV_ok k1⟩
      by_cases k2 : fm b = 0
      · exact laws_posB a b c w t1 (by simp [k1]) (by simp [k2]) (by simp [fm_mul_zero k2]) k4
      · exact laws_posC a b c w t1 (by simp [k1]) (by simp [k2]) (by simp; exact fun h => (fm_no_zero h).elim k1 k2) k4
  · have t1 : (Int.tmod (wrap64 (a - fm a)) 1073741789 != 0) = true := by simp [h1]
    have h2 : a < 0 := by
      by_cases h : 0 ≤ a
      · exact absurd (q12 a h hb) h1
      · omega
    by_cases k1 : fm a = 0
    · exact laws_negA a b c w t1 h2 (by simp [k1]) (by simp [fm_zero_mul k1]) ⟨by simp [invV, k1], by simp [invE, k1]⟩
    · have k4 : invE a = 0 ∧ fm (a * invV a) = 1 := ⟨by simp [invE, k1], invV_ok k1⟩
      by_cases k2 : fm b = 0
      · exact laws_negB a b c w t1 h2 (by simp [k1]) (by simp [k2]) (by simp [fm_mul_zero k2]) k4
      · exact laws_negC a b c w t1 h2 (by simp [k1]) (by simp [k2]) (by simp; exact fun h => (fm_no_zero h).elim k1 k2) k4

end Go.Proofs.Ytlfgfnfcdffhpaa
