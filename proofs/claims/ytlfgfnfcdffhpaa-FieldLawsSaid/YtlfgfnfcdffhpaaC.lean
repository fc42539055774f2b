/- Contracts of Inverse of packages field and signatoryref09. Conditions: none. -/
import Derived.Test.YtlfgfnfcdffhpaaB
namespace Go.Proofs.Ytlfgfnfcdffhpaa
open Go.RowKit

def invV (n : Int) : Int := if fm n = 0 then 0 else pw 31 1 n 1073741787
def invE (n : Int) : Int := if fm n = 0 then 90 else 0

theorem ret2 {a b a' b' : Int} (h : a = a') (h' : b = b') : Ending.returned (.tuple #[.int .i64 a, .int .i64 b]) = .returned (.tuple #[.int .i64 a', .int .i64 b']) := by rw [h, h']

set_option maxHeartbeats 400000 in
theorem rinv_any (n : Int) (w : World) : Calls Try.prog 11 #[.int .i64 n] w fun e w' => e = .returned (.tuple #[.int .i64 (invV n), .int .i64 (invE n)]) ∧ w = w' := by
  by_cases h : fm n = 0
  · have e1 : Hid (invV n = 0 ∧ invE n = 90) := Lib.hid (by simp [invV, invE, h])
    have hb : (fm n == 0) = true := by simp [h]
    clear h
    go_enter Try.func11, Try.ntmps11
    go_wp2_with (first | (go_at_call 13; refine (rmod_any _ _).mono ?_; rintro e w' ⟨rfl, rfl⟩))
    go_ret2
    exact ⟨ret2 e1.out.1.symm e1.out.2.symm, rfl⟩
  · have e1 : Hid (invV n = pw 31 1 n 1073741787 ∧ invE n = 0) := Lib.hid (by simp [invV, invE, h])
    have hb : (fm n == 0) = false := by simp [h]
    clear h
    go_enter Try.func11, Try.ntmps11
    go_wp2_with (first | (go_at_call 13; refine (rmod_any _ _).mono ?_; rintro e w' ⟨rfl, rfl⟩) | (go_at_call 25; refine (power_any _ _ (by omega) (by omega) _).mono ?_; rintro e w' ⟨rfl, rfl⟩))
    go_ret2
    exact ⟨ret2 e1.out.1.symm e1.out.2.symm, rfl⟩

set_option maxHeartbeats 400000 in
theorem inv_any (n : Int) (w : World) : Calls Try.prog 10 #[.int .i64 n] w fun e w' => e = .returned (.tuple #[.int .i64 (invV n), .int .i64 (invE n)]) ∧ w = w' := by
  by_cases h : fm n = 0
  · have e1 : Hid (invV n = 0 ∧ invE n = 90) := Lib.hid (by simp [invV, invE, h])
    have hb : (fm n == 0) = true := by simp [h]
    clear h
    go_enter Try.func10, Try.ntmps10
    go_wp2_with (first | (go_at_call 12; refine (mod_any _ _).mono ?_; rintro e w' ⟨rfl, rfl⟩))
    go_step3
    go_wp2_with (first | (go_at_call 12; refine (mod_any _ _).mono ?_; rintro e w' ⟨rfl, rfl⟩))
    rw [Exit.noGoto_ret]
    go_ret2
    exact ⟨ret2 e1.out.1.symm e1.out.2.symm, rfl⟩
  · have e1 : Hid (invV n = pw 31 1 n 1073741787 ∧ invE n = 0) := Lib.hid (by simp [invV, invE, h])
    have hb : (fm n == 0) = false := by simp [h]
    clear h
    go_enter Try.func10, Try.ntmps10
    go_wp2_with (first | (go_at_call 12; refine (mod_any _ _).mono ?_; rintro e w' ⟨rfl, rfl⟩))
    go_step3
    go_wp2_with (first | (go_at_call 12; refine (mod_any _ _).mono ?_; rintro e w' ⟨rfl, rfl⟩))
    go_step3
    go_wp2
    go_loop [2, 4, 5] (fun x' n' a' => ∃ (d : Nat) (a1 n1 x1 : Int), a' = .int .i64 a1 ∧ n' = .int .i64 n1 ∧ x' = .int .i64 x1 ∧ 0 ≤ n1 ∧ n1 < 2147483648 ∧ n1 < 2 ^ d ∧ d ≤ 31 ∧ pw d x1 a1 n1 = pw 31 1 n 1073741787) (fun _ n' _ => (intOf n').toNat)
    case atStart => exact ⟨31, n, _, 1, rfl, rfl, rfl, by omega, by omega, by omega, by omega, rfl⟩
    case round =>
      obtain ⟨d, a1, n1, x1, rfl, rfl, rfl, g0, g4, g1, g2, g3⟩ := hrel
      have G := Lib.hid g3
      have G1 := Lib.hid g1
      clear g3 g1
      by_cases hlt : 0 < n1
      · obtain ⟨d, rfl⟩ : ∃ m, d = m + 1 := by
          rcases d with _ | d
          · have := G1.out; simp at this; omega
          · exact ⟨d, rfl⟩
        by_cases ho : n1 % 2 = 1
        · have e2 : Hid (pw d (fm (x1 * a1)) (fm (a1 * a1)) (n1 / 2) = pw 31 1 n 1073741787) := Lib.hid (by rw [← G.out]; simp [pw, hlt, ho])
          clear G
          go_wp2_with (first | (go_at_call 16; refine (mul_any _ _ _).mono ?_; rintro e w' ⟨rfl, rfl⟩))
          go_round
          case rel => exact ⟨d, _, _, _, rfl, rfl, rfl, by omega, by omega, by have := G1.out; rw [Int.pow_succ] at this; omega, by omega, e2.out⟩
          case measure => simp [intOf]; omega
        · have e2 : Hid (pw d x1 (fm (a1 * a1)) (n1 / 2) = pw 31 1 n 1073741787) := Lib.hid (by rw [← G.out]; simp [pw, hlt, ho])
          clear G
          go_wp2_with (first | (go_at_call 16; refine (mul_any _ _ _).mono ?_; rintro e w' ⟨rfl, rfl⟩))
          go_round
          case rel => exact ⟨d, _, _, _, rfl, rfl, rfl, by omega, by omega, by have := G1.out; rw [Int.pow_succ] at this; omega, by omega, e2.out⟩
          case measure => simp [intOf]; omega
      · have e2 : Hid (x1 = invV n) := Lib.hid (by
          rw [e1.out.1, ← G.out]
          cases d with
          | zero => rfl
          | succ d => simp [pw, hlt])
        clear G
        go_wp2
        go_ret2
        exact ⟨ret2 e2.out e1.out.2.symm, rfl⟩

end Go.Proofs.Ytlfgfnfcdffhpaa
