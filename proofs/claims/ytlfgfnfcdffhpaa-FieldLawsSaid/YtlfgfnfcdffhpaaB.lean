/- Contracts of sum of two numbers, Add, power, Inverse (both), in and Few. Conditions: none. -/
import Derived.Test.YtlfgfnfcdffhpaaA
namespace Go.Proofs.Ytlfgfnfcdffhpaa
open Go.RowKit

def rd2 (x y : Int) (k : Nat) : Int := if k = 0 then x else y
def pre2 (x y : Int) (k : Nat) : Int := if k = 0 then 0 else if k = 1 then fm x else fm (x + y)
theorem pre2_succ (x y : Int) (k : Nat) (h : k < 2) : Int.tmod (wrap64 (pre2 x y k + fm (rd2 x y k))) 1073741789 = pre2 x y (k + 1) := by
  have e : k = 0 ∨ k = 1 := by omega
  rcases e with rfl | rfl
  · have := fm_add 0 x
    have h0 : fm 0 = 0 := rfl
    rw [h0] at this
    simpa [pre2, rd2] using this
  · have := fm_add x y
    simpa [pre2, rd2] using this

set_option maxHeartbeats 400000 in
theorem sum2_any (x y : Int) (b : Nat) (w : World) (h0 : w.cell? ⟨b, 0, none⟩ = some (.int .i64 x)) (h1 : w.cell? ⟨b, 1, none⟩ = some (.int .i64 y)) :
    Calls Try.prog 26 #[.slice (some ⟨b, 0, none⟩) 2 2] w fun e w' => e = .returned (.int .i64 (fm (x + y))) ∧ w = w' := by
  go_enter Try.func26, Try.ntmps26
  go_wp2
  go_loop [3, 8] (fun s i => ∃ k : Nat, k ≤ 2 ∧ i = .int .i64 k ∧ s = .int .i64 (pre2 x y k)) (fun _ i => 2 - (intOf i).toNat)
  case atStart => exact ⟨0, by omega, rfl, rfl⟩
  case round =>
    obtain ⟨k, hk, rfl, rfl⟩ := hrel
    by_cases hlt : k < 2
    · have hs := Lib.hid (pre2_succ x y k hlt)
      have hc : w.cell? ⟨b, k, none⟩ = some (.int .i64 (rd2 x y k)) := by
        have e : k = 0 ∨ k = 1 := by omega
        rcases e with rfl | rfl
        · exact h0
        · exact h1
      clear h0 h1
      go_wp2_with (go_at_call 12; refine (mod_any _ _).mono ?_; rintro e w' ⟨rfl, rfl⟩)
      go_round
      case rel => exact ⟨k + 1, by omega, by go_num, by rw [hs.out]⟩
      case measure => simp [intOf]; omega
    · obtain rfl : k = 2 := by omega
      go_wp2
      go_ret
      exact ⟨rfl, rfl⟩

set_option maxHeartbeats 400000 in
theorem add_any (a b : Int) (w : World) : Calls Try.prog 14 #[.int .i64 a, .int .i64 b] w fun e w' => e = .returned (.int .i64 (fm (a + b))) ∧ w.alloc (.cells #[.int .i64 a, .int .i64 b] 3) = w' := by
  go_enter Try.func14, Try.ntmps14
  go_wp2_with fail
  refine (sum2_any a b _ _ ?_ ?_).mono ?_
  · simp
  · simp
  rintro e w' ⟨rfl, rfl⟩
  go_wp2
  go_ret
  exact ⟨rfl, rfl⟩

set_option maxHeartbeats 400000 in
theorem in_any (a : Int) (w : World) : Calls Try.prog 23 #[.int .i64 a] w fun e w' => e = .returned (.bool (decide (0 ≤ a ∧ a < 1073741789))) ∧ w = w' := by
  by_cases h0 : 0 ≤ a
  · by_cases h1 : a < 1073741789
    · go_enter Try.func23, Try.ntmps23
      go_wp2
      go_ret
      exact ⟨by simp [h0, h1], rfl⟩
    · go_enter Try.func23, Try.ntmps23
      go_wp2
      go_ret
      exact ⟨by simp [h1], rfl⟩
  · go_enter Try.func23, Try.ntmps23
    go_wp2
    go_ret
    exact ⟨by simp; omega, rfl⟩

set_option maxHeartbeats 400000 in
theorem few_any (A : Option Addr) (n c : Nat) (w : World) : Calls Try.prog 18 #[.slice A n c] w fun e w' => e = .returned (.bool (decide ((n : Int) ≤ 70))) ∧ w = w' := by
  go_enter Try.func18, Try.ntmps18
  go_wp2
  go_ret
  exact ⟨rfl, rfl⟩

/-- The square-and-multiply loop: x times a to the n. -/
def pw : Nat → Int → Int → Int → Int
  | 0, x, _, _ => x
  | d + 1, x, a, n => if 0 < n then pw d (if n % 2 = 1 then fm (x * a) else x) (fm (a * a)) (n / 2) else x

set_option maxHeartbeats 400000 in
theorem power_any (a n : Int) (h : 0 ≤ n) (hn : n < 2147483648) (w : World) : Calls Try.prog 25 #[.int .i64 a, .int .i64 n] w fun e w' => e = .returned (.int .i64 (pw 31 1 a n)) ∧ w = w' := by
  go_enter Try.func25, Try.ntmps25
  go_wp2
  go_loop [0, 1, 5] (fun a' n' x' => ∃ (d : Nat) (a1 n1 x1 : Int), a' = .int .i64 a1 ∧ n' = .int .i64 n1 ∧ x' = .int .i64 x1 ∧ 0 ≤ n1 ∧ n1 < 2147483648 ∧ n1 < 2 ^ d ∧ d ≤ 31 ∧ pw d x1 a1 n1 = pw 31 1 a n) (fun _ n' _ => (intOf n').toNat)
  case atStart => exact ⟨31, a, n, 1, rfl, rfl, rfl, h, hn, by omega, by omega, rfl⟩
  case round =>
    obtain ⟨d, a1, n1, x1, rfl, rfl, rfl, g0, g4, g1, g2, g3⟩ := hrel
    have G := Lib.hid g3
    have G1 := Lib.hid g1
    clear g3 g1
    by_cases hlt : 0 < n1
    · obtain ⟨d, rfl⟩ : ∃ m, d = m + 1 := by
        rcases d with _ | d
        · have := G1.out; simp at this; omega
        · exact ⟨d, rfl⟩
      by_cases ho : n1 % 2 = 1
      · have e1 : Hid (pw d (fm (x1 * a1)) (fm (a1 * a1)) (n1 / 2) = pw 31 1 a n) := Lib.hid (by rw [← G.out]; simp [pw, hlt, ho])
        clear G
        go_wp2_with (first | (go_at_call 17; refine (rmul_any _ _ _).mono ?_; rintro e w' ⟨rfl, rfl⟩))
        go_round
        case rel => exact ⟨d, _, _, _, rfl, rfl, rfl, by omega, by omega, by have := G1.out; rw [Int.pow_succ] at this; omega, by omega, e1.out⟩
        case measure => simp [intOf]; omega
      · have e1 : Hid (pw d x1 (fm (a1 * a1)) (n1 / 2) = pw 31 1 a n) := Lib.hid (by rw [← G.out]; simp [pw, hlt, ho])
        clear G
        go_wp2_with (first | (go_at_call 17; refine (rmul_any _ _ _).mono ?_; rintro e w' ⟨rfl, rfl⟩))
        go_round
        case rel => exact ⟨d, _, _, _, rfl, rfl, rfl, by omega, by omega, by have := G1.out; rw [Int.pow_succ] at this; omega, by omega, e1.out⟩
        case measure => simp [intOf]; omega
    · have e1 : Hid (x1 = pw 31 1 a n) := Lib.hid (by
        rw [← G.out]
        cases d with
        | zero => rfl
        | succ d => simp [pw, hlt])
      clear G
      go_wp2
      go_ret
      exact ⟨ret64 e1.out, rfl⟩

end Go.Proofs.Ytlfgfnfcdffhpaa
