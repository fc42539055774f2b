/- Plain arithmetic modulo 1073741789: congruences, the power loop, inverses. Conditions: none. -/
import Derived.Test.YtlfgfnfcdffhpaaZ1
import Derived.Test.YtlfgfnfcdffhpaaN
namespace Go.Proofs.Ytlfgfnfcdffhpaa

theorem fm_eq_iff {a b : Int} : fm a = fm b ↔ ∃ k, a = b + 1073741789 * k := by
  unfold fm
  constructor
  · intro h; exact ⟨(a - b) / 1073741789, by omega⟩
  · rintro ⟨k, rfl⟩; omega
theorem fm_zero_iff {a : Int} : fm a = 0 ↔ ∃ k, a = 1073741789 * k := by
  unfold fm
  constructor
  · intro h; exact ⟨a / 1073741789, by omega⟩
  · rintro ⟨k, rfl⟩; omega
theorem fm_mul_congr {a b c d : Int} (h1 : fm a = fm c) (h2 : fm b = fm d) : fm (a * b) = fm (c * d) := by
  unfold fm at *
  rw [Int.mul_emod, h1, h2, ← Int.mul_emod]
theorem fm_add_congr {a b c d : Int} (h1 : fm a = fm c) (h2 : fm b = fm d) : fm (a + b) = fm (c + d) := by
  unfold fm at *
  rw [Int.add_emod, h1, h2, ← Int.add_emod]
theorem fm_neg_congr {a b : Int} (h : fm a = fm b) : fm (-a) = fm (-b) := by
  have := fm_mul_congr (a := -1) (c := -1) rfl h
  simpa using this
theorem fm_mul_l (a b : Int) : fm (fm a * b) = fm (a * b) := fm_mul_congr (fm_fm a) rfl
theorem fm_mul_r (a b : Int) : fm (a * fm b) = fm (a * b) := fm_mul_congr rfl (fm_fm b)
theorem fm_add_l (a b : Int) : fm (fm a + b) = fm (a + b) := fm_add_congr (fm_fm a) rfl
theorem fm_add_r (a b : Int) : fm (a + fm b) = fm (a + b) := fm_add_congr rfl (fm_fm b)
theorem fm_neg' (a : Int) : fm (-(fm a)) = fm (-a) := fm_neg_congr (fm_fm a)
theorem fm_of {a : Int} (h0 : 0 ≤ a) (h1 : a < 1073741789) : fm a = a := Int.emod_eq_of_lt h0 h1

theorem pow_even (a : Int) (m : Nat) : (a * a) ^ m = a ^ (2 * m) := by rw [Int.pow_mul, Int.pow_succ, Int.pow_succ, Int.pow_zero, Int.one_mul]
theorem fm_pow_congr {a b : Int} (h : fm a = fm b) : ∀ m : Nat, fm (a ^ m) = fm (b ^ m)
  | 0 => by simp
  | m + 1 => by
    rw [Int.pow_succ, Int.pow_succ]
    exact fm_mul_congr (fm_pow_congr h m) h
theorem pw_spec : ∀ (d : Nat) (x a : Int) (n : Nat), n < 2 ^ d → fm (pw d x a n) = fm (x * a ^ n)
  | 0, x, a, n, h => by
    obtain rfl : n = 0 := by simpa using h
    simp [pw]
  | d + 1, x, a, n, h => by
    have hd : ((n : Int) / 2) = ((n / 2 : Nat) : Int) := by omega
    by_cases h0 : n = 0
    · subst h0; simp [pw]
    · have hpos : (0 : Int) < n := by omega
      have hlt : n / 2 < 2 ^ d := by rw [Nat.pow_succ] at h; omega
      by_cases ho : n % 2 = 1
      · have ho' : ((n : Int) % 2 = 1) := by omega
        rw [pw, if_pos hpos, if_pos ho', hd, pw_spec d _ _ _ hlt]
        have e : n = 2 * (n / 2) + 1 := by omega
        have e2 : x * a ^ n = (x * a) * (a * a) ^ (n / 2) := by
          rw [pow_even]
          conv => lhs; rw [e, Int.pow_succ]
          rw [Int.mul_comm (a ^ _) a, Int.mul_assoc]
        rw [e2]
        exact fm_mul_congr (fm_fm _) (fm_pow_congr (fm_fm _) _)
      · have ho' : ¬ ((n : Int) % 2 = 1) := by omega
        rw [pw, if_pos hpos, if_neg ho', hd, pw_spec d _ _ _ hlt]
        have e : n = 2 * (n / 2) := by omega
        have e2 : x * a ^ n = x * (a * a) ^ (n / 2) := by
          rw [pow_even]
          conv => lhs; rw [e]
        rw [e2]
        exact fm_mul_congr rfl (fm_pow_congr (fm_fm _) _)
theorem pw_red : ∀ (d : Nat) (x a : Int) (n : Nat), n < 2 ^ d → (fm x = x ∨ 0 < n) → fm (pw d x a n) = pw d x a n
  | 0, x, a, n, h, h1 => by
    obtain rfl : n = 0 := by simpa using h
    rcases h1 with h1 | h1
    · simpa [pw] using h1
    · omega
  | d + 1, x, a, n, h, h1 => by
    have hd : ((n : Int) / 2) = ((n / 2 : Nat) : Int) := by omega
    by_cases h0 : n = 0
    · subst h0
      rcases h1 with h1 | h1
      · simpa [pw] using h1
      · omega
    · have hpos : (0 : Int) < n := by omega
      have hlt : n / 2 < 2 ^ d := by rw [Nat.pow_succ] at h; omega
      by_cases ho : n % 2 = 1
      · have ho' : ((n : Int) % 2 = 1) := by omega
        rw [pw, if_pos hpos, if_pos ho', hd]
        exact pw_red d _ _ _ hlt (.inl (fm_fm _))
      · have ho' : ¬ ((n : Int) % 2 = 1) := by omega
        rw [pw, if_pos hpos, if_neg ho', hd]
        exact pw_red d _ _ _ hlt (.inr (by omega))

/-- The exponent of the inverse. -/
def qe : Nat := 1073741787
theorem invV_spec (a : Int) : fm (invV a) = fm (a ^ qe) ∧ fm (invV a) = invV a := by
  unfold invV
  have h := pw_spec 31 1 a qe (by decide)
  have h2 := pw_red 31 1 a qe (by decide) (.inr (by decide))
  have e : ((qe : Nat) : Int) = 1073741787 := rfl
  rw [e, Int.one_mul] at h
  rw [e] at h2
  split
  · rename_i h0
    have := fm_pow_congr (b := 0) (h0.trans rfl) qe
    have e2 : (0 : Int) ^ qe = 0 := Int.zero_pow (by decide)
    rw [this, e2]
    exact ⟨rfl, rfl⟩
  · exact ⟨h, h2⟩
theorem invV_congr {a b : Int} (h : fm a = fm b) : invV a = invV b := by
  rw [← (invV_spec a).2, ← (invV_spec b).2, (invV_spec a).1, (invV_spec b).1, fm_pow_congr h]
theorem invV_mul (a b : Int) : fm (invV (a * b)) = fm (invV a * invV b) := by
  rw [(invV_spec _).1, Int.mul_pow]
  exact (fm_mul_congr (invV_spec a).1 (invV_spec b).1).symm
theorem invV_ok {a : Int} (h : fm a ≠ 0) : fm (a * invV a) = 1 := by
  have h0 := fm_lo a
  have h1 := fm_hi a
  obtain ⟨n, hn⟩ := Int.eq_ofNat_of_zero_le h0
  have hn0 : 0 < n := by omega
  have hn1 : n < 1073741789 := by omega
  have hq : qe + 1 + 1 = 1073741789 := rfl
  have hf := fermat2 (q := qe + 1) (by rw [hq]; exact prQ) n hn0 (by rw [hq]; exact hn1)
  rw [hq] at hf
  have e1 : fm (a * invV a) = fm (a ^ (qe + 1)) := by
    rw [Int.pow_succ, Int.mul_comm (a ^ qe) a]
    exact fm_mul_congr rfl (invV_spec a).1
  rw [e1, fm_pow_congr (b := (n : Int)) (by rw [← hn, fm_fm])]
  have e2 : (n : Int) ^ (qe + 1) = ((n ^ (qe + 1) : Nat) : Int) := by rw [Int.natCast_pow]
  rw [e2]
  generalize n ^ (qe + 1) = m at hf ⊢
  unfold fm
  omega
theorem fm_no_zero {a b : Int} (h : fm (a * b) = 0) : fm a = 0 ∨ fm b = 0 := by
  by_cases ha : fm a = 0
  · exact .inl ha
  · right
    have h1 := invV_ok ha
    have h2 : fm (invV a * (a * b)) = fm (invV a * 0) := fm_mul_congr rfl (h.trans rfl)
    have h3 : invV a * (a * b) = (a * invV a) * b := by rw [← Int.mul_assoc, Int.mul_comm (invV a)]
    rw [h3, Int.mul_zero] at h2
    have h4 : fm ((a * invV a) * b) = fm (1 * b) := fm_mul_congr (h1.trans rfl) rfl
    rw [h4, Int.one_mul] at h2
    exact h2

end Go.Proofs.Ytlfgfnfcdffhpaa
