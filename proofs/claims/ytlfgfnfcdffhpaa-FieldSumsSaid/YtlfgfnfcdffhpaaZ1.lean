/- Plain number theory: binomials, and Fermat's small theorem for the prime 1073741789. Conditions: none. -/
import Derived.KernelRfl
namespace Go.Proofs.Ytlfgfnfcdffhpaa

def bin : Nat → Nat → Nat
  | _, 0 => 1
  | 0, _ + 1 => 0
  | n + 1, k + 1 => bin n k + bin n (k + 1)
theorem bin_zero (n : Nat) : bin n 0 = 1 := by cases n <;> rfl
theorem bin_gt : ∀ (n k : Nat), n < k → bin n k = 0
  | 0, k + 1, _ => rfl
  | n + 1, k + 1, h => by
    show bin n k + bin n (k + 1) = 0
    rw [bin_gt n k (by omega), bin_gt n (k + 1) (by omega)]
theorem bin_self : ∀ n : Nat, bin n n = 1
  | 0 => rfl
  | n + 1 => by
    show bin n n + bin n (n + 1) = 1
    rw [bin_self n, bin_gt n (n + 1) (by omega)]
theorem bin_absorb : ∀ (n k : Nat), (k + 1) * bin (n + 1) (k + 1) = (n + 1) * bin n k
  | 0, 0 => rfl
  | 0, k + 1 => by
    show (k + 1 + 1) * (bin 0 (k + 1) + bin 0 (k + 2)) = _
    rw [bin_gt 0 (k + 1) (by omega), bin_gt 0 (k + 2) (by omega)]
    simp
  | n + 1, 0 => by
    have h := bin_absorb n 0
    show (0 + 1) * (bin (n + 1) 0 + bin (n + 1) 1) = (n + 1 + 1) * bin (n + 1) 0
    rw [bin_zero] at h ⊢
    have h' : bin (n + 1) 1 = n + 1 := by simpa using h
    omega
  | n + 1, k + 1 => by
    have h1 := bin_absorb n (k + 1)
    have h2 := bin_absorb n k
    have h3 : bin (n + 1) (k + 1) = bin n k + bin n (k + 1) := rfl
    show (k + 1 + 1) * (bin (n + 1) (k + 1) + bin (n + 1) (k + 2)) = (n + 1 + 1) * bin (n + 1) (k + 1)
    rw [Nat.mul_add, h1]
    have h4 : (k + 1 + 1) * bin (n + 1) (k + 1) = (n + 1) * bin n k + bin (n + 1) (k + 1) := by rw [Nat.add_mul (k + 1) 1, h2]; omega
    rw [h4]
    have h5 : (n + 1 + 1) * bin (n + 1) (k + 1) = (n + 1) * (bin n k + bin n (k + 1)) + bin (n + 1) (k + 1) := by rw [← h3, Nat.add_mul (n + 1) 1]; omega
    rw [h5, Nat.mul_add]
    omega

def sumTo (f : Nat → Nat) : Nat → Nat
  | 0 => f 0
  | n + 1 => sumTo f n + f (n + 1)
theorem binom_step (a n : Nat) : ∀ m, sumTo (fun k => bin (n + 1) k * a ^ k) (m + 1) = sumTo (fun k => bin n k * a ^ k) (m + 1) + a * sumTo (fun k => bin n k * a ^ k) m
  | 0 => by
    simp only [sumTo, bin_zero]
    show 1 * a ^ 0 + (bin n 0 + bin n 1) * a ^ (0 + 1) = _
    rw [bin_zero]
    simp [Nat.add_mul]
    omega
  | m + 1 => by
    have ih := binom_step a n m
    show sumTo (fun k => bin (n + 1) k * a ^ k) (m + 1) + bin (n + 1) (m + 2) * a ^ (m + 2) = (sumTo (fun k => bin n k * a ^ k) (m + 1) + bin n (m + 2) * a ^ (m + 2)) + a * (sumTo (fun k => bin n k * a ^ k) m + bin n (m + 1) * a ^ (m + 1))
    rw [ih]
    have h3 : bin (n + 1) (m + 2) = bin n (m + 1) + bin n (m + 2) := rfl
    have h4 : a * (bin n (m + 1) * a ^ (m + 1)) = bin n (m + 1) * a ^ (m + 2) := by rw [Nat.pow_succ a (m + 1), Nat.mul_left_comm, Nat.mul_comm a]
    rw [h3, Nat.add_mul, Nat.mul_add, h4]
    omega
theorem binom (a : Nat) : ∀ n, (a + 1) ^ n = sumTo (fun k => bin n k * a ^ k) n
  | 0 => by simp [sumTo, bin_zero]
  | n + 1 => by
    rw [binom_step, Nat.pow_succ, binom a n]
    have h : sumTo (fun k => bin n k * a ^ k) (n + 1) = sumTo (fun k => bin n k * a ^ k) n := by
      show sumTo (fun k => bin n k * a ^ k) n + bin n (n + 1) * a ^ (n + 1) = _
      rw [bin_gt n (n + 1) (by omega)]
      omega
    rw [h, Nat.mul_add, Nat.mul_comm _ a]
    omega
theorem sumTo_mod {p : Nat} {f : Nat → Nat} : ∀ n, (∀ k, 0 < k → k ≤ n → p ∣ f k) → sumTo f n % p = f 0 % p
  | 0, _ => rfl
  | n + 1, h => by
    have ih := sumTo_mod (p := p) (f := f) n (fun k h0 h1 => h k h0 (by omega))
    obtain ⟨c, hc⟩ := h (n + 1) (by omega) (Nat.le_refl _)
    show (sumTo f n + f (n + 1)) % p = _
    rw [hc, Nat.add_mul_mod_self_left, ih]

/-- p is prime: nothing below it but 0 shares a divisor with it. -/
def Pr (p : Nat) : Prop := 1 < p ∧ ∀ k, 0 < k → k < p → Nat.Coprime p k
theorem fermat {p : Nat} (hp : Pr p) : ∀ a : Nat, a ^ p % p = a % p
  | 0 => by rw [Nat.zero_pow (by have := hp.1; omega)]
  | a + 1 => by
    obtain ⟨h1, hc⟩ := hp
    obtain ⟨q, rfl⟩ : ∃ q, p = q + 1 := ⟨p - 1, by omega⟩
    rw [binom]
    have hd : ∀ k, 0 < k → k ≤ q → (q + 1) ∣ bin (q + 1) k * a ^ k := fun k h0 hk => by
      obtain ⟨j, rfl⟩ : ∃ j, k = j + 1 := ⟨k - 1, by omega⟩
      have hb : (q + 1) ∣ (j + 1) * bin (q + 1) (j + 1) := by rw [bin_absorb]; exact Nat.dvd_mul_right _ _
      exact Nat.dvd_trans ((hc (j + 1) (by omega) (by omega)).dvd_of_dvd_mul_left hb) (Nat.dvd_mul_right _ _)
    show (sumTo (fun k => bin (q + 1) k * a ^ k) q + bin (q + 1) (q + 1) * a ^ (q + 1)) % (q + 1) = _
    rw [bin_self, Nat.one_mul, Nat.add_mod, sumTo_mod q hd, fermat ⟨h1, hc⟩ a]
    simp only [bin_zero, Nat.pow_zero, Nat.mul_one]
    rw [← Nat.add_mod, Nat.add_comm]

def chk : Nat → Nat → Bool
  | 0, lo => decide (lo < 2) || decide (1073741789 % lo ≠ 0)
  | d + 1, lo => chk d lo && chk d (lo + 2 ^ d)
theorem chk_spec : ∀ (d lo : Nat), chk d lo = true → ∀ x, lo ≤ x → x < lo + 2 ^ d → x < 2 ∨ 1073741789 % x ≠ 0
  | 0, lo, h, x, h0, h1 => by
    obtain rfl : x = lo := by simp at h1; omega
    simpa [chk] using h
  | d + 1, lo, h, x, h0, h1 => by
    simp only [chk, Bool.and_eq_true] at h
    rcases Nat.lt_or_ge x (lo + 2 ^ d) with hx | hx
    · exact chk_spec d lo h.1 x h0 hx
    · exact chk_spec d (lo + 2 ^ d) h.2 x hx (by rw [Nat.pow_succ] at h1; omega)
theorem chk_all : chk 15 0 = true := by decide +kernel
theorem no_small (x : Nat) (h : 2 ≤ x) (h1 : x < 32768) : ¬ x ∣ 1073741789 := fun hd => by
  rcases chk_spec 15 0 chk_all x (Nat.zero_le _) (by simpa using h1) with h2 | h2
  · omega
  · exact h2 (Nat.mod_eq_zero_of_dvd hd)
theorem prQ : Pr 1073741789 := by
  refine ⟨by decide, fun k h0 hk => ?_⟩
  obtain ⟨g, hg⟩ : ∃ g, Nat.gcd 1073741789 k = g := ⟨_, rfl⟩
  have hg1 : g ∣ 1073741789 := hg ▸ Nat.gcd_dvd_left _ _
  have hg2 : g ∣ k := hg ▸ Nat.gcd_dvd_right _ _
  have hle : g ≤ k := Nat.le_of_dvd h0 hg2
  have hpos : 0 < g := Nat.pos_of_dvd_of_pos hg2 h0
  show Nat.gcd 1073741789 k = 1
  rw [hg]
  rcases Nat.lt_or_ge g 2 with h2 | h2
  · omega
  · exfalso
    obtain ⟨c, hc⟩ := hg1
    have hc2 : 2 ≤ c := by
      rcases Nat.lt_or_ge c 2 with h | h
      · have : c = 0 ∨ c = 1 := by omega
        rcases this with rfl | rfl <;> omega
      · exact h
    rcases Nat.lt_or_ge g 32768 with h3 | h3
    · exact no_small g h2 h3 ⟨c, hc⟩
    · rcases Nat.lt_or_ge c 32768 with h4 | h4
      · exact no_small c hc2 h4 ⟨g, by rw [hc, Nat.mul_comm]⟩
      · have := Nat.mul_le_mul h3 h4
        omega
theorem fermat1 {p : Nat} (hp : Pr p) (a : Nat) (h0 : 0 < a) (ha : a < p) : a ^ (p - 1) % p = 1 := by
  have hf := fermat hp a
  obtain ⟨h1, hc⟩ := hp
  obtain ⟨q, rfl⟩ : ∃ q, p = q + 1 := ⟨p - 1, by omega⟩
  have hpos : 0 < a ^ q := Nat.pow_pos h0
  have hd : (q + 1) ∣ a * (a ^ q - 1) := by
    rw [Nat.mul_sub, Nat.mul_one, Nat.mul_comm, ← Nat.pow_succ]
    exact Nat.dvd_of_mod_eq_zero (Nat.sub_mod_eq_zero_of_mod_eq hf)
  have hd2 := (hc a h0 ha).dvd_of_dvd_mul_left hd
  obtain ⟨c, hc⟩ := hd2
  show a ^ q % (q + 1) = 1
  have : a ^ q = 1 + (q + 1) * c := by omega
  rw [this, Nat.add_mul_mod_self_left, Nat.mod_eq_of_lt h1]

theorem fermat2 {q : Nat} (hp : Pr (q + 1)) (a : Nat) (h0 : 0 < a) (ha : a < q + 1) : a ^ q % (q + 1) = 1 := fermat1 hp a h0 ha

end Go.Proofs.Ytlfgfnfcdffhpaa
