/- Plain algebra modulo 1073741789: polynomials, the values of the two interpolations, and that few values determine a polynomial. Conditions: none. -/
import Derived.Test.YtlfgfnfcdffhpaaZ2
namespace Go.Proofs.Ytlfgfnfcdffhpaa

def P : List Int → Int → Int
  | [], _ => 0
  | c :: cs, x => c + x * P cs x
theorem P_congr (cs : List Int) {x y : Int} (h : fm x = fm y) : fm (P cs x) = fm (P cs y) := by
  induction cs with
  | nil => rfl
  | cons c cs ih => exact fm_add_congr rfl (fm_mul_congr h ih)
theorem horL_eq (t : Int) (l : List Int) : horL t l = fm (P l t) := by
  induction l with
  | nil => rfl
  | cons c l ih =>
    rw [horL, ih, fm_add_l, P]
    have h1 : fm (fm (P l t) * t + c) = fm (P l t * t + c) := fm_add_congr (fm_mul_l _ _) rfl
    rw [h1, Int.mul_comm, Int.add_comm]
theorem valL_eq (t : Int) (l : List Int) : ∀ y p : Int, fm y = y → valL t l y p = fm (y + p * P l t) := by
  induction l with
  | nil => intro y p h; rw [valL, P, Int.mul_zero, Int.add_zero, h]
  | cons c l ih =>
    intro y p h
    rw [valL, ih _ _ (fm_fm _), P]
    have e : y + p * (c + t * P l t) = (y + c * p) + (p * t) * P l t := by rw [Int.mul_add, Int.mul_comm p c, Int.mul_assoc]; omega
    rw [e]
    refine fm_add_congr ?_ (fm_mul_congr (fm_fm _) rfl)
    rw [fm_fm]
    exact fm_add_congr rfl (fm_fm _)
theorem val_P (t : Int) (l : List Int) : valL t l 0 1 = fm (P l t) := by rw [valL_eq t l 0 1 rfl, Int.zero_add, Int.one_mul]

def prodI (t : Int) : List (Int × Int) → Int
  | [] => 1
  | q :: qs => (t - q.1) * prodI t qs
theorem prodI_append (t : Int) (l m : List (Int × Int)) : prodI t (l ++ m) = prodI t l * prodI t m := by
  induction l with
  | nil => simp [prodI]
  | cons q l ih => simp [prodI, ih, Int.mul_assoc]
theorem prodI_congr {s t : Int} (h : fm s = fm t) (l : List (Int × Int)) : fm (prodI s l) = fm (prodI t l) := by
  induction l with
  | nil => rfl
  | cons q l ih => exact fm_mul_congr (by rw [Int.sub_eq_add_neg, Int.sub_eq_add_neg]; exact fm_add_congr h rfl) ih
theorem sub_fm (t a : Int) : fm (t + -(fm a)) = fm (t - a) := by
  rw [Int.sub_eq_add_neg]
  exact fm_add_congr rfl (fm_neg' a)
theorem aboveF_eq (t : Int) (qs : List (Int × Int)) : ∀ a : Int, fm a = a → aboveF t qs a = fm (a * prodI t qs) := by
  induction qs with
  | nil => intro a h; simp [aboveF, prodI, h]
  | cons q qs ih =>
    intro a h
    show aboveF t qs (fm (a * fm (t + -(fm q.1)))) = _
    rw [ih _ (fm_fm _), fm_mul_l, prodI, ← Int.mul_assoc]
    exact fm_mul_congr (fm_mul_congr rfl (by rw [fm_fm, sub_fm])) rfl
theorem belowF_eq (t : Int) (qs : List (Int × Int)) (a : Int) (h : fm a = a) : belowF t qs a = fm (a * prodI t qs) := aboveF_eq t qs a h

/-- One term of the interpolation. -/
def termI (ps : List (Int × Int)) (t : Int) (i : Nat) (qs : List (Int × Int)) : Int := py ps i * prodI t qs * invV (prodI (px ps i) qs)
theorem inv_one : fm (invV 1) = 1 := by
  have := invV_ok (a := 1) (by decide)
  rwa [Int.one_mul] at this
theorem termF (ps : List (Int × Int)) (t : Int) (i : Nat) : fm (aboveF t (ps.eraseIdx i) (fm (py ps i)) * invV (belowF (px ps i) (ps.eraseIdx i) 1)) = fm (termI ps t i (ps.eraseIdx i)) := by
  unfold termI
  refine fm_mul_congr ?_ ?_
  · rw [aboveF_eq _ _ _ (fm_fm _), fm_fm]
    exact fm_mul_congr (fm_fm _) rfl
  · rw [belowF_eq _ _ _ rfl, Int.one_mul, invV_congr (fm_fm _)]
theorem partR_eq (ps : List (Int × Int)) (t : Int) (i : Nat) : ∀ k, k ≤ ps.length → partR ps t i k = fm (termI ps t i ((ps.take k).eraseIdx i))
  | 0, _ => by
    simp only [partR, termI, List.take_zero, List.eraseIdx_nil, prodI, Int.mul_one]
    have : fm (py ps i * invV 1) = fm (py ps i * 1) := fm_mul_congr rfl (inv_one.trans rfl)
    rw [this, Int.mul_one]
  | k + 1, h => by
    rw [partR, partR_eq ps t i k (by omega), erase_take_succ ps i k (by omega)]
    by_cases hk : k = i
    · simp [hk]
    · rw [if_neg hk, if_neg hk]
      unfold termI
      rw [prodI_append, prodI_append]
      obtain ⟨A, hA⟩ : ∃ A, prodI t ((ps.take k).eraseIdx i) = A := ⟨_, rfl⟩
      obtain ⟨B, hB⟩ : ∃ B, prodI (px ps i) ((ps.take k).eraseIdx i) = B := ⟨_, rfl⟩
      rw [hA, hB]
      have e1 : prodI t [(px ps k, py ps k)] = t - px ps k := by simp [prodI]
      have e2 : prodI (px ps i) [(px ps k, py ps k)] = px ps i - px ps k := by simp [prodI]
      rw [e1, e2, fm_mul_l]
      have h1 : fm (fm (fm (t + -(fm (px ps k))) * invV (fm (px ps i + -(fm (px ps k)))))) = fm ((t - px ps k) * invV (px ps i - px ps k)) := by
        rw [fm_fm]
        refine fm_mul_congr (by rw [fm_fm, sub_fm]) ?_
        rw [invV_congr (b := px ps i - px ps k) (by rw [fm_fm, sub_fm])]
      have h2 : fm (py ps i * (A * (t - px ps k)) * invV (B * (px ps i - px ps k))) = fm (py ps i * (A * (t - px ps k)) * (invV B * invV (px ps i - px ps k))) := fm_mul_congr rfl (invV_mul _ _)
      rw [h2]
      have h3 : py ps i * (A * (t - px ps k)) * (invV B * invV (px ps i - px ps k)) = (py ps i * A * invV B) * ((t - px ps k) * invV (px ps i - px ps k)) := by
        simp only [Int.mul_assoc, Int.mul_left_comm, Int.mul_comm]
      rw [h3]
      exact fm_mul_congr rfl h1
theorem y_eq (ps : List (Int × Int)) (t : Int) : ∀ j, yF ps t j = yR ps t j
  | 0 => rfl
  | j + 1 => by
    rw [yF, yR, y_eq ps t j, termF, partR_eq ps t j _ (Nat.le_refl _), List.take_length]
theorem fat_at (ps : List (Int × Int)) (t : Int) : fatV ps t = atV ps t := by
  rw [fatV_eq, atV, y_eq]

end Go.Proofs.Ytlfgfnfcdffhpaa
