/- Plain algebra: what the laws of the field ask of the two interpolations and of the values of polynomials. Conditions: as in the laws. -/
import Derived.Test.YtlfgfnfcdffhpaaZ4
namespace Go.Proofs.Ytlfgfnfcdffhpaa

theorem getD_map (ps : List (Int × Int)) (f : Int × Int → Int × Int) (j : Nat) (h : j < ps.length) : (ps.map f).getD j (0, 0) = f (ps.getD j (0, 0)) := by
  simp [List.getD_eq_getElem?_getD, List.getElem?_eq_getElem h]
/-- The points of a polynomial at the numbers of other points. -/
def ownP (poly : List Int) (ps : List (Int × Int)) : List (Int × Int) := ps.map fun p => (p.1, valL p.1 poly 0 1)
theorem through {ps : List (Int × Int)} {poly : List Int} (hd : Diff ps) (h64 : ps.length ≤ 64) (hl : poly.length ≤ ps.length) (t : Int) : fatV (ownP poly ps) t = valL t poly 0 1 ∧ fatE (ownP poly ps) = 0 := by
  have hlen : (ownP poly ps).length = ps.length := by simp [ownP]
  have hd' : Diff (ownP poly ps) := by
    unfold Diff ownP at *
    rw [List.map_map]
    exact hd
  refine ⟨?_, fatE_ok hd' (by omega)⟩
  rw [same_values hd' (by omega) (g := fun t => P poly t) ⟨poly, by omega, fun t => rfl⟩ (fun j hj => ?_) t, val_P]
  have h1 : px (ownP poly ps) j = px ps j := by
    unfold px ownP
    rw [getD_map ps _ j (by omega)]
  have h2 : py (ownP poly ps) j = valL (px ps j) poly 0 1 := by
    unfold py ownP
    rw [getD_map ps _ j (by omega)]
  rw [h1, h2, val_P, fm_fm]

theorem getD_mem {ps : List (Int × Int)} {q : Int × Int} (h : q ∈ ps) : ∃ j, j < ps.length ∧ px ps j = q.1 ∧ py ps j = q.2 := by
  obtain ⟨j, hj, e⟩ := List.mem_iff_getElem.1 h
  exact ⟨j, hj, by simp [px, List.getD_eq_getElem?_getD, List.getElem?_eq_getElem hj, e], by simp [py, List.getD_eq_getElem?_getD, List.getElem?_eq_getElem hj, e]⟩
theorem mem_getD {ps : List (Int × Int)} {j : Nat} (h : j < ps.length) : (px ps j, py ps j) ∈ ps := by
  have e : (px ps j, py ps j) = ps[j] := by simp [px, py, List.getD_eq_getElem?_getD, List.getElem?_eq_getElem h]
  rw [e]
  exact List.getElem_mem h
/-- Of points among which all of ps stand, no fewer of them, the interpolation takes ps's values. -/
theorem order {ps qs : List (Int × Int)} (hd : Diff ps) (hd' : Diff qs) (h64 : ps.length ≤ 64) (h64' : qs.length ≤ 64) (hle : ps.length ≤ qs.length) (h : ∀ q ∈ qs, fm (fatV ps q.1) = fm q.2) (t : Int) : fatV qs t = fatV ps t := by
  rw [same_values hd' h64' (g := fun t => SI ps t ps.length) ((SI_poly ps _ (Nat.le_refl _)).mono hle) (fun j hj => ?_) t, fatV_SI hd h64]
  have := h _ (mem_getD hj)
  simp only [fatV_SI hd h64, fm_fm] at this
  exact this
theorem turned {ps : List (Int × Int)} (hd : Diff ps) (h64 : ps.length ≤ 64) (k : Nat) (t : Int) : fatV (ps.drop k ++ ps.take k) t = fatV ps t ∧ fatE (ps.drop k ++ ps.take k) = 0 := by
  have hperm : (ps.drop k ++ ps.take k).Perm ps := by
    have := List.perm_append_comm (l₁ := ps.drop k) (l₂ := ps.take k)
    rwa [List.take_append_drop] at this
  have hd' : Diff (ps.drop k ++ ps.take k) := by
    unfold Diff at *
    exact ((hperm.map _).nodup_iff).2 hd
  have hlen := hperm.length_eq
  refine ⟨order hd hd' h64 (by omega) (by omega) (fun q hq => ?_) t, fatE_ok hd' (by omega)⟩
  obtain ⟨j, hj, e1, e2⟩ := getD_mem (hperm.mem_iff.1 hq)
  rw [← e1, ← e2, at_node hd h64 hj, fm_fm]
theorem more {ps : List (Int × Int)} (hd : Diff ps) (h64 : ps.length < 64) (x t : Int) (hd' : Diff (ps ++ [(x, fatV ps x)])) : fatV (ps ++ [(x, fatV ps x)]) t = fatV ps t ∧ fatE (ps ++ [(x, fatV ps x)]) = 0 := by
  refine ⟨order hd hd' (by omega) (by simp; omega) (by simp) (fun q hq => ?_) t, fatE_ok hd' (by simp; omega)⟩
  rcases List.mem_append.1 hq with h | h
  · obtain ⟨j, hj, e1, e2⟩ := getD_mem h
    rw [← e1, ← e2, at_node hd (by omega) hj, fm_fm]
  · obtain rfl : q = (x, fatV ps x) := by simpa using h
    rfl

theorem fatV_red (ps : List (Int × Int)) (t : Int) : fm (fatV ps t) = fatV ps t := by
  rw [fatV_eq]
  split
  · rfl
  · split
    · rw [yF_SI, fm_fm]
    · rfl
theorem in_fm (a : Int) : decide (0 ≤ fm a ∧ fm a < 1073741789) = true := by simp [fm_lo, fm_hi]

/-- The sum of two polynomials, as the law builds it, from place i on. -/
def sumF : List Int → List Int → List Int
  | [], [] => []
  | [], b :: bs => fm (0 + b) :: sumF [] bs
  | a :: as', [] => a :: sumF as' []
  | a :: as', b :: bs => fm (a + b) :: sumF as' bs
theorem sumF_P (t : Int) : ∀ a b : List Int, fm (P (sumF a b) t) = fm (P a t + P b t)
  | [], [] => by simp [sumF, P]
  | [], b :: bs => by
    rw [sumF, P, P, P]
    have ih := sumF_P t [] bs
    rw [P, Int.zero_add] at ih
    rw [Int.zero_add, Int.zero_add]
    exact fm_add_congr (fm_fm b) (fm_mul_congr rfl ih)
  | a :: as', [] => by
    rw [sumF, P, P, P]
    have ih := sumF_P t as' []
    rw [P, Int.add_zero] at ih
    rw [Int.add_zero]
    exact fm_add_congr rfl (fm_mul_congr rfl ih)
  | a :: as', b :: bs => by
    rw [sumF, P, P, P]
    have ih := sumF_P t as' bs
    have e : a + t * P as' t + (b + t * P bs t) = (a + b) + t * (P as' t + P bs t) := by rw [Int.mul_add]; omega
    rw [e]
    exact fm_add_congr (fm_fm _) (fm_mul_congr rfl ih)
theorem sums_ok (a b : List Int) (t : Int) : valL t (sumF a b) 0 1 = fm (valL t a 0 1 + valL t b 0 1) := by
  rw [val_P, val_P, val_P, sumF_P, fm_add_l]
  exact fm_add_r _ _ |>.symm
theorem times_P (n t : Int) (a : List Int) : fm (P (a.map fun c => fm (n * c)) t) = fm (n * P a t) := by
  induction a with
  | nil => simp [P]
  | cons c a ih =>
    rw [List.map_cons, P, P, Int.mul_add]
    refine fm_add_congr (fm_fm _) ?_
    have e : n * (t * P a t) = t * (n * P a t) := by rw [Int.mul_left_comm]
    rw [e]
    exact fm_mul_congr rfl ih
theorem times_ok (n t : Int) (a : List Int) : valL t (a.map fun c => fm (n * c)) 0 1 = fm (n * valL t a 0 1) := by
  rw [val_P, val_P, times_P]
  exact (fm_mul_r _ _).symm

end Go.Proofs.Ytlfgfnfcdffhpaa
