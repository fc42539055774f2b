/- Plain algebra modulo 1073741789: the interpolation takes the given values, and nothing else of its degree does. Conditions: none. -/
import Derived.Test.YtlfgfnfcdffhpaaZ3
namespace Go.Proofs.Ytlfgfnfcdffhpaa

def dv (r : Int) : List Int → List Int
  | [] => []
  | [_] => []
  | _ :: d :: cs => P (d :: cs) r :: dv r (d :: cs)
theorem dv_len (r : Int) : ∀ cs : List Int, (dv r cs).length = cs.length - 1
  | [] => rfl
  | [_] => rfl
  | c :: d :: cs => by
    have := dv_len r (d :: cs)
    simp only [dv, List.length_cons] at this ⊢
    omega
theorem dv_spec (r x : Int) : ∀ cs : List Int, P cs x = P cs r + (x - r) * P (dv r cs) x
  | [] => by simp [P, dv]
  | [c] => by simp [P, dv]
  | c :: d :: cs => by
    have ih := dv_spec r x (d :: cs)
    show c + x * P (d :: cs) x = (c + r * P (d :: cs) r) + (x - r) * (P (d :: cs) r + x * P (dv r (d :: cs)) x)
    obtain ⟨A, hA⟩ : ∃ A, P (d :: cs) r = A := ⟨_, rfl⟩
    obtain ⟨B, hB⟩ : ∃ B, P (dv r (d :: cs)) x = B := ⟨_, rfl⟩
    rw [ih, hA, hB]
    grind
theorem fm_sub_zero {a b : Int} : fm (a - b) = 0 ↔ fm a = fm b := by
  rw [fm_zero_iff, fm_eq_iff]
  constructor
  · rintro ⟨k, h⟩; exact ⟨k, by omega⟩
  · rintro ⟨k, h⟩; exact ⟨k, by omega⟩
theorem fm_zero_add {a b : Int} (h : fm a = 0) : fm (a + b) = fm b := by
  have := fm_add_congr (a := a) (c := 0) (b := b) (d := b) (h.trans rfl) rfl
  rwa [Int.zero_add] at this
theorem fm_zero_mul {a b : Int} (h : fm a = 0) : fm (a * b) = 0 := by
  have := fm_mul_congr (a := a) (c := 0) (b := b) (d := b) (h.trans rfl) rfl
  rw [Int.zero_mul] at this
  exact this
theorem fm_mul_zero {a b : Int} (h : fm b = 0) : fm (a * b) = 0 := by rw [Int.mul_comm]; exact fm_zero_mul h

theorem roots : ∀ (xs cs : List Int), cs.length ≤ xs.length → (xs.map fm).Nodup → (∀ x ∈ xs, fm (P cs x) = 0) → ∀ t, fm (P cs t) = 0
  | [], cs, hl, _, _, t => by
    obtain rfl : cs = [] := List.eq_nil_of_length_eq_zero (by simpa using hl)
    rfl
  | r :: xs, cs, hl, hn, h, t => by
    rw [List.map_cons, List.nodup_cons] at hn
    have hr := h r (by simp)
    have h2 := roots xs (dv r cs) (by rw [dv_len]; simp at hl; omega) hn.2 (fun x hx => by
      have hx0 := h x (by simp [hx])
      rw [dv_spec r x cs, fm_zero_add hr] at hx0
      rcases fm_no_zero hx0 with h3 | h3
      · exact absurd (List.mem_map.2 ⟨x, hx, fm_sub_zero.1 h3⟩) hn.1
      · exact h3) t
    rw [dv_spec r t cs, fm_zero_add hr]
    exact fm_mul_zero h2

def padd : List Int → List Int → List Int
  | [], b => b
  | a, [] => a
  | x :: a, y :: b => (x + y) :: padd a b
theorem padd_len : ∀ a b : List Int, (padd a b).length = max a.length b.length
  | [], b => by simp [padd]
  | x :: a, [] => by simp [padd]
  | x :: a, y :: b => by
    have := padd_len a b
    simp only [padd, List.length_cons]
    omega
theorem padd_P (t : Int) : ∀ a b : List Int, P (padd a b) t = P a t + P b t
  | [], b => by simp [padd, P]
  | x :: a, [] => by simp [padd, P]
  | x :: a, y :: b => by
    simp only [padd, P]
    rw [padd_P t a b, Int.mul_add]
    omega
theorem smul_P (c t : Int) (l : List Int) : P (l.map (c * ·)) t = c * P l t := by
  induction l with
  | nil => simp [P]
  | cons a l ih => simp only [List.map_cons, P, ih, Int.mul_add, Int.mul_left_comm]

def IsPoly (n : Nat) (f : Int → Int) : Prop := ∃ cs : List Int, cs.length ≤ n ∧ ∀ t, fm (f t) = fm (P cs t)
theorem IsPoly.mono {n m : Nat} {f : Int → Int} (h : IsPoly n f) (hm : n ≤ m) : IsPoly m f := by
  obtain ⟨cs, h1, h2⟩ := h
  exact ⟨cs, by omega, h2⟩
theorem IsPoly.add {n : Nat} {f g : Int → Int} (hf : IsPoly n f) (hg : IsPoly n g) : IsPoly n (fun t => f t + g t) := by
  obtain ⟨a, ha, hfa⟩ := hf
  obtain ⟨b, hb, hgb⟩ := hg
  exact ⟨padd a b, by rw [padd_len]; omega, fun t => by rw [padd_P]; exact fm_add_congr (hfa t) (hgb t)⟩
theorem IsPoly.smul {n : Nat} {f : Int → Int} (c : Int) (hf : IsPoly n f) : IsPoly n (fun t => c * f t) := by
  obtain ⟨a, ha, hfa⟩ := hf
  exact ⟨a.map (c * ·), by simpa using ha, fun t => by rw [smul_P]; exact fm_mul_congr rfl (hfa t)⟩
theorem IsPoly.lin {n : Nat} {f : Int → Int} (a : Int) (hf : IsPoly n f) : IsPoly (n + 1) (fun t => (t - a) * f t) := by
  obtain ⟨cs, hc, h⟩ := hf
  refine ⟨padd (0 :: cs) (cs.map ((-a) * ·)), by rw [padd_len]; simp; omega, fun t => ?_⟩
  rw [padd_P, smul_P, P]
  have e : (0 + t * P cs t) + -a * P cs t = (t - a) * P cs t := by grind
  rw [e]
  exact fm_mul_congr rfl (h t)
theorem IsPoly.const (c : Int) : IsPoly 1 (fun _ => c) := ⟨[c], by simp, fun t => by simp [P]⟩
theorem prodI_poly (qs : List (Int × Int)) : IsPoly (qs.length + 1) (fun t => prodI t qs) := by
  induction qs with
  | nil => exact IsPoly.const 1
  | cons q qs ih => exact ih.lin q.1
theorem unique {n : Nat} {f g : Int → Int} (hf : IsPoly n f) (hg : IsPoly n g) (xs : List Int) (hx : n ≤ xs.length) (hn : (xs.map fm).Nodup) (h : ∀ x ∈ xs, fm (f x) = fm (g x)) (t : Int) : fm (f t) = fm (g t) := by
  obtain ⟨cs, hc, hd⟩ := hf.add (hg.smul (-1))
  have key := roots xs cs (by omega) hn (fun x hx' => by
    rw [← hd x]
    have e : f x + -1 * g x = f x - g x := by omega
    show fm (f x + -1 * g x) = 0
    rw [e, fm_sub_zero]
    exact h x hx') t
  rw [← hd t] at key
  have e : f t + -1 * g t = f t - g t := by omega
  replace key : fm (f t + -1 * g t) = 0 := key
  rw [e, fm_sub_zero] at key
  exact key

/-- The interpolation as a sum over integers. -/
def SI (ps : List (Int × Int)) (t : Int) : Nat → Int
  | 0 => 0
  | i + 1 => SI ps t i + termI ps t i (ps.eraseIdx i)
theorem yF_SI (ps : List (Int × Int)) (t : Int) : ∀ j, yF ps t j = fm (SI ps t j)
  | 0 => rfl
  | j + 1 => by
    rw [yF, SI, yF_SI ps t j, fm_add_l, termF]
    exact fm_add_r _ _
theorem SI_poly (ps : List (Int × Int)) : ∀ j, j ≤ ps.length → IsPoly ps.length (fun t => SI ps t j)
  | 0, _ => ⟨[], by simp, fun t => rfl⟩
  | j + 1, h => by
    refine (SI_poly ps j (by omega)).add ?_
    have h1 := prodI_poly (ps.eraseIdx j)
    rw [List.length_eraseIdx_of_lt (by omega)] at h1
    have h2 := h1.mono (m := ps.length) (by omega)
    have h3 := h2.smul (py ps j * invV (prodI (px ps j) (ps.eraseIdx j)))
    obtain ⟨cs, hc, hd⟩ := h3
    refine ⟨cs, hc, fun t => ?_⟩
    rw [← hd t]
    unfold termI
    congr 1
    grind
theorem mem_erase {ps : List (Int × Int)} {i j : Nat} (hj : j < ps.length) (h : j ≠ i) : (px ps j, py ps j) ∈ ps.eraseIdx i := by
  rw [List.mem_eraseIdx_iff_getElem?]
  exact ⟨j, h, by simp [px, py, List.getD_eq_getElem?_getD, List.getElem?_eq_getElem hj]⟩
theorem prodI_zero {t : Int} {q : Int × Int} : ∀ {qs : List (Int × Int)}, q ∈ qs → fm t = fm q.1 → fm (prodI t qs) = 0
  | p :: qs, h, e => by
    rw [prodI]
    rcases List.mem_cons.1 h with rfl | h
    · exact fm_zero_mul (fm_sub_zero.2 e)
    · exact fm_mul_zero (prodI_zero h e)
theorem prodI_ne {t : Int} : ∀ {qs : List (Int × Int)}, (∀ q ∈ qs, fm t ≠ fm q.1) → fm (prodI t qs) ≠ 0
  | [], _ => by simp only [prodI]; decide
  | p :: qs, h => by
    rw [prodI]
    intro h0
    rcases fm_no_zero h0 with h1 | h1
    · exact h p (by simp) (fm_sub_zero.1 h1)
    · exact prodI_ne (fun q hq => h q (by simp [hq])) h1
theorem diff_ne {ps : List (Int × Int)} (hd : Diff ps) {i j : Nat} (hi : i < ps.length) (hj : j < ps.length) (h : i ≠ j) : fm (px ps i) ≠ fm (px ps j) := by
  have hd' := (diff_iff ps).1 hd
  rcases Nat.lt_or_gt_of_ne h with h1 | h1
  · exact fun e => hd' j i hj h1 e.symm
  · exact hd' i j hi h1
theorem erase_ne {ps : List (Int × Int)} (hd : Diff ps) {j : Nat} (hj : j < ps.length) : ∀ q ∈ ps.eraseIdx j, fm (px ps j) ≠ fm q.1 := fun q hq => by
  rw [List.mem_eraseIdx_iff_getElem?] at hq
  obtain ⟨k, hk, he⟩ := hq
  obtain ⟨hlt, e⟩ := List.getElem?_eq_some_iff.1 he
  have e2 : px ps k = q.1 := by simp [px, List.getD_eq_getElem?_getD, he]
  rw [← e2]
  exact diff_ne hd hj hlt (Ne.symm hk)
theorem SI_node {ps : List (Int × Int)} (hd : Diff ps) {j : Nat} (hj : j < ps.length) : ∀ m, m ≤ ps.length → fm (SI ps (px ps j) m) = if j < m then fm (py ps j) else 0
  | 0, _ => by simp [SI]; rfl
  | m + 1, h => by
    have ih := SI_node hd hj m (by omega)
    rw [SI]
    by_cases e : m = j
    · subst e
      rw [if_neg (by omega)] at ih
      rw [fm_zero_add ih, if_pos (by omega)]
      unfold termI
      have h1 := invV_ok (prodI_ne (erase_ne hd hj))
      rw [Int.mul_assoc]
      have := fm_mul_congr (a := py ps m) (c := py ps m) rfl (h1.trans (show (1 : Int) = fm 1 from rfl))
      rw [this, Int.mul_one]
    · have h2 : fm (termI ps (px ps j) m (ps.eraseIdx m)) = 0 := by
        unfold termI
        exact fm_zero_mul (fm_mul_zero (prodI_zero (mem_erase hj (Ne.symm e)) rfl))
      rw [Int.add_comm, fm_zero_add h2, ih]
      by_cases hl : j < m
      · rw [if_pos hl, if_pos (by omega)]
      · rw [if_neg hl, if_neg (by omega)]
theorem at_node {ps : List (Int × Int)} (hd : Diff ps) (h64 : ps.length ≤ 64) {j : Nat} (hj : j < ps.length) : fatV ps (px ps j) = fm (py ps j) := by
  rw [fatV_eq, if_neg (by omega), if_pos hd, yF_SI, SI_node hd hj _ (Nat.le_refl _), if_pos hj]
theorem fatV_SI {ps : List (Int × Int)} (hd : Diff ps) (h64 : ps.length ≤ 64) (t : Int) : fatV ps t = fm (SI ps t ps.length) := by
  rw [fatV_eq, if_neg (by omega), if_pos hd, yF_SI]
theorem fatE_ok {ps : List (Int × Int)} (hd : Diff ps) (h64 : ps.length ≤ 64) : fatE ps = 0 := by
  rw [fatE_eq, atE, if_neg (by omega), if_pos hd]
theorem fatE_no {ps : List (Int × Int)} (hd : ¬ Diff ps) (h64 : ps.length ≤ 64) : fatE ps = 90 := by
  rw [fatE_eq, atE, if_neg (by omega), if_neg hd]

/-- Two lists of points of one polynomial: the longer one's numbers decide. -/
theorem same_values {ps : List (Int × Int)} (hd : Diff ps) (h64 : ps.length ≤ 64) {g : Int → Int} (hg : IsPoly ps.length g) (h : ∀ j, j < ps.length → fm (g (px ps j)) = fm (py ps j)) (t : Int) : fatV ps t = fm (g t) := by
  rw [fatV_SI hd h64]
  refine unique (SI_poly ps _ (Nat.le_refl _)) hg (ps.map (·.1)) (by simp) (by rw [List.map_map]; exact hd) (fun x hx => ?_) t
  obtain ⟨q, hq, rfl⟩ := List.mem_map.1 hx
  obtain ⟨j, hj, e⟩ := List.mem_iff_getElem.1 hq
  have e2 : px ps j = q.1 := by simp [px, List.getD_eq_getElem?_getD, List.getElem?_eq_getElem hj, e]
  rw [← e2, h j hj, SI_node hd hj _ (Nat.le_refl _), if_pos hj]

end Go.Proofs.Ytlfgfnfcdffhpaa
