/- Contracts of Value of packages field and signatoryref09. Conditions: the slice reads as a list. -/
import Derived.Test.YtlfgfnfcdffhpaaC
import Derived.Deep.QuietTactic
import Derived.BigQuiet
namespace Go.Proofs.Ytlfgfnfcdffhpaa
open Go.RowKit

/-- A slice of ints that reads as a list. -/
structure RdI (w : World) (A : Option Addr) (n : Nat) (xs : List Int) : Prop where
  len : xs.length = n
  cap : n ≤ 9223372036854775807
  cell : ∀ j, j < n → ∃ ad, A = some ad ∧ w.cell? (ad.add j) = some (.int .i64 (xs.getD j 0))
theorem RdI.below {w w' : World} {A : Option Addr} {n : Nat} {xs : List Int} (h : RdI w A n xs) (hb : Below w.heap.size w w') : RdI w' A n xs :=
  ⟨h.len, h.cap, fun j hj => by
    obtain ⟨ad, e, hc⟩ := h.cell j hj
    exact ⟨ad, e, (hb.cell (World.block_lt_of_cell? w _ hc)).trans hc⟩⟩

/-- Some orders have been drawn, nothing else. -/
def Drawn (w w' : World) : Prop := ∃ n, w' = w.drewN n
theorem Drawn.refl (w : World) : Drawn w w := ⟨0, rfl⟩
theorem Drawn.step {w w' : World} (h : Drawn w w') (n : Nat) : Drawn w (w'.drewN n) := by
  obtain ⟨m, rfl⟩ := h
  exact ⟨m + n, World.drewN_drewN ..⟩
theorem Drawn.below {w w' : World} (h : Drawn w w') : Below w.heap.size w w' := by
  obtain ⟨n, rfl⟩ := h
  induction n with
  | zero => exact Below.refl _ _
  | succ n ih => rw [← World.drew_drewN]; exact ih.drew
theorem Drawn.cell {w w' : World} (h : Drawn w w') {a : Addr} {v : Value} (hc : w.cell? a = some v) : w'.cell? a = some v :=
  (h.below.cell (World.block_lt_of_cell? w a hc)).trans hc

def valL (at_ : Int) : List Int → Int → Int → Int
  | [], y, _ => y
  | c :: t, y, p => valL at_ t (fm (y + fm (c * p))) (fm (p * at_))
theorem valL_step (at_ : Int) (xs : List Int) (k : Nat) (h : k < xs.length) (y p : Int) : valL at_ (xs.drop k) y p = valL at_ (xs.drop (k + 1)) (fm (y + fm (xs.getD k 0 * p))) (fm (p * at_)) := by
  rw [List.drop_eq_getElem_cons h]
  simp [valL, List.getD_eq_getElem?_getD, List.getElem?_eq_getElem h]
def horL (at_ : Int) : List Int → Int
  | [] => 0
  | c :: t => fm (fm (horL at_ t * at_) + c)
theorem horL_step (at_ : Int) (xs : List Int) (k : Nat) (h : k < xs.length) : horL at_ (xs.drop k) = fm (fm (horL at_ (xs.drop (k + 1)) * at_) + xs.getD k 0) := by
  rw [List.drop_eq_getElem_cons h]
  simp [horL, List.getD_eq_getElem?_getD, List.getElem?_eq_getElem h]

theorem quiet_l {P : Program} {f : FuncId} {args : Array Value} {w : World} {n : Nat} {v : Value}
    (h : Calls P f args (w.drewN n) fun e w' => e = .returned v ∧ w.drewN n = w') : Calls P f args (w.drewN n) fun e w'' => e = .returned v ∧ ∃ m, w'' = w.drewN m :=
  h.mono fun _ _ ⟨he, hm⟩ => ⟨he, n, hm.symm⟩
theorem quiet_a {P : Program} {f : FuncId} {args : Array Value} {w : World} {a n : Nat} {v : Value}
    (h : Calls P f args (w.drewN (a + n)) fun e w' => e = .returned v ∧ w.drewN (a + n) = w') :
    Calls P f args (w.drewN (a + n)) fun e w'' => e = .returned v ∧ ∃ m, w'' = w.drewN (a + m) :=
  h.mono fun _ _ ⟨he, hm⟩ => ⟨he, n, hm.symm⟩
theorem sum2_new (x y : Int) (w : World) :
    Calls Try.prog 26 #[.slice (some ⟨w.heap.size, 0, none⟩) 2 2] (w.alloc (.cells #[.int .i64 x, .int .i64 y] 3)) fun e w' => e = .returned (.int .i64 (fm (x + y))) ∧ w.alloc (.cells #[.int .i64 x, .int .i64 y] 3) = w' :=
  sum2_any x y _ _ (by simp) (by simp)

set_option maxHeartbeats 400000 in
theorem value_any (A : Option Addr) (n c : Nat) (xs : List Int) (t : Int) (w : World) (hr : RdI w A n xs) :
    Calls Try.prog 21 #[.slice A n c, .int .i64 t] w fun e w' => e = .returned (.int .i64 (valL t xs 0 1)) ∧ Below w.heap.size w w' := by
  have hcap := hr.cap
  have HR := Lib.hid hr
  clear hr
  go_enter Try.func21, Try.ntmps21
  go_wp2
  go_loopw [4, 5, 7, 10] (fun y p c i wr => ∃ (k : Nat) (y1 p1 : Int), k ≤ n ∧ i = .int .i64 k ∧ y = .int .i64 y1 ∧ p = .int .i64 p1 ∧ Hid (valL t (xs.drop k) y1 p1 = valL t xs 0 1) ∧ Below w.heap.size w wr) (fun _ _ _ i _ => n - (intOf i).toNat)
  case atStart => exact ⟨0, 0, 1, by omega, rfl, rfl, rfl, Lib.hid rfl, Below.refl _ _⟩
  case round =>
    obtain ⟨k, y1, p1, hk, rfl, rfl, rfl, G, hB⟩ := hrel
    by_cases hlt : k < n
    · obtain ⟨ad, rfl, hc⟩ := (HR.out.below hB).cell k hlt
      have e1 : Hid (valL t (xs.drop (k + 1)) (fm (y1 + fm (xs.getD k 0 * p1))) (fm (p1 * t)) = valL t xs 0 1) := Lib.hid (by rw [← G.out]; exact (valL_step t xs k (by rw [HR.out.len]; exact hlt) y1 p1).symm)
      clear G
      go_wp2_with (first | (go_at_call 16; refine (mul_any _ _ _).mono ?_; rintro e w' ⟨rfl, rfl⟩) | (go_at_call 26; refine (sum2_new _ _ _).mono ?_; rintro e w' ⟨rfl, rfl⟩))
      go_roundw
      case rel => exact ⟨k + 1, _, _, by omega, by go_num, rfl, rfl, e1, hB.alloc hB.size _⟩
      case measure => simp [intOf]; omega
    · have e1 : Hid (y1 = valL t xs 0 1) := Lib.hid (by rw [← G.out, List.drop_of_length_le (by rw [HR.out.len]; omega)]; rfl)
      clear G
      go_wp2
      go_ret
      exact ⟨ret64 e1.out, hB⟩

set_option maxHeartbeats 400000 in
theorem rvalue_any (A : Option Addr) (n c : Nat) (xs : List Int) (t : Int) (w : World) (hr : RdI w A n xs) :
    Calls Try.prog 22 #[.slice A n c, .int .i64 t] w fun e w' => e = .returned (.int .i64 (horL t xs)) ∧ Drawn w w' := by
  have hcap := hr.cap
  have HR := Lib.hid hr
  clear hr
  go_enter Try.func22, Try.ntmps22
  go_wp2
  go_loopw [5, 6] (fun y i wr => ∃ (k : Nat) (y1 : Int), k ≤ n ∧ i = .int .i64 ((k : Int) - 1) ∧ y = .int .i64 y1 ∧ Hid (y1 = horL t (xs.drop k)) ∧ Drawn w wr) (fun _ i _ => (intOf i + 1).toNat)
  case atStart => exact ⟨n, 0, by omega, by rfl, rfl, Lib.hid (by rw [List.drop_of_length_le (by rw [HR.out.len]; omega)]; rfl), Drawn.refl _⟩
  case round =>
    obtain ⟨k, y1, hk, rfl, rfl, G, hB⟩ := hrel
    by_cases hlt : 0 < k
    · obtain ⟨k, rfl⟩ : ∃ m, k = m + 1 := ⟨k - 1, by omega⟩
      obtain ⟨ad, rfl, hc0⟩ := HR.out.cell k (by omega)
      have hc := hB.cell hc0
      have e1 : Hid (fm (fm (y1 * t) + xs.getD k 0) = horL t (xs.drop k)) := Lib.hid (by rw [G.out]; exact (horL_step t xs k (by rw [HR.out.len]; omega)).symm)
      clear G
      rw [show (((k + 1 : Nat) : Int) - 1) = (k : Int) by omega]
      go_wp2
      go_quiet ((first | (go_at_call 17; exact quiet_l (rmul_any _ _ _)) | (go_at_call 15; exact quiet_l (radd_any _ _ _))))
      go_wp2
      go_roundw
      case rel => exact ⟨k, _, by omega, by go_num, rfl, e1, hB.step _⟩
      case measure => simp [intOf]
    · obtain rfl : k = 0 := by omega
      have e1 : Hid (y1 = horL t xs) := Lib.hid (by rw [G.out]; rfl)
      clear G
      go_wp2
      go_ret
      exact ⟨ret64 e1.out, hB⟩

end Go.Proofs.Ytlfgfnfcdffhpaa
