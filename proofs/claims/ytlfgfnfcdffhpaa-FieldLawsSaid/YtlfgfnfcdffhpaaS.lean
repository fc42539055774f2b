/- Contract of the law's own look at the chapter's examples (sane): true. Conditions: none. -/
import Derived.Test.YtlfgfnfcdffhpaaH
import Derived.Test.YtlfgfnfcdffhpaaZ5
namespace Go.Proofs.Ytlfgfnfcdffhpaa
open Go.RowKit Go.Shelf
set_option linter.unusedVariables false

theorem at_any (A : Option Addr) (n c : Nat) (ps : List (Int × Int)) (t : Int) (w : World) (hr : RdP w A n ps) :
    Calls Try.prog 19 #[.slice A n c, .int .i64 t] w fun e w' => e = .returned (.tuple #[.int .i64 (fatV ps t), .int .i64 (fatE ps)]) ∧ Below w.heap.size w w' := by
  exact callsIn_wide.1 (at_in A n c ps t w hr)

/-- More than 64 points, whatever they are. -/
theorem at_big (A : Option Addr) (n c : Nat) (t : Int) (w : World) (h : 64 < n) :
    Calls Try.prog 19 #[.slice A n c, .int .i64 t] w fun e w' => e = .returned (.tuple #[.int .i64 0, .int .i64 2]) ∧ Below w.heap.size w w' := by
  refine (callsIn_wide (n := 5)).1 ?_
  refine callsIn_of_wp_marks Try.func19 rfl trivial ?_ rfl
  simp only [Try.ntmps19, List.size_toArray, List.length_cons, List.length_nil, Nat.reduceAdd, Nat.reduceSub, Array.replicate_succ, Array.replicate_zero, List.push_toArray, List.append_toArray, List.nil_append, List.cons_append]
  gi_wp2
  refine ⟨_, results_tmp2 (t := 4) (u := 5) rfl _ _ _, ?_⟩
  exact ⟨ret2 rfl rfl, (Below.refl _ _).alloc (Nat.le_refl _) _⟩

theorem inv_at (n v e : Int) (h : invV n = v ∧ invE n = e) (w : World) : Calls Try.prog 10 #[.int .i64 n] w fun r w' => r = .returned (.tuple #[.int .i64 v, .int .i64 e]) ∧ w = w' := by
  have := inv_any n w
  rw [h.1, h.2] at this
  exact this
theorem at_at (A : Option Addr) (n c : Nat) (ps : List (Int × Int)) (t v x : Int) (h : fatV ps t = v ∧ fatE ps = x) (w : World) (hr : RdP w A n ps) :
    Calls Try.prog 19 #[.slice A n c, .int .i64 t] w fun e w' => e = .returned (.tuple #[.int .i64 v, .int .i64 x]) ∧ Below w.heap.size w w' := by
  have := at_any A n c ps t w hr
  rw [h.1, h.2] at this
  exact this
theorem mod_at (a v : Int) (h : fm a = v) (w : World) : Calls Try.prog 12 #[.int .i64 a] w fun e w' => e = .returned (.int .i64 v) ∧ w = w' := by rw [← h]; exact mod_any a w
theorem mul_at (a b v : Int) (h : fm (a * b) = v) (w : World) : Calls Try.prog 16 #[.int .i64 a, .int .i64 b] w fun e w' => e = .returned (.int .i64 v) ∧ w = w' := by rw [← h]; exact mul_any a b w
theorem add_at (a b v : Int) (h : fm (a + b) = v) (w : World) : Calls Try.prog 14 #[.int .i64 a, .int .i64 b] w fun e w' => e = .returned (.int .i64 v) ∧ w.alloc (.cells #[.int .i64 a, .int .i64 b] 3) = w' := by rw [← h]; exact add_any a b w
theorem value_at (A : Option Addr) (n c : Nat) (xs : List Int) (t v : Int) (h : valL t xs 0 1 = v) (w : World) (hr : RdI w A n xs) :
    Calls Try.prog 21 #[.slice A n c, .int .i64 t] w fun e w' => e = .returned (.int .i64 v) ∧ Below w.heap.size w w' := by rw [← h]; exact value_any A n c xs t w hr

theorem rdP_nil (w : World) : RdP w none 0 [] := ⟨rfl, by omega, fun j h => by omega⟩
theorem rdI_nil (w : World) : RdI w none 0 [] := ⟨rfl, by omega, fun j h => by omega⟩
theorem rdP_two (w : World) (a b c d : Int) : RdP (w.alloc (.cells #[.int .i64 a, .int .i64 b, .int .i64 c, .int .i64 d] 38)) (some ⟨w.heap.size, 0, none⟩) 2 [(a, b), (c, d)] :=
  ⟨rfl, by omega, fun j h => by
    have e : j = 0 ∨ j = 1 := by omega
    rcases e with rfl | rfl
    · exact ⟨_, rfl, by simp [Addr.add, px], by simp [Addr.add, py]⟩
    · exact ⟨_, rfl, by simp [Addr.add, px], by simp [Addr.add, py]⟩⟩
theorem rdI_three (w : World) (a b c : Int) : RdI (w.alloc (.cells #[.int .i64 a, .int .i64 b, .int .i64 c] 3)) (some ⟨w.heap.size, 0, none⟩) 3 [a, b, c] :=
  ⟨rfl, by omega, fun j h => by
    have e : j = 0 ∨ j = 1 ∨ j = 2 := by omega
    rcases e with rfl | rfl | rfl <;> exact ⟨_, rfl, by simp [Addr.add]⟩⟩
theorem c_line : fatV [(1, 3), (2, 5)] 0 = 1 ∧ fatE [(1, 3), (2, 5)] = 0 := by
  rw [fat_at, fatE_eq]
  decide +kernel
theorem c_twice : fatV [(1, 5), (-1073741788, 5)] 0 = 0 ∧ fatE [(1, 5), (-1073741788, 5)] = 90 := by
  rw [fat_at, fatE_eq]
  decide +kernel
theorem c_none : fatV [] 7 = 0 ∧ fatE [] = 0 := by
  rw [fat_at, fatE_eq]
  decide +kernel
theorem c_inv0 : invV 0 = 0 ∧ invE 0 = 90 := by decide +kernel
theorem c_invQ : invV 1073741789 = 0 ∧ invE 1073741789 = 90 := by decide +kernel
theorem c_inv2 : invV 2 = 536870895 ∧ invE 2 = 0 := by decide +kernel

theorem mk65 (w : World) : (Instr.makeSlice 30 (.int .i64 65) (.int .i64 65)).run Try.prog w = .ok (.slice (some ⟨w.heap.size, 0, none⟩) 65 65) (w.alloc (.cells (Array.replicate 130 (.int .i64 0)) 38)) := by kernel_rfl

set_option maxRecDepth 100000 in
set_option maxHeartbeats 2000000 in
theorem sane_any (w : World) : Calls Try.prog 9 #[] w fun e w' => e = .returned (.bool true) ∧ Below w.heap.size w w' := by
  have hmk := mk65
  go_enter Try.func9, Try.ntmps9
  go_wp2_with fail
  refine (inv_at _ _ _ c_inv0 _).mono ?_
  rintro e w' ⟨rfl, rfl⟩
  go_wp2_with fail
  refine (inv_at _ _ _ c_invQ _).mono ?_
  rintro e w' ⟨rfl, rfl⟩
  go_wp2_with fail
  refine (inv_at _ _ _ c_inv2 _).mono ?_
  rintro e w' ⟨rfl, rfl⟩
  go_wp2_with fail
  refine (at_at _ _ _ _ _ _ _ c_line _ (rdP_two _ _ _ _ _)).mono ?_
  rintro e w1 ⟨rfl, hb1⟩
  go_wp2_with fail
  refine (at_at _ _ _ _ _ _ _ c_none _ (rdP_nil _)).mono ?_
  rintro e w2 ⟨rfl, hb2⟩
  go_wp2_with fail
  refine (at_at _ _ _ _ _ _ _ c_twice _ (rdP_two _ _ _ _ _)).mono ?_
  rintro e w3 ⟨rfl, hb3⟩
  go_wp2_with fail
  refine (at_big _ _ _ _ _ (by omega)).mono ?_
  rintro e w4 ⟨rfl, hb4⟩
  go_wp2_with fail
  refine (mod_at (-1) 1073741788 (by decide) _).mono ?_
  rintro e w' ⟨rfl, rfl⟩
  go_wp2_with fail
  refine (mul_at (-1) (-1) 1 (by decide) _).mono ?_
  rintro e w' ⟨rfl, rfl⟩
  go_wp2_with fail
  refine (add_at 1073741788 3 2 (by decide) _).mono ?_
  rintro e w' ⟨rfl, rfl⟩
  go_wp2_with fail
  have hr3 : RdI ((w4.alloc (.cells #[.int .i64 1073741788, .int .i64 3] 3)).alloc (.cells #[.int .i64 1, .int .i64 2, .int .i64 3] 3)) (some ⟨w4.heap.size + 1, 0, none⟩) 3 [1, 2, 3] := by simpa using rdI_three (w4.alloc (.cells #[.int .i64 1073741788, .int .i64 3] 3)) 1 2 3
  refine (value_at _ _ _ _ _ 321 (by decide) _ hr3).mono ?_
  rintro e w5 ⟨rfl, hb5⟩
  go_wp2_with fail
  refine (value_at _ _ _ _ _ 0 (by decide) _ (rdI_nil _)).mono ?_
  rintro e w6 ⟨rfl, hb6⟩
  go_wp2
  go_ret
  have s1 := hb1.size
  have s2 := hb2.size
  have s3 := hb3.size
  have s4 := hb4.size
  have s5 := hb5.size
  simp only [World.size_alloc] at s1 s2 s3 s4 s5
  have b1 : Below w.heap.size w w1 := ((Below.refl _ w).alloc (Nat.le_refl _) _).trans (hb1.mono (by simp))
  have b2 := b1.trans (hb2.mono (by omega))
  have b3 := (b2.alloc (by omega) (.cells #[.int .i64 1, .int .i64 5, .int .i64 (-1073741788), .int .i64 5] 38)).trans (hb3.mono (by simp; omega))
  have b4 := (b3.alloc (by omega) (.cells (Array.replicate 130 (.int .i64 0)) 38)).trans (hb4.mono (by simp; omega))
  have b5 := ((b4.alloc (by omega) (.cells #[.int .i64 1073741788, .int .i64 3] 3)).alloc (by simp; omega) (.cells #[.int .i64 1, .int .i64 2, .int .i64 3] 3)).trans (hb5.mono (by simp; omega))
  exact ⟨rfl, b5.trans (hb6.mono (by omega))⟩

end Go.Proofs.Ytlfgfnfcdffhpaa
