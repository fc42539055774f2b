/- Contracts of others of package field: the iterator yields all points but one. Conditions: the slice of points reads as a list. -/
import Derived.RangeFuncNested
import Derived.RangeFuncBound
import Derived.RangeFuncCalls
import Derived.RangeFuncLeaves
import Derived.Shelf.Abstract
import Derived.Shelf.RegionOpen
import Derived.WalkKit
import Derived.OwnWalkIn
import Derived.TacticsInMore
import Derived.LoopNIn
import Derived.LoopIn
import Derived.Test.YtlfgfnfcdffhpaaK
namespace Go.Proofs.Ytlfgfnfcdffhpaa
open Go.RowKit Go.Shelf
set_option linter.unusedVariables false
attribute [local go_sem] Oper.semAt_some

theorem addr_block (a : Addr) (n : Nat) : (a.add n).block = a.block := by unfold Addr.add; split <;> rfl
theorem erase_take_succ (ps : List (Int × Int)) (i k : Nat) (h : k < ps.length) : (ps.take (k + 1)).eraseIdx i = (ps.take k).eraseIdx i ++ (if k = i then [] else [(px ps k, py ps k)]) := by
  have e : (px ps k, py ps k) = ps[k] := by simp [px, py, List.getD_eq_getElem?_getD, List.getElem?_eq_getElem h]
  have hl : (ps.take k).length = k := by simp; omega
  rw [List.take_succ_eq_append_getElem h]
  by_cases hk : k = i
  · have h2 : (ps.take k).eraseIdx i = ps.take k := List.eraseIdx_of_length_le (by omega)
    rw [List.eraseIdx_append_of_length_le (by omega), if_pos hk, hl, ← hk, Nat.sub_self]
    rw [← hk] at h2
    rw [h2]
    rfl
  · rw [if_neg hk, e]
    by_cases hlt : i < k
    · rw [List.eraseIdx_append_of_lt_length (by omega)]
    · obtain ⟨m, hm⟩ : ∃ m, i - (ps.take k).length = m + 1 := ⟨i - k - 1, by omega⟩
      have h2 : (ps.take k).eraseIdx i = ps.take k := List.eraseIdx_of_length_le (by omega)
      rw [List.eraseIdx_append_of_length_le (by omega), hm, h2]
      rfl

set_option maxHeartbeats 1000000 in
/-- others(l, i): the arguments are boxed; the function value captures the boxes. -/
theorem others_in (n : Nat) (A : Option Addr) (len cap : Nat) (i : Int) (w : World) :
    CallsIn Fence.wide n Try.prog 27 #[.slice A len cap, .int .i64 i] w fun e w' => e = .returned (.func (.func 28) #[] #[.pointer (some ⟨w.heap.size, 0, none⟩), .pointer (some ⟨w.heap.size + 1, 0, none⟩)]) ∧ w' = (w.alloc (.cells #[.slice A len cap] 30)).alloc (.cells #[.int .i64 i] 3) := by
  refine callsIn_of_wp Try.func27 rfl trivial ?_ rfl
  simp only [Try.ntmps27, List.size_toArray, List.length_cons, List.length_nil, Nat.reduceAdd, Nat.reduceSub, Array.replicate_succ, Array.replicate_zero, List.push_toArray, List.append_toArray, List.nil_append, List.cons_append]
  gi_wp2
  go_ret
  exact ⟨rfl, rfl⟩

set_option maxRecDepth 100000 in
set_option maxHeartbeats 2000000 in
/-- The closure of others: for every loop body that keeps what lay below n0, but for the blocks of S. -/
theorem others1_in (n : Nat) (S : Nat → Prop) (hn : 1 ≤ n) (l Bl Bi n0 : Nat) (A : Option Addr) (len cap i : Nat) (ps : List (Int × Int)) (W : World) (hr : RdP W A len ps) (hA : ∀ ad, A = some ad → ad.block < n0 ∧ ¬ S ad.block) (hn0 : n0 ≤ W.heap.size) (hb2 : Bi < n0 ∧ ¬ S Bi) (hi : (i : Int) ≤ 9223372036854775807) (J Jx : List (Int × Int) → World → Prop)
    (hJab : AbidesFrom W.heap.size J)
    (hY : ∀ pre x W, J pre W → pre.length < len → YieldAt Fence.wide (n - 1) Try.prog l #[.agg #[.int .i64 x.1, .int .i64 x.2]] W fun e W' =>
      (e = .returned (.bool true) ∧ J (pre ++ [x]) W' ∧ Kept n0 S W W') ∨ (e = .returned (.bool false) ∧ Jx (pre ++ [x]) W'))
    (hBl : W.cell? ⟨Bl, 0, none⟩ = some (.slice A len cap)) (hBi : W.cell? ⟨Bi, 0, none⟩ = some (.int .i64 i)) (h0 : J [] W) :
    CallsIn Fence.wide n Try.prog 28 #[.func (.yield l) #[] #[], .pointer (some ⟨Bl, 0, none⟩), .pointer (some ⟨Bi, 0, none⟩)] W fun e W' => (∃ v, e = .returned v) ∧
      ((∃ ys, ys = ps.eraseIdx i ∧ J ys W') ∨ (∃ pre, Jx pre W')) := by
  have hcap := hr.cap
  have HR := Lib.hid hr
  have HJ := Lib.hid hJab
  clear hr hJab
  refine callsIn_of_wp Try.func28 rfl trivial ?_ rfl
  simp only [Try.ntmps28, List.size_toArray, List.length_cons, List.length_nil, Nat.reduceAdd, Nat.reduceSub, Array.replicate_succ, Array.replicate_zero, List.push_toArray, List.append_toArray, List.nil_append, List.cons_append]
  gi_wp2
  gi_loopw [4, 5, 8] (fun _ _ k wr => ∃ (m : Nat), m ≤ len ∧ k = .int .i64 m ∧ J ((ps.take m).eraseIdx i) wr ∧ Kept n0 S W wr) (fun _ _ k _ => len - (intOf k).toNat)
  case atStart => exact ⟨0, Nat.zero_le _, rfl, by simpa using h0, Kept.refl _ _ _⟩
  case round =>
    obtain ⟨m, hm, rfl, hJs, hnx⟩ := hrel
    by_cases hlt : m < len
    · obtain ⟨ad, rfl, hc1', hc2'⟩ := HR.out.cell m hlt
      have hb := hA _ rfl
      have hc1 := (hnx.cell (p := ad.add (m * 2)) (by rw [addr_block]; exact hb.1) (by rw [addr_block]; exact hb.2)).trans hc1'
      have hc2 := (hnx.cell (p := ⟨(ad.add (m * 2)).block, (ad.add (m * 2)).off + 1, none⟩) (by show (ad.add (m * 2)).block < n0; rw [addr_block]; exact hb.1) (by show ¬ S (ad.add (m * 2)).block; rw [addr_block]; exact hb.2)).trans hc2'
      have hsz : n0 ≤ wr.heap.size := Nat.le_trans hn0 hnx.size
      have hcB : ∀ o, (wr.alloc o).cell? ⟨Bi, 0, none⟩ = some (.int .i64 i) := fun o => (((Kept.refl n0 S wr).alloc hsz o).cell (p := ⟨Bi, 0, none⟩) hb2.1 hb2.2).trans ((hnx.cell (p := ⟨Bi, 0, none⟩) hb2.1 hb2.2).trans hBi)
      have hJ1 : ∀ o, J ((ps.take m).eraseIdx i) (wr.alloc o) := fun o => HJ.out _ _ _ none hJs (World.grownBy_alloc wr o none) (fun r e => by cases e)
      have hnx1 : ∀ o, Kept n0 S W (wr.alloc o) := fun o => hnx.alloc hsz o
      clear hc1' hc2'
      have hst := Lib.hid (erase_take_succ ps i m (by rw [HR.out.len]; exact hlt))
      by_cases hmi : m = i
      · subst hmi
        have ht : ((m : Int) != (m : Int)) = false := by simp
        gi_wp2
        refine ⟨fun _ h => (by cases h), ?_⟩
        gi_wp2
        go_roundw
        case rel => exact ⟨m + 1, by omega, by simp, by rw [hst.out]; simpa using hJ1 _, hnx1 _⟩
        case measure => simp [intOf]; omega
      · have ht : ((m : Int) != (i : Int)) = true := by simp; omega
        have hlen : ((ps.take m).eraseIdx i).length < len := by
          rw [List.length_eraseIdx]
          have := HR.out.len
          split <;> simp <;> omega
        obtain ⟨fn, tmps, assign, body, hy, hR⟩ := hY _ (px ps m, py ps m) (wr.alloc (.cells #[.int .i64 (px ps m), .int .i64 (py ps m)] 38)) (hJ1 _) hlen
        dsimp only at hy
        gi_wp2
        refine hR.mono ?_
        rintro e W3 (⟨rfl, hJ3, hk3⟩ | ⟨rfl, hJx3⟩)
        · gi_wp2
          go_roundw
          case rel => exact ⟨m + 1, by omega, by simp, by rw [hst.out]; simpa [hmi] using hJ3, (hnx1 _).trans hk3⟩
          case measure => simp [intOf]; omega
        · gi_wp2
          refine bodyPost_ret (results_none rfl _ _ _) rfl ?_
          exact ⟨⟨_, rfl⟩, .inr ⟨_, hJx3⟩⟩
    · obtain rfl : m = len := by omega
      gi_wp2
      go_end0
      exact ⟨⟨_, rfl⟩, .inl ⟨_, rfl, by rw [List.take_of_length_le (by rw [HR.out.len]; exact Nat.le_refl _)] at hJs; exact hJs⟩⟩

end Go.Proofs.Ytlfgfnfcdffhpaa
