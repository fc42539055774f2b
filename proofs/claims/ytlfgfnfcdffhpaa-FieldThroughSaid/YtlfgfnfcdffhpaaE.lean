/- Contracts of Different of package signatoryref09. Conditions: the slice of points reads as a list. -/
import Derived.Test.YtlfgfnfcdffhpaaD
namespace Go.Proofs.Ytlfgfnfcdffhpaa
open Go.RowKit

abbrev px (ps : List (Int × Int)) (j : Nat) : Int := (ps.getD j (0, 0)).1
abbrev py (ps : List (Int × Int)) (j : Nat) : Int := (ps.getD j (0, 0)).2
/-- A slice of points that reads as a list. -/
structure RdP (w : World) (A : Option Addr) (n : Nat) (ps : List (Int × Int)) : Prop where
  len : ps.length = n
  cap : n ≤ 9223372036854775807
  cell : ∀ j, j < n → ∃ ad, A = some ad ∧ w.cell? (ad.add (j * 2)) = some (.int .i64 (px ps j)) ∧ w.cell? ⟨(ad.add (j * 2)).block, (ad.add (j * 2)).off + 1, none⟩ = some (.int .i64 (py ps j))
theorem RdP.below {w w' : World} {A : Option Addr} {n : Nat} {xs : List (Int × Int)} (h : RdP w A n xs) (hb : Below w.heap.size w w') : RdP w' A n xs :=
  ⟨h.len, h.cap, fun j hj => by
    obtain ⟨ad, e, hc, hd⟩ := h.cell j hj
    exact ⟨ad, e, (hb.cell (World.block_lt_of_cell? w _ hc)).trans hc, (hb.cell (World.block_lt_of_cell? w _ hd)).trans hd⟩⟩

def Diff (ps : List (Int × Int)) : Prop := (ps.map fun p => fm p.1).Nodup
instance (ps : List (Int × Int)) : Decidable (Diff ps) := inferInstanceAs (Decidable (List.Nodup _))
theorem diff_iff (ps : List (Int × Int)) : Diff ps ↔ ∀ i k, i < ps.length → k < i → fm (px ps i) ≠ fm (px ps k) := by
  unfold Diff
  rw [List.Nodup, List.pairwise_iff_getElem]
  simp only [List.length_map, List.getElem_map]
  constructor
  · intro h i k hi hk e
    have := h k i (by omega) hi hk
    simp [px, List.getD_eq_getElem?_getD, List.getElem?_eq_getElem hi, List.getElem?_eq_getElem (show k < ps.length by omega)] at e
    exact this e.symm
  · intro h i j hi hj hij e
    have := h j i hj hij
    simp [px, List.getD_eq_getElem?_getD, List.getElem?_eq_getElem hi, List.getElem?_eq_getElem hj] at this
    exact this e.symm

theorem retB {a b : Bool} (h : a = b) : Ending.returned (.bool a) = .returned (.bool b) := by rw [h]

set_option maxHeartbeats 400000 in
theorem different_any (A : Option Addr) (n c : Nat) (ps : List (Int × Int)) (w : World) (hr : RdP w A n ps) :
    Calls Try.prog 24 #[.slice A n c] w fun e w' => e = .returned (.bool (decide (Diff ps))) ∧ Drawn w w' := by
  have hcap := hr.cap
  have HR := Lib.hid hr
  clear hr
  go_enter Try.func24, Try.ntmps24
  go_wp2
  go_loopw [2, 3, 4] (fun r i k wr => ∃ (j : Nat), j ≤ n ∧ i = .int .i64 j ∧ Hid (r = .bool false ∧ ∀ i k, i < j → k < i → fm (px ps i) ≠ fm (px ps k)) ∧ Drawn w wr) (fun _ i _ _ => n - (intOf i).toNat)
  case atStart => exact ⟨0, by omega, rfl, Lib.hid ⟨rfl, fun i k h => by omega⟩, Drawn.refl _⟩
  case round =>
    obtain ⟨j, hj, rfl, G, hB⟩ := hrel
    obtain ⟨rfl, G1⟩ := G.out
    replace G1 := Lib.hid G1
    clear G
    by_cases hlt : j < n
    · go_wp2
      obtain ⟨wo, hwo⟩ : ∃ wo : World, wo = wr := ⟨_, rfl⟩
      go_loopw [2, 4] (fun r k wr => ∃ (m : Nat), m ≤ j ∧ k = .int .i64 m ∧ r = .bool false ∧ Hid (∀ k, k < m → fm (px ps j) ≠ fm (px ps k)) ∧ Drawn w wr) (fun _ k _ => j - (intOf k).toNat)
      case atStart => exact ⟨0, by omega, rfl, rfl, Lib.hid (fun k h => by omega), hB⟩
      case round =>
        obtain ⟨m, hm, rfl, rfl, G2, hB2⟩ := hrel
        by_cases hlm : m < j
        · obtain ⟨ad, rfl, hc1, _⟩ := (HR.out.below hB2.below).cell j hlt
          obtain ⟨ad2, e2, hc2, _⟩ := (HR.out.below hB2.below).cell m (by omega)
          obtain rfl : ad = ad2 := by injection e2
          go_wp2
          go_quiet ((first | (go_at_call 13; exact quiet_l (rmod_any _ _))))
          go_wp2
          · have ht : (fm (px ps j) == fm (px ps m)) = true := by assumption
            have e1 : Hid (false = decide (Diff ps)) := Lib.hid (by
              rw [eq_comm, decide_eq_false_iff_not, diff_iff, HR.out.len]
              exact fun h => h j m hlt hlm (eq_of_beq ht))
            go_ret
            exact ⟨retB e1.out, hB2.step _⟩
          · have hf : (fm (px ps j) == fm (px ps m)) = false := by assumption
            have G3 : Hid (∀ k, k < m + 1 → fm (px ps j) ≠ fm (px ps k)) := Lib.hid (fun k hk => by
              rcases Nat.lt_or_ge k m with h | h
              · exact G2.out k h
              · obtain rfl : k = m := by omega
                exact ne_of_beq_false hf)
            clear hf
            go_roundw
            case rel => exact ⟨m + 1, by omega, by go_num, rfl, G3, hB2.step _⟩
            case measure => simp [intOf]; omega
        · obtain rfl : m = j := by omega
          have G3 : Hid (∀ i k, i < m + 1 → k < i → fm (px ps i) ≠ fm (px ps k)) := Lib.hid (fun i k hi hk => by
            rcases Nat.lt_or_ge i m with h | h
            · exact G1.out i k h hk
            · obtain rfl : i = m := by omega
              exact G2.out k hk)
          clear G2 G1
          go_wp2
          go_roundw
          case rel => exact ⟨m + 1, by omega, by go_num, Lib.hid ⟨rfl, G3.out⟩, hB2⟩
          case measure => simp [intOf]; omega
    · obtain rfl : j = n := by omega
      have e1 : Hid (true = decide (Diff ps)) := Lib.hid (by rw [eq_comm, decide_eq_true_eq, diff_iff, HR.out.len]; exact G1.out)
      clear G1
      go_wp2
      go_ret
      exact ⟨retB e1.out, hB⟩

end Go.Proofs.Ytlfgfnfcdffhpaa
