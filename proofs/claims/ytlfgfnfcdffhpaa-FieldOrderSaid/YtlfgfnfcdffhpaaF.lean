/- Contract of At of package signatoryref09. Conditions: the slice of points reads as a list. -/
import Derived.Test.YtlfgfnfcdffhpaaE
import Derived.IntWalk
namespace Go.Proofs.Ytlfgfnfcdffhpaa
open Go.RowKit

def partR (ps : List (Int × Int)) (t : Int) (i : Nat) : Nat → Int
  | 0 => fm (py ps i)
  | k + 1 => if k = i then partR ps t i k else fm (partR ps t i k * fm (fm (t + -(fm (px ps k))) * invV (fm (px ps i + -(fm (px ps k))))))
def yR (ps : List (Int × Int)) (t : Int) : Nat → Int
  | 0 => 0
  | i + 1 => fm (yR ps t i + partR ps t i ps.length)
def atV (ps : List (Int × Int)) (t : Int) : Int := if 64 < ps.length then 0 else if Diff ps then yR ps t ps.length else 0
def atE (ps : List (Int × Int)) : Int := if 64 < ps.length then 2 else if Diff ps then 0 else 90
theorem wrapneg (a : Int) : IntKind.i64.wrap (-(fm a)) = -(fm a) := by
  have h0 := fm_lo a
  have h1 := fm_hi a
  rw [IntKind.wrap_i64]
  omega

set_option maxHeartbeats 400000 in
theorem rat_any (A : Option Addr) (n c : Nat) (ps : List (Int × Int)) (t : Int) (w : World) (hr : RdP w A n ps) :
    Calls Try.prog 20 #[.slice A n c, .int .i64 t] w fun e w' => e = .returned (.tuple #[.int .i64 (atV ps t), .int .i64 (atE ps)]) ∧ Drawn w w' := by
  have hcap := hr.cap
  have HR := Lib.hid hr
  clear hr
  by_cases h64 : 64 < n
  · have e1 : Hid (0 = atV ps t ∧ 2 = atE ps) := Lib.hid (by simp [atV, atE, HR.out.len, h64])
    go_enter Try.func20, Try.ntmps20
    go_wp2
    go_ret2
    exact ⟨ret2 e1.out.1 e1.out.2, Drawn.refl _⟩
  by_cases hd : Diff ps
  · have hdb : Hid (decide (Diff ps) = true) := Lib.hid (by simp [hd])
    have e1 : Hid (yR ps t n = atV ps t ∧ 0 = atE ps) := Lib.hid (by simp [atV, atE, HR.out.len, h64, hd])
    have HD : ∀ W, RdP W A n ps → Calls Try.prog 24 #[.slice A n c] W fun e w' => e = .returned (.bool true) ∧ Drawn W w' := fun W h => by
      have := different_any A n c ps W h
      rw [hdb.out] at this
      exact this
    have HD' := Lib.hid HD
    clear HD hd hdb
    go_enter Try.func20, Try.ntmps20
    go_wp2_with (go_at_call 24; refine (HD'.out _ HR.out).mono ?_; rintro e w' ⟨rfl, hw1⟩)
    go_loopw [6, 7, 8, 9, 10, 11] (fun y i _ _ _ _ wr => ∃ (j : Nat), j ≤ n ∧ i = .int .i64 j ∧ y = .int .i64 (yR ps t j) ∧ Drawn w wr) (fun _ i _ _ _ _ _ => n - (intOf i).toNat)
    case atStart => exact ⟨0, by omega, rfl, rfl, hw1⟩
    case round =>
      obtain ⟨j, hj, rfl, rfl, hB⟩ := hrel
      by_cases hlt : j < n
      · obtain ⟨ad, rfl, _, hc1⟩ := (HR.out.below hB.below).cell j hlt
        go_wp2_with (go_at_call 13; refine (rmod_any _ _).mono ?_; rintro e w' ⟨rfl, rfl⟩)
        clear hc1
        obtain ⟨wo, hwo⟩ : ∃ wo : World, wo = wr := ⟨_, rfl⟩
        go_loopw [8, 9, 10, 11] (fun p k _ _ wr => ∃ (m : Nat), m ≤ n ∧ k = .int .i64 m ∧ p = .int .i64 (partR ps t j m) ∧ Drawn w wr) (fun _ k _ _ _ => n - (intOf k).toNat)
        case atStart => exact ⟨0, by omega, rfl, rfl, hB⟩
        case round =>
          obtain ⟨m, hm, rfl, rfl, hB2⟩ := hrel
          by_cases hlm : m < n
          · by_cases hmj : m = j
            · subst hmj
              have e2 : Hid (partR ps t m (m + 1) = partR ps t m m) := Lib.hid (by simp [partR])
              go_wp2
              go_roundw
              case rel => exact ⟨m + 1, by omega, by go_num, by rw [e2.out], hB2⟩
              case measure => simp [intOf]; omega
            · have e2 : Hid (partR ps t j (m + 1) = fm (partR ps t j m * fm (fm (t + -(fm (px ps m))) * invV (fm (px ps j + -(fm (px ps m))))))) := Lib.hid (by simp [partR, hmj])
              obtain ⟨ad1, e3, hc1, _⟩ := (HR.out.below hB2.below).cell j hlt
              obtain ⟨ad2, e4, hc2, _⟩ := (HR.out.below hB2.below).cell m hlm
              obtain rfl : ad = ad1 := by injection e3
              obtain rfl : ad = ad2 := by injection e4
              have hb1 : ((m : Int) != (j : Int)) = true := by simp; omega
              have hw := wrapneg (px ps m)
              go_wp2
              go_quiet ((first | (go_at_call 13; exact quiet_l (rmod_any _ _)) | (go_at_call 15; exact quiet_l (radd_any _ _ _)) | (go_at_call 11; exact quiet_l (rinv_any _ _))))
              go_wp2_with (first | (go_at_call 13; refine (rmod_any _ _).mono ?_; rintro e w' ⟨rfl, rfl⟩) | (go_at_call 15; refine (radd_any _ _ _).mono ?_; rintro e w' ⟨rfl, rfl⟩) | (go_at_call 17; refine (rmul_any _ _ _).mono ?_; rintro e w' ⟨rfl, rfl⟩))
              go_roundw
              case rel => exact ⟨m + 1, by omega, by go_num, by rw [e2.out], hB2.step _⟩
              case measure => simp [intOf]; omega
          · obtain rfl : m = n := by omega
            have e2 : Hid (yR ps t (j + 1) = fm (yR ps t j + partR ps t j m)) := Lib.hid (by rw [yR, HR.out.len])
            go_wp2_with (first | (go_at_call 15; refine (radd_any _ _ _).mono ?_; rintro e w' ⟨rfl, rfl⟩))
            go_roundw
            case rel => exact ⟨j + 1, by omega, by go_num, by rw [e2.out], hB2⟩
            case measure => simp [intOf]; omega
      · obtain rfl : j = n := by omega
        go_wp2
        go_ret2
        exact ⟨ret2 e1.out.1 e1.out.2, hB⟩
  · have hdb : Hid (decide (Diff ps) = false) := Lib.hid (by simp [hd])
    have e1 : Hid (0 = atV ps t ∧ 90 = atE ps) := Lib.hid (by simp [atV, atE, HR.out.len, h64, hd])
    have HD : ∀ W, RdP W A n ps → Calls Try.prog 24 #[.slice A n c] W fun e w' => e = .returned (.bool false) ∧ Drawn W w' := fun W h => by
      have := different_any A n c ps W h
      rw [hdb.out] at this
      exact this
    have HD' := Lib.hid HD
    clear HD hd hdb
    go_enter Try.func20, Try.ntmps20
    go_wp2_with (go_at_call 24; refine (HD'.out _ HR.out).mono ?_; rintro e w' ⟨rfl, hw1⟩)
    go_ret2
    exact ⟨ret2 e1.out.1 e1.out.2, hw1⟩

end Go.Proofs.Ytlfgfnfcdffhpaa
