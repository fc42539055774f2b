/- The walk of the law FieldOrder: true. Conditions: the slice of points reads as a list. -/
import Derived.Test.YtlfgfnfcdffhpaaU4
import Derived.Deep.Slices
namespace Go.Proofs.Ytlfgfnfcdffhpaa
open Go.RowKit
set_option linter.unusedVariables false

theorem rdP_drop {W : World} {ad : Addr} {n : Nat} {ps : List (Int × Int)} (h : RdP W (some ad) n ps) (k : Nat) : RdP W (some (ad.add (k * 2))) (n - k) (ps.drop k) :=
  ⟨by simp [h.len], by have := h.cap; omega, fun j hj => by
    obtain ⟨ad', e, c1, c2⟩ := h.cell (k + j) (by omega)
    cases e
    have e1 : (ad.add (k * 2)).add (j * 2) = ad.add ((k + j) * 2) := by rw [Go.Deep.add_add]; congr 1; omega
    have e2 : px (ps.drop k) j = px ps (k + j) := by simp [px, List.getD_eq_getElem?_getD]
    have e3 : py (ps.drop k) j = py ps (k + j) := by simp [py, List.getD_eq_getElem?_getD]
    exact ⟨_, rfl, by rw [e1, e2]; exact c1, by rw [e1, e3]; exact c2⟩⟩
theorem rdP_takeK {W : World} {ad : Addr} {n : Nat} {ps : List (Int × Int)} (h : RdP W (some ad) n ps) (k : Nat) (hk : k ≤ n) : RdP W (some ad) k (ps.take k) :=
  ⟨by simp [h.len]; omega, by have := h.cap; omega, fun j hj => by
    obtain ⟨ad', e, c1, c2⟩ := h.cell j (by omega)
    cases e
    have e2 : px (ps.take k) j = px ps j := by simp [px, List.getD_eq_getElem?_getD, hj]
    have e3 : py (ps.take k) j = py ps j := by simp [py, List.getD_eq_getElem?_getD, hj]
    exact ⟨_, rfl, by rw [e2]; exact c1, by rw [e3]; exact c2⟩⟩
theorem own_zero (w : World) (B : Nat) (hB : B ≤ w.heap.size) : (w.alloc (.cells #[] 38)).ownsRow B 38 2 (.slice (some ⟨w.heap.size, 0, none⟩) 0 0) ([] : List (Int × Int)).length (pv []) := World.ownsRow_made w #[] 0 hB (by simp) rfl

set_option maxRecDepth 100000 in
set_option maxHeartbeats 2000000 in
theorem order_walk (A : Option Addr) (n c : Nat) (ps : List (Int × Int)) (u : Nat) (x t : Int) (w : World) (ha : RdP w A n ps) (hnc : n ≤ c) (hu : u < 256) :
    Calls Try.prog 7 #[.slice A n c, .int .u8 u, .int .i64 x, .int .i64 t] w fun e w' => e = .returned (.bool true) ∧ Below w.heap.size w w' := by
  have HA := Lib.hid ha
  have hc1 := ha.cap
  clear ha
  by_cases h64 : 64 ≤ n
  · go_enter Try.func7, Try.ntmps7
    go_wp2_with fail
    refine (sane_any _).mono ?_
    rintro e w1 ⟨rfl, hb1⟩
    go_wp2
    go_ret
    exact ⟨rfl, hb1⟩
  by_cases hd : Diff ps
  case neg =>
    go_enter Try.func7, Try.ntmps7
    go_wp2_with fail
    refine (sane_any _).mono ?_
    rintro e w1 ⟨rfl, hb1⟩
    go_wp2_with fail
    refine (diff_at A n c ps false (by simp [hd]) _ (HA.out.below hb1)).mono ?_
    rintro e w2 ⟨rfl, hb2⟩
    clear hd
    go_wp2
    go_ret
    exact ⟨rfl, hb1.trans (hb2.mono hb1.size)⟩
  have hdt := Lib.hid (show decide (Diff ps) = true by simp [hd])
  have HD := Lib.hid hd
  clear hd
  by_cases hn0 : n = 0
  · subst hn0
    go_enter Try.func7, Try.ntmps7
    go_wp2_with fail
    refine (sane_any _).mono ?_
    rintro e w1 ⟨rfl, hb1⟩
    go_wp2_with fail
    refine (diff_at A 0 c ps true hdt.out _ (HA.out.below hb1)).mono ?_
    rintro e w2 ⟨rfl, hb2⟩
    go_wp2
    go_ret
    exact ⟨rfl, hb1.trans (hb2.mono hb1.size)⟩
  have hn0b : ((n : Int) == 0) = false := by simp; omega
  obtain ⟨ad, rfl, hblk⟩ : ∃ ad, A = some ad ∧ ad.block < w.heap.size := by
    obtain ⟨ad, e, hc, _⟩ := HA.out.cell 0 (by omega)
    exact ⟨ad, e, by have := World.block_lt_of_cell? w _ hc; simpa [Addr.add] using this⟩
  have hmx : Try.prog.follows .mixedOrders = true := by kernel_rfl
  obtain ⟨k, hk⟩ : ∃ k, k = u % n := ⟨_, rfl⟩
  have hkn : k < n := by rw [hk]; exact Nat.mod_lt _ (by omega)
  have hkm := Lib.hid (show ((u : Int) % (n : Int)) = (k : Int) by rw [hk]; omega)
  clear hk
  go_enter Try.func7, Try.ntmps7
  go_wp2_with fail
  refine (sane_any _).mono ?_
  rintro e w0 ⟨rfl, hb0⟩
  go_wp2_with fail
  refine (diff_at _ n c ps true hdt.out _ (HA.out.below hb0)).mono ?_
  rintro e w1 ⟨rfl, hb1⟩
  replace hb1 := hb0.trans (hb1.mono hb0.size)
  clear hb0
  go_wp2
  rw [hkm.out]
  have hrA := Lib.hid ((HA.out.below hb1).below (Below.refl _ w1).drew)
  refine (wpIn_wide (n := 3)).1 (wpIn_region_held (fun W => Below w1.heap.size w1 W) (fun _ => false) hmx ?_)
  have hS : Below w1.heap.size w1 w1.drew := (Below.refl _ w1).drew
  refine wpAnyHIn_pure (i := 1) rfl (by kernel_rfl) (fun _ _ _ h => h) (.inl ⟨by rfl, fun w2 h2 => rfl⟩) (fun _ => rfl) hS ?_
  refine wpAnyHIn_pure (i := 2) rfl (by kernel_rfl) (fun _ _ _ h => h) (.inl ⟨by rfl, fun w2 h2 => rfl⟩) (fun _ => rfl) hS ?_
  refine wpAnyHIn_pure (i := 3) (v := .slice (some (ad.add (k * 2))) (n - k) (c - k)) rfl (by kernel_rfl) (fun _ _ _ h => h) (.inl ⟨by rfl, fun w2 h2 => ?_⟩) (fun _ => rfl) hS ?_
  · clear h2
    go_simp
    rw [if_pos (by omega), if_neg (by omega)]
  refine wpAnyHIn_pure (i := 5) rfl (by kernel_rfl) (fun _ _ _ h => h) (.inl ⟨by rfl, fun w2 h2 => rfl⟩) (fun _ => rfl) hS ?_
  refine wpAnyHIn_pure (i := 6) rfl (by kernel_rfl) (fun _ _ _ h => h) (.inl ⟨by rfl, fun w2 h2 => rfl⟩) (fun _ => rfl) hS ?_
  refine wpAnyHIn_pure (i := 7) (v := .slice (some ad) k c) rfl (by kernel_rfl) (fun _ _ _ h => h) (.inl ⟨by rfl, fun w2 h2 => ?_⟩) (fun _ => rfl) hS ?_
  · clear h2
    go_simp
    intro h
    exact absurd h (by omega)
  refine wpAnyHIn_one (i := 0) (by kernel_rfl) (wpOpIn_run rfl rfl ?_)
  refine ⟨fun _ _ => trivial, ?_⟩
  go_simp
  have hBa : Below w1.heap.size w1 (w1.drew.alloc (.cells #[] 38)) := hS.alloc (Nat.le_refl _) _
  refine ⟨fun _ => hBa, ?_⟩
  refine wpAnyHIn_one (i := 4) (by kernel_rfl) (wpOpIn_run rfl rfl ?_)
  refine wpIn_app_pts w1.heap.size (.tmp 40) (.tmp 43) rfl _ [] (ps.drop k) (ad.add (k * 2)) (n - k) (c - k) rfl rfl (own_zero w1.drew w1.heap.size (Nat.le_refl _)) (by simp) (by simp) (by omega) (rdP_drop ((HA.out.below hb1).below hBa) k) ?_
  intro v2 w2 hO2 hg2
  have hB2 : Below w1.heap.size w1 w2 := hBa.grown hg2 (by simp) (fun r e => by cases e; exact Nat.le_refl _)
  refine ⟨fun _ => hB2, ?_⟩
  refine wpAnyHIn_one (i := 8) (by kernel_rfl) (wpOpIn_run rfl rfl ?_)
  refine wpIn_app_pts w1.heap.size (.tmp 44) (.tmp 47) rfl v2 ([] ++ ps.drop k) (ps.take k) ad k c rfl rfl hO2 hB2.size (by simp; have := HA.out.len; omega) (by omega) (rdP_takeK ((HA.out.below hb1).below hB2) k (by omega)) ?_
  intro v3 w3 hO3 hg3
  have hB3 : Below w1.heap.size w1 w3 := hB2.grown hg3 hB2.size (own_ge hO2)
  refine ⟨fun _ => hB3, ?_⟩
  refine wpAnyHIn_pure (i := 9) rfl (by kernel_rfl) (fun _ _ _ h => h) (.inl ⟨by rfl, fun w2 h2 => rfl⟩) (fun _ => rfl) hB3 ?_
  refine wpAnyHIn_done (by kernel_rfl) ?_ _
  rw [List.nil_append, show (ps.drop k ++ ps.take k).length = n by have := HA.out.len; simp; omega] at hO3
  obtain ⟨At, ct, et, hrt⟩ := pv_reads hO3
  subst et
  have htu := Lib.hid (turned HD.out (by have := HA.out.len; omega) k t)
  have hE := Lib.hid (fatE_ok HD.out (by have := HA.out.len; omega))
  have hb3 := hb1.trans (hB3.mono hb1.size)
  clear hO3 hg3 hB2 hO2 hg2 hBa hS
  go_wp2_with fail
  refine (at_at _ n c ps t _ _ ⟨rfl, hE.out⟩ _ (HA.out.below hb3)).mono ?_
  rintro e w4 ⟨rfl, hd4⟩
  have hb4 := hb3.trans (hd4.mono hb3.size)
  go_wp2_with fail
  refine (at_at _ _ _ _ t _ _ htu.out _ (hrt.below hd4)).mono ?_
  rintro e w5 ⟨rfl, hd5⟩
  have hb5 := hb4.trans (hd5.mono hb4.size)
  go_wp2_with fail
  refine (at_at _ n c ps x _ _ ⟨rfl, hE.out⟩ _ (HA.out.below hb5)).mono ?_
  rintro e w6 ⟨rfl, hd6⟩
  have hb6 := hb5.trans (hd6.mono hb5.size)
  by_cases hdm : Diff (ps ++ [(x, fatV ps x)])
  · have hmo := Lib.hid (more HD.out (by have := HA.out.len; omega) x t hdm)
    have hmd := Lib.hid (show decide (Diff (ps ++ [(x, fatV ps x)])) = true by simp [hdm])
    clear hdm
    go_wp2_with (first
      | (at_builtin; refine app_pts w6.heap.size rfl (.tmp 78) (.tmp 79) rfl _ [] ps ad n c rfl rfl (own_zero w6 w6.heap.size (Nat.le_refl _)) (by simp) (by simp) (by omega) (HA.out.below (hb6.alloc hb6.size _)) ?_; intro v7 w7 hO7 hg7; have hB7 := (((Below.refl w6.heap.size w6).alloc (Nat.le_refl _) (.cells #[] 38)).grown hg7 (by simp) (fun r e => by cases e; exact Nat.le_refl _)))
      | (at_builtin; refine app_pts w6.heap.size rfl (.tmp 80) (.tmp 84) rfl _ ([] ++ ps) [(x, fatV ps x)] ⟨w7.heap.size, 0, none⟩ 1 1 rfl rfl (hO7.alloc _) (by have := hB7.size; simp; omega) (by have := HA.out.len; simp; omega) (by omega) (rdP_one w7 x (fatV ps x)) ?_; intro v8 w8 hO8 hg8; have hB8 := (hB7.alloc hB7.size (.cells #[.int .i64 x, .int .i64 (fatV ps x)] 38)).grown hg8 (by have := hB7.size; simp; omega) (own_ge hO7)))
    rw [List.nil_append, show (ps ++ [(x, fatV ps x)]).length = n + 1 by have := HA.out.len; simp; omega] at hO8
    obtain ⟨Am, cm, em, hrm⟩ := pv_reads hO8
    subst em
    have hb8 := hb6.trans (hB8.mono hb6.size)
    clear hO8 hg8 hO7 hg7
    go_wp2_with fail
    refine (at_at _ _ _ _ t _ _ hmo.out _ hrm).mono ?_
    rintro e w9 ⟨rfl, hd9⟩
    have hb9 := hb8.trans (hd9.mono hb8.size)
    go_wp2_with fail
    refine (diff_at _ _ _ _ true hmd.out _ (hrm.below hd9)).mono ?_
    rintro e w10 ⟨rfl, hd10⟩
    have hb10 := hb9.trans (hd10.mono hb9.size)
    go_wp2
    go_ret
    exact ⟨rfl, hb10⟩
  · have hmoE := Lib.hid (fatE_no hdm (by have := HA.out.len; simp; omega))
    have hmd := Lib.hid (show decide (Diff (ps ++ [(x, fatV ps x)])) = false by simp [hdm])
    clear hdm
    go_wp2_with (first
      | (at_builtin; refine app_pts w6.heap.size rfl (.tmp 78) (.tmp 79) rfl _ [] ps ad n c rfl rfl (own_zero w6 w6.heap.size (Nat.le_refl _)) (by simp) (by simp) (by omega) (HA.out.below (hb6.alloc hb6.size _)) ?_; intro v7 w7 hO7 hg7; have hB7 := (((Below.refl w6.heap.size w6).alloc (Nat.le_refl _) (.cells #[] 38)).grown hg7 (by simp) (fun r e => by cases e; exact Nat.le_refl _)))
      | (at_builtin; refine app_pts w6.heap.size rfl (.tmp 80) (.tmp 84) rfl _ ([] ++ ps) [(x, fatV ps x)] ⟨w7.heap.size, 0, none⟩ 1 1 rfl rfl (hO7.alloc _) (by have := hB7.size; simp; omega) (by have := HA.out.len; simp; omega) (by omega) (rdP_one w7 x (fatV ps x)) ?_; intro v8 w8 hO8 hg8; have hB8 := (hB7.alloc hB7.size (.cells #[.int .i64 x, .int .i64 (fatV ps x)] 38)).grown hg8 (by have := hB7.size; simp; omega) (own_ge hO7)))
    rw [List.nil_append, show (ps ++ [(x, fatV ps x)]).length = n + 1 by have := HA.out.len; simp; omega] at hO8
    obtain ⟨Am, cm, em, hrm⟩ := pv_reads hO8
    subst em
    have hb8 := hb6.trans (hB8.mono hb6.size)
    clear hO8 hg8 hO7 hg7
    go_wp2_with fail
    refine (at_at _ _ _ _ t _ _ ⟨rfl, hmoE.out⟩ _ hrm).mono ?_
    rintro e w9 ⟨rfl, hd9⟩
    have hb9 := hb8.trans (hd9.mono hb8.size)
    go_wp2_with fail
    refine (diff_at _ _ _ _ false hmd.out _ (hrm.below hd9)).mono ?_
    rintro e w10 ⟨rfl, hd10⟩
    have hb10 := hb9.trans (hd10.mono hb9.size)
    go_wp2
    go_ret
    exact ⟨rfl, hb10⟩

end Go.Proofs.Ytlfgfnfcdffhpaa
