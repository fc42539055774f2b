/- The walk of the law FieldThrough: true. Conditions: the slices read as lists. -/
import Derived.Test.YtlfgfnfcdffhpaaV
import Derived.Test.YtlfgfnfcdffhpaaR
namespace Go.Proofs.Ytlfgfnfcdffhpaa
open Go.RowKit
set_option linter.unusedVariables false

theorem diff_at (A : Option Addr) (n c : Nat) (ps : List (Int × Int)) (b : Bool) (h : decide (Diff ps) = b) (w : World) (hr : RdP w A n ps) :
    Calls Try.prog 24 #[.slice A n c] w fun e w' => e = .returned (.bool b) ∧ Below w.heap.size w w' := by
  rw [← h]
  exact (different_any A n c ps w hr).mono fun e w' ⟨h1, h2⟩ => ⟨h1, h2.below⟩
theorem ownP_succ (poly : List Int) (ps : List (Int × Int)) (k : Nat) (h : k < ps.length) : ownP poly (ps.take (k + 1)) = ownP poly (ps.take k) ++ [(px ps k, valL (px ps k) poly 0 1)] := by
  unfold ownP
  rw [List.take_succ_eq_append_getElem h, List.map_append]
  simp [px, List.getD_eq_getElem?_getD, List.getElem?_eq_getElem h]
theorem rdP_one (w : World) (a b : Int) : RdP (w.alloc (.cells #[.int .i64 a, .int .i64 b] 38)) (some ⟨w.heap.size, 0, none⟩) 1 [(a, b)] :=
  ⟨rfl, by omega, fun j h => by
    obtain rfl : j = 0 := by omega
    exact ⟨_, rfl, by simp [Addr.add, px], by simp [Addr.add, py]⟩⟩

theorem in_val (t : Int) (poly : List Int) (w : World) : Calls Try.prog 23 #[.int .i64 (valL t poly 0 1)] w fun e w' => e = .returned (.bool true) ∧ w = w' := by
  have := in_any (valL t poly 0 1) w
  rw [val_P, in_fm] at this
  rw [val_P]
  exact this

set_option maxRecDepth 100000 in
set_option maxHeartbeats 2000000 in
theorem through_walk (A : Option Addr) (n c : Nat) (ps : List (Int × Int)) (B : Option Addr) (m d : Nat) (poly : List Int) (t : Int) (w : World) (ha : RdP w A n ps) (hb : RdI w B m poly) :
    Calls Try.prog 6 #[.slice A n c, .slice B m d, .int .i64 t] w fun e w' => e = .returned (.bool true) ∧ Below w.heap.size w w' := by
  have HA := Lib.hid ha
  have HB := Lib.hid hb
  have hc1 := ha.cap
  have hc2 := hb.cap
  clear ha hb
  by_cases h64 : 64 < n
  · go_enter Try.func6, Try.ntmps6
    go_wp2_with fail
    refine (sane_any _).mono ?_
    rintro e w1 ⟨rfl, hb1⟩
    go_wp2
    go_ret
    exact ⟨rfl, hb1⟩
  by_cases hd : Diff ps
  case neg =>
    go_enter Try.func6, Try.ntmps6
    go_wp2_with fail
    refine (sane_any _).mono ?_
    rintro e w1 ⟨rfl, hb1⟩
    go_wp2_with fail
    refine (diff_at A n c ps false (by simp [hd]) _ (HA.out.below hb1)).mono ?_
    rintro e w2 ⟨rfl, hb2⟩
    clear hd
    go_wp2
    go_ret
    exact ⟨rfl, hb1.trans (hb2.mono hb1.size)⟩
  have hdt := Lib.hid (show decide (Diff ps) = true by simp [hd])
  have HD := Lib.hid hd
  clear hd
  by_cases hmn : n < m
  · go_enter Try.func6, Try.ntmps6
    go_wp2_with fail
    refine (sane_any _).mono ?_
    rintro e w1 ⟨rfl, hb1⟩
    go_wp2_with fail
    refine (diff_at A n c ps true hdt.out _ (HA.out.below hb1)).mono ?_
    rintro e w2 ⟨rfl, hb2⟩
    go_wp2
    go_ret
    exact ⟨rfl, hb1.trans (hb2.mono hb1.size)⟩
  have hmx : Try.prog.follows .mixedOrders = true := by kernel_rfl
  go_enter Try.func6, Try.ntmps6
  go_wp2_with fail
  refine (sane_any _).mono ?_
  rintro e w0 ⟨rfl, hb0⟩
  go_wp2_with fail
  refine (diff_at A n c ps true hdt.out _ (HA.out.below hb0)).mono ?_
  rintro e w1 ⟨rfl, hb1⟩
  replace hb1 := hb0.trans (hb1.mono hb0.size)
  clear hb0
  go_wp2
  go_loopw [7, 9, 10, 11, 33] (fun v _ _ _ i wr => ∃ (k : Nat), k ≤ n ∧ i = .int .i64 k ∧ wr.ownsRow w1.heap.size 38 2 v (ownP poly (ps.take k)).length (pv (ownP poly (ps.take k))) ∧ Below w1.heap.size w1 wr) (fun _ _ _ _ i _ => n - (intOf i).toNat)
  case atStart => exact ⟨0, by omega, rfl, World.ownsRow_nil _ _ _ _, Below.refl _ _⟩
  case round =>
    obtain ⟨k, hk, rfl, hO, hB⟩ := hrel
    by_cases hlt : k < n
    · obtain ⟨ad, e1, hca, hcb⟩ := ((HA.out.below hb1).below hB).cell k hlt
      cases e1
      have hnode := Lib.hid (show fatV ps (px ps k) = fm (py ps k) ∧ fatE ps = 0 from ⟨at_node HD.out (by have := HA.out.len; omega) (by rw [HA.out.len]; exact hlt), fatE_ok HD.out (by have := HA.out.len; omega)⟩)
      have hrA := (HA.out.below hb1).below (hB.alloc hB.size (.cells #[.int .i64 (px ps k), .int .i64 (py ps k)] 38))
      have HRA := Lib.hid hrA
      clear hrA
      go_wp2_with fail
      refine (at_at _ n c ps (px ps k) _ _ hnode.out _ HRA.out).mono ?_
      rintro e w2 ⟨rfl, hb2⟩
      have hz : wr.heap.size + 1 ≤ w2.heap.size := by have := hb2.size; simpa using this
      have c0 : w2.cell? ⟨wr.heap.size, 0, none⟩ = some (.int .i64 (px ps k)) := (hb2.cell (p := ⟨wr.heap.size, 0, none⟩) (by simp)).trans (by simp)
      have c1 : w2.cell? ⟨wr.heap.size, 1, none⟩ = some (.int .i64 (py ps k)) := (hb2.cell (p := ⟨wr.heap.size, 1, none⟩) (by simp)).trans (by simp)
      have hO2 := own_below (hO.alloc (.cells #[.int .i64 (px ps k), .int .i64 (py ps k)] 38)) hb2
      have hB2 := (hB.alloc hB.size (.cells #[.int .i64 (px ps k), .int .i64 (py ps k)] 38)).trans (hb2.mono (by have := hB.size; simp; omega))
      go_wp2_with (go_at_call 12; refine (mod_any _ _).mono ?_; rintro e w' ⟨rfl, rfl⟩)
      have hOs := hO2
      have hrB := Lib.hid ((HB.out.below hb1).below hB2)
      refine (wpIn_wide (n := 3)).1 (wpIn_region_held (fun W => W.cell? ⟨wr.heap.size, 0, none⟩ = some (.int .i64 (px ps k))) (fun _ => false) hmx ?_)
      have hS : w2.drew.cell? ⟨wr.heap.size, 0, none⟩ = some (.int .i64 (px ps k)) := c0
      refine wpAnyHIn_pure (i := 0) rfl (by kernel_rfl) (fun _ _ _ h => h) (.inl ⟨by rfl, fun w2 h2 => rfl⟩) (fun _ => rfl) hS ?_
      refine wpAnyHIn_pure (i := 1) (v := .pointer (some ⟨wr.heap.size, 0, none⟩)) rfl (by kernel_rfl) (fun _ _ _ h => h) (.inl ⟨by rfl, fun w2 h2 => ?_⟩) (fun _ => rfl) hS ?_
      · go_simp
      refine wpAnyHIn_take (i := 2) (v := .int .i64 (px ps k)) rfl (by kernel_rfl) (fun _ _ _ h => h) (.inl ⟨by rfl, fun w2 h2 => ?_⟩) (fun _ => rfl) hS ?_
      · go_simp
      refine wpAnyHIn_pure (i := 3) rfl (by kernel_rfl) (fun _ _ _ h => h) (.inl ⟨by rfl, fun w2 h2 => rfl⟩) (fun _ => rfl) hS ?_
      refine wpAnyHIn_pure (i := 4) (v := .pointer (some ⟨wr.heap.size, 0, none⟩)) rfl (by kernel_rfl) (fun _ _ _ h => h) (.inl ⟨by rfl, fun w2 h2 => ?_⟩) (fun _ => rfl) hS ?_
      · go_simp
      refine wpAnyHIn_take (i := 5) (v := .int .i64 (px ps k)) rfl (by kernel_rfl) (fun _ _ _ h => h) (.inl ⟨by rfl, fun w2 h2 => ?_⟩) (fun _ => rfl) hS ?_
      · go_simp
      refine wpAnyHIn_one (i := 6) (by kernel_rfl) (wpOpIn_run rfl rfl ?_)
      refine ⟨fun _ _ => trivial, ?_⟩
      go_simp
      refine (callsIn_wide.2 (value_any B m d poly (px ps k) _ (hrB.out.below (Below.refl _ w2).drew))).mono ?_
      rintro e w3 ⟨rfl, hb3⟩
      have hS3 : w3.cell? ⟨wr.heap.size, 0, none⟩ = some (.int .i64 (px ps k)) := (hb3.cell (p := ⟨wr.heap.size, 0, none⟩) (by show wr.heap.size < w2.heap.size; omega)).trans hS
      have hO3 : w3.ownsRow w1.heap.size 38 2 u7 (ownP poly (ps.take k)).length (pv (ownP poly (ps.take k))) := own_below (w := w2.drew) hO2 hb3
      have hB3 : Below w1.heap.size w1 w3 := hB2.trans (Below.trans (Below.refl _ w2).drew (hb3.mono (by show w1.heap.size ≤ w2.heap.size; exact hB2.size)))
      refine ⟨fun _ => hS3, ?_⟩
      refine wpAnyHIn_pure (i := 7) (v := .agg #[.int .i64 (px ps k), .int .i64 (valL (px ps k) poly 0 1)]) rfl (by kernel_rfl) (fun _ _ _ h => h) (.inl ⟨by rfl, fun w2 h2 => ?_⟩) (fun _ => rfl) hS3 ?_
      · go_simp
      refine wpAnyHIn_one (i := 8) (by kernel_rfl) (wpOpIn_run rfl rfl ?_)
      refine ⟨fun _ _ => trivial, ?_⟩
      go_simp
      have hbl4 : Below w3.heap.size w3 (w3.alloc (.cells #[.int .i64 (px ps k), .int .i64 (valL (px ps k) poly 0 1)] 38)) := (Below.refl _ _).alloc (Nat.le_refl _) _
      have hS4 := (hbl4.cell (World.block_lt_of_cell? _ _ hS3)).trans hS3
      refine ⟨fun _ => hS4, ?_⟩
      refine wpAnyHIn_one (i := 9) (by kernel_rfl) (wpOpIn_run rfl rfl ?_)
      refine wpIn_app_pts w1.heap.size (.tmp 53) (.tmp 61) rfl u7 (ownP poly (ps.take k)) [(px ps k, valL (px ps k) poly 0 1)] ⟨w3.heap.size, 0, none⟩ 1 1 rfl rfl (own_below hO3 hbl4) (by have := hB3.size; simp; omega) (by simp [ownP]; omega) (by omega) (rdP_one w3 _ _) ?_
      intro v5 w5 hO5 hg5
      have hS5 : w5.cell? ⟨wr.heap.size, 0, none⟩ = some (.int .i64 (px ps k)) :=
        (World.cell?_of_block (hg5.block wr.heap.size (World.block_lt_of_cell? _ _ hS4) (fun e => by have := own_lt hO _ e.symm; omega))).trans hS4
      have hB5 := (hB3.alloc hB3.size (.cells #[.int .i64 (px ps k), .int .i64 (valL (px ps k) poly 0 1)] 38)).grown hg5 (by have := hB3.size; simp; omega) (own_ge hO3)
      refine ⟨fun _ => hS5, ?_⟩
      refine wpAnyHIn_pure (i := 10) rfl (by kernel_rfl) (fun _ _ _ h => h) (.inl ⟨by rfl, fun w2 h2 => rfl⟩) (fun _ => rfl) hS5 ?_
      refine wpAnyHIn_done (by kernel_rfl) ?_ _
      have hst := Lib.hid (ownP_succ poly ps k (by rw [HA.out.len]; exact hlt))
      go_wp2
      go_roundw
      case rel => exact ⟨k + 1, by omega, by go_num, by rw [hst.out]; exact hO5, hB5⟩
      case measure => simp [intOf]; omega
    · obtain rfl : k = n := by omega
      obtain ⟨Ao, co, eo, hro⟩ := pv_reads hO
      subst eo
      have hfull : ps.take k = ps := List.take_of_length_le (by rw [HA.out.len]; exact Nat.le_refl _)
      rw [hfull] at hro
      have hth := Lib.hid (through (poly := poly) HD.out (by have := HA.out.len; omega) (by have := HA.out.len; have := HB.out.len; omega) t)
      have hlo : (ownP poly (ps.take k)).length = (ownP poly ps).length := by rw [hfull]
      clear hO
      have hb2 := hb1.trans (hB.mono hb1.size)
      go_wp2_with fail
      refine (at_at _ _ _ (ownP poly ps) t _ _ hth.out _ hro).mono ?_
      rintro e w2 ⟨rfl, hd2⟩
      have hb3 := hb2.trans (hd2.mono hb2.size)
      go_wp2_with fail
      refine (in_val t poly _).mono ?_
      rintro e w' ⟨rfl, rfl⟩
      go_wp2_with fail
      refine (value_any _ _ _ _ t _ (HB.out.below hb3)).mono ?_
      rintro e w3 ⟨rfl, hd3⟩
      have hb4 := hb3.trans (hd3.mono hb3.size)
      go_wp2
      go_ret
      exact ⟨rfl, hb4⟩

end Go.Proofs.Ytlfgfnfcdffhpaa
