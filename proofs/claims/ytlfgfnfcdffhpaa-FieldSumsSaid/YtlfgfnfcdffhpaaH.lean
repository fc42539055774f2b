/- Contract of At of package field. Conditions: the slice of points reads as a list. -/
import Derived.Test.YtlfgfnfcdffhpaaL
namespace Go.Proofs.Ytlfgfnfcdffhpaa
open Go.RowKit Go.Shelf Go.Maps Go.WideMaps
attribute [local go_sem] Oper.semAt_some
set_option linter.unusedVariables false

set_option maxRecDepth 100000 in
set_option maxHeartbeats 2000000 in
theorem at_in (A : Option Addr) (n c : Nat) (ps : List (Int × Int)) (t : Int) (w : World) (hr : RdP w A n ps) :
    CallsIn Fence.wide 5 Try.prog 19 #[.slice A n c, .int .i64 t] w fun e w' => e = .returned (.tuple #[.int .i64 (fatV ps t), .int .i64 (fatE ps)]) ∧ Below w.heap.size w w' := by
  have hcap := hr.cap
  have HR := Lib.hid hr
  clear hr
  have hmm := @run_makeMap Try.prog
  refine callsIn_of_wp_marks Try.func19 rfl trivial ?_ rfl
  simp only [Try.ntmps19, List.size_toArray, List.length_cons, List.length_nil, Nat.reduceAdd, Nat.reduceSub, Array.replicate_succ, Array.replicate_zero, List.push_toArray, List.append_toArray, List.nil_append, List.cons_append]
  by_cases h64 : 64 < n
  · have e1 : Hid (0 = fatV ps t ∧ 2 = fatE ps) := Lib.hid (by simp [fatV, fatE, HR.out.len, h64])
    gi_wp2
    refine ⟨_, results_tmp2 (t := 4) (u := 5) rfl _ _ _, ?_⟩
    exact ⟨ret2 e1.out.1 e1.out.2, (Below.refl _ _).alloc (Nat.le_refl _) _⟩
  gi_wp2
  gi_loopw [8, 22] (fun _ i wr => ∃ (j : Nat), j ≤ n ∧ i = .int .i64 j ∧ wr.ownsMap Try.prog 3 (plainElem Try.prog 4) (w.heap.size + 1) j (Sn ps j) ∧ Below w.heap.size w wr ∧ Kept (w.heap.size + 1) (fun _ => False) (w.alloc (.cells #[.int .i64 t] 3)) wr ∧ w.heap.size + 1 < wr.heap.size) (fun _ i _ => n - (intOf i).toNat)
  case atStart => exact ⟨0, by omega, rfl, by rw [Sn_zero]; have := World.ownsMap_made (H := Unit) (P := Try.prog) (w.alloc (.cells #[.int .i64 t] 3)) 3 (plainElem Try.prog 4); simpa using this, ((Below.refl _ _).alloc (Nat.le_refl _) _).alloc (by simp) _, (Kept.refl _ _ _).alloc (by simp) _, by simp⟩
  case round =>
    obtain ⟨j, hj, rfl, hown, hB, hK, hsz⟩ := hrel
    by_cases hlt : j < n
    · obtain ⟨ad, rfl, hc1, hc2⟩ := (HR.out.below hB).cell j hlt
      have hst := Lib.hid (Sn_succ ps j (by rw [HR.out.len]; exact hlt))
      gi_wp2_with (first
        | (refine ⟨trivial, ?_⟩; gi_at_call 12; refine (callsIn_wide.2 (mod_any _ _)).mono ?_; rintro e w' ⟨rfl, rfl⟩)
        | (gi_at_mapUpdate; refine wpListIn_mapUpdate_own _ rfl _ _ _ 43 rfl 3 4 law3 Try.underlying43 (plainElem (H := Unit) Try.prog 4) (w.heap.size + 1) j _ rfl (hown.alloc _) (by unfold maxLen; omega) _ _ _ rfl rfl (keyOf_int_mk Try.underlying3 (fm_wf _)) _ [] (plainElem_bool Try.underlying4 true) ?_; intro w1 hown1 hgrow1))
      go_roundw
      case rel => exact ⟨j + 1, by omega, by go_num, by rw [hst.out]; exact hown1, (hB.alloc hB.size _).grown hgrow1 (by simp; have := hB.size; omega) (fun r e => by cases e; omega), (hK.alloc (by omega) _).grown hgrow1 (by simp; omega) (fun r e => by cases e; exact .inl (Nat.le_refl _)), by have := hgrow1.size; simp at this; omega⟩
      case measure => simp [intOf]; omega
    · obtain rfl : j = n := by omega
      by_cases hs : Maps.size (Sn ps j) < j
      · have e1 : Hid (0 = fatV ps t ∧ 90 = fatE ps) := Lib.hid (by simp [fatV, fatE, HR.out.len, h64, hs])
        gi_wp2_with (gi_at_len; refine wpListIn_len_own _ rfl _ 43 rfl 3 4 Try.underlying43 _ (w.heap.size + 1) j _ rfl hown ?_)
        refine ⟨_, results_tmp2 (t := 4) (u := 5) rfl _ _ _, ?_⟩
        exact ⟨ret2 e1.out.1 e1.out.2, hB⟩
      · have e1 : Hid (yF ps t j = fatV ps t ∧ 0 = fatE ps) := Lib.hid (by simp [fatV, fatE, HR.out.len, h64, hs])
        have hs' : j ≤ Maps.size (Sn ps j) := by omega
        clear hs
        gi_wp2_with (gi_at_len; refine wpListIn_len_own _ rfl _ 43 rfl 3 4 Try.underlying43 _ (w.heap.size + 1) j _ rfl hown ?_)
        refine wpIn_loop (fun a' W => ∃ (k : Nat) (Ds : List Nat), k ≤ j ∧ Marks W Ds ∧ (∀ D ∈ Ds, w.heap.size ≤ D) ∧ Below w.heap.size w W ∧ Boxed W w.heap.size 3 (.int .i64 t) ∧ ∃ u : Nat → Value, True ∧ a' = { tmps := #[.slice A j c, .int .i64 t, u 2, .pointer (some ⟨w.heap.size, 0, none⟩), .int .i64 (yF ps t k), .int .i64 0, u 6, u 7, u 8, u 9, u 10, u 11, u 12, u 13, u 14, u 15, u 16, u 17, u 18, u 19, u 20, u 21, u 22, u 23, u 24, u 25, u 26, u 27, u 28, u 29, u 30, u 31, u 32, u 33, u 34, u 35, .slice A j c, .int .i64 j, .int .i64 k, u 39, u 40, u 41, u 42, u 43, u 44, u 45, u 46, u 47, u 48, u 49, u 50, u 51, u 52, u 53, u 54, u 55, u 56, u 57, u 58, u 59, u 60, u 61, u 62, u 63, u 64, u 65, u 66, u 67, u 68, u 69, u 70, u 71, u 72, u 73, u 74, u 75, u 76, u 77, u 78, u 79, u 80, u 81], defers := Ds.map fun D => { target := .collected D, args := #[] } }) (fun a' _ => j - (intOf (a'.tmps.getD 38 undef)).toNat) ?_ ?_
        · exact ⟨0, [], by omega, Marks.nil _, by simp, hB, hK.boxed (Boxed.new _ _ _) (by omega) (fun h => h), ex_frame trivial rfl⟩
        · rintro _ W ⟨k, Ds, hk, hM, hD, hB, hb3, u, -, rfl⟩
          by_cases hlt : k < j
          · obtain ⟨ad, rfl, hc1, hc2⟩ := (HR.out.below hB).cell k hlt
            gi_wp2_with (first
              | (refine ⟨trivial, ?_⟩; gi_at_call 12; refine (callsIn_wide.2 (mod_any _ _)).mono ?_; rintro e w' ⟨rfl, rfl⟩)
              | (refine ⟨trivial, ?_⟩; gi_at_call 27; refine (others_in _ _ _ _ _ _).mono ?_; rintro e w' ⟨rfl, rfl⟩))
            have hB1 : Boxed ((W.alloc (.cells #[.int .i64 (px ps k), .int .i64 (py ps k)] 38)).alloc (.cells #[.int .i64 (fm (py ps k))] 3)) (W.heap.size + 1) 3 (.int .i64 (fm (py ps k))) := by simpa using Boxed.new (W.alloc (.cells #[.int .i64 (px ps k), .int .i64 (py ps k)] 38)) 3 (.int .i64 (fm (py ps k)))
            have hB2 : Boxed (((W.alloc (.cells #[.int .i64 (px ps k), .int .i64 (py ps k)] 38)).alloc (.cells #[.int .i64 (fm (py ps k))] 3)).alloc (.cells #[.int .i64 1] 3)) (W.heap.size + 1 + 1) 3 (.int .i64 1) := by simpa using Boxed.new ((W.alloc (.cells #[.int .i64 (px ps k), .int .i64 (py ps k)] 38)).alloc (.cells #[.int .i64 (fm (py ps k))] 3)) 3 (.int .i64 1)
            have hB3 : Boxed ((((W.alloc (.cells #[.int .i64 (px ps k), .int .i64 (py ps k)] 38)).alloc (.cells #[.int .i64 (fm (py ps k))] 3)).alloc (.cells #[.int .i64 1] 3)).alloc (.cells #[.slice (some ad) j c] 30)) (W.heap.size + 1 + 1 + 1) 30 (.slice (some ad) j c) := by simpa using Boxed.new (((W.alloc (.cells #[.int .i64 (px ps k), .int .i64 (py ps k)] 38)).alloc (.cells #[.int .i64 (fm (py ps k))] 3)).alloc (.cells #[.int .i64 1] 3)) 30 (.slice (some ad) j c)
            have hB4 : Boxed (((((W.alloc (.cells #[.int .i64 (px ps k), .int .i64 (py ps k)] 38)).alloc (.cells #[.int .i64 (fm (py ps k))] 3)).alloc (.cells #[.int .i64 1] 3)).alloc (.cells #[.slice (some ad) j c] 30)).alloc (.cells #[.int .i64 k] 3)) (W.heap.size + 1 + 1 + 1 + 1) 3 (.int .i64 k) := by simpa using Boxed.new ((((W.alloc (.cells #[.int .i64 (px ps k), .int .i64 (py ps k)] 38)).alloc (.cells #[.int .i64 (fm (py ps k))] 3)).alloc (.cells #[.int .i64 1] 3)).alloc (.cells #[.slice (some ad) j c] 30)) 3 (.int .i64 k)
            have hB0 : (W.alloc (.cells #[.int .i64 (px ps k), .int .i64 (py ps k)] 38)).heap[W.heap.size]? = some (.cells #[.int .i64 (px ps k), .int .i64 (py ps k)] 38 (0, 0)) := World.alloc_heap_new W _
            have hbl : Below W.heap.size W (((((W.alloc (.cells #[.int .i64 (px ps k), .int .i64 (py ps k)] 38)).alloc (.cells #[.int .i64 (fm (py ps k))] 3)).alloc (.cells #[.int .i64 1] 3)).alloc (.cells #[.slice (some ad) j c] 30)).alloc (.cells #[.int .i64 k] 3)) := (((((Below.refl _ W).alloc (Nat.le_refl _) _).alloc (by simp) _).alloc (by simp; omega) _).alloc (by simp; omega) _).alloc (by simp; omega) _
            replace hB1 := ((hB1.alloc (.cells #[.int .i64 1] 3)).alloc (.cells #[.slice (some ad) j c] 30)).alloc (.cells #[.int .i64 k] 3)
            replace hB2 := (hB2.alloc (.cells #[.slice (some ad) j c] 30)).alloc (.cells #[.int .i64 k] 3)
            replace hB3 := hB3.alloc (.cells #[.int .i64 k] 3)
            have hsz0 : (((((W.alloc (.cells #[.int .i64 (px ps k), .int .i64 (py ps k)] 38)).alloc (.cells #[.int .i64 (fm (py ps k))] 3)).alloc (.cells #[.int .i64 1] 3)).alloc (.cells #[.slice (some ad) j c] 30)).alloc (.cells #[.int .i64 k] 3)).heap.size = W.heap.size + 5 := by simp
            have hP : (((((W.alloc (.cells #[.int .i64 (px ps k), .int .i64 (py ps k)] 38)).alloc (.cells #[.int .i64 (fm (py ps k))] 3)).alloc (.cells #[.int .i64 1] 3)).alloc (.cells #[.slice (some ad) j c] 30)).alloc (.cells #[.int .i64 k] 3)).heap[W.heap.size]? = some (.cells #[.int .i64 (px ps k), .int .i64 (py ps k)] 38 (0, 0)) := by
              rw [Below.heap_alloc _ _ _ (by simp; omega), Below.heap_alloc _ _ _ (by simp; omega), Below.heap_alloc _ _ _ (by simp; omega), Below.heap_alloc _ _ _ (by simp)]
              exact hB0
            obtain ⟨W0, hW0⟩ : ∃ W0, ((((W.alloc (.cells #[.int .i64 (px ps k), .int .i64 (py ps k)] 38)).alloc (.cells #[.int .i64 (fm (py ps k))] 3)).alloc (.cells #[.int .i64 1] 3)).alloc (.cells #[.slice (some ad) j c] 30)).alloc (.cells #[.int .i64 k] 3) = W0 := ⟨_, rfl⟩
            rw [hW0] at hB1 hB2 hB3 hB4 hbl hsz0 hP ⊢
            clear hW0 hB0
            have hadw : ad.block < w.heap.size := by
              obtain ⟨ad', e, hc, _⟩ := HR.out.cell k hlt
              cases e
              have := World.block_lt_of_cell? w _ hc
              rwa [addr_block] at this
            have hBs := hB.size
            have hsz1 : W.heap.size + 5 ≤ W0.heap.size := by omega
            clear hsz0
            refine wpIn_rangeFunc_ownH rfl (by omega) (gf := 28) (lb := #[.pointer (some ⟨W.heap.size + 1 + 1 + 1, 0, none⟩), .pointer (some ⟨W.heap.size + 1 + 1 + 1 + 1, 0, none⟩)]) rfl trivial (enters_of Try.func28 (by kernel_rfl) rfl)
              (others_stops _ (by omega) (fun b => b = W.heap.size + 1 ∨ b = W.heap.size + 1 + 1) _ _ W0.heap.size (some ad) j c k ps W0 ((HR.out.below hB).below hbl) (fun ad' e => by cases e; omega) (Nat.le_refl _) (by omega) (by omega) hB3 hB4) Kept.trans (fun Wx l o o' hl _ _ _ => kept_putObj hl) (Below.refl _ _) (fun _ => rfl)
              (fun pre W' => (Boxed W' (W.heap.size + 1) 3 (.int .i64 (aboveF t pre (fm (py ps k)))) ∧ Boxed W' (W.heap.size + 1 + 1) 3 (.int .i64 (belowF (px ps k) pre 1))) ∧ Kept W0.heap.size (fun b => b = W.heap.size + 1 ∨ b = W.heap.size + 1 + 1) W0 W')
              (fun _ _ _ => False)
              (OwnFrom.and (OwnFrom.and (Own.from (boxed_own _ _ _) _) (Own.from (boxed_own _ _ _) _)) (ownFrom_kept (Nat.le_refl _) (Nat.le_refl _)))
              (fun _ _ _ _ _ hs _ _ => hs)
              ⟨⟨hB1, hB2⟩, Kept.refl _ _ _⟩
              (fun x a' W' => ∃ (Bx : Nat), W0.heap.size ≤ Bx ∧ W'.heap[Bx]? = some (.cells #[.int .i64 x.1, .int .i64 x.2] 38 (0, 0)) ∧ ∃ v : Nat → Value, True ∧ a' = { tmps := #[v 0, v 1, v 2, .pointer (some ⟨w.heap.size, 0, none⟩), v 4, v 5, v 6, v 7, v 8, v 9, .pointer (some ⟨W.heap.size, 0, none⟩), .pointer (some ⟨W.heap.size + 1, 0, none⟩), .pointer (some ⟨W.heap.size + 1 + 1, 0, none⟩), .pointer (some ⟨Bx, 0, none⟩), v 14, v 15, v 16, v 17, v 18, v 19, v 20, v 21, v 22, v 23, v 24, v 25, v 26, v 27, v 28, v 29, v 30, v 31, v 32, v 33, v 34, v 35, v 36, v 37, v 38, v 39, v 40, v 41, v 42, v 43, v 44, v 45, v 46, v 47, v 48, v 49, v 50, v 51, v 52, v 53, v 54, v 55, v 56, v 57, v 58, v 59, v 60, v 61, v 62, v 63, v 64, v 65, v 66, v 67, v 68, v 69, v 70, v 71, v 72, v 73, v 74, v 75, v 76, v 77, v 78, v 79, v 80, v 81], defers := [] })
              (fun x a' _ X Y row hs hg hr => by
                obtain ⟨Bx, g1, g2, g3⟩ := hs
                exact ⟨Bx, g1, (grownBy_keeps_cells hg (fun r e => (hr r e).2) g2 rfl).trans g2, g3⟩)
              ?assign ?body ?done ?stop
            case assign =>
              rintro l pre x W' K ⟨⟨g1, g2⟩, g3⟩ hK
              gi_wp2
              exact hK _ _ ((KeepsOthers.alloc _ _).from _) (Kept.alloc (Kept.refl _ _ _) g3.size _) ⟨⟨g1.alloc _, g2.alloc _⟩, g3.alloc g3.size _⟩ ⟨W'.heap.size, g3.size, World.alloc_heap_new W' _, ex_frame trivial rfl⟩
            case body =>
              rintro l pre x a' W' hl ⟨r, hr⟩ ⟨⟨g1, g2⟩, g3⟩ ⟨Bx, hBx, hx, v, -, rfl⟩ hlt
              have c1 := g1.cell
              have f1 := g1.frozen
              have c2 := g2.cell
              have f2 := g2.frozen
              have c3 : W'.cell? ⟨w.heap.size, 0, none⟩ = some (.int .i64 t) := (g3.cell (p := ⟨w.heap.size, 0, none⟩) (by have := hb3.lt; show w.heap.size < W0.heap.size; omega) (by have := hb3.lt; show ¬ (w.heap.size = W.heap.size + 1 ∨ w.heap.size = W.heap.size + 1 + 1); omega)).trans ((hbl.cell (p := ⟨w.heap.size, 0, none⟩) hb3.lt).trans hb3.cell)
              have c4 : W'.cell? ⟨W.heap.size, 0, none⟩ = some (.int .i64 (px ps k)) := (g3.cell (p := ⟨W.heap.size, 0, none⟩) (by show W.heap.size < W0.heap.size; omega) (by show ¬ (W.heap.size = W.heap.size + 1 ∨ W.heap.size = W.heap.size + 1 + 1); omega)).trans (by simp [World.cell?, hP])
              have c5 : W'.cell? ⟨Bx, 0, none⟩ = some (.int .i64 x.1) := by simp [World.cell?, hx]
              have hmx : Try.prog.follows .mixedOrders = true := by kernel_rfl
              gi_wp2
              refine wpIn_region_held (InS w.heap.size W.heap.size (W.heap.size + 1) (W.heap.size + 1 + 1) Bx W0.heap.size t (px ps k) x.1 (aboveF t pre (fm (py ps k))) (belowF (px ps k) pre 1) W') (fun i => decide (19 ≤ i)) hmx ?_
              have hS : InS w.heap.size W.heap.size (W.heap.size + 1) (W.heap.size + 1 + 1) Bx W0.heap.size t (px ps k) x.1 (aboveF t pre (fm (py ps k))) (belowF (px ps k) pre 1) W' W'.drew := ⟨c3, c4, c5, g1, g2, (KeepsOthers.drew _).from _, Kept.drew (Kept.refl _ _ _)⟩
              clear c1 f1 c2 f2 c3 c4 c5
              refine wpAnyHIn_take (i := 0) (v := .int .i64 (aboveF t pre (fm (py ps k)))) rfl (by kernel_rfl) (fun _ _ _ h => h) (.inl ⟨by rfl, fun w2 h2 => ?_⟩) (fun _ => rfl) hS ?_
              · obtain ⟨e1, e2, e3, e4, e5, e6, e7⟩ := h2
                have e8 := e4.cell
                go_simp
              refine wpAnyHIn_take (i := 1) (v := .int .i64 t) rfl (by kernel_rfl) (fun _ _ _ h => h) (.inl ⟨by rfl, fun w2 h2 => ?_⟩) (fun _ => rfl) hS ?_
              · obtain ⟨e1, e2, e3, e4, e5, e6, e7⟩ := h2
                go_simp
              refine wpAnyHIn_pure (i := 2) (v := .pointer (some ⟨Bx, 0, none⟩)) rfl (by kernel_rfl) (fun _ _ _ h => h) (.inl ⟨by rfl, fun w2 h2 => ?_⟩) (fun _ => rfl) hS ?_
              · clear h2
                go_simp
              refine wpAnyHIn_take (i := 3) (v := .int .i64 x.1) rfl (by kernel_rfl) (fun _ _ _ h => h) (.inl ⟨by rfl, fun w2 h2 => ?_⟩) (fun _ => rfl) hS ?_
              · obtain ⟨e1, e2, e3, e4, e5, e6, e7⟩ := h2
                go_simp
              refine wpAnyHIn_take (i := 9) (v := .int .i64 (belowF (px ps k) pre 1)) rfl (by kernel_rfl) (fun _ _ _ h => h) (.inl ⟨by rfl, fun w2 h2 => ?_⟩) (fun _ => rfl) hS ?_
              · obtain ⟨e1, e2, e3, e4, e5, e6, e7⟩ := h2
                have e8 := e5.cell
                go_simp
              refine wpAnyHIn_pure (i := 10) (v := .pointer (some ⟨W.heap.size, 0, none⟩)) rfl (by kernel_rfl) (fun _ _ _ h => h) (.inl ⟨by rfl, fun w2 h2 => ?_⟩) (fun _ => rfl) hS ?_
              · clear h2
                go_simp
              refine wpAnyHIn_take (i := 11) (v := .int .i64 (px ps k)) rfl (by kernel_rfl) (fun _ _ _ h => h) (.inl ⟨by rfl, fun w2 h2 => ?_⟩) (fun _ => rfl) hS ?_
              · obtain ⟨e1, e2, e3, e4, e5, e6, e7⟩ := h2
                go_simp
              refine wpAnyHIn_pure (i := 12) (v := .pointer (some ⟨Bx, 0, none⟩)) rfl (by kernel_rfl) (fun _ _ _ h => h) (.inl ⟨by rfl, fun w2 h2 => ?_⟩) (fun _ => rfl) hS ?_
              · clear h2
                go_simp
              refine wpAnyHIn_take (i := 13) (v := .int .i64 x.1) rfl (by kernel_rfl) (fun _ _ _ h => h) (.inl ⟨by rfl, fun w2 h2 => ?_⟩) (fun _ => rfl) hS ?_
              · obtain ⟨e1, e2, e3, e4, e5, e6, e7⟩ := h2
                go_simp
              refine wpAnyHIn_one (i := 4) (by kernel_rfl) (wpOpIn_run rfl rfl ?_)
              refine ⟨fun _ _ => trivial, ?_⟩
              go_simp
              refine (CallsIn.inRound l (callsIn_wide.2 (mod_any _ _))).mono ?_
              rintro e w' ⟨rfl, rfl⟩
              refine ⟨fun _ => hS, ?_⟩
              have hw := wrapneg x.1
              refine wpAnyHIn_pure (i := 5) (v := .int .i64 (-(fm x.1))) rfl (by kernel_rfl) (fun _ _ _ h => h) (.inl ⟨by rfl, fun w2 h2 => ?_⟩) (fun _ => rfl) hS ?_
              · clear h2
                go_simp
              refine wpAnyHIn_one (i := 6) (by kernel_rfl) (wpOpIn_run rfl rfl ?_)
              refine ⟨fun _ _ => trivial, ?_⟩
              go_simp
              replace hS := hS.alloc (by have := g3.size; omega) (.cells #[.int .i64 t, .int .i64 (-(fm x.1))] 3)
              refine ⟨fun _ => hS, ?_⟩
              refine wpAnyHIn_one (i := 7) (by kernel_rfl) (wpOpIn_run rfl rfl ?_)
              refine ⟨fun _ _ => trivial, ?_⟩
              go_simp
              refine (CallsIn.inRound l (callsIn_wide.2 (sum2_any t (-(fm x.1)) _ _ ?_ ?_))).mono ?_
              · go_simp
              · go_simp
              rintro e w' ⟨rfl, rfl⟩
              refine ⟨fun _ => hS, ?_⟩
              refine wpAnyHIn_one (i := 8) (by kernel_rfl) (wpOpIn_run rfl rfl ?_)
              refine ⟨fun _ _ => trivial, ?_⟩
              go_simp
              refine (CallsIn.inRound l (callsIn_wide.2 (mul_any _ _ _))).mono ?_
              rintro e w' ⟨rfl, rfl⟩
              refine ⟨fun _ => hS, ?_⟩
              refine wpAnyHIn_one (i := 14) (by kernel_rfl) (wpOpIn_run rfl rfl ?_)
              refine ⟨fun _ _ => trivial, ?_⟩
              go_simp
              refine (CallsIn.inRound l (callsIn_wide.2 (mod_any _ _))).mono ?_
              rintro e w' ⟨rfl, rfl⟩
              refine ⟨fun _ => hS, ?_⟩
              refine wpAnyHIn_pure (i := 15) (v := .int .i64 (-(fm x.1))) rfl (by kernel_rfl) (fun _ _ _ h => h) (.inl ⟨by rfl, fun w2 h2 => ?_⟩) (fun _ => rfl) hS ?_
              · clear h2
                go_simp
              refine wpAnyHIn_one (i := 16) (by kernel_rfl) (wpOpIn_run rfl rfl ?_)
              refine ⟨fun _ _ => trivial, ?_⟩
              go_simp
              replace hS := hS.alloc (by have := g3.size; omega) (.cells #[.int .i64 (px ps k), .int .i64 (-(fm x.1))] 3)
              refine ⟨fun _ => hS, ?_⟩
              refine wpAnyHIn_one (i := 17) (by kernel_rfl) (wpOpIn_run rfl rfl ?_)
              refine ⟨fun _ _ => trivial, ?_⟩
              go_simp
              refine (CallsIn.inRound l (callsIn_wide.2 (sum2_any (px ps k) (-(fm x.1)) _ _ ?_ ?_))).mono ?_
              · go_simp
              · go_simp
              rintro e w' ⟨rfl, rfl⟩
              refine ⟨fun _ => hS, ?_⟩
              refine wpAnyHIn_one (i := 18) (by kernel_rfl) (wpOpIn_run rfl rfl ?_)
              refine ⟨fun _ _ => trivial, ?_⟩
              go_simp
              refine (CallsIn.inRound l (callsIn_wide.2 (mul_any _ _ _))).mono ?_
              rintro e w' ⟨rfl, rfl⟩
              refine ⟨fun _ => hS, ?_⟩
              replace hS : InS w.heap.size W.heap.size (W.heap.size + 1) (W.heap.size + 1 + 1) Bx W0.heap.size t (px ps k) x.1 (aboveF t pre (fm (py ps k))) (belowF (px ps k) pre 1) W' ((W'.alloc (.cells #[.int .i64 t, .int .i64 (-(fm x.1))] 3)).alloc (.cells #[.int .i64 (px ps k), .int .i64 (-(fm x.1))] 3)).drew := hS
              obtain ⟨e1, e2, e3, e4, e5, e6, e7⟩ := hS
              have e8 := e4.cell
              have e9 := e4.frozen
              have e10 := e5.cell
              have e11 := e5.frozen
              refine wpAnyHIn_one (i := 19) (by kernel_rfl) (wpOpIn_run rfl rfl ?_)
              refine ⟨fun _ _ => trivial, ?_⟩
              go_simp
              refine ⟨fun h => absurd (h 19 rfl) (by decide), ?_⟩
              have e15 : ((W'.alloc (.cells #[.int .i64 t, .int .i64 (-(fm x.1))] 3)).alloc (.cells #[.int .i64 (px ps k), .int .i64 (-(fm x.1))] 3)).cell? ⟨W.heap.size + 1 + 1, 0, none⟩ = some (.int .i64 (belowF (px ps k) pre 1)) := e10
              have e16 : ((W'.alloc (.cells #[.int .i64 t, .int .i64 (-(fm x.1))] 3)).alloc (.cells #[.int .i64 (px ps k), .int .i64 (-(fm x.1))] 3)).frozen? ⟨W.heap.size + 1 + 1, 0, none⟩ = false := e11
              refine wpAnyHIn_one (i := 20) (by kernel_rfl) (wpOpIn_run rfl rfl ?_)
              refine ⟨fun _ _ => trivial, ?_⟩
              go_simp
              refine ⟨fun h => absurd (h 19 rfl) (by decide), ?_⟩
              refine wpAnyHIn_done (by kernel_rfl) ?_ _
              have z1 : Kept W0.heap.size (fun b => b = W.heap.size + 1 ∨ b = W.heap.size + 1 + 1) W' _ := (e7.setCell (p := ⟨W.heap.size + 1, 0, none⟩) (.inr (.inl rfl)) (.int .i64 (fm (aboveF t pre (fm (py ps k)) * fm (t + -(fm x.1)))))).setCell (p := ⟨W.heap.size + 1 + 1, 0, none⟩) (.inr (.inr rfl)) (.int .i64 (fm (belowF (px ps k) pre 1 * fm (px ps k + -(fm x.1)))))
              exact ⟨e6.trans (((KeepsOthers.setCell _ _ _).trans (KeepsOthers.setCell _ _ _)).from _), z1, ⟨⟨by rw [aboveF_snoc]; exact (e4.set _).other (by omega) _, by rw [belowF_snoc]; exact (e5.other (by omega) _).set _⟩, g3.trans z1⟩⟩
            case done =>
              rintro D ys W' hDw rfl ⟨⟨g1, g2⟩, g3⟩ hK
              have c1 := g1.cell
              have c2 := g2.cell
              clear hB1 hB2 hB3 hB4 hc1 hc2
              gi_wp2_with (first
                | (refine ⟨trivial, ?_⟩; gi_at_call 10; refine (callsIn_wide.2 (inv_any _ _)).mono ?_; rintro e w' ⟨rfl, rfl⟩)
                | (refine ⟨trivial, ?_⟩; gi_at_call 16; refine (callsIn_wide.2 (mul_any _ _ _)).mono ?_; rintro e w' ⟨rfl, rfl⟩)
                | (refine ⟨trivial, ?_⟩; gi_at_call 26; refine (callsIn_wide.2 (sum2_new _ _ _)).mono ?_; rintro e w' ⟨rfl, rfl⟩))
              have hb' : Below w.heap.size w W' := (hB.trans (hbl.mono hBs)).trans (g3.below (by omega) (by rintro b (rfl | rfl) <;> omega))
              have hbx : Boxed W' w.heap.size 3 (.int .i64 t) := g3.boxed ((hbl.block _ hb3.lt).trans hb3) (by have := hb3.lt; omega) (by have := hb3.lt; omega)
              have hM' : Marks W' (D :: Ds) := hM.cons hbl g3 hK (by omega) (by omega) (fun b hb => by rcases hb with h | h <;> omega)
              have hD2 : ∀ D' ∈ D :: Ds, w.heap.size ≤ D' := fun D' h' => by
                rcases List.mem_cons.1 h' with rfl | h'
                · omega
                · exact hD _ h'
              exact ⟨⟨k + 1, D :: Ds, by omega, hM'.alloc _, hD2, hb'.alloc hb'.size _, hbx.alloc _, ex_frame trivial rfl⟩, by simp [intOf]; omega⟩
            case stop =>
              rintro D c pre W' _ _ h _
              exact h.elim
          · obtain rfl : k = j := by omega
            gi_wp2
            refine leaves_marks _ _ hM (fun W' hK => ?_)
            refine ⟨_, results_tmp2 (t := 4) (u := 5) rfl _ _ _, ?_⟩
            exact ⟨ret2 e1.out.1 e1.out.2, hB.trans (hK.below hB.size hD)⟩

end Go.Proofs.Ytlfgfnfcdffhpaa
