/- The walk of the law FieldSums: true. Conditions: the slices read as lists. -/
import Derived.Test.YtlfgfnfcdffhpaaV
namespace Go.Proofs.Ytlfgfnfcdffhpaa
open Go.RowKit
set_option linter.unusedVariables false

/-- The first k numbers of the sum, as the law builds them. -/
def sumN (a b : List Int) (i : Nat) : Int := if i < b.length then fm ((if i < a.length then a.getD i 0 else 0) + b.getD i 0) else a.getD i 0
def sumK (a b : List Int) (k : Nat) : List Int := (List.range k).map (sumN a b)
def timK (n : Int) (a : List Int) (k : Nat) : List Int := (a.take k).map fun c => fm (n * c)
theorem sumK_succ (a b : List Int) (k : Nat) : sumK a b (k + 1) = sumK a b k ++ [sumN a b k] := by simp [sumK, List.range_succ]
theorem timK_succ (n : Int) (a : List Int) (k : Nat) (h : k < a.length) : timK n a (k + 1) = timK n a k ++ [fm (n * a.getD k 0)] := by
  unfold timK
  rw [List.take_succ_eq_append_getElem h, List.map_append, List.getD_eq_getElem?_getD, List.getElem?_eq_getElem h]
  rfl
theorem timK_past (n : Int) (a : List Int) (k : Nat) (h : a.length ≤ k) : timK n a (k + 1) = timK n a k := by
  unfold timK
  rw [List.take_of_length_le h, List.take_of_length_le (by omega)]
theorem sumK_all : ∀ a b : List Int, sumK a b (max a.length b.length) = sumF a b
  | [], [] => by simp [sumK, sumF]
  | [], b :: bs => by
    have ih := sumK_all [] bs
    unfold sumK at *
    simp only [List.length_nil, List.length_cons, Nat.zero_max] at *
    rw [List.range_succ_eq_map, List.map_cons, List.map_map, sumF, ← ih]
    congr 1
    apply List.map_congr_left
    intro i _
    simp [sumN]
  | x :: xs, [] => by
    have ih := sumK_all xs []
    unfold sumK at *
    simp only [List.length_nil, List.length_cons, Nat.max_zero] at *
    rw [List.range_succ_eq_map, List.map_cons, List.map_map, sumF, ← ih]
    congr 1
  | x :: xs, b :: bs => by
    have ih := sumK_all xs bs
    unfold sumK at *
    have e : max (x :: xs).length (b :: bs).length = max xs.length bs.length + 1 := by simp only [List.length_cons]; omega
    rw [e, List.range_succ_eq_map, List.map_cons, List.map_map, sumF, ← ih]
    congr 1
    apply List.map_congr_left
    intro i _
    simp [sumN]
theorem timK_all (n : Int) (a : List Int) (k : Nat) (h : a.length ≤ k) : timK n a k = a.map fun c => fm (n * c) := by
  unfold timK
  rw [List.take_of_length_le h]
theorem timK_len (n : Int) (a : List Int) (k : Nat) : (timK n a k).length ≤ a.length := by simp [timK]; omega
theorem sumK_len (a b : List Int) (k : Nat) : (sumK a b k).length = k := by simp [sumK]

set_option maxRecDepth 100000 in
set_option maxHeartbeats 2000000 in
theorem sums_walk (A : Option Addr) (n c : Nat) (a : List Int) (B : Option Addr) (m d : Nat) (b : List Int) (q t : Int) (w : World) (ha : RdI w A n a) (hb : RdI w B m b) :
    Calls Try.prog 8 #[.slice A n c, .slice B m d, .int .i64 q, .int .i64 t] w fun e w' => e = .returned (.bool true) ∧ Below w.heap.size w w' := by
  have HA := Lib.hid ha
  have HB := Lib.hid hb
  have hc1 := ha.cap
  have hc2 := hb.cap
  clear ha hb
  by_cases hn100 : 100 < n
  · go_enter Try.func8, Try.ntmps8
    go_wp2_with fail
    refine (sane_any _).mono ?_
    rintro e w1 ⟨rfl, hb1⟩
    go_wp2
    go_ret
    exact ⟨rfl, hb1⟩
  by_cases hm100 : 100 < m
  · go_enter Try.func8, Try.ntmps8
    go_wp2_with fail
    refine (sane_any _).mono ?_
    rintro e w1 ⟨rfl, hb1⟩
    go_wp2
    go_ret
    exact ⟨rfl, hb1⟩
  by_cases hle : n < m
  · go_enter Try.func8, Try.ntmps8
    go_wp2_with fail
    refine (sane_any _).mono ?_
    rintro e w1 ⟨rfl, hb1⟩
    go_wp2
    go_loopw [9, 10, 11, 12, 28] (fun s tm _ _ i wr => ∃ (k : Nat), k ≤ m ∧ i = .int .i64 k ∧ Two wr w1.heap.size s (sumK a b k) tm (timK q a k) ∧ Below w1.heap.size w1 wr) (fun _ _ _ _ i _ => m - (intOf i).toNat)
    case atStart => exact ⟨0, by omega, rfl, ⟨World.ownsRow_nil _ _ _ _, World.ownsRow_nil _ _ _ _, .inl rfl⟩, Below.refl _ _⟩
    case round =>
      obtain ⟨k, hk, rfl, h2, hB⟩ := hrel
      by_cases hlt : k < m
      · have hl1 : (timK q a k).length ≤ 1000 := by have := timK_len q a k; have := HA.out.len; omega
        have hl2 : (sumK a b k).length ≤ 1000 := by rw [sumK_len]; omega
        have hss := Lib.hid (sumK_succ a b k)
        by_cases hka : k < n
        · obtain ⟨ad, e1, hca⟩ := ((HA.out.below hb1).below hB).cell k hka
          cases e1
          have hts := Lib.hid (timK_succ q a k (by rw [HA.out.len]; exact hka))
          by_cases hkb : k < m
          · obtain ⟨ad2, e2, _⟩ := (HB.out.below hb1).cell k hkb
            cases e2
            have hcb : ∀ W', Below w1.heap.size w1 W' → W'.cell? (ad2.add k) = some (.int .i64 (b.getD k 0)) := fun W' h => by
              obtain ⟨ad3, e3, h3⟩ := ((HB.out.below hb1).below h).cell k hkb
              cases e3
              exact h3
            have hsn : Hid (sumN a b k = fm (a.getD k 0 + b.getD k 0)) := Lib.hid (by simp only [sumN, HA.out.len, HB.out.len, hka, hkb, if_true])
            go_wp2_with (first
              | (go_at_call 16; refine (mul_any _ _ _).mono ?_; rintro e w' ⟨rfl, rfl⟩)
              | (go_at_call 14; refine (add_any _ _ _).mono ?_; rintro e w' ⟨rfl, rfl⟩)
              | (at_builtin; refine app_int w1.heap.size rfl (.tmp 39) (.tmp 46) rfl _ (timK q a k) _ _ rfl rfl (by simp) h2.snd hB.size hl1 ?_; intro v1 w2 hT2 hg2 hat2; have h3 := h2.appT hT2 hg2 hat2; have hB2 := hB.grown hg2 hB.size (own_ge h2.snd); have hcb2 := hcb w2 hB2)
              | (at_builtin; refine app_int w1.heap.size rfl (.tmp 58) (.tmp 60) rfl _ (sumK a b k) _ _ rfl rfl (by simp) (h3.alloc _).fst (by have := hB2.size; simp; omega) hl2 ?_; intro v3 w3 hS3 hg3 hat3; have h4 := (h3.alloc _).appS hS3 hg3 hat3; have hB3 := (hB2.alloc hB2.size _).grown hg3 (by have := hB2.size; simp; omega) (own_ge h3.fst)))
            go_roundw
            case rel => exact ⟨k + 1, by omega, by go_num, by rw [hss.out, hts.out, hsn.out]; simpa only [List.getD_eq_getElem?_getD, Int.zero_add] using h4, hB3⟩
            case measure => simp [intOf]; omega
          · omega
        · have hts : Hid (timK q a (k + 1) = timK q a k) := Lib.hid (timK_past q a k (by rw [HA.out.len]; omega))
          have hkb : k < m := hlt
          obtain ⟨ad2, e2, hcb⟩ := ((HB.out.below hb1).below hB).cell k hkb
          cases e2
          have hsn : Hid (sumN a b k = fm (0 + b.getD k 0)) := Lib.hid (by simp only [sumN, HA.out.len, HB.out.len, hka, hkb, if_true, if_false])
          go_wp2_with (first
            | (go_at_call 14; refine (add_any _ _ _).mono ?_; rintro e w' ⟨rfl, rfl⟩)
            | (at_builtin; refine app_int w1.heap.size rfl (.tmp 58) (.tmp 60) rfl _ (sumK a b k) _ _ rfl rfl (by simp) (h2.alloc _).fst (by have := hB.size; simp; omega) hl2 ?_; intro v3 w3 hS3 hg3 hat3; have h4 := (h2.alloc _).appS hS3 hg3 hat3; have hB3 := (hB.alloc hB.size _).grown hg3 (by have := hB.size; simp; omega) (own_ge h2.fst)))
          go_roundw
          case rel => exact ⟨k + 1, by omega, by go_num, by rw [hss.out, hts.out, hsn.out]; simpa only [List.getD_eq_getElem?_getD, Int.zero_add] using h4, hB3⟩
          case measure => simp [intOf]; omega

      · obtain rfl : k = m := by omega
        obtain ⟨As, cs, es, hrs⟩ := iv_reads h2.fst
        obtain ⟨At, ct, et, hrt⟩ := iv_reads h2.snd
        subst es
        subst et
        have hval1 : valL t (sumK a b k) 0 1 = fm (valL t a 0 1 + valL t b 0 1) := by
          have e : k = max a.length b.length := by have := HA.out.len; have := HB.out.len; omega
          rw [e, sumK_all, sums_ok]
        have hval2 : valL t (timK q a k) 0 1 = fm (q * valL t a 0 1) := by
          rw [timK_all q a k (by have := HA.out.len; omega), times_ok]
        have hb2 := hb1.trans (hB.mono hb1.size)
        clear h2
        go_wp2_with fail
        refine (value_at _ _ _ _ t _ hval1 _ hrs).mono ?_
        rintro e w2 ⟨rfl, hd2⟩
        have hb3 := hb2.trans (hd2.mono hb2.size)
        go_wp2_with fail
        refine (value_any _ _ _ _ t _ (HA.out.below hb3)).mono ?_
        rintro e w3 ⟨rfl, hd3⟩
        have hb4 := hb3.trans (hd3.mono hb3.size)
        go_wp2_with fail
        refine (value_any _ _ _ _ t _ (HB.out.below hb4)).mono ?_
        rintro e w4 ⟨rfl, hd4⟩
        have hb5 := hb4.trans (hd4.mono hb4.size)
        go_wp2_with fail
        refine (add_any _ _ _).mono ?_
        rintro e w' ⟨rfl, rfl⟩
        have hrt2 := ((((hrt.below hd2).below hd3).below hd4).below ((Below.refl w4.heap.size w4).alloc (Nat.le_refl _) (.cells #[.int .i64 (valL t a 0 1), .int .i64 (valL t b 0 1)] 3)))
        have hb6 := hb5.alloc hb5.size (.cells #[.int .i64 (valL t a 0 1), .int .i64 (valL t b 0 1)] 3)
        go_wp2_with fail
        refine (value_at _ _ _ _ t _ hval2 _ hrt2).mono ?_
        rintro e w5 ⟨rfl, hd5⟩
        have hb7 := hb6.trans (hd5.mono hb6.size)
        go_wp2_with fail
        refine (value_any _ _ _ _ t _ (HA.out.below hb7)).mono ?_
        rintro e w6 ⟨rfl, hd6⟩
        have hb8 := hb7.trans (hd6.mono hb7.size)
        go_wp2_with fail
        refine (mul_any _ _ _).mono ?_
        rintro e w' ⟨rfl, rfl⟩
        go_wp2
        go_ret
        exact ⟨rfl, hb8⟩
  · go_enter Try.func8, Try.ntmps8
    go_wp2_with fail
    refine (sane_any _).mono ?_
    rintro e w1 ⟨rfl, hb1⟩
    go_wp2
    go_loopw [9, 10, 11, 12, 28] (fun s tm _ _ i wr => ∃ (k : Nat), k ≤ n ∧ i = .int .i64 k ∧ Two wr w1.heap.size s (sumK a b k) tm (timK q a k) ∧ Below w1.heap.size w1 wr) (fun _ _ _ _ i _ => n - (intOf i).toNat)
    case atStart => exact ⟨0, by omega, rfl, ⟨World.ownsRow_nil _ _ _ _, World.ownsRow_nil _ _ _ _, .inl rfl⟩, Below.refl _ _⟩
    case round =>
      obtain ⟨k, hk, rfl, h2, hB⟩ := hrel
      by_cases hlt : k < n
      · have hl1 : (timK q a k).length ≤ 1000 := by have := timK_len q a k; have := HA.out.len; omega
        have hl2 : (sumK a b k).length ≤ 1000 := by rw [sumK_len]; omega
        have hss := Lib.hid (sumK_succ a b k)
        by_cases hka : k < n
        · obtain ⟨ad, e1, hca⟩ := ((HA.out.below hb1).below hB).cell k hka
          cases e1
          have hts := Lib.hid (timK_succ q a k (by rw [HA.out.len]; exact hka))
          by_cases hkb : k < m
          · obtain ⟨ad2, e2, _⟩ := (HB.out.below hb1).cell k hkb
            cases e2
            have hcb : ∀ W', Below w1.heap.size w1 W' → W'.cell? (ad2.add k) = some (.int .i64 (b.getD k 0)) := fun W' h => by
              obtain ⟨ad3, e3, h3⟩ := ((HB.out.below hb1).below h).cell k hkb
              cases e3
              exact h3
            have hsn : Hid (sumN a b k = fm (a.getD k 0 + b.getD k 0)) := Lib.hid (by simp only [sumN, HA.out.len, HB.out.len, hka, hkb, if_true])
            go_wp2_with (first
              | (go_at_call 16; refine (mul_any _ _ _).mono ?_; rintro e w' ⟨rfl, rfl⟩)
              | (go_at_call 14; refine (add_any _ _ _).mono ?_; rintro e w' ⟨rfl, rfl⟩)
              | (at_builtin; refine app_int w1.heap.size rfl (.tmp 39) (.tmp 46) rfl _ (timK q a k) _ _ rfl rfl (by simp) h2.snd hB.size hl1 ?_; intro v1 w2 hT2 hg2 hat2; have h3 := h2.appT hT2 hg2 hat2; have hB2 := hB.grown hg2 hB.size (own_ge h2.snd); have hcb2 := hcb w2 hB2)
              | (at_builtin; refine app_int w1.heap.size rfl (.tmp 58) (.tmp 60) rfl _ (sumK a b k) _ _ rfl rfl (by simp) (h3.alloc _).fst (by have := hB2.size; simp; omega) hl2 ?_; intro v3 w3 hS3 hg3 hat3; have h4 := (h3.alloc _).appS hS3 hg3 hat3; have hB3 := (hB2.alloc hB2.size _).grown hg3 (by have := hB2.size; simp; omega) (own_ge h3.fst)))
            go_roundw
            case rel => exact ⟨k + 1, by omega, by go_num, by rw [hss.out, hts.out, hsn.out]; simpa only [List.getD_eq_getElem?_getD, Int.zero_add] using h4, hB3⟩
            case measure => simp [intOf]; omega
          · have hsn : Hid (sumN a b k = a.getD k 0) := Lib.hid (by simp only [sumN, HB.out.len, hkb, if_false])
            have hcb : ∀ W', Below w1.heap.size w1 W' → True := fun _ _ => trivial
            go_wp2_with (first
              | (go_at_call 16; refine (mul_any _ _ _).mono ?_; rintro e w' ⟨rfl, rfl⟩)
              | (at_builtin; refine app_int w1.heap.size rfl (.tmp 39) (.tmp 46) rfl _ (timK q a k) _ _ rfl rfl (by simp) h2.snd hB.size hl1 ?_; intro v1 w2 hT2 hg2 hat2; have h3 := h2.appT hT2 hg2 hat2; have hB2 := hB.grown hg2 hB.size (own_ge h2.snd); have hcb2 := hcb w2 hB2)
              | (at_builtin; refine app_int w1.heap.size rfl (.tmp 58) (.tmp 60) rfl _ (sumK a b k) _ _ rfl rfl (by simp) (h3).fst hB2.size hl2 ?_; intro v3 w3 hS3 hg3 hat3; have h4 := (h3).appS hS3 hg3 hat3; have hB3 := (hB2).grown hg3 hB2.size (own_ge h3.fst)))
            go_roundw
            case rel => exact ⟨k + 1, by omega, by go_num, by rw [hss.out, hts.out, hsn.out]; simpa only [List.getD_eq_getElem?_getD, Int.zero_add] using h4, hB3⟩
            case measure => simp [intOf]; omega

        · omega
      · obtain rfl : k = n := by omega
        obtain ⟨As, cs, es, hrs⟩ := iv_reads h2.fst
        obtain ⟨At, ct, et, hrt⟩ := iv_reads h2.snd
        subst es
        subst et
        have hval1 : valL t (sumK a b k) 0 1 = fm (valL t a 0 1 + valL t b 0 1) := by
          have e : k = max a.length b.length := by have := HA.out.len; have := HB.out.len; omega
          rw [e, sumK_all, sums_ok]
        have hval2 : valL t (timK q a k) 0 1 = fm (q * valL t a 0 1) := by
          rw [timK_all q a k (by have := HA.out.len; omega), times_ok]
        have hb2 := hb1.trans (hB.mono hb1.size)
        clear h2
        go_wp2_with fail
        refine (value_at _ _ _ _ t _ hval1 _ hrs).mono ?_
        rintro e w2 ⟨rfl, hd2⟩
        have hb3 := hb2.trans (hd2.mono hb2.size)
        go_wp2_with fail
        refine (value_any _ _ _ _ t _ (HA.out.below hb3)).mono ?_
        rintro e w3 ⟨rfl, hd3⟩
        have hb4 := hb3.trans (hd3.mono hb3.size)
        go_wp2_with fail
        refine (value_any _ _ _ _ t _ (HB.out.below hb4)).mono ?_
        rintro e w4 ⟨rfl, hd4⟩
        have hb5 := hb4.trans (hd4.mono hb4.size)
        go_wp2_with fail
        refine (add_any _ _ _).mono ?_
        rintro e w' ⟨rfl, rfl⟩
        have hrt2 := ((((hrt.below hd2).below hd3).below hd4).below ((Below.refl w4.heap.size w4).alloc (Nat.le_refl _) (.cells #[.int .i64 (valL t a 0 1), .int .i64 (valL t b 0 1)] 3)))
        have hb6 := hb5.alloc hb5.size (.cells #[.int .i64 (valL t a 0 1), .int .i64 (valL t b 0 1)] 3)
        go_wp2_with fail
        refine (value_at _ _ _ _ t _ hval2 _ hrt2).mono ?_
        rintro e w5 ⟨rfl, hd5⟩
        have hb7 := hb6.trans (hd5.mono hb6.size)
        go_wp2_with fail
        refine (value_any _ _ _ _ t _ (HA.out.below hb7)).mono ?_
        rintro e w6 ⟨rfl, hd6⟩
        have hb8 := hb7.trans (hd6.mono hb7.size)
        go_wp2_with fail
        refine (mul_any _ _ _).mono ?_
        rintro e w' ⟨rfl, rfl⟩
        go_wp2
        go_ret
        exact ⟨rfl, hb8⟩

end Go.Proofs.Ytlfgfnfcdffhpaa
