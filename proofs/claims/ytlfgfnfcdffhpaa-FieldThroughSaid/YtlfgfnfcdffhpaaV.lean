/- Appends to slices of the call's own: of ints and of points. Conditions: the lengths stay below a thousand. -/
import Derived.Test.YtlfgfnfcdffhpaaS
import Derived.Maps.AppendAt
import Derived.Deep.AppendLies
import Derived.CallsIn
namespace Go.Proofs.Ytlfgfnfcdffhpaa
open Go.RowKit
set_option linter.unusedVariables false

def iv (xs : List Int) : List Value := xs.map fun x => .int .i64 x
def pv (ps : List (Int × Int)) : List Value := ps.flatMap fun p => [.int .i64 p.1, .int .i64 p.2]
theorem iv_length (xs : List Int) : (iv xs).length = xs.length := by simp [iv]
theorem pv_length (ps : List (Int × Int)) : (pv ps).length = ps.length * 2 := by
  induction ps with
  | nil => rfl
  | cons p ps ih => simp only [pv, List.flatMap_cons, List.length_append, List.length_cons, List.length_nil] at ih ⊢; omega
theorem pv_append (ps qs : List (Int × Int)) : pv (ps ++ qs) = pv ps ++ pv qs := by simp [pv]
theorem pv_get (ps : List (Int × Int)) : ∀ j, j < ps.length → (pv ps)[j * 2]? = some (.int .i64 (px ps j)) ∧ (pv ps)[j * 2 + 1]? = some (.int .i64 (py ps j)) := by
  induction ps with
  | nil => intro j h; simp at h
  | cons p ps ih =>
    intro j h
    cases j with
    | zero => exact ⟨rfl, rfl⟩
    | succ j =>
      have := ih j (by simpa using h)
      have e1 : (j + 1) * 2 = j * 2 + 1 + 1 := by omega
      have e2 : pv (p :: ps) = .int .i64 p.1 :: .int .i64 p.2 :: pv ps := rfl
      rw [e1, e2]
      simpa [px, py] using this
theorem info3 : (Try.prog.info? 3).map (fun i => (i.zero, i.size, i.bytes)) = some (some (.int .i64 0), 1, 8) := by kernel_rfl
theorem info38 : (Try.prog.info? 38).map (fun i => (i.zero, i.size, i.bytes)) = some (some (.agg #[.int .i64 0, .int .i64 0]), 2, 16) := by kernel_rfl

theorem iv_reads {w : World} {B n : Nat} {v : Value} {xs : List Int} (h : w.ownsRow B 3 1 v n (iv xs)) : ∃ A c, v = .slice A n c ∧ RdI w A n xs := by
  have hl : xs.length = n := by have := h.1; rw [iv_length] at this; omega
  rcases Nat.eq_zero_or_pos n with h0 | h0
  · rcases h.2 with ⟨rfl, rfl⟩ | ⟨g, cap, cur, rfl, _⟩
    · exact ⟨none, 0, rfl, hl, by omega, fun j hj => by omega⟩
    · exact ⟨_, cap, rfl, hl, by omega, fun j hj => by omega⟩
  · obtain ⟨g, cap, rfl, _, _⟩ := h.form h0
    have hm : n ≤ 9223372036854775807 := by
      rcases h.2 with ⟨_, h1⟩ | ⟨g', cap', cur, he, _, _, h1, h2, _⟩
      · omega
      · unfold maxLen at h2; omega
    refine ⟨_, cap, rfl, hl, hm, fun j hj => ⟨_, rfl, h.cells (g := g) rfl j _ ?_⟩⟩
    simp [iv, List.getElem?_eq_getElem (show j < xs.length by omega), List.getD_eq_getElem?_getD]
theorem pv_reads {w : World} {B n : Nat} {v : Value} {ps : List (Int × Int)} (h : w.ownsRow B 38 2 v n (pv ps)) : ∃ A c, v = .slice A n c ∧ RdP w A n ps := by
  have hl : ps.length = n := by have := h.1; rw [pv_length] at this; omega
  rcases Nat.eq_zero_or_pos n with h0 | h0
  · rcases h.2 with ⟨rfl, rfl⟩ | ⟨g, cap, cur, rfl, _⟩
    · exact ⟨none, 0, rfl, hl, by omega, fun j hj => by omega⟩
    · exact ⟨_, cap, rfl, hl, by omega, fun j hj => by omega⟩
  · obtain ⟨g, cap, rfl, _, _⟩ := h.form h0
    have hm : n ≤ 9223372036854775807 := by
      rcases h.2 with ⟨_, h1⟩ | ⟨g', cap', cur, he, _, _, h1, h2, _⟩
      · omega
      · unfold maxLen at h2; omega
    refine ⟨_, cap, rfl, hl, hm, fun j hj => ⟨_, rfl, ?_⟩⟩
    have hg := pv_get ps j (by omega)
    have c1 := h.cells (g := g) rfl (j * 2) _ hg.1
    have c2 := h.cells (g := g) rfl (j * 2 + 1) _ hg.2
    refine ⟨c1, ?_⟩
    rw [← c2]
    congr 1
    unfold Addr.add
    rw [if_neg (show ¬ j * 2 + 1 = 0 by omega)]
    split <;> simp

theorem news_pts {W : World} {ad : Addr} {n : Nat} {qs : List (Int × Int)} (hq : RdP W (some ad) n qs) : ∀ j u, (pv qs)[j]? = some u → W.cell? (ad.add j) = some u := by
  have hlen := hq.len
  intro j u hu
  have hj : j < qs.length * 2 := by
    have := (List.getElem?_eq_some_iff.1 hu).1
    rwa [pv_length] at this
  obtain ⟨ad', e, c1, c2⟩ := hq.cell (j / 2) (by omega)
  cases e
  have hg := pv_get qs (j / 2) (by omega)
  by_cases ho : j % 2 = 0
  · have e : j / 2 * 2 = j := by omega
    rw [e] at hg c1
    rw [hg.1] at hu
    cases hu
    exact c1
  · have e : j / 2 * 2 + 1 = j := by omega
    rw [e] at hg
    rw [hg.2] at hu
    cases hu
    rw [← c2]
    congr 1
    unfold Addr.add
    rw [if_neg (show ¬ j = 0 by omega)]
    split
    all_goals
      simp
      try omega
theorem ones_pts (qs : List (Int × Int)) : ∀ u ∈ pv qs, u.oneCell' = true := by
  intro u hu
  simp only [pv, List.mem_flatMap, List.mem_cons, List.not_mem_nil, or_false] at hu
  obtain ⟨p, _, rfl | rfl⟩ := hu <;> simp [Value.oneCell']

section
variable {ops : Array Oper} {rest : List Oper} {o : Oper} {a : Act} {Q : Exit → Act → World → Prop}
/-- append(s, y) of an int: the element lies in the block that has just been made. -/
theorem app_int {W : World} (B : Nat) (hgd : o.guard = none) (s x : Operand) (ho : o.op = .call { callee := .builtin .append, args := #[s, x], argTypes := #[29, 29] })
    (v : Value) (xs : List Int) (y : Int) (p : Nat) (hs : a.eval s = v) (hx : a.eval x = .slice (some ⟨p, 0, none⟩) 1 1) (hp : p = W.heap.size)
    (HO : W.ownsRow B 3 1 v xs.length (iv xs)) (hB : B ≤ W.heap.size) (hl : xs.length ≤ 1000)
    (h : ∀ v1 w1, w1.ownsRow B 3 1 v1 (xs ++ [y]).length (iv (xs ++ [y])) → W.grownBy w1 v.ownBlock → (v1.ownBlock = v.ownBlock ∨ ∃ b, v1.ownBlock = some b ∧ W.heap.size ≤ b) → wpList Try.prog ops Q rest (a.put o.dst v1) w1) :
    wpList Try.prog ops Q (o :: rest) a (W.alloc (.cells #[.int .i64 y] 3)) := by
  subst hp
  obtain ⟨i0, hi, hz0, hz1, hz2⟩ := info_parts info3
  refine wpList_append_own_at _ hgd s x 29 ho B 3 i0 (.int .i64 0) 1 8 Try.underlying29 hi hz0 hz1 hz2 rfl (by omega) v xs.length (iv xs) hs (HO.alloc _) ⟨W.heap.size, 0, none⟩ 1 1 [.int .i64 y] hx rfl
    (World.news_of_block (cs := #[.int .i64 y]) (t := 3) (fr := (0, 0)) (heap_alloc_new W _)) (by simp [Value.oneCell']) (by unfold maxLen; omega) (by omega) (by simp; omega) ?_
  intro v1 w1 hown hg _ hat
  refine h v1 w1 (by simpa [iv] using hown) (World.grownBy.trans (World.grownBy_alloc W _ _) hg) ?_
  rcases hat with hat | hat
  · exact .inl hat
  · exact .inr ⟨_, hat, by simp⟩
/-- append(s, l...) of points that read as a list. -/
theorem app_pts {W : World} (B : Nat) (hgd : o.guard = none) (s x : Operand) (ho : o.op = .call { callee := .builtin .append, args := #[s, x], argTypes := #[30, 30] })
    (v : Value) (ps qs : List (Int × Int)) (ad : Addr) (n c : Nat) (hs : a.eval s = v) (hx : a.eval x = .slice (some ad) n c)
    (HO : W.ownsRow B 38 2 v ps.length (pv ps)) (hB : B ≤ W.heap.size) (hl : ps.length ≤ 1000) (hl2 : n ≤ 1000) (hq : RdP W (some ad) n qs)
    (h : ∀ v1 w1, w1.ownsRow B 38 2 v1 (ps ++ qs).length (pv (ps ++ qs)) → W.grownBy w1 v.ownBlock → wpList Try.prog ops Q rest (a.put o.dst v1) w1) :
    wpList Try.prog ops Q (o :: rest) a W := by
  obtain ⟨i0, hi, hz0, hz1, hz2⟩ := info_parts info38
  have hlen := hq.len
  refine wpList_append_own_at _ hgd s x 30 ho B 38 i0 (.agg #[.int .i64 0, .int .i64 0]) 2 16 Try.underlying30 hi hz0 hz1 hz2 rfl (by omega) v ps.length (pv ps) hs HO ad n c (pv qs) hx (by rw [pv_length, hlen]) ?_ ?_ (by unfold maxLen; omega) (by omega) hB ?_
  · exact news_pts hq
  · exact ones_pts qs
  · intro v1 w1 hown hg _ _
    refine h v1 w1 (by rw [List.length_append, hlen, pv_append]; exact hown) hg
end

theorem own_ge {w : World} {base n : Nat} {e : TypeId} {size : Nat} {v : Value} {xs : List Value} (h : w.ownsRow base e size v n xs) : ∀ r, v.ownBlock = some r → base ≤ r := fun r hr => by
  rcases h.2 with ⟨rfl, _⟩ | ⟨g, cap, cur, rfl, hb, _⟩
  · simp [Value.ownBlock] at hr
  · have : g = r := by simpa [Value.ownBlock] using hr
    omega
theorem own_lt {w : World} {base n : Nat} {e : TypeId} {size : Nat} {v : Value} {xs : List Value} (h : w.ownsRow base e size v n xs) : ∀ r, v.ownBlock = some r → r < w.heap.size := fun r hr => by
  rcases h.2 with ⟨rfl, _⟩ | ⟨g, cap, cur, rfl, hb, hg, _⟩
  · simp [Value.ownBlock] at hr
  · have : g = r := by simpa [Value.ownBlock] using hr
    subst this
    exact lt_of_block hg
theorem own_below {w w' : World} {base n : Nat} {e : TypeId} {size : Nat} {v : Value} {xs : List Value} (h : w.ownsRow base e size v n xs) (hb : Below w.heap.size w w') : w'.ownsRow base e size v n xs :=
  h.kept (row := none) ⟨hb.os, hb.tape, hb.output, hb.size, fun i hi _ => hb.block i hi⟩ (by cases v.ownBlock <;> simp)
/-- The run of append(s, l...) of points. -/
theorem run_app_pts {W : World} (B : Nat) (ty : TypeId) (v : Value) (ps qs : List (Int × Int)) (ad : Addr) (n c : Nat)
    (HO : W.ownsRow B 38 2 v ps.length (pv ps)) (hB : B ≤ W.heap.size) (hl : ps.length ≤ 1000) (hl2 : n ≤ 1000) (hq : RdP W (some ad) n qs) :
    ∃ v1 w1, (Builtin.append_ #[30, 30] ty #[v, .slice (some ad) n c]).run Try.prog W = .ok v1 w1 ∧ w1.ownsRow B 38 2 v1 (ps ++ qs).length (pv (ps ++ qs)) ∧ W.grownBy w1 v.ownBlock := by
  obtain ⟨i0, hi, hz0, hz1, hz2⟩ := info_parts info38
  have hlen := hq.len
  obtain ⟨v1, w1, h1, h2, h3, _⟩ := run_append_own_at (P := Try.prog) W B 30 ty 38 i0 (.agg #[.int .i64 0, .int .i64 0]) 2 16 Try.underlying30 hi hz0 hz1 hz2 rfl (by omega) v ps.length (pv ps) HO ad n c (pv qs) (by rw [pv_length, hlen]) (news_pts hq) (ones_pts qs) (by unfold maxLen; omega) (by omega) hB
  exact ⟨v1, w1, h1, by rw [List.length_append, hlen, pv_append]; exact h2, h3⟩
/-- The operation append(s, l...) of points, by itself. -/
theorem wpIn_app_pts {n' : Nat} {o : Oper} {a : Act} {K : Act → World → Prop} {Q : Exit → Act → World → Prop} {W : World} (B : Nat) (s x : Operand) (ho : o.op = .call { callee := .builtin .append, args := #[s, x], argTypes := #[30, 30] })
    (v : Value) (ps qs : List (Int × Int)) (ad : Addr) (n c : Nat) (hs : a.eval s = v) (hx : a.eval x = .slice (some ad) n c)
    (HO : W.ownsRow B 38 2 v ps.length (pv ps)) (hB : B ≤ W.heap.size) (hl : ps.length ≤ 1000) (hl2 : n ≤ 1000) (hq : RdP W (some ad) n qs)
    (h : ∀ v1 w1, w1.ownsRow B 38 2 v1 (ps ++ qs).length (pv (ps ++ qs)) → W.grownBy w1 v.ownBlock → K (a.put o.dst v1) w1) :
    Oper.wpIn Fence.wide n' Try.prog o a W K Q := by
  obtain ⟨v1, w1, hr, h1, h2⟩ := run_app_pts B o.type v ps qs ad n c HO hB hl hl2 hq
  refine ⟨fun _ _ => trivial, ?_⟩
  show o.uponIn Fence.wide n' Try.prog a K Q ((execOp a.eval o).run Try.prog W)
  unfold execOp
  simp only [ho, resolve, invoke, builtin, Sem.run_bind, Sem.run_pure, Result.andThen_ok, List.map_toArray, List.map_cons, List.map_nil, hs, hx, hr]
  exact h v1 w1 h1 h2
/-- Two slices of ints of the call's own, in different blocks. -/
structure Two (W : World) (B : Nat) (s : Value) (xs : List Int) (t : Value) (ys : List Int) : Prop where
  fst : W.ownsRow B 3 1 s xs.length (iv xs)
  snd : W.ownsRow B 3 1 t ys.length (iv ys)
  ne : s.ownBlock = none ∨ s.ownBlock ≠ t.ownBlock
theorem Two.ne' {W : World} {B : Nat} {s t : Value} {xs ys : List Int} (h : Two W B s xs t ys) : t.ownBlock = none ∨ t.ownBlock ≠ s.ownBlock := by
  rcases h.ne with h | h
  · cases ht : t.ownBlock with
    | none => exact .inl rfl
    | some b => rw [h]; exact .inr (by simp)
  · exact .inr (Ne.symm h)
theorem Two.alloc {W : World} {B : Nat} {s t : Value} {xs ys : List Int} (h : Two W B s xs t ys) (o : Obj) : Two (W.alloc o) B s xs t ys := ⟨h.fst.alloc o, h.snd.alloc o, h.ne⟩
theorem Two.appT {W w2 : World} {B : Nat} {s t t2 : Value} {xs ys ys2 : List Int} (h : Two W B s xs t ys) (h2 : w2.ownsRow B 3 1 t2 ys2.length (iv ys2)) (hg : W.grownBy w2 t.ownBlock) (hat : t2.ownBlock = t.ownBlock ∨ ∃ b, t2.ownBlock = some b ∧ W.heap.size ≤ b) : Two w2 B s xs t2 ys2 := by
  refine ⟨h.fst.kept hg h.ne, h2, ?_⟩
  rcases h.ne with hn | hn
  · exact .inl hn
  · right
    rcases hat with hat | ⟨b, hat, hb⟩
    · rw [hat]; exact hn
    · intro e
      have := own_lt h.fst b (e.trans hat)
      omega
theorem Two.appS {W w2 : World} {B : Nat} {s t s2 : Value} {xs ys xs2 : List Int} (h : Two W B s xs t ys) (h2 : w2.ownsRow B 3 1 s2 xs2.length (iv xs2)) (hg : W.grownBy w2 s.ownBlock) (hat : s2.ownBlock = s.ownBlock ∨ ∃ b, s2.ownBlock = some b ∧ W.heap.size ≤ b) : Two w2 B s2 xs2 t ys := by
  refine ⟨h2, h.snd.kept hg h.ne', ?_⟩
  rcases h.ne' with hn | hn
  · cases hs : s2.ownBlock with
    | none => exact .inl rfl
    | some b => rw [hn]; exact .inr (by simp)
  · right
    rcases hat with hat | ⟨b, hat, hb⟩
    · rw [hat]; exact Ne.symm hn
    · intro e
      have := own_lt h.snd b (e.symm.trans hat)
      omega

end Go.Proofs.Ytlfgfnfcdffhpaa
