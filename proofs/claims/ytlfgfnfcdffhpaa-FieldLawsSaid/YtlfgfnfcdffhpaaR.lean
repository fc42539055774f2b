/- A region that draws its order, inside a round of a loop over an iterator: an operation that yields its value in every world of a kind may be taken first. Plain facts on the calculus, no program. -/
import Derived.OrdersIn
import Derived.OrdersHeld
import Derived.Deep.Draws
namespace Go.Proofs.Ytlfgfnfcdffhpaa

section
variable {F : Fence} {n : Nat} {P : Program} {ops : Array Oper} {Q : Exit → Act → World → Prop} {md : Region.Mode} {S : World → Prop} {T : Nat → Bool}

/-- It yields v in every world that meets S; it makes no call in whatever world; it is no defer. -/
def YieldsFIf (P : Program) (ops : Array Oper) (S : World → Prop) (o : Oper) (v : Value) (a : Act) : Prop :=
  YieldsIf P ops S o v a ∧ (∀ w, o.about P w a.eval = none) ∧ ∀ c, o.op ≠ .defer c

theorem YieldsFIf.wpOpIn {i : Nat} {o : Oper} {v : Value} {a : Act} (hi : ops[i]? = some o) (hy : YieldsFIf P ops S o v a)
    {K : Act → World → Prop} {w : World} (hS : S w) (h : K (a.put o.dst v) w) : wpOpIn F n P ops Q i K a w := by
  unfold Go.wpOpIn
  simp only [hi]
  have hab : ∀ f, o.about P w a.eval = some f → F.fn f := fun f hf => by rw [hy.2.1 w] at hf; cases hf
  rcases hy.1 with ⟨hw, hv⟩ | ⟨hw, rfl⟩
  · simp only [hw, if_true, Oper.wpIn, Oper.semAt_eq _ _ _ hy.2.2, hv w hS, Oper.uponIn]; exact ⟨hab, h⟩
  · simp only [hw, Bool.false_eq_true, if_false]; exact ⟨hab, h⟩

theorem YieldsFIf.of_same {o : Oper} {v : Value} {a a' : Act} (hy : YieldsFIf P ops S o v a) (he : execOp a'.eval o = execOp a.eval o)
    (hw : Region.wanted o (yielded ops a'.tmps) = Region.wanted o (yielded ops a.tmps)) (hb : ∀ w, o.about P w a'.eval = o.about P w a.eval) : YieldsFIf P ops S o v a' :=
  ⟨hy.1.of_same he hw, fun w => by rw [hb w]; exact hy.2.1 w, hy.2.2⟩

theorem wpOpIn_putIf {j : Nat} {oi oj : Oper} {v : Value} (hj : ops[j]? = some oj) (hap : oi.apart ops oj = true) (hdj : ∀ c, oj.op ≠ .defer c)
    (hsi : ∀ cs b, oi.op ≠ .select cs b) (hsj : ∀ cs b, oj.op ≠ .select cs b)
    (hQ : ∀ c a w, Q (.panic c) (a.put oi.dst v) w → Q (.panic c) a w) {K : Act → World → Prop} {a : Act} {w : World}
    (hy : YieldsFIf P ops S oi v a) (h : wpOpIn F n P ops Q j K (a.put oi.dst v) w) :
    wpOpIn F n P ops Q j (fun a' w' => YieldsFIf P ops S oi v a' ∧ K (a'.put oi.dst v) w') a w := by
  obtain ⟨h1, h2, h3⟩ := Oper.apart_spec hap
  have keep : ∀ (a : Act), YieldsFIf P ops S oi v a → ∀ u, YieldsFIf P ops S oi v (a.put oj.dst u) := fun a hy u =>
    hy.of_same (execOp_put oi hsi a oj.dst u h3) (wanted_put oi a oj.dst u h3) (fun w => about_put oi w a oj.dst u h3)
  have keepD : ∀ d, YieldsFIf P ops S oi v { a with defers := d :: a.defers } := fun d => hy.of_same rfl rfl (fun _ => rfl)
  unfold wpOpIn at *
  simp only [hj] at *
  rw [wanted_put oj a oi.dst v h1, about_put oj w a oi.dst v h1] at h
  split
  · rename_i hw
    simp only [hw, if_true] at h
    unfold Oper.wpIn at *
    rw [about_put oj w a oi.dst v h1] at h
    refine ⟨h.1, ?_⟩
    have h := h.2
    rw [Oper.semAt_eq _ _ _ hdj, execOp_put oj hsj a oi.dst v h1] at h
    rw [Oper.semAt_eq _ _ _ hdj]
    generalize (execOp a.eval oj).run P w = r at *
    cases r with
    | ok x w' =>
      cases x <;> simp only [Oper.uponIn] at h ⊢
      case value u => exact ⟨keep a hy u, by rw [← Act.put_comm a v u h2]; exact h⟩
      case skip => exact ⟨keep a hy _, by rw [← Act.put_comm a v undef h2]; exact h⟩
      case defer d =>
        refine ⟨keep _ (keepD d) _, ?_⟩
        rw [← Act.put_comm _ v undef h2, ← Act.put_defers]
        exact h
      case enter f args =>
        refine ⟨h.1, CallsIn.mono h.2 fun e w'' he => ?_⟩
        cases e with
        | returned u => exact ⟨keep a hy u, by rw [← Act.put_comm a v u h2]; exact he⟩
        | panicked c => exact hQ _ _ _ he
        | outgrown => exact he
      case row row args => exact ⟨h.1, RowsIn.mono h.2 fun u w'' he => ⟨keep a hy u, by rw [← Act.put_comm a v u h2]; exact he⟩⟩
      case round l f tmps assign body =>
        refine ⟨h.1, RoundIn.mono h.2 fun e w'' he => ?_⟩
        cases e with
        | returned u => exact ⟨keep a hy u, by rw [← Act.put_comm a v u h2]; exact he⟩
        | panicked c => exact hQ _ _ _ he
        | outgrown => exact he
    | halt x w' =>
      cases x <;> simp only [Oper.uponIn] at h ⊢
      case panic u => exact hQ _ _ _ h
  · rename_i hw
    simp only [hw] at h
    exact ⟨h.1, keep a hy _, by rw [← Act.put_comm a v undef h2]; exact h.2⟩

/-- No operation of the tail T has come up. -/
def NoTail (T : Nat → Bool) (listed : Array Bool) : Prop := ∀ t, T t = true → listed.getD t false = false
def noTailB (T : Nat → Bool) (listed : Array Bool) : Bool := (List.range listed.size).all fun t => !T t || !listed.getD t false
theorem cleanB_spec {listed : Array Bool} (h : noTailB T listed = true) : NoTail T listed := fun t ht => by
  rcases Nat.lt_or_ge t listed.size with hlt | hge
  · have := List.all_eq_true.1 h t (by simpa using hlt)
    rw [ht] at this
    simpa using this
  · simp [Array.getD, Nat.not_lt.2 hge]
theorem NoTail.of_set {listed : Array Bool} {i : Nat} (h : NoTail T (listed.setIfInBounds i true)) : NoTail T listed := fun t ht => by
  have := h t ht
  by_cases e : i = t
  · subst e
    rcases Nat.lt_or_ge i listed.size with hlt | hge
    · simp [Array.getD, hlt] at this
    · simp [Array.getD, Nat.not_lt.2 hge]
  · rw [getD_set_ne false e] at this; exact this
theorem NoTail.set {listed : Array Bool} {i : Nat} (hi : T i = false) (h : NoTail T listed) : NoTail T (listed.setIfInBounds i true) := fun t ht => by
  have e : i ≠ t := fun e => by rw [e, ht] at hi; cases hi
  rw [getD_set_ne false e]
  exact h t ht

/-- Whatever order is picked from here on, and S holds behind every operation that is carried out, as long as none of the tail T has come up. -/
def wpAnyHIn (F : Fence) (n : Nat) (P : Program) (md : Region.Mode) (ops : Array Oper) (Q : Exit → Act → World → Prop) (S : World → Prop) (T : Nat → Bool) : Nat → Array Bool → Act → World → Prop
  | 0, listed, a, w => Region.ready md ops listed = [] ∧ Q .normal a w
  | fuel + 1, listed, a, w =>
    (Region.ready md ops listed = [] → Q .normal a w) ∧
    ∀ i ∈ Region.ready md ops listed, wpOpIn F n P ops Q i (fun a' w' => (NoTail T (listed.setIfInBounds i true) → S w') ∧ wpAnyHIn F n P md ops Q S T fuel (listed.setIfInBounds i true) a' w') a w

theorem wpAnyIn_of_held : ∀ (fuel : Nat) (listed : Array Bool) (a : Act) (w : World), wpAnyHIn F n P md ops Q S T fuel listed a w → wpAnyIn F n P md ops Q fuel listed a w
  | 0, _, _, _, h => h
  | fuel + 1, _, _, _, h => ⟨h.1, fun i hi => wpOpIn_mono (fun a' w' h' => wpAnyIn_of_held fuel _ a' w' h'.2) (h.2 i hi)⟩

/-- What a listed operation waits for is listed. -/
def DepsIn (md : Region.Mode) (ops : Array Oper) (listed : Array Bool) : Prop :=
  ∀ (m : Nat) (om : Oper), ops[m]? = some om → listed.getD m false = true → ∀ e ∈ om.after, Region.binds md e = true → listed.getD e.on false = true
def depsInB (md : Region.Mode) (ops : Array Oper) (listed : Array Bool) : Bool :=
  (List.range ops.size).all fun m => match ops[m]? with | some om => !listed.getD m false || om.after.all fun e => !Region.binds md e || listed.getD e.on false | none => true
theorem depsInB_spec {listed : Array Bool} (h : depsInB md ops listed = true) : DepsIn md ops listed := fun m om hm hl e he hb => by
  obtain ⟨hlt, _⟩ := Array.getElem?_eq_some_iff.1 hm
  have := List.all_eq_true.1 h m (by simpa using hlt)
  rw [hm] at this
  simp only [hl, Bool.not_true, Bool.false_or, Array.all_eq_true'] at this
  have h2 := this e he
  rw [hb] at h2
  simpa using h2
/-- Number t waits for number i, by however many steps. -/
def reach (md : Region.Mode) (ops : Array Oper) (i : Nat) : Nat → Nat → Bool
  | 0, _ => false
  | fuel + 1, t => match ops[t]? with | some o => o.after.any fun e => Region.binds md e && (e.on == i || reach md ops i fuel e.on) | none => false
theorem reach_spec {listed : Array Bool} {i : Nat} (hC : DepsIn md ops listed) : ∀ (fuel t : Nat) (ot : Oper), reach md ops i fuel t = true → ops[t]? = some ot → (∀ e ∈ ot.after, Region.binds md e = true → listed.getD e.on false = true) → listed.getD i false = true
  | 0, _, _, h, _, _ => by simp [reach] at h
  | fuel + 1, t, ot, h, ht, hd => by
    simp only [reach, ht, Array.any_eq_true', Bool.and_eq_true, Bool.or_eq_true, beq_iff_eq] at h
    obtain ⟨e, he, hb, h⟩ := h
    have hl := hd e he hb
    rcases h with h | h
    · rw [← h]; exact hl
    · cases ho : ops[e.on]? with
      | none =>
        cases fuel with
        | zero => simp [reach] at h
        | succ fuel => simp [reach, ho] at h
      | some oe => exact reach_spec hC fuel e.on oe h ho (hC e.on oe ho hl)

theorem wpAnyHIn_first {S' : World → Prop} (hSS : ∀ w, S w → S' w) {i : Nat} {oi : Oper} {v : Value} (hi : ops[i]? = some oi) (hTi : T i = false) (hdf : ∀ (j : Nat) (o : Oper) c, ops[j]? = some o → o.op ≠ .defer c) (hsel : ∀ (j : Nat) (o : Oper) cs b, ops[j]? = some o → o.op ≠ .select cs b)
    (hQ : ∀ c a w, Q (.panic c) (a.put oi.dst v) w → Q (.panic c) a w) :
    ∀ (fuel : Nat) (listed : Array Bool) (a : Act) (w : World),
      (∀ j oj, ops[j]? = some oj → j ≠ i → listed.getD j true = false → (∀ e ∈ oj.after, Region.binds md e = true → e.on ≠ i) → oi.apart ops oj = true) →
      ((∀ w, S' w) ∨ (NoTail T listed ∧ DepsIn md ops listed ∧ ∀ j, j < ops.size → T j = true → reach md ops i ops.size j = true)) →
      i ∈ Region.ready md ops listed → YieldsFIf P ops S' oi v a → (NoTail T listed → S w) →
      wpAnyHIn F n P md ops Q S T fuel (listed.setIfInBounds i true) (a.put oi.dst v) w → wpAnyHIn F n P md ops Q S T (fuel + 1) listed a w := by
  intro fuel
  induction fuel with
  | zero =>
    intro listed a w _ hT hr hy hS H
    refine ⟨fun h => (by rw [h] at hr; cases hr), fun j hj => ?_⟩
    by_cases hji : j = i
    · subst hji; exact hy.wpOpIn hi (hT.elim (fun h => h w) (fun h => hSS w (hS h.1))) ⟨fun h => hS h.of_set, H⟩
    · have := ready_mono hj hji
      rw [H.1] at this
      cases this
  | succ fuel ih =>
    intro listed a w hfree hT hr hy hS H
    refine ⟨fun h => (by rw [h] at hr; cases hr), fun j hj => ?_⟩
    by_cases hji : j = i
    · subst hji; exact hy.wpOpIn hi (hT.elim (fun h => h w) (fun h => hSS w (hS h.1))) ⟨fun h => hS h.of_set, H⟩
    · have h1 := H.2 j (ready_mono hj hji)
      obtain ⟨hjun, oj, hoj, hall⟩ := mem_ready.1 hj
      have hnot : ∀ e ∈ oj.after, Region.binds md e = true → e.on ≠ i := fun e he hb heq => by
        have h1 := hall e he hb
        have h0 := (mem_ready.1 hr).1
        rw [heq] at h1
        rcases Nat.lt_or_ge i listed.size with h' | h'
        · simp [h'] at h0 h1; rw [h0] at h1; cases h1
        · simp [Array.getElem?_eq_none h'] at h1
      have h2 := wpOpIn_putIf hoj (hfree j oj hoj hji hjun hnot) (fun c => hdf j oj c hoj) (fun cs b => hsel i oi cs b hi) (fun cs b => hsel j oj cs b hoj) hQ hy h1
      have hfree' : ∀ k ok, ops[k]? = some ok → k ≠ i → (listed.setIfInBounds j true).getD k true = false →
          (∀ e ∈ ok.after, Region.binds md e = true → e.on ≠ i) → oi.apart ops ok = true := fun k ok hk hki hun hno => by
        refine hfree k ok hk hki ?_ hno
        by_cases hjk : j = k
        · subst hjk; exact hjun
        · rw [getD_set_ne true hjk] at hun; exact hun
      have hun : listed.getD i false = false := by
        have := (mem_ready.1 hr).1
        rcases Nat.lt_or_ge i listed.size with h' | h'
        · simpa [Array.getD, h'] using this
        · simp [Array.getD, Nat.not_lt.2 h']
      have hdj : ∀ e ∈ oj.after, Region.binds md e = true → listed.getD e.on false = true := hall
      have hT' : (∀ w, S' w) ∨ (NoTail T (listed.setIfInBounds j true) ∧ DepsIn md ops (listed.setIfInBounds j true) ∧ ∀ j, j < ops.size → T j = true → reach md ops i ops.size j = true) := by
        rcases hT with hT | ⟨hc, hC, hT⟩
        · exact .inl hT
        · refine .inr ⟨hc.set ?_, ?_, hT⟩
          · cases ht : T j with
            | false => rfl
            | true =>
              have := reach_spec hC ops.size j oj (hT j (Array.getElem?_eq_some_iff.1 hoj).1 ht) hoj hdj
              rw [hun] at this
              cases this
          · intro m om hm hl e he hb
            have up : ∀ x, listed.getD x false = true → (listed.setIfInBounds j true).getD x false = true := fun x hx => by
              by_cases ex : j = x
              · subst ex
                rcases Nat.lt_or_ge j listed.size with h' | h'
                · simp [Array.getD, h']
                · simp [Array.getD, Nat.not_lt.2 h'] at hx
              · rw [getD_set_ne false ex]; exact hx
            by_cases em : j = m
            · subst em
              rw [hoj] at hm
              cases hm
              exact up _ (hdj e he hb)
            · rw [getD_set_ne false em] at hl
              exact up _ (hC m om hm hl e he hb)
      have hcm : (listed.setIfInBounds i true).setIfInBounds j true = (listed.setIfInBounds j true).setIfInBounds i true := Array.setIfInBounds_comm _ _ (Ne.symm hji)
      rw [hcm] at h2
      exact wpOpIn_mono (fun a' w' h3 => ⟨fun hc => h3.2.1 (hc.set hTi), ih (listed.setIfInBounds j true) a' w' hfree' hT' (ready_mono hr (Ne.symm hji)) h3.1 (fun hc => h3.2.1 (hc.set hTi)) h3.2.2⟩) h2

/-- No operation is a defer statement. -/
def noDefer (ops : Array Oper) : Bool := ops.all fun o => match o.op with | .defer _ => false | _ => true
theorem noDefer_spec (h : noDefer ops = true) (j : Nat) (o : Oper) (c : Call) (hj : ops[j]? = some o) : o.op ≠ .defer c := by
  intro e
  obtain ⟨hlt, ho⟩ := Array.getElem?_eq_some_iff.1 hj
  have := Array.all_eq_true.1 h j hlt
  rw [ho, e] at this
  simp at this

/-- Every operation of the tail waits for number i. -/
def tailAfter (md : Region.Mode) (ops : Array Oper) (T : Nat → Bool) (i : Nat) : Bool :=
  (List.range ops.size).all fun j => !T j || reach md ops i ops.size j
theorem tailAfter_spec {i : Nat} (h : tailAfter md ops T i = true) (j : Nat) (hj : j < ops.size) (ht : T j = true) : reach md ops i ops.size j = true := by
  have := List.all_eq_true.1 h j (by simpa using hj)
  rw [ht] at this
  simpa using this

/-- Take number i first: what it yields hangs on the world. -/
theorem wpAnyHIn_take {i : Nat} {oi : Oper} {v : Value} {fuel : Nat} {listed : Array Bool} {a : Act} {w : World} (hi : ops[i]? = some oi)
    (hk : (!T i && noDefer ops && Region.noSelect ops && Region.free md ops listed i && tailAfter md ops T i && noTailB T listed && depsInB md ops listed && (Region.ready md ops listed).contains i) = true)
    (hQ : ∀ c a w, Q (.panic c) (a.put oi.dst v) w → Q (.panic c) a w) (hy : YieldsIf P ops S oi v a) (hab : ∀ w, oi.about P w a.eval = none) (hS : S w)
    (h : wpAnyHIn F n P md ops Q S T fuel (listed.setIfInBounds i true) (a.put oi.dst v) w) : wpAnyHIn F n P md ops Q S T (fuel + 1) listed a w := by
  simp only [Bool.and_eq_true, Bool.not_eq_true'] at hk
  obtain ⟨⟨⟨⟨⟨⟨⟨h1, h2⟩, h3⟩, h4⟩, h5⟩, h6⟩, h8⟩, h7⟩ := hk
  exact wpAnyHIn_first (fun _ h => h) hi h1 (noDefer_spec h2) (Region.noSelect_spec h3) hQ fuel listed a w (Region.free_spec hi h4) (.inr ⟨cleanB_spec h6, depsInB_spec h8, tailAfter_spec h5⟩) (by simpa using h7) ⟨hy, hab, fun c => noDefer_spec h2 i oi c hi⟩ (fun _ => hS) h
/-- Take number i first: it yields the same in whatever world. -/
theorem wpAnyHIn_pure {i : Nat} {oi : Oper} {v : Value} {fuel : Nat} {listed : Array Bool} {a : Act} {w : World} (hi : ops[i]? = some oi)
    (hk : (!T i && noDefer ops && Region.noSelect ops && Region.free md ops listed i && (Region.ready md ops listed).contains i) = true)
    (hQ : ∀ c a w, Q (.panic c) (a.put oi.dst v) w → Q (.panic c) a w) (hy : YieldsIf P ops (fun _ => True) oi v a) (hab : ∀ w, oi.about P w a.eval = none) (hS : S w)
    (h : wpAnyHIn F n P md ops Q S T fuel (listed.setIfInBounds i true) (a.put oi.dst v) w) : wpAnyHIn F n P md ops Q S T (fuel + 1) listed a w := by
  simp only [Bool.and_eq_true, Bool.not_eq_true'] at hk
  obtain ⟨⟨⟨⟨h1, h2⟩, h3⟩, h4⟩, h7⟩ := hk
  exact wpAnyHIn_first (S' := fun _ => True) (fun _ _ => trivial) hi h1 (noDefer_spec h2) (Region.noSelect_spec h3) hQ fuel listed a w (Region.free_spec hi h4) (.inl fun _ => trivial) (by simpa using h7) ⟨hy, hab, fun c => noDefer_spec h2 i oi c hi⟩ (fun _ => hS) h

/-- One alone may come up. -/
theorem wpAnyHIn_one {i : Nat} {fuel : Nat} {listed : Array Bool} {a : Act} {w : World} (hr : Region.ready md ops listed = [i])
    (h : wpOpIn F n P ops Q i (fun a' w' => (NoTail T (listed.setIfInBounds i true) → S w') ∧ wpAnyHIn F n P md ops Q S T fuel (listed.setIfInBounds i true) a' w') a w) : wpAnyHIn F n P md ops Q S T (fuel + 1) listed a w := by
  refine ⟨fun h0 => ?_, fun j hj => ?_⟩
  · rw [h0] at hr
    cases hr
  · rw [hr] at hj
    obtain rfl : j = i := by simpa using hj
    exact h

theorem wpAnyHIn_done {listed : Array Bool} {a : Act} {w : World} (hr : Region.ready md ops listed = []) (h : Q .normal a w) :
    ∀ fuel, wpAnyHIn F n P md ops Q S T fuel listed a w
  | 0 => ⟨hr, h⟩
  | _ + 1 => ⟨fun _ => h, by rw [hr]; simp⟩

theorem wpIn_region_held (S : World → Prop) (T : Nat → Bool) {id : Nat} {a : Act} {w : World} (hm : P.follows .mixedOrders = true)
    (h : wpAnyHIn F n P .any ops Q S T ops.size (Array.replicate ops.size false) a w.drew) : (Code.region id ops true).wpIn F n P Q a w :=
  wpIn_region_any hm (wpAnyIn_of_held _ _ _ _ h)

/-- The operation at hand, run. -/
theorem wpOpIn_run {i : Nat} {o : Oper} {K : Act → World → Prop} {a : Act} {w : World} (ho : ops[i]? = some o) (hw : Region.wanted o (yielded ops a.tmps) = true)
    (h : Oper.wpIn F n P o a w K Q) : wpOpIn F n P ops Q i K a w := by
  unfold wpOpIn
  simp only [ho, hw, if_true]
  exact h
end
end Go.Proofs.Ytlfgfnfcdffhpaa
