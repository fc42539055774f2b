/- What the contract of At of package field needs: sums over points, the set of numbers, the marks. Conditions: none. -/
import Derived.Test.YtlfgfnfcdffhpaaG
import Derived.Test.YtlfgfnfcdffhpaaR
import Derived.Maps.OwnIn
import Derived.Maps.OwnSet
import Derived.Sort.MapsRangeIn
namespace Go.Proofs.Ytlfgfnfcdffhpaa
open Go.RowKit Go.Shelf Go.Maps Go.WideMaps
attribute [local go_sem] Oper.semAt_some
set_option linter.unusedVariables false

def litK (ps : List (Int × Int)) (k : Nat) : Lit := .int .i64 (fm (px ps k))
def litKs (ps : List (Int × Int)) (k : Nat) : List Lit := (ps.take k).map fun p => .int .i64 (fm p.1)
def Sn (ps : List (Int × Int)) (k : Nat) : DataW Unit := setOf (.lit (.bool true)) (litKs ps k)
theorem Sn_succ (ps : List (Int × Int)) (k : Nat) (hk : k < ps.length) : Sn ps (k + 1) = (Sn ps k).put (litK ps k) (.lit (.bool true)) := by
  unfold Sn litKs litK
  rw [List.take_add_one, List.map_append]
  simp [px, List.getD_eq_getElem?_getD, List.getElem?_eq_getElem hk, setOf_snoc]
theorem Sn_zero (ps : List (Int × Int)) : Sn ps 0 = .map [] := by simp [Sn, litKs, setOf]

def aboveF (t : Int) (qs : List (Int × Int)) (a : Int) : Int := qs.foldl (fun a q => fm (a * fm (t + -(fm q.1)))) a
def belowF (x : Int) (qs : List (Int × Int)) (a : Int) : Int := qs.foldl (fun a q => fm (a * fm (x + -(fm q.1)))) a
theorem aboveF_snoc (t : Int) (qs : List (Int × Int)) (q : Int × Int) (a : Int) : aboveF t (qs ++ [q]) a = fm (aboveF t qs a * fm (t + -(fm q.1))) := by simp [aboveF]
theorem belowF_snoc (t : Int) (qs : List (Int × Int)) (q : Int × Int) (a : Int) : belowF t (qs ++ [q]) a = fm (belowF t qs a * fm (t + -(fm q.1))) := by simp [belowF]
def yF (ps : List (Int × Int)) (t : Int) : Nat → Int
  | 0 => 0
  | j + 1 => fm (yF ps t j + fm (aboveF t (ps.eraseIdx j) (fm (py ps j)) * invV (belowF (px ps j) (ps.eraseIdx j) 1)))
def fatV (ps : List (Int × Int)) (t : Int) : Int := if 64 < ps.length then 0 else if Maps.size (Sn ps ps.length) < ps.length then 0 else yF ps t ps.length
def fatE (ps : List (Int × Int)) : Int := if 64 < ps.length then 2 else if Maps.size (Sn ps ps.length) < ps.length then 90 else 0

theorem fm_wf (a : Int) : (Lit.int .i64 (fm a)).wf = true := by
  have h0 := fm_lo a
  have h1 := fm_hi a
  exact WalkArith.wf_i64 (by omega)
theorem law3 : Keyed Try.prog 3 := int_keyed Try.underlying3

/-- The blocks in which the loops over iterators collect what the rounds defer: nothing. -/
def Marks (W : World) (Ds : List Nat) : Prop := Ds.Nodup ∧ ∀ D ∈ Ds, W.heap[D]? = some (.deferred (some []))
theorem Marks.nil (W : World) : Marks W [] := ⟨List.nodup_nil, fun D h => by simp at h⟩

theorem leaves_marks {fn : Func} {tmps : Array Value} {R : Ending → World → Prop} {n : Nat} : ∀ (Ds : List Nat) (W : World), Marks W Ds →
    (∀ W', Kept W.heap.size (fun b => b ∈ Ds) W W' → ∃ v, (results fn tmps).run Try.prog W' = .ok v W' ∧ R (.returned v) W') →
    LeavesInM Fence.wide n Try.prog fn tmps R (Ds.map fun D => { target := .collected D, args := #[] }) .returning W
  | [], W, _, h => h W (Kept.refl _ _ _)
  | D :: Ds, W, hM, h => by
    have hk := hM.2 D (by simp)
    have hlt : D < W.heap.size := lt_of_block hk
    have hnd := List.nodup_cons.1 hM.1
    refine ⟨by simp, .inl ⟨D, _, rfl, run_takeDeferred hk, ?_⟩⟩
    refine leaves_marks Ds _ ⟨hnd.2, fun D' h' => ?_⟩ (fun W' hK => h W' ?_)
    · have hne : D' ≠ D := fun e => by rw [e] at h'; exact hnd.1 h'
      rw [World.putObj_heap_other hne]
      exact hM.2 D' (by simp [h'])
    · refine Kept.trans (b := W.putObj D (.deferred none)) ⟨rfl, rfl, rfl, by simp [World.putObj], fun b _ hb => World.putObj_heap_other (fun e => hb (by simp [e]))⟩ (hK.mono (by simp [World.putObj]) (fun b _ hb => by simp [hb]))

theorem ownFrom_kept {β : Type} {B n : Nat} {S : Nat → Prop} {w : World} (hn : n ≤ B) (hw : n ≤ w.heap.size) : OwnFrom B (fun (_ : β) W => Kept n S w W) := fun s A B' row hs hg hr =>
  hs.grown hg (Nat.le_trans hw hs.size) (fun r e => .inl (by have := (hr r e).1; omega))
theorem kept_putObj {n : Nat} {S : Nat → Prop} {W : World} {l : Nat} {o : Obj} (h : n ≤ l) : Kept n S W (W.putObj l o) :=
  ⟨rfl, rfl, rfl, by simp [World.putObj], fun b hb _ => World.putObj_heap_other (by omega)⟩

theorem others_stops (n : Nat) (hn : 1 ≤ n) (S : Nat → Prop) (Bl Bi n0 : Nat) (A : Option Addr) (len cap i : Nat) (ps : List (Int × Int)) (w : World) (hr : RdP w A len ps) (hA : ∀ ad, A = some ad → ad.block < n0 ∧ ¬ S ad.block) (hn0 : n0 ≤ w.heap.size) (hb2 : Bi < n0 ∧ ¬ S Bi) (hi : (i : Int) ≤ 9223372036854775807)
    (hBl : Boxed w Bl 30 (.slice A len cap)) (hBi : Boxed w Bi 3 (.int .i64 i)) :
    SeqStopsK Fence.wide n Try.prog 28 #[.pointer (some ⟨Bl, 0, none⟩), .pointer (some ⟨Bi, 0, none⟩)] (fun q : Int × Int => #[.agg #[.int .i64 q.1, .int .i64 q.2]]) (Kept n0 S) (fun ys => ys = ps.eraseIdx i) (fun _ => True) len w := fun l J Jx W hW hJ hJx hY h0 => by
  have hl := hBl.lt
  have hi' := hBi.lt
  refine (others1_in n S hn l Bl Bi n0 A len cap i ps W (hr.below hW) hA (Nat.le_trans hn0 hW.size) hb2 hi J Jx hJ hY ?_ ?_ h0).mono ?_
  · exact (hW.cell (p := ⟨Bl, 0, none⟩) hl).trans hBl.cell
  · exact (hW.cell (p := ⟨Bi, 0, none⟩) hi').trans hBi.cell
  · rintro e W' ⟨he, h | ⟨pre, h⟩⟩
    · exact ⟨he, .inl h⟩
    · exact ⟨he, .inr ⟨pre, trivial, h⟩⟩

/-- What holds while the two products are computed. -/
def InS (Bat Bp Ba Bb Bx n0 : Nat) (t x q a b : Int) (W' W2 : World) : Prop :=
  W2.cell? ⟨Bat, 0, none⟩ = some (.int .i64 t) ∧ W2.cell? ⟨Bp, 0, none⟩ = some (.int .i64 x) ∧ W2.cell? ⟨Bx, 0, none⟩ = some (.int .i64 q) ∧ Boxed W2 Ba 3 (.int .i64 a) ∧ Boxed W2 Bb 3 (.int .i64 b) ∧ KeepsFrom n0 W' W2 ∧ Kept n0 (fun b => b = Ba ∨ b = Bb) W' W2

theorem InS.alloc {Bat Bp Ba Bb Bx n0 : Nat} {t x q a b : Int} {W' W2 : World} (h : InS Bat Bp Ba Bb Bx n0 t x q a b W' W2) (hn : n0 ≤ W'.heap.size) (o : Obj) : InS Bat Bp Ba Bb Bx n0 t x q a b W' (W2.alloc o) := by
  obtain ⟨h1, h2, h3, h4, h5, h6, h7⟩ := h
  have hb : Below W2.heap.size W2 (W2.alloc o) := (Below.refl _ _).alloc (Nat.le_refl _) _
  exact ⟨(hb.cell (World.block_lt_of_cell? W2 _ h1)).trans h1, (hb.cell (World.block_lt_of_cell? W2 _ h2)).trans h2, (hb.cell (World.block_lt_of_cell? W2 _ h3)).trans h3, h4.alloc _, h5.alloc _, h6.trans ((KeepsOthers.alloc _ _).from _), h7.alloc (Nat.le_trans hn h7.size) _⟩

theorem Marks.alloc {W : World} {Ds : List Nat} (h : Marks W Ds) (o : Obj) : Marks (W.alloc o) Ds :=
  ⟨h.1, fun D hd => by rw [Below.heap_alloc _ _ _ (lt_of_block (h.2 D hd))]; exact h.2 D hd⟩
theorem Marks.cons {W W0 W' : World} {Ds : List Nat} {D n : Nat} {S : Nat → Prop} (h : Marks W Ds) (hb : Below W.heap.size W W0) (hk : Kept n S W0 W') (hd : W'.heap[D]? = some (.deferred (some []))) (hD : W.heap.size ≤ D) (hn : W.heap.size ≤ n) (hS : ∀ b, S b → W.heap.size ≤ b) : Marks W' (D :: Ds) := by
  refine ⟨List.nodup_cons.2 ⟨fun hm => ?_, h.1⟩, fun D' h' => ?_⟩
  · have := lt_of_block (h.2 D hm)
    omega
  · rcases List.mem_cons.1 h' with rfl | h'
    · exact hd
    · have hlt := lt_of_block (h.2 D' h')
      rw [hk.block D' (by omega) (fun hs => by have := hS D' hs; omega), hb.block D' hlt]
      exact h.2 D' h'

/-- A frame, named slot by slot. -/
theorem ex_frame {A : Act} {R : (Nat → Value) → Prop} {f : (Nat → Value) → Act} (h : R (fun i => A.tmps.getD i undef)) (e : A = f (fun i => A.tmps.getD i undef)) : ∃ u, R u ∧ A = f u := ⟨_, h, e⟩

end Go.Proofs.Ytlfgfnfcdffhpaa
