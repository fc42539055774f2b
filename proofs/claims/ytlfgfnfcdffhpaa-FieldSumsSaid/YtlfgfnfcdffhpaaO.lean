/- How the arguments of the field's laws read: slices of ints and of points as lists. Conditions: none. -/
import Derived.Test.YtlfgfnfcdffhpaaE
import Derived.ProofKit
import Derived.Deep.Slices
import Derived.Deep.Fields
import Derived.ChangeSame
namespace Go.Proofs.Ytlfgfnfcdffhpaa
open Go.ChangeShapes Go.WideShapes Go.Deep Go.RowKit

theorem rdI_take {W : World} {x : Addr} {len cap : Nat} {zs : List Int} (hl : len ≤ cap) (hm : len ≤ 9223372036854775807) (hz : zs.length = cap) (hcell : ∀ i, i < zs.length → W.cell? (x.add i) = some (.int .i64 (zs.getD i 0))) : RdI W (some x) len (zs.take len) :=
  ⟨by simp; omega, hm, fun j hj => ⟨x, rfl, by rw [hcell j (by omega)]; simp [List.getD_eq_getElem?_getD, hj]⟩⟩

section
variable {H : Type} {enc : TypeId × Value → H} {P : Program} {w : World} {base : Nat} {spare : Nat → Bool} {held : Bool}
/-- A slice of structs of one-cell fields: every field of every element. -/
theorem rows_of {t e : TypeId} {fs : Array Field} {fuel : Nat} {cs : List Value} {x : DataW H × List MemPlace} (ht : P.underlying t = some (.slice e)) (he : P.underlying e = some (.struct fs))
    (hone : oneCellFields P fs = true) (hC : P.cellsOf e = fs.size) (h : DataW.trod enc P w base spare held fuel t cs = some x) :
    cs = [.slice none 0 0] ∨ ∃ (a : Addr) (len cap : Nat), cs = [.slice (some a) len cap] ∧ len ≤ maxLen ∧ len ≤ cap ∧
      ∀ i, i < len → ∀ (j : Nat) (f : Field), fs[j]? = some f → ∃ (n : Nat) (v : Value) (y : DataW H × List MemPlace), w.cell? (a.add (i * fs.size + j)) = some v ∧ DataW.trod enc P w base spare held n f.type [v] = some y := by
  rcases open_slice ht h with h0 | ⟨a, len, cap, m, n, D, Pl, hcs, hb, hl, hm, hmm, hx, hi⟩
  · exact .inl h0.1
  · refine .inr ⟨a, len, cap, hcs, by omega, hl, fun i him j f hj => ?_⟩
    obtain ⟨cs', hc, ht'⟩ := hi i (by rw [hmm]; split <;> omega)
    rw [hC] at hc
    obtain ⟨ys, n', hn', hy, hlen, hyl, hf⟩ := DataW.trod_struct he ht'
    obtain ⟨_, hcl, hat⟩ := World.cells?_some hc
    obtain ⟨ho, hk⟩ := hone_of hone j f hj
    have hjl : j < fs.size := (Array.getElem?_eq_some_iff.1 hj).1
    have hcell := hat j hjl
    have hv : cs'[j]? = some (cs'[j]'(by omega)) := List.getElem?_eq_getElem (by omega)
    have h1 := hf j f hj
    rw [ho, hk] at h1
    have hone' : (cs'.drop j).take 1 = [cs'[j]'(by omega)] := by
      rw [List.drop_eq_getElem_cons (by omega)]
      rfl
    rw [hone'] at h1
    have hys : ys[j]? = some (ys[j]'(by omega)) := List.getElem?_eq_getElem (by omega)
    exact ⟨_, _, _, by rw [← Go.Deep.add_add, hcell, hv], h1.trans hys⟩
end
theorem cells38 : Try.prog.cellsOf 38 = 2 := by kernel_rfl
def cellInt (w : World) (a : Addr) : Int := match w.cell? a with | some (.int _ n) => n | _ => 0
theorem add_one (a : Addr) (n : Nat) : a.add (n + 1) = ⟨(a.add n).block, (a.add n).off + 1, none⟩ := by
  unfold Addr.add
  rw [if_neg (by omega)]
  split
  · rename_i h; subst h; simp
  · simp [Nat.add_assoc]
theorem open_points2 {H : Type} {enc : TypeId × Value → H} {w : World} {base : Nat} {spare : Nat → Bool} {held : Bool} {fuel : Nat} {A : Option Addr} {n c : Nat} {x : DataW H × List MemPlace}
    (h : DataW.trod enc Try.prog w base spare held fuel 30 (Value.slice A n c).cells.toList = some x) : ∃ ps, RdP w A n ps ∧ n ≤ c := by
  rcases rows_of Try.underlying30 Try.underlying38 (by kernel_rfl) cells38 h with h0 | ⟨a, len, cap, h0, hl, hlc, hi⟩
  · simp [Value.cells] at h0
    obtain ⟨rfl, rfl, rfl⟩ := h0
    exact ⟨[], ⟨rfl, by omega, fun j h => by omega⟩, by omega⟩
  · simp [Value.cells] at h0
    obtain ⟨rfl, rfl, rfl⟩ := h0
    refine ⟨(List.range n).map fun i => (cellInt w (a.add (i * 2)), cellInt w (a.add (i * 2 + 1))), ⟨by simp, by unfold maxLen at hl; omega, fun j hj => ⟨a, rfl, ?_, ?_⟩⟩, hlc⟩
    · obtain ⟨m, v, y, hc, ht⟩ := hi j hj 0 _ rfl
      obtain ⟨k, hv, _⟩ := DataW.trod_int Try.underlying3 ht
      obtain rfl : v = .int .i64 k := by simpa using hv
      have hc' : w.cell? (a.add (j * 2)) = some (.int .i64 k) := hc
      have e : px ((List.range n).map fun i => (cellInt w (a.add (i * 2)), cellInt w (a.add (i * 2 + 1)))) j = k := by
        simp [px, List.getD_eq_getElem?_getD, hj, cellInt, hc']
      rw [hc', e]
    · obtain ⟨m, v, y, hc, ht⟩ := hi j hj 1 _ rfl
      obtain ⟨k, hv, _⟩ := DataW.trod_int Try.underlying3 ht
      obtain rfl : v = .int .i64 k := by simpa using hv
      have hc' : w.cell? (a.add (j * 2 + 1)) = some (.int .i64 k) := hc
      have e : py ((List.range n).map fun i => (cellInt w (a.add (i * 2)), cellInt w (a.add (i * 2 + 1)))) j = k := by
        simp [py, List.getD_eq_getElem?_getD, hj, cellInt, hc']
      rw [← add_one, hc', e]

theorem open_points {H : Type} {enc : TypeId × Value → H} {w : World} {base : Nat} {spare : Nat → Bool} {held : Bool} {fuel : Nat} {A : Option Addr} {n c : Nat} {x : DataW H × List MemPlace}
    (h : DataW.trod enc Try.prog w base spare held fuel 30 (Value.slice A n c).cells.toList = some x) : ∃ ps, RdP w A n ps := by
  obtain ⟨ps, h, _⟩ := open_points2 h
  exact ⟨ps, h⟩

end Go.Proofs.Ytlfgfnfcdffhpaa
