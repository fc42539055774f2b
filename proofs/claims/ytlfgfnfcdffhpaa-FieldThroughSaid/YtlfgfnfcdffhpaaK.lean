/- A relation between worlds: below block n nothing has turned but the blocks of S. Plain facts, no program. -/
import Derived.Test.YtlfgfnfcdffhpaaF
import Derived.RangeFuncBox
import Derived.OneCell
namespace Go.Proofs.Ytlfgfnfcdffhpaa
open Go.RowKit

structure Kept (n : Nat) (S : Nat → Prop) (w w' : World) : Prop where
  os : w'.os = w.os
  tape : w'.tape = w.tape
  output : w'.output = w.output
  size : w.heap.size ≤ w'.heap.size
  block : ∀ k, k < n → ¬ S k → w'.heap[k]? = w.heap[k]?
theorem Kept.refl (n : Nat) (S : Nat → Prop) (w : World) : Kept n S w w := ⟨rfl, rfl, rfl, Nat.le_refl _, fun _ _ _ => rfl⟩
theorem Kept.trans {n : Nat} {S : Nat → Prop} {a b c : World} (h : Kept n S a b) (k : Kept n S b c) : Kept n S a c :=
  ⟨k.os.trans h.os, k.tape.trans h.tape, k.output.trans h.output, Nat.le_trans h.size k.size, fun i hi hs => (k.block i hi hs).trans (h.block i hi hs)⟩
theorem Kept.ofBelow {n : Nat} {S : Nat → Prop} {w w' : World} (h : Below n w w') : Kept n S w w' := ⟨h.os, h.tape, h.output, h.size, fun k hk _ => h.block k hk⟩
theorem Kept.mono {n m : Nat} {S T : Nat → Prop} {w w' : World} (h : Kept n S w w') (hm : m ≤ n) (hS : ∀ k, k < m → S k → T k) : Kept m T w w' :=
  ⟨h.os, h.tape, h.output, h.size, fun k hk ht => h.block k (Nat.lt_of_lt_of_le hk hm) fun hs => ht (hS k hk hs)⟩
theorem Kept.below {n m : Nat} {S : Nat → Prop} {w w' : World} (h : Kept n S w w') (hm : m ≤ n) (hS : ∀ k, S k → m ≤ k) : Below m w w' :=
  ⟨h.os, h.tape, h.output, h.size, fun k hk => h.block k (Nat.lt_of_lt_of_le hk hm) fun hs => by have := hS k hs; omega⟩
theorem Kept.drew {n : Nat} {S : Nat → Prop} {a w : World} (h : Kept n S a w) : Kept n S a w.drew := ⟨h.os, h.tape, h.output, h.size, h.block⟩
theorem Kept.drewN {n : Nat} {S : Nat → Prop} {a w : World} (h : Kept n S a w) (j : Nat) : Kept n S a (w.drewN j) := ⟨h.os, h.tape, h.output, h.size, h.block⟩
theorem Kept.alloc {n : Nat} {S : Nat → Prop} {a w : World} (h : Kept n S a w) (hn : n ≤ w.heap.size) (o : Obj) : Kept n S a (w.alloc o) :=
  h.trans ⟨rfl, rfl, rfl, by simp, fun k hk _ => Below.heap_alloc _ _ _ (by omega)⟩
theorem Kept.setCell {n : Nat} {S : Nat → Prop} {a w : World} (h : Kept n S a w) {p : Addr} (hp : n ≤ p.block ∨ S p.block) (u : Value) : Kept n S a (w.setCell p u) :=
  h.trans ⟨rfl, rfl, rfl, by simp [World.setCell], fun k hk hs => Below.heap_setCell _ _ _ _ (by
    rintro rfl
    rcases hp with hp | hp
    · omega
    · exact hs hp)⟩
theorem Kept.cell {n : Nat} {S : Nat → Prop} {w w' : World} (h : Kept n S w w') {p : Addr} (hp : p.block < n) (hs : ¬ S p.block) : w'.cell? p = w.cell? p := World.cell?_of_block (w := w) (h.block p.block hp hs)
theorem Kept.cell' {n : Nat} {S : Nat → Prop} {w w' : World} (h : Kept n S w w') {p : Addr} {v : Value} (hc : w.cell? p = some v) (hp : p.block < n) (hs : ¬ S p.block) : w'.cell? p = some v := (h.cell hp hs).trans hc
theorem Kept.grown {n : Nat} {S : Nat → Prop} {a w w' : World} (h : Kept n S a w) {row : Option Nat} (hg : w.grownBy w' row) (hn : n ≤ w.heap.size) (hr : ∀ r, row = some r → n ≤ r ∨ S r) : Kept n S a w' :=
  h.trans ⟨hg.os, hg.tape, hg.output, hg.size, fun k hk hs => hg.block k (by omega) fun e => by
    rcases hr k e.symm with h | h
    · omega
    · exact hs h⟩
theorem Kept.boxed {n : Nat} {S : Nat → Prop} {w w' : World} (h : Kept n S w w') {B : Nat} {t : TypeId} {v : Value} (hb : Boxed w B t v) (hB : B < n) (hs : ¬ S B) : Boxed w' B t v := (h.block B hB hs).trans hb

end Go.Proofs.Ytlfgfnfcdffhpaa
