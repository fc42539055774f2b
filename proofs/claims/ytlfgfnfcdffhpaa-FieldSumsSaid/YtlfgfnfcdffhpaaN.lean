/- The set of the numbers of the points is as large as the list just if they are different. Plain facts. Conditions: none. -/
import Derived.Test.YtlfgfnfcdffhpaaL
namespace Go.Proofs.Ytlfgfnfcdffhpaa
open Go.RowKit Go.Maps

theorem key_any (acc : List Int) (v : Int) : (acc.map fun x => (Lit.int .i64 x)).any (fun y => y.sameKey (Lit.int .i64 v)) = decide (v ∈ acc) := by
  induction acc with
  | nil => simp
  | cons a acc ih =>
    rw [List.map_cons, List.any_cons, ih]
    by_cases e : a = v
    · subst e
      have : (Lit.int .i64 a).sameKey (Lit.int .i64 a) = true := WideAt.sameKey_self (by simp [WideAt.IsKeyLit])
      simp [this]
    · have : (Lit.int .i64 a).sameKey (Lit.int .i64 v) = false := sameKey_ne (fun h => by cases h; exact e rfl)
      simp [this, Ne.symm e]

theorem addKeys (vs acc : List Int) : ((vs.map fun x => (Lit.int .i64 x)).foldl addKey (acc.map fun x => (Lit.int .i64 x))) = ((vs.foldl (fun acc v => if v ∈ acc then acc else acc ++ [v]) acc).map fun x => (Lit.int .i64 x)) := by
  induction vs generalizing acc with
  | nil => rfl
  | cons v vs ih =>
    rw [List.map_cons, List.foldl_cons, List.foldl_cons, addKey, key_any]
    by_cases h : v ∈ acc
    · simp [h, ih]
    · have := ih (acc ++ [v])
      simp only [List.map_append, List.map_cons, List.map_nil] at this
      simp [h, this]
theorem addKeys_le (vs acc : List Int) : (vs.foldl (fun acc v => if v ∈ acc then acc else acc ++ [v]) acc).length ≤ acc.length + vs.length := by
  induction vs generalizing acc with
  | nil => simp
  | cons v vs ih =>
    rw [List.foldl_cons]
    split
    · have := ih acc; simp; omega
    · have := ih (acc ++ [v]); simp at this ⊢; omega
theorem addKeys_lt (vs acc : List Int) (ha : acc.Nodup) : (vs.foldl (fun acc v => if v ∈ acc then acc else acc ++ [v]) acc).length < acc.length + vs.length ↔ ¬ (acc ++ vs).Nodup := by
  induction vs generalizing acc with
  | nil => simp [ha]
  | cons v vs ih =>
    rw [List.foldl_cons]
    by_cases h : v ∈ acc
    · have := addKeys_le vs acc
      rw [if_pos h]
      constructor
      · intro _ hn
        rw [List.nodup_append] at hn
        exact hn.2.2 v h v (by simp) rfl
      · intro _; simp; omega
    · rw [if_neg h]
      have hn : (acc ++ [v]).Nodup := by
        rw [List.nodup_append]
        refine ⟨ha, by simp, ?_⟩
        intro a ha' b hb e
        simp at hb
        subst hb; subst e
        exact h ha'
      have := ih (acc ++ [v]) hn
      simp only [List.append_assoc, List.cons_append, List.nil_append] at this
      rw [← this]
      simp; omega
theorem size_lt (ps : List (Int × Int)) : Maps.size (Sn ps ps.length) < ps.length ↔ ¬ Diff ps := by
  unfold Sn litKs
  rw [size_setOf _ _ (by intro x hx; simp at hx; obtain ⟨_, _, _, rfl⟩ := hx; simp [WideAt.IsKeyLit])]
  have h1 := addKeys (ps.map fun p => fm p.1) []
  have h2 := addKeys_lt (ps.map fun p => fm p.1) [] List.nodup_nil
  simp only [List.map_nil, List.map_map, List.length_nil, List.nil_append, Nat.zero_add, List.length_map] at h1 h2
  rw [List.take_length]
  have e : (ps.map fun p => Lit.int .i64 (fm p.1)) = ps.map ((fun x => Lit.int .i64 x) ∘ fun p => fm p.1) := rfl
  rw [e, h1, List.length_map]
  exact h2

theorem fatE_eq (ps : List (Int × Int)) : fatE ps = atE ps := by
  unfold fatE atE
  have := size_lt ps
  by_cases h : Diff ps
  · simp [h, this]
  · simp [h, this]
theorem fatV_eq (ps : List (Int × Int)) (t : Int) : fatV ps t = if 64 < ps.length then 0 else if Diff ps then yF ps t ps.length else 0 := by
  unfold fatV
  have := size_lt ps
  by_cases h : Diff ps
  · simp [h, this]
  · simp [h, this]

end Go.Proofs.Ytlfgfnfcdffhpaa
