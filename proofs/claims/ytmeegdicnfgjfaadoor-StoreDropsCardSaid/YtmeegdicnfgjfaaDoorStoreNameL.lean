/- The names of a store whose names are each there once. No program in sight. -/
import Derived.Test.YtmeegdicnfgjfaaDoorStoreLaw2
namespace Go.Mem
open Go Go.RowKit Gf
theorem look_isSome {l : List Sto.Rec} {nm : ByteArray} : (Sto.look l nm).isSome = true ↔ ∃ i r, Sto.At l nm i r := by
  unfold Sto.look
  cases hb : Sto.best l nm l.length with
  | none =>
    simp only [Option.map_none, Option.isSome_none, Bool.false_eq_true, false_iff]
    intro ⟨i, r, h⟩
    exact (Sto.best_top l nm l.length).2 hb i r h.lt h
  | some k =>
    simp only [Option.map_some, Option.isSome_some, true_iff]
    obtain ⟨r, _, h, _⟩ := (Sto.best_top l nm l.length).1 k hb
    exact ⟨k, r, h⟩
theorem mem_namesK (l : List Sto.Rec) (x : List UInt8) : ∀ k, x ∈ namesK l k ↔ ∃ i r, i < k ∧ l[i]? = some r ∧ r.is = true ∧ r.name.data.toList = x
  | 0 => by simp [namesK]
  | k + 1 => by
    have ih := mem_namesK l x k
    simp only [namesK]
    cases hr : l[k]? with
    | none =>
      simp only
      rw [ih]
      constructor
      · rintro ⟨i, r, h1, h2⟩; exact ⟨i, r, by omega, h2⟩
      · rintro ⟨i, r, h1, h2, h3⟩
        refine ⟨i, r, ?_, h2, h3⟩
        rcases Nat.lt_or_ge i k with h | h
        · exact h
        · obtain rfl : i = k := by omega
          rw [hr] at h2; cases h2
    | some q =>
      simp only
      split
      · rename_i hq
        rw [List.mem_append, ih, List.mem_singleton]
        constructor
        · rintro (⟨i, r, h1, h2⟩ | rfl)
          · exact ⟨i, r, by omega, h2⟩
          · exact ⟨k, q, by omega, hr, hq, rfl⟩
        · rintro ⟨i, r, h1, h2, h3, h4⟩
          rcases Nat.lt_or_ge i k with h | h
          · exact .inl ⟨i, r, h, h2, h3, h4⟩
          · obtain rfl : i = k := by omega
            rw [hr] at h2; cases h2
            exact .inr h4.symm
      · rename_i hq
        rw [ih]
        constructor
        · rintro ⟨i, r, h1, h2⟩; exact ⟨i, r, by omega, h2⟩
        · rintro ⟨i, r, h1, h2, h3, h4⟩
          rcases Nat.lt_or_ge i k with h | h
          · exact ⟨i, r, h, h2, h3, h4⟩
          · obtain rfl : i = k := by omega
            rw [hr] at h2; cases h2
            exact absurd h3 hq
theorem name_of {a b : ByteArray} (h : a.data.toList = b.data.toList) : a = b := ByteArray.ext (Array.toList_inj.mp h)
theorem mem_names {l : List Sto.Rec} (nm : ByteArray) : nm.data.toList ∈ namesK l l.length ↔ (Sto.look l nm).isSome = true := by
  rw [mem_namesK, look_isSome]
  constructor
  · rintro ⟨i, r, _, h2, h3, h4⟩; exact ⟨i, r, h2, h3, name_of h4⟩
  · rintro ⟨i, r, h⟩; exact ⟨i, r, h.lt, h.1, h.2.1, by rw [h.2.2]⟩
theorem namesK_nodup {l : List Sto.Rec} (hu : Sto.Uniq l) : ∀ k, (namesK l k).Nodup
  | 0 => by simp [namesK]
  | k + 1 => by
    have ih := namesK_nodup hu k
    simp only [namesK]
    split
    · exact ih
    · rename_i q hr
      split
      · rename_i hq
        rw [List.nodup_append]
        refine ⟨ih, by simp, fun a ha b hb e => ?_⟩
        simp only [List.mem_singleton] at hb
        rw [e, hb] at ha
        obtain ⟨i, r, h1, h2, h3, h4⟩ := (mem_namesK l _ k).1 ha
        have := hu q.name i k r q ⟨h2, h3, name_of h4⟩ ⟨hr, hq, rfl⟩
        omega
      · exact ih
theorem namesK_free_len (l : List Sto.Rec) : ∀ k, k ≤ l.length → (namesK l k).length + freeK l k = k
  | 0, _ => rfl
  | k + 1, h => by
    have ih := namesK_free_len l k (by omega)
    have hr : l[k]? = some l[k] := by simp
    simp only [namesK, freeK, hr]
    cases hq : l[k].is with
    | true => simp only [if_true, List.length_append, List.length_singleton, Bool.true_eq_false, if_false]; omega
    | false => simp only [Bool.false_eq_true, if_false, if_true]; omega
theorem namesK_live (l : List Sto.Rec) : ∀ k, k ≤ l.length → (namesK l k).length = ((l.take k).countP fun r => r.is)
  | 0, _ => by simp [namesK]
  | k + 1, h => by
    have ih := namesK_live l k (by omega)
    have hr : l[k]? = some l[k] := by simp
    rw [List.take_add_one, hr, List.countP_append]
    simp only [namesK, hr]
    cases hq : l[k].is with
    | true => simp only [if_true, List.length_append, List.length_singleton, ih]; simp [hq]
    | false => simp only [Bool.false_eq_true, if_false, ih]; simp [hq]
theorem names_live (l : List Sto.Rec) : (namesK l l.length).length = liveN l := by
  rw [namesK_live l _ (Nat.le_refl _), List.take_length]; rfl
theorem free_live (l : List Sto.Rec) : liveN l + freeK l l.length = l.length := by
  have := namesK_free_len l l.length (Nat.le_refl _)
  rw [names_live] at this
  exact this
/-- the names, rising, where it is known which there are -/
theorem names_sorted {l : List Sto.Rec} (hu : Sto.Uniq l) {S : List (List UInt8)} (h1 : S.Nodup) (h2 : S.Pairwise (fun x y => decide (x ≤ y) = true)) (h : ∀ x, x ∈ namesK l l.length ↔ x ∈ S) : (namesK l l.length).mergeSort (fun x y => decide (x ≤ y)) = S := by
  have hp : (namesK l l.length).Perm S := (List.perm_ext_iff_of_nodup (namesK_nodup hu _) h1).2 fun a => h a
  have hs := List.pairwise_mergeSort (le := fun x y : List UInt8 => decide (x ≤ y)) (fun a b c h h' => by simp at h h' ⊢; exact List.le_trans h h') (fun a b => by simp; exact List.le_total a b) (namesK l l.length)
  exact List.Perm.eq_of_pairwise (fun a b _ _ h h' => by simp at h h'; exact List.le_antisymm h h') hs h2 ((List.mergeSort_perm _ _).trans hp)
end Go.Mem
