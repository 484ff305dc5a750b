/- What is read from a disk is bounded. No program in sight. -/
import Derived.Test.YtmeegdicnfgjfaaDoorStoreOpenMath
namespace Go.Mem
open Go Go.RowKit Gf Go.Proofs.YtmeegdicnfgjfaaDoor
theorem takeNet_le {b x r : List UInt8} (h : Cod.takeNet b = some (x, r)) : x.length ≤ b.length ∧ r.length ≤ b.length := by
  unfold Cod.takeNet at h
  split at h
  · cases h
  · split at h
    · cases h
    · simp only [Option.some.injEq, Prod.mk.injEq] at h
      obtain ⟨rfl, rfl⟩ := h
      simp only [List.length_take, List.length_drop]
      omega
theorem takeN_le : ∀ (k : Nat) (b : List UInt8) (xs : List (List UInt8)) (r : List UInt8), Sto.takeN k b = some (xs, r) → (∀ x ∈ xs, x.length ≤ b.length) ∧ r.length ≤ b.length
  | 0, b, xs, r, h => by
    simp [Sto.takeN] at h
    obtain ⟨rfl, rfl⟩ := h
    exact ⟨fun x hx => by simp at hx, Nat.le_refl _⟩
  | k + 1, b, xs, r, h => by
    simp only [Sto.takeN] at h
    split at h
    · cases h
    · rename_i xs' r' h'
      split at h
      · cases h
      · rename_i x r'' h''
        simp only [Option.some.injEq, Prod.mk.injEq] at h
        obtain ⟨rfl, rfl⟩ := h
        have ih := takeN_le k b xs' r' h'
        have h2 := takeNet_le h''
        refine ⟨fun y hy => ?_, Nat.le_trans h2.2 ih.2⟩
        rcases List.mem_append.1 hy with hy | hy
        · exact ih.1 y hy
        · simp only [List.mem_singleton] at hy
          subst hy
          exact Nat.le_trans h2.1 ih.2
theorem getD_le {xs : List (List UInt8)} {m : Nat} (h : ∀ x ∈ xs, x.length ≤ m) (i : Nat) : (xs.getD i []).length ≤ m := by
  rw [List.getD_eq_getElem?_getD]
  cases hx : xs[i]? with
  | none => exact Nat.zero_le _
  | some x => exact h x (List.mem_of_getElem? hx)
theorem parse_le {b : List UInt8} {r : Sto.Rec} (h : Sto.parse b = some r) : r.name.size ≤ b.length ∧ r.data.length ≤ b.length ∧ r.num ≤ 72057594037927936 := by
  unfold Sto.parse at h
  split at h
  · cases h
  · rename_i xs r' h'
    split at h
    · rename_i h4
      simp only [Option.some.injEq] at h
      subst h
      have ih := (takeN_le 3 b xs r' h').1
      exact ⟨getD_le ih 0, getD_le ih 2, by have := Cod.getN_lt (xs.getD 1 []) (by omega); simp only; omega⟩
    · cases h
/-- what is read is bounded -/
def Small (m : Nat) (r : Sto.Rec) : Prop := r.name.size ≤ m ∧ r.data.length ≤ m ∧ r.num ≤ 72057594037927936
theorem small_free (m : Nat) : Small m Sto.Rec.free := ⟨Nat.zero_le _, Nat.zero_le _, Nat.zero_le _⟩
theorem readR_small (D : DiskS) (room i : Nat) : Small (room * 32) (readR D room i).1 := by
  unfold readR
  split
  · exact small_free _
  · split
    · exact small_free _
    · split
      · rename_i r h
        have := parse_le h
        rw [slotB_len] at this
        exact this
      · exact small_free _
theorem readAll_small (room : Nat) (D : DiskS) : ∀ k, ∀ r ∈ (readAll room D k).1, Small (room * 32) r
  | 0, r, h => by simp [readAll] at h
  | k + 1, r, h => by
    have ih := readAll_small room D k
    rw [readAll] at h
    simp only at h
    split at h
    · exact ih r h
    · split at h
      · exact ih r h
      · rcases List.mem_append.1 h with h | h
        · exact ih r h
        · simp only [List.mem_singleton] at h
          subst h
          exact readR_small _ _ _
theorem readAll_n (room : Nat) (D : DiskS) : ∀ k, (readAll room D k).2.2.n = D.n
  | 0 => rfl
  | k + 1 => by
    have ih := readAll_n room D k
    rw [readAll]
    simp only
    split
    · exact ih
    · split
      · simp only
        split
        · exact (DiskS.wr_n _ _ _).trans ih
        · exact ih
      · simp only
        split
        · exact (DiskS.wr_n _ _ _).trans ih
        · exact ih
end Go.Mem
