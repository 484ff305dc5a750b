/- What Open of the store computes, with no program in sight. -/
import Derived.Test.YtmeegdicnfgjfaaDoorStoreNames
namespace Go.Mem
open Go Go.RowKit Gf
/-- the first k slots are read: the records, an error, the disk behind -/
def readAll (room : Nat) (D : DiskS) : Nat → List Sto.Rec × Int × DiskS
  | 0 => ([], 0, D)
  | k + 1 =>
    let p := readAll room D k
    if p.2.1 ≠ 0 then p else
      let q := Go.Proofs.YtmeegdicnfgjfaaDoor.readR p.2.2 room k
      let D' := if q.2.2 = true then p.2.2.wr (k * (room + 1) : Nat) [0] else p.2.2
      if q.2.1 ≠ 0 then (p.1, q.2.1, D') else (p.1 ++ [q.1], 0, D')
theorem readAll_len (room : Nat) (D : DiskS) : ∀ k, (readAll room D k).2.1 = 0 → (readAll room D k).1.length = k
  | 0, _ => rfl
  | k + 1, h => by
    rw [readAll] at h ⊢
    by_cases h0 : (readAll room D k).2.1 = 0
    · have ih := readAll_len room D k h0
      simp only [h0, ne_eq, not_true_eq_false, if_false] at h ⊢
      split at h
      · rename_i h1
        exact absurd h h1
      · rename_i h1
        rw [if_neg h1, List.length_append, ih]
        rfl
    · simp only [ne_eq, h0, not_false_eq_true, if_true] at h
/-- an error stays -/
theorem readAll_err (room : Nat) (D : DiskS) {k : Nat} (h : (readAll room D k).2.1 ≠ 0) : ∀ m, readAll room D (k + m) = readAll room D k
  | 0 => rfl
  | m + 1 => by
    have ih := readAll_err room D h m
    rw [Nat.add_succ, readAll, ih]
    simp only [ne_eq, h, not_false_eq_true, if_true]
/-- of one name the first record of the greatest number stays: the error, the store behind -/
def keepBest (s : St) : Nat → Int × St
  | 0 => (0, s)
  | k + 1 =>
    let p := keepBest s k
    if p.1 ≠ 0 then p else
      match p.2.recs[k]? with
      | none => p
      | some r => if r.is = true ∧ Sto.best p.2.recs r.name p.2.recs.length ≠ some k then (p.2.freeE k, p.2.freeS k) else p
/-- an error stays -/
theorem keepBest_err (s : St) {k : Nat} (h : (keepBest s k).1 ≠ 0) : ∀ m, keepBest s (k + m) = keepBest s k
  | 0 => rfl
  | m + 1 => by
    have ih := keepBest_err s h m
    rw [Nat.add_succ, keepBest, ih]
    simp only [ne_eq, h, not_false_eq_true, if_true]
/-- a freed slot leaves as many slots, and the room -/
theorem freeS_len (s : St) (i : Nat) : (s.freeS i).recs.length = s.recs.length ∧ (s.freeS i).room = s.room := by
  refine ⟨?_, rfl⟩
  simp only [St.freeS]
  split
  · exact List.length_set
  · rfl
theorem keepBest_len (s : St) : ∀ k, (keepBest s k).2.recs.length = s.recs.length ∧ (keepBest s k).2.room = s.room
  | 0 => ⟨rfl, rfl⟩
  | k + 1 => by
    have ih := keepBest_len s k
    rw [keepBest]
    by_cases h0 : (keepBest s k).1 = 0
    · simp only [h0, ne_eq, not_true_eq_false, if_false]
      split
      · exact ih
      · split
        · exact ⟨(freeS_len _ _).1.trans ih.1, (freeS_len _ _).2.trans ih.2⟩
        · exact ih
    · simp only [ne_eq, h0, not_false_eq_true, if_true]
      exact ih
/-- Open: the error, and the store where there is one -/
def openR (D : DiskS) (slots room : Nat) : Int × DiskS × Option St :=
  let p := readAll room D slots
  if p.2.1 ≠ 0 then (p.2.1, p.2.2, none) else
    let q := keepBest ⟨room, p.1, false, p.2.2⟩ slots
    if q.1 ≠ 0 then (q.1, q.2.disk, none) else (0, q.2.disk, some q.2)
end Go.Mem
namespace Go.Mem
open Go Go.RowKit Gf Go.Proofs.YtmeegdicnfgjfaaDoor
theorem takeNet_le {b x r : List UInt8} (h : Cod.takeNet b = some (x, r)) : x.length ≤ b.length ∧ r.length ≤ b.length := by
  unfold Cod.takeNet at h
  split at h
  · cases h
  · split at h
    · cases h
    · simp only [Option.some.injEq, Prod.mk.injEq] at h
      obtain ⟨rfl, rfl⟩ := h
      simp only [List.length_take, List.length_drop]
      omega
theorem takeN_le : ∀ (k : Nat) (b : List UInt8) (xs : List (List UInt8)) (r : List UInt8), Sto.takeN k b = some (xs, r) → (∀ x ∈ xs, x.length ≤ b.length) ∧ r.length ≤ b.length
  | 0, b, xs, r, h => by
    simp [Sto.takeN] at h
    obtain ⟨rfl, rfl⟩ := h
    exact ⟨fun x hx => by simp at hx, Nat.le_refl _⟩
  | k + 1, b, xs, r, h => by
    simp only [Sto.takeN] at h
    split at h
    · cases h
    · rename_i xs' r' h'
      split at h
      · cases h
      · rename_i x r'' h''
        simp only [Option.some.injEq, Prod.mk.injEq] at h
        obtain ⟨rfl, rfl⟩ := h
        have ih := takeN_le k b xs' r' h'
        have h2 := takeNet_le h''
        refine ⟨fun y hy => ?_, Nat.le_trans h2.2 ih.2⟩
        rcases List.mem_append.1 hy with hy | hy
        · exact ih.1 y hy
        · simp only [List.mem_singleton] at hy
          subst hy
          exact Nat.le_trans h2.1 ih.2
theorem getD_le {xs : List (List UInt8)} {m : Nat} (h : ∀ x ∈ xs, x.length ≤ m) (i : Nat) : (xs.getD i []).length ≤ m := by
  rw [List.getD_eq_getElem?_getD]
  cases hx : xs[i]? with
  | none => exact Nat.zero_le _
  | some x => exact h x (List.mem_of_getElem? hx)
theorem parse_le {b : List UInt8} {r : Sto.Rec} (h : Sto.parse b = some r) : r.name.size ≤ b.length ∧ r.data.length ≤ b.length ∧ r.num ≤ 72057594037927936 := by
  unfold Sto.parse at h
  split at h
  · cases h
  · rename_i xs r' h'
    split at h
    · rename_i h4
      simp only [Option.some.injEq] at h
      subst h
      have ih := (takeN_le 3 b xs r' h').1
      exact ⟨getD_le ih 0, getD_le ih 2, by have := Cod.getN_lt (xs.getD 1 []) (by omega); simp only; omega⟩
    · cases h
/-- what is read is bounded -/
def Small (m : Nat) (r : Sto.Rec) : Prop := r.name.size ≤ m ∧ r.data.length ≤ m ∧ r.num ≤ 72057594037927936
theorem small_free (m : Nat) : Small m Sto.Rec.free := ⟨Nat.zero_le _, Nat.zero_le _, Nat.zero_le _⟩
theorem readR_small (D : DiskS) (room i : Nat) : Small (room * 32) (readR D room i).1 := by
  unfold readR
  split
  · exact small_free _
  · split
    · exact small_free _
    · split
      · rename_i r h
        have := parse_le h
        rw [slotB_len] at this
        exact this
      · exact small_free _
theorem readAll_small (room : Nat) (D : DiskS) : ∀ k, ∀ r ∈ (readAll room D k).1, Small (room * 32) r
  | 0, r, h => by simp [readAll] at h
  | k + 1, r, h => by
    have ih := readAll_small room D k
    rw [readAll] at h
    simp only at h
    split at h
    · exact ih r h
    · split at h
      · exact ih r h
      · rcases List.mem_append.1 h with h | h
        · exact ih r h
        · simp only [List.mem_singleton] at h
          subst h
          exact readR_small _ _ _
theorem readAll_n (room : Nat) (D : DiskS) : ∀ k, (readAll room D k).2.2.n = D.n
  | 0 => rfl
  | k + 1 => by
    have ih := readAll_n room D k
    rw [readAll]
    simp only
    split
    · exact ih
    · split
      · simp only
        split
        · exact (DiskS.wr_n _ _ _).trans ih
        · exact ih
      · simp only
        split
        · exact (DiskS.wr_n _ _ _).trans ih
        · exact ih
end Go.Mem
