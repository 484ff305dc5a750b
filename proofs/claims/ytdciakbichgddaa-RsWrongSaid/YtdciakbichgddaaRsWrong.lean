/- One share that is wrong: what Decode makes of it. -/
import Derived.Test.YtdciakbichgddaaRsNums
namespace Go.Proofs.Ytdciakbichgddaa
open Go Go.RowKit Go.Mem Gf
/-- the wrong shares -/
def badR (R : Mx) (i at' : Nat) (c : UInt8) : Mx := fun a x => if a = i ∧ x = at' then R a x ^^^ c else R a x
/-- what they decode to -/
def badD (P Y : Mx) (i at' : Nat) (c : UInt8) : Mx := fun a x => if x = at' then P a x ^^^ gm (Y a i) c else P a x
theorem dec_wrong {k l : Nat} {Y R P : Mx} {i at' : Nat} {c : UInt8} (hi : i < k) (h : EqM k l (MM k Y R) P) : EqM k l (MM k Y (badR R i at' c)) (badD P Y i at' c) := by
  intro a ha x hx
  have h1 := h a ha x hx
  show dotf k (Y a) (fun j => badR R i at' c j x) = _
  unfold badD
  by_cases e : x = at'
  · rw [if_pos e, ← h1]
    have e1 : dotf k (Y a) (fun j => badR R i at' c j x) = dotf k (Y a) (fun j => R j x ^^^ (if j = i then c else 0)) := dotf_congr (fun _ _ => rfl) fun j _ => by
      unfold badR
      by_cases e2 : j = i
      · rw [if_pos ⟨e2, e⟩, if_pos e2]
      · rw [if_neg (fun q => e2 q.1), if_neg e2]; simp
    rw [e1, dotf_xor_right]
    show dotf k (Y a) (fun j => R j x) ^^^ _ = dotf k (Y a) (fun j => R j x) ^^^ _
    congr 1
    unfold dotf
    rw [gsum_single i hi (fun j _ hj => by show gm _ (if j = i then c else 0) = 0; rw [if_neg hj, gm_zero])]
    show gm _ (if i = i then c else 0) = _
    rw [if_pos rfl]
  · rw [if_neg e, ← h1]
    exact dotf_congr (fun _ _ => rfl) fun j _ => by unfold badR; rw [if_neg (fun q => e q.2)]
theorem col_some {k : Nat} {W Y : Mx} (hI : IsInv k W Y) {i : Nat} (hi : i < k) : ∃ a, a < k ∧ Y a i ≠ 0 := Classical.byContradiction fun hc => by
  have h0 : ∀ a, a < k → MV k Y (fun j => if j = i then 1 else 0) a = 0 := fun a ha => by
    have e : Y a i = 0 := Classical.byContradiction fun hn => hc ⟨a, ha, hn⟩
    show dotf k (Y a) _ = 0
    unfold dotf
    rw [gsum_single i hi (fun j _ hj => by show gm _ (if j = i then 1 else 0) = 0; rw [if_neg hj, gm_zero])]
    show gm _ (if i = i then 1 else 0) = _
    rw [if_pos rfl, gm_one, e]
  have := hI.symm.inj h0 i hi
  exact absurd this (by simp)
theorem flatR_get (l : Nat) (F : Mx) (hl : 0 < l) : ∀ k j, j < k * l → (flatR k l F)[j]? = some (F (j / l) (j % l)) := by
  intro k
  induction k with
  | zero => intro j hj; omega
  | succ k ih =>
    intro j hj
    rw [flatR_succ]
    rw [Nat.succ_mul] at hj
    by_cases e : j < k * l
    · rw [List.getElem?_append_left (by rw [flatR_len]; exact e)]
      exact ih j e
    · rw [List.getElem?_append_right (by rw [flatR_len]; omega), flatR_len, rowL_get _ _ _ (by omega)]
      have hd : j = (j - k * l) + l * k := by rw [Nat.mul_comm l k]; omega
      have h1 : j / l = k := by rw [hd, Nat.add_mul_div_left _ _ hl, Nat.div_eq_of_lt (by omega)]; omega
      have h2 : j % l = j - k * l := by
        rw [hd, Nat.add_mul_mod_self_left, Nat.mod_eq_of_lt (by omega)]
        rw [Nat.mul_comm l k]; omega
      rw [h1, h2]
theorem flat_wrong {k l : Nat} {W Y P : Mx} {i at' : Nat} {c : UInt8} (hI : IsInv k W Y) (hi : i < k) (hat : at' < l) (hc : c ≠ 0) : flatR k l (badD P Y i at' c) ≠ flatR k l P := by
  intro e
  obtain ⟨a, ha, hne⟩ := col_some hI hi
  have hlt : a * l + at' < k * l := by
    have : (a + 1) * l ≤ k * l := Nat.mul_le_mul_right _ ha
    rw [Nat.succ_mul] at this; omega
  have h1 := flatR_get l (badD P Y i at' c) (by omega) k _ hlt
  have h2 := flatR_get l P (by omega) k _ hlt
  have d1 : (a * l + at') / l = a := by rw [Nat.mul_comm a l, Nat.add_comm, Nat.add_mul_div_left _ _ (by omega), Nat.div_eq_of_lt hat]; omega
  have d2 : (a * l + at') % l = at' := by rw [Nat.mul_comm a l, Nat.add_comm, Nat.add_mul_mod_self_left, Nat.mod_eq_of_lt hat]
  rw [d1, d2] at h1 h2
  rw [e, h2] at h1
  injection h1 with h1
  unfold badD at h1
  rw [if_pos rfl] at h1
  have h3 : gm (Y a i) c = 0 := by
    have := congrArg (fun z => P a at' ^^^ z) h1
    simpa [← UInt8.xor_assoc] using this.symm
  rcases gm_eq_zero h3 with h | h
  · exact hne h
  · exact hc h
theorem flat_diff {k l : Nat} {Y P : Mx} {i at' : Nat} {c : UInt8} (hl : 0 < l) (j : Nat) (hj : j < k * l) : ∃ u v : UInt8, (flatR k l (badD P Y i at' c))[j]? = some u ∧ (flatR k l P)[j]? = some v ∧ (j % l ≠ at' → u = v) := by
  refine ⟨_, _, flatR_get l _ hl k j hj, flatR_get l _ hl k j hj, fun h => ?_⟩
  unfold badD
  rw [if_neg h]
end Go.Proofs.Ytdciakbichgddaa
