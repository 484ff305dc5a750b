/- Sorting by insertion, as lists. No program in sight. -/
import Derived.Lib.Hide
namespace Srt
variable {α : Type}
/-- two things change places -/
def swap (l : List α) (i j : Nat) : List α := match l[i]?, l[j]? with
  | some x, some y => (l.set i y).set j x
  | _, _ => l
theorem lt_of_some {l : List α} {i : Nat} {x : α} (hx : l[i]? = some x) : i < l.length := by
  rcases Nat.lt_or_ge i l.length with h | h
  · exact h
  · rw [List.getElem?_eq_none h] at hx; cases hx
theorem swap_eq {l : List α} {i j : Nat} {x y : α} (hx : l[i]? = some x) (hy : l[j]? = some y) : swap l i j = (l.set i y).set j x := by
  unfold swap; rw [hx, hy]
theorem swap_get {l : List α} {i j : Nat} {x y : α} (hx : l[i]? = some x) (hy : l[j]? = some y) (k : Nat) : (swap l i j)[k]? = if k = j then some x else if k = i then some y else l[k]? := by
  have hi := lt_of_some hx
  have hj := lt_of_some hy
  rw [swap_eq hx hy]
  simp only [List.getElem?_set, List.length_set]
  by_cases h1 : k = j
  · subst h1; simp [hj]
  · have h1' : ¬ j = k := fun h => h1 h.symm
    by_cases h2 : k = i
    · subst h2; simp [h1, h1', hi]
    · have h2' : ¬ i = k := fun h => h2 h.symm
      simp [h1, h1', h2, h2']
theorem swap_len {l : List α} {i j : Nat} {x y : α} (hx : l[i]? = some x) (hy : l[j]? = some y) : (swap l i j).length = l.length := by
  rw [swap_eq hx hy]; simp
theorem swap_perm {l : List α} {i j : Nat} {x y : α} (hx : l[i]? = some x) (hy : l[j]? = some y) : (swap l i j).Perm l := by
  have hi := lt_of_some hx
  have hj := lt_of_some hy
  rw [swap_eq hx hy]
  rw [List.getElem?_eq_getElem hi] at hx
  rw [List.getElem?_eq_getElem hj] at hy
  cases hx; cases hy
  exact List.set_set_perm hi hj
/-- an order by which may be sorted -/
structure Ord (lt : α → α → Bool) : Prop where
  asymm : ∀ a b, lt a b = true → lt b a = false
  trans : ∀ a b c, lt b a = false → lt c b = false → lt c a = false
/-- the first n are in order -/
def Upto (lt : α → α → Bool) (l : List α) (n : Nat) : Prop := ∀ p q x y, p < q → q < n → l[p]? = some x → l[q]? = some y → lt y x = false
/-- in order up to i, but for the one at j, which is less than all behind it -/
def Ins (lt : α → α → Bool) (l : List α) (j i : Nat) : Prop :=
  (∀ p q x y, p < q → q ≤ i → p ≠ j → q ≠ j → l[p]? = some x → l[q]? = some y → lt y x = false) ∧ ∀ q x y, j < q → q ≤ i → l[j]? = some x → l[q]? = some y → lt y x = false
variable {lt : α → α → Bool} {l : List α} {i j : Nat}
theorem ins_start (h : Upto lt l i) : Ins lt l i i :=
  ⟨fun p q x y h1 h2 _ h4 hx hy => h p q x y h1 (by omega) hx hy, fun q x y h1 h2 => by omega⟩
theorem ins_step (hO : Ord lt) (h : Ins lt l j i) (h0 : 0 < j) (hj : j ≤ i) {x y : α} (hx : l[j]? = some x) (hy : l[j - 1]? = some y) (hlt : lt x y = true) : Ins lt (swap l j (j - 1)) (j - 1) i := by
  have hg := swap_get hx hy
  refine ⟨fun p q a b h1 h2 h3 h4 ha hb => ?_, fun q a b h1 h2 ha hb => ?_⟩
  · rw [hg, if_neg h3] at ha
    rw [hg, if_neg h4] at hb
    by_cases e1 : p = j
    · rw [if_pos e1] at ha
      cases ha
      rw [if_neg (by omega)] at hb
      exact h.1 (j - 1) q y b (by omega) h2 (by omega) (by omega) hy hb
    · rw [if_neg e1] at ha
      by_cases e2 : q = j
      · rw [if_pos e2] at hb
        cases hb
        exact h.1 p (j - 1) a y (by omega) (by omega) e1 (by omega) ha hy
      · rw [if_neg e2] at hb
        exact h.1 p q a b h1 h2 e1 e2 ha hb
  · rw [hg, if_pos rfl] at ha
    cases ha
    rw [hg, if_neg (by omega)] at hb
    by_cases e2 : q = j
    · rw [if_pos e2] at hb
      cases hb
      exact hO.asymm x y hlt
    · rw [if_neg e2] at hb
      exact h.2 q x b (by omega) h2 hx hb
theorem ins_stop (hO : Ord lt) (h : Ins lt l j i) (hj : j ≤ i) (hs : j = 0 ∨ ∃ x y, l[j]? = some x ∧ l[j - 1]? = some y ∧ lt x y = false) : Upto lt l (i + 1) := by
  intro p q a b h1 h2 ha hb
  by_cases e1 : p = j
  · subst e1
    exact h.2 q a b h1 (by omega) ha hb
  · by_cases e2 : q = j
    · subst e2
      rcases hs with e | ⟨x, y, hx, hy, hxy⟩
      · omega
      · rw [hx] at hb
        cases hb
        by_cases e3 : p = q - 1
        · subst e3
          rw [hy] at ha
          cases ha
          exact hxy
        · exact hO.trans a y _ (h.1 p (q - 1) a y (by omega) (by omega) e1 (by omega) ha hy) hxy
    · exact h.1 p q a b h1 (by omega) e1 e2 ha hb
theorem upto_one (lt : α → α → Bool) (l : List α) : Upto lt l 1 := fun p q _ _ h1 h2 => by omega
theorem upto_pairwise {lt : α → α → Bool} (l : List α) (h : Upto lt l l.length) : l.Pairwise (fun x y => lt y x = false) := by
  rw [List.pairwise_iff_getElem]
  intro p q hp hq hpq
  exact h p q _ _ hpq hq (by simp) (by simp)
end Srt
