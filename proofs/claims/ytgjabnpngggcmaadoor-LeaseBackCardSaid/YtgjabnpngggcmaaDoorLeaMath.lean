/- A heap of leases as a list: each step up or down keeps what is in order. No program in sight. -/
import Derived.Lib.Hide
namespace Lea
/-- a lease of an index -/
structure Les where
  ix : List UInt8
  sec : List UInt8
  e : Int
/-- a row's edge: what stands above i ends no later -/
def Rim (l : List Les) (c : Nat) : Prop := ∀ p x y, p = (c - 1) / 2 → l[p]? = some x → l[c]? = some y → x.e ≤ y.e
/-- the first n are a heap -/
def HeapN (l : List Les) (n : Nat) : Prop := ∀ c, 0 < c → c < n → Rim l c
/-- what stands above i ends no later than what stands below i -/
def Grand (l : List Les) (i n : Nat) : Prop := ∀ c x y, 0 < i → 0 < c → c < n → (c - 1) / 2 = i → l[(i - 1) / 2]? = some x → l[c]? = some y → x.e ≤ y.e
/-- two things change places -/
def swap (l : List Les) (i j : Nat) : List Les := match l[i]?, l[j]? with
  | some x, some y => (l.set i y).set j x
  | _, _ => l
theorem swap_len (l : List Les) (i j : Nat) : (swap l i j).length = l.length := by
  unfold swap
  split <;> simp
theorem swap_get {l : List Les} {i j : Nat} {x y : Les} (hx : l[i]? = some x) (hy : l[j]? = some y) (k : Nat) : (swap l i j)[k]? = if k = j then some x else if k = i then some y else l[k]? := by
  have hi : i < l.length := by
    rcases Nat.lt_or_ge i l.length with h | h
    · exact h
    · rw [List.getElem?_eq_none h] at hx; cases hx
  have hj : j < l.length := by
    rcases Nat.lt_or_ge j l.length with h | h
    · exact h
    · rw [List.getElem?_eq_none h] at hy; cases hy
  unfold swap
  rw [hx, hy]
  simp only [List.getElem?_set, List.length_set]
  by_cases h1 : k = j
  · subst h1; simp [hj]
  · have h1' : ¬ j = k := fun h => h1 h.symm
    by_cases h2 : k = i
    · subst h2; simp [h1, h1', hi]
    · have h2' : ¬ i = k := fun h => h2 h.symm
      simp [h1, h1', h2, h2']
theorem swap_perm (l : List Les) (i j : Nat) : (swap l i j).Perm l := by
  cases hx : l[i]? with
  | none => unfold swap; rw [hx]
  | some x =>
    cases hy : l[j]? with
    | none => unfold swap; rw [hx, hy]
    | some y =>
      have hi : i < l.length := by
        rcases Nat.lt_or_ge i l.length with h | h
        · exact h
        · rw [List.getElem?_eq_none h] at hx; cases hx
      have hj : j < l.length := by
        rcases Nat.lt_or_ge j l.length with h | h
        · exact h
        · rw [List.getElem?_eq_none h] at hy; cases hy
      unfold swap
      rw [hx, hy]
      simp only
      rw [List.getElem?_eq_getElem hi] at hx
      rw [List.getElem?_eq_getElem hj] at hy
      cases hx; cases hy
      exact List.set_set_perm hi hj
/-- one step down: i's lesser child j is less, they change places -/
theorem down_step {l : List Les} {i0 i j n : Nat} {x y : Les} (hj : j = 2 * i + 1 ∨ j = 2 * i + 2) (hjn : j < n) (hx : l[i]? = some x) (hy : l[j]? = some y) (hlt : y.e < x.e)
    (hmin : ∀ c z, 0 < c → c < n → (c - 1) / 2 = i → l[c]? = some z → y.e ≤ z.e)
    (hinv : ∀ c, 0 < c → c < n → (c - 1) / 2 ≠ i → (c ≠ i0 ∨ i ≠ i0) → Rim l c) (hg : Grand l i n) :
    (∀ c, 0 < c → c < n → (c - 1) / 2 ≠ j → Rim (swap l i j) c) ∧ Grand (swap l i j) j n := by
  have hji : j ≠ i := by omega
  have hpj : (j - 1) / 2 = i := by omega
  have hget := swap_get hx hy
  refine ⟨fun c hc hcn hne p a b hp ha hb => ?_, fun c a b hj0 hc hcn hpc ha hb => ?_⟩
  · rw [hget] at ha hb
    by_cases h1 : c = j
    · -- the child itself
      subst h1
      rw [if_pos rfl] at hb
      have hpi : p = i := by omega
      rw [if_neg (by omega), if_pos hpi] at ha
      cases ha; cases hb
      omega
    · rw [if_neg h1] at hb
      by_cases h2 : c = i
      · subst h2
        rw [if_pos rfl] at hb
        cases hb
        rw [if_neg (by omega), if_neg (by omega)] at ha
        subst hp
        exact hg j a y hc (by omega) hjn hpj ha hy
      · rw [if_neg h2] at hb
        by_cases h3 : p = i
        · rw [if_neg (by omega), if_pos h3] at ha
          cases ha
          exact hmin c b hc hcn (by omega) hb
        · rw [if_neg (by omega), if_neg h3] at ha
          by_cases h4 : c = i0
          · by_cases h5 : i = i0
            · omega
            · exact hinv c hc hcn (by omega) (.inr h5) p a b hp ha hb
          · exact hinv c hc hcn (by omega) (.inl h4) p a b hp ha hb
  · rw [hget] at ha hb
    rw [hpj, if_neg (by omega), if_pos rfl] at ha
    cases ha
    rw [if_neg (by omega), if_neg (by omega)] at hb
    exact hinv c hc hcn (by omega) (by
      by_cases h : i = i0
      · left; omega
      · exact .inr h) j y b (by omega) hy hb
/-- the end of the way down -/
theorem down_end {l : List Les} {i0 i n : Nat} {x : Les} (hx : l[i]? = some x)
    (hmin : ∀ c z, 0 < c → c < n → (c - 1) / 2 = i → l[c]? = some z → x.e ≤ z.e)
    (hinv : ∀ c, 0 < c → c < n → (c - 1) / 2 ≠ i → (c ≠ i0 ∨ i ≠ i0) → Rim l c) : ∀ c, 0 < c → c < n → (c ≠ i0 ∨ i ≠ i0) → Rim l c := by
  intro c hc hcn h p a b hp ha hb
  by_cases hp2 : (c - 1) / 2 = i
  · subst hp
    rw [hp2, hx] at ha
    cases ha
    exact hmin c b hc hcn hp2 hb
  · exact hinv c hc hcn hp2 h p a b hp ha hb
/-- one step up -/
theorem up_step {l : List Les} {i j n : Nat} {x y : Les} (hj : 0 < j) (hjn : j < n) (hi : i = (j - 1) / 2) (hx : l[i]? = some x) (hy : l[j]? = some y) (hlt : y.e < x.e)
    (hinv : ∀ c, 0 < c → c < n → c ≠ j → Rim l c) (hg : Grand l j n) :
    (∀ c, 0 < c → c < n → c ≠ i → Rim (swap l i j) c) ∧ Grand (swap l i j) i n := by
  have hji : i ≠ j := by omega
  have hget := swap_get hx hy
  refine ⟨fun c hc hcn hne p a b hp ha hb => ?_, fun c a b hi0 hc hcn hpc ha hb => ?_⟩
  · rw [hget] at ha hb
    rw [if_neg hne] at hb
    by_cases h1 : c = j
    · subst h1
      rw [if_pos rfl] at hb
      rw [if_neg (by omega), if_pos (by omega)] at ha
      cases ha; cases hb
      omega
    · rw [if_neg h1] at hb
      by_cases h2 : p = j
      · rw [if_pos h2] at ha
        cases ha
        exact hg c x b hj hc hcn (by omega) (by rw [← hi]; exact hx) hb
      · rw [if_neg h2] at ha
        by_cases h3 : p = i
        · rw [if_pos h3] at ha
          cases ha
          have := hinv c hc hcn h1 p x b hp (by rw [h3]; exact hx) hb
          omega
        · rw [if_neg h3] at ha
          exact hinv c hc hcn h1 p a b hp ha hb
  · rw [hget] at ha hb
    rw [if_neg (by omega), if_neg (by omega)] at ha
    have hix := hinv i hi0 (by omega) hji ((i - 1) / 2) a x rfl ha hx
    by_cases h1 : c = j
    · rw [if_pos h1] at hb
      cases hb
      exact hix
    · rw [if_neg h1, if_neg (by omega)] at hb
      have := hinv c hc hcn h1 i x b (by omega) hx hb
      omega
theorem up_end {l : List Les} {j n : Nat} (hinv : ∀ c, 0 < c → c < n → c ≠ j → Rim l c) (hj : ∀ x y, 0 < j → j < n → l[(j - 1) / 2]? = some x → l[j]? = some y → x.e ≤ y.e) : HeapN l n := by
  intro c hc hcn
  by_cases h : c = j
  · subst h
    intro p a b hp ha hb
    subst hp
    exact hj a b hc hcn ha hb
  · exact hinv c hc hcn h
/-- nothing ends ahead of what is on top -/
theorem top_least {l : List Les} {n : Nat} (h : HeapN l n) (hn : n ≤ l.length) {x : Les} (hx : l[0]? = some x) : ∀ k, k < n → ∀ y, l[k]? = some y → x.e ≤ y.e := by
  intro k
  induction k using Nat.strongRecOn with
  | _ k ih =>
    intro hk y hy
    rcases Nat.eq_zero_or_pos k with rfl | h0
    · rw [hx] at hy; cases hy; exact Int.le_refl _
    · have hp : (k - 1) / 2 < k := by omega
      have hz : l[(k - 1) / 2]? = some (l[(k - 1) / 2]'(by omega)) := by simp
      have h1 := ih _ hp (by omega) _ hz
      have h2 := h k h0 hk _ _ y rfl hz hy
      omega
/-- a thing is put behind a heap: the way up begins there -/
theorem push_pre {l : List Les} (h : HeapN l l.length) (x : Les) : (∀ c, 0 < c → c < l.length + 1 → c ≠ l.length → Rim (l ++ [x]) c) ∧ Grand (l ++ [x]) l.length (l.length + 1) := by
  refine ⟨fun c hc hcn hne p a b hp ha hb => ?_, fun c a b h0 hc hcn hpc _ _ => by omega⟩
  rw [List.getElem?_append_left (by omega)] at ha hb
  exact h c hc (by omega) p a b hp ha hb
/-- a thing of a heap is changed -/
theorem fix_pre {l : List Les} {n k : Nat} (h : HeapN l n) (hk : k < n) (hn : n ≤ l.length) (y : Les) : (∀ c, 0 < c → c < n → (c - 1) / 2 ≠ k → c ≠ k → Rim (l.set k y) c) ∧ Grand (l.set k y) k n := by
  refine ⟨fun c hc hcn hpc hck p a b hp ha hb => ?_, fun c a b h0 hc hcn hpc ha hb => ?_⟩
  · rw [List.getElem?_set_ne (by omega)] at ha hb
    exact h c hc hcn p a b hp ha hb
  · rw [List.getElem?_set_ne (by omega)] at ha hb
    have hz : l[k]? = some (l[k]'(by omega)) := by simp
    have h1 := h k h0 hk _ _ _ rfl ha hz
    have h2 := h c hc hcn k _ _ hpc.symm hz hb
    omega
/-- the last thing comes in the place of k -/
theorem take_pre {l : List Les} {n k : Nat} (h : HeapN l (n + 1)) (hk : k < n) (hn : n < l.length) : (∀ c, 0 < c → c < n → (c - 1) / 2 ≠ k → c ≠ k → Rim (swap l k n) c) ∧ Grand (swap l k n) k n := by
  have hx : l[k]? = some (l[k]'(by omega)) := by simp
  have hy : l[n]? = some l[n] := by simp
  have hget := swap_get hx hy
  refine ⟨fun c hc hcn hpc hck p a b hp ha hb => ?_, fun c a b h0 hc hcn hpc ha hb => ?_⟩
  · rw [hget, if_neg (by omega), if_neg (by omega)] at ha hb
    exact h c hc (by omega) p a b hp ha hb
  · rw [hget, if_neg (by omega), if_neg (by omega)] at ha hb
    have h1 := h k h0 (by omega) _ _ _ rfl ha hx
    have h2 := h c hc (by omega) k _ _ hpc.symm hx hb
    omega
theorem HeapN.take {l : List Les} {n : Nat} (h : HeapN l n) : HeapN (l.take n) n := by
  intro c hc hcn p a b hp ha hb
  rw [List.getElem?_take, if_pos (by omega)] at ha hb
  exact h c hc hcn p a b hp ha hb
/-- the way down at i -/
structure DInv (N n i0 : Nat) (l m : List Les) (k : Nat) : Prop where
  len : m.length = N
  perm : m.Perm l
  tail : ∀ q, n ≤ q → m[q]? = l[q]?
  rim : ∀ c, 0 < c → c < n → (c - 1) / 2 ≠ k → (c ≠ i0 ∨ k ≠ i0) → Rim m c
  grand : Grand m k n
  ge : i0 ≤ k
  same : k = i0 → m = l
theorem DInv.step {N n i0 : Nat} {l m : List Les} {k j : Nat} {x y : Les} (h : DInv N n i0 l m k) (hj : j = 2 * k + 1 ∨ j = 2 * k + 2) (hjn : j < n) (hx : m[k]? = some x) (hy : m[j]? = some y) (hlt : y.e < x.e)
    (hmin : ∀ c z, 0 < c → c < n → (c - 1) / 2 = k → m[c]? = some z → y.e ≤ z.e) : DInv N n i0 l (swap m k j) j := by
  have hs := down_step hj hjn hx hy hlt hmin h.rim h.grand
  refine ⟨by rw [swap_len]; exact h.len, (swap_perm m k j).trans h.perm, fun q hq => ?_, fun c h1 h2 h3 _ => hs.1 c h1 h2 h3, hs.2, by have := h.ge; omega, fun e => by have := h.ge; omega⟩
  rw [swap_get hx hy, if_neg (by omega), if_neg (by omega)]
  exact h.tail q hq
theorem DInv.stop {N n i0 : Nat} {l m : List Les} {k : Nat} {x : Les} (h : DInv N n i0 l m k) (hx : m[k]? = some x)
    (hmin : ∀ c z, 0 < c → c < n → (c - 1) / 2 = k → m[c]? = some z → x.e ≤ z.e) : (i0 < k → HeapN m n) ∧ (¬ i0 < k → m = l ∧ ∀ c, 0 < c → c < n → c ≠ i0 → Rim l c) := by
  have he := down_end hx hmin h.rim
  have hg := h.ge
  refine ⟨fun hk c h1 h2 => he c h1 h2 (.inr (by omega)), fun hk => ?_⟩
  have e := h.same (by omega)
  refine ⟨e, fun c h1 h2 h3 => ?_⟩
  rw [← e]
  exact he c h1 h2 (.inl h3)
/-- the lesser of two children -/
theorem min_right {m : List Les} {k n : Nat} {a b : Les} (ha : m[2 * k + 1]? = some a) (hb : m[2 * k + 2]? = some b) (hlt : b.e < a.e) : ∀ c z, 0 < c → c < n → (c - 1) / 2 = k → m[c]? = some z → b.e ≤ z.e := by
  intro c z h0 hc hk hz
  rcases (show c = 2 * k + 1 ∨ c = 2 * k + 2 from by omega) with rfl | rfl
  · rw [ha] at hz; cases hz; omega
  · rw [hb] at hz; cases hz; omega
theorem min_left {m : List Les} {k n : Nat} {a : Les} (ha : m[2 * k + 1]? = some a) (hb : ∀ b, 2 * k + 2 < n → m[2 * k + 2]? = some b → ¬ b.e < a.e) : ∀ c z, 0 < c → c < n → (c - 1) / 2 = k → m[c]? = some z → a.e ≤ z.e := by
  intro c z h0 hc hk hz
  rcases (show c = 2 * k + 1 ∨ c = 2 * k + 2 from by omega) with rfl | rfl
  · rw [ha] at hz; cases hz; omega
  · have := hb z hc hz; omega
/-- the last thing goes -/
theorem take_last {l : List Les} {n : Nat} {x : Les} (hx : l[n]? = some x) (hn : l.length = n + 1) : (x :: l.take n).Perm l := by
  have e : l = l.take n ++ [x] := by
    have h1 := List.take_append_drop n l
    have hd : l.drop n = [x] := by
      apply List.ext_getElem?
      intro k
      rw [List.getElem?_drop]
      cases k with
      | zero => simpa using hx
      | succ k => rw [List.getElem?_eq_none (by omega)]; simp
    rw [hd] at h1
    exact h1.symm
  conv => rhs; rw [e]
  exact (List.perm_append_comm (l₁ := [x]) (l₂ := l.take n))
/-- the top changes places with the last one -/
theorem take_pre' {l : List Les} {n : Nat} (h : HeapN l (n + 1)) (hn : n + 1 = l.length) : (∀ c, 0 < c → c < n → (c - 1) / 2 ≠ 0 → c ≠ 0 → Rim (swap l 0 n) c) ∧ Grand (swap l 0 n) 0 n := by
  rcases Nat.eq_zero_or_pos n with e | e
  · exact ⟨fun c h1 h2 => by omega, fun c a b h1 => by omega⟩
  · exact take_pre h e (by omega)
end Lea
