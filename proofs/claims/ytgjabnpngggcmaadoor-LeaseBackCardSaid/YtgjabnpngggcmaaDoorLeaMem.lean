/- A table of leases as it lies in memory. -/
import Derived.Test.YtgjabnpngggcmaaDoorLeaMath
import Derived.Test.YtgjabnpngggcmaaDoorAppK
import Derived.Test.YtgjabnpngggcmaaDoorCopySet
import Derived.Test.YtgjabnpngggcmaaDoorBKeep
namespace Lea
open Go Go.RowKit Go.Mem Gf
/-- the cells of a lease: its index, its secret, its end -/
def cellsI (x : Les) : List Value := bV x.ix ++ bV x.sec ++ [.int .i64 x.e]
def Wf (x : Les) : Prop := x.ix.length = 16 ∧ x.sec.length = 16
theorem cellsI_len {x : Les} (h : Wf x) : (cellsI x).length = 33 := by
  unfold cellsI
  simp only [List.length_append, bV_len, h.1, h.2, List.length_singleton]
theorem cellsI_end {x : Les} (h : Wf x) : (cellsI x)[32]? = some (.int .i64 x.e) := by
  unfold cellsI
  rw [List.getElem?_append_right (by simp only [List.length_append, bV_len, h.1, h.2]; omega)]
  simp only [List.length_append, bV_len, h.1, h.2]
  rfl
def itemsV (l : List Les) : List Value := l.flatMap cellsI
theorem itemsV_len : ∀ (l : List Les), (∀ x ∈ l, Wf x) → (itemsV l).length = l.length * 33
  | [], _ => rfl
  | x :: l, h => by
    unfold itemsV
    rw [List.flatMap_cons, List.length_append, cellsI_len (h x (by simp))]
    have := itemsV_len l (fun y hy => h y (by simp [hy]))
    unfold itemsV at this
    rw [this, List.length_cons]; omega
theorem itemsV_get : ∀ (l : List Les), (∀ x ∈ l, Wf x) → ∀ (i : Nat) (x : Les), l[i]? = some x → ∀ c, c < 33 → (itemsV l)[i * 33 + c]? = (cellsI x)[c]?
  | y :: l, h, 0, x, hx, c, hc => by
    simp at hx
    subst hx
    unfold itemsV
    rw [List.flatMap_cons, Nat.zero_mul, Nat.zero_add, List.getElem?_append_left (by rw [cellsI_len (h y (by simp))]; exact hc)]
  | y :: l, h, i + 1, x, hx, c, hc => by
    have ih := itemsV_get l (fun z hz => h z (by simp [hz])) i x (by simpa using hx) c hc
    have hl := cellsI_len (h y (by simp))
    unfold itemsV at ih ⊢
    rw [List.flatMap_cons, List.getElem?_append_right (by rw [hl]; omega), hl, show (i + 1) * 33 + c - 33 = i * 33 + c from by omega]
    exact ih
theorem itemsV_app (l m : List Les) : itemsV (l ++ m) = itemsV l ++ itemsV m := by unfold itemsV; rw [List.flatMap_append]
theorem itemsV_take (l : List Les) (h : ∀ x ∈ l, Wf x) : ∀ n, n ≤ l.length → itemsV (l.take n) = (itemsV l).take (n * 33) := by
  intro n hn
  have hw : ∀ x ∈ l.take n, Wf x := fun x hx => h x (List.mem_of_mem_take hx)
  have e := itemsV_app (l.take n) (l.drop n)
  rw [List.take_append_drop] at e
  have hl := itemsV_len _ hw
  rw [List.length_take, Nat.min_eq_left hn] at hl
  have hz : (itemsV l).take (n * 33) = itemsV (l.take n) := by
    rw [e, List.take_append_of_le_length (by omega), List.take_of_length_le (by omega)]
  exact hz.symm
theorem wf_set {l : List Les} (h : ∀ x ∈ l, Wf x) {i : Nat} {y : Les} (hy : Wf y) : ∀ x ∈ l.set i y, Wf x := fun x hx => by
  rcases List.mem_or_eq_of_mem_set hx with h' | rfl
  · exact h x h'
  · exact hy
/-- one lease of many is written -/
theorem itemsV_set (l : List Les) (h : ∀ x ∈ l, Wf x) {i : Nat} (hi : i < l.length) {y : Les} (hy : Wf y) (j : Nat) (hj : j < l.length * 33) :
    (itemsV (l.set i y))[j]? = if i * 33 ≤ j ∧ j < i * 33 + 33 then (cellsI y)[j - i * 33]? else (itemsV l)[j]? := by
  have hq : j / 33 < l.length := by omega
  have hx : l[j / 33]? = some l[j / 33] := by simp
  have e : j = j / 33 * 33 + j % 33 := by omega
  have hr : j % 33 < 33 := by omega
  by_cases c : i * 33 ≤ j ∧ j < i * 33 + 33
  · have hji : j / 33 = i := by omega
    rw [if_pos c]
    have := itemsV_get _ (wf_set h hy) i y (by rw [List.getElem?_set_self hi]) (j % 33) hr
    rw [show j - i * 33 = j % 33 from by omega, ← this]
    congr 1
    omega
  · have hji : i ≠ j / 33 := by omega
    rw [if_neg c]
    have h1 := itemsV_get _ (wf_set h hy) (j / 33) _ (by rw [List.getElem?_set_ne hji]; exact hx) (j % 33) hr
    have h2 := itemsV_get l h (j / 33) _ hx (j % 33) hr
    rw [← e] at h1 h2
    rw [h1, h2]
theorem one_cellsI (x : Les) : ∀ v ∈ cellsI x, v.oneCell' = true := by
  intro v hv
  unfold cellsI at hv
  rcases List.mem_append.1 hv with hv | hv
  · rcases List.mem_append.1 hv with hv | hv
    · exact bV_one _ v hv
    · exact bV_one _ v hv
  · rw [List.mem_singleton.1 hv]; rfl
/-- a row of leases of a call's own -/
structure Row (ti : TypeId) (w : World) (base g n cap : Nat) (l : List Les) : Prop where
  own : w.ownsRow base ti 33 (.slice (some ⟨g, 0, none⟩) n cap) n (itemsV l)
  len : n = l.length
  wf : ∀ x ∈ l, Wf x
section
variable {ti : TypeId} {w : World} {base g n cap : Nat} {l : List Les}
theorem Row.block (h : Row ti w base g n cap l) : ∃ cur : Array Value, w.heap[g]? = some (.cells cur ti (0, 0)) ∧ base ≤ g ∧ n ≤ cap ∧ cap ≤ maxLen ∧ cur.size = cap * 33 ∧ ∀ j, j < n * 33 → cur[j]? = (itemsV l)[j]? := by
  rcases h.own.2 with ⟨e, _⟩ | ⟨g', cap', cur, e, hb, hh, h1, h2, h3, h4⟩
  · cases e
  · cases e
    refine ⟨cur, hh, hb, h1, h2, h3, fun j hj => ?_⟩
    rw [← h4, List.getElem?_take, if_pos hj, Array.getElem?_toList]
theorem Row.cell (h : Row ti w base g n cap l) {j : Nat} (hj : j < n * 33) : w.cell? ⟨g, j, none⟩ = (itemsV l)[j]? := by
  obtain ⟨cur, hh, _, _, _, _, hc⟩ := h.block
  rw [← hc j hj]
  have hB : Blk w g cur ti := hh
  exact hB.cell j
theorem Row.range (h : Row ti w base g n cap l) {i : Nat} {x : Les} (hx : l[i]? = some x) : w.rangeAt g (i * 33) (cellsI x) := fun j v hv => by
  have hi : i < l.length := by
    rcases Nat.lt_or_ge i l.length with h | h
    · exact h
    · rw [List.getElem?_eq_none h] at hx; cases hx
  have hj : j < 33 := by
    rcases Nat.lt_or_ge j 33 with h' | h'
    · exact h'
    · rw [List.getElem?_eq_none (by rw [cellsI_len (h.wf x (List.mem_of_getElem? hx))]; exact h')] at hv; cases hv
  rw [h.cell (by have := h.len; omega), itemsV_get l h.wf i x hx j hj]
  exact hv
theorem Row.ends (h : Row ti w base g n cap l) {i : Nat} {x : Les} (hx : l[i]? = some x) : w.cell? ⟨g, i * 33 + 32, none⟩ = some (.int .i64 x.e) :=
  h.range hx 32 _ (cellsI_end (h.wf x (List.mem_of_getElem? hx)))
theorem Row.there (h : Row ti w base g n cap l) {i : Nat} (hi : i < n) : w.there g (i * 33) 33 := fun j hj => by
  obtain ⟨cur, hh, _, h1, _, h3, _⟩ := h.block
  have hB : Blk w g cur ti := hh
  exact ⟨by rw [hB.cell]; simp; omega, hB.free _⟩
theorem Row.set (h : Row ti w base g n cap l) {i : Nat} (hi : i < n) {y : Les} (hy : Wf y) : Row ti (w.setCells g (i * 33) (cellsI y)) base g n cap (l.set i y) := by
  obtain ⟨cur, hh, hb, h1, h2, h3, h4⟩ := h.block
  have hB : Blk w g cur ti := hh
  obtain ⟨cur', b1, b2, b3⟩ := Blk.setCells (cellsI y) (i * 33) w cur hB
  have hll := h.len
  refine ⟨⟨?_, .inr ⟨g, cap, cur', rfl, hb, b1, h1, h2, by rw [b2, h3], ?_⟩⟩, by rw [List.length_set]; exact hll, wf_set h.wf hy⟩
  · rw [itemsV_len _ (wf_set h.wf hy), List.length_set, hll]
  · apply List.ext_getElem?
    intro j
    have hlen := itemsV_len _ (wf_set h.wf hy (i := i))
    rw [List.length_set] at hlen
    rw [List.getElem?_take, Array.getElem?_toList]
    by_cases hj : j < n * 33
    · have hm : n * 33 ≤ cap * 33 := Nat.mul_le_mul_right _ h1
      rw [if_pos hj, b3 j (by omega), itemsV_set l h.wf (by omega) hy j (by omega), cellsI_len hy, h4 j hj]
    · rw [if_neg hj, List.getElem?_eq_none (by omega)]
theorem Row.take (h : Row ti w base g n cap l) {k : Nat} (hk : k ≤ n) : Row ti w base g (l.take k).length cap (l.take k) := by
  have hll := h.len
  have hk2 : (l.take k).length = k := by rw [List.length_take]; omega
  have hw : ∀ x ∈ l.take k, Wf x := fun x hx => h.wf x (List.mem_of_mem_take hx)
  obtain ⟨cur, hh, hb, h1, h2, h3, h4⟩ := h.block
  refine ⟨⟨itemsV_len _ hw, .inr ⟨g, cap, cur, rfl, hb, hh, by omega, h2, h3, ?_⟩⟩, rfl, hw⟩
  rw [hk2, itemsV_take l h.wf k (by omega)]
  apply List.ext_getElem?
  intro j
  rw [List.getElem?_take, List.getElem?_take, Array.getElem?_toList]
  by_cases hj : j < k * 33
  · rw [if_pos hj, if_pos hj, h4 j (by omega)]
  · rw [if_neg hj, if_neg hj]
theorem Row.drew (h : Row ti w base g n cap l) : Row ti w.drew base g n cap l := ⟨h.own, h.len, h.wf⟩
theorem Row.drewN (h : Row ti w base g n cap l) (d : Nat) : Row ti (w.drewN d) base g n cap l := ⟨h.own, h.len, h.wf⟩
end
theorem wf_swap {l : List Les} (h : ∀ x ∈ l, Wf x) (i j : Nat) : ∀ x ∈ swap l i j, Wf x := fun x hx => h x ((swap_perm l i j).mem_iff.1 hx)
end Lea
