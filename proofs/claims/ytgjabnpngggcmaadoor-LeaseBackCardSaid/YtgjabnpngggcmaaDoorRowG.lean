/- Rows of things of many cells, at any thing. -/
import Derived.Test.YtgjabnpngggcmaaDoorAppK
import Derived.Test.YtgjabnpngggcmaaDoorCopySet
import Derived.Test.YtgjabnpngggcmaaDoorBKeep
import Derived.Test.YtgjabnpngggcmaaDoorLongOp
namespace Go.Mem
open Go Go.RowKit Gf
/-- how things lie in cells -/
structure EncK {α : Type} (enc : α → List Value) (Wf : α → Prop) (k : Nat) : Prop where
  len : ∀ x, Wf x → (enc x).length = k
  one : ∀ x v, v ∈ enc x → v.oneCell' = true
  pos : 0 < k
def allV {α : Type} (enc : α → List Value) (l : List α) : List Value := l.flatMap enc
section
variable {α : Type} {enc : α → List Value} {Wf : α → Prop} {k : Nat}
theorem allV_len (E : EncK enc Wf k) : ∀ (l : List α), (∀ x ∈ l, Wf x) → (allV enc l).length = l.length * k
  | [], _ => by simp [allV]
  | x :: l, h => by
    have := allV_len E l (fun y hy => h y (by simp [hy]))
    unfold allV at this ⊢
    rw [List.flatMap_cons, List.length_append, E.len x (h x (by simp)), this, List.length_cons, Nat.add_mul]; omega
theorem allV_get (E : EncK enc Wf k) : ∀ (l : List α), (∀ x ∈ l, Wf x) → ∀ (i : Nat) (x : α), l[i]? = some x → ∀ c, c < k → (allV enc l)[i * k + c]? = (enc x)[c]?
  | y :: l, h, 0, x, hx, c, hc => by
    simp at hx
    subst hx
    unfold allV
    rw [List.flatMap_cons, Nat.zero_mul, Nat.zero_add, List.getElem?_append_left (by rw [E.len y (h y (by simp))]; exact hc)]
  | y :: l, h, i + 1, x, hx, c, hc => by
    have ih := allV_get E l (fun z hz => h z (by simp [hz])) i x (by simpa using hx) c hc
    have hl := E.len y (h y (by simp))
    unfold allV at ih ⊢
    have e : (i + 1) * k + c = k + (i * k + c) := by rw [Nat.add_mul]; omega
    rw [List.flatMap_cons, List.getElem?_append_right (by rw [hl]; omega), hl, e, Nat.add_sub_cancel_left]
    exact ih
theorem allV_app (l m : List α) : allV enc (l ++ m) = allV enc l ++ allV enc m := by unfold allV; rw [List.flatMap_append]
theorem allV_one (x : α) : allV enc [x] = enc x := by simp [allV]
theorem allV_news (E : EncK enc Wf k) (l : List α) : ∀ u ∈ allV enc l, u.oneCell' = true := fun u hu => by
  obtain ⟨x, _, hx⟩ := List.mem_flatMap.1 hu
  exact E.one x u hx
theorem wfG_set {l : List α} (h : ∀ x ∈ l, Wf x) {i : Nat} {y : α} (hy : Wf y) : ∀ x ∈ l.set i y, Wf x := fun x hx => by
  rcases List.mem_or_eq_of_mem_set hx with h' | rfl
  · exact h x h'
  · exact hy
theorem at_div {i j k : Nat} (hk : 0 < k) : (i * k ≤ j ∧ j < i * k + k) ↔ j / k = i := by
  have e := Nat.div_add_mod' j k
  have hr := Nat.mod_lt j hk
  constructor
  · rintro ⟨h1, h2⟩
    exact Nat.div_eq_of_lt_le h1 (by rw [Nat.add_mul]; omega)
  · intro h
    subst h
    omega
theorem allV_set (E : EncK enc Wf k) (l : List α) (h : ∀ x ∈ l, Wf x) {i : Nat} {y : α} (hy : Wf y) (hi : i < l.length) (j : Nat) (hj : j < l.length * k) :
    (allV enc (l.set i y))[j]? = if i * k ≤ j ∧ j < i * k + k then (enc y)[j - i * k]? else (allV enc l)[j]? := by
  have e := Nat.div_add_mod' j k
  have hr := Nat.mod_lt j E.pos
  have hq : j / k < l.length := Nat.div_lt_of_lt_mul (by rw [Nat.mul_comm]; exact hj)
  have hx : l[j / k]? = some l[j / k] := by simp
  by_cases c : i * k ≤ j ∧ j < i * k + k
  · rw [if_pos c]
    have hji := (at_div E.pos).1 c
    have := allV_get E _ (wfG_set h hy) i y (by rw [List.getElem?_set_self hi]) (j % k) hr
    rw [← hji, e] at this
    rw [← hji, this]
    congr 1
    omega
  · rw [if_neg c]
    have hji : i ≠ j / k := fun h' => c ((at_div E.pos).2 h'.symm)
    have h1 := allV_get E _ (wfG_set h hy) (j / k) _ (by rw [List.getElem?_set_ne hji]; exact hx) (j % k) hr
    have h2 := allV_get E l h (j / k) _ hx (j % k) hr
    rw [e] at h1 h2
    rw [h1, h2]
end
/-- a row of things that is the call's own, maybe empty -/
structure OwnG {α : Type} (enc : α → List Value) (Wf : α → Prop) (k : Nat) (ti : TypeId) (w : World) (base : Nat) (v : Value) (l : List α) : Prop where
  own : w.ownsRow base ti k v l.length (allV enc l)
  wf : ∀ x ∈ l, Wf x
/-- a row of things with a block of its own -/
structure RowG {α : Type} (enc : α → List Value) (Wf : α → Prop) (k : Nat) (ti : TypeId) (w : World) (base g n cap : Nat) (l : List α) : Prop where
  own : w.ownsRow base ti k (.slice (some ⟨g, 0, none⟩) n cap) n (allV enc l)
  len : n = l.length
  wf : ∀ x ∈ l, Wf x
section
variable {α : Type} {enc : α → List Value} {Wf : α → Prop} {k : Nat} {ti : TypeId} {w : World} {base g n cap : Nat} {l : List α} {v : Value}
theorem OwnG.nil (enc : α → List Value) (Wf : α → Prop) (k : Nat) (ti : TypeId) (w : World) (base : Nat) : OwnG enc Wf k ti w base (.slice none 0 0) ([] : List α) :=
  ⟨World.ownsRow_nil w base ti k, fun _ h => by cases h⟩
theorem OwnG.empty (h : OwnG enc Wf k ti w base v l) (h0 : l = []) : ∃ p c, v = .slice p 0 c := by
  subst h0
  rcases h.own.2 with ⟨e, _⟩ | ⟨g, cap, _, e, _⟩
  · exact ⟨_, _, e⟩
  · exact ⟨_, _, e⟩
theorem OwnG.ex (h : OwnG enc Wf k ti w base v l) (h0 : 0 < l.length) : ∃ g cap, v = .slice (some ⟨g, 0, none⟩) l.length cap ∧ RowG enc Wf k ti w base g l.length cap l := by
  rcases h.own.2 with ⟨_, e⟩ | ⟨g, cap, cur, e, _⟩
  · omega
  · exact ⟨g, cap, e, by rw [← e]; exact h.own, rfl, h.wf⟩
theorem OwnG.slice (h : OwnG enc Wf k ti w base v l) : ∃ p c, v = .slice p l.length c := by
  obtain ⟨a, c, e, _⟩ := own_eq_slice h.own
  exact ⟨a, c, e⟩
theorem OwnG.chg {S : Nat → Prop} {w' : World} (h : OwnG enc Wf k ti w base v l) (hc : Chg S w w') (hs : ∀ g, v.ownBlock = some g → ¬ S g) : OwnG enc Wf k ti w' base v l := ⟨own_chg h.own hc hs, h.wf⟩
theorem OwnG.drewN (h : OwnG enc Wf k ti w base v l) (d : Nat) : OwnG enc Wf k ti (w.drewN d) base v l := ⟨h.own, h.wf⟩
theorem OwnG.lower {b : Nat} (h : OwnG enc Wf k ti w base v l) (hb : b ≤ base) : OwnG enc Wf k ti w b v l := by
  refine ⟨⟨h.own.1, ?_⟩, h.wf⟩
  rcases h.own.2 with e | ⟨g, cap, cur, e, h1, h2⟩
  · exact .inl e
  · exact .inr ⟨g, cap, cur, e, by omega, h2⟩
theorem RowG.to (h : RowG enc Wf k ti w base g n cap l) : OwnG enc Wf k ti w base (.slice (some ⟨g, 0, none⟩) n cap) l := ⟨by rw [← h.len]; exact h.own, h.wf⟩
theorem RowG.block (h : RowG enc Wf k ti w base g n cap l) : ∃ cur : Array Value, w.heap[g]? = some (.cells cur ti (0, 0)) ∧ base ≤ g ∧ n ≤ cap ∧ cap ≤ maxLen ∧ cur.size = cap * k ∧ ∀ j, j < n * k → cur[j]? = (allV enc l)[j]? := by
  rcases h.own.2 with ⟨e, _⟩ | ⟨g', cap', cur, e, hb, hh, h1, h2, h3, h4⟩
  · cases e
  · cases e
    refine ⟨cur, hh, hb, h1, h2, h3, fun j hj => ?_⟩
    rw [← h4, List.getElem?_take, if_pos hj, Array.getElem?_toList]
theorem RowG.cell (h : RowG enc Wf k ti w base g n cap l) {j : Nat} (hj : j < n * k) : w.cell? ⟨g, j, none⟩ = (allV enc l)[j]? := by
  obtain ⟨cur, hh, _, _, _, _, hc⟩ := h.block
  rw [← hc j hj]
  have hB : Blk w g cur ti := hh
  exact hB.cell j
theorem some_lt {l : List α} {i : Nat} {x : α} (hx : l[i]? = some x) : i < l.length := by
  rcases Nat.lt_or_ge i l.length with h | h
  · exact h
  · rw [List.getElem?_eq_none h] at hx; cases hx
theorem in_row {i n k c : Nat} (hi : i < n) (hc : c < k) : i * k + c < n * k := by
  have := Nat.mul_le_mul_right k (show i + 1 ≤ n from hi)
  rw [Nat.add_mul, Nat.one_mul] at this
  omega
theorem RowG.range (E : EncK enc Wf k) (h : RowG enc Wf k ti w base g n cap l) {i : Nat} {x : α} (hx : l[i]? = some x) : w.rangeAt g (i * k) (enc x) := fun j v hv => by
  have hi := some_lt hx
  have hj : j < k := by
    have := some_lt hv
    rwa [E.len x (h.wf x (List.mem_of_getElem? hx))] at this
  rw [h.cell (in_row (by rw [h.len]; exact hi) hj), allV_get E l h.wf i x hx j hj]
  exact hv
theorem RowG.there (h : RowG enc Wf k ti w base g n cap l) {i : Nat} (hi : i < n) : w.there g (i * k) k := fun j hj => by
  obtain ⟨cur, hh, _, h1, _, h3, _⟩ := h.block
  have hB : Blk w g cur ti := hh
  have := in_row (k := k) hi hj
  have := Nat.mul_le_mul_right k h1
  exact ⟨by rw [hB.cell]; simp; omega, hB.free _⟩
theorem RowG.read (E : EncK enc Wf k) (h : RowG enc Wf k ti w base g n cap l) {i : Nat} {x : α} (hx : l[i]? = some x) : readK k w g (i * k) = enc x := readK_eq (h.range E hx) (E.len x (h.wf x (List.mem_of_getElem? hx)))
theorem RowG.set (E : EncK enc Wf k) (h : RowG enc Wf k ti w base g n cap l) {i : Nat} (hi : i < n) {y : α} (hy : Wf y) : RowG enc Wf k ti (w.setCells g (i * k) (enc y)) base g n cap (l.set i y) := by
  obtain ⟨cur, hh, hb, h1, h2, h3, h4⟩ := h.block
  have hB : Blk w g cur ti := hh
  obtain ⟨cur', b1, b2, b3⟩ := Blk.setCells (enc y) (i * k) w cur hB
  have hll := h.len
  have hm : n * k ≤ cap * k := Nat.mul_le_mul_right _ h1
  refine ⟨⟨?_, .inr ⟨g, cap, cur', rfl, hb, b1, h1, h2, by rw [b2, h3], ?_⟩⟩, by rw [List.length_set]; exact hll, wfG_set h.wf hy⟩
  · rw [allV_len E _ (wfG_set h.wf hy), List.length_set, hll]
  · apply List.ext_getElem?
    intro j
    have hlen := allV_len E _ (wfG_set h.wf hy (i := i))
    rw [List.length_set, ← hll] at hlen
    rw [List.getElem?_take, Array.getElem?_toList]
    by_cases hj : j < n * k
    · rw [if_pos hj, b3 j (by omega), allV_set E l h.wf hy (by omega) j (by rw [← hll]; exact hj), E.len y hy, h4 j hj]
    · rw [if_neg hj, List.getElem?_eq_none (by omega)]
theorem RowG.drewN (h : RowG enc Wf k ti w base g n cap l) (d : Nat) : RowG enc Wf k ti (w.drewN d) base g n cap l := ⟨h.own, h.len, h.wf⟩
theorem RowG.chg {S : Nat → Prop} {w' : World} (h : RowG enc Wf k ti w base g n cap l) (hc : Chg S w w') (hs : ¬ S g) : RowG enc Wf k ti w' base g n cap l := ⟨own_chg h.own hc (fun q hq => by cases hq; exact hs), h.len, h.wf⟩
theorem RowG.lt (h : RowG enc Wf k ti w base g n cap l) : g < w.heap.size := by
  obtain ⟨cur, hh, _⟩ := h.block
  exact lt_of_block hh
end
end Go.Mem
