/- The shelf's sort of a row of things of many cells, in the words of rows. -/
import Derived.Test.YtgjabnpngggcmaaRowG
import Derived.Shelf.GgSortFunc.InsertionK
namespace Go.Mem
open Go Go.RowKit Gf Go.Sort
section
variable {α : Type} {enc : α → List Value} {Wf : α → Prop} {k : Nat} {ti : TypeId} {w : World} {base g n cap : Nat} {l : List α} [Inhabited {x : α // Wf x}]
omit [Inhabited {x : α // Wf x}] in
theorem toS (hwf : ∀ x ∈ l, Wf x) : ∃ d : Array {x : α // Wf x}, d.toList.map (·.1) = l := by
  refine ⟨(l.pmap Subtype.mk hwf).toArray, ?_⟩
  rw [List.toList_toArray, List.map_pmap]
  simp
def encS (enc : α → List Value) (Wf : α → Prop) (x : {x : α // Wf x}) : List Value := enc x.1
theorem flat_all (E : EncK enc Wf k) (d : Array {x : α // Wf x}) {j : Nat} (hj : j < d.size * k) : (allV enc (d.toList.map (·.1)))[j]? = some (flatK (encS enc Wf) k d)[j]! := by
  have e := Nat.div_add_mod' j k
  have hr := Nat.mod_lt j E.pos
  have hq : j / k < d.size := Nat.div_lt_of_lt_mul (by rw [Nat.mul_comm]; exact hj)
  have hx : (d.toList.map (·.1))[j / k]? = some (d[j / k]!).1 := by
    rw [List.getElem?_map, Array.getElem?_toList, getElem!_pos d _ hq, Array.getElem?_eq_getElem hq]; rfl
  have hwf : ∀ x ∈ d.toList.map (·.1), Wf x := fun x hx => by
    obtain ⟨y, _, rfl⟩ := List.mem_map.1 hx
    exact y.2
  have := allV_get E _ hwf (j / k) _ hx (j % k) hr
  rw [e] at this
  rw [this, get_flatK _ _ _ _ hj]
  have hl := E.len _ (d[j / k]!).2
  unfold encS
  generalize d[j / k]! = y at *
  have hl' : j % k < (enc y.1).length := by omega
  rw [getElem!_pos (enc y.1) (j % k) hl', List.getElem?_eq_getElem hl']
theorem RowG.holds (E : EncK enc Wf k) (h : RowG enc Wf k ti w base g n cap l) (d : Array {x : α // Wf x}) (hd : d.toList.map (·.1) = l) : HoldsK (encS enc Wf) k w g 0 d := by
  have hn : d.size = n := by rw [h.len, ← hd]; simp
  intro j hj
  rw [size_flatK] at hj
  rw [Nat.zero_add]
  refine ⟨?_, ?_⟩
  · rw [h.cell (by rw [← hn]; exact hj), ← hd, flat_all E d hj]; rfl
  · obtain ⟨cur, hh, _⟩ := h.block
    have hB : Blk w g cur ti := hh
    exact hB.free _
theorem RowG.put (E : EncK enc Wf k) (h : RowG enc Wf k ti w base g n cap l) (m : Nat) (os : Array Obj) (d : Array {x : α // Wf x}) (hd : d.size = n) :
    RowG enc Wf k ti (grow (putRowK (encS enc Wf) k (Sort.ahead w m) g 0 d) os) base g n cap (d.toList.map (·.1)) ∧ Chg (fun b => b = g) w (grow (putRowK (encS enc Wf) k (Sort.ahead w m) g 0 d) os) := by
  obtain ⟨cur, hh, hb, h1, h2, h3, h4⟩ := h.block
  have hg : g < w.heap.size := lt_of_block hh
  have hlen : (d.toList.map (·.1)).length = n := by simp [hd]
  have hwf : ∀ x ∈ d.toList.map (·.1), Wf x := fun x hx => by
    obtain ⟨y, _, rfl⟩ := List.mem_map.1 hx
    exact y.2
  have hal := allV_len E _ hwf
  rw [hlen] at hal
  have hm : n * k ≤ cap * k := Nat.mul_le_mul_right _ h1
  refine ⟨⟨⟨hal, .inr ⟨g, cap, putCells id 0 (flatK (encS enc Wf) k d) cur, rfl, hb, ?_, h1, h2, by rw [← h3]; simp [putCells], ?_⟩⟩, hlen.symm, hwf⟩, ⟨rfl, rfl, rfl, ?_, fun b hbs hne => ?_⟩⟩
  · rw [heap_grow_old _ _ (by unfold putRowK; rw [size_putRow]; exact hg)]
    show ((w.heap).modify g (onCells _))[g]? = _
    rw [Array.getElem?_modify, if_pos rfl, hh]; rfl
  · apply List.ext_getElem?
    intro j
    rw [List.getElem?_take, Array.getElem?_toList]
    by_cases hj : j < n * k
    · rw [if_pos hj, flat_all E d (by rw [hd]; exact hj)]
      have hjc : j < cur.size := by omega
      unfold putCells
      rw [Array.getElem?_mapIdx, Array.getElem?_eq_getElem hjc, Option.map_some, if_pos ⟨Nat.zero_le _, by rw [size_flatK, hd]; omega⟩]
      rfl
    · rw [if_neg hj, List.getElem?_eq_none (by omega)]
  · rw [size_grow]
    unfold putRowK
    rw [size_putRow]
    exact Nat.le_add_right _ _
  · rw [heap_grow_old _ _ (by unfold putRowK; rw [size_putRow]; exact hbs)]
    show ((w.heap).modify g (onCells _))[b]? = _
    rw [Array.getElem?_modify, if_neg (fun e => hne e.symm)]
theorem permIn_perm {d d' : Array {x : α // Wf x}} (h : PermIn 0 d.size d d') : (d'.toList.map (·.1)).Perm (d.toList.map (·.1)) := by
  have h2 := h.2.2
  have e1 : d.extract 0 d.size = d := by simp
  have e2 : d'.extract 0 d.size = d' := by rw [← h.1]; simp
  rw [e1, e2] at h2
  exact h2.map _
theorem sortedIn_pairwise {lt : α → α → Bool} {d : Array {x : α // Wf x}} {m : Nat} (hm : d.size = m) (h : SortedIn (fun a b => lt a.1 b.1) 0 m d) : (d.toList.map (·.1)).Pairwise fun a b => lt b a = false := by
  rw [List.pairwise_iff_getElem]
  intro i j hi hj hij
  simp at hi hj
  have := h i j (Nat.zero_le _) hij (by omega)
  rw [getElem!_pos d i hi, getElem!_pos d j hj] at this
  simpa using this
end
end Go.Mem
