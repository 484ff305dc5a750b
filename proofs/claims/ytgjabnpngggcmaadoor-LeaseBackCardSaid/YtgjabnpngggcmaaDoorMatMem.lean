/- Plain facts on memory: slices of slices of bytes; matrices that a call has made. No program in sight. -/
import Derived.Test.YtgjabnpngggcmaaDoorMem2
import Derived.Test.YtgjabnpngggcmaaDoorMatMath
namespace Go.Mem
open Go Go.RowKit Gf

theorem madeCells_rows (k : Nat) : madeCells #[.slice none 0 0] k = Array.replicate k (.slice none 0 0) := by
  apply Array.ext
  · simp [madeCells]
  · intro i h1 h2
    simp [madeCells, Nat.mod_one]
theorem make_rows {P : Program} (t e : TypeId) (ht : P.underlying t = some (.slice e)) (hi : (P.info? e).map (fun i => (i.zero, i.size, i.bytes)) = some (some (.slice none 0 0), 1, 24))
    (k : Nat) (hk : k ≤ 8796093022208) (w : World) :
    (Instr.makeSlice t (.int .i64 (k : Int)) (.int .i64 (k : Int))).run P w = .ok (.slice (some ⟨w.heap.size, 0, none⟩) k k) (w.alloc (.cells (Array.replicate k (.slice none 0 0)) e)) := by
  obtain ⟨i, hi, hz, hs, hb⟩ := info_parts hi
  have := run_make (P := P) w t e i (.slice none 0 0) ht hi hz .i64 .i64 k k (by omega) (Int.le_refl _) (by rw [hb]; omega) (by omega)
  rw [hs] at this
  simp only [Int.toNat_natCast, Nat.mul_one, Value.cells, madeCells_rows] at this
  exact this

/-- the value v is a slice of rows of just these bytes -/
def Rws (w : World) (v : Value) (rs : List (List UInt8)) : Prop :=
  ∃ a cap, v = .slice a rs.length cap ∧ rs.length ≤ cap ∧ cap ≤ maxLen ∧
    (0 < rs.length → ∃ b off, a = some ⟨b, off, none⟩ ∧ ∀ (i : Nat) (r : List UInt8), rs[i]? = some r → ∃ v', w.cell? ⟨b, off + i, none⟩ = some v' ∧ Bys w v' r)
theorem Rws.nil (w : World) : Rws w (.slice none 0 0) [] := ⟨none, 0, rfl, Nat.le_refl _, Nat.zero_le _, fun h => by simp at h⟩
theorem Rws.len {w : World} {v : Value} {rs : List (List UInt8)} (h : Rws w v rs) : rs.length ≤ 9223372036854775807 := by
  obtain ⟨a, cap, _, h1, h2, _⟩ := h
  unfold maxLen at h2; omega
theorem Rws.below {w w' : World} {v : Value} {rs : List (List UInt8)} (h : Rws w v rs) (hb : Below w.heap.size w w') : Rws w' v rs := by
  obtain ⟨a, cap, h0, h1, h2, h3⟩ := h
  refine ⟨a, cap, h0, h1, h2, fun hp => ?_⟩
  obtain ⟨b, off, e, hc⟩ := h3 hp
  refine ⟨b, off, e, fun i r hi => ?_⟩
  obtain ⟨v', hv, hr⟩ := hc i r hi
  exact ⟨v', by rw [hb.cell (p := ⟨b, off + i, none⟩) (World.block_lt_of_cell? w _ hv)]; exact hv, hr.below hb⟩
theorem Rws.drew {w : World} {v : Value} {rs : List (List UInt8)} (h : Rws w v rs) : Rws w.drew v rs := h
theorem Rws.drewN {w : World} {v : Value} {rs : List (List UInt8)} (h : Rws w v rs) (n : Nat) : Rws (w.drewN n) v rs := h
/-- a row of rows, as the walk asks for it -/
theorem Rws.at {w : World} {a : Option Addr} {n cap : Nat} {rs : List (List UInt8)} (h : Rws w (.slice a n cap) rs) (k : Nat) (hk : k < rs.length) :
    ∃ b off r v', a = some ⟨b, off, none⟩ ∧ Hid (rs[k]? = some r) ∧ w.cell? ⟨b, off + k, none⟩ = some v' ∧ Bys w v' r := by
  obtain ⟨a', cap', e, h1, h2, h3⟩ := h
  obtain ⟨b, off, e', hc⟩ := h3 (by omega)
  injection e with e1 e2 e3
  obtain ⟨v', hv, hr⟩ := hc k rs[k] (by simp [hk])
  exact ⟨b, off, rs[k], v', e1.trans e', by show rs[k]? = _; simp [hk], hv, hr⟩

/-- the cells of a row of m bytes -/
def rowArr (m : Nat) (f : Nat → UInt8) : Array Value := (Array.range m).map fun k => .int .u8 ((f k).toNat : Int)
theorem rowArr_size (m : Nat) (f : Nat → UInt8) : (rowArr m f).size = m := by simp [rowArr]
theorem rowArr_get (m : Nat) (f : Nat → UInt8) (k : Nat) (hk : k < m) : (rowArr m f)[k]? = some (.int .u8 ((f k).toNat : Int)) := by
  simp [rowArr, hk]
theorem rowArr_set (m : Nat) (f : Nat → UInt8) (k : Nat) (u : UInt8) : (rowArr m f).setIfInBounds k (.int .u8 (u.toNat : Int)) = rowArr m (fun j => if j = k then u else f j) := by
  apply Array.ext_getElem?
  intro i
  rw [Array.getElem?_setIfInBounds]
  by_cases hi : i < m
  · rw [rowArr_get m (fun j => if j = k then u else f j) _ hi]
    by_cases e : k = i
    · subst e; simp [rowArr_size, hi]
    · rw [if_neg e, rowArr_get _ _ _ hi, if_neg (fun e' => e e'.symm)]
  · have h1 : (rowArr m (fun j => if j = k then u else f j))[i]? = none := Array.getElem?_eq_none (by rw [rowArr_size]; omega)
    have h2 : (rowArr m f)[i]? = none := Array.getElem?_eq_none (by rw [rowArr_size]; omega)
    rw [h1, h2]
    split
    · rename_i e; subst e; rw [if_neg (by rw [rowArr_size]; exact hi)]
    · rfl
theorem rowArr_congr {m : Nat} {f g : Nat → UInt8} (h : ∀ k, k < m → f k = g k) : rowArr m f = rowArr m g := by
  apply Array.ext
  · simp [rowArr_size]
  · intro i h1 h2
    rw [rowArr_size] at h1
    simp only [rowArr, Array.getElem_map, Array.getElem_range]
    rw [h i h1]
theorem rowArr_zero (m : Nat) : Array.replicate m (Value.int .u8 0) = rowArr m (fun _ => 0) := by
  apply Array.ext
  · simp [rowArr_size]
  · intro i h1 h2
    simp [rowArr]
/-- the list of a row -/
def rowL (m : Nat) (f : Nat → UInt8) : List UInt8 := (List.range m).map f
theorem rowL_len (m : Nat) (f : Nat → UInt8) : (rowL m f).length = m := by simp [rowL]
theorem rowL_get (m : Nat) (f : Nat → UInt8) (k : Nat) (hk : k < m) : (rowL m f)[k]? = some (f k) := by simp [rowL, hk]
theorem Blk.row {w : World} {b : Nat} {t : TypeId} {m : Nat} {f : Nat → UInt8} (h : Blk w b (rowArr m f) t) (hm : m ≤ 9223372036854775807) : Bys w (.slice (some ⟨b, 0, none⟩) m m) (rowL m f) := by
  have := h.bys (bs := rowL m f) (cap := m) (by rw [rowL_len]; exact Nat.le_refl _) (maxLen_ge hm) (fun i u hi => by
    have hlt : i < m := by
      rcases Nat.lt_or_ge i m with h' | h'
      · exact h'
      · rw [List.getElem?_eq_none (by rw [rowL_len]; exact h')] at hi; cases hi
    rw [rowL_get _ _ _ hlt] at hi; cases hi
    exact rowArr_get _ _ _ hlt)
  rw [rowL_len] at this; exact this

/-- the rows of a matrix as lists -/
def rowsL (n m : Nat) (F : Mx) : List (List UInt8) := (List.range n).map fun i => rowL m (F i)
theorem rowsL_len (n m : Nat) (F : Mx) : (rowsL n m F).length = n := by simp [rowsL]
theorem rowsL_get (n m : Nat) (F : Mx) (i : Nat) (hi : i < n) : (rowsL n m F)[i]? = some (rowL m (F i)) := by simp [rowsL, hi]
theorem rowL_congr {m : Nat} {f g : Nat → UInt8} (h : ∀ k, k < m → f k = g k) : rowL m f = rowL m g := by
  unfold rowL; exact List.map_congr_left fun k hk => h k (List.mem_range.1 hk)
theorem rowsL_congr {n m : Nat} {F G : Mx} (h : EqM n m F G) : rowsL n m F = rowsL n m G := by
  unfold rowsL; exact List.map_congr_left fun i hi => rowL_congr (h i (List.mem_range.1 hi))

/-- the pointer to the row in block b, of m bytes -/
def rowV (m b : Nat) : Value := .slice (some ⟨b, 0, none⟩) m m
/-- A MATRIX THAT A CALL HAS MADE: the outer row in block X, the rows in the blocks ids 0, ids 1, .., all of them unlike, from base on. -/
structure OwnM (t8 tr : TypeId) (w : World) (base X : Nat) (ids : Nat → Nat) (n m : Nat) (F : Mx) : Prop where
  outer : ∃ arr, Blk w X arr tr ∧ arr.size = n ∧ ∀ i, i < n → arr[i]? = some (rowV m (ids i))
  rows : ∀ i, i < n → Blk w (ids i) (rowArr m (F i)) t8
  unlike : ∀ i j, i < n → j < n → ids i = ids j → i = j
  apart : ∀ i, i < n → ids i ≠ X
  low : base ≤ X ∧ ∀ i, i < n → base ≤ ids i
section
variable {t8 tr : TypeId} {w w' : World} {base X n m : Nat} {ids : Nat → Nat} {F G : Mx}
theorem OwnM.rws (h : OwnM t8 tr w base X ids n m F) (hn : n ≤ 9223372036854775807) (hm : m ≤ 9223372036854775807) : Rws w (.slice (some ⟨X, 0, none⟩) n n) (rowsL n m F) := by
  obtain ⟨arr, hb, hs, hg⟩ := h.outer
  refine ⟨_, n, by rw [rowsL_len], by rw [rowsL_len]; exact Nat.le_refl _, maxLen_ge hn, fun _ => ⟨X, 0, rfl, fun i r hi => ?_⟩⟩
  have hlt : i < n := by
    rcases Nat.lt_or_ge i n with h' | h'
    · exact h'
    · rw [List.getElem?_eq_none (by rw [rowsL_len]; exact h')] at hi; cases hi
  rw [rowsL_get _ _ _ _ hlt] at hi; cases hi
  exact ⟨_, by rw [Nat.zero_add, hb.cell]; exact hg i hlt, (h.rows i hlt).row hm⟩
theorem OwnM.congr (h : OwnM t8 tr w base X ids n m F) (hF : EqM n m F G) : OwnM t8 tr w base X ids n m G :=
  ⟨h.outer, fun i hi => by rw [← rowArr_congr (hF i hi)]; exact h.rows i hi, h.unlike, h.apart, h.low⟩
/-- what leaves the blocks of the matrix as they were -/
theorem OwnM.kept (h : OwnM t8 tr w base X ids n m F) (hk : ∀ b, (b = X ∨ ∃ i, i < n ∧ b = ids i) → w'.heap[b]? = w.heap[b]?) : OwnM t8 tr w' base X ids n m F := by
  obtain ⟨arr, hb, hs, hg⟩ := h.outer
  refine ⟨⟨arr, ?_, hs, hg⟩, fun i hi => ?_, h.unlike, h.apart, h.low⟩
  · unfold Blk at *; rw [hk X (.inl rfl)]; exact hb
  · have := h.rows i hi
    unfold Blk at *; rw [hk _ (.inr ⟨i, hi, rfl⟩)]; exact this
theorem OwnM.lt (h : OwnM t8 tr w base X ids n m F) : X < w.heap.size ∧ ∀ i, i < n → ids i < w.heap.size := by
  obtain ⟨arr, hb, _⟩ := h.outer
  exact ⟨hb.lt, fun i hi => (h.rows i hi).lt⟩
theorem OwnM.below (h : OwnM t8 tr w base X ids n m F) (hb : Below w.heap.size w w') : OwnM t8 tr w' base X ids n m F :=
  h.kept fun b hbb => hb.block b (by rcases hbb with rfl | ⟨i, hi, rfl⟩; exact h.lt.1; exact h.lt.2 i hi)
theorem OwnM.drewN (h : OwnM t8 tr w base X ids n m F) (d : Nat) : OwnM t8 tr (w.drewN d) base X ids n m F := h.kept fun _ _ => rfl
theorem OwnM.mono (h : OwnM t8 tr w base X ids n m F) {base' : Nat} (hb : base' ≤ base) : OwnM t8 tr w base' X ids n m F :=
  ⟨h.outer, h.rows, h.unlike, h.apart, Nat.le_trans hb h.low.1, fun i hi => Nat.le_trans hb (h.low.2 i hi)⟩
/-- a cell of a row is written -/
theorem OwnM.set (h : OwnM t8 tr w base X ids n m F) {i k : Nat} (hi : i < n) (u : UInt8) :
    OwnM t8 tr (w.setCell ⟨ids i, k, none⟩ (.int .u8 (u.toNat : Int))) base X ids n m (fun a b => if a = i ∧ b = k then u else F a b) := by
  obtain ⟨arr, hb, hs, hg⟩ := h.outer
  refine ⟨⟨arr, hb.set_other (h.apart i hi) _, hs, hg⟩, fun a ha => ?_, h.unlike, h.apart, h.low⟩
  by_cases e : a = i
  · subst e
    have := (h.rows a ha).set k (.int .u8 (u.toNat : Int))
    rw [rowArr_set] at this
    have e2 : rowArr m (fun j => if j = k then u else F a j) = rowArr m ((fun a' b => if a' = a ∧ b = k then u else F a' b) a) := rowArr_congr fun j _ => by simp
    rw [← e2]; exact this
  · have e2 : rowArr m ((fun a' b => if a' = i ∧ b = k then u else F a' b) a) = rowArr m (F a) := rowArr_congr fun j _ => by simp [e]
    rw [e2]
    exact (h.rows a ha).set_other (fun e' => e (h.unlike i a hi ha e').symm) _
/-- the cell of the outer row, and a cell of a row, as the walk asks for them -/
theorem OwnM.ptr (h : OwnM t8 tr w base X ids n m F) (i : Nat) (hi : i < n) : w.cell? ⟨X, i, none⟩ = some (.slice (some ⟨ids i, 0, none⟩) m m) := by
  obtain ⟨arr, hb, _, hg⟩ := h.outer
  rw [hb.cell]; exact hg i hi
theorem OwnM.cell (h : OwnM t8 tr w base X ids n m F) (i k : Nat) (hi : i < n) (hk : k < m) : w.cell? ⟨ids i, k, none⟩ = some (.int .u8 ((F i k).toNat : Int)) := by
  rw [(h.rows i hi).cell]; exact rowArr_get _ _ _ hk
theorem OwnM.free (h : OwnM t8 tr w base X ids n m F) (i k : Nat) (hi : i < n) : w.frozen? ⟨ids i, k, none⟩ = false := (h.rows i hi).free k
end
/-- the same with rows yet to be made: behind i of n -/
structure OwnP (t8 tr : TypeId) (w : World) (base X : Nat) (ids : Nat → Nat) (n i m : Nat) (F : Mx) : Prop where
  outer : ∃ arr, Blk w X arr tr ∧ arr.size = n ∧ (∀ j, j < i → arr[j]? = some (rowV m (ids j))) ∧ ∀ j, i ≤ j → j < n → arr[j]? = some (.slice none 0 0)
  rows : ∀ j, j < i → Blk w (ids j) (rowArr m (F j)) t8
  unlike : ∀ j k, j < i → k < i → ids j = ids k → j = k
  apart : ∀ j, j < i → ids j ≠ X
  low : base ≤ X ∧ ∀ j, j < i → base ≤ ids j
section
variable {t8 tr : TypeId} {w w' : World} {base X n i m : Nat} {ids : Nat → Nat} {F G : Mx}
theorem OwnP.done (h : OwnP t8 tr w base X ids n n m F) : OwnM t8 tr w base X ids n m F := by
  obtain ⟨arr, hb, hs, hg, _⟩ := h.outer
  exact ⟨⟨arr, hb, hs, hg⟩, h.rows, h.unlike, h.apart, h.low⟩
theorem OwnP.lt (h : OwnP t8 tr w base X ids n i m F) : X < w.heap.size ∧ ∀ j, j < i → ids j < w.heap.size := by
  obtain ⟨arr, hb, _⟩ := h.outer
  exact ⟨hb.lt, fun j hj => (h.rows j hj).lt⟩
theorem OwnP.kept (h : OwnP t8 tr w base X ids n i m F) (hk : ∀ b, (b = X ∨ ∃ j, j < i ∧ b = ids j) → w'.heap[b]? = w.heap[b]?) : OwnP t8 tr w' base X ids n i m F := by
  obtain ⟨arr, hb, hs, hg, hr⟩ := h.outer
  refine ⟨⟨arr, ?_, hs, hg, hr⟩, fun j hj => ?_, h.unlike, h.apart, h.low⟩
  · unfold Blk at *; rw [hk X (.inl rfl)]; exact hb
  · have := h.rows j hj
    unfold Blk at *; rw [hk _ (.inr ⟨j, hj, rfl⟩)]; exact this
theorem OwnP.below (h : OwnP t8 tr w base X ids n i m F) (hb : Below w.heap.size w w') : OwnP t8 tr w' base X ids n i m F :=
  h.kept fun b hbb => hb.block b (by rcases hbb with rfl | ⟨j, hj, rfl⟩; exact h.lt.1; exact h.lt.2 j hj)
theorem OwnP.drewN (h : OwnP t8 tr w base X ids n i m F) (d : Nat) : OwnP t8 tr (w.drewN d) base X ids n i m F := h.kept fun _ _ => rfl
theorem OwnP.congr (h : OwnP t8 tr w base X ids n i m F) (hF : EqM i m F G) : OwnP t8 tr w base X ids n i m G :=
  ⟨h.outer, fun j hj => by rw [← rowArr_congr (hF j hj)]; exact h.rows j hj, h.unlike, h.apart, h.low⟩
theorem OwnP.ptr (h : OwnP t8 tr w base X ids n i m F) (j : Nat) (hj : j < i) : w.cell? ⟨X, j, none⟩ = some (.slice (some ⟨ids j, 0, none⟩) m m) := by
  obtain ⟨arr, hb, _, hg, _⟩ := h.outer
  rw [hb.cell]; exact hg j hj
theorem OwnP.nilAt (h : OwnP t8 tr w base X ids n i m F) (j : Nat) (hj : i ≤ j) (hn : j < n) : w.cell? ⟨X, j, none⟩ = some (.slice none 0 0) := by
  obtain ⟨arr, hb, _, _, hr⟩ := h.outer
  rw [hb.cell]; exact hr j hj hn
theorem OwnP.freeX (h : OwnP t8 tr w base X ids n i m F) (j : Nat) : w.frozen? ⟨X, j, none⟩ = false := by
  obtain ⟨arr, hb, _⟩ := h.outer
  exact hb.free j
theorem OwnP.cell (h : OwnP t8 tr w base X ids n i m F) (j k : Nat) (hj : j < i) (hk : k < m) : w.cell? ⟨ids j, k, none⟩ = some (.int .u8 ((F j k).toNat : Int)) := by
  rw [(h.rows j hj).cell]; exact rowArr_get _ _ _ hk
theorem OwnP.free (h : OwnP t8 tr w base X ids n i m F) (j k : Nat) (hj : j < i) : w.frozen? ⟨ids j, k, none⟩ = false := (h.rows j hj).free k
/-- a new row: laid in the block that has just been made, its pointer stored -/
theorem OwnP.push (h : OwnP t8 tr w base X ids n i m F) (hi : i < n) (f : Nat → UInt8) :
    OwnP t8 tr ((w.alloc (.cells (rowArr m f) t8)).setCell ⟨X, i, none⟩ (rowV m w.heap.size)) base X (fun j => if j = i then w.heap.size else ids j) n (i + 1) m (fun j => if j = i then f else F j) := by
  obtain ⟨arr, hb, hs, hg, hr⟩ := h.outer
  have hX := hb.lt
  refine ⟨⟨arr.setIfInBounds i (rowV m w.heap.size), (hb.alloc _).set i _, by simp [hs], fun j hj => ?_, fun j hj hn => ?_⟩, fun j hj => ?_, fun j k hj hk e => ?_, fun j hj => ?_, h.low.1, fun j hj => ?_⟩
  · rw [Array.getElem?_setIfInBounds]
    by_cases e : i = j
    · subst e; rw [if_pos rfl, if_pos (by omega)]; simp
    · rw [if_neg e, if_neg (fun e' => e e'.symm)]; exact hg j (by omega)
  · rw [Array.getElem?_setIfInBounds, if_neg (by omega)]; exact hr j (by omega) hn
  · by_cases e : j = i
    · subst e; simp only
      exact (Blk.new w _ _).set_other (by show X ≠ _; omega) _
    · simp only [if_neg e]
      have hj' := h.rows j (by omega)
      exact (hj'.alloc _).set_other (by show X ≠ _; exact fun e' => h.apart j (by omega) e'.symm) _
  · have l1 := h.lt.2
    by_cases e1 : j = i <;> by_cases e2 : k = i
    · omega
    · rw [if_pos e1, if_neg e2] at e; have := l1 k (by omega); omega
    · rw [if_neg e1, if_pos e2] at e; have := l1 j (by omega); omega
    · rw [if_neg e1, if_neg e2] at e; exact h.unlike j k (by omega) (by omega) e
  · split
    · omega
    · exact h.apart j (by omega)
  · split
    · have := h.low.1; omega
    · exact h.low.2 j (by omega)
/-- the same, as the walk spells it -/
theorem OwnP.push' (h : OwnP t8 tr w base X ids n i m F) (hi : i < n) (f : Nat → UInt8) :
    OwnP t8 tr ((w.setCell ⟨X, i, none⟩ (rowV m w.heap.size)).alloc (.cells (rowArr m f) t8)) base X (fun j => if j = i then w.heap.size else ids j) n (i + 1) m (fun j => if j = i then f else F j) := by
  have := h.push hi f
  rw [World.setCell_alloc_past _ _ _ _ h.lt.1] at this
  exact this
/-- at the beginning: no row is made -/
theorem OwnP.start (w : World) (n m : Nat) (t8 tr : TypeId) (F : Mx) :
    OwnP t8 tr (w.alloc (.cells (Array.replicate n (.slice none 0 0)) tr)) w.heap.size w.heap.size (fun _ => 0) n 0 m F :=
  ⟨⟨_, Blk.new w _ _, by simp, fun j hj => by omega, fun j _ hj => by simp [hj]⟩, fun j hj => by omega, fun j k hj => by omega, fun j hj => by omega, Nat.le_refl _, fun j hj => by omega⟩
/-- a cell of the last row is written -/
theorem OwnP.set (h : OwnP t8 tr w base X ids n i m F) {j k : Nat} (hj : j < i) (u : UInt8) :
    OwnP t8 tr (w.setCell ⟨ids j, k, none⟩ (.int .u8 (u.toNat : Int))) base X ids n i m (fun a b => if a = j ∧ b = k then u else F a b) := by
  obtain ⟨arr, hb, hs, hg, hr⟩ := h.outer
  refine ⟨⟨arr, hb.set_other (h.apart j hj) _, hs, hg, hr⟩, fun a ha => ?_, h.unlike, h.apart, h.low⟩
  by_cases e : a = j
  · subst e
    have := (h.rows a ha).set k (.int .u8 (u.toNat : Int))
    rw [rowArr_set] at this
    have e2 : rowArr m (fun j => if j = k then u else F a j) = rowArr m ((fun a' b => if a' = a ∧ b = k then u else F a' b) a) := rowArr_congr fun j _ => by simp
    rw [← e2]; exact this
  · have e2 : rowArr m ((fun a' b => if a' = j ∧ b = k then u else F a' b) a) = rowArr m (F a) := rowArr_congr fun j _ => by simp [e]
    rw [e2]
    exact (h.rows a ha).set_other (fun e' => e (h.unlike j a hj ha e').symm) _
end

theorem gdot_rowL (m : Nat) (f g : Nat → UInt8) : gdot (rowL m f) (rowL m g) = dotf m f g := by
  induction m with
  | zero => rfl
  | succ m ih =>
    have e1 : rowL (m + 1) f = rowL m f ++ [f m] := by simp [rowL, List.range_succ]
    have e2 : rowL (m + 1) g = rowL m g ++ [g m] := by simp [rowL, List.range_succ]
    rw [e1, e2, gdot_append _ _ _ _ (by rw [rowL_len, rowL_len]), ih]
    show _ = gsum (m + 1) _
    simp [gsum, gdot, dotf]
theorem Bys.eq_slice {w : World} {v : Value} {bs : List UInt8} (h : Bys w v bs) : ∃ a cap, v = .slice a bs.length cap := by
  obtain ⟨a, cap, e, _⟩ := h; exact ⟨a, cap, e⟩
theorem Rws.eq_slice {w : World} {v : Value} {rs : List (List UInt8)} (h : Rws w v rs) : ∃ a cap, v = .slice a rs.length cap := by
  obtain ⟨a, cap, e, _⟩ := h; exact ⟨a, cap, e⟩
/-- a matrix that came in: its value -/
theorem Rws.mat {w : World} {v : Value} {n m : Nat} {F : Mx} (h : Rws w v (rowsL n m F)) : ∃ a cap, v = .slice a n cap := by
  obtain ⟨a, cap, e⟩ := h.eq_slice; rw [rowsL_len] at e; exact ⟨a, cap, e⟩
/-- its row i -/
theorem Rws.row {w : World} {a : Option Addr} {n m cap : Nat} {F : Mx} (h : Rws w (.slice a n cap) (rowsL n m F)) (i : Nat) (hi : i < n) :
    ∃ b off a' cap', a = some ⟨b, off, none⟩ ∧ w.cell? ⟨b, off + i, none⟩ = some (.slice a' m cap') ∧ Bys w (.slice a' m cap') (rowL m (F i)) := by
  obtain ⟨b, off, r, v', e, hr, hc, hb⟩ := h.at i (by rw [rowsL_len]; exact hi)
  have hr := hr.out
  rw [rowsL_get _ _ _ _ hi] at hr
  cases hr
  obtain ⟨a', cap', e'⟩ := hb.eq_slice
  rw [rowL_len] at e'
  subst e'
  exact ⟨b, off, a', cap', e, hc, hb⟩
/-- its place i, k -/
theorem Bys.elem {w : World} {a : Option Addr} {m cap : Nat} {f : Nat → UInt8} (h : Bys w (.slice a m cap) (rowL m f)) (k : Nat) (hk : k < m) :
    ∃ b off, a = some ⟨b, off, none⟩ ∧ w.cell? ⟨b, off + k, none⟩ = some (.int .u8 ((f k).toNat : Int)) := by
  obtain ⟨b, off, u, e, hu, hc, _⟩ := h.at k (by rw [rowL_len]; exact hk)
  have hu := hu.out
  rw [rowL_get _ _ _ hk] at hu
  cases hu
  exact ⟨b, off, e, hc⟩
theorem Rws.elem {w : World} {a : Option Addr} {n m cap : Nat} {F : Mx} (h : Rws w (.slice a n cap) (rowsL n m F)) (i k : Nat) (hi : i < n) (hk : k < m) :
    ∃ b off b' off' cap', a = some ⟨b, off, none⟩ ∧ w.cell? ⟨b, off + i, none⟩ = some (.slice (some ⟨b', off', none⟩) m cap') ∧ w.cell? ⟨b', off' + k, none⟩ = some (.int .u8 ((F i k).toNat : Int)) := by
  obtain ⟨b, off, a', cap', e, hc, hb⟩ := h.row i hi
  obtain ⟨b', off', e', hc'⟩ := hb.elem k hk
  subst e'
  exact ⟨b, off, b', off', cap', e, hc, hc'⟩
end Go.Mem
