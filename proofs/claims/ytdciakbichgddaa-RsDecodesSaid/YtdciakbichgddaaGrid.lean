/- A matrix in memory, said by its cells: a row of rows, each with whatever room behind. No program in sight. -/
import Derived.Test.YtdciakbichgddaaApp
import Derived.Test.YtdciakbichgddaaMatChg
import Derived.Deep.AppendLies
namespace Go.Mem
open Go Go.RowKit Gf

/-- the row of rows lies in block X, row i of m bytes in block ids i -/
structure Grid (w : World) (base X : Nat) (ids caps : Nat → Nat) (n m : Nat) (F : Mx) : Prop where
  ptr : ∀ i, i < n → w.cell? ⟨X, i, none⟩ = some (.slice (some ⟨ids i, 0, none⟩) m (caps i))
  pfree : ∀ i, i < n → w.frozen? ⟨X, i, none⟩ = false
  cell : ∀ i, i < n → ∀ k, k < m → w.cell? ⟨ids i, k, none⟩ = some (.int .u8 ((F i k).toNat : Int))
  free : ∀ i, i < n → ∀ k, k < m → w.frozen? ⟨ids i, k, none⟩ = false
  unlike : ∀ i j, i < n → j < n → ids i = ids j → i = j
  apart : ∀ i, i < n → ids i ≠ X
  low : base ≤ X ∧ ∀ i, i < n → base ≤ ids i
  room : ∀ i, i < n → m ≤ caps i ∧ caps i ≤ maxLen

section
variable {w w' : World} {base X n m : Nat} {ids caps : Nat → Nat} {F G : Mx}
theorem cell_set_ne (w : World) {a p : Addr} (h : a ≠ p) (v : Value) : (w.setCell a v).cell? p = w.cell? p := World.cell?_setCell_other w a p v h
theorem Grid.kept (h : Grid w base X ids caps n m F) (hk : ∀ p : Addr, (p.block = X ∨ ∃ i, i < n ∧ p.block = ids i) → w'.cell? p = w.cell? p ∧ w'.frozen? p = w.frozen? p) : Grid w' base X ids caps n m F :=
  ⟨fun i hi => by rw [(hk _ (.inl rfl)).1]; exact h.ptr i hi, fun i hi => by rw [(hk _ (.inl rfl)).2]; exact h.pfree i hi,
   fun i hi k hk' => by rw [(hk _ (.inr ⟨i, hi, rfl⟩)).1]; exact h.cell i hi k hk', fun i hi k hk' => by rw [(hk _ (.inr ⟨i, hi, rfl⟩)).2]; exact h.free i hi k hk',
   h.unlike, h.apart, h.low, h.room⟩
theorem Grid.drewN (h : Grid w base X ids caps n m F) (d : Nat) : Grid (w.drewN d) base X ids caps n m F := h.kept fun _ _ => ⟨rfl, rfl⟩
theorem Grid.lt (h : Grid w base X ids caps n m F) (hn : 0 < n) (hm : 0 < m) : X < w.heap.size ∧ ∀ i, i < n → ids i < w.heap.size :=
  ⟨World.block_lt_of_cell? w _ (h.ptr 0 hn), fun i hi => World.block_lt_of_cell? w _ (h.cell i hi 0 hm)⟩
theorem Grid.below (h : Grid w base X ids caps n m F) (hn : 0 < n) (hm : 0 < m) (hb : Below w.heap.size w w') : Grid w' base X ids caps n m F :=
  h.kept fun p hp => by
    have hlt : p.block < w.heap.size := by
      rcases hp with e | ⟨i, hi, e⟩
      · rw [e]; exact (h.lt hn hm).1
      · rw [e]; exact (h.lt hn hm).2 i hi
    exact ⟨hb.cell hlt, hb.frozen hlt⟩
theorem Grid.congr (h : Grid w base X ids caps n m F) (hF : EqM n m F G) : Grid w base X ids caps n m G :=
  ⟨h.ptr, h.pfree, fun i hi k hk => by rw [← hF i hi k hk]; exact h.cell i hi k hk, h.free, h.unlike, h.apart, h.low, h.room⟩
/-- a cell of a row is written -/
theorem Grid.set (h : Grid w base X ids caps n m F) {i k : Nat} (hi : i < n) (hk : k < m) (u : UInt8) :
    Grid (w.setCell ⟨ids i, k, none⟩ (.int .u8 (u.toNat : Int))) base X ids caps n m (fun a b => if a = i ∧ b = k then u else F a b) := by
  refine ⟨fun a ha => ?_, fun a ha => ?_, fun a ha b hb => ?_, fun a ha b hb => ?_, h.unlike, h.apart, h.low, h.room⟩
  · rw [cell_set_ne _ (by intro e; injection e with e; exact h.apart i hi e)]; exact h.ptr a ha
  · rw [World.frozen?_setCell]; exact h.pfree a ha
  · by_cases e : a = i ∧ b = k
    · obtain ⟨rfl, rfl⟩ := e
      simp only [and_self, if_true]
      exact World.cell?_setCell_same w _ _ (h.cell a ha b hb)
    · rw [cell_set_ne _ (by
        intro e'
        injection e' with e1 e2
        exact e ⟨(h.unlike i a hi ha e1).symm, e2.symm⟩)]
      simp only [if_neg e]
      exact h.cell a ha b hb
  · rw [World.frozen?_setCell]; exact h.free a ha b hb
/-- two rows change places -/
theorem Grid.swap (h : Grid w base X ids caps n m F) {c p : Nat} (hc : c < n) (hp : p < n) :
    Grid ((w.setCell ⟨X, c, none⟩ (.slice (some ⟨ids p, 0, none⟩) m (caps p))).setCell ⟨X, p, none⟩ (.slice (some ⟨ids c, 0, none⟩) m (caps c))) base X (fun i => ids (sw c p i)) (fun i => caps (sw c p i)) n m (fun i => F (sw c p i)) := by
  refine ⟨fun a ha => ?_, fun a ha => ?_, fun a ha b hb => ?_, fun a ha b hb => ?_, fun a b ha hb e => ?_, fun a ha => h.apart _ (sw_lt hc hp ha), ⟨h.low.1, fun a ha => h.low.2 _ (sw_lt hc hp ha)⟩, fun a ha => h.room _ (sw_lt hc hp ha)⟩
  · by_cases e1 : a = p
    · subst e1
      obtain ⟨v', hv⟩ := RowKit.cell?_setCell_some (p := ⟨X, c, none⟩) (x := .slice (some ⟨ids a, 0, none⟩) m (caps a)) (h.ptr a ha)
      rw [World.cell?_setCell_same _ _ _ hv]
      by_cases e2 : a = c
      · subst e2; simp [sw]
      · simp [sw, e2]
    · rw [cell_set_ne _ (by intro e; injection e with _ e2; exact e1 e2.symm)]
      by_cases e2 : a = c
      · subst e2
        rw [World.cell?_setCell_same _ _ _ (h.ptr a ha)]
        simp [sw]
      · rw [cell_set_ne _ (by intro e; injection e with _ e3; exact e2 e3.symm), h.ptr a ha]
        simp [sw, e1, e2]
  · rw [World.frozen?_setCell, World.frozen?_setCell]; exact h.pfree a ha
  · rw [cell_set_ne _ (by intro e; injection e with e; exact h.apart _ (sw_lt hc hp ha) e.symm), cell_set_ne _ (by intro e; injection e with e; exact h.apart _ (sw_lt hc hp ha) e.symm)]
    exact h.cell _ (sw_lt hc hp ha) b hb
  · rw [World.frozen?_setCell, World.frozen?_setCell]; exact h.free _ (sw_lt hc hp ha) b hb
  · have := h.unlike _ _ (sw_lt hc hp ha) (sw_lt hc hp hb) e
    rw [← sw_sw c p a, this, sw_sw]
/-- the bytes of a row from place q on -/
theorem Grid.suffix (h : Grid w base X ids caps n m F) {i : Nat} (hi : i < n) (q : Nat) (hq : q ≤ m) : Bys w (.slice (some ⟨ids i, q, none⟩) (m - q) (caps i - q)) (rowL (m - q) fun k => F i (q + k)) := by
  have hr := h.room i hi
  refine ⟨_, caps i - q, by rw [rowL_len], by rw [rowL_len]; omega, by omega, fun _ => ⟨ids i, q, rfl, fun k u hu => ?_⟩⟩
  have hk : k < m - q := by
    rcases Nat.lt_or_ge k (m - q) with h' | h'
    · exact h'
    · rw [List.getElem?_eq_none (by rw [rowL_len]; exact h')] at hu; cases hu
  rw [rowL_get _ _ _ hk] at hu
  cases hu
  exact h.cell i hi (q + k) (by omega)
end

section
variable {w : World} {base n : Nat} {e t8 tr : TypeId} {xs : List Value}
theorem own_cell {g cap : Nat} (h : w.ownsRow base e 1 (.slice (some ⟨g, 0, none⟩) n cap) n xs) {i : Nat} {v : Value} (hv : xs[i]? = some v) : w.cell? ⟨g, i, none⟩ = some v := by
  obtain ⟨hlen, h2⟩ := h
  rcases h2 with ⟨h2, _⟩ | ⟨g', cap', cur, h2, _, hg, hnc, hcm, hcs, htake⟩
  · cases h2
  · cases h2
    have hil : i < xs.length := by
      rcases Nat.lt_or_ge i xs.length with h | h
      · exact h
      · rw [List.getElem?_eq_none h] at hv; cases hv
    rw [← htake, List.getElem?_take, if_pos (by omega)] at hv
    simp only [World.cell?, hg]
    simpa using hv
theorem own_free {g cap : Nat} (h : w.ownsRow base e 1 (.slice (some ⟨g, 0, none⟩) n cap) n xs) (i : Nat) : w.frozen? ⟨g, i, none⟩ = false := by
  rcases h.2 with ⟨h2, _⟩ | ⟨g', cap', cur, h2, _, hg, _⟩
  · cases h2
  · cases h2
    simp [World.frozen?, hg]
theorem own_room {g cap : Nat} (h : w.ownsRow base e 1 (.slice (some ⟨g, 0, none⟩) n cap) n xs) : n ≤ cap ∧ cap ≤ maxLen ∧ base ≤ g := by
  rcases h.2 with ⟨h2, _⟩ | ⟨g', cap', cur, h2, hb, hg, hnc, hcm, _⟩
  · cases h2
  · cases h2
    exact ⟨hnc, hcm, hb⟩
theorem own_type {g cap : Nat} (h : w.ownsRow base e 1 (.slice (some ⟨g, 0, none⟩) n cap) n xs) : ∃ cur, w.heap[g]? = some (.cells cur e (0, 0)) := by
  rcases h.2 with ⟨h2, _⟩ | ⟨g', cap', cur, h2, hb, hg, _⟩
  · cases h2
  · cases h2
    exact ⟨cur, hg⟩
theorem Grid.of_own {v : Value} {m : Nat} {ids caps : Nat → Nat} {F : Mx} (hn : 0 < n) (hne : t8 ≠ tr) (h1 : w.ownsRow base tr 1 v n ((List.range n).map fun j => .slice (some ⟨ids j, 0, none⟩) m (caps j)))
    (h2 : ∀ j, j < n → OwnB t8 w base (.slice (some ⟨ids j, 0, none⟩) m (caps j)) (rowL m (F j))) (hu : ∀ i j, i < n → j < n → ids i = ids j → i = j) :
    ∃ X c, v = .slice (some ⟨X, 0, none⟩) n c ∧ n ≤ c ∧ c ≤ maxLen ∧ Grid w base X ids caps n m F := by
  obtain ⟨X, c, rfl, hX, _⟩ := h1.form hn
  have h2' : ∀ j, j < n → w.ownsRow base t8 1 (.slice (some ⟨ids j, 0, none⟩) m (caps j)) m (bV (rowL m (F j))) := fun j hj => by
    have := h2 j hj
    unfold OwnB at this
    rw [rowL_len] at this
    exact this
  have hr := own_room h1
  refine ⟨X, c, rfl, hr.1, hr.2.1, fun i hi => ?_, fun i _ => own_free h1 i, fun i hi k hk => ?_, fun i hi k _ => own_free (h2' i hi) k, hu, fun i hi e => ?_, ⟨hX, fun i hi => (own_room (h2' i hi)).2.2⟩, fun i hi => ?_⟩
  · exact own_cell h1 (by simp [hi])
  · exact own_cell (h2' i hi) (by rw [bV_get, rowL_get _ _ _ hk]; rfl)
  · obtain ⟨c1, e1⟩ := own_type h1
    obtain ⟨c2, e2⟩ := own_type (h2' i hi)
    rw [e, e1] at e2
    simp at e2
    exact hne e2.2.symm
  · have := own_room (h2' i hi); exact ⟨this.1, this.2.1⟩
end
end Go.Mem
