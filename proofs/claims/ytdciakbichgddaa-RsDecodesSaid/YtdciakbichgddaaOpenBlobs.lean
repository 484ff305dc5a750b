/- How a slice of blobs (a number, bytes) that came in is read. No program in sight. -/
import Derived.Test.YtdciakbichgddaaOpen
import Derived.Deep.SlicePairs
namespace Go.Mem
open Go Go.ChangeShapes Go.WideShapes Go.ChangeAt Go.RowKit
/-- the value is a slice of these blobs -/
def Bls (w : World) (v : Value) (l : List (Int × List UInt8)) : Prop :=
  ∃ a cap, v = .slice a l.length cap ∧ l.length ≤ cap ∧ cap ≤ maxLen ∧
    (0 < l.length → ∃ b off, a = some ⟨b, off, none⟩ ∧ ∀ i z bs, l[i]? = some (z, bs) → w.cell? ⟨b, off + i * 2, none⟩ = some (.int .i64 z) ∧ ∃ v1, w.cell? ⟨b, off + i * 2 + 1, none⟩ = some v1 ∧ Bys w v1 bs)
theorem Bls.below {w w' : World} {v : Value} {l : List (Int × List UInt8)} (h : Bls w v l) (hb : Below w.heap.size w w') : Bls w' v l := by
  obtain ⟨a, cap, h1, h2, h3, h4⟩ := h
  refine ⟨a, cap, h1, h2, h3, fun hp => ?_⟩
  obtain ⟨b, off, h5, h6⟩ := h4 hp
  refine ⟨b, off, h5, fun i z bs hi => ?_⟩
  obtain ⟨c1, v1, c2, h7⟩ := h6 i z bs hi
  exact ⟨(hb.cell (p := ⟨b, off + i * 2, none⟩) (World.block_lt_of_cell? w _ c1)).trans c1, v1, (hb.cell (p := ⟨b, off + i * 2 + 1, none⟩) (World.block_lt_of_cell? w _ c2)).trans c2, h7.below hb⟩
section
variable {P : Program} {H : Type} {enc : TypeId × Value → H} {W : World} {base : Nat}
theorem open_blobs {t e ti ts t8 : TypeId} {f0 f1 : Field} {v : Value} {x : DataW H × List MemPlace} {spare : Nat → Bool} {held : Bool} (ht : P.underlying t = some (.slice e)) (he : P.underlying e = some (.struct #[f0, f1]))
    (hi : P.underlying ti = some (.int .i64)) (hs : P.underlying ts = some (.slice t8)) (h8 : P.underlying t8 = some (.int .u8)) (e0 : f0.type = ti) (e1 : f1.type = ts) (o0 : f0.offset = 0) (o1 : f1.offset = 1)
    (ce : P.cellsOf e = 2) (ci : P.cellsOf ti = 1) (cs : P.cellsOf ts = 1) (c8 : P.cellsOf t8 = 1)
    (hv : ∃ a len cap, v = .slice a len cap) (h : ∃ fuel, DataW.trod enc P W base spare held fuel t v.cells.toList = some x) :
    ∃ l : List (Int × List UInt8), Bls W v l ∧ ∀ z bs, (z, bs) ∈ l → -9223372036854775808 ≤ z ∧ z ≤ 9223372036854775807 := by
  obtain ⟨a, len, cap, rfl⟩ := hv
  obtain ⟨fuel, hf⟩ := h
  subst e0 e1
  rcases Deep.open_slice_pairs ht he ce o0 o1 ci cs hf with ⟨hcs, _⟩ | ⟨a', len', cap', m, n, V0, V1, D0, D1, P0, P1, hcs, _, hl, hm, hmm, _, hx⟩
  · simp [Value.cells] at hcs
    obtain ⟨rfl, rfl, rfl⟩ := hcs
    exact ⟨[], ⟨none, 0, rfl, Nat.le_refl _, Nat.zero_le _, fun h => by simp at h⟩, fun z bs hz => by cases hz⟩
  · simp [Value.cells] at hcs
    obtain ⟨rfl, rfl, rfl⟩ := hcs
    have hlm : len ≤ m := by rw [hmm]; split <;> omega
    have each : ∀ i, i < len → ∃ q : Int × List UInt8, V0 i = .int .i64 q.1 ∧ Bys W (V1 i) q.2 ∧ -9223372036854775808 ≤ q.1 ∧ q.1 ≤ 9223372036854775807 := fun i hil => by
      obtain ⟨_, _, t0, t1⟩ := hx i (by omega)
      obtain ⟨z, hz, _, hw⟩ := DataW.trod_int hi t0
      have hsl : ∃ a len cap, V1 i = .slice a len cap := by
        rcases open_ints hs h8 c8 t1 with ⟨h9, _⟩ | ⟨a2, l2, cp2, _, h9, _⟩
        · exact ⟨_, _, _, by simpa using h9⟩
        · exact ⟨_, _, _, by simpa using h9⟩
      have t2 : DataW.trod enc P W base spare held n f1.type (V1 i).cells.toList = some (D1 i, P1 i) := by
        obtain ⟨a2, l2, c2, e⟩ := id hsl
        rw [e] at t1 ⊢
        exact t1
      obtain ⟨bs, hbs⟩ := open_bys (v := V1 i) hs h8 c8 hsl ⟨n, t2⟩
      have := int_of_wf hw
      exact ⟨(z, bs), by simpa using hz, hbs, this⟩
    obtain ⟨q, hq⟩ := Deep.choose_lt each
    have hlen : ((List.range len).map q).length = len := by simp
    refine ⟨(List.range len).map q, ⟨some a', cap, by rw [hlen], by rw [hlen]; exact hl, hm, fun hp => ?_⟩, fun z bs hz => ?_⟩
    · rw [hlen] at hp
      have h0 := (hx 0 (by omega)).1
      have ha : a' = ⟨a'.block, a'.off, none⟩ := addr_none (a := a') (by simpa [Addr.add] using h0)
      refine ⟨a'.block, a'.off, by rw [← ha], fun i z bs hi => ?_⟩
      have hil : i < len := by
        rcases Nat.lt_or_ge i len with h | h
        · exact h
        · rw [List.getElem?_eq_none (by rw [hlen]; exact h)] at hi; cases hi
      rw [List.getElem?_map, List.getElem?_range hil] at hi
      have hi := Option.some.inj hi
      obtain ⟨k1, k2, _, _⟩ := hx i (by omega)
      obtain ⟨k3, k4, _⟩ := hq i hil
      rw [ha, add_plain] at k1 k2
      rw [hi] at k3 k4
      rw [k3] at k1
      exact ⟨k1, V1 i, k2, k4⟩
    · obtain ⟨i, hi, e⟩ := List.mem_map.1 hz
      have := (hq i (List.mem_range.1 hi)).2.2
      rw [e] at this
      exact this
end
end Go.Mem
