/- How a slice of slices of bytes that came in is read. No program in sight. -/
import Derived.Test.YtmeegdicnfgjfaaDoorOpen
import Derived.Deep.Matrix
namespace Go.Mem
open Go Go.ChangeShapes Go.WideShapes Go.ChangeAt Go.RowKit

section
variable {P : Program} {H : Type} {enc : TypeId × Value → H} {W : World} {base : Nat}
theorem open_rows {t e q : TypeId} {v : Value} {x : DataW H × List MemPlace} {held : Bool} (ht : P.underlying t = some (.slice e)) (he : P.underlying e = some (.slice q)) (hq : P.underlying q = some (.int .u8))
    (ce : P.cellsOf e = 1) (cq : P.cellsOf q = 1) (hs : ∃ a len cap, v = .slice a len cap) (h : ∃ fuel, DataW.trod enc P W base (fun _ => true) held fuel t v.cells.toList = some x) : ∃ rs, Rws W v rs := by
  obtain ⟨a, len, cap, rfl⟩ := hs
  obtain ⟨fuel, hf⟩ := h
  rcases Deep.open_int_rows ht he hq ce cq hf with ⟨hcs, _⟩ | ⟨a', len', cap', A, L, C, Z, hcs, _, hl, hm, _, hr⟩
  · simp [Value.cells] at hcs
    obtain ⟨rfl, rfl, rfl⟩ := hcs
    exact ⟨[], Rws.nil W⟩
  · simp [Value.cells] at hcs
    obtain ⟨rfl, rfl, rfl⟩ := hcs
    have hlen : ((List.range len).map fun r => ((Z r).take (L r)).map fun z => UInt8.ofNat z.toNat).length = len := by simp
    refine ⟨(List.range len).map fun r => ((Z r).take (L r)).map fun z => UInt8.ofNat z.toNat, some a', cap, by rw [hlen], by rw [hlen]; exact hl, hm, fun hp => ?_⟩
    rw [hlen] at hp
    have h0 := (hr 0 (by omega)).1
    have ha : a' = ⟨a'.block, a'.off, none⟩ := addr_none (a := a') (by simpa [Addr.add] using h0)
    refine ⟨a'.block, a'.off, by rw [← ha], fun i r hi => ?_⟩
    have hil : i < len := by
      rcases Nat.lt_or_ge i len with h | h
      · exact h
      · rw [List.getElem?_eq_none (by rw [hlen]; exact h)] at hi; cases hi
    obtain ⟨c1, c2, c3, c4, c5, c6, c7⟩ := hr i (by omega)
    rw [ha, add_plain] at c1
    refine ⟨_, c1, ?_⟩
    have hr' : r = ((Z i).take (L i)).map fun z => UInt8.ofNat z.toNat := by
      rw [List.getElem?_map, List.getElem?_range hil] at hi
      exact (Option.some.inj hi).symm
    have hzl : r.length = L i := by rw [hr']; simp; omega
    refine ⟨A i, C i, by rw [hzl], by rw [hzl]; exact c2, c3, fun hp2 => ?_⟩
    rw [hzl] at hp2
    obtain ⟨a2, hA⟩ : ∃ a2, A i = some a2 := by
      cases hA : A i with
      | none => have := c6 hA; omega
      | some a2 => exact ⟨a2, rfl⟩
    obtain ⟨_, hc⟩ := c7 a2 hA
    have ha2 : a2 = ⟨a2.block, a2.off, none⟩ := addr_none (a := a2) (by simpa [Addr.add] using hc 0 (by omega))
    refine ⟨a2.block, a2.off, by rw [hA, ← ha2], fun k u hu => ?_⟩
    have hkl : k < L i := by
      rcases Nat.lt_or_ge k (L i) with h | h
      · exact h
      · rw [List.getElem?_eq_none (by rw [hzl]; exact h)] at hu; cases hu
    have hck := hc k (by omega)
    rw [ha2, add_plain] at hck
    rw [hck]
    have hzi : (Z i)[k]? = some (Z i)[k] := List.getElem?_eq_getElem (by omega)
    have hu' : u = UInt8.ofNat (Z i)[k].toNat := by
      rw [hr'] at hu
      simp only [List.getElem?_map, List.getElem?_take, hkl, if_true, hzi, Option.map_some, Option.some.injEq] at hu
      exact hu.symm
    obtain ⟨n, hn, hx⟩ := byte_of_wf (c5 (Z i)[k] (List.getElem_mem _))
    rw [List.getD_eq_getElem?_getD, hzi, hu', hx]
    simp [UInt8.toNat_ofNat']
    omega
end
end Go.Mem
