/- How arguments that came in are read: bytes, numbers. No program in sight. -/
import Derived.Test.YtgjabnpngggcmaaDoorMem
import Derived.Test.YtgjabnpngggcmaaDoorInts
import Derived.Test.YtgjabnpngggcmaaDoorMatMem
import Derived.WalkKit
import Derived.ProofKit
import Derived.ChangeOld
namespace Go.Mem
open Go Go.ChangeShapes Go.WideShapes Go.ChangeAt Go.RowKit

theorem byte_of_wf {x : Int} (h : (Lit.int .u8 x).wf = true) : ∃ n : Nat, n < 256 ∧ x = (n : Int) := by
  simp [Lit.wf, IntKind.min, IntKind.max, IntKind.signed, IntKind.bits] at h
  exact ⟨x.toNat, by omega, by omega⟩
theorem int_of_wf {x : Int} (h : (Lit.int .i64 x).wf = true) : -9223372036854775808 ≤ x ∧ x ≤ 9223372036854775807 := by
  simp [Lit.wf, IntKind.min, IntKind.max, IntKind.signed, IntKind.bits] at h
  exact ⟨by omega, by omega⟩

theorem addr_none {w : World} {a : Addr} {v : Value} (h : w.cell? a = some v) : a = ⟨a.block, a.off, none⟩ := by
  obtain ⟨b, o, s⟩ := a
  unfold World.cell? at h
  cases s with
  | none => rfl
  | some n =>
    split at h
    · simp at h
    · cases h
theorem add_plain (b off i : Nat) : (⟨b, off, none⟩ : Addr).add i = ⟨b, off + i, none⟩ := by
  unfold Addr.add
  split
  · subst_vars; rfl
  · rfl

section
variable {P : Program} {H : Type} {enc : TypeId × Value → H} {W : World} {base : Nat}
theorem open_bys {t e : TypeId} {v : Value} {x : DataW H × List MemPlace} {spare : Nat → Bool} {held : Bool} (ht : P.underlying t = some (.slice e)) (he : P.underlying e = some (.int .u8)) (hc : P.cellsOf e = 1)
    (hs : ∃ a len cap, v = .slice a len cap) (h : ∃ fuel, DataW.trod enc P W base spare held fuel t v.cells.toList = some x) : ∃ bs, Bys W v bs := by
  obtain ⟨a, len, cap, rfl⟩ := hs
  obtain ⟨fuel, hf⟩ := h
  rcases open_ints ht he hc hf with ⟨hcs, _⟩ | ⟨a', len', cap', zs, hcs, _, hl, hm, hz, _, hcell, hwz⟩
  · simp [Value.cells] at hcs
    obtain ⟨rfl, rfl, rfl⟩ := hcs
    exact ⟨[], Bys.nil W⟩
  · simp [Value.cells] at hcs
    obtain ⟨rfl, rfl, rfl⟩ := hcs
    have hzl : len ≤ zs.length := by rw [hz]; split <;> omega
    have hlen : ((zs.take len).map fun z => UInt8.ofNat z.toNat).length = len := by simp; omega
    refine ⟨(zs.take len).map fun z => UInt8.ofNat z.toNat, some a', cap, by rw [hlen], by rw [hlen]; exact hl, hm, fun hp => ?_⟩
    rw [hlen] at hp
    have h0 := hcell 0 (by omega)
    have ha : a' = ⟨a'.block, a'.off, none⟩ := addr_none (a := a') (by simpa [Addr.add] using h0)
    refine ⟨a'.block, a'.off, by rw [← ha], fun i u hi => ?_⟩
    have hil : i < len := by
      rcases Nat.lt_or_ge i len with h | h
      · exact h
      · rw [List.getElem?_eq_none (by rw [hlen]; exact h)] at hi; cases hi
    have hci := hcell i (by omega)
    rw [ha, add_plain] at hci
    rw [hci]
    have hzi : zs[i]? = some zs[i] := List.getElem?_eq_getElem (by omega)
    have hu : u = UInt8.ofNat zs[i].toNat := by
      simp only [List.getElem?_map, List.getElem?_take, hil, if_true, hzi, Option.map_some, Option.some.injEq] at hi
      exact hi.symm
    have hw := hwz zs[i] (List.getElem_mem _)
    obtain ⟨n, hn, hx⟩ := byte_of_wf hw
    rw [List.getD_eq_getElem?_getD, hzi, hu, hx]
    simp [UInt8.toNat_ofNat']
    omega
theorem open_nums {t e : TypeId} {v : Value} {x : DataW H × List MemPlace} {spare : Nat → Bool} {held : Bool} (ht : P.underlying t = some (.slice e)) (he : P.underlying e = some (.int .i64)) (hc : P.cellsOf e = 1)
    (hs : ∃ a len cap, v = .slice a len cap) (h : ∃ fuel, DataW.trod enc P W base spare held fuel t v.cells.toList = some x) : ∃ xs, Nms W v xs ∧ ∀ z, z ∈ xs → -9223372036854775808 ≤ z ∧ z ≤ 9223372036854775807 := by
  obtain ⟨a, len, cap, rfl⟩ := hs
  obtain ⟨fuel, hf⟩ := h
  rcases open_ints ht he hc hf with ⟨hcs, _⟩ | ⟨a', len', cap', zs, hcs, _, hl, hm, hz, _, hcell, hwz⟩
  · simp [Value.cells] at hcs
    obtain ⟨rfl, rfl, rfl⟩ := hcs
    exact ⟨[], Nms.nil W, fun z hz => by cases hz⟩
  · simp [Value.cells] at hcs
    obtain ⟨rfl, rfl, rfl⟩ := hcs
    have hzl : len ≤ zs.length := by rw [hz]; split <;> omega
    have hlen : (zs.take len).length = len := by simp; omega
    refine ⟨zs.take len, ⟨some a', cap, by rw [hlen], by rw [hlen]; exact hl, hm, fun hp => ?_⟩, fun z hz' => int_of_wf (hwz z (List.mem_of_mem_take hz'))⟩
    rw [hlen] at hp
    have h0 := hcell 0 (by omega)
    have ha : a' = ⟨a'.block, a'.off, none⟩ := addr_none (a := a') (by simpa [Addr.add] using h0)
    refine ⟨a'.block, a'.off, by rw [← ha], fun i u hi => ?_⟩
    have hil : i < len := by
      rcases Nat.lt_or_ge i len with h | h
      · exact h
      · rw [List.getElem?_eq_none (by rw [hlen]; exact h)] at hi; cases hi
    have hci := hcell i (by omega)
    rw [ha, add_plain] at hci
    rw [hci]
    rw [List.getElem?_take, if_pos hil] at hi
    rw [List.getD_eq_getElem?_getD, hi]
    rfl
end
end Go.Mem
