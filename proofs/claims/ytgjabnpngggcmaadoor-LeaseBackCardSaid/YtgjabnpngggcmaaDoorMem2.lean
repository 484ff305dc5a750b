/- Plain facts on memory, more: new rows. No program in sight. -/
import Derived.Test.YtgjabnpngggcmaaDoorMem
namespace Go.Mem
open Go Go.RowKit

/-! ### new rows -/
theorem madeCells_bytes (k : Nat) : madeCells #[.int .u8 0] k = Array.replicate k (.int .u8 0) := by
  apply Array.ext
  · simp [madeCells]
  · intro i h1 h2
    simp [madeCells, Nat.mod_one]
theorem make_bytes {P : Program} (t e : TypeId) (ht : P.underlying t = some (.slice e)) (hi : (P.info? e).map (fun i => (i.zero, i.size, i.bytes)) = some (some (.int .u8 0), 1, 1))
    (k : Nat) (hk : k ≤ 140737488355328) (w : World) :
    (Instr.makeSlice t (.int .i64 (k : Int)) (.int .i64 (k : Int))).run P w = .ok (.slice (some ⟨w.heap.size, 0, none⟩) k k) (w.alloc (.cells (Array.replicate k (.int .u8 0)) e)) := by
  obtain ⟨i, hi, hz, hs, hb⟩ := info_parts hi
  have := run_make (P := P) w t e i (.int .u8 0) ht hi hz .i64 .i64 k k (by omega) (Int.le_refl _) (by rw [hb]; omega) (by omega)
  rw [hs] at this
  simp only [Int.toNat_natCast, Nat.mul_one, Value.cells, madeCells_bytes] at this
  exact this

/-- a row of bytes that is known whole reads as bytes -/
theorem Blk.bys {w : World} {b : Nat} {arr : Array Value} {t : TypeId} (h : Blk w b arr t) {bs : List UInt8} {cap : Nat} (hc : bs.length ≤ cap) (hm : cap ≤ maxLen)
    (ha : ∀ (i : Nat) (u : UInt8), bs[i]? = some u → arr[i]? = some (Value.int .u8 (u.toNat : Int))) : Bys w (.slice (some ⟨b, 0, none⟩) bs.length cap) bs :=
  ⟨_, cap, rfl, hc, hm, fun _ => ⟨b, 0, rfl, fun i u hi => by rw [Nat.zero_add, h.cell]; exact ha i u hi⟩⟩
theorem maxLen_ge {n : Nat} (h : n ≤ 9223372036854775807) : n ≤ maxLen := by unfold maxLen; exact h
/-- a row in which the first i of k bytes are laid -/
def Part (arr : Array Value) (k i : Nat) (bs : List UInt8) : Prop :=
  arr.size = k ∧ (∀ j, j < k → ∃ n : Int, arr[j]? = some (.int .u8 n)) ∧ ∀ j, j < i → ∃ u, bs[j]? = some u ∧ arr[j]? = some (.int .u8 (u.toNat : Int))
theorem Part.zero (k : Nat) (bs : List UInt8) : Part (Array.replicate k (.int .u8 0)) k 0 bs :=
  ⟨by simp, fun j hj => ⟨0, by simp [hj]⟩, fun j hj => by omega⟩
theorem Part.step {arr : Array Value} {k i : Nat} {bs : List UInt8} (h : Part arr k i bs) (hi : i < k) {u : UInt8} (hu : bs[i]? = some u) : Part (arr.setIfInBounds i (.int .u8 (u.toNat : Int))) k (i + 1) bs := by
  obtain ⟨h1, h2, h3⟩ := h
  refine ⟨by simp [h1], fun j hj => ?_, fun j hj => ?_⟩
  · rw [Array.getElem?_setIfInBounds]
    split
    · exact ⟨u.toNat, by rw [if_pos (by omega)]⟩
    · exact h2 j hj
  · rw [Array.getElem?_setIfInBounds]
    by_cases e : i = j
    · subst e; exact ⟨u, hu, by rw [if_pos rfl, if_pos (by omega)]⟩
    · rw [if_neg e]; exact h3 j (by omega)
theorem Part.bys {w : World} {b : Nat} {arr : Array Value} {t : TypeId} {k : Nat} {bs : List UInt8} (h : Blk w b arr t) (hp : Part arr k k bs) (hk : bs.length = k) (hm : k ≤ maxLen) : Bys w (.slice (some ⟨b, 0, none⟩) k k) bs := by
  subst hk
  refine h.bys (Nat.le_refl _) hm fun i u hi => ?_
  have hlt : i < bs.length := by
    rcases Nat.lt_or_ge i bs.length with h' | h'
    · exact h'
    · rw [List.getElem?_eq_none h'] at hi; cases hi
  obtain ⟨u', e, ha⟩ := hp.2.2 i hlt
  rw [hi] at e; cases e; exact ha

end Go.Mem
