/- Walks of a disk that is copied, the program's and the document's. -/
import Derived.Test.YtmeegdicnfgjfaaDoorDiskRef
import Derived.Test.YtmeegdicnfgjfaaDoorAppCells
namespace Go.Mem
open Go Go.RowKit Gf
theorem rowArr_list (m : Nat) (f : Nat → UInt8) (j : Nat) : (rowArr m f).toList[j]? = (rowArr m f)[j]? := by simp
theorem rowArr_lt {m : Nat} {f : Nat → UInt8} {j : Nat} {v : Value} (h : (rowArr m f).toList[j]? = some v) : j < m ∧ v = .int .u8 ((f j).toNat : Int) := by
  rw [rowArr_list] at h
  rcases Nat.lt_or_ge j m with h' | h'
  · rw [rowArr_get _ _ _ h'] at h; cases h; exact ⟨h', rfl⟩
  · rw [Array.getElem?_eq_none (by rw [rowArr_size]; exact h')] at h; cases h
end Go.Mem
namespace Go.Proofs.YtmeegdicnfgjfaaDoor
open Go Go.RowKit Go.Mem Gf
attribute [local go_sem ↓] Go.wp_at_zero Go.wp_at_succ
theorem rowArr_one' (m : Nat) (f : Nat → UInt8) : ∀ v ∈ (rowArr m f).toList, v.oneCell' = true := by
  intro v hv
  simp [rowArr] at hv
  obtain ⟨k, _, rfl⟩ := hv
  rfl
theorem E32 : ElemK Tryd.prog 66 82 (.agg (rowArr 32 fun _ => 0)) 32 32 := ⟨Tryd.underlying66, new_info, (rowArr_size 32 _), by decide⟩
theorem E1 : ElemK Tryd.prog 24 5 (.int .u8 0) 1 1 := ⟨Tryd.underlying24, E8.info, rfl, by decide⟩
end Go.Proofs.YtmeegdicnfgjfaaDoor
