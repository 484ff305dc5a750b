/- Plain facts on disks; the example of the document. -/
import Derived.Test.YtmeegdicnfgjfaaDoorDisk2
namespace Go.Mem
open Go Go.RowKit Gf
theorem DiskS.write_plain {s : DiskS} (h : s.stops = false) (i : Nat) (bs : List UInt8) : s.write i bs = { s with f := s.lay i bs 32, writes := s.writes + 1 } := by simp [DiskS.write, h]
theorem lay_same (s : DiskS) (i : Nat) (bs : List UInt8) (m k : Nat) : s.lay i bs m (i * 32 + k) = if k < m then bs.getD k 0 else s.f (i * 32 + k) := by
  unfold DiskS.lay
  by_cases h : k < m
  · rw [if_pos (by omega), if_pos h, show i * 32 + k - i * 32 = k from by omega]
  · rw [if_neg (by omega), if_neg h]
theorem lay_other (s : DiskS) (i j : Nat) (bs : List UInt8) (m k : Nat) (hm : m ≤ 32) (hk : k < 32) (h : j ≠ i) : s.lay i bs m (j * 32 + k) = s.f (j * 32 + k) := by
  unfold DiskS.lay
  rw [if_neg (by omega)]
theorem sector_get (s : DiskS) (i k : Nat) (hk : k < 32) : (s.sector i)[k]? = some (s.f (i * 32 + k)) := rowL_get _ _ _ hk
theorem sector_len (s : DiskS) (i : Nat) : (s.sector i).length = 32 := rowL_len _ _
theorem bys_lit {w : World} {t : TypeId} {bs : List UInt8} (arr : Array Value) (h : arr = (bV bs).toArray) (hl : bs.length ≤ 1000) (n : Nat) (hn : n = bs.length) : Bys (w.alloc (.cells arr t)) (.slice (some ⟨w.heap.size, 0, none⟩) n n) bs := by
  subst hn
  refine (Blk.new w arr t).bys (Nat.le_refl _) (maxLen_ge (by omega)) fun i u hi => ?_
  rw [h]
  simp [bV_get, hi]
end Go.Mem
namespace Go.Proofs.YtmeegdicnfgjfaaDoor
open Go Go.RowKit Go.Mem Gf
attribute [local go_sem ↓] Go.wp_at_zero Go.wp_at_succ
theorem sector_write {s : DiskS} (h : s.stops = false) (i j : Nat) (bs : List UInt8) : (s.write i bs).sector j = if j = i then rowL 32 (padF bs) else s.sector j := by
  rw [DiskS.write_plain h]
  by_cases e : j = i
  · subst e
    rw [if_pos rfl]
    exact rowL_congr fun k hk => by
      show s.lay j bs 32 (j * 32 + k) = _
      rw [lay_same, if_pos hk, padF_eq]
  · rw [if_neg e]
    exact rowL_congr fun k hk => lay_other s i j bs 32 k (Nat.le_refl _) hk e
theorem make32 (w : World) : (Instr.makeSlice 24 (.int .i64 32) (.int .i64 32)).run Tryd.prog w = .ok (.slice (some ⟨w.heap.size, 0, none⟩) 32 32) (w.alloc (.cells (rowArr 32 fun _ => 0) 5)) := by
  have := make_bytes (P := Tryd.prog) 24 5 Tryd.underlying24 E8k 32 (by decide) w
  rw [rowArr_zero] at this
  exact this
theorem make33 (w : World) : (Instr.makeSlice 24 (.int .i64 33) (.int .i64 33)).run Tryd.prog w = .ok (.slice (some ⟨w.heap.size, 0, none⟩) 33 33) (w.alloc (.cells (rowArr 33 fun _ => 0) 5)) := by
  have := make_bytes (P := Tryd.prog) 24 5 Tryd.underlying24 E8k 33 (by decide) w
  rw [rowArr_zero] at this
  exact this

end Go.Proofs.YtmeegdicnfgjfaaDoor
