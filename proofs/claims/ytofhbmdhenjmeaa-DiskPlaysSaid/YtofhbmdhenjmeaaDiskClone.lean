/- Walks of a disk that is copied, the program's and the document's. -/
import Derived.Test.YtofhbmdhenjmeaaDiskRef
import Derived.Test.YtofhbmdhenjmeaaAppCells
namespace Go.Mem
open Go Go.RowKit Gf
theorem rowArr_list (m : Nat) (f : Nat → UInt8) (j : Nat) : (rowArr m f).toList[j]? = (rowArr m f)[j]? := by simp
theorem rowArr_lt {m : Nat} {f : Nat → UInt8} {j : Nat} {v : Value} (h : (rowArr m f).toList[j]? = some v) : j < m ∧ v = .int .u8 ((f j).toNat : Int) := by
  rw [rowArr_list] at h
  rcases Nat.lt_or_ge j m with h' | h'
  · rw [rowArr_get _ _ _ h'] at h; cases h; exact ⟨h', rfl⟩
  · rw [Array.getElem?_eq_none (by rw [rowArr_size]; exact h')] at h; cases h
end Go.Mem
namespace Go.Proofs.Ytofhbmdhenjmeaa
open Go Go.RowKit Go.Mem Gf
attribute [local go_sem ↓] Go.wp_at_zero Go.wp_at_succ
theorem rowArr_one' (m : Nat) (f : Nat → UInt8) : ∀ v ∈ (rowArr m f).toList, v.oneCell' = true := by
  intro v hv
  simp [rowArr] at hv
  obtain ⟨k, _, rfl⟩ := hv
  rfl
theorem E32 : ElemK Try.prog 47 51 (.agg (rowArr 32 fun _ => 0)) 32 32 := ⟨Try.underlying47, new_info, (rowArr_size 32 _), by decide⟩
theorem E1 : ElemK Try.prog 27 5 (.int .u8 0) 1 1 := ⟨Try.underlying27, E8.info, rfl, by decide⟩
set_option maxHeartbeats 1000000 in
theorem dclone_calls (d L : Nat) (s : DiskS) (w : World) (h : IsDisk w d L s) :
    Calls Try.prog 21 #[.pointer (some ⟨d, 0, none⟩)] w fun e w' => ∃ d2 L2, e = .returned (.pointer (some ⟨d2, 0, none⟩)) ∧ IsDisk w' d2 L2 s ∧ w.heap.size ≤ d2 ∧ w.heap.size ≤ L2 ∧ Below w.heap.size w w' := by
  obtain ⟨cap, arr, hd, r1, r2, hL, r3, r4, r5, r6, r7, hne, r8⟩ := h
  have c0 : w.cell? ⟨d, 0, none⟩ = some (.slice (some ⟨L, 0, none⟩) s.n cap) := by rw [hd.cell]; rfl
  have c0' : ∀ o, (w.alloc o).cell? ⟨d, 0, none⟩ = some (.slice (some ⟨L, 0, none⟩) s.n cap) := fun o => by rw [(hd.alloc o).cell]; rfl
  have c1 : w.cell? ⟨d, 1, none⟩ = some (.bool s.dead) := by rw [hd.cell]; rfl
  have c2 : w.cell? ⟨d, 2, none⟩ = some (.bool s.stops) := by rw [hd.cell]; rfl
  have c3 : w.cell? ⟨d, 3, none⟩ = some (.int .i64 (s.cnt : Int)) := by rw [hd.cell]; rfl
  have c4 : w.cell? ⟨d, 4, none⟩ = some (.int .i64 (s.keep : Int)) := by rw [hd.cell]; rfl
  have c5 : w.cell? ⟨d, 5, none⟩ = some (.int .i64 (s.writes : Int)) := by rw [hd.cell]; rfl
  go_enter Try.func21, Try.ntmps21
  go_wp2_with (at_builtin; refine app_cells E32 rfl _ _ rfl rfl (L := L) (off := 0) (n := s.n) (cap := cap) (news := (rowArr (s.n * 32) s.f).toList) rfl (by simp [rowArr_size]) ?q1 (rowArr_one' _ _) (by omega) (maxLen_ge (by omega)) (by omega) ?_)
  case q1 =>
    intro j u hj
    obtain ⟨hj', rfl⟩ := rowArr_lt hj
    rw [Nat.zero_add, (hL.alloc _).cell]; exact r4 j hj'
  intro g cap' arr' w2 hB hg hc1 hc2 hc3 hc4 hb
  have hd2 := (Blk.new w #[.slice (some ⟨L, 0, none⟩) s.n cap, .bool s.dead, .bool s.stops, .int .i64 s.cnt, .int .i64 s.keep, .int .i64 s.writes] 49).below hb (by omega)
  have d0 : w2.cell? ⟨w.heap.size, 0, none⟩ = some (.slice (some ⟨L, 0, none⟩) s.n cap) := by rw [hd2.cell]; rfl
  have f0 := hd2.free 0
  go_wp2
  go_ret
  have hgs : w.heap.size ≠ g := by omega
  exact ⟨_, g, rfl, ⟨cap', arr', by have := hd2.set 0 (.slice (some ⟨g, 0, none⟩) s.n cap'); simpa using this, hc1, by unfold maxLen at hc2; omega, hB.set_other (fun e => hgs e) _, by omega, fun j hj => by rw [hc4 j hj, rowArr_get _ _ _ hj], r5, r6, r7, hgs, r8⟩, Nat.le_refl _, by omega,
    (((Below.refl _ _).alloc (Nat.le_refl _) _).trans (hb.mono (by simp))).setCell (Nat.le_refl _) _⟩
set_option maxHeartbeats 1000000 in
theorem rcopy_calls (d L : Nat) (s : DiskS) (w : World) (h : RDisk w d L s) :
    Calls Try.prog 22 #[.pointer (some ⟨d, 0, none⟩)] w fun e w' => ∃ d2 L2, e = .returned (.pointer (some ⟨d2, 0, none⟩)) ∧ RDisk w' d2 L2 s ∧ w.heap.size ≤ d2 ∧ w.heap.size ≤ L2 ∧ Below w.heap.size w w' := by
  obtain ⟨cap, atv, arr, hd, r1, r2, hL, r3, r4, r5, r6, r7, hne, r8⟩ := h
  have R8 := Lib.hid r8
  have c0 : w.cell? ⟨d, 0, none⟩ = some (.slice (some ⟨L, 0, none⟩) (s.n * 32) cap) := by rw [hd.cell]; rfl
  have c0' : ∀ o, (w.alloc o).cell? ⟨d, 0, none⟩ = some (.slice (some ⟨L, 0, none⟩) (s.n * 32) cap) := fun o => by rw [(hd.alloc o).cell]; rfl
  have c1 : w.cell? ⟨d, 1, none⟩ = some (.bool s.dead) := by rw [hd.cell]; rfl
  have c2 : w.cell? ⟨d, 2, none⟩ = some (.bool s.stops) := by rw [hd.cell]; rfl
  have c3 : w.cell? ⟨d, 3, none⟩ = some (.int .i64 atv) := by rw [hd.cell]; rfl
  have c4 : w.cell? ⟨d, 4, none⟩ = some (.int .i64 (s.keep : Int)) := by rw [hd.cell]; rfl
  have c5 : w.cell? ⟨d, 5, none⟩ = some (.int .i64 (s.writes : Int)) := by rw [hd.cell]; rfl
  go_enter Try.func22, Try.ntmps22
  go_wp2_with (at_builtin; refine app_cells E1 rfl _ _ rfl rfl (L := L) (off := 0) (n := s.n * 32) (cap := cap) (news := (rowArr (s.n * 32) s.f).toList) rfl (by simp [rowArr_size]) ?q1 (rowArr_one' _ _) (by omega) (maxLen_ge (by omega)) (by omega) ?_)
  case q1 =>
    intro j u hj
    obtain ⟨hj', rfl⟩ := rowArr_lt hj
    rw [Nat.zero_add, (hL.alloc _).cell]; exact r4 j hj'
  intro g cap' arr' w2 hB hg hc1 hc2 hc3 hc4 hb
  have hd2 := (Blk.new w #[.slice (some ⟨L, 0, none⟩) (s.n * 32) cap, .bool s.dead, .bool s.stops, .int .i64 atv, .int .i64 s.keep, .int .i64 s.writes] 53).below hb (by omega)
  have d0 : w2.cell? ⟨w.heap.size, 0, none⟩ = some (.slice (some ⟨L, 0, none⟩) (s.n * 32) cap) := by rw [hd2.cell]; rfl
  have f0 := hd2.free 0
  clear r8
  go_wp2
  go_ret
  have hgs : w.heap.size ≠ g := by omega
  exact ⟨_, g, rfl, ⟨cap', atv, arr', by have := hd2.set 0 (.slice (some ⟨g, 0, none⟩) (s.n * 32) cap'); simpa using this, hc1, by unfold maxLen at hc2; omega, hB.set_other (fun e => hgs e) _, by omega, fun j hj => by rw [hc4 j (by omega), rowArr_get _ _ _ hj], r5, r6, r7, hgs, R8.out⟩, Nat.le_refl _, by omega,
    (((Below.refl _ _).alloc (Nat.le_refl _) _).trans (hb.mono (by simp))).setCell (Nat.le_refl _) _⟩
end Go.Proofs.Ytofhbmdhenjmeaa
