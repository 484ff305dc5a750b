/- Plain facts on disks; the example of the document. -/
import Derived.Test.YtofhbmdhenjmeaaDisk2
namespace Go.Mem
open Go Go.RowKit Gf
theorem DiskS.write_plain {s : DiskS} (h : s.stops = false) (i : Nat) (bs : List UInt8) : s.write i bs = { s with f := s.lay i bs 32, writes := s.writes + 1 } := by simp [DiskS.write, h]
theorem lay_same (s : DiskS) (i : Nat) (bs : List UInt8) (m k : Nat) : s.lay i bs m (i * 32 + k) = if k < m then bs.getD k 0 else s.f (i * 32 + k) := by
  unfold DiskS.lay
  by_cases h : k < m
  · rw [if_pos (by omega), if_pos h, show i * 32 + k - i * 32 = k from by omega]
  · rw [if_neg (by omega), if_neg h]
theorem lay_other (s : DiskS) (i j : Nat) (bs : List UInt8) (m k : Nat) (hm : m ≤ 32) (hk : k < 32) (h : j ≠ i) : s.lay i bs m (j * 32 + k) = s.f (j * 32 + k) := by
  unfold DiskS.lay
  rw [if_neg (by omega)]
theorem sector_get (s : DiskS) (i k : Nat) (hk : k < 32) : (s.sector i)[k]? = some (s.f (i * 32 + k)) := rowL_get _ _ _ hk
theorem sector_len (s : DiskS) (i : Nat) : (s.sector i).length = 32 := rowL_len _ _
theorem bys_lit {w : World} {t : TypeId} {bs : List UInt8} (arr : Array Value) (h : arr = (bV bs).toArray) (hl : bs.length ≤ 1000) (n : Nat) (hn : n = bs.length) : Bys (w.alloc (.cells arr t)) (.slice (some ⟨w.heap.size, 0, none⟩) n n) bs := by
  subst hn
  refine (Blk.new w arr t).bys (Nat.le_refl _) (maxLen_ge (by omega)) fun i u hi => ?_
  rw [h]
  simp [bV_get, hi]
end Go.Mem
namespace Go.Proofs.Ytofhbmdhenjmeaa
open Go Go.RowKit Go.Mem Gf
attribute [local go_sem ↓] Go.wp_at_zero Go.wp_at_succ
theorem sector_write {s : DiskS} (h : s.stops = false) (i j : Nat) (bs : List UInt8) : (s.write i bs).sector j = if j = i then rowL 32 (padF bs) else s.sector j := by
  rw [DiskS.write_plain h]
  by_cases e : j = i
  · subst e
    rw [if_pos rfl]
    exact rowL_congr fun k hk => by
      show s.lay j bs 32 (j * 32 + k) = _
      rw [lay_same, if_pos hk, padF_eq]
  · rw [if_neg e]
    exact rowL_congr fun k hk => lay_other s i j bs 32 k (Nat.le_refl _) hk e
theorem make32 (w : World) : (Instr.makeSlice 27 (.int .i64 32) (.int .i64 32)).run Try.prog w = .ok (.slice (some ⟨w.heap.size, 0, none⟩) 32 32) (w.alloc (.cells (rowArr 32 fun _ => 0) 5)) := by
  have := make_bytes (P := Try.prog) 27 5 Try.underlying27 E8k 32 (by decide) w
  rw [rowArr_zero] at this
  exact this
theorem make33 (w : World) : (Instr.makeSlice 27 (.int .i64 33) (.int .i64 33)).run Try.prog w = .ok (.slice (some ⟨w.heap.size, 0, none⟩) 33 33) (w.alloc (.cells (rowArr 33 fun _ => 0) 5)) := by
  have := make_bytes (P := Try.prog) 27 5 Try.underlying27 E8k 33 (by decide) w
  rw [rowArr_zero] at this
  exact this

set_option maxRecDepth 20000 in
set_option maxHeartbeats 2000000 in
theorem wakes10_calls (w : World) : Calls Try.prog 14 #[] w fun e w' => e = .returned (.bool true) ∧ Below w.heap.size w w' := by
  go_enter Try.func14, Try.ntmps14
  go_wp2_with fail
  refine (dnew_calls 1 w (by decide) (by decide)).mono ?_
  rintro e w1 ⟨d, L, rfl, hD, hd1, hd2, hb⟩
  go_wp2_with fail
  refine (dstop_calls d L _ 0 1 w1 hD (by decide)).mono ?_
  rintro e w2 ⟨rfl, hD, hc⟩
  have hb := hb.trans (hc.below (B := w.heap.size) hb.size (fun k hk => by subst hk; exact hd1))
  clear hc
  have hs : w.heap.size ≤ w2.heap.size := hb.size
  go_wp2_with fail
  have hD := hD.below ((Below.refl _ _).alloc (Nat.le_refl _) (.cells #[.int .u8 5, .int .u8 5] 5))
  refine (dwrite_calls d L _ 0 _ [5, 5] _ hD (bys_lit _ rfl (by decide) 2 rfl) (by decide) (by decide) rfl (by decide)).mono ?_
  rintro e w3 ⟨rfl, hD, hc⟩
  have hb := (hb.alloc hs (.cells #[.int .u8 5, .int .u8 5] 5)).trans (hc.below (B := w.heap.size) (by simp; omega) (fun k hk => by rcases hk with rfl | rfl; exact hd1; exact hd2))
  clear hc hs
  rw [if_pos (by decide)]
  go_wp2_with fail
  refine (dstart_calls d L _ w3 hD).mono ?_
  rintro e w4 ⟨rfl, hD, hc⟩
  have hb := hb.trans (hc.below (B := w.heap.size) hb.size (fun k hk => by subst hk; exact hd1))
  clear hc
  go_wp2_with fail
  refine (dread_calls d L _ 0 w4 hD (by decide) rfl).mono ?_
  rintro e w5 ⟨v, rfl, hown, hb5⟩
  have hB := hown.bys
  obtain ⟨a, c, rfl⟩ := hB.eq_slice
  rw [sector_len] at hB ⊢
  obtain ⟨b1, o1, u1, rfl, hu1, c1, _⟩ := hB.at 0 (by rw [sector_len]; decide)
  obtain ⟨b2, o2, u2, e2, hu2, c2, _⟩ := hB.at 1 (by rw [sector_len]; decide)
  cases e2
  have hu1 := hu1.out
  have hu2 := hu2.out
  rw [sector_get _ _ _ (by decide)] at hu1 hu2
  obtain rfl : u1 = 5 := by have := Option.some.inj hu1; rw [← this]; decide
  obtain rfl : u2 = 0 := by have := Option.some.inj hu2; rw [← this]; decide
  have c1 : w5.cell? ⟨b1, o1, none⟩ = some (.int .u8 5) := c1
  have c2 : w5.cell? ⟨b1, o1 + 1, none⟩ = some (.int .u8 0) := c2
  have hs := hb.size
  have hb := hb.trans (hb5.mono hs)
  clear hu1 hu2 hb5 hs hown
  go_wp2
  go_ret
  exact ⟨rfl, hb⟩
end Go.Proofs.Ytofhbmdhenjmeaa
