/- Walks of the disk: made, asked, stopped, started. -/
import Derived.Test.YtmeegdicnfgjfaaDoorBKeep
import Derived.Laws.MakeOwn
import Derived.Deep.MidRow
namespace Go.Mem
open Go Go.RowKit Gf
/-- what a disk is: n sectors of 32 bytes, whether it is dead, whether it stops, behind how many writes, so many bytes into the next one, how many writes ended well -/
structure DiskS where
  n : Nat
  f : Nat → UInt8
  dead : Bool
  stops : Bool
  cnt : Nat
  keep : Nat
  writes : Nat
def DiskS.fresh (n : Nat) : DiskS := ⟨n, fun _ => 0, false, false, 0, 0, 0⟩
def DiskS.may (s : DiskS) (i : Int) : Bool := decide (0 ≤ i) && decide (i < s.n)
def DiskS.stop (s : DiskS) (a k : Int) : DiskS := { s with stops := true, cnt := (max 0 a).toNat, keep := (max 0 (min k 32)).toNat }
def DiskS.start (s : DiskS) : DiskS := { s with dead := false, stops := false }
/-- the bytes of a sector -/
def DiskS.sector (s : DiskS) (i : Nat) : List UInt8 := rowL 32 fun k => s.f (i * 32 + k)
def DiskS.lay (s : DiskS) (i : Nat) (bs : List UInt8) (m : Nat) : Nat → UInt8 := fun j => if i * 32 ≤ j ∧ j < i * 32 + m then bs.getD (j - i * 32) 0 else s.f j
/-- a write to a sector that there is, of at most 32 bytes -/
def DiskS.write (s : DiskS) (i : Nat) (bs : List UInt8) : DiskS :=
  if s.stops = true ∧ s.cnt = 0 then { s with f := s.lay i bs s.keep, dead := true }
  else { s with f := s.lay i bs 32, cnt := if s.stops then s.cnt - 1 else s.cnt, writes := s.writes + 1 }
theorem madeCells_arr (m k : Nat) (hm0 : 0 < m) : madeCells (rowArr m fun _ => 0) k = rowArr k fun _ => 0 := by
  apply Array.ext
  · simp [madeCells, rowArr_size]
  · intro i h1 h2
    have hm : i % m < m := Nat.mod_lt _ hm0
    simp only [madeCells, Array.getElem_map, Array.getElem_range, rowArr_size]
    simp [rowArr, hm]
end Go.Mem
namespace Go.Proofs.YtmeegdicnfgjfaaDoor
open Go Go.RowKit Go.Mem Gf
attribute [local go_sem ↓] Go.wp_at_zero Go.wp_at_succ

/-- a disk lies in block d, its sectors in block L -/
def IsDisk (w : World) (d L : Nat) (s : DiskS) : Prop :=
  ∃ cap arr, Blk w d #[.slice (some ⟨L, 0, none⟩) s.n cap, .bool s.dead, .bool s.stops, .int .i64 s.cnt, .int .i64 s.keep, .int .i64 s.writes] 68 ∧ s.n ≤ cap ∧ cap ≤ 9223372036854775807 ∧ Blk w L arr 82 ∧ s.n * 32 ≤ arr.size ∧
    (∀ j, j < s.n * 32 → arr[j]? = some (.int .u8 ((s.f j).toNat : Int))) ∧ 1 ≤ s.n ∧ s.n ≤ 4096 ∧ s.keep ≤ 32 ∧ d ≠ L ∧ s.cnt ≤ 9223372036854775807 ∧ s.writes ≤ 4611686018427387904
theorem IsDisk.chg {w w' : World} {d L : Nat} {s : DiskS} {S : Nat → Prop} (h : IsDisk w d L s) (hc : Chg S w w') (h1 : ¬ S d) (h2 : ¬ S L) : IsDisk w' d L s := by
  obtain ⟨cap, arr, hd, a, b, hL, r⟩ := h
  exact ⟨cap, arr, hc.blk hd h1, a, b, hc.blk hL h2, r⟩
theorem IsDisk.below {w w' : World} {d L : Nat} {s : DiskS} (h : IsDisk w d L s) (hc : Below w.heap.size w w') : IsDisk w' d L s := h.chg (S := fun _ => False) (Chg.of_below hc) id id
theorem IsDisk.drewN {w : World} {d L : Nat} {s : DiskS} (h : IsDisk w d L s) (m : Nat) : IsDisk (w.drewN m) d L s := h
theorem IsDisk.lt {w : World} {d L : Nat} {s : DiskS} (h : IsDisk w d L s) : d < w.heap.size ∧ L < w.heap.size := by
  obtain ⟨cap, arr, hd, a, b, hL, r⟩ := h
  exact ⟨hd.lt, hL.lt⟩

set_option maxRecDepth 100000 in
set_option maxHeartbeats 1000000 in
theorem may_calls (d L : Nat) (s : DiskS) (i : Int) (w : World) (h : IsDisk w d L s) (b : Bool) (hb : s.may i = b) :
    Calls Tryd.prog 41 #[.pointer (some ⟨d, 0, none⟩), .int .i64 i] w fun e w' => e = .returned (.bool b) ∧ w = w' := by
  have Hb := Lib.hid hb
  clear hb
  obtain ⟨cap, arr, hd, a, b, hL, _, _, hn1, hn2, _⟩ := h
  have c0 : w.cell? ⟨d, 0, none⟩ = some (.slice (some ⟨L, 0, none⟩) s.n cap) := by rw [hd.cell]; rfl
  by_cases h1 : 0 ≤ i
  · have t1 : decide (0 ≤ i) = true := by simp; omega
    have Hm := Lib.hid (show s.may i = decide (i < s.n) from by simp [DiskS.may, h1])
    go_enter Tryd.func41, Tryd.ntmps41
    go_wp2
    go_ret
    exact ⟨by rw [← Hb.out, Hm.out]; rfl, rfl⟩
  · have t1 : decide (0 ≤ i) = false := by simp; omega
    have Hm := Lib.hid (show s.may i = false from by simp [DiskS.may]; omega)
    go_enter Tryd.func41, Tryd.ntmps41
    go_wp2
    go_ret
    exact ⟨by rw [← Hb.out, Hm.out]; rfl, rfl⟩

set_option maxRecDepth 100000 in
set_option maxHeartbeats 1000000 in
theorem dlen_calls (d L : Nat) (s : DiskS) (w : World) (h : IsDisk w d L s) :
    Calls Tryd.prog 33 #[.pointer (some ⟨d, 0, none⟩)] w fun e w' => e = .returned (.int .i64 (s.n : Int)) ∧ w = w' := by
  obtain ⟨cap, arr, hd, a, b, hL, _, _, hn1, hn2, _⟩ := h
  have c0 : w.cell? ⟨d, 0, none⟩ = some (.slice (some ⟨L, 0, none⟩) s.n cap) := by rw [hd.cell]; rfl
  go_enter Tryd.func33, Tryd.ntmps33
  go_wp2
  go_ret
  exact ⟨rfl, rfl⟩

set_option maxRecDepth 100000 in
set_option maxHeartbeats 1000000 in
theorem ddead_calls (d L : Nat) (s : DiskS) (w : World) (h : IsDisk w d L s) :
    Calls Tryd.prog 16 #[.pointer (some ⟨d, 0, none⟩)] w fun e w' => e = .returned (.bool s.dead) ∧ w = w' := by
  obtain ⟨cap, arr, hd, a, b, hL, _, _, hn1, hn2, _⟩ := h
  have c0 : w.cell? ⟨d, 1, none⟩ = some (.bool s.dead) := by rw [hd.cell]; rfl
  go_enter Tryd.func16, Tryd.ntmps16
  go_wp2
  go_ret
  exact ⟨rfl, rfl⟩

set_option maxRecDepth 100000 in
set_option maxHeartbeats 1000000 in
theorem dwrites_calls (d L : Nat) (s : DiskS) (w : World) (h : IsDisk w d L s) :
    Calls Tryd.prog 49 #[.pointer (some ⟨d, 0, none⟩)] w fun e w' => e = .returned (.int .i64 (s.writes : Int)) ∧ w = w' := by
  obtain ⟨cap, arr, hd, a, b, hL, _, _, hn1, hn2, _⟩ := h
  have c0 : w.cell? ⟨d, 5, none⟩ = some (.int .i64 (s.writes : Int)) := by rw [hd.cell]; rfl
  go_enter Tryd.func49, Tryd.ntmps49
  go_wp2
  go_ret
  exact ⟨rfl, rfl⟩

set_option maxRecDepth 100000 in
set_option maxHeartbeats 1000000 in
theorem dstart_calls (d L : Nat) (s : DiskS) (w : World) (h : IsDisk w d L s) :
    Calls Tryd.prog 17 #[.pointer (some ⟨d, 0, none⟩)] w fun e w' => e = .returned (.tuple #[]) ∧ IsDisk w' d L s.start ∧ Chg (fun b => b = d) w w' := by
  obtain ⟨cap, arr, hd, a, b, hL, r1, r2, r3, r4, r5, hne, r6⟩ := h
  have c1 : w.cell? ⟨d, 1, none⟩ = some (.bool s.dead) := by rw [hd.cell]; rfl
  have c2 : w.cell? ⟨d, 2, none⟩ = some (.bool s.stops) := by rw [hd.cell]; rfl
  have f1 := hd.free 1
  have f2 := hd.free 2
  go_enter Tryd.func17, Tryd.ntmps17
  go_wp2
  go_end0
  exact ⟨rfl, ⟨cap, arr, (hd.set 1 (.bool false)).set 2 (.bool false), a, b, (hL.set_other hne _).set_other hne _, r1, r2, r3, r4, r5, hne, r6⟩, ((Chg.refl (fun b => b = d) _).set rfl _).set rfl _⟩

theorem IsDisk.stopped {d L : Nat} {s : DiskS} {x y X Y : Int} {w : World} (h : IsDisk w d L s) (hx : x ≤ 9223372036854775807) (hX : ((max 0 x).toNat : Int) = X) (hY : ((max 0 (min y 32)).toNat : Int) = Y) :
    IsDisk (((w.setCell ⟨d, 2, none⟩ (.bool true)).setCell ⟨d, 3, none⟩ (.int .i64 X)).setCell ⟨d, 4, none⟩ (.int .i64 Y)) d L (s.stop x y) := by
  obtain ⟨cap, arr, hd, a, b, hL, r1, r2, r3, r4, r5, hne, r6, r7⟩ := h
  subst hX hY
  exact ⟨cap, arr, ((hd.set 2 _).set 3 _).set 4 _, a, b, ((hL.set_other hne _).set_other hne _).set_other hne _, r1, r2, r3, r4, by show (max 0 (min y 32)).toNat ≤ 32; omega, hne, by show (max 0 x).toNat ≤ 9223372036854775807; omega, r7⟩
set_option maxRecDepth 100000 in
set_option maxHeartbeats 1000000 in
theorem dstop_calls (d L : Nat) (s : DiskS) (x y : Int) (w : World) (hD : IsDisk w d L s) (hx : x ≤ 9223372036854775807) :
    Calls Tryd.prog 14 #[.pointer (some ⟨d, 0, none⟩), .int .i64 x, .int .i64 y] w fun e w' => e = .returned (.tuple #[]) ∧ IsDisk w' d L (s.stop x y) ∧ Chg (fun b => b = d) w w' := by
  obtain ⟨cap, arr, hd, a, b, hL, r1, r2, r3, r4, r5, hne, r6, r7⟩ := id hD
  have c1 : w.cell? ⟨d, 2, none⟩ = some (.bool s.stops) := by rw [hd.cell]; rfl
  have c2 : w.cell? ⟨d, 3, none⟩ = some (.int .i64 s.cnt) := by rw [hd.cell]; rfl
  have c3 : w.cell? ⟨d, 4, none⟩ = some (.int .i64 s.keep) := by rw [hd.cell]; rfl
  have f1 := hd.free 2
  have f2 := hd.free 3
  have f3 := hd.free 4
  go_enter Tryd.func14, Tryd.ntmps14
  go_wp2
  all_goals
    go_end0
    exact ⟨rfl, hD.stopped hx (by omega) (by omega), (((Chg.refl (fun b => b = d) _).set rfl _).set rfl _).set rfl _⟩

theorem new_info : (Tryd.prog.info? 82).map (fun i => (i.zero, i.size, i.bytes)) = some (some (.agg (rowArr 32 fun _ => 0)), 32, 32) := by kernel_rfl
set_option maxRecDepth 100000 in
set_option maxHeartbeats 1000000 in
theorem dnew_bad (n : Int) (w : World) (h : n < 1 ∨ 4096 < n) : Calls Tryd.prog 9 #[.int .i64 n] w fun e w' => e = .returned (.tuple #[.pointer none, .int .i64 1]) ∧ w = w' := by
  rcases h with h | h
  all_goals
    by_cases h1 : n < 1
    all_goals
      go_enter Tryd.func9, Tryd.ntmps9
      go_wp2
      go_ret2
      exact ⟨rfl, rfl⟩
set_option maxRecDepth 100000 in
set_option maxHeartbeats 1000000 in
theorem dnew_calls (n : Nat) (w : World) (h1 : 1 ≤ n) (h2 : n ≤ 4096) :
    Calls Tryd.prog 9 #[.int .i64 n] w fun e w' => ∃ d L, e = .returned (.tuple #[.pointer (some ⟨d, 0, none⟩), .int .i64 0]) ∧ IsDisk w' d L (.fresh n) ∧ w.heap.size ≤ d ∧ w.heap.size ≤ L ∧ Below w.heap.size w w' := by
  have hmk : ∀ w, (Instr.makeSlice 66 (.int .i64 (n : Int)) (.int .i64 (n : Int))).run Tryd.prog w = .ok (.slice (some ⟨w.heap.size, 0, none⟩) n n) (w.alloc (.cells (rowArr (n * 32) fun _ => 0) 82)) := fun w => by
    obtain ⟨i, hi, hz, hs, hb⟩ := info_parts new_info
    have := run_make (P := Tryd.prog) w 66 82 i _ Tryd.underlying66 hi hz .i64 .i64 n n (by omega) (Int.le_refl _) (by rw [hb]; omega) (by omega)
    rw [hs] at this
    simp only [Int.toNat_natCast, Value.cells, madeCells_arr _ _ (show 0 < 32 by decide)] at this
    simpa using this
  have t1 : decide ((n : Int) < 1) = false := by simp; omega
  have t2 : decide ((4096 : Int) < (n : Int)) = false := by simp; omega
  go_enter Tryd.func9, Tryd.ntmps9
  go_wp2
  go_ret2
  have hL : Blk (w.alloc (.cells (rowArr (n * 32) fun _ => 0) 82)) w.heap.size (rowArr (n * 32) fun _ => 0) 82 := Blk.new _ _ _
  exact ⟨_, _, rfl, ⟨n, rowArr (n * 32) fun _ => 0, Blk.new_at _ _ _ _ (by simp), Nat.le_refl _, by omega, hL.alloc _, by rw [rowArr_size]; exact Nat.le_refl _, fun j hj => rowArr_get _ _ _ hj, h1, h2, Nat.zero_le _, by omega, Nat.zero_le _, Nat.zero_le _⟩, by omega, Nat.le_refl _,
    ((Below.refl _ _).alloc (Nat.le_refl _) _).alloc (by simp) _⟩
end Go.Proofs.YtmeegdicnfgjfaaDoor
