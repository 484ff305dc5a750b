/- Texts of this proof, packed: DiskLaw, DiskRef, CodeMath, AppCells, DiskClone, DiskAny, StoreMath, OwnX. -/
import Derived.Test.YtehgnkdfnnebcaaDoorPk00
import Derived.Lib.ItoaMem
import Derived.Lib.FrozenHead
import Derived.Lib.ConvBytes
section
namespace Go.Mem
open Go Go.RowKit Gf
theorem lay_same (s : DiskS) (i : Nat) (bs : List UInt8) (m k : Nat) : s.lay i bs m (i * 32 + k) = if k < m then bs.getD k 0 else s.f (i * 32 + k) := by
  unfold DiskS.lay
  by_cases h : k < m
  · rw [if_pos (by omega), if_pos h, show i * 32 + k - i * 32 = k from by omega]
  · rw [if_neg (by omega), if_neg h]
theorem sector_get (s : DiskS) (i k : Nat) (hk : k < 32) : (s.sector i)[k]? = some (s.f (i * 32 + k)) := rowL_get _ _ _ hk
theorem sector_len (s : DiskS) (i : Nat) : (s.sector i).length = 32 := rowL_len _ _
theorem bys_lit {w : World} {t : TypeId} {bs : List UInt8} (arr : Array Value) (h : arr = (bV bs).toArray) (hl : bs.length ≤ 1000) (n : Nat) (hn : n = bs.length) : Bys (w.alloc (.cells arr t)) (.slice (some ⟨w.heap.size, 0, none⟩) n n) bs := by
  subst hn
  refine (Blk.new w arr t).bys (Nat.le_refl _) (maxLen_ge (by omega)) fun i u hi => ?_
  rw [h]
  simp [bV_get, hi]
end Go.Mem
namespace Go.Proofs.YtehgnkdfnnebcaaDoor
open Go Go.RowKit Go.Mem Gf
attribute [local go_sem ↓] Go.wp_at_zero Go.wp_at_succ
end Go.Proofs.YtehgnkdfnnebcaaDoor
end
section
namespace Go.Proofs.YtehgnkdfnnebcaaDoor
open Go Go.RowKit Go.Mem Gf
attribute [local go_sem ↓] Go.wp_at_zero Go.wp_at_succ
def RDisk (w : World) (r B : Nat) (s : DiskS) : Prop :=
  ∃ (cap : Nat) (atv : Int) (arr : Array Value), Blk w r #[.slice (some ⟨B, 0, none⟩) (s.n * 32) cap, .bool s.dead, .bool s.stops, .int .i64 atv, .int .i64 s.keep, .int .i64 s.writes] 46 ∧ s.n * 32 ≤ cap ∧ cap ≤ 9223372036854775807 ∧ Blk w B arr 5 ∧ s.n * 32 ≤ arr.size ∧
    (∀ j, j < s.n * 32 → arr[j]? = some (.int .u8 ((s.f j).toNat : Int))) ∧ 1 ≤ s.n ∧ s.n ≤ 4096 ∧ s.keep ≤ 32 ∧ r ≠ B ∧ (s.stops = true → atv = s.cnt) ∧ -(s.writes : Int) ≤ atv ∧ atv ≤ 9223372036854775807 ∧ s.writes ≤ 4611686018427387904
theorem RDisk.chg {w w' : World} {r B : Nat} {s : DiskS} {S : Nat → Prop} (h : RDisk w r B s) (hc : Chg S w w') (h1 : ¬ S r) (h2 : ¬ S B) : RDisk w' r B s := by
  obtain ⟨cap, atv, arr, hd, a, b, hL, r⟩ := h
  exact ⟨cap, atv, arr, hc.blk hd h1, a, b, hc.blk hL h2, r⟩
theorem RDisk.below {w w' : World} {r B : Nat} {s : DiskS} (h : RDisk w r B s) (hc : Below w.heap.size w w') : RDisk w' r B s := h.chg (S := fun _ => False) (Chg.of_below hc) id id
theorem RDisk.lt {w : World} {r B : Nat} {s : DiskS} (h : RDisk w r B s) : r < w.heap.size ∧ B < w.heap.size := by
  obtain ⟨cap, atv, arr, hd, a, b, hL, _⟩ := h
  exact ⟨hd.lt, hL.lt⟩
theorem RDisk.sector {w : World} {r B : Nat} {s : DiskS} (h : RDisk w r B s) (i : Nat) (hi : i < s.n) (c : Nat) (hc : 32 ≤ c) (hm : c ≤ maxLen) : Bys w (.slice (some ⟨B, i * 32, none⟩) 32 c) (s.sector i) := by
  obtain ⟨cap, atv, arr, hd, a, b, hL, r1, r2, r3⟩ := h
  exact hL.mid_bys hc hm fun k hk => r2 _ (by omega)
theorem RDisk.set {w : World} {r B : Nat} {s : DiskS} (h : RDisk w r B s) (x : Nat) (u : UInt8) : RDisk (w.setCell ⟨B, x, none⟩ (.int .u8 (u.toNat : Int))) r B { s with f := fun j => if j = x then u else s.f j } := by
  obtain ⟨cap, atv, arr, hd, a, b, hL, r1, r2, r3, r4, r5, hne, r6⟩ := h
  refine ⟨cap, atv, _, hd.set_other (fun e => hne e.symm) _, a, b, hL.set x _, by rw [Array.size_setIfInBounds]; exact r1, fun j hj => ?_, r3, r4, r5, hne, r6⟩
  have hj : j < s.n * 32 := hj
  rw [Array.getElem?_setIfInBounds]
  by_cases e : x = j
  · subst e; simp; omega
  · rw [if_neg e, r2 j hj]
    show some (Value.int .u8 ((s.f j).toNat : Int)) = some (Value.int .u8 ((if j = x then u else s.f j).toNat : Int))
    rw [if_neg (fun e' => e e'.symm)]
set_option maxRecDepth 100000 in
set_option maxHeartbeats 1000000 in
theorem rlen_calls (r B : Nat) (s : DiskS) (w : World) (h : RDisk w r B s) :
    Calls Tryd.prog 15 #[.pointer (some ⟨r, 0, none⟩)] w fun e w' => e = .returned (.int .i64 (s.n : Int)) ∧ w = w' := by
  obtain ⟨cap, atv, arr, hd, a, b, hL, _, _, hn1, hn2, _⟩ := h
  have c0 : w.cell? ⟨r, 0, none⟩ = some (.slice (some ⟨B, 0, none⟩) (s.n * 32) cap) := by rw [hd.cell]; rfl
  go_enter Tryd.func15, Tryd.ntmps15
  go_wp2
  go_ret
  refine ⟨ret_int ?_, rfl⟩
  first | omega | (simp; omega) | (push_cast; omega)
theorem RDisk.stopped {r B : Nat} {s : DiskS} {x y X Y : Int} {w : World} (h : RDisk w r B s) (hx : x ≤ 9223372036854775807) (hX : ((max 0 x).toNat : Int) = X) (hY : ((max 0 (min y 32)).toNat : Int) = Y) :
    RDisk (((w.setCell ⟨r, 2, none⟩ (.bool true)).setCell ⟨r, 3, none⟩ (.int .i64 X)).setCell ⟨r, 4, none⟩ (.int .i64 Y)) r B (s.stop x y) := by
  obtain ⟨cap, atv, arr, hd, a, b, hL, r1, r2, r3, r4, r5, hne, r6, r7, r8, r9⟩ := h
  subst hX hY
  exact ⟨cap, _, arr, ((hd.set 2 _).set 3 _).set 4 _, a, b, ((hL.set_other hne _).set_other hne _).set_other hne _, r1, r2, r3, r4, by show (max 0 (min y 32)).toNat ≤ 32; omega, hne, fun _ => rfl, by show -(s.writes : Int) ≤ _; omega, by omega, r9⟩
set_option maxRecDepth 100000 in
set_option maxHeartbeats 1000000 in
theorem rstop_calls (r B : Nat) (s : DiskS) (x y : Int) (w : World) (hD : RDisk w r B s) (hx : x ≤ 9223372036854775807) :
    Calls Tryd.prog 10 #[.pointer (some ⟨r, 0, none⟩), .int .i64 x, .int .i64 y] w fun e w' => e = .returned (.tuple #[]) ∧ RDisk w' r B (s.stop x y) ∧ Chg (fun b => b = r) w w' := by
  obtain ⟨cap, atv, arr, hd, _⟩ := id hD
  have c1 : w.cell? ⟨r, 2, none⟩ = some (.bool s.stops) := by rw [hd.cell]; rfl
  have c2 : w.cell? ⟨r, 3, none⟩ = some (.int .i64 atv) := by rw [hd.cell]; rfl
  have c3 : w.cell? ⟨r, 4, none⟩ = some (.int .i64 s.keep) := by rw [hd.cell]; rfl
  have f1 := hd.free 2
  have f2 := hd.free 3
  have f3 := hd.free 4
  go_enter Tryd.func10, Tryd.ntmps10
  go_wp2
  all_goals
    go_end0
    exact ⟨rfl, hD.stopped hx (by omega) (by omega), (((Chg.refl (fun b => b = r) _).set rfl _).set rfl _).set rfl _⟩
set_option maxRecDepth 100000 in
set_option maxHeartbeats 1000000 in
theorem rnew_calls (n : Nat) (w : World) (h1 : 1 ≤ n) (h2 : n ≤ 4096) :
    Calls Tryd.prog 5 #[.int .i64 n] w fun e w' => ∃ r B, e = .returned (.tuple #[.pointer (some ⟨r, 0, none⟩), .bool true]) ∧ RDisk w' r B (.fresh n) ∧ w.heap.size ≤ r ∧ w.heap.size ≤ B ∧ Below w.heap.size w w' := by
  have hmk : ∀ w, (Instr.makeSlice 31 (.int .i64 ((n : Int) * 32)) (.int .i64 ((n : Int) * 32))).run Tryd.prog w = .ok (.slice (some ⟨w.heap.size, 0, none⟩) (n * 32) (n * 32)) (w.alloc (.cells (rowArr (n * 32) fun _ => 0) 5)) := fun w => by
    have := make_bytes (P := Tryd.prog) 31 5 Tryd.underlying31 E8k (n * 32) (by omega) w
    rw [rowArr_zero] at this
    simpa using this
  have t1 : decide ((n : Int) < 1) = false := by simp; omega
  have t2 : decide ((4096 : Int) < (n : Int)) = false := by simp; omega
  go_enter Tryd.func5, Tryd.ntmps5
  go_wp2
  go_ret2
  have hL : Blk (w.alloc (.cells (rowArr (n * 32) fun _ => 0) 5)) w.heap.size (rowArr (n * 32) fun _ => 0) 5 := Blk.new _ _ _
  exact ⟨_, _, rfl, ⟨n * 32, 0, rowArr (n * 32) fun _ => 0, Blk.new_at _ _ _ _ (by simp), Nat.le_refl _, by omega, hL.alloc _, by rw [rowArr_size]; exact Nat.le_refl _, fun j hj => rowArr_get _ _ _ hj, h1, h2, Nat.zero_le _, by omega, (fun h => by cases h), by show -((0 : Nat) : Int) ≤ 0; decide, by decide, Nat.zero_le _⟩, by omega, Nat.le_refl _,
    ((Below.refl _ _).alloc (Nat.le_refl _) _).alloc (by simp) _⟩
set_option maxRecDepth 100000 in
set_option maxHeartbeats 1000000 in
theorem rread_bad (r B : Nat) (s : DiskS) (i : Int) (w : World) (h : RDisk w r B s) (hi : i < 0 ∨ (s.n : Int) ≤ i) :
    Calls Tryd.prog 27 #[.pointer (some ⟨r, 0, none⟩), .int .i64 i] w fun e w' => e = .returned (.tuple #[.slice none 0 0, .int .i64 1]) ∧ w = w' := by
  by_cases h0 : i < 0
  · go_enter Tryd.func27, Tryd.ntmps27
    go_wp2
    go_ret2
    exact ⟨rfl, rfl⟩
  · go_enter Tryd.func27, Tryd.ntmps27
    go_wp2_with (go_at_call 15; refine (rlen_calls r B s _ h).mono ?_; rintro e w1 ⟨rfl, rfl⟩)
    go_ret2
    exact ⟨rfl, rfl⟩
set_option maxRecDepth 100000 in
set_option maxHeartbeats 1000000 in
theorem rread_dead (r B : Nat) (s : DiskS) (i : Nat) (w : World) (h : RDisk w r B s) (hi : i < s.n) (hdead : s.dead = true) :
    Calls Tryd.prog 27 #[.pointer (some ⟨r, 0, none⟩), .int .i64 i] w fun e w' => e = .returned (.tuple #[.slice none 0 0, .int .i64 8]) ∧ w = w' := by
  obtain ⟨cap, atv, arr, hd, _⟩ := id h
  have c1 : w.cell? ⟨r, 1, none⟩ = some (.bool true) := by rw [hd.cell, hdead]; rfl
  clear hdead
  go_enter Tryd.func27, Tryd.ntmps27
  go_wp2_with (go_at_call 15; refine (rlen_calls r B s _ h).mono ?_; rintro e w1 ⟨rfl, rfl⟩)
  go_ret2
  exact ⟨rfl, rfl⟩
set_option maxRecDepth 100000 in
set_option maxHeartbeats 1000000 in
theorem rread_calls (r B : Nat) (s : DiskS) (i : Nat) (w : World) (h : RDisk w r B s) (hi : i < s.n) (hdead : s.dead = false) :
    Calls Tryd.prog 27 #[.pointer (some ⟨r, 0, none⟩), .int .i64 i] w fun e w' => ∃ v, e = .returned (.tuple #[v, .int .i64 0]) ∧ OwnF 5 w' w.heap.size v (s.sector i) ∧ Below w.heap.size w w' := by
  obtain ⟨cap, atv, arr, hd, hc1, hc2, _, _, _, hn1, hn2, _⟩ := id h
  have c0 : w.cell? ⟨r, 0, none⟩ = some (.slice (some ⟨B, 0, none⟩) (s.n * 32) cap) := by rw [hd.cell]; rfl
  have c1 : w.cell? ⟨r, 1, none⟩ = some (.bool false) := by rw [hd.cell, hdead]; rfl
  have hsec : Bys w (.slice (some ⟨B, i * 32, none⟩) ((i + 1) * 32 - i * 32) (cap - i * 32)) (s.sector i) := by
    rw [show (i + 1) * 32 - i * 32 = 32 from by omega]
    exact h.sector i hi (cap - i * 32) (by omega) (maxLen_ge (by omega))
  have i1 : (0 : Int) ≤ (i : Int) * 32 := by omega
  have i2 : (i : Int) * 32 ≤ ((i : Int) + 1) * 32 := by omega
  have i3 : ((i : Int) + 1) * 32 ≤ (cap : Int) := by omega
  clear hdead
  go_enter Tryd.func27, Tryd.ntmps27
  go_wp2_with fail
  refine (rlen_calls r B s _ h).mono ?_
  rintro e w1 ⟨rfl, rfl⟩
  go_wp2_with (at_builtin; refine appF E8 rfl _ _ rfl (base := w.heap.size) (bs := []) (news := s.sector i) rfl rfl (OwnF.nil _ _ _) hsec ?q1 ?q2 ?_)
  case q1 => simp [DiskS.sector, rowL_len]
  case q2 => exact Nat.le_refl _
  intro v' w' hown hg
  go_wp2
  go_ret2
  exact ⟨_, rfl, hown, grown_none hg rfl⟩
theorem RDisk.die {r B : Nat} {s : DiskS} {w : World} (h : RDisk w r B s) : RDisk (w.setCell ⟨r, 1, none⟩ (.bool true)) r B { s with dead := true } := by
  obtain ⟨cap, atv, arr, hd, a, b, hL, r1, r2, r3, r4, r5, hne, r6⟩ := h
  exact ⟨cap, atv, arr, hd.set 1 (.bool true), a, b, hL.set_other hne _, r1, r2, r3, r4, r5, hne, r6⟩
theorem lay_succ (s : DiskS) (i : Nat) (bs : List UInt8) (m : Nat) : s.lay i bs (m + 1) = fun j => if j = i * 32 + m then bs.getD m 0 else s.lay i bs m j := by
  funext j
  unfold DiskS.lay
  by_cases e : j = i * 32 + m
  · subst e; rw [if_pos (by omega), if_pos rfl, show i * 32 + m - i * 32 = m from by omega]
  · rw [if_neg e]
    by_cases e2 : i * 32 ≤ j ∧ j < i * 32 + m
    · rw [if_pos e2, if_pos (by omega)]
    · rw [if_neg e2, if_neg (by omega)]
theorem lay_zero (s : DiskS) (i : Nat) (bs : List UInt8) : s.lay i bs 0 = s.f := by
  funext j; unfold DiskS.lay; rw [if_neg (by omega)]
set_option maxRecDepth 100000 in
set_option maxHeartbeats 1000000 in
theorem rwrite_bad (r B : Nat) (s : DiskS) (i : Int) (v : Value) (bs : List UInt8) (w : World) (h : RDisk w r B s) (hb : Bys w v bs) (hi : (i < 0 ∨ (s.n : Int) ≤ i) ∨ 32 < bs.length) :
    Calls Tryd.prog 8 #[.pointer (some ⟨r, 0, none⟩), .int .i64 i, v] w fun e w' => e = .returned (.int .i64 1) ∧ w = w' := by
  obtain ⟨a, c, rfl⟩ := hb.eq_slice
  obtain ⟨l, hl⟩ : ∃ l, l = bs.length := ⟨_, rfl⟩
  rw [← hl] at hi ⊢
  clear hl
  by_cases h0 : i < 0
  · go_enter Tryd.func8, Tryd.ntmps8
    go_wp2
    go_ret
    exact ⟨rfl, rfl⟩
  · by_cases hm : (s.n : Int) ≤ i
    · clear hi
      go_enter Tryd.func8, Tryd.ntmps8
      go_wp2_with fail
      refine (rlen_calls r B s _ h).mono ?_
      rintro e w1 ⟨rfl, rfl⟩
      go_wp2
      go_ret
      exact ⟨rfl, rfl⟩
    · have hl : 32 < l := by omega
      clear hi
      go_enter Tryd.func8, Tryd.ntmps8
      go_wp2_with fail
      refine (rlen_calls r B s _ h).mono ?_
      rintro e w1 ⟨rfl, rfl⟩
      go_wp2
      go_ret
      exact ⟨rfl, rfl⟩
set_option maxRecDepth 100000 in
set_option maxHeartbeats 1000000 in
theorem rwrite_dead (r B : Nat) (s : DiskS) (i : Nat) (v : Value) (bs : List UInt8) (w : World) (h : RDisk w r B s) (hb : Bys w v bs) (hi : i < s.n) (hl : bs.length ≤ 32) (hdead : s.dead = true) :
    Calls Tryd.prog 8 #[.pointer (some ⟨r, 0, none⟩), .int .i64 i, v] w fun e w' => e = .returned (.int .i64 8) ∧ w = w' := by
  obtain ⟨a, c, rfl⟩ := hb.eq_slice
  obtain ⟨l, hl'⟩ : ∃ l, l = bs.length := ⟨_, rfl⟩
  rw [← hl'] at hl ⊢
  clear hl'
  obtain ⟨cap, atv, arr, hd, _⟩ := id h
  have c1 : w.cell? ⟨r, 1, none⟩ = some (.bool true) := by rw [hd.cell, hdead]; rfl
  clear hdead
  go_enter Tryd.func8, Tryd.ntmps8
  go_wp2_with fail
  refine (rlen_calls r B s _ h).mono ?_
  rintro e w1 ⟨rfl, rfl⟩
  go_wp2
  go_ret
  exact ⟨rfl, rfl⟩
theorem RDisk.more {r B : Nat} {s : DiskS} {w : World} {cap : Nat} {atv : Int} (hd : Blk w r #[.slice (some ⟨B, 0, none⟩) (s.n * 32) cap, .bool s.dead, .bool s.stops, .int .i64 atv, .int .i64 s.keep, .int .i64 s.writes] 46) (h : RDisk w r B s) (hw : s.writes < 4611686018427387904) (hc : s.stops = true → 0 < s.cnt) :
    RDisk ((w.setCell ⟨r, 3, none⟩ (.int .i64 (atv - 1))).setCell ⟨r, 5, none⟩ (.int .i64 ((s.writes : Int) + 1))) r B { s with cnt := if s.stops then s.cnt - 1 else s.cnt, writes := s.writes + 1 } := by
  obtain ⟨cap', atv', arr', hd', a, b, hL, r1, r2, r3, r4, r5, hne, r6, r7, r8, r9⟩ := h
  have e := hd.symm.trans hd'
  injection e with e
  injection e with e1 e2
  simp at e1
  obtain ⟨rfl, rfl⟩ := e1
  refine ⟨cap, atv - 1, arr', ?_, a, b, (hL.set_other hne _).set_other hne _, r1, r2, r3, r4, r5, hne, fun hs => ?_, by show -((s.writes + 1 : Nat) : Int) ≤ _; omega, by omega, by show s.writes + 1 ≤ _; omega⟩
  · have := (hd.set 3 (.int .i64 (atv - 1))).set 5 (.int .i64 ((s.writes : Int) + 1))
    simpa using this
  · have hs : s.stops = true := hs
    have := r6 hs
    have := hc hs
    show atv - 1 = ((if s.stops = true then s.cnt - 1 else s.cnt : Nat) : Int)
    rw [if_pos hs]; omega
set_option maxRecDepth 20000 in
set_option maxHeartbeats 4000000 in
theorem rwrite_calls (r B : Nat) (s : DiskS) (i : Nat) (v : Value) (bs : List UInt8) (w : World) (h : RDisk w r B s) (hb : Bys w v bs) (hkeep : ∀ w', Chg (fun b => b = B) w w' → Bys w' v bs) (hi : i < s.n) (hl : bs.length ≤ 32) (hdead : s.dead = false) (hw : s.writes < 4611686018427387904) :
    Calls Tryd.prog 8 #[.pointer (some ⟨r, 0, none⟩), .int .i64 i, v] w fun e w' => e = .returned (.int .i64 (if s.stops = true ∧ s.cnt = 0 then 8 else 0)) ∧ RDisk w' r B (s.write i bs) ∧ Chg (fun b => b = r ∨ b = B) w w' := by
  obtain ⟨a, c, rfl⟩ := hb.eq_slice
  obtain ⟨cap, atv, arr, hd, hc1, hc2, hB, _, _, hn1, hn2, hk, hne, hat, hlo, hhi, _⟩ := id h
  obtain ⟨l, hl'⟩ : ∃ l, l = bs.length := ⟨_, rfl⟩
  rw [← hl'] at hl hb hkeep ⊢
  have Hl := Lib.hid hl'; have Hkeep := Lib.hid hkeep; have Hat := Lib.hid hat
  clear hl' hkeep hat
  have c1 : w.cell? ⟨r, 1, none⟩ = some (.bool false) := by rw [hd.cell, hdead]; rfl
  have c2 : w.cell? ⟨r, 2, none⟩ = some (.bool s.stops) := by rw [hd.cell]; rfl
  have c3 : w.cell? ⟨r, 3, none⟩ = some (.int .i64 atv) := by rw [hd.cell]; rfl
  have c4 : w.cell? ⟨r, 4, none⟩ = some (.int .i64 (s.keep : Int)) := by rw [hd.cell]; rfl
  have Hdead := Lib.hid hdead
  clear hdead
  have hcase : (s.stops = true ∧ s.cnt = 0 ∧ atv = 0) ∨ (s.stops = true ∧ 0 < s.cnt ∧ (atv == 0) = false) ∨ s.stops = false := by
    by_cases h1 : s.stops = true
    · have := Hat.out h1
      by_cases h2 : s.cnt = 0
      · exact .inl ⟨h1, h2, by omega⟩
      · exact .inr (.inl ⟨h1, by omega, by simp; omega⟩)
    · exact .inr (.inr (by simpa using h1))
  rcases hcase with ⟨hs, hcn, rfl⟩ | ⟨hs, hcn, hz⟩ | hs
  · rw [hs] at c2
    have Hr := Lib.hid (show s.write i bs = { s with f := s.lay i bs s.keep, dead := true } from by unfold DiskS.write; rw [if_pos ⟨hs, hcn⟩])
    rw [if_pos ⟨hs, hcn⟩]
    have Hs := Lib.hid hs
    obtain ⟨m, hm⟩ : ∃ m, m = s.keep := ⟨_, rfl⟩
    rw [← hm] at c4 hk
    have Hm := Lib.hid hm
    clear hs hcn hm
    go_enter Tryd.func8, Tryd.ntmps8
    go_wp2_with fail
    refine (rlen_calls r B s _ h).mono ?_
    rintro e w1 ⟨rfl, rfl⟩
    go_wp2_with fail
    go_loopw [8] (fun v wr => ∃ k : Nat, k ≤ m ∧ v = .int .i64 k ∧ RDisk wr r B { s with f := s.lay i bs k } ∧ Chg (fun b => b = B) w wr) (fun v _ => m - (intOf v).toNat)
    case atStart => exact ⟨0, by omega, rfl, by rw [lay_zero]; exact h, Chg.refl _ _⟩
    case round =>
      obtain ⟨k, hk', rfl, hR, hch⟩ := hrel
      have hdr := hch.blk hd (fun e => hne e)
      have d0 : wr.cell? ⟨r, 0, none⟩ = some (.slice (some ⟨B, 0, none⟩) (s.n * 32) cap) := by rw [hdr.cell]; rfl
      by_cases h0 : k < m
      · have hx : i * 32 + k < s.n * 32 := by omega
        obtain ⟨cap2, atv2, arr2, _, _, _, hB2, _, hf2, _⟩ := id hR
        have c5 : wr.cell? ⟨B, i * 32 + k, none⟩ = some (.int .u8 ((s.lay i bs k (i * 32 + k)).toNat : Int)) := by rw [hB2.cell]; exact hf2 _ hx
        have f5 := hB2.free (i * 32 + k)
        have hR1 := hR.set (i * 32 + k) 0
        have i1 : (0 : Int) ≤ (i : Int) * 32 + (k : Int) := by omega
        have i2 : (i : Int) * 32 + (k : Int) < (s.n : Int) * 32 := by omega
        obtain ⟨ws, hws⟩ : ∃ ws, ws = wr.setCell ⟨B, i * 32 + k, none⟩ (.int .u8 0) := ⟨_, rfl⟩
        have hchs : Chg (fun b => b = B) w ws := by rw [hws]; exact hch.set rfl _
        have hR1 : RDisk ws r B { s with f := fun j => if j = i * 32 + k then 0 else s.lay i bs k j } := by rw [hws]; exact hR1
        have hdr2 := hchs.blk hd (fun e => hne e)
        by_cases hkl : k < l
        · obtain ⟨bx, ox, u, rfl, hu, c6, _⟩ := (Hkeep.out ws hchs).at k (by have := Hl.out; omega)
          have d0' : ws.cell? ⟨r, 0, none⟩ = some (.slice (some ⟨B, 0, none⟩) (s.n * 32) cap) := by rw [hdr2.cell]; rfl
          obtain ⟨cap3, atv3, arr3, _, _, _, hB3, _, hf3, _⟩ := id hR1
          have c5' : ws.cell? ⟨B, i * 32 + k, none⟩ = some (.int .u8 0) := by rw [hB3.cell, hf3 _ hx]; simp
          have f5' := hB3.free (i * 32 + k)
          have i3 : (0 : Int) ≤ (k : Int) := by omega
          have i4 : (k : Int) < (l : Int) := by omega
          have Hfin := Lib.hid (show RDisk (ws.setCell ⟨B, i * 32 + k, none⟩ (.int .u8 (u.toNat : Int))) r B { s with f := s.lay i bs (k + 1) } from by
            have h3 := hR1.set (i * 32 + k) u
            have e : s.lay i bs (k + 1) = fun j => if j = i * 32 + k then u else (if j = i * 32 + k then 0 else s.lay i bs k j) := by
              rw [lay_succ]; funext j
              by_cases e : j = i * 32 + k
              · rw [if_pos e, if_pos e, List.getD_eq_getElem?_getD, hu.out]; rfl
              · rw [if_neg e, if_neg e, if_neg e]
            rw [e]; exact h3)
          have hset := Chg.drew (hchs.set (a := ⟨B, i * 32 + k, none⟩) rfl (.int .u8 (u.toNat : Int)))
          have e1 : (ws.setCell ⟨B, i * 32 + k, none⟩ (.int .u8 (u.toNat : Int))).drew.cell? ⟨r, 0, none⟩ = some (.slice (some ⟨B, 0, none⟩) (s.n * 32) cap) := by rw [(hset.blk hd (fun e => hne e)).cell]; rfl
          have e2 : (ws.setCell ⟨B, i * 32 + k, none⟩ (.int .u8 (u.toNat : Int))).drew.cell? ⟨bx, ox + k, none⟩ = some (.int .u8 (u.toNat : Int)) := by
            obtain ⟨b', o', u', e, hu', c', _⟩ := (Hkeep.out _ hset).at k (by have := Hl.out; omega)
            cases e
            have := hu.out.symm.trans hu'.out
            cases this
            exact c'
          have Hset := Lib.hid hset
          have Hws := Lib.hid hws
          have E12 := Lib.hid (And.intro e1 e2)
          clear hws hB2 hf2 hB3 hf3 hR1 hR hB hset e1 e2
          go_upto_region 13 with fail
          rw [← Hws.out]
          clear c5 f5 d0
          have q1 : IntKind.i64.wrap ((i : Int) * 32) = (i : Int) * 32 := IntWalk.i64_in _ (by omega)
          have q2 : IntKind.i64.wrap ((i : Int) * 32 + (k : Int)) = (i : Int) * 32 + (k : Int) := IntWalk.i64_in _ (by omega)
          have q3 : ((i : Int) * 32 + (k : Int)).toNat = i * 32 + k := by omega
          go_region_held3 (fun w' => w'.cell? ⟨r, 0, none⟩ = some (.slice (some ⟨B, 0, none⟩) (s.n * 32) cap) ∧ w'.cell? ⟨bx, ox + k, none⟩ = some (.int .u8 (u.toNat : Int))) (first | exact ⟨d0', c6⟩ | exact E12.out) (fail)
          clear q1 q2 q3
          go_wp2
          exact ⟨⟨k + 1, by omega, by go_num, Hfin.out, Hset.out⟩, by simp [intOf]; omega⟩
        · have Hfin := Lib.hid (show RDisk ws r B { s with f := s.lay i bs (k + 1) } from by
            have e : s.lay i bs (k + 1) = fun j => if j = i * 32 + k then 0 else s.lay i bs k j := by
              rw [lay_succ]; funext j
              by_cases e : j = i * 32 + k
              · rw [if_pos e, if_pos e, List.getD_eq_getElem?_getD, List.getElem?_eq_none (by have := Hl.out; omega)]; rfl
              · rw [if_neg e, if_neg e]
            rw [e]; exact hR1)
          have Hws := Lib.hid hws
          clear hws hB2 hf2 hR1 hR hB
          go_wp2
          exact ⟨⟨k + 1, by omega, by go_num, by rw [← Hws.out]; exact Hfin.out, by rw [← Hws.out]; exact hchs⟩, by simp [intOf]; omega⟩
      · obtain rfl : m = k := by omega
        have d1 : wr.cell? ⟨r, 1, none⟩ = some (.bool false) := by rw [hdr.cell, Hdead.out]; rfl
        have d2 : wr.cell? ⟨r, 2, none⟩ = some (.bool true) := by rw [hdr.cell, Hs.out]; rfl
        have d3 : wr.cell? ⟨r, 3, none⟩ = some (.int .i64 0) := by rw [hdr.cell]; rfl
        have f1 := hdr.free 1
        go_wp2
        go_ret
        exact ⟨rfl, by rw [Hr.out, show s.lay i bs s.keep = s.lay i bs m from by rw [Hm.out]]; exact hR.die, (hch.mono fun _ h => .inr h).set (.inl rfl) _⟩
  · rw [hs] at c2
    have Hr := Lib.hid (show s.write i bs = { s with f := s.lay i bs 32, cnt := if s.stops then s.cnt - 1 else s.cnt, writes := s.writes + 1 } from by unfold DiskS.write; rw [if_neg (by omega)])
    rw [if_neg (by omega)]
    have Hs := Lib.hid hs; have Hcn := Lib.hid hcn
    clear hs hcn
    go_enter Tryd.func8, Tryd.ntmps8
    go_wp2_with fail
    refine (rlen_calls r B s _ h).mono ?_
    rintro e w1 ⟨rfl, rfl⟩
    go_wp2_with fail
    go_loopw [8] (fun v wr => ∃ k : Nat, k ≤ 32 ∧ v = .int .i64 k ∧ RDisk wr r B { s with f := s.lay i bs k } ∧ Chg (fun b => b = B) w wr) (fun v _ => 32 - (intOf v).toNat)
    case atStart => exact ⟨0, by omega, rfl, by rw [lay_zero]; exact h, Chg.refl _ _⟩
    case round =>
      obtain ⟨k, hk', rfl, hR, hch⟩ := hrel
      have hdr := hch.blk hd (fun e => hne e)
      have d0 : wr.cell? ⟨r, 0, none⟩ = some (.slice (some ⟨B, 0, none⟩) (s.n * 32) cap) := by rw [hdr.cell]; rfl
      by_cases h0 : k < 32
      · have hx : i * 32 + k < s.n * 32 := by omega
        obtain ⟨cap2, atv2, arr2, _, _, _, hB2, _, hf2, _⟩ := id hR
        have c5 : wr.cell? ⟨B, i * 32 + k, none⟩ = some (.int .u8 ((s.lay i bs k (i * 32 + k)).toNat : Int)) := by rw [hB2.cell]; exact hf2 _ hx
        have f5 := hB2.free (i * 32 + k)
        have hR1 := hR.set (i * 32 + k) 0
        have i1 : (0 : Int) ≤ (i : Int) * 32 + (k : Int) := by omega
        have i2 : (i : Int) * 32 + (k : Int) < (s.n : Int) * 32 := by omega
        obtain ⟨ws, hws⟩ : ∃ ws, ws = wr.setCell ⟨B, i * 32 + k, none⟩ (.int .u8 0) := ⟨_, rfl⟩
        have hchs : Chg (fun b => b = B) w ws := by rw [hws]; exact hch.set rfl _
        have hR1 : RDisk ws r B { s with f := fun j => if j = i * 32 + k then 0 else s.lay i bs k j } := by rw [hws]; exact hR1
        have hdr2 := hchs.blk hd (fun e => hne e)
        by_cases hkl : k < l
        · obtain ⟨bx, ox, u, rfl, hu, c6, _⟩ := (Hkeep.out ws hchs).at k (by have := Hl.out; omega)
          have d0' : ws.cell? ⟨r, 0, none⟩ = some (.slice (some ⟨B, 0, none⟩) (s.n * 32) cap) := by rw [hdr2.cell]; rfl
          obtain ⟨cap3, atv3, arr3, _, _, _, hB3, _, hf3, _⟩ := id hR1
          have c5' : ws.cell? ⟨B, i * 32 + k, none⟩ = some (.int .u8 0) := by rw [hB3.cell, hf3 _ hx]; simp
          have f5' := hB3.free (i * 32 + k)
          have i3 : (0 : Int) ≤ (k : Int) := by omega
          have i4 : (k : Int) < (l : Int) := by omega
          have Hfin := Lib.hid (show RDisk (ws.setCell ⟨B, i * 32 + k, none⟩ (.int .u8 (u.toNat : Int))) r B { s with f := s.lay i bs (k + 1) } from by
            have h3 := hR1.set (i * 32 + k) u
            have e : s.lay i bs (k + 1) = fun j => if j = i * 32 + k then u else (if j = i * 32 + k then 0 else s.lay i bs k j) := by
              rw [lay_succ]; funext j
              by_cases e : j = i * 32 + k
              · rw [if_pos e, if_pos e, List.getD_eq_getElem?_getD, hu.out]; rfl
              · rw [if_neg e, if_neg e, if_neg e]
            rw [e]; exact h3)
          have hset := Chg.drew (hchs.set (a := ⟨B, i * 32 + k, none⟩) rfl (.int .u8 (u.toNat : Int)))
          have e1 : (ws.setCell ⟨B, i * 32 + k, none⟩ (.int .u8 (u.toNat : Int))).drew.cell? ⟨r, 0, none⟩ = some (.slice (some ⟨B, 0, none⟩) (s.n * 32) cap) := by rw [(hset.blk hd (fun e => hne e)).cell]; rfl
          have e2 : (ws.setCell ⟨B, i * 32 + k, none⟩ (.int .u8 (u.toNat : Int))).drew.cell? ⟨bx, ox + k, none⟩ = some (.int .u8 (u.toNat : Int)) := by
            obtain ⟨b', o', u', e, hu', c', _⟩ := (Hkeep.out _ hset).at k (by have := Hl.out; omega)
            cases e
            have := hu.out.symm.trans hu'.out
            cases this
            exact c'
          have Hset := Lib.hid hset
          have Hws := Lib.hid hws
          have E12 := Lib.hid (And.intro e1 e2)
          clear hws hB2 hf2 hB3 hf3 hR1 hR hB hset e1 e2
          go_upto_region 13 with fail
          rw [← Hws.out]
          clear c5 f5 d0
          have q1 : IntKind.i64.wrap ((i : Int) * 32) = (i : Int) * 32 := IntWalk.i64_in _ (by omega)
          have q2 : IntKind.i64.wrap ((i : Int) * 32 + (k : Int)) = (i : Int) * 32 + (k : Int) := IntWalk.i64_in _ (by omega)
          have q3 : ((i : Int) * 32 + (k : Int)).toNat = i * 32 + k := by omega
          go_region_held3 (fun w' => w'.cell? ⟨r, 0, none⟩ = some (.slice (some ⟨B, 0, none⟩) (s.n * 32) cap) ∧ w'.cell? ⟨bx, ox + k, none⟩ = some (.int .u8 (u.toNat : Int))) (first | exact ⟨d0', c6⟩ | exact E12.out) (fail)
          clear q1 q2 q3
          go_wp2
          exact ⟨⟨k + 1, by omega, by go_num, Hfin.out, Hset.out⟩, by simp [intOf]; omega⟩
        · have Hfin := Lib.hid (show RDisk ws r B { s with f := s.lay i bs (k + 1) } from by
            have e : s.lay i bs (k + 1) = fun j => if j = i * 32 + k then 0 else s.lay i bs k j := by
              rw [lay_succ]; funext j
              by_cases e : j = i * 32 + k
              · rw [if_pos e, if_pos e, List.getD_eq_getElem?_getD, List.getElem?_eq_none (by have := Hl.out; omega)]; rfl
              · rw [if_neg e, if_neg e]
            rw [e]; exact hR1)
          have Hws := Lib.hid hws
          clear hws hB2 hf2 hR1 hR hB
          go_wp2
          exact ⟨⟨k + 1, by omega, by go_num, by rw [← Hws.out]; exact Hfin.out, by rw [← Hws.out]; exact hchs⟩, by simp [intOf]; omega⟩
      · obtain rfl : k = 32 := by omega
        have d1 : wr.cell? ⟨r, 1, none⟩ = some (.bool false) := by rw [hdr.cell, Hdead.out]; rfl
        have d2 : wr.cell? ⟨r, 2, none⟩ = some (.bool true) := by rw [hdr.cell, Hs.out]; rfl
        have d3 : wr.cell? ⟨r, 3, none⟩ = some (.int .i64 atv) := by rw [hdr.cell]; rfl
        have d5 : wr.cell? ⟨r, 5, none⟩ = some (.int .i64 (s.writes : Int)) := by rw [hdr.cell]; rfl
        have f3 := hdr.free 3
        have f5 := hdr.free 5
        go_wp2
        go_ret
        exact ⟨rfl, by rw [Hr.out]; exact RDisk.more (s := { s with f := s.lay i bs 32 }) hdr hR hw (fun _ => Hcn.out), ((hch.mono fun _ h => .inr h).set (.inl rfl) _).set (.inl rfl) _⟩
  · rw [hs] at c2
    have Hr := Lib.hid (show s.write i bs = { s with f := s.lay i bs 32, cnt := if s.stops then s.cnt - 1 else s.cnt, writes := s.writes + 1 } from by unfold DiskS.write; rw [if_neg (by rw [hs]; simp)])
    rw [if_neg (by rw [hs]; simp)]
    have Hs := Lib.hid hs
    clear hs
    go_enter Tryd.func8, Tryd.ntmps8
    go_wp2_with fail
    refine (rlen_calls r B s _ h).mono ?_
    rintro e w1 ⟨rfl, rfl⟩
    go_wp2_with fail
    go_loopw [8] (fun v wr => ∃ k : Nat, k ≤ 32 ∧ v = .int .i64 k ∧ RDisk wr r B { s with f := s.lay i bs k } ∧ Chg (fun b => b = B) w wr) (fun v _ => 32 - (intOf v).toNat)
    case atStart => exact ⟨0, by omega, rfl, by rw [lay_zero]; exact h, Chg.refl _ _⟩
    case round =>
      obtain ⟨k, hk', rfl, hR, hch⟩ := hrel
      have hdr := hch.blk hd (fun e => hne e)
      have d0 : wr.cell? ⟨r, 0, none⟩ = some (.slice (some ⟨B, 0, none⟩) (s.n * 32) cap) := by rw [hdr.cell]; rfl
      by_cases h0 : k < 32
      · have hx : i * 32 + k < s.n * 32 := by omega
        obtain ⟨cap2, atv2, arr2, _, _, _, hB2, _, hf2, _⟩ := id hR
        have c5 : wr.cell? ⟨B, i * 32 + k, none⟩ = some (.int .u8 ((s.lay i bs k (i * 32 + k)).toNat : Int)) := by rw [hB2.cell]; exact hf2 _ hx
        have f5 := hB2.free (i * 32 + k)
        have hR1 := hR.set (i * 32 + k) 0
        have i1 : (0 : Int) ≤ (i : Int) * 32 + (k : Int) := by omega
        have i2 : (i : Int) * 32 + (k : Int) < (s.n : Int) * 32 := by omega
        obtain ⟨ws, hws⟩ : ∃ ws, ws = wr.setCell ⟨B, i * 32 + k, none⟩ (.int .u8 0) := ⟨_, rfl⟩
        have hchs : Chg (fun b => b = B) w ws := by rw [hws]; exact hch.set rfl _
        have hR1 : RDisk ws r B { s with f := fun j => if j = i * 32 + k then 0 else s.lay i bs k j } := by rw [hws]; exact hR1
        have hdr2 := hchs.blk hd (fun e => hne e)
        by_cases hkl : k < l
        · obtain ⟨bx, ox, u, rfl, hu, c6, _⟩ := (Hkeep.out ws hchs).at k (by have := Hl.out; omega)
          have d0' : ws.cell? ⟨r, 0, none⟩ = some (.slice (some ⟨B, 0, none⟩) (s.n * 32) cap) := by rw [hdr2.cell]; rfl
          obtain ⟨cap3, atv3, arr3, _, _, _, hB3, _, hf3, _⟩ := id hR1
          have c5' : ws.cell? ⟨B, i * 32 + k, none⟩ = some (.int .u8 0) := by rw [hB3.cell, hf3 _ hx]; simp
          have f5' := hB3.free (i * 32 + k)
          have i3 : (0 : Int) ≤ (k : Int) := by omega
          have i4 : (k : Int) < (l : Int) := by omega
          have Hfin := Lib.hid (show RDisk (ws.setCell ⟨B, i * 32 + k, none⟩ (.int .u8 (u.toNat : Int))) r B { s with f := s.lay i bs (k + 1) } from by
            have h3 := hR1.set (i * 32 + k) u
            have e : s.lay i bs (k + 1) = fun j => if j = i * 32 + k then u else (if j = i * 32 + k then 0 else s.lay i bs k j) := by
              rw [lay_succ]; funext j
              by_cases e : j = i * 32 + k
              · rw [if_pos e, if_pos e, List.getD_eq_getElem?_getD, hu.out]; rfl
              · rw [if_neg e, if_neg e, if_neg e]
            rw [e]; exact h3)
          have hset := Chg.drew (hchs.set (a := ⟨B, i * 32 + k, none⟩) rfl (.int .u8 (u.toNat : Int)))
          have e1 : (ws.setCell ⟨B, i * 32 + k, none⟩ (.int .u8 (u.toNat : Int))).drew.cell? ⟨r, 0, none⟩ = some (.slice (some ⟨B, 0, none⟩) (s.n * 32) cap) := by rw [(hset.blk hd (fun e => hne e)).cell]; rfl
          have e2 : (ws.setCell ⟨B, i * 32 + k, none⟩ (.int .u8 (u.toNat : Int))).drew.cell? ⟨bx, ox + k, none⟩ = some (.int .u8 (u.toNat : Int)) := by
            obtain ⟨b', o', u', e, hu', c', _⟩ := (Hkeep.out _ hset).at k (by have := Hl.out; omega)
            cases e
            have := hu.out.symm.trans hu'.out
            cases this
            exact c'
          have Hset := Lib.hid hset
          have Hws := Lib.hid hws
          have E12 := Lib.hid (And.intro e1 e2)
          clear hws hB2 hf2 hB3 hf3 hR1 hR hB hset e1 e2
          go_upto_region 13 with fail
          rw [← Hws.out]
          clear c5 f5 d0
          have q1 : IntKind.i64.wrap ((i : Int) * 32) = (i : Int) * 32 := IntWalk.i64_in _ (by omega)
          have q2 : IntKind.i64.wrap ((i : Int) * 32 + (k : Int)) = (i : Int) * 32 + (k : Int) := IntWalk.i64_in _ (by omega)
          have q3 : ((i : Int) * 32 + (k : Int)).toNat = i * 32 + k := by omega
          go_region_held3 (fun w' => w'.cell? ⟨r, 0, none⟩ = some (.slice (some ⟨B, 0, none⟩) (s.n * 32) cap) ∧ w'.cell? ⟨bx, ox + k, none⟩ = some (.int .u8 (u.toNat : Int))) (first | exact ⟨d0', c6⟩ | exact E12.out) (fail)
          clear q1 q2 q3
          go_wp2
          exact ⟨⟨k + 1, by omega, by go_num, Hfin.out, Hset.out⟩, by simp [intOf]; omega⟩
        · have Hfin := Lib.hid (show RDisk ws r B { s with f := s.lay i bs (k + 1) } from by
            have e : s.lay i bs (k + 1) = fun j => if j = i * 32 + k then 0 else s.lay i bs k j := by
              rw [lay_succ]; funext j
              by_cases e : j = i * 32 + k
              · rw [if_pos e, if_pos e, List.getD_eq_getElem?_getD, List.getElem?_eq_none (by have := Hl.out; omega)]; rfl
              · rw [if_neg e, if_neg e]
            rw [e]; exact hR1)
          have Hws := Lib.hid hws
          clear hws hB2 hf2 hR1 hR hB
          go_wp2
          exact ⟨⟨k + 1, by omega, by go_num, by rw [← Hws.out]; exact Hfin.out, by rw [← Hws.out]; exact hchs⟩, by simp [intOf]; omega⟩
      · obtain rfl : k = 32 := by omega
        have d1 : wr.cell? ⟨r, 1, none⟩ = some (.bool false) := by rw [hdr.cell, Hdead.out]; rfl
        have d2 : wr.cell? ⟨r, 2, none⟩ = some (.bool false) := by rw [hdr.cell, Hs.out]; rfl
        have d3 : wr.cell? ⟨r, 3, none⟩ = some (.int .i64 atv) := by rw [hdr.cell]; rfl
        have d5 : wr.cell? ⟨r, 5, none⟩ = some (.int .i64 (s.writes : Int)) := by rw [hdr.cell]; rfl
        have f3 := hdr.free 3
        have f5 := hdr.free 5
        go_wp2
        go_ret
        exact ⟨rfl, by rw [Hr.out]; exact RDisk.more (s := { s with f := s.lay i bs 32 }) hdr hR hw (fun h => by rw [Hs.out] at h; cases h), ((hch.mono fun _ h => .inr h).set (.inl rfl) _).set (.inl rfl) _⟩
end Go.Proofs.YtehgnkdfnnebcaaDoor
end
section
namespace Cod
open Go.Lib
def be : Nat → Nat → List UInt8
  | 0, _ => []
  | w + 1, n => UInt8.ofNat (n / 256 ^ w) :: be w n
theorem be_len : ∀ w n, (be w n).length = w
  | 0, _ => rfl
  | w + 1, n => by rw [be, List.length_cons, be_len w n]
theorem be_get : ∀ (w n i : Nat), i < w → (be w n)[i]? = some (UInt8.ofNat (n / 256 ^ (w - 1 - i)))
  | w + 1, n, 0, _ => by rw [be]; simp
  | w + 1, n, i + 1, h => by
    rw [be, List.getElem?_cons_succ, be_get w n i (by omega), show w - 1 - i = w + 1 - 1 - (i + 1) from by omega]
def getGo (a : Nat) (bs : List UInt8) : Nat := bs.foldl (fun a c => a * 256 + c.toNat) a
def getN (bs : List UInt8) : Nat := getGo 0 bs
theorem getGo_cons (a : Nat) (c : UInt8) (r : List UInt8) : getGo a (c :: r) = getGo (a * 256 + c.toNat) r := rfl
theorem getGo_snoc (a : Nat) (c : UInt8) (r : List UInt8) : getGo a (r ++ [c]) = getGo a r * 256 + c.toNat := by simp [getGo]
theorem getGo_be : ∀ (w n a : Nat), getGo a (be w n) = a * 256 ^ w + n % 256 ^ w
  | 0, n, a => by simp [be, getGo, Nat.mod_one]
  | w + 1, n, a => by
    have e1 : (UInt8.ofNat (n / 256 ^ w)).toNat = n / 256 ^ w % 256 := by rw [UInt8.toNat_ofNat']
    have e2 : n % 256 ^ (w + 1) = n % 256 ^ w + 256 ^ w * (n / 256 ^ w % 256) := by rw [Nat.pow_succ, Nat.mod_mul]
    rw [be, getGo_cons, getGo_be w n, e1, e2, Nat.pow_succ, Nat.add_mul, Nat.mul_assoc, Nat.mul_comm 256 (256 ^ w), Nat.mul_comm (n / 256 ^ w % 256)]
    omega
theorem getN_be (w n : Nat) (h : n < 256 ^ w) : getN (be w n) = n := by
  unfold getN; rw [getGo_be, Nat.mod_eq_of_lt h]; omega
theorem getGo_lt : ∀ (bs : List UInt8) (a : Nat), getGo a bs < (a + 1) * 256 ^ bs.length
  | [], a => by simp [getGo]
  | c :: r, a => by
    rw [getGo_cons, List.length_cons, Nat.pow_succ]
    have h1 := getGo_lt r (a * 256 + c.toNat)
    have h2 := c.toNat_lt
    have h3 : (a * 256 + c.toNat + 1) * 256 ^ r.length ≤ ((a + 1) * 256) * 256 ^ r.length := Nat.mul_le_mul_right _ (by omega)
    rw [Nat.mul_comm (256 ^ r.length) 256, ← Nat.mul_assoc]
    omega
theorem getN_lt (bs : List UInt8) (h : bs.length ≤ 7) : getN bs < 72057594037927936 := by
  have h1 := getGo_lt bs 0
  have h2 : 256 ^ bs.length ≤ 256 ^ 7 := Nat.pow_le_pow_right (by decide) h
  unfold getN
  simp at h1
  omega
def net (b : List UInt8) : List UInt8 := itoa b.length ++ [58] ++ b ++ [44]
def nets : List (List UInt8) → List UInt8
  | [] => []
  | b :: r => net b ++ nets r
theorem nets_snoc (l : List (List UInt8)) (b : List UInt8) : nets (l ++ [b]) = nets l ++ net b := by
  induction l with
  | nil => simp [nets]
  | cons a l ih => simp [nets, ih, List.append_assoc]
def sizeGo : List UInt8 → Nat → Nat → Nat × Nat
  | [], n, d => (n, d)
  | c :: r, n, d => if 48 ≤ c.toNat ∧ c.toNat ≤ 57 ∧ n ≤ 16384 then sizeGo r (10 * n + (c.toNat - 48)) (d + 1) else (n, d)
def size (b : List UInt8) : Nat × Nat := sizeGo b 0 0
theorem sizeGo_le : ∀ (l : List UInt8) (n d : Nat), n ≤ 163849 → (sizeGo l n d).1 ≤ 163849 ∧ d ≤ (sizeGo l n d).2 ∧ (sizeGo l n d).2 ≤ d + l.length
  | [], n, d, h => by simp [sizeGo]; exact h
  | c :: r, n, d, h => by
    rw [sizeGo]
    by_cases hc : 48 ≤ c.toNat ∧ c.toNat ≤ 57 ∧ n ≤ 16384
    · rw [if_pos hc]
      have := sizeGo_le r (10 * n + (c.toNat - 48)) (d + 1) (by omega)
      simp only [List.length_cons]
      omega
    · rw [if_neg hc]; simp only [List.length_cons]; exact ⟨h, by omega, by omega⟩
theorem size_le (b : List UInt8) : (size b).1 ≤ 163849 ∧ (size b).2 ≤ b.length := by
  have := sizeGo_le b 0 0 (by omega)
  unfold size; omega
theorem sizeGo_step {l : List UInt8} {n d : Nat} {c : UInt8} {r : List UInt8} (hl : l = c :: r) (h : 48 ≤ c.toNat ∧ c.toNat ≤ 57 ∧ n ≤ 16384) : sizeGo l n d = sizeGo r (10 * n + (c.toNat - 48)) (d + 1) := by
  subst hl; rw [sizeGo, if_pos h]
theorem sizeGo_stop {l : List UInt8} {n d : Nat} (h : ∀ c r, l = c :: r → ¬ (48 ≤ c.toNat ∧ c.toNat ≤ 57 ∧ n ≤ 16384)) : sizeGo l n d = (n, d) := by
  cases l with
  | nil => rfl
  | cons c r => rw [sizeGo, if_neg (h c r rfl)]
def bad1 (b : List UInt8) : Bool := ((size b).2 == 0) || (decide (1 < (size b).2) && (b.getD 0 0 == 48)) || decide (16384 < (size b).1)
def bad2 (b : List UInt8) : Bool := decide (b.length < (size b).2 + (size b).1 + 2) || (b.getD (size b).2 0 != 58) || (b.getD ((size b).2 + 1 + (size b).1) 0 != 44)
def takeNet (b : List UInt8) : Option (List UInt8 × List UInt8) :=
  if bad1 b = true then none else if bad2 b = true then none else some ((b.drop ((size b).2 + 1)).take (size b).1, b.drop ((size b).2 + (size b).1 + 2))
theorem digit_toNat {k : Nat} (h : k < 10) : (UInt8.ofNat (48 + k)).toNat = 48 + k := by rw [UInt8.toNat_ofNat']; omega
theorem sizeGo_dec (u : Nat) : ∀ (r : List UInt8), u ≤ 163849 → sizeGo (decDigits u ++ r) 0 0 = sizeGo r u (nDigits u) := by
  induction u using Nat.strongRecOn with
  | _ u ih =>
    intro r hu
    by_cases h : u < 10
    · rw [decDigits, dif_pos h, nDigits_small h, List.cons_append, List.nil_append, sizeGo, digit_toNat h, if_pos (by omega)]
      congr 1; omega
    · rw [decDigits, dif_neg h, nDigits_big h, List.append_assoc, ih (u / 10) (by omega) _ (by omega), List.cons_append, List.nil_append, sizeGo, digit_toNat (by omega : u % 10 < 10), if_pos (by omega)]
      congr 1; omega
theorem dec_head (u : Nat) : 1 < nDigits u → ∀ r, (decDigits u ++ r).getD 0 0 ≠ 48 := by
  induction u using Nat.strongRecOn with
  | _ u ih =>
    intro hn r
    by_cases h : u < 10
    · rw [nDigits_small h] at hn; omega
    · rw [decDigits, dif_neg h, List.append_assoc]
      by_cases h2 : u / 10 < 10
      · rw [decDigits, dif_pos h2, List.cons_append]
        intro e
        have := congrArg UInt8.toNat e
        simp only [List.getD_cons_zero] at this
        rw [digit_toNat h2] at this
        have : 48 + u / 10 = 48 := this
        omega
      · exact ih (u / 10) (by omega) (by rw [nDigits_big h2]; have := nDigits_pos (u / 10 / 10); omega) _
theorem net_eq (b : List UInt8) : net b = decDigits b.length ++ (58 :: (b ++ [44])) := by
  unfold net; rw [itoa_nonneg]; simp [List.append_assoc]
theorem size_net (b r : List UInt8) (h : b.length ≤ 16384) : size (net b ++ r) = (b.length, nDigits b.length) := by
  unfold size
  rw [net_eq, List.append_assoc, sizeGo_dec _ _ (by omega)]
  exact sizeGo_stop fun c s e => by
    injection e with e _
    subst e
    intro h
    exact absurd h.2.1 (by decide)
theorem getD_app_right {α : Type} (a b : List α) (i : Nat) (d : α) (h : a.length ≤ i) : (a ++ b).getD i d = b.getD (i - a.length) d := by
  rw [List.getD_eq_getElem?_getD, List.getD_eq_getElem?_getD, List.getElem?_append_right h]
theorem net_len (b : List UInt8) : (net b).length = nDigits b.length + b.length + 2 := by
  rw [net_eq]; simp [decDigits_length]; omega
theorem takeNet_net (b r : List UInt8) (h : b.length ≤ 16384) : takeNet (net b ++ r) = some (b, r) := by
  have hs := size_net b r h
  have hp := nDigits_pos b.length
  have hl := decDigits_length b.length
  have e : net b ++ r = decDigits b.length ++ (58 :: (b ++ 44 :: r)) := by rw [net_eq]; simp [List.append_assoc]
  have b1 : bad1 (net b ++ r) = false := by
    unfold bad1
    rw [hs]
    have h0 : ((nDigits b.length) == 0) = false := by simp; omega
    have h2 : decide (16384 < b.length) = false := by simp; omega
    have h1 : (decide (1 < nDigits b.length) && ((net b ++ r).getD 0 0 == 48)) = false := by
      by_cases hd : 1 < nDigits b.length
      · have := dec_head b.length hd (58 :: (b ++ 44 :: r))
        rw [e]
        simp only [Bool.and_eq_false_iff]
        exact .inr (by simpa using this)
      · simp [hd]
    rw [h0, h1, h2]; rfl
  have b2 : bad2 (net b ++ r) = false := by
    unfold bad2
    rw [hs]
    have h0 : decide ((net b ++ r).length < nDigits b.length + b.length + 2) = false := by
      rw [List.length_append, net_len]; simp
    have h1 : ((net b ++ r).getD (nDigits b.length) 0 != 58) = false := by
      rw [e, getD_app_right _ _ _ _ (by omega), hl, Nat.sub_self]; rfl
    have h2 : ((net b ++ r).getD (nDigits b.length + 1 + b.length) 0 != 44) = false := by
      rw [e, getD_app_right _ _ _ _ (by omega), hl, show nDigits b.length + 1 + b.length - nDigits b.length = b.length + 1 from by omega, List.getD_cons_succ, getD_app_right _ _ _ _ (Nat.le_refl _), Nat.sub_self]; rfl
    show (decide ((net b ++ r).length < nDigits b.length + b.length + 2) || _ || _) = false
    rw [h0, h1, h2]; rfl
  unfold takeNet
  rw [b1, b2, hs]
  simp only [Bool.false_eq_true, if_false]
  rw [e, show nDigits b.length + 1 = (decDigits b.length).length + 1 from by rw [hl], show nDigits b.length + b.length + 2 = (decDigits b.length).length + (1 + (b.length + 1)) from by rw [hl]; omega]
  rw [← List.drop_drop, ← List.drop_drop, List.drop_left, ← List.drop_drop]
  simp
end Cod
end
section
namespace Go.Mem
open Go Go.RowKit Gf
section
variable {P : Program} {w : World} {ops : Array Oper} {rest : List Oper} {o : Oper} {a : Act} {Q : Exit → Act → World → Prop} {K : Act → World → Prop} {E0 : Prop}
structure ElemK (P : Program) (t e : TypeId) (z : Value) (size bytes : Nat) : Prop where
  under : P.underlying t = some (.slice e)
  info : (P.info? e).map (fun i => (i.zero, i.size, i.bytes)) = some (some z, size, bytes)
  zsize : z.cells.size = size
  pos : 0 < size
end
end Go.Mem
end
section
namespace Go.Mem
open Go Go.RowKit Gf
end Go.Mem
namespace Go.Proofs.YtehgnkdfnnebcaaDoor
open Go Go.RowKit Go.Mem Gf
attribute [local go_sem ↓] Go.wp_at_zero Go.wp_at_succ
end Go.Proofs.YtehgnkdfnnebcaaDoor
end
section
namespace Go.Mem
open Go Go.RowKit Gf
def DiskS.rres (s : DiskS) (i : Int) : Int := if s.may i = true then (if s.dead = true then 8 else 0) else 1
def DiskS.rd (s : DiskS) (i : Int) : List UInt8 := if s.may i = true ∧ s.dead = false then s.sector i.toNat else []
def DiskS.wres (s : DiskS) (i : Int) (n : Nat) : Int := if s.may i = true ∧ n ≤ 32 then (if s.dead = true then 8 else if s.stops = true ∧ s.cnt = 0 then 8 else 0) else 1
def DiskS.wr (s : DiskS) (i : Int) (bs : List UInt8) : DiskS := if (s.may i = true ∧ bs.length ≤ 32) ∧ s.dead = false then s.write i.toNat bs else s
theorem DiskS.may_out {s : DiskS} {i : Int} (h : s.may i = true) : ∃ j : Nat, i = j ∧ j < s.n := by
  simp [DiskS.may] at h
  exact ⟨i.toNat, by omega, by omega⟩
theorem DiskS.may_bad {s : DiskS} {i : Int} (h : ¬ s.may i = true) : i < 0 ∨ (s.n : Int) ≤ i := by
  simp [DiskS.may] at h
  omega
theorem DiskS.wr_n (s : DiskS) (i : Int) (bs : List UInt8) : (s.wr i bs).n = s.n := by
  unfold DiskS.wr DiskS.write; split
  · split <;> rfl
  · rfl
theorem DiskS.wr_writes (s : DiskS) (i : Int) (bs : List UInt8) : (s.wr i bs).writes ≤ s.writes + 1 := by
  unfold DiskS.wr DiskS.write; split
  · split
    · exact Nat.le_succ _
    · exact Nat.le_refl _
  · exact Nat.le_succ _
end Go.Mem
namespace Go.Proofs.YtehgnkdfnnebcaaDoor
open Go Go.RowKit Go.Mem Gf
theorem dread_any (d L : Nat) (s : DiskS) (i : Int) (w : World) (h : IsDisk w d L s) :
    Calls Tryd.prog 26 #[.pointer (some ⟨d, 0, none⟩), .int .i64 i] w fun e w' => ∃ v, e = .returned (.tuple #[v, .int .i64 (s.rres i)]) ∧ OwnF 5 w' w.heap.size v (s.rd i) ∧ Below w.heap.size w w' := by
  by_cases hm : s.may i = true
  · obtain ⟨j, rfl, hj⟩ := DiskS.may_out hm
    by_cases hd : s.dead = true
    · refine (dread_dead d L s j w h hj hd).mono ?_
      rintro e w1 ⟨rfl, rfl⟩
      exact ⟨.slice none 0 0, by simp [DiskS.rres, hm, hd], by simp [DiskS.rd, hd]; exact OwnF.nil _ _ _, Below.refl _ _⟩
    · have hd : s.dead = false := by simpa using hd
      refine (dread_calls d L s j w h hj hd).mono ?_
      rintro e w1 ⟨v, rfl, h1, h2⟩
      exact ⟨v, by simp [DiskS.rres, hm, hd], by simp [DiskS.rd, hm, hd]; exact h1, h2⟩
  · refine (dread_bad d L s i w h (DiskS.may_bad hm)).mono ?_
    rintro e w1 ⟨rfl, rfl⟩
    exact ⟨.slice none 0 0, by simp [DiskS.rres, hm], by simp [DiskS.rd, hm]; exact OwnF.nil _ _ _, Below.refl _ _⟩
theorem rread_any (r B : Nat) (s : DiskS) (i : Int) (w : World) (h : RDisk w r B s) :
    Calls Tryd.prog 27 #[.pointer (some ⟨r, 0, none⟩), .int .i64 i] w fun e w' => ∃ v, e = .returned (.tuple #[v, .int .i64 (s.rres i)]) ∧ OwnF 5 w' w.heap.size v (s.rd i) ∧ Below w.heap.size w w' := by
  by_cases hm : s.may i = true
  · obtain ⟨j, rfl, hj⟩ := DiskS.may_out hm
    by_cases hd : s.dead = true
    · refine (rread_dead r B s j w h hj hd).mono ?_
      rintro e w1 ⟨rfl, rfl⟩
      exact ⟨.slice none 0 0, by simp [DiskS.rres, hm, hd], by simp [DiskS.rd, hd]; exact OwnF.nil _ _ _, Below.refl _ _⟩
    · have hd : s.dead = false := by simpa using hd
      refine (rread_calls r B s j w h hj hd).mono ?_
      rintro e w1 ⟨v, rfl, h1, h2⟩
      exact ⟨v, by simp [DiskS.rres, hm, hd], by simp [DiskS.rd, hm, hd]; exact h1, h2⟩
  · refine (rread_bad r B s i w h (DiskS.may_bad hm)).mono ?_
    rintro e w1 ⟨rfl, rfl⟩
    exact ⟨.slice none 0 0, by simp [DiskS.rres, hm], by simp [DiskS.rd, hm]; exact OwnF.nil _ _ _, Below.refl _ _⟩
theorem dwrite_any (d L : Nat) (s : DiskS) (i : Int) (v : Value) (bs : List UInt8) (w : World) (h : IsDisk w d L s) (hb : Bys w v bs) (hw : s.writes < 4611686018427387904) :
    Calls Tryd.prog 7 #[.pointer (some ⟨d, 0, none⟩), .int .i64 i, v] w fun e w' => e = .returned (.int .i64 (s.wres i bs.length)) ∧ IsDisk w' d L (s.wr i bs) ∧ Chg (fun b => b = d ∨ b = L) w w' := by
  by_cases hm : s.may i = true ∧ bs.length ≤ 32
  · obtain ⟨j, rfl, hj⟩ := DiskS.may_out hm.1
    by_cases hd : s.dead = true
    · refine (dwrite_dead d L s j v bs w h hb hj hm.2 hd).mono ?_
      rintro e w1 ⟨rfl, rfl⟩
      exact ⟨by rw [DiskS.wres, if_pos hm, if_pos hd], by rw [DiskS.wr, if_neg (by simp [hd])]; exact h, Chg.refl _ _⟩
    · have hd : s.dead = false := by simpa using hd
      refine (dwrite_calls d L s j v bs w h hb hj hm.2 hd hw).mono ?_
      rintro e w1 ⟨rfl, h1, h2⟩
      exact ⟨by rw [DiskS.wres, if_pos hm, if_neg (show ¬ s.dead = true by simp [hd])], by rw [DiskS.wr, if_pos ⟨hm, hd⟩]; exact h1, h2⟩
  · refine (dwrite_bad d L s i v bs w h hb ?_).mono ?_
    · rcases Nat.lt_or_ge 32 bs.length with hl | hl
      · exact .inr hl
      · exact .inl (DiskS.may_bad fun e => hm ⟨e, hl⟩)
    rintro e w1 ⟨rfl, rfl⟩
    exact ⟨by rw [DiskS.wres, if_neg hm], by rw [DiskS.wr, if_neg (fun e => hm e.1)]; exact h, Chg.refl _ _⟩
theorem rwrite_any (r B : Nat) (s : DiskS) (i : Int) (v : Value) (bs : List UInt8) (w : World) (h : RDisk w r B s) (hb : Bys w v bs) (hkeep : ∀ w', Chg (fun b => b = B) w w' → Bys w' v bs) (hw : s.writes < 4611686018427387904) :
    Calls Tryd.prog 8 #[.pointer (some ⟨r, 0, none⟩), .int .i64 i, v] w fun e w' => e = .returned (.int .i64 (s.wres i bs.length)) ∧ RDisk w' r B (s.wr i bs) ∧ Chg (fun b => b = r ∨ b = B) w w' := by
  by_cases hm : s.may i = true ∧ bs.length ≤ 32
  · obtain ⟨j, rfl, hj⟩ := DiskS.may_out hm.1
    by_cases hd : s.dead = true
    · refine (rwrite_dead r B s j v bs w h hb hj hm.2 hd).mono ?_
      rintro e w1 ⟨rfl, rfl⟩
      exact ⟨by rw [DiskS.wres, if_pos hm, if_pos hd], by rw [DiskS.wr, if_neg (by simp [hd])]; exact h, Chg.refl _ _⟩
    · have hd : s.dead = false := by simpa using hd
      refine (rwrite_calls r B s j v bs w h hb hkeep hj hm.2 hd hw).mono ?_
      rintro e w1 ⟨rfl, h1, h2⟩
      exact ⟨by rw [DiskS.wres, if_pos hm, if_neg (show ¬ s.dead = true by simp [hd])], by rw [DiskS.wr, if_pos ⟨hm, hd⟩]; exact h1, h2⟩
  · refine (rwrite_bad r B s i v bs w h hb ?_).mono ?_
    · rcases Nat.lt_or_ge 32 bs.length with hl | hl
      · exact .inr hl
      · exact .inl (DiskS.may_bad fun e => hm ⟨e, hl⟩)
    rintro e w1 ⟨rfl, rfl⟩
    exact ⟨by rw [DiskS.wres, if_neg hm], by rw [DiskS.wr, if_neg (fun e => hm e.1)]; exact h, Chg.refl _ _⟩
end Go.Proofs.YtehgnkdfnnebcaaDoor
end
section
namespace Sto
open Go.Mem
structure Rec where
  is : Bool
  name : ByteArray
  num : Nat
  data : List UInt8
def Rec.free : Rec := ⟨false, ByteArray.empty, 0, []⟩
def takeN : Nat → List UInt8 → Option (List (List UInt8) × List UInt8)
  | 0, b => some ([], b)
  | k + 1, b => match takeN k b with
    | none => none
    | some (xs, r) => match Cod.takeNet r with
      | none => none
      | some (x, r') => some (xs ++ [x], r')
theorem takeN_len : ∀ (k : Nat) (b : List UInt8) (xs : List (List UInt8)) (r : List UInt8), takeN k b = some (xs, r) → xs.length = k
  | 0, b, xs, r, h => by simp [takeN] at h; rw [h.1]; rfl
  | k + 1, b, xs, r, h => by
    simp only [takeN] at h
    split at h
    · cases h
    · rename_i xs' r' h'
      split at h
      · cases h
      · injection h with h
        injection h with h1 h2
        subst h1
        rw [List.length_append, takeN_len k b xs' r' h']; rfl
def parse (b : List UInt8) : Option Rec :=
  match takeN 3 b with
  | none => none
  | some (xs, _) => if (xs.getD 1 []).length = 4 then some ⟨true, ⟨(xs.getD 0 []).toArray⟩, Cod.getN (xs.getD 1 []), xs.getD 2 []⟩ else none
def text (name : ByteArray) (num : Nat) (data : List UInt8) : List UInt8 := Cod.nets [name.data.toList, Cod.be 4 num, data]
def best (l : List Rec) (name : ByteArray) : Nat → Option Nat
  | 0 => none
  | k + 1 => match l[k]? with
    | none => best l name k
    | some r => if r.is = true ∧ (r.name.toList == name.toList) = true ∧ (∀ j, best l name k = some j → (l.getD j Rec.free).num < r.num) then some k else best l name k
end Sto
end
section
namespace Go.Mem
open Go Go.RowKit Gf
def OwnX (t8 : TypeId) (w : World) (base : Nat) (v : Value) (bs : List UInt8) : Prop :=
  (v = .slice none 0 0 ∧ bs = []) ∨ ∃ g cap arr fz, v = .slice (some ⟨g, 0, none⟩) bs.length cap ∧ base ≤ g ∧ w.heap[g]? = some (.cells arr t8 fz) ∧ (fz = (0, 0) ∨ arr.size ≤ fz.1) ∧ bs.length ≤ cap ∧ cap ≤ maxLen ∧ arr.size = cap ∧
    (∀ (i : Nat) (u : UInt8), bs[i]? = some u → arr[i]? = some (Value.int .u8 ((u.toNat : Nat) : Int))) ∧ Byt arr
section
variable {t8 : TypeId} {w w' : World} {base : Nat} {v : Value} {bs : List UInt8}
theorem OwnX.nil (t8 : TypeId) (w : World) (base : Nat) : OwnX t8 w base (.slice none 0 0) [] := .inl ⟨rfl, rfl⟩
theorem OwnX.eq_slice (h : OwnX t8 w base v bs) : ∃ a cap, v = .slice a bs.length cap := by
  rcases h with ⟨rfl, rfl⟩ | ⟨g, cap, _, _, rfl, _⟩
  · exact ⟨_, _, rfl⟩
  · exact ⟨_, _, rfl⟩
theorem OwnX.bys (h : OwnX t8 w base v bs) : Bys w v bs := by
  rcases h with ⟨rfl, rfl⟩ | ⟨g, cap, arr, fz, rfl, _, hg, _, h1, h2, _, h3, _⟩
  · exact Bys.nil w
  · refine ⟨_, cap, rfl, h1, h2, fun _ => ⟨g, 0, rfl, fun i u hi => ?_⟩⟩
    rw [Nat.zero_add]
    have := h3 i u hi
    simp [World.cell?, hg, this]
theorem OwnX.lt (h : OwnX t8 w base v bs) : ∀ k, v.ownBlock = some k → base ≤ k ∧ k < w.heap.size := by
  rcases h with ⟨rfl, rfl⟩ | ⟨g, cap, arr, fz, rfl, hb, hg, _⟩
  · intro k hk; simp [Value.ownBlock] at hk
  · intro k hk; simp [Value.ownBlock] at hk; subst hk; exact ⟨hb, lt_of_block hg⟩
theorem OwnX.drew (h : OwnX t8 w base v bs) : OwnX t8 w.drew base v bs := h
theorem OwnX.mono (h : OwnX t8 w base v bs) {base' : Nat} (hb : base' ≤ base) : OwnX t8 w base' v bs := by
  rcases h with h | ⟨g, cap, arr, fz, h1, h2, r⟩
  · exact .inl h
  · exact .inr ⟨g, cap, arr, fz, h1, Nat.le_trans hb h2, r⟩
theorem OwnX.kept (h : OwnX t8 w base v bs) (hk : ∀ g, v.ownBlock = some g → w'.heap[g]? = w.heap[g]?) : OwnX t8 w' base v bs := by
  rcases h with h | ⟨g, cap, arr, fz, rfl, h2, h3, r⟩
  · exact .inl h
  · exact .inr ⟨g, cap, arr, fz, rfl, h2, by rw [hk g rfl]; exact h3, r⟩
theorem OwnX.below (h : OwnX t8 w base v bs) (hb : Below w.heap.size w w') : OwnX t8 w' base v bs := h.kept fun g hg => hb.block g (h.lt g hg).2
theorem OwnX.chg {S : Nat → Prop} (h : OwnX t8 w base v bs) (hc : Chg S w w') (hs : ∀ g, v.ownBlock = some g → ¬ S g) : OwnX t8 w' base v bs := h.kept fun g hg => hc.block g (h.lt g hg).2 (hs g hg)
theorem OwnX.alloc (h : OwnX t8 w base v bs) (o : Obj) : OwnX t8 (w.alloc o) base v bs := h.below ((Below.refl _ _).alloc (Nat.le_refl _) _)
theorem OwnF.x (h : OwnF t8 w base v bs) : OwnX t8 w base v bs := by
  obtain ⟨⟨h1, h2⟩, h3⟩ := h
  rcases h2 with ⟨rfl, h0⟩ | ⟨g, cap, cur, rfl, hb, hg, hnc, hcm, hcs, htake⟩
  · exact .inl ⟨rfl, List.eq_nil_of_length_eq_zero h0⟩
  · obtain ⟨arr, h4, h5⟩ := h3 g rfl
    have e : cur = arr := by
      have := (show Blk w g cur t8 from hg).symm.trans h4
      injection this with this
      injection this with this
    subst e
    refine .inr ⟨g, cap, cur, (0, 0), rfl, hb, hg, .inl rfl, hnc, hcm, by omega, fun i u hi => ?_, h5⟩
    have hil : i < bs.length := by
      rcases Nat.lt_or_ge i bs.length with h | h
      · exact h
      · rw [List.getElem?_eq_none h] at hi; cases hi
    have : (bV bs)[i]? = some (.int .u8 ((u.toNat : Nat) : Int)) := by rw [bV_get, hi]; rfl
    rw [← htake, List.getElem?_take, if_pos (by omega)] at this
    simpa using this
theorem conv_ownX (w : World) (e : TypeId) (s : ByteArray) (hs : s.size ≤ maxLen) : OwnX e (Lib.bytesWorld w e s) w.heap.size (.slice (some ⟨w.heap.size, 0, none⟩) s.size (grownCap w s.size 0 e)) s.data.toList ∧ Below w.heap.size w (Lib.bytesWorld w e s) := by
  have hge := grownCap_ge w s.size 0 e
  have hsz : (Lib.bytesCells w e s).size = grownCap w s.size 0 e := by
    simp only [Lib.bytesCells, Array.size_append, Array.size_map, Array.size_replicate]
    show s.size + _ = _
    omega
  refine ⟨.inr ⟨_, _, _, _, rfl, Nat.le_refl _, Lib.bytesWorld_at_new w e s, .inr (Nat.le_refl _), hge, grownCap_le_maxLen w s.size 0 e hs, hsz, fun i u hi => ?_, ?_⟩, ?_⟩
  · unfold Lib.bytesCells
    have hil : i < s.data.size := by
      rcases Nat.lt_or_ge i s.data.size with h | h
      · exact h
      · rw [List.getElem?_eq_none (by simpa using h)] at hi; cases hi
    rw [Array.getElem?_append_left (by simpa using hil)]
    simp at hi ⊢
    exact ⟨u, hi, rfl⟩
  · refine byt_mem.2 fun y hy => ?_
    simp only [Lib.bytesCells, Array.toList_append, Array.toList_map, List.mem_append, List.mem_map, Array.toList_replicate, List.mem_replicate] at hy
    rcases hy with ⟨x, _, rfl⟩ | ⟨_, rfl⟩
    · exact ⟨x, rfl⟩
    · exact ⟨0, rfl⟩
  · exact ⟨by simp [Lib.bytesWorld, World.freeze, World.alloc, World.drew, -World.alloc_eq, -World.drew_eq], by simp [Lib.bytesWorld, World.freeze, World.alloc, World.drew, -World.alloc_eq, -World.drew_eq], by simp [Lib.bytesWorld, World.freeze, World.alloc, World.drew, -World.alloc_eq, -World.drew_eq], by rw [Lib.bytesWorld_size]; omega, fun k hk => Lib.bytesWorld_at_old w e s k hk⟩
end
theorem run_storeCells_atX (P : Program) (g o : Nat) (t : TypeId) (fz : Nat × Nat) : ∀ (vs : List Value) (i : Nat) (cur : Array Value) (w : World), w.heap[g]? = some (.cells cur t fz) → (fz = (0, 0) ∨ cur.size ≤ fz.1) → o + i + vs.length ≤ cur.size → (∀ v ∈ vs, v.oneCell' = true) →
    (storeCells ⟨g, o, none⟩ vs i).run P w = .ok () (w.setRow g (cur.toList.take (o + i) ++ vs ++ cur.toList.drop (o + i + vs.length)).toArray)
  | [], i, cur, w, hg, _, _, _ => by
    simp only [storeCells, List.append_nil, List.length_nil, Nat.add_zero, List.take_append_drop, Array.toArray_toList]
    rw [setRow_self w g cur t fz hg]
    rfl
  | v :: rest, i, cur, w, hg, hfz, hl, h1 => by
    have hi : o + i < cur.size := by simp at hl; omega
    have hadd : (⟨g, o, none⟩ : Addr).add i = ⟨g, o + i, none⟩ := by unfold Addr.add; split <;> simp_all
    have hcell : w.cell? ⟨g, o + i, none⟩ = some cur[o + i] := by simp [World.cell?, hg, hi]
    have hfro : w.frozen? ⟨g, o + i, none⟩ = false := by
      obtain ⟨lo, hi'⟩ := fz
      simp only [World.frozen?, hg, Bool.and_eq_false_iff, decide_eq_false_iff_not]
      rcases hfz with hfz | hfz
      · right; cases hfz; omega
      · left; simp only at hfz; omega
    have hst : (store ((⟨g, o, none⟩ : Addr).add i) v).run P w = .ok () (w.setRow g (cur.setIfInBounds (o + i) v)) := by
      rw [hadd, run_store P w _ v _ (h1 v (by simp)), hcell]
      simp [hfro, setCell_eq_setRow w g (o + i) cur t fz v hg]
    have ih := run_storeCells_atX P g o t fz rest (i + 1) (cur.setIfInBounds (o + i) v) (w.setRow g (cur.setIfInBounds (o + i) v)) (setRow_heap w g cur _ t _ hg) (by rw [Array.size_setIfInBounds]; exact hfz) (by simp at hl ⊢; omega) (fun x hx => h1 x (by simp [hx]))
    simp only [storeCells, Sem.run_bind, hst, Result.andThen_ok, ih, setRow_setRow]
    congr 3
    have e := list_seg_step cur.toList (o + i) v rest (by simp at hl ⊢; omega)
    simpa [Array.toList_setIfInBounds, Nat.add_assoc] using e
section
variable {P : Program} {w : World} {ops : Array Oper} {rest : List Oper} {o : Oper} {a : Act} {Q : Exit → Act → World → Prop} {K : Act → World → Prop} {E0 : Prop}
theorem run_append_roomX (t ty e : TypeId) (i : TypeInfo) (ht : P.underlying t = some (.slice e)) (hi : P.info? e = some i) (hs1 : i.size = 1)
    (g sLen sCap : Nat) (cur : Array Value) (fz : Nat × Nat) (hg : w.heap[g]? = some (.cells cur e fz)) (hfz : fz = (0, 0) ∨ cur.size ≤ fz.1)
    (ad : Addr) (m c : Nat) (news : List Value) (hl : news.length = m) (hnews : ∀ j u, news[j]? = some u → w.cell? (ad.add j) = some u) (h1 : ∀ u ∈ news, u.oneCell' = true)
    (hroom : sLen + m ≤ sCap) (hfit : sLen + news.length ≤ cur.size) :
    (Builtin.append_ #[t, t] ty #[.slice (some ⟨g, 0, none⟩) sLen sCap, .slice (some ad) m c]).run P w =
      .ok (.slice (some ⟨g, 0, none⟩) (sLen + m) sCap) (w.setRow g (cur.toList.take sLen ++ news ++ cur.toList.drop (sLen + news.length)).toArray) := by
  have hf := run_firstCells_some (P := P) w i.size m ad m c news (by rw [hs1]; omega) hnews
  have hst := run_storeCells_atX P g (sLen * i.size) e fz news 0 cur w hg hfz (by rw [hs1]; simpa using hfit) h1
  simp only [Nat.add_zero, hs1, Nat.mul_one] at hst hf
  simp [Builtin.append_, run_underlying ht, sizeOf, typeInfo, hi, Builtin.lenOf, hroom, hf, Addr.add_lit, hst, hs1]
theorem run_appX {t e : TypeId} (E : Elem P t e (.int .u8 0) 1) (ty : TypeId) {base : Nat} {v xv : Value} {bs news : List UInt8} (hown : OwnX e w base v bs) (hb : Bys w xv news) (hn : bs.length + news.length ≤ 140737488355328) (hbase : base ≤ w.heap.size) :
    ∃ v' w', (Builtin.append_ #[t, t] ty #[v, xv]).run P w = .ok v' w' ∧ OwnX e w' base v' (bs ++ news) ∧ w.grownBy w' v.ownBlock := by
  obtain ⟨i, hi, hz, hsz, hby⟩ := info_parts E.info
  rcases hown with ⟨rfl, rfl⟩ | ⟨g, cap, arr, fz, rfl, hbg, hg, hfz, hnc, hcm, hcs, hcells, hbyt⟩
  · obtain ⟨v', w', h1, h2, h3⟩ := run_appF E ty (OwnF.nil e w base) hb hn hbase
    exact ⟨v', w', h1, h2.x, h3⟩
  · obtain ⟨ad, xcap, rfl, hc1, hc2, hcell⟩ := hb
    have holds : ∀ j u, (bV bs)[j]? = some u → w.cell? ((⟨g, 0, none⟩ : Addr).add j) = some u := fun j u hj => by
      rw [bV_get] at hj
      cases hu : bs[j]? with
      | none => rw [hu] at hj; cases hj
      | some x =>
        rw [hu] at hj
        have := hcells j x hu
        rw [show (⟨g, 0, none⟩ : Addr).add j = ⟨g, j, none⟩ from by unfold Addr.add; split <;> simp_all]
        simp at hj
        subst hj
        simp [World.cell?, hg, this]
    cases ad with
    | none =>
      have hl : news = [] := by
        rcases Nat.eq_zero_or_pos news.length with h0 | h0
        · exact List.eq_nil_of_length_eq_zero h0
        · obtain ⟨b, off, e, _⟩ := hcell h0; cases e
      subst hl
      refine ⟨_, w, ?_, by rw [List.append_nil]; exact .inr ⟨g, cap, arr, fz, rfl, hbg, hg, hfz, hnc, hcm, hcs, hcells, hbyt⟩, ⟨rfl, rfl, rfl, Nat.le_refl _, fun _ _ _ => rfl⟩⟩
      simp [Builtin.append_, run_underlying E.under, sizeOf, typeInfo, hi, Builtin.lenOf, Builtin.firstCells, hnc, storeCells]
    | some ad =>
      have hlen : (bV news).length = news.length * i.size := by rw [bV_len, hsz]; omega
      have hnews : ∀ j y, (bV news)[j]? = some y → w.cell? (ad.add j) = some y := fun j y hj => by
        rw [bV_get] at hj
        cases hu : news[j]? with
        | none => rw [hu] at hj; cases hj
        | some u =>
          rw [hu] at hj
          have hjl : j < news.length := by
            rcases Nat.lt_or_ge j news.length with h' | h'
            · exact h'
            · rw [List.getElem?_eq_none h'] at hu; cases hu
          obtain ⟨b, off, e, hc⟩ := hcell (by omega)
          cases e
          rw [show (⟨b, off, none⟩ : Addr).add j = ⟨b, off + j, none⟩ from by
            unfold Addr.add
            split
            · subst_vars; rfl
            · rfl]
          rw [hc j u hu]
          simpa using hj
      by_cases hroom : bs.length + news.length ≤ cap
      · have hr := run_append_roomX (P := P) (w := w) t ty e i E.under hi hsz g bs.length cap arr fz hg hfz ad news.length xcap (bV news) (bV_len _) hnews (bV_one _) hroom (by rw [bV_len]; omega)
        refine ⟨_, _, hr, .inr ⟨g, cap, _, fz, by rw [List.length_append], hbg, setRow_heap w g arr _ e _ hg, ?_, by rw [List.length_append]; exact hroom, hcm, ?_, fun j u hj => ?_, byt_mem.2 fun y hy => ?_⟩, ⟨rfl, rfl, rfl, by simp, fun k _ hk => setRow_other w g k _ (fun e => hk (by simp [Value.ownBlock, e]))⟩⟩
        · rcases hfz with h | h
          · exact .inl h
          · refine .inr ?_
            simp only [List.size_toArray, List.length_append, List.length_take, List.length_drop, Array.length_toList, bV_len]
            omega
        · simp only [List.size_toArray, List.length_append, List.length_take, List.length_drop, Array.length_toList, bV_len]
          omega
        · rw [List.getElem?_toArray]
          by_cases hjb : j < bs.length
          · rw [List.getElem?_append_left hjb] at hj
            rw [List.append_assoc, List.getElem?_append_left (by simp; omega), List.getElem?_take, if_pos hjb]
            simpa using hcells j u hj
          · rw [List.getElem?_append_right (by omega)] at hj
            have hjn : j - bs.length < news.length := by
              rcases Nat.lt_or_ge (j - bs.length) news.length with h' | h'
              · exact h'
              · rw [List.getElem?_eq_none h'] at hj; cases hj
            have htl : (arr.toList.take bs.length).length = bs.length := by simp; omega
            rw [List.append_assoc, List.getElem?_append_right (by rw [htl]; omega), htl, List.getElem?_append_left (by rw [bV_len]; exact hjn), bV_get, hj]
            rfl
        · have h6 := byt_mem.1 hbyt
          simp only [List.mem_append] at hy
          rcases hy with (hy | hy) | hy
          · exact h6 y (List.mem_of_mem_take hy)
          · exact byt_bV _ y hy
          · exact h6 y (List.mem_of_mem_drop hy)
      · have hr := run_append_grow (P := P) w t ty e i (.int .u8 0) E.under hi hz ⟨g, 0, none⟩ bs.length cap (bV bs) (by rw [bV_len, hsz]; omega) holds ad news.length xcap (bV news) hlen hnews (by omega) (by omega) (growslice_fits (by omega) (by rw [hby]; omega))
        have hge := grownCap_ge w (bs.length + news.length) cap e
        have hcm2 : grownCap w (bs.length + news.length) cap e ≤ maxLen := grownCap_le_maxLen w (bs.length + news.length) cap e (by unfold maxLen; omega)
        refine ⟨_, _, hr, .inr ⟨w.heap.size, _, _, (0, 0), by rw [List.length_append], hbase, heap_alloc_new w.drew _, .inl rfl, by rw [List.length_append]; exact hge, hcm2, ?_, fun j u hj => ?_, byt_mem.2 fun y hy => ?_⟩, ⟨rfl, rfl, rfl, by simp, fun k hk _ => heap_alloc_old w.drew _ hk⟩⟩
        · simp only [Array.size_append, List.size_toArray, size_zeroCells, bV_len]
          rw [show (Value.cells (.int .u8 0)).size = 1 from rfl]
          omega
        · have : ((bV bs ++ bV news))[j]? = some (.int .u8 ((u.toNat : Nat) : Int)) := by rw [← bV_app, bV_get, hj]; rfl
          have hjl : j < (bV bs ++ bV news).length := by
            rcases Nat.lt_or_ge j (bV bs ++ bV news).length with h' | h'
            · exact h'
            · rw [List.getElem?_eq_none h'] at this; cases this
          rw [Array.getElem?_append_left (by simpa using hjl)]
          simpa using this
        · simp only [Array.toList_append, List.mem_append] at hy
          rcases hy with (hy | hy) | hy
          · exact byt_bV _ y (by simpa using hy)
          · exact byt_bV _ y (by simpa using hy)
          · exact byt_zero _ y hy
theorem wpAppX {t e : TypeId} (E : Elem P t e (.int .u8 0) 1) (s x : Operand) (ho : o.op = .call { callee := .builtin .append, args := #[s, x], argTypes := #[t, t] })
    {base : Nat} {v xv : Value} {bs news : List UInt8} (hs : a.eval s = v) (hx : a.eval x = xv) (hown : OwnX e w base v bs) (hb : Bys w xv news) (hn : bs.length + news.length ≤ 140737488355328) (hbase : base ≤ w.heap.size)
    (h : ∀ v' w', OwnX e w' base v' (bs ++ news) ∧ w.grownBy w' v.ownBlock → K (a.put o.dst v') w') : o.wp P a w K Q := by
  obtain ⟨v', w', hr, h2, h3⟩ := run_appX E o.type hown hb hn hbase
  unfold Oper.wp execOp
  simp only [ho, resolve, invoke, builtin, Sem.run_bind, Sem.run_pure, Result.andThen_ok, List.map_toArray, List.map_cons, List.map_nil, hs, hx, hr]
  exact h v' w' ⟨h2, h3⟩
theorem appX {t e : TypeId} (E : Elem P t e (.int .u8 0) 1) (hgd : o.guard = none) (s x : Operand) (ho : o.op = .call { callee := .builtin .append, args := #[s, x], argTypes := #[t, t] })
    {base : Nat} {v xv : Value} {bs news : List UInt8} (hs : a.eval s = v) (hx : a.eval x = xv) (hown : OwnX e w base v bs) (hb : Bys w xv news) (hn : bs.length + news.length ≤ 140737488355328) (hbase : base ≤ w.heap.size)
    (h : ∀ v' w', OwnX e w' base v' (bs ++ news) → w.grownBy w' v.ownBlock → wpList P ops Q rest (a.put o.dst v') w') : wpList P ops Q (o :: rest) a w :=
  to_list hgd (fun _ hK => wpAppX E s x ho hs hx hown hb hn hbase hK) fun v' w' h2 => h v' w' h2.1 h2.2
theorem stepAppX {t e : TypeId} (E : Elem P t e (.int .u8 0) 1) (hgd : o.guard = none) (s x : Operand) (ho : o.op = .call { callee := .builtin .append, args := #[s, x], argTypes := #[t, t] })
    {base : Nat} {v xv : Value} {bs news : List UInt8} (hs : a.eval s = v) (hx : a.eval x = xv) (hown : OwnX e w base v bs) (hb : Bys w xv news) (hn : bs.length + news.length ≤ 140737488355328) (hbase : base ≤ w.heap.size)
    (h : ∀ v' w', OwnX e w' base v' (bs ++ news) → w.grownBy w' v.ownBlock → K (a.put o.dst v') w') : if Region.wanted o (yielded ops a.tmps) = true then Oper.wp P o a w K Q else E0 :=
  to_step hgd (fun _ hK => wpAppX E s x ho hs hx hown hb hn hbase hK) fun v' w' h2 => h v' w' h2.1 h2.2
theorem grown_below {w0 w' : World} {row : Option Nat} (hb : Below w0.heap.size w0 w) (h : w.grownBy w' row) (hr : ∀ k, row = some k → w0.heap.size ≤ k) : Below w0.heap.size w0 w' :=
  ⟨h.os.trans hb.os, h.tape.trans hb.tape, h.output.trans hb.output, Nat.le_trans hb.size h.size, fun k hk => (h.block k (Nat.lt_of_lt_of_le hk hb.size) fun e => by have := hr k e.symm; omega).trans (hb.block k hk)⟩
end
end Go.Mem
end
