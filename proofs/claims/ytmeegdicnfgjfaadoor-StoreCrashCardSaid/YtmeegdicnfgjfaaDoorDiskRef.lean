/- Walks of the document's disk. -/
import Derived.Test.YtmeegdicnfgjfaaDoorDiskLaw
namespace Go.Proofs.YtmeegdicnfgjfaaDoor
open Go Go.RowKit Go.Mem Gf
attribute [local go_sem ↓] Go.wp_at_zero Go.wp_at_succ
/-- the document's disk lies in block r, its bytes in block B -/
def RDisk (w : World) (r B : Nat) (s : DiskS) : Prop :=
  ∃ (cap : Nat) (atv : Int) (arr : Array Value), Blk w r #[.slice (some ⟨B, 0, none⟩) (s.n * 32) cap, .bool s.dead, .bool s.stops, .int .i64 atv, .int .i64 s.keep, .int .i64 s.writes] 84 ∧ s.n * 32 ≤ cap ∧ cap ≤ 9223372036854775807 ∧ Blk w B arr 5 ∧ s.n * 32 ≤ arr.size ∧
    (∀ j, j < s.n * 32 → arr[j]? = some (.int .u8 ((s.f j).toNat : Int))) ∧ 1 ≤ s.n ∧ s.n ≤ 4096 ∧ s.keep ≤ 32 ∧ r ≠ B ∧ (s.stops = true → atv = s.cnt) ∧ -(s.writes : Int) ≤ atv ∧ atv ≤ 9223372036854775807 ∧ s.writes ≤ 4611686018427387904
theorem RDisk.chg {w w' : World} {r B : Nat} {s : DiskS} {S : Nat → Prop} (h : RDisk w r B s) (hc : Chg S w w') (h1 : ¬ S r) (h2 : ¬ S B) : RDisk w' r B s := by
  obtain ⟨cap, atv, arr, hd, a, b, hL, r⟩ := h
  exact ⟨cap, atv, arr, hc.blk hd h1, a, b, hc.blk hL h2, r⟩
theorem RDisk.below {w w' : World} {r B : Nat} {s : DiskS} (h : RDisk w r B s) (hc : Below w.heap.size w w') : RDisk w' r B s := h.chg (S := fun _ => False) (Chg.of_below hc) id id
theorem RDisk.drewN {w : World} {r B : Nat} {s : DiskS} (h : RDisk w r B s) (m : Nat) : RDisk (w.drewN m) r B s := h
theorem RDisk.lt {w : World} {r B : Nat} {s : DiskS} (h : RDisk w r B s) : r < w.heap.size ∧ B < w.heap.size := by
  obtain ⟨cap, atv, arr, hd, a, b, hL, _⟩ := h
  exact ⟨hd.lt, hL.lt⟩
theorem RDisk.sector {w : World} {r B : Nat} {s : DiskS} (h : RDisk w r B s) (i : Nat) (hi : i < s.n) (c : Nat) (hc : 32 ≤ c) (hm : c ≤ maxLen) : Bys w (.slice (some ⟨B, i * 32, none⟩) 32 c) (s.sector i) := by
  obtain ⟨cap, atv, arr, hd, a, b, hL, r1, r2, r3⟩ := h
  exact hL.mid_bys hc hm fun k hk => r2 _ (by omega)
/-- a byte is set -/
theorem RDisk.set {w : World} {r B : Nat} {s : DiskS} (h : RDisk w r B s) (x : Nat) (u : UInt8) : RDisk (w.setCell ⟨B, x, none⟩ (.int .u8 (u.toNat : Int))) r B { s with f := fun j => if j = x then u else s.f j } := by
  obtain ⟨cap, atv, arr, hd, a, b, hL, r1, r2, r3, r4, r5, hne, r6⟩ := h
  refine ⟨cap, atv, _, hd.set_other (fun e => hne e.symm) _, a, b, hL.set x _, by rw [Array.size_setIfInBounds]; exact r1, fun j hj => ?_, r3, r4, r5, hne, r6⟩
  have hj : j < s.n * 32 := hj
  rw [Array.getElem?_setIfInBounds]
  by_cases e : x = j
  · subst e; simp; omega
  · rw [if_neg e, r2 j hj]
    show some (Value.int .u8 ((s.f j).toNat : Int)) = some (Value.int .u8 ((if j = x then u else s.f j).toNat : Int))
    rw [if_neg (fun e' => e e'.symm)]

set_option maxRecDepth 100000 in
set_option maxHeartbeats 1000000 in
theorem rlen_calls (r B : Nat) (s : DiskS) (w : World) (h : RDisk w r B s) :
    Calls Tryd.prog 42 #[.pointer (some ⟨r, 0, none⟩)] w fun e w' => e = .returned (.int .i64 (s.n : Int)) ∧ w = w' := by
  obtain ⟨cap, atv, arr, hd, a, b, hL, _, _, hn1, hn2, _⟩ := h
  have c0 : w.cell? ⟨r, 0, none⟩ = some (.slice (some ⟨B, 0, none⟩) (s.n * 32) cap) := by rw [hd.cell]; rfl
  go_enter Tryd.func42, Tryd.ntmps42
  go_wp2
  go_ret
  refine ⟨ret_int ?_, rfl⟩
  first | omega | (simp; omega) | (push_cast; omega)

theorem RDisk.stopped {r B : Nat} {s : DiskS} {x y X Y : Int} {w : World} (h : RDisk w r B s) (hx : x ≤ 9223372036854775807) (hX : ((max 0 x).toNat : Int) = X) (hY : ((max 0 (min y 32)).toNat : Int) = Y) :
    RDisk (((w.setCell ⟨r, 2, none⟩ (.bool true)).setCell ⟨r, 3, none⟩ (.int .i64 X)).setCell ⟨r, 4, none⟩ (.int .i64 Y)) r B (s.stop x y) := by
  obtain ⟨cap, atv, arr, hd, a, b, hL, r1, r2, r3, r4, r5, hne, r6, r7, r8, r9⟩ := h
  subst hX hY
  exact ⟨cap, _, arr, ((hd.set 2 _).set 3 _).set 4 _, a, b, ((hL.set_other hne _).set_other hne _).set_other hne _, r1, r2, r3, r4, by show (max 0 (min y 32)).toNat ≤ 32; omega, hne, fun _ => rfl, by show -(s.writes : Int) ≤ _; omega, by omega, r9⟩
set_option maxRecDepth 100000 in
set_option maxHeartbeats 1000000 in
theorem rstop_calls (r B : Nat) (s : DiskS) (x y : Int) (w : World) (hD : RDisk w r B s) (hx : x ≤ 9223372036854775807) :
    Calls Tryd.prog 27 #[.pointer (some ⟨r, 0, none⟩), .int .i64 x, .int .i64 y] w fun e w' => e = .returned (.tuple #[]) ∧ RDisk w' r B (s.stop x y) ∧ Chg (fun b => b = r) w w' := by
  obtain ⟨cap, atv, arr, hd, _⟩ := id hD
  have c1 : w.cell? ⟨r, 2, none⟩ = some (.bool s.stops) := by rw [hd.cell]; rfl
  have c2 : w.cell? ⟨r, 3, none⟩ = some (.int .i64 atv) := by rw [hd.cell]; rfl
  have c3 : w.cell? ⟨r, 4, none⟩ = some (.int .i64 s.keep) := by rw [hd.cell]; rfl
  have f1 := hd.free 2
  have f2 := hd.free 3
  have f3 := hd.free 4
  go_enter Tryd.func27, Tryd.ntmps27
  go_wp2
  all_goals
    go_end0
    exact ⟨rfl, hD.stopped hx (by omega) (by omega), (((Chg.refl (fun b => b = r) _).set rfl _).set rfl _).set rfl _⟩

set_option maxRecDepth 100000 in
set_option maxHeartbeats 1000000 in
theorem rnew_bad (n : Int) (w : World) (h : n < 1 ∨ 4096 < n) : Calls Tryd.prog 25 #[.int .i64 n] w fun e w' => e = .returned (.tuple #[.pointer none, .bool false]) ∧ w = w' := by
  rcases h with h | h
  all_goals
    by_cases h1 : n < 1
    all_goals
      go_enter Tryd.func25, Tryd.ntmps25
      go_wp2
      go_ret2
      exact ⟨rfl, rfl⟩
set_option maxRecDepth 100000 in
set_option maxHeartbeats 1000000 in
theorem rnew_calls (n : Nat) (w : World) (h1 : 1 ≤ n) (h2 : n ≤ 4096) :
    Calls Tryd.prog 25 #[.int .i64 n] w fun e w' => ∃ r B, e = .returned (.tuple #[.pointer (some ⟨r, 0, none⟩), .bool true]) ∧ RDisk w' r B (.fresh n) ∧ w.heap.size ≤ r ∧ w.heap.size ≤ B ∧ Below w.heap.size w w' := by
  have hmk : ∀ w, (Instr.makeSlice 24 (.int .i64 ((n : Int) * 32)) (.int .i64 ((n : Int) * 32))).run Tryd.prog w = .ok (.slice (some ⟨w.heap.size, 0, none⟩) (n * 32) (n * 32)) (w.alloc (.cells (rowArr (n * 32) fun _ => 0) 5)) := fun w => by
    have := make_bytes (P := Tryd.prog) 24 5 Tryd.underlying24 E8k (n * 32) (by omega) w
    rw [rowArr_zero] at this
    simpa using this
  have t1 : decide ((n : Int) < 1) = false := by simp; omega
  have t2 : decide ((4096 : Int) < (n : Int)) = false := by simp; omega
  go_enter Tryd.func25, Tryd.ntmps25
  go_wp2
  go_ret2
  have hL : Blk (w.alloc (.cells (rowArr (n * 32) fun _ => 0) 5)) w.heap.size (rowArr (n * 32) fun _ => 0) 5 := Blk.new _ _ _
  exact ⟨_, _, rfl, ⟨n * 32, 0, rowArr (n * 32) fun _ => 0, Blk.new_at _ _ _ _ (by simp), Nat.le_refl _, by omega, hL.alloc _, by rw [rowArr_size]; exact Nat.le_refl _, fun j hj => rowArr_get _ _ _ hj, h1, h2, Nat.zero_le _, by omega, (fun h => by cases h), by show -((0 : Nat) : Int) ≤ 0; decide, by decide, Nat.zero_le _⟩, by omega, Nat.le_refl _,
    ((Below.refl _ _).alloc (Nat.le_refl _) _).alloc (by simp) _⟩

set_option maxRecDepth 100000 in
set_option maxHeartbeats 1000000 in
theorem rread_bad (r B : Nat) (s : DiskS) (i : Int) (w : World) (h : RDisk w r B s) (hi : i < 0 ∨ (s.n : Int) ≤ i) :
    Calls Tryd.prog 48 #[.pointer (some ⟨r, 0, none⟩), .int .i64 i] w fun e w' => e = .returned (.tuple #[.slice none 0 0, .int .i64 1]) ∧ w = w' := by
  by_cases h0 : i < 0
  · go_enter Tryd.func48, Tryd.ntmps48
    go_wp2
    go_ret2
    exact ⟨rfl, rfl⟩
  · go_enter Tryd.func48, Tryd.ntmps48
    go_wp2_with (go_at_call 42; refine (rlen_calls r B s _ h).mono ?_; rintro e w1 ⟨rfl, rfl⟩)
    go_ret2
    exact ⟨rfl, rfl⟩
set_option maxRecDepth 100000 in
set_option maxHeartbeats 1000000 in
theorem rread_dead (r B : Nat) (s : DiskS) (i : Nat) (w : World) (h : RDisk w r B s) (hi : i < s.n) (hdead : s.dead = true) :
    Calls Tryd.prog 48 #[.pointer (some ⟨r, 0, none⟩), .int .i64 i] w fun e w' => e = .returned (.tuple #[.slice none 0 0, .int .i64 8]) ∧ w = w' := by
  obtain ⟨cap, atv, arr, hd, _⟩ := id h
  have c1 : w.cell? ⟨r, 1, none⟩ = some (.bool true) := by rw [hd.cell, hdead]; rfl
  clear hdead
  go_enter Tryd.func48, Tryd.ntmps48
  go_wp2_with (go_at_call 42; refine (rlen_calls r B s _ h).mono ?_; rintro e w1 ⟨rfl, rfl⟩)
  go_ret2
  exact ⟨rfl, rfl⟩
set_option maxRecDepth 100000 in
set_option maxHeartbeats 1000000 in
theorem rread_calls (r B : Nat) (s : DiskS) (i : Nat) (w : World) (h : RDisk w r B s) (hi : i < s.n) (hdead : s.dead = false) :
    Calls Tryd.prog 48 #[.pointer (some ⟨r, 0, none⟩), .int .i64 i] w fun e w' => ∃ v, e = .returned (.tuple #[v, .int .i64 0]) ∧ OwnF 5 w' w.heap.size v (s.sector i) ∧ Below w.heap.size w w' := by
  obtain ⟨cap, atv, arr, hd, hc1, hc2, _, _, _, hn1, hn2, _⟩ := id h
  have c0 : w.cell? ⟨r, 0, none⟩ = some (.slice (some ⟨B, 0, none⟩) (s.n * 32) cap) := by rw [hd.cell]; rfl
  have c1 : w.cell? ⟨r, 1, none⟩ = some (.bool false) := by rw [hd.cell, hdead]; rfl
  have hsec : Bys w (.slice (some ⟨B, i * 32, none⟩) ((i + 1) * 32 - i * 32) (cap - i * 32)) (s.sector i) := by
    rw [show (i + 1) * 32 - i * 32 = 32 from by omega]
    exact h.sector i hi (cap - i * 32) (by omega) (maxLen_ge (by omega))
  have i1 : (0 : Int) ≤ (i : Int) * 32 := by omega
  have i2 : (i : Int) * 32 ≤ ((i : Int) + 1) * 32 := by omega
  have i3 : ((i : Int) + 1) * 32 ≤ (cap : Int) := by omega
  clear hdead
  go_enter Tryd.func48, Tryd.ntmps48
  go_wp2_with fail
  refine (rlen_calls r B s _ h).mono ?_
  rintro e w1 ⟨rfl, rfl⟩
  go_wp2_with (at_builtin; refine appF E8 rfl _ _ rfl (base := w.heap.size) (bs := []) (news := s.sector i) rfl rfl (OwnF.nil _ _ _) hsec ?q1 ?q2 ?_)
  case q1 => simp [DiskS.sector, rowL_len]
  case q2 => exact Nat.le_refl _
  intro v' w' hown hg
  go_wp2
  go_ret2
  exact ⟨_, rfl, hown, grown_none hg rfl⟩

theorem RDisk.die {r B : Nat} {s : DiskS} {w : World} (h : RDisk w r B s) : RDisk (w.setCell ⟨r, 1, none⟩ (.bool true)) r B { s with dead := true } := by
  obtain ⟨cap, atv, arr, hd, a, b, hL, r1, r2, r3, r4, r5, hne, r6⟩ := h
  exact ⟨cap, atv, arr, hd.set 1 (.bool true), a, b, hL.set_other hne _, r1, r2, r3, r4, r5, hne, r6⟩
theorem lay_succ (s : DiskS) (i : Nat) (bs : List UInt8) (m : Nat) : s.lay i bs (m + 1) = fun j => if j = i * 32 + m then bs.getD m 0 else s.lay i bs m j := by
  funext j
  unfold DiskS.lay
  by_cases e : j = i * 32 + m
  · subst e; rw [if_pos (by omega), if_pos rfl, show i * 32 + m - i * 32 = m from by omega]
  · rw [if_neg e]
    by_cases e2 : i * 32 ≤ j ∧ j < i * 32 + m
    · rw [if_pos e2, if_pos (by omega)]
    · rw [if_neg e2, if_neg (by omega)]
theorem lay_zero (s : DiskS) (i : Nat) (bs : List UInt8) : s.lay i bs 0 = s.f := by
  funext j; unfold DiskS.lay; rw [if_neg (by omega)]
set_option maxRecDepth 100000 in
set_option maxHeartbeats 1000000 in
theorem rwrite_bad (r B : Nat) (s : DiskS) (i : Int) (v : Value) (bs : List UInt8) (w : World) (h : RDisk w r B s) (hb : Bys w v bs) (hi : (i < 0 ∨ (s.n : Int) ≤ i) ∨ 32 < bs.length) :
    Calls Tryd.prog 26 #[.pointer (some ⟨r, 0, none⟩), .int .i64 i, v] w fun e w' => e = .returned (.int .i64 1) ∧ w = w' := by
  obtain ⟨a, c, rfl⟩ := hb.eq_slice
  obtain ⟨l, hl⟩ : ∃ l, l = bs.length := ⟨_, rfl⟩
  rw [← hl] at hi ⊢
  clear hl
  by_cases h0 : i < 0
  · go_enter Tryd.func26, Tryd.ntmps26
    go_wp2
    go_ret
    exact ⟨rfl, rfl⟩
  · by_cases hm : (s.n : Int) ≤ i
    · clear hi
      go_enter Tryd.func26, Tryd.ntmps26
      go_wp2_with fail
      refine (rlen_calls r B s _ h).mono ?_
      rintro e w1 ⟨rfl, rfl⟩
      go_wp2
      go_ret
      exact ⟨rfl, rfl⟩
    · have hl : 32 < l := by omega
      clear hi
      go_enter Tryd.func26, Tryd.ntmps26
      go_wp2_with fail
      refine (rlen_calls r B s _ h).mono ?_
      rintro e w1 ⟨rfl, rfl⟩
      go_wp2
      go_ret
      exact ⟨rfl, rfl⟩
set_option maxRecDepth 100000 in
set_option maxHeartbeats 1000000 in
theorem rwrite_dead (r B : Nat) (s : DiskS) (i : Nat) (v : Value) (bs : List UInt8) (w : World) (h : RDisk w r B s) (hb : Bys w v bs) (hi : i < s.n) (hl : bs.length ≤ 32) (hdead : s.dead = true) :
    Calls Tryd.prog 26 #[.pointer (some ⟨r, 0, none⟩), .int .i64 i, v] w fun e w' => e = .returned (.int .i64 8) ∧ w = w' := by
  obtain ⟨a, c, rfl⟩ := hb.eq_slice
  obtain ⟨l, hl'⟩ : ∃ l, l = bs.length := ⟨_, rfl⟩
  rw [← hl'] at hl ⊢
  clear hl'
  obtain ⟨cap, atv, arr, hd, _⟩ := id h
  have c1 : w.cell? ⟨r, 1, none⟩ = some (.bool true) := by rw [hd.cell, hdead]; rfl
  clear hdead
  go_enter Tryd.func26, Tryd.ntmps26
  go_wp2_with fail
  refine (rlen_calls r B s _ h).mono ?_
  rintro e w1 ⟨rfl, rfl⟩
  go_wp2
  go_ret
  exact ⟨rfl, rfl⟩
theorem RDisk.more {r B : Nat} {s : DiskS} {w : World} {cap : Nat} {atv : Int} (hd : Blk w r #[.slice (some ⟨B, 0, none⟩) (s.n * 32) cap, .bool s.dead, .bool s.stops, .int .i64 atv, .int .i64 s.keep, .int .i64 s.writes] 84) (h : RDisk w r B s) (hw : s.writes < 4611686018427387904) (hc : s.stops = true → 0 < s.cnt) :
    RDisk ((w.setCell ⟨r, 3, none⟩ (.int .i64 (atv - 1))).setCell ⟨r, 5, none⟩ (.int .i64 ((s.writes : Int) + 1))) r B { s with cnt := if s.stops then s.cnt - 1 else s.cnt, writes := s.writes + 1 } := by
  obtain ⟨cap', atv', arr', hd', a, b, hL, r1, r2, r3, r4, r5, hne, r6, r7, r8, r9⟩ := h
  have e := hd.symm.trans hd'
  injection e with e
  injection e with e1 e2
  simp at e1
  obtain ⟨rfl, rfl⟩ := e1
  refine ⟨cap, atv - 1, arr', ?_, a, b, (hL.set_other hne _).set_other hne _, r1, r2, r3, r4, r5, hne, fun hs => ?_, by show -((s.writes + 1 : Nat) : Int) ≤ _; omega, by omega, by show s.writes + 1 ≤ _; omega⟩
  · have := (hd.set 3 (.int .i64 (atv - 1))).set 5 (.int .i64 ((s.writes : Int) + 1))
    simpa using this
  · have hs : s.stops = true := hs
    have := r6 hs
    have := hc hs
    show atv - 1 = ((if s.stops = true then s.cnt - 1 else s.cnt : Nat) : Int)
    rw [if_pos hs]; omega

set_option maxRecDepth 20000 in
set_option maxHeartbeats 4000000 in
theorem rwrite_calls (r B : Nat) (s : DiskS) (i : Nat) (v : Value) (bs : List UInt8) (w : World) (h : RDisk w r B s) (hb : Bys w v bs) (hkeep : ∀ w', Chg (fun b => b = B) w w' → Bys w' v bs) (hi : i < s.n) (hl : bs.length ≤ 32) (hdead : s.dead = false) (hw : s.writes < 4611686018427387904) :
    Calls Tryd.prog 26 #[.pointer (some ⟨r, 0, none⟩), .int .i64 i, v] w fun e w' => e = .returned (.int .i64 (if s.stops = true ∧ s.cnt = 0 then 8 else 0)) ∧ RDisk w' r B (s.write i bs) ∧ Chg (fun b => b = r ∨ b = B) w w' := by
  obtain ⟨a, c, rfl⟩ := hb.eq_slice
  obtain ⟨cap, atv, arr, hd, hc1, hc2, hB, _, _, hn1, hn2, hk, hne, hat, hlo, hhi, _⟩ := id h
  obtain ⟨l, hl'⟩ : ∃ l, l = bs.length := ⟨_, rfl⟩
  rw [← hl'] at hl hb hkeep ⊢
  have Hl := Lib.hid hl'; have Hkeep := Lib.hid hkeep; have Hat := Lib.hid hat
  clear hl' hkeep hat
  have c1 : w.cell? ⟨r, 1, none⟩ = some (.bool false) := by rw [hd.cell, hdead]; rfl
  have c2 : w.cell? ⟨r, 2, none⟩ = some (.bool s.stops) := by rw [hd.cell]; rfl
  have c3 : w.cell? ⟨r, 3, none⟩ = some (.int .i64 atv) := by rw [hd.cell]; rfl
  have c4 : w.cell? ⟨r, 4, none⟩ = some (.int .i64 (s.keep : Int)) := by rw [hd.cell]; rfl
  have Hdead := Lib.hid hdead
  clear hdead
  have hcase : (s.stops = true ∧ s.cnt = 0 ∧ atv = 0) ∨ (s.stops = true ∧ 0 < s.cnt ∧ (atv == 0) = false) ∨ s.stops = false := by
    by_cases h1 : s.stops = true
    · have := Hat.out h1
      by_cases h2 : s.cnt = 0
      · exact .inl ⟨h1, h2, by omega⟩
      · exact .inr (.inl ⟨h1, by omega, by simp; omega⟩)
    · exact .inr (.inr (by simpa using h1))
  rcases hcase with ⟨hs, hcn, rfl⟩ | ⟨hs, hcn, hz⟩ | hs
  · rw [hs] at c2
    have Hr := Lib.hid (show s.write i bs = { s with f := s.lay i bs s.keep, dead := true } from by unfold DiskS.write; rw [if_pos ⟨hs, hcn⟩])
    rw [if_pos ⟨hs, hcn⟩]
    have Hs := Lib.hid hs
    obtain ⟨m, hm⟩ : ∃ m, m = s.keep := ⟨_, rfl⟩
    rw [← hm] at c4 hk
    have Hm := Lib.hid hm
    clear hs hcn hm
    go_enter Tryd.func26, Tryd.ntmps26
    go_wp2_with fail
    refine (rlen_calls r B s _ h).mono ?_
    rintro e w1 ⟨rfl, rfl⟩
    go_wp2_with fail
    go_loopw [8] (fun v wr => ∃ k : Nat, k ≤ m ∧ v = .int .i64 k ∧ RDisk wr r B { s with f := s.lay i bs k } ∧ Chg (fun b => b = B) w wr) (fun v _ => m - (intOf v).toNat)
    case atStart => exact ⟨0, by omega, rfl, by rw [lay_zero]; exact h, Chg.refl _ _⟩
    case round =>
      obtain ⟨k, hk', rfl, hR, hch⟩ := hrel
      have hdr := hch.blk hd (fun e => hne e)
      have d0 : wr.cell? ⟨r, 0, none⟩ = some (.slice (some ⟨B, 0, none⟩) (s.n * 32) cap) := by rw [hdr.cell]; rfl
      by_cases h0 : k < m
      · have hx : i * 32 + k < s.n * 32 := by omega
        obtain ⟨cap2, atv2, arr2, _, _, _, hB2, _, hf2, _⟩ := id hR
        have c5 : wr.cell? ⟨B, i * 32 + k, none⟩ = some (.int .u8 ((s.lay i bs k (i * 32 + k)).toNat : Int)) := by rw [hB2.cell]; exact hf2 _ hx
        have f5 := hB2.free (i * 32 + k)
        have hR1 := hR.set (i * 32 + k) 0
        have i1 : (0 : Int) ≤ (i : Int) * 32 + (k : Int) := by omega
        have i2 : (i : Int) * 32 + (k : Int) < (s.n : Int) * 32 := by omega
        obtain ⟨ws, hws⟩ : ∃ ws, ws = wr.setCell ⟨B, i * 32 + k, none⟩ (.int .u8 0) := ⟨_, rfl⟩
        have hchs : Chg (fun b => b = B) w ws := by rw [hws]; exact hch.set rfl _
        have hR1 : RDisk ws r B { s with f := fun j => if j = i * 32 + k then 0 else s.lay i bs k j } := by rw [hws]; exact hR1
        have hdr2 := hchs.blk hd (fun e => hne e)
        by_cases hkl : k < l
        · obtain ⟨bx, ox, u, rfl, hu, c6, _⟩ := (Hkeep.out ws hchs).at k (by have := Hl.out; omega)
          have d0' : ws.cell? ⟨r, 0, none⟩ = some (.slice (some ⟨B, 0, none⟩) (s.n * 32) cap) := by rw [hdr2.cell]; rfl
          obtain ⟨cap3, atv3, arr3, _, _, _, hB3, _, hf3, _⟩ := id hR1
          have c5' : ws.cell? ⟨B, i * 32 + k, none⟩ = some (.int .u8 0) := by rw [hB3.cell, hf3 _ hx]; simp
          have f5' := hB3.free (i * 32 + k)
          have i3 : (0 : Int) ≤ (k : Int) := by omega
          have i4 : (k : Int) < (l : Int) := by omega
          have Hfin := Lib.hid (show RDisk (ws.setCell ⟨B, i * 32 + k, none⟩ (.int .u8 (u.toNat : Int))) r B { s with f := s.lay i bs (k + 1) } from by
            have h3 := hR1.set (i * 32 + k) u
            have e : s.lay i bs (k + 1) = fun j => if j = i * 32 + k then u else (if j = i * 32 + k then 0 else s.lay i bs k j) := by
              rw [lay_succ]; funext j
              by_cases e : j = i * 32 + k
              · rw [if_pos e, if_pos e, List.getD_eq_getElem?_getD, hu.out]; rfl
              · rw [if_neg e, if_neg e, if_neg e]
            rw [e]; exact h3)
          have hset := Chg.drew (hchs.set (a := ⟨B, i * 32 + k, none⟩) rfl (.int .u8 (u.toNat : Int)))
          have e1 : (ws.setCell ⟨B, i * 32 + k, none⟩ (.int .u8 (u.toNat : Int))).drew.cell? ⟨r, 0, none⟩ = some (.slice (some ⟨B, 0, none⟩) (s.n * 32) cap) := by rw [(hset.blk hd (fun e => hne e)).cell]; rfl
          have e2 : (ws.setCell ⟨B, i * 32 + k, none⟩ (.int .u8 (u.toNat : Int))).drew.cell? ⟨bx, ox + k, none⟩ = some (.int .u8 (u.toNat : Int)) := by
            obtain ⟨b', o', u', e, hu', c', _⟩ := (Hkeep.out _ hset).at k (by have := Hl.out; omega)
            cases e
            have := hu.out.symm.trans hu'.out
            cases this
            exact c'
          have Hset := Lib.hid hset
          have Hws := Lib.hid hws
          have E12 := Lib.hid (And.intro e1 e2)
          clear hws hB2 hf2 hB3 hf3 hR1 hR hB hset e1 e2
          go_upto_region 13 with fail
          rw [← Hws.out]
          clear c5 f5 d0
          have q1 : IntKind.i64.wrap ((i : Int) * 32) = (i : Int) * 32 := IntWalk.i64_in _ (by omega)
          have q2 : IntKind.i64.wrap ((i : Int) * 32 + (k : Int)) = (i : Int) * 32 + (k : Int) := IntWalk.i64_in _ (by omega)
          have q3 : ((i : Int) * 32 + (k : Int)).toNat = i * 32 + k := by omega
          go_region_held3 (fun w' => w'.cell? ⟨r, 0, none⟩ = some (.slice (some ⟨B, 0, none⟩) (s.n * 32) cap) ∧ w'.cell? ⟨bx, ox + k, none⟩ = some (.int .u8 (u.toNat : Int))) (first | exact ⟨d0', c6⟩ | exact E12.out) (fail)
          clear q1 q2 q3
          go_wp2
          exact ⟨⟨k + 1, by omega, by go_num, Hfin.out, Hset.out⟩, by simp [intOf]; omega⟩
        · have Hfin := Lib.hid (show RDisk ws r B { s with f := s.lay i bs (k + 1) } from by
            have e : s.lay i bs (k + 1) = fun j => if j = i * 32 + k then 0 else s.lay i bs k j := by
              rw [lay_succ]; funext j
              by_cases e : j = i * 32 + k
              · rw [if_pos e, if_pos e, List.getD_eq_getElem?_getD, List.getElem?_eq_none (by have := Hl.out; omega)]; rfl
              · rw [if_neg e, if_neg e]
            rw [e]; exact hR1)
          have Hws := Lib.hid hws
          clear hws hB2 hf2 hR1 hR hB
          go_wp2
          exact ⟨⟨k + 1, by omega, by go_num, by rw [← Hws.out]; exact Hfin.out, by rw [← Hws.out]; exact hchs⟩, by simp [intOf]; omega⟩
      · obtain rfl : m = k := by omega
        have d1 : wr.cell? ⟨r, 1, none⟩ = some (.bool false) := by rw [hdr.cell, Hdead.out]; rfl
        have d2 : wr.cell? ⟨r, 2, none⟩ = some (.bool true) := by rw [hdr.cell, Hs.out]; rfl
        have d3 : wr.cell? ⟨r, 3, none⟩ = some (.int .i64 0) := by rw [hdr.cell]; rfl
        have f1 := hdr.free 1
        go_wp2
        go_ret
        exact ⟨rfl, by rw [Hr.out, show s.lay i bs s.keep = s.lay i bs m from by rw [Hm.out]]; exact hR.die, (hch.mono fun _ h => .inr h).set (.inl rfl) _⟩
  · rw [hs] at c2
    have Hr := Lib.hid (show s.write i bs = { s with f := s.lay i bs 32, cnt := if s.stops then s.cnt - 1 else s.cnt, writes := s.writes + 1 } from by unfold DiskS.write; rw [if_neg (by omega)])
    rw [if_neg (by omega)]
    have Hs := Lib.hid hs; have Hcn := Lib.hid hcn
    clear hs hcn
    go_enter Tryd.func26, Tryd.ntmps26
    go_wp2_with fail
    refine (rlen_calls r B s _ h).mono ?_
    rintro e w1 ⟨rfl, rfl⟩
    go_wp2_with fail
    go_loopw [8] (fun v wr => ∃ k : Nat, k ≤ 32 ∧ v = .int .i64 k ∧ RDisk wr r B { s with f := s.lay i bs k } ∧ Chg (fun b => b = B) w wr) (fun v _ => 32 - (intOf v).toNat)
    case atStart => exact ⟨0, by omega, rfl, by rw [lay_zero]; exact h, Chg.refl _ _⟩
    case round =>
      obtain ⟨k, hk', rfl, hR, hch⟩ := hrel
      have hdr := hch.blk hd (fun e => hne e)
      have d0 : wr.cell? ⟨r, 0, none⟩ = some (.slice (some ⟨B, 0, none⟩) (s.n * 32) cap) := by rw [hdr.cell]; rfl
      by_cases h0 : k < 32
      · have hx : i * 32 + k < s.n * 32 := by omega
        obtain ⟨cap2, atv2, arr2, _, _, _, hB2, _, hf2, _⟩ := id hR
        have c5 : wr.cell? ⟨B, i * 32 + k, none⟩ = some (.int .u8 ((s.lay i bs k (i * 32 + k)).toNat : Int)) := by rw [hB2.cell]; exact hf2 _ hx
        have f5 := hB2.free (i * 32 + k)
        have hR1 := hR.set (i * 32 + k) 0
        have i1 : (0 : Int) ≤ (i : Int) * 32 + (k : Int) := by omega
        have i2 : (i : Int) * 32 + (k : Int) < (s.n : Int) * 32 := by omega
        obtain ⟨ws, hws⟩ : ∃ ws, ws = wr.setCell ⟨B, i * 32 + k, none⟩ (.int .u8 0) := ⟨_, rfl⟩
        have hchs : Chg (fun b => b = B) w ws := by rw [hws]; exact hch.set rfl _
        have hR1 : RDisk ws r B { s with f := fun j => if j = i * 32 + k then 0 else s.lay i bs k j } := by rw [hws]; exact hR1
        have hdr2 := hchs.blk hd (fun e => hne e)
        by_cases hkl : k < l
        · obtain ⟨bx, ox, u, rfl, hu, c6, _⟩ := (Hkeep.out ws hchs).at k (by have := Hl.out; omega)
          have d0' : ws.cell? ⟨r, 0, none⟩ = some (.slice (some ⟨B, 0, none⟩) (s.n * 32) cap) := by rw [hdr2.cell]; rfl
          obtain ⟨cap3, atv3, arr3, _, _, _, hB3, _, hf3, _⟩ := id hR1
          have c5' : ws.cell? ⟨B, i * 32 + k, none⟩ = some (.int .u8 0) := by rw [hB3.cell, hf3 _ hx]; simp
          have f5' := hB3.free (i * 32 + k)
          have i3 : (0 : Int) ≤ (k : Int) := by omega
          have i4 : (k : Int) < (l : Int) := by omega
          have Hfin := Lib.hid (show RDisk (ws.setCell ⟨B, i * 32 + k, none⟩ (.int .u8 (u.toNat : Int))) r B { s with f := s.lay i bs (k + 1) } from by
            have h3 := hR1.set (i * 32 + k) u
            have e : s.lay i bs (k + 1) = fun j => if j = i * 32 + k then u else (if j = i * 32 + k then 0 else s.lay i bs k j) := by
              rw [lay_succ]; funext j
              by_cases e : j = i * 32 + k
              · rw [if_pos e, if_pos e, List.getD_eq_getElem?_getD, hu.out]; rfl
              · rw [if_neg e, if_neg e, if_neg e]
            rw [e]; exact h3)
          have hset := Chg.drew (hchs.set (a := ⟨B, i * 32 + k, none⟩) rfl (.int .u8 (u.toNat : Int)))
          have e1 : (ws.setCell ⟨B, i * 32 + k, none⟩ (.int .u8 (u.toNat : Int))).drew.cell? ⟨r, 0, none⟩ = some (.slice (some ⟨B, 0, none⟩) (s.n * 32) cap) := by rw [(hset.blk hd (fun e => hne e)).cell]; rfl
          have e2 : (ws.setCell ⟨B, i * 32 + k, none⟩ (.int .u8 (u.toNat : Int))).drew.cell? ⟨bx, ox + k, none⟩ = some (.int .u8 (u.toNat : Int)) := by
            obtain ⟨b', o', u', e, hu', c', _⟩ := (Hkeep.out _ hset).at k (by have := Hl.out; omega)
            cases e
            have := hu.out.symm.trans hu'.out
            cases this
            exact c'
          have Hset := Lib.hid hset
          have Hws := Lib.hid hws
          have E12 := Lib.hid (And.intro e1 e2)
          clear hws hB2 hf2 hB3 hf3 hR1 hR hB hset e1 e2
          go_upto_region 13 with fail
          rw [← Hws.out]
          clear c5 f5 d0
          have q1 : IntKind.i64.wrap ((i : Int) * 32) = (i : Int) * 32 := IntWalk.i64_in _ (by omega)
          have q2 : IntKind.i64.wrap ((i : Int) * 32 + (k : Int)) = (i : Int) * 32 + (k : Int) := IntWalk.i64_in _ (by omega)
          have q3 : ((i : Int) * 32 + (k : Int)).toNat = i * 32 + k := by omega
          go_region_held3 (fun w' => w'.cell? ⟨r, 0, none⟩ = some (.slice (some ⟨B, 0, none⟩) (s.n * 32) cap) ∧ w'.cell? ⟨bx, ox + k, none⟩ = some (.int .u8 (u.toNat : Int))) (first | exact ⟨d0', c6⟩ | exact E12.out) (fail)
          clear q1 q2 q3
          go_wp2
          exact ⟨⟨k + 1, by omega, by go_num, Hfin.out, Hset.out⟩, by simp [intOf]; omega⟩
        · have Hfin := Lib.hid (show RDisk ws r B { s with f := s.lay i bs (k + 1) } from by
            have e : s.lay i bs (k + 1) = fun j => if j = i * 32 + k then 0 else s.lay i bs k j := by
              rw [lay_succ]; funext j
              by_cases e : j = i * 32 + k
              · rw [if_pos e, if_pos e, List.getD_eq_getElem?_getD, List.getElem?_eq_none (by have := Hl.out; omega)]; rfl
              · rw [if_neg e, if_neg e]
            rw [e]; exact hR1)
          have Hws := Lib.hid hws
          clear hws hB2 hf2 hR1 hR hB
          go_wp2
          exact ⟨⟨k + 1, by omega, by go_num, by rw [← Hws.out]; exact Hfin.out, by rw [← Hws.out]; exact hchs⟩, by simp [intOf]; omega⟩
      · obtain rfl : k = 32 := by omega
        have d1 : wr.cell? ⟨r, 1, none⟩ = some (.bool false) := by rw [hdr.cell, Hdead.out]; rfl
        have d2 : wr.cell? ⟨r, 2, none⟩ = some (.bool true) := by rw [hdr.cell, Hs.out]; rfl
        have d3 : wr.cell? ⟨r, 3, none⟩ = some (.int .i64 atv) := by rw [hdr.cell]; rfl
        have d5 : wr.cell? ⟨r, 5, none⟩ = some (.int .i64 (s.writes : Int)) := by rw [hdr.cell]; rfl
        have f3 := hdr.free 3
        have f5 := hdr.free 5
        go_wp2
        go_ret
        exact ⟨rfl, by rw [Hr.out]; exact RDisk.more (s := { s with f := s.lay i bs 32 }) hdr hR hw (fun _ => Hcn.out), ((hch.mono fun _ h => .inr h).set (.inl rfl) _).set (.inl rfl) _⟩
  · rw [hs] at c2
    have Hr := Lib.hid (show s.write i bs = { s with f := s.lay i bs 32, cnt := if s.stops then s.cnt - 1 else s.cnt, writes := s.writes + 1 } from by unfold DiskS.write; rw [if_neg (by rw [hs]; simp)])
    rw [if_neg (by rw [hs]; simp)]
    have Hs := Lib.hid hs
    clear hs
    go_enter Tryd.func26, Tryd.ntmps26
    go_wp2_with fail
    refine (rlen_calls r B s _ h).mono ?_
    rintro e w1 ⟨rfl, rfl⟩
    go_wp2_with fail
    go_loopw [8] (fun v wr => ∃ k : Nat, k ≤ 32 ∧ v = .int .i64 k ∧ RDisk wr r B { s with f := s.lay i bs k } ∧ Chg (fun b => b = B) w wr) (fun v _ => 32 - (intOf v).toNat)
    case atStart => exact ⟨0, by omega, rfl, by rw [lay_zero]; exact h, Chg.refl _ _⟩
    case round =>
      obtain ⟨k, hk', rfl, hR, hch⟩ := hrel
      have hdr := hch.blk hd (fun e => hne e)
      have d0 : wr.cell? ⟨r, 0, none⟩ = some (.slice (some ⟨B, 0, none⟩) (s.n * 32) cap) := by rw [hdr.cell]; rfl
      by_cases h0 : k < 32
      · have hx : i * 32 + k < s.n * 32 := by omega
        obtain ⟨cap2, atv2, arr2, _, _, _, hB2, _, hf2, _⟩ := id hR
        have c5 : wr.cell? ⟨B, i * 32 + k, none⟩ = some (.int .u8 ((s.lay i bs k (i * 32 + k)).toNat : Int)) := by rw [hB2.cell]; exact hf2 _ hx
        have f5 := hB2.free (i * 32 + k)
        have hR1 := hR.set (i * 32 + k) 0
        have i1 : (0 : Int) ≤ (i : Int) * 32 + (k : Int) := by omega
        have i2 : (i : Int) * 32 + (k : Int) < (s.n : Int) * 32 := by omega
        obtain ⟨ws, hws⟩ : ∃ ws, ws = wr.setCell ⟨B, i * 32 + k, none⟩ (.int .u8 0) := ⟨_, rfl⟩
        have hchs : Chg (fun b => b = B) w ws := by rw [hws]; exact hch.set rfl _
        have hR1 : RDisk ws r B { s with f := fun j => if j = i * 32 + k then 0 else s.lay i bs k j } := by rw [hws]; exact hR1
        have hdr2 := hchs.blk hd (fun e => hne e)
        by_cases hkl : k < l
        · obtain ⟨bx, ox, u, rfl, hu, c6, _⟩ := (Hkeep.out ws hchs).at k (by have := Hl.out; omega)
          have d0' : ws.cell? ⟨r, 0, none⟩ = some (.slice (some ⟨B, 0, none⟩) (s.n * 32) cap) := by rw [hdr2.cell]; rfl
          obtain ⟨cap3, atv3, arr3, _, _, _, hB3, _, hf3, _⟩ := id hR1
          have c5' : ws.cell? ⟨B, i * 32 + k, none⟩ = some (.int .u8 0) := by rw [hB3.cell, hf3 _ hx]; simp
          have f5' := hB3.free (i * 32 + k)
          have i3 : (0 : Int) ≤ (k : Int) := by omega
          have i4 : (k : Int) < (l : Int) := by omega
          have Hfin := Lib.hid (show RDisk (ws.setCell ⟨B, i * 32 + k, none⟩ (.int .u8 (u.toNat : Int))) r B { s with f := s.lay i bs (k + 1) } from by
            have h3 := hR1.set (i * 32 + k) u
            have e : s.lay i bs (k + 1) = fun j => if j = i * 32 + k then u else (if j = i * 32 + k then 0 else s.lay i bs k j) := by
              rw [lay_succ]; funext j
              by_cases e : j = i * 32 + k
              · rw [if_pos e, if_pos e, List.getD_eq_getElem?_getD, hu.out]; rfl
              · rw [if_neg e, if_neg e, if_neg e]
            rw [e]; exact h3)
          have hset := Chg.drew (hchs.set (a := ⟨B, i * 32 + k, none⟩) rfl (.int .u8 (u.toNat : Int)))
          have e1 : (ws.setCell ⟨B, i * 32 + k, none⟩ (.int .u8 (u.toNat : Int))).drew.cell? ⟨r, 0, none⟩ = some (.slice (some ⟨B, 0, none⟩) (s.n * 32) cap) := by rw [(hset.blk hd (fun e => hne e)).cell]; rfl
          have e2 : (ws.setCell ⟨B, i * 32 + k, none⟩ (.int .u8 (u.toNat : Int))).drew.cell? ⟨bx, ox + k, none⟩ = some (.int .u8 (u.toNat : Int)) := by
            obtain ⟨b', o', u', e, hu', c', _⟩ := (Hkeep.out _ hset).at k (by have := Hl.out; omega)
            cases e
            have := hu.out.symm.trans hu'.out
            cases this
            exact c'
          have Hset := Lib.hid hset
          have Hws := Lib.hid hws
          have E12 := Lib.hid (And.intro e1 e2)
          clear hws hB2 hf2 hB3 hf3 hR1 hR hB hset e1 e2
          go_upto_region 13 with fail
          rw [← Hws.out]
          clear c5 f5 d0
          have q1 : IntKind.i64.wrap ((i : Int) * 32) = (i : Int) * 32 := IntWalk.i64_in _ (by omega)
          have q2 : IntKind.i64.wrap ((i : Int) * 32 + (k : Int)) = (i : Int) * 32 + (k : Int) := IntWalk.i64_in _ (by omega)
          have q3 : ((i : Int) * 32 + (k : Int)).toNat = i * 32 + k := by omega
          go_region_held3 (fun w' => w'.cell? ⟨r, 0, none⟩ = some (.slice (some ⟨B, 0, none⟩) (s.n * 32) cap) ∧ w'.cell? ⟨bx, ox + k, none⟩ = some (.int .u8 (u.toNat : Int))) (first | exact ⟨d0', c6⟩ | exact E12.out) (fail)
          clear q1 q2 q3
          go_wp2
          exact ⟨⟨k + 1, by omega, by go_num, Hfin.out, Hset.out⟩, by simp [intOf]; omega⟩
        · have Hfin := Lib.hid (show RDisk ws r B { s with f := s.lay i bs (k + 1) } from by
            have e : s.lay i bs (k + 1) = fun j => if j = i * 32 + k then 0 else s.lay i bs k j := by
              rw [lay_succ]; funext j
              by_cases e : j = i * 32 + k
              · rw [if_pos e, if_pos e, List.getD_eq_getElem?_getD, List.getElem?_eq_none (by have := Hl.out; omega)]; rfl
              · rw [if_neg e, if_neg e]
            rw [e]; exact hR1)
          have Hws := Lib.hid hws
          clear hws hB2 hf2 hR1 hR hB
          go_wp2
          exact ⟨⟨k + 1, by omega, by go_num, by rw [← Hws.out]; exact Hfin.out, by rw [← Hws.out]; exact hchs⟩, by simp [intOf]; omega⟩
      · obtain rfl : k = 32 := by omega
        have d1 : wr.cell? ⟨r, 1, none⟩ = some (.bool false) := by rw [hdr.cell, Hdead.out]; rfl
        have d2 : wr.cell? ⟨r, 2, none⟩ = some (.bool false) := by rw [hdr.cell, Hs.out]; rfl
        have d3 : wr.cell? ⟨r, 3, none⟩ = some (.int .i64 atv) := by rw [hdr.cell]; rfl
        have d5 : wr.cell? ⟨r, 5, none⟩ = some (.int .i64 (s.writes : Int)) := by rw [hdr.cell]; rfl
        have f3 := hdr.free 3
        have f5 := hdr.free 5
        go_wp2
        go_ret
        exact ⟨rfl, by rw [Hr.out]; exact RDisk.more (s := { s with f := s.lay i bs 32 }) hdr hR hw (fun h => by rw [Hs.out] at h; cases h), ((hch.mono fun _ h => .inr h).set (.inl rfl) _).set (.inl rfl) _⟩
end Go.Proofs.YtmeegdicnfgjfaaDoor
