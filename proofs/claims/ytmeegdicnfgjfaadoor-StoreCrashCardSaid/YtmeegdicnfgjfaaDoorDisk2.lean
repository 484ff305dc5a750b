/- Walks of the disk: sectors read and written. -/
import Derived.Test.YtmeegdicnfgjfaaDoorDisk
import Derived.Test.YtmeegdicnfgjfaaDoorCopySet
import Derived.Test.YtmeegdicnfgjfaaDoorOwnF
namespace Go.Proofs.YtmeegdicnfgjfaaDoor
open Go Go.RowKit Go.Mem Gf
attribute [local go_sem ↓] Go.wp_at_zero Go.wp_at_succ
theorem E8 : Elem Tryd.prog 24 5 (.int .u8 0) 1 := ⟨Tryd.underlying24, by kernel_rfl, rfl⟩
theorem DiskS.may_yes {s : DiskS} {i : Nat} (h : i < s.n) : s.may (i : Int) = true := by simp [DiskS.may, h]
theorem DiskS.may_no {s : DiskS} {i : Int} (h : i < 0 ∨ (s.n : Int) ≤ i) : s.may i = false := by simp [DiskS.may]; omega

set_option maxRecDepth 100000 in
set_option maxHeartbeats 1000000 in
theorem dread_bad (d L : Nat) (s : DiskS) (i : Int) (w : World) (h : IsDisk w d L s) (hi : i < 0 ∨ (s.n : Int) ≤ i) :
    Calls Tryd.prog 47 #[.pointer (some ⟨d, 0, none⟩), .int .i64 i] w fun e w' => e = .returned (.tuple #[.slice none 0 0, .int .i64 1]) ∧ w = w' := by
  go_enter Tryd.func47, Tryd.ntmps47
  go_wp2_with fail
  refine (may_calls d L s i w h false (DiskS.may_no hi)).mono ?_
  rintro e w1 ⟨rfl, rfl⟩
  go_wp2
  go_ret2
  exact ⟨rfl, rfl⟩
set_option maxRecDepth 100000 in
set_option maxHeartbeats 1000000 in
theorem dread_dead (d L : Nat) (s : DiskS) (i : Nat) (w : World) (h : IsDisk w d L s) (hi : i < s.n) (hdead : s.dead = true) :
    Calls Tryd.prog 47 #[.pointer (some ⟨d, 0, none⟩), .int .i64 i] w fun e w' => e = .returned (.tuple #[.slice none 0 0, .int .i64 8]) ∧ w = w' := by
  obtain ⟨cap, arr, hd, _⟩ := id h
  have c1 : w.cell? ⟨d, 1, none⟩ = some (.bool true) := by rw [hd.cell, hdead]; rfl
  clear hdead
  go_enter Tryd.func47, Tryd.ntmps47
  go_wp2_with fail
  refine (may_calls d L s i w h true (DiskS.may_yes hi)).mono ?_
  rintro e w1 ⟨rfl, rfl⟩
  go_wp2
  go_ret2
  exact ⟨rfl, rfl⟩
theorem IsDisk.sector {w : World} {d L : Nat} {s : DiskS} (h : IsDisk w d L s) (i : Nat) (hi : i < s.n) : Bys w (.slice (some ⟨L, i * 32, none⟩) 32 32) (s.sector i) := by
  obtain ⟨cap, arr, hd, a, b, hL, r1, r2, r3, r4, r5, hne, r6, r7⟩ := h
  exact hL.mid_bys (Nat.le_refl _) (maxLen_ge (by decide)) fun k hk => r2 _ (by omega)
set_option maxRecDepth 100000 in
set_option maxHeartbeats 1000000 in
theorem dread_calls (d L : Nat) (s : DiskS) (i : Nat) (w : World) (h : IsDisk w d L s) (hi : i < s.n) (hdead : s.dead = false) :
    Calls Tryd.prog 47 #[.pointer (some ⟨d, 0, none⟩), .int .i64 i] w fun e w' => ∃ v, e = .returned (.tuple #[v, .int .i64 0]) ∧ OwnF 5 w' w.heap.size v (s.sector i) ∧ Below w.heap.size w w' := by
  obtain ⟨cap, arr, hd, _, hcap, _⟩ := id h
  have c0 : w.cell? ⟨d, 0, none⟩ = some (.slice (some ⟨L, 0, none⟩) s.n cap) := by rw [hd.cell]; rfl
  have c1 : w.cell? ⟨d, 1, none⟩ = some (.bool false) := by rw [hd.cell, hdead]; rfl
  have hsec := h.sector i hi
  have i1 : (0 : Int) ≤ (i : Int) := by omega
  have i2 : (i : Int) < (s.n : Int) := by omega
  clear hdead
  go_enter Tryd.func47, Tryd.ntmps47
  go_wp2_with fail
  refine (may_calls d L s i w h true (DiskS.may_yes hi)).mono ?_
  rintro e w1 ⟨rfl, rfl⟩
  go_wp2_with (at_builtin; refine appF E8 rfl _ _ rfl (base := w.heap.size) (bs := []) (news := s.sector i) rfl rfl (OwnF.nil _ _ _) hsec ?q1 ?q2 ?_)
  case q1 => simp [DiskS.sector, rowL_len]
  case q2 => exact Nat.le_refl _
  intro v' w' hown hg
  go_wp2
  go_ret2
  exact ⟨_, rfl, hown, grown_none hg rfl⟩

set_option maxRecDepth 100000 in
set_option maxHeartbeats 1000000 in
theorem dwrite_bad (d L : Nat) (s : DiskS) (i : Int) (v : Value) (bs : List UInt8) (w : World) (h : IsDisk w d L s) (hb : Bys w v bs) (hi : (i < 0 ∨ (s.n : Int) ≤ i) ∨ 32 < bs.length) :
    Calls Tryd.prog 24 #[.pointer (some ⟨d, 0, none⟩), .int .i64 i, v] w fun e w' => e = .returned (.int .i64 1) ∧ w = w' := by
  obtain ⟨a, c, rfl⟩ := hb.eq_slice
  obtain ⟨l, hl⟩ : ∃ l, l = bs.length := ⟨_, rfl⟩
  rw [← hl] at hi ⊢
  clear hl
  by_cases hm : i < 0 ∨ (s.n : Int) ≤ i
  · clear hi
    go_enter Tryd.func24, Tryd.ntmps24
    go_wp2_with fail
    refine (may_calls d L s i w h false (DiskS.may_no hm)).mono ?_
    rintro e w1 ⟨rfl, rfl⟩
    go_wp2
    go_ret
    exact ⟨rfl, rfl⟩
  · have hl : 32 < l := by omega
    obtain ⟨i, rfl⟩ : ∃ j : Nat, i = j := ⟨i.toNat, by omega⟩
    clear hi
    go_enter Tryd.func24, Tryd.ntmps24
    go_wp2_with fail
    refine (may_calls d L s i w h true (DiskS.may_yes (by omega))).mono ?_
    rintro e w1 ⟨rfl, rfl⟩
    go_wp2
    go_ret
    exact ⟨rfl, rfl⟩
set_option maxRecDepth 100000 in
set_option maxHeartbeats 1000000 in
theorem dwrite_dead (d L : Nat) (s : DiskS) (i : Nat) (v : Value) (bs : List UInt8) (w : World) (h : IsDisk w d L s) (hb : Bys w v bs) (hi : i < s.n) (hl : bs.length ≤ 32) (hdead : s.dead = true) :
    Calls Tryd.prog 24 #[.pointer (some ⟨d, 0, none⟩), .int .i64 i, v] w fun e w' => e = .returned (.int .i64 8) ∧ w = w' := by
  obtain ⟨a, c, rfl⟩ := hb.eq_slice
  obtain ⟨l, hl'⟩ : ∃ l, l = bs.length := ⟨_, rfl⟩
  rw [← hl'] at hl ⊢
  clear hl'
  obtain ⟨cap, arr, hd, _⟩ := id h
  have c1 : w.cell? ⟨d, 1, none⟩ = some (.bool true) := by rw [hd.cell, hdead]; rfl
  clear hdead
  go_enter Tryd.func24, Tryd.ntmps24
  go_wp2_with fail
  refine (may_calls d L s i w h true (DiskS.may_yes hi)).mono ?_
  rintro e w1 ⟨rfl, rfl⟩
  go_wp2
  go_ret
  exact ⟨rfl, rfl⟩

/-- the bytes of a sector that is written -/
def padF (bs : List UInt8) : Nat → UInt8 := fun k => if k < bs.length then bs.getD k 0 else 0
theorem padF_eq (bs : List UInt8) (k : Nat) : padF bs k = bs.getD k 0 := by
  unfold padF
  split
  · rfl
  · rw [List.getD_eq_getElem?_getD, List.getElem?_eq_none (by omega)]; rfl
theorem to_new (w : World) : Blk (w.alloc (.cells #[.int .u8 0, .int .u8 0, .int .u8 0, .int .u8 0, .int .u8 0, .int .u8 0, .int .u8 0, .int .u8 0, .int .u8 0, .int .u8 0, .int .u8 0, .int .u8 0, .int .u8 0, .int .u8 0, .int .u8 0, .int .u8 0, .int .u8 0, .int .u8 0, .int .u8 0, .int .u8 0, .int .u8 0, .int .u8 0, .int .u8 0, .int .u8 0, .int .u8 0, .int .u8 0, .int .u8 0, .int .u8 0, .int .u8 0, .int .u8 0, .int .u8 0, .int .u8 0] 82)) w.heap.size (rowArr 32 fun _ => 0) 82 := by
  rw [show rowArr 32 (fun _ => 0) = #[.int .u8 0, .int .u8 0, .int .u8 0, .int .u8 0, .int .u8 0, .int .u8 0, .int .u8 0, .int .u8 0, .int .u8 0, .int .u8 0, .int .u8 0, .int .u8 0, .int .u8 0, .int .u8 0, .int .u8 0, .int .u8 0, .int .u8 0, .int .u8 0, .int .u8 0, .int .u8 0, .int .u8 0, .int .u8 0, .int .u8 0, .int .u8 0, .int .u8 0, .int .u8 0, .int .u8 0, .int .u8 0, .int .u8 0, .int .u8 0, .int .u8 0, .int .u8 0] from by rw [← rowArr_zero]; rfl]
  exact Blk.new _ _ _
theorem i32 : (Tryd.prog.info? 82).map (·.size) = some 32 := by kernel_rfl
/-- the steps of a write -/
theorem IsDisk.laid {d L : Nat} {s : DiskS} {w : World} (h : IsDisk w d L s) {i : Nat} (_hi : i < s.n) (bs : List UInt8) {m : Nat} (_hm : m ≤ 32) {cs : List Value} (hcs : cs = (rowArr m (padF bs)).toList) (dr : Nat) :
    IsDisk ((w.drewN dr).setCells L (i * 32) cs) d L { s with f := s.lay i bs m } := by
  obtain ⟨cap, arr, hd, a, b, hL, r1, r2, r3, r4, r5, hne, r6, r7⟩ := h
  obtain ⟨arr', h1, h2, h3⟩ := Blk.setCells cs (i * 32) (w.drewN dr) arr hL
  refine ⟨cap, arr', Blk.setCells_other hne _ _ _ hd, a, b, h1, by rw [h2]; exact r1, fun j hj => ?_, r3, r4, r5, hne, r6, r7⟩
  have hj : j < s.n * 32 := hj
  have hl : cs.length = m := by rw [hcs]; simp [rowArr_size]
  rw [h3 j (by omega), hl]
  show _ = some (Value.int .u8 ((s.lay i bs m j).toNat : Int))
  unfold DiskS.lay
  by_cases e : i * 32 ≤ j ∧ j < i * 32 + m
  · rw [if_pos e, if_pos e, hcs, ← padF_eq]
    have := rowArr_get m (padF bs) (j - i * 32) (by omega)
    simpa using this
  · rw [if_neg e, if_neg e]; exact r2 j hj
theorem IsDisk.count {d L : Nat} {s : DiskS} {w : World} (h : IsDisk w d L s) (hw : s.writes < 4611686018427387904) : IsDisk (w.setCell ⟨d, 5, none⟩ (.int .i64 ((s.writes : Int) + 1))) d L { s with writes := s.writes + 1 } := by
  obtain ⟨cap, arr, hd, a, b, hL, r1, r2, r3, r4, r5, hne, r6, r7⟩ := h
  have := hd.set 5 (.int .i64 ((s.writes : Int) + 1))
  exact ⟨cap, arr, by simpa using this, a, b, hL.set_other hne _, r1, r2, r3, r4, r5, hne, r6, by show s.writes + 1 ≤ _; omega⟩
theorem IsDisk.tick {d L : Nat} {s : DiskS} {w : World} (h : IsDisk w d L s) (hc : 0 < s.cnt) : IsDisk (w.setCell ⟨d, 3, none⟩ (.int .i64 ((s.cnt : Int) - 1))) d L { s with cnt := s.cnt - 1 } := by
  obtain ⟨cap, arr, hd, a, b, hL, r1, r2, r3, r4, r5, hne, r6, r7⟩ := h
  have := hd.set 3 (.int .i64 ((s.cnt : Int) - 1))
  rw [show ((s.cnt : Int) - 1) = ((s.cnt - 1 : Nat) : Int) from by omega] at this ⊢
  exact ⟨cap, arr, this, a, b, hL.set_other hne _, r1, r2, r3, r4, r5, hne, by show s.cnt - 1 ≤ _; omega, r7⟩
theorem IsDisk.die {d L : Nat} {s : DiskS} {w : World} (h : IsDisk w d L s) : IsDisk (w.setCell ⟨d, 1, none⟩ (.bool true)) d L { s with dead := true } := by
  obtain ⟨cap, arr, hd, a, b, hL, r1, r2, r3, r4, r5, hne, r6, r7⟩ := h
  exact ⟨cap, arr, hd.set 1 (.bool true), a, b, hL.set_other hne _, r1, r2, r3, r4, r5, hne, r6, r7⟩
theorem rowArr_one (m : Nat) (f : Nat → UInt8) : ∀ v ∈ (rowArr m f).toList, v.oneCell' = true := by
  intro v hv
  simp [rowArr] at hv
  obtain ⟨k, _, rfl⟩ := hv
  rfl
/-- what the walk of a write knows once the bytes are laid aside -/
theorem write_facts {d L : Nat} {s : DiskS} {w w1 : World} {i : Nat} {bs : List UInt8} (h : IsDisk w1 d L s) (hi : i < s.n) (ht : Blk w1 w.heap.size (rowArr 32 fun k => if k < bs.length then bs.getD k 0 else 0) 82) (m : Nat) (hm : m ≤ 32) :
    ∃ cs, Hid (cs = (rowArr m (padF bs)).toList) ∧ cs.length = m ∧ (∀ v ∈ cs, v.oneCell' = true) ∧ w1.rangeAt w.heap.size 0 cs ∧ w1.there L (i * 32) 32 ∧ (∀ j v, cs[j]? = some v → w1.cell? ((⟨w.heap.size, 0, none⟩ : Addr).add j) = some v) := by
  obtain ⟨cap, arr, hd, a, b, hL, r1, r2, r3, r4, r5, hne, r6, r7⟩ := h
  have hr : w1.rangeAt w.heap.size 0 (rowArr m (padF bs)).toList := fun j v hj => by
    rw [Nat.zero_add, ht.cell]
    have hj : (rowArr m (padF bs))[j]? = some v := by simpa using hj
    have hjm : j < m := by
      rcases Nat.lt_or_ge j m with h' | h'
      · exact h'
      · rw [Array.getElem?_eq_none (by rw [rowArr_size]; exact h')] at hj; cases hj
    rw [rowArr_get _ _ _ hjm] at hj
    rw [rowArr_get _ _ _ (by omega)]
    exact hj
  refine ⟨_, rfl, by simp [rowArr_size], rowArr_one _ _, hr, fun j hj => ⟨by rw [hL.cell]; simp; omega, hL.free _⟩, fun j v hj => ?_⟩
  have := hr j v hj
  rw [Nat.zero_add] at this
  rw [show (⟨w.heap.size, 0, none⟩ : Addr).add j = ⟨w.heap.size, j, none⟩ from by
    unfold Addr.add
    split
    · subst_vars; rfl
    · simp]
  exact this
set_option maxRecDepth 100000 in
set_option maxHeartbeats 2000000 in
theorem dwrite_plain (d L : Nat) (s : DiskS) (i : Nat) (v : Value) (bs : List UInt8) (w : World) (h : IsDisk w d L s) (hb : Bys w v bs) (hi : i < s.n) (hl : bs.length ≤ 32) (hdead : s.dead = false) (hst : s.stops = false) (hw : s.writes < 4611686018427387904) :
    Calls Tryd.prog 24 #[.pointer (some ⟨d, 0, none⟩), .int .i64 i, v] w fun e w' => e = .returned (.int .i64 0) ∧ IsDisk w' d L (s.write i bs) ∧ Chg (fun b => b = d ∨ b = L) w w' := by
  obtain ⟨cap, arr, hd, hc1, hcap, hL, r1, r2, r3, r4, r5, hne, r6, r7⟩ := id h
  have c1 : w.cell? ⟨d, 1, none⟩ = some (.bool false) := by rw [hd.cell, hdead]; rfl
  obtain ⟨a, c, rfl⟩ := hb.eq_slice
  have HW := Lib.hid (show s.write i bs = { s with f := s.lay i bs 32, writes := s.writes + 1 } from by simp [DiskS.write, hst])
  obtain ⟨l, hl'⟩ : ∃ l, l = bs.length := ⟨_, rfl⟩
  rw [← hl'] at hl hb ⊢
  have Hl := Lib.hid hl'; have Hst := Lib.hid hst
  have i1 : (0 : Int) ≤ (i : Int) := by omega
  have i2 : (i : Int) < (s.n : Int) := by omega
  clear hdead hst hl'
  go_enter Tryd.func24, Tryd.ntmps24
  go_wp2_with fail
  refine (may_calls d L s i w h true (DiskS.may_yes hi)).mono ?_
  rintro e w1 ⟨rfl, rfl⟩
  go_wp2_with (refine copy_row (o := ⟨some 25, _, _, _, _, _⟩) rfl (.tmp 23) (.tmp 24) 24 24 rfl 5 Tryd.underlying24 E8s rfl rfl (to_new _) (hb.below ((Below.refl _ _).alloc (Nat.le_refl _) _)) ?c1 ?c2 ?_)
  case c1 => have := Hl.out; omega
  case c2 => omega
  intro w1 hB1 hb1
  have hb1 : Below w.heap.size w w1 := ((Below.refl _ _).alloc (Nat.le_refl _) _).trans hb1
  have h1 := h.below hb1
  have hd1 := hd.kept hb1
  have c0 : w1.cell? ⟨d, 0, none⟩ = some (.slice (some ⟨L, 0, none⟩) s.n cap) := by rw [hd1.cell]; rfl
  have c2 : w1.cell? ⟨d, 2, none⟩ = some (.bool false) := by rw [hd1.cell, Hst.out]; rfl
  obtain ⟨cs, Hcs, hcl, hone, hr1, ht1, _⟩ := write_facts (i := i) h1 hi hB1 32 (Nat.le_refl _)
  have hu := Tryd.underlying82
  have hi32 : (Tryd.prog.info? 82).map (·.size) = some cs.length := by rw [hcl]; exact i32
  have hD := h1.laid hi bs (Nat.le_refl 32) Hcs.out 1
  have hC := Chg.setCells (S := fun b => b = d ∨ b = L) (L := L) (.inr rfl) cs (i * 32) _ (Chg.drew (Chg.of_below (S := fun b => b = d ∨ b = L) hb1))
  have hD : IsDisk (w1.drew.setCells L (i * 32) cs) d L { s with f := s.lay i bs 32 } := hD
  obtain ⟨cap', arr', hd2, _⟩ := id hD
  have c5 : (w1.drew.setCells L (i * 32) cs).cell? ⟨d, 5, none⟩ = some (.int .i64 (s.writes : Int)) := by rw [hd2.cell]; rfl
  have f5 := hd2.free 5
  have HD := Lib.hid hD; have HC := Lib.hid hC; have HB1 := Lib.hid hB1; have Hb1 := Lib.hid hb1; have Hd1 := Lib.hid hd1; have H1 := Lib.hid h1; have Hd2 := Lib.hid hd2
  clear hD hC hB1 hb1 hd1 h1 hd2 c1
  go_wp2_with fail
  go_region_held3 (fun w' => w'.cell? ⟨d, 0, none⟩ = some (.slice (some ⟨L, 0, none⟩) s.n cap) ∧ w'.rangeAt w.heap.size 0 cs ∧ w'.there L (i * 32) 32) (first | exact ⟨c0, hr1, ht1⟩ | exact keep_mid hne (Nat.ne_of_gt hL.lt) c0 hr1 ht1) (fail)
  go_wp2
  go_ret
  exact ⟨rfl, by rw [HW.out]; exact HD.out.count hw, HC.out.set (.inl rfl) _⟩
set_option maxRecDepth 100000 in
set_option maxHeartbeats 2000000 in
theorem dwrite_tick (d L : Nat) (s : DiskS) (i : Nat) (v : Value) (bs : List UInt8) (w : World) (h : IsDisk w d L s) (hb : Bys w v bs) (hi : i < s.n) (hl : bs.length ≤ 32) (hdead : s.dead = false) (hst : s.stops = true) (hcnt : 0 < s.cnt) (hw : s.writes < 4611686018427387904) :
    Calls Tryd.prog 24 #[.pointer (some ⟨d, 0, none⟩), .int .i64 i, v] w fun e w' => e = .returned (.int .i64 0) ∧ IsDisk w' d L (s.write i bs) ∧ Chg (fun b => b = d ∨ b = L) w w' := by
  obtain ⟨cap, arr, hd, hc1, hcap, hL, r1, r2, r3, r4, r5, hne, r6, r7⟩ := id h
  have c1 : w.cell? ⟨d, 1, none⟩ = some (.bool false) := by rw [hd.cell, hdead]; rfl
  obtain ⟨a, c, rfl⟩ := hb.eq_slice
  have HW := Lib.hid (show s.write i bs = { s with cnt := s.cnt - 1, f := s.lay i bs 32, writes := s.writes + 1 } from by simp [DiskS.write, hst, Nat.ne_of_gt hcnt])
  obtain ⟨l, hl'⟩ : ∃ l, l = bs.length := ⟨_, rfl⟩
  rw [← hl'] at hl hb ⊢
  have Hl := Lib.hid hl'; have Hst := Lib.hid hst
  have i1 : (0 : Int) ≤ (i : Int) := by omega
  have i2 : (i : Int) < (s.n : Int) := by omega
  have t1 : ((s.cnt : Int) == 0) = false := by simp; omega
  have t2 : (0 : Int) < (s.cnt : Int) := by omega
  clear hdead hst hl'
  go_enter Tryd.func24, Tryd.ntmps24
  go_wp2_with fail
  refine (may_calls d L s i w h true (DiskS.may_yes hi)).mono ?_
  rintro e w1 ⟨rfl, rfl⟩
  go_wp2_with (refine copy_row (o := ⟨some 25, _, _, _, _, _⟩) rfl (.tmp 23) (.tmp 24) 24 24 rfl 5 Tryd.underlying24 E8s rfl rfl (to_new _) (hb.below ((Below.refl _ _).alloc (Nat.le_refl _) _)) ?c1 ?c2 ?_)
  case c1 => have := Hl.out; omega
  case c2 => omega
  intro w1 hB1 hb1
  have hb1 : Below w.heap.size w w1 := ((Below.refl _ _).alloc (Nat.le_refl _) _).trans hb1
  have h0 := h.below hb1
  have hd1 := hd.kept hb1
  have c2 : w1.cell? ⟨d, 2, none⟩ = some (.bool true) := by rw [hd1.cell, Hst.out]; rfl
  have c3 : w1.cell? ⟨d, 3, none⟩ = some (.int .i64 (s.cnt : Int)) := by rw [hd1.cell]; rfl
  have f3 := hd1.free 3
  have h1 := h0.tick hcnt
  have hd1' := hd1
  obtain ⟨w2, hw2⟩ : ∃ w2, w2 = w1.setCell ⟨d, 3, none⟩ (.int .i64 ((s.cnt : Int) - 1)) := ⟨_, rfl⟩
  rw [← hw2] at h1
  have hlt : d < w.heap.size := hd.lt
  have hB2 : Blk w2 w.heap.size (rowArr 32 fun k => if k < bs.length then bs.getD k 0 else 0) 82 := by rw [hw2]; exact hB1.set_other (show d ≠ w.heap.size by omega) _
  have hch2 : Chg (fun b => b = d ∨ b = L) w w2 := by rw [hw2]; exact (Chg.of_below hb1).set (.inl rfl) _
  have c0 : w2.cell? ⟨d, 0, none⟩ = some (.slice (some ⟨L, 0, none⟩) s.n cap) := by rw [hw2, (hd1.set 3 _).cell]; rfl
  have HB1 := Lib.hid hB1; have Hb1 := Lib.hid hb1; have Hd1 := Lib.hid hd1; have H0 := Lib.hid h0; have Hw2 := Lib.hid hw2
  clear hB1 hb1 hd1 h0 c1 hd1' hw2
  obtain ⟨cs, Hcs, hcl, hone, hr1, ht1, _⟩ := write_facts (i := i) h1 hi hB2 32 (Nat.le_refl _)
  have hu := Tryd.underlying82
  have hi32 : (Tryd.prog.info? 82).map (·.size) = some cs.length := by rw [hcl]; exact i32
  have hD := h1.laid (show i < _ from hi) bs (Nat.le_refl 32) Hcs.out 1
  have hC := Chg.setCells (S := fun b => b = d ∨ b = L) (L := L) (.inr rfl) cs (i * 32) _ hch2.drew
  have hD : IsDisk (w2.drew.setCells L (i * 32) cs) d L { s with cnt := s.cnt - 1, f := s.lay i bs 32 } := hD
  obtain ⟨cap', arr', hd2, _⟩ := id hD
  have c5 : (w2.drew.setCells L (i * 32) cs).cell? ⟨d, 5, none⟩ = some (.int .i64 (s.writes : Int)) := by rw [hd2.cell]; rfl
  have f5 := hd2.free 5
  have HD := Lib.hid hD; have HC := Lib.hid hC; have HB2 := Lib.hid hB2; have H1 := Lib.hid h1; have Hd2 := Lib.hid hd2; have Hch := Lib.hid hch2
  clear hD hC hB2 h1 hd2 hch2
  go_upto_region 13 with fail
  rw [← Hw2.out]
  go_region_held3 (fun w' => w'.cell? ⟨d, 0, none⟩ = some (.slice (some ⟨L, 0, none⟩) s.n cap) ∧ w'.rangeAt w.heap.size 0 cs ∧ w'.there L (i * 32) 32) (first | exact ⟨c0, hr1, ht1⟩ | exact keep_mid hne (Nat.ne_of_gt hL.lt) c0 hr1 ht1) (fail)
  go_wp2
  go_ret
  exact ⟨rfl, by rw [HW.out]; exact HD.out.count hw, HC.out.set (.inl rfl) _⟩
set_option maxRecDepth 100000 in
set_option maxHeartbeats 2000000 in
theorem dwrite_tear (d L : Nat) (s : DiskS) (i : Nat) (v : Value) (bs : List UInt8) (w : World) (h : IsDisk w d L s) (hb : Bys w v bs) (hi : i < s.n) (hl : bs.length ≤ 32) (hdead : s.dead = false) (hst : s.stops = true) (hcnt : s.cnt = 0) :
    Calls Tryd.prog 24 #[.pointer (some ⟨d, 0, none⟩), .int .i64 i, v] w fun e w' => e = .returned (.int .i64 8) ∧ IsDisk w' d L (s.write i bs) ∧ Chg (fun b => b = d ∨ b = L) w w' := by
  obtain ⟨cap, arr, hd, hc1, hcap, hL, r1, r2, r3, r4, r5, hne, r6, r7⟩ := id h
  have c1 : w.cell? ⟨d, 1, none⟩ = some (.bool false) := by rw [hd.cell, hdead]; rfl
  obtain ⟨a, c, rfl⟩ := hb.eq_slice
  have HW := Lib.hid (show s.write i bs = { s with f := s.lay i bs s.keep, dead := true } from by simp [DiskS.write, hst, hcnt])
  obtain ⟨l, hl'⟩ : ∃ l, l = bs.length := ⟨_, rfl⟩
  rw [← hl'] at hl hb ⊢
  have Hl := Lib.hid hl'; have Hst := Lib.hid hst; have Hcnt := Lib.hid hcnt
  have i1 : (0 : Int) ≤ (i : Int) := by omega
  have i2 : (i : Int) < (s.n : Int) := by omega
  have k1 : (0 : Int) ≤ (s.keep : Int) := by omega
  have k2 : (s.keep : Int) ≤ 32 := by omega
  clear hdead hst hl' hcnt
  go_enter Tryd.func24, Tryd.ntmps24
  go_wp2_with fail
  refine (may_calls d L s i w h true (DiskS.may_yes hi)).mono ?_
  rintro e w1 ⟨rfl, rfl⟩
  go_wp2_with (refine copy_row (o := ⟨some 25, _, _, _, _, _⟩) rfl (.tmp 23) (.tmp 24) 24 24 rfl 5 Tryd.underlying24 E8s rfl rfl (to_new _) (hb.below ((Below.refl _ _).alloc (Nat.le_refl _) _)) ?c1 ?c2 ?_)
  case c1 => have := Hl.out; omega
  case c2 => omega
  intro w1 hB1 hb1
  have hb1 : Below w.heap.size w w1 := ((Below.refl _ _).alloc (Nat.le_refl _) _).trans hb1
  have h1 := h.below hb1
  have hd1 := hd.kept hb1
  have c0 : w1.cell? ⟨d, 0, none⟩ = some (.slice (some ⟨L, 0, none⟩) s.n cap) := by rw [hd1.cell]; rfl
  have c2 : w1.cell? ⟨d, 2, none⟩ = some (.bool true) := by rw [hd1.cell, Hst.out]; rfl
  have c3 : w1.cell? ⟨d, 3, none⟩ = some (.int .i64 0) := by rw [hd1.cell, Hcnt.out]; rfl
  have c4 : w1.cell? ⟨d, 4, none⟩ = some (.int .i64 (s.keep : Int)) := by rw [hd1.cell]; rfl
  obtain ⟨cs, Hcs, hcl, hone, hr1, ht1, hsrc⟩ := write_facts (i := i) h1 hi hB1 s.keep r5
  have ht1 : w1.there L (i * 32) cs.length := fun j hj => ht1 j (by rw [hcl] at hj; omega)
  have hD := h1.laid hi bs r5 Hcs.out 1
  have hC := Chg.setCells (S := fun b => b = d ∨ b = L) (L := L) (.inr rfl) cs (i * 32) _ (Chg.drew (Chg.of_below (S := fun b => b = d ∨ b = L) hb1))
  have hD : IsDisk (w1.drew.setCells L (i * 32) cs) d L { s with f := s.lay i bs s.keep } := hD
  obtain ⟨cap', arr', hd2, _⟩ := id hD
  have c5 : (w1.drew.setCells L (i * 32) cs).cell? ⟨d, 1, none⟩ = some (.bool s.dead) := by rw [hd2.cell]; rfl
  have f5 := hd2.free 1
  have HD := Lib.hid hD; have HC := Lib.hid hC; have HB1 := Lib.hid hB1; have Hb1 := Lib.hid hb1; have Hd1 := Lib.hid hd1; have H1 := Lib.hid h1; have Hd2 := Lib.hid hd2; have Hcl := Lib.hid hcl; have Hsrc := Lib.hid hsrc; have Hone := Lib.hid hone; have Ht := Lib.hid ht1
  clear hD hC hB1 hb1 hd1 h1 hd2 c1 hcl hsrc hr1 hone ht1
  go_wp2_with fail
  go_region_held3 (fun w' => w'.cell? ⟨d, 0, none⟩ = some (.slice (some ⟨L, 0, none⟩) s.n cap) ∧ w'.cell? ⟨d, 4, none⟩ = some (.int .i64 (s.keep : Int))) (first | exact ⟨c0, c4⟩ | assumption | exact ⟨by rw [World.cell?_setCells_out _ _ _ _ _ (fun e => absurd e hne)]; exact c0, by rw [World.cell?_setCells_out _ _ _ _ _ (fun e => absurd e hne)]; exact c4⟩)
    (first
      | (refine step_copy_set (by rfl) _ _ _ _ 5 (by rfl) Tryd.underlying24 E8s (b := L) (off := i * 32) (sa := ⟨w.heap.size, 0, none⟩) cs (by rfl) (by rfl) (by rw [Hcl.out]; exact (Nat.min_self _).symm) Hsrc.out Ht.out Hone.out ?_))
  go_wp2
  go_ret
  exact ⟨rfl, by rw [HW.out]; exact HD.out.die, HC.out.set (.inl rfl) _⟩
/-- a write, however it ends -/
theorem dwrite_calls (d L : Nat) (s : DiskS) (i : Nat) (v : Value) (bs : List UInt8) (w : World) (h : IsDisk w d L s) (hb : Bys w v bs) (hi : i < s.n) (hl : bs.length ≤ 32) (hdead : s.dead = false) (hw : s.writes < 4611686018427387904) :
    Calls Tryd.prog 24 #[.pointer (some ⟨d, 0, none⟩), .int .i64 i, v] w fun e w' => e = .returned (.int .i64 (if s.stops = true ∧ s.cnt = 0 then 8 else 0)) ∧ IsDisk w' d L (s.write i bs) ∧ Chg (fun b => b = d ∨ b = L) w w' := by
  by_cases hs : s.stops = true
  · by_cases hc : s.cnt = 0
    · rw [if_pos ⟨hs, hc⟩]; exact dwrite_tear d L s i v bs w h hb hi hl hdead hs hc
    · rw [if_neg (fun e => hc e.2)]; exact dwrite_tick d L s i v bs w h hb hi hl hdead hs (by omega) hw
  · rw [if_neg (fun e => hs e.1)]; exact dwrite_plain d L s i v bs w h hb hi hl hdead (by simpa using hs) hw
end Go.Proofs.YtmeegdicnfgjfaaDoor
