/- Texts of this proof, packed: Disk2, DiskLaw, DiskRef, CodeMath, AppCells, DiskClone, DiskAny, StoreMath. -/
import Derived.Test.YtehgnkdfnnebcaaGreatDoorPk00
import Derived.Lib.ItoaMem
section
namespace Go.Proofs.YtehgnkdfnnebcaaGreatDoor
open Go Go.RowKit Go.Mem Gf
attribute [local go_sem ↓] Go.wp_at_zero Go.wp_at_succ
theorem E8 : Elem Tryz.prog 29 5 (.int .u8 0) 1 := ⟨Tryz.underlying29, by kernel_rfl, rfl⟩
theorem DiskS.may_yes {s : DiskS} {i : Nat} (h : i < s.n) : s.may (i : Int) = true := by simp [DiskS.may, h]
theorem DiskS.may_no {s : DiskS} {i : Int} (h : i < 0 ∨ (s.n : Int) ≤ i) : s.may i = false := by simp [DiskS.may]; omega
set_option maxRecDepth 100000 in
set_option maxHeartbeats 1000000 in
theorem dread_bad (d L : Nat) (s : DiskS) (i : Int) (w : World) (h : IsDisk w d L s) (hi : i < 0 ∨ (s.n : Int) ≤ i) :
    Calls Tryz.prog 21 #[.pointer (some ⟨d, 0, none⟩), .int .i64 i] w fun e w' => e = .returned (.tuple #[.slice none 0 0, .int .i64 1]) ∧ w = w' := by
  go_enter Tryz.func21, Tryz.ntmps21
  go_wp2_with fail
  refine (may_calls d L s i w h false (DiskS.may_no hi)).mono ?_
  rintro e w1 ⟨rfl, rfl⟩
  go_wp2
  go_ret2
  exact ⟨rfl, rfl⟩
set_option maxRecDepth 100000 in
set_option maxHeartbeats 1000000 in
theorem dread_dead (d L : Nat) (s : DiskS) (i : Nat) (w : World) (h : IsDisk w d L s) (hi : i < s.n) (hdead : s.dead = true) :
    Calls Tryz.prog 21 #[.pointer (some ⟨d, 0, none⟩), .int .i64 i] w fun e w' => e = .returned (.tuple #[.slice none 0 0, .int .i64 8]) ∧ w = w' := by
  obtain ⟨cap, arr, hd, _⟩ := id h
  have c1 : w.cell? ⟨d, 1, none⟩ = some (.bool true) := by rw [hd.cell, hdead]; rfl
  clear hdead
  go_enter Tryz.func21, Tryz.ntmps21
  go_wp2_with fail
  refine (may_calls d L s i w h true (DiskS.may_yes hi)).mono ?_
  rintro e w1 ⟨rfl, rfl⟩
  go_wp2
  go_ret2
  exact ⟨rfl, rfl⟩
theorem IsDisk.sector {w : World} {d L : Nat} {s : DiskS} (h : IsDisk w d L s) (i : Nat) (hi : i < s.n) : Bys w (.slice (some ⟨L, i * 32, none⟩) 32 32) (s.sector i) := by
  obtain ⟨cap, arr, hd, a, b, hL, r1, r2, r3, r4, r5, hne, r6, r7⟩ := h
  exact hL.mid_bys (Nat.le_refl _) (maxLen_ge (by decide)) fun k hk => r2 _ (by omega)
set_option maxRecDepth 100000 in
set_option maxHeartbeats 1000000 in
theorem dread_calls (d L : Nat) (s : DiskS) (i : Nat) (w : World) (h : IsDisk w d L s) (hi : i < s.n) (hdead : s.dead = false) :
    Calls Tryz.prog 21 #[.pointer (some ⟨d, 0, none⟩), .int .i64 i] w fun e w' => ∃ v, e = .returned (.tuple #[v, .int .i64 0]) ∧ OwnF 5 w' w.heap.size v (s.sector i) ∧ Below w.heap.size w w' := by
  obtain ⟨cap, arr, hd, _, hcap, _⟩ := id h
  have c0 : w.cell? ⟨d, 0, none⟩ = some (.slice (some ⟨L, 0, none⟩) s.n cap) := by rw [hd.cell]; rfl
  have c1 : w.cell? ⟨d, 1, none⟩ = some (.bool false) := by rw [hd.cell, hdead]; rfl
  have hsec := h.sector i hi
  have i1 : (0 : Int) ≤ (i : Int) := by omega
  have i2 : (i : Int) < (s.n : Int) := by omega
  clear hdead
  go_enter Tryz.func21, Tryz.ntmps21
  go_wp2_with fail
  refine (may_calls d L s i w h true (DiskS.may_yes hi)).mono ?_
  rintro e w1 ⟨rfl, rfl⟩
  go_wp2_with (at_builtin; refine appF E8 rfl _ _ rfl (base := w.heap.size) (bs := []) (news := s.sector i) rfl rfl (OwnF.nil _ _ _) hsec ?q1 ?q2 ?_)
  case q1 => simp [DiskS.sector, rowL_len]
  case q2 => exact Nat.le_refl _
  intro v' w' hown hg
  go_wp2
  go_ret2
  exact ⟨_, rfl, hown, grown_none hg rfl⟩
set_option maxRecDepth 100000 in
set_option maxHeartbeats 1000000 in
theorem dwrite_bad (d L : Nat) (s : DiskS) (i : Int) (v : Value) (bs : List UInt8) (w : World) (h : IsDisk w d L s) (hb : Bys w v bs) (hi : (i < 0 ∨ (s.n : Int) ≤ i) ∨ 32 < bs.length) :
    Calls Tryz.prog 57 #[.pointer (some ⟨d, 0, none⟩), .int .i64 i, v] w fun e w' => e = .returned (.int .i64 1) ∧ w = w' := by
  obtain ⟨a, c, rfl⟩ := hb.eq_slice
  obtain ⟨l, hl⟩ : ∃ l, l = bs.length := ⟨_, rfl⟩
  rw [← hl] at hi ⊢
  clear hl
  by_cases hm : i < 0 ∨ (s.n : Int) ≤ i
  · clear hi
    go_enter Tryz.func57, Tryz.ntmps57
    go_wp2_with fail
    refine (may_calls d L s i w h false (DiskS.may_no hm)).mono ?_
    rintro e w1 ⟨rfl, rfl⟩
    go_wp2
    go_ret
    exact ⟨rfl, rfl⟩
  · have hl : 32 < l := by omega
    obtain ⟨i, rfl⟩ : ∃ j : Nat, i = j := ⟨i.toNat, by omega⟩
    clear hi
    go_enter Tryz.func57, Tryz.ntmps57
    go_wp2_with fail
    refine (may_calls d L s i w h true (DiskS.may_yes (by omega))).mono ?_
    rintro e w1 ⟨rfl, rfl⟩
    go_wp2
    go_ret
    exact ⟨rfl, rfl⟩
set_option maxRecDepth 100000 in
set_option maxHeartbeats 1000000 in
theorem dwrite_dead (d L : Nat) (s : DiskS) (i : Nat) (v : Value) (bs : List UInt8) (w : World) (h : IsDisk w d L s) (hb : Bys w v bs) (hi : i < s.n) (hl : bs.length ≤ 32) (hdead : s.dead = true) :
    Calls Tryz.prog 57 #[.pointer (some ⟨d, 0, none⟩), .int .i64 i, v] w fun e w' => e = .returned (.int .i64 8) ∧ w = w' := by
  obtain ⟨a, c, rfl⟩ := hb.eq_slice
  obtain ⟨l, hl'⟩ : ∃ l, l = bs.length := ⟨_, rfl⟩
  rw [← hl'] at hl ⊢
  clear hl'
  obtain ⟨cap, arr, hd, _⟩ := id h
  have c1 : w.cell? ⟨d, 1, none⟩ = some (.bool true) := by rw [hd.cell, hdead]; rfl
  clear hdead
  go_enter Tryz.func57, Tryz.ntmps57
  go_wp2_with fail
  refine (may_calls d L s i w h true (DiskS.may_yes hi)).mono ?_
  rintro e w1 ⟨rfl, rfl⟩
  go_wp2
  go_ret
  exact ⟨rfl, rfl⟩
def padF (bs : List UInt8) : Nat → UInt8 := fun k => if k < bs.length then bs.getD k 0 else 0
theorem padF_eq (bs : List UInt8) (k : Nat) : padF bs k = bs.getD k 0 := by
  unfold padF
  split
  · rfl
  · rw [List.getD_eq_getElem?_getD, List.getElem?_eq_none (by omega)]; rfl
theorem to_new (w : World) : Blk (w.alloc (.cells #[.int .u8 0, .int .u8 0, .int .u8 0, .int .u8 0, .int .u8 0, .int .u8 0, .int .u8 0, .int .u8 0, .int .u8 0, .int .u8 0, .int .u8 0, .int .u8 0, .int .u8 0, .int .u8 0, .int .u8 0, .int .u8 0, .int .u8 0, .int .u8 0, .int .u8 0, .int .u8 0, .int .u8 0, .int .u8 0, .int .u8 0, .int .u8 0, .int .u8 0, .int .u8 0, .int .u8 0, .int .u8 0, .int .u8 0, .int .u8 0, .int .u8 0, .int .u8 0] 82)) w.heap.size (rowArr 32 fun _ => 0) 82 := by
  rw [show rowArr 32 (fun _ => 0) = #[.int .u8 0, .int .u8 0, .int .u8 0, .int .u8 0, .int .u8 0, .int .u8 0, .int .u8 0, .int .u8 0, .int .u8 0, .int .u8 0, .int .u8 0, .int .u8 0, .int .u8 0, .int .u8 0, .int .u8 0, .int .u8 0, .int .u8 0, .int .u8 0, .int .u8 0, .int .u8 0, .int .u8 0, .int .u8 0, .int .u8 0, .int .u8 0, .int .u8 0, .int .u8 0, .int .u8 0, .int .u8 0, .int .u8 0, .int .u8 0, .int .u8 0, .int .u8 0] from by rw [← rowArr_zero]; rfl]
  exact Blk.new _ _ _
theorem i32 : (Tryz.prog.info? 82).map (·.size) = some 32 := by kernel_rfl
theorem IsDisk.laid {d L : Nat} {s : DiskS} {w : World} (h : IsDisk w d L s) {i : Nat} (_hi : i < s.n) (bs : List UInt8) {m : Nat} (_hm : m ≤ 32) {cs : List Value} (hcs : cs = (rowArr m (padF bs)).toList) (dr : Nat) :
    IsDisk ((w.drewN dr).setCells L (i * 32) cs) d L { s with f := s.lay i bs m } := by
  obtain ⟨cap, arr, hd, a, b, hL, r1, r2, r3, r4, r5, hne, r6, r7⟩ := h
  obtain ⟨arr', h1, h2, h3⟩ := Blk.setCells cs (i * 32) (w.drewN dr) arr hL
  refine ⟨cap, arr', Blk.setCells_other hne _ _ _ hd, a, b, h1, by rw [h2]; exact r1, fun j hj => ?_, r3, r4, r5, hne, r6, r7⟩
  have hj : j < s.n * 32 := hj
  have hl : cs.length = m := by rw [hcs]; simp [rowArr_size]
  rw [h3 j (by omega), hl]
  show _ = some (Value.int .u8 ((s.lay i bs m j).toNat : Int))
  unfold DiskS.lay
  by_cases e : i * 32 ≤ j ∧ j < i * 32 + m
  · rw [if_pos e, if_pos e, hcs, ← padF_eq]
    have := rowArr_get m (padF bs) (j - i * 32) (by omega)
    simpa using this
  · rw [if_neg e, if_neg e]; exact r2 j hj
theorem IsDisk.count {d L : Nat} {s : DiskS} {w : World} (h : IsDisk w d L s) (hw : s.writes < 4611686018427387904) : IsDisk (w.setCell ⟨d, 5, none⟩ (.int .i64 ((s.writes : Int) + 1))) d L { s with writes := s.writes + 1 } := by
  obtain ⟨cap, arr, hd, a, b, hL, r1, r2, r3, r4, r5, hne, r6, r7⟩ := h
  have := hd.set 5 (.int .i64 ((s.writes : Int) + 1))
  exact ⟨cap, arr, by simpa using this, a, b, hL.set_other hne _, r1, r2, r3, r4, r5, hne, r6, by show s.writes + 1 ≤ _; omega⟩
theorem IsDisk.tick {d L : Nat} {s : DiskS} {w : World} (h : IsDisk w d L s) (hc : 0 < s.cnt) : IsDisk (w.setCell ⟨d, 3, none⟩ (.int .i64 ((s.cnt : Int) - 1))) d L { s with cnt := s.cnt - 1 } := by
  obtain ⟨cap, arr, hd, a, b, hL, r1, r2, r3, r4, r5, hne, r6, r7⟩ := h
  have := hd.set 3 (.int .i64 ((s.cnt : Int) - 1))
  rw [show ((s.cnt : Int) - 1) = ((s.cnt - 1 : Nat) : Int) from by omega] at this ⊢
  exact ⟨cap, arr, this, a, b, hL.set_other hne _, r1, r2, r3, r4, r5, hne, by show s.cnt - 1 ≤ _; omega, r7⟩
theorem IsDisk.die {d L : Nat} {s : DiskS} {w : World} (h : IsDisk w d L s) : IsDisk (w.setCell ⟨d, 1, none⟩ (.bool true)) d L { s with dead := true } := by
  obtain ⟨cap, arr, hd, a, b, hL, r1, r2, r3, r4, r5, hne, r6, r7⟩ := h
  exact ⟨cap, arr, hd.set 1 (.bool true), a, b, hL.set_other hne _, r1, r2, r3, r4, r5, hne, r6, r7⟩
theorem rowArr_one (m : Nat) (f : Nat → UInt8) : ∀ v ∈ (rowArr m f).toList, v.oneCell' = true := by
  intro v hv
  simp [rowArr] at hv
  obtain ⟨k, _, rfl⟩ := hv
  rfl
theorem write_facts {d L : Nat} {s : DiskS} {w w1 : World} {i : Nat} {bs : List UInt8} (h : IsDisk w1 d L s) (hi : i < s.n) (ht : Blk w1 w.heap.size (rowArr 32 fun k => if k < bs.length then bs.getD k 0 else 0) 82) (m : Nat) (hm : m ≤ 32) :
    ∃ cs, Hid (cs = (rowArr m (padF bs)).toList) ∧ cs.length = m ∧ (∀ v ∈ cs, v.oneCell' = true) ∧ w1.rangeAt w.heap.size 0 cs ∧ w1.there L (i * 32) 32 ∧ (∀ j v, cs[j]? = some v → w1.cell? ((⟨w.heap.size, 0, none⟩ : Addr).add j) = some v) := by
  obtain ⟨cap, arr, hd, a, b, hL, r1, r2, r3, r4, r5, hne, r6, r7⟩ := h
  have hr : w1.rangeAt w.heap.size 0 (rowArr m (padF bs)).toList := fun j v hj => by
    rw [Nat.zero_add, ht.cell]
    have hj : (rowArr m (padF bs))[j]? = some v := by simpa using hj
    have hjm : j < m := by
      rcases Nat.lt_or_ge j m with h' | h'
      · exact h'
      · rw [Array.getElem?_eq_none (by rw [rowArr_size]; exact h')] at hj; cases hj
    rw [rowArr_get _ _ _ hjm] at hj
    rw [rowArr_get _ _ _ (by omega)]
    exact hj
  refine ⟨_, rfl, by simp [rowArr_size], rowArr_one _ _, hr, fun j hj => ⟨by rw [hL.cell]; simp; omega, hL.free _⟩, fun j v hj => ?_⟩
  have := hr j v hj
  rw [Nat.zero_add] at this
  rw [show (⟨w.heap.size, 0, none⟩ : Addr).add j = ⟨w.heap.size, j, none⟩ from by
    unfold Addr.add
    split
    · subst_vars; rfl
    · simp]
  exact this
set_option maxRecDepth 100000 in
set_option maxHeartbeats 2000000 in
theorem dwrite_plain (d L : Nat) (s : DiskS) (i : Nat) (v : Value) (bs : List UInt8) (w : World) (h : IsDisk w d L s) (hb : Bys w v bs) (hi : i < s.n) (hl : bs.length ≤ 32) (hdead : s.dead = false) (hst : s.stops = false) (hw : s.writes < 4611686018427387904) :
    Calls Tryz.prog 57 #[.pointer (some ⟨d, 0, none⟩), .int .i64 i, v] w fun e w' => e = .returned (.int .i64 0) ∧ IsDisk w' d L (s.write i bs) ∧ Chg (fun b => b = d ∨ b = L) w w' := by
  obtain ⟨cap, arr, hd, hc1, hcap, hL, r1, r2, r3, r4, r5, hne, r6, r7⟩ := id h
  have c1 : w.cell? ⟨d, 1, none⟩ = some (.bool false) := by rw [hd.cell, hdead]; rfl
  obtain ⟨a, c, rfl⟩ := hb.eq_slice
  have HW := Lib.hid (show s.write i bs = { s with f := s.lay i bs 32, writes := s.writes + 1 } from by simp [DiskS.write, hst])
  obtain ⟨l, hl'⟩ : ∃ l, l = bs.length := ⟨_, rfl⟩
  rw [← hl'] at hl hb ⊢
  have Hl := Lib.hid hl'; have Hst := Lib.hid hst
  have i1 : (0 : Int) ≤ (i : Int) := by omega
  have i2 : (i : Int) < (s.n : Int) := by omega
  clear hdead hst hl'
  go_enter Tryz.func57, Tryz.ntmps57
  go_wp2_with fail
  refine (may_calls d L s i w h true (DiskS.may_yes hi)).mono ?_
  rintro e w1 ⟨rfl, rfl⟩
  go_wp2_with (refine copy_row (o := ⟨some 25, _, _, _, _, _⟩) rfl (.tmp 23) (.tmp 24) 29 29 rfl 5 Tryz.underlying29 E8s rfl rfl (to_new _) (hb.below ((Below.refl _ _).alloc (Nat.le_refl _) _)) ?c1 ?c2 ?_)
  case c1 => have := Hl.out; omega
  case c2 => omega
  intro w1 hB1 hb1
  have hb1 : Below w.heap.size w w1 := ((Below.refl _ _).alloc (Nat.le_refl _) _).trans hb1
  have h1 := h.below hb1
  have hd1 := hd.kept hb1
  have c0 : w1.cell? ⟨d, 0, none⟩ = some (.slice (some ⟨L, 0, none⟩) s.n cap) := by rw [hd1.cell]; rfl
  have c2 : w1.cell? ⟨d, 2, none⟩ = some (.bool false) := by rw [hd1.cell, Hst.out]; rfl
  obtain ⟨cs, Hcs, hcl, hone, hr1, ht1, _⟩ := write_facts (i := i) h1 hi hB1 32 (Nat.le_refl _)
  have hu := Tryz.underlying82
  have hi32 : (Tryz.prog.info? 82).map (·.size) = some cs.length := by rw [hcl]; exact i32
  have hD := h1.laid hi bs (Nat.le_refl 32) Hcs.out 1
  have hC := Chg.setCells (S := fun b => b = d ∨ b = L) (L := L) (.inr rfl) cs (i * 32) _ (Chg.drew (Chg.of_below (S := fun b => b = d ∨ b = L) hb1))
  have hD : IsDisk (w1.drew.setCells L (i * 32) cs) d L { s with f := s.lay i bs 32 } := hD
  obtain ⟨cap', arr', hd2, _⟩ := id hD
  have c5 : (w1.drew.setCells L (i * 32) cs).cell? ⟨d, 5, none⟩ = some (.int .i64 (s.writes : Int)) := by rw [hd2.cell]; rfl
  have f5 := hd2.free 5
  have HD := Lib.hid hD; have HC := Lib.hid hC; have HB1 := Lib.hid hB1; have Hb1 := Lib.hid hb1; have Hd1 := Lib.hid hd1; have H1 := Lib.hid h1; have Hd2 := Lib.hid hd2
  clear hD hC hB1 hb1 hd1 h1 hd2 c1
  go_wp2_with fail
  go_region_held3 (fun w' => w'.cell? ⟨d, 0, none⟩ = some (.slice (some ⟨L, 0, none⟩) s.n cap) ∧ w'.rangeAt w.heap.size 0 cs ∧ w'.there L (i * 32) 32) (first | exact ⟨c0, hr1, ht1⟩ | exact keep_mid hne (Nat.ne_of_gt hL.lt) c0 hr1 ht1) (fail)
  go_wp2
  go_ret
  exact ⟨rfl, by rw [HW.out]; exact HD.out.count hw, HC.out.set (.inl rfl) _⟩
set_option maxRecDepth 100000 in
set_option maxHeartbeats 2000000 in
theorem dwrite_tick (d L : Nat) (s : DiskS) (i : Nat) (v : Value) (bs : List UInt8) (w : World) (h : IsDisk w d L s) (hb : Bys w v bs) (hi : i < s.n) (hl : bs.length ≤ 32) (hdead : s.dead = false) (hst : s.stops = true) (hcnt : 0 < s.cnt) (hw : s.writes < 4611686018427387904) :
    Calls Tryz.prog 57 #[.pointer (some ⟨d, 0, none⟩), .int .i64 i, v] w fun e w' => e = .returned (.int .i64 0) ∧ IsDisk w' d L (s.write i bs) ∧ Chg (fun b => b = d ∨ b = L) w w' := by
  obtain ⟨cap, arr, hd, hc1, hcap, hL, r1, r2, r3, r4, r5, hne, r6, r7⟩ := id h
  have c1 : w.cell? ⟨d, 1, none⟩ = some (.bool false) := by rw [hd.cell, hdead]; rfl
  obtain ⟨a, c, rfl⟩ := hb.eq_slice
  have HW := Lib.hid (show s.write i bs = { s with cnt := s.cnt - 1, f := s.lay i bs 32, writes := s.writes + 1 } from by simp [DiskS.write, hst, Nat.ne_of_gt hcnt])
  obtain ⟨l, hl'⟩ : ∃ l, l = bs.length := ⟨_, rfl⟩
  rw [← hl'] at hl hb ⊢
  have Hl := Lib.hid hl'; have Hst := Lib.hid hst
  have i1 : (0 : Int) ≤ (i : Int) := by omega
  have i2 : (i : Int) < (s.n : Int) := by omega
  have t1 : ((s.cnt : Int) == 0) = false := by simp; omega
  have t2 : (0 : Int) < (s.cnt : Int) := by omega
  clear hdead hst hl'
  go_enter Tryz.func57, Tryz.ntmps57
  go_wp2_with fail
  refine (may_calls d L s i w h true (DiskS.may_yes hi)).mono ?_
  rintro e w1 ⟨rfl, rfl⟩
  go_wp2_with (refine copy_row (o := ⟨some 25, _, _, _, _, _⟩) rfl (.tmp 23) (.tmp 24) 29 29 rfl 5 Tryz.underlying29 E8s rfl rfl (to_new _) (hb.below ((Below.refl _ _).alloc (Nat.le_refl _) _)) ?c1 ?c2 ?_)
  case c1 => have := Hl.out; omega
  case c2 => omega
  intro w1 hB1 hb1
  have hb1 : Below w.heap.size w w1 := ((Below.refl _ _).alloc (Nat.le_refl _) _).trans hb1
  have h0 := h.below hb1
  have hd1 := hd.kept hb1
  have c2 : w1.cell? ⟨d, 2, none⟩ = some (.bool true) := by rw [hd1.cell, Hst.out]; rfl
  have c3 : w1.cell? ⟨d, 3, none⟩ = some (.int .i64 (s.cnt : Int)) := by rw [hd1.cell]; rfl
  have f3 := hd1.free 3
  have h1 := h0.tick hcnt
  have hd1' := hd1
  obtain ⟨w2, hw2⟩ : ∃ w2, w2 = w1.setCell ⟨d, 3, none⟩ (.int .i64 ((s.cnt : Int) - 1)) := ⟨_, rfl⟩
  rw [← hw2] at h1
  have hlt : d < w.heap.size := hd.lt
  have hB2 : Blk w2 w.heap.size (rowArr 32 fun k => if k < bs.length then bs.getD k 0 else 0) 82 := by rw [hw2]; exact hB1.set_other (show d ≠ w.heap.size by omega) _
  have hch2 : Chg (fun b => b = d ∨ b = L) w w2 := by rw [hw2]; exact (Chg.of_below hb1).set (.inl rfl) _
  have c0 : w2.cell? ⟨d, 0, none⟩ = some (.slice (some ⟨L, 0, none⟩) s.n cap) := by rw [hw2, (hd1.set 3 _).cell]; rfl
  have HB1 := Lib.hid hB1; have Hb1 := Lib.hid hb1; have Hd1 := Lib.hid hd1; have H0 := Lib.hid h0; have Hw2 := Lib.hid hw2
  clear hB1 hb1 hd1 h0 c1 hd1' hw2
  obtain ⟨cs, Hcs, hcl, hone, hr1, ht1, _⟩ := write_facts (i := i) h1 hi hB2 32 (Nat.le_refl _)
  have hu := Tryz.underlying82
  have hi32 : (Tryz.prog.info? 82).map (·.size) = some cs.length := by rw [hcl]; exact i32
  have hD := h1.laid (show i < _ from hi) bs (Nat.le_refl 32) Hcs.out 1
  have hC := Chg.setCells (S := fun b => b = d ∨ b = L) (L := L) (.inr rfl) cs (i * 32) _ hch2.drew
  have hD : IsDisk (w2.drew.setCells L (i * 32) cs) d L { s with cnt := s.cnt - 1, f := s.lay i bs 32 } := hD
  obtain ⟨cap', arr', hd2, _⟩ := id hD
  have c5 : (w2.drew.setCells L (i * 32) cs).cell? ⟨d, 5, none⟩ = some (.int .i64 (s.writes : Int)) := by rw [hd2.cell]; rfl
  have f5 := hd2.free 5
  have HD := Lib.hid hD; have HC := Lib.hid hC; have HB2 := Lib.hid hB2; have H1 := Lib.hid h1; have Hd2 := Lib.hid hd2; have Hch := Lib.hid hch2
  clear hD hC hB2 h1 hd2 hch2
  go_upto_region 13 with fail
  rw [← Hw2.out]
  go_region_held3 (fun w' => w'.cell? ⟨d, 0, none⟩ = some (.slice (some ⟨L, 0, none⟩) s.n cap) ∧ w'.rangeAt w.heap.size 0 cs ∧ w'.there L (i * 32) 32) (first | exact ⟨c0, hr1, ht1⟩ | exact keep_mid hne (Nat.ne_of_gt hL.lt) c0 hr1 ht1) (fail)
  go_wp2
  go_ret
  exact ⟨rfl, by rw [HW.out]; exact HD.out.count hw, HC.out.set (.inl rfl) _⟩
set_option maxRecDepth 100000 in
set_option maxHeartbeats 2000000 in
theorem dwrite_tear (d L : Nat) (s : DiskS) (i : Nat) (v : Value) (bs : List UInt8) (w : World) (h : IsDisk w d L s) (hb : Bys w v bs) (hi : i < s.n) (hl : bs.length ≤ 32) (hdead : s.dead = false) (hst : s.stops = true) (hcnt : s.cnt = 0) :
    Calls Tryz.prog 57 #[.pointer (some ⟨d, 0, none⟩), .int .i64 i, v] w fun e w' => e = .returned (.int .i64 8) ∧ IsDisk w' d L (s.write i bs) ∧ Chg (fun b => b = d ∨ b = L) w w' := by
  obtain ⟨cap, arr, hd, hc1, hcap, hL, r1, r2, r3, r4, r5, hne, r6, r7⟩ := id h
  have c1 : w.cell? ⟨d, 1, none⟩ = some (.bool false) := by rw [hd.cell, hdead]; rfl
  obtain ⟨a, c, rfl⟩ := hb.eq_slice
  have HW := Lib.hid (show s.write i bs = { s with f := s.lay i bs s.keep, dead := true } from by simp [DiskS.write, hst, hcnt])
  obtain ⟨l, hl'⟩ : ∃ l, l = bs.length := ⟨_, rfl⟩
  rw [← hl'] at hl hb ⊢
  have Hl := Lib.hid hl'; have Hst := Lib.hid hst; have Hcnt := Lib.hid hcnt
  have i1 : (0 : Int) ≤ (i : Int) := by omega
  have i2 : (i : Int) < (s.n : Int) := by omega
  have k1 : (0 : Int) ≤ (s.keep : Int) := by omega
  have k2 : (s.keep : Int) ≤ 32 := by omega
  clear hdead hst hl' hcnt
  go_enter Tryz.func57, Tryz.ntmps57
  go_wp2_with fail
  refine (may_calls d L s i w h true (DiskS.may_yes hi)).mono ?_
  rintro e w1 ⟨rfl, rfl⟩
  go_wp2_with (refine copy_row (o := ⟨some 25, _, _, _, _, _⟩) rfl (.tmp 23) (.tmp 24) 29 29 rfl 5 Tryz.underlying29 E8s rfl rfl (to_new _) (hb.below ((Below.refl _ _).alloc (Nat.le_refl _) _)) ?c1 ?c2 ?_)
  case c1 => have := Hl.out; omega
  case c2 => omega
  intro w1 hB1 hb1
  have hb1 : Below w.heap.size w w1 := ((Below.refl _ _).alloc (Nat.le_refl _) _).trans hb1
  have h1 := h.below hb1
  have hd1 := hd.kept hb1
  have c0 : w1.cell? ⟨d, 0, none⟩ = some (.slice (some ⟨L, 0, none⟩) s.n cap) := by rw [hd1.cell]; rfl
  have c2 : w1.cell? ⟨d, 2, none⟩ = some (.bool true) := by rw [hd1.cell, Hst.out]; rfl
  have c3 : w1.cell? ⟨d, 3, none⟩ = some (.int .i64 0) := by rw [hd1.cell, Hcnt.out]; rfl
  have c4 : w1.cell? ⟨d, 4, none⟩ = some (.int .i64 (s.keep : Int)) := by rw [hd1.cell]; rfl
  obtain ⟨cs, Hcs, hcl, hone, hr1, ht1, hsrc⟩ := write_facts (i := i) h1 hi hB1 s.keep r5
  have ht1 : w1.there L (i * 32) cs.length := fun j hj => ht1 j (by rw [hcl] at hj; omega)
  have hD := h1.laid hi bs r5 Hcs.out 1
  have hC := Chg.setCells (S := fun b => b = d ∨ b = L) (L := L) (.inr rfl) cs (i * 32) _ (Chg.drew (Chg.of_below (S := fun b => b = d ∨ b = L) hb1))
  have hD : IsDisk (w1.drew.setCells L (i * 32) cs) d L { s with f := s.lay i bs s.keep } := hD
  obtain ⟨cap', arr', hd2, _⟩ := id hD
  have c5 : (w1.drew.setCells L (i * 32) cs).cell? ⟨d, 1, none⟩ = some (.bool s.dead) := by rw [hd2.cell]; rfl
  have f5 := hd2.free 1
  have HD := Lib.hid hD; have HC := Lib.hid hC; have HB1 := Lib.hid hB1; have Hb1 := Lib.hid hb1; have Hd1 := Lib.hid hd1; have H1 := Lib.hid h1; have Hd2 := Lib.hid hd2; have Hcl := Lib.hid hcl; have Hsrc := Lib.hid hsrc; have Hone := Lib.hid hone; have Ht := Lib.hid ht1
  clear hD hC hB1 hb1 hd1 h1 hd2 c1 hcl hsrc hr1 hone ht1
  go_wp2_with fail
  go_region_held3 (fun w' => w'.cell? ⟨d, 0, none⟩ = some (.slice (some ⟨L, 0, none⟩) s.n cap) ∧ w'.cell? ⟨d, 4, none⟩ = some (.int .i64 (s.keep : Int))) (first | exact ⟨c0, c4⟩ | assumption | exact ⟨by rw [World.cell?_setCells_out _ _ _ _ _ (fun e => absurd e hne)]; exact c0, by rw [World.cell?_setCells_out _ _ _ _ _ (fun e => absurd e hne)]; exact c4⟩)
    (first
      | (refine step_copy_set (by rfl) _ _ _ _ 5 (by rfl) Tryz.underlying29 E8s (b := L) (off := i * 32) (sa := ⟨w.heap.size, 0, none⟩) cs (by rfl) (by rfl) (by rw [Hcl.out]; exact (Nat.min_self _).symm) Hsrc.out Ht.out Hone.out ?_))
  go_wp2
  go_ret
  exact ⟨rfl, by rw [HW.out]; exact HD.out.die, HC.out.set (.inl rfl) _⟩
theorem dwrite_calls (d L : Nat) (s : DiskS) (i : Nat) (v : Value) (bs : List UInt8) (w : World) (h : IsDisk w d L s) (hb : Bys w v bs) (hi : i < s.n) (hl : bs.length ≤ 32) (hdead : s.dead = false) (hw : s.writes < 4611686018427387904) :
    Calls Tryz.prog 57 #[.pointer (some ⟨d, 0, none⟩), .int .i64 i, v] w fun e w' => e = .returned (.int .i64 (if s.stops = true ∧ s.cnt = 0 then 8 else 0)) ∧ IsDisk w' d L (s.write i bs) ∧ Chg (fun b => b = d ∨ b = L) w w' := by
  by_cases hs : s.stops = true
  · by_cases hc : s.cnt = 0
    · rw [if_pos ⟨hs, hc⟩]; exact dwrite_tear d L s i v bs w h hb hi hl hdead hs hc
    · rw [if_neg (fun e => hc e.2)]; exact dwrite_tick d L s i v bs w h hb hi hl hdead hs (by omega) hw
  · rw [if_neg (fun e => hs e.1)]; exact dwrite_plain d L s i v bs w h hb hi hl hdead (by simpa using hs) hw
end Go.Proofs.YtehgnkdfnnebcaaGreatDoor
end
section
namespace Go.Mem
open Go Go.RowKit Gf
theorem lay_same (s : DiskS) (i : Nat) (bs : List UInt8) (m k : Nat) : s.lay i bs m (i * 32 + k) = if k < m then bs.getD k 0 else s.f (i * 32 + k) := by
  unfold DiskS.lay
  by_cases h : k < m
  · rw [if_pos (by omega), if_pos h, show i * 32 + k - i * 32 = k from by omega]
  · rw [if_neg (by omega), if_neg h]
theorem sector_get (s : DiskS) (i k : Nat) (hk : k < 32) : (s.sector i)[k]? = some (s.f (i * 32 + k)) := rowL_get _ _ _ hk
theorem sector_len (s : DiskS) (i : Nat) : (s.sector i).length = 32 := rowL_len _ _
theorem bys_lit {w : World} {t : TypeId} {bs : List UInt8} (arr : Array Value) (h : arr = (bV bs).toArray) (hl : bs.length ≤ 1000) (n : Nat) (hn : n = bs.length) : Bys (w.alloc (.cells arr t)) (.slice (some ⟨w.heap.size, 0, none⟩) n n) bs := by
  subst hn
  refine (Blk.new w arr t).bys (Nat.le_refl _) (maxLen_ge (by omega)) fun i u hi => ?_
  rw [h]
  simp [bV_get, hi]
end Go.Mem
namespace Go.Proofs.YtehgnkdfnnebcaaGreatDoor
open Go Go.RowKit Go.Mem Gf
attribute [local go_sem ↓] Go.wp_at_zero Go.wp_at_succ
end Go.Proofs.YtehgnkdfnnebcaaGreatDoor
end
section
namespace Go.Proofs.YtehgnkdfnnebcaaGreatDoor
open Go Go.RowKit Go.Mem Gf
attribute [local go_sem ↓] Go.wp_at_zero Go.wp_at_succ
def RDisk (w : World) (r B : Nat) (s : DiskS) : Prop :=
  ∃ (cap : Nat) (atv : Int) (arr : Array Value), Blk w r #[.slice (some ⟨B, 0, none⟩) (s.n * 32) cap, .bool s.dead, .bool s.stops, .int .i64 atv, .int .i64 s.keep, .int .i64 s.writes] 52 ∧ s.n * 32 ≤ cap ∧ cap ≤ 9223372036854775807 ∧ Blk w B arr 5 ∧ s.n * 32 ≤ arr.size ∧
    (∀ j, j < s.n * 32 → arr[j]? = some (.int .u8 ((s.f j).toNat : Int))) ∧ 1 ≤ s.n ∧ s.n ≤ 4096 ∧ s.keep ≤ 32 ∧ r ≠ B ∧ (s.stops = true → atv = s.cnt) ∧ -(s.writes : Int) ≤ atv ∧ atv ≤ 9223372036854775807 ∧ s.writes ≤ 4611686018427387904
theorem RDisk.chg {w w' : World} {r B : Nat} {s : DiskS} {S : Nat → Prop} (h : RDisk w r B s) (hc : Chg S w w') (h1 : ¬ S r) (h2 : ¬ S B) : RDisk w' r B s := by
  obtain ⟨cap, atv, arr, hd, a, b, hL, r⟩ := h
  exact ⟨cap, atv, arr, hc.blk hd h1, a, b, hc.blk hL h2, r⟩
theorem RDisk.below {w w' : World} {r B : Nat} {s : DiskS} (h : RDisk w r B s) (hc : Below w.heap.size w w') : RDisk w' r B s := h.chg (S := fun _ => False) (Chg.of_below hc) id id
theorem RDisk.drewN {w : World} {r B : Nat} {s : DiskS} (h : RDisk w r B s) (m : Nat) : RDisk (w.drewN m) r B s := h
theorem RDisk.lt {w : World} {r B : Nat} {s : DiskS} (h : RDisk w r B s) : r < w.heap.size ∧ B < w.heap.size := by
  obtain ⟨cap, atv, arr, hd, a, b, hL, _⟩ := h
  exact ⟨hd.lt, hL.lt⟩
theorem RDisk.sector {w : World} {r B : Nat} {s : DiskS} (h : RDisk w r B s) (i : Nat) (hi : i < s.n) (c : Nat) (hc : 32 ≤ c) (hm : c ≤ maxLen) : Bys w (.slice (some ⟨B, i * 32, none⟩) 32 c) (s.sector i) := by
  obtain ⟨cap, atv, arr, hd, a, b, hL, r1, r2, r3⟩ := h
  exact hL.mid_bys hc hm fun k hk => r2 _ (by omega)
theorem RDisk.set {w : World} {r B : Nat} {s : DiskS} (h : RDisk w r B s) (x : Nat) (u : UInt8) : RDisk (w.setCell ⟨B, x, none⟩ (.int .u8 (u.toNat : Int))) r B { s with f := fun j => if j = x then u else s.f j } := by
  obtain ⟨cap, atv, arr, hd, a, b, hL, r1, r2, r3, r4, r5, hne, r6⟩ := h
  refine ⟨cap, atv, _, hd.set_other (fun e => hne e.symm) _, a, b, hL.set x _, by rw [Array.size_setIfInBounds]; exact r1, fun j hj => ?_, r3, r4, r5, hne, r6⟩
  have hj : j < s.n * 32 := hj
  rw [Array.getElem?_setIfInBounds]
  by_cases e : x = j
  · subst e; simp; omega
  · rw [if_neg e, r2 j hj]
    show some (Value.int .u8 ((s.f j).toNat : Int)) = some (Value.int .u8 ((if j = x then u else s.f j).toNat : Int))
    rw [if_neg (fun e' => e e'.symm)]
set_option maxRecDepth 100000 in
set_option maxHeartbeats 1000000 in
theorem rlen_calls (r B : Nat) (s : DiskS) (w : World) (h : RDisk w r B s) :
    Calls Tryz.prog 20 #[.pointer (some ⟨r, 0, none⟩)] w fun e w' => e = .returned (.int .i64 (s.n : Int)) ∧ w = w' := by
  obtain ⟨cap, atv, arr, hd, a, b, hL, _, _, hn1, hn2, _⟩ := h
  have c0 : w.cell? ⟨r, 0, none⟩ = some (.slice (some ⟨B, 0, none⟩) (s.n * 32) cap) := by rw [hd.cell]; rfl
  go_enter Tryz.func20, Tryz.ntmps20
  go_wp2
  go_ret
  refine ⟨ret_int ?_, rfl⟩
  first | omega | (simp; omega) | (push_cast; omega)
set_option maxRecDepth 100000 in
set_option maxHeartbeats 1000000 in
theorem rstart_calls (r B : Nat) (s : DiskS) (w : World) (h : RDisk w r B s) :
    Calls Tryz.prog 29 #[.pointer (some ⟨r, 0, none⟩)] w fun e w' => e = .returned (.tuple #[]) ∧ RDisk w' r B s.start ∧ Chg (fun b => b = r) w w' := by
  obtain ⟨cap, atv, arr, hd, a, b, hL, r1, r2, r3, r4, r5, hne, r6, r7, r8, r9⟩ := h
  have c1 : w.cell? ⟨r, 1, none⟩ = some (.bool s.dead) := by rw [hd.cell]; rfl
  have c2 : w.cell? ⟨r, 2, none⟩ = some (.bool s.stops) := by rw [hd.cell]; rfl
  have c3 : w.cell? ⟨r, 3, none⟩ = some (.int .i64 atv) := by rw [hd.cell]; rfl
  have f1 := hd.free 1
  have f2 := hd.free 2
  have f3 := hd.free 3
  clear r6
  go_enter Tryz.func29, Tryz.ntmps29
  go_wp2
  go_end0
  exact ⟨rfl, ⟨cap, 0, arr, ((hd.set 1 (.bool false)).set 2 (.bool false)).set 3 (.int .i64 0), a, b, ((hL.set_other hne _).set_other hne _).set_other hne _, r1, r2, r3, r4, r5, hne, (fun h => by cases h), by show -(s.writes : Int) ≤ 0; omega, by omega, r9⟩, (((Chg.refl (fun b => b = r) _).set rfl _).set rfl _).set rfl _⟩
theorem RDisk.stopped {r B : Nat} {s : DiskS} {x y X Y : Int} {w : World} (h : RDisk w r B s) (hx : x ≤ 9223372036854775807) (hX : ((max 0 x).toNat : Int) = X) (hY : ((max 0 (min y 32)).toNat : Int) = Y) :
    RDisk (((w.setCell ⟨r, 2, none⟩ (.bool true)).setCell ⟨r, 3, none⟩ (.int .i64 X)).setCell ⟨r, 4, none⟩ (.int .i64 Y)) r B (s.stop x y) := by
  obtain ⟨cap, atv, arr, hd, a, b, hL, r1, r2, r3, r4, r5, hne, r6, r7, r8, r9⟩ := h
  subst hX hY
  exact ⟨cap, _, arr, ((hd.set 2 _).set 3 _).set 4 _, a, b, ((hL.set_other hne _).set_other hne _).set_other hne _, r1, r2, r3, r4, by show (max 0 (min y 32)).toNat ≤ 32; omega, hne, fun _ => rfl, by show -(s.writes : Int) ≤ _; omega, by omega, r9⟩
set_option maxRecDepth 100000 in
set_option maxHeartbeats 1000000 in
theorem rstop_calls (r B : Nat) (s : DiskS) (x y : Int) (w : World) (hD : RDisk w r B s) (hx : x ≤ 9223372036854775807) :
    Calls Tryz.prog 27 #[.pointer (some ⟨r, 0, none⟩), .int .i64 x, .int .i64 y] w fun e w' => e = .returned (.tuple #[]) ∧ RDisk w' r B (s.stop x y) ∧ Chg (fun b => b = r) w w' := by
  obtain ⟨cap, atv, arr, hd, _⟩ := id hD
  have c1 : w.cell? ⟨r, 2, none⟩ = some (.bool s.stops) := by rw [hd.cell]; rfl
  have c2 : w.cell? ⟨r, 3, none⟩ = some (.int .i64 atv) := by rw [hd.cell]; rfl
  have c3 : w.cell? ⟨r, 4, none⟩ = some (.int .i64 s.keep) := by rw [hd.cell]; rfl
  have f1 := hd.free 2
  have f2 := hd.free 3
  have f3 := hd.free 4
  go_enter Tryz.func27, Tryz.ntmps27
  go_wp2
  all_goals
    go_end0
    exact ⟨rfl, hD.stopped hx (by omega) (by omega), (((Chg.refl (fun b => b = r) _).set rfl _).set rfl _).set rfl _⟩
set_option maxRecDepth 100000 in
set_option maxHeartbeats 1000000 in
theorem rnew_calls (n : Nat) (w : World) (h1 : 1 ≤ n) (h2 : n ≤ 4096) :
    Calls Tryz.prog 10 #[.int .i64 n] w fun e w' => ∃ r B, e = .returned (.tuple #[.pointer (some ⟨r, 0, none⟩), .bool true]) ∧ RDisk w' r B (.fresh n) ∧ w.heap.size ≤ r ∧ w.heap.size ≤ B ∧ Below w.heap.size w w' := by
  have hmk : ∀ w, (Instr.makeSlice 29 (.int .i64 ((n : Int) * 32)) (.int .i64 ((n : Int) * 32))).run Tryz.prog w = .ok (.slice (some ⟨w.heap.size, 0, none⟩) (n * 32) (n * 32)) (w.alloc (.cells (rowArr (n * 32) fun _ => 0) 5)) := fun w => by
    have := make_bytes (P := Tryz.prog) 29 5 Tryz.underlying29 E8k (n * 32) (by omega) w
    rw [rowArr_zero] at this
    simpa using this
  have t1 : decide ((n : Int) < 1) = false := by simp; omega
  have t2 : decide ((4096 : Int) < (n : Int)) = false := by simp; omega
  go_enter Tryz.func10, Tryz.ntmps10
  go_wp2
  go_ret2
  have hL : Blk (w.alloc (.cells (rowArr (n * 32) fun _ => 0) 5)) w.heap.size (rowArr (n * 32) fun _ => 0) 5 := Blk.new _ _ _
  exact ⟨_, _, rfl, ⟨n * 32, 0, rowArr (n * 32) fun _ => 0, Blk.new_at _ _ _ _ (by simp), Nat.le_refl _, by omega, hL.alloc _, by rw [rowArr_size]; exact Nat.le_refl _, fun j hj => rowArr_get _ _ _ hj, h1, h2, Nat.zero_le _, by omega, (fun h => by cases h), by show -((0 : Nat) : Int) ≤ 0; decide, by decide, Nat.zero_le _⟩, by omega, Nat.le_refl _,
    ((Below.refl _ _).alloc (Nat.le_refl _) _).alloc (by simp) _⟩
set_option maxRecDepth 100000 in
set_option maxHeartbeats 1000000 in
theorem rread_bad (r B : Nat) (s : DiskS) (i : Int) (w : World) (h : RDisk w r B s) (hi : i < 0 ∨ (s.n : Int) ≤ i) :
    Calls Tryz.prog 22 #[.pointer (some ⟨r, 0, none⟩), .int .i64 i] w fun e w' => e = .returned (.tuple #[.slice none 0 0, .int .i64 1]) ∧ w = w' := by
  by_cases h0 : i < 0
  · go_enter Tryz.func22, Tryz.ntmps22
    go_wp2
    go_ret2
    exact ⟨rfl, rfl⟩
  · go_enter Tryz.func22, Tryz.ntmps22
    go_wp2_with (go_at_call 20; refine (rlen_calls r B s _ h).mono ?_; rintro e w1 ⟨rfl, rfl⟩)
    go_ret2
    exact ⟨rfl, rfl⟩
set_option maxRecDepth 100000 in
set_option maxHeartbeats 1000000 in
theorem rread_dead (r B : Nat) (s : DiskS) (i : Nat) (w : World) (h : RDisk w r B s) (hi : i < s.n) (hdead : s.dead = true) :
    Calls Tryz.prog 22 #[.pointer (some ⟨r, 0, none⟩), .int .i64 i] w fun e w' => e = .returned (.tuple #[.slice none 0 0, .int .i64 8]) ∧ w = w' := by
  obtain ⟨cap, atv, arr, hd, _⟩ := id h
  have c1 : w.cell? ⟨r, 1, none⟩ = some (.bool true) := by rw [hd.cell, hdead]; rfl
  clear hdead
  go_enter Tryz.func22, Tryz.ntmps22
  go_wp2_with (go_at_call 20; refine (rlen_calls r B s _ h).mono ?_; rintro e w1 ⟨rfl, rfl⟩)
  go_ret2
  exact ⟨rfl, rfl⟩
set_option maxRecDepth 100000 in
set_option maxHeartbeats 1000000 in
theorem rread_calls (r B : Nat) (s : DiskS) (i : Nat) (w : World) (h : RDisk w r B s) (hi : i < s.n) (hdead : s.dead = false) :
    Calls Tryz.prog 22 #[.pointer (some ⟨r, 0, none⟩), .int .i64 i] w fun e w' => ∃ v, e = .returned (.tuple #[v, .int .i64 0]) ∧ OwnF 5 w' w.heap.size v (s.sector i) ∧ Below w.heap.size w w' := by
  obtain ⟨cap, atv, arr, hd, hc1, hc2, _, _, _, hn1, hn2, _⟩ := id h
  have c0 : w.cell? ⟨r, 0, none⟩ = some (.slice (some ⟨B, 0, none⟩) (s.n * 32) cap) := by rw [hd.cell]; rfl
  have c1 : w.cell? ⟨r, 1, none⟩ = some (.bool false) := by rw [hd.cell, hdead]; rfl
  have hsec : Bys w (.slice (some ⟨B, i * 32, none⟩) ((i + 1) * 32 - i * 32) (cap - i * 32)) (s.sector i) := by
    rw [show (i + 1) * 32 - i * 32 = 32 from by omega]
    exact h.sector i hi (cap - i * 32) (by omega) (maxLen_ge (by omega))
  have i1 : (0 : Int) ≤ (i : Int) * 32 := by omega
  have i2 : (i : Int) * 32 ≤ ((i : Int) + 1) * 32 := by omega
  have i3 : ((i : Int) + 1) * 32 ≤ (cap : Int) := by omega
  clear hdead
  go_enter Tryz.func22, Tryz.ntmps22
  go_wp2_with fail
  refine (rlen_calls r B s _ h).mono ?_
  rintro e w1 ⟨rfl, rfl⟩
  go_wp2_with (at_builtin; refine appF E8 rfl _ _ rfl (base := w.heap.size) (bs := []) (news := s.sector i) rfl rfl (OwnF.nil _ _ _) hsec ?q1 ?q2 ?_)
  case q1 => simp [DiskS.sector, rowL_len]
  case q2 => exact Nat.le_refl _
  intro v' w' hown hg
  go_wp2
  go_ret2
  exact ⟨_, rfl, hown, grown_none hg rfl⟩
theorem RDisk.die {r B : Nat} {s : DiskS} {w : World} (h : RDisk w r B s) : RDisk (w.setCell ⟨r, 1, none⟩ (.bool true)) r B { s with dead := true } := by
  obtain ⟨cap, atv, arr, hd, a, b, hL, r1, r2, r3, r4, r5, hne, r6⟩ := h
  exact ⟨cap, atv, arr, hd.set 1 (.bool true), a, b, hL.set_other hne _, r1, r2, r3, r4, r5, hne, r6⟩
theorem lay_succ (s : DiskS) (i : Nat) (bs : List UInt8) (m : Nat) : s.lay i bs (m + 1) = fun j => if j = i * 32 + m then bs.getD m 0 else s.lay i bs m j := by
  funext j
  unfold DiskS.lay
  by_cases e : j = i * 32 + m
  · subst e; rw [if_pos (by omega), if_pos rfl, show i * 32 + m - i * 32 = m from by omega]
  · rw [if_neg e]
    by_cases e2 : i * 32 ≤ j ∧ j < i * 32 + m
    · rw [if_pos e2, if_pos (by omega)]
    · rw [if_neg e2, if_neg (by omega)]
theorem lay_zero (s : DiskS) (i : Nat) (bs : List UInt8) : s.lay i bs 0 = s.f := by
  funext j; unfold DiskS.lay; rw [if_neg (by omega)]
set_option maxRecDepth 100000 in
set_option maxHeartbeats 1000000 in
theorem rwrite_bad (r B : Nat) (s : DiskS) (i : Int) (v : Value) (bs : List UInt8) (w : World) (h : RDisk w r B s) (hb : Bys w v bs) (hi : (i < 0 ∨ (s.n : Int) ≤ i) ∨ 32 < bs.length) :
    Calls Tryz.prog 55 #[.pointer (some ⟨r, 0, none⟩), .int .i64 i, v] w fun e w' => e = .returned (.int .i64 1) ∧ w = w' := by
  obtain ⟨a, c, rfl⟩ := hb.eq_slice
  obtain ⟨l, hl⟩ : ∃ l, l = bs.length := ⟨_, rfl⟩
  rw [← hl] at hi ⊢
  clear hl
  by_cases h0 : i < 0
  · go_enter Tryz.func55, Tryz.ntmps55
    go_wp2
    go_ret
    exact ⟨rfl, rfl⟩
  · by_cases hm : (s.n : Int) ≤ i
    · clear hi
      go_enter Tryz.func55, Tryz.ntmps55
      go_wp2_with fail
      refine (rlen_calls r B s _ h).mono ?_
      rintro e w1 ⟨rfl, rfl⟩
      go_wp2
      go_ret
      exact ⟨rfl, rfl⟩
    · have hl : 32 < l := by omega
      clear hi
      go_enter Tryz.func55, Tryz.ntmps55
      go_wp2_with fail
      refine (rlen_calls r B s _ h).mono ?_
      rintro e w1 ⟨rfl, rfl⟩
      go_wp2
      go_ret
      exact ⟨rfl, rfl⟩
set_option maxRecDepth 100000 in
set_option maxHeartbeats 1000000 in
theorem rwrite_dead (r B : Nat) (s : DiskS) (i : Nat) (v : Value) (bs : List UInt8) (w : World) (h : RDisk w r B s) (hb : Bys w v bs) (hi : i < s.n) (hl : bs.length ≤ 32) (hdead : s.dead = true) :
    Calls Tryz.prog 55 #[.pointer (some ⟨r, 0, none⟩), .int .i64 i, v] w fun e w' => e = .returned (.int .i64 8) ∧ w = w' := by
  obtain ⟨a, c, rfl⟩ := hb.eq_slice
  obtain ⟨l, hl'⟩ : ∃ l, l = bs.length := ⟨_, rfl⟩
  rw [← hl'] at hl ⊢
  clear hl'
  obtain ⟨cap, atv, arr, hd, _⟩ := id h
  have c1 : w.cell? ⟨r, 1, none⟩ = some (.bool true) := by rw [hd.cell, hdead]; rfl
  clear hdead
  go_enter Tryz.func55, Tryz.ntmps55
  go_wp2_with fail
  refine (rlen_calls r B s _ h).mono ?_
  rintro e w1 ⟨rfl, rfl⟩
  go_wp2
  go_ret
  exact ⟨rfl, rfl⟩
theorem RDisk.more {r B : Nat} {s : DiskS} {w : World} {cap : Nat} {atv : Int} (hd : Blk w r #[.slice (some ⟨B, 0, none⟩) (s.n * 32) cap, .bool s.dead, .bool s.stops, .int .i64 atv, .int .i64 s.keep, .int .i64 s.writes] 52) (h : RDisk w r B s) (hw : s.writes < 4611686018427387904) (hc : s.stops = true → 0 < s.cnt) :
    RDisk ((w.setCell ⟨r, 3, none⟩ (.int .i64 (atv - 1))).setCell ⟨r, 5, none⟩ (.int .i64 ((s.writes : Int) + 1))) r B { s with cnt := if s.stops then s.cnt - 1 else s.cnt, writes := s.writes + 1 } := by
  obtain ⟨cap', atv', arr', hd', a, b, hL, r1, r2, r3, r4, r5, hne, r6, r7, r8, r9⟩ := h
  have e := hd.symm.trans hd'
  injection e with e
  injection e with e1 e2
  simp at e1
  obtain ⟨rfl, rfl⟩ := e1
  refine ⟨cap, atv - 1, arr', ?_, a, b, (hL.set_other hne _).set_other hne _, r1, r2, r3, r4, r5, hne, fun hs => ?_, by show -((s.writes + 1 : Nat) : Int) ≤ _; omega, by omega, by show s.writes + 1 ≤ _; omega⟩
  · have := (hd.set 3 (.int .i64 (atv - 1))).set 5 (.int .i64 ((s.writes : Int) + 1))
    simpa using this
  · have hs : s.stops = true := hs
    have := r6 hs
    have := hc hs
    show atv - 1 = ((if s.stops = true then s.cnt - 1 else s.cnt : Nat) : Int)
    rw [if_pos hs]; omega
set_option maxRecDepth 20000 in
set_option maxHeartbeats 4000000 in
theorem rwrite_calls (r B : Nat) (s : DiskS) (i : Nat) (v : Value) (bs : List UInt8) (w : World) (h : RDisk w r B s) (hb : Bys w v bs) (hkeep : ∀ w', Chg (fun b => b = B) w w' → Bys w' v bs) (hi : i < s.n) (hl : bs.length ≤ 32) (hdead : s.dead = false) (hw : s.writes < 4611686018427387904) :
    Calls Tryz.prog 55 #[.pointer (some ⟨r, 0, none⟩), .int .i64 i, v] w fun e w' => e = .returned (.int .i64 (if s.stops = true ∧ s.cnt = 0 then 8 else 0)) ∧ RDisk w' r B (s.write i bs) ∧ Chg (fun b => b = r ∨ b = B) w w' := by
  obtain ⟨a, c, rfl⟩ := hb.eq_slice
  obtain ⟨cap, atv, arr, hd, hc1, hc2, hB, _, _, hn1, hn2, hk, hne, hat, hlo, hhi, _⟩ := id h
  obtain ⟨l, hl'⟩ : ∃ l, l = bs.length := ⟨_, rfl⟩
  rw [← hl'] at hl hb hkeep ⊢
  have Hl := Lib.hid hl'; have Hkeep := Lib.hid hkeep; have Hat := Lib.hid hat
  clear hl' hkeep hat
  have c1 : w.cell? ⟨r, 1, none⟩ = some (.bool false) := by rw [hd.cell, hdead]; rfl
  have c2 : w.cell? ⟨r, 2, none⟩ = some (.bool s.stops) := by rw [hd.cell]; rfl
  have c3 : w.cell? ⟨r, 3, none⟩ = some (.int .i64 atv) := by rw [hd.cell]; rfl
  have c4 : w.cell? ⟨r, 4, none⟩ = some (.int .i64 (s.keep : Int)) := by rw [hd.cell]; rfl
  have Hdead := Lib.hid hdead
  clear hdead
  have hcase : (s.stops = true ∧ s.cnt = 0 ∧ atv = 0) ∨ (s.stops = true ∧ 0 < s.cnt ∧ (atv == 0) = false) ∨ s.stops = false := by
    by_cases h1 : s.stops = true
    · have := Hat.out h1
      by_cases h2 : s.cnt = 0
      · exact .inl ⟨h1, h2, by omega⟩
      · exact .inr (.inl ⟨h1, by omega, by simp; omega⟩)
    · exact .inr (.inr (by simpa using h1))
  rcases hcase with ⟨hs, hcn, rfl⟩ | ⟨hs, hcn, hz⟩ | hs
  · rw [hs] at c2
    have Hr := Lib.hid (show s.write i bs = { s with f := s.lay i bs s.keep, dead := true } from by unfold DiskS.write; rw [if_pos ⟨hs, hcn⟩])
    rw [if_pos ⟨hs, hcn⟩]
    have Hs := Lib.hid hs
    obtain ⟨m, hm⟩ : ∃ m, m = s.keep := ⟨_, rfl⟩
    rw [← hm] at c4 hk
    have Hm := Lib.hid hm
    clear hs hcn hm
    go_enter Tryz.func55, Tryz.ntmps55
    go_wp2_with fail
    refine (rlen_calls r B s _ h).mono ?_
    rintro e w1 ⟨rfl, rfl⟩
    go_wp2_with fail
    go_loopw [8] (fun v wr => ∃ k : Nat, k ≤ m ∧ v = .int .i64 k ∧ RDisk wr r B { s with f := s.lay i bs k } ∧ Chg (fun b => b = B) w wr) (fun v _ => m - (intOf v).toNat)
    case atStart => exact ⟨0, by omega, rfl, by rw [lay_zero]; exact h, Chg.refl _ _⟩
    case round =>
      obtain ⟨k, hk', rfl, hR, hch⟩ := hrel
      have hdr := hch.blk hd (fun e => hne e)
      have d0 : wr.cell? ⟨r, 0, none⟩ = some (.slice (some ⟨B, 0, none⟩) (s.n * 32) cap) := by rw [hdr.cell]; rfl
      by_cases h0 : k < m
      · have hx : i * 32 + k < s.n * 32 := by omega
        obtain ⟨cap2, atv2, arr2, _, _, _, hB2, _, hf2, _⟩ := id hR
        have c5 : wr.cell? ⟨B, i * 32 + k, none⟩ = some (.int .u8 ((s.lay i bs k (i * 32 + k)).toNat : Int)) := by rw [hB2.cell]; exact hf2 _ hx
        have f5 := hB2.free (i * 32 + k)
        have hR1 := hR.set (i * 32 + k) 0
        have i1 : (0 : Int) ≤ (i : Int) * 32 + (k : Int) := by omega
        have i2 : (i : Int) * 32 + (k : Int) < (s.n : Int) * 32 := by omega
        obtain ⟨ws, hws⟩ : ∃ ws, ws = wr.setCell ⟨B, i * 32 + k, none⟩ (.int .u8 0) := ⟨_, rfl⟩
        have hchs : Chg (fun b => b = B) w ws := by rw [hws]; exact hch.set rfl _
        have hR1 : RDisk ws r B { s with f := fun j => if j = i * 32 + k then 0 else s.lay i bs k j } := by rw [hws]; exact hR1
        have hdr2 := hchs.blk hd (fun e => hne e)
        by_cases hkl : k < l
        · obtain ⟨bx, ox, u, rfl, hu, c6, _⟩ := (Hkeep.out ws hchs).at k (by have := Hl.out; omega)
          have d0' : ws.cell? ⟨r, 0, none⟩ = some (.slice (some ⟨B, 0, none⟩) (s.n * 32) cap) := by rw [hdr2.cell]; rfl
          obtain ⟨cap3, atv3, arr3, _, _, _, hB3, _, hf3, _⟩ := id hR1
          have c5' : ws.cell? ⟨B, i * 32 + k, none⟩ = some (.int .u8 0) := by rw [hB3.cell, hf3 _ hx]; simp
          have f5' := hB3.free (i * 32 + k)
          have i3 : (0 : Int) ≤ (k : Int) := by omega
          have i4 : (k : Int) < (l : Int) := by omega
          have Hfin := Lib.hid (show RDisk (ws.setCell ⟨B, i * 32 + k, none⟩ (.int .u8 (u.toNat : Int))) r B { s with f := s.lay i bs (k + 1) } from by
            have h3 := hR1.set (i * 32 + k) u
            have e : s.lay i bs (k + 1) = fun j => if j = i * 32 + k then u else (if j = i * 32 + k then 0 else s.lay i bs k j) := by
              rw [lay_succ]; funext j
              by_cases e : j = i * 32 + k
              · rw [if_pos e, if_pos e, List.getD_eq_getElem?_getD, hu.out]; rfl
              · rw [if_neg e, if_neg e, if_neg e]
            rw [e]; exact h3)
          have hset := Chg.drew (hchs.set (a := ⟨B, i * 32 + k, none⟩) rfl (.int .u8 (u.toNat : Int)))
          have e1 : (ws.setCell ⟨B, i * 32 + k, none⟩ (.int .u8 (u.toNat : Int))).drew.cell? ⟨r, 0, none⟩ = some (.slice (some ⟨B, 0, none⟩) (s.n * 32) cap) := by rw [(hset.blk hd (fun e => hne e)).cell]; rfl
          have e2 : (ws.setCell ⟨B, i * 32 + k, none⟩ (.int .u8 (u.toNat : Int))).drew.cell? ⟨bx, ox + k, none⟩ = some (.int .u8 (u.toNat : Int)) := by
            obtain ⟨b', o', u', e, hu', c', _⟩ := (Hkeep.out _ hset).at k (by have := Hl.out; omega)
            cases e
            have := hu.out.symm.trans hu'.out
            cases this
            exact c'
          have Hset := Lib.hid hset
          have Hws := Lib.hid hws
          have E12 := Lib.hid (And.intro e1 e2)
          clear hws hB2 hf2 hB3 hf3 hR1 hR hB hset e1 e2
          go_upto_region 13 with fail
          rw [← Hws.out]
          clear c5 f5 d0
          have q1 : IntKind.i64.wrap ((i : Int) * 32) = (i : Int) * 32 := IntWalk.i64_in _ (by omega)
          have q2 : IntKind.i64.wrap ((i : Int) * 32 + (k : Int)) = (i : Int) * 32 + (k : Int) := IntWalk.i64_in _ (by omega)
          have q3 : ((i : Int) * 32 + (k : Int)).toNat = i * 32 + k := by omega
          go_region_held3 (fun w' => w'.cell? ⟨r, 0, none⟩ = some (.slice (some ⟨B, 0, none⟩) (s.n * 32) cap) ∧ w'.cell? ⟨bx, ox + k, none⟩ = some (.int .u8 (u.toNat : Int))) (first | exact ⟨d0', c6⟩ | exact E12.out) (fail)
          clear q1 q2 q3
          go_wp2
          exact ⟨⟨k + 1, by omega, by go_num, Hfin.out, Hset.out⟩, by simp [intOf]; omega⟩
        · have Hfin := Lib.hid (show RDisk ws r B { s with f := s.lay i bs (k + 1) } from by
            have e : s.lay i bs (k + 1) = fun j => if j = i * 32 + k then 0 else s.lay i bs k j := by
              rw [lay_succ]; funext j
              by_cases e : j = i * 32 + k
              · rw [if_pos e, if_pos e, List.getD_eq_getElem?_getD, List.getElem?_eq_none (by have := Hl.out; omega)]; rfl
              · rw [if_neg e, if_neg e]
            rw [e]; exact hR1)
          have Hws := Lib.hid hws
          clear hws hB2 hf2 hR1 hR hB
          go_wp2
          exact ⟨⟨k + 1, by omega, by go_num, by rw [← Hws.out]; exact Hfin.out, by rw [← Hws.out]; exact hchs⟩, by simp [intOf]; omega⟩
      · obtain rfl : m = k := by omega
        have d1 : wr.cell? ⟨r, 1, none⟩ = some (.bool false) := by rw [hdr.cell, Hdead.out]; rfl
        have d2 : wr.cell? ⟨r, 2, none⟩ = some (.bool true) := by rw [hdr.cell, Hs.out]; rfl
        have d3 : wr.cell? ⟨r, 3, none⟩ = some (.int .i64 0) := by rw [hdr.cell]; rfl
        have f1 := hdr.free 1
        go_wp2
        go_ret
        exact ⟨rfl, by rw [Hr.out, show s.lay i bs s.keep = s.lay i bs m from by rw [Hm.out]]; exact hR.die, (hch.mono fun _ h => .inr h).set (.inl rfl) _⟩
  · rw [hs] at c2
    have Hr := Lib.hid (show s.write i bs = { s with f := s.lay i bs 32, cnt := if s.stops then s.cnt - 1 else s.cnt, writes := s.writes + 1 } from by unfold DiskS.write; rw [if_neg (by omega)])
    rw [if_neg (by omega)]
    have Hs := Lib.hid hs; have Hcn := Lib.hid hcn
    clear hs hcn
    go_enter Tryz.func55, Tryz.ntmps55
    go_wp2_with fail
    refine (rlen_calls r B s _ h).mono ?_
    rintro e w1 ⟨rfl, rfl⟩
    go_wp2_with fail
    go_loopw [8] (fun v wr => ∃ k : Nat, k ≤ 32 ∧ v = .int .i64 k ∧ RDisk wr r B { s with f := s.lay i bs k } ∧ Chg (fun b => b = B) w wr) (fun v _ => 32 - (intOf v).toNat)
    case atStart => exact ⟨0, by omega, rfl, by rw [lay_zero]; exact h, Chg.refl _ _⟩
    case round =>
      obtain ⟨k, hk', rfl, hR, hch⟩ := hrel
      have hdr := hch.blk hd (fun e => hne e)
      have d0 : wr.cell? ⟨r, 0, none⟩ = some (.slice (some ⟨B, 0, none⟩) (s.n * 32) cap) := by rw [hdr.cell]; rfl
      by_cases h0 : k < 32
      · have hx : i * 32 + k < s.n * 32 := by omega
        obtain ⟨cap2, atv2, arr2, _, _, _, hB2, _, hf2, _⟩ := id hR
        have c5 : wr.cell? ⟨B, i * 32 + k, none⟩ = some (.int .u8 ((s.lay i bs k (i * 32 + k)).toNat : Int)) := by rw [hB2.cell]; exact hf2 _ hx
        have f5 := hB2.free (i * 32 + k)
        have hR1 := hR.set (i * 32 + k) 0
        have i1 : (0 : Int) ≤ (i : Int) * 32 + (k : Int) := by omega
        have i2 : (i : Int) * 32 + (k : Int) < (s.n : Int) * 32 := by omega
        obtain ⟨ws, hws⟩ : ∃ ws, ws = wr.setCell ⟨B, i * 32 + k, none⟩ (.int .u8 0) := ⟨_, rfl⟩
        have hchs : Chg (fun b => b = B) w ws := by rw [hws]; exact hch.set rfl _
        have hR1 : RDisk ws r B { s with f := fun j => if j = i * 32 + k then 0 else s.lay i bs k j } := by rw [hws]; exact hR1
        have hdr2 := hchs.blk hd (fun e => hne e)
        by_cases hkl : k < l
        · obtain ⟨bx, ox, u, rfl, hu, c6, _⟩ := (Hkeep.out ws hchs).at k (by have := Hl.out; omega)
          have d0' : ws.cell? ⟨r, 0, none⟩ = some (.slice (some ⟨B, 0, none⟩) (s.n * 32) cap) := by rw [hdr2.cell]; rfl
          obtain ⟨cap3, atv3, arr3, _, _, _, hB3, _, hf3, _⟩ := id hR1
          have c5' : ws.cell? ⟨B, i * 32 + k, none⟩ = some (.int .u8 0) := by rw [hB3.cell, hf3 _ hx]; simp
          have f5' := hB3.free (i * 32 + k)
          have i3 : (0 : Int) ≤ (k : Int) := by omega
          have i4 : (k : Int) < (l : Int) := by omega
          have Hfin := Lib.hid (show RDisk (ws.setCell ⟨B, i * 32 + k, none⟩ (.int .u8 (u.toNat : Int))) r B { s with f := s.lay i bs (k + 1) } from by
            have h3 := hR1.set (i * 32 + k) u
            have e : s.lay i bs (k + 1) = fun j => if j = i * 32 + k then u else (if j = i * 32 + k then 0 else s.lay i bs k j) := by
              rw [lay_succ]; funext j
              by_cases e : j = i * 32 + k
              · rw [if_pos e, if_pos e, List.getD_eq_getElem?_getD, hu.out]; rfl
              · rw [if_neg e, if_neg e, if_neg e]
            rw [e]; exact h3)
          have hset := Chg.drew (hchs.set (a := ⟨B, i * 32 + k, none⟩) rfl (.int .u8 (u.toNat : Int)))
          have e1 : (ws.setCell ⟨B, i * 32 + k, none⟩ (.int .u8 (u.toNat : Int))).drew.cell? ⟨r, 0, none⟩ = some (.slice (some ⟨B, 0, none⟩) (s.n * 32) cap) := by rw [(hset.blk hd (fun e => hne e)).cell]; rfl
          have e2 : (ws.setCell ⟨B, i * 32 + k, none⟩ (.int .u8 (u.toNat : Int))).drew.cell? ⟨bx, ox + k, none⟩ = some (.int .u8 (u.toNat : Int)) := by
            obtain ⟨b', o', u', e, hu', c', _⟩ := (Hkeep.out _ hset).at k (by have := Hl.out; omega)
            cases e
            have := hu.out.symm.trans hu'.out
            cases this
            exact c'
          have Hset := Lib.hid hset
          have Hws := Lib.hid hws
          have E12 := Lib.hid (And.intro e1 e2)
          clear hws hB2 hf2 hB3 hf3 hR1 hR hB hset e1 e2
          go_upto_region 13 with fail
          rw [← Hws.out]
          clear c5 f5 d0
          have q1 : IntKind.i64.wrap ((i : Int) * 32) = (i : Int) * 32 := IntWalk.i64_in _ (by omega)
          have q2 : IntKind.i64.wrap ((i : Int) * 32 + (k : Int)) = (i : Int) * 32 + (k : Int) := IntWalk.i64_in _ (by omega)
          have q3 : ((i : Int) * 32 + (k : Int)).toNat = i * 32 + k := by omega
          go_region_held3 (fun w' => w'.cell? ⟨r, 0, none⟩ = some (.slice (some ⟨B, 0, none⟩) (s.n * 32) cap) ∧ w'.cell? ⟨bx, ox + k, none⟩ = some (.int .u8 (u.toNat : Int))) (first | exact ⟨d0', c6⟩ | exact E12.out) (fail)
          clear q1 q2 q3
          go_wp2
          exact ⟨⟨k + 1, by omega, by go_num, Hfin.out, Hset.out⟩, by simp [intOf]; omega⟩
        · have Hfin := Lib.hid (show RDisk ws r B { s with f := s.lay i bs (k + 1) } from by
            have e : s.lay i bs (k + 1) = fun j => if j = i * 32 + k then 0 else s.lay i bs k j := by
              rw [lay_succ]; funext j
              by_cases e : j = i * 32 + k
              · rw [if_pos e, if_pos e, List.getD_eq_getElem?_getD, List.getElem?_eq_none (by have := Hl.out; omega)]; rfl
              · rw [if_neg e, if_neg e]
            rw [e]; exact hR1)
          have Hws := Lib.hid hws
          clear hws hB2 hf2 hR1 hR hB
          go_wp2
          exact ⟨⟨k + 1, by omega, by go_num, by rw [← Hws.out]; exact Hfin.out, by rw [← Hws.out]; exact hchs⟩, by simp [intOf]; omega⟩
      · obtain rfl : k = 32 := by omega
        have d1 : wr.cell? ⟨r, 1, none⟩ = some (.bool false) := by rw [hdr.cell, Hdead.out]; rfl
        have d2 : wr.cell? ⟨r, 2, none⟩ = some (.bool true) := by rw [hdr.cell, Hs.out]; rfl
        have d3 : wr.cell? ⟨r, 3, none⟩ = some (.int .i64 atv) := by rw [hdr.cell]; rfl
        have d5 : wr.cell? ⟨r, 5, none⟩ = some (.int .i64 (s.writes : Int)) := by rw [hdr.cell]; rfl
        have f3 := hdr.free 3
        have f5 := hdr.free 5
        go_wp2
        go_ret
        exact ⟨rfl, by rw [Hr.out]; exact RDisk.more (s := { s with f := s.lay i bs 32 }) hdr hR hw (fun _ => Hcn.out), ((hch.mono fun _ h => .inr h).set (.inl rfl) _).set (.inl rfl) _⟩
  · rw [hs] at c2
    have Hr := Lib.hid (show s.write i bs = { s with f := s.lay i bs 32, cnt := if s.stops then s.cnt - 1 else s.cnt, writes := s.writes + 1 } from by unfold DiskS.write; rw [if_neg (by rw [hs]; simp)])
    rw [if_neg (by rw [hs]; simp)]
    have Hs := Lib.hid hs
    clear hs
    go_enter Tryz.func55, Tryz.ntmps55
    go_wp2_with fail
    refine (rlen_calls r B s _ h).mono ?_
    rintro e w1 ⟨rfl, rfl⟩
    go_wp2_with fail
    go_loopw [8] (fun v wr => ∃ k : Nat, k ≤ 32 ∧ v = .int .i64 k ∧ RDisk wr r B { s with f := s.lay i bs k } ∧ Chg (fun b => b = B) w wr) (fun v _ => 32 - (intOf v).toNat)
    case atStart => exact ⟨0, by omega, rfl, by rw [lay_zero]; exact h, Chg.refl _ _⟩
    case round =>
      obtain ⟨k, hk', rfl, hR, hch⟩ := hrel
      have hdr := hch.blk hd (fun e => hne e)
      have d0 : wr.cell? ⟨r, 0, none⟩ = some (.slice (some ⟨B, 0, none⟩) (s.n * 32) cap) := by rw [hdr.cell]; rfl
      by_cases h0 : k < 32
      · have hx : i * 32 + k < s.n * 32 := by omega
        obtain ⟨cap2, atv2, arr2, _, _, _, hB2, _, hf2, _⟩ := id hR
        have c5 : wr.cell? ⟨B, i * 32 + k, none⟩ = some (.int .u8 ((s.lay i bs k (i * 32 + k)).toNat : Int)) := by rw [hB2.cell]; exact hf2 _ hx
        have f5 := hB2.free (i * 32 + k)
        have hR1 := hR.set (i * 32 + k) 0
        have i1 : (0 : Int) ≤ (i : Int) * 32 + (k : Int) := by omega
        have i2 : (i : Int) * 32 + (k : Int) < (s.n : Int) * 32 := by omega
        obtain ⟨ws, hws⟩ : ∃ ws, ws = wr.setCell ⟨B, i * 32 + k, none⟩ (.int .u8 0) := ⟨_, rfl⟩
        have hchs : Chg (fun b => b = B) w ws := by rw [hws]; exact hch.set rfl _
        have hR1 : RDisk ws r B { s with f := fun j => if j = i * 32 + k then 0 else s.lay i bs k j } := by rw [hws]; exact hR1
        have hdr2 := hchs.blk hd (fun e => hne e)
        by_cases hkl : k < l
        · obtain ⟨bx, ox, u, rfl, hu, c6, _⟩ := (Hkeep.out ws hchs).at k (by have := Hl.out; omega)
          have d0' : ws.cell? ⟨r, 0, none⟩ = some (.slice (some ⟨B, 0, none⟩) (s.n * 32) cap) := by rw [hdr2.cell]; rfl
          obtain ⟨cap3, atv3, arr3, _, _, _, hB3, _, hf3, _⟩ := id hR1
          have c5' : ws.cell? ⟨B, i * 32 + k, none⟩ = some (.int .u8 0) := by rw [hB3.cell, hf3 _ hx]; simp
          have f5' := hB3.free (i * 32 + k)
          have i3 : (0 : Int) ≤ (k : Int) := by omega
          have i4 : (k : Int) < (l : Int) := by omega
          have Hfin := Lib.hid (show RDisk (ws.setCell ⟨B, i * 32 + k, none⟩ (.int .u8 (u.toNat : Int))) r B { s with f := s.lay i bs (k + 1) } from by
            have h3 := hR1.set (i * 32 + k) u
            have e : s.lay i bs (k + 1) = fun j => if j = i * 32 + k then u else (if j = i * 32 + k then 0 else s.lay i bs k j) := by
              rw [lay_succ]; funext j
              by_cases e : j = i * 32 + k
              · rw [if_pos e, if_pos e, List.getD_eq_getElem?_getD, hu.out]; rfl
              · rw [if_neg e, if_neg e, if_neg e]
            rw [e]; exact h3)
          have hset := Chg.drew (hchs.set (a := ⟨B, i * 32 + k, none⟩) rfl (.int .u8 (u.toNat : Int)))
          have e1 : (ws.setCell ⟨B, i * 32 + k, none⟩ (.int .u8 (u.toNat : Int))).drew.cell? ⟨r, 0, none⟩ = some (.slice (some ⟨B, 0, none⟩) (s.n * 32) cap) := by rw [(hset.blk hd (fun e => hne e)).cell]; rfl
          have e2 : (ws.setCell ⟨B, i * 32 + k, none⟩ (.int .u8 (u.toNat : Int))).drew.cell? ⟨bx, ox + k, none⟩ = some (.int .u8 (u.toNat : Int)) := by
            obtain ⟨b', o', u', e, hu', c', _⟩ := (Hkeep.out _ hset).at k (by have := Hl.out; omega)
            cases e
            have := hu.out.symm.trans hu'.out
            cases this
            exact c'
          have Hset := Lib.hid hset
          have Hws := Lib.hid hws
          have E12 := Lib.hid (And.intro e1 e2)
          clear hws hB2 hf2 hB3 hf3 hR1 hR hB hset e1 e2
          go_upto_region 13 with fail
          rw [← Hws.out]
          clear c5 f5 d0
          have q1 : IntKind.i64.wrap ((i : Int) * 32) = (i : Int) * 32 := IntWalk.i64_in _ (by omega)
          have q2 : IntKind.i64.wrap ((i : Int) * 32 + (k : Int)) = (i : Int) * 32 + (k : Int) := IntWalk.i64_in _ (by omega)
          have q3 : ((i : Int) * 32 + (k : Int)).toNat = i * 32 + k := by omega
          go_region_held3 (fun w' => w'.cell? ⟨r, 0, none⟩ = some (.slice (some ⟨B, 0, none⟩) (s.n * 32) cap) ∧ w'.cell? ⟨bx, ox + k, none⟩ = some (.int .u8 (u.toNat : Int))) (first | exact ⟨d0', c6⟩ | exact E12.out) (fail)
          clear q1 q2 q3
          go_wp2
          exact ⟨⟨k + 1, by omega, by go_num, Hfin.out, Hset.out⟩, by simp [intOf]; omega⟩
        · have Hfin := Lib.hid (show RDisk ws r B { s with f := s.lay i bs (k + 1) } from by
            have e : s.lay i bs (k + 1) = fun j => if j = i * 32 + k then 0 else s.lay i bs k j := by
              rw [lay_succ]; funext j
              by_cases e : j = i * 32 + k
              · rw [if_pos e, if_pos e, List.getD_eq_getElem?_getD, List.getElem?_eq_none (by have := Hl.out; omega)]; rfl
              · rw [if_neg e, if_neg e]
            rw [e]; exact hR1)
          have Hws := Lib.hid hws
          clear hws hB2 hf2 hR1 hR hB
          go_wp2
          exact ⟨⟨k + 1, by omega, by go_num, by rw [← Hws.out]; exact Hfin.out, by rw [← Hws.out]; exact hchs⟩, by simp [intOf]; omega⟩
      · obtain rfl : k = 32 := by omega
        have d1 : wr.cell? ⟨r, 1, none⟩ = some (.bool false) := by rw [hdr.cell, Hdead.out]; rfl
        have d2 : wr.cell? ⟨r, 2, none⟩ = some (.bool false) := by rw [hdr.cell, Hs.out]; rfl
        have d3 : wr.cell? ⟨r, 3, none⟩ = some (.int .i64 atv) := by rw [hdr.cell]; rfl
        have d5 : wr.cell? ⟨r, 5, none⟩ = some (.int .i64 (s.writes : Int)) := by rw [hdr.cell]; rfl
        have f3 := hdr.free 3
        have f5 := hdr.free 5
        go_wp2
        go_ret
        exact ⟨rfl, by rw [Hr.out]; exact RDisk.more (s := { s with f := s.lay i bs 32 }) hdr hR hw (fun h => by rw [Hs.out] at h; cases h), ((hch.mono fun _ h => .inr h).set (.inl rfl) _).set (.inl rfl) _⟩
end Go.Proofs.YtehgnkdfnnebcaaGreatDoor
end
section
namespace Cod
open Go.Lib
def be : Nat → Nat → List UInt8
  | 0, _ => []
  | w + 1, n => UInt8.ofNat (n / 256 ^ w) :: be w n
theorem be_len : ∀ w n, (be w n).length = w
  | 0, _ => rfl
  | w + 1, n => by rw [be, List.length_cons, be_len w n]
theorem be_get : ∀ (w n i : Nat), i < w → (be w n)[i]? = some (UInt8.ofNat (n / 256 ^ (w - 1 - i)))
  | w + 1, n, 0, _ => by rw [be]; simp
  | w + 1, n, i + 1, h => by
    rw [be, List.getElem?_cons_succ, be_get w n i (by omega), show w - 1 - i = w + 1 - 1 - (i + 1) from by omega]
def getGo (a : Nat) (bs : List UInt8) : Nat := bs.foldl (fun a c => a * 256 + c.toNat) a
def getN (bs : List UInt8) : Nat := getGo 0 bs
theorem getGo_cons (a : Nat) (c : UInt8) (r : List UInt8) : getGo a (c :: r) = getGo (a * 256 + c.toNat) r := rfl
theorem getGo_snoc (a : Nat) (c : UInt8) (r : List UInt8) : getGo a (r ++ [c]) = getGo a r * 256 + c.toNat := by simp [getGo]
theorem getGo_be : ∀ (w n a : Nat), getGo a (be w n) = a * 256 ^ w + n % 256 ^ w
  | 0, n, a => by simp [be, getGo, Nat.mod_one]
  | w + 1, n, a => by
    have e1 : (UInt8.ofNat (n / 256 ^ w)).toNat = n / 256 ^ w % 256 := by rw [UInt8.toNat_ofNat']
    have e2 : n % 256 ^ (w + 1) = n % 256 ^ w + 256 ^ w * (n / 256 ^ w % 256) := by rw [Nat.pow_succ, Nat.mod_mul]
    rw [be, getGo_cons, getGo_be w n, e1, e2, Nat.pow_succ, Nat.add_mul, Nat.mul_assoc, Nat.mul_comm 256 (256 ^ w), Nat.mul_comm (n / 256 ^ w % 256)]
    omega
theorem getN_be (w n : Nat) (h : n < 256 ^ w) : getN (be w n) = n := by
  unfold getN; rw [getGo_be, Nat.mod_eq_of_lt h]; omega
theorem getGo_lt : ∀ (bs : List UInt8) (a : Nat), getGo a bs < (a + 1) * 256 ^ bs.length
  | [], a => by simp [getGo]
  | c :: r, a => by
    rw [getGo_cons, List.length_cons, Nat.pow_succ]
    have h1 := getGo_lt r (a * 256 + c.toNat)
    have h2 := c.toNat_lt
    have h3 : (a * 256 + c.toNat + 1) * 256 ^ r.length ≤ ((a + 1) * 256) * 256 ^ r.length := Nat.mul_le_mul_right _ (by omega)
    rw [Nat.mul_comm (256 ^ r.length) 256, ← Nat.mul_assoc]
    omega
theorem getN_lt (bs : List UInt8) (h : bs.length ≤ 7) : getN bs < 72057594037927936 := by
  have h1 := getGo_lt bs 0
  have h2 : 256 ^ bs.length ≤ 256 ^ 7 := Nat.pow_le_pow_right (by decide) h
  unfold getN
  simp at h1
  omega
def net (b : List UInt8) : List UInt8 := itoa b.length ++ [58] ++ b ++ [44]
def nets : List (List UInt8) → List UInt8
  | [] => []
  | b :: r => net b ++ nets r
theorem nets_snoc (l : List (List UInt8)) (b : List UInt8) : nets (l ++ [b]) = nets l ++ net b := by
  induction l with
  | nil => simp [nets]
  | cons a l ih => simp [nets, ih, List.append_assoc]
def sizeGo : List UInt8 → Nat → Nat → Nat × Nat
  | [], n, d => (n, d)
  | c :: r, n, d => if 48 ≤ c.toNat ∧ c.toNat ≤ 57 ∧ n ≤ 16384 then sizeGo r (10 * n + (c.toNat - 48)) (d + 1) else (n, d)
def size (b : List UInt8) : Nat × Nat := sizeGo b 0 0
theorem sizeGo_le : ∀ (l : List UInt8) (n d : Nat), n ≤ 163849 → (sizeGo l n d).1 ≤ 163849 ∧ d ≤ (sizeGo l n d).2 ∧ (sizeGo l n d).2 ≤ d + l.length
  | [], n, d, h => by simp [sizeGo]; exact h
  | c :: r, n, d, h => by
    rw [sizeGo]
    by_cases hc : 48 ≤ c.toNat ∧ c.toNat ≤ 57 ∧ n ≤ 16384
    · rw [if_pos hc]
      have := sizeGo_le r (10 * n + (c.toNat - 48)) (d + 1) (by omega)
      simp only [List.length_cons]
      omega
    · rw [if_neg hc]; simp only [List.length_cons]; exact ⟨h, by omega, by omega⟩
theorem size_le (b : List UInt8) : (size b).1 ≤ 163849 ∧ (size b).2 ≤ b.length := by
  have := sizeGo_le b 0 0 (by omega)
  unfold size; omega
theorem sizeGo_step {l : List UInt8} {n d : Nat} {c : UInt8} {r : List UInt8} (hl : l = c :: r) (h : 48 ≤ c.toNat ∧ c.toNat ≤ 57 ∧ n ≤ 16384) : sizeGo l n d = sizeGo r (10 * n + (c.toNat - 48)) (d + 1) := by
  subst hl; rw [sizeGo, if_pos h]
theorem sizeGo_stop {l : List UInt8} {n d : Nat} (h : ∀ c r, l = c :: r → ¬ (48 ≤ c.toNat ∧ c.toNat ≤ 57 ∧ n ≤ 16384)) : sizeGo l n d = (n, d) := by
  cases l with
  | nil => rfl
  | cons c r => rw [sizeGo, if_neg (h c r rfl)]
def bad1 (b : List UInt8) : Bool := ((size b).2 == 0) || (decide (1 < (size b).2) && (b.getD 0 0 == 48)) || decide (16384 < (size b).1)
def bad2 (b : List UInt8) : Bool := decide (b.length < (size b).2 + (size b).1 + 2) || (b.getD (size b).2 0 != 58) || (b.getD ((size b).2 + 1 + (size b).1) 0 != 44)
def takeNet (b : List UInt8) : Option (List UInt8 × List UInt8) :=
  if bad1 b = true then none else if bad2 b = true then none else some ((b.drop ((size b).2 + 1)).take (size b).1, b.drop ((size b).2 + (size b).1 + 2))
theorem digit_toNat {k : Nat} (h : k < 10) : (UInt8.ofNat (48 + k)).toNat = 48 + k := by rw [UInt8.toNat_ofNat']; omega
theorem sizeGo_dec (u : Nat) : ∀ (r : List UInt8), u ≤ 163849 → sizeGo (decDigits u ++ r) 0 0 = sizeGo r u (nDigits u) := by
  induction u using Nat.strongRecOn with
  | _ u ih =>
    intro r hu
    by_cases h : u < 10
    · rw [decDigits, dif_pos h, nDigits_small h, List.cons_append, List.nil_append, sizeGo, digit_toNat h, if_pos (by omega)]
      congr 1; omega
    · rw [decDigits, dif_neg h, nDigits_big h, List.append_assoc, ih (u / 10) (by omega) _ (by omega), List.cons_append, List.nil_append, sizeGo, digit_toNat (by omega : u % 10 < 10), if_pos (by omega)]
      congr 1; omega
theorem dec_head (u : Nat) : 1 < nDigits u → ∀ r, (decDigits u ++ r).getD 0 0 ≠ 48 := by
  induction u using Nat.strongRecOn with
  | _ u ih =>
    intro hn r
    by_cases h : u < 10
    · rw [nDigits_small h] at hn; omega
    · rw [decDigits, dif_neg h, List.append_assoc]
      by_cases h2 : u / 10 < 10
      · rw [decDigits, dif_pos h2, List.cons_append]
        intro e
        have := congrArg UInt8.toNat e
        simp only [List.getD_cons_zero] at this
        rw [digit_toNat h2] at this
        have : 48 + u / 10 = 48 := this
        omega
      · exact ih (u / 10) (by omega) (by rw [nDigits_big h2]; have := nDigits_pos (u / 10 / 10); omega) _
theorem net_eq (b : List UInt8) : net b = decDigits b.length ++ (58 :: (b ++ [44])) := by
  unfold net; rw [itoa_nonneg]; simp [List.append_assoc]
theorem size_net (b r : List UInt8) (h : b.length ≤ 16384) : size (net b ++ r) = (b.length, nDigits b.length) := by
  unfold size
  rw [net_eq, List.append_assoc, sizeGo_dec _ _ (by omega)]
  exact sizeGo_stop fun c s e => by
    injection e with e _
    subst e
    intro h
    exact absurd h.2.1 (by decide)
theorem getD_app_right {α : Type} (a b : List α) (i : Nat) (d : α) (h : a.length ≤ i) : (a ++ b).getD i d = b.getD (i - a.length) d := by
  rw [List.getD_eq_getElem?_getD, List.getD_eq_getElem?_getD, List.getElem?_append_right h]
theorem net_len (b : List UInt8) : (net b).length = nDigits b.length + b.length + 2 := by
  rw [net_eq]; simp [decDigits_length]; omega
theorem takeNet_net (b r : List UInt8) (h : b.length ≤ 16384) : takeNet (net b ++ r) = some (b, r) := by
  have hs := size_net b r h
  have hp := nDigits_pos b.length
  have hl := decDigits_length b.length
  have e : net b ++ r = decDigits b.length ++ (58 :: (b ++ 44 :: r)) := by rw [net_eq]; simp [List.append_assoc]
  have b1 : bad1 (net b ++ r) = false := by
    unfold bad1
    rw [hs]
    have h0 : ((nDigits b.length) == 0) = false := by simp; omega
    have h2 : decide (16384 < b.length) = false := by simp; omega
    have h1 : (decide (1 < nDigits b.length) && ((net b ++ r).getD 0 0 == 48)) = false := by
      by_cases hd : 1 < nDigits b.length
      · have := dec_head b.length hd (58 :: (b ++ 44 :: r))
        rw [e]
        simp only [Bool.and_eq_false_iff]
        exact .inr (by simpa using this)
      · simp [hd]
    rw [h0, h1, h2]; rfl
  have b2 : bad2 (net b ++ r) = false := by
    unfold bad2
    rw [hs]
    have h0 : decide ((net b ++ r).length < nDigits b.length + b.length + 2) = false := by
      rw [List.length_append, net_len]; simp
    have h1 : ((net b ++ r).getD (nDigits b.length) 0 != 58) = false := by
      rw [e, getD_app_right _ _ _ _ (by omega), hl, Nat.sub_self]; rfl
    have h2 : ((net b ++ r).getD (nDigits b.length + 1 + b.length) 0 != 44) = false := by
      rw [e, getD_app_right _ _ _ _ (by omega), hl, show nDigits b.length + 1 + b.length - nDigits b.length = b.length + 1 from by omega, List.getD_cons_succ, getD_app_right _ _ _ _ (Nat.le_refl _), Nat.sub_self]; rfl
    show (decide ((net b ++ r).length < nDigits b.length + b.length + 2) || _ || _) = false
    rw [h0, h1, h2]; rfl
  unfold takeNet
  rw [b1, b2, hs]
  simp only [Bool.false_eq_true, if_false]
  rw [e, show nDigits b.length + 1 = (decDigits b.length).length + 1 from by rw [hl], show nDigits b.length + b.length + 2 = (decDigits b.length).length + (1 + (b.length + 1)) from by rw [hl]; omega]
  rw [← List.drop_drop, ← List.drop_drop, List.drop_left, ← List.drop_drop]
  simp
end Cod
end
section
namespace Go.Mem
open Go Go.RowKit Gf
section
variable {P : Program} {w : World} {ops : Array Oper} {rest : List Oper} {o : Oper} {a : Act} {Q : Exit → Act → World → Prop} {K : Act → World → Prop} {E0 : Prop}
structure ElemK (P : Program) (t e : TypeId) (z : Value) (size bytes : Nat) : Prop where
  under : P.underlying t = some (.slice e)
  info : (P.info? e).map (fun i => (i.zero, i.size, i.bytes)) = some (some z, size, bytes)
  zsize : z.cells.size = size
  pos : 0 < size
end
end Go.Mem
end
section
namespace Go.Mem
open Go Go.RowKit Gf
end Go.Mem
namespace Go.Proofs.YtehgnkdfnnebcaaGreatDoor
open Go Go.RowKit Go.Mem Gf
attribute [local go_sem ↓] Go.wp_at_zero Go.wp_at_succ
end Go.Proofs.YtehgnkdfnnebcaaGreatDoor
end
section
namespace Go.Mem
open Go Go.RowKit Gf
def DiskS.rres (s : DiskS) (i : Int) : Int := if s.may i = true then (if s.dead = true then 8 else 0) else 1
def DiskS.rd (s : DiskS) (i : Int) : List UInt8 := if s.may i = true ∧ s.dead = false then s.sector i.toNat else []
def DiskS.wres (s : DiskS) (i : Int) (n : Nat) : Int := if s.may i = true ∧ n ≤ 32 then (if s.dead = true then 8 else if s.stops = true ∧ s.cnt = 0 then 8 else 0) else 1
def DiskS.wr (s : DiskS) (i : Int) (bs : List UInt8) : DiskS := if (s.may i = true ∧ bs.length ≤ 32) ∧ s.dead = false then s.write i.toNat bs else s
theorem DiskS.may_out {s : DiskS} {i : Int} (h : s.may i = true) : ∃ j : Nat, i = j ∧ j < s.n := by
  simp [DiskS.may] at h
  exact ⟨i.toNat, by omega, by omega⟩
theorem DiskS.may_bad {s : DiskS} {i : Int} (h : ¬ s.may i = true) : i < 0 ∨ (s.n : Int) ≤ i := by
  simp [DiskS.may] at h
  omega
theorem DiskS.wr_n (s : DiskS) (i : Int) (bs : List UInt8) : (s.wr i bs).n = s.n := by
  unfold DiskS.wr DiskS.write; split
  · split <;> rfl
  · rfl
theorem DiskS.wr_writes (s : DiskS) (i : Int) (bs : List UInt8) : (s.wr i bs).writes ≤ s.writes + 1 := by
  unfold DiskS.wr DiskS.write; split
  · split
    · exact Nat.le_succ _
    · exact Nat.le_refl _
  · exact Nat.le_succ _
end Go.Mem
namespace Go.Proofs.YtehgnkdfnnebcaaGreatDoor
open Go Go.RowKit Go.Mem Gf
theorem dread_any (d L : Nat) (s : DiskS) (i : Int) (w : World) (h : IsDisk w d L s) :
    Calls Tryz.prog 21 #[.pointer (some ⟨d, 0, none⟩), .int .i64 i] w fun e w' => ∃ v, e = .returned (.tuple #[v, .int .i64 (s.rres i)]) ∧ OwnF 5 w' w.heap.size v (s.rd i) ∧ Below w.heap.size w w' := by
  by_cases hm : s.may i = true
  · obtain ⟨j, rfl, hj⟩ := DiskS.may_out hm
    by_cases hd : s.dead = true
    · refine (dread_dead d L s j w h hj hd).mono ?_
      rintro e w1 ⟨rfl, rfl⟩
      exact ⟨.slice none 0 0, by simp [DiskS.rres, hm, hd], by simp [DiskS.rd, hd]; exact OwnF.nil _ _ _, Below.refl _ _⟩
    · have hd : s.dead = false := by simpa using hd
      refine (dread_calls d L s j w h hj hd).mono ?_
      rintro e w1 ⟨v, rfl, h1, h2⟩
      exact ⟨v, by simp [DiskS.rres, hm, hd], by simp [DiskS.rd, hm, hd]; exact h1, h2⟩
  · refine (dread_bad d L s i w h (DiskS.may_bad hm)).mono ?_
    rintro e w1 ⟨rfl, rfl⟩
    exact ⟨.slice none 0 0, by simp [DiskS.rres, hm], by simp [DiskS.rd, hm]; exact OwnF.nil _ _ _, Below.refl _ _⟩
theorem rread_any (r B : Nat) (s : DiskS) (i : Int) (w : World) (h : RDisk w r B s) :
    Calls Tryz.prog 22 #[.pointer (some ⟨r, 0, none⟩), .int .i64 i] w fun e w' => ∃ v, e = .returned (.tuple #[v, .int .i64 (s.rres i)]) ∧ OwnF 5 w' w.heap.size v (s.rd i) ∧ Below w.heap.size w w' := by
  by_cases hm : s.may i = true
  · obtain ⟨j, rfl, hj⟩ := DiskS.may_out hm
    by_cases hd : s.dead = true
    · refine (rread_dead r B s j w h hj hd).mono ?_
      rintro e w1 ⟨rfl, rfl⟩
      exact ⟨.slice none 0 0, by simp [DiskS.rres, hm, hd], by simp [DiskS.rd, hd]; exact OwnF.nil _ _ _, Below.refl _ _⟩
    · have hd : s.dead = false := by simpa using hd
      refine (rread_calls r B s j w h hj hd).mono ?_
      rintro e w1 ⟨v, rfl, h1, h2⟩
      exact ⟨v, by simp [DiskS.rres, hm, hd], by simp [DiskS.rd, hm, hd]; exact h1, h2⟩
  · refine (rread_bad r B s i w h (DiskS.may_bad hm)).mono ?_
    rintro e w1 ⟨rfl, rfl⟩
    exact ⟨.slice none 0 0, by simp [DiskS.rres, hm], by simp [DiskS.rd, hm]; exact OwnF.nil _ _ _, Below.refl _ _⟩
theorem dwrite_any (d L : Nat) (s : DiskS) (i : Int) (v : Value) (bs : List UInt8) (w : World) (h : IsDisk w d L s) (hb : Bys w v bs) (hw : s.writes < 4611686018427387904) :
    Calls Tryz.prog 57 #[.pointer (some ⟨d, 0, none⟩), .int .i64 i, v] w fun e w' => e = .returned (.int .i64 (s.wres i bs.length)) ∧ IsDisk w' d L (s.wr i bs) ∧ Chg (fun b => b = d ∨ b = L) w w' := by
  by_cases hm : s.may i = true ∧ bs.length ≤ 32
  · obtain ⟨j, rfl, hj⟩ := DiskS.may_out hm.1
    by_cases hd : s.dead = true
    · refine (dwrite_dead d L s j v bs w h hb hj hm.2 hd).mono ?_
      rintro e w1 ⟨rfl, rfl⟩
      exact ⟨by rw [DiskS.wres, if_pos hm, if_pos hd], by rw [DiskS.wr, if_neg (by simp [hd])]; exact h, Chg.refl _ _⟩
    · have hd : s.dead = false := by simpa using hd
      refine (dwrite_calls d L s j v bs w h hb hj hm.2 hd hw).mono ?_
      rintro e w1 ⟨rfl, h1, h2⟩
      exact ⟨by rw [DiskS.wres, if_pos hm, if_neg (show ¬ s.dead = true by simp [hd])], by rw [DiskS.wr, if_pos ⟨hm, hd⟩]; exact h1, h2⟩
  · refine (dwrite_bad d L s i v bs w h hb ?_).mono ?_
    · rcases Nat.lt_or_ge 32 bs.length with hl | hl
      · exact .inr hl
      · exact .inl (DiskS.may_bad fun e => hm ⟨e, hl⟩)
    rintro e w1 ⟨rfl, rfl⟩
    exact ⟨by rw [DiskS.wres, if_neg hm], by rw [DiskS.wr, if_neg (fun e => hm e.1)]; exact h, Chg.refl _ _⟩
theorem rwrite_any (r B : Nat) (s : DiskS) (i : Int) (v : Value) (bs : List UInt8) (w : World) (h : RDisk w r B s) (hb : Bys w v bs) (hkeep : ∀ w', Chg (fun b => b = B) w w' → Bys w' v bs) (hw : s.writes < 4611686018427387904) :
    Calls Tryz.prog 55 #[.pointer (some ⟨r, 0, none⟩), .int .i64 i, v] w fun e w' => e = .returned (.int .i64 (s.wres i bs.length)) ∧ RDisk w' r B (s.wr i bs) ∧ Chg (fun b => b = r ∨ b = B) w w' := by
  by_cases hm : s.may i = true ∧ bs.length ≤ 32
  · obtain ⟨j, rfl, hj⟩ := DiskS.may_out hm.1
    by_cases hd : s.dead = true
    · refine (rwrite_dead r B s j v bs w h hb hj hm.2 hd).mono ?_
      rintro e w1 ⟨rfl, rfl⟩
      exact ⟨by rw [DiskS.wres, if_pos hm, if_pos hd], by rw [DiskS.wr, if_neg (by simp [hd])]; exact h, Chg.refl _ _⟩
    · have hd : s.dead = false := by simpa using hd
      refine (rwrite_calls r B s j v bs w h hb hkeep hj hm.2 hd hw).mono ?_
      rintro e w1 ⟨rfl, h1, h2⟩
      exact ⟨by rw [DiskS.wres, if_pos hm, if_neg (show ¬ s.dead = true by simp [hd])], by rw [DiskS.wr, if_pos ⟨hm, hd⟩]; exact h1, h2⟩
  · refine (rwrite_bad r B s i v bs w h hb ?_).mono ?_
    · rcases Nat.lt_or_ge 32 bs.length with hl | hl
      · exact .inr hl
      · exact .inl (DiskS.may_bad fun e => hm ⟨e, hl⟩)
    rintro e w1 ⟨rfl, rfl⟩
    exact ⟨by rw [DiskS.wres, if_neg hm], by rw [DiskS.wr, if_neg (fun e => hm e.1)]; exact h, Chg.refl _ _⟩
end Go.Proofs.YtehgnkdfnnebcaaGreatDoor
end
section
namespace Sto
open Go.Mem
structure Rec where
  is : Bool
  name : ByteArray
  num : Nat
  data : List UInt8
def Rec.free : Rec := ⟨false, ByteArray.empty, 0, []⟩
def takeN : Nat → List UInt8 → Option (List (List UInt8) × List UInt8)
  | 0, b => some ([], b)
  | k + 1, b => match takeN k b with
    | none => none
    | some (xs, r) => match Cod.takeNet r with
      | none => none
      | some (x, r') => some (xs ++ [x], r')
theorem takeN_len : ∀ (k : Nat) (b : List UInt8) (xs : List (List UInt8)) (r : List UInt8), takeN k b = some (xs, r) → xs.length = k
  | 0, b, xs, r, h => by simp [takeN] at h; rw [h.1]; rfl
  | k + 1, b, xs, r, h => by
    simp only [takeN] at h
    split at h
    · cases h
    · rename_i xs' r' h'
      split at h
      · cases h
      · injection h with h
        injection h with h1 h2
        subst h1
        rw [List.length_append, takeN_len k b xs' r' h']; rfl
def parse (b : List UInt8) : Option Rec :=
  match takeN 3 b with
  | none => none
  | some (xs, _) => if (xs.getD 1 []).length = 4 then some ⟨true, ⟨(xs.getD 0 []).toArray⟩, Cod.getN (xs.getD 1 []), xs.getD 2 []⟩ else none
def text (name : ByteArray) (num : Nat) (data : List UInt8) : List UInt8 := Cod.nets [name.data.toList, Cod.be 4 num, data]
def best (l : List Rec) (name : ByteArray) : Nat → Option Nat
  | 0 => none
  | k + 1 => match l[k]? with
    | none => best l name k
    | some r => if r.is = true ∧ (r.name.toList == name.toList) = true ∧ (∀ j, best l name k = some j → (l.getD j Rec.free).num < r.num) then some k else best l name k
end Sto
end
