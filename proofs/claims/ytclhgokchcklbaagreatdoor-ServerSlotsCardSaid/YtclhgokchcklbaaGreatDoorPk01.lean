/- Texts of this proof, packed: Disk2, DiskLaw, DiskRef, AppCells, DiskClone, DiskAny, StoreMath, OwnX, Code. -/
import Derived.Test.YtclhgokchcklbaaGreatDoorPk00
import Derived.Lib.FrozenHead
import Derived.Lib.ConvBytes
import Derived.Test.YtclhgokchcklbaaGreatDoorPkS
import Derived.Laws.BytesArg
import Derived.Laws.MakeOwn
import Derived.IntWalk
section
namespace Go.Proofs.YtclhgokchcklbaaGreatDoor
open Go Go.RowKit Go.Mem Gf
attribute [local go_sem ↓] Go.wp_at_zero Go.wp_at_succ
theorem E8 : Elem Tryz.prog 38 5 (.int .u8 0) 1 := ⟨Tryz.underlying38, by kernel_rfl, rfl⟩
theorem DiskS.may_yes {s : DiskS} {i : Nat} (h : i < s.n) : s.may (i : Int) = true := by simp [DiskS.may, h]
theorem DiskS.may_no {s : DiskS} {i : Int} (h : i < 0 ∨ (s.n : Int) ≤ i) : s.may i = false := by simp [DiskS.may]; omega
set_option maxRecDepth 100000 in
set_option maxHeartbeats 1000000 in
theorem dread_bad (d L : Nat) (s : DiskS) (i : Int) (w : World) (h : IsDisk w d L s) (hi : i < 0 ∨ (s.n : Int) ≤ i) :
    Calls Tryz.prog 115 #[.pointer (some ⟨d, 0, none⟩), .int .i64 i] w fun e w' => e = .returned (.tuple #[.slice none 0 0, .int .i64 1]) ∧ w = w' := by
  go_enter Tryz.func115, Tryz.ntmps115
  go_wp2_with fail
  refine (may_calls d L s i w h false (DiskS.may_no hi)).mono ?_
  rintro e w1 ⟨rfl, rfl⟩
  go_wp2
  go_ret2
  exact ⟨rfl, rfl⟩
set_option maxRecDepth 100000 in
set_option maxHeartbeats 1000000 in
theorem dread_dead (d L : Nat) (s : DiskS) (i : Nat) (w : World) (h : IsDisk w d L s) (hi : i < s.n) (hdead : s.dead = true) :
    Calls Tryz.prog 115 #[.pointer (some ⟨d, 0, none⟩), .int .i64 i] w fun e w' => e = .returned (.tuple #[.slice none 0 0, .int .i64 8]) ∧ w = w' := by
  obtain ⟨cap, arr, hd, _⟩ := id h
  have c1 : w.cell? ⟨d, 1, none⟩ = some (.bool true) := by rw [hd.cell, hdead]; rfl
  clear hdead
  go_enter Tryz.func115, Tryz.ntmps115
  go_wp2_with fail
  refine (may_calls d L s i w h true (DiskS.may_yes hi)).mono ?_
  rintro e w1 ⟨rfl, rfl⟩
  go_wp2
  go_ret2
  exact ⟨rfl, rfl⟩
theorem IsDisk.sector {w : World} {d L : Nat} {s : DiskS} (h : IsDisk w d L s) (i : Nat) (hi : i < s.n) : Bys w (.slice (some ⟨L, i * 32, none⟩) 32 32) (s.sector i) := by
  obtain ⟨cap, arr, hd, a, b, hL, r1, r2, r3, r4, r5, hne, r6, r7⟩ := h
  exact hL.mid_bys (Nat.le_refl _) (maxLen_ge (by decide)) fun k hk => r2 _ (by omega)
set_option maxRecDepth 100000 in
set_option maxHeartbeats 1000000 in
theorem dread_calls (d L : Nat) (s : DiskS) (i : Nat) (w : World) (h : IsDisk w d L s) (hi : i < s.n) (hdead : s.dead = false) :
    Calls Tryz.prog 115 #[.pointer (some ⟨d, 0, none⟩), .int .i64 i] w fun e w' => ∃ v, e = .returned (.tuple #[v, .int .i64 0]) ∧ OwnF 5 w' w.heap.size v (s.sector i) ∧ Below w.heap.size w w' := by
  obtain ⟨cap, arr, hd, _, hcap, _⟩ := id h
  have c0 : w.cell? ⟨d, 0, none⟩ = some (.slice (some ⟨L, 0, none⟩) s.n cap) := by rw [hd.cell]; rfl
  have c1 : w.cell? ⟨d, 1, none⟩ = some (.bool false) := by rw [hd.cell, hdead]; rfl
  have hsec := h.sector i hi
  have i1 : (0 : Int) ≤ (i : Int) := by omega
  have i2 : (i : Int) < (s.n : Int) := by omega
  clear hdead
  go_enter Tryz.func115, Tryz.ntmps115
  go_wp2_with fail
  refine (may_calls d L s i w h true (DiskS.may_yes hi)).mono ?_
  rintro e w1 ⟨rfl, rfl⟩
  go_wp2_with (at_builtin; refine appF E8 rfl _ _ rfl (base := w.heap.size) (bs := []) (news := s.sector i) rfl rfl (OwnF.nil _ _ _) hsec ?q1 ?q2 ?_)
  case q1 => simp [DiskS.sector, rowL_len]
  case q2 => exact Nat.le_refl _
  intro v' w' hown hg
  go_wp2
  go_ret2
  exact ⟨_, rfl, hown, grown_none hg rfl⟩
set_option maxRecDepth 100000 in
set_option maxHeartbeats 1000000 in
theorem dwrite_bad (d L : Nat) (s : DiskS) (i : Int) (v : Value) (bs : List UInt8) (w : World) (h : IsDisk w d L s) (hb : Bys w v bs) (hi : (i < 0 ∨ (s.n : Int) ≤ i) ∨ 32 < bs.length) :
    Calls Tryz.prog 117 #[.pointer (some ⟨d, 0, none⟩), .int .i64 i, v] w fun e w' => e = .returned (.int .i64 1) ∧ w = w' := by
  obtain ⟨a, c, rfl⟩ := hb.eq_slice
  obtain ⟨l, hl⟩ : ∃ l, l = bs.length := ⟨_, rfl⟩
  rw [← hl] at hi ⊢
  clear hl
  by_cases hm : i < 0 ∨ (s.n : Int) ≤ i
  · clear hi
    go_enter Tryz.func117, Tryz.ntmps117
    go_wp2_with fail
    refine (may_calls d L s i w h false (DiskS.may_no hm)).mono ?_
    rintro e w1 ⟨rfl, rfl⟩
    go_wp2
    go_ret
    exact ⟨rfl, rfl⟩
  · have hl : 32 < l := by omega
    obtain ⟨i, rfl⟩ : ∃ j : Nat, i = j := ⟨i.toNat, by omega⟩
    clear hi
    go_enter Tryz.func117, Tryz.ntmps117
    go_wp2_with fail
    refine (may_calls d L s i w h true (DiskS.may_yes (by omega))).mono ?_
    rintro e w1 ⟨rfl, rfl⟩
    go_wp2
    go_ret
    exact ⟨rfl, rfl⟩
set_option maxRecDepth 100000 in
set_option maxHeartbeats 1000000 in
theorem dwrite_dead (d L : Nat) (s : DiskS) (i : Nat) (v : Value) (bs : List UInt8) (w : World) (h : IsDisk w d L s) (hb : Bys w v bs) (hi : i < s.n) (hl : bs.length ≤ 32) (hdead : s.dead = true) :
    Calls Tryz.prog 117 #[.pointer (some ⟨d, 0, none⟩), .int .i64 i, v] w fun e w' => e = .returned (.int .i64 8) ∧ w = w' := by
  obtain ⟨a, c, rfl⟩ := hb.eq_slice
  obtain ⟨l, hl'⟩ : ∃ l, l = bs.length := ⟨_, rfl⟩
  rw [← hl'] at hl ⊢
  clear hl'
  obtain ⟨cap, arr, hd, _⟩ := id h
  have c1 : w.cell? ⟨d, 1, none⟩ = some (.bool true) := by rw [hd.cell, hdead]; rfl
  clear hdead
  go_enter Tryz.func117, Tryz.ntmps117
  go_wp2_with fail
  refine (may_calls d L s i w h true (DiskS.may_yes hi)).mono ?_
  rintro e w1 ⟨rfl, rfl⟩
  go_wp2
  go_ret
  exact ⟨rfl, rfl⟩
def padF (bs : List UInt8) : Nat → UInt8 := fun k => if k < bs.length then bs.getD k 0 else 0
theorem padF_eq (bs : List UInt8) (k : Nat) : padF bs k = bs.getD k 0 := by
  unfold padF
  split
  · rfl
  · rw [List.getD_eq_getElem?_getD, List.getElem?_eq_none (by omega)]; rfl
theorem to_new (w : World) : Blk (w.alloc (.cells #[.int .u8 0, .int .u8 0, .int .u8 0, .int .u8 0, .int .u8 0, .int .u8 0, .int .u8 0, .int .u8 0, .int .u8 0, .int .u8 0, .int .u8 0, .int .u8 0, .int .u8 0, .int .u8 0, .int .u8 0, .int .u8 0, .int .u8 0, .int .u8 0, .int .u8 0, .int .u8 0, .int .u8 0, .int .u8 0, .int .u8 0, .int .u8 0, .int .u8 0, .int .u8 0, .int .u8 0, .int .u8 0, .int .u8 0, .int .u8 0, .int .u8 0, .int .u8 0] 51)) w.heap.size (rowArr 32 fun _ => 0) 51 := by
  rw [show rowArr 32 (fun _ => 0) = #[.int .u8 0, .int .u8 0, .int .u8 0, .int .u8 0, .int .u8 0, .int .u8 0, .int .u8 0, .int .u8 0, .int .u8 0, .int .u8 0, .int .u8 0, .int .u8 0, .int .u8 0, .int .u8 0, .int .u8 0, .int .u8 0, .int .u8 0, .int .u8 0, .int .u8 0, .int .u8 0, .int .u8 0, .int .u8 0, .int .u8 0, .int .u8 0, .int .u8 0, .int .u8 0, .int .u8 0, .int .u8 0, .int .u8 0, .int .u8 0, .int .u8 0, .int .u8 0] from by rw [← rowArr_zero]; rfl]
  exact Blk.new _ _ _
theorem i32 : (Tryz.prog.info? 51).map (·.size) = some 32 := by kernel_rfl
theorem IsDisk.laid {d L : Nat} {s : DiskS} {w : World} (h : IsDisk w d L s) {i : Nat} (_hi : i < s.n) (bs : List UInt8) {m : Nat} (_hm : m ≤ 32) {cs : List Value} (hcs : cs = (rowArr m (padF bs)).toList) (dr : Nat) :
    IsDisk ((w.drewN dr).setCells L (i * 32) cs) d L { s with f := s.lay i bs m } := by
  obtain ⟨cap, arr, hd, a, b, hL, r1, r2, r3, r4, r5, hne, r6, r7⟩ := h
  obtain ⟨arr', h1, h2, h3⟩ := Blk.setCells cs (i * 32) (w.drewN dr) arr hL
  refine ⟨cap, arr', Blk.setCells_other hne _ _ _ hd, a, b, h1, by rw [h2]; exact r1, fun j hj => ?_, r3, r4, r5, hne, r6, r7⟩
  have hj : j < s.n * 32 := hj
  have hl : cs.length = m := by rw [hcs]; simp [rowArr_size]
  rw [h3 j (by omega), hl]
  show _ = some (Value.int .u8 ((s.lay i bs m j).toNat : Int))
  unfold DiskS.lay
  by_cases e : i * 32 ≤ j ∧ j < i * 32 + m
  · rw [if_pos e, if_pos e, hcs, ← padF_eq]
    have := rowArr_get m (padF bs) (j - i * 32) (by omega)
    simpa using this
  · rw [if_neg e, if_neg e]; exact r2 j hj
theorem IsDisk.count {d L : Nat} {s : DiskS} {w : World} (h : IsDisk w d L s) (hw : s.writes < 4611686018427387904) : IsDisk (w.setCell ⟨d, 5, none⟩ (.int .i64 ((s.writes : Int) + 1))) d L { s with writes := s.writes + 1 } := by
  obtain ⟨cap, arr, hd, a, b, hL, r1, r2, r3, r4, r5, hne, r6, r7⟩ := h
  have := hd.set 5 (.int .i64 ((s.writes : Int) + 1))
  exact ⟨cap, arr, by simpa using this, a, b, hL.set_other hne _, r1, r2, r3, r4, r5, hne, r6, by show s.writes + 1 ≤ _; omega⟩
theorem IsDisk.tick {d L : Nat} {s : DiskS} {w : World} (h : IsDisk w d L s) (hc : 0 < s.cnt) : IsDisk (w.setCell ⟨d, 3, none⟩ (.int .i64 ((s.cnt : Int) - 1))) d L { s with cnt := s.cnt - 1 } := by
  obtain ⟨cap, arr, hd, a, b, hL, r1, r2, r3, r4, r5, hne, r6, r7⟩ := h
  have := hd.set 3 (.int .i64 ((s.cnt : Int) - 1))
  rw [show ((s.cnt : Int) - 1) = ((s.cnt - 1 : Nat) : Int) from by omega] at this ⊢
  exact ⟨cap, arr, this, a, b, hL.set_other hne _, r1, r2, r3, r4, r5, hne, by show s.cnt - 1 ≤ _; omega, r7⟩
theorem IsDisk.die {d L : Nat} {s : DiskS} {w : World} (h : IsDisk w d L s) : IsDisk (w.setCell ⟨d, 1, none⟩ (.bool true)) d L { s with dead := true } := by
  obtain ⟨cap, arr, hd, a, b, hL, r1, r2, r3, r4, r5, hne, r6, r7⟩ := h
  exact ⟨cap, arr, hd.set 1 (.bool true), a, b, hL.set_other hne _, r1, r2, r3, r4, r5, hne, r6, r7⟩
theorem rowArr_one (m : Nat) (f : Nat → UInt8) : ∀ v ∈ (rowArr m f).toList, v.oneCell' = true := by
  intro v hv
  simp [rowArr] at hv
  obtain ⟨k, _, rfl⟩ := hv
  rfl
theorem write_facts {d L : Nat} {s : DiskS} {w w1 : World} {i : Nat} {bs : List UInt8} (h : IsDisk w1 d L s) (hi : i < s.n) (ht : Blk w1 w.heap.size (rowArr 32 fun k => if k < bs.length then bs.getD k 0 else 0) 51) (m : Nat) (hm : m ≤ 32) :
    ∃ cs, Hid (cs = (rowArr m (padF bs)).toList) ∧ cs.length = m ∧ (∀ v ∈ cs, v.oneCell' = true) ∧ w1.rangeAt w.heap.size 0 cs ∧ w1.there L (i * 32) 32 ∧ (∀ j v, cs[j]? = some v → w1.cell? ((⟨w.heap.size, 0, none⟩ : Addr).add j) = some v) := by
  obtain ⟨cap, arr, hd, a, b, hL, r1, r2, r3, r4, r5, hne, r6, r7⟩ := h
  have hr : w1.rangeAt w.heap.size 0 (rowArr m (padF bs)).toList := fun j v hj => by
    rw [Nat.zero_add, ht.cell]
    have hj : (rowArr m (padF bs))[j]? = some v := by simpa using hj
    have hjm : j < m := by
      rcases Nat.lt_or_ge j m with h' | h'
      · exact h'
      · rw [Array.getElem?_eq_none (by rw [rowArr_size]; exact h')] at hj; cases hj
    rw [rowArr_get _ _ _ hjm] at hj
    rw [rowArr_get _ _ _ (by omega)]
    exact hj
  refine ⟨_, rfl, by simp [rowArr_size], rowArr_one _ _, hr, fun j hj => ⟨by rw [hL.cell]; simp; omega, hL.free _⟩, fun j v hj => ?_⟩
  have := hr j v hj
  rw [Nat.zero_add] at this
  rw [show (⟨w.heap.size, 0, none⟩ : Addr).add j = ⟨w.heap.size, j, none⟩ from by
    unfold Addr.add
    split
    · subst_vars; rfl
    · simp]
  exact this
set_option maxRecDepth 100000 in
set_option maxHeartbeats 2000000 in
theorem dwrite_plain (d L : Nat) (s : DiskS) (i : Nat) (v : Value) (bs : List UInt8) (w : World) (h : IsDisk w d L s) (hb : Bys w v bs) (hi : i < s.n) (hl : bs.length ≤ 32) (hdead : s.dead = false) (hst : s.stops = false) (hw : s.writes < 4611686018427387904) :
    Calls Tryz.prog 117 #[.pointer (some ⟨d, 0, none⟩), .int .i64 i, v] w fun e w' => e = .returned (.int .i64 0) ∧ IsDisk w' d L (s.write i bs) ∧ Chg (fun b => b = d ∨ b = L) w w' := by
  obtain ⟨cap, arr, hd, hc1, hcap, hL, r1, r2, r3, r4, r5, hne, r6, r7⟩ := id h
  have c1 : w.cell? ⟨d, 1, none⟩ = some (.bool false) := by rw [hd.cell, hdead]; rfl
  obtain ⟨a, c, rfl⟩ := hb.eq_slice
  have HW := Lib.hid (show s.write i bs = { s with f := s.lay i bs 32, writes := s.writes + 1 } from by simp [DiskS.write, hst])
  obtain ⟨l, hl'⟩ : ∃ l, l = bs.length := ⟨_, rfl⟩
  rw [← hl'] at hl hb ⊢
  have Hl := Lib.hid hl'; have Hst := Lib.hid hst
  have i1 : (0 : Int) ≤ (i : Int) := by omega
  have i2 : (i : Int) < (s.n : Int) := by omega
  clear hdead hst hl'
  go_enter Tryz.func117, Tryz.ntmps117
  go_wp2_with fail
  refine (may_calls d L s i w h true (DiskS.may_yes hi)).mono ?_
  rintro e w1 ⟨rfl, rfl⟩
  go_wp2_with (refine copy_row (o := ⟨some 25, _, _, _, _, _⟩) rfl (.tmp 23) (.tmp 24) 38 38 rfl 5 Tryz.underlying38 E8s rfl rfl (to_new _) (hb.below ((Below.refl _ _).alloc (Nat.le_refl _) _)) ?c1 ?c2 ?_)
  case c1 => have := Hl.out; omega
  case c2 => omega
  intro w1 hB1 hb1
  have hb1 : Below w.heap.size w w1 := ((Below.refl _ _).alloc (Nat.le_refl _) _).trans hb1
  have h1 := h.below hb1
  have hd1 := hd.kept hb1
  have c0 : w1.cell? ⟨d, 0, none⟩ = some (.slice (some ⟨L, 0, none⟩) s.n cap) := by rw [hd1.cell]; rfl
  have c2 : w1.cell? ⟨d, 2, none⟩ = some (.bool false) := by rw [hd1.cell, Hst.out]; rfl
  obtain ⟨cs, Hcs, hcl, hone, hr1, ht1, _⟩ := write_facts (i := i) h1 hi hB1 32 (Nat.le_refl _)
  have hu := Tryz.underlying51
  have hi32 : (Tryz.prog.info? 51).map (·.size) = some cs.length := by rw [hcl]; exact i32
  have hD := h1.laid hi bs (Nat.le_refl 32) Hcs.out 1
  have hC := Chg.setCells (S := fun b => b = d ∨ b = L) (L := L) (.inr rfl) cs (i * 32) _ (Chg.drew (Chg.of_below (S := fun b => b = d ∨ b = L) hb1))
  have hD : IsDisk (w1.drew.setCells L (i * 32) cs) d L { s with f := s.lay i bs 32 } := hD
  obtain ⟨cap', arr', hd2, _⟩ := id hD
  have c5 : (w1.drew.setCells L (i * 32) cs).cell? ⟨d, 5, none⟩ = some (.int .i64 (s.writes : Int)) := by rw [hd2.cell]; rfl
  have f5 := hd2.free 5
  have HD := Lib.hid hD; have HC := Lib.hid hC; have HB1 := Lib.hid hB1; have Hb1 := Lib.hid hb1; have Hd1 := Lib.hid hd1; have H1 := Lib.hid h1; have Hd2 := Lib.hid hd2
  clear hD hC hB1 hb1 hd1 h1 hd2 c1
  go_wp2_with fail
  go_region_held3 (fun w' => w'.cell? ⟨d, 0, none⟩ = some (.slice (some ⟨L, 0, none⟩) s.n cap) ∧ w'.rangeAt w.heap.size 0 cs ∧ w'.there L (i * 32) 32) (first | exact ⟨c0, hr1, ht1⟩ | exact keep_mid hne (Nat.ne_of_gt hL.lt) c0 hr1 ht1) (fail)
  go_wp2
  go_ret
  exact ⟨rfl, by rw [HW.out]; exact HD.out.count hw, HC.out.set (.inl rfl) _⟩
set_option maxRecDepth 100000 in
set_option maxHeartbeats 2000000 in
theorem dwrite_tick (d L : Nat) (s : DiskS) (i : Nat) (v : Value) (bs : List UInt8) (w : World) (h : IsDisk w d L s) (hb : Bys w v bs) (hi : i < s.n) (hl : bs.length ≤ 32) (hdead : s.dead = false) (hst : s.stops = true) (hcnt : 0 < s.cnt) (hw : s.writes < 4611686018427387904) :
    Calls Tryz.prog 117 #[.pointer (some ⟨d, 0, none⟩), .int .i64 i, v] w fun e w' => e = .returned (.int .i64 0) ∧ IsDisk w' d L (s.write i bs) ∧ Chg (fun b => b = d ∨ b = L) w w' := by
  obtain ⟨cap, arr, hd, hc1, hcap, hL, r1, r2, r3, r4, r5, hne, r6, r7⟩ := id h
  have c1 : w.cell? ⟨d, 1, none⟩ = some (.bool false) := by rw [hd.cell, hdead]; rfl
  obtain ⟨a, c, rfl⟩ := hb.eq_slice
  have HW := Lib.hid (show s.write i bs = { s with cnt := s.cnt - 1, f := s.lay i bs 32, writes := s.writes + 1 } from by simp [DiskS.write, hst, Nat.ne_of_gt hcnt])
  obtain ⟨l, hl'⟩ : ∃ l, l = bs.length := ⟨_, rfl⟩
  rw [← hl'] at hl hb ⊢
  have Hl := Lib.hid hl'; have Hst := Lib.hid hst
  have i1 : (0 : Int) ≤ (i : Int) := by omega
  have i2 : (i : Int) < (s.n : Int) := by omega
  have t1 : ((s.cnt : Int) == 0) = false := by simp; omega
  have t2 : (0 : Int) < (s.cnt : Int) := by omega
  clear hdead hst hl'
  go_enter Tryz.func117, Tryz.ntmps117
  go_wp2_with fail
  refine (may_calls d L s i w h true (DiskS.may_yes hi)).mono ?_
  rintro e w1 ⟨rfl, rfl⟩
  go_wp2_with (refine copy_row (o := ⟨some 25, _, _, _, _, _⟩) rfl (.tmp 23) (.tmp 24) 38 38 rfl 5 Tryz.underlying38 E8s rfl rfl (to_new _) (hb.below ((Below.refl _ _).alloc (Nat.le_refl _) _)) ?c1 ?c2 ?_)
  case c1 => have := Hl.out; omega
  case c2 => omega
  intro w1 hB1 hb1
  have hb1 : Below w.heap.size w w1 := ((Below.refl _ _).alloc (Nat.le_refl _) _).trans hb1
  have h0 := h.below hb1
  have hd1 := hd.kept hb1
  have c2 : w1.cell? ⟨d, 2, none⟩ = some (.bool true) := by rw [hd1.cell, Hst.out]; rfl
  have c3 : w1.cell? ⟨d, 3, none⟩ = some (.int .i64 (s.cnt : Int)) := by rw [hd1.cell]; rfl
  have f3 := hd1.free 3
  have h1 := h0.tick hcnt
  have hd1' := hd1
  obtain ⟨w2, hw2⟩ : ∃ w2, w2 = w1.setCell ⟨d, 3, none⟩ (.int .i64 ((s.cnt : Int) - 1)) := ⟨_, rfl⟩
  rw [← hw2] at h1
  have hlt : d < w.heap.size := hd.lt
  have hB2 : Blk w2 w.heap.size (rowArr 32 fun k => if k < bs.length then bs.getD k 0 else 0) 51 := by rw [hw2]; exact hB1.set_other (show d ≠ w.heap.size by omega) _
  have hch2 : Chg (fun b => b = d ∨ b = L) w w2 := by rw [hw2]; exact (Chg.of_below hb1).set (.inl rfl) _
  have c0 : w2.cell? ⟨d, 0, none⟩ = some (.slice (some ⟨L, 0, none⟩) s.n cap) := by rw [hw2, (hd1.set 3 _).cell]; rfl
  have HB1 := Lib.hid hB1; have Hb1 := Lib.hid hb1; have Hd1 := Lib.hid hd1; have H0 := Lib.hid h0; have Hw2 := Lib.hid hw2
  clear hB1 hb1 hd1 h0 c1 hd1' hw2
  obtain ⟨cs, Hcs, hcl, hone, hr1, ht1, _⟩ := write_facts (i := i) h1 hi hB2 32 (Nat.le_refl _)
  have hu := Tryz.underlying51
  have hi32 : (Tryz.prog.info? 51).map (·.size) = some cs.length := by rw [hcl]; exact i32
  have hD := h1.laid (show i < _ from hi) bs (Nat.le_refl 32) Hcs.out 1
  have hC := Chg.setCells (S := fun b => b = d ∨ b = L) (L := L) (.inr rfl) cs (i * 32) _ hch2.drew
  have hD : IsDisk (w2.drew.setCells L (i * 32) cs) d L { s with cnt := s.cnt - 1, f := s.lay i bs 32 } := hD
  obtain ⟨cap', arr', hd2, _⟩ := id hD
  have c5 : (w2.drew.setCells L (i * 32) cs).cell? ⟨d, 5, none⟩ = some (.int .i64 (s.writes : Int)) := by rw [hd2.cell]; rfl
  have f5 := hd2.free 5
  have HD := Lib.hid hD; have HC := Lib.hid hC; have HB2 := Lib.hid hB2; have H1 := Lib.hid h1; have Hd2 := Lib.hid hd2; have Hch := Lib.hid hch2
  clear hD hC hB2 h1 hd2 hch2
  go_upto_region 13 with fail
  rw [← Hw2.out]
  go_region_held3 (fun w' => w'.cell? ⟨d, 0, none⟩ = some (.slice (some ⟨L, 0, none⟩) s.n cap) ∧ w'.rangeAt w.heap.size 0 cs ∧ w'.there L (i * 32) 32) (first | exact ⟨c0, hr1, ht1⟩ | exact keep_mid hne (Nat.ne_of_gt hL.lt) c0 hr1 ht1) (fail)
  go_wp2
  go_ret
  exact ⟨rfl, by rw [HW.out]; exact HD.out.count hw, HC.out.set (.inl rfl) _⟩
set_option maxRecDepth 100000 in
set_option maxHeartbeats 2000000 in
theorem dwrite_tear (d L : Nat) (s : DiskS) (i : Nat) (v : Value) (bs : List UInt8) (w : World) (h : IsDisk w d L s) (hb : Bys w v bs) (hi : i < s.n) (hl : bs.length ≤ 32) (hdead : s.dead = false) (hst : s.stops = true) (hcnt : s.cnt = 0) :
    Calls Tryz.prog 117 #[.pointer (some ⟨d, 0, none⟩), .int .i64 i, v] w fun e w' => e = .returned (.int .i64 8) ∧ IsDisk w' d L (s.write i bs) ∧ Chg (fun b => b = d ∨ b = L) w w' := by
  obtain ⟨cap, arr, hd, hc1, hcap, hL, r1, r2, r3, r4, r5, hne, r6, r7⟩ := id h
  have c1 : w.cell? ⟨d, 1, none⟩ = some (.bool false) := by rw [hd.cell, hdead]; rfl
  obtain ⟨a, c, rfl⟩ := hb.eq_slice
  have HW := Lib.hid (show s.write i bs = { s with f := s.lay i bs s.keep, dead := true } from by simp [DiskS.write, hst, hcnt])
  obtain ⟨l, hl'⟩ : ∃ l, l = bs.length := ⟨_, rfl⟩
  rw [← hl'] at hl hb ⊢
  have Hl := Lib.hid hl'; have Hst := Lib.hid hst; have Hcnt := Lib.hid hcnt
  have i1 : (0 : Int) ≤ (i : Int) := by omega
  have i2 : (i : Int) < (s.n : Int) := by omega
  have k1 : (0 : Int) ≤ (s.keep : Int) := by omega
  have k2 : (s.keep : Int) ≤ 32 := by omega
  clear hdead hst hl' hcnt
  go_enter Tryz.func117, Tryz.ntmps117
  go_wp2_with fail
  refine (may_calls d L s i w h true (DiskS.may_yes hi)).mono ?_
  rintro e w1 ⟨rfl, rfl⟩
  go_wp2_with (refine copy_row (o := ⟨some 25, _, _, _, _, _⟩) rfl (.tmp 23) (.tmp 24) 38 38 rfl 5 Tryz.underlying38 E8s rfl rfl (to_new _) (hb.below ((Below.refl _ _).alloc (Nat.le_refl _) _)) ?c1 ?c2 ?_)
  case c1 => have := Hl.out; omega
  case c2 => omega
  intro w1 hB1 hb1
  have hb1 : Below w.heap.size w w1 := ((Below.refl _ _).alloc (Nat.le_refl _) _).trans hb1
  have h1 := h.below hb1
  have hd1 := hd.kept hb1
  have c0 : w1.cell? ⟨d, 0, none⟩ = some (.slice (some ⟨L, 0, none⟩) s.n cap) := by rw [hd1.cell]; rfl
  have c2 : w1.cell? ⟨d, 2, none⟩ = some (.bool true) := by rw [hd1.cell, Hst.out]; rfl
  have c3 : w1.cell? ⟨d, 3, none⟩ = some (.int .i64 0) := by rw [hd1.cell, Hcnt.out]; rfl
  have c4 : w1.cell? ⟨d, 4, none⟩ = some (.int .i64 (s.keep : Int)) := by rw [hd1.cell]; rfl
  obtain ⟨cs, Hcs, hcl, hone, hr1, ht1, hsrc⟩ := write_facts (i := i) h1 hi hB1 s.keep r5
  have ht1 : w1.there L (i * 32) cs.length := fun j hj => ht1 j (by rw [hcl] at hj; omega)
  have hD := h1.laid hi bs r5 Hcs.out 1
  have hC := Chg.setCells (S := fun b => b = d ∨ b = L) (L := L) (.inr rfl) cs (i * 32) _ (Chg.drew (Chg.of_below (S := fun b => b = d ∨ b = L) hb1))
  have hD : IsDisk (w1.drew.setCells L (i * 32) cs) d L { s with f := s.lay i bs s.keep } := hD
  obtain ⟨cap', arr', hd2, _⟩ := id hD
  have c5 : (w1.drew.setCells L (i * 32) cs).cell? ⟨d, 1, none⟩ = some (.bool s.dead) := by rw [hd2.cell]; rfl
  have f5 := hd2.free 1
  have HD := Lib.hid hD; have HC := Lib.hid hC; have HB1 := Lib.hid hB1; have Hb1 := Lib.hid hb1; have Hd1 := Lib.hid hd1; have H1 := Lib.hid h1; have Hd2 := Lib.hid hd2; have Hcl := Lib.hid hcl; have Hsrc := Lib.hid hsrc; have Hone := Lib.hid hone; have Ht := Lib.hid ht1
  clear hD hC hB1 hb1 hd1 h1 hd2 c1 hcl hsrc hr1 hone ht1
  go_wp2_with fail
  go_region_held3 (fun w' => w'.cell? ⟨d, 0, none⟩ = some (.slice (some ⟨L, 0, none⟩) s.n cap) ∧ w'.cell? ⟨d, 4, none⟩ = some (.int .i64 (s.keep : Int))) (first | exact ⟨c0, c4⟩ | assumption | exact ⟨by rw [World.cell?_setCells_out _ _ _ _ _ (fun e => absurd e hne)]; exact c0, by rw [World.cell?_setCells_out _ _ _ _ _ (fun e => absurd e hne)]; exact c4⟩)
    (first
      | (refine step_copy_set (by rfl) _ _ _ _ 5 (by rfl) Tryz.underlying38 E8s (b := L) (off := i * 32) (sa := ⟨w.heap.size, 0, none⟩) cs (by rfl) (by rfl) (by rw [Hcl.out]; exact (Nat.min_self _).symm) Hsrc.out Ht.out Hone.out ?_))
  go_wp2
  go_ret
  exact ⟨rfl, by rw [HW.out]; exact HD.out.die, HC.out.set (.inl rfl) _⟩
theorem dwrite_calls (d L : Nat) (s : DiskS) (i : Nat) (v : Value) (bs : List UInt8) (w : World) (h : IsDisk w d L s) (hb : Bys w v bs) (hi : i < s.n) (hl : bs.length ≤ 32) (hdead : s.dead = false) (hw : s.writes < 4611686018427387904) :
    Calls Tryz.prog 117 #[.pointer (some ⟨d, 0, none⟩), .int .i64 i, v] w fun e w' => e = .returned (.int .i64 (if s.stops = true ∧ s.cnt = 0 then 8 else 0)) ∧ IsDisk w' d L (s.write i bs) ∧ Chg (fun b => b = d ∨ b = L) w w' := by
  by_cases hs : s.stops = true
  · by_cases hc : s.cnt = 0
    · rw [if_pos ⟨hs, hc⟩]; exact dwrite_tear d L s i v bs w h hb hi hl hdead hs hc
    · rw [if_neg (fun e => hc e.2)]; exact dwrite_tick d L s i v bs w h hb hi hl hdead hs (by omega) hw
  · rw [if_neg (fun e => hs e.1)]; exact dwrite_plain d L s i v bs w h hb hi hl hdead (by simpa using hs) hw
end Go.Proofs.YtclhgokchcklbaaGreatDoor
end
section
namespace Go.Mem
open Go Go.RowKit Gf
theorem lay_same (s : DiskS) (i : Nat) (bs : List UInt8) (m k : Nat) : s.lay i bs m (i * 32 + k) = if k < m then bs.getD k 0 else s.f (i * 32 + k) := by
  unfold DiskS.lay
  by_cases h : k < m
  · rw [if_pos (by omega), if_pos h, show i * 32 + k - i * 32 = k from by omega]
  · rw [if_neg (by omega), if_neg h]
theorem sector_get (s : DiskS) (i k : Nat) (hk : k < 32) : (s.sector i)[k]? = some (s.f (i * 32 + k)) := rowL_get _ _ _ hk
theorem sector_len (s : DiskS) (i : Nat) : (s.sector i).length = 32 := rowL_len _ _
end Go.Mem
namespace Go.Proofs.YtclhgokchcklbaaGreatDoor
open Go Go.RowKit Go.Mem Gf
attribute [local go_sem ↓] Go.wp_at_zero Go.wp_at_succ
end Go.Proofs.YtclhgokchcklbaaGreatDoor
end
section
namespace Go.Proofs.YtclhgokchcklbaaGreatDoor
open Go Go.RowKit Go.Mem Gf
attribute [local go_sem ↓] Go.wp_at_zero Go.wp_at_succ
end Go.Proofs.YtclhgokchcklbaaGreatDoor
end
section
namespace Go.Mem
open Go Go.RowKit Gf
section
variable {P : Program} {w : World} {ops : Array Oper} {rest : List Oper} {o : Oper} {a : Act} {Q : Exit → Act → World → Prop} {K : Act → World → Prop} {E0 : Prop}
structure ElemK (P : Program) (t e : TypeId) (z : Value) (size bytes : Nat) : Prop where
  under : P.underlying t = some (.slice e)
  info : (P.info? e).map (fun i => (i.zero, i.size, i.bytes)) = some (some z, size, bytes)
  zsize : z.cells.size = size
  pos : 0 < size
theorem own_blk {base e size n : Nat} {v : Value} {xs : List Value} (h : w.ownsRow base e size v n xs) (h0 : 0 < n) :
    ∃ g cap arr, v = .slice (some ⟨g, 0, none⟩) n cap ∧ base ≤ g ∧ Blk w g arr e ∧ n ≤ cap ∧ cap ≤ maxLen ∧ arr.size = cap * size ∧ ∀ j, j < n * size → arr[j]? = xs[j]? := by
  obtain ⟨hl, h⟩ := h
  rcases h with ⟨_, h⟩ | ⟨g, cap, cur, rfl, hb, hg, hc, hm, hs, ht⟩
  · omega
  · refine ⟨g, cap, cur, rfl, hb, hg, hc, hm, hs, fun j hj => ?_⟩
    rw [← ht, List.getElem?_take, if_pos hj]
    simp
end
end Go.Mem
end
section
namespace Go.Mem
open Go Go.RowKit Gf
end Go.Mem
namespace Go.Proofs.YtclhgokchcklbaaGreatDoor
open Go Go.RowKit Go.Mem Gf
attribute [local go_sem ↓] Go.wp_at_zero Go.wp_at_succ
end Go.Proofs.YtclhgokchcklbaaGreatDoor
end
section
namespace Go.Mem
open Go Go.RowKit Gf
def DiskS.rres (s : DiskS) (i : Int) : Int := if s.may i = true then (if s.dead = true then 8 else 0) else 1
def DiskS.rd (s : DiskS) (i : Int) : List UInt8 := if s.may i = true ∧ s.dead = false then s.sector i.toNat else []
def DiskS.wres (s : DiskS) (i : Int) (n : Nat) : Int := if s.may i = true ∧ n ≤ 32 then (if s.dead = true then 8 else if s.stops = true ∧ s.cnt = 0 then 8 else 0) else 1
def DiskS.wr (s : DiskS) (i : Int) (bs : List UInt8) : DiskS := if (s.may i = true ∧ bs.length ≤ 32) ∧ s.dead = false then s.write i.toNat bs else s
theorem DiskS.may_out {s : DiskS} {i : Int} (h : s.may i = true) : ∃ j : Nat, i = j ∧ j < s.n := by
  simp [DiskS.may] at h
  exact ⟨i.toNat, by omega, by omega⟩
theorem DiskS.may_bad {s : DiskS} {i : Int} (h : ¬ s.may i = true) : i < 0 ∨ (s.n : Int) ≤ i := by
  simp [DiskS.may] at h
  omega
theorem DiskS.wr_n (s : DiskS) (i : Int) (bs : List UInt8) : (s.wr i bs).n = s.n := by
  unfold DiskS.wr DiskS.write; split
  · split <;> rfl
  · rfl
theorem DiskS.wr_writes (s : DiskS) (i : Int) (bs : List UInt8) : (s.wr i bs).writes ≤ s.writes + 1 := by
  unfold DiskS.wr DiskS.write; split
  · split
    · exact Nat.le_succ _
    · exact Nat.le_refl _
  · exact Nat.le_succ _
end Go.Mem
namespace Go.Proofs.YtclhgokchcklbaaGreatDoor
open Go Go.RowKit Go.Mem Gf
theorem dread_any (d L : Nat) (s : DiskS) (i : Int) (w : World) (h : IsDisk w d L s) :
    Calls Tryz.prog 115 #[.pointer (some ⟨d, 0, none⟩), .int .i64 i] w fun e w' => ∃ v, e = .returned (.tuple #[v, .int .i64 (s.rres i)]) ∧ OwnF 5 w' w.heap.size v (s.rd i) ∧ Below w.heap.size w w' := by
  by_cases hm : s.may i = true
  · obtain ⟨j, rfl, hj⟩ := DiskS.may_out hm
    by_cases hd : s.dead = true
    · refine (dread_dead d L s j w h hj hd).mono ?_
      rintro e w1 ⟨rfl, rfl⟩
      exact ⟨.slice none 0 0, by simp [DiskS.rres, hm, hd], by simp [DiskS.rd, hd]; exact OwnF.nil _ _ _, Below.refl _ _⟩
    · have hd : s.dead = false := by simpa using hd
      refine (dread_calls d L s j w h hj hd).mono ?_
      rintro e w1 ⟨v, rfl, h1, h2⟩
      exact ⟨v, by simp [DiskS.rres, hm, hd], by simp [DiskS.rd, hm, hd]; exact h1, h2⟩
  · refine (dread_bad d L s i w h (DiskS.may_bad hm)).mono ?_
    rintro e w1 ⟨rfl, rfl⟩
    exact ⟨.slice none 0 0, by simp [DiskS.rres, hm], by simp [DiskS.rd, hm]; exact OwnF.nil _ _ _, Below.refl _ _⟩
theorem dwrite_any (d L : Nat) (s : DiskS) (i : Int) (v : Value) (bs : List UInt8) (w : World) (h : IsDisk w d L s) (hb : Bys w v bs) (hw : s.writes < 4611686018427387904) :
    Calls Tryz.prog 117 #[.pointer (some ⟨d, 0, none⟩), .int .i64 i, v] w fun e w' => e = .returned (.int .i64 (s.wres i bs.length)) ∧ IsDisk w' d L (s.wr i bs) ∧ Chg (fun b => b = d ∨ b = L) w w' := by
  by_cases hm : s.may i = true ∧ bs.length ≤ 32
  · obtain ⟨j, rfl, hj⟩ := DiskS.may_out hm.1
    by_cases hd : s.dead = true
    · refine (dwrite_dead d L s j v bs w h hb hj hm.2 hd).mono ?_
      rintro e w1 ⟨rfl, rfl⟩
      exact ⟨by rw [DiskS.wres, if_pos hm, if_pos hd], by rw [DiskS.wr, if_neg (by simp [hd])]; exact h, Chg.refl _ _⟩
    · have hd : s.dead = false := by simpa using hd
      refine (dwrite_calls d L s j v bs w h hb hj hm.2 hd hw).mono ?_
      rintro e w1 ⟨rfl, h1, h2⟩
      exact ⟨by rw [DiskS.wres, if_pos hm, if_neg (show ¬ s.dead = true by simp [hd])], by rw [DiskS.wr, if_pos ⟨hm, hd⟩]; exact h1, h2⟩
  · refine (dwrite_bad d L s i v bs w h hb ?_).mono ?_
    · rcases Nat.lt_or_ge 32 bs.length with hl | hl
      · exact .inr hl
      · exact .inl (DiskS.may_bad fun e => hm ⟨e, hl⟩)
    rintro e w1 ⟨rfl, rfl⟩
    exact ⟨by rw [DiskS.wres, if_neg hm], by rw [DiskS.wr, if_neg (fun e => hm e.1)]; exact h, Chg.refl _ _⟩
end Go.Proofs.YtclhgokchcklbaaGreatDoor
end
section
namespace Sto
open Go.Mem
structure Rec where
  is : Bool
  name : ByteArray
  num : Nat
  data : List UInt8
def Rec.free : Rec := ⟨false, ByteArray.empty, 0, []⟩
def takeN : Nat → List UInt8 → Option (List (List UInt8) × List UInt8)
  | 0, b => some ([], b)
  | k + 1, b => match takeN k b with
    | none => none
    | some (xs, r) => match Cod.takeNet r with
      | none => none
      | some (x, r') => some (xs ++ [x], r')
theorem takeN_len : ∀ (k : Nat) (b : List UInt8) (xs : List (List UInt8)) (r : List UInt8), takeN k b = some (xs, r) → xs.length = k
  | 0, b, xs, r, h => by simp [takeN] at h; rw [h.1]; rfl
  | k + 1, b, xs, r, h => by
    simp only [takeN] at h
    split at h
    · cases h
    · rename_i xs' r' h'
      split at h
      · cases h
      · injection h with h
        injection h with h1 h2
        subst h1
        rw [List.length_append, takeN_len k b xs' r' h']; rfl
def parse (b : List UInt8) : Option Rec :=
  match takeN 3 b with
  | none => none
  | some (xs, _) => if (xs.getD 1 []).length = 4 then some ⟨true, ⟨(xs.getD 0 []).toArray⟩, Cod.getN (xs.getD 1 []), xs.getD 2 []⟩ else none
def text (name : ByteArray) (num : Nat) (data : List UInt8) : List UInt8 := Cod.nets [name.data.toList, Cod.be 4 num, data]
def best (l : List Rec) (name : ByteArray) : Nat → Option Nat
  | 0 => none
  | k + 1 => match l[k]? with
    | none => best l name k
    | some r => if r.is = true ∧ (r.name.toList == name.toList) = true ∧ (∀ j, best l name k = some j → (l.getD j Rec.free).num < r.num) then some k else best l name k
end Sto
end
section
namespace Go.Mem
open Go Go.RowKit Gf
def OwnX (t8 : TypeId) (w : World) (base : Nat) (v : Value) (bs : List UInt8) : Prop :=
  (v = .slice none 0 0 ∧ bs = []) ∨ ∃ g cap arr fz, v = .slice (some ⟨g, 0, none⟩) bs.length cap ∧ base ≤ g ∧ w.heap[g]? = some (.cells arr t8 fz) ∧ (fz = (0, 0) ∨ arr.size ≤ fz.1) ∧ bs.length ≤ cap ∧ cap ≤ maxLen ∧ arr.size = cap ∧
    (∀ (i : Nat) (u : UInt8), bs[i]? = some u → arr[i]? = some (Value.int .u8 ((u.toNat : Nat) : Int))) ∧ Byt arr
section
variable {t8 : TypeId} {w w' : World} {base : Nat} {v : Value} {bs : List UInt8}
theorem OwnX.nil (t8 : TypeId) (w : World) (base : Nat) : OwnX t8 w base (.slice none 0 0) [] := .inl ⟨rfl, rfl⟩
theorem OwnX.eq_slice (h : OwnX t8 w base v bs) : ∃ a cap, v = .slice a bs.length cap := by
  rcases h with ⟨rfl, rfl⟩ | ⟨g, cap, _, _, rfl, _⟩
  · exact ⟨_, _, rfl⟩
  · exact ⟨_, _, rfl⟩
theorem OwnX.bys (h : OwnX t8 w base v bs) : Bys w v bs := by
  rcases h with ⟨rfl, rfl⟩ | ⟨g, cap, arr, fz, rfl, _, hg, _, h1, h2, _, h3, _⟩
  · exact Bys.nil w
  · refine ⟨_, cap, rfl, h1, h2, fun _ => ⟨g, 0, rfl, fun i u hi => ?_⟩⟩
    rw [Nat.zero_add]
    have := h3 i u hi
    simp [World.cell?, hg, this]
theorem OwnX.lt (h : OwnX t8 w base v bs) : ∀ k, v.ownBlock = some k → base ≤ k ∧ k < w.heap.size := by
  rcases h with ⟨rfl, rfl⟩ | ⟨g, cap, arr, fz, rfl, hb, hg, _⟩
  · intro k hk; simp [Value.ownBlock] at hk
  · intro k hk; simp [Value.ownBlock] at hk; subst hk; exact ⟨hb, lt_of_block hg⟩
theorem OwnX.drew (h : OwnX t8 w base v bs) : OwnX t8 w.drew base v bs := h
theorem OwnX.mono (h : OwnX t8 w base v bs) {base' : Nat} (hb : base' ≤ base) : OwnX t8 w base' v bs := by
  rcases h with h | ⟨g, cap, arr, fz, h1, h2, r⟩
  · exact .inl h
  · exact .inr ⟨g, cap, arr, fz, h1, Nat.le_trans hb h2, r⟩
theorem OwnX.kept (h : OwnX t8 w base v bs) (hk : ∀ g, v.ownBlock = some g → w'.heap[g]? = w.heap[g]?) : OwnX t8 w' base v bs := by
  rcases h with h | ⟨g, cap, arr, fz, rfl, h2, h3, r⟩
  · exact .inl h
  · exact .inr ⟨g, cap, arr, fz, rfl, h2, by rw [hk g rfl]; exact h3, r⟩
theorem OwnX.below (h : OwnX t8 w base v bs) (hb : Below w.heap.size w w') : OwnX t8 w' base v bs := h.kept fun g hg => hb.block g (h.lt g hg).2
theorem OwnX.chg {S : Nat → Prop} (h : OwnX t8 w base v bs) (hc : Chg S w w') (hs : ∀ g, v.ownBlock = some g → ¬ S g) : OwnX t8 w' base v bs := h.kept fun g hg => hc.block g (h.lt g hg).2 (hs g hg)
theorem OwnX.alloc (h : OwnX t8 w base v bs) (o : Obj) : OwnX t8 (w.alloc o) base v bs := h.below ((Below.refl _ _).alloc (Nat.le_refl _) _)
theorem OwnF.x (h : OwnF t8 w base v bs) : OwnX t8 w base v bs := by
  obtain ⟨⟨h1, h2⟩, h3⟩ := h
  rcases h2 with ⟨rfl, h0⟩ | ⟨g, cap, cur, rfl, hb, hg, hnc, hcm, hcs, htake⟩
  · exact .inl ⟨rfl, List.eq_nil_of_length_eq_zero h0⟩
  · obtain ⟨arr, h4, h5⟩ := h3 g rfl
    have e : cur = arr := by
      have := (show Blk w g cur t8 from hg).symm.trans h4
      injection this with this
      injection this with this
    subst e
    refine .inr ⟨g, cap, cur, (0, 0), rfl, hb, hg, .inl rfl, hnc, hcm, by omega, fun i u hi => ?_, h5⟩
    have hil : i < bs.length := by
      rcases Nat.lt_or_ge i bs.length with h | h
      · exact h
      · rw [List.getElem?_eq_none h] at hi; cases hi
    have : (bV bs)[i]? = some (.int .u8 ((u.toNat : Nat) : Int)) := by rw [bV_get, hi]; rfl
    rw [← htake, List.getElem?_take, if_pos (by omega)] at this
    simpa using this
theorem conv_ownX (w : World) (e : TypeId) (s : ByteArray) (hs : s.size ≤ maxLen) : OwnX e (Lib.bytesWorld w e s) w.heap.size (.slice (some ⟨w.heap.size, 0, none⟩) s.size (grownCap w s.size 0 e)) s.data.toList ∧ Below w.heap.size w (Lib.bytesWorld w e s) := by
  have hge := grownCap_ge w s.size 0 e
  have hsz : (Lib.bytesCells w e s).size = grownCap w s.size 0 e := by
    simp only [Lib.bytesCells, Array.size_append, Array.size_map, Array.size_replicate]
    show s.size + _ = _
    omega
  refine ⟨.inr ⟨_, _, _, _, rfl, Nat.le_refl _, Lib.bytesWorld_at_new w e s, .inr (Nat.le_refl _), hge, grownCap_le_maxLen w s.size 0 e hs, hsz, fun i u hi => ?_, ?_⟩, ?_⟩
  · unfold Lib.bytesCells
    have hil : i < s.data.size := by
      rcases Nat.lt_or_ge i s.data.size with h | h
      · exact h
      · rw [List.getElem?_eq_none (by simpa using h)] at hi; cases hi
    rw [Array.getElem?_append_left (by simpa using hil)]
    simp at hi ⊢
    exact ⟨u, hi, rfl⟩
  · refine byt_mem.2 fun y hy => ?_
    simp only [Lib.bytesCells, Array.toList_append, Array.toList_map, List.mem_append, List.mem_map, Array.toList_replicate, List.mem_replicate] at hy
    rcases hy with ⟨x, _, rfl⟩ | ⟨_, rfl⟩
    · exact ⟨x, rfl⟩
    · exact ⟨0, rfl⟩
  · exact ⟨by simp [Lib.bytesWorld, World.freeze, World.alloc, World.drew, -World.alloc_eq, -World.drew_eq], by simp [Lib.bytesWorld, World.freeze, World.alloc, World.drew, -World.alloc_eq, -World.drew_eq], by simp [Lib.bytesWorld, World.freeze, World.alloc, World.drew, -World.alloc_eq, -World.drew_eq], by rw [Lib.bytesWorld_size]; omega, fun k hk => Lib.bytesWorld_at_old w e s k hk⟩
end
theorem run_storeCells_atX (P : Program) (g o : Nat) (t : TypeId) (fz : Nat × Nat) : ∀ (vs : List Value) (i : Nat) (cur : Array Value) (w : World), w.heap[g]? = some (.cells cur t fz) → (fz = (0, 0) ∨ cur.size ≤ fz.1) → o + i + vs.length ≤ cur.size → (∀ v ∈ vs, v.oneCell' = true) →
    (storeCells ⟨g, o, none⟩ vs i).run P w = .ok () (w.setRow g (cur.toList.take (o + i) ++ vs ++ cur.toList.drop (o + i + vs.length)).toArray)
  | [], i, cur, w, hg, _, _, _ => by
    simp only [storeCells, List.append_nil, List.length_nil, Nat.add_zero, List.take_append_drop, Array.toArray_toList]
    rw [setRow_self w g cur t fz hg]
    rfl
  | v :: rest, i, cur, w, hg, hfz, hl, h1 => by
    have hi : o + i < cur.size := by simp at hl; omega
    have hadd : (⟨g, o, none⟩ : Addr).add i = ⟨g, o + i, none⟩ := by unfold Addr.add; split <;> simp_all
    have hcell : w.cell? ⟨g, o + i, none⟩ = some cur[o + i] := by simp [World.cell?, hg, hi]
    have hfro : w.frozen? ⟨g, o + i, none⟩ = false := by
      obtain ⟨lo, hi'⟩ := fz
      simp only [World.frozen?, hg, Bool.and_eq_false_iff, decide_eq_false_iff_not]
      rcases hfz with hfz | hfz
      · right; cases hfz; omega
      · left; simp only at hfz; omega
    have hst : (store ((⟨g, o, none⟩ : Addr).add i) v).run P w = .ok () (w.setRow g (cur.setIfInBounds (o + i) v)) := by
      rw [hadd, run_store P w _ v _ (h1 v (by simp)), hcell]
      simp [hfro, setCell_eq_setRow w g (o + i) cur t fz v hg]
    have ih := run_storeCells_atX P g o t fz rest (i + 1) (cur.setIfInBounds (o + i) v) (w.setRow g (cur.setIfInBounds (o + i) v)) (setRow_heap w g cur _ t _ hg) (by rw [Array.size_setIfInBounds]; exact hfz) (by simp at hl ⊢; omega) (fun x hx => h1 x (by simp [hx]))
    simp only [storeCells, Sem.run_bind, hst, Result.andThen_ok, ih, setRow_setRow]
    congr 3
    have e := list_seg_step cur.toList (o + i) v rest (by simp at hl ⊢; omega)
    simpa [Array.toList_setIfInBounds, Nat.add_assoc] using e
section
variable {P : Program} {w : World} {ops : Array Oper} {rest : List Oper} {o : Oper} {a : Act} {Q : Exit → Act → World → Prop} {K : Act → World → Prop} {E0 : Prop}
theorem run_append_roomX (t ty e : TypeId) (i : TypeInfo) (ht : P.underlying t = some (.slice e)) (hi : P.info? e = some i) (hs1 : i.size = 1)
    (g sLen sCap : Nat) (cur : Array Value) (fz : Nat × Nat) (hg : w.heap[g]? = some (.cells cur e fz)) (hfz : fz = (0, 0) ∨ cur.size ≤ fz.1)
    (ad : Addr) (m c : Nat) (news : List Value) (hl : news.length = m) (hnews : ∀ j u, news[j]? = some u → w.cell? (ad.add j) = some u) (h1 : ∀ u ∈ news, u.oneCell' = true)
    (hroom : sLen + m ≤ sCap) (hfit : sLen + news.length ≤ cur.size) :
    (Builtin.append_ #[t, t] ty #[.slice (some ⟨g, 0, none⟩) sLen sCap, .slice (some ad) m c]).run P w =
      .ok (.slice (some ⟨g, 0, none⟩) (sLen + m) sCap) (w.setRow g (cur.toList.take sLen ++ news ++ cur.toList.drop (sLen + news.length)).toArray) := by
  have hf := run_firstCells_some (P := P) w i.size m ad m c news (by rw [hs1]; omega) hnews
  have hst := run_storeCells_atX P g (sLen * i.size) e fz news 0 cur w hg hfz (by rw [hs1]; simpa using hfit) h1
  simp only [Nat.add_zero, hs1, Nat.mul_one] at hst hf
  simp [Builtin.append_, run_underlying ht, sizeOf, typeInfo, hi, Builtin.lenOf, hroom, hf, Addr.add_lit, hst, hs1]
theorem run_appX {t e : TypeId} (E : Elem P t e (.int .u8 0) 1) (ty : TypeId) {base : Nat} {v xv : Value} {bs news : List UInt8} (hown : OwnX e w base v bs) (hb : Bys w xv news) (hn : bs.length + news.length ≤ 140737488355328) (hbase : base ≤ w.heap.size) :
    ∃ v' w', (Builtin.append_ #[t, t] ty #[v, xv]).run P w = .ok v' w' ∧ OwnX e w' base v' (bs ++ news) ∧ w.grownBy w' v.ownBlock := by
  obtain ⟨i, hi, hz, hsz, hby⟩ := info_parts E.info
  rcases hown with ⟨rfl, rfl⟩ | ⟨g, cap, arr, fz, rfl, hbg, hg, hfz, hnc, hcm, hcs, hcells, hbyt⟩
  · obtain ⟨v', w', h1, h2, h3⟩ := run_appF E ty (OwnF.nil e w base) hb hn hbase
    exact ⟨v', w', h1, h2.x, h3⟩
  · obtain ⟨ad, xcap, rfl, hc1, hc2, hcell⟩ := hb
    have holds : ∀ j u, (bV bs)[j]? = some u → w.cell? ((⟨g, 0, none⟩ : Addr).add j) = some u := fun j u hj => by
      rw [bV_get] at hj
      cases hu : bs[j]? with
      | none => rw [hu] at hj; cases hj
      | some x =>
        rw [hu] at hj
        have := hcells j x hu
        rw [show (⟨g, 0, none⟩ : Addr).add j = ⟨g, j, none⟩ from by unfold Addr.add; split <;> simp_all]
        simp at hj
        subst hj
        simp [World.cell?, hg, this]
    cases ad with
    | none =>
      have hl : news = [] := by
        rcases Nat.eq_zero_or_pos news.length with h0 | h0
        · exact List.eq_nil_of_length_eq_zero h0
        · obtain ⟨b, off, e, _⟩ := hcell h0; cases e
      subst hl
      refine ⟨_, w, ?_, by rw [List.append_nil]; exact .inr ⟨g, cap, arr, fz, rfl, hbg, hg, hfz, hnc, hcm, hcs, hcells, hbyt⟩, ⟨rfl, rfl, rfl, Nat.le_refl _, fun _ _ _ => rfl⟩⟩
      simp [Builtin.append_, run_underlying E.under, sizeOf, typeInfo, hi, Builtin.lenOf, Builtin.firstCells, hnc, storeCells]
    | some ad =>
      have hlen : (bV news).length = news.length * i.size := by rw [bV_len, hsz]; omega
      have hnews : ∀ j y, (bV news)[j]? = some y → w.cell? (ad.add j) = some y := fun j y hj => by
        rw [bV_get] at hj
        cases hu : news[j]? with
        | none => rw [hu] at hj; cases hj
        | some u =>
          rw [hu] at hj
          have hjl : j < news.length := by
            rcases Nat.lt_or_ge j news.length with h' | h'
            · exact h'
            · rw [List.getElem?_eq_none h'] at hu; cases hu
          obtain ⟨b, off, e, hc⟩ := hcell (by omega)
          cases e
          rw [show (⟨b, off, none⟩ : Addr).add j = ⟨b, off + j, none⟩ from by
            unfold Addr.add
            split
            · subst_vars; rfl
            · rfl]
          rw [hc j u hu]
          simpa using hj
      by_cases hroom : bs.length + news.length ≤ cap
      · have hr := run_append_roomX (P := P) (w := w) t ty e i E.under hi hsz g bs.length cap arr fz hg hfz ad news.length xcap (bV news) (bV_len _) hnews (bV_one _) hroom (by rw [bV_len]; omega)
        refine ⟨_, _, hr, .inr ⟨g, cap, _, fz, by rw [List.length_append], hbg, setRow_heap w g arr _ e _ hg, ?_, by rw [List.length_append]; exact hroom, hcm, ?_, fun j u hj => ?_, byt_mem.2 fun y hy => ?_⟩, ⟨rfl, rfl, rfl, by simp, fun k _ hk => setRow_other w g k _ (fun e => hk (by simp [Value.ownBlock, e]))⟩⟩
        · rcases hfz with h | h
          · exact .inl h
          · refine .inr ?_
            simp only [List.size_toArray, List.length_append, List.length_take, List.length_drop, Array.length_toList, bV_len]
            omega
        · simp only [List.size_toArray, List.length_append, List.length_take, List.length_drop, Array.length_toList, bV_len]
          omega
        · rw [List.getElem?_toArray]
          by_cases hjb : j < bs.length
          · rw [List.getElem?_append_left hjb] at hj
            rw [List.append_assoc, List.getElem?_append_left (by simp; omega), List.getElem?_take, if_pos hjb]
            simpa using hcells j u hj
          · rw [List.getElem?_append_right (by omega)] at hj
            have hjn : j - bs.length < news.length := by
              rcases Nat.lt_or_ge (j - bs.length) news.length with h' | h'
              · exact h'
              · rw [List.getElem?_eq_none h'] at hj; cases hj
            have htl : (arr.toList.take bs.length).length = bs.length := by simp; omega
            rw [List.append_assoc, List.getElem?_append_right (by rw [htl]; omega), htl, List.getElem?_append_left (by rw [bV_len]; exact hjn), bV_get, hj]
            rfl
        · have h6 := byt_mem.1 hbyt
          simp only [List.mem_append] at hy
          rcases hy with (hy | hy) | hy
          · exact h6 y (List.mem_of_mem_take hy)
          · exact byt_bV _ y hy
          · exact h6 y (List.mem_of_mem_drop hy)
      · have hr := run_append_grow (P := P) w t ty e i (.int .u8 0) E.under hi hz ⟨g, 0, none⟩ bs.length cap (bV bs) (by rw [bV_len, hsz]; omega) holds ad news.length xcap (bV news) hlen hnews (by omega) (by omega) (growslice_fits (by omega) (by rw [hby]; omega))
        have hge := grownCap_ge w (bs.length + news.length) cap e
        have hcm2 : grownCap w (bs.length + news.length) cap e ≤ maxLen := grownCap_le_maxLen w (bs.length + news.length) cap e (by unfold maxLen; omega)
        refine ⟨_, _, hr, .inr ⟨w.heap.size, _, _, (0, 0), by rw [List.length_append], hbase, heap_alloc_new w.drew _, .inl rfl, by rw [List.length_append]; exact hge, hcm2, ?_, fun j u hj => ?_, byt_mem.2 fun y hy => ?_⟩, ⟨rfl, rfl, rfl, by simp, fun k hk _ => heap_alloc_old w.drew _ hk⟩⟩
        · simp only [Array.size_append, List.size_toArray, size_zeroCells, bV_len]
          rw [show (Value.cells (.int .u8 0)).size = 1 from rfl]
          omega
        · have : ((bV bs ++ bV news))[j]? = some (.int .u8 ((u.toNat : Nat) : Int)) := by rw [← bV_app, bV_get, hj]; rfl
          have hjl : j < (bV bs ++ bV news).length := by
            rcases Nat.lt_or_ge j (bV bs ++ bV news).length with h' | h'
            · exact h'
            · rw [List.getElem?_eq_none h'] at this; cases this
          rw [Array.getElem?_append_left (by simpa using hjl)]
          simpa using this
        · simp only [Array.toList_append, List.mem_append] at hy
          rcases hy with (hy | hy) | hy
          · exact byt_bV _ y (by simpa using hy)
          · exact byt_bV _ y (by simpa using hy)
          · exact byt_zero _ y hy
theorem wpAppX {t e : TypeId} (E : Elem P t e (.int .u8 0) 1) (s x : Operand) (ho : o.op = .call { callee := .builtin .append, args := #[s, x], argTypes := #[t, t] })
    {base : Nat} {v xv : Value} {bs news : List UInt8} (hs : a.eval s = v) (hx : a.eval x = xv) (hown : OwnX e w base v bs) (hb : Bys w xv news) (hn : bs.length + news.length ≤ 140737488355328) (hbase : base ≤ w.heap.size)
    (h : ∀ v' w', OwnX e w' base v' (bs ++ news) ∧ w.grownBy w' v.ownBlock → K (a.put o.dst v') w') : o.wp P a w K Q := by
  obtain ⟨v', w', hr, h2, h3⟩ := run_appX E o.type hown hb hn hbase
  unfold Oper.wp execOp
  simp only [ho, resolve, invoke, builtin, Sem.run_bind, Sem.run_pure, Result.andThen_ok, List.map_toArray, List.map_cons, List.map_nil, hs, hx, hr]
  exact h v' w' ⟨h2, h3⟩
theorem appX {t e : TypeId} (E : Elem P t e (.int .u8 0) 1) (hgd : o.guard = none) (s x : Operand) (ho : o.op = .call { callee := .builtin .append, args := #[s, x], argTypes := #[t, t] })
    {base : Nat} {v xv : Value} {bs news : List UInt8} (hs : a.eval s = v) (hx : a.eval x = xv) (hown : OwnX e w base v bs) (hb : Bys w xv news) (hn : bs.length + news.length ≤ 140737488355328) (hbase : base ≤ w.heap.size)
    (h : ∀ v' w', OwnX e w' base v' (bs ++ news) → w.grownBy w' v.ownBlock → wpList P ops Q rest (a.put o.dst v') w') : wpList P ops Q (o :: rest) a w :=
  to_list hgd (fun _ hK => wpAppX E s x ho hs hx hown hb hn hbase hK) fun v' w' h2 => h v' w' h2.1 h2.2
theorem stepAppX {t e : TypeId} (E : Elem P t e (.int .u8 0) 1) (hgd : o.guard = none) (s x : Operand) (ho : o.op = .call { callee := .builtin .append, args := #[s, x], argTypes := #[t, t] })
    {base : Nat} {v xv : Value} {bs news : List UInt8} (hs : a.eval s = v) (hx : a.eval x = xv) (hown : OwnX e w base v bs) (hb : Bys w xv news) (hn : bs.length + news.length ≤ 140737488355328) (hbase : base ≤ w.heap.size)
    (h : ∀ v' w', OwnX e w' base v' (bs ++ news) → w.grownBy w' v.ownBlock → K (a.put o.dst v') w') : if Region.wanted o (yielded ops a.tmps) = true then Oper.wp P o a w K Q else E0 :=
  to_step hgd (fun _ hK => wpAppX E s x ho hs hx hown hb hn hbase hK) fun v' w' h2 => h v' w' h2.1 h2.2
theorem grown_below {w0 w' : World} {row : Option Nat} (hb : Below w0.heap.size w0 w) (h : w.grownBy w' row) (hr : ∀ k, row = some k → w0.heap.size ≤ k) : Below w0.heap.size w0 w' :=
  ⟨h.os.trans hb.os, h.tape.trans hb.tape, h.output.trans hb.output, Nat.le_trans hb.size h.size, fun k hk => (h.block k (Nat.lt_of_lt_of_le hk hb.size) fun e => by have := hr k e.symm; omega).trans (hb.block k hk)⟩
end
end Go.Mem
end
section
namespace Go.Proofs.YtclhgokchcklbaaGreatDoor
open Go Go.RowKit Go.Mem Gf
attribute [local go_sem ↓] Go.wp_at_zero Go.wp_at_succ
set_option maxRecDepth 20000 in
theorem or_byte (g u : Nat) (hg : g * 256 + u < 72057594037927936) (hu : u < 256) : bits .or .i64 ((g : Int) * 256) (u : Int) = ((g * 256 + u : Nat) : Int) := by
  have h0 : ((g : Int) * 256) = ((g * 256 : Nat) : Int) := by omega
  have h1 : g * 256 % 2 ^ IntKind.bits .i64 = g * 256 := Nat.mod_eq_of_lt (show g * 256 < 18446744073709551616 by omega)
  have h2 : u % 2 ^ IntKind.bits .i64 = u := Nat.mod_eq_of_lt (show u < 18446744073709551616 by omega)
  rw [h0]
  simp only [bits, BitVec.ofInt_natCast, BitVec.toNat_or, BitVec.toNat_ofNat, h1, h2]
  have e : g * 256 ||| u = g * 256 + u := by
    have := Nat.two_pow_add_eq_or_of_lt (i := 8) hu g
    rw [Nat.mul_comm g 256]; exact this.symm
  rw [e]
  exact IntWalk.i64_in _ (by omega)
theorem E8c : Elem Tryz.prog 38 5 (.int .u8 0) 1 := ⟨Tryz.underlying38, by kernel_rfl, rfl⟩
theorem conv_string {w : World} {v : Value} {bs : List UInt8} (h : Bys w v bs) : (convert 38 9 v).run Tryz.prog w = .ok (.string ⟨bs.toArray⟩) w := by
  obtain ⟨a, cap, rfl, h1, h2, h3⟩ := h
  rcases Nat.eq_zero_or_pos bs.length with h0 | h0
  · rw [h0, List.eq_nil_of_length_eq_zero h0]
    rw [run_convert_bytes_string w 38 9 5 _ 0 cap Tryz.underlying38 Tryz.underlying5 Tryz.underlying9]
    cases a <;> simp [Conv.bytesToString, loadCells]
    all_goals rfl
  · obtain ⟨b, off, rfl, hc⟩ := h3 h0
    have := run_convert_bytes_arg (P := Tryz.prog) w 38 5 Tryz.underlying38 Tryz.underlying5 b off bs.length cap (bs.map fun u => ((u.toNat : Nat) : Int)) (by simp) (fun i hi => by
      rw [hc i bs[i] (by simp [hi])]
      simp [List.getD, hi]) 9 Tryz.underlying9
    have e : (bs.map fun u : UInt8 => ((u.toNat : Nat) : Int)).map (fun n => UInt8.ofNat n.toNat) = bs := by
      rw [List.map_map]
      exact (List.map_congr_left (fun u _ => by simp)).trans (List.map_id bs)
    rw [this]
    unfold strOfNums
    rw [e]
theorem ownF_row {w : World} {base b m : Nat} {f : Nat → UInt8} (h : Blk w b (rowArr m f) 5) (hb : base ≤ b) (hm : m ≤ 9223372036854775807) : OwnF 5 w base (.slice (some ⟨b, 0, none⟩) m m) (rowL m f) :=
  ⟨Blk.own h hb hm, fun g hg => by simp [Value.ownBlock] at hg; subst hg; exact ⟨_, h, byt_row _ _⟩⟩
def Tab (w : World) : Prop := Lib.TabIs Tryz.prog w "internal/strconv.uint64pow10" .u64 Lib.pow10Tab
noncomputable def gT : Nat := (Tryz.prog.globalNamed "internal/strconv.uint64pow10").getD 0
theorem gT_eq : Tryz.prog.globalNamed "internal/strconv.uint64pow10" = some gT := by kernel_rfl
theorem Tab.lt {w : World} (h : Tab w) : gT < w.heap.size := by
  unfold Tab Lib.TabIs World.var? at h
  rw [gT_eq] at h
  rcases Nat.lt_or_ge gT w.heap.size with h' | h'
  · exact h'
  · simp [Array.getElem?_eq_none h'] at h
theorem Tab.kept {w w' : World} (h : Tab w) (hk : w'.heap[gT]? = w.heap[gT]?) : Tab w' := by
  unfold Tab Lib.TabIs World.var? at *
  rw [gT_eq] at *
  simp only [Option.bind_some] at *
  rw [hk]; exact h
theorem Tab.chg {S : Nat → Prop} {w w' : World} (h : Tab w) (hc : Chg S w w') (hs : ¬ S gT) : Tab w' := h.kept (hc.block _ h.lt hs)
theorem Tab.below {w w' : World} (h : Tab w) (hb : Below w.heap.size w w') : Tab w' := h.kept (hb.block _ h.lt)
theorem Tab.drewN {w : World} (h : Tab w) (n : Nat) : Tab (w.drewN n) := h
theorem rowL_be (w n : Nat) : rowL w (fun j => UInt8.ofNat (n / 256 ^ (w - 1 - j))) = Cod.be w n := by
  apply List.ext_getElem?
  intro i
  by_cases h : i < w
  · rw [rowL_get _ _ _ h, Cod.be_get _ _ _ h]
  · rw [List.getElem?_eq_none (by rw [rowL_len]; omega), List.getElem?_eq_none (by rw [Cod.be_len]; omega)]
set_option maxRecDepth 20000 in
set_option maxHeartbeats 1000000 in
theorem put_calls (n : Nat) (m : Nat) (hn : n ≤ 9223372036854775807) (h1 : 1 ≤ m) (hm : m ≤ 8) (w : World) :
    Calls Tryz.prog 172 #[.int .i64 n, .int .i64 m] w fun e w' => ∃ v, e = .returned v ∧ OwnF 5 w' w.heap.size v (Cod.be m n) ∧ Below w.heap.size w w' := by
  have hmk : ∀ w, (Instr.makeSlice 38 (.int .i64 (m : Int)) (.int .i64 (m : Int))).run Tryz.prog w = .ok (.slice (some ⟨w.heap.size, 0, none⟩) m m) (w.alloc (.cells (rowArr m fun _ => 0) 5)) := fun w => by
    have := make_bytes (P := Tryz.prog) 38 5 Tryz.underlying38 E8k m (by omega) w
    rw [rowArr_zero] at this
    exact this
  have hmx : max 0 (min (m : Int) 8) = m := by omega
  have hB0 : Blk (w.alloc (.cells (rowArr m fun _ => 0) 5)) w.heap.size (rowArr m fun _ => 0) 5 := Blk.new _ _ _
  go_enter Tryz.func172, Tryz.ntmps172
  go_wp2_with fail
  go_loopw [6, 7] (fun u v wr => ∃ (k j : Nat), k + j = m ∧ u = .int .u64 ((n / 256 ^ k : Nat) : Int) ∧ v = .int .i64 ((j : Int) - 1) ∧ Blk wr w.heap.size (rowArr m fun x => if j ≤ x then UInt8.ofNat (n / 256 ^ (m - 1 - x)) else 0) 5 ∧ Below w.heap.size w wr) (fun _ v _ => (intOf v + 1).toNat)
  case atStart => exact ⟨0, m, by omega, by simp, rfl, by rw [rowArr_congr (m := m) (f := fun x => if m ≤ x then UInt8.ofNat (n / 256 ^ (m - 1 - x)) else 0) (g := fun _ => 0) (fun x hx => if_neg (by omega))]; exact hB0, (Below.refl _ _).alloc (Nat.le_refl _) _⟩
  case round =>
    clear hB0 hmk
    obtain ⟨k, j, hkj, rfl, rfl, hB, hb⟩ := hrel
    by_cases h0 : 1 ≤ j
    · obtain ⟨i, rfl⟩ : ∃ i, j = i + 1 := ⟨j - 1, by omega⟩
      have e1 : ((i + 1 : Nat) : Int) - 1 = (i : Int) := by omega
      rw [e1]
      have c1 : wr.cell? ⟨w.heap.size, i, none⟩ = some (.int .u8 0) := by rw [hB.cell, rowArr_get _ _ _ (by omega), if_neg (by omega)]; rfl
      have f1 := hB.free i
      obtain ⟨q, hq⟩ : ∃ q, q = n / 256 ^ k := ⟨_, rfl⟩
      have hq1 : q ≤ 9223372036854775807 := by rw [hq]; exact Nat.le_trans (Nat.div_le_self _ _) hn
      rw [← hq]
      have Hq := Lib.hid hq; have HB := Lib.hid hB
      clear hq hB
      go_wp2
      refine ⟨⟨k + 1, i, by omega, ?_, rfl, ?_, hb.setCell (Nat.le_refl _) _⟩, by simp [intOf] <;> omega⟩
      · rw [Nat.pow_succ, ← Nat.div_div_eq_div_mul, ← Hq.out]; congr 1
      · have := HB.out.set i (.int .u8 (((UInt8.ofNat q).toNat : Nat) : Int))
        rw [rowArr_set] at this
        rw [show ((q : Int) % 256) = (((UInt8.ofNat q).toNat : Nat) : Int) from by rw [UInt8.toNat_ofNat']; rfl]
        rw [← rowArr_congr (m := m) (f := fun x => if x = i then UInt8.ofNat q else if i + 1 ≤ x then UInt8.ofNat (n / 256 ^ (m - 1 - x)) else 0) (fun x hx => ?_)]
        · exact this
        · by_cases e : x = i
          · subst e; rw [if_pos rfl, if_pos (Nat.le_refl _), Hq.out, show m - 1 - x = k from by omega]
          · rw [if_neg e]
            by_cases e2 : i + 1 ≤ x
            · rw [if_pos e2, if_pos (by omega)]
            · rw [if_neg e2, if_neg (by omega)]
    · obtain rfl : j = 0 := by omega
      go_wp2
      go_ret
      refine ⟨_, rfl, ?_, hb⟩
      have := ownF_row (base := w.heap.size) hB (Nat.le_refl _) (by omega)
      rw [← rowL_be, rowL_congr (g := fun x => if 0 ≤ x then UInt8.ofNat (n / 256 ^ (m - 1 - x)) else 0) (fun x hx => (if_pos (Nat.zero_le _)).symm)]
      exact this
theorem put_x (n : Nat) (m : Nat) (hn : n ≤ 9223372036854775807) (h1 : 1 ≤ m) (hm : m ≤ 8) (w : World) :
    Calls Tryz.prog 172 #[.int .i64 n, .int .i64 m] w fun e w' => ∃ v, e = .returned v ∧ OwnX 5 w' w.heap.size v (Cod.be m n) ∧ Below w.heap.size w w' :=
  (put_calls n m hn h1 hm w).mono fun _ _ ⟨v, he, h2, h3⟩ => ⟨v, he, h2.x, h3⟩
set_option maxRecDepth 100000 in
set_option maxHeartbeats 1000000 in
theorem get_bad (v : Value) (bs : List UInt8) (w : World) (h : Bys w v bs) (hl : 7 < bs.length) :
    Calls Tryz.prog 134 #[v] w fun e w' => e = .returned (.tuple #[.int .i64 0, .bool false]) ∧ w = w' := by
  have hm := h.len
  obtain ⟨a, c, rfl⟩ := h.eq_slice
  obtain ⟨l, hl'⟩ : ∃ l, l = bs.length := ⟨_, rfl⟩
  rw [← hl'] at hl hm ⊢
  clear hl' h
  go_enter Tryz.func134, Tryz.ntmps134
  go_wp2
  go_ret2
  exact ⟨rfl, rfl⟩
set_option maxRecDepth 100000 in
set_option maxHeartbeats 1000000 in
theorem get_calls (v : Value) (bs : List UInt8) (w : World) (h : Bys w v bs) (hl : bs.length ≤ 7) :
    Calls Tryz.prog 134 #[v] w fun e w' => e = .returned (.tuple #[.int .i64 (Cod.getN bs : Nat), .bool true]) ∧ w = w' := by
  obtain ⟨a, c, rfl⟩ := h.eq_slice
  obtain ⟨l, hl'⟩ : ∃ l, l = bs.length := ⟨_, rfl⟩
  rw [← hl'] at hl h ⊢
  have Hl := Lib.hid hl'
  clear hl'
  go_enter Tryz.func134, Tryz.ntmps134
  have t7 : decide ((7 : Int) < (l : Int)) = false := by simp; omega
  go_wp2
  go_loop [4, 12] (fun u v => ∃ i : Nat, i ≤ l ∧ u = .int .i64 (Cod.getN (bs.take i) : Nat) ∧ v = .int .i64 i) (fun _ v => l - (intOf v).toNat)
  case atStart => exact ⟨0, by omega, rfl, rfl⟩
  case round =>
    obtain ⟨i, hi, rfl, rfl⟩ := hrel
    by_cases h0 : i < l
    · obtain ⟨b, o, u, rfl, Hu, c1, hu⟩ := h.at i (by have := Hl.out; omega)
      have i0 : (0 : Int) ≤ (i : Int) := by omega
      have i1 : (i : Int) < (l : Int) := by omega
      have Hs := Lib.hid (show Cod.getN (bs.take (i + 1)) = Cod.getN (bs.take i) * 256 + u.toNat from by
        rw [List.take_add_one, Hu.out]; exact Cod.getGo_snoc _ _ _)
      have hg := Cod.getN_lt (bs.take i) (by rw [List.length_take]; omega)
      have hg2 := Cod.getN_lt (bs.take (i + 1)) (by rw [List.length_take]; omega)
      rw [Hs.out] at hg2
      obtain ⟨g, hgg⟩ : ∃ g, g = Cod.getN (bs.take i) := ⟨_, rfl⟩
      rw [← hgg] at hg hg2 ⊢
      have Hg := Lib.hid hgg
      clear hgg
      have ho := or_byte g u.toNat hg2 hu
      go_wp2
      exact ⟨⟨i + 1, by omega, by rw [Hs.out, ← Hg.out]; exact congrArg (Value.int .i64) (by push_cast; rfl), by go_num⟩, by simp [intOf]; omega⟩
    · obtain rfl : i = l := by omega
      have e : bs.take i = bs := List.take_of_length_le (by have := Hl.out; omega)
      rw [e]
      clear e
      go_wp2
      go_ret2
      exact ⟨rfl, rfl⟩
theorem grow_below (w : World) (k : Nat) (os : Array Obj) : Below w.heap.size w (Sort.grow (w.drewN k) os) :=
  ⟨rfl, rfl, rfl, by show w.heap.size ≤ (w.heap ++ os).size; simp, fun j hj => by show (w.heap ++ os)[j]? = _; rw [Array.getElem?_append_left hj]⟩
theorem bys_one (w : World) (u : UInt8) (x : Value) (hx : x = .int .u8 ((u.toNat : Nat) : Int)) (t : TypeId) : Bys (w.alloc (.cells #[x] t)) (.slice (some ⟨w.heap.size, 0, none⟩) 1 1) [u] :=
  (Blk.new w #[x] t).bys (bs := [u]) (Nat.le_refl _) (maxLen_ge (by decide)) fun i v hi => by
    cases i with
    | zero => simp at hi; subst hi; rw [hx]; rfl
    | succ i => simp at hi
theorem dec_len (l : Nat) (h : l ≤ 100000000) : (Lib.itoa (l : Int)).length ≤ 9 := by
  rw [Lib.itoa_nonneg, Lib.decDigits_length]
  have : ∀ k u, u < 10 ^ (k + 1) → Lib.nDigits u ≤ k + 1 := by
    intro k
    induction k with
    | zero => intro u hu; rw [Lib.nDigits_small (by simpa using hu)]; exact Nat.le_refl _
    | succ k ih =>
      intro u hu
      by_cases h : u < 10
      · rw [Lib.nDigits_small h]; omega
      · rw [Lib.nDigits_big h]
        have := ih (u / 10) (by rw [Nat.pow_succ] at hu; omega)
        omega
  exact this 8 l (by omega)
set_option maxRecDepth 100000 in
set_option maxHeartbeats 1000000 in
theorem net_calls (v : Value) (bs : List UInt8) (w : World) (hT : Tab w) (h : Bys w v bs) (hl : bs.length ≤ 100000000) :
    Calls Tryz.prog 190 #[v] w fun e w' => ∃ v', e = .returned v' ∧ OwnX 5 w' w.heap.size v' (Cod.net bs) ∧ Below w.heap.size w w' := by
  obtain ⟨a, c, rfl⟩ := h.eq_slice
  obtain ⟨l, hl'⟩ : ∃ l, l = bs.length := ⟨_, rfl⟩
  have hd := dec_len bs.length hl
  have Hn := Lib.hid (show Cod.net bs = Lib.itoa (bs.length : Nat) ++ [58] ++ bs ++ [44] from rfl)
  rw [← hl'] at hl h hd Hn ⊢
  have Hl := Lib.hid hl'
  clear hl'
  go_enter Tryz.func190, Tryz.ntmps190
  go_wp2_with fail
  refine (Tryz.strconv_Itoa l (by omega) (by omega) w hT).mono ?_
  rintro e w1 ⟨rfl, k, os, hw1⟩
  have hb1 : Below w.heap.size w w1 := by rw [hw1]; exact grow_below _ _ _
  clear hw1 hT
  obtain ⟨s, hs⟩ : ∃ s : ByteArray, s = ⟨(Lib.itoa (l : Int)).toArray⟩ := ⟨_, rfl⟩
  have hsl : s.data.toList = Lib.itoa (l : Int) := by rw [hs]
  have hss : s.size ≤ 9 := by rw [hs]; simpa [ByteArray.size] using hd
  rw [← hs]
  have hconv := Lib.run_convert_string_bytes (P := Tryz.prog) w1 9 38 5 s Tryz.underlying9 Tryz.underlying38 Tryz.underlying5
  obtain ⟨ho, hb2⟩ := conv_ownX w1 5 s (maxLen_ge (by omega))
  obtain ⟨w2, hw2⟩ : ∃ w2, w2 = Lib.bytesWorld w1 5 s := ⟨_, rfl⟩
  rw [← hw2] at ho hb2 hconv
  rw [hsl] at ho
  have hbw2 : Below w.heap.size w w2 := hb1.trans (hb2.mono hb1.size)
  have Hs := Lib.hid hs; have Hsl := Lib.hid hsl
  have hs1 := hb1.size
  have hs2 := hb2.size
  clear hs hsl hw2
  have hlen : (Lib.itoa (l : Int)).length ≤ 9 := hd
  go_wp2_with (at_builtin; refine appX E8c rfl _ _ rfl (base := w.heap.size) (bs := Lib.itoa (l : Int)) (news := [58]) rfl rfl ((ho.mono hs1).alloc _) (bys_one _ 58 _ rfl _) ?q1 ?q2 ?_)
  case q1 => simp; omega
  case q2 => simp; omega
  intro v3 w3 ho3 hg3
  have hb3 := grown_below (hbw2.alloc hbw2.size _) hg3 (fun k hk => by simp [Value.ownBlock] at hk; omega)
  have hs3 := hb3.size
  have hlt3 := ho3.lt
  clear hconv ho hb2 hg3 hbw2
  go_wp2_with (at_builtin; refine appX E8c rfl _ _ rfl (base := w.heap.size) (news := bs) rfl rfl ho3 (h.below hb3) ?q3 ?q4 ?_)
  case q3 => have := Hl.out; simp; omega
  case q4 => exact hs3
  intro v4 w4 ho4 hg4
  have hb4 := grown_below hb3 hg4 (fun k hk => (hlt3 k hk).1)
  have hs4 := hb4.size
  have hlt4 := ho4.lt
  clear hg4 ho3 hb3
  go_wp2_with (at_builtin; refine appX E8c rfl _ _ rfl (base := w.heap.size) (news := [44]) rfl rfl (ho4.alloc _) (bys_one _ 44 _ rfl _) ?q5 ?q6 ?_)
  case q5 => have := Hl.out; simp; omega
  case q6 => simp; omega
  intro v5 w5 ho5 hg5
  have hb5 := grown_below (hb4.alloc hs4 _) hg5 (fun k hk => (hlt4 k hk).1)
  clear hg5 ho4 hb4
  go_wp2
  go_ret
  exact ⟨v5, rfl, by rw [Hn.out]; simpa using ho5, hb5⟩
theorem nets_take_le (rows : List (List UInt8)) : ∀ i, (Cod.nets (rows.take i)).length ≤ (Cod.nets rows).length := by
  induction rows with
  | nil => intro i; simp
  | cons a l ih =>
    intro i
    cases i with
    | zero => simp [Cod.nets]
    | succ i => simp only [List.take_succ_cons, Cod.nets, List.length_append]; have := ih i; omega
theorem nets_row_le {rows : List (List UInt8)} {i : Nat} {b : List UInt8} (h : rows[i]? = some b) : (Cod.nets (rows.take i)).length + (Cod.net b).length ≤ (Cod.nets rows).length := by
  have := nets_take_le rows (i + 1)
  rw [List.take_add_one, h] at this
  simp only [Option.toList_some] at this
  rw [Cod.nets_snoc, List.length_append] at this
  exact this
set_option maxRecDepth 100000 in
set_option maxHeartbeats 1000000 in
theorem nets_calls (v : Value) (rows : List (List UInt8)) (w : World) (hT : Tab w) (h : Rws w v rows) (hl : (Cod.nets rows).length ≤ 100000000) :
    Calls Tryz.prog 171 #[v] w fun e w' => ∃ v', e = .returned v' ∧ OwnX 5 w' w.heap.size v' (Cod.nets rows) ∧ Below w.heap.size w w' := by
  have hrl := h.len
  obtain ⟨a, c, rfl⟩ := h.eq_slice
  obtain ⟨n, hn⟩ : ∃ n, n = rows.length := ⟨_, rfl⟩
  rw [← hn] at h hrl ⊢
  have Hn := Lib.hid hn
  clear hn
  go_enter Tryz.func171, Tryz.ntmps171
  go_wp2_with fail
  go_loopw [3, 8] (fun u v wr => ∃ i : Nat, i ≤ n ∧ v = .int .i64 i ∧ OwnX 5 wr w.heap.size u (Cod.nets (rows.take i)) ∧ Below w.heap.size w wr) (fun _ v _ => n - (intOf v).toNat)
  case atStart => exact ⟨0, by omega, rfl, OwnX.nil _ _ _, Below.refl _ _⟩
  case round =>
    obtain ⟨i, hi, rfl, ho, hb⟩ := hrel
    by_cases h0 : i < n
    · obtain ⟨b, o, bs, va, rfl, hr, c1, hrow⟩ := (h.below hb).at i (by have := Hn.out; omega)
      have i0 : (0 : Int) ≤ (i : Int) := by omega
      have i1 : (i : Int) < (n : Int) := by omega
      have hle := nets_row_le hr.out
      have hnl := Cod.net_len bs
      have hs := hb.size
      have hlt := ho.lt
      have Hfin := Lib.hid (show Cod.nets (rows.take (i + 1)) = Cod.nets (rows.take i) ++ Cod.net bs from by rw [List.take_add_one, hr.out]; exact Cod.nets_snoc _ _)
      go_wp2_with fail
      refine (net_calls va bs wr (hT.below hb) hrow (by omega)).mono ?_
      rintro e w2 ⟨v2, rfl, ho2, hb2⟩
      go_wp2_with (at_builtin; refine appX E8c rfl _ _ rfl (base := w.heap.size) (news := Cod.net bs) rfl rfl (ho.below hb2) ho2.bys ?q1 ?q2 ?_)
      case q1 => omega
      case q2 => have := hb2.size; omega
      intro v3 w3 ho3 hg3
      have hb3 := grown_below (hb.trans (hb2.mono hs)) hg3 (fun k hk => (hlt k hk).1)
      rw [← Hfin.out] at ho3
      clear hg3 ho2 hb2 hle hnl
      go_wp2
      exact ⟨⟨i + 1, by omega, by go_num, ho3, hb3⟩, by simp [intOf] <;> omega⟩
    · obtain rfl : i = n := by omega
      have e : rows.take i = rows := List.take_of_length_le (by have := Hn.out; omega)
      rw [e] at ho
      go_wp2
      go_ret
      exact ⟨_, rfl, ho, hb⟩
theorem drop_cons {bs : List UInt8} {d : Nat} {u : UInt8} (h : bs[d]? = some u) : bs.drop d = u :: bs.drop (d + 1) := by
  have hd : d < bs.length := by
    rcases Nat.lt_or_ge d bs.length with h' | h'
    · exact h'
    · rw [List.getElem?_eq_none h'] at h; cases h
  rw [List.drop_eq_getElem_cons hd]
  rw [List.getElem?_eq_getElem hd] at h
  cases h; rfl
set_option maxRecDepth 20000 in
set_option maxHeartbeats 1000000 in
theorem size_calls (v : Value) (bs : List UInt8) (w : World) (h : Bys w v bs) :
    Calls Tryz.prog 175 #[v] w fun e w' => e = .returned (.tuple #[.int .i64 ((Cod.size bs).1 : Nat), .int .i64 ((Cod.size bs).2 : Nat)]) ∧ w = w' := by
  have hrl := h.len
  obtain ⟨a, c, rfl⟩ := h.eq_slice
  obtain ⟨l, hl'⟩ : ∃ l, l = bs.length := ⟨_, rfl⟩
  rw [← hl'] at h hrl ⊢
  have Hl := Lib.hid hl'
  clear hl'
  go_enter Tryz.func175, Tryz.ntmps175
  go_wp2
  go_loop [2, 3] (fun u v => ∃ n d : Nat, d ≤ l ∧ n ≤ 163849 ∧ u = .int .i64 n ∧ v = .int .i64 d ∧ Hid (Cod.size bs = Cod.sizeGo (bs.drop d) n d)) (fun _ v => l - (intOf v).toNat)
  case atStart => exact ⟨0, 0, by omega, by omega, rfl, rfl, rfl⟩
  case round =>
    obtain ⟨n, d, hd, hn, rfl, rfl, Hz⟩ := hrel
    by_cases h0 : d < l
    · obtain ⟨b, o, u, rfl, Hu, c1, hu⟩ := h.at d (by have := Hl.out; omega)
      have i0 : (0 : Int) ≤ (d : Int) := by omega
      have i1 : (d : Int) < (l : Int) := by omega
      by_cases hc : 48 ≤ u.toNat ∧ u.toNat ≤ 57 ∧ n ≤ 16384
      · obtain ⟨h1, h2, h3⟩ := hc
        have Hfin := Lib.hid (show Cod.size bs = Cod.sizeGo (bs.drop (d + 1)) (10 * n + (u.toNat - 48)) (d + 1) from by rw [Hz.out]; exact Cod.sizeGo_step (drop_cons Hu.out) ⟨h1, h2, h3⟩)
        go_wp2
        exact ⟨⟨10 * n + (u.toNat - 48), d + 1, by omega, by omega, congrArg (Value.int .i64) (by omega), by go_num, Hfin.out⟩, by simp [intOf] <;> omega⟩
      · have Hfin := Lib.hid (show Cod.size bs = (n, d) from by rw [Hz.out]; exact Cod.sizeGo_stop fun c r e => by rw [drop_cons Hu.out] at e; injection e with e _; subst e; exact hc)
        have h1 : (u.toNat < 48) ∨ (48 ≤ u.toNat ∧ 57 < u.toNat) ∨ (48 ≤ u.toNat ∧ u.toNat ≤ 57 ∧ 16384 < n) := by omega
        clear hc
        rcases h1 with h1 | ⟨h1, h2⟩ | ⟨h1, h2, h3⟩
        all_goals
          go_wp2
          go_ret2
          exact ⟨by rw [Hfin.out]; rfl, rfl⟩
    · obtain rfl : d = l := by omega
      go_wp2
      go_ret2
      have e := Hz.out
      rw [List.drop_eq_nil_of_le (by have := Hl.out; omega)] at e
      exact ⟨by rw [e]; rfl, rfl⟩
theorem bys_drop {w : World} {b o n c : Nat} {bs : List UInt8} (h : Bys w (.slice (some ⟨b, o, none⟩) n c) bs) (k m c' : Nat) (hk : k + m ≤ bs.length) (hc : m ≤ c') (hm : c' ≤ maxLen) : Bys w (.slice (some ⟨b, o + k, none⟩) m c') ((bs.drop k).take m) := by
  obtain ⟨a, cap, e, h1, h2, h3⟩ := h
  injection e with e1 e2 e3
  have hl : ((bs.drop k).take m).length = m := by simp; omega
  refine ⟨_, c', by rw [hl], by rw [hl]; exact hc, hm, fun hp => ?_⟩
  rw [hl] at hp
  obtain ⟨b', o', e', hc'⟩ := h3 (by omega)
  rw [← e1] at e'
  cases e'
  refine ⟨b, o + k, rfl, fun i u hi => ?_⟩
  have him : i < m := by
    rcases Nat.lt_or_ge i m with h' | h'
    · exact h'
    · rw [List.getElem?_eq_none (by rw [hl]; exact h')] at hi; cases hi
  rw [List.getElem?_take, if_pos him, List.getElem?_drop] at hi
  rw [Nat.add_assoc]
  exact hc' _ u hi
end Go.Proofs.YtclhgokchcklbaaGreatDoor
end
