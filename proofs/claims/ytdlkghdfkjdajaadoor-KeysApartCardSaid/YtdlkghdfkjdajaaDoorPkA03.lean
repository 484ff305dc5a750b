/- Texts of this proof, packed: Disk2, DiskLaw, DiskRef, DiskClone, DiskAny, StoreMath, StoreRead, StoreFree. -/
import Derived.Test.YtdlkghdfkjdajaaDoorPkA02
import Derived.Test.YtdlkghdfkjdajaaDoorPkA00
import Derived.Test.YtdlkghdfkjdajaaDoorPkA01
import Derived.Laws.BytesArg
section
namespace Go.Proofs.YtdlkghdfkjdajaaDoor
open Go Go.RowKit Go.Mem Gf
attribute [local go_sem ↓] Go.wp_at_zero Go.wp_at_succ
theorem E8 : Elem Tryd.prog 35 5 (.int .u8 0) 1 := ⟨Tryd.underlying35, by kernel_rfl, rfl⟩
theorem DiskS.may_yes {s : DiskS} {i : Nat} (h : i < s.n) : s.may (i : Int) = true := by simp [DiskS.may, h]
theorem DiskS.may_no {s : DiskS} {i : Int} (h : i < 0 ∨ (s.n : Int) ≤ i) : s.may i = false := by simp [DiskS.may]; omega
set_option maxRecDepth 100000 in
set_option maxHeartbeats 1000000 in
theorem dread_bad (d L : Nat) (s : DiskS) (i : Int) (w : World) (h : IsDisk w d L s) (hi : i < 0 ∨ (s.n : Int) ≤ i) :
    Calls Tryd.prog 34 #[.pointer (some ⟨d, 0, none⟩), .int .i64 i] w fun e w' => e = .returned (.tuple #[.slice none 0 0, .int .i64 1]) ∧ w = w' := by
  go_enter Tryd.func34, Tryd.ntmps34
  go_wp2_with fail
  refine (may_calls d L s i w h false (DiskS.may_no hi)).mono ?_
  rintro e w1 ⟨rfl, rfl⟩
  go_wp2
  go_ret2
  exact ⟨rfl, rfl⟩
set_option maxRecDepth 100000 in
set_option maxHeartbeats 1000000 in
theorem dread_dead (d L : Nat) (s : DiskS) (i : Nat) (w : World) (h : IsDisk w d L s) (hi : i < s.n) (hdead : s.dead = true) :
    Calls Tryd.prog 34 #[.pointer (some ⟨d, 0, none⟩), .int .i64 i] w fun e w' => e = .returned (.tuple #[.slice none 0 0, .int .i64 8]) ∧ w = w' := by
  obtain ⟨cap, arr, hd, _⟩ := id h
  have c1 : w.cell? ⟨d, 1, none⟩ = some (.bool true) := by rw [hd.cell, hdead]; rfl
  clear hdead
  go_enter Tryd.func34, Tryd.ntmps34
  go_wp2_with fail
  refine (may_calls d L s i w h true (DiskS.may_yes hi)).mono ?_
  rintro e w1 ⟨rfl, rfl⟩
  go_wp2
  go_ret2
  exact ⟨rfl, rfl⟩
theorem IsDisk.sector {w : World} {d L : Nat} {s : DiskS} (h : IsDisk w d L s) (i : Nat) (hi : i < s.n) : Bys w (.slice (some ⟨L, i * 32, none⟩) 32 32) (s.sector i) := by
  obtain ⟨cap, arr, hd, a, b, hL, r1, r2, r3, r4, r5, hne, r6, r7⟩ := h
  exact hL.mid_bys (Nat.le_refl _) (maxLen_ge (by decide)) fun k hk => r2 _ (by omega)
set_option maxRecDepth 100000 in
set_option maxHeartbeats 1000000 in
theorem dread_calls (d L : Nat) (s : DiskS) (i : Nat) (w : World) (h : IsDisk w d L s) (hi : i < s.n) (hdead : s.dead = false) :
    Calls Tryd.prog 34 #[.pointer (some ⟨d, 0, none⟩), .int .i64 i] w fun e w' => ∃ v, e = .returned (.tuple #[v, .int .i64 0]) ∧ OwnF 5 w' w.heap.size v (s.sector i) ∧ Below w.heap.size w w' := by
  obtain ⟨cap, arr, hd, _, hcap, _⟩ := id h
  have c0 : w.cell? ⟨d, 0, none⟩ = some (.slice (some ⟨L, 0, none⟩) s.n cap) := by rw [hd.cell]; rfl
  have c1 : w.cell? ⟨d, 1, none⟩ = some (.bool false) := by rw [hd.cell, hdead]; rfl
  have hsec := h.sector i hi
  have i1 : (0 : Int) ≤ (i : Int) := by omega
  have i2 : (i : Int) < (s.n : Int) := by omega
  clear hdead
  go_enter Tryd.func34, Tryd.ntmps34
  go_wp2_with fail
  refine (may_calls d L s i w h true (DiskS.may_yes hi)).mono ?_
  rintro e w1 ⟨rfl, rfl⟩
  go_wp2_with (at_builtin; refine appF E8 rfl _ _ rfl (base := w.heap.size) (bs := []) (news := s.sector i) rfl rfl (OwnF.nil _ _ _) hsec ?q1 ?q2 ?_)
  case q1 => simp [DiskS.sector, rowL_len]
  case q2 => exact Nat.le_refl _
  intro v' w' hown hg
  go_wp2
  go_ret2
  exact ⟨_, rfl, hown, grown_none hg rfl⟩
set_option maxRecDepth 100000 in
set_option maxHeartbeats 1000000 in
theorem dwrite_bad (d L : Nat) (s : DiskS) (i : Int) (v : Value) (bs : List UInt8) (w : World) (h : IsDisk w d L s) (hb : Bys w v bs) (hi : (i < 0 ∨ (s.n : Int) ≤ i) ∨ 32 < bs.length) :
    Calls Tryd.prog 36 #[.pointer (some ⟨d, 0, none⟩), .int .i64 i, v] w fun e w' => e = .returned (.int .i64 1) ∧ w = w' := by
  obtain ⟨a, c, rfl⟩ := hb.eq_slice
  obtain ⟨l, hl⟩ : ∃ l, l = bs.length := ⟨_, rfl⟩
  rw [← hl] at hi ⊢
  clear hl
  by_cases hm : i < 0 ∨ (s.n : Int) ≤ i
  · clear hi
    go_enter Tryd.func36, Tryd.ntmps36
    go_wp2_with fail
    refine (may_calls d L s i w h false (DiskS.may_no hm)).mono ?_
    rintro e w1 ⟨rfl, rfl⟩
    go_wp2
    go_ret
    exact ⟨rfl, rfl⟩
  · have hl : 32 < l := by omega
    obtain ⟨i, rfl⟩ : ∃ j : Nat, i = j := ⟨i.toNat, by omega⟩
    clear hi
    go_enter Tryd.func36, Tryd.ntmps36
    go_wp2_with fail
    refine (may_calls d L s i w h true (DiskS.may_yes (by omega))).mono ?_
    rintro e w1 ⟨rfl, rfl⟩
    go_wp2
    go_ret
    exact ⟨rfl, rfl⟩
set_option maxRecDepth 100000 in
set_option maxHeartbeats 1000000 in
theorem dwrite_dead (d L : Nat) (s : DiskS) (i : Nat) (v : Value) (bs : List UInt8) (w : World) (h : IsDisk w d L s) (hb : Bys w v bs) (hi : i < s.n) (hl : bs.length ≤ 32) (hdead : s.dead = true) :
    Calls Tryd.prog 36 #[.pointer (some ⟨d, 0, none⟩), .int .i64 i, v] w fun e w' => e = .returned (.int .i64 8) ∧ w = w' := by
  obtain ⟨a, c, rfl⟩ := hb.eq_slice
  obtain ⟨l, hl'⟩ : ∃ l, l = bs.length := ⟨_, rfl⟩
  rw [← hl'] at hl ⊢
  clear hl'
  obtain ⟨cap, arr, hd, _⟩ := id h
  have c1 : w.cell? ⟨d, 1, none⟩ = some (.bool true) := by rw [hd.cell, hdead]; rfl
  clear hdead
  go_enter Tryd.func36, Tryd.ntmps36
  go_wp2_with fail
  refine (may_calls d L s i w h true (DiskS.may_yes hi)).mono ?_
  rintro e w1 ⟨rfl, rfl⟩
  go_wp2
  go_ret
  exact ⟨rfl, rfl⟩
def padF (bs : List UInt8) : Nat → UInt8 := fun k => if k < bs.length then bs.getD k 0 else 0
theorem padF_eq (bs : List UInt8) (k : Nat) : padF bs k = bs.getD k 0 := by
  unfold padF
  split
  · rfl
  · rw [List.getD_eq_getElem?_getD, List.getElem?_eq_none (by omega)]; rfl
theorem to_new (w : World) : Blk (w.alloc (.cells #[.int .u8 0, .int .u8 0, .int .u8 0, .int .u8 0, .int .u8 0, .int .u8 0, .int .u8 0, .int .u8 0, .int .u8 0, .int .u8 0, .int .u8 0, .int .u8 0, .int .u8 0, .int .u8 0, .int .u8 0, .int .u8 0, .int .u8 0, .int .u8 0, .int .u8 0, .int .u8 0, .int .u8 0, .int .u8 0, .int .u8 0, .int .u8 0, .int .u8 0, .int .u8 0, .int .u8 0, .int .u8 0, .int .u8 0, .int .u8 0, .int .u8 0, .int .u8 0] 43)) w.heap.size (rowArr 32 fun _ => 0) 43 := by
  rw [show rowArr 32 (fun _ => 0) = #[.int .u8 0, .int .u8 0, .int .u8 0, .int .u8 0, .int .u8 0, .int .u8 0, .int .u8 0, .int .u8 0, .int .u8 0, .int .u8 0, .int .u8 0, .int .u8 0, .int .u8 0, .int .u8 0, .int .u8 0, .int .u8 0, .int .u8 0, .int .u8 0, .int .u8 0, .int .u8 0, .int .u8 0, .int .u8 0, .int .u8 0, .int .u8 0, .int .u8 0, .int .u8 0, .int .u8 0, .int .u8 0, .int .u8 0, .int .u8 0, .int .u8 0, .int .u8 0] from by rw [← rowArr_zero]; rfl]
  exact Blk.new _ _ _
theorem i32 : (Tryd.prog.info? 43).map (·.size) = some 32 := by kernel_rfl
theorem IsDisk.laid {d L : Nat} {s : DiskS} {w : World} (h : IsDisk w d L s) {i : Nat} (_hi : i < s.n) (bs : List UInt8) {m : Nat} (_hm : m ≤ 32) {cs : List Value} (hcs : cs = (rowArr m (padF bs)).toList) (dr : Nat) :
    IsDisk ((w.drewN dr).setCells L (i * 32) cs) d L { s with f := s.lay i bs m } := by
  obtain ⟨cap, arr, hd, a, b, hL, r1, r2, r3, r4, r5, hne, r6, r7⟩ := h
  obtain ⟨arr', h1, h2, h3⟩ := Blk.setCells cs (i * 32) (w.drewN dr) arr hL
  refine ⟨cap, arr', Blk.setCells_other hne _ _ _ hd, a, b, h1, by rw [h2]; exact r1, fun j hj => ?_, r3, r4, r5, hne, r6, r7⟩
  have hj : j < s.n * 32 := hj
  have hl : cs.length = m := by rw [hcs]; simp [rowArr_size]
  rw [h3 j (by omega), hl]
  show _ = some (Value.int .u8 ((s.lay i bs m j).toNat : Int))
  unfold DiskS.lay
  by_cases e : i * 32 ≤ j ∧ j < i * 32 + m
  · rw [if_pos e, if_pos e, hcs, ← padF_eq]
    have := rowArr_get m (padF bs) (j - i * 32) (by omega)
    simpa using this
  · rw [if_neg e, if_neg e]; exact r2 j hj
theorem IsDisk.count {d L : Nat} {s : DiskS} {w : World} (h : IsDisk w d L s) (hw : s.writes < 4611686018427387904) : IsDisk (w.setCell ⟨d, 5, none⟩ (.int .i64 ((s.writes : Int) + 1))) d L { s with writes := s.writes + 1 } := by
  obtain ⟨cap, arr, hd, a, b, hL, r1, r2, r3, r4, r5, hne, r6, r7⟩ := h
  have := hd.set 5 (.int .i64 ((s.writes : Int) + 1))
  exact ⟨cap, arr, by simpa using this, a, b, hL.set_other hne _, r1, r2, r3, r4, r5, hne, r6, by show s.writes + 1 ≤ _; omega⟩
theorem IsDisk.tick {d L : Nat} {s : DiskS} {w : World} (h : IsDisk w d L s) (hc : 0 < s.cnt) : IsDisk (w.setCell ⟨d, 3, none⟩ (.int .i64 ((s.cnt : Int) - 1))) d L { s with cnt := s.cnt - 1 } := by
  obtain ⟨cap, arr, hd, a, b, hL, r1, r2, r3, r4, r5, hne, r6, r7⟩ := h
  have := hd.set 3 (.int .i64 ((s.cnt : Int) - 1))
  rw [show ((s.cnt : Int) - 1) = ((s.cnt - 1 : Nat) : Int) from by omega] at this ⊢
  exact ⟨cap, arr, this, a, b, hL.set_other hne _, r1, r2, r3, r4, r5, hne, by show s.cnt - 1 ≤ _; omega, r7⟩
theorem IsDisk.die {d L : Nat} {s : DiskS} {w : World} (h : IsDisk w d L s) : IsDisk (w.setCell ⟨d, 1, none⟩ (.bool true)) d L { s with dead := true } := by
  obtain ⟨cap, arr, hd, a, b, hL, r1, r2, r3, r4, r5, hne, r6, r7⟩ := h
  exact ⟨cap, arr, hd.set 1 (.bool true), a, b, hL.set_other hne _, r1, r2, r3, r4, r5, hne, r6, r7⟩
theorem rowArr_one (m : Nat) (f : Nat → UInt8) : ∀ v ∈ (rowArr m f).toList, v.oneCell' = true := by
  intro v hv
  simp [rowArr] at hv
  obtain ⟨k, _, rfl⟩ := hv
  rfl
theorem write_facts {d L : Nat} {s : DiskS} {w w1 : World} {i : Nat} {bs : List UInt8} (h : IsDisk w1 d L s) (hi : i < s.n) (ht : Blk w1 w.heap.size (rowArr 32 fun k => if k < bs.length then bs.getD k 0 else 0) 43) (m : Nat) (hm : m ≤ 32) :
    ∃ cs, Hid (cs = (rowArr m (padF bs)).toList) ∧ cs.length = m ∧ (∀ v ∈ cs, v.oneCell' = true) ∧ w1.rangeAt w.heap.size 0 cs ∧ w1.there L (i * 32) 32 ∧ (∀ j v, cs[j]? = some v → w1.cell? ((⟨w.heap.size, 0, none⟩ : Addr).add j) = some v) := by
  obtain ⟨cap, arr, hd, a, b, hL, r1, r2, r3, r4, r5, hne, r6, r7⟩ := h
  have hr : w1.rangeAt w.heap.size 0 (rowArr m (padF bs)).toList := fun j v hj => by
    rw [Nat.zero_add, ht.cell]
    have hj : (rowArr m (padF bs))[j]? = some v := by simpa using hj
    have hjm : j < m := by
      rcases Nat.lt_or_ge j m with h' | h'
      · exact h'
      · rw [Array.getElem?_eq_none (by rw [rowArr_size]; exact h')] at hj; cases hj
    rw [rowArr_get _ _ _ hjm] at hj
    rw [rowArr_get _ _ _ (by omega)]
    exact hj
  refine ⟨_, rfl, by simp [rowArr_size], rowArr_one _ _, hr, fun j hj => ⟨by rw [hL.cell]; simp; omega, hL.free _⟩, fun j v hj => ?_⟩
  have := hr j v hj
  rw [Nat.zero_add] at this
  rw [show (⟨w.heap.size, 0, none⟩ : Addr).add j = ⟨w.heap.size, j, none⟩ from by
    unfold Addr.add
    split
    · subst_vars; rfl
    · simp]
  exact this
set_option maxRecDepth 100000 in
set_option maxHeartbeats 2000000 in
theorem dwrite_plain (d L : Nat) (s : DiskS) (i : Nat) (v : Value) (bs : List UInt8) (w : World) (h : IsDisk w d L s) (hb : Bys w v bs) (hi : i < s.n) (hl : bs.length ≤ 32) (hdead : s.dead = false) (hst : s.stops = false) (hw : s.writes < 4611686018427387904) :
    Calls Tryd.prog 36 #[.pointer (some ⟨d, 0, none⟩), .int .i64 i, v] w fun e w' => e = .returned (.int .i64 0) ∧ IsDisk w' d L (s.write i bs) ∧ Chg (fun b => b = d ∨ b = L) w w' := by
  obtain ⟨cap, arr, hd, hc1, hcap, hL, r1, r2, r3, r4, r5, hne, r6, r7⟩ := id h
  have c1 : w.cell? ⟨d, 1, none⟩ = some (.bool false) := by rw [hd.cell, hdead]; rfl
  obtain ⟨a, c, rfl⟩ := hb.eq_slice
  have HW := Lib.hid (show s.write i bs = { s with f := s.lay i bs 32, writes := s.writes + 1 } from by simp [DiskS.write, hst])
  obtain ⟨l, hl'⟩ : ∃ l, l = bs.length := ⟨_, rfl⟩
  rw [← hl'] at hl hb ⊢
  have Hl := Lib.hid hl'; have Hst := Lib.hid hst
  have i1 : (0 : Int) ≤ (i : Int) := by omega
  have i2 : (i : Int) < (s.n : Int) := by omega
  clear hdead hst hl'
  go_enter Tryd.func36, Tryd.ntmps36
  go_wp2_with fail
  refine (may_calls d L s i w h true (DiskS.may_yes hi)).mono ?_
  rintro e w1 ⟨rfl, rfl⟩
  go_wp2_with (refine copy_row (o := ⟨some 25, _, _, _, _, _⟩) rfl (.tmp 23) (.tmp 24) 35 35 rfl 5 Tryd.underlying35 E8s rfl rfl (to_new _) (hb.below ((Below.refl _ _).alloc (Nat.le_refl _) _)) ?c1 ?c2 ?_)
  case c1 => have := Hl.out; omega
  case c2 => omega
  intro w1 hB1 hb1
  have hb1 : Below w.heap.size w w1 := ((Below.refl _ _).alloc (Nat.le_refl _) _).trans hb1
  have h1 := h.below hb1
  have hd1 := hd.kept hb1
  have c0 : w1.cell? ⟨d, 0, none⟩ = some (.slice (some ⟨L, 0, none⟩) s.n cap) := by rw [hd1.cell]; rfl
  have c2 : w1.cell? ⟨d, 2, none⟩ = some (.bool false) := by rw [hd1.cell, Hst.out]; rfl
  obtain ⟨cs, Hcs, hcl, hone, hr1, ht1, _⟩ := write_facts (i := i) h1 hi hB1 32 (Nat.le_refl _)
  have hu := Tryd.underlying43
  have hi32 : (Tryd.prog.info? 43).map (·.size) = some cs.length := by rw [hcl]; exact i32
  have hD := h1.laid hi bs (Nat.le_refl 32) Hcs.out 1
  have hC := Chg.setCells (S := fun b => b = d ∨ b = L) (L := L) (.inr rfl) cs (i * 32) _ (Chg.drew (Chg.of_below (S := fun b => b = d ∨ b = L) hb1))
  have hD : IsDisk (w1.drew.setCells L (i * 32) cs) d L { s with f := s.lay i bs 32 } := hD
  obtain ⟨cap', arr', hd2, _⟩ := id hD
  have c5 : (w1.drew.setCells L (i * 32) cs).cell? ⟨d, 5, none⟩ = some (.int .i64 (s.writes : Int)) := by rw [hd2.cell]; rfl
  have f5 := hd2.free 5
  have HD := Lib.hid hD; have HC := Lib.hid hC; have HB1 := Lib.hid hB1; have Hb1 := Lib.hid hb1; have Hd1 := Lib.hid hd1; have H1 := Lib.hid h1; have Hd2 := Lib.hid hd2
  clear hD hC hB1 hb1 hd1 h1 hd2 c1
  go_wp2_with fail
  go_region_held3 (fun w' => w'.cell? ⟨d, 0, none⟩ = some (.slice (some ⟨L, 0, none⟩) s.n cap) ∧ w'.rangeAt w.heap.size 0 cs ∧ w'.there L (i * 32) 32) (first | exact ⟨c0, hr1, ht1⟩ | exact keep_mid hne (Nat.ne_of_gt hL.lt) c0 hr1 ht1) (fail)
  go_wp2
  go_ret
  exact ⟨rfl, by rw [HW.out]; exact HD.out.count hw, HC.out.set (.inl rfl) _⟩
set_option maxRecDepth 100000 in
set_option maxHeartbeats 2000000 in
theorem dwrite_tick (d L : Nat) (s : DiskS) (i : Nat) (v : Value) (bs : List UInt8) (w : World) (h : IsDisk w d L s) (hb : Bys w v bs) (hi : i < s.n) (hl : bs.length ≤ 32) (hdead : s.dead = false) (hst : s.stops = true) (hcnt : 0 < s.cnt) (hw : s.writes < 4611686018427387904) :
    Calls Tryd.prog 36 #[.pointer (some ⟨d, 0, none⟩), .int .i64 i, v] w fun e w' => e = .returned (.int .i64 0) ∧ IsDisk w' d L (s.write i bs) ∧ Chg (fun b => b = d ∨ b = L) w w' := by
  obtain ⟨cap, arr, hd, hc1, hcap, hL, r1, r2, r3, r4, r5, hne, r6, r7⟩ := id h
  have c1 : w.cell? ⟨d, 1, none⟩ = some (.bool false) := by rw [hd.cell, hdead]; rfl
  obtain ⟨a, c, rfl⟩ := hb.eq_slice
  have HW := Lib.hid (show s.write i bs = { s with cnt := s.cnt - 1, f := s.lay i bs 32, writes := s.writes + 1 } from by simp [DiskS.write, hst, Nat.ne_of_gt hcnt])
  obtain ⟨l, hl'⟩ : ∃ l, l = bs.length := ⟨_, rfl⟩
  rw [← hl'] at hl hb ⊢
  have Hl := Lib.hid hl'; have Hst := Lib.hid hst
  have i1 : (0 : Int) ≤ (i : Int) := by omega
  have i2 : (i : Int) < (s.n : Int) := by omega
  have t1 : ((s.cnt : Int) == 0) = false := by simp; omega
  have t2 : (0 : Int) < (s.cnt : Int) := by omega
  clear hdead hst hl'
  go_enter Tryd.func36, Tryd.ntmps36
  go_wp2_with fail
  refine (may_calls d L s i w h true (DiskS.may_yes hi)).mono ?_
  rintro e w1 ⟨rfl, rfl⟩
  go_wp2_with (refine copy_row (o := ⟨some 25, _, _, _, _, _⟩) rfl (.tmp 23) (.tmp 24) 35 35 rfl 5 Tryd.underlying35 E8s rfl rfl (to_new _) (hb.below ((Below.refl _ _).alloc (Nat.le_refl _) _)) ?c1 ?c2 ?_)
  case c1 => have := Hl.out; omega
  case c2 => omega
  intro w1 hB1 hb1
  have hb1 : Below w.heap.size w w1 := ((Below.refl _ _).alloc (Nat.le_refl _) _).trans hb1
  have h0 := h.below hb1
  have hd1 := hd.kept hb1
  have c2 : w1.cell? ⟨d, 2, none⟩ = some (.bool true) := by rw [hd1.cell, Hst.out]; rfl
  have c3 : w1.cell? ⟨d, 3, none⟩ = some (.int .i64 (s.cnt : Int)) := by rw [hd1.cell]; rfl
  have f3 := hd1.free 3
  have h1 := h0.tick hcnt
  have hd1' := hd1
  obtain ⟨w2, hw2⟩ : ∃ w2, w2 = w1.setCell ⟨d, 3, none⟩ (.int .i64 ((s.cnt : Int) - 1)) := ⟨_, rfl⟩
  rw [← hw2] at h1
  have hlt : d < w.heap.size := hd.lt
  have hB2 : Blk w2 w.heap.size (rowArr 32 fun k => if k < bs.length then bs.getD k 0 else 0) 43 := by rw [hw2]; exact hB1.set_other (show d ≠ w.heap.size by omega) _
  have hch2 : Chg (fun b => b = d ∨ b = L) w w2 := by rw [hw2]; exact (Chg.of_below hb1).set (.inl rfl) _
  have c0 : w2.cell? ⟨d, 0, none⟩ = some (.slice (some ⟨L, 0, none⟩) s.n cap) := by rw [hw2, (hd1.set 3 _).cell]; rfl
  have HB1 := Lib.hid hB1; have Hb1 := Lib.hid hb1; have Hd1 := Lib.hid hd1; have H0 := Lib.hid h0; have Hw2 := Lib.hid hw2
  clear hB1 hb1 hd1 h0 c1 hd1' hw2
  obtain ⟨cs, Hcs, hcl, hone, hr1, ht1, _⟩ := write_facts (i := i) h1 hi hB2 32 (Nat.le_refl _)
  have hu := Tryd.underlying43
  have hi32 : (Tryd.prog.info? 43).map (·.size) = some cs.length := by rw [hcl]; exact i32
  have hD := h1.laid (show i < _ from hi) bs (Nat.le_refl 32) Hcs.out 1
  have hC := Chg.setCells (S := fun b => b = d ∨ b = L) (L := L) (.inr rfl) cs (i * 32) _ hch2.drew
  have hD : IsDisk (w2.drew.setCells L (i * 32) cs) d L { s with cnt := s.cnt - 1, f := s.lay i bs 32 } := hD
  obtain ⟨cap', arr', hd2, _⟩ := id hD
  have c5 : (w2.drew.setCells L (i * 32) cs).cell? ⟨d, 5, none⟩ = some (.int .i64 (s.writes : Int)) := by rw [hd2.cell]; rfl
  have f5 := hd2.free 5
  have HD := Lib.hid hD; have HC := Lib.hid hC; have HB2 := Lib.hid hB2; have H1 := Lib.hid h1; have Hd2 := Lib.hid hd2; have Hch := Lib.hid hch2
  clear hD hC hB2 h1 hd2 hch2
  go_upto_region 13 with fail
  rw [← Hw2.out]
  go_region_held3 (fun w' => w'.cell? ⟨d, 0, none⟩ = some (.slice (some ⟨L, 0, none⟩) s.n cap) ∧ w'.rangeAt w.heap.size 0 cs ∧ w'.there L (i * 32) 32) (first | exact ⟨c0, hr1, ht1⟩ | exact keep_mid hne (Nat.ne_of_gt hL.lt) c0 hr1 ht1) (fail)
  go_wp2
  go_ret
  exact ⟨rfl, by rw [HW.out]; exact HD.out.count hw, HC.out.set (.inl rfl) _⟩
set_option maxRecDepth 100000 in
set_option maxHeartbeats 2000000 in
theorem dwrite_tear (d L : Nat) (s : DiskS) (i : Nat) (v : Value) (bs : List UInt8) (w : World) (h : IsDisk w d L s) (hb : Bys w v bs) (hi : i < s.n) (hl : bs.length ≤ 32) (hdead : s.dead = false) (hst : s.stops = true) (hcnt : s.cnt = 0) :
    Calls Tryd.prog 36 #[.pointer (some ⟨d, 0, none⟩), .int .i64 i, v] w fun e w' => e = .returned (.int .i64 8) ∧ IsDisk w' d L (s.write i bs) ∧ Chg (fun b => b = d ∨ b = L) w w' := by
  obtain ⟨cap, arr, hd, hc1, hcap, hL, r1, r2, r3, r4, r5, hne, r6, r7⟩ := id h
  have c1 : w.cell? ⟨d, 1, none⟩ = some (.bool false) := by rw [hd.cell, hdead]; rfl
  obtain ⟨a, c, rfl⟩ := hb.eq_slice
  have HW := Lib.hid (show s.write i bs = { s with f := s.lay i bs s.keep, dead := true } from by simp [DiskS.write, hst, hcnt])
  obtain ⟨l, hl'⟩ : ∃ l, l = bs.length := ⟨_, rfl⟩
  rw [← hl'] at hl hb ⊢
  have Hl := Lib.hid hl'; have Hst := Lib.hid hst; have Hcnt := Lib.hid hcnt
  have i1 : (0 : Int) ≤ (i : Int) := by omega
  have i2 : (i : Int) < (s.n : Int) := by omega
  have k1 : (0 : Int) ≤ (s.keep : Int) := by omega
  have k2 : (s.keep : Int) ≤ 32 := by omega
  clear hdead hst hl' hcnt
  go_enter Tryd.func36, Tryd.ntmps36
  go_wp2_with fail
  refine (may_calls d L s i w h true (DiskS.may_yes hi)).mono ?_
  rintro e w1 ⟨rfl, rfl⟩
  go_wp2_with (refine copy_row (o := ⟨some 25, _, _, _, _, _⟩) rfl (.tmp 23) (.tmp 24) 35 35 rfl 5 Tryd.underlying35 E8s rfl rfl (to_new _) (hb.below ((Below.refl _ _).alloc (Nat.le_refl _) _)) ?c1 ?c2 ?_)
  case c1 => have := Hl.out; omega
  case c2 => omega
  intro w1 hB1 hb1
  have hb1 : Below w.heap.size w w1 := ((Below.refl _ _).alloc (Nat.le_refl _) _).trans hb1
  have h1 := h.below hb1
  have hd1 := hd.kept hb1
  have c0 : w1.cell? ⟨d, 0, none⟩ = some (.slice (some ⟨L, 0, none⟩) s.n cap) := by rw [hd1.cell]; rfl
  have c2 : w1.cell? ⟨d, 2, none⟩ = some (.bool true) := by rw [hd1.cell, Hst.out]; rfl
  have c3 : w1.cell? ⟨d, 3, none⟩ = some (.int .i64 0) := by rw [hd1.cell, Hcnt.out]; rfl
  have c4 : w1.cell? ⟨d, 4, none⟩ = some (.int .i64 (s.keep : Int)) := by rw [hd1.cell]; rfl
  obtain ⟨cs, Hcs, hcl, hone, hr1, ht1, hsrc⟩ := write_facts (i := i) h1 hi hB1 s.keep r5
  have ht1 : w1.there L (i * 32) cs.length := fun j hj => ht1 j (by rw [hcl] at hj; omega)
  have hD := h1.laid hi bs r5 Hcs.out 1
  have hC := Chg.setCells (S := fun b => b = d ∨ b = L) (L := L) (.inr rfl) cs (i * 32) _ (Chg.drew (Chg.of_below (S := fun b => b = d ∨ b = L) hb1))
  have hD : IsDisk (w1.drew.setCells L (i * 32) cs) d L { s with f := s.lay i bs s.keep } := hD
  obtain ⟨cap', arr', hd2, _⟩ := id hD
  have c5 : (w1.drew.setCells L (i * 32) cs).cell? ⟨d, 1, none⟩ = some (.bool s.dead) := by rw [hd2.cell]; rfl
  have f5 := hd2.free 1
  have HD := Lib.hid hD; have HC := Lib.hid hC; have HB1 := Lib.hid hB1; have Hb1 := Lib.hid hb1; have Hd1 := Lib.hid hd1; have H1 := Lib.hid h1; have Hd2 := Lib.hid hd2; have Hcl := Lib.hid hcl; have Hsrc := Lib.hid hsrc; have Hone := Lib.hid hone; have Ht := Lib.hid ht1
  clear hD hC hB1 hb1 hd1 h1 hd2 c1 hcl hsrc hr1 hone ht1
  go_wp2_with fail
  go_region_held3 (fun w' => w'.cell? ⟨d, 0, none⟩ = some (.slice (some ⟨L, 0, none⟩) s.n cap) ∧ w'.cell? ⟨d, 4, none⟩ = some (.int .i64 (s.keep : Int))) (first | exact ⟨c0, c4⟩ | assumption | exact ⟨by rw [World.cell?_setCells_out _ _ _ _ _ (fun e => absurd e hne)]; exact c0, by rw [World.cell?_setCells_out _ _ _ _ _ (fun e => absurd e hne)]; exact c4⟩)
    (first
      | (refine step_copy_set (by rfl) _ _ _ _ 5 (by rfl) Tryd.underlying35 E8s (b := L) (off := i * 32) (sa := ⟨w.heap.size, 0, none⟩) cs (by rfl) (by rfl) (by rw [Hcl.out]; exact (Nat.min_self _).symm) Hsrc.out Ht.out Hone.out ?_))
  go_wp2
  go_ret
  exact ⟨rfl, by rw [HW.out]; exact HD.out.die, HC.out.set (.inl rfl) _⟩
theorem dwrite_calls (d L : Nat) (s : DiskS) (i : Nat) (v : Value) (bs : List UInt8) (w : World) (h : IsDisk w d L s) (hb : Bys w v bs) (hi : i < s.n) (hl : bs.length ≤ 32) (hdead : s.dead = false) (hw : s.writes < 4611686018427387904) :
    Calls Tryd.prog 36 #[.pointer (some ⟨d, 0, none⟩), .int .i64 i, v] w fun e w' => e = .returned (.int .i64 (if s.stops = true ∧ s.cnt = 0 then 8 else 0)) ∧ IsDisk w' d L (s.write i bs) ∧ Chg (fun b => b = d ∨ b = L) w w' := by
  by_cases hs : s.stops = true
  · by_cases hc : s.cnt = 0
    · rw [if_pos ⟨hs, hc⟩]; exact dwrite_tear d L s i v bs w h hb hi hl hdead hs hc
    · rw [if_neg (fun e => hc e.2)]; exact dwrite_tick d L s i v bs w h hb hi hl hdead hs (by omega) hw
  · rw [if_neg (fun e => hs e.1)]; exact dwrite_plain d L s i v bs w h hb hi hl hdead (by simpa using hs) hw
end Go.Proofs.YtdlkghdfkjdajaaDoor
end
section
namespace Go.Mem
open Go Go.RowKit Gf
theorem lay_same (s : DiskS) (i : Nat) (bs : List UInt8) (m k : Nat) : s.lay i bs m (i * 32 + k) = if k < m then bs.getD k 0 else s.f (i * 32 + k) := by
  unfold DiskS.lay
  by_cases h : k < m
  · rw [if_pos (by omega), if_pos h, show i * 32 + k - i * 32 = k from by omega]
  · rw [if_neg (by omega), if_neg h]
theorem sector_get (s : DiskS) (i k : Nat) (hk : k < 32) : (s.sector i)[k]? = some (s.f (i * 32 + k)) := rowL_get _ _ _ hk
theorem sector_len (s : DiskS) (i : Nat) : (s.sector i).length = 32 := rowL_len _ _
end Go.Mem
namespace Go.Proofs.YtdlkghdfkjdajaaDoor
open Go Go.RowKit Go.Mem Gf
attribute [local go_sem ↓] Go.wp_at_zero Go.wp_at_succ
end Go.Proofs.YtdlkghdfkjdajaaDoor
end
section
namespace Go.Proofs.YtdlkghdfkjdajaaDoor
open Go Go.RowKit Go.Mem Gf
attribute [local go_sem ↓] Go.wp_at_zero Go.wp_at_succ
end Go.Proofs.YtdlkghdfkjdajaaDoor
end
section
namespace Go.Mem
open Go Go.RowKit Gf
end Go.Mem
namespace Go.Proofs.YtdlkghdfkjdajaaDoor
open Go Go.RowKit Go.Mem Gf
attribute [local go_sem ↓] Go.wp_at_zero Go.wp_at_succ
end Go.Proofs.YtdlkghdfkjdajaaDoor
end
section
namespace Go.Mem
open Go Go.RowKit Gf
def DiskS.rres (s : DiskS) (i : Int) : Int := if s.may i = true then (if s.dead = true then 8 else 0) else 1
def DiskS.rd (s : DiskS) (i : Int) : List UInt8 := if s.may i = true ∧ s.dead = false then s.sector i.toNat else []
def DiskS.wres (s : DiskS) (i : Int) (n : Nat) : Int := if s.may i = true ∧ n ≤ 32 then (if s.dead = true then 8 else if s.stops = true ∧ s.cnt = 0 then 8 else 0) else 1
def DiskS.wr (s : DiskS) (i : Int) (bs : List UInt8) : DiskS := if (s.may i = true ∧ bs.length ≤ 32) ∧ s.dead = false then s.write i.toNat bs else s
theorem DiskS.may_out {s : DiskS} {i : Int} (h : s.may i = true) : ∃ j : Nat, i = j ∧ j < s.n := by
  simp [DiskS.may] at h
  exact ⟨i.toNat, by omega, by omega⟩
theorem DiskS.may_bad {s : DiskS} {i : Int} (h : ¬ s.may i = true) : i < 0 ∨ (s.n : Int) ≤ i := by
  simp [DiskS.may] at h
  omega
theorem DiskS.wr_n (s : DiskS) (i : Int) (bs : List UInt8) : (s.wr i bs).n = s.n := by
  unfold DiskS.wr DiskS.write; split
  · split <;> rfl
  · rfl
theorem DiskS.wr_writes (s : DiskS) (i : Int) (bs : List UInt8) : (s.wr i bs).writes ≤ s.writes + 1 := by
  unfold DiskS.wr DiskS.write; split
  · split
    · exact Nat.le_succ _
    · exact Nat.le_refl _
  · exact Nat.le_succ _
end Go.Mem
namespace Go.Proofs.YtdlkghdfkjdajaaDoor
open Go Go.RowKit Go.Mem Gf
theorem dread_any (d L : Nat) (s : DiskS) (i : Int) (w : World) (h : IsDisk w d L s) :
    Calls Tryd.prog 34 #[.pointer (some ⟨d, 0, none⟩), .int .i64 i] w fun e w' => ∃ v, e = .returned (.tuple #[v, .int .i64 (s.rres i)]) ∧ OwnF 5 w' w.heap.size v (s.rd i) ∧ Below w.heap.size w w' := by
  by_cases hm : s.may i = true
  · obtain ⟨j, rfl, hj⟩ := DiskS.may_out hm
    by_cases hd : s.dead = true
    · refine (dread_dead d L s j w h hj hd).mono ?_
      rintro e w1 ⟨rfl, rfl⟩
      exact ⟨.slice none 0 0, by simp [DiskS.rres, hm, hd], by simp [DiskS.rd, hd]; exact OwnF.nil _ _ _, Below.refl _ _⟩
    · have hd : s.dead = false := by simpa using hd
      refine (dread_calls d L s j w h hj hd).mono ?_
      rintro e w1 ⟨v, rfl, h1, h2⟩
      exact ⟨v, by simp [DiskS.rres, hm, hd], by simp [DiskS.rd, hm, hd]; exact h1, h2⟩
  · refine (dread_bad d L s i w h (DiskS.may_bad hm)).mono ?_
    rintro e w1 ⟨rfl, rfl⟩
    exact ⟨.slice none 0 0, by simp [DiskS.rres, hm], by simp [DiskS.rd, hm]; exact OwnF.nil _ _ _, Below.refl _ _⟩
theorem dwrite_any (d L : Nat) (s : DiskS) (i : Int) (v : Value) (bs : List UInt8) (w : World) (h : IsDisk w d L s) (hb : Bys w v bs) (hw : s.writes < 4611686018427387904) :
    Calls Tryd.prog 36 #[.pointer (some ⟨d, 0, none⟩), .int .i64 i, v] w fun e w' => e = .returned (.int .i64 (s.wres i bs.length)) ∧ IsDisk w' d L (s.wr i bs) ∧ Chg (fun b => b = d ∨ b = L) w w' := by
  by_cases hm : s.may i = true ∧ bs.length ≤ 32
  · obtain ⟨j, rfl, hj⟩ := DiskS.may_out hm.1
    by_cases hd : s.dead = true
    · refine (dwrite_dead d L s j v bs w h hb hj hm.2 hd).mono ?_
      rintro e w1 ⟨rfl, rfl⟩
      exact ⟨by rw [DiskS.wres, if_pos hm, if_pos hd], by rw [DiskS.wr, if_neg (by simp [hd])]; exact h, Chg.refl _ _⟩
    · have hd : s.dead = false := by simpa using hd
      refine (dwrite_calls d L s j v bs w h hb hj hm.2 hd hw).mono ?_
      rintro e w1 ⟨rfl, h1, h2⟩
      exact ⟨by rw [DiskS.wres, if_pos hm, if_neg (show ¬ s.dead = true by simp [hd])], by rw [DiskS.wr, if_pos ⟨hm, hd⟩]; exact h1, h2⟩
  · refine (dwrite_bad d L s i v bs w h hb ?_).mono ?_
    · rcases Nat.lt_or_ge 32 bs.length with hl | hl
      · exact .inr hl
      · exact .inl (DiskS.may_bad fun e => hm ⟨e, hl⟩)
    rintro e w1 ⟨rfl, rfl⟩
    exact ⟨by rw [DiskS.wres, if_neg hm], by rw [DiskS.wr, if_neg (fun e => hm e.1)]; exact h, Chg.refl _ _⟩
end Go.Proofs.YtdlkghdfkjdajaaDoor
end
section
namespace Sto
open Go.Mem
structure Rec where
  is : Bool
  name : ByteArray
  num : Nat
  data : List UInt8
def Rec.free : Rec := ⟨false, ByteArray.empty, 0, []⟩
def takeN : Nat → List UInt8 → Option (List (List UInt8) × List UInt8)
  | 0, b => some ([], b)
  | k + 1, b => match takeN k b with
    | none => none
    | some (xs, r) => match Cod.takeNet r with
      | none => none
      | some (x, r') => some (xs ++ [x], r')
theorem takeN_len : ∀ (k : Nat) (b : List UInt8) (xs : List (List UInt8)) (r : List UInt8), takeN k b = some (xs, r) → xs.length = k
  | 0, b, xs, r, h => by simp [takeN] at h; rw [h.1]; rfl
  | k + 1, b, xs, r, h => by
    simp only [takeN] at h
    split at h
    · cases h
    · rename_i xs' r' h'
      split at h
      · cases h
      · injection h with h
        injection h with h1 h2
        subst h1
        rw [List.length_append, takeN_len k b xs' r' h']; rfl
def parse (b : List UInt8) : Option Rec :=
  match takeN 3 b with
  | none => none
  | some (xs, _) => if (xs.getD 1 []).length = 4 then some ⟨true, ⟨(xs.getD 0 []).toArray⟩, Cod.getN (xs.getD 1 []), xs.getD 2 []⟩ else none
def text (name : ByteArray) (num : Nat) (data : List UInt8) : List UInt8 := Cod.nets [name.data.toList, Cod.be 4 num, data]
def best (l : List Rec) (name : ByteArray) : Nat → Option Nat
  | 0 => none
  | k + 1 => match l[k]? with
    | none => best l name k
    | some r => if r.is = true ∧ (r.name.toList == name.toList) = true ∧ (∀ j, best l name k = some j → (l.getD j Rec.free).num < r.num) then some k else best l name k
end Sto
end
section
namespace Go.Proofs.YtdlkghdfkjdajaaDoor
open Go Go.RowKit Go.Mem Gf
attribute [local go_sem ↓] Go.wp_at_zero Go.wp_at_succ
theorem chg4 (w : World) (g : Nat) (u0 u1 u2 u3 : Value) : Chg (fun b => b = g) w ((((w.setCell ⟨g, 0, none⟩ u0).setCell ⟨g, 1, none⟩ u1).setCell ⟨g, 2, none⟩ u2).setCell ⟨g, 3, none⟩ u3) := by
  refine Chg.set (S := fun b => b = g) ?_ (a := ⟨g, 3, none⟩) rfl u3
  refine Chg.set (S := fun b => b = g) ?_ (a := ⟨g, 2, none⟩) rfl u2
  refine Chg.set (S := fun b => b = g) ?_ (a := ⟨g, 1, none⟩) rfl u1
  exact Chg.set (S := fun b => b = g) (Chg.refl _ _) (a := ⟨g, 0, none⟩) rfl u0
theorem getD_old {α : Type} (xs : List α) (x d : α) {j : Nat} (h : j < xs.length) : (xs ++ [x]).getD j d = xs.getD j d := by
  rw [List.getD_eq_getElem?_getD, List.getD_eq_getElem?_getD, List.getElem?_append_left h]
theorem getD_new {α : Type} (xs : List α) (x d : α) {j : Nat} (h : j = xs.length) : (xs ++ [x]).getD j d = x := by
  subst h; rw [List.getD_eq_getElem?_getD, List.getElem?_append_right (Nat.le_refl _)]; simp
def SomeRec (v : Value) : Prop := ∃ (b : Bool) (s : ByteArray) (z : Int) (dv : Value), v = .tuple #[.agg #[.bool b, .string s, .int .i64 z, dv], .bool false] ∧ ∃ a l c, dv = .slice a l c
set_option maxRecDepth 20000 in
set_option maxHeartbeats 2000000 in
theorem parse_calls (v : Value) (bs : List UInt8) (w : World) (h : Bys w v bs) (hl : bs.length ≤ 1000000) :
    Calls Tryd.prog 35 #[v] w fun e w' => Below w.heap.size w w' ∧ ((∃ r, Sto.parse bs = some r ∧ ∃ dv, e = .returned (.tuple #[.agg #[.bool true, .string r.name, .int .i64 r.num, dv], .bool true]) ∧ OwnX 5 w' w.heap.size dv r.data) ∨ (Sto.parse bs = none ∧ ∃ v, e = .returned v ∧ SomeRec v)) := by
  obtain ⟨a, c, rfl⟩ := h.eq_slice
  go_enter Tryd.func35, Tryd.ntmps35
  have h1 : Bys ((w.alloc (.cells #[.bool false, .string { data := #[] }, .int .i64 0, .slice none 0 0] 63)).alloc (.cells #[.slice none 0 0, .slice none 0 0, .slice none 0 0] 108)) (.slice a bs.length c) bs := h.below (((Below.refl _ _).alloc (Nat.le_refl _) _).alloc (by simp) _)
  have hA0 := Blk.new_at (w.alloc (.cells #[.bool false, .string { data := #[] }, .int .i64 0, .slice none 0 0] 63)) #[.slice none 0 0, .slice none 0 0, .slice none 0 0] 108 (w.heap.size + 1) (by simp)
  have hR0 := (Blk.new w #[.bool false, .string { data := #[] }, .int .i64 0, .slice none 0 0] 63).alloc (.cells #[.slice none 0 0, .slice none 0 0, .slice none 0 0] 108)
  have hb0 : Below w.heap.size w ((w.alloc (.cells #[.bool false, .string { data := #[] }, .int .i64 0, .slice none 0 0] 63)).alloc (.cells #[.slice none 0 0, .slice none 0 0, .slice none 0 0] 108)) := ((Below.refl _ _).alloc (Nat.le_refl _) _).alloc (by simp) _
  go_wp2_with fail
  go_loopw [0, 9] (fun u v wr => ∃ (k : Nat) (xs : List (List UInt8)) (r : List UInt8) (v0 v1 v2 : Value), k ≤ 3 ∧ v = .int .i64 k ∧ Hid (Sto.takeN k bs = some (xs, r)) ∧ Bys wr u r ∧ r.length ≤ 1000000 ∧ Blk wr (w.heap.size + 1) #[v0, v1, v2] 108 ∧ Blk wr w.heap.size #[.bool false, .string { data := #[] }, .int .i64 0, .slice none 0 0] 63 ∧
      Hid (0 < k → OwnX 5 wr (w.heap.size + 2) v0 (xs.getD 0 [])) ∧ Hid (1 < k → OwnX 5 wr (w.heap.size + 2) v1 (xs.getD 1 [])) ∧ Hid (2 < k → OwnX 5 wr (w.heap.size + 2) v2 (xs.getD 2 [])) ∧ Below w.heap.size w wr ∧ w.heap.size + 2 ≤ wr.heap.size) (fun _ v _ => 3 - (intOf v).toNat)
  case atStart => exact ⟨0, [], bs, _, _, _, by omega, rfl, rfl, h1, hl, hA0, hR0, fun h => by omega, fun h => by omega, fun h => by omega, hb0, by simp⟩
  case round =>
    clear h1 hA0 hR0 hb0 h
    obtain ⟨k, xs, r, v0, v1, v2, hk, rfl, Hk, hr, hrl, hA, hR, h0, h1, h2, hb, hs⟩ := hrel
    by_cases hk3 : k < 3
    · obtain ⟨va, vc, rfl⟩ := hr.eq_slice
      have Hr := Lib.hid hR; have Ha := Lib.hid hA
      cases ht : Cod.takeNet r with
      | none =>
        have Hp := Lib.hid (show Sto.parse bs = none from by
          have h3 : ∀ j, k < j → Sto.takeN j bs = none := by
            intro j hj
            induction j with
            | zero => omega
            | succ j ih =>
              rw [Sto.takeN]
              by_cases e : j = k
              · subst e; rw [Hk.out]; simp only [ht]
              · rw [ih (by omega)]
          unfold Sto.parse; rw [h3 3 hk3])
        have Ht := Lib.hid ht
        clear ht
        go_wp2_with fail
        refine (takeNet_bad _ r wr hr (by omega) Ht.out).mono ?_
        rintro e w2 ⟨rfl, rfl⟩
        have d0 : wr.cell? ⟨w.heap.size, 0, none⟩ = some (.bool false) := by rw [Hr.out.cell]; rfl
        have d1 : wr.cell? ⟨w.heap.size, 1, none⟩ = some (.string { data := #[] }) := by rw [Hr.out.cell]; rfl
        have d2 : wr.cell? ⟨w.heap.size, 2, none⟩ = some (.int .i64 0) := by rw [Hr.out.cell]; rfl
        have d3 : wr.cell? ⟨w.heap.size, 3, none⟩ = some (.slice none 0 0) := by rw [Hr.out.cell]; rfl
        have f0 := Hr.out.free 0; have f1 := Hr.out.free 1; have f2 := Hr.out.free 2; have f3 := Hr.out.free 3
        have c0 : wr.cell? ⟨w.heap.size + 1, 0, none⟩ = some v0 := by rw [Ha.out.cell]; rfl
        have c1 : wr.cell? ⟨w.heap.size + 1, 1, none⟩ = some v1 := by rw [Ha.out.cell]; rfl
        have c2 : wr.cell? ⟨w.heap.size + 1, 2, none⟩ = some v2 := by rw [Ha.out.cell]; rfl
        have g0 := Ha.out.free 0; have g1 := Ha.out.free 1; have g2 := Ha.out.free 2
        clear hA hR hr Ht
        rcases (show k = 0 ∨ k = 1 ∨ k = 2 from by omega) with rfl | rfl | rfl
        all_goals
          go_wp2
          refine bodyPost_ret (v := .tuple #[.agg #[.bool false, .string { data := #[] }, .int .i64 0, .slice none 0 0], .bool false]) (by simp [results, Tryd.results35, go_sem, d0, d1, d2, d3]) rfl ⟨?_, .inr ⟨Hp.out, _, rfl, false, _, 0, _, rfl, _, _, _, rfl⟩⟩
          exact ((((hb.setCell (by simp) _).setCell (by simp) _).setCell (by simp) _).setCell (by simp) _).setCell (by simp) _
      | some q =>
        obtain ⟨x, y⟩ := q
        have Ht := Lib.hid ht
        clear ht
        go_wp2_with fail
        refine (takeNet_ok _ r x y wr hr (by omega) Ht.out).mono ?_
        rintro e w2 ⟨vx, vy, rfl, hx, hy, hb2⟩
        have hA2 := hA.kept hb2
        have hR2 := hR.kept hb2
        have hxl : x.length ≤ 1000000 ∧ y.length ≤ 1000000 := by
          obtain ⟨_, _, _, h4, _, _, h7, h8⟩ := takeNet_some Ht.out
          exact ⟨by rw [h7]; simp; omega, by rw [h8]; simp; omega⟩
        have Hn := Lib.hid (show Sto.takeN (k + 1) bs = some (xs ++ [x], y) from by rw [Sto.takeN, Hk.out]; simp only [Ht.out])
        have Hl := Lib.hid (Sto.takeN_len _ _ _ _ Hk.out)
        have c0 : w2.cell? ⟨w.heap.size + 1, 0, none⟩ = some v0 := by rw [hA2.cell]; rfl
        have c1 : w2.cell? ⟨w.heap.size + 1, 1, none⟩ = some v1 := by rw [hA2.cell]; rfl
        have c2 : w2.cell? ⟨w.heap.size + 1, 2, none⟩ = some v2 := by rw [hA2.cell]; rfl
        have g0 := hA2.free 0; have g1 := hA2.free 1; have g2 := hA2.free 2
        obtain ⟨xa, xc, rfl⟩ := hx.eq_slice
        have Hx := Lib.hid hx; have Hy := Lib.hid hy; have HA2 := Lib.hid hA2; have HR2 := Lib.hid hR2; have Hb2 := Lib.hid hb2; have Hr' := Lib.hid hr
        clear hA hR hx hy hA2 hR2 hb2 hr
        have hs2 := Hb2.out.size
        have hC : ∀ j v, Chg (fun b => b = w.heap.size + 1) wr (w2.setCell ⟨w.heap.size + 1, j, none⟩ v) := fun j v => Chg.set (S := fun b => b = w.heap.size + 1) (Chg.of_below Hb2.out) (a := ⟨w.heap.size + 1, j, none⟩) rfl v
        have hC2 : ∀ j v, Chg (fun b => b = w.heap.size + 1) w2 (w2.setCell ⟨w.heap.size + 1, j, none⟩ v) := fun j v => Chg.set (S := fun b => b = w.heap.size + 1) (Chg.refl _ _) (a := ⟨w.heap.size + 1, j, none⟩) rfl v
        have HC := Lib.hid hC; have HC2 := Lib.hid hC2
        have hap : ∀ (v : Value) (bs : List UInt8) (w' : World), OwnX 5 w' (w.heap.size + 2) v bs → ∀ g, v.ownBlock = some g → ¬ g = w.heap.size + 1 := fun v bs w' ho g hg => by have := (ho.lt g hg).1; omega
        have Hap := Lib.hid hap
        have HX := Lib.hid (fun j v => (Hx.out.mono hs).chg (hC2 j v) (hap _ _ _ (Hx.out.mono hs)))
        have HY := Lib.hid (fun j v => ((Hy.out.mono hs).chg (hC2 j v) (hap _ _ _ (Hy.out.mono hs))).bys)
        have HB := Lib.hid (fun j v => (show Below w.heap.size w (w2.setCell ⟨w.heap.size + 1, j, none⟩ v) from (hb.trans (Hb2.out.mono hb.size)).setCell (show w.heap.size ≤ w.heap.size + 1 by omega) v))
        have HR3 := Lib.hid (fun j v => HR2.out.set_other (a := ⟨w.heap.size + 1, j, none⟩) (show w.heap.size + 1 ≠ w.heap.size by omega) v)
        have HA3 := Lib.hid (fun j v => HA2.out.set j v)
        have Hge := Lib.hid (show w.heap.size + 2 ≤ w2.heap.size by omega)
        clear hC hC2 hap
        rcases (show k = 0 ∨ k = 1 ∨ k = 2 from by omega) with rfl | rfl | rfl
        · go_wp2
          exact ⟨⟨1, xs ++ [x], y, _, v1, v2, by decide, rfl, Hn.out, HY.out 0 _, hxl.2, by simpa using HA3.out 0 _, HR3.out 0 _, (fun _ => by rw [getD_new _ _ _ Hl.out.symm]; exact HX.out 0 _), (fun h => by omega), (fun h => by omega), HB.out 0 _, by simpa using Hge.out⟩, by simp [intOf]⟩
        · go_wp2
          exact ⟨⟨2, xs ++ [x], y, v0, _, v2, by decide, rfl, Hn.out, HY.out 1 _, hxl.2, by simpa using HA3.out 1 _, HR3.out 1 _, (fun _ => by rw [getD_old _ _ _ (by rw [Hl.out]; decide)]; exact (h0.out (by decide)).chg (HC.out 1 _) (Hap.out _ _ _ (h0.out (by decide)))), (fun _ => by rw [getD_new _ _ _ Hl.out.symm]; exact HX.out 1 _), (fun h => by omega), HB.out 1 _, by simpa using Hge.out⟩, by simp [intOf]⟩
        · go_wp2
          exact ⟨⟨3, xs ++ [x], y, v0, v1, _, by decide, rfl, Hn.out, HY.out 2 _, hxl.2, by simpa using HA3.out 2 _, HR3.out 2 _, (fun _ => by rw [getD_old _ _ _ (by rw [Hl.out]; decide)]; exact (h0.out (by decide)).chg (HC.out 2 _) (Hap.out _ _ _ (h0.out (by decide)))), (fun _ => by rw [getD_old _ _ _ (by rw [Hl.out]; decide)]; exact (h1.out (by decide)).chg (HC.out 2 _) (Hap.out _ _ _ (h1.out (by decide)))), (fun _ => by rw [getD_new _ _ _ Hl.out.symm]; exact HX.out 2 _), HB.out 2 _, by simpa using Hge.out⟩, by simp [intOf]⟩
    · obtain rfl : k = 3 := by omega
      have o0 := h0.out (by decide)
      have o1 := h1.out (by decide)
      have o2 := h2.out (by decide)
      obtain ⟨x0, hx0⟩ : ∃ x, x = xs.getD 0 [] := ⟨_, rfl⟩
      obtain ⟨x1, hx1⟩ : ∃ x, x = xs.getD 1 [] := ⟨_, rfl⟩
      obtain ⟨x2, hx2⟩ : ∃ x, x = xs.getD 2 [] := ⟨_, rfl⟩
      have HP := Lib.hid (show Sto.parse bs = if x1.length = 4 then some ⟨true, ⟨x0.toArray⟩, Cod.getN x1, x2⟩ else none from by
        unfold Sto.parse; rw [Hk.out, hx0, hx1, hx2])
      rw [← hx0] at o0; rw [← hx1] at o1; rw [← hx2] at o2
      clear hx0 hx1 hx2 h0 h1 h2 hr
      have d0 : wr.cell? ⟨w.heap.size, 0, none⟩ = some (.bool false) := by rw [hR.cell]; rfl
      have d1 : wr.cell? ⟨w.heap.size, 1, none⟩ = some (.string { data := #[] }) := by rw [hR.cell]; rfl
      have d2 : wr.cell? ⟨w.heap.size, 2, none⟩ = some (.int .i64 0) := by rw [hR.cell]; rfl
      have d3 : wr.cell? ⟨w.heap.size, 3, none⟩ = some (.slice none 0 0) := by rw [hR.cell]; rfl
      have f0 := hR.free 0; have f1 := hR.free 1; have f2 := hR.free 2; have f3 := hR.free 3
      have c0 : wr.cell? ⟨w.heap.size + 1, 0, none⟩ = some v0 := by rw [hA.cell]; rfl
      have c1 : wr.cell? ⟨w.heap.size + 1, 1, none⟩ = some v1 := by rw [hA.cell]; rfl
      have c2 : wr.cell? ⟨w.heap.size + 1, 2, none⟩ = some v2 := by rw [hA.cell]; rfl
      obtain ⟨z, hz⟩ : ∃ z : Nat × Bool, (x1.length ≤ 7 → z.1 = Cod.getN x1) ∧ Calls Tryd.prog 43 #[v1] wr fun e w' => e = .returned (.tuple #[.int .i64 (z.1 : Nat), .bool z.2]) ∧ wr = w' := by
        by_cases h7 : x1.length ≤ 7
        · exact ⟨(Cod.getN x1, true), fun _ => rfl, get_calls _ _ _ o1.bys h7⟩
        · exact ⟨(0, false), fun h => absurd h h7, get_bad _ _ _ o1.bys (by omega)⟩
      obtain ⟨z, zb⟩ := z
      obtain ⟨hz1, hz2⟩ := hz
      have HZ1 := Lib.hid hz1; have HZ2 := Lib.hid hz2
      have HO2 := Lib.hid o2; have HR := Lib.hid hR; have HA := Lib.hid hA
      obtain ⟨a1, b1, rfl⟩ := o1.eq_slice
      obtain ⟨a0, b0, rfl⟩ := o0.eq_slice
      have HO0 := Lib.hid o0
      obtain ⟨a2, b2, rfl⟩ := o2.eq_slice
      clear hz1 hz2 o0 o1 o2 hR hA
      go_wp2_with fail
      refine HZ2.out.mono ?_
      rintro e w2 ⟨rfl, rfl⟩
      go_wp2_with fail
      have hcv1 : Bys wr.drew (.slice a0 x0.length b0) x0 := HO0.out.drew.bys
      have hs0 : wr.drew.cell? ⟨w.heap.size + 1, 0, none⟩ = some (.slice a0 x0.length b0) := c0
      have hs1 : wr.drew.cell? ⟨w.heap.size + 1, 1, none⟩ = some (.slice a1 x1.length b1) := c1
      have hs2 : wr.drew.cell? ⟨w.heap.size + 1, 2, none⟩ = some (.slice a2 x2.length b2) := c2
      have H0 := Lib.hid (And.intro hs0 (And.intro hs1 (And.intro hs2 hcv1)))
      have hcvr : ∀ w', Bys w' (.slice a0 x0.length b0) x0 → (convert 35 9 (.slice a0 x0.length b0)).run Tryd.prog w' = .ok (.string ⟨x0.toArray⟩) w' := fun w' hB => conv_string hB
      clear hs0 hs1 hs2 hcv1 c0 c1 c2
      have hO1 : ∀ u0 u1 u2 u3, Bys ((((wr.setCell ⟨w.heap.size, 0, none⟩ u0).setCell ⟨w.heap.size, 1, none⟩ u1).setCell ⟨w.heap.size, 2, none⟩ u2).setCell ⟨w.heap.size, 3, none⟩ u3).drew (.slice a0 x0.length b0) x0 := fun u0 u1 u2 u3 => by
        have h1 := chg4 wr w.heap.size u0 u1 u2 u3
        have h2 := HO0.out.chg h1 (fun g hg e => by have := (HO0.out.lt g hg).1; omega)
        exact h2.bys
      have HO1 := Lib.hid hO1
      clear hO1
      have HS : ∀ u0 u1 u2 u3, Hid (((((wr.setCell ⟨w.heap.size, 0, none⟩ u0).setCell ⟨w.heap.size, 1, none⟩ u1).setCell ⟨w.heap.size, 2, none⟩ u2).setCell ⟨w.heap.size, 3, none⟩ u3).drew.cell? ⟨w.heap.size + 1, 0, none⟩ = some (.slice a0 x0.length b0) ∧ ((((wr.setCell ⟨w.heap.size, 0, none⟩ u0).setCell ⟨w.heap.size, 1, none⟩ u1).setCell ⟨w.heap.size, 2, none⟩ u2).setCell ⟨w.heap.size, 3, none⟩ u3).drew.cell? ⟨w.heap.size + 1, 1, none⟩ = some (.slice a1 x1.length b1) ∧
          ((((wr.setCell ⟨w.heap.size, 0, none⟩ u0).setCell ⟨w.heap.size, 1, none⟩ u1).setCell ⟨w.heap.size, 2, none⟩ u2).setCell ⟨w.heap.size, 3, none⟩ u3).drew.cell? ⟨w.heap.size + 1, 2, none⟩ = some (.slice a2 x2.length b2) ∧
          Bys ((((wr.setCell ⟨w.heap.size, 0, none⟩ u0).setCell ⟨w.heap.size, 1, none⟩ u1).setCell ⟨w.heap.size, 2, none⟩ u2).setCell ⟨w.heap.size, 3, none⟩ u3).drew (.slice a0 x0.length b0) x0) := fun u0 u1 u2 u3 => by
        have hA' := (((HA.out.set_other (a := ⟨w.heap.size, 0, none⟩) (show w.heap.size ≠ w.heap.size + 1 by omega) u0).set_other (a := ⟨w.heap.size, 1, none⟩) (show w.heap.size ≠ w.heap.size + 1 by omega) u1).set_other (a := ⟨w.heap.size, 2, none⟩) (show w.heap.size ≠ w.heap.size + 1 by omega) u2).set_other (a := ⟨w.heap.size, 3, none⟩) (show w.heap.size ≠ w.heap.size + 1 by omega) u3
        exact ⟨hA'.cell 0, hA'.cell 1, hA'.cell 2, HO1.out u0 u1 u2 u3⟩
      go_region_held3 (fun w' => w'.cell? ⟨w.heap.size + 1, 0, none⟩ = some (.slice a0 x0.length b0) ∧ w'.cell? ⟨w.heap.size + 1, 1, none⟩ = some (.slice a1 x1.length b1) ∧ w'.cell? ⟨w.heap.size + 1, 2, none⟩ = some (.slice a2 x2.length b2) ∧ Bys w' (.slice a0 x0.length b0) x0) (first | with_reducible exact H0.out | with_reducible exact (HS _ _ _ _).out) (fail)
      have hbel : ∀ u0 u1 u2 u3, Below w.heap.size w ((((wr.setCell ⟨w.heap.size, 0, none⟩ u0).setCell ⟨w.heap.size, 1, none⟩ u1).setCell ⟨w.heap.size, 2, none⟩ u2).setCell ⟨w.heap.size, 3, none⟩ u3) := fun u0 u1 u2 u3 => (((hb.setCell (Nat.le_refl _) _).setCell (Nat.le_refl _) _).setCell (Nat.le_refl _) _).setCell (Nat.le_refl _) _
      have hown : ∀ u0 u1 u2 u3, OwnX 5 ((((wr.setCell ⟨w.heap.size, 0, none⟩ u0).setCell ⟨w.heap.size, 1, none⟩ u1).setCell ⟨w.heap.size, 2, none⟩ u2).setCell ⟨w.heap.size, 3, none⟩ u3) w.heap.size (.slice a2 x2.length b2) x2 := fun u0 u1 u2 u3 => (HO2.out.chg (chg4 wr w.heap.size u0 u1 u2 u3) (fun g hg e => by have := (HO2.out.lt g hg).1; omega)).mono (by omega)
      have HBEL := Lib.hid hbel; have HOWN := Lib.hid hown
      clear hbel hown HS
      go_wp2
      refine bodyPost_ret (v := .tuple #[.agg #[.bool true, .string ⟨x0.toArray⟩, .int .i64 (z : Int), .slice a2 x2.length b2], .bool ((x1.length : Int) == 4)]) (by simp [results, Tryd.results35, go_sem, d0, d1, d2, d3]) rfl ⟨below_drewN (HBEL.out _ _ _ _) 1, ?_⟩
      by_cases h4 : x1.length = 4
      · have e1 : ((x1.length : Int) == 4) = true := by simp; omega
        rw [e1]
        have := HZ1.out (by omega)
        subst this
        exact .inl ⟨_, by rw [HP.out, if_pos h4], _, rfl, (HOWN.out _ _ _ _).drew⟩
      · have e1 : ((x1.length : Int) == 4) = false := by simp; omega
        rw [e1]
        exact .inr ⟨by rw [HP.out, if_neg h4], _, rfl, _, _, _, _, rfl, _, _, _, rfl⟩
end Go.Proofs.YtdlkghdfkjdajaaDoor
end
section
namespace Go.Mem
open Go Go.RowKit Gf
def Tri (sb d L : Nat) (b : Nat) : Prop := b = sb ∨ b = d ∨ b = L
theorem Blk.chg4 {w : World} {b g : Nat} {arr : Array Value} {t : TypeId} (h : Blk w b arr t) (hg : b ≠ g) (u0 u1 u2 u3 : Value) : Blk ((((w.setCell ⟨g, 0, none⟩ u0).setCell ⟨g, 1, none⟩ u1).setCell ⟨g, 2, none⟩ u2).setCell ⟨g, 3, none⟩ u3) b arr t :=
  (((h.set_other (a := ⟨g, 0, none⟩) (fun e => hg e.symm) u0).set_other (a := ⟨g, 1, none⟩) (fun e => hg e.symm) u1).set_other (a := ⟨g, 2, none⟩) (fun e => hg e.symm) u2).set_other (a := ⟨g, 3, none⟩) (fun e => hg e.symm) u3
theorem chg_new2 {S T : Nat → Prop} {w w' w'' : World} (h : Chg S w w') (h' : Chg T w' w'') (hT : ∀ k, T k → w.heap.size ≤ k) : Chg S w w'' :=
  ⟨h'.os.trans h.os, h'.tape.trans h.tape, h'.output.trans h.output, Nat.le_trans h.size h'.size, fun k hk hs => (h'.block k (Nat.lt_of_lt_of_le hk h.size) fun ht => by have := hT k ht; omega).trans (h.block k hk hs)⟩
end Go.Mem
namespace Go.Proofs.YtdlkghdfkjdajaaDoor
open Go Go.RowKit Go.Mem Gf
attribute [local go_sem ↓] Go.wp_at_zero Go.wp_at_succ
theorem chg1 (w : World) (g i : Nat) (v : Value) : Chg (fun b => b = g) w (w.setCell ⟨g, i, none⟩ v) := Chg.set (S := fun b => b = g) (Chg.refl _ _) (a := ⟨g, i, none⟩) rfl v
def stV (d room : Nat) (la : Option Addr) (n lc : Nat) (dead : Bool) : Array Value := #[.pointer (some ⟨d, 0, none⟩), .int .i64 room, .slice la n lc, .bool dead]
set_option maxRecDepth 20000 in
set_option maxHeartbeats 2000000 in
theorem free_new (sb d L room n lc i : Nat) (la : Option Addr) (dead : Bool) (D : DiskS) (w : World) (hS : Blk w sb (stV d room la n lc dead) 61) (hD : IsDisk w d L D) (hne : sb ≠ d ∧ sb ≠ L) (hi : n ≤ i) (hi2 : i ≤ 1024) (hr : room ≤ 1024) (hw : D.writes < 4611686018427387904) :
    Calls Tryd.prog 22 #[.pointer (some ⟨sb, 0, none⟩), .int .i64 i] w fun e w' => e = .returned (.int .i64 (D.wres (i * (room + 1) : Nat) 1)) ∧ Blk w' sb (stV d room la n lc (dead || (D.wres (i * (room + 1) : Nat) 1 != 0))) 61 ∧ IsDisk w' d L (D.wr (i * (room + 1) : Nat) [0]) ∧ Chg (Tri sb d L) w w' := by
  obtain ⟨z, hz⟩ : ∃ z, z = D.wres (i * (room + 1) : Nat) 1 := ⟨_, rfl⟩
  have c0 : w.cell? ⟨sb, 0, none⟩ = some (.pointer (some ⟨d, 0, none⟩)) := by rw [hS.cell]; rfl
  have c1 : w.cell? ⟨sb, 1, none⟩ = some (.int .i64 room) := by rw [hS.cell]; rfl
  have d0 : (w.alloc (.cells #[.int .u8 0] 5)).cell? ⟨sb, 0, none⟩ = some (.pointer (some ⟨d, 0, none⟩)) := by rw [(hS.alloc _).cell]; rfl
  have d1 : (w.alloc (.cells #[.int .u8 0] 5)).cell? ⟨sb, 1, none⟩ = some (.int .i64 room) := by rw [(hS.alloc _).cell]; rfl
  have hb0 : Below w.heap.size w (w.alloc (.cells #[.int .u8 0] 5)).drew := below_drewN ((Below.refl _ _).alloc (Nat.le_refl _) _) 1
  have q1 : IntKind.i64.wrap ((room : Int) + 1) = (room : Int) + 1 := IntWalk.i64_in _ (by omega)
  have hm : i * (room + 1) ≤ 1024 * 1025 := Nat.mul_le_mul hi2 (by omega)
  have e2 : (i : Int) * ((room : Int) + 1) = ((i * (room + 1) : Nat) : Int) := by push_cast; rfl
  have q2 : IntKind.i64.wrap ((i : Int) * ((room : Int) + 1)) = (i : Int) * ((room : Int) + 1) := IntWalk.i64_in _ (by rw [e2]; omega)
  rw [← hz]
  have HS := Lib.hid hS; have HD := Lib.hid hD; have Hz := Lib.hid hz; have E2 := Lib.hid e2; have Hb0 := Lib.hid hb0
  clear hS hD hz e2 hm hb0
  go_enter Tryd.func22, Tryd.ntmps22
  go_wp2_with fail
  go_region_held3 (fun w' => w'.cell? ⟨sb, 0, none⟩ = some (.pointer (some ⟨d, 0, none⟩)) ∧ w'.cell? ⟨sb, 1, none⟩ = some (.int .i64 room)) (first | exact ⟨c0, c1⟩ | exact ⟨d0, d1⟩ | assumption)
    (first
      | (go_at_call 36
         rw [E2.out]
         refine (dwrite_any d L D (i * (room + 1) : Nat) _ [0] _ (HD.out.below Hb0.out) (Bys.drewN (bys_one w 0 (.int .u8 0) rfl 5) 1) hw).mono ?_
         rintro e w2 ⟨rfl, hD2, hc2⟩
         have hS2 := hc2.blk (HS.out.kept Hb0.out) (fun h => by rcases h with h | h; exact hne.1 h; exact hne.2 h)
         have hh : w2.cell? ⟨sb, 0, none⟩ = some (.pointer (some ⟨d, 0, none⟩)) ∧ w2.cell? ⟨sb, 1, none⟩ = some (.int .i64 room) := ⟨hS2.cell 0, hS2.cell 1⟩
         rw [show ([0] : List UInt8).length = 1 from rfl, ← Hz.out]))
  have HS2 := Lib.hid hS2; have HD2 := Lib.hid hD2
  have HC2 := Lib.hid (show Chg (Tri sb d L) w w2 from (Chg.of_below Hb0.out).trans (hc2.mono fun b h => .inr h))
  have g2 : w2.cell? ⟨sb, 2, none⟩ = some (.slice la n lc) := hS2.cell 2
  have g3 : w2.cell? ⟨sb, 3, none⟩ = some (.bool dead) := hS2.cell 3
  have f3 := hS2.free 3
  clear hS2 hD2 hc2 hh q1 q2 c0 c1 d0 d1
  by_cases h0 : z = 0
  · subst h0
    go_wp2
    go_ret
    exact ⟨rfl, by simpa using HS2.out, HD2.out, HC2.out⟩
  · have t0 : (z != 0) = true := by simpa using h0
    clear h0
    go_wp2
    go_ret
    refine ⟨rfl, ?_, HD2.out.chg (chg1 _ _ _ _) (fun e => hne.1 e.symm) (fun e => hne.2 e.symm), HC2.out.set (.inl rfl) _⟩
    rw [t0, Bool.or_true]
    exact HS2.out.set 3 (.bool true)
def slotB (D : DiskS) (room i : Nat) : Nat → List UInt8
  | 0 => []
  | k + 1 => slotB D room i k ++ D.sector (i * (room + 1) + 1 + k)
theorem slotB_len (D : DiskS) (room i k : Nat) : (slotB D room i k).length = k * 32 := by
  induction k with
  | zero => rfl
  | succ k ih => rw [slotB, List.length_append, ih, sector_len]; omega
def readR (D : DiskS) (room i : Nat) : Sto.Rec × Int × Bool :=
  if D.dead = true then (Sto.Rec.free, 8, false)
  else if D.f (i * (room + 1) * 32) ≠ 1 then (Sto.Rec.free, 0, false)
  else match Sto.parse (slotB D room i room) with
    | some r => (r, 0, false)
    | none => (Sto.Rec.free, D.wres (i * (room + 1) : Nat) 1, true)
def recV (r : Sto.Rec) (dv : Value) : Array Value := #[.bool r.is, .string r.name, .int .i64 r.num, dv]
def ReadPost (sb d L room n lc i : Nat) (la : Option Addr) (dead : Bool) (D : DiskS) (w : World) (e : Ending) (w' : World) : Prop :=
  ∃ dv, e = .returned (.tuple #[.agg (recV (readR D room i).1 dv), .int .i64 (readR D room i).2.1]) ∧ OwnX 5 w' w.heap.size dv (readR D room i).1.data ∧
      Blk w' sb (stV d room la n lc (dead || ((readR D room i).2.2 && ((readR D room i).2.1 != 0)))) 61 ∧ IsDisk w' d L (if (readR D room i).2.2 = true then D.wr (i * (room + 1) : Nat) [0] else D) ∧ Chg (Tri sb d L) w w'
set_option maxRecDepth 20000 in
set_option maxHeartbeats 4000000 in
theorem read_calls (sb d L room n lc i : Nat) (la : Option Addr) (dead : Bool) (D : DiskS) (w : World) (hS : Blk w sb (stV d room la n lc dead) 61) (hD : IsDisk w d L D) (hne : sb ≠ d ∧ sb ≠ L) (hi : n ≤ i) (hi2 : i ≤ 1024) (hr : room ≤ 1024) (hr1 : 1 ≤ room) (hin : (i + 1) * (room + 1) ≤ D.n) (hw : D.writes < 4611686018427387904) :
    Calls Tryd.prog 20 #[.pointer (some ⟨sb, 0, none⟩), .int .i64 i] w (ReadPost sb d L room n lc i la dead D w) := by
  have c0 : w.cell? ⟨sb, 0, none⟩ = some (.pointer (some ⟨d, 0, none⟩)) := by rw [hS.cell]; rfl
  have c1 : w.cell? ⟨sb, 1, none⟩ = some (.int .i64 room) := by rw [hS.cell]; rfl
  have hmul : (i + 1) * (room + 1) = i * (room + 1) + (room + 1) := by rw [Nat.add_mul, Nat.one_mul]
  have hn2 : D.n ≤ 4096 := by obtain ⟨_, _, _, _, _, _, _, _, _, h, _⟩ := hD; exact h
  obtain ⟨m, hm⟩ : ∃ m, m = i * (room + 1) := ⟨_, rfl⟩
  have e2 : (i : Int) * ((room : Int) + 1) = (m : Int) := by rw [hm]; push_cast; rfl
  rw [hmul, ← hm] at hin
  have hb0 : Below w.heap.size w ((w.alloc (.cells #[.bool false, .string { data := #[] }, .int .i64 0, .slice none 0 0] 63)).drew) := below_drewN ((Below.refl _ _).alloc (Nat.le_refl _) _) 1
  have hR0 := Blk.new w #[.bool false, .string { data := #[] }, .int .i64 0, .slice none 0 0] 63
  have d0 : (w.alloc (.cells #[.bool false, .string { data := #[] }, .int .i64 0, .slice none 0 0] 63)).cell? ⟨sb, 0, none⟩ = some (.pointer (some ⟨d, 0, none⟩)) := by rw [(hS.alloc _).cell]; rfl
  have d1 : (w.alloc (.cells #[.bool false, .string { data := #[] }, .int .i64 0, .slice none 0 0] 63)).cell? ⟨sb, 1, none⟩ = some (.int .i64 room) := by rw [(hS.alloc _).cell]; rfl
  have q1 : IntKind.i64.wrap ((room : Int) + 1) = (room : Int) + 1 := IntWalk.i64_in _ (by omega)
  have q2 : IntKind.i64.wrap ((i : Int) * ((room : Int) + 1)) = (i : Int) * ((room : Int) + 1) := IntWalk.i64_in _ (by rw [e2]; omega)
  have HS := Lib.hid hS; have HD := Lib.hid hD; have Hb0 := Lib.hid hb0; have E2 := Lib.hid e2; have Hm := Lib.hid hm; have HR0 := Lib.hid hR0
  clear hS hD hb0 e2 hm hR0 hmul
  go_enter Tryd.func20, Tryd.ntmps20
  go_wp2_with fail
  go_region_held3 (fun w' => w'.cell? ⟨sb, 0, none⟩ = some (.pointer (some ⟨d, 0, none⟩)) ∧ w'.cell? ⟨sb, 1, none⟩ = some (.int .i64 room)) (first | exact ⟨d0, d1⟩ | assumption)
    (first
      | (go_at_call 34
         rw [E2.out]
         refine (dread_any d L D (m : Nat) _ (HD.out.below Hb0.out)).mono ?_
         rintro e w2 ⟨rv, rfl, hrv, hb2⟩
         have hbox2 := HR0.out.drew.below hb2 (by simp)
         have hb2 : Below w.heap.size w w2 := Hb0.out.trans (hb2.mono (by simp))
         have hS2 := HS.out.kept hb2
         have hh : w2.cell? ⟨sb, 0, none⟩ = some (.pointer (some ⟨d, 0, none⟩)) ∧ w2.cell? ⟨sb, 1, none⟩ = some (.int .i64 room) := ⟨hS2.cell 0, hS2.cell 1⟩))
  have hR2 : Blk w2 w.heap.size #[.bool false, .string { data := #[] }, .int .i64 0, .slice none 0 0] 63 := hbox2
  have HRV := Lib.hid hrv; have HS2 := Lib.hid hS2; have HB2 := Lib.hid hb2; have HR2 := Lib.hid hR2
  have d0 : w2.cell? ⟨w.heap.size, 0, none⟩ = some (.bool false) := hR2.cell 0
  have d1 : w2.cell? ⟨w.heap.size, 1, none⟩ = some (.string { data := #[] }) := hR2.cell 1
  have d2 : w2.cell? ⟨w.heap.size, 2, none⟩ = some (.int .i64 0) := hR2.cell 2
  have d3 : w2.cell? ⟨w.heap.size, 3, none⟩ = some (.slice none 0 0) := hR2.cell 3
  have f0 := hR2.free 0; have f1 := hR2.free 1; have f2 := hR2.free 2; have f3 := hR2.free 3
  clear hrv hS2 hb2 hR2 hh hbox2 c0 c1 q1 q2
  have HF := Lib.hid (chg4 w2 w.heap.size)
  by_cases hdead : D.dead = true
  · have Hrr := Lib.hid (show D.rres (m : Nat) = 8 from by unfold DiskS.rres; rw [if_pos (DiskS.may_yes (by omega)), if_pos hdead])
    have HRD := Lib.hid (show readR D room i = (Sto.Rec.free, 8, false) from by unfold readR; rw [if_pos hdead])
    clear hdead
    rw [Hrr.out]
    go_wp2
    refine bodyPost_ret (v := .tuple #[.agg #[.bool false, .string { data := #[] }, .int .i64 0, .slice none 0 0], .int .i64 8]) (by simp [results, Tryd.results20, go_sem, d0, d1, d2, d3]) rfl ?_
    unfold ReadPost
    rw [HRD.out]
    exact ⟨_, rfl, OwnX.nil _ _ _, by simpa using (HS2.out.chg4 (show sb ≠ w.heap.size from Nat.ne_of_lt HS.out.lt) _ _ _ _), IsDisk.chg (HD.out.below HB2.out) (HF.out _ _ _ _) (fun e => by have := HD.out.lt.1; omega) (fun e => by have := HD.out.lt.2; omega), chg_new2 (Chg.of_below HB2.out) (HF.out _ _ _ _) (fun k hk => by omega)⟩
  · have hdead : D.dead = false := by simpa using hdead
    have Hrr := Lib.hid (show D.rres (m : Nat) = 0 from by unfold DiskS.rres; rw [if_pos (DiskS.may_yes (by omega)), if_neg (by rw [hdead]; decide)])
    have Hrd := Lib.hid (show D.rd (m : Nat) = D.sector m from by unfold DiskS.rd; rw [if_pos ⟨DiskS.may_yes (by omega), hdead⟩]; simp)
    have hrv := HRV.out
    rw [Hrd.out] at hrv
    obtain ⟨ra, rc, rfl⟩ := hrv.bys.eq_slice
    obtain ⟨b1, o1, e1, g0⟩ := Bys.byte hrv.bys 0 (by rw [sector_len]; decide)
    subst e1
    have g0 : w2.cell? ⟨b1, o1, none⟩ = some (.int .u8 ((D.f (m * 32)).toNat : Nat)) := by
      have e : (D.sector m).getD 0 0 = D.f (m * 32) := by rw [List.getD_eq_getElem?_getD, sector_get _ _ _ (by decide)]; rfl
      rw [← e]; exact g0
    rw [sector_len, Hrr.out]
    have Hdead := Lib.hid hdead
    clear hrv hdead
    by_cases h1 : D.f (m * 32) = 1
    · rw [h1] at g0
      have g0 : w2.cell? ⟨b1, o1, none⟩ = some (.int .u8 1) := g0
      have H1 := Lib.hid h1
      clear h1
      go_wp2_with fail
      have Q1 := Lib.hid (show IntKind.i64.wrap ((room : Int) + 1) = (room : Int) + 1 from IntWalk.i64_in _ (by omega))
      have Q2 := Lib.hid (show IntKind.i64.wrap ((i : Int) * ((room : Int) + 1)) = (i : Int) * ((room : Int) + 1) from IntWalk.i64_in _ (by rw [E2.out]; omega))
      have Q3 := Lib.hid (show IntKind.i64.wrap ((i : Int) * ((room : Int) + 1) + 1) = (i : Int) * ((room : Int) + 1) + 1 from IntWalk.i64_in _ (by rw [E2.out]; omega))
      have Q4 := Lib.hid (fun (k : Nat) (hk : k < room) => (show IntKind.i64.wrap ((i : Int) * ((room : Int) + 1) + 1 + (k : Int)) = (i : Int) * ((room : Int) + 1) + 1 + (k : Int) from IntWalk.i64_in _ (by rw [E2.out]; omega)))
      have hs2 := HB2.out.size
      have hlt2 := HR2.out.lt
      have hltD := HD.out.lt
      have hltS := HS.out.lt
      go_loopw [8, 43] (fun u v wr => ∃ k : Nat, k ≤ room ∧ v = .int .i64 k ∧ OwnX 5 wr w2.heap.size u (slotB D room i k) ∧ Below w2.heap.size w2 wr) (fun _ v _ => room - (intOf v).toNat)
      case atStart => exact ⟨0, by omega, rfl, OwnX.nil _ _ _, Below.refl _ _⟩
      case round =>
        clear d0 d1 d2 d3 f0 f1 f2 f3 g0
        obtain ⟨k, hk, rfl, ho, hb⟩ := hrel
        have hSr := HS2.out.kept hb
        by_cases hkr : k < room
        · have a0 : wr.cell? ⟨sb, 0, none⟩ = some (.pointer (some ⟨d, 0, none⟩)) := hSr.cell 0
          have a1 : wr.cell? ⟨sb, 1, none⟩ = some (.int .i64 room) := hSr.cell 1
          have q1 := Q1.out; have q2 := Q2.out; have q3 := Q3.out; have q4 := Q4.out k hkr
          have HSr := Lib.hid hSr; have Hbr := Lib.hid hb; have HO := Lib.hid ho
          have hrr := Lib.hid (show D.rres ((m + 1 + k : Nat) : Int) = 0 from by unfold DiskS.rres; rw [if_pos (DiskS.may_yes (by omega)), if_neg (by rw [Hdead.out]; decide)])
          have hrd := Lib.hid (show D.rd ((m + 1 + k : Nat) : Int) = D.sector (m + 1 + k) from by unfold DiskS.rd; rw [if_pos ⟨DiskS.may_yes (by omega), Hdead.out⟩, Int.toNat_natCast])
          have E3 := Lib.hid (show (i : Int) * ((room : Int) + 1) + 1 + (k : Int) = ((m + 1 + k : Nat) : Int) from by rw [E2.out]; push_cast; rfl)
          clear hSr hb ho
          go_wp2_with fail
          go_region_held3 (fun w' => w'.cell? ⟨sb, 0, none⟩ = some (.pointer (some ⟨d, 0, none⟩)) ∧ w'.cell? ⟨sb, 1, none⟩ = some (.int .i64 room)) (first | exact ⟨a0, a1⟩ | assumption)
            (first
              | (go_at_call 34
                 rw [E3.out]
                 refine (dread_any d L D ((m + 1 + k : Nat) : Int) _ ((HD.out.below (HB2.out.trans (Hbr.out.mono hs2))).drewN 1)).mono ?_
                 rintro e w4 ⟨rv, rfl, hrv, hb4⟩
                 have hb4 : Below wr.heap.size wr w4 := of_drew hb4
                 have hS4 := HSr.out.kept hb4
                 have hh : w4.cell? ⟨sb, 0, none⟩ = some (.pointer (some ⟨d, 0, none⟩)) ∧ w4.cell? ⟨sb, 1, none⟩ = some (.int .i64 room) := ⟨hS4.cell 0, hS4.cell 1⟩
                 rw [hrd.out] at hrv
                 rw [hrr.out]))
          have HS4 := Lib.hid hS4; have HB4 := Lib.hid hb4; have HRV4 := Lib.hid hrv.bys
          have hsr := Hbr.out.size
          have hs4 := HB4.out.size
          have hlt8 := HO.out.lt
          have hln := slotB_len D room i k
          have Hfin := Lib.hid (show slotB D room i (k + 1) = slotB D room i k ++ D.sector (m + 1 + k) from by rw [slotB, Hm.out])
          clear hS4 hb4 hrv hh q1 q2 q3 q4 a0 a1
          go_wp2_with (at_builtin; refine appX E8c rfl _ _ rfl (base := w2.heap.size) (news := D.sector (m + 1 + k)) rfl rfl (HO.out.below HB4.out) HRV4.out ?z1 ?z2 ?_)
          case z1 =>
            have hm2 : k * 32 ≤ 1024 * 32 := Nat.mul_le_mul (by omega) (Nat.le_refl _)
            rw [hln, sector_len]; omega
          case z2 => omega
          intro v5 w5 ho5 hg5
          have hb5 := grown_below (Hbr.out.trans (HB4.out.mono hsr)) hg5 (fun q hq => (hlt8 q hq).1)
          rw [← Hfin.out] at ho5
          clear hg5 hln
          go_wp2
          exact ⟨⟨k + 1, by omega, by go_num, ho5, hb5⟩, by simp [intOf] <;> omega⟩
        · obtain rfl : k = room := by omega
          have hbox := HR2.out.kept hb
          have hDr := HD.out.below (HB2.out.trans (hb.mono hs2))
          have hBr := HB2.out.trans (hb.mono hs2)
          have hlen := slotB_len D k i k
          have HBX := Lib.hid hbox; have HDR := Lib.hid hDr; have HBR := Lib.hid hBr; have HO := Lib.hid ho; have HSR := Lib.hid hSr
          have hsr := hb.size
          clear hbox hDr hBr hSr hb
          go_wp2_with fail
          refine (parse_calls _ _ wr HO.out.bys (by
            have hm2 : k * 32 ≤ 1024 * 32 := Nat.mul_le_mul (by omega) (Nat.le_refl _)
            rw [hlen]; omega)).mono ?_
          rintro e w6 ⟨hb6, ⟨r, hp, dv, rfl, hdv⟩ | ⟨hp, v, rfl, hv⟩⟩
          · have HRD := Lib.hid (show readR D k i = (r, 0, false) from by unfold readR; rw [if_neg (by rw [Hdead.out]; decide), ← Hm.out, if_neg (by rw [H1.out]; decide), hp])
            have hri : r.is = true := by
              unfold Sto.parse at hp
              split at hp
              · cases hp
              · split at hp
                · injection hp with hp; rw [← hp]
                · cases hp
            obtain ⟨da, dc, rfl⟩ := hdv.eq_slice
            have hbox6 := HBX.out.kept hb6
            have HB6 := Lib.hid (HBR.out.trans (hb6.mono (Nat.le_trans hs2 hsr)))
            have h6s := hb6.size
            have x0 : w6.cell? ⟨w.heap.size, 0, none⟩ = some (.bool false) := hbox6.cell 0
            have x1 : w6.cell? ⟨w.heap.size, 1, none⟩ = some (.string { data := #[] }) := hbox6.cell 1
            have x2 : w6.cell? ⟨w.heap.size, 2, none⟩ = some (.int .i64 0) := hbox6.cell 2
            have x3 : w6.cell? ⟨w.heap.size, 3, none⟩ = some (.slice none 0 0) := hbox6.cell 3
            have y0 : ∀ o, (w6.alloc o).cell? ⟨w.heap.size, 0, none⟩ = some (.bool false) := fun o => (hbox6.alloc o).cell 0
            have y1 : ∀ o, (w6.alloc o).cell? ⟨w.heap.size, 1, none⟩ = some (.string { data := #[] }) := fun o => (hbox6.alloc o).cell 1
            have y2 : ∀ o, (w6.alloc o).cell? ⟨w.heap.size, 2, none⟩ = some (.int .i64 0) := fun o => (hbox6.alloc o).cell 2
            have y3 : ∀ o, (w6.alloc o).cell? ⟨w.heap.size, 3, none⟩ = some (.slice none 0 0) := fun o => (hbox6.alloc o).cell 3
            have z0 : ∀ o, (w6.alloc o).frozen? ⟨w.heap.size, 0, none⟩ = false := fun o => (hbox6.alloc o).free 0
            have z1 : ∀ o, (w6.alloc o).frozen? ⟨w.heap.size, 1, none⟩ = false := fun o => (hbox6.alloc o).free 1
            have z2 : ∀ o, (w6.alloc o).frozen? ⟨w.heap.size, 2, none⟩ = false := fun o => (hbox6.alloc o).free 2
            have z3 : ∀ o, (w6.alloc o).frozen? ⟨w.heap.size, 3, none⟩ = false := fun o => (hbox6.alloc o).free 3
            have HF6 := Lib.hid (fun (o : Obj) => chg4 (w6.alloc o) w.heap.size)
            have HS6 := Lib.hid (fun (o : Obj) => (HS.out.kept HB6.out).alloc o)
            have HD6 := Lib.hid (fun (o : Obj) => (HD.out.below HB6.out).below ((Below.refl _ _).alloc (Nat.le_refl _) o))
            have HDV := Lib.hid (fun (o : Obj) => hdv.alloc o)
            have HP := Lib.hid hp; have HRI := Lib.hid hri
            clear hp hri hbox6 hb6 hdv
            go_wp2
            refine bodyPost_ret (v := .tuple #[.agg #[.bool true, .string r.name, .int .i64 (r.num : Int), .slice da r.data.length dc], .int .i64 0]) (by simp [results, Tryd.results20, go_sem, y0, y1, y2, y3]) rfl ?_
            unfold ReadPost
            rw [HRD.out]
            refine ⟨.slice da r.data.length dc, by rw [recV, HRI.out], ?_, by simpa using ((HS6.out _).chg4 (show sb ≠ w.heap.size from Nat.ne_of_lt hltS) _ _ _ _), IsDisk.chg (HD6.out _) (HF6.out _ _ _ _ _) (fun e => by omega) (fun e => by omega), chg_new2 (Chg.of_below (HB6.out.alloc HB6.out.size _)) (HF6.out _ _ _ _ _) (fun k hk => by omega)⟩
            exact ((HDV.out _).chg (HF6.out _ _ _ _ _) (fun g hg e => by have := ((HDV.out (.cells #[] 0)).lt g hg).1; omega)).mono (by omega)
          · obtain ⟨vb, vs, vz, vd, rfl, da, dl, dc, rfl⟩ := hv
            have HRD := Lib.hid (show readR D k i = (Sto.Rec.free, D.wres (i * (k + 1) : Nat) 1, true) from by unfold readR; rw [if_neg (by rw [Hdead.out]; decide), ← Hm.out, if_neg (by rw [H1.out]; decide), hp])
            have hbox6 := HBX.out.kept hb6
            have hal : ∀ o, Below w6.heap.size w6 (w6.alloc o) := fun o => (Below.refl _ _).alloc (Nat.le_refl _) o
            have HB6 := Lib.hid (HBR.out.trans (hb6.mono (Nat.le_trans hs2 hsr)))
            have h6s := hb6.size
            have HF6 := Lib.hid (fun (o : Obj) => free_new sb d L k n lc i la dead D (w6.alloc o) ((HS.out.kept HB6.out).alloc o) ((HD.out.below HB6.out).below (hal o)) hne hi hi2 hr hw)
            have HX6 := Lib.hid (fun (o : Obj) => hbox6.alloc o)
            have HAL := Lib.hid hal
            clear hp hbox6 hb6 hal
            go_wp2_with fail
            refine (HF6.out _).mono ?_
            rintro e w7 ⟨rfl, hS7, hD7, hc7⟩
            have hdn : ¬ Tri sb d L w.heap.size := fun e => by rcases e with e | e | e <;> omega
            have hbox7 := hc7.blk (HX6.out _) hdn
            have x0 : w7.cell? ⟨w.heap.size, 0, none⟩ = some (.bool false) := hbox7.cell 0
            have x1 : w7.cell? ⟨w.heap.size, 1, none⟩ = some (.string { data := #[] }) := hbox7.cell 1
            have x2 : w7.cell? ⟨w.heap.size, 2, none⟩ = some (.int .i64 0) := hbox7.cell 2
            have x3 : w7.cell? ⟨w.heap.size, 3, none⟩ = some (.slice none 0 0) := hbox7.cell 3
            have z0 := hbox7.free 0; have z1 := hbox7.free 1; have z2 := hbox7.free 2; have z3 := hbox7.free 3
            obtain ⟨z, hz⟩ : ∃ z, z = D.wres (i * (k + 1) : Nat) 1 := ⟨_, rfl⟩
            rw [← hz] at hS7 ⊢
            have Hz := Lib.hid hz; have HS7 := Lib.hid hS7; have HD7 := Lib.hid hD7
            have HC7 := Lib.hid (show Chg (Tri sb d L) w w7 from (Chg.of_below (HB6.out.alloc HB6.out.size _)).trans hc7)
            have HF7 := Lib.hid (chg4 w7 w.heap.size)
            clear hz hS7 hD7 hc7 hbox7
            go_wp2
            refine bodyPost_ret (v := .tuple #[.agg #[.bool false, .string { data := #[] }, .int .i64 0, .slice none 0 0], .int .i64 z]) (by simp [results, Tryd.results20, go_sem, x0, x1, x2, x3]) rfl ?_
            unfold ReadPost
            rw [HRD.out, ← Hz.out]
            exact ⟨_, rfl, OwnX.nil _ _ _, by simpa using (HS7.out.chg4 (show sb ≠ w.heap.size from Nat.ne_of_lt hltS) _ _ _ _), IsDisk.chg HD7.out (HF7.out _ _ _ _) (fun e => by omega) (fun e => by omega), chg_new2 HC7.out (HF7.out _ _ _ _) (fun k hk => by omega)⟩
    · have HRD := Lib.hid (show readR D room i = (Sto.Rec.free, 0, false) from by unfold readR; rw [if_neg (by rw [Hdead.out]; decide), ← Hm.out, if_pos h1])
      obtain ⟨u1, hu1⟩ : ∃ u1, u1 = D.f (m * 32) := ⟨_, rfl⟩
      rw [← hu1] at g0 h1
      have t1 : (((u1.toNat : Nat) : Int) != 1) = true := neq_u8 (k := 1) (by decide) h1
      clear hu1 h1
      go_wp2
      refine bodyPost_ret (v := .tuple #[.agg #[.bool false, .string { data := #[] }, .int .i64 0, .slice none 0 0], .int .i64 0]) (by simp [results, Tryd.results20, go_sem, d0, d1, d2, d3]) rfl ?_
      unfold ReadPost
      rw [HRD.out]
      exact ⟨_, rfl, OwnX.nil _ _ _, by simpa using (HS2.out.chg4 (show sb ≠ w.heap.size from Nat.ne_of_lt HS.out.lt) _ _ _ _), IsDisk.chg (HD.out.below HB2.out) (HF.out _ _ _ _) (fun e => by have := HD.out.lt.1; omega) (fun e => by have := HD.out.lt.2; omega), chg_new2 (Chg.of_below HB2.out) (HF.out _ _ _ _) (fun k hk => by omega)⟩
end Go.Proofs.YtdlkghdfkjdajaaDoor
end
