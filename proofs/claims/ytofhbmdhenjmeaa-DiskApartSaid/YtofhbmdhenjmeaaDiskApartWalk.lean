/- The walk of the statement DiskApart. -/
import Derived.Test.YtofhbmdhenjmeaaDiskLaw
namespace Go.Proofs.Ytofhbmdhenjmeaa
open Go Go.RowKit Go.Mem Gf
attribute [local go_sem ↓] Go.wp_at_zero Go.wp_at_succ
set_option maxRecDepth 100000 in
set_option maxHeartbeats 8000000 in
theorem diskApart_walk (w : World) (n : Int) (_hn : -9223372036854775808 ≤ n ∧ n ≤ 9223372036854775807) (i : Int) (_hi : -9223372036854775808 ≤ i ∧ i ≤ 9223372036854775807) (k : Int) (_hk : -9223372036854775808 ≤ k ∧ k ≤ 9223372036854775807)
    (vb : Value) (xs : List UInt8) (hb : Bys w vb xs) :
    Calls Try.prog 4 #[.int .i64 n, .int .i64 i, .int .i64 k, vb] w fun e w' => e = .returned (.bool true) ∧ Below w.heap.size w w' := by
  clear _hn _hi _hk
  go_enter Try.func4, Try.ntmps4
  go_wp2_with fail
  refine (within_calls n 10 (by decide) (by decide) _).mono ?_
  rintro e w1 ⟨rfl, rfl⟩
  obtain ⟨hn1, hn2⟩ := within_range n 10 (by decide)
  go_wp2_with fail
  generalize hq : 2 + within n 10 = q at *
  obtain ⟨n', rfl⟩ : ∃ k : Nat, q = k := ⟨q.toNat, by omega⟩
  have n1 : 2 ≤ n' := by omega
  have n2 : n' ≤ 11 := by omega
  clear hq hn1 hn2
  refine (within_calls i n' (by omega) (by omega) _).mono ?_
  rintro e w1 ⟨rfl, rfl⟩
  obtain ⟨hn1, hn2⟩ := within_range i n' (by omega)
  go_wp2_with fail
  generalize hq : within i n' = q at *
  obtain ⟨i', rfl⟩ : ∃ k : Nat, q = k := ⟨q.toNat, by omega⟩
  have i1 : i' < n' := by omega
  clear hq hn1 hn2
  refine (within_calls k n' (by omega) (by omega) _).mono ?_
  rintro e w1 ⟨rfl, rfl⟩
  obtain ⟨hn1, hn2⟩ := within_range k n' (by omega)
  go_wp2_with fail
  generalize hq : within k n' = q at *
  obtain ⟨k', rfl⟩ : ∃ k : Nat, q = k := ⟨q.toNat, by omega⟩
  have k1 : k' < n' := by omega
  clear hq hn1 hn2
  refine (cut8_calls vb xs 32 w hb).mono ?_
  rintro e w1 ⟨⟨vb', rfl, hb⟩, rfl⟩
  generalize hbs : xs.take 32 = bs at *
  have lbs : bs.length ≤ 32 := by rw [← hbs]; simp; omega
  clear hbs
  go_wp2_with fail
  refine (dnew_calls n' w (by omega) (by omega)).mono ?_
  rintro e w1 ⟨d, L, rfl, hD, hd1, hd2, hb1⟩
  have hs := hb1.size
  go_wp2_with fail
  have hal : Below w1.heap.size w1 (w1.alloc (.cells #[.int .u8 9, .int .u8 9, .int .u8 9] 5)) := (Below.refl _ _).alloc (Nat.le_refl _) _
  refine (dwrite_calls d L _ i' _ [9, 9, 9] _ (hD.below hal) (bys_lit _ rfl (by decide) 3 rfl) i1 (by decide) rfl (by show 0 < _; omega)).mono ?_
  rintro e w2 ⟨rfl, hD, hc⟩
  have hb2 : Below w.heap.size w w2 := (hb1.trans (hal.mono hs)).trans (hc.below (by simp; omega) (fun k hk => by rcases hk with rfl | rfl; exact hd1; exact hd2))
  clear hal hc hb1
  have hs := hb2.size
  rw [if_neg (by simp [DiskS.fresh])]
  go_wp2_with fail
  have hst : ((DiskS.fresh n').write i' [9, 9, 9]).stops = false := by rw [DiskS.write_plain rfl]; rfl
  have hwr : ((DiskS.fresh n').write i' [9, 9, 9]).writes = 1 := by rw [DiskS.write_plain rfl]; rfl
  have hnn : ((DiskS.fresh n').write i' [9, 9, 9]).n = n' := by rw [DiskS.write_plain rfl]; rfl
  have hde : ((DiskS.fresh n').write i' [9, 9, 9]).dead = false := by rw [DiskS.write_plain rfl]; rfl
  refine (dwrite_calls d L _ k' _ bs _ hD (hb.below hb2) (by rw [hnn]; exact k1) lbs hde (by rw [hwr]; decide)).mono ?_
  rintro e w3 ⟨rfl, hD, hc⟩
  have hb3 : Below w.heap.size w w3 := hb2.trans (hc.below (by omega) (fun k hk => by rcases hk with rfl | rfl; exact hd1; exact hd2))
  rw [if_neg (by rw [hst]; simp)]
  obtain ⟨S, hS⟩ : ∃ S, S = ((DiskS.fresh n').write i' [9, 9, 9]).write k' bs := ⟨_, rfl⟩
  rw [← hS] at hD
  have Ssec := Lib.hid (show ∀ j, S.sector j = if j = k' then rowL 32 (padF bs) else if j = i' then rowL 32 (padF [9, 9, 9]) else rowL 32 (fun _ => 0) from fun j => by
    rw [hS, sector_write hst, sector_write rfl]; rfl)
  have Sn := Lib.hid (show S.n = n' from by rw [hS, DiskS.write_plain hst]; exact hnn)
  have Sd := Lib.hid (show S.dead = false from by rw [hS, DiskS.write_plain hst]; exact hde)
  have Sw := Lib.hid (show S.writes = 2 from by rw [hS, DiskS.write_plain hst]; show _ + 1 = 2; rw [hwr])
  clear hS hst hwr hnn hde hc hs hb2
  have hb := hb.below hb3
  have hs := hb3.size
  have hmk := make32
  go_wp2_with fail
  go_loopw [11] (fun v wr => ∃ j : Nat, j ≤ n' ∧ v = .int .i64 j ∧ Below w3.heap.size w3 wr) (fun v _ => n' - (intOf v).toNat)
  case atStart => exact ⟨0, by omega, rfl, Below.refl _ _⟩
  case round =>
    obtain ⟨j, hj, rfl, hbel⟩ := hrel
    have hDr := hD.below hbel
    have hbr := hb.below hbel
    obtain ⟨ab, cb, e⟩ := hbr.eq_slice
    subst e
    by_cases h0 : j < n'
    · have HB0 := Lib.hid (show Blk (wr.alloc (.cells (rowArr 32 fun _ => 0) 5)) wr.heap.size (rowArr 32 fun _ => 0) 5 from Blk.new _ _ _)
      have ha0 : Below wr.heap.size wr (wr.alloc (.cells (rowArr 32 fun _ => 0) 5)) := (Below.refl _ _).alloc (Nat.le_refl _) _
      have HB1 : Hid (Blk ((wr.alloc (.cells (rowArr 32 fun _ => 0) 5)).alloc (.cells #[.int .u8 9, .int .u8 9, .int .u8 9] 5)) wr.heap.size (rowArr 32 fun _ => 0) 5) := HB0.out.alloc _
      have Hlit := Lib.hid (show Bys ((wr.alloc (.cells (rowArr 32 fun _ => 0) 5)).alloc (.cells #[.int .u8 9, .int .u8 9, .int .u8 9] 5)) (.slice (some ⟨wr.heap.size + 1, 0, none⟩) 3 3) [9, 9, 9] from by
        have := bys_lit (w := wr.alloc (.cells (rowArr 32 fun _ => 0) 5)) (t := 5) (bs := [9, 9, 9]) #[.int .u8 9, .int .u8 9, .int .u8 9] rfl (by decide) 3 rfl
        simpa using this)
      by_cases ji : j = i'
      · have t1 : ((j : Int) == (i' : Int)) = true := by simp; omega
        have Hji := Lib.hid ji
        clear ji
        go_wp2_with (refine copy_row (o := ⟨some 64, _, _, _, _, _⟩) rfl (.tmp 62) (.tmp 63) 27 27 rfl 5 Try.underlying27 E8s rfl rfl HB1.out Hlit.out (by decide) (by decide) ?_)
        intro wx hX hbx
        have hbx : Below wr.heap.size wr wx := (ha0.alloc (by simp) _).trans hbx
        by_cases jk : j = k'
        · have t2 : ((j : Int) == (k' : Int)) = true := by simp; omega
          have Hjk := Lib.hid jk
          clear jk
          have hax : Below wx.heap.size wx (wx.alloc (.cells (rowArr 32 fun _ => 0) 5)) := (Below.refl _ _).alloc (Nat.le_refl _) _
          have hbs := (hbr.below hbx).below hax
          have HB2 := Lib.hid (show Blk (wx.alloc (.cells (rowArr 32 fun _ => 0) 5)) wx.heap.size (rowArr 32 fun _ => 0) 5 from Blk.new _ _ _)
          go_wp2_with (refine copy_row (o := ⟨some 71, _, _, _, _, _⟩) rfl (.tmp 69) (.tmp 70) 27 27 rfl 5 Try.underlying27 E8s rfl rfl HB2.out hbs ?c1 ?c2 ?_)
          intro wy hY hby
          have hby : Below wx.heap.size wx wy := hax.trans hby
          have hwy : Aft wr wy := Aft.trans hbx hby
          have Hsec := Lib.hid (show rowL 32 (padF bs) = S.sector j from by rw [Ssec.out, if_pos Hjk.out])
          have hrow := Blk.row (f := padF bs) hY (by decide)
          clear hax hby hbs hX hbx
          go_wp2_with fail
          refine (dread_calls d L S j wy (hDr.below hwy) (by rw [Sn.out]; exact h0) Sd.out).mono ?_
          rintro e wz ⟨v, rfl, hown, hbz⟩
          go_wp2_with fail
          refine (same8_yes _ _ _ _ _ hown.bys (hrow.below hbz) Hsec.out.symm).mono ?_
          rintro e x2 ⟨rfl, dr, rfl⟩
          go_wp2
          exact ⟨⟨j + 1, by omega, by go_num, ((Aft.trans hbel (Aft.trans hwy hbz)).drewN dr)⟩, by simp [intOf]; omega⟩
        · have t2 : ((j : Int) == (k' : Int)) = false := by simp; omega
          have Hjk := Lib.hid jk
          clear jk
          have Hsec := Lib.hid (show rowL 32 (padF [9, 9, 9]) = S.sector j from by rw [Ssec.out, if_neg Hjk.out, if_pos Hji.out])
          have hrow := Blk.row (f := padF [9, 9, 9]) hX (by decide)
          go_wp2_with fail
          refine (dread_calls d L S j wx (hDr.below hbx) (by rw [Sn.out]; exact h0) Sd.out).mono ?_
          rintro e wz ⟨v, rfl, hown, hbz⟩
          go_wp2_with fail
          refine (same8_yes _ _ _ _ _ hown.bys (hrow.below hbz) Hsec.out.symm).mono ?_
          rintro e x2 ⟨rfl, dr, rfl⟩
          go_wp2
          exact ⟨⟨j + 1, by omega, by go_num, ((Aft.trans hbel (Aft.trans hbx hbz)).drewN dr)⟩, by simp [intOf]; omega⟩
      · have t1 : ((j : Int) == (i' : Int)) = false := by simp; omega
        have Hji := Lib.hid ji
        clear ji
        by_cases jk : j = k'
        · have t2 : ((j : Int) == (k' : Int)) = true := by simp; omega
          have Hjk := Lib.hid jk
          clear jk
          have HB2 := Lib.hid (show Blk ((wr.alloc (.cells (rowArr 32 fun _ => 0) 5)).alloc (.cells (rowArr 32 fun _ => 0) 5)) (wr.heap.size + 1) (rowArr 32 fun _ => 0) 5 from Blk.new_at _ _ _ _ (by simp))
          have hax := ha0.alloc (by simp) (.cells (rowArr 32 fun _ => 0) 5)
          have hbs := hbr.below hax
          go_wp2_with (refine copy_row (o := ⟨some 71, _, _, _, _, _⟩) rfl (.tmp 69) (.tmp 70) 27 27 rfl 5 Try.underlying27 E8s rfl rfl HB2.out hbs ?c1 ?c2 ?_)
          intro wy hY hby
          have hwy : Aft wr wy := hax.trans (hby.mono (by omega))
          have Hsec := Lib.hid (show rowL 32 (padF bs) = S.sector j from by rw [Ssec.out, if_pos Hjk.out])
          have hrow := Blk.row (f := padF bs) hY (by decide)
          clear hax hby hbs
          go_wp2_with fail
          refine (dread_calls d L S j wy (hDr.below hwy) (by rw [Sn.out]; exact h0) Sd.out).mono ?_
          rintro e wz ⟨v, rfl, hown, hbz⟩
          go_wp2_with fail
          refine (same8_yes _ _ _ _ _ hown.bys (hrow.below hbz) Hsec.out.symm).mono ?_
          rintro e x2 ⟨rfl, dr, rfl⟩
          go_wp2
          exact ⟨⟨j + 1, by omega, by go_num, ((Aft.trans hbel (Aft.trans hwy hbz)).drewN dr)⟩, by simp [intOf]; omega⟩
        · have t2 : ((j : Int) == (k' : Int)) = false := by simp; omega
          have Hjk := Lib.hid jk
          clear jk
          have Hsec := Lib.hid (show rowL 32 (fun _ => 0) = S.sector j from by rw [Ssec.out, if_neg Hjk.out, if_neg Hji.out])
          go_wp2_with fail
          refine (dread_calls d L S j _ (hDr.below ha0) (by rw [Sn.out]; exact h0) Sd.out).mono ?_
          rintro e wz ⟨v, rfl, hown, hbz⟩
          go_wp2_with fail
          refine (same8_yes _ _ _ _ _ hown.bys ((Blk.row HB0.out (by decide)).below hbz) Hsec.out.symm).mono ?_
          rintro e x2 ⟨rfl, dr, rfl⟩
          go_wp2
          exact ⟨⟨j + 1, by omega, by go_num, ((Aft.trans hbel (Aft.trans ha0 hbz)).drewN dr)⟩, by simp [intOf]; omega⟩
    · obtain rfl : n' = j := by omega
      have hmk3 := make33
      have W : Below w.heap.size w wr := hb3.trans (hbel.mono hs)
      clear hmk h0
      go_wp2_with fail
      refine (dread_bad d L S n' wr hDr (by rw [Sn.out]; omega)).mono ?_
      rintro e w4 ⟨rfl, rfl⟩
      go_wp2_with fail
      refine (dwrite_bad d L S (-1) _ [] wr hDr (Bys.nil _) (.inl (by omega))).mono ?_
      rintro e w4 ⟨rfl, rfl⟩
      go_wp2_with fail
      have ha : Below wr.heap.size wr (wr.alloc (.cells (rowArr 33 fun _ => 0) 5)) := (Below.refl _ _).alloc (Nat.le_refl _) _
      have hD3 := hDr.below ha
      have W3 := Aft.trans W ha
      refine (dwrite_bad d L S 0 _ (rowL 33 fun _ => 0) _ hD3 (Blk.row (Blk.new _ _ _) (by decide)) (.inr (by rw [rowL_len]; decide))).mono ?_
      rintro e w4 ⟨rfl, rfl⟩
      go_wp2_with fail
      refine (dwrites_calls d L S _ hD3).mono ?_
      rintro e w4 ⟨rfl, rfl⟩
      rw [Sw.out]
      go_wp2_with fail
      refine (dlen_calls d L S _ hD3).mono ?_
      rintro e w4 ⟨rfl, rfl⟩
      rw [Sn.out]
      have tn : ((n' : Int) == (n' : Int)) = true := by simp
      go_wp2_with fail
      refine (wakes10_calls _).mono ?_
      rintro e w4 ⟨rfl, hb4⟩
      go_wp2
      go_ret
      exact ⟨rfl, Aft.trans W3 hb4⟩
end Go.Proofs.Ytofhbmdhenjmeaa
