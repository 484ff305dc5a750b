/- The walk of the statement GfSquares. -/
import Derived.Test.YtdciakbichgddaaGfOrderWalk
import Derived.Test.YtdciakbichgddaaMem2
import Derived.Deep.DeepCutAuto
namespace Go.Proofs.Ytdciakbichgddaa
open Go Go.RowKit Go.Mem Gf

theorem hx1 {w : World} {b c : Nat} {arr : Array Value} {t : TypeId} {i : Nat} {v : Value} (h : Blk w c arr t) (hne : b ≠ c) : Blk (w.setCell ⟨b, i, none⟩ v) c arr t := h.set_other hne v
theorem gpow_two (a : UInt8) : gpow a 2 = gm a a := by
  show gm (gm 1 a) a = gm a a
  rw [one_gm]
theorem xor_of (a b : Nat) (ha : a < 256) (hb : b < 256) : UInt8.ofNat (a ^^^ b) = UInt8.ofNat a ^^^ UInt8.ofNat b := Gf.ext (by
  rw [UInt8.toNat_xor, toNat_of a ha, toNat_of b hb, toNat_of _ (xor_lt a b ha hb)])
theorem powN_sq_xor (a b : Nat) (ha : a < 256) (hb : b < 256) : powN (a ^^^ b) 2 = powN a 2 ^^^ powN b 2 := by
  show (gpow (.ofNat (a ^^^ b)) 2).toNat = (gpow (.ofNat a) 2).toNat ^^^ (gpow (.ofNat b) 2).toNat
  rw [xor_of a b ha hb, gpow_two, gpow_two, gpow_two, gm_sq_xor, UInt8.toNat_xor]
theorem powN_add (a : Nat) (n m : Int) (hn : 0 ≤ n) (hm : 0 ≤ m) : mul (powN a n) (powN a m) = powN a (n + m) := by
  rw [powN, powN, powN, ← toNat_gm, gpow_add]
  congr 2; omega
theorem info8 : (Try.prog.info? 5).map (fun i => (i.zero, i.size, i.bytes)) = some (some (.int .u8 0), 1, 1) := by kernel_rfl
set_option maxRecDepth 20000 in
set_option maxHeartbeats 2000000 in
theorem gfSquares_walk (w : World) (a : Nat) (ha : a < 256) (b : Nat) (hb : b < 256) (n : Int) (_hn : -9223372036854775808 ≤ n ∧ n ≤ 9223372036854775807)
    (m : Int) (_hm : -9223372036854775808 ≤ m ∧ m ≤ 9223372036854775807) (vl : Value) (xs : List UInt8) (hl : Bys w vl xs) (vr : Value) (ys : List UInt8) (hr : Bys w vr ys) :
    Calls Try.prog 7 #[.int .u8 a, .int .u8 b, .int .i64 n, .int .i64 m, vl, vr] w fun e w' => e = .returned (.bool true) ∧ Below w.heap.size w w' := by
  clear _hn _hm
  go_enter Try.func7, Try.ntmps7
  go_wp2_with fail
  refine (new_calls _).mono ?_
  rintro e w1 ⟨rfl, hf, hbl⟩
  go_wp2_with fail
  refine (within_calls n 600 (by decide) (by decide) _).mono ?_
  rintro e w2 ⟨rfl, rfl⟩
  obtain ⟨hn1, hn2⟩ := within_range n 600 (by decide)
  generalize within n 600 = n' at *
  go_wp2_with fail
  refine (within_calls m 600 (by decide) (by decide) _).mono ?_
  rintro e w2 ⟨rfl, rfl⟩
  obtain ⟨hm1, hm2⟩ := within_range m 600 (by decide)
  generalize within m 600 = m' at *
  go_wp2_with fail
  refine (cut8_calls vl xs 30 _ (hl.below hbl)).mono ?_
  rintro e w2 ⟨⟨vl', rfl, hl'⟩, rfl⟩
  go_wp2_with fail
  refine (cut8_calls vr ys 30 _ (hr.below hbl)).mono ?_
  rintro e w2 ⟨⟨vr', rfl, hr'⟩, rfl⟩
  generalize hxs : xs.take 30 = xs' at *
  generalize hys : ys.take 30 = ys' at *
  have l1 : xs'.length ≤ 30 := by rw [← hxs]; simp; omega
  have l2 : ys'.length ≤ 30 := by rw [← hys]; simp; omega
  clear hxs hys hl hr
  obtain ⟨al, cl, rfl, hx⟩ := id hl'
  clear hx
  obtain ⟨ar, cr, rfl, hx⟩ := id hr'
  clear hx
  obtain ⟨la, hla'⟩ : ∃ n, n = xs'.length := ⟨_, rfl⟩
  obtain ⟨lb, hlb'⟩ : ∃ n, n = ys'.length := ⟨_, rfl⟩
  rw [← hla'] at hl' l1 ⊢
  rw [← hlb'] at hr' l2 ⊢
  have Hla := Lib.hid hla'; have Hlb := Lib.hid hlb'; clear hla' hlb'
  obtain ⟨k, hk⟩ : ∃ k : Nat, k = min la lb := ⟨_, rfl⟩
  have hmin : (if lb < la then (lb : Int) else (la : Int)) = (k : Int) := by rw [hk]; split <;> omega
  have hk30 : k ≤ 30 := by omega
  have Hk := Lib.hid hk; clear hk
  have hmk := fun (w : World) => make_bytes (P := Try.prog) 31 5 Try.underlying31 info8 k (by omega) w
  go_upto_region 7 with fail
  go_cut [15, 16] (fun s15 s16 wx => ∃ bx bz : Nat, bx ≠ bz ∧ w1.heap.size ≤ bx ∧ w1.heap.size ≤ bz ∧ s15 = .slice (some ⟨bx, 0, none⟩) k k ∧ s16 = .slice (some ⟨bz, 0, none⟩) k k ∧
    Blk wx bx (Array.replicate k (.int .u8 0)) 5 ∧ Blk wx bz (Array.replicate k (.int .u8 0)) 5 ∧ Below w1.heap.size w1 wx)
  case first =>
    go_region
    all_goals go_wp2_with fail
    all_goals go_meet
    · refine ⟨_, _, ?_, ?_, ?_, rfl, rfl, ?_, ?_, ?_⟩
      · show w1.heap.size ≠ w1.heap.size + 1; omega
      · exact Nat.le_refl _
      · omega
      · exact ((Blk.new w1 _ _).alloc _)
      · exact Blk.new_at _ _ _ _ (by simp)
      · exact (((Below.refl _ _).alloc (Nat.le_refl _) _).alloc (by simp) _).drew
    · refine ⟨_, _, ?_, ?_, ?_, rfl, rfl, ?_, ?_, ?_⟩
      · show w1.heap.size + 1 ≠ w1.heap.size; omega
      · omega
      · exact Nat.le_refl _
      · exact Blk.new_at _ _ _ _ (by simp)
      · exact ((Blk.new w1 _ _).alloc _)
      · exact (((Below.refl _ _).alloc (Nat.le_refl _) _).alloc (by simp) _).drew
  case rest =>
    obtain ⟨bx, bz, hne, hbx, hbz, rfl, rfl, hx, hz, hbel⟩ := hcut
    clear hmk hmin
    go_wp2_with fail
    go_loopw [17] (fun v wr => ∃ (i : Nat) (ax az : Array Value), i ≤ k ∧ v = .int .i64 i ∧ Blk wr bx ax 5 ∧ Blk wr bz az 5 ∧ Part ax k i (xs'.take k).reverse ∧ Part az k i (ys'.take k).reverse ∧ Below w1.heap.size w1 wr)
      (fun v _ => k - (intOf v).toNat)
    case atStart => exact ⟨0, _, _, by omega, rfl, hx, hz, Part.zero _ _, Part.zero _ _, hbel⟩
    case round =>
      clear hx hz hbel
      obtain ⟨i, ax, az, hi, rfl, hx, hz, px, pz, hbel⟩ := hrel
      have Px := Lib.hid px; have Pz := Lib.hid pz; clear px pz
      by_cases h0 : i < k
      · obtain ⟨q, hq⟩ : ∃ q, q = k - 1 - i := ⟨_, rfl⟩
        have hq1 : q < la := by have := Hk.out; omega
        have hq2 : q < lb := by have := Hk.out; omega
        have hqk : (k : Int) - 1 - (i : Int) = (q : Int) := by omega
        have Hq := Lib.hid hq; clear hq
        obtain ⟨b1, o1, u, rfl, Hu, c1, hu⟩ := (hl'.below hbel).at q (by have := Hla.out; omega)
        obtain ⟨b2, o2, v, rfl, Hv, c2, hv⟩ := (hr'.below hbel).at q (by have := Hlb.out; omega)
        have Hu2 : Hid ((xs'.take k).reverse[i]? = some u) := by
          have e1 := Hu.out; have e4 := Hq.out; have e2 := Hla.out; have e3 := Hk.out
          show _ = _
          rw [List.getElem?_reverse (by simp; omega), List.getElem?_take, if_pos (by simp; omega), ← e1]
          congr 1; simp; omega
        have Hv2 : Hid ((ys'.take k).reverse[i]? = some v) := by
          have e1 := Hv.out; have e4 := Hq.out; have e2 := Hlb.out; have e3 := Hk.out
          show _ = _
          rw [List.getElem?_reverse (by simp; omega), List.getElem?_take, if_pos (by simp; omega), ← e1]
          congr 1; simp; omega
        obtain ⟨n1, d1⟩ := Px.out.2.1 i h0
        obtain ⟨n2, d2⟩ := Pz.out.2.1 i h0
        have c3 : wr.cell? ⟨bx, i, none⟩ = some (.int .u8 n1) := by rw [hx.cell]; exact d1
        have c4 : wr.cell? ⟨bz, i, none⟩ = some (.int .u8 n2) := by rw [hz.cell]; exact d2
        have f3 : wr.frozen? ⟨bx, i, none⟩ = false := hx.free i
        have f4 : wr.frozen? ⟨bz, i, none⟩ = false := hz.free i
        clear d1 d2
        go_wp2
        go_region
        go_wp2
        exact ⟨⟨i + 1, _, _, by omega, by go_num, ((hx.set _ _).set_other (fun e => hne e.symm) _).drew, ((hx1 hz hne).set _ _).drew, Px.out.step h0 Hu2.out, Pz.out.step h0 Hv2.out,
          ((hbel.setCell hbx _).setCell hbz _).drew⟩, by simp [intOf]; omega⟩
      · obtain rfl : i = k := by omega
        have gx : Bys wr (.slice (some ⟨bx, 0, none⟩) i i) (xs'.take i).reverse := Px.out.bys hx (by have := Hla.out; have := Hk.out; simp; omega) (maxLen_ge (by omega))
        have gz : Bys wr (.slice (some ⟨bz, 0, none⟩) i i) (ys'.take i).reverse := Pz.out.bys hz (by have := Hlb.out; have := Hk.out; simp; omega) (maxLen_ge (by omega))
        have el := hl'.below hbel
        have er := hr'.below hbel
        have hfw := hf.below hbel hf.lt
        have edot : gdot (xs'.take i).reverse (ys'.take i).reverse = gdot xs' ys' := by
          have e1 := Hla.out; have e2 := Hlb.out; have e3 := Hk.out
          rw [gdot_reverse _ _ (by simp; omega), gdot_take _ _ _ (by omega)]
        generalize (xs'.take i).reverse = X at *
        generalize (ys'.take i).reverse = Z at *
        have t1 : ((powN (a ^^^ b) 2 : Int) == ((powN a 2 ^^^ powN b 2 : Nat) : Int)) = true := by rw [powN_sq_xor a b ha hb]; simp
        have t2 : ((mul (powN a n') (powN a m') : Int) == (powN a (n' + m') : Int)) = true := by rw [powN_add a n' m' hn1 hm1]; simp
        have t3 : (((gdot xs' ys').toNat : Int) == ((gdot ys' xs').toNat : Int)) = true := by rw [gdot_comm]; simp
        have t4 : (((gdot X Z).toNat : Int) == ((gdot xs' ys').toNat : Int)) = true := by rw [edot]; simp
        have t5 : (((gdot [] ys').toNat : Int) == 0) = true := by simp [gdot]
        clear edot
        have p1 := powN_lt a n'
        have p2 := powN_lt a m'
        have p3 := powN_lt a 2
        have p4 := powN_lt b 2
        have p5 := xor_lt a b ha hb
        clear hx hz hbx hbz hl' hr'
        have gn := Bys.nil wr
        go_wp2_with fail
        refine (add_calls a b ha hb _).mono ?_
        rintro e w2 ⟨rfl, rfl⟩
        go_wp2_with fail
        refine (fpow_calls _ _ _ p5 _ hfw).mono ?_
        rintro e w2 ⟨rfl, d, rfl⟩
        go_wp2_with fail
        refine (fpow_calls _ _ _ ha _ (hfw.drewN _)).mono ?_
        rintro e w2 ⟨rfl, d2, rfl⟩
        go_wp2_with fail
        refine (fpow_calls _ _ _ hb _ (hfw.drewN _)).mono ?_
        rintro e w2 ⟨rfl, d3, rfl⟩
        go_wp2_with fail
        refine (add_calls _ _ p3 p4 _).mono ?_
        rintro e w2 ⟨rfl, rfl⟩
        go_wp2_with fail
        refine (fpow_calls _ _ _ ha _ (hfw.drewN _)).mono ?_
        rintro e w2 ⟨rfl, d4, rfl⟩
        go_wp2_with fail
        refine (fpow_calls _ _ _ ha _ (hfw.drewN _)).mono ?_
        rintro e w2 ⟨rfl, d5, rfl⟩
        go_wp2_with fail
        refine (fmul_calls _ _ _ p1 p2 _ (hfw.drewN _)).mono ?_
        rintro e w2 ⟨rfl, d6, rfl⟩
        go_wp2_with fail
        refine (fpow_calls _ _ _ ha _ (hfw.drewN _)).mono ?_
        rintro e w2 ⟨rfl, d7, rfl⟩
        go_wp2_with fail
        refine (fdot_calls _ _ _ _ _ _ (hfw.drewN _) (el.drewN _) (er.drewN _)).mono ?_
        rintro e w2 ⟨rfl, d8, rfl⟩
        go_wp2_with fail
        refine (fdot_calls _ _ _ _ _ _ (hfw.drewN _) (er.drewN _) (el.drewN _)).mono ?_
        rintro e w2 ⟨rfl, d9, rfl⟩
        go_wp2_with fail
        refine (fdot_calls _ _ _ _ _ _ (hfw.drewN _) (gx.drewN _) (gz.drewN _)).mono ?_
        rintro e w2 ⟨rfl, d10, rfl⟩
        go_wp2_with fail
        refine (fdot_calls _ _ _ _ _ _ (hfw.drewN _) (el.drewN _) (er.drewN _)).mono ?_
        rintro e w2 ⟨rfl, d11, rfl⟩
        go_wp2_with fail
        refine (fdot_calls _ _ _ _ _ _ (hfw.drewN _) (gn.drewN _) (er.drewN _)).mono ?_
        rintro e w2 ⟨rfl, d12, rfl⟩
        go_wp2_with fail
        refine (wakes04_calls _).mono ?_
        rintro e w2 ⟨rfl, rfl⟩
        go_wp2
        go_ret
        exact ⟨rfl, below_drewN (hbl.trans (hbel.mono (Nat.le_of_lt hf.lt))) _⟩
end Go.Proofs.Ytdciakbichgddaa
