/- The reference's Decode. -/
import Derived.Test.YtdciakbichgddaaRsDecBad
import Derived.Test.YtdciakbichgddaaMatRefInv
namespace Go.Proofs.Ytdciakbichgddaa
open Go Go.RowKit Go.Mem Gf
attribute [local go_sem ↓] Go.wp_at_zero Go.wp_at_succ
/-- blobs from which a decode may be made -/
def GoodB (k n : Nat) (z : Nat → Int) (ln : Nat → Nat) : Prop := ∀ i, i < k → 0 ≤ z i ∧ z i < n ∧ ln i = ln 0 ∧ ∀ q, q < i → z q ≠ z i

set_option maxRecDepth 20000 in
set_option maxHeartbeats 4000000 in
theorem rdecode_calls (bb ob cb k n : Nat) (z : Nat → Int) (ln : Nat → Nat) (R : Mx) (w : World) (_hcb1 : k ≤ cb) (k1 : 1 ≤ k) (hkn : k ≤ n) (n2 : n ≤ 16) (hm : ln 0 ≤ 1000)
    (hel : ∀ i, i < k → w.cell? ⟨bb, ob + i * 2, none⟩ = some (.int .i64 (z i)) ∧ ∃ a c, w.cell? ⟨bb, ob + i * 2 + 1, none⟩ = some (.slice a (ln i) c) ∧ Bys w (.slice a (ln i) c) (rowL (ln i) (R i))) :
    Calls Try.prog 71 #[.slice (some ⟨bb, ob, none⟩) k cb, .int .i64 k, .int .i64 n] w fun e w' =>
      (¬ GoodB k n z ln ∧ e = .returned (.tuple #[.slice none 0 0, .bool false]) ∧ Below w.heap.size w w') ∨
      (GoodB k n z ln ∧ ∃ v' Y, e = .returned (.tuple #[v', .bool true]) ∧ IsInv k (fun i j => CM k (z i).toNat j) Y ∧ OwnB 5 w' w.heap.size v' (flatR k (ln 0) (MM k Y R)) ∧ Below w.heap.size w w') := by
  have Hel := Lib.hid hel
  clear hel
  have tk : ((k : Int) != (k : Int)) = false := by simp
  go_enter Try.func71, Try.ntmps71
  go_wp2_with fail
  refine (rmatrix_calls k n k1 hkn n2 w).mono ?_
  rintro e w1 ⟨vm, rfl, hM, hb1⟩
  obtain ⟨am, cm, rfl⟩ := hM.mat
  have lw1 := hb1.size
  go_wp2_with fail
  go_loopw [9, 28] (fun o v wr => ∃ (i : Nat) (vs : List Value), i ≤ k ∧ v = .int .i64 i ∧ wr.ownsRow w1.heap.size 31 1 o i vs ∧
      (∀ j, j < i → ∃ a c, vs[j]? = some (.slice a k c) ∧ Bys w1 (.slice a k c) (rowL k (CM k (z j).toNat))) ∧
      (∀ j, j < i → 0 ≤ z j ∧ z j < n ∧ ln j = ln 0 ∧ ∀ q, q < j → z q ≠ z j) ∧ Below w1.heap.size w1 wr) (fun _ v _ => k - (intOf v).toNat)
  case atStart => exact ⟨0, [], by omega, rfl, World.ownsRow_nil _ _ _ _, fun j hj => by omega, fun j hj => by omega, Below.refl _ _⟩
  case round =>
    obtain ⟨i, vs, hi, rfl, ho, hvs, hgd, hbel⟩ := hrel
    have Hvs := Lib.hid hvs; have Hgd := Lib.hid hgd
    clear hvs hgd
    have hbw := Aft.trans hb1 hbel
    by_cases h0 : i < k
    · have HC := Lib.hid (show ∀ j, j < k → ∀ x, Aft w x → x.cell? ⟨bb, ob + j * 2, none⟩ = some (.int .i64 (z j)) from fun j hj x hx => by
        obtain ⟨e1, _⟩ := Hel.out j hj
        exact (Below.cell hx (p := ⟨bb, ob + j * 2, none⟩) (World.block_lt_of_cell? w _ e1)).trans e1)
      have c1 := HC.out i h0 wr hbw
      obtain ⟨_, a, c, e2, _⟩ := Hel.out i h0
      have c2 : wr.cell? ⟨bb, ob + i * 2 + 1, none⟩ = some (.slice a (ln i) c) := (Below.cell hbw (p := ⟨bb, ob + i * 2 + 1, none⟩) (World.block_lt_of_cell? w _ e2)).trans e2
      obtain ⟨_, a0, cc0, e4, _⟩ := Hel.out 0 (by omega)
      have c3 : wr.cell? ⟨bb, ob + 1, none⟩ = some (.slice a0 (ln 0) cc0) := (Below.cell hbw (p := ⟨bb, ob + 1, none⟩) (World.block_lt_of_cell? w ⟨bb, ob + 1, none⟩ (by simpa using e4))).trans (by simpa using e4)
      have i1 : (0 : Int) < (k : Int) := by omega
      have i1' : 0 < k := by omega
      have i2 : (0 : Int) ≤ (i : Int) := by omega
      have i3 : (i : Int) < (k : Int) := by omega
      clear e2 e4
      by_cases g1 : z i < 0
      · have t1 : decide (z i < 0) = true := by simp; omega
        have hng : ¬ GoodB k n z ln := fun h => by have := (h i h0).1; omega
        have Hng := Lib.hid hng
        clear g1 hng
        go_wp2_with fail
        go_quiet (fail)
        go_wp2
        go_ret2
        exact .inl ⟨Hng.out, rfl, below_drewN hbw _⟩
      · have t1 : decide (z i < 0) = false := by simp; omega
        by_cases g2 : (n : Int) ≤ z i
        · have t3 : decide ((n : Int) ≤ z i) = true := by simp; omega
          have hng : ¬ GoodB k n z ln := fun h => by have := (h i h0).2.1; omega
          have Hng := Lib.hid hng
          clear g1 g2 hng
          go_wp2_with fail
          go_quiet (fail)
          go_wp2
          go_ret2
          exact .inl ⟨Hng.out, rfl, below_drewN hbw _⟩
        · have t3 : decide ((n : Int) ≤ z i) = false := by simp; omega
          by_cases g3 : ln i = ln 0
          · have t4 : ((ln i : Int) != (ln 0 : Int)) = false := by simp [g3]
            have t5 : (ln i != ln 0) = false := by simp [g3]
            have Hg1 := Lib.hid (show 0 ≤ z i by omega); have Hg2 := Lib.hid (show z i < n by omega); have Hg3 := Lib.hid g3
            clear g1 g2 g3
            go_wp2_with fail
            go_quiet (fail)
            go_wp2_with fail
            obtain ⟨wo, hwo⟩ : ∃ wo, wo = wr.drewN nq := ⟨_, rfl⟩
            have hbo : Aft w wo := by rw [hwo]; exact below_drewN hbw _
            have hbo1 : Below w1.heap.size w1 wo := by rw [hwo]; exact below_drewN hbel _
            have ho : wo.ownsRow w1.heap.size 31 1 u9 i vs := by rw [hwo]; exact ho
            rw [← hwo]
            clear hwo c1 c2 c3 hbel hbw
            go_loopw [11] (fun v wi => ∃ j : Nat, j ≤ i ∧ v = .int .i64 j ∧ (∀ q, q < j → z q ≠ z i) ∧ ∃ dr, wi = wo.drewN dr) (fun v _ => i - (intOf v).toNat)
            case atStart => exact ⟨0, by omega, rfl, fun q hq => by omega, 0, rfl⟩
            case round =>
              obtain ⟨j, hj, rfl, hdj, dr, rfl⟩ := hrel
              have Hdj := Lib.hid hdj
              clear hdj
              by_cases hji : j < i
              · have c5 : wo.cell? ⟨bb, ob + i * 2, none⟩ = some (.int .i64 (z i)) := HC.out i h0 wo hbo
                have c6 : wo.cell? ⟨bb, ob + j * 2, none⟩ = some (.int .i64 (z j)) := HC.out j (by omega) wo hbo
                have c5' : (wo.drewN dr).cell? ⟨bb, ob + i * 2, none⟩ = some (.int .i64 (z i)) := c5
                have c6' : (wo.drewN dr).cell? ⟨bb, ob + j * 2, none⟩ = some (.int .i64 (z j)) := c6
                have j2 : (0 : Int) ≤ (j : Int) := by omega
                have j3 : (j : Int) < (k : Int) := by omega
                have Hji := Lib.hid hji
                by_cases hzz : z j = z i
                · have t6 : (z j == z i) = true := by simp [hzz]
                  have t7 : (z i == z i) = true := by simp
                  have hng : ¬ GoodB k n z ln := fun h => (h i h0).2.2.2 j hji hzz
                  have Hng := Lib.hid hng
                  clear hzz hng
                  go_wp2_with fail
                  go_quiet (fail)
                  go_wp2
                  go_ret2
                  exact .inl ⟨Hng.out, rfl, below_drewN (below_drewN hbo _) _⟩
                · have t6 : (z j == z i) = false := by simp; exact hzz
                  have Hzz := Lib.hid hzz
                  clear hzz
                  go_wp2_with fail
                  go_quiet (fail)
                  go_wp2
                  exact ⟨⟨j + 1, Nat.succ_le_of_lt Hji.out, by go_num, fun q hq => by
                    by_cases e : q = j
                    · subst e; exact Hzz.out
                    · exact Hdj.out q (by omega), _, rfl⟩, by have := Hji.out; simp [intOf]; omega⟩
              · obtain rfl : i = j := by omega
                obtain ⟨u, hu⟩ : ∃ u : Nat, z i = u := ⟨(z i).toNat, by have := Hg1.out; omega⟩
                have hun : u < n := by have := Hg2.out; omega
                obtain ⟨bx, ox, rx, cx, rfl, d1, hrow⟩ := hM.row u hun
                have d2 : wo.cell? ⟨bx, ox + u, none⟩ = some (.slice rx k cx) := (hbo1.cell (p := ⟨bx, ox + u, none⟩) (World.block_lt_of_cell? w1 _ d1)).trans d1
                have c5 : wo.cell? ⟨bb, ob + i * 2, none⟩ = some (.int .i64 (u : Int)) := by rw [← hu]; exact HC.out i h0 wo hbo
                have c5' : (wo.drewN dr).cell? ⟨bb, ob + i * 2, none⟩ = some (.int .i64 (u : Int)) := c5
                have d2' : (wo.drewN dr).cell? ⟨bx, ox + u, none⟩ = some (.slice rx k cx) := d2
                have i4 : (i : Int) < (k : Int) := by omega
                have u1 : (0 : Int) ≤ (u : Int) := by omega
                have u2 : (u : Int) < (n : Int) := by omega
                have lwo := hbo1.size
                have Hu := Lib.hid hu
                clear d1 hu
                go_wp2_with (at_builtin; refine app_one ER rfl _ _ rfl (base := w1.heap.size) (n := i) (xs := vs) (.slice rx k cx) rfl rfl ?q1 rfl (by exact ho) ?q2 (by decide) ?q3 ?_)
                case q1 => rfl
                case q2 => omega
                case q3 => exact lwo
                intro v' w5 hown' hgrow
                go_wp2_with fail
                refine ⟨⟨i + 1, vs ++ [.slice rx k cx], by omega, by go_num, hown', fun j hj => ?_, fun j hj => ?_, Below.grown (below_drewN hbo1 _) hgrow lwo (fun b hb => (ho.lt b hb).1)⟩, by simp [intOf]; omega⟩
                · have hvl : vs.length = i := by have := ho.1; omega
                  rcases Nat.lt_or_ge j i with hji | hji
                  · obtain ⟨a', c', h1, h2⟩ := Hvs.out j hji
                    exact ⟨a', c', by rw [List.getElem?_append_left (by omega)]; exact h1, h2⟩
                  · obtain rfl : i = j := by omega
                    exact ⟨rx, cx, by rw [List.getElem?_append_right (by omega), hvl, Nat.sub_self]; rfl, by rw [Hu.out]; exact hrow⟩
                · rcases Nat.lt_or_ge j i with hji | hji
                  · exact Hgd.out j hji
                  · obtain rfl : i = j := by omega
                    exact ⟨Hg1.out, Hg2.out, Hg3.out, Hdj.out⟩
          · have t4 : ((ln i : Int) != (ln 0 : Int)) = true := by simp; omega
            have t5 : (ln i != ln 0) = true := by simp; exact g3
            have hng : ¬ GoodB k n z ln := fun h => g3 (h i h0).2.2.1
            have Hng := Lib.hid hng
            clear g1 g2 g3 hng
            go_wp2_with fail
            go_quiet (fail)
            go_wp2
            go_ret2
            exact .inl ⟨Hng.out, rfl, below_drewN hbw _⟩
    · obtain rfl : k = i := by omega
      have hG : GoodB k n z ln := Hgd.out
      have HG := Lib.hid hG
      have hrows : Rws wr u9 (rowsL k k fun i j => CM k (z i).toNat j) := rws_of_own ho (rowsL_len _ _ _) fun j x hj => by
        have hjk : j < k := by
          rcases Nat.lt_or_ge j k with h | h
          · exact h
          · rw [List.getElem?_eq_none (by rw [rowsL_len]; exact h)] at hj; cases hj
        rw [rowsL_get _ _ _ _ hjk] at hj
        cases hj
        obtain ⟨a', c', h1, h2⟩ := Hvs.out j hjk
        exact ⟨_, h1, h2.below hbel⟩
      have hns := pick_inv k (fun i => (z i).toNat) n (by omega) (by omega) (fun i hi => by have := hG i hi; omega) (fun i j hi hj e => by
        obtain ⟨a1, a2, _, a3⟩ := hG i hi
        obtain ⟨b1, b2, _, b3⟩ := hG j hj
        rcases Nat.lt_trichotomy i j with h | h | h
        · have := b3 i h; omega
        · exact h
        · have := a3 j h; omega)
      have Hns := Lib.hid hns
      clear hG hns ho h0 hi
      go_wp2_with fail
      refine (rinverse_calls _ k _ wr hrows k1 (by omega)).mono ?_
      rintro e w3 (⟨vY, Y, rfl, hY, hI, hb3⟩ | ⟨rfl, hS, hb3⟩)
      · have W := Aft.trans hbw hb3
        clear hrows hbel hbw hb3
        obtain ⟨aY, cY, rfl⟩ := hY.mat
        obtain ⟨m, hm'⟩ : ∃ m, m = ln 0 := ⟨_, rfl⟩
        rw [← hm'] at hm
        have lw3 := W.size
        have Hm := Lib.hid hm'
        obtain ⟨_, a0, cc0, e4, _⟩ := Hel.out 0 (by omega)
        have HC3 := Lib.hid (show ∀ x, Aft w x → x.cell? ⟨bb, ob + 1, none⟩ = some (.slice a0 m cc0) from fun x hx => by
          rw [hm']
          exact (Below.cell hx (p := ⟨bb, ob + 1, none⟩) (World.block_lt_of_cell? w ⟨bb, ob + 1, none⟩ (by simpa using e4))).trans (by simpa using e4))
        obtain ⟨F, hF⟩ : ∃ F, F = MM k Y R := ⟨_, rfl⟩
        have HF := Lib.hid hF
        clear e4 hm' hF
        have i1 : (0 : Int) < (k : Int) := by omega
        have i1' : 0 < k := by omega
        go_wp2_with fail
        go_loopw [14, 15] (fun o v wi => ∃ j : Nat, j ≤ k ∧ v = .int .i64 j ∧ OwnB 5 wi w3.heap.size o (flatR j m F) ∧ Below w3.heap.size w3 wi) (fun _ v _ => k - (intOf v).toNat)
        case atStart => exact ⟨0, by omega, rfl, OwnB.nil _ _ _, Below.refl _ _⟩
        case round =>
          obtain ⟨j, hj, rfl, hown, hbi⟩ := hrel
          by_cases h1 : j < k
          · have c3 := HC3.out wr (Aft.trans W hbi)
            go_wp2_with fail
            obtain ⟨wj, hwj⟩ : ∃ wj, wj = wr := ⟨_, rfl⟩
            rw [← hwj] at hown hbi ⊢
            clear hwj c3
            go_loopw [14, 105] (fun o v wi => ∃ x : Nat, x ≤ m ∧ v = .int .i64 x ∧ OwnB 5 wi w3.heap.size o (flatR j m F ++ rowL x (F j)) ∧ Below w3.heap.size w3 wi) (fun _ v _ => m - (intOf v).toNat)
            case atStart => exact ⟨0, by omega, rfl, by simpa [rowL] using hown, hbi⟩
            case round =>
              clear hown hbi
              obtain ⟨x, hx, rfl, hown, hbi⟩ := hrel
              by_cases h2 : x < m
              · go_wp2_with fail
                obtain ⟨wx, hwx⟩ : ∃ wx, wx = wr := ⟨_, rfl⟩
                rw [← hwx] at hown hbi ⊢
                clear hwx
                go_loopw [17, 110] (fun bv v wi => ∃ i : Nat, i ≤ k ∧ v = .int .i64 i ∧ bv = .int .u8 ((gsum i fun t => gm (Y j t) (R t x)).toNat : Int) ∧ ∃ dr, wi = wx.drewN dr) (fun _ v _ => k - (intOf v).toNat)
                case atStart => exact ⟨0, by omega, rfl, rfl, 0, rfl⟩
                case round =>
                  obtain ⟨i, hi, rfl, rfl, dr, rfl⟩ := hrel
                  by_cases h3 : i < k
                  · obtain ⟨_, a1, cc1, e5, hdat⟩ := Hel.out i h3
                    have hli : ln i = m := by rw [Hm.out]; exact (HG.out i h3).2.2.1
                    rw [hli] at e5 hdat
                    have hbw := Aft.trans W hbi
                    have d0 : wx.cell? ⟨bb, ob + i * 2 + 1, none⟩ = some (.slice a1 m cc1) := (Below.cell hbw (p := ⟨bb, ob + i * 2 + 1, none⟩) (World.block_lt_of_cell? w _ e5)).trans e5
                    obtain ⟨bd, od, rfl, d3⟩ := (hdat.below hbw).elem x h2
                    obtain ⟨bm, om, bm', om', cm', rfl, d1, d2⟩ := (hY.below hbi).elem j i h1 h3
                    have d0' : (wx.drewN dr).cell? ⟨bb, ob + i * 2 + 1, none⟩ = some (.slice (some ⟨bd, od, none⟩) m cc1) := d0
                    have d1' : (wx.drewN dr).cell? ⟨bm, om + j, none⟩ = some (.slice (some ⟨bm', om', none⟩) k cm') := d1
                    have d2' : (wx.drewN dr).cell? ⟨bm', om' + i, none⟩ = some (.int .u8 ((Y j i).toNat : Int)) := d2
                    have d3' : (wx.drewN dr).cell? ⟨bd, od + x, none⟩ = some (.int .u8 ((R i x).toNat : Int)) := d3
                    have hxor := bits_xor_u8 (gsum i fun t => gm (Y j t) (R t x)).toNat (gm (Y j i) (R i x)).toNat (lt256 _) (lt256 _)
                    have i2 : (0 : Int) ≤ (i : Int) := by omega
                    have i3 : (i : Int) < (k : Int) := by omega
                    have j2 : (0 : Int) ≤ (j : Int) := by omega
                    have j3 : (j : Int) < (k : Int) := by omega
                    have x2 : (0 : Int) ≤ (x : Int) := by omega
                    have x3 : (x : Int) < (m : Int) := by omega
                    obtain ⟨wd, hwd⟩ : ∃ wd, wd = wx.drewN dr := ⟨_, rfl⟩
                    rw [← hwd] at d0' d1' d2' d3' ⊢
                    have Hwd := Lib.hid hwd
                    clear hwd
                    have Hc1 := Lib.hid (show ∀ e, Calls Try.prog 33 #[.int .u8 ((Y j i).toNat : Int), .int .u8 ((R i x).toNat : Int)] (wd.drewN e) fun e' w' => e' = .returned (.int .u8 ((gm (Y j i) (R i x)).toNat : Int)) ∧ ∃ q, w' = wd.drewN q from fun e => by
                      rw [toNat_gm]
                      exact quiet_eq (rmul_calls _ _ (lt256 _) (lt256 _) (wd.drewN e)))
                    have Hi := Lib.hid h3
                    have Hs := Lib.hid (show (gsum (i + 1) fun t => gm (Y j t) (R t x)) = (gsum i fun t => gm (Y j t) (R t x)) ^^^ gm (Y j i) (R i x) from rfl)
                    clear hli e5 hdat
                    go_wp2_with fail
                    go_quiet ((go_at_call 33; exact Hc1.out _))
                    go_wp2
                    exact ⟨⟨i + 1, Nat.succ_le_of_lt Hi.out, by go_num, by rw [Hs.out, UInt8.toNat_xor], by rw [Hwd.out]; first | (refine ⟨_, World.drewN_drewN _ _ _⟩; done) | (simp; done) | (simp; exact ⟨_, rfl⟩)⟩, by have := Hi.out; simp [intOf]; omega⟩
                  · obtain rfl : k = i := by omega
                    have hFx : (gsum k fun t => gm (Y j t) (R t x)) = F j x := by rw [HF.out]; rfl
                    rw [hFx]
                    have lx := hbi.size
                    have hfl := flatR_len j m F
                    have hjm : j * m ≤ 16 * 1000 := Nat.mul_le_mul (by omega) hm
                    have Hfl := Lib.hid hfl
                    clear hfl hFx
                    go_wp2_with (at_builtin; refine app_byte E8 rfl _ _ rfl (F j x) rfl rfl ?r1 (by exact hown) ?r2 ?r3 ?_)
                    case r1 => rfl
                    case r2 => have := Hfl.out; simp [rowL_len]; omega
                    case r3 => exact lx
                    intro v' w5 hown' hgrow
                    go_wp2_with fail
                    exact ⟨⟨x + 1, by omega, by go_num, by rw [rowL_succ]; simpa only [List.append_assoc] using hown', Below.grown (below_drewN hbi dr) hgrow lx (fun b hb => (hown.lt b hb).1)⟩, by simp [intOf]; omega⟩
              · obtain rfl : m = x := by omega
                go_wp2_with fail
                exact ⟨⟨j + 1, by omega, by go_num, by rw [flatR_succ]; exact hown, hbi⟩, by simp [intOf]; omega⟩
          · obtain rfl : k = j := by omega
            go_wp2
            go_ret2
            exact .inr ⟨HG.out, _, Y, rfl, hI, by rw [← HF.out, ← Hm.out]; exact hown.mono lw3, Aft.trans W hbi⟩
      · exact absurd hS Hns.out
end Go.Proofs.Ytdciakbichgddaa
