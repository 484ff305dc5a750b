/- The walk of the statement StoreDrops. -/
import Derived.Test.YtmeegdicnfgjfaaDoorStoreWakes
import Derived.Test.YtmeegdicnfgjfaaDoorStoreLab2
namespace Go.Proofs.YtmeegdicnfgjfaaDoor
open Go Go.RowKit Go.Mem Gf
attribute [local go_sem ↓] Go.wp_at_zero Go.wp_at_succ
/-- the names of the statement -/
def nmB (i : Nat) : ByteArray := ⟨#[UInt8.ofNat (97 + i)]⟩
/-- what is read behind the first i Puts -/
def lk : Nat → ByteArray → Option (List UInt8)
  | 0, _ => none
  | i + 1, nm => if nm = nmB i then some [UInt8.ofNat i] else lk i nm
theorem lk_new {i : Nat} (h : i < 4) : lk i (nmB i) = none := by
  rcases i with _ | _ | _ | _ | i
  · rfl
  · decide
  · decide
  · decide
  · omega
theorem lk_old : ∀ n, n ≤ 4 → ∀ i, i < n → lk n (nmB i) = some [UInt8.ofNat i] := by decide
theorem lk_off {nm : ByteArray} (h : ∀ i, i < 4 → nm ≠ nmB i) : ∀ n, n ≤ 4 → lk n nm = none
  | 0, _ => rfl
  | n + 1, hn => by rw [lk, if_neg (h n (by omega)), lk_off h n (by omega)]
theorem nmB_ne : ∀ i, i < 4 → ∀ j, j < 4 → i ≠ j → nmB i ≠ nmB j := by decide
set_option maxRecDepth 20000 in
theorem dname_calls (i : Nat) (hi : i < 4) (w : World) : Calls Tryd.prog 31 #[.int .i64 i] w fun e w' => e = .returned (.string (nmB i)) ∧ Below w.heap.size w w' := by
  have hcv : ∀ (c : UInt8) (w : World), (convert 24 9 (.slice (some ⟨w.heap.size, 0, none⟩) 1 1)).run Tryd.prog (w.alloc (.cells #[.int .u8 (c.toNat : Int)] 5)) = .ok (.string ⟨#[c]⟩) (w.alloc (.cells #[.int .u8 (c.toNat : Int)] 5)) := fun c w =>
    conv_string (bs := [c]) (bys_lit #[.int .u8 (c.toNat : Int)] rfl (by show 1 ≤ 1000; decide) 1 rfl)
  have h97 : (convert 24 9 (.slice (some ⟨w.heap.size, 0, none⟩) 1 1)).run Tryd.prog (w.alloc (.cells #[.int .u8 97] 5)) = .ok (.string ⟨#[97]⟩) (w.alloc (.cells #[.int .u8 97] 5)) := hcv 97 w
  have h98 : (convert 24 9 (.slice (some ⟨w.heap.size, 0, none⟩) 1 1)).run Tryd.prog (w.alloc (.cells #[.int .u8 98] 5)) = .ok (.string ⟨#[98]⟩) (w.alloc (.cells #[.int .u8 98] 5)) := hcv 98 w
  have h99 : (convert 24 9 (.slice (some ⟨w.heap.size, 0, none⟩) 1 1)).run Tryd.prog (w.alloc (.cells #[.int .u8 99] 5)) = .ok (.string ⟨#[99]⟩) (w.alloc (.cells #[.int .u8 99] 5)) := hcv 99 w
  have h100 : (convert 24 9 (.slice (some ⟨w.heap.size, 0, none⟩) 1 1)).run Tryd.prog (w.alloc (.cells #[.int .u8 100] 5)) = .ok (.string ⟨#[100]⟩) (w.alloc (.cells #[.int .u8 100] 5)) := hcv 100 w
  clear hcv
  rcases i with _ | _ | _ | _ | i
  · go_enter Tryd.func31, Tryd.ntmps31
    go_wp2
    go_ret
    exact ⟨rfl, (Below.refl _ _).alloc (Nat.le_refl _) _⟩
  · go_enter Tryd.func31, Tryd.ntmps31
    go_wp2
    go_ret
    exact ⟨rfl, (Below.refl _ _).alloc (Nat.le_refl _) _⟩
  · go_enter Tryd.func31, Tryd.ntmps31
    go_wp2
    go_ret
    exact ⟨rfl, (Below.refl _ _).alloc (Nat.le_refl _) _⟩
  · go_enter Tryd.func31, Tryd.ntmps31
    go_wp2
    go_ret
    exact ⟨rfl, (Below.refl _ _).alloc (Nat.le_refl _) _⟩
  · omega
theorem bys_byte (w : World) (c : UInt8) (z : Int) (hz : z = (c.toNat : Int)) : Bys (w.alloc (.cells #[.int .u8 z] 5)) (.slice (some ⟨w.heap.size, 0, none⟩) 1 1) [c] := by
  subst hz
  exact bys_lit #[.int .u8 (c.toNat : Int)] rfl (by show 1 ≤ 1000; decide) 1 rfl
theorem u8_small {i : Nat} (h : i < 256) : (i : Int) = ((UInt8.ofNat i).toNat : Int) := by rw [UInt8.toNat_ofNat']; omega
theorem nmB_size (i : Nat) : (nmB i).size = 1 := rfl
set_option maxRecDepth 20000 in
set_option maxHeartbeats 4000000 in
theorem storeDrops_walk (w : World) (hT : Tab w) (n0 : Int) (_h0 : -9223372036854775808 ≤ n0 ∧ n0 ≤ 9223372036854775807) (wh0 : Int) (_h1 : -9223372036854775808 ≤ wh0 ∧ wh0 ≤ 9223372036854775807) (p : Int) (_hp : -9223372036854775808 ≤ p ∧ p ≤ 9223372036854775807) (q : Int) (_hq : -9223372036854775808 ≤ q ∧ q ≤ 9223372036854775807) :
    Calls Tryd.prog 8 #[.int .i64 n0, .int .i64 wh0, .int .i64 p, .int .i64 q] w fun e w' => e = .returned (.bool true) ∧ Below w.heap.size w w' := by
  have HT := Lib.hid hT
  clear hT _h0 _h1 _hp _hq
  have hcf : ∀ args w, (callFunc 31 args).run Tryd.prog w = .ok (.enter 31 args) w := fun args w => by kernel_rfl
  go_enter Tryd.func8, Tryd.ntmps8
  go_wp2_with fail
  refine (within_calls n0 4 (by decide) (by decide) _).mono ?_
  rintro e w1 ⟨rfl, rfl⟩
  obtain ⟨hn1, hn2⟩ := within_range n0 4 (by decide)
  obtain ⟨k, hk⟩ : ∃ k : Nat, 1 + within n0 4 = (k : Int) := ⟨(1 + within n0 4).toNat, by omega⟩
  have k1 : 1 ≤ k := by omega
  have k2 : k ≤ 4 := by omega
  obtain ⟨z, hz⟩ : ∃ z, z = within n0 4 := ⟨_, rfl⟩
  rw [← hz] at hn1 hn2 hk ⊢
  clear hz
  go_wp2_with fail
  clear hk hn1 hn2
  refine (within_calls wh0 k (by omega) (by omega) _).mono ?_
  rintro e w1 ⟨rfl, rfl⟩
  obtain ⟨hn1, hn2⟩ := within_range wh0 k (by omega)
  obtain ⟨wh, hwh⟩ : ∃ m : Nat, within wh0 k = (m : Int) := ⟨(within wh0 k).toNat, by omega⟩
  rw [hwh] at hn1 hn2 ⊢
  have hw4 : wh < k := by omega
  clear hwh hn1 hn2
  go_wp2_with fail
  refine (lab_new 12 w w HT.out (Below.refl _ _) (by omega) (by omega)).mono ?_
  rintro e w1 ⟨d, L, rfl, hl1, ht, _⟩
  have Ht := Lib.hid ht; have H1 := Lib.hid hl1
  clear ht hl1
  go_wp2_with fail
  refine (lab_open_uniq H1.out Ht.out (slots := 4) (room := 2) (by omega) (by omega) (by decide) (l := List.replicate 4 Sto.Rec.free) rfl (Holds.fresh 4 2) rfl (uniq_free 4)).mono ?_
  rintro e w2 ⟨sb, lb, rfl, hs2, _⟩
  have hg0 : SGood 0 ⟨2, List.replicate 4 Sto.Rec.free, false, .fresh (4 * (2 + 1))⟩ := SGood.fresh 4 2 (by omega)
  have H2 := Lib.hid hs2; have HG0 := Lib.hid hg0
  clear hs2 hg0
  go_wp2_with fail
  go_loopw [14] (fun v wr => ∃ (i : Nat) (s : St), i ≤ k ∧ v = .int .i64 i ∧ LabS w wr sb lb d L s ∧ SGood i s ∧ s.room = 2 ∧ s.recs.length = 4 ∧ liveN s.recs = i ∧ ∀ nm, Sto.look s.recs nm = lk i nm) (fun v _ => k - (intOf v).toNat)
  case atStart => exact ⟨0, _, by omega, rfl, H2.out, HG0.out, rfl, rfl, live_free 4, look_free 4⟩
  case round => as_aux_lemma =>
    obtain ⟨i, s, hi, rfl, hS, hG, hro, hlen, hlv, hlk⟩ := hrel
    by_cases hik : i < k
    · have ht := slot_of_live (l := s.recs) (by omega)
      have hfit : fitsB s.room (nmB i) [UInt8.ofNat i] = true := fits_of (by rw [nmB_size]; decide) (by show 1 < 1000; decide) (by rw [hro, nmB_size]; show 1 + 1 + 17 ≤ 2 * 32; decide)
      obtain ⟨p1, g1, r1, ro1⟩ := hG.put (by omega) hfit ht
      have hlook1 : ∀ nm, Sto.look (putF s.recs (nmB i) [UInt8.ofNat i]) nm = lk (i + 1) nm := fun nm => by rw [putF_look ht, hlk]; rfl
      have hbn : Sto.best s.recs (nmB i) s.recs.length = none := best_of_look (by rw [hlk]; exact lk_new (by omega))
      have hlv1 : liveN (putF s.recs (nmB i) [UInt8.ofNat i]) = i + 1 := by rw [live_putF ht, hbn, hlv]; rfl
      have hlen1 : (putF s.recs (nmB i) [UInt8.ofNat i]).length = 4 := by rw [putF_len, hlen]
      rw [← r1] at hlook1 hlv1 hlen1
      have hwr := hG.writes
      have hSL := hS.lab.bel.size
      have P1 := Lib.hid p1; have G1 := Lib.hid g1; have RO := Lib.hid (ro1.trans hro); have HLK := Lib.hid hlook1; have HLV := Lib.hid hlv1; have HLE := Lib.hid hlen1; have HSS := Lib.hid hS
      clear hS hG hro hlen hlv hlk p1 g1 r1 ro1 hlook1 hlv1 hlen1 hbn hfit ht
      go_wp2_with fail
      refine (dname_calls i (by omega) wr).mono ?_
      rintro e w3 ⟨rfl, hb3⟩
      have H3 := Lib.hid (HSS.out.step hb3)
      clear hb3
      go_wp2_with fail
      refine (lab_put_new H3.out ((Below.refl _ _).alloc (Nat.le_refl _) (.cells #[.int .u8 (i : Int)] 5)) (nmB i) ⟨w3.heap.size, 0, none⟩ 1 1 [UInt8.ofNat i] (bys_byte _ _ _ (u8_small (by omega))) (Nat.le_refl _) (by rw [nmB_size]; decide) (by show 1 ≤ 1000000; decide) (by omega)).mono ?_
      rintro e w4 ⟨rfl, hs4, _⟩
      rw [P1.out]
      have H4 := Lib.hid hs4
      clear hs4
      go_wp2
      exact ⟨⟨i + 1, _, by omega, by go_num, H4.out, G1.out, RO.out, HLE.out, HLV.out, HLK.out⟩, by simp [intOf]; omega⟩
    · obtain rfl : k = i := by omega
      have hwr := hG.writes
      have hfz : fitsB s.room ⟨#[122, 122]⟩ [] = true := fits_of (by decide) (by decide) (by rw [hro]; decide)
      obtain ⟨R, hR⟩ : ∃ R, R = putR s ⟨#[122, 122]⟩ [] := ⟨_, rfl⟩
      have hlz : lk k ⟨#[122, 122]⟩ = none := lk_off (by decide) k k2
      have hfacts : (k < 4 → R.1 = 0) ∧ (k = 4 → R.1 = 3 ∧ R.2 = s) ∧ SGood (k + 1) R.2 ∧ R.2.room = 2 ∧ R.2.recs.length = 4 ∧ (∀ nm, nm ≠ ⟨#[122, 122]⟩ → Sto.look R.2.recs nm = lk k nm) := by
        rcases Nat.lt_or_ge k 4 with h4 | h4
        · have ht := slot_of_live (l := s.recs) (by omega)
          obtain ⟨p1, g1, r1, ro1⟩ := hG.put (by omega) hfz ht
          rw [← hR] at p1 g1 r1 ro1
          exact ⟨fun _ => p1, fun h => by omega, g1, ro1.trans hro, by rw [r1, putF_len, hlen], fun nm hn => by rw [r1, putF_look ht, if_neg hn, hlk]⟩
        · have := put_full hG.dead hfz (by omega)
          rw [this] at hR
          rw [hR]
          exact ⟨fun h => by omega, fun _ => ⟨rfl, rfl⟩, ⟨hG.holds, hG.uniq, hG.disk, hG.dead, fun r hr => Nat.le_succ_of_le (hG.bnd r hr), by show s.disk.writes ≤ _; omega, hG.stops, hG.room⟩, hro, hlen, fun nm _ => hlk nm⟩
      have hlv4 : k = 4 → liveN R.2.recs = 4 := fun h => by rw [(hfacts.2.1 h).2, hlv, h]
      have HSS := Lib.hid hS; have HF := Lib.hid hfacts; have HRR := Lib.hid hR; have HLV4 := Lib.hid hlv4
      clear hS hG hro hlen hlv hlk hfz hR hlz hfacts hlv4
      go_wp2_with fail
      refine (lab_put HSS.out ⟨#[122, 122]⟩ (.slice none 0 0) [] (Bys.nil _) (by decide) (by decide) (fun _ _ => Bys.nil _) (by omega)).mono ?_
      rintro e w3 ⟨rfl, hs3, _⟩
      rw [← HRR.out] at hs3 ⊢
      obtain ⟨f1, s1⟩ := R
      have H3 := Lib.hid hs3
      have HF2 := Lib.hid HF.out.2.2
      clear hs3 HRR
      simp only at H3 HF HF2 HLV4 ⊢
      go_upto_region 16 with fail
      go_cut [83] (fun s83 wx => s83 = .bool false ∧ LabS w wx sb lb d L s1)
      case first =>
        by_cases h4 : k = 4
        · obtain ⟨rfl, _⟩ := HF.out.2.1 h4
          have HL := Lib.hid (HLV4.out h4)
          subst h4
          clear HF HLV4
          have hnl : s1.names.length = 4 := by unfold St.names; rw [if_neg (by simp [HF2.out.1.dead]), names_live]; exact HL.out
          have hfn : s1.freeN = 0 := by unfold St.freeN; rw [if_neg (by simp [HF2.out.1.dead])]; have := free_live s1.recs; have h1 := HL.out; have h2 := HF2.out.2.2.1; omega
          have hpu : putR s1 ⟨#[97]⟩ [] = (3, s1) := put_full HF2.out.1.dead (fits_of (by decide) (by decide) (by rw [HF2.out.2.1]; decide)) (by rw [HL.out, HF2.out.2.2.1])
          have hw1 := HF2.out.1.writes
          have HNL := Lib.hid hnl; have HFN := Lib.hid hfn; have HPU := Lib.hid hpu
          clear hnl hfn hpu
          go_wp2_with fail
          refine (lab_names H3.out).mono ?_
          rintro e w4 ⟨v, rfl, hv, hb4⟩
          obtain ⟨va, vc, rfl⟩ := hv.eq_slice
          rw [List.length_mergeSort, HNL.out]
          have H4 := Lib.hid (H3.out.step hb4)
          clear hv hb4
          go_wp2_with fail
          refine (sfree_calls _ sb lb d L _ w4 H4.out.st).mono ?_
          rintro e w5 ⟨rfl, hb5⟩
          rw [HFN.out]
          have H5 := Lib.hid (H4.out.step hb5)
          clear hb5
          go_wp2_with fail
          refine (lab_put H5.out ⟨#[97]⟩ (.slice none 0 0) [] (Bys.nil _) (by decide) (by decide) (fun _ _ => Bys.nil _) (by omega)).mono ?_
          rintro e w6 ⟨rfl, hs6, _⟩
          rw [HPU.out] at hs6 ⊢
          have H6 := Lib.hid hs6
          clear hs6
          go_wp2_with fail
          go_meet
          exact ⟨rfl, H6.out⟩
        · obtain rfl := HF.out.1 (by omega)
          have t4 : ((k : Int) == 4) = false := by simp; omega
          have t5 : ¬ (k : Int) = 4 := by omega
          go_wp2_with fail
          go_meet
          exact ⟨rfl, H3.out⟩
      case rest =>
        obtain ⟨rfl, hs4⟩ := hcut
        have H4 := Lib.hid hs4
        have G1 := Lib.hid HF2.out.1; have RO := Lib.hid HF2.out.2.1; have LE := Lib.hid HF2.out.2.2.1
        have LK := Lib.hid HF2.out.2.2.2
        clear H3 HLV4 hs4 HF HF2 hwr hi hik
        go_wp2_with fail
        refine (within_calls p 2 (by decide) (by decide) _).mono ?_
        rintro e w5 ⟨rfl, rfl⟩
        obtain ⟨hn1, hn2⟩ := within_range p 2 (by decide)
        obtain ⟨x, hx⟩ : ∃ x, x = within p 2 := ⟨_, rfl⟩
        rw [← hx] at hn1 hn2 ⊢
        clear hx
        go_wp2_with fail
        refine (lab_stop H4.out x q (by omega)).mono ?_
        rintro e w5 ⟨rfl, hs5, _⟩
        have H5 := Lib.hid hs5
        clear hs5
        go_wp2_with fail
        refine (dname_calls wh (by omega) w5).mono ?_
        rintro e w6 ⟨rfl, hb6⟩
        have H6 := Lib.hid (H5.out.step hb6)
        clear hb6
        have hw1 := G1.out.writes
        go_wp2_with fail
        refine (lab_drop H6.out (nmB wh) (by show s1.disk.writes < _; omega)).mono ?_
        rintro e w7 ⟨rfl, hs7, _⟩
        obtain ⟨R2, hR2⟩ : ∃ R, dropR { s1 with disk := s1.disk.stop x q } (nmB wh) = R := ⟨_, rfl⟩
        have hzz : ∀ j, j < 4 → nmB j ≠ ⟨#[122, 122]⟩ := by decide
        obtain ⟨l2, k3, k4, k5, k6, k7, k8⟩ := torn_drop G1.out x q (name := nmB wh) (by rw [LK.out _ (hzz wh (by omega))]; exact lk_old k k2 wh hw4) hR2
        rw [hR2] at hs7 ⊢
        rw [RO.out] at k3
        have k4' : l2.length = 4 := k4.trans LE.out
        have k8' : ∀ j, j < k → j ≠ wh → Sto.look l2 (nmB j) = some [UInt8.ofNat j] := fun j hj hn => by
          rw [k8 _ (nmB_ne j (by omega) wh (by omega) hn), LK.out _ (hzz j (by omega))]
          exact lk_old k k2 j hj
        have k9 : Sto.look l2 ⟨#[110, 111, 110, 101]⟩ = none := by
          have h1 : ∀ j, j < 4 → (⟨#[110, 111, 110, 101]⟩ : ByteArray) ≠ nmB j := by decide
          rw [k8 _ (h1 wh (by omega)), LK.out _ (by decide)]
          exact lk_off h1 k k2
        obtain ⟨f, s2⟩ := R2
        simp only at k3 k6 k7 hs7
        have H7 := Lib.hid hs7; have K3 := Lib.hid k3; have K4 := Lib.hid k4'; have K5 := Lib.hid k5; have K7 := Lib.hid k7; have K8 := Lib.hid k8'; have K9 := Lib.hid k9
        clear hs7 hR2 k3 k4 k4' k5 k7 k8 k8' k9 LK hw1 hzz
        go_wp2_with fail
        refine (lab_start H7.out).mono ?_
        rintro e w8 ⟨rfl, hs8, _⟩
        have H8 := Lib.hid hs8
        clear hs8
        go_wp2_with fail
        refine (lab_reopen (m := k + 1 + 1) H8.out.lab Ht.out K3.out K5.out (by omega) k6 (by omega) (by omega) K4.out).mono ?_
        rintro e w9 ⟨s5, sb5, lb5, rfl, hs9, g5, t5, _, _⟩
        have hl5 : ∀ nm, Sto.look s5.recs nm = Sto.look l2 nm := t5.look
        have hw5 := g5.writes
        have H9 := Lib.hid hs9; have G5 := Lib.hid g5; have HL5 := Lib.hid hl5
        clear hs9 g5 t5 hl5 k6
        go_wp2_with fail
        go_loopw [17] (fun v wr => ∃ i : Nat, i ≤ k ∧ v = .int .i64 i ∧ LabS w wr sb5 lb5 d L s5) (fun v _ => k - (intOf v).toNat)
        case atStart => exact ⟨0, by omega, rfl, H9.out⟩
        case round => as_aux_lemma =>
          obtain ⟨i, hi, rfl, hS⟩ := hrel
          have HS := Lib.hid hS
          have hb9 := hS.bel.size
          clear hS
          by_cases hik : i < k
          · go_wp2_with fail
            refine (dname_calls i (by omega) wr).mono ?_
            rintro e w10 ⟨rfl, hb10⟩
            have H10 := Lib.hid (HS.out.step hb10)
            clear hb10
            go_wp2_with fail
            refine (sget_calls _ sb5 lb5 d L _ (nmB i) w10 H10.out.st).mono ?_
            rintro e w11 ⟨hb11, v, rfl, hv⟩
            rw [St.get_look G5.out.dead, HL5.out] at hv ⊢
            have H11 := Lib.hid (H10.out.step hb11)
            clear hb11
            by_cases hiw : i = wh
            · subst hiw
              have t1 : ((i : Int) != (i : Int)) = false := by simp
              have t2 : ((i : Int) == (i : Int)) = true := by simp
              rcases (show Sto.look l2 (nmB i) = none ∨ (f = 8 ∧ Sto.look l2 (nmB i) = some [UInt8.ofNat i]) from by
                rcases K7.out with ⟨_, h⟩ | ⟨h0, h | h⟩
                · exact .inl h
                · exact .inl h
                · exact .inr ⟨h0, h⟩) with h | ⟨rfl, h⟩
              · rw [h] at hv ⊢
                simp only [Option.isSome_none]
                clear h hv
                go_wp2
                exact ⟨⟨i + 1, by omega, by go_num, H11.out⟩, by simp [intOf]; omega⟩
              · rw [h] at hv ⊢
                simp only [Option.isSome_some, Option.getD_some] at hv ⊢
                have HV := Lib.hid hv.bys
                clear h hv
                go_wp2_with fail
                refine (same8_yes _ _ [UInt8.ofNat i] [UInt8.ofNat i] _ (HV.out.below ((Below.refl _ _).alloc (Nat.le_refl _) _)) (bys_byte _ _ _ (u8_small (by omega))) rfl).mono ?_
                rintro e w12 ⟨rfl, dr, hw12⟩
                have H12 := Lib.hid (H11.out.step (w' := w12) (by rw [hw12]; exact below_drewN ((Below.refl _ _).alloc (Nat.le_refl _) _) dr))
                clear hw12
                go_wp2
                exact ⟨⟨i + 1, by omega, by go_num, H12.out⟩, by simp [intOf]; omega⟩
            · have t1 : ((i : Int) != (wh : Int)) = true := by simp; omega
              have t2 : ((i : Int) == (wh : Int)) = false := by simp; omega
              have t3 : ¬ (i : Int) = (wh : Int) := by omega
              rw [K8.out i hik hiw] at hv ⊢
              simp only [Option.isSome_some, Option.getD_some] at hv ⊢
              have HV := Lib.hid hv.bys
              clear hv
              go_wp2_with fail
              refine (same8_yes _ _ [UInt8.ofNat i] [UInt8.ofNat i] _ (HV.out.below ((Below.refl _ _).alloc (Nat.le_refl _) _)) (bys_byte _ _ _ (u8_small (by omega))) rfl).mono ?_
              rintro e w12 ⟨rfl, dr, hw12⟩
              have H12 := Lib.hid (H11.out.step (w' := w12) (by rw [hw12]; exact below_drewN ((Below.refl _ _).alloc (Nat.le_refl _) _) dr))
              clear hw12
              go_wp2
              exact ⟨⟨i + 1, by omega, by go_num, H12.out⟩, by simp [intOf]; omega⟩
          · obtain rfl : k = i := by omega
            have hdr : dropR s5 ⟨#[110, 111, 110, 101]⟩ = (4, s5) := by
              unfold dropR
              rw [if_neg (by simp [G5.out.dead]), best_of_look (by rw [HL5.out]; exact K9.out)]
            have HDR := Lib.hid hdr
            clear hdr
            go_wp2_with fail
            refine (lab_drop HS.out ⟨#[110, 111, 110, 101]⟩ (by omega)).mono ?_
            rintro e w10 ⟨rfl, hs10, _⟩
            rw [HDR.out] at hs10 ⊢
            have H10 := Lib.hid hs10
            clear hs10
            go_wp2_with fail
            refine (wakes11_calls _ H10.out.lab.tab).mono ?_
            rintro e w11 ⟨rfl, hb⟩
            go_wp2
            go_ret
            exact ⟨rfl, H10.out.bel.trans (hb.mono H10.out.bel.size)⟩
end Go.Proofs.YtmeegdicnfgjfaaDoor
