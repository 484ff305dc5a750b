/- The walk of the statement StoreAgain. -/
import Derived.Test.YtmeegdicnfgjfaaDoorStoreWakes
import Derived.Test.YtmeegdicnfgjfaaDoorStoreActs
namespace Go.Proofs.YtmeegdicnfgjfaaDoor
open Go Go.RowKit Go.Mem Gf
attribute [local go_sem ↓] Go.wp_at_zero Go.wp_at_succ
theorem dl_foot {sb lb d L : Nat} {w w' : World} (h : Chg (DL d L) w w') : Chg (Foot sb lb d L) w w' := h.mono fun k hk => by
  rcases hk with rfl | rfl
  · exact .inr (.inr (.inl rfl))
  · exact .inr (.inr (.inr rfl))
set_option maxRecDepth 20000 in
set_option maxHeartbeats 4000000 in
theorem storeAgain_walk (w : World) (hT : Tab w) (va : Value) (la : List ActS) (ha : Sls 5 ActSR w va la) (p : Int) (_hp : -9223372036854775808 ≤ p ∧ p ≤ 9223372036854775807) :
    Calls Tryd.prog 7 #[va, .int .i64 p] w fun e w' => e = .returned (.bool true) ∧ Below w.heap.size w w' := by
  have HT := Lib.hid hT
  have hla := ha.len
  obtain ⟨aa, ca, rfl⟩ := ha.eq_slice
  obtain ⟨n, hn⟩ : ∃ n, n = la.length := ⟨_, rfl⟩
  rw [← hn] at ha hla ⊢
  have HA := Lib.hid ha; have HN := Lib.hid hn
  clear hT ha _hp hn
  go_enter Tryd.func7, Tryd.ntmps7
  go_wp2_with fail
  refine (lab_new 35 w w HT.out (Below.refl _ _) (by omega) (by omega)).mono ?_
  rintro e w1 ⟨d, L, rfl, hl1, ht, _⟩
  have Ht := Lib.hid ht; have H1 := Lib.hid hl1
  clear ht hl1
  go_wp2_with fail
  refine (lab_open_uniq H1.out Ht.out (slots := 5) (room := 6) (by omega) (by omega) (by decide) (l := List.replicate 5 Sto.Rec.free) rfl (Holds.fresh 5 6) rfl (uniq_free 5)).mono ?_
  rintro e w2 ⟨sb, lb, rfl, hs2, _⟩
  have hg0 : SGood 0 ⟨6, List.replicate 5 Sto.Rec.free, false, .fresh (5 * (6 + 1))⟩ := SGood.fresh 5 6 (by omega)
  have H2 := Lib.hid hs2; have HG0 := Lib.hid hg0
  clear hs2 hg0
  go_wp2_with fail
  go_loopw [9] (fun v wr => ∃ (i : Nat) (s : St), i ≤ n ∧ i ≤ 12 ∧ v = .int .i64 i ∧ LabS w wr sb lb d L s ∧ SGood i s ∧ s.room = 6 ∧ s.recs.length = 5) (fun v _ => 12 - (intOf v).toNat)
  case atStart => exact ⟨0, _, by omega, by omega, rfl, H2.out, HG0.out, rfl, rfl⟩
  case round => as_aux_lemma =>
    obtain ⟨i, s, hi, hi12, rfl, hS, hG, hro, hlen⟩ := hrel
    have HS := Lib.hid hS; have HG := Lib.hid hG; have RO := Lib.hid hro; have LE := Lib.hid hlen
    have hwr := hG.writes
    clear hS hG hro hlen
    by_cases hik : i < n ∧ i < 12
    · obtain ⟨h1, h2⟩ := hik
      obtain ⟨ba, oa, ac, cs, rfl, Hac, hcl, hcs, v, rfl, hbs, _, hnm⟩ := HA.out.at i (by have := HN.out; omega)
      have i0 : (0 : Int) ≤ (i : Int) := by omega
      have i1 : (i : Int) < (n : Int) := by omega
      obtain ⟨ac0, ac1, ac2, ac3, ac4⟩ := ac
      simp only at hbs hnm
      have cx : ∀ j u, [Value.int .i64 ac0, .int .i64 ac1, .int .i64 ac2, .string ac3, v][j]? = some u → wr.cell? ⟨ba, oa + i * 5 + j, none⟩ = some u := fun j u hj =>
        (HS.out.bel.cell (p := ⟨ba, oa + i * 5 + j, none⟩) (World.block_lt_of_cell? w _ (hcs j u hj))).trans (hcs j u hj)
      have c0 : wr.cell? ⟨ba, oa + i * 5, none⟩ = some (.int .i64 ac0) := cx 0 _ rfl
      have c3 : wr.cell? ⟨ba, oa + i * 5 + 3, none⟩ = some (.string ac3) := cx 3 _ rfl
      have c4 : wr.cell? ⟨ba, oa + i * 5 + 4, none⟩ = some v := cx 4 _ rfl
      obtain ⟨av, cv, rfl⟩ := hbs.eq_slice
      have hbr : Bys wr (.slice av ac4.length cv) ac4 := hbs.below HS.out.bel
      have HB := Lib.hid (bys_cut hbs 100); have HBR := Lib.hid hbr
      have hcl4 : (ac4.take 100).length ≤ 100 := by rw [List.length_take]; omega
      clear hbs hbr cx hcs hcl Hac
      go_wp2_with fail
      go_quiet ((first
        | (go_at_call 11; exact quiet_eq (cutText_calls _ 20 hnm _))
        | (go_at_call 12; exact quiet_eq (cut8_val 100 _ (HBR.out.drewN _)))))
      obtain ⟨vb, hvb⟩ : ∃ vb, vb = Value.slice av (min (ac4.length : Int) ((100 : Nat) : Int)).toNat cv := ⟨_, rfl⟩
      obtain ⟨bs, hbs⟩ : ∃ bs, bs = ac4.take 100 := ⟨_, rfl⟩
      obtain ⟨nm, hnmm⟩ : ∃ nm, nm = cutS ac3 20 := ⟨_, rfl⟩
      have hns : nm.size ≤ 20 := by rw [hnmm]; exact cutS_size _ _
      have HBB := Lib.hid (show Bys w vb bs from by rw [hvb, hbs]; exact HB.out)
      rw [← hbs] at hcl4
      obtain ⟨wq, hwq⟩ : ∃ wq, wq = wr.drewN nq := ⟨_, rfl⟩
      have HQ := Lib.hid (HS.out.step (w' := wq) (by rw [hwq]; exact below_drewN (Below.refl _ _) nq))
      have c0q : wq.cell? ⟨ba, oa + i * 5, none⟩ = some (.int .i64 ac0) := by rw [hwq]; exact c0
      rw [← hwq, ← hnmm, ← hvb]
      clear hnmm hvb hbs hwq c0 c3 c4 HB HBR HS
      go_wp2_with fail
      refine (within_calls ac0 4 (by decide) (by decide) _).mono ?_
      rintro e w4 ⟨rfl, rfl⟩
      obtain ⟨g, hg⟩ : ∃ g, g = within ac0 4 := ⟨_, rfl⟩
      rw [← hg]
      clear hg
      by_cases h3 : g = 3
      · subst h3
        obtain ⟨gd1, gd2, gd3, _, _⟩ := HG.out.drop nm
        have GD1 := Lib.hid gd1; have GD2 := Lib.hid gd2; have GD3 := Lib.hid gd3
        clear gd1 gd2 gd3
        go_wp2_with fail
        refine (lab_drop HQ.out nm (by omega)).mono ?_
        rintro e w5 ⟨rfl, hs5, _⟩
        have H5 := Lib.hid hs5
        clear hs5
        go_wp2
        exact ⟨⟨i + 1, _, by omega, by omega, by go_num, H5.out, GD1.out, GD3.out.trans RO.out, GD2.out.trans LE.out⟩, by simp [intOf]; omega⟩
      · have t3 : (g == 3) = false := by simp; omega
        have hfit : fitsB s.room nm bs = true := fits_of (by omega) (by omega) (by rw [RO.out]; omega)
        have HF := Lib.hid hfit
        clear hfit
        go_wp2_with fail
        refine (lab_put_arg HQ.out nm vb bs HBB.out (by omega) (by omega) (by omega)).mono ?_
        rintro e w5 ⟨rfl, hs5, _⟩
        by_cases hfull : liveN s.recs = 5
        · have hpu : putR s nm bs = (3, s) := put_full HG.out.dead HF.out (by rw [hfull, LE.out])
          rw [hpu] at hs5 ⊢
          have H5 := Lib.hid hs5
          clear hs5 hpu
          go_wp2
          exact ⟨⟨i + 1, s, by omega, by omega, by go_num, H5.out, HG.out.mono (by omega), RO.out, LE.out⟩, by simp [intOf]; omega⟩
        · have hlv := free_live s.recs
          have hle5 := LE.out
          have ht := slot_of_live (l := s.recs) (by omega)
          obtain ⟨p1, g1, r1, ro1⟩ := HG.out.put (by omega) HF.out ht
          have hle : (putR s nm bs).2.recs.length = 5 := by rw [r1, putF_len, LE.out]
          rw [p1]
          have H5 := Lib.hid hs5; have G1 := Lib.hid g1; have RO1 := Lib.hid (ro1.trans RO.out); have LE1 := Lib.hid hle
          clear hs5 p1 g1 r1 ro1 hle ht hlv
          go_wp2
          exact ⟨⟨i + 1, _, by omega, by omega, by go_num, H5.out, G1.out, RO1.out, LE1.out⟩, by simp [intOf]; omega⟩
    · have hex : ¬ i < n ∨ (i < n ∧ ¬ i < 12) := by omega
      clear hik
      rcases hex with hx | ⟨hx, hx2⟩
      all_goals
        go_wp2_with fail
        have HG12 := Lib.hid (HG.out.mono hi12)
        clear HG hwr
        refine (lab_names_new HS.out).mono ?_
        rintro e w3 ⟨nv, rfl, hnv, hb3, hloc⟩
        obtain ⟨na, nc, rfl⟩ := hnv.eq_slice
        obtain ⟨ns, hns⟩ : ∃ ns, ns = s.names.mergeSort (fun x y => decide (x ≤ y)) := ⟨_, rfl⟩
        rw [← hns] at hnv hloc ⊢
        have hloc2 : ∀ a l c, Value.slice na ns.length nc = .slice (some a) l c → ¬ Foot sb lb d L a.block := fun a l c e hk => by
          have h1 := hloc a l c e
          have h2 := HS.out.st.lt _ hk
          omega
        have hnl := hnv.len
        have HNS := Lib.hid hns; have HNV := Lib.hid hnv; have HLOC := Lib.hid hloc2; have H3 := Lib.hid (HS.out.step hb3)
        clear hns hnv hloc hloc2 hb3
        go_wp2_with fail
        refine (sfree_calls _ sb lb d L s w3 H3.out.st).mono ?_
        rintro e w4 ⟨rfl, hb4⟩
        obtain ⟨fr, hfr⟩ : ∃ fr, fr = s.freeN := ⟨_, rfl⟩
        have hfrl : fr = 5 - liveN s.recs ∧ liveN s.recs ≤ 5 := by
          have := free_live s.recs
          have h5 := LE.out
          rw [hfr]
          unfold St.freeN
          rw [if_neg (by simp [HG12.out.dead])]
          omega
        rw [← hfr]
        have H4 := Lib.hid (H3.out.step hb4); have HNV4 := Lib.hid (HNV.out.below hb4); have HFR := Lib.hid hfr; have HFL := Lib.hid hfrl
        clear hfr hb4 hfrl HNV
        go_wp2_with fail
        refine (within_calls p 3 (by decide) (by decide) _).mono ?_
        rintro e w5 ⟨rfl, rfl⟩
        obtain ⟨hn1, hn2⟩ := within_range p 3 (by decide)
        obtain ⟨z, hz⟩ : ∃ z, z = within p 3 := ⟨_, rfl⟩
        rw [← hz] at hn1 hn2 ⊢
        clear hz
        go_wp2_with fail
        go_loopw [15] (fun v wx => ∃ j : Int, -1 ≤ j ∧ j ≤ 2 ∧ v = .int .i64 j ∧ LabS w wx sb lb d L s ∧ Strs wx (.slice na ns.length nc) ns) (fun v _ => (intOf v + 1).toNat)
        case atStart => exact ⟨z, by omega, by omega, rfl, H4.out, HNV4.out⟩
        case round => as_aux_lemma =>
          obtain ⟨j, hj1, hj2, rfl, hS, hnv⟩ := hrel
          have HSx := Lib.hid hS; have HNx := Lib.hid hnv
          clear hS hnv
          by_cases hj : 0 ≤ j
          · have hwr := HG12.out.writes
            go_wp2_with fail
            refine (lab_open_uniq HSx.out.lab Ht.out (slots := 5) (room := 6) (by omega) (by omega) (by omega) (l := s.recs) LE.out (by have := HG12.out.holds; rwa [RO.out] at this) HG12.out.disk HG12.out.uniq).mono ?_
            rintro e w6 ⟨sb2, lb2, rfl, hs6, hc6⟩
            have hso := HSx.out.other hs6 hc6 rfl
            have hn6 := HNx.out.chg (dl_foot hc6) HLOC.out
            obtain ⟨t, ht⟩ : ∃ t : St, t = ⟨6, s.recs, false, s.disk⟩ := ⟨_, rfl⟩
            rw [← ht] at hs6
            have htd : t.dead = false := by rw [ht]
            have htr : t.recs = s.recs := by rw [ht]
            have htn : t.names = s.names := by unfold St.names; rw [if_neg (by simp [htd]), if_neg (by simp [HG12.out.dead]), htr]
            have htf : t.freeN = fr := by rw [HFR.out]; unfold St.freeN; rw [if_neg (by simp [htd]), if_neg (by simp [HG12.out.dead]), htr]
            have H6 := Lib.hid hs6; have HO := Lib.hid hso; have HN6 := Lib.hid hn6; have HTD := Lib.hid htd; have HTR := Lib.hid htr; have HTN := Lib.hid htn; have HTF := Lib.hid htf
            clear hs6 hso hn6 hc6 htd htr htn htf ht hwr
            go_wp2_with fail
            refine (lab_names H6.out).mono ?_
            rintro e w7 ⟨tv, rfl, htv, hb7⟩
            rw [HTN.out, ← HNS.out] at htv
            have H7 := Lib.hid (H6.out.step hb7); have HO7 := Lib.hid (HO.out.step hb7); have HN7 := Lib.hid (HN6.out.below hb7); have HTV := Lib.hid htv
            clear htv hb7
            go_wp2_with fail
            refine (sames_calls tv _ ns ns _ HTV.out HN7.out).mono ?_
            rintro e w8 ⟨rfl, dr, hw8⟩
            have hb8 : Below w7.heap.size w7 w8 := by rw [hw8]; exact below_drewN (Below.refl _ _) dr
            rw [decide_eq_true rfl]
            have H8 := Lib.hid (H7.out.step hb8); have HO8 := Lib.hid (HO7.out.step hb8); have HN8 := Lib.hid (HN7.out.below hb8)
            clear hw8 hb8
            go_wp2_with fail
            refine (sfree_calls _ sb2 lb2 d L t w8 H8.out.st).mono ?_
            rintro e w9 ⟨rfl, hb9⟩
            rw [HTF.out]
            have H9 := Lib.hid (H8.out.step hb9); have HO9 := Lib.hid (HO8.out.step hb9); have HN9 := Lib.hid (HN8.out.below hb9)
            have tf : ((fr : Int) != (fr : Int)) = false := by simp
            clear hb9
            go_wp2_with fail
            go_loopw [120] (fun v wy => ∃ q : Nat, q ≤ ns.length ∧ v = .int .i64 q ∧ LabS w wy sb lb d L s ∧ LabS w wy sb2 lb2 d L t ∧ Strs wy (.slice na ns.length nc) ns) (fun v _ => ns.length - (intOf v).toNat)
            case atStart => exact ⟨0, by omega, rfl, HO9.out, H9.out, HN9.out⟩
            case round => as_aux_lemma =>
              obtain ⟨q, hq, rfl, hS, hTT, hnv⟩ := hrel
              have HSy := Lib.hid hS; have HTy := Lib.hid hTT; have HNy := Lib.hid hnv
              clear hS hTT hnv
              by_cases hql : q < ns.length
              · obtain ⟨bq, oq, sq, rfl, Hsq, cq⟩ := HNy.out.at q hql
                have q0 : (0 : Int) ≤ (q : Int) := by omega
                have q1 : (q : Int) < (ns.length : Int) := by omega
                obtain ⟨X, hX⟩ : ∃ X, Sto.look s.recs ⟨sq.toArray⟩ = some X := by
                  have h1 : sq ∈ ns := List.mem_of_getElem? Hsq.out
                  rw [HNS.out, List.mem_mergeSort] at h1
                  unfold St.names at h1
                  rw [if_neg (by simp [HG12.out.dead])] at h1
                  exact Option.isSome_iff_exists.1 ((mem_names (l := s.recs) ⟨sq.toArray⟩).1 h1)
                unfold encStr at cq
                obtain ⟨N, hN⟩ : ∃ N, N = ByteArray.mk sq.toArray := ⟨_, rfl⟩
                rw [← hN] at cq hX
                have HX := Lib.hid hX
                clear hN hX
                go_wp2_with fail
                refine (sget_calls _ sb lb d L s N wr HSy.out.st).mono ?_
                rintro e w10 ⟨hb10, v1, rfl, hv1⟩
                rw [St.get_look HG12.out.dead, HX.out] at hv1 ⊢
                simp only [Option.isSome_some, Option.getD_some] at hv1 ⊢
                have HV1 := Lib.hid hv1.bys
                have HS10 := Lib.hid (HSy.out.step hb10); have HT10 := Lib.hid (HTy.out.step hb10); have HN10 := Lib.hid (HNy.out.below hb10)
                clear hv1 hb10
                go_wp2_with fail
                refine (sget_calls _ sb2 lb2 d L t N w10 HT10.out.st).mono ?_
                rintro e w11 ⟨hb11, v2, rfl, hv2⟩
                rw [St.get_look HTD.out, HTR.out, HX.out] at hv2 ⊢
                simp only [Option.isSome_some, Option.getD_some] at hv2 ⊢
                have HV2 := Lib.hid hv2.bys; have HV11 := Lib.hid (HV1.out.below hb11)
                have HS11 := Lib.hid (HS10.out.step hb11); have HT11 := Lib.hid (HT10.out.step hb11); have HN11 := Lib.hid (HN10.out.below hb11)
                clear hv2 hb11
                go_wp2_with fail
                refine (same8_yes _ _ X X _ HV11.out HV2.out rfl).mono ?_
                rintro e w12 ⟨rfl, dr2, hw12⟩
                have hb12 : Below w11.heap.size w11 w12 := by rw [hw12]; exact below_drewN (Below.refl _ _) dr2
                have HS12 := Lib.hid (HS11.out.step hb12); have HT12 := Lib.hid (HT11.out.step hb12); have HN12 := Lib.hid (HN11.out.below hb12)
                clear hw12 hb12
                go_wp2
                exact ⟨⟨q + 1, by omega, by go_num, HS12.out, HT12.out, HN12.out⟩, by simp [intOf]; omega⟩
              · obtain rfl : ns.length = q := by omega
                go_wp2
                exact ⟨⟨j - 1, by omega, by omega, by go_num, HSy.out, HNy.out⟩, by simp [intOf]; omega⟩
          · obtain rfl : j = -1 := by omega
            have hwr := HG12.out.writes
            have hle5 := LE.out
            go_wp2_with fail
            refine (lab_stop HSx.out 0 0 (by decide)).mono ?_
            rintro e w5 ⟨rfl, hs5, hc5⟩
            have hn5 := HNx.out.chg (dl_foot hc5) HLOC.out
            obtain ⟨s1, hs1⟩ : ∃ s1 : St, s1 = { s with disk := s.disk.stop 0 0 } := ⟨_, rfl⟩
            rw [← hs1] at hs5
            have q1 : s1.recs = s.recs := by rw [hs1]
            have q2 : s1.room = 6 := by rw [hs1]; exact RO.out
            have q3 : Holds s1.disk 6 s.recs := by rw [hs1]; have := HG12.out.holds.stop 0 0; rwa [RO.out] at this
            have q4 : s1.dead = false := by rw [hs1]; exact HG12.out.dead
            have q5 : s1.disk.dead = false := by rw [hs1]; exact HG12.out.disk
            have q6 : s1.disk.writes ≤ 24000 := by rw [hs1]; exact hwr
            have hfit : fitsB s1.room ⟨#[120]⟩ [] = true := by rw [q2]; exact fits_of (by decide) (by decide) (by decide)
            have H5 := Lib.hid hs5; have HN5 := Lib.hid hn5
            clear hs5 hn5 hc5
            by_cases hfree : 0 < fr
            · have ht1 := slot_of_live (l := s1.recs) (by rw [q1]; have := HFL.out; omega)
              obtain ⟨pd1, pd2, pd3, pd4, pd5⟩ := put_dead (s := s1) (name := ⟨#[120]⟩) (data := []) (by rw [q1, q2]; exact q3) q5 q4 (by rw [hs1]; rfl) (by rw [hs1]; rfl) (by omega) hfit ht1
              rw [q1, q2] at pd5
              have hpw := put_writes s1 ⟨#[120]⟩ []
              rw [q2] at hpw
              have PD1 := Lib.hid pd1
              clear hs1 pd1 hfit ht1 q1 q3 q4 q5
              have tfr : (0 : Int) < (fr : Int) := by omega
              go_wp2_with fail
              refine (lab_put H5.out ⟨#[120]⟩ (.slice none 0 0) [] (Bys.nil _) (by decide) (by decide) (fun _ _ => Bys.nil _) (by omega)).mono ?_
              rintro e w6 ⟨rfl, hs6, hc6⟩
              rw [PD1.out]
              have hn6 := HN5.out.chg hc6 HLOC.out
              obtain ⟨s2, hs2⟩ : ∃ s2, s2 = (putR s1 ⟨#[120]⟩ []).2 := ⟨_, rfl⟩
              rw [← hs2] at hs6 pd2 pd3 pd4 pd5 hpw
              have H6 := Lib.hid hs6; have HN6 := Lib.hid hn6; have HH := Lib.hid pd5; have HDD := Lib.hid pd2
              clear hs6 hn6 hc6 hs2 pd2 pd3 pd4 pd5
              go_wp2_with fail
              refine (lab_start H6.out).mono ?_
              rintro e w7 ⟨rfl, hs7, hc7⟩
              have hn7 := HN6.out.chg (dl_foot hc7) HLOC.out
              obtain ⟨s3, hs3⟩ : ∃ s3 : St, s3 = { s2 with disk := s2.disk.start } := ⟨_, rfl⟩
              rw [← hs3] at hs7
              have hd3 : s3.dead = true := by rw [hs3]; exact HDD.out
              have hw3 : s3.disk = s2.disk.start := by rw [hs3]
              have H7 := Lib.hid hs7; have HN7 := Lib.hid hn7
              have DN := Lib.hid (dead_names hd3); have DF := Lib.hid (dead_free hd3); have DP := Lib.hid (dead_put hd3 ⟨#[120]⟩ []); have DR := Lib.hid (dead_drop hd3 ⟨#[120]⟩); have HW3 := Lib.hid hw3
              clear hs7 hn7 hc7 hs3 hd3 hw3
              go_wp2_with fail
              refine (sfree_calls _ sb lb d L s3 w7 H7.out.st).mono ?_
              rintro e w8 ⟨rfl, hb8⟩
              rw [DF.out]
              have H7b := Lib.hid (H7.out.step hb8); have HN7b := Lib.hid (HN7.out.below hb8)
              clear hb8
              go_wp2_with fail
              refine (lab_names H7b.out).mono ?_
              rintro e w9 ⟨ev, rfl, hev, hb9⟩
              obtain ⟨ea, ec, rfl⟩ := hev.eq_slice
              rw [DN.out]
              have H7c := Lib.hid (H7b.out.step hb9); have HN7c := Lib.hid (HN7b.out.below hb9)
              clear hev hb9
              simp only [List.mergeSort_nil, List.length_nil]
              have hw7 : s3.disk.writes ≤ 100000 := by rw [HW3.out]; show s2.disk.writes ≤ _; omega
              go_wp2_with fail
              refine (lab_put H7c.out ⟨#[120]⟩ (.slice none 0 0) [] (Bys.nil _) (by decide) (by decide) (fun _ _ => Bys.nil _) (by omega)).mono ?_
              rintro e w10 ⟨rfl, hs10, hc10⟩
              rw [DP.out] at hs10 ⊢
              have H7d := Lib.hid hs10; have HN7d := Lib.hid (HN7c.out.chg hc10 HLOC.out)
              clear hs10 hc10
              go_wp2_with fail
              refine (lab_drop H7d.out ⟨#[120]⟩ (by omega)).mono ?_
              rintro e w11 ⟨rfl, hs11, hc11⟩
              rw [DR.out] at hs11 ⊢
              have H8 := Lib.hid (show Lab w w11 d L s2.disk.start from by rw [← HW3.out]; exact hs11.lab); have HN8 := Lib.hid (HN7d.out.chg hc11 HLOC.out)
              clear hs11 hc11
              go_wp2_with fail
              refine (lab_open_uniq H8.out Ht.out (slots := 5) (room := 6) (by omega) (by omega) (by show s2.disk.writes < _; omega) (l := s.recs) LE.out HH.out.start rfl HG12.out.uniq).mono ?_
              rintro e w9 ⟨sb2, lb2, rfl, hs9, hc9⟩
              have hn9 := HN8.out.chg (dl_foot hc9) HLOC.out
              obtain ⟨t, ht⟩ : ∃ t : St, t = ⟨6, s.recs, false, s2.disk.start⟩ := ⟨_, rfl⟩
              rw [← ht] at hs9
              have htn : t.names = s.names := by unfold St.names; rw [ht, if_neg (by simp), if_neg (by simp [HG12.out.dead])]
              have H9 := Lib.hid hs9; have HN9 := Lib.hid hn9; have HTN := Lib.hid htn
              clear hs9 hn9 hc9 htn ht
              go_wp2_with fail
              refine (lab_names H9.out).mono ?_
              rintro e w10 ⟨tv, rfl, htv, hb10⟩
              rw [HTN.out, ← HNS.out] at htv
              have H10 := Lib.hid (H9.out.step hb10); have HN10 := Lib.hid (HN9.out.below hb10); have HTV := Lib.hid htv
              clear htv hb10
              go_wp2_with fail
              refine (sames_calls tv _ ns ns _ HTV.out HN10.out).mono ?_
              rintro e w11 ⟨rfl, dr, hw11⟩
              rw [decide_eq_true rfl]
              have H11 := Lib.hid (H10.out.step (w' := w11) (by rw [hw11]; exact below_drewN (Below.refl _ _) dr))
              clear hw11
              go_wp2_with fail
              refine (wakes11_calls _ H11.out.lab.tab).mono ?_
              rintro e w12 ⟨rfl, hb⟩
              go_wp2
              go_ret
              exact ⟨rfl, H11.out.bel.trans (hb.mono H11.out.bel.size)⟩
            · have hfl := HFL.out
              have hpu : putR s1 ⟨#[120]⟩ [] = (3, s1) := put_full q4 hfit (by rw [q1]; omega)
              have HPU := Lib.hid hpu; have HH := Lib.hid q3
              clear hs1 hfit q1 q3 q4 q5 hpu
              have tfr : ¬ (0 : Int) < (fr : Int) := by omega
              go_wp2_with fail
              refine (lab_put H5.out ⟨#[120]⟩ (.slice none 0 0) [] (Bys.nil _) (by decide) (by decide) (fun _ _ => Bys.nil _) (by omega)).mono ?_
              rintro e w6 ⟨rfl, hs6, hc6⟩
              rw [HPU.out] at hs6 ⊢
              have H6 := Lib.hid hs6; have HN6 := Lib.hid (HN5.out.chg hc6 HLOC.out)
              clear hs6 hc6
              go_wp2_with fail
              refine (lab_start H6.out).mono ?_
              rintro e w7 ⟨rfl, hs7, hc7⟩
              have H8 := Lib.hid hs7.lab; have HN8 := Lib.hid (HN6.out.chg (dl_foot hc7) HLOC.out)
              clear hs7 hc7
              go_wp2_with fail
              refine (lab_open_uniq H8.out Ht.out (slots := 5) (room := 6) (by omega) (by omega) (by show s1.disk.writes < _; omega) (l := s.recs) LE.out HH.out.start rfl HG12.out.uniq).mono ?_
              rintro e w9 ⟨sb2, lb2, rfl, hs9, hc9⟩
              have hn9 := HN8.out.chg (dl_foot hc9) HLOC.out
              obtain ⟨t, ht⟩ : ∃ t : St, t = ⟨6, s.recs, false, s1.disk.start⟩ := ⟨_, rfl⟩
              rw [← ht] at hs9
              have htn : t.names = s.names := by unfold St.names; rw [ht, if_neg (by simp), if_neg (by simp [HG12.out.dead])]
              have H9 := Lib.hid hs9; have HN9 := Lib.hid hn9; have HTN := Lib.hid htn
              clear hs9 hn9 hc9 htn ht
              go_wp2_with fail
              refine (lab_names H9.out).mono ?_
              rintro e w10 ⟨tv, rfl, htv, hb10⟩
              rw [HTN.out, ← HNS.out] at htv
              have H10 := Lib.hid (H9.out.step hb10); have HN10 := Lib.hid (HN9.out.below hb10); have HTV := Lib.hid htv
              clear htv hb10
              go_wp2_with fail
              refine (sames_calls tv _ ns ns _ HTV.out HN10.out).mono ?_
              rintro e w11 ⟨rfl, dr, hw11⟩
              rw [decide_eq_true rfl]
              have H11 := Lib.hid (H10.out.step (w' := w11) (by rw [hw11]; exact below_drewN (Below.refl _ _) dr))
              clear hw11
              go_wp2_with fail
              refine (wakes11_calls _ H11.out.lab.tab).mono ?_
              rintro e w12 ⟨rfl, hb⟩
              go_wp2
              go_ret
              exact ⟨rfl, H11.out.bel.trans (hb.mono H11.out.bel.size)⟩
end Go.Proofs.YtmeegdicnfgjfaaDoor
