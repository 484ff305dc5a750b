/- The walk of the statement StoreCrash. -/
import Derived.Test.YtmeegdicnfgjfaaDoorStoreWakes
import Derived.Test.YtmeegdicnfgjfaaDoorStoreActs
import Derived.Test.YtmeegdicnfgjfaaDoorStoreMap
import Derived.Carry
namespace Go.Proofs.YtmeegdicnfgjfaaDoor
open Go Go.RowKit Go.Mem Gf
attribute [local go_sem ↓] Go.wp_at_zero Go.wp_at_succ
/-- a text among arguments -/
def StrR (_ : World) (cs : List Value) (s : ByteArray) : Prop := cs = [.string s] ∧ s.size ≤ maxLen
theorem strs_open : Opens Tryd.prog 22 (fun W cs (l : List ByteArray) => ∃ v, cs = [v] ∧ Sls 1 StrR W v l) :=
  opens_slice Tryd.underlying22 (by kernel_rfl) (by decide) (opens_string Tryd.underlying9)
set_option maxRecDepth 20000 in
set_option maxHeartbeats 8000000 in
theorem storeCrash_walk (w : World) (hT : Tab w) (vn : Value) (ln : List ByteArray) (hln : Sls 1 StrR w vn ln) (vd : Value) (ld : List (List UInt8)) (hld : Rws w vd ld) (name0 : ByteArray) (hname0 : name0.size ≤ maxLen) (vb : Value) (dat0 : List UInt8) (hvb : Bys w vb dat0)
    (p : Int) (_hp : -9223372036854775808 ≤ p ∧ p ≤ 9223372036854775807) (q : Int) (_hq : -9223372036854775808 ≤ q ∧ q ≤ 9223372036854775807) :
    Calls Tryd.prog 3 #[vn, vd, .string name0, vb, .int .i64 p, .int .i64 q] w fun e w' => e = .returned (.bool true) ∧ Below w.heap.size w w' := by
  have HT := Lib.hid hT
  have hl1 := hln.len
  obtain ⟨an, cn, rfl⟩ := hln.eq_slice
  obtain ⟨n, hn⟩ : ∃ n, n = ln.length := ⟨_, rfl⟩
  rw [← hn] at hln hl1 ⊢
  have hl2 := hld.len
  obtain ⟨ad, cd, rfl⟩ := hld.eq_slice
  obtain ⟨k, hk⟩ : ∃ k, k = ld.length := ⟨_, rfl⟩
  rw [← hk] at hld hl2 ⊢
  have HLN := Lib.hid hln; have HN := Lib.hid hn; have HLD := Lib.hid hld; have HK := Lib.hid hk; have HVB := Lib.hid hvb
  clear hT hln hn hld hk hvb _hp _hq
  have hmm := @run_makeMap Tryd.prog
  go_enter Tryd.func3, Tryd.ntmps3
  go_wp2_with fail
  refine (lab_new 42 w w HT.out (Below.refl _ _) (by omega) (by omega)).mono ?_
  rintro e w1 ⟨d, L, rfl, hl1', ht, _⟩
  have Ht := Lib.hid ht; have H1 := Lib.hid hl1'
  clear ht hl1'
  go_wp2_with fail
  refine (lab_open_uniq H1.out Ht.out (slots := 6) (room := 6) (by omega) (by omega) (by decide) (l := List.replicate 6 Sto.Rec.free) rfl (Holds.fresh 6 6) rfl (uniq_free 6)).mono ?_
  rintro e w2 ⟨sb, lb, rfl, hs2, _⟩
  have hg0 : SGood 0 ⟨6, List.replicate 6 Sto.Rec.free, false, .fresh (6 * (6 + 1))⟩ := SGood.fresh 6 6 (by omega)
  have hsm : SM (w2.alloc (.map #[] 0)) w2.heap.size (List.replicate 6 Sto.Rec.free) := ⟨0, _, by omega, World.ownsMap_made _ _ _ _, Mir.empty 6⟩
  have hbm : w.heap.size ≤ w2.heap.size := hs2.bel.size
  have hs3 := hs2.step ((Below.refl _ _).alloc (Nat.le_refl _) (.map #[] 0))
  have hft : ¬ Foot sb lb d L w2.heap.size := fun h => by have := hs2.st.lt _ h; omega
  have H3 := Lib.hid hs3; have HG0 := Lib.hid hg0; have HSM := Lib.hid hsm; have HFT := Lib.hid hft
  clear hs2 hg0 hsm hs3 hft
  obtain ⟨bm, hbmm⟩ : ∃ b, b = w2.heap.size := ⟨_, rfl⟩
  rw [← hbmm] at HSM HFT hbm
  go_wp2_with fail
  rw [← hbmm]
  clear hbmm
  go_loopw [18] (fun v wr => ∃ (i : Nat) (s : St), i ≤ n ∧ i ≤ k ∧ i ≤ 4 ∧ v = .int .i64 i ∧ LabS w wr sb lb d L s ∧ SGood i s ∧ s.room = 6 ∧ s.recs.length = 6 ∧ liveN s.recs ≤ i ∧ SM wr bm s.recs) (fun v _ => 4 - (intOf v).toNat)
  case atStart => exact ⟨0, _, by omega, by omega, by omega, rfl, H3.out, HG0.out, rfl, rfl, Nat.le_of_eq (live_free 6), HSM.out⟩
  case round => as_aux_lemma =>
    obtain ⟨i, s, hi, hik, hi4, rfl, hS, hG, hro, hlen, hlv, hSM⟩ := hrel
    have HS := Lib.hid hS; have HG := Lib.hid hG; have RO := Lib.hid hro; have LE := Lib.hid hlen; have LV := Lib.hid hlv; have HM := Lib.hid hSM
    have hwr := hG.writes
    clear hS hG hro hlen hlv hSM
    go_upto_region 9 with fail
    go_cut [66] (fun s66 wx => ∃ b : Bool, s66 = .bool b ∧ (b = true → i < n ∧ i < k ∧ i < 4) ∧ wr = wx)
    case first =>
      go_wp2_with fail
      all_goals
        go_meet
        exact ⟨_, rfl, fun hb => by first | exact absurd hb (by decide) | omega | (simp at hb; omega), rfl⟩
    case rest =>
    obtain ⟨b, rfl, hin, rfl⟩ := hcut
    cases b
    rotate_left
    · obtain ⟨h1, h2, h3⟩ := hin rfl
      clear hin
      obtain ⟨ba, oa, nm0, cs, rfl, Hnm0, hcl, hcs, rfl, hnm⟩ := HLN.out.at i (by have := HN.out; omega)
      obtain ⟨bd, od, r0, rv, rfl, Hr0, cr, hbr0⟩ := HLD.out.at i (by have := HK.out; omega)
      obtain ⟨av, cv, rfl⟩ := hbr0.eq_slice
      have i0 : (0 : Int) ≤ (i : Int) := by omega
      have i1 : (i : Int) < (n : Int) := by omega
      have i2 : (i : Int) < (k : Int) := by omega
      have cx := hcs 0 _ rfl
      rw [Nat.mul_one, Nat.add_zero] at cx
      have c3 : wr.cell? ⟨ba, oa + i, none⟩ = some (.string nm0) := (HS.out.bel.cell (p := ⟨ba, oa + i, none⟩) (World.block_lt_of_cell? w _ cx)).trans cx
      have c4 : wr.cell? ⟨bd, od + i, none⟩ = some (.slice av r0.length cv) := (HS.out.bel.cell (p := ⟨bd, od + i, none⟩) (World.block_lt_of_cell? w _ cr)).trans cr
      have HB := Lib.hid (bys_cut hbr0 120); have HBR := Lib.hid (hbr0.below HS.out.bel)
      have hcl4 : (r0.take 120).length ≤ 120 := by rw [List.length_take]; omega
      clear hbr0 cx cr hcs hcl Hnm0 Hr0
      go_wp2_with fail
      go_quiet ((first
        | (go_at_call 11; exact quiet_eq (cutText_calls _ 20 hnm _))
        | (go_at_call 12; exact quiet_eq (cut8_val 120 _ (HBR.out.drewN _)))))
      obtain ⟨vx, hvx⟩ : ∃ vb, vb = Value.slice av (min (r0.length : Int) ((120 : Nat) : Int)).toNat cv := ⟨_, rfl⟩
      obtain ⟨bs, hbs⟩ : ∃ bs, bs = r0.take 120 := ⟨_, rfl⟩
      obtain ⟨nm, hnmm⟩ : ∃ nm, nm = cutS nm0 20 := ⟨_, rfl⟩
      have hns : nm.size ≤ 20 := by rw [hnmm]; exact cutS_size _ _
      have HBB := Lib.hid (show Bys w vx bs from by rw [hvx, hbs]; exact HB.out)
      rw [← hbs] at hcl4
      obtain ⟨wq, hwq⟩ : ∃ wq, wq = wr.drewN nq := ⟨_, rfl⟩
      have hbq : Below wr.heap.size wr wq := by rw [hwq]; exact below_drewN (Below.refl _ _) nq
      have HQ := Lib.hid (HS.out.step hbq); have HMQ := Lib.hid (HM.out.below hbq)
      rw [← hwq, ← hnmm, ← hvx]
      clear hnmm hvx hbs hwq c3 c4 HB HBR HS HM hbq
      have hfit : fitsB s.room nm bs = true := fits_of (by omega) (by omega) (by rw [RO.out]; omega)
      have hlv := LV.out; have hle := LE.out
      have ht := slot_of_live (l := s.recs) (by omega)
      obtain ⟨p1, g1, r1, ro1⟩ := HG.out.put (by omega) hfit ht
      have P1 := Lib.hid p1; have G1 := Lib.hid g1; have R1 := Lib.hid r1; have RO1 := Lib.hid (ro1.trans RO.out); have HTT := Lib.hid ht
      clear p1 g1 r1 ro1 hfit ht
      go_wp2_with fail
      refine (lab_put_arg HQ.out nm vx bs HBB.out (by omega) (by omega) (by omega)).mono ?_
      rintro e w5 ⟨rfl, hs5, hc5⟩
      rw [P1.out]
      have hm5 := HMQ.out.chg hc5 HFT.out
      have hcv : (convert 24 9 vx).run Tryd.prog w5 = .ok (.string ⟨bs.toArray⟩) w5 := conv_string (HBB.out.below hs5.bel)
      obtain ⟨w6, hup, hm6, hc6⟩ := hm5.put (by omega) HTT.out nm bs (by unfold maxLen; omega) (by unfold maxLen; omega)
      have H6 := Lib.hid (hc6.lab hs5 hbm)
      have H5 := Lib.hid hs5
      have HM6 := Lib.hid hm6
      clear hs5 hm5 hm6 hc6 hc5
      go_wp2
      exact ⟨⟨i + 1, (putR s nm bs).2, by omega, by omega, by omega, by go_num, H6.out, G1.out, RO1.out, by rw [R1.out, putF_len]; exact LE.out, by rw [R1.out]; have := putF_live HTT.out nm bs; omega, by rw [R1.out]; exact HM6.out⟩, by simp [intOf]; omega⟩
    · clear hin
      have hlv := LV.out
      have hle := LE.out
      have HG4 := Lib.hid (HG.out.mono hi4)
      have hw4 : s.disk.writes ≤ 8000 := HG4.out.writes
      clear HG hwr hi hik
      go_wp2_with fail
      refine (cutText_calls name0 20 hname0 wr).mono ?_
      rintro e w3 ⟨rfl, rfl⟩
      obtain ⟨nm, hnmm⟩ : ∃ nm, nm = cutS name0 20 := ⟨_, rfl⟩
      have hns : nm.size ≤ 20 := by rw [hnmm]; exact cutS_size _ _
      rw [← hnmm]
      clear hnmm
      go_wp2_with fail
      refine (cut8_two vb dat0 120 w wr HVB.out (HVB.out.below HS.out.bel)).mono ?_
      rintro e w3 ⟨⟨vx, rfl, hvx⟩, rfl⟩
      obtain ⟨dat, hdat⟩ : ∃ dat, dat = dat0.take 120 := ⟨_, rfl⟩
      have hdl : dat.length ≤ 120 := by rw [hdat, List.length_take]; omega
      rw [← hdat] at hvx
      clear hdat
      have HVX := Lib.hid hvx
      clear hvx
      obtain ⟨so, hlk, hso⟩ := HM.out.look (nm := nm) (by unfold maxLen; omega)
      obtain ⟨hd, hhd⟩ : ∃ hd, hd = (Sto.look s.recs nm).isSome := ⟨_, rfl⟩
      rw [← hhd] at hlk
      have HHD := Lib.hid hhd; have HSO := Lib.hid hso
      clear hhd hso
      go_wp2_with fail
      refine (within_calls p 9 (by decide) (by decide) _).mono ?_
      rintro e w3 ⟨rfl, rfl⟩
      obtain ⟨hn1, hn2⟩ := within_range p 9 (by decide)
      obtain ⟨x, hx⟩ : ∃ x, x = within p 9 := ⟨_, rfl⟩
      rw [← hx] at hn1 hn2 ⊢
      clear hx hlk
      go_wp2_with fail
      refine (lab_stop HS.out x q (by omega)).mono ?_
      rintro e w4 ⟨rfl, hs4, hc4⟩
      have H4 := Lib.hid hs4
      have HM4 := Lib.hid (HM.out.chg hc4 (fun hk => HFT.out (by rcases hk with h | h; exact .inr (.inr (.inl h)); exact .inr (.inr (.inr h)))))
      clear hs4 hc4 HS HM
      go_wp2_with fail
      refine (lab_put_arg H4.out nm vx dat HVX.out (by omega) (by omega) (by show s.disk.writes < _; omega)).mono ?_
      rintro e w5 ⟨rfl, hs5, hc5⟩
      have hm5 := HM4.out.chg hc5 HFT.out
      obtain ⟨R, hR⟩ : ∃ R, putR { s with disk := s.disk.stop x q } nm dat = R := ⟨_, rfl⟩
      obtain ⟨l3, k1, k2, k3, k4, k5, k6, k7⟩ := torn_look HG4.out (by omega) x q (name := nm) (data := dat) (fits_of (by omega) (by omega) (by rw [RO.out]; omega)) (slot_of_live (by omega)) hR
      rw [hR] at hs5 ⊢
      rw [RO.out] at k1
      have k2' : l3.length = 6 := k2.trans hle
      obtain ⟨f, s3⟩ := R
      simp only at k1 k4 k5 k6 hs5
      have H5 := Lib.hid hs5; have HM5 := Lib.hid hm5; have K1 := Lib.hid k1; have K2 := Lib.hid k2'; have K3 := Lib.hid k3; have K6 := Lib.hid k6; have K7 := Lib.hid k7
      obtain ⟨db, hdb⟩ : ∃ b, b = s3.disk.dead := ⟨_, rfl⟩
      have hf : (f = 0 ∧ db = false) ∨ (f = 8 ∧ db = true) := by
        rw [hdb]
        rcases k6 with ⟨h1, h2, _⟩ | ⟨h1, h2, _⟩
        · exact .inl ⟨h1, h2⟩
        · exact .inr ⟨h1, h2⟩
      have HDB := Lib.hid hdb
      have HF := Lib.hid hf
      clear hs5 hm5 hc5 hR k1 k2 k2' k3 k4 k6 k7 hf hdb
      go_upto_region 19 with fail
      go_cut [112] (fun s112 wx => s112 = .bool false ∧ w5 = wx)
      case first =>
        rcases HF.out with ⟨rfl, _⟩ | ⟨rfl, _⟩
        all_goals
          go_wp2_with fail
          go_meet
          exact ⟨rfl, rfl⟩
      case rest =>
      obtain ⟨rfl, rfl⟩ := hcut
      go_wp2_with fail
      refine (ddead_calls d L s3.disk w5 H5.out.st.disk).mono ?_
      rintro e w6 ⟨rfl, rfl⟩
      rw [← HDB.out]
      go_wp2_with fail
      refine (lab_start H5.out).mono ?_
      rintro e w6 ⟨rfl, hs6, hc6⟩
      have H6 := Lib.hid hs6
      have HM6 := Lib.hid (HM5.out.chg hc6 (fun hk => HFT.out (by rcases hk with h | h; exact .inr (.inr (.inl h)); exact .inr (.inr (.inr h)))))
      clear hs6 hc6
      go_wp2_with fail
      refine (lab_reopen (m := 5) H6.out.lab Ht.out K1.out (fun r hr => Nat.le_trans (K3.out r hr) (by omega)) (by omega) (by omega) (by omega) (by omega) K2.out).mono ?_
      rintro e w7 ⟨s5, sb5, lb5, rfl, hs7, g5, t5, _, hc7⟩
      have hl5 : ∀ nm', Sto.look s5.recs nm' = Sto.look l3 nm' := t5.look
      have H7 := Lib.hid hs7; have G5 := Lib.hid g5; have HL5 := Lib.hid hl5
      have HM7 := Lib.hid (HM6.out.chg hc7 (fun hk => HFT.out (by rcases hk with h | h; exact .inr (.inr (.inl h)); exact .inr (.inr (.inr h)))))
      clear hs7 g5 t5 hl5 hc7
      go_upto_region 24 with fail
      go_cut [133] (fun s133 wx => s133 = .bool false ∧ w7 = wx)
      case first =>
        clear HDB
        rcases HF.out with ⟨rfl, rfl⟩ | ⟨rfl, rfl⟩
        all_goals
          go_wp2_with fail
          go_meet
          exact ⟨rfl, rfl⟩
      case rest =>
      obtain ⟨rfl, rfl⟩ := hcut
      go_wp2_with fail
      refine (sget_calls _ sb5 lb5 d L _ nm w7 H7.out.st).mono ?_
      rintro e w8 ⟨hb8, gv, rfl, hgv⟩
      rw [St.get_look G5.out.dead, HL5.out] at hgv ⊢
      have H8 := Lib.hid (H7.out.step hb8); have HM8 := Lib.hid (HM7.out.below hb8)
      clear hb8
      obtain ⟨o, ho⟩ : ∃ o, o = Sto.look l3 nm := ⟨_, rfl⟩
      rw [← ho] at hgv ⊢
      have HO := Lib.hid ho; have HGV := Lib.hid hgv.bys
      clear ho hgv
      obtain ⟨okb, hokb⟩ : ∃ b, b = o.isSome := ⟨_, rfl⟩
      rw [← hokb]
      have hvx8 : Bys w8 vx dat := HVX.out.below H8.out.bel
      have hcd : (convert 24 9 vx).run Tryd.prog w8 = .ok (.string ⟨dat.toArray⟩) w8 := conv_string hvx8
      have hcg : (convert 24 9 gv).run Tryd.prog w8 = .ok (.string ⟨(o.getD []).toArray⟩) w8 := conv_string HGV.out
      obtain ⟨SD, hSD⟩ : ∃ S : ByteArray, S = ⟨dat.toArray⟩ := ⟨_, rfl⟩
      obtain ⟨SG, hSG⟩ : ∃ S : ByteArray, S = ⟨(o.getD []).toArray⟩ := ⟨_, rfl⟩
      rw [← hSD] at hcd
      rw [← hSG] at hcg
      have HSD := Lib.hid hSD; have HSG := Lib.hid hSG; have HOK := Lib.hid hokb
      clear hSD hSG hokb hvx8
      go_upto_region 27 with fail
      go_cut [27] (fun s27 wx => ∃ nw : Bool, s27 = .bool nw ∧ (okb = true → SG = SD → nw = true) ∧ w8 = wx)
      case first =>
        cases okb
        · go_wp2_with fail
          go_meet
          exact ⟨_, rfl, fun h => (by cases h), rfl⟩
        · by_cases e : SG = SD
          · have t1 : (SG.toList == SD.toList) = true := Sto.same_name.2 e
            go_wp2_with fail
            go_meet
            exact ⟨_, rfl, fun _ _ => rfl, rfl⟩
          · have t1 : (SG.toList == SD.toList) = false := by
              cases h : (SG.toList == SD.toList)
              · rfl
              · exact absurd (Sto.same_name.1 h) e
            have E := Lib.hid e
            clear e
            go_wp2_with fail
            go_meet
            exact ⟨_, rfl, fun _ h => absurd h E.out, rfl⟩
      case rest =>
      obtain ⟨nw, rfl, hnw, rfl⟩ := hcut
      have HNW := Lib.hid hnw
      clear hnw
      go_upto_region 28 with fail
      go_cut [167] (fun s167 wx => s167 = .bool false ∧ w8 = wx)
      case first =>
        cases nw
        rotate_left
        · go_wp2_with fail
          go_meet
          exact ⟨rfl, rfl⟩
        · -- not the new data: the disk died, and the elder ones are there
          have hold : f = 8 ∧ o = Sto.look s.recs nm := by
            have hne : ∀ h : o = some dat, False := fun h => by
              have := HNW.out (by rw [HOK.out, h]; rfl) (by rw [HSG.out, HSD.out, h]; rfl)
              cases this
            rcases K6.out with ⟨_, _, h⟩ | ⟨h0, _, h | h⟩
            · exact absurd (HO.out.trans h) (fun h => hne h)
            · exact absurd (HO.out.trans h) (fun h => hne h)
            · exact ⟨h0, HO.out.trans h⟩
          obtain ⟨rfl, ho⟩ := hold
          have hd_ok : hd = okb := by rw [HHD.out, HOK.out, ho]
          have hsg : okb = true → so = SG := fun h => by
            cases hh : o with
            | none => rw [HOK.out, hh] at h; cases h
            | some X => rw [HSG.out, hh]; exact HSO.out X (by rw [← ho, hh])
          clear ho HHD HOK HNW HSO HSG K6 HO HF HDB
          subst hd_ok
          cases hd
          · go_wp2_with fail
            go_meet
            exact ⟨rfl, rfl⟩
          · obtain rfl := hsg rfl
            have t1 : (so.toList != so.toList) = false := by simp
            have t2 : (so.toList == so.toList) = true := by simp
            go_wp2_with fail
            go_meet
            exact ⟨rfl, rfl⟩
      case rest =>
      obtain ⟨rfl, rfl⟩ := hcut
      clear hcd hcg HNW HSD HSG HOK HGV HO K6 HF HDB HSO K1 K3 H5 H6 H7 HM5 HM6 HM7
      have hnames : s5.names = namesK s5.recs s5.recs.length := by unfold St.names; rw [if_neg (by simp [G5.out.dead])]
      have hcount := names_count HG4.out.uniq G5.out.uniq nm (fun nm' h => by rw [HL5.out, K7.out nm' h]) (fun x y => decide (x ≤ y))
      have hsz := fun (r : Sto.Rec) (h : r ∈ s5.recs) => (H8.out.st.ok.each r h).1
      rw [← hnames, ← HHD.out] at hcount
      obtain ⟨V, hV⟩ : ∃ V, V = liveN s.recs := ⟨_, rfl⟩
      rw [← hV] at hcount
      have HNM := Lib.hid hnames; have HCT := Lib.hid hcount; have HSZ := Lib.hid hsz; have HV := Lib.hid hV
      clear hnames hcount hsz hV
      go_wp2_with fail
      refine (lab_names H8.out).mono ?_
      rintro e w9 ⟨nv, rfl, hnv, hb9⟩
      obtain ⟨na, nc, rfl⟩ := hnv.eq_slice
      obtain ⟨ns, hns⟩ : ∃ ns, ns = s5.names.mergeSort (fun x y => decide (x ≤ y)) := ⟨_, rfl⟩
      rw [← hns] at hnv ⊢
      have hct := HCT.out
      rw [← hns] at hct
      have hnl := hnv.len
      have H9 := Lib.hid (H8.out.step hb9); have HM9 := Lib.hid (HM8.out.below hb9); have HNV := Lib.hid hnv; have HNS := Lib.hid hns; have HCT := Lib.hid hct
      clear hnv hns hb9 hct H8 HM8
      go_wp2_with fail
      go_loopw [28, 171] (fun c v wx => ∃ j : Nat, j ≤ ns.length ∧ c = .int .i64 (((ns.take j).filter fun y => decide (y ≠ nm.data.toList)).length : Nat) ∧ v = .int .i64 j ∧ LabS w wx sb5 lb5 d L s5 ∧ SM wx bm s.recs ∧ Strs wx (.slice na ns.length nc) ns) (fun _ v _ => ns.length - (intOf v).toNat)
      case atStart => exact ⟨0, by omega, rfl, rfl, H9.out, HM9.out, HNV.out⟩
      case round => as_aux_lemma =>
        obtain ⟨j, hj, rfl, rfl, hS, hM, hnv⟩ := hrel
        have HSx := Lib.hid hS; have HMx := Lib.hid hM; have HNx := Lib.hid hnv
        clear hS hM hnv
        by_cases hjl : j < ns.length
        · obtain ⟨bq, oq, sq, rfl, Hsq, cq⟩ := HNx.out.at j hjl
          have q0 : (0 : Int) ≤ (j : Int) := by omega
          have q1 : (j : Int) < (ns.length : Int) := by omega
          obtain ⟨N, hN⟩ : ∃ N, N = ByteArray.mk sq.toArray := ⟨_, rfl⟩
          have hNd : N.data.toList = sq := by rw [hN]
          have hmem : sq ∈ namesK s5.recs s5.recs.length := by
            have h1 : sq ∈ ns := List.mem_of_getElem? Hsq.out
            rwa [HNS.out, List.mem_mergeSort, HNM.out] at h1
          obtain ⟨X, hX⟩ : ∃ X, Sto.look s5.recs N = some X := Option.isSome_iff_exists.1 ((mem_names (l := s5.recs) N).1 (by rw [hNd]; exact hmem))
          have hNs : N.size ≤ 1000000 := by
            obtain ⟨ir, r, _, h2, _, h4⟩ := (mem_namesK s5.recs sq _).1 hmem
            have : N = r.name := name_of (by rw [hNd, h4])
            rw [this]
            exact HSZ.out r (List.mem_of_getElem? h2)
          obtain ⟨C, hC⟩ : ∃ C, C = ((ns.take j).filter fun y => decide (y ≠ nm.data.toList)).length := ⟨_, rfl⟩
          have hCl : C ≤ j := by
            rw [hC]
            exact Nat.le_trans (List.length_filter_le _ _) (by rw [List.length_take]; omega)
          have hstep : ((ns.take (j + 1)).filter fun y => decide (y ≠ nm.data.toList)).length = C + (if N = nm then 0 else 1) := by
            rw [List.take_add_one, Hsq.out, List.filter_append, List.length_append, ← hC]
            congr 1
            by_cases e : N = nm
            · have : sq = nm.data.toList := by rw [← hNd, e]
              simp [e, this]
            · have : ¬ sq = nm.data.toList := fun h => e (name_of (by rw [hNd, h]))
              simp [e, this]
          rw [← hC]
          unfold encStr at cq
          rw [← hN] at cq
          have HX := Lib.hid hX; have HST := Lib.hid hstep
          clear hN hNd hmem hX hC hstep Hsq
          go_wp2_with fail
          refine (sget_calls _ sb5 lb5 d L s5 N wr HSx.out.st).mono ?_
          rintro e w10 ⟨hb10, v1, rfl, hv1⟩
          rw [St.get_look G5.out.dead, HX.out] at hv1 ⊢
          simp only [Option.isSome_some, Option.getD_some] at hv1 ⊢
          have hcx : (convert 24 9 v1).run Tryd.prog w10 = .ok (.string ⟨X.toArray⟩) w10 := conv_string hv1.bys
          have HS10 := Lib.hid (HSx.out.step hb10); have HM10 := Lib.hid (HMx.out.below hb10); have HN10 := Lib.hid (HNx.out.below hb10)
          clear hv1 hb10
          by_cases hNm : N = nm
          · have t1 : (N.toList == nm.toList) = true := Sto.same_name.2 hNm
            have HST2 := Lib.hid (show ((ns.take (j + 1)).filter fun y => decide (y ≠ nm.data.toList)).length = C from by rw [HST.out, if_pos hNm]; rfl)
            clear hNm hcx
            go_wp2
            exact ⟨⟨j + 1, by omega, by rw [HST2.out], by go_num, HS10.out, HM10.out, HN10.out⟩, by simp [intOf]; omega⟩
          · have t1 : (N.toList == nm.toList) = false := by
              cases h : (N.toList == nm.toList)
              · rfl
              · exact absurd (Sto.same_name.1 h) hNm
            have HST2 := Lib.hid (show ((ns.take (j + 1)).filter fun y => decide (y ≠ nm.data.toList)).length = C + 1 from by rw [HST.out, if_neg hNm])
            have hls : Sto.look s.recs N = some X := by rw [← K7.out N hNm, ← HL5.out]; exact HX.out
            obtain ⟨so2, hlk, hso2⟩ := HM10.out.look (nm := N) (by unfold maxLen; omega)
            rw [hls] at hlk
            simp only [Option.isSome_some] at hlk
            have e2 := hso2 X hls
            rw [← e2] at hcx
            have t2 : (so2.toList != so2.toList) = false := by simp
            clear hNm hso2 hls e2
            go_wp2
            exact ⟨⟨j + 1, by omega, by rw [HST2.out]; go_num, by go_num, HS10.out, HM10.out, HN10.out⟩, by simp [intOf]; omega⟩
        · obtain rfl : ns.length = j := by omega
          rw [List.take_length]
          have hct := HCT.out
          obtain ⟨C, hC⟩ : ∃ C, C = (ns.filter fun y => decide (y ≠ nm.data.toList)).length := ⟨_, rfl⟩
          rw [← hC] at hct ⊢
          have hCl : C ≤ ns.length := by rw [hC]; exact List.length_filter_le _ _
          have hml := fun ty => HMx.out.len ty
          rw [← HV.out] at hml
          clear hC
          cases hd
          · have hVC : C = V := by simpa using hct
            have t1 : ((C : Int) == (V : Int)) = true := by simp; omega
            clear hct hVC
            go_wp2_with fail
            refine (wakes11_calls _ HSx.out.lab.tab).mono ?_
            rintro e w12 ⟨rfl, hb⟩
            go_wp2
            go_ret
            exact ⟨rfl, HSx.out.bel.trans (hb.mono HSx.out.bel.size)⟩
          · have hVC : C + 1 = V := by simpa using hct
            have hC5 : C ≤ 4 := by have h1 := HV.out; have h2 := LV.out; omega
            have t3 : (C : Int) + 1 = (V : Int) := by omega
            have t1 : ((C : Int) + 1 == (V : Int)) = true := by simp; omega
            have t2 : (((C + 1 : Nat) : Int) == (V : Int)) = true := by simp; omega
            clear hct hVC
            go_wp2_with fail
            refine (wakes11_calls _ HSx.out.lab.tab).mono ?_
            rintro e w12 ⟨rfl, hb⟩
            go_wp2
            go_ret
            exact ⟨rfl, HSx.out.bel.trans (hb.mono HSx.out.bel.size)⟩
end Go.Proofs.YtmeegdicnfgjfaaDoor
