/- The walk of the statement StoreTwice. -/
import Derived.Test.YtmeegdicnfgjfaaDoorStoreWakes
import Derived.Test.YtmeegdicnfgjfaaDoorStoreLab2
namespace Go.Proofs.YtmeegdicnfgjfaaDoor
open Go Go.RowKit Go.Mem Gf
attribute [local go_sem ↓] Go.wp_at_zero Go.wp_at_succ
/-- the two names of the statement -/
theorem two_names {l : List Sto.Rec} (hu : Sto.Uniq l) (hn : (Sto.look l ⟨#[110]⟩).isSome = true) (ho : (Sto.look l ⟨#[111]⟩).isSome = true) (hx : ∀ nm, nm ≠ ⟨#[110]⟩ → nm ≠ ⟨#[111]⟩ → Sto.look l nm = none) :
    (namesK l l.length).mergeSort (fun x y => decide (x ≤ y)) = [[110], [111]] := by
  refine names_sorted hu (by decide) (by decide) fun x => ?_
  have := mem_names (l := l) ⟨x.toArray⟩
  simp only at this
  rw [this]
  constructor
  · intro h
    by_cases e1 : (⟨x.toArray⟩ : ByteArray) = ⟨#[110]⟩
    · have : x = [110] := by simpa using e1
      rw [this]; decide
    · by_cases e2 : (⟨x.toArray⟩ : ByteArray) = ⟨#[111]⟩
      · have : x = [111] := by simpa using e2
        rw [this]; decide
      · rw [hx _ e1 e2] at h; cases h
  · intro h
    rcases List.mem_cons.1 h with rfl | h
    · exact hn
    · rcases List.mem_singleton.1 h with rfl
      exact ho
set_option maxRecDepth 20000 in
set_option maxHeartbeats 4000000 in
theorem storeTwice_walk (w : World) (hT : Tab w) (va : Value) (xs : List UInt8) (ha : Bys w va xs) (vb : Value) (ys : List UInt8) (hb : Bys w vb ys) (p : Int) (_hp : -9223372036854775808 ≤ p ∧ p ≤ 9223372036854775807) (q : Int) (_hq : -9223372036854775808 ≤ q ∧ q ≤ 9223372036854775807) (r : Int) (_hr : -9223372036854775808 ≤ r ∧ r ≤ 9223372036854775807) :
    Calls Tryd.prog 4 #[va, vb, .int .i64 p, .int .i64 q, .int .i64 r] w fun e w' => e = .returned (.bool true) ∧ Below w.heap.size w w' := by
  have HT := Lib.hid hT; have HA := Lib.hid ha; have HB := Lib.hid hb
  clear hT ha hb _hp _hq _hr
  go_enter Tryd.func4, Tryd.ntmps4
  go_wp2_with fail
  refine (lab_new 24 w w HT.out (Below.refl _ _) (by omega) (by omega)).mono ?_
  rintro e w1 ⟨d, L, rfl, hl1, ht, _⟩
  have Ht := Lib.hid ht; have H1 := Lib.hid hl1
  clear ht hl1
  go_wp2_with fail
  refine (cut8_two va xs 80 w w1 HA.out (HA.out.below H1.out.bel)).mono ?_
  rintro e w2 ⟨⟨va', rfl, hA⟩, rfl⟩
  go_wp2_with fail
  refine (cut8_two vb ys 80 w w1 HB.out (HB.out.below H1.out.bel)).mono ?_
  rintro e w2 ⟨⟨vb', rfl, hB⟩, rfl⟩
  obtain ⟨A, hAA⟩ : ∃ A, A = xs.take 80 := ⟨_, rfl⟩
  obtain ⟨B, hBB⟩ : ∃ B, B = ys.take 80 := ⟨_, rfl⟩
  have la : A.length ≤ 80 := by rw [hAA, List.length_take]; omega
  have lb' : B.length ≤ 80 := by rw [hBB, List.length_take]; omega
  rw [← hAA] at hA
  rw [← hBB] at hB
  have HA' := Lib.hid hA; have HB' := Lib.hid hB
  clear hA hB hAA hBB
  go_wp2_with fail
  refine (lab_open_uniq H1.out Ht.out (slots := 4) (room := 5) (by omega) (by omega) (by decide) (l := List.replicate 4 Sto.Rec.free) rfl (Holds.fresh 4 5) rfl (uniq_free 4)).mono ?_
  rintro e w2 ⟨sb, lb, rfl, hs2, _⟩
  obtain ⟨s0, hs0⟩ : ∃ s0 : St, s0 = ⟨5, List.replicate 4 Sto.Rec.free, false, .fresh (4 * (5 + 1))⟩ := ⟨_, rfl⟩
  have hS2 : LabS w w2 sb lb d L s0 := by rw [hs0]; exact hs2
  have hg0 : SGood 0 s0 := by rw [hs0]; exact SGood.fresh 4 5 (by omega)
  have hroom : s0.room = 5 := by rw [hs0]
  have hlen : s0.recs.length = 4 := by rw [hs0]; rfl
  have hlive : liveN s0.recs = 0 := by rw [hs0]; exact live_free 4
  have hlook0 : ∀ nm, Sto.look s0.recs nm = none := by rw [hs0]; exact look_free 4
  have H2 := Lib.hid hS2
  clear hs2 hs0 hS2
  have ht0 := slot_of_live (l := s0.recs) (by omega)
  obtain ⟨p1, g1, r1, ro1⟩ := hg0.put (by omega) (name := ⟨#[110]⟩) (data := A) (fits_of (by decide) (by omega) (by rw [hroom]; show 1 + A.length + 17 ≤ _; omega)) ht0
  have hlook1 : ∀ nm, Sto.look (putF s0.recs ⟨#[110]⟩ A) nm = if nm = ⟨#[110]⟩ then some A else none := fun nm => by rw [putF_look ht0, hlook0]
  have hlen1 : (putF s0.recs ⟨#[110]⟩ A).length = 4 := by rw [putF_len, hlen]
  have hliv1 : liveN (putF s0.recs ⟨#[110]⟩ A) ≤ 1 := by have := putF_live ht0 ⟨#[110]⟩ A; omega
  have hw0 := hg0.writes
  have P1 := Lib.hid p1
  go_wp2_with fail
  refine (lab_put_arg H2.out ⟨#[110]⟩ va' A HA'.out (by decide) (by omega) (by omega)).mono ?_
  rintro e w3 ⟨rfl, hs3, _⟩
  rw [P1.out]
  obtain ⟨s1, hs1⟩ : ∃ s1, s1 = (putR s0 ⟨#[110]⟩ A).2 := ⟨_, rfl⟩
  rw [← hs1] at hs3 g1 r1 ro1
  rw [← r1] at hlook1 hlen1 hliv1
  have hro1 : s1.room = 5 := ro1.trans hroom
  have H3 := Lib.hid hs3; have G1 := Lib.hid g1; have HLO1 := Lib.hid hlook1
  have hw1 := g1.writes
  have ht1 := slot_of_live (l := s1.recs) (by omega)
  obtain ⟨p2, g2, r2, ro2⟩ := g1.put (by omega) (name := ⟨#[111]⟩) (data := A) (fits_of (by decide) (by omega) (by rw [hro1]; show 1 + A.length + 17 ≤ _; omega)) ht1
  have hlook2 : ∀ nm, Sto.look (putF s1.recs ⟨#[111]⟩ A) nm = if nm = ⟨#[111]⟩ then some A else if nm = ⟨#[110]⟩ then some A else none := fun nm => by rw [putF_look ht1, HLO1.out]
  have hlen2 : (putF s1.recs ⟨#[111]⟩ A).length = 4 := by rw [putF_len, hlen1]
  have hliv2 : liveN (putF s1.recs ⟨#[111]⟩ A) ≤ 2 := by have := putF_live ht1 ⟨#[111]⟩ A; omega
  have P2 := Lib.hid p2
  clear hs1 hs3 g1 r1 ro1 hlook1 P1 hg0 p1 hw0 hlive hlen hroom hlook0 ht0 ht1 p2
  go_wp2_with fail
  refine (lab_put_arg H3.out ⟨#[111]⟩ va' A HA'.out (by decide) (by omega) (by omega)).mono ?_
  rintro e w4 ⟨rfl, hs4, _⟩
  rw [P2.out]
  obtain ⟨s2, hs2⟩ : ∃ s2, s2 = (putR s1 ⟨#[111]⟩ A).2 := ⟨_, rfl⟩
  rw [← hs2] at hs4 g2 r2 ro2
  rw [← r2] at hlook2 hlen2 hliv2
  have hro2 : s2.room = 5 := ro2.trans hro1
  have hw2 := g2.writes
  have H4 := Lib.hid hs4; have G2 := Lib.hid g2; have HLO2 := Lib.hid hlook2
  clear hs2 hs4 g2 r2 ro2 hlook2 P2 hw1 hlen1 hliv1
  go_wp2_with fail
  refine (within_calls p 7 (by decide) (by decide) _).mono ?_
  rintro e w5 ⟨rfl, rfl⟩
  obtain ⟨hn1, hn2⟩ := within_range p 7 (by decide)
  obtain ⟨x, hx⟩ : ∃ x, x = within p 7 := ⟨_, rfl⟩
  rw [← hx] at hn1 hn2 ⊢
  clear hx
  go_wp2_with fail
  refine (lab_stop H4.out x q (by omega)).mono ?_
  rintro e w5 ⟨rfl, hs5, _⟩
  have H5 := Lib.hid hs5
  clear hs5
  go_wp2_with fail
  refine (lab_put_arg H5.out ⟨#[110]⟩ vb' B HB'.out (by decide) (by omega) (by show s2.disk.writes < _; omega)).mono ?_
  rintro e w6 ⟨rfl, hs6, _⟩
  obtain ⟨R, hR⟩ : ∃ R, putR { s2 with disk := s2.disk.stop x q } ⟨#[110]⟩ B = R := ⟨_, rfl⟩
  obtain ⟨l3, k1, k2, k3, k4, k5, k6, k7⟩ := torn_look G2.out (by omega) x q (name := ⟨#[110]⟩) (data := B) (fits_of (by decide) (by omega) (by rw [hro2]; show 1 + B.length + 17 ≤ _; omega)) (slot_of_live (by omega)) hR
  rw [hR] at hs6 ⊢
  rw [HLO2.out, if_neg (by decide), if_pos rfl] at k6
  rw [hro2] at k1
  have k2' : l3.length = 4 := k2.trans hlen2
  have k7' : ∀ nm, nm ≠ ⟨#[110]⟩ → Sto.look l3 nm = if nm = ⟨#[111]⟩ then some A else none := fun nm hn => by rw [k7 nm hn, HLO2.out, if_neg hn]
  obtain ⟨f, s3⟩ := R
  simp only at k1 k4 k5 k6 hs6
  have H6 := Lib.hid hs6; have K1 := Lib.hid k1; have K3 := Lib.hid k3; have K6 := Lib.hid k6; have K7 := Lib.hid k7'; have K2 := Lib.hid k2'
  clear hs6 hR k1 k2 k3 k4 k6 k7 k2' k7' hlen2 hliv2 hw2 hro2 hro1
  go_wp2_with fail
  refine (lab_start H6.out).mono ?_
  rintro e w7 ⟨rfl, hs7, _⟩
  have H7 := Lib.hid hs7
  clear hs7
  go_wp2_with fail
  refine (within_calls r 2 (by decide) (by decide) _).mono ?_
  rintro e w8 ⟨rfl, rfl⟩
  obtain ⟨hm1, hm2⟩ := within_range r 2 (by decide)
  obtain ⟨y, hy⟩ : ∃ y, y = within r 2 := ⟨_, rfl⟩
  rw [← hy] at hm1 hm2 ⊢
  clear hy
  go_wp2_with fail
  refine (lab_dstop H7.out.lab Ht.out y 0 (by omega)).mono ?_
  rintro e w8 ⟨rfl, hs8⟩
  have H8 := Lib.hid hs8
  clear hs8
  obtain ⟨D3, hD3⟩ : ∃ D, D = s3.disk.start.stop y 0 := ⟨_, rfl⟩
  have hh3 : Holds D3 5 l3 := by rw [hD3]; exact K1.out.start.stop y 0
  have hd3 : D3.dead = false := by rw [hD3]; rfl
  have hw3 : D3.writes ≤ 6000 := by rw [hD3]; exact k5
  have H8' := Lib.hid (show Lab w w8 d L D3 from by rw [hD3]; exact H8.out)
  clear hD3 H8 k5
  obtain ⟨l4, q1, q2, q3, _⟩ := open_law hh3 hd3
  have q4 := open_writes D3 l3.length 5
  rw [K2.out] at q2 q3 q4
  have Q1 := Lib.hid q1; have Q2 := Lib.hid q2
  clear q1 q2 q3
  go_wp2_with fail
  refine (lab_open H8'.out Ht.out 4 5 (by omega) (by omega) (by rw [hh3.1, K2.out]) (by omega)).mono ?_
  rintro e w9 ⟨pv, rfl, _, hs9, _⟩
  obtain ⟨D4, hD4⟩ : ∃ D, D = (openR D3 4 5).2.1 := ⟨_, rfl⟩
  rw [← hD4] at hs9 q4 Q2
  have H9 := Lib.hid hs9
  clear hs9 hD4 hh3 hd3
  go_wp2_with fail
  refine (lab_dstart H9.out Ht.out).mono ?_
  rintro e w10 ⟨rfl, hs10⟩
  have H10 := Lib.hid hs10
  clear hs10
  go_wp2_with fail
  refine (lab_reopen (m := 4) H10.out Ht.out Q2.out (fun r hr => Nat.le_succ_of_le ((K3.out.thin Q1.out) r hr)) (by omega) (by omega) (by omega) (by omega) (Q1.out.1.trans K2.out)).mono ?_
  rintro e w11 ⟨s5, sb5, lb5, rfl, hs11, g5, t5, _, _⟩
  have hl5 : ∀ nm, Sto.look s5.recs nm = Sto.look l3 nm := fun nm => (t5.look nm).trans (Q1.out.look nm)
  have hlen5 : s5.recs.length = 4 := t5.1.trans (Q1.out.1.trans K2.out)
  have hln : (Sto.look s5.recs ⟨#[110]⟩).isSome = true := by
    rw [hl5]
    rcases K6.out with ⟨_, _, h⟩ | ⟨_, _, h | h⟩ <;> rw [h] <;> rfl
  have hlo : Sto.look s5.recs ⟨#[111]⟩ = some A := by rw [hl5, K7.out _ (by decide), if_pos rfl]
  have hnames := two_names g5.uniq hln (by rw [hlo]; rfl) (fun nm e1 e2 => by rw [hl5, K7.out _ e1, if_neg e2])
  have hnm5 : s5.names.mergeSort (fun x y => decide (x ≤ y)) = [[110], [111]] := by
    unfold St.names; rw [if_neg (by simp [g5.dead])]; exact hnames
  have hfree5 : s5.freeN = 2 := by
    have h1 := congrArg List.length hnames
    rw [List.length_mergeSort, names_live] at h1
    have h2 := free_live s5.recs
    unfold St.freeN; rw [if_neg (by simp [g5.dead])]
    simp at h1
    omega
  have H11 := Lib.hid hs11; have G5 := Lib.hid g5; have HNM := Lib.hid hnm5; have HFR := Lib.hid hfree5; have HLO := Lib.hid hlo; have HL5 := Lib.hid hl5
  clear hs11 g5 t5 hnames hnm5 hfree5 hln hlo hl5 q4
  go_wp2_with fail
  refine (lab_names H11.out).mono ?_
  rintro e w12 ⟨nv, rfl, hnv, hb12⟩
  rw [HNM.out] at hnv
  have HNV := Lib.hid hnv; have H12 := Lib.hid (H11.out.step hb12)
  clear hnv hb12
  go_wp2_with fail
  refine (sames_calls nv _ [[110], [111]] [[110], [111]] _ (HNV.out.below ((Below.refl _ _).alloc (Nat.le_refl _) _)) (strs_lit #[.string ⟨#[110]⟩, .string ⟨#[111]⟩] rfl (by decide) 2 rfl)).mono ?_
  rintro e w13 ⟨rfl, dr, rfl⟩
  have H13 := Lib.hid (H12.out.step (below_drewN ((Below.refl _ _).alloc (Nat.le_refl _) (.cells #[.string ⟨#[110]⟩, .string ⟨#[111]⟩] 9)) dr))
  rw [decide_eq_true rfl]
  obtain ⟨w14, hw14⟩ : ∃ w14, w14 = (w12.alloc (.cells #[.string ⟨#[110]⟩, .string ⟨#[111]⟩] 9)).drewN dr := ⟨_, rfl⟩
  rw [← hw14] at H13 ⊢
  clear hw14
  go_wp2_with fail
  refine (sfree_calls _ sb5 lb5 d L _ w14 H13.out.st).mono ?_
  rintro e w15 ⟨rfl, hb15⟩
  rw [HFR.out]
  have H15 := Lib.hid (H13.out.step hb15)
  clear hb15
  go_wp2_with fail
  refine (sget_calls _ sb5 lb5 d L _ ⟨#[110]⟩ w15 H15.out.st).mono ?_
  rintro e w16 ⟨hb16, v1, rfl, hv1⟩
  rw [St.get_look G5.out.dead, HL5.out] at hv1 ⊢
  have H16 := Lib.hid (H15.out.step hb16)
  clear hb16
  obtain ⟨X, hX⟩ : ∃ X, Sto.look l3 ⟨#[110]⟩ = some X := by
    rcases K6.out with ⟨_, _, h⟩ | ⟨_, _, h | h⟩ <;> exact ⟨_, h⟩
  have hX2 : X = B ∨ (f = 8 ∧ X = A) := by
    rcases K6.out with ⟨_, _, h⟩ | ⟨h0, _, h | h⟩
    · rw [hX] at h; cases h; exact .inl rfl
    · rw [hX] at h; cases h; exact .inl rfl
    · rw [hX] at h; cases h; exact .inr ⟨h0, rfl⟩
  have hf2 : f = 0 ∨ f = 8 := by rcases K6.out with ⟨h, _⟩ | ⟨h, _⟩ <;> simp [h]
  rw [hX] at hv1 ⊢
  simp only [Option.isSome_some, Option.getD_some] at hv1 ⊢
  have HV1 := Lib.hid hv1.bys; have HX2 := Lib.hid hX2
  clear hv1 hX K6 hX2
  go_wp2_with fail
  refine (sget_calls _ sb5 lb5 d L _ ⟨#[111]⟩ w16 H16.out.st).mono ?_
  rintro e w17 ⟨hb17, v2, rfl, hv2⟩
  rw [St.get_look G5.out.dead, HLO.out] at hv2 ⊢
  have H17 := Lib.hid (H16.out.step hb17)
  have HV1 := Lib.hid (HV1.out.below hb17)
  simp only [Option.isSome_some, Option.getD_some] at hv2 ⊢
  have HV2 := Lib.hid hv2.bys
  clear hb17 hv2
  go_wp2_with fail
  refine (same8_yes _ _ A A _ HV2.out (HA'.out.below H17.out.bel) rfl).mono ?_
  rintro e w18 ⟨rfl, dr1, hw18⟩
  have hb18 : Below w17.heap.size w17 w18 := by rw [hw18]; exact below_drewN (Below.refl _ _) dr1
  have H18 := Lib.hid (H17.out.step hb18)
  have HV1 := Lib.hid (HV1.out.below hb18)
  clear hw18 hb18
  go_wp2_with fail
  refine (same8_calls _ _ X B _ HV1.out (HB'.out.below H18.out.bel)).mono ?_
  rintro e w19 ⟨rfl, dr2, hw19⟩
  have hb19 : Below w18.heap.size w18 w19 := by rw [hw19]; exact below_drewN (Below.refl _ _) dr2
  have H19 := Lib.hid (H18.out.step hb19)
  have HV1 := Lib.hid (HV1.out.below hb19)
  clear hw19 hb19
  by_cases hXB : X = B
  · rw [decide_eq_true hXB]
    go_wp2_with fail
    refine (wakes11_calls _ H19.out.lab.tab).mono ?_
    rintro e w20 ⟨rfl, hb⟩
    go_wp2
    go_ret
    exact ⟨rfl, H19.out.bel.trans (hb.mono H19.out.bel.size)⟩
  · rw [decide_eq_false hXB]
    obtain ⟨rfl, rfl⟩ : f = 8 ∧ X = A := by
      rcases HX2.out with h | h
      · exact absurd h hXB
      · exact h
    clear hXB hf2
    go_wp2_with fail
    refine (same8_yes _ _ X X _ HV1.out (HA'.out.below H19.out.bel) rfl).mono ?_
    rintro e w20 ⟨rfl, dr3, hw20⟩
    have H20 := Lib.hid (H19.out.step (w' := w20) (by rw [hw20]; exact below_drewN (Below.refl _ _) dr3))
    clear hw20
    go_wp2_with fail
    refine (wakes11_calls _ H20.out.lab.tab).mono ?_
    rintro e w21 ⟨rfl, hb⟩
    go_wp2
    go_ret
    exact ⟨rfl, H20.out.bel.trans (hb.mono H20.out.bel.size)⟩
end Go.Proofs.YtmeegdicnfgjfaaDoor
