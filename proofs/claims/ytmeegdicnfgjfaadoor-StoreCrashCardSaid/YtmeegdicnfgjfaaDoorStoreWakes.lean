/- Walk of the example of chapter 11. -/
import Derived.Test.YtmeegdicnfgjfaaDoorStoreLab
namespace Go.Proofs.YtmeegdicnfgjfaaDoor
open Go Go.RowKit Go.Mem Gf
attribute [local go_sem ↓] Go.wp_at_zero Go.wp_at_succ
set_option maxRecDepth 20000 in
set_option maxHeartbeats 2000000 in
theorem wakes11_calls (w : World) (hT : Tab w) : Calls Tryd.prog 20 #[] w fun e w' => e = .returned (.bool true) ∧ Below w.heap.size w w' := by
  have HT := Lib.hid hT
  clear hT
  go_enter Tryd.func20, Tryd.ntmps20
  go_wp2_with fail
  refine (lab_new 12 w w HT.out (Below.refl _ _) (by omega) (by omega)).mono ?_
  rintro e w1 ⟨d, L, rfl, hl1, ht, _⟩
  have Ht := Lib.hid ht; have H1 := Lib.hid hl1
  clear ht hl1
  go_wp2_with fail
  refine (lab_open_uniq H1.out Ht.out (slots := 4) (room := 2) (by omega) (by omega) (by decide) (l := List.replicate 4 Sto.Rec.free) rfl (Holds.fresh 4 2) rfl (uniq_free 4)).mono ?_
  rintro e w2 ⟨sb, lb, rfl, hs2, _⟩
  obtain ⟨s0, hs0⟩ : ∃ s0 : St, s0 = ⟨2, List.replicate 4 Sto.Rec.free, false, .fresh (4 * (2 + 1))⟩ := ⟨_, rfl⟩
  have hS2 : LabS w w2 sb lb d L s0 := by rw [hs0]; exact hs2
  have hg0 : SGood 0 s0 := by rw [hs0]; exact SGood.fresh 4 2 (by omega)
  have hroom : s0.room = 2 := by rw [hs0]
  have hlen : s0.recs.length = 4 := by rw [hs0]; rfl
  have hlive : liveN s0.recs = 0 := by rw [hs0]; exact live_free 4
  have H2 := Lib.hid hS2
  clear hs2 hs0 hS2
  obtain ⟨p1, g1, r1, ro1⟩ := hg0.put (by omega) (name := ⟨#[97]⟩) (data := [1]) (fits_of (by decide) (by decide) (by rw [hroom]; decide)) (slot_of_live (by omega))
  have hlook : Sto.look (putF s0.recs ⟨#[97]⟩ [1]) ⟨#[97]⟩ = some [1] := by
    have ht := slot_of_live (l := s0.recs) (by omega)
    rw [(putL_thin ht _ _).look, putL_look ht, if_pos rfl]
  have hlen1 : (putF s0.recs ⟨#[97]⟩ [1]).length = 4 := by rw [putF_len, hlen]
  have hliv1 : liveN (putF s0.recs ⟨#[97]⟩ [1]) ≤ 1 := by rw [live_putF (slot_of_live (by omega))]; split <;> omega
  have hw0 := hg0.writes
  have P1 := Lib.hid p1
  go_wp2_with fail
  refine (lab_put_new H2.out ((Below.refl _ _).alloc (Nat.le_refl _) (.cells #[.int .u8 1] 5)) ⟨#[97]⟩ ⟨w2.heap.size, 0, none⟩ 1 1 [1] (bys_lit #[.int .u8 1] rfl (by decide) 1 rfl) (Nat.le_refl _) (by decide) (by decide) (by omega)).mono ?_
  rintro e w3 ⟨rfl, hs3, _⟩
  rw [P1.out]
  obtain ⟨s1, hs1⟩ : ∃ s1, s1 = (putR s0 ⟨#[97]⟩ [1]).2 := ⟨_, rfl⟩
  rw [← hs1] at hs3 g1 r1 ro1
  rw [← r1] at hlook hlen1 hliv1
  have H3 := Lib.hid hs3; have G1 := Lib.hid g1; have HLO := Lib.hid hlook
  have hro : s1.room = 2 := ro1.trans hroom
  clear hs1 hs3 g1 r1 ro1 hlook P1 hg0 p1 hw0 hlive hlen hroom
  go_wp2_with fail
  refine (lab_stop H3.out 0 0 (by decide)).mono ?_
  rintro e w4 ⟨rfl, hs4, _⟩
  have hw4 : s1.disk.writes ≤ 2000 := G1.out.writes
  have hpd := put_dead (s := { s1 with disk := s1.disk.stop 0 0 }) (name := ⟨#[97]⟩) (data := [2]) (G1.out.holds.stop 0 0) G1.out.disk G1.out.dead rfl rfl (by show 1 ≤ s1.room; omega) (fits_of (by decide) (by decide) (by show _ ≤ s1.room * 32; rw [hro]; decide)) (slot_of_live (by show liveN s1.recs < s1.recs.length; omega))
  have hpr : (putR { s1 with disk := s1.disk.stop 0 0 } ⟨#[97]⟩ [2]).2.disk.writes ≤ 2004 := by
    have h1 := put_writes { s1 with disk := s1.disk.stop 0 0 } ⟨#[97]⟩ [2]
    have h2 : (s1.disk.stop 0 0).writes = s1.disk.writes := rfl
    simp only [h2] at h1
    omega
  obtain ⟨s2, hs2⟩ : ∃ s2 : St, s2 = { s1 with disk := s1.disk.stop 0 0 } := ⟨_, rfl⟩
  have hws : s2.disk.writes ≤ 2000 := by rw [hs2]; exact hw4
  have hr2 : s2.recs = s1.recs ∧ s2.room = s1.room := by rw [hs2]; exact ⟨rfl, rfl⟩
  rw [← hs2] at hs4 hpd hpr
  have H4 := Lib.hid hs4
  obtain ⟨pd1, pd2, pd3, pd4, pd5⟩ := hpd
  have PD := Lib.hid pd1
  clear hs4 pd1 hs2
  go_wp2_with fail
  refine (lab_put_new H4.out ((Below.refl _ _).alloc (Nat.le_refl _) (.cells #[.int .u8 2] 5)) ⟨#[97]⟩ ⟨w4.heap.size, 0, none⟩ 1 1 [2] (bys_lit #[.int .u8 2] rfl (by decide) 1 rfl) (Nat.le_refl _) (by decide) (by decide) (by omega)).mono ?_
  rintro e w5 ⟨rfl, hs5, _⟩
  rw [PD.out]
  obtain ⟨s3, hs3⟩ : ∃ s3, s3 = (putR s2 ⟨#[97]⟩ [2]).2 := ⟨_, rfl⟩
  rw [← hs3] at hs5 pd2 pd3 pd4 pd5 hpr
  rw [hr2.1, hr2.2, hro] at pd5
  have H5 := Lib.hid hs5; have PD5 := Lib.hid pd5
  clear hs3 hs5 pd2 pd3 pd4 PD pd5
  go_wp2_with fail
  refine (lab_start H5.out).mono ?_
  rintro e w6 ⟨rfl, hs6, _⟩
  have H6 := Lib.hid hs6
  clear hs6
  go_wp2_with fail
  refine (lab_open_uniq H6.out.lab Ht.out (slots := 4) (room := 2) (by omega) (by omega) (by show s3.disk.writes < _; omega) hlen1 PD5.out.start rfl G1.out.uniq).mono ?_
  rintro e w7 ⟨sb2, lb2, rfl, hs7, _⟩
  have H7 := Lib.hid hs7
  clear hs7
  go_wp2_with fail
  refine (sget_calls _ sb2 lb2 d L _ ⟨#[97]⟩ w7 H7.out.st).mono ?_
  rintro e w8 ⟨hb8, v, rfl, hv⟩
  rw [St.get_look rfl, HLO.out] at hv ⊢
  have H8 := Lib.hid (H7.out.step hb8).bel
  have HV := Lib.hid hv
  clear hv hb8
  simp only [Option.isSome_some]
  go_wp2_with fail
  refine (same8_yes _ _ [1] [1] _ (HV.out.bys.below ((Below.refl _ _).alloc (Nat.le_refl _) _)) (bys_lit #[.int .u8 1] rfl (by decide) 1 rfl) rfl).mono ?_
  rintro e w9 ⟨rfl, dr, rfl⟩
  go_wp2
  go_ret
  exact ⟨rfl, below_drewN (H8.out.alloc H8.out.size _) _⟩
end Go.Proofs.YtmeegdicnfgjfaaDoor
