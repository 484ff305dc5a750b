/- The walk of the statement StoreOpens. -/
import Derived.Test.YtmeegdicnfgjfaaDoorStoreWakes
import Derived.Test.YtmeegdicnfgjfaaDoorStoreOpenBad
namespace Go.Proofs.YtmeegdicnfgjfaaDoor
open Go Go.RowKit Go.Mem Gf
attribute [local go_sem ↓] Go.wp_at_zero Go.wp_at_succ
set_option maxRecDepth 20000 in
set_option maxHeartbeats 4000000 in
theorem storeOpens_walk (w : World) (hT : Tab w) (n : Int) (hn : -9223372036854775808 ≤ n ∧ n ≤ 9223372036854775807) (a : Int) (ha : -9223372036854775808 ≤ a ∧ a ≤ 9223372036854775807) (r : Int) (hr : -9223372036854775808 ≤ r ∧ r ≤ 9223372036854775807) (dead : Bool) :
    Calls Tryd.prog 5 #[.int .i64 n, .int .i64 a, .int .i64 r, .bool dead] w fun e w' => e = .returned (.bool true) ∧ Below w.heap.size w w' := by
  have HT := Lib.hid hT
  clear hT
  go_enter Tryd.func5, Tryd.ntmps5
  go_upto_if 14 with fail
  go_cut [0] (fun s0 wx => ∃ n1 : Int, n1 ≤ 60 ∧ -9223372036854775808 ≤ n1 ∧ s0 = .int .i64 n1 ∧ w = wx)
  case first =>
    by_cases h : 60 < n
    · have t : decide (n > 60) = true := by simp; omega
      go_wp2_with fail
      refine (within_calls n 60 (by decide) (by decide) _).mono ?_
      rintro e w1 ⟨rfl, rfl⟩
      obtain ⟨hn1, hn2⟩ := within_range n 60 (by decide)
      go_wp2_with fail
      go_meet
      exact ⟨_, by omega, by omega, rfl, rfl⟩
    · have t : decide (n > 60) = false := by simp; omega
      go_wp2_with fail
      go_meet
      exact ⟨n, by omega, by omega, rfl, rfl⟩
  case rest =>
    obtain ⟨n1, hn1, hn2, rfl, rfl⟩ := hcut
    go_upto_region 3 with fail
    go_cut [35] (fun s35 wx => ∃ b : Bool, s35 = .bool b ∧ (b = true → 1 < a ∧ a < 1024 ∧ 0 < r ∧ r < 1024) ∧ w = wx)
    case first =>
      go_wp2_with fail
      all_goals
        go_meet
        exact ⟨_, rfl, fun hb => by first | exact absurd hb (by decide) | omega, rfl⟩
    case rest =>
      obtain ⟨b, rfl, hb, rfl⟩ := hcut
      go_upto_if 35 with fail
      go_cut [0, 1, 2] (fun s0 s1 s2 wx => ∃ n2 a2 r2 : Int, n2 ≤ 60 ∧ -9223372036854775808 ≤ n2 ∧ (-9223372036854775808 ≤ a2 ∧ a2 ≤ 9223372036854775807) ∧ (-9223372036854775808 ≤ r2 ∧ r2 ≤ 9223372036854775807) ∧ s0 = .int .i64 n2 ∧ s1 = .int .i64 a2 ∧ s2 = .int .i64 r2 ∧ w = wx)
      case first =>
        cases b
        · go_wp2_with fail
          go_meet
          exact ⟨n1, a, r, hn1, hn2, ha, hr, rfl, rfl, rfl, rfl⟩
        · have hb' := hb rfl
          have m1 := Int.tmod_lt_of_pos a (b := 9) (by decide)
          have m2 := Int.tmod_lt_of_pos r (b := 5) (by decide)
          have m3 := Int.tmod_nonneg 9 (a := a) (by omega)
          have m4 := Int.tmod_nonneg 5 (a := r) (by omega)
          obtain ⟨x, hx⟩ : ∃ x, x = a.tmod 9 := ⟨_, rfl⟩
          obtain ⟨y, hy⟩ : ∃ y, y = r.tmod 5 := ⟨_, rfl⟩
          rw [← hx] at m1 m3
          rw [← hy] at m2 m4
          have hx' : a.tmod 9 = x := hx.symm
          have hy' : r.tmod 5 = y := hy.symm
          have q1 : 0 ≤ (1 + x) * (1 + y + 1) := Int.mul_nonneg (by omega) (by omega)
          have q2 : (1 + x) * (1 + y + 1) ≤ 54 := by
            have : (1 + x) * (1 + y + 1) ≤ 9 * 6 := Int.mul_le_mul (by omega) (by omega) (by omega) (by omega)
            omega
          clear hx hy hb
          go_wp2_with fail
          go_meet
          exact ⟨_, _, _, by omega, by omega, ⟨by omega, by omega⟩, ⟨by omega, by omega⟩, rfl, rfl, rfl, rfl⟩
      case rest =>
        obtain ⟨n2, a2, r2, k1, k2, ka, kr, rfl, rfl, rfl, rfl⟩ := hcut
        clear hb hn1 hn2 ha hr hn n n1 a r b
        by_cases h1 : n2 < 1
        · go_wp2_with fail
          refine (dnew_bad n2 w (.inl h1)).mono ?_
          rintro e w1 ⟨rfl, rfl⟩
          go_wp2_with fail
          refine (wakes11_calls w HT.out).mono ?_
          rintro e w1 ⟨rfl, hb⟩
          go_wp2
          go_ret
          exact ⟨rfl, hb⟩
        · obtain ⟨k, rfl⟩ : ∃ k : Nat, n2 = k := ⟨n2.toNat, by omega⟩
          have hk1 : 1 ≤ k := by omega
          have hk2 : k ≤ 60 := by omega
          clear k1 k2 h1
          go_wp2_with fail
          refine (lab_new k w w HT.out (Below.refl _ _) hk1 (by omega)).mono ?_
          rintro e w1 ⟨d, L, rfl, hl1, ht, _⟩
          have Ht := Lib.hid ht; have H1 := Lib.hid hl1
          clear ht hl1
          go_upto_if 66 with fail
          go_cut [] (fun wx => ∃ D, Lab w wx d L D ∧ D.n = k ∧ D.dead = dead ∧ D.writes = 0 ∧ (dead = false → D = .fresh k))
          case first =>
            cases dead
            · go_wp2_with fail
              go_meet
              exact ⟨_, H1.out, rfl, rfl, rfl, fun _ => rfl⟩
            · go_wp2_with fail
              refine (lab_dstop H1.out Ht.out 0 0 (by decide)).mono ?_
              rintro e w2 ⟨rfl, hl2⟩
              have H2 := Lib.hid hl2
              clear hl2
              go_wp2_with fail
              have hm : ((DiskS.fresh k).stop 0 0).may 0 = true := DiskS.may_yes (s := (DiskS.fresh k).stop 0 0) (i := 0) (by show 0 < k; omega)
              have e1 : ((DiskS.fresh k).stop 0 0).wr 0 [] = { (DiskS.fresh k).stop 0 0 with f := ((DiskS.fresh k).stop 0 0).lay 0 [] 0, dead := true } := by
                unfold DiskS.wr
                rw [if_pos ⟨⟨hm, by decide⟩, rfl⟩]
                unfold DiskS.write
                rw [if_pos ⟨rfl, rfl⟩]
                rfl
              refine (dwrite_any d L _ 0 _ [] w2 H2.out.disk (Bys.nil _) (by show 0 < _; omega)).mono ?_
              rintro e w3 ⟨rfl, hD3, hc3⟩
              have hl3 := H2.out.chg Ht.out hc3 hD3
              rw [e1] at hl3
              have H3 := Lib.hid hl3
              clear hD3 hc3 e1 hm hl3
              go_wp2_with fail
              go_meet
              exact ⟨_, H3.out, rfl, rfl, rfl, fun h => by cases h⟩
          case rest =>
            obtain ⟨D, hl, hn, hde, hw, hfr⟩ := hcut
            have Hl := Lib.hid hl
            clear hl H1
            by_cases s1 : decide (1 ≤ a2 ∧ a2 ≤ 1024) = true
            · by_cases s2 : decide (1 ≤ r2 ∧ r2 ≤ 1024) = true
              · have s1' := of_decide_eq_true s1
                have s2' := of_decide_eq_true s2
                obtain ⟨s, rfl⟩ : ∃ s : Nat, a2 = s := ⟨a2.toNat, by omega⟩
                obtain ⟨m, rfl⟩ : ∃ m : Nat, r2 = m := ⟨r2.toNat, by omega⟩
                have hMM : s * (m + 1) ≤ 1024 * 1025 := Nat.mul_le_mul (by omega) (by omega)
                obtain ⟨M, hM⟩ : ∃ M, M = s * (m + 1) := ⟨_, rfl⟩
                have q1 : IntKind.i64.wrap ((m : Int) + 1) = (m : Int) + 1 := IntWalk.i64_in _ (by omega)
                have q2 : IntKind.i64.wrap ((s : Int) * ((m : Int) + 1)) = (M : Int) := by
                  have e2 : (s : Int) * ((m : Int) + 1) = (M : Int) := by rw [hM]; push_cast; rfl
                  rw [e2]
                  exact IntWalk.i64_in _ (by omega)
                rw [← hM] at hMM
                by_cases s3 : k = M
                · have t3 : (k : Int) = (M : Int) := by omega
                  have HM := Lib.hid hM; have HN := Lib.hid hn; have HD := Lib.hid hde; have HW := Lib.hid hw; have HF := Lib.hid hfr; have H3 := Lib.hid s3
                  clear s1 s2 hM hn hde hw hfr s3
                  cases dead
                  · have hDD := HF.out rfl
                    subst hDD
                    go_wp2_with fail
                    refine (lab_open_uniq Hl.out Ht.out (slots := s) (room := m) (by omega) (by omega) (by show 0 < _; omega) (l := List.replicate s Sto.Rec.free) (by simp) (by rw [H3.out, HM.out]; exact Holds.fresh s m) rfl (uniq_free s)).mono ?_
                    rintro e w2 ⟨sb, lb, rfl, hs2, _⟩
                    have H4 := Lib.hid hs2
                    clear hs2
                    go_wp2_with fail
                    refine (sfree_calls _ sb lb d L _ w2 H4.out.st).mono ?_
                    rintro e w3 ⟨rfl, hb3⟩
                    have hfn : St.freeN ⟨m, List.replicate s Sto.Rec.free, false, DiskS.fresh k⟩ = s := by
                      unfold St.freeN
                      rw [if_neg (by simp), List.length_replicate]
                      exact freeK_free s s (Nat.le_refl _)
                    have hnm : St.names ⟨m, List.replicate s Sto.Rec.free, false, DiskS.fresh k⟩ = [] := by
                      unfold St.names
                      rw [if_neg (by simp), List.length_replicate]
                      exact namesK_free s s (Nat.le_refl _)
                    rw [hfn]
                    have H5 := Lib.hid (H4.out.step hb3); have HNM := Lib.hid hnm
                    clear hb3 hfn hnm
                    go_wp2_with fail
                    refine (snames_calls _ sb lb d L _ w3 H5.out.st).mono ?_
                    rintro e w4 ⟨v, rfl, hv, hb4⟩
                    rw [HNM.out] at hv
                    obtain ⟨va, vc, rfl, _⟩ := own_eq_slice hv
                    have H6 := Lib.hid (H5.out.step hb4)
                    clear hv hb4
                    simp only [List.length_nil]
                    go_wp2_with fail
                    refine (wakes11_calls _ H6.out.lab.tab).mono ?_
                    rintro e w5 ⟨rfl, hb⟩
                    go_wp2
                    go_ret
                    exact ⟨rfl, H6.out.bel.trans (hb.mono H6.out.bel.size)⟩
                  · go_wp2_with fail
                    refine (lab_open Hl.out Ht.out s m (by omega) (by omega) (by rw [HN.out, H3.out, HM.out]) (by rw [HW.out]; decide)).mono ?_
                    rintro e w2 ⟨p, rfl, _, hl2, hp⟩
                    rw [open_dead HD.out (by omega)] at hl2 hp ⊢
                    have H4 := Lib.hid hl2
                    clear hl2
                    rcases hp with ⟨_, rfl⟩ | ⟨_, _, _, h, _⟩
                    · go_wp2_with fail
                      refine (wakes11_calls _ H4.out.tab).mono ?_
                      rintro e w5 ⟨rfl, hb⟩
                      go_wp2
                      go_ret
                      exact ⟨rfl, H4.out.bel.trans (hb.mono H4.out.bel.size)⟩
                    · cases h
                · have t3 : ¬ (k : Int) = (M : Int) := by omega
                  have t4 : ((k : Int) != (M : Int)) = true := by simp; omega
                  have hbad := open_bad_len d L D s m _ Hl.out.disk s1 s2 (by rw [hn, ← hM]; exact s3)
                  clear s1 s2 hM hn hde hw hfr s3
                  go_wp2_with fail
                  refine (hbad).mono ?_
                  rintro e w2 ⟨rfl, rfl⟩
                  go_wp2_with fail
                  refine (wakes11_calls _ Hl.out.tab).mono ?_
                  rintro e w3 ⟨rfl, hb⟩
                  go_wp2
                  go_ret
                  exact ⟨rfl, Hl.out.bel.trans (hb.mono Hl.out.bel.size)⟩
              · have s2 : decide (1 ≤ r2 ∧ r2 ≤ 1024) = false := by simpa using s2
                have hbad := fun p w' => open_bad_room p a2 r2 w' s1 s2
                have s1' := of_decide_eq_true s1
                have s2' := of_decide_eq_false s2
                clear s1 s2 hn hde hw hfr
                rcases (show r2 < 1 ∨ 1024 < r2 from by omega) with h | h
                · go_wp2_with fail
                  refine (hbad _ _).mono ?_
                  rintro e w2 ⟨rfl, rfl⟩
                  go_wp2_with fail
                  refine (wakes11_calls _ Hl.out.tab).mono ?_
                  rintro e w3 ⟨rfl, hb⟩
                  go_wp2
                  go_ret
                  exact ⟨rfl, Hl.out.bel.trans (hb.mono Hl.out.bel.size)⟩
                · go_wp2_with fail
                  refine (hbad _ _).mono ?_
                  rintro e w2 ⟨rfl, rfl⟩
                  go_wp2_with fail
                  refine (wakes11_calls _ Hl.out.tab).mono ?_
                  rintro e w3 ⟨rfl, hb⟩
                  go_wp2
                  go_ret
                  exact ⟨rfl, Hl.out.bel.trans (hb.mono Hl.out.bel.size)⟩
            · have s1 : decide (1 ≤ a2 ∧ a2 ≤ 1024) = false := by simpa using s1
              have hbad := fun p w' => open_bad_slots p a2 r2 w' s1
              have s1' := of_decide_eq_false s1
              clear s1 hn hde hw hfr
              rcases (show a2 < 1 ∨ 1024 < a2 from by omega) with h | h
              · go_wp2_with fail
                refine (hbad _ _).mono ?_
                rintro e w2 ⟨rfl, rfl⟩
                go_wp2_with fail
                refine (wakes11_calls _ Hl.out.tab).mono ?_
                rintro e w3 ⟨rfl, hb⟩
                go_wp2
                go_ret
                exact ⟨rfl, Hl.out.bel.trans (hb.mono Hl.out.bel.size)⟩
              · go_wp2_with fail
                refine (hbad _ _).mono ?_
                rintro e w2 ⟨rfl, rfl⟩
                go_wp2_with fail
                refine (wakes11_calls _ Hl.out.tab).mono ?_
                rintro e w3 ⟨rfl, hb⟩
                go_wp2
                go_ret
                exact ⟨rfl, Hl.out.bel.trans (hb.mono Hl.out.bel.size)⟩
end Go.Proofs.YtmeegdicnfgjfaaDoor
