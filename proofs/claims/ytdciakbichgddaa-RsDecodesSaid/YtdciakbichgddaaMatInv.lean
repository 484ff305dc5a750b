/- The walk of matrix.Inverse. -/
import Derived.Test.YtdciakbichgddaaMatInv0
import Derived.Test.YtdciakbichgddaaTailNew
namespace Go.Proofs.Ytdciakbichgddaa
open Go Go.RowKit Go.Mem Gf

set_option maxRecDepth 20000 in
set_option maxHeartbeats 8000000 in
theorem inverse_calls (va : Value) (n : Nat) (A : Mx) (w : World) (ha : Rws w va (rowsL n n A)) (n1 : 1 ≤ n) (n2 : n ≤ 16) :
    Calls Try.prog 40 #[va] w fun e w' =>
      (∃ X ids Y, e = .returned (.tuple #[.slice (some ⟨X, 0, none⟩) n n, .int .i64 0]) ∧ OwnM 5 31 w' w.heap.size X ids n n Y ∧ IsInv n A Y ∧ Below w.heap.size w w') ∨
      (e = .returned (.tuple #[.slice none 0 0, .int .i64 4]) ∧ Sing n A ∧ Below w.heap.size w w') := by
  obtain ⟨aa, capa, rfl⟩ := ha.mat
  obtain ⟨ba, oa, a0, ca0, rfl, c0, _⟩ := ha.row 0 (by omega)
  have c0' : w.cell? ⟨ba, oa, none⟩ = some (.slice a0 n ca0) := c0
  have la := World.block_lt_of_cell? w _ c0'
  dsimp only at la
  clear c0
  have n0 : 0 < n := by omega
  have n0' : (0 : Int) < (n : Int) := by omega
  go_enter Try.func40, Try.ntmps40
  go_wp2_with fail
  have ca : (w.alloc (.cells #[.slice (some ⟨ba, oa, none⟩) n capa] 43)).cell? ⟨w.heap.size, 0, none⟩ = some (.slice (some ⟨ba, oa, none⟩) n capa) := by simp
  have hbel : Below w.heap.size w (w.alloc (.cells #[.slice (some ⟨ba, oa, none⟩) n capa] 43)) := (Below.refl _ _).alloc (Nat.le_refl _) _
  generalize hw1 : w.alloc (.cells #[.slice (some ⟨ba, oa, none⟩) n capa] 43) = w1 at *
  clear hw1
  have ha1 := ha.below hbel
  have c0 : w1.cell? ⟨ba, oa, none⟩ = some (.slice a0 n ca0) := (hbel.cell (p := ⟨ba, oa, none⟩) la).trans c0'
  clear c0'
  go_quiet ((go_at_call 74; exact quiet_eq (may_yes _ n n A _ (ha1.drewN _) n1 n2 n1 n2)))
  go_wp2_with fail
  refine (new_calls _).mono ?_
  rintro e w2 ⟨rfl, hf, hb2⟩
  have ca := (hb2.cell (p := ⟨w.heap.size, 0, none⟩) (World.block_lt_of_cell? w1 _ ca)).trans ca
  have ha2 := (ha1.drewN nq).below hb2
  have lf := hf.lt
  go_wp2_with fail
  refine (made_calls n n (by omega) (by omega) 76 #[.pointer (some ⟨w.heap.size, 0, none⟩)] A w2 (fun _ _ => by kernel_rfl)
    (fun i k w' hi hk hbb => (inv1_calls i k n n w.heap.size _ A w' hi hk ((hbb.cell (p := ⟨w.heap.size, 0, none⟩) (World.block_lt_of_cell? w2 _ ca)).trans ca) (ha2.below hbb)).mono
      fun e w'' ⟨he, d, hd⟩ => ⟨he, hd ▸ below_drewN (Below.refl _ _) d⟩)).mono ?_
  rintro e w3 ⟨Xb, ix, rfl, hX, hb3⟩
  go_wp2_with fail
  refine (unit_calls n n1 n2 w3).mono ?_
  rintro e w4 ⟨Yb, iy, rfl, hY, hb4⟩
  have hT : Two w4 w2.heap.size w3.heap.size w1.heap.size Xb Yb ix iy n A Idm :=
    ⟨hX.below hb4, hY, hX.lt, (hf.below hb3 lf).below hb4 (Nat.lt_of_lt_of_le lf hb3.size), lf⟩
  have hbw : Below w.heap.size w w4 := by
    have s1 := hbel.size
    have s2 : w1.heap.size ≤ w2.heap.size := hb2.size
    have s3 := hb3.size
    exact (((hbel.trans ((below_drewN (Below.refl _ w1) nq).mono s1)).trans (hb2.mono s1)).trans (hb3.mono (by omega))).trans (hb4.mono (by omega))
  have hE := Elim.start n A
  have hB1 : w.heap.size ≤ w2.heap.size := Nat.le_trans hbel.size hb2.size
  have hB2 : w2.heap.size ≤ w3.heap.size := hb3.size
  clear ha1 ha2 hf hX hY c0 ca la hbel hb2 hb3 hb4 lf
  generalize hfb : w1.heap.size = fb at *
  generalize hB1' : w2.heap.size = B1 at *
  generalize hB2' : w3.heap.size = B2 at *
  clear hfb hB1' hB2'
  go_wp2_with fail
  go_loopw [33] (fun v wr => ∃ (c : Nat) (ix iy : Nat → Nat) (FX FY : Mx), c ≤ n ∧ v = .int .i64 c ∧ Two wr B1 B2 fb Xb Yb ix iy n FX FY ∧ Elim n A FX FY c ∧ Below w.heap.size w wr)
    (fun v _ => n - (intOf v).toNat)
  case atStart => exact ⟨0, ix, iy, A, Idm, by omega, rfl, hT, hE, hbw⟩
  case round =>
    clear hT hE hbw
    obtain ⟨c, ix, iy, FX, FY, hc, rfl, hT, hE, hbw⟩ := hrel
    by_cases hcn : c < n
    · go_wp2_with fail
      go_loop [9] (fun v => ∃ p : Nat, c ≤ p ∧ p ≤ n ∧ v = .int .i64 p ∧ ∀ i, c ≤ i → i < p → FX i c = 0) (fun v => n - (intOf v).toNat)
      case atStart => exact ⟨c, by omega, by omega, rfl, fun i h1 h2 => by omega⟩
      case round =>
        obtain ⟨p, hcp, hp, rfl, hz⟩ := hrel
        have Hz := Lib.hid hz; clear hz
        by_cases hpn : p < n
        · have x1 := hT.x.ptr p hpn
          have x2 := hT.x.cell p c hpn hcn
          by_cases h0 : FX p c = 0
          · have t0 : (((FX p c).toNat : Int) == 0) = true := by rw [h0]; rfl
            have H0 := Lib.hid h0; clear h0
            go_wp2
            refine ⟨⟨p + 1, by omega, by omega, by go_num, fun i h1 h2 => ?_⟩, by simp [intOf]; omega⟩
            by_cases e : i = p
            · rw [e]; exact H0.out
            · exact Hz.out i h1 (by omega)
          · have t0 : (((FX p c).toNat : Int) == 0) = false := by have := ne_toNat h0; simp; omega
            have tpn : ((p : Int) == (n : Int)) = false := by simp; omega
            have tpn2 : (p == n) = false := by simp; omega
            have H0 := Lib.hid h0; clear h0
            have xc := hT.x.ptr c hcn
            have xf := hT.freeX c
            have xg := hT.freeX p
            have yc := hT.y.ptr c hcn
            have yp := hT.y.ptr p hpn
            go_upto_region 15 with fail
            go_cut [] (fun wx => Two wx B1 B2 fb Xb Yb (fun i => ix (sw c p i)) iy n (fun i => FX (sw c p i)) FY ∧ Below w.heap.size w wx)
            case first =>
              clear yc yp
              by_cases hcp' : c = p
              · subst hcp'
                go_region
                all_goals
                  go_wp2_with fail
                  go_meet
                  exact ⟨(hT.swapX hcn hcn).drewN 1, ((hbw.setCell (Nat.le_trans hB1 hT.x.low.1) _).setCell (Nat.le_trans hB1 hT.x.low.1) _).drew⟩
              · have hne : (⟨Xb, c, none⟩ : Addr) ≠ ⟨Xb, p, none⟩ := fun e => by injection e with _ e; exact hcp' e
                go_region
                all_goals
                  go_wp2_with fail
                  go_meet
                  exact ⟨(hT.swapX hcn hpn).drewN 1, ((hbw.setCell (Nat.le_trans hB1 hT.x.low.1) _).setCell (Nat.le_trans hB1 hT.x.low.1) _).drew⟩
            case rest =>
              clear xc xf xg yc yp x1 x2 hT hbw
              obtain ⟨hT, hbw⟩ := hcut
              have yc := hT.y.ptr c hcn
              have yp := hT.y.ptr p hpn
              have yf := hT.freeY c
              have yg := hT.freeY p
              go_upto_region 16 with fail
              go_cut [] (fun wx => Two wx B1 B2 fb Xb Yb (fun i => ix (sw c p i)) (fun i => iy (sw c p i)) n (fun i => FX (sw c p i)) (fun i => FY (sw c p i)) ∧ Below w.heap.size w wx)
              case first =>
                by_cases hcp' : c = p
                · subst hcp'
                  go_region
                  all_goals
                    go_wp2_with fail
                    go_meet
                    exact ⟨(hT.swapY hcn hcn).drewN 1, ((hbw.setCell (Nat.le_trans hB1 (Nat.le_trans hB2 hT.y.low.1)) _).setCell (Nat.le_trans hB1 (Nat.le_trans hB2 hT.y.low.1)) _).drew⟩
                · have hne : (⟨Yb, c, none⟩ : Addr) ≠ ⟨Yb, p, none⟩ := fun e => by injection e with _ e; exact hcp' e
                  go_region
                  all_goals
                    go_wp2_with fail
                    go_meet
                    exact ⟨(hT.swapY hcn hpn).drewN 1, ((hbw.setCell (Nat.le_trans hB1 (Nat.le_trans hB2 hT.y.low.1)) _).setCell (Nat.le_trans hB1 (Nat.le_trans hB2 hT.y.low.1)) _).drew⟩
              case rest =>
                clear yc yp yf yg hT hbw
                obtain ⟨hT, hbw⟩ := hcut
                have hE2 := hE.swap hcn hcp hpn
                have h00 : Hid (FX (sw c p c) c ≠ 0) := by
                  show FX (sw c p c) c ≠ 0
                  rw [show sw c p c = p from by simp [sw]]; exact H0.out
                clear H0 hE Hz
                generalize hgx : (fun i => FX (sw c p i)) = GX at *
                generalize hgy : (fun i => FY (sw c p i)) = GY at *
                generalize hix : (fun i => ix (sw c p i)) = jx at *
                generalize hiy : (fun i => iy (sw c p i)) = jy at *
                have hd0 : Hid (GX c c ≠ 0) := by
                  show GX c c ≠ 0
                  rw [← hgx]; exact h00.out
                clear hgx hgy hix hiy h00
                have x1 := hT.x.ptr c hcn
                have x2 := hT.x.cell c c hcn hcn
                have y1 := hT.y.ptr c hcn
                have lt1 := hT.x.lt.1
                have lt2 := hT.x.lt.2 c hcn
                have lt3 := hT.y.lt.1
                have lt4 := hT.y.lt.2 c hcn
                have hdl := lt256 (GX c c)
                have hil : invN (GX c c).toNat = (ginv (GX c c)).toNat := by rw [invN, ofNat_toNat]
                have Hil := Lib.hid hil; clear hil
                go_upto_region 17 with fail
                go_cut [] (fun wx => ∃ HX HY : Mx, Two wx B1 B2 fb Xb Yb jx jy n HX HY ∧ Elim n A HX HY c ∧ HX c c = 1 ∧ Below w.heap.size w wx)
                case first =>
                  refine Tail.wp_region_new_tail 20 19 (fun b w' => ∃ d, w' = (if b then wc.alloc (.cells #[.slice (some ⟨jx c, 0, none⟩) n n, .slice (some ⟨jy c, 0, none⟩) n n] 31) else wc).drewN d) (by kernel_rfl) (by kernel_rfl) (by decide) ⟨1, rfl⟩ ?_
                  simp only [List.take_succ_cons, List.take_zero, List.drop_succ_cons, List.drop_zero]
                  have hq1 : ∀ d, Calls Try.prog 37 #[.pointer (some ⟨fb, 0, none⟩), .int .u8 ((GX c c).toNat : Int)] (wc.drewN d) fun e w' => e = .returned (.int .u8 (invN (GX c c).toNat)) ∧ ∃ m, w' = wc.drewN m :=
                    fun d => Calls.quiet_of (finv_calls fb _ hdl _ (hT.field.drewN d))
                  have hq2 : ∀ d, Calls Try.prog 37 #[.pointer (some ⟨fb, 0, none⟩), .int .u8 ((GX c c).toNat : Int)] ((wc.alloc (.cells #[.slice (some ⟨jx c, 0, none⟩) n n, .slice (some ⟨jy c, 0, none⟩) n n] 31)).drewN d) fun e w' => e = .returned (.int .u8 (invN (GX c c).toNat)) ∧ ∃ m, w' = (wc.alloc (.cells #[.slice (some ⟨jx c, 0, none⟩) n n, .slice (some ⟨jy c, 0, none⟩) n n] 31)).drewN m :=
                    fun d => Calls.quiet_of (finv_calls fb _ hdl _ ((show IsField (wc.alloc _) fb from hT.fieldNew _).drewN d))
                  have Hq1 := Lib.hid hq1; have Hq2 := Lib.hid hq2; clear hq1 hq2
                  repeat (
                    refine Tail.go_step (by decide) (fun K hK => ?_)
                    go_simp
                    first
                      | (refine hK _ ?_; clear hK K)
                      | (apply Exists.intro
                         refine ⟨fun _ => ?_, fun _ => ?_, hK _ ?_⟩
                         · (go_at_call 37; exact Hq1.out _)
                         · (go_at_call 37; exact Hq2.out _)
                         clear hK K))
                  refine Tail.go_step_new rfl ⟨.slice (some ⟨wc.heap.size, 0, none⟩) 2 2, fun w' hw' => ?_, ?_⟩
                  · obtain ⟨d, rfl⟩ := hw'
                    simp only [Tail.goesAt]
                    go_simp
                    exact ⟨⟨d, rfl⟩, rfl⟩
                  show ∀ w', _ → _
                  intro w' hw'
                  obtain ⟨d5, hw''⟩ := hw'
                  simp only [if_true] at hw''
                  subst hw''
                  go_wp2_with ((go_at_call 77; refine (hT.scale_any' (B0 := w.heap.size) (by omega) hcn (ginv (GX c c)) _ Hil.out _ hB1 hB2).mono ?_; rintro e w6 ⟨rfl, hT6, hb6⟩))
                  all_goals
                    go_wp2_with fail
                    go_meet
                    refine ⟨_, _, hT6, hE2.scale (ginv_ne hd0.out), ?_, hbw.trans hb6⟩
                    rw [if_pos rfl, ginv_gm hd0.out]
                case rest =>
                  clear x1 x2 y1 lt1 lt2 lt3 lt4 hdl Hil hT hbw hE2 hd0
                  obtain ⟨HX, HY, hT, hE, h1, hbw⟩ := hcut
                  go_wp2_with fail
                  go_loopw [105] (fun v wi => ∃ (r : Nat) (KX KY : Mx), r ≤ n ∧ v = .int .i64 r ∧ Two wi B1 B2 fb Xb Yb jx jy n KX KY ∧ Elim n A KX KY c ∧ KX c c = 1 ∧ (∀ i, i < r → KX i c = Idm i c) ∧ Below w.heap.size w wi)
                    (fun v _ => n - (intOf v).toNat)
                  case atStart => exact ⟨0, HX, HY, by omega, rfl, hT, hE, h1, fun i hi => by omega, hbw⟩
                  case round =>
                    clear hT hE h1 hbw
                    obtain ⟨r, KX, KY, hr, rfl, hT, hE, h1, hcol, hbw⟩ := hrel
                    have H1 := Lib.hid h1; have Hcol := Lib.hid hcol; clear h1 hcol
                    by_cases hrn : r < n
                    · by_cases hrc : r = c
                      · have trc : ((r : Int) != (c : Int)) = false := by rw [hrc]; simp
                        have trc2 : (r != c) = false := by rw [hrc]; simp
                        have Hrc := Lib.hid hrc; clear hrc
                        go_wp2
                        refine ⟨⟨r + 1, KX, KY, by omega, by go_num, hT, hE, H1.out, fun i hi => ?_, hbw⟩, by simp [intOf]; omega⟩
                        by_cases e : i = r
                        · rw [e, Hrc.out, H1.out, Idm, if_pos rfl]
                        · exact Hcol.out i (by omega)
                      · have trc : ((r : Int) != (c : Int)) = true := by simp; omega
                        have trc2 : (r != c) = true := by simp; omega
                        have x1 := hT.x.ptr r hrn
                        have x2 := hT.x.ptr c hcn
                        have x3 := hT.x.cell r c hrn hcn
                        have y1 := hT.y.ptr r hrn
                        have y2 := hT.y.ptr c hcn
                        have Hrc := Lib.hid hrc; clear hrc
                        go_wp2_with fail
                        refine Tail.wp_region_quiet_tail 25 (fun w' => ∃ n, w' = wr.drewN n) (by kernel_rfl) (by kernel_rfl) ⟨1, rfl⟩ ?_
                        simp only [List.take_succ_cons, List.take_zero, List.drop_succ_cons, List.drop_zero]
                        repeat (first
                          | go_big_quiet_step (fail)
                          | quiet_step (fail))
                        refine wpQuiet_nil ?_
                        intro _ hw'
                        obtain ⟨d5, hw''⟩ := hw'
                        subst hw''
                        go_wp2_with ((go_at_call 78; refine ((hT.drewN d5).take_any (B0 := w.heap.size) (by omega) hrn hcn Hrc.out (KX r c) hB1 hB2).mono ?_; rintro e w6 ⟨rfl, hT6, hb6⟩))
                        all_goals
                          go_wp2
                          refine ⟨⟨r + 1, _, _, by omega, by go_num, hT6, hE.take (KX r c) Hrc.out hcn, ?_, fun i hi => ?_, (below_drewN hbw d5).trans hb6⟩, by simp [intOf]; omega⟩
                          · rw [if_neg (fun e => Hrc.out e.symm)]; exact H1.out
                          · by_cases e : i = r
                            · rw [if_pos e, e, H1.out, gm_one, UInt8.xor_self, Idm, if_neg Hrc.out]
                            · rw [if_neg e]; exact Hcol.out i (by omega)
                    · obtain rfl : r = n := by omega
                      go_wp2
                      exact ⟨⟨c + 1, _, _, _, _, by omega, by go_num, hT, hE.next Hcol.out, hbw⟩, by simp [intOf]; omega⟩
        · obtain rfl : p = n := by omega
          have hs : Hid (Sing p A) := hE.stuck hcn (fun q h1 h2 => Hz.out q h1 h2)
          have tpn : ((p : Int) == (p : Int)) = true := by simp
          go_wp2
          go_ret2
          exact .inr ⟨rfl, hs.out, hbw⟩
    · obtain rfl : c = n := by omega
      go_wp2
      go_ret2
      exact .inl ⟨Yb, iy, FY, rfl, hT.y.mono (by omega), hE.done, hbw⟩
end Go.Proofs.Ytdciakbichgddaa
