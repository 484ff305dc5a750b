/- The walk of the document's own Inverse: what is laid ahead of the elimination. -/
import Derived.Test.YtdciakbichgddaaMatRef
import Derived.Test.YtdciakbichgddaaGrid
import Derived.Test.YtdciakbichgddaaTail
import Derived.Deep.RegionHeld3
import Derived.Deep.DrawnRows
import Derived.Outline
namespace Go.Proofs.Ytdciakbichgddaa
open Go Go.RowKit Go.Mem Gf
attribute [local go_sem ↓] Go.wp_at_zero Go.wp_at_succ

/-- a matrix, Unit behind -/
def Aug (n : Nat) (A : Mx) : Mx := fun i k => if k < n then A i k else Idm i (k - n)
theorem rowL_aug (n : Nat) (A : Mx) (i : Nat) : rowL n (A i) ++ rowL n (Idm i) = rowL (n + n) (Aug n A i) := by
  unfold rowL
  rw [List.range_add, List.map_append, List.map_map]
  congr 1
  · exact List.map_congr_left fun k hk => by simp [Aug, List.mem_range.1 hk]
  · exact List.map_congr_left fun k _ => by simp [Aug]; intro h; omega
/-- rows laid so far -/
structure Laid2 (w : World) (base : Nat) (o : Value) (i m : Nat) (F : Mx) (ids caps : Nat → Nat) : Prop where
  own : w.ownsRow base 31 1 o i ((List.range i).map fun j => .slice (some ⟨ids j, 0, none⟩) m (caps j))
  rows : ∀ j, j < i → OwnB 5 w base (.slice (some ⟨ids j, 0, none⟩) m (caps j)) (rowL m (F j))
  unlike : ∀ j k, j < i → k < i → ids j = ids k → j = k
  lt : ∀ j, j < i → ids j < w.heap.size
theorem Laid2.start (w : World) (base m : Nat) (F : Mx) : Laid2 w base (.slice none 0 0) 0 m F (fun _ => 0) (fun _ => 0) :=
  ⟨World.ownsRow_nil _ _ _ _, fun j hj => by omega, fun j k hj => by omega, fun j hj => by omega⟩
theorem Laid2.push {w w2 w3 : World} {base i m : Nat} {o o' rv : Value} {F : Mx} {ids caps : Nat → Nat} (h : Laid2 w base o i m F ids caps) (hb : Below w.heap.size w w2) (hm : 0 < m) (hr : OwnB 5 w2 w.heap.size rv (rowL m (F i)))
    (hs : base ≤ w.heap.size) (ho : w3.ownsRow base 31 1 o' (i + 1) ((List.range i).map (fun j => .slice (some ⟨ids j, 0, none⟩) m (caps j)) ++ [rv])) (hg : w2.grownBy w3 o.ownBlock) : ∃ ids' caps', Laid2 w3 base o' (i + 1) m F ids' caps' := by
  obtain ⟨h1, h2, h3, h4⟩ := h
  have hr' : w2.ownsRow w.heap.size 5 1 rv m (bV (rowL m (F i))) := by
    have := hr; unfold OwnB at this; rw [rowL_len] at this; exact this
  obtain ⟨g, c, rfl, hg1, hg2⟩ := hr'.form hm
  have h1' := own_below h1 hb
  have hs3 : w2.heap.size ≤ w3.heap.size := hg.size
  have hs2 : w.heap.size ≤ w2.heap.size := hb.size
  refine ⟨fun j => if j = i then g else ids j, fun j => if j = i then c else caps j, ?_, fun j hj => ?_, fun j k hj hk e => ?_, fun j hj => ?_⟩
  · rw [List.range_succ, List.map_append]
    have e : (List.range i).map (fun j => Value.slice (some ⟨if j = i then g else ids j, 0, none⟩) m (if j = i then c else caps j)) = (List.range i).map fun j => .slice (some ⟨ids j, 0, none⟩) m (caps j) :=
      List.map_congr_left fun j hj => by have := List.mem_range.1 hj; rw [if_neg (by omega), if_neg (by omega)]
    rw [e]
    simpa using ho
  · by_cases e : j = i
    · subst e
      simp only [if_true]
      exact own_grown (hr.mono hs) h1' (by decide) hg
    · simp only [if_neg e]
      exact own_grown ((h2 j (by omega)).below hb) h1' (by decide) hg
  · by_cases e1 : j = i <;> by_cases e2 : k = i
    · omega
    · simp only [if_pos e1, if_neg e2] at e
      have := h4 k (by omega); omega
    · simp only [if_neg e1, if_pos e2] at e
      have := h4 j (by omega); omega
    · simp only [if_neg e1, if_neg e2] at e
      exact h3 j k (by omega) (by omega) e
  · by_cases e : j = i
    · subst e; simp only [if_true]; omega
    · simp only [if_neg e]; have := h4 j (by omega); omega

/-- the right half -/
def YR (n : Nat) (F : Mx) : Mx := fun i k => F i (n + k)
theorem aug_left (n : Nat) (A : Mx) : EqM n n A (Aug n A) := fun i _ k hk => by simp [Aug, hk]
theorem aug_right (n : Nat) (A : Mx) : EqM n n Idm (YR n (Aug n A)) := fun i _ k hk => by simp [YR, Aug]; intro h; omega

set_option maxRecDepth 100000 in
set_option maxHeartbeats 4000000 in
theorem rinverse_calls (va : Value) (n : Nat) (A : Mx) (w : World) (ha : Rws w va (rowsL n n A)) (n1 : 1 ≤ n) (n2 : n ≤ 16) :
    Calls Try.prog 42 #[va] w fun e w' =>
      (∃ v Y, e = .returned (.tuple #[v, .bool true]) ∧ Rws w' v (rowsL n n Y) ∧ IsInv n A Y ∧ Below w.heap.size w w') ∨
      (e = .returned (.tuple #[.slice none 0 0, .bool false]) ∧ Sing n A ∧ Below w.heap.size w w') := by
  obtain ⟨aa, capa, rfl⟩ := ha.mat
  go_enter Try.func42, Try.ntmps42
  go_wp2_with fail
  refine (runit_calls n n2 _).mono ?_
  rintro e w1 ⟨vu, rfl, hu, hb1⟩
  have ha1 := ha.below hb1
  obtain ⟨au, capu, rfl⟩ := hu.mat
  go_wp2_with fail
  go_loopw [5, 23] (fun o v wr => ∃ i : Nat, i ≤ n ∧ v = .int .i64 i ∧ (∃ ids caps, Laid2 wr w1.heap.size o i (n + n) (Aug n A) ids caps) ∧ Below w1.heap.size w1 wr)
    (fun _ v _ => n - (intOf v).toNat)
  case atStart => exact ⟨0, by omega, rfl, ⟨_, _, Laid2.start _ _ _ _⟩, Below.refl _ _⟩
  case round =>
    obtain ⟨i, hi, rfl, ⟨ids, caps, hL⟩, hbel⟩ := hrel
    have hsz : w1.heap.size ≤ wr.heap.size := hbel.size
    have hown := hL.own
    by_cases h0 : i < n
    · obtain ⟨ba, oa, ra, ca, rfl, c1, hra⟩ := ha1.row i h0
      obtain ⟨bu, ou, ru, cu, rfl, c2, hru⟩ := hu.row i h0
      have lt1 := World.block_lt_of_cell? w1 _ c1
      have lt2 := World.block_lt_of_cell? w1 _ c2
      have hS : ∀ x, Below w1.heap.size w1 x → x.cell? ⟨ba, oa + i, none⟩ = some (.slice ra n ca) ∧ x.cell? ⟨bu, ou + i, none⟩ = some (.slice ru n cu) := fun x hx =>
        ⟨(hx.cell (p := ⟨ba, oa + i, none⟩) lt1).trans c1, (hx.cell (p := ⟨bu, ou + i, none⟩) lt2).trans c2⟩
      have HS := Lib.hid hS
      clear hS c1 c2
      obtain ⟨c1, c2⟩ := HS.out wr hbel
      have hra := hra.below hbel
      have hru := hru.below hbel
      have hi1 : (i : Int) < (n : Int) := by omega
      have hi2 : (0 : Int) ≤ (i : Int) := by omega
      go_wp2_with fail
      go_region_held3 (fun w' => w'.cell? ⟨ba, oa + i, none⟩ = some (.slice ra n ca) ∧ w'.cell? ⟨bu, ou + i, none⟩ = some (.slice ru n cu)) (first | exact ⟨c1, c2⟩ | assumption | go_keep)
        (first
          | (refine stepApp_bytes E8 (by rfl) _ _ (by rfl) (base := wr.heap.size) (v := .slice none 0 0) (bs := []) (news := rowL n (A i)) (by rfl) (by rfl) (OwnB.nil _ _ _) (by exact hra) (by simp [rowL_len]; omega) (Nat.le_refl _) ?_
             intro v1 x1 hv1 hg1
             have hx1 : Below wr.heap.size wr x1 := of_drew (grown_none hg1 rfl)
             have hh := HS.out x1 (hbel.trans (hx1.mono hsz)))
          | (refine stepApp_bytes E8 (by rfl) _ _ (by rfl) (base := wr.heap.size) (v := v1) (bs := [] ++ rowL n (A i)) (news := rowL n (Idm i)) (by rfl) (by rfl) hv1 (hru.below hx1) (by simp [rowL_len]; omega) hx1.size ?_
             intro v2 x2 hv2 hg2
             rw [List.nil_append, rowL_aug] at hv2
             obtain ⟨r2, c2', e2⟩ := hv2.eq_slice
             rw [rowL_len] at e2
             subst e2
             have hx2 : Below wr.heap.size wr x2 := Below.grown hx1 hg2 hx1.size (fun b hb => (hv1.lt b hb).1)
             have hh := HS.out x2 (hbel.trans (hx2.mono hsz)))
          | (refine stepApp_one ER (by rfl) _ _ (by rfl) (base := w1.heap.size) (xs := (List.range i).map fun j => .slice (some ⟨ids j, 0, none⟩) (n + n) (caps j)) (n := i) (.slice r2 (n + n) c2') (by rfl) (by rfl) (by simp) rfl ((own_below hown hx2).alloc _) (by omega) (by decide) (by simp; have := hx2.size; omega) ?_
             intro v3 x3 hv3 hg3
             have hx3 : Below w1.heap.size w1 x3 := Below.grown ((hbel.trans (hx2.mono hsz)).alloc (Nat.le_trans hsz hx2.size) _) hg3 (by simp; have := hx2.size; omega) (fun b hb => (hown.lt b hb).1)
             have hh := HS.out x3 hx3))
      go_wp2_with fail
      exact ⟨⟨i + 1, by omega, by go_num, hL.push hx2 (by omega) hv2 hsz hv3 (grown_alloc hg3), hx3⟩, by simp [intOf]; omega⟩
    · obtain rfl : n = i := by omega
      obtain ⟨X, cX, rfl, r1, r2, hG⟩ := Grid.of_own (by omega) (by decide) hown hL.rows hL.unlike
      have hE : Elim n A (Aug n A) (YR n (Aug n A)) 0 := (Elim.start n A).congr (aug_left n A) (aug_right n A) (Nat.zero_le _)
      have W := Aft.trans hb1 hbel
      have hB : w.heap.size ≤ w1.heap.size := hb1.size
      clear hown hL hbel hu ha1 h0 hsz hi ha hb1
      generalize hB1 : w1.heap.size = B1 at *
      clear hB1
      go_wp2_with fail
      go_loopw [8] (fun v wr => ∃ (c : Nat) (ids caps : Nat → Nat) (F : Mx), c ≤ n ∧ v = .int .i64 c ∧ Grid wr B1 X ids caps n (n + n) F ∧ Elim n A F (YR n F) c ∧ Below w.heap.size w wr)
        (fun v _ => n - (intOf v).toNat)
      case atStart => exact ⟨0, ids, caps, Aug n A, by omega, rfl, hG, hE, W⟩
      case round =>
        clear hG hE W
        obtain ⟨c, ids, caps, F, hc, rfl, hG, hE, W⟩ := hrel
        by_cases hcn : c < n
        · have hcn' : (c : Int) < (n : Int) := by omega
          go_wp2_with fail
          go_loop [9] (fun v => ∃ p : Nat, c ≤ p ∧ p ≤ n ∧ v = .int .i64 p ∧ ∀ i, c ≤ i → i < p → F i c = 0) (fun v => n - (intOf v).toNat)
          case atStart => exact ⟨c, by omega, by omega, rfl, fun i h1 h2 => by omega⟩
          case round =>
            obtain ⟨p, hcp, hpn, rfl, hz⟩ := hrel
            have Hz := Lib.hid hz; clear hz
            by_cases hpn' : p < n
            · have x1 := hG.ptr p hpn'
              have x2 := hG.cell p hpn' c (by omega)
              by_cases h0 : F p c = 0
              · have t0 : (((F p c).toNat : Int) == 0) = true := by rw [h0]; rfl
                have H0 := Lib.hid h0; clear h0
                go_wp2
                refine ⟨⟨p + 1, by omega, by omega, by go_num, fun i h1 h2 => ?_⟩, by simp [intOf]; omega⟩
                by_cases e : i = p
                · rw [e]; exact H0.out
                · exact Hz.out i h1 (by omega)
              · have t0 : (((F p c).toNat : Int) == 0) = false := by have := ne_toNat h0; simp; omega
                have tpn : ((p : Int) == (n : Int)) = false := by simp; omega
                have tpn2 : (p == n) = false := by simp; omega
                have H0 := Lib.hid h0; clear h0
                have xc := hG.ptr c hcn
                have xf := hG.pfree c hcn
                have xg := hG.pfree p hpn'
                go_upto_region 17 with fail
                go_cut [] (fun wx => Grid wx B1 X (fun i => ids (sw c p i)) (fun i => caps (sw c p i)) n (n + n) (fun i => F (sw c p i)) ∧ Below w.heap.size w wx)
                case first =>
                  have hXl := hG.low.1
                  by_cases hcp' : c = p
                  · subst hcp'
                    go_region
                    all_goals
                      go_wp2_with fail
                      go_meet
                      exact ⟨(hG.swap hcn hcn).drewN 1, ((W.setCell (Nat.le_trans hB hXl) _).setCell (Nat.le_trans hB hXl) _).drew⟩
                  · have hne : (⟨X, c, none⟩ : Addr) ≠ ⟨X, p, none⟩ := fun e => by injection e with _ e; exact hcp' e
                    go_region
                    all_goals
                      go_wp2_with fail
                      go_meet
                      exact ⟨(hG.swap hcn hpn').drewN 1, ((W.setCell (Nat.le_trans hB hXl) _).setCell (Nat.le_trans hB hXl) _).drew⟩
                case rest =>
                  clear xc xf xg x1 x2 hG W
                  obtain ⟨hG, W⟩ := hcut
                  have hE2 : Elim n A (fun i => F (sw c p i)) (YR n fun i => F (sw c p i)) c := hE.swap hcn hcp hpn'
                  have h00 : Hid (F (sw c p c) c ≠ 0) := by
                    show F (sw c p c) c ≠ 0
                    rw [show sw c p c = p from by simp [sw]]; exact H0.out
                  clear H0 hE Hz t0 tpn tpn2
                  generalize hgx : (fun i => F (sw c p i)) = G at *
                  generalize hgy : (fun i => ids (sw c p i)) = jds at *
                  generalize hgz : (fun i => caps (sw c p i)) = japs at *
                  have hd0 : Hid (G c c ≠ 0) := by
                    show G c c ≠ 0
                    rw [← hgx]; exact h00.out
                  clear hgx hgy hgz h00
                  have x1 := hG.ptr c hcn
                  have x2 := hG.cell c hcn c (by omega)
                  have hdl := lt256 (G c c)
                  go_wp2_with fail
                  refine (rinv_calls _ hdl _).mono ?_
                  rintro e wq ⟨rfl, rfl⟩
                  have hil : invN (G c c).toNat = (ginv (G c c)).toNat := by rw [invN, ofNat_toNat]
                  rw [hil]
                  clear hil
                  go_wp2_with fail
                  obtain ⟨d, hd⟩ : ∃ d, d = ginv (G c c) := ⟨_, rfl⟩
                  rw [← hd]
                  have Hd := Lib.hid hd
                  clear hd x1 x2
                  have hdd := lt256 d
                  go_loopw [91] (fun v wi => ∃ k : Nat, k ≤ n + n ∧ v = .int .i64 k ∧ Grid wi B1 X jds japs n (n + n) (fun a j => if a = c ∧ j < k then gm d (G a j) else G a j) ∧ Below w.heap.size w wi)
                    (fun v _ => n + n - (intOf v).toNat)
                  case atStart => exact ⟨0, by omega, rfl, hG.congr fun a _ j _ => by simp, W⟩
                  case round =>
                    clear hG W
                    obtain ⟨k, hk, rfl, hG, W⟩ := hrel
                    by_cases hkn : k < n + n
                    · have x1 := hG.ptr c hcn
                      have x2 := hG.cell c hcn k hkn
                      have x3 := hG.free c hcn k hkn
                      simp only [Nat.lt_irrefl, and_false, if_false] at x2
                      have hgk := lt256 (G c k)
                      have hc1 : ∀ e, Calls Try.prog 33 #[.int .u8 ((G c k).toNat : Int), .int .u8 (d.toNat : Int)] (wr.drewN e) fun e' w' => e' = .returned (.int .u8 (mul (G c k).toNat d.toNat)) ∧ ∃ m, w' = wr.drewN m := fun e => quiet_eq (rmul_calls _ _ hgk hdd (wr.drewN e))
                      have Hc1 := Lib.hid hc1
                      clear hc1
                      have hk1 : (k : Int) < (n : Int) + (n : Int) := by omega
                      have hk2 : (0 : Int) ≤ (k : Int) := by omega
                      have hc1 : (c : Int) < (n : Int) := by omega
                      have hc2 : (0 : Int) ≤ (c : Int) := by omega
                      go_wp2_with fail
                      refine Tail.wp_region_quiet_tail 14 (fun w' => ∃ n, w' = wr.drewN n) (by kernel_rfl) (by kernel_rfl) ⟨1, rfl⟩ ?_
                      simp only [List.take_succ_cons, List.take_zero, List.drop_succ_cons, List.drop_zero]
                      repeat (first
                        | go_big_quiet_step ((go_at_call 33; exact Hc1.out _))
                        | quiet_step ((go_at_call 33; exact Hc1.out _)))
                      refine wpQuiet_nil ?_
                      intro _ hw'
                      obtain ⟨d5, hw''⟩ := hw'
                      subst hw''
                      rw [← toNat_gm]
                      go_wp2
                      refine ⟨⟨k + 1, by omega, by go_num, ((hG.drewN d5).set hcn hkn (gm (G c k) d)).congr fun a _ j _ => ?_, (below_drewN W d5).setCell (Nat.le_trans hB (hG.low.2 c hcn)) _⟩, by simp [intOf]; omega⟩
                      by_cases e1 : a = c
                      · subst e1
                        by_cases e2 : j = k
                        · subst e2; simp [gm_comm]
                        · have : (j < k + 1) = (j < k) := by simp; omega
                          simp [e2, this]
                      · simp [e1]
                    · obtain rfl : n + n = k := by omega
                      have hG := hG.congr (G := fun a j => if a = c then gm d (G a j) else G a j) (fun a _ j hj => by simp [hj])
                      have hE := hE2.scale (d := d) (by rw [Hd.out]; exact ginv_ne hd0.out)
                      have h1 : (fun a j => if a = c then gm d (G a j) else G a j) c c = (1 : UInt8) := by
                        simp only [if_true]
                        rw [Hd.out]; exact ginv_gm hd0.out
                      change Elim n A (fun a j => if a = c then gm d (G a j) else G a j) (YR n fun a j => if a = c then gm d (G a j) else G a j) c at hE
                      clear hE2 hd0 Hd hdl hk hkn
                      generalize (fun a j => if a = c then gm d (G a j) else G a j) = H at *
                      clear hdd
                      go_wp2_with fail
                      go_loopw [12] (fun v wi => ∃ (r : Nat) (K : Mx), r ≤ n ∧ v = .int .i64 r ∧ Grid wi B1 X jds japs n (n + n) K ∧ Elim n A K (YR n K) c ∧ K c c = 1 ∧ (∀ i, i < r → K i c = Idm i c) ∧ Below w.heap.size w wi)
                        (fun v _ => n - (intOf v).toNat)
                      case atStart => exact ⟨0, H, by omega, rfl, hG, hE, h1, fun i hi => by omega, W⟩
                      case round =>
                        clear hG hE h1 W
                        obtain ⟨r, K, hr, rfl, hG, hE, h1, hcol, W⟩ := hrel
                        have H1 := Lib.hid h1; have Hcol := Lib.hid hcol; clear h1 hcol
                        by_cases hrn : r < n
                        · have x1 := hG.ptr r hrn
                          have x2 := hG.cell r hrn c (by omega)
                          by_cases hrc : r = c
                          · have trc : ((r : Int) == (c : Int)) = true := by rw [hrc]; simp
                            have trc2 : (r == c) = true := by rw [hrc]; simp
                            have Hrc := Lib.hid hrc; clear hrc
                            go_wp2
                            refine ⟨⟨r + 1, K, by omega, by go_num, hG, hE, H1.out, fun i hi => ?_, W⟩, by simp [intOf]; omega⟩
                            by_cases e : i = r
                            · rw [e, Hrc.out, H1.out, Idm, if_pos rfl]
                            · exact Hcol.out i (by omega)
                          · have trc : ((r : Int) == (c : Int)) = false := by simp; omega
                            have trc2 : (r == c) = false := by simp; omega
                            have Hrc := Lib.hid hrc; clear hrc
                            by_cases h0 : K r c = 0
                            · have t0 : (((K r c).toNat : Int) == 0) = true := by rw [h0]; rfl
                              have H0 := Lib.hid h0; clear h0
                              go_wp2
                              refine ⟨⟨r + 1, K, by omega, by go_num, hG, hE, H1.out, fun i hi => ?_, W⟩, by simp [intOf]; omega⟩
                              by_cases e : i = r
                              · rw [e, H0.out, Idm, if_neg Hrc.out]
                              · exact Hcol.out i (by omega)
                            · have t0 : (((K r c).toNat : Int) == 0) = false := by have := ne_toNat h0; simp; omega
                              clear h0
                              obtain ⟨f, hf⟩ : ∃ f, f = K r c := ⟨_, rfl⟩
                              rw [← hf] at t0 x2
                              have Hf := Lib.hid hf
                              clear hf
                              have hff := lt256 f
                              go_wp2_with fail
                              clear x1 x2 t0
                              obtain ⟨wo, hwo⟩ : ∃ wo, wo = wr := ⟨_, rfl⟩
                              rw [← hwo] at hG W ⊢
                              clear hwo
                              go_loopw [134] (fun v wi => ∃ k : Nat, k ≤ n + n ∧ v = .int .i64 k ∧ Grid wi B1 X jds japs n (n + n) (fun a j => if a = r ∧ j < k then K a j ^^^ gm f (K c j) else K a j) ∧ Below w.heap.size w wi)
                                (fun v _ => n + n - (intOf v).toNat)
                              case atStart => exact ⟨0, by omega, rfl, hG.congr fun a _ j _ => by simp, W⟩
                              case round =>
                                clear hG W
                                obtain ⟨k, hk, rfl, hG, W⟩ := hrel
                                by_cases hkn : k < n + n
                                · have x1 := hG.ptr r hrn
                                  have x2 := hG.cell r hrn k hkn
                                  have x3 := hG.free r hrn k hkn
                                  have x4 := hG.ptr c hcn
                                  have x5 := hG.cell c hcn k hkn
                                  simp only [Nat.lt_irrefl, and_false, if_false] at x2
                                  rw [if_neg (fun e => Hrc.out e.1.symm)] at x5
                                  have hg1 := lt256 (K r k)
                                  have hg2 := lt256 (K c k)
                                  have hml := lt256 (gm f (K c k))
                                  have hxor := bits_xor_u8 (K r k).toNat (gm f (K c k)).toNat hg1 hml
                                  have hc1 : ∀ e, Calls Try.prog 33 #[.int .u8 (f.toNat : Int), .int .u8 ((K c k).toNat : Int)] (wr.drewN e) fun e' w' => e' = .returned (.int .u8 ((gm f (K c k)).toNat : Int)) ∧ ∃ m, w' = wr.drewN m := fun e => by
                                    rw [toNat_gm]
                                    exact quiet_eq (rmul_calls _ _ hff hg2 (wr.drewN e))
                                  have Hc1 := Lib.hid hc1
                                  clear hc1
                                  have hk1 : (k : Int) < (n : Int) + (n : Int) := by omega
                                  have hk2 : (0 : Int) ≤ (k : Int) := by omega
                                  have hc1 : (c : Int) < (n : Int) := by omega
                                  have hc2 : (0 : Int) ≤ (c : Int) := by omega
                                  have hr1 : (r : Int) < (n : Int) := by omega
                                  have hr2 : (0 : Int) ≤ (r : Int) := by omega
                                  go_wp2_with fail
                                  refine Tail.wp_region_quiet_tail 17 (fun w' => ∃ n, w' = wr.drewN n) (by kernel_rfl) (by kernel_rfl) ⟨1, rfl⟩ ?_
                                  simp only [List.take_succ_cons, List.take_zero, List.drop_succ_cons, List.drop_zero]
                                  repeat (first
                                    | go_big_quiet_step ((go_at_call 33; exact Hc1.out _))
                                    | quiet_step ((go_at_call 33; exact Hc1.out _)))
                                  refine wpQuiet_nil ?_
                                  intro _ hw'
                                  obtain ⟨d5, hw''⟩ := hw'
                                  subst hw''
                                  rw [← UInt8.toNat_xor]
                                  go_wp2
                                  refine ⟨⟨k + 1, by omega, by go_num, ((hG.drewN d5).set hrn hkn (K r k ^^^ gm f (K c k))).congr fun a _ j _ => ?_, (below_drewN W d5).setCell (Nat.le_trans hB (hG.low.2 r hrn)) _⟩, by simp [intOf]; omega⟩
                                  by_cases e1 : a = r
                                  · subst e1
                                    by_cases e2 : j = k
                                    · subst e2; simp
                                    · have : (j < k + 1) = (j < k) := by simp; omega
                                      simp [e2, this]
                                  · simp [e1]
                                · obtain rfl : n + n = k := by omega
                                  have hG := hG.congr (G := fun a j => if a = r then K a j ^^^ gm f (K c j) else K a j) (fun a _ j hj => by simp [hj])
                                  have hE := hE.take f Hrc.out hcn
                                  go_wp2
                                  refine ⟨⟨r + 1, _, by omega, by go_num, hG, hE, ?_, fun i hi => ?_, W⟩, by simp [intOf]; omega⟩
                                  · simp only [if_neg (fun e : c = r => Hrc.out e.symm)]; exact H1.out
                                  · by_cases e : i = r
                                    · rw [e]
                                      simp only [if_true]
                                      rw [H1.out, gm_one, Hf.out, UInt8.xor_self, Idm, if_neg Hrc.out]
                                    · simp only [if_neg e]; exact Hcol.out i (by omega)
                        · obtain rfl : n = r := by omega
                          go_wp2
                          exact ⟨⟨c + 1, jds, japs, K, by omega, by go_num, hG, hE.next Hcol.out, W⟩, by simp [intOf]; omega⟩
            · obtain rfl : n = p := by omega
              have hs : Hid (Sing n A) := hE.stuck hcn (fun q h1 h2 => Hz.out q h1 h2)
              have tpn : ((n : Int) == (n : Int)) = true := by simp
              go_wp2
              go_ret2
              exact .inr ⟨rfl, hs.out, W⟩
        · obtain rfl : n = c := by omega
          have hI := hE.done
          clear hE
          go_wp2_with fail
          obtain ⟨wo, hwo⟩ : ∃ wo, wo = wr := ⟨_, rfl⟩
          rw [← hwo] at hG W ⊢
          clear hwo
          have hs := W.size
          go_loopw [15, 158] (fun o v wi => ∃ j : Nat, j ≤ n ∧ v = .int .i64 j ∧ wi.ownsRow wo.heap.size 31 1 o j ((List.range j).map fun q => .slice (some ⟨ids q, n, none⟩) n (caps q - n)) ∧ Below wo.heap.size wo wi)
            (fun _ v _ => n - (intOf v).toNat)
          case atStart => exact ⟨0, by omega, rfl, World.ownsRow_nil _ _ _ _, Below.refl _ _⟩
          case round =>
            obtain ⟨j, hj, rfl, hown, hbi⟩ := hrel
            have hG2 := hG.below (by omega) (by omega) hbi
            have hsi := hbi.size
            by_cases hjn : j < n
            · have x1 := hG2.ptr j hjn
              have hr := hG2.room j hjn
              have hn2 : n < caps j := by omega
              have hn3 : (n : Int) < (caps j : Int) := by omega
              have hn4 : (n : Int) ≤ (n : Int) + (n : Int) := by omega
              go_wp2_with (at_builtin; refine app_one ER rfl _ _ rfl (.slice (some ⟨ids j, n, none⟩) n (caps j - n)) rfl rfl ?c1 rfl hown ?c2 (by decide) ?c3 ?_)
              case c1 => rfl
              case c2 => omega
              case c3 => exact hsi
              intro v' w3 hown' hgrow
              go_wp2_with fail
              exact ⟨⟨j + 1, by omega, by go_num, by rw [List.range_succ, List.map_append]; exact hown', Below.grown hbi hgrow hsi (fun b hb => (hown.lt b hb).1)⟩, by simp [intOf]; omega⟩
            · obtain rfl : n = j := by omega
              go_wp2
              go_ret2
              refine .inl ⟨_, YR n F, rfl, rws_of_own hown (rowsL_len _ _ _) (fun q r hq => ?_), hI, Aft.trans W hbi⟩
              have hlt : q < n := by
                rcases Nat.lt_or_ge q n with h | h
                · exact h
                · rw [List.getElem?_eq_none (by rw [rowsL_len]; exact h)] at hq; cases hq
              rw [rowsL_get _ _ _ _ hlt] at hq
              cases hq
              refine ⟨.slice (some ⟨ids q, n, none⟩) n (caps q - n), by simp [hlt], ?_⟩
              have := hG2.suffix hlt n (by omega)
              rw [Nat.add_sub_cancel] at this
              exact this
end Go.Proofs.Ytdciakbichgddaa
