/- The walk of LeaseNext. -/
import Derived.Test.YtgjabnpngggcmaaLeaTwo
import Derived.Test.YtgjabnpngggcmaaBKeep
import Derived.Test.YtgjabnpngggcmaaTailAny
import Derived.Deep.RegionHeld3
namespace Go.Proofs.Ytgjabnpngggcmaa
open Go Go.RowKit Go.Mem Gf Lea
theorem load_keyS (dst : Option Tmp) (x : Operand) (ty : TypeId) (pos : String) (af : Array Edge) (gd : Option (Tmp × Bool)) (a : Act) (w : World) (K : Act → World → Prop) (Q : Exit → Act → World → Prop)
    (hp : ptrIs (a.eval x) = true) (ht : SomeK 16 w (ptrB (a.eval x)) (ptrO (a.eval x))) :
    Oper.wp Try.prog ⟨dst, .load 26 x, ty, pos, af, gd⟩ a w K Q = K (a.put dst (.agg (readK 16 w (ptrB (a.eval x)) (ptrO (a.eval x))).toArray)) w :=
  wp_loadS Try.underlying26 rfl i16 dst x ty pos af gd a w K Q hp ht
theorem load_leaseS (dst : Option Tmp) (x : Operand) (ty : TypeId) (pos : String) (af : Array Edge) (gd : Option (Tmp × Bool)) (a : Act) (w : World) (K : Act → World → Prop) (Q : Exit → Act → World → Prop)
    (hp : ptrIs (a.eval x) = true) (ht : SomeK 17 w (ptrB (a.eval x)) (ptrO (a.eval x))) :
    Oper.wp Try.prog ⟨dst, .load 28 x, ty, pos, af, gd⟩ a w K Q = K (a.put dst (.agg (readK 17 w (ptrB (a.eval x)) (ptrO (a.eval x))).toArray)) w :=
  wp_loadS Try.underlying28 rfl i17 dst x ty pos af gd a w K Q hp ht
theorem quiet_keyS (dst : Option Tmp) (x : Operand) (ty : TypeId) (pos : String) (af : Array Edge) (gd : Option (Tmp × Bool)) (a : Act) (W : World) (K : Act → Prop)
    (hp : ptrIs (a.eval x) = true) (ht : SomeK 16 W (ptrB (a.eval x)) (ptrO (a.eval x))) :
    Oper.quiet Try.prog ⟨dst, .load 26 x, ty, pos, af, gd⟩ a (fun w' => ∃ n, w' = W.drewN n) K = K (a.put dst (.agg (readK 16 W (ptrB (a.eval x)) (ptrO (a.eval x))).toArray)) :=
  quiet_loadS Try.underlying26 rfl i16 dst x ty pos af gd a W K hp ht
attribute [local go_sem ↓] Go.wp_at_zero Go.wp_at_succ
attribute [local go_sem ↓] load_keyS load_leaseS store_lease quiet_keyS load_lease2
attribute [local go_sem] ptrB_eq ptrO_eq ptrIs_eq aggL_eq aggIs_eq readK_drew hasK_drew someK_drew readK_alloc_past hasK_alloc_past someK_alloc_past readK_alloc_in hasK_alloc_in setCells_drew setCells_alloc_past setCells_alloc_at
theorem lease_turn (sec : Key) (h : sec.length = 16) (e e' : Int) : (encL (sec, e)).toArray.setIfInBounds 16 (.int .i64 e') = (encL (sec, e')).toArray := by
  have h1 : (bV sec).length = 16 := by rw [bV_len]; exact h
  apply Array.ext_getElem?
  intro k
  rw [Array.getElem?_setIfInBounds]
  unfold encL
  simp only [List.size_toArray, List.getElem?_toArray, List.length_append, List.length_singleton, h1]
  by_cases c : 16 = k
  · subst c
    rw [if_pos rfl, if_pos (by omega), List.getElem?_append_right (by omega), h1]
    rfl
  · rw [if_neg c]
    by_cases c2 : k < 16
    · rw [List.getElem?_append_left (by omega), List.getElem?_append_left (by omega)]
    · rw [List.getElem?_eq_none (by simp; omega), List.getElem?_eq_none (by simp; omega)]
set_option maxRecDepth 100000 in
set_option maxHeartbeats 1000000 in
theorem leaseNext_walk (w : World) (v0 : Value) (xs : List ActL) (h0 : Sls 51 ActLR w v0 xs) :
    Calls Try.prog 3 #[v0] w fun e w' => e = .returned (.bool true) ∧ Below w.heap.size w w' := by
  obtain ⟨va, vc, rfl⟩ := h0.eq_slice
  obtain ⟨xn, hxn⟩ : ∃ n, n = xs.length := ⟨_, rfl⟩
  have hxm := h0.len
  rw [← hxn] at h0 hxm ⊢
  have H := Lib.hid (And.intro h0 hxn)
  clear h0 hxn
  go_enter Try.func3, Try.ntmps3
  go_wp2_with fail
  refine (new_calls w).mono ?_
  rintro r w1 ⟨tb, rfl, h1, h2, h3⟩
  have HE0 := Lib.hid (Env0.new h1 h2 h3)
  clear h1 h2 h3
  go_upto_region 5 with fail
  go_loopw [4] (fun v4 wr => ∃ (i : Nat) (vt : Value) (lt : List Les), i ≤ 15 ∧ i ≤ xn ∧ v4 = .int .i64 i ∧ Hid (Env0 w wr tb vt lt ∧ lt.length ≤ i ∧ (∀ x ∈ lt, 1 ≤ x.e ∧ x.e ≤ 50) ∧ (0 < i → lt ≠ []))) (fun v4 _ => 15 - (intOf v4).toNat)
  case atStart => exact ⟨0, _, [], by omega, by omega, rfl, HE0.out, by simp, (fun x h => by cases h), (fun h => by omega)⟩
  case round =>
    obtain ⟨i, vt, lt, hi8, hix, rfl, G⟩ := hrel
    go_upto_region 5 with fail
    go_cut [23] (fun s23 wx => ∃ bb : Bool, s23 = .bool bb ∧ (bb = true → i < xn ∧ i < 15) ∧ (bb = false → i = xn ∨ i = 15) ∧ wr = wx)
    case first =>
      by_cases c1 : i < xn
      · have d1 : decide ((i : Int) < (xn : Int)) = true := by simp; omega
        have d1' : decide (i < xn) = true := by simpa using c1
        go_wp2_with fail
        go_meet
        exact ⟨_, rfl, fun hb => ⟨c1, by simp at hb; omega⟩, (fun hb => by simp at hb; omega), rfl⟩
      · have d1 : decide ((i : Int) < (xn : Int)) = false := by simp; omega
        have d1' : decide (i < xn) = false := by simpa using c1
        go_wp2_with fail
        go_meet
        exact ⟨_, rfl, (fun hb => by cases hb), (fun _ => .inl (by omega)), rfl⟩
    case rest =>
    obtain ⟨bb, rfl, hin, hout, rfl⟩ := hcut
    cases bb
    rotate_left
    · obtain ⟨c1, c2⟩ := hin rfl
      clear hin hout
      obtain ⟨b, off, x, cs, rfl, hx, hcl, hcs, hR⟩ := H.out.1.at i (by rw [← H.out.2]; exact c1)
      have hcs2 : ∀ j u, cs[j]? = some u → wr.cell? ⟨b, off + i * 51 + j, none⟩ = some u := fun j u hj => by
        have hc := hcs j u hj
        rw [G.out.1.bel.cell (p := ⟨b, off + i * 51 + j, none⟩) (World.block_lt_of_cell? w _ hc)]; exact hc
      have hb : b < wr.heap.size := by
        have := hcs2 0 _ hR.op
        exact World.block_lt_of_cell? wr _ this
      have hb1 : b < wr.heap.size + 1 := by omega
      have hR2 := ActLR.below G.out.1.bel hR
      have hk := hR2.key_at hcs2
      have hL := hR2.lease_at hcs2
      have wl : WfL (x.sec, x.e) := hR.secl
      have s1 : SomeK 16 wr b (off + i * 51 + 1) := someK_of hk (by rw [bV_len]; exact hR.ixl)
      have s2 : SomeK 17 wr b (off + i * 51 + 17) := someK_of hL (ecL.len _ wl)
      have r1 : readK 16 wr b (off + i * 51 + 1) = bV x.ix := readK_eq hk (by rw [bV_len]; exact hR.ixl)
      have r2 : readK 17 wr b (off + i * 51 + 17) = encL (x.sec, x.e) := readK_eq hL (ecL.len _ wl)
      have al := allL wl
      have ll := ecL.len _ wl
      have hturn := lease_turn x.sec hR.secl x.e
      have i0 : (0 : Int) ≤ (i : Int) := by omega
      have i1 : (i : Int) < (xn : Int) := by omega
      have hwr := within_range x.e 50 (by decide)
      have ce := leaseEnd wl
      have HX := Lib.hid (And.intro hx.out (And.intro hR.ixl (And.intro hR.secl hturn)))
      obtain ⟨cl, hcl2⟩ : ∃ c, c = encL (x.sec, x.e) := ⟨_, rfl⟩
      have HCL := Lib.hid hcl2
      rw [← hcl2] at r2 al ll ce
      have ce2 : cl[16]'(by omega) = .int .i64 x.e := by
        rw [List.getElem?_toArray, List.getElem?_eq_getElem (by omega)] at ce
        exact Option.some.inj ce
      clear hcs hcs2 hR hR2 hk hL hcl hturn hx hcl2 wl
      go_wp2_with fail
      refine (within_calls x.e 50 (by decide) (by decide) _).mono ?_
      rintro r w3 ⟨rfl, rfl⟩
      obtain ⟨e, he⟩ : ∃ e, e = within x.e 50 := ⟨_, rfl⟩
      rw [← he] at hwr ⊢
      have e0 := hwr.1
      have e1 := hwr.2
      clear hwr he
      go_upto_region 9 with fail
      have hW : (cl.set 16 (.int .i64 (1 + e))).toArray = (encL (x.sec, 1 + e)).toArray := by
        have := HX.out.2.2.2 (1 + e)
        rw [← HCL.out] at this
        simpa using this
      rw [hW]
      have hl2 := ecL.len (x.sec, 1 + e) HX.out.2.2.1
      have hadd : ∀ d, Calls Try.prog 7 #[.pointer (some ⟨tb, 0, none⟩), .agg (bV x.ix).toArray, .agg (encL (x.sec, 1 + e)).toArray] ((wr.alloc (.cells (encL (x.sec, 1 + e)).toArray 28)).drewN d) fun r w' => ∃ bb v' l', r = .returned (.bool bb) ∧ Env0 w w' tb v' l' ∧ l'.length ≤ i + 1 ∧ (∀ x ∈ l', 1 ≤ x.e ∧ x.e ≤ 50) ∧ l' ≠ [] := fun d => by
        have hE := G.out.1.below (below_drewN ((Below.refl wr.heap.size wr).alloc (Nat.le_refl _) (.cells (encL (x.sec, 1 + e)).toArray 28)) d)
        refine (add_calls _ tb vt lt x.ix x.sec (1 + e) hE.heap hE.good (by have := G.out.2.1; omega) HX.out.2.1 HX.out.2.2.1).mono ?_
        rintro r w' ⟨bb, v', l', rfl, hr, hh, hc⟩
        have hn := next_add hr G.out.2.2.1 ⟨by omega, by omega⟩
        exact ⟨bb, v', l', rfl, hE.tchg hc hh (hr.good hE.good), by have := hr.len; have := G.out.2.1; omega, hn.1, hn.2⟩
      have HADD := Lib.hid hadd
      obtain ⟨c2, hc2⟩ : ∃ c, c = encL (x.sec, 1 + e) := ⟨_, rfl⟩
      rw [← hc2] at HADD hl2 ⊢
      have kc : cutC c2.toArray 0 17 = c2 := by unfold cutC; rw [List.toList_toArray, List.drop_zero, List.take_of_length_le (by omega)]
      clear hadd hW hc2 ce ce2 HCL
      refine Tail.wp_region_quiet_tail 7 (fun w' => ∃ n, w' = (wr.alloc (.cells c2.toArray 28)).drewN n) (by kernel_rfl) (by kernel_rfl) ⟨1, rfl⟩ ?_
      simp only [List.take_succ_cons, List.take_zero, List.drop_succ_cons, List.drop_zero]
      repeat (first
        | go_big_quiet_step (fail)
        | quiet_step (fail))
      refine wpQuiet_nil ?_
      intro _ hw'
      obtain ⟨d5, hw''⟩ := hw'
      subst hw''
      go_wp2_with
        (first
          | (refine (HADD.out d5).mono ?_
             rintro r w4 ⟨ba, v4, l4, rfl, f1, f2, f3, f4⟩
             have HF := Lib.hid (And.intro f1 (And.intro f2 (And.intro f3 f4)))
             clear f1 f2 f3 f4)
          | fail)
      go_roundw
      case rel => exact ⟨i + 1, v4, l4, by omega, by omega, by simp, HF.out.1, HF.out.2.1, HF.out.2.2.1, fun _ => HF.out.2.2.2⟩
      case measure =>
        show 15 - ((i : Int) + 1).toNat < 15 - (i : Int).toNat
        omega
    · have HO := Lib.hid (hout rfl)
      clear hin hout
      go_wp2_with fail
      refine (next_calls wr tb vt lt G.out.1.heap (by have := G.out.2.1; omega)).mono ?_
      rintro r w2 ⟨n, ok, rfl, hN, hw2⟩
      rw [hw2]
      clear hw2
      cases ok
      · have h0 : n = 0 ∧ xn = 0 := by
          rcases hN with ⟨e1, e2, _⟩ | ⟨e1, _⟩
          · refine ⟨e2, ?_⟩
            have h1 : ¬ 0 < i := fun h => G.out.2.2.2 h e1
            have := HO.out
            omega
          · cases e1
        have d1 : ((xn : Int) == 0) = true := by simp; omega
        have d2 : (n == 0) = true := by simp; omega
        have HN := Lib.hid h0
        clear hN h0
        go_wp2_with fail
        refine (wakes_calls _).mono ?_
        rintro r w3 ⟨rfl, hB3⟩
        have HB3 := Lib.hid (G.out.1.bel.trans (hB3.mono G.out.1.bel.size))
        clear hB3
        go_wp2_with fail
        go_ret
        exact ⟨rfl, HB3.out⟩
      · have hn : (∃ x ∈ lt, x.e = n) ∧ ∀ x ∈ lt, n ≤ x.e := by
          rcases hN with ⟨_, _, e1⟩ | ⟨_, e1⟩
          · cases e1
          · exact e1
        have hnr : 1 ≤ n ∧ n ≤ 50 := by
          obtain ⟨⟨x, hx, rfl⟩, _⟩ := hn
          exact G.out.2.2.1 x hx
        have hne : lt ≠ [] := fun e => by
          obtain ⟨⟨x, hx, _⟩, _⟩ := hn
          rw [e] at hx; cases hx
        have n1 := hnr.1
        have n2 := hnr.2
        have d1 : decide (n < 1) = false := by simp; omega
        have d2 : decide (50 < n) = false := by simp; omega
        have HN := Lib.hid (And.intro hn.2 hne)
        clear hN hn hnr hne
        go_wp2_with fail
        refine (clone_calls wr tb vt lt G.out.1.heap (by have := G.out.2.1; omega)).mono ?_
        rintro r w2 ⟨tu, vu, rfl, f1, f2, f3, f4⟩
        have HT2 := Lib.hid (Tw.clone G.out.1 f1 f2 f3 f4)
        clear f1 f2 f3 f4
        go_wp2_with fail
        refine (ended_calls w2 tb vt lt (n - 1) HT2.out.a.heap (by have := G.out.2.1; omega) (fun ix => HT2.out.a.few ix)).mono ?_
        rintro r w3 ⟨vo, R, v3, l3, rfl, hO3, hR3, hh3, hc3⟩
        obtain ⟨ra, rc, rfl⟩ := hO3.slice
        obtain ⟨hR0, hp3⟩ := next_none hR3 HN.out.1
        rw [hR0]
        have HT3 := Lib.hid (HT2.out.left hc3 hh3 (HT2.out.a.good.perm hp3))
        have HP3 := Lib.hid hp3
        clear hO3 hR3 hh3 hc3 hR0 hp3
        go_upto_region 18 with fail
        go_loopw [9, 10] (fun v9 v10 wx => ∃ j : Nat, j ≤ 15 ∧ v9 = .bool true ∧ v10 = .int .i64 j ∧ Hid (Tw w wx tb tu v3 vu l3 lt)) (fun _ v10 _ => 15 - (intOf v10).toNat)
        case atStart => exact ⟨0, by omega, rfl, rfl, HT3.out⟩
        case round =>
          obtain ⟨j, hj, rfl, rfl, GT⟩ := hrel
          go_upto_region 18 with fail
          go_cut [88] (fun s23 wx => ∃ bb : Bool, s23 = .bool bb ∧ (bb = true → j < xn ∧ j < 15) ∧ wr = wx)
          case first =>
            by_cases c1 : j < xn
            · have d1 : decide ((j : Int) < (xn : Int)) = true := by simp; omega
              have d1' : decide (j < xn) = true := by simpa using c1
              go_wp2_with fail
              go_meet
              exact ⟨_, rfl, fun hb => ⟨c1, by simp at hb; omega⟩, rfl⟩
            · have d1 : decide ((j : Int) < (xn : Int)) = false := by simp; omega
              have d1' : decide (j < xn) = false := by simpa using c1
              go_wp2_with fail
              go_meet
              exact ⟨_, rfl, (fun hb => by cases hb), rfl⟩
          case rest =>
          obtain ⟨bb, rfl, hin, rfl⟩ := hcut
          cases bb
          rotate_left
          · obtain ⟨c1, c2⟩ := hin rfl
            clear hin
            obtain ⟨b, off, x, cs, rfl, hx, hcl, hcs, hR⟩ := H.out.1.at j (by rw [← H.out.2]; exact c1)
            have hix := hR.ixl
            obtain ⟨ck, hck⟩ : ∃ c, c = bV x.ix := ⟨_, rfl⟩
            have hckl : ck.length = 16 := by rw [hck, bV_len]; exact hix
            have hkey : ∀ w', Below w.heap.size w w' → w'.rangeAt b (off + j * 51 + 1) ck := fun w' hb => by
              have hcs2 : ∀ j' u, cs[j']? = some u → w'.cell? ⟨b, off + j * 51 + j', none⟩ = some u := fun j' u hj' => by
                have hc := hcs j' u hj'
                rw [hb.cell (p := ⟨b, off + j * 51 + j', none⟩) (World.block_lt_of_cell? w _ hc)]; exact hc
              rw [hck]
              exact (ActLR.below hb hR).key_at hcs2
            have hl3 : l3.length ≤ 15 := by rw [HP3.out.length_eq]; have := G.out.2.1; omega
            have hlt : lt.length ≤ 15 := by have := G.out.2.1; omega
            have hof : ∀ W, W = wr.drew → Calls Try.prog 13 #[.pointer (some ⟨tb, 0, none⟩), .agg ck.toArray] W (fun r w' => ∃ vo, r = .returned vo ∧ w'.rangeAt b (off + j * 51 + 1) ck ∧
                Hid (Calls Try.prog 13 #[.pointer (some ⟨tu, 0, none⟩), .agg ck.toArray] w' (fun r w'' => ∃ vo2, r = .returned vo2 ∧ w''.rangeAt b (off + j * 51 + 1) ck ∧ Hid (Calls Try.prog 12 #[vo, vo2] w'' (fun r w4 => r = .returned (.bool true) ∧ w4.rangeAt b (off + j * 51 + 1) ck ∧ Hid (Tw w w4 tb tu v3 vu l3 lt)))))) := fun W hW => by
              subst hW
              have hT0 := GT.out.below (Below.refl wr.heap.size wr).drew
              rw [hck]
              refine (of_calls _ tb v3 l3 x.ix hT0.a.heap.tab (by omega) hix (hT0.a.few _)).mono ?_
              rintro r w' ⟨vo, out, rfl, hO, hR1, hB⟩
              have hT1 := hT0.below hB
              refine ⟨vo, rfl, by rw [← hck]; exact hkey w' hT1.a.bel, ?_⟩
              refine (of_calls _ tu vu lt x.ix hT1.b.heap.tab (by omega) hix (hT1.b.few _)).mono ?_
              rintro r w'' ⟨vo2, out2, rfl, hO2, hR2, hB2⟩
              have hT2 := hT1.below hB2
              have heq : out = out2 := OfR.eq hR1 hR2 HP3.out
              have ho8 := hT2.a.few x.ix
              have hlen : out.length ≤ 12 := by rw [hR1.perm.length_eq]; exact ho8
              refine ⟨vo2, rfl, by rw [← hck]; exact hkey w'' hT2.a.bel, ?_⟩
              refine (same_calls w'' _ _ vo vo2 out out2 (hO.chg (S := fun _ => False) (Chg.of_below hB2) (fun _ _ h => h)) hO2 (by omega) (by rw [← heq]; omega)).mono ?_
              rintro r w4 ⟨rfl, d, rfl⟩
              have hT4 := hT2.below (below_drewN (Below.refl w''.heap.size w'') d)
              exact ⟨by rw [heq]; simp, by rw [← hck]; exact hkey _ hT4.a.bel, hT4⟩
            have HOF := Lib.hid hof
            have i0 : (0 : Int) ≤ (j : Int) := by omega
            have i1 : (j : Int) < (xn : Int) := by omega
            have hr0 : wr.drew.rangeAt b (off + j * 51 + 1) ck := hkey wr.drew (GT.out.a.bel.drew)
            have hu16 := Try.underlying26
            have hi16 : (Try.prog.info? 26).map (·.size) = some ck.length := by rw [hckl]; exact i16
            clear hx hcl hcs hR hkey hck
            go_upto_region 20 with fail
            refine Tail.wp_region_any_tail 15 8 (fun w' => w' = wr.drew) (fun vo w' => w'.rangeAt b (off + j * 51 + 1) ck ∧ Hid (Calls Try.prog 13 #[.pointer (some ⟨tu, 0, none⟩), .agg ck.toArray] w' (fun r w'' => ∃ vo2, r = .returned vo2 ∧ w''.rangeAt b (off + j * 51 + 1) ck ∧ Hid (Calls Try.prog 12 #[vo, vo2] w'' (fun r w4 => r = .returned (.bool true) ∧ w4.rangeAt b (off + j * 51 + 1) ck ∧ Hid (Tw w w4 tb tu v3 vu l3 lt)))))) (by kernel_rfl) (by kernel_rfl) (by decide) rfl ?_ (fun z hz => ?_)
            · obtain ⟨e, w', fr, ⟨vo, rfl, h⟩, _⟩ := hof wr.drew rfl []
              exact ⟨vo, w', h⟩
            simp only [List.take_succ_cons, List.take_zero, List.drop_succ_cons, List.drop_zero]
            clear hz
            iterate 7
              refine Tail.any_ex (by decide) (by rfl) ?_
              apply Exists.intro
              refine ⟨fun w => ?_, ?_⟩
              · go_simp <;> with_reducible rfl
              simp only [Act.put, List.setIfInBounds_toArray, List.set_cons_zero, List.set_cons_succ]
            refine Tail.any_load (by decide) (by rfl) _ _ rfl b (off + j * 51 + 1) rfl ck (fun w h => by rw [h]; exact hr0) (fun w h => h.1) hu16 rfl hi16 ?_
            simp only [Act.put, List.setIfInBounds_toArray, List.set_cons_zero, List.set_cons_succ]
            refine Tail.any_call (by rfl) (fun w hw => ?_) ?_
            · apply Exists.intro
              apply Exists.intro
              refine ⟨?_, hof w hw⟩
              go_simp <;> with_reducible rfl
            simp only [Act.put, List.setIfInBounds_toArray, List.set_cons_zero, List.set_cons_succ]
            iterate 5
              refine Tail.any_ex (by decide) (by rfl) ?_
              apply Exists.intro
              refine ⟨fun w => ?_, ?_⟩
              · go_simp <;> with_reducible rfl
              simp only [Act.put, List.setIfInBounds_toArray, List.set_cons_zero, List.set_cons_succ]
            refine Tail.any_load (by decide) (by rfl) _ _ rfl b (off + j * 51 + 1) rfl ck (fun w h => by rw [h]; exact hr0) (fun w h => h.1) hu16 rfl hi16 ?_
            simp only [Act.put, List.setIfInBounds_toArray, List.set_cons_zero, List.set_cons_succ]
            intro w' hw'
            have HW := Lib.hid hw'
            clear hw'
            go_wp2_with
              (first
                | (go_at_call_of 13 tu
                   refine (HW.out.2.out).mono ?_
                   rintro r w4 ⟨vo2, rfl, s4, P2⟩)
                | (go_at_call 12
                   refine (P2.out).mono ?_
                   rintro r w5 ⟨rfl, s5, P3⟩)
                | fail)
            all_goals
              go_roundw
              case rel => exact ⟨j + 1, by omega, rfl, by simp, P3.out⟩
              case measure =>
                show 15 - ((j : Int) + 1).toNat < 15 - (j : Int).toNat
                omega
          · clear hin
            have hl3 : l3.length ≤ 15 := by rw [HP3.out.length_eq]; have := G.out.2.1; omega
            have hlt : lt.length ≤ 15 := by have := G.out.2.1; omega
            go_wp2_with fail
            refine (ended_calls wr tb v3 l3 n GT.out.a.heap (by omega) (fun ix => GT.out.a.few ix)).mono ?_
            rintro r w4 ⟨vo4, R4, v4, l4, rfl, hO4, hR4, hh4, hc4⟩
            have HT4 := Lib.hid (GT.out.left hc4 hh4 ((GT.out.a.good.sub List.filter_sublist).perm hR4.perm))
            have HR4 := Lib.hid hR4
            have hl4 : l4.length ≤ 15 := by
              rw [hR4.perm.length_eq]
              have : (left l3 n).length ≤ l3.length := List.length_filter_le _ _
              omega
            clear hO4 hR4 hh4 hc4
            go_wp2_with fail
            refine (next_calls w4 tb v4 l4 HT4.out.a.heap (by omega)).mono ?_
            rintro r w5 ⟨m, more, rfl, hN4, hw5⟩
            rw [hw5]
            clear hw5
            have hm : more = true → n < m := fun e => by
              subst e
              exact next_more HR4.out hN4
            have HEND : Hid (Calls Try.prog 11 #[.pointer (some ⟨tu, 0, none⟩), .int .i64 1048576] w4 fun r w' => ∃ a rl c, r = .returned (.slice a rl c) ∧ 0 < rl ∧ Below w.heap.size w w') := by
              refine (ended_calls w4 tu vu lt 1048576 HT4.out.b.heap (by omega) (fun ix => HT4.out.b.few ix)).mono ?_
              rintro r w6 ⟨vo6, R6, v6, l6, rfl, hO6, hR6, hh6, hc6⟩
              obtain ⟨a6, c6, rfl⟩ := hO6.slice
              have hT6 := HT4.out.swap.left hc6 hh6 ((HT4.out.b.good.sub List.filter_sublist).perm hR6.perm)
              exact ⟨a6, _, c6, rfl, next_all hR6 HT4.out.b.good HN.out.2, hT6.a.bel⟩
            cases more
            · clear hm hN4
              go_wp2_with fail
              refine HEND.out.mono ?_
              rintro r w6 ⟨a6, rl, c6, rfl, h6, hB6⟩
              have d6 : decide ((0 : Int) < (rl : Int)) = true := by simp; omega
              have d6' : decide (0 < rl) = true := by simp; omega
              have HB6 := Lib.hid hB6
              clear hB6 h6
              go_wp2_with fail
              refine (wakes_calls _).mono ?_
              rintro r w7 ⟨rfl, hB7⟩
              have HB7 := Lib.hid (HB6.out.trans (hB7.mono HB6.out.size))
              clear hB7
              go_wp2_with fail
              go_ret
              exact ⟨rfl, HB7.out⟩
            · have hm2 := hm rfl
              have d5 : decide (n < m) = true := by simpa using hm2
              have HM2 := Lib.hid hm2
              clear hm hN4 hm2
              go_wp2_with fail
              refine HEND.out.mono ?_
              rintro r w6 ⟨a6, rl, c6, rfl, h6, hB6⟩
              have d6 : decide ((0 : Int) < (rl : Int)) = true := by simp; omega
              have d6' : decide (0 < rl) = true := by simp; omega
              have HB6 := Lib.hid hB6
              clear hB6 h6
              go_wp2_with fail
              refine (wakes_calls _).mono ?_
              rintro r w7 ⟨rfl, hB7⟩
              have HB7 := Lib.hid (HB6.out.trans (hB7.mono HB6.out.size))
              clear hB7
              go_wp2_with fail
              go_ret
              exact ⟨rfl, HB7.out⟩
end Go.Proofs.Ytgjabnpngggcmaa
