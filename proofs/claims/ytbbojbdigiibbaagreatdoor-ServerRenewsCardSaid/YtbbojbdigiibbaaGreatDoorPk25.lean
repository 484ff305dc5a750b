/- Texts of this proof, packed: SrvTick. -/
import Derived.Test.YtbbojbdigiibbaaGreatDoorPk24
section
namespace Go.Proofs.YtbbojbdigiibbaaGreatDoor
open Go Go.RowKit Go.Mem Gf Lea
set_option linter.unusedVariables false
attribute [local go_sem ↓] Go.wp_at_zero Go.wp_at_succ
attribute [local go_sem ↓] load_key store_key slice_key
attribute [local go_sem] ptrB_eq ptrO_eq ptrIs_eq aggL_eq aggIs_eq readK_drew hasK_drew readK_alloc_past hasK_alloc_past readK_alloc_in hasK_alloc_in setCells_drew setCells_alloc_past setCells_alloc_at
theorem chg_old {S : Nat → Prop} {w w' : World} (h : Chg (fun b => S b ∨ w.heap.size ≤ b) w w') : Chg S w w' := ⟨h.os, h.tape, h.output, h.size, fun k hk hs => h.block k hk (fun h' => h'.elim hs (fun h2 => by omega))⟩
theorem row_apart {w : World} {b1 b2 n1 n2 s1 s2 : Nat} {t1 t2 : TypeId} {v1 v2 : Value} {x1 x2 : List Value} (h1 : w.ownsRow b1 t1 s1 v1 n1 x1) (h2 : w.ownsRow b2 t2 s2 v2 n2 x2) (hne : t1 ≠ t2) : ∀ g, v1.ownBlock = some g → v2.ownBlock ≠ some g := fun g e1 e2 => by
  rcases h1.2 with ⟨rfl, _⟩ | ⟨g1, c1, q1, rfl, _, hg1, _⟩
  · cases e1
  · rcases h2.2 with ⟨rfl, _⟩ | ⟨g2, c2, q2, rfl, _, hg2, _⟩
    · cases e2
    · cases e1; cases e2
      rw [hg1] at hg2
      simp at hg2
      exact hne hg2.2
set_option maxRecDepth 20000 in
set_option maxHeartbeats 4000000 in
theorem tick_calls (C X : Nat → Prop) (pb : Nat) (s : SrvS) (m : Nat) (now : Int) (w : World) (h : IsSrv w C X pb s) (hs : SLive m s.st) (hbr : s.broken = false) (hB : SrvB s) (hm : m < 900000) (hr : s.st.recs.length ≤ 120) (htl : s.tab.length ≤ 1000) :
    Calls Tryz.prog 32 #[.pointer (some ⟨pb, 0, none⟩), .int .i64 now] w fun e w' => ∃ vo out C' s', e = .returned vo ∧ TickR s now out s' ∧ OwnG bV WfK 16 39 w' w.heap.size vo out ∧ (∀ g, vo.ownBlock = some g → ¬ C' g) ∧ IsSrv w' C' X pb s' ∧ SChg C C' w w' := by
  obtain ⟨sb, lb, d, L, tb, v, hA⟩ := id h
  have hdead : s.dead = false := by unfold SrvS.dead; rw [hbr, hs.disk, hs.dead]; rfl
  have c4 : w.cell? ⟨pb, 4, none⟩ = some (.pointer (some ⟨tb, 0, none⟩)) := hA.blk.cell 4
  have H := Lib.hid (And.intro h (And.intro hA (And.intro hs (And.intro hB (And.intro hm (And.intro hr (And.intro hdead htl)))))))
  clear h hA hs hB hm hr hdead hbr htl
  go_enter Tryz.func32, Tryz.ntmps32
  go_wp2_with fail
  refine (srvdead_calls C X pb s w H.out.1).mono ?_
  rintro e w1 ⟨rfl, rfl⟩
  rw [H.out.2.2.2.2.2.2.1]
  go_wp2_with fail
  refine (ended_calls w tb v s.tab now H.out.2.1.heap (by have := H.out.2.2.2.1.tab; omega) (fun ix => by have := H.out.2.1.good.few ix; omega)).mono ?_
  rintro e w2 ⟨vo, R, v', l1, rfl, hO, hE, hh, hc⟩
  have hg1 : Lea.Good l1 := (H.out.2.1.good.sub List.filter_sublist).perm hE.perm
  have hA2 := H.out.2.1.tchg hc hh hg1
  obtain ⟨C1, hC1⟩ : ∃ c : Nat → Prop, c = fun b => C b ∨ v'.ownBlock = some b := ⟨_, rfl⟩
  rw [← hC1] at hA2
  obtain ⟨s1, hs1⟩ : ∃ z : SrvS, z = { s with tab := l1 } := ⟨_, rfl⟩
  rw [← hs1] at hA2
  obtain ⟨oa, oc, rfl⟩ := hO.slice
  obtain ⟨n, hn⟩ : ∃ n, n = R.length := ⟨_, rfl⟩
  rw [← hn] at hO ⊢
  have hex0 : 0 < n → ∃ g, oa = some ⟨g, 0, none⟩ ∧ RowG bV WfK 16 39 w2 w.heap.size g n oc R := fun h0 => by
    obtain ⟨g, cap, e, hr⟩ := hO.ex (by omega)
    injection e with ea en ec
    rw [← ec, ← hn] at hr
    exact ⟨g, ea, hr⟩
  have hgC : ∀ g, (Value.slice oa n oc).ownBlock = some g → ¬ C1 g := fun g hg hC => by
    rw [hC1] at hC
    rcases hC with hC | hC
    · have h1 := (hO.own.lt g hg).1
      have h2 := H.out.1.lt (.inl hC)
      omega
    · exact row_apart hO.own hh.tab.own (by decide) g hg hC
  have hnr : n ≤ 1000 := by
    have hnd : R.Nodup := hE.up.imp fun {a b} h e => by rw [e, cmp_refl] at h; omega
    have := List.Nodup.length_le_of_subset hnd (l₂ := s.tab.map fun x => x.ix) fun k hk => by
      obtain ⟨⟨x, hx, e, _⟩, _⟩ := (hE.mem k).1 hk
      exact List.mem_map.2 ⟨x, hx, e⟩
    rw [List.length_map] at this
    have := H.out.2.2.2.2.2.2.2
    omega
  have hts : s1.tab = l1 ∧ s1.st = s.st ∧ s1.slots = s.slots ∧ s1.room = s.room ∧ s1.broken = s.broken := by rw [hs1]; exact ⟨rfl, rfl, rfl, rfl, rfl⟩
  have H2 := Lib.hid (And.intro hE (And.intro hg1 (And.intro hA2 (And.intro hs1 (And.intro hex0 (And.intro hgC (And.intro hn hts)))))))
  clear hO hE hh hc hg1 hA2 hC1 hs1 hn hex0 hgC hts c4
  go_upto_region 5 with fail
  go_loopw [5, 28] (fun u5 vi wr => ∃ (i mi : Nat) (o : List Key) (si : SrvS) (Xr : Nat → Prop), i ≤ n ∧ vi = .int .i64 i ∧ Hid (OwnG bV WfK 16 39 wr w2.heap.size u5 o ∧ o.length ≤ i ∧ IsSrv wr C1 Xr pb si ∧ (∀ b, X b → Xr b) ∧ (∀ g, u5.ownBlock = some g → Xr g) ∧ (∀ b, Xr b → X b ∨ w2.heap.size ≤ b) ∧ Chg (fun b => C1 b ∨ w2.heap.size ≤ b) w2 wr ∧ SLive mi si.st ∧ mi ≤ m + 18 * i ∧ si.tab = l1 ∧ addQ o (sweepAll (R.drop i) si) = sweepAll R s1)) (fun _ vi _ => n - (intOf vi).toNat)
  case atStart =>
    refine ⟨0, m, [], s1, X, Nat.zero_le _, rfl, OwnG.nil _ _ _ _ _ _, Nat.le_refl _, ⟨_, _, _, _, _, _, H2.out.2.2.1.1⟩, fun _ h => h, (fun g h => by cases h), fun _ h => .inl h, Chg.refl _ _, by rw [H2.out.2.2.2.2.2.2.2.2.1]; exact H.out.2.2.1, by omega, H2.out.2.2.2.2.2.2.2.1, by unfold addQ; simp⟩
  case round =>
    obtain ⟨i, mi, o, si, Xr, hi0, rfl, G⟩ := hrel
    by_cases hin : i < n
    · obtain ⟨g, rfl, hrow0⟩ := H2.out.2.2.2.2.1 (by omega)
      have hgC := H2.out.2.2.2.2.2.1 g rfl
      have hrow := hrow0.chg G.out.2.2.2.2.2.2.1 (fun h => h.elim hgC (fun h2 => by have := hrow0.lt; omega))
      have hx : R[i]? = some (R[i]'(by have := H2.out.2.2.2.2.2.2.1; omega)) := by simp
      generalize R[i]'(by have := H2.out.2.2.2.2.2.2.1; omega) = x at hx
      have hdrop : R.drop i = x :: R.drop (i + 1) := by
        have hi := (List.getElem?_eq_some_iff.1 hx).1
        rw [List.drop_eq_getElem_cons hi]
        rw [List.getElem?_eq_getElem hi] at hx
        cases hx; rfl
      have wx : x.length = 16 := hrow.wf x (List.mem_of_getElem? hx)
      have rx := hrow.read ecK hx
      have t1 : HasK 16 wr g (i * 16) := hrow.there hin
      have ax : AllK 16 (bV x) := ⟨(key_in wx).2, bV_one x⟩
      have gl : g < wr.heap.size := hrow.lt
      have i0 : (0 : Int) ≤ (i : Int) := by omega
      have i1 : (i : Int) < (n : Int) := by omega
      have kx1 := (key_in wx).1
      obtain ⟨ck, hck⟩ : ∃ c, c = bV x := ⟨_, rfl⟩
      rw [← hck] at rx ax kx1
      have k2 : ck.length = 16 := ax.1
      have hbk : Blk (wr.alloc (.cells ck.toArray 39)) wr.heap.size ck.toArray 39 := Blk.new _ _ _
      have hbb : Below wr.heap.size wr (wr.alloc (.cells ck.toArray 39)) := (Below.refl _ _).alloc (Nat.le_refl _) _
      have hsw := sweep_calls C1 Xr pb si x wx (wr.alloc (.cells ck.toArray 39)) (G.out.2.2.1.below hbb) (by have := G.out.2.2.2.2.2.2.2.1.writes; have := G.out.2.2.2.2.2.2.2.2.1; have := H.out.2.2.2.2.1; omega)
      rw [← hck] at hsw
      have HX := Lib.hid (And.intro hx (And.intro hck (And.intro wx (And.intro hdrop (And.intro hsw (And.intro hbk hbb))))))
      clear hx hrow hrow0 hck wx hdrop hsw hbk hbb hgC
      go_wp2_with fail
      refine HX.out.2.2.2.2.1.mono ?_
      rintro e w3 ⟨told, err, st', rfl, hsr, hs3, hc3⟩
      have hk3 := hc3.blk HX.out.2.2.2.2.2.1 (fun hC => by have := G.out.2.2.1.lt (.inl hC); omega)
      have hcw : Chg (fun b => C1 b ∨ w2.heap.size ≤ b) w2 w3 := (G.out.2.2.2.2.2.2.1.trans_below HX.out.2.2.2.2.2.2).trans (hc3.mono fun b hb => .inl hb)
      have ho3 := (G.out.1.chg (S := fun _ => False) (Chg.of_below HX.out.2.2.2.2.2.2) (fun _ _ h => h)).chg hc3 (fun g hg hC => G.out.2.2.1.xc g (G.out.2.2.2.2.1 g hg) hC)
      have rk : readK 16 w3 wr.heap.size 0 = ck := blk_read0 hk3 k2
      have gk : HasK 16 w3 wr.heap.size 0 := blk_has hk3 (by simp [k2])
      have lk := hk3.lt
      have H3 := Lib.hid (And.intro hsr (And.intro hs3 (And.intro hcw ho3)))
      clear hsr hs3 hc3 hcw ho3 hk3
      cases told with
      | false =>
        by_cases e0 : err = 0
        · have hsr := H3.out.1
          rw [e0] at hsr
          have hq := sweepAll_ok (l := R.drop (i + 1)) hsr o
          rw [← HX.out.2.2.2.1, G.out.2.2.2.2.2.2.2.2.2.2] at hq
          have hsl := sweepR_live (swN si x) (t := false) G.out.2.2.2.2.2.2.2.1 (by rw [hsr])
          rw [hsr] at hsl
          have hsw := swN_len si x
          have HN := Lib.hid (And.intro hq (And.intro hsl hsw))
          have t0 : (err == 0) = true := by simpa using e0
          have t0' : (err != 0) = false := by simpa using e0
          replace e0 := Lib.hid e0
          clear hsr hq hsl hsw rk gk lk
          go_wp2_with fail
          exact ⟨⟨i + 1, _, o, { si with st := st' }, Xr, by omega, by simp, H3.out.2.2.2, by have := G.out.2.1; omega, H3.out.2.1, G.out.2.2.2.1, G.out.2.2.2.2.1, G.out.2.2.2.2.2.1, H3.out.2.2.1, HN.out.2.1, by have := G.out.2.2.2.2.2.2.2.2.1; have := HN.out.2.2; omega, G.out.2.2.2.2.2.2.2.2.2.1, by have := HN.out.1; simpa using this.symm⟩, by show n - ((i : Int) + 1).toNat < n - (i : Int).toNat; omega⟩
        · have hq := sweepAll_err (l := R.drop (i + 1)) H3.out.1 e0 o
          rw [← HX.out.2.2.2.1, G.out.2.2.2.2.2.2.2.2.2.2] at hq
          have HF := Lib.hid (show sweepAll R s1 = (o, err, { si with st := st' }) from by rw [hq]; simp)
          have HE := Lib.hid e0
          have t0 : (err == 0) = false := by simpa using e0
          have t0' : (err != 0) = true := by simpa using e0
          clear hq e0 rk gk lk
          go_wp2_with fail
          go_ret
          exact ⟨_, o, C1, { si with st := st' }, rfl, ⟨l1, R, H2.out.1, .inl ⟨by rw [← H2.out.2.2.2.1, HF.out]; exact HE.out, by rw [← H2.out.2.2.2.1, HF.out], by rw [← H2.out.2.2.2.1, HF.out]⟩⟩, H3.out.2.2.2.lower H2.out.2.2.1.2.1.size, fun g hg => H3.out.2.1.xc g (G.out.2.2.2.2.1 g hg), H3.out.2.1.shrinkX G.out.2.2.2.1, H2.out.2.2.1.2.trans ⟨chg_old H3.out.2.2.1, fun b hb => .inl hb⟩⟩
      | true =>
        have hszs : w2.heap.size ≤ w3.heap.size := H3.out.2.2.1.size
        go_upto_region 10 with
          (first
            | (refine appG_own EKk ecK (by rfl) _ _ (by rfl) (base := w2.heap.size) (l := o) (cx := 1) (e' := 39) x HX.out.2.2.1 (by rfl) (by rfl) (by rw [← HX.out.2.1]; exact Blk.new_at _ _ _ _ (by simp)) (H3.out.2.2.2.chg (S := fun _ => False) (Chg.of_below ((Below.refl _ _).alloc (Nat.le_refl _) _)) (fun _ _ h => h)) (by have := G.out.2.1; omega) (by decide) (by simp; omega) ?_
               intro v1 x1 hv1 hg1 hs1)
            | fail)
        obtain ⟨X1, hX1, hX2, hX3, hX4⟩ := (H3.out.2.1.below (((Below.refl w3.heap.size w3).alloc (Nat.le_refl _) (.cells ck.toArray 39)))).row G.out.2.2.2.2.1 hg1 hs1 (fun k hk => (hv1.own.lt k hk).2)
        have hcx : Chg (fun b => C1 b ∨ w2.heap.size ≤ b) w2 x1 := (H3.out.2.2.1.trans_below ((Below.refl w3.heap.size w3).alloc (Nat.le_refl _) (.cells ck.toArray 39))).grown hg1 (fun q hq => by
          have := H3.out.2.2.2.ge hq
          exact .inl (.inr this))
        have hX5 : ∀ b, X1 b → X b ∨ w2.heap.size ≤ b := fun b hb => by
          rcases hX4 b hb with h1 | h1
          · exact G.out.2.2.2.2.2.1 b h1
          · exact .inr (by simp at h1; omega)
        have H4 := Lib.hid (And.intro hv1 (And.intro hX1 (And.intro (fun b hb => hX2 b (G.out.2.2.2.1 b hb)) (And.intro hX3 (And.intro hX5 hcx)))))
        clear hv1 hg1 hs1 hX1 hX2 hX3 hX4 hX5 hcx rk gk lk hszs
        by_cases e0 : err = 0
        · have hsr := H3.out.1
          rw [e0] at hsr
          have hq := sweepAll_ok (l := R.drop (i + 1)) hsr o
          rw [← HX.out.2.2.2.1, G.out.2.2.2.2.2.2.2.2.2.2] at hq
          have hsl := sweepR_live (swN si x) (t := false) G.out.2.2.2.2.2.2.2.1 (by rw [hsr])
          rw [hsr] at hsl
          have hsw := swN_len si x
          have HN := Lib.hid (And.intro hq (And.intro hsl hsw))
          have t0 : (err == 0) = true := by simpa using e0
          have t0' : (err != 0) = false := by simpa using e0
          replace e0 := Lib.hid e0
          clear hsr hq hsl hsw
          go_wp2_with fail
          exact ⟨⟨i + 1, _, o ++ [x], { si with st := st' }, X1, by omega, by simp, H4.out.1, by have := G.out.2.1; simp; omega, H4.out.2.1, H4.out.2.2.1, H4.out.2.2.2.1, H4.out.2.2.2.2.1, H4.out.2.2.2.2.2, HN.out.2.1, by have := G.out.2.2.2.2.2.2.2.2.1; have := HN.out.2.2; omega, G.out.2.2.2.2.2.2.2.2.2.1, by have := HN.out.1; simpa using this.symm⟩, by show n - ((i : Int) + 1).toNat < n - (i : Int).toNat; omega⟩
        · have hq := sweepAll_err (l := R.drop (i + 1)) H3.out.1 e0 o
          rw [← HX.out.2.2.2.1, G.out.2.2.2.2.2.2.2.2.2.2] at hq
          have HF := Lib.hid (show sweepAll R s1 = (o ++ [x], err, { si with st := st' }) from by rw [hq]; simp)
          have HE := Lib.hid e0
          have t0 : (err == 0) = false := by simpa using e0
          have t0' : (err != 0) = true := by simpa using e0
          clear hq e0
          go_wp2_with fail
          go_ret
          exact ⟨_, o ++ [x], C1, { si with st := st' }, rfl, ⟨l1, R, H2.out.1, .inl ⟨by rw [← H2.out.2.2.2.1, HF.out]; exact HE.out, by rw [← H2.out.2.2.2.1, HF.out], by rw [← H2.out.2.2.2.1, HF.out]⟩⟩, H4.out.1.lower H2.out.2.2.1.2.1.size, fun g hg => H4.out.2.1.xc g (H4.out.2.2.2.1 g hg), H4.out.2.1.shrinkX H4.out.2.2.1, H2.out.2.2.1.2.trans ⟨chg_old H4.out.2.2.2.2.2, fun b hb => .inl hb⟩⟩
    · have hfull : R.drop i = [] := List.drop_of_length_le (by have := H2.out.2.2.2.2.2.2.1; omega)
      have hend := G.out.2.2.2.2.2.2.2.2.2.2
      rw [hfull, sweepAll] at hend
      have hend : sweepAll R s1 = (o, 0, si) := by rw [← hend]; unfold addQ; simp
      have hsub := endedR_sub H2.out.1
      have htab := G.out.2.2.2.2.2.2.2.2.2.1
      have hBi : SrvB si := ⟨by rw [htab]; have := hsub.2; have := H.out.2.2.2.2.2.2.2; omega, by have := G.out.2.2.2.2.2.2.2.1.writes; have := G.out.2.2.2.2.2.2.2.2.1; have := H.out.2.2.2.2.1; omega⟩
      have hn1 : ∀ r ∈ si.st.recs, r.is = true → 17 ≤ r.name.size := G.out.2.2.2.2.2.2.2.1.recs.size
      have hheld := held_calls C1 Xr pb si wr G.out.2.2.1 hn1 hBi
      rw [htab] at hheld
      have H5 := Lib.hid (And.intro hend (And.intro hheld (And.intro G.out.2.2.2.1 (And.intro G.out.2.2.2.2.1 (And.intro G.out.2.2.2.2.2.1 (And.intro G.out.2.2.2.2.2.2.1 (And.intro G.out.1 (And.intro G.out.2.2.2.2.2.2.2.1 (And.intro G.out.2.2.2.2.2.2.2.2.1 (And.intro htab (And.intro G.out.2.2.1 G.out.2.1)))))))))))
      clear hfull hend hsub htab hBi hn1 hheld G
      go_wp2_with fail
      refine H5.out.2.1.mono ?_
      rintro e w3 ⟨vh, I, rfl, hO, hI, hb3⟩
      obtain ⟨HL, hHL⟩ : ∃ l, l = heldL l1 I := ⟨_, rfl⟩
      rw [← hHL] at hO
      obtain ⟨ha, hc, rfl⟩ := hO.slice
      obtain ⟨nh, hnh⟩ : ∃ q, q = HL.length := ⟨_, rfl⟩
      rw [← hnh] at hO ⊢
      have hex0 : 0 < nh → ∃ g, ha = some ⟨g, 0, none⟩ ∧ RowG bV WfK 16 39 w3 wr.heap.size g nh hc HL := fun h0 => by
        obtain ⟨g, cap, e, hr⟩ := hO.ex (by omega)
        injection e with ea en ec
        rw [← ec, ← hnh] at hr
        exact ⟨g, ea, hr⟩
      have hPK : ∃ pk : Key → List UInt8, ∀ ix, ∃ q, OfR l1 ix q ∧ pk ix = packL q := ⟨fun ix => packL (Classical.choose (ofR_ex l1 ix)), fun ix => ⟨_, Classical.choose_spec (ofR_ex l1 ix), rfl⟩⟩
      obtain ⟨pk, hPK⟩ := hPK
      have HPK := Lib.hid hPK
      have hnh120 : nh ≤ 1024 := by
        have h1 := idx_len hI
        have h2 := heldL_len l1 I
        have h3 := H5.out.2.2.2.2.2.2.2.2.2.2.1.ok.len2
        rw [hnh, hHL]; omega
      have H6 := Lib.hid (And.intro hI (And.intro hHL (And.intro hb3 (And.intro (show heldAll pk HL si = heldAll pk (heldL l1 I) si from by rw [hHL]) (And.intro hnh (And.intro hex0 (H5.out.2.2.2.2.2.2.2.2.2.2.1.below hb3)))))))
      have HO3 := Lib.hid (H5.out.2.2.2.2.2.2.1.chg (S := fun _ => False) (Chg.of_below hb3) (fun _ _ h => h))
      have HCH := Lib.hid (H5.out.2.2.2.2.2.1.trans_below hb3)
      clear hO hI hHL hb3 hnh hex0 hPK
      go_upto_region 14 with fail
      go_loopw [50] (fun vi wy => ∃ (j mj : Nat) (sj : SrvS), j ≤ nh ∧ vi = .int .i64 j ∧ Hid (IsSrv wy C1 Xr pb sj ∧ Chg (fun b => C1 b ∨ w3.heap.size ≤ b) w3 wy ∧ SLive mj sj.st ∧ mj ≤ mi + j ∧ sj.tab = l1 ∧ heldAll pk (HL.drop j) sj = heldAll pk HL si ∧ OwnG bV WfK 16 39 wy w2.heap.size u5 o)) (fun vi _ => nh - (intOf vi).toNat)
      case atStart => exact ⟨0, mi, si, Nat.zero_le _, rfl, H6.out.2.2.2.2.2.2, Chg.refl _ _, H5.out.2.2.2.2.2.2.2.1, by omega, H5.out.2.2.2.2.2.2.2.2.2.1, rfl, HO3.out⟩
      case round =>
        obtain ⟨j, mj, sj, hj0, rfl, G⟩ := hrel
        by_cases hjn : j < nh
        · obtain ⟨g, rfl, hrow0⟩ := H6.out.2.2.2.2.2.1 (by omega)
          have hgC : ¬ C1 g := fun hC => by
            have h1 := (hrow0.own.lt g rfl).1
            have h2 := H5.out.2.2.2.2.2.2.2.2.2.2.1.lt (.inl hC)
            omega
          have hrow := hrow0.chg G.out.2.1 (fun h => h.elim hgC (fun h2 => by have := hrow0.lt; omega))
          have hx : HL[j]? = some (HL[j]'(by have := H6.out.2.2.2.2.1; omega)) := by simp
          generalize HL[j]'(by have := H6.out.2.2.2.2.1; omega) = x at hx
          have hdrop : HL.drop j = x :: HL.drop (j + 1) := by
            have hi := (List.getElem?_eq_some_iff.1 hx).1
            rw [List.drop_eq_getElem_cons hi]
            rw [List.getElem?_eq_getElem hi] at hx
            cases hx; rfl
          have wx : x.length = 16 := hrow.wf x (List.mem_of_getElem? hx)
          have rx := hrow.read ecK hx
          have t1 : HasK 16 wr g (j * 16) := hrow.there hjn
          have ax : AllK 16 (bV x) := ⟨(key_in wx).2, bV_one x⟩
          have gl : g < wr.heap.size := hrow.lt
          have i0 : (0 : Int) ≤ (j : Int) := by omega
          have i1 : (j : Int) < (nh : Int) := by omega
          have kx1 := (key_in wx).1
          obtain ⟨ck, hck⟩ : ∃ c, c = bV x := ⟨_, rfl⟩
          rw [← hck] at rx ax kx1
          have k2 : ck.length = 16 := ax.1
          have hu16 := Tryz.underlying39
          have hi16 : (Tryz.prog.info? 39).map (·.size) = some ck.length := by rw [ax.1]; exact i16
          obtain ⟨sb3, lb3, d3, L3, tb3, v3, hA⟩ := G.out.1
          have HX0 := Lib.hid (And.intro hx (And.intro hck (And.intro wx (And.intro hdrop hA))))
          have hxm : x ∈ heldL l1 I := by rw [← H6.out.2.1]; exact List.mem_of_getElem? hx
          have HXM := Lib.hid hxm
          clear hx hrow hrow0 hck wx hdrop hgC hA hxm
          go_upto_region 16 with fail
          have hbk : Blk (wr.alloc (.cells ck.toArray 39)) wr.heap.size ck.toArray 39 := Blk.new _ _ _
          have hbb : Below wr.heap.size wr (wr.alloc (.cells ck.toArray 39)) := (Below.refl _ _).alloc (Nat.le_refl _) _
          obtain ⟨wa, hwa⟩ : ∃ q, q = wr.alloc (.cells ck.toArray 39) := ⟨_, rfl⟩
          obtain ⟨pk11, hp6⟩ : ∃ q, q = wr.heap.size := ⟨_, rfl⟩
          rw [← hwa] at hbk hbb ⊢
          rw [← hp6] at hbk ⊢
          have hA1 := HX0.out.2.2.2.2.below hbb
          have HX := Lib.hid (And.intro HX0.out.1 (And.intro HX0.out.2.1 (And.intro HX0.out.2.2.1 (And.intro HX0.out.2.2.2.1 (And.intro HX0.out.2.2.2.2 (And.intro hp6 HXM.out))))))
          have HA := Lib.hid (And.intro hA1 (And.intro hbk hbb))
          have c3 : wa.drew.cell? ⟨pb, 3, none⟩ = some (.pointer (some ⟨sb3, 0, none⟩)) := hA1.blk.cell 3
          have r3 : wa.drew.rangeAt pk11 0 ck := fun j v hj => by
            rw [(hbk.drew).cell, Nat.zero_add]
            simpa using hj
          clear hwa hp6 hbk hbb hA1
          go_region_held3 (fun w' => w'.cell? ⟨pb, 3, none⟩ = some (.pointer (some ⟨sb3, 0, none⟩)) ∧ w'.rangeAt pk11 0 ck) (first | exact ⟨c3, r3⟩ | with_reducible assumption)
            (first
              | (go_at_call 58
                 refine (show Calls _ _ _ _ _ from (by rw [HX.out.2.1]; exact leases_calls x HX.out.2.2.1 wa.drew)).mono ?_
                 rintro e wl ⟨rfl, hb2⟩
                 have hb2 : Below wa.heap.size wa wl := of_drew hb2
                 have hh : wl.cell? ⟨pb, 3, none⟩ = some (.pointer (some ⟨sb3, 0, none⟩)) ∧ wl.rangeAt pk11 0 ck := ⟨(HA.out.1.below hb2).blk.cell 3, fun j v hj => by
                   rw [(HA.out.2.1.kept hb2).cell, Nat.zero_add]
                   simpa using hj⟩
                 have HB2 := Lib.hid hb2
                 clear hb2)
              | (go_at_call 57
                 refine (sget_calls _ sb3 lb3 d3 L3 sj.st (leaseN x) wl (HA.out.1.below HB2.out).st).mono ?_
                 rintro e wg ⟨hb4, vg, rfl, hvg⟩
                 have hh : wg.cell? ⟨pb, 3, none⟩ = some (.pointer (some ⟨sb3, 0, none⟩)) ∧ wg.rangeAt pk11 0 ck := ⟨((HA.out.1.below HB2.out).below hb4).blk.cell 3, fun j v hj => by
                   rw [((HA.out.2.1.kept HB2.out).kept hb4).cell, Nat.zero_add]
                   simpa using hj⟩
                 have HG := Lib.hid (And.intro (HB2.out.trans (hb4.mono HB2.out.size)) hvg)
                 clear hb4 hvg))
          clear c3 r3 hh
          have hAg := HA.out.1.below HG.out.1
          have hkg := HA.out.2.1.kept HG.out.1
          have htp := tpack_calls wg.drew tb3 v3 sj.tab x (hAg.heap.tab.below (Below.refl _ _).drew) (by rw [G.out.2.2.2.2.1]; have := (endedR_sub H2.out.1).2; have := H.out.2.2.2.2.2.2.2; omega) HX.out.2.2.1 (by have := hAg.good.few x; omega) hAg.good.ends ((hAg.below (Below.refl _ _).drew).tab)
          rw [← HX.out.2.1] at htp
          have HTP := Lib.hid htp
          have HK := Lib.hid (And.intro hAg hkg)
          have c4 : wg.drew.cell? ⟨pb, 4, none⟩ = some (.pointer (some ⟨tb3, 0, none⟩)) := hAg.blk.cell 4
          have r4 : wg.drew.rangeAt pk11 0 ck := fun j v hj => by
            rw [(hkg.drew).cell, Nat.zero_add]
            simpa using hj
          clear hAg hkg htp
          go_upto_region 17 with fail
          go_region_held3 (fun w' => w'.cell? ⟨pb, 4, none⟩ = some (.pointer (some ⟨tb3, 0, none⟩)) ∧ w'.rangeAt pk11 0 ck) (first | exact ⟨c4, r4⟩ | with_reducible assumption)
            (first
              | (go_at_call 63
                 refine HTP.out.mono ?_
                 rintro e wp ⟨vp, out, rfl, hOp, hRp, hbp⟩
                 have hbp : Below wg.heap.size wg wp := of_drew hbp
                 have hh : wp.cell? ⟨pb, 4, none⟩ = some (.pointer (some ⟨tb3, 0, none⟩)) ∧ wp.rangeAt pk11 0 ck := ⟨(HK.out.1.below hbp).blk.cell 4, fun j v hj => by
                   rw [(HK.out.2.kept hbp).cell, Nat.zero_add]
                   simpa using hj⟩
                 have HPP := Lib.hid (And.intro hOp (And.intro hRp hbp))
                 clear hOp hRp hbp))
          clear c4 r4 hh
          have hpke : packL out = pk x := by
            obtain ⟨q, hq1, hq2⟩ := HPK.out x
            have hR := HPP.out.2.1
            rw [G.out.2.2.2.2.1] at hR
            rw [hq2, OfR.eq hR hq1 (List.Perm.refl _)]
          have hne : out ≠ [] := fun e => by
            have := HPP.out.2.1.nil_iff.1 e
            rw [G.out.2.2.2.2.1] at this
            exact (mem_heldL HX.out.2.2.2.2.2.2).2 this
          have hlo := ofR_leOk HK.out.1.heap.tab.wf HK.out.1.good HPP.out.2.1 hne
          have HRO := Lib.hid (show RecOk (leaseN x) (pk x) from by rw [← hpke]; exact RecOk.lease x out HX.out.2.2.1 hlo)
          have hOB := HPP.out.1
          rw [hpke] at hOB
          have hAp := HK.out.1.below HPP.out.2.2
          have hkp := HK.out.2.kept HPP.out.2.2
          have hlen : (pk x).length ≤ 1000000 := by
            rw [← hpke]
            have h1 := packL_len out (fun y hy => (hlo.wf y hy).1)
            have h2 := hlo.few
            omega
          have HP := Lib.hid (And.intro hAp (And.intro hkp (And.intro hOB (And.intro (G.out.2.1.trans_below (HA.out.2.2.trans ((HG.out.1.trans (HPP.out.2.2.mono HG.out.1.size)).mono HA.out.2.2.size))) (And.intro hlen (fun a l c (e : vp = .slice (some a) l c) => by
            have h1 := (hOB.lt a.block (by rw [e]; rfl)).1
            have h2 := HA.out.2.2.size
            have h3 := HG.out.1.size
            exact (show wr.heap.size ≤ a.block from by simp at h1; omega)))))))
          obtain ⟨og, hog⟩ : ∃ q, q = sj.st.get (leaseN x) := ⟨_, rfl⟩
          have hvg := HG.out.2
          rw [← hog] at hvg ⊢
          have HOG := Lib.hid (And.intro hog hvg)
          have c3 : wp.drew.cell? ⟨pb, 3, none⟩ = some (.pointer (some ⟨sb3, 0, none⟩)) := hAp.blk.cell 3
          have r3 : wp.drew.rangeAt pk11 0 ck := fun j v hj => by
            rw [(hkp.drew).cell, Nat.zero_add]
            simpa using hj
          have cv2 : (convert 51 9 vp).run Tryz.prog wp = .ok (.string ⟨(pk x).toArray⟩) wp := conv_string hOB.bys
          obtain ⟨np, hnp⟩ : ∃ q : ByteArray, q = ⟨(pk x).toArray⟩ := ⟨_, rfl⟩
          rw [← hnp] at cv2
          have HNP := Lib.hid hnp
          clear hpke hne hlo hOB hAp hkp hlen hog hvg hnp
          cases og with
          | none =>
            have HNE := Lib.hid (show sj.st.get (leaseN x) ≠ some (pk x) from by rw [← HOG.out.1]; simp)
            rw [Option.isSome_none]
            go_upto_region 19 with fail
            go_region_held3 (fun w' => w'.cell? ⟨pb, 3, none⟩ = some (.pointer (some ⟨sb3, 0, none⟩)) ∧ w'.rangeAt pk11 0 ck) (first | exact ⟨c3, r3⟩ | with_reducible assumption)
              (first
                | (go_at_call 58
                   refine (show Calls _ _ _ _ _ from (by rw [HX.out.2.1]; exact leases_calls x HX.out.2.2.1 wp.drew)).mono ?_
                   rintro e wl ⟨rfl, hbl⟩
                   have hbl : Below wp.heap.size wp wl := of_drew hbl
                   have hh : wl.cell? ⟨pb, 3, none⟩ = some (.pointer (some ⟨sb3, 0, none⟩)) ∧ wl.rangeAt pk11 0 ck := ⟨(HP.out.1.below hbl).blk.cell 3, fun j v hj => by
                     rw [(HP.out.2.1.kept hbl).cell, Nat.zero_add]
                     simpa using hj⟩
                   have HBL := Lib.hid hbl
                   clear hbl)
                | (go_at_call 64
                   refine (sput_calls _ sb3 lb3 d3 L3 sj.st (leaseN x) vp (pk x) wl (HP.out.1.below HBL.out).st (HP.out.2.2.1.bys.below HBL.out) (by rw [lease_size x HX.out.2.2.1]; decide) HP.out.2.2.2.2.1 (fun wq hq => (HP.out.2.2.1.bys.below HBL.out).chg hq (fun a l c e hf => by
                     have h1 := HP.out.2.2.2.2.2 a l c e
                     have h2 := HX.out.2.2.2.2.1.lt (.inl (HX.out.2.2.2.2.1.foot _ hf))
                     omega)) (by have := G.out.2.2.1.writes; have := G.out.2.2.2.1; have := H.out.2.2.2.2.1; have := H5.out.2.2.2.2.2.2.2.2.1; omega)).mono ?_
                   rintro e wq ⟨rfl, hst, hcq⟩
                   have hAq := (HP.out.1.below HBL.out).store hcq hst
                   have hkq := hcq.blk (HP.out.2.1.kept HBL.out) (fun hf => by have := HX.out.2.2.2.2.1.lt (.inl (HX.out.2.2.2.2.1.foot _ hf)); have := HX.out.2.2.2.2.2.1; omega)
                   have hh : wq.cell? ⟨pb, 3, none⟩ = some (.pointer (some ⟨sb3, 0, none⟩)) ∧ wq.rangeAt pk11 0 ck := ⟨hAq.blk.cell 3, fun j v hj => by
                     rw [hkq.cell, Nat.zero_add]
                     simpa using hj⟩
                   have HQ := Lib.hid (And.intro hAq ((HP.out.2.2.2.1.trans_below HBL.out).trans (hcq.mono fun b hb => .inl (HX.out.2.2.2.2.1.foot b hb))))
                   clear hst hcq hAq hkq))
            obtain ⟨zr, hzr⟩ : ∃ q, q = (putR sj.st (leaseN x) (pk x)).1 := ⟨_, rfl⟩
            obtain ⟨st2, hst2⟩ : ∃ q, q = (putR sj.st (leaseN x) (pk x)).2 := ⟨_, rfl⟩
            have hQ := HQ.out
            rw [← hst2] at hQ
            rw [← hzr]
            clear c3 r3 hh
            by_cases h8 : zr = 8
            · have hq := heldAll_torn (l := HL.drop (j + 1)) HNE.out (by rw [← hzr]; exact h8)
              rw [← HX.out.2.2.2.1, G.out.2.2.2.2.2.1, ← hst2] at hq
              have HF := Lib.hid (And.intro hq hQ)
              have t8 : (zr == 8) = true := by simpa using h8
              clear hq hQ hzr hst2 h8
              go_wp2_with fail
              go_ret
              exact ⟨_, o, C1, { sj with st := st2 }, rfl, ⟨l1, R, H2.out.1, .inr ⟨by rw [← H2.out.2.2.2.1, H5.out.1], I, pk, by rw [← H2.out.2.2.2.1, H5.out.1]; exact H6.out.1, fun ix _ => HPK.out ix, .inl ⟨by rw [← H2.out.2.2.2.1, H5.out.1, ← H6.out.2.2.2.1, HF.out.1], by rw [← H2.out.2.2.2.1, H5.out.1], by rw [← H2.out.2.2.2.1, H5.out.1, ← H6.out.2.2.2.1, HF.out.1]⟩⟩⟩, (HO3.out.chg HF.out.2.2 (fun g hg h => h.elim (G.out.1.xc g (H5.out.2.2.2.1 g hg)) (fun h' => by have := (HO3.out.own.lt g hg).2; omega))).lower H2.out.2.2.1.2.1.size, fun g hg => G.out.1.xc g (H5.out.2.2.2.1 g hg), IsSrv.shrinkX ⟨_, _, _, _, _, _, HF.out.2.1⟩ H5.out.2.2.1, H2.out.2.2.1.2.trans ⟨chg_old (HCH.out.mix HF.out.2.2 (fun b hb => hb.elim (fun h => .inl (.inl h)) (fun h => .inl (.inr (Nat.le_trans HCH.out.size h))))), fun b hb => .inl hb⟩⟩
            · have hq := heldAll_put (l := HL.drop (j + 1)) HNE.out (by rw [← hzr]; exact h8)
              rw [← HX.out.2.2.2.1, G.out.2.2.2.2.2.1, ← hst2] at hq
              have hok := put_ok G.out.2.2.1 (by have := G.out.2.2.2.1; have := H.out.2.2.2.2.1; have := H5.out.2.2.2.2.2.2.2.2.1; omega) HRO.out (by rw [← hzr]; exact h8)
              rw [← hst2] at hok
              have HF := Lib.hid (And.intro hq (And.intro hQ hok))
              have t8 : (zr == 8) = false := by simpa using h8
              clear hq hQ hzr hst2 h8 hok
              go_wp2_with fail
              exact ⟨⟨j + 1, _, { sj with st := st2 }, by omega, by simp, ⟨_, _, _, _, _, _, HF.out.2.1.1⟩, HF.out.2.1.2, HF.out.2.2, by have := G.out.2.2.2.1; omega, G.out.2.2.2.2.1, HF.out.1.symm, HO3.out.chg HF.out.2.1.2 (fun g hg h => h.elim (G.out.1.xc g (H5.out.2.2.2.1 g hg)) (fun h' => by have := (HO3.out.own.lt g hg).2; omega))⟩, by show nh - ((j : Int) + 1).toNat < nh - (j : Int).toNat; omega⟩
          | some bs =>
            have hvg := HOG.out.2
            rw [Option.getD_some] at hvg
            have cv1 : (convert 51 9 vg).run Tryz.prog wp = .ok (.string ⟨bs.toArray⟩) wp := conv_string (hvg.bys.below HPP.out.2.2)
            obtain ⟨ng, hng⟩ : ∃ q : ByteArray, q = ⟨bs.toArray⟩ := ⟨_, rfl⟩
            rw [← hng] at cv1
            have HNG := Lib.hid hng
            clear hvg hng
            rw [Option.isSome_some]
            by_cases hbe : bs = pk x
            · have dd : (ng.toList == np.toList) = true := Sto.same_name.2 (by rw [HNG.out, HNP.out, hbe])
              have hq := heldAll_skip (pk := pk) (l := HL.drop (j + 1)) (by rw [← HOG.out.1, hbe] : sj.st.get (leaseN x) = some (pk x))
              rw [← HX.out.2.2.2.1, G.out.2.2.2.2.2.1] at hq
              have HF := Lib.hid hq
              clear hq hbe c3 r3
              go_wp2_with fail
              exact ⟨⟨j + 1, mj, sj, by omega, by simp, ⟨_, _, _, _, _, _, HP.out.1⟩, HP.out.2.2.2.1, G.out.2.2.1, by have := G.out.2.2.2.1; omega, G.out.2.2.2.2.1, HF.out.symm, HO3.out.chg HP.out.2.2.2.1 (fun g hg h => h.elim (G.out.1.xc g (H5.out.2.2.2.1 g hg)) (fun h' => by have := (HO3.out.own.lt g hg).2; omega))⟩, by show nh - ((j : Int) + 1).toNat < nh - (j : Int).toNat; omega⟩
            · have dd : (ng.toList == np.toList) = false := by
                rw [← Bool.not_eq_true, Sto.same_name, HNG.out, HNP.out]
                exact fun e => hbe (name_data e)
              have HNE := Lib.hid (show sj.st.get (leaseN x) ≠ some (pk x) from by rw [← HOG.out.1]; simpa using hbe)
              replace hbe := Lib.hid hbe
              go_upto_region 19 with fail
              go_region_held3 (fun w' => w'.cell? ⟨pb, 3, none⟩ = some (.pointer (some ⟨sb3, 0, none⟩)) ∧ w'.rangeAt pk11 0 ck) (first | exact ⟨c3, r3⟩ | with_reducible assumption)
                (first
                  | (go_at_call 58
                     refine (show Calls _ _ _ _ _ from (by rw [HX.out.2.1]; exact leases_calls x HX.out.2.2.1 wp.drew)).mono ?_
                     rintro e wl ⟨rfl, hbl⟩
                     have hbl : Below wp.heap.size wp wl := of_drew hbl
                     have hh : wl.cell? ⟨pb, 3, none⟩ = some (.pointer (some ⟨sb3, 0, none⟩)) ∧ wl.rangeAt pk11 0 ck := ⟨(HP.out.1.below hbl).blk.cell 3, fun j v hj => by
                       rw [(HP.out.2.1.kept hbl).cell, Nat.zero_add]
                       simpa using hj⟩
                     have HBL := Lib.hid hbl
                     clear hbl)
                  | (go_at_call 64
                     refine (sput_calls _ sb3 lb3 d3 L3 sj.st (leaseN x) vp (pk x) wl (HP.out.1.below HBL.out).st (HP.out.2.2.1.bys.below HBL.out) (by rw [lease_size x HX.out.2.2.1]; decide) HP.out.2.2.2.2.1 (fun wq hq => (HP.out.2.2.1.bys.below HBL.out).chg hq (fun a l c e hf => by
                       have h1 := HP.out.2.2.2.2.2 a l c e
                       have h2 := HX.out.2.2.2.2.1.lt (.inl (HX.out.2.2.2.2.1.foot _ hf))
                       omega)) (by have := G.out.2.2.1.writes; have := G.out.2.2.2.1; have := H.out.2.2.2.2.1; have := H5.out.2.2.2.2.2.2.2.2.1; omega)).mono ?_
                     rintro e wq ⟨rfl, hst, hcq⟩
                     have hAq := (HP.out.1.below HBL.out).store hcq hst
                     have hkq := hcq.blk (HP.out.2.1.kept HBL.out) (fun hf => by have := HX.out.2.2.2.2.1.lt (.inl (HX.out.2.2.2.2.1.foot _ hf)); have := HX.out.2.2.2.2.2.1; omega)
                     have hh : wq.cell? ⟨pb, 3, none⟩ = some (.pointer (some ⟨sb3, 0, none⟩)) ∧ wq.rangeAt pk11 0 ck := ⟨hAq.blk.cell 3, fun j v hj => by
                       rw [hkq.cell, Nat.zero_add]
                       simpa using hj⟩
                     have HQ := Lib.hid (And.intro hAq ((HP.out.2.2.2.1.trans_below HBL.out).trans (hcq.mono fun b hb => .inl (HX.out.2.2.2.2.1.foot b hb))))
                     clear hst hcq hAq hkq))
              obtain ⟨zr, hzr⟩ : ∃ q, q = (putR sj.st (leaseN x) (pk x)).1 := ⟨_, rfl⟩
              obtain ⟨st2, hst2⟩ : ∃ q, q = (putR sj.st (leaseN x) (pk x)).2 := ⟨_, rfl⟩
              have hQ := HQ.out
              rw [← hst2] at hQ
              rw [← hzr]
              clear c3 r3 hh
              by_cases h8 : zr = 8
              · have hq := heldAll_torn (l := HL.drop (j + 1)) HNE.out (by rw [← hzr]; exact h8)
                rw [← HX.out.2.2.2.1, G.out.2.2.2.2.2.1, ← hst2] at hq
                have HF := Lib.hid (And.intro hq hQ)
                have t8 : (zr == 8) = true := by simpa using h8
                clear hq hQ hzr hst2 h8
                go_wp2_with fail
                go_ret
                exact ⟨_, o, C1, { sj with st := st2 }, rfl, ⟨l1, R, H2.out.1, .inr ⟨by rw [← H2.out.2.2.2.1, H5.out.1], I, pk, by rw [← H2.out.2.2.2.1, H5.out.1]; exact H6.out.1, fun ix _ => HPK.out ix, .inl ⟨by rw [← H2.out.2.2.2.1, H5.out.1, ← H6.out.2.2.2.1, HF.out.1], by rw [← H2.out.2.2.2.1, H5.out.1], by rw [← H2.out.2.2.2.1, H5.out.1, ← H6.out.2.2.2.1, HF.out.1]⟩⟩⟩, (HO3.out.chg HF.out.2.2 (fun g hg h => h.elim (G.out.1.xc g (H5.out.2.2.2.1 g hg)) (fun h' => by have := (HO3.out.own.lt g hg).2; omega))).lower H2.out.2.2.1.2.1.size, fun g hg => G.out.1.xc g (H5.out.2.2.2.1 g hg), IsSrv.shrinkX ⟨_, _, _, _, _, _, HF.out.2.1⟩ H5.out.2.2.1, H2.out.2.2.1.2.trans ⟨chg_old (HCH.out.mix HF.out.2.2 (fun b hb => hb.elim (fun h => .inl (.inl h)) (fun h => .inl (.inr (Nat.le_trans HCH.out.size h))))), fun b hb => .inl hb⟩⟩
              · have hq := heldAll_put (l := HL.drop (j + 1)) HNE.out (by rw [← hzr]; exact h8)
                rw [← HX.out.2.2.2.1, G.out.2.2.2.2.2.1, ← hst2] at hq
                have hok := put_ok G.out.2.2.1 (by have := G.out.2.2.2.1; have := H.out.2.2.2.2.1; have := H5.out.2.2.2.2.2.2.2.2.1; omega) HRO.out (by rw [← hzr]; exact h8)
                rw [← hst2] at hok
                have HF := Lib.hid (And.intro hq (And.intro hQ hok))
                have t8 : (zr == 8) = false := by simpa using h8
                clear hq hQ hzr hst2 h8 hok
                go_wp2_with fail
                exact ⟨⟨j + 1, _, { sj with st := st2 }, by omega, by simp, ⟨_, _, _, _, _, _, HF.out.2.1.1⟩, HF.out.2.1.2, HF.out.2.2, by have := G.out.2.2.2.1; omega, G.out.2.2.2.2.1, HF.out.1.symm, HO3.out.chg HF.out.2.1.2 (fun g hg h => h.elim (G.out.1.xc g (H5.out.2.2.2.1 g hg)) (fun h' => by have := (HO3.out.own.lt g hg).2; omega))⟩, by show nh - ((j : Int) + 1).toNat < nh - (j : Int).toNat; omega⟩
        · have hfull : HL.drop j = [] := List.drop_of_length_le (by have := H6.out.2.2.2.2.1; omega)
          have hend := G.out.2.2.2.2.2.1
          rw [hfull, heldAll] at hend
          have hn2 : ∀ r ∈ sj.st.recs, r.is = true → 17 ≤ r.name.size := G.out.2.2.1.recs.size
          have hidx := indexes_calls C1 Xr pb sj wr G.out.1 hn2
          have H7 := Lib.hid (And.intro hend.symm (And.intro G.out.1 (And.intro G.out.2.1 (And.intro G.out.2.2.1 (And.intro G.out.2.2.2.1 (And.intro G.out.2.2.2.2.1 (And.intro G.out.2.2.2.2.2.2 hidx)))))))
          clear hfull hend hn2 hidx G
          go_wp2_with fail
          refine H7.out.2.2.2.2.2.2.2.mono ?_
          rintro e w5 ⟨v5, I2, rfl, hO, hI2, hb5⟩
          obtain ⟨ia, ic, rfl⟩ := hO.slice
          obtain ⟨n3, hn3⟩ : ∃ q, q = I2.length := ⟨_, rfl⟩
          rw [← hn3] at hO ⊢
          have hex3 : 0 < n3 → ∃ g, ia = some ⟨g, 0, none⟩ ∧ RowG bV WfK 16 39 w5 wr.heap.size g n3 ic I2 := fun h0 => by
            obtain ⟨g, cap, e, hr⟩ := hO.ex (by omega)
            injection e with ea en ec
            rw [← ec, ← hn3] at hr
            exact ⟨g, ea, hr⟩
          have hn3b : n3 ≤ 1024 := by
            have h1 := idx_len hI2
            have h3 := H7.out.2.1.ok.len2
            omega
          have hO5 := H7.out.2.2.2.2.2.2.1.chg (S := fun _ => False) (Chg.of_below hb5) (fun _ _ h => h)
          have hu5 : ∀ g, u5.ownBlock = some g → w2.heap.size ≤ g ∧ g < wr.heap.size := fun g hg => H7.out.2.2.2.2.2.2.1.own.lt g hg
          have hc25 : Chg (fun b => C1 b ∨ w2.heap.size ≤ b) w2 w5 := (HCH.out.mix H7.out.2.2.1 (fun b hb => hb.elim (fun h => .inl (.inl h)) (fun h => .inl (.inr (Nat.le_trans HCH.out.size h))))).trans_below hb5
          have H8 := Lib.hid (And.intro hI2 (And.intro hn3 (And.intro hb5 (And.intro hex3 (And.intro hO5 (And.intro hu5 hc25))))))
          have hts : ∀ b, (C1 b ∨ u5.ownBlock = some b ∨ w5.heap.size ≤ b) → (C1 b ∨ w2.heap.size ≤ b) ∨ w2.heap.size ≤ b := fun b hb => by
            rcases hb with h | h | h
            · exact .inl (.inl h)
            · exact .inr (hu5 b h).1
            · exact .inr (Nat.le_trans hc25.size h)
          have HTS := Lib.hid hts
          clear hO hI2 hn3 hb5 hex3 hO5 hu5 hc25 hts
          go_upto_region 23 with fail
          obtain ⟨ow, how⟩ : ∃ ow, ow = u5 := ⟨_, rfl⟩
          subst how
          go_loopw [5, 93] (fun q5 vi wz => ∃ (k mk : Nat) (o3 : List Key) (sk : SrvS) (Xk : Nat → Prop), k ≤ n3 ∧ vi = .int .i64 k ∧ Hid (OwnG bV WfK 16 39 wz w2.heap.size q5 o3 ∧ o3.length ≤ n + k ∧ IsSrv wz C1 Xk pb sk ∧ (∀ b, X b → Xk b) ∧ (∀ g, q5.ownBlock = some g → Xk g) ∧ (∀ b, Xk b → X b ∨ w2.heap.size ≤ b) ∧ Chg (fun b => C1 b ∨ ow.ownBlock = some b ∨ w5.heap.size ≤ b) w5 wz ∧ SLive mk sk.st ∧ mk ≤ mi + nh + 18 * k ∧ sk.tab = l1 ∧ (∀ g, q5.ownBlock = some g → ow.ownBlock = some g ∨ w5.heap.size ≤ g) ∧ addQ o3 (sweepAll ((I2.drop k).filter fun ix => decide (ofL l1 ix = [])) sk) = addQ o (sweepAll (I2.filter fun ix => decide (ofL l1 ix = [])) sj))) (fun _ vi _ => n3 - (intOf vi).toNat)
          case atStart => exact ⟨0, mj, o, sj, Xr, Nat.zero_le _, rfl, H8.out.2.2.2.2.1, by have := H5.out.2.2.2.2.2.2.2.2.2.2.2; omega, H7.out.2.1.below H8.out.2.2.1, H5.out.2.2.1, H5.out.2.2.2.1, H5.out.2.2.2.2.1, Chg.refl _ _, H7.out.2.2.2.1, by have := H7.out.2.2.2.2.1; omega, H7.out.2.2.2.2.2.1, fun g hg => .inl hg, by simp⟩
          case round =>
            obtain ⟨k, mk, o3, sk, Xk, hk0, rfl, G⟩ := hrel
            by_cases hkn : k < n3
            · obtain ⟨g, rfl, hrow0⟩ := H8.out.2.2.2.1 (by omega)
              have hg1 := (hrow0.own.lt g rfl)
              have hgC : ¬ C1 g := fun hC => by
                have h2 := H7.out.2.1.lt (.inl hC)
                omega
              have hrow := hrow0.chg G.out.2.2.2.2.2.2.1 (fun h => by
                rcases h with h | h | h
                · exact hgC h
                · have := (H8.out.2.2.2.2.2.1 g h).2; omega
                · omega)
              have hx : I2[k]? = some (I2[k]'(by have := H8.out.2.1; omega)) := by simp
              generalize I2[k]'(by have := H8.out.2.1; omega) = x at hx
              have wx : x.length = 16 := hrow.wf x (List.mem_of_getElem? hx)
              have rx := hrow.read ecK hx
              have t1 : HasK 16 wr g (k * 16) := hrow.there hkn
              have ax : AllK 16 (bV x) := ⟨(key_in wx).2, bV_one x⟩
              have gl : g < wr.heap.size := hrow.lt
              have i0 : (0 : Int) ≤ (k : Int) := by omega
              have i1 : (k : Int) < (n3 : Int) := by omega
              have kx1 := (key_in wx).1
              obtain ⟨ck, hck⟩ : ∃ c, c = bV x := ⟨_, rfl⟩
              rw [← hck] at rx ax kx1
              have k2 : ck.length = 16 := ax.1
              have hu16 := Tryz.underlying39
              have hi16 : (Tryz.prog.info? 39).map (·.size) = some ck.length := by rw [ax.1]; exact i16
              have HX := Lib.hid (And.intro hck (And.intro wx (filter_drop (p := fun ix => decide (ofL l1 ix = [])) hx)))
              clear hx hrow hrow0 hck wx hg1 hgC
              go_upto_region 25 with fail
              have hbk : Blk (wr.alloc (.cells ck.toArray 39)) wr.heap.size ck.toArray 39 := Blk.new _ _ _
              have hbb : Below wr.heap.size wr (wr.alloc (.cells ck.toArray 39)) := (Below.refl _ _).alloc (Nat.le_refl _) _
              obtain ⟨wa, hwa⟩ : ∃ q, q = wr.alloc (.cells ck.toArray 39) := ⟨_, rfl⟩
              obtain ⟨p16, hp6⟩ : ∃ q, q = wr.heap.size := ⟨_, rfl⟩
              rw [← hwa] at hbk hbb ⊢
              rw [← hp6] at hbk ⊢
              obtain ⟨sb, lb, d, L, tb', v0, hA⟩ := G.out.2.2.1.below hbb
              have hof := of_calls wa.drew tb' v0 sk.tab x (hA.heap.tab.below (Below.refl _ _).drew) (by rw [G.out.2.2.2.2.2.2.2.2.2.1]; have := (endedR_sub H2.out.1).2; have := H.out.2.2.2.2.2.2.2; omega) HX.out.2.1 (by have := hA.good.few x; omega)
              rw [← HX.out.1] at hof
              have c4 : wa.drew.cell? ⟨pb, 4, none⟩ = some (.pointer (some ⟨tb', 0, none⟩)) := hA.blk.cell 4
              have r4 : wa.drew.rangeAt p16 0 ck := fun j v hj => by
                rw [(hbk.drew).cell, Nat.zero_add]
                simpa using hj
              obtain ⟨q, hq⟩ : ∃ q, q = (ofL l1 x).length := ⟨_, rfl⟩
              have HA := Lib.hid (And.intro hA (And.intro hbk (And.intro hbb (And.intro hof (And.intro hq hp6)))))
              clear hwa hp6 hbk hbb hA hof hq
              go_region_held3 (fun w' => w'.cell? ⟨pb, 4, none⟩ = some (.pointer (some ⟨tb', 0, none⟩)) ∧ w'.rangeAt p16 0 ck) (first | exact ⟨c4, r4⟩ | with_reducible assumption)
                (first
                  | (go_at_call 65
                     refine HA.out.2.2.2.1.mono ?_
                     rintro e wo ⟨vo', out', rfl, hO', hR', hb2⟩
                     obtain ⟨fa, fc, rfl⟩ := hO'.slice
                     rw [hR'.perm.length_eq, G.out.2.2.2.2.2.2.2.2.2.1, ← HA.out.2.2.2.2.1]
                     have hb2 : Below wa.heap.size wa wo := of_drew hb2
                     have hh : wo.cell? ⟨pb, 4, none⟩ = some (.pointer (some ⟨tb', 0, none⟩)) ∧ wo.rangeAt p16 0 ck := ⟨(HA.out.1.below hb2).blk.cell 4, fun j v hj => by
                       rw [(HA.out.2.1.kept hb2).cell, Nat.zero_add]
                       simpa using hj⟩
                     have HB2 := Lib.hid (And.intro (HA.out.2.2.1.trans (hb2.mono HA.out.2.2.1.size)) (HA.out.2.1.kept hb2))
                     clear hO' hR' hb2))
              clear c4 r4 hh
              by_cases m0 : q = 0
              rotate_left
              · have hne : ofL l1 x ≠ [] := fun e => m0 (by rw [HA.out.2.2.2.2.1, e]; rfl)
                have hfd := HX.out.2.2
                rw [if_neg (by simpa using hne), List.nil_append] at hfd
                have HFD := Lib.hid hfd
                have dm : decide ((0 : Int) < (q : Int)) = true := by simp; omega
                have dm' : decide (0 < q) = true := by simp; omega
                have mp : 0 < q := by omega
                replace m0 := Lib.hid m0
                clear hne hfd
                go_wp2_with fail
                exact ⟨⟨k + 1, mk, o3, sk, Xk, by omega, by simp, G.out.1.chg (S := fun _ => False) (Chg.of_below HB2.out.1) (fun _ _ h => h), by have := G.out.2.1; omega, G.out.2.2.1.below HB2.out.1, G.out.2.2.2.1, G.out.2.2.2.2.1, G.out.2.2.2.2.2.1, G.out.2.2.2.2.2.2.1.trans_below HB2.out.1, G.out.2.2.2.2.2.2.2.1, by have := G.out.2.2.2.2.2.2.2.2.1; omega, G.out.2.2.2.2.2.2.2.2.2.1, G.out.2.2.2.2.2.2.2.2.2.2.1, by rw [← HFD.out]; exact G.out.2.2.2.2.2.2.2.2.2.2.2⟩, by show n3 - ((k : Int) + 1).toNat < n3 - (k : Int).toNat; omega⟩
              · have hnil : ofL l1 x = [] := List.eq_nil_of_length_eq_zero (by rw [← HA.out.2.2.2.2.1]; exact m0)
                have hfd := HX.out.2.2
                rw [if_pos (by simpa using hnil), List.singleton_append] at hfd
                have HFD := Lib.hid hfd
                subst m0
                have hko := HB2.out.2
                have hIo := G.out.2.2.1.below HB2.out.1
                have hsw := sweep_calls C1 Xk pb sk x HX.out.2.1 wo hIo (by have := G.out.2.2.2.2.2.2.2.1.writes; have := G.out.2.2.2.2.2.2.2.2.1; have := H.out.2.2.2.2.1; have := H5.out.2.2.2.2.2.2.2.2.1; omega)
                rw [← HX.out.1] at hsw
                have HSW := Lib.hid (And.intro hsw hIo)
                have rk : readK 16 wo p16 0 = ck := blk_read0 hko k2
                have gk : HasK 16 wo p16 0 := blk_has hko (by simp [k2])
                have lk := hko.lt
                clear hnil hfd hko hIo hsw
                go_wp2_with fail
                refine HSW.out.1.mono ?_
                rintro e wt ⟨told, err, st', rfl, hsr, hs3, hc3⟩
                have hkt := hc3.blk HB2.out.2 (fun hC => by have := G.out.2.2.1.lt (.inl hC); have := HA.out.2.2.2.2.2; omega)
                have hct : Chg (fun b => C1 b ∨ ow.ownBlock = some b ∨ w5.heap.size ≤ b) w5 wt := (G.out.2.2.2.2.2.2.1.trans_below HB2.out.1).trans (hc3.mono fun b hb => .inl hb)
                have hot := (G.out.1.chg (S := fun _ => False) (Chg.of_below HB2.out.1) (fun _ _ h => h)).chg hc3 (fun g hg hC => G.out.2.2.1.xc g (G.out.2.2.2.2.1 g hg) hC)
                have rk : readK 16 wt p16 0 = ck := blk_read0 hkt k2
                have gk : HasK 16 wt p16 0 := blk_has hkt (by simp [k2])
                have lk := hkt.lt
                have H12 := Lib.hid (And.intro hsr (And.intro hs3 (And.intro hct hot)))
                clear hsr hs3 hc3 hct hot hkt
                cases told with
                | false =>
                  by_cases e0 : err = 0
                  · have hsr := H12.out.1
                    rw [e0] at hsr
                    have hq := sweepAll_ok (l := (I2.drop (k + 1)).filter fun ix => decide (ofL l1 ix = [])) hsr o3
                    rw [← HFD.out, G.out.2.2.2.2.2.2.2.2.2.2.2] at hq
                    have hsl := sweepR_live (swN sk x) (t := false) G.out.2.2.2.2.2.2.2.1 (by rw [hsr])
                    rw [hsr] at hsl
                    have hsw := swN_len sk x
                    have HN := Lib.hid (And.intro hq (And.intro hsl hsw))
                    have t0 : (err == 0) = true := by simpa using e0
                    have t0' : (err != 0) = false := by simpa using e0
                    replace e0 := Lib.hid e0
                    clear hsr hq hsl hsw
                    go_wp2_with fail
                    exact ⟨⟨k + 1, _, o3, { sk with st := st' }, Xk, by omega, by simp, H12.out.2.2.2, by have := G.out.2.1; omega, H12.out.2.1, G.out.2.2.2.1, G.out.2.2.2.2.1, G.out.2.2.2.2.2.1, H12.out.2.2.1, HN.out.2.1, by have := G.out.2.2.2.2.2.2.2.2.1; have := HN.out.2.2; omega, G.out.2.2.2.2.2.2.2.2.2.1, G.out.2.2.2.2.2.2.2.2.2.2.1, by have := HN.out.1; simpa using this.symm⟩, by show n3 - ((k : Int) + 1).toNat < n3 - (k : Int).toNat; omega⟩
                  · have hq := sweepAll_err (l := (I2.drop (k + 1)).filter fun ix => decide (ofL l1 ix = [])) H12.out.1 e0 o3
                    rw [← HFD.out, G.out.2.2.2.2.2.2.2.2.2.2.2] at hq
                    have HF := Lib.hid (show addQ o (sweepAll (I2.filter fun ix => decide (ofL l1 ix = [])) sj) = (o3, err, { sk with st := st' }) from by rw [hq]; simp)
                    have t0 : (err == 0) = false := by simpa using e0
                    have t0' : (err != 0) = true := by simpa using e0
                    clear hq e0
                    go_wp2_with fail
                    go_ret
                    exact ⟨_, o3, C1, { sk with st := st' }, rfl, ⟨l1, R, H2.out.1, .inr ⟨by rw [← H2.out.2.2.2.1, H5.out.1], I, pk, by rw [← H2.out.2.2.2.1, H5.out.1]; exact H6.out.1, fun ix _ => HPK.out ix, .inr ⟨by rw [← H2.out.2.2.2.1, H5.out.1, ← H6.out.2.2.2.1, H7.out.1], I2, by rw [← H2.out.2.2.2.1, H5.out.1, ← H6.out.2.2.2.1, H7.out.1]; exact H8.out.1, by rw [← H2.out.2.2.2.1, H5.out.1, ← H6.out.2.2.2.1, H7.out.1]; exact (congrArg (fun q => q.1) HF.out).symm, by rw [← H2.out.2.2.2.1, H5.out.1, ← H6.out.2.2.2.1, H7.out.1]; exact (congrArg (fun q => q.2.2) HF.out).symm⟩⟩⟩, H12.out.2.2.2.lower H2.out.2.2.1.2.1.size, fun g hg => H12.out.2.1.xc g (G.out.2.2.2.2.1 g hg), H12.out.2.1.shrinkX G.out.2.2.2.1, H2.out.2.2.1.2.trans ⟨chg_old (H8.out.2.2.2.2.2.2.mix H12.out.2.2.1 HTS.out), fun b hb => .inl hb⟩⟩
                | true =>
                  have hszs : w2.heap.size ≤ wt.heap.size := Nat.le_trans H8.out.2.2.2.2.2.2.size H12.out.2.2.1.size
                  go_upto_region 29 with
                    (first
                      | (refine appG_own EKk ecK (by rfl) _ _ (by rfl) (base := w2.heap.size) (l := o3) (cx := 1) (e' := 39) x HX.out.2.1 (by rfl) (by rfl) (by rw [← HX.out.1]; exact Blk.new_at _ _ _ _ (by simp)) (H12.out.2.2.2.chg (S := fun _ => False) (Chg.of_below ((Below.refl _ _).alloc (Nat.le_refl _) _)) (fun _ _ h => h)) (by have := G.out.2.1; omega) (by decide) (by simp; omega) ?_
                         intro v1 x1 hv1 hg1 hs1)
                      | fail)
                  obtain ⟨X1, hX1, hX2, hX3, hX4⟩ := (H12.out.2.1.below (((Below.refl wt.heap.size wt).alloc (Nat.le_refl _) (.cells ck.toArray 39)))).row G.out.2.2.2.2.1 hg1 hs1 (fun k hk => (hv1.own.lt k hk).2)
                  have hcx : Chg (fun b => C1 b ∨ ow.ownBlock = some b ∨ w5.heap.size ≤ b) w5 x1 := (H12.out.2.2.1.trans_below ((Below.refl wt.heap.size wt).alloc (Nat.le_refl _) (.cells ck.toArray 39))).grown hg1 (fun q hq => .inl ((G.out.2.2.2.2.2.2.2.2.2.2.1 q hq).elim (fun h => .inr (.inl h)) (fun h => .inr (.inr h))))
                  have hX5 : ∀ b, X1 b → X b ∨ w2.heap.size ≤ b := fun b hb => by
                    rcases hX4 b hb with h1 | h1
                    · exact G.out.2.2.2.2.2.1 b h1
                    · exact .inr (by simp at h1; omega)
                  have hgr : ∀ g, v1.ownBlock = some g → ow.ownBlock = some g ∨ w5.heap.size ≤ g := fun g hg => by
                    rcases hs1 g hg with h1 | h1
                    · exact G.out.2.2.2.2.2.2.2.2.2.2.1 g h1
                    · have := H12.out.2.2.1.size
                      exact .inr (by simp at h1; omega)
                  have H13 := Lib.hid (And.intro hv1 (And.intro hX1 (And.intro (fun b hb => hX2 b (G.out.2.2.2.1 b hb)) (And.intro hX3 (And.intro hX5 (And.intro hcx hgr))))))
                  clear hv1 hg1 hs1 hX1 hX2 hX3 hX4 hX5 hcx rk gk lk hszs hgr
                  by_cases e0 : err = 0
                  · have hsr := H12.out.1
                    rw [e0] at hsr
                    have hq := sweepAll_ok (l := (I2.drop (k + 1)).filter fun ix => decide (ofL l1 ix = [])) hsr o3
                    rw [← HFD.out, G.out.2.2.2.2.2.2.2.2.2.2.2] at hq
                    have hsl := sweepR_live (swN sk x) (t := false) G.out.2.2.2.2.2.2.2.1 (by rw [hsr])
                    rw [hsr] at hsl
                    have hsw := swN_len sk x
                    have HN := Lib.hid (And.intro hq (And.intro hsl hsw))
                    have t0 : (err == 0) = true := by simpa using e0
                    have t0' : (err != 0) = false := by simpa using e0
                    replace e0 := Lib.hid e0
                    clear hsr hq hsl hsw
                    go_wp2_with fail
                    exact ⟨⟨k + 1, _, (o3 ++ [x]), { sk with st := st' }, X1, by omega, by simp, H13.out.1, by have := G.out.2.1; simp; omega, H13.out.2.1, H13.out.2.2.1, H13.out.2.2.2.1, H13.out.2.2.2.2.1, H13.out.2.2.2.2.2.1, HN.out.2.1, by have := G.out.2.2.2.2.2.2.2.2.1; have := HN.out.2.2; omega, G.out.2.2.2.2.2.2.2.2.2.1, H13.out.2.2.2.2.2.2, by have := HN.out.1; simpa using this.symm⟩, by show n3 - ((k : Int) + 1).toNat < n3 - (k : Int).toNat; omega⟩
                  · have hq := sweepAll_err (l := (I2.drop (k + 1)).filter fun ix => decide (ofL l1 ix = [])) H12.out.1 e0 o3
                    rw [← HFD.out, G.out.2.2.2.2.2.2.2.2.2.2.2] at hq
                    have HF := Lib.hid (show addQ o (sweepAll (I2.filter fun ix => decide (ofL l1 ix = [])) sj) = ((o3 ++ [x]), err, { sk with st := st' }) from by rw [hq]; simp)
                    have t0 : (err == 0) = false := by simpa using e0
                    have t0' : (err != 0) = true := by simpa using e0
                    clear hq e0
                    go_wp2_with fail
                    go_ret
                    exact ⟨_, (o3 ++ [x]), C1, { sk with st := st' }, rfl, ⟨l1, R, H2.out.1, .inr ⟨by rw [← H2.out.2.2.2.1, H5.out.1], I, pk, by rw [← H2.out.2.2.2.1, H5.out.1]; exact H6.out.1, fun ix _ => HPK.out ix, .inr ⟨by rw [← H2.out.2.2.2.1, H5.out.1, ← H6.out.2.2.2.1, H7.out.1], I2, by rw [← H2.out.2.2.2.1, H5.out.1, ← H6.out.2.2.2.1, H7.out.1]; exact H8.out.1, by rw [← H2.out.2.2.2.1, H5.out.1, ← H6.out.2.2.2.1, H7.out.1]; exact (congrArg (fun q => q.1) HF.out).symm, by rw [← H2.out.2.2.2.1, H5.out.1, ← H6.out.2.2.2.1, H7.out.1]; exact (congrArg (fun q => q.2.2) HF.out).symm⟩⟩⟩, H13.out.1.lower H2.out.2.2.1.2.1.size, fun g hg => H13.out.2.1.xc g (H13.out.2.2.2.1 g hg), H13.out.2.1.shrinkX H13.out.2.2.1, H2.out.2.2.1.2.trans ⟨chg_old (H8.out.2.2.2.2.2.2.mix H13.out.2.2.2.2.2.1 HTS.out), fun b hb => .inl hb⟩⟩
            · have hfull : I2.drop k = [] := List.drop_of_length_le (by have := H8.out.2.1; omega)
              have hend := G.out.2.2.2.2.2.2.2.2.2.2.2
              rw [hfull] at hend
              have HF := Lib.hid (show addQ o (sweepAll (I2.filter fun ix => decide (ofL l1 ix = [])) sj) = (o3, 0, sk) from by rw [← hend]; simp [addQ, sweepAll])
              clear hfull hend
              go_wp2_with fail
              go_ret
              exact ⟨_, o3, C1, sk, rfl, ⟨l1, R, H2.out.1, .inr ⟨by rw [← H2.out.2.2.2.1, H5.out.1], I, pk, by rw [← H2.out.2.2.2.1, H5.out.1]; exact H6.out.1, fun ix _ => HPK.out ix, .inr ⟨by rw [← H2.out.2.2.2.1, H5.out.1, ← H6.out.2.2.2.1, H7.out.1], I2, by rw [← H2.out.2.2.2.1, H5.out.1, ← H6.out.2.2.2.1, H7.out.1]; exact H8.out.1, by rw [← H2.out.2.2.2.1, H5.out.1, ← H6.out.2.2.2.1, H7.out.1]; exact (congrArg (fun q => q.1) HF.out).symm, by rw [← H2.out.2.2.2.1, H5.out.1, ← H6.out.2.2.2.1, H7.out.1]; exact (congrArg (fun q => q.2.2) HF.out).symm⟩⟩⟩, G.out.1.lower H2.out.2.2.1.2.1.size, fun g hg => G.out.2.2.1.xc g (G.out.2.2.2.2.1 g hg), G.out.2.2.1.shrinkX G.out.2.2.2.1, H2.out.2.2.1.2.trans ⟨chg_old (H8.out.2.2.2.2.2.2.mix G.out.2.2.2.2.2.2.1 HTS.out), fun b hb => .inl hb⟩⟩
end Go.Proofs.YtbbojbdigiibbaaGreatDoor
end
