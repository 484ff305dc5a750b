/- Texts of this proof, packed: SrvHeld, LeaEnded, SrvTickM. -/
import Derived.Test.YtbbojbdigiibbaaGreatDoorPk23
import Derived.Test.YtbbojbdigiibbaaGreatDoorPk21
section
namespace Go.Mem
open Go Go.RowKit Gf Lea
def heldL (t : List Les) (R : List Key) : List Key := R.filter fun ix => decide (ofL t ix ≠ [])
theorem heldL_step {t : List Les} {R : List Key} {i : Nat} {x : Key} (hx : R[i]? = some x) : heldL t (R.take (i + 1)) = heldL t (R.take i) ++ if ofL t x ≠ [] then [x] else [] := by
  unfold heldL
  rw [List.take_add_one, hx, Option.toList_some, List.filter_append]
  congr 1
  by_cases h : ofL t x ≠ []
  · rw [if_pos h, List.filter_cons_of_pos (by simpa using h)]; rfl
  · rw [if_neg h, List.filter_cons_of_neg (by simpa using h)]; rfl
theorem heldL_len (t : List Les) (R : List Key) : (heldL t R).length ≤ R.length := List.length_filter_le _ _
end Go.Mem
namespace Go.Proofs.YtbbojbdigiibbaaGreatDoor
open Go Go.RowKit Go.Mem Gf Lea
set_option linter.unusedVariables false
theorem idx_len {st : St} {R : List Key} (h : IdxR st R) : R.length ≤ st.recs.length := by
  have hsub : R.length ≤ (st.recs.map fun r => ixOf r.name).length := by
    refine List.Nodup.length_le_of_subset h.nodup fun k hk => ?_
    obtain ⟨_, r, h1, _, h3⟩ := (h.mem k).1 hk
    exact List.mem_map.2 ⟨r, h1, h3⟩
  rwa [List.length_map] at hsub
attribute [local go_sem ↓] Go.wp_at_zero Go.wp_at_succ
attribute [local go_sem ↓] load_key store_key slice_key
attribute [local go_sem] ptrB_eq ptrO_eq ptrIs_eq aggL_eq aggIs_eq readK_drew hasK_drew readK_alloc_past hasK_alloc_past readK_alloc_in hasK_alloc_in setCells_drew setCells_alloc_past setCells_alloc_at
set_option maxRecDepth 20000 in
set_option maxHeartbeats 4000000 in
theorem held_calls (C X : Nat → Prop) (pb : Nat) (s : SrvS) (w : World) (h : IsSrv w C X pb s) (hn : ∀ r ∈ s.st.recs, r.is = true → 17 ≤ r.name.size) (hB : SrvB s) :
    Calls Tryz.prog 62 #[.pointer (some ⟨pb, 0, none⟩)] w fun e w' => ∃ vo R, e = .returned vo ∧ OwnG bV WfK 16 39 w' w.heap.size vo (heldL s.tab R) ∧ IdxR s.st R ∧ Below w.heap.size w w' := by
  have H := Lib.hid (And.intro h (And.intro hn hB))
  clear h hn hB
  go_enter Tryz.func62, Tryz.ntmps62
  go_wp2_with fail
  refine (indexes_calls C X pb s w H.out.1 H.out.2.1).mono ?_
  rintro e w1 ⟨vo, R, rfl, hO, hR, hb1⟩
  obtain ⟨oa, oc, rfl⟩ := hO.slice
  obtain ⟨n, hnn⟩ : ∃ n, n = R.length := ⟨_, rfl⟩
  rw [← hnn] at hO ⊢
  have hn4 : n ≤ 1024 := by
    have := idx_len hR
    have := H.out.1.ok.len2
    omega
  have hex0 : 0 < n → ∃ g, oa = some ⟨g, 0, none⟩ ∧ RowG bV WfK 16 39 w1 w.heap.size g n oc R := fun h0 => by
    obtain ⟨g, cap, e, hr⟩ := hO.ex (by omega)
    injection e with ea en ec
    rw [← ec, ← hnn] at hr
    exact ⟨g, ea, hr⟩
  have H1 := Lib.hid (And.intro hex0 (And.intro hR (And.intro hb1 (And.intro hnn (H.out.1.below hb1)))))
  clear hO hR hb1 hnn hex0
  go_upto_region 3 with fail
  go_loopw [3, 9] (fun u vi wr => ∃ i : Nat, i ≤ n ∧ vi = .int .i64 i ∧ Hid (OwnG bV WfK 16 39 wr w1.heap.size u (heldL s.tab (R.take i)) ∧ Below w1.heap.size w1 wr)) (fun _ vi _ => n - (intOf vi).toNat)
  case atStart => exact ⟨0, Nat.zero_le _, rfl, by rw [List.take_zero]; exact OwnG.nil _ _ _ _ _ _, Below.refl _ _⟩
  case round =>
    obtain ⟨i, hi0, rfl, G⟩ := hrel
    by_cases hin : i < n
    · obtain ⟨g, rfl, hrow0⟩ := H1.out.1 (by omega)
      have hrow := hrow0.chg (S := fun _ => False) (Chg.of_below G.out.2) (fun h => h)
      have hx : R[i]? = some (R[i]'(by have := H1.out.2.2.2.1; omega)) := by simp
      generalize R[i]'(by have := H1.out.2.2.2.1; omega) = x at hx
      have wx : x.length = 16 := hrow.wf x (List.mem_of_getElem? hx)
      have rx := hrow.read ecK hx
      have t1 : HasK 16 wr g (i * 16) := hrow.there hin
      have ax : AllK 16 (bV x) := ⟨(key_in wx).2, bV_one x⟩
      have gl : g < wr.heap.size := hrow.lt
      have i0 : (0 : Int) ≤ (i : Int) := by omega
      have i1 : (i : Int) < (n : Int) := by omega
      have kx1 := (key_in wx).1
      obtain ⟨ck, hck⟩ : ∃ c, c = bV x := ⟨_, rfl⟩
      rw [← hck] at rx ax kx1
      have k2 : ck.length = 16 := ax.1
      have HX := Lib.hid (And.intro hx (And.intro hck wx))
      have hu16 := Tryz.underlying39
      have hi16 : (Tryz.prog.info? 39).map (·.size) = some ck.length := by rw [ax.1]; exact i16
      clear hx hrow hrow0 hck wx
      go_upto_region 5 with fail
      have hbk : Blk (wr.alloc (.cells ck.toArray 39)) wr.heap.size ck.toArray 39 := Blk.new _ _ _
      have hbb : Below wr.heap.size wr (wr.alloc (.cells ck.toArray 39)) := (Below.refl _ _).alloc (Nat.le_refl _) _
      obtain ⟨wa, hwa⟩ : ∃ q, q = wr.alloc (.cells ck.toArray 39) := ⟨_, rfl⟩
      obtain ⟨p6, hp6⟩ : ∃ q, q = wr.heap.size := ⟨_, rfl⟩
      rw [← hwa] at hbk hbb ⊢
      rw [← hp6] at hbk ⊢
      obtain ⟨sb, lb, d, L, tb, v, hA⟩ := H1.out.2.2.2.2.below (G.out.2.trans (hbb.mono G.out.2.size))
      have hof := of_calls wa.drew tb v s.tab x (hA.heap.tab.below (Below.refl _ _).drew) (by have := H.out.2.2.tab; omega) HX.out.2.2 (by have := hA.good.few x; omega)
      rw [← HX.out.2.1] at hof
      have c4 : wa.drew.cell? ⟨pb, 4, none⟩ = some (.pointer (some ⟨tb, 0, none⟩)) := hA.blk.cell 4
      have r4 : wa.drew.rangeAt p6 0 ck := fun j v hj => by
        rw [(hbk.drew).cell, Nat.zero_add]
        simpa using hj
      obtain ⟨m, hm⟩ : ∃ m, m = (ofL s.tab x).length := ⟨_, rfl⟩
      have HA := Lib.hid (And.intro hA (And.intro hbk (And.intro hbb (And.intro hof hm))))
      clear hwa hp6 hbk hbb hA hof hm
      go_region_held3 (fun w' => w'.cell? ⟨pb, 4, none⟩ = some (.pointer (some ⟨tb, 0, none⟩)) ∧ w'.rangeAt p6 0 ck) (first | exact ⟨c4, r4⟩ | with_reducible assumption)
        (first
          | (go_at_call 65
             refine HA.out.2.2.2.1.mono ?_
             rintro e w2 ⟨vo, out, rfl, hO, hR, hb2⟩
             obtain ⟨fa, fc, rfl⟩ := hO.slice
             rw [hR.perm.length_eq, ← HA.out.2.2.2.2]
             have hb2 : Below wa.heap.size wa w2 := of_drew hb2
             have hh : w2.cell? ⟨pb, 4, none⟩ = some (.pointer (some ⟨tb, 0, none⟩)) ∧ w2.rangeAt p6 0 ck := ⟨(HA.out.1.below hb2).blk.cell 4, fun j v hj => by
               rw [(HA.out.2.1.kept hb2).cell, Nat.zero_add]
               simpa using hj⟩
             have HB2 := Lib.hid (And.intro (HA.out.2.2.1.trans (hb2.mono HA.out.2.2.1.size)) (HA.out.2.1.kept hb2))
             clear hO hR hb2))
      clear c4 r4 hh
      have hst := heldL_step (t := s.tab) HX.out.1
      have rk : readK 16 w2 p6 0 = ck := blk_read0 HB2.out.2 k2
      have gk : HasK 16 w2 p6 0 := blk_has HB2.out.2 (by simp [k2])
      have lk := HB2.out.2.lt
      have HO := Lib.hid (And.intro (G.out.1.chg (S := fun _ => False) (Chg.of_below HB2.out.1) (fun _ _ h => h)) (G.out.2.trans (HB2.out.1.mono G.out.2.size)))
      by_cases m0 : m = 0
      · have hnil : ofL s.tab x = [] := List.eq_nil_of_length_eq_zero (by rw [← HA.out.2.2.2.2]; exact m0)
        rw [if_neg (by simpa using hnil), List.append_nil] at hst
        have HS := Lib.hid hst
        subst m0
        clear hst hnil
        go_wp2_with fail
        exact ⟨⟨i + 1, by omega, by simp, by rw [HS.out]; exact HO.out.1, HO.out.2⟩, by show n - ((i : Int) + 1).toNat < n - (i : Int).toNat; omega⟩
      · have hne : ofL s.tab x ≠ [] := fun e => m0 (by rw [HA.out.2.2.2.2, e]; rfl)
        rw [if_pos hne] at hst
        have hll := heldL_len s.tab (R.take i)
        have hll2 : (R.take i).length ≤ i := by rw [List.length_take]; omega
        have HS := Lib.hid (And.intro hst (Nat.le_trans hll hll2))
        have dm : decide ((0 : Int) < (m : Int)) = true := by simp; omega
        have dm' : decide (0 < m) = true := by simp; omega
        have mp : 0 < m := by omega
        replace m0 := Lib.hid m0
        clear hst hne hll hll2
        go_wp2_with
          (first
            | (refine appG_own EKk ecK (by rfl) _ _ (by rfl) (base := w1.heap.size) (l := heldL s.tab (R.take i)) (cx := 1) (e' := 39) x HX.out.2.2 (by rfl) (by rfl) (by rw [← HX.out.2.1]; exact Blk.new_at _ _ _ _ (by simp)) (HO.out.1.chg (S := fun _ => False) (Chg.of_below ((Below.refl _ _).alloc (Nat.le_refl _) _)) (fun _ _ h => h)) (by have := HS.out.2; omega) (by decide) (by have := HO.out.2.size; simp; omega) ?_
               intro v1 x1 hv1 hg1 hs1
               have HV1 := Lib.hid hv1
               have HC1 := Lib.hid (grown_below (HO.out.2.alloc HO.out.2.size _) hg1 (fun q hq => HO.out.1.ge hq))
               clear hv1 hg1 hs1)
            | fail)
        exact ⟨⟨i + 1, by omega, by simp, by rw [HS.out.1]; exact HV1.out, HC1.out⟩, by show n - ((i : Int) + 1).toNat < n - (i : Int).toNat; omega⟩
    · have hfull : R.take i = R := List.take_of_length_le (by have := H1.out.2.2.2.1; omega)
      have hg := G.out.1
      rw [hfull] at hg
      have HG := Lib.hid hg
      clear hfull hg
      go_wp2_with fail
      go_ret
      exact ⟨_, R, rfl, HG.out.lower H1.out.2.2.1.size, H1.out.2.1, H1.out.2.2.1.trans (G.out.2.mono H1.out.2.2.1.size)⟩
end Go.Proofs.YtbbojbdigiibbaaGreatDoor
end
section
namespace Go.Proofs.YtbbojbdigiibbaaGreatDoor
open Go Go.RowKit Go.Mem Gf Lea
structure Gone (l0 : List Les) (now : Int) (l : List Les) (P : List Les) : Prop where
  perm : (P ++ l).Perm l0
  ended : ∀ x ∈ P, x.e ≤ now
theorem gone_zero (l : List Les) (now : Int) : Gone l now l [] := ⟨List.Perm.refl _, fun _ h => by cases h⟩
theorem gone_step {l0 l l' P : List Les} {now : Int} {x : Les} (h : Gone l0 now l P) (hx : (x :: l').Perm l) (he : x.e ≤ now) : Gone l0 now l' (P ++ [x]) := by
  refine ⟨?_, fun y hy => ?_⟩
  · rw [List.append_assoc]
    exact (hx.append_left P).trans h.perm
  · rcases List.mem_append.1 hy with hy | hy
    · exact h.ended y hy
    · rw [List.mem_singleton.1 hy]; exact he
theorem gone_end {l0 l P : List Les} {now : Int} {R : List Key} (h : Gone l0 now l P) (hl : ∀ x ∈ l, now < x.e) (hb : BareI l (P.map (·.ix)) (P.map (·.ix)).length R) : EndedR l0 now l R := by
  have hp : l.Perm (left l0 now) := by
    have h1 : (left (P ++ l) now).Perm (left l0 now) := h.perm.filter _
    have h2 : left (P ++ l) now = l := by
      unfold left
      rw [List.filter_append, List.filter_eq_nil_iff.2 (fun x hx => by have := h.ended x hx; simp; omega), List.nil_append, List.filter_eq_self.2 (fun x hx => by simpa using hl x hx)]
    rw [h2] at h1
    exact h1
  refine ⟨hp, hb.up, fun k => ?_⟩
  rw [hb.mem, List.take_of_length_le (Nat.le_refl _)]
  constructor
  · rintro ⟨h1, h2⟩
    obtain ⟨x, hx, e⟩ := List.mem_map.1 h1
    exact ⟨⟨x, h.perm.mem_iff.1 (List.mem_append_left _ hx), e, h.ended x hx⟩, h2⟩
  · rintro ⟨⟨x, hx, e, he⟩, h2⟩
    refine ⟨?_, h2⟩
    rcases List.mem_append.1 (h.perm.mem_iff.2 hx) with hm | hm
    · exact List.mem_map.2 ⟨x, hm, e⟩
    · have := hl x hm; omega
theorem of_gone {l0 l P : List Les} {now : Int} (h : Gone l0 now l P) (ix : Key) (h8 : (ofL l0 ix).length ≤ 12) : (ofL l ix).length ≤ 12 := by
  have h1 := (ofL_perm h.perm ix).length_eq
  rw [ofL_app, List.length_append] at h1
  omega
def sLen : Value → Nat
  | .slice _ n _ => n
  | _ => 0
attribute [local go_sem ↓] Go.wp_at_zero Go.wp_at_succ
attribute [local go_sem ↓] load_key load_item store_item store_key slice_key
attribute [local go_sem] ptrB_eq ptrO_eq ptrIs_eq aggL_eq aggIs_eq readK_drew hasK_drew readK_alloc_past hasK_alloc_past readK_alloc_in hasK_alloc_in setCells_drew setCells_alloc_past setCells_alloc_at as_item
set_option maxRecDepth 100000 in
set_option maxHeartbeats 1000000 in
theorem ended_calls (w : World) (tb : Nat) (v : Value) (l : List Les) (now : Int) (h : Heap w tb v l) (hl : l.length ≤ 90000) (h8 : ∀ ix, (ofL l ix).length ≤ 12) :
    Calls Tryz.prog 60 #[.pointer (some ⟨tb, 0, none⟩), .int .i64 now] w fun r w' => ∃ vo R v' l', r = .returned vo ∧ OwnG bV WfK 16 39 w' w.heap.size vo R ∧ EndedR l now l' R ∧ Heap w' tb v' l' ∧ TChg tb v v' w w' := by
  have H := Lib.hid (And.intro h h8)
  clear h h8
  go_enter Tryz.func60, Tryz.ntmps60
  go_upto_region 2 with fail
  go_loopw [5] (fun v5 wr => ∃ (vt : Value) (lt P : List Les), P.length + lt.length = l.length ∧ Hid (Heap wr tb vt lt ∧ TChg tb v vt w wr ∧ Gone l now lt P ∧ OwnG bV WfK 16 39 wr w.heap.size v5 (P.map (·.ix)) ∧ (∀ g, v5.ownBlock = some g → g ≠ tb ∧ vt.ownBlock ≠ some g))) (fun v5 _ => l.length - sLen v5)
  case atStart => exact ⟨v, l, [], by simp, H.out.1, TChg.same (Below.refl _ _), gone_zero _ _, OwnG.nil _ _ _ _ _ _, fun g hg => by cases hg⟩
  case round =>
    obtain ⟨vt, lt, P, hlen, G⟩ := hrel
    obtain ⟨a5, c5, e5⟩ := G.out.2.2.2.1.slice
    rw [List.length_map] at e5
    have hbare : (∀ x ∈ lt, now < x.e) → Calls Tryz.prog 105 #[.pointer (some ⟨tb, 0, none⟩), u5] wr (fun r w' => ∃ vo R v' l', r = .returned vo ∧ OwnG bV WfK 16 39 w' w.heap.size vo R ∧ EndedR l now l' R ∧ Heap w' tb v' l' ∧ TChg tb v v' w w') := fun hlt => by
      have hO := G.out.2.2.2.1
      have hsep := G.out.2.2.2.2
      rw [e5] at hO hsep ⊢
      refine (bare_calls wr tb vt lt w.heap.size a5 _ c5 (P.map (·.ix)) G.out.1.tab (by omega) (fun ix => of_gone G.out.2.2.1 ix (H.out.2 ix)) hO (by rw [List.length_map]; omega) hsep).mono ?_
      rintro r w' ⟨vo, R, rfl, h1, h2, h3⟩
      exact ⟨vo, R, vt, lt, rfl, h1.lower G.out.2.1.1.size, gone_end G.out.2.2.1 hlt h2, ⟨G.out.1.tab.chg h3 (fun e => (hsep _ e).1 rfl) (fun g hg e => (hsep g e).2 hg), G.out.1.heap⟩, ⟨G.out.2.1.1.mix h3 (fun k hk => .inr (hO.ge hk)), G.out.2.1.2⟩⟩
    have HBARE := Lib.hid hbare
    clear hbare
    obtain ⟨at0, ct0, hvt, hgt⟩ := own_eq_slice G.out.1.tab.own
    have hcell : wr.cell? ⟨tb, 0, none⟩ = some vt := by simpa using G.out.1.tab.cell.cell 0
    obtain ⟨n, hn⟩ : ∃ n, n = lt.length := ⟨_, rfl⟩
    rw [hvt, ← hn] at hcell
    have HV := Lib.hid (And.intro hvt (And.intro hgt (And.intro e5 hn)))
    clear hvt hgt e5
    by_cases h0 : n = 0
    · have d0 : decide ((0 : Int) < (n : Int)) = false := by simp; omega
      have d0' : decide (0 < n) = false := by simp; omega
      have hnil : lt = [] := List.eq_nil_of_length_eq_zero (by omega)
      have HN := Lib.hid hnil
      replace h0 := Lib.hid h0
      clear hn hnil
      go_wp2_with fail
      refine (HBARE.out (by rw [HN.out]; intro _ h; cases h)).mono ?_
      rintro r w2 ⟨vo, R, v', l', rfl, f1, f2, f3, f4⟩
      have HF := Lib.hid (And.intro f1 (And.intro f2 (And.intro f3 f4)))
      clear f1 f2 f3 f4
      go_wp2_with fail
      go_ret
      exact ⟨vo, R, v', l', rfl, HF.out.1, HF.out.2.1, HF.out.2.2.1, HF.out.2.2.2⟩
    · have d0 : decide ((0 : Int) < (n : Int)) = true := by simp; omega
      have d0' : decide (0 < n) = true := by simp; omega
      have i0 : (0 : Int) < (n : Int) := by omega
      obtain ⟨g, ea⟩ := HV.out.2.1 (by omega)
      subst ea
      obtain ⟨g', cap', e', hrow⟩ := G.out.1.tab.ex (by omega)
      have hx : lt[0]? = some (lt[0]'(by omega)) := by simp
      generalize lt[0]'(by omega) = x at hx
      have qe := hrow.ends hx
      rw [HV.out.1] at e'
      injection e' with e1 _ _
      injection e1 with e1
      injection e1 with e1
      rw [← e1, Nat.zero_mul, Nat.zero_add] at qe
      have wx := hrow.wf x (List.mem_of_getElem? hx)
      have HX := Lib.hid hx
      clear hx hrow e1
      by_cases hle : x.e ≤ now
      · have d1 : decide (x.e ≤ now) = true := by simpa using hle
        replace hle := Lib.hid hle
        have ax := allI_cells wx
        have lx := cellsI_len wx
        have k1 := (itemKey wx).1
        have wk : WfK x.ix := wx.1
        have ak : AllK 16 (bV x.ix) := ⟨(key_in wx.1).2, bV_one x.ix⟩
        obtain ⟨cx, hcx⟩ : ∃ c, c = cellsI x := ⟨_, rfl⟩
        have hpop := hpop_calls wr tb vt lt x G.out.1 HX.out (by omega)
        rw [← hcx] at ax lx k1 hpop
        have HPOP := Lib.hid hpop
        replace hn := Lib.hid hn
        clear hcx hpop h0
        go_wp2_with
          (first
            | (refine (HPOP.out).mono ?_
               rintro r w3 ⟨rfl, v3, l3, hh3, hp3, hc3⟩
               have HO3 := Lib.hid (G.out.2.2.2.1.chg hc3.1 (fun q hq hS => by
                 rcases hS with hS | hS
                 · exact (G.out.2.2.2.2 q hq).1 hS
                 · exact (G.out.2.2.2.2 q hq).2 hS))
               have H3 := Lib.hid (And.intro hh3 (And.intro hp3 hc3))
               have hz3 : w.heap.size ≤ w3.heap.size := Nat.le_trans G.out.2.1.1.size hc3.1.size
               clear hh3 hp3 hc3)
            | (refine appG_own EKk ecK (by rfl) _ _ (by rfl) (base := w.heap.size) (l := P.map (·.ix)) (cx := 1) (e' := 39) x.ix wk (by rfl) (by rfl) (Blk.new_at _ _ _ _ (by simp)) (HO3.out.chg (S := fun _ => False) (Chg.of_below (((Below.refl _ _).alloc (Nat.le_refl _) _).alloc (by simp) _)) (fun _ _ h => h)) (by simp; omega) (by decide) (by simp; omega) ?_
               intro v1 x1 hv1 hg1 hs1
               have HV1 := Lib.hid hv1; have HG1 := Lib.hid hg1; have HS1 := Lib.hid hs1
               clear hv1 hg1 hs1)
            | fail)
        have hpl : P.length + 1 + l3.length = l.length := by
          have := H3.out.2.1.length_eq
          rw [List.length_cons] at this
          omega
        have hzW : w3.heap.size ≤ ((w3.alloc (.cells cx.toArray 175)).alloc (.cells (bV x.ix).toArray 39)).heap.size := by simp; omega
        have hBW : Below w3.heap.size w3 ((w3.alloc (.cells cx.toArray 175)).alloc (.cells (bV x.ix).toArray 39)) := ((Below.refl _ _).alloc (Nat.le_refl _) _).alloc (by simp) _
        have hCW : Chg (fun q => u5.ownBlock = some q) w3 x1 := Chg.grown (Chg.of_below hBW) HG1.out (fun q hq => .inl hq)
        have hsep3 : ∀ q, u5.ownBlock = some q → q ≠ tb ∧ v3.ownBlock ≠ some q := fun q hq => ⟨(G.out.2.2.2.2 q hq).1, fun e => by
          rcases H3.out.2.2.2 q e with e1 | e1
          · exact (G.out.2.2.2.2 q hq).2 e1
          · have := G.out.2.2.2.1.own.lt _ hq
            omega⟩
        refine ⟨⟨v3, l3, P ++ [x], by simp; omega, ⟨H3.out.1.tab.chg hCW (fun e => (hsep3 _ e).1 rfl) (fun q hq e => (hsep3 q e).2 hq), H3.out.1.heap⟩, ?_, gone_step G.out.2.2.1 H3.out.2.1 hle.out, by rw [List.map_append]; exact HV1.out, fun q hq => ?_⟩, ?_⟩
        · have hc := G.out.2.1.trans H3.out.2.2
          exact ⟨hc.1.mix hCW (fun k hk => .inr (G.out.2.2.2.1.ge hk)), hc.2⟩
        · rcases HS1.out q hq with e1 | e1
          · exact hsep3 q e1
          · have h1 := H3.out.1.tab.cell.lt
            refine ⟨by omega, fun e => ?_⟩
            have := H3.out.1.tab.own.lt _ e
            omega
        · obtain ⟨a1, c1, e1⟩ := HV1.out.slice
          rw [e1, HV.out.2.2.1]
          have := hn.out
          have := i0
          simp [sLen]
          omega
      · have d1 : decide (x.e ≤ now) = false := by simpa using hle
        replace hle := Lib.hid hle
        replace hn := Lib.hid hn
        replace h0 := Lib.hid h0
        go_wp2_with fail
        refine (HBARE.out (fun y hy => by
          obtain ⟨j, hj⟩ := List.mem_iff_getElem?.1 hy
          have := top_least G.out.1.heap (Nat.le_refl _) HX.out j (some_lt hj) y hj
          have := hle.out
          omega)).mono ?_
        rintro r w2 ⟨vo, R, v', l', rfl, f1, f2, f3, f4⟩
        have HF := Lib.hid (And.intro f1 (And.intro f2 (And.intro f3 f4)))
        clear f1 f2 f3 f4
        go_wp2_with fail
        go_ret
        exact ⟨vo, R, v', l', rfl, HF.out.1, HF.out.2.1, HF.out.2.2.1, HF.out.2.2.2⟩
end Go.Proofs.YtbbojbdigiibbaaGreatDoor
end
section
namespace Go.Mem
open Go Go.RowKit Gf Lea Go.Proofs.YtbbojbdigiibbaaGreatDoor
set_option linter.unusedVariables false
def sweepAll : List Key → SrvS → List Key × Int × SrvS
  | [], s => ([], 0, s)
  | ix :: l, s =>
    if (sweepR (swN s ix) s.st false).2.1 = 0 then
      ((if (sweepR (swN s ix) s.st false).1 = true then [ix] else []) ++ (sweepAll l { s with st := (sweepR (swN s ix) s.st false).2.2 }).1, (sweepAll l { s with st := (sweepR (swN s ix) s.st false).2.2 }).2)
    else (if (sweepR (swN s ix) s.st false).1 = true then [ix] else [], (sweepR (swN s ix) s.st false).2.1, { s with st := (sweepR (swN s ix) s.st false).2.2 })
def heldAll (pk : Key → List UInt8) : List Key → SrvS → Bool × SrvS
  | [], s => (false, s)
  | ix :: l, s =>
    if s.st.get (leaseN ix) = some (pk ix) then heldAll pk l s else
    if (putR s.st (leaseN ix) (pk ix)).1 = 8 then (true, { s with st := (putR s.st (leaseN ix) (pk ix)).2 }) else heldAll pk l { s with st := (putR s.st (leaseN ix) (pk ix)).2 }
def addQ (out : List Key) (q : List Key × Int × SrvS) : List Key × Int × SrvS := (out ++ q.1, q.2)
theorem sweepAll_ok {x : Key} {l : List Key} {si : SrvS} {told : Bool} {st' : St} (h : sweepR (swN si x) si.st false = (told, 0, st')) (o : List Key) : addQ o (sweepAll (x :: l) si) = addQ (o ++ if told = true then [x] else []) (sweepAll l { si with st := st' }) := by
  rw [sweepAll, h]
  unfold addQ
  simp
theorem sweepAll_err {x : Key} {l : List Key} {si : SrvS} {told : Bool} {err : Int} {st' : St} (h : sweepR (swN si x) si.st false = (told, err, st')) (he : err ≠ 0) (o : List Key) : addQ o (sweepAll (x :: l) si) = (o ++ if told = true then [x] else [], err, { si with st := st' }) := by
  rw [sweepAll, h]
  unfold addQ
  simp [he]
theorem heldAll_skip {pk : Key → List UInt8} {x : Key} {l : List Key} {s : SrvS} (h : s.st.get (leaseN x) = some (pk x)) : heldAll pk (x :: l) s = heldAll pk l s := by rw [heldAll, if_pos h]
theorem heldAll_put {pk : Key → List UInt8} {x : Key} {l : List Key} {s : SrvS} (h : s.st.get (leaseN x) ≠ some (pk x)) (h8 : (putR s.st (leaseN x) (pk x)).1 ≠ 8) : heldAll pk (x :: l) s = heldAll pk l { s with st := (putR s.st (leaseN x) (pk x)).2 } := by rw [heldAll, if_neg h, if_neg h8]
theorem heldAll_torn {pk : Key → List UInt8} {x : Key} {l : List Key} {s : SrvS} (h : s.st.get (leaseN x) ≠ some (pk x)) (h8 : (putR s.st (leaseN x) (pk x)).1 = 8) : heldAll pk (x :: l) s = (true, { s with st := (putR s.st (leaseN x) (pk x)).2 }) := by rw [heldAll, if_neg h, if_pos h8]
theorem mem_heldL {t : List Les} {R : List Key} {x : Key} (h : x ∈ heldL t R) : x ∈ R ∧ ofL t x ≠ [] := by
  unfold heldL at h
  have := List.mem_filter.1 h
  exact ⟨this.1, by simpa using this.2⟩
theorem endedR_sub {l l1 : List Les} {now : Int} {R : List Key} (h : EndedR l now l1 R) : (∀ x ∈ l1, x ∈ l) ∧ l1.length ≤ l.length := by
  refine ⟨fun x hx => List.filter_sublist.subset (h.perm.mem_iff.1 hx), ?_⟩
  rw [h.perm.length_eq]
  exact List.length_filter_le _ _
theorem filter_drop {p : Key → Bool} {L : List Key} {k : Nat} {x : Key} (h : L[k]? = some x) : (L.drop k).filter p = (if p x = true then [x] else []) ++ (L.drop (k + 1)).filter p := by
  have hi := (List.getElem?_eq_some_iff.1 h).1
  rw [List.drop_eq_getElem_cons hi]
  rw [List.getElem?_eq_getElem hi] at h
  cases h
  rw [List.filter_cons]
  split <;> rfl
def TickR (s : SrvS) (now : Int) (out : List Key) (s' : SrvS) : Prop :=
  ∃ l1 R, EndedR s.tab now l1 R ∧
    (((sweepAll R { s with tab := l1 }).2.1 ≠ 0 ∧ out = (sweepAll R { s with tab := l1 }).1 ∧ s' = (sweepAll R { s with tab := l1 }).2.2) ∨
     ((sweepAll R { s with tab := l1 }).2.1 = 0 ∧ ∃ I pk, IdxR (sweepAll R { s with tab := l1 }).2.2.st I ∧ (∀ ix ∈ heldL l1 I, ∃ o, OfR l1 ix o ∧ pk ix = packL o) ∧
       (((heldAll pk (heldL l1 I) (sweepAll R { s with tab := l1 }).2.2).1 = true ∧ out = (sweepAll R { s with tab := l1 }).1 ∧ s' = (heldAll pk (heldL l1 I) (sweepAll R { s with tab := l1 }).2.2).2) ∨
        ((heldAll pk (heldL l1 I) (sweepAll R { s with tab := l1 }).2.2).1 = false ∧ ∃ I2, IdxR (heldAll pk (heldL l1 I) (sweepAll R { s with tab := l1 }).2.2).2.st I2 ∧
          out = (sweepAll R { s with tab := l1 }).1 ++ (sweepAll (I2.filter fun ix => decide (ofL l1 ix = [])) (heldAll pk (heldL l1 I) (sweepAll R { s with tab := l1 }).2.2).2).1 ∧
          s' = (sweepAll (I2.filter fun ix => decide (ofL l1 ix = [])) (heldAll pk (heldL l1 I) (sweepAll R { s with tab := l1 }).2.2).2).2.2))))
theorem dropR_ok {m : Nat} {st : St} (h : SLive m st) {nm : ByteArray} (h0 : (dropR st nm).1 = 0) : SLive (m + 1) (dropR st nm).2 := by
  have := h.drop nm
  generalize dropR st nm = R at this h0
  cases this with
  | none _ => simp at h0
  | done s' _ _ _ _ _ hl _ _ _ => exact hl
  | torn _ _ _ _ _ _ _ _ _ _ _ _ => simp at h0
theorem sweepR_live : ∀ (L : List ByteArray) {m : Nat} {st : St} {t : Bool}, SLive m st → (sweepR L st t).2.1 = 0 → SLive (m + L.length) (sweepR L st t).2.2
  | [], m, st, t, h, _ => h
  | n :: l, m, st, t, h, h0 => by
    rw [sweepR] at h0 ⊢
    split
    · rename_i h1
      rw [if_pos h1] at h0
      split
      · rename_i h2
        rw [if_pos h2] at h0
        have := sweepR_live l (dropR_ok h h2) h0
        rw [List.length_cons]
        exact this.le (by omega)
      · rename_i h2
        rw [if_neg h2] at h0
        exact absurd h0 h2
    · rename_i h1
      rw [if_neg h1] at h0
      exact (sweepR_live l h h0).le (by rw [List.length_cons]; omega)
theorem swN_len (s : SrvS) (ix : Key) : (swN s ix).length ≤ 18 := by
  unfold swN
  rw [List.length_append, List.length_map]
  have : (s.shares ix).length ≤ 16 := SrvS.sharesK_len s ix 16
  simp; omega
theorem put_ok {m : Nat} {st : St} (h : SLive m st) (hm : m < 1000000) {nm : ByteArray} {b : List UInt8} (hr : RecOk nm b) (h8 : (putR st nm b).1 ≠ 8) : SLive (m + 1) (putR st nm b).2 := by
  have := h.put hm hr
  generalize putR st nm b = R at this h8
  cases this with
  | arg _ => exact h.le (by omega)
  | full _ _ => exact h.le (by omega)
  | done _ _ _ _ hl _ _ => exact hl
  | torn _ _ _ _ _ _ _ _ _ _ => exact absurd rfl h8
end Go.Mem
namespace Go.Proofs.YtbbojbdigiibbaaGreatDoor
open Go Go.RowKit Go.Mem Gf Lea
set_option linter.unusedVariables false
theorem IsSrv.growS {w w' : World} {C X X' S : Nat → Prop} {pb : Nat} {s : SrvS} (h : IsSrv w C X pb s) (hc : Chg S w w') (h1 : ∀ b, S b → ¬ C b) (h2 : ∀ b, S b → b < w.heap.size → X b) (h3 : ∀ b, X b → X' b) (h4 : ∀ b, X' b → X b ∨ w.heap.size ≤ b) (h5 : ∀ b, X' b → b < w'.heap.size) : IsSrv w' C X' pb s := by
  obtain ⟨sb, lb, d, L, tb, v, h⟩ := h
  have hk : ∀ b, Core pb sb lb d L tb v b → ¬ S b := fun b hb hS => h1 b hS (h.core b hb)
  refine ⟨sb, lb, d, L, tb, v, hc.blk h.blk (hk _ (.inr (.inl rfl))), ?_, ⟨h.heap.tab.chg hc (hk _ (.inr (.inr (.inl rfl)))) (fun g hg => hk g (.inr (.inr (.inr hg)))), h.heap.heap⟩, h.good, h.core, fun b hX hC => ?_, h.npb, h.ntb, h.nown⟩
  · refine h.st.grow hc (fun b hb => hk b (.inl hb)) (fun b hS hlt => .inr (h2 b hS hlt)) (fun b hM => ?_) (fun b hN => hN.imp id (h3 b)) (fun b hM => ?_)
    · rcases hM with hM | hM
      · exact .inl (.inl hM)
      · exact (h4 b hM).imp .inr id
    · rcases hM with hM | hM
      · exact Nat.lt_of_lt_of_le (h.lt (.inl hM)) hc.size
      · exact h5 b hM
  · rcases h4 b hX with h' | h'
    · exact h.xc b h' hC
    · have := h.lt (.inl hC); omega
theorem IsSrv.row {w w' : World} {C X : Nat → Prop} {pb : Nat} {s : SrvS} (h : IsSrv w C X pb s) {u u' : Value} (hu : ∀ g, u.ownBlock = some g → X g) (hg : w.grownBy w' u.ownBlock) (hs : ∀ k, u'.ownBlock = some k → u.ownBlock = some k ∨ w.heap.size ≤ k) (hl : ∀ k, u'.ownBlock = some k → k < w'.heap.size) :
    ∃ X', IsSrv w' C X' pb s ∧ (∀ b, X b → X' b) ∧ (∀ g, u'.ownBlock = some g → X' g) ∧ ∀ b, X' b → X b ∨ w.heap.size ≤ b := by
  have hc : Chg (fun b => u.ownBlock = some b) w w' := Chg.grown (Chg.refl _ _) hg (fun q hq => .inl hq)
  refine ⟨fun b => X b ∨ u'.ownBlock = some b, h.growS hc (fun b hb => h.xc b (hu b hb)) (fun b hb _ => hu b hb) (fun b hb => .inl hb) (fun b hb => ?_) (fun b hb => ?_), fun b hb => .inl hb, fun g hg => .inr hg, fun b hb => ?_⟩
  · rcases hb with hb | hb
    · exact .inl hb
    · exact (hs b hb).imp (hu b) id
  · rcases hb with hb | hb
    · exact Nat.lt_of_lt_of_le (h.lt (.inr hb)) hc.size
    · exact hl b hb
  · rcases hb with hb | hb
    · exact .inl hb
    · exact (hs b hb).imp (hu b) id
end Go.Proofs.YtbbojbdigiibbaaGreatDoor
end
