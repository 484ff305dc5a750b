/- What has ended goes. -/
import Derived.Test.YtgjabnpngggcmaaLeaBare
namespace Go.Proofs.Ytgjabnpngggcmaa
open Go Go.RowKit Go.Mem Gf Lea
/-- on the way: P has been taken -/
structure Gone (l0 : List Les) (now : Int) (l : List Les) (P : List Les) : Prop where
  perm : (P ++ l).Perm l0
  ended : ∀ x ∈ P, x.e ≤ now
theorem gone_zero (l : List Les) (now : Int) : Gone l now l [] := ⟨List.Perm.refl _, fun _ h => by cases h⟩
theorem gone_step {l0 l l' P : List Les} {now : Int} {x : Les} (h : Gone l0 now l P) (hx : (x :: l').Perm l) (he : x.e ≤ now) : Gone l0 now l' (P ++ [x]) := by
  refine ⟨?_, fun y hy => ?_⟩
  · rw [List.append_assoc]
    exact (hx.append_left P).trans h.perm
  · rcases List.mem_append.1 hy with hy | hy
    · exact h.ended y hy
    · rw [List.mem_singleton.1 hy]; exact he
theorem gone_end {l0 l P : List Les} {now : Int} {R : List Key} (h : Gone l0 now l P) (hl : ∀ x ∈ l, now < x.e) (hb : BareI l (P.map (·.ix)) (P.map (·.ix)).length R) : EndedR l0 now l R := by
  have hp : l.Perm (left l0 now) := by
    have h1 : (left (P ++ l) now).Perm (left l0 now) := h.perm.filter _
    have h2 : left (P ++ l) now = l := by
      unfold left
      rw [List.filter_append, List.filter_eq_nil_iff.2 (fun x hx => by have := h.ended x hx; simp; omega), List.nil_append, List.filter_eq_self.2 (fun x hx => by simpa using hl x hx)]
    rw [h2] at h1
    exact h1
  refine ⟨hp, hb.up, fun k => ?_⟩
  rw [hb.mem, List.take_of_length_le (Nat.le_refl _)]
  constructor
  · rintro ⟨h1, h2⟩
    obtain ⟨x, hx, e⟩ := List.mem_map.1 h1
    exact ⟨⟨x, h.perm.mem_iff.1 (List.mem_append_left _ hx), e, h.ended x hx⟩, h2⟩
  · rintro ⟨⟨x, hx, e, he⟩, h2⟩
    refine ⟨?_, h2⟩
    rcases List.mem_append.1 (h.perm.mem_iff.2 hx) with hm | hm
    · exact List.mem_map.2 ⟨x, hm, e⟩
    · have := hl x hm; omega
theorem of_gone {l0 l P : List Les} {now : Int} (h : Gone l0 now l P) (ix : Key) (h8 : (ofL l0 ix).length ≤ 12) : (ofL l ix).length ≤ 12 := by
  have h1 := (ofL_perm h.perm ix).length_eq
  rw [ofL_app, List.length_append] at h1
  omega
def sLen : Value → Nat
  | .slice _ n _ => n
  | _ => 0
attribute [local go_sem ↓] Go.wp_at_zero Go.wp_at_succ
attribute [local go_sem ↓] load_key load_item store_item store_key slice_key
attribute [local go_sem] ptrB_eq ptrO_eq ptrIs_eq aggL_eq aggIs_eq readK_drew hasK_drew readK_alloc_past hasK_alloc_past readK_alloc_in hasK_alloc_in setCells_drew setCells_alloc_past setCells_alloc_at as_item
set_option maxRecDepth 100000 in
set_option maxHeartbeats 1000000 in
theorem ended_calls (w : World) (tb : Nat) (v : Value) (l : List Les) (now : Int) (h : Heap w tb v l) (hl : l.length ≤ 90000) (h8 : ∀ ix, (ofL l ix).length ≤ 12) :
    Calls Try.prog 11 #[.pointer (some ⟨tb, 0, none⟩), .int .i64 now] w fun r w' => ∃ vo R v' l', r = .returned vo ∧ OwnG bV WfK 16 26 w' w.heap.size vo R ∧ EndedR l now l' R ∧ Heap w' tb v' l' ∧ TChg tb v v' w w' := by
  have H := Lib.hid (And.intro h h8)
  clear h h8
  go_enter Try.func11, Try.ntmps11
  go_upto_region 2 with fail
  go_loopw [5] (fun v5 wr => ∃ (vt : Value) (lt P : List Les), P.length + lt.length = l.length ∧ Hid (Heap wr tb vt lt ∧ TChg tb v vt w wr ∧ Gone l now lt P ∧ OwnG bV WfK 16 26 wr w.heap.size v5 (P.map (·.ix)) ∧ (∀ g, v5.ownBlock = some g → g ≠ tb ∧ vt.ownBlock ≠ some g))) (fun v5 _ => l.length - sLen v5)
  case atStart => exact ⟨v, l, [], by simp, H.out.1, TChg.same (Below.refl _ _), gone_zero _ _, OwnG.nil _ _ _ _ _ _, fun g hg => by cases hg⟩
  case round =>
    obtain ⟨vt, lt, P, hlen, G⟩ := hrel
    obtain ⟨a5, c5, e5⟩ := G.out.2.2.2.1.slice
    rw [List.length_map] at e5
    have hbare : (∀ x ∈ lt, now < x.e) → Calls Try.prog 21 #[.pointer (some ⟨tb, 0, none⟩), u5] wr (fun r w' => ∃ vo R v' l', r = .returned vo ∧ OwnG bV WfK 16 26 w' w.heap.size vo R ∧ EndedR l now l' R ∧ Heap w' tb v' l' ∧ TChg tb v v' w w') := fun hlt => by
      have hO := G.out.2.2.2.1
      have hsep := G.out.2.2.2.2
      rw [e5] at hO hsep ⊢
      refine (bare_calls wr tb vt lt w.heap.size a5 _ c5 (P.map (·.ix)) G.out.1.tab (by omega) (fun ix => of_gone G.out.2.2.1 ix (H.out.2 ix)) hO (by rw [List.length_map]; omega) hsep).mono ?_
      rintro r w' ⟨vo, R, rfl, h1, h2, h3⟩
      exact ⟨vo, R, vt, lt, rfl, h1.lower G.out.2.1.1.size, gone_end G.out.2.2.1 hlt h2, ⟨G.out.1.tab.chg h3 (fun e => (hsep _ e).1 rfl) (fun g hg e => (hsep g e).2 hg), G.out.1.heap⟩, ⟨G.out.2.1.1.mix h3 (fun k hk => .inr (hO.ge hk)), G.out.2.1.2⟩⟩
    have HBARE := Lib.hid hbare
    clear hbare
    obtain ⟨at0, ct0, hvt, hgt⟩ := own_eq_slice G.out.1.tab.own
    have hcell : wr.cell? ⟨tb, 0, none⟩ = some vt := by simpa using G.out.1.tab.cell.cell 0
    obtain ⟨n, hn⟩ : ∃ n, n = lt.length := ⟨_, rfl⟩
    rw [hvt, ← hn] at hcell
    have HV := Lib.hid (And.intro hvt (And.intro hgt (And.intro e5 hn)))
    clear hvt hgt e5
    by_cases h0 : n = 0
    · have d0 : decide ((0 : Int) < (n : Int)) = false := by simp; omega
      have d0' : decide (0 < n) = false := by simp; omega
      have hnil : lt = [] := List.eq_nil_of_length_eq_zero (by omega)
      have HN := Lib.hid hnil
      replace h0 := Lib.hid h0
      clear hn hnil
      go_wp2_with fail
      refine (HBARE.out (by rw [HN.out]; intro _ h; cases h)).mono ?_
      rintro r w2 ⟨vo, R, v', l', rfl, f1, f2, f3, f4⟩
      have HF := Lib.hid (And.intro f1 (And.intro f2 (And.intro f3 f4)))
      clear f1 f2 f3 f4
      go_wp2_with fail
      go_ret
      exact ⟨vo, R, v', l', rfl, HF.out.1, HF.out.2.1, HF.out.2.2.1, HF.out.2.2.2⟩
    · have d0 : decide ((0 : Int) < (n : Int)) = true := by simp; omega
      have d0' : decide (0 < n) = true := by simp; omega
      have i0 : (0 : Int) < (n : Int) := by omega
      obtain ⟨g, ea⟩ := HV.out.2.1 (by omega)
      subst ea
      obtain ⟨g', cap', e', hrow⟩ := G.out.1.tab.ex (by omega)
      have hx : lt[0]? = some (lt[0]'(by omega)) := by simp
      generalize lt[0]'(by omega) = x at hx
      have qe := hrow.ends hx
      rw [HV.out.1] at e'
      injection e' with e1 _ _
      injection e1 with e1
      injection e1 with e1
      rw [← e1, Nat.zero_mul, Nat.zero_add] at qe
      have wx := hrow.wf x (List.mem_of_getElem? hx)
      have HX := Lib.hid hx
      clear hx hrow e1
      by_cases hle : x.e ≤ now
      · have d1 : decide (x.e ≤ now) = true := by simpa using hle
        replace hle := Lib.hid hle
        have ax := allI_cells wx
        have lx := cellsI_len wx
        have k1 := (itemKey wx).1
        have wk : WfK x.ix := wx.1
        have ak : AllK 16 (bV x.ix) := ⟨(key_in wx.1).2, bV_one x.ix⟩
        obtain ⟨cx, hcx⟩ : ∃ c, c = cellsI x := ⟨_, rfl⟩
        have hpop := hpop_calls wr tb vt lt x G.out.1 HX.out (by omega)
        rw [← hcx] at ax lx k1 hpop
        have HPOP := Lib.hid hpop
        replace hn := Lib.hid hn
        clear hcx hpop h0
        go_wp2_with
          (first
            | (refine (HPOP.out).mono ?_
               rintro r w3 ⟨rfl, v3, l3, hh3, hp3, hc3⟩
               have HO3 := Lib.hid (G.out.2.2.2.1.chg hc3.1 (fun q hq hS => by
                 rcases hS with hS | hS
                 · exact (G.out.2.2.2.2 q hq).1 hS
                 · exact (G.out.2.2.2.2 q hq).2 hS))
               have H3 := Lib.hid (And.intro hh3 (And.intro hp3 hc3))
               have hz3 : w.heap.size ≤ w3.heap.size := Nat.le_trans G.out.2.1.1.size hc3.1.size
               clear hh3 hp3 hc3)
            | (refine appG_own EKk ecK (by rfl) _ _ (by rfl) (base := w.heap.size) (l := P.map (·.ix)) (cx := 1) (e' := 26) x.ix wk (by rfl) (by rfl) (Blk.new_at _ _ _ _ (by simp)) (HO3.out.chg (S := fun _ => False) (Chg.of_below (((Below.refl _ _).alloc (Nat.le_refl _) _).alloc (by simp) _)) (fun _ _ h => h)) (by simp; omega) (by decide) (by simp; omega) ?_
               intro v1 x1 hv1 hg1 hs1
               have HV1 := Lib.hid hv1; have HG1 := Lib.hid hg1; have HS1 := Lib.hid hs1
               clear hv1 hg1 hs1)
            | fail)
        have hpl : P.length + 1 + l3.length = l.length := by
          have := H3.out.2.1.length_eq
          rw [List.length_cons] at this
          omega
        have hzW : w3.heap.size ≤ ((w3.alloc (.cells cx.toArray 56)).alloc (.cells (bV x.ix).toArray 26)).heap.size := by simp; omega
        have hBW : Below w3.heap.size w3 ((w3.alloc (.cells cx.toArray 56)).alloc (.cells (bV x.ix).toArray 26)) := ((Below.refl _ _).alloc (Nat.le_refl _) _).alloc (by simp) _
        have hCW : Chg (fun q => u5.ownBlock = some q) w3 x1 := Chg.grown (Chg.of_below hBW) HG1.out (fun q hq => .inl hq)
        have hsep3 : ∀ q, u5.ownBlock = some q → q ≠ tb ∧ v3.ownBlock ≠ some q := fun q hq => ⟨(G.out.2.2.2.2 q hq).1, fun e => by
          rcases H3.out.2.2.2 q e with e1 | e1
          · exact (G.out.2.2.2.2 q hq).2 e1
          · have := G.out.2.2.2.1.own.lt _ hq
            omega⟩
        refine ⟨⟨v3, l3, P ++ [x], by simp; omega, ⟨H3.out.1.tab.chg hCW (fun e => (hsep3 _ e).1 rfl) (fun q hq e => (hsep3 q e).2 hq), H3.out.1.heap⟩, ?_, gone_step G.out.2.2.1 H3.out.2.1 hle.out, by rw [List.map_append]; exact HV1.out, fun q hq => ?_⟩, ?_⟩
        · have hc := G.out.2.1.trans H3.out.2.2
          exact ⟨hc.1.mix hCW (fun k hk => .inr (G.out.2.2.2.1.ge hk)), hc.2⟩
        · rcases HS1.out q hq with e1 | e1
          · exact hsep3 q e1
          · have h1 := H3.out.1.tab.cell.lt
            refine ⟨by omega, fun e => ?_⟩
            have := H3.out.1.tab.own.lt _ e
            omega
        · obtain ⟨a1, c1, e1⟩ := HV1.out.slice
          rw [e1, HV.out.2.2.1]
          have := hn.out
          have := i0
          simp [sLen]
          omega
      · have d1 : decide (x.e ≤ now) = false := by simpa using hle
        replace hle := Lib.hid hle
        replace hn := Lib.hid hn
        replace h0 := Lib.hid h0
        go_wp2_with fail
        refine (HBARE.out (fun y hy => by
          obtain ⟨j, hj⟩ := List.mem_iff_getElem?.1 hy
          have := top_least G.out.1.heap (Nat.le_refl _) HX.out j (some_lt hj) y hj
          have := hle.out
          omega)).mono ?_
        rintro r w2 ⟨vo, R, v', l', rfl, f1, f2, f3, f4⟩
        have HF := Lib.hid (And.intro f1 (And.intro f2 (And.intro f3 f4)))
        clear f1 f2 f3 f4
        go_wp2_with fail
        go_ret
        exact ⟨vo, R, v', l', rfl, HF.out.1, HF.out.2.1, HF.out.2.2.1, HF.out.2.2.2⟩
end Go.Proofs.Ytgjabnpngggcmaa
