/- Texts of this proof, packed: SrvAdd, SrvReq, SrvBl. -/
import Derived.Test.YtclhgokchcklbaaGreatDoorPk10
section
namespace Go.Proofs.YtclhgokchcklbaaGreatDoor
open Go Go.RowKit Go.Mem Gf Lea
section
variable {w w' : World} {C X S : Nat → Prop} {pb sb lb d L tb : Nat} {v : Value} {s : SrvS}
theorem SrvAt.store (h : SrvAt w C X pb sb lb d L tb v s) {st' : St} (hc : Chg (Foot sb lb d L) w w') (hs : IsStore w' (fun b => C b ∨ X b) sb lb d L st') : SrvAt w' C X pb sb lb d L tb v { s with st := st' } := by
  refine ⟨hc.blk h.blk h.npb, hs, ⟨h.heap.tab.chg hc h.ntb.1 (fun g hg => (h.nown g hg).1), h.heap.heap⟩, h.good, h.core, h.xc, h.npb, h.ntb, h.nown⟩
theorem SrvAt.foot (h : SrvAt w C X pb sb lb d L tb v s) : ∀ b, Foot sb lb d L b → C b := fun b hb => h.core b (.inl hb)
theorem SrvAt.shrinkX {X' : Nat → Prop} (h : SrvAt w C X pb sb lb d L tb v s) (hx : ∀ b, X' b → X b) : SrvAt w C X' pb sb lb d L tb v s := by
  have hN : ∀ b, (C b ∨ X' b) → (C b ∨ X b) := fun b hb => hb.imp id (hx b)
  have hst := h.st
  exact ⟨h.blk, ⟨hst.blk, hst.recs.mono (fun b hb => .inl (hN b hb)), hst.disk, hst.tab, fun hg => hst.ntab (hN _ hg), fun b hb => .inl (h.core b (.inl hb)), hst.ne, hst.ok, fun b hb => hst.old b (hN b hb)⟩, h.heap, h.good, h.core, fun b hb => h.xc b (hx b hb), h.npb, h.ntb, h.nown⟩
theorem SrvAt.lay {t2 : Nat} {v2 : Value} {l2 : List Les} (h : SrvAt w C X pb sb lb d L tb v s) (h2 : Heap w t2 v2 l2) (hg : Lea.Good l2) (hx : X t2) (hxo : ∀ g, v2.ownBlock = some g → X g) :
    SrvAt (w.setCell ⟨pb, 4, none⟩ (.pointer (some ⟨t2, 0, none⟩))) (fun b => C b ∨ b = t2 ∨ v2.ownBlock = some b) (fun b => X b ∧ ¬ (b = t2 ∨ v2.ownBlock = some b)) pb sb lb d L t2 v2 { s with tab := l2 } := by
  have hcpb : C pb := h.core pb (.inr (.inl rfl))
  have hc : Chg (fun b => b = pb) w (w.setCell ⟨pb, 4, none⟩ (.pointer (some ⟨t2, 0, none⟩))) := Chg.set (S := fun b => b = pb) (a := ⟨pb, 4, none⟩) (Chg.refl _ _) rfl _
  have hne : t2 ≠ pb := fun e => h.xc t2 hx (by rw [e]; exact hcpb)
  have hN : (fun b => (C b ∨ b = t2 ∨ v2.ownBlock = some b) ∨ (X b ∧ ¬ (b = t2 ∨ v2.ownBlock = some b))) = fun b => C b ∨ X b := by
    funext b
    apply propext
    constructor
    · rintro ((hb | rfl | hb) | ⟨hb, _⟩)
      · exact .inl hb
      · exact .inr hx
      · exact .inr (hxo b hb)
      · exact .inr hb
    · rintro (hb | hb)
      · exact .inl (.inl hb)
      · by_cases hq : b = t2 ∨ v2.ownBlock = some b
        · exact .inl (.inr hq)
        · exact .inr ⟨hb, hq⟩
  refine ⟨?_, by rw [hN]; exact h.st.chg hc (fun b hb e => h.npb (by rw [← e]; exact hb)) (fun b hb _ => .inl (by rw [hb]; exact hcpb)), ⟨h2.tab.chg hc hne (fun g hg' e => h.xc g (hxo g hg') (by rw [e]; exact hcpb)), h2.heap⟩, hg, ?_, ?_, h.npb, ⟨fun hf => h.xc t2 hx (h.foot t2 hf), hne⟩, fun g hg' => ⟨fun hf => h.xc g (hxo g hg') (h.foot g hf), fun e => h.xc g (hxo g hg') (by rw [e]; exact hcpb)⟩⟩
  · have := h.blk.set 4 (.pointer (some ⟨t2, 0, none⟩))
    exact this
  · rintro b (hb | hb | hb | hb)
    · exact .inl (h.foot b hb)
    · exact .inl (by rw [hb]; exact hcpb)
    · exact .inr (.inl hb)
    · exact .inr (.inr hb)
  · rintro b ⟨hb, hn⟩ (hc' | hc')
    · exact h.xc b hb hc'
    · exact hn hc'
end
def layR (s : SrvS) (ix : Key) (out : List Sec) : Int × St := if out.length = 0 then dropR s.st (leaseN ix) else putR s.st (leaseN ix) (packL out)
def LayR (s : SrvS) (ix : Key) (l2 : List Les) (err : Int) (s' : SrvS) : Prop :=
  ∃ out, OfR l2 ix out ∧ err = (layR s ix out).1 ∧ s' = (if err = 0 ∨ err = 8 then { s with st := (layR s ix out).2, tab := l2 } else { s with st := (layR s ix out).2 })
structure SrvB (s : SrvS) : Prop where
  tab : s.tab.length ≤ 80000
  writes : s.st.disk.writes < 72057594037900000
theorem lay_ok {w w4 : World} {C X : Nat → Prop} {pb sb lb d L tb t2 : Nat} {v v2 : Value} {s : SrvS} {st4 : St} {l2 : List Les} (hA : SrvAt w4 C X pb sb lb d L tb v { s with st := st4 }) (hc : Chg C w w4) (h2 : Heap w t2 v2 l2) (hg : Lea.Good l2) (hx : X t2) (hxo : ∀ g, v2.ownBlock = some g → X g) :
    ∃ C' X', IsSrv (w4.setCell ⟨pb, 4, none⟩ (.pointer (some ⟨t2, 0, none⟩))) C' X' pb { s with st := st4, tab := l2 } ∧ Chg C w (w4.setCell ⟨pb, 4, none⟩ (.pointer (some ⟨t2, 0, none⟩))) ∧ (∀ b, C' b → C b ∨ b = t2 ∨ v2.ownBlock = some b) ∧ ∀ b, X b → ¬ (b = t2 ∨ v2.ownBlock = some b) → X' b := by
  have hcpb : C pb := hA.core pb (.inr (.inl rfl))
  have h24 : Heap w4 t2 v2 l2 := ⟨h2.tab.chg hc (hA.xc t2 hx) (fun g hg' => hA.xc g (hxo g hg')), h2.heap⟩
  exact ⟨_, _, ⟨sb, lb, d, L, t2, v2, hA.lay h24 hg hx hxo⟩, Chg.set (S := C) (a := ⟨pb, 4, none⟩) hc hcpb _, fun b hb => hb, fun b h1 h2 => ⟨h1, h2⟩⟩
theorem lay_held {w w1 w' : World} {C X : Nat → Prop} {pb sb lb d L tb p3 : Nat} {v : Value} {s : SrvS} {ck : List Value} {t : TypeId} (h : SrvAt w C X pb sb lb d L tb v s) (hb : Below w.heap.size w w1) (hk : Blk w1 p3 ck.toArray t) (hb1 : Below w1.heap.size w1 w') :
    w'.cell? ⟨pb, 3, none⟩ = some (.pointer (some ⟨sb, 0, none⟩)) ∧ w'.rangeAt p3 0 ck :=
  ⟨((h.below hb).below hb1).blk.cell 3, fun j v hj => by rw [(hk.kept hb1).cell, Nat.zero_add]; simpa using hj⟩
theorem ownB_below {w w' : World} {base : Nat} {v : Value} {bs : List UInt8} (h : OwnB 5 w base v bs) (hb : Below w.heap.size w w') : OwnB 5 w' base v bs := own_chg (S := fun _ => False) h (Chg.of_below hb) (fun _ _ h => h)
theorem ownB_lower {w : World} {base b : Nat} {v : Value} {bs : List UInt8} (h : OwnB 5 w base v bs) (hb : b ≤ base) : OwnB 5 w b v bs := by
  obtain ⟨h1, h2⟩ := h
  refine ⟨h1, ?_⟩
  rcases h2 with h | ⟨g, cap, cur, e, h3, h4⟩
  · exact .inl h
  · exact .inr ⟨g, cap, cur, e, Nat.le_trans hb h3, h4⟩
attribute [local go_sem ↓] Go.wp_at_zero Go.wp_at_succ
attribute [local go_sem ↓] load_key
attribute [local go_sem] ptrB_eq ptrO_eq ptrIs_eq readK_drew hasK_drew readK_alloc_past hasK_alloc_past readK_alloc_in hasK_alloc_in
set_option maxRecDepth 100000 in
set_option maxHeartbeats 1000000 in
theorem lay_calls (C X : Nat → Prop) (pb : Nat) (s : SrvS) (ix : Key) (hix : ix.length = 16) (t2 : Nat) (v2 : Value) (l2 : List Les) (w : World) (h : IsSrv w C X pb s) (hB : SrvB s) (h2 : Heap w t2 v2 l2) (hg : Lea.Good l2) (hl2 : l2.length ≤ 90000) (hx : X t2) (hxo : ∀ g, v2.ownBlock = some g → X g) :
    Calls Tryz.prog 131 #[.pointer (some ⟨pb, 0, none⟩), .agg (bV ix).toArray, .pointer (some ⟨t2, 0, none⟩)] w fun e w' => ∃ C' X' err s', e = .returned (.int .i64 err) ∧ LayR s ix l2 err s' ∧ IsSrv w' C' X' pb s' ∧ Chg C w w' ∧ (∀ b, C' b → C b ∨ b = t2 ∨ v2.ownBlock = some b) ∧ ∀ b, X b → ¬ (b = t2 ∨ v2.ownBlock = some b) → X' b := by
  obtain ⟨sb, lb, d, L, tb, v, h⟩ := h
  have H := Lib.hid (And.intro h (And.intro h2 (And.intro hg (And.intro hx (And.intro hxo (And.intro hB hix))))))
  have k1 := (key_in hix).1
  have k2 := (key_in hix).2
  have HB := Lib.hid ((Below.refl w.heap.size w).alloc (Nat.le_refl _) (.cells (bV ix).toArray 44))
  have HK := Lib.hid (Blk.new w (bV ix).toArray 44)
  obtain ⟨ck, hck⟩ : ∃ c, c = bV ix := ⟨_, rfl⟩
  have HCK := Lib.hid hck
  rw [← hck] at k1 k2 HB HK ⊢
  have hu16 := Tryz.underlying44
  have hi16 : (Tryz.prog.info? 44).map (·.size) = some ck.length := by rw [k2]; exact i16
  clear h h2 hg hx hxo hB hix hck
  go_enter Tryz.func131, Tryz.ntmps131
  go_wp2_with fail
  have hT := H.out.2.1.below HB.out
  refine (show Calls _ _ _ _ _ from (by rw [HCK.out]; exact of_calls (w.alloc (.cells (bV ix).toArray 44)) t2 v2 l2 ix (by rw [← HCK.out]; exact hT.tab) (by omega) H.out.2.2.2.2.2.2 (by have := H.out.2.2.1.few ix; omega))).mono ?_
  rintro r w1 ⟨vo, out, rfl, hO, hR, hb1⟩
  obtain ⟨oa, oc, rfl⟩ := hO.slice
  obtain ⟨n, hn⟩ : ∃ n, n = out.length := ⟨_, rfl⟩
  rw [← hn]
  rw [← HCK.out] at hb1
  have hk1 := HK.out.kept hb1
  have hbw := HB.out.trans (hb1.mono HB.out.size)
  obtain ⟨p3, hp3⟩ : ∃ p, p = w.heap.size := ⟨_, rfl⟩
  rw [← hp3] at hk1 ⊢
  have H1 := Lib.hid (And.intro hR (And.intro hn (And.intro hbw (And.intro hk1 hp3))))
  have c3 : w1.drew.cell? ⟨pb, 3, none⟩ = some (.pointer (some ⟨sb, 0, none⟩)) := (H.out.1.below hbw).blk.cell 3
  have r3 : w1.drew.rangeAt p3 0 ck := fun j v hj => by
    rw [(hk1.drew).cell, Nat.zero_add]
    simpa using hj
  clear hT hO hR hn hb1 hk1 hbw hp3
  by_cases h0 : n = 0
  · have HOUT := Lib.hid (show out.length = 0 from by rw [← H1.out.2.1, h0])
    subst h0
    go_upto_region 3 with fail
    go_region_held3 (fun w' => w'.cell? ⟨pb, 3, none⟩ = some (.pointer (some ⟨sb, 0, none⟩)) ∧ w'.rangeAt p3 0 ck) (first | exact ⟨c3, r3⟩ | with_reducible assumption)
      (first
        | (go_at_call 42
           refine (show Calls _ _ _ _ _ from (by rw [HCK.out]; exact leases_calls ix H.out.2.2.2.2.2.2 w1.drew)).mono ?_
           rintro e w2 ⟨rfl, hb2⟩
           have hb2 : Below w1.heap.size w1 w2 := of_drew hb2
           have hbw2 := H1.out.2.2.1.trans (hb2.mono H1.out.2.2.1.size)
           have hh : w2.cell? ⟨pb, 3, none⟩ = some (.pointer (some ⟨sb, 0, none⟩)) ∧ w2.rangeAt p3 0 ck := ⟨(H.out.1.below hbw2).blk.cell 3, fun j v hj => by
             rw [(H1.out.2.2.2.1.kept hb2).cell, Nat.zero_add]
             simpa using hj⟩
           have HB2 := Lib.hid (And.intro hb2 hbw2)
           clear hb2 hbw2)
        | (go_at_call 147
           refine (sdrop_calls _ sb lb d L s.st (leaseN ix) w2 (H.out.1.below HB2.out.2).st (by have := H.out.2.2.2.2.2.1.writes; omega)).mono ?_
           rintro e w4 ⟨rfl, hst4, hc4⟩
           have hA4 := (H.out.1.below HB2.out.2).store hc4 hst4
           have HG := Lib.hid (And.intro hc4 hA4)
           have hh : w4.cell? ⟨pb, 3, none⟩ = some (.pointer (some ⟨sb, 0, none⟩)) ∧ w4.rangeAt p3 0 ck := ⟨hA4.blk.cell 3, fun j v hj => by
             rw [(hc4.blk (H1.out.2.2.2.1.kept HB2.out.1) (fun hf => by have := (H.out.1.lt (.inl (H.out.1.foot _ hf))); have := H1.out.2.2.2.2; omega)).cell, Nat.zero_add]
             simpa using hj⟩
           clear hst4 hc4 hA4))
    have hlr : layR s ix out = dropR s.st (leaseN ix) := by unfold layR; rw [if_pos HOUT.out]
    have hcC : Chg C w w4 := (Chg.of_below HB2.out.2).trans (HG.out.1.mono H.out.1.foot)
    obtain ⟨z, hz⟩ : ∃ z, z = (dropR s.st (leaseN ix)).1 := ⟨_, rfl⟩
    obtain ⟨q, hq⟩ : ∃ q, q = (dropR s.st (leaseN ix)).2 := ⟨_, rfl⟩
    have hA4 := HG.out.2
    rw [← hq] at hA4
    rw [← hz]
    have HZ := Lib.hid (And.intro hlr (And.intro hz (And.intro hq (And.intro hcC hA4))))
    have c4 : w4.cell? ⟨pb, 4, none⟩ = some (.pointer (some ⟨tb, 0, none⟩)) := hA4.blk.cell 4
    have f4 : w4.frozen? ⟨pb, 4, none⟩ = false := hA4.blk.free 4
    clear hlr hcC hz hq hA4 c3 r3 hh
    by_cases hz0 : z = 0
    · have HLR : Hid (LayR s ix l2 z { s with st := q, tab := l2 }) := ⟨out, H1.out.1, by rw [HZ.out.1]; exact HZ.out.2.1, by rw [if_pos (.inl hz0), HZ.out.1, ← HZ.out.2.2.1]⟩
      have t1 : (z == 0) = true := by simpa using hz0
      replace hz0 := Lib.hid hz0
      go_wp2_with fail
      go_ret
      obtain ⟨C', X', q1, q2, q3, q4⟩ := lay_ok HZ.out.2.2.2.2 HZ.out.2.2.2.1 H.out.2.1 H.out.2.2.1 H.out.2.2.2.1 H.out.2.2.2.2.1
      exact ⟨C', X', z, _, rfl, HLR.out, q1, q2, q3, q4⟩
    · have t1 : (z == 0) = false := by simpa using hz0
      by_cases hz8 : z = 8
      · have HLR : Hid (LayR s ix l2 z { s with st := q, tab := l2 }) := ⟨out, H1.out.1, by rw [HZ.out.1]; exact HZ.out.2.1, by rw [if_pos (.inr hz8), HZ.out.1, ← HZ.out.2.2.1]⟩
        have t2' : (z == 8) = true := by simpa using hz8
        replace hz8 := Lib.hid hz8
        go_wp2_with fail
        go_ret
        obtain ⟨C', X', q1, q2, q3, q4⟩ := lay_ok HZ.out.2.2.2.2 HZ.out.2.2.2.1 H.out.2.1 H.out.2.2.1 H.out.2.2.2.1 H.out.2.2.2.2.1
        exact ⟨C', X', z, _, rfl, HLR.out, q1, q2, q3, q4⟩
      · have HLR : Hid (LayR s ix l2 z { s with st := q }) := ⟨out, H1.out.1, by rw [HZ.out.1]; exact HZ.out.2.1, by rw [if_neg (fun h => h.elim hz0 hz8), HZ.out.1, ← HZ.out.2.2.1]⟩
        have t2' : (z == 8) = false := by simpa using hz8
        go_wp2_with fail
        go_ret
        exact ⟨C, X, z, _, rfl, HLR.out, ⟨sb, lb, d, L, tb, v, HZ.out.2.2.2.2⟩, HZ.out.2.2.2.1, fun b hb => .inl hb, fun b hb _ => hb⟩
  · have hlr : layR s ix out = putR s.st (leaseN ix) (packL out) := by unfold layR; rw [if_neg (by rw [← H1.out.2.1]; exact h0)]
    obtain ⟨z0, hz⟩ : ∃ z, z = (putR s.st (leaseN ix) (packL out)).1 := ⟨_, rfl⟩
    obtain ⟨q, hq⟩ : ∃ q, q = (putR s.st (leaseN ix) (packL out)).2 := ⟨_, rfl⟩
    have HZ := Lib.hid (And.intro hlr (And.intro hz hq))
    clear hlr hz hq
    have d0 : ((n : Int) == 0) = false := by simpa using h0
    have d1 : (n == 0) = false := by simpa using h0
    go_upto_region 4 with fail
    refine Tail.wp_region_J 10 (fun k => k == 5 || k == 8 || k == 9) (fun k => if k = 5 then some (.string (leaseN ix)) else if k = 9 then some (.int .i64 z0) else none)
      (fun D z w' => (w'.cell? ⟨pb, 3, none⟩ = some (.pointer (some ⟨sb, 0, none⟩)) ∧ w'.rangeAt p3 0 ck) ∧ (D 9 = false → Below w1.heap.size w1 w' ∧ (D 8 = true → OwnB 5 w' w1.heap.size (z 8) (packL out))) ∧ (D 9 = true → Chg C w w' ∧ SrvAt w' C X pb sb lb d L tb v { s with st := q }))
      (by kernel_rfl) (by kernel_rfl) (fun k hk => by simp at hk; omega) (fun D z z' w' hz h => ⟨h.1, fun d => ⟨(h.2.1 d).1, fun d8 => by rw [← hz 8 d8]; exact (h.2.1 d).2 d8⟩, h.2.2⟩) ⟨⟨c3, r3⟩, fun _ => ⟨(Below.refl _ _).drew, fun h => by cases h⟩, fun h => by cases h⟩ (fun z => ?_)
    simp only [List.take_succ_cons, List.take_zero, List.drop_succ_cons, List.drop_zero]
    clear c3 r3
    refine Tail.J_ex (by rfl) (by rfl) ?_
    apply Exists.intro
    refine ⟨fun w => ?_, ?_⟩
    · go_simp <;> with_reducible rfl
    simp only [Act.put, List.setIfInBounds_toArray, List.set_cons_zero, List.set_cons_succ]
    refine Tail.J_ex (by rfl) (by rfl) ?_
    apply Exists.intro
    refine ⟨fun w => ?_, ?_⟩
    · go_simp <;> with_reducible rfl
    simp only [Act.put, List.setIfInBounds_toArray, List.set_cons_zero, List.set_cons_succ]
    refine Tail.J_ex (by rfl) (by rfl) ?_
    apply Exists.intro
    refine ⟨fun w => ?_, ?_⟩
    · go_simp <;> with_reducible rfl
    simp only [Act.put, List.setIfInBounds_toArray, List.set_cons_zero, List.set_cons_succ]
    refine Tail.J_at (by rfl) (by rfl) ?_
    apply Exists.intro
    refine ⟨fun D w' _ _ hJ => ?_, ?_⟩
    · have hc := hJ.1.1
      clear hJ
      go_simp <;> with_reducible rfl
    simp only [Act.put, List.setIfInBounds_toArray, List.set_cons_zero, List.set_cons_succ]
    refine Tail.J_load (by rfl) (by rfl) _ _ rfl p3 0 (by rfl) ck (fun D w' _ _ hJ => hJ.1.2) hu16 rfl hi16 ?_
    simp only [Act.put, List.setIfInBounds_toArray, List.set_cons_zero, List.set_cons_succ]
    refine Tail.J_call (by rfl) (by rfl) ?_ ?_
    · apply Exists.intro
      apply Exists.intro
      refine ⟨fun w' => ?_, ?_⟩
      · go_simp <;> exact ⟨rfl, rfl⟩
      intro D z' w' hD hz hd hp hJ
      have h9 : D 9 = false := hp 9 (by kernel_rfl)
      have hb1 := (hJ.2.1 h9).1
      refine (show Calls _ _ _ _ _ from (by rw [HCK.out]; exact leases_calls ix H.out.2.2.2.2.2.2 w')).mono ?_
      rintro e w'' ⟨rfl, hb⟩
      have hb2 := hb1.trans (hb.mono hb1.size)
      refine ⟨_, rfl, fun c hc => by simp at hc; exact hc, ⟨lay_held H.out.1 H1.out.2.2.1 H1.out.2.2.2.1 hb2, fun _ => ⟨hb2, fun d8 => ?_⟩, fun d9 => ?_⟩⟩
      · have := (hJ.2.1 h9).2 (by simpa [Tail.updB] using d8)
        exact ownB_below this hb
      · simp [Tail.updB, h9] at d9
    simp only [Act.put, List.setIfInBounds_toArray, List.set_cons_zero, List.set_cons_succ, Nat.reduceAdd, Nat.reduceEqDiff, reduceIte, Option.getD_some]
    refine Tail.J_ex (by rfl) (by rfl) ?_
    apply Exists.intro
    refine ⟨fun w => ?_, ?_⟩
    · go_simp <;> with_reducible rfl
    simp only [Act.put, List.setIfInBounds_toArray, List.set_cons_zero, List.set_cons_succ]
    refine Tail.J_load (by rfl) (by rfl) _ _ rfl p3 0 (by rfl) ck (fun D w' _ _ hJ => hJ.1.2) hu16 rfl hi16 ?_
    simp only [Act.put, List.setIfInBounds_toArray, List.set_cons_zero, List.set_cons_succ]
    refine Tail.J_call (by rfl) (by rfl) ?_ ?_
    · apply Exists.intro
      apply Exists.intro
      refine ⟨fun w' => ?_, ?_⟩
      · go_simp <;> exact ⟨rfl, rfl⟩
      intro D z' w' hD hz hd hp hJ
      have h9 : D 9 = false := hp 9 (by kernel_rfl)
      have hb1 := (hJ.2.1 h9).1
      have hbw := H1.out.2.2.1.trans (hb1.mono H1.out.2.2.1.size)
      refine (show Calls _ _ _ _ _ from (by rw [HCK.out]; exact tpack_calls w' t2 v2 l2 ix (H.out.2.1.below hbw).tab (by omega) H.out.2.2.2.2.2.2 (by have := H.out.2.2.1.few ix; omega) H.out.2.2.1.ends (H.out.1.below hbw).tab)).mono ?_
      rintro e w'' ⟨vo, out', rfl, hO, hR, hb⟩
      have ho : out' = out := OfR.eq hR H1.out.1 (List.Perm.refl _)
      rw [ho] at hO
      have hb2 := hb1.trans (hb.mono hb1.size)
      refine ⟨_, rfl, fun c hc => by simp at hc, ⟨lay_held H.out.1 H1.out.2.2.1 H1.out.2.2.2.1 hb2, fun _ => ⟨hb2, fun _ => ?_⟩, fun d9 => ?_⟩⟩
      · simp only [Tail.updV, if_pos]
        exact ownB_lower hO hb1.size
      · simp [Tail.updB, h9] at d9
    simp only [Act.put, List.setIfInBounds_toArray, List.set_cons_zero, List.set_cons_succ, Nat.reduceAdd, Nat.reduceEqDiff, reduceIte, Option.getD_none]
    refine Tail.J_call (by rfl) (by rfl) ?_ ?_
    · apply Exists.intro
      apply Exists.intro
      refine ⟨fun w' => ?_, ?_⟩
      · go_simp <;> exact ⟨rfl, rfl⟩
      intro D z' w' hD hz hd hp hJ
      have h9 : D 9 = false := hD
      have h8 : D 8 = true := hd 8 (by kernel_rfl)
      have hb1 := (hJ.2.1 h9).1
      have hbw := H1.out.2.2.1.trans (hb1.mono H1.out.2.2.1.size)
      have hO := (hJ.2.1 h9).2 h8
      rw [← hz 8 h8] at hO
      have hA := H.out.1.below hbw
      have hlt : ∀ b, Foot sb lb d L b → b < w.heap.size := fun b hb => H.out.1.lt (.inl (H.out.1.foot b hb))
      refine (sput_calls _ sb lb d L s.st (leaseN ix) (z 8) (packL out) w' hA.st hO.bys (by rw [show (leaseN ix).size = 17 from name_size 108 H.out.2.2.2.2.2.2]; decide) ?_ (fun x hx => hO.bys.chg hx (fun a l c e hf => ?_)) (by have := H.out.2.2.2.2.2.1.writes; omega)).mono ?_
      · have h1 := packL_len out (fun y hy => by
          obtain ⟨x, hx, e1, e2⟩ := mem_ofL.1 (H1.out.1.perm.mem_iff.1 hy)
          rw [← e2]
          exact (H.out.2.1.tab.wf x hx).2)
        have h2 := H1.out.1.perm.length_eq
        have h3 := H.out.2.2.1.few ix
        omega
      · have h1 := (hO.lt _ (by rw [e]; rfl)).1
        have h2 := hlt _ hf
        have h3 := H1.out.2.2.1.size
        omega
      rintro e w'' ⟨rfl, hst, hc⟩
      have hA2 := hA.store hc hst
      rw [← HZ.out.2.2] at hA2
      have hk := hc.blk (H1.out.2.2.2.1.kept hb1) (fun hf => by have := hlt _ hf; have := H1.out.2.2.2.2; omega)
      refine ⟨_, rfl, fun c hc' => by simp at hc'; rw [← hc', HZ.out.2.1], ⟨⟨hA2.blk.cell 3, fun j v hj => ?_⟩, fun d9 => ?_, fun _ => ⟨(Chg.of_below hbw).trans (hc.mono H.out.1.foot), hA2⟩⟩⟩
      · rw [hk.cell, Nat.zero_add]
        simpa using hj
      · simp [Tail.updB] at d9
    simp only [Act.put, List.setIfInBounds_toArray, List.set_cons_zero, List.set_cons_succ, Nat.reduceAdd, Nat.reduceEqDiff, reduceIte, Option.getD_some]
    intro w4 hJ4
    have HQ := Lib.hid (hJ4.2.2 rfl)
    clear hJ4
    have c4 : w4.cell? ⟨pb, 4, none⟩ = some (.pointer (some ⟨tb, 0, none⟩)) := HQ.out.2.blk.cell 4
    have f4 : w4.frozen? ⟨pb, 4, none⟩ = false := HQ.out.2.blk.free 4
    by_cases hz0 : z0 = 0
    · have HLR : Hid (LayR s ix l2 z0 { s with st := q, tab := l2 }) := ⟨out, H1.out.1, by rw [HZ.out.1]; exact HZ.out.2.1, by rw [if_pos (.inl hz0), HZ.out.1, ← HZ.out.2.2]⟩
      have t1 : (z0 == 0) = true := by simpa using hz0
      replace hz0 := Lib.hid hz0
      go_wp2_with fail
      go_ret
      obtain ⟨C', X', q1, q2, q3, q4⟩ := lay_ok HQ.out.2 HQ.out.1 H.out.2.1 H.out.2.2.1 H.out.2.2.2.1 H.out.2.2.2.2.1
      exact ⟨C', X', z0, _, rfl, HLR.out, q1, q2, q3, q4⟩
    · have t1 : (z0 == 0) = false := by simpa using hz0
      by_cases hz8 : z0 = 8
      · have HLR : Hid (LayR s ix l2 z0 { s with st := q, tab := l2 }) := ⟨out, H1.out.1, by rw [HZ.out.1]; exact HZ.out.2.1, by rw [if_pos (.inr hz8), HZ.out.1, ← HZ.out.2.2]⟩
        have t2' : (z0 == 8) = true := by simpa using hz8
        replace hz8 := Lib.hid hz8
        go_wp2_with fail
        go_ret
        obtain ⟨C', X', q1, q2, q3, q4⟩ := lay_ok HQ.out.2 HQ.out.1 H.out.2.1 H.out.2.2.1 H.out.2.2.2.1 H.out.2.2.2.2.1
        exact ⟨C', X', z0, _, rfl, HLR.out, q1, q2, q3, q4⟩
      · have HLR : Hid (LayR s ix l2 z0 { s with st := q }) := ⟨out, H1.out.1, by rw [HZ.out.1]; exact HZ.out.2.1, by rw [if_neg (fun h => h.elim hz0 hz8), HZ.out.1, ← HZ.out.2.2]⟩
        have t2' : (z0 == 8) = false := by simpa using hz8
        go_wp2_with fail
        go_ret
        exact ⟨C, X, z0, _, rfl, HLR.out, ⟨sb, lb, d, L, tb, v, HQ.out.2⟩, HQ.out.1, fun b hb => .inl hb, fun b hb _ => hb⟩
end Go.Proofs.YtclhgokchcklbaaGreatDoor
end
section
namespace Go.Mem
open Go Go.RowKit Gf Lea
structure Req where
  kind : Int
  ix : Key
  sec : Key
  ends : Int
  en : Key
  vt : Value
  vb : Value
structure Req.Wf (r : Req) : Prop where
  ix : r.ix.length = 16
  sec : r.sec.length = 16
  en : r.en.length = 16
def reqV (r : Req) : List Value := .int .i64 r.kind :: (bV r.ix ++ (bV r.sec ++ (.int .i64 r.ends :: (bV r.en ++ [r.vt, r.vb]))))
theorem reqV_len {r : Req} (h : r.Wf) : (reqV r).length = 52 := by
  simp [reqV, bV_len, h.ix, h.sec, h.en]
theorem reqV_kind (r : Req) : (reqV r)[0]? = some (.int .i64 r.kind) := rfl
theorem reqV_ix {r : Req} (h : r.Wf) {k : Nat} (hk : k < 16) : (reqV r)[1 + k]? = (bV r.ix)[k]? := by
  unfold reqV
  rw [Nat.add_comm, List.getElem?_cons_succ, List.getElem?_append_left (by rw [bV_len, h.ix]; exact hk)]
theorem reqV_sec {r : Req} (h : r.Wf) {k : Nat} (hk : k < 16) : (reqV r)[17 + k]? = (bV r.sec)[k]? := by
  unfold reqV
  rw [show 17 + k = (16 + k) + 1 from by omega, List.getElem?_cons_succ, List.getElem?_append_right (by rw [bV_len, h.ix]; omega), bV_len, h.ix, List.getElem?_append_left (by rw [bV_len, h.sec]; omega), show 16 + k - 16 = k from by omega]
theorem reqV_ends {r : Req} (h : r.Wf) : (reqV r)[33]? = some (.int .i64 r.ends) := by
  unfold reqV
  rw [List.getElem?_cons_succ, List.getElem?_append_right (by rw [bV_len, h.ix]; omega), bV_len, h.ix, List.getElem?_append_right (by rw [bV_len, h.sec]; omega), bV_len, h.sec]; rfl
theorem reqV_en {r : Req} (h : r.Wf) {k : Nat} (hk : k < 16) : (reqV r)[34 + k]? = (bV r.en)[k]? := by
  unfold reqV
  rw [show 34 + k = (33 + k) + 1 from by omega, List.getElem?_cons_succ, List.getElem?_append_right (by rw [bV_len, h.ix]; omega), bV_len, h.ix, List.getElem?_append_right (by rw [bV_len, h.sec]; omega), bV_len, h.sec, show 33 + k - 16 - 16 = k + 1 from by omega, List.getElem?_cons_succ, List.getElem?_append_left (by rw [bV_len, h.en]; exact hk)]
theorem reqV_tail {r : Req} (h : r.Wf) : (reqV r)[50]? = some r.vt ∧ (reqV r)[51]? = some r.vb := by
  unfold reqV
  constructor
  · rw [List.getElem?_cons_succ, List.getElem?_append_right (by rw [bV_len, h.ix]; omega), bV_len, h.ix, List.getElem?_append_right (by rw [bV_len, h.sec]; omega), bV_len, h.sec, List.getElem?_cons_succ, List.getElem?_append_right (by rw [bV_len, h.en]; omega), bV_len, h.en]; rfl
  · rw [List.getElem?_cons_succ, List.getElem?_append_right (by rw [bV_len, h.ix]; omega), bV_len, h.ix, List.getElem?_append_right (by rw [bV_len, h.sec]; omega), bV_len, h.sec, List.getElem?_cons_succ, List.getElem?_append_right (by rw [bV_len, h.en]; omega), bV_len, h.en]; rfl
structure ReqAt (w : World) (p : Nat) (t : TypeId) (r : Req) : Prop where
  blk : Blk w p (reqV r).toArray t
  wf : r.Wf
section
variable {w w' : World} {p : Nat} {t : TypeId} {r : Req}
theorem ReqAt.new (w : World) (t : TypeId) (h : r.Wf) : ReqAt (w.alloc (.cells (reqV r).toArray t)) w.heap.size t r := ⟨Blk.new _ _ _, h⟩
theorem ReqAt.below (h : ReqAt w p t r) (hb : Below w.heap.size w w') : ReqAt w' p t r := ⟨h.blk.kept hb, h.wf⟩
theorem ReqAt.chg {S : Nat → Prop} (h : ReqAt w p t r) (hc : Chg S w w') (hs : ¬ S p) : ReqAt w' p t r := ⟨hc.blk h.blk hs, h.wf⟩
theorem ReqAt.kind (h : ReqAt w p t r) : w.cell? ⟨p, 0, none⟩ = some (.int .i64 r.kind) := by rw [h.blk.cell]; simp [reqV_kind]
theorem ReqAt.ends (h : ReqAt w p t r) : w.cell? ⟨p, 33, none⟩ = some (.int .i64 r.ends) := by rw [h.blk.cell]; simp [reqV_ends h.wf]
theorem ReqAt.tests (h : ReqAt w p t r) : w.cell? ⟨p, 50, none⟩ = some r.vt := by rw [h.blk.cell]; simp [(reqV_tail h.wf).1]
theorem ReqAt.blobs (h : ReqAt w p t r) : w.cell? ⟨p, 51, none⟩ = some r.vb := by rw [h.blk.cell]; simp [(reqV_tail h.wf).2]
theorem ReqAt.rix (h : ReqAt w p t r) : readK 16 w p 1 = bV r.ix := blk_read h.blk (by rw [bV_len, h.wf.ix]) (fun k hk => by simp [reqV_ix h.wf hk])
theorem ReqAt.rsec (h : ReqAt w p t r) : readK 16 w p 17 = bV r.sec := blk_read h.blk (by rw [bV_len, h.wf.sec]) (fun k hk => by simp [reqV_sec h.wf hk])
theorem ReqAt.ren (h : ReqAt w p t r) : readK 16 w p 34 = bV r.en := blk_read h.blk (by rw [bV_len, h.wf.en]) (fun k hk => by simp [reqV_en h.wf hk])
theorem ReqAt.hix (h : ReqAt w p t r) : HasK 16 w p 1 := blk_has h.blk (by simp [reqV_len h.wf])
theorem ReqAt.hsec (h : ReqAt w p t r) : HasK 16 w p 17 := blk_has h.blk (by simp [reqV_len h.wf])
theorem ReqAt.hen (h : ReqAt w p t r) : HasK 16 w p 34 := blk_has h.blk (by simp [reqV_len h.wf])
theorem ReqAt.hall (h : ReqAt w p t r) : HasK 52 w p 0 := blk_has h.blk (by simp [reqV_len h.wf])
theorem ReqAt.rall (h : ReqAt w p t r) : readK 52 w p 0 = reqV r := blk_read0 h.blk (reqV_len h.wf)
theorem ReqAt.gix (h : ReqAt w p t r) : w.rangeAt p 1 (bV r.ix) := by have := readK_range h.hix; rwa [h.rix] at this
theorem ReqAt.lt (h : ReqAt w p t r) : p < w.heap.size := h.blk.lt
end
end Go.Mem
namespace Go.Proofs.YtclhgokchcklbaaGreatDoor
open Go Go.RowKit Go.Mem Gf Lea
inductive AddSrv (s : SrvS) (ix sec : Key) (e : Int) : Int → SrvS → Prop
  | full (h : AddR s.tab ix sec e false s.tab) : AddSrv s ix sec e 3 s
  | laid (l2 : List Les) (err : Int) (s' : SrvS) (h : AddR s.tab ix sec e true l2) (hl : LayR s ix l2 err s') : AddSrv s ix sec e err s'
theorem own_add {w w1 w2 : World} {C X : Nat → Prop} {pb : Nat} {s : SrvS} (h : IsSrv w C X pb s) {t2 : Nat} {v2 v3 : Value} {l : List Les} (h1 : w.heap.size ≤ t2) (h2 : ∀ g, v2.ownBlock = some g → w.heap.size ≤ g) (hb : Below w.heap.size w w1) (hc : TChg t2 v2 v3 w1 w2) (hh : Heap w2 t2 v3 l) :
    IsSrv w2 C (fun b => X b ∨ (w.heap.size ≤ b ∧ b < w2.heap.size)) pb s ∧ Below w.heap.size w w2 ∧ (w.heap.size ≤ t2 ∧ t2 < w2.heap.size) ∧ ∀ g, v3.ownBlock = some g → w.heap.size ≤ g ∧ g < w2.heap.size := by
  have hb2 : Below w.heap.size w w2 := ((Chg.of_below (S := fun b => w.heap.size ≤ b) hb).mix hc.1 (fun k hk => by
    rcases hk with rfl | hk
    · exact .inl h1
    · exact .inl (h2 k hk))).below (Nat.le_refl _) (fun _ h => h)
  refine ⟨h.growX (fun b hb => .inl hb) (fun b hb => hb.imp id And.left) hb2 (fun b hb => ?_), hb2, ⟨h1, hh.tab.cell.lt⟩, fun g hg => ⟨?_, (hh.tab.own.lt g hg).2⟩⟩
  · rcases hb with hb | hb
    · exact Nat.lt_of_lt_of_le (h.lt (.inr hb)) hb2.size
    · exact hb.2
  · rcases hc.2 g hg with h3 | h3
    · exact h2 g h3
    · exact Nat.le_trans hb.size h3
attribute [local irreducible] reqV
attribute [local go_sem ↓] Go.wp_at_zero Go.wp_at_succ
attribute [local go_sem ↓] load_key build_lease
attribute [local go_sem] ptrB_eq ptrO_eq ptrIs_eq aggL_eq aggIs_eq readK_drew hasK_drew readK_alloc_past hasK_alloc_past
set_option maxRecDepth 100000 in
set_option maxHeartbeats 1000000 in
theorem srvadd_calls (C X : Nat → Prop) (pb : Nat) (s : SrvS) (r : Req) (hr : r.Wf) (w : World) (h : IsSrv w C X pb s) (hB : SrvB s) :
    Calls Tryz.prog 125 #[.pointer (some ⟨pb, 0, none⟩), .agg (reqV r).toArray] w fun e w' => ∃ C' err s', e = .returned (.int .i64 err) ∧ AddSrv s r.ix r.sec r.ends err s' ∧ IsSrv w' C' X pb s' ∧ SChg C C' w w' := by
  have hR := ReqAt.new w 47 hr
  have hb0 := (Below.refl w.heap.size w).alloc (Nat.le_refl _) (.cells (reqV r).toArray 47)
  obtain ⟨cr, hcr⟩ : ∃ c, c = reqV r := ⟨_, rfl⟩
  rw [← hcr] at hR hb0 ⊢
  have HCR := Lib.hid hcr
  have H := Lib.hid (And.intro h (And.intro hB hr))
  obtain ⟨w0, hw0⟩ : ∃ x, x = w.alloc (.cells cr.toArray 47) := ⟨_, rfl⟩
  obtain ⟨p3, hp3⟩ : ∃ p, p = w.heap.size := ⟨_, rfl⟩
  have HW := Lib.hid (And.intro hw0 hp3)
  rw [← hw0, ← hp3] at hR
  rw [← hw0] at hb0
  have H0 := Lib.hid (And.intro hR (And.intro hb0 (h.below hb0)))
  clear h hB hr hcr hw0 hp3 hR hb0
  go_enter Tryz.func125, Tryz.ntmps125
  go_upto_region 1 with fail
  rw [← HW.out.1, ← HW.out.2]
  obtain ⟨sb, lb, d, L, tb, v, hA⟩ := H0.out.2.2
  have c4 : w0.cell? ⟨pb, 4, none⟩ = some (.pointer (some ⟨tb, 0, none⟩)) := hA.blk.cell 4
  have HA := Lib.hid hA
  clear hA
  go_wp2_with fail
  refine (clone_calls w0 tb v s.tab HA.out.heap (by have := H.out.2.1.tab; omega)).mono ?_
  rintro e w1 ⟨t2, v2, rfl, f1, f2, f3, f4⟩
  have hR1 := H0.out.1.below f4
  have r1 := hR1.rix
  have r2 := hR1.rsec
  have r3 := hR1.ends
  have g1 := hR1.hix
  have g2 := hR1.hsec
  obtain ⟨ki, hki⟩ : ∃ c, c = bV r.ix := ⟨_, rfl⟩
  obtain ⟨ks, hks⟩ : ∃ c, c = bV r.sec := ⟨_, rfl⟩
  rw [← hki] at r1
  rw [← hks] at r2
  have k1 : ki.length = 16 := by rw [hki, bV_len]; exact H.out.2.2.ix
  have k2 : ks.length = 16 := by rw [hks, bV_len]; exact H.out.2.2.sec
  have k3 : ks.toArray.push (.int .i64 r.ends) = (encL (r.sec, r.ends)).toArray := by rw [hks]; unfold encL; simp
  have k4 : ks.toArray ++ #[.int .i64 r.ends] = (encL (r.sec, r.ends)).toArray := by rw [hks]; unfold encL; simp
  have H1 := Lib.hid (And.intro f1 (And.intro f2 (And.intro f3 (And.intro f4 (And.intro hki (And.intro hks hR1))))))
  clear f1 f2 f3 f4 hki hks hR1
  go_wp2_with fail
  refine (show Calls _ _ _ _ _ from (by rw [H1.out.2.2.2.2.1]; exact add_calls w1 t2 v2 s.tab r.ix r.sec r.ends H1.out.2.2.1 HA.out.good (by have := H.out.2.1.tab; omega) H.out.2.2.ix H.out.2.2.sec)).mono ?_
  rintro e w2 ⟨b, v3, l2, rfl, ha, hh, hc⟩
  obtain ⟨q1, q2, q3, q4⟩ := own_add H0.out.2.2 H1.out.1 H1.out.2.1 H1.out.2.2.2.1 hc hh
  have hR2 := H0.out.1.below q2
  have r1' := hR2.rix
  have g1' := hR2.hix
  rw [← H1.out.2.2.2.2.1] at r1'
  have H2 := Lib.hid (And.intro q1 (And.intro q2 (And.intro q3 (And.intro q4 (And.intro ha hh)))))
  clear q1 q2 q3 q4 hR2 ha hh hc r1 r2 r3 g1 g2 k3 k4
  cases b with
  | false =>
    have hno : AddR s.tab r.ix r.sec r.ends false s.tab := by
      have := H2.out.2.2.2.2.1
      cases this with
      | no h => exact .no h
    have HNO := Lib.hid hno
    clear hno
    go_wp2_with fail
    go_ret
    exact ⟨C, 3, s, rfl, .full HNO.out, (H0.out.2.2.below H2.out.2.1), SChg.of_below (H0.out.2.1.trans (H2.out.2.1.mono H0.out.2.1.size))⟩
  | true =>
    go_wp2_with fail
    refine (show Calls _ _ _ _ _ from (by rw [H1.out.2.2.2.2.1]; exact lay_calls C _ pb s r.ix H.out.2.2.ix t2 v3 l2 w2 H2.out.1 H.out.2.1 H2.out.2.2.2.2.2 (H2.out.2.2.2.2.1.good HA.out.good) (by have := H2.out.2.2.2.2.1.len; have := H.out.2.1.tab; omega) (.inr H2.out.2.2.1) (fun g hg => .inr (H2.out.2.2.2.1 g hg)))).mono ?_
    rintro e w3 ⟨C', X', err, s', rfl, hl, hs', hc3, hC', hX'⟩
    have HL := Lib.hid (And.intro hl (And.intro hs' (And.intro hc3 (And.intro hC' hX'))))
    clear hl hs' hc3 hC' hX'
    go_wp2_with fail
    go_ret
    have hw := H0.out.2.1
    have hb2 := hw.trans (H2.out.2.1.mono hw.size)
    refine ⟨C', err, s', rfl, .laid l2 err s' H2.out.2.2.2.2.1 HL.out.1, ?_, (Chg.of_below hb2).trans HL.out.2.2.1, fun b hb => ?_⟩
    · obtain ⟨sb', lb', d', L', tb', v', hA'⟩ := HL.out.2.1
      refine ⟨sb', lb', d', L', tb', v', hA'.shrinkX (fun b hb => HL.out.2.2.2.2 b (.inl hb) ?_)⟩
      have hlt := H.out.1.lt (.inr hb)
      have hz := hw.size
      rintro (e | e)
      · have := H2.out.2.2.1.1; omega
      · have := (H2.out.2.2.2.1 b e).1; omega
    · have hz := hw.size
      rcases HL.out.2.2.2.1 b hb with h | h | h
      · exact .inl h
      · right
        rw [h]
        exact Nat.le_trans hz H2.out.2.2.1.1
      · right
        exact Nat.le_trans hz (H2.out.2.2.2.1 b h).1
theorem ofR_ex (l : List Les) (ix : Key) : ∃ out, OfR l ix out := by
  refine ⟨(ofL l ix).mergeSort (fun a b => !ltL b a), List.mergeSort_perm _ _, ?_⟩
  have := List.pairwise_mergeSort (le := fun a b => !ltL b a) (fun a b c h1 h2 => ?_) (fun a b => ?_) (ofL l ix)
  · exact this.imp fun {a b} h => by simpa using h
  · simp only [Bool.not_eq_true'] at h1 h2 ⊢
    exact ordL.trans a b c h1 h2
  · have := ordL.asymm a b
    cases h : ltL a b with
    | false => simp
    | true => simp [this h]
def AskR (s : SrvS) (ix sec : Key) (e : Int) (name : ByteArray) (data : List UInt8) (is : Bool) (err : Int) : Prop :=
  ∃ b l2 out, AddR s.tab ix sec e b l2 ∧ (b = true → OfR l2 ix out) ∧
    err = if b = false ∨ s.st.freeN < (if is = true then 1 else 2) then 3 else if fitsB s.st.room name data = false ∨ fitsB s.st.room (leaseN ix) (packL out) = false then 1 else 0
set_option maxRecDepth 100000 in
set_option maxHeartbeats 2000000 in
theorem asks_calls (C X : Nat → Prop) (pb : Nat) (s : SrvS) (r : Req) (hr : r.Wf) (name : ByteArray) (vd : Value) (data : List UInt8) (is : Bool) (w : World) (h : IsSrv w C X pb s) (hB : SrvB s) (hd : Bys w vd data) (hn : name.size ≤ 1000000) :
    Calls Tryz.prog 124 #[.pointer (some ⟨pb, 0, none⟩), .agg (reqV r).toArray, .string name, vd, .bool is] w fun e w' => ∃ err, e = .returned (.int .i64 err) ∧ AskR s r.ix r.sec r.ends name data is err ∧ Below w.heap.size w w' := by
  have hR := ReqAt.new w 47 hr
  have hb0 := (Below.refl w.heap.size w).alloc (Nat.le_refl _) (.cells (reqV r).toArray 47)
  obtain ⟨cr, hcr⟩ : ∃ c, c = reqV r := ⟨_, rfl⟩
  rw [← hcr] at hR hb0 ⊢
  have HCR := Lib.hid hcr
  have H := Lib.hid (And.intro h (And.intro hB (And.intro hr (And.intro hd hn))))
  obtain ⟨w0, hw0⟩ : ∃ x, x = w.alloc (.cells cr.toArray 47) := ⟨_, rfl⟩
  obtain ⟨p3, hp3⟩ : ∃ p, p = w.heap.size := ⟨_, rfl⟩
  have HW := Lib.hid (And.intro hw0 hp3)
  rw [← hw0, ← hp3] at hR
  rw [← hw0] at hb0
  have H0 := Lib.hid (And.intro hR (And.intro hb0 (h.below hb0)))
  clear h hB hr hcr hw0 hp3 hR hb0 hd hn
  go_enter Tryz.func124, Tryz.ntmps124
  go_upto_region 1 with fail
  rw [← HW.out.1, ← HW.out.2]
  obtain ⟨sb, lb, d, L, tb, v, hA⟩ := H0.out.2.2
  have c4 : w0.cell? ⟨pb, 4, none⟩ = some (.pointer (some ⟨tb, 0, none⟩)) := hA.blk.cell 4
  have HA := Lib.hid hA
  clear hA
  go_wp2_with fail
  refine (clone_calls w0 tb v s.tab HA.out.heap (by have := H.out.2.1.tab; omega)).mono ?_
  rintro e w1 ⟨t2, v2, rfl, f1, f2, f3, f4⟩
  have hR1 := H0.out.1.below f4
  have r1 := hR1.rix
  have r2 := hR1.rsec
  have r3 := hR1.ends
  have g1 := hR1.hix
  have g2 := hR1.hsec
  obtain ⟨ki, hki⟩ : ∃ c, c = bV r.ix := ⟨_, rfl⟩
  obtain ⟨ks, hks⟩ : ∃ c, c = bV r.sec := ⟨_, rfl⟩
  rw [← hki] at r1
  rw [← hks] at r2
  have k1 : ki.length = 16 := by rw [hki, bV_len]; exact H.out.2.2.1.ix
  have k2 : ks.length = 16 := by rw [hks, bV_len]; exact H.out.2.2.1.sec
  have k3 : ks.toArray.push (.int .i64 r.ends) = (encL (r.sec, r.ends)).toArray := by rw [hks]; unfold encL; simp
  have k4 : ks.toArray ++ #[.int .i64 r.ends] = (encL (r.sec, r.ends)).toArray := by rw [hks]; unfold encL; simp
  have H1 := Lib.hid (And.intro f1 (And.intro f2 (And.intro f3 (And.intro f4 (And.intro hki (And.intro hks hR1))))))
  clear f1 f2 f3 f4 hki hks hR1
  -- how many slots are wanted
  obtain ⟨fr, hfr⟩ : ∃ f : Nat, f = if is = true then 1 else 2 := ⟨_, rfl⟩
  go_upto_if 18 with fail
  go_cut [12] (fun s12 wx => s12 = .int .i64 fr ∧ w1 = wx)
  case first =>
    cases is
    · have e2 : fr = 2 := hfr
      subst e2
      clear hfr
      go_wp2_with fail
      go_meet
      exact ⟨rfl, rfl⟩
    · have e2 : fr = 1 := hfr
      subst e2
      clear hfr
      go_wp2_with fail
      go_meet
      exact ⟨rfl, rfl⟩
  case rest =>
  obtain ⟨rfl, rfl⟩ := hcut
  have HFR := Lib.hid hfr
  have hfr2 : fr ≤ 2 := by rw [hfr]; split <;> omega
  clear hfr
  go_wp2_with fail
  refine (show Calls _ _ _ _ _ from (by rw [H1.out.2.2.2.2.1]; exact add_calls w1 t2 v2 s.tab r.ix r.sec r.ends H1.out.2.2.1 HA.out.good (by have := H.out.2.1.tab; omega) H.out.2.2.1.ix H.out.2.2.1.sec)).mono ?_
  rintro e w2 ⟨b, v3, l2, rfl, ha, hh, hc⟩
  obtain ⟨q1, q2, q3, q4⟩ := own_add H0.out.2.2 H1.out.1 H1.out.2.1 H1.out.2.2.2.1 hc hh
  have hbw2 := H0.out.2.1.trans (q2.mono H0.out.2.1.size)
  have H2 := Lib.hid (And.intro q2 (And.intro hbw2 (And.intro ha hh)))
  have c3 : w2.cell? ⟨pb, 3, none⟩ = some (.pointer (some ⟨sb, 0, none⟩)) := (HA.out.below q2).blk.cell 3
  clear q1 q2 q3 q4 ha hh hc r1 r2 r3 g1 g2 k3 k4 hbw2
  cases b with
  | false =>
    have HNO : Hid (AskR s r.ix r.sec r.ends name data is 3) := ⟨false, l2, [], H2.out.2.2.1, (fun h => by cases h), by rw [if_pos (.inl rfl)]⟩
    go_wp2_with fail
    go_ret
    exact ⟨3, rfl, HNO.out, H2.out.2.1⟩
  | true =>
    obtain ⟨out, hout⟩ := ofR_ex l2 r.ix
    have HOUT := Lib.hid hout
    clear hout
    go_wp2_with fail
    refine (sfree_calls _ sb lb d L s.st w2 (HA.out.below H2.out.1).st).mono ?_
    rintro e w3 ⟨rfl, hb3⟩
    obtain ⟨fn, hfn⟩ : ∃ f, f = s.st.freeN := ⟨_, rfl⟩
    rw [← hfn]
    have HFN := Lib.hid hfn
    have H3 := Lib.hid (And.intro (H2.out.1.trans (hb3.mono H2.out.1.size)) (H2.out.2.1.trans (hb3.mono H2.out.2.1.size)))
    have H4 := Lib.hid hb3
    have H5 := Lib.hid (H2.out.2.2.1.good HA.out.good)
    clear hfn hb3 c3
    by_cases h3 : fn < fr
    · have HNO : Hid (AskR s r.ix r.sec r.ends name data is 3) := ⟨true, l2, out, H2.out.2.2.1, fun _ => HOUT.out, by rw [if_pos (.inr (by rw [← HFN.out, ← HFR.out]; exact h3))]⟩
      have d3 : decide ((fn : Int) < (fr : Int)) = true := by simpa using h3
      have d3' : decide (fn < fr) = true := by simpa using h3
      go_wp2_with fail
      go_ret
      exact ⟨3, rfl, HNO.out, H3.out.2⟩
    · have d3 : decide ((fn : Int) < (fr : Int)) = false := by simp; omega
      have d3' : decide (fn < fr) = false := by simp; omega
      go_upto_region 7 with fail
      obtain ⟨f1, hf1⟩ : ∃ f, f = fitsB s.st.room name data := ⟨_, rfl⟩
      have HF1 := Lib.hid hf1
      clear hf1
      cases f1 with
      | false =>
        refine Tail.wp_region_J 23 (fun k => k == 6) (fun k => if k = 6 then some (.bool false) else none) (fun D z w' => Below w3.heap.size w3 w' ∧ (D 19 = true → OwnB 5 w' w3.heap.size (z 19) (packL out)))
          (by kernel_rfl) (by kernel_rfl) (fun k hk => by simp at hk; omega) (fun D z z' w' hz h => ⟨h.1, fun d19 => by rw [← hz 19 d19]; exact h.2 d19⟩) ⟨(Below.refl _ _).drew, fun h => by cases h⟩ (fun z => ?_)
        simp only [List.take_succ_cons, List.take_zero, List.drop_succ_cons, List.drop_zero]
        refine Tail.J_ex (by rfl) (by rfl) ?_
        apply Exists.intro
        refine ⟨fun w => ?_, ?_⟩
        · go_simp <;> with_reducible rfl
        simp only [Act.put, List.setIfInBounds_toArray, List.set_cons_zero, List.set_cons_succ]
        refine Tail.J_ex (by rfl) (by rfl) ?_
        apply Exists.intro
        refine ⟨fun w => ?_, ?_⟩
        · go_simp <;> with_reducible rfl
        simp only [Act.put, List.setIfInBounds_toArray, List.set_cons_zero, List.set_cons_succ]
        refine Tail.J_ex (by rfl) (by rfl) ?_
        apply Exists.intro
        refine ⟨fun w => ?_, ?_⟩
        · go_simp <;> with_reducible rfl
        simp only [Act.put, List.setIfInBounds_toArray, List.set_cons_zero, List.set_cons_succ]
        refine Tail.J_at (by rfl) (by rfl) ?_
        apply Exists.intro
        refine ⟨fun D w' _ _ hJ => ?_, ?_⟩
        · have hc : w'.cell? ⟨pb, 3, none⟩ = some (.pointer (some ⟨sb, 0, none⟩)) := ((HA.out.below H3.out.1).below hJ.1).blk.cell 3
          clear hJ
          go_simp <;> with_reducible rfl
        simp only [Act.put, List.setIfInBounds_toArray, List.set_cons_zero, List.set_cons_succ]
        refine Tail.J_ex (by rfl) (by rfl) ?_
        apply Exists.intro
        refine ⟨fun w => ?_, ?_⟩
        · go_simp <;> with_reducible rfl
        simp only [Act.put, List.setIfInBounds_toArray, List.set_cons_zero, List.set_cons_succ]
        refine Tail.J_ex (by rfl) (by rfl) ?_
        apply Exists.intro
        refine ⟨fun w => ?_, ?_⟩
        · go_simp <;> with_reducible rfl
        simp only [Act.put, List.setIfInBounds_toArray, List.set_cons_zero, List.set_cons_succ]
        refine Tail.J_call (by rfl) (by rfl) ?_ ?_
        · apply Exists.intro
          apply Exists.intro
          refine ⟨fun w' => ?_, ?_⟩
          · go_simp <;> exact ⟨rfl, rfl⟩
          intro D z' w' hD hz hd hp hJ
          have hb3 := H3.out.2.trans (hJ.1.mono H3.out.2.size)
          refine (fits_calls _ sb lb d L s.st name vd data w' ((HA.out.below H3.out.1).below hJ.1).st (H.out.2.2.2.1.below hb3) (by have := H.out.2.2.2.2; omega)).mono ?_
          rintro e w'' ⟨rfl, hb⟩
          refine ⟨_, rfl, fun c hc => by simp at hc; rw [← hc, ← HF1.out], ⟨hJ.1.trans (hb.mono hJ.1.size), fun d19 => ?_⟩⟩
          exact ownB_below (hJ.2 d19) hb
        simp only [Act.put, List.setIfInBounds_toArray, List.set_cons_zero, List.set_cons_succ, Nat.reduceAdd, reduceIte, Option.getD_some]
        refine Tail.J_ex (by rfl) (by rfl) ?_
        apply Exists.intro
        refine ⟨fun w => ?_, ?_⟩
        · go_simp <;> with_reducible rfl
        simp only [Act.put, List.setIfInBounds_toArray, List.set_cons_zero, List.set_cons_succ]
        refine Tail.J_ex (by rfl) (by rfl) ?_
        apply Exists.intro
        refine ⟨fun w => ?_, ?_⟩
        · go_simp <;> with_reducible rfl
        simp only [Act.put, List.setIfInBounds_toArray, List.set_cons_zero, List.set_cons_succ]
        refine Tail.J_skip (by rfl) (by rfl) ?_
        simp only [Act.put, List.setIfInBounds_toArray, List.set_cons_zero, List.set_cons_succ]
        refine Tail.J_skip (by rfl) (by rfl) ?_
        simp only [Act.put, List.setIfInBounds_toArray, List.set_cons_zero, List.set_cons_succ]
        refine Tail.J_skip (by rfl) (by rfl) ?_
        simp only [Act.put, List.setIfInBounds_toArray, List.set_cons_zero, List.set_cons_succ]
        refine Tail.J_skip (by rfl) (by rfl) ?_
        simp only [Act.put, List.setIfInBounds_toArray, List.set_cons_zero, List.set_cons_succ]
        refine Tail.J_skip (by rfl) (by rfl) ?_
        simp only [Act.put, List.setIfInBounds_toArray, List.set_cons_zero, List.set_cons_succ]
        refine Tail.J_skip (by rfl) (by rfl) ?_
        simp only [Act.put, List.setIfInBounds_toArray, List.set_cons_zero, List.set_cons_succ]
        refine Tail.J_skip (by rfl) (by rfl) ?_
        simp only [Act.put, List.setIfInBounds_toArray, List.set_cons_zero, List.set_cons_succ]
        refine Tail.J_skip (by rfl) (by rfl) ?_
        simp only [Act.put, List.setIfInBounds_toArray, List.set_cons_zero, List.set_cons_succ]
        refine Tail.J_skip (by rfl) (by rfl) ?_
        simp only [Act.put, List.setIfInBounds_toArray, List.set_cons_zero, List.set_cons_succ]
        refine Tail.J_skip (by rfl) (by rfl) ?_
        simp only [Act.put, List.setIfInBounds_toArray, List.set_cons_zero, List.set_cons_succ]
        refine Tail.J_skip (by rfl) (by rfl) ?_
        simp only [Act.put, List.setIfInBounds_toArray, List.set_cons_zero, List.set_cons_succ]
        refine Tail.J_skip (by rfl) (by rfl) ?_
        simp only [Act.put, List.setIfInBounds_toArray, List.set_cons_zero, List.set_cons_succ]
        refine Tail.J_skip (by rfl) (by rfl) ?_
        simp only [Act.put, List.setIfInBounds_toArray, List.set_cons_zero, List.set_cons_succ]
        refine Tail.J_ex (by rfl) (by rfl) ?_
        apply Exists.intro
        refine ⟨fun w => ?_, ?_⟩
        · go_simp <;> with_reducible rfl
        simp only [Act.put, List.setIfInBounds_toArray, List.set_cons_zero, List.set_cons_succ]
        intro w4 hJ4
        have HB4 := Lib.hid (H3.out.2.trans (hJ4.1.mono H3.out.2.size))
        clear hJ4
        have HNO : Hid (AskR s r.ix r.sec r.ends name data is 1) := ⟨true, l2, out, H2.out.2.2.1, fun _ => HOUT.out, by rw [if_neg (by rw [← HFN.out, ← HFR.out]; rintro (h | h); cases h; exact h3 h), if_pos (.inl HF1.out.symm)]⟩
        go_wp2_with fail
        go_ret
        exact ⟨1, rfl, HNO.out, HB4.out⟩
      | true =>
        obtain ⟨f2, hf2⟩ : ∃ f, f = fitsB s.st.room (leaseN r.ix) (packL out) := ⟨_, rfl⟩
        have HF2 := Lib.hid hf2
        clear hf2
        refine Tail.wp_region_J 23 (fun k => k == 6 || k == 15 || k == 19 || k == 20) (fun k => if k = 6 then some (.bool true) else if k = 15 then some (.string (leaseN r.ix)) else if k = 20 then some (.bool f2) else none) (fun D z w' => Below w3.heap.size w3 w' ∧ (D 19 = true → OwnB 5 w' w3.heap.size (z 19) (packL out)))
          (by kernel_rfl) (by kernel_rfl) (fun k hk => by simp at hk; omega) (fun D z z' w' hz h => ⟨h.1, fun d19 => by rw [← hz 19 d19]; exact h.2 d19⟩) ⟨(Below.refl _ _).drew, fun h => by cases h⟩ (fun z => ?_)
        simp only [List.take_succ_cons, List.take_zero, List.drop_succ_cons, List.drop_zero]
        refine Tail.J_ex (by rfl) (by rfl) ?_
        apply Exists.intro
        refine ⟨fun w => ?_, ?_⟩
        · go_simp <;> with_reducible rfl
        simp only [Act.put, List.setIfInBounds_toArray, List.set_cons_zero, List.set_cons_succ]
        refine Tail.J_ex (by rfl) (by rfl) ?_
        apply Exists.intro
        refine ⟨fun w => ?_, ?_⟩
        · go_simp <;> with_reducible rfl
        simp only [Act.put, List.setIfInBounds_toArray, List.set_cons_zero, List.set_cons_succ]
        refine Tail.J_ex (by rfl) (by rfl) ?_
        apply Exists.intro
        refine ⟨fun w => ?_, ?_⟩
        · go_simp <;> with_reducible rfl
        simp only [Act.put, List.setIfInBounds_toArray, List.set_cons_zero, List.set_cons_succ]
        refine Tail.J_at (by rfl) (by rfl) ?_
        apply Exists.intro
        refine ⟨fun D w' _ _ hJ => ?_, ?_⟩
        · have hc : w'.cell? ⟨pb, 3, none⟩ = some (.pointer (some ⟨sb, 0, none⟩)) := ((HA.out.below H3.out.1).below hJ.1).blk.cell 3
          clear hJ
          go_simp <;> with_reducible rfl
        simp only [Act.put, List.setIfInBounds_toArray, List.set_cons_zero, List.set_cons_succ]
        refine Tail.J_ex (by rfl) (by rfl) ?_
        apply Exists.intro
        refine ⟨fun w => ?_, ?_⟩
        · go_simp <;> with_reducible rfl
        simp only [Act.put, List.setIfInBounds_toArray, List.set_cons_zero, List.set_cons_succ]
        refine Tail.J_ex (by rfl) (by rfl) ?_
        apply Exists.intro
        refine ⟨fun w => ?_, ?_⟩
        · go_simp <;> with_reducible rfl
        simp only [Act.put, List.setIfInBounds_toArray, List.set_cons_zero, List.set_cons_succ]
        refine Tail.J_call (by rfl) (by rfl) ?_ ?_
        · apply Exists.intro
          apply Exists.intro
          refine ⟨fun w' => ?_, ?_⟩
          · go_simp <;> exact ⟨rfl, rfl⟩
          intro D z' w' hD hz hd hp hJ
          have hb3 := H3.out.2.trans (hJ.1.mono H3.out.2.size)
          refine (fits_calls _ sb lb d L s.st name vd data w' ((HA.out.below H3.out.1).below hJ.1).st (H.out.2.2.2.1.below hb3) (by have := H.out.2.2.2.2; omega)).mono ?_
          rintro e w'' ⟨rfl, hb⟩
          refine ⟨_, rfl, fun c hc => by simp at hc; rw [← hc, ← HF1.out], ⟨hJ.1.trans (hb.mono hJ.1.size), fun d19 => ?_⟩⟩
          exact ownB_below (hJ.2 d19) hb
        simp only [Act.put, List.setIfInBounds_toArray, List.set_cons_zero, List.set_cons_succ, Nat.reduceAdd, Nat.reduceEqDiff, reduceIte, Option.getD_some]
        refine Tail.J_ex (by rfl) (by rfl) ?_
        apply Exists.intro
        refine ⟨fun w => ?_, ?_⟩
        · go_simp <;> with_reducible rfl
        simp only [Act.put, List.setIfInBounds_toArray, List.set_cons_zero, List.set_cons_succ]
        refine Tail.J_ex (by rfl) (by rfl) ?_
        apply Exists.intro
        refine ⟨fun w => ?_, ?_⟩
        · go_simp <;> with_reducible rfl
        simp only [Act.put, List.setIfInBounds_toArray, List.set_cons_zero, List.set_cons_succ]
        refine Tail.J_ex (by rfl) (by rfl) ?_
        apply Exists.intro
        refine ⟨fun w => ?_, ?_⟩
        · go_simp <;> with_reducible rfl
        simp only [Act.put, List.setIfInBounds_toArray, List.set_cons_zero, List.set_cons_succ]
        refine Tail.J_ex (by rfl) (by rfl) ?_
        apply Exists.intro
        refine ⟨fun w => ?_, ?_⟩
        · go_simp <;> with_reducible rfl
        simp only [Act.put, List.setIfInBounds_toArray, List.set_cons_zero, List.set_cons_succ]
        refine Tail.J_ex (by rfl) (by rfl) ?_
        apply Exists.intro
        refine ⟨fun w => ?_, ?_⟩
        · go_simp <;> with_reducible rfl
        simp only [Act.put, List.setIfInBounds_toArray, List.set_cons_zero, List.set_cons_succ]
        refine Tail.J_at (by rfl) (by rfl) ?_
        apply Exists.intro
        refine ⟨fun D w' _ _ hJ => ?_, ?_⟩
        · have hc : w'.cell? ⟨pb, 3, none⟩ = some (.pointer (some ⟨sb, 0, none⟩)) := ((HA.out.below H3.out.1).below hJ.1).blk.cell 3
          clear hJ
          go_simp <;> with_reducible rfl
        simp only [Act.put, List.setIfInBounds_toArray, List.set_cons_zero, List.set_cons_succ]
        refine Tail.J_ex (by rfl) (by rfl) ?_
        apply Exists.intro
        refine ⟨fun w => ?_, ?_⟩
        · go_simp <;> with_reducible rfl
        simp only [Act.put, List.setIfInBounds_toArray, List.set_cons_zero, List.set_cons_succ]
        refine Tail.J_load (by rfl) (by rfl) _ _ rfl p3 1 (by rfl) ki (fun D w' _ _ hJ => by rw [H1.out.2.2.2.2.1]; exact ((H0.out.1.below H3.out.1).below hJ.1).gix) Tryz.underlying44 rfl (by rw [k1]; exact i16) ?_
        simp only [Act.put, List.setIfInBounds_toArray, List.set_cons_zero, List.set_cons_succ]
        refine Tail.J_call (by rfl) (by rfl) ?_ ?_
        · apply Exists.intro
          apply Exists.intro
          refine ⟨fun w' => ?_, ?_⟩
          · go_simp <;> exact ⟨rfl, rfl⟩
          intro D z' w' hD hz hd hp hJ
          have hb3 := H3.out.2.trans (hJ.1.mono H3.out.2.size)
          refine (show Calls _ _ _ _ _ from (by rw [H1.out.2.2.2.2.1]; exact leases_calls r.ix H.out.2.2.1.ix w')).mono ?_
          rintro e w'' ⟨rfl, hb⟩
          exact ⟨_, rfl, fun c hc => by simp at hc; exact hc, ⟨hJ.1.trans (hb.mono hJ.1.size), fun d19 => ownB_below (hJ.2 d19) hb⟩⟩
        simp only [Act.put, List.setIfInBounds_toArray, List.set_cons_zero, List.set_cons_succ, Nat.reduceAdd, Nat.reduceEqDiff, reduceIte, Option.getD_some]
        refine Tail.J_ex (by rfl) (by rfl) ?_
        apply Exists.intro
        refine ⟨fun w => ?_, ?_⟩
        · go_simp <;> with_reducible rfl
        simp only [Act.put, List.setIfInBounds_toArray, List.set_cons_zero, List.set_cons_succ]
        refine Tail.J_ex (by rfl) (by rfl) ?_
        apply Exists.intro
        refine ⟨fun w => ?_, ?_⟩
        · go_simp <;> with_reducible rfl
        simp only [Act.put, List.setIfInBounds_toArray, List.set_cons_zero, List.set_cons_succ]
        refine Tail.J_load (by rfl) (by rfl) _ _ rfl p3 1 (by rfl) ki (fun D w' _ _ hJ => by rw [H1.out.2.2.2.2.1]; exact ((H0.out.1.below H3.out.1).below hJ.1).gix) Tryz.underlying44 rfl (by rw [k1]; exact i16) ?_
        simp only [Act.put, List.setIfInBounds_toArray, List.set_cons_zero, List.set_cons_succ]
        refine Tail.J_call (by rfl) (by rfl) ?_ ?_
        · apply Exists.intro
          apply Exists.intro
          refine ⟨fun w' => ?_, ?_⟩
          · go_simp <;> exact ⟨rfl, rfl⟩
          intro D z' w' hD hz hd hp hJ
          have hb3 := H3.out.2.trans (hJ.1.mono H3.out.2.size)
          refine (show Calls _ _ _ _ _ from (by rw [H1.out.2.2.2.2.1]; exact tpack_calls w' t2 v3 l2 r.ix ((H2.out.2.2.2.below H4.out).below hJ.1).tab (by have := H2.out.2.2.1.len; have := H.out.2.1.tab; omega) H.out.2.2.1.ix (by have := H5.out.few r.ix; omega) H5.out.ends ((HA.out.below H3.out.1).below hJ.1).tab)).mono ?_
          rintro e w'' ⟨vo, out', rfl, hO, hR, hb⟩
          have ho : out' = out := OfR.eq hR HOUT.out (List.Perm.refl _)
          rw [ho] at hO
          refine ⟨_, rfl, fun c hc => by simp at hc, ⟨hJ.1.trans (hb.mono hJ.1.size), fun _ => ?_⟩⟩
          simp only [Tail.updV, if_pos]
          exact ownB_lower hO hJ.1.size
        simp only [Act.put, List.setIfInBounds_toArray, List.set_cons_zero, List.set_cons_succ, Nat.reduceAdd, Nat.reduceEqDiff, reduceIte, Option.getD_none]
        refine Tail.J_call (by rfl) (by rfl) ?_ ?_
        · apply Exists.intro
          apply Exists.intro
          refine ⟨fun w' => ?_, ?_⟩
          · go_simp <;> exact ⟨rfl, rfl⟩
          intro D z' w' hD hz hd hp hJ
          have hb3 := H3.out.2.trans (hJ.1.mono H3.out.2.size)
          have d19 : D 19 = true := hd 19 (by kernel_rfl)
          have hO := hJ.2 d19
          rw [← hz 19 d19] at hO
          refine (fits_calls _ sb lb d L s.st (leaseN r.ix) (z 19) (packL out) w' ((HA.out.below H3.out.1).below hJ.1).st hO.bys (by rw [show (leaseN r.ix).size = 17 from name_size 108 H.out.2.2.1.ix]; decide)).mono ?_
          rintro e w'' ⟨rfl, hb⟩
          exact ⟨_, rfl, fun c hc => by simp at hc; rw [← hc, ← HF2.out], ⟨hJ.1.trans (hb.mono hJ.1.size), fun d19 => ownB_below (hJ.2 d19) hb⟩⟩
        simp only [Act.put, List.setIfInBounds_toArray, List.set_cons_zero, List.set_cons_succ, Nat.reduceAdd, Nat.reduceEqDiff, reduceIte, Option.getD_some]
        refine Tail.J_ex (by rfl) (by rfl) ?_
        apply Exists.intro
        refine ⟨fun w => ?_, ?_⟩
        · go_simp <;> with_reducible rfl
        simp only [Act.put, List.setIfInBounds_toArray, List.set_cons_zero, List.set_cons_succ]
        refine Tail.J_ex (by rfl) (by rfl) ?_
        apply Exists.intro
        refine ⟨fun w => ?_, ?_⟩
        · go_simp <;> with_reducible rfl
        simp only [Act.put, List.setIfInBounds_toArray, List.set_cons_zero, List.set_cons_succ]
        intro w4 hJ4
        have HB4 := Lib.hid (H3.out.2.trans (hJ4.1.mono H3.out.2.size))
        clear hJ4
        cases f2 with
        | false =>
          have HNO : Hid (AskR s r.ix r.sec r.ends name data is 1) := ⟨true, l2, out, H2.out.2.2.1, fun _ => HOUT.out, by rw [if_neg (by rw [← HFN.out, ← HFR.out]; rintro (h | h); cases h; exact h3 h), if_pos (.inr HF2.out.symm)]⟩
          go_wp2_with fail
          go_ret
          exact ⟨1, rfl, HNO.out, HB4.out⟩
        | true =>
          have HNO : Hid (AskR s r.ix r.sec r.ends name data is 0) := ⟨true, l2, out, H2.out.2.2.1, fun _ => HOUT.out, by rw [if_neg (by rw [← HFN.out, ← HFR.out]; rintro (h | h); cases h; exact h3 h), if_neg (by rw [← HF1.out, ← HF2.out]; rintro (h | h) <;> cases h)]⟩
          go_wp2_with fail
          go_ret
          exact ⟨0, rfl, HNO.out, HB4.out⟩
end Go.Proofs.YtclhgokchcklbaaGreatDoor
end
section
namespace Go.Mem
open Go Go.RowKit Gf
def DataZ (w : World) (N : Nat → Prop) (v : Value) (bs : List UInt8) : Prop :=
  Bys w v bs ∧ ∃ a c, v = .slice a bs.length c ∧ (0 < bs.length → ∀ b, a = some b → b.block < w.heap.size ∧ ¬ N b.block)
theorem DataZ.chg {S N : Nat → Prop} {w w' : World} {v : Value} {bs : List UInt8} (h : DataZ w N v bs) (hc : Chg S w w') (hs : ∀ b, S b → b < w.heap.size → N b) : DataZ w' N v bs := by
  obtain ⟨h1, a, c, rfl, h3⟩ := h
  rcases Nat.eq_zero_or_pos bs.length with h0 | h0
  · refine ⟨?_, a, c, rfl, fun h => by omega⟩
    obtain ⟨a', c', e, g1, g2, _⟩ := h1
    exact ⟨a', c', e, g1, g2, fun h => by omega⟩
  · refine ⟨h1.chg hc (fun a' l' c' e hS => ?_), a, c, rfl, fun _ b hb => ⟨Nat.lt_of_lt_of_le (h3 h0 b hb).1 hc.size, (h3 h0 b hb).2⟩⟩
    injection e with e1 _ _
    have := h3 h0 a' e1
    exact this.2 (hs _ hS this.1)
theorem DataZ.mono {N M : Nat → Prop} {w : World} {v : Value} {bs : List UInt8} (h : DataZ w N v bs) (hM : ∀ b, M b → N b ∨ w.heap.size ≤ b) : DataZ w M v bs := by
  obtain ⟨h1, a, c, e, h3⟩ := h
  refine ⟨h1, a, c, e, fun h0 b hb => ⟨(h3 h0 b hb).1, fun hm => ?_⟩⟩
  have := h3 h0 b hb
  rcases hM _ hm with h | h
  · exact this.2 h
  · omega
def BlAt (w : World) (N : Nat → Prop) (v : Value) (l : List Blob) : Prop :=
  ∃ a c, v = .slice a l.length c ∧ l.length ≤ c ∧ c ≤ maxLen ∧ (0 < l.length → ∃ b off, a = some ⟨b, off, none⟩ ∧ b < w.heap.size ∧ ¬ N b ∧ ∀ (i : Nat) (x : Blob), l[i]? = some x →
    w.cell? ⟨b, off + i * 2, none⟩ = some (.int .i64 x.1) ∧ ∃ a' c', w.cell? ⟨b, off + i * 2 + 1, none⟩ = some (.slice a' x.2.length c') ∧ DataZ w N (.slice a' x.2.length c') x.2)
section
variable {w w' : World} {N S : Nat → Prop} {v : Value} {l : List Blob}
theorem BlAt.nil (w : World) (N : Nat → Prop) : BlAt w N (.slice none 0 0) [] := ⟨none, 0, rfl, Nat.le_refl _, Nat.zero_le _, fun h => by simp at h⟩
theorem BlAt.chg (h : BlAt w N v l) (hc : Chg S w w') (hs : ∀ b, S b → b < w.heap.size → N b) : BlAt w' N v l := by
  obtain ⟨a, c, e, h1, h2, h3⟩ := h
  refine ⟨a, c, e, h1, h2, fun hp => ?_⟩
  obtain ⟨b, off, e1, hb, hn, h4⟩ := h3 hp
  have hk : ∀ o, w'.cell? ⟨b, o, none⟩ = w.cell? ⟨b, o, none⟩ := fun o => by
    unfold World.cell?
    rw [hc.block b hb (fun hS => hn (hs b hS hb))]
  refine ⟨b, off, e1, Nat.lt_of_lt_of_le hb hc.size, hn, fun i x hx => ?_⟩
  obtain ⟨c1, a', c', c2, hd⟩ := h4 i x hx
  exact ⟨by rw [hk]; exact c1, a', c', by rw [hk]; exact c2, hd.chg hc hs⟩
theorem BlAt.below (h : BlAt w N v l) (hb : Below w.heap.size w w') : BlAt w' N v l := h.chg (S := fun _ => False) (Chg.of_below hb) (fun _ h => h.elim)
theorem BlAt.mono {M : Nat → Prop} (h : BlAt w N v l) (hM : ∀ b, M b → N b ∨ w.heap.size ≤ b) : BlAt w M v l := by
  obtain ⟨a, c, e, h1, h2, h3⟩ := h
  refine ⟨a, c, e, h1, h2, fun hp => ?_⟩
  obtain ⟨b, off, e1, hb, hn, h4⟩ := h3 hp
  refine ⟨b, off, e1, hb, fun hm => ?_, fun i x hx => ?_⟩
  · rcases hM b hm with h | h
    · exact hn h
    · omega
  · obtain ⟨c1, a', c', c2, hd⟩ := h4 i x hx
    exact ⟨c1, a', c', c2, hd.mono hM⟩
theorem OwnBl.at {tr : TypeId} {base : Nat} {u : Value} (h : OwnBl tr w base N u l) (hN : ∀ b, base ≤ b → b < w.heap.size → ¬ N b) : BlAt w N u l := by
  obtain ⟨vs, h1, h2, h3, _⟩ := h
  rcases Nat.eq_zero_or_pos l.length with h0 | h0
  · obtain ⟨a, c, e, _⟩ := own_eq_slice h2
    have hl : l = [] := List.eq_nil_of_length_eq_zero h0
    subst hl
    rcases h2.2 with ⟨rfl, _⟩ | ⟨g, cap, cur, rfl, _, _, _, hm, _⟩
    · exact BlAt.nil _ _
    · exact ⟨_, cap, rfl, Nat.zero_le _, hm, fun h => by simp at h⟩
  · obtain ⟨g, cap, arr, rfl, hb, hB, hc, hm, hs, hcell⟩ := own_blk h2 h0
    refine ⟨_, cap, rfl, hc, hm, fun _ => ⟨g, 0, rfl, hB.lt, hN g hb hB.lt, fun i x hx => ?_⟩⟩
    have hi := (List.getElem?_eq_some_iff.1 hx).1
    have hv : vs[i]? = some (vs[i]'(by omega)) := by simp
    generalize vs[i]'(by omega) = vd at hv
    obtain ⟨g1, g2⟩ := blV_get l vs i x vd hx hv
    have hd := h3 i x vd hx hv
    obtain ⟨d1, a', c', rfl, d2⟩ := hd
    exact ⟨by rw [hB.cell, hcell _ (by omega), Nat.zero_add]; exact g1, a', c', by rw [hB.cell, hcell _ (by omega), Nat.zero_add]; exact g2, ⟨d1, a', c', rfl, fun _ => d2⟩⟩
end
def NumsOk (l : List Blob) : Prop := (∀ x ∈ l, 0 ≤ x.1 ∧ x.1 < 16) ∧ (l.map (·.1)).Nodup
theorem NumsOk.nil : NumsOk [] := ⟨(fun _ h => by cases h), List.nodup_nil⟩
theorem NumsOk.step {l : List Blob} {i : Nat} {x : Blob} (hx : l[i]? = some x) : NumsOk (l.take (i + 1)) ↔ NumsOk (l.take i) ∧ (0 ≤ x.1 ∧ x.1 < 16) ∧ ∀ j y, j < i → l[j]? = some y → y.1 ≠ x.1 := by
  have e : l.take (i + 1) = l.take i ++ [x] := by rw [List.take_add_one, hx]; rfl
  rw [e]
  unfold NumsOk
  rw [List.map_append, List.nodup_append]
  constructor
  · rintro ⟨h1, h2, _, h3⟩
    refine ⟨⟨fun y hy => h1 y (by simp [hy]), h2⟩, h1 x (by simp), fun j y hj hy e => ?_⟩
    exact h3 y.1 (List.mem_map.2 ⟨y, List.mem_of_getElem? (i := j) (by rw [List.getElem?_take, if_pos hj]; exact hy), rfl⟩) x.1 (by simp) e
  · rintro ⟨⟨h1, h2⟩, h3, h4⟩
    refine ⟨fun y hy => ?_, h2, by simp, fun a ha b hb e => ?_⟩
    · rcases List.mem_append.1 hy with hy | hy
      · exact h1 y hy
      · rw [List.mem_singleton.1 hy]; exact h3
    · obtain ⟨y, hy, rfl⟩ := List.mem_map.1 ha
      obtain ⟨j, hj⟩ := List.mem_iff_getElem?.1 hy
      rw [List.getElem?_take] at hj
      split at hj
      · rename_i hji
        simp at hb
        exact h4 j y hji hj (by rw [e, hb])
      · cases hj
theorem NumsOk.le {l : List Blob} (h : NumsOk l) (i : Nat) : NumsOk (l.take i) := ⟨fun x hx => h.1 x (List.mem_of_mem_take hx), by rw [List.map_take]; exact h.2.sublist (List.take_sublist _ _)⟩
end Go.Mem
namespace Go.Proofs.YtclhgokchcklbaaGreatDoor
open Go Go.RowKit Go.Mem Gf Lea
attribute [local go_sem ↓] Go.wp_at_zero Go.wp_at_succ
def BlobsP (l : List Blob) (w : World) (e : Ending) (w' : World) : Prop := ∃ b, e = .returned (.bool b) ∧ (b = true ↔ NumsOk l) ∧ Below w.heap.size w w'
set_option maxRecDepth 100000 in
set_option maxHeartbeats 1000000 in
theorem blobs_calls (N : Nat → Prop) (v : Value) (l : List Blob) (w : World) (h : BlAt w N v l) :
    Calls Tryz.prog 121 #[v] w (BlobsP l w) := by
  obtain ⟨a, c, rfl, hc1, hc2, hrow⟩ := id h
  obtain ⟨n, hn⟩ : ∃ n, n = l.length := ⟨_, rfl⟩
  rw [← hn] at hc1 hrow ⊢
  unfold maxLen at hc2
  have H := Lib.hid (And.intro h (And.intro hn hrow))
  clear h hn hrow
  go_enter Tryz.func121, Tryz.ntmps121
  go_upto_region 2 with fail
  go_loopw [9] (fun vi wr => ∃ i : Nat, i ≤ n ∧ vi = .int .i64 i ∧ Hid (NumsOk (l.take i) ∧ Below w.heap.size w wr)) (fun vi _ => n - (intOf vi).toNat)
  case atStart => exact ⟨0, Nat.zero_le _, rfl, by rw [List.take_zero]; exact NumsOk.nil, Below.refl _ _⟩
  case round =>
    obtain ⟨i, hi0, rfl, G⟩ := hrel
    by_cases hin : i < n
    · obtain ⟨b, off, rfl, hb, _, hcells⟩ := H.out.2.2 (by omega)
      have hx : l[i]? = some (l[i]'(by have := H.out.2.1; omega)) := by simp
      generalize l[i]'(by have := H.out.2.1; omega) = x at hx
      obtain ⟨c1, a', c', c2, _⟩ := hcells i x hx
      have hbc := fun o => G.out.2.cell (p := ⟨b, o, none⟩) hb
      rw [← hbc] at c1 c2
      have i0 : (0 : Int) ≤ (i : Int) := by omega
      have i1 : (i : Int) < (n : Int) := by omega
      have hstep := NumsOk.step hx
      obtain ⟨z, hz⟩ : ∃ z, z = x.1 := ⟨_, rfl⟩
      rw [← hz] at c1
      have HX := Lib.hid (And.intro hx (And.intro hz (And.intro hstep (And.intro hb (And.intro hcells hbc)))))
      have hbad : ∀ bb : Bool, bb = false → ¬ NumsOk (l.take (i + 1)) → (bb = true ↔ NumsOk l) := fun bb e hno => ⟨fun h => (by rw [e] at h; cases h), fun h => absurd (h.le (i + 1)) hno⟩
      have HBAD := Lib.hid hbad
      clear hx hz hstep hb hcells hbc hbad
      by_cases z0 : z < 0
      · have d0 : decide (z < 0) = true := by simpa using z0
        have HN := Lib.hid (HBAD.out false rfl (by rw [HX.out.2.2.1]; rintro ⟨_, h, _⟩; rw [← HX.out.2.1] at h; omega))
        go_wp2_with fail
        go_ret
        exact ⟨false, rfl, HN.out, G.out.2.alloc G.out.2.size _⟩
      · by_cases z16 : 16 ≤ z
        · have d0 : decide (z < 0) = false := by simp; omega
          have d1 : decide (16 ≤ z) = true := by simpa using z16
          have HN := Lib.hid (HBAD.out false rfl (by rw [HX.out.2.2.1]; rintro ⟨_, h, _⟩; rw [← HX.out.2.1] at h; omega))
          go_wp2_with fail
          go_ret
          exact ⟨false, rfl, HN.out, G.out.2.alloc G.out.2.size _⟩
        · have d0 : decide (z < 0) = false := by simp; omega
          have d1 : decide (16 ≤ z) = false := by simp; omega
          go_upto_region 7 with fail
          have hk4 : Blk (wr.alloc (.cells #[.int .i64 z, .slice a' x.2.length c'] 41)) wr.heap.size #[.int .i64 z, .slice a' x.2.length c'] 41 := Blk.new _ _ _
          have hb4 := G.out.2.alloc G.out.2.size (.cells #[.int .i64 z, .slice a' x.2.length c'] 41)
          obtain ⟨w4, hw4⟩ : ∃ q, q = wr.alloc (.cells #[.int .i64 z, .slice a' x.2.length c'] 41) := ⟨_, rfl⟩
          obtain ⟨p4, hp4⟩ : ∃ q, q = wr.heap.size := ⟨_, rfl⟩
          rw [← hw4] at hk4 hb4 ⊢
          rw [← hp4] at hk4 ⊢
          have H4 := Lib.hid (And.intro hk4 hb4)
          clear hk4 hb4 hw4 hp4 c1 c2
          go_loopw [26] (fun vj wx => ∃ j : Nat, j ≤ i ∧ vj = .int .i64 j ∧ Hid ((∀ q y, q < j → l[q]? = some y → y.1 ≠ z) ∧ Below w.heap.size w wx ∧ Blk wx p4 #[.int .i64 z, .slice a' x.2.length c'] 41)) (fun vj _ => i - (intOf vj).toNat)
          case atStart => exact ⟨0, Nat.zero_le _, rfl, (fun q y h => by omega), H4.out.2, H4.out.1⟩
          case round =>
            obtain ⟨j, hj0, rfl, GJ⟩ := hrel
            have c4 : wr.cell? ⟨p4, 0, none⟩ = some (.int .i64 z) := GJ.out.2.2.cell 0
            by_cases hji : j < i
            · have hy : l[j]? = some (l[j]'(by have := H.out.2.1; omega)) := by simp
              generalize l[j]'(by have := H.out.2.1; omega) = y at hy
              obtain ⟨c1, a'', c'', c2, _⟩ := HX.out.2.2.2.2.1 j y hy
              have hbc := fun o => GJ.out.2.1.cell (p := ⟨b, o, none⟩) HX.out.2.2.2.1
              rw [← hbc] at c1 c2
              have j0 : (0 : Int) ≤ (j : Int) := by omega
              have j1 : (j : Int) < (i : Int) := by omega
              obtain ⟨zy, hzy⟩ : ∃ z, z = y.1 := ⟨_, rfl⟩
              rw [← hzy] at c1
              have HY := Lib.hid (And.intro hy hzy)
              have hbA := GJ.out.2.1.alloc GJ.out.2.1.size (.cells #[.int .i64 zy, .slice a'' y.2.length c''] 41)
              have HBA := Lib.hid (And.intro hbA (GJ.out.2.2.alloc (.cells #[.int .i64 zy, .slice a'' y.2.length c''] 41)))
              have l4 := GJ.out.2.2.lt
              clear hy hzy hbc hbA
              by_cases hzz : zy = z
              · have t1 : (zy == z) = true := by simpa using hzz
                have HN := Lib.hid (HBAD.out false rfl (by rw [HX.out.2.2.1]; rintro ⟨_, _, h⟩; exact h j y hji HY.out.1 (by rw [← HY.out.2, ← HX.out.2.1]; exact hzz)))
                replace hzz := Lib.hid hzz
                go_wp2_with fail
                go_ret
                exact ⟨false, rfl, HN.out, HBA.out.1⟩
              · have t1 : (zy == z) = false := by simpa using hzz
                have HNE := Lib.hid hzz
                clear hzz
                go_wp2_with fail
                exact ⟨⟨j + 1, by omega, by simp, fun q y' hq hy' => by
                  rcases Nat.lt_or_ge q j with h | h
                  · exact GJ.out.1 q y' h hy'
                  · have : q = j := by omega
                    subst this
                    rw [HY.out.1] at hy'
                    cases hy'
                    rw [← HY.out.2]; exact HNE.out, HBA.out.1, HBA.out.2⟩, by show i - ((j : Int) + 1).toNat < i - (j : Int).toNat; omega⟩
            · have hok : NumsOk (l.take (i + 1)) := by
                rw [HX.out.2.2.1]
                refine ⟨G.out.1, by rw [← HX.out.2.1]; omega, fun q y hq hy => ?_⟩
                rw [← HX.out.2.1]
                exact GJ.out.1 q y (by omega) hy
              have HOK := Lib.hid hok
              clear hok
              go_wp2_with fail
              go_roundw
              case rel => exact ⟨i + 1, by omega, by simp, HOK.out, GJ.out.2.1⟩
              case measure =>
                show n - ((i : Int) + 1).toNat < n - (i : Int).toNat
                omega
    · have hfull : l.take i = l := List.take_of_length_le (by have := H.out.2.1; omega)
      have hg := G.out.1
      rw [hfull] at hg
      have HG := Lib.hid hg
      clear hfull hg
      go_wp2_with fail
      go_ret
      exact ⟨true, rfl, ⟨fun _ => HG.out, fun _ => rfl⟩, G.out.2⟩
end Go.Proofs.YtclhgokchcklbaaGreatDoor
end
