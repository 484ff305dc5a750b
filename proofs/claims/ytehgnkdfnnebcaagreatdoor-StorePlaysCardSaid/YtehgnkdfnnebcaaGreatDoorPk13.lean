/- Texts of this proof, packed: PlaySame, SpoilF, PlayChg. -/
import Derived.Test.YtehgnkdfnnebcaaGreatDoorPk12
import Derived.Test.YtehgnkdfnnebcaaGreatDoorPk02
import Derived.Test.YtehgnkdfnnebcaaGreatDoorPk04
import Derived.Deep.QuietTactic
import Derived.Test.YtehgnkdfnnebcaaGreatDoorPk00
section
namespace Go.Proofs.YtehgnkdfnnebcaaGreatDoor
open Go Go.RowKit Go.Mem Gf
set_option linter.unusedVariables false
set_option linter.unusedSimpArgs false
attribute [local go_sem ↓] Go.wp_at_zero Go.wp_at_succ
theorem rd_two {r B : Nat} {s : DiskS} {w : World} (hR : RDisk w r B s) :
    w.cell? ⟨r, 1, none⟩ = some (.bool s.dead) ∧ w.cell? ⟨r, 5, none⟩ = some (.int .i64 (s.writes : Int)) := by
  obtain ⟨cap, atv, arr, hd, _⟩ := hR
  exact ⟨by rw [hd.cell]; rfl, by rw [hd.cell]; rfl⟩
theorem neq_self (z : Int) : (z != z) = false := by simp
theorem lab_names_of (N : Nat → Prop) (sb lb d L : Nat) (s : St) (w : World) (h : IsStore w N sb lb d L s) :
    Calls Tryz.prog 14 #[.pointer (some ⟨sb, 0, none⟩)] w fun e w' => ∃ v, e = .returned v ∧ Strs w' v (s.names.mergeSort fun x y => decide (x ≤ y)) ∧ Below w.heap.size w w' := by
  refine (snames_calls N sb lb d L s w h).mono ?_
  rintro e w1 ⟨v, rfl, hv, hb⟩
  exact ⟨v, rfl, strs_of_own hv (by simp), hb⟩
theorem sget_two (w : World) (dn : Nat) (N : Nat → Prop) (sb lb d L : Nat) (s : St) (h : IsStore w N sb lb d L s) (name : ByteArray) :
    Calls Tryz.prog 17 #[.pointer (some ⟨sb, 0, none⟩), .string name] (w.drewN dn) fun e w' => ∃ x y, e = .returned (.tuple #[x, y]) ∧ (y = .bool (s.get name).isSome ∧ Bys w' x ((s.get name).getD []) ∧ Below w.heap.size w w') := by
  have hb := below_drewN (Below.refl w.heap.size w) dn
  refine (sget_calls N sb lb d L s name _ (h.below hb)).mono ?_
  rintro e w1 ⟨hb1, v, rfl, hv⟩
  exact ⟨v, _, rfl, rfl, hv.bys, hb.trans hb1⟩
theorem rget_two (w : World) (dn : Nat) (N : Nat → Prop) (q r B : Nat) (lv : Value) (ps : List RP) (D : DiskS) (slots room : Nat) (L : List RRec) (died : Bool) (h : RStore w N q r B lv ps D slots room L died) (name : ByteArray) :
    Calls Tryz.prog 18 #[.pointer (some ⟨q, 0, none⟩), .string name] (w.drewN dn) fun e w' => ∃ x y, e = .returned (.tuple #[x, y]) ∧ (y = .bool (rgetR L died name).isSome ∧ Bys w' x ((rgetR L died name).getD []) ∧ Below w.heap.size w w') := by
  have hb := below_drewN (Below.refl w.heap.size w) dn
  refine (rget10_calls _ N q r B lv ps D slots room L died (h.below hb) name).mono ?_
  rintro e w1 ⟨hh, hb1⟩
  rcases hh with ⟨h1, rfl⟩ | ⟨v, bs, h1, rfl, h2⟩
  · rw [h1]
    exact ⟨_, _, rfl, rfl, Bys.nil _, hb.trans hb1⟩
  · rw [h1]
    exact ⟨v, _, rfl, rfl, h2.bys, hb.trans hb1⟩
set_option maxRecDepth 20000 in
set_option maxHeartbeats 8000000 in
theorem psame_calls (w0 w : World) (p d Ld r B m slots room : Nat) (h : Par w0 w p d Ld r B m slots room) :
    Calls Tryz.prog 6 #[.pointer (some ⟨p, 0, none⟩)] w fun e w' => e = .returned (.bool true) ∧ Below w.heap.size w w' := by
  rcases h with ⟨D, h⟩ | ⟨N, sb, lb, q, lv, ps, s, L, h⟩
  · have c1 : w.cell? ⟨p, 1, none⟩ = some (.pointer none) := h.blk.cell 1
    have c3 : w.cell? ⟨p, 3, none⟩ = some (.pointer none) := h.blk.cell 3
    clear h
    go_enter Tryz.func6, Tryz.ntmps6
    go_wp2
    go_ret
    exact ⟨rfl, Below.refl _ _⟩
  · have c1 : w.cell? ⟨p, 1, none⟩ = some (.pointer (some ⟨sb, 0, none⟩)) := h.base.blk.cell 1
    have c3 : w.cell? ⟨p, 3, none⟩ = some (.pointer (some ⟨q, 0, none⟩)) := h.base.blk.cell 3
    have H := Lib.hid h
    have HN := Lib.hid h.dup.names
    obtain ⟨nm, hnm⟩ : ∃ z, z = rnamesR L s.dead := ⟨_, rfl⟩
    rw [← hnm] at HN
    have HNM := Lib.hid hnm
    obtain ⟨F, hF⟩ : ∃ z, z = s.freeN := ⟨_, rfl⟩
    have HF := Lib.hid (And.intro hF.symm (show rnumR slots L s.dead = F from by rw [hF, h.dup.freeN]; rfl))
    have hFb : F ≤ 10 := by
      rw [hF, h.dup.freeN]
      have := h.base.s1.2
      split <;> omega
    clear h hnm hF
    go_enter Tryz.func6, Tryz.ntmps6
    go_wp2_with fail
    refine (rnames_calls w N q r B lv ps s.disk slots room L s.dead H.out.rs).mono ?_
    rintro e w2 ⟨v, rfl, hv, _, hb2⟩
    rw [← HNM.out] at hv
    have h2 := H.out.step hb2
    have H2 := Lib.hid h2
    have HV := Lib.hid (show ∀ w', Below w2.heap.size w2 w' → Strs w' v nm from fun w' hb => hv.below hb)
    have HC := Lib.hid (show ∀ w', Below w2.heap.size w2 w' → w'.cell? ⟨p, 1, none⟩ = some (.pointer (some ⟨sb, 0, none⟩)) ∧ w'.cell? ⟨p, 3, none⟩ = some (.pointer (some ⟨q, 0, none⟩)) from fun w' hb => ⟨(h2.step hb).base.blk.cell 1, (h2.step hb).base.blk.cell 3⟩)
    have HB2 := Lib.hid hb2
    obtain ⟨av, cv, rfl⟩ := hv.eq_slice
    obtain ⟨nn, hnn⟩ : ∃ z, z = nm.length := ⟨_, rfl⟩
    rw [← hnn] at HV ⊢
    have HNN := Lib.hid hnn
    have hnnb : nn ≤ 1024 := by
      rw [hnn, HNM.out]
      have := H.out.dup.lenL
      have := H.out.base.s1.2
      unfold rnamesR
      split
      · exact Nat.zero_le _
      · rw [List.length_map]; omega
    clear hv hb2 h2 c1 c3 hnn
    go_upto_region 4 with fail
    refine Tail.wp_region_J 20 (fun k => k == 4 || k == 6 || k == 13 || k == 18) (fun k => if k = 6 then some (.bool true) else if k = 13 then some (.int .i64 (F : Nat)) else if k = 18 then some (.int .i64 (F : Nat)) else none)
      (fun D z w' => Below w2.heap.size w2 w' ∧ (D 4 = true → Strs w' (z 4) nm))
      (by kernel_rfl) (by kernel_rfl) (fun k hk => by simp at hk; omega) (fun D z z' w' hz h => ⟨h.1, fun d => by rw [← hz 4 d]; exact h.2 d⟩)
      (⟨(Below.refl _ _).drew, (fun h => by cases h)⟩) (fun z => ?_)
    simp only [List.take_succ_cons, List.take_zero, List.drop_succ_cons, List.drop_zero]
    refine Tail.J_ex (by rfl) (by rfl) ?_
    apply Exists.intro
    refine ⟨fun w => ?_, ?_⟩
    · go_simp <;> with_reducible rfl
    simp only [Act.put, List.setIfInBounds_toArray, List.set_cons_zero, List.set_cons_succ, Nat.reduceAdd, Nat.reduceEqDiff, reduceIte, Option.getD_some, Option.getD_none]
    refine Tail.J_ex (by rfl) (by rfl) ?_
    apply Exists.intro
    refine ⟨fun w => ?_, ?_⟩
    · go_simp <;> with_reducible rfl
    simp only [Act.put, List.setIfInBounds_toArray, List.set_cons_zero, List.set_cons_succ, Nat.reduceAdd, Nat.reduceEqDiff, reduceIte, Option.getD_some, Option.getD_none]
    refine Tail.J_ex (by rfl) (by rfl) ?_
    apply Exists.intro
    refine ⟨fun w => ?_, ?_⟩
    · go_simp <;> with_reducible rfl
    simp only [Act.put, List.setIfInBounds_toArray, List.set_cons_zero, List.set_cons_succ, Nat.reduceAdd, Nat.reduceEqDiff, reduceIte, Option.getD_some, Option.getD_none]
    refine Tail.J_at (by rfl) (by rfl) ?_
    apply Exists.intro
    refine ⟨fun D w' hd hp hJ => ?_, ?_⟩
    · have cc := (HC.out w' hJ.1).1
      go_simp <;> with_reducible rfl
    simp only [Act.put, List.setIfInBounds_toArray, List.set_cons_zero, List.set_cons_succ, Nat.reduceAdd, Nat.reduceEqDiff, reduceIte, Option.getD_some, Option.getD_none]
    refine Tail.J_call (by rfl) (by rfl) ?_ ?_
    · apply Exists.intro
      apply Exists.intro
      refine ⟨fun w' => ?_, ?_⟩
      · go_simp <;> exact ⟨rfl, rfl⟩
      intro D z' w' hD hz hd hp hJ
      refine (lab_names_of _ _ _ _ _ _ _ (H2.out.step hJ.1).st).mono ?_
      rintro e w'' ⟨u, rfl, hu, hb⟩
      rw [HN.out] at hu
      exact ⟨u, rfl, fun c hc => by simp at hc, hJ.1.trans (hb.mono hJ.1.size), fun _ => by simpa [Tail.updV] using hu⟩
    simp only [Act.put, List.setIfInBounds_toArray, List.set_cons_zero, List.set_cons_succ, Nat.reduceAdd, Nat.reduceEqDiff, reduceIte, Option.getD_some, Option.getD_none]
    refine Tail.J_ex (by rfl) (by rfl) ?_
    apply Exists.intro
    refine ⟨fun w => ?_, ?_⟩
    · go_simp <;> with_reducible rfl
    simp only [Act.put, List.setIfInBounds_toArray, List.set_cons_zero, List.set_cons_succ, Nat.reduceAdd, Nat.reduceEqDiff, reduceIte, Option.getD_some, Option.getD_none]
    refine Tail.J_call (by rfl) (by rfl) ?_ ?_
    · apply Exists.intro
      apply Exists.intro
      refine ⟨fun w' => ?_, ?_⟩
      · go_simp <;> exact ⟨rfl, rfl⟩
      intro D z' w' hD hz hd hp hJ
      have h4 : D 4 = true := hd 4 (by kernel_rfl)
      have hs := hJ.2 h4
      rw [← hz 4 h4] at hs
      refine (sames_calls (z 4) _ nm nm w' hs (HV.out w' hJ.1)).mono ?_
      rintro e w'' ⟨rfl, dn, rfl⟩
      refine ⟨_, rfl, fun c hc => by simp at hc; rw [← hc]; simp, below_drewN hJ.1 dn, fun _ => ?_⟩
      simpa [Tail.updV] using (hJ.2 h4).below (below_drewN (Below.refl _ _) dn)
    simp only [Act.put, List.setIfInBounds_toArray, List.set_cons_zero, List.set_cons_succ, Nat.reduceAdd, Nat.reduceEqDiff, reduceIte, Option.getD_some, Option.getD_none]
    refine Tail.J_ex (by rfl) (by rfl) ?_
    apply Exists.intro
    refine ⟨fun w => ?_, ?_⟩
    · go_simp <;> with_reducible rfl
    simp only [Act.put, List.setIfInBounds_toArray, List.set_cons_zero, List.set_cons_succ, Nat.reduceAdd, Nat.reduceEqDiff, reduceIte, Option.getD_some, Option.getD_none]
    refine Tail.J_ex (by rfl) (by rfl) ?_
    apply Exists.intro
    refine ⟨fun w => ?_, ?_⟩
    · go_simp <;> with_reducible rfl
    simp only [Act.put, List.setIfInBounds_toArray, List.set_cons_zero, List.set_cons_succ, Nat.reduceAdd, Nat.reduceEqDiff, reduceIte, Option.getD_some, Option.getD_none]
    refine Tail.J_ex (by rfl) (by rfl) ?_
    apply Exists.intro
    refine ⟨fun w => ?_, ?_⟩
    · go_simp <;> with_reducible rfl
    simp only [Act.put, List.setIfInBounds_toArray, List.set_cons_zero, List.set_cons_succ, Nat.reduceAdd, Nat.reduceEqDiff, reduceIte, Option.getD_some, Option.getD_none]
    refine Tail.J_ex (by rfl) (by rfl) ?_
    apply Exists.intro
    refine ⟨fun w => ?_, ?_⟩
    · go_simp <;> with_reducible rfl
    simp only [Act.put, List.setIfInBounds_toArray, List.set_cons_zero, List.set_cons_succ, Nat.reduceAdd, Nat.reduceEqDiff, reduceIte, Option.getD_some, Option.getD_none]
    refine Tail.J_ex (by rfl) (by rfl) ?_
    apply Exists.intro
    refine ⟨fun w => ?_, ?_⟩
    · go_simp <;> with_reducible rfl
    simp only [Act.put, List.setIfInBounds_toArray, List.set_cons_zero, List.set_cons_succ, Nat.reduceAdd, Nat.reduceEqDiff, reduceIte, Option.getD_some, Option.getD_none]
    refine Tail.J_at (by rfl) (by rfl) ?_
    apply Exists.intro
    refine ⟨fun D w' hd hp hJ => ?_, ?_⟩
    · have cc := (HC.out w' hJ.1).1
      go_simp <;> with_reducible rfl
    simp only [Act.put, List.setIfInBounds_toArray, List.set_cons_zero, List.set_cons_succ, Nat.reduceAdd, Nat.reduceEqDiff, reduceIte, Option.getD_some, Option.getD_none]
    refine Tail.J_call (by rfl) (by rfl) ?_ ?_
    · apply Exists.intro
      apply Exists.intro
      refine ⟨fun w' => ?_, ?_⟩
      · go_simp <;> exact ⟨rfl, rfl⟩
      intro D z' w' hD hz hd hp hJ
      refine (sfree_calls _ _ _ _ _ _ w' (H2.out.step hJ.1).st).mono ?_
      rintro e w'' ⟨rfl, hb⟩
      refine ⟨_, rfl, fun c hc => by simp at hc; rw [← hc, HF.out.1], hJ.1.trans (hb.mono hJ.1.size), fun h => ?_⟩
      have h4 : D 4 = true := by simpa [Tail.updB] using h
      simpa [Tail.updV] using (hJ.2 h4).below hb
    simp only [Act.put, List.setIfInBounds_toArray, List.set_cons_zero, List.set_cons_succ, Nat.reduceAdd, Nat.reduceEqDiff, reduceIte, Option.getD_some, Option.getD_none]
    refine Tail.J_ex (by rfl) (by rfl) ?_
    apply Exists.intro
    refine ⟨fun w => ?_, ?_⟩
    · go_simp <;> with_reducible rfl
    simp only [Act.put, List.setIfInBounds_toArray, List.set_cons_zero, List.set_cons_succ, Nat.reduceAdd, Nat.reduceEqDiff, reduceIte, Option.getD_some, Option.getD_none]
    refine Tail.J_ex (by rfl) (by rfl) ?_
    apply Exists.intro
    refine ⟨fun w => ?_, ?_⟩
    · go_simp <;> with_reducible rfl
    simp only [Act.put, List.setIfInBounds_toArray, List.set_cons_zero, List.set_cons_succ, Nat.reduceAdd, Nat.reduceEqDiff, reduceIte, Option.getD_some, Option.getD_none]
    refine Tail.J_ex (by rfl) (by rfl) ?_
    apply Exists.intro
    refine ⟨fun w => ?_, ?_⟩
    · go_simp <;> with_reducible rfl
    simp only [Act.put, List.setIfInBounds_toArray, List.set_cons_zero, List.set_cons_succ, Nat.reduceAdd, Nat.reduceEqDiff, reduceIte, Option.getD_some, Option.getD_none]
    refine Tail.J_at (by rfl) (by rfl) ?_
    apply Exists.intro
    refine ⟨fun D w' hd hp hJ => ?_, ?_⟩
    · have cc := (HC.out w' hJ.1).2
      go_simp <;> with_reducible rfl
    simp only [Act.put, List.setIfInBounds_toArray, List.set_cons_zero, List.set_cons_succ, Nat.reduceAdd, Nat.reduceEqDiff, reduceIte, Option.getD_some, Option.getD_none]
    refine Tail.J_call (by rfl) (by rfl) ?_ ?_
    · apply Exists.intro
      apply Exists.intro
      refine ⟨fun w' => ?_, ?_⟩
      · go_simp <;> exact ⟨rfl, rfl⟩
      intro D z' w' hD hz hd hp hJ
      refine (rnum_calls w' _ _ _ _ _ _ _ _ _ _ _ (H2.out.step hJ.1).rs).mono ?_
      rintro e w'' ⟨rfl, hb⟩
      refine ⟨_, rfl, fun c hc => by simp at hc; rw [← hc, HF.out.2], hJ.1.trans (hb.mono hJ.1.size), fun h => ?_⟩
      have h4 : D 4 = true := by simpa [Tail.updB] using h
      simpa [Tail.updV] using (hJ.2 h4).below hb
    simp only [Act.put, List.setIfInBounds_toArray, List.set_cons_zero, List.set_cons_succ, Nat.reduceAdd, Nat.reduceEqDiff, reduceIte, Option.getD_some, Option.getD_none]
    refine Tail.J_ex (by rfl) (by rfl) ?_
    apply Exists.intro
    refine ⟨fun w => ?_, ?_⟩
    · go_simp <;> with_reducible rfl
    simp only [Act.put, List.setIfInBounds_toArray, List.set_cons_zero, List.set_cons_succ, Nat.reduceAdd, Nat.reduceEqDiff, reduceIte, Option.getD_some, Option.getD_none]
    intro w3 hJ
    have hb3 := hJ.1
    clear hJ
    generalize z 4 = z4
    have HB3 := Lib.hid (HB2.out.trans (hb3.mono HB2.out.size))
    have HV3 := Lib.hid (fun w' hb => HV.out w' (hb3.trans (Below.mono hb hb3.size)))
    have H3 := Lib.hid (H2.out.step hb3)
    clear hb3
    go_wp2_with fail
    go_loopw [66] (fun u wr => ∃ i : Nat, i ≤ nn ∧ u = .int .i64 i ∧ Below w3.heap.size w3 wr) (fun u _ => nn - (intOf u).toNat)
    case atStart => exact ⟨0, by omega, rfl, Below.refl _ _⟩
    case round =>
      obtain ⟨i, hi, rfl, hbr⟩ := hrel
      by_cases h0 : i < nn
      · have i0 : (0 : Int) ≤ (i : Int) := by omega
        have i1 : (i : Int) < (nn : Int) := by omega
        have q1 : IntKind.i64.wrap ((i : Int) + 1) = (i : Int) + 1 := IntWalk.i64_in _ (by omega)
        have HW := Lib.hid (H3.out.step hbr)
        have HC1 := Lib.hid (show ∀ w', Below wr.heap.size wr w' → w'.cell? ⟨p, 1, none⟩ = some (.pointer (some ⟨sb, 0, none⟩)) from fun w' hb => (HW.out.step hb).base.blk.cell 1)
        have hVr : ∀ w', Below wr.heap.size wr w' → Strs w' (.slice av nn cv) nm := fun w' hb => HV3.out w' (hbr.trans (Below.mono hb hbr.size))
        obtain ⟨gb, go, x, rfl, hk, hx⟩ := (show Strs wr (.slice av nn cv) nm from hVr wr (Below.refl _ _)).at i (by rw [← HNN.out]; exact h0)
        have HX := Lib.hid (show ∀ w', Below wr.heap.size wr w' → w'.cell? ⟨gb, go + i, none⟩ = some (.string ⟨x.toArray⟩) from fun w' hb => by
          have := hVr w' hb
          obtain ⟨gb', go', x', e, hx', hc'⟩ := this.at i (by rw [← HNN.out]; exact h0)
          injection e with e
          injection e with e1 e2
          subst e1 e2
          have hxx : x' = x := by
            have h1 := hk.out
            rw [hx'.out] at h1
            injection h1
          rw [hc', hxx])
        have HVR := Lib.hid hVr
        clear hVr hx
        go_upto_region 9 with fail
        refine Tail.wp_region_J 13 (fun k => k == 8) (fun k => none)
          (fun D z w' => (D 8 = false → ∃ n, w' = World.drewN wr n) ∧ (D 8 = true → ∃ x_ y, z 8 = .tuple #[x_, y] ∧ (y = .bool (s.get ⟨x.toArray⟩).isSome ∧ Bys w' x_ ((s.get ⟨x.toArray⟩).getD []) ∧ Below wr.heap.size wr w')))
          (by kernel_rfl) (by kernel_rfl) (fun k hk => by simp at hk; omega) (fun D z z' w' hz h => ⟨h.1, fun d => by rw [← hz 8 d]; exact h.2 d⟩)
          (⟨fun _ => ⟨1, rfl⟩, (fun h => by cases h)⟩) (fun z => ?_)
        simp only [List.take_succ_cons, List.take_zero, List.drop_succ_cons, List.drop_zero]
        refine Tail.J_ex (by rfl) (by rfl) ?_
        apply Exists.intro
        refine ⟨fun w => ?_, ?_⟩
        · go_simp <;> with_reducible rfl
        simp only [Act.put, List.setIfInBounds_toArray, List.set_cons_zero, List.set_cons_succ, Nat.reduceAdd, Nat.reduceEqDiff, reduceIte, Option.getD_some, Option.getD_none]
        refine Tail.J_ex (by rfl) (by rfl) ?_
        apply Exists.intro
        refine ⟨fun w => ?_, ?_⟩
        · go_simp <;> with_reducible rfl
        simp only [Act.put, List.setIfInBounds_toArray, List.set_cons_zero, List.set_cons_succ, Nat.reduceAdd, Nat.reduceEqDiff, reduceIte, Option.getD_some, Option.getD_none]
        refine Tail.J_ex (by rfl) (by rfl) ?_
        apply Exists.intro
        refine ⟨fun w => ?_, ?_⟩
        · go_simp <;> with_reducible rfl
        simp only [Act.put, List.setIfInBounds_toArray, List.set_cons_zero, List.set_cons_succ, Nat.reduceAdd, Nat.reduceEqDiff, reduceIte, Option.getD_some, Option.getD_none]
        refine Tail.J_at (by rfl) (by rfl) ?_
        apply Exists.intro
        refine ⟨fun D w' hd hp hJ => ?_, ?_⟩
        · obtain ⟨dn, hdn⟩ := hJ.1 (hp 8 (by kernel_rfl))
          have cc := HC1.out w' (by rw [hdn]; exact below_drewN (Below.refl _ _) dn)
          clear hdn dn
          go_simp <;> with_reducible rfl
        simp only [Act.put, List.setIfInBounds_toArray, List.set_cons_zero, List.set_cons_succ, Nat.reduceAdd, Nat.reduceEqDiff, reduceIte, Option.getD_some, Option.getD_none]
        refine Tail.J_ex (by rfl) (by rfl) ?_
        apply Exists.intro
        refine ⟨fun w => ?_, ?_⟩
        · go_simp <;> with_reducible rfl
        simp only [Act.put, List.setIfInBounds_toArray, List.set_cons_zero, List.set_cons_succ, Nat.reduceAdd, Nat.reduceEqDiff, reduceIte, Option.getD_some, Option.getD_none]
        refine Tail.J_ex (by rfl) (by rfl) ?_
        apply Exists.intro
        refine ⟨fun w => ?_, ?_⟩
        · go_simp <;> with_reducible rfl
        simp only [Act.put, List.setIfInBounds_toArray, List.set_cons_zero, List.set_cons_succ, Nat.reduceAdd, Nat.reduceEqDiff, reduceIte, Option.getD_some, Option.getD_none]
        refine Tail.J_ex (by rfl) (by rfl) ?_
        apply Exists.intro
        refine ⟨fun w => ?_, ?_⟩
        · go_simp <;> with_reducible rfl
        simp only [Act.put, List.setIfInBounds_toArray, List.set_cons_zero, List.set_cons_succ, Nat.reduceAdd, Nat.reduceEqDiff, reduceIte, Option.getD_some, Option.getD_none]
        refine Tail.J_at (by rfl) (by rfl) ?_
        apply Exists.intro
        refine ⟨fun D w' hd hp hJ => ?_, ?_⟩
        · obtain ⟨dn, hdn⟩ := hJ.1 (hp 8 (by kernel_rfl))
          have cc := HX.out w' (by rw [hdn]; exact below_drewN (Below.refl _ _) dn)
          clear hdn dn
          go_simp <;> with_reducible rfl
        simp only [Act.put, List.setIfInBounds_toArray, List.set_cons_zero, List.set_cons_succ, Nat.reduceAdd, Nat.reduceEqDiff, reduceIte, Option.getD_some, Option.getD_none]
        refine Tail.J_call (by rfl) (by rfl) ?_ ?_
        · apply Exists.intro
          apply Exists.intro
          refine ⟨fun w' => ?_, ?_⟩
          · go_simp <;> exact ⟨rfl, rfl⟩
          intro D z' w' hD hz hd hp hJ
          obtain ⟨dn, hdn⟩ := hJ.1 hD
          subst hdn
          refine (sget_two wr dn N sb lb d Ld s HW.out.st ⟨x.toArray⟩).mono ?_
          rintro e w'' ⟨x', y, rfl, hxy⟩
          refine ⟨_, rfl, fun c hc => by simp at hc, fun h => ?_, fun _ => ?_⟩
          · simp [Tail.updB] at h
          · exact ⟨x', y, by simp [Tail.updV], hxy⟩
        simp only [Act.put, List.setIfInBounds_toArray, List.set_cons_zero, List.set_cons_succ, Nat.reduceAdd, Nat.reduceEqDiff, reduceIte, Option.getD_some, Option.getD_none]
        refine Tail.J_ex (by rfl) (by rfl) ?_
        apply Exists.intro
        refine ⟨fun w => ?_, ?_⟩
        · go_simp <;> with_reducible rfl
        simp only [Act.put, List.setIfInBounds_toArray, List.set_cons_zero, List.set_cons_succ, Nat.reduceAdd, Nat.reduceEqDiff, reduceIte, Option.getD_some, Option.getD_none]
        refine Tail.J_at (by rfl) (by rfl) ?_
        refine ⟨tupAt (z 8) 0, fun D w' hd hp hJ => ?_, ?_⟩
        · obtain ⟨x', y, e, _⟩ := hJ.2 (hd 8 (by kernel_rfl))
          rw [show tupAt (z 8) 0 = x' from by rw [e]; rfl]
          simp only [e]
          go_simp <;> with_reducible rfl
        simp only [Act.put, List.setIfInBounds_toArray, List.set_cons_zero, List.set_cons_succ, Nat.reduceAdd, Nat.reduceEqDiff, reduceIte, Option.getD_some, Option.getD_none]
        refine Tail.J_at (by rfl) (by rfl) ?_
        refine ⟨tupAt (z 8) 1, fun D w' hd hp hJ => ?_, ?_⟩
        · obtain ⟨x', y, e, _⟩ := hJ.2 (hd 8 (by kernel_rfl))
          rw [show tupAt (z 8) 1 = y from by rw [e]; rfl]
          simp only [e]
          go_simp <;> with_reducible rfl
        simp only [Act.put, List.setIfInBounds_toArray, List.set_cons_zero, List.set_cons_succ, Nat.reduceAdd, Nat.reduceEqDiff, reduceIte, Option.getD_some, Option.getD_none]
        refine Tail.J_ex (by rfl) (by rfl) ?_
        apply Exists.intro
        refine ⟨fun w => ?_, ?_⟩
        · go_simp <;> with_reducible rfl
        simp only [Act.put, List.setIfInBounds_toArray, List.set_cons_zero, List.set_cons_succ, Nat.reduceAdd, Nat.reduceEqDiff, reduceIte, Option.getD_some, Option.getD_none]
        intro w4 hJ
        obtain ⟨a4, e4, hz, hxy⟩ := hJ.2 rfl
        rw [show tupAt (z 8) 0 = a4 from by rw [hz]; rfl, show tupAt (z 8) 1 = e4 from by rw [hz]; rfl, hz]
        clear hJ hz z
        obtain ⟨rfl, hv4, hb4⟩ := hxy
        have HW4 := Lib.hid (HW.out.step hb4)
        have HC3 := Lib.hid (show ∀ w', Below w4.heap.size w4 w' → w'.cell? ⟨p, 3, none⟩ = some (.pointer (some ⟨q, 0, none⟩)) from fun w' hb => (HW4.out.step hb).base.blk.cell 3)
        have HX4 := Lib.hid (show ∀ w', Below w4.heap.size w4 w' → w'.cell? ⟨gb, go + i, none⟩ = some (.string ⟨x.toArray⟩) from fun w' hb => HX.out w' (hb4.trans (Below.mono hb hb4.size)))
        have HV4 := Lib.hid (And.intro hv4 hb4)
        obtain ⟨G, hG⟩ : ∃ z, z = (s.get ⟨x.toArray⟩).isSome := ⟨_, rfl⟩
        obtain ⟨gs, hgs⟩ : ∃ z, z = (s.get ⟨x.toArray⟩).getD [] := ⟨_, rfl⟩
        rw [← hG]
        rw [← hgs] at HV4
        rw [HW.out.dup.get] at hG hgs
        have HG := Lib.hid (And.intro hG hgs)
        clear hv4 hb4 hG hgs HX HC1
        go_upto_region 10 with fail
        refine Tail.wp_region_J 13 (fun k => k == 8) (fun k => none)
          (fun D z w' => (D 8 = false → ∃ n, w' = World.drewN w4 n) ∧ (D 8 = true → ∃ x_ y, z 8 = .tuple #[x_, y] ∧ (y = .bool (rgetR L s.dead ⟨x.toArray⟩).isSome ∧ Bys w' x_ ((rgetR L s.dead ⟨x.toArray⟩).getD []) ∧ Below w4.heap.size w4 w')))
          (by kernel_rfl) (by kernel_rfl) (fun k hk => by simp at hk; omega) (fun D z z' w' hz h => ⟨h.1, fun d => by rw [← hz 8 d]; exact h.2 d⟩)
          (⟨fun _ => ⟨1, rfl⟩, (fun h => by cases h)⟩) (fun z => ?_)
        simp only [List.take_succ_cons, List.take_zero, List.drop_succ_cons, List.drop_zero]
        refine Tail.J_ex (by rfl) (by rfl) ?_
        apply Exists.intro
        refine ⟨fun w => ?_, ?_⟩
        · go_simp <;> with_reducible rfl
        simp only [Act.put, List.setIfInBounds_toArray, List.set_cons_zero, List.set_cons_succ, Nat.reduceAdd, Nat.reduceEqDiff, reduceIte, Option.getD_some, Option.getD_none]
        refine Tail.J_ex (by rfl) (by rfl) ?_
        apply Exists.intro
        refine ⟨fun w => ?_, ?_⟩
        · go_simp <;> with_reducible rfl
        simp only [Act.put, List.setIfInBounds_toArray, List.set_cons_zero, List.set_cons_succ, Nat.reduceAdd, Nat.reduceEqDiff, reduceIte, Option.getD_some, Option.getD_none]
        refine Tail.J_ex (by rfl) (by rfl) ?_
        apply Exists.intro
        refine ⟨fun w => ?_, ?_⟩
        · go_simp <;> with_reducible rfl
        simp only [Act.put, List.setIfInBounds_toArray, List.set_cons_zero, List.set_cons_succ, Nat.reduceAdd, Nat.reduceEqDiff, reduceIte, Option.getD_some, Option.getD_none]
        refine Tail.J_at (by rfl) (by rfl) ?_
        apply Exists.intro
        refine ⟨fun D w' hd hp hJ => ?_, ?_⟩
        · obtain ⟨dn, hdn⟩ := hJ.1 (hp 8 (by kernel_rfl))
          have cc := HC3.out w' (by rw [hdn]; exact below_drewN (Below.refl _ _) dn)
          clear hdn dn
          go_simp <;> with_reducible rfl
        simp only [Act.put, List.setIfInBounds_toArray, List.set_cons_zero, List.set_cons_succ, Nat.reduceAdd, Nat.reduceEqDiff, reduceIte, Option.getD_some, Option.getD_none]
        refine Tail.J_ex (by rfl) (by rfl) ?_
        apply Exists.intro
        refine ⟨fun w => ?_, ?_⟩
        · go_simp <;> with_reducible rfl
        simp only [Act.put, List.setIfInBounds_toArray, List.set_cons_zero, List.set_cons_succ, Nat.reduceAdd, Nat.reduceEqDiff, reduceIte, Option.getD_some, Option.getD_none]
        refine Tail.J_ex (by rfl) (by rfl) ?_
        apply Exists.intro
        refine ⟨fun w => ?_, ?_⟩
        · go_simp <;> with_reducible rfl
        simp only [Act.put, List.setIfInBounds_toArray, List.set_cons_zero, List.set_cons_succ, Nat.reduceAdd, Nat.reduceEqDiff, reduceIte, Option.getD_some, Option.getD_none]
        refine Tail.J_ex (by rfl) (by rfl) ?_
        apply Exists.intro
        refine ⟨fun w => ?_, ?_⟩
        · go_simp <;> with_reducible rfl
        simp only [Act.put, List.setIfInBounds_toArray, List.set_cons_zero, List.set_cons_succ, Nat.reduceAdd, Nat.reduceEqDiff, reduceIte, Option.getD_some, Option.getD_none]
        refine Tail.J_at (by rfl) (by rfl) ?_
        apply Exists.intro
        refine ⟨fun D w' hd hp hJ => ?_, ?_⟩
        · obtain ⟨dn, hdn⟩ := hJ.1 (hp 8 (by kernel_rfl))
          have cc := HX4.out w' (by rw [hdn]; exact below_drewN (Below.refl _ _) dn)
          clear hdn dn
          go_simp <;> with_reducible rfl
        simp only [Act.put, List.setIfInBounds_toArray, List.set_cons_zero, List.set_cons_succ, Nat.reduceAdd, Nat.reduceEqDiff, reduceIte, Option.getD_some, Option.getD_none]
        refine Tail.J_call (by rfl) (by rfl) ?_ ?_
        · apply Exists.intro
          apply Exists.intro
          refine ⟨fun w' => ?_, ?_⟩
          · go_simp <;> exact ⟨rfl, rfl⟩
          intro D z' w' hD hz hd hp hJ
          obtain ⟨dn, hdn⟩ := hJ.1 hD
          subst hdn
          refine (rget_two w4 dn N q r B lv ps s.disk slots room L s.dead HW4.out.rs ⟨x.toArray⟩).mono ?_
          rintro e w'' ⟨x', y, rfl, hxy⟩
          refine ⟨_, rfl, fun c hc => by simp at hc, fun h => ?_, fun _ => ?_⟩
          · simp [Tail.updB] at h
          · exact ⟨x', y, by simp [Tail.updV], hxy⟩
        simp only [Act.put, List.setIfInBounds_toArray, List.set_cons_zero, List.set_cons_succ, Nat.reduceAdd, Nat.reduceEqDiff, reduceIte, Option.getD_some, Option.getD_none]
        refine Tail.J_ex (by rfl) (by rfl) ?_
        apply Exists.intro
        refine ⟨fun w => ?_, ?_⟩
        · go_simp <;> with_reducible rfl
        simp only [Act.put, List.setIfInBounds_toArray, List.set_cons_zero, List.set_cons_succ, Nat.reduceAdd, Nat.reduceEqDiff, reduceIte, Option.getD_some, Option.getD_none]
        refine Tail.J_at (by rfl) (by rfl) ?_
        refine ⟨tupAt (z 8) 0, fun D w' hd hp hJ => ?_, ?_⟩
        · obtain ⟨x', y, e, _⟩ := hJ.2 (hd 8 (by kernel_rfl))
          rw [show tupAt (z 8) 0 = x' from by rw [e]; rfl]
          simp only [e]
          go_simp <;> with_reducible rfl
        simp only [Act.put, List.setIfInBounds_toArray, List.set_cons_zero, List.set_cons_succ, Nat.reduceAdd, Nat.reduceEqDiff, reduceIte, Option.getD_some, Option.getD_none]
        refine Tail.J_at (by rfl) (by rfl) ?_
        refine ⟨tupAt (z 8) 1, fun D w' hd hp hJ => ?_, ?_⟩
        · obtain ⟨x', y, e, _⟩ := hJ.2 (hd 8 (by kernel_rfl))
          rw [show tupAt (z 8) 1 = y from by rw [e]; rfl]
          simp only [e]
          go_simp <;> with_reducible rfl
        simp only [Act.put, List.setIfInBounds_toArray, List.set_cons_zero, List.set_cons_succ, Nat.reduceAdd, Nat.reduceEqDiff, reduceIte, Option.getD_some, Option.getD_none]
        refine Tail.J_ex (by rfl) (by rfl) ?_
        apply Exists.intro
        refine ⟨fun w => ?_, ?_⟩
        · go_simp <;> with_reducible rfl
        simp only [Act.put, List.setIfInBounds_toArray, List.set_cons_zero, List.set_cons_succ, Nat.reduceAdd, Nat.reduceEqDiff, reduceIte, Option.getD_some, Option.getD_none]
        intro w5 hJ
        obtain ⟨a5, e5, hz, hxy⟩ := hJ.2 rfl
        rw [show tupAt (z 8) 0 = a5 from by rw [hz]; rfl, show tupAt (z 8) 1 = e5 from by rw [hz]; rfl, hz]
        clear hJ hz z
        rw [← HG.out.1, ← HG.out.2] at hxy
        obtain ⟨rfl, hv5, hb5⟩ := hxy
        have HV5 := Lib.hid (And.intro hv5 hb5)
        clear hv5 hb5 HX4 HC3
        have qG : (G != G) = false := by cases G <;> rfl
        go_wp2_with fail
        refine (same8_yes a4 a5 gs gs w5 (HV4.out.1.below HV5.out.2) HV5.out.1 rfl).mono ?_
        rintro e w6 ⟨rfl, dn6, rfl⟩
        go_wp2
        exact ⟨⟨i + 1, by omega, by go_num, below_drewN (hbr.trans ((HV4.out.2.trans (Below.mono HV5.out.2 HV4.out.2.size)).mono hbr.size)) dn6⟩, by simp [intOf]; omega⟩
      · have i1 : ¬ (i : Int) < (nn : Int) := by omega
        have HE := Lib.hid (And.intro (HB3.out.trans (hbr.mono HB3.out.size)) (H3.out.step hbr))
        have HR := Lib.hid hbr
        clear hbr hi h0
        obtain ⟨wo, hwo⟩ : ∃ z, z = wr := ⟨_, rfl⟩
        subst hwo
        obtain ⟨nd, hnd⟩ : ∃ z, z = s.disk.n := ⟨_, rfl⟩
        obtain ⟨db, hdb⟩ : ∃ z, z = s.disk.dead := ⟨_, rfl⟩
        have hnb : nd ≤ 4096 := by
          rw [hnd]
          obtain ⟨_, _, _, _, _, _, _, _, _, h, _⟩ := HE.out.2.base.disk
          exact h
        have HN1 := Lib.hid (And.intro hnd hdb)
        have hroomb : room ≤ 10 := HE.out.2.base.r1.2
        clear hnd hdb
        go_wp2_with fail
        go_loopw [9] (fun u wx => ∃ j : Nat, j ≤ nd ∧ u = .int .i64 j ∧ Below wo.heap.size wo wx) (fun u _ => nd - (intOf u).toNat)
        case atStart => exact ⟨0, by omega, rfl, Below.refl _ _⟩
        case round =>
          obtain ⟨j, hj, rfl, hbx⟩ := hrel
          have HX := Lib.hid (HE.out.2.step hbx)
          have HBX := Lib.hid (HE.out.1.trans (hbx.mono HE.out.1.size))
          have HRX := Lib.hid hbx
          have c0 : wr.cell? ⟨p, 0, none⟩ = some (.pointer (some ⟨d, 0, none⟩)) := HX.out.base.blk.cell 0
          have c2 : wr.cell? ⟨p, 2, none⟩ = some (.pointer (some ⟨r, 0, none⟩)) := HX.out.base.blk.cell 2
          have c5 : wr.cell? ⟨p, 5, none⟩ = some (.int .i64 room) := HX.out.base.blk.cell 5
          obtain ⟨e1, e5⟩ := rd_two HX.out.base.rd
          rw [← HN1.out.2] at e1
          have hlen : Calls Tryz.prog 20 #[.pointer (some ⟨r, 0, none⟩)] wr fun e w' => e = .returned (.int .i64 (nd : Int)) ∧ wr = w' := by rw [HN1.out.1]; exact rlen_calls r B _ wr HX.out.base.rd
          clear hbx
          by_cases h1 : j < nd
          · have j1 : (j : Int) < (nd : Int) := by omega
            have q1 : IntKind.i64.wrap ((j : Int) + 1) = (j : Int) + 1 := IntWalk.i64_in _ (by omega)
            have q2 : IntKind.i64.wrap ((room : Int) + 1) = (room : Int) + 1 := IntWalk.i64_in _ (by omega)
            cases db
            · go_wp2_with fail
              refine hlen.mono ?_
              rintro e _ ⟨rfl, rfl⟩
              clear hlen
              go_wp2_with fail
              refine (dread_any d Ld s.disk (j : Int) wr HX.out.base.disk).mono ?_
              rintro e w7 ⟨v7, rfl, ho7, hb7⟩
              obtain ⟨z, hz⟩ : ∃ z, z = s.disk.rres (j : Int) := ⟨_, rfl⟩
              obtain ⟨ys, hys⟩ : ∃ ys, ys = s.disk.rd (j : Int) := ⟨_, rfl⟩
              rw [← hys] at ho7
              rw [← hz]
              have HZ := Lib.hid (And.intro hz hys)
              have HO7 := Lib.hid (And.intro ho7 hb7)
              have H7 := Lib.hid (HX.out.step hb7)
              clear hz hys ho7 hb7 c0 c2 c5 e1 e5
              have c2 : w7.cell? ⟨p, 2, none⟩ = some (.pointer (some ⟨r, 0, none⟩)) := H7.out.base.blk.cell 2
              go_wp2_with fail
              refine (rread_any r B s.disk (j : Int) w7 H7.out.base.rd).mono ?_
              rintro e w8 ⟨v8, rfl, ho8, hb8⟩
              rw [← HZ.out.2] at ho8
              rw [← HZ.out.1]
              have HO8 := Lib.hid (And.intro ho8 hb8)
              have c5 : w8.cell? ⟨p, 5, none⟩ = some (.int .i64 room) := (H7.out.step hb8).base.blk.cell 5
              clear ho8 hb8 c2
              have nz := neq_self z
              have HB8 := Lib.hid (show Below wo.heap.size wo w8 from HRX.out.trans ((HO7.out.2.trans (HO8.out.2.mono HO7.out.2.size)).mono HRX.out.size))
              by_cases hr0 : (j : Int).tmod ((room : Int) + 1) = 0
              · go_wp2_with fail
                refine (same8_yes v7 v8 ys ys w8 (HO7.out.1.bys.below HO8.out.2) HO8.out.1.bys rfl).mono ?_
                rintro e w9 ⟨rfl, dn9, rfl⟩
                go_wp2
                exact ⟨⟨j + 1, by omega, by go_num, below_drewN HB8.out dn9⟩, by simp [intOf]; omega⟩
              · go_wp2_with fail
                exact ⟨⟨j + 1, by omega, by go_num, HB8.out⟩, by simp [intOf]; omega⟩
            · go_wp2_with fail
              refine hlen.mono ?_
              rintro e _ ⟨rfl, rfl⟩
              clear hlen
              have hdead : ∀ n, Calls Tryz.prog 23 #[.pointer (some ⟨d, 0, none⟩)] (wr.drewN n) fun e w' => e = .returned (.bool true) ∧ wr.drewN n = w' := fun n => by rw [HN1.out.2]; exact ddead_calls d Ld s.disk _ (HX.out.base.disk.drewN n)
              obtain ⟨wn, hwn⟩ : ∃ z, z = s.disk.writes := ⟨_, rfl⟩
              rw [← hwn] at e5
              have hwrt : ∀ n, Calls Tryz.prog 24 #[.pointer (some ⟨d, 0, none⟩)] (wr.drewN n) fun e w' => e = .returned (.int .i64 (wn : Int)) ∧ wr.drewN n = w' := fun n => by rw [hwn]; exact dwrites_calls d Ld s.disk _ (HX.out.base.disk.drewN n)
              clear hwn
              go_wp2_with fail
              go_quiet ((first | (go_at_call 23; exact quiet_eq (hdead _)) | (go_at_call 24; exact quiet_eq (hwrt _))))
              go_wp2
              go_ret
              exact ⟨rfl, below_drewN HBX.out _⟩
          · have j1 : ¬ (j : Int) < (nd : Int) := by omega
            go_wp2_with fail
            refine hlen.mono ?_
            rintro e _ ⟨rfl, rfl⟩
            clear hlen
            have qd : (db == db) = true := by cases db <;> rfl
            have hdead : ∀ n, Calls Tryz.prog 23 #[.pointer (some ⟨d, 0, none⟩)] (wr.drewN n) fun e w' => e = .returned (.bool db) ∧ wr.drewN n = w' := fun n => by rw [HN1.out.2]; exact ddead_calls d Ld s.disk _ (HX.out.base.disk.drewN n)
            obtain ⟨wn, hwn⟩ : ∃ z, z = s.disk.writes := ⟨_, rfl⟩
            rw [← hwn] at e5
            have hwrt : ∀ n, Calls Tryz.prog 24 #[.pointer (some ⟨d, 0, none⟩)] (wr.drewN n) fun e w' => e = .returned (.int .i64 (wn : Int)) ∧ wr.drewN n = w' := fun n => by rw [hwn]; exact dwrites_calls d Ld s.disk _ (HX.out.base.disk.drewN n)
            clear hwn
            go_wp2_with fail
            go_quiet ((first | (go_at_call 23; exact quiet_eq (hdead _)) | (go_at_call 24; exact quiet_eq (hwrt _))))
            go_wp2
            go_ret
            exact ⟨rfl, below_drewN HBX.out _⟩
end Go.Proofs.YtehgnkdfnnebcaaGreatDoor
end
section
namespace Go.Proofs.YtehgnkdfnnebcaaGreatDoor
open Go Go.RowKit Go.Mem Gf
theorem byt_set {arr : Array Value} (h : Byt arr) (i : Nat) (u : UInt8) : Byt (arr.setIfInBounds i (.int .u8 (u.toNat : Int))) := fun j hj => by
  rw [Array.size_setIfInBounds] at hj
  rw [Array.getElem?_setIfInBounds]
  by_cases e : i = j
  · subst e; rw [if_pos rfl, if_pos hj]; exact ⟨u, rfl⟩
  · rw [if_neg e]; exact h j hj
theorem _root_.Go.Mem.OwnF.parts {w : World} {base : Nat} {v : Value} {bs : List UInt8} (h : OwnF 5 w base v bs) : v = .slice none 0 0 ∨ ∃ g cap arr, v = .slice (some ⟨g, 0, none⟩) bs.length cap ∧ base ≤ g ∧ bs.length ≤ cap ∧ cap ≤ maxLen ∧ Blk w g arr 5 ∧ arr.size = cap ∧ Byt arr := by
  obtain ⟨⟨_, h2⟩, h3⟩ := h
  rcases h2 with ⟨h2, _⟩ | ⟨g, cap, cur, rfl, hg, hh, hnc, hcm, hcs, _⟩
  · exact .inl h2
  · obtain ⟨arr, h4, h5⟩ := h3 g rfl
    have e : cur = arr := by
      have := (show Blk w g cur 5 from hh).symm.trans h4
      injection this with this
      injection this with this
    subst e
    exact .inr ⟨g, cap, cur, rfl, hg, hnc, hcm, hh, by omega, h5⟩
set_option maxRecDepth 20000 in
set_option maxHeartbeats 1000000 in
theorem spoilF_calls (base : Nat) (v : Value) (bs : List UInt8) (w : World) (h : OwnF 5 w base v bs) :
    Calls Tryz.prog 37 #[v] w fun e w' => e = .returned (.tuple #[]) ∧ Chg (fun b => v.ownBlock = some b) w w' := by
  rcases h.parts with rfl | ⟨g, cap, arr, rfl, hg, hlc, hcm, hB, hsz, hby⟩
  · go_enter Tryz.func37, Tryz.ntmps37
    go_wp2_with fail
    go_loopw [10] (fun v wr => v = .int .i64 0 ∧ w = wr) (fun v _ => 0)
    case atStart => exact ⟨rfl, rfl⟩
    case round =>
      obtain ⟨rfl, rfl⟩ := hrel
      go_wp2
      go_end0
      exact ⟨rfl, Chg.refl _ _⟩
  · have e0 : bs = bs := rfl
    clear e0
    have hcm : cap ≤ 9223372036854775807 := by unfold maxLen at hcm; omega
    clear h
    obtain ⟨l, hl⟩ : ∃ l, l = bs.length := ⟨_, rfl⟩
    rw [← hl] at hlc ⊢
    clear hl
    go_enter Tryz.func37, Tryz.ntmps37
    go_wp2_with fail
    go_loopw [10] (fun v wr => ∃ (i : Nat) (arr' : Array Value), i ≤ cap ∧ v = .int .i64 i ∧ Hid (Blk wr g arr' 5 ∧ arr'.size = cap ∧ Byt arr') ∧ Chg (fun b => some g = some b) w wr) (fun v _ => cap - (intOf v).toNat)
    case atStart => exact ⟨0, arr, by omega, rfl, ⟨hB, hsz, hby⟩, Chg.refl _ _⟩
    case round =>
      clear hB hsz
      obtain ⟨i, arr', hi, rfl, hx, hch⟩ := hrel
      by_cases h0 : i < cap
      · obtain ⟨u, hu⟩ := hx.out.2.2 i (by rw [hx.out.2.1]; exact h0)
        have c3 : wr.cell? ⟨g, i, none⟩ = some (.int .u8 (u.toNat : Int)) := by rw [hx.out.1.cell]; exact hu
        have f3 := hx.out.1.free i
        have hu8 := u_lt u
        have hxor := bits_xor_u8 u.toNat 119 hu8 (by decide)
        have hu2 : ((u.toNat ^^^ 119 : Nat) : Int) = ((u ^^^ 119).toNat : Int) := by rw [UInt8.toNat_xor]; rfl
        have hxor2 : bits .xor .u8 (u.toNat : Int) 119 = ((u ^^^ 119).toNat : Int) := by rw [← hu2]; exact hxor
        clear hxor hu2 hu
        go_wp2
        refine ⟨⟨i + 1, _, by omega, by go_num, ⟨hx.out.1.set i _, by rw [Array.size_setIfInBounds]; exact hx.out.2.1, ?_⟩, hch.set rfl _⟩, by simp [intOf]; omega⟩
        have := byt_set hx.out.2.2 i (u ^^^ 119)
        rw [UInt8.toNat_xor] at this
        exact this
      · obtain rfl : i = cap := by omega
        go_wp2
        go_end0
        exact ⟨rfl, by simpa [Value.ownBlock] using hch⟩
end Go.Proofs.YtehgnkdfnnebcaaGreatDoor
end
section
namespace Go.Proofs.YtehgnkdfnnebcaaGreatDoor
open Go Go.RowKit Go.Mem Gf
set_option linter.unusedVariables false
attribute [local go_sem ↓] Go.wp_at_zero Go.wp_at_succ
section
variable {w0 w w1 w2 : World} {N : Nat → Prop} {p d Ld sb lb r B q : Nat} {lv lv' v1 v3 : Value} {ps ps' : List RP} {m slots room : Nat} {s s' : St} {L L' : List RRec} {D D' : DiskS}
theorem PairB.redisk (h : PairB w0 w p d Ld r B m slots room D v1 v3) (hc1 : Chg (fun b => b = d) w w1) (hD : IsDisk w1 d Ld D') (hc2 : Chg (fun b => b = r) w1 w2) (hR : RDisk w2 r B D') (hn : D'.n = D.n) (hw : D'.writes = D.writes) : PairB w0 w2 p d Ld r B m slots room D' v1 v3 := by
  have hf := h.far
  have hne := h.ne
  have ht := h.tab0.lt
  exact { h with
    blk := hc2.blk (hc1.blk h.blk hne.1) hne.2.2.1
    disk := hD.chg hc2 hne.2.2.2.2.1 hne.2.2.2.2.2.2.1
    rd := hR
    bel := Chg.far (Chg.far h.bel hc1 h.bel.size (fun b hb => by subst hb; exact hf.2.1)) hc2 (Nat.le_trans h.bel.size hc1.size) (fun b hb => by subst hb; exact hf.2.2.2.1)
    tab := (h.tab.chg hc1 (fun e => by have := hf.2.1; omega)).chg hc2 (fun e => by have := hf.2.2.2.1; omega)
    n := hn.trans h.n
    few := by rw [hw]; exact h.few }
theorem PairS.redisk (h : PairS w0 w N p d Ld sb lb r B q lv ps m slots room s L) (hc1 : Chg (fun b => b = d) w w1) (hD : IsDisk w1 d Ld D') (hc2 : Chg (fun b => b = r) w1 w2) (hR : RDisk w2 r B D') (hn : D'.n = s.disk.n) (hw : D'.writes = s.disk.writes) : PairS w0 w2 N p d Ld sb lb r B q lv ps m slots room { s with disk := D' } L := by
  have hne := h.base.ne
  have hne2 := h.ne
  have hb := h.base.redisk hc1 hD hc2 hR hn hw
  have hd1 : Chg (DL d Ld) w w1 := hc1.mono fun b h => .inl h
  have hst := h.st.redisk hd1 hD hn (Nat.le_of_eq hw.symm) (by rw [hw]; exact h.st.ok.few)
  have hr1 := h.rs.chg hc1 (fun b hb _ => by subst hb; exact h.st.foot _ (.inr (.inr (.inl rfl)))) (fun b hb => by rcases hb with rfl | rfl | rfl; exact hne2.2.2.2.2.2.2.2.2.2.1; exact fun e => hne.2.2.2.2.1 e.symm; exact fun e => hne.2.2.2.2.2.1 e.symm)
  have hr2 := hr1.redisk (hc2.mono fun b h => .inl h) hR hn
  exact { h with
    base := hb
    st := hst.chg hc2 (fun b hb => by rcases hb with rfl | rfl | rfl | rfl; exact hne2.2.2.2.1; exact hne2.2.2.2.2.2.2.1; exact hne.2.2.2.2.1; exact hne.2.2.2.2.2.2.1) (fun b hb _ => by subst hb; exact h.rs.nr)
    rs := hr2
    dup := h.dup.redisk D' hw }
theorem PairS.dj (h : PairS w0 w N p d Ld sb lb r B q lv ps m slots room s L) : ∀ b, Foot sb lb d Ld b → ¬ FootR q r B b := by
  obtain ⟨a1, a2, a3, a4, a5, a6, a7, a8⟩ := h.base.ne
  obtain ⟨b1, b2, b3, b4, b5, b6, b7, b8, b9, b10, b11⟩ := h.ne
  intro b hb hb'
  rcases hb with rfl | rfl | rfl | rfl
  · rcases hb' with e | e | e
    · exact b6 e
    · exact b4 e
    · exact b5 e
  · rcases hb' with e | e | e
    · exact b9 e
    · exact b7 e
    · exact b8 e
  · rcases hb' with e | e | e
    · exact b10 e.symm
    · exact a5 e
    · exact a6 e
  · rcases hb' with e | e | e
    · exact b11 e.symm
    · exact a7 e
    · exact a8 e
theorem PairS.pf (h : PairS w0 w N p d Ld sb lb r B q lv ps m slots room s L) : ¬ Foot sb lb d Ld p ∧ ¬ FootR q r B p := by
  obtain ⟨a1, a2, a3, a4, _⟩ := h.base.ne
  obtain ⟨b1, b2, b3, _⟩ := h.ne
  constructor
  · intro hb
    rcases hb with e | e | e | e
    · exact b1 e
    · exact b2 e
    · exact a1 e
    · exact a2 e
  · intro hb
    rcases hb with e | e | e
    · exact b3 e
    · exact a3 e
    · exact a4 e
theorem PairS.both (h : PairS w0 w N p d Ld sb lb r B q lv ps m slots room s L) (hc1 : Chg (Foot sb lb d Ld) w w1) (hs : IsStore w1 N sb lb d Ld s') (hc2 : Chg (FootR q r B) w1 w2) (hr : RStore w2 N q r B lv' ps' s'.disk slots room L' s'.dead) (hdup : Dup (m + 1) slots s' L') (hroom : s'.room = room) : PairS w0 w2 N p d Ld sb lb r B q lv' ps' (m + 1) slots room s' L' := by
  have hfoot := h.dj
  have hN1 : ∀ b, Foot sb lb d Ld b → w0.heap.size ≤ b := fun b hb => h.nfar b (h.st.foot b hb)
  have hN2 : ∀ b, FootR q r B b → w0.heap.size ≤ b := fun b hb => h.nfar b (h.rs.foot b hb)
  have hp1 := h.pf.1
  have hp2 := h.pf.2
  have hst2 := hs.chg hc2 hfoot (fun b hb _ => h.rs.foot b hb)
  exact { h with
    base := { h.base with
      blk := hc2.blk (hc1.blk h.base.blk hp1) hp2
      disk := hst2.disk
      rd := hr.disk
      bel := Chg.far (Chg.far h.base.bel hc1 h.base.bel.size hN1) hc2 (Nat.le_trans h.base.bel.size hc1.size) hN2
      tab := hst2.tab
      n := hr.n
      few := hdup.wr
      m1 := by have := h.base.m1; omega }
    st := hst2
    rs := hr
    dup := hdup
    room := hroom }
theorem PairS.rs1 (h : PairS w0 w N p d Ld sb lb r B q lv ps m slots room s L) (hc1 : Chg (Foot sb lb d Ld) w w1) : RStore w1 N q r B lv ps s.disk slots room L s.dead := by
  exact h.rs.chg hc1 (fun b hb _ => h.st.foot b hb) (fun b hb hb' => h.dj b hb' hb)
theorem Par.more {w0 w : World} (h : Par w0 w p d Ld r B m slots room) {m' : Nat} (hm : m ≤ m') : Par w0 w p d Ld r B m' slots room := by
  rcases h with ⟨D, h⟩ | ⟨N, sb, lb, q, lv, ps, s, L, h⟩
  · exact .inl ⟨D, h.more hm⟩
  · exact .inr ⟨N, sb, lb, q, lv, ps, s, L, { h with base := h.base.more hm, dup := h.dup.mono hm }⟩
end
structure PJ (w0 wc : World) (N : Nat → Prop) (p d Ld sb lb r B q : Nat) (lv : Value) (ps : List RP) (m slots room : Nat) (s : St) (L : List RRec) (bx : Nat) (cs : Array Value) (s' : St) (L' : List RRec) (b1 b2 : Bool) (w' : World) : Prop where
  base : PairS w0 wc N p d Ld sb lb r B q lv ps m slots room s L
  box : Blk wc bx cs 31
  bxn : ¬ Foot sb lb d Ld bx ∧ ¬ FootR q r B bx
  now : (b1 = false ∧ b2 = false ∧ ∃ n, w' = wc.drewN n) ∨ (b1 = true ∧ b2 = false ∧ IsStore w' N sb lb d Ld s' ∧ Chg (Foot sb lb d Ld) wc w') ∨
    (b1 = true ∧ b2 = true ∧ ∃ lv' ps' w1, IsStore w1 N sb lb d Ld s' ∧ Chg (Foot sb lb d Ld) wc w1 ∧ RStore w' N q r B lv' ps' s'.disk slots room L' s'.dead ∧ Chg (FootR q r B) w1 w')
section
variable {w0 wc w1 w' w'' : World} {N : Nat → Prop} {p d Ld sb lb r B q : Nat} {lv lv' : Value} {ps ps' : List RP} {m slots room bx : Nat} {s s' : St} {L L' : List RRec} {cs : Array Value} {b1 b2 : Bool}
theorem PJ.start (h : PairS w0 wc N p d Ld sb lb r B q lv ps m slots room s L) (hb : Blk wc bx cs 31) (hn : ¬ Foot sb lb d Ld bx ∧ ¬ FootR q r B bx) : PJ w0 wc N p d Ld sb lb r B q lv ps m slots room s L bx cs s' L' false false wc.drew :=
  ⟨h, hb, hn, .inl ⟨rfl, rfl, 1, rfl⟩⟩
theorem PJ.blks (h : PJ w0 wc N p d Ld sb lb r B q lv ps m slots room s L bx cs s' L' b1 b2 w') {k : Nat} {xs : Array Value} {t : TypeId} (hk : Blk wc k xs t) (h1 : ¬ Foot sb lb d Ld k) (h2 : ¬ FootR q r B k) : Blk w' k xs t := by
  rcases h.now with ⟨_, _, n, rfl⟩ | ⟨_, _, _, hc⟩ | ⟨_, _, _, _, _, _, hc, _, hc2⟩
  · exact hk
  · exact hc.blk hk h1
  · exact hc2.blk (hc.blk hk h1) h2
theorem PJ.pb (h : PJ w0 wc N p d Ld sb lb r B q lv ps m slots room s L bx cs s' L' b1 b2 w') : Blk w' p (pairC d r (.pointer (some ⟨sb, 0, none⟩)) (.pointer (some ⟨q, 0, none⟩)) slots room) 43 :=
  h.blks h.base.base.blk h.base.pf.1 h.base.pf.2
theorem PJ.p1 (h : PJ w0 wc N p d Ld sb lb r B q lv ps m slots room s L bx cs s' L' b1 b2 w') : w'.cell? ⟨p, 1, none⟩ = some (.pointer (some ⟨sb, 0, none⟩)) := h.pb.cell 1
theorem PJ.p3 (h : PJ w0 wc N p d Ld sb lb r B q lv ps m slots room s L bx cs s' L' b1 b2 w') : w'.cell? ⟨p, 3, none⟩ = some (.pointer (some ⟨q, 0, none⟩)) := h.pb.cell 3
theorem PJ.bc (h : PJ w0 wc N p d Ld sb lb r B q lv ps m slots room s L bx cs s' L' b1 b2 w') (i : Nat) : w'.cell? ⟨bx, i, none⟩ = cs[i]? := (h.blks h.box h.bxn.1 h.bxn.2).cell i
theorem PJ.few (h : PJ w0 wc N p d Ld sb lb r B q lv ps m slots room s L bx cs s' L' b1 b2 w') : s.disk.writes ≤ 2000 * m := h.base.base.few
theorem PJ.st (h : PJ w0 wc N p d Ld sb lb r B q lv ps m slots room s L bx cs s' L' false false w') : IsStore w' N sb lb d Ld s := by
  rcases h.now with ⟨_, _, n, rfl⟩ | ⟨e, _⟩ | ⟨e, _⟩
  · exact h.base.st.below (below_drewN (Below.refl _ _) n)
  · cases e
  · cases e
theorem PJ.one (h : PJ w0 wc N p d Ld sb lb r B q lv ps m slots room s L bx cs s' L' false false w') (hs : IsStore w'' N sb lb d Ld s') (hc : Chg (Foot sb lb d Ld) w' w'') : PJ w0 wc N p d Ld sb lb r B q lv ps m slots room s L bx cs s' L' true false w'' := by
  rcases h.now with ⟨_, _, n, rfl⟩ | ⟨e, _⟩ | ⟨e, _⟩
  · exact ⟨h.base, h.box, h.bxn, .inr (.inl ⟨rfl, rfl, hs, (Chg.of_below (below_drewN (Below.refl _ _) n)).trans hc⟩)⟩
  · cases e
  · cases e
theorem PJ.mid (h : PJ w0 wc N p d Ld sb lb r B q lv ps m slots room s L bx cs s' L' true false w') : IsStore w' N sb lb d Ld s' ∧ Chg (Foot sb lb d Ld) wc w' := by
  rcases h.now with ⟨e, _⟩ | ⟨_, _, h1, h2⟩ | ⟨_, e, _⟩
  · cases e
  · exact ⟨h1, h2⟩
  · cases e
theorem PJ.rs (h : PJ w0 wc N p d Ld sb lb r B q lv ps m slots room s L bx cs s' L' true false w') : RStore w' N q r B lv ps s.disk slots room L s.dead := h.base.rs1 h.mid.2
theorem PJ.old (h : PJ w0 wc N p d Ld sb lb r B q lv ps m slots room s L bx cs s' L' true false w') : ∀ b, N b → b < w'.heap.size := h.mid.1.old
theorem PJ.two (h : PJ w0 wc N p d Ld sb lb r B q lv ps m slots room s L bx cs s' L' true false w') {D : DiskS} {dd : Bool} (h1 : D = s'.disk) (h2 : dd = s'.dead) (hs : RStore w'' N q r B lv' ps' D slots room L' dd) (hc : Chg (FootR q r B) w' w'') : PJ w0 wc N p d Ld sb lb r B q lv ps m slots room s L bx cs s' L' true true w'' := by
  subst h1 h2
  exact ⟨h.base, h.box, h.bxn, .inr (.inr ⟨rfl, rfl, lv', ps', w', h.mid.1, h.mid.2, hs, hc⟩)⟩
theorem PJ.fin (h : PJ w0 wc N p d Ld sb lb r B q lv ps m slots room s L bx cs s' L' true true w') (hdup : Dup (m + 1) slots s' L') (hroom : s'.room = room) : (∃ lv' ps', PairS w0 w' N p d Ld sb lb r B q lv' ps' (m + 1) slots room s' L') ∧ ∀ (t8 : TypeId) (base : Nat) (xv : Value) (bs : List UInt8), OwnF t8 wc base xv bs → (∀ g, xv.ownBlock = some g → ¬ Foot sb lb d Ld g) → (∀ g, xv.ownBlock = some g → ¬ FootR q r B g) → OwnF t8 w' base xv bs := by
  rcases h.now with ⟨e, _⟩ | ⟨_, e, _⟩ | ⟨_, _, lv', ps', w1, h1, h2, h3, h4⟩
  · cases e
  · cases e
  · exact ⟨⟨lv', ps', h.base.both h2 h1 h4 h3 hdup hroom⟩, fun t8 base xv bs ho k1 k2 => (ho.chg h2 k1).chg h4 k2⟩
theorem PJ.own (h : PJ w0 wc N p d Ld sb lb r B q lv ps m slots room s L bx cs s' L' false false w') {t8 : TypeId} {base : Nat} {xv : Value} {bs : List UInt8} (ho : OwnF t8 wc base xv bs) : OwnF t8 w' base xv bs := by
  rcases h.now with ⟨_, _, n, rfl⟩ | ⟨e, _⟩ | ⟨e, _⟩
  · exact ho
  · cases e
  · cases e
theorem PJ.z (h : PJ w0 wc N p d Ld sb lb r B q lv ps m slots room s L bx cs s' L' true false w') {v : Value} {bs : List UInt8} (ho : DataZ wc N v bs) : DataZ w' N v bs := ho.chg h.mid.2 (fun b hb _ => h.base.st.foot b hb)
theorem Par.disks (h : Par w0 wc p d Ld r B m slots room) : ∃ D v1 v3, PairB w0 wc p d Ld r B m slots room D v1 v3 ∧ ∀ w1 w2 D', Chg (fun b => b = d) wc w1 → IsDisk w1 d Ld D' → Chg (fun b => b = r) w1 w2 → RDisk w2 r B D' → D'.n = D.n → D'.writes = D.writes → Par w0 w2 p d Ld r B m slots room := by
  rcases h with ⟨D, h⟩ | ⟨N, sb, lb, q, lv, ps, s, L, h⟩
  · exact ⟨D, _, _, h, fun w1 w2 D' k1 k2 k3 k4 k5 k6 => .inl ⟨D', h.redisk k1 k2 k3 k4 k5 k6⟩⟩
  · exact ⟨_, _, _, h.base, fun w1 w2 D' k1 k2 k3 k4 k5 k6 => .inr ⟨N, sb, lb, q, lv, ps, _, L, h.redisk k1 k2 k3 k4 k5 k6⟩⟩
theorem Par.box {w wb : World} (h : Par w0 w p d Ld r B m slots room) (hb : Below w.heap.size w wb) (hlt : w.heap.size < wb.heap.size) (hc : Chg (fun b => b = w.heap.size) wb wc) :
    ((∃ D, PairB w0 wc p d Ld r B m slots room D (.pointer none) (.pointer none)) ∨ ∃ N sb lb q lv ps s L, PairS w0 wc N p d Ld sb lb r B q lv ps m slots room s L ∧ ¬ Foot sb lb d Ld w.heap.size ∧ ¬ FootR q r B w.heap.size) ∧ Par w0 wc p d Ld r B m slots room ∧ p ≠ w.heap.size ∧ d ≠ w.heap.size ∧ r ≠ w.heap.size := by
  rcases h with ⟨D, h⟩ | ⟨N, sb, lb, q, lv, ps, s, L, h⟩
  · have hl := h.lt
    have h1 := (h.step hb).chg hc (fun b hb' => by have hb' : b = w.heap.size := hb'; rw [hb']; exact h.bel.size) ⟨(fun e => by have e : p = w.heap.size := e; omega), (fun e => by have e : d = w.heap.size := e; omega), (fun e => by have e : Ld = w.heap.size := e; omega), (fun e => by have e : r = w.heap.size := e; omega), (fun e => by have e : B = w.heap.size := e; omega)⟩
    exact ⟨.inl ⟨D, h1⟩, .inl ⟨D, h1⟩, by omega, by omega, by omega⟩
  · have hl := h.base.lt
    have hq := h.rs.blk.lt
    have hf : ∀ b, Foot sb lb d Ld b → b < w.heap.size := h.st.lt
    have hsb := hf sb (.inl rfl)
    have hlb := hf lb (.inr (.inl rfl))
    have hg := h.grow (M := fun b => N b ∨ b = w.heap.size) hb (fun b hb' => hb'.elim .inl (fun e => .inr (by rw [e]; exact Nat.le_refl _))) (fun b hb' => .inl hb') (fun b hb' => hb'.elim (fun e => Nat.lt_of_lt_of_le (h.st.old b e) hb.size) (fun e => by rw [e]; exact hlt))
    have h1 := hg.chg hc (fun b hb' => by have hb' : b = w.heap.size := hb'; rw [hb']; exact h.base.bel.size) (fun b hb' _ => .inr hb') ⟨(fun e => by have e : p = w.heap.size := e; omega), (fun e => by have e : d = w.heap.size := e; omega), (fun e => by have e : Ld = w.heap.size := e; omega), (fun e => by have e : r = w.heap.size := e; omega), (fun e => by have e : B = w.heap.size := e; omega), (fun e => by have e : sb = w.heap.size := e; omega), (fun e => by have e : lb = w.heap.size := e; omega), (fun e => by have e : q = w.heap.size := e; omega)⟩
    exact ⟨.inr ⟨_, sb, lb, q, lv, ps, s, L, h1, fun e => by have := hf _ e; omega, fun e => by rcases e with e | e | e <;> omega⟩, .inr ⟨_, sb, lb, q, lv, ps, s, L, h1⟩, by omega, by omega, by omega⟩
end
set_option maxRecDepth 100000 in
set_option maxHeartbeats 1000000 in
theorem copyF_calls (v : Value) (bs : List UInt8) (w : World) (h : Bys w v bs) (hl : bs.length ≤ 140737488355328) :
    Calls Tryz.prog 34 #[v] w fun e w' => ∃ v', e = .returned v' ∧ OwnF 5 w' w.heap.size v' bs ∧ Below w.heap.size w w' := by
  go_enter Tryz.func34, Tryz.ntmps34
  go_wp2_with (at_builtin; refine appF E8 rfl _ _ rfl (base := w.heap.size) (v := .slice none 0 0) (bs := []) (news := bs) rfl rfl (OwnF.nil _ _ _) h (by simp; omega) (Nat.le_refl _) ?_)
  intro v' w1 hown hg
  go_wp2
  go_ret
  exact ⟨v', rfl, hown, grown_none hg rfl⟩
end Go.Proofs.YtehgnkdfnnebcaaGreatDoor
end
