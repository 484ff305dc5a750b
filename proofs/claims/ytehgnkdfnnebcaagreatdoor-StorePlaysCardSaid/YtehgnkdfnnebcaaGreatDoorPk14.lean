/- Texts of this proof, packed: PlayDo, StorePlaysWalk, TabOf. -/
import Derived.Test.YtehgnkdfnnebcaaGreatDoorPk13
import Derived.Test.YtehgnkdfnnebcaaGreatDoorPk02
import Derived.Deep.QuietTactic
import Derived.Test.YtehgnkdfnnebcaaGreatDoorPk12
import Derived.Test.YtehgnkdfnnebcaaGreatDoorRows
import Derived.Lib.LaidTab
import Derived.LaidMore
section
namespace Go.Proofs.YtehgnkdfnnebcaaGreatDoor
open Go Go.RowKit Go.Mem Gf
set_option linter.unusedVariables false
set_option linter.unusedSimpArgs false
attribute [local go_sem ↓] Go.wp_at_zero Go.wp_at_succ
set_option maxRecDepth 20000 in
set_option maxHeartbeats 8000000 in
theorem pdo_calls (w0 w : World) (p d Ld r B m slots room : Nat) (op at_ keep : Int) (name : ByteArray) (v : Value) (bs : List UInt8) (hv : Bys w0 v bs) (hat : at_ ≤ 9223372036854775807) (hsz : name.size ≤ maxLen) (h : Par w0 w p d Ld r B m slots room) (hm : m ≤ 4999999999) :
    Calls Tryz.prog 7 #[.pointer (some ⟨p, 0, none⟩), .agg #[.int .i64 op, .int .i64 at_, .int .i64 keep, .string name, v]] w fun e w' => e = .returned (.bool true) ∧ Par w0 w' p d Ld r B (m + 1) slots room := by
  obtain ⟨va, vc, rfl⟩ := hv.eq_slice
  have hsz2 : name.size ≤ 9223372036854775807 := by unfold maxLen at hsz; omega
  obtain ⟨bx, hbx⟩ : ∃ bx, bx = w.heap.size := ⟨_, rfl⟩
  have hbox := Blk.new w #[.int .i64 op, .int .i64 at_, .int .i64 keep, .string name, .slice va bs.length vc] 31
  have hbb : Below w.heap.size w (w.alloc (.cells #[.int .i64 op, .int .i64 at_, .int .i64 keep, .string name, .slice va bs.length vc] 31)) := (Below.refl _ _).alloc (Nat.le_refl _) _
  obtain ⟨wb, hwb⟩ : ∃ wb, wb = w.alloc (.cells #[.int .i64 op, .int .i64 at_, .int .i64 keep, .string name, .slice va bs.length vc] 31) := ⟨_, rfl⟩
  rw [← hwb, ← hbx] at hbox
  rw [← hwb] at hbb
  have hvb : Bys wb (.slice va bs.length vc) bs := hv.below (h.bel.trans (hbb.mono h.bel.size))
  obtain ⟨nb, hnb⟩ : ∃ nb, nb = (min (bs.length : Int) (150 : Int)).toNat := ⟨_, rfl⟩
  have hcut := cut8_val 150 wb hvb
  have hv' := bys_cut hv 150
  rw [show ((150 : Nat) : Int) = 150 from rfl, ← hnb] at hcut hv'
  have hwbs := hbb.size
  have HP := Lib.hid h; have HV := Lib.hid hv'; have HB := Lib.hid hbb; have HX := Lib.hid hbox
  have c3 : wb.cell? ⟨bx, 3, none⟩ = some (.string name) := hbox.cell 3
  have c4 : wb.cell? ⟨bx, 4, none⟩ = some (.slice va bs.length vc) := hbox.cell 4
  have f4 := hbox.free 4
  have f3 := (hbox.set 4 (.slice va nb vc)).free 3
  have c3' : (wb.setCell ⟨bx, 4, none⟩ (.slice va nb vc)).cell? ⟨bx, 3, none⟩ = some (.string name) := (hbox.set 4 (.slice va nb vc)).cell 3
  have c0' : (wb.setCell ⟨bx, 4, none⟩ (.slice va nb vc)).cell? ⟨bx, 0, none⟩ = some (.int .i64 op) := (hbox.set 4 (.slice va nb vc)).cell 0
  clear h hv hv' hbb hbox hvb hsz
  go_enter Tryz.func7, Tryz.ntmps7
  go_wp2_with fail
  rw [← hwb, ← hbx]
  refine hcut.mono ?_
  rintro e _ ⟨rfl, rfl⟩
  have HSZ := Lib.hid (show bx = w.heap.size ∧ wb.heap.size = w.heap.size + 1 from ⟨hbx, by rw [hwb]; simp⟩)
  have hnb2 : nb ≤ 150 ∧ nb = (bs.take 150).length := by rw [hnb, List.length_take]; omega
  have HNB := Lib.hid hnb2
  clear hcut hwb hbx hnb hnb2 hwbs
  have hc4 : Chg (fun b => b = bx) wb (wb.setCell ⟨bx, 4, none⟩ (.slice va nb vc)) := Chg.set (S := fun b => b = bx) (a := ⟨bx, 4, none⟩) (Chg.refl _ _) rfl _
  have hB4 := HX.out.set 4 (.slice va nb vc)
  have HC4 := Lib.hid (And.intro hc4 hB4)
  clear hc4 hB4
  go_upto_if 18 with fail
  go_cut [] (fun wx => ∃ nm : ByteArray, nm.size ≤ 20 ∧ Chg (fun b => b = bx) wb wx ∧ Blk wx bx #[.int .i64 op, .int .i64 at_, .int .i64 keep, .string nm, .slice va nb vc] 31)
  case first =>
    by_cases h20 : 20 < name.size
    · go_wp2_with fail
      go_meet
      exact ⟨name.extract 0 20, by rw [ByteArray.size_extract]; omega, Chg.set (S := fun b => b = bx) (a := ⟨bx, 3, none⟩) HC4.out.1 rfl _, HC4.out.2.set 3 _⟩
    · go_wp2_with fail
      go_meet
      exact ⟨name, by omega, HC4.out.1, HC4.out.2⟩
  case rest =>
  obtain ⟨nm, hnm, hcx, hbxx⟩ := hcut
  have hszb := HSZ.out.2
  obtain ⟨hor, hPc, np, nd, nr⟩ := HP.out.box HB.out (by omega) (wc := wc) (by rw [← HSZ.out.1]; exact hcx)
  rw [← HSZ.out.1] at hor np nd nr
  obtain ⟨bs', hbs'⟩ : ∃ z, z = bs.take 150 := ⟨_, rfl⟩
  rw [← hbs'] at HV HNB
  have HBX := Lib.hid hbxx; have HPC := Lib.hid hPc; have HOR := Lib.hid hor; have HNE := Lib.hid (And.intro np (And.intro nd nr))
  have b0 : wc.cell? ⟨bx, 0, none⟩ = some (.int .i64 op) := hbxx.cell 0
  clear hcx hbxx hPc hor np nd nr hszb hbs' HX HC4 c3 c4 f4 f3 c3' c0'
  go_wp2_with fail
  refine (within_calls op 8 (by decide) (by decide) _).mono ?_
  rintro e _ ⟨rfl, rfl⟩
  have hwi := within_calls op 8 (by decide) (by decide) wc
  obtain ⟨k, hk⟩ : ∃ k, k = within op 8 := ⟨_, rfl⟩
  rw [← hk] at hwi ⊢
  clear hk
  by_cases h6 : k = 6
  · subst h6
    obtain ⟨D, v1, v3, hPB, hre⟩ := HPC.out.disks
    have c0 : wc.cell? ⟨p, 0, none⟩ = some (.pointer (some ⟨d, 0, none⟩)) := hPB.blk.cell 0
    have b1 : wc.cell? ⟨bx, 1, none⟩ = some (.int .i64 at_) := HBX.out.cell 1
    have b2 : wc.cell? ⟨bx, 2, none⟩ = some (.int .i64 keep) := HBX.out.cell 2
    have HPB := Lib.hid hPB; have HRE := Lib.hid hre
    clear hPB hre hwi
    go_upto_region 6 with fail
    refine Tail.wp_region_quiet_tail 8 (fun w' => ∃ n, w' = wc.drewN n) (by kernel_rfl) (by kernel_rfl) ⟨1, rfl⟩ ?_
    simp only [List.take_succ_cons, List.take_zero, List.drop_succ_cons, List.drop_zero]
    repeat (first
      | go_big_quiet_step (fail)
      | quiet_step (fail))
    refine wpQuiet_nil ?_
    intro _ hw'
    obtain ⟨dd, rfl⟩ := hw'
    go_wp2_with fail
    refine (dstop_calls d Ld D at_ keep (wc.drewN dd) (HPB.out.disk.drewN dd) hat).mono ?_
    rintro e w4 ⟨rfl, hD4, hc4⟩
    have hc4' : Chg (fun b => b = d) wc w4 := (Chg.of_below (below_drewN (Below.refl _ _) dd)).trans hc4
    have hblk4 := hc4'.blk HPB.out.blk HPB.out.ne.1
    have hbx4 := hc4'.blk HBX.out (fun e => HNE.out.2.1 e.symm)
    have HR4 := Lib.hid (HPB.out.rd.chg hc4' (fun e => HPB.out.ne.2.2.2.2.1 e.symm) (fun e => HPB.out.ne.2.2.2.2.2.1 e.symm))
    have HD4 := Lib.hid (And.intro hD4 hc4')
    clear c0 b0 b1 b2 hc4 hc4' hD4
    have c2 : w4.cell? ⟨p, 2, none⟩ = some (.pointer (some ⟨r, 0, none⟩)) := hblk4.cell 2
    have b1 : w4.cell? ⟨bx, 1, none⟩ = some (.int .i64 at_) := hbx4.cell 1
    have b2 : w4.cell? ⟨bx, 2, none⟩ = some (.int .i64 keep) := hbx4.cell 2
    clear hblk4 hbx4
    go_upto_region 7 with fail
    refine Tail.wp_region_quiet_tail 8 (fun w' => ∃ n, w' = w4.drewN n) (by kernel_rfl) (by kernel_rfl) ⟨1, rfl⟩ ?_
    simp only [List.take_succ_cons, List.take_zero, List.drop_succ_cons, List.drop_zero]
    repeat (first
      | go_big_quiet_step (fail)
      | quiet_step (fail))
    refine wpQuiet_nil ?_
    intro _ hw'
    obtain ⟨dd_1, rfl⟩ := hw'
    go_wp2_with fail
    refine (rstop_calls r B D at_ keep (w4.drewN dd_1) (HR4.out.drewN dd_1) hat).mono ?_
    rintro e w5 ⟨rfl, hR5, hc5⟩
    go_wp2
    go_ret
    exact ⟨rfl, (HRE.out w4 w5 _ HD4.out.2 HD4.out.1 ((Chg.of_below (below_drewN (Below.refl _ _) dd_1)).trans hc5) hR5 rfl rfl).more (by omega)⟩
  have k6 : (k == 6) = false := by simp [h6]
  by_cases h7 : k = 7
  · subst h7
    obtain ⟨D, v1, v3, hPB, _⟩ := HPC.out.disks
    have c0 : wc.cell? ⟨p, 0, none⟩ = some (.pointer (some ⟨d, 0, none⟩)) := hPB.blk.cell 0
    have HPB := Lib.hid hPB
    clear hPB hwi h6
    go_wp2_with fail
    refine (dstart_calls d Ld D wc HPB.out.disk).mono ?_
    rintro e w4 ⟨rfl, hD4, hc4⟩
    have hblk4 := hc4.blk HPB.out.blk HPB.out.ne.1
    have HR4 := Lib.hid (HPB.out.rd.chg hc4 (fun e => HPB.out.ne.2.2.2.2.1 e.symm) (fun e => HPB.out.ne.2.2.2.2.2.1 e.symm))
    have HD4 := Lib.hid (And.intro hD4 hc4)
    clear c0 b0 hc4 hD4
    have c2 : w4.cell? ⟨p, 2, none⟩ = some (.pointer (some ⟨r, 0, none⟩)) := hblk4.cell 2
    clear hblk4
    go_wp2_with fail
    refine (rstart_calls r B D w4 HR4.out).mono ?_
    rintro e w5 ⟨rfl, hR5, hc5⟩
    have HP5 := Lib.hid (HPB.out.redisk HD4.out.2 HD4.out.1 hc5 hR5 rfl rfl)
    clear hR5 hc5 c2
    go_wp2_with fail
    refine (popen_calls w0 w5 p d Ld r B m slots room _ _ _ HP5.out (by omega)).mono ?_
    rintro e w6 ⟨rfl, hP6⟩
    go_wp2
    go_ret
    exact ⟨rfl, hP6⟩
  have k7 : (k == 7) = false := by simp [h7]
  rcases HOR.out with ⟨D, hB⟩ | ⟨N, sb, lb, q, lv, ps, s, L, hS, hbn⟩
  · have c1 : wc.cell? ⟨p, 1, none⟩ = some (.pointer none) := hB.blk.cell 1
    have c3 : wc.cell? ⟨p, 3, none⟩ = some (.pointer none) := hB.blk.cell 3
    have HB0 := Lib.hid hB
    clear hB hwi
    go_wp2_with fail
    go_ret
    exact ⟨rfl, .inl ⟨D, HB0.out.more (by omega)⟩⟩
  have c1 : wc.cell? ⟨p, 1, none⟩ = some (.pointer (some ⟨sb, 0, none⟩)) := hS.base.blk.cell 1
  have c3 : wc.cell? ⟨p, 3, none⟩ = some (.pointer (some ⟨q, 0, none⟩)) := hS.base.blk.cell 3
  have H := Lib.hid hS; have HBN := Lib.hid hbn
  clear hS hbn
  go_wp2_with fail
  refine hwi.mono ?_
  rintro e _ ⟨rfl, rfl⟩
  clear hwi h6 h7 k6 k7
  by_cases h4 : k = 4
  · subst h4
    have hdr := H.out.dup.drop H.out.st.ok nm
    rw [H.out.room] at hdr
    have HDR := Lib.hid hdr
    clear hdr
    obtain ⟨er, her⟩ : ∃ z, z = (dropR s nm).1 := ⟨_, rfl⟩
    have qer : (er == er) = true := by simp
    go_upto_region 17 with fail
    refine Tail.wp_region_J 15 (fun k => k == 6 || k == 13) (fun k => if k = 6 then some (.int .i64 (dropR s nm).1) else if k = 13 then some (.int .i64 (dropR s nm).1) else none)
      (fun D z w' => PJ w0 wc N p d Ld sb lb r B q lv ps m slots room s L bx #[.int .i64 op, .int .i64 at_, .int .i64 keep, .string nm, .slice va nb vc] ((dropR s nm).2) ((rdropR room s.disk L s.dead nm).2.2.1) (D 6) (D 13) w')
      (by kernel_rfl) (by kernel_rfl) (fun k hk => by simp at hk; omega) (fun D z z' w' hz h => h)
      (PJ.start H.out HBX.out HBN.out) (fun z => ?_)
    simp only [List.take_succ_cons, List.take_zero, List.drop_succ_cons, List.drop_zero]
    refine Tail.J_ex (by rfl) (by rfl) ?_
    apply Exists.intro
    refine ⟨fun w => ?_, ?_⟩
    · go_simp <;> with_reducible rfl
    simp only [Act.put, List.setIfInBounds_toArray, List.set_cons_zero, List.set_cons_succ, Nat.reduceAdd, Nat.reduceEqDiff, reduceIte, Option.getD_some, Option.getD_none]
    refine Tail.J_ex (by rfl) (by rfl) ?_
    apply Exists.intro
    refine ⟨fun w => ?_, ?_⟩
    · go_simp <;> with_reducible rfl
    simp only [Act.put, List.setIfInBounds_toArray, List.set_cons_zero, List.set_cons_succ, Nat.reduceAdd, Nat.reduceEqDiff, reduceIte, Option.getD_some, Option.getD_none]
    refine Tail.J_ex (by rfl) (by rfl) ?_
    apply Exists.intro
    refine ⟨fun w => ?_, ?_⟩
    · go_simp <;> with_reducible rfl
    simp only [Act.put, List.setIfInBounds_toArray, List.set_cons_zero, List.set_cons_succ, Nat.reduceAdd, Nat.reduceEqDiff, reduceIte, Option.getD_some, Option.getD_none]
    refine Tail.J_at (by rfl) (by rfl) ?_
    apply Exists.intro
    refine ⟨fun D w' hd hp hJ => ?_, ?_⟩
    · have cc := hJ.p1
      clear hJ
      go_simp <;> with_reducible rfl
    simp only [Act.put, List.setIfInBounds_toArray, List.set_cons_zero, List.set_cons_succ, Nat.reduceAdd, Nat.reduceEqDiff, reduceIte, Option.getD_some, Option.getD_none]
    refine Tail.J_ex (by rfl) (by rfl) ?_
    apply Exists.intro
    refine ⟨fun w => ?_, ?_⟩
    · go_simp <;> with_reducible rfl
    simp only [Act.put, List.setIfInBounds_toArray, List.set_cons_zero, List.set_cons_succ, Nat.reduceAdd, Nat.reduceEqDiff, reduceIte, Option.getD_some, Option.getD_none]
    refine Tail.J_at (by rfl) (by rfl) ?_
    apply Exists.intro
    refine ⟨fun D w' hd hp hJ => ?_, ?_⟩
    · have cc := (show w'.cell? ⟨bx, 3, none⟩ = some (.string nm) from hJ.bc 3)
      clear hJ
      go_simp <;> with_reducible rfl
    simp only [Act.put, List.setIfInBounds_toArray, List.set_cons_zero, List.set_cons_succ, Nat.reduceAdd, Nat.reduceEqDiff, reduceIte, Option.getD_some, Option.getD_none]
    refine Tail.J_call (by rfl) (by rfl) ?_ ?_
    · apply Exists.intro
      apply Exists.intro
      refine ⟨fun w' => ?_, ?_⟩
      · go_simp <;> exact ⟨rfl, rfl⟩
      intro D z' w' hD hz hd hp hJ
      have h2 : D 13 = false := hp 13 (by kernel_rfl)
      rw [hD, h2] at hJ
      refine (sdrop_calls N sb lb d Ld s nm w' hJ.st (by have := hJ.few; omega)).mono ?_
      rintro e w'' ⟨rfl, hs, hc⟩
      refine ⟨_, rfl, fun c hc => by simp at hc; rw [← hc], ?_⟩
      simp [Tail.updB, h2]
      exact hJ.one hs hc
    simp only [Act.put, List.setIfInBounds_toArray, List.set_cons_zero, List.set_cons_succ, Nat.reduceAdd, Nat.reduceEqDiff, reduceIte, Option.getD_some, Option.getD_none]
    refine Tail.J_ex (by rfl) (by rfl) ?_
    apply Exists.intro
    refine ⟨fun w => ?_, ?_⟩
    · go_simp <;> with_reducible rfl
    simp only [Act.put, List.setIfInBounds_toArray, List.set_cons_zero, List.set_cons_succ, Nat.reduceAdd, Nat.reduceEqDiff, reduceIte, Option.getD_some, Option.getD_none]
    refine Tail.J_ex (by rfl) (by rfl) ?_
    apply Exists.intro
    refine ⟨fun w => ?_, ?_⟩
    · go_simp <;> with_reducible rfl
    simp only [Act.put, List.setIfInBounds_toArray, List.set_cons_zero, List.set_cons_succ, Nat.reduceAdd, Nat.reduceEqDiff, reduceIte, Option.getD_some, Option.getD_none]
    refine Tail.J_ex (by rfl) (by rfl) ?_
    apply Exists.intro
    refine ⟨fun w => ?_, ?_⟩
    · go_simp <;> with_reducible rfl
    simp only [Act.put, List.setIfInBounds_toArray, List.set_cons_zero, List.set_cons_succ, Nat.reduceAdd, Nat.reduceEqDiff, reduceIte, Option.getD_some, Option.getD_none]
    refine Tail.J_at (by rfl) (by rfl) ?_
    apply Exists.intro
    refine ⟨fun D w' hd hp hJ => ?_, ?_⟩
    · have cc := hJ.p3
      clear hJ
      go_simp <;> with_reducible rfl
    simp only [Act.put, List.setIfInBounds_toArray, List.set_cons_zero, List.set_cons_succ, Nat.reduceAdd, Nat.reduceEqDiff, reduceIte, Option.getD_some, Option.getD_none]
    refine Tail.J_ex (by rfl) (by rfl) ?_
    apply Exists.intro
    refine ⟨fun w => ?_, ?_⟩
    · go_simp <;> with_reducible rfl
    simp only [Act.put, List.setIfInBounds_toArray, List.set_cons_zero, List.set_cons_succ, Nat.reduceAdd, Nat.reduceEqDiff, reduceIte, Option.getD_some, Option.getD_none]
    refine Tail.J_at (by rfl) (by rfl) ?_
    apply Exists.intro
    refine ⟨fun D w' hd hp hJ => ?_, ?_⟩
    · have cc := (show w'.cell? ⟨bx, 3, none⟩ = some (.string nm) from hJ.bc 3)
      clear hJ
      go_simp <;> with_reducible rfl
    simp only [Act.put, List.setIfInBounds_toArray, List.set_cons_zero, List.set_cons_succ, Nat.reduceAdd, Nat.reduceEqDiff, reduceIte, Option.getD_some, Option.getD_none]
    refine Tail.J_call (by rfl) (by rfl) ?_ ?_
    · apply Exists.intro
      apply Exists.intro
      refine ⟨fun w' => ?_, ?_⟩
      · go_simp <;> exact ⟨rfl, rfl⟩
      intro D z' w' hD hz hd hp hJ
      have h1 : D 6 = true := hd 6 (by kernel_rfl)
      rw [hD, h1] at hJ
      refine (rdrop_calls w' N q r B lv ps s.disk slots room L s.dead hJ.rs nm hJ.old (by have := hJ.few; omega)).mono ?_
      rintro e w'' ⟨lv', ps', rfl, hs, hc⟩
      refine ⟨_, rfl, fun c hc => by simp at hc; rw [← hc, HDR.out.1], ?_⟩
      simp [Tail.updB, h1]
      exact hJ.two HDR.out.2.1 HDR.out.2.2.1 hs hc
    simp only [Act.put, List.setIfInBounds_toArray, List.set_cons_zero, List.set_cons_succ, Nat.reduceAdd, Nat.reduceEqDiff, reduceIte, Option.getD_some, Option.getD_none]
    refine Tail.J_ex (by rfl) (by rfl) ?_
    apply Exists.intro
    refine ⟨fun w => ?_, ?_⟩
    · go_simp <;> with_reducible rfl
    simp only [Act.put, List.setIfInBounds_toArray, List.set_cons_zero, List.set_cons_succ, Nat.reduceAdd, Nat.reduceEqDiff, reduceIte, Option.getD_some, Option.getD_none]
    intro w4 hJ
    obtain ⟨⟨lv', ps', hF⟩, _⟩ := PJ.fin hJ HDR.out.2.2.2.2 HDR.out.2.2.2.1
    have HF := Lib.hid hF
    clear hJ hF
    go_wp2
    go_ret
    exact ⟨rfl, .inr ⟨N, sb, lb, q, lv', ps', _, _, HF.out⟩⟩
  have k4 : (k == 4) = false := by simp [h4]
  by_cases h5 : k = 5
  · subst h5
    have HP1 := Lib.hid (show ∀ w', Below wc.heap.size wc w' → w'.cell? ⟨p, 1, none⟩ = some (.pointer (some ⟨sb, 0, none⟩)) from fun w' hb => (H.out.step hb).base.blk.cell 1)
    have HB3 := Lib.hid (show ∀ w', Below wc.heap.size wc w' → w'.cell? ⟨bx, 3, none⟩ = some (.string nm) from fun w' hb => (HBX.out.kept hb).cell 3)
    clear b0 c1 c3
    go_upto_region 19 with fail
    refine Tail.wp_region_J 11 (fun k => k == 6) (fun k => none)
      (fun D z w' => (D 6 = false → ∃ n, w' = World.drewN wc n) ∧ (D 6 = true → ∃ x_ y, z 6 = .tuple #[x_, y] ∧ (y = .bool (s.get nm).isSome ∧ Bys w' x_ ((s.get nm).getD []) ∧ Below wc.heap.size wc w')))
      (by kernel_rfl) (by kernel_rfl) (fun k hk => by simp at hk; omega) (fun D z z' w' hz h => ⟨h.1, fun d => by rw [← hz 6 d]; exact h.2 d⟩)
      (⟨fun _ => ⟨1, rfl⟩, (fun h => by cases h)⟩) (fun z => ?_)
    simp only [List.take_succ_cons, List.take_zero, List.drop_succ_cons, List.drop_zero]
    refine Tail.J_ex (by rfl) (by rfl) ?_
    apply Exists.intro
    refine ⟨fun w => ?_, ?_⟩
    · go_simp <;> with_reducible rfl
    simp only [Act.put, List.setIfInBounds_toArray, List.set_cons_zero, List.set_cons_succ, Nat.reduceAdd, Nat.reduceEqDiff, reduceIte, Option.getD_some, Option.getD_none]
    refine Tail.J_ex (by rfl) (by rfl) ?_
    apply Exists.intro
    refine ⟨fun w => ?_, ?_⟩
    · go_simp <;> with_reducible rfl
    simp only [Act.put, List.setIfInBounds_toArray, List.set_cons_zero, List.set_cons_succ, Nat.reduceAdd, Nat.reduceEqDiff, reduceIte, Option.getD_some, Option.getD_none]
    refine Tail.J_ex (by rfl) (by rfl) ?_
    apply Exists.intro
    refine ⟨fun w => ?_, ?_⟩
    · go_simp <;> with_reducible rfl
    simp only [Act.put, List.setIfInBounds_toArray, List.set_cons_zero, List.set_cons_succ, Nat.reduceAdd, Nat.reduceEqDiff, reduceIte, Option.getD_some, Option.getD_none]
    refine Tail.J_at (by rfl) (by rfl) ?_
    apply Exists.intro
    refine ⟨fun D w' hd hp hJ => ?_, ?_⟩
    · obtain ⟨dn, hdn⟩ := hJ.1 (hp 6 (by kernel_rfl))
      have cc := HP1.out w' (by rw [hdn]; exact below_drewN (Below.refl _ _) dn)
      clear hdn dn
      go_simp <;> with_reducible rfl
    simp only [Act.put, List.setIfInBounds_toArray, List.set_cons_zero, List.set_cons_succ, Nat.reduceAdd, Nat.reduceEqDiff, reduceIte, Option.getD_some, Option.getD_none]
    refine Tail.J_ex (by rfl) (by rfl) ?_
    apply Exists.intro
    refine ⟨fun w => ?_, ?_⟩
    · go_simp <;> with_reducible rfl
    simp only [Act.put, List.setIfInBounds_toArray, List.set_cons_zero, List.set_cons_succ, Nat.reduceAdd, Nat.reduceEqDiff, reduceIte, Option.getD_some, Option.getD_none]
    refine Tail.J_at (by rfl) (by rfl) ?_
    apply Exists.intro
    refine ⟨fun D w' hd hp hJ => ?_, ?_⟩
    · obtain ⟨dn, hdn⟩ := hJ.1 (hp 6 (by kernel_rfl))
      have cc := HB3.out w' (by rw [hdn]; exact below_drewN (Below.refl _ _) dn)
      clear hdn dn
      go_simp <;> with_reducible rfl
    simp only [Act.put, List.setIfInBounds_toArray, List.set_cons_zero, List.set_cons_succ, Nat.reduceAdd, Nat.reduceEqDiff, reduceIte, Option.getD_some, Option.getD_none]
    refine Tail.J_call (by rfl) (by rfl) ?_ ?_
    · apply Exists.intro
      apply Exists.intro
      refine ⟨fun w' => ?_, ?_⟩
      · go_simp <;> exact ⟨rfl, rfl⟩
      intro D z' w' hD hz hd hp hJ
      obtain ⟨dn, hdn⟩ := hJ.1 hD
      subst hdn
      refine (sget_two wc dn N sb lb d Ld s H.out.st nm).mono ?_
      rintro e w'' ⟨x', y, rfl, hxy⟩
      refine ⟨_, rfl, fun c hc => by simp at hc, fun h => ?_, fun _ => ?_⟩
      · simp [Tail.updB] at h
      · exact ⟨x', y, by simp [Tail.updV], hxy⟩
    simp only [Act.put, List.setIfInBounds_toArray, List.set_cons_zero, List.set_cons_succ, Nat.reduceAdd, Nat.reduceEqDiff, reduceIte, Option.getD_some, Option.getD_none]
    refine Tail.J_ex (by rfl) (by rfl) ?_
    apply Exists.intro
    refine ⟨fun w => ?_, ?_⟩
    · go_simp <;> with_reducible rfl
    simp only [Act.put, List.setIfInBounds_toArray, List.set_cons_zero, List.set_cons_succ, Nat.reduceAdd, Nat.reduceEqDiff, reduceIte, Option.getD_some, Option.getD_none]
    refine Tail.J_at (by rfl) (by rfl) ?_
    refine ⟨tupAt (z 6) 0, fun D w' hd hp hJ => ?_, ?_⟩
    · obtain ⟨x', y, e, _⟩ := hJ.2 (hd 6 (by kernel_rfl))
      rw [show tupAt (z 6) 0 = x' from by rw [e]; rfl]
      simp only [e]
      go_simp <;> with_reducible rfl
    simp only [Act.put, List.setIfInBounds_toArray, List.set_cons_zero, List.set_cons_succ, Nat.reduceAdd, Nat.reduceEqDiff, reduceIte, Option.getD_some, Option.getD_none]
    refine Tail.J_at (by rfl) (by rfl) ?_
    refine ⟨tupAt (z 6) 1, fun D w' hd hp hJ => ?_, ?_⟩
    · obtain ⟨x', y, e, _⟩ := hJ.2 (hd 6 (by kernel_rfl))
      rw [show tupAt (z 6) 1 = y from by rw [e]; rfl]
      simp only [e]
      go_simp <;> with_reducible rfl
    simp only [Act.put, List.setIfInBounds_toArray, List.set_cons_zero, List.set_cons_succ, Nat.reduceAdd, Nat.reduceEqDiff, reduceIte, Option.getD_some, Option.getD_none]
    refine Tail.J_ex (by rfl) (by rfl) ?_
    apply Exists.intro
    refine ⟨fun w => ?_, ?_⟩
    · go_simp <;> with_reducible rfl
    simp only [Act.put, List.setIfInBounds_toArray, List.set_cons_zero, List.set_cons_succ, Nat.reduceAdd, Nat.reduceEqDiff, reduceIte, Option.getD_some, Option.getD_none]
    intro w4 hJ
    obtain ⟨a4, e4, hz, hxy⟩ := hJ.2 rfl
    rw [show tupAt (z 6) 0 = a4 from by rw [hz]; rfl, show tupAt (z 6) 1 = e4 from by rw [hz]; rfl, hz]
    clear hJ hz z
    obtain ⟨rfl, hv4, hb4⟩ := hxy
    have h4 := H.out.step hb4
    have H4 := Lib.hid h4
    have HBX4 := Lib.hid (HBX.out.kept hb4)
    have HP3 := Lib.hid (show ∀ w', Below w4.heap.size w4 w' → w'.cell? ⟨p, 3, none⟩ = some (.pointer (some ⟨q, 0, none⟩)) from fun w' hb => (h4.step hb).base.blk.cell 3)
    have HB34 := Lib.hid (show ∀ w', Below w4.heap.size w4 w' → w'.cell? ⟨bx, 3, none⟩ = some (.string nm) from fun w' hb => (HBX4.out.kept hb).cell 3)
    have HVB4 := Lib.hid (HV.out.below (h4.base.bel))
    have HV4 := Lib.hid (And.intro hv4 hb4)
    obtain ⟨G, hG⟩ : ∃ z, z = (s.get nm).isSome := ⟨_, rfl⟩
    obtain ⟨gs, hgs⟩ : ∃ z, z = (s.get nm).getD [] := ⟨_, rfl⟩
    rw [← hG]
    rw [← hgs] at HV4
    rw [H.out.dup.get] at hG hgs
    have HG := Lib.hid (And.intro hG hgs)
    clear hv4 hb4 hG hgs HP1 HB3 h4
    go_upto_region 20 with fail
    refine Tail.wp_region_J 11 (fun k => k == 6) (fun k => none)
      (fun D z w' => (D 6 = false → ∃ n, w' = World.drewN w4 n) ∧ (D 6 = true → ∃ x_ y, z 6 = .tuple #[x_, y] ∧ (y = .bool (rgetR L s.dead nm).isSome ∧ Bys w' x_ ((rgetR L s.dead nm).getD []) ∧ Below w4.heap.size w4 w')))
      (by kernel_rfl) (by kernel_rfl) (fun k hk => by simp at hk; omega) (fun D z z' w' hz h => ⟨h.1, fun d => by rw [← hz 6 d]; exact h.2 d⟩)
      (⟨fun _ => ⟨1, rfl⟩, (fun h => by cases h)⟩) (fun z => ?_)
    simp only [List.take_succ_cons, List.take_zero, List.drop_succ_cons, List.drop_zero]
    refine Tail.J_ex (by rfl) (by rfl) ?_
    apply Exists.intro
    refine ⟨fun w => ?_, ?_⟩
    · go_simp <;> with_reducible rfl
    simp only [Act.put, List.setIfInBounds_toArray, List.set_cons_zero, List.set_cons_succ, Nat.reduceAdd, Nat.reduceEqDiff, reduceIte, Option.getD_some, Option.getD_none]
    refine Tail.J_ex (by rfl) (by rfl) ?_
    apply Exists.intro
    refine ⟨fun w => ?_, ?_⟩
    · go_simp <;> with_reducible rfl
    simp only [Act.put, List.setIfInBounds_toArray, List.set_cons_zero, List.set_cons_succ, Nat.reduceAdd, Nat.reduceEqDiff, reduceIte, Option.getD_some, Option.getD_none]
    refine Tail.J_ex (by rfl) (by rfl) ?_
    apply Exists.intro
    refine ⟨fun w => ?_, ?_⟩
    · go_simp <;> with_reducible rfl
    simp only [Act.put, List.setIfInBounds_toArray, List.set_cons_zero, List.set_cons_succ, Nat.reduceAdd, Nat.reduceEqDiff, reduceIte, Option.getD_some, Option.getD_none]
    refine Tail.J_at (by rfl) (by rfl) ?_
    apply Exists.intro
    refine ⟨fun D w' hd hp hJ => ?_, ?_⟩
    · obtain ⟨dn, hdn⟩ := hJ.1 (hp 6 (by kernel_rfl))
      have cc := HP3.out w' (by rw [hdn]; exact below_drewN (Below.refl _ _) dn)
      clear hdn dn
      go_simp <;> with_reducible rfl
    simp only [Act.put, List.setIfInBounds_toArray, List.set_cons_zero, List.set_cons_succ, Nat.reduceAdd, Nat.reduceEqDiff, reduceIte, Option.getD_some, Option.getD_none]
    refine Tail.J_ex (by rfl) (by rfl) ?_
    apply Exists.intro
    refine ⟨fun w => ?_, ?_⟩
    · go_simp <;> with_reducible rfl
    simp only [Act.put, List.setIfInBounds_toArray, List.set_cons_zero, List.set_cons_succ, Nat.reduceAdd, Nat.reduceEqDiff, reduceIte, Option.getD_some, Option.getD_none]
    refine Tail.J_at (by rfl) (by rfl) ?_
    apply Exists.intro
    refine ⟨fun D w' hd hp hJ => ?_, ?_⟩
    · obtain ⟨dn, hdn⟩ := hJ.1 (hp 6 (by kernel_rfl))
      have cc := HB34.out w' (by rw [hdn]; exact below_drewN (Below.refl _ _) dn)
      clear hdn dn
      go_simp <;> with_reducible rfl
    simp only [Act.put, List.setIfInBounds_toArray, List.set_cons_zero, List.set_cons_succ, Nat.reduceAdd, Nat.reduceEqDiff, reduceIte, Option.getD_some, Option.getD_none]
    refine Tail.J_call (by rfl) (by rfl) ?_ ?_
    · apply Exists.intro
      apply Exists.intro
      refine ⟨fun w' => ?_, ?_⟩
      · go_simp <;> exact ⟨rfl, rfl⟩
      intro D z' w' hD hz hd hp hJ
      obtain ⟨dn, hdn⟩ := hJ.1 hD
      subst hdn
      refine (rget_two w4 dn N q r B lv ps s.disk slots room L s.dead H4.out.rs nm).mono ?_
      rintro e w'' ⟨x', y, rfl, hxy⟩
      refine ⟨_, rfl, fun c hc => by simp at hc, fun h => ?_, fun _ => ?_⟩
      · simp [Tail.updB] at h
      · exact ⟨x', y, by simp [Tail.updV], hxy⟩
    simp only [Act.put, List.setIfInBounds_toArray, List.set_cons_zero, List.set_cons_succ, Nat.reduceAdd, Nat.reduceEqDiff, reduceIte, Option.getD_some, Option.getD_none]
    refine Tail.J_ex (by rfl) (by rfl) ?_
    apply Exists.intro
    refine ⟨fun w => ?_, ?_⟩
    · go_simp <;> with_reducible rfl
    simp only [Act.put, List.setIfInBounds_toArray, List.set_cons_zero, List.set_cons_succ, Nat.reduceAdd, Nat.reduceEqDiff, reduceIte, Option.getD_some, Option.getD_none]
    refine Tail.J_at (by rfl) (by rfl) ?_
    refine ⟨tupAt (z 6) 0, fun D w' hd hp hJ => ?_, ?_⟩
    · obtain ⟨x', y, e, _⟩ := hJ.2 (hd 6 (by kernel_rfl))
      rw [show tupAt (z 6) 0 = x' from by rw [e]; rfl]
      simp only [e]
      go_simp <;> with_reducible rfl
    simp only [Act.put, List.setIfInBounds_toArray, List.set_cons_zero, List.set_cons_succ, Nat.reduceAdd, Nat.reduceEqDiff, reduceIte, Option.getD_some, Option.getD_none]
    refine Tail.J_at (by rfl) (by rfl) ?_
    refine ⟨tupAt (z 6) 1, fun D w' hd hp hJ => ?_, ?_⟩
    · obtain ⟨x', y, e, _⟩ := hJ.2 (hd 6 (by kernel_rfl))
      rw [show tupAt (z 6) 1 = y from by rw [e]; rfl]
      simp only [e]
      go_simp <;> with_reducible rfl
    simp only [Act.put, List.setIfInBounds_toArray, List.set_cons_zero, List.set_cons_succ, Nat.reduceAdd, Nat.reduceEqDiff, reduceIte, Option.getD_some, Option.getD_none]
    refine Tail.J_ex (by rfl) (by rfl) ?_
    apply Exists.intro
    refine ⟨fun w => ?_, ?_⟩
    · go_simp <;> with_reducible rfl
    simp only [Act.put, List.setIfInBounds_toArray, List.set_cons_zero, List.set_cons_succ, Nat.reduceAdd, Nat.reduceEqDiff, reduceIte, Option.getD_some, Option.getD_none]
    intro w5 hJ
    obtain ⟨a5, e5, hz, hxy⟩ := hJ.2 rfl
    rw [show tupAt (z 6) 0 = a5 from by rw [hz]; rfl, show tupAt (z 6) 1 = e5 from by rw [hz]; rfl, hz]
    clear hJ hz z
    rw [← HG.out.1, ← HG.out.2] at hxy
    obtain ⟨rfl, hv5, hb5⟩ := hxy
    have HV5 := Lib.hid (And.intro hv5 hb5)
    have H5 := Lib.hid (H4.out.step hb5)
    have HBX5 := Lib.hid (HBX4.out.kept hb5)
    have HVB5 := Lib.hid (HVB4.out.below hb5)
    clear hv5 hb5 HP3 HB34
    have qG : (G == G) = true := by cases G <;> rfl
    obtain ⟨ft, hft⟩ : ∃ z, z = fitsB room nm bs' := ⟨_, rfl⟩
    have HFT := Lib.hid hft.symm
    have qF : (ft == ft) = true := by cases ft <;> rfl
    clear hft
    go_upto_region 21 with fail
    refine Tail.wp_region_J 29 (fun k => k == 6 || k == 17 || k == 26) (fun k => if k = 6 then some (.bool true) else if k = 17 then some (.bool ft) else if k = 26 then some (.bool ft) else none)
      (fun D z w' => Below w5.heap.size w5 w')
      (by kernel_rfl) (by kernel_rfl) (fun k hk => by simp at hk; omega) (fun D z z' w' hz h => h)
      ((Below.refl _ _).drew) (fun z => ?_)
    simp only [List.take_succ_cons, List.take_zero, List.drop_succ_cons, List.drop_zero]
    refine Tail.J_ex (by rfl) (by rfl) ?_
    apply Exists.intro
    refine ⟨fun w => ?_, ?_⟩
    · go_simp <;> with_reducible rfl
    simp only [Act.put, List.setIfInBounds_toArray, List.set_cons_zero, List.set_cons_succ, Nat.reduceAdd, Nat.reduceEqDiff, reduceIte, Option.getD_some, Option.getD_none]
    refine Tail.J_ex (by rfl) (by rfl) ?_
    apply Exists.intro
    refine ⟨fun w => ?_, ?_⟩
    · go_simp <;> with_reducible rfl
    simp only [Act.put, List.setIfInBounds_toArray, List.set_cons_zero, List.set_cons_succ, Nat.reduceAdd, Nat.reduceEqDiff, reduceIte, Option.getD_some, Option.getD_none]
    refine Tail.J_ex (by rfl) (by rfl) ?_
    apply Exists.intro
    refine ⟨fun w => ?_, ?_⟩
    · go_simp <;> with_reducible rfl
    simp only [Act.put, List.setIfInBounds_toArray, List.set_cons_zero, List.set_cons_succ, Nat.reduceAdd, Nat.reduceEqDiff, reduceIte, Option.getD_some, Option.getD_none]
    refine Tail.J_ex (by rfl) (by rfl) ?_
    apply Exists.intro
    refine ⟨fun w => ?_, ?_⟩
    · go_simp <;> with_reducible rfl
    simp only [Act.put, List.setIfInBounds_toArray, List.set_cons_zero, List.set_cons_succ, Nat.reduceAdd, Nat.reduceEqDiff, reduceIte, Option.getD_some, Option.getD_none]
    refine Tail.J_ex (by rfl) (by rfl) ?_
    apply Exists.intro
    refine ⟨fun w => ?_, ?_⟩
    · go_simp <;> with_reducible rfl
    simp only [Act.put, List.setIfInBounds_toArray, List.set_cons_zero, List.set_cons_succ, Nat.reduceAdd, Nat.reduceEqDiff, reduceIte, Option.getD_some, Option.getD_none]
    refine Tail.J_ex (by rfl) (by rfl) ?_
    apply Exists.intro
    refine ⟨fun w => ?_, ?_⟩
    · go_simp <;> with_reducible rfl
    simp only [Act.put, List.setIfInBounds_toArray, List.set_cons_zero, List.set_cons_succ, Nat.reduceAdd, Nat.reduceEqDiff, reduceIte, Option.getD_some, Option.getD_none]
    refine Tail.J_call (by rfl) (by rfl) ?_ ?_
    · apply Exists.intro
      apply Exists.intro
      refine ⟨fun w' => ?_, ?_⟩
      · go_simp <;> exact ⟨rfl, rfl⟩
      intro D z' w' hD hz hd hp hJ
      refine (same8_yes a4 a5 gs gs w' ((HV4.out.1.below HV5.out.2).below hJ) (HV5.out.1.below hJ) rfl).mono ?_
      rintro e w'' ⟨rfl, dn, rfl⟩
      exact ⟨_, rfl, fun c hc => by simp at hc; rw [← hc], below_drewN hJ dn⟩
    simp only [Act.put, List.setIfInBounds_toArray, List.set_cons_zero, List.set_cons_succ, Nat.reduceAdd, Nat.reduceEqDiff, reduceIte, Option.getD_some, Option.getD_none]
    refine Tail.J_ex (by rfl) (by rfl) ?_
    apply Exists.intro
    refine ⟨fun w => ?_, ?_⟩
    · go_simp <;> with_reducible rfl
    simp only [Act.put, List.setIfInBounds_toArray, List.set_cons_zero, List.set_cons_succ, Nat.reduceAdd, Nat.reduceEqDiff, reduceIte, Option.getD_some, Option.getD_none]
    refine Tail.J_ex (by rfl) (by rfl) ?_
    apply Exists.intro
    refine ⟨fun w => ?_, ?_⟩
    · go_simp <;> with_reducible rfl
    simp only [Act.put, List.setIfInBounds_toArray, List.set_cons_zero, List.set_cons_succ, Nat.reduceAdd, Nat.reduceEqDiff, reduceIte, Option.getD_some, Option.getD_none]
    refine Tail.J_ex (by rfl) (by rfl) ?_
    apply Exists.intro
    refine ⟨fun w => ?_, ?_⟩
    · go_simp <;> with_reducible rfl
    simp only [Act.put, List.setIfInBounds_toArray, List.set_cons_zero, List.set_cons_succ, Nat.reduceAdd, Nat.reduceEqDiff, reduceIte, Option.getD_some, Option.getD_none]
    refine Tail.J_ex (by rfl) (by rfl) ?_
    apply Exists.intro
    refine ⟨fun w => ?_, ?_⟩
    · go_simp <;> with_reducible rfl
    simp only [Act.put, List.setIfInBounds_toArray, List.set_cons_zero, List.set_cons_succ, Nat.reduceAdd, Nat.reduceEqDiff, reduceIte, Option.getD_some, Option.getD_none]
    refine Tail.J_ex (by rfl) (by rfl) ?_
    apply Exists.intro
    refine ⟨fun w => ?_, ?_⟩
    · go_simp <;> with_reducible rfl
    simp only [Act.put, List.setIfInBounds_toArray, List.set_cons_zero, List.set_cons_succ, Nat.reduceAdd, Nat.reduceEqDiff, reduceIte, Option.getD_some, Option.getD_none]
    refine Tail.J_at (by rfl) (by rfl) ?_
    apply Exists.intro
    refine ⟨fun D w' hd hp hJ => ?_, ?_⟩
    · have cc := (show w'.cell? ⟨p, 1, none⟩ = some (.pointer (some ⟨sb, 0, none⟩)) from (H5.out.step hJ).base.blk.cell 1)
      clear hJ
      go_simp <;> with_reducible rfl
    simp only [Act.put, List.setIfInBounds_toArray, List.set_cons_zero, List.set_cons_succ, Nat.reduceAdd, Nat.reduceEqDiff, reduceIte, Option.getD_some, Option.getD_none]
    refine Tail.J_ex (by rfl) (by rfl) ?_
    apply Exists.intro
    refine ⟨fun w => ?_, ?_⟩
    · go_simp <;> with_reducible rfl
    simp only [Act.put, List.setIfInBounds_toArray, List.set_cons_zero, List.set_cons_succ, Nat.reduceAdd, Nat.reduceEqDiff, reduceIte, Option.getD_some, Option.getD_none]
    refine Tail.J_at (by rfl) (by rfl) ?_
    apply Exists.intro
    refine ⟨fun D w' hd hp hJ => ?_, ?_⟩
    · have cc := (show w'.cell? ⟨bx, 3, none⟩ = some (.string nm) from (HBX5.out.kept hJ).cell 3)
      clear hJ
      go_simp <;> with_reducible rfl
    simp only [Act.put, List.setIfInBounds_toArray, List.set_cons_zero, List.set_cons_succ, Nat.reduceAdd, Nat.reduceEqDiff, reduceIte, Option.getD_some, Option.getD_none]
    refine Tail.J_ex (by rfl) (by rfl) ?_
    apply Exists.intro
    refine ⟨fun w => ?_, ?_⟩
    · go_simp <;> with_reducible rfl
    simp only [Act.put, List.setIfInBounds_toArray, List.set_cons_zero, List.set_cons_succ, Nat.reduceAdd, Nat.reduceEqDiff, reduceIte, Option.getD_some, Option.getD_none]
    refine Tail.J_at (by rfl) (by rfl) ?_
    apply Exists.intro
    refine ⟨fun D w' hd hp hJ => ?_, ?_⟩
    · have cc := (show w'.cell? ⟨bx, 4, none⟩ = some (.slice va nb vc) from (HBX5.out.kept hJ).cell 4)
      clear hJ
      go_simp <;> with_reducible rfl
    simp only [Act.put, List.setIfInBounds_toArray, List.set_cons_zero, List.set_cons_succ, Nat.reduceAdd, Nat.reduceEqDiff, reduceIte, Option.getD_some, Option.getD_none]
    refine Tail.J_call (by rfl) (by rfl) ?_ ?_
    · apply Exists.intro
      apply Exists.intro
      refine ⟨fun w' => ?_, ?_⟩
      · go_simp <;> exact ⟨rfl, rfl⟩
      intro D z' w' hD hz hd hp hJ
      refine (fits_calls N sb lb d Ld s nm _ bs' w' (H5.out.step hJ).st (HVB5.out.below hJ) (by have := hnm; omega)).mono ?_
      rintro e w'' ⟨rfl, hb⟩
      exact ⟨_, rfl, fun c hc => by simp at hc; rw [← hc, H.out.room, HFT.out], hJ.trans (hb.mono hJ.size)⟩
    simp only [Act.put, List.setIfInBounds_toArray, List.set_cons_zero, List.set_cons_succ, Nat.reduceAdd, Nat.reduceEqDiff, reduceIte, Option.getD_some, Option.getD_none]
    refine Tail.J_ex (by rfl) (by rfl) ?_
    apply Exists.intro
    refine ⟨fun w => ?_, ?_⟩
    · go_simp <;> with_reducible rfl
    simp only [Act.put, List.setIfInBounds_toArray, List.set_cons_zero, List.set_cons_succ, Nat.reduceAdd, Nat.reduceEqDiff, reduceIte, Option.getD_some, Option.getD_none]
    refine Tail.J_ex (by rfl) (by rfl) ?_
    apply Exists.intro
    refine ⟨fun w => ?_, ?_⟩
    · go_simp <;> with_reducible rfl
    simp only [Act.put, List.setIfInBounds_toArray, List.set_cons_zero, List.set_cons_succ, Nat.reduceAdd, Nat.reduceEqDiff, reduceIte, Option.getD_some, Option.getD_none]
    refine Tail.J_ex (by rfl) (by rfl) ?_
    apply Exists.intro
    refine ⟨fun w => ?_, ?_⟩
    · go_simp <;> with_reducible rfl
    simp only [Act.put, List.setIfInBounds_toArray, List.set_cons_zero, List.set_cons_succ, Nat.reduceAdd, Nat.reduceEqDiff, reduceIte, Option.getD_some, Option.getD_none]
    refine Tail.J_at (by rfl) (by rfl) ?_
    apply Exists.intro
    refine ⟨fun D w' hd hp hJ => ?_, ?_⟩
    · have cc := (show w'.cell? ⟨p, 3, none⟩ = some (.pointer (some ⟨q, 0, none⟩)) from (H5.out.step hJ).base.blk.cell 3)
      clear hJ
      go_simp <;> with_reducible rfl
    simp only [Act.put, List.setIfInBounds_toArray, List.set_cons_zero, List.set_cons_succ, Nat.reduceAdd, Nat.reduceEqDiff, reduceIte, Option.getD_some, Option.getD_none]
    refine Tail.J_ex (by rfl) (by rfl) ?_
    apply Exists.intro
    refine ⟨fun w => ?_, ?_⟩
    · go_simp <;> with_reducible rfl
    simp only [Act.put, List.setIfInBounds_toArray, List.set_cons_zero, List.set_cons_succ, Nat.reduceAdd, Nat.reduceEqDiff, reduceIte, Option.getD_some, Option.getD_none]
    refine Tail.J_at (by rfl) (by rfl) ?_
    apply Exists.intro
    refine ⟨fun D w' hd hp hJ => ?_, ?_⟩
    · have cc := (show w'.cell? ⟨bx, 3, none⟩ = some (.string nm) from (HBX5.out.kept hJ).cell 3)
      clear hJ
      go_simp <;> with_reducible rfl
    simp only [Act.put, List.setIfInBounds_toArray, List.set_cons_zero, List.set_cons_succ, Nat.reduceAdd, Nat.reduceEqDiff, reduceIte, Option.getD_some, Option.getD_none]
    refine Tail.J_ex (by rfl) (by rfl) ?_
    apply Exists.intro
    refine ⟨fun w => ?_, ?_⟩
    · go_simp <;> with_reducible rfl
    simp only [Act.put, List.setIfInBounds_toArray, List.set_cons_zero, List.set_cons_succ, Nat.reduceAdd, Nat.reduceEqDiff, reduceIte, Option.getD_some, Option.getD_none]
    refine Tail.J_at (by rfl) (by rfl) ?_
    apply Exists.intro
    refine ⟨fun D w' hd hp hJ => ?_, ?_⟩
    · have cc := (show w'.cell? ⟨bx, 4, none⟩ = some (.slice va nb vc) from (HBX5.out.kept hJ).cell 4)
      clear hJ
      go_simp <;> with_reducible rfl
    simp only [Act.put, List.setIfInBounds_toArray, List.set_cons_zero, List.set_cons_succ, Nat.reduceAdd, Nat.reduceEqDiff, reduceIte, Option.getD_some, Option.getD_none]
    refine Tail.J_call (by rfl) (by rfl) ?_ ?_
    · apply Exists.intro
      apply Exists.intro
      refine ⟨fun w' => ?_, ?_⟩
      · go_simp <;> exact ⟨rfl, rfl⟩
      intro D z' w' hD hz hd hp hJ
      refine (rfits_calls w' N q r B lv ps s.disk slots room L s.dead (H5.out.step hJ).rs nm _ bs' (HVB5.out.below hJ) (by have := hnm; omega)).mono ?_
      rintro e w'' ⟨rfl, hb⟩
      exact ⟨_, rfl, fun c hc => by simp at hc; rw [← hc, HFT.out], hJ.trans (hb.mono hJ.size)⟩
    simp only [Act.put, List.setIfInBounds_toArray, List.set_cons_zero, List.set_cons_succ, Nat.reduceAdd, Nat.reduceEqDiff, reduceIte, Option.getD_some, Option.getD_none]
    refine Tail.J_ex (by rfl) (by rfl) ?_
    apply Exists.intro
    refine ⟨fun w => ?_, ?_⟩
    · go_simp <;> with_reducible rfl
    simp only [Act.put, List.setIfInBounds_toArray, List.set_cons_zero, List.set_cons_succ, Nat.reduceAdd, Nat.reduceEqDiff, reduceIte, Option.getD_some, Option.getD_none]
    refine Tail.J_ex (by rfl) (by rfl) ?_
    apply Exists.intro
    refine ⟨fun w => ?_, ?_⟩
    · go_simp <;> with_reducible rfl
    simp only [Act.put, List.setIfInBounds_toArray, List.set_cons_zero, List.set_cons_succ, Nat.reduceAdd, Nat.reduceEqDiff, reduceIte, Option.getD_some, Option.getD_none]
    intro w6 hb6
    clear z
    have HF := Lib.hid (H5.out.step hb6)
    clear hb6
    go_wp2
    go_ret
    exact ⟨rfl, Par.more (.inr ⟨N, sb, lb, q, lv, ps, s, L, HF.out⟩) (by omega)⟩
  have k5 : (k == 5) = false := by simp [h5]
  clear h4 h5
  have b4 : wc.cell? ⟨bx, 4, none⟩ = some (.slice va nb vc) := HBX.out.cell 4
  have hvc := HV.out.below H.out.base.bel
  have hbl : bs'.length ≤ 150 := by have := HNB.out; omega
  have HVC := Lib.hid hvc
  clear hvc b0 c1 c3
  go_wp2_with fail
  refine (copyF_calls _ bs' wc HVC.out (by omega)).mono ?_
  rintro e w4 ⟨xv, rfl, hx, hb4⟩
  have hb4s := hb4.size
  obtain ⟨N1, hN1⟩ : ∃ N1 : Nat → Prop, N1 = fun b => N b ∨ (wc.heap.size ≤ b ∧ b < w4.heap.size) := ⟨_, rfl⟩
  have hn1 : ∀ b, N1 b ↔ N b ∨ (wc.heap.size ≤ b ∧ b < w4.heap.size) := fun b => by rw [hN1]
  have h4 : PairS w0 w4 N1 p d Ld sb lb r B q lv ps m slots room s L := H.out.grow hb4 (fun b hb => ((hn1 b).1 hb).elim .inl (fun h => .inr h.1)) (fun b hb => (hn1 b).2 (.inl hb)) (fun b hb => ((hn1 b).1 hb).elim (fun h => Nat.lt_of_lt_of_le (H.out.st.old b h) hb4s) (fun h => h.2))
  have hown := hx.own.lt
  have hfl : ∀ b, Foot sb lb d Ld b → b < wc.heap.size := H.out.st.lt
  have hfr : ∀ b, FootR q r B b → b < wc.heap.size := fun b hb => by
    rcases hb with rfl | rfl | rfl
    · exact H.out.rs.blk.lt
    · exact H.out.rs.disk.lt.1
    · exact H.out.rs.disk.lt.2
  have HXV := Lib.hid (show OwnF 5 w4 wc.heap.size xv bs' ∧ (∀ g, xv.ownBlock = some g → ¬ Foot sb lb d Ld g) ∧ (∀ g, xv.ownBlock = some g → ¬ FootR q r B g) ∧ (∀ g, xv.ownBlock = some g → wc.heap.size ≤ g ∧ g < w4.heap.size) from
    ⟨hx, fun g hg hf => by have := (hown g hg).1; have := hfl g hf; omega, fun g hg hf => by have := (hown g hg).1; have := hfr g hf; omega, fun g hg => hown g hg⟩)
  have HVZ := Lib.hid (show DataZ w4 N1 (.slice va nb vc) bs' from by
    refine ⟨HVC.out.below hb4, va, vc, by rw [HNB.out.2], fun h0 b hb => ?_⟩
    obtain ⟨a', c', e, _, _, hcell⟩ := HV.out
    obtain ⟨gb, go, ea, hcc⟩ := hcell h0
    injection e with e1 e2 e3
    have hlt : gb < w0.heap.size := by
      have h1 := hcc 0 (bs'[0]'h0) (List.getElem?_eq_getElem h0)
      exact World.block_lt_of_cell? w0 _ h1
    rw [hb, ea] at e1
    injection e1 with e1
    subst e1
    exact ⟨Nat.lt_of_lt_of_le hlt h4.base.bel.size, fun hn => by have := h4.nfar _ hn; have : w0.heap.size ≤ gb := this; omega⟩)
  have hpr := H.out.dup.put H.out.st.ok (by rw [H.out.room]; have := H.out.base.r1.2; omega) nm bs'
  rw [H.out.room] at hpr
  have HPR := Lib.hid hpr
  have HLN := Lib.hid (show ∀ sl, rfreeGo L slots slots = some sl → (putG RRec.name L ⟨nm, rnum L nm, bs', sl⟩).length ≤ slots from fun sl hsl => H.out.dup.put_len nm bs' sl hsl)
  have HNU := Lib.hid (show rnum L nm < 1000000000000 from by have := rnum_le H.out.dup.num nm; omega)
  have HBL := Lib.hid (show bs'.length ≤ 1000000 from by omega)
  have HSS := Lib.hid (And.intro hb4s hn1)
  have H4 := Lib.hid h4
  have HBX4 := Lib.hid (HBX.out.kept hb4)
  have hms : p < wc.heap.size ∧ d < wc.heap.size ∧ Ld < wc.heap.size ∧ r < wc.heap.size ∧ B < wc.heap.size ∧ w0.heap.size ≤ wc.heap.size := ⟨H.out.base.lt.1, H.out.base.lt.2.1, H.out.base.lt.2.2.1, H.out.base.lt.2.2.2.1, H.out.base.lt.2.2.2.2, H.out.base.bel.size⟩
  have HMS := Lib.hid (And.intro hms (And.intro hfl hfr))
  clear hx hb4 hb4s hN1 hn1 h4 hown hfl hfr hpr hms b4
  obtain ⟨er, her⟩ : ∃ z, z = (putR s nm bs').1 := ⟨_, rfl⟩
  have qer : (er == er) = true := by simp
  go_upto_region 23 with fail
  refine Tail.wp_region_J 18 (fun k => k == 7 || k == 16) (fun k => if k = 7 then some (.int .i64 (putR s nm bs').1) else if k = 16 then some (.int .i64 (putR s nm bs').1) else none)
    (fun D z w' => PJ w0 w4 N1 p d Ld sb lb r B q lv ps m slots room s L bx #[.int .i64 op, .int .i64 at_, .int .i64 keep, .string nm, .slice va nb vc] ((putR s nm bs').2) ((rputR slots room s.disk L s.dead nm bs').2.2.1) (D 7) (D 16) w')
    (by kernel_rfl) (by kernel_rfl) (fun k hk => by simp at hk; omega) (fun D z z' w' hz h => h)
    (PJ.start H4.out HBX4.out HBN.out) (fun z => ?_)
  simp only [List.take_succ_cons, List.take_zero, List.drop_succ_cons, List.drop_zero]
  refine Tail.J_ex (by rfl) (by rfl) ?_
  apply Exists.intro
  refine ⟨fun w => ?_, ?_⟩
  · go_simp <;> with_reducible rfl
  simp only [Act.put, List.setIfInBounds_toArray, List.set_cons_zero, List.set_cons_succ, Nat.reduceAdd, Nat.reduceEqDiff, reduceIte, Option.getD_some, Option.getD_none]
  refine Tail.J_ex (by rfl) (by rfl) ?_
  apply Exists.intro
  refine ⟨fun w => ?_, ?_⟩
  · go_simp <;> with_reducible rfl
  simp only [Act.put, List.setIfInBounds_toArray, List.set_cons_zero, List.set_cons_succ, Nat.reduceAdd, Nat.reduceEqDiff, reduceIte, Option.getD_some, Option.getD_none]
  refine Tail.J_ex (by rfl) (by rfl) ?_
  apply Exists.intro
  refine ⟨fun w => ?_, ?_⟩
  · go_simp <;> with_reducible rfl
  simp only [Act.put, List.setIfInBounds_toArray, List.set_cons_zero, List.set_cons_succ, Nat.reduceAdd, Nat.reduceEqDiff, reduceIte, Option.getD_some, Option.getD_none]
  refine Tail.J_at (by rfl) (by rfl) ?_
  apply Exists.intro
  refine ⟨fun D w' hd hp hJ => ?_, ?_⟩
  · have cc := hJ.p1
    clear hJ
    go_simp <;> with_reducible rfl
  simp only [Act.put, List.setIfInBounds_toArray, List.set_cons_zero, List.set_cons_succ, Nat.reduceAdd, Nat.reduceEqDiff, reduceIte, Option.getD_some, Option.getD_none]
  refine Tail.J_ex (by rfl) (by rfl) ?_
  apply Exists.intro
  refine ⟨fun w => ?_, ?_⟩
  · go_simp <;> with_reducible rfl
  simp only [Act.put, List.setIfInBounds_toArray, List.set_cons_zero, List.set_cons_succ, Nat.reduceAdd, Nat.reduceEqDiff, reduceIte, Option.getD_some, Option.getD_none]
  refine Tail.J_at (by rfl) (by rfl) ?_
  apply Exists.intro
  refine ⟨fun D w' hd hp hJ => ?_, ?_⟩
  · have cc := (show w'.cell? ⟨bx, 3, none⟩ = some (.string nm) from hJ.bc 3)
    clear hJ
    go_simp <;> with_reducible rfl
  simp only [Act.put, List.setIfInBounds_toArray, List.set_cons_zero, List.set_cons_succ, Nat.reduceAdd, Nat.reduceEqDiff, reduceIte, Option.getD_some, Option.getD_none]
  refine Tail.J_ex (by rfl) (by rfl) ?_
  apply Exists.intro
  refine ⟨fun w => ?_, ?_⟩
  · go_simp <;> with_reducible rfl
  simp only [Act.put, List.setIfInBounds_toArray, List.set_cons_zero, List.set_cons_succ, Nat.reduceAdd, Nat.reduceEqDiff, reduceIte, Option.getD_some, Option.getD_none]
  refine Tail.J_call (by rfl) (by rfl) ?_ ?_
  · apply Exists.intro
    apply Exists.intro
    refine ⟨fun w' => ?_, ?_⟩
    · go_simp <;> exact ⟨rfl, rfl⟩
    intro D z' w' hD hz hd hp hJ
    have h2 : D 16 = false := hp 16 (by kernel_rfl)
    rw [hD, h2] at hJ
    refine (sput_calls N1 sb lb d Ld s nm xv bs' w' hJ.st (hJ.own HXV.out.1).bys (by omega) HBL.out (fun w2 hc => ((hJ.own HXV.out.1).chg hc HXV.out.2.1).bys) (by have := hJ.few; omega)).mono ?_
    rintro e w'' ⟨rfl, hs, hc⟩
    refine ⟨_, rfl, fun c hc => by simp at hc; rw [← hc], ?_⟩
    simp [Tail.updB, h2]
    exact hJ.one hs hc
  simp only [Act.put, List.setIfInBounds_toArray, List.set_cons_zero, List.set_cons_succ, Nat.reduceAdd, Nat.reduceEqDiff, reduceIte, Option.getD_some, Option.getD_none]
  refine Tail.J_ex (by rfl) (by rfl) ?_
  apply Exists.intro
  refine ⟨fun w => ?_, ?_⟩
  · go_simp <;> with_reducible rfl
  simp only [Act.put, List.setIfInBounds_toArray, List.set_cons_zero, List.set_cons_succ, Nat.reduceAdd, Nat.reduceEqDiff, reduceIte, Option.getD_some, Option.getD_none]
  refine Tail.J_ex (by rfl) (by rfl) ?_
  apply Exists.intro
  refine ⟨fun w => ?_, ?_⟩
  · go_simp <;> with_reducible rfl
  simp only [Act.put, List.setIfInBounds_toArray, List.set_cons_zero, List.set_cons_succ, Nat.reduceAdd, Nat.reduceEqDiff, reduceIte, Option.getD_some, Option.getD_none]
  refine Tail.J_ex (by rfl) (by rfl) ?_
  apply Exists.intro
  refine ⟨fun w => ?_, ?_⟩
  · go_simp <;> with_reducible rfl
  simp only [Act.put, List.setIfInBounds_toArray, List.set_cons_zero, List.set_cons_succ, Nat.reduceAdd, Nat.reduceEqDiff, reduceIte, Option.getD_some, Option.getD_none]
  refine Tail.J_at (by rfl) (by rfl) ?_
  apply Exists.intro
  refine ⟨fun D w' hd hp hJ => ?_, ?_⟩
  · have cc := hJ.p3
    clear hJ
    go_simp <;> with_reducible rfl
  simp only [Act.put, List.setIfInBounds_toArray, List.set_cons_zero, List.set_cons_succ, Nat.reduceAdd, Nat.reduceEqDiff, reduceIte, Option.getD_some, Option.getD_none]
  refine Tail.J_ex (by rfl) (by rfl) ?_
  apply Exists.intro
  refine ⟨fun w => ?_, ?_⟩
  · go_simp <;> with_reducible rfl
  simp only [Act.put, List.setIfInBounds_toArray, List.set_cons_zero, List.set_cons_succ, Nat.reduceAdd, Nat.reduceEqDiff, reduceIte, Option.getD_some, Option.getD_none]
  refine Tail.J_at (by rfl) (by rfl) ?_
  apply Exists.intro
  refine ⟨fun D w' hd hp hJ => ?_, ?_⟩
  · have cc := (show w'.cell? ⟨bx, 3, none⟩ = some (.string nm) from hJ.bc 3)
    clear hJ
    go_simp <;> with_reducible rfl
  simp only [Act.put, List.setIfInBounds_toArray, List.set_cons_zero, List.set_cons_succ, Nat.reduceAdd, Nat.reduceEqDiff, reduceIte, Option.getD_some, Option.getD_none]
  refine Tail.J_ex (by rfl) (by rfl) ?_
  apply Exists.intro
  refine ⟨fun w => ?_, ?_⟩
  · go_simp <;> with_reducible rfl
  simp only [Act.put, List.setIfInBounds_toArray, List.set_cons_zero, List.set_cons_succ, Nat.reduceAdd, Nat.reduceEqDiff, reduceIte, Option.getD_some, Option.getD_none]
  refine Tail.J_at (by rfl) (by rfl) ?_
  apply Exists.intro
  refine ⟨fun D w' hd hp hJ => ?_, ?_⟩
  · have cc := (show w'.cell? ⟨bx, 4, none⟩ = some (.slice va nb vc) from hJ.bc 4)
    clear hJ
    go_simp <;> with_reducible rfl
  simp only [Act.put, List.setIfInBounds_toArray, List.set_cons_zero, List.set_cons_succ, Nat.reduceAdd, Nat.reduceEqDiff, reduceIte, Option.getD_some, Option.getD_none]
  refine Tail.J_call (by rfl) (by rfl) ?_ ?_
  · apply Exists.intro
    apply Exists.intro
    refine ⟨fun w' => ?_, ?_⟩
    · go_simp <;> exact ⟨rfl, rfl⟩
    intro D z' w' hD hz hd hp hJ
    have h1 : D 7 = true := hd 7 (by kernel_rfl)
    rw [hD, h1] at hJ
    refine (rsput_calls w' N1 q r B lv ps s.disk slots room L s.dead hJ.rs nm _ bs' (hJ.z HVZ.out) (by omega) hJ.old (by have := hJ.few; omega) HLN.out HNU.out).mono ?_
    rintro e w'' ⟨lv', ps', rfl, hs, hc⟩
    refine ⟨_, rfl, fun c hc => by simp at hc; rw [← hc, HPR.out.1], ?_⟩
    simp [Tail.updB, h1]
    exact hJ.two HPR.out.2.1 HPR.out.2.2.1 hs hc
  simp only [Act.put, List.setIfInBounds_toArray, List.set_cons_zero, List.set_cons_succ, Nat.reduceAdd, Nat.reduceEqDiff, reduceIte, Option.getD_some, Option.getD_none]
  refine Tail.J_ex (by rfl) (by rfl) ?_
  apply Exists.intro
  refine ⟨fun w => ?_, ?_⟩
  · go_simp <;> with_reducible rfl
  simp only [Act.put, List.setIfInBounds_toArray, List.set_cons_zero, List.set_cons_succ, Nat.reduceAdd, Nat.reduceEqDiff, reduceIte, Option.getD_some, Option.getD_none]
  intro w5 hJ
  obtain ⟨⟨lv', ps', hF⟩, hown⟩ := PJ.fin hJ HPR.out.2.2.2.2 HPR.out.2.2.2.1
  have hx5 := hown _ _ _ _ HXV.out.1 HXV.out.2.1 HXV.out.2.2.1
  have HF := Lib.hid (And.intro hF hx5)
  clear hJ hF hx5 hown
  go_wp2_with fail
  refine (spoilF_calls _ xv bs' w5 HF.out.2).mono ?_
  rintro e w6 ⟨rfl, hc6⟩
  have HF6 := Lib.hid (HF.out.1.chg hc6 (fun b hb => by have := HXV.out.2.2.2 b hb; have := HMS.out.1; omega) (fun b hb _ => (HSS.out.2 b).2 (.inr (HXV.out.2.2.2 b hb)))
    (by
      have hg : ∀ b, b < wc.heap.size → ¬ xv.ownBlock = some b := fun b hb e => by have := (HXV.out.2.2.2 b e).1; omega
      have hm := HMS.out
      exact ⟨hg _ hm.1.1, hg _ hm.1.2.1, hg _ hm.1.2.2.1, hg _ hm.1.2.2.2.1, hg _ hm.1.2.2.2.2.1, hg _ (hm.2.1 _ (.inl rfl)), hg _ (hm.2.1 _ (.inr (.inl rfl))), hg _ (hm.2.2 _ (.inl rfl))⟩))
  clear hc6
  go_wp2
  go_ret
  exact ⟨rfl, .inr ⟨N1, sb, lb, q, lv', ps', _, _, HF6.out⟩⟩
end Go.Proofs.YtehgnkdfnnebcaaGreatDoor
end
section
namespace Go.Proofs.YtehgnkdfnnebcaaGreatDoor
open Go Go.RowKit Go.Mem Gf
set_option linter.unusedVariables false
attribute [local go_sem ↓] Go.wp_at_zero Go.wp_at_succ
set_option maxRecDepth 20000 in
set_option maxHeartbeats 4000000 in
theorem storePlays_walk (w : World) (hT : Tab w) (sl : Int) (_hs : -9223372036854775808 ≤ sl ∧ sl ≤ 9223372036854775807) (ro : Int) (_hr : -9223372036854775808 ≤ ro ∧ ro ≤ 9223372036854775807) (va : Value) (la : List ActS) (ha : Sls 5 ActSR w va la) :
    Calls Tryz.prog 3 #[.int .i64 sl, .int .i64 ro, va] w fun e w' => e = .returned (.bool true) ∧ Below w.heap.size w w' := by
  have HT := Lib.hid hT
  have hla := ha.len
  obtain ⟨aa, ca, rfl⟩ := ha.eq_slice
  obtain ⟨n, hn⟩ : ∃ n, n = la.length := ⟨_, rfl⟩
  rw [← hn] at ha hla ⊢
  have HA := Lib.hid ha; have HN := Lib.hid hn
  have r1 := within_range sl 6 (by decide)
  have r2 := within_range ro 5 (by decide)
  obtain ⟨s1, hs1⟩ : ∃ s1 : Nat, within sl 6 = (s1 : Int) ∧ s1 < 6 := ⟨(within sl 6).toNat, by omega, by omega⟩
  obtain ⟨o1, ho1⟩ : ∃ o1 : Nat, within ro 5 = (o1 : Int) ∧ o1 < 5 := ⟨(within ro 5).toNat, by omega, by omega⟩
  have hs2 := hs1.2
  have ho2 := ho1.2
  have HS := Lib.hid hs1.1; have HO := Lib.hid ho1.1
  clear hT ha _hs _hr hn r1 r2 hs1 ho1
  have q1 : IntKind.i64.wrap (1 + (s1 : Int)) = ((1 + s1 : Nat) : Int) := by rw [IntWalk.i64_in _ (by omega)]; omega
  have q2 : IntKind.i64.wrap (1 + (o1 : Int)) = ((1 + o1 : Nat) : Int) := by rw [IntWalk.i64_in _ (by omega)]; omega
  go_enter Tryz.func3, Tryz.ntmps3
  go_wp2_with fail
  refine (within_calls sl 6 (by decide) (by decide) _).mono ?_
  rintro e w1 ⟨rfl, rfl⟩
  rw [HS.out]
  go_wp2_with fail
  refine (within_calls ro 5 (by decide) (by decide) _).mono ?_
  rintro e w1 ⟨rfl, rfl⟩
  rw [HO.out]
  go_wp2_with fail
  refine (begin_calls w HT.out (1 + s1) (1 + o1) (by omega) (by omega)).mono ?_
  rintro e w1 ⟨p, d, Ld, r, B, rfl, hP1⟩
  have H1 := Lib.hid hP1
  clear hP1
  go_wp2_with fail
  refine (psame_calls w w1 p d Ld r B _ _ _ H1.out).mono ?_
  rintro e w2 ⟨rfl, hb2⟩
  have H2 := Lib.hid (H1.out.step hb2)
  clear hb2
  go_wp2_with fail
  go_loopw [9] (fun v wr => ∃ i : Nat, i ≤ n ∧ i ≤ 25 ∧ v = .int .i64 i ∧ Par w wr p d Ld r B (4294967297 + i) (1 + s1) (1 + o1)) (fun v _ => 25 - (intOf v).toNat)
  case atStart => exact ⟨0, by omega, by omega, rfl, H2.out⟩
  case round => as_aux_lemma =>
    obtain ⟨i, hi, hi25, rfl, hP⟩ := hrel
    have HP := Lib.hid hP
    have hbel := hP.bel
    clear hP
    by_cases hik : i < n ∧ i < 25
    · obtain ⟨h1, h2⟩ := hik
      obtain ⟨ba, oa, ac, cs, rfl, Hac, hcl, hcs, v, rfl, hbs, hat, hnm⟩ := HA.out.at i (by have := HN.out; omega)
      have i0 : (0 : Int) ≤ (i : Int) := by omega
      have i1 : (i : Int) < (n : Int) := by omega
      obtain ⟨ac0, ac1, ac2, ac3, ac4⟩ := ac
      simp only at hbs hnm hat
      have cx : ∀ j u, [Value.int .i64 ac0, .int .i64 ac1, .int .i64 ac2, .string ac3, v][j]? = some u → wr.cell? ⟨ba, oa + i * 5 + j, none⟩ = some u := fun j u hj =>
        (hbel.cell (p := ⟨ba, oa + i * 5 + j, none⟩) (World.block_lt_of_cell? w _ (hcs j u hj))).trans (hcs j u hj)
      have c0 : wr.cell? ⟨ba, oa + i * 5, none⟩ = some (.int .i64 ac0) := cx 0 _ rfl
      have c1 : wr.cell? ⟨ba, oa + i * 5 + 1, none⟩ = some (.int .i64 ac1) := cx 1 _ rfl
      have c2 : wr.cell? ⟨ba, oa + i * 5 + 2, none⟩ = some (.int .i64 ac2) := cx 2 _ rfl
      have c3 : wr.cell? ⟨ba, oa + i * 5 + 3, none⟩ = some (.string ac3) := cx 3 _ rfl
      have c4 : wr.cell? ⟨ba, oa + i * 5 + 4, none⟩ = some v := cx 4 _ rfl
      have HB := Lib.hid (And.intro hbs (And.intro hat hnm))
      clear cx hcs hcl Hac hbs hat hnm hbel
      go_wp2_with fail
      refine (pdo_calls w wr p d Ld r B _ _ _ ac0 ac1 ac2 ac3 v ac4 HB.out.1 HB.out.2.1 HB.out.2.2 HP.out (by omega)).mono ?_
      rintro e w3 ⟨rfl, hP3⟩
      have HP3 := Lib.hid hP3
      clear hP3
      go_wp2_with fail
      refine (psame_calls w w3 p d Ld r B _ _ _ HP3.out).mono ?_
      rintro e w4 ⟨rfl, hb4⟩
      have HP4 := Lib.hid (HP3.out.step hb4)
      clear hb4
      go_wp2
      exact ⟨⟨i + 1, by omega, by omega, by go_num, HP4.out⟩, by simp [intOf]; omega⟩
    · have HX := Lib.hid hbel
      by_cases hin : i < n
      · have hi3 : i = 25 := by omega
        have t1 : decide ((i : Int) < 25) = false := by simp; omega
        have t2 : decide (i < 25) = false := by simp; omega
        clear hik
        go_wp2_with fail
        refine (wakes11_calls wr HP.out.tab).mono ?_
        rintro e w3 ⟨rfl, hb3⟩
        go_wp2
        go_ret
        exact ⟨rfl, HX.out.trans (hb3.mono HX.out.size)⟩
      · clear hik
        go_wp2_with fail
        refine (wakes11_calls wr HP.out.tab).mono ?_
        rintro e w3 ⟨rfl, hb3⟩
        go_wp2
        go_ret
        exact ⟨rfl, HX.out.trans (hb3.mono HX.out.size)⟩
end Go.Proofs.YtehgnkdfnnebcaaGreatDoor
end
section
namespace Go.Proofs.YtehgnkdfnnebcaaGreatDoor
open Go Go.RowKit Go.Mem
theorem tabT : (Tryz.prog.globals[gT]?).map (·.type) = some 136 := by kernel_rfl
theorem tab_of_laid {W : World} (h : laidMetH Tryz.prog [("math/bits.deBruijn32tab", Rows.laid_math_bits_deBruijn32tab), ("math/bits.deBruijn64tab", Rows.laid_math_bits_deBruijn64tab), ("internal/strconv.uint64pow10", Rows.laid_internal_strconv_uint64pow10)] W) : Tab W := by
  rw [MakeChecks.laidMetH_plain _ _ _ (by kernel_rfl)] at h
  obtain ⟨ps, ⟨g0, t0, cs0, f0, p0, q0, hg0, ht0, hv0, hd0, ⟨g1, t1, cs1, f1, p1, q1, hg1, ht1, hv1, hd1, ⟨g2, t2, cs2, f2, p2, q2, hg2, ht2, hv2, hd2, _, _⟩, _⟩, _⟩, _, _⟩ := h
  obtain rfl := Option.some.inj (gT_eq.symm.trans hg2)
  obtain rfl := Option.some.inj (tabT.symm.trans ht2)
  have hd : DataW.trod (fun _ => ()) Tryz.prog W 0 (fun _ => true) false f2 136 cs2.toList = some (Lib.tabData .u64 Lib.pow10Tab, p2) := hd2.trans (by rw [show (Rows.laid_internal_strconv_uint64pow10 : DataW Unit) = Lib.tabData .u64 Lib.pow10Tab from rfl])
  unfold Tab Lib.TabIs
  rw [hv2, ← Lib.cells_of_tab Tryz.underlying136 Tryz.underlying104 (by kernel_rfl) (by kernel_rfl) hd]
end Go.Proofs.YtehgnkdfnnebcaaGreatDoor
end
