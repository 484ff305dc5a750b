/- Texts of this proof, packed: ServerFullWalk, TabOf. -/
import Derived.Test.YtbbojbdigiibbaaGreatDoorPk17
import Derived.Test.YtbbojbdigiibbaaGreatDoorPk13
import Derived.Test.YtbbojbdigiibbaaGreatDoorRows
import Derived.Test.YtbbojbdigiibbaaGreatDoorPk02
import Derived.Lib.LaidTab
import Derived.LaidMore
section
namespace Go.Mem
open Go Go.RowKit Gf Lea Go.Proofs.YtbbojbdigiibbaaGreatDoor
theorem dataZ_came {w0 w : World} {C : Nat → Prop} {pb : Nat} {s : SrvS} (h : SrvL w0 w C pb s) {v : Value} {bs : List UInt8} (hb : Bys w0 v bs) : DataZ w C v bs := by
  refine ⟨hb.below h.bel, ?_⟩
  obtain ⟨a, c, rfl, h1, h2, h3⟩ := hb
  refine ⟨a, c, rfl, fun h0 b hb => ?_⟩
  subst hb
  obtain ⟨g, off, e, hc⟩ := h3 h0
  injection e with e
  have hlt : b.block < w0.heap.size := by
    rw [e]
    exact World.block_lt_of_cell? w0 ⟨g, off + 0, none⟩ (hc 0 _ (List.getElem?_eq_getElem h0))
  exact ⟨Nat.lt_of_lt_of_le hlt h.bel.size, fun hC => by have := h.c1 _ hC; omega⟩
end Go.Mem
namespace Go.Proofs.YtbbojbdigiibbaaGreatDoor
open Go Go.RowKit Go.Mem Gf Lea
set_option linter.unusedVariables false
def k9 : Key := [9, 0, 0, 0, 0, 0, 0, 0, 0, 0, 0, 0, 0, 0, 0, 0]
def put9 (u : Value) : Req := ⟨2, k9, z16, 5, z16, .slice none 0 0, u⟩
theorem put9_wf (u : Value) : (put9 u).Wf := ⟨by show k9.length = 16; decide, by show z16.length = 16; decide, by show z16.length = 16; decide⟩
theorem put9_eq (u : Value) : RF.V ⟨.int .i64 2, [Value.int .u8 9, .int .u8 0, .int .u8 0, .int .u8 0, .int .u8 0, .int .u8 0, .int .u8 0, .int .u8 0, .int .u8 0, .int .u8 0, .int .u8 0, .int .u8 0, .int .u8 0, .int .u8 0, .int .u8 0, .int .u8 0], zk, .int .i64 5, zk, .slice none 0 0, u⟩ = reqV (put9 u) := rfl
theorem put9_all (a : Option Addr) (n c : Nat) : AllK 52 (reqV (put9 (.slice a n c))) := reqV_all (put9_wf _) rfl rfl
theorem put9_cut (a : Option Addr) (n c : Nat) : cutC (reqV (put9 (.slice a n c))).toArray 0 52 = reqV (put9 (.slice a n c)) := cutC_all (reqV_len (put9_wf _))
theorem put9_size (a : Option Addr) (n c : Nat) : (reqV (put9 (.slice a n c))).length = 52 := reqV_len (put9_wf _)
def swpV (u : Value) : Req := ⟨4, z16, z16, 5, z16, .slice none 0 0, u⟩
theorem swpV_wf (u : Value) : (swpV u).Wf := ⟨by show z16.length = 16; decide, by show z16.length = 16; decide, by show z16.length = 16; decide⟩
theorem swpV_eq (u : Value) : RF.V ⟨.int .i64 4, zk, zk, .int .i64 5, zk, .slice none 0 0, u⟩ = reqV (swpV u) := rfl
theorem swpV_all (a : Option Addr) (n c : Nat) : AllK 52 (reqV (swpV (.slice a n c))) := reqV_all (swpV_wf _) rfl rfl
theorem swpV_cut (a : Option Addr) (n c : Nat) : cutC (reqV (swpV (.slice a n c))).toArray 0 52 = reqV (swpV (.slice a n c)) := cutC_all (reqV_len (swpV_wf _))
theorem swpV_size (a : Option Addr) (n c : Nat) : (reqV (swpV (.slice a n c))).length = 52 := reqV_len (swpV_wf _)
def z400 : Array Value := Array.replicate 400 (.int .u8 0)
theorem make400 (w : World) : (Instr.makeSlice 51 (.int .i64 400) (.int .i64 400)).run Tryz.prog w = .ok (.slice (some ⟨w.heap.size, 0, none⟩) 400 400) (w.alloc (.cells z400 5)) := make_bytes2 (P := Tryz.prog) 51 5 Tryz.underlying51 (by kernel_rfl) 400 400 400 rfl (by decide) (by decide) w
theorem z400_at {w : World} {N : Nat → Prop} {g : Nat} (h : Blk w g z400 5) (hN : ¬ N g) : DataZ w N (.slice (some ⟨g, 0, none⟩) 400 400) (List.replicate 400 0) := by
  refine ⟨⟨some ⟨g, 0, none⟩, 400, by rw [List.length_replicate], by rw [List.length_replicate]; exact Nat.le_refl _, by decide, fun _ => ⟨g, 0, rfl, fun i u hi => ?_⟩⟩, some ⟨g, 0, none⟩, 400, by rw [List.length_replicate], fun _ b hb => ?_⟩
  · have hlt : i < 400 := by
      have := some_lt hi
      rwa [List.length_replicate] at this
    rw [List.getElem?_replicate, if_pos hlt] at hi
    cases hi
    rw [h.cell, Nat.zero_add]
    unfold z400
    rw [Array.getElem?_replicate, if_pos hlt]; rfl
  · cases hb
    exact ⟨h.lt, hN⟩
theorem fits400 : fitsB 8 (shareN z16 0) (List.replicate 400 0) = false := by kernel_rfl
theorem _root_.Go.Mem.FullS.slotNone {d : List UInt8} {e : Int} {s : SrvS} (h : FullS d e 2 s) (ix : Key) : s.st.get (slotN ix) = none := by
  rw [h.g.get, h.look]
  show upd (upd (upd (upd (fun _ => none) (shareN z16 0) (some d)) (leaseN z16) _) (shareN z16 1) (some d)) (leaseN z16) _ _ = _
  unfold upd
  rw [if_neg slot_lease, if_neg (fun e => share_slot e.symm), if_neg slot_lease, if_neg (fun e => share_slot e.symm)]
theorem _root_.Go.Mem.FullS.other {d : List UInt8} {e : Int} {s : SrvS} (h : FullS d e 2 s) {ix : Key} (hi : ix.length = 16) (hne : ix ≠ z16) {n : Nat} (hn : n < 16) : s.st.get (shareN ix n) = none := by
  rw [h.g.get, h.look]
  show upd (upd (upd (upd (fun _ => none) (shareN z16 0) (some d)) (leaseN z16) _) (shareN z16 1) (some d)) (leaseN z16) _ _ = _
  unfold upd
  rw [if_neg share_lease, if_neg (fun e => hne (shareN_inj e hi rfl hn (by decide)).1), if_neg share_lease, if_neg (fun e => hne (shareN_inj e hi rfl hn (by decide)).1)]
theorem putV_lit (E : Int) (u : Value) : ([Value.int .i64 2, Value.int .u8 0, Value.int .u8 0, Value.int .u8 0, Value.int .u8 0, Value.int .u8 0, Value.int .u8 0, Value.int .u8 0, Value.int .u8 0, Value.int .u8 0, Value.int .u8 0, Value.int .u8 0, Value.int .u8 0, Value.int .u8 0, Value.int .u8 0, Value.int .u8 0, Value.int .u8 0, Value.int .u8 0, Value.int .u8 0, Value.int .u8 0, Value.int .u8 0, Value.int .u8 0, Value.int .u8 0, Value.int .u8 0, Value.int .u8 0, Value.int .u8 0, Value.int .u8 0, Value.int .u8 0, Value.int .u8 0, Value.int .u8 0, Value.int .u8 0, Value.int .u8 0, Value.int .u8 0, .int .i64 E, Value.int .u8 0, Value.int .u8 0, Value.int .u8 0, Value.int .u8 0, Value.int .u8 0, Value.int .u8 0, Value.int .u8 0, Value.int .u8 0, Value.int .u8 0, Value.int .u8 0, Value.int .u8 0, Value.int .u8 0, Value.int .u8 0, Value.int .u8 0, Value.int .u8 0, Value.int .u8 0, .slice none 0 0, u] : List Value) = reqV (putV E u) := rfl
attribute [local irreducible] RF.V zk reqV z400
attribute [local go_sem ↓] Go.wp_at_zero Go.wp_at_succ
attribute [local go_sem ↓] load_req store_req build_req_ctt build_req_cct build_req_ctct
attribute [local go_sem] Value.oneCell' reqOf reqFit List.foldl_cons List.foldl_nil List.all_cons List.all_nil rfs0 rfs1 rfs2 rfs3 rfs4 rfs5 rfs6 rfz ok0 ok1 ok2 ok3 ok4 ok5 ok6 fld_reply0 fld_reply1
attribute [local go_sem] ptrB_eq ptrO_eq ptrIs_eq aggL_eq aggIs_eq readK_drew hasK_drew readK_alloc_past hasK_alloc_past readK_alloc_in hasK_alloc_in setCells_drew setCells_alloc_past hasK_zeroR setCells_zeroR putV_eq putV_all putV_cut putV_size put9_eq put9_all put9_cut put9_size swpV_eq swpV_all swpV_cut swpV_size make400
set_option maxRecDepth 20000 in
set_option maxHeartbeats 4000000 in
theorem serverFull_walk (w : World) (hT : Tab w) (p : Int) (_hp : -9223372036854775808 ≤ p ∧ p ≤ 9223372036854775807) (va : Value) (xs : List UInt8) (ha : Bys w va xs) (q : Int) (_hq : -9223372036854775808 ≤ q ∧ q ≤ 9223372036854775807) :
    Calls Tryz.prog 5 #[.int .i64 p, va, .int .i64 q] w fun e w' => e = .returned (.bool true) ∧ Below w.heap.size w w' := by
  have HT := Lib.hid hT; have HA := Lib.hid ha
  clear hT ha _hp _hq
  go_enter Tryz.func5, Tryz.ntmps5
  go_wp2_with fail
  refine (srvnew_calls 4 8 w HT.out (by omega) (by omega) (by omega)).mono ?_
  rintro e w1 ⟨pb, C, rfl, hS, hC, hb1⟩
  have HL := Lib.hid (show SrvL w w1 C pb (freshS 4 8) from ⟨hS, hb1, hC⟩)
  clear hS hC hb1
  go_wp2_with fail
  refine (cut8_two va xs 150 w w1 HA.out (HA.out.below HL.out.bel)).mono ?_
  rintro e w2 ⟨⟨va', rfl, hA⟩, rfl⟩
  obtain ⟨d, hd⟩ : ∃ A, A = xs.take 150 := ⟨_, rfl⟩
  have hdl : d.length ≤ 150 := by rw [hd, List.length_take]; omega
  rw [← hd] at hA
  obtain ⟨da, dc, rfl⟩ := hA.eq_slice
  obtain ⟨dn, hdn⟩ : ∃ q, q = d.length := ⟨_, rfl⟩
  rw [← hdn] at hA ⊢
  have HD := Lib.hid (And.intro hA (And.intro hdl hdn))
  clear hA hd hdl hdn
  obtain ⟨hy1, hy2⟩ := within_range q 50 (by decide)
  obtain ⟨b, hb⟩ : ∃ x, x = within q 50 := ⟨_, rfl⟩
  have HB := Lib.hid hb
  rw [← hb] at hy1 hy2
  clear hb
  go_wp2_with fail
  refine (within_calls q 50 (by decide) (by decide) _).mono ?_
  rintro e w2 ⟨rfl, rfl⟩
  rw [← HB.out]
  obtain ⟨E, hE⟩ : ∃ x, x = 1 + b := ⟨_, rfl⟩
  have hmE : May E := ⟨by omega, by omega⟩
  have hE2 : 1 ≤ E ∧ E ≤ 50 := by omega
  have HG := freshS_good 4 8 (by omega) (by omega)
  have hF0 : FullS d E 0 (freshS 4 8) := ⟨HG.1, HG.2.2, rfl, rfl, rfl, fun nm => HG.2.1 nm⟩
  have H0 := Lib.hid (And.intro HL.out (And.intro hF0 hmE))
  have HE := Lib.hid (And.intro hE hE2)
  clear HG hF0 hmE hE2 HL
  go_upto_region 7 with fail
  rw [← HE.out.1]
  clear hE
  go_loopw [9] (fun vi wr => ∃ i : Nat, i ≤ 3 ∧ vi = .int .i64 i ∧ Hid (∃ C s, SrvL w wr C pb s ∧ FullS d E (min i 2) s)) (fun vi _ => 3 - (intOf vi).toNat)
  case atStart => exact ⟨0, Nat.zero_le _, rfl, C, _, H0.out.1, H0.out.2.1⟩
  case round =>
    obtain ⟨i, hi0, rfl, G⟩ := hrel
    obtain ⟨C, s, hL, hF⟩ := G.out
    clear G
    by_cases hin : i < 3
    · have i0 : (0 : Int) ≤ (i : Int) := by omega
      have i1 : (i : Int) < 3 := by omega
      obtain ⟨er, her⟩ : ∃ x : Int, x = (if i < 2 then 0 else 3) := ⟨_, rfl⟩
      have HG := Lib.hid (And.intro hL (And.intro hF her))
      have hold : ∀ b, C b → b < wr.heap.size := fun b hb => hL.old hb
      clear hL hF her
      go_upto_region 9 with fail
      refine Tail.wp_region_J 13 (fun k => k == 5 || k == 7 || k == 9) (fun k => if k = 7 then some (.agg #[.int .i64 er, .slice none 0 0]) else none)
        (fun D z w' => (D 7 = false → SrvL w w' C pb s ∧ Below wr.heap.size wr w' ∧ (D 5 = true → ∃ g, z 5 = .slice (some ⟨g, 0, none⟩) 1 1 ∧ wr.heap.size ≤ g ∧ Blk w' g #[.int .i64 i, .slice da dn dc] 53)) ∧
          (D 7 = true → ∃ C' s', SrvL w w' C' pb s' ∧ FullS d E (min (i + 1) 2) s' ∧ wr.heap.size ≤ w'.heap.size) ∧
          (D 9 = true → ∃ g, z 9 = .slice (some ⟨g, 0, none⟩) 3 3 ∧ wr.heap.size ≤ g ∧ Blk w' g #[.int .i64 0, .int .i64 0, .int .i64 3] 24))
        (by kernel_rfl) (by kernel_rfl) (fun k hk => by simp at hk; omega) (fun D z z' w' hz h => ⟨fun d7 => ⟨(h.1 d7).1, (h.1 d7).2.1, fun d5 => by rw [← hz 5 d5]; exact (h.1 d7).2.2 d5⟩, h.2.1, fun d9 => by rw [← hz 9 d9]; exact h.2.2 d9⟩)
        ⟨fun _ => ⟨HG.out.1.step (Below.refl _ _).drew, (Below.refl _ _).drew, fun h => by cases h⟩, (fun h => by cases h), (fun h => by cases h)⟩ (fun z => ?_)
      simp only [List.take_succ_cons, List.take_zero, List.drop_succ_cons, List.drop_zero]
      refine Tail.J_ex (by rfl) (by rfl) ?_
      apply Exists.intro
      refine ⟨fun w => ?_, ?_⟩
      · go_simp <;> with_reducible rfl
      simp only [Act.put, List.setIfInBounds_toArray, List.set_cons_zero, List.set_cons_succ]
      refine Tail.J_ex (by rfl) (by rfl) ?_
      apply Exists.intro
      refine ⟨fun w => ?_, ?_⟩
      · go_simp <;> with_reducible rfl
      simp only [Act.put, List.setIfInBounds_toArray, List.set_cons_zero, List.set_cons_succ]
      refine Tail.J_ex (by rfl) (by rfl) ?_
      apply Exists.intro
      refine ⟨fun w => ?_, ?_⟩
      · go_simp <;> with_reducible rfl
      simp only [Act.put, List.setIfInBounds_toArray, List.set_cons_zero, List.set_cons_succ]
      refine Tail.J_ex (by rfl) (by rfl) ?_
      apply Exists.intro
      refine ⟨fun w => ?_, ?_⟩
      · go_simp <;> with_reducible rfl
      simp only [Act.put, List.setIfInBounds_toArray, List.set_cons_zero, List.set_cons_succ]
      refine Tail.J_ex (by rfl) (by rfl) ?_
      apply Exists.intro
      refine ⟨fun w => ?_, ?_⟩
      · go_simp <;> with_reducible rfl
      simp only [Act.put, List.setIfInBounds_toArray, List.set_cons_zero, List.set_cons_succ]
      refine Tail.J_mov (by rfl) (by rfl) (fun D z' w' hD hz hd hp hJ => ?_) ?_
      · have h7 : D 7 = false := hp 7 (by kernel_rfl)
        obtain ⟨j1, j2, _⟩ := hJ.1 h7
        have hba : Below w'.heap.size w' (w'.alloc (.cells #[.int .i64 i, .slice da dn dc] 53)) := (Below.refl _ _).alloc (Nat.le_refl _) _
        refine ⟨.slice (some ⟨w'.heap.size, 0, none⟩) 1 1, w'.alloc (.cells #[.int .i64 i, .slice da dn dc] 53), ?_, fun c hc => by simp at hc, fun _ => ⟨j1.step hba, j2.trans (hba.mono j2.size), fun _ => ⟨w'.heap.size, by simp [Tail.updV], j2.size, Blk.new _ _ _⟩⟩, fun h => ?_, fun h => ?_⟩
        · go_simp <;> with_reducible rfl
        · simp [Tail.updB, h7] at h
        · obtain ⟨g, e1, e2, e3⟩ := hJ.2.2 (by simpa [Tail.updB] using h)
          exact ⟨g, by simpa [Tail.updV] using e1, e2, e3.kept hba⟩
      simp only [Act.put, List.setIfInBounds_toArray, List.set_cons_zero, List.set_cons_succ, Nat.reduceAdd, Nat.reduceEqDiff, reduceIte, Option.getD_some, Option.getD_none]
      refine Tail.J_pure (by rfl) (.agg (reqV (putV E (z 5))).toArray) (by rfl) (fun D w' hd hp hJ => ?_) ?_
      · have h7 := hp 7 (by kernel_rfl)
        have h5 := hd 5 (by kernel_rfl)
        obtain ⟨g, e5, _⟩ := (hJ.1 h7).2.2 h5
        rw [e5]
        go_simp
        exact putV_lit E _
      simp only [Act.put, List.setIfInBounds_toArray, List.set_cons_zero, List.set_cons_succ, Nat.reduceAdd, Nat.reduceEqDiff, reduceIte, Option.getD_some, Option.getD_none]
      refine Tail.J_call (by rfl) (by rfl) ?_ ?_
      · apply Exists.intro
        apply Exists.intro
        refine ⟨fun w' => ?_, ?_⟩
        · go_simp <;> exact ⟨rfl, rfl⟩
        intro D z' w' hD hz hd hp hJ
        have h5 : D 5 = true := hd 5 (by kernel_rfl)
        obtain ⟨j1, j2, j3⟩ := hJ.1 hD
        obtain ⟨g, e1, e2, e3⟩ := j3 h5
        have hgC : ¬ C g := fun hC => by have := hold g hC; omega
        have hdz := dataZ_came j1 HD.out.1
        rw [HD.out.2.2] at hdz e3
        have hbl : BlAt w' C (z 5) [((i : Int), d)] := by
          rw [hz 5 h5, e1]
          exact blAt_one e3 hgC hdz
        have hgs := HG.out.2.1.g
        refine (j1.put hgs.live (hgs.srvB (by omega)) (by have := hgs.st.writes; omega) (putV_wf E (z 5)) rfl hbl (fun x hx => by rw [List.mem_singleton.1 hx]; have := HD.out.2.1; show d.length ≤ _; omega)).mono ?_
        rintro e w'' ⟨C', err, s', rfl, hP, hL', hsc⟩
        have hres : err = er ∧ FullS d E (min (i + 1) 2) s' := by
          rcases (by omega : i < 2 ∨ i = 2) with h2 | h2
          · have hF := HG.out.2.1
            rw [show min i 2 = i from by omega] at hF
            obtain ⟨a1, a2⟩ := hF.put h2 HD.out.2.1 H0.out.2.2 (putV_wf E (z 5)) rfl rfl rfl hP
            rw [show min (i + 1) 2 = i + 1 from by omega, HG.out.2.2, if_pos h2]
            exact ⟨a1, a2⟩
          · subst h2
            have hF := HG.out.2.1
            have hfr := hF.free (by decide)
            obtain ⟨a1, a2⟩ := putSh_full (by decide) H0.out.2.2 (by rw [hgs.get]; exact hF.fresh (by decide) (by decide) (by decide)) (by rw [hfr]; decide) hP
            rw [HG.out.2.2, a2]
            exact ⟨a1, hF⟩
        refine ⟨_, rfl, fun c hc => by simp at hc; rw [← hc, hres.1], fun h => ?_, fun _ => ⟨C', s', hL', hres.2, Nat.le_trans j2.size hsc.1.size⟩, fun h9 => ?_⟩
        · simp [Tail.updB] at h
        · obtain ⟨g2, f1, f2, f3⟩ := hJ.2.2 (by simpa [Tail.updB] using h9)
          exact ⟨g2, by simpa [Tail.updV] using f1, f2, hsc.1.blk f3 (fun hC => by have := hold g2 hC; omega)⟩
      simp only [Act.put, List.setIfInBounds_toArray, List.set_cons_zero, List.set_cons_succ, Nat.reduceAdd, Nat.reduceEqDiff, reduceIte, Option.getD_some, Option.getD_none]
      refine Tail.J_ex (by rfl) (by rfl) ?_
      apply Exists.intro
      refine ⟨fun w => ?_, ?_⟩
      · go_simp <;> with_reducible rfl
      simp only [Act.put, List.setIfInBounds_toArray, List.set_cons_zero, List.set_cons_succ]
      refine Tail.J_mov (by rfl) (by rfl) (fun D z' w' hD hz hd hp hJ => ?_) ?_
      · have hba : Below w'.heap.size w' (w'.alloc (.cells #[.int .i64 0, .int .i64 0, .int .i64 3] 24)) := (Below.refl _ _).alloc (Nat.le_refl _) _
        have hsz : wr.heap.size ≤ w'.heap.size := by
          cases h7 : D 7 with
          | false => exact (hJ.1 h7).2.1.size
          | true =>
            obtain ⟨_, _, _, _, h⟩ := hJ.2.1 h7
            exact h
        refine ⟨.slice (some ⟨w'.heap.size, 0, none⟩) 3 3, w'.alloc (.cells #[.int .i64 0, .int .i64 0, .int .i64 3] 24), ?_, fun c hc => by simp at hc, fun h => ?_, fun h => ?_, fun _ => ⟨w'.heap.size, by simp [Tail.updV], hsz, Blk.new _ _ _⟩⟩
        · go_simp <;> with_reducible rfl
        · have h7 : D 7 = false := by simpa [Tail.updB] using h
          obtain ⟨j1, j2, j3⟩ := hJ.1 h7
          refine ⟨j1.step hba, j2.trans (hba.mono j2.size), fun h5 => ?_⟩
          obtain ⟨g, e1, e2, e3⟩ := j3 (by simpa [Tail.updB] using h5)
          exact ⟨g, by simpa [Tail.updV] using e1, e2, e3.kept hba⟩
        · obtain ⟨C', s', j1, j2, j3⟩ := hJ.2.1 (by simpa [Tail.updB] using h)
          exact ⟨C', s', j1.step hba, j2, Nat.le_trans j3 hba.size⟩
      simp only [Act.put, List.setIfInBounds_toArray, List.set_cons_zero, List.set_cons_succ, Nat.reduceAdd, Nat.reduceEqDiff, reduceIte, Option.getD_some, Option.getD_none]
      refine Tail.J_ex (by rfl) (by rfl) ?_
      apply Exists.intro
      refine ⟨fun w => ?_, ?_⟩
      · go_simp <;> with_reducible rfl
      simp only [Act.put, List.setIfInBounds_toArray, List.set_cons_zero, List.set_cons_succ]
      refine Tail.J_pure (by rfl) (.pointer (some ⟨((z 9).ownBlock).getD 0, i, none⟩)) (by rfl) (fun D w' hd hp hJ => ?_) ?_
      · have h9 := hd 9 (by kernel_rfl)
        obtain ⟨g, e9, _⟩ := hJ.2.2 h9
        rw [e9]
        go_simp
        rfl
      simp only [Act.put, List.setIfInBounds_toArray, List.set_cons_zero, List.set_cons_succ, Nat.reduceAdd, Nat.reduceEqDiff, reduceIte, Option.getD_some, Option.getD_none]
      refine Tail.J_pure (by rfl) (.int .i64 er) (by rfl) (fun D w' hd hp hJ => ?_) ?_
      · have h9 := hd 9 (by kernel_rfl)
        obtain ⟨g, e9, _, hk⟩ := hJ.2.2 h9
        have hc : w'.cell? ⟨g, i, none⟩ = some (.int .i64 er) := by
          rw [hk.cell, HG.out.2.2]
          rcases (by omega : i = 0 ∨ i = 1 ∨ i = 2) with rfl | rfl | rfl <;> rfl
        rw [e9]
        go_simp
        rw [show (Value.slice (some ⟨g, 0, none⟩) 3 3).ownBlock.getD 0 = g from rfl, hc]
        rfl
      simp only [Act.put, List.setIfInBounds_toArray, List.set_cons_zero, List.set_cons_succ, Nat.reduceAdd, Nat.reduceEqDiff, reduceIte, Option.getD_some, Option.getD_none]
      intro w' hJ
      obtain ⟨C', s', hL', hF', _⟩ := hJ.2.1 rfl
      have HJ := Lib.hid (And.intro hL' hF')
      clear hJ hL' hF' hold
      go_wp2_with fail
      exact ⟨⟨i + 1, by omega, by simp, C', s', HJ.out.1, HJ.out.2⟩, by show 3 - ((i : Int) + 1).toNat < 3 - (i : Int).toNat; omega⟩
    · obtain rfl : i = 3 := by omega
      have HG := Lib.hid (And.intro hL (show FullS d E 2 s from hF))
      clear hL hF hi0 hin
      have hlive := HG.out.2.g.live
      have hBs := HG.out.2.g.srvB (by decide)
      go_wp2_with fail
      refine (HG.out.1.shares hlive hBs z16 rfl).mono ?_
      rintro e w2 ⟨u1, rfl, hO1, hb1⟩
      obtain ⟨a1, c1, rfl, _⟩ := hO1.slice
      rw [HG.out.2.shares] at hO1 ⊢
      have HS1 := Lib.hid (And.intro hO1 (And.intro hb1 (HG.out.1.step hb1)))
      clear hO1 hb1
      go_wp2_with fail
      refine (srvfree_calls _ _ pb s w2 HS1.out.2.2.srv).mono ?_
      rintro e w3 ⟨rfl, hb3⟩
      have hfree : s.st.freeN = 1 := HG.out.2.free (by decide)
      rw [hfree]
      have HS3 := Lib.hid (And.intro hb3 (HS1.out.2.2.step hb3))
      clear hb3
      go_wp2_with fail
      refine (within_calls p 16 (by decide) (by decide) _).mono ?_
      rintro e w4 ⟨rfl, rfl⟩
      obtain ⟨n0, hn0⟩ : ∃ x, x = within p 16 := ⟨_, rfl⟩
      obtain ⟨hn1, hn2⟩ := within_range p 16 (by decide)
      rw [← hn0] at hn1 hn2 ⊢
      clear hn0
      go_upto_region 15 with fail
      have hb0 : Below w3.heap.size w3 w3 := Below.refl _ _
      have hb1 := hb0.alloc hb0.size (.cells #[Value.int .i64 n0, Value.slice da dn dc] 53)
      have hb2 := hb1.alloc hb1.size (.cells (reqV (put9 (.slice (some ⟨w3.heap.size, 0, none⟩) 1 1))).toArray 47)
      have hb3 := hb2.alloc hb2.size (.cells #[Value.int .i64 1, Value.slice da dn dc] 53)
      have hb4 := hb3.alloc hb3.size (.cells (reqV (swpV (.slice (some ⟨w3.heap.size + 1 + 1, 0, none⟩) 1 1))).toArray 47)
      have hb5 := hb4.alloc hb4.size (.cells z400 5)
      have hb6 := hb5.alloc hb5.size (.cells #[Value.int .i64 0, Value.slice (some ⟨w3.heap.size + 1 + 1 + 1 + 1, 0, none⟩) 400 400] 53)
      have hb7 := hb6.alloc hb6.size (.cells (reqV (putV 5 (.slice (some ⟨w3.heap.size + 1 + 1 + 1 + 1 + 1, 0, none⟩) 1 1))).toArray 47)
      obtain ⟨w7, hw7⟩ : ∃ q, q = (((((((w3.alloc (.cells #[Value.int .i64 n0, Value.slice da dn dc] 53)).alloc (.cells (reqV (put9 (.slice (some ⟨w3.heap.size, 0, none⟩) 1 1))).toArray 47)).alloc (.cells #[Value.int .i64 1, Value.slice da dn dc] 53)).alloc (.cells (reqV (swpV (.slice (some ⟨w3.heap.size + 1 + 1, 0, none⟩) 1 1))).toArray 47)).alloc (.cells z400 5)).alloc (.cells #[Value.int .i64 0, Value.slice (some ⟨w3.heap.size + 1 + 1 + 1 + 1, 0, none⟩) 400 400] 53)).alloc (.cells (reqV (putV 5 (.slice (some ⟨w3.heap.size + 1 + 1 + 1 + 1 + 1, 0, none⟩) 1 1))).toArray 47)) := ⟨_, rfl⟩
      rw [← hw7] at hb7 ⊢
      have hk0 : Blk w7 (w3.heap.size) #[Value.int .i64 n0, Value.slice da dn dc] 53 := by rw [hw7]; exact (((((((Blk.new_at _ _ _ _ (by simp)).alloc _).alloc _).alloc _).alloc _).alloc _).alloc _)
      have hk1 : Blk w7 (w3.heap.size + 1) (reqV (put9 (.slice (some ⟨w3.heap.size, 0, none⟩) 1 1))).toArray 47 := by rw [hw7]; exact ((((((Blk.new_at _ _ _ _ (by simp)).alloc _).alloc _).alloc _).alloc _).alloc _)
      have hk2 : Blk w7 (w3.heap.size + 1 + 1) #[Value.int .i64 1, Value.slice da dn dc] 53 := by rw [hw7]; exact (((((Blk.new_at _ _ _ _ (by simp)).alloc _).alloc _).alloc _).alloc _)
      have hk3 : Blk w7 (w3.heap.size + 1 + 1 + 1) (reqV (swpV (.slice (some ⟨w3.heap.size + 1 + 1, 0, none⟩) 1 1))).toArray 47 := by rw [hw7]; exact ((((Blk.new_at _ _ _ _ (by simp)).alloc _).alloc _).alloc _)
      have hk4 : Blk w7 (w3.heap.size + 1 + 1 + 1 + 1) z400 5 := by rw [hw7]; exact (((Blk.new_at _ _ _ _ (by simp)).alloc _).alloc _)
      have hk5 : Blk w7 (w3.heap.size + 1 + 1 + 1 + 1 + 1) #[Value.int .i64 0, Value.slice (some ⟨w3.heap.size + 1 + 1 + 1 + 1, 0, none⟩) 400 400] 53 := by rw [hw7]; exact ((Blk.new_at _ _ _ _ (by simp)).alloc _)
      have hk6 : Blk w7 (w3.heap.size + 1 + 1 + 1 + 1 + 1 + 1) (reqV (putV 5 (.slice (some ⟨w3.heap.size + 1 + 1 + 1 + 1 + 1, 0, none⟩) 1 1))).toArray 47 := by rw [hw7]; exact (Blk.new_at _ _ _ _ (by simp))
      have hL7 := HS3.out.2.step hb7
      have hnC : ∀ b, w3.heap.size ≤ b → ¬ C b := fun b hb hC => by have := HS3.out.2.old hC; omega
      have hdz := dataZ_came hL7 HD.out.1
      rw [HD.out.2.2] at hdz hk0 hk2
      have hbl1 : BlAt w7 C (.slice (some ⟨w3.heap.size, 0, none⟩) 1 1) [(n0, d)] := blAt_one hk0 (hnC _ (Nat.le_refl _)) hdz
      have hbl2 : BlAt w7 C (.slice (some ⟨w3.heap.size + 1 + 1, 0, none⟩) 1 1) [(1, d)] := blAt_one hk2 (hnC _ (by omega)) hdz
      have hz4 : DataZ w7 C (.slice (some ⟨w3.heap.size + 1 + 1 + 1 + 1, 0, none⟩) 400 400) (List.replicate 400 0) := z400_at hk4 (hnC _ (by omega))
      have hbl3 : BlAt w7 C (.slice (some ⟨w3.heap.size + 1 + 1 + 1 + 1 + 1, 0, none⟩) 1 1) [(0, List.replicate 400 0)] := blAt_one (bs := List.replicate 400 0) hk5 (hnC _ (by omega)) hz4
      obtain ⟨q1, hq1⟩ : ∃ q, q = w3.heap.size := ⟨_, rfl⟩
      obtain ⟨q2, hq2⟩ : ∃ q, q = w3.heap.size + 1 := ⟨_, rfl⟩
      obtain ⟨q3, hq3⟩ : ∃ q, q = w3.heap.size + 1 + 1 := ⟨_, rfl⟩
      obtain ⟨q4, hq4⟩ : ∃ q, q = w3.heap.size + 1 + 1 + 1 := ⟨_, rfl⟩
      obtain ⟨q6, hq6⟩ : ∃ q, q = w3.heap.size + 1 + 1 + 1 + 1 + 1 := ⟨_, rfl⟩
      obtain ⟨q7, hq7⟩ : ∃ q, q = w3.heap.size + 1 + 1 + 1 + 1 + 1 + 1 := ⟨_, rfl⟩
      have n2C := hnC (w3.heap.size + 1) (by omega)
      have n4C := hnC (w3.heap.size + 1 + 1 + 1) (by omega)
      have n7C := hnC (w3.heap.size + 1 + 1 + 1 + 1 + 1 + 1) (by omega)
      rw [← hq7] at hk6 n7C ⊢
      rw [← hq6] at hk6 hbl3
      rw [← hq4] at hk3 n4C ⊢
      rw [← hq3] at hk3 hbl2
      rw [← hq2] at hk1 n2C ⊢
      rw [← hq1] at hk1 hbl1
      have r1 : readK 52 w7 q2 0 = reqV (put9 (.slice (some ⟨q1, 0, none⟩) 1 1)) := blk_read0 hk1 (put9_size _ _ _)
      have s1 : HasK 52 w7 q2 0 := blk_has hk1 (by simp [put9_size])
      have H7 := Lib.hid (And.intro hL7 (And.intro hbl1 (And.intro hbl2 (And.intro hbl3 (And.intro hk3 (And.intro hk6 (And.intro n4C (And.intro n7C hb7))))))))
      clear hL7 hbl1 hbl2 hbl3 hz4 hdz hk0 hk1 hk2 hk3 hk4 hk5 hk6 hb0 hb1 hb2 hb3 hb4 hb5 hb6 hb7 hw7 hnC hq1 hq2 hq3 hq4 hq6 hq7 n2C n4C n7C
      go_wp2_with fail
      refine (H7.out.1.put hlive hBs (by have := HG.out.2.g.st.writes; omega) (put9_wf _) rfl H7.out.2.1 (fun x hx => by rw [List.mem_singleton.1 hx]; have := HD.out.2.1; show d.length ≤ _; omega)).mono ?_
      rintro e w8 ⟨C8, err, s8, rfl, hP, hL8, hsc8⟩
      obtain ⟨rfl, rfl⟩ : err = 3 ∧ s8 = s := by
        obtain ⟨m, hm⟩ : ∃ m : Nat, (m : Int) = n0 := ⟨n0.toNat, by omega⟩
        rw [← hm] at hP
        exact putSh_full (by omega) (show May 5 from may5) (HG.out.2.other (ix := k9) rfl (by decide) (by omega)) (by rw [hfree]; decide) hP
      have hnn : ∀ x, ¬ C x → x < w7.heap.size → ¬ C8 x := fun x hx hl hC => by
        rcases hsc8.2 _ hC with h1 | h1
        · exact hx h1
        · omega
      have hk4 := hsc8.1.blk H7.out.2.2.2.2.1 H7.out.2.2.2.2.2.2.1
      have hk7 := hsc8.1.blk H7.out.2.2.2.2.2.1 H7.out.2.2.2.2.2.2.2.1
      have r1 : readK 52 w8 q4 0 = reqV (swpV (.slice (some ⟨q3, 0, none⟩) 1 1)) := blk_read0 hk4 (swpV_size _ _ _)
      have s1 : HasK 52 w8 q4 0 := blk_has hk4 (by simp [swpV_size])
      have H8 := Lib.hid (And.intro hL8 (And.intro (BlAt.sch H7.out.2.2.1 hsc8) (And.intro (BlAt.sch H7.out.2.2.2.1 hsc8) (And.intro hk7 (And.intro (hnn _ H7.out.2.2.2.2.2.2.2.1 H7.out.2.2.2.2.2.1.lt) hsc8)))))
      clear hP hL8 hsc8 hnn hk4 hk7
      go_wp2_with fail
      refine (H8.out.1.swap hlive hBs (by have := HG.out.2.g.st.writes; omega) (swpV_wf _) rfl H8.out.2.1 (fun x hx => by rw [List.mem_singleton.1 hx]; have := HD.out.2.1; show d.length ≤ _; omega) (TsAt.nil _ _) (o := none) (HG.out.2.slotNone z16)).mono ?_
      rintro e w9 ⟨C9, err, s9, rfl, hP, hL9, hsc9⟩
      obtain ⟨rfl, rfl⟩ : err = 3 ∧ s9 = s8 := swap_full ⟨by simp, ⟨fun x hx => by rw [List.mem_singleton.1 hx]; exact ⟨(by decide : (0 : Int) ≤ 1), (by decide : (1 : Int) < 16)⟩, by simp⟩, (show May 5 from may5)⟩ (by rw [hfree]; decide) hP
      have hk7 := hsc9.1.blk H8.out.2.2.2.1 H8.out.2.2.2.2.1
      have r2 : readK 52 w9 q7 0 = reqV (putV 5 (.slice (some ⟨q6, 0, none⟩) 1 1)) := blk_read0 hk7 (putV_size _ _ _ _)
      have s2 : HasK 52 w9 q7 0 := blk_has hk7 (by simp [putV_size])
      have H9 := Lib.hid (And.intro hL9 (And.intro (BlAt.sch H8.out.2.2.1 hsc9) (H8.out.2.2.2.2.2.trans hsc9)))
      clear hP hL9 hsc9 hk7 r1 s1
      go_wp2_with fail
      refine (H9.out.1.put hlive hBs (by have := HG.out.2.g.st.writes; omega) (putV_wf 5 _) rfl H9.out.2.1 (fun x hx => by rw [List.mem_singleton.1 hx]; show (List.replicate 400 (0 : UInt8)).length ≤ _; rw [List.length_replicate]; decide)).mono ?_
      rintro e w10 ⟨C10, err, s10, rfl, hP, hL10, hsc10⟩
      obtain ⟨rfl, rfl⟩ : err = 1 ∧ s10 = s9 := putSh_long (n := 0) (x := d) (by decide) (show May 5 from may5) (by show s9.st.get (shareN z16 0) = some d; rw [HG.out.2.sh (by decide)]; rfl) (by rw [hfree]; decide) (by rw [← HG.out.2.g.room, HG.out.2.room]; exact fits400) (fun b l2 ha => (AddR.again (by have := HG.out.2.tab; rwa [if_neg (by decide)] at this) (show May 5 from may5) ha).1) hP
      have hscA := H9.out.2.2.trans hsc10
      have H10 := Lib.hid (And.intro hL10 hscA)
      clear hP hL10 hsc10 hscA r2 s2
      go_wp2_with fail
      refine (H10.out.1.shares hlive hBs z16 rfl).mono ?_
      rintro e w11 ⟨u2, rfl, hO2, hb11⟩
      have hB2 : BlAt w11 (fun _ => False) u2 (s10.shares z16) := (hO2.at (fun b h1 _ h2 => by omega)).mono (fun _ h => h.elim)
      have hB1 : BlAt w11 (fun _ => False) (.slice a1 2 c1) (s10.shares z16) := by
        have h0 : BlAt w2 C (.slice a1 2 c1) [((0 : Int), d), (1, d)] := (HS1.out.1.at (fun b h1 _ h2 => by omega)).mono (fun b hC => .inl (HG.out.1.old hC))
        have h1 := (h0.below (HS3.out.1)).below H7.out.2.2.2.2.2.2.2.2
        rw [HG.out.2.shares]
        exact ((BlAt.sch h1 H10.out.2).below hb11).mono (fun _ h => h.elim)
      obtain ⟨a2, c2, rfl, _⟩ := hO2.slice
      have hbe := blobseq_calls _ _ _ _ w11 hB2 hB1
      rw [show decide (s10.shares z16 = s10.shares z16) = true from by simp] at hbe
      obtain ⟨l2, hl2⟩ : ∃ q, q = (s10.shares z16).length := ⟨_, rfl⟩
      rw [← hl2] at hbe ⊢
      have H11 := Lib.hid (And.intro hbe (And.intro (H10.out.1.step hb11) hl2))
      clear hO2 hb11 hB2 hB1 hbe hl2
      go_wp2_with fail
      refine H11.out.1.mono ?_
      rintro e w12 ⟨rfl, kd, rfl⟩
      have H12 := Lib.hid (H11.out.2.1.step (below_drewN (Below.refl _ _) kd))
      go_wp2_with fail
      refine (srvfree_calls _ _ pb s10 _ H12.out.srv).mono ?_
      rintro e w13 ⟨rfl, hb13⟩
      rw [hfree]
      have H13 := Lib.hid (H12.out.step hb13)
      clear hb13
      have hE2 := HE.out.2
      go_wp2_with fail
      refine (H13.out.living hBs z16 rfl (E - 1)).mono ?_
      rintro e w14 ⟨bb, rfl, hbb, hb14⟩
      obtain rfl : bb = true := hbb.2 (by
        have := HG.out.2.tab
        rw [if_neg (by decide)] at this
        exact ⟨_, this.mem_iff.2 (List.mem_singleton.2 rfl), rfl, by show E - 1 < E; omega⟩)
      have H14 := Lib.hid (H13.out.step hb14)
      clear hbb hb14
      go_wp2_with fail
      refine (wakes16_calls _ H14.out.tab).mono ?_
      rintro e w15 ⟨rfl, hb15⟩
      go_wp2_with fail
      go_ret
      exact ⟨rfl, H14.out.bel.trans (hb15.mono H14.out.bel.size)⟩
end Go.Proofs.YtbbojbdigiibbaaGreatDoor
end
section
namespace Go.Proofs.YtbbojbdigiibbaaGreatDoor
open Go Go.RowKit Go.Mem
theorem tabT : (Tryz.prog.globals[gT]?).map (·.type) = some 295 := by kernel_rfl
theorem tab_of_laid {W : World} (h : laidMetH Tryz.prog [("math/bits.deBruijn32tab", Rows.laid_math_bits_deBruijn32tab), ("math/bits.deBruijn64tab", Rows.laid_math_bits_deBruijn64tab), ("internal/strconv.uint64pow10", Rows.laid_internal_strconv_uint64pow10)] W) : Tab W := by
  rw [MakeChecks.laidMetH_plain _ _ _ (by kernel_rfl)] at h
  obtain ⟨ps, ⟨g0, t0, cs0, f0, p0, q0, hg0, ht0, hv0, hd0, ⟨g1, t1, cs1, f1, p1, q1, hg1, ht1, hv1, hd1, ⟨g2, t2, cs2, f2, p2, q2, hg2, ht2, hv2, hd2, _, _⟩, _⟩, _⟩, _, _⟩ := h
  obtain rfl := Option.some.inj (gT_eq.symm.trans hg2)
  obtain rfl := Option.some.inj (tabT.symm.trans ht2)
  have hd : DataW.trod (fun _ => ()) Tryz.prog W 0 (fun _ => true) false f2 295 cs2.toList = some (Lib.tabData .u64 Lib.pow10Tab, p2) := hd2.trans (by rw [show (Rows.laid_internal_strconv_uint64pow10 : DataW Unit) = Lib.tabData .u64 Lib.pow10Tab from rfl])
  unfold Tab Lib.TabIs
  rw [hv2, ← Lib.cells_of_tab Tryz.underlying295 Tryz.underlying241 (by kernel_rfl) (by kernel_rfl) hd]
end Go.Proofs.YtbbojbdigiibbaaGreatDoor
end
