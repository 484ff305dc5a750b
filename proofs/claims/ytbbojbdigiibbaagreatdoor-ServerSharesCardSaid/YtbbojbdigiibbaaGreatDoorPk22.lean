/- Texts of this proof, packed: SrvWake, ServerSharesWalk, TabOf. -/
import Derived.Test.YtbbojbdigiibbaaGreatDoorPk21
import Derived.Test.YtbbojbdigiibbaaGreatDoorPk01
import Derived.Test.YtbbojbdigiibbaaGreatDoorRows
import Derived.Test.YtbbojbdigiibbaaGreatDoorPk03
import Derived.Lib.LaidTab
import Derived.LaidMore
section
namespace Go.Mem
open Go Go.RowKit Gf Lea Go.Proofs.YtbbojbdigiibbaaGreatDoor
theorem packL_inj : ∀ {a b : List Sec}, (∀ s ∈ a, s.1.length = 16 ∧ May s.2) → (∀ s ∈ b, s.1.length = 16 ∧ May s.2) → packL a = packL b → a = b
  | [], [], _, _, _ => rfl
  | [], y :: b, _, _, h => absurd (packL_nil h.symm) (by simp)
  | x :: a, [], _, _, h => absurd (packL_nil h) (by simp)
  | x :: a, y :: b, ha, hb, h => by
    rw [packL_cons, packL_cons] at h
    obtain ⟨x1, x2⟩ := ha x (by simp)
    obtain ⟨y1, y2⟩ := hb y (by simp)
    obtain ⟨xs, xe⟩ := x
    obtain ⟨ys, ye⟩ := y
    simp only at x1 x2 y1 y2 h
    have t1 := Cod.takeNet_net xs (Cod.net (Cod.be 4 xe.toNat) ++ packL a) (by omega)
    rw [h, Cod.takeNet_net ys _ (by omega)] at t1
    simp only [Option.some.injEq, Prod.mk.injEq] at t1
    obtain ⟨rfl, t1⟩ := t1
    have t2 := Cod.takeNet_net (Cod.be 4 xe.toNat) (packL a) (by rw [Cod.be_len]; omega)
    rw [← t1, Cod.takeNet_net _ _ (by rw [Cod.be_len]; omega)] at t2
    simp only [Option.some.injEq, Prod.mk.injEq] at t2
    obtain ⟨t2, t3⟩ := t2
    have e := congrArg Cod.getN t2
    rw [Cod.getN_be _ _ (by have := y2.2; omega), Cod.getN_be _ _ (by have := x2.2; omega)] at e
    have : xe = ye := by have := x2.1; have := y2.1; omega
    subst this
    rw [packL_inj (fun s hs => ha s (List.mem_cons_of_mem _ hs)) (fun s hs => hb s (List.mem_cons_of_mem _ hs)) t3.symm]
theorem SrvG.told {m : Nat} {s : SrvS} (h : SrvG m s) {ix : Key} (hix : ix.length = 16) {out : List Sec} (hw : ∀ x ∈ out, x.1.length = 16 ∧ May x.2) (hl : Sto.look s.st.recs (leaseN ix) = some (packL out)) : OfR s.tab ix out := by
  rcases h.tab ix hix with ⟨h1, _⟩ | ⟨o, h1, h2, _⟩
  · rw [h1] at hl; cases hl
  · rw [h1] at hl
    have ho : ∀ x ∈ o, x.1.length = 16 ∧ May x.2 := fun x hx => by
      obtain ⟨y, hy, _, e⟩ := mem_ofL.1 (h2.perm.mem_iff.1 hx)
      subst e
      exact ⟨(h.wf y hy).2, h.good.ends y hy⟩
    have := packL_inj ho hw (Option.some.inj hl)
    rw [← this]; exact h2
theorem SrvG.stop {m : Nat} {s : SrvS} (h : SrvG m s) (a k : Int) : SrvG m { s with st := { s.st with disk := s.st.disk.stop a k } } := ⟨h.st.stop a k, h.good, h.wf, h.tab, h.brk, h.slots, h.room, h.few⟩
theorem len_by_ix : ∀ (K : List Key) (l : List Les), (∀ x ∈ l, x.ix ∈ K) → (∀ ix, (ofL l ix).length ≤ 8) → l.length ≤ 8 * K.length
  | [], l, h, _ => by
    cases l with
    | nil => simp
    | cons x l => have := h x (by simp); cases this
  | k :: K, l, h, h8 => by
    have h1 := len_by_ix K (l.filter fun x => !decide (x.ix = k)) (fun x hx => by
      have := h x (List.mem_filter.1 hx).1
      have h2 := (List.mem_filter.1 hx).2
      simp only [Bool.not_eq_true', decide_eq_false_iff_not] at h2
      rcases List.mem_cons.1 this with e | e
      · exact absurd e h2
      · exact e) (fun ix => Nat.le_trans (by
      unfold ofL
      rw [List.length_map, List.length_map]
      exact ((List.filter_sublist (p := fun x => !decide (x.ix = k)) (l := l)).filter _).length_le) (h8 ix))
    have h2 := h8 k
    have h3 := List.length_eq_countP_add_countP (fun x : Les => decide (x.ix = k)) (l := l)
    unfold ofL at h2
    rw [List.length_map, ← List.countP_eq_length_filter] at h2
    rw [← List.countP_eq_length_filter] at h1
    have h4 : l.countP (fun x => !decide (x.ix = k)) = l.countP (fun x => decide (¬ decide (x.ix = k) = true)) := by
      congr 1
      funext x
      by_cases e : x.ix = k <;> simp [e]
    rw [List.length_cons]
    omega
theorem SrvG.srvB {m : Nat} {s : SrvS} (h : SrvG m s) (hm : m < 1000000) : SrvB s := by
  refine ⟨?_, by have := h.st.writes; omega⟩
  have := len_by_ix (s.st.recs.map fun r => ixOf r.name) s.tab (fun x hx => by
    have hw := (h.wf x hx).1
    rcases h.tab x.ix hw with ⟨_, h2⟩ | ⟨o, h1, _⟩
    · exact absurd rfl (ofL_nil.1 h2 x hx)
    · obtain ⟨r, a1, a2, a3, _⟩ := look_at h1
      exact List.mem_map.2 ⟨r, a1, by rw [a3]; exact ixOf_lease hw⟩) h.good.few
  rw [List.length_map, ← h.slots] at this
  have := h.few
  omega
theorem reqV_all {r : Req} (h : r.Wf) (h1 : r.vt.oneCell' = true) (h2 : r.vb.oneCell' = true) : AllK 52 (reqV r) := by
  refine ⟨reqV_len h, fun v hv => ?_⟩
  unfold reqV at hv
  simp only [List.mem_cons, List.mem_append, List.mem_nil_iff, or_false] at hv
  rcases hv with rfl | hv | hv | rfl | hv | rfl | rfl
  · rfl
  · exact bV_one _ v hv
  · exact bV_one _ v hv
  · rfl
  · exact bV_one _ v hv
  · exact h1
  · exact h2
theorem blAt_one {w : World} {N : Nat → Prop} {g : Nat} {n : Int} {a : Option Addr} {c : Nat} {bs : List UInt8} {t : TypeId} (hb : Blk w g #[.int .i64 n, .slice a bs.length c] t) (hN : ¬ N g) (hd : DataZ w N (.slice a bs.length c) bs) : BlAt w N (.slice (some ⟨g, 0, none⟩) 1 1) [(n, bs)] := by
  refine ⟨_, 1, rfl, Nat.le_refl _, by decide, fun _ => ⟨g, 0, rfl, hb.lt, hN, fun i x hx => ?_⟩⟩
  cases i with
  | zero =>
    simp at hx
    subst hx
    exact ⟨by rw [hb.cell]; rfl, a, c, by rw [hb.cell]; rfl, hd⟩
  | succ i => simp at hx
end Go.Mem
namespace Go.Proofs.YtbbojbdigiibbaaGreatDoor
open Go Go.RowKit Go.Mem Gf Lea
set_option linter.unusedVariables false
theorem store_req (dst : Option Tmp) (x y : Operand) (ty : TypeId) (pos : String) (af : Array Edge) (a : Act) (w : World) (K : Act → World → Prop) (Q : Exit → Act → World → Prop)
    (hp : ptrIs (a.eval x) = true) (hy : aggIs (a.eval y) = true) (ht : HasK 52 w (ptrB (a.eval x)) (ptrO (a.eval x))) (hc : AllK 52 (aggL (a.eval y))) :
    Oper.wp Tryz.prog ⟨dst, .store 47 x y, ty, pos, af, none⟩ a w K Q = K (a.put dst undef) (w.setCells (ptrB (a.eval x)) (ptrO (a.eval x)) (aggL (a.eval y))) :=
  wp_storeK i52 dst x y ty pos af a w K Q hp hy ht hc
theorem hasK_zeroR (w : World) (n : Nat) (hn : n = w.heap.size) : HasK 52 (w.alloc (.cells #[Value.int .i64 0, .int .u8 0, .int .u8 0, .int .u8 0, .int .u8 0, .int .u8 0, .int .u8 0, .int .u8 0, .int .u8 0, .int .u8 0, .int .u8 0, .int .u8 0, .int .u8 0, .int .u8 0, .int .u8 0, .int .u8 0, .int .u8 0, .int .u8 0, .int .u8 0, .int .u8 0, .int .u8 0, .int .u8 0, .int .u8 0, .int .u8 0, .int .u8 0, .int .u8 0, .int .u8 0, .int .u8 0, .int .u8 0, .int .u8 0, .int .u8 0, .int .u8 0, .int .u8 0, .int .i64 0, .int .u8 0, .int .u8 0, .int .u8 0, .int .u8 0, .int .u8 0, .int .u8 0, .int .u8 0, .int .u8 0, .int .u8 0, .int .u8 0, .int .u8 0, .int .u8 0, .int .u8 0, .int .u8 0, .int .u8 0, .int .u8 0, .slice none 0 0, .slice none 0 0] 47)) n 0 := by
  subst hn
  exact hasK_new (by simp) w _
theorem setCells_zeroR (w : World) (n : Nat) (hn : n = w.heap.size) (cs : List Value) (h : AllK 52 cs) : (w.alloc (.cells #[Value.int .i64 0, .int .u8 0, .int .u8 0, .int .u8 0, .int .u8 0, .int .u8 0, .int .u8 0, .int .u8 0, .int .u8 0, .int .u8 0, .int .u8 0, .int .u8 0, .int .u8 0, .int .u8 0, .int .u8 0, .int .u8 0, .int .u8 0, .int .u8 0, .int .u8 0, .int .u8 0, .int .u8 0, .int .u8 0, .int .u8 0, .int .u8 0, .int .u8 0, .int .u8 0, .int .u8 0, .int .u8 0, .int .u8 0, .int .u8 0, .int .u8 0, .int .u8 0, .int .u8 0, .int .i64 0, .int .u8 0, .int .u8 0, .int .u8 0, .int .u8 0, .int .u8 0, .int .u8 0, .int .u8 0, .int .u8 0, .int .u8 0, .int .u8 0, .int .u8 0, .int .u8 0, .int .u8 0, .int .u8 0, .int .u8 0, .int .u8 0, .slice none 0 0, .slice none 0 0] 47)).setCells n 0 cs = w.alloc (.cells cs.toArray 47) := setCells_alloc_at _ _ _ _ hn (by rw [h.1]; rfl)
def putV (e : Int) (u : Value) : Req := ⟨2, z16, z16, e, z16, .slice none 0 0, u⟩
theorem putV_wf (e : Int) (u : Value) : (putV e u).Wf := ⟨by show z16.length = 16; decide, by show z16.length = 16; decide, by show z16.length = 16; decide⟩
theorem putV_eq (e : Int) (u : Value) : RF.V ⟨.int .i64 2, zk, zk, .int .i64 e, zk, .slice none 0 0, u⟩ = reqV (putV e u) := rfl
theorem putV_all (e : Int) (a : Option Addr) (n c : Nat) : AllK 52 (reqV (putV e (.slice a n c))) := reqV_all (putV_wf e _) rfl rfl
theorem cutC_all {l : List Value} {n : Nat} (h : l.length = n) : cutC l.toArray 0 n = l := by
  unfold cutC
  subst h
  apply List.ext_getElem?
  intro k
  simp
theorem putV_cut (e : Int) (a : Option Addr) (n c : Nat) : cutC (reqV (putV e (.slice a n c))).toArray 0 52 = reqV (putV e (.slice a n c)) := cutC_all (reqV_len (putV_wf e _))
theorem putV_size (e : Int) (a : Option Addr) (n c : Nat) : (reqV (putV e (.slice a n c))).length = 52 := reqV_len (putV_wf e _)
attribute [local irreducible] RF.V zk reqV
attribute [local go_sem ↓] Go.wp_at_zero Go.wp_at_succ
attribute [local go_sem ↓] load_req store_req build_req_cct
attribute [local go_sem] Value.oneCell' reqOf reqFit List.foldl_cons List.foldl_nil List.all_cons List.all_nil rfs0 rfs1 rfs2 rfs3 rfs4 rfs5 rfs6 rfz ok0 ok1 ok2 ok3 ok4 ok5 ok6 fld_reply0 fld_reply1
attribute [local go_sem] ptrB_eq ptrO_eq ptrIs_eq aggL_eq aggIs_eq readK_drew hasK_drew readK_alloc_past hasK_alloc_past readK_alloc_in hasK_alloc_in setCells_drew setCells_alloc_past hasK_zeroR setCells_zeroR putV_eq putV_all putV_cut putV_size
theorem may5 : May 5 := ⟨by decide, by decide⟩
set_option maxRecDepth 100000 in
set_option maxHeartbeats 1000000 in
theorem wakes16_calls (w : World) (hT : Tab w) : Calls Tryz.prog 16 #[] w fun e w' => e = .returned (.bool true) ∧ Below w.heap.size w w' := by
  have HT := Lib.hid hT
  clear hT
  go_enter Tryz.func16, Tryz.ntmps16
  go_wp2_with fail
  refine (srvnew_calls 4 8 w HT.out (by omega) (by omega) (by omega)).mono ?_
  rintro e w1 ⟨pb, C, rfl, hS, hC, hb1⟩
  have HL := Lib.hid (show SrvL w w1 C pb (freshS 4 8) from ⟨hS, hb1, hC⟩)
  clear hS hC hb1
  go_upto_region 5 with fail
  have hbA : Below w1.heap.size w1 (w1.alloc (.cells #[Value.int .u8 7] 5)) := (Below.refl _ _).alloc (Nat.le_refl _) _
  have hbB := hbA.alloc hbA.size (.cells #[Value.int .i64 1, Value.slice (some ⟨w1.heap.size, 0, none⟩) 1 1] 53)
  have hbD := hbB.alloc hbB.size (.cells (reqV (putV 5 (.slice (some ⟨w1.heap.size + 1, 0, none⟩) 1 1))).toArray 47)
  have hkB : Blk ((w1.alloc (.cells #[Value.int .u8 7] 5)).alloc (.cells #[Value.int .i64 1, Value.slice (some ⟨w1.heap.size, 0, none⟩) 1 1] 53)) (w1.heap.size + 1) #[Value.int .i64 1, Value.slice (some ⟨w1.heap.size, 0, none⟩) 1 1] 53 := Blk.new_at _ _ _ _ (by simp)
  have hdA : Bys (w1.alloc (.cells #[Value.int .u8 7] 5)) (.slice (some ⟨w1.heap.size, 0, none⟩) 1 1) [7] := bys_one w1 7 _ rfl _
  have hkB2 := hkB.alloc (.cells (reqV (putV 5 (.slice (some ⟨w1.heap.size + 1, 0, none⟩) 1 1))).toArray 47)
  have hdB := (hdA.below ((Below.refl _ _).alloc (Nat.le_refl _) (.cells #[Value.int .i64 1, Value.slice (some ⟨w1.heap.size, 0, none⟩) 1 1] 53))).below ((Below.refl _ _).alloc (Nat.le_refl _) (.cells (reqV (putV 5 (.slice (some ⟨w1.heap.size + 1, 0, none⟩) 1 1))).toArray 47))
  have hkD : Blk (((w1.alloc (.cells #[Value.int .u8 7] 5)).alloc (.cells #[Value.int .i64 1, Value.slice (some ⟨w1.heap.size, 0, none⟩) 1 1] 53)).alloc (.cells (reqV (putV 5 (.slice (some ⟨w1.heap.size + 1, 0, none⟩) 1 1))).toArray 47)) (w1.heap.size + 1 + 1) (reqV (putV 5 (.slice (some ⟨w1.heap.size + 1, 0, none⟩) 1 1))).toArray 47 := Blk.new_at _ _ _ _ (by simp)
  obtain ⟨wd, hwd⟩ : ∃ q, q = ((w1.alloc (.cells #[Value.int .u8 7] 5)).alloc (.cells #[Value.int .i64 1, Value.slice (some ⟨w1.heap.size, 0, none⟩) 1 1] 53)).alloc (.cells (reqV (putV 5 (.slice (some ⟨w1.heap.size + 1, 0, none⟩) 1 1))).toArray 47) := ⟨_, rfl⟩
  rw [← hwd] at hbD hkB2 hdB hkD ⊢
  have hlD := hkD.lt
  have hnC : ∀ b, w1.heap.size ≤ b → ¬ C b := fun b hb hC => by have := HL.out.old hC; omega
  have hbl : BlAt wd C (.slice (some ⟨w1.heap.size + 1, 0, none⟩) 1 1) [(1, [7])] := blAt_one (a := some ⟨w1.heap.size, 0, none⟩) (bs := [7]) hkB2 (hnC _ (by omega)) ⟨hdB, _, _, rfl, fun _ b hb => by cases hb; exact ⟨by show w1.heap.size < _; omega, hnC _ (Nat.le_refl _)⟩⟩
  obtain ⟨p8, hp8⟩ : ∃ q, q = w1.heap.size + 1 := ⟨_, rfl⟩
  obtain ⟨p9, hp9⟩ : ∃ q, q = w1.heap.size + 1 + 1 := ⟨_, rfl⟩
  rw [← hp9] at hkD hlD ⊢
  rw [← hp8] at hkD hbl ⊢
  have r52 : readK 52 wd p9 0 = reqV (putV 5 (.slice (some ⟨p8, 0, none⟩) 1 1)) := blk_read0 hkD (putV_size _ _ _ _)
  have g52 : HasK 52 wd p9 0 := blk_has hkD (by simp [putV_size])
  have HD := Lib.hid (And.intro hbD (And.intro hkD (And.intro hbl (hnC p9 (by omega)))))
  have HG := Lib.hid (freshS_good 4 8 (by omega) (by omega))
  clear hbA hbB hbD hkB hdA hkB2 hdB hkD hwd hp8 hp9 hnC hbl hlD
  obtain ⟨s0, hs0⟩ : ∃ x, x = freshS 4 8 := ⟨_, rfl⟩
  have hsl : s0.slots = 4 ∧ s0.room = 8 ∧ s0.tab = [] ∧ s0.st.recs = List.replicate 4 Sto.Rec.free := by rw [hs0]; exact ⟨rfl, rfl, rfl, rfl⟩
  have HL0 := HL.out
  have HG0 := HG.out
  rw [← hs0] at HL0 HG0
  have H0 := Lib.hid (And.intro HL0 (And.intro HG0 hsl))
  clear HL HG HL0 HG0 hs0 hsl
  go_wp2_with fail
  refine ((H0.out.1.step HD.out.1).put H0.out.2.1.1.live ⟨by rw [H0.out.2.2.2.2.1]; simp, by have := H0.out.2.1.1.st.writes; omega⟩ (by have := H0.out.2.1.1.st.writes; omega) (putV_wf 5 _) rfl HD.out.2.2.1 (fun x hx => by rw [List.mem_singleton.1 hx]; decide)).mono ?_
  rintro e w2 ⟨C2, err, s1, rfl, hP, hL2, hsc⟩
  have hres : err = 0 ∧ SrvG 2 s1 ∧ s1.tab.Perm [⟨z16, z16, 5⟩] ∧ (∃ x, Sto.look s1.st.recs (shareN z16 1) = some x) ∧ s1.st.disk.stops = false ∧ s1.room = 8 ∧ s1.st.recs.length = 4 ∧ liveN s1.st.recs ≤ 2 := by
    have hlv : liveN s0.st.recs = 0 := by rw [H0.out.2.2.2.2.2]; exact live_free 4
    have hln : s0.st.recs.length = 4 := by rw [H0.out.2.2.2.2.2, List.length_replicate]
    rcases H0.out.2.1.1.put_one (E := 5) (by decide) (putV_wf 5 _) (n := 1) (by decide) may5 (by decide) (H0.out.2.1.2.1 _) (by rw [H0.out.2.2.2.1]; exact Nat.le_refl _) (by omega) (fun b l2 ha => by
      rw [H0.out.2.2.2.2.1] at ha
      exact AddR.none rfl may5 ha) hP with ⟨a1, a2, a3, a4, a5, a6, a7, a8⟩ | ⟨_, a2, _⟩
    · have h4 : s1.st.recs.length = 4 := by rw [← a2.slots, a6, H0.out.2.2.1]
      exact ⟨a1, a2, a3, ⟨_, by rw [a4, upd, if_neg share_lease, upd]; exact if_pos rfl⟩, a5.trans H0.out.2.1.2.2, a7.trans H0.out.2.2.2.1, h4, by omega⟩
    · rw [H0.out.2.1.2.2] at a2; cases a2
  obtain ⟨rfl, hres⟩ := hres
  have hk2 := hsc.1.blk HD.out.2.1 HD.out.2.2.2
  have r52' : readK 52 w2 p9 0 = reqV (putV 5 (.slice (some ⟨p8, 0, none⟩) 1 1)) := blk_read0 hk2 (putV_size _ _ _ _)
  have g52' : HasK 52 w2 p9 0 := blk_has hk2 (by simp [putV_size])
  have H2 := Lib.hid (And.intro hres (And.intro hL2 (BlAt.sch HD.out.2.2.1 hsc)))
  clear hP hL2 hsc hk2 r52 g52 hres
  go_wp2_with fail
  refine (H2.out.2.1.put H2.out.1.1.live ⟨by rw [H2.out.1.2.1.length_eq]; simp, by have := H2.out.1.1.st.writes; omega⟩ (by have := H2.out.1.1.st.writes; omega) (putV_wf 5 _) rfl H2.out.2.2 (fun x hx => by rw [List.mem_singleton.1 hx]; decide)).mono ?_
  rintro e w3 ⟨C3, err, s2, rfl, hP, hL3, hsc⟩
  have herr : err = 5 := by
    obtain ⟨x, hx⟩ := H2.out.1.2.2.1
    exact H2.out.1.1.put_there (E := 5) (by decide) (putV_wf 5 _) (n := 1) (by decide) may5 (by decide) hx (by rw [H2.out.1.2.2.2.2.1]; exact Nat.le_refl _) (by have := H2.out.1.2.2.2.2.2; omega) H2.out.1.2.2.2.1 (fun b l2 ha => AddR.again H2.out.1.2.1 may5 ha) hP
  subst herr
  have H3 := Lib.hid hL3.bel
  clear hP hL3 hsc
  go_wp2_with fail
  go_ret
  exact ⟨rfl, H3.out⟩
end Go.Proofs.YtbbojbdigiibbaaGreatDoor
end
section
namespace Go.Mem
open Go Go.RowKit Gf Lea Go.Proofs.YtbbojbdigiibbaaGreatDoor
theorem dataZ_arg {w0 w : World} {C : Nat → Prop} {pb : Nat} {s : SrvS} (h : SrvL w0 w C pb s) {v : Value} {bs : List UInt8} (hb : Bys w0 v bs) : DataZ w C v bs := by
  refine ⟨hb.below h.bel, ?_⟩
  obtain ⟨a, c, rfl, h1, h2, h3⟩ := hb
  refine ⟨a, c, rfl, fun h0 b hb => ?_⟩
  subst hb
  obtain ⟨g, off, e, hc⟩ := h3 h0
  injection e with e
  have hlt : b.block < w0.heap.size := by
    rw [e]
    exact World.block_lt_of_cell? w0 ⟨g, off + 0, none⟩ (hc 0 _ (List.getElem?_eq_getElem h0))
  exact ⟨Nat.lt_of_lt_of_le hlt h.bel.size, fun hC => by have := h.c1 _ hC; omega⟩
theorem fm_congr {α β : Type} {f g : α → Option β} : ∀ {l : List α}, (∀ x ∈ l, f x = g x) → l.filterMap f = l.filterMap g
  | [], _ => rfl
  | x :: l, h => by
    rw [List.filterMap_cons, List.filterMap_cons, h x (by simp), fm_congr (l := l) fun y hy => h y (List.mem_cons_of_mem _ hy)]
theorem shares_two {s : SrvS} {ix : Key} {a : List UInt8} {ob : Option (List UInt8)} (h : ∀ n, n < 16 → s.st.get (shareN ix n) = if n = 3 then some a else if n = 1 then ob else none) : s.shares ix = (ob.map fun b => ((1 : Int), b)).toList ++ [(3, a)] := by
  have e : s.shares ix = (List.range 16).filterMap fun n : Nat => (if n = 3 then some a else if n = 1 then ob else none).map fun b => ((n : Int), b) := by
    unfold SrvS.shares SrvS.sharesK
    refine fm_congr fun n hn => ?_
    rw [h n (List.mem_range.1 hn)]
  rw [e]
  cases ob <;> rfl
end Go.Mem
namespace Go.Proofs.YtbbojbdigiibbaaGreatDoor
open Go Go.RowKit Go.Mem Gf Lea
set_option linter.unusedVariables false
attribute [local irreducible] RF.V zk reqV
attribute [local go_sem ↓] Go.wp_at_zero Go.wp_at_succ
attribute [local go_sem ↓] load_req store_req build_req_cct
attribute [local go_sem] Value.oneCell' reqOf reqFit List.foldl_cons List.foldl_nil List.all_cons List.all_nil rfs0 rfs1 rfs2 rfs3 rfs4 rfs5 rfs6 rfz ok0 ok1 ok2 ok3 ok4 ok5 ok6 fld_reply0 fld_reply1
attribute [local go_sem] ptrB_eq ptrO_eq ptrIs_eq aggL_eq aggIs_eq readK_drew hasK_drew readK_alloc_past hasK_alloc_past readK_alloc_in hasK_alloc_in setCells_drew setCells_alloc_past hasK_zeroR setCells_zeroR putV_eq putV_all putV_cut putV_size
set_option maxRecDepth 100000 in
set_option maxHeartbeats 1000000 in
theorem shares1_calls {w0 w : World} {C : Nat → Prop} {pb p9 : Nat} {s : SrvS} (h : SrvL w0 w C pb s) (hp : w.cell? ⟨p9, 0, none⟩ = some (.pointer (some ⟨pb, 0, none⟩))) (hd : s.dead = false) (hB : SrvB s) (hw : s.st.disk.writes < 72057594037800000) (n : Nat) (v : Value) (bs : List UInt8) (hv : DataZ w C v bs) (hl : bs.length ≤ 1000000) :
    Calls Tryz.prog 30 #[.int .i64 n, v, .pointer (some ⟨p9, 0, none⟩)] w fun e w' => ∃ C' err s' u, e = .returned (.int .i64 err) ∧ PutSh s (putV 9 u) [((n : Int), bs)] err s' ∧ SrvL w0 w' C' pb s' ∧ SChg C C' w w' := by
  obtain ⟨_, va, vc, rfl, _⟩ := id hv
  have hkB : Blk (w.alloc (.cells #[Value.int .i64 n, Value.slice va bs.length vc] 53)) w.heap.size #[Value.int .i64 n, Value.slice va bs.length vc] 53 := Blk.new _ _ _
  have hbB : Below w.heap.size w (w.alloc (.cells #[Value.int .i64 n, Value.slice va bs.length vc] 53)) := (Below.refl _ _).alloc (Nat.le_refl _) _
  have hbl : BlAt (w.alloc (.cells #[Value.int .i64 n, Value.slice va bs.length vc] 53)) C (.slice (some ⟨w.heap.size, 0, none⟩) 1 1) [((n : Int), bs)] :=
    blAt_one hkB (fun hC => by have := h.old hC; omega) (hv.chg (S := fun _ => False) (Chg.of_below hbB) (fun _ h => h.elim))
  obtain ⟨q, hq⟩ : ∃ q, q = bs.length := ⟨_, rfl⟩
  rw [← hq] at hkB hbB hbl ⊢
  have H := Lib.hid (And.intro h (And.intro hd (And.intro hB (And.intro hw (And.intro hbl (And.intro hbB (And.intro hl hq)))))))
  clear h hd hB hw hbl hbB hkB hv hl hq
  go_enter Tryz.func30, Tryz.ntmps30
  go_wp2_with fail
  refine ((H.out.1.step H.out.2.2.2.2.2.1).put H.out.2.1 H.out.2.2.1 H.out.2.2.2.1 (putV_wf 9 _) rfl H.out.2.2.2.2.1 (fun x hx => by rw [List.mem_singleton.1 hx]; exact H.out.2.2.2.2.2.2.1)).mono ?_
  rintro e w2 ⟨C2, err, s1, rfl, hP, hL2, hsc⟩
  have H2 := Lib.hid (And.intro hP (And.intro hL2 (hsc.pre H.out.2.2.2.2.2.1)))
  clear hP hL2 hsc
  go_wp2_with fail
  go_ret
  exact ⟨C2, err, s1, _, rfl, H2.out.1, H2.out.2.1, H2.out.2.2⟩
theorem callShares1 : ∀ args w, (callFunc 30 args).run Tryz.prog w = .ok (.enter 30 args) w := fun args w => by kernel_rfl
theorem may9 : May 9 := ⟨by decide, by decide⟩
set_option maxRecDepth 20000 in
set_option maxHeartbeats 4000000 in
theorem serverShares_walk (w : World) (hT : Tab w) (va : Value) (xs : List UInt8) (ha : Bys w va xs) (vb : Value) (ys : List UInt8) (hb : Bys w vb ys) (p : Int) (_hp : -9223372036854775808 ≤ p ∧ p ≤ 9223372036854775807) (q : Int) (_hq : -9223372036854775808 ≤ q ∧ q ≤ 9223372036854775807) :
    Calls Tryz.prog 7 #[va, vb, .int .i64 p, .int .i64 q] w fun e w' => e = .returned (.bool true) ∧ Below w.heap.size w w' := by
  have HT := Lib.hid hT; have HA := Lib.hid ha; have HB := Lib.hid hb
  clear hT ha hb _hp _hq
  go_enter Tryz.func7, Tryz.ntmps7
  go_wp2_with fail
  refine (srvnew_calls 6 8 w HT.out (by omega) (by omega) (by omega)).mono ?_
  rintro e w1 ⟨pb, C, rfl, hS, hC, hb1⟩
  have HL := Lib.hid (show SrvL w w1 C pb (freshS 6 8) from ⟨hS, hb1, hC⟩)
  clear hS hC hb1
  go_upto_region 2 with fail
  have hk9 : Blk (w1.alloc (.cells #[Value.pointer (some ⟨pb, 0, none⟩)] 23)) w1.heap.size #[Value.pointer (some ⟨pb, 0, none⟩)] 23 := Blk.new _ _ _
  have hL1 := HL.out.step ((Below.refl w1.heap.size w1).alloc (Nat.le_refl _) (.cells #[Value.pointer (some ⟨pb, 0, none⟩)] 23))
  have hn9 : ¬ C w1.heap.size := fun hC => by have := HL.out.old hC; omega
  obtain ⟨wa, hwa⟩ : ∃ x, x = w1.alloc (.cells #[Value.pointer (some ⟨pb, 0, none⟩)] 23) := ⟨_, rfl⟩
  obtain ⟨p9, hp9⟩ : ∃ x, x = w1.heap.size := ⟨_, rfl⟩
  rw [← hwa] at hk9 hL1 ⊢
  rw [← hp9] at hk9 hn9 ⊢
  have c9 : wa.cell? ⟨p9, 0, none⟩ = some (.pointer (some ⟨pb, 0, none⟩)) := hk9.cell 0
  have l9 := hk9.lt
  have HG := freshS_good 6 8 (by omega) (by omega)
  obtain ⟨s0, hs0⟩ : ∃ x, x = freshS 6 8 := ⟨_, rfl⟩
  have hsl : s0.slots = 6 ∧ s0.room = 8 ∧ s0.tab = [] ∧ s0.st.recs = List.replicate 6 Sto.Rec.free := by rw [hs0]; exact ⟨rfl, rfl, rfl, rfl⟩
  rw [← hs0] at hL1 HG
  have H1 := Lib.hid (And.intro hL1 (And.intro hk9 (And.intro hn9 (And.intro HG hsl))))
  clear HL hwa hp9 hk9 hL1 hn9 HG hs0 hsl
  go_wp2_with fail
  refine (cut8_two va xs 150 w wa HA.out (HA.out.below H1.out.1.bel)).mono ?_
  rintro e w2 ⟨⟨va', rfl, hA⟩, rfl⟩
  go_wp2_with fail
  refine (cut8_two vb ys 150 w wa HB.out (HB.out.below H1.out.1.bel)).mono ?_
  rintro e w2 ⟨⟨vb', rfl, hB⟩, rfl⟩
  obtain ⟨A, hAA⟩ : ∃ A, A = xs.take 150 := ⟨_, rfl⟩
  obtain ⟨B, hBB⟩ : ∃ B, B = ys.take 150 := ⟨_, rfl⟩
  have la : A.length ≤ 150 := by rw [hAA, List.length_take]; omega
  have lb' : B.length ≤ 150 := by rw [hBB, List.length_take]; omega
  rw [← hAA] at hA
  rw [← hBB] at hB
  have HA' := Lib.hid (And.intro hA la); have HB' := Lib.hid (And.intro hB lb')
  have hcs := callShares1
  clear hA hB hAA hBB la lb'
  have g0 := H1.out.2.2.2.1.1
  go_wp2_with fail
  refine (shares1_calls H1.out.1 (H1.out.2.1.cell 0) g0.live ⟨by rw [H1.out.2.2.2.2.2.2.1]; simp, by have := g0.st.writes; omega⟩ (by have := g0.st.writes; omega) 3 va' A (dataZ_arg H1.out.1 HA'.out.1) (by have := HA'.out.2; omega)).mono ?_
  rintro e w2 ⟨C2, err, s1, u1, rfl, hP, hL2, hsc⟩
  have hlv : liveN s0.st.recs = 0 := by rw [H1.out.2.2.2.2.2.2.2]; exact live_free 6
  have hln : s0.st.recs.length = 6 := by rw [H1.out.2.2.2.2.2.2.2, List.length_replicate]
  have hr0 := g0.put_one (E := 9) (by decide) (putV_wf 9 u1) (n := 3) (by decide) may9 (by have := HA'.out.2; omega) (H1.out.2.2.2.1.2.1 _) (by rw [H1.out.2.2.2.2.2.1]; exact Nat.le_refl _) (by omega) (fun b l2 ha => by
      rw [H1.out.2.2.2.2.2.2.1] at ha
      exact AddR.none rfl may9 ha) hP
  have hst0 := H1.out.2.2.2.1.2.2
  have hres : err = 0 ∧ SrvG 2 s1 ∧ s1.tab.Perm [⟨z16, z16, 9⟩] ∧ (∀ nm, Sto.look s1.st.recs nm = upd (upd (fun _ => none) (shareN z16 3) (some A)) (leaseN z16) (some (packL [(z16, 9)])) nm) ∧ s1.slots = 6 ∧ s1.room = 8 ∧ liveN s1.st.recs ≤ 2 := by
    rcases hr0 with ⟨a1, a2, a3, a4, a5, a6, a7, a8⟩ | ⟨_, a2, _⟩
    · have e2 : Sto.look s0.st.recs = fun _ => none := funext H1.out.2.2.2.1.2.1
      refine ⟨a1, a2, a3, fun nm => ?_, a6.trans H1.out.2.2.2.2.1, a7.trans H1.out.2.2.2.2.2.1, by omega⟩
      rw [a4, e2]; rfl
    · rw [hst0] at a2; cases a2
  clear hr0
  obtain ⟨rfl, hres⟩ := hres
  have hk2 := hsc.1.blk H1.out.2.1 H1.out.2.2.1
  have hn2 : ¬ C2 p9 := fun hC => by
    rcases hsc.2 _ hC with h1 | h1
    · exact H1.out.2.2.1 h1
    · have := H1.out.2.1.lt; omega
  have c9 : w2.cell? ⟨p9, 0, none⟩ = some (.pointer (some ⟨pb, 0, none⟩)) := hk2.cell 0
  have c9d : w2.drew.cell? ⟨p9, 0, none⟩ = some (.pointer (some ⟨pb, 0, none⟩)) := hk2.cell 0
  have H2 := Lib.hid (And.intro hL2 (And.intro hk2 (And.intro hn2 hres)))
  clear hP hL2 hsc hres hk2 hn2 hlv hln hst0 g0 l9
  go_upto_region 8 with fail
  obtain ⟨hx1, hx2⟩ := within_range p 12 (by decide)
  obtain ⟨x, hx⟩ : ∃ x, x = within p 12 := ⟨_, rfl⟩
  have HX := Lib.hid hx
  rw [← hx] at hx1 hx2
  clear hx
  go_region_held3 (fun w' => w'.cell? ⟨p9, 0, none⟩ = some (.pointer (some ⟨pb, 0, none⟩))) (first | exact c9d | with_reducible assumption)
    (first
      | (go_at_call 13
         refine (within_calls p 12 (by decide) (by decide) w2.drew).mono ?_
         rintro e w3 ⟨rfl, rfl⟩
         rw [← HX.out]
         have hh : w2.drew.cell? ⟨p9, 0, none⟩ = some (.pointer (some ⟨pb, 0, none⟩)) := H2.out.2.1.drew.cell 0)
      | (go_at_call 28
         refine ((H2.out.1.step (Below.refl _ _).drew).stop x q (by omega)).mono ?_
         rintro e w4 ⟨rfl, hL4, hsc4⟩
         have hk4 := hsc4.1.blk H2.out.2.1.drew H2.out.2.2.1
         have hh : w4.cell? ⟨p9, 0, none⟩ = some (.pointer (some ⟨pb, 0, none⟩)) := hk4.cell 0
         have H4 := Lib.hid (And.intro hL4 hk4)
         clear hL4 hsc4 hk4))
  have g1 := H2.out.2.2.2.1.stop x q
  obtain ⟨s1s, hs1s⟩ : ∃ z : SrvS, z = { s1 with st := { s1.st with disk := s1.st.disk.stop x q } } := ⟨_, rfl⟩
  have hL4 := H4.out.1
  rw [← hs1s] at g1 hL4
  have hf1 : s1s.tab.Perm [⟨z16, z16, 9⟩] ∧ (∀ nm, Sto.look s1s.st.recs nm = upd (upd (fun _ => none) (shareN z16 3) (some A)) (leaseN z16) (some (packL [(z16, 9)])) nm) ∧ s1s.slots = 6 ∧ s1s.room = 8 ∧ liveN s1s.st.recs ≤ 2 := by rw [hs1s]; exact H2.out.2.2.2.2
  have hn4 := H2.out.2.2.1
  have c9 : w4.cell? ⟨p9, 0, none⟩ = some (.pointer (some ⟨pb, 0, none⟩)) := H4.out.2.cell 0
  have H5 := Lib.hid (And.intro hL4 (And.intro g1 (And.intro hf1 (And.intro H4.out.2 hn4))))
  have hcs := callShares1
  clear g1 hs1s hL4 hf1 hn4 hh c9d
  go_wp2_with fail
  refine (shares1_calls H5.out.1 (H5.out.2.2.2.1.cell 0) H5.out.2.1.live ⟨by rw [H5.out.2.2.1.1.length_eq]; simp, by have := H5.out.2.1.st.writes; omega⟩ (by have := H5.out.2.1.st.writes; omega) 1 vb' B (dataZ_arg H5.out.1 HB'.out.1) (by have := HB'.out.2; omega)).mono ?_
  rintro e w5 ⟨C5, err, s2, u2, rfl, hP, hL5, hsc5⟩
  have hlen : s1s.st.recs.length = 6 := by rw [← H5.out.2.1.slots]; exact H5.out.2.2.1.2.2.1
  have hr0 := H5.out.2.1.put_one (E := 9) (by decide) (putV_wf 9 u2) (n := 1) (by decide) may9 (by have := HB'.out.2; omega) (by
      rw [H5.out.2.2.1.2.1, upd, if_neg share_lease, upd, if_neg]
      exact fun e => absurd (shareN_inj e rfl rfl (by decide) (by decide)).2 (by decide)) (by rw [H5.out.2.2.1.2.2.2.1]; exact Nat.le_refl _) (by have := H5.out.2.2.1.2.2.2.2; omega) (fun b l2 ha => AddR.again H5.out.2.2.1.1 may9 ha) hP
  have hres : ∃ ob : Option (List UInt8), (ob = none ∨ ob = some B) ∧ (err = 0 → ob = some B) ∧ (err = 0 ∨ err = 8) ∧ s2.slots = 6 ∧ s2.room = 8 ∧ SrvT 4 s2 (upd (upd (upd (fun _ => none) (shareN z16 3) (some A)) (shareN z16 1) ob) (leaseN z16) (some (packL [(z16, 9)]))) := by
    have e3 : ∀ nm, Sto.look s1s.st.recs nm = upd (upd (upd (fun _ => none) (shareN z16 3) (some A)) (shareN z16 1) none) (leaseN z16) (some (packL [(z16, 9)])) nm := fun nm => by
      rw [H5.out.2.2.1.2.1]
      unfold upd
      split
      · rfl
      · split
        · rename_i h1
          rw [if_neg]
          rw [h1]
          exact fun e => absurd (shareN_inj e rfl rfl (by decide) (by decide)).2 (by decide)
        · split <;> rfl
    have e4 : ∀ nm, upd (upd (Sto.look s1s.st.recs) (shareN z16 1) (some B)) (leaseN z16) (some (packL [(z16, 9)])) nm = upd (upd (upd (fun _ => none) (shareN z16 3) (some A)) (shareN z16 1) (some B)) (leaseN z16) (some (packL [(z16, 9)])) nm := fun nm => by
      have h1 := H5.out.2.2.1.2.1 nm
      unfold upd at h1 ⊢
      split
      · rfl
      · rename_i hne
        rw [if_neg hne] at h1
        split
        · rfl
        · exact h1
    have e5 : ∀ nm, upd (Sto.look s1s.st.recs) (shareN z16 1) (some B) nm = upd (upd (upd (fun _ => none) (shareN z16 3) (some A)) (shareN z16 1) (some B)) (leaseN z16) (some (packL [(z16, 9)])) nm := fun nm => by
      rw [← e4]
      have h1 := H5.out.2.2.1.2.1 nm
      unfold upd at h1 ⊢
      by_cases hne : nm = leaseN z16
      · rw [if_pos hne]
        rw [if_pos hne] at h1
        rw [if_neg (by rw [hne]; exact fun e => share_lease e.symm), h1]
      · rw [if_neg hne]
    rcases hr0 with ⟨a1, a2, a3, a4, a5, a6, a7, a8⟩ | ⟨a1, a2, a3, a4, f, a5, a6⟩
    · exact ⟨some B, .inr rfl, fun _ => rfl, .inl a1, a6.trans H5.out.2.2.1.2.2.1, a7.trans H5.out.2.2.1.2.2.2.1, .inl ⟨a2, fun nm => by rw [a4, ← e4]; rfl⟩⟩
    · have a3' := a3.trans H5.out.2.2.1.2.2.1
      have a4' := a4.trans H5.out.2.2.1.2.2.2.1
      rcases a6 with a6 | a6 | a6
      · exact ⟨none, .inl rfl, fun h => (by omega), .inr a1, a3', a4', by rw [show f = _ from funext fun nm => (a6 nm).trans (e3 nm)] at a5; exact a5⟩
      · exact ⟨some B, .inr rfl, fun _ => rfl, .inr a1, a3', a4', by rw [show f = _ from funext fun nm => (a6 nm).trans (e5 nm)] at a5; exact a5⟩
      · exact ⟨some B, .inr rfl, fun _ => rfl, .inr a1, a3', a4', by rw [show f = _ from funext fun nm => (a6 nm).trans (e4 nm)] at a5; exact a5⟩
  clear hr0
  obtain ⟨ob, ho1, ho2, ho3, ho4, ho5, ho6⟩ := hres
  have hk5 := hsc5.1.blk H5.out.2.2.2.1 H5.out.2.2.2.2
  have hn5 : ¬ C5 p9 := fun hC => by
    rcases hsc5.2 _ hC with h1 | h1
    · exact H5.out.2.2.2.2 h1
    · have := H5.out.2.2.2.1.lt; omega
  have c9 : w5.cell? ⟨p9, 0, none⟩ = some (.pointer (some ⟨pb, 0, none⟩)) := hk5.cell 0
  have H6 := Lib.hid (And.intro hL5 (And.intro hk5 (And.intro hn5 (And.intro ho1 (And.intro ho2 (And.intro ho3 (And.intro ho4 (And.intro ho5 ho6))))))))
  clear hP hL5 hsc5 hlen hk5 hn5 ho1 ho2 ho3 ho4 ho5 ho6
  go_wp2_with fail
  refine (H6.out.1.restartT H6.out.2.2.2.2.2.2.2.2 (by decide)).mono ?_
  rintro e w6 ⟨C6, s3, rfl, hg3, hk3, hst3, hsl3, hro3, hL6, hsc6⟩
  have hk6 := hsc6.1.blk H6.out.2.1 H6.out.2.2.1
  have c9 : w6.cell? ⟨p9, 0, none⟩ = some (.pointer (some ⟨pb, 0, none⟩)) := hk6.cell 0
  have hsh : s3.shares z16 = (ob.map fun b => ((1 : Int), b)).toList ++ [(3, A)] := shares_two fun n hn => by
    rw [hg3.get, hk3, upd, if_neg share_lease, upd]
    by_cases h1 : n = 1
    · subst h1; rfl
    · rw [if_neg (fun e => h1 (shareN_inj e rfl rfl hn (by decide)).2), upd]
      by_cases h2 : n = 3
      · subst h2; rfl
      · rw [if_neg (fun e => h2 (shareN_inj e rfl rfl hn (by decide)).2), if_neg h2, if_neg h1]
  have htd : OfR s3.tab z16 [(z16, 9)] := hg3.told rfl (fun x hx => by rw [List.mem_singleton.1 hx]; exact ⟨rfl, may9⟩) (by rw [hk3, upd, if_pos rfl])
  have hlv : Lives s3.tab z16 8 := (htd.lives 8).2 ⟨_, List.mem_singleton.2 rfl, by decide⟩
  have hB3 : SrvB s3 := hg3.srvB (by decide)
  have H7 := Lib.hid (And.intro hL6 (And.intro hg3 (And.intro hB3 (And.intro hsh hlv))))
  clear hg3 hk3 hst3 hsl3 hro3 hL6 hsc6 hsh htd hlv hB3
  have l9 := hk6.lt
  have HK6 := Lib.hid hk6
  clear hk6
  go_wp2_with fail
  refine (H7.out.1.shares H7.out.2.1.live H7.out.2.2.1 z16 rfl).mono ?_
  rintro e w7 ⟨u, rfl, hO, hb7⟩
  rw [H7.out.2.2.2.1] at hO
  have hat : BlAt w7 (fun _ => False) u ((ob.map fun b => ((1 : Int), b)).toList ++ [(3, A)]) := (hO.mono (M := fun _ => False) (fun _ h => h.elim)).at (fun _ _ _ h => h)
  have hL7 := H7.out.1.step hb7
  have hk7 := HK6.out.kept hb7
  have c9 : w7.cell? ⟨p9, 0, none⟩ = some (.pointer (some ⟨pb, 0, none⟩)) := hk7.cell 0
  have l9 := hk7.lt
  have H8 := Lib.hid (And.intro hL7 hk7)
  clear hO hb7 hL7 hk7
  cases ob with
  | none =>
    obtain ⟨ua, uc, rfl, _, hc2, h3⟩ := hat
    obtain ⟨g, off, rfl, hg, _, hcell⟩ := h3 (by simp)
    obtain ⟨q0, a0, k0, q1, q2⟩ := hcell 0 (3, A) rfl
    simp only [Nat.zero_mul, Nat.add_zero] at q0 q1
    obtain ⟨la, hla⟩ : ∃ n, n = A.length := ⟨_, rfl⟩
    simp only [← hla] at q1 q2
    have HD := Lib.hid (And.intro hla (And.intro q2.1 hg))
    have herr : err = 8 := by
      rcases H6.out.2.2.2.2.2.1 with h | h
      · have := H6.out.2.2.2.2.1 h; cases this
      · exact h
    subst herr
    clear h3 hcell q2 hla hg
    go_upto_region 13 with fail
    go_wp2_with
      (first
        | (refine (same8_yes _ _ A A w7 (HD.out.2.1) (HA'.out.1.below H8.out.1.bel) rfl).mono ?_
           rintro e w8 ⟨rfl, d8, rfl⟩)
        | (refine ((H8.out.1.step (below_drewN (Below.refl _ _) d8)).living H7.out.2.2.1 z16 rfl 8).mono ?_
           rintro e w9 ⟨bb, rfl, hbb, hb9⟩
           obtain rfl : bb = true := hbb.2 H7.out.2.2.2.2
           have H9 := Lib.hid ((H8.out.1.step (below_drewN (Below.refl _ _) d8)).step hb9)
           clear hbb hb9)
        | (refine (wakes16_calls _ (H9.out.tab)).mono ?_
           rintro e w11 ⟨rfl, hb11⟩)
        | fail)
    go_ret
    exact ⟨rfl, H9.out.bel.trans (hb11.mono H9.out.bel.size)⟩
  | some b0 =>
    obtain rfl : b0 = B := by
      rcases H6.out.2.2.2.1 with h | h
      · cases h
      · exact Option.some.inj h
    obtain ⟨ua, uc, rfl, _, hc2, h3⟩ := hat
    obtain ⟨g, off, rfl, hg, _, hcell⟩ := h3 (by simp)
    obtain ⟨q0, a0, k0, q1, q2⟩ := hcell 0 (1, b0) rfl
    obtain ⟨q3, a3, k3, q4, q5⟩ := hcell 1 (3, A) rfl
    simp only [Nat.zero_mul, Nat.add_zero] at q0 q1
    simp only [Nat.one_mul] at q3 q4
    have q4' : w7.cell? ⟨g, off + 3, none⟩ = some (.slice a3 A.length k3) := q4
    obtain ⟨la, hla⟩ : ∃ n, n = A.length := ⟨_, rfl⟩
    obtain ⟨lb, hlb⟩ : ∃ n, n = b0.length := ⟨_, rfl⟩
    simp only [← hla] at q4 q4' q5
    simp only [← hlb] at q1 q2
    have hkeep : ∀ wx, Below w7.heap.size w7 wx → ∀ o, wx.cell? ⟨g, o, none⟩ = w7.cell? ⟨g, o, none⟩ := fun wx hb o => hb.cell (p := ⟨g, o, none⟩) hg
    have HD := Lib.hid (And.intro hla (And.intro q5.1 (And.intro q2.1 (And.intro hg hkeep))))
    have HERR0 := Lib.hid H6.out.2.2.2.2.2.1
    have H10 := Lib.hid (And.intro hlb hkeep)
    clear h3 hcell q2 q5 hla hlb hg hkeep
    go_wp2_with fail
    refine (same8_yes _ _ A A w7 (HD.out.2.1) (HA'.out.1.below H8.out.1.bel) rfl).mono ?_
    rintro e w8 ⟨rfl, d8, rfl⟩
    go_wp2_with fail
    refine ((H8.out.1.step (below_drewN (Below.refl _ _) d8)).living H7.out.2.2.1 z16 rfl 8).mono ?_
    rintro e w9 ⟨bb, rfl, hbb, hb9⟩
    obtain rfl : bb = true := hbb.2 H7.out.2.2.2.2
    have HB9 := Lib.hid ((below_drewN (Below.refl w7.heap.size w7) d8).trans hb9)
    have H9 := Lib.hid ((H8.out.1.step (below_drewN (Below.refl _ _) d8)).step hb9)
    have q0' : w9.cell? ⟨g, off, none⟩ = some (.int .i64 1) := (HD.out.2.2.2.2 w9 HB9.out _).trans q0
    have q1' : w9.cell? ⟨g, off + 1, none⟩ = some (.slice a0 lb k0) := (HD.out.2.2.2.2 w9 HB9.out _).trans q1
    clear hbb hb9 q0 q1 q3 q4 q4'
    go_wp2_with fail
    refine (same8_yes _ _ b0 b0 w9 (HD.out.2.2.1.below HB9.out) (HB'.out.1.below H9.out.bel) rfl).mono ?_
    rintro e w10 ⟨rfl, d10, rfl⟩
    have HT10 := Lib.hid (H9.out.step (below_drewN (Below.refl _ _) d10))
    go_upto_region 18 with fail
    have HERR := HERR0.out
    rcases HERR with rfl | rfl
    · go_wp2_with fail
      refine (wakes16_calls _ HT10.out.tab).mono ?_
      rintro e w11 ⟨rfl, hb11⟩
      go_wp2_with fail
      go_ret
      exact ⟨rfl, HT10.out.bel.trans (hb11.mono HT10.out.bel.size)⟩
    · go_wp2_with fail
      refine (wakes16_calls _ HT10.out.tab).mono ?_
      rintro e w11 ⟨rfl, hb11⟩
      go_wp2_with fail
      go_ret
      exact ⟨rfl, HT10.out.bel.trans (hb11.mono HT10.out.bel.size)⟩
end Go.Proofs.YtbbojbdigiibbaaGreatDoor
end
section
namespace Go.Proofs.YtbbojbdigiibbaaGreatDoor
open Go Go.RowKit Go.Mem
theorem tabT : (Tryz.prog.globals[gT]?).map (·.type) = some 295 := by kernel_rfl
theorem tab_of_laid {W : World} (h : laidMetH Tryz.prog [("math/bits.deBruijn32tab", Rows.laid_math_bits_deBruijn32tab), ("math/bits.deBruijn64tab", Rows.laid_math_bits_deBruijn64tab), ("internal/strconv.uint64pow10", Rows.laid_internal_strconv_uint64pow10)] W) : Tab W := by
  rw [MakeChecks.laidMetH_plain _ _ _ (by kernel_rfl)] at h
  obtain ⟨ps, ⟨g0, t0, cs0, f0, p0, q0, hg0, ht0, hv0, hd0, ⟨g1, t1, cs1, f1, p1, q1, hg1, ht1, hv1, hd1, ⟨g2, t2, cs2, f2, p2, q2, hg2, ht2, hv2, hd2, _, _⟩, _⟩, _⟩, _, _⟩ := h
  obtain rfl := Option.some.inj (gT_eq.symm.trans hg2)
  obtain rfl := Option.some.inj (tabT.symm.trans ht2)
  have hd : DataW.trod (fun _ => ()) Tryz.prog W 0 (fun _ => true) false f2 295 cs2.toList = some (Lib.tabData .u64 Lib.pow10Tab, p2) := hd2.trans (by rw [show (Rows.laid_internal_strconv_uint64pow10 : DataW Unit) = Lib.tabData .u64 Lib.pow10Tab from rfl])
  unfold Tab Lib.TabIs
  rw [hv2, ← Lib.cells_of_tab Tryz.underlying295 Tryz.underlying241 (by kernel_rfl) (by kernel_rfl) hd]
end Go.Proofs.YtbbojbdigiibbaaGreatDoor
end
