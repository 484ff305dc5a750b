/- Texts of this proof, packed: ServerSlotsWalk, TabOf. -/
import Derived.Test.YtclhgokchcklbaaGreatDoorPk19
import Derived.Test.YtclhgokchcklbaaGreatDoorPk18
import Derived.Test.YtclhgokchcklbaaGreatDoorPk08
import Derived.Test.YtclhgokchcklbaaGreatDoorPk20
import Derived.Test.YtclhgokchcklbaaGreatDoorRows
import Derived.Test.YtclhgokchcklbaaGreatDoorPk01
import Derived.Lib.LaidTab
import Derived.LaidMore
section
namespace Go.Proofs.YtclhgokchcklbaaGreatDoor
open Go Go.RowKit Go.Mem Gf Lea
set_option linter.unusedVariables false
set_option linter.unusedSimpArgs false
def e4V : List Value := bV en4
def e5V : List Value := bV en5
theorem e4V_eq : e4V = bV en4 := rfl
theorem e5V_eq : e5V = bV en5 := rfl
theorem e4V_len : e4V.length = 16 := rfl
theorem e5V_len : e5V.length = 16 := rfl
theorem e4V_all : AllK 16 e4V := ⟨rfl, fun v hv => bV_one _ v hv⟩
theorem e5V_all : AllK 16 e5V := ⟨rfl, fun v hv => bV_one _ v hv⟩
theorem build_e4 (dst : Option Tmp) (ty : TypeId) (pos : String) (af : Array Edge) (gd : Option (Tmp × Bool)) (a : Act) (w : World) (K : Act → World → Prop) (Q : Exit → Act → World → Prop) :
    Oper.wp Tryz.prog ⟨dst, .build 44 #[(0, .const (.int .u8 4))], ty, pos, af, gd⟩ a w K Q = K (a.put dst (.agg e4V.toArray)) w :=
  build_k0 dst (.const (.int .u8 4)) ty pos af gd a w K Q rfl
theorem build_e5 (dst : Option Tmp) (ty : TypeId) (pos : String) (af : Array Edge) (gd : Option (Tmp × Bool)) (a : Act) (w : World) (K : Act → World → Prop) (Q : Exit → Act → World → Prop) :
    Oper.wp Tryz.prog ⟨dst, .build 44 #[(0, .const (.int .u8 5))], ty, pos, af, gd⟩ a w K Q = K (a.put dst (.agg e5V.toArray)) w :=
  build_k0 dst (.const (.int .u8 5)) ty pos af gd a w K Q rfl
theorem rq4_eq (vb : Value) : RF.V ⟨.int .i64 4, zk, zk, .int .i64 9, e4V, .slice none 0 0, vb⟩ = reqV (rq en4 (.slice none 0 0) vb) := rfl
theorem rq_all (en : Key) (h : en.length = 16) (a : Option Addr) (n c : Nat) (a' : Option Addr) (n' c' : Nat) : AllK 52 (reqV (rq en (.slice a n c) (.slice a' n' c'))) := reqV_all (rq_wf h _ _) rfl rfl
theorem rq4_all (a : Option Addr) (n c : Nat) (a' : Option Addr) (n' c' : Nat) : AllK 52 (reqV (rq en4 (.slice a n c) (.slice a' n' c'))) := rq_all en4 rfl a n c a' n' c'
theorem rq4_size (a : Option Addr) (n c : Nat) (a' : Option Addr) (n' c' : Nat) : (reqV (rq en4 (.slice a n c) (.slice a' n' c'))).length = 52 := reqV_len (rq_wf rfl _ _)
def smV (A : List UInt8) : List Value := bV (Sha.sum A)
theorem smV_eq (A : List UInt8) : bV (Sha.sum A) = smV A := rfl
theorem smV_len (A : List UInt8) : (smV A).length = 32 := by rw [← smV_eq, bV_len, Sha.sum_len]
def t0V (A : List UInt8) : List Value := tstV ⟨0, false, Sha.sum A⟩
theorem t0V_eq (A : List UInt8) : .int .i64 0 :: .bool false :: smV A = t0V A := rfl
theorem t0V_def (A : List UInt8) : tstV ⟨0, false, Sha.sum A⟩ = t0V A := rfl
theorem t0V_len (A : List UInt8) : (t0V A).length = 34 := tstV_len (Sha.sum_len A)
def taV (n : Int) : List Value := tstV ⟨n, true, z32⟩
theorem taV_eq (n : Int) : tstV ⟨n, true, z32⟩ = taV n := rfl
theorem taV_len (n : Int) : (taV n).length = 34 := rfl
theorem taV_all (n : Int) : AllK 34 (taV n) := ⟨rfl, fun v hv => by
  simp only [taV, tstV, List.mem_cons] at hv
  rcases hv with rfl | rfl | hv
  · rfl
  · rfl
  · exact bV_one _ v hv⟩
attribute [local irreducible] RF.V zk reqV e4V e5V smV t0V taV
attribute [local go_sem ↓] Go.wp_at_zero Go.wp_at_succ
attribute [local go_sem ↓] load_req store_req store_key build_e4 build_e5 build_req_cctt build_ta build_tw slice_test slice_tests2
attribute [local go_sem] Value.oneCell' reqOf reqFit List.foldl_cons List.foldl_nil List.all_cons List.all_nil rfs0 rfs1 rfs2 rfs3 rfs4 rfs5 rfs6 rfz ok0 ok1 ok2 ok3 ok4 ok5 ok6 fld_reply0 fld_reply1
attribute [local go_sem] ptrB_eq ptrO_eq ptrIs_eq aggL_eq aggIs_eq readK_drew hasK_drew readK_alloc_past hasK_alloc_past readK_alloc_in hasK_alloc_in setCells_drew setCells_alloc_past setCells_zeroR e4V_len e4V_all e5V_len e5V_all rq4_eq rq4_all rq4_size smV_len t0V_eq t0V_len taV_eq taV_len taV_all
set_option maxRecDepth 20000 in
set_option maxHeartbeats 4000000 in
theorem serverSlots_walk (w : World) (hT : Tab w) (va : Value) (xs : List UInt8) (ha : Bys w va xs) (vb : Value) (ys : List UInt8) (hb : Bys w vb ys) (tw : Bool) (at_ : Int) (_h1 : -9223372036854775808 ≤ at_ ∧ at_ ≤ 9223372036854775807) (keep : Int) (_h2 : -9223372036854775808 ≤ keep ∧ keep ≤ 9223372036854775807) :
    Calls Tryz.prog 4 #[va, vb, .bool tw, .int .i64 at_, .int .i64 keep] w fun e w' => e = .returned (.bool true) ∧ Below w.heap.size w w' := by
  have HT := Lib.hid (And.intro hT (And.intro ha hb))
  clear hT ha hb _h1 _h2
  go_enter Tryz.func4, Tryz.ntmps4
  go_wp2_with fail
  refine (srvnew_calls 6 12 w HT.out.1 (by omega) (by omega) (by omega)).mono ?_
  rintro e w1 ⟨pb, C, rfl, hS, hC, hb1⟩
  have HG := freshS_good 6 12 (by omega) (by omega)
  have H0 := Lib.hid (And.intro (show SrvL w w1 C pb (freshS 6 12) from ⟨hS, hb1, hC⟩) HG)
  clear hS hC hb1 HG
  have hnn : ∀ {C C' : Nat → Prop} {w w' : World}, SChg C C' w w' → ∀ x, ¬ C x → x < w.heap.size → ¬ C' x := fun {C C' w w'} hsc x hx hl hC => by
    rcases hsc.2 _ hC with h1 | h1
    · exact hx h1
    · omega
  go_upto_region 4 with fail
  go_wp2_with fail
  refine (cut8_two va xs 100 w w1 HT.out.2.1 (HT.out.2.1.below H0.out.1.bel)).mono ?_
  rintro e w2 ⟨⟨va', rfl, hA⟩, rfl⟩
  go_wp2_with fail
  refine (cut8_two vb ys 100 w w1 HT.out.2.2 (HT.out.2.2.below H0.out.1.bel)).mono ?_
  rintro e w2 ⟨⟨vb', rfl, hB⟩, rfl⟩
  obtain ⟨A, hA'⟩ : ∃ A, A = xs.take 100 := ⟨_, rfl⟩
  have hAl : A.length ≤ 100 := by rw [hA', List.length_take]; omega
  rw [← hA'] at hA
  obtain ⟨B, hB'⟩ : ∃ B, B = ys.take 100 := ⟨_, rfl⟩
  have hBl : B.length ≤ 100 := by rw [hB', List.length_take]; omega
  rw [← hB'] at hB
  obtain ⟨aa, ac, rfl⟩ := hA.eq_slice
  obtain ⟨an, han⟩ : ∃ q, q = A.length := ⟨_, rfl⟩
  obtain ⟨ba, bc, rfl⟩ := hB.eq_slice
  obtain ⟨bn, hbn⟩ : ∃ q, q = B.length := ⟨_, rfl⟩
  rw [← han] at hA ⊢
  rw [← hbn] at hB ⊢
  have HD := Lib.hid (And.intro hA (And.intro hB (And.intro hAl (And.intro hBl (And.intro han hbn)))))
  clear hA hB hA' hB' hAl hBl han hbn
  go_upto_region 7 with fail
  obtain ⟨q0, hq0⟩ : ∃ q, q = w1.heap.size := ⟨_, rfl⟩
  rw [← hq0]
  obtain ⟨wA, hwA⟩ : ∃ q, q = ((w1.alloc (.cells #[Value.int .u8 1] 5)).alloc (.cells #[Value.int .i64 0, .slice aa an ac, .int .i64 2, .slice (some ⟨q0, 0, none⟩) 1 1] 41)).alloc (.cells (reqV (rq en4 (.slice none 0 0) (.slice (some ⟨q0 + 1, 0, none⟩) 2 2))).toArray 47) := ⟨_, rfl⟩
  rw [← hwA]
  have hb1 := (Below.refl w1.heap.size w1).alloc (Nat.le_refl _) (.cells #[Value.int .u8 1] 5)
  have hb2 := hb1.alloc hb1.size (.cells #[Value.int .i64 0, .slice aa an ac, .int .i64 2, .slice (some ⟨q0, 0, none⟩) 1 1] 41)
  have hbA := hb2.alloc hb2.size (.cells (reqV (rq en4 (.slice none 0 0) (.slice (some ⟨q0 + 1, 0, none⟩) 2 2))).toArray 47)
  have k1 : Blk wA q0 (bV [1]).toArray 5 := by
    rw [hwA, hq0]; exact ((Blk.new w1 #[Value.int .u8 1] _).alloc _).alloc _
  have k2 : Blk wA (q0 + 1) #[Value.int .i64 0, .slice aa an ac, .int .i64 2, .slice (some ⟨q0, 0, none⟩) 1 1] 41 := by
    rw [hwA]; exact (Blk.new_at _ _ _ _ (by rw [hq0]; simp)).alloc _
  have k3 : Blk wA (q0 + 1 + 1) (reqV (rq en4 (.slice none 0 0) (.slice (some ⟨q0 + 1, 0, none⟩) 2 2))).toArray 47 := by
    rw [hwA]; exact Blk.new_at _ _ _ _ (by rw [hq0]; simp)
  rw [← hwA] at hbA
  have hszA : wA.heap.size = q0 + 3 := by rw [hwA, hq0]; simp
  have hw1 := H0.out.1.bel.size
  have hold : ∀ x, C x → x < q0 := fun x hx => by rw [hq0]; exact H0.out.1.old hx
  have n1 : ¬ C q0 := fun h => by have := hold _ h; omega
  have n2 : ¬ C (q0 + 1) := fun h => by have := hold _ h; omega
  have n3 : ¬ C (q0 + 1 + 1) := fun h => by have := hold _ h; omega
  have hYA : SrvY w wA C (fun b => b = q0 + 1 + 1) pb (freshS 6 12) := H0.out.1.y hbA (fun b hb => by omega) (fun b hb => by omega)
  have hNw : ∀ b, C b ∨ b = q0 + 1 + 1 → w.heap.size ≤ b := fun b hb => hb.elim (hYA.c1 b) (fun e => by omega)
  have hdA : DataZ wA (fun b => C b ∨ b = q0 + 1 + 1) (.slice aa an ac) A := dataZ_old hYA.bel hNw HD.out.1
  have hbl : BlAt wA (fun b => C b ∨ b = q0 + 1 + 1) (.slice (some ⟨q0 + 1, 0, none⟩) 2 2) (two A [1]) := by
    have h1 := HD.out.2.2.2.2.1
    refine blAt_pair (a := aa) (c := ac) (by rw [← h1]; exact k2) (fun h => h.elim n2 (fun e => by omega)) (by rw [← h1]; exact hdA) (dataZ_new k1 rfl (fun h => h.elim n1 (fun e => by omega)) (by decide))
  obtain ⟨o1, o2, o3, o4⟩ := two_ok (y := [1]) HD.out.2.2.1 (by decide)
  have hwr := H0.out.2.1.st.writes
  have hsw := hYA.swap H0.out.2.1.live (H0.out.2.1.srvB (by decide)) (by omega) (rq_wf en4_len (.slice none 0 0) (.slice (some ⟨q0 + 1, 0, none⟩) 2 2)) rfl hbl o2 (TsAt.nil _ _) (o := none) (by
    show (freshS 6 12).st.get (slotN z16) = none
    rw [H0.out.2.1.get, H0.out.2.2.1])
  obtain ⟨p14, hp14⟩ : ∃ q, q = q0 + 1 + 1 := ⟨_, rfl⟩
  rw [← hp14] at k3 n3 hsw hYA ⊢
  have r3 : readK 52 wA p14 0 = reqV (rq en4 (.slice none 0 0) (.slice (some ⟨q0 + 1, 0, none⟩) 2 2)) := blk_read0 k3 (rq4_size _ _ _ _ _ _)
  have g3 : HasK 52 wA p14 0 := blk_has k3 (by simp [rq4_size])
  have H1 := Lib.hid (And.intro hsw (And.intro k1 (And.intro k2 (And.intro k3 (And.intro n1 (And.intro n2 (And.intro n3 (And.intro hYA.bel hszA))))))))
  have hp14' := Lib.hid (And.intro hp14 hq0)
  clear hsw k1 k2 k3 n1 n2 n3 hdA hYA hNw hbl hwA hb1 hb2 hbA hwr o1 o2 o3 o4 hold hp14 hq0 hszA hw1
  go_wp2_with fail
  refine H1.out.1.mono ?_
  rintro e w4 ⟨C1, err, s1, rfl, hP, hL1, hsc1⟩
  obtain ⟨rfl, g1, g2, g3', g4, g5, g6, g7⟩ : err = 0 ∧ SrvG 2 s1 ∧ s1.tab.Perm [⟨z16, z16, 9⟩] ∧ (∀ nm, Sto.look s1.st.recs nm = upd (upd (fun _ => none) (slotN z16) (some (contB en4 (two A [1])))) (leaseN z16) (some (packL [(z16, 9)])) nm) ∧ s1.st.disk.stops = false ∧ s1.slots = 6 ∧ s1.room = 12 ∧ liveN s1.st.recs ≤ 2 := by
    have hfr : (freshS 6 12).st.recs = List.replicate 6 Sto.Rec.free := rfl
    have hl0 : liveN (freshS 6 12).st.recs = 0 := by rw [hfr, live_free]
    obtain ⟨o1, o2, o3, o4⟩ := two_ok (y := [1]) HD.out.2.2.1 (by decide)
    rcases H0.out.2.1.swap_gen (by decide) (rq_wf en4_len (.slice none 0 0) (.slice (some ⟨q0 + 1, 0, none⟩) 2 2)) (o := none) (l := two A [1]) (ts := []) (L := two A [1]) (E := 9) (by
        show (freshS 6 12).st.get (slotN z16) = none
        rw [H0.out.2.1.get, H0.out.2.2.1]) o3 o1 o2 may9s (fun h => by cases h) (fun t h => by cases h) (fun l' h1 h2 => two_eq h1 h2) (two_fits (room := 12) HD.out.2.2.1 (by decide) (Nat.le_refl _) rfl rfl) (show (8 : Nat) ≤ 12 from by decide) (by rw [hl0, hfr, List.length_replicate]; decide)
        (fun b l2 h => by
          obtain ⟨h1, h2⟩ := AddR.none (ofL_nil.2 fun x hx => by cases hx) may9s h
          exact ⟨h1, h2⟩) hP with ⟨a1, a2, a3, a4, a5, a6, a7, a8⟩ | ⟨_, a2, _⟩
    · refine ⟨a1, a2, a3, fun nm => ?_, a5.trans H0.out.2.2.2, a6, a7, by omega⟩
      rw [a4]
      show upd (upd _ _ _) _ _ nm = upd (upd _ _ _) _ _ nm
      rw [show Sto.look (freshS 6 12).st.recs = fun _ => none from funext H0.out.2.2.1]
      rfl
    · rw [H0.out.2.2.2] at a2; cases a2
  have k1' := hsc1.1.blk H1.out.2.1 H1.out.2.2.2.2.1
  have k2' := hsc1.1.blk H1.out.2.2.1 H1.out.2.2.2.2.2.1
  have k3' := hsc1.1.blk H1.out.2.2.2.1 H1.out.2.2.2.2.2.2.1
  have n1' := hnn hsc1 q0 H1.out.2.2.2.2.1 H1.out.2.1.lt
  have n2' := hnn hsc1 (q0 + 1) H1.out.2.2.2.2.2.1 H1.out.2.2.1.lt
  have n3' := hnn hsc1 p14 H1.out.2.2.2.2.2.2.1 H1.out.2.2.2.1.lt
  have c51 : w4.cell? ⟨p14, 51, none⟩ = some (.slice (some ⟨q0 + 1, 0, none⟩) 2 2) := by rw [k3'.cell, List.getElem?_toArray]; exact (reqV_tail (rq_wf en4_len _ _)).2
  have f51 := k3'.free 51
  have HA2 := Lib.hid (And.intro hL1 hsc1)
  have H2 := Lib.hid (And.intro hL1 (And.intro g1 (And.intro g2 (And.intro g3' (And.intro g4 (And.intro g5 (And.intro g6 g7)))))))
  have HK := Lib.hid (And.intro k1' (And.intro k2' (And.intro k3' (And.intro n1' (And.intro n2' n3')))))
  clear hP hL1 hsc1 g1 g2 g3' g4 g5 g6 g7 k1' k2' k3' n1' n2' n3' r3 g3
  have l14 := HK.out.2.2.1.lt
  go_upto_region 11 with fail
  obtain ⟨g0, hg0⟩ : ∃ q, q = w4.heap.size := ⟨_, rfl⟩
  obtain ⟨p15, hp15⟩ : ∃ q, q = w4.heap.size + 1 + 1 := ⟨_, rfl⟩
  rw [← hp15]
  rw [← hg0]
  obtain ⟨wS, hwS⟩ : ∃ q, q = w4.setCell ⟨p14, 51, none⟩ (.slice (some ⟨g0, 0, none⟩) 1 1) := ⟨_, rfl⟩
  rw [← hwS]
  obtain ⟨wB, hwB⟩ : ∃ q, q = ((wS.alloc (.cells #[Value.int .i64 0, .slice ba bn bc] 41)).alloc (.cells #[Value.int .u8 1] 5)).alloc (.cells #[Value.int .i64 0, .slice ba bn bc, .int .i64 2, .slice (some ⟨g0 + 1, 0, none⟩) 1 1] 41) := ⟨_, rfl⟩
  rw [← hwB]
  have HB0 : SrvY w wB C1 (fun b => b = p14 ∨ (b = p15 ∨ b = g0)) pb s1 ∧ Blk wB g0 (eP (bp 0 ba bn bc)).toArray 41 ∧ Blk wB (g0 + 1) (bV [1]).toArray 5 ∧ Blk wB p15 #[Value.int .i64 0, .slice ba bn bc, .int .i64 2, .slice (some ⟨g0 + 1, 0, none⟩) 1 1] 41 ∧ Blk wB p14 (reqV (rq en4 (.slice none 0 0) (.slice (some ⟨g0, 0, none⟩) 1 1))).toArray 47 ∧ Blk wB q0 (bV [1]).toArray 5 ∧ Blk wB (q0 + 1) #[Value.int .i64 0, .slice aa an ac, .int .i64 2, .slice (some ⟨q0, 0, none⟩) 1 1] 41 ∧ wB.heap.size = g0 + 3 ∧ q0 + 3 ≤ g0 := by
    have hsz : wS.heap.size = g0 := by rw [hwS, hg0]; simp
    have hch : Chg (fun b => b = p14) w4 wS := by rw [hwS]; exact Chg.set (S := fun b => b = p14) (a := ⟨p14, 51, none⟩) (Chg.refl _ _) rfl _
    have hb1 := (Below.refl wS.heap.size wS).alloc (Nat.le_refl _) (.cells #[Value.int .i64 0, .slice ba bn bc] 41)
    have hb2 := hb1.alloc hb1.size (.cells #[Value.int .u8 1] 5)
    have hb3 := hb2.alloc hb2.size (.cells #[Value.int .i64 0, .slice ba bn bc, .int .i64 2, .slice (some ⟨g0 + 1, 0, none⟩) 1 1] 41)
    rw [← hwB] at hb3
    have hszB : wB.heap.size = g0 + 3 := by rw [hwB]; simp [hsz]
    have e1 := hp14'.out.1
    have e2 : q0 + 3 ≤ g0 := by have := l14; omega
    have n14 := HK.out.2.2.2.2.2
    have kS : ∀ {b : Nat} {arr : Array Value} {t : TypeId}, Blk w4 b arr t → b ≠ p14 → Blk wB b arr t := fun hb hn => (hch.blk hb hn).kept hb3
    refine ⟨((HA2.out.1.chg hch).more hb3 (fun b h => .inl h) (fun b h => h.elim .inl (fun e => .inr (by omega))) (fun b h => by omega)), ?_, ?_, ?_, ?_, kS HK.out.1 (by omega), kS HK.out.2.1 (by omega), hszB, e2⟩
    · rw [hwB]; exact ((Blk.new_at wS _ _ g0 hsz.symm).alloc _).alloc _
    · rw [hwB]; exact (Blk.new_at _ _ _ _ (by simp [hsz])).alloc _
    · rw [hwB]; exact Blk.new_at _ _ _ _ (by simp [hsz]; omega)
    · have h1 := HK.out.2.2.1.set 51 (.slice (some ⟨g0, 0, none⟩) 1 1)
      rw [reqV_setvb (rq_wf en4_len _ _), ← hwS] at h1
      exact h1.kept hb3
  obtain ⟨zc, hzc⟩ : ∃ q : List UInt8, q = if tw then [2, 2] else [1] := ⟨_, rfl⟩
  obtain ⟨lb, hlb⟩ : ∃ q : List Blob, q = if tw then two B [2, 2] else [((0 : Int), B)] := ⟨_, rfl⟩
  have HZ := Lib.hid (And.intro hzc hlb)
  have c51 : wB.cell? ⟨p14, 51, none⟩ = some (.slice (some ⟨g0, 0, none⟩) 1 1) := by rw [HB0.2.2.2.2.1.cell, List.getElem?_toArray]; exact (reqV_tail (rq_wf en4_len _ _)).2
  have f51 := HB0.2.2.2.2.1.free 51
  have f3 := HB0.2.2.2.1.free 3
  have H3 := Lib.hid HB0
  have HP := Lib.hid (And.intro hp15 hg0)
  clear HB0 hzc hlb hwB hwS hp15 hg0
  have hszB := H3.out.2.2.2.2.2.2.2.1
  go_upto_if 56 with fail
  go_cut [] (fun wx => Hid (∃ (gz : Nat) (ub : Option Addr) (un uc : Nat), SrvY w wx C1 (fun b => b = p14 ∨ b = p15) pb s1 ∧ Blk wx p14 (reqV (rq en4 (.slice none 0 0) (.slice ub un uc))).toArray 47 ∧ BlAt wx (fun b => C1 b ∨ (b = p14 ∨ b = p15)) (.slice ub un uc) lb ∧ Blk wx p15 #[Value.int .i64 0, .slice ba bn bc, .int .i64 2, .slice (some ⟨gz, 0, none⟩) zc.length zc.length] 41 ∧ Blk wx gz (bV zc).toArray 5 ∧ Blk wx q0 (bV [1]).toArray 5 ∧ Blk wx (q0 + 1) #[Value.int .i64 0, .slice aa an ac, .int .i64 2, .slice (some ⟨q0, 0, none⟩) 1 1] 41 ∧ g0 ≤ gz ∧ gz ≠ p15 ∧ gz ≠ p14))
  case first =>
    have hdB := dataZ_old (w := wB) H3.out.1.bel (N := fun b => C1 b ∨ (b = p14 ∨ b = p15)) (fun b hb => hb.elim (H3.out.1.c1 b) (fun h => H3.out.1.x1 b (h.elim .inl (fun e => .inr (.inl e))))) HD.out.2.1
    have ho1 := ownG_new (k := 2) (Wf := WfP) (base := g0) H3.out.2.1 rfl trivial (Nat.le_refl _)
    have hC1 : ∀ b, C1 b → b < g0 := fun b hb => by have := HA2.out.1.l.old hb; rw [HP.out.2]; exact this
    have hp15' : p15 = g0 + 2 := by rw [HP.out.1, HP.out.2]
    have hp14l : p14 < g0 := by have := hp14'.out.1; have := H3.out.2.2.2.2.2.2.2.2; omega
    have HF := Lib.hid (And.intro hdB (And.intro ho1 (And.intro hC1 (And.intro hp15' hp14l))))
    clear hdB ho1 hC1 hp15' hp14l
    have hN0 : ∀ g, g0 ≤ g → g ≠ p15 → ¬ (C1 g ∨ (g = p14 ∨ g = p15)) := fun g h1 h2 h => by
      rcases h with h | h | h
      · have := HF.out.2.2.1 _ h; omega
      · have := HF.out.2.2.2.2; omega
      · exact h2 h
    have HN0 := Lib.hid hN0
    clear hN0
    cases tw with
    | false =>
      go_wp2_with fail
      go_meet
      have hz : zc = [1] := HZ.out.1
      have hl : lb = [((0 : Int), B)] := HZ.out.2
      subst hz
      subst hl
      exact ⟨g0 + 1, some ⟨g0, 0, none⟩, 1, 1, ⟨H3.out.1.srv.less (fun b h => h.elim .inl (fun e => .inr (.inl e))), H3.out.1.bel, H3.out.1.c1, fun b h => H3.out.1.x1 b (h.elim .inl (fun e => .inr (.inl e)))⟩, H3.out.2.2.2.2.1, (BPs.one rfl HD.out.2.2.2.2.2 HF.out.1).blAt HF.out.2.1 (fun g hg => by
        have : g = g0 := by injection hg with hg; exact hg.symm
        rw [this]; exact HN0.out g0 (Nat.le_refl _) (by have := HF.out.2.2.2.1; omega)), H3.out.2.2.2.1, H3.out.2.2.1, H3.out.2.2.2.2.2.1, H3.out.2.2.2.2.2.2.1, by omega, by have := HF.out.2.2.2.1; omega, by have := HF.out.2.2.2.2; omega⟩
    | true =>
      have hz : zc = [2, 2] := HZ.out.1
      have hl : lb = two B [2, 2] := HZ.out.2
      subst hz
      subst hl
      obtain ⟨u1, hu1⟩ : ∃ q : Nat, q = 1 := ⟨1, rfl⟩
      obtain ⟨ua, hua⟩ : ∃ q : Option Addr, q = some ⟨g0, 0, none⟩ := ⟨_, rfl⟩
      have c51' : wB.cell? ⟨p14, 51, none⟩ = some (.slice ua u1 u1) := by rw [hu1, hua]; exact c51
      clear c51
      have ho2 : ∀ (w2 : World), Below wB.heap.size wB w2 → OwnG eP WfP 2 41 w2 g0 (.slice ua u1 u1) [bp 0 ba bn bc] := fun (w2 : World) (hb : Below wB.heap.size wB w2) => by rw [hu1, hua]; exact HF.out.2.1.chg (Chg.of_below (S := fun _ => False) hb) (fun _ _ h => h)
      have HO2 := Lib.hid ho2
      have HU := Lib.hid (And.intro hu1 hua)
      clear ho2 hu1 hua
      go_upto_region 12 with fail
      go_wp2_with (at_builtin; refine appG_own EKb ecP rfl _ _ rfl (base := g0) (v := .slice ua u1 u1) (l := [bp 0 ba bn bc]) (bp 2 (some ⟨g0 + 3, 0, none⟩) 2 2) trivial rfl (mb := g0 + 3 + 1) (cx := 1) rfl (show Blk _ _ (eP (bp 2 (some ⟨g0 + 3, 0, none⟩) 2 2)).toArray 41 from Blk.new_at _ _ _ _ (by simp [hszB])) (HO2.out _ (((Below.refl _ _).alloc (Nat.le_refl _) _).alloc (by simp) _)) (show 1 + 1 ≤ 4294967296 from by decide) (by decide) ?z1 ?_)
      case z1 => first | omega | (simp; omega)
      intro v8 w8 ho8 hg8 hn8
      have hcc2 := Chg.grown (S := fun b => (Value.slice ua u1 u1).ownBlock = some b) (Chg.refl _ _) hg8 (fun _ hq => .inl hq)
      have hcc : Chg (fun b => (Value.slice ua u1 u1).ownBlock = some b) wB w8 := Chg.grown (S := fun b => (Value.slice ua u1 u1).ownBlock = some b) (Chg.of_below (((Below.refl _ _).alloc (Nat.le_refl _) _).alloc (by simp) _)) hg8 (fun _ hq => .inl hq)
      have hob : ∀ b, (Value.slice ua u1 u1).ownBlock = some b → b = g0 := fun b hb => by
        rw [HU.out.2] at hb
        injection hb with hb
        exact hb.symm
      obtain ⟨a8, d8, e8⟩ := ho8.slice
      have e8 : v8 = .slice a8 2 d8 := e8
      subst e8
      have kb8 : Blk w8 (g0 + 3) (bV [2, 2]).toArray 5 := hcc2.blk ((Blk.new_at _ _ _ _ (by simp [hszB])).alloc _) (fun e => by have := hob _ e; omega)
      have k14 : Blk w8 p14 (reqV (rq en4 (.slice none 0 0) (.slice (some ⟨g0, 0, none⟩) 1 1))).toArray 47 := hcc.blk H3.out.2.2.2.2.1 (fun e => by have := hob _ e; have := HF.out.2.2.2.2; omega)
      have k15 := hcc.blk H3.out.2.2.2.1 (fun e => by have := hob _ e; have := HF.out.2.2.2.1; omega)
      have kq0 := hcc.blk H3.out.2.2.2.2.2.1 (fun e => by have := hob _ e; have := H3.out.2.2.2.2.2.2.2.2; omega)
      have kq1 := hcc.blk H3.out.2.2.2.2.2.2.1 (fun e => by have := hob _ e; have := H3.out.2.2.2.2.2.2.2.2; omega)
      have y8 : SrvY w w8 C1 (fun b => b = p14 ∨ (b = p15 ∨ b = g0)) pb s1 := H3.out.1.chg (hcc.mono fun b hb => .inr (.inr (hob b hb)))
      have f51' := k14.free 51
      have f3' := k15.free 3
      have c3' : w8.cell? ⟨p15, 3, none⟩ = some (.slice (some ⟨g0 + 1, 0, none⟩) 1 1) := k15.cell 3
      have c51'' : w8.cell? ⟨p14, 51, none⟩ = some (.slice (some ⟨g0, 0, none⟩) 1 1) := by rw [k14.cell, List.getElem?_toArray]; exact (reqV_tail (rq_wf en4_len _ _)).2
      have l14 := k14.lt
      have l15 := k15.lt
      have hne8 : ∀ k, (Value.slice a8 2 d8).ownBlock = some k → g0 ≤ k ∧ k ≠ p15 := fun k hk => ⟨ho8.ge hk, by
        have h15 := HF.out.2.2.2.1
        rcases hn8 k hk with h | h
        · have := hob _ h; omega
        · have h' : g0 + 3 + 2 ≤ k := by simpa [hszB] using h
          omega⟩
      have HN8 := Lib.hid hne8
      clear hne8
      have H8 := Lib.hid (And.intro ho8 (And.intro kb8 (And.intro k14 (And.intro k15 (And.intro kq0 (And.intro kq1 (And.intro y8 (And.intro hcc hob))))))))
      clear ho8 hg8 hn8 hcc2 hcc hob kb8 k14 k15 kq0 kq1 y8 c51' f51 f3
      go_wp2_with fail
      go_meet
      obtain ⟨g9, hg9⟩ : ∃ q, q = w8.heap.size := ⟨_, rfl⟩
      rw [← hg9]
      obtain ⟨w9, hw9⟩ : ∃ q, q = ((w8.setCell ⟨p14, 51, none⟩ (.slice a8 2 d8)).setCell ⟨p15, 3, none⟩ (.slice (some ⟨g9, 0, none⟩) 2 2)).alloc (.cells #[Value.int .u8 2, .int .u8 2] 5) := ⟨_, rfl⟩
      rw [← hw9]
      obtain ⟨ws, hws⟩ : ∃ q, q = (w8.setCell ⟨p14, 51, none⟩ (.slice a8 2 d8)).setCell ⟨p15, 3, none⟩ (.slice (some ⟨g9, 0, none⟩) 2 2) := ⟨_, rfl⟩
      rw [← hws] at hw9
      have hzs : ws.heap.size = g9 := by rw [hws, hg9]; simp
      have hb9 : Below ws.heap.size ws w9 := by rw [hw9]; exact (Below.refl _ _).alloc (Nat.le_refl _) _
      have hcs : Chg (fun b => b = p14 ∨ b = p15) w8 ws := by
        rw [hws]
        exact Chg.set (S := fun b => b = p14 ∨ b = p15) (a := ⟨p15, 3, none⟩) (Chg.set (S := fun b => b = p14 ∨ b = p15) (a := ⟨p14, 51, none⟩) (Chg.refl _ _) (.inl rfl) _) (.inr rfl) _
      have d15 := HF.out.2.2.2.1
      have d14 := HF.out.2.2.2.2
      have hqg := H3.out.2.2.2.2.2.2.2.2
      have hz8 : g0 + 3 ≤ w8.heap.size := Nat.le_of_lt H8.out.2.1.lt
      have e14 := hp14'.out.1
      have k14 : Blk ws p14 (reqV (rq en4 (.slice none 0 0) (.slice a8 2 d8))).toArray 47 := by
        have h1 := H8.out.2.2.1.set 51 (.slice a8 2 d8)
        rw [reqV_setvb (rq_wf en4_len _ _)] at h1
        rw [hws]
        exact h1.set_other (a := ⟨p15, 3, none⟩) (show p15 ≠ p14 by omega) _
      have k15 : Blk ws p15 #[Value.int .i64 0, .slice ba bn bc, .int .i64 2, .slice (some ⟨g9, 0, none⟩) 2 2] 41 := by
        have h1 := (H8.out.2.2.2.1.set_other (a := ⟨p14, 51, none⟩) (show p14 ≠ p15 by omega) (.slice a8 2 d8)).set 3 (.slice (some ⟨g9, 0, none⟩) 2 2)
        rw [hws]
        simpa using h1
      have kz : Blk w9 g9 (bV [2, 2]).toArray 5 := by rw [hw9]; exact Blk.new_at _ _ _ _ hzs.symm
      have kq0 := (hcs.blk H8.out.2.2.2.2.1 (fun e => by omega)).kept hb9
      have kq1 := (hcs.blk H8.out.2.2.2.2.2.1 (fun e => by omega)).kept hb9
      have y9 := (H8.out.2.2.2.2.2.2.1.chg (hcs.mono fun b h => h.elim .inl (fun e => .inr (.inl e)))).more hb9 (fun b h => h) (fun b h => .inl h) (fun b h => by have := hb9.size; omega)
      have hbp : BPs w8 (fun b => C1 b ∨ (b = p14 ∨ b = p15)) ([bp 0 ba bn bc] ++ [bp 2 (some ⟨g0 + 3, 0, none⟩) 2 2]) ([((0 : Int), B)] ++ [((2 : Int), [2, 2])]) :=
        (BPs.one (p := bp 0 ba bn bc) (x := ((0 : Int), B)) rfl HD.out.2.2.2.2.2 (dataZ_old (v := .slice ba bn bc) (bs := B) H8.out.2.2.2.2.2.2.1.bel (fun b hb => hb.elim (H3.out.1.c1 b) (fun h => H3.out.1.x1 b (h.elim .inl (fun e => .inr (.inl e))))) HD.out.2.1)).app (BPs.one (p := bp 2 (some ⟨g0 + 3, 0, none⟩) 2 2) (x := ((2 : Int), [2, 2])) rfl rfl (dataZ_new (n := 2) H8.out.2.1 rfl (HN0.out (g0 + 3) (by omega) (by omega)) (by decide)))
      have hbl : BlAt w8 (fun b => C1 b ∨ (b = p14 ∨ b = p15)) (.slice a8 2 d8) (two B [2, 2]) := hbp.blAt H8.out.1 (fun g hg => HN0.out g (HN8.out g hg).1 (HN8.out g hg).2)
      exact ⟨g9, a8, 2, d8, ⟨y9.srv.less (fun b h => h.elim .inl (fun e => .inr (.inl e))), y9.bel, y9.c1, fun b h => y9.x1 b (h.elim .inl (fun e => .inr (.inl e)))⟩, k14.kept hb9, (hbl.chg hcs (fun b hb _ => .inr hb)).below hb9, k15.kept hb9, kz, kq0, kq1, by omega, by omega, by omega⟩
  case rest =>
  obtain ⟨gz, ub, un, uc, hY, k14, hBl, k15, kz, kq0, kq1, hgz, hz15, hz14⟩ := hcut.out
  have hC1 : ∀ b, C1 b → b < g0 := fun b hb => by have := HA2.out.1.l.old hb; rw [HP.out.2]; exact this
  have hM := slM_new hY hBl k14 k15 kz kq0 kq1 HD.out.1 HD.out.2.1 HD.out.2.2.2.2.1 HD.out.2.2.2.2.2 rfl (zc_len HZ.out.1) (by have := hp14'.out; have := H0.out.1.bel.size; omega) HK.out.2.2.2.2.2 (fun h => by have := hC1 _ h; have := HP.out; omega) (fun h => by have := hC1 _ h; omega) HK.out.2.2.2.1 HK.out.2.2.2.2.1 (by have := HP.out; omega) hz14 (by have := hp14'.out; omega) (by have := hp14'.out; omega)
  have HM := Lib.hid (And.intro hM k14)
  have hA1 : A.length ≤ 1000000 := by have := HD.out.2.2.1; omega
  have hvA := HD.out.1.below hY.bel
  clear hcut hC1 hM hY k14 hBl k15 kz kq0 kq1 hgz hz15 hz14 c51 f51 f3 hszB
  go_wp2_with fail
  refine (refsum_calls _ A _ hvA hA1).mono ?_
  rintro e w5 ⟨rfl, hb5⟩
  clear hvA hA1
  rw [smV_eq]
  have f50 := (HM.out.2.kept hb5).free 50
  have c50 : w5.cell? ⟨p14, 50, none⟩ = some (.slice none 0 0) := by rw [(HM.out.2.kept hb5).cell, List.getElem?_toArray]; exact (reqV_tail (rq_wf en4_len _ _)).1
  have l14' : p14 < w5.heap.size := Nat.lt_of_lt_of_le HM.out.1.lt hb5.size
  have HS := Lib.hid hb5
  clear hb5
  go_upto_region 15 with fail
  obtain ⟨gt, hgt⟩ : ∃ q, q = w5.heap.size := ⟨_, rfl⟩
  rw [← hgt]
  obtain ⟨w6, hw6⟩ : ∃ q, q = (w5.setCell ⟨p14, 50, none⟩ (.slice (some ⟨gt, 0, none⟩) 2 2)).alloc (.cells (t0V A ++ taV 5).toArray 55) := ⟨_, rfl⟩
  rw [← hw6]
  have hM6 : SlM w w6 C1 pb p14 s1 lb (two B zc) (two A [1]) (.slice ub un uc) (.slice (some ⟨p15, 0, none⟩) 2 2) (.slice (some ⟨q0 + 1, 0, none⟩) 2 2) := by
    rw [hw6]
    exact ((HM.out.1.below HS.out).chg (Chg.set (S := fun b => b = p14) (a := ⟨p14, 50, none⟩) (Chg.refl _ _) rfl _)).below ((Below.refl _ _).alloc (Nat.le_refl _) _)
  have k6 : Blk w6 p14 (reqV (rq en4 (.slice (some ⟨gt, 0, none⟩) 2 2) (.slice ub un uc))).toArray 47 := by
    have h1 := (HM.out.2.kept HS.out).set 50 (.slice (some ⟨gt, 0, none⟩) 2 2)
    rw [reqV_setvt (rq_wf en4_len _ _)] at h1
    rw [hw6]
    exact h1.alloc _
  have kt0 : Blk w6 gt (t0V A ++ taV 5).toArray 55 := by
    rw [hw6]
    exact Blk.new_at _ _ _ _ (by rw [hgt]; simp)
  have kt : Blk w6 gt (tstV ⟨0, false, Sha.sum A⟩ ++ tstV ⟨5, true, z32⟩).toArray 55 := by rw [t0V_def, taV_eq]; exact kt0
  have hts : TsAt w6 (fun b => C1 b ∨ b = p14) (.slice (some ⟨gt, 0, none⟩) 2 2) [⟨0, false, Sha.sum A⟩, ⟨5, true, z32⟩] := tsAt_two kt (fun h => h.elim (fun h => by have := HM.out.1.y.l.old h; have := HS.out.size; omega) (fun e => by omega)) (Sha.sum_len A) rfl
  have H6 := Lib.hid (And.intro hM6 (And.intro k6 hts))
  clear hM6 k6 kt kt0 hts hw6 hgt f50 c50 l14' HS
  go_wp2_with fail
  refine (within_calls at_ 14 (by decide) (by decide) w6).mono ?_
  rintro e w7 ⟨rfl, rfl⟩
  go_wp2_with fail
  refine (H6.out.1.y.stop (within at_ 14) keep (by have := within_range at_ 14 (by decide); omega)).mono ?_
  rintro e w7 ⟨rfl, hY7, hsc7⟩
  obtain ⟨s2, hs2⟩ : ∃ q, q = { s1 with st := { s1.st with disk := s1.st.disk.stop (within at_ 14) keep } } := ⟨_, rfl⟩
  rw [← hs2] at hY7
  have g2 : SrvG 2 s2 := by rw [hs2]; exact H2.out.2.1.stop _ _
  have hl2 : ∀ nm, Sto.look s2.st.recs nm = upd (upd (fun _ => none) (slotN z16) (some (contB en4 (two A [1])))) (leaseN z16) (some (packL [(z16, 9)])) nm := by rw [hs2]; exact H2.out.2.2.2.1
  have ht2 : s2.tab.Perm [⟨z16, z16, 9⟩] ∧ s2.slots = 6 ∧ s2.room = 12 ∧ liveN s2.st.recs ≤ 2 := by rw [hs2]; exact ⟨H2.out.2.2.1, H2.out.2.2.2.2.2.1, H2.out.2.2.2.2.2.2.1, H2.out.2.2.2.2.2.2.2⟩
  have hM7 := H6.out.1.sch hY7 hsc7
  have k7 := H6.out.1.blk hsc7 H6.out.2.1
  have hts7 := H6.out.2.2.schX hsc7
  have r7 : readK 52 w7 p14 0 = reqV (rq en4 (.slice (some ⟨gt, 0, none⟩) 2 2) (.slice ub un uc)) := blk_read0 k7 (rq4_size _ _ _ _ _ _)
  have g7 : HasK 52 w7 p14 0 := blk_has k7 (by simp [rq4_size])
  have H7 := Lib.hid (And.intro hM7 (And.intro k7 (And.intro hts7 (And.intro g2 (And.intro hl2 ht2)))))
  clear hY7 hsc7 hs2 g2 hl2 ht2 hM7 k7 hts7
  go_wp2_with fail
  have hok := lb_ok HD.out.2.2.2.1 HZ.out.2
  have hok1 := two_ok (y := [1]) HD.out.2.2.1 (by decide)
  have hsl2 : Sto.look s2.st.recs (slotN z16) = some (contB en4 (two A [1])) := by
    rw [H7.out.2.2.2.2.1]
    unfold upd
    rw [if_neg (fun e => slot_lease e), if_pos rfl]
  have hwr := H7.out.2.2.2.1.st.writes
  refine (H7.out.1.y.swap H7.out.2.2.2.1.live (H7.out.2.2.2.1.srvB (by decide)) (by omega) (rq_wf en4_len (.slice (some ⟨gt, 0, none⟩) 2 2) (.slice ub un uc)) rfl H7.out.1.bl hok.2.1 H7.out.2.2.1 (o := some (en4, two A [1])) (show ContIs s2 z16 (some (en4, two A [1])) from ⟨by rw [H7.out.2.2.2.1.get, hsl2], en4_len, ⟨fun x hx => hok1.1.1 x hx, fun x hx => hok1.2.1 x hx⟩, Nat.le_trans (show 2 ≤ 16 from by decide) (Nat.le_refl _)⟩)).mono ?_
  rintro e w8 ⟨C2, err, s3, rfl, hP, hY8, hsc8⟩
  obtain ⟨f, hT, hs3, hr3, herr, hf⟩ := H7.out.2.2.2.1.swapped (by decide) HD.out.2.2.1 HD.out.2.2.2.1 (zc_len HZ.out.1) H7.out.2.2.2.2.1 H7.out.2.2.2.2.2.1 hok.2.2 hok.1 hok.2.1 (tests_hold A [1]) (with_lb HZ.out.1 HZ.out.2) H7.out.2.2.2.2.2.2.2.1 H7.out.2.2.2.2.2.2.1 H7.out.2.2.2.2.2.2.2.2 hP
  obtain ⟨lo, hlo1, hlo2⟩ : ∃ lo, (lo = two B zc ∨ err = 8 ∧ lo = two A [1]) ∧ f (slotN z16) = some (contB en4 lo) := by
    rcases hf with h | ⟨h1, h2⟩
    · exact ⟨_, .inl rfl, h⟩
    · exact ⟨_, .inr ⟨h1, rfl⟩, h2⟩
  have H8 := Lib.hid (And.intro (H7.out.1.sch hY8 hsc8) (And.intro (H7.out.1.blk hsc8 H7.out.2.1) (And.intro hT (And.intro hlo1 (And.intro hlo2 (And.intro herr (And.intro hs3 hr3)))))))
  have HT8 := Lib.hid (H7.out.2.2.1.schX hsc8)
  clear hok hok1 hsl2 hwr hP hY8 hsc8 hT hs3 hr3 herr hf hlo1 hlo2 r7 g7
  go_wp2_with fail
  refine (H8.out.1.y.restartT H8.out.2.2.1 (by decide)).mono ?_
  rintro e w9 ⟨C3, s4, rfl, hg4, hl4, hst4, hsl4, hro4, hY9, hsc9⟩
  have hk4 : ContIs s4 z16 (some (en4, lo)) := by
    have h1 : lo.length ≤ 16 ∧ BlOk lo := by
      rcases H8.out.2.2.2.1 with h | ⟨_, h⟩
      · subst h
        have := two_ok (y := zc) HD.out.2.2.2.1 (zc_len HZ.out.1)
        exact ⟨Nat.le_trans (show 2 ≤ 16 from by decide) (Nat.le_refl _), fun x hx => this.1.1 x hx, fun x hx => this.2.1 x hx⟩
      · subst h
        have := two_ok (y := [1]) HD.out.2.2.1 (by decide)
        exact ⟨Nat.le_trans (show 2 ≤ 16 from by decide) (Nat.le_refl _), fun x hx => this.1.1 x hx, fun x hx => this.2.1 x hx⟩
    exact ⟨by rw [hg4.get, hl4, H8.out.2.2.2.2.1], en4_len, h1.2, h1.1⟩
  have H9 := Lib.hid (And.intro (H8.out.1.sch hY9 hsc9) (And.intro (H8.out.1.blk hsc9 H8.out.2.1) (And.intro hg4 hk4)))
  have HT9 := Lib.hid (HT8.out.schX hsc9)
  clear HT8 hg4 hl4 hst4 hsl4 hro4 hY9 hsc9 hk4
  go_wp2_with fail
  refine (H9.out.1.y.l.slotOf H9.out.2.2.1.live (H9.out.2.2.1.srvB (by decide)) z16 rfl H9.out.2.2.2).mono ?_
  rintro e w10 ⟨u, rfl, hO, hb10⟩
  obtain ⟨ua, uc', rfl, _⟩ := hO.slice
  obtain ⟨ul, hul⟩ : ∃ n, n = (contL (some (en4, lo))).length := ⟨_, rfl⟩
  rw [← hul] at hO ⊢
  have hbu : BlAt w10 (fun b => C3 b ∨ b = p14) (.slice ua ul uc') lo := (hO.at (fun b h1 _ h => by have h : b < w9.heap.size := h; omega)).mono (M := fun b => C3 b ∨ b = p14) (fun b h => .inl (show b < w9.heap.size from h.elim (fun h => H9.out.1.y.l.old h) (fun h => by rw [h]; exact H9.out.1.lt)))
  have H10 := Lib.hid (And.intro (H9.out.1.below hb10) (And.intro (H9.out.2.1.kept hb10) hbu))
  have HT10 := Lib.hid (HT9.out.below hb10)
  clear HT9 hO hul hb10 hbu
  go_upto_region 20 with fail
  go_cut [102] (fun v wx => v = .bool false ∧ Hid (Below w10.heap.size w10 wx))
  case first =>
    have hnew := H10.out.1.new.mono (M := fun _ => False) (fun b h => h.elim)
    have hold := H10.out.1.old.mono (M := fun _ => False) (fun b h => h.elim)
    have hbu := H10.out.2.2.mono (M := fun _ => False) (fun b h => h.elim)
    have HBB := Lib.hid (And.intro hnew (And.intro hold hbu))
    clear hnew hold hbu
    go_wp2_with fail
    refine (blobseq_calls _ _ lo (two B zc) w10 HBB.out.2.2 HBB.out.1).mono ?_
    rintro e w11 ⟨rfl, k11, rfl⟩
    obtain ⟨q1, hq1⟩ : ∃ q, q = decide (lo = two B zc) := ⟨_, rfl⟩
    rw [← hq1]
    have hb11 : Below w10.heap.size w10 (w10.drewN k11) := below_drewN (Below.refl _ _) _
    have HBC := Lib.hid (And.intro hq1 hb11)
    clear hq1 hb11
    cases q1 with
    | true =>
      go_wp2_with fail
      go_meet
      exact ⟨rfl, HBC.out.2⟩
    | false =>
      obtain ⟨he8, hlo⟩ : err = 8 ∧ lo = two A [1] := by
        rcases H8.out.2.2.2.1 with h | h
        · have := of_decide_eq_false HBC.out.1.symm
          exact absurd h this
        · exact h
      have HLO := Lib.hid hlo
      subst he8
      clear hlo
      go_wp2_with fail
      refine (blobseq_calls _ _ lo (two A [1]) _ (HBB.out.2.2.below HBC.out.2) (HBB.out.2.1.below HBC.out.2)).mono ?_
      rintro e w12 ⟨rfl, k12, rfl⟩
      rw [show decide (lo = two A [1]) = true from by simp [HLO.out]]
      go_wp2_with fail
      go_meet
      exact ⟨rfl, below_drewN (Below.refl _ _) _⟩
  case rest =>
  obtain ⟨rfl, hG⟩ := hcut
  have H11 := Lib.hid (And.intro (H10.out.1.below hG.out) (And.intro (H10.out.2.1.kept hG.out) (H10.out.2.2.below hG.out)))
  have HT11 := Lib.hid (HT10.out.below hG.out)
  clear HT10 hG
  have g11 : HasK 16 _ p14 34 := blk_has H11.out.2.1 (by simp [rq4_size])
  go_upto_region 23 with fail
  obtain ⟨w12, hw12⟩ : ∃ q, q = wc.setCells p14 34 e5V := ⟨_, rfl⟩
  rw [← hw12]
  have k12 : Blk w12 p14 (reqV (rq en5 (.slice (some ⟨gt, 0, none⟩) 2 2) (.slice ub un uc))).toArray 47 := by
    rw [hw12, e5V_eq]
    exact reqV_seten H11.out.2.1 (rq_wf en4_len _ _) en5_len
  have hc12 : Chg (fun b => b = p14) wc w12 := by
    rw [hw12]
    exact Chg.setCells (S := fun b => b = p14) (L := p14) rfl _ _ _ (Chg.refl _ _)
  have r12 : readK 52 w12 p14 0 = reqV (rq en5 (.slice (some ⟨gt, 0, none⟩) 2 2) (.slice ub un uc)) := blk_read0 k12 (reqV_len (rq_wf en5_len _ _))
  have g12 : HasK 52 w12 p14 0 := blk_has k12 (by simp [reqV_len (rq_wf en5_len _ _)])
  have H12 := Lib.hid (And.intro (H11.out.1.chg hc12) (And.intro k12 (And.intro (HT11.out.chg hc12 (fun b hb _ => .inr hb)) (H11.out.2.2.chg hc12 (fun b hb _ => .inr hb)))))
  clear k12 hc12 hw12 g11 HT11
  go_wp2_with fail
  have hok := lb_ok HD.out.2.2.2.1 HZ.out.2
  have hwr := H9.out.2.2.1.st.writes
  refine (H12.out.1.y.swap H9.out.2.2.1.live (H9.out.2.2.1.srvB (by decide)) (by omega) (rq_wf en5_len (.slice (some ⟨gt, 0, none⟩) 2 2) (.slice ub un uc)) rfl H12.out.1.bl hok.2.1 H12.out.2.2.1 (o := some (en4, lo)) H9.out.2.2.2).mono ?_
  rintro e w13 ⟨C4, x, s5, rfl, hP, hY13, hsc13⟩
  obtain ⟨rfl, rfl⟩ := SwapR.other hP ⟨hok.2.2, hok.1, may9s⟩ (show en4 ≠ en5 from by decide)
  have H13 := Lib.hid (And.intro (H12.out.1.sch hY13 hsc13) (And.intro (H12.out.1.blk hsc13 H12.out.2.1) (H12.out.2.2.2.schX hsc13)))
  have g13 : HasK 16 _ p14 34 := blk_has H13.out.2.1 (by simp [reqV_len (rq_wf en5_len _ _)])
  clear hok hwr hP hY13 hsc13 r12 g12
  go_upto_region 25 with fail
  obtain ⟨w14, hw14⟩ : ∃ q, q = w13.setCells p14 34 e4V := ⟨_, rfl⟩
  rw [← hw14]
  have k14 : Blk w14 p14 (reqV (rq en4 (.slice (some ⟨gt, 0, none⟩) 2 2) (.slice ub un uc))).toArray 47 := by
    rw [hw14, e4V_eq]
    exact reqV_seten H13.out.2.1 (rq_wf en5_len _ _) en4_len
  have hc14 : Chg (fun b => b = p14) w13 w14 := by
    rw [hw14]
    exact Chg.setCells (S := fun b => b = p14) (L := p14) rfl _ _ _ (Chg.refl _ _)
  have f50 := k14.free 50
  have c50 : w14.cell? ⟨p14, 50, none⟩ = some (.slice (some ⟨gt, 0, none⟩) 2 2) := by rw [k14.cell, List.getElem?_toArray]; exact (reqV_tail (rq_wf en4_len _ _)).1
  have l14'' := k14.lt
  have H14 := Lib.hid (And.intro (H13.out.1.chg hc14) (And.intro k14 (H13.out.2.2.chg hc14 (fun b hb _ => .inr hb))))
  clear k14 hc14 hw14 g13
  go_upto_region 26 with fail
  obtain ⟨gu, hgu⟩ : ∃ q, q = w14.heap.size := ⟨_, rfl⟩
  rw [← hgu]
  obtain ⟨w15, hw15⟩ : ∃ q, q = (w14.setCell ⟨p14, 50, none⟩ (.slice (some ⟨gu, 0, none⟩) 1 1)).alloc (.cells (taV 2).toArray 55) := ⟨_, rfl⟩
  rw [← hw15]
  have hc15 : Chg (fun b => b = p14) w14 (w14.setCell ⟨p14, 50, none⟩ (.slice (some ⟨gu, 0, none⟩) 1 1)) := Chg.set (S := fun b => b = p14) (a := ⟨p14, 50, none⟩) (Chg.refl _ _) rfl _
  have hb15 : Below (w14.setCell ⟨p14, 50, none⟩ (.slice (some ⟨gu, 0, none⟩) 1 1)).heap.size (w14.setCell ⟨p14, 50, none⟩ (.slice (some ⟨gu, 0, none⟩) 1 1)) w15 := by
    rw [hw15]; exact (Below.refl _ _).alloc (Nat.le_refl _) _
  have k15 : Blk w15 p14 (reqV (rq en4 (.slice (some ⟨gu, 0, none⟩) 1 1) (.slice ub un uc))).toArray 47 := by
    have h1 := H14.out.2.1.set 50 (.slice (some ⟨gu, 0, none⟩) 1 1)
    rw [reqV_setvt (rq_wf en4_len _ _)] at h1
    exact h1.kept hb15
  have kt0 : Blk w15 gu (taV 2).toArray 55 := by
    rw [hw15]
    exact Blk.new_at _ _ _ _ (by rw [hgu]; simp)
  have kt : Blk w15 gu (tstV ⟨2, true, z32⟩).toArray 55 := by rw [taV_eq]; exact kt0
  have hts : TsAt w15 (fun b => C4 b ∨ b = p14) (.slice (some ⟨gu, 0, none⟩) 1 1) [⟨2, true, z32⟩] := tsAt_one kt (fun h => h.elim (fun h => by have := H14.out.1.y.l.old h; omega) (fun e => by omega)) rfl
  have r15 : readK 52 w15 p14 0 = reqV (rq en4 (.slice (some ⟨gu, 0, none⟩) 1 1) (.slice ub un uc)) := blk_read0 k15 (rq4_size _ _ _ _ _ _)
  have g15 : HasK 52 w15 p14 0 := blk_has k15 (by simp [rq4_size])
  have H15 := Lib.hid (And.intro ((H14.out.1.chg hc15).below hb15) (And.intro hts ((H14.out.2.2.chg hc15 (fun b hb _ => .inr hb)).below hb15)))
  clear hc15 hb15 k15 kt0 kt hts hw15 hgu f50 c50 l14''
  go_wp2_with fail
  have hok := lb_ok HD.out.2.2.2.1 HZ.out.2
  have hwr := H9.out.2.2.1.st.writes
  refine (H15.out.1.y.swap H9.out.2.2.1.live (H9.out.2.2.1.srvB (by decide)) (by omega) (rq_wf en4_len (.slice (some ⟨gu, 0, none⟩) 1 1) (.slice ub un uc)) rfl H15.out.1.bl hok.2.1 H15.out.2.1 (o := some (en4, lo)) H9.out.2.2.2).mono ?_
  rintro e w16 ⟨C5, y, s6, rfl, hP, hY16, hsc16⟩
  obtain ⟨rfl, rfl⟩ := SwapR.fails hP ⟨hok.2.2, hok.1, may9s⟩ (List.mem_singleton.2 rfl) (by
    rcases H8.out.2.2.2.1 with h | ⟨_, h⟩
    · rw [h]; exact test_fails _ _
    · rw [h]; exact test_fails _ _)
  have H16 := Lib.hid (And.intro (H15.out.1.sch hY16 hsc16) (H15.out.2.2.schX hsc16))
  clear hok hwr hP hY16 hsc16 r15 g15
  have herr := H8.out.2.2.2.2.2.1
  rcases herr with rfl | rfl
  all_goals
    go_wp2_with fail
    refine (H16.out.1.y.l.slotOf H9.out.2.2.1.live (H9.out.2.2.1.srvB (by decide)) z16 rfl H9.out.2.2.2).mono ?_
    rintro e w17 ⟨u2, rfl, hO, hb17⟩
    obtain ⟨ua2, uc2, rfl, _⟩ := hO.slice
    obtain ⟨ul2, hul⟩ : ∃ n, n = (contL (some (en4, lo))).length := ⟨_, rfl⟩
    rw [← hul] at hO ⊢
    have hb2 : BlAt w17 (fun _ => False) (.slice ua2 ul2 uc2) lo := (hO.at (fun b h1 _ h => by have h : b < w16.heap.size := h; omega)).mono (M := fun _ => False) (fun b h => h.elim)
    have hb3 := (H16.out.2.below hb17).mono (M := fun _ => False) (fun b h => h.elim)
    have H17 := Lib.hid (And.intro hb2 (And.intro hb3 (H16.out.1.below hb17)))
    clear hO hul hb17 hb2 hb3
    go_wp2_with fail
    refine (blobseq_calls _ _ lo lo w17 H17.out.1 H17.out.2.1).mono ?_
    rintro e w18 ⟨rfl, k18, rfl⟩
    rw [show decide (lo = lo) = true from by simp]
    have hM18 := H17.out.2.2.below (below_drewN (Below.refl w17.heap.size w17) k18)
    have H18 := Lib.hid hM18
    clear hM18
    go_wp2_with fail
    refine (wakes16_calls _ (HT.out.1.below H18.out.y.bel)).mono ?_
    rintro e w19 ⟨rfl, hb19⟩
    have H19 := Lib.hid (H18.out.y.bel.trans (hb19.mono H18.out.y.bel.size))
    clear hb19
    go_wp2_with fail
    go_ret
    exact ⟨rfl, H19.out⟩
end Go.Proofs.YtclhgokchcklbaaGreatDoor
end
section
namespace Go.Proofs.YtclhgokchcklbaaGreatDoor
open Go Go.RowKit Go.Mem
theorem tabT : (Tryz.prog.globals[gT]?).map (·.type) = some 285 := by kernel_rfl
theorem tab_of_laid {W : World} (h : laidMetH Tryz.prog [("math/bits.deBruijn32tab", Rows.laid_math_bits_deBruijn32tab), ("math/bits.deBruijn64tab", Rows.laid_math_bits_deBruijn64tab), ("internal/strconv.uint64pow10", Rows.laid_internal_strconv_uint64pow10)] W) : Tab W := by
  rw [MakeChecks.laidMetH_plain _ _ _ (by kernel_rfl)] at h
  obtain ⟨ps, ⟨g0, t0, cs0, f0, p0, q0, hg0, ht0, hv0, hd0, ⟨g1, t1, cs1, f1, p1, q1, hg1, ht1, hv1, hd1, ⟨g2, t2, cs2, f2, p2, q2, hg2, ht2, hv2, hd2, _, _⟩, _⟩, _⟩, _, _⟩ := h
  obtain rfl := Option.some.inj (gT_eq.symm.trans hg2)
  obtain rfl := Option.some.inj (tabT.symm.trans ht2)
  have hd : DataW.trod (fun _ => ()) Tryz.prog W 0 (fun _ => true) false f2 285 cs2.toList = some (Lib.tabData .u64 Lib.pow10Tab, p2) := hd2.trans (by rw [show (Rows.laid_internal_strconv_uint64pow10 : DataW Unit) = Lib.tabData .u64 Lib.pow10Tab from rfl])
  unfold Tab Lib.TabIs
  rw [hv2, ← Lib.cells_of_tab Tryz.underlying285 Tryz.underlying237 (by kernel_rfl) (by kernel_rfl) hd]
end Go.Proofs.YtclhgokchcklbaaGreatDoor
end
