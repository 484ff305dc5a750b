/- Texts of this proof, packed: LeaAdd, LeaMore, LeaWake, Ints, Open, OpenS, Some, LeaTwo, TailNew, TailAny, RegJ, SrvMem, RefMath, Ref01, SrvName, SrvBlobs, LeaSet, SrvCont, LeaClone. -/
import Derived.Test.YtclhgokchcklbaaGreatDoorPn07
import Derived.Test.YtclhgokchcklbaaGreatDoorPn00
import Derived.WalkKit
import Derived.ProofKit
import Derived.ChangeOld
import Derived.Deep.SlicePairs
import Derived.OpenShut
import Derived.Laws.StructEq
import Derived.Test.YtclhgokchcklbaaGreatDoorPn02
import Derived.Deep.MidRow
import Derived.Deep.RegionHeld3
import Derived.Test.YtclhgokchcklbaaGreatDoorPn06
import Derived.Test.YtclhgokchcklbaaGreatDoorPn01
section
namespace Go.Proofs.YtclhgokchcklbaaGreatDoor
open Go Go.RowKit Go.Mem Gf Lea
theorem _root_.Go.Proofs.YtclhgokchcklbaaGreatDoor.LTab.below {w w' : World} {tb : Nat} {v : Value} {l : List Les} (h : LTab w tb v l) (hb : Below w.heap.size w w') : LTab w' tb v l :=
  ⟨h.cell.kept hb, own_chg (S := fun _ => False) h.own (Chg.of_below hb) (fun _ _ h => h), h.wf, h.apart⟩
theorem _root_.Go.Proofs.YtclhgokchcklbaaGreatDoor.Heap.below {w w' : World} {tb : Nat} {v : Value} {l : List Les} (h : Heap w tb v l) (hb : Below w.heap.size w w') : Heap w' tb v l := ⟨h.tab.below hb, h.heap⟩
theorem TChg.pre {tb : Nat} {v v' : Value} {w w1 w2 : World} (hb : Below w.heap.size w w1) (h : TChg tb v v' w1 w2) : TChg tb v v' w w2 :=
  ⟨(Chg.of_below hb).trans h.1, fun k hk => by
    rcases h.2 k hk with h | h
    · exact .inl h
    · exact .inr (Nat.le_trans hb.size h)⟩
theorem TChg.same {tb : Nat} {v : Value} {w w' : World} (hb : Below w.heap.size w w') : TChg tb v v w w' := ⟨Chg.of_below hb, fun _ hk => .inl hk⟩
set_option maxRecDepth 100000 in
theorem lmay_calls (e : Int) (w : World) : Calls Tryz.prog 135 #[.int .i64 e] w fun r w' => r = .returned (.bool (decide (May e))) ∧ w' = w := by
  by_cases c1 : 1 ≤ e
  · have d1 : decide (1 ≤ e) = true := by simpa using c1
    have hr : decide (May e) = decide (e ≤ 1048576) := by unfold May; simp [c1]
    go_enter Tryz.func135, Tryz.ntmps135
    go_wp2_with fail
    go_ret
    exact ⟨by first | rfl | (rw [hr]; rfl), rfl⟩
  · have d1 : decide (1 ≤ e) = false := by simpa using c1
    have hr : decide (May e) = false := by unfold May; simp [c1]
    go_enter Tryz.func135, Tryz.ntmps135
    go_wp2_with fail
    go_ret
    exact ⟨by first | rfl | (rw [hr]; rfl), rfl⟩
theorem _root_.Lea.Row.setEnd {ti : TypeId} {w : World} {base g n cap : Nat} {l : List Les} (h : Row ti w base g n cap l) {i : Nat} {x y : Les} {e : Int} (hi : i < n) (hx : l[i]? = some x) (hy : y = ⟨x.ix, x.sec, e⟩) :
    Row ti (w.setCell ⟨g, i * 33 + 16 + 16, none⟩ (.int .i64 e)).drew base g n cap (l.set i y) := by
  have hwx := h.wf x (List.mem_of_getElem? hx)
  have hwy : Wf y := by rw [hy]; exact hwx
  obtain ⟨cur, hh, hb, h1, h2, h3, h4⟩ := h.block
  have hB : Blk w g cur ti := hh
  have b1 := (hB.set (i * 33 + 16 + 16) (.int .i64 e)).drew
  have hll := h.len
  refine ⟨⟨?_, .inr ⟨g, cap, _, rfl, hb, b1, h1, h2, by rw [Array.size_setIfInBounds, h3], ?_⟩⟩, by rw [List.length_set]; exact hll, wf_set h.wf hwy⟩
  · rw [itemsV_len _ (wf_set h.wf hwy), List.length_set, hll]
  · apply List.ext_getElem?
    intro j
    have hlen := itemsV_len _ (wf_set h.wf hwy (i := i))
    rw [List.length_set] at hlen
    rw [List.getElem?_take, Array.getElem?_toList]
    by_cases hj : j < n * 33
    · have hm : n * 33 ≤ cap * 33 := Nat.mul_le_mul_right _ h1
      rw [if_pos hj, itemsV_set l h.wf (by omega) hwy j (by omega), Array.getElem?_setIfInBounds]
      by_cases c : i * 33 + 16 + 16 = j
      · subst c
        rw [if_pos rfl, if_pos (by omega), if_pos (by omega), show i * 33 + 16 + 16 - i * 33 = 32 by omega, cellsI_end hwy, hy]
      · rw [if_neg c, h4 j hj]
        by_cases c2 : i * 33 ≤ j ∧ j < i * 33 + 33
        · rw [if_pos c2]
          have hg := itemsV_get l h.wf i x hx (j - i * 33) (by omega)
          rw [show i * 33 + (j - i * 33) = j by omega] at hg
          rw [hg, hy]
          unfold cellsI
          have l1 : (bV x.ix ++ bV x.sec).length = 32 := by rw [List.length_append, bV_len, bV_len, hwx.1, hwx.2]
          show (bV x.ix ++ bV x.sec ++ [.int .i64 x.e])[j - i * 33]? = (bV x.ix ++ bV x.sec ++ [.int .i64 e])[j - i * 33]?
          rw [List.getElem?_append_left (l₁ := bV x.ix ++ bV x.sec) (l₂ := [.int .i64 x.e]) (by omega), List.getElem?_append_left (l₁ := bV x.ix ++ bV x.sec) (l₂ := [.int .i64 e]) (by omega)]
        · rw [if_neg c2]
    · rw [if_neg hj, List.getElem?_eq_none (by omega)]
theorem build_item (dst : Option Tmp) (x y : Operand) (ty : TypeId) (pos : String) (af : Array Edge) (a : Act) (w : World) (K : Act → World → Prop) (Q : Exit → Act → World → Prop)
    (h1 : (a.eval x).cells.size = 16) (h2 : (a.eval y).cells.size = 17) :
    Oper.wp Tryz.prog ⟨dst, .build 191 #[(0, x), (1, y)], ty, pos, af, none⟩ a w K Q = K (a.put dst (.agg ((a.eval x).cells ++ (a.eval y).cells))) w :=
  wp_buildTwo Tryz.underlying191 (by kernel_rfl) (by kernel_rfl) dst x y ty pos af a w K Q h1 h2
theorem leaseSec {y : Sec} (h : WfL y) : cutC (encL y).toArray 0 16 = bV y.1 := by
  have h1 : (bV y.1).length = 16 := by rw [bV_len]; exact h
  unfold cutC encL
  simp [h1]
attribute [local go_sem ↓] Go.wp_at_zero Go.wp_at_succ
attribute [local go_sem ↓] load_key load_item store_item load_lease slice_lease build_item
attribute [local go_sem] ptrB_eq ptrO_eq ptrIs_eq aggL_eq aggIs_eq readK_drew hasK_drew readK_alloc_past hasK_alloc_past readK_alloc_in hasK_alloc_in setCells_drew setCells_alloc_past setCells_alloc_at
set_option maxRecDepth 100000 in
set_option maxHeartbeats 1000000 in
theorem add_calls (w : World) (tb : Nat) (v : Value) (l : List Les) (ix sec : Key) (e : Int) (h : Heap w tb v l) (hg : Lea.Good l) (hl : l.length ≤ 90000) (hix : ix.length = 16) (hsec : sec.length = 16) :
    Calls Tryz.prog 85 #[.pointer (some ⟨tb, 0, none⟩), .agg (bV ix).toArray, .agg (encL (sec, e)).toArray] w fun r w' => ∃ b v' l', r = .returned (.bool b) ∧ AddR l ix sec e b l' ∧ Heap w' tb v' l' ∧ TChg tb v v' w w' := by
  have wl : WfL (sec, e) := hsec
  obtain ⟨cy, hcy⟩ : ∃ c, c = encL (sec, e) := ⟨_, rfl⟩
  have k1 : cutC cy.toArray 0 16 = bV sec := by rw [hcy]; exact leaseSec wl
  have ly : cy.length = 17 := by rw [hcy]; exact ecL.len _ wl
  have ce : cy[16]? = some (.int .i64 e) := by rw [hcy]; exact encL_end wl
  have H := Lib.hid (And.intro h (And.intro hg hcy))
  rw [← hcy]
  clear h hg hcy wl
  go_enter Tryz.func85, Tryz.ntmps85
  go_upto_region 1 with fail
  have hB0 : Below w.heap.size w ((w.alloc (.cells (bV ix).toArray 44)).alloc (.cells cy.toArray 153)) := ((Below.refl _ _).alloc (Nat.le_refl _) _).alloc (by simp) _
  have hk1 : Blk ((w.alloc (.cells (bV ix).toArray 44)).alloc (.cells cy.toArray 153)) w.heap.size (bV ix).toArray 44 := (Blk.new _ _ _).alloc _
  have hk2 : Blk ((w.alloc (.cells (bV ix).toArray 44)).alloc (.cells cy.toArray 153)) (w.heap.size + 1) cy.toArray 153 := Blk.new_at _ _ _ _ (by simp)
  obtain ⟨w0, hw0⟩ : ∃ x, x = (w.alloc (.cells (bV ix).toArray 44)).alloc (.cells cy.toArray 153) := ⟨_, rfl⟩
  rw [← hw0] at hB0 hk1 hk2 ⊢
  clear hw0
  obtain ⟨p4, hp4⟩ : ∃ p, p = w.heap.size := ⟨_, rfl⟩
  obtain ⟨p5, hp5⟩ : ∃ p, p = w.heap.size + 1 := ⟨_, rfl⟩
  rw [← hp5] at hk2 ⊢
  rw [← hp4] at hk1 ⊢
  have HP := Lib.hid (And.intro hp4 (And.intro hp5 hB0))
  clear hp4 hp5 hB0
  have r4 : readK 16 w0 p4 0 = bV ix := blk_read0 hk1 (by rw [bV_len, hix])
  have h4 : HasK 16 w0 p4 0 := blk_has hk1 (by simp [bV_len, hix])
  have r5 : readK 16 w0 p5 0 = bV sec := by
    rw [← k1]
    exact blk_read hk2 (by unfold cutC; simp [ly]) (fun k hk => by unfold cutC; simp [hk])
  have h5 : HasK 16 w0 p5 0 := blk_has hk2 (by simp [ly])
  have hT0 : Heap w0 tb v l := H.out.1.below HP.out.2.2
  have HT := Lib.hid hT0
  have HK := Lib.hid (And.intro hk1 hk2)
  clear hT0 hk1 hk2
  go_wp2_with fail
  refine (find_calls w0 tb v l ix sec HT.out.tab (by omega) hix hsec).mono ?_
  rintro r w1 ⟨k, rfl, hF, hB1⟩
  have hk1 := HK.out.1.kept hB1
  have hk2 := HK.out.2.kept hB1
  have hT1 := HT.out.below hB1
  have r4 : readK 16 w1 p4 0 = bV ix := blk_read0 hk1 (by rw [bV_len, hix])
  have h4 : HasK 16 w1 p4 0 := blk_has hk1 (by simp [bV_len, hix])
  have q5 : w1.cell? ⟨p5, 16, none⟩ = some (.int .i64 e) := by rw [hk2.cell]; simpa using ce
  have hB : Below w.heap.size w w1 := HP.out.2.2.trans (hB1.mono HP.out.2.2.size)
  have H1 := Lib.hid (And.intro hk1 (And.intro hk2 (And.intro hT1 hB)))
  clear hk1 hk2 hT1 hB hB1 ce
  rcases hF with ⟨rfl, hno⟩ | ⟨i, x, rfl, hx, e1, e2⟩
  · have HNO := Lib.hid hno
    clear hno
    go_upto_region 4 with fail
    by_cases hm : May e
    · have d1 : decide (May e) = true := by simpa using hm
      replace hm := Lib.hid hm
      go_wp2_with fail
      refine (lmay_calls _ _).mono ?_
      rintro r w2 ⟨rfl, rfl⟩
      go_wp2_with fail
      refine (of_calls w2 tb v l ix H1.out.2.2.1.tab (by omega) hix (by have := H.out.2.1.few ix; omega)).mono ?_
      rintro r w3 ⟨vo, out, rfl, hO, hR, hB3⟩
      obtain ⟨po, co, rfl⟩ := hO.slice
      obtain ⟨m, hm'⟩ : ∃ m, m = out.length := ⟨_, rfl⟩
      rw [← hm']
      have hlen : (ofL l ix).length = m := by rw [hm', hR.perm.length_eq]
      have hk1 := H1.out.1.kept hB3
      have hk2 := H1.out.2.1.kept hB3
      have hT3 := H1.out.2.2.1.below hB3
      have hB := H1.out.2.2.2.trans (hB3.mono H1.out.2.2.2.size)
      have r4 : readK 16 w3 p4 0 = bV ix := blk_read0 hk1 (by rw [bV_len, hix])
      have h4 : HasK 16 w3 p4 0 := blk_has hk1 (by simp [bV_len, hix])
      have r5 : readK 17 w3 p5 0 = cy := blk_read0 hk2 ly
      have h5 : HasK 17 w3 p5 0 := blk_has hk2 (by simp [ly])
      have H3 := Lib.hid (And.intro hT3 (And.intro hB hlen))
      clear hk1 hk2 hT3 hB hlen hO hR hB3 hm'
      by_cases c8 : 8 ≤ m
      · have d8 : decide ((8 : Int) ≤ (m : Int)) = true := by simp; omega
        replace c8 := Lib.hid c8
        go_wp2_with fail
        go_ret
        exact ⟨false, v, l, rfl, .no (.inr ⟨HNO.out, by rw [H3.out.2.2]; exact c8.out⟩), H3.out.1, TChg.same H3.out.2.1⟩
      · have d8 : decide ((8 : Int) ≤ (m : Int)) = false := by simp; omega
        replace c8 := Lib.hid c8
        have wx : Wf ⟨ix, sec, e⟩ := ⟨hix, hsec⟩
        obtain ⟨cz, hcz⟩ : ∃ c, c = cellsI ⟨ix, sec, e⟩ := ⟨_, rfl⟩
        have hcat : bV ix ++ cy = cz := by rw [hcz, H.out.2.2]; unfold cellsI encL; rw [List.append_assoc]
        have hcat2 : (bV ix).toArray ++ cy.toArray = cz.toArray := by rw [← hcat]; simp
        have hbi : (bV ix).length = 16 := by rw [bV_len, hix]
        have hpush : ∀ W, Heap W tb v l → Calls Tryz.prog 136 #[.iface 193 (.pointer (some ⟨tb, 0, none⟩)), .iface 191 (.agg cz.toArray)] W fun r w' => r = .returned (.tuple #[]) ∧ ∃ v' l', Heap w' tb v' l' ∧ l'.Perm (l ++ [⟨ix, sec, e⟩]) ∧ TChg tb v v' W w' := fun W hW => by
          rw [hcz]
          exact hpush_calls W tb v l ⟨ix, sec, e⟩ hW wx (by omega)
        have HPU := Lib.hid hpush
        have hB3 : Below w.heap.size w w3.drew := H3.out.2.1.drew
        have hT3 : Heap w3.drew tb v l := ⟨⟨H3.out.1.tab.cell, H3.out.1.tab.own, H3.out.1.tab.wf, H3.out.1.tab.apart⟩, H3.out.1.heap⟩
        have H4 := Lib.hid (And.intro hB3 hT3)
        clear hcz hpush wx hB3 hT3
        go_upto_region 7 with fail
        go_region_with (refine (HPU.out _ H4.out.2).mono ?_; rintro r w4 ⟨rfl, v4, l4, hT4, hP4, hC4⟩)
        all_goals
          go_wp2_with fail
          go_ret
          exact ⟨true, v4, l4, rfl, .new l4 hm.out HNO.out (by rw [H3.out.2.2]; have := c8.out; omega) hP4, hT4, hC4.pre H4.out.1⟩
    · have d1 : decide (May e) = false := by simpa using hm
      replace hm := Lib.hid hm
      go_wp2_with fail
      refine (lmay_calls _ _).mono ?_
      rintro r w2 ⟨rfl, rfl⟩
      go_wp2_with fail
      go_ret
      exact ⟨false, v, l, rfl, .no (.inl hm.out), H1.out.2.2.1, TChg.same H1.out.2.2.2⟩
  · have hi : i < l.length := some_lt hx
    have d0 : decide ((i : Int) < 0) = false := by simp
    have HX := Lib.hid (And.intro hx (And.intro e1 e2))
    clear hx e1 e2
    go_upto_region 4 with fail
    by_cases hm : May e
    · have d1 : decide (May e) = true := by simpa using hm
      replace hm := Lib.hid hm
      obtain ⟨g, cap, rfl, hrow⟩ := H1.out.2.2.1.tab.ex (by omega)
      have hc : w1.cell? ⟨tb, 0, none⟩ = some (.slice (some ⟨g, 0, none⟩) l.length cap) := by simpa using H1.out.2.2.1.tab.cell.cell 0
      have qe := hrow.ends HX.out.1
      have fe := (hrow.there hi 32 (by decide)).2
      obtain ⟨n, hn⟩ : ∃ n, n = l.length := ⟨_, rfl⟩
      rw [← hn] at hc hi
      have HR := Lib.hid (And.intro hrow hn)
      have i0 : (0 : Int) ≤ (i : Int) := by omega
      have i1 : (i : Int) < (n : Int) := by omega
      clear hrow hn
      go_wp2_with fail
      refine (lmay_calls _ _).mono ?_
      rintro r w2 ⟨rfl, rfl⟩
      go_upto_region 2 with fail
      go_region
      all_goals
        obtain ⟨y, hy⟩ : ∃ y : Les, y = ⟨x.ix, x.sec, max x.e e⟩ := ⟨_, rfl⟩
        have hr2 := HR.out.1.setEnd (by rw [← HR.out.2]; exact hi) HX.out.1 hy
        have hc2 : Chg (fun b => b = g) w2 (w2.setCell ⟨g, i * 33 + 16 + 16, none⟩ (.int .i64 (max x.e e))).drew := (chg_cell w2 g _ _).drew
        have hT2 := (H1.out.2.2.1.tab.row' (l' := l.set i y) rfl hr2 hc2)
        have hfp := fix_pre (l := l) (n := n) (k := i) (by rw [HR.out.2]; exact H1.out.2.2.1.heap) hi (by rw [HR.out.2]; exact Nat.le_refl _) y
        have HT2 := Lib.hid (And.intro hT2 (And.intro hc2 (And.intro hfp hy)))
        obtain ⟨w3, hw3⟩ : ∃ w3, w3 = (w2.setCell ⟨g, i * 33 + 16 + 16, none⟩ (.int .i64 (max x.e e))).drew := ⟨_, rfl⟩
        rw [← hw3] at HT2 ⊢
        clear hw3 hr2 hc2 hT2 hfp hy
        have q3 : w3.cell? ⟨tb, 0, none⟩ = some (.slice (some ⟨g, 0, none⟩) l.length cap) := by simpa using HT2.out.1.cell.cell 0
        go_wp2_with fail
        refine (hfix_calls w3 tb _ (l.set i y) i n (by rw [List.length_set, HR.out.2]) HT2.out.1 (by rw [HR.out.2]; omega) hi HT2.out.2.2.1.1 HT2.out.2.2.1.2).mono ?_
        rintro r w4 ⟨rfl, l4, hT4, hP4, hC4⟩
        go_wp2_with fail
        go_ret
        refine ⟨true, _, l4, rfl, .more i x l4 hm.out HX.out.1 HX.out.2.1 HX.out.2.2 ?_, hT4, ((TChg.of HT2.out.2.1).trans hC4).pre H1.out.2.2.2⟩
        rw [← HX.out.2.1, ← HX.out.2.2, ← HT2.out.2.2.2]
        exact hP4
    · have d1 : decide (May e) = false := by simpa using hm
      replace hm := Lib.hid hm
      go_wp2_with fail
      refine (lmay_calls _ _).mono ?_
      rintro r w2 ⟨rfl, rfl⟩
      go_wp2_with fail
      go_ret
      exact ⟨false, v, l, rfl, .no (.inl hm.out), H1.out.2.2.1, TChg.same H1.out.2.2.2⟩
end Go.Proofs.YtclhgokchcklbaaGreatDoor
end
section
namespace Go.Proofs.YtclhgokchcklbaaGreatDoor
open Go Go.RowKit Go.Mem Gf Lea
attribute [local go_sem ↓] Go.wp_at_zero Go.wp_at_succ
attribute [local go_sem ↓] load_key load_item store_item load_lease store_lease slice_lease build_item
attribute [local go_sem] ptrB_eq ptrO_eq ptrIs_eq aggL_eq aggIs_eq readK_drew hasK_drew readK_alloc_past hasK_alloc_past readK_alloc_in hasK_alloc_in setCells_drew setCells_alloc_past setCells_alloc_at
theorem _root_.Go.Proofs.YtclhgokchcklbaaGreatDoor.LTab.chg {S : Nat → Prop} {w w' : World} {tb : Nat} {v : Value} {l : List Les} (h : LTab w tb v l) (hc : Chg S w w') (h1 : ¬ S tb) (h2 : ∀ g, v.ownBlock = some g → ¬ S g) : LTab w' tb v l :=
  ⟨hc.blk h.cell h1, own_chg h.own hc h2, h.wf, h.apart⟩
theorem key_in {k : Key} (h : k.length = 16) : cutC (bV k).toArray 0 16 = bV k ∧ (bV k).length = 16 := by
  have h1 : (bV k).length = 16 := by rw [bV_len]; exact h
  exact ⟨by unfold cutC; rw [List.toList_toArray, List.drop_zero, List.take_of_length_le (by omega)], h1⟩
set_option maxRecDepth 100000 in
theorem new_calls (w : World) : Calls Tryz.prog 27 #[] w fun r w' => ∃ tb, r = .returned (.pointer (some ⟨tb, 0, none⟩)) ∧ w.heap.size ≤ tb ∧ Heap w' tb (.slice none 0 0) [] ∧ Below w.heap.size w w' := by
  go_enter Tryz.func27, Tryz.ntmps27
  go_wp2_with fail
  go_ret
  refine ⟨_, rfl, Nat.le_refl _, ⟨⟨Blk.new _ _ _, World.ownsRow_nil _ _ _ _, (fun _ h => by cases h), by simp [Value.ownBlock]⟩, (fun c h1 h2 => by simp at h2)⟩, (Below.refl _ _).alloc (Nat.le_refl _) _⟩
theorem leaseEnd {y : Sec} (h : WfL y) : (encL y).toArray[16]? = some (.int .i64 y.2) := by
  simpa using encL_end h
end Go.Proofs.YtclhgokchcklbaaGreatDoor
end
section
namespace Lea
def z16 : Key := List.replicate 16 0
end Lea
namespace Go.Proofs.YtclhgokchcklbaaGreatDoor
open Go Go.RowKit Go.Mem Gf Lea
def keyC (v : Value) : Array Value := (v :: List.replicate 15 (.int .u8 0)).toArray
def isU8 : Value → Bool
  | .int .u8 _ => true
  | _ => false
def isI64 : Value → Bool
  | .int .i64 _ => true
  | _ => false
@[simp] theorem isU8_eq (n : Int) : isU8 (.int .u8 n) = true := rfl
@[simp] theorem isI64_eq (n : Int) : isI64 (.int .i64 n) = true := rfl
theorem built_k0 (n : Int) : Tryz.prog.built 44 [(0, .int .u8 n)] = some (keyC (.int .u8 n)) := by kernel_rfl
theorem built_z : Tryz.prog.built 44 [] = some (keyC (.int .u8 0)) := by kernel_rfl
theorem built_l1 (n : Int) : Tryz.prog.built 153 [(1, .int .i64 n)] = some (keyC (.int .u8 0) ++ #[.int .i64 n]) := by kernel_rfl
theorem build_k0 (dst : Option Tmp) (x : Operand) (ty : TypeId) (pos : String) (af : Array Edge) (gd : Option (Tmp × Bool)) (a : Act) (w : World) (K : Act → World → Prop) (Q : Exit → Act → World → Prop) (h : isU8 (a.eval x) = true) :
    Oper.wp Tryz.prog ⟨dst, .build 44 #[(0, x)], ty, pos, af, gd⟩ a w K Q = K (a.put dst (.agg (keyC (a.eval x)))) w := by
  unfold Oper.wp execOp
  have e : ∃ n, a.eval x = .int .u8 n := by
    unfold isU8 at h
    split at h
    · rename_i n e; exact ⟨n, e⟩
    · cases h
  obtain ⟨n, e⟩ := e
  have hr := run_build (P := Tryz.prog) w 44 #[(0, a.eval x)] (keyC (a.eval x)) (by rw [e]; exact built_k0 n)
  simp only [List.map_toArray, List.map_cons, List.map_nil, Sem.run_bind, hr, Result.andThen_ok]
  rfl
theorem build_z (dst : Option Tmp) (ty : TypeId) (pos : String) (af : Array Edge) (gd : Option (Tmp × Bool)) (a : Act) (w : World) (K : Act → World → Prop) (Q : Exit → Act → World → Prop) :
    Oper.wp Tryz.prog ⟨dst, .build 44 #[], ty, pos, af, gd⟩ a w K Q = K (a.put dst (.agg (keyC (.int .u8 0)))) w := by
  unfold Oper.wp execOp
  have hr := run_build (P := Tryz.prog) w 44 #[] (keyC (.int .u8 0)) built_z
  simp only [List.map_toArray, List.map_nil, Sem.run_bind, hr, Result.andThen_ok]
  rfl
theorem build_l1 (dst : Option Tmp) (x : Operand) (ty : TypeId) (pos : String) (af : Array Edge) (gd : Option (Tmp × Bool)) (a : Act) (w : World) (K : Act → World → Prop) (Q : Exit → Act → World → Prop) (h : isI64 (a.eval x) = true) :
    Oper.wp Tryz.prog ⟨dst, .build 153 #[(1, x)], ty, pos, af, gd⟩ a w K Q = K (a.put dst (.agg (keyC (.int .u8 0) ++ #[a.eval x]))) w := by
  unfold Oper.wp execOp
  have e : ∃ n, a.eval x = .int .i64 n := by
    unfold isI64 at h
    split at h
    · rename_i n e; exact ⟨n, e⟩
    · cases h
  obtain ⟨n, e⟩ := e
  have hr := run_build (P := Tryz.prog) w 153 #[(1, a.eval x)] (keyC (.int .u8 0) ++ #[a.eval x]) (by rw [e]; exact built_l1 n)
  simp only [List.map_toArray, List.map_cons, List.map_nil, Sem.run_bind, hr, Result.andThen_ok]
  rfl
theorem build_lease (dst : Option Tmp) (x y : Operand) (ty : TypeId) (pos : String) (af : Array Edge) (a : Act) (w : World) (K : Act → World → Prop) (Q : Exit → Act → World → Prop)
    (h1 : (a.eval x).cells.size = 16) (h2 : (a.eval y).cells.size = 1) :
    Oper.wp Tryz.prog ⟨dst, .build 153 #[(0, x), (1, y)], ty, pos, af, none⟩ a w K Q = K (a.put dst (.agg ((a.eval x).cells ++ (a.eval y).cells))) w :=
  wp_buildTwo Tryz.underlying153 (by kernel_rfl) (by kernel_rfl) dst x y ty pos af a w K Q h1 h2
attribute [local go_sem ↓] Go.wp_at_zero Go.wp_at_succ
attribute [local go_sem ↓] build_k0 build_z build_l1 build_lease
attribute [local go_sem] isU8_eq isI64_eq
end Go.Proofs.YtclhgokchcklbaaGreatDoor
namespace Go.Proofs.YtclhgokchcklbaaGreatDoor
open Go Go.RowKit Go.Mem Gf Lea
section
variable {W wr w' : World} {tb p6 : Nat} {vt v' : Value} {lt l' : List Les}
end
end Go.Proofs.YtclhgokchcklbaaGreatDoor
end
section
namespace Go.Mem
open Go Go.RowKit
section
variable {w w' : World} {v : Value} {xs : List Int}
end
end Go.Mem
end
section
namespace Go.Mem
open Go Go.ChangeShapes Go.WideShapes Go.ChangeAt Go.RowKit
theorem int_of_wf {x : Int} (h : (Lit.int .i64 x).wf = true) : -9223372036854775808 ≤ x ∧ x ≤ 9223372036854775807 := by
  simp [Lit.wf, IntKind.min, IntKind.max, IntKind.signed, IntKind.bits] at h
  exact ⟨by omega, by omega⟩
section
variable {P : Program} {H : Type} {enc : TypeId × Value → H} {W : World} {base : Nat}
end
end Go.Mem
end
section
namespace Go.Mem
open Go Go.ChangeShapes Go.WideShapes Go.ChangeAt Go.RowKit Gf
section
variable {P : Program}
end
end Go.Mem
end
section
namespace Go.Mem
open Go Go.RowKit Gf
def SomeK (n : Nat) (w : World) (g o : Nat) : Prop := ∀ j, j < n → (w.cell? ⟨g, o + j, none⟩).isSome = true
theorem someK_drew (n : Nat) (w : World) (g o : Nat) : SomeK n w.drew g o = SomeK n w g o := rfl
end Go.Mem
end
section
namespace Go.Mem
open Go Go.ChangeShapes Go.WideShapes Go.ChangeAt Go.RowKit Gf Lea
end Go.Mem
namespace Go.Proofs.YtclhgokchcklbaaGreatDoor
open Go Go.RowKit Go.Mem Gf
end Go.Proofs.YtclhgokchcklbaaGreatDoor
namespace Go.Proofs.YtclhgokchcklbaaGreatDoor
open Go Go.RowKit Go.Mem Gf Lea
attribute [local go_sem ↓] Go.wp_at_zero Go.wp_at_succ
attribute [local go_sem ↓] load_lease
attribute [local go_sem] ptrB_eq ptrO_eq ptrIs_eq aggL_eq aggIs_eq
end Go.Proofs.YtclhgokchcklbaaGreatDoor
namespace Go.Proofs.YtclhgokchcklbaaGreatDoor
open Go Go.RowKit Go.Mem Gf Lea
end Go.Proofs.YtclhgokchcklbaaGreatDoor
namespace Go.Proofs.YtclhgokchcklbaaGreatDoor
open Go Go.RowKit Go.Mem Gf Lea
section
variable {W wr w' : World} {tb tu : Nat} {vt vu v' : Value} {lt lu l' : List Les}
end
end Go.Proofs.YtclhgokchcklbaaGreatDoor
end
section
namespace Go.Tail
open Go
def goesUpon (P : Program) (C' : World → Prop) (v : Value) : Result Next → Prop
  | .ok (.value u) w' => C' w' ∧ u = v
  | .ok .skip w' => C' w' ∧ v = undef
  | .ok (.enter f args) w' => Calls P f args w' (fun e w'' => e = .returned v ∧ C' w'')
  | _ => False
def goesAt (P : Program) (o : Oper) (a : Act) (C' : World → Prop) (w : World) (v : Value) : Prop := goesUpon P C' v ((execOp a.eval o).run P w)
section
variable {P : Program} {ops : Array Oper} {md : Region.Mode} {U : Bool → World → Prop} {j0 : Nat}
def YG (P : Program) (ops : Array Oper) (U : Bool → World → Prop) (j0 i : Nat) (o : Oper) (v : Value) (a : Act) : Prop :=
  (Region.wanted o (yielded ops a.tmps) = true ∧ ∀ b : Bool, (i = j0 → b = false) → ∀ w, U b w → goesAt P o a (U (if i = j0 then true else b)) w v) ∨
  (Region.wanted o (yielded ops a.tmps) = false ∧ v = undef ∧ i ≠ j0)
def Hd (P : Program) (md : Region.Mode) (ops : Array Oper) (U : Bool → World → Prop) (j0 n : Nat) (L : Array Bool → Act → Prop) : Nat → Array Bool → Act → Prop
  | 0, listed, a => L listed a
  | f + 1, listed, a => Region.ready md ops listed ≠ [] ∧ ∀ i, i ∈ Region.ready md ops listed → i < n ∧ ∃ oi v, ops[i]? = some oi ∧ YG P ops U j0 i oi v a ∧ Hd P md ops U j0 n L f (listed.setIfInBounds i true) (a.put oi.dst v)
end
end Go.Tail
end
section
namespace Go.Tail
open Go
section
variable {P : Program} {ops : Array Oper} {md : Region.Mode} {C : World → Prop} {R : Value → World → Prop} {j0 : Nat} {z : Value}
def YA (P : Program) (ops : Array Oper) (C : World → Prop) (R : Value → World → Prop) (j0 : Nat) (z : Value) (i : Nat) (o : Oper) (v : Value) (a : Act) : Prop :=
  (i ≠ j0 ∧ Region.wanted o (yielded ops a.tmps) = true ∧ (∀ w, C w → (execOp a.eval o).run P w = .ok (.value v) w) ∧ (∀ w, R z w → (execOp a.eval o).run P w = .ok (.value v) w)) ∨
  (i ≠ j0 ∧ Region.wanted o (yielded ops a.tmps) = false ∧ v = undef) ∨
  (i = j0 ∧ v = z ∧ Region.wanted o (yielded ops a.tmps) = true ∧ ∀ w, C w → ∃ f args, (execOp a.eval o).run P w = .ok (.enter f args) w ∧ Calls P f args w fun e w' => ∃ v', e = .returned v' ∧ R v' w')
def Ha (P : Program) (md : Region.Mode) (ops : Array Oper) (C : World → Prop) (R : Value → World → Prop) (j0 : Nat) (z : Value) (n : Nat) (L : Array Bool → Act → Prop) : Nat → Array Bool → Act → Prop
  | 0, listed, a => L listed a
  | f + 1, listed, a => Region.ready md ops listed ≠ [] ∧ ∀ i, i ∈ Region.ready md ops listed → i < n ∧ ∃ oi v, ops[i]? = some oi ∧ YA P ops C R j0 z i oi v a ∧ Ha P md ops C R j0 z n L f (listed.setIfInBounds i true) (a.put oi.dst v)
theorem set_other {listed : Array Bool} {i : Nat} (h : i ≠ j0) : (listed.setIfInBounds i true).getD j0 false = listed.getD j0 false := getD_set_ne false h
end
end Go.Tail
namespace Go.Tail
open Go
section
variable {P : Program} {ops : Array Oper} {md : Region.Mode} {Q : Exit → Act → World → Prop} {S : World → Prop}
end
end Go.Tail
end
section
namespace Go.Tail
open Go
section
variable {P : Program} {ops : Array Oper} {md : Region.Mode} {isM : Nat → Bool} {kn : Nat → Option Value} {J : (Nat → Bool) → (Nat → Value) → World → Prop}
def ancs (md : Region.Mode) (ops : Array Oper) : Nat → Nat → List Nat
  | 0, _ => []
  | f + 1, j => match ops[j]? with
    | none => []
    | some o => (o.after.toList.filter fun e => Region.binds md e).flatMap fun e => e.on :: ancs md ops f e.on
theorem ancs_listed {listed : Array Bool} (hcl : ∀ j oj, ops[j]? = some oj → listed.getD j false = true → ∀ e ∈ oj.after, Region.binds md e = true → listed.getD e.on false = true) :
    ∀ (f j : Nat), (∀ oj, ops[j]? = some oj → ∀ e ∈ oj.after, Region.binds md e = true → listed.getD e.on false = true) → ∀ k ∈ ancs md ops f j, listed.getD k false = true
  | 0, _, _, k, hk => by cases hk
  | f + 1, j, h, k, hk => by
    unfold ancs at hk
    cases ho : ops[j]? with
    | none => rw [ho] at hk; cases hk
    | some o =>
      rw [ho] at hk
      obtain ⟨e, he, hk⟩ := List.mem_flatMap.1 hk
      rw [List.mem_filter] at he
      have h1 := h o ho e (by simpa using he.1) he.2
      rcases List.mem_cons.1 hk with rfl | hk
      · exact h1
      · exact ancs_listed hcl f e.on (fun oj hj => hcl e.on oj hj h1) k hk
def Dm (isM : Nat → Bool) (listed : Array Bool) : Nat → Bool := fun k => isM k && listed.getD k false
def updB (D : Nat → Bool) (i : Nat) : Nat → Bool := fun k => if k = i then true else D k
def updV (z : Nat → Value) (i : Nat) (v : Value) : Nat → Value := fun k => if k = i then v else z k
def dep (md : Region.Mode) (ops : Array Oper) (isM : Nat → Bool) (i k : Nat) : Bool := isM k && (ancs md ops ops.size i).contains k
def pre (md : Region.Mode) (ops : Array Oper) (isM : Nat → Bool) (k i : Nat) : Bool := isM k && (ancs md ops ops.size k).contains i
def Mv (P : Program) (kn : Nat → Option Value) (J : (Nat → Bool) → (Nat → Value) → World → Prop) (D : Nat → Bool) (z : Nat → Value) (i : Nat) (o : Oper) (a : Act) (w : World) : Prop :=
  (∃ f args, (execOp a.eval o).run P w = .ok (.enter f args) w ∧ Calls P f args w fun e w' => ∃ v, e = .returned v ∧ (∀ c, kn i = some c → v = c) ∧ J (updB D i) (updV z i v) w') ∨
  (∃ v w', (execOp a.eval o).run P w = .ok (.value v) w' ∧ (∀ c, kn i = some c → v = c) ∧ J (updB D i) (updV z i v) w') ∨
  (∃ w', (execOp a.eval o).run P w = .ok .skip w' ∧ (∀ c, kn i = some c → undef = c) ∧ J (updB D i) (updV z i undef) w')
def YJ (P : Program) (md : Region.Mode) (ops : Array Oper) (isM : Nat → Bool) (kn : Nat → Option Value) (J : (Nat → Bool) → (Nat → Value) → World → Prop) (z : Nat → Value) (i : Nat) (o : Oper) (v : Value) (a : Act) : Prop :=
  (isM i = false ∧ Region.wanted o (yielded ops a.tmps) = true ∧ ∀ D w, (∀ k, dep md ops isM i k = true → D k = true) → (∀ k, pre md ops isM k i = true → D k = false) → J D z w → (execOp a.eval o).run P w = .ok (.value v) w) ∨
  (isM i = false ∧ Region.wanted o (yielded ops a.tmps) = false ∧ v = undef) ∨
  (isM i = true ∧ Region.wanted o (yielded ops a.tmps) = true ∧ v = (kn i).getD (z i) ∧ ∀ D z' w, D i = false → (∀ k, D k = true → z k = z' k) → (∀ k, dep md ops isM i k = true → D k = true) → (∀ k, pre md ops isM k i = true → D k = false) → J D z' w → Mv P kn J D z' i o a w)
theorem YJ.of_same {z : Nat → Value} {i : Nat} {o : Oper} {v : Value} {a a' : Act} (h : YJ P md ops isM kn J z i o v a) (he : execOp a'.eval o = execOp a.eval o)
    (hw : Region.wanted o (yielded ops a'.tmps) = Region.wanted o (yielded ops a.tmps)) : YJ P md ops isM kn J z i o v a' := by
  unfold YJ Mv at *
  rw [he, hw]
  exact h
theorem YJ.put {z : Nat → Value} {i : Nat} {oi oj : Oper} {v u : Value} {a : Act} (h : YJ P md ops isM kn J z i oi v a) (hap : oi.apart ops oj = true) (hsi : ∀ cs b, oi.op ≠ .select cs b) : YJ P md ops isM kn J z i oi v (a.put oj.dst u) := by
  obtain ⟨_, _, h3⟩ := Oper.apart_spec hap
  exact h.of_same (execOp_put oi hsi a oj.dst u h3) (wanted_put oi a oj.dst u h3)
theorem YJ.unput {z : Nat → Value} {j : Nat} {oi oj : Oper} {v u : Value} {a : Act} (h : YJ P md ops isM kn J z j oj u (a.put oi.dst v)) (hap : oi.apart ops oj = true) (hsj : ∀ cs b, oj.op ≠ .select cs b) : YJ P md ops isM kn J z j oj u a := by
  obtain ⟨h1, _, _⟩ := Oper.apart_spec hap
  exact h.of_same (execOp_put oj hsj a oi.dst v h1).symm (wanted_put oj a oi.dst v h1).symm
def HJ (P : Program) (md : Region.Mode) (ops : Array Oper) (isM : Nat → Bool) (kn : Nat → Option Value) (J : (Nat → Bool) → (Nat → Value) → World → Prop) (z : Nat → Value) (n : Nat) (L : Array Bool → Act → Prop) : Nat → Array Bool → Act → Prop
  | 0, listed, a => L listed a
  | f + 1, listed, a => Region.ready md ops listed ≠ [] ∧ ∀ i, i ∈ Region.ready md ops listed → i < n ∧ ∃ oi v, ops[i]? = some oi ∧ YJ P md ops isM kn J z i oi v a ∧ HJ P md ops isM kn J z n L f (listed.setIfInBounds i true) (a.put oi.dst v)
theorem dm_set {listed : Array Bool} {i : Nat} (hi : listed.getD i true = false) : Dm isM (listed.setIfInBounds i true) = if isM i = true then updB (Dm isM listed) i else Dm isM listed := by
  have hlt : i < listed.size := by
    rcases Nat.lt_or_ge i listed.size with h | h
    · exact h
    · simp [Array.getElem?_eq_none h] at hi
  funext k
  by_cases hm : isM i = true
  · rw [if_pos hm]
    show (isM k && (listed.setIfInBounds i true).getD k false) = if k = i then true else (isM k && listed.getD k false)
    by_cases e : k = i
    · subst e
      rw [if_pos rfl, hm]
      simp [hlt]
    · rw [if_neg e, getD_set_ne false (Ne.symm e)]
  · rw [if_neg hm]
    show (isM k && (listed.setIfInBounds i true).getD k false) = (isM k && listed.getD k false)
    by_cases e : k = i
    · subst e
      have : isM k = false := by simpa using hm
      rw [this, Bool.false_and, Bool.false_and]
    · rw [getD_set_ne false (Ne.symm e)]
theorem any_J {n g : Nat} {L : (Nat → Value) → Array Bool → Act → Prop} {Q : Exit → Act → World → Prop} (hloc : ∀ D z z' w, (∀ k, D k = true → z k = z' k) → J D z w → J D z' w)
    (hL : ∀ z listed a w, J (Dm isM listed) z w → L z listed a → wpAny P md ops Q g listed a w) :
    ∀ (f : Nat) (listed : Array Bool) (a : Act) (w : World) (z : Nat → Value), HeadInv md ops n listed → J (Dm isM listed) z w → (∀ z', (∀ k, Dm isM listed k = true → z k = z' k) → HJ P md ops isM kn J z' n (L z') f listed a) → wpAny P md ops Q (f + g) listed a w := by
  intro f
  induction f with
  | zero => intro listed a w z _ hw h; rw [Nat.zero_add]; exact hL _ _ _ _ hw (h z fun _ _ => rfl)
  | succ f ih =>
    intro listed a w z inv hJ h
    rw [show f + 1 + g = (f + g) + 1 from by omega]
    have h0 := h z (fun _ _ => rfl)
    refine ⟨fun h1 => absurd h1 h0.1, fun i hi => ?_⟩
    obtain ⟨hin, oi, v, hoi, hy, hK⟩ := h0.2 i hi
    have hun := (mem_ready.1 hi).1
    have hset := dm_set (isM := isM) hun
    have hdep : ∀ k, dep md ops isM i k = true → Dm isM listed k = true := fun k hk => by
      unfold dep at hk
      rw [Bool.and_eq_true] at hk
      have hk2 : k ∈ ancs md ops ops.size i := by simpa using hk.2
      unfold Dm
      rw [hk.1, Bool.true_and]
      refine ancs_listed inv.closed _ _ (fun oj hj => ?_) k hk2
      obtain ⟨_, oj', hoj', hall⟩ := mem_ready.1 hi
      have e1 : oj = oj' := Option.some.inj (hj.symm.trans hoj')
      subst e1
      exact hall
    have hpre : ∀ k, pre md ops isM k i = true → Dm isM listed k = false := fun k hk => by
      unfold pre at hk
      rw [Bool.and_eq_true] at hk
      have hk2 : i ∈ ancs md ops ops.size k := by simpa using hk.2
      cases hD : Dm isM listed k with
      | false => rfl
      | true =>
        unfold Dm at hD
        rw [Bool.and_eq_true] at hD
        have := ancs_listed inv.closed _ _ (fun oj hj => inv.closed k oj hj hD.2) i hk2
        rw [getD_both hun] at this
        cases this
    unfold wpOp
    simp only [hoi]
    rcases hy with ⟨hm, hwt, hv⟩ | ⟨hm, hwt, rfl⟩ | ⟨hm, hwt, rfl, hv⟩
    · have hrun := hv _ w hdep hpre hJ
      simp only [hwt, if_true]
      refine .inl ?_
      unfold Oper.wp
      rw [hrun]
      rw [hm, if_neg (by decide)] at hset
      refine ih _ _ _ z (inv.set hi hin) (by rw [hset]; exact hJ) (fun z' hz' => ?_)
      rw [hset] at hz'
      obtain ⟨_, oi', v', hoi', hy', hK'⟩ := (h z' hz').2 i hi
      have eo : oi' = oi := Option.some.inj (hoi'.symm.trans hoi)
      subst eo
      rcases hy' with ⟨_, _, hv'⟩ | ⟨_, hwt', _⟩ | ⟨hm', _⟩
      · have e := (hv' _ w hdep hpre (hloc _ _ _ _ hz' hJ)).symm.trans hrun
        injection e with e1 _
        injection e1 with e1
        rw [← e1]; exact hK'
      · rw [hwt] at hwt'; cases hwt'
      · rw [hm] at hm'; cases hm'
    · simp only [hwt, Bool.false_eq_true, if_false]
      rw [hm, if_neg (by decide)] at hset
      refine ih _ _ _ z (inv.set hi hin) (by rw [hset]; exact hJ) (fun z' hz' => ?_)
      rw [hset] at hz'
      obtain ⟨_, oi', v', hoi', hy', hK'⟩ := (h z' hz').2 i hi
      have eo : oi' = oi := Option.some.inj (hoi'.symm.trans hoi)
      subst eo
      rcases hy' with ⟨_, hwt', _⟩ | ⟨_, _, e1⟩ | ⟨_, hwt', _⟩
      · rw [hwt] at hwt'; cases hwt'
      · rw [← e1]; exact hK'
      · rw [hwt] at hwt'; cases hwt'
    · rw [hm, if_pos rfl] at hset
      simp only [hwt, if_true]
      refine .inl ?_
      have hDi : Dm isM listed i = false := by unfold Dm; rw [getD_both hun, Bool.and_false]
      have next : ∀ v' w', (∀ c, kn i = some c → v' = c) → J (updB (Dm isM listed) i) (updV z i v') w' → wpAny P md ops Q (f + g) (listed.setIfInBounds i true) (a.put oi.dst v') w' := by
        intro v' w' hc hJ'
        refine ih _ _ _ (updV z i v') (inv.set hi hin) (by rw [hset]; exact hJ') (fun z'' hz'' => ?_)
        rw [hset] at hz''
        have hzi : v' = z'' i := by
          have := hz'' i (by simp [updB])
          simpa [updV] using this
        obtain ⟨_, oi', u, hoi', hy', hK'⟩ := (h z'' (fun k hk => by
          have hki : k ≠ i := fun e => by rw [e, hDi] at hk; cases hk
          have := hz'' k (by simp [updB, hk])
          simpa [updV, hki] using this)).2 i hi
        have eo : oi' = oi := Option.some.inj (hoi'.symm.trans hoi)
        subst eo
        rcases hy' with ⟨hm', _⟩ | ⟨hm', _⟩ | ⟨_, _, e1, _⟩
        · rw [hm] at hm'; cases hm'
        · rw [hm] at hm'; cases hm'
        · have e2 : u = v' := by
            rw [e1]
            cases hkn : kn i with
            | none => exact hzi.symm
            | some c => exact (hc c hkn).symm
          rw [← e2]; exact hK'
      rcases hv _ z w hDi (fun _ _ => rfl) hdep hpre hJ with ⟨fn, args, hr, hcalls⟩ | ⟨v', w', hr, hc, hJ'⟩ | ⟨w', hr, hc, hJ'⟩
      · unfold Oper.wp
        rw [hr]
        refine hcalls.mono ?_
        rintro e w'' ⟨v', rfl, hc, hJ'⟩
        exact next v' w'' hc hJ'
      · unfold Oper.wp
        rw [hr]
        exact next v' w' hc hJ'
      · unfold Oper.wp
        rw [hr]
        exact next undef w' hc hJ'
theorem first_J {z : Nat → Value} {n i : Nat} {oi : Oper} {v : Value} {L : Array Bool → Act → Prop} (hi : ops[i]? = some oi) (hsel : ∀ (j : Nat) (o : Oper) cs b, ops[j]? = some o → o.op ≠ .select cs b)
    (hs : Region.sinkB md ops n = true) (hc : Region.chainB md ops n = true) (hn : n < ops.size) (hin : i < n) (hdone : ∀ listed a, L listed a → ∀ j, j ∈ Region.ready md ops listed → n ≤ j) :
    ∀ (f : Nat) (listed : Array Bool) (a : Act), HeadInv md ops n listed →
      (∀ j oj, ops[j]? = some oj → j ≠ i → listed.getD j true = false → (∀ e ∈ oj.after, Region.binds md e = true → e.on ≠ i) → oi.apart ops oj = true) →
      i ∈ Region.ready md ops listed → YJ P md ops isM kn J z i oi v a →
      HJ P md ops isM kn J z n L f (listed.setIfInBounds i true) (a.put oi.dst v) → HJ P md ops isM kn J z n L (f + 1) listed a := by
  intro f
  induction f with
  | zero =>
    intro listed a inv _ hr hy H
    have hun := (mem_ready.1 hr).1
    refine ⟨fun h => (by rw [h] at hr; cases hr), fun j hj => ?_⟩
    have hjn : j < n := Nat.lt_of_not_le fun h => tail_waits hs hc hn inv _ i rfl hin hun j h hj
    by_cases e : j = i
    · subst e; exact ⟨hjn, oi, v, hi, hy, H⟩
    · have := hdone _ _ H j (ready_mono hj e)
      omega
  | succ f ih =>
    intro listed a inv hfree hr hy H
    have hun := (mem_ready.1 hr).1
    refine ⟨fun h => (by rw [h] at hr; cases hr), fun j hj => ?_⟩
    have hjn : j < n := Nat.lt_of_not_le fun h => tail_waits hs hc hn inv _ i rfl hin hun j h hj
    refine ⟨hjn, ?_⟩
    by_cases e : j = i
    · subst e; exact ⟨oi, v, hi, hy, H⟩
    · obtain ⟨hjun, oj, hoj, hall⟩ := mem_ready.1 hj
      have hnot : ∀ e ∈ oj.after, Region.binds md e = true → e.on ≠ i := fun e' he hb heq => by
        have h1 := hall e' he hb
        rw [heq, getD_both hun] at h1
        cases h1
      have hap := hfree j oj hoj e hjun hnot
      obtain ⟨_, oj', u, hoj', hyj, hKj⟩ := H.2 j (ready_mono hj e)
      have e1 : oj' = oj := Option.some.inj (hoj'.symm.trans hoj)
      subst e1
      have hfree' : ∀ k ok, ops[k]? = some ok → k ≠ i → (listed.setIfInBounds j true).getD k true = false →
          (∀ e ∈ ok.after, Region.binds md e = true → e.on ≠ i) → oi.apart ops ok = true := fun k ok hk hki hun' hno => by
        refine hfree k ok hk hki ?_ hno
        by_cases hjk : j = k
        · subst hjk; exact hjun
        · rw [getD_set_ne true hjk] at hun'; exact hun'
      refine ⟨oj', u, hoj, hyj.unput hap (fun cs b => hsel j oj' cs b hoj), ?_⟩
      refine ih (listed.setIfInBounds j true) _ (inv.set hj hjn) hfree' (ready_mono hr (Ne.symm e)) (hy.put hap (fun cs b => hsel i oi cs b hi)) ?_
      rw [Array.setIfInBounds_comm _ _ e]
      have hcomm := Act.put_comm a v u (Oper.apart_spec hap).2.1
      rw [← hcomm]
      exact hKj
def wpJ (P : Program) (ops : Array Oper) (isM : Nat → Bool) (kn : Nat → Option Value) (J : (Nat → Bool) → (Nat → Value) → World → Prop) (z : Nat → Value) (Lq : Act → Prop) : List Oper → Nat → Act → Prop
  | [], _, a => Lq a
  | o :: rest, k, a => ∃ v, YJ P .any ops isM kn J z k o v a ∧ wpJ P ops isM kn J z Lq rest (k + 1) (a.put o.dst v)
theorem lex_J {z : Nat → Value} {n g : Nat} {Lq : Act → Prop} (hsel : Region.noSelect ops = true) (hs : Region.sinkB .any ops n = true) (hc : Region.chainB .any ops n = true) (hn : n < ops.size) :
    ∀ (l : List Oper) (k : Nat) (listed : Array Bool) (a : Act), (∀ j, j < l.length → l[j]? = ops[k + j]?) → k + l.length = n → HeadInv .any ops n listed → (∀ i, i < k → listed.getD i false = true) →
    Region.lexHead .any ops g l.length k listed = true → wpJ P ops isM kn J z Lq l k a →
    HJ P .any ops isM kn J z n (fun listed' a' => Region.seqB .any ops g n listed' = true ∧ (∀ i, i < n → listed'.getD i false = true) ∧ Lq a') l.length listed a := by
  intro l
  induction l with
  | nil =>
    intro k listed a _ hk _ hdone hB h
    have : k = n := by simpa using hk
    subst this
    exact ⟨by simpa [Region.lexHead] using hB, hdone, h⟩
  | cons o l ih =>
    intro k listed a hl hk inv hdone hB h
    have h0 : ops[k]? = some o := by simpa using (hl 0 (by simp)).symm
    simp only [List.length_cons, Region.lexHead, Bool.and_eq_true] at hB
    obtain ⟨⟨hr, hf⟩, hB'⟩ := hB
    have hkn : k < n := by simp only [List.length_cons] at hk; omega
    have hr' : k ∈ Region.ready .any ops listed := by simpa using hr
    obtain ⟨v, hy, hK⟩ := h
    refine first_J h0 (Region.noSelect_spec hsel) hs hc hn hkn (fun listed' a' hL => seqB_ready hL.1) l.length listed a inv (Region.free_spec h0 hf) hr' hy ?_
    refine ih (k + 1) _ _ (fun j hj => by have := hl (j + 1) (by simp; omega); simpa [Nat.add_assoc, Nat.add_comm 1 j] using this) (by simp only [List.length_cons] at hk; omega) (inv.set hr' hkn) (fun i hi => ?_) hB' hK
    have hks : k < listed.size := by rw [inv.size]; omega
    by_cases e : k = i
    · subst e; simp [hks]
    · rw [getD_set_ne false e]; exact hdone i (by omega)
theorem wp_region_J {id : Nat} {Q : Exit → Act → World → Prop} {a : Act} {w : World} {l : List Oper} (n : Nat) (isM : Nat → Bool) (kn : Nat → Option Value) (J : (Nat → Bool) → (Nat → Value) → World → Prop) (hm : P.follows .mixedOrders = true)
    (hB : Region.lexTailB .any l.toArray n = true) (hM : ∀ k, isM k = true → k < n) (hloc : ∀ D z z' w, (∀ k, D k = true → z k = z' k) → J D z w → J D z' w) (hJ : J (fun _ => false) (fun _ => undef) w.drew)
    (h : ∀ z, wpJ P l.toArray isM kn J z (fun a' => ∀ w', J isM z w' → wpList P l.toArray Q (l.drop n) a' w') (l.take n) 0 a) :
    (Code.region id l.toArray true).wp P Q a w := by
  simp only [Region.lexTailB, Bool.and_eq_true, decide_eq_true_eq] at hB
  obtain ⟨⟨⟨⟨hsel, hn⟩, hs⟩, hc⟩, hlex⟩ := hB
  have hn' : n < l.length := by simpa using hn
  have htl : (l.take n).length = n := by simp; omega
  have inv0 : HeadInv .any l.toArray n (Array.replicate l.toArray.size false) :=
    ⟨by simp, fun j oj _ hl => (by rw [getD_replicate_false] at hl; cases hl), fun t _ ht => getD_in (by simpa using ht) (getD_replicate_false _ _)⟩
  have H := fun z => lex_J (isM := isM) (kn := kn) (J := J) (z := z) (g := l.toArray.size - n) hsel hs hc hn (l.take n) 0 _ a (fun j hj => by
    have hj' : j < n := by rw [htl] at hj; exact hj
    simp [hj']) (by simpa using htl) inv0 (fun i hi => by omega) (by rw [htl]; exact hlex) (h z)
  refine wp_region_any hm ?_
  have hD0 : Dm isM (Array.replicate l.toArray.size false) = fun _ => false := by
    funext k
    unfold Dm
    rw [getD_replicate_false, Bool.and_false]
  have := any_J (n := n) (isM := isM) (kn := kn) (J := J) (Q := Q) (g := l.toArray.size - n) (L := fun z listed' a' => Region.seqB .any l.toArray (l.toArray.size - n) n listed' = true ∧ (∀ i, i < n → listed'.getD i false = true) ∧ ∀ w', J isM z w' → wpList P l.toArray Q (l.drop n) a' w') hloc (fun z listed a' w' hw' hL => by
    have e : l.toArray.size - n = (l.drop n).length := by simp
    rw [e]
    refine wpAny_of_seq (l.drop n) n listed a' w' (fun j => by simp) (by rw [← e]; exact hL.1) (hL.2.2 w' ?_)
    have hDM : Dm isM listed = isM := by
      funext k
      unfold Dm
      cases hk : isM k with
      | false => rfl
      | true => rw [hL.2.1 k (hM k hk)]; rfl
    rwa [hDM] at hw') _ _ a w.drew (fun _ => undef) inv0 (by rw [hD0]; exact hJ) (fun z' _ => H z')
  rw [htl, show n + (l.toArray.size - n) = l.toArray.size from by omega] at this
  exact this
theorem J_pure {z : Nat → Value} {Lq : Act → Prop} {o : Oper} {rest : List Oper} {k : Nat} {a : Act} (hk : isM k = false) (v : Value) (hw : Region.wanted o (yielded ops a.tmps) = true) (h1 : ∀ D w, (∀ k', dep .any ops isM k k' = true → D k' = true) → (∀ k', pre .any ops isM k' k = true → D k' = false) → J D z w → (execOp a.eval o).run P w = .ok (.value v) w) (h : wpJ P ops isM kn J z Lq rest (k + 1) (a.put o.dst v)) :
    wpJ P ops isM kn J z Lq (o :: rest) k a := ⟨v, .inl ⟨hk, hw, h1⟩, h⟩
theorem J_ex {z : Nat → Value} {Lq : Act → Prop} {o : Oper} {rest : List Oper} {k : Nat} {a : Act} (hk : isM k = false) (hw : Region.wanted o (yielded ops a.tmps) = true) (h : ∃ v, (∀ w, (execOp a.eval o).run P w = .ok (.value v) w) ∧ wpJ P ops isM kn J z Lq rest (k + 1) (a.put o.dst v)) :
    wpJ P ops isM kn J z Lq (o :: rest) k a := by
  obtain ⟨v, h1, h2⟩ := h
  exact J_pure hk v hw (fun _ w _ _ _ => h1 w) h2
theorem J_at {z : Nat → Value} {Lq : Act → Prop} {o : Oper} {rest : List Oper} {k : Nat} {a : Act} (hk : isM k = false) (hw : Region.wanted o (yielded ops a.tmps) = true) (h : ∃ v, (∀ D w, (∀ k', dep .any ops isM k k' = true → D k' = true) → (∀ k', pre .any ops isM k' k = true → D k' = false) → J D z w → (execOp a.eval o).run P w = .ok (.value v) w) ∧ wpJ P ops isM kn J z Lq rest (k + 1) (a.put o.dst v)) :
    wpJ P ops isM kn J z Lq (o :: rest) k a := by
  obtain ⟨v, h1, h2⟩ := h
  exact J_pure hk v hw h1 h2
theorem J_skip {z : Nat → Value} {Lq : Act → Prop} {o : Oper} {rest : List Oper} {k : Nat} {a : Act} (hk : isM k = false) (hw : Region.wanted o (yielded ops a.tmps) = false) (h : wpJ P ops isM kn J z Lq rest (k + 1) (a.put o.dst undef)) :
    wpJ P ops isM kn J z Lq (o :: rest) k a := ⟨undef, .inr (.inl ⟨hk, hw, rfl⟩), h⟩
theorem J_load {z : Nat → Value} {Lq : Act → Prop} {o : Oper} {rest : List Oper} {k : Nat} {a : Act} (hk : isM k = false) (hw : Region.wanted o (yielded ops a.tmps) = true) (ty : TypeId) (x : Operand) (ho : o.op = .load ty x) (b off : Nat) (hx : a.eval x = .pointer (some ⟨b, off, none⟩)) (cs : List Value) {d : TypeDesc} (hC : ∀ D w, (∀ k', dep .any ops isM k k' = true → D k' = true) → (∀ k', pre .any ops isM k' k = true → D k' = false) → J D z w → w.rangeAt b off cs)
    (hu : P.underlying ty = some d) (hd : d.isRow = true) (hi : (P.info? ty).map (·.size) = some cs.length) (h : wpJ P ops isM kn J z Lq rest (k + 1) (a.put o.dst (.agg cs.toArray))) : wpJ P ops isM kn J z Lq (o :: rest) k a := by
  refine J_pure hk _ hw (fun D w hD hP hJ => ?_) h
  unfold execOp
  simp only [ho, hx, Instr.loadAt, Instr.sureAddr, Sem.run_bind, Sem.run_pure, Result.andThen_ok, run_loadVar_mid w b off ty cs d (hC D w hD hP hJ) hu hd hi]
theorem J_call {z : Nat → Value} {Lq : Act → Prop} {o : Oper} {rest : List Oper} {k : Nat} {a : Act} (hk : isM k = true) (hw : Region.wanted o (yielded ops a.tmps) = true)
    (h1 : ∃ f args, (∀ w, (execOp a.eval o).run P w = .ok (.enter f args) w) ∧ ∀ D z' w, D k = false → (∀ k', D k' = true → z k' = z' k') → (∀ k', dep .any ops isM k k' = true → D k' = true) → (∀ k', pre .any ops isM k' k = true → D k' = false) → J D z' w → Calls P f args w fun e w' => ∃ v, e = .returned v ∧ (∀ c, kn k = some c → v = c) ∧ J (updB D k) (updV z' k v) w')
    (h : wpJ P ops isM kn J z Lq rest (k + 1) (a.put o.dst ((kn k).getD (z k)))) : wpJ P ops isM kn J z Lq (o :: rest) k a := by
  obtain ⟨f, args, hr, hc⟩ := h1
  exact ⟨_, .inr (.inr ⟨hk, hw, rfl, fun D z' w hD hz hd hp hJ => .inl ⟨f, args, hr w, hc D z' w hD hz hd hp hJ⟩⟩), h⟩
end
end Go.Tail
end
section
namespace Go.Mem
open Go Go.RowKit Gf Lea
structure SrvS where
  slots : Nat
  room : Nat
  st : St
  tab : List Les
  broken : Bool
def SrvS.dead (s : SrvS) : Bool := s.broken || (s.st.disk.dead || s.st.dead)
def shareN (ix : Key) (n : Nat) : ByteArray := ⟨(115 :: (ix ++ [UInt8.ofNat n])).toArray⟩
def slotN (ix : Key) : ByteArray := ⟨(99 :: ix).toArray⟩
def leaseN (ix : Key) : ByteArray := ⟨(108 :: ix).toArray⟩
end Go.Mem
namespace Go.Proofs.YtclhgokchcklbaaGreatDoor
open Go Go.RowKit Go.Mem Gf Lea
def Core (pb sb lb d L tb : Nat) (v : Value) (b : Nat) : Prop := Foot sb lb d L b ∨ b = pb ∨ b = tb ∨ v.ownBlock = some b
def srvV (slots room d sb tb : Nat) (broken : Bool) : Array Value := #[.int .i64 slots, .int .i64 room, .pointer (some ⟨d, 0, none⟩), .pointer (some ⟨sb, 0, none⟩), .pointer (some ⟨tb, 0, none⟩), .bool broken]
structure SrvAt (w : World) (C X : Nat → Prop) (pb sb lb d L tb : Nat) (v : Value) (s : SrvS) : Prop where
  blk : Blk w pb (srvV s.slots s.room d sb tb s.broken) 79
  st : IsStore w (fun b => C b ∨ X b) sb lb d L s.st
  heap : Heap w tb v s.tab
  good : Lea.Good s.tab
  core : ∀ b, Core pb sb lb d L tb v b → C b
  xc : ∀ b, X b → ¬ C b
  npb : ¬ Foot sb lb d L pb
  ntb : ¬ Foot sb lb d L tb ∧ tb ≠ pb
  nown : ∀ g, v.ownBlock = some g → ¬ Foot sb lb d L g ∧ g ≠ pb
def IsSrv (w : World) (C X : Nat → Prop) (pb : Nat) (s : SrvS) : Prop := ∃ sb lb d L tb v, SrvAt w C X pb sb lb d L tb v s
section
variable {w w' : World} {C X S : Nat → Prop} {pb sb lb d L tb : Nat} {v : Value} {s : SrvS}
theorem SrvAt.lt (h : SrvAt w C X pb sb lb d L tb v s) {b : Nat} (hb : C b ∨ X b) : b < w.heap.size := h.st.old b hb
theorem SrvAt.tab (h : SrvAt w C X pb sb lb d L tb v s) : Tab w := h.st.tab
theorem SrvAt.chg (h : SrvAt w C X pb sb lb d L tb v s) (hc : Chg S w w') (h1 : ∀ b, S b → ¬ C b) (h2 : ∀ b, S b → b < w.heap.size → X b) : SrvAt w' C X pb sb lb d L tb v s := by
  have hk : ∀ b, Core pb sb lb d L tb v b → ¬ S b := fun b hb hS => h1 b hS (h.core b hb)
  exact ⟨hc.blk h.blk (hk _ (.inr (.inl rfl))), h.st.chg hc (fun b hb => hk b (.inl hb)) (fun b hS hlt => .inr (h2 b hS hlt)), ⟨h.heap.tab.chg hc (hk _ (.inr (.inr (.inl rfl)))) (fun g hg => hk g (.inr (.inr (.inr hg)))), h.heap.heap⟩, h.good, h.core, h.xc, h.npb, h.ntb, h.nown⟩
theorem SrvAt.below (h : SrvAt w C X pb sb lb d L tb v s) (hb : Below w.heap.size w w') : SrvAt w' C X pb sb lb d L tb v s :=
  h.chg (S := fun _ => False) (Chg.of_below hb) (fun _ h => h.elim) (fun _ h => h.elim)
theorem IsSrv.below (h : IsSrv w C X pb s) (hb : Below w.heap.size w w') : IsSrv w' C X pb s := by
  obtain ⟨sb, lb, d, L, tb, v, h⟩ := h
  exact ⟨sb, lb, d, L, tb, v, h.below hb⟩
theorem IsSrv.chg (h : IsSrv w C X pb s) (hc : Chg S w w') (h1 : ∀ b, S b → ¬ C b) (h2 : ∀ b, S b → b < w.heap.size → X b) : IsSrv w' C X pb s := by
  obtain ⟨sb, lb, d, L, tb, v, h⟩ := h
  exact ⟨sb, lb, d, L, tb, v, h.chg hc h1 h2⟩
theorem IsSrv.lt (h : IsSrv w C X pb s) {b : Nat} (hb : C b ∨ X b) : b < w.heap.size := by
  obtain ⟨sb, lb, d, L, tb, v, h⟩ := h
  exact h.lt hb
theorem IsSrv.tab (h : IsSrv w C X pb s) : Tab w := by
  obtain ⟨sb, lb, d, L, tb, v, h⟩ := h
  exact h.tab
theorem IsSrv.growX {X' : Nat → Prop} (h : IsSrv w C X pb s) (h1 : ∀ b, X b → X' b) (h2 : ∀ b, X' b → X b ∨ w.heap.size ≤ b) (hb : Below w.heap.size w w') (h3 : ∀ b, X' b → b < w'.heap.size) : IsSrv w' C X' pb s := by
  obtain ⟨sb, lb, d, L, tb, v, h⟩ := h
  have h' := h.below hb
  have hs := hb.size
  refine ⟨sb, lb, d, L, tb, v, h'.blk, h.st.grow (S := fun _ => False) (Chg.of_below hb) (fun _ _ h => h) (fun _ h => h.elim) (fun b hM => ?_) (fun b hN => ?_) (fun b hM => ?_), h'.heap, h'.good, h'.core, fun b hX hC => ?_, h'.npb, h'.ntb, h'.nown⟩
  · rcases hM with hM | hM
    · exact .inl (.inl hM)
    · rcases h2 b hM with h | h
      · exact .inl (.inr h)
      · exact .inr h
  · rcases hN with hN | hN
    · exact .inl hN
    · exact .inr (h1 b hN)
  · rcases hM with hM | hM
    · exact Nat.lt_of_lt_of_le (h.lt (.inl hM)) hs
    · exact h3 b hM
  · rcases h2 b hX with h4 | h4
    · exact h.xc b h4 hC
    · have := h.lt (.inl hC); omega
def SChg (C C' : Nat → Prop) (w w' : World) : Prop := Chg C w w' ∧ ∀ b, C' b → C b ∨ w.heap.size ≤ b
theorem SChg.of_below (hb : Below w.heap.size w w') : SChg C C w w' := ⟨Chg.of_below hb, fun _ h => .inl h⟩
theorem SChg.trans {C1 C2 : Nat → Prop} {w1 w2 : World} (h : SChg C C1 w w1) (h' : SChg C1 C2 w1 w2) : SChg C C2 w w2 :=
  ⟨h.1.mix h'.1 (fun b hb => h.2 b hb), fun b hb => by
    rcases h'.2 b hb with h1 | h1
    · exact h.2 b h1
    · exact .inr (Nat.le_trans h.1.size h1)⟩
theorem SChg.pre {C' : Nat → Prop} {w1 : World} (hb : Below w.heap.size w w1) (h' : SChg C C' w1 w') : SChg C C' w w' := (SChg.of_below hb).trans h'
theorem SChg.post {C' : Nat → Prop} {w1 : World} (h : SChg C C' w w1) (hb : Below w1.heap.size w1 w') : SChg C C' w w' := h.trans (SChg.of_below hb)
end
attribute [local go_sem ↓] Go.wp_at_zero Go.wp_at_succ
set_option maxRecDepth 100000 in
theorem sdead_calls (N : Nat → Prop) (sb lb d L : Nat) (s : St) (w : World) (h : IsStore w N sb lb d L s) :
    Calls Tryz.prog 32 #[.pointer (some ⟨sb, 0, none⟩)] w fun e w' => e = .returned (.bool s.dead) ∧ w = w' := by
  obtain ⟨lc, hS, hlc1, hlc2⟩ := h.blk
  have c3 : w.cell? ⟨sb, 3, none⟩ = some (.bool s.dead) := hS.cell 3
  clear h hS
  go_enter Tryz.func32, Tryz.ntmps32
  go_wp2
  go_ret
  exact ⟨rfl, rfl⟩
set_option maxRecDepth 100000 in
theorem srvdead_calls (C X : Nat → Prop) (pb : Nat) (s : SrvS) (w : World) (h : IsSrv w C X pb s) :
    Calls Tryz.prog 13 #[.pointer (some ⟨pb, 0, none⟩)] w fun e w' => e = .returned (.bool s.dead) ∧ w = w' := by
  obtain ⟨sb, lb, d, L, tb, v, h⟩ := h
  have c5 : w.cell? ⟨pb, 5, none⟩ = some (.bool s.broken) := h.blk.cell 5
  have c2 : w.cell? ⟨pb, 2, none⟩ = some (.pointer (some ⟨d, 0, none⟩)) := h.blk.cell 2
  have c3 : w.cell? ⟨pb, 3, none⟩ = some (.pointer (some ⟨sb, 0, none⟩)) := h.blk.cell 3
  have H := Lib.hid h
  clear h
  cases hbr : s.broken with
  | true =>
    have HD := Lib.hid (show s.dead = true from by unfold SrvS.dead; rw [hbr]; rfl)
    rw [hbr] at c5
    clear hbr
    go_enter Tryz.func13, Tryz.ntmps13
    go_wp2
    go_ret
    exact ⟨by rw [HD.out]; rfl, rfl⟩
  | false =>
    have HD := Lib.hid (show s.dead = (s.st.disk.dead || s.st.dead) from by unfold SrvS.dead; rw [hbr]; rfl)
    rw [hbr] at c5
    clear hbr
    go_enter Tryz.func13, Tryz.ntmps13
    go_wp2_with fail
    refine (ddead_calls d L s.st.disk w H.out.st.disk).mono ?_
    rintro e w1 ⟨rfl, rfl⟩
    cases hdd : s.st.disk.dead with
    | true =>
      rw [hdd] at HD
      clear hdd
      go_wp2
      go_ret
      exact ⟨by rw [HD.out]; rfl, rfl⟩
    | false =>
      rw [hdd] at HD
      clear hdd
      go_wp2_with fail
      refine (sdead_calls _ sb lb d L s.st w H.out.st).mono ?_
      rintro e w1 ⟨rfl, rfl⟩
      obtain ⟨b, hb⟩ : ∃ b, b = s.st.dead := ⟨_, rfl⟩
      rw [← hb] at HD ⊢
      clear hb
      cases b
      all_goals
        go_wp2
        go_ret
        exact ⟨by rw [HD.out]; rfl, rfl⟩
set_option maxRecDepth 100000 in
theorem srvfree_calls (C X : Nat → Prop) (pb : Nat) (s : SrvS) (w : World) (h : IsSrv w C X pb s) :
    Calls Tryz.prog 11 #[.pointer (some ⟨pb, 0, none⟩)] w fun e w' => e = .returned (.int .i64 (s.st.freeN : Nat)) ∧ Below w.heap.size w w' := by
  obtain ⟨sb, lb, d, L, tb, v, h⟩ := h
  have c3 : w.cell? ⟨pb, 3, none⟩ = some (.pointer (some ⟨sb, 0, none⟩)) := h.blk.cell 3
  have H := Lib.hid h
  clear h
  go_enter Tryz.func11, Tryz.ntmps11
  go_wp2_with fail
  refine (sfree_calls _ sb lb d L s.st w H.out.st).mono ?_
  rintro e w1 ⟨rfl, hb⟩
  go_wp2
  go_ret
  exact ⟨rfl, hb⟩
set_option maxRecDepth 100000 in
theorem fails_calls (n : Int) (w : World) : Calls Tryz.prog 33 #[.int .i64 n] w fun e w' => e = .returned (.agg #[.int .i64 n, .slice none 0 0]) ∧ Below w.heap.size w w' := by
  go_enter Tryz.func33, Tryz.ntmps33
  go_wp2_with fail
  exact bodyPost_ret (v := .agg #[.int .i64 n, .slice none 0 0]) (by simp [results, Tryz.results33, go_sem]) rfl ⟨rfl, (Below.refl _ _).alloc (Nat.le_refl _) _⟩
set_option maxRecDepth 100000 in
theorem time_calls (e : Int) (w : World) : Calls Tryz.prog 122 #[.int .i64 e] w fun r w' => r = .returned (.bool (decide (May e))) ∧ w = w' := by
  by_cases h1 : 1 ≤ e
  · by_cases h2 : e ≤ 1048576
    · have HD := Lib.hid (show decide (May e) = true from by simp [May, h1, h2])
      go_enter Tryz.func122, Tryz.ntmps122
      go_wp2
      go_ret
      exact ⟨by rw [HD.out]; rfl, rfl⟩
    · have HD := Lib.hid (show decide (May e) = false from by simp [May, h1, h2])
      go_enter Tryz.func122, Tryz.ntmps122
      go_wp2
      go_ret
      exact ⟨by rw [HD.out]; rfl, rfl⟩
  · have HD := Lib.hid (show decide (May e) = false from by simp [May, h1])
    go_enter Tryz.func122, Tryz.ntmps122
    go_wp2
    go_ret
    exact ⟨by rw [HD.out]; rfl, rfl⟩
end Go.Proofs.YtclhgokchcklbaaGreatDoor
end
section
namespace Cod
open Go.Lib
end Cod
end
section
namespace Go.Proofs.YtclhgokchcklbaaGreatDoor
open Go Go.RowKit Go.Mem Gf
attribute [local go_sem ↓] Go.wp_at_zero Go.wp_at_succ
theorem conv_one (u : UInt8) (w : World) (g : Nat) (h : w.cell? ⟨g, 0, none⟩ = some (.int .u8 ((u.toNat : Nat) : Int))) : (convert 38 9 (.slice (some ⟨g, 0, none⟩) 1 1)).run Tryz.prog w = .ok (.string ⟨#[u]⟩) w := by
  refine conv_string (bs := [u]) ⟨_, 1, rfl, by simp, maxLen_ge (by decide), fun _ => ⟨g, 0, rfl, fun i v hi => ?_⟩⟩
  cases i with
  | zero => simp at hi; subst hi; exact h
  | succ i => simp at hi
end Go.Proofs.YtclhgokchcklbaaGreatDoor
end
section
namespace Go.Proofs.YtclhgokchcklbaaGreatDoor
open Go Go.RowKit Go.Mem Gf Lea
attribute [local go_sem ↓] Go.wp_at_zero Go.wp_at_succ
theorem key_conv {ix : Key} (h : ix.length = 16) {w : World} {g : Nat} {t : TypeId} (hb : Blk w g (bV ix).toArray t) : (convert 38 9 (.slice (some ⟨g, 0, none⟩) 16 16)).run Tryz.prog w = .ok (.string ⟨ix.toArray⟩) w := by
  have h1 : Bys w (.slice (some ⟨g, 0, none⟩) ix.length 16) ix := Blk.bys hb (by omega) (maxLen_ge (by decide)) (fun k u hk => by simp [bV_get, hk])
  rw [h] at h1
  exact conv_string h1
theorem name_one (c : UInt8) (ix : Key) : ((⟨#[c]⟩ : ByteArray) ++ ⟨ix.toArray⟩) = ⟨(c :: ix).toArray⟩ := by
  apply ByteArray.ext
  rw [ByteArray.data_append]
  simp
theorem name_size (c : UInt8) {ix : Key} (h : ix.length = 16) : (⟨(c :: ix).toArray⟩ : ByteArray).size = 17 := by
  show (c :: ix).toArray.size = 17
  simp [h]
set_option maxRecDepth 100000 in
theorem leases_calls (ix : Key) (h : ix.length = 16) (w : World) : Calls Tryz.prog 42 #[.agg (bV ix).toArray] w fun e w' => e = .returned (.string (leaseN ix)) ∧ Below w.heap.size w w' := by
  have hc := key_conv h (Blk.new w (bV ix).toArray 44)
  have hl : (bV ix).length = 16 := by rw [bV_len]; exact h
  have HN := Lib.hid (name_one 108 ix)
  have hz : (⟨ix.toArray⟩ : ByteArray).size = 16 := by show ix.toArray.size = 16; simp [h]
  have hm : 17 ≤ maxLen := maxLen_ge (by decide)
  clear h
  go_enter Tryz.func42, Tryz.ntmps42
  go_wp2_with fail
  go_ret
  exact ⟨by unfold leaseN; rw [← HN.out]; rfl, (Below.refl _ _).alloc (Nat.le_refl _) _⟩
set_option maxRecDepth 100000 in
theorem share_calls (ix : Key) (h : ix.length = 16) (n : Nat) (hn : n < 16) (w : World) : Calls Tryz.prog 123 #[.agg (bV ix).toArray, .int .i64 n] w fun e w' => e = .returned (.string (shareN ix n)) ∧ Below w.heap.size w w' := by
  have hB := Blk.new w (bV ix).toArray 44
  have hc1 := key_conv h hB.drew
  have hc2 := fun o => key_conv h (hB.alloc o).drew
  have hl : (bV ix).length = 16 := by rw [bV_len]; exact h
  have hu : ((UInt8.ofNat n).toNat : Int) = (n : Int) := by rw [UInt8.toNat_ofNat']; omega
  have hv := conv_one (UInt8.ofNat n)
  rw [hu] at hv
  have w8 : IntKind.u8.wrap (n : Int) = (n : Int) := by unfold IntKind.wrap; simp [IntKind.bits, IntKind.signed]; omega
  obtain ⟨u, hue⟩ : ∃ u, u = UInt8.ofNat n := ⟨_, rfl⟩
  rw [← hue] at hv
  have HN := Lib.hid (show ((⟨#[115]⟩ : ByteArray) ++ ⟨ix.toArray⟩) ++ ⟨#[u]⟩ = shareN ix n from by
    unfold shareN
    apply ByteArray.ext
    rw [ByteArray.data_append, ByteArray.data_append, ← hue]
    simp)
  have hz : (⟨ix.toArray⟩ : ByteArray).size = 16 := by show ix.toArray.size = 16; simp [h]
  have hm : 18 ≤ maxLen := maxLen_ge (by decide)
  have hm2 : 17 ≤ maxLen := maxLen_ge (by decide)
  clear h hue hu
  go_enter Tryz.func123, Tryz.ntmps123
  go_wp2_with fail
  go_region_with fail
  all_goals
    go_wp2_with fail
    go_ret
    exact ⟨by rw [← HN.out]; rfl, of_drew (w := w) (((Below.refl _ _).alloc (by simp) _).alloc (by simp) _)⟩
end Go.Proofs.YtclhgokchcklbaaGreatDoor
end
section
namespace Go.Mem
open Go Go.RowKit Gf
abbrev Blob := Int × List UInt8
section
variable {tr : TypeId} {w w' : World} {base : Nat} {N S : Nat → Prop} {u u' v : Value} {l : List Blob} {x : Blob}
end
end Go.Mem
namespace Go.Proofs.YtclhgokchcklbaaGreatDoor
open Go Go.RowKit Go.Mem Gf Lea
end Go.Proofs.YtclhgokchcklbaaGreatDoor
namespace Go.Mem
end Go.Mem
namespace Go.Proofs.YtclhgokchcklbaaGreatDoor
open Go Go.RowKit Go.Mem Gf Lea
attribute [local go_sem ↓] Go.wp_at_zero Go.wp_at_succ
end Go.Proofs.YtclhgokchcklbaaGreatDoor
end
section
namespace Lea
open Go
def packL (l : List Sec) : List UInt8 := l.flatMap fun s => Cod.nets [s.1, Cod.be 4 s.2.toNat]
theorem packL_app (l : List Sec) (s : Sec) : packL (l ++ [s]) = packL l ++ Cod.nets [s.1, Cod.be 4 s.2.toNat] := by
  unfold packL
  rw [List.flatMap_append, List.flatMap_cons, List.flatMap_nil, List.append_nil]
end Lea
namespace Go.Proofs.YtclhgokchcklbaaGreatDoor
open Go Go.RowKit Go.Mem Gf Lea
theorem nets_one (k : Key) (h : k.length = 16) (n : Nat) : (Cod.nets [k, Cod.be 4 n]).length ≤ 48 := by
  have h1 : Lib.nDigits 16 ≤ 9 := by have := dec_len 16 (by omega); rw [Lib.itoa_nonneg, Lib.decDigits_length] at this; exact this
  have h2 : Lib.nDigits 4 ≤ 9 := by have := dec_len 4 (by omega); rw [Lib.itoa_nonneg, Lib.decDigits_length] at this; exact this
  simp only [Cod.nets, List.length_append, Cod.net_len, Cod.be_len, List.length_nil, h]
  omega
theorem packL_len (l : List Sec) (h : ∀ s ∈ l, s.1.length = 16) : (packL l).length ≤ 48 * l.length := by
  induction l with
  | nil => simp [packL]
  | cons s l ih =>
    have h1 := ih (fun x hx => h x (by simp [hx]))
    have h2 := nets_one s.1 (h s (by simp)) s.2.toNat
    unfold packL at *
    rw [List.flatMap_cons, List.length_append, List.length_cons]
    omega
theorem rws2 {w : World} {g : Nat} {t : TypeId} {v1 v2 : Value} {b1 b2 : List UInt8} (h : Blk w g #[v1, v2] t) (h1 : Bys w v1 b1) (h2 : Bys w v2 b2) : Rws w (.slice (some ⟨g, 0, none⟩) 2 2) [b1, b2] := by
  refine ⟨_, 2, rfl, by simp, by decide, fun _ => ⟨g, 0, rfl, fun k r hk => ?_⟩⟩
  rw [Nat.zero_add]
  match k, hk with
  | 0, hk => simp at hk; subst hk; exact ⟨v1, by rw [h.cell]; rfl, h1⟩
  | 1, hk => simp at hk; subst hk; exact ⟨v2, by rw [h.cell]; rfl, h2⟩
  | k + 2, hk => simp at hk
attribute [local go_sem ↓] Go.wp_at_zero Go.wp_at_succ
attribute [local go_sem ↓] load_lease store_lease
attribute [local go_sem] ptrB_eq ptrO_eq ptrIs_eq aggL_eq aggIs_eq readK_drew hasK_drew readK_alloc_past hasK_alloc_past readK_alloc_in hasK_alloc_in setCells_drew setCells_alloc_past setCells_alloc_at
set_option maxRecDepth 100000 in
set_option maxHeartbeats 1000000 in
theorem pack_calls (w : World) (base : Nat) (v : Value) (l : List Sec) (h : OwnG encL WfL 17 153 w base v l) (he : ∀ s ∈ l, 0 ≤ s.2 ∧ s.2 ≤ 1048576) (hl : l.length ≤ 1000) (hT : Tab w) :
    Calls Tryz.prog 138 #[v] w fun e w' => ∃ vo, e = .returned vo ∧ OwnB 5 w' w.heap.size vo (packL l) ∧ Below w.heap.size w w' := by
  obtain ⟨p, c, rfl⟩ := h.slice
  obtain ⟨n, hn⟩ : ∃ n, n = l.length := ⟨_, rfl⟩
  have hrow : 0 < n → ∃ g, p = some ⟨g, 0, none⟩ ∧ RowG encL WfL 17 153 w base g n c l := fun h0 => by
    obtain ⟨g, cap, e, hr⟩ := h.ex (by omega)
    injection e with ea en ec
    rw [← ec, ← hn] at hr
    exact ⟨g, ea, hr⟩
  rw [← hn] at hl ⊢
  have H := Lib.hid (And.intro hrow (And.intro hn (And.intro he hT)))
  clear h hrow hn he hT
  go_enter Tryz.func138, Tryz.ntmps138
  go_upto_region 3 with fail
  go_loopw [3, 8] (fun v3 vi wr => ∃ i : Nat, i ≤ n ∧ vi = .int .i64 i ∧ Hid (OwnB 5 wr w.heap.size v3 (packL (l.take i)) ∧ Below w.heap.size w wr)) (fun _ vi _ => n - (intOf vi).toNat)
  case atStart => exact ⟨0, Nat.zero_le _, rfl, World.ownsRow_nil _ _ _ _, Below.refl _ _⟩
  case round =>
    obtain ⟨i, hi0, rfl, G⟩ := hrel
    by_cases hin : i < n
    · obtain ⟨g, rfl, hr0⟩ := H.out.1 (by omega)
      have hr := hr0.chg (S := fun _ => False) (Chg.of_below G.out.2) (fun h => h)
      have hx : l[i]? = some (l[i]'(by have := H.out.2.1; omega)) := by simp
      generalize l[i]'(by have := H.out.2.1; omega) = x at hx
      have wx := hr.wf x (List.mem_of_getElem? hx)
      have hxe := H.out.2.2.1 x (List.mem_of_getElem? hx)
      have rx := hr.read ecL hx
      have t1 : HasK 17 wr g (i * 17) := hr.there hin
      have ax := allL wx
      have lx := ecL.len x wx
      have gl : g < wr.heap.size := hr.lt
      have i0 : (0 : Int) ≤ (i : Int) := by omega
      have i1 : (i : Int) < (n : Int) := by omega
      obtain ⟨m, hm⟩ : ∃ m : Nat, m = x.2.toNat := ⟨_, rfl⟩
      have hm2 : x.2 = (m : Int) := by omega
      have ce := leaseEnd wx
      rw [hm2] at ce
      have hsec := fun (k : Nat) (u : UInt8) (hk : x.1[k]? = some u) => encL_sec hk
      have hp1 : packL (l.take (i + 1)) = packL (l.take i) ++ Cod.nets [x.1, Cod.be 4 m] := by rw [List.take_add_one, hx, Option.toList_some, packL_app, hm]
      have hpl : (packL (l.take i)).length ≤ 48000 := by
        have := packL_len (l.take i) (fun s hs => hr.wf s (List.mem_of_mem_take hs))
        rw [List.length_take] at this
        omega
      obtain ⟨cl, hcl⟩ : ∃ c, c = encL x := ⟨_, rfl⟩
      rw [← hcl] at rx ax lx ce
      have hmb : m ≤ 1048576 := by omega
      have HX := Lib.hid (And.intro wx (And.intro hcl (And.intro hsec (And.intro hp1 hpl))))
      clear hr0 hr hx hxe hm hm2 hcl hsec hp1 hpl wx
      go_upto_region 5 with fail
      have hW1 : Blk (wr.alloc (.cells cl.toArray 153)) wr.heap.size cl.toArray 153 := Blk.new _ _ _
      have hB1 : Below wr.heap.size wr (wr.alloc (.cells cl.toArray 153)) := (Below.refl _ _).alloc (Nat.le_refl _) _
      obtain ⟨W1, hw1⟩ : ∃ W, W = wr.alloc (.cells cl.toArray 153) := ⟨_, rfl⟩
      obtain ⟨p5, hp5⟩ : ∃ q, q = wr.heap.size := ⟨_, rfl⟩
      rw [← hw1] at hW1 hB1 ⊢
      rw [← hp5] at hW1 ⊢
      have HW := Lib.hid (And.intro hW1 (And.intro hB1 hp5))
      clear hw1 hp5 hW1 hB1
      have c16 : W1.cell? ⟨p5, 16, none⟩ = some (.int .i64 m) := by rw [HW.out.1.cell 16]; exact ce
      go_region_law
        (first
          | (refine stepApp_bytes E8c (by rfl) _ _ (by rfl) (base := w.heap.size) (v := u3) (xv := v3) (bs := packL (l.take i)) (news := Cod.nets [x.1, Cod.be 4 m]) (by rfl) (by rfl) (own_chg (S := fun _ => False) HY.out.1 (Chg.of_below HZ.out.2) (fun _ _ h => h)) HZ.out.1.bys (by have := nets_one x.1 HX.out.1 m; have := HX.out.2.2.2.2; omega) (Nat.le_trans G.out.2.size (Nat.le_trans HY.out.2.2.2.2.size HZ.out.2.size)) ?_
             intro v4 x4 hv4 hg4
             have HV := Lib.hid (And.intro hv4 hg4)
             clear hv4 hg4)
          | (go_simp
             go_at_call 172
             refine (put_x m 4 (by omega) (by decide) (by decide) W1.drew).mono ?_
             rintro e w' ⟨vo, rfl, h2, h3⟩
             obtain ⟨pa, pc, rfl⟩ := h2.eq_slice
             have h3' : Below W1.heap.size W1 w' := ⟨h3.os, h3.tape, h3.output, h3.size, h3.block⟩
             have hbW : Below wr.heap.size wr w' := HW.out.2.1.trans (h3'.mono HW.out.2.1.size)
             have hO' := own_chg (S := fun _ => False) G.out.1 (Chg.of_below hbW) (fun _ _ h => h)
             have hT' := H.out.2.2.2.below (G.out.2.trans (hbW.mono G.out.2.size))
             have hby1 : Bys w' (.slice (some ⟨p5, 0, none⟩) 16 16) x.1 := by
               have := Blk.bys (HW.out.1.kept h3') (bs := x.1) (cap := 16) (by rw [HX.out.1]; omega) (by decide) (fun k u hk => by rw [HX.out.2.1]; simpa using HX.out.2.2.1 k u hk)
               rwa [HX.out.1] at this
             have HY := Lib.hid (And.intro hO' (And.intro hT' (And.intro hby1 (And.intro h2.bys hbW))))
             rw [Cod.be_len] at HY ⊢
             clear h2 h3 h3' hO' hT' hby1 hbW)
          | (go_simp
             go_at_call 171
             refine (nets_calls _ [x.1, Cod.be 4 m] _ (HY.out.2.1.below ((Below.refl w'.heap.size w').alloc (Nat.le_refl _) _)) (rws2 (Blk.new _ _ _) (HY.out.2.2.1.below ((Below.refl w'.heap.size w').alloc (Nat.le_refl _) _)) (HY.out.2.2.2.1.below ((Below.refl w'.heap.size w').alloc (Nat.le_refl _) _))) (by have := nets_one x.1 HX.out.1 m; omega)).mono ?_
             rintro e w3 ⟨v3, rfl, h3, hb3⟩
             have hb4 : Below w'.heap.size w' w3 := ((Below.refl w'.heap.size w').alloc (Nat.le_refl _) _).trans (hb3.mono (by simp))
             have HZ := Lib.hid (And.intro h3 hb4)
             clear h3 hb3 hb4))
      all_goals go_wp2_with fail
      refine ⟨⟨i + 1, by omega, by simp, by rw [HX.out.2.2.2.1]; exact HV.out.1, ?_⟩, by show n - ((i : Int) + 1).toNat < n - (i : Int).toNat; omega⟩
      have hb5 : Below w.heap.size w w3 := (G.out.2.trans (HY.out.2.2.2.2.mono G.out.2.size)).trans (HZ.out.2.mono (Nat.le_trans G.out.2.size HY.out.2.2.2.2.size))
      exact (Chg.grown (S := fun k => w.heap.size ≤ k) (Chg.of_below hb5) HV.out.2 (fun q hq => .inl (G.out.1.lt _ hq).1)).below (Nat.le_refl _) (fun _ h => h)
    · go_wp2_with fail
      go_ret
      have := G.out.1
      rw [List.take_of_length_le (by have := H.out.2.1; omega)] at this
      exact ⟨_, rfl, this, G.out.2⟩
end Go.Proofs.YtclhgokchcklbaaGreatDoor
namespace Go.Proofs.YtclhgokchcklbaaGreatDoor
open Go Go.RowKit Go.Mem Gf Lea
theorem arrayAt_key (b o c : Nat) (w : World) : (Instr.arrayAt 44 (.slice (some ⟨b, o, none⟩) 16 c)).run Tryz.prog w = .ok (.pointer (some ⟨b, o, none⟩)) w := by kernel_rfl
attribute [local go_sem ↓] Go.wp_at_zero Go.wp_at_succ
attribute [local go_sem ↓] build_lease slice_lease
attribute [local go_sem] arrayAt_key ptrB_eq ptrO_eq ptrIs_eq aggL_eq aggIs_eq readK_drew someK_drew readK_alloc_past
end Go.Proofs.YtclhgokchcklbaaGreatDoor
namespace Go.Proofs.YtclhgokchcklbaaGreatDoor
open Go Go.RowKit Go.Mem Gf Lea
attribute [local go_sem ↓] Go.wp_at_zero Go.wp_at_succ
attribute [local go_sem ↓] load_key load_lease store_lease
attribute [local go_sem] ptrB_eq ptrO_eq ptrIs_eq aggL_eq aggIs_eq readK_drew hasK_drew readK_alloc_past hasK_alloc_past readK_alloc_in hasK_alloc_in setCells_drew setCells_alloc_past setCells_alloc_at
set_option maxRecDepth 100000 in
set_option maxHeartbeats 1000000 in
theorem tpack_calls (w : World) (tb : Nat) (v : Value) (l : List Les) (ix : Key) (h : LTab w tb v l) (hl : l.length ≤ 90000) (hix : ix.length = 16) (h8 : (ofL l ix).length ≤ 12) (hg : ∀ x ∈ l, May x.e) (hT : Tab w) :
    Calls Tryz.prog 87 #[.pointer (some ⟨tb, 0, none⟩), .agg (bV ix).toArray] w fun e w' => ∃ vo out, e = .returned vo ∧ OwnB 5 w' w.heap.size vo (packL out) ∧ OfR l ix out ∧ Below w.heap.size w w' := by
  have H := Lib.hid (And.intro h (And.intro hg hT))
  have k1 := (key_in hix).1
  have k2 := (key_in hix).2
  have HB : Hid (Below w.heap.size w (w.alloc (.cells (bV ix).toArray 44))) := (Below.refl _ _).alloc (Nat.le_refl _) _
  clear h hg hT
  go_enter Tryz.func87, Tryz.ntmps87
  go_wp2_with fail
  refine (of_calls _ tb v l ix (H.out.1.below HB.out) (by omega) hix h8).mono ?_
  rintro r w1 ⟨vo, out, rfl, hO, hR, hB1⟩
  have hb1 := HB.out.trans (hB1.mono HB.out.size)
  have hlen : out.length ≤ 12 := by rw [hR.perm.length_eq]; exact h8
  have HO := Lib.hid (And.intro hO (And.intro hR hb1))
  clear hO hR hB1 hb1
  go_wp2_with fail
  refine (pack_calls w1 _ vo out HO.out.1 (fun s hs => ?_) (by omega) (H.out.2.2.below HO.out.2.2)).mono ?_
  · obtain ⟨x, hx, _, e⟩ := mem_ofL.1 (HO.out.2.1.perm.mem_iff.1 hs)
    have := H.out.2.1 x hx
    rw [← e]
    unfold May at this
    simp only
    omega
  rintro r w2 ⟨vb, rfl, hb, hB2⟩
  have HP := Lib.hid (And.intro hb hB2)
  clear hb hB2
  go_wp2_with fail
  go_ret
  have hlo := HP.out.1
  refine ⟨vb, out, rfl, ⟨hlo.1, ?_⟩, HO.out.2.1, HO.out.2.2.trans (HP.out.2.mono HO.out.2.2.size)⟩
  rcases hlo.2 with e | ⟨g, cap, cur, e1, h1, h2⟩
  · exact .inl e
  · exact .inr ⟨g, cap, cur, e1, Nat.le_trans HO.out.2.2.size h1, h2⟩
end Go.Proofs.YtclhgokchcklbaaGreatDoor
end
section
namespace Go.Mem
open Go Go.RowKit Gf
def blB (l : List Blob) : List UInt8 := l.flatMap fun x => Cod.nets [Cod.be 1 x.1.toNat, x.2]
def contB (k : Lea.Key) (l : List Blob) : List UInt8 := Cod.net k ++ blB l
structure BlOk (l : List Blob) : Prop where
  num : ∀ x ∈ l, 0 ≤ x.1 ∧ x.1 < 16
  len : ∀ x ∈ l, x.2.length ≤ 16384
def contV (is : Bool) (k : List Value) (u : Value) : List Value := .bool is :: (k ++ [u])
end Go.Mem
namespace Go.Proofs.YtclhgokchcklbaaGreatDoor
open Go Go.RowKit Go.Mem Gf Lea
theorem built_cont (b : Bool) : ∀ (k : List Value), k.length = 16 → Tryz.prog.built 184 [(0, .bool b), (1, .agg k.toArray)] = some (contV b k (.slice none 0 0)).toArray
  | [k0, k1, k2, k3, k4, k5, k6, k7, k8, k9, k10, k11, k12, k13, k14, k15], _ => by kernel_rfl
def zeroCont : List Value := contV false (bV z16) (.slice none 0 0)
theorem built_cont0 : Tryz.prog.built 184 [] = some zeroCont.toArray := by kernel_rfl
theorem build_cont (dst : Option Tmp) (b : Bool) (y : Operand) (ty : TypeId) (pos : String) (af : Array Edge) (gd : Option (Tmp × Bool)) (a : Act) (w : World) (K : Act → World → Prop) (Q : Exit → Act → World → Prop)
    (h2 : aggIs (a.eval y) = true) (h3 : AllK 16 (aggL (a.eval y))) :
    Oper.wp Tryz.prog ⟨dst, .build 184 #[(0, .const (.bool b)), (1, y)], ty, pos, af, gd⟩ a w K Q = K (a.put dst (.agg (contV b (aggL (a.eval y)) (.slice none 0 0)).toArray)) w := by
  unfold Oper.wp execOp
  have e : a.eval (.const (.bool b)) = .bool b := rfl
  have hr := run_build (P := Tryz.prog) w 184 #[(0, a.eval (.const (.bool b))), (1, a.eval y)] _ (by rw [e, agg_of h2]; exact built_cont _ _ h3.1)
  simp only [List.map_toArray, List.map_cons, List.map_nil, Sem.run_bind, hr, Result.andThen_ok]
  rfl
theorem build_cont0 (dst : Option Tmp) (ty : TypeId) (pos : String) (af : Array Edge) (gd : Option (Tmp × Bool)) (a : Act) (w : World) (K : Act → World → Prop) (Q : Exit → Act → World → Prop) :
    Oper.wp Tryz.prog ⟨dst, .build 184 #[], ty, pos, af, gd⟩ a w K Q = K (a.put dst (.agg zeroCont.toArray)) w := by
  unfold Oper.wp execOp
  have hr := run_build (P := Tryz.prog) w 184 #[] _ built_cont0
  simp only [List.map_toArray, List.map_nil, Sem.run_bind, hr, Result.andThen_ok]
  rfl
theorem setCells_zero (w : World) (cs : List Value) (h : AllK 18 cs) : (w.alloc (.cells #[Value.bool false, .int .u8 0, .int .u8 0, .int .u8 0, .int .u8 0, .int .u8 0, .int .u8 0, .int .u8 0, .int .u8 0, .int .u8 0, .int .u8 0, .int .u8 0, .int .u8 0, .int .u8 0, .int .u8 0, .int .u8 0, .int .u8 0, .slice none 0 0] 184)).setCells w.heap.size 0 cs = w.alloc (.cells cs.toArray 184) := setCells_alloc_at _ _ _ _ rfl (by rw [h.1]; rfl)
attribute [local irreducible] zeroCont contV
attribute [local go_sem ↓] Go.wp_at_zero Go.wp_at_succ
attribute [local go_sem ↓] build_cont build_cont0
attribute [local go_sem] arrayAt_key ptrB_eq ptrO_eq ptrIs_eq aggL_eq aggIs_eq readK_drew hasK_drew someK_drew readK_alloc_past hasK_alloc_past readK_alloc_in hasK_alloc_in setCells_drew setCells_alloc_past setCells_alloc_at setCells_zero
end Go.Proofs.YtclhgokchcklbaaGreatDoor
end
section
namespace Go.Proofs.YtclhgokchcklbaaGreatDoor
open Go Go.RowKit Go.Mem Gf Lea
attribute [local go_sem ↓] Go.wp_at_zero Go.wp_at_succ
set_option maxRecDepth 100000 in
set_option maxHeartbeats 1000000 in
theorem clone_calls (w : World) (tb : Nat) (v : Value) (l : List Les) (h : Heap w tb v l) (hl : l.length ≤ 90000) :
    Calls Tryz.prog 63 #[.pointer (some ⟨tb, 0, none⟩)] w fun r w' => ∃ t2 v2, r = .returned (.pointer (some ⟨t2, 0, none⟩)) ∧ w.heap.size ≤ t2 ∧ (∀ g, v2.ownBlock = some g → w.heap.size ≤ g) ∧ Heap w' t2 v2 l ∧ Below w.heap.size w w' := by
  have hcell : w.cell? ⟨tb, 0, none⟩ = some v := by simpa using h.tab.cell.cell 0
  have hfin : ∀ v1 x1, x1.ownsRow w.heap.size 191 33 v1 l.length (itemsV l) → w.grownBy x1 none → w.heap.size ≤ x1.heap.size ∧ (∀ g, v1.ownBlock = some g → w.heap.size ≤ g) ∧ Heap (x1.alloc (.cells #[v1] 137)) x1.heap.size v1 l ∧ Below w.heap.size w (x1.alloc (.cells #[v1] 137)) := fun v1 x1 hv hg => by
    have hB : Below w.heap.size w x1 := (Chg.grown (S := fun _ => False) (Chg.refl _ _) hg (fun q hq => by cases hq)).below (Nat.le_refl _) (fun _ h => h.elim)
    have hge : ∀ g, v1.ownBlock = some g → w.heap.size ≤ g ∧ g < x1.heap.size := fun g e => hv.lt g e
    have hv' := own_chg (S := fun _ => False) hv (Chg.of_below ((Below.refl _ _).alloc (Nat.le_refl _) (.cells #[v1] 137))) (fun _ _ h => h)
    refine ⟨hB.size, fun g e => (hge g e).1, ⟨⟨Blk.new _ _ _, ⟨hv'.1, ?_⟩, h.tab.wf, fun e => ?_⟩, h.heap⟩, hB.alloc hB.size _⟩
    · rcases hv'.2 with e | ⟨g, cap, cur, e1, h1, h2⟩
      · exact .inl e
      · exact .inr ⟨g, cap, cur, e1, Nat.zero_le _, h2⟩
    · have := (hge _ e).2
      omega
  have HF := Lib.hid hfin
  obtain ⟨n, hn⟩ : ∃ n, n = l.length := ⟨_, rfl⟩
  have HN := Lib.hid hn
  clear hfin
  rcases h.tab.own.2 with ⟨rfl, e0⟩ | ⟨g, cap, cur, rfl, hrest⟩
  · have H0 : Hid (l = []) := by
      refine List.eq_nil_of_length_eq_zero ?_
      have := itemsV_len l h.tab.wf
      rw [e0] at this
      simp at this
      omega
    clear h e0 hn
    go_enter Tryz.func63, Tryz.ntmps63
    go_wp2_with fail
    go_ret
    have := HF.out (.slice none 0 0) w (by rw [H0.out]; exact World.ownsRow_nil _ _ _ _) ⟨rfl, rfl, rfl, Nat.le_refl _, fun _ _ _ => rfl⟩
    exact ⟨_, _, rfl, Nat.le_refl _, this.2.1, this.2.2.1, this.2.2.2⟩
  · have hrow : Row 191 w 0 g l.length cap l := ⟨h.tab.own, rfl, h.tab.wf⟩
    have HR := Lib.hid hrow
    rw [← hn] at hcell
    clear h hrow hrest hn
    go_enter Tryz.func63, Tryz.ntmps63
    go_wp2_with
      (first
        | (refine to_list (by rfl) (R := fun v' w' => w'.ownsRow w.heap.size 191 33 v' (0 + n) ([] ++ itemsV l) ∧ w.grownBy w' none ∧ (∀ k, v'.ownBlock = some k → (none : Option Nat) = some k ∨ w.heap.size ≤ k)) (fun _ hK => wpAppN EKi _ _ (by rfl) (base := w.heap.size) (v := .slice none 0 0) (n := 0) (m := n) (cx := cap) (xs := []) (itemsV l) (by rfl) (mb := g) (by rfl) (by rw [itemsV_len l HR.out.wf, HN.out]) (fun j u hj => by rw [HR.out.cell (by have := some_lt hj; rw [itemsV_len l HR.out.wf] at this; exact this)]; exact hj) (fun u hu => by obtain ⟨x, _, hx⟩ := List.mem_flatMap.1 hu; exact one_cellsI x u hx) (World.ownsRow_nil _ _ _ _) (by have := HN.out; omega) (by decide) (Nat.le_refl _) (fun v' w' hh => hK v' w' hh)) ?_
           rintro v1 x1 ⟨hv1, hg1, _⟩
           obtain ⟨a1, c1, rfl, _⟩ := own_eq_slice hv1
           have HV1 := Lib.hid hv1; have HG1 := Lib.hid hg1
           clear hv1 hg1)
        | fail)
    all_goals
      go_ret
      have hv := HV1.out
      rw [Nat.zero_add, List.nil_append] at hv
      have := HF.out _ x1 (by rw [← HN.out]; exact hv) HG1.out
      exact ⟨_, _, rfl, this.1, this.2.1, this.2.2.1, this.2.2.2⟩
end Go.Proofs.YtclhgokchcklbaaGreatDoor
end
