/- A lease is added; or a later end of one. -/
import Derived.Test.YtgjabnpngggcmaaDoorLeaOf
namespace Go.Proofs.YtgjabnpngggcmaaDoor
open Go Go.RowKit Go.Mem Gf Lea
theorem _root_.Go.Proofs.YtgjabnpngggcmaaDoor.LTab.below {w w' : World} {tb : Nat} {v : Value} {l : List Les} (h : LTab w tb v l) (hb : Below w.heap.size w w') : LTab w' tb v l :=
  ⟨h.cell.kept hb, own_chg (S := fun _ => False) h.own (Chg.of_below hb) (fun _ _ h => h), h.wf, h.apart⟩
theorem _root_.Go.Proofs.YtgjabnpngggcmaaDoor.Heap.below {w w' : World} {tb : Nat} {v : Value} {l : List Les} (h : Heap w tb v l) (hb : Below w.heap.size w w') : Heap w' tb v l := ⟨h.tab.below hb, h.heap⟩
theorem TChg.pre {tb : Nat} {v v' : Value} {w w1 w2 : World} (hb : Below w.heap.size w w1) (h : TChg tb v v' w1 w2) : TChg tb v v' w w2 :=
  ⟨(Chg.of_below hb).trans h.1, fun k hk => by
    rcases h.2 k hk with h | h
    · exact .inl h
    · exact .inr (Nat.le_trans hb.size h)⟩
theorem TChg.same {tb : Nat} {v : Value} {w w' : World} (hb : Below w.heap.size w w') : TChg tb v v w w' := ⟨Chg.of_below hb, fun _ hk => .inl hk⟩
set_option maxRecDepth 100000 in
theorem may_calls (e : Int) (w : World) : Calls Tryd.prog 12 #[.int .i64 e] w fun r w' => r = .returned (.bool (decide (May e))) ∧ w' = w := by
  by_cases c1 : 1 ≤ e
  · have d1 : decide (1 ≤ e) = true := by simpa using c1
    have hr : decide (May e) = decide (e ≤ 1048576) := by unfold May; simp [c1]
    go_enter Tryd.func12, Tryd.ntmps12
    go_wp2_with fail
    go_ret
    exact ⟨by first | rfl | (rw [hr]; rfl), rfl⟩
  · have d1 : decide (1 ≤ e) = false := by simpa using c1
    have hr : decide (May e) = false := by unfold May; simp [c1]
    go_enter Tryd.func12, Tryd.ntmps12
    go_wp2_with fail
    go_ret
    exact ⟨by first | rfl | (rw [hr]; rfl), rfl⟩
theorem _root_.Lea.Row.setEnd {ti : TypeId} {w : World} {base g n cap : Nat} {l : List Les} (h : Row ti w base g n cap l) {i : Nat} {x y : Les} {e : Int} (hi : i < n) (hx : l[i]? = some x) (hy : y = ⟨x.ix, x.sec, e⟩) :
    Row ti (w.setCell ⟨g, i * 33 + 16 + 16, none⟩ (.int .i64 e)).drew base g n cap (l.set i y) := by
  have hwx := h.wf x (List.mem_of_getElem? hx)
  have hwy : Wf y := by rw [hy]; exact hwx
  obtain ⟨cur, hh, hb, h1, h2, h3, h4⟩ := h.block
  have hB : Blk w g cur ti := hh
  have b1 := (hB.set (i * 33 + 16 + 16) (.int .i64 e)).drew
  have hll := h.len
  refine ⟨⟨?_, .inr ⟨g, cap, _, rfl, hb, b1, h1, h2, by rw [Array.size_setIfInBounds, h3], ?_⟩⟩, by rw [List.length_set]; exact hll, wf_set h.wf hwy⟩
  · rw [itemsV_len _ (wf_set h.wf hwy), List.length_set, hll]
  · apply List.ext_getElem?
    intro j
    have hlen := itemsV_len _ (wf_set h.wf hwy (i := i))
    rw [List.length_set] at hlen
    rw [List.getElem?_take, Array.getElem?_toList]
    by_cases hj : j < n * 33
    · have hm : n * 33 ≤ cap * 33 := Nat.mul_le_mul_right _ h1
      rw [if_pos hj, itemsV_set l h.wf (by omega) hwy j (by omega), Array.getElem?_setIfInBounds]
      by_cases c : i * 33 + 16 + 16 = j
      · subst c
        rw [if_pos rfl, if_pos (by omega), if_pos (by omega), show i * 33 + 16 + 16 - i * 33 = 32 by omega, cellsI_end hwy, hy]
      · rw [if_neg c, h4 j hj]
        by_cases c2 : i * 33 ≤ j ∧ j < i * 33 + 33
        · rw [if_pos c2]
          have hg := itemsV_get l h.wf i x hx (j - i * 33) (by omega)
          rw [show i * 33 + (j - i * 33) = j by omega] at hg
          rw [hg, hy]
          unfold cellsI
          have l1 : (bV x.ix ++ bV x.sec).length = 32 := by rw [List.length_append, bV_len, bV_len, hwx.1, hwx.2]
          show (bV x.ix ++ bV x.sec ++ [.int .i64 x.e])[j - i * 33]? = (bV x.ix ++ bV x.sec ++ [.int .i64 e])[j - i * 33]?
          rw [List.getElem?_append_left (l₁ := bV x.ix ++ bV x.sec) (l₂ := [.int .i64 x.e]) (by omega), List.getElem?_append_left (l₁ := bV x.ix ++ bV x.sec) (l₂ := [.int .i64 e]) (by omega)]
        · rw [if_neg c2]
    · rw [if_neg hj, List.getElem?_eq_none (by omega)]
theorem build_item (dst : Option Tmp) (x y : Operand) (ty : TypeId) (pos : String) (af : Array Edge) (a : Act) (w : World) (K : Act → World → Prop) (Q : Exit → Act → World → Prop)
    (h1 : (a.eval x).cells.size = 16) (h2 : (a.eval y).cells.size = 17) :
    Oper.wp Tryd.prog ⟨dst, .build 46 #[(0, x), (1, y)], ty, pos, af, none⟩ a w K Q = K (a.put dst (.agg ((a.eval x).cells ++ (a.eval y).cells))) w :=
  wp_buildTwo Tryd.underlying46 (by kernel_rfl) (by kernel_rfl) dst x y ty pos af a w K Q h1 h2
theorem leaseSec {y : Sec} (h : WfL y) : cutC (encL y).toArray 0 16 = bV y.1 := by
  have h1 : (bV y.1).length = 16 := by rw [bV_len]; exact h
  unfold cutC encL
  simp [h1]
attribute [local go_sem ↓] Go.wp_at_zero Go.wp_at_succ
attribute [local go_sem ↓] load_key load_item store_item load_lease slice_lease build_item
attribute [local go_sem] ptrB_eq ptrO_eq ptrIs_eq aggL_eq aggIs_eq readK_drew hasK_drew readK_alloc_past hasK_alloc_past readK_alloc_in hasK_alloc_in setCells_drew setCells_alloc_past setCells_alloc_at
set_option maxRecDepth 100000 in
set_option maxHeartbeats 1000000 in
theorem add_calls (w : World) (tb : Nat) (v : Value) (l : List Les) (ix sec : Key) (e : Int) (h : Heap w tb v l) (hg : Lea.Good l) (hl : l.length ≤ 90000) (hix : ix.length = 16) (hsec : sec.length = 16) :
    Calls Tryd.prog 5 #[.pointer (some ⟨tb, 0, none⟩), .agg (bV ix).toArray, .agg (encL (sec, e)).toArray] w fun r w' => ∃ b v' l', r = .returned (.bool b) ∧ AddR l ix sec e b l' ∧ Heap w' tb v' l' ∧ TChg tb v v' w w' := by
  have wl : WfL (sec, e) := hsec
  obtain ⟨cy, hcy⟩ : ∃ c, c = encL (sec, e) := ⟨_, rfl⟩
  have k1 : cutC cy.toArray 0 16 = bV sec := by rw [hcy]; exact leaseSec wl
  have ly : cy.length = 17 := by rw [hcy]; exact ecL.len _ wl
  have ce : cy[16]? = some (.int .i64 e) := by rw [hcy]; exact encL_end wl
  have H := Lib.hid (And.intro h (And.intro hg hcy))
  rw [← hcy]
  clear h hg hcy wl
  go_enter Tryd.func5, Tryd.ntmps5
  go_upto_region 1 with fail
  have hB0 : Below w.heap.size w ((w.alloc (.cells (bV ix).toArray 24)).alloc (.cells cy.toArray 29)) := ((Below.refl _ _).alloc (Nat.le_refl _) _).alloc (by simp) _
  have hk1 : Blk ((w.alloc (.cells (bV ix).toArray 24)).alloc (.cells cy.toArray 29)) w.heap.size (bV ix).toArray 24 := (Blk.new _ _ _).alloc _
  have hk2 : Blk ((w.alloc (.cells (bV ix).toArray 24)).alloc (.cells cy.toArray 29)) (w.heap.size + 1) cy.toArray 29 := Blk.new_at _ _ _ _ (by simp)
  obtain ⟨w0, hw0⟩ : ∃ x, x = (w.alloc (.cells (bV ix).toArray 24)).alloc (.cells cy.toArray 29) := ⟨_, rfl⟩
  rw [← hw0] at hB0 hk1 hk2 ⊢
  clear hw0
  obtain ⟨p4, hp4⟩ : ∃ p, p = w.heap.size := ⟨_, rfl⟩
  obtain ⟨p5, hp5⟩ : ∃ p, p = w.heap.size + 1 := ⟨_, rfl⟩
  rw [← hp5] at hk2 ⊢
  rw [← hp4] at hk1 ⊢
  have HP := Lib.hid (And.intro hp4 (And.intro hp5 hB0))
  clear hp4 hp5 hB0
  have r4 : readK 16 w0 p4 0 = bV ix := blk_read0 hk1 (by rw [bV_len, hix])
  have h4 : HasK 16 w0 p4 0 := blk_has hk1 (by simp [bV_len, hix])
  have r5 : readK 16 w0 p5 0 = bV sec := by
    rw [← k1]
    exact blk_read hk2 (by unfold cutC; simp [ly]) (fun k hk => by unfold cutC; simp [hk])
  have h5 : HasK 16 w0 p5 0 := blk_has hk2 (by simp [ly])
  have hT0 : Heap w0 tb v l := H.out.1.below HP.out.2.2
  have HT := Lib.hid hT0
  have HK := Lib.hid (And.intro hk1 hk2)
  clear hT0 hk1 hk2
  go_wp2_with fail
  refine (find_calls w0 tb v l ix sec HT.out.tab (by omega) hix hsec).mono ?_
  rintro r w1 ⟨k, rfl, hF, hB1⟩
  have hk1 := HK.out.1.kept hB1
  have hk2 := HK.out.2.kept hB1
  have hT1 := HT.out.below hB1
  have r4 : readK 16 w1 p4 0 = bV ix := blk_read0 hk1 (by rw [bV_len, hix])
  have h4 : HasK 16 w1 p4 0 := blk_has hk1 (by simp [bV_len, hix])
  have q5 : w1.cell? ⟨p5, 16, none⟩ = some (.int .i64 e) := by rw [hk2.cell]; simpa using ce
  have hB : Below w.heap.size w w1 := HP.out.2.2.trans (hB1.mono HP.out.2.2.size)
  have H1 := Lib.hid (And.intro hk1 (And.intro hk2 (And.intro hT1 hB)))
  clear hk1 hk2 hT1 hB hB1 ce
  rcases hF with ⟨rfl, hno⟩ | ⟨i, x, rfl, hx, e1, e2⟩
  · have HNO := Lib.hid hno
    clear hno
    go_upto_region 4 with fail
    by_cases hm : May e
    · have d1 : decide (May e) = true := by simpa using hm
      replace hm := Lib.hid hm
      go_wp2_with fail
      refine (may_calls _ _).mono ?_
      rintro r w2 ⟨rfl, rfl⟩
      go_wp2_with fail
      refine (of_calls w2 tb v l ix H1.out.2.2.1.tab (by omega) hix (by have := H.out.2.1.few ix; omega)).mono ?_
      rintro r w3 ⟨vo, out, rfl, hO, hR, hB3⟩
      obtain ⟨po, co, rfl⟩ := hO.slice
      obtain ⟨m, hm'⟩ : ∃ m, m = out.length := ⟨_, rfl⟩
      rw [← hm']
      have hlen : (ofL l ix).length = m := by rw [hm', hR.perm.length_eq]
      have hk1 := H1.out.1.kept hB3
      have hk2 := H1.out.2.1.kept hB3
      have hT3 := H1.out.2.2.1.below hB3
      have hB := H1.out.2.2.2.trans (hB3.mono H1.out.2.2.2.size)
      have r4 : readK 16 w3 p4 0 = bV ix := blk_read0 hk1 (by rw [bV_len, hix])
      have h4 : HasK 16 w3 p4 0 := blk_has hk1 (by simp [bV_len, hix])
      have r5 : readK 17 w3 p5 0 = cy := blk_read0 hk2 ly
      have h5 : HasK 17 w3 p5 0 := blk_has hk2 (by simp [ly])
      have H3 := Lib.hid (And.intro hT3 (And.intro hB hlen))
      clear hk1 hk2 hT3 hB hlen hO hR hB3 hm'
      by_cases c8 : 8 ≤ m
      · have d8 : decide ((8 : Int) ≤ (m : Int)) = true := by simp; omega
        replace c8 := Lib.hid c8
        go_wp2_with fail
        go_ret
        exact ⟨false, v, l, rfl, .no (.inr ⟨HNO.out, by rw [H3.out.2.2]; exact c8.out⟩), H3.out.1, TChg.same H3.out.2.1⟩
      · have d8 : decide ((8 : Int) ≤ (m : Int)) = false := by simp; omega
        replace c8 := Lib.hid c8
        have wx : Wf ⟨ix, sec, e⟩ := ⟨hix, hsec⟩
        obtain ⟨cz, hcz⟩ : ∃ c, c = cellsI ⟨ix, sec, e⟩ := ⟨_, rfl⟩
        have hcat : bV ix ++ cy = cz := by rw [hcz, H.out.2.2]; unfold cellsI encL; rw [List.append_assoc]
        have hcat2 : (bV ix).toArray ++ cy.toArray = cz.toArray := by rw [← hcat]; simp
        have hbi : (bV ix).length = 16 := by rw [bV_len, hix]
        have hpush : ∀ W, Heap W tb v l → Calls Tryd.prog 13 #[.iface 44 (.pointer (some ⟨tb, 0, none⟩)), .iface 46 (.agg cz.toArray)] W fun r w' => r = .returned (.tuple #[]) ∧ ∃ v' l', Heap w' tb v' l' ∧ l'.Perm (l ++ [⟨ix, sec, e⟩]) ∧ TChg tb v v' W w' := fun W hW => by
          rw [hcz]
          exact hpush_calls W tb v l ⟨ix, sec, e⟩ hW wx (by omega)
        have HPU := Lib.hid hpush
        have hB3 : Below w.heap.size w w3.drew := H3.out.2.1.drew
        have hT3 : Heap w3.drew tb v l := ⟨⟨H3.out.1.tab.cell, H3.out.1.tab.own, H3.out.1.tab.wf, H3.out.1.tab.apart⟩, H3.out.1.heap⟩
        have H4 := Lib.hid (And.intro hB3 hT3)
        clear hcz hpush wx hB3 hT3
        go_upto_region 7 with fail
        go_region_with (refine (HPU.out _ H4.out.2).mono ?_; rintro r w4 ⟨rfl, v4, l4, hT4, hP4, hC4⟩)
        all_goals
          go_wp2_with fail
          go_ret
          exact ⟨true, v4, l4, rfl, .new l4 hm.out HNO.out (by rw [H3.out.2.2]; have := c8.out; omega) hP4, hT4, hC4.pre H4.out.1⟩
    · have d1 : decide (May e) = false := by simpa using hm
      replace hm := Lib.hid hm
      go_wp2_with fail
      refine (may_calls _ _).mono ?_
      rintro r w2 ⟨rfl, rfl⟩
      go_wp2_with fail
      go_ret
      exact ⟨false, v, l, rfl, .no (.inl hm.out), H1.out.2.2.1, TChg.same H1.out.2.2.2⟩
  · have hi : i < l.length := some_lt hx
    have d0 : decide ((i : Int) < 0) = false := by simp
    have HX := Lib.hid (And.intro hx (And.intro e1 e2))
    clear hx e1 e2
    go_upto_region 4 with fail
    by_cases hm : May e
    · have d1 : decide (May e) = true := by simpa using hm
      replace hm := Lib.hid hm
      obtain ⟨g, cap, rfl, hrow⟩ := H1.out.2.2.1.tab.ex (by omega)
      have hc : w1.cell? ⟨tb, 0, none⟩ = some (.slice (some ⟨g, 0, none⟩) l.length cap) := by simpa using H1.out.2.2.1.tab.cell.cell 0
      have qe := hrow.ends HX.out.1
      have fe := (hrow.there hi 32 (by decide)).2
      obtain ⟨n, hn⟩ : ∃ n, n = l.length := ⟨_, rfl⟩
      rw [← hn] at hc hi
      have HR := Lib.hid (And.intro hrow hn)
      have i0 : (0 : Int) ≤ (i : Int) := by omega
      have i1 : (i : Int) < (n : Int) := by omega
      clear hrow hn
      go_wp2_with fail
      refine (may_calls _ _).mono ?_
      rintro r w2 ⟨rfl, rfl⟩
      go_upto_region 2 with fail
      go_region
      all_goals
        obtain ⟨y, hy⟩ : ∃ y : Les, y = ⟨x.ix, x.sec, max x.e e⟩ := ⟨_, rfl⟩
        have hr2 := HR.out.1.setEnd (by rw [← HR.out.2]; exact hi) HX.out.1 hy
        have hc2 : Chg (fun b => b = g) w2 (w2.setCell ⟨g, i * 33 + 16 + 16, none⟩ (.int .i64 (max x.e e))).drew := (chg_cell w2 g _ _).drew
        have hT2 := (H1.out.2.2.1.tab.row' (l' := l.set i y) rfl hr2 hc2)
        have hfp := fix_pre (l := l) (n := n) (k := i) (by rw [HR.out.2]; exact H1.out.2.2.1.heap) hi (by rw [HR.out.2]; exact Nat.le_refl _) y
        have HT2 := Lib.hid (And.intro hT2 (And.intro hc2 (And.intro hfp hy)))
        obtain ⟨w3, hw3⟩ : ∃ w3, w3 = (w2.setCell ⟨g, i * 33 + 16 + 16, none⟩ (.int .i64 (max x.e e))).drew := ⟨_, rfl⟩
        rw [← hw3] at HT2 ⊢
        clear hw3 hr2 hc2 hT2 hfp hy
        have q3 : w3.cell? ⟨tb, 0, none⟩ = some (.slice (some ⟨g, 0, none⟩) l.length cap) := by simpa using HT2.out.1.cell.cell 0
        go_wp2_with fail
        refine (hfix_calls w3 tb _ (l.set i y) i n (by rw [List.length_set, HR.out.2]) HT2.out.1 (by rw [HR.out.2]; omega) hi HT2.out.2.2.1.1 HT2.out.2.2.1.2).mono ?_
        rintro r w4 ⟨rfl, l4, hT4, hP4, hC4⟩
        go_wp2_with fail
        go_ret
        refine ⟨true, _, l4, rfl, .more i x l4 hm.out HX.out.1 HX.out.2.1 HX.out.2.2 ?_, hT4, ((TChg.of HT2.out.2.1).trans hC4).pre H1.out.2.2.2⟩
        rw [← HX.out.2.1, ← HX.out.2.2, ← HT2.out.2.2.2]
        exact hP4
    · have d1 : decide (May e) = false := by simpa using hm
      replace hm := Lib.hid hm
      go_wp2_with fail
      refine (may_calls _ _).mono ?_
      rintro r w2 ⟨rfl, rfl⟩
      go_wp2_with fail
      go_ret
      exact ⟨false, v, l, rfl, .no (.inl hm.out), H1.out.2.2.1, TChg.same H1.out.2.2.2⟩
end Go.Proofs.YtgjabnpngggcmaaDoor
