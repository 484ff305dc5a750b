/- The walk of container/heap.Remove. -/
import Derived.Test.YtgjabnpngggcmaaDoorLeaPop
namespace Go.Proofs.YtgjabnpngggcmaaDoor
open Go Go.RowKit Go.Mem Gf Lea
attribute [local go_sem ↓] Go.wp_at_zero Go.wp_at_succ load_item store_item slice_item
attribute [local go_sem] meth_less meth_swap meth_len meth_push meth_pop ptrB_eq ptrO_eq ptrIs_eq aggL_eq aggIs_eq as_item
set_option maxRecDepth 100000 in
set_option maxHeartbeats 1000000 in
/-- heap.Remove -/
theorem hremove_calls (w : World) (tb : Nat) (v : Value) (l : List Les) (k : Nat) (x : Les) (h : Heap w tb v l) (hx : l[k]? = some x) (hl : l.length ≤ 100000) :
    Calls Tryd.prog 26 #[hv tb, .int .i64 k] w fun e w' => e = .returned (.iface 46 (.agg (cellsI x).toArray)) ∧ ∃ v' l', Heap w' tb v' l' ∧ (x :: l').Perm l ∧ TChg tb v v' w w' := by
  have hk : k < l.length := by
    rcases Nat.lt_or_ge k l.length with h | h
    · exact h
    · rw [List.getElem?_eq_none h] at hx; cases hx
  obtain ⟨g, cap, rfl, hrow⟩ := h.tab.ex (by omega)
  obtain ⟨n, hn⟩ : ∃ n, n + 1 = l.length := ⟨l.length - 1, by omega⟩
  have hc : w.cell? ⟨tb, 0, none⟩ = some (.slice (some ⟨g, 0, none⟩) l.length cap) := by simpa using h.tab.cell.cell 0
  have hy : l[n]? = some (l[n]'(by omega)) := by simp
  generalize l[n]'(by omega) = y at hy
  have hlt : k < n → (∀ c, 0 < c → c < n → (c - 1) / 2 ≠ k → c ≠ k → Rim (swap l k n) c) ∧ Grand (swap l k n) k n := fun hkn => take_pre (by rw [hn]; exact h.heap) hkn (by omega)
  have hhp : HeapN l (n + 1) := by rw [hn]; exact h.heap
  rw [← hn] at hc h hl hk ⊢
  have H := Lib.hid (And.intro h.tab (And.intro hx (And.intro hy (And.intro hlt hhp))))
  have HN := Lib.hid hn.symm
  have e1 : ((n + 1 : Nat) : Int) - 1 = (n : Int) := by omega
  have hr := Lib.hid (h.tab.theRow hn.symm)
  clear hn h hx hy hlt hrow hhp
  unfold hv
  by_cases hkn : k = n
  · subst hkn
    go_enter Tryd.func26, Tryd.ntmps26
    go_wp2_with fail
    refine (elen_calls _ _ _ _).mono ?_
    rintro e w2 ⟨rfl, rfl⟩
    go_wp2_with fail
    refine (epop_calls w tb g cap l x k HN.out H.out.1 H.out.2.1 (by omega)).mono ?_
    rintro e w3 ⟨rfl, g1, g2⟩
    go_wp2_with fail
    go_ret
    refine ⟨rfl, _, l.take k, ⟨g1, ?_⟩, take_last H.out.2.1 HN.out, TChg.cell g2⟩
    rw [List.length_take, HN.out, Nat.min_eq_left (by omega)]
    exact HeapN.take (fun c h1 h2 => H.out.2.2.2.2 c h1 (by omega))
  · have hkl : k < n := by omega
    have ne1 : ((n : Int) != (k : Int)) = true := by simp; omega
    have ne2 : ¬ ((n : Int) = (k : Int)) := by omega
    go_enter Tryd.func26, Tryd.ntmps26
    go_wp2_with fail
    refine (elen_calls _ _ _ _).mono ?_
    rintro e w2 ⟨rfl, rfl⟩
    go_wp2_with fail
    refine (eswap_calls 0 g (n + 1) cap l k n x y w hr.out H.out.2.1 H.out.2.2.1).mono ?_
    rintro e w1 ⟨rfl, hrow, hchg⟩
    have hT1 := H.out.1.row' HN.out hrow hchg
    have c1 : w1.cell? ⟨tb, 0, none⟩ = some (.slice (some ⟨g, 0, none⟩) (n + 1) cap) := by simpa using hT1.cell.cell 0
    have HT1 := Lib.hid hT1; have HC1 := Lib.hid hchg
    have HL1 : Hid ((swap l k n).length = n + 1) := by rw [swap_len]; exact HN.out
    have HXN : Hid ((swap l k n)[n]? = some x) := by rw [swap_get H.out.2.1 H.out.2.2.1, if_pos rfl]; rfl
    have HPR := Lib.hid (H.out.2.2.2.1 hkl)
    clear hT1 hrow hchg
    go_wp2_with fail
    refine (down_calls w1 tb g cap (swap l k n) k n (n + 1) HL1.out HT1.out (by omega) (by omega) (by omega) HPR.out.1 HPR.out.2).mono ?_
    rintro e w2 ⟨b, rfl, l1, h1, h2, h3, h4, h5, h6⟩
    cases b
    · obtain ⟨e6, h6'⟩ := h6 rfl
      rw [e6] at h1
      have H2 := Lib.hid (And.intro h1 (And.intro h4 h6'))
      have c2 : w2.cell? ⟨tb, 0, none⟩ = some (.slice (some ⟨g, 0, none⟩) (n + 1) cap) := by simpa using h1.cell.cell 0
      clear h1 h2 h3 h4 h5 h6 e6 h6'
      go_wp2_with fail
      refine (up_calls w2 tb g cap (swap l k n) k n (n + 1) HL1.out H2.out.1 (by omega) (by omega) hkl H2.out.2.2 HPR.out.2).mono ?_
      rintro e w3 ⟨rfl, l2, p1, p2, p3, p4, p5⟩
      have hxn : l2[n]? = some x := by rw [p4 n (Nat.le_refl _)]; exact HXN.out
      have hL2 : l2.length = n + 1 := by rw [p2.length_eq]; exact HL1.out
      have HX := Lib.hid (And.intro p3 (And.intro hxn (And.intro hL2 (And.intro p1 (And.intro p2 p5)))))
      have c3 : w3.cell? ⟨tb, 0, none⟩ = some (.slice (some ⟨g, 0, none⟩) (n + 1) cap) := by simpa using p1.cell.cell 0
      clear p1 p2 p3 p4 p5 hxn hL2
      go_wp2_with fail
      refine (epop_calls w3 tb g cap l2 x n HX.out.2.2.1 HX.out.2.2.2.1 HX.out.2.1 (by omega)).mono ?_
      rintro e w4 ⟨rfl, g1, g2⟩
      go_wp2_with fail
      go_ret
      refine ⟨rfl, _, l2.take n, ⟨g1, ?_⟩, ?_, ?_⟩
      · rw [List.length_take, HX.out.2.2.1, Nat.min_eq_left (by omega)]
        exact HX.out.1.take
      · exact (take_last HX.out.2.1 HX.out.2.2.1).trans (HX.out.2.2.2.2.1.trans (swap_perm l k n))
      · exact (TChg.of (n' := n + 1) (c' := cap) ((HC1.out.trans H2.out.2.1).trans HX.out.2.2.2.2.2)).trans (TChg.cell g2)
    · have hh : HeapN l1 n := h5 rfl
      have hxn : l1[n]? = some x := by rw [h3 n (Nat.le_refl _)]; exact HXN.out
      have hL2 : l1.length = n + 1 := by rw [h2.length_eq]; exact HL1.out
      have HX := Lib.hid (And.intro hh (And.intro hxn (And.intro hL2 (And.intro h1 (And.intro h2 h4)))))
      have c2 : w2.cell? ⟨tb, 0, none⟩ = some (.slice (some ⟨g, 0, none⟩) (n + 1) cap) := by simpa using h1.cell.cell 0
      clear h1 h2 h3 h4 h5 h6 hh hxn hL2
      go_wp2_with fail
      refine (epop_calls w2 tb g cap l1 x n HX.out.2.2.1 HX.out.2.2.2.1 HX.out.2.1 (by omega)).mono ?_
      rintro e w3 ⟨rfl, g1, g2⟩
      go_wp2_with fail
      go_ret
      refine ⟨rfl, _, l1.take n, ⟨g1, ?_⟩, ?_, ?_⟩
      · rw [List.length_take, HX.out.2.2.1, Nat.min_eq_left (by omega)]
        exact HX.out.1.take
      · exact (take_last HX.out.2.1 HX.out.2.2.1).trans (HX.out.2.2.2.2.1.trans (swap_perm l k n))
      · exact (TChg.of (n' := n + 1) (c' := cap) (HC1.out.trans HX.out.2.2.2.2.2)).trans (TChg.cell g2)
end Go.Proofs.YtgjabnpngggcmaaDoor
