/- An index's leases, in order. -/
import Derived.Test.YtgjabnpngggcmaaDoorLeaFind
import Derived.Test.YtgjabnpngggcmaaDoorLeaSort
import Derived.Test.YtgjabnpngggcmaaDoorAppG
namespace Go.Proofs.YtgjabnpngggcmaaDoor
open Go Go.RowKit Go.Mem Gf Lea
theorem EKl : ElemK Tryd.prog 22 29 (.agg ((List.replicate 16 (Value.int .u8 0)) ++ [Value.int .i64 0]).toArray) 17 24 := ⟨Tryd.underlying22, by kernel_rfl, rfl, by decide⟩
theorem slice_lease (dst : Option Tmp) (x : Operand) (ty : TypeId) (pos : String) (af : Array Edge) (a : Act) (w : World) (K : Act → World → Prop) (Q : Exit → Act → World → Prop) (hy : aggIs (a.eval x) = true) (hc : AllK 17 (aggL (a.eval x))) :
    Oper.wp Tryd.prog ⟨dst, .buildSlice 22 1 #[(0, x)], ty, pos, af, none⟩ a w K Q = K (a.put dst (.slice (some ⟨w.heap.size, 0, none⟩) 1 1)) (w.alloc (.cells (aggL (a.eval x)).toArray 29)) :=
  wp_sliceK Tryd.underlying22 (by kernel_rfl) (by decide) (by decide) dst x ty pos af a w K Q hy hc
theorem itemLease {x : Les} (h : Wf x) : cutC (cellsI x).toArray 16 17 = encL (x.sec, x.e) := by
  have h1 : (bV x.ix).length = 16 := by rw [bV_len]; exact h.1
  have h2 : (bV x.sec).length = 16 := by rw [bV_len]; exact h.2
  unfold cutC cellsI encL
  rw [List.toList_toArray, List.append_assoc, List.drop_append_of_le_length (by omega), List.drop_of_length_le (by omega), List.nil_append, List.take_of_length_le (by simp; omega)]
theorem ofL_succ {l : List Les} {i : Nat} {x : Les} (hx : l[i]? = some x) (ix : Key) : ofL (l.take (i + 1)) ix = ofL (l.take i) ix ++ if x.ix = ix then [(x.sec, x.e)] else [] := by
  rw [List.take_add_one, hx, Option.toList_some, ofL_app]
  congr 1
  unfold ofL
  by_cases c : x.ix = ix <;> simp [c]
attribute [local go_sem ↓] Go.wp_at_zero Go.wp_at_succ
attribute [local go_sem ↓] load_key load_item store_item load_lease slice_lease
attribute [local go_sem] ptrB_eq ptrO_eq ptrIs_eq aggL_eq aggIs_eq readK_drew hasK_drew readK_alloc_past hasK_alloc_past readK_alloc_in hasK_alloc_in setCells_drew setCells_alloc_past setCells_alloc_at
set_option maxRecDepth 100000 in
set_option maxHeartbeats 1000000 in
theorem of_calls (w : World) (tb : Nat) (v : Value) (l : List Les) (ix : Key) (h : LTab w tb v l) (hl : l.length ≤ 100000) (hix : ix.length = 16) (h8 : (ofL l ix).length ≤ 12) :
    Calls Tryd.prog 9 #[.pointer (some ⟨tb, 0, none⟩), .agg (bV ix).toArray] w fun e w' => ∃ vo out, e = .returned vo ∧ OwnG encL WfL 17 29 w' w.heap.size vo out ∧ OfR l ix out ∧ Below w.heap.size w w' := by
  have hcell : w.cell? ⟨tb, 0, none⟩ = some v := by simpa using h.cell.cell 0
  have htb := h.cell.lt
  have htb1 : tb < w.heap.size + 1 := by omega
  obtain ⟨a0, c0, hv, hg⟩ := own_eq_slice h.own
  obtain ⟨n, hn⟩ : ∃ n, n = l.length := ⟨_, rfl⟩
  rw [← hn] at hl
  have H := Lib.hid (And.intro h (And.intro hn (And.intro hv hg)))
  rw [hv, ← hn] at hcell
  have H8 := Lib.hid h8
  clear h hn hv hg h8
  go_enter Tryd.func9, Tryd.ntmps9
  go_upto_region 3 with fail
  have hB0 : Below w.heap.size w ((w.alloc (.cells (bV ix).toArray 24)).alloc (.cells #[.slice none 0 0] 22)) := ((Below.refl _ _).alloc (Nat.le_refl _) _).alloc (by simp) _
  have hk1 : Blk ((w.alloc (.cells (bV ix).toArray 24)).alloc (.cells #[.slice none 0 0] 22)) w.heap.size (bV ix).toArray 24 := (Blk.new _ _ _).alloc _
  have hk2 : Blk ((w.alloc (.cells (bV ix).toArray 24)).alloc (.cells #[.slice none 0 0] 22)) (w.heap.size + 1) #[.slice none 0 0] 22 := Blk.new_at _ _ _ _ (by simp)
  obtain ⟨w0, hw0⟩ : ∃ x, x = (w.alloc (.cells (bV ix).toArray 24)).alloc (.cells #[.slice none 0 0] 22) := ⟨_, rfl⟩
  have hsz : w0.heap.size = w.heap.size + 2 := by rw [hw0]; simp
  rw [← hw0] at hB0 hk1 hk2 ⊢
  clear hw0
  obtain ⟨p3, hp3⟩ : ∃ p, p = w.heap.size := ⟨_, rfl⟩
  obtain ⟨p5, hp5⟩ : ∃ p, p = w.heap.size + 1 := ⟨_, rfl⟩
  rw [← hp5] at hk2 ⊢
  rw [← hp3] at hk1 ⊢
  have HP := Lib.hid (And.intro hp3 (And.intro hp5 (And.intro hsz hB0)))
  clear hp3 hp5 hsz hB0
  go_loopw [13] (fun vi wr => ∃ (i : Nat) (a5 : Option Addr) (n5 c5 : Nat), i ≤ n ∧ vi = .int .i64 i ∧ Hid (OwnG encL WfL 17 29 wr (p5 + 1) (.slice a5 n5 c5) (ofL (l.take i) ix) ∧ Blk wr p3 (bV ix).toArray 24 ∧ Blk wr p5 #[.slice a5 n5 c5] 22 ∧ Chg (fun k => w.heap.size ≤ k) w wr)) (fun vi _ => n - (intOf vi).toNat)
  case atStart => exact ⟨0, none, 0, 0, Nat.zero_le _, rfl, OwnG.nil _ _ _ _ _ _, hk1, hk2, Chg.of_below HP.out.2.2.2⟩
  case round =>
    obtain ⟨i, a5, n5, c5, hi0, rfl, G⟩ := hrel
    have l5 := G.out.2.2.1.lt
    have q5 : wr.cell? ⟨p5, 0, none⟩ = some (.slice a5 n5 c5) := by simpa using G.out.2.2.1.cell 0
    by_cases hin : i < n
    · obtain ⟨g, rfl⟩ := H.out.2.2.2 (by have := H.out.2.1; omega)
      have hrow := (H.out.1.row H.out.2.1.symm (by rw [H.out.2.1]; exact H.out.2.2.1)).below (G.out.2.2.2.below (Nat.le_refl _) (fun _ h => h))
      have hx : l[i]? = some (l[i]'(by have := H.out.2.1; omega)) := by simp
      generalize l[i]'(by have := H.out.2.1; omega) = x at hx
      have hwx := hrow.wf x (List.mem_of_getElem? hx)
      have rx : readK 33 wr g (i * 33) = cellsI x := readK_eq (hrow.range hx) (cellsI_len hwx)
      have t1 : HasK 33 wr g (i * 33) := hrow.there hin
      have ax := allI_cells hwx
      have lx := cellsI_len hwx
      have k1 := (itemKey hwx).1
      have k2 := itemLease hwx
      have gl : g < wr.heap.size := hrow.lt
      have r3 : readK 16 wr p3 0 = bV ix := blk_read0 G.out.2.1 (by rw [bV_len, hix])
      have h3 : HasK 16 wr p3 0 := blk_has G.out.2.1 (by simp [bV_len, hix])
      have l3 := G.out.2.1.lt
      have e1 := eq_key x.ix ix hwx.1 hix
      have i0 : (0 : Int) ≤ (i : Int) := by omega
      have i1 : (i : Int) < (n : Int) := by omega
      have hs := ofL_succ hx ix
      have HX := Lib.hid (And.intro hx hs)
      have wl : WfL (x.sec, x.e) := hwx.2
      have al := allL wl
      obtain ⟨cx, hcx⟩ : ∃ c, c = cellsI x := ⟨_, rfl⟩
      rw [← hcx] at rx ax lx k1 k2
      obtain ⟨y, hy⟩ : ∃ y, y = (x.sec, x.e) := ⟨_, rfl⟩
      have HY := Lib.hid hy
      rw [← hy] at k2 wl al
      obtain ⟨cy, hcy⟩ : ∃ c, c = encL y := ⟨_, rfl⟩
      have HC := Lib.hid hcy
      rw [← hcy] at k2 al
      have hend : Chg (fun k => w.heap.size ≤ k) w (wr.alloc (.cells cx.toArray 46)) := G.out.2.2.2.trans_below ((Below.refl _ _).alloc (Nat.le_refl _) _)
      have HE := Lib.hid hend
      have hown : OwnG encL WfL 17 29 (wr.alloc (.cells cx.toArray 46)) (p5 + 1) (.slice a5 n5 c5) (ofL (l.take i) ix) := G.out.1.chg (S := fun _ => False) (Chg.of_below ((Below.refl _ _).alloc (Nat.le_refl _) _)) (fun _ _ h => h)
      have HO := Lib.hid hown
      clear hrow hx hcx hs hend hown hy hcy
      by_cases c1 : x.ix = ix
      · have d1 : decide (x.ix = ix) = true := by simpa using c1
        have hs := HX.out.2
        rw [if_pos c1] at hs
        have HS := Lib.hid hs
        replace c1 := Lib.hid c1
        clear hs
        have hle : (ofL (l.take i) ix).length + 1 ≤ 4294967296 := by
          have h1 : (ofL (l.take i) ix).length ≤ (l.take i).length := by unfold ofL; rw [List.length_map]; exact List.length_filter_le _ _
          rw [List.length_take] at h1
          omega
        have HLE := Lib.hid hle
        clear hle
        go_wp2_with
          (first
            | (refine appG_own EKl ecL (by rfl) _ _ (by rfl) (base := p5 + 1) (v := .slice a5 n5 c5) (l := ofL (l.take i) ix) (cx := 1) (e' := 29) y wl (by rfl) (by rfl) (by rw [← HC.out]; exact Blk.new_at _ _ _ _ (by simp)) (HO.out.chg (S := fun _ => False) (Chg.of_below ((Below.refl _ _).alloc (Nat.le_refl _) _)) (fun _ _ h => h)) HLE.out (by decide) (by simp; omega) ?_
               intro v1 x1 hv1 hg1 hs1
               obtain ⟨a1, n1, rfl⟩ := hv1.slice
               have hB1 : Blk x1 p5 #[.slice a5 n5 c5] 22 := Blk.grown' ((G.out.2.2.1.alloc _).alloc _) hg1 (fun e => by have := G.out.1.ge e; omega)
               have hh : x1.cell? ⟨p5, 0, none⟩ = some (.slice a5 n5 c5) := by simpa using hB1.cell 0
               have f2 : x1.frozen? ⟨p5, 0, none⟩ = false := hB1.free 0
               have HV1 := Lib.hid hv1; have HG1 := Lib.hid hg1; have HS1 := Lib.hid hs1; have HB1 := Lib.hid hB1
               clear hv1 hg1 hs1 hB1)
            | fail)
        have hv := HV1.out
        rw [List.length_append, List.length_singleton] at hv
        have hp3 : p3 < p5 := by rw [HP.out.1, HP.out.2.1]; omega
        have hp5 : w.heap.size ≤ p5 := by rw [HP.out.2.1]; omega
        refine ⟨⟨i + 1, a1, _, n1, by omega, by simp, ?_, ?_, HB1.out.set 0 _, ?_⟩, by show n - ((i : Int) + 1).toNat < n - (i : Int).toNat; omega⟩
        · rw [HS.out, ← HY.out]
          exact hv.chg (chg_cell x1 p5 0 _) (fun q hq e => by have := hv.ge hq; omega)
        · exact (Blk.grown' ((G.out.2.1.alloc _).alloc _) HG1.out (fun e => by have := G.out.1.ge e; omega)).set_other (fun e => by have e' : p5 = p3 := e; omega) _
        · exact ((HE.out.trans_below ((Below.refl _ _).alloc (Nat.le_refl _) _)).grown HG1.out (fun q hq => by left; have := G.out.1.ge hq; omega)).set (a := ⟨p5, 0, none⟩) hp5 _
      · have d1 : decide (x.ix = ix) = false := by simpa using c1
        have hs := HX.out.2
        rw [if_neg c1, List.append_nil] at hs
        have HS := Lib.hid hs
        clear c1 hs
        go_wp2_with fail
        exact ⟨⟨i + 1, a5, n5, c5, by omega, by simp, by rw [HS.out]; exact HO.out, G.out.2.1.alloc _, G.out.2.2.1.alloc _, HE.out⟩, by show n - ((i : Int) + 1).toNat < n - (i : Int).toNat; omega⟩
    · go_wp2_with fail
      have hfull : ofL (l.take i) ix = ofL l ix := by rw [List.take_of_length_le (by have := H.out.2.1; omega)]
      have hown := G.out.1
      rw [hfull] at hown
      have hlen : n5 = (ofL l ix).length := by
        obtain ⟨_, _, e⟩ := hown.slice
        cases e; rfl
      have hB := G.out.2.2.2.below (Nat.le_refl _) (fun _ h => h)
      have hp5 : w.heap.size ≤ p5 := by rw [HP.out.2.1]; omega
      have HO := Lib.hid (And.intro hown (And.intro hlen (And.intro hB hp5)))
      clear hown hlen hB hp5 hfull
      by_cases h2 : 2 ≤ n5
      · obtain ⟨g5, c5', e5, hrow⟩ := HO.out.1.ex (by rw [← HO.out.2.1]; omega)
        injection e5 with ea en ec
        subst ea
        subst ec
        rw [← HO.out.2.1] at hrow
        clear en
        have HR := Lib.hid hrow
        have hne : p5 ≠ g5 := fun e => by have := HO.out.1.ge (g := g5) rfl; omega
        clear hrow
        refine (lsort_calls wr p5 (p5 + 1) g5 n5 c5 (ofL l ix) HR.out G.out.2.2.1 hne h2 (by rw [HO.out.2.1]; exact H8.out)).mono ?_
        rintro e w2 ⟨rfl, out, hr2, hp2, hs2, hc2⟩
        have hb2 := hc2.blk G.out.2.2.1 hne
        have q2 : w2.cell? ⟨p5, 0, none⟩ = some (.slice (some ⟨g5, 0, none⟩) n5 c5) := by simpa using hb2.cell 0
        have H2 := Lib.hid (And.intro hr2 (And.intro hp2 (And.intro hs2 hc2)))
        clear hr2 hp2 hs2 hc2 hb2
        go_wp2_with fail
        go_ret
        refine ⟨_, out, rfl, H2.out.1.to.lower (by have := HO.out.2.2.2; omega), ⟨H2.out.2.1, H2.out.2.2.1⟩, ?_⟩
        exact ((Chg.of_below (S := fun k => w.heap.size ≤ k) HO.out.2.2.1).mix H2.out.2.2.2 (fun k hk => .inl (by have := HO.out.1.ge (g := g5) rfl; have := HO.out.2.2.2; omega))).below (Nat.le_refl _) (fun _ h => h)
      · refine (lsort_small wr a5 n5 c5 (by omega) p5).mono ?_
        rintro e w2 ⟨rfl, hc2⟩
        have hb2 := hc2.blk G.out.2.2.1 (fun h => h)
        have q2 : w2.cell? ⟨p5, 0, none⟩ = some (.slice a5 n5 c5) := by simpa using hb2.cell 0
        have H2 := Lib.hid hc2
        clear hc2 hb2
        go_wp2_with fail
        go_ret
        refine ⟨_, ofL l ix, rfl, (HO.out.1.chg H2.out (fun _ _ h => h)).lower (by have := HO.out.2.2.2; omega), ⟨List.Perm.refl _, ?_⟩, ?_⟩
        · rw [List.pairwise_iff_getElem]
          intro p q hp hq hpq
          have := HO.out.2.1
          omega
        · exact ((Chg.of_below (S := fun k => w.heap.size ≤ k) HO.out.2.2.1).mix H2.out (fun k hk => hk.elim)).below (Nat.le_refl _) (fun _ h => h)
end Go.Proofs.YtgjabnpngggcmaaDoor
