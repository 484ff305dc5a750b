/- A lease is cancelled; does one live; the least end; a new table. -/
import Derived.Test.YtgjabnpngggcmaaDoorLeaAdd
namespace Go.Proofs.YtgjabnpngggcmaaDoor
open Go Go.RowKit Go.Mem Gf Lea
attribute [local go_sem ↓] Go.wp_at_zero Go.wp_at_succ
attribute [local go_sem ↓] load_key load_item store_item load_lease store_lease slice_lease build_item
attribute [local go_sem] ptrB_eq ptrO_eq ptrIs_eq aggL_eq aggIs_eq readK_drew hasK_drew readK_alloc_past hasK_alloc_past readK_alloc_in hasK_alloc_in setCells_drew setCells_alloc_past setCells_alloc_at
theorem _root_.Go.Proofs.YtgjabnpngggcmaaDoor.LTab.chg {S : Nat → Prop} {w w' : World} {tb : Nat} {v : Value} {l : List Les} (h : LTab w tb v l) (hc : Chg S w w') (h1 : ¬ S tb) (h2 : ∀ g, v.ownBlock = some g → ¬ S g) : LTab w' tb v l :=
  ⟨hc.blk h.cell h1, own_chg h.own hc h2, h.wf, h.apart⟩
theorem key_in {k : Key} (h : k.length = 16) : cutC (bV k).toArray 0 16 = bV k ∧ (bV k).length = 16 := by
  have h1 : (bV k).length = 16 := by rw [bV_len]; exact h
  exact ⟨by unfold cutC; rw [List.toList_toArray, List.drop_zero, List.take_of_length_le (by omega)], h1⟩
set_option maxRecDepth 100000 in
set_option maxHeartbeats 1000000 in
theorem cancel_calls (w : World) (tb : Nat) (v : Value) (l : List Les) (ix sec : Key) (h : Heap w tb v l) (hl : l.length ≤ 90000) (hix : ix.length = 16) (hsec : sec.length = 16) :
    Calls Tryd.prog 17 #[.pointer (some ⟨tb, 0, none⟩), .agg (bV ix).toArray, .agg (bV sec).toArray] w fun r w' => ∃ b v' l', r = .returned (.bool b) ∧ CancelR l ix sec b l' ∧ Heap w' tb v' l' ∧ TChg tb v v' w w' := by
  have H := Lib.hid h
  have k1 := (key_in hix).1
  have k2 := (key_in hix).2
  have k3 := (key_in hsec).1
  have k4 := (key_in hsec).2
  clear h
  go_enter Tryd.func17, Tryd.ntmps17
  have hB0 : Below w.heap.size w ((w.alloc (.cells (bV ix).toArray 24)).alloc (.cells (bV sec).toArray 24)) := ((Below.refl _ _).alloc (Nat.le_refl _) _).alloc (by simp) _
  have HB := Lib.hid hB0
  clear hB0
  go_wp2_with fail
  refine (find_calls _ tb v l ix sec (H.out.below HB.out).tab (by omega) hix hsec).mono ?_
  rintro r w1 ⟨k, rfl, hF, hB1⟩
  have hT1 := (H.out.below HB.out).below hB1
  have H1 := Lib.hid (And.intro hT1 (HB.out.trans (hB1.mono HB.out.size)))
  clear hT1 hB1
  rcases hF with ⟨rfl, hno⟩ | ⟨i, x, rfl, hx, e1, e2⟩
  · have HNO := Lib.hid hno
    clear hno
    go_wp2_with fail
    go_ret
    exact ⟨false, v, l, rfl, .no HNO.out, H1.out.1, TChg.same H1.out.2⟩
  · have d0 : decide ((i : Int) < 0) = false := by simp
    have HX := Lib.hid (And.intro hx (And.intro e1 e2))
    clear hx e1 e2
    go_wp2_with fail
    refine (hremove_calls w1 tb v l i x H1.out.1 HX.out.1 (by omega)).mono ?_
    rintro r w2 ⟨rfl, v2, l2, h1, h2, h3⟩
    go_wp2_with fail
    go_ret
    exact ⟨true, v2, l2, rfl, .gone x l2 HX.out.2.1 HX.out.2.2 h2, h1, h3.pre H1.out.2⟩
set_option maxRecDepth 100000 in
theorem new_calls (w : World) : Calls Tryd.prog 4 #[] w fun r w' => ∃ tb, r = .returned (.pointer (some ⟨tb, 0, none⟩)) ∧ w.heap.size ≤ tb ∧ Heap w' tb (.slice none 0 0) [] ∧ Below w.heap.size w w' := by
  go_enter Tryd.func4, Tryd.ntmps4
  go_wp2_with fail
  go_ret
  refine ⟨_, rfl, Nat.le_refl _, ⟨⟨Blk.new _ _ _, World.ownsRow_nil _ _ _ _, (fun _ h => by cases h), by simp [Value.ownBlock]⟩, (fun c h1 h2 => by simp at h2)⟩, (Below.refl _ _).alloc (Nat.le_refl _) _⟩
theorem leaseEnd {y : Sec} (h : WfL y) : (encL y).toArray[16]? = some (.int .i64 y.2) := by
  simpa using encL_end h
def Lives (l : List Les) (ix : Key) (now : Int) : Prop := ∃ x ∈ l, x.ix = ix ∧ now < x.e
end Go.Proofs.YtgjabnpngggcmaaDoor
