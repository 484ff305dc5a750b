/- A lease is cancelled; does one live; the least end; a new table. -/
import Derived.Test.YtgjabnpngggcmaaLeaAdd
namespace Go.Proofs.Ytgjabnpngggcmaa
open Go Go.RowKit Go.Mem Gf Lea
attribute [local go_sem ↓] Go.wp_at_zero Go.wp_at_succ
attribute [local go_sem ↓] load_key load_item store_item load_lease store_lease slice_lease build_item
attribute [local go_sem] ptrB_eq ptrO_eq ptrIs_eq aggL_eq aggIs_eq readK_drew hasK_drew readK_alloc_past hasK_alloc_past readK_alloc_in hasK_alloc_in setCells_drew setCells_alloc_past setCells_alloc_at
theorem key_in {k : Key} (h : k.length = 16) : cutC (bV k).toArray 0 16 = bV k ∧ (bV k).length = 16 := by
  have h1 : (bV k).length = 16 := by rw [bV_len]; exact h
  exact ⟨by unfold cutC; rw [List.toList_toArray, List.drop_zero, List.take_of_length_le (by omega)], h1⟩
set_option maxRecDepth 100000 in
set_option maxHeartbeats 1000000 in
theorem cancel_calls (w : World) (tb : Nat) (v : Value) (l : List Les) (ix sec : Key) (h : Heap w tb v l) (hl : l.length ≤ 90000) (hix : ix.length = 16) (hsec : sec.length = 16) :
    Calls Try.prog 14 #[.pointer (some ⟨tb, 0, none⟩), .agg (bV ix).toArray, .agg (bV sec).toArray] w fun r w' => ∃ b v' l', r = .returned (.bool b) ∧ CancelR l ix sec b l' ∧ Heap w' tb v' l' ∧ TChg tb v v' w w' := by
  have H := Lib.hid h
  have k1 := (key_in hix).1
  have k2 := (key_in hix).2
  have k3 := (key_in hsec).1
  have k4 := (key_in hsec).2
  clear h
  go_enter Try.func14, Try.ntmps14
  have hB0 : Below w.heap.size w ((w.alloc (.cells (bV ix).toArray 26)).alloc (.cells (bV sec).toArray 26)) := ((Below.refl _ _).alloc (Nat.le_refl _) _).alloc (by simp) _
  have HB := Lib.hid hB0
  clear hB0
  go_wp2_with fail
  refine (find_calls _ tb v l ix sec (H.out.below HB.out).tab (by omega) hix hsec).mono ?_
  rintro r w1 ⟨k, rfl, hF, hB1⟩
  have hT1 := (H.out.below HB.out).below hB1
  have H1 := Lib.hid (And.intro hT1 (HB.out.trans (hB1.mono HB.out.size)))
  clear hT1 hB1
  rcases hF with ⟨rfl, hno⟩ | ⟨i, x, rfl, hx, e1, e2⟩
  · have HNO := Lib.hid hno
    clear hno
    go_wp2_with fail
    go_ret
    exact ⟨false, v, l, rfl, .no HNO.out, H1.out.1, TChg.same H1.out.2⟩
  · have d0 : decide ((i : Int) < 0) = false := by simp
    have HX := Lib.hid (And.intro hx (And.intro e1 e2))
    clear hx e1 e2
    go_wp2_with fail
    refine (hremove_calls w1 tb v l i x H1.out.1 HX.out.1 (by omega)).mono ?_
    rintro r w2 ⟨rfl, v2, l2, h1, h2, h3⟩
    go_wp2_with fail
    go_ret
    exact ⟨true, v2, l2, rfl, .gone x l2 HX.out.2.1 HX.out.2.2 h2, h1, h3.pre H1.out.2⟩
set_option maxRecDepth 100000 in
theorem new_calls (w : World) : Calls Try.prog 5 #[] w fun r w' => ∃ tb, r = .returned (.pointer (some ⟨tb, 0, none⟩)) ∧ w.heap.size ≤ tb ∧ Heap w' tb (.slice none 0 0) [] ∧ Below w.heap.size w w' := by
  go_enter Try.func5, Try.ntmps5
  go_wp2_with fail
  go_ret
  refine ⟨_, rfl, Nat.le_refl _, ⟨⟨Blk.new _ _ _, World.ownsRow_nil _ _ _ _, (fun _ h => by cases h), by simp [Value.ownBlock]⟩, (fun c h1 h2 => by simp at h2)⟩, (Below.refl _ _).alloc (Nat.le_refl _) _⟩
set_option maxRecDepth 100000 in
theorem next_calls (w : World) (tb : Nat) (v : Value) (l : List Les) (h : Heap w tb v l) (hl : l.length ≤ 90000) :
    Calls Try.prog 8 #[.pointer (some ⟨tb, 0, none⟩)] w fun r w' => ∃ n ok, r = .returned (.tuple #[.int .i64 n, .bool ok]) ∧ NextR l n ok ∧ w' = w := by
  obtain ⟨a0, c0, hv, hg⟩ := own_eq_slice h.tab.own
  have hcell : w.cell? ⟨tb, 0, none⟩ = some v := by simpa using h.tab.cell.cell 0
  obtain ⟨n, hn⟩ : ∃ n, n = l.length := ⟨_, rfl⟩
  rw [hv, ← hn] at hcell
  by_cases h0 : n = 0
  · have hnil : l = [] := List.eq_nil_of_length_eq_zero (by omega)
    rw [h0] at hcell
    clear hv hn h0 h
    go_enter Try.func8, Try.ntmps8
    go_wp2_with fail
    go_ret2
    exact ⟨0, false, rfl, .inl ⟨hnil, rfl, rfl⟩, rfl⟩
  · obtain ⟨g, cap, e, hrow⟩ := h.tab.ex (by omega)
    have hx : l[0]? = some (l[0]'(by omega)) := by simp
    generalize l[0]'(by omega) = x at hx
    have qe := hrow.ends hx
    simp only [Nat.zero_mul, Nat.zero_add] at qe
    have hr : NextR l x.e true := .inr ⟨rfl, ⟨x, List.mem_of_getElem? hx, rfl⟩, fun y hy => by
      obtain ⟨j, hj⟩ := List.mem_iff_getElem?.1 hy
      exact top_least h.heap (Nat.le_refl _) hx j (some_lt hj) y hj⟩
    rw [hv] at e
    injection e with ea _ _
    rw [ea] at hcell
    have d0 : (n == 0) = false := by simpa using h0
    have d1 : decide ((n : Int) = 0) = false := by simp; omega
    have d2 : ((n : Int) == 0) = false := by simp; omega
    have i1 : (0 : Int) < (n : Int) := by omega
    have HR := Lib.hid hr
    clear hv hn h0 h hrow hx hr ea hg
    go_enter Try.func8, Try.ntmps8
    go_wp2_with fail
    go_ret2
    exact ⟨x.e, .inr ⟨rfl, HR.out, rfl⟩⟩
theorem leaseEnd {y : Sec} (h : WfL y) : (encL y).toArray[16]? = some (.int .i64 y.2) := by
  simpa using encL_end h
def Lives (l : List Les) (ix : Key) (now : Int) : Prop := ∃ x ∈ l, x.ix = ix ∧ now < x.e
set_option maxRecDepth 100000 in
set_option maxHeartbeats 1000000 in
theorem living_calls (w : World) (tb : Nat) (v : Value) (l : List Les) (ix : Key) (now : Int) (h : Tab w tb v l) (hl : l.length ≤ 90000) (hix : ix.length = 16) (h8 : (ofL l ix).length ≤ 12) :
    Calls Try.prog 15 #[.pointer (some ⟨tb, 0, none⟩), .agg (bV ix).toArray, .int .i64 now] w fun r w' => ∃ b, r = .returned (.bool b) ∧ (b = true ↔ Lives l ix now) ∧ Below w.heap.size w w' := by
  have H := Lib.hid h
  have k1 := (key_in hix).1
  have k2 := (key_in hix).2
  clear h
  have HB : Hid (Below w.heap.size w (w.alloc (.cells (bV ix).toArray 26))) := (Below.refl _ _).alloc (Nat.le_refl _) _
  go_enter Try.func15, Try.ntmps15
  go_wp2_with fail
  refine (of_calls _ tb v l ix (H.out.below HB.out) (by omega) hix h8).mono ?_
  rintro r w1 ⟨vo, out, rfl, hO, hR, hB1⟩
  obtain ⟨po, co, rfl⟩ := hO.slice
  have hgo : 0 < out.length → ∃ g, po = some ⟨g, 0, none⟩ := fun hp => by
    obtain ⟨g, cap, e, _⟩ := hO.ex hp
    injection e with ea
    exact ⟨g, ea⟩
  have hmem : ∀ b : Bool, (b = true ↔ ∃ s ∈ out, now < s.2) → (b = true ↔ Lives l ix now) := fun b hb => by
    rw [hb]
    constructor
    · rintro ⟨s, hs, hlt⟩
      obtain ⟨x, hx, e1, e2⟩ := mem_ofL.1 (hR.perm.mem_iff.1 hs)
      exact ⟨x, hx, e1, by rw [← e2] at hlt; exact hlt⟩
    · rintro ⟨x, hx, e1, hlt⟩
      exact ⟨_, hR.perm.mem_iff.2 (mem_ofL.2 ⟨x, hx, e1, rfl⟩), hlt⟩
  obtain ⟨n, hn⟩ : ∃ n, n = out.length := ⟨_, rfl⟩
  rw [← hn] at hgo ⊢
  have hn8 : n ≤ 12 := by rw [hn, hR.perm.length_eq]; exact h8
  have H1 := Lib.hid (And.intro hO (And.intro hn (And.intro hgo (And.intro hmem (HB.out.trans (hB1.mono HB.out.size))))))
  clear hO hn hgo hmem hR hB1
  go_upto_region 2 with fail
  go_loopw [13] (fun vi wr => ∃ i : Nat, i ≤ n ∧ vi = .int .i64 i ∧ Hid ((∀ s ∈ out.take i, ¬ now < s.2) ∧ Below w1.heap.size w1 wr)) (fun vi _ => n - (intOf vi).toNat)
  case atStart => exact ⟨0, Nat.zero_le _, rfl, (fun s hs => by simp at hs), Below.refl _ _⟩
  case round =>
    obtain ⟨i, hi0, rfl, G⟩ := hrel
    by_cases hin : i < n
    · obtain ⟨g, rfl⟩ := H1.out.2.2.1 (by omega)
      have hrow0 : RowG encL WfL 17 28 w1 (w.alloc (.cells (bV ix).toArray 26)).heap.size g n co out := by
        obtain ⟨g', cap', e, hr⟩ := H1.out.1.ex (by have := H1.out.2.1; omega)
        injection e with ea _ ec
        injection ea with ea
        injection ea with ea
        rw [← ea, ← ec, ← H1.out.2.1] at hr
        exact hr
      have hrow := hrow0.chg (S := fun _ => False) (Chg.of_below G.out.2) (fun h => h)
      have hx : out[i]? = some (out[i]'(by have := H1.out.2.1; omega)) := by simp
      generalize out[i]'(by have := H1.out.2.1; omega) = x at hx
      have hwx := hrow.wf x (List.mem_of_getElem? hx)
      have rx := hrow.read ecL hx
      have t1 : HasK 17 wr g (i * 17) := hrow.there hin
      have ax := allL hwx
      have lx := ecL.len x hwx
      have ce := leaseEnd hwx
      have gl : g < wr.heap.size := hrow.lt
      have i0 : (0 : Int) ≤ (i : Int) := by omega
      have i1 : (i : Int) < (n : Int) := by omega
      have HX := Lib.hid hx
      obtain ⟨cx, hcx⟩ : ∃ c, c = encL x := ⟨_, rfl⟩
      rw [← hcx] at rx ax lx ce
      have ce2 : cx[16]'(by omega) = .int .i64 x.2 := by
        rw [List.getElem?_toArray, List.getElem?_eq_getElem (by omega)] at ce
        exact Option.some.inj ce
      have HE := Lib.hid (G.out.2.alloc G.out.2.size (.cells cx.toArray 28))
      clear hrow hrow0 hx hcx
      by_cases c1 : now < x.2
      · have d1 : decide (now < x.2) = true := by simpa using c1
        replace c1 := Lib.hid c1
        go_wp2_with fail
        go_ret
        exact .inr ⟨rfl, (H1.out.2.2.2.1 true ⟨fun _ => ⟨x, List.mem_of_getElem? HX.out, c1.out⟩, fun _ => rfl⟩).1 rfl, H1.out.2.2.2.2.trans (HE.out.mono H1.out.2.2.2.2.size)⟩
      · have d1 : decide (now < x.2) = false := by simpa using c1
        replace c1 := Lib.hid c1
        go_wp2_with fail
        refine ⟨⟨i + 1, by omega, by simp, fun s hs => ?_, HE.out⟩, by show n - ((i : Int) + 1).toNat < n - (i : Int).toNat; omega⟩
        rw [List.take_add_one, HX.out] at hs
        rcases List.mem_append.1 hs with hs | hs
        · exact G.out.1 s hs
        · simp at hs
          rw [hs]; exact c1.out
    · go_wp2_with fail
      go_ret
      refine .inl ⟨rfl, fun hlv => Bool.noConfusion ((H1.out.2.2.2.1 false ⟨fun h => by (cases h), fun ⟨s, hs, hlt⟩ => ?_⟩).2 hlv), H1.out.2.2.2.2.trans (G.out.2.mono H1.out.2.2.2.2.size)⟩
      have := G.out.1 s (by rw [List.take_of_length_le (by have := H1.out.2.1; omega)]; exact hs)
      omega
end Go.Proofs.Ytgjabnpngggcmaa
