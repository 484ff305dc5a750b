/- Walks: the heap's last thing goes; Push, Fix, Pop, Remove of container/heap. -/
import Derived.Test.YtgjabnpngggcmaaDoorLeaPush
namespace Go.Proofs.YtgjabnpngggcmaaDoor
open Go Go.RowKit Go.Mem Gf Lea
attribute [local go_sem ↓] Go.wp_at_zero Go.wp_at_succ load_item store_item slice_item
attribute [local go_sem] meth_less meth_swap meth_len meth_push meth_pop ptrB_eq ptrO_eq ptrIs_eq aggL_eq aggIs_eq as_item
set_option maxRecDepth 100000 in
theorem epop_calls (w : World) (tb g cap : Nat) (l : List Les) (x : Les) (n : Nat) (hn : l.length = n + 1) (h : LTab w tb (.slice (some ⟨g, 0, none⟩) (n + 1) cap) l) (hx : l[n]? = some x) (hl : n + 1 ≤ 1000000) :
    Calls Tryd.prog 95 #[.pointer (some ⟨tb, 0, none⟩)] w fun e w' => e = .returned (.iface 46 (.agg (cellsI x).toArray)) ∧ LTab w' tb (.slice (some ⟨g, 0, none⟩) n cap) (l.take n) ∧ Chg (fun b => b = tb) w w' := by
  have hc : w.cell? ⟨tb, 0, none⟩ = some (.slice (some ⟨g, 0, none⟩) (n + 1) cap) := by simpa using h.cell.cell 0
  have hf := h.cell.free 0
  have hwx := h.wf x (List.mem_of_getElem? hx)
  have hrow := h.theRow hn
  have rx : readK 33 w g (n * 33) = cellsI x := readK_eq (hrow.range hx) (cellsI_len hwx)
  have t1 : HasK 33 w g (n * 33) := hrow.there (by omega)
  have hk := allI_cells hwx
  obtain ⟨cur, hB, _, hnc, hcm, _, _⟩ := hrow.block
  have H := Lib.hid h
  clear h hrow hx hB
  go_enter Tryd.func95, Tryd.ntmps95
  obtain ⟨w1, hw1⟩ : ∃ w1, w1 = (w.alloc (.cells #[Value.int .u8 0, Value.int .u8 0, Value.int .u8 0, Value.int .u8 0, Value.int .u8 0, Value.int .u8 0, Value.int .u8 0, Value.int .u8 0, Value.int .u8 0, Value.int .u8 0, Value.int .u8 0, Value.int .u8 0, Value.int .u8 0, Value.int .u8 0, Value.int .u8 0, Value.int .u8 0, Value.int .u8 0, Value.int .u8 0, Value.int .u8 0, Value.int .u8 0, Value.int .u8 0, Value.int .u8 0, Value.int .u8 0, Value.int .u8 0, Value.int .u8 0, Value.int .u8 0, Value.int .u8 0, Value.int .u8 0, Value.int .u8 0, Value.int .u8 0, Value.int .u8 0, Value.int .u8 0, Value.int .i64 0] 46)).setCells w.heap.size 0 (cellsI x) := ⟨_, rfl⟩
  have t2 : HasK 33 (w.alloc (.cells #[Value.int .u8 0, Value.int .u8 0, Value.int .u8 0, Value.int .u8 0, Value.int .u8 0, Value.int .u8 0, Value.int .u8 0, Value.int .u8 0, Value.int .u8 0, Value.int .u8 0, Value.int .u8 0, Value.int .u8 0, Value.int .u8 0, Value.int .u8 0, Value.int .u8 0, Value.int .u8 0, Value.int .u8 0, Value.int .u8 0, Value.int .u8 0, Value.int .u8 0, Value.int .u8 0, Value.int .u8 0, Value.int .u8 0, Value.int .u8 0, Value.int .u8 0, Value.int .u8 0, Value.int .u8 0, Value.int .u8 0, Value.int .u8 0, Value.int .u8 0, Value.int .u8 0, Value.int .u8 0, Value.int .i64 0] 46)) w.heap.size 0 := hasK_new (by decide) w _
  have t3 : HasK 33 w1 w.heap.size 0 := by rw [hw1]; exact hasK_set t2 _ _ _
  have r3 : readK 33 w1 w.heap.size 0 = cellsI x := by rw [hw1]; exact readK_set t2 hk
  have hlt : tb < w.heap.size := H.out.cell.lt
  have hne : tb ≠ w.heap.size := by omega
  have hB1 : Blk w1 tb #[.slice (some ⟨g, 0, none⟩) (n + 1) cap] 40 := by rw [hw1]; exact Blk.setCells_other hne _ _ _ (H.out.cell.alloc _)
  have hc1 : Chg (fun b => b = tb) w w1 := by
    have h0 : Below w.heap.size w w1 := by
      have := Chg.setCells (S := fun b => b = w.heap.size) (L := w.heap.size) rfl (cellsI x) 0 _ (Chg.of_below ((Below.refl w.heap.size w).alloc (Nat.le_refl _) (.cells #[Value.int .u8 0, Value.int .u8 0, Value.int .u8 0, Value.int .u8 0, Value.int .u8 0, Value.int .u8 0, Value.int .u8 0, Value.int .u8 0, Value.int .u8 0, Value.int .u8 0, Value.int .u8 0, Value.int .u8 0, Value.int .u8 0, Value.int .u8 0, Value.int .u8 0, Value.int .u8 0, Value.int .u8 0, Value.int .u8 0, Value.int .u8 0, Value.int .u8 0, Value.int .u8 0, Value.int .u8 0, Value.int .u8 0, Value.int .u8 0, Value.int .u8 0, Value.int .u8 0, Value.int .u8 0, Value.int .u8 0, Value.int .u8 0, Value.int .u8 0, Value.int .u8 0, Value.int .u8 0, Value.int .i64 0] 46)))
      rw [hw1]
      exact this.below (Nat.le_refl _) (fun k hk => by rw [hk]; exact Nat.le_refl _)
    exact Chg.of_below h0
  have HB1 := Lib.hid hB1; have HC1 := Lib.hid hc1
  have c1 : w1.cell? ⟨tb, 0, none⟩ = some (.slice (some ⟨g, 0, none⟩) (n + 1) cap) := by simpa using hB1.cell 0
  have f1 : w1.frozen? ⟨tb, 0, none⟩ = false := hB1.free 0
  have HW1 := Lib.hid hw1
  clear hB1 hc1 hw1
  go_upto_region 3 with fail
  rw [← HW1.out]
  have t4 : HasK 33 (w1.setCell ⟨tb, 0, none⟩ (.slice (some ⟨g, 0, none⟩) n cap)) w.heap.size 0 := hasK_set t3 tb 0 [.slice (some ⟨g, 0, none⟩) n cap]
  have r4 : readK 33 (w1.setCell ⟨tb, 0, none⟩ (.slice (some ⟨g, 0, none⟩) n cap)) w.heap.size 0 = cellsI x := by
    have h1 := readK_range t3
    rw [r3] at h1
    exact readK_eq (World.rangeAt_setCells_apart h1 tb 0 [.slice (some ⟨g, 0, none⟩) n cap] (.inl (by omega))) hk.1
  go_wp2_with fail
  go_ret
  have ha := H.out.apart
  refine ⟨rfl, ⟨HB1.out.set 0 _, ?_, fun y hy => H.out.wf y (List.mem_of_mem_take hy), ha⟩, HC1.out.trans (chg_cell w1 tb 0 _)⟩
  have hR1 : Row 46 (w1.setCell ⟨tb, 0, none⟩ (.slice (some ⟨g, 0, none⟩) n cap)) 0 g (n + 1) cap l := by
    refine ⟨?_, hn.symm, H.out.wf⟩
    have ho := H.out.own
    rw [hn] at ho
    exact own_chg ho (HC1.out.trans (chg_cell w1 tb 0 _)) (fun q hq e => ha (by rw [hq, e]))
  have h9 := (hR1.take (k := n) (by omega)).own
  rw [show (l.take n).length = n from by rw [List.length_take]; omega] at h9 ⊢
  exact h9
theorem TChg.then {tb g n c n' c' : Nat} {v : Value} {w w' w'' : World} (h : TChg tb v (.slice (some ⟨g, 0, none⟩) n c) w w') (h' : Chg (fun b => b = g) w' w'') : TChg tb v (.slice (some ⟨g, 0, none⟩) n' c') w w'' :=
  ⟨h.1.mix h' (fun k hk => by rcases h.2 k (by rw [hk]; rfl) with h | h; exact .inl (.inr h); exact .inr h), fun k hk => h.2 k hk⟩
theorem TChg.of {tb g n c n' c' : Nat} {w w' : World} (h : Chg (fun b => b = g) w w') : TChg tb (.slice (some ⟨g, 0, none⟩) n c) (.slice (some ⟨g, 0, none⟩) n' c') w w' :=
  ⟨h.mono (fun _ hk => .inr (by rw [hk]; rfl)), fun _ hk => .inl hk⟩
theorem TChg.trans {tb : Nat} {v v1 v2 : Value} {w w1 w2 : World} (h : TChg tb v v1 w w1) (h' : TChg tb v1 v2 w1 w2) : TChg tb v v2 w w2 :=
  ⟨h.1.mix h'.1 (fun k hk => by
    rcases hk with hk | hk
    · exact .inl (.inl hk)
    · rcases h.2 k hk with h | h
      · exact .inl (.inr h)
      · exact .inr h), fun k hk => by
    rcases h'.2 k hk with h1 | h1
    · exact h.2 k h1
    · exact .inr (Nat.le_trans h.1.size h1)⟩
theorem TChg.cell {tb g n c n' c' : Nat} {w w' : World} (h : Chg (fun b => b = tb) w w') : TChg tb (.slice (some ⟨g, 0, none⟩) n c) (.slice (some ⟨g, 0, none⟩) n' c') w w' :=
  ⟨h.mono (fun _ hk => .inl hk), fun _ hk => .inl hk⟩
/-- a heap of leases in memory -/
structure Heap (w : World) (tb : Nat) (v : Value) (l : List Les) : Prop where
  tab : LTab w tb v l
  heap : HeapN l l.length
set_option maxRecDepth 100000 in
set_option maxHeartbeats 1000000 in
/-- heap.Push -/
theorem hpush_calls (w : World) (tb : Nat) (v : Value) (l : List Les) (x : Les) (h : Heap w tb v l) (hx : Wf x) (hl : l.length ≤ 100000) :
    Calls Tryd.prog 13 #[hv tb, .iface 46 (.agg (cellsI x).toArray)] w fun e w' => e = .returned (.tuple #[]) ∧ ∃ v' l', Heap w' tb v' l' ∧ l'.Perm (l ++ [x]) ∧ TChg tb v v' w w' := by
  have H := Lib.hid h
  clear h
  unfold hv
  go_enter Tryd.func13, Tryd.ntmps13
  go_wp2_with fail
  refine (epush_calls w tb v l x l.length rfl H.out.tab hx (by omega)).mono ?_
  rintro e w1 ⟨rfl, v1, hT, hC⟩
  have hl1 : (l ++ [x]).length = l.length + 1 := by simp
  obtain ⟨g, cap, rfl, hrow⟩ := hT.ex (by omega)
  have hT1 := Lib.hid hT
  have hc1 : w1.cell? ⟨tb, 0, none⟩ = some (.slice (some ⟨g, 0, none⟩) (l ++ [x]).length cap) := by simpa using hT.cell.cell 0
  rw [hl1] at hc1
  have HC := Lib.hid hC
  clear hT hC hrow
  go_wp2_with fail
  refine (elen_calls _ _ _ _).mono ?_
  rintro e w2 ⟨rfl, rfl⟩
  obtain ⟨n, hn⟩ : ∃ n, n = l.length := ⟨_, rfl⟩
  have hp := push_pre H.out.heap x
  rw [← hn] at hc1 hl hl1 hp ⊢
  rw [hl1] at hT1 HC
  have HP := Lib.hid hp; have HL1 := Lib.hid hl1
  have e1 : ((n + 1 : Nat) : Int) - 1 = (n : Int) := by omega
  clear hp hl1 hn
  go_wp2_with fail
  refine (up_calls w1 tb g cap (l ++ [x]) n (n + 1) (n + 1) HL1.out hT1.out (by omega) (Nat.le_refl _) (by omega) HP.out.1 HP.out.2).mono ?_
  rintro e w2 ⟨rfl, l', h1, h2, h3, h4, h5⟩
  go_wp2_with fail
  go_end0
  exact ⟨rfl, _, l', ⟨h1, by rw [h2.length_eq, HL1.out]; exact h3⟩, h2, HC.out.then h5⟩
set_option maxRecDepth 100000 in
set_option maxHeartbeats 1000000 in
/-- heap.Fix -/
theorem hfix_calls (w : World) (tb : Nat) (v : Value) (l : List Les) (k n : Nat) (hn : l.length = n) (h : LTab w tb v l) (hl : n ≤ 100000) (hk : k < n)
    (hinv : ∀ c, 0 < c → c < n → (c - 1) / 2 ≠ k → c ≠ k → Rim l c) (hg : Grand l k n) :
    Calls Tryd.prog 14 #[hv tb, .int .i64 k] w fun e w' => e = .returned (.tuple #[]) ∧ ∃ l', Heap w' tb v l' ∧ l'.Perm l ∧ TChg tb v v w w' := by
  obtain ⟨g, cap, rfl, hrow⟩ := h.ex (by omega)
  have hc : w.cell? ⟨tb, 0, none⟩ = some (.slice (some ⟨g, 0, none⟩) l.length cap) := by simpa using h.cell.cell 0
  rw [hn] at hc h ⊢
  have H := Lib.hid (And.intro h (And.intro hinv hg))
  have HN := Lib.hid hn
  clear hn h hinv hg hrow
  unfold hv
  go_enter Tryd.func14, Tryd.ntmps14
  go_wp2_with fail
  refine (elen_calls _ _ _ _).mono ?_
  rintro e w2 ⟨rfl, rfl⟩
  go_wp2_with fail
  refine (down_calls w tb g cap l k n n HN.out H.out.1 (by omega) (Nat.le_refl _) hk H.out.2.1 H.out.2.2).mono ?_
  rintro e w1 ⟨b, rfl, l1, h1, h2, h3, h4, h5, h6⟩
  have HL := Lib.hid h2.length_eq
  have H1 := Lib.hid (And.intro h1 (And.intro h2 (And.intro h4 (And.intro h5 h6))))
  clear h1 h2 h3 h4 h5 h6
  cases b
  · go_wp2_with fail
    obtain ⟨e6, h6⟩ := H1.out.2.2.2.2 (by first | rfl | trivial)
    refine (up_calls w1 tb g cap l k n n HN.out (by have := H1.out.1; rwa [e6] at this) (by omega) (Nat.le_refl _) hk h6 H.out.2.2).mono ?_
    rintro e w2 ⟨rfl, l', g1, g2, g3, g4, g5⟩
    go_wp2_with fail
    go_end0
    exact ⟨rfl, l', ⟨g1, by rw [g2.length_eq, HN.out]; exact g3⟩, g2, TChg.of (H1.out.2.2.1.trans g5)⟩
  · go_wp2_with fail
    go_end0
    exact ⟨rfl, l1, ⟨H1.out.1, by rw [HL.out, HN.out]; exact H1.out.2.2.2.1 (by first | rfl | trivial)⟩, H1.out.2.1, TChg.of H1.out.2.2.1⟩
end Go.Proofs.YtgjabnpngggcmaaDoor
