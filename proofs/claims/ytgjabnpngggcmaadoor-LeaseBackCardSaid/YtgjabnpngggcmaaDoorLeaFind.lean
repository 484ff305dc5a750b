/- The place of a lease in a table. -/
import Derived.Test.YtgjabnpngggcmaaDoorLeaSpec
import Derived.Test.YtgjabnpngggcmaaDoorFar
namespace Go.Proofs.YtgjabnpngggcmaaDoor
open Go Go.RowKit Go.Mem Gf Lea
theorem i16 : (Tryd.prog.info? 24).map (·.size) = some 16 := by kernel_rfl
theorem load_key (dst : Option Tmp) (x : Operand) (ty : TypeId) (pos : String) (af : Array Edge) (gd : Option (Tmp × Bool)) (a : Act) (w : World) (K : Act → World → Prop) (Q : Exit → Act → World → Prop)
    (hp : ptrIs (a.eval x) = true) (ht : HasK 16 w (ptrB (a.eval x)) (ptrO (a.eval x))) :
    Oper.wp Tryd.prog ⟨dst, .load 24 x, ty, pos, af, gd⟩ a w K Q = K (a.put dst (.agg (readK 16 w (ptrB (a.eval x)) (ptrO (a.eval x))).toArray)) w :=
  wp_loadG Tryd.underlying24 rfl i16 dst x ty pos af gd a w K Q hp ht
theorem eq_key (xs ys : List UInt8) (hx : xs.length = 16) (hy : ys.length = 16) (w : World) : (Op.equalIn 10000 24 (.agg (bV xs).toArray) (.agg (bV ys).toArray)).run Tryd.prog w = .ok (decide (xs = ys)) w :=
  run_eq_bytes (P := Tryd.prog) w 9998 16 Tryd.underlying24 (Option.some_get (by kernel_rfl)).symm (by kernel_rfl) (by kernel_rfl) xs ys hx hy
theorem itemKey {x : Les} (h : Wf x) : cutC (cellsI x).toArray 0 16 = bV x.ix ∧ cutC (cellsI x).toArray 16 16 = bV x.sec := by
  have h1 : (bV x.ix).length = 16 := by rw [bV_len]; exact h.1
  have h2 : (bV x.sec).length = 16 := by rw [bV_len]; exact h.2
  unfold cutC cellsI
  constructor
  · simp [h1]
  · rw [List.toList_toArray, List.append_assoc, List.drop_append_of_le_length (by omega), List.drop_of_length_le (by omega), List.nil_append, List.take_append_of_le_length (by omega), List.take_of_length_le (by omega)]
theorem _root_.Lea.Row.below {ti : TypeId} {w w' : World} {base g n cap : Nat} {l : List Les} (h : Row ti w base g n cap l) (hb : Below w.heap.size w w') : Row ti w' base g n cap l := ⟨own_chg (S := fun _ => False) h.own (Chg.of_below hb) (fun _ _ h => h), h.len, h.wf⟩
theorem _root_.Lea.Row.lt {ti : TypeId} {w : World} {base g n cap : Nat} {l : List Les} (h : Row ti w base g n cap l) : g < w.heap.size := by
  obtain ⟨cur, hh, _⟩ := h.block
  exact lt_of_block hh
theorem LTab.row {w : World} {tb g n cap : Nat} {v : Value} {l : List Les} (h : LTab w tb v l) (hn : l.length = n) (hv : v = .slice (some ⟨g, 0, none⟩) n cap) : Row 46 w 0 g n cap l := by
  subst hv
  exact h.theRow hn
theorem noKey_succ {l : List Les} {i : Nat} {x : Les} {ix sec : Key} (h : NoKey (l.take i) ix sec) (hx : l[i]? = some x) (hn : ¬ (x.ix = ix ∧ x.sec = sec)) : NoKey (l.take (i + 1)) ix sec := by
  intro y hy
  rw [List.take_add_one, hx] at hy
  rcases List.mem_append.1 hy with hy | hy
  · exact h y hy
  · simp at hy
    rw [hy]; exact hn
attribute [local go_sem ↓] Go.wp_at_zero Go.wp_at_succ
attribute [local go_sem ↓] load_key load_item store_item
attribute [local go_sem] ptrB_eq ptrO_eq ptrIs_eq aggL_eq aggIs_eq readK_drew hasK_drew readK_alloc_past hasK_alloc_past readK_alloc_in hasK_alloc_in setCells_drew setCells_alloc_past setCells_alloc_at
set_option maxRecDepth 100000 in
set_option maxHeartbeats 1000000 in
theorem find_calls (w : World) (tb : Nat) (v : Value) (l : List Les) (ix sec : Key) (h : LTab w tb v l) (hl : l.length ≤ 100000) (hix : ix.length = 16) (hsec : sec.length = 16) :
    Calls Tryd.prog 11 #[.pointer (some ⟨tb, 0, none⟩), .agg (bV ix).toArray, .agg (bV sec).toArray] w fun e w' => ∃ r, e = .returned (.int .i64 r) ∧ FindR l ix sec r ∧ Below w.heap.size w w' := by
  have hcell : w.cell? ⟨tb, 0, none⟩ = some v := by simpa using h.cell.cell 0
  have htb := h.cell.lt
  have htb1 : tb < w.heap.size + 1 := by omega
  obtain ⟨a0, c0, hv, hg⟩ := own_eq_slice h.own
  obtain ⟨n, hn⟩ : ∃ n, n = l.length := ⟨_, rfl⟩
  rw [← hn] at hl
  have H := Lib.hid (And.intro h (And.intro hn (And.intro hv hg)))
  rw [hv, ← hn] at hcell
  clear h hn hv hg
  go_enter Tryd.func11, Tryd.ntmps11
  go_upto_region 2 with fail
  have hB0 : Below w.heap.size w ((w.alloc (.cells (bV ix).toArray 24)).alloc (.cells (bV sec).toArray 24)) := ((Below.refl _ _).alloc (Nat.le_refl _) _).alloc (by simp) _
  have hk1 : Blk ((w.alloc (.cells (bV ix).toArray 24)).alloc (.cells (bV sec).toArray 24)) w.heap.size (bV ix).toArray 24 := (Blk.new _ _ _).alloc _
  have hk2 : Blk ((w.alloc (.cells (bV ix).toArray 24)).alloc (.cells (bV sec).toArray 24)) (w.heap.size + 1) (bV sec).toArray 24 := Blk.new_at _ _ _ _ (by simp)
  obtain ⟨w0, hw0⟩ : ∃ x, x = (w.alloc (.cells (bV ix).toArray 24)).alloc (.cells (bV sec).toArray 24) := ⟨_, rfl⟩
  rw [← hw0] at hB0 hk1 hk2 ⊢
  clear hw0
  obtain ⟨p4, hp4⟩ : ∃ p, p = w.heap.size := ⟨_, rfl⟩
  obtain ⟨p5, hp5⟩ : ∃ p, p = w.heap.size + 1 := ⟨_, rfl⟩
  rw [← hp5] at hk2 ⊢
  rw [← hp4] at hk1 ⊢
  have HB0 := Lib.hid hB0
  clear hp4 hp5 hB0
  go_loopw [14] (fun vi wr => ∃ i : Nat, i ≤ n ∧ vi = .int .i64 i ∧ Hid (NoKey (l.take i) ix sec ∧ Blk wr p4 (bV ix).toArray 24 ∧ Blk wr p5 (bV sec).toArray 24 ∧ Below w.heap.size w wr)) (fun vi _ => n - (intOf vi).toNat)
  case atStart => exact ⟨0, Nat.zero_le _, rfl, fun x hx => by simp at hx, hk1, hk2, HB0.out⟩
  case round =>
    obtain ⟨i, hi0, rfl, G⟩ := hrel
    by_cases hin : i < n
    · obtain ⟨g, rfl⟩ := H.out.2.2.2 (by have := H.out.2.1; omega)
      have hrow := (H.out.1.row H.out.2.1.symm (by rw [H.out.2.1]; exact H.out.2.2.1)).below G.out.2.2.2
      have hx : l[i]? = some (l[i]'(by have := H.out.2.1; omega)) := by simp
      generalize l[i]'(by have := H.out.2.1; omega) = x at hx
      have hwx := hrow.wf x (List.mem_of_getElem? hx)
      have rx : readK 33 wr g (i * 33) = cellsI x := readK_eq (hrow.range hx) (cellsI_len hwx)
      have t1 : HasK 33 wr g (i * 33) := hrow.there hin
      have ax := allI_cells hwx
      have lx := cellsI_len hwx
      have k1 := (itemKey hwx).1
      have k2 := (itemKey hwx).2
      have gl : g < wr.heap.size := hrow.lt
      have r4 : readK 16 wr p4 0 = bV ix := blk_read0 G.out.2.1 (by rw [bV_len, hix])
      have r5 : readK 16 wr p5 0 = bV sec := blk_read0 G.out.2.2.1 (by rw [bV_len, hsec])
      have h4 : HasK 16 wr p4 0 := blk_has G.out.2.1 (by simp [bV_len, hix])
      have h5 : HasK 16 wr p5 0 := blk_has G.out.2.2.1 (by simp [bV_len, hsec])
      have l4 := G.out.2.1.lt
      have l5 := G.out.2.2.1.lt
      have e1 := eq_key x.ix ix hwx.1 hix
      have e2 := eq_key x.sec sec hwx.2 hsec
      have i0 : (0 : Int) ≤ (i : Int) := by omega
      have i1 : (i : Int) < (n : Int) := by omega
      have HX := Lib.hid hx
      obtain ⟨cx, hcx⟩ : ∃ c, c = cellsI x := ⟨_, rfl⟩
      rw [← hcx] at rx ax lx k1 k2
      clear hrow hx hcx
      have hend : Below w.heap.size w (wr.alloc (.cells cx.toArray 46)) := G.out.2.2.2.alloc (G.out.2.2.2.size) _
      have HE := Lib.hid hend
      have hmore : ¬ (x.ix = ix ∧ x.sec = sec) → NoKey (l.take (i + 1)) ix sec := fun hn => noKey_succ G.out.1 HX.out hn
      clear hend
      by_cases c1 : x.ix = ix
      · have d1 : decide (x.ix = ix) = true := by simpa using c1
        replace c1 := Lib.hid c1
        by_cases c2 : x.sec = sec
        · have d2 : decide (x.sec = sec) = true := by simpa using c2
          replace c2 := Lib.hid c2
          go_wp2_with fail
          go_ret
          exact ⟨i, rfl, .inr ⟨i, x, rfl, HX.out, c1.out, c2.out⟩, HE.out⟩
        · have d2 : decide (x.sec = sec) = false := by simpa using c2
          have hm := Lib.hid (hmore fun h => c2 h.2)
          clear c2 hmore
          go_wp2_with fail
          exact ⟨⟨i + 1, by omega, by simp, hm.out, G.out.2.1.alloc _, G.out.2.2.1.alloc _, HE.out⟩, by show n - ((i : Int) + 1).toNat < n - (i : Int).toNat; omega⟩
      · have d1 : decide (x.ix = ix) = false := by simpa using c1
        have hm := Lib.hid (hmore fun h => c1 h.1)
        clear c1 hmore
        go_wp2_with fail
        exact ⟨⟨i + 1, by omega, by simp, hm.out, G.out.2.1.alloc _, G.out.2.2.1.alloc _, HE.out⟩, by show n - ((i : Int) + 1).toNat < n - (i : Int).toNat; omega⟩
    · go_wp2_with fail
      go_ret
      refine ⟨-1, rfl, .inl ⟨rfl, ?_⟩, G.out.2.2.2⟩
      have := G.out.1
      rwa [List.take_of_length_le (by have := H.out.2.1; omega)] at this
end Go.Proofs.YtgjabnpngggcmaaDoor
