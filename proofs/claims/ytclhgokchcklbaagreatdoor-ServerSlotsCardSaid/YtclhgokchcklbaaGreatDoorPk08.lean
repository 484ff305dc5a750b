/- Texts of this proof, packed: LeaFind, LeaLess, LeaSort, AppG, LeaOf, LeaAdd, LeaMore, LeaWake, Ints, Open, OpenS, Some, LeaTwo, TailNew. -/
import Derived.Test.YtclhgokchcklbaaGreatDoorPk07
import Derived.Test.YtclhgokchcklbaaGreatDoorPkS
import Derived.Test.YtclhgokchcklbaaGreatDoorPk02
import Derived.Test.YtclhgokchcklbaaGreatDoorPk00
import Derived.WalkKit
import Derived.ProofKit
import Derived.ChangeOld
import Derived.Deep.SlicePairs
import Derived.OpenShut
import Derived.Laws.StructEq
section
namespace Go.Proofs.YtclhgokchcklbaaGreatDoor
open Go Go.RowKit Go.Mem Gf Lea
theorem i16 : (Tryz.prog.info? 44).map (·.size) = some 16 := by kernel_rfl
theorem load_key (dst : Option Tmp) (x : Operand) (ty : TypeId) (pos : String) (af : Array Edge) (gd : Option (Tmp × Bool)) (a : Act) (w : World) (K : Act → World → Prop) (Q : Exit → Act → World → Prop)
    (hp : ptrIs (a.eval x) = true) (ht : HasK 16 w (ptrB (a.eval x)) (ptrO (a.eval x))) :
    Oper.wp Tryz.prog ⟨dst, .load 44 x, ty, pos, af, gd⟩ a w K Q = K (a.put dst (.agg (readK 16 w (ptrB (a.eval x)) (ptrO (a.eval x))).toArray)) w :=
  wp_loadG Tryz.underlying44 rfl i16 dst x ty pos af gd a w K Q hp ht
theorem eq_key (xs ys : List UInt8) (hx : xs.length = 16) (hy : ys.length = 16) (w : World) : (Op.equalIn 10000 44 (.agg (bV xs).toArray) (.agg (bV ys).toArray)).run Tryz.prog w = .ok (decide (xs = ys)) w :=
  run_eq_bytes (P := Tryz.prog) w 9998 16 Tryz.underlying44 (Option.some_get (by kernel_rfl)).symm (by kernel_rfl) (by kernel_rfl) xs ys hx hy
theorem itemKey {x : Les} (h : Wf x) : cutC (cellsI x).toArray 0 16 = bV x.ix ∧ cutC (cellsI x).toArray 16 16 = bV x.sec := by
  have h1 : (bV x.ix).length = 16 := by rw [bV_len]; exact h.1
  have h2 : (bV x.sec).length = 16 := by rw [bV_len]; exact h.2
  unfold cutC cellsI
  constructor
  · simp [h1]
  · rw [List.toList_toArray, List.append_assoc, List.drop_append_of_le_length (by omega), List.drop_of_length_le (by omega), List.nil_append, List.take_append_of_le_length (by omega), List.take_of_length_le (by omega)]
theorem _root_.Lea.Row.below {ti : TypeId} {w w' : World} {base g n cap : Nat} {l : List Les} (h : Row ti w base g n cap l) (hb : Below w.heap.size w w') : Row ti w' base g n cap l := ⟨own_chg (S := fun _ => False) h.own (Chg.of_below hb) (fun _ _ h => h), h.len, h.wf⟩
theorem _root_.Lea.Row.lt {ti : TypeId} {w : World} {base g n cap : Nat} {l : List Les} (h : Row ti w base g n cap l) : g < w.heap.size := by
  obtain ⟨cur, hh, _⟩ := h.block
  exact lt_of_block hh
theorem LTab.row {w : World} {tb g n cap : Nat} {v : Value} {l : List Les} (h : LTab w tb v l) (hn : l.length = n) (hv : v = .slice (some ⟨g, 0, none⟩) n cap) : Row 191 w 0 g n cap l := by
  subst hv
  exact h.theRow hn
theorem noKey_succ {l : List Les} {i : Nat} {x : Les} {ix sec : Key} (h : NoKey (l.take i) ix sec) (hx : l[i]? = some x) (hn : ¬ (x.ix = ix ∧ x.sec = sec)) : NoKey (l.take (i + 1)) ix sec := by
  intro y hy
  rw [List.take_add_one, hx] at hy
  rcases List.mem_append.1 hy with hy | hy
  · exact h y hy
  · simp at hy
    rw [hy]; exact hn
attribute [local go_sem ↓] Go.wp_at_zero Go.wp_at_succ
attribute [local go_sem ↓] load_key load_item store_item
attribute [local go_sem] ptrB_eq ptrO_eq ptrIs_eq aggL_eq aggIs_eq readK_drew hasK_drew readK_alloc_past hasK_alloc_past readK_alloc_in hasK_alloc_in setCells_drew setCells_alloc_past setCells_alloc_at
set_option maxRecDepth 100000 in
set_option maxHeartbeats 1000000 in
theorem find_calls (w : World) (tb : Nat) (v : Value) (l : List Les) (ix sec : Key) (h : LTab w tb v l) (hl : l.length ≤ 100000) (hix : ix.length = 16) (hsec : sec.length = 16) :
    Calls Tryz.prog 84 #[.pointer (some ⟨tb, 0, none⟩), .agg (bV ix).toArray, .agg (bV sec).toArray] w fun e w' => ∃ r, e = .returned (.int .i64 r) ∧ FindR l ix sec r ∧ Below w.heap.size w w' := by
  have hcell : w.cell? ⟨tb, 0, none⟩ = some v := by simpa using h.cell.cell 0
  have htb := h.cell.lt
  have htb1 : tb < w.heap.size + 1 := by omega
  obtain ⟨a0, c0, hv, hg⟩ := own_eq_slice h.own
  obtain ⟨n, hn⟩ : ∃ n, n = l.length := ⟨_, rfl⟩
  rw [← hn] at hl
  have H := Lib.hid (And.intro h (And.intro hn (And.intro hv hg)))
  rw [hv, ← hn] at hcell
  clear h hn hv hg
  go_enter Tryz.func84, Tryz.ntmps84
  go_upto_region 2 with fail
  have hB0 : Below w.heap.size w ((w.alloc (.cells (bV ix).toArray 44)).alloc (.cells (bV sec).toArray 44)) := ((Below.refl _ _).alloc (Nat.le_refl _) _).alloc (by simp) _
  have hk1 : Blk ((w.alloc (.cells (bV ix).toArray 44)).alloc (.cells (bV sec).toArray 44)) w.heap.size (bV ix).toArray 44 := (Blk.new _ _ _).alloc _
  have hk2 : Blk ((w.alloc (.cells (bV ix).toArray 44)).alloc (.cells (bV sec).toArray 44)) (w.heap.size + 1) (bV sec).toArray 44 := Blk.new_at _ _ _ _ (by simp)
  obtain ⟨w0, hw0⟩ : ∃ x, x = (w.alloc (.cells (bV ix).toArray 44)).alloc (.cells (bV sec).toArray 44) := ⟨_, rfl⟩
  rw [← hw0] at hB0 hk1 hk2 ⊢
  clear hw0
  obtain ⟨p4, hp4⟩ : ∃ p, p = w.heap.size := ⟨_, rfl⟩
  obtain ⟨p5, hp5⟩ : ∃ p, p = w.heap.size + 1 := ⟨_, rfl⟩
  rw [← hp5] at hk2 ⊢
  rw [← hp4] at hk1 ⊢
  have HB0 := Lib.hid hB0
  clear hp4 hp5 hB0
  go_loopw [14] (fun vi wr => ∃ i : Nat, i ≤ n ∧ vi = .int .i64 i ∧ Hid (NoKey (l.take i) ix sec ∧ Blk wr p4 (bV ix).toArray 44 ∧ Blk wr p5 (bV sec).toArray 44 ∧ Below w.heap.size w wr)) (fun vi _ => n - (intOf vi).toNat)
  case atStart => exact ⟨0, Nat.zero_le _, rfl, fun x hx => by simp at hx, hk1, hk2, HB0.out⟩
  case round =>
    obtain ⟨i, hi0, rfl, G⟩ := hrel
    by_cases hin : i < n
    · obtain ⟨g, rfl⟩ := H.out.2.2.2 (by have := H.out.2.1; omega)
      have hrow := (H.out.1.row H.out.2.1.symm (by rw [H.out.2.1]; exact H.out.2.2.1)).below G.out.2.2.2
      have hx : l[i]? = some (l[i]'(by have := H.out.2.1; omega)) := by simp
      generalize l[i]'(by have := H.out.2.1; omega) = x at hx
      have hwx := hrow.wf x (List.mem_of_getElem? hx)
      have rx : readK 33 wr g (i * 33) = cellsI x := readK_eq (hrow.range hx) (cellsI_len hwx)
      have t1 : HasK 33 wr g (i * 33) := hrow.there hin
      have ax := allI_cells hwx
      have lx := cellsI_len hwx
      have k1 := (itemKey hwx).1
      have k2 := (itemKey hwx).2
      have gl : g < wr.heap.size := hrow.lt
      have r4 : readK 16 wr p4 0 = bV ix := blk_read0 G.out.2.1 (by rw [bV_len, hix])
      have r5 : readK 16 wr p5 0 = bV sec := blk_read0 G.out.2.2.1 (by rw [bV_len, hsec])
      have h4 : HasK 16 wr p4 0 := blk_has G.out.2.1 (by simp [bV_len, hix])
      have h5 : HasK 16 wr p5 0 := blk_has G.out.2.2.1 (by simp [bV_len, hsec])
      have l4 := G.out.2.1.lt
      have l5 := G.out.2.2.1.lt
      have e1 := eq_key x.ix ix hwx.1 hix
      have e2 := eq_key x.sec sec hwx.2 hsec
      have i0 : (0 : Int) ≤ (i : Int) := by omega
      have i1 : (i : Int) < (n : Int) := by omega
      have HX := Lib.hid hx
      obtain ⟨cx, hcx⟩ : ∃ c, c = cellsI x := ⟨_, rfl⟩
      rw [← hcx] at rx ax lx k1 k2
      clear hrow hx hcx
      have hend : Below w.heap.size w (wr.alloc (.cells cx.toArray 191)) := G.out.2.2.2.alloc (G.out.2.2.2.size) _
      have HE := Lib.hid hend
      have hmore : ¬ (x.ix = ix ∧ x.sec = sec) → NoKey (l.take (i + 1)) ix sec := fun hn => noKey_succ G.out.1 HX.out hn
      clear hend
      by_cases c1 : x.ix = ix
      · have d1 : decide (x.ix = ix) = true := by simpa using c1
        replace c1 := Lib.hid c1
        by_cases c2 : x.sec = sec
        · have d2 : decide (x.sec = sec) = true := by simpa using c2
          replace c2 := Lib.hid c2
          go_wp2_with fail
          go_ret
          exact ⟨i, rfl, .inr ⟨i, x, rfl, HX.out, c1.out, c2.out⟩, HE.out⟩
        · have d2 : decide (x.sec = sec) = false := by simpa using c2
          have hm := Lib.hid (hmore fun h => c2 h.2)
          clear c2 hmore
          go_wp2_with fail
          exact ⟨⟨i + 1, by omega, by simp, hm.out, G.out.2.1.alloc _, G.out.2.2.1.alloc _, HE.out⟩, by show n - ((i : Int) + 1).toNat < n - (i : Int).toNat; omega⟩
      · have d1 : decide (x.ix = ix) = false := by simpa using c1
        have hm := Lib.hid (hmore fun h => c1 h.1)
        clear c1 hmore
        go_wp2_with fail
        exact ⟨⟨i + 1, by omega, by simp, hm.out, G.out.2.1.alloc _, G.out.2.2.1.alloc _, HE.out⟩, by show n - ((i : Int) + 1).toNat < n - (i : Int).toNat; omega⟩
    · go_wp2_with fail
      go_ret
      refine ⟨-1, rfl, .inl ⟨rfl, ?_⟩, G.out.2.2.2⟩
      have := G.out.1
      rwa [List.take_of_length_le (by have := H.out.2.1; omega)] at this
end Go.Proofs.YtclhgokchcklbaaGreatDoor
end
section
namespace Go.Proofs.YtclhgokchcklbaaGreatDoor
open Go Go.RowKit Go.Mem Gf Lea
attribute [local go_sem ↓] Go.wp_at_zero Go.wp_at_succ
attribute [local go_sem ↓] load_lease store_lease
attribute [local go_sem] ptrB_eq ptrO_eq ptrIs_eq aggL_eq aggIs_eq readK_drew hasK_drew readK_alloc_past hasK_alloc_past hasK_alloc_at setCells_drew setCells_alloc_past setCells_alloc_at
theorem below_drewN {B : Nat} {w w' : World} (h : Below B w w') (n : Nat) : Below B w (w'.drewN n) := ⟨h.os, h.tape, h.output, h.size, h.block⟩
set_option maxRecDepth 100000 in
set_option maxHeartbeats 1000000 in
theorem ofless_calls (w : World) (bx base g n cap : Nat) (l : List Sec) (h : RowG encL WfL 17 153 w base g n cap l) (hb : Blk w bx #[.slice (some ⟨g, 0, none⟩) n cap] 149) (i j : Nat) (x y : Sec) (hx : l[i]? = some x) (hy : l[j]? = some y) :
    Calls Tryz.prog 140 #[.int .i64 i, .int .i64 j, .pointer (some ⟨bx, 0, none⟩)] w fun e w' => e = .returned (.bool (ltL x y)) ∧ Below w.heap.size w w' := by
  have hi : i < n := by rw [h.len]; exact some_lt hx
  have hj : j < n := by rw [h.len]; exact some_lt hy
  have i0 : (0 : Int) ≤ (i : Int) := by omega
  have i1 : (i : Int) < (n : Int) := by omega
  have j0 : (0 : Int) ≤ (j : Int) := by omega
  have j1 : (j : Int) < (n : Int) := by omega
  have c0 : w.cell? ⟨bx, 0, none⟩ = some (.slice (some ⟨g, 0, none⟩) n cap) := by simpa using hb.cell 0
  have hwx := h.wf x (List.mem_of_getElem? hx)
  have hwy := h.wf y (List.mem_of_getElem? hy)
  go_enter Tryz.func140, Tryz.ntmps140
  have rx := h.read ecL hx
  have ry := h.read ecL hy
  have t1 : HasK 17 w g (i * 17) := h.there hi
  have t1' : HasK 17 w g (j * 17) := h.there hj
  have ax := allL hwx
  have ay := allL hwy
  have lx := ecL.len x hwx
  have ly := ecL.len y hwy
  have hgl : g < w.heap.size := by
    obtain ⟨cur, hh, _⟩ := h.block
    exact lt_of_block hh
  have hbl := hb.lt
  have hgl1 : g < w.heap.size + 1 := by omega
  go_upto_region 1 with fail
  go_cut [6, 7] (fun a b wx => ∃ p q, p ≠ q ∧ a = .pointer (some ⟨p, 0, none⟩) ∧ b = .pointer (some ⟨q, 0, none⟩) ∧ Blk wx p (encL x).toArray 153 ∧ Blk wx q (encL y).toArray 153 ∧ Below w.heap.size w wx)
  case first =>
    go_region
    all_goals go_wp2_with fail
    all_goals go_meet
    · exact ⟨_, _, by omega, rfl, rfl, (Blk.new _ _ _).alloc _, Blk.new_at _ _ _ _ (by simp), (((Below.refl _ _).alloc (Nat.le_refl _) _).alloc (by simp) _).drew⟩
    · exact ⟨_, _, by omega, rfl, rfl, Blk.new_at _ _ _ _ (by simp), (Blk.new _ _ _).alloc _, (((Below.refl _ _).alloc (Nat.le_refl _) _).alloc (by simp) _).drew⟩
  case rest =>
    obtain ⟨p, q, hpq, rfl, rfl, hp, hq, hB⟩ := hcut
    have cp : wc.cell? ⟨p, 16, none⟩ = some (.int .i64 x.2) := by rw [hp.cell]; simpa using encL_end hwx
    have cq : wc.cell? ⟨q, 16, none⟩ = some (.int .i64 y.2) := by rw [hq.cell]; simpa using encL_end hwy
    have bp : Bys wc (.slice (some ⟨p, 0, none⟩) 16 16) x.1 := by
      have := Blk.bys hp (bs := x.1) (cap := 16) (by rw [hwx]; omega) (by decide) (fun k u hu => by simpa using encL_sec hu)
      rwa [hwx] at this
    have bq : Bys wc (.slice (some ⟨q, 0, none⟩) 16 16) y.1 := by
      have := Blk.bys hq (bs := y.1) (cap := 16) (by rw [hwy]; omega) (by decide) (fun k u hu => by simpa using encL_sec hu)
      rwa [hwy] at this
    have HL := Lib.hid (And.intro hB (And.intro bp bq))
    clear hB bp bq hp hq h hb hx hy rx ry t1 t1' ax ay lx ly
    go_upto_region 2 with fail
    by_cases c1 : x.2 < y.2
    · have d1 : decide (x.2 < y.2) = true := by simpa using c1
      have hr : ltL x y = true := by unfold ltL; simp [c1]
      go_quiet (fail)
      go_wp2
      go_ret
      exact ⟨by first | rfl | (rw [hr]; rfl), below_drewN HL.out.1 _⟩
    · have d1 : decide (x.2 < y.2) = false := by simpa using c1
      by_cases c2 : x.2 = y.2
      · have hr : ltL x y = decide (Go.Lib.compareBytes x.1 y.1 < 0) := by unfold ltL; simp [c2]
        have d2 : decide (x.2 = y.2) = true := by simpa using c2
        have d3 : (x.2 == y.2) = true := by simpa using c2
        go_quiet (exact Calls.quiet_of_same (bcomp_calls _ _ x.1 y.1 _ (HL.out.2.1.drewN _) (HL.out.2.2.drewN _)))
        go_wp2
        go_ret
        exact ⟨by first | rfl | (rw [hr]; rfl), below_drewN HL.out.1 _⟩
      · have hr : ltL x y = false := by unfold ltL; simp [c1, c2]
        have d2 : decide (x.2 = y.2) = false := by simpa using c2
        have d3 : (x.2 == y.2) = false := by simpa using c2
        go_quiet (fail)
        go_wp2
        go_ret
        exact ⟨by first | rfl | (rw [hr]; rfl), below_drewN HL.out.1 _⟩
end Go.Proofs.YtclhgokchcklbaaGreatDoor
end
section
namespace Go.Proofs.YtclhgokchcklbaaGreatDoor
open Go Go.RowKit Go.Mem Gf Lea Go.Lib Go.Shelf
noncomputable def lsT : TypeInfo := (Tryz.prog.info? 149).get (by kernel_rfl)
noncomputable def lsE : TypeInfo := (Tryz.prog.info? 153).get (by kernel_rfl)
theorem lsK9 (n : Nat) (h2 : 2 ≤ n) : Lib.swapperK n lsE 25 = 9 := by
  have a : lsE.hasPointers = false := by kernel_rfl
  have b : lsE.bytes = 24 := by kernel_rfl
  have c : (n == 0) = false := by simp; omega
  have d : (n == 1) = false := by simp; omega
  simp [Lib.swapperK, a, b, c, d]
theorem sorter_one {α : Type} (lt : α → α → Bool) (ho : Srt.Ord lt) (g sf : Nat) (lb sb : Array Value) (eg : ∀ args w, (callFunc g args).run Tryz.prog w = .ok (.enter g args) w) :
    Sorter (fun _ l => l.length ≤ 1) (fun _ => False) lt g sf lb sb :=
  ⟨fun _ _ _ _ h => h.elim, fun _ _ _ h => h, fun W l i j x y hij h hi hj => by have := some_lt hi; omega, fun W l i j x y hij h hi hj => by have := some_lt hi; omega, eg, ho⟩
theorem upto_pairwise {α : Type} {lt : α → α → Bool} {l : List α} {n : Nat} (h : Srt.Upto lt l n) (hn : l.length ≤ n) : l.Pairwise fun a b => lt b a = false := by
  rw [List.pairwise_iff_getElem]
  intro i j hi hj hij
  exact h i j _ _ hij (by omega) (by simp) (by simp)
theorem ofless_enters : ∀ args w, (callFunc 140 args).run Tryz.prog w = .ok (.enter 140 args) w := enters_of Tryz.func140 (by kernel_rfl) rfl
theorem sorter_of (bx base g n cap : Nat) (hne : bx ≠ g) (sf : Nat) (gS : Bool) (hx : ∀ args W, (callFunc sf args).run Tryz.prog W = ((Extern.ReflectliteSwapper.swap gS args).run Tryz.prog W).andThen fun v w' => .ok (.value v) w') :
    Sorter (fun W l => RowG encL WfL 17 153 W base g n cap l ∧ Blk W bx #[.slice (some ⟨g, 0, none⟩) n cap] 149) (fun k => k = g) ltL 140 sf #[.pointer (some ⟨bx, 0, none⟩)] #[.slice (some ⟨g, 0, none⟩) n cap, typeHandle Tryz.prog 153] := by
  refine ⟨fun W l h k hk => ?_, fun W l o h => ?_, fun W l i j x y _ h hi hj => ?_, fun W l i j x y hij h hi hj => ?_, ofless_enters, ordL⟩
  · obtain ⟨cur, hh, _⟩ := h.1.block
    rw [hk]; exact lt_of_block hh
  · exact ⟨h.1.chg (S := fun _ => False) (Chg.of_below ((Below.refl _ _).alloc (Nat.le_refl _) o)) (fun h => h), h.2.alloc o⟩
  · refine (ofless_calls W bx base g n cap l h.1 h.2 i j x y hi hj).mono ?_
    rintro e W' ⟨rfl, hB⟩
    have hc : Chg (fun k => k = g) W W' := Chg.of_below hB
    exact ⟨rfl, ⟨h.1.chg (S := fun _ => False) (Chg.of_below hB) (fun h => h), hc.blk h.2 hne⟩, hc⟩
  · have hi' : i < n := by rw [h.1.len]; exact some_lt hi
    have hj' : j < n := by rw [h.1.len]; exact some_lt hj
    have wx := h.1.wf x (List.mem_of_getElem? hi)
    have wy := h.1.wf y (List.mem_of_getElem? hj)
    have hs : lsE.size = 17 := by kernel_rfl
    have h1 := h.1.set ecL hi' wy
    have h2 := h1.set ecL hj' wx
    have hsw := run_swap_cells (P := Tryz.prog) gS 153 lsE (by kernel_rfl) (fun _ => by kernel_rfl) g 0 n cap i j hi' hj' (encL x) (encL y) (by rw [hs]; exact ecL.len x wx) (by rw [hs]; exact ecL.len y wy) (ecL.one x) (ecL.one y) W
      (fun k v hv => by rw [hs, Nat.zero_add]; exact h.1.range ecL hi k v hv) (fun k v hv => by rw [hs, Nat.zero_add]; exact h.1.range ecL hj k v hv)
      (fun k hk => by rw [hs] at hk ⊢; rw [Nat.zero_add]; exact (h.1.there hi' k hk).2) (fun k hk => by rw [hs] at hk ⊢; rw [Nat.zero_add]; exact (h.1.there hj' k hk).2)
    rw [hs, Nat.zero_add, Nat.zero_add] at hsw
    have hc : Chg (fun k => k = g) W ((W.setCells g (i * 17) (encL y)).setCells g (j * 17) (encL x)) := Chg.setCells (S := fun b => b = g) (L := g) rfl _ _ _ (Chg.setCells (S := fun b => b = g) (L := g) rfl _ _ _ (Chg.refl _ _))
    refine ⟨_, ?_, ⟨?_, hc.blk h.2 hne⟩, hc⟩
    · rw [hx]
      show ((Extern.ReflectliteSwapper.swap gS #[.int .i64 i, .int .i64 j, .slice (some ⟨g, 0, none⟩) n cap, typeHandle Tryz.prog 153]).run Tryz.prog W).andThen _ = _
      rw [hsw]
      rfl
    · unfold Srt.swap
      rw [hi, hj]
      exact h2
theorem lsort_small (w : World) (p : Option Addr) (n c : Nat) (hn : n ≤ 1) (bx : Nat) :
    Calls Tryz.prog 139 #[.iface 149 (.slice p n c), .func (.func 140) #[] #[.pointer (some ⟨bx, 0, none⟩)]] w fun e w' => e = .returned (.tuple #[]) ∧ Chg (fun _ => False) w w' := by
  obtain ⟨l, hl⟩ : ∃ l : List Sec, l.length = n := ⟨List.replicate n ([], 0), by simp⟩
  obtain ⟨f, hf⟩ : ∃ f, Tryz.prog.funcs.findIdx? (·.name == "internal/reflectlite" ++ ".Swapper$" ++ toString (swapperK n lsE 25)) = some f := by
    rcases (by omega : n = 0 ∨ n = 1) with rfl | rfl
    · exact ⟨202, by kernel_rfl⟩
    · exact ⟨203, by kernel_rfl⟩
  have hb : sliceBound Tryz.prog 153 lsE 25 p n c = #[] := by
    unfold sliceBound swapperK
    rcases (by omega : n = 0 ∨ n = 1) with rfl | rfl <;> simp
  have hw : Chg (fun _ => False) w (sliceWorld Tryz.prog Tryz.laysGg6_ren 149 p n c w) := Chg.of_below (((Below.refl _ _).alloc (Nat.le_refl _) _).alloc (by simp) _)
  refine Any.sort_Slice_of_pdq Tryz.laysGg6 149 153 lsT lsE (by kernel_rfl) (by kernel_rfl) (by kernel_rfl) (by kernel_rfl) 25 (fun _ => by kernel_rfl) p n c (by omega) f hf _ _ _ w _ ?_
  rw [hb]
  refine (pdq_calls (sorter_one ltL ordL 140 f #[.pointer (some ⟨bx, 0, none⟩)] #[] ofless_enters) l n _ hl (by omega) _ (by omega)).mono ?_
  rintro e w' ⟨rfl, _, _, _, _, hc⟩
  exact ⟨rfl, hw.trans hc⟩
theorem lsort_calls (w : World) (bx base g n cap : Nat) (l : List Sec) (h : RowG encL WfL 17 153 w base g n cap l) (hb : Blk w bx #[.slice (some ⟨g, 0, none⟩) n cap] 149) (hne : bx ≠ g) (h2 : 2 ≤ n) (hn : n ≤ 12) :
    Calls Tryz.prog 139 #[.iface 149 (.slice (some ⟨g, 0, none⟩) n cap), .func (.func 140) #[] #[.pointer (some ⟨bx, 0, none⟩)]] w fun e w' =>
      e = .returned (.tuple #[]) ∧ ∃ l', RowG encL WfL 17 153 w' base g n cap l' ∧ l'.Perm l ∧ (l'.Pairwise fun a b => ltL b a = false) ∧ Chg (fun k => k = g) w w' := by
  have hf : Tryz.prog.funcs.findIdx? (·.name == "internal/reflectlite" ++ ".Swapper$" ++ toString (swapperK n lsE 25)) = some 210 := by
    rw [lsK9 n h2]; kernel_rfl
  have hsb : sliceBound Tryz.prog 153 lsE 25 (some ⟨g, 0, none⟩) n cap = #[.slice (some ⟨g, 0, none⟩) n cap, typeHandle Tryz.prog 153] := by
    unfold sliceBound
    rw [lsK9 n h2]
    rfl
  have hB : Below w.heap.size w (sliceWorld Tryz.prog Tryz.laysGg6_ren 149 (some ⟨g, 0, none⟩) n cap w) := ((Below.refl _ _).alloc (Nat.le_refl _) _).alloc (by simp) _
  have hw : Chg (fun k => k = g) w (sliceWorld Tryz.prog Tryz.laysGg6_ren 149 (some ⟨g, 0, none⟩) n cap w) := Chg.of_below hB
  have S := sorter_of bx base g n cap hne 210 false (fun args W => run_callFunc_extern Tryz.func210 (by kernel_rfl) (by kernel_rfl) (by kernel_rfl) (e := Extern.ReflectliteSwapper.swap false) (by kernel_rfl) args W)
  refine Any.sort_Slice_of_pdq Tryz.laysGg6 149 153 lsT lsE (by kernel_rfl) (by kernel_rfl) (by kernel_rfl) (by kernel_rfl) 25 (fun _ => by kernel_rfl) _ n cap (by omega) _ hf _ _ _ w _ ?_
  rw [hsb]
  refine (pdq_calls S l n _ h.len.symm hn _ ⟨h.chg (S := fun _ => False) (Chg.of_below hB) (fun h => h), hw.blk hb hne⟩).mono ?_
  rintro e w' ⟨rfl, l', h1, hp, hu, hc⟩
  exact ⟨rfl, l', h1.1, hp, upto_pairwise hu (by rw [hp.length_eq, ← h.len]; exact Nat.le_refl _), hw.trans hc⟩
end Go.Proofs.YtclhgokchcklbaaGreatDoor
end
section
namespace Go.Mem
open Go Go.RowKit Gf
section
variable {P : Program} {w : World} {ops : Array Oper} {rest : List Oper} {o : Oper} {a : Act} {Q : Exit → Act → World → Prop} {K : Act → World → Prop} {E0 : Prop}
theorem wpAppN {t e : TypeId} {z : Value} {size bytes : Nat} (E : ElemK P t e z size bytes) (s x : Operand) (ho : o.op = .call { callee := .builtin .append, args := #[s, x], argTypes := #[t, t] })
    {base : Nat} {v : Value} {n m cx : Nat} {xs : List Value} (news : List Value) (hs : a.eval s = v) {mb : Nat} (hx : a.eval x = .slice (some ⟨mb, 0, none⟩) m cx) (hl : news.length = m * size) (hnews : ∀ j u, news[j]? = some u → w.cell? ⟨mb, j, none⟩ = some u) (h1 : ∀ u ∈ news, u.oneCell' = true)
    (hown : w.ownsRow base e size v n xs) (hn : n + m ≤ 4294967296) (hby : bytes ≤ 4096) (hbase : base ≤ w.heap.size)
    (h : ∀ v' w', w'.ownsRow base e size v' (n + m) (xs ++ news) ∧ w.grownBy w' v.ownBlock ∧ (∀ k, v'.ownBlock = some k → v.ownBlock = some k ∨ w.heap.size ≤ k) → K (a.put o.dst v') w') : o.wp P a w K Q := by
  obtain ⟨i, hi, hz, hsz, hb⟩ := info_parts E.info
  have hm : (n + m) * bytes ≤ 4294967296 * 4096 := Nat.mul_le_mul hn hby
  obtain ⟨v', w', hr, h2, h3, h4⟩ := run_append_own_new (P := P) w base t o.type e i z size bytes E.under hi hz hsz hb E.zsize E.pos v n xs hown ⟨mb, 0, none⟩ m cx news (by omega)
    (fun j y hj => by
      rw [show (⟨mb, 0, none⟩ : Addr).add j = ⟨mb, j, none⟩ from by unfold Addr.add; split <;> simp_all]
      exact hnews j y hj)
    h1 (by unfold maxLen; omega) (by omega) hbase
  unfold Oper.wp execOp
  simp only [ho, resolve, invoke, builtin, Sem.run_bind, Sem.run_pure, Result.andThen_ok, List.map_toArray, List.map_cons, List.map_nil, hs, hx, hr]
  exact h v' w' ⟨h2, h3, h4⟩
theorem appG_own {α : Type} {enc : α → List Value} {Wf : α → Prop} {t e : TypeId} {z : Value} {size bytes : Nat} (E : ElemK P t e z size bytes) (EC : EncK enc Wf size) (hgd : o.guard = none) (s x : Operand) (ho : o.op = .call { callee := .builtin .append, args := #[s, x], argTypes := #[t, t] })
    {base : Nat} {v : Value} {l : List α} (y : α) (hy : Wf y) (hs : a.eval s = v) {mb cx : Nat} (hx : a.eval x = .slice (some ⟨mb, 0, none⟩) 1 cx) {e' : TypeId} (hnews : Blk w mb (enc y).toArray e')
    (hown : OwnG enc Wf size e w base v l) (hn : l.length + 1 ≤ 4294967296) (hby : bytes ≤ 4096) (hbase : base ≤ w.heap.size)
    (h : ∀ v' w', OwnG enc Wf size e w' base v' (l ++ [y]) → w.grownBy w' v.ownBlock → (∀ k, v'.ownBlock = some k → v.ownBlock = some k ∨ w.heap.size ≤ k) → wpList P ops Q rest (a.put o.dst v') w') : wpList P ops Q (o :: rest) a w :=
  to_list hgd (fun _ hK => wpAppN E s x ho (enc y) hs hx (by rw [EC.len y hy, Nat.one_mul]) (fun j u hj => by rw [hnews.cell]; simpa using hj) (EC.one y) hown.own hn hby hbase hK) fun v' w' h2 => h v' w'
    ⟨by rw [List.length_append, List.length_singleton, allV_app, allV_one]; exact h2.1, fun q hq => by
      rcases List.mem_append.1 hq with hq | hq
      · exact hown.wf q hq
      · rw [List.mem_singleton.1 hq]; exact hy⟩ h2.2.1 h2.2.2
end
theorem Chg.trans_below {S : Nat → Prop} {w w' w'' : World} (h : Chg S w w') (h' : Below w'.heap.size w' w'') : Chg S w w'' := h.trans (Chg.of_below h')
theorem OwnG.ge {α : Type} {enc : α → List Value} {Wf : α → Prop} {k : Nat} {ti : TypeId} {w : World} {base : Nat} {v : Value} {l : List α} (h : OwnG enc Wf k ti w base v l) {g : Nat} (e : v.ownBlock = some g) : base ≤ g := by
  rcases h.own.2 with ⟨e1, _⟩ | ⟨g', cap, cur, e1, h1, _⟩
  · rw [e1] at e; cases e
  · rw [e1] at e; cases e; exact h1
end Go.Mem
end
section
namespace Go.Proofs.YtclhgokchcklbaaGreatDoor
open Go Go.RowKit Go.Mem Gf Lea
theorem EKl : ElemK Tryz.prog 149 153 (.agg ((List.replicate 16 (Value.int .u8 0)) ++ [Value.int .i64 0]).toArray) 17 24 := ⟨Tryz.underlying149, by kernel_rfl, rfl, by decide⟩
theorem slice_lease (dst : Option Tmp) (x : Operand) (ty : TypeId) (pos : String) (af : Array Edge) (a : Act) (w : World) (K : Act → World → Prop) (Q : Exit → Act → World → Prop) (hy : aggIs (a.eval x) = true) (hc : AllK 17 (aggL (a.eval x))) :
    Oper.wp Tryz.prog ⟨dst, .buildSlice 149 1 #[(0, x)], ty, pos, af, none⟩ a w K Q = K (a.put dst (.slice (some ⟨w.heap.size, 0, none⟩) 1 1)) (w.alloc (.cells (aggL (a.eval x)).toArray 153)) :=
  wp_sliceK Tryz.underlying149 (by kernel_rfl) (by decide) (by decide) dst x ty pos af a w K Q hy hc
theorem itemLease {x : Les} (h : Wf x) : cutC (cellsI x).toArray 16 17 = encL (x.sec, x.e) := by
  have h1 : (bV x.ix).length = 16 := by rw [bV_len]; exact h.1
  have h2 : (bV x.sec).length = 16 := by rw [bV_len]; exact h.2
  unfold cutC cellsI encL
  rw [List.toList_toArray, List.append_assoc, List.drop_append_of_le_length (by omega), List.drop_of_length_le (by omega), List.nil_append, List.take_of_length_le (by simp; omega)]
theorem ofL_succ {l : List Les} {i : Nat} {x : Les} (hx : l[i]? = some x) (ix : Key) : ofL (l.take (i + 1)) ix = ofL (l.take i) ix ++ if x.ix = ix then [(x.sec, x.e)] else [] := by
  rw [List.take_add_one, hx, Option.toList_some, ofL_app]
  congr 1
  unfold ofL
  by_cases c : x.ix = ix <;> simp [c]
attribute [local go_sem ↓] Go.wp_at_zero Go.wp_at_succ
attribute [local go_sem ↓] load_key load_item store_item load_lease slice_lease
attribute [local go_sem] ptrB_eq ptrO_eq ptrIs_eq aggL_eq aggIs_eq readK_drew hasK_drew readK_alloc_past hasK_alloc_past readK_alloc_in hasK_alloc_in setCells_drew setCells_alloc_past setCells_alloc_at
set_option maxRecDepth 100000 in
set_option maxHeartbeats 1000000 in
theorem of_calls (w : World) (tb : Nat) (v : Value) (l : List Les) (ix : Key) (h : LTab w tb v l) (hl : l.length ≤ 100000) (hix : ix.length = 16) (h8 : (ofL l ix).length ≤ 12) :
    Calls Tryz.prog 88 #[.pointer (some ⟨tb, 0, none⟩), .agg (bV ix).toArray] w fun e w' => ∃ vo out, e = .returned vo ∧ OwnG encL WfL 17 153 w' w.heap.size vo out ∧ OfR l ix out ∧ Below w.heap.size w w' := by
  have hcell : w.cell? ⟨tb, 0, none⟩ = some v := by simpa using h.cell.cell 0
  have htb := h.cell.lt
  have htb1 : tb < w.heap.size + 1 := by omega
  obtain ⟨a0, c0, hv, hg⟩ := own_eq_slice h.own
  obtain ⟨n, hn⟩ : ∃ n, n = l.length := ⟨_, rfl⟩
  rw [← hn] at hl
  have H := Lib.hid (And.intro h (And.intro hn (And.intro hv hg)))
  rw [hv, ← hn] at hcell
  have H8 := Lib.hid h8
  clear h hn hv hg h8
  go_enter Tryz.func88, Tryz.ntmps88
  go_upto_region 3 with fail
  have hB0 : Below w.heap.size w ((w.alloc (.cells (bV ix).toArray 44)).alloc (.cells #[.slice none 0 0] 149)) := ((Below.refl _ _).alloc (Nat.le_refl _) _).alloc (by simp) _
  have hk1 : Blk ((w.alloc (.cells (bV ix).toArray 44)).alloc (.cells #[.slice none 0 0] 149)) w.heap.size (bV ix).toArray 44 := (Blk.new _ _ _).alloc _
  have hk2 : Blk ((w.alloc (.cells (bV ix).toArray 44)).alloc (.cells #[.slice none 0 0] 149)) (w.heap.size + 1) #[.slice none 0 0] 149 := Blk.new_at _ _ _ _ (by simp)
  obtain ⟨w0, hw0⟩ : ∃ x, x = (w.alloc (.cells (bV ix).toArray 44)).alloc (.cells #[.slice none 0 0] 149) := ⟨_, rfl⟩
  have hsz : w0.heap.size = w.heap.size + 2 := by rw [hw0]; simp
  rw [← hw0] at hB0 hk1 hk2 ⊢
  clear hw0
  obtain ⟨p3, hp3⟩ : ∃ p, p = w.heap.size := ⟨_, rfl⟩
  obtain ⟨p5, hp5⟩ : ∃ p, p = w.heap.size + 1 := ⟨_, rfl⟩
  rw [← hp5] at hk2 ⊢
  rw [← hp3] at hk1 ⊢
  have HP := Lib.hid (And.intro hp3 (And.intro hp5 (And.intro hsz hB0)))
  clear hp3 hp5 hsz hB0
  go_loopw [13] (fun vi wr => ∃ (i : Nat) (a5 : Option Addr) (n5 c5 : Nat), i ≤ n ∧ vi = .int .i64 i ∧ Hid (OwnG encL WfL 17 153 wr (p5 + 1) (.slice a5 n5 c5) (ofL (l.take i) ix) ∧ Blk wr p3 (bV ix).toArray 44 ∧ Blk wr p5 #[.slice a5 n5 c5] 149 ∧ Chg (fun k => w.heap.size ≤ k) w wr)) (fun vi _ => n - (intOf vi).toNat)
  case atStart => exact ⟨0, none, 0, 0, Nat.zero_le _, rfl, OwnG.nil _ _ _ _ _ _, hk1, hk2, Chg.of_below HP.out.2.2.2⟩
  case round =>
    obtain ⟨i, a5, n5, c5, hi0, rfl, G⟩ := hrel
    have l5 := G.out.2.2.1.lt
    have q5 : wr.cell? ⟨p5, 0, none⟩ = some (.slice a5 n5 c5) := by simpa using G.out.2.2.1.cell 0
    by_cases hin : i < n
    · obtain ⟨g, rfl⟩ := H.out.2.2.2 (by have := H.out.2.1; omega)
      have hrow := (H.out.1.row H.out.2.1.symm (by rw [H.out.2.1]; exact H.out.2.2.1)).below (G.out.2.2.2.below (Nat.le_refl _) (fun _ h => h))
      have hx : l[i]? = some (l[i]'(by have := H.out.2.1; omega)) := by simp
      generalize l[i]'(by have := H.out.2.1; omega) = x at hx
      have hwx := hrow.wf x (List.mem_of_getElem? hx)
      have rx : readK 33 wr g (i * 33) = cellsI x := readK_eq (hrow.range hx) (cellsI_len hwx)
      have t1 : HasK 33 wr g (i * 33) := hrow.there hin
      have ax := allI_cells hwx
      have lx := cellsI_len hwx
      have k1 := (itemKey hwx).1
      have k2 := itemLease hwx
      have gl : g < wr.heap.size := hrow.lt
      have r3 : readK 16 wr p3 0 = bV ix := blk_read0 G.out.2.1 (by rw [bV_len, hix])
      have h3 : HasK 16 wr p3 0 := blk_has G.out.2.1 (by simp [bV_len, hix])
      have l3 := G.out.2.1.lt
      have e1 := eq_key x.ix ix hwx.1 hix
      have i0 : (0 : Int) ≤ (i : Int) := by omega
      have i1 : (i : Int) < (n : Int) := by omega
      have hs := ofL_succ hx ix
      have HX := Lib.hid (And.intro hx hs)
      have wl : WfL (x.sec, x.e) := hwx.2
      have al := allL wl
      obtain ⟨cx, hcx⟩ : ∃ c, c = cellsI x := ⟨_, rfl⟩
      rw [← hcx] at rx ax lx k1 k2
      obtain ⟨y, hy⟩ : ∃ y, y = (x.sec, x.e) := ⟨_, rfl⟩
      have HY := Lib.hid hy
      rw [← hy] at k2 wl al
      obtain ⟨cy, hcy⟩ : ∃ c, c = encL y := ⟨_, rfl⟩
      have HC := Lib.hid hcy
      rw [← hcy] at k2 al
      have hend : Chg (fun k => w.heap.size ≤ k) w (wr.alloc (.cells cx.toArray 191)) := G.out.2.2.2.trans_below ((Below.refl _ _).alloc (Nat.le_refl _) _)
      have HE := Lib.hid hend
      have hown : OwnG encL WfL 17 153 (wr.alloc (.cells cx.toArray 191)) (p5 + 1) (.slice a5 n5 c5) (ofL (l.take i) ix) := G.out.1.chg (S := fun _ => False) (Chg.of_below ((Below.refl _ _).alloc (Nat.le_refl _) _)) (fun _ _ h => h)
      have HO := Lib.hid hown
      clear hrow hx hcx hs hend hown hy hcy
      by_cases c1 : x.ix = ix
      · have d1 : decide (x.ix = ix) = true := by simpa using c1
        have hs := HX.out.2
        rw [if_pos c1] at hs
        have HS := Lib.hid hs
        replace c1 := Lib.hid c1
        clear hs
        have hle : (ofL (l.take i) ix).length + 1 ≤ 4294967296 := by
          have h1 : (ofL (l.take i) ix).length ≤ (l.take i).length := by unfold ofL; rw [List.length_map]; exact List.length_filter_le _ _
          rw [List.length_take] at h1
          omega
        have HLE := Lib.hid hle
        clear hle
        go_wp2_with
          (first
            | (refine appG_own EKl ecL (by rfl) _ _ (by rfl) (base := p5 + 1) (v := .slice a5 n5 c5) (l := ofL (l.take i) ix) (cx := 1) (e' := 153) y wl (by rfl) (by rfl) (by rw [← HC.out]; exact Blk.new_at _ _ _ _ (by simp)) (HO.out.chg (S := fun _ => False) (Chg.of_below ((Below.refl _ _).alloc (Nat.le_refl _) _)) (fun _ _ h => h)) HLE.out (by decide) (by simp; omega) ?_
               intro v1 x1 hv1 hg1 hs1
               obtain ⟨a1, n1, rfl⟩ := hv1.slice
               have hB1 : Blk x1 p5 #[.slice a5 n5 c5] 149 := Blk.grown' ((G.out.2.2.1.alloc _).alloc _) hg1 (fun e => by have := G.out.1.ge e; omega)
               have hh : x1.cell? ⟨p5, 0, none⟩ = some (.slice a5 n5 c5) := by simpa using hB1.cell 0
               have f2 : x1.frozen? ⟨p5, 0, none⟩ = false := hB1.free 0
               have HV1 := Lib.hid hv1; have HG1 := Lib.hid hg1; have HS1 := Lib.hid hs1; have HB1 := Lib.hid hB1
               clear hv1 hg1 hs1 hB1)
            | fail)
        have hv := HV1.out
        rw [List.length_append, List.length_singleton] at hv
        have hp3 : p3 < p5 := by rw [HP.out.1, HP.out.2.1]; omega
        have hp5 : w.heap.size ≤ p5 := by rw [HP.out.2.1]; omega
        refine ⟨⟨i + 1, a1, _, n1, by omega, by simp, ?_, ?_, HB1.out.set 0 _, ?_⟩, by show n - ((i : Int) + 1).toNat < n - (i : Int).toNat; omega⟩
        · rw [HS.out, ← HY.out]
          exact hv.chg (chg_cell x1 p5 0 _) (fun q hq e => by have := hv.ge hq; omega)
        · exact (Blk.grown' ((G.out.2.1.alloc _).alloc _) HG1.out (fun e => by have := G.out.1.ge e; omega)).set_other (fun e => by have e' : p5 = p3 := e; omega) _
        · exact ((HE.out.trans_below ((Below.refl _ _).alloc (Nat.le_refl _) _)).grown HG1.out (fun q hq => by left; have := G.out.1.ge hq; omega)).set (a := ⟨p5, 0, none⟩) hp5 _
      · have d1 : decide (x.ix = ix) = false := by simpa using c1
        have hs := HX.out.2
        rw [if_neg c1, List.append_nil] at hs
        have HS := Lib.hid hs
        clear c1 hs
        go_wp2_with fail
        exact ⟨⟨i + 1, a5, n5, c5, by omega, by simp, by rw [HS.out]; exact HO.out, G.out.2.1.alloc _, G.out.2.2.1.alloc _, HE.out⟩, by show n - ((i : Int) + 1).toNat < n - (i : Int).toNat; omega⟩
    · go_wp2_with fail
      have hfull : ofL (l.take i) ix = ofL l ix := by rw [List.take_of_length_le (by have := H.out.2.1; omega)]
      have hown := G.out.1
      rw [hfull] at hown
      have hlen : n5 = (ofL l ix).length := by
        obtain ⟨_, _, e⟩ := hown.slice
        cases e; rfl
      have hB := G.out.2.2.2.below (Nat.le_refl _) (fun _ h => h)
      have hp5 : w.heap.size ≤ p5 := by rw [HP.out.2.1]; omega
      have HO := Lib.hid (And.intro hown (And.intro hlen (And.intro hB hp5)))
      clear hown hlen hB hp5 hfull
      by_cases h2 : 2 ≤ n5
      · obtain ⟨g5, c5', e5, hrow⟩ := HO.out.1.ex (by rw [← HO.out.2.1]; omega)
        injection e5 with ea en ec
        subst ea
        subst ec
        rw [← HO.out.2.1] at hrow
        clear en
        have HR := Lib.hid hrow
        have hne : p5 ≠ g5 := fun e => by have := HO.out.1.ge (g := g5) rfl; omega
        clear hrow
        refine (lsort_calls wr p5 (p5 + 1) g5 n5 c5 (ofL l ix) HR.out G.out.2.2.1 hne h2 (by rw [HO.out.2.1]; exact H8.out)).mono ?_
        rintro e w2 ⟨rfl, out, hr2, hp2, hs2, hc2⟩
        have hb2 := hc2.blk G.out.2.2.1 hne
        have q2 : w2.cell? ⟨p5, 0, none⟩ = some (.slice (some ⟨g5, 0, none⟩) n5 c5) := by simpa using hb2.cell 0
        have H2 := Lib.hid (And.intro hr2 (And.intro hp2 (And.intro hs2 hc2)))
        clear hr2 hp2 hs2 hc2 hb2
        go_wp2_with fail
        go_ret
        refine ⟨_, out, rfl, H2.out.1.to.lower (by have := HO.out.2.2.2; omega), ⟨H2.out.2.1, H2.out.2.2.1⟩, ?_⟩
        exact ((Chg.of_below (S := fun k => w.heap.size ≤ k) HO.out.2.2.1).mix H2.out.2.2.2 (fun k hk => .inl (by have := HO.out.1.ge (g := g5) rfl; have := HO.out.2.2.2; omega))).below (Nat.le_refl _) (fun _ h => h)
      · refine (lsort_small wr a5 n5 c5 (by omega) p5).mono ?_
        rintro e w2 ⟨rfl, hc2⟩
        have hb2 := hc2.blk G.out.2.2.1 (fun h => h)
        have q2 : w2.cell? ⟨p5, 0, none⟩ = some (.slice a5 n5 c5) := by simpa using hb2.cell 0
        have H2 := Lib.hid hc2
        clear hc2 hb2
        go_wp2_with fail
        go_ret
        refine ⟨_, ofL l ix, rfl, (HO.out.1.chg H2.out (fun _ _ h => h)).lower (by have := HO.out.2.2.2; omega), ⟨List.Perm.refl _, ?_⟩, ?_⟩
        · rw [List.pairwise_iff_getElem]
          intro p q hp hq hpq
          have := HO.out.2.1
          omega
        · exact ((Chg.of_below (S := fun k => w.heap.size ≤ k) HO.out.2.2.1).mix H2.out (fun k hk => hk.elim)).below (Nat.le_refl _) (fun _ h => h)
end Go.Proofs.YtclhgokchcklbaaGreatDoor
end
section
namespace Go.Proofs.YtclhgokchcklbaaGreatDoor
open Go Go.RowKit Go.Mem Gf Lea
theorem _root_.Go.Proofs.YtclhgokchcklbaaGreatDoor.LTab.below {w w' : World} {tb : Nat} {v : Value} {l : List Les} (h : LTab w tb v l) (hb : Below w.heap.size w w') : LTab w' tb v l :=
  ⟨h.cell.kept hb, own_chg (S := fun _ => False) h.own (Chg.of_below hb) (fun _ _ h => h), h.wf, h.apart⟩
theorem _root_.Go.Proofs.YtclhgokchcklbaaGreatDoor.Heap.below {w w' : World} {tb : Nat} {v : Value} {l : List Les} (h : Heap w tb v l) (hb : Below w.heap.size w w') : Heap w' tb v l := ⟨h.tab.below hb, h.heap⟩
theorem TChg.pre {tb : Nat} {v v' : Value} {w w1 w2 : World} (hb : Below w.heap.size w w1) (h : TChg tb v v' w1 w2) : TChg tb v v' w w2 :=
  ⟨(Chg.of_below hb).trans h.1, fun k hk => by
    rcases h.2 k hk with h | h
    · exact .inl h
    · exact .inr (Nat.le_trans hb.size h)⟩
theorem TChg.same {tb : Nat} {v : Value} {w w' : World} (hb : Below w.heap.size w w') : TChg tb v v w w' := ⟨Chg.of_below hb, fun _ hk => .inl hk⟩
set_option maxRecDepth 100000 in
theorem lmay_calls (e : Int) (w : World) : Calls Tryz.prog 135 #[.int .i64 e] w fun r w' => r = .returned (.bool (decide (May e))) ∧ w' = w := by
  by_cases c1 : 1 ≤ e
  · have d1 : decide (1 ≤ e) = true := by simpa using c1
    have hr : decide (May e) = decide (e ≤ 1048576) := by unfold May; simp [c1]
    go_enter Tryz.func135, Tryz.ntmps135
    go_wp2_with fail
    go_ret
    exact ⟨by first | rfl | (rw [hr]; rfl), rfl⟩
  · have d1 : decide (1 ≤ e) = false := by simpa using c1
    have hr : decide (May e) = false := by unfold May; simp [c1]
    go_enter Tryz.func135, Tryz.ntmps135
    go_wp2_with fail
    go_ret
    exact ⟨by first | rfl | (rw [hr]; rfl), rfl⟩
theorem _root_.Lea.Row.setEnd {ti : TypeId} {w : World} {base g n cap : Nat} {l : List Les} (h : Row ti w base g n cap l) {i : Nat} {x y : Les} {e : Int} (hi : i < n) (hx : l[i]? = some x) (hy : y = ⟨x.ix, x.sec, e⟩) :
    Row ti (w.setCell ⟨g, i * 33 + 16 + 16, none⟩ (.int .i64 e)).drew base g n cap (l.set i y) := by
  have hwx := h.wf x (List.mem_of_getElem? hx)
  have hwy : Wf y := by rw [hy]; exact hwx
  obtain ⟨cur, hh, hb, h1, h2, h3, h4⟩ := h.block
  have hB : Blk w g cur ti := hh
  have b1 := (hB.set (i * 33 + 16 + 16) (.int .i64 e)).drew
  have hll := h.len
  refine ⟨⟨?_, .inr ⟨g, cap, _, rfl, hb, b1, h1, h2, by rw [Array.size_setIfInBounds, h3], ?_⟩⟩, by rw [List.length_set]; exact hll, wf_set h.wf hwy⟩
  · rw [itemsV_len _ (wf_set h.wf hwy), List.length_set, hll]
  · apply List.ext_getElem?
    intro j
    have hlen := itemsV_len _ (wf_set h.wf hwy (i := i))
    rw [List.length_set] at hlen
    rw [List.getElem?_take, Array.getElem?_toList]
    by_cases hj : j < n * 33
    · have hm : n * 33 ≤ cap * 33 := Nat.mul_le_mul_right _ h1
      rw [if_pos hj, itemsV_set l h.wf (by omega) hwy j (by omega), Array.getElem?_setIfInBounds]
      by_cases c : i * 33 + 16 + 16 = j
      · subst c
        rw [if_pos rfl, if_pos (by omega), if_pos (by omega), show i * 33 + 16 + 16 - i * 33 = 32 by omega, cellsI_end hwy, hy]
      · rw [if_neg c, h4 j hj]
        by_cases c2 : i * 33 ≤ j ∧ j < i * 33 + 33
        · rw [if_pos c2]
          have hg := itemsV_get l h.wf i x hx (j - i * 33) (by omega)
          rw [show i * 33 + (j - i * 33) = j by omega] at hg
          rw [hg, hy]
          unfold cellsI
          have l1 : (bV x.ix ++ bV x.sec).length = 32 := by rw [List.length_append, bV_len, bV_len, hwx.1, hwx.2]
          show (bV x.ix ++ bV x.sec ++ [.int .i64 x.e])[j - i * 33]? = (bV x.ix ++ bV x.sec ++ [.int .i64 e])[j - i * 33]?
          rw [List.getElem?_append_left (l₁ := bV x.ix ++ bV x.sec) (l₂ := [.int .i64 x.e]) (by omega), List.getElem?_append_left (l₁ := bV x.ix ++ bV x.sec) (l₂ := [.int .i64 e]) (by omega)]
        · rw [if_neg c2]
    · rw [if_neg hj, List.getElem?_eq_none (by omega)]
theorem build_item (dst : Option Tmp) (x y : Operand) (ty : TypeId) (pos : String) (af : Array Edge) (a : Act) (w : World) (K : Act → World → Prop) (Q : Exit → Act → World → Prop)
    (h1 : (a.eval x).cells.size = 16) (h2 : (a.eval y).cells.size = 17) :
    Oper.wp Tryz.prog ⟨dst, .build 191 #[(0, x), (1, y)], ty, pos, af, none⟩ a w K Q = K (a.put dst (.agg ((a.eval x).cells ++ (a.eval y).cells))) w :=
  wp_buildTwo Tryz.underlying191 (by kernel_rfl) (by kernel_rfl) dst x y ty pos af a w K Q h1 h2
theorem leaseSec {y : Sec} (h : WfL y) : cutC (encL y).toArray 0 16 = bV y.1 := by
  have h1 : (bV y.1).length = 16 := by rw [bV_len]; exact h
  unfold cutC encL
  simp [h1]
attribute [local go_sem ↓] Go.wp_at_zero Go.wp_at_succ
attribute [local go_sem ↓] load_key load_item store_item load_lease slice_lease build_item
attribute [local go_sem] ptrB_eq ptrO_eq ptrIs_eq aggL_eq aggIs_eq readK_drew hasK_drew readK_alloc_past hasK_alloc_past readK_alloc_in hasK_alloc_in setCells_drew setCells_alloc_past setCells_alloc_at
set_option maxRecDepth 100000 in
set_option maxHeartbeats 1000000 in
theorem add_calls (w : World) (tb : Nat) (v : Value) (l : List Les) (ix sec : Key) (e : Int) (h : Heap w tb v l) (hg : Lea.Good l) (hl : l.length ≤ 90000) (hix : ix.length = 16) (hsec : sec.length = 16) :
    Calls Tryz.prog 85 #[.pointer (some ⟨tb, 0, none⟩), .agg (bV ix).toArray, .agg (encL (sec, e)).toArray] w fun r w' => ∃ b v' l', r = .returned (.bool b) ∧ AddR l ix sec e b l' ∧ Heap w' tb v' l' ∧ TChg tb v v' w w' := by
  have wl : WfL (sec, e) := hsec
  obtain ⟨cy, hcy⟩ : ∃ c, c = encL (sec, e) := ⟨_, rfl⟩
  have k1 : cutC cy.toArray 0 16 = bV sec := by rw [hcy]; exact leaseSec wl
  have ly : cy.length = 17 := by rw [hcy]; exact ecL.len _ wl
  have ce : cy[16]? = some (.int .i64 e) := by rw [hcy]; exact encL_end wl
  have H := Lib.hid (And.intro h (And.intro hg hcy))
  rw [← hcy]
  clear h hg hcy wl
  go_enter Tryz.func85, Tryz.ntmps85
  go_upto_region 1 with fail
  have hB0 : Below w.heap.size w ((w.alloc (.cells (bV ix).toArray 44)).alloc (.cells cy.toArray 153)) := ((Below.refl _ _).alloc (Nat.le_refl _) _).alloc (by simp) _
  have hk1 : Blk ((w.alloc (.cells (bV ix).toArray 44)).alloc (.cells cy.toArray 153)) w.heap.size (bV ix).toArray 44 := (Blk.new _ _ _).alloc _
  have hk2 : Blk ((w.alloc (.cells (bV ix).toArray 44)).alloc (.cells cy.toArray 153)) (w.heap.size + 1) cy.toArray 153 := Blk.new_at _ _ _ _ (by simp)
  obtain ⟨w0, hw0⟩ : ∃ x, x = (w.alloc (.cells (bV ix).toArray 44)).alloc (.cells cy.toArray 153) := ⟨_, rfl⟩
  rw [← hw0] at hB0 hk1 hk2 ⊢
  clear hw0
  obtain ⟨p4, hp4⟩ : ∃ p, p = w.heap.size := ⟨_, rfl⟩
  obtain ⟨p5, hp5⟩ : ∃ p, p = w.heap.size + 1 := ⟨_, rfl⟩
  rw [← hp5] at hk2 ⊢
  rw [← hp4] at hk1 ⊢
  have HP := Lib.hid (And.intro hp4 (And.intro hp5 hB0))
  clear hp4 hp5 hB0
  have r4 : readK 16 w0 p4 0 = bV ix := blk_read0 hk1 (by rw [bV_len, hix])
  have h4 : HasK 16 w0 p4 0 := blk_has hk1 (by simp [bV_len, hix])
  have r5 : readK 16 w0 p5 0 = bV sec := by
    rw [← k1]
    exact blk_read hk2 (by unfold cutC; simp [ly]) (fun k hk => by unfold cutC; simp [hk])
  have h5 : HasK 16 w0 p5 0 := blk_has hk2 (by simp [ly])
  have hT0 : Heap w0 tb v l := H.out.1.below HP.out.2.2
  have HT := Lib.hid hT0
  have HK := Lib.hid (And.intro hk1 hk2)
  clear hT0 hk1 hk2
  go_wp2_with fail
  refine (find_calls w0 tb v l ix sec HT.out.tab (by omega) hix hsec).mono ?_
  rintro r w1 ⟨k, rfl, hF, hB1⟩
  have hk1 := HK.out.1.kept hB1
  have hk2 := HK.out.2.kept hB1
  have hT1 := HT.out.below hB1
  have r4 : readK 16 w1 p4 0 = bV ix := blk_read0 hk1 (by rw [bV_len, hix])
  have h4 : HasK 16 w1 p4 0 := blk_has hk1 (by simp [bV_len, hix])
  have q5 : w1.cell? ⟨p5, 16, none⟩ = some (.int .i64 e) := by rw [hk2.cell]; simpa using ce
  have hB : Below w.heap.size w w1 := HP.out.2.2.trans (hB1.mono HP.out.2.2.size)
  have H1 := Lib.hid (And.intro hk1 (And.intro hk2 (And.intro hT1 hB)))
  clear hk1 hk2 hT1 hB hB1 ce
  rcases hF with ⟨rfl, hno⟩ | ⟨i, x, rfl, hx, e1, e2⟩
  · have HNO := Lib.hid hno
    clear hno
    go_upto_region 4 with fail
    by_cases hm : May e
    · have d1 : decide (May e) = true := by simpa using hm
      replace hm := Lib.hid hm
      go_wp2_with fail
      refine (lmay_calls _ _).mono ?_
      rintro r w2 ⟨rfl, rfl⟩
      go_wp2_with fail
      refine (of_calls w2 tb v l ix H1.out.2.2.1.tab (by omega) hix (by have := H.out.2.1.few ix; omega)).mono ?_
      rintro r w3 ⟨vo, out, rfl, hO, hR, hB3⟩
      obtain ⟨po, co, rfl⟩ := hO.slice
      obtain ⟨m, hm'⟩ : ∃ m, m = out.length := ⟨_, rfl⟩
      rw [← hm']
      have hlen : (ofL l ix).length = m := by rw [hm', hR.perm.length_eq]
      have hk1 := H1.out.1.kept hB3
      have hk2 := H1.out.2.1.kept hB3
      have hT3 := H1.out.2.2.1.below hB3
      have hB := H1.out.2.2.2.trans (hB3.mono H1.out.2.2.2.size)
      have r4 : readK 16 w3 p4 0 = bV ix := blk_read0 hk1 (by rw [bV_len, hix])
      have h4 : HasK 16 w3 p4 0 := blk_has hk1 (by simp [bV_len, hix])
      have r5 : readK 17 w3 p5 0 = cy := blk_read0 hk2 ly
      have h5 : HasK 17 w3 p5 0 := blk_has hk2 (by simp [ly])
      have H3 := Lib.hid (And.intro hT3 (And.intro hB hlen))
      clear hk1 hk2 hT3 hB hlen hO hR hB3 hm'
      by_cases c8 : 8 ≤ m
      · have d8 : decide ((8 : Int) ≤ (m : Int)) = true := by simp; omega
        replace c8 := Lib.hid c8
        go_wp2_with fail
        go_ret
        exact ⟨false, v, l, rfl, .no (.inr ⟨HNO.out, by rw [H3.out.2.2]; exact c8.out⟩), H3.out.1, TChg.same H3.out.2.1⟩
      · have d8 : decide ((8 : Int) ≤ (m : Int)) = false := by simp; omega
        replace c8 := Lib.hid c8
        have wx : Wf ⟨ix, sec, e⟩ := ⟨hix, hsec⟩
        obtain ⟨cz, hcz⟩ : ∃ c, c = cellsI ⟨ix, sec, e⟩ := ⟨_, rfl⟩
        have hcat : bV ix ++ cy = cz := by rw [hcz, H.out.2.2]; unfold cellsI encL; rw [List.append_assoc]
        have hcat2 : (bV ix).toArray ++ cy.toArray = cz.toArray := by rw [← hcat]; simp
        have hbi : (bV ix).length = 16 := by rw [bV_len, hix]
        have hpush : ∀ W, Heap W tb v l → Calls Tryz.prog 136 #[.iface 193 (.pointer (some ⟨tb, 0, none⟩)), .iface 191 (.agg cz.toArray)] W fun r w' => r = .returned (.tuple #[]) ∧ ∃ v' l', Heap w' tb v' l' ∧ l'.Perm (l ++ [⟨ix, sec, e⟩]) ∧ TChg tb v v' W w' := fun W hW => by
          rw [hcz]
          exact hpush_calls W tb v l ⟨ix, sec, e⟩ hW wx (by omega)
        have HPU := Lib.hid hpush
        have hB3 : Below w.heap.size w w3.drew := H3.out.2.1.drew
        have hT3 : Heap w3.drew tb v l := ⟨⟨H3.out.1.tab.cell, H3.out.1.tab.own, H3.out.1.tab.wf, H3.out.1.tab.apart⟩, H3.out.1.heap⟩
        have H4 := Lib.hid (And.intro hB3 hT3)
        clear hcz hpush wx hB3 hT3
        go_upto_region 7 with fail
        go_region_with (refine (HPU.out _ H4.out.2).mono ?_; rintro r w4 ⟨rfl, v4, l4, hT4, hP4, hC4⟩)
        all_goals
          go_wp2_with fail
          go_ret
          exact ⟨true, v4, l4, rfl, .new l4 hm.out HNO.out (by rw [H3.out.2.2]; have := c8.out; omega) hP4, hT4, hC4.pre H4.out.1⟩
    · have d1 : decide (May e) = false := by simpa using hm
      replace hm := Lib.hid hm
      go_wp2_with fail
      refine (lmay_calls _ _).mono ?_
      rintro r w2 ⟨rfl, rfl⟩
      go_wp2_with fail
      go_ret
      exact ⟨false, v, l, rfl, .no (.inl hm.out), H1.out.2.2.1, TChg.same H1.out.2.2.2⟩
  · have hi : i < l.length := some_lt hx
    have d0 : decide ((i : Int) < 0) = false := by simp
    have HX := Lib.hid (And.intro hx (And.intro e1 e2))
    clear hx e1 e2
    go_upto_region 4 with fail
    by_cases hm : May e
    · have d1 : decide (May e) = true := by simpa using hm
      replace hm := Lib.hid hm
      obtain ⟨g, cap, rfl, hrow⟩ := H1.out.2.2.1.tab.ex (by omega)
      have hc : w1.cell? ⟨tb, 0, none⟩ = some (.slice (some ⟨g, 0, none⟩) l.length cap) := by simpa using H1.out.2.2.1.tab.cell.cell 0
      have qe := hrow.ends HX.out.1
      have fe := (hrow.there hi 32 (by decide)).2
      obtain ⟨n, hn⟩ : ∃ n, n = l.length := ⟨_, rfl⟩
      rw [← hn] at hc hi
      have HR := Lib.hid (And.intro hrow hn)
      have i0 : (0 : Int) ≤ (i : Int) := by omega
      have i1 : (i : Int) < (n : Int) := by omega
      clear hrow hn
      go_wp2_with fail
      refine (lmay_calls _ _).mono ?_
      rintro r w2 ⟨rfl, rfl⟩
      go_upto_region 2 with fail
      go_region
      all_goals
        obtain ⟨y, hy⟩ : ∃ y : Les, y = ⟨x.ix, x.sec, max x.e e⟩ := ⟨_, rfl⟩
        have hr2 := HR.out.1.setEnd (by rw [← HR.out.2]; exact hi) HX.out.1 hy
        have hc2 : Chg (fun b => b = g) w2 (w2.setCell ⟨g, i * 33 + 16 + 16, none⟩ (.int .i64 (max x.e e))).drew := (chg_cell w2 g _ _).drew
        have hT2 := (H1.out.2.2.1.tab.row' (l' := l.set i y) rfl hr2 hc2)
        have hfp := fix_pre (l := l) (n := n) (k := i) (by rw [HR.out.2]; exact H1.out.2.2.1.heap) hi (by rw [HR.out.2]; exact Nat.le_refl _) y
        have HT2 := Lib.hid (And.intro hT2 (And.intro hc2 (And.intro hfp hy)))
        obtain ⟨w3, hw3⟩ : ∃ w3, w3 = (w2.setCell ⟨g, i * 33 + 16 + 16, none⟩ (.int .i64 (max x.e e))).drew := ⟨_, rfl⟩
        rw [← hw3] at HT2 ⊢
        clear hw3 hr2 hc2 hT2 hfp hy
        have q3 : w3.cell? ⟨tb, 0, none⟩ = some (.slice (some ⟨g, 0, none⟩) l.length cap) := by simpa using HT2.out.1.cell.cell 0
        go_wp2_with fail
        refine (hfix_calls w3 tb _ (l.set i y) i n (by rw [List.length_set, HR.out.2]) HT2.out.1 (by rw [HR.out.2]; omega) hi HT2.out.2.2.1.1 HT2.out.2.2.1.2).mono ?_
        rintro r w4 ⟨rfl, l4, hT4, hP4, hC4⟩
        go_wp2_with fail
        go_ret
        refine ⟨true, _, l4, rfl, .more i x l4 hm.out HX.out.1 HX.out.2.1 HX.out.2.2 ?_, hT4, ((TChg.of HT2.out.2.1).trans hC4).pre H1.out.2.2.2⟩
        rw [← HX.out.2.1, ← HX.out.2.2, ← HT2.out.2.2.2]
        exact hP4
    · have d1 : decide (May e) = false := by simpa using hm
      replace hm := Lib.hid hm
      go_wp2_with fail
      refine (lmay_calls _ _).mono ?_
      rintro r w2 ⟨rfl, rfl⟩
      go_wp2_with fail
      go_ret
      exact ⟨false, v, l, rfl, .no (.inl hm.out), H1.out.2.2.1, TChg.same H1.out.2.2.2⟩
end Go.Proofs.YtclhgokchcklbaaGreatDoor
end
section
namespace Go.Proofs.YtclhgokchcklbaaGreatDoor
open Go Go.RowKit Go.Mem Gf Lea
attribute [local go_sem ↓] Go.wp_at_zero Go.wp_at_succ
attribute [local go_sem ↓] load_key load_item store_item load_lease store_lease slice_lease build_item
attribute [local go_sem] ptrB_eq ptrO_eq ptrIs_eq aggL_eq aggIs_eq readK_drew hasK_drew readK_alloc_past hasK_alloc_past readK_alloc_in hasK_alloc_in setCells_drew setCells_alloc_past setCells_alloc_at
theorem _root_.Go.Proofs.YtclhgokchcklbaaGreatDoor.LTab.chg {S : Nat → Prop} {w w' : World} {tb : Nat} {v : Value} {l : List Les} (h : LTab w tb v l) (hc : Chg S w w') (h1 : ¬ S tb) (h2 : ∀ g, v.ownBlock = some g → ¬ S g) : LTab w' tb v l :=
  ⟨hc.blk h.cell h1, own_chg h.own hc h2, h.wf, h.apart⟩
theorem key_in {k : Key} (h : k.length = 16) : cutC (bV k).toArray 0 16 = bV k ∧ (bV k).length = 16 := by
  have h1 : (bV k).length = 16 := by rw [bV_len]; exact h
  exact ⟨by unfold cutC; rw [List.toList_toArray, List.drop_zero, List.take_of_length_le (by omega)], h1⟩
set_option maxRecDepth 100000 in
theorem new_calls (w : World) : Calls Tryz.prog 27 #[] w fun r w' => ∃ tb, r = .returned (.pointer (some ⟨tb, 0, none⟩)) ∧ w.heap.size ≤ tb ∧ Heap w' tb (.slice none 0 0) [] ∧ Below w.heap.size w w' := by
  go_enter Tryz.func27, Tryz.ntmps27
  go_wp2_with fail
  go_ret
  refine ⟨_, rfl, Nat.le_refl _, ⟨⟨Blk.new _ _ _, World.ownsRow_nil _ _ _ _, (fun _ h => by cases h), by simp [Value.ownBlock]⟩, (fun c h1 h2 => by simp at h2)⟩, (Below.refl _ _).alloc (Nat.le_refl _) _⟩
theorem leaseEnd {y : Sec} (h : WfL y) : (encL y).toArray[16]? = some (.int .i64 y.2) := by
  simpa using encL_end h
end Go.Proofs.YtclhgokchcklbaaGreatDoor
end
section
namespace Lea
def z16 : Key := List.replicate 16 0
end Lea
namespace Go.Proofs.YtclhgokchcklbaaGreatDoor
open Go Go.RowKit Go.Mem Gf Lea
def keyC (v : Value) : Array Value := (v :: List.replicate 15 (.int .u8 0)).toArray
def isU8 : Value → Bool
  | .int .u8 _ => true
  | _ => false
def isI64 : Value → Bool
  | .int .i64 _ => true
  | _ => false
@[simp] theorem isU8_eq (n : Int) : isU8 (.int .u8 n) = true := rfl
@[simp] theorem isI64_eq (n : Int) : isI64 (.int .i64 n) = true := rfl
theorem built_k0 (n : Int) : Tryz.prog.built 44 [(0, .int .u8 n)] = some (keyC (.int .u8 n)) := by kernel_rfl
theorem built_z : Tryz.prog.built 44 [] = some (keyC (.int .u8 0)) := by kernel_rfl
theorem built_l1 (n : Int) : Tryz.prog.built 153 [(1, .int .i64 n)] = some (keyC (.int .u8 0) ++ #[.int .i64 n]) := by kernel_rfl
theorem build_k0 (dst : Option Tmp) (x : Operand) (ty : TypeId) (pos : String) (af : Array Edge) (gd : Option (Tmp × Bool)) (a : Act) (w : World) (K : Act → World → Prop) (Q : Exit → Act → World → Prop) (h : isU8 (a.eval x) = true) :
    Oper.wp Tryz.prog ⟨dst, .build 44 #[(0, x)], ty, pos, af, gd⟩ a w K Q = K (a.put dst (.agg (keyC (a.eval x)))) w := by
  unfold Oper.wp execOp
  have e : ∃ n, a.eval x = .int .u8 n := by
    unfold isU8 at h
    split at h
    · rename_i n e; exact ⟨n, e⟩
    · cases h
  obtain ⟨n, e⟩ := e
  have hr := run_build (P := Tryz.prog) w 44 #[(0, a.eval x)] (keyC (a.eval x)) (by rw [e]; exact built_k0 n)
  simp only [List.map_toArray, List.map_cons, List.map_nil, Sem.run_bind, hr, Result.andThen_ok]
  rfl
theorem build_z (dst : Option Tmp) (ty : TypeId) (pos : String) (af : Array Edge) (gd : Option (Tmp × Bool)) (a : Act) (w : World) (K : Act → World → Prop) (Q : Exit → Act → World → Prop) :
    Oper.wp Tryz.prog ⟨dst, .build 44 #[], ty, pos, af, gd⟩ a w K Q = K (a.put dst (.agg (keyC (.int .u8 0)))) w := by
  unfold Oper.wp execOp
  have hr := run_build (P := Tryz.prog) w 44 #[] (keyC (.int .u8 0)) built_z
  simp only [List.map_toArray, List.map_nil, Sem.run_bind, hr, Result.andThen_ok]
  rfl
theorem build_l1 (dst : Option Tmp) (x : Operand) (ty : TypeId) (pos : String) (af : Array Edge) (gd : Option (Tmp × Bool)) (a : Act) (w : World) (K : Act → World → Prop) (Q : Exit → Act → World → Prop) (h : isI64 (a.eval x) = true) :
    Oper.wp Tryz.prog ⟨dst, .build 153 #[(1, x)], ty, pos, af, gd⟩ a w K Q = K (a.put dst (.agg (keyC (.int .u8 0) ++ #[a.eval x]))) w := by
  unfold Oper.wp execOp
  have e : ∃ n, a.eval x = .int .i64 n := by
    unfold isI64 at h
    split at h
    · rename_i n e; exact ⟨n, e⟩
    · cases h
  obtain ⟨n, e⟩ := e
  have hr := run_build (P := Tryz.prog) w 153 #[(1, a.eval x)] (keyC (.int .u8 0) ++ #[a.eval x]) (by rw [e]; exact built_l1 n)
  simp only [List.map_toArray, List.map_cons, List.map_nil, Sem.run_bind, hr, Result.andThen_ok]
  rfl
theorem build_lease (dst : Option Tmp) (x y : Operand) (ty : TypeId) (pos : String) (af : Array Edge) (a : Act) (w : World) (K : Act → World → Prop) (Q : Exit → Act → World → Prop)
    (h1 : (a.eval x).cells.size = 16) (h2 : (a.eval y).cells.size = 1) :
    Oper.wp Tryz.prog ⟨dst, .build 153 #[(0, x), (1, y)], ty, pos, af, none⟩ a w K Q = K (a.put dst (.agg ((a.eval x).cells ++ (a.eval y).cells))) w :=
  wp_buildTwo Tryz.underlying153 (by kernel_rfl) (by kernel_rfl) dst x y ty pos af a w K Q h1 h2
theorem z16_len : z16.length = 16 := by simp [z16]
attribute [local go_sem ↓] Go.wp_at_zero Go.wp_at_succ
attribute [local go_sem ↓] build_k0 build_z build_l1 build_lease
attribute [local go_sem] isU8_eq isI64_eq
end Go.Proofs.YtclhgokchcklbaaGreatDoor
namespace Go.Proofs.YtclhgokchcklbaaGreatDoor
open Go Go.RowKit Go.Mem Gf Lea
section
variable {W wr w' : World} {tb p6 : Nat} {vt v' : Value} {lt l' : List Les}
end
end Go.Proofs.YtclhgokchcklbaaGreatDoor
end
section
namespace Go.Mem
open Go Go.RowKit
section
variable {w w' : World} {v : Value} {xs : List Int}
end
end Go.Mem
end
section
namespace Go.Mem
open Go Go.ChangeShapes Go.WideShapes Go.ChangeAt Go.RowKit
theorem byte_of_wf {x : Int} (h : (Lit.int .u8 x).wf = true) : ∃ n : Nat, n < 256 ∧ x = (n : Int) := by
  simp [Lit.wf, IntKind.min, IntKind.max, IntKind.signed, IntKind.bits] at h
  exact ⟨x.toNat, by omega, by omega⟩
theorem int_of_wf {x : Int} (h : (Lit.int .i64 x).wf = true) : -9223372036854775808 ≤ x ∧ x ≤ 9223372036854775807 := by
  simp [Lit.wf, IntKind.min, IntKind.max, IntKind.signed, IntKind.bits] at h
  exact ⟨by omega, by omega⟩
theorem addr_none {w : World} {a : Addr} {v : Value} (h : w.cell? a = some v) : a = ⟨a.block, a.off, none⟩ := by
  obtain ⟨b, o, s⟩ := a
  unfold World.cell? at h
  cases s with
  | none => rfl
  | some n =>
    split at h
    · simp at h
    · cases h
theorem add_plain (b off i : Nat) : (⟨b, off, none⟩ : Addr).add i = ⟨b, off + i, none⟩ := by
  unfold Addr.add
  split
  · subst_vars; rfl
  · rfl
section
variable {P : Program} {H : Type} {enc : TypeId × Value → H} {W : World} {base : Nat}
theorem open_bys {t e : TypeId} {v : Value} {x : DataW H × List MemPlace} {spare : Nat → Bool} {held : Bool} (ht : P.underlying t = some (.slice e)) (he : P.underlying e = some (.int .u8)) (hc : P.cellsOf e = 1)
    (hs : ∃ a len cap, v = .slice a len cap) (h : ∃ fuel, DataW.trod enc P W base spare held fuel t v.cells.toList = some x) : ∃ bs, Bys W v bs := by
  obtain ⟨a, len, cap, rfl⟩ := hs
  obtain ⟨fuel, hf⟩ := h
  rcases open_ints ht he hc hf with ⟨hcs, _⟩ | ⟨a', len', cap', zs, hcs, _, hl, hm, hz, _, hcell, hwz⟩
  · simp [Value.cells] at hcs
    obtain ⟨rfl, rfl, rfl⟩ := hcs
    exact ⟨[], Bys.nil W⟩
  · simp [Value.cells] at hcs
    obtain ⟨rfl, rfl, rfl⟩ := hcs
    have hzl : len ≤ zs.length := by rw [hz]; split <;> omega
    have hlen : ((zs.take len).map fun z => UInt8.ofNat z.toNat).length = len := by simp; omega
    refine ⟨(zs.take len).map fun z => UInt8.ofNat z.toNat, some a', cap, by rw [hlen], by rw [hlen]; exact hl, hm, fun hp => ?_⟩
    rw [hlen] at hp
    have h0 := hcell 0 (by omega)
    have ha : a' = ⟨a'.block, a'.off, none⟩ := addr_none (a := a') (by simpa [Addr.add] using h0)
    refine ⟨a'.block, a'.off, by rw [← ha], fun i u hi => ?_⟩
    have hil : i < len := by
      rcases Nat.lt_or_ge i len with h | h
      · exact h
      · rw [List.getElem?_eq_none (by rw [hlen]; exact h)] at hi; cases hi
    have hci := hcell i (by omega)
    rw [ha, add_plain] at hci
    rw [hci]
    have hzi : zs[i]? = some zs[i] := List.getElem?_eq_getElem (by omega)
    have hu : u = UInt8.ofNat zs[i].toNat := by
      simp only [List.getElem?_map, List.getElem?_take, hil, if_true, hzi, Option.map_some, Option.some.injEq] at hi
      exact hi.symm
    have hw := hwz zs[i] (List.getElem_mem _)
    obtain ⟨n, hn, hx⟩ := byte_of_wf hw
    rw [List.getD_eq_getElem?_getD, hzi, hu, hx]
    simp [UInt8.toNat_ofNat']
    omega
end
end Go.Mem
end
section
namespace Go.Mem
open Go Go.ChangeShapes Go.WideShapes Go.ChangeAt Go.RowKit Gf
section
variable {P : Program}
end
end Go.Mem
end
section
namespace Go.Mem
open Go Go.RowKit Gf
def SomeK (n : Nat) (w : World) (g o : Nat) : Prop := ∀ j, j < n → (w.cell? ⟨g, o + j, none⟩).isSome = true
theorem someK_drew (n : Nat) (w : World) (g o : Nat) : SomeK n w.drew g o = SomeK n w g o := rfl
theorem HasK.some {n : Nat} {w : World} {g o : Nat} (h : HasK n w g o) : SomeK n w g o := fun j hj => (h j hj).1
theorem someK_of {n : Nat} {w : World} {g o : Nat} {cs : List Value} (h : w.rangeAt g o cs) (hn : cs.length = n) : SomeK n w g o := fun j hj => by
  rw [h j (cs[j]'(by omega)) (List.getElem?_eq_getElem (by omega))]; rfl
theorem readS_range {n : Nat} {w : World} {g o : Nat} (h : SomeK n w g o) : w.rangeAt g o (readK n w g o) := fun j v hj => by
  have hjn : j < n := by
    rcases Nat.lt_or_ge j n with h | h
    · exact h
    · rw [List.getElem?_eq_none (by rw [readK_len]; exact h)] at hj; cases hj
  obtain ⟨u, hu⟩ := Option.isSome_iff_exists.1 (h j hjn)
  rw [hu]
  unfold readK at hj
  rw [List.getElem?_map, List.getElem?_range hjn] at hj
  simp only [Option.map_some, hu, Option.getD_some] at hj
  exact hj
theorem wp_loadS {P : Program} {n : Nat} {t : TypeId} {d : TypeDesc} (hu : P.underlying t = some d) (hd : d.isRow = true) (hi : (P.info? t).map (·.size) = some n) (dst : Option Tmp) (x : Operand) (ty : TypeId) (pos : String) (af : Array Edge) (gd : Option (Tmp × Bool)) (a : Act) (w : World) (K : Act → World → Prop) (Q : Exit → Act → World → Prop)
    (hp : ptrIs (a.eval x) = true) (ht : SomeK n w (ptrB (a.eval x)) (ptrO (a.eval x))) :
    Oper.wp P ⟨dst, .load t x, ty, pos, af, gd⟩ a w K Q = K (a.put dst (.agg (readK n w (ptrB (a.eval x)) (ptrO (a.eval x))).toArray)) w := by
  unfold Oper.wp execOp
  have e := ptr_of hp
  have hl := run_loadVar_mid (P := P) w (ptrB (a.eval x)) (ptrO (a.eval x)) t (readK n w (ptrB (a.eval x)) (ptrO (a.eval x))) d (readS_range ht) hu hd (by rw [hi, readK_len])
  simp only
  rw [e]
  simp only [ptrB_eq, ptrO_eq, Instr.loadAt, Instr.sureAddr, Sem.run_bind, Sem.run_pure, Result.andThen_ok, hl]
  rfl
end Go.Mem
end
section
namespace Go.Mem
open Go Go.ChangeShapes Go.WideShapes Go.ChangeAt Go.RowKit Gf Lea
end Go.Mem
namespace Go.Proofs.YtclhgokchcklbaaGreatDoor
open Go Go.RowKit Go.Mem Gf
end Go.Proofs.YtclhgokchcklbaaGreatDoor
namespace Go.Proofs.YtclhgokchcklbaaGreatDoor
open Go Go.RowKit Go.Mem Gf Lea
attribute [local go_sem ↓] Go.wp_at_zero Go.wp_at_succ
attribute [local go_sem ↓] load_lease
attribute [local go_sem] ptrB_eq ptrO_eq ptrIs_eq aggL_eq aggIs_eq
end Go.Proofs.YtclhgokchcklbaaGreatDoor
namespace Go.Proofs.YtclhgokchcklbaaGreatDoor
open Go Go.RowKit Go.Mem Gf Lea
theorem load_keyS (dst : Option Tmp) (x : Operand) (ty : TypeId) (pos : String) (af : Array Edge) (gd : Option (Tmp × Bool)) (a : Act) (w : World) (K : Act → World → Prop) (Q : Exit → Act → World → Prop)
    (hp : ptrIs (a.eval x) = true) (ht : SomeK 16 w (ptrB (a.eval x)) (ptrO (a.eval x))) :
    Oper.wp Tryz.prog ⟨dst, .load 44 x, ty, pos, af, gd⟩ a w K Q = K (a.put dst (.agg (readK 16 w (ptrB (a.eval x)) (ptrO (a.eval x))).toArray)) w :=
  wp_loadS Tryz.underlying44 rfl i16 dst x ty pos af gd a w K Q hp ht
theorem load_leaseS (dst : Option Tmp) (x : Operand) (ty : TypeId) (pos : String) (af : Array Edge) (gd : Option (Tmp × Bool)) (a : Act) (w : World) (K : Act → World → Prop) (Q : Exit → Act → World → Prop)
    (hp : ptrIs (a.eval x) = true) (ht : SomeK 17 w (ptrB (a.eval x)) (ptrO (a.eval x))) :
    Oper.wp Tryz.prog ⟨dst, .load 153 x, ty, pos, af, gd⟩ a w K Q = K (a.put dst (.agg (readK 17 w (ptrB (a.eval x)) (ptrO (a.eval x))).toArray)) w :=
  wp_loadS Tryz.underlying153 rfl i17 dst x ty pos af gd a w K Q hp ht
end Go.Proofs.YtclhgokchcklbaaGreatDoor
namespace Go.Proofs.YtclhgokchcklbaaGreatDoor
open Go Go.RowKit Go.Mem Gf Lea
structure Env0 (W wr : World) (tb : Nat) (vt : Value) (lt : List Les) : Prop where
  heap : Heap wr tb vt lt
  good : Lea.Good lt
  own : ∀ g, vt.ownBlock = some g → W.heap.size ≤ g
  chg : Chg (fun k => W.heap.size ≤ k) W wr
  tb1 : W.heap.size ≤ tb
section
variable {W wr w' : World} {tb tu : Nat} {vt vu v' : Value} {lt lu l' : List Les}
theorem Env0.new {W w1 : World} {tb : Nat} (h1 : W.heap.size ≤ tb) (h2 : Heap w1 tb (.slice none 0 0) []) (h3 : Below W.heap.size W w1) : Env0 W w1 tb (.slice none 0 0) [] :=
  ⟨h2, Good.nil, (fun g e => by cases e), Chg.of_below h3, h1⟩
theorem Env0.tchg (h : Env0 W wr tb vt lt) (hc : TChg tb vt v' wr w') (hh : Heap w' tb v' l') (hg : Lea.Good l') : Env0 W w' tb v' l' :=
  ⟨hh, hg, fun g e => by
    rcases hc.2 g e with e1 | e1
    · exact h.own g e1
    · exact Nat.le_trans h.chg.size e1, h.chg.mix hc.1 (fun k hk => by
    rcases hk with rfl | hk
    · exact .inl h.tb1
    · exact .inl (h.own _ hk)), h.tb1⟩
theorem Env0.below (h : Env0 W wr tb vt lt) (hb : Below wr.heap.size wr w') : Env0 W w' tb vt lt := ⟨h.heap.below hb, h.good, h.own, h.chg.trans_below hb, h.tb1⟩
theorem Env0.bel (h : Env0 W wr tb vt lt) : Below W.heap.size W wr := h.chg.below (Nat.le_refl _) (fun _ h => h)
theorem Env0.few (h : Env0 W wr tb vt lt) (ix : Key) : (ofL lt ix).length ≤ 12 := by have := h.good.few ix; omega
end
end Go.Proofs.YtclhgokchcklbaaGreatDoor
end
section
namespace Go.Tail
open Go
def goesUpon (P : Program) (C' : World → Prop) (v : Value) : Result Next → Prop
  | .ok (.value u) w' => C' w' ∧ u = v
  | .ok .skip w' => C' w' ∧ v = undef
  | .ok (.enter f args) w' => Calls P f args w' (fun e w'' => e = .returned v ∧ C' w'')
  | _ => False
def goesAt (P : Program) (o : Oper) (a : Act) (C' : World → Prop) (w : World) (v : Value) : Prop := goesUpon P C' v ((execOp a.eval o).run P w)
section
variable {P : Program} {ops : Array Oper} {md : Region.Mode} {U : Bool → World → Prop} {j0 : Nat}
def YG (P : Program) (ops : Array Oper) (U : Bool → World → Prop) (j0 i : Nat) (o : Oper) (v : Value) (a : Act) : Prop :=
  (Region.wanted o (yielded ops a.tmps) = true ∧ ∀ b : Bool, (i = j0 → b = false) → ∀ w, U b w → goesAt P o a (U (if i = j0 then true else b)) w v) ∨
  (Region.wanted o (yielded ops a.tmps) = false ∧ v = undef ∧ i ≠ j0)
def Hd (P : Program) (md : Region.Mode) (ops : Array Oper) (U : Bool → World → Prop) (j0 n : Nat) (L : Array Bool → Act → Prop) : Nat → Array Bool → Act → Prop
  | 0, listed, a => L listed a
  | f + 1, listed, a => Region.ready md ops listed ≠ [] ∧ ∀ i, i ∈ Region.ready md ops listed → i < n ∧ ∃ oi v, ops[i]? = some oi ∧ YG P ops U j0 i oi v a ∧ Hd P md ops U j0 n L f (listed.setIfInBounds i true) (a.put oi.dst v)
end
end Go.Tail
end
