/- Walks of the table's heap: its length, its order, a swap; up and down. -/
import Derived.Test.YtgjabnpngggcmaaDoorLeaMem
import Derived.Deep.RegionHeld3
import Derived.Test.YtgjabnpngggcmaaDoorLongOp
namespace Go.Proofs.YtgjabnpngggcmaaDoor
open Go Go.RowKit Go.Mem Gf Lea
attribute [local go_sem ↓] Go.wp_at_zero Go.wp_at_succ
set_option maxRecDepth 100000 in
theorem elen_calls (a : Option Addr) (n cap : Nat) (w : World) : Calls Tryd.prog 92 #[.slice a n cap] w fun e w' => e = .returned (.int .i64 n) ∧ w = w' := by
  go_enter Tryd.func92, Tryd.ntmps92
  go_wp2
  go_ret
  exact ⟨rfl, rfl⟩
set_option maxRecDepth 100000 in
theorem eless_calls (base g n cap : Nat) (l : List Les) (i j : Nat) (x y : Les) (w : World) (h : Row 46 w base g n cap l) (hx : l[i]? = some x) (hy : l[j]? = some y) :
    Calls Tryd.prog 93 #[.slice (some ⟨g, 0, none⟩) n cap, .int .i64 i, .int .i64 j] w fun e w' => e = .returned (.bool (decide (x.e < y.e))) ∧ ∃ d, w' = w.drewN d := by
  have hi : i < n := by
    rw [h.len]
    rcases Nat.lt_or_ge i l.length with h | h
    · exact h
    · rw [List.getElem?_eq_none h] at hx; cases hx
  have hj : j < n := by
    rw [h.len]
    rcases Nat.lt_or_ge j l.length with h | h
    · exact h
    · rw [List.getElem?_eq_none h] at hy; cases hy
  have c1 := h.ends hx
  have c2 := h.ends hy
  have i0 : (0 : Int) ≤ (i : Int) := by omega
  have i1 : (i : Int) < (n : Int) := by omega
  have j0 : (0 : Int) ≤ (j : Int) := by omega
  have j1 : (j : Int) < (n : Int) := by omega
  clear h hx hy
  go_enter Tryd.func93, Tryd.ntmps93
  go_wp2_with fail
  go_quiet (fail)
  go_wp2
  go_ret
  exact ⟨rfl, _, rfl⟩
theorem i33 : (Tryd.prog.info? 46).map (·.size) = some 33 := by kernel_rfl
theorem load_item (dst : Option Tmp) (x : Operand) (ty : TypeId) (pos : String) (af : Array Edge) (a : Act) (w : World) (K : Act → World → Prop) (Q : Exit → Act → World → Prop)
    (hp : ptrIs (a.eval x) = true) (ht : HasK 33 w (ptrB (a.eval x)) (ptrO (a.eval x))) :
    Oper.wp Tryd.prog ⟨dst, .load 46 x, ty, pos, af, none⟩ a w K Q = K (a.put dst (.agg (readK 33 w (ptrB (a.eval x)) (ptrO (a.eval x))).toArray)) w :=
  wp_loadK Tryd.underlying46 rfl i33 dst x ty pos af a w K Q hp ht
theorem store_item (dst : Option Tmp) (x y : Operand) (ty : TypeId) (pos : String) (af : Array Edge) (a : Act) (w : World) (K : Act → World → Prop) (Q : Exit → Act → World → Prop)
    (hp : ptrIs (a.eval x) = true) (hy : aggIs (a.eval y) = true) (ht : HasK 33 w (ptrB (a.eval x)) (ptrO (a.eval x))) (hc : AllK 33 (aggL (a.eval y))) :
    Oper.wp Tryd.prog ⟨dst, .store 46 x y, ty, pos, af, none⟩ a w K Q = K (a.put dst undef) (w.setCells (ptrB (a.eval x)) (ptrO (a.eval x)) (aggL (a.eval y))) :=
  wp_storeK i33 dst x y ty pos af a w K Q hp hy ht hc
attribute [local go_sem ↓] load_item store_item
attribute [local go_sem] ptrB_eq ptrO_eq ptrIs_eq aggL_eq aggIs_eq
theorem allI_cells {x : Les} (h : Wf x) : AllK 33 (cellsI x) := ⟨cellsI_len h, one_cellsI x⟩
set_option maxRecDepth 100000 in
set_option maxHeartbeats 1000000 in
theorem eswap_calls (base g n cap : Nat) (l : List Les) (i j : Nat) (x y : Les) (w : World) (h : Row 46 w base g n cap l) (hx : l[i]? = some x) (hy : l[j]? = some y) :
    Calls Tryd.prog 94 #[.slice (some ⟨g, 0, none⟩) n cap, .int .i64 i, .int .i64 j] w fun e w' => e = .returned (.tuple #[]) ∧ Row 46 w' base g n cap (swap l i j) ∧ Chg (fun b => b = g) w w' := by
  have hi : i < n := by
    rw [h.len]
    rcases Nat.lt_or_ge i l.length with h | h
    · exact h
    · rw [List.getElem?_eq_none h] at hx; cases hx
  have hj : j < n := by
    rw [h.len]
    rcases Nat.lt_or_ge j l.length with h | h
    · exact h
    · rw [List.getElem?_eq_none h] at hy; cases hy
  have hwx := h.wf x (List.mem_of_getElem? hx)
  have hwy := h.wf y (List.mem_of_getElem? hy)
  have i0 : (0 : Int) ≤ (i : Int) := by omega
  have i1 : (i : Int) < (n : Int) := by omega
  have j0 : (0 : Int) ≤ (j : Int) := by omega
  have j1 : (j : Int) < (n : Int) := by omega
  obtain ⟨wd, hwd⟩ : ∃ wd, wd = w.drew := ⟨_, rfl⟩
  have h0 : Row 46 wd base g n cap l := by rw [hwd]; exact h.drew
  have rx : readK 33 w.drew g (i * 33) = cellsI x := readK_eq (h.drew.range hx) (cellsI_len hwx)
  have ry : readK 33 w.drew g (j * 33) = cellsI y := readK_eq (h.drew.range hy) (cellsI_len hwy)
  have t1 : HasK 33 w.drew g (i * 33) := h.drew.there hi
  have t1' : HasK 33 w.drew g (j * 33) := h.drew.there hj
  have h1 := h.drew.set hi hwy
  have ax := allI_cells hwx
  have ay := allI_cells hwy
  have h2 := Lib.hid (h1.set hj hwx)
  have hsw : swap l i j = (l.set i y).set j x := by unfold swap; rw [hx, hy]
  have hc : Chg (fun b => b = g) w ((w.drew.setCells g (i * 33) (cellsI y)).setCells g (j * 33) (cellsI x)) := Chg.setCells (S := fun b => b = g) (L := g) rfl _ _ _ (Chg.setCells (S := fun b => b = g) (L := g) rfl _ _ _ (Chg.drew (Chg.refl _ _)))
  have HC := Lib.hid hc; have HSW := Lib.hid hsw
  obtain ⟨cx, hcx⟩ : ∃ c, c = cellsI x := ⟨_, rfl⟩
  obtain ⟨cy, hcy⟩ : ∃ c, c = cellsI y := ⟨_, rfl⟩
  have t2 : HasK 33 (w.drew.setCells g (i * 33) cy) g (j * 33) := by rw [hcy]; exact h1.there hj
  have ex : cellsI x = cx := hcx.symm
  have ey : cellsI y = cy := hcy.symm
  rw [← hcx] at rx ax
  rw [← hcy] at ry ay
  rw [ex, ey] at h2 HC
  clear h h1 hx hy hwx hwy hc hsw hcx hcy ex ey h0 hwd
  go_enter Tryd.func94, Tryd.ntmps94
  go_wp2_with fail
  go_region
  all_goals
    go_wp2
    go_end0
    rw [HSW.out]
    exact ⟨rfl, h2.out, HC.out⟩
/-- a table in memory: its cell, its row -/
structure LTab (w : World) (tb : Nat) (v : Value) (l : List Les) : Prop where
  cell : Blk w tb #[v] 40
  own : w.ownsRow 0 46 33 v l.length (itemsV l)
  wf : ∀ x ∈ l, Wf x
  apart : v.ownBlock ≠ some tb
theorem LTab.ex {w : World} {tb : Nat} {v : Value} {l : List Les} (h : LTab w tb v l) (h0 : 0 < l.length) : ∃ g cap, v = .slice (some ⟨g, 0, none⟩) l.length cap ∧ Row 46 w 0 g l.length cap l := by
  rcases h.own.2 with ⟨e, e2⟩ | ⟨g, cap, cur, e, hr⟩
  · exact absurd e2 (by simp at e2; omega)
  · exact ⟨g, cap, e, ⟨by rw [← e]; exact h.own, rfl, h.wf⟩⟩
end Go.Proofs.YtgjabnpngggcmaaDoor
