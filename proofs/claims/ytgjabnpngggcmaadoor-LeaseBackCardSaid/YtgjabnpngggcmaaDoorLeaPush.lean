/- Walks of the heap's ends: one thing more, one less; Push, Fix, Pop, Remove. -/
import Derived.Test.YtgjabnpngggcmaaDoorLeaDown
import Derived.Test.YtgjabnpngggcmaaDoorAppK
namespace Go.Proofs.YtgjabnpngggcmaaDoor
open Go Go.RowKit Go.Mem Gf Lea
attribute [local go_sem ↓] Go.wp_at_zero Go.wp_at_succ load_item store_item
attribute [local go_sem] meth_less meth_swap meth_len meth_push meth_pop ptrB_eq ptrO_eq ptrIs_eq aggL_eq aggIs_eq
theorem EKi : ElemK Tryd.prog 38 46 (.agg ((List.replicate 32 (Value.int .u8 0)) ++ [Value.int .i64 0]).toArray) 33 40 := ⟨Tryd.underlying38, by kernel_rfl, rfl, by decide⟩
theorem as_item (v : Value) (w : World) : (Instr.typeAssert (.iface 46 v) 20 46 false).run Tryd.prog w = .ok v w := by kernel_rfl
attribute [local go_sem] as_item
theorem slice_item (dst : Option Tmp) (x : Operand) (ty : TypeId) (pos : String) (af : Array Edge) (a : Act) (w : World) (K : Act → World → Prop) (Q : Exit → Act → World → Prop) (hy : aggIs (a.eval x) = true) (hc : AllK 33 (aggL (a.eval x))) :
    Oper.wp Tryd.prog ⟨dst, .buildSlice 38 1 #[(0, x)], ty, pos, af, none⟩ a w K Q = K (a.put dst (.slice (some ⟨w.heap.size, 0, none⟩) 1 1)) (w.alloc (.cells (aggL (a.eval x)).toArray 46)) :=
  wp_sliceK Tryd.underlying38 (by kernel_rfl) (by decide) (by decide) dst x ty pos af a w K Q hy hc
attribute [local go_sem ↓] slice_item
/-- a table's blocks are as they were but its own -/
def TChg (tb : Nat) (v v' : Value) (w w' : World) : Prop := Chg (fun b => b = tb ∨ v.ownBlock = some b) w w' ∧ ∀ k, v'.ownBlock = some k → v.ownBlock = some k ∨ w.heap.size ≤ k
theorem chg_cell (w : World) (g i : Nat) (v : Value) : Chg (fun b => b = g) w (w.setCell ⟨g, i, none⟩ v) := Chg.set (S := fun b => b = g) (Chg.refl _ _) (a := ⟨g, i, none⟩) rfl v
set_option maxRecDepth 100000 in
theorem epush_calls (w : World) (tb : Nat) (v : Value) (l : List Les) (x : Les) (n : Nat) (hn : l.length = n) (h : LTab w tb v l) (hx : Wf x) (hl : n ≤ 1000000) :
    Calls Tryd.prog 96 #[.pointer (some ⟨tb, 0, none⟩), .iface 46 (.agg (cellsI x).toArray)] w fun e w' => e = .returned (.tuple #[]) ∧ ∃ v', LTab w' tb v' (l ++ [x]) ∧ TChg tb v v' w w' := by
  have hc : w.cell? ⟨tb, 0, none⟩ = some v := by simpa using h.cell.cell 0
  have hf := h.cell.free 0
  have H := Lib.hid h
  have hn32 : n + 1 ≤ 4294967296 := by omega
  have hk := allI_cells hx
  clear h
  go_enter Tryd.func96, Tryd.ntmps96
  go_wp2_with fail
  have hlt : tb < w.heap.size := H.out.cell.lt
  go_region_law
    (first
      | (refine stepAppN EKi (by rfl) _ _ (by rfl) (base := 0) (v := v) (n := n) (m := 1) (xs := itemsV l) (cellsI x) (by rfl) (by rfl) (by rw [cellsI_len hx]) (by exact new_news rfl) (one_cellsI x) (by have ho := H.out.own; rw [hn] at ho; exact (show w.drew.ownsRow _ _ _ _ _ _ from ho).alloc _) hn32 (by decide) (by omega) ?_
         intro v1 x1 hv1 hg1 hs1
         obtain ⟨a1, cp1, rfl, _⟩ := own_eq_slice hv1
         have hB1 : Blk x1 tb #[v] 40 := Blk.grown' (by exact (show Blk w.drew _ _ _ from H.out.cell).alloc _) hg1 H.out.apart
         have hh : x1.cell? ⟨tb, 0, none⟩ = some v := by simpa using hB1.cell 0
         have f2 : x1.frozen? ⟨tb, 0, none⟩ = false := hB1.free 0
         have hxc : Chg (fun b => b = tb ∨ v.ownBlock = some b) w x1 := Chg.grown (Chg.of_below ((Below.refl _ _).drew.alloc (by exact Nat.le_refl _) _)) hg1 (fun q hq => .inl (.inr hq))))
  all_goals
    go_wp2_with fail
    go_end0
    refine ⟨rfl, .slice a1 (n + 1) cp1, ⟨hB1.set 0 _, ?_, ?_, ?_⟩, hxc.set (a := ⟨tb, 0, none⟩) (.inl rfl) _, ?_⟩
    · have hne : (Value.slice a1 (n + 1) cp1).ownBlock ≠ some tb := fun e => by
        rcases hs1 tb e with e1 | e1
        · exact H.out.apart e1
        · simp at e1; omega
      rw [itemsV_app, show itemsV [x] = cellsI x from by simp [itemsV], List.length_append, hn]
      exact own_chg hv1 (chg_cell x1 tb 0 _) (fun g hg e => hne (by rw [hg, e]))
    · intro y hy
      rcases List.mem_append.1 hy with hy | hy
      · exact H.out.wf y hy
      · rw [List.mem_singleton.1 hy]; exact hx
    · intro e
      rcases hs1 tb e with e1 | e1
      · exact H.out.apart e1
      · simp at e1; omega
    · intro k hk
      rcases hs1 k hk with e1 | e1
      · exact .inl e1
      · right; simp at e1; omega
end Go.Proofs.YtgjabnpngggcmaaDoor
