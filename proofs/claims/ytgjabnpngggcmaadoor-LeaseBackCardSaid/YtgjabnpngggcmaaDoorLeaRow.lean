/- An index's leases as they lie in memory; the order of two. -/
import Derived.Test.YtgjabnpngggcmaaDoorLeaRemove
import Derived.Test.YtgjabnpngggcmaaDoorSortIns
import Derived.Test.YtgjabnpngggcmaaDoorRowG
import Derived.Test.YtgjabnpngggcmaaDoorKeys
namespace Lea
open Go Go.RowKit Go.Mem Gf
abbrev Sec := List UInt8 × Int
def encL (x : Sec) : List Value := bV x.1 ++ [.int .i64 x.2]
def WfL (x : Sec) : Prop := x.1.length = 16
theorem ecL : EncK encL WfL 17 := by
  refine ⟨fun x h => ?_, fun x v hv => ?_, by decide⟩
  · unfold encL
    rw [List.length_append, bV_len, h, List.length_singleton]
  · unfold encL at hv
    rcases List.mem_append.1 hv with hv | hv
    · exact bV_one _ v hv
    · rw [List.mem_singleton.1 hv]; rfl
theorem encL_end {x : Sec} (h : WfL x) : (encL x)[16]? = some (.int .i64 x.2) := by
  unfold encL
  rw [List.getElem?_append_right (by rw [bV_len, h]; omega), bV_len, h]
  rfl
theorem encL_sec {x : Sec} {k : Nat} {u : UInt8} (h : x.1[k]? = some u) : (encL x)[k]? = some (.int .u8 u.toNat) := by
  unfold encL
  rw [List.getElem?_append_left (by rw [bV_len]; exact (List.getElem?_eq_some_iff.1 h).1)]
  simp [bV, h]
theorem allL {x : Sec} (h : WfL x) : AllK 17 (encL x) := ⟨ecL.len x h, ecL.one x⟩
/-- by their ends, then by their secrets -/
def ltL (a b : Sec) : Bool := decide (a.2 < b.2) || (decide (a.2 = b.2) && decide (Go.Lib.compareBytes a.1 b.1 < 0))
theorem ltL_false {a b : Sec} : ltL a b = false ↔ b.2 < a.2 ∨ (a.2 = b.2 ∧ 0 ≤ Go.Lib.compareBytes a.1 b.1) := by
  unfold ltL
  simp only [Bool.or_eq_false_iff, decide_eq_false_iff_not, Bool.and_eq_false_iff]
  omega
theorem ordL : Srt.Ord ltL := by
  refine ⟨fun a b h => ?_, fun a b c h1 h2 => ?_⟩
  · rw [ltL_false]
    unfold ltL at h
    simp only [Bool.or_eq_true, decide_eq_true_eq, Bool.and_eq_true] at h
    have := cmp_neg a.1 b.1
    omega
  · rw [ltL_false] at *
    have e1 := cmp_neg a.1 b.1
    have e2 := cmp_neg b.1 c.1
    have e3 := cmp_neg a.1 c.1
    rcases h1 with h1 | h1
    · rcases h2 with h2 | h2 <;> (left; omega)
    · rcases h2 with h2 | h2
      · left; omega
      · right
        have := cmp_trans a.1 b.1 c.1 (by omega) (by omega)
        omega
theorem ltL_anti {a b : Sec} (h1 : ltL a b = false) (h2 : ltL b a = false) : a = b := by
  rw [ltL_false] at *
  have := cmp_neg a.1 b.1
  have e : a.2 = b.2 := by omega
  have : Go.Lib.compareBytes a.1 b.1 = 0 := by omega
  exact Prod.ext (cmp_eq0 _ _ this) e
/-- two rows in order with the same things are the same -/
theorem sorted_eq {α : Type} {R : α → α → Prop} (hanti : ∀ a b, R a b → R b a → a = b) : ∀ (l m : List α), l.Pairwise R → m.Pairwise R → l.Perm m → l = m
  | [], m, _, _, h => h.nil_eq
  | a :: l, [], _, _, h => by exact absurd h.length_eq (by simp)
  | a :: l, b :: m, hl, hm, h => by
    have hl' := List.pairwise_cons.1 hl
    have hm' := List.pairwise_cons.1 hm
    have e : a = b := by
      rcases List.mem_cons.1 (h.mem_iff.1 (List.mem_cons_self : a ∈ a :: l)) with e | ha
      · exact e
      · rcases List.mem_cons.1 (h.mem_iff.2 (List.mem_cons_self : b ∈ b :: m)) with e | hb
        · exact e.symm
        · exact hanti _ _ (hl'.1 b hb) (hm'.1 a ha)
    subst e
    rw [sorted_eq hanti l m hl'.2 hm'.2 ((List.perm_cons a).1 h)]
end Lea
namespace Go.Proofs.YtgjabnpngggcmaaDoor
open Go Go.RowKit Go.Mem Gf Lea
attribute [local go_sem ↓] Go.wp_at_zero Go.wp_at_succ
theorem i17 : (Tryd.prog.info? 29).map (·.size) = some 17 := by kernel_rfl
theorem load_lease (dst : Option Tmp) (x : Operand) (ty : TypeId) (pos : String) (af : Array Edge) (a : Act) (w : World) (K : Act → World → Prop) (Q : Exit → Act → World → Prop)
    (hp : ptrIs (a.eval x) = true) (ht : HasK 17 w (ptrB (a.eval x)) (ptrO (a.eval x))) :
    Oper.wp Tryd.prog ⟨dst, .load 29 x, ty, pos, af, none⟩ a w K Q = K (a.put dst (.agg (readK 17 w (ptrB (a.eval x)) (ptrO (a.eval x))).toArray)) w :=
  wp_loadK Tryd.underlying29 rfl i17 dst x ty pos af a w K Q hp ht
theorem store_lease (dst : Option Tmp) (x y : Operand) (ty : TypeId) (pos : String) (af : Array Edge) (a : Act) (w : World) (K : Act → World → Prop) (Q : Exit → Act → World → Prop)
    (hp : ptrIs (a.eval x) = true) (hy : aggIs (a.eval y) = true) (ht : HasK 17 w (ptrB (a.eval x)) (ptrO (a.eval x))) (hc : AllK 17 (aggL (a.eval y))) :
    Oper.wp Tryd.prog ⟨dst, .store 29 x y, ty, pos, af, none⟩ a w K Q = K (a.put dst undef) (w.setCells (ptrB (a.eval x)) (ptrO (a.eval x)) (aggL (a.eval y))) :=
  wp_storeK i17 dst x y ty pos af a w K Q hp hy ht hc
attribute [local go_sem ↓] load_lease store_lease
attribute [local go_sem] ptrB_eq ptrO_eq ptrIs_eq aggL_eq aggIs_eq
end Go.Proofs.YtgjabnpngggcmaaDoor
