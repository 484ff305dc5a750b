/- A load and a store of a thing of many cells in one step of a walk. -/
import Derived.Test.YtgjabnpngggcmaaDoorTail
import Derived.Test.YtgjabnpngggcmaaDoorCopySet
import Derived.Deep.MidRow
import Derived.Great.BuildSlice
namespace Go.Mem
open Go
def ptrB : Value → Nat
  | .pointer (some ⟨b, _, _⟩) => b
  | _ => 0
def ptrO : Value → Nat
  | .pointer (some ⟨_, o, _⟩) => o
  | _ => 0
def ptrIs : Value → Bool
  | .pointer (some ⟨_, _, none⟩) => true
  | _ => false
def aggL : Value → List Value
  | .agg cs => cs.toList
  | _ => []
def aggIs : Value → Bool
  | .agg _ => true
  | _ => false
@[simp] theorem ptrB_eq (b o : Nat) : ptrB (.pointer (some ⟨b, o, none⟩)) = b := rfl
@[simp] theorem ptrO_eq (b o : Nat) : ptrO (.pointer (some ⟨b, o, none⟩)) = o := rfl
@[simp] theorem ptrIs_eq (b o : Nat) : ptrIs (.pointer (some ⟨b, o, none⟩)) = true := rfl
@[simp] theorem aggL_eq (cs : Array Value) : aggL (.agg cs) = cs.toList := rfl
@[simp] theorem aggIs_eq (cs : Array Value) : aggIs (.agg cs) = true := rfl
theorem ptr_of {v : Value} (h : ptrIs v = true) : v = .pointer (some ⟨ptrB v, ptrO v, none⟩) := by
  unfold ptrIs at h
  split at h
  · rfl
  · cases h
theorem agg_of {v : Value} (h : aggIs v = true) : v = .agg (aggL v).toArray := by
  unfold aggIs at h
  split at h
  · simp
  · cases h
/-- what lies in n cells -/
def readK (n : Nat) (w : World) (g o : Nat) : List Value := (List.range n).map fun k => (w.cell? ⟨g, o + k, none⟩).getD undef
/-- n cells lie there -/
def HasK (n : Nat) (w : World) (g o : Nat) : Prop := w.there g o n
/-- n values of one cell each -/
def AllK (n : Nat) (cs : List Value) : Prop := cs.length = n ∧ ∀ v ∈ cs, v.oneCell' = true
theorem readK_len (n : Nat) (w : World) (g o : Nat) : (readK n w g o).length = n := by simp [readK]
theorem readK_eq {n : Nat} {w : World} {g o : Nat} {cs : List Value} (h : w.rangeAt g o cs) (hl : cs.length = n) : readK n w g o = cs := by
  apply List.ext_getElem?
  intro k
  unfold readK
  rw [List.getElem?_map]
  rcases Nat.lt_or_ge k n with hk | hk
  · rw [List.getElem?_range hk]
    have hc : k < cs.length := by omega
    rw [Option.map_some, h k cs[k] (by simp), Option.getD_some, List.getElem?_eq_getElem hc]
  · rw [List.getElem?_eq_none (by simpa using hk), List.getElem?_eq_none (by omega)]; rfl
theorem readK_range {n : Nat} {w : World} {g o : Nat} (h : HasK n w g o) : w.rangeAt g o (readK n w g o) := fun j v hj => by
  have hjn : j < n := by
    rcases Nat.lt_or_ge j n with h | h
    · exact h
    · rw [List.getElem?_eq_none (by rw [readK_len]; exact h)] at hj; cases hj
  obtain ⟨u, hu⟩ := Option.isSome_iff_exists.1 (h j hjn).1
  rw [hu]
  unfold readK at hj
  rw [List.getElem?_map, List.getElem?_range hjn] at hj
  simp only [Option.map_some, hu, Option.getD_some] at hj
  exact hj
theorem wp_loadK {P : Program} {n : Nat} {t : TypeId} {d : TypeDesc} (hu : P.underlying t = some d) (hd : d.isRow = true) (hi : (P.info? t).map (·.size) = some n) (dst : Option Tmp) (x : Operand) (ty : TypeId) (pos : String) (af : Array Edge) (a : Act) (w : World) (K : Act → World → Prop) (Q : Exit → Act → World → Prop)
    (hp : ptrIs (a.eval x) = true) (ht : HasK n w (ptrB (a.eval x)) (ptrO (a.eval x))) :
    Oper.wp P ⟨dst, .load t x, ty, pos, af, none⟩ a w K Q = K (a.put dst (.agg (readK n w (ptrB (a.eval x)) (ptrO (a.eval x))).toArray)) w := by
  unfold Oper.wp execOp
  have e := ptr_of hp
  have hl := run_loadVar_mid (P := P) w (ptrB (a.eval x)) (ptrO (a.eval x)) t (readK n w (ptrB (a.eval x)) (ptrO (a.eval x))) d (readK_range ht) hu hd (by rw [hi, readK_len])
  simp only
  rw [e]
  simp only [ptrB_eq, ptrO_eq, Instr.loadAt, Instr.sureAddr, Sem.run_bind, Sem.run_pure, Result.andThen_ok, hl]
  rfl
theorem wp_storeK {P : Program} {n : Nat} {t : TypeId} (hi : (P.info? t).map (·.size) = some n) (dst : Option Tmp) (x y : Operand) (ty : TypeId) (pos : String) (af : Array Edge) (a : Act) (w : World) (K : Act → World → Prop) (Q : Exit → Act → World → Prop)
    (hp : ptrIs (a.eval x) = true) (hy : aggIs (a.eval y) = true) (ht : HasK n w (ptrB (a.eval x)) (ptrO (a.eval x))) (hc : AllK n (aggL (a.eval y))) :
    Oper.wp P ⟨dst, .store t x y, ty, pos, af, none⟩ a w K Q = K (a.put dst undef) (w.setCells (ptrB (a.eval x)) (ptrO (a.eval x)) (aggL (a.eval y))) := by
  unfold Oper.wp execOp
  have e := ptr_of hp
  have e2 := agg_of hy
  have hl := run_storeVar_mid (P := P) w (ptrB (a.eval x)) (ptrO (a.eval x)) t (aggL (a.eval y)).toArray (by simpa [hc.1] using (show w.there (ptrB (a.eval x)) (ptrO (a.eval x)) n from ht)) (by simpa [hc.1] using hi) (Array.all_eq_true_iff_forall_mem.2 fun v hv => hc.2 v (by simpa using hv))
  simp only
  rw [e, e2]
  simp only [ptrB_eq, ptrO_eq, aggL_eq, Instr.storeAt, Instr.sureAddr, Sem.run_bind, Sem.run_pure, Result.andThen_ok, hl]
  rfl
theorem agg_cells {v : Value} (h : aggIs v = true) : v.cells = (aggL v).toArray := by
  rw [agg_of h]; rfl
/-- a slice literal of one thing of many cells -/
theorem wp_sliceK {P : Program} {n : Nat} {t e : TypeId} (hu : P.underlying t = some (.slice e)) (hi : (P.info? e).map (fun i => (i.size, (i.zero.map (·.cells.size)))) = some (n, some n)) (hn : 0 < n) (hn2 : n ≤ 1000)
    (dst : Option Tmp) (x : Operand) (ty : TypeId) (pos : String) (af : Array Edge) (a : Act) (w : World) (K : Act → World → Prop) (Q : Exit → Act → World → Prop)
    (hy : aggIs (a.eval x) = true) (hc : AllK n (aggL (a.eval x))) :
    Oper.wp P ⟨dst, .buildSlice t 1 #[(0, x)], ty, pos, af, none⟩ a w K Q = K (a.put dst (.slice (some ⟨w.heap.size, 0, none⟩) 1 1)) (w.alloc (.cells (aggL (a.eval x)).toArray e)) := by
  cases hie : P.info? e with
  | none => rw [hie] at hi; cases hi
  | some ie =>
    rw [hie] at hi
    simp only [Option.map_some, Option.some.injEq, Prod.mk.injEq] at hi
    obtain ⟨h1, h2⟩ := hi
    cases hz : ie.zero with
    | none => rw [hz] at h2; cases h2
    | some z =>
      have hcs := agg_cells hy
      have hsz : (a.eval x).cells.size = n := by rw [hcs]; simpa using hc.1
      have hf := Great.fill_whole (s := n) hn [a.eval x] ((Array.range (1 * n)).map (z.cells[· % z.cells.size]!)) (fun v hv => by rw [List.mem_singleton.1 hv]; exact hsz) (by simp)
      unfold Oper.wp execOp
      have hr := run_buildSlice (P := P) w t e 1 #[(0, a.eval x)] (([a.eval x].flatMap fun v => v.cells.toList).toArray) ie z hu hie hz (by rw [h1]; omega) (by rw [h1]; omega) (by rw [h1]; exact hf)
      simp only [List.map_toArray, List.map_cons, List.map_nil, Sem.run_bind, hr, Result.andThen_ok]
      simp only [List.flatMap_cons, List.flatMap_nil, List.append_nil, hcs]
      rfl
theorem fold_two (u v : Array Value) (z : Array Value) (hz : z.size = u.size + v.size) :
    v.zipIdx.foldl (fun cs (x : Value × Nat) => cs.setIfInBounds (u.size + x.2) x.1) (u.zipIdx.foldl (fun cs (x : Value × Nat) => cs.setIfInBounds (0 + x.2) x.1) z) = u ++ v := by
  have e1 := Great.foldl_set 0 u.toList 0 z
  obtain ⟨r, hr⟩ : ∃ r, r = (u.toList.zipIdx 0).foldl (fun cs (x : Value × Nat) => cs.setIfInBounds (0 + x.2) x.1) z := ⟨_, rfl⟩
  have ea : ∀ (q : Array Value) (o : Nat) (c : Array Value), q.zipIdx.foldl (fun cs (x : Value × Nat) => cs.setIfInBounds (o + x.2) x.1) c = (q.toList.zipIdx 0).foldl (fun cs (x : Value × Nat) => cs.setIfInBounds (o + x.2) x.1) c := fun q o c => by
    rw [← Array.foldl_toList, Array.toList_zipIdx]
  rw [ea, ea, ← hr]
  rw [← hr] at e1
  have e2 := Great.foldl_set u.size v.toList 0 r
  apply Array.ext_getElem?
  intro k
  rw [e2.2, e1.2, e1.1]
  simp only [Array.length_toList, Nat.add_zero, Nat.zero_add, Array.getElem?_toList, Nat.zero_le, true_and, Nat.sub_zero]
  rw [Array.getElem?_append]
  by_cases h1 : k < u.size
  · rw [if_neg (by omega), if_pos ⟨h1, by omega⟩, if_pos h1]
  · rw [if_neg h1]
    by_cases h2 : k < u.size + v.size
    · rw [if_pos ⟨by omega, by omega, by omega⟩]
    · rw [if_neg (by omega), if_neg (by omega), Array.getElem?_eq_none (by omega), Array.getElem?_eq_none (by omega)]
/-- a struct literal of two parts -/
theorem built_two {P : Program} {t : TypeId} {fields : Array Field} {n m : Nat} {u v : Value} (hu : P.underlying t = some (.struct fields)) (hi : ((P.info? t).bind (·.zero)).map (·.cells.size) = some (n + m))
    (hp : fields.toList.mapM (fun f => (P.info? f.type).map fun i => (f.offset, i.size)) = some [(0, n), (n, m)]) (h1 : u.cells.size = n) (h2 : v.cells.size = m) : P.built t [(0, u), (1, v)] = some (u.cells ++ v.cells) := by
  unfold Program.built
  cases hit : P.info? t with
  | none => rw [hit] at hi; cases hi
  | some it =>
    rw [hit] at hi
    simp only [Option.bind_some] at hi
    cases hz : it.zero with
    | none => rw [hz] at hi; cases hi
    | some z =>
      rw [hz] at hi
      simp only [Option.map_some, Option.some.injEq] at hi
      simp only [hu, hp, hz]
      have e1 := (Great.foldl_set 0 u.cells.toList 0 z.cells).1
      have ea : ∀ (q : Array Value) (o : Nat) (c : Array Value), q.zipIdx.foldl (fun cs (x : Value × Nat) => cs.setIfInBounds (o + x.2) x.1) c = (q.toList.zipIdx 0).foldl (fun cs (x : Value × Nat) => cs.setIfInBounds (o + x.2) x.1) c := fun q o c => by
        rw [← Array.foldl_toList, Array.toList_zipIdx]
      rw [← ea] at e1
      have hf := fold_two u.cells v.cells z.cells (by omega)
      rw [h1] at hf
      simp only [Instr.fill, List.getElem?_toArray, List.getElem?_cons_zero, List.getElem?_cons_succ, h1, h2, ne_eq, not_true_eq_false, decide_false, Bool.false_or, e1]
      rw [if_neg (by simp; omega), if_neg (by simp; omega), hf]
/-- a struct literal of two parts, as one step -/
theorem wp_buildTwo {P : Program} {t : TypeId} {fields : Array Field} {n m : Nat} (hu : P.underlying t = some (.struct fields)) (hi : ((P.info? t).bind (·.zero)).map (·.cells.size) = some (n + m))
    (hp : fields.toList.mapM (fun f => (P.info? f.type).map fun i => (f.offset, i.size)) = some [(0, n), (n, m)])
    (dst : Option Tmp) (x y : Operand) (ty : TypeId) (pos : String) (af : Array Edge) (a : Act) (w : World) (K : Act → World → Prop) (Q : Exit → Act → World → Prop)
    (h1 : (a.eval x).cells.size = n) (h2 : (a.eval y).cells.size = m) :
    Oper.wp P ⟨dst, .build t #[(0, x), (1, y)], ty, pos, af, none⟩ a w K Q = K (a.put dst (.agg ((a.eval x).cells ++ (a.eval y).cells))) w := by
  unfold Oper.wp execOp
  have hr := run_build (P := P) w t #[(0, a.eval x), (1, a.eval y)] _ (built_two hu hi hp h1 h2)
  simp only [List.map_toArray, List.map_cons, List.map_nil, Sem.run_bind, hr, Result.andThen_ok]
  rfl
theorem hasK_new {n : Nat} {arr : Array Value} (h : n ≤ arr.size) (w : World) (t : TypeId) : HasK n (w.alloc (.cells arr t)) w.heap.size 0 := fun j hj => by
  have hb := Blk.new w arr t
  exact ⟨by rw [hb.cell]; simp; omega, hb.free _⟩
theorem hasK_set {n : Nat} {w : World} {b o : Nat} (h : HasK n w b o) (g p : Nat) (cs : List Value) : HasK n (w.setCells g p cs) b o := World.there_setCells h _ _ _
theorem readK_set {n : Nat} {w : World} {b o : Nat} {cs : List Value} (h : HasK n w b o) (hc : AllK n cs) : readK n (w.setCells b o cs) b o = cs := by
  refine readK_eq (World.rangeAt_setCells_same _ _ _ _ ?_) hc.1
  rw [hc.1]; exact h
end Go.Mem
