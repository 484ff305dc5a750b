/- Loads and stores of many cells where memory is new. -/
import Derived.Test.YtgjabnpngggcmaaDoorLongOp
import Derived.Test.YtgjabnpngggcmaaDoorRowG
namespace Go.Mem
open Go Go.RowKit Gf
section
variable {w : World}
theorem readK_drew (n : Nat) (w : World) (g o : Nat) : readK n w.drew g o = readK n w g o := rfl
theorem hasK_drew (n : Nat) (w : World) (g o : Nat) : HasK n w.drew g o = HasK n w g o := rfl
theorem setCells_drew (w : World) (g : Nat) : ∀ (cs : List Value) (o : Nat), w.drew.setCells g o cs = (w.setCells g o cs).drew := fun cs o => by
  induction cs generalizing o w with
  | nil => rfl
  | cons v vs ih => exact ih (w.setCell ⟨g, o, none⟩ v) (o + 1)
theorem readK_alloc_past (o' : Obj) (n g o : Nat) (hn : g < w.heap.size) : readK n (w.alloc o') g o = readK n w g o := by
  unfold readK
  apply List.map_congr_left
  intro k _
  rw [World.cell?_alloc_past _ _ _ hn]
theorem hasK_alloc_past (o' : Obj) (n g o : Nat) (hn : g < w.heap.size) : HasK n (w.alloc o') g o = HasK n w g o := by
  unfold HasK World.there
  apply propext
  constructor
  · intro h j hj
    have := h j hj
    rw [World.cell?_alloc_past _ _ _ hn, World.frozen?_alloc_past _ _ _ hn] at this
    exact this
  · intro h j hj
    rw [World.cell?_alloc_past _ _ _ hn, World.frozen?_alloc_past _ _ _ hn]
    exact h j hj
theorem readK_alloc_at (c : Array Value) (t : TypeId) (n g : Nat) (hn : g = w.heap.size) (hc : c.size = n) : readK n (w.alloc (.cells c t)) g 0 = c.toList := by
  subst hn
  have hb := Blk.new w c t
  refine readK_eq (fun k v hv => ?_) (by simpa using hc)
  rw [hb.cell, Nat.zero_add]
  simpa using hv
/-- a part of a row of cells -/
def cutC (c : Array Value) (o n : Nat) : List Value := (c.toList.drop o).take n
theorem readK_alloc_in (c : Array Value) (t : TypeId) (n g o : Nat) (hn : g = w.heap.size) (hc : o + n ≤ c.size) : readK n (w.alloc (.cells c t)) g o = cutC c o n := by
  subst hn
  have hb := Blk.new w c t
  unfold cutC
  have hl : ((c.toList.drop o).take n).length = n := by
    rw [List.length_take, List.length_drop, Array.length_toList]; omega
  refine readK_eq (fun k v hv => ?_) hl
  have hk : k < n := by have := some_lt hv; omega
  rw [hb.cell]
  rw [List.getElem?_take, if_pos hk, List.getElem?_drop, Array.getElem?_toList] at hv
  exact hv
theorem hasK_alloc_in (c : Array Value) (t : TypeId) (n g o : Nat) (hn : g = w.heap.size) (hc : o + n ≤ c.size) : HasK n (w.alloc (.cells c t)) g o := by
  subst hn
  intro j hj
  have hb := Blk.new w c t
  exact ⟨by rw [hb.cell]; simp; omega, hb.free _⟩
theorem hasK_alloc_at (c : Array Value) (t : TypeId) (n g : Nat) (hn : g = w.heap.size) (hc : n ≤ c.size) : HasK n (w.alloc (.cells c t)) g 0 := by
  subst hn
  intro j hj
  have hb := Blk.new w c t
  exact ⟨by rw [hb.cell]; simp; omega, hb.free _⟩
theorem setCells_alloc_past (o' : Obj) (n : Nat) (hn : n < w.heap.size) (cs : List Value) (o : Nat) : (w.alloc o').setCells n o cs = (w.setCells n o cs).alloc o' := by
  induction cs generalizing o w with
  | nil => rfl
  | cons v vs ih =>
    show ((w.alloc o').setCell ⟨n, o, none⟩ v).setCells n (o + 1) vs = _
    rw [World.setCell_alloc_past _ _ _ _ hn]
    exact ih (by simpa using hn) (o + 1)
theorem setCells_alloc_some (c : Array Value) (t : TypeId) (n : Nat) (hn : n = w.heap.size) (cs : List Value) (o : Nat) : ∃ c' : Array Value, (w.alloc (.cells c t)).setCells n o cs = w.alloc (.cells c' t) := by
  induction cs generalizing o c with
  | nil => exact ⟨c, rfl⟩
  | cons v vs ih =>
    show ∃ c' : Array Value, ((w.alloc (.cells c t)).setCell ⟨n, o, none⟩ v).setCells n (o + 1) vs = _
    rw [World.setCell_alloc_at _ _ _ _ _ hn]
    exact ih _ (o + 1)
theorem setCells_alloc_at (c : Array Value) (t : TypeId) (n : Nat) (cs : List Value) (hn : n = w.heap.size) (hc : c.size = cs.length) : (w.alloc (.cells c t)).setCells n 0 cs = w.alloc (.cells cs.toArray t) := by
  subst hn
  obtain ⟨c', e⟩ := setCells_alloc_some c t w.heap.size rfl cs 0
  obtain ⟨arr, h1, h2, h3⟩ := Blk.setCells cs 0 _ _ (Blk.new w c t)
  rw [e] at h1 ⊢
  have h4 := Blk.new w c' t
  have e2 : c' = arr := by
    unfold Blk at h1 h4
    rw [h1] at h4
    simpa using h4.symm
  have e3 : arr = cs.toArray := by
    apply Array.ext_getElem?
    intro k
    rcases Nat.lt_or_ge k c.size with hk | hk
    · rw [h3 k hk, if_pos ⟨Nat.zero_le _, by omega⟩, Nat.sub_zero]; simp
    · rw [Array.getElem?_eq_none (by omega), Array.getElem?_eq_none (by simp; omega)]
  rw [e2, e3]
end
theorem quiet_loadK {P : Program} {n : Nat} {t : TypeId} {d : TypeDesc} (hu : P.underlying t = some d) (hd : d.isRow = true) (hi : (P.info? t).map (·.size) = some n) (dst : Option Tmp) (x : Operand) (ty : TypeId) (pos : String) (af : Array Edge) (gd : Option (Tmp × Bool)) (a : Act) (W : World) (K : Act → Prop)
    (hp : ptrIs (a.eval x) = true) (ht : HasK n W (ptrB (a.eval x)) (ptrO (a.eval x))) :
    Oper.quiet P ⟨dst, .load t x, ty, pos, af, gd⟩ a (fun w' => ∃ n, w' = W.drewN n) K = K (a.put dst (.agg (readK n W (ptrB (a.eval x)) (ptrO (a.eval x))).toArray)) := by
  have e := ptr_of hp
  have hl : ∀ w', (∃ n, w' = W.drewN n) → ∀ v, Oper.quietAt P ⟨dst, .load t x, ty, pos, af, gd⟩ a (fun w' => ∃ n, w' = W.drewN n) w' v ↔ .agg (readK n W (ptrB (a.eval x)) (ptrO (a.eval x))).toArray = v := fun w' ⟨m, hm⟩ v => by
    subst hm
    have hr := run_loadVar_mid (P := P) (W.drewN m) (ptrB (a.eval x)) (ptrO (a.eval x)) t (readK n W (ptrB (a.eval x)) (ptrO (a.eval x))) d (readK_range ht) hu hd (by rw [hi, readK_len])
    unfold Oper.quietAt execOp
    simp only
    rw [e]
    simp only [ptrB_eq, ptrO_eq, Instr.loadAt, Instr.sureAddr, Sem.run_bind, Sem.run_pure, Result.andThen_ok, hr, Oper.quietUpon, true_and]
  unfold Oper.quiet
  apply propext
  constructor
  · rintro ⟨v, h1, h2⟩
    rw [(hl W ⟨0, rfl⟩ v).1 (h1 W ⟨0, rfl⟩)]
    exact h2
  · intro h
    exact ⟨_, fun w hw => (hl w hw _).2 rfl, h⟩
theorem wp_loadG {P : Program} {n : Nat} {t : TypeId} {d : TypeDesc} (hu : P.underlying t = some d) (hd : d.isRow = true) (hi : (P.info? t).map (·.size) = some n) (dst : Option Tmp) (x : Operand) (ty : TypeId) (pos : String) (af : Array Edge) (gd : Option (Tmp × Bool)) (a : Act) (w : World) (K : Act → World → Prop) (Q : Exit → Act → World → Prop)
    (hp : ptrIs (a.eval x) = true) (ht : HasK n w (ptrB (a.eval x)) (ptrO (a.eval x))) :
    Oper.wp P ⟨dst, .load t x, ty, pos, af, gd⟩ a w K Q = K (a.put dst (.agg (readK n w (ptrB (a.eval x)) (ptrO (a.eval x))).toArray)) w := by
  unfold Oper.wp execOp
  have e := ptr_of hp
  have hl := run_loadVar_mid (P := P) w (ptrB (a.eval x)) (ptrO (a.eval x)) t (readK n w (ptrB (a.eval x)) (ptrO (a.eval x))) d (readK_range ht) hu hd (by rw [hi, readK_len])
  simp only
  rw [e]
  simp only [ptrB_eq, ptrO_eq, Instr.loadAt, Instr.sureAddr, Sem.run_bind, Sem.run_pure, Result.andThen_ok, hl]
  rfl
end Go.Mem
