/- Loads of many cells that came in: no word of what is frozen. -/
import Derived.Test.YtgjabnpngggcmaaDoorFar
import Derived.Test.YtgjabnpngggcmaaDoorOpenS
namespace Go.Mem
open Go Go.RowKit Gf
/-- n cells are there -/
def SomeK (n : Nat) (w : World) (g o : Nat) : Prop := ∀ j, j < n → (w.cell? ⟨g, o + j, none⟩).isSome = true
theorem someK_drew (n : Nat) (w : World) (g o : Nat) : SomeK n w.drew g o = SomeK n w g o := rfl
theorem someK_alloc_past {w : World} (o' : Obj) (n g o : Nat) (hn : g < w.heap.size) : SomeK n (w.alloc o') g o = SomeK n w g o := by
  unfold SomeK
  apply propext
  constructor
  · intro h j hj
    have := h j hj
    rwa [World.cell?_alloc_past _ _ _ hn] at this
  · intro h j hj
    rw [World.cell?_alloc_past _ _ _ hn]
    exact h j hj
theorem HasK.some {n : Nat} {w : World} {g o : Nat} (h : HasK n w g o) : SomeK n w g o := fun j hj => (h j hj).1
theorem someK_of {n : Nat} {w : World} {g o : Nat} {cs : List Value} (h : w.rangeAt g o cs) (hn : cs.length = n) : SomeK n w g o := fun j hj => by
  rw [h j (cs[j]'(by omega)) (List.getElem?_eq_getElem (by omega))]; rfl
theorem readS_range {n : Nat} {w : World} {g o : Nat} (h : SomeK n w g o) : w.rangeAt g o (readK n w g o) := fun j v hj => by
  have hjn : j < n := by
    rcases Nat.lt_or_ge j n with h | h
    · exact h
    · rw [List.getElem?_eq_none (by rw [readK_len]; exact h)] at hj; cases hj
  obtain ⟨u, hu⟩ := Option.isSome_iff_exists.1 (h j hjn)
  rw [hu]
  unfold readK at hj
  rw [List.getElem?_map, List.getElem?_range hjn] at hj
  simp only [Option.map_some, hu, Option.getD_some] at hj
  exact hj
theorem wp_loadS {P : Program} {n : Nat} {t : TypeId} {d : TypeDesc} (hu : P.underlying t = some d) (hd : d.isRow = true) (hi : (P.info? t).map (·.size) = some n) (dst : Option Tmp) (x : Operand) (ty : TypeId) (pos : String) (af : Array Edge) (gd : Option (Tmp × Bool)) (a : Act) (w : World) (K : Act → World → Prop) (Q : Exit → Act → World → Prop)
    (hp : ptrIs (a.eval x) = true) (ht : SomeK n w (ptrB (a.eval x)) (ptrO (a.eval x))) :
    Oper.wp P ⟨dst, .load t x, ty, pos, af, gd⟩ a w K Q = K (a.put dst (.agg (readK n w (ptrB (a.eval x)) (ptrO (a.eval x))).toArray)) w := by
  unfold Oper.wp execOp
  have e := ptr_of hp
  have hl := run_loadVar_mid (P := P) w (ptrB (a.eval x)) (ptrO (a.eval x)) t (readK n w (ptrB (a.eval x)) (ptrO (a.eval x))) d (readS_range ht) hu hd (by rw [hi, readK_len])
  simp only
  rw [e]
  simp only [ptrB_eq, ptrO_eq, Instr.loadAt, Instr.sureAddr, Sem.run_bind, Sem.run_pure, Result.andThen_ok, hl]
  rfl
theorem quiet_loadS {P : Program} {n : Nat} {t : TypeId} {d : TypeDesc} (hu : P.underlying t = some d) (hd : d.isRow = true) (hi : (P.info? t).map (·.size) = some n) (dst : Option Tmp) (x : Operand) (ty : TypeId) (pos : String) (af : Array Edge) (gd : Option (Tmp × Bool)) (a : Act) (W : World) (K : Act → Prop)
    (hp : ptrIs (a.eval x) = true) (ht : SomeK n W (ptrB (a.eval x)) (ptrO (a.eval x))) :
    Oper.quiet P ⟨dst, .load t x, ty, pos, af, gd⟩ a (fun w' => ∃ n, w' = W.drewN n) K = K (a.put dst (.agg (readK n W (ptrB (a.eval x)) (ptrO (a.eval x))).toArray)) := by
  have e := ptr_of hp
  have hl : ∀ w', (∃ n, w' = W.drewN n) → ∀ v, Oper.quietAt P ⟨dst, .load t x, ty, pos, af, gd⟩ a (fun w' => ∃ n, w' = W.drewN n) w' v ↔ .agg (readK n W (ptrB (a.eval x)) (ptrO (a.eval x))).toArray = v := fun w' ⟨m, hm⟩ v => by
    subst hm
    have hr := run_loadVar_mid (P := P) (W.drewN m) (ptrB (a.eval x)) (ptrO (a.eval x)) t (readK n W (ptrB (a.eval x)) (ptrO (a.eval x))) d (readS_range ht) hu hd (by rw [hi, readK_len])
    unfold Oper.quietAt execOp
    simp only
    rw [e]
    simp only [ptrB_eq, ptrO_eq, Instr.loadAt, Instr.sureAddr, Sem.run_bind, Sem.run_pure, Result.andThen_ok, hr, Oper.quietUpon, true_and]
  unfold Oper.quiet
  apply propext
  constructor
  · rintro ⟨v, h1, h2⟩
    rw [(hl W ⟨0, rfl⟩ v).1 (h1 W ⟨0, rfl⟩)]
    exact h2
  · intro h
    exact ⟨_, fun w hw => (hl w hw _).2 rfl, h⟩
end Go.Mem
