/- Plain facts on memory: what has changed but for some blocks; rows of a matrix written anew. No program in sight. -/
import Derived.Test.YtgjabnpngggcmaaDoorMatMem
namespace Go.Mem
open Go Go.RowKit Gf

/-- w' is as w was, but for the blocks of S, and new ones -/
structure Chg (S : Nat → Prop) (w w' : World) : Prop where
  os : w'.os = w.os
  tape : w'.tape = w.tape
  output : w'.output = w.output
  size : w.heap.size ≤ w'.heap.size
  block : ∀ k, k < w.heap.size → ¬ S k → w'.heap[k]? = w.heap[k]?
section
variable {S T : Nat → Prop} {w w' w'' : World}
theorem Chg.refl (S : Nat → Prop) (w : World) : Chg S w w := ⟨rfl, rfl, rfl, Nat.le_refl _, fun _ _ _ => rfl⟩
theorem Chg.trans (h : Chg S w w') (h' : Chg S w' w'') : Chg S w w'' :=
  ⟨h'.os.trans h.os, h'.tape.trans h.tape, h'.output.trans h.output, Nat.le_trans h.size h'.size, fun k hk hs => (h'.block k (Nat.lt_of_lt_of_le hk h.size) hs).trans (h.block k hk hs)⟩
theorem Chg.mono (h : Chg S w w') (hs : ∀ k, S k → T k) : Chg T w w' := ⟨h.os, h.tape, h.output, h.size, fun k hk ht => h.block k hk fun hS => ht (hs k hS)⟩
theorem Chg.of_below (h : Below w.heap.size w w') : Chg S w w' := ⟨h.os, h.tape, h.output, h.size, fun k hk _ => h.block k hk⟩
theorem Chg.drew (h : Chg S w w') : Chg S w w'.drew := ⟨h.os, h.tape, h.output, h.size, h.block⟩
theorem Chg.drewN (h : Chg S w w') (n : Nat) : Chg S w (w'.drewN n) := ⟨h.os, h.tape, h.output, h.size, h.block⟩
theorem Chg.set (h : Chg S w w') {a : Addr} (ha : S a.block) (v : Value) : Chg S w (w'.setCell a v) :=
  ⟨h.os, h.tape, h.output, by simp [World.setCell]; exact h.size, fun k hk hs => by
    rw [Below.heap_setCell _ _ _ _ (fun e => hs (by rw [e]; exact ha))]; exact h.block k hk hs⟩
theorem Chg.below {B : Nat} (h : Chg S w w') (hB : B ≤ w.heap.size) (hs : ∀ k, S k → B ≤ k) : Below B w w' :=
  ⟨h.os, h.tape, h.output, h.size, fun k hk => h.block k (by omega) fun hS => by have := hs k hS; omega⟩
theorem Chg.blk {b : Nat} {arr : Array Value} {t : TypeId} (h : Chg S w w') (hb : Blk w b arr t) (hs : ¬ S b) : Blk w' b arr t := by
  unfold Blk at *; rw [h.block b (lt_of_block hb) hs]; exact hb
end
section
variable {t8 tr : TypeId} {w w' : World} {base X n m : Nat} {ids : Nat → Nat} {F G : Mx} {S : Nat → Prop}
theorem OwnM.chg (h : OwnM t8 tr w base X ids n m F) (hc : Chg S w w') (hX : ¬ S X) (hi : ∀ i, i < n → ¬ S (ids i)) : OwnM t8 tr w' base X ids n m F :=
  h.kept fun b hb => by
    rcases hb with rfl | ⟨i, hin, rfl⟩
    · exact hc.block _ h.lt.1 hX
    · exact hc.block _ (h.lt.2 i hin) (hi i hin)
/-- row r is written anew, no other one -/
theorem OwnM.row (h : OwnM t8 tr w base X ids n m F) {r : Nat} (hr : r < n) {f : Nat → UInt8} (hc : ∀ b, b ≠ ids r → (b = X ∨ ∃ i, i < n ∧ b = ids i) → w'.heap[b]? = w.heap[b]?) (hf : Blk w' (ids r) (rowArr m f) t8) :
    OwnM t8 tr w' base X ids n m (fun i k => if i = r then f k else F i k) := by
  obtain ⟨arr, hb, hs, hg⟩ := h.outer
  refine ⟨⟨arr, ?_, hs, hg⟩, fun i hi => ?_, h.unlike, h.apart, h.low⟩
  · unfold Blk at *; rw [hc X (fun e => h.apart r hr e.symm) (.inl rfl)]; exact hb
  · by_cases e : i = r
    · subst e; simp only [if_true]; exact hf
    · simp only [if_neg e]
      have := h.rows i hi
      unfold Blk at *
      rw [hc _ (fun e' => e (h.unlike i r hi hr e')) (.inr ⟨i, hi, rfl⟩)]; exact this
/-- rows c and p changed places -/
theorem OwnM.swap (h : OwnM t8 tr w base X ids n m F) {c p : Nat} (hc : c < n) (hp : p < n) :
    OwnM t8 tr ((w.setCell ⟨X, c, none⟩ (rowV m (ids p))).setCell ⟨X, p, none⟩ (rowV m (ids c))) base X (fun i => ids (sw c p i)) n m (fun i => F (sw c p i)) := by
  obtain ⟨arr, hb, hs, hg⟩ := h.outer
  refine ⟨⟨_, (hb.set c _).set p _, by simp [hs], fun i hi => ?_⟩, fun i hi => ?_, fun i j hi hj e => ?_, fun i hi => h.apart _ (sw_lt hc hp hi), h.low.1, fun i hi => h.low.2 _ (sw_lt hc hp hi)⟩
  · rw [Array.getElem?_setIfInBounds, Array.getElem?_setIfInBounds]
    unfold sw
    by_cases e1 : i = c
    · subst e1
      by_cases e2 : p = i
      · subst e2; simp [hs, hi]
      · rw [if_neg e2, if_pos rfl, if_pos (by omega), if_pos rfl]
    · by_cases e2 : i = p
      · subst e2; simp [hs, hi, e1]
      · rw [if_neg (fun e => e2 e.symm), if_neg (fun e => e1 e.symm), if_neg e1, if_neg e2]; exact hg i hi
  · have hi' := sw_lt hc hp hi
    exact ((h.rows _ hi').set_other (fun e => h.apart _ hi' e.symm) _).set_other (fun e => h.apart _ hi' e.symm) _
  · have := h.unlike _ _ (sw_lt hc hp hi) (sw_lt hc hp hj) e
    rw [← sw_sw c p i, this, sw_sw]
end
end Go.Mem
