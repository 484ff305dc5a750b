/- Plain facts on memory: a block that is known whole, its cells, what a store makes of it; bytes that a slice reads as. No program in sight. -/
import Derived.WalkKit
import Derived.WalkSmall
import Derived.Deep.Draws
namespace Go.Mem
open Go Go.RowKit

/-- block b holds just these cells, of type t, none of them frozen -/
def Blk (w : World) (b : Nat) (arr : Array Value) (t : TypeId) : Prop := w.heap[b]? = some (.cells arr t (0, 0))

section
variable {w w' : World} {b B : Nat} {arr : Array Value} {t : TypeId}

theorem Blk.cell (h : Blk w b arr t) (i : Nat) : w.cell? ⟨b, i, none⟩ = arr[i]? := by
  unfold Blk at h; simp [World.cell?, h]
theorem Blk.free (h : Blk w b arr t) (i : Nat) : w.frozen? ⟨b, i, none⟩ = false := by
  unfold Blk at h; simp [World.frozen?, h]
theorem Blk.lt (h : Blk w b arr t) : b < w.heap.size := lt_of_block h
theorem Blk.new (w : World) (arr : Array Value) (t : TypeId) : Blk (w.alloc (.cells arr t)) w.heap.size arr t := by
  show (w.heap.push _)[w.heap.size]? = _
  simp
theorem Blk.new_at (w : World) (arr : Array Value) (t : TypeId) (n : Nat) (h : n = w.heap.size) : Blk (w.alloc (.cells arr t)) n arr t := by
  subst h; exact Blk.new w arr t
theorem Blk.alloc (h : Blk w b arr t) (o : Obj) : Blk (w.alloc o) b arr t := by
  unfold Blk at *; rw [Below.heap_alloc _ _ _ (lt_of_block h)]; exact h
theorem Blk.drew (h : Blk w b arr t) : Blk w.drew b arr t := h
theorem Blk.drewN (h : Blk w b arr t) (n : Nat) : Blk (w.drewN n) b arr t := h
theorem Blk.set (h : Blk w b arr t) (i : Nat) (v : Value) : Blk (w.setCell ⟨b, i, none⟩ v) b (arr.setIfInBounds i v) t := by
  have hlt := h.lt
  unfold Blk at *
  have h' : w.heap[b] = .cells arr t (0, 0) := by simpa [Array.getElem?_eq_getElem hlt] using h
  show (w.heap.modify b _)[b]? = _
  rw [Array.getElem?_eq_getElem (by simpa using hlt), Array.getElem_modify_self, h']
  rfl
theorem Blk.set_other (h : Blk w b arr t) {a : Addr} (ha : a.block ≠ b) (v : Value) : Blk (w.setCell a v) b arr t := by
  unfold Blk at *; rw [Below.heap_setCell _ _ _ _ (fun e => ha e.symm)]; exact h
theorem Blk.below (h : Blk w b arr t) (hb : Below B w w') (hB : b < B) : Blk w' b arr t := by
  unfold Blk at *; rw [hb.block b hB]; exact h
/-- the same behind a call that leaves all that was there -/
theorem Blk.kept (h : Blk w b arr t) (hb : Below w.heap.size w w') : Blk w' b arr t := h.below hb h.lt
end

/-! ### bytes -/
/-- the value v is a slice of just these bytes -/
def Bys (w : World) (v : Value) (bs : List UInt8) : Prop :=
  ∃ a cap, v = .slice a bs.length cap ∧ bs.length ≤ cap ∧ cap ≤ maxLen ∧
    (0 < bs.length → ∃ b off, a = some ⟨b, off, none⟩ ∧ ∀ i u, bs[i]? = some u → w.cell? ⟨b, off + i, none⟩ = some (.int .u8 (u.toNat : Int)))
theorem Bys.nil (w : World) : Bys w (.slice none 0 0) [] := ⟨none, 0, rfl, Nat.le_refl _, Nat.zero_le _, fun h => by simp at h⟩
theorem Bys.len {w : World} {v : Value} {bs : List UInt8} (h : Bys w v bs) : bs.length ≤ 9223372036854775807 := by
  obtain ⟨a, cap, _, h1, h2, _⟩ := h
  unfold maxLen at h2; omega
theorem Bys.drewN {w : World} {v : Value} {bs : List UInt8} (h : Bys w v bs) (n : Nat) : Bys (w.drewN n) v bs := h
theorem Bys.below {w w' : World} {v : Value} {bs : List UInt8} (h : Bys w v bs) (hb : Below w.heap.size w w') : Bys w' v bs := by
  obtain ⟨a, cap, h0, h1, h2, h3⟩ := h
  refine ⟨a, cap, h0, h1, h2, fun hp => ?_⟩
  obtain ⟨b, off, e, hc⟩ := h3 hp
  refine ⟨b, off, e, fun i u hi => ?_⟩
  have := hc i u hi
  rw [hb.cell (p := ⟨b, off + i, none⟩) (World.block_lt_of_cell? w _ this)]
  exact this
theorem u_lt (u : UInt8) : u.toNat < 256 := u.toNat_lt
/-- a byte of a slice, as the walk asks for it -/
theorem Bys.at {w : World} {a : Option Addr} {n cap : Nat} {bs : List UInt8} (h : Bys w (.slice a n cap) bs) (k : Nat) (hk : k < bs.length) :
    ∃ b off u, a = some ⟨b, off, none⟩ ∧ Hid (bs[k]? = some u) ∧ w.cell? ⟨b, off + k, none⟩ = some (.int .u8 (u.toNat : Int)) ∧ u.toNat < 256 := by
  obtain ⟨a', cap', e, h1, h2, h3⟩ := h
  obtain ⟨b, off, e', hc⟩ := h3 (by omega)
  injection e with e1 e2 e3
  refine ⟨b, off, bs[k], e1.trans e', by show bs[k]? = _; simp [hk], hc k _ (by simp [hk]), u_lt _⟩


/-- w' is w behind some draws -/
def Rd (w w' : World) : Prop := ∃ n, w' = w.drewN n
theorem Rd.refl (w : World) : Rd w w := ⟨0, rfl⟩
theorem Rd.more {w w' : World} (h : Rd w w') (n : Nat) : Rd w (w'.drewN n) := by
  obtain ⟨m, rfl⟩ := h; exact ⟨m + n, World.drewN_drewN _ _ _⟩
theorem Rd.trans {w w' w'' : World} (h : Rd w w') (h' : Rd w' w'') : Rd w w'' := by
  obtain ⟨m, rfl⟩ := h'; exact h.more m
theorem Rd.bys {w w' : World} (h : Rd w w') {v : Value} {bs : List UInt8} (hb : Bys w v bs) : Bys w' v bs := by
  obtain ⟨m, rfl⟩ := h; exact hb
theorem Rd.below {w w' : World} (h : Rd w w') : Below w.heap.size w w' := by
  obtain ⟨m, rfl⟩ := h; exact below_drewN (Below.refl _ _) m

theorem Bys.take {w : World} {a : Option Addr} {len cap : Nat} {bs : List UInt8} (h : Bys w (.slice a len cap) bs) (n : Nat) (hn : n ≤ bs.length) : Bys w (.slice a n cap) (bs.take n) := by
  obtain ⟨a', cap', e, h1, h2, h3⟩ := h
  injection e with e1 e2 e3
  have hlen : (bs.take n).length = n := by simp; omega
  refine ⟨a, cap, by rw [hlen], by rw [hlen]; omega, by omega, fun hp => ?_⟩
  rw [hlen] at hp
  obtain ⟨b, off, e', hc⟩ := h3 (by omega)
  refine ⟨b, off, e1.trans e', fun i u hi => hc i u ?_⟩
  rw [List.getElem?_take] at hi
  split at hi
  · exact hi
  · cases hi

end Go.Mem
