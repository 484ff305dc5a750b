/- Rows of numbers that a call has made; a short list to Decode; a blob appended at a step. -/
import Derived.Test.YtdciakbichgddaaRsBlob
import Derived.Test.YtdciakbichgddaaRsREnc
namespace Go.Mem
open Go Go.RowKit Gf
def numArr (n : Nat) (p : Nat → Nat) : Array Value := (Array.range n).map fun i => .int .i64 (p i : Int)
theorem numArr_size (n : Nat) (p : Nat → Nat) : (numArr n p).size = n := by simp [numArr]
theorem numArr_get (n : Nat) (p : Nat → Nat) (i : Nat) (hi : i < n) : (numArr n p)[i]? = some (.int .i64 (p i : Int)) := by simp [numArr, hi]
theorem numArr_set (n : Nat) (p : Nat → Nat) (i u : Nat) : (numArr n p).setIfInBounds i (.int .i64 (u : Int)) = numArr n (fun j => if j = i then u else p j) := by
  apply Array.ext_getElem?
  intro j
  rw [Array.getElem?_setIfInBounds]
  by_cases hj : j < n
  · rw [numArr_get n (fun j => if j = i then u else p j) _ hj]
    by_cases e : i = j
    · subst e; simp [numArr_size, hj]
    · rw [if_neg e, numArr_get _ _ _ hj, if_neg (fun e' => e e'.symm)]
  · have h1 : (numArr n (fun j => if j = i then u else p j))[j]? = none := Array.getElem?_eq_none (by rw [numArr_size]; omega)
    have h2 : (numArr n p)[j]? = none := Array.getElem?_eq_none (by rw [numArr_size]; omega)
    rw [h1, h2]
    split
    · rename_i e; subst e; rw [if_neg (by rw [numArr_size]; exact hj)]
    · rfl
theorem numArr_congr {n : Nat} {p q : Nat → Nat} (h : ∀ i, i < n → p i = q i) : numArr n p = numArr n q := by
  apply Array.ext
  · simp [numArr_size]
  · intro i h1 h2
    rw [numArr_size] at h1
    simp only [numArr, Array.getElem_map, Array.getElem_range]
    rw [h i h1]
theorem madeCells_nums (k : Nat) : madeCells #[.int .i64 0] k = numArr k (fun _ => 0) := by
  apply Array.ext
  · simp [madeCells, numArr_size]
  · intro i h1 h2
    simp [madeCells, Nat.mod_one, numArr]
theorem make_nums {P : Program} (t e : TypeId) (ht : P.underlying t = some (.slice e)) (hi : (P.info? e).map (fun i => (i.zero, i.size, i.bytes)) = some (some (.int .i64 0), 1, 8))
    (k : Nat) (hk : k ≤ 1000000) (w : World) :
    (Instr.makeSlice t (.int .i64 (k : Int)) (.int .i64 (k : Int))).run P w = .ok (.slice (some ⟨w.heap.size, 0, none⟩) k k) (w.alloc (.cells (numArr k fun _ => 0) e)) := by
  obtain ⟨i, hi, hz, hs, hb⟩ := info_parts hi
  have := run_make (P := P) w t e i (.int .i64 0) ht hi hz .i64 .i64 k k (by omega) (Int.le_refl _) (by rw [hb]; omega) (by omega)
  rw [hs] at this
  simp only [Int.toNat_natCast, Nat.mul_one, Value.cells, madeCells_nums] at this
  exact this
/-- one blob is appended, at a step of a region that draws its order -/
theorem stepApp_blob {P : Program} {w : World} {ops : Array Oper} {o : Oper} {a : Act} {K : Act → World → Prop} {Q : Exit → Act → World → Prop} {E0 : Prop} {t e : TypeId} {z : Value} {bytes : Nat}
    (hu : P.underlying t = some (.slice e)) (hinf : (P.info? e).map (fun i => (i.zero, i.size, i.bytes)) = some (some z, 2, bytes)) (hz2 : z.cells.size = 2) (hgd : o.guard = none) (s x : Operand)
    (ho : o.op = .call { callee := .builtin .append, args := #[s, x], argTypes := #[t, t] })
    {base : Nat} {v : Value} {n : Nat} {xs : List Value} (u1 u2 : Value) (hs : a.eval s = v) {mb : Nat} (hx : a.eval x = .slice (some ⟨mb, 0, none⟩) 1 1) (hc1 : w.cell? ⟨mb, 0, none⟩ = some u1) (hc2 : w.cell? ⟨mb, 1, none⟩ = some u2) (h1 : u1.oneCell' = true) (h2 : u2.oneCell' = true)
    (hown : w.ownsRow base e 2 v n xs) (hn : n + 1 ≤ 4294967296) (hby : bytes ≤ 4096) (hbase : base ≤ w.heap.size)
    (h : ∀ v' w', w'.ownsRow base e 2 v' (n + 1) (xs ++ [u1, u2]) → w.grownBy w' v.ownBlock → K (a.put o.dst v') w') :
    if Region.wanted o (yielded ops a.tmps) = true then Oper.wp P o a w K Q else E0 := by
  have hw : Region.wanted o (yielded ops a.tmps) = true := by simp [Region.wanted, hgd]
  rw [if_pos hw]
  obtain ⟨i, hi, hz, hsz, hb⟩ := info_parts hinf
  have hm : (n + 1) * bytes ≤ 4294967296 * 4096 := Nat.mul_le_mul hn hby
  exact wp_append_own w s x t ho base e i z 2 bytes hu hi hz hsz hb hz2 (by decide) v n xs hs hown ⟨mb, 0, none⟩ 1 1 [u1, u2] hx rfl
    (fun j y hj => by
      match j with
      | 0 => simp at hj; subst hj; simpa [Addr.add] using hc1
      | 1 =>
        simp at hj; subst hj
        rw [show (⟨mb, 0, none⟩ : Addr).add 1 = ⟨mb, 1, none⟩ from rfl]; exact hc2
      | j + 2 => simp at hj)
    (fun y hy => by simp at hy; rcases hy with rfl | rfl; exact h1; exact h2) (by unfold maxLen; omega) (by omega) hbase
    (fun v' w' h2 h3 _ => h v' w' h2 h3)
/-- an order of the numbers below n -/
def Ord (n : Nat) (p : Nat → Nat) : Prop := (∀ i, i < n → p i < n) ∧ ∀ i j, i < n → j < n → p i = p j → i = j
theorem Ord.id (n : Nat) : Ord n fun i => i := ⟨fun _ h => h, fun _ _ _ _ e => e⟩
theorem Ord.swap {n : Nat} {p : Nat → Nat} (h : Ord n p) {c d : Nat} (hc : c < n) (hd : d < n) : Ord n fun i => p (sw c d i) :=
  ⟨fun i hi => h.1 _ (sw_lt hc hd hi), fun i j hi hj e => by
    have := h.2 _ _ (sw_lt hc hd hi) (sw_lt hc hd hj) e
    rw [← sw_sw c d i, this, sw_sw]⟩
end Go.Mem
namespace Go.Proofs.Ytdciakbichgddaa
open Go Go.RowKit Go.Mem Gf

set_option maxHeartbeats 1000000 in
theorem decode_short (b k n : Nat) (a : Option Addr) (len cap : Nat) (w : World) (hc : IsCode w b k n) (h : len ≠ k) :
    Calls Try.prog 69 #[.pointer (some ⟨b, 0, none⟩), .slice a len cap] w fun e w' => e = .returned (.tuple #[.slice none 0 0, .int .i64 1]) ∧ w = w' := by
  obtain ⟨am, cm, hB, _⟩ := hc
  have c0 : w.cell? ⟨b, 0, none⟩ = some (.int .i64 k) := by rw [hB.cell]; rfl
  have t1 : ((len : Int) != (k : Int)) = true := by simp; omega
  have t2 : (len != k) = true := by simp; omega
  clear h
  go_enter Try.func69, Try.ntmps69
  go_wp2
  go_ret2
  exact ⟨rfl, rfl⟩
theorem length_piece (bs : List UInt8) (k : Nat) (hk : 1 ≤ k) : lengthN (bs.length : Int) k = (pieceN bs k : Int) := by
  have hp : pieceN bs k = (bs.length + k - 1) / k := by
    unfold pieceN padN
    rw [Nat.mul_div_cancel _ (by omega)]
  rw [hp]
  unfold lengthN
  by_cases h : bs.length = 0
  · rw [if_pos (by omega), h, Nat.zero_add, Nat.div_eq_of_lt (by omega)]; rfl
  · rw [if_neg (by omega), show bs.length + k - 1 = (bs.length - 1) + k from by omega, Nat.add_div_right _ (by omega)]
    have : ((bs.length : Int) - 1) = ((bs.length - 1 : Nat) : Int) := by omega
    rw [this]; simp
end Go.Proofs.Ytdciakbichgddaa
