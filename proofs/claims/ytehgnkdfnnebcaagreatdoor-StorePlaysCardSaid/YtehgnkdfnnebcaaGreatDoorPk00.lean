/- Texts of this proof, packed: Mem, Mem2, GfMath, MatMath, MatMem, App, MatChg, BKeep, Disk, CopySet, OwnF. -/
import Derived.WalkKit
import Derived.WalkSmall
import Derived.Deep.Draws
import Derived.Laws.AppendOwnNone
import Derived.Test.YtehgnkdfnnebcaaGreatDoorProg
import Derived.Outline
import Derived.Deep.QuietTactic
import Derived.BigQuiet
import Derived.Lib.Hide
import Derived.Laws.CopyOwn
import Derived.Deep.AppendLies
import Derived.Deep.RegionHeld3
import Derived.Deep.DrawnRows
import Derived.RegionTactic
import Derived.Deep.DeepCutAuto
import Derived.Deep.CutBlock
import Derived.ChangeAlike
import Derived.WalkLawsBesides
import Derived.Laws.MakeOwn
import Derived.Deep.MidRow
import Derived.Laws.IdiomCopy
section
namespace Go.Mem
open Go Go.RowKit
def Blk (w : World) (b : Nat) (arr : Array Value) (t : TypeId) : Prop := w.heap[b]? = some (.cells arr t (0, 0))
section
variable {w w' : World} {b B : Nat} {arr : Array Value} {t : TypeId}
theorem Blk.cell (h : Blk w b arr t) (i : Nat) : w.cell? ⟨b, i, none⟩ = arr[i]? := by
  unfold Blk at h; simp [World.cell?, h]
theorem Blk.free (h : Blk w b arr t) (i : Nat) : w.frozen? ⟨b, i, none⟩ = false := by
  unfold Blk at h; simp [World.frozen?, h]
theorem Blk.lt (h : Blk w b arr t) : b < w.heap.size := lt_of_block h
theorem Blk.new (w : World) (arr : Array Value) (t : TypeId) : Blk (w.alloc (.cells arr t)) w.heap.size arr t := by
  show (w.heap.push _)[w.heap.size]? = _
  simp
theorem Blk.new_at (w : World) (arr : Array Value) (t : TypeId) (n : Nat) (h : n = w.heap.size) : Blk (w.alloc (.cells arr t)) n arr t := by
  subst h; exact Blk.new w arr t
theorem Blk.alloc (h : Blk w b arr t) (o : Obj) : Blk (w.alloc o) b arr t := by
  unfold Blk at *; rw [Below.heap_alloc _ _ _ (lt_of_block h)]; exact h
theorem Blk.drew (h : Blk w b arr t) : Blk w.drew b arr t := h
theorem Blk.set (h : Blk w b arr t) (i : Nat) (v : Value) : Blk (w.setCell ⟨b, i, none⟩ v) b (arr.setIfInBounds i v) t := by
  have hlt := h.lt
  unfold Blk at *
  have h' : w.heap[b] = .cells arr t (0, 0) := by simpa [Array.getElem?_eq_getElem hlt] using h
  show (w.heap.modify b _)[b]? = _
  rw [Array.getElem?_eq_getElem (by simpa using hlt), Array.getElem_modify_self, h']
  rfl
theorem Blk.set_other (h : Blk w b arr t) {a : Addr} (ha : a.block ≠ b) (v : Value) : Blk (w.setCell a v) b arr t := by
  unfold Blk at *; rw [Below.heap_setCell _ _ _ _ (fun e => ha e.symm)]; exact h
theorem Blk.below (h : Blk w b arr t) (hb : Below B w w') (hB : b < B) : Blk w' b arr t := by
  unfold Blk at *; rw [hb.block b hB]; exact h
theorem Blk.kept (h : Blk w b arr t) (hb : Below w.heap.size w w') : Blk w' b arr t := h.below hb h.lt
end
def Bys (w : World) (v : Value) (bs : List UInt8) : Prop :=
  ∃ a cap, v = .slice a bs.length cap ∧ bs.length ≤ cap ∧ cap ≤ maxLen ∧
    (0 < bs.length → ∃ b off, a = some ⟨b, off, none⟩ ∧ ∀ i u, bs[i]? = some u → w.cell? ⟨b, off + i, none⟩ = some (.int .u8 (u.toNat : Int)))
theorem Bys.nil (w : World) : Bys w (.slice none 0 0) [] := ⟨none, 0, rfl, Nat.le_refl _, Nat.zero_le _, fun h => by simp at h⟩
theorem Bys.len {w : World} {v : Value} {bs : List UInt8} (h : Bys w v bs) : bs.length ≤ 9223372036854775807 := by
  obtain ⟨a, cap, _, h1, h2, _⟩ := h
  unfold maxLen at h2; omega
theorem Bys.drewN {w : World} {v : Value} {bs : List UInt8} (h : Bys w v bs) (n : Nat) : Bys (w.drewN n) v bs := h
theorem Bys.below {w w' : World} {v : Value} {bs : List UInt8} (h : Bys w v bs) (hb : Below w.heap.size w w') : Bys w' v bs := by
  obtain ⟨a, cap, h0, h1, h2, h3⟩ := h
  refine ⟨a, cap, h0, h1, h2, fun hp => ?_⟩
  obtain ⟨b, off, e, hc⟩ := h3 hp
  refine ⟨b, off, e, fun i u hi => ?_⟩
  have := hc i u hi
  rw [hb.cell (p := ⟨b, off + i, none⟩) (World.block_lt_of_cell? w _ this)]
  exact this
theorem u_lt (u : UInt8) : u.toNat < 256 := u.toNat_lt
theorem Bys.at {w : World} {a : Option Addr} {n cap : Nat} {bs : List UInt8} (h : Bys w (.slice a n cap) bs) (k : Nat) (hk : k < bs.length) :
    ∃ b off u, a = some ⟨b, off, none⟩ ∧ Hid (bs[k]? = some u) ∧ w.cell? ⟨b, off + k, none⟩ = some (.int .u8 (u.toNat : Int)) ∧ u.toNat < 256 := by
  obtain ⟨a', cap', e, h1, h2, h3⟩ := h
  obtain ⟨b, off, e', hc⟩ := h3 (by omega)
  injection e with e1 e2 e3
  refine ⟨b, off, bs[k], e1.trans e', by show bs[k]? = _; simp [hk], hc k _ (by simp [hk]), u_lt _⟩
def Rd (w w' : World) : Prop := ∃ n, w' = w.drewN n
theorem Rd.refl (w : World) : Rd w w := ⟨0, rfl⟩
theorem Rd.more {w w' : World} (h : Rd w w') (n : Nat) : Rd w (w'.drewN n) := by
  obtain ⟨m, rfl⟩ := h; exact ⟨m + n, World.drewN_drewN _ _ _⟩
theorem Rd.bys {w w' : World} (h : Rd w w') {v : Value} {bs : List UInt8} (hb : Bys w v bs) : Bys w' v bs := by
  obtain ⟨m, rfl⟩ := h; exact hb
theorem Bys.take {w : World} {a : Option Addr} {len cap : Nat} {bs : List UInt8} (h : Bys w (.slice a len cap) bs) (n : Nat) (hn : n ≤ bs.length) : Bys w (.slice a n cap) (bs.take n) := by
  obtain ⟨a', cap', e, h1, h2, h3⟩ := h
  injection e with e1 e2 e3
  have hlen : (bs.take n).length = n := by simp; omega
  refine ⟨a, cap, by rw [hlen], by rw [hlen]; omega, by omega, fun hp => ?_⟩
  rw [hlen] at hp
  obtain ⟨b, off, e', hc⟩ := h3 (by omega)
  refine ⟨b, off, e1.trans e', fun i u hi => hc i u ?_⟩
  rw [List.getElem?_take] at hi
  split at hi
  · exact hi
  · cases hi
end Go.Mem
end
section
namespace Go.Mem
open Go Go.RowKit
theorem madeCells_bytes (k : Nat) : madeCells #[.int .u8 0] k = Array.replicate k (.int .u8 0) := by
  apply Array.ext
  · simp [madeCells]
  · intro i h1 h2
    simp [madeCells, Nat.mod_one]
theorem make_bytes {P : Program} (t e : TypeId) (ht : P.underlying t = some (.slice e)) (hi : (P.info? e).map (fun i => (i.zero, i.size, i.bytes)) = some (some (.int .u8 0), 1, 1))
    (k : Nat) (hk : k ≤ 140737488355328) (w : World) :
    (Instr.makeSlice t (.int .i64 (k : Int)) (.int .i64 (k : Int))).run P w = .ok (.slice (some ⟨w.heap.size, 0, none⟩) k k) (w.alloc (.cells (Array.replicate k (.int .u8 0)) e)) := by
  obtain ⟨i, hi, hz, hs, hb⟩ := info_parts hi
  have := run_make (P := P) w t e i (.int .u8 0) ht hi hz .i64 .i64 k k (by omega) (Int.le_refl _) (by rw [hb]; omega) (by omega)
  rw [hs] at this
  simp only [Int.toNat_natCast, Nat.mul_one, Value.cells, madeCells_bytes] at this
  exact this
theorem Blk.bys {w : World} {b : Nat} {arr : Array Value} {t : TypeId} (h : Blk w b arr t) {bs : List UInt8} {cap : Nat} (hc : bs.length ≤ cap) (hm : cap ≤ maxLen)
    (ha : ∀ (i : Nat) (u : UInt8), bs[i]? = some u → arr[i]? = some (Value.int .u8 (u.toNat : Int))) : Bys w (.slice (some ⟨b, 0, none⟩) bs.length cap) bs :=
  ⟨_, cap, rfl, hc, hm, fun _ => ⟨b, 0, rfl, fun i u hi => by rw [Nat.zero_add, h.cell]; exact ha i u hi⟩⟩
theorem maxLen_ge {n : Nat} (h : n ≤ 9223372036854775807) : n ≤ maxLen := by unfold maxLen; exact h
end Go.Mem
end
section
namespace Gf
def tw (a : Nat) : Nat := (a * 2) ^^^ (a / 128 * 285)
def mulLoop : Nat → Nat → Nat → Nat → Nat
 | 0, _, _, out => out
 | n+1, a, b, out => mulLoop n (tw a) (b/2) (out ^^^ (b % 2 * a))
def mul (a b : Nat) : Nat := mulLoop 8 a b 0
theorem all256 {p : Nat → Bool} (h : (List.range 256).all p = true) (a : Nat) (ha : a < 256) : p a = true := List.all_eq_true.1 h a (List.mem_range.2 ha)
theorem tw_lt (a : Nat) (h : a < 256) : tw a < 256 := by
  have := all256 (p := fun a => decide (tw a < 256)) (by decide +kernel) a h
  simpa using this
theorem xor_lt (a b : Nat) (h : a < 256) (h' : b < 256) : a ^^^ b < 256 := Nat.xor_lt_two_pow (n := 8) h h'
theorem tw_xor (a b : Nat) (ha : a < 256) (hb : b < 256) : tw (a ^^^ b) = tw a ^^^ tw b := by
  have := all256 (p := fun a => (List.range 256).all fun b => tw (a ^^^ b) == tw a ^^^ tw b) (by decide +kernel) a ha
  simpa using all256 this b hb
theorem bit_lt (b a : Nat) (h : a < 256) : b % 2 * a < 256 := by
  rcases Nat.mod_two_eq_zero_or_one b with h' | h' <;> rw [h'] <;> omega
theorem mulLoop_lt (n : Nat) : ∀ a b o, a < 256 → o < 256 → mulLoop n a b o < 256 := by
  induction n with
  | zero => intro a b o _ h; exact h
  | succ n ih => intro a b o ha ho; exact ih _ _ _ (tw_lt a ha) (xor_lt _ _ ho (bit_lt _ _ ha))
theorem xor_half (b c : Nat) : (b ^^^ c) / 2 = b / 2 ^^^ c / 2 := by
  have := Nat.shiftRight_xor_distrib (a := b) (b := c) (i := 1)
  simpa [Nat.shiftRight_succ] using this
theorem xor_bit (b c a : Nat) : (b ^^^ c) % 2 * a = (b % 2 * a) ^^^ (c % 2 * a) := by
  have h : (b ^^^ c) % 2 = (b % 2) ^^^ (c % 2) := by
    have := Nat.xor_mod_two_pow (a := b) (b := c) (n := 1); simpa using this
  rw [h]
  rcases Nat.mod_two_eq_zero_or_one b with h' | h' <;> rcases Nat.mod_two_eq_zero_or_one c with h'' | h'' <;> rw [h', h''] <;> simp
theorem mulLoop_right (n : Nat) : ∀ a b c o p, mulLoop n a (b ^^^ c) (o ^^^ p) = mulLoop n a b o ^^^ mulLoop n a c p := by
  induction n with
  | zero => intros; rfl
  | succ n ih =>
    intro a b c o p
    simp only [mulLoop]
    rw [← ih, xor_half, xor_bit]
    congr 1
    rw [Nat.xor_assoc, Nat.xor_assoc]; congr 1
    rw [← Nat.xor_assoc, ← Nat.xor_assoc, Nat.xor_comm p]
theorem bit_xor (b a c : Nat) : b % 2 * (a ^^^ c) = (b % 2 * a) ^^^ (b % 2 * c) := by
  rcases Nat.mod_two_eq_zero_or_one b with h' | h' <;> rw [h'] <;> simp
theorem mulLoop_left (n : Nat) : ∀ a c b o p, a < 256 → c < 256 → mulLoop n (a ^^^ c) b (o ^^^ p) = mulLoop n a b o ^^^ mulLoop n c b p := by
  induction n with
  | zero => intros; rfl
  | succ n ih =>
    intro a c b o p ha hc
    simp only [mulLoop]
    rw [← ih _ _ _ _ _ (tw_lt a ha) (tw_lt c hc), tw_xor a c ha hc, bit_xor]
    congr 1
    rw [Nat.xor_assoc, Nat.xor_assoc]; congr 1
    rw [← Nat.xor_assoc, ← Nat.xor_assoc, Nat.xor_comm p]
theorem mul_lt (a b : Nat) (ha : a < 256) : mul a b < 256 := mulLoop_lt 8 a b 0 ha (by decide)
theorem mul_xor (a b c : Nat) : mul a (b ^^^ c) = mul a b ^^^ mul a c := by
  have := mulLoop_right 8 a b c 0 0; simpa [mul] using this
theorem xor_mul (a c b : Nat) (ha : a < 256) (hc : c < 256) : mul (a ^^^ c) b = mul a b ^^^ mul c b := by
  have := mulLoop_left 8 a c b 0 0 ha hc; simpa [mul] using this
theorem lin (f g : Nat → Nat) (hf : ∀ a b, a < 256 → b < 256 → f (a ^^^ b) = f a ^^^ f b) (hg : ∀ a b, a < 256 → b < 256 → g (a ^^^ b) = g a ^^^ g b)
    (h : (List.range 8).all (fun i => f (2 ^ i) == g (2 ^ i)) = true) : ∀ a, a < 256 → f a = g a := by
  have key : ∀ k, k ≤ 8 → ∀ x, x < 2 ^ k → f x = g x := by
    intro k
    induction k with
    | zero =>
      intro _ x hx
      have hx : x = 0 := by simpa using hx
      subst hx
      have h1 := hf 0 0 (by decide) (by decide); have h2 := hg 0 0 (by decide) (by decide)
      simp only [Nat.xor_self] at h1 h2
      rw [h1, h2]
    | succ k ih =>
      intro hk x hx
      by_cases hlt : x < 2 ^ k
      · exact ih (by omega) x hlt
      · have hp : 2 ^ k < 256 := Nat.lt_of_lt_of_le (Nat.pow_lt_pow_right (by decide) (show k < 8 by omega)) (by decide)
        have hy : x - 2 ^ k < 2 ^ k := by rw [Nat.pow_succ] at hx; omega
        have e : x = 2 ^ k ^^^ (x - 2 ^ k) := by
          have e1 : x = 2 ^ k + (x - 2 ^ k) := by omega
          have e2 := Nat.two_pow_add_eq_or_of_lt hy 1
          have e3 : 2 ^ k ^^^ (x - 2 ^ k) = 2 ^ k ||| (x - 2 ^ k) := by
            apply Nat.eq_of_testBit_eq
            intro i
            simp only [Nat.testBit_xor, Nat.testBit_or, Nat.testBit_two_pow]
            by_cases hi : k = i
            · subst hi
              simp [Nat.testBit_lt_two_pow hy]
            · simp [hi]
          rw [e3]; simp only [Nat.mul_one] at e2; omega
        rw [e, hf _ _ hp (by omega), hg _ _ hp (by omega), ih (by omega) _ hy]
        have := List.all_eq_true.1 h k (List.mem_range.2 (by omega))
        rw [beq_iff_eq.1 this]
  exact fun a ha => key 8 (Nat.le_refl _) a ha
theorem mul_comm (a b : Nat) (ha : a < 256) (hb : b < 256) : mul a b = mul b a := by
  have h1 : ∀ b, b < 256 → ∀ i, i < 8 → mul (2 ^ i) b = mul b (2 ^ i) := by
    intro b hb i hi
    have := all256 (p := fun b => (List.range 8).all fun i => mul (2 ^ i) b == mul b (2 ^ i)) (by decide +kernel) b hb
    simpa using List.all_eq_true.1 this i (List.mem_range.2 hi)
  refine lin (fun a => mul a b) (fun a => mul b a) (fun a c ha hc => xor_mul _ _ _ ha hc) (fun a c _ _ => mul_xor _ _ _) ?_ a ha
  exact List.all_eq_true.2 fun i hi => beq_iff_eq.2 (h1 b hb i (List.mem_range.1 hi))
theorem mul_assoc (a b c : Nat) (ha : a < 256) (hb : b < 256) (hc : c < 256) : mul a (mul b c) = mul (mul a b) c := by
  have h0 : (List.range 8).all (fun i => (List.range 8).all fun j => (List.range 8).all fun k => mul (2 ^ i) (mul (2 ^ j) (2 ^ k)) == mul (mul (2 ^ i) (2 ^ j)) (2 ^ k)) = true := by decide +kernel
  have p : ∀ i, i < 8 → 2 ^ i < 256 := fun i hi => Nat.lt_of_lt_of_le (Nat.pow_lt_pow_right (by decide) hi) (by decide)
  have h1 : ∀ i j, i < 8 → j < 8 → ∀ c, c < 256 → mul (2 ^ i) (mul (2 ^ j) c) = mul (mul (2 ^ i) (2 ^ j)) c := by
    intro i j hi hj
    refine lin (fun c => mul (2 ^ i) (mul (2 ^ j) c)) (fun c => mul (mul (2 ^ i) (2 ^ j)) c) (fun a c ha hc => ?_) (fun a c _ _ => mul_xor _ _ _) ?_
    · show mul (2 ^ i) (mul (2 ^ j) (a ^^^ c)) = _
      rw [mul_xor, mul_xor]
    · exact List.all_eq_true.1 (List.all_eq_true.1 h0 i (List.mem_range.2 hi)) j (List.mem_range.2 hj)
  have h2 : ∀ i, i < 8 → ∀ b, b < 256 → mul (2 ^ i) (mul b c) = mul (mul (2 ^ i) b) c := by
    intro i hi
    refine lin (fun b => mul (2 ^ i) (mul b c)) (fun b => mul (mul (2 ^ i) b) c) (fun a d ha hd => ?_) (fun a d ha hd => ?_) ?_
    · show mul (2 ^ i) (mul (a ^^^ d) c) = _
      rw [xor_mul _ _ _ ha hd, mul_xor]
    · show mul (mul (2 ^ i) (a ^^^ d)) c = _
      rw [mul_xor, xor_mul _ _ _ (mul_lt _ _ (p i hi)) (mul_lt _ _ (p i hi))]
    · exact List.all_eq_true.2 fun j hj => beq_iff_eq.2 (h1 i j hi (List.mem_range.1 hj) c hc)
  refine lin (fun a => mul a (mul b c)) (fun a => mul (mul a b) c) (fun a d ha hd => xor_mul _ _ _ ha hd) (fun a d ha hd => ?_) ?_ a ha
  · show mul (mul (a ^^^ d) b) c = _
    rw [xor_mul _ _ _ ha hd, xor_mul _ _ _ (mul_lt _ _ ha) (mul_lt _ _ hd)]
  · exact List.all_eq_true.2 fun i hi => beq_iff_eq.2 (h2 i (List.mem_range.1 hi) b hb)
theorem mul_one (a : Nat) (ha : a < 256) : mul a 1 = a := by
  have := all256 (p := fun a => mul a 1 == a) (by decide +kernel) a ha
  simpa using this
theorem one_mul (a : Nat) (ha : a < 256) : mul 1 a = a := by rw [mul_comm _ _ (by decide) ha, mul_one a ha]
theorem zero_mul (a : Nat) : mul 0 a = 0 := by
  have := xor_mul 0 0 a (by decide) (by decide)
  simpa using this
def ex : Nat → Nat
  | 0 => 1
  | n + 1 => tw (ex n)
theorem ext {a b : UInt8} (h : a.toNat = b.toNat) : a = b := UInt8.toNat_inj.1 h
end Gf
end
section
namespace Gf
abbrev Mx := Nat → Nat → UInt8
end Gf
end
section
namespace Go.Mem
open Go Go.RowKit Gf
def Rws (w : World) (v : Value) (rs : List (List UInt8)) : Prop :=
  ∃ a cap, v = .slice a rs.length cap ∧ rs.length ≤ cap ∧ cap ≤ maxLen ∧
    (0 < rs.length → ∃ b off, a = some ⟨b, off, none⟩ ∧ ∀ (i : Nat) (r : List UInt8), rs[i]? = some r → ∃ v', w.cell? ⟨b, off + i, none⟩ = some v' ∧ Bys w v' r)
theorem Rws.len {w : World} {v : Value} {rs : List (List UInt8)} (h : Rws w v rs) : rs.length ≤ 9223372036854775807 := by
  obtain ⟨a, cap, _, h1, h2, _⟩ := h
  unfold maxLen at h2; omega
theorem Rws.below {w w' : World} {v : Value} {rs : List (List UInt8)} (h : Rws w v rs) (hb : Below w.heap.size w w') : Rws w' v rs := by
  obtain ⟨a, cap, h0, h1, h2, h3⟩ := h
  refine ⟨a, cap, h0, h1, h2, fun hp => ?_⟩
  obtain ⟨b, off, e, hc⟩ := h3 hp
  refine ⟨b, off, e, fun i r hi => ?_⟩
  obtain ⟨v', hv, hr⟩ := hc i r hi
  exact ⟨v', by rw [hb.cell (p := ⟨b, off + i, none⟩) (World.block_lt_of_cell? w _ hv)]; exact hv, hr.below hb⟩
theorem Rws.at {w : World} {a : Option Addr} {n cap : Nat} {rs : List (List UInt8)} (h : Rws w (.slice a n cap) rs) (k : Nat) (hk : k < rs.length) :
    ∃ b off r v', a = some ⟨b, off, none⟩ ∧ Hid (rs[k]? = some r) ∧ w.cell? ⟨b, off + k, none⟩ = some v' ∧ Bys w v' r := by
  obtain ⟨a', cap', e, h1, h2, h3⟩ := h
  obtain ⟨b, off, e', hc⟩ := h3 (by omega)
  injection e with e1 e2 e3
  obtain ⟨v', hv, hr⟩ := hc k rs[k] (by simp [hk])
  exact ⟨b, off, rs[k], v', e1.trans e', by show rs[k]? = _; simp [hk], hv, hr⟩
def rowArr (m : Nat) (f : Nat → UInt8) : Array Value := (Array.range m).map fun k => .int .u8 ((f k).toNat : Int)
theorem rowArr_size (m : Nat) (f : Nat → UInt8) : (rowArr m f).size = m := by simp [rowArr]
theorem rowArr_get (m : Nat) (f : Nat → UInt8) (k : Nat) (hk : k < m) : (rowArr m f)[k]? = some (.int .u8 ((f k).toNat : Int)) := by
  simp [rowArr, hk]
theorem rowArr_set (m : Nat) (f : Nat → UInt8) (k : Nat) (u : UInt8) : (rowArr m f).setIfInBounds k (.int .u8 (u.toNat : Int)) = rowArr m (fun j => if j = k then u else f j) := by
  apply Array.ext_getElem?
  intro i
  rw [Array.getElem?_setIfInBounds]
  by_cases hi : i < m
  · rw [rowArr_get m (fun j => if j = k then u else f j) _ hi]
    by_cases e : k = i
    · subst e; simp [rowArr_size, hi]
    · rw [if_neg e, rowArr_get _ _ _ hi, if_neg (fun e' => e e'.symm)]
  · have h1 : (rowArr m (fun j => if j = k then u else f j))[i]? = none := Array.getElem?_eq_none (by rw [rowArr_size]; omega)
    have h2 : (rowArr m f)[i]? = none := Array.getElem?_eq_none (by rw [rowArr_size]; omega)
    rw [h1, h2]
    split
    · rename_i e; subst e; rw [if_neg (by rw [rowArr_size]; exact hi)]
    · rfl
theorem rowArr_congr {m : Nat} {f g : Nat → UInt8} (h : ∀ k, k < m → f k = g k) : rowArr m f = rowArr m g := by
  apply Array.ext
  · simp [rowArr_size]
  · intro i h1 h2
    rw [rowArr_size] at h1
    simp only [rowArr, Array.getElem_map, Array.getElem_range]
    rw [h i h1]
theorem rowArr_zero (m : Nat) : Array.replicate m (Value.int .u8 0) = rowArr m (fun _ => 0) := by
  apply Array.ext
  · simp [rowArr_size]
  · intro i h1 h2
    simp [rowArr]
def rowL (m : Nat) (f : Nat → UInt8) : List UInt8 := (List.range m).map f
theorem rowL_len (m : Nat) (f : Nat → UInt8) : (rowL m f).length = m := by simp [rowL]
theorem rowL_get (m : Nat) (f : Nat → UInt8) (k : Nat) (hk : k < m) : (rowL m f)[k]? = some (f k) := by simp [rowL, hk]
theorem rowL_congr {m : Nat} {f g : Nat → UInt8} (h : ∀ k, k < m → f k = g k) : rowL m f = rowL m g := by
  unfold rowL; exact List.map_congr_left fun k hk => h k (List.mem_range.1 hk)
section
variable {t8 tr : TypeId} {w w' : World} {base X n m : Nat} {ids : Nat → Nat} {F G : Mx}
end
section
variable {t8 tr : TypeId} {w w' : World} {base X n i m : Nat} {ids : Nat → Nat} {F G : Mx}
end
theorem Bys.eq_slice {w : World} {v : Value} {bs : List UInt8} (h : Bys w v bs) : ∃ a cap, v = .slice a bs.length cap := by
  obtain ⟨a, cap, e, _⟩ := h; exact ⟨a, cap, e⟩
theorem Rws.eq_slice {w : World} {v : Value} {rs : List (List UInt8)} (h : Rws w v rs) : ∃ a cap, v = .slice a rs.length cap := by
  obtain ⟨a, cap, e, _⟩ := h; exact ⟨a, cap, e⟩
end Go.Mem
end
section
namespace Go.Mem
open Go Go.RowKit Gf
def bV (bs : List UInt8) : List Value := bs.map fun u => .int .u8 (u.toNat : Int)
theorem bV_len (bs : List UInt8) : (bV bs).length = bs.length := by simp [bV]
theorem bV_app (a b : List UInt8) : bV (a ++ b) = bV a ++ bV b := by simp [bV]
theorem bV_get (bs : List UInt8) (i : Nat) : (bV bs)[i]? = (bs[i]?).map fun u => .int .u8 (u.toNat : Int) := by simp [bV]
theorem bV_one (bs : List UInt8) : ∀ u ∈ bV bs, u.oneCell' = true := by
  intro u hu
  simp only [bV, List.mem_map] at hu
  obtain ⟨x, _, rfl⟩ := hu
  rfl
structure Elem (P : Program) (t e : TypeId) (z : Value) (bytes : Nat) : Prop where
  under : P.underlying t = some (.slice e)
  info : (P.info? e).map (fun i => (i.zero, i.size, i.bytes)) = some (some z, 1, bytes)
  one : z.cells.size = 1
def OwnB (t8 : TypeId) (w : World) (base : Nat) (v : Value) (bs : List UInt8) : Prop := w.ownsRow base t8 1 v bs.length (bV bs)
section
variable {t8 tr : TypeId} {w w' : World} {base : Nat} {v : Value} {bs : List UInt8}
theorem grown_none {row : Option Nat} (h : w.grownBy w' row) (hr : row = none) : Below w.heap.size w w' :=
  ⟨h.os, h.tape, h.output, h.size, fun k hk => h.block k hk (by rw [hr]; exact fun e => by cases e)⟩
theorem OwnB.nil (t8 : TypeId) (w : World) (base : Nat) : OwnB t8 w base (.slice none 0 0) [] := World.ownsRow_nil _ _ _ _
theorem OwnB.lt (h : OwnB t8 w base v bs) : ∀ k, v.ownBlock = some k → base ≤ k ∧ k < w.heap.size := World.ownsRow.lt h
theorem OwnB.bys (h : OwnB t8 w base v bs) : Bys w v bs := by
  obtain ⟨hlen, h2⟩ := h
  rcases h2 with ⟨rfl, h0⟩ | ⟨g, cap, cur, rfl, _, hg, hnc, hcm, hcs, htake⟩
  · have : bs = [] := List.eq_nil_of_length_eq_zero h0
    subst this
    exact Bys.nil w
  · refine ⟨_, cap, rfl, hnc, hcm, fun _ => ⟨g, 0, rfl, fun i u hi => ?_⟩⟩
    have hil : i < bs.length := by
      rcases Nat.lt_or_ge i bs.length with h | h
      · exact h
      · rw [List.getElem?_eq_none h] at hi; cases hi
    have hv : (bV bs)[i]? = some (.int .u8 (u.toNat : Int)) := by rw [bV_get, hi]; rfl
    rw [Nat.zero_add]
    rw [← htake, List.getElem?_take, if_pos (by omega)] at hv
    simp only [World.cell?, hg]
    simpa using hv
theorem Blk.own {b m : Nat} {f : Nat → UInt8} (h : Blk w b (rowArr m f) t8) (hb : base ≤ b) (hm : m ≤ 9223372036854775807) : OwnB t8 w base (.slice (some ⟨b, 0, none⟩) m m) (rowL m f) := by
  refine ⟨by rw [bV_len]; simp, .inr ⟨b, m, rowArr m f, by rw [rowL_len], hb, h, by rw [rowL_len]; exact Nat.le_refl _, maxLen_ge hm, by rw [rowArr_size]; simp, ?_⟩⟩
  apply List.ext_getElem?
  intro i
  rw [List.getElem?_take, bV_get]
  simp only [rowL_len, Nat.mul_one]
  split
  · rename_i hi
    rw [rowL_get _ _ _ hi]
    simpa using rowArr_get m f i hi
  · rename_i hi
    rw [List.getElem?_eq_none (by rw [rowL_len]; omega)]; rfl
end
section
theorem run_append_none {P : Program} {w : World} (base : Nat) (t ty e : TypeId) (i : TypeInfo) (size cap : Nat) (ht : P.underlying t = some (.slice e)) (hi : P.info? e = some i)
    (v : Value) (n : Nat) (xs : List Value) (hown : w.ownsRow base e size v n xs) :
    (Builtin.append_ #[t, t] ty #[v, .slice none 0 cap]).run P w = .ok v w := by
  rcases hown.2 with ⟨rfl, rfl⟩ | ⟨g, cp, cur, rfl, _, _, hnc, _⟩
  · simp [Builtin.append_, run_underlying ht, sizeOf, typeInfo, hi, Builtin.lenOf, Builtin.firstCells]
  · simp [Builtin.append_, run_underlying ht, sizeOf, typeInfo, hi, Builtin.lenOf, Builtin.firstCells, hnc, storeCells]
end
section
variable {P : Program} {w : World} {ops : Array Oper} {rest : List Oper} {o : Oper} {a : Act} {Q : Exit → Act → World → Prop} {K : Act → World → Prop} {E0 : Prop}
theorem to_list (hgd : o.guard = none) {R : Value → World → Prop} (h0 : ∀ K : Act → World → Prop, (∀ v' w', R v' w' → K (a.put o.dst v') w') → o.wp P a w K Q)
    (h : ∀ v' w', R v' w' → wpList P ops Q rest (a.put o.dst v') w') : wpList P ops Q (o :: rest) a w :=
  wpList_plain hgd fun K hK => h0 K fun v' w' hr => hK _ _ (h v' w' hr)
theorem to_step (hgd : o.guard = none) {R : Value → World → Prop} (h0 : ∀ K : Act → World → Prop, (∀ v' w', R v' w' → K (a.put o.dst v') w') → o.wp P a w K Q)
    (h : ∀ v' w', R v' w' → K (a.put o.dst v') w') : if Region.wanted o (yielded ops a.tmps) = true then Oper.wp P o a w K Q else E0 := by
  have hw : Region.wanted o (yielded ops a.tmps) = true := by simp [Region.wanted, hgd]
  rw [if_pos hw]
  exact h0 K h
theorem wpApp_one {t e : TypeId} {z : Value} {bytes : Nat} (E : Elem P t e z bytes) (s x : Operand) (ho : o.op = .call { callee := .builtin .append, args := #[s, x], argTypes := #[t, t] })
    {base : Nat} {v : Value} {n : Nat} {xs : List Value} (u : Value) (hs : a.eval s = v) {mb : Nat} (hx : a.eval x = .slice (some ⟨mb, 0, none⟩) 1 1) (hc : w.cell? ⟨mb, 0, none⟩ = some u) (h1 : u.oneCell' = true)
    (hown : w.ownsRow base e 1 v n xs) (hn : n + 1 ≤ 4294967296) (hby : bytes ≤ 4096) (hbase : base ≤ w.heap.size)
    (h : ∀ v' w', w'.ownsRow base e 1 v' (n + 1) (xs ++ [u]) ∧ w.grownBy w' v.ownBlock → K (a.put o.dst v') w') : o.wp P a w K Q := by
  obtain ⟨i, hi, hz, hsz, hb⟩ := info_parts E.info
  have hm : (n + 1) * bytes ≤ 4294967296 * 4096 := Nat.mul_le_mul hn hby
  exact wp_append_own w s x t ho base e i z 1 bytes E.under hi hz hsz hb E.one (by decide) v n xs hs hown ⟨mb, 0, none⟩ 1 1 [u] hx rfl
    (fun j y hj => by
      cases j with
      | zero => simp at hj; subst hj; simpa [Addr.add] using hc
      | succ j => simp at hj)
    (fun y hy => by simp at hy; subst hy; exact h1) (by unfold maxLen; omega) (by omega) hbase
    (fun v' w' h2 h3 _ => h v' w' ⟨h2, h3⟩)
theorem appG_one {t e : TypeId} {z : Value} {bytes : Nat} (E : Elem P t e z bytes) (hgd : o.guard = none) (s x : Operand) (ho : o.op = .call { callee := .builtin .append, args := #[s, x], argTypes := #[t, t] })
    {base : Nat} {v : Value} {n : Nat} {xs : List Value} (u : Value) (hs : a.eval s = v) {mb : Nat} (hx : a.eval x = .slice (some ⟨mb, 0, none⟩) 1 1) (hc : w.cell? ⟨mb, 0, none⟩ = some u) (h1 : u.oneCell' = true)
    (hown : w.ownsRow base e 1 v n xs) (hn : n + 1 ≤ 4294967296) (hby : bytes ≤ 4096) (hbase : base ≤ w.heap.size)
    (h : ∀ v' w', w'.ownsRow base e 1 v' (n + 1) (xs ++ [u]) → w.grownBy w' v.ownBlock → wpList P ops Q rest (a.put o.dst v') w') : wpList P ops Q (o :: rest) a w :=
  to_list hgd (fun _ hK => wpApp_one E s x ho u hs hx hc h1 hown hn hby hbase hK) fun v' w' h2 => h v' w' h2.1 h2.2
theorem new_cell (w : World) (u : Value) (t : TypeId) (n : Nat) (h : n = w.heap.size) : (w.alloc (.cells #[u] t)).cell? ⟨n, 0, none⟩ = some u := by subst h; rw [(Blk.new w _ _).cell]; rfl
theorem of_drew {B : Nat} {w w' : World} (h : Below B w.drew w') : Below B w w' := ⟨h.os, h.tape, h.output, h.size, h.block⟩
end
end Go.Mem
end
section
namespace Go.Mem
open Go Go.RowKit Gf
structure Chg (S : Nat → Prop) (w w' : World) : Prop where
  os : w'.os = w.os
  tape : w'.tape = w.tape
  output : w'.output = w.output
  size : w.heap.size ≤ w'.heap.size
  block : ∀ k, k < w.heap.size → ¬ S k → w'.heap[k]? = w.heap[k]?
section
variable {S T : Nat → Prop} {w w' w'' : World}
theorem Chg.refl (S : Nat → Prop) (w : World) : Chg S w w := ⟨rfl, rfl, rfl, Nat.le_refl _, fun _ _ _ => rfl⟩
theorem Chg.trans (h : Chg S w w') (h' : Chg S w' w'') : Chg S w w'' :=
  ⟨h'.os.trans h.os, h'.tape.trans h.tape, h'.output.trans h.output, Nat.le_trans h.size h'.size, fun k hk hs => (h'.block k (Nat.lt_of_lt_of_le hk h.size) hs).trans (h.block k hk hs)⟩
theorem Chg.mono (h : Chg S w w') (hs : ∀ k, S k → T k) : Chg T w w' := ⟨h.os, h.tape, h.output, h.size, fun k hk ht => h.block k hk fun hS => ht (hs k hS)⟩
theorem Chg.of_below (h : Below w.heap.size w w') : Chg S w w' := ⟨h.os, h.tape, h.output, h.size, fun k hk _ => h.block k hk⟩
theorem Chg.drew (h : Chg S w w') : Chg S w w'.drew := ⟨h.os, h.tape, h.output, h.size, h.block⟩
theorem Chg.set (h : Chg S w w') {a : Addr} (ha : S a.block) (v : Value) : Chg S w (w'.setCell a v) :=
  ⟨h.os, h.tape, h.output, by simp [World.setCell]; exact h.size, fun k hk hs => by
    rw [Below.heap_setCell _ _ _ _ (fun e => hs (by rw [e]; exact ha))]; exact h.block k hk hs⟩
theorem Chg.below {B : Nat} (h : Chg S w w') (hB : B ≤ w.heap.size) (hs : ∀ k, S k → B ≤ k) : Below B w w' :=
  ⟨h.os, h.tape, h.output, h.size, fun k hk => h.block k (by omega) fun hS => by have := hs k hS; omega⟩
theorem Chg.blk {b : Nat} {arr : Array Value} {t : TypeId} (h : Chg S w w') (hb : Blk w b arr t) (hs : ¬ S b) : Blk w' b arr t := by
  unfold Blk at *; rw [h.block b (lt_of_block hb) hs]; exact hb
end
section
variable {t8 tr : TypeId} {w w' : World} {base X n m : Nat} {ids : Nat → Nat} {F G : Mx} {S : Nat → Prop}
end
end Go.Mem
end
section
namespace Go.Mem
open Go Go.RowKit Gf
theorem copy_row {P : Program} {w : World} {ops : Array Oper} {rest : List Oper} {o : Oper} {a : Act} {Q : Exit → Act → World → Prop} (hgd : o.guard = none) (d s : Operand) (dT sT : TypeId)
    (ho : o.op = .call { callee := .builtin .copy, args := #[d, s], argTypes := #[dT, sT] }) (elem : TypeId) (hu : P.underlying dT = some (.slice elem)) (hsz : (P.info? elem).map (·.size) = some 1)
    {g N dl dc : Nat} {f : Nat → UInt8} {t : TypeId} {sv : Value} {bs : List UInt8} (hd : a.eval d = .slice (some ⟨g, 0, none⟩) dl dc) (hs : a.eval s = sv) (hB : Blk w g (rowArr N f) t) (hb : Bys w sv bs) (h1 : bs.length ≤ dl) (h2 : dl ≤ N)
    (h : ∀ w', Blk w' g (rowArr N fun i => if i < bs.length then bs.getD i 0 else f i) t → Below g w w' → wpList P ops Q rest (a.put o.dst (goInt bs.length)) w') : wpList P ops Q (o :: rest) a w := by
  obtain ⟨sp, sc, rfl, hc1, hc2, hcell⟩ := hb
  have hlen : (bV bs).length = bs.length := bV_len bs
  have hN : (rowArr N f).toList.length = N := by simp [rowArr_size]
  refine wpList_copy_splice hgd d s dT sT ho elem hu hsz (some ⟨g, 0, none⟩) sp dl dc bs.length sc hd hs g 0 (rowArr N f).toList t hB (bV bs) (by rw [hlen]; exact (Nat.min_eq_left h1).symm)
    (fun hp => ⟨rfl, ?_⟩) (by rw [hlen, hN]; omega) (bV_one bs) g w (Below.refl _ _) (Nat.le_refl _) fun w' hg hbel => ?_
  · rw [hlen] at hp
    obtain ⟨b, off, e, hc⟩ := hcell hp
    refine ⟨_, e, fun j v hj => ?_⟩
    rw [bV_get] at hj
    cases hu' : bs[j]? with
    | none => rw [hu'] at hj; cases hj
    | some u =>
      rw [hu'] at hj
      rw [show (⟨b, off, none⟩ : Addr).add j = ⟨b, off + j, none⟩ from by
        unfold Addr.add
        split
        · subst_vars; rfl
        · rfl]
      rw [hc j u hu']
      simpa using hj
  · rw [hlen]
    refine h w' ?_ hbel
    have e : (splice (rowArr N f).toList 0 (bV bs)).toArray = rowArr N fun i => if i < bs.length then bs.getD i 0 else f i := by
      apply Array.ext_getElem?
      intro i
      simp only [splice, List.take_zero, List.nil_append, Nat.zero_add, hlen, List.getElem?_toArray]
      rcases Nat.lt_or_ge i bs.length with hi | hi
      · rw [List.getElem?_append_left (by rw [hlen]; exact hi), bV_get, rowArr_get _ _ _ (by omega)]
        simp [hi, List.getD_eq_getElem?_getD]
      · rw [List.getElem?_append_right (by rw [hlen]; exact hi), hlen, List.getElem?_drop, show bs.length + (i - bs.length) = i from by omega]
        rcases Nat.lt_or_ge i N with hiN | hiN
        · rw [rowArr_get _ _ _ hiN]
          have := rowArr_get N f i hiN
          simp only [if_neg (Nat.not_lt.2 hi)]
          simpa using this
        · rw [Array.getElem?_eq_none (by rw [rowArr_size]; exact hiN)]
          exact List.getElem?_eq_none (by rw [hN]; exact hiN)
    have hg' := hg.out
    rw [e] at hg'
    exact hg'
end Go.Mem
namespace Go.Proofs.YtehgnkdfnnebcaaGreatDoor
open Go Go.RowKit Go.Mem Gf
theorem bits_xor_u8 (a b : Nat) (ha : a < 256) (hb : b < 256) : bits .xor .u8 a b = ((a ^^^ b : Nat) : Int) := by
  have h1 : a % 2 ^ IntKind.bits .u8 = a := Nat.mod_eq_of_lt ha
  have h2 : b % 2 ^ IntKind.bits .u8 = b := Nat.mod_eq_of_lt hb
  simp only [bits, BitVec.ofInt_natCast, BitVec.toNat_xor, BitVec.toNat_ofNat, h1, h2]
  exact wraps_u8 _ (Int.natCast_nonneg _) (by have := xor_lt a b ha hb; omega)
theorem ret_int {k : IntKind} {a b : Int} (h : a = b) : Ending.returned (.int k a) = .returned (.int k b) := by rw [h]
theorem quiet_eq {P : Program} {f : FuncId} {args : Array Value} {w : World} {n : Nat} {v : Value}
    (h : Calls P f args (w.drewN n) fun e w' => e = .returned v ∧ w.drewN n = w') : Calls P f args (w.drewN n) fun e w'' => e = .returned v ∧ ∃ m, w'' = w.drewN m :=
  h.mono fun _ _ ⟨he, hm⟩ => ⟨he, n, hm.symm⟩
def within (v n : Int) : Int := if n < 1 then 0 else v % n
theorem within_range (v n : Int) (h : 1 ≤ n) : 0 ≤ within v n ∧ within v n < n := by
  rw [within, if_neg (by omega)]
  exact ⟨Int.emod_nonneg _ (by omega), Int.emod_lt_of_pos _ (by omega)⟩
theorem within_tmod (v n : Int) (h : 1 ≤ n) : within v n = if v.tmod n < 0 then v.tmod n + n else v.tmod n := by
  rw [within, if_neg (by omega), Int.tmod_eq_emod]
  have h1 := Int.emod_nonneg v (show n ≠ 0 by omega)
  have h2 := Int.emod_lt_of_pos v (show 0 < n by omega)
  split <;> split <;> omega
set_option maxRecDepth 100000 in
set_option maxHeartbeats 400000 in
theorem within_calls (v n : Int) (h : 1 ≤ n) (hn : n ≤ 9223372036854775807) (w : World) :
    Calls Tryz.prog 4 #[.int .i64 v, .int .i64 n] w fun e w' => e = .returned (.int .i64 (within v n)) ∧ w = w' := by
  have h1 : v.tmod n < n := Int.tmod_lt_of_pos v (by omega)
  have h2 : -n < v.tmod n := Int.lt_tmod_of_pos v (by omega)
  have h0 : n ≠ 0 := by omega
  have t0 : (n == 0) = false := by simp; omega
  have H := Lib.hid (within_tmod v n h)
  by_cases hneg : v.tmod n < 0
  · go_enter Tryz.func4, Tryz.ntmps4
    go_wp2
    go_ret
    exact ⟨ret_int (by rw [H.out, if_pos hneg]), rfl⟩
  · go_enter Tryz.func4, Tryz.ntmps4
    go_wp2
    go_ret
    exact ⟨ret_int (by rw [H.out, if_neg (by omega)]), rfl⟩
theorem take_snoc_eq {α : Type} {xs ys : List α} {i : Nat} {u v : α} (h : xs.take i = ys.take i) (hu : xs[i]? = some u) (hv : ys[i]? = some v) (e : u = v) : xs.take (i + 1) = ys.take (i + 1) := by
  rw [List.take_add_one, List.take_add_one, h, hu, hv, e]
set_option maxRecDepth 20000 in
set_option maxHeartbeats 1000000 in
theorem same8_calls (va vb : Value) (xs ys : List UInt8) (w : World) (ha : Bys w va xs) (hb : Bys w vb ys) :
    Calls Tryz.prog 19 #[va, vb] w fun e w' => e = .returned (.bool (decide (xs = ys))) ∧ ∃ n, w' = w.drewN n := by
  have hla := ha.len
  have hlb := hb.len
  obtain ⟨aa, ca, rfl, hx⟩ := id ha
  clear hx
  obtain ⟨ab, cb, rfl, hx⟩ := id hb
  clear hx
  obtain ⟨la, hla'⟩ : ∃ n, n = xs.length := ⟨_, rfl⟩
  obtain ⟨lb, hlb'⟩ : ∃ n, n = ys.length := ⟨_, rfl⟩
  rw [← hla'] at hla ha ⊢
  rw [← hlb'] at hlb hb ⊢
  have Hla := Lib.hid hla'; have Hlb := Lib.hid hlb'; clear hla' hlb'
  by_cases hl : la = lb
  · subst hl
    go_enter Tryz.func19, Tryz.ntmps19
    go_wp2_with fail
    go_loopw [5] (fun v wr => ∃ i : Nat, i ≤ la ∧ v = .int .i64 i ∧ Rd w wr ∧ xs.take i = ys.take i) (fun v _ => la - (intOf v).toNat)
    case atStart => exact ⟨0, by omega, rfl, Rd.refl _, rfl⟩
    case round =>
      obtain ⟨i, hi, rfl, hrd, ht⟩ := hrel
      have Ht := Lib.hid ht; clear ht
      by_cases h0 : i < la
      · obtain ⟨b1, o1, u, rfl, Hu, c1, hu⟩ := (hrd.bys ha).at i (by have := Hla.out; omega)
        obtain ⟨b2, o2, v, rfl, Hv, c2, hv⟩ := (hrd.bys hb).at i (by have := Hlb.out; omega)
        by_cases huv : u = v
        · have t : (((u.toNat : Nat) : Int) != ((v.toNat : Nat) : Int)) = false := by rw [huv]; simp
          have Hs := Lib.hid (take_snoc_eq Ht.out Hu.out Hv.out huv); clear huv
          go_wp2_with fail
          go_quiet (fail)
          go_wp2
          exact ⟨⟨i + 1, by omega, by go_num, hrd.more _, Hs.out⟩, by simp [intOf]; omega⟩
        · have t : (((u.toNat : Nat) : Int) != ((v.toNat : Nat) : Int)) = true := by
            have : u.toNat ≠ v.toNat := fun e => huv (Gf.ext e)
            simp; omega
          have Hs : Hid (xs ≠ ys) := fun e => huv (by have h1 := Hu.out; have h2 := Hv.out; rw [e, h2] at h1; exact (Option.some.inj h1).symm)
          clear huv
          go_wp2_with fail
          go_quiet (fail)
          go_wp2
          go_ret
          exact ⟨by rw [decide_eq_false Hs.out]; rfl, hrd.more _⟩
      · obtain rfl : i = la := by omega
        have He : Hid (xs = ys) := by
          have h1 := Ht.out; have h2 := Hla.out; have h3 := Hlb.out
          rw [List.take_of_length_le (by omega), List.take_of_length_le (by omega)] at h1
          exact h1
        go_wp2
        go_ret
        exact ⟨by rw [decide_eq_true He.out]; rfl, hrd⟩
  · have t : ((la : Int) != (lb : Int)) = true := by simp; omega
    have t2 : (la != lb) = true := by simp; omega
    have He : Hid (xs ≠ ys) := fun e => hl (by rw [Hla.out, Hlb.out, e])
    clear hl
    go_enter Tryz.func19, Tryz.ntmps19
    go_wp2
    go_ret
    exact ⟨by rw [decide_eq_false He.out]; rfl, 0, rfl⟩
theorem same8_yes (va vb : Value) (xs ys : List UInt8) (w : World) (ha : Bys w va xs) (hb : Bys w vb ys) (h : xs = ys) :
    Calls Tryz.prog 19 #[va, vb] w fun e w' => e = .returned (.bool true) ∧ ∃ n, w' = w.drewN n := by
  have := same8_calls va vb xs ys w ha hb
  rw [decide_eq_true h] at this; exact this
theorem E8k : (Tryz.prog.info? 5).map (fun i => (i.zero, i.size, i.bytes)) = some (some (.int .u8 0), 1, 1) := by kernel_rfl
theorem E8s : (Tryz.prog.info? 5).map (·.size) = some 1 := by kernel_rfl
end Go.Proofs.YtehgnkdfnnebcaaGreatDoor
end
section
namespace Go.Mem
open Go Go.RowKit Gf
structure DiskS where
  n : Nat
  f : Nat → UInt8
  dead : Bool
  stops : Bool
  cnt : Nat
  keep : Nat
  writes : Nat
def DiskS.fresh (n : Nat) : DiskS := ⟨n, fun _ => 0, false, false, 0, 0, 0⟩
def DiskS.may (s : DiskS) (i : Int) : Bool := decide (0 ≤ i) && decide (i < s.n)
def DiskS.stop (s : DiskS) (a k : Int) : DiskS := { s with stops := true, cnt := (max 0 a).toNat, keep := (max 0 (min k 32)).toNat }
def DiskS.start (s : DiskS) : DiskS := { s with dead := false, stops := false }
def DiskS.sector (s : DiskS) (i : Nat) : List UInt8 := rowL 32 fun k => s.f (i * 32 + k)
def DiskS.lay (s : DiskS) (i : Nat) (bs : List UInt8) (m : Nat) : Nat → UInt8 := fun j => if i * 32 ≤ j ∧ j < i * 32 + m then bs.getD (j - i * 32) 0 else s.f j
def DiskS.write (s : DiskS) (i : Nat) (bs : List UInt8) : DiskS :=
  if s.stops = true ∧ s.cnt = 0 then { s with f := s.lay i bs s.keep, dead := true }
  else { s with f := s.lay i bs 32, cnt := if s.stops then s.cnt - 1 else s.cnt, writes := s.writes + 1 }
theorem madeCells_arr (m k : Nat) (hm0 : 0 < m) : madeCells (rowArr m fun _ => 0) k = rowArr k fun _ => 0 := by
  apply Array.ext
  · simp [madeCells, rowArr_size]
  · intro i h1 h2
    have hm : i % m < m := Nat.mod_lt _ hm0
    simp only [madeCells, Array.getElem_map, Array.getElem_range, rowArr_size]
    simp [rowArr, hm]
end Go.Mem
namespace Go.Proofs.YtehgnkdfnnebcaaGreatDoor
open Go Go.RowKit Go.Mem Gf
attribute [local go_sem ↓] Go.wp_at_zero Go.wp_at_succ
def IsDisk (w : World) (d L : Nat) (s : DiskS) : Prop :=
  ∃ cap arr, Blk w d #[.slice (some ⟨L, 0, none⟩) s.n cap, .bool s.dead, .bool s.stops, .int .i64 s.cnt, .int .i64 s.keep, .int .i64 s.writes] 66 ∧ s.n ≤ cap ∧ cap ≤ 9223372036854775807 ∧ Blk w L arr 82 ∧ s.n * 32 ≤ arr.size ∧
    (∀ j, j < s.n * 32 → arr[j]? = some (.int .u8 ((s.f j).toNat : Int))) ∧ 1 ≤ s.n ∧ s.n ≤ 4096 ∧ s.keep ≤ 32 ∧ d ≠ L ∧ s.cnt ≤ 9223372036854775807 ∧ s.writes ≤ 4611686018427387904
theorem IsDisk.chg {w w' : World} {d L : Nat} {s : DiskS} {S : Nat → Prop} (h : IsDisk w d L s) (hc : Chg S w w') (h1 : ¬ S d) (h2 : ¬ S L) : IsDisk w' d L s := by
  obtain ⟨cap, arr, hd, a, b, hL, r⟩ := h
  exact ⟨cap, arr, hc.blk hd h1, a, b, hc.blk hL h2, r⟩
theorem IsDisk.below {w w' : World} {d L : Nat} {s : DiskS} (h : IsDisk w d L s) (hc : Below w.heap.size w w') : IsDisk w' d L s := h.chg (S := fun _ => False) (Chg.of_below hc) id id
theorem IsDisk.drewN {w : World} {d L : Nat} {s : DiskS} (h : IsDisk w d L s) (m : Nat) : IsDisk (w.drewN m) d L s := h
theorem IsDisk.lt {w : World} {d L : Nat} {s : DiskS} (h : IsDisk w d L s) : d < w.heap.size ∧ L < w.heap.size := by
  obtain ⟨cap, arr, hd, a, b, hL, r⟩ := h
  exact ⟨hd.lt, hL.lt⟩
set_option maxRecDepth 100000 in
set_option maxHeartbeats 1000000 in
theorem may_calls (d L : Nat) (s : DiskS) (i : Int) (w : World) (h : IsDisk w d L s) (b : Bool) (hb : s.may i = b) :
    Calls Tryz.prog 43 #[.pointer (some ⟨d, 0, none⟩), .int .i64 i] w fun e w' => e = .returned (.bool b) ∧ w = w' := by
  have Hb := Lib.hid hb
  clear hb
  obtain ⟨cap, arr, hd, a, b, hL, _, _, hn1, hn2, _⟩ := h
  have c0 : w.cell? ⟨d, 0, none⟩ = some (.slice (some ⟨L, 0, none⟩) s.n cap) := by rw [hd.cell]; rfl
  by_cases h1 : 0 ≤ i
  · have t1 : decide (0 ≤ i) = true := by simp; omega
    have Hm := Lib.hid (show s.may i = decide (i < s.n) from by simp [DiskS.may, h1])
    go_enter Tryz.func43, Tryz.ntmps43
    go_wp2
    go_ret
    exact ⟨by rw [← Hb.out, Hm.out]; rfl, rfl⟩
  · have t1 : decide (0 ≤ i) = false := by simp; omega
    have Hm := Lib.hid (show s.may i = false from by simp [DiskS.may]; omega)
    go_enter Tryz.func43, Tryz.ntmps43
    go_wp2
    go_ret
    exact ⟨by rw [← Hb.out, Hm.out]; rfl, rfl⟩
set_option maxRecDepth 100000 in
set_option maxHeartbeats 1000000 in
theorem dlen_calls (d L : Nat) (s : DiskS) (w : World) (h : IsDisk w d L s) :
    Calls Tryz.prog 52 #[.pointer (some ⟨d, 0, none⟩)] w fun e w' => e = .returned (.int .i64 (s.n : Int)) ∧ w = w' := by
  obtain ⟨cap, arr, hd, a, b, hL, _, _, hn1, hn2, _⟩ := h
  have c0 : w.cell? ⟨d, 0, none⟩ = some (.slice (some ⟨L, 0, none⟩) s.n cap) := by rw [hd.cell]; rfl
  go_enter Tryz.func52, Tryz.ntmps52
  go_wp2
  go_ret
  exact ⟨rfl, rfl⟩
set_option maxRecDepth 100000 in
set_option maxHeartbeats 1000000 in
theorem ddead_calls (d L : Nat) (s : DiskS) (w : World) (h : IsDisk w d L s) :
    Calls Tryz.prog 23 #[.pointer (some ⟨d, 0, none⟩)] w fun e w' => e = .returned (.bool s.dead) ∧ w = w' := by
  obtain ⟨cap, arr, hd, a, b, hL, _, _, hn1, hn2, _⟩ := h
  have c0 : w.cell? ⟨d, 1, none⟩ = some (.bool s.dead) := by rw [hd.cell]; rfl
  go_enter Tryz.func23, Tryz.ntmps23
  go_wp2
  go_ret
  exact ⟨rfl, rfl⟩
set_option maxRecDepth 100000 in
set_option maxHeartbeats 1000000 in
theorem dwrites_calls (d L : Nat) (s : DiskS) (w : World) (h : IsDisk w d L s) :
    Calls Tryz.prog 24 #[.pointer (some ⟨d, 0, none⟩)] w fun e w' => e = .returned (.int .i64 (s.writes : Int)) ∧ w = w' := by
  obtain ⟨cap, arr, hd, a, b, hL, _, _, hn1, hn2, _⟩ := h
  have c0 : w.cell? ⟨d, 5, none⟩ = some (.int .i64 (s.writes : Int)) := by rw [hd.cell]; rfl
  go_enter Tryz.func24, Tryz.ntmps24
  go_wp2
  go_ret
  exact ⟨rfl, rfl⟩
set_option maxRecDepth 100000 in
set_option maxHeartbeats 1000000 in
theorem dstart_calls (d L : Nat) (s : DiskS) (w : World) (h : IsDisk w d L s) :
    Calls Tryz.prog 28 #[.pointer (some ⟨d, 0, none⟩)] w fun e w' => e = .returned (.tuple #[]) ∧ IsDisk w' d L s.start ∧ Chg (fun b => b = d) w w' := by
  obtain ⟨cap, arr, hd, a, b, hL, r1, r2, r3, r4, r5, hne, r6⟩ := h
  have c1 : w.cell? ⟨d, 1, none⟩ = some (.bool s.dead) := by rw [hd.cell]; rfl
  have c2 : w.cell? ⟨d, 2, none⟩ = some (.bool s.stops) := by rw [hd.cell]; rfl
  have f1 := hd.free 1
  have f2 := hd.free 2
  go_enter Tryz.func28, Tryz.ntmps28
  go_wp2
  go_end0
  exact ⟨rfl, ⟨cap, arr, (hd.set 1 (.bool false)).set 2 (.bool false), a, b, (hL.set_other hne _).set_other hne _, r1, r2, r3, r4, r5, hne, r6⟩, ((Chg.refl (fun b => b = d) _).set rfl _).set rfl _⟩
theorem IsDisk.stopped {d L : Nat} {s : DiskS} {x y X Y : Int} {w : World} (h : IsDisk w d L s) (hx : x ≤ 9223372036854775807) (hX : ((max 0 x).toNat : Int) = X) (hY : ((max 0 (min y 32)).toNat : Int) = Y) :
    IsDisk (((w.setCell ⟨d, 2, none⟩ (.bool true)).setCell ⟨d, 3, none⟩ (.int .i64 X)).setCell ⟨d, 4, none⟩ (.int .i64 Y)) d L (s.stop x y) := by
  obtain ⟨cap, arr, hd, a, b, hL, r1, r2, r3, r4, r5, hne, r6, r7⟩ := h
  subst hX hY
  exact ⟨cap, arr, ((hd.set 2 _).set 3 _).set 4 _, a, b, ((hL.set_other hne _).set_other hne _).set_other hne _, r1, r2, r3, r4, by show (max 0 (min y 32)).toNat ≤ 32; omega, hne, by show (max 0 x).toNat ≤ 9223372036854775807; omega, r7⟩
set_option maxRecDepth 100000 in
set_option maxHeartbeats 1000000 in
theorem dstop_calls (d L : Nat) (s : DiskS) (x y : Int) (w : World) (hD : IsDisk w d L s) (hx : x ≤ 9223372036854775807) :
    Calls Tryz.prog 26 #[.pointer (some ⟨d, 0, none⟩), .int .i64 x, .int .i64 y] w fun e w' => e = .returned (.tuple #[]) ∧ IsDisk w' d L (s.stop x y) ∧ Chg (fun b => b = d) w w' := by
  obtain ⟨cap, arr, hd, a, b, hL, r1, r2, r3, r4, r5, hne, r6, r7⟩ := id hD
  have c1 : w.cell? ⟨d, 2, none⟩ = some (.bool s.stops) := by rw [hd.cell]; rfl
  have c2 : w.cell? ⟨d, 3, none⟩ = some (.int .i64 s.cnt) := by rw [hd.cell]; rfl
  have c3 : w.cell? ⟨d, 4, none⟩ = some (.int .i64 s.keep) := by rw [hd.cell]; rfl
  have f1 := hd.free 2
  have f2 := hd.free 3
  have f3 := hd.free 4
  go_enter Tryz.func26, Tryz.ntmps26
  go_wp2
  all_goals
    go_end0
    exact ⟨rfl, hD.stopped hx (by omega) (by omega), (((Chg.refl (fun b => b = d) _).set rfl _).set rfl _).set rfl _⟩
theorem new_info : (Tryz.prog.info? 82).map (fun i => (i.zero, i.size, i.bytes)) = some (some (.agg (rowArr 32 fun _ => 0)), 32, 32) := by kernel_rfl
set_option maxRecDepth 100000 in
set_option maxHeartbeats 1000000 in
theorem dnew_calls (n : Nat) (w : World) (h1 : 1 ≤ n) (h2 : n ≤ 4096) :
    Calls Tryz.prog 9 #[.int .i64 n] w fun e w' => ∃ d L, e = .returned (.tuple #[.pointer (some ⟨d, 0, none⟩), .int .i64 0]) ∧ IsDisk w' d L (.fresh n) ∧ w.heap.size ≤ d ∧ w.heap.size ≤ L ∧ Below w.heap.size w w' := by
  have hmk : ∀ w, (Instr.makeSlice 64 (.int .i64 (n : Int)) (.int .i64 (n : Int))).run Tryz.prog w = .ok (.slice (some ⟨w.heap.size, 0, none⟩) n n) (w.alloc (.cells (rowArr (n * 32) fun _ => 0) 82)) := fun w => by
    obtain ⟨i, hi, hz, hs, hb⟩ := info_parts new_info
    have := run_make (P := Tryz.prog) w 64 82 i _ Tryz.underlying64 hi hz .i64 .i64 n n (by omega) (Int.le_refl _) (by rw [hb]; omega) (by omega)
    rw [hs] at this
    simp only [Int.toNat_natCast, Value.cells, madeCells_arr _ _ (show 0 < 32 by decide)] at this
    simpa using this
  have t1 : decide ((n : Int) < 1) = false := by simp; omega
  have t2 : decide ((4096 : Int) < (n : Int)) = false := by simp; omega
  go_enter Tryz.func9, Tryz.ntmps9
  go_wp2
  go_ret2
  have hL : Blk (w.alloc (.cells (rowArr (n * 32) fun _ => 0) 82)) w.heap.size (rowArr (n * 32) fun _ => 0) 82 := Blk.new _ _ _
  exact ⟨_, _, rfl, ⟨n, rowArr (n * 32) fun _ => 0, Blk.new_at _ _ _ _ (by simp), Nat.le_refl _, by omega, hL.alloc _, by rw [rowArr_size]; exact Nat.le_refl _, fun j hj => rowArr_get _ _ _ hj, h1, h2, Nat.zero_le _, by omega, Nat.zero_le _, Nat.zero_le _⟩, by omega, Nat.le_refl _,
    ((Below.refl _ _).alloc (Nat.le_refl _) _).alloc (by simp) _⟩
end Go.Proofs.YtehgnkdfnnebcaaGreatDoor
end
section
namespace Go.Mem
open Go Go.RowKit Gf
section
variable {P : Program} {w : World} {ops : Array Oper} {rest : List Oper} {o : Oper} {a : Act} {Q : Exit → Act → World → Prop} {K : Act → World → Prop} {E0 : Prop}
theorem wp_copy_set (d s : Operand) (dT sT elem : TypeId) (ho : o.op = .call { callee := .builtin .copy, args := #[d, s], argTypes := #[dT, sT] }) (hu : P.underlying dT = some (.slice elem)) (hsz : (P.info? elem).map (·.size) = some 1)
    {b off dl dc sl sc : Nat} {sa : Addr} (cs : List Value) (hd : a.eval d = .slice (some ⟨b, off, none⟩) dl dc) (hs : a.eval s = .slice (some sa) sl sc) (hn : cs.length = Nat.min sl dl)
    (hsrc : ∀ j v, cs[j]? = some v → w.cell? (sa.add j) = some v) (ht : w.there b off cs.length) (h1 : ∀ v ∈ cs, v.oneCell' = true)
    (h : K (a.put o.dst (goInt cs.length)) (w.setCells b off cs)) : o.wp P a w K Q := by
  have hrun := run_copy_cells (P := P) w dT sT o.type elem b off dl dc sa sl sc cs hu hsz hn hsrc (fun j hj => (ht j hj).1) (fun j hj => (ht j hj).2) h1
  unfold Oper.wp
  simp [execOp, ho, resolve, invoke, builtin, hd, hs, hrun, Result.andThen]
  exact h
theorem step_copy_set (hgd : o.guard = none) (d s : Operand) (dT sT elem : TypeId) (ho : o.op = .call { callee := .builtin .copy, args := #[d, s], argTypes := #[dT, sT] }) (hu : P.underlying dT = some (.slice elem)) (hsz : (P.info? elem).map (·.size) = some 1)
    {b off dl dc sl sc : Nat} {sa : Addr} (cs : List Value) (hd : a.eval d = .slice (some ⟨b, off, none⟩) dl dc) (hs : a.eval s = .slice (some sa) sl sc) (hn : cs.length = Nat.min sl dl)
    (hsrc : ∀ j v, cs[j]? = some v → w.cell? (sa.add j) = some v) (ht : w.there b off cs.length) (h1 : ∀ v ∈ cs, v.oneCell' = true)
    (h : K (a.put o.dst (goInt cs.length)) (w.setCells b off cs)) : if Region.wanted o (yielded ops a.tmps) = true then Oper.wp P o a w K Q else E0 :=
  to_step hgd (R := fun v' w' => v' = goInt cs.length ∧ w' = w.setCells b off cs) (fun _ hK => wp_copy_set d s dT sT elem ho hu hsz cs hd hs hn hsrc ht h1 (hK _ _ ⟨rfl, rfl⟩)) fun v' w' h2 => by
    obtain ⟨rfl, rfl⟩ := h2; exact h
end
theorem Blk.setCells_other {b L : Nat} {arr : Array Value} {t : TypeId} (hne : b ≠ L) : ∀ (vs : List Value) (o : Nat) (w : World), Blk w b arr t → Blk (w.setCells L o vs) b arr t
  | [], _, _, h => h
  | _ :: r, o, _, h => Blk.setCells_other hne r (o + 1) _ (h.set_other (fun e => hne e.symm) _)
theorem Blk.setCells {L : Nat} {t : TypeId} : ∀ (vs : List Value) (o : Nat) (w : World) (arr : Array Value), Blk w L arr t →
    ∃ arr', Blk (w.setCells L o vs) L arr' t ∧ arr'.size = arr.size ∧ ∀ j, j < arr.size → arr'[j]? = if o ≤ j ∧ j < o + vs.length then vs[j - o]? else arr[j]?
  | [], _, _, arr, h => ⟨arr, h, rfl, fun j _ => by rw [if_neg (by simp)]⟩
  | v :: r, o, _, arr, h => by
    obtain ⟨arr', h1, h2, h3⟩ := Blk.setCells r (o + 1) _ _ (h.set o v)
    rw [Array.size_setIfInBounds] at h2 h3
    refine ⟨arr', h1, h2, fun j hj => ?_⟩
    rw [h3 j hj]
    simp only [List.length_cons]
    by_cases e : j = o
    · subst e
      rw [if_neg (by omega), if_pos (by omega), Array.getElem?_setIfInBounds, if_pos rfl, if_pos hj]; simp
    · by_cases e2 : o + 1 ≤ j ∧ j < o + 1 + r.length
      · rw [if_pos e2, if_pos (by omega), show j - o = (j - (o + 1)) + 1 from by omega, List.getElem?_cons_succ]
      · rw [if_neg e2, if_neg (by omega), Array.getElem?_setIfInBounds, if_neg (fun e' => e e'.symm)]
theorem Chg.setCells {S : Nat → Prop} {L : Nat} (hS : S L) {w : World} : ∀ (vs : List Value) (o : Nat) (w' : World), Chg S w w' → Chg S w (w'.setCells L o vs)
  | [], _, _, h => h
  | _ :: r, o, _, h => Chg.setCells hS r (o + 1) _ (h.set (a := ⟨L, o, none⟩) hS _)
theorem keep_mid {w : World} {d L t o o' n : Nat} {x : Option Value} {cs vs : List Value} (h1 : d ≠ L) (h2 : t ≠ L) (c : w.cell? ⟨d, 0, none⟩ = x) (hr : w.rangeAt t 0 cs) (ht : w.there L o' n) :
    (w.drew.setCells L o vs).cell? ⟨d, 0, none⟩ = x ∧ (w.drew.setCells L o vs).rangeAt t 0 cs ∧ (w.drew.setCells L o vs).there L o' n :=
  ⟨by rw [World.cell?_setCells_out _ _ _ _ _ (fun e => absurd e h1)]; exact c, World.rangeAt_setCells_apart (by rw [World.rangeAt_drew]; exact hr) _ _ _ (.inl h2), World.there_setCells (by rw [World.there_drew]; exact ht) _ _ _⟩
theorem Blk.mid_bys {w : World} {b : Nat} {arr : Array Value} {t : TypeId} (h : Blk w b arr t) {o m c : Nat} {f : Nat → UInt8} (hc : m ≤ c) (hm : c ≤ maxLen)
    (ha : ∀ k, k < m → arr[o + k]? = some (Value.int .u8 ((f k).toNat : Int))) : Bys w (.slice (some ⟨b, o, none⟩) m c) (rowL m f) := by
  refine ⟨_, c, by rw [rowL_len], by rw [rowL_len]; exact hc, hm, fun _ => ⟨b, o, rfl, fun i u hi => ?_⟩⟩
  have hlt : i < m := by
    rcases Nat.lt_or_ge i m with h' | h'
    · exact h'
    · rw [List.getElem?_eq_none (by rw [rowL_len]; exact h')] at hi; cases hi
  rw [rowL_get _ _ _ hlt] at hi; cases hi
  rw [h.cell]; exact ha i hlt
end Go.Mem
end
section
namespace Go.Mem
open Go Go.RowKit Gf
def Byt (arr : Array Value) : Prop := ∀ j, j < arr.size → ∃ u : UInt8, arr[j]? = some (.int .u8 (u.toNat : Int))
theorem byt_row (m : Nat) (f : Nat → UInt8) : Byt (rowArr m f) := fun j hj => ⟨f j, rowArr_get _ _ _ (by rwa [rowArr_size] at hj)⟩
theorem byt_mem {arr : Array Value} : Byt arr ↔ ∀ v ∈ arr.toList, ∃ u : UInt8, v = .int .u8 (u.toNat : Int) := by
  constructor
  · intro h v hv
    obtain ⟨j, hj, rfl⟩ := List.mem_iff_getElem.1 hv
    have hj' : j < arr.size := by simpa using hj
    obtain ⟨u, hu⟩ := h j hj'
    refine ⟨u, ?_⟩
    rw [Array.getElem?_eq_getElem hj'] at hu
    simpa using hu
  · intro h j hj
    obtain ⟨u, hu⟩ := h arr[j] (by simp)
    exact ⟨u, by rw [Array.getElem?_eq_getElem hj, hu]⟩
theorem byt_bV (bs : List UInt8) : ∀ v ∈ bV bs, ∃ u : UInt8, v = .int .u8 (u.toNat : Int) := fun v hv => by
  simp only [bV, List.mem_map] at hv
  obtain ⟨x, _, rfl⟩ := hv
  exact ⟨x, rfl⟩
theorem byt_zero (k : Nat) : ∀ v ∈ (Builtin.zeroCells #[.int .u8 0] k).toList, ∃ u : UInt8, v = .int .u8 (u.toNat : Int) := fun v hv => by
  simp only [Builtin.zeroCells, Array.toList_map, List.mem_map] at hv
  obtain ⟨x, _, rfl⟩ := hv
  exact ⟨0, by simp [Nat.mod_one]⟩
def OwnF (t8 : TypeId) (w : World) (base : Nat) (v : Value) (bs : List UInt8) : Prop :=
  OwnB t8 w base v bs ∧ ∀ g, v.ownBlock = some g → ∃ arr, Blk w g arr t8 ∧ Byt arr
section
variable {t8 : TypeId} {w w' : World} {base : Nat} {v : Value} {bs : List UInt8}
theorem OwnF.nil (t8 : TypeId) (w : World) (base : Nat) : OwnF t8 w base (.slice none 0 0) [] := ⟨OwnB.nil _ _ _, fun g h => by simp [Value.ownBlock] at h⟩
theorem OwnF.own (h : OwnF t8 w base v bs) : OwnB t8 w base v bs := h.1
theorem OwnF.bys (h : OwnF t8 w base v bs) : Bys w v bs := h.1.bys
theorem OwnB.chg {S : Nat → Prop} (h : OwnB t8 w base v bs) (hc : Chg S w w') (hs : ∀ g, v.ownBlock = some g → ¬ S g) : OwnB t8 w' base v bs := by
  obtain ⟨h1, h2⟩ := h
  refine ⟨h1, ?_⟩
  rcases h2 with h2 | ⟨g, cap, cur, rfl, hg, hh, r⟩
  · exact .inl h2
  · exact .inr ⟨g, cap, cur, rfl, hg, hc.blk hh (hs g rfl), r⟩
theorem OwnF.chg {S : Nat → Prop} (h : OwnF t8 w base v bs) (hc : Chg S w w') (hs : ∀ g, v.ownBlock = some g → ¬ S g) : OwnF t8 w' base v bs := ⟨h.1.chg hc hs, fun g hg => by
  obtain ⟨arr, h1, h2⟩ := h.2 g hg
  exact ⟨arr, hc.blk h1 (hs g hg), h2⟩⟩
end
section
variable {P : Program} {w : World} {ops : Array Oper} {rest : List Oper} {o : Oper} {a : Act} {Q : Exit → Act → World → Prop} {K : Act → World → Prop} {E0 : Prop}
theorem run_appF {t e : TypeId} (E : Elem P t e (.int .u8 0) 1) (ty : TypeId) {base : Nat} {v xv : Value} {bs news : List UInt8} (hown : OwnF e w base v bs) (hb : Bys w xv news) (hn : bs.length + news.length ≤ 140737488355328) (hbase : base ≤ w.heap.size) :
    ∃ v' w', (Builtin.append_ #[t, t] ty #[v, xv]).run P w = .ok v' w' ∧ OwnF e w' base v' (bs ++ news) ∧ w.grownBy w' v.ownBlock := by
  obtain ⟨i, hi, hz, hsz, hby⟩ := info_parts E.info
  obtain ⟨hown, hall⟩ := hown
  obtain ⟨ad, cap, rfl, hc1, hc2, hcell⟩ := hb
  cases ad with
  | none =>
    have hl : news = [] := by
      rcases Nat.eq_zero_or_pos news.length with h0 | h0
      · exact List.eq_nil_of_length_eq_zero h0
      · obtain ⟨b, off, e, _⟩ := hcell h0; cases e
    subst hl
    have hrun := run_append_none (P := P) (w := w) base t ty e i 1 cap E.under hi v bs.length (bV bs) hown
    refine ⟨v, w, hrun, by rw [List.append_nil]; exact ⟨hown, hall⟩, ⟨rfl, rfl, rfl, Nat.le_refl _, fun _ _ _ => rfl⟩⟩
  | some ad =>
    have hlen : (bV news).length = news.length * i.size := by rw [bV_len, hsz]; omega
    have hnews : ∀ j y, (bV news)[j]? = some y → w.cell? (ad.add j) = some y := fun j y hj => by
      rw [bV_get] at hj
      cases hu : news[j]? with
      | none => rw [hu] at hj; cases hj
      | some u =>
        rw [hu] at hj
        have hjl : j < news.length := by
          rcases Nat.lt_or_ge j news.length with h' | h'
          · exact h'
          · rw [List.getElem?_eq_none h'] at hu; cases hu
        obtain ⟨b, off, e, hc⟩ := hcell (by omega)
        cases e
        rw [show (⟨b, off, none⟩ : Addr).add j = ⟨b, off + j, none⟩ from by
          unfold Addr.add
          split
          · subst_vars; rfl
          · rfl]
        rw [hc j u hu]
        simpa using hj
    obtain ⟨v', w', hr, h2, h3, h4⟩ := run_append_own (P := P) w base t ty e i (.int .u8 0) i.size 1 E.under hi hz rfl hby (by rw [hsz]; rfl) (by rw [hsz]; decide) v bs.length (bV bs) (by rw [hsz]; exact hown) ad news.length cap (bV news) hlen hnews (bV_one _) (by unfold maxLen; omega) (by omega) hbase
    refine ⟨v', w', hr, ⟨by unfold OwnB; rw [List.length_append, bV_app]; rw [hsz] at h2; exact h2, fun g hg => ?_⟩, h3⟩
    obtain ⟨hl1, hown2⟩ := id hown
    rcases hown2 with ⟨rfl, hz0⟩ | ⟨g0, cap0, cur, rfl, hbg, hh, hnc, hcm, hcs, htake⟩
    · by_cases hm : news.length = 0
      · rw [h4.2 ⟨rfl, hm⟩] at hg; simp [Value.ownBlock] at hg
      · have hr2 := run_append_nil (P := P) w t ty e i (.int .u8 0) E.under hi hz ad news.length cap (bV news) hlen hnews (by omega) (by omega) (by rw [hby]; omega)
        have he := hr.symm.trans hr2
        injection he with e1 e2
        subst e1 e2
        simp only [Value.ownBlock, Option.some.injEq] at hg
        subst hg
        refine ⟨_, heap_alloc_new w.drew _, byt_mem.2 fun y hy => ?_⟩
        simp only [Array.toList_append, List.mem_append] at hy
        rcases hy with hy | hy
        · exact byt_bV _ y (by simpa using hy)
        · exact byt_zero _ y hy
    · obtain ⟨arr, h5, h6⟩ := hall g0 rfl
      have e : cur = arr := by
        have := (show Blk w g0 cur e from hh).symm.trans h5
        injection this with this
        injection this with this
      subst e
      have h6 := byt_mem.1 h6
      by_cases hroom : bs.length + news.length ≤ cap0
      · have hr2 := run_append_room (P := P) w t ty e i E.under hi g0 bs.length cap0 cur hh ad news.length cap (bV news) hlen hnews (bV_one _) hroom (by rw [hlen, hsz]; omega)
        have he := hr.symm.trans hr2
        injection he with e1 e2
        subst e1 e2
        simp only [Value.ownBlock, Option.some.injEq] at hg
        subst hg
        refine ⟨_, setRow_heap w g0 cur _ e _ hh, byt_mem.2 fun y hy => ?_⟩
        simp only [List.mem_append] at hy
        rcases hy with (hy | hy) | hy
        · exact h6 y (List.mem_of_mem_take hy)
        · exact byt_bV _ y hy
        · exact h6 y (List.mem_of_mem_drop hy)
      · have hr2 := run_append_grow (P := P) w t ty e i (.int .u8 0) E.under hi hz ⟨g0, 0, none⟩ bs.length cap0 (bV bs) (by rw [hl1, hsz]) (World.ownsRow.cells hown rfl) ad news.length cap (bV news) hlen hnews (by omega) (by omega) (growslice_fits (by omega) (by rw [hby]; omega))
        have he := hr.symm.trans hr2
        injection he with e1 e2
        subst e1 e2
        simp only [Value.ownBlock, Option.some.injEq] at hg
        subst hg
        refine ⟨_, heap_alloc_new w.drew _, byt_mem.2 fun y hy => ?_⟩
        simp only [Array.toList_append, List.mem_append] at hy
        rcases hy with (hy | hy) | hy
        · exact byt_bV _ y (by simpa using hy)
        · exact byt_bV _ y (by simpa using hy)
        · exact byt_zero _ y hy
theorem wpAppF {t e : TypeId} (E : Elem P t e (.int .u8 0) 1) (s x : Operand) (ho : o.op = .call { callee := .builtin .append, args := #[s, x], argTypes := #[t, t] })
    {base : Nat} {v xv : Value} {bs news : List UInt8} (hs : a.eval s = v) (hx : a.eval x = xv) (hown : OwnF e w base v bs) (hb : Bys w xv news) (hn : bs.length + news.length ≤ 140737488355328) (hbase : base ≤ w.heap.size)
    (h : ∀ v' w', OwnF e w' base v' (bs ++ news) ∧ w.grownBy w' v.ownBlock → K (a.put o.dst v') w') : o.wp P a w K Q := by
  obtain ⟨v', w', hr, h2, h3⟩ := run_appF E o.type hown hb hn hbase
  unfold Oper.wp execOp
  simp only [ho, resolve, invoke, builtin, Sem.run_bind, Sem.run_pure, Result.andThen_ok, List.map_toArray, List.map_cons, List.map_nil, hs, hx, hr]
  exact h v' w' ⟨h2, h3⟩
theorem appF {t e : TypeId} (E : Elem P t e (.int .u8 0) 1) (hgd : o.guard = none) (s x : Operand) (ho : o.op = .call { callee := .builtin .append, args := #[s, x], argTypes := #[t, t] })
    {base : Nat} {v xv : Value} {bs news : List UInt8} (hs : a.eval s = v) (hx : a.eval x = xv) (hown : OwnF e w base v bs) (hb : Bys w xv news) (hn : bs.length + news.length ≤ 140737488355328) (hbase : base ≤ w.heap.size)
    (h : ∀ v' w', OwnF e w' base v' (bs ++ news) → w.grownBy w' v.ownBlock → wpList P ops Q rest (a.put o.dst v') w') : wpList P ops Q (o :: rest) a w :=
  to_list hgd (fun _ hK => wpAppF E s x ho hs hx hown hb hn hbase hK) fun v' w' h2 => h v' w' h2.1 h2.2
end
end Go.Mem
end
