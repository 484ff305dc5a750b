/- The walks of package gf: what each function answers. -/
import Derived.Test.YtdciakbichgddaaProg
import Derived.Test.YtdciakbichgddaaMem
import Derived.Test.YtdciakbichgddaaGfMath
import Derived.WalkKit
import Derived.Outline
import Derived.Deep.QuietTactic
import Derived.BigQuiet
import Derived.Lib.Hide
namespace Go.Proofs.Ytdciakbichgddaa
open Go Go.RowKit Go.Mem Gf

theorem bits_xor_u8 (a b : Nat) (ha : a < 256) (hb : b < 256) : bits .xor .u8 a b = ((a ^^^ b : Nat) : Int) := by
  have h1 : a % 2 ^ IntKind.bits .u8 = a := Nat.mod_eq_of_lt ha
  have h2 : b % 2 ^ IntKind.bits .u8 = b := Nat.mod_eq_of_lt hb
  simp only [bits, BitVec.ofInt_natCast, BitVec.toNat_xor, BitVec.toNat_ofNat, h1, h2]
  exact wraps_u8 _ (Int.natCast_nonneg _) (by have := xor_lt a b ha hb; omega)
theorem bits_top (n : Nat) (h : n < 256) : bits .and .u8 n 128 = (((n / 128) * 128 : Nat) : Int) := by
  have := all256 (p := fun n => bits .and .u8 n 128 == (((n / 128) * 128 : Nat) : Int)) (by decide +kernel) n h
  simpa using this
theorem bits_low (n : Nat) (h : n < 256) : bits .and .u8 n 1 = ((n % 2 : Nat) : Int) := by
  have := all256 (p := fun n => bits .and .u8 n 1 == ((n % 2 : Nat) : Int)) (by decide +kernel) n h
  simpa using this
theorem tw_top (n : Nat) (h : n < 256) (h' : 128 ≤ n) : bits .xor .u8 ((n : Int) * 2 % 256) 29 = (tw n : Int) := by
  have := all256 (p := fun n => n < 128 || bits .xor .u8 ((n : Int) * 2 % 256) 29 == (tw n : Int)) (by decide +kernel) n h
  simp at this
  rcases this with h1 | h1
  · omega
  · exact h1
theorem tw_low (n : Nat) (h' : n < 128) : (n : Int) * 2 = (tw n : Int) := by
  have := all256 (p := fun n => !decide (n < 128) || (n : Int) * 2 == (tw n : Int)) (by decide +kernel) n (by omega)
  simp at this
  rcases this with h1 | h1
  · omega
  · exact h1
theorem ret_int {k : IntKind} {a b : Int} (h : a = b) : Ending.returned (.int k a) = .returned (.int k b) := by rw [h]

set_option maxHeartbeats 400000 in
theorem twice_calls (n : Nat) (hn : n < 256) (w : World) :
    Calls Try.prog 72 #[.int .u8 n] w fun e w' => e = .returned (.int .u8 (tw n)) ∧ w = w' := by
  have hb := bits_top n hn
  by_cases h : 128 ≤ n
  · have ht : (bits .and .u8 n 128 != 0) = true := by rw [hb]; simp; omega
    have H := Lib.hid (tw_top n hn h); clear hb
    go_enter Try.func72, Try.ntmps72
    go_wp2
    go_ret
    exact ⟨ret_int H.out, rfl⟩
  · have ht : (bits .and .u8 n 128 != 0) = false := by rw [hb]; simp; omega
    have H := Lib.hid (tw_low n (by omega)); clear hb
    go_enter Try.func72, Try.ntmps72
    go_wp2
    go_ret
    exact ⟨ret_int H.out, rfl⟩

set_option maxHeartbeats 400000 in
theorem add_calls (a b : Nat) (ha : a < 256) (hb : b < 256) (w : World) :
    Calls Try.prog 35 #[.int .u8 a, .int .u8 b] w fun e w' => e = .returned (.int .u8 ((a ^^^ b : Nat) : Int)) ∧ w = w' := by
  have H := Lib.hid (bits_xor_u8 a b ha hb)
  go_enter Try.func35, Try.ntmps35
  go_wp2
  go_ret
  exact ⟨ret_int H.out, rfl⟩

theorem mulLoop_stop (n x p : Nat) : mulLoop n x 0 p = p := by
  induction n generalizing x p with
  | zero => rfl
  | succ n ih => simp only [mulLoop]; simpa using ih (tw x) p
theorem mulLoop_even (n x y p : Nat) (h : y % 2 = 0) : mulLoop (n + 1) x y p = mulLoop n (tw x) (y / 2) p := by
  simp only [mulLoop, h, Nat.zero_mul, Nat.xor_zero]
theorem mulLoop_odd (n x y p : Nat) (h : y % 2 = 1) : mulLoop (n + 1) x y p = mulLoop n (tw x) (y / 2) (p ^^^ x) := by
  simp only [mulLoop, h, Nat.one_mul]

set_option maxHeartbeats 400000 in
theorem mul_calls (a b : Nat) (ha : a < 256) (hb : b < 256) (w : World) :
    Calls Try.prog 36 #[.int .u8 a, .int .u8 b] w fun e w' => e = .returned (.int .u8 (mul a b)) ∧ w = w' := by
  go_enter Try.func36, Try.ntmps36
  go_wp2
  go_loop [0, 1, 5] (fun u v o => ∃ n x y p : Nat, u = .int .u8 x ∧ v = .int .u8 y ∧ o = .int .u8 p ∧ x < 256 ∧ y < 256 ∧ p < 256 ∧ y < 2 ^ n ∧ mulLoop n x y p = mul a b)
    (fun _ v _ => (intOf v).toNat)
  case atStart => exact ⟨8, a, b, 0, rfl, rfl, rfl, ha, hb, by decide, hb, rfl⟩
  case round =>
    obtain ⟨n, x, y, p, rfl, rfl, rfl, hx, hy, hp, hyn, he⟩ := hrel
    have He := Lib.hid he; clear he
    have Hyn := Lib.hid hyn; clear hyn
    have hlow := bits_low y hy
    by_cases h0 : 0 < y
    · obtain ⟨m, Hm⟩ : ∃ m, Hid (n = m + 1) := by
        rcases n with _ | m
        · have := Hyn.out; simp at this; omega
        · exact ⟨m, rfl⟩
      have hlt : y / 2 < 2 ^ m := by
        have h1 := Hyn.out; rw [Hm.out, Nat.pow_succ] at h1; omega
      have Hlt := Lib.hid hlt; clear hlt
      rcases Nat.mod_two_eq_zero_or_one y with h1 | h1
      · have ht : (bits .and .u8 y 1 == 1) = false := by rw [hlow, h1]; rfl
        have H1 := Lib.hid h1; clear h1 hlow
        go_wp2_with (go_at_call 72; refine (twice_calls _ (by assumption) _).mono ?_; rintro e w' ⟨rfl, rfl⟩)
        go_round
        case rel => exact ⟨m, tw x, y / 2, p, rfl, by go_num, rfl, tw_lt _ hx, by omega, hp, Hlt.out, by rw [← He.out, Hm.out, mulLoop_even _ _ _ _ H1.out]⟩
        case measure => simp [intOf]; omega
      · have ht : (bits .and .u8 y 1 == 1) = true := by rw [hlow, h1]; rfl
        have H1 := Lib.hid h1; clear h1 hlow
        have hpx := xor_lt p x hp hx
        go_wp2_with (first
          | (go_at_call 72; refine (twice_calls _ (by assumption) _).mono ?_; rintro e w' ⟨rfl, rfl⟩)
          | (go_at_call 35; refine (add_calls _ _ (by assumption) (by assumption) _).mono ?_; rintro e w' ⟨rfl, rfl⟩))
        go_round
        case rel => exact ⟨m, tw x, y / 2, p ^^^ x, rfl, by go_num, rfl, tw_lt _ hx, by omega, hpx, Hlt.out, by rw [← He.out, Hm.out, mulLoop_odd _ _ _ _ H1.out]⟩
        case measure => simp [intOf]; omega
    · obtain rfl : y = 0 := by omega
      go_wp2
      go_ret
      exact ⟨ret_int (by rw [← He.out, mulLoop_stop]), rfl⟩

/-- the field's tables, as far as k of the powers are laid -/
def Laid (arr : Array Value) (k : Nat) : Prop :=
  arr.size = 766 ∧ (∀ i, i < k → arr[i]? = some (.int .u8 (ex i)) ∧ arr[i + 255]? = some (.int .u8 (ex i)) ∧ arr[510 + ex i]? = some (.int .i64 i)) ∧
  (∀ i, i < 510 → ∃ n, arr[i]? = some (.int .u8 n)) ∧ (∀ i, i < 256 → ∃ n, arr[510 + i]? = some (.int .i64 n)) ∧ arr[510]? = some (.int .i64 0)
theorem zeros_eq : Try.zeroCells90 = Array.replicate 510 (.int .u8 0) ++ Array.replicate 256 (.int .i64 0) := by kernel_rfl
theorem laid_zero : Laid Try.zeroCells90 0 := by
  rw [zeros_eq]
  have h1 : ∀ i, i < 510 → (Array.replicate 510 (Value.int .u8 0) ++ Array.replicate 256 (Value.int .i64 0))[i]? = some (.int .u8 0) := fun i hi => by
    rw [Array.getElem?_append]; simp [hi]
  have h2 : ∀ i, i < 256 → (Array.replicate 510 (Value.int .u8 0) ++ Array.replicate 256 (Value.int .i64 0))[510 + i]? = some (.int .i64 0) := fun i hi => by
    rw [Array.getElem?_append]; simp [hi]
  exact ⟨by simp, fun i hi => by omega, fun i hi => ⟨0, h1 i hi⟩, fun i hi => ⟨0, h2 i hi⟩, h2 0 (by decide)⟩
theorem laid_step {arr : Array Value} {k : Nat} (h : Laid arr k) (hk : k < 255) :
    Laid (((arr.setIfInBounds k (.int .u8 (ex k))).setIfInBounds (k + 255) (.int .u8 (ex k))).setIfInBounds (510 + ex k) (.int .i64 k)) (k + 1) := by
  obtain ⟨hs, h1, h2, h3, h4⟩ := h
  have hx := ex_lt k
  have hn := ex_ne k
  refine ⟨by simp [hs], ?_, ?_, ?_, ?_⟩
  · intro i hi
    by_cases e : i = k
    · subst e
      refine ⟨?_, ?_, ?_⟩
      · rw [Array.getElem?_setIfInBounds, if_neg (by omega), Array.getElem?_setIfInBounds, if_neg (by omega), Array.getElem?_setIfInBounds, if_pos rfl, if_pos (by omega)]
      · rw [Array.getElem?_setIfInBounds, if_neg (by omega), Array.getElem?_setIfInBounds, if_pos rfl, if_pos (by simp [hs]; omega)]
      · rw [Array.getElem?_setIfInBounds, if_pos rfl, if_pos (by simp [hs]; omega)]
    · have hi' : i < k := by omega
      obtain ⟨a1, a2, a3⟩ := h1 i hi'
      have hxi := ex_lt i
      have hne : ex i ≠ ex k := fun e' => e (ex_inj i k (by omega) hk e')
      refine ⟨?_, ?_, ?_⟩
      · rw [Array.getElem?_setIfInBounds, if_neg (by omega), Array.getElem?_setIfInBounds, if_neg (by omega), Array.getElem?_setIfInBounds, if_neg (by omega)]; exact a1
      · rw [Array.getElem?_setIfInBounds, if_neg (by omega), Array.getElem?_setIfInBounds, if_neg (by omega), Array.getElem?_setIfInBounds, if_neg (by omega)]; exact a2
      · rw [Array.getElem?_setIfInBounds, if_neg (by omega), Array.getElem?_setIfInBounds, if_neg (by omega), Array.getElem?_setIfInBounds, if_neg (by omega)]; exact a3
  · intro i hi
    simp only [Array.getElem?_setIfInBounds]
    obtain ⟨n, hn⟩ := h2 i hi
    rw [if_neg (by omega)]
    split
    · exact ⟨ex k, by simp [hs]; omega⟩
    · split
      · exact ⟨ex k, by simp [hs]; omega⟩
      · exact ⟨n, hn⟩
  · intro i hi
    simp only [Array.getElem?_setIfInBounds]
    obtain ⟨n, hn⟩ := h3 i hi
    split
    · exact ⟨k, by simp [hs]; omega⟩
    · rw [if_neg (by omega), if_neg (by omega)]; exact ⟨n, hn⟩
  · rw [Array.getElem?_setIfInBounds, if_neg (by omega), Array.getElem?_setIfInBounds, if_neg (by omega), Array.getElem?_setIfInBounds, if_neg (by omega)]; exact h4

/-- a field lies at block b -/
def IsField (w : World) (b : Nat) : Prop := ∃ arr, Blk w b arr 90 ∧ Laid arr 255
theorem IsField.power {w : World} {b : Nat} (h : IsField w b) (i : Nat) (hi : i < 510) : w.cell? ⟨b, i, none⟩ = some (.int .u8 (ex i)) := by
  obtain ⟨arr, hb, _, h1, _⟩ := h
  rw [hb.cell]
  by_cases hlt : i < 255
  · exact (h1 i hlt).1
  · have := (h1 (i - 255) (by omega)).2.1
    rw [show i - 255 + 255 = i from by omega] at this
    rw [this, show i = (i - 255) + 255 from by omega, ex_more]
    simp
theorem IsField.log {w : World} {b : Nat} (h : IsField w b) (a : Nat) (ha : a < 256) : w.cell? ⟨b, 510 + a, none⟩ = some (.int .i64 (lg a)) := by
  obtain ⟨arr, hb, _, h1, _, _, h4⟩ := h
  rw [hb.cell]
  by_cases h0 : a = 0
  · subst h0; exact h4
  · have := (h1 (lg a) (lg_lt a ha)).2.2
    rw [ex_lg a ha h0] at this
    exact this
theorem IsField.below {w w' : World} {b B : Nat} (h : IsField w b) (hb : Below B w w') (hB : b < B) : IsField w' b := by
  obtain ⟨arr, h1, h2⟩ := h; exact ⟨arr, h1.below hb hB, h2⟩
theorem IsField.lt {w : World} {b : Nat} (h : IsField w b) : b < w.heap.size := by
  obtain ⟨arr, h1, h2⟩ := h; exact h1.lt
theorem IsField.drewN {w : World} {b : Nat} (h : IsField w b) (n : Nat) : IsField (w.drewN n) b := h
end Go.Proofs.Ytdciakbichgddaa
