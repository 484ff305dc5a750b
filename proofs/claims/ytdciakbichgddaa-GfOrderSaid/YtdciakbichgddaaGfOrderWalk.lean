/- The walk of the statement GfOrder. -/
import Derived.Test.YtdciakbichgddaaKeep
namespace Go.Proofs.Ytdciakbichgddaa
open Go Go.RowKit Go.Mem Gf

theorem powN_two (k : Nat) : powN 2 (k : Int) = ex k := by
  have h := gpow_ex 2 (by decide) k
  rw [powN, Int.toNat_natCast]
  have e : (UInt8.ofNat 2) = 2 := rfl
  rw [e, h, show lg (UInt8.toNat 2) = 1 from by decide +kernel, Nat.one_mul]
/-- which bytes are marked behind k rounds -/
def Seen (arr : Array Value) (k : Nat) : Prop := arr.size = 256 ∧ ∀ y, y < 256 → arr[y]? = some (.bool ((List.range k).any fun j => ex j == y))
theorem seen_zero : Seen Try.zeroCells27 0 := by
  have e : Try.zeroCells27 = Array.replicate 256 (.bool false) := by kernel_rfl
  rw [e]
  exact ⟨by simp, fun y hy => by simp [hy]⟩
theorem seen_step {arr : Array Value} {k : Nat} (h : Seen arr k) : Seen (arr.setIfInBounds (ex k) (.bool true)) (k + 1) := by
  obtain ⟨h1, h2⟩ := h
  refine ⟨by simp [h1], fun y hy => ?_⟩
  rw [Array.getElem?_setIfInBounds]
  by_cases e : ex k = y
  · rw [if_pos e, if_pos (by omega)]
    simp [List.range_succ, e]
  · rw [if_neg e, h2 y hy]
    simp [List.range_succ, e]
theorem seen_not {arr : Array Value} {k : Nat} (h : Seen arr k) (hk : k < 255) : arr[ex k]? = some (.bool false) := by
  rw [h.2 _ (ex_lt k)]
  have : ((List.range k).any fun j => ex j == ex k) = false := by
    rw [Bool.eq_false_iff]
    intro h
    obtain ⟨j, hj, he⟩ := List.any_eq_true.1 h
    have hj := List.mem_range.1 hj
    have := ex_inj j k (by omega) hk (by simpa using he)
    omega
  rw [this]

theorem IsField.set_other {w : World} {b : Nat} (h : IsField w b) {a : Addr} (ha : a.block ≠ b) (v : Value) : IsField (w.setCell a v) b := by
  obtain ⟨arr, h1, h2⟩ := h; exact ⟨arr, h1.set_other ha v, h2⟩
theorem powN_two_mod (n : Int) (h : 0 ≤ n) : powN 2 (n % 255) = powN 2 n := by
  obtain ⟨m, rfl⟩ := Int.eq_ofNat_of_zero_le h
  have e : ((m : Int) % 255) = ((m % 255 : Nat) : Int) := by omega
  rw [e, powN_two, powN_two, ex_mod]
set_option maxRecDepth 20000 in
set_option maxHeartbeats 2000000 in
theorem gfOrder_walk (w : World) (n : Int) (_hn : -9223372036854775808 ≤ n ∧ n ≤ 9223372036854775807) :
    Calls Try.prog 4 #[.int .i64 n] w fun e w' => e = .returned (.bool true) ∧ Below w.heap.size w w' := by
  go_enter Try.func4, Try.ntmps4
  go_wp2_with fail
  refine (new_calls _).mono ?_
  rintro e w1 ⟨rfl, hf, hbl⟩
  have hlt := hf.lt
  go_wp2_with fail
  go_loopw [5, 6] (fun x i wr => ∃ (k : Nat) (arr : Array Value), k ≤ 255 ∧ i = .int .i64 k ∧ x = .int .u8 (ex k) ∧ IsField wr w.heap.size ∧ Blk wr w1.heap.size arr 27 ∧ Seen arr k ∧ Below w1.heap.size w1 wr)
    (fun _ i _ => 255 - (intOf i).toNat)
  case atStart => exact ⟨0, _, by omega, rfl, rfl, hf.below ((Below.refl _ _).alloc (Nat.le_refl _) _) hlt, Blk.new _ _ _, seen_zero, (Below.refl _ _).alloc (Nat.le_refl _) _⟩
  case round =>
    obtain ⟨k, arr, hk, rfl, rfl, hfr, hblk, hs, hbel⟩ := hrel
    have Hs := Lib.hid hs; clear hs
    have hx := ex_lt k
    by_cases h0 : k < 255
    · have hn0 : ((ex k : Int) == 0) = false := by have := ex_ne k; simp; omega
      have hp : ((powN 2 k : Int) != (ex k : Int)) = false := by rw [powN_two]; simp
      have c0 : wr.cell? ⟨w1.heap.size, ex k, none⟩ = some (.bool false) := by rw [hblk.cell]; exact seen_not Hs.out h0
      have f0 : wr.frozen? ⟨w1.heap.size, ex k, none⟩ = false := hblk.free _
      have Hm : Hid (mul (ex k) 2 = ex (k + 1)) := ex_add k 1
      go_wp2_with (first
        | (go_at_call 25; refine (fpow_calls _ 2 k (by decide) _ hfr).mono ?_; rintro e w2 ⟨rfl, d, rfl⟩)
        | (go_at_call 28; refine (fmul_calls w.heap.size (ex k) 2 hx (by decide) _ (IsField.set_other (hfr.drewN _) (by show w1.heap.size ≠ _; omega) _)).mono ?_; rintro e w2 ⟨rfl, d2, rfl⟩))
      refine ⟨⟨k + 1, _, by omega, by go_num, by rw [Hm.out], ?_, ((hblk.drewN _).set _ _).drewN _, seen_step Hs.out, ?_⟩, by simp [intOf]; omega⟩
      · exact (IsField.set_other (hfr.drewN _) (by show w1.heap.size ≠ _; omega) _).drewN _
      · exact below_drewN ((below_drewN hbel _).setCell (Nat.le_refl _) _) _
    · obtain rfl : k = 255 := by omega
      have h1 : ex 255 = 1 := ex_255
      have hw := within_range n 1048576 (by decide)
      obtain ⟨hw1, hw2⟩ := hw
      have t1 : ((powN 2 (within n 1048576) : Int) == (powN 2 (within n 1048576 % 255) : Int)) = true := by rw [powN_two_mod _ hw1]; simp
      go_wp2_with fail
      refine (within_calls n 1048576 (by decide) (by decide) _).mono ?_
      rintro e w2 ⟨rfl, rfl⟩
      go_wp2_with fail
      refine (fpow_calls _ 2 _ (by decide) _ hfr).mono ?_
      rintro e w2 ⟨rfl, d, rfl⟩
      go_wp2_with fail
      refine (fpow_calls _ 2 _ (by decide) _ (hfr.drewN _)).mono ?_
      rintro e w2 ⟨rfl, d, rfl⟩
      go_wp2_with (go_at_call 27; refine (wakes04_calls _).mono ?_; rintro e w4 ⟨rfl, rfl⟩)
      go_ret
      exact ⟨rfl, below_drewN (hbl.trans (hbel.mono (by omega))) _⟩
end Go.Proofs.Ytdciakbichgddaa
