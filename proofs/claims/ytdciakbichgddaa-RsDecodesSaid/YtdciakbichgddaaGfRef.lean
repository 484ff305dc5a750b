/- The walks of the document's own answers of chapter 4, and of sums of products. -/
import Derived.Test.YtdciakbichgddaaGfField
namespace Go.Proofs.Ytdciakbichgddaa
open Go Go.RowKit Go.Mem Gf

theorem bits_xor_i64 (a b : Nat) (ha : a < 512) (hb : b < 512) : bits .xor .i64 a b = ((a ^^^ b : Nat) : Int) := by
  have h1 : a % 2 ^ IntKind.bits .i64 = a := Nat.mod_eq_of_lt (Nat.lt_trans ha (by decide))
  have h2 : b % 2 ^ IntKind.bits .i64 = b := Nat.mod_eq_of_lt (Nat.lt_trans hb (by decide))
  simp only [bits, BitVec.ofInt_natCast, BitVec.toNat_xor, BitVec.toNat_ofNat, h1, h2]
  have h3 : a ^^^ b < 2 ^ 9 := Nat.xor_lt_two_pow ha hb
  exact IntWalk.i64_in _ (by omega)
theorem xor_low (x : Nat) (hx : x < 128) : x * 2 = tw x := by
  have := tw_low x hx
  omega
theorem xor_high (x : Nat) (hx : x < 256) (h : 128 ≤ x) : (x * 2) ^^^ 285 = tw x := by
  rw [tw, show x / 128 = 1 from by omega, Nat.one_mul]
theorem half_pow (b k : Nat) : ((b : Int) / 2 ^ k) = ((b / 2 ^ k : Nat) : Int) := by simp
theorem half_succ (b k : Nat) : b / 2 ^ k / 2 = b / 2 ^ (k + 1) := by rw [Nat.div_div_eq_div_mul, Nat.pow_succ]
theorem mulLoop_8even (k x b p : Nat) (hk : k < 8) (h : b / 2 ^ k % 2 = 0) : mulLoop (8 - k) x (b / 2 ^ k) p = mulLoop (8 - (k + 1)) (tw x) (b / 2 ^ (k + 1)) p := by
  rw [show 8 - k = (8 - (k + 1)) + 1 from by omega, mulLoop_even _ _ _ _ h, half_succ]
theorem mulLoop_8odd (k x b p : Nat) (hk : k < 8) (h : b / 2 ^ k % 2 = 1) : mulLoop (8 - k) x (b / 2 ^ k) p = mulLoop (8 - (k + 1)) (tw x) (b / 2 ^ (k + 1)) (p ^^^ x) := by
  rw [show 8 - k = (8 - (k + 1)) + 1 from by omega, mulLoop_odd _ _ _ _ h, half_succ]

set_option maxRecDepth 20000 in
set_option maxHeartbeats 1000000 in
theorem rmul_calls (a b : Nat) (ha : a < 256) (hb : b < 256) (w : World) :
    Calls Try.prog 33 #[.int .u8 a, .int .u8 b] w fun e w' => e = .returned (.int .u8 (mul a b)) ∧ w = w' := by
  go_enter Try.func33, Try.ntmps33
  go_wp2
  go_loop [5, 6, 7] (fun u o v => ∃ k x p : Nat, k ≤ 8 ∧ u = .int .i64 x ∧ v = .int .i64 k ∧ o = .int .i64 p ∧ x < 256 ∧ p < 256 ∧ mulLoop (8 - k) x (b / 2 ^ k) p = mul a b)
    (fun _ _ v => 8 - (intOf v).toNat)
  case atStart => exact ⟨0, a, 0, by decide, by go_num, rfl, rfl, ha, by decide, by simp [mul]⟩
  case round =>
    obtain ⟨k, x, p, hk, rfl, rfl, rfl, hx, hp, he⟩ := hrel
    have He := Lib.hid he; clear he
    by_cases h0 : k < 8
    · have hy := half_pow b k
      have hy2 : b / 2 ^ k < 256 := Nat.lt_of_le_of_lt (Nat.div_le_self _ _) hb
      have hs0 := mulLoop_8even k x b p h0
      have hs1 := mulLoop_8odd k x b p h0
      have Hs0 := Lib.hid hs0; have Hs1 := Lib.hid hs1; clear hs0 hs1
      have hlow := bits_low (b / 2 ^ k) hy2
      have hX := bits_xor_i64 p x (by omega) (by omega)
      have hX2 := bits_xor_i64 (x * 2) 285 (by omega) (by omega)
      have hpx := xor_lt p x hp hx
      generalize hg : b / 2 ^ k = y at *
      have Hg := Lib.hid hg; clear hg
      have hlow2 : bits .and .u8 ((b : Int) / 2 ^ k) 1 = ((y % 2 : Nat) : Int) := by rw [hy]; exact hlow
      have htw : tw x < 256 := tw_lt x hx
      have ex : ∃ z : Nat, Hid (z = tw x) ∧ z < 256 ∧ ((128 ≤ x ∧ bits .xor .i64 ((x : Int) * 2) 285 = (z : Int)) ∨ (x < 128 ∧ Hid (x * 2 = z))) := by
        refine ⟨tw x, rfl, htw, ?_⟩
        by_cases h : 128 ≤ x
        · exact .inl ⟨h, by have := hX2; rw [xor_high x hx h] at this; simpa using this⟩
        · exact .inr ⟨by omega, xor_low x (by omega)⟩
      clear hX2 htw
      rcases ex with ⟨z, Hz, hz, ⟨hx8, hzz⟩ | ⟨hx8, hzz⟩⟩
      · rcases Nat.mod_two_eq_zero_or_one y with h1 | h1
        · have ht : (bits .and .u8 ((b : Int) / 2 ^ k) 1 == 1) = false := by rw [hlow2, h1]; rfl
          have H1 := Lib.hid h1
          clear hlow hlow2 h1 hX hy
          go_wp2
          refine ⟨⟨k + 1, z, p, by omega, rfl, by go_num, rfl, hz, hp, ?_⟩, by simp [intOf]; omega⟩
          rw [← He.out, Hs0.out H1.out, Hz.out]
        · have ht : (bits .and .u8 ((b : Int) / 2 ^ k) 1 == 1) = true := by rw [hlow2, h1]; rfl
          have H1 := Lib.hid h1
          clear hlow hlow2 h1 hy
          go_wp2
          refine ⟨⟨k + 1, z, p ^^^ x, by omega, rfl, by go_num, rfl, hz, hpx, ?_⟩, by simp [intOf]; omega⟩
          rw [← He.out, Hs1.out H1.out, Hz.out]
      · rcases Nat.mod_two_eq_zero_or_one y with h1 | h1
        · have ht : (bits .and .u8 ((b : Int) / 2 ^ k) 1 == 1) = false := by rw [hlow2, h1]; rfl
          have H1 := Lib.hid h1
          clear hlow hlow2 h1 hX hy
          go_wp2
          refine ⟨⟨k + 1, z, p, by omega, by have := hzz.out; rw [← this]; go_num, by go_num, rfl, hz, hp, ?_⟩, by simp [intOf]; omega⟩
          rw [← He.out, Hs0.out H1.out, Hz.out]
        · have ht : (bits .and .u8 ((b : Int) / 2 ^ k) 1 == 1) = true := by rw [hlow2, h1]; rfl
          have H1 := Lib.hid h1
          clear hlow hlow2 h1 hy
          go_wp2
          refine ⟨⟨k + 1, z, p ^^^ x, by omega, by have := hzz.out; rw [← this]; go_num, by go_num, rfl, hz, hpx, ?_⟩, by simp [intOf]; omega⟩
          rw [← He.out, Hs1.out H1.out, Hz.out]
    · obtain rfl : k = 8 := by omega
      go_wp2
      go_ret
      exact ⟨ret_int (by rw [← He.out]; rfl), rfl⟩
end Go.Proofs.Ytdciakbichgddaa
