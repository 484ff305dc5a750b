/- The walk of the statement GfLaws. -/
import Derived.Test.YtdciakbichgddaaKeep
namespace Go.Proofs.Ytdciakbichgddaa
open Go Go.RowKit Go.Mem Gf

theorem fmul1_calls (b x : Nat) (hx : x < 256) (w : World) (hf : IsField w b) :
    Calls Try.prog 28 #[.pointer (some ⟨b, 0, none⟩), .int .u8 x, .int .u8 1] w fun e w' => e = .returned (.int .u8 x) ∧ ∃ n, w' = w.drewN n := by
  have := fmul_calls b x 1 hx (by decide) w hf
  rw [mul_one x hx] at this
  exact this
theorem fmul0_calls (b x : Nat) (hx : x < 256) (w : World) (hf : IsField w b) :
    Calls Try.prog 28 #[.pointer (some ⟨b, 0, none⟩), .int .u8 x, .int .u8 0] w fun e w' => e = .returned (.int .u8 0) ∧ ∃ n, w' = w.drewN n := by
  have := fmul_calls b x 0 hx (by decide) w hf
  rw [mul_zero x] at this
  exact this
theorem finv0_calls (b : Nat) (w : World) (hf : IsField w b) :
    Calls Try.prog 37 #[.pointer (some ⟨b, 0, none⟩), .int .u8 0] w fun e w' => e = .returned (.int .u8 0) ∧ ∃ n, w' = w.drewN n := finv_calls b 0 (by decide) w hf

set_option maxRecDepth 20000 in
set_option maxHeartbeats 2000000 in
theorem gfLaws_walk (w : World) (a : Nat) (ha : a < 256) (b : Nat) (hb : b < 256) (c : Nat) (hc : c < 256) :
    Calls Try.prog 8 #[.int .u8 a, .int .u8 b, .int .u8 c] w fun e w' => e = .returned (.bool true) ∧ Below w.heap.size w w' := by
  have t1 : ((mul a b : Int) != (mul b a : Int)) = false := by rw [mul_comm a b ha hb]; simp
  have t2 : ((mul a (mul b c) : Int) != (mul (mul a b) c : Int)) = false := by rw [mul_assoc a b c ha hb hc]; simp
  have t3 : ((mul a (b ^^^ c) : Int) != ((mul a b ^^^ mul a c : Nat) : Int)) = false := by rw [mul_xor]; simp
  have b1 := mul_lt a b ha
  have b2 := mul_lt b c hb
  have b3 := mul_lt a c ha
  have b4 := xor_lt b c hb hc
  have b5 := invN_lt a
  by_cases h0 : a = 0
  · have t0 : ((a : Int) == 0) = true := by rw [h0]; rfl
    clear h0
    go_enter Try.func8, Try.ntmps8
    go_wp2_with (first
      | (go_at_call 24; refine (new_calls _).mono ?_; rintro e w1 ⟨rfl, hf, hbl⟩)
      | (go_at_call 28; (with_reducible refine (fmul_calls _ _ _ (by assumption) (by assumption) _ (by first | assumption | exact IsField.drewN (by assumption) _)).mono ?_); rintro e w2 ⟨rfl, d2, rfl⟩)
      | (go_at_call 28; (with_reducible refine (fmul1_calls _ _ (by assumption) _ (by first | assumption | exact IsField.drewN (by assumption) _)).mono ?_); rintro e w2 ⟨rfl, d2, rfl⟩)
      | (go_at_call 28; (with_reducible refine (fmul0_calls _ _ (by assumption) _ (by first | assumption | exact IsField.drewN (by assumption) _)).mono ?_); rintro e w2 ⟨rfl, d2, rfl⟩)
      | (go_at_call 35; refine (add_calls _ _ (by assumption) (by assumption) _).mono ?_; rintro e w2 ⟨rfl, rfl⟩)
      | (go_at_call 36; refine (mul_calls _ _ ha hb _).mono ?_; rintro e w2 ⟨rfl, rfl⟩)
      | (go_at_call 37; (with_reducible refine (finv0_calls _ _ (by first | assumption | exact IsField.drewN (by assumption) _)).mono ?_); rintro e w2 ⟨rfl, d3, rfl⟩)
      | (go_at_call 27; refine (wakes04_calls _).mono ?_; rintro e w4 ⟨rfl, rfl⟩))
    go_ret
    exact ⟨rfl, below_drewN (by assumption) _⟩
  · have t0 : ((a : Int) == 0) = false := by simp; omega
    have t4 : mul a (invN a) = 1 := invN_mul a ha h0
    have t5 : powN a 255 = 1 := by
      have := gpow_255 (.ofNat a) (fun e => h0 (by have e' := congrArg UInt8.toNat e; rw [toNat_of a ha] at e'; exact e'))
      rw [powN]; exact congrArg UInt8.toNat this
    have t6 : invN (invN a) = a := by
      rw [invN, invN, ofNat_toNat, ginv_ginv, toNat_of a ha]
    have t7 : mul (mul a b) (invN a) = b := by
      rw [mul_comm a b ha hb, ← mul_assoc b a _ hb ha b5, t4, mul_one b hb]
    go_enter Try.func8, Try.ntmps8
    go_wp2_with (first
      | (go_at_call 24; refine (new_calls _).mono ?_; rintro e w1 ⟨rfl, hf, hbl⟩)
      | (go_at_call 28; (with_reducible refine (fmul_calls _ _ _ (by assumption) (by assumption) _ (by first | assumption | exact IsField.drewN (by assumption) _)).mono ?_); rintro e w2 ⟨rfl, d2, rfl⟩)
      | (go_at_call 28; (with_reducible refine (fmul1_calls _ _ (by assumption) _ (by first | assumption | exact IsField.drewN (by assumption) _)).mono ?_); rintro e w2 ⟨rfl, d2, rfl⟩)
      | (go_at_call 28; (with_reducible refine (fmul0_calls _ _ (by assumption) _ (by first | assumption | exact IsField.drewN (by assumption) _)).mono ?_); rintro e w2 ⟨rfl, d2, rfl⟩)
      | (go_at_call 35; refine (add_calls _ _ (by assumption) (by assumption) _).mono ?_; rintro e w2 ⟨rfl, rfl⟩)
      | (go_at_call 36; refine (mul_calls _ _ ha hb _).mono ?_; rintro e w2 ⟨rfl, rfl⟩)
      | (go_at_call 34; refine (fdiv_calls _ _ _ (by assumption) (by assumption) h0 _ (by first | assumption | exact IsField.drewN (by assumption) _)).mono ?_; rintro e w2 ⟨rfl, d, rfl⟩)
      | (go_at_call 25; refine (fpow_calls _ a 255 ha _ (by first | assumption | exact IsField.drewN (by assumption) _)).mono ?_; rintro e w2 ⟨rfl, d, rfl⟩)
      | (go_at_call 37; (with_reducible refine (finv_calls _ _ (by assumption) _ (by first | assumption | exact IsField.drewN (by assumption) _)).mono ?_); rintro e w2 ⟨rfl, d3, rfl⟩)
      | (go_at_call 27; refine (wakes04_calls _).mono ?_; rintro e w4 ⟨rfl, rfl⟩))
    go_ret
    exact ⟨rfl, below_drewN (by assumption) _⟩
end Go.Proofs.Ytdciakbichgddaa
