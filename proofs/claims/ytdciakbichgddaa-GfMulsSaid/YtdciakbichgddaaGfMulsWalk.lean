/- The walk of the statement GfMuls. -/
import Derived.Test.YtdciakbichgddaaGfDot
namespace Go.Proofs.Ytdciakbichgddaa
open Go Go.RowKit Go.Mem Gf

theorem fdiv_zero_calls' (b x y : Nat) (w : World) (h : y = 0) :
    Calls Try.prog 34 #[.pointer (some ⟨b, 0, none⟩), .int .u8 x, .int .u8 y] w fun e w' => e = .returned (.tuple #[.int .u8 0, .int .i64 1]) ∧ ∃ n, w' = w.drewN n := by
  subst h; exact fdiv_zero_calls b x w

set_option maxRecDepth 20000 in
set_option maxHeartbeats 1000000 in
theorem gfMuls_walk (w : World) (a : Nat) (ha : a < 256) (b : Nat) (hb : b < 256) :
    Calls Try.prog 6 #[.int .u8 a, .int .u8 b] w fun e w' => e = .returned (.bool true) ∧ Below w.heap.size w w' := by
  have hx : (((a ^^^ b : Nat) : Int) != bits .xor .u8 a b) = false := by rw [bits_xor_u8 a b ha hb]; simp
  have hi := invN_lt b
  by_cases h0 : b = 0
  · have t0 : ((b : Int) == 0) = true := by rw [h0]; rfl
    have H0 := Lib.hid h0; clear h0
    go_enter Try.func6, Try.ntmps6
    go_wp2_with (first
      | (go_at_call 24; refine (new_calls _).mono ?_; rintro e w1 ⟨rfl, hf, hbl⟩)
      | (go_at_call 33; refine (rmul_calls _ _ (by assumption) (by assumption) _).mono ?_; rintro e w3 ⟨rfl, rfl⟩)
      | (go_at_call 34; refine (fdiv_zero_calls' _ _ _ _ H0.out).mono ?_; rintro e w2 ⟨rfl, d, rfl⟩)
      | (go_at_call 35; refine (add_calls _ _ ha hb _).mono ?_; rintro e w2 ⟨rfl, rfl⟩)
      | (go_at_call 36; refine (mul_calls _ _ ha hb _).mono ?_; rintro e w2 ⟨rfl, rfl⟩)
      | (go_at_call 28; refine (fmul_calls _ _ _ ha hb _ (by assumption)).mono ?_; rintro e w2 ⟨rfl, d2, rfl⟩)
      | (go_at_call 37; refine (finv_calls _ _ ha _ (by assumption)).mono ?_; rintro e w2 ⟨rfl, d3, rfl⟩)
      | (go_at_call 38; refine (rinv_calls _ ha _).mono ?_; rintro e w2 ⟨rfl, rfl⟩)
      | (go_at_call 27; refine (wakes04_calls _).mono ?_; rintro e w4 ⟨rfl, rfl⟩))
    go_ret
    exact ⟨rfl, below_drewN (by assumption) _⟩
  · have t0 : ((b : Int) == 0) = false := by simp; omega
    go_enter Try.func6, Try.ntmps6
    go_wp2_with (first
      | (go_at_call 24; refine (new_calls _).mono ?_; rintro e w1 ⟨rfl, hf, hbl⟩)
      | (go_at_call 33; refine (rmul_calls _ _ (by assumption) (by assumption) _).mono ?_; rintro e w3 ⟨rfl, rfl⟩)
      | (go_at_call 34; refine (fdiv_calls _ _ _ ha hb h0 _ (by assumption)).mono ?_; rintro e w2 ⟨rfl, d, rfl⟩)
      | (go_at_call 35; refine (add_calls _ _ ha hb _).mono ?_; rintro e w2 ⟨rfl, rfl⟩)
      | (go_at_call 36; refine (mul_calls _ _ ha hb _).mono ?_; rintro e w2 ⟨rfl, rfl⟩)
      | (go_at_call 28; refine (fmul_calls _ _ _ ha hb _ (by assumption)).mono ?_; rintro e w2 ⟨rfl, d2, rfl⟩)
      | (go_at_call 37; refine (finv_calls _ _ ha _ (by assumption)).mono ?_; rintro e w2 ⟨rfl, d3, rfl⟩)
      | (go_at_call 38; refine (rinv_calls _ (by assumption) _).mono ?_; rintro e w2 ⟨rfl, rfl⟩)
      | (go_at_call 27; refine (wakes04_calls _).mono ?_; rintro e w4 ⟨rfl, rfl⟩))
    go_ret
    exact ⟨rfl, below_drewN (by assumption) _⟩
end Go.Proofs.Ytdciakbichgddaa
