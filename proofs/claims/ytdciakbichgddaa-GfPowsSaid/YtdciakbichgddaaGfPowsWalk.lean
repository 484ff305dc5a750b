/- The walk of the statement GfPows. -/
import Derived.Test.YtdciakbichgddaaGfDot
namespace Go.Proofs.Ytdciakbichgddaa
open Go Go.RowKit Go.Mem Gf

set_option maxHeartbeats 1000000 in
theorem gfPows_walk (w : World) (a : Nat) (ha : a < 256) (n : Int) (_hn : -9223372036854775808 ≤ n ∧ n ≤ 9223372036854775807) :
    Calls Try.prog 3 #[.int .u8 a, .int .i64 n] w fun e w' => e = .returned (.bool true) ∧ Below w.heap.size w w' := by
  clear _hn
  go_enter Try.func3, Try.ntmps3
  go_wp2_with (first
    | (go_at_call 24; refine (new_calls _).mono ?_; rintro e w1 ⟨rfl, hf, hb⟩)
    | (go_at_call 25; refine (fpow_calls _ _ _ ha _ (by assumption)).mono ?_; rintro e w2 ⟨rfl, d, rfl⟩)
    | (go_at_call 26; refine (rpow_calls _ _ ha _).mono ?_; rintro e w3 ⟨rfl, rfl⟩)
    | (go_at_call 27; refine (wakes04_calls _).mono ?_; rintro e w4 ⟨rfl, rfl⟩))
  go_ret
  exact ⟨rfl, below_drewN (by assumption) _⟩
end Go.Proofs.Ytdciakbichgddaa
