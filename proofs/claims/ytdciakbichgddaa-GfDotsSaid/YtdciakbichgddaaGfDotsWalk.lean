/- The walk of the statement GfDots. -/
import Derived.Test.YtdciakbichgddaaKeep
namespace Go.Proofs.Ytdciakbichgddaa
open Go Go.RowKit Go.Mem Gf

set_option maxRecDepth 20000 in
set_option maxHeartbeats 1000000 in
theorem gfDots_walk (w : World) (va : Value) (xs : List UInt8) (ha : Bys w va xs) (vb : Value) (ys : List UInt8) (hb : Bys w vb ys) :
    Calls Try.prog 5 #[va, vb] w fun e w' => e = .returned (.bool true) ∧ Below w.heap.size w w' := by
  go_enter Try.func5, Try.ntmps5
  go_wp2_with fail
  refine (cut8_calls va xs 60 _ ha).mono ?_
  rintro e w1 ⟨⟨va', rfl, ha'⟩, rfl⟩
  go_wp2_with fail
  refine (cut8_calls vb ys 60 _ hb).mono ?_
  rintro e w1 ⟨⟨vb', rfl, hb'⟩, rfl⟩
  go_wp2_with fail
  refine (new_calls _).mono ?_
  rintro e w1 ⟨rfl, hf, hbl⟩
  have ha2 := ha'.below hbl
  have hb2 := hb'.below hbl
  go_wp2_with (first
    | (go_at_call 31; refine (fdot_calls _ _ _ _ _ _ hf ha2 hb2).mono ?_; rintro e w2 ⟨rfl, d, rfl⟩)
    | (go_at_call 32; refine (rdot_calls _ _ _ _ _ (ha2.drewN _) (hb2.drewN _)).mono ?_; rintro e w3 ⟨rfl, d2, rfl⟩)
    | (go_at_call 27; refine (wakes04_calls _).mono ?_; rintro e w4 ⟨rfl, rfl⟩))
  go_ret
  exact ⟨rfl, below_drewN hbl _⟩
end Go.Proofs.Ytdciakbichgddaa
