/- The walk of the example of the document, chapter 5. -/
import Derived.Test.YtdciakbichgddaaMatGd
namespace Go.Proofs.Ytdciakbichgddaa
open Go Go.RowKit Go.Mem Gf

theorem isInv_Idm (n : Nat) : IsInv n Idm Idm := ⟨MM_Idm_left Idm, MM_Idm_left Idm⟩

set_option maxRecDepth 20000 in
set_option maxHeartbeats 1000000 in
theorem wakes05_calls (w : World) :
    Calls Try.prog 41 #[] w fun e w' => e = .returned (.bool true) ∧ Below w.heap.size w w' := by
  go_enter Try.func41, Try.ntmps41
  go_wp2_with fail
  refine (unit_calls 3 (by decide) (by decide) w).mono ?_
  rintro e w1 ⟨U, iu, rfl, hU, hb1⟩
  have hu := hU.rws (by decide) (by decide)
  go_wp2_with fail
  refine (inverse_calls _ 3 Idm w1 hu (by decide) (by decide)).mono ?_
  rintro e w2 (⟨V, iv, Y, rfl, hV, hI, hb2⟩ | ⟨rfl, hS, hb2⟩)
  · have hv := hV.rws (by decide) (by decide)
    have hu2 := hu.below hb2
    have he : Hid (rowsL 3 3 Idm = rowsL 3 3 Y) := Lib.hid (rowsL_congr ((isInv_Idm 3).unique hI))
    go_wp2_with fail
    refine (rows8_yes _ _ _ _ _ hu2 hv he.out).mono ?_
    rintro e w3 ⟨rfl, d, rfl⟩
    go_wp2
    go_ret
    exact ⟨rfl, (Aft.trans hb1 hb2).drewN _⟩
  · exact absurd hS (isInv_Idm 3).not_sing
end Go.Proofs.Ytdciakbichgddaa
