/- Walks of the document's own answers of chapter 6: the matrix, lengths. -/
import Derived.Test.YtdciakbichgddaaRsWakes
import Derived.Test.YtdciakbichgddaaMatRefInv
import Derived.Test.YtdciakbichgddaaMatProd
namespace Go.Proofs.Ytdciakbichgddaa
open Go Go.RowKit Go.Mem Gf

set_option maxRecDepth 20000 in
set_option maxHeartbeats 2000000 in
theorem rmatrix_calls (k n : Nat) (k1 : 1 ≤ k) (hkn : k ≤ n) (n2 : n ≤ 16) (w : World) :
    Calls Try.prog 68 #[.int .i64 k, .int .i64 n] w fun e w' => ∃ v, e = .returned v ∧ Rws w' v (rowsL n k (CM k)) ∧ Below w.heap.size w w' := by
  go_enter Try.func68, Try.ntmps68
  go_wp2_with fail
  refine (rvand_calls n k (by omega) n2 k1 (by omega) w).mono ?_
  rintro e w1 ⟨vv, rfl, hv, hb1⟩
  obtain ⟨av, cv, rfl⟩ := hv.mat
  have ht := rws_take hv hkn
  have hroom : n ≤ cv := by
    obtain ⟨a', c', e, h1, _⟩ := hv
    rw [rowsL_len] at e h1
    injection e with e1 e2 e3
    omega
  go_wp2_with fail
  refine (rinverse_calls _ k Vand w1 ht k1 (by omega)).mono ?_
  rintro e w2 (⟨vt, Y, rfl, hT, hI, hb2⟩ | ⟨rfl, hS, hb2⟩)
  · have hv := hv.below hb2
    go_wp2_with fail
    refine (rproduct_calls _ _ n k k Vand Y w2 hv hT n2 k1 (by omega) (by omega)).mono ?_
    rintro e w3 ⟨vm, rfl, hM, hb3⟩
    go_wp2
    go_ret
    exact ⟨vm, rfl, by rw [← rowsL_congr (CM_of k n (by omega) hI)]; exact hM, (Aft.trans hb1 hb2).trans hb3⟩
  · exact absurd hS (by obtain ⟨Y, hY⟩ := vand_inv k (by omega); exact (show IsInv k Vand Y from hY).not_sing)
end Go.Proofs.Ytdciakbichgddaa
