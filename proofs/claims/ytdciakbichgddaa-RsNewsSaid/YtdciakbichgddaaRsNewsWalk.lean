/- The walk of the statement RsNews. -/
import Derived.Test.YtdciakbichgddaaRsRef
namespace Go.Proofs.Ytdciakbichgddaa
open Go Go.RowKit Go.Mem Gf

set_option maxRecDepth 20000 in
set_option maxHeartbeats 2000000 in
theorem rsNews_walk (w : World) (k : Int) (_hk : -9223372036854775808 ≤ k ∧ k ≤ 9223372036854775807) (n : Int) (_hn : -9223372036854775808 ≤ n ∧ n ≤ 9223372036854775807) :
    Calls Try.prog 18 #[.int .i64 k, .int .i64 n] w fun e w' => e = .returned (.bool true) ∧ Below w.heap.size w w' := by
  clear _hk _hn
  by_cases hg : 1 ≤ k ∧ k ≤ n ∧ n ≤ 16
  · obtain ⟨p, rfl⟩ : ∃ p : Nat, k = p := ⟨k.toNat, by omega⟩
    obtain ⟨q, rfl⟩ : ∃ q : Nat, n = q := ⟨n.toNat, by omega⟩
    have p1 : 1 ≤ p := by omega
    have pq : p ≤ q := by omega
    have q2 : q ≤ 16 := by omega
    clear hg
    go_enter Try.func18, Try.ntmps18
    go_wp2_with fail
    refine (rsnew_calls p q p1 pq q2 w).mono ?_
    rintro e w1 ⟨b, rfl, hb0, hc, hb1⟩
    go_wp2_with fail
    refine (matrix_calls b p q w1 hc (by omega) q2).mono ?_
    rintro e w2 ⟨vm, rfl, hm, hb2⟩
    have hm := hm.rws
    go_wp2_with fail
    refine (rmatrix_calls p q p1 pq q2 w2).mono ?_
    rintro e w3 ⟨vr, rfl, hr, hb3⟩
    have hm := hm.below hb3
    go_wp2_with fail
    refine (rows8_yes _ _ _ _ _ hm hr rfl).mono ?_
    rintro e w4 ⟨rfl, d, rfl⟩
    go_wp2_with fail
    refine (wakes06_calls _).mono ?_
    rintro e w5 ⟨rfl, hb5⟩
    go_wp2
    go_ret
    exact ⟨rfl, (((Aft.trans hb1 hb2).trans hb3).drewN d).trans hb5⟩
  · have hbad : k < 1 ∨ n < k ∨ 16 < n := by omega
    clear hg
    by_cases h1 : k < 1
    · go_enter Try.func18, Try.ntmps18
      go_wp2_with fail
      refine (rsnew_bad k n hbad w).mono ?_
      rintro e w1 ⟨rfl, rfl⟩
      go_wp2_with fail
      refine (wakes06_calls _).mono ?_
      rintro e w5 ⟨rfl, hb5⟩
      go_wp2
      go_ret
      exact ⟨rfl, hb5⟩
    · by_cases h2 : n < k
      · go_enter Try.func18, Try.ntmps18
        go_wp2_with fail
        refine (rsnew_bad k n hbad w).mono ?_
        rintro e w1 ⟨rfl, rfl⟩
        go_wp2_with fail
        refine (wakes06_calls _).mono ?_
        rintro e w5 ⟨rfl, hb5⟩
        go_wp2
        go_ret
        exact ⟨rfl, hb5⟩
      · have h3 : 16 < n := by omega
        go_enter Try.func18, Try.ntmps18
        go_wp2_with fail
        refine (rsnew_bad k n hbad w).mono ?_
        rintro e w1 ⟨rfl, rfl⟩
        go_wp2_with fail
        refine (wakes06_calls _).mono ?_
        rintro e w5 ⟨rfl, hb5⟩
        go_wp2
        go_ret
        exact ⟨rfl, hb5⟩
end Go.Proofs.Ytdciakbichgddaa
