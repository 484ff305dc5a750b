/- The walk of the statement MatrixMade. -/
import Derived.Test.YtdciakbichgddaaMatRef
namespace Go.Proofs.Ytdciakbichgddaa
open Go Go.RowKit Go.Mem Gf

set_option maxRecDepth 20000 in
set_option maxHeartbeats 4000000 in
theorem matrixMade_walk (w : World) (n : Int) (_hn : -9223372036854775808 ≤ n ∧ n ≤ 9223372036854775807) (k : Int) (_hk : -9223372036854775808 ≤ k ∧ k ≤ 9223372036854775807) :
    Calls Try.prog 10 #[.int .i64 n, .int .i64 k] w fun e w' => e = .returned (.bool true) ∧ Below w.heap.size w w' := by
  by_cases h40 : 40 < n
  · go_enter Try.func10, Try.ntmps10
    go_wp2_with fail
    refine (within_calls n 40 (by decide) (by decide) _).mono ?_
    rintro e w1 ⟨rfl, rfl⟩
    obtain ⟨hq1, hq2⟩ := within_range n 40 (by decide)
    generalize within n 40 = q at *
    go_wp2_with fail
    by_cases hq : 1 ≤ q ∧ q ≤ 16
    · obtain ⟨p, hp⟩ : ∃ p : Nat, q = p := ⟨q.toNat, by omega⟩
      rw [hp]
      have p1 : 1 ≤ p := by omega
      have p2 : p ≤ 16 := by omega
      clear hq hp hq1 hq2
      refine (unit_calls p p1 p2 _).mono ?_
      rintro e w1 ⟨U, iu, rfl, hU, hb1⟩
      have hu := hU.rws (by omega) (by omega)
      clear hU
      go_wp2_with fail
      refine (runit_calls p p2 _).mono ?_
      rintro e w2 ⟨vr, rfl, hr, hb2⟩
      have hu := hu.below hb2
      go_wp2_with fail
      refine (rows8_yes _ _ _ _ _ hu hr rfl).mono ?_
      rintro e w3 ⟨rfl, d1, rfl⟩
      have W0 := Aft.trans hb1 hb2
      have W := W0.drewN d1
      clear hu hr hb1 hb2
      go_wp2_with fail
      by_cases hk : 1 ≤ k ∧ k ≤ 16
      · obtain ⟨m, rfl⟩ : ∃ p : Nat, k = p := ⟨k.toNat, by omega⟩
        have m1 : 1 ≤ m := by omega
        have m2 : m ≤ 16 := by omega
        clear hk _hk
        refine (vand_calls p m p1 p2 m1 m2 _).mono ?_
        rintro e w4 ⟨V, iv, rfl, hV, hb3⟩
        have hv := hV.rws (by omega) (by omega)
        clear hV
        go_wp2_with fail
        refine (rvand_calls p m p1 p2 m1 m2 _).mono ?_
        rintro e w5 ⟨vs, rfl, hs, hb4⟩
        have hv := hv.below hb4
        go_wp2_with fail
        refine (rows8_yes _ _ _ _ _ hv hs rfl).mono ?_
        rintro e w6 ⟨rfl, d2, rfl⟩
        go_wp2_with fail
        refine (wakes05_calls _).mono ?_
        rintro e w7 ⟨rfl, hb5⟩
        go_wp2
        go_ret
        exact ⟨rfl, (((W.trans hb3).trans hb4).drewN d2).trans hb5⟩
      · have hk' : k < 1 ∨ 16 < k := by omega
        clear hk _hk
        refine (vand_none (p : Int) k (by omega) _).mono ?_
        rintro e w5 ⟨rfl, rfl⟩
        go_wp2_with fail
        refine (rvand_none (p : Int) k (by omega) _).mono ?_
        rintro e w5 ⟨rfl, rfl⟩
        go_wp2_with fail
        refine (rows8_yes _ _ [] [] _ (Rws.nil _) (Rws.nil _) rfl).mono ?_
        rintro e w6 ⟨rfl, d2, rfl⟩
        go_wp2_with fail
        refine (wakes05_calls _).mono ?_
        rintro e w7 ⟨rfl, hb5⟩
        go_wp2
        go_ret
        exact ⟨rfl, (W0.drewN (d1 + d2)).trans hb5⟩
    · have hq' : q < 1 ∨ 16 < q := by omega
      clear hq
      refine (unit_none q hq' _).mono ?_
      rintro e w1 ⟨rfl, rfl⟩
      go_wp2_with fail
      refine (runit_none q hq' _).mono ?_
      rintro e w1 ⟨rfl, rfl⟩
      go_wp2_with fail
      refine (rows8_yes _ _ [] [] _ (Rws.nil _) (Rws.nil _) rfl).mono ?_
      rintro e w6 ⟨rfl, d1, rfl⟩
      go_wp2_with fail
      refine (vand_none q k (by omega) _).mono ?_
      rintro e w5 ⟨rfl, rfl⟩
      go_wp2_with fail
      refine (rvand_none q k (by omega) _).mono ?_
      rintro e w5 ⟨rfl, rfl⟩
      go_wp2_with fail
      refine (rows8_yes _ _ [] [] _ (Rws.nil _) (Rws.nil _) rfl).mono ?_
      rintro e w6 ⟨rfl, d2, rfl⟩
      go_wp2_with fail
      refine (wakes05_calls _).mono ?_
      rintro e w7 ⟨rfl, hb5⟩
      go_wp2
      go_ret
      exact ⟨rfl, (((Aft.refl w).drewN (d1 + d2)).trans hb5)⟩
  · have h41 : n ≤ 40 := by omega
    go_enter Try.func10, Try.ntmps10
    go_wp2_with fail
    by_cases hq : 1 ≤ n ∧ n ≤ 16
    · obtain ⟨p, hp⟩ : ∃ p : Nat, n = p := ⟨n.toNat, by omega⟩
      rw [hp]
      have p1 : 1 ≤ p := by omega
      have p2 : p ≤ 16 := by omega
      clear hq hp h40 h41 _hn
      refine (unit_calls p p1 p2 _).mono ?_
      rintro e w1 ⟨U, iu, rfl, hU, hb1⟩
      have hu := hU.rws (by omega) (by omega)
      clear hU
      go_wp2_with fail
      refine (runit_calls p p2 _).mono ?_
      rintro e w2 ⟨vr, rfl, hr, hb2⟩
      have hu := hu.below hb2
      go_wp2_with fail
      refine (rows8_yes _ _ _ _ _ hu hr rfl).mono ?_
      rintro e w3 ⟨rfl, d1, rfl⟩
      have W0 := Aft.trans hb1 hb2
      have W := W0.drewN d1
      clear hu hr hb1 hb2
      go_wp2_with fail
      by_cases hk : 1 ≤ k ∧ k ≤ 16
      · obtain ⟨m, rfl⟩ : ∃ p : Nat, k = p := ⟨k.toNat, by omega⟩
        have m1 : 1 ≤ m := by omega
        have m2 : m ≤ 16 := by omega
        clear hk _hk
        refine (vand_calls p m p1 p2 m1 m2 _).mono ?_
        rintro e w4 ⟨V, iv, rfl, hV, hb3⟩
        have hv := hV.rws (by omega) (by omega)
        clear hV
        go_wp2_with fail
        refine (rvand_calls p m p1 p2 m1 m2 _).mono ?_
        rintro e w5 ⟨vs, rfl, hs, hb4⟩
        have hv := hv.below hb4
        go_wp2_with fail
        refine (rows8_yes _ _ _ _ _ hv hs rfl).mono ?_
        rintro e w6 ⟨rfl, d2, rfl⟩
        go_wp2_with fail
        refine (wakes05_calls _).mono ?_
        rintro e w7 ⟨rfl, hb5⟩
        go_wp2
        go_ret
        exact ⟨rfl, (((W.trans hb3).trans hb4).drewN d2).trans hb5⟩
      · have hk' : k < 1 ∨ 16 < k := by omega
        clear hk _hk
        refine (vand_none (p : Int) k (by omega) _).mono ?_
        rintro e w5 ⟨rfl, rfl⟩
        go_wp2_with fail
        refine (rvand_none (p : Int) k (by omega) _).mono ?_
        rintro e w5 ⟨rfl, rfl⟩
        go_wp2_with fail
        refine (rows8_yes _ _ [] [] _ (Rws.nil _) (Rws.nil _) rfl).mono ?_
        rintro e w6 ⟨rfl, d2, rfl⟩
        go_wp2_with fail
        refine (wakes05_calls _).mono ?_
        rintro e w7 ⟨rfl, hb5⟩
        go_wp2
        go_ret
        exact ⟨rfl, (W0.drewN (d1 + d2)).trans hb5⟩
    · have hq' : n < 1 ∨ 16 < n := by omega
      clear hq
      refine (unit_none n hq' _).mono ?_
      rintro e w1 ⟨rfl, rfl⟩
      go_wp2_with fail
      refine (runit_none n hq' _).mono ?_
      rintro e w1 ⟨rfl, rfl⟩
      go_wp2_with fail
      refine (rows8_yes _ _ [] [] _ (Rws.nil _) (Rws.nil _) rfl).mono ?_
      rintro e w6 ⟨rfl, d1, rfl⟩
      go_wp2_with fail
      refine (vand_none n k (by omega) _).mono ?_
      rintro e w5 ⟨rfl, rfl⟩
      go_wp2_with fail
      refine (rvand_none n k (by omega) _).mono ?_
      rintro e w5 ⟨rfl, rfl⟩
      go_wp2_with fail
      refine (rows8_yes _ _ [] [] _ (Rws.nil _) (Rws.nil _) rfl).mono ?_
      rintro e w6 ⟨rfl, d2, rfl⟩
      go_wp2_with fail
      refine (wakes05_calls _).mono ?_
      rintro e w7 ⟨rfl, hb5⟩
      go_wp2
      go_ret
      exact ⟨rfl, (((Aft.refl w).drewN (d1 + d2)).trans hb5)⟩
end Go.Proofs.Ytdciakbichgddaa
