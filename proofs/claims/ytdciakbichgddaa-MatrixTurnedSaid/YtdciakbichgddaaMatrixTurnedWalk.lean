/- The walk of the statement MatrixTurned. -/
import Derived.Test.YtdciakbichgddaaMatWakes
import Derived.Test.YtdciakbichgddaaMatMore
namespace Go.Proofs.Ytdciakbichgddaa
open Go Go.RowKit Go.Mem Gf

set_option maxRecDepth 20000 in
set_option maxHeartbeats 4000000 in
theorem matrixTurned_walk (w : World) (va : Value) (xs : List UInt8) (ha : Bys w va xs) (vb : Value) (ys : List UInt8) (hb : Bys w vb ys)
    (n : Int) (_hn : -9223372036854775808 ≤ n ∧ n ≤ 9223372036854775807) :
    Calls Try.prog 11 #[va, vb, .int .i64 n] w fun e w' => e = .returned (.bool true) ∧ Below w.heap.size w w' := by
  clear _hn
  go_enter Try.func11, Try.ntmps11
  go_wp2_with fail
  refine (within_calls n 5 (by decide) (by decide) _).mono ?_
  rintro e w1 ⟨rfl, rfl⟩
  obtain ⟨hn1, hn2⟩ := within_range n 5 (by decide)
  go_wp2_with fail
  generalize hq : 1 + within n 5 = q at *
  obtain ⟨k, rfl⟩ : ∃ k : Nat, q = k := ⟨q.toNat, by omega⟩
  have k1 : 1 ≤ k := by omega
  have k2 : k ≤ 5 := by omega
  clear hq hn1 hn2
  refine (square_calls va xs k k _ ha (by omega) (by omega)).mono ?_
  rintro e w1 ⟨vx, rfl, hx, hb1⟩
  have hb := hb.below hb1
  go_wp2_with fail
  refine (square_calls vb ys k k _ hb (by omega) (by omega)).mono ?_
  rintro e w3 ⟨vy, rfl, hy, hb2⟩
  have G := ((Gd.nil w3).cons hy).cons (hx.below hb2)
  have W := Aft.trans hb1 hb2
  clear hx hy hb1 hb2 ha hb
  generalize Sq xs k = A at *
  generalize Sq ys k = B at *
  go_wp2_with fail
  refine (mmul_calls vx vy k k k A B w3 (G.get (by simp)) (G.get (by simp)) k1 (by omega) k1 (by omega) k1 (by omega)).mono ?_
  rintro e w4 ⟨P, ip, rfl, hP, hb4⟩
  have G := (G.below hb4).cons (hP.rws (by omega) (by omega))
  have W := W.trans hb4
  clear hP hb4
  go_wp2_with fail
  refine (inverse_calls vx k A _ (G.get (by simp)) k1 (by omega)).mono ?_
  rintro e w5 (⟨I, iv, Y, rfl, hP, hI, hb4⟩ | ⟨rfl, hS, hb4⟩)
  · have G := (G.below hb4).cons (hP.rws (by omega) (by omega))
    have W := W.trans hb4
    clear hP hb4
    go_wp2_with fail
    refine (inverse_calls vy k B _ (G.get (by simp)) k1 (by omega)).mono ?_
    rintro e w6 (⟨J, iv, Z, rfl, hP, hJ, hb4⟩ | ⟨rfl, hS, hb4⟩)
    · have G := (G.below hb4).cons (hP.rws (by omega) (by omega))
      have W := W.trans hb4
      clear hP hb4
      go_wp2_with fail
      refine (inverse_calls _ k (MM k A B) _ (G.get (v := .slice (some ⟨P, 0, none⟩) k k) (by simp)) k1 (by omega)).mono ?_
      rintro e w7 (⟨Q, iv, R, rfl, hP, hQ, hb4⟩ | ⟨rfl, hS, hb4⟩)
      · have G := (G.below hb4).cons (hP.rws (by omega) (by omega))
        have W := W.trans hb4
        clear hP hb4
        go_wp2_with fail
        refine (mmul_calls _ _ k k k Z Y w7 (G.get (v := .slice (some ⟨J, 0, none⟩) k k) (by simp)) (G.get (v := .slice (some ⟨I, 0, none⟩) k k) (by simp)) k1 (by omega) k1 (by omega) k1 (by omega)).mono ?_
        rintro e w8 ⟨S, ip, rfl, hP, hb4⟩
        have G := (G.below hb4).cons (hP.rws (by omega) (by omega))
        have W := W.trans hb4
        clear hP hb4
        go_wp2_with fail
        refine (inverse_calls _ k Y _ (G.get (v := .slice (some ⟨I, 0, none⟩) k k) (by simp)) k1 (by omega)).mono ?_
        rintro e w9 (⟨T, iv, U, rfl, hP, hU, hb4⟩ | ⟨rfl, hS, hb4⟩)
        · have G := (G.below hb4).cons (hP.rws (by omega) (by omega))
          have W := W.trans hb4
          clear hP hb4
          have E1 : Hid (rowsL k k R = rowsL k k (MM k Z Y)) := Lib.hid (rowsL_congr (hQ.unique (hI.mul hJ)))
          have E2 : Hid (rowsL k k U = rowsL k k A) := Lib.hid (rowsL_congr (hU.unique hI.symm))
          go_wp2_with fail
          refine (rows8_yes _ _ _ _ _ (G.get (v := .slice (some ⟨Q, 0, none⟩) k k) (by simp)) (G.get (v := .slice (some ⟨S, 0, none⟩) k k) (by simp)) E1.out).mono ?_
          rintro e w12 ⟨rfl, d2, rfl⟩
          go_wp2_with fail
          refine (rows8_yes _ _ _ _ _ ((G.rd d2).get (v := .slice (some ⟨T, 0, none⟩) k k) (by simp)) ((G.rd d2).get (v := vx) (by simp)) E2.out).mono ?_
          rintro e w12 ⟨rfl, d3, rfl⟩
          have W := W.drewN (d2 + d3)
          go_wp2_with fail
          refine (wakes05_calls _).mono ?_
          rintro e w13 ⟨rfl, hb4⟩
          go_wp2
          go_ret
          exact ⟨rfl, W.trans hb4⟩
        · exact absurd hS hI.symm.not_sing
      · exact absurd hS (hI.mul hJ).not_sing
    · have G := G.below hb4
      have W := W.trans hb4
      clear hb4
      go_wp2_with fail
      refine (inverse_calls _ k (MM k A B) _ (G.get (v := .slice (some ⟨P, 0, none⟩) k k) (by simp)) k1 (by omega)).mono ?_
      rintro e w7 (⟨Q, iv, R, rfl, hP, hQ, hb4⟩ | ⟨rfl, hS, hb4⟩)
      · exact absurd hS hQ.of_mul.2
      · have W := W.trans hb4
        go_wp2_with fail
        refine (wakes05_calls _).mono ?_
        rintro e w13 ⟨rfl, hb5⟩
        go_wp2
        go_ret
        exact ⟨rfl, W.trans hb5⟩
  · have G := G.below hb4
    have W := W.trans hb4
    clear hb4
    go_wp2_with fail
    refine (inverse_calls vy k B _ (G.get (by simp)) k1 (by omega)).mono ?_
    rintro e w6 (⟨J, iv, Z, rfl, hP, hJ, hb4⟩ | ⟨rfl, hS2, hb4⟩)
    all_goals
      have G := G.below hb4
      have W := W.trans hb4
      clear hb4
      go_wp2_with fail
      refine (inverse_calls _ k (MM k A B) _ (G.get (v := .slice (some ⟨P, 0, none⟩) k k) (by simp)) k1 (by omega)).mono ?_
      rintro e w7 (⟨Q, iv, R, rfl, hP, hQ, hb4⟩ | ⟨rfl, hS3, hb4⟩)
      · exact absurd hS hQ.of_mul.1
      · have W := W.trans hb4
        go_wp2_with fail
        refine (wakes05_calls _).mono ?_
        rintro e w13 ⟨rfl, hb5⟩
        go_wp2
        go_ret
        exact ⟨rfl, W.trans hb5⟩
end Go.Proofs.Ytdciakbichgddaa
