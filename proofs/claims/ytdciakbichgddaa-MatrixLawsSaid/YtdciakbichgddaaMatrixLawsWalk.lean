/- The walk of the statement MatrixLaws. -/
import Derived.Test.YtdciakbichgddaaMatWakes
namespace Go.Proofs.Ytdciakbichgddaa
open Go Go.RowKit Go.Mem Gf

set_option maxRecDepth 20000 in
set_option maxHeartbeats 4000000 in
theorem matrixLaws_walk (w : World) (va : Value) (xs : List UInt8) (ha : Bys w va xs) (vb : Value) (ys : List UInt8) (hb : Bys w vb ys) (vc : Value) (zs : List UInt8) (hc : Bys w vc zs)
    (n : Int) (_hn : -9223372036854775808 ≤ n ∧ n ≤ 9223372036854775807) :
    Calls Try.prog 12 #[va, vb, vc, .int .i64 n] w fun e w' => e = .returned (.bool true) ∧ Below w.heap.size w w' := by
  clear _hn
  go_enter Try.func12, Try.ntmps12
  go_wp2_with fail
  refine (within_calls n 5 (by decide) (by decide) _).mono ?_
  rintro e w1 ⟨rfl, rfl⟩
  obtain ⟨hn1, hn2⟩ := within_range n 5 (by decide)
  go_wp2_with fail
  generalize hq : 1 + within n 5 = q at *
  obtain ⟨k, rfl⟩ : ∃ k : Nat, q = k := ⟨q.toNat, by omega⟩
  have k1 : 1 ≤ k := by omega
  have k2 : k ≤ 5 := by omega
  clear hq hn1 hn2
  refine (square_calls va xs k k _ ha (by omega) (by omega)).mono ?_
  rintro e w1 ⟨vx, rfl, hx, hb1⟩
  have hb := hb.below hb1
  have hc := hc.below hb1
  go_wp2_with fail
  refine (square_calls vb ys k k _ hb (by omega) (by omega)).mono ?_
  rintro e w2 ⟨vy, rfl, hy, hb2⟩
  have hc := hc.below hb2
  go_wp2_with fail
  refine (square_calls vc zs k k _ hc (by omega) (by omega)).mono ?_
  rintro e w3 ⟨vz, rfl, hz, hb3⟩
  have G := (((Gd.nil w3).cons hz).cons (hy.below hb3)).cons ((hx.below hb2).below hb3)
  have W := Aft.trans (Aft.trans hb1 hb2) hb3
  clear hx hy hz hb1 hb2 hb3 ha hb hc
  generalize Sq xs k = A at *
  generalize Sq ys k = B at *
  generalize Sq zs k = C at *
  go_wp2_with fail
  refine (mmul_calls vx vy k k k A B w3 (G.get (by simp)) (G.get (by simp)) k1 (by omega) k1 (by omega) k1 (by omega)).mono ?_
  rintro e w4 ⟨P, ip, rfl, hP, hb4⟩
  have G := (G.below hb4).cons (hP.rws (by omega) (by omega))
  have W := W.trans hb4
  clear hP hb4
  go_wp2_with fail
  refine (mmul_calls _ vz k k k (MM k A B) C w4 (G.get (by simp)) (G.get (by simp)) k1 (by omega) k1 (by omega) k1 (by omega)).mono ?_
  rintro e w5 ⟨Q, ip, rfl, hP, hb4⟩
  have G := (G.below hb4).cons (hP.rws (by omega) (by omega))
  have W := W.trans hb4
  clear hP hb4
  go_wp2_with fail
  refine (mmul_calls vy vz k k k B C w5 (G.get (by simp)) (G.get (by simp)) k1 (by omega) k1 (by omega) k1 (by omega)).mono ?_
  rintro e w6 ⟨R, ip, rfl, hP, hb4⟩
  have G := (G.below hb4).cons (hP.rws (by omega) (by omega))
  have W := W.trans hb4
  clear hP hb4
  go_wp2_with fail
  refine (mmul_calls vx _ k k k A (MM k B C) w6 (G.get (by simp)) (G.get (by simp)) k1 (by omega) k1 (by omega) k1 (by omega)).mono ?_
  rintro e w7 ⟨S, ip, rfl, hP, hb4⟩
  have G := (G.below hb4).cons (hP.rws (by omega) (by omega))
  have W := W.trans hb4
  clear hP hb4
  have E1 : Hid (rowsL k k (MM k (MM k A B) C) = rowsL k k (MM k A (MM k B C))) := Lib.hid (rowsL_congr fun i _ j _ => MM_assoc k k A B C i j)
  go_wp2_with fail
  refine (rows8_yes _ _ _ _ _ (G.get (v := .slice (some ⟨Q, 0, none⟩) k k) (by simp)) (G.get (v := .slice (some ⟨S, 0, none⟩) k k) (by simp)) E1.out).mono ?_
  rintro e w8 ⟨rfl, d, rfl⟩
  have G := G.rd d
  have W := W.drewN d
  go_wp2_with fail
  refine (inverse_calls vx k A _ (G.get (by simp)) k1 (by omega)).mono ?_
  rintro e w8 (⟨V, iv, Y, rfl, hP, hI, hb4⟩ | ⟨rfl, hS, hb4⟩)
  · have G := (G.below hb4).cons (hP.rws (by omega) (by omega))
    have W := W.trans hb4
    clear hP hb4
    go_wp2_with fail
    refine (mmul_calls vx _ k k k A Y w8 (G.get (by simp)) (G.get (v := .slice (some ⟨V, 0, none⟩) k k) (by simp)) k1 (by omega) k1 (by omega) k1 (by omega)).mono ?_
    rintro e w9 ⟨L, ip, rfl, hP, hb4⟩
    have G := (G.below hb4).cons (hP.rws (by omega) (by omega))
    have W := W.trans hb4
    clear hP hb4
    go_wp2_with fail
    refine (mmul_calls _ vx k k k Y A w9 (G.get (v := .slice (some ⟨V, 0, none⟩) k k) (by simp)) (G.get (by simp)) k1 (by omega) k1 (by omega) k1 (by omega)).mono ?_
    rintro e w10 ⟨M, ip, rfl, hP, hb4⟩
    have G := (G.below hb4).cons (hP.rws (by omega) (by omega))
    have W := W.trans hb4
    clear hP hb4
    go_wp2_with fail
    refine (unit_calls k k1 (by omega) w10).mono ?_
    rintro e w11 ⟨U, iu, rfl, hP, hb4⟩
    have G := (G.below hb4).cons (hP.rws (by omega) (by omega))
    have W := W.trans hb4
    clear hP hb4
    have E2 : Hid (rowsL k k (MM k A Y) = rowsL k k Idm) := Lib.hid (rowsL_congr hI.2)
    have E3 : Hid (rowsL k k (MM k Y A) = rowsL k k Idm) := Lib.hid (rowsL_congr hI.1)
    go_wp2_with fail
    refine (rows8_yes _ _ _ _ _ (G.get (v := .slice (some ⟨L, 0, none⟩) k k) (by simp)) (G.get (v := .slice (some ⟨U, 0, none⟩) k k) (by simp)) E2.out).mono ?_
    rintro e w12 ⟨rfl, d2, rfl⟩
    have G := G.rd d2
    go_wp2_with fail
    refine (rows8_yes _ _ _ _ _ (G.get (v := .slice (some ⟨M, 0, none⟩) k k) (by simp)) (G.get (v := .slice (some ⟨U, 0, none⟩) k k) (by simp)) E3.out).mono ?_
    rintro e w12 ⟨rfl, d3, rfl⟩
    have W := W.drewN (d2 + d3)
    go_wp2_with fail
    refine (wakes05_calls _).mono ?_
    rintro e w13 ⟨rfl, hb4⟩
    go_wp2
    go_ret
    exact ⟨rfl, W.trans hb4⟩
  · have W := W.trans hb4
    go_wp2_with fail
    refine (wakes05_calls _).mono ?_
    rintro e w13 ⟨rfl, hb5⟩
    go_wp2
    go_ret
    exact ⟨rfl, W.trans hb5⟩
end Go.Proofs.Ytdciakbichgddaa
