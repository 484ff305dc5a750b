/- The walk of the statement MatrixInverses. -/
import Derived.Test.YtdciakbichgddaaMatRefInv
namespace Go.Proofs.Ytdciakbichgddaa
open Go Go.RowKit Go.Mem Gf

set_option maxRecDepth 20000 in
set_option maxHeartbeats 2000000 in
theorem inverse_bad (va : Value) (n m : Nat) (A : Mx) (w : World) (ha : Rws w va (rowsL n m A)) (n1 : 1 ≤ n) (n2 : n ≤ 16) (m1 : 1 ≤ m) (m2 : m ≤ 16) (hnm : n ≠ m) :
    Calls Try.prog 40 #[va] w fun e w' => e = .returned (.tuple #[.slice none 0 0, .int .i64 1]) ∧ Below w.heap.size w w' := by
  obtain ⟨aa, capa, rfl⟩ := ha.mat
  obtain ⟨ba, oa, a0, ca0, rfl, c0, _⟩ := ha.row 0 (by omega)
  have c0' : w.cell? ⟨ba, oa, none⟩ = some (.slice a0 m ca0) := c0
  have la := World.block_lt_of_cell? w _ c0'
  dsimp only at la
  clear c0
  have n0 : 0 < n := by omega
  have n0' : (0 : Int) < (n : Int) := by omega
  have t1 : ((n : Int) != (m : Int)) = true := by simp; omega
  have t2 : (n != m) = true := by simp; omega
  clear hnm
  go_enter Try.func40, Try.ntmps40
  go_wp2_with fail
  have hbel : Below w.heap.size w (w.alloc (.cells #[.slice (some ⟨ba, oa, none⟩) n capa] 43)) := (Below.refl _ _).alloc (Nat.le_refl _) _
  have ca : (w.alloc (.cells #[.slice (some ⟨ba, oa, none⟩) n capa] 43)).cell? ⟨w.heap.size, 0, none⟩ = some (.slice (some ⟨ba, oa, none⟩) n capa) := by simp
  generalize hw1 : w.alloc (.cells #[.slice (some ⟨ba, oa, none⟩) n capa] 43) = w1 at *
  clear hw1
  have ha1 := ha.below hbel
  have c0 : w1.cell? ⟨ba, oa, none⟩ = some (.slice a0 m ca0) := (hbel.cell (p := ⟨ba, oa, none⟩) la).trans c0'
  clear c0'
  go_quiet ((go_at_call 74; exact quiet_eq (may_yes _ n m A _ (ha1.drewN _) n1 n2 m1 m2)))
  go_wp2
  go_ret2
  exact ⟨rfl, below_drewN hbel _⟩

set_option maxRecDepth 20000 in
set_option maxHeartbeats 4000000 in
theorem matrixInverses_walk (w : World) (va : Value) (xs : List UInt8) (ha : Bys w va xs)
    (n : Int) (_hn : -9223372036854775808 ≤ n ∧ n ≤ 9223372036854775807) (m : Int) (_hm : -9223372036854775808 ≤ m ∧ m ≤ 9223372036854775807) :
    Calls Try.prog 9 #[va, .int .i64 n, .int .i64 m] w fun e w' => e = .returned (.bool true) ∧ Below w.heap.size w w' := by
  clear _hn _hm
  go_enter Try.func9, Try.ntmps9
  go_wp2_with fail
  refine (within_calls n 6 (by decide) (by decide) _).mono ?_
  rintro e w1 ⟨rfl, rfl⟩
  obtain ⟨hn1, hn2⟩ := within_range n 6 (by decide)
  go_wp2_with fail
  generalize hq : 1 + within n 6 = q at *
  obtain ⟨k, rfl⟩ : ∃ k : Nat, q = k := ⟨q.toNat, by omega⟩
  have k1 : 1 ≤ k := by omega
  have k2 : k ≤ 6 := by omega
  clear hq hn1 hn2
  refine (within_calls m 6 (by decide) (by decide) _).mono ?_
  rintro e w1 ⟨rfl, rfl⟩
  obtain ⟨hn1, hn2⟩ := within_range m 6 (by decide)
  obtain ⟨p, hp⟩ : ∃ k : Nat, 1 + within m 6 = k := ⟨(1 + within m 6).toNat, by omega⟩
  have p1 : 1 ≤ p := by omega
  have p2 : p ≤ 6 := by omega
  have Hp := Lib.hid hp
  have hodd : (1 + within m 6) % 2 = ((p % 2 : Nat) : Int) := by rw [hp]; rfl
  rcases Nat.mod_two_eq_zero_or_one p with hev | hev
  · have t : ((1 + within m 6) % 2 == 0) = true := by rw [hodd, hev]; rfl
    clear hodd hev hp
    go_wp2_with fail
    refine (square_calls va xs k k _ ha (by omega) (by omega)).mono ?_
    rintro e w1 ⟨vx, rfl, hx, hb1⟩
    have ha := ha.below hb1
    have W : Aft w w1 := hb1
    clear hb1
    obtain ⟨A, hA⟩ : ∃ A, A = Sq xs k := ⟨_, rfl⟩
    rw [← hA] at hx
    have HA := Lib.hid hA
    clear hA
    go_wp2_with fail
    refine (inverse_calls vx k A _ hx k1 (by omega)).mono ?_
    rintro e w2 (⟨V, iv, Y, rfl, hP, hI, hb2⟩ | ⟨rfl, hS, hb2⟩)
    · have hp := hP.rws (by omega) (by omega)
      have hx := hx.below hb2
      have ha := ha.below hb2
      have W := W.trans hb2
      clear hP hb2
      go_wp2_with fail
      refine (rinverse_calls vx k A _ hx k1 (by omega)).mono ?_
      rintro e w3 (⟨vy, Z, rfl, hz, hJ, hb3⟩ | ⟨rfl, hS, hb3⟩)
      · have hp := hp.below hb3
        have hx := hx.below hb3
        have ha := ha.below hb3
        have W := W.trans hb3
        have E1 : Hid (rowsL k k Y = rowsL k k Z) := Lib.hid (rowsL_congr (hI.unique hJ))
        clear hb3
        go_wp2_with fail
        refine (rows8_yes _ _ _ _ _ hp hz E1.out).mono ?_
        rintro e w4 ⟨rfl, d1, rfl⟩
        have ha := ha.drewN d1
        have hx := hx.drewN d1
        have W := W.drewN d1
        go_wp2_with fail
        refine (square_calls va xs k k _ ha (by omega) (by omega)).mono ?_
        rintro e w5 ⟨vs, rfl, hs, hb4⟩
        rw [← HA.out] at hs
        have hx := hx.below hb4
        have W := W.trans hb4
        clear hb4
        go_wp2_with fail
        refine (rows8_yes _ _ _ _ _ hx hs rfl).mono ?_
        rintro e w6 ⟨rfl, d2, rfl⟩
        have W := W.drewN d2
        go_wp2_with fail
        refine (wakes05_calls _).mono ?_
        rintro e w7 ⟨rfl, hb5⟩
        go_wp2
        go_ret
        exact ⟨rfl, W.trans hb5⟩
      · exact absurd hS hI.not_sing
    · have hx := hx.below hb2
      have W := W.trans hb2
      clear hb2
      go_wp2_with fail
      refine (rinverse_calls vx k A _ hx k1 (by omega)).mono ?_
      rintro e w3 (⟨vy, Z, rfl, hz, hJ, hb3⟩ | ⟨rfl, hS3, hb3⟩)
      · exact absurd hS hJ.not_sing
      · have W := W.trans hb3
        go_wp2_with fail
        refine (wakes05_calls _).mono ?_
        rintro e w7 ⟨rfl, hb5⟩
        go_wp2
        go_ret
        exact ⟨rfl, W.trans hb5⟩
  · have t : ((1 + within m 6) % 2 == 0) = false := by rw [hodd, hev]; rfl
    clear hodd hev hp
    by_cases hkp : k = p
    · have Hkp := Lib.hid hkp
      clear hkp
      go_wp2_with fail
      rw [Hp.out, ← Hkp.out]
      refine (square_calls va xs k k _ ha (by omega) (by omega)).mono ?_
      rintro e w1 ⟨vx, rfl, hx, hb1⟩
      have ha := ha.below hb1
      have W : Aft w w1 := hb1
      clear hb1
      obtain ⟨A, hA⟩ : ∃ A, A = Sq xs k := ⟨_, rfl⟩
      rw [← hA] at hx
      have HA := Lib.hid hA
      clear hA
      go_wp2_with fail
      refine (inverse_calls vx k A _ hx k1 (by omega)).mono ?_
      rintro e w2 (⟨V, iv, Y, rfl, hP, hI, hb2⟩ | ⟨rfl, hS, hb2⟩)
      · have hp := hP.rws (by omega) (by omega)
        have hx := hx.below hb2
        have ha := ha.below hb2
        have W := W.trans hb2
        clear hP hb2
        go_wp2_with fail
        refine (rinverse_calls vx k A _ hx k1 (by omega)).mono ?_
        rintro e w3 (⟨vy, Z, rfl, hz, hJ, hb3⟩ | ⟨rfl, hS, hb3⟩)
        · have hp := hp.below hb3
          have hx := hx.below hb3
          have ha := ha.below hb3
          have W := W.trans hb3
          have E1 : Hid (rowsL k k Y = rowsL k k Z) := Lib.hid (rowsL_congr (hI.unique hJ))
          clear hb3
          go_wp2_with fail
          refine (rows8_yes _ _ _ _ _ hp hz E1.out).mono ?_
          rintro e w4 ⟨rfl, d1, rfl⟩
          have ha := ha.drewN d1
          have hx := hx.drewN d1
          have W := W.drewN d1
          go_wp2_with fail
          refine (square_calls va xs k k _ ha (by omega) (by omega)).mono ?_
          rintro e w5 ⟨vs, rfl, hs, hb4⟩
          rw [← HA.out] at hs
          have hx := hx.below hb4
          have W := W.trans hb4
          clear hb4
          go_wp2_with fail
          refine (rows8_yes _ _ _ _ _ hx hs rfl).mono ?_
          rintro e w6 ⟨rfl, d2, rfl⟩
          have W := W.drewN d2
          go_wp2_with fail
          refine (wakes05_calls _).mono ?_
          rintro e w7 ⟨rfl, hb5⟩
          go_wp2
          go_ret
          exact ⟨rfl, W.trans hb5⟩
        · exact absurd hS hI.not_sing
      · have hx := hx.below hb2
        have W := W.trans hb2
        clear hb2
        go_wp2_with fail
        refine (rinverse_calls vx k A _ hx k1 (by omega)).mono ?_
        rintro e w3 (⟨vy, Z, rfl, hz, hJ, hb3⟩ | ⟨rfl, hS3, hb3⟩)
        · exact absurd hS hJ.not_sing
        · have W := W.trans hb3
          go_wp2_with fail
          refine (wakes05_calls _).mono ?_
          rintro e w7 ⟨rfl, hb5⟩
          go_wp2
          go_ret
          exact ⟨rfl, W.trans hb5⟩
    · have tk : ((k : Int) != (p : Int)) = true := by simp; omega
      have tk2 : (k != p) = true := by simp; omega
      go_wp2_with fail
      rw [Hp.out]
      refine (square_calls va xs k p _ ha (by omega) (by omega)).mono ?_
      rintro e w1 ⟨vx, rfl, hx, hb1⟩
      go_wp2_with fail
      refine (inverse_bad _ k p _ w1 hx k1 (by omega) p1 (by omega) hkp).mono ?_
      rintro e w2 ⟨rfl, hb2⟩
      clear hkp
      go_wp2_with fail
      refine (wakes05_calls _).mono ?_
      rintro e w3 ⟨rfl, hb3⟩
      go_wp2
      go_ret
      exact ⟨rfl, (Aft.trans hb1 hb2).trans hb3⟩
end Go.Proofs.Ytdciakbichgddaa
