/- The walk of matrix.Apply on good matrices. -/
import Derived.Test.YtdciakbichgddaaMatWakes
namespace Go.Proofs.Ytdciakbichgddaa
open Go Go.RowKit Go.Mem Gf

set_option maxRecDepth 20000 in
set_option maxHeartbeats 2000000 in
theorem apply_calls (va vv : Value) (n m : Nat) (A : Mx) (f : Nat → UInt8) (w : World) (ha : Rws w va (rowsL n m A)) (hv : Bys w vv (rowL m f))
    (n1 : 1 ≤ n) (n2 : n ≤ 16) (m1 : 1 ≤ m) (m2 : m ≤ 16) :
    Calls Try.prog 50 #[va, vv] w fun e w' => ∃ b, e = .returned (.tuple #[.slice (some ⟨b, 0, none⟩) n n, .int .i64 0]) ∧
      Bys w' (.slice (some ⟨b, 0, none⟩) n n) (rowL n (MV m A f)) ∧ Below w.heap.size w w' := by
  obtain ⟨aa, capa, rfl⟩ := ha.mat
  obtain ⟨ba, oa, a0, ca0, rfl, c0, _⟩ := ha.row 0 (by omega)
  have c0' : w.cell? ⟨ba, oa, none⟩ = some (.slice a0 m ca0) := c0
  clear c0
  obtain ⟨av, capv, rfl⟩ := hv.eq_slice
  rw [rowL_len] at hv ⊢
  have hmk := fun (w : World) => make_bytes (P := Try.prog) 31 5 Try.underlying31 info8' n (by omega) w
  have n0 : 0 < n := by omega
  have n0' : (0 : Int) < (n : Int) := by omega
  go_enter Try.func50, Try.ntmps50
  go_wp2_with fail
  refine (may_yes _ n m A _ ha n1 n2 m1 m2).mono ?_
  rintro e w1 ⟨rfl, rfl⟩
  go_wp2_with fail
  refine (new_calls _).mono ?_
  rintro e w2 ⟨rfl, hf, hb2⟩
  have ha2 := ha.below hb2
  have hv2 := hv.below hb2
  go_wp2_with fail
  go_loopw [29] (fun v wr => ∃ i : Nat, i ≤ n ∧ v = .int .i64 i ∧ Blk wr w2.heap.size (rowArr n (fun j => if j < i then MV m A f j else 0)) 5 ∧ Below w2.heap.size w2 wr)
    (fun v _ => n - (intOf v).toNat)
  case atStart => exact ⟨0, by omega, rfl, by simp only [Nat.not_lt_zero, if_false]; rw [← rowArr_zero]; exact Blk.new _ _ _, (Below.refl _ _).alloc (Nat.le_refl _) _⟩
  case round =>
    obtain ⟨i, hi, rfl, hx, hbel⟩ := hrel
    have ha3 := ha2.below hbel
    have hv3 := hv2.below hbel
    have hf3 := hf.below hbel hf.lt
    by_cases h0 : i < n
    · obtain ⟨b, off, ai, cai, e, c1, hrow⟩ := ha3.row i h0
      injection e with e
      injection e with e1 e2
      subst e1 e2
      have c3 : wr.cell? ⟨w2.heap.size, i, none⟩ = some (.int .u8 0) := by rw [hx.cell, rowArr_get _ _ _ h0]; simp
      have f3 := hx.free i
      go_wp2_with fail
      refine (fdot_calls _ _ _ _ _ _ hf3 hrow hv3).mono ?_
      rintro e w3 ⟨rfl, d, rfl⟩
      rw [gdot_rowL]
      go_wp2
      refine ⟨⟨i + 1, by omega, by go_num, ?_, (below_drewN hbel d).setCell (Nat.le_refl _) _⟩, by simp [intOf]; omega⟩
      have := (hx.drewN d).set i (.int .u8 ((MV m A f i).toNat : Int))
      rw [rowArr_set] at this
      rw [← rowArr_congr (m := n) (f := fun j => if j = i then MV m A f i else if j < i then MV m A f j else 0) (fun j _ => ?_)]
      · exact this
      · by_cases e : j = i
        · subst e; simp
        · have : (j < i + 1) = (j < i) := by simp; omega
          simp [e, this]
    · obtain rfl : i = n := by omega
      go_wp2
      go_ret2
      refine ⟨_, rfl, ?_, Aft.trans hb2 hbel⟩
      have := hx.row (by omega)
      rw [rowL_congr (m := i) (g := MV m A f) (fun j hj => by simp [hj])] at this
      exact this
end Go.Proofs.Ytdciakbichgddaa
