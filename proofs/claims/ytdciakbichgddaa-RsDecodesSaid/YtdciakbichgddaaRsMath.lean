/- Plain facts on codes: the code's matrix, padding, pieces. No program in sight. -/
import Derived.Test.YtdciakbichgddaaMatPow
import Derived.Test.YtdciakbichgddaaMatMem
namespace Gf
open Go.Mem

def VandM : Mx := fun i j => gpow (.ofNat i) j
theorem vand_inv (k : Nat) (hk : k ≤ 256) : ∃ Y, IsInv k VandM Y := by
  rcases inv_or_sing k VandM with h | h
  · exact h
  · exact absurd h (vand_not_sing k (fun i => .ofNat i) fun i j hi hj e => by
      have e' := congrArg UInt8.toNat e
      rw [toNat_of _ (by omega), toNat_of _ (by omega)] at e'
      exact e')
/-- the inverse of the first k rows of powers -/
noncomputable def TI (k : Nat) : Mx := (Classical.epsilon fun Y => IsInv k VandM Y)
theorem TI_inv (k : Nat) (hk : k ≤ 256) : IsInv k VandM (TI k) := Classical.epsilon_spec (vand_inv k hk)
/-- the code's matrix -/
noncomputable def CM (k : Nat) : Mx := MM k VandM (TI k)
theorem CM_top (k : Nat) (hk : k ≤ 256) : EqM k k (CM k) Idm := (TI_inv k hk).2
theorem CM_of (k n : Nat) (hk : k ≤ 256) {Y : Mx} (h : IsInv k VandM Y) : EqM n k (MM k VandM Y) (CM k) :=
  MM_congr (EqM.refl n k VandM) (h.unique (TI_inv k hk))

/-! ### padding -/
/-- the next multiple of k -/
def padN (n k : Nat) : Nat := (n + k - 1) / k * k
theorem padN_facts (n k : Nat) (hk : 1 ≤ k) : n ≤ padN n k ∧ padN n k < n + k ∧ padN n k % k = 0 := by
  unfold padN
  have h1 := Nat.div_add_mod (n + k - 1) k
  have h2 := Nat.mod_lt (n + k - 1) (show 0 < k by omega)
  rw [Nat.mul_comm] at h1
  refine ⟨by omega, by omega, Nat.mul_mod_left _ _⟩
theorem padN_not (n k x : Nat) (hk : 1 ≤ k) (h1 : n ≤ x) (h2 : x < padN n k) : x % k ≠ 0 := by
  intro h
  obtain ⟨h3, h4, h5⟩ := padN_facts n k hk
  obtain ⟨q, hq⟩ := Nat.dvd_of_mod_eq_zero h
  obtain ⟨p, hp⟩ := Nat.dvd_of_mod_eq_zero h5
  have hqp : q < p := by
    rcases Nat.lt_or_ge q p with h' | h'
    · exact h'
    · have := Nat.mul_le_mul_left k h'; omega
  have : k * (q + 1) ≤ k * p := Nat.mul_le_mul_left k hqp
  rw [Nat.mul_add, Nat.mul_one] at this
  omega
def padL (bs : List UInt8) (k : Nat) : List UInt8 := bs ++ List.replicate (padN bs.length k - bs.length) 0
theorem padL_len (bs : List UInt8) (k : Nat) (hk : 1 ≤ k) : (padL bs k).length = padN bs.length k := by
  have := (padN_facts bs.length k hk).1
  simp [padL]; omega
/-- how long each piece is -/
def pieceN (bs : List UInt8) (k : Nat) : Nat := padN bs.length k / k
theorem pieceN_mul (bs : List UInt8) (k : Nat) (hk : 1 ≤ k) : pieceN bs k * k = padN bs.length k := by
  unfold pieceN padN
  rw [Nat.mul_div_cancel _ (by omega)]
/-- piece j, byte x -/
def pieceF (bs : List UInt8) (k : Nat) : Mx := fun j x => (padL bs k).getD (pieceN bs k * j + x) 0
end Gf
