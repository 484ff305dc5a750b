/- Plain linear algebra over the field of 256: each square matrix has an inverse, or none and a kernel; products with an inverse. No program in sight. -/
import Derived.Test.YtdciakbichgddaaMatMath
namespace Gf

theorem elim_rows {n : Nat} {A X Y : Mx} {c : Nat} (h : Elim n A X Y c) (hc : c < n) (h1 : X c c = 1) :
    ∀ r, r ≤ n → ∃ X' Y', Elim n A X' Y' c ∧ X' c c = 1 ∧ ∀ i, i < r → i ≠ c → X' i c = 0 := by
  intro r
  induction r with
  | zero => intro _; exact ⟨X, Y, h, h1, fun i hi => by omega⟩
  | succ r ih =>
    intro hr
    obtain ⟨X', Y', hE, hcc, hz⟩ := ih (by omega)
    by_cases e : r = c
    · exact ⟨X', Y', hE, hcc, fun i hi hne => hz i (by omega) hne⟩
    · refine ⟨_, _, hE.take (r := r) (X' r c) e hc, ?_, fun i hi hne => ?_⟩
      · simp only [if_neg (Ne.symm e)]; exact hcc
      · by_cases e2 : i = r
        · subst e2; simp only [if_true]; rw [hcc, gm_one, UInt8.xor_self]
        · simp only [if_neg e2]; exact hz i (by omega) hne
theorem elim_exists (n : Nat) (A : Mx) : ∀ c, c ≤ n → (∃ X Y, Elim n A X Y c) ∨ Sing n A := by
  intro c
  induction c with
  | zero => intro _; exact .inl ⟨_, _, Elim.start n A⟩
  | succ c ih =>
    intro hc
    rcases ih (by omega) with ⟨X, Y, hE⟩ | hS
    · by_cases hz : ∀ p, c ≤ p → p < n → X p c = 0
      · exact .inr (hE.stuck (by omega) hz)
      · have : ∃ p, c ≤ p ∧ p < n ∧ X p c ≠ 0 := Classical.byContradiction fun hn => hz fun p h1 h2 => Classical.byContradiction fun h3 => hn ⟨p, h1, h2, h3⟩
        obtain ⟨p, h1, h2, h3⟩ := this
        have hs := hE.swap (by omega) h1 h2
        have hx : X (sw c p c) c = X p c := by simp [sw]
        have hsc := hs.scale (d := ginv (X p c)) (ginv_ne h3)
        obtain ⟨X', Y', hE', hcc, hz'⟩ := elim_rows hsc (by omega) (by simp only [if_true]; rw [hx]; exact ginv_gm h3) n (Nat.le_refl _)
        exact .inl ⟨X', Y', hE'.next fun i hi => by
          by_cases e : i = c
          · subst e; rw [hcc]; simp [Idm]
          · rw [hz' i hi e]; simp [Idm, e]⟩
    · exact .inr hS
theorem inv_or_sing (n : Nat) (A : Mx) : (∃ Y, IsInv n A Y) ∨ Sing n A := by
  rcases elim_exists n A n (Nat.le_refl _) with ⟨X, Y, hE⟩ | hS
  · exact .inl ⟨Y, hE.done⟩
  · exact .inr hS
theorem MV_congr {n : Nat} {A B : Mx} {v : Nat → UInt8} {i : Nat} (h : ∀ j, j < n → A i j = B i j) : MV n A v i = MV n B v i := dotf_congr h fun _ _ => rfl
/-- a right inverse is an inverse -/
theorem isInv_of_right {n : Nat} {A R : Mx} (h : EqM n n (MM n A R) Idm) : IsInv n A R := by
  have hR : ¬ Sing n R := fun ⟨v, hv, j, hj, hne⟩ => hne (by
    have e1 : MV n (MM n A R) v j = MV n A (MV n R v) j := MV_MM n n _ _ _ _
    have e2 : MV n A (MV n R v) j = 0 := dotf_zero_right _ _ _ hv
    have e3 : MV n (MM n A R) v j = v j := (MV_congr fun i hi => h j hj i hi).trans (dotf_Idm_left n j hj v)
    rw [← e3, e1, e2])
  rcases inv_or_sing n R with ⟨Y, hY⟩ | hS
  · have e : EqM n n A Y := fun i hi k hk => by
      have e1 : MM n A (MM n R Y) i k = A i k := (MM_congr (EqM.refl n n A) hY.2 i hi k hk).trans (MM_Idm_right (n := n) A i hi k hk)
      have e2 : MM n (MM n A R) Y i k = Y i k := (MM_congr h (EqM.refl n n Y) i hi k hk).trans (MM_Idm_left (m := n) Y i hi k hk)
      rw [← e1, ← MM_assoc, e2]
    exact (hY.congr (EqM.refl n n R) e.symm).symm
  · exact absurd hS hR
/-- a product that has an inverse: so have both -/
theorem IsInv.of_mul {n : Nat} {A B Q : Mx} (h : IsInv n (MM n A B) Q) : ¬ Sing n A ∧ ¬ Sing n B := by
  have h1 : EqM n n (MM n A (MM n B Q)) Idm := fun i hi k hk => by rw [← MM_assoc]; exact h.2 i hi k hk
  have h2 : EqM n n (MM n (MM n Q A) B) Idm := fun i hi k hk => by rw [MM_assoc]; exact h.1 i hi k hk
  exact ⟨(isInv_of_right h1).not_sing, (isInv_of_right h2).symm.not_sing⟩
end Gf
