/- Plain facts on picks: lists of unlike numbers below a bound; rows of the matrix of powers. No program in sight. -/
import Derived.Test.YtdciakbichgddaaMatMore
namespace Gf

/-- unlike numbers from 0 to n - 1 -/
def Pick (n : Nat) (ws : List Int) : Prop := ws.Nodup ∧ ∀ x, x ∈ ws → 0 ≤ x ∧ x < n
theorem Pick.nil (n : Nat) : Pick n [] := ⟨List.nodup_nil, fun x hx => by cases hx⟩
theorem Pick.snoc {n : Nat} {ws : List Int} (h : Pick n ws) {x : Int} (hx : x ∉ ws) (h0 : 0 ≤ x) (h1 : x < n) : Pick n (ws ++ [x]) := by
  refine ⟨?_, fun y hy => ?_⟩
  · rw [List.nodup_append]
    exact ⟨h.1, by simp, fun a ha b hb => by simp at hb; subst hb; exact fun e => hx (e ▸ ha)⟩
  · rcases List.mem_append.1 hy with hy | hy
    · exact h.2 y hy
    · simp at hy; subst hy; exact ⟨h0, h1⟩
theorem pigeon (j : Nat) : ∀ ws : List Int, (∀ x : Nat, x < j → (x : Int) ∈ ws) → j ≤ ws.length := by
  induction j with
  | zero => intro ws _; omega
  | succ j ih =>
    intro ws h
    have hj := h j (by omega)
    have h2 := ih (ws.erase j) fun x hx => (List.mem_erase_of_ne (by omega)).2 (h x (by omega))
    rw [List.length_erase_of_mem hj] at h2
    have : 0 < ws.length := List.length_pos_of_mem hj
    omega
theorem Pick.at {n : Nat} {ws : List Int} (h : Pick n ws) : ∀ (i : Nat) (x : Int), ws[i]? = some x → 0 ≤ x ∧ x < n := fun _ x hi => h.2 x (List.mem_of_getElem? hi)
theorem Pick.inj {n : Nat} {ws : List Int} (h : Pick n ws) (i j : Nat) (hi : i < ws.length) (hj : j < ws.length) (e : (ws.getD i 0).toNat = (ws.getD j 0).toNat) : i = j := by
  have h1 : ws.getD i 0 = ws[i] := by simp [List.getD_eq_getElem?_getD, hi]
  have h2 : ws.getD j 0 = ws[j] := by simp [List.getD_eq_getElem?_getD, hj]
  rw [h1, h2] at e
  have b1 := h.2 _ (List.getElem_mem hi)
  have b2 := h.2 _ (List.getElem_mem hj)
  have hp := List.pairwise_iff_getElem.1 h.1
  rcases Nat.lt_trichotomy i j with hl | hl | hl
  · exact absurd (show ws[i] = ws[j] by omega) (hp i j hi hj hl)
  · exact hl
  · exact absurd (show ws[j] = ws[i] by omega) (hp j i hj hi hl)
theorem Pick.not_sing {n : Nat} {ws : List Int} (h : Pick n ws) (hn : n ≤ 256) : ¬ Sing ws.length (fun i j => gpow (.ofNat (ws.getD i 0).toNat) j) :=
  vand_not_sing ws.length (fun i => .ofNat (ws.getD i 0).toNat) fun i j hi hj e => h.inj i j hi hj (by
    have b1 : (ws.getD i 0).toNat < 256 := by
      have h1 : ws.getD i 0 = ws[i] := by simp [List.getD_eq_getElem?_getD, hi]
      have := h.2 _ (List.getElem_mem hi); rw [h1]; omega
    have b2 : (ws.getD j 0).toNat < 256 := by
      have h1 : ws.getD j 0 = ws[j] := by simp [List.getD_eq_getElem?_getD, hj]
      have := h.2 _ (List.getElem_mem hj); rw [h1]; omega
    have e' := congrArg UInt8.toNat e
    rw [toNat_of _ b1, toNat_of _ b2] at e'
    exact e')
theorem mem_take_snoc {ws : List Int} {i : Nat} {x y : Int} (h : ws[i]? = some y) : (decide (x ∈ ws.take i) || (y == x)) = decide (x ∈ ws.take (i + 1)) := by
  have hi : i < ws.length := by
    rcases Nat.lt_or_ge i ws.length with h' | h'
    · exact h'
    · rw [List.getElem?_eq_none h'] at h; cases h
  have e : ws.take (i + 1) = ws.take i ++ [y] := by
    rw [List.take_add_one, h]; rfl
  rw [e]
  by_cases h1 : x ∈ ws.take i
  · simp [h1]
  · by_cases h2 : y = x
    · simp [h2]
    · simp [h1, h2, Ne.symm h2]
end Gf
