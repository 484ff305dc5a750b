/- Plain facts on memory: rows of rows that a call has appended. No program in sight. -/
import Derived.Test.YtdciakbichgddaaMatMem
namespace Go.Mem
open Go Go.RowKit Gf

section
variable {w w' : World} {base : Nat} {t8 tr : TypeId} {v : Value} {n : Nat} {xs : List Value}
theorem own_below {e : TypeId} {size : Nat} (h : w.ownsRow base e size v n xs) (hb : Below w.heap.size w w') : w'.ownsRow base e size v n xs := by
  obtain ⟨h1, h2⟩ := h
  refine ⟨h1, ?_⟩
  rcases h2 with h2 | ⟨g, cap, cur, hv, hg, hh, r⟩
  · exact .inl h2
  · exact .inr ⟨g, cap, cur, hv, hg, by rw [hb.block g (lt_of_block hh)]; exact hh, r⟩
theorem ownBlock_ne (h : w.ownsRow base tr 1 v n xs) (hne : t8 ≠ tr) {b : Nat} {arr : Array Value} (hb : Blk w b arr t8) : v.ownBlock ≠ some b := by
  intro e
  rcases h.2 with ⟨rfl, _⟩ | ⟨g, cap, cur, rfl, _, hg, _⟩
  · simp [Value.ownBlock] at e
  · simp [Value.ownBlock] at e
    subst e
    unfold Blk at hb
    rw [hg] at hb
    simp at hb
    exact hne hb.2.symm
theorem Blk.grown {b : Nat} {arr : Array Value} {t : TypeId} {row : Option Nat} (hb : Blk w b arr t) (hg : w.grownBy w' row) (hr : row ≠ some b) : Blk w' b arr t := by
  have hl := hb.lt
  unfold Blk at *
  rw [hg.block b hl (fun e => hr e.symm)]; exact hb
/-- the rows that have been appended read as the lists rs -/
theorem rws_of_own (h : w.ownsRow base tr 1 v n xs) {rs : List (List UInt8)} (hn : rs.length = n)
    (hx : ∀ (i : Nat) (r : List UInt8), rs[i]? = some r → ∃ v', xs[i]? = some v' ∧ Bys w v' r) : Rws w v rs := by
  subst hn
  obtain ⟨hlen, h2⟩ := h
  rcases h2 with ⟨rfl, h0⟩ | ⟨g, cap, cur, rfl, _, hg, hnc, hcm, hcs, htake⟩
  · have : rs = [] := List.eq_nil_of_length_eq_zero h0
    subst this
    exact Rws.nil w
  · refine ⟨_, cap, rfl, hnc, hcm, fun _ => ⟨g, 0, rfl, fun i r hi => ?_⟩⟩
    obtain ⟨v', hv, hb⟩ := hx i r hi
    refine ⟨v', ?_, hb⟩
    rw [Nat.zero_add]
    have hil : i < rs.length := by
      rcases Nat.lt_or_ge i rs.length with h | h
      · exact h
      · rw [List.getElem?_eq_none h] at hi; cases hi
    rw [← htake, List.getElem?_take, if_pos (by omega)] at hv
    simp only [World.cell?, hg]
    simpa using hv
end
end Go.Mem
