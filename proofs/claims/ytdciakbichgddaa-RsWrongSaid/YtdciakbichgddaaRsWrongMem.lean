/- One byte of own memory is changed. -/
import Derived.Test.YtdciakbichgddaaRsWrong
import Derived.Test.YtdciakbichgddaaMatAny2
namespace Go.Mem
open Go Go.RowKit Gf
theorem own_set_other {w : World} {e : TypeId} {size base n : Nat} {v : Value} {xs : List Value} (h : w.ownsRow base e size v n xs) {a : Addr} (ha : v.ownBlock ≠ some a.block) (x : Value) : (w.setCell a x).ownsRow base e size v n xs := by
  refine ⟨h.1, ?_⟩
  rcases h.2 with h2 | ⟨g, cap, cur, hv, hg, hh, r⟩
  · exact .inl h2
  · refine .inr ⟨g, cap, cur, hv, hg, ?_, r⟩
    exact Blk.set_other (b := g) hh (fun q => ha (by rw [hv]; simp [Value.ownBlock, q])) x
theorem own_ne {w : World} {e1 e2 : TypeId} {s1 s2 n1 n2 b1 b2 : Nat} {v1 v2 : Value} {x1 x2 : List Value} (h1 : w.ownsRow b1 e1 s1 v1 n1 x1) (h2 : w.ownsRow b2 e2 s2 v2 n2 x2) (hne : e1 ≠ e2) {g : Nat} (hg : v2.ownBlock = some g) : v1.ownBlock ≠ some g := by
  rcases h1.2 with ⟨rfl, _⟩ | ⟨g1, cap, cur, rfl, _, hh, _⟩
  · intro q; simp [Value.ownBlock] at q
  · rcases h2.2 with ⟨rfl, _⟩ | ⟨g2, cap2, cur2, rfl, _, hh2, _⟩
    · simp [Value.ownBlock] at hg
    · intro e
      simp only [Value.ownBlock, Option.some.injEq] at e hg
      subst e hg
      rw [hh] at hh2
      simp at hh2
      exact hne hh2.2
theorem own_free2 {w : World} {e : TypeId} {size base n : Nat} {v : Value} {xs : List Value} (h : w.ownsRow base e size v n xs) {g : Nat} (hg : v.ownBlock = some g) (i : Nat) : w.frozen? ⟨g, i, none⟩ = false := by
  rcases h.2 with ⟨rfl, _⟩ | ⟨g2, cap2, cur2, rfl, _, hh2, _⟩
  · simp [Value.ownBlock] at hg
  · simp only [Value.ownBlock, Option.some.injEq] at hg
    subst hg
    exact Blk.free (b := g2) hh2 i
theorem own_cell2 {w : World} {e : TypeId} {size base n g : Nat} {l cap : Nat} {xs : List Value} (h : w.ownsRow base e size (.slice (some ⟨g, 0, none⟩) l cap) n xs) {i : Nat} {u : Value} (hi : xs[i]? = some u) : w.cell? ⟨g, i, none⟩ = some u := by
  rcases h.2 with ⟨e, _⟩ | ⟨g2, cap2, cur, e, hg, hh, h1, h2, h3, htake⟩
  · simp at e
  · injection e with e1 e2 e3
    injection e1 with e1
    injection e1 with e1
    subst e1
    rw [Blk.cell (b := g) hh]
    rw [← htake, List.getElem?_take] at hi
    split at hi
    · simpa using hi
    · cases hi
theorem own_set_at {t8 : TypeId} {w : World} {base g l cap : Nat} {f : Nat → UInt8} (h : OwnB t8 w base (.slice (some ⟨g, 0, none⟩) l cap) (rowL l f)) {i : Nat} (_hi : i < l) (u : UInt8) :
    OwnB t8 (w.setCell ⟨g, i, none⟩ (.int .u8 (u.toNat : Int))) base (.slice (some ⟨g, 0, none⟩) l cap) (rowL l fun x => if x = i then u else f x) := by
  refine ⟨by rw [bV_len, Nat.mul_one], ?_⟩
  rcases h.2 with ⟨e, _⟩ | ⟨g2, cap2, cur, e, hg, hh, h1, h2, h3, htake⟩
  · simp at e
  · injection e with e1 e2 e3
    injection e1 with e1
    injection e1 with e1
    subst e1 e3
    rw [rowL_len] at h1 htake
    refine .inr ⟨g, cap, cur.setIfInBounds i (.int .u8 (u.toNat : Int)), by rw [rowL_len], hg, Blk.set (b := g) hh i _, by rw [rowL_len]; exact h1, h2, by simpa using h3, ?_⟩
    rw [rowL_len]
    apply List.ext_getElem?
    intro j
    have hj := congrArg (fun z => z[j]?) htake
    simp only [List.getElem?_take, bV_get, Nat.mul_one] at hj ⊢
    by_cases h4 : j < l
    · rw [if_pos h4] at hj ⊢
      rw [rowL_get _ _ _ h4] at hj ⊢
      simp only [Array.toList_setIfInBounds, List.getElem?_set]
      by_cases e : j = i
      · subst e
        have : j < cur.size := by omega
        simp [this]
      · rw [if_neg (fun q => e q.symm), hj, if_neg e]
    · rw [if_neg h4]
      rw [List.getElem?_eq_none (by rw [rowL_len]; omega)]; rfl
end Go.Mem
