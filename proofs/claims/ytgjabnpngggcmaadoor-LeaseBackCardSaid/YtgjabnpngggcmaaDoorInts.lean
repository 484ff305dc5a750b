/- Plain facts on memory: slices of numbers. No program in sight. -/
import Derived.Test.YtgjabnpngggcmaaDoorMem2
namespace Go.Mem
open Go Go.RowKit

/-- the value v is a slice of just these numbers -/
def Nms (w : World) (v : Value) (xs : List Int) : Prop :=
  ∃ a cap, v = .slice a xs.length cap ∧ xs.length ≤ cap ∧ cap ≤ maxLen ∧
    (0 < xs.length → ∃ b off, a = some ⟨b, off, none⟩ ∧ ∀ (i : Nat) (x : Int), xs[i]? = some x → w.cell? ⟨b, off + i, none⟩ = some (.int .i64 x))
theorem Nms.nil (w : World) : Nms w (.slice none 0 0) [] := ⟨none, 0, rfl, Nat.le_refl _, Nat.zero_le _, fun h => by simp at h⟩
section
variable {w w' : World} {v : Value} {xs : List Int}
theorem Nms.len (h : Nms w v xs) : xs.length ≤ 9223372036854775807 := by
  obtain ⟨a, cap, _, h1, h2, _⟩ := h
  unfold maxLen at h2; omega
theorem Nms.eq_slice (h : Nms w v xs) : ∃ a cap, v = .slice a xs.length cap := by
  obtain ⟨a, cap, e, _⟩ := h; exact ⟨a, cap, e⟩
theorem Nms.drewN (h : Nms w v xs) (n : Nat) : Nms (w.drewN n) v xs := h
theorem Nms.drew (h : Nms w v xs) : Nms w.drew v xs := h
theorem Nms.below (h : Nms w v xs) (hb : Below w.heap.size w w') : Nms w' v xs := by
  obtain ⟨a, cap, h0, h1, h2, h3⟩ := h
  refine ⟨a, cap, h0, h1, h2, fun hp => ?_⟩
  obtain ⟨b, off, e, hc⟩ := h3 hp
  refine ⟨b, off, e, fun i u hi => ?_⟩
  have := hc i u hi
  rw [hb.cell (p := ⟨b, off + i, none⟩) (World.block_lt_of_cell? w _ this)]
  exact this
theorem Nms.rd (h : Nms w v xs) (hr : Rd w w') : Nms w' v xs := by
  obtain ⟨m, rfl⟩ := hr; exact h
theorem Nms.at {a : Option Addr} {n cap : Nat} (h : Nms w (.slice a n cap) xs) (k : Nat) (hk : k < xs.length) :
    ∃ b off x, a = some ⟨b, off, none⟩ ∧ Hid (xs[k]? = some x) ∧ w.cell? ⟨b, off + k, none⟩ = some (.int .i64 x) := by
  obtain ⟨a', cap', e, h1, h2, h3⟩ := h
  obtain ⟨b, off, e', hc⟩ := h3 (by omega)
  injection e with e1 e2 e3
  exact ⟨b, off, xs[k], e1.trans e', by show xs[k]? = _; simp [hk], hc k _ (by simp [hk])⟩
theorem Nms.take {a : Option Addr} {len cap : Nat} (h : Nms w (.slice a len cap) xs) (n : Nat) (hn : n ≤ xs.length) : Nms w (.slice a n cap) (xs.take n) := by
  obtain ⟨a', cap', e, h1, h2, h3⟩ := h
  injection e with e1 e2 e3
  have hlen : (xs.take n).length = n := by simp; omega
  refine ⟨a, cap, by rw [hlen], by rw [hlen]; omega, by omega, fun hp => ?_⟩
  rw [hlen] at hp
  obtain ⟨b, off, e', hc⟩ := h3 (by omega)
  refine ⟨b, off, e1.trans e', fun i u hi => hc i u ?_⟩
  rw [List.getElem?_take] at hi
  split at hi
  · exact hi
  · cases hi
/-- numbers that a call has appended -/
theorem nms_of_own {base : Nat} {t : TypeId} {n : Nat} (h : w.ownsRow base t 1 v n (xs.map (Value.int .i64))) (hn : xs.length = n) : Nms w v xs := by
  subst hn
  obtain ⟨hlen, h2⟩ := h
  rcases h2 with ⟨rfl, h0⟩ | ⟨g, cap, cur, rfl, _, hg, hnc, hcm, hcs, htake⟩
  · have : xs = [] := List.eq_nil_of_length_eq_zero h0
    subst this
    exact Nms.nil w
  · refine ⟨_, cap, rfl, hnc, hcm, fun _ => ⟨g, 0, rfl, fun i x hi => ?_⟩⟩
    have hil : i < xs.length := by
      rcases Nat.lt_or_ge i xs.length with h | h
      · exact h
      · rw [List.getElem?_eq_none h] at hi; cases hi
    have hv : (xs.map (Value.int .i64))[i]? = some (.int .i64 x) := by rw [List.getElem?_map, hi]; rfl
    rw [Nat.zero_add]
    rw [← htake, List.getElem?_take, if_pos (by omega)] at hv
    simp only [World.cell?, hg]
    simpa using hv
end
end Go.Mem
