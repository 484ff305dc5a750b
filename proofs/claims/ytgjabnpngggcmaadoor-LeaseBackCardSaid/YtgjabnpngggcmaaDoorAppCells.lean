/- What a call makes by appending a slice of things of any size to nil. No program in sight. -/
import Derived.Test.YtgjabnpngggcmaaDoorApp
import Derived.Test.YtgjabnpngggcmaaDoorMatChg
namespace Go.Mem
open Go Go.RowKit Gf
section
variable {P : Program} {w : World} {ops : Array Oper} {rest : List Oper} {o : Oper} {a : Act} {Q : Exit → Act → World → Prop} {K : Act → World → Prop} {E0 : Prop}
/-- the table's row of a type of size cells -/
structure ElemK (P : Program) (t e : TypeId) (z : Value) (size bytes : Nat) : Prop where
  under : P.underlying t = some (.slice e)
  info : (P.info? e).map (fun i => (i.zero, i.size, i.bytes)) = some (some z, size, bytes)
  zsize : z.cells.size = size
  pos : 0 < size
theorem own_blk {base e size n : Nat} {v : Value} {xs : List Value} (h : w.ownsRow base e size v n xs) (h0 : 0 < n) :
    ∃ g cap arr, v = .slice (some ⟨g, 0, none⟩) n cap ∧ base ≤ g ∧ Blk w g arr e ∧ n ≤ cap ∧ cap ≤ maxLen ∧ arr.size = cap * size ∧ ∀ j, j < n * size → arr[j]? = xs[j]? := by
  obtain ⟨hl, h⟩ := h
  rcases h with ⟨_, h⟩ | ⟨g, cap, cur, rfl, hb, hg, hc, hm, hs, ht⟩
  · omega
  · refine ⟨g, cap, cur, rfl, hb, hg, hc, hm, hs, fun j hj => ?_⟩
    rw [← ht, List.getElem?_take, if_pos hj]
    simp
theorem app_cells {t e : TypeId} {z : Value} {size bytes : Nat} (E : ElemK P t e z size bytes) (hgd : o.guard = none) (s x : Operand) (ho : o.op = .call { callee := .builtin .append, args := #[s, x], argTypes := #[t, t] })
    (hs : a.eval s = .slice none 0 0) {L off n cap : Nat} {news : List Value} (hx : a.eval x = .slice (some ⟨L, off, none⟩) n cap) (hl : news.length = n * size) (hnews : ∀ j u, news[j]? = some u → w.cell? ⟨L, off + j, none⟩ = some u) (h1 : ∀ u ∈ news, u.oneCell' = true)
    (h0 : 0 < n) (hn : n ≤ maxLen) (hby : n * bytes ≤ 140737488355328)
    (h : ∀ g cap' arr w', Blk w' g arr e → w.heap.size ≤ g → n ≤ cap' → cap' ≤ maxLen → arr.size = cap' * size → (∀ j, j < n * size → arr[j]? = news[j]?) → Below w.heap.size w w' → wpList P ops Q rest (a.put o.dst (.slice (some ⟨g, 0, none⟩) n cap')) w') : wpList P ops Q (o :: rest) a w := by
  obtain ⟨i, hi, hz, hsz, hb⟩ := info_parts E.info
  refine wpList_plain hgd fun K hK => wp_append_own w s x t ho w.heap.size e i z size bytes E.under hi hz hsz hb E.zsize E.pos (.slice none 0 0) 0 [] hs (World.ownsRow_nil _ _ _ _) ⟨L, off, none⟩ n cap news hx hl
    (fun j y hj => by
      rw [show (⟨L, off, none⟩ : Addr).add j = ⟨L, off + j, none⟩ from by
        unfold Addr.add
        split
        · subst_vars; rfl
        · rfl]
      exact hnews j y hj) h1 (by omega) (by rw [Nat.zero_add]; exact hby) (Nat.le_refl _) (fun v' w' h2 h3 _ => hK _ _ ?_)
  rw [Nat.zero_add, List.nil_append] at h2
  obtain ⟨g, cap', arr, rfl, hg, hB, hc1, hc2, hc3, hc4⟩ := own_blk h2 h0
  exact h g cap' arr w' hB hg hc1 hc2 hc3 hc4 (grown_none h3 rfl)
end
end Go.Mem
