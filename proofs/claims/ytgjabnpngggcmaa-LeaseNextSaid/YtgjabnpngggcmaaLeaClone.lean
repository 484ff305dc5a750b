/- Another table, as it is. -/
import Derived.Test.YtgjabnpngggcmaaLeaEnded
namespace Go.Proofs.Ytgjabnpngggcmaa
open Go Go.RowKit Go.Mem Gf Lea
attribute [local go_sem ↓] Go.wp_at_zero Go.wp_at_succ
set_option maxRecDepth 100000 in
set_option maxHeartbeats 1000000 in
theorem clone_calls (w : World) (tb : Nat) (v : Value) (l : List Les) (h : Heap w tb v l) (hl : l.length ≤ 90000) :
    Calls Try.prog 10 #[.pointer (some ⟨tb, 0, none⟩)] w fun r w' => ∃ t2 v2, r = .returned (.pointer (some ⟨t2, 0, none⟩)) ∧ w.heap.size ≤ t2 ∧ (∀ g, v2.ownBlock = some g → w.heap.size ≤ g) ∧ Heap w' t2 v2 l ∧ Below w.heap.size w w' := by
  have hcell : w.cell? ⟨tb, 0, none⟩ = some v := by simpa using h.tab.cell.cell 0
  have hfin : ∀ v1 x1, x1.ownsRow w.heap.size 56 33 v1 l.length (itemsV l) → w.grownBy x1 none → w.heap.size ≤ x1.heap.size ∧ (∀ g, v1.ownBlock = some g → w.heap.size ≤ g) ∧ Heap (x1.alloc (.cells #[v1] 50)) x1.heap.size v1 l ∧ Below w.heap.size w (x1.alloc (.cells #[v1] 50)) := fun v1 x1 hv hg => by
    have hB : Below w.heap.size w x1 := (Chg.grown (S := fun _ => False) (Chg.refl _ _) hg (fun q hq => by cases hq)).below (Nat.le_refl _) (fun _ h => h.elim)
    have hge : ∀ g, v1.ownBlock = some g → w.heap.size ≤ g ∧ g < x1.heap.size := fun g e => hv.lt g e
    have hv' := own_chg (S := fun _ => False) hv (Chg.of_below ((Below.refl _ _).alloc (Nat.le_refl _) (.cells #[v1] 50))) (fun _ _ h => h)
    refine ⟨hB.size, fun g e => (hge g e).1, ⟨⟨Blk.new _ _ _, ⟨hv'.1, ?_⟩, h.tab.wf, fun e => ?_⟩, h.heap⟩, hB.alloc hB.size _⟩
    · rcases hv'.2 with e | ⟨g, cap, cur, e1, h1, h2⟩
      · exact .inl e
      · exact .inr ⟨g, cap, cur, e1, Nat.zero_le _, h2⟩
    · have := (hge _ e).2
      omega
  have HF := Lib.hid hfin
  obtain ⟨n, hn⟩ : ∃ n, n = l.length := ⟨_, rfl⟩
  have HN := Lib.hid hn
  clear hfin
  rcases h.tab.own.2 with ⟨rfl, e0⟩ | ⟨g, cap, cur, rfl, hrest⟩
  · have H0 : Hid (l = []) := by
      refine List.eq_nil_of_length_eq_zero ?_
      have := itemsV_len l h.tab.wf
      rw [e0] at this
      simp at this
      omega
    clear h e0 hn
    go_enter Try.func10, Try.ntmps10
    go_wp2_with fail
    go_ret
    have := HF.out (.slice none 0 0) w (by rw [H0.out]; exact World.ownsRow_nil _ _ _ _) ⟨rfl, rfl, rfl, Nat.le_refl _, fun _ _ _ => rfl⟩
    exact ⟨_, _, rfl, Nat.le_refl _, this.2.1, this.2.2.1, this.2.2.2⟩
  · have hrow : Row 56 w 0 g l.length cap l := ⟨h.tab.own, rfl, h.tab.wf⟩
    have HR := Lib.hid hrow
    rw [← hn] at hcell
    clear h hrow hrest hn
    go_enter Try.func10, Try.ntmps10
    go_wp2_with
      (first
        | (refine to_list (by rfl) (R := fun v' w' => w'.ownsRow w.heap.size 56 33 v' (0 + n) ([] ++ itemsV l) ∧ w.grownBy w' none ∧ (∀ k, v'.ownBlock = some k → (none : Option Nat) = some k ∨ w.heap.size ≤ k)) (fun _ hK => wpAppN EKi _ _ (by rfl) (base := w.heap.size) (v := .slice none 0 0) (n := 0) (m := n) (cx := cap) (xs := []) (itemsV l) (by rfl) (mb := g) (by rfl) (by rw [itemsV_len l HR.out.wf, HN.out]) (fun j u hj => by rw [HR.out.cell (by have := some_lt hj; rw [itemsV_len l HR.out.wf] at this; exact this)]; exact hj) (fun u hu => by obtain ⟨x, _, hx⟩ := List.mem_flatMap.1 hu; exact one_cellsI x u hx) (World.ownsRow_nil _ _ _ _) (by have := HN.out; omega) (by decide) (Nat.le_refl _) (fun v' w' hh => hK v' w' hh)) ?_
           rintro v1 x1 ⟨hv1, hg1, _⟩
           obtain ⟨a1, c1, rfl, _⟩ := own_eq_slice hv1
           have HV1 := Lib.hid hv1; have HG1 := Lib.hid hg1
           clear hv1 hg1)
        | fail)
    all_goals
      go_ret
      have hv := HV1.out
      rw [Nat.zero_add, List.nil_append] at hv
      have := HF.out _ x1 (by rw [← HN.out]; exact hv) HG1.out
      exact ⟨_, _, rfl, this.1, this.2.1, this.2.2.1, this.2.2.2⟩
end Go.Proofs.Ytgjabnpngggcmaa
