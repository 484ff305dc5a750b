/- Two tables in memory of a law's own. -/
import Derived.Test.YtgjabnpngggcmaaLeaActs
import Derived.Test.YtgjabnpngggcmaaLeaSame
namespace Go.Proofs.Ytgjabnpngggcmaa
open Go Go.RowKit Go.Mem Gf Lea
structure Env0 (W wr : World) (tb : Nat) (vt : Value) (lt : List Les) : Prop where
  heap : Heap wr tb vt lt
  good : Lea.Good lt
  own : ∀ g, vt.ownBlock = some g → W.heap.size ≤ g
  chg : Chg (fun k => W.heap.size ≤ k) W wr
  tb1 : W.heap.size ≤ tb
section
variable {W wr w' : World} {tb tu : Nat} {vt vu v' : Value} {lt lu l' : List Les}
theorem Env0.new {W w1 : World} {tb : Nat} (h1 : W.heap.size ≤ tb) (h2 : Heap w1 tb (.slice none 0 0) []) (h3 : Below W.heap.size W w1) : Env0 W w1 tb (.slice none 0 0) [] :=
  ⟨h2, Good.nil, (fun g e => by cases e), Chg.of_below h3, h1⟩
theorem Env0.tchg (h : Env0 W wr tb vt lt) (hc : TChg tb vt v' wr w') (hh : Heap w' tb v' l') (hg : Lea.Good l') : Env0 W w' tb v' l' :=
  ⟨hh, hg, fun g e => by
    rcases hc.2 g e with e1 | e1
    · exact h.own g e1
    · exact Nat.le_trans h.chg.size e1, h.chg.mix hc.1 (fun k hk => by
    rcases hk with rfl | hk
    · exact .inl h.tb1
    · exact .inl (h.own _ hk)), h.tb1⟩
theorem Env0.below (h : Env0 W wr tb vt lt) (hb : Below wr.heap.size wr w') : Env0 W w' tb vt lt := ⟨h.heap.below hb, h.good, h.own, h.chg.trans_below hb, h.tb1⟩
theorem Env0.bel (h : Env0 W wr tb vt lt) : Below W.heap.size W wr := h.chg.below (Nat.le_refl _) (fun _ h => h)
theorem Env0.few (h : Env0 W wr tb vt lt) (ix : Key) : (ofL lt ix).length ≤ 12 := by have := h.good.few ix; omega
structure Tw (W wr : World) (tb tu : Nat) (vt vu : Value) (lt lu : List Les) : Prop where
  a : Env0 W wr tb vt lt
  b : Env0 W wr tu vu lu
  ne : tb ≠ tu
  s1 : vt.ownBlock ≠ some tu
  s2 : vu.ownBlock ≠ some tb
  s3 : ∀ g, vt.ownBlock = some g → vu.ownBlock ≠ some g
theorem Tw.swap (h : Tw W wr tb tu vt vu lt lu) : Tw W wr tu tb vu vt lu lt := ⟨h.b, h.a, fun e => h.ne e.symm, h.s2, h.s1, fun g hg e => h.s3 g e hg⟩
theorem Tw.below (h : Tw W wr tb tu vt vu lt lu) (hb : Below wr.heap.size wr w') : Tw W w' tb tu vt vu lt lu := ⟨h.a.below hb, h.b.below hb, h.ne, h.s1, h.s2, h.s3⟩
theorem Tw.left (h : Tw W wr tb tu vt vu lt lu) (hc : TChg tb vt v' wr w') (hh : Heap w' tb v' l') (hg : Lea.Good l') : Tw W w' tb tu v' vu l' lu := by
  have ha := h.a.tchg hc hh hg
  have hu := h.b.heap.tab.cell.lt
  refine ⟨ha, ⟨⟨h.b.heap.tab.chg hc.1 (fun e => ?_) (fun g hg e => ?_), h.b.heap.heap⟩, h.b.good, h.b.own, ha.chg, h.b.tb1⟩, h.ne, fun e => ?_, h.s2, fun g hg e => ?_⟩
  · rcases e with e | e
    · exact h.ne e.symm
    · exact h.s1 e
  · rcases e with rfl | e
    · exact h.s2 hg
    · exact h.s3 _ e hg
  · rcases hc.2 _ e with e1 | e1
    · exact h.s1 e1
    · omega
  · rcases hc.2 g hg with e1 | e1
    · exact h.s3 g e1 e
    · have := h.b.heap.tab.own.lt _ e
      omega
theorem Tw.clone (h : Env0 W wr tb vt lt) (h1 : wr.heap.size ≤ tu) (h2 : ∀ g, vu.ownBlock = some g → wr.heap.size ≤ g) (h3 : Heap w' tu vu lt) (h4 : Below wr.heap.size wr w') : Tw W w' tb tu vt vu lt lt := by
  have ht := h.heap.tab.cell.lt
  have hz := h.chg.size
  refine ⟨h.below h4, ⟨h3, h.good, fun g e => Nat.le_trans hz (h2 g e), h.chg.trans_below h4, by omega⟩, by omega, fun e => ?_, fun e => ?_, fun g hg e => ?_⟩
  · have := h.heap.tab.own.lt _ e; omega
  · have := h2 _ e; omega
  · have := h.heap.tab.own.lt _ hg
    have := h2 _ e
    omega
end
/-! ### what LeaseNext asks -/
theorem next_add {l l' : List Les} {ix sec : Key} {e : Int} {b : Bool} (h : AddR l ix sec e b l') (hl : ∀ x ∈ l, 1 ≤ x.e ∧ x.e ≤ 50) (he : 1 ≤ e ∧ e ≤ 50) : (∀ x ∈ l', 1 ≤ x.e ∧ x.e ≤ 50) ∧ l' ≠ [] := by
  cases h with
  | no h =>
    refine ⟨hl, fun e2 => ?_⟩
    subst e2
    rcases h with h | ⟨_, h⟩
    · exact h ⟨by omega, by omega⟩
    · simp [ofL] at h
  | more k x _ _ hx _ _ hp =>
    have hm := hl x (List.mem_of_getElem? hx)
    refine ⟨fun y hy => ?_, fun e2 => ?_⟩
    · rcases List.mem_or_eq_of_mem_set (hp.mem_iff.1 hy) with hy | rfl
      · exact hl y hy
      · simp only; omega
    · rw [e2] at hp
      have h1 := hp.length_eq
      have h2 := some_lt hx
      rw [List.length_set, List.length_nil] at h1
      omega
  | new _ _ _ _ hp =>
    refine ⟨fun y hy => ?_, fun e2 => ?_⟩
    · rcases List.mem_append.1 (hp.mem_iff.1 hy) with hy | hy
      · exact hl y hy
      · rw [List.mem_singleton.1 hy]; exact he
    · rw [e2] at hp
      have := hp.length_eq
      simp at this
theorem next_none {l l' : List Les} {n : Int} {R : List Key} (h : EndedR l (n - 1) l' R) (hn : ∀ x ∈ l, n ≤ x.e) : R = [] ∧ l'.Perm l := by
  have hl : left l (n - 1) = l := List.filter_eq_self.2 (fun x hx => by have := hn x hx; simp; omega)
  have hp := h.perm
  rw [hl] at hp
  refine ⟨List.eq_nil_iff_forall_not_mem.2 fun k hk => ?_, hp⟩
  obtain ⟨⟨x, hx, _, he⟩, _⟩ := (h.mem k).1 hk
  have := hn x hx
  omega
theorem next_more {l l' : List Les} {n m : Int} {R : List Key} (h : EndedR l n l' R) (hm : NextR l' m true) : n < m := by
  rcases hm with ⟨_, _, h2⟩ | ⟨_, ⟨x, hx, rfl⟩, _⟩
  · cases h2
  · have := List.mem_filter.1 (h.perm.mem_iff.1 hx)
    simpa using this.2
theorem next_all {l l' : List Les} {R : List Key} (h : EndedR l 1048576 l' R) (hg : Lea.Good l) (hl : l ≠ []) : 0 < R.length := by
  obtain ⟨x, hx⟩ := List.exists_mem_of_ne_nil _ hl
  have hm := hg.ends x hx
  have : x.ix ∈ R := (h.mem x.ix).2 ⟨⟨x, hx, rfl, hm.2⟩, fun y hy => by
    have h1 := List.mem_filter.1 (h.perm.mem_iff.1 hy)
    have h2 := hg.ends y h1.1
    have h3 : (1048576 : Int) < y.e := by simpa using h1.2
    have := h2.2
    omega⟩
  exact List.length_pos_iff_exists_mem.2 ⟨_, this⟩
end Go.Proofs.Ytgjabnpngggcmaa
