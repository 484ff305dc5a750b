/- A table and a key in memory of a law's own. -/
import Derived.Test.YtgjabnpngggcmaaLeaWake
namespace Go.Proofs.Ytgjabnpngggcmaa
open Go Go.RowKit Go.Mem Gf Lea
structure Env (W wr : World) (tb p6 : Nat) (vt : Value) (lt : List Les) : Prop where
  heap : Heap wr tb vt lt
  good : Lea.Good lt
  key : Blk wr p6 (bV z16).toArray 26
  own : ∀ g, vt.ownBlock = some g → W.heap.size ≤ g ∧ g ≠ p6
  chg : Chg (fun k => W.heap.size ≤ k) W wr
  tb1 : W.heap.size ≤ tb
  tbp : tb ≠ p6
section
variable {W wr w' : World} {tb p6 : Nat} {vt v' : Value} {lt l' : List Les}
theorem Env.tchg (h : Env W wr tb p6 vt lt) (hc : TChg tb vt v' wr w') (hh : Heap w' tb v' l') (hg : Lea.Good l') : Env W w' tb p6 v' l' := by
  have hp := h.key.lt
  refine ⟨hh, hg, hc.1.blk h.key (fun e => ?_), fun g e => ?_, h.chg.mix hc.1 (fun k hk => ?_), h.tb1, h.tbp⟩
  · rcases e with e | e
    · exact h.tbp e.symm
    · exact (h.own _ e).2 rfl
  · rcases hc.2 g e with e1 | e1
    · exact h.own g e1
    · exact ⟨Nat.le_trans h.chg.size e1, fun e2 => by omega⟩
  · rcases hk with rfl | hk
    · exact .inl h.tb1
    · exact .inl (h.own _ hk).1
theorem Env.below (h : Env W wr tb p6 vt lt) (hb : Below wr.heap.size wr w') : Env W w' tb p6 vt lt :=
  ⟨h.heap.below hb, h.good, h.key.kept hb, h.own, h.chg.trans_below hb, h.tb1, h.tbp⟩
theorem Env.read (h : Env W wr tb p6 vt lt) : readK 16 wr p6 0 = bV z16 := blk_read0 h.key (by rw [bV_len]; exact z16_len)
theorem Env.has (h : Env W wr tb p6 vt lt) : HasK 16 wr p6 0 := blk_has h.key (by simp [bV_len, z16_len])
theorem Env.bel (h : Env W wr tb p6 vt lt) : Below W.heap.size W wr := h.chg.below (Nat.le_refl _) (fun _ h => h)
theorem Env.few (h : Env W wr tb p6 vt lt) (ix : Key) : (ofL lt ix).length ≤ 12 := by have := h.good.few ix; omega
theorem Env.new {W w1 : World} {tb : Nat} (h1 : W.heap.size ≤ tb) (h2 : Heap w1 tb (.slice none 0 0) []) (h3 : Below W.heap.size W w1) : Env W (w1.alloc (.cells (bV z16).toArray 26)) tb w1.heap.size (.slice none 0 0) [] :=
  ⟨h2.below ((Below.refl _ _).alloc (Nat.le_refl _) _), Good.nil, Blk.new _ _ _, (fun g e => by cases e), (Chg.of_below h3).trans_below ((Below.refl _ _).alloc (Nat.le_refl _) _), h1, fun e => by have := h2.tab.cell.lt; omega⟩
end
end Go.Proofs.Ytgjabnpngggcmaa
