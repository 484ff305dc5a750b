/- The builtin copy, the world behind it written out; cells of a block that are set one by one. No program in sight. -/
import Derived.Test.YtgjabnpngggcmaaDoorApp
import Derived.Test.YtgjabnpngggcmaaDoorMatChg
import Derived.Laws.IdiomCopy
import Derived.Laws.CopyOwn
import Derived.Deep.MidRow
namespace Go.Mem
open Go Go.RowKit Gf
section
variable {P : Program} {w : World} {ops : Array Oper} {rest : List Oper} {o : Oper} {a : Act} {Q : Exit → Act → World → Prop} {K : Act → World → Prop} {E0 : Prop}
theorem wp_copy_set (d s : Operand) (dT sT elem : TypeId) (ho : o.op = .call { callee := .builtin .copy, args := #[d, s], argTypes := #[dT, sT] }) (hu : P.underlying dT = some (.slice elem)) (hsz : (P.info? elem).map (·.size) = some 1)
    {b off dl dc sl sc : Nat} {sa : Addr} (cs : List Value) (hd : a.eval d = .slice (some ⟨b, off, none⟩) dl dc) (hs : a.eval s = .slice (some sa) sl sc) (hn : cs.length = Nat.min sl dl)
    (hsrc : ∀ j v, cs[j]? = some v → w.cell? (sa.add j) = some v) (ht : w.there b off cs.length) (h1 : ∀ v ∈ cs, v.oneCell' = true)
    (h : K (a.put o.dst (goInt cs.length)) (w.setCells b off cs)) : o.wp P a w K Q := by
  have hrun := run_copy_cells (P := P) w dT sT o.type elem b off dl dc sa sl sc cs hu hsz hn hsrc (fun j hj => (ht j hj).1) (fun j hj => (ht j hj).2) h1
  unfold Oper.wp
  simp [execOp, ho, resolve, invoke, builtin, hd, hs, hrun, Result.andThen]
  exact h
theorem copy_set (hgd : o.guard = none) (d s : Operand) (dT sT elem : TypeId) (ho : o.op = .call { callee := .builtin .copy, args := #[d, s], argTypes := #[dT, sT] }) (hu : P.underlying dT = some (.slice elem)) (hsz : (P.info? elem).map (·.size) = some 1)
    {b off dl dc sl sc : Nat} {sa : Addr} (cs : List Value) (hd : a.eval d = .slice (some ⟨b, off, none⟩) dl dc) (hs : a.eval s = .slice (some sa) sl sc) (hn : cs.length = Nat.min sl dl)
    (hsrc : ∀ j v, cs[j]? = some v → w.cell? (sa.add j) = some v) (ht : w.there b off cs.length) (h1 : ∀ v ∈ cs, v.oneCell' = true)
    (h : wpList P ops Q rest (a.put o.dst (goInt cs.length)) (w.setCells b off cs)) : wpList P ops Q (o :: rest) a w :=
  to_list hgd (R := fun v' w' => v' = goInt cs.length ∧ w' = w.setCells b off cs) (fun _ hK => wp_copy_set d s dT sT elem ho hu hsz cs hd hs hn hsrc ht h1 (hK _ _ ⟨rfl, rfl⟩)) fun v' w' h2 => by
    obtain ⟨rfl, rfl⟩ := h2; exact h
theorem step_copy_set (hgd : o.guard = none) (d s : Operand) (dT sT elem : TypeId) (ho : o.op = .call { callee := .builtin .copy, args := #[d, s], argTypes := #[dT, sT] }) (hu : P.underlying dT = some (.slice elem)) (hsz : (P.info? elem).map (·.size) = some 1)
    {b off dl dc sl sc : Nat} {sa : Addr} (cs : List Value) (hd : a.eval d = .slice (some ⟨b, off, none⟩) dl dc) (hs : a.eval s = .slice (some sa) sl sc) (hn : cs.length = Nat.min sl dl)
    (hsrc : ∀ j v, cs[j]? = some v → w.cell? (sa.add j) = some v) (ht : w.there b off cs.length) (h1 : ∀ v ∈ cs, v.oneCell' = true)
    (h : K (a.put o.dst (goInt cs.length)) (w.setCells b off cs)) : if Region.wanted o (yielded ops a.tmps) = true then Oper.wp P o a w K Q else E0 :=
  to_step hgd (R := fun v' w' => v' = goInt cs.length ∧ w' = w.setCells b off cs) (fun _ hK => wp_copy_set d s dT sT elem ho hu hsz cs hd hs hn hsrc ht h1 (hK _ _ ⟨rfl, rfl⟩)) fun v' w' h2 => by
    obtain ⟨rfl, rfl⟩ := h2; exact h
end
theorem Blk.setCells_other {b L : Nat} {arr : Array Value} {t : TypeId} (hne : b ≠ L) : ∀ (vs : List Value) (o : Nat) (w : World), Blk w b arr t → Blk (w.setCells L o vs) b arr t
  | [], _, _, h => h
  | _ :: r, o, _, h => Blk.setCells_other hne r (o + 1) _ (h.set_other (fun e => hne e.symm) _)
theorem Blk.setCells {L : Nat} {t : TypeId} : ∀ (vs : List Value) (o : Nat) (w : World) (arr : Array Value), Blk w L arr t →
    ∃ arr', Blk (w.setCells L o vs) L arr' t ∧ arr'.size = arr.size ∧ ∀ j, j < arr.size → arr'[j]? = if o ≤ j ∧ j < o + vs.length then vs[j - o]? else arr[j]?
  | [], _, _, arr, h => ⟨arr, h, rfl, fun j _ => by rw [if_neg (by simp)]⟩
  | v :: r, o, _, arr, h => by
    obtain ⟨arr', h1, h2, h3⟩ := Blk.setCells r (o + 1) _ _ (h.set o v)
    rw [Array.size_setIfInBounds] at h2 h3
    refine ⟨arr', h1, h2, fun j hj => ?_⟩
    rw [h3 j hj]
    simp only [List.length_cons]
    by_cases e : j = o
    · subst e
      rw [if_neg (by omega), if_pos (by omega), Array.getElem?_setIfInBounds, if_pos rfl, if_pos hj]; simp
    · by_cases e2 : o + 1 ≤ j ∧ j < o + 1 + r.length
      · rw [if_pos e2, if_pos (by omega), show j - o = (j - (o + 1)) + 1 from by omega, List.getElem?_cons_succ]
      · rw [if_neg e2, if_neg (by omega), Array.getElem?_setIfInBounds, if_neg (fun e' => e e'.symm)]
theorem Chg.setCells {S : Nat → Prop} {L : Nat} (hS : S L) {w : World} : ∀ (vs : List Value) (o : Nat) (w' : World), Chg S w w' → Chg S w (w'.setCells L o vs)
  | [], _, _, h => h
  | _ :: r, o, _, h => Chg.setCells hS r (o + 1) _ (h.set (a := ⟨L, o, none⟩) hS _)
theorem keep_mid {w : World} {d L t o o' n : Nat} {x : Option Value} {cs vs : List Value} (h1 : d ≠ L) (h2 : t ≠ L) (c : w.cell? ⟨d, 0, none⟩ = x) (hr : w.rangeAt t 0 cs) (ht : w.there L o' n) :
    (w.drew.setCells L o vs).cell? ⟨d, 0, none⟩ = x ∧ (w.drew.setCells L o vs).rangeAt t 0 cs ∧ (w.drew.setCells L o vs).there L o' n :=
  ⟨by rw [World.cell?_setCells_out _ _ _ _ _ (fun e => absurd e h1)]; exact c, World.rangeAt_setCells_apart (by rw [World.rangeAt_drew]; exact hr) _ _ _ (.inl h2), World.there_setCells (by rw [World.there_drew]; exact ht) _ _ _⟩
/-- bytes of a row that is not known whole -/
theorem Blk.mid_bys {w : World} {b : Nat} {arr : Array Value} {t : TypeId} (h : Blk w b arr t) {o m c : Nat} {f : Nat → UInt8} (hc : m ≤ c) (hm : c ≤ maxLen)
    (ha : ∀ k, k < m → arr[o + k]? = some (Value.int .u8 ((f k).toNat : Int))) : Bys w (.slice (some ⟨b, o, none⟩) m c) (rowL m f) := by
  refine ⟨_, c, by rw [rowL_len], by rw [rowL_len]; exact hc, hm, fun _ => ⟨b, o, rfl, fun i u hi => ?_⟩⟩
  have hlt : i < m := by
    rcases Nat.lt_or_ge i m with h' | h'
    · exact h'
    · rw [List.getElem?_eq_none (by rw [rowL_len]; exact h')] at hi; cases hi
  rw [rowL_get _ _ _ hlt] at hi; cases hi
  rw [h.cell]; exact ha i hlt
end Go.Mem
