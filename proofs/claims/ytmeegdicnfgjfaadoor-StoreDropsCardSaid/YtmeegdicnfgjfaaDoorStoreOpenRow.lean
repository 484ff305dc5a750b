/- A row of records under construction, each with data of the call's own. No program in sight. -/
import Derived.Test.YtmeegdicnfgjfaaDoorStoreMem
namespace Go.Mem
open Go Go.RowKit Gf
/-- a row of records that is the call's own, each record's data too -/
def OwnRecs (t8 tr : TypeId) (w : World) (base : Nat) (u : Value) (l : List Sto.Rec) : Prop :=
  ∃ vs : List Value, vs.length = l.length ∧ w.ownsRow base tr 4 u l.length (recsV l vs) ∧ ∀ (j : Nat) (r : Sto.Rec) (v : Value), l[j]? = some r → vs[j]? = some v → OwnX t8 w base v r.data
theorem OwnRecs.nil (t8 tr : TypeId) (w : World) (base : Nat) : OwnRecs t8 tr w base (.slice none 0 0) [] :=
  ⟨[], rfl, World.ownsRow_nil _ _ _ _, fun j r v h => by simp at h⟩
theorem own_chg {S : Nat → Prop} {w w' : World} {base : Nat} {e : TypeId} {size n : Nat} {v : Value} {xs : List Value} (h : w.ownsRow base e size v n xs) (hc : Chg S w w') (hs : ∀ g, v.ownBlock = some g → ¬ S g) : w'.ownsRow base e size v n xs := by
  refine ⟨h.1, ?_⟩
  rcases h.2 with hn | ⟨g, cap, cur, rfl, hb, hg, rest⟩
  · exact .inl hn
  · exact .inr ⟨g, cap, cur, rfl, hb, (hc.block g (lt_of_block hg) (hs g rfl)).trans hg, rest⟩
theorem OwnRecs.chg {S : Nat → Prop} {t8 tr : TypeId} {w w' : World} {base : Nat} {u : Value} {l : List Sto.Rec} (h : OwnRecs t8 tr w base u l) (hc : Chg S w w') (hs : ∀ g, base ≤ g → ¬ S g) : OwnRecs t8 tr w' base u l := by
  obtain ⟨vs, h1, h2, h3⟩ := h
  exact ⟨vs, h1, own_chg h2 hc (fun g hg => hs g (h2.lt g hg).1), fun j r v hr hv => (h3 j r v hr hv).chg hc (fun g hg => hs g ((h3 j r v hr hv).lt g hg).1)⟩
theorem ownX_grown {t8 tr : TypeId} {w w' : World} {b1 b2 s2 n2 : Nat} {v1 v2 : Value} {bs : List UInt8} {x2 : List Value} (h1 : OwnX t8 w b1 v1 bs) (h2 : w.ownsRow b2 tr s2 v2 n2 x2) (hne : t8 ≠ tr) (hg : w.grownBy w' v2.ownBlock) : OwnX t8 w' b1 v1 bs := by
  rcases h1 with h | ⟨g, cap, arr, fz, rfl, hb, hh, rest⟩
  · exact .inl h
  · refine .inr ⟨g, cap, arr, fz, rfl, hb, ?_, rest⟩
    rw [← hh]
    refine hg.block g (lt_of_block hh) ?_
    intro e
    rcases h2.2 with ⟨rfl, _⟩ | ⟨g2, cap2, cur2, rfl, _, hh2, _⟩
    · simp [Value.ownBlock] at e
    · simp only [Value.ownBlock, Option.some.injEq] at e
      subst e
      rw [hh] at hh2
      simp at hh2
      exact hne hh2.2.1
theorem OwnRecs.push {t8 tr : TypeId} {w w' : World} {base : Nat} {u u' v : Value} {l : List Sto.Rec} {r : Sto.Rec} {vs : List Value} (hne : t8 ≠ tr) (h1 : vs.length = l.length) (h2 : w.ownsRow base tr 4 u l.length (recsV l vs))
    (h3 : ∀ (j : Nat) (r : Sto.Rec) (v : Value), l[j]? = some r → vs[j]? = some v → OwnX t8 w base v r.data) (hr : OwnX t8 w base v r.data)
    (hown : w'.ownsRow base tr 4 u' (l.length + 1) (recsV l vs ++ [.bool r.is, .string r.name, .int .i64 r.num, v])) (hg : w.grownBy w' u.ownBlock) : OwnRecs t8 tr w' base u' (l ++ [r]) := by
  refine ⟨vs ++ [v], by simp [h1], by rw [recsV_snoc l vs r v h1, List.length_append]; exact hown, fun j r' v' hr' hv' => ?_⟩
  rcases Nat.lt_or_ge j l.length with hj | hj
  · rw [List.getElem?_append_left hj] at hr'
    rw [List.getElem?_append_left (by omega)] at hv'
    exact ownX_grown (h3 j r' v' hr' hv') h2 hne hg
  · rw [List.getElem?_append_right hj] at hr'
    rw [List.getElem?_append_right (by omega), h1] at hv'
    have hj0 : j - l.length = 0 := by
      rcases Nat.eq_zero_or_pos (j - l.length) with h | h
      · exact h
      · rw [List.getElem?_eq_none (by simp; omega)] at hr'; cases hr'
    rw [hj0] at hr' hv'
    simp at hr' hv'
    subst hr' hv'
    exact ownX_grown hr h2 hne hg
/-- the shape of a row that is the call's own -/
theorem own_eq_slice {w : World} {base : Nat} {e : TypeId} {size n : Nat} {v : Value} {xs : List Value} (h : w.ownsRow base e size v n xs) : ∃ a c, v = .slice a n c ∧ (0 < n → ∃ g, a = some ⟨g, 0, none⟩) := by
  rcases h.2 with ⟨rfl, rfl⟩ | ⟨g, cap, cur, rfl, _⟩
  · exact ⟨none, 0, rfl, fun h => by omega⟩
  · exact ⟨_, cap, rfl, fun _ => ⟨g, rfl⟩⟩
theorem Chg.grown {S : Nat → Prop} {w w' w'' : World} {row : Option Nat} (h : Chg S w w') (hg : w'.grownBy w'' row) (hr : ∀ q, row = some q → S q ∨ w.heap.size ≤ q) : Chg S w w'' :=
  ⟨hg.os.trans h.os, hg.tape.trans h.tape, hg.output.trans h.output, Nat.le_trans h.size hg.size, fun k hk hs => (hg.block k (Nat.lt_of_lt_of_le hk h.size) (fun e => by rcases hr k e.symm with h | h; exact hs h; omega)).trans (h.block k hk hs)⟩
theorem Chg.mix {S T : Nat → Prop} {w w' w'' : World} (h : Chg S w w') (h' : Chg T w' w'') (hT : ∀ k, T k → S k ∨ w.heap.size ≤ k) : Chg S w w'' :=
  ⟨h'.os.trans h.os, h'.tape.trans h.tape, h'.output.trans h.output, Nat.le_trans h.size h'.size, fun k hk hs => (h'.block k (Nat.lt_of_lt_of_le hk h.size) (fun ht => by rcases hT k ht with h | h; exact hs h; omega)).trans (h.block k hk hs)⟩
theorem Blk.grown' {w w' : World} {b : Nat} {arr : Array Value} {t : TypeId} {row : Option Nat} (hb : Blk w b arr t) (hg : w.grownBy w' row) (hr : row ≠ some b) : Blk w' b arr t := by
  unfold Blk at *
  rw [hg.block b (lt_of_block hb) (fun e => hr e.symm)]
  exact hb
theorem new_news {w : World} {arr : Array Value} {t : TypeId} {news : List Value} (h : arr = news.toArray) : ∀ j u, news[j]? = some u → (w.alloc (.cells arr t)).cell? ⟨w.heap.size, j, none⟩ = some u := fun j u hu => by
  rw [(Blk.new w arr t).cell, h]
  simpa using hu
/-- the append's world lies behind the one in which the rows were shown -/
theorem push_at {t8 tr : TypeId} {w3 w' x1 : World} {base : Nat} {u u' v : Value} {l : List Sto.Rec} {r : Sto.Rec} {vs : List Value} (hne : t8 ≠ tr) (h1 : vs.length = l.length) (h2 : w3.ownsRow base tr 4 u l.length (recsV l vs))
    (h3 : ∀ (j : Nat) (r : Sto.Rec) (v : Value), l[j]? = some r → vs[j]? = some v → OwnX t8 w3 base v r.data) (hr : OwnX t8 w3 base v r.data) (hb : Below w3.heap.size w3 w')
    (hown : x1.ownsRow base tr 4 u' (l.length + 1) (recsV l vs ++ [.bool r.is, .string r.name, .int .i64 r.num, v])) (hg : w'.grownBy x1 u.ownBlock) : OwnRecs t8 tr x1 base u' (l ++ [r]) :=
  have hc : Chg (fun _ => False) w3 w' := Chg.of_below hb
  OwnRecs.push hne h1 (own_chg h2 hc (fun _ _ h => h)) (fun j r v hr hv => (h3 j r v hr hv).chg hc (fun _ _ h => h)) (hr.chg hc (fun _ _ h => h)) hown hg
theorem OwnX.data' {t8 : TypeId} {w : World} {base : Nat} {v : Value} {bs : List UInt8} {N : Nat → Prop} (h : OwnX t8 w base v bs) (hN : ∀ b arr fz, base ≤ b → w.heap[b]? = some (.cells arr t8 fz) → ¬ N b) : DataAt w N v bs := by
  refine ⟨h.bys, ?_⟩
  rcases h with ⟨rfl, rfl⟩ | ⟨g, cap, arr, fz, rfl, h2, h3, _⟩
  · exact ⟨none, 0, rfl, fun b h => by cases h⟩
  · exact ⟨_, cap, rfl, fun b hb => by cases hb; exact ⟨lt_of_block h3, hN _ _ _ h2 h3⟩⟩
/-- the row that was built is the records' -/
theorem OwnRecs.recsAt {t8 tr : TypeId} {w : World} {base : Nat} {u : Value} {l : List Sto.Rec} (h : OwnRecs t8 tr w base u l) (hl : 0 < l.length) (hne : t8 ≠ tr) (N1 : Nat → Prop) (hN : ∀ b, N1 b → b < base) :
    ∃ lb cap, u = .slice (some ⟨lb, 0, none⟩) l.length cap ∧ l.length ≤ cap ∧ cap ≤ maxLen ∧ base ≤ lb ∧ RecsAt tr w (fun b => N1 b ∨ b = lb) lb l := by
  obtain ⟨vs, h1, h2, h3⟩ := h
  rcases h2.2 with ⟨_, h0⟩ | ⟨g, cap, cur, rfl, hb, hh, hn, hc, hs, ht⟩
  · omega
  · refine ⟨g, cap, rfl, hn, hc, hb, cur, vs, hh, by rw [hs]; exact Nat.mul_le_mul_right _ hn, h1, fun j hj => ?_, fun i r v hr hv => (h3 i r v hr hv).data' fun b arr fz hb1 hb2 hN' => ?_⟩
    · rw [← ht, List.getElem?_take, if_pos hj, Array.getElem?_toList]
    · rcases hN' with hN' | rfl
      · have := hN b hN'; omega
      · rw [hh] at hb2
        simp at hb2
        exact hne hb2.2.1.symm
end Go.Mem
