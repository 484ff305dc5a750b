/- Rows of bytes that a call appends to, all cells of which are bytes (also behind their length); the laws of append for them. No program in sight. -/
import Derived.Test.YtgjabnpngggcmaaDoorApp
import Derived.Test.YtgjabnpngggcmaaDoorMatChg
namespace Go.Mem
open Go Go.RowKit Gf
/-- all cells are bytes -/
def Byt (arr : Array Value) : Prop := ∀ j, j < arr.size → ∃ u : UInt8, arr[j]? = some (.int .u8 (u.toNat : Int))
theorem byt_row (m : Nat) (f : Nat → UInt8) : Byt (rowArr m f) := fun j hj => ⟨f j, rowArr_get _ _ _ (by rwa [rowArr_size] at hj)⟩
theorem byt_mem {arr : Array Value} : Byt arr ↔ ∀ v ∈ arr.toList, ∃ u : UInt8, v = .int .u8 (u.toNat : Int) := by
  constructor
  · intro h v hv
    obtain ⟨j, hj, rfl⟩ := List.mem_iff_getElem.1 hv
    have hj' : j < arr.size := by simpa using hj
    obtain ⟨u, hu⟩ := h j hj'
    refine ⟨u, ?_⟩
    rw [Array.getElem?_eq_getElem hj'] at hu
    simpa using hu
  · intro h j hj
    obtain ⟨u, hu⟩ := h arr[j] (by simp)
    exact ⟨u, by rw [Array.getElem?_eq_getElem hj, hu]⟩
theorem byt_bV (bs : List UInt8) : ∀ v ∈ bV bs, ∃ u : UInt8, v = .int .u8 (u.toNat : Int) := fun v hv => by
  simp only [bV, List.mem_map] at hv
  obtain ⟨x, _, rfl⟩ := hv
  exact ⟨x, rfl⟩
theorem byt_zero (k : Nat) : ∀ v ∈ (Builtin.zeroCells #[.int .u8 0] k).toList, ∃ u : UInt8, v = .int .u8 (u.toNat : Int) := fun v hv => by
  simp only [Builtin.zeroCells, Array.toList_map, List.mem_map] at hv
  obtain ⟨x, _, rfl⟩ := hv
  exact ⟨0, by simp [Nat.mod_one]⟩
/-- v is a slice of just these bytes, its row the call's own, and all that lies in the row are bytes -/
def OwnF (t8 : TypeId) (w : World) (base : Nat) (v : Value) (bs : List UInt8) : Prop :=
  OwnB t8 w base v bs ∧ ∀ g, v.ownBlock = some g → ∃ arr, Blk w g arr t8 ∧ Byt arr
section
variable {t8 : TypeId} {w w' : World} {base : Nat} {v : Value} {bs : List UInt8}
theorem OwnF.nil (t8 : TypeId) (w : World) (base : Nat) : OwnF t8 w base (.slice none 0 0) [] := ⟨OwnB.nil _ _ _, fun g h => by simp [Value.ownBlock] at h⟩
theorem OwnF.own (h : OwnF t8 w base v bs) : OwnB t8 w base v bs := h.1
theorem OwnF.bys (h : OwnF t8 w base v bs) : Bys w v bs := h.1.bys
theorem OwnF.drewN (h : OwnF t8 w base v bs) (n : Nat) : OwnF t8 (w.drewN n) base v bs := h
theorem OwnF.below (h : OwnF t8 w base v bs) (hb : Below w.heap.size w w') : OwnF t8 w' base v bs := ⟨h.1.below hb, fun g hg => by
  obtain ⟨arr, h1, h2⟩ := h.2 g hg
  exact ⟨arr, h1.kept hb, h2⟩⟩
theorem OwnF.mono (h : OwnF t8 w base v bs) {base' : Nat} (hb : base' ≤ base) : OwnF t8 w base' v bs := ⟨h.1.mono hb, h.2⟩
theorem OwnB.chg {S : Nat → Prop} (h : OwnB t8 w base v bs) (hc : Chg S w w') (hs : ∀ g, v.ownBlock = some g → ¬ S g) : OwnB t8 w' base v bs := by
  obtain ⟨h1, h2⟩ := h
  refine ⟨h1, ?_⟩
  rcases h2 with h2 | ⟨g, cap, cur, rfl, hg, hh, r⟩
  · exact .inl h2
  · exact .inr ⟨g, cap, cur, rfl, hg, hc.blk hh (hs g rfl), r⟩
theorem OwnF.chg {S : Nat → Prop} (h : OwnF t8 w base v bs) (hc : Chg S w w') (hs : ∀ g, v.ownBlock = some g → ¬ S g) : OwnF t8 w' base v bs := ⟨h.1.chg hc hs, fun g hg => by
  obtain ⟨arr, h1, h2⟩ := h.2 g hg
  exact ⟨arr, hc.blk h1 (hs g hg), h2⟩⟩
/-- its row, if it has one -/
theorem OwnF.row (h : OwnF t8 w base v bs) (h0 : 0 < bs.length) : ∃ g cap arr, v = .slice (some ⟨g, 0, none⟩) bs.length cap ∧ base ≤ g ∧ bs.length ≤ cap ∧ cap ≤ maxLen ∧ Blk w g arr t8 ∧ arr.size = cap ∧ Byt arr := by
  obtain ⟨⟨_, h2⟩, h3⟩ := h
  rcases h2 with ⟨_, h2⟩ | ⟨g, cap, cur, rfl, hg, hh, hnc, hcm, hcs, _⟩
  · omega
  · obtain ⟨arr, h4, h5⟩ := h3 g rfl
    have e : cur = arr := by
      have := (show Blk w g cur t8 from hh).symm.trans h4
      injection this with this
      injection this with this
    subst e
    exact ⟨g, cap, cur, rfl, hg, hnc, hcm, hh, by omega, h5⟩
end
section
variable {P : Program} {w : World} {ops : Array Oper} {rest : List Oper} {o : Oper} {a : Act} {Q : Exit → Act → World → Prop} {K : Act → World → Prop} {E0 : Prop}
theorem run_appF {t e : TypeId} (E : Elem P t e (.int .u8 0) 1) (ty : TypeId) {base : Nat} {v xv : Value} {bs news : List UInt8} (hown : OwnF e w base v bs) (hb : Bys w xv news) (hn : bs.length + news.length ≤ 140737488355328) (hbase : base ≤ w.heap.size) :
    ∃ v' w', (Builtin.append_ #[t, t] ty #[v, xv]).run P w = .ok v' w' ∧ OwnF e w' base v' (bs ++ news) ∧ w.grownBy w' v.ownBlock := by
  obtain ⟨i, hi, hz, hsz, hby⟩ := info_parts E.info
  obtain ⟨hown, hall⟩ := hown
  obtain ⟨ad, cap, rfl, hc1, hc2, hcell⟩ := hb
  cases ad with
  | none =>
    have hl : news = [] := by
      rcases Nat.eq_zero_or_pos news.length with h0 | h0
      · exact List.eq_nil_of_length_eq_zero h0
      · obtain ⟨b, off, e, _⟩ := hcell h0; cases e
    subst hl
    have hrun := run_append_none (P := P) (w := w) base t ty e i 1 cap E.under hi v bs.length (bV bs) hown
    refine ⟨v, w, hrun, by rw [List.append_nil]; exact ⟨hown, hall⟩, ⟨rfl, rfl, rfl, Nat.le_refl _, fun _ _ _ => rfl⟩⟩
  | some ad =>
    have hlen : (bV news).length = news.length * i.size := by rw [bV_len, hsz]; omega
    have hnews : ∀ j y, (bV news)[j]? = some y → w.cell? (ad.add j) = some y := fun j y hj => by
      rw [bV_get] at hj
      cases hu : news[j]? with
      | none => rw [hu] at hj; cases hj
      | some u =>
        rw [hu] at hj
        have hjl : j < news.length := by
          rcases Nat.lt_or_ge j news.length with h' | h'
          · exact h'
          · rw [List.getElem?_eq_none h'] at hu; cases hu
        obtain ⟨b, off, e, hc⟩ := hcell (by omega)
        cases e
        rw [show (⟨b, off, none⟩ : Addr).add j = ⟨b, off + j, none⟩ from by
          unfold Addr.add
          split
          · subst_vars; rfl
          · rfl]
        rw [hc j u hu]
        simpa using hj
    obtain ⟨v', w', hr, h2, h3, h4⟩ := run_append_own (P := P) w base t ty e i (.int .u8 0) i.size 1 E.under hi hz rfl hby (by rw [hsz]; rfl) (by rw [hsz]; decide) v bs.length (bV bs) (by rw [hsz]; exact hown) ad news.length cap (bV news) hlen hnews (bV_one _) (by unfold maxLen; omega) (by omega) hbase
    refine ⟨v', w', hr, ⟨by unfold OwnB; rw [List.length_append, bV_app]; rw [hsz] at h2; exact h2, fun g hg => ?_⟩, h3⟩
    obtain ⟨hl1, hown2⟩ := id hown
    rcases hown2 with ⟨rfl, hz0⟩ | ⟨g0, cap0, cur, rfl, hbg, hh, hnc, hcm, hcs, htake⟩
    · by_cases hm : news.length = 0
      · rw [h4.2 ⟨rfl, hm⟩] at hg; simp [Value.ownBlock] at hg
      · have hr2 := run_append_nil (P := P) w t ty e i (.int .u8 0) E.under hi hz ad news.length cap (bV news) hlen hnews (by omega) (by omega) (by rw [hby]; omega)
        have he := hr.symm.trans hr2
        injection he with e1 e2
        subst e1 e2
        simp only [Value.ownBlock, Option.some.injEq] at hg
        subst hg
        refine ⟨_, heap_alloc_new w.drew _, byt_mem.2 fun y hy => ?_⟩
        simp only [Array.toList_append, List.mem_append] at hy
        rcases hy with hy | hy
        · exact byt_bV _ y (by simpa using hy)
        · exact byt_zero _ y hy
    · obtain ⟨arr, h5, h6⟩ := hall g0 rfl
      have e : cur = arr := by
        have := (show Blk w g0 cur e from hh).symm.trans h5
        injection this with this
        injection this with this
      subst e
      have h6 := byt_mem.1 h6
      by_cases hroom : bs.length + news.length ≤ cap0
      · have hr2 := run_append_room (P := P) w t ty e i E.under hi g0 bs.length cap0 cur hh ad news.length cap (bV news) hlen hnews (bV_one _) hroom (by rw [hlen, hsz]; omega)
        have he := hr.symm.trans hr2
        injection he with e1 e2
        subst e1 e2
        simp only [Value.ownBlock, Option.some.injEq] at hg
        subst hg
        refine ⟨_, setRow_heap w g0 cur _ e _ hh, byt_mem.2 fun y hy => ?_⟩
        simp only [List.mem_append] at hy
        rcases hy with (hy | hy) | hy
        · exact h6 y (List.mem_of_mem_take hy)
        · exact byt_bV _ y hy
        · exact h6 y (List.mem_of_mem_drop hy)
      · have hr2 := run_append_grow (P := P) w t ty e i (.int .u8 0) E.under hi hz ⟨g0, 0, none⟩ bs.length cap0 (bV bs) (by rw [hl1, hsz]) (World.ownsRow.cells hown rfl) ad news.length cap (bV news) hlen hnews (by omega) (by omega) (growslice_fits (by omega) (by rw [hby]; omega))
        have he := hr.symm.trans hr2
        injection he with e1 e2
        subst e1 e2
        simp only [Value.ownBlock, Option.some.injEq] at hg
        subst hg
        refine ⟨_, heap_alloc_new w.drew _, byt_mem.2 fun y hy => ?_⟩
        simp only [Array.toList_append, List.mem_append] at hy
        rcases hy with (hy | hy) | hy
        · exact byt_bV _ y (by simpa using hy)
        · exact byt_bV _ y (by simpa using hy)
        · exact byt_zero _ y hy
theorem wpAppF {t e : TypeId} (E : Elem P t e (.int .u8 0) 1) (s x : Operand) (ho : o.op = .call { callee := .builtin .append, args := #[s, x], argTypes := #[t, t] })
    {base : Nat} {v xv : Value} {bs news : List UInt8} (hs : a.eval s = v) (hx : a.eval x = xv) (hown : OwnF e w base v bs) (hb : Bys w xv news) (hn : bs.length + news.length ≤ 140737488355328) (hbase : base ≤ w.heap.size)
    (h : ∀ v' w', OwnF e w' base v' (bs ++ news) ∧ w.grownBy w' v.ownBlock → K (a.put o.dst v') w') : o.wp P a w K Q := by
  obtain ⟨v', w', hr, h2, h3⟩ := run_appF E o.type hown hb hn hbase
  unfold Oper.wp execOp
  simp only [ho, resolve, invoke, builtin, Sem.run_bind, Sem.run_pure, Result.andThen_ok, List.map_toArray, List.map_cons, List.map_nil, hs, hx, hr]
  exact h v' w' ⟨h2, h3⟩
theorem appF {t e : TypeId} (E : Elem P t e (.int .u8 0) 1) (hgd : o.guard = none) (s x : Operand) (ho : o.op = .call { callee := .builtin .append, args := #[s, x], argTypes := #[t, t] })
    {base : Nat} {v xv : Value} {bs news : List UInt8} (hs : a.eval s = v) (hx : a.eval x = xv) (hown : OwnF e w base v bs) (hb : Bys w xv news) (hn : bs.length + news.length ≤ 140737488355328) (hbase : base ≤ w.heap.size)
    (h : ∀ v' w', OwnF e w' base v' (bs ++ news) → w.grownBy w' v.ownBlock → wpList P ops Q rest (a.put o.dst v') w') : wpList P ops Q (o :: rest) a w :=
  to_list hgd (fun _ hK => wpAppF E s x ho hs hx hown hb hn hbase hK) fun v' w' h2 => h v' w' h2.1 h2.2
theorem stepAppF {t e : TypeId} (E : Elem P t e (.int .u8 0) 1) (hgd : o.guard = none) (s x : Operand) (ho : o.op = .call { callee := .builtin .append, args := #[s, x], argTypes := #[t, t] })
    {base : Nat} {v xv : Value} {bs news : List UInt8} (hs : a.eval s = v) (hx : a.eval x = xv) (hown : OwnF e w base v bs) (hb : Bys w xv news) (hn : bs.length + news.length ≤ 140737488355328) (hbase : base ≤ w.heap.size)
    (h : ∀ v' w', OwnF e w' base v' (bs ++ news) → w.grownBy w' v.ownBlock → K (a.put o.dst v') w') : if Region.wanted o (yielded ops a.tmps) = true then Oper.wp P o a w K Q else E0 :=
  to_step hgd (fun _ hK => wpAppF E s x ho hs hx hown hb hn hbase hK) fun v' w' h2 => h v' w' h2.1 h2.2
end
end Go.Mem
