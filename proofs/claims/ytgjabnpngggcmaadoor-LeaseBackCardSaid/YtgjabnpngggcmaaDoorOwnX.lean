/- Rows of bytes that a call appends to, also those that were made of a string (whose place behind the row is marked). No program in sight. -/
import Derived.Test.YtgjabnpngggcmaaDoorOwnF
import Derived.Lib.FrozenHead
import Derived.Lib.ConvBytes
namespace Go.Mem
open Go Go.RowKit Gf
/-- v is a slice of just these bytes, its row the call's own; all that lies in the row are bytes, none of them frozen -/
def OwnX (t8 : TypeId) (w : World) (base : Nat) (v : Value) (bs : List UInt8) : Prop :=
  (v = .slice none 0 0 ∧ bs = []) ∨ ∃ g cap arr fz, v = .slice (some ⟨g, 0, none⟩) bs.length cap ∧ base ≤ g ∧ w.heap[g]? = some (.cells arr t8 fz) ∧ (fz = (0, 0) ∨ arr.size ≤ fz.1) ∧ bs.length ≤ cap ∧ cap ≤ maxLen ∧ arr.size = cap ∧
    (∀ (i : Nat) (u : UInt8), bs[i]? = some u → arr[i]? = some (Value.int .u8 ((u.toNat : Nat) : Int))) ∧ Byt arr
section
variable {t8 : TypeId} {w w' : World} {base : Nat} {v : Value} {bs : List UInt8}
theorem OwnX.nil (t8 : TypeId) (w : World) (base : Nat) : OwnX t8 w base (.slice none 0 0) [] := .inl ⟨rfl, rfl⟩
theorem OwnX.eq_slice (h : OwnX t8 w base v bs) : ∃ a cap, v = .slice a bs.length cap := by
  rcases h with ⟨rfl, rfl⟩ | ⟨g, cap, _, _, rfl, _⟩
  · exact ⟨_, _, rfl⟩
  · exact ⟨_, _, rfl⟩
theorem OwnX.bys (h : OwnX t8 w base v bs) : Bys w v bs := by
  rcases h with ⟨rfl, rfl⟩ | ⟨g, cap, arr, fz, rfl, _, hg, _, h1, h2, _, h3, _⟩
  · exact Bys.nil w
  · refine ⟨_, cap, rfl, h1, h2, fun _ => ⟨g, 0, rfl, fun i u hi => ?_⟩⟩
    rw [Nat.zero_add]
    have := h3 i u hi
    simp [World.cell?, hg, this]
theorem OwnX.lt (h : OwnX t8 w base v bs) : ∀ k, v.ownBlock = some k → base ≤ k ∧ k < w.heap.size := by
  rcases h with ⟨rfl, rfl⟩ | ⟨g, cap, arr, fz, rfl, hb, hg, _⟩
  · intro k hk; simp [Value.ownBlock] at hk
  · intro k hk; simp [Value.ownBlock] at hk; subst hk; exact ⟨hb, lt_of_block hg⟩
theorem OwnX.drewN (h : OwnX t8 w base v bs) (n : Nat) : OwnX t8 (w.drewN n) base v bs := h
theorem OwnX.drew (h : OwnX t8 w base v bs) : OwnX t8 w.drew base v bs := h
theorem OwnX.mono (h : OwnX t8 w base v bs) {base' : Nat} (hb : base' ≤ base) : OwnX t8 w base' v bs := by
  rcases h with h | ⟨g, cap, arr, fz, h1, h2, r⟩
  · exact .inl h
  · exact .inr ⟨g, cap, arr, fz, h1, Nat.le_trans hb h2, r⟩
theorem OwnX.kept (h : OwnX t8 w base v bs) (hk : ∀ g, v.ownBlock = some g → w'.heap[g]? = w.heap[g]?) : OwnX t8 w' base v bs := by
  rcases h with h | ⟨g, cap, arr, fz, rfl, h2, h3, r⟩
  · exact .inl h
  · exact .inr ⟨g, cap, arr, fz, rfl, h2, by rw [hk g rfl]; exact h3, r⟩
theorem OwnX.below (h : OwnX t8 w base v bs) (hb : Below w.heap.size w w') : OwnX t8 w' base v bs := h.kept fun g hg => hb.block g (h.lt g hg).2
theorem OwnX.chg {S : Nat → Prop} (h : OwnX t8 w base v bs) (hc : Chg S w w') (hs : ∀ g, v.ownBlock = some g → ¬ S g) : OwnX t8 w' base v bs := h.kept fun g hg => hc.block g (h.lt g hg).2 (hs g hg)
theorem OwnX.alloc (h : OwnX t8 w base v bs) (o : Obj) : OwnX t8 (w.alloc o) base v bs := h.below ((Below.refl _ _).alloc (Nat.le_refl _) _)
theorem OwnF.x (h : OwnF t8 w base v bs) : OwnX t8 w base v bs := by
  obtain ⟨⟨h1, h2⟩, h3⟩ := h
  rcases h2 with ⟨rfl, h0⟩ | ⟨g, cap, cur, rfl, hb, hg, hnc, hcm, hcs, htake⟩
  · exact .inl ⟨rfl, List.eq_nil_of_length_eq_zero h0⟩
  · obtain ⟨arr, h4, h5⟩ := h3 g rfl
    have e : cur = arr := by
      have := (show Blk w g cur t8 from hg).symm.trans h4
      injection this with this
      injection this with this
    subst e
    refine .inr ⟨g, cap, cur, (0, 0), rfl, hb, hg, .inl rfl, hnc, hcm, by omega, fun i u hi => ?_, h5⟩
    have hil : i < bs.length := by
      rcases Nat.lt_or_ge i bs.length with h | h
      · exact h
      · rw [List.getElem?_eq_none h] at hi; cases hi
    have : (bV bs)[i]? = some (.int .u8 ((u.toNat : Nat) : Int)) := by rw [bV_get, hi]; rfl
    rw [← htake, List.getElem?_take, if_pos (by omega)] at this
    simpa using this
theorem blk_ownX {b cap : Nat} {arr : Array Value} (h : Blk w b arr t8) (hb : base ≤ b) (hl : bs.length ≤ cap) (hm : cap ≤ maxLen) (hs : arr.size = cap) (hc : ∀ (i : Nat) (u : UInt8), bs[i]? = some u → arr[i]? = some (Value.int .u8 ((u.toNat : Nat) : Int))) (hy : Byt arr) :
    OwnX t8 w base (.slice (some ⟨b, 0, none⟩) bs.length cap) bs := .inr ⟨b, cap, arr, (0, 0), rfl, hb, h, .inl rfl, hl, hm, hs, hc, hy⟩
/-- bytes made of a string -/
theorem conv_ownX (w : World) (e : TypeId) (s : ByteArray) (hs : s.size ≤ maxLen) : OwnX e (Lib.bytesWorld w e s) w.heap.size (.slice (some ⟨w.heap.size, 0, none⟩) s.size (grownCap w s.size 0 e)) s.data.toList ∧ Below w.heap.size w (Lib.bytesWorld w e s) := by
  have hge := grownCap_ge w s.size 0 e
  have hsz : (Lib.bytesCells w e s).size = grownCap w s.size 0 e := by
    simp only [Lib.bytesCells, Array.size_append, Array.size_map, Array.size_replicate]
    show s.size + _ = _
    omega
  refine ⟨.inr ⟨_, _, _, _, rfl, Nat.le_refl _, Lib.bytesWorld_at_new w e s, .inr (Nat.le_refl _), hge, grownCap_le_maxLen w s.size 0 e hs, hsz, fun i u hi => ?_, ?_⟩, ?_⟩
  · unfold Lib.bytesCells
    have hil : i < s.data.size := by
      rcases Nat.lt_or_ge i s.data.size with h | h
      · exact h
      · rw [List.getElem?_eq_none (by simpa using h)] at hi; cases hi
    rw [Array.getElem?_append_left (by simpa using hil)]
    simp at hi ⊢
    exact ⟨u, hi, rfl⟩
  · refine byt_mem.2 fun y hy => ?_
    simp only [Lib.bytesCells, Array.toList_append, Array.toList_map, List.mem_append, List.mem_map, Array.toList_replicate, List.mem_replicate] at hy
    rcases hy with ⟨x, _, rfl⟩ | ⟨_, rfl⟩
    · exact ⟨x, rfl⟩
    · exact ⟨0, rfl⟩
  · exact ⟨by simp [Lib.bytesWorld, World.freeze, World.alloc, World.drew, -World.alloc_eq, -World.drew_eq], by simp [Lib.bytesWorld, World.freeze, World.alloc, World.drew, -World.alloc_eq, -World.drew_eq], by simp [Lib.bytesWorld, World.freeze, World.alloc, World.drew, -World.alloc_eq, -World.drew_eq], by rw [Lib.bytesWorld_size]; omega, fun k hk => Lib.bytesWorld_at_old w e s k hk⟩
end
/-- a row's cells are written, none of which is frozen -/
theorem run_storeCells_atX (P : Program) (g o : Nat) (t : TypeId) (fz : Nat × Nat) : ∀ (vs : List Value) (i : Nat) (cur : Array Value) (w : World), w.heap[g]? = some (.cells cur t fz) → (fz = (0, 0) ∨ cur.size ≤ fz.1) → o + i + vs.length ≤ cur.size → (∀ v ∈ vs, v.oneCell' = true) →
    (storeCells ⟨g, o, none⟩ vs i).run P w = .ok () (w.setRow g (cur.toList.take (o + i) ++ vs ++ cur.toList.drop (o + i + vs.length)).toArray)
  | [], i, cur, w, hg, _, _, _ => by
    simp only [storeCells, List.append_nil, List.length_nil, Nat.add_zero, List.take_append_drop, Array.toArray_toList]
    rw [setRow_self w g cur t fz hg]
    rfl
  | v :: rest, i, cur, w, hg, hfz, hl, h1 => by
    have hi : o + i < cur.size := by simp at hl; omega
    have hadd : (⟨g, o, none⟩ : Addr).add i = ⟨g, o + i, none⟩ := by unfold Addr.add; split <;> simp_all
    have hcell : w.cell? ⟨g, o + i, none⟩ = some cur[o + i] := by simp [World.cell?, hg, hi]
    have hfro : w.frozen? ⟨g, o + i, none⟩ = false := by
      obtain ⟨lo, hi'⟩ := fz
      simp only [World.frozen?, hg, Bool.and_eq_false_iff, decide_eq_false_iff_not]
      rcases hfz with hfz | hfz
      · right; cases hfz; omega
      · left; simp only at hfz; omega
    have hst : (store ((⟨g, o, none⟩ : Addr).add i) v).run P w = .ok () (w.setRow g (cur.setIfInBounds (o + i) v)) := by
      rw [hadd, run_store P w _ v _ (h1 v (by simp)), hcell]
      simp [hfro, setCell_eq_setRow w g (o + i) cur t fz v hg]
    have ih := run_storeCells_atX P g o t fz rest (i + 1) (cur.setIfInBounds (o + i) v) (w.setRow g (cur.setIfInBounds (o + i) v)) (setRow_heap w g cur _ t _ hg) (by rw [Array.size_setIfInBounds]; exact hfz) (by simp at hl ⊢; omega) (fun x hx => h1 x (by simp [hx]))
    simp only [storeCells, Sem.run_bind, hst, Result.andThen_ok, ih, setRow_setRow]
    congr 3
    have e := list_seg_step cur.toList (o + i) v rest (by simp at hl ⊢; omega)
    simpa [Array.toList_setIfInBounds, Nat.add_assoc] using e
section
variable {P : Program} {w : World} {ops : Array Oper} {rest : List Oper} {o : Oper} {a : Act} {Q : Exit → Act → World → Prop} {K : Act → World → Prop} {E0 : Prop}
theorem run_append_roomX (t ty e : TypeId) (i : TypeInfo) (ht : P.underlying t = some (.slice e)) (hi : P.info? e = some i) (hs1 : i.size = 1)
    (g sLen sCap : Nat) (cur : Array Value) (fz : Nat × Nat) (hg : w.heap[g]? = some (.cells cur e fz)) (hfz : fz = (0, 0) ∨ cur.size ≤ fz.1)
    (ad : Addr) (m c : Nat) (news : List Value) (hl : news.length = m) (hnews : ∀ j u, news[j]? = some u → w.cell? (ad.add j) = some u) (h1 : ∀ u ∈ news, u.oneCell' = true)
    (hroom : sLen + m ≤ sCap) (hfit : sLen + news.length ≤ cur.size) :
    (Builtin.append_ #[t, t] ty #[.slice (some ⟨g, 0, none⟩) sLen sCap, .slice (some ad) m c]).run P w =
      .ok (.slice (some ⟨g, 0, none⟩) (sLen + m) sCap) (w.setRow g (cur.toList.take sLen ++ news ++ cur.toList.drop (sLen + news.length)).toArray) := by
  have hf := run_firstCells_some (P := P) w i.size m ad m c news (by rw [hs1]; omega) hnews
  have hst := run_storeCells_atX P g (sLen * i.size) e fz news 0 cur w hg hfz (by rw [hs1]; simpa using hfit) h1
  simp only [Nat.add_zero, hs1, Nat.mul_one] at hst hf
  simp [Builtin.append_, run_underlying ht, sizeOf, typeInfo, hi, Builtin.lenOf, hroom, hf, Addr.add_lit, hst, hs1]
theorem run_appX {t e : TypeId} (E : Elem P t e (.int .u8 0) 1) (ty : TypeId) {base : Nat} {v xv : Value} {bs news : List UInt8} (hown : OwnX e w base v bs) (hb : Bys w xv news) (hn : bs.length + news.length ≤ 140737488355328) (hbase : base ≤ w.heap.size) :
    ∃ v' w', (Builtin.append_ #[t, t] ty #[v, xv]).run P w = .ok v' w' ∧ OwnX e w' base v' (bs ++ news) ∧ w.grownBy w' v.ownBlock := by
  obtain ⟨i, hi, hz, hsz, hby⟩ := info_parts E.info
  rcases hown with ⟨rfl, rfl⟩ | ⟨g, cap, arr, fz, rfl, hbg, hg, hfz, hnc, hcm, hcs, hcells, hbyt⟩
  · obtain ⟨v', w', h1, h2, h3⟩ := run_appF E ty (OwnF.nil e w base) hb hn hbase
    exact ⟨v', w', h1, h2.x, h3⟩
  · obtain ⟨ad, xcap, rfl, hc1, hc2, hcell⟩ := hb
    have holds : ∀ j u, (bV bs)[j]? = some u → w.cell? ((⟨g, 0, none⟩ : Addr).add j) = some u := fun j u hj => by
      rw [bV_get] at hj
      cases hu : bs[j]? with
      | none => rw [hu] at hj; cases hj
      | some x =>
        rw [hu] at hj
        have := hcells j x hu
        rw [show (⟨g, 0, none⟩ : Addr).add j = ⟨g, j, none⟩ from by unfold Addr.add; split <;> simp_all]
        simp at hj
        subst hj
        simp [World.cell?, hg, this]
    cases ad with
    | none =>
      have hl : news = [] := by
        rcases Nat.eq_zero_or_pos news.length with h0 | h0
        · exact List.eq_nil_of_length_eq_zero h0
        · obtain ⟨b, off, e, _⟩ := hcell h0; cases e
      subst hl
      refine ⟨_, w, ?_, by rw [List.append_nil]; exact .inr ⟨g, cap, arr, fz, rfl, hbg, hg, hfz, hnc, hcm, hcs, hcells, hbyt⟩, ⟨rfl, rfl, rfl, Nat.le_refl _, fun _ _ _ => rfl⟩⟩
      simp [Builtin.append_, run_underlying E.under, sizeOf, typeInfo, hi, Builtin.lenOf, Builtin.firstCells, hnc, storeCells]
    | some ad =>
      have hlen : (bV news).length = news.length * i.size := by rw [bV_len, hsz]; omega
      have hnews : ∀ j y, (bV news)[j]? = some y → w.cell? (ad.add j) = some y := fun j y hj => by
        rw [bV_get] at hj
        cases hu : news[j]? with
        | none => rw [hu] at hj; cases hj
        | some u =>
          rw [hu] at hj
          have hjl : j < news.length := by
            rcases Nat.lt_or_ge j news.length with h' | h'
            · exact h'
            · rw [List.getElem?_eq_none h'] at hu; cases hu
          obtain ⟨b, off, e, hc⟩ := hcell (by omega)
          cases e
          rw [show (⟨b, off, none⟩ : Addr).add j = ⟨b, off + j, none⟩ from by
            unfold Addr.add
            split
            · subst_vars; rfl
            · rfl]
          rw [hc j u hu]
          simpa using hj
      by_cases hroom : bs.length + news.length ≤ cap
      · have hr := run_append_roomX (P := P) (w := w) t ty e i E.under hi hsz g bs.length cap arr fz hg hfz ad news.length xcap (bV news) (bV_len _) hnews (bV_one _) hroom (by rw [bV_len]; omega)
        refine ⟨_, _, hr, .inr ⟨g, cap, _, fz, by rw [List.length_append], hbg, setRow_heap w g arr _ e _ hg, ?_, by rw [List.length_append]; exact hroom, hcm, ?_, fun j u hj => ?_, byt_mem.2 fun y hy => ?_⟩, ⟨rfl, rfl, rfl, by simp, fun k _ hk => setRow_other w g k _ (fun e => hk (by simp [Value.ownBlock, e]))⟩⟩
        · rcases hfz with h | h
          · exact .inl h
          · refine .inr ?_
            simp only [List.size_toArray, List.length_append, List.length_take, List.length_drop, Array.length_toList, bV_len]
            omega
        · simp only [List.size_toArray, List.length_append, List.length_take, List.length_drop, Array.length_toList, bV_len]
          omega
        · rw [List.getElem?_toArray]
          by_cases hjb : j < bs.length
          · rw [List.getElem?_append_left hjb] at hj
            rw [List.append_assoc, List.getElem?_append_left (by simp; omega), List.getElem?_take, if_pos hjb]
            simpa using hcells j u hj
          · rw [List.getElem?_append_right (by omega)] at hj
            have hjn : j - bs.length < news.length := by
              rcases Nat.lt_or_ge (j - bs.length) news.length with h' | h'
              · exact h'
              · rw [List.getElem?_eq_none h'] at hj; cases hj
            have htl : (arr.toList.take bs.length).length = bs.length := by simp; omega
            rw [List.append_assoc, List.getElem?_append_right (by rw [htl]; omega), htl, List.getElem?_append_left (by rw [bV_len]; exact hjn), bV_get, hj]
            rfl
        · have h6 := byt_mem.1 hbyt
          simp only [List.mem_append] at hy
          rcases hy with (hy | hy) | hy
          · exact h6 y (List.mem_of_mem_take hy)
          · exact byt_bV _ y hy
          · exact h6 y (List.mem_of_mem_drop hy)
      · have hr := run_append_grow (P := P) w t ty e i (.int .u8 0) E.under hi hz ⟨g, 0, none⟩ bs.length cap (bV bs) (by rw [bV_len, hsz]; omega) holds ad news.length xcap (bV news) hlen hnews (by omega) (by omega) (growslice_fits (by omega) (by rw [hby]; omega))
        have hge := grownCap_ge w (bs.length + news.length) cap e
        have hcm2 : grownCap w (bs.length + news.length) cap e ≤ maxLen := grownCap_le_maxLen w (bs.length + news.length) cap e (by unfold maxLen; omega)
        refine ⟨_, _, hr, .inr ⟨w.heap.size, _, _, (0, 0), by rw [List.length_append], hbase, heap_alloc_new w.drew _, .inl rfl, by rw [List.length_append]; exact hge, hcm2, ?_, fun j u hj => ?_, byt_mem.2 fun y hy => ?_⟩, ⟨rfl, rfl, rfl, by simp, fun k hk _ => heap_alloc_old w.drew _ hk⟩⟩
        · simp only [Array.size_append, List.size_toArray, size_zeroCells, bV_len]
          rw [show (Value.cells (.int .u8 0)).size = 1 from rfl]
          omega
        · have : ((bV bs ++ bV news))[j]? = some (.int .u8 ((u.toNat : Nat) : Int)) := by rw [← bV_app, bV_get, hj]; rfl
          have hjl : j < (bV bs ++ bV news).length := by
            rcases Nat.lt_or_ge j (bV bs ++ bV news).length with h' | h'
            · exact h'
            · rw [List.getElem?_eq_none h'] at this; cases this
          rw [Array.getElem?_append_left (by simpa using hjl)]
          simpa using this
        · simp only [Array.toList_append, List.mem_append] at hy
          rcases hy with (hy | hy) | hy
          · exact byt_bV _ y (by simpa using hy)
          · exact byt_bV _ y (by simpa using hy)
          · exact byt_zero _ y hy
theorem wpAppX {t e : TypeId} (E : Elem P t e (.int .u8 0) 1) (s x : Operand) (ho : o.op = .call { callee := .builtin .append, args := #[s, x], argTypes := #[t, t] })
    {base : Nat} {v xv : Value} {bs news : List UInt8} (hs : a.eval s = v) (hx : a.eval x = xv) (hown : OwnX e w base v bs) (hb : Bys w xv news) (hn : bs.length + news.length ≤ 140737488355328) (hbase : base ≤ w.heap.size)
    (h : ∀ v' w', OwnX e w' base v' (bs ++ news) ∧ w.grownBy w' v.ownBlock → K (a.put o.dst v') w') : o.wp P a w K Q := by
  obtain ⟨v', w', hr, h2, h3⟩ := run_appX E o.type hown hb hn hbase
  unfold Oper.wp execOp
  simp only [ho, resolve, invoke, builtin, Sem.run_bind, Sem.run_pure, Result.andThen_ok, List.map_toArray, List.map_cons, List.map_nil, hs, hx, hr]
  exact h v' w' ⟨h2, h3⟩
theorem appX {t e : TypeId} (E : Elem P t e (.int .u8 0) 1) (hgd : o.guard = none) (s x : Operand) (ho : o.op = .call { callee := .builtin .append, args := #[s, x], argTypes := #[t, t] })
    {base : Nat} {v xv : Value} {bs news : List UInt8} (hs : a.eval s = v) (hx : a.eval x = xv) (hown : OwnX e w base v bs) (hb : Bys w xv news) (hn : bs.length + news.length ≤ 140737488355328) (hbase : base ≤ w.heap.size)
    (h : ∀ v' w', OwnX e w' base v' (bs ++ news) → w.grownBy w' v.ownBlock → wpList P ops Q rest (a.put o.dst v') w') : wpList P ops Q (o :: rest) a w :=
  to_list hgd (fun _ hK => wpAppX E s x ho hs hx hown hb hn hbase hK) fun v' w' h2 => h v' w' h2.1 h2.2
theorem stepAppX {t e : TypeId} (E : Elem P t e (.int .u8 0) 1) (hgd : o.guard = none) (s x : Operand) (ho : o.op = .call { callee := .builtin .append, args := #[s, x], argTypes := #[t, t] })
    {base : Nat} {v xv : Value} {bs news : List UInt8} (hs : a.eval s = v) (hx : a.eval x = xv) (hown : OwnX e w base v bs) (hb : Bys w xv news) (hn : bs.length + news.length ≤ 140737488355328) (hbase : base ≤ w.heap.size)
    (h : ∀ v' w', OwnX e w' base v' (bs ++ news) → w.grownBy w' v.ownBlock → K (a.put o.dst v') w') : if Region.wanted o (yielded ops a.tmps) = true then Oper.wp P o a w K Q else E0 :=
  to_step hgd (fun _ hK => wpAppX E s x ho hs hx hown hb hn hbase hK) fun v' w' h2 => h v' w' h2.1 h2.2
/-- what was there is as it was, if the row that is appended to is new -/
theorem grown_below {w0 w' : World} {row : Option Nat} (hb : Below w0.heap.size w0 w) (h : w.grownBy w' row) (hr : ∀ k, row = some k → w0.heap.size ≤ k) : Below w0.heap.size w0 w' :=
  ⟨h.os.trans hb.os, h.tape.trans hb.tape, h.output.trans hb.output, Nat.le_trans hb.size h.size, fun k hk => (h.block k (Nat.lt_of_lt_of_le hk hb.size) fun e => by have := hr k e.symm; omega).trans (hb.block k hk)⟩
end
end Go.Mem
