/- Texts of this proof, packed: OwnF, Disk2, DiskLaw, DiskRef, AppCells, DiskClone, DiskAny, StoreMath, OwnX. -/
import Derived.Test.YtbbojbdigiibbaaGreatDoorPk00
import Derived.Lib.FrozenHead
import Derived.Lib.ConvBytes
section
namespace Go.Mem
open Go Go.RowKit Gf
def Byt (arr : Array Value) : Prop := ∀ j, j < arr.size → ∃ u : UInt8, arr[j]? = some (.int .u8 (u.toNat : Int))
theorem byt_row (m : Nat) (f : Nat → UInt8) : Byt (rowArr m f) := fun j hj => ⟨f j, rowArr_get _ _ _ (by rwa [rowArr_size] at hj)⟩
theorem byt_mem {arr : Array Value} : Byt arr ↔ ∀ v ∈ arr.toList, ∃ u : UInt8, v = .int .u8 (u.toNat : Int) := by
  constructor
  · intro h v hv
    obtain ⟨j, hj, rfl⟩ := List.mem_iff_getElem.1 hv
    have hj' : j < arr.size := by simpa using hj
    obtain ⟨u, hu⟩ := h j hj'
    refine ⟨u, ?_⟩
    rw [Array.getElem?_eq_getElem hj'] at hu
    simpa using hu
  · intro h j hj
    obtain ⟨u, hu⟩ := h arr[j] (by simp)
    exact ⟨u, by rw [Array.getElem?_eq_getElem hj, hu]⟩
theorem byt_bV (bs : List UInt8) : ∀ v ∈ bV bs, ∃ u : UInt8, v = .int .u8 (u.toNat : Int) := fun v hv => by
  simp only [bV, List.mem_map] at hv
  obtain ⟨x, _, rfl⟩ := hv
  exact ⟨x, rfl⟩
theorem byt_zero (k : Nat) : ∀ v ∈ (Builtin.zeroCells #[.int .u8 0] k).toList, ∃ u : UInt8, v = .int .u8 (u.toNat : Int) := fun v hv => by
  simp only [Builtin.zeroCells, Array.toList_map, List.mem_map] at hv
  obtain ⟨x, _, rfl⟩ := hv
  exact ⟨0, by simp [Nat.mod_one]⟩
def OwnF (t8 : TypeId) (w : World) (base : Nat) (v : Value) (bs : List UInt8) : Prop :=
  OwnB t8 w base v bs ∧ ∀ g, v.ownBlock = some g → ∃ arr, Blk w g arr t8 ∧ Byt arr
section
variable {t8 : TypeId} {w w' : World} {base : Nat} {v : Value} {bs : List UInt8}
theorem OwnF.nil (t8 : TypeId) (w : World) (base : Nat) : OwnF t8 w base (.slice none 0 0) [] := ⟨OwnB.nil _ _ _, fun g h => by simp [Value.ownBlock] at h⟩
theorem OwnF.own (h : OwnF t8 w base v bs) : OwnB t8 w base v bs := h.1
theorem OwnF.bys (h : OwnF t8 w base v bs) : Bys w v bs := h.1.bys
theorem OwnF.mono (h : OwnF t8 w base v bs) {base' : Nat} (hb : base' ≤ base) : OwnF t8 w base' v bs := ⟨h.1.mono hb, h.2⟩
theorem OwnB.chg {S : Nat → Prop} (h : OwnB t8 w base v bs) (hc : Chg S w w') (hs : ∀ g, v.ownBlock = some g → ¬ S g) : OwnB t8 w' base v bs := by
  obtain ⟨h1, h2⟩ := h
  refine ⟨h1, ?_⟩
  rcases h2 with h2 | ⟨g, cap, cur, rfl, hg, hh, r⟩
  · exact .inl h2
  · exact .inr ⟨g, cap, cur, rfl, hg, hc.blk hh (hs g rfl), r⟩
theorem OwnF.chg {S : Nat → Prop} (h : OwnF t8 w base v bs) (hc : Chg S w w') (hs : ∀ g, v.ownBlock = some g → ¬ S g) : OwnF t8 w' base v bs := ⟨h.1.chg hc hs, fun g hg => by
  obtain ⟨arr, h1, h2⟩ := h.2 g hg
  exact ⟨arr, hc.blk h1 (hs g hg), h2⟩⟩
end
section
variable {P : Program} {w : World} {ops : Array Oper} {rest : List Oper} {o : Oper} {a : Act} {Q : Exit → Act → World → Prop} {K : Act → World → Prop} {E0 : Prop}
theorem run_appF {t e : TypeId} (E : Elem P t e (.int .u8 0) 1) (ty : TypeId) {base : Nat} {v xv : Value} {bs news : List UInt8} (hown : OwnF e w base v bs) (hb : Bys w xv news) (hn : bs.length + news.length ≤ 140737488355328) (hbase : base ≤ w.heap.size) :
    ∃ v' w', (Builtin.append_ #[t, t] ty #[v, xv]).run P w = .ok v' w' ∧ OwnF e w' base v' (bs ++ news) ∧ w.grownBy w' v.ownBlock := by
  obtain ⟨i, hi, hz, hsz, hby⟩ := info_parts E.info
  obtain ⟨hown, hall⟩ := hown
  obtain ⟨ad, cap, rfl, hc1, hc2, hcell⟩ := hb
  cases ad with
  | none =>
    have hl : news = [] := by
      rcases Nat.eq_zero_or_pos news.length with h0 | h0
      · exact List.eq_nil_of_length_eq_zero h0
      · obtain ⟨b, off, e, _⟩ := hcell h0; cases e
    subst hl
    have hrun := run_append_none (P := P) (w := w) base t ty e i 1 cap E.under hi v bs.length (bV bs) hown
    refine ⟨v, w, hrun, by rw [List.append_nil]; exact ⟨hown, hall⟩, ⟨rfl, rfl, rfl, Nat.le_refl _, fun _ _ _ => rfl⟩⟩
  | some ad =>
    have hlen : (bV news).length = news.length * i.size := by rw [bV_len, hsz]; omega
    have hnews : ∀ j y, (bV news)[j]? = some y → w.cell? (ad.add j) = some y := fun j y hj => by
      rw [bV_get] at hj
      cases hu : news[j]? with
      | none => rw [hu] at hj; cases hj
      | some u =>
        rw [hu] at hj
        have hjl : j < news.length := by
          rcases Nat.lt_or_ge j news.length with h' | h'
          · exact h'
          · rw [List.getElem?_eq_none h'] at hu; cases hu
        obtain ⟨b, off, e, hc⟩ := hcell (by omega)
        cases e
        rw [show (⟨b, off, none⟩ : Addr).add j = ⟨b, off + j, none⟩ from by
          unfold Addr.add
          split
          · subst_vars; rfl
          · rfl]
        rw [hc j u hu]
        simpa using hj
    obtain ⟨v', w', hr, h2, h3, h4⟩ := run_append_own (P := P) w base t ty e i (.int .u8 0) i.size 1 E.under hi hz rfl hby (by rw [hsz]; rfl) (by rw [hsz]; decide) v bs.length (bV bs) (by rw [hsz]; exact hown) ad news.length cap (bV news) hlen hnews (bV_one _) (by unfold maxLen; omega) (by omega) hbase
    refine ⟨v', w', hr, ⟨by unfold OwnB; rw [List.length_append, bV_app]; rw [hsz] at h2; exact h2, fun g hg => ?_⟩, h3⟩
    obtain ⟨hl1, hown2⟩ := id hown
    rcases hown2 with ⟨rfl, hz0⟩ | ⟨g0, cap0, cur, rfl, hbg, hh, hnc, hcm, hcs, htake⟩
    · by_cases hm : news.length = 0
      · rw [h4.2 ⟨rfl, hm⟩] at hg; simp [Value.ownBlock] at hg
      · have hr2 := run_append_nil (P := P) w t ty e i (.int .u8 0) E.under hi hz ad news.length cap (bV news) hlen hnews (by omega) (by omega) (by rw [hby]; omega)
        have he := hr.symm.trans hr2
        injection he with e1 e2
        subst e1 e2
        simp only [Value.ownBlock, Option.some.injEq] at hg
        subst hg
        refine ⟨_, heap_alloc_new w.drew _, byt_mem.2 fun y hy => ?_⟩
        simp only [Array.toList_append, List.mem_append] at hy
        rcases hy with hy | hy
        · exact byt_bV _ y (by simpa using hy)
        · exact byt_zero _ y hy
    · obtain ⟨arr, h5, h6⟩ := hall g0 rfl
      have e : cur = arr := by
        have := (show Blk w g0 cur e from hh).symm.trans h5
        injection this with this
        injection this with this
      subst e
      have h6 := byt_mem.1 h6
      by_cases hroom : bs.length + news.length ≤ cap0
      · have hr2 := run_append_room (P := P) w t ty e i E.under hi g0 bs.length cap0 cur hh ad news.length cap (bV news) hlen hnews (bV_one _) hroom (by rw [hlen, hsz]; omega)
        have he := hr.symm.trans hr2
        injection he with e1 e2
        subst e1 e2
        simp only [Value.ownBlock, Option.some.injEq] at hg
        subst hg
        refine ⟨_, setRow_heap w g0 cur _ e _ hh, byt_mem.2 fun y hy => ?_⟩
        simp only [List.mem_append] at hy
        rcases hy with (hy | hy) | hy
        · exact h6 y (List.mem_of_mem_take hy)
        · exact byt_bV _ y hy
        · exact h6 y (List.mem_of_mem_drop hy)
      · have hr2 := run_append_grow (P := P) w t ty e i (.int .u8 0) E.under hi hz ⟨g0, 0, none⟩ bs.length cap0 (bV bs) (by rw [hl1, hsz]) (World.ownsRow.cells hown rfl) ad news.length cap (bV news) hlen hnews (by omega) (by omega) (growslice_fits (by omega) (by rw [hby]; omega))
        have he := hr.symm.trans hr2
        injection he with e1 e2
        subst e1 e2
        simp only [Value.ownBlock, Option.some.injEq] at hg
        subst hg
        refine ⟨_, heap_alloc_new w.drew _, byt_mem.2 fun y hy => ?_⟩
        simp only [Array.toList_append, List.mem_append] at hy
        rcases hy with (hy | hy) | hy
        · exact byt_bV _ y (by simpa using hy)
        · exact byt_bV _ y (by simpa using hy)
        · exact byt_zero _ y hy
theorem wpAppF {t e : TypeId} (E : Elem P t e (.int .u8 0) 1) (s x : Operand) (ho : o.op = .call { callee := .builtin .append, args := #[s, x], argTypes := #[t, t] })
    {base : Nat} {v xv : Value} {bs news : List UInt8} (hs : a.eval s = v) (hx : a.eval x = xv) (hown : OwnF e w base v bs) (hb : Bys w xv news) (hn : bs.length + news.length ≤ 140737488355328) (hbase : base ≤ w.heap.size)
    (h : ∀ v' w', OwnF e w' base v' (bs ++ news) ∧ w.grownBy w' v.ownBlock → K (a.put o.dst v') w') : o.wp P a w K Q := by
  obtain ⟨v', w', hr, h2, h3⟩ := run_appF E o.type hown hb hn hbase
  unfold Oper.wp execOp
  simp only [ho, resolve, invoke, builtin, Sem.run_bind, Sem.run_pure, Result.andThen_ok, List.map_toArray, List.map_cons, List.map_nil, hs, hx, hr]
  exact h v' w' ⟨h2, h3⟩
theorem appF {t e : TypeId} (E : Elem P t e (.int .u8 0) 1) (hgd : o.guard = none) (s x : Operand) (ho : o.op = .call { callee := .builtin .append, args := #[s, x], argTypes := #[t, t] })
    {base : Nat} {v xv : Value} {bs news : List UInt8} (hs : a.eval s = v) (hx : a.eval x = xv) (hown : OwnF e w base v bs) (hb : Bys w xv news) (hn : bs.length + news.length ≤ 140737488355328) (hbase : base ≤ w.heap.size)
    (h : ∀ v' w', OwnF e w' base v' (bs ++ news) → w.grownBy w' v.ownBlock → wpList P ops Q rest (a.put o.dst v') w') : wpList P ops Q (o :: rest) a w :=
  to_list hgd (fun _ hK => wpAppF E s x ho hs hx hown hb hn hbase hK) fun v' w' h2 => h v' w' h2.1 h2.2
end
end Go.Mem
end
section
namespace Go.Proofs.YtbbojbdigiibbaaGreatDoor
open Go Go.RowKit Go.Mem Gf
attribute [local go_sem ↓] Go.wp_at_zero Go.wp_at_succ
theorem E8 : Elem Tryz.prog 51 5 (.int .u8 0) 1 := ⟨Tryz.underlying51, by kernel_rfl, rfl⟩
theorem DiskS.may_yes {s : DiskS} {i : Nat} (h : i < s.n) : s.may (i : Int) = true := by simp [DiskS.may, h]
theorem DiskS.may_no {s : DiskS} {i : Int} (h : i < 0 ∨ (s.n : Int) ≤ i) : s.may i = false := by simp [DiskS.may]; omega
set_option maxRecDepth 100000 in
set_option maxHeartbeats 1000000 in
theorem dread_bad (d L : Nat) (s : DiskS) (i : Int) (w : World) (h : IsDisk w d L s) (hi : i < 0 ∨ (s.n : Int) ≤ i) :
    Calls Tryz.prog 135 #[.pointer (some ⟨d, 0, none⟩), .int .i64 i] w fun e w' => e = .returned (.tuple #[.slice none 0 0, .int .i64 1]) ∧ w = w' := by
  go_enter Tryz.func135, Tryz.ntmps135
  go_wp2_with fail
  refine (may_calls d L s i w h false (DiskS.may_no hi)).mono ?_
  rintro e w1 ⟨rfl, rfl⟩
  go_wp2
  go_ret2
  exact ⟨rfl, rfl⟩
set_option maxRecDepth 100000 in
set_option maxHeartbeats 1000000 in
theorem dread_dead (d L : Nat) (s : DiskS) (i : Nat) (w : World) (h : IsDisk w d L s) (hi : i < s.n) (hdead : s.dead = true) :
    Calls Tryz.prog 135 #[.pointer (some ⟨d, 0, none⟩), .int .i64 i] w fun e w' => e = .returned (.tuple #[.slice none 0 0, .int .i64 8]) ∧ w = w' := by
  obtain ⟨cap, arr, hd, _⟩ := id h
  have c1 : w.cell? ⟨d, 1, none⟩ = some (.bool true) := by rw [hd.cell, hdead]; rfl
  clear hdead
  go_enter Tryz.func135, Tryz.ntmps135
  go_wp2_with fail
  refine (may_calls d L s i w h true (DiskS.may_yes hi)).mono ?_
  rintro e w1 ⟨rfl, rfl⟩
  go_wp2
  go_ret2
  exact ⟨rfl, rfl⟩
theorem IsDisk.sector {w : World} {d L : Nat} {s : DiskS} (h : IsDisk w d L s) (i : Nat) (hi : i < s.n) : Bys w (.slice (some ⟨L, i * 32, none⟩) 32 32) (s.sector i) := by
  obtain ⟨cap, arr, hd, a, b, hL, r1, r2, r3, r4, r5, hne, r6, r7⟩ := h
  exact hL.mid_bys (Nat.le_refl _) (maxLen_ge (by decide)) fun k hk => r2 _ (by omega)
set_option maxRecDepth 100000 in
set_option maxHeartbeats 1000000 in
theorem dread_calls (d L : Nat) (s : DiskS) (i : Nat) (w : World) (h : IsDisk w d L s) (hi : i < s.n) (hdead : s.dead = false) :
    Calls Tryz.prog 135 #[.pointer (some ⟨d, 0, none⟩), .int .i64 i] w fun e w' => ∃ v, e = .returned (.tuple #[v, .int .i64 0]) ∧ OwnF 5 w' w.heap.size v (s.sector i) ∧ Below w.heap.size w w' := by
  obtain ⟨cap, arr, hd, _, hcap, _⟩ := id h
  have c0 : w.cell? ⟨d, 0, none⟩ = some (.slice (some ⟨L, 0, none⟩) s.n cap) := by rw [hd.cell]; rfl
  have c1 : w.cell? ⟨d, 1, none⟩ = some (.bool false) := by rw [hd.cell, hdead]; rfl
  have hsec := h.sector i hi
  have i1 : (0 : Int) ≤ (i : Int) := by omega
  have i2 : (i : Int) < (s.n : Int) := by omega
  clear hdead
  go_enter Tryz.func135, Tryz.ntmps135
  go_wp2_with fail
  refine (may_calls d L s i w h true (DiskS.may_yes hi)).mono ?_
  rintro e w1 ⟨rfl, rfl⟩
  go_wp2_with (at_builtin; refine appF E8 rfl _ _ rfl (base := w.heap.size) (bs := []) (news := s.sector i) rfl rfl (OwnF.nil _ _ _) hsec ?q1 ?q2 ?_)
  case q1 => simp [DiskS.sector, rowL_len]
  case q2 => exact Nat.le_refl _
  intro v' w' hown hg
  go_wp2
  go_ret2
  exact ⟨_, rfl, hown, grown_none hg rfl⟩
set_option maxRecDepth 100000 in
set_option maxHeartbeats 1000000 in
theorem dwrite_bad (d L : Nat) (s : DiskS) (i : Int) (v : Value) (bs : List UInt8) (w : World) (h : IsDisk w d L s) (hb : Bys w v bs) (hi : (i < 0 ∨ (s.n : Int) ≤ i) ∨ 32 < bs.length) :
    Calls Tryz.prog 137 #[.pointer (some ⟨d, 0, none⟩), .int .i64 i, v] w fun e w' => e = .returned (.int .i64 1) ∧ w = w' := by
  obtain ⟨a, c, rfl⟩ := hb.eq_slice
  obtain ⟨l, hl⟩ : ∃ l, l = bs.length := ⟨_, rfl⟩
  rw [← hl] at hi ⊢
  clear hl
  by_cases hm : i < 0 ∨ (s.n : Int) ≤ i
  · clear hi
    go_enter Tryz.func137, Tryz.ntmps137
    go_wp2_with fail
    refine (may_calls d L s i w h false (DiskS.may_no hm)).mono ?_
    rintro e w1 ⟨rfl, rfl⟩
    go_wp2
    go_ret
    exact ⟨rfl, rfl⟩
  · have hl : 32 < l := by omega
    obtain ⟨i, rfl⟩ : ∃ j : Nat, i = j := ⟨i.toNat, by omega⟩
    clear hi
    go_enter Tryz.func137, Tryz.ntmps137
    go_wp2_with fail
    refine (may_calls d L s i w h true (DiskS.may_yes (by omega))).mono ?_
    rintro e w1 ⟨rfl, rfl⟩
    go_wp2
    go_ret
    exact ⟨rfl, rfl⟩
set_option maxRecDepth 100000 in
set_option maxHeartbeats 1000000 in
theorem dwrite_dead (d L : Nat) (s : DiskS) (i : Nat) (v : Value) (bs : List UInt8) (w : World) (h : IsDisk w d L s) (hb : Bys w v bs) (hi : i < s.n) (hl : bs.length ≤ 32) (hdead : s.dead = true) :
    Calls Tryz.prog 137 #[.pointer (some ⟨d, 0, none⟩), .int .i64 i, v] w fun e w' => e = .returned (.int .i64 8) ∧ w = w' := by
  obtain ⟨a, c, rfl⟩ := hb.eq_slice
  obtain ⟨l, hl'⟩ : ∃ l, l = bs.length := ⟨_, rfl⟩
  rw [← hl'] at hl ⊢
  clear hl'
  obtain ⟨cap, arr, hd, _⟩ := id h
  have c1 : w.cell? ⟨d, 1, none⟩ = some (.bool true) := by rw [hd.cell, hdead]; rfl
  clear hdead
  go_enter Tryz.func137, Tryz.ntmps137
  go_wp2_with fail
  refine (may_calls d L s i w h true (DiskS.may_yes hi)).mono ?_
  rintro e w1 ⟨rfl, rfl⟩
  go_wp2
  go_ret
  exact ⟨rfl, rfl⟩
def padF (bs : List UInt8) : Nat → UInt8 := fun k => if k < bs.length then bs.getD k 0 else 0
theorem padF_eq (bs : List UInt8) (k : Nat) : padF bs k = bs.getD k 0 := by
  unfold padF
  split
  · rfl
  · rw [List.getD_eq_getElem?_getD, List.getElem?_eq_none (by omega)]; rfl
theorem to_new (w : World) : Blk (w.alloc (.cells #[.int .u8 0, .int .u8 0, .int .u8 0, .int .u8 0, .int .u8 0, .int .u8 0, .int .u8 0, .int .u8 0, .int .u8 0, .int .u8 0, .int .u8 0, .int .u8 0, .int .u8 0, .int .u8 0, .int .u8 0, .int .u8 0, .int .u8 0, .int .u8 0, .int .u8 0, .int .u8 0, .int .u8 0, .int .u8 0, .int .u8 0, .int .u8 0, .int .u8 0, .int .u8 0, .int .u8 0, .int .u8 0, .int .u8 0, .int .u8 0, .int .u8 0, .int .u8 0] 62)) w.heap.size (rowArr 32 fun _ => 0) 62 := by
  rw [show rowArr 32 (fun _ => 0) = #[.int .u8 0, .int .u8 0, .int .u8 0, .int .u8 0, .int .u8 0, .int .u8 0, .int .u8 0, .int .u8 0, .int .u8 0, .int .u8 0, .int .u8 0, .int .u8 0, .int .u8 0, .int .u8 0, .int .u8 0, .int .u8 0, .int .u8 0, .int .u8 0, .int .u8 0, .int .u8 0, .int .u8 0, .int .u8 0, .int .u8 0, .int .u8 0, .int .u8 0, .int .u8 0, .int .u8 0, .int .u8 0, .int .u8 0, .int .u8 0, .int .u8 0, .int .u8 0] from by rw [← rowArr_zero]; rfl]
  exact Blk.new _ _ _
theorem i32 : (Tryz.prog.info? 62).map (·.size) = some 32 := by kernel_rfl
theorem IsDisk.laid {d L : Nat} {s : DiskS} {w : World} (h : IsDisk w d L s) {i : Nat} (_hi : i < s.n) (bs : List UInt8) {m : Nat} (_hm : m ≤ 32) {cs : List Value} (hcs : cs = (rowArr m (padF bs)).toList) (dr : Nat) :
    IsDisk ((w.drewN dr).setCells L (i * 32) cs) d L { s with f := s.lay i bs m } := by
  obtain ⟨cap, arr, hd, a, b, hL, r1, r2, r3, r4, r5, hne, r6, r7⟩ := h
  obtain ⟨arr', h1, h2, h3⟩ := Blk.setCells cs (i * 32) (w.drewN dr) arr hL
  refine ⟨cap, arr', Blk.setCells_other hne _ _ _ hd, a, b, h1, by rw [h2]; exact r1, fun j hj => ?_, r3, r4, r5, hne, r6, r7⟩
  have hj : j < s.n * 32 := hj
  have hl : cs.length = m := by rw [hcs]; simp [rowArr_size]
  rw [h3 j (by omega), hl]
  show _ = some (Value.int .u8 ((s.lay i bs m j).toNat : Int))
  unfold DiskS.lay
  by_cases e : i * 32 ≤ j ∧ j < i * 32 + m
  · rw [if_pos e, if_pos e, hcs, ← padF_eq]
    have := rowArr_get m (padF bs) (j - i * 32) (by omega)
    simpa using this
  · rw [if_neg e, if_neg e]; exact r2 j hj
theorem IsDisk.count {d L : Nat} {s : DiskS} {w : World} (h : IsDisk w d L s) (hw : s.writes < 4611686018427387904) : IsDisk (w.setCell ⟨d, 5, none⟩ (.int .i64 ((s.writes : Int) + 1))) d L { s with writes := s.writes + 1 } := by
  obtain ⟨cap, arr, hd, a, b, hL, r1, r2, r3, r4, r5, hne, r6, r7⟩ := h
  have := hd.set 5 (.int .i64 ((s.writes : Int) + 1))
  exact ⟨cap, arr, by simpa using this, a, b, hL.set_other hne _, r1, r2, r3, r4, r5, hne, r6, by show s.writes + 1 ≤ _; omega⟩
theorem IsDisk.tick {d L : Nat} {s : DiskS} {w : World} (h : IsDisk w d L s) (hc : 0 < s.cnt) : IsDisk (w.setCell ⟨d, 3, none⟩ (.int .i64 ((s.cnt : Int) - 1))) d L { s with cnt := s.cnt - 1 } := by
  obtain ⟨cap, arr, hd, a, b, hL, r1, r2, r3, r4, r5, hne, r6, r7⟩ := h
  have := hd.set 3 (.int .i64 ((s.cnt : Int) - 1))
  rw [show ((s.cnt : Int) - 1) = ((s.cnt - 1 : Nat) : Int) from by omega] at this ⊢
  exact ⟨cap, arr, this, a, b, hL.set_other hne _, r1, r2, r3, r4, r5, hne, by show s.cnt - 1 ≤ _; omega, r7⟩
theorem IsDisk.die {d L : Nat} {s : DiskS} {w : World} (h : IsDisk w d L s) : IsDisk (w.setCell ⟨d, 1, none⟩ (.bool true)) d L { s with dead := true } := by
  obtain ⟨cap, arr, hd, a, b, hL, r1, r2, r3, r4, r5, hne, r6, r7⟩ := h
  exact ⟨cap, arr, hd.set 1 (.bool true), a, b, hL.set_other hne _, r1, r2, r3, r4, r5, hne, r6, r7⟩
theorem rowArr_one (m : Nat) (f : Nat → UInt8) : ∀ v ∈ (rowArr m f).toList, v.oneCell' = true := by
  intro v hv
  simp [rowArr] at hv
  obtain ⟨k, _, rfl⟩ := hv
  rfl
theorem write_facts {d L : Nat} {s : DiskS} {w w1 : World} {i : Nat} {bs : List UInt8} (h : IsDisk w1 d L s) (hi : i < s.n) (ht : Blk w1 w.heap.size (rowArr 32 fun k => if k < bs.length then bs.getD k 0 else 0) 62) (m : Nat) (hm : m ≤ 32) :
    ∃ cs, Hid (cs = (rowArr m (padF bs)).toList) ∧ cs.length = m ∧ (∀ v ∈ cs, v.oneCell' = true) ∧ w1.rangeAt w.heap.size 0 cs ∧ w1.there L (i * 32) 32 ∧ (∀ j v, cs[j]? = some v → w1.cell? ((⟨w.heap.size, 0, none⟩ : Addr).add j) = some v) := by
  obtain ⟨cap, arr, hd, a, b, hL, r1, r2, r3, r4, r5, hne, r6, r7⟩ := h
  have hr : w1.rangeAt w.heap.size 0 (rowArr m (padF bs)).toList := fun j v hj => by
    rw [Nat.zero_add, ht.cell]
    have hj : (rowArr m (padF bs))[j]? = some v := by simpa using hj
    have hjm : j < m := by
      rcases Nat.lt_or_ge j m with h' | h'
      · exact h'
      · rw [Array.getElem?_eq_none (by rw [rowArr_size]; exact h')] at hj; cases hj
    rw [rowArr_get _ _ _ hjm] at hj
    rw [rowArr_get _ _ _ (by omega)]
    exact hj
  refine ⟨_, rfl, by simp [rowArr_size], rowArr_one _ _, hr, fun j hj => ⟨by rw [hL.cell]; simp; omega, hL.free _⟩, fun j v hj => ?_⟩
  have := hr j v hj
  rw [Nat.zero_add] at this
  rw [show (⟨w.heap.size, 0, none⟩ : Addr).add j = ⟨w.heap.size, j, none⟩ from by
    unfold Addr.add
    split
    · subst_vars; rfl
    · simp]
  exact this
set_option maxRecDepth 100000 in
set_option maxHeartbeats 2000000 in
theorem dwrite_plain (d L : Nat) (s : DiskS) (i : Nat) (v : Value) (bs : List UInt8) (w : World) (h : IsDisk w d L s) (hb : Bys w v bs) (hi : i < s.n) (hl : bs.length ≤ 32) (hdead : s.dead = false) (hst : s.stops = false) (hw : s.writes < 4611686018427387904) :
    Calls Tryz.prog 137 #[.pointer (some ⟨d, 0, none⟩), .int .i64 i, v] w fun e w' => e = .returned (.int .i64 0) ∧ IsDisk w' d L (s.write i bs) ∧ Chg (fun b => b = d ∨ b = L) w w' := by
  obtain ⟨cap, arr, hd, hc1, hcap, hL, r1, r2, r3, r4, r5, hne, r6, r7⟩ := id h
  have c1 : w.cell? ⟨d, 1, none⟩ = some (.bool false) := by rw [hd.cell, hdead]; rfl
  obtain ⟨a, c, rfl⟩ := hb.eq_slice
  have HW := Lib.hid (show s.write i bs = { s with f := s.lay i bs 32, writes := s.writes + 1 } from by simp [DiskS.write, hst])
  obtain ⟨l, hl'⟩ : ∃ l, l = bs.length := ⟨_, rfl⟩
  rw [← hl'] at hl hb ⊢
  have Hl := Lib.hid hl'; have Hst := Lib.hid hst
  have i1 : (0 : Int) ≤ (i : Int) := by omega
  have i2 : (i : Int) < (s.n : Int) := by omega
  clear hdead hst hl'
  go_enter Tryz.func137, Tryz.ntmps137
  go_wp2_with fail
  refine (may_calls d L s i w h true (DiskS.may_yes hi)).mono ?_
  rintro e w1 ⟨rfl, rfl⟩
  go_wp2_with (refine copy_row (o := ⟨some 25, _, _, _, _, _⟩) rfl (.tmp 23) (.tmp 24) 51 51 rfl 5 Tryz.underlying51 E8s rfl rfl (to_new _) (hb.below ((Below.refl _ _).alloc (Nat.le_refl _) _)) ?c1 ?c2 ?_)
  case c1 => have := Hl.out; omega
  case c2 => omega
  intro w1 hB1 hb1
  have hb1 : Below w.heap.size w w1 := ((Below.refl _ _).alloc (Nat.le_refl _) _).trans hb1
  have h1 := h.below hb1
  have hd1 := hd.kept hb1
  have c0 : w1.cell? ⟨d, 0, none⟩ = some (.slice (some ⟨L, 0, none⟩) s.n cap) := by rw [hd1.cell]; rfl
  have c2 : w1.cell? ⟨d, 2, none⟩ = some (.bool false) := by rw [hd1.cell, Hst.out]; rfl
  obtain ⟨cs, Hcs, hcl, hone, hr1, ht1, _⟩ := write_facts (i := i) h1 hi hB1 32 (Nat.le_refl _)
  have hu := Tryz.underlying62
  have hi32 : (Tryz.prog.info? 62).map (·.size) = some cs.length := by rw [hcl]; exact i32
  have hD := h1.laid hi bs (Nat.le_refl 32) Hcs.out 1
  have hC := Chg.setCells (S := fun b => b = d ∨ b = L) (L := L) (.inr rfl) cs (i * 32) _ (Chg.drew (Chg.of_below (S := fun b => b = d ∨ b = L) hb1))
  have hD : IsDisk (w1.drew.setCells L (i * 32) cs) d L { s with f := s.lay i bs 32 } := hD
  obtain ⟨cap', arr', hd2, _⟩ := id hD
  have c5 : (w1.drew.setCells L (i * 32) cs).cell? ⟨d, 5, none⟩ = some (.int .i64 (s.writes : Int)) := by rw [hd2.cell]; rfl
  have f5 := hd2.free 5
  have HD := Lib.hid hD; have HC := Lib.hid hC; have HB1 := Lib.hid hB1; have Hb1 := Lib.hid hb1; have Hd1 := Lib.hid hd1; have H1 := Lib.hid h1; have Hd2 := Lib.hid hd2
  clear hD hC hB1 hb1 hd1 h1 hd2 c1
  go_wp2_with fail
  go_region_held3 (fun w' => w'.cell? ⟨d, 0, none⟩ = some (.slice (some ⟨L, 0, none⟩) s.n cap) ∧ w'.rangeAt w.heap.size 0 cs ∧ w'.there L (i * 32) 32) (first | exact ⟨c0, hr1, ht1⟩ | exact keep_mid hne (Nat.ne_of_gt hL.lt) c0 hr1 ht1) (fail)
  go_wp2
  go_ret
  exact ⟨rfl, by rw [HW.out]; exact HD.out.count hw, HC.out.set (.inl rfl) _⟩
set_option maxRecDepth 100000 in
set_option maxHeartbeats 2000000 in
theorem dwrite_tick (d L : Nat) (s : DiskS) (i : Nat) (v : Value) (bs : List UInt8) (w : World) (h : IsDisk w d L s) (hb : Bys w v bs) (hi : i < s.n) (hl : bs.length ≤ 32) (hdead : s.dead = false) (hst : s.stops = true) (hcnt : 0 < s.cnt) (hw : s.writes < 4611686018427387904) :
    Calls Tryz.prog 137 #[.pointer (some ⟨d, 0, none⟩), .int .i64 i, v] w fun e w' => e = .returned (.int .i64 0) ∧ IsDisk w' d L (s.write i bs) ∧ Chg (fun b => b = d ∨ b = L) w w' := by
  obtain ⟨cap, arr, hd, hc1, hcap, hL, r1, r2, r3, r4, r5, hne, r6, r7⟩ := id h
  have c1 : w.cell? ⟨d, 1, none⟩ = some (.bool false) := by rw [hd.cell, hdead]; rfl
  obtain ⟨a, c, rfl⟩ := hb.eq_slice
  have HW := Lib.hid (show s.write i bs = { s with cnt := s.cnt - 1, f := s.lay i bs 32, writes := s.writes + 1 } from by simp [DiskS.write, hst, Nat.ne_of_gt hcnt])
  obtain ⟨l, hl'⟩ : ∃ l, l = bs.length := ⟨_, rfl⟩
  rw [← hl'] at hl hb ⊢
  have Hl := Lib.hid hl'; have Hst := Lib.hid hst
  have i1 : (0 : Int) ≤ (i : Int) := by omega
  have i2 : (i : Int) < (s.n : Int) := by omega
  have t1 : ((s.cnt : Int) == 0) = false := by simp; omega
  have t2 : (0 : Int) < (s.cnt : Int) := by omega
  clear hdead hst hl'
  go_enter Tryz.func137, Tryz.ntmps137
  go_wp2_with fail
  refine (may_calls d L s i w h true (DiskS.may_yes hi)).mono ?_
  rintro e w1 ⟨rfl, rfl⟩
  go_wp2_with (refine copy_row (o := ⟨some 25, _, _, _, _, _⟩) rfl (.tmp 23) (.tmp 24) 51 51 rfl 5 Tryz.underlying51 E8s rfl rfl (to_new _) (hb.below ((Below.refl _ _).alloc (Nat.le_refl _) _)) ?c1 ?c2 ?_)
  case c1 => have := Hl.out; omega
  case c2 => omega
  intro w1 hB1 hb1
  have hb1 : Below w.heap.size w w1 := ((Below.refl _ _).alloc (Nat.le_refl _) _).trans hb1
  have h0 := h.below hb1
  have hd1 := hd.kept hb1
  have c2 : w1.cell? ⟨d, 2, none⟩ = some (.bool true) := by rw [hd1.cell, Hst.out]; rfl
  have c3 : w1.cell? ⟨d, 3, none⟩ = some (.int .i64 (s.cnt : Int)) := by rw [hd1.cell]; rfl
  have f3 := hd1.free 3
  have h1 := h0.tick hcnt
  have hd1' := hd1
  obtain ⟨w2, hw2⟩ : ∃ w2, w2 = w1.setCell ⟨d, 3, none⟩ (.int .i64 ((s.cnt : Int) - 1)) := ⟨_, rfl⟩
  rw [← hw2] at h1
  have hlt : d < w.heap.size := hd.lt
  have hB2 : Blk w2 w.heap.size (rowArr 32 fun k => if k < bs.length then bs.getD k 0 else 0) 62 := by rw [hw2]; exact hB1.set_other (show d ≠ w.heap.size by omega) _
  have hch2 : Chg (fun b => b = d ∨ b = L) w w2 := by rw [hw2]; exact (Chg.of_below hb1).set (.inl rfl) _
  have c0 : w2.cell? ⟨d, 0, none⟩ = some (.slice (some ⟨L, 0, none⟩) s.n cap) := by rw [hw2, (hd1.set 3 _).cell]; rfl
  have HB1 := Lib.hid hB1; have Hb1 := Lib.hid hb1; have Hd1 := Lib.hid hd1; have H0 := Lib.hid h0; have Hw2 := Lib.hid hw2
  clear hB1 hb1 hd1 h0 c1 hd1' hw2
  obtain ⟨cs, Hcs, hcl, hone, hr1, ht1, _⟩ := write_facts (i := i) h1 hi hB2 32 (Nat.le_refl _)
  have hu := Tryz.underlying62
  have hi32 : (Tryz.prog.info? 62).map (·.size) = some cs.length := by rw [hcl]; exact i32
  have hD := h1.laid (show i < _ from hi) bs (Nat.le_refl 32) Hcs.out 1
  have hC := Chg.setCells (S := fun b => b = d ∨ b = L) (L := L) (.inr rfl) cs (i * 32) _ hch2.drew
  have hD : IsDisk (w2.drew.setCells L (i * 32) cs) d L { s with cnt := s.cnt - 1, f := s.lay i bs 32 } := hD
  obtain ⟨cap', arr', hd2, _⟩ := id hD
  have c5 : (w2.drew.setCells L (i * 32) cs).cell? ⟨d, 5, none⟩ = some (.int .i64 (s.writes : Int)) := by rw [hd2.cell]; rfl
  have f5 := hd2.free 5
  have HD := Lib.hid hD; have HC := Lib.hid hC; have HB2 := Lib.hid hB2; have H1 := Lib.hid h1; have Hd2 := Lib.hid hd2; have Hch := Lib.hid hch2
  clear hD hC hB2 h1 hd2 hch2
  go_upto_region 13 with fail
  rw [← Hw2.out]
  go_region_held3 (fun w' => w'.cell? ⟨d, 0, none⟩ = some (.slice (some ⟨L, 0, none⟩) s.n cap) ∧ w'.rangeAt w.heap.size 0 cs ∧ w'.there L (i * 32) 32) (first | exact ⟨c0, hr1, ht1⟩ | exact keep_mid hne (Nat.ne_of_gt hL.lt) c0 hr1 ht1) (fail)
  go_wp2
  go_ret
  exact ⟨rfl, by rw [HW.out]; exact HD.out.count hw, HC.out.set (.inl rfl) _⟩
set_option maxRecDepth 100000 in
set_option maxHeartbeats 2000000 in
theorem dwrite_tear (d L : Nat) (s : DiskS) (i : Nat) (v : Value) (bs : List UInt8) (w : World) (h : IsDisk w d L s) (hb : Bys w v bs) (hi : i < s.n) (hl : bs.length ≤ 32) (hdead : s.dead = false) (hst : s.stops = true) (hcnt : s.cnt = 0) :
    Calls Tryz.prog 137 #[.pointer (some ⟨d, 0, none⟩), .int .i64 i, v] w fun e w' => e = .returned (.int .i64 8) ∧ IsDisk w' d L (s.write i bs) ∧ Chg (fun b => b = d ∨ b = L) w w' := by
  obtain ⟨cap, arr, hd, hc1, hcap, hL, r1, r2, r3, r4, r5, hne, r6, r7⟩ := id h
  have c1 : w.cell? ⟨d, 1, none⟩ = some (.bool false) := by rw [hd.cell, hdead]; rfl
  obtain ⟨a, c, rfl⟩ := hb.eq_slice
  have HW := Lib.hid (show s.write i bs = { s with f := s.lay i bs s.keep, dead := true } from by simp [DiskS.write, hst, hcnt])
  obtain ⟨l, hl'⟩ : ∃ l, l = bs.length := ⟨_, rfl⟩
  rw [← hl'] at hl hb ⊢
  have Hl := Lib.hid hl'; have Hst := Lib.hid hst; have Hcnt := Lib.hid hcnt
  have i1 : (0 : Int) ≤ (i : Int) := by omega
  have i2 : (i : Int) < (s.n : Int) := by omega
  have k1 : (0 : Int) ≤ (s.keep : Int) := by omega
  have k2 : (s.keep : Int) ≤ 32 := by omega
  clear hdead hst hl' hcnt
  go_enter Tryz.func137, Tryz.ntmps137
  go_wp2_with fail
  refine (may_calls d L s i w h true (DiskS.may_yes hi)).mono ?_
  rintro e w1 ⟨rfl, rfl⟩
  go_wp2_with (refine copy_row (o := ⟨some 25, _, _, _, _, _⟩) rfl (.tmp 23) (.tmp 24) 51 51 rfl 5 Tryz.underlying51 E8s rfl rfl (to_new _) (hb.below ((Below.refl _ _).alloc (Nat.le_refl _) _)) ?c1 ?c2 ?_)
  case c1 => have := Hl.out; omega
  case c2 => omega
  intro w1 hB1 hb1
  have hb1 : Below w.heap.size w w1 := ((Below.refl _ _).alloc (Nat.le_refl _) _).trans hb1
  have h1 := h.below hb1
  have hd1 := hd.kept hb1
  have c0 : w1.cell? ⟨d, 0, none⟩ = some (.slice (some ⟨L, 0, none⟩) s.n cap) := by rw [hd1.cell]; rfl
  have c2 : w1.cell? ⟨d, 2, none⟩ = some (.bool true) := by rw [hd1.cell, Hst.out]; rfl
  have c3 : w1.cell? ⟨d, 3, none⟩ = some (.int .i64 0) := by rw [hd1.cell, Hcnt.out]; rfl
  have c4 : w1.cell? ⟨d, 4, none⟩ = some (.int .i64 (s.keep : Int)) := by rw [hd1.cell]; rfl
  obtain ⟨cs, Hcs, hcl, hone, hr1, ht1, hsrc⟩ := write_facts (i := i) h1 hi hB1 s.keep r5
  have ht1 : w1.there L (i * 32) cs.length := fun j hj => ht1 j (by rw [hcl] at hj; omega)
  have hD := h1.laid hi bs r5 Hcs.out 1
  have hC := Chg.setCells (S := fun b => b = d ∨ b = L) (L := L) (.inr rfl) cs (i * 32) _ (Chg.drew (Chg.of_below (S := fun b => b = d ∨ b = L) hb1))
  have hD : IsDisk (w1.drew.setCells L (i * 32) cs) d L { s with f := s.lay i bs s.keep } := hD
  obtain ⟨cap', arr', hd2, _⟩ := id hD
  have c5 : (w1.drew.setCells L (i * 32) cs).cell? ⟨d, 1, none⟩ = some (.bool s.dead) := by rw [hd2.cell]; rfl
  have f5 := hd2.free 1
  have HD := Lib.hid hD; have HC := Lib.hid hC; have HB1 := Lib.hid hB1; have Hb1 := Lib.hid hb1; have Hd1 := Lib.hid hd1; have H1 := Lib.hid h1; have Hd2 := Lib.hid hd2; have Hcl := Lib.hid hcl; have Hsrc := Lib.hid hsrc; have Hone := Lib.hid hone; have Ht := Lib.hid ht1
  clear hD hC hB1 hb1 hd1 h1 hd2 c1 hcl hsrc hr1 hone ht1
  go_wp2_with fail
  go_region_held3 (fun w' => w'.cell? ⟨d, 0, none⟩ = some (.slice (some ⟨L, 0, none⟩) s.n cap) ∧ w'.cell? ⟨d, 4, none⟩ = some (.int .i64 (s.keep : Int))) (first | exact ⟨c0, c4⟩ | assumption | exact ⟨by rw [World.cell?_setCells_out _ _ _ _ _ (fun e => absurd e hne)]; exact c0, by rw [World.cell?_setCells_out _ _ _ _ _ (fun e => absurd e hne)]; exact c4⟩)
    (first
      | (refine step_copy_set (by rfl) _ _ _ _ 5 (by rfl) Tryz.underlying51 E8s (b := L) (off := i * 32) (sa := ⟨w.heap.size, 0, none⟩) cs (by rfl) (by rfl) (by rw [Hcl.out]; exact (Nat.min_self _).symm) Hsrc.out Ht.out Hone.out ?_))
  go_wp2
  go_ret
  exact ⟨rfl, by rw [HW.out]; exact HD.out.die, HC.out.set (.inl rfl) _⟩
theorem dwrite_calls (d L : Nat) (s : DiskS) (i : Nat) (v : Value) (bs : List UInt8) (w : World) (h : IsDisk w d L s) (hb : Bys w v bs) (hi : i < s.n) (hl : bs.length ≤ 32) (hdead : s.dead = false) (hw : s.writes < 4611686018427387904) :
    Calls Tryz.prog 137 #[.pointer (some ⟨d, 0, none⟩), .int .i64 i, v] w fun e w' => e = .returned (.int .i64 (if s.stops = true ∧ s.cnt = 0 then 8 else 0)) ∧ IsDisk w' d L (s.write i bs) ∧ Chg (fun b => b = d ∨ b = L) w w' := by
  by_cases hs : s.stops = true
  · by_cases hc : s.cnt = 0
    · rw [if_pos ⟨hs, hc⟩]; exact dwrite_tear d L s i v bs w h hb hi hl hdead hs hc
    · rw [if_neg (fun e => hc e.2)]; exact dwrite_tick d L s i v bs w h hb hi hl hdead hs (by omega) hw
  · rw [if_neg (fun e => hs e.1)]; exact dwrite_plain d L s i v bs w h hb hi hl hdead (by simpa using hs) hw
end Go.Proofs.YtbbojbdigiibbaaGreatDoor
end
section
namespace Go.Mem
open Go Go.RowKit Gf
theorem lay_same (s : DiskS) (i : Nat) (bs : List UInt8) (m k : Nat) : s.lay i bs m (i * 32 + k) = if k < m then bs.getD k 0 else s.f (i * 32 + k) := by
  unfold DiskS.lay
  by_cases h : k < m
  · rw [if_pos (by omega), if_pos h, show i * 32 + k - i * 32 = k from by omega]
  · rw [if_neg (by omega), if_neg h]
theorem sector_get (s : DiskS) (i k : Nat) (hk : k < 32) : (s.sector i)[k]? = some (s.f (i * 32 + k)) := rowL_get _ _ _ hk
theorem sector_len (s : DiskS) (i : Nat) : (s.sector i).length = 32 := rowL_len _ _
end Go.Mem
namespace Go.Proofs.YtbbojbdigiibbaaGreatDoor
open Go Go.RowKit Go.Mem Gf
attribute [local go_sem ↓] Go.wp_at_zero Go.wp_at_succ
end Go.Proofs.YtbbojbdigiibbaaGreatDoor
end
section
namespace Go.Proofs.YtbbojbdigiibbaaGreatDoor
open Go Go.RowKit Go.Mem Gf
attribute [local go_sem ↓] Go.wp_at_zero Go.wp_at_succ
def RDisk (w : World) (r B : Nat) (s : DiskS) : Prop :=
  ∃ (cap : Nat) (atv : Int) (arr : Array Value), Blk w r #[.slice (some ⟨B, 0, none⟩) (s.n * 32) cap, .bool s.dead, .bool s.stops, .int .i64 atv, .int .i64 s.keep, .int .i64 s.writes] 158 ∧ s.n * 32 ≤ cap ∧ cap ≤ 9223372036854775807 ∧ Blk w B arr 5 ∧ s.n * 32 ≤ arr.size ∧
    (∀ j, j < s.n * 32 → arr[j]? = some (.int .u8 ((s.f j).toNat : Int))) ∧ 1 ≤ s.n ∧ s.n ≤ 4096 ∧ s.keep ≤ 32 ∧ r ≠ B ∧ (s.stops = true → atv = s.cnt) ∧ -(s.writes : Int) ≤ atv ∧ atv ≤ 9223372036854775807 ∧ s.writes ≤ 4611686018427387904
theorem RDisk.chg {w w' : World} {r B : Nat} {s : DiskS} {S : Nat → Prop} (h : RDisk w r B s) (hc : Chg S w w') (h1 : ¬ S r) (h2 : ¬ S B) : RDisk w' r B s := by
  obtain ⟨cap, atv, arr, hd, a, b, hL, r⟩ := h
  exact ⟨cap, atv, arr, hc.blk hd h1, a, b, hc.blk hL h2, r⟩
theorem RDisk.lt {w : World} {r B : Nat} {s : DiskS} (h : RDisk w r B s) : r < w.heap.size ∧ B < w.heap.size := by
  obtain ⟨cap, atv, arr, hd, a, b, hL, _⟩ := h
  exact ⟨hd.lt, hL.lt⟩
theorem RDisk.set {w : World} {r B : Nat} {s : DiskS} (h : RDisk w r B s) (x : Nat) (u : UInt8) : RDisk (w.setCell ⟨B, x, none⟩ (.int .u8 (u.toNat : Int))) r B { s with f := fun j => if j = x then u else s.f j } := by
  obtain ⟨cap, atv, arr, hd, a, b, hL, r1, r2, r3, r4, r5, hne, r6⟩ := h
  refine ⟨cap, atv, _, hd.set_other (fun e => hne e.symm) _, a, b, hL.set x _, by rw [Array.size_setIfInBounds]; exact r1, fun j hj => ?_, r3, r4, r5, hne, r6⟩
  have hj : j < s.n * 32 := hj
  rw [Array.getElem?_setIfInBounds]
  by_cases e : x = j
  · subst e; simp; omega
  · rw [if_neg e, r2 j hj]
    show some (Value.int .u8 ((s.f j).toNat : Int)) = some (Value.int .u8 ((if j = x then u else s.f j).toNat : Int))
    rw [if_neg (fun e' => e e'.symm)]
theorem RDisk.more {r B : Nat} {s : DiskS} {w : World} {cap : Nat} {atv : Int} (hd : Blk w r #[.slice (some ⟨B, 0, none⟩) (s.n * 32) cap, .bool s.dead, .bool s.stops, .int .i64 atv, .int .i64 s.keep, .int .i64 s.writes] 158) (h : RDisk w r B s) (hw : s.writes < 4611686018427387904) (hc : s.stops = true → 0 < s.cnt) :
    RDisk ((w.setCell ⟨r, 3, none⟩ (.int .i64 (atv - 1))).setCell ⟨r, 5, none⟩ (.int .i64 ((s.writes : Int) + 1))) r B { s with cnt := if s.stops then s.cnt - 1 else s.cnt, writes := s.writes + 1 } := by
  obtain ⟨cap', atv', arr', hd', a, b, hL, r1, r2, r3, r4, r5, hne, r6, r7, r8, r9⟩ := h
  have e := hd.symm.trans hd'
  injection e with e
  injection e with e1 e2
  simp at e1
  obtain ⟨rfl, rfl⟩ := e1
  refine ⟨cap, atv - 1, arr', ?_, a, b, (hL.set_other hne _).set_other hne _, r1, r2, r3, r4, r5, hne, fun hs => ?_, by show -((s.writes + 1 : Nat) : Int) ≤ _; omega, by omega, by show s.writes + 1 ≤ _; omega⟩
  · have := (hd.set 3 (.int .i64 (atv - 1))).set 5 (.int .i64 ((s.writes : Int) + 1))
    simpa using this
  · have hs : s.stops = true := hs
    have := r6 hs
    have := hc hs
    show atv - 1 = ((if s.stops = true then s.cnt - 1 else s.cnt : Nat) : Int)
    rw [if_pos hs]; omega
end Go.Proofs.YtbbojbdigiibbaaGreatDoor
end
section
namespace Go.Mem
open Go Go.RowKit Gf
section
variable {P : Program} {w : World} {ops : Array Oper} {rest : List Oper} {o : Oper} {a : Act} {Q : Exit → Act → World → Prop} {K : Act → World → Prop} {E0 : Prop}
structure ElemK (P : Program) (t e : TypeId) (z : Value) (size bytes : Nat) : Prop where
  under : P.underlying t = some (.slice e)
  info : (P.info? e).map (fun i => (i.zero, i.size, i.bytes)) = some (some z, size, bytes)
  zsize : z.cells.size = size
  pos : 0 < size
theorem own_blk {base e size n : Nat} {v : Value} {xs : List Value} (h : w.ownsRow base e size v n xs) (h0 : 0 < n) :
    ∃ g cap arr, v = .slice (some ⟨g, 0, none⟩) n cap ∧ base ≤ g ∧ Blk w g arr e ∧ n ≤ cap ∧ cap ≤ maxLen ∧ arr.size = cap * size ∧ ∀ j, j < n * size → arr[j]? = xs[j]? := by
  obtain ⟨hl, h⟩ := h
  rcases h with ⟨_, h⟩ | ⟨g, cap, cur, rfl, hb, hg, hc, hm, hs, ht⟩
  · omega
  · refine ⟨g, cap, cur, rfl, hb, hg, hc, hm, hs, fun j hj => ?_⟩
    rw [← ht, List.getElem?_take, if_pos hj]
    simp
end
end Go.Mem
end
section
namespace Go.Mem
open Go Go.RowKit Gf
end Go.Mem
namespace Go.Proofs.YtbbojbdigiibbaaGreatDoor
open Go Go.RowKit Go.Mem Gf
attribute [local go_sem ↓] Go.wp_at_zero Go.wp_at_succ
end Go.Proofs.YtbbojbdigiibbaaGreatDoor
end
section
namespace Go.Mem
open Go Go.RowKit Gf
def DiskS.rres (s : DiskS) (i : Int) : Int := if s.may i = true then (if s.dead = true then 8 else 0) else 1
def DiskS.rd (s : DiskS) (i : Int) : List UInt8 := if s.may i = true ∧ s.dead = false then s.sector i.toNat else []
def DiskS.wres (s : DiskS) (i : Int) (n : Nat) : Int := if s.may i = true ∧ n ≤ 32 then (if s.dead = true then 8 else if s.stops = true ∧ s.cnt = 0 then 8 else 0) else 1
def DiskS.wr (s : DiskS) (i : Int) (bs : List UInt8) : DiskS := if (s.may i = true ∧ bs.length ≤ 32) ∧ s.dead = false then s.write i.toNat bs else s
theorem DiskS.may_out {s : DiskS} {i : Int} (h : s.may i = true) : ∃ j : Nat, i = j ∧ j < s.n := by
  simp [DiskS.may] at h
  exact ⟨i.toNat, by omega, by omega⟩
theorem DiskS.may_bad {s : DiskS} {i : Int} (h : ¬ s.may i = true) : i < 0 ∨ (s.n : Int) ≤ i := by
  simp [DiskS.may] at h
  omega
theorem DiskS.wr_n (s : DiskS) (i : Int) (bs : List UInt8) : (s.wr i bs).n = s.n := by
  unfold DiskS.wr DiskS.write; split
  · split <;> rfl
  · rfl
theorem DiskS.wr_writes (s : DiskS) (i : Int) (bs : List UInt8) : (s.wr i bs).writes ≤ s.writes + 1 := by
  unfold DiskS.wr DiskS.write; split
  · split
    · exact Nat.le_succ _
    · exact Nat.le_refl _
  · exact Nat.le_succ _
end Go.Mem
namespace Go.Proofs.YtbbojbdigiibbaaGreatDoor
open Go Go.RowKit Go.Mem Gf
theorem dread_any (d L : Nat) (s : DiskS) (i : Int) (w : World) (h : IsDisk w d L s) :
    Calls Tryz.prog 135 #[.pointer (some ⟨d, 0, none⟩), .int .i64 i] w fun e w' => ∃ v, e = .returned (.tuple #[v, .int .i64 (s.rres i)]) ∧ OwnF 5 w' w.heap.size v (s.rd i) ∧ Below w.heap.size w w' := by
  by_cases hm : s.may i = true
  · obtain ⟨j, rfl, hj⟩ := DiskS.may_out hm
    by_cases hd : s.dead = true
    · refine (dread_dead d L s j w h hj hd).mono ?_
      rintro e w1 ⟨rfl, rfl⟩
      exact ⟨.slice none 0 0, by simp [DiskS.rres, hm, hd], by simp [DiskS.rd, hd]; exact OwnF.nil _ _ _, Below.refl _ _⟩
    · have hd : s.dead = false := by simpa using hd
      refine (dread_calls d L s j w h hj hd).mono ?_
      rintro e w1 ⟨v, rfl, h1, h2⟩
      exact ⟨v, by simp [DiskS.rres, hm, hd], by simp [DiskS.rd, hm, hd]; exact h1, h2⟩
  · refine (dread_bad d L s i w h (DiskS.may_bad hm)).mono ?_
    rintro e w1 ⟨rfl, rfl⟩
    exact ⟨.slice none 0 0, by simp [DiskS.rres, hm], by simp [DiskS.rd, hm]; exact OwnF.nil _ _ _, Below.refl _ _⟩
theorem dwrite_any (d L : Nat) (s : DiskS) (i : Int) (v : Value) (bs : List UInt8) (w : World) (h : IsDisk w d L s) (hb : Bys w v bs) (hw : s.writes < 4611686018427387904) :
    Calls Tryz.prog 137 #[.pointer (some ⟨d, 0, none⟩), .int .i64 i, v] w fun e w' => e = .returned (.int .i64 (s.wres i bs.length)) ∧ IsDisk w' d L (s.wr i bs) ∧ Chg (fun b => b = d ∨ b = L) w w' := by
  by_cases hm : s.may i = true ∧ bs.length ≤ 32
  · obtain ⟨j, rfl, hj⟩ := DiskS.may_out hm.1
    by_cases hd : s.dead = true
    · refine (dwrite_dead d L s j v bs w h hb hj hm.2 hd).mono ?_
      rintro e w1 ⟨rfl, rfl⟩
      exact ⟨by rw [DiskS.wres, if_pos hm, if_pos hd], by rw [DiskS.wr, if_neg (by simp [hd])]; exact h, Chg.refl _ _⟩
    · have hd : s.dead = false := by simpa using hd
      refine (dwrite_calls d L s j v bs w h hb hj hm.2 hd hw).mono ?_
      rintro e w1 ⟨rfl, h1, h2⟩
      exact ⟨by rw [DiskS.wres, if_pos hm, if_neg (show ¬ s.dead = true by simp [hd])], by rw [DiskS.wr, if_pos ⟨hm, hd⟩]; exact h1, h2⟩
  · refine (dwrite_bad d L s i v bs w h hb ?_).mono ?_
    · rcases Nat.lt_or_ge 32 bs.length with hl | hl
      · exact .inr hl
      · exact .inl (DiskS.may_bad fun e => hm ⟨e, hl⟩)
    rintro e w1 ⟨rfl, rfl⟩
    exact ⟨by rw [DiskS.wres, if_neg hm], by rw [DiskS.wr, if_neg (fun e => hm e.1)]; exact h, Chg.refl _ _⟩
end Go.Proofs.YtbbojbdigiibbaaGreatDoor
end
section
namespace Sto
open Go.Mem
structure Rec where
  is : Bool
  name : ByteArray
  num : Nat
  data : List UInt8
def Rec.free : Rec := ⟨false, ByteArray.empty, 0, []⟩
def takeN : Nat → List UInt8 → Option (List (List UInt8) × List UInt8)
  | 0, b => some ([], b)
  | k + 1, b => match takeN k b with
    | none => none
    | some (xs, r) => match Cod.takeNet r with
      | none => none
      | some (x, r') => some (xs ++ [x], r')
theorem takeN_len : ∀ (k : Nat) (b : List UInt8) (xs : List (List UInt8)) (r : List UInt8), takeN k b = some (xs, r) → xs.length = k
  | 0, b, xs, r, h => by simp [takeN] at h; rw [h.1]; rfl
  | k + 1, b, xs, r, h => by
    simp only [takeN] at h
    split at h
    · cases h
    · rename_i xs' r' h'
      split at h
      · cases h
      · injection h with h
        injection h with h1 h2
        subst h1
        rw [List.length_append, takeN_len k b xs' r' h']; rfl
def parse (b : List UInt8) : Option Rec :=
  match takeN 3 b with
  | none => none
  | some (xs, _) => if (xs.getD 1 []).length = 4 then some ⟨true, ⟨(xs.getD 0 []).toArray⟩, Cod.getN (xs.getD 1 []), xs.getD 2 []⟩ else none
def text (name : ByteArray) (num : Nat) (data : List UInt8) : List UInt8 := Cod.nets [name.data.toList, Cod.be 4 num, data]
def best (l : List Rec) (name : ByteArray) : Nat → Option Nat
  | 0 => none
  | k + 1 => match l[k]? with
    | none => best l name k
    | some r => if r.is = true ∧ (r.name.toList == name.toList) = true ∧ (∀ j, best l name k = some j → (l.getD j Rec.free).num < r.num) then some k else best l name k
end Sto
end
section
namespace Go.Mem
open Go Go.RowKit Gf
def OwnX (t8 : TypeId) (w : World) (base : Nat) (v : Value) (bs : List UInt8) : Prop :=
  (v = .slice none 0 0 ∧ bs = []) ∨ ∃ g cap arr fz, v = .slice (some ⟨g, 0, none⟩) bs.length cap ∧ base ≤ g ∧ w.heap[g]? = some (.cells arr t8 fz) ∧ (fz = (0, 0) ∨ arr.size ≤ fz.1) ∧ bs.length ≤ cap ∧ cap ≤ maxLen ∧ arr.size = cap ∧
    (∀ (i : Nat) (u : UInt8), bs[i]? = some u → arr[i]? = some (Value.int .u8 ((u.toNat : Nat) : Int))) ∧ Byt arr
section
variable {t8 : TypeId} {w w' : World} {base : Nat} {v : Value} {bs : List UInt8}
theorem OwnX.nil (t8 : TypeId) (w : World) (base : Nat) : OwnX t8 w base (.slice none 0 0) [] := .inl ⟨rfl, rfl⟩
theorem OwnX.eq_slice (h : OwnX t8 w base v bs) : ∃ a cap, v = .slice a bs.length cap := by
  rcases h with ⟨rfl, rfl⟩ | ⟨g, cap, _, _, rfl, _⟩
  · exact ⟨_, _, rfl⟩
  · exact ⟨_, _, rfl⟩
theorem OwnX.bys (h : OwnX t8 w base v bs) : Bys w v bs := by
  rcases h with ⟨rfl, rfl⟩ | ⟨g, cap, arr, fz, rfl, _, hg, _, h1, h2, _, h3, _⟩
  · exact Bys.nil w
  · refine ⟨_, cap, rfl, h1, h2, fun _ => ⟨g, 0, rfl, fun i u hi => ?_⟩⟩
    rw [Nat.zero_add]
    have := h3 i u hi
    simp [World.cell?, hg, this]
theorem OwnX.lt (h : OwnX t8 w base v bs) : ∀ k, v.ownBlock = some k → base ≤ k ∧ k < w.heap.size := by
  rcases h with ⟨rfl, rfl⟩ | ⟨g, cap, arr, fz, rfl, hb, hg, _⟩
  · intro k hk; simp [Value.ownBlock] at hk
  · intro k hk; simp [Value.ownBlock] at hk; subst hk; exact ⟨hb, lt_of_block hg⟩
theorem OwnX.drew (h : OwnX t8 w base v bs) : OwnX t8 w.drew base v bs := h
theorem OwnX.mono (h : OwnX t8 w base v bs) {base' : Nat} (hb : base' ≤ base) : OwnX t8 w base' v bs := by
  rcases h with h | ⟨g, cap, arr, fz, h1, h2, r⟩
  · exact .inl h
  · exact .inr ⟨g, cap, arr, fz, h1, Nat.le_trans hb h2, r⟩
theorem OwnX.kept (h : OwnX t8 w base v bs) (hk : ∀ g, v.ownBlock = some g → w'.heap[g]? = w.heap[g]?) : OwnX t8 w' base v bs := by
  rcases h with h | ⟨g, cap, arr, fz, rfl, h2, h3, r⟩
  · exact .inl h
  · exact .inr ⟨g, cap, arr, fz, rfl, h2, by rw [hk g rfl]; exact h3, r⟩
theorem OwnX.below (h : OwnX t8 w base v bs) (hb : Below w.heap.size w w') : OwnX t8 w' base v bs := h.kept fun g hg => hb.block g (h.lt g hg).2
theorem OwnX.chg {S : Nat → Prop} (h : OwnX t8 w base v bs) (hc : Chg S w w') (hs : ∀ g, v.ownBlock = some g → ¬ S g) : OwnX t8 w' base v bs := h.kept fun g hg => hc.block g (h.lt g hg).2 (hs g hg)
theorem OwnX.alloc (h : OwnX t8 w base v bs) (o : Obj) : OwnX t8 (w.alloc o) base v bs := h.below ((Below.refl _ _).alloc (Nat.le_refl _) _)
theorem OwnF.x (h : OwnF t8 w base v bs) : OwnX t8 w base v bs := by
  obtain ⟨⟨h1, h2⟩, h3⟩ := h
  rcases h2 with ⟨rfl, h0⟩ | ⟨g, cap, cur, rfl, hb, hg, hnc, hcm, hcs, htake⟩
  · exact .inl ⟨rfl, List.eq_nil_of_length_eq_zero h0⟩
  · obtain ⟨arr, h4, h5⟩ := h3 g rfl
    have e : cur = arr := by
      have := (show Blk w g cur t8 from hg).symm.trans h4
      injection this with this
      injection this with this
    subst e
    refine .inr ⟨g, cap, cur, (0, 0), rfl, hb, hg, .inl rfl, hnc, hcm, by omega, fun i u hi => ?_, h5⟩
    have hil : i < bs.length := by
      rcases Nat.lt_or_ge i bs.length with h | h
      · exact h
      · rw [List.getElem?_eq_none h] at hi; cases hi
    have : (bV bs)[i]? = some (.int .u8 ((u.toNat : Nat) : Int)) := by rw [bV_get, hi]; rfl
    rw [← htake, List.getElem?_take, if_pos (by omega)] at this
    simpa using this
theorem conv_ownX (w : World) (e : TypeId) (s : ByteArray) (hs : s.size ≤ maxLen) : OwnX e (Lib.bytesWorld w e s) w.heap.size (.slice (some ⟨w.heap.size, 0, none⟩) s.size (grownCap w s.size 0 e)) s.data.toList ∧ Below w.heap.size w (Lib.bytesWorld w e s) := by
  have hge := grownCap_ge w s.size 0 e
  have hsz : (Lib.bytesCells w e s).size = grownCap w s.size 0 e := by
    simp only [Lib.bytesCells, Array.size_append, Array.size_map, Array.size_replicate]
    show s.size + _ = _
    omega
  refine ⟨.inr ⟨_, _, _, _, rfl, Nat.le_refl _, Lib.bytesWorld_at_new w e s, .inr (Nat.le_refl _), hge, grownCap_le_maxLen w s.size 0 e hs, hsz, fun i u hi => ?_, ?_⟩, ?_⟩
  · unfold Lib.bytesCells
    have hil : i < s.data.size := by
      rcases Nat.lt_or_ge i s.data.size with h | h
      · exact h
      · rw [List.getElem?_eq_none (by simpa using h)] at hi; cases hi
    rw [Array.getElem?_append_left (by simpa using hil)]
    simp at hi ⊢
    exact ⟨u, hi, rfl⟩
  · refine byt_mem.2 fun y hy => ?_
    simp only [Lib.bytesCells, Array.toList_append, Array.toList_map, List.mem_append, List.mem_map, Array.toList_replicate, List.mem_replicate] at hy
    rcases hy with ⟨x, _, rfl⟩ | ⟨_, rfl⟩
    · exact ⟨x, rfl⟩
    · exact ⟨0, rfl⟩
  · exact ⟨by simp [Lib.bytesWorld, World.freeze, World.alloc, World.drew, -World.alloc_eq, -World.drew_eq], by simp [Lib.bytesWorld, World.freeze, World.alloc, World.drew, -World.alloc_eq, -World.drew_eq], by simp [Lib.bytesWorld, World.freeze, World.alloc, World.drew, -World.alloc_eq, -World.drew_eq], by rw [Lib.bytesWorld_size]; omega, fun k hk => Lib.bytesWorld_at_old w e s k hk⟩
end
theorem run_storeCells_atX (P : Program) (g o : Nat) (t : TypeId) (fz : Nat × Nat) : ∀ (vs : List Value) (i : Nat) (cur : Array Value) (w : World), w.heap[g]? = some (.cells cur t fz) → (fz = (0, 0) ∨ cur.size ≤ fz.1) → o + i + vs.length ≤ cur.size → (∀ v ∈ vs, v.oneCell' = true) →
    (storeCells ⟨g, o, none⟩ vs i).run P w = .ok () (w.setRow g (cur.toList.take (o + i) ++ vs ++ cur.toList.drop (o + i + vs.length)).toArray)
  | [], i, cur, w, hg, _, _, _ => by
    simp only [storeCells, List.append_nil, List.length_nil, Nat.add_zero, List.take_append_drop, Array.toArray_toList]
    rw [setRow_self w g cur t fz hg]
    rfl
  | v :: rest, i, cur, w, hg, hfz, hl, h1 => by
    have hi : o + i < cur.size := by simp at hl; omega
    have hadd : (⟨g, o, none⟩ : Addr).add i = ⟨g, o + i, none⟩ := by unfold Addr.add; split <;> simp_all
    have hcell : w.cell? ⟨g, o + i, none⟩ = some cur[o + i] := by simp [World.cell?, hg, hi]
    have hfro : w.frozen? ⟨g, o + i, none⟩ = false := by
      obtain ⟨lo, hi'⟩ := fz
      simp only [World.frozen?, hg, Bool.and_eq_false_iff, decide_eq_false_iff_not]
      rcases hfz with hfz | hfz
      · right; cases hfz; omega
      · left; simp only at hfz; omega
    have hst : (store ((⟨g, o, none⟩ : Addr).add i) v).run P w = .ok () (w.setRow g (cur.setIfInBounds (o + i) v)) := by
      rw [hadd, run_store P w _ v _ (h1 v (by simp)), hcell]
      simp [hfro, setCell_eq_setRow w g (o + i) cur t fz v hg]
    have ih := run_storeCells_atX P g o t fz rest (i + 1) (cur.setIfInBounds (o + i) v) (w.setRow g (cur.setIfInBounds (o + i) v)) (setRow_heap w g cur _ t _ hg) (by rw [Array.size_setIfInBounds]; exact hfz) (by simp at hl ⊢; omega) (fun x hx => h1 x (by simp [hx]))
    simp only [storeCells, Sem.run_bind, hst, Result.andThen_ok, ih, setRow_setRow]
    congr 3
    have e := list_seg_step cur.toList (o + i) v rest (by simp at hl ⊢; omega)
    simpa [Array.toList_setIfInBounds, Nat.add_assoc] using e
section
variable {P : Program} {w : World} {ops : Array Oper} {rest : List Oper} {o : Oper} {a : Act} {Q : Exit → Act → World → Prop} {K : Act → World → Prop} {E0 : Prop}
theorem run_append_roomX (t ty e : TypeId) (i : TypeInfo) (ht : P.underlying t = some (.slice e)) (hi : P.info? e = some i) (hs1 : i.size = 1)
    (g sLen sCap : Nat) (cur : Array Value) (fz : Nat × Nat) (hg : w.heap[g]? = some (.cells cur e fz)) (hfz : fz = (0, 0) ∨ cur.size ≤ fz.1)
    (ad : Addr) (m c : Nat) (news : List Value) (hl : news.length = m) (hnews : ∀ j u, news[j]? = some u → w.cell? (ad.add j) = some u) (h1 : ∀ u ∈ news, u.oneCell' = true)
    (hroom : sLen + m ≤ sCap) (hfit : sLen + news.length ≤ cur.size) :
    (Builtin.append_ #[t, t] ty #[.slice (some ⟨g, 0, none⟩) sLen sCap, .slice (some ad) m c]).run P w =
      .ok (.slice (some ⟨g, 0, none⟩) (sLen + m) sCap) (w.setRow g (cur.toList.take sLen ++ news ++ cur.toList.drop (sLen + news.length)).toArray) := by
  have hf := run_firstCells_some (P := P) w i.size m ad m c news (by rw [hs1]; omega) hnews
  have hst := run_storeCells_atX P g (sLen * i.size) e fz news 0 cur w hg hfz (by rw [hs1]; simpa using hfit) h1
  simp only [Nat.add_zero, hs1, Nat.mul_one] at hst hf
  simp [Builtin.append_, run_underlying ht, sizeOf, typeInfo, hi, Builtin.lenOf, hroom, hf, Addr.add_lit, hst, hs1]
theorem run_appX {t e : TypeId} (E : Elem P t e (.int .u8 0) 1) (ty : TypeId) {base : Nat} {v xv : Value} {bs news : List UInt8} (hown : OwnX e w base v bs) (hb : Bys w xv news) (hn : bs.length + news.length ≤ 140737488355328) (hbase : base ≤ w.heap.size) :
    ∃ v' w', (Builtin.append_ #[t, t] ty #[v, xv]).run P w = .ok v' w' ∧ OwnX e w' base v' (bs ++ news) ∧ w.grownBy w' v.ownBlock := by
  obtain ⟨i, hi, hz, hsz, hby⟩ := info_parts E.info
  rcases hown with ⟨rfl, rfl⟩ | ⟨g, cap, arr, fz, rfl, hbg, hg, hfz, hnc, hcm, hcs, hcells, hbyt⟩
  · obtain ⟨v', w', h1, h2, h3⟩ := run_appF E ty (OwnF.nil e w base) hb hn hbase
    exact ⟨v', w', h1, h2.x, h3⟩
  · obtain ⟨ad, xcap, rfl, hc1, hc2, hcell⟩ := hb
    have holds : ∀ j u, (bV bs)[j]? = some u → w.cell? ((⟨g, 0, none⟩ : Addr).add j) = some u := fun j u hj => by
      rw [bV_get] at hj
      cases hu : bs[j]? with
      | none => rw [hu] at hj; cases hj
      | some x =>
        rw [hu] at hj
        have := hcells j x hu
        rw [show (⟨g, 0, none⟩ : Addr).add j = ⟨g, j, none⟩ from by unfold Addr.add; split <;> simp_all]
        simp at hj
        subst hj
        simp [World.cell?, hg, this]
    cases ad with
    | none =>
      have hl : news = [] := by
        rcases Nat.eq_zero_or_pos news.length with h0 | h0
        · exact List.eq_nil_of_length_eq_zero h0
        · obtain ⟨b, off, e, _⟩ := hcell h0; cases e
      subst hl
      refine ⟨_, w, ?_, by rw [List.append_nil]; exact .inr ⟨g, cap, arr, fz, rfl, hbg, hg, hfz, hnc, hcm, hcs, hcells, hbyt⟩, ⟨rfl, rfl, rfl, Nat.le_refl _, fun _ _ _ => rfl⟩⟩
      simp [Builtin.append_, run_underlying E.under, sizeOf, typeInfo, hi, Builtin.lenOf, Builtin.firstCells, hnc, storeCells]
    | some ad =>
      have hlen : (bV news).length = news.length * i.size := by rw [bV_len, hsz]; omega
      have hnews : ∀ j y, (bV news)[j]? = some y → w.cell? (ad.add j) = some y := fun j y hj => by
        rw [bV_get] at hj
        cases hu : news[j]? with
        | none => rw [hu] at hj; cases hj
        | some u =>
          rw [hu] at hj
          have hjl : j < news.length := by
            rcases Nat.lt_or_ge j news.length with h' | h'
            · exact h'
            · rw [List.getElem?_eq_none h'] at hu; cases hu
          obtain ⟨b, off, e, hc⟩ := hcell (by omega)
          cases e
          rw [show (⟨b, off, none⟩ : Addr).add j = ⟨b, off + j, none⟩ from by
            unfold Addr.add
            split
            · subst_vars; rfl
            · rfl]
          rw [hc j u hu]
          simpa using hj
      by_cases hroom : bs.length + news.length ≤ cap
      · have hr := run_append_roomX (P := P) (w := w) t ty e i E.under hi hsz g bs.length cap arr fz hg hfz ad news.length xcap (bV news) (bV_len _) hnews (bV_one _) hroom (by rw [bV_len]; omega)
        refine ⟨_, _, hr, .inr ⟨g, cap, _, fz, by rw [List.length_append], hbg, setRow_heap w g arr _ e _ hg, ?_, by rw [List.length_append]; exact hroom, hcm, ?_, fun j u hj => ?_, byt_mem.2 fun y hy => ?_⟩, ⟨rfl, rfl, rfl, by simp, fun k _ hk => setRow_other w g k _ (fun e => hk (by simp [Value.ownBlock, e]))⟩⟩
        · rcases hfz with h | h
          · exact .inl h
          · refine .inr ?_
            simp only [List.size_toArray, List.length_append, List.length_take, List.length_drop, Array.length_toList, bV_len]
            omega
        · simp only [List.size_toArray, List.length_append, List.length_take, List.length_drop, Array.length_toList, bV_len]
          omega
        · rw [List.getElem?_toArray]
          by_cases hjb : j < bs.length
          · rw [List.getElem?_append_left hjb] at hj
            rw [List.append_assoc, List.getElem?_append_left (by simp; omega), List.getElem?_take, if_pos hjb]
            simpa using hcells j u hj
          · rw [List.getElem?_append_right (by omega)] at hj
            have hjn : j - bs.length < news.length := by
              rcases Nat.lt_or_ge (j - bs.length) news.length with h' | h'
              · exact h'
              · rw [List.getElem?_eq_none h'] at hj; cases hj
            have htl : (arr.toList.take bs.length).length = bs.length := by simp; omega
            rw [List.append_assoc, List.getElem?_append_right (by rw [htl]; omega), htl, List.getElem?_append_left (by rw [bV_len]; exact hjn), bV_get, hj]
            rfl
        · have h6 := byt_mem.1 hbyt
          simp only [List.mem_append] at hy
          rcases hy with (hy | hy) | hy
          · exact h6 y (List.mem_of_mem_take hy)
          · exact byt_bV _ y hy
          · exact h6 y (List.mem_of_mem_drop hy)
      · have hr := run_append_grow (P := P) w t ty e i (.int .u8 0) E.under hi hz ⟨g, 0, none⟩ bs.length cap (bV bs) (by rw [bV_len, hsz]; omega) holds ad news.length xcap (bV news) hlen hnews (by omega) (by omega) (growslice_fits (by omega) (by rw [hby]; omega))
        have hge := grownCap_ge w (bs.length + news.length) cap e
        have hcm2 : grownCap w (bs.length + news.length) cap e ≤ maxLen := grownCap_le_maxLen w (bs.length + news.length) cap e (by unfold maxLen; omega)
        refine ⟨_, _, hr, .inr ⟨w.heap.size, _, _, (0, 0), by rw [List.length_append], hbase, heap_alloc_new w.drew _, .inl rfl, by rw [List.length_append]; exact hge, hcm2, ?_, fun j u hj => ?_, byt_mem.2 fun y hy => ?_⟩, ⟨rfl, rfl, rfl, by simp, fun k hk _ => heap_alloc_old w.drew _ hk⟩⟩
        · simp only [Array.size_append, List.size_toArray, size_zeroCells, bV_len]
          rw [show (Value.cells (.int .u8 0)).size = 1 from rfl]
          omega
        · have : ((bV bs ++ bV news))[j]? = some (.int .u8 ((u.toNat : Nat) : Int)) := by rw [← bV_app, bV_get, hj]; rfl
          have hjl : j < (bV bs ++ bV news).length := by
            rcases Nat.lt_or_ge j (bV bs ++ bV news).length with h' | h'
            · exact h'
            · rw [List.getElem?_eq_none h'] at this; cases this
          rw [Array.getElem?_append_left (by simpa using hjl)]
          simpa using this
        · simp only [Array.toList_append, List.mem_append] at hy
          rcases hy with (hy | hy) | hy
          · exact byt_bV _ y (by simpa using hy)
          · exact byt_bV _ y (by simpa using hy)
          · exact byt_zero _ y hy
theorem wpAppX {t e : TypeId} (E : Elem P t e (.int .u8 0) 1) (s x : Operand) (ho : o.op = .call { callee := .builtin .append, args := #[s, x], argTypes := #[t, t] })
    {base : Nat} {v xv : Value} {bs news : List UInt8} (hs : a.eval s = v) (hx : a.eval x = xv) (hown : OwnX e w base v bs) (hb : Bys w xv news) (hn : bs.length + news.length ≤ 140737488355328) (hbase : base ≤ w.heap.size)
    (h : ∀ v' w', OwnX e w' base v' (bs ++ news) ∧ w.grownBy w' v.ownBlock → K (a.put o.dst v') w') : o.wp P a w K Q := by
  obtain ⟨v', w', hr, h2, h3⟩ := run_appX E o.type hown hb hn hbase
  unfold Oper.wp execOp
  simp only [ho, resolve, invoke, builtin, Sem.run_bind, Sem.run_pure, Result.andThen_ok, List.map_toArray, List.map_cons, List.map_nil, hs, hx, hr]
  exact h v' w' ⟨h2, h3⟩
theorem appX {t e : TypeId} (E : Elem P t e (.int .u8 0) 1) (hgd : o.guard = none) (s x : Operand) (ho : o.op = .call { callee := .builtin .append, args := #[s, x], argTypes := #[t, t] })
    {base : Nat} {v xv : Value} {bs news : List UInt8} (hs : a.eval s = v) (hx : a.eval x = xv) (hown : OwnX e w base v bs) (hb : Bys w xv news) (hn : bs.length + news.length ≤ 140737488355328) (hbase : base ≤ w.heap.size)
    (h : ∀ v' w', OwnX e w' base v' (bs ++ news) → w.grownBy w' v.ownBlock → wpList P ops Q rest (a.put o.dst v') w') : wpList P ops Q (o :: rest) a w :=
  to_list hgd (fun _ hK => wpAppX E s x ho hs hx hown hb hn hbase hK) fun v' w' h2 => h v' w' h2.1 h2.2
theorem stepAppX {t e : TypeId} (E : Elem P t e (.int .u8 0) 1) (hgd : o.guard = none) (s x : Operand) (ho : o.op = .call { callee := .builtin .append, args := #[s, x], argTypes := #[t, t] })
    {base : Nat} {v xv : Value} {bs news : List UInt8} (hs : a.eval s = v) (hx : a.eval x = xv) (hown : OwnX e w base v bs) (hb : Bys w xv news) (hn : bs.length + news.length ≤ 140737488355328) (hbase : base ≤ w.heap.size)
    (h : ∀ v' w', OwnX e w' base v' (bs ++ news) → w.grownBy w' v.ownBlock → K (a.put o.dst v') w') : if Region.wanted o (yielded ops a.tmps) = true then Oper.wp P o a w K Q else E0 :=
  to_step hgd (fun _ hK => wpAppX E s x ho hs hx hown hb hn hbase hK) fun v' w' h2 => h v' w' h2.1 h2.2
theorem grown_below {w0 w' : World} {row : Option Nat} (hb : Below w0.heap.size w0 w) (h : w.grownBy w' row) (hr : ∀ k, row = some k → w0.heap.size ≤ k) : Below w0.heap.size w0 w' :=
  ⟨h.os.trans hb.os, h.tape.trans hb.tape, h.output.trans hb.output, Nat.le_trans hb.size h.size, fun k hk => (h.block k (Nat.lt_of_lt_of_le hk hb.size) fun e => by have := hr k e.symm; omega).trans (hb.block k hk)⟩
end
end Go.Mem
end
