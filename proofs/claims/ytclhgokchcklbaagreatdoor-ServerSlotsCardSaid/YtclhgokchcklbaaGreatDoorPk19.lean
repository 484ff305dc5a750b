/- Texts of this proof, packed: SrvSmallM, SrvSmall, SrvKindL, SrvPlay, SrvWeak, SrvHeld, LeaEnded, SrvTickM, SrvTick, SrvTickL, SrvWTick, SrvSwapOne, SrvApartL, SrvBads, SrvFullL, SrvApartS, SrvPlay7, SrvLeaL, SrvLeaV, SrvYs, SrvSlotM, SrvSame. -/
import Derived.Test.YtclhgokchcklbaaGreatDoorPk18
import Derived.Test.YtclhgokchcklbaaGreatDoorPk08
import Derived.Test.YtclhgokchcklbaaGreatDoorPk14
import Derived.Test.YtclhgokchcklbaaGreatDoorPk13
import Derived.Test.YtclhgokchcklbaaGreatDoorPk11
import Derived.Test.YtclhgokchcklbaaGreatDoorPk00
section
namespace Go.Mem
open Go Go.RowKit Gf Lea Go.Proofs.YtclhgokchcklbaaGreatDoor
theorem reqV_seten {w : World} {p : Nat} {r : Req} {t : TypeId} {k : Key} (h : Blk w p (reqV r).toArray t) (hr : r.Wf) (hk : k.length = 16) : Blk (w.setCells p 34 (bV k)) p (reqV { r with en := k }).toArray t := by
  obtain ⟨arr, g1, g2, g3⟩ := Blk.setCells (bV k) 34 _ _ h
  have hw2 : Req.Wf { r with en := k } := ⟨hr.ix, hr.sec, hk⟩
  have hs : (reqV r).toArray.size = 52 := by simp [reqV_len hr]
  have hk16 : (bV k).length = 16 := by rw [bV_len]; exact hk
  have e : arr = (reqV { r with en := k }).toArray := by
    apply Array.ext_getElem?
    intro j
    rcases Nat.lt_or_ge j 52 with hj | hj
    · rw [g3 j (by omega), List.getElem?_toArray, List.getElem?_toArray]
      by_cases hj1 : 34 ≤ j ∧ j < 50
      · rw [if_pos (by omega)]
        have := reqV_en hw2 (k := j - 34) (by omega)
        rw [show 34 + (j - 34) = j from by omega] at this
        exact this.symm
      · rw [if_neg (by omega)]
        have e0 : ∀ q : Req, q.ix.length = 16 → q.sec.length = 16 → q.en.length = 16 → ∀ q' : Req, q'.kind = q.kind → q'.ix = q.ix → q'.sec = q.sec → q'.ends = q.ends → q'.en.length = 16 → q'.vt = q.vt → q'.vb = q.vb → (reqV q)[j]? = (reqV q')[j]? := fun q h1 h2 h3 q' a1 a2 a3 a4 a5 a6 a7 => by
          unfold reqV
          rw [a1, a2, a3, a4, a6, a7]
          rcases Nat.lt_or_ge j 34 with c | c
          · rw [show (Value.int .i64 q.kind :: (bV q.ix ++ (bV q.sec ++ (Value.int .i64 q.ends :: (bV q.en ++ [q.vt, q.vb]))))) = (Value.int .i64 q.kind :: (bV q.ix ++ (bV q.sec ++ [Value.int .i64 q.ends]))) ++ (bV q.en ++ [q.vt, q.vb]) from by simp,
              show (Value.int .i64 q.kind :: (bV q.ix ++ (bV q.sec ++ (Value.int .i64 q.ends :: (bV q'.en ++ [q.vt, q.vb]))))) = (Value.int .i64 q.kind :: (bV q.ix ++ (bV q.sec ++ [Value.int .i64 q.ends]))) ++ (bV q'.en ++ [q.vt, q.vb]) from by simp,
              List.getElem?_append_left (by simp [bV_len, h1, h2]; omega), List.getElem?_append_left (by simp [bV_len, h1, h2]; omega)]
          · rw [show (Value.int .i64 q.kind :: (bV q.ix ++ (bV q.sec ++ (Value.int .i64 q.ends :: (bV q.en ++ [q.vt, q.vb]))))) = (Value.int .i64 q.kind :: (bV q.ix ++ (bV q.sec ++ (Value.int .i64 q.ends :: bV q.en)))) ++ [q.vt, q.vb] from by simp,
              show (Value.int .i64 q.kind :: (bV q.ix ++ (bV q.sec ++ (Value.int .i64 q.ends :: (bV q'.en ++ [q.vt, q.vb]))))) = (Value.int .i64 q.kind :: (bV q.ix ++ (bV q.sec ++ (Value.int .i64 q.ends :: bV q'.en)))) ++ [q.vt, q.vb] from by simp,
              List.getElem?_append_right (by simp [bV_len, h1, h2, h3]; omega), List.getElem?_append_right (by simp [bV_len, h1, h2, a5]; omega)]
            simp [bV_len, h1, h2, h3, a5]
        exact e0 r hr.ix hr.sec hr.en _ rfl rfl rfl rfl hk rfl rfl
    · rw [Array.getElem?_eq_none (by omega), Array.getElem?_eq_none (by simp [reqV_len hw2]; omega)]
  rw [← e]; exact g1
theorem reqV_setvt {r : Req} (hr : r.Wf) (v : Value) : (reqV r).toArray.setIfInBounds 50 v = (reqV { r with vt := v }).toArray := by
  apply Array.ext_getElem?
  intro j
  rw [Array.getElem?_setIfInBounds]
  have hl := reqV_len hr
  have hw2 : Req.Wf { r with vt := v } := ⟨hr.ix, hr.sec, hr.en⟩
  by_cases e : 50 = j
  · subst e
    rw [if_pos rfl, if_pos (by simp [hl])]
    simpa using (reqV_tail hw2).1.symm
  · rw [if_neg e]
    simp only [List.getElem?_toArray]
    rcases Nat.lt_or_ge j 50 with c | c
    · unfold reqV
      rw [show (Value.int .i64 r.kind :: (bV r.ix ++ (bV r.sec ++ (Value.int .i64 r.ends :: (bV r.en ++ [r.vt, r.vb]))))) = (Value.int .i64 r.kind :: (bV r.ix ++ (bV r.sec ++ (Value.int .i64 r.ends :: bV r.en)))) ++ [r.vt, r.vb] from by simp,
        show (Value.int .i64 r.kind :: (bV r.ix ++ (bV r.sec ++ (Value.int .i64 r.ends :: (bV r.en ++ [v, r.vb]))))) = (Value.int .i64 r.kind :: (bV r.ix ++ (bV r.sec ++ (Value.int .i64 r.ends :: bV r.en)))) ++ [v, r.vb] from by simp,
        List.getElem?_append_left (by simp [bV_len, hr.ix, hr.sec, hr.en]; omega), List.getElem?_append_left (by simp [bV_len, hr.ix, hr.sec, hr.en]; omega)]
    · rcases (by omega : j = 51 ∨ 52 ≤ j) with rfl | c2
      · rw [(reqV_tail hr).2, (reqV_tail hw2).2]
      · rw [List.getElem?_eq_none (by omega), List.getElem?_eq_none (by rw [reqV_len hw2]; omega)]
theorem reqV_setvb {r : Req} (hr : r.Wf) (v : Value) : (reqV r).toArray.setIfInBounds 51 v = (reqV { r with vb := v }).toArray := by
  apply Array.ext_getElem?
  intro j
  rw [Array.getElem?_setIfInBounds]
  have hl := reqV_len hr
  have hw2 : Req.Wf { r with vb := v } := ⟨hr.ix, hr.sec, hr.en⟩
  by_cases e : 51 = j
  · subst e
    rw [if_pos rfl, if_pos (by simp [hl])]
    simpa using (reqV_tail hw2).2.symm
  · rw [if_neg e]
    simp only [List.getElem?_toArray]
    rcases Nat.lt_or_ge j 51 with c | c
    · unfold reqV
      rw [show (Value.int .i64 r.kind :: (bV r.ix ++ (bV r.sec ++ (Value.int .i64 r.ends :: (bV r.en ++ [r.vt, r.vb]))))) = (Value.int .i64 r.kind :: (bV r.ix ++ (bV r.sec ++ (Value.int .i64 r.ends :: (bV r.en ++ [r.vt]))))) ++ [r.vb] from by simp,
        show (Value.int .i64 r.kind :: (bV r.ix ++ (bV r.sec ++ (Value.int .i64 r.ends :: (bV r.en ++ [r.vt, v]))))) = (Value.int .i64 r.kind :: (bV r.ix ++ (bV r.sec ++ (Value.int .i64 r.ends :: (bV r.en ++ [r.vt]))))) ++ [v] from by simp,
        List.getElem?_append_left (by simp [bV_len, hr.ix, hr.sec, hr.en]; omega), List.getElem?_append_left (by simp [bV_len, hr.ix, hr.sec, hr.en]; omega)]
    · rw [List.getElem?_eq_none (by omega), List.getElem?_eq_none (by rw [reqV_len hw2]; omega)]
end Go.Mem
end
section
namespace Go.Proofs.YtclhgokchcklbaaGreatDoor
open Go Go.RowKit Go.Mem Gf Lea
set_option linter.unusedVariables false
attribute [local irreducible] RF.V zk reqV keyC
attribute [local go_sem ↓] Go.wp_at_zero Go.wp_at_succ
attribute [local go_sem ↓] load_req store_req build_k0 store_key
attribute [local go_sem] ptrB_eq ptrO_eq ptrIs_eq aggL_eq aggIs_eq isU8_eq readK_drew hasK_drew readK_alloc_past hasK_alloc_past setCells_drew setCells_alloc_past
end Go.Proofs.YtclhgokchcklbaaGreatDoor
end
section
namespace Go.Mem
open Go Go.RowKit Gf Lea Go.Proofs.YtclhgokchcklbaaGreatDoor
section
variable {s s' : SrvS} {r : Req} {l lb : List Blob} {ts : List Tst} {o : Option (Key × List Blob)} {err : Int}
end
end Go.Mem
end
section
namespace Go.Mem
open Go Go.RowKit Gf Lea Go.Proofs.YtclhgokchcklbaaGreatDoor
end Go.Mem
namespace Go.Proofs.YtclhgokchcklbaaGreatDoor
open Go Go.RowKit Go.Mem Gf Lea
set_option linter.unusedVariables false
end Go.Proofs.YtclhgokchcklbaaGreatDoor
end
section
namespace Go.Mem
open Go Go.RowKit Gf Lea Go.Proofs.YtclhgokchcklbaaGreatDoor
end Go.Mem
end
section
namespace Go.Mem
open Go Go.RowKit Gf Lea
end Go.Mem
namespace Go.Proofs.YtclhgokchcklbaaGreatDoor
open Go Go.RowKit Go.Mem Gf Lea
set_option linter.unusedVariables false
attribute [local go_sem ↓] Go.wp_at_zero Go.wp_at_succ
attribute [local go_sem ↓] load_key store_key slice_key
attribute [local go_sem] ptrB_eq ptrO_eq ptrIs_eq aggL_eq aggIs_eq readK_drew hasK_drew readK_alloc_past hasK_alloc_past readK_alloc_in hasK_alloc_in setCells_drew setCells_alloc_past setCells_alloc_at
end Go.Proofs.YtclhgokchcklbaaGreatDoor
end
section
namespace Go.Proofs.YtclhgokchcklbaaGreatDoor
open Go Go.RowKit Go.Mem Gf Lea
def sLen : Value → Nat
  | .slice _ n _ => n
  | _ => 0
attribute [local go_sem ↓] Go.wp_at_zero Go.wp_at_succ
attribute [local go_sem ↓] load_key load_item store_item store_key slice_key
attribute [local go_sem] ptrB_eq ptrO_eq ptrIs_eq aggL_eq aggIs_eq readK_drew hasK_drew readK_alloc_past hasK_alloc_past readK_alloc_in hasK_alloc_in setCells_drew setCells_alloc_past setCells_alloc_at as_item
end Go.Proofs.YtclhgokchcklbaaGreatDoor
end
section
namespace Go.Mem
open Go Go.RowKit Gf Lea Go.Proofs.YtclhgokchcklbaaGreatDoor
set_option linter.unusedVariables false
end Go.Mem
namespace Go.Proofs.YtclhgokchcklbaaGreatDoor
open Go Go.RowKit Go.Mem Gf Lea
set_option linter.unusedVariables false
theorem IsSrv.growS {w w' : World} {C X X' S : Nat → Prop} {pb : Nat} {s : SrvS} (h : IsSrv w C X pb s) (hc : Chg S w w') (h1 : ∀ b, S b → ¬ C b) (h2 : ∀ b, S b → b < w.heap.size → X b) (h3 : ∀ b, X b → X' b) (h4 : ∀ b, X' b → X b ∨ w.heap.size ≤ b) (h5 : ∀ b, X' b → b < w'.heap.size) : IsSrv w' C X' pb s := by
  obtain ⟨sb, lb, d, L, tb, v, h⟩ := h
  have hk : ∀ b, Core pb sb lb d L tb v b → ¬ S b := fun b hb hS => h1 b hS (h.core b hb)
  refine ⟨sb, lb, d, L, tb, v, hc.blk h.blk (hk _ (.inr (.inl rfl))), ?_, ⟨h.heap.tab.chg hc (hk _ (.inr (.inr (.inl rfl)))) (fun g hg => hk g (.inr (.inr (.inr hg)))), h.heap.heap⟩, h.good, h.core, fun b hX hC => ?_, h.npb, h.ntb, h.nown⟩
  · refine h.st.grow hc (fun b hb => hk b (.inl hb)) (fun b hS hlt => .inr (h2 b hS hlt)) (fun b hM => ?_) (fun b hN => hN.imp id (h3 b)) (fun b hM => ?_)
    · rcases hM with hM | hM
      · exact .inl (.inl hM)
      · exact (h4 b hM).imp .inr id
    · rcases hM with hM | hM
      · exact Nat.lt_of_lt_of_le (h.lt (.inl hM)) hc.size
      · exact h5 b hM
  · rcases h4 b hX with h' | h'
    · exact h.xc b h' hC
    · have := h.lt (.inl hC); omega
end Go.Proofs.YtclhgokchcklbaaGreatDoor
end
section
namespace Go.Proofs.YtclhgokchcklbaaGreatDoor
open Go Go.RowKit Go.Mem Gf Lea
set_option linter.unusedVariables false
attribute [local go_sem ↓] Go.wp_at_zero Go.wp_at_succ
attribute [local go_sem ↓] load_key store_key slice_key
attribute [local go_sem] ptrB_eq ptrO_eq ptrIs_eq aggL_eq aggIs_eq readK_drew hasK_drew readK_alloc_past hasK_alloc_past readK_alloc_in hasK_alloc_in setCells_drew setCells_alloc_past setCells_alloc_at
end Go.Proofs.YtclhgokchcklbaaGreatDoor
end
section
namespace Go.Mem
open Go Go.RowKit Gf Lea Go.Proofs.YtclhgokchcklbaaGreatDoor
set_option linter.unusedVariables false
end Go.Mem
end
section
namespace Go.Mem
open Go Go.RowKit Gf Lea Go.Proofs.YtclhgokchcklbaaGreatDoor
end Go.Mem
end
section
namespace Go.Mem
open Go Go.RowKit Gf Lea Go.Proofs.YtclhgokchcklbaaGreatDoor
end Go.Mem
end
section
namespace Go.Mem
open Go Go.RowKit Gf Lea Go.Proofs.YtclhgokchcklbaaGreatDoor
def k7 : Key := 7 :: List.replicate 15 0
end Go.Mem
end
section
namespace Go.Proofs.YtclhgokchcklbaaGreatDoor
open Go Go.RowKit Go.Mem Gf Lea
set_option linter.unusedVariables false
end Go.Proofs.YtclhgokchcklbaaGreatDoor
end
section
namespace Go.Mem
open Go Go.RowKit Gf Lea Go.Proofs.YtclhgokchcklbaaGreatDoor
section
variable {d : List UInt8} {e : Int} {s : SrvS}
end
end Go.Mem
end
section
namespace Go.Mem
open Go Go.RowKit Gf Lea Go.Proofs.YtclhgokchcklbaaGreatDoor
end Go.Mem
end
section
namespace Go.Mem
open Go Go.RowKit Gf Lea Go.Proofs.YtclhgokchcklbaaGreatDoor
end Go.Mem
namespace Go.Proofs.YtclhgokchcklbaaGreatDoor
open Go Go.RowKit Go.Mem Gf Lea
set_option linter.unusedVariables false
end Go.Proofs.YtclhgokchcklbaaGreatDoor
end
section
namespace Go.Mem
open Go Go.RowKit Gf Lea Go.Proofs.YtclhgokchcklbaaGreatDoor
end Go.Mem
end
section
namespace Go.Mem
open Go Go.RowKit Gf Lea Go.Proofs.YtclhgokchcklbaaGreatDoor
end Go.Mem
namespace Go.Proofs.YtclhgokchcklbaaGreatDoor
open Go Go.RowKit Go.Mem Gf Lea
set_option linter.unusedVariables false
theorem IsSrv.less {w : World} {C X Y : Nat → Prop} {pb : Nat} {s : SrvS} (h : IsSrv w C X pb s) (hY : ∀ b, Y b → X b) : IsSrv w C Y pb s := by
  obtain ⟨sb, lb, d, L, tb, v, h⟩ := h
  refine ⟨sb, lb, d, L, tb, v, h.blk, ⟨h.st.blk, h.st.recs.mono (fun b hb => .inl (hb.imp id (hY b))), h.st.disk, h.st.tab, fun hg => h.st.ntab (hg.imp id (hY _)), fun b hb => .inl (h.core b (.inl hb)), h.st.ne, h.st.ok, fun b hb => h.st.old b (hb.imp id (hY b))⟩, h.heap, h.good, h.core, fun b hb => h.xc b (hY b hb), h.npb, h.ntb, h.nown⟩
structure SrvY (w0 w : World) (C X : Nat → Prop) (pb : Nat) (s : SrvS) : Prop where
  srv : IsSrv w C X pb s
  bel : Below w0.heap.size w0 w
  c1 : ∀ b, C b → w0.heap.size ≤ b
  x1 : ∀ b, X b → w0.heap.size ≤ b
theorem SrvY.l {w0 w : World} {C X : Nat → Prop} {pb : Nat} {s : SrvS} (h : SrvY w0 w C X pb s) : SrvL w0 w C pb s := ⟨h.srv.less (fun _ h => h.elim), h.bel, h.c1⟩
theorem SrvY.chg {w0 w w' : World} {C X : Nat → Prop} {pb : Nat} {s : SrvS} (h : SrvY w0 w C X pb s) (hc : Chg X w w') : SrvY w0 w' C X pb s :=
  ⟨h.srv.growS hc (fun b hb => h.srv.xc b hb) (fun b hb _ => hb) (fun b hb => hb) (fun b hb => .inl hb) (fun b hb => Nat.lt_of_lt_of_le (h.srv.lt (.inr hb)) hc.size), Chg.far h.bel hc h.bel.size h.x1, h.c1, h.x1⟩
theorem SrvL.y {w0 w w' : World} {C X : Nat → Prop} {pb : Nat} {s : SrvS} (h : SrvL w0 w C pb s) (hb : Below w.heap.size w w') (h1 : ∀ b, X b → w.heap.size ≤ b) (h2 : ∀ b, X b → b < w'.heap.size) : SrvY w0 w' C X pb s :=
  ⟨h.srv.growS (S := fun _ => False) (Chg.of_below hb) (fun _ h => h.elim) (fun _ h => h.elim) (fun _ h => h.elim) (fun b hb => .inr (h1 b hb)) h2, h.bel.trans (hb.mono h.bel.size), h.c1, fun b hb => Nat.le_trans h.bel.size (h1 b hb)⟩
end Go.Proofs.YtclhgokchcklbaaGreatDoor
end
section
namespace Go.Proofs.YtclhgokchcklbaaGreatDoor
open Go Go.RowKit Go.Mem Gf Lea
set_option linter.unusedVariables false
section
variable {w0 w w' : World} {C C' X : Nat → Prop} {pb : Nat} {s s' : SrvS}
theorem SrvY.sch (h : SrvY w0 w C X pb s) (hs : IsSrv w' C' X pb s') (hc : SChg C C' w w') : SrvY w0 w' C' X pb s' :=
  ⟨hs, Chg.far h.bel hc.1 h.bel.size h.c1, fun b hb => by
    rcases hc.2 b hb with h1 | h1
    · exact h.c1 b h1
    · exact Nat.le_trans h.bel.size h1, h.x1⟩
theorem SrvY.swap (h : SrvY w0 w C X pb s) (hd : s.dead = false) (hB : SrvB s) (hw : s.st.disk.writes < 72057594037800000) {r : Req} (hr : r.Wf) (hk : r.kind = 4) {l : List Blob} (hl : BlAt w (fun b => C b ∨ X b) r.vb l) (hz : ∀ x ∈ l, x.2.length ≤ 16384) {ts : List Tst} (hts : TsAt w (fun b => C b ∨ X b) r.vt ts) {o : Option (Key × List Blob)} (ho : ContIs s r.ix o) :
    Calls Tryz.prog 15 #[.pointer (some ⟨pb, 0, none⟩), .agg (reqV r).toArray] w fun e w' => ∃ C' err s', e = .returned (.agg #[.int .i64 err, .slice none 0 0]) ∧ SwapR s r l ts o err s' ∧ SrvY w0 w' C' X pb s' ∧ SChg C C' w w' := by
  refine (do_answers hr h.srv hd 4 rfl hk (SwapR s r l ts o) fun w1 p4 hb h4 hs => ?_).mono ?_
  · have hm : ∀ b, (C b ∨ (X b ∨ b = p4)) → (C b ∨ X b) ∨ w.heap.size ≤ b := fun b hb' => hb'.elim (fun h => .inl (.inl h)) (fun h' => h'.elim (fun f => .inl (.inr f)) (fun e => .inr (by rw [e]; exact h4)))
    have hl1 : BlAt w1 (fun b => C b ∨ (X b ∨ b = p4)) r.vb l := BlAt.below (hl.mono hm) hb
    have ht1 : TsAt w1 (fun b => C b ∨ (X b ∨ b = p4)) r.vt ts := TsAt.below (hts.mono hm) hb
    exact swap_calls16 C _ pb s r l ts o hr w1 hs hB hw hl1 hz ht1 ho
  · rintro e w' ⟨C', err, s', rfl, hR, hs', hsc⟩
    exact ⟨C', err, s', rfl, hR, h.sch hs' hsc, hsc⟩
set_option maxRecDepth 100000 in
theorem SrvY.stop (h : SrvY w0 w C X pb s) (x y : Int) (hx : x ≤ 9223372036854775807) :
    Calls Tryz.prog 17 #[.pointer (some ⟨pb, 0, none⟩), .int .i64 x, .int .i64 y] w fun e w' => e = .returned (.tuple #[]) ∧ SrvY w0 w' C X pb { s with st := { s.st with disk := s.st.disk.stop x y } } ∧ SChg C C w w' := by
  obtain ⟨sb, lb, d, L, tb, v, hA⟩ := h.srv
  have c2 : w.cell? ⟨pb, 2, none⟩ = some (.pointer (some ⟨d, 0, none⟩)) := hA.blk.cell 2
  have H := Lib.hid (And.intro h (And.intro hA hx))
  clear h hA hx
  go_enter Tryz.func17, Tryz.ntmps17
  go_wp2_with fail
  refine (dstop_calls d L s.st.disk x y w H.out.2.1.st.disk H.out.2.2).mono ?_
  rintro e w1 ⟨rfl, hD, hc⟩
  have HD := Lib.hid (And.intro hD hc)
  clear hD hc
  go_wp2_with fail
  go_end0
  have hc' : Chg (DL d L) w w1 := HD.out.2.mono (fun k hk => .inl hk)
  have hcF : Chg (Foot sb lb d L) w w1 := HD.out.2.mono (fun k hk => .inr (.inr (.inl hk)))
  have hS := SrvAt.store H.out.2.1 hcF (H.out.2.1.st.redisk hc' HD.out.1 rfl (Nat.le_refl _) H.out.2.1.st.ok.few)
  have hsc : SChg C C w w1 := ⟨hcF.mono H.out.2.1.foot, fun b hb => .inl hb⟩
  exact ⟨rfl, H.out.1.sch ⟨_, _, _, _, _, _, hS⟩ hsc, hsc⟩
theorem SrvY.restart (h : SrvY w0 w C X pb s) {m : Nat} {l : List Sto.Rec} (hh : SHold m s.st.disk s.room l) (hl : l.length = s.slots) (hf : s.slots ≤ 120) (hr : 1 ≤ s.room ∧ s.room ≤ 1000) (hm : m < 1000000) :
    Calls Tryz.prog 18 #[.pointer (some ⟨pb, 0, none⟩)] w fun e w' => ∃ C' s', e = .returned (.int .i64 0) ∧ RestP m s l s' ∧ SrvY w0 w' C' X pb s' ∧ SChg C C' w w' := by
  refine (restart_calls C _ pb s m l w h.srv hh hl hf hr hm).mono ?_
  rintro e w' ⟨C', s', rfl, hR, hs', hsc⟩
  exact ⟨C', s', rfl, hR, h.sch hs' hsc, hsc⟩
theorem SrvY.restartT (h : SrvY w0 w C X pb s) {m : Nat} {f : Look} (ht : SrvT m s f) (hm : m < 1000000) :
    Calls Tryz.prog 18 #[.pointer (some ⟨pb, 0, none⟩)] w fun e w' => ∃ C' s', e = .returned (.int .i64 0) ∧ SrvG (m + 1) s' ∧ (∀ nm, Sto.look s'.st.recs nm = f nm) ∧ s'.st.disk.stops = false ∧ s'.slots = s.slots ∧ s'.room = s.room ∧ SrvY w0 w' C' X pb s' ∧ SChg C C' w w' := by
  rcases ht with ⟨hg, hf⟩ | ⟨l, hx, hf⟩
  · refine (h.restart hg.hold hg.slots.symm hg.few (by rw [hg.room]; exact hg.st.room) hm).mono ?_
    rintro e w' ⟨C', s', rfl, hR, hs', hsc⟩
    exact ⟨C', s', rfl, hR.good, fun nm => by rw [hR.thin.look, hf], hR.stops, hR.slots, hR.room, hs', hsc⟩
  · refine (h.restart hx.hold hx.slots.symm hx.few hx.room hm).mono ?_
    rintro e w' ⟨C', s', rfl, hR, hs', hsc⟩
    exact ⟨C', s', rfl, hR.good, fun nm => by rw [hR.thin.look, hf], hR.stops, hR.slots, hR.room, hs', hsc⟩
end
theorem SrvY.more {w0 w w' : World} {C X X' : Nat → Prop} {pb : Nat} {s : SrvS} (h : SrvY w0 w C X pb s) (hb : Below w.heap.size w w') (h3 : ∀ b, X b → X' b) (h4 : ∀ b, X' b → X b ∨ w.heap.size ≤ b) (h5 : ∀ b, X' b → b < w'.heap.size) : SrvY w0 w' C X' pb s :=
  ⟨h.srv.growS (S := fun _ => False) (Chg.of_below hb) (fun _ h => h.elim) (fun _ h => h.elim) h3 h4 h5, h.bel.trans (hb.mono h.bel.size), h.c1, fun b hb' => (h4 b hb').elim (h.x1 b) (fun h' => Nat.le_trans h.bel.size h')⟩
end Go.Proofs.YtclhgokchcklbaaGreatDoor
end
section
namespace Go.Mem
open Go Go.RowKit Gf Lea Go.Proofs.YtclhgokchcklbaaGreatDoor
set_option linter.unusedVariables false
theorem blAt_pair {w : World} {N : Nat → Prop} {g : Nat} {n k : Int} {a a2 : Option Addr} {c c2 : Nat} {bs bs2 : List UInt8} {t : TypeId} (hb : Blk w g #[.int .i64 n, .slice a bs.length c, .int .i64 k, .slice a2 bs2.length c2] t) (hN : ¬ N g) (hd : DataZ w N (.slice a bs.length c) bs) (hd2 : DataZ w N (.slice a2 bs2.length c2) bs2) : BlAt w N (.slice (some ⟨g, 0, none⟩) 2 2) [(n, bs), (k, bs2)] := by
  refine ⟨_, 2, rfl, Nat.le_refl _, by decide, fun _ => ⟨g, 0, rfl, hb.lt, hN, fun i x hx => ?_⟩⟩
  match i with
  | 0 =>
    simp at hx
    subst hx
    exact ⟨by rw [hb.cell]; rfl, a, c, by rw [hb.cell]; rfl, hd⟩
  | 1 =>
    simp at hx
    subst hx
    exact ⟨by rw [hb.cell]; rfl, a2, c2, by rw [hb.cell]; rfl, hd2⟩
  | i + 2 => simp at hx
theorem dataZ_new {w : World} {N : Nat → Prop} {g : Nat} {bs : List UInt8} {n : Nat} {t : TypeId} (hb : Blk w g (bV bs).toArray t) (hn : bs.length = n) (hN : ¬ N g) (hm : n ≤ maxLen) : DataZ w N (.slice (some ⟨g, 0, none⟩) n n) bs := by
  subst hn
  refine ⟨⟨some ⟨g, 0, none⟩, bs.length, rfl, Nat.le_refl _, hm, fun _ => ⟨g, 0, rfl, fun i u hi => ?_⟩⟩, some ⟨g, 0, none⟩, bs.length, rfl, fun _ b hb' => ?_⟩
  · rw [hb.cell, Nat.zero_add, List.getElem?_toArray, bV_get, hi]; rfl
  · cases hb'
    exact ⟨hb.lt, hN⟩
theorem dataZ_old {w0 w : World} {N : Nat → Prop} (hw : Below w0.heap.size w0 w) (hN : ∀ b, N b → w0.heap.size ≤ b) {v : Value} {bs : List UInt8} (hb : Bys w0 v bs) : DataZ w N v bs := by
  refine ⟨hb.below hw, ?_⟩
  obtain ⟨a, c, rfl, h1, h2, h3⟩ := hb
  refine ⟨a, c, rfl, fun h0 b hb => ?_⟩
  subst hb
  obtain ⟨g, off, e, hc⟩ := h3 h0
  injection e with e
  have hlt : b.block < w0.heap.size := by
    rw [e]
    exact World.block_lt_of_cell? w0 ⟨g, off + 0, none⟩ (hc 0 _ (List.getElem?_eq_getElem h0))
  exact ⟨Nat.lt_of_lt_of_le hlt hw.size, fun hC => by have := hN _ hC; omega⟩
abbrev bp (n : Int) (a : Option Addr) (l c : Nat) : BP := (n, a, l, c)
def rq (en : Key) (vt vb : Value) : Req := ⟨4, z16, z16, 9, en, vt, vb⟩
theorem rq_wf {en : Key} (h : en.length = 16) (vt vb : Value) : (rq en vt vb).Wf := ⟨by show z16.length = 16; decide, by show z16.length = 16; decide, h⟩
theorem may9s : May 9 := ⟨by decide, by decide⟩
end Go.Mem
namespace Go.Proofs.YtclhgokchcklbaaGreatDoor
open Go Go.RowKit Go.Mem Gf Lea
set_option linter.unusedVariables false
structure SlM (w wx : World) (C : Nat → Prop) (pb p : Nat) (s : SrvS) (lb lnew lold : List Blob) (vb vn vo : Value) : Prop where
  y : SrvY w wx C (fun b => b = p) pb s
  bl : BlAt wx (fun b => C b ∨ b = p) vb lb
  new : BlAt wx (fun b => C b ∨ b = p) vn lnew
  old : BlAt wx (fun b => C b ∨ b = p) vo lold
  lt : p < wx.heap.size
  np : ¬ C p
section
variable {w wx wx' : World} {C C' : Nat → Prop} {pb p : Nat} {s s' : SrvS} {lb lnew lold : List Blob} {vb vn vo : Value}
theorem SlM.below (h : SlM w wx C pb p s lb lnew lold vb vn vo) (hb : Below wx.heap.size wx wx') : SlM w wx' C pb p s lb lnew lold vb vn vo :=
  ⟨h.y.more hb (fun b h => h) (fun b h => .inl h) (fun b e => by have := hb.size; have := h.lt; omega), h.bl.below hb, h.new.below hb, h.old.below hb, Nat.lt_of_lt_of_le h.lt hb.size, h.np⟩
theorem SlM.chg (h : SlM w wx C pb p s lb lnew lold vb vn vo) (hc : Chg (fun b => b = p) wx wx') : SlM w wx' C pb p s lb lnew lold vb vn vo :=
  ⟨h.y.chg hc, h.bl.chg hc (fun b hb _ => .inr hb), h.new.chg hc (fun b hb _ => .inr hb), h.old.chg hc (fun b hb _ => .inr hb), Nat.lt_of_lt_of_le h.lt hc.size, h.np⟩
theorem SlM.sch (h : SlM w wx C pb p s lb lnew lold vb vn vo) (hy : SrvY w wx' C' (fun b => b = p) pb s') (hc : SChg C C' wx wx') : SlM w wx' C' pb p s' lb lnew lold vb vn vo :=
  ⟨hy, h.bl.schX hc, h.new.schX hc, h.old.schX hc, Nat.lt_of_lt_of_le h.lt hc.1.size, fun hC => (hc.2 p hC).elim h.np (fun h' => by have := h.lt; omega)⟩
theorem SlM.blk (h : SlM w wx C pb p s lb lnew lold vb vn vo) (hc : SChg C C' wx wx') {arr : Array Value} {t : TypeId} (hk : Blk wx p arr t) : Blk wx' p arr t := hc.1.blk hk h.np
theorem slM_new {p15 gz q0 q1 an ac bn bc zl : Nat} {aa ba : Option Addr} {A B zc : List UInt8} {arr : Array Value} {t t1 t2 t3 t4 : TypeId} (hY : SrvY w wx C (fun b => b = p ∨ b = p15) pb s) (hBl : BlAt wx (fun b => C b ∨ (b = p ∨ b = p15)) vb lb) (kp : Blk wx p arr t)
    (k15 : Blk wx p15 #[.int .i64 0, .slice ba bn bc, .int .i64 2, .slice (some ⟨gz, 0, none⟩) zl zl] t1) (kz : Blk wx gz (bV zc).toArray t2) (kq0 : Blk wx q0 (bV [1]).toArray t3) (kq1 : Blk wx q1 #[.int .i64 0, .slice aa an ac, .int .i64 2, .slice (some ⟨q0, 0, none⟩) 1 1] t4)
    (hA : Bys w (.slice aa an ac) A) (hB : Bys w (.slice ba bn bc) B) (han : an = A.length) (hbn : bn = B.length) (hzl : zl = zc.length) (hz2 : zc.length ≤ 2) (hpw : w.heap.size ≤ p) (np : ¬ C p) (n15 : ¬ C p15) (nz : ¬ C gz) (nq0 : ¬ C q0) (nq1 : ¬ C q1) (d1 : p15 ≠ p) (d2 : gz ≠ p) (d3 : q0 ≠ p) (d4 : q1 ≠ p) :
    SlM w wx C pb p s lb (two B zc) (two A [1]) vb (.slice (some ⟨p15, 0, none⟩) 2 2) (.slice (some ⟨q1, 0, none⟩) 2 2) := by
  subst han; subst hbn; subst hzl
  have hN : ∀ b, (C b ∨ b = p) → w.heap.size ≤ b := fun b hb => hb.elim (hY.c1 b) (fun e => by rw [e]; exact hpw)
  have no : ∀ b, ¬ C b → b ≠ p → ¬ (C b ∨ b = p) := fun b h1 h2 h => h.elim h1 h2
  refine ⟨⟨hY.srv.less (fun b h => .inl h), hY.bel, hY.c1, fun b h => by rw [h]; exact hpw⟩, hBl.mono (fun b hb => .inl (hb.elim .inl (fun e => .inr (.inl e)))), ?_, ?_, kp.lt, np⟩
  · exact blAt_pair k15 (no _ n15 d1) (dataZ_old hY.bel hN hB) (dataZ_new kz rfl (no _ nz d2) (Nat.le_trans hz2 (by decide)))
  · exact blAt_pair kq1 (no _ nq1 d4) (dataZ_old hY.bel hN hA) (dataZ_new kq0 rfl (no _ nq0 d3) (by decide))
end
end Go.Proofs.YtclhgokchcklbaaGreatDoor
end
section
namespace Go.Proofs.YtclhgokchcklbaaGreatDoor
open Go Go.RowKit Go.Mem Gf Lea
set_option linter.unusedVariables false
attribute [local go_sem ↓] Go.wp_at_zero Go.wp_at_succ
theorem list_eq_of {α : Type} {l l' : List α} (hn : l.length = l'.length) (h : ∀ q, q < l.length → l[q]? = l'[q]?) : l = l' := by
  apply List.ext_getElem?
  intro q
  rcases Nat.lt_or_ge q l.length with h1 | h1
  · exact h q h1
  · rw [List.getElem?_eq_none h1, List.getElem?_eq_none (by omega)]
set_option maxRecDepth 100000 in
set_option maxHeartbeats 2000000 in
theorem blobseq_calls (va vb : Value) (l l' : List Blob) (w : World) (ha : BlAt w (fun _ => False) va l) (hb : BlAt w (fun _ => False) vb l') :
    Calls Tryz.prog 20 #[va, vb] w fun e w' => e = .returned (.bool (decide (l = l'))) ∧ ∃ k, w' = w.drewN k := by
  obtain ⟨aa, ac, rfl, ha1, ha2, harow⟩ := id ha
  obtain ⟨ba, bc, rfl, hb1, hb2, hbrow⟩ := id hb
  obtain ⟨n, hn⟩ : ∃ n, n = l.length := ⟨_, rfl⟩
  obtain ⟨m, hm⟩ : ∃ n, n = l'.length := ⟨_, rfl⟩
  rw [← hn] at ha1 harow ⊢
  rw [← hm] at hb1 hbrow ⊢
  unfold maxLen at ha2 hb2
  have H := Lib.hid (And.intro hn (And.intro hm (And.intro harow hbrow)))
  clear ha hb hn hm harow hbrow
  by_cases hnm : n = m
  rotate_left
  · have t1 : ((n : Int) != (m : Int)) = true := by simp; omega
    have t2 : (n != m) = true := by simp; omega
    have hd : decide (l = l') = false := by
      simp
      intro e
      rw [e] at H
      have := H.out.1
      have := H.out.2.1
      omega
    have HD := Lib.hid hd
    replace hnm := Lib.hid hnm
    clear hd
    go_enter Tryz.func20, Tryz.ntmps20
    go_wp2_with fail
    go_ret
    exact ⟨by rw [HD.out]; rfl, 0, rfl⟩
  · subst hnm
    have t1 : ((n : Int) != (n : Int)) = false := by simp
    have t2 : (n != n) = false := by simp
    go_enter Tryz.func20, Tryz.ntmps20
    go_upto_region 4 with fail
    go_loopw [13] (fun vi wr => ∃ i : Nat, i ≤ n ∧ vi = .int .i64 i ∧ Hid ((∀ q, q < i → l[q]? = l'[q]?) ∧ ∃ k, wr = w.drewN k)) (fun vi _ => n - (intOf vi).toNat)
    case atStart => exact ⟨0, Nat.zero_le _, rfl, (fun q h => by omega), 0, rfl⟩
    case round =>
      obtain ⟨i, hi0, rfl, G⟩ := hrel
      by_cases hin : i < n
      · obtain ⟨b1, o1, rfl, hl1, _, hc1⟩ := H.out.2.2.1 (by omega)
        obtain ⟨b2, o2, rfl, hl2, _, hc2⟩ := H.out.2.2.2 (by omega)
        have hx : l[i]? = some (l[i]'(by have := H.out.1; omega)) := by simp
        generalize l[i]'(by have := H.out.1; omega) = x at hx
        have hy : l'[i]? = some (l'[i]'(by have := H.out.2.1; omega)) := by simp
        generalize l'[i]'(by have := H.out.2.1; omega) = y at hy
        obtain ⟨c1, a1, d1, c2, hd1⟩ := hc1 i x hx
        obtain ⟨e1, a2, d2, e2, hd2⟩ := hc2 i y hy
        obtain ⟨kk, hkk⟩ := G.out.2
        have i0 : (0 : Int) ≤ (i : Int) := by omega
        have i1 : (i : Int) < (n : Int) := by omega
        obtain ⟨z, hz⟩ : ∃ z, z = x.1 := ⟨_, rfl⟩
        obtain ⟨u, hu⟩ : ∃ z, z = y.1 := ⟨_, rfl⟩
        obtain ⟨xl, hxl⟩ : ∃ z, z = x.2.length := ⟨_, rfl⟩
        obtain ⟨yl, hyl⟩ : ∃ z, z = y.2.length := ⟨_, rfl⟩
        have f1 : wr.cell? ⟨b1, o1 + i * 2, none⟩ = some (.int .i64 z) := by rw [hkk, hz]; exact c1
        have f2 : wr.cell? ⟨b1, o1 + i * 2 + 1, none⟩ = some (.slice a1 xl d1) := by rw [hkk, hxl]; exact c2
        have f3 : wr.cell? ⟨b2, o2 + i * 2, none⟩ = some (.int .i64 u) := by rw [hkk, hu]; exact e1
        have f4 : wr.cell? ⟨b2, o2 + i * 2 + 1, none⟩ = some (.slice a2 yl d2) := by rw [hkk, hyl]; exact e2
        have hs := fun k => same8_calls (.slice a1 xl d1) (.slice a2 yl d2) x.2 y.2 (wr.drewN k) (by rw [hkk, hxl]; exact hd1.1) (by rw [hkk, hyl]; exact hd2.1)
        have HX := Lib.hid (And.intro hx (And.intro hy (And.intro hz (And.intro hu (And.intro hs hkk)))))
        clear hx hy hz hu hxl hyl hs hkk c1 c2 e1 e2 hc1 hc2 hd1 hd2
        by_cases hzu : z = u
        rotate_left
        · have t3 : (z != u) = true := by simpa using hzu
          have hd : decide (l = l') = false := by
            simp
            intro e
            have := HX.out.1
            rw [e, HX.out.2.1] at this
            cases this
            exact hzu (HX.out.2.2.1.trans HX.out.2.2.2.1.symm)
          have HD := Lib.hid hd
          replace hzu := Lib.hid hzu
          clear hd
          go_upto_region 6 with fail
          go_quiet (fail)
          go_wp2_with fail
          go_ret
          exact ⟨by rw [HD.out]; rfl, by rw [HX.out.2.2.2.2.2, World.drewN_drewN]; exact ⟨_, rfl⟩⟩
        · have t3 : (z != u) = false := by simpa using hzu
          have HZ := Lib.hid hzu
          clear hzu
          have hq : ∀ k, Calls Tryz.prog 44 #[.slice a1 xl d1, .slice a2 yl d2] (wr.drewN k) fun e w' => e = .returned (.bool (decide (x.2 = y.2))) ∧ ∃ n, w' = wr.drewN n := fun k => by
            refine (HX.out.2.2.2.2.1 k).mono ?_
            rintro e w' ⟨rfl, q, rfl⟩
            exact ⟨rfl, _, World.drewN_drewN _ _ _⟩
          have HQ := Lib.hid hq
          clear hq
          by_cases hxy : x.2 = y.2
          · have hdx : decide (x.2 = y.2) = true := by simpa using hxy
            have HXY := Lib.hid hxy
            rw [hdx] at HQ
            clear hxy hdx
            go_upto_region 6 with fail
            go_quiet (exact HQ.out _)
            go_wp2_with fail
            exact ⟨⟨i + 1, by omega, by simp, fun q hq => by
              rcases Nat.lt_or_ge q i with h | h
              · exact G.out.1 q h
              · have : q = i := by omega
                subst this
                rw [HX.out.1, HX.out.2.1]
                have e1 : x.1 = y.1 := HX.out.2.2.1.symm.trans (HZ.out.trans HX.out.2.2.2.1)
                exact congrArg some (Prod.ext e1 HXY.out), by rw [HX.out.2.2.2.2.2, World.drewN_drewN]; exact ⟨_, rfl⟩⟩, by show n - ((i : Int) + 1).toNat < n - (i : Int).toNat; omega⟩
          · have hdx : decide (x.2 = y.2) = false := by simpa using hxy
            have hd : decide (l = l') = false := by
              simp
              intro e
              have := HX.out.1
              rw [e, HX.out.2.1] at this
              cases this
              exact hxy rfl
            have HD := Lib.hid hd
            rw [hdx] at HQ
            clear hxy hdx hd
            go_upto_region 6 with fail
            go_quiet (exact HQ.out _)
            go_wp2_with fail
            go_ret
            exact ⟨by rw [HD.out]; rfl, by rw [HX.out.2.2.2.2.2, World.drewN_drewN]; exact ⟨_, rfl⟩⟩
      · obtain rfl : i = n := by omega
        have hd : decide (l = l') = true := by
          simp
          exact list_eq_of (by have := H.out.1; have := H.out.2.1; omega) (fun q hq => G.out.1 q (by have := H.out.1; omega))
        have HD := Lib.hid hd
        clear hd
        go_wp2_with fail
        go_ret
        exact ⟨by rw [HD.out]; rfl, G.out.2⟩
end Go.Proofs.YtclhgokchcklbaaGreatDoor
end
