/- Texts of this proof, packed: SrvReqB, SrvLab, SrvTell, SrvOne, SrvWake, ServerNewsWalk, TabOf. -/
import Derived.Test.YtclhgokchcklbaaGreatDoorPn10
import Derived.Great.FillDense
import Derived.Test.YtclhgokchcklbaaGreatDoorPn01
import Derived.Test.YtclhgokchcklbaaGreatDoorPn08
import Derived.Test.YtclhgokchcklbaaGreatDoorRows
import Derived.Lib.LaidTab
import Derived.LaidMore
section
namespace Go.Mem
open Go Go.RowKit Gf Lea
structure RF where
  kind : Value
  ix : List Value
  sec : List Value
  ends : Value
  en : List Value
  vt : Value
  vb : Value
def RF.V (f : RF) : List Value := f.kind :: (f.ix ++ (f.sec ++ (f.ends :: (f.en ++ [f.vt, f.vb]))))
def zk : List Value := bV z16
theorem zk_eq : zk = bV z16 := rfl
def RF.zero : RF := ⟨.int .i64 0, zk, zk, .int .i64 0, zk, .slice none 0 0, .slice none 0 0⟩
def RF.set (f : RF) : Nat → Value → RF
  | 0, v => { f with kind := v }
  | 1, v => { f with ix := aggL v }
  | 2, v => { f with sec := aggL v }
  | 3, v => { f with ends := v }
  | 4, v => { f with en := aggL v }
  | 5, v => { f with vt := v }
  | 6, v => { f with vb := v }
  | _, _ => f
def okAt : Nat → Value → Bool
  | 0, v => v.oneCell'
  | 1, v => aggIs v && decide ((aggL v).length = 16)
  | 2, v => aggIs v && decide ((aggL v).length = 16)
  | 3, v => v.oneCell'
  | 4, v => aggIs v && decide ((aggL v).length = 16)
  | 5, v => v.oneCell'
  | 6, v => v.oneCell'
  | _, _ => false
structure RF.Ok (f : RF) : Prop where
  ix : f.ix.length = 16
  sec : f.sec.length = 16
  en : f.en.length = 16
theorem zk_len : zk.length = 16 := by rw [zk_eq, bV_len]; rfl
theorem RF.zero_ok : RF.zero.Ok := ⟨zk_len, zk_len, zk_len⟩
theorem RF.Ok.set {f : RF} (h : f.Ok) {i : Nat} {v : Value} (hv : okAt i v = true) : (f.set i v).Ok := by
  match i, hv with
  | 0, _ => exact ⟨h.ix, h.sec, h.en⟩
  | 1, hv => simp [okAt] at hv; exact ⟨hv.2, h.sec, h.en⟩
  | 2, hv => simp [okAt] at hv; exact ⟨h.ix, hv.2, h.en⟩
  | 3, _ => exact ⟨h.ix, h.sec, h.en⟩
  | 4, hv => simp [okAt] at hv; exact ⟨h.ix, h.sec, hv.2⟩
  | 5, _ => exact ⟨h.ix, h.sec, h.en⟩
  | 6, _ => exact ⟨h.ix, h.sec, h.en⟩
theorem RF.Ok.len {f : RF} (h : f.Ok) : f.V.length = 52 := by
  unfold RF.V
  simp [h.ix, h.sec, h.en]
theorem cells_one {v : Value} (h : v.oneCell' = true) : v.cells = #[v] := by
  cases v <;> first | rfl | cases h
theorem cells_agg {v : Value} (h : aggIs v = true) : v.cells = (aggL v).toArray := by
  cases v <;> first | rfl | cases h
theorem fold_cells (off : Nat) (q c : Array Value) (h : off + q.size ≤ c.size) : q.zipIdx.foldl (fun cs (x : Value × Nat) => cs.setIfInBounds (off + x.2) x.1) c = (c.toList.take off ++ q.toList ++ c.toList.drop (off + q.size)).toArray := by
  have e : q.zipIdx.foldl (fun cs (x : Value × Nat) => cs.setIfInBounds (off + x.2) x.1) c = (q.toList.zipIdx 0).foldl (fun cs (x : Value × Nat) => cs.setIfInBounds (off + x.2) x.1) c := by
    rw [← Array.foldl_toList, Array.toList_zipIdx]
  obtain ⟨h1, h2⟩ := Great.foldl_set off q.toList 0 c
  rw [e]
  apply Array.ext_getElem?
  intro k
  rw [h2]
  simp only [Nat.add_zero, Array.length_toList, List.getElem?_toArray]
  by_cases hk : k < off
  · rw [if_neg (by omega), List.getElem?_append_left (by simp; omega), List.getElem?_append_left (by simp; omega), List.getElem?_take, if_pos hk, Array.getElem?_toList]
  · by_cases hk2 : k < off + q.size
    · rw [if_pos (by omega), List.getElem?_append_left (by simp; omega), List.getElem?_append_right (by simp; omega)]
      simp only [List.length_take, Array.length_toList, Array.getElem?_toList]
      congr 1
      omega
    · rw [if_neg (by omega), List.getElem?_append_right (by simp; omega)]
      simp only [List.length_append, List.length_take, Array.length_toList, List.getElem?_drop]
      rw [← Array.getElem?_toList]
      congr 1
      omega
def reqPl : List (Nat × Nat) := [(0, 1), (1, 16), (17, 16), (33, 1), (34, 16), (50, 1), (51, 1)]
theorem take_app {a b : List Value} {n : Nat} (h : a.length = n) : (a ++ b).take n = a := by rw [List.take_append_of_le_length (by omega), List.take_of_length_le (by omega)]
theorem drop_app {a b : List Value} {n : Nat} (h : a.length = n) : (a ++ b).drop n = b := by rw [List.drop_append_of_le_length (by omega), List.drop_of_length_le (by omega), List.nil_append]
theorem set_mid {a b c d : List Value} {n m : Nat} (h1 : a.length = n) (h2 : b.length = m) : ((a ++ (b ++ c)).take n ++ d ++ (a ++ (b ++ c)).drop (n + m)) = a ++ (d ++ c) := by
  rw [take_app h1, ← List.append_assoc a b c, drop_app (by rw [List.length_append]; omega), List.append_assoc]
theorem fill_step {f : RF} (h : f.Ok) {i : Nat} {v : Value} (hv : okAt i v = true) (rest : List (Nat × Value)) : Instr.fill (reqPl.toArray[·]?) f.V.toArray ((i, v) :: rest) = Instr.fill (reqPl.toArray[·]?) (f.set i v).V.toArray rest := by
  have hl := h.len
  obtain ⟨k, ix, sec, e, en, vt, vb⟩ := f
  obtain ⟨h1, h2, h3⟩ := h
  simp only at h1 h2 h3
  have key : ∀ (off n : Nat) (q : List Value), reqPl.toArray[i]? = some (off, n) → v.cells = q.toArray → q.length = n → off + n ≤ 52 →
      Instr.fill (reqPl.toArray[·]?) (RF.V ⟨k, ix, sec, e, en, vt, vb⟩).toArray ((i, v) :: rest) = Instr.fill (reqPl.toArray[·]?) ((RF.V ⟨k, ix, sec, e, en, vt, vb⟩).take off ++ q ++ (RF.V ⟨k, ix, sec, e, en, vt, vb⟩).drop (off + n)).toArray rest := fun off n q e1 e2 e3 e4 => by
    rw [Instr.fill]
    simp only [e1, e2]
    rw [if_neg (by simp [hl, e3]; omega), fold_cells _ _ _ (by simp [hl]; omega)]
    simp [e3]
  match i, hv with
  | 0, hv => rw [key 0 1 [v] rfl (cells_one hv) rfl (by decide)]; rfl
  | 1, hv =>
    simp only [okAt, Bool.and_eq_true, decide_eq_true_eq] at hv
    rw [key 1 16 (aggL v) rfl (cells_agg hv.1) hv.2 (by decide)]
    exact congrArg (fun l => Instr.fill _ (List.toArray l) rest) (set_mid (a := [k]) (b := ix) rfl h1)
  | 2, hv =>
    simp only [okAt, Bool.and_eq_true, decide_eq_true_eq] at hv
    rw [key 17 16 (aggL v) rfl (cells_agg hv.1) hv.2 (by decide)]
    have : RF.V ⟨k, ix, sec, e, en, vt, vb⟩ = (k :: ix) ++ (sec ++ (e :: (en ++ [vt, vb]))) := by simp [RF.V]
    rw [this, set_mid (by simp; omega) h2]
    simp [RF.V, RF.set]
  | 3, hv =>
    rw [key 33 1 [v] rfl (cells_one hv) rfl (by decide)]
    have : RF.V ⟨k, ix, sec, e, en, vt, vb⟩ = (k :: (ix ++ sec)) ++ ([e] ++ (en ++ [vt, vb])) := by simp [RF.V]
    rw [this, set_mid (m := 1) (by simp; omega) rfl]
    simp [RF.V, RF.set]
  | 4, hv =>
    simp only [okAt, Bool.and_eq_true, decide_eq_true_eq] at hv
    rw [key 34 16 (aggL v) rfl (cells_agg hv.1) hv.2 (by decide)]
    have : RF.V ⟨k, ix, sec, e, en, vt, vb⟩ = (k :: (ix ++ (sec ++ [e]))) ++ (en ++ [vt, vb]) := by simp [RF.V]
    rw [this, set_mid (by simp; omega) h3]
    simp [RF.V, RF.set]
  | 5, hv =>
    rw [key 50 1 [v] rfl (cells_one hv) rfl (by decide)]
    have : RF.V ⟨k, ix, sec, e, en, vt, vb⟩ = (k :: (ix ++ (sec ++ (e :: en)))) ++ ([vt] ++ [vb]) := by simp [RF.V]
    rw [this, set_mid (m := 1) (by simp; omega) rfl]
    simp [RF.V, RF.set]
  | 6, hv =>
    rw [key 51 1 [v] rfl (cells_one hv) rfl (by decide)]
    have : RF.V ⟨k, ix, sec, e, en, vt, vb⟩ = (k :: (ix ++ (sec ++ (e :: (en ++ [vt]))))) ++ ([vb] ++ []) := by simp [RF.V]
    rw [this, set_mid (m := 1) (by simp; omega) rfl]
    simp [RF.V, RF.set]
theorem fill_req : ∀ (l : List (Nat × Value)) (f : RF), f.Ok → (∀ p ∈ l, okAt p.1 p.2 = true) → Instr.fill (reqPl.toArray[·]?) f.V.toArray l = some (l.foldl (fun f p => f.set p.1 p.2) f).V.toArray
  | [], f, _, _ => rfl
  | (i, v) :: l, f, h, hl => by
    rw [fill_step h (hl (i, v) (by simp)), fill_req l _ (h.set (hl (i, v) (by simp))) (fun p hp => hl p (List.mem_cons_of_mem _ hp))]
    rfl
section
variable (k e vt vb v : Value) (ix sec en : List Value)
theorem rfs0 : RF.set ⟨k, ix, sec, e, en, vt, vb⟩ 0 v = ⟨v, ix, sec, e, en, vt, vb⟩ := rfl
theorem rfs1 : RF.set ⟨k, ix, sec, e, en, vt, vb⟩ 1 v = ⟨k, aggL v, sec, e, en, vt, vb⟩ := rfl
theorem rfs2 : RF.set ⟨k, ix, sec, e, en, vt, vb⟩ 2 v = ⟨k, ix, aggL v, e, en, vt, vb⟩ := rfl
theorem rfs3 : RF.set ⟨k, ix, sec, e, en, vt, vb⟩ 3 v = ⟨k, ix, sec, v, en, vt, vb⟩ := rfl
theorem rfs4 : RF.set ⟨k, ix, sec, e, en, vt, vb⟩ 4 v = ⟨k, ix, sec, e, aggL v, vt, vb⟩ := rfl
theorem rfs5 : RF.set ⟨k, ix, sec, e, en, vt, vb⟩ 5 v = ⟨k, ix, sec, e, en, v, vb⟩ := rfl
theorem rfs6 : RF.set ⟨k, ix, sec, e, en, vt, vb⟩ 6 v = ⟨k, ix, sec, e, en, vt, v⟩ := rfl
theorem rfz : RF.zero = ⟨.int .i64 0, zk, zk, .int .i64 0, zk, .slice none 0 0, .slice none 0 0⟩ := rfl
theorem ok0 : okAt 0 v = v.oneCell' := rfl
theorem ok1 : okAt 1 v = (aggIs v && decide ((aggL v).length = 16)) := rfl
theorem ok2 : okAt 2 v = (aggIs v && decide ((aggL v).length = 16)) := rfl
theorem ok3 : okAt 3 v = v.oneCell' := rfl
theorem ok4 : okAt 4 v = (aggIs v && decide ((aggL v).length = 16)) := rfl
theorem ok5 : okAt 5 v = v.oneCell' := rfl
theorem ok6 : okAt 6 v = v.oneCell' := rfl
end
end Go.Mem
namespace Go.Proofs.YtclhgokchcklbaaGreatDoor
open Go Go.RowKit Go.Mem Gf Lea
theorem built_req (l : List (Nat × Value)) (h : ∀ p ∈ l, okAt p.1 p.2 = true) : Tryz.prog.built 47 l = some (l.foldl (fun f p => f.set p.1 p.2) RF.zero).V.toArray := by
  have h0 : Tryz.prog.built 47 l = Instr.fill (reqPl.toArray[·]?) RF.zero.V.toArray l := by
    unfold Program.built
    kernel_rfl
  rw [h0, fill_req l _ RF.zero_ok h]
def reqOf (a : Act) (l : List (Nat × Operand)) : RF := l.foldl (fun f p => f.set p.1 (a.eval p.2)) RF.zero
def reqFit (a : Act) (l : List (Nat × Operand)) : Bool := l.all fun p => okAt p.1 (a.eval p.2)
theorem build_req (dst : Option Tmp) (l : List (Nat × Operand)) (ty : TypeId) (pos : String) (af : Array Edge) (gd : Option (Tmp × Bool)) (a : Act) (w : World) (K : Act → World → Prop) (Q : Exit → Act → World → Prop) (h : reqFit a l = true) :
    Oper.wp Tryz.prog ⟨dst, .build 47 l.toArray, ty, pos, af, gd⟩ a w K Q = K (a.put dst (.agg (reqOf a l).V.toArray)) w := by
  have hb := built_req (l.map fun p => (p.1, a.eval p.2)) (fun p hp => by
    obtain ⟨q, hq, rfl⟩ := List.mem_map.1 hp
    exact List.all_eq_true.1 h q hq)
  have e : (l.map fun p => (p.1, a.eval p.2)).foldl (fun (f : RF) p => f.set p.1 p.2) RF.zero = reqOf a l := by
    unfold reqOf
    rw [List.foldl_map]
  rw [e] at hb
  unfold Oper.wp execOp
  have hr := run_build (P := Tryz.prog) w 47 (l.map fun p => (p.1, a.eval p.2)).toArray (reqOf a l).V.toArray (by exact hb)
  have em : l.toArray.map (fun p => (p.1, a.eval p.2)) = (l.map fun p => (p.1, a.eval p.2)).toArray := by simp
  simp only [Sem.run_bind]
  first
    | (rw [show (Array.map (fun x => (x.1, a.eval x.2)) l.toArray) = (l.map fun p => (p.1, a.eval p.2)).toArray from em]; simp only [hr, Result.andThen_ok]; rfl)
    | (simp only [em, hr, Result.andThen_ok]; rfl)
theorem build_req_cct (dst : Option Tmp) (i0 : Nat) (c0 : Value) (i1 : Nat) (c1 : Value) (i2 : Nat) (x2 : Operand) (ty : TypeId) (pos : String) (af : Array Edge) (gd : Option (Tmp × Bool)) (a : Act) (w : World) (K : Act → World → Prop) (Q : Exit → Act → World → Prop) (h : reqFit a [(i0, .const c0), (i1, .const c1), (i2, x2)] = true) :
    Oper.wp Tryz.prog ⟨dst, .build 47 #[(i0, .const c0), (i1, .const c1), (i2, x2)], ty, pos, af, gd⟩ a w K Q = K (a.put dst (.agg (reqOf a [(i0, .const c0), (i1, .const c1), (i2, x2)]).V.toArray)) w := build_req dst [(i0, .const c0), (i1, .const c1), (i2, x2)] ty pos af gd a w K Q h
end Go.Proofs.YtclhgokchcklbaaGreatDoor
end
section
namespace Go.Proofs.YtclhgokchcklbaaGreatDoor
open Go Go.RowKit Go.Mem Gf Lea
set_option linter.unusedVariables false
structure SrvL (w0 w : World) (C : Nat → Prop) (pb : Nat) (s : SrvS) : Prop where
  srv : IsSrv w C (fun _ => False) pb s
  bel : Below w0.heap.size w0 w
  c1 : ∀ b, C b → w0.heap.size ≤ b
section
variable {w0 w w' : World} {C C' : Nat → Prop} {pb : Nat} {s s' : SrvS}
theorem SrvL.step (h : SrvL w0 w C pb s) (hb : Below w.heap.size w w') : SrvL w0 w' C pb s := ⟨h.srv.below hb, h.bel.trans (hb.mono h.bel.size), h.c1⟩
theorem SrvL.sch (h : SrvL w0 w C pb s) (hs : IsSrv w' C' (fun _ => False) pb s') (hc : SChg C C' w w') : SrvL w0 w' C' pb s' :=
  ⟨hs, Chg.far h.bel hc.1 h.bel.size h.c1, fun b hb => by
    rcases hc.2 b hb with h1 | h1
    · exact h.c1 b h1
    · exact Nat.le_trans h.bel.size h1⟩
theorem SrvL.old (h : SrvL w0 w C pb s) {b : Nat} (hb : C b) : b < w.heap.size := h.srv.lt (.inl hb)
theorem BlAt.sch {v : Value} {l : List Blob} (h : BlAt w C v l) (hc : SChg C C' w w') : BlAt w' C' v l :=
  ((h.mono (M := fun b => C b ∨ C' b) (fun b hb => hb.elim .inl (hc.2 b))).chg hc.1 (fun b hb _ => .inl hb)).mono (fun b hb => .inl (.inr hb))
end
theorem do_answers {C X : Nat → Prop} {pb : Nat} {s : SrvS} {r : Req} (hr : r.Wf) {w : World} (h : IsSrv w C X pb s) (hB : s.dead = false) (k : Nat) (hk : handD k = true) (hkr : r.kind = (k : Int)) (R : Int → SrvS → Prop)
    (hP : ∀ w1 p4, Below w.heap.size w w1 → w.heap.size ≤ p4 → IsSrv w1 C (fun b => X b ∨ b = p4) pb s → Calls Tryz.prog (75 + (k - 1)) #[.pointer (some ⟨pb, 0, none⟩), .agg (reqV r).toArray] w1 (Answers C (fun b => X b ∨ b = p4) pb R w1)) :
    Calls Tryz.prog 15 #[.pointer (some ⟨pb, 0, none⟩), .agg (reqV r).toArray] w (Answers C X pb R w) := by
  refine do_calls C X pb s r hr w h hB k hk hkr _ fun w1 p4 hb h4 hb4 hs => ?_
  refine (hP w1 p4 hb h4 hs).mono ?_
  rintro e w2 ⟨C', err, s', rfl, hR, hs', hsc⟩
  have hk4 := hsc.1.blk hb4 (fun hC => by have := h.lt (.inl hC); omega)
  have hE := reply_end (x := .int .i64 err) (y := .slice none 0 0) hs' (hsc.pre hb) h4
  exact ⟨err, none, 0, 0, rfl, hk4, C', err, s', rfl, hR, hE.1, hE.2⟩
section
variable {w0 w : World} {C : Nat → Prop} {pb : Nat} {s : SrvS}
theorem SrvL.put (h : SrvL w0 w C pb s) (hd : s.dead = false) (hB : SrvB s) (hw : s.st.disk.writes < 72057594037800000) {r : Req} (hr : r.Wf) (hk : r.kind = 2) {l : List Blob} (hl : BlAt w C r.vb l) (hz : ∀ x ∈ l, x.2.length ≤ 1000000) :
    Calls Tryz.prog 15 #[.pointer (some ⟨pb, 0, none⟩), .agg (reqV r).toArray] w fun e w' => ∃ C' err s', e = .returned (.agg #[.int .i64 err, .slice none 0 0]) ∧ PutSh s r l err s' ∧ SrvL w0 w' C' pb s' ∧ SChg C C' w w' := by
  refine (do_answers hr h.srv hd 2 rfl hk (PutSh s r l) fun w1 p4 hb h4 hs => ?_).mono ?_
  · have hl1 : BlAt w1 (fun b => C b ∨ (False ∨ b = p4)) r.vb l := BlAt.below (hl.mono (fun b hb' => hb'.elim .inl (fun h' => h'.elim (fun f => f.elim) (fun e => .inr (by rw [e]; exact h4))))) hb
    exact put_calls16 C _ pb s r l hr w1 hs hB hw hl1 hz
  · rintro e w' ⟨C', err, s', rfl, hR, hs', hsc⟩
    exact ⟨C', err, s', rfl, hR, h.sch hs' hsc, hsc⟩
end
end Go.Proofs.YtclhgokchcklbaaGreatDoor
end
section
namespace Go.Proofs.YtclhgokchcklbaaGreatDoor
open Go Go.RowKit Go.Mem Gf Lea
set_option linter.unusedVariables false
attribute [local irreducible] RF.V zk reqV
attribute [local go_sem ↓] Go.wp_at_zero Go.wp_at_succ
attribute [local go_sem ↓] load_key
attribute [local go_sem] Value.oneCell' reqOf reqFit List.foldl_cons List.foldl_nil List.all_cons List.all_nil rfs0 rfs1 rfs2 rfs3 rfs4 rfs5 rfs6 rfz ok0 ok1 ok2 ok3 ok4 ok5 ok6
attribute [local go_sem] ptrB_eq ptrO_eq ptrIs_eq aggL_eq aggIs_eq readK_drew hasK_drew readK_alloc_past hasK_alloc_past readK_alloc_in hasK_alloc_in
section
variable {w0 w : World} {C : Nat → Prop} {pb : Nat} {s : SrvS}
theorem fld_reply0 (a b : Value) (w : World) : (Instr.field 49 (.agg #[a, b]) 0).run Tryz.prog w = .ok a w := by kernel_rfl
theorem fld_reply1 (a b : Value) (w : World) : (Instr.field 49 (.agg #[a, b]) 1).run Tryz.prog w = .ok b w := by kernel_rfl
attribute [local go_sem] fld_reply0 fld_reply1
end
end Go.Proofs.YtclhgokchcklbaaGreatDoor
end
section
namespace Lea
theorem AddR.none {l l' : List Les} {ix sec : Key} {e : Int} {b : Bool} (hl : ofL l ix = []) (he : May e) (h : AddR l ix sec e b l') : b = true ∧ l'.Perm (l ++ [⟨ix, sec, e⟩]) := by
  have hno : ∀ x ∈ l, x.ix ≠ ix := ofL_nil.1 hl
  cases h with
  | no h =>
    rcases h with h | ⟨_, h⟩
    · exact absurd he h
    · rw [hl] at h; simp at h
  | more k x _ _ hx h1 _ _ => exact absurd h1 (hno x (List.mem_of_getElem? hx))
  | new _ _ _ _ hp => exact ⟨rfl, hp⟩
theorem AddR.again {l l' : List Les} {ix sec : Key} {e e0 : Int} {b : Bool} (hl : l.Perm [⟨ix, sec, e0⟩]) (he : May e) (h : AddR l ix sec e b l') : b = true ∧ l'.Perm [⟨ix, sec, max e0 e⟩] := by
  have h1 := List.perm_singleton.1 hl
  subst h1
  cases h with
  | no h =>
    rcases h with h | ⟨h, _⟩
    · exact absurd he h
    · exact absurd ⟨rfl, rfl⟩ (h _ (List.mem_singleton.2 rfl))
  | more k x _ _ hx _ _ hp =>
    cases k with
    | zero =>
      simp at hx
      subst hx
      exact ⟨rfl, hp⟩
    | succ k => simp at hx
  | new _ _ hk _ _ => exact absurd ⟨rfl, rfl⟩ (hk _ (List.mem_singleton.2 rfl))
theorem OfR.one {l : List Les} {ix sec : Key} {e : Int} {out : List Sec} (hl : l.Perm [⟨ix, sec, e⟩]) (h : OfR l ix out) : out = [(sec, e)] := by
  have h1 := List.perm_singleton.1 hl
  subst h1
  have h2 := h.perm
  unfold ofL at h2
  simp at h2
  exact h2
end Lea
namespace Go.Mem
open Go Go.RowKit Gf Lea Go.Proofs.YtclhgokchcklbaaGreatDoor
theorem freeN_live {m : Nat} {s : SrvS} (h : SrvG m s) : liveN s.st.recs + s.st.freeN = s.st.recs.length := by
  have := free_live s.st.recs
  unfold St.freeN
  rw [if_neg (by simp [h.st.dead])]
  exact this
theorem live_le {l : List Sto.Rec} (ht : Sto.slot l < l.length) (name : ByteArray) (data : List UInt8) : liveN (putF l name data) ≤ liveN l + 1 := putF_live ht name data
theorem lease_fits {room : Nat} (hr : 8 ≤ room) {ix : Key} (hix : ix.length = 16) {sec : Key} (hs : sec.length = 16) (e : Int) : fitsB room (leaseN ix) (packL [(sec, e)]) = true := by
  have h1 := lease_size ix hix
  have h2 := packL_len [(sec, e)] (fun s hs' => by rw [List.mem_singleton.1 hs']; exact hs)
  simp only [List.length_singleton] at h2
  exact fits_of (by omega) (by omega) (by omega)
theorem SrvG.add_one {m : Nat} {s : SrvS} (h : SrvG m s) (hm : m < 1000000) {ix sec : Key} (hix : ix.length = 16) (hsec : sec.length = 16) {e E : Int} (hroom : 8 ≤ s.room) (hlive : liveN s.st.recs + 1 ≤ s.st.recs.length) (hE : ∀ b l2, AddR s.tab ix sec e b l2 → b = true ∧ l2.Perm [⟨ix, sec, E⟩]) {err : Int} {s' : SrvS} (hl : AddSrv s ix sec e err s') :
    (err = 0 ∧ SrvG (m + 1) s' ∧ s'.tab.Perm [⟨ix, sec, E⟩] ∧ (∀ nm, Sto.look s'.st.recs nm = upd (Sto.look s.st.recs) (leaseN ix) (some (packL [(sec, E)])) nm) ∧ s'.st.disk.stops = s.st.disk.stops) ∨
    (err = 8 ∧ s.st.disk.stops = true ∧ ∃ l, SrvX (m + 1) s' l ∧ ((∀ nm, Sto.look l nm = Sto.look s.st.recs nm) ∨ ∀ nm, Sto.look l nm = upd (Sto.look s.st.recs) (leaseN ix) (some (packL [(sec, E)])) nm)) := by
  have hl0 := hl
  rcases h.add hm hix hsec hl with ⟨_, _, ha⟩ | ⟨l2, out, ha, hR, h0, hc⟩
  · have := (hE _ _ ha).1; cases this
  · have hp := (hE _ _ ha).2
    have ho := OfR.one hp hR
    subst ho
    rcases hc with ⟨h1, h2, h3, h4, h5⟩ | ⟨h1, h2⟩ | h1
    · exact .inl ⟨h1, h2, by rw [h3]; exact hp, h4, h5⟩
    · exfalso
      have hfit := lease_fits (room := s.st.room) (by rw [← h.room]; exact hroom) hix hsec E
      have hslot : Sto.slot s.st.recs < s.st.recs.length := slot_of_live (by omega)
      cases hl0 with
      | full ha' => have := (hE _ _ ha').1; cases this
      | laid l3 _ _ ha' hy =>
        obtain ⟨out', hR', herr, _⟩ := hy
        have ho' := OfR.one (hE _ _ ha').2 hR'
        subst ho'
        have e0 : layR s ix [(sec, E)] = putR s.st (leaseN ix) (packL [(sec, E)]) := by unfold layR; rw [if_neg (by simp)]
        rw [e0] at herr
        have hok : RecOk (leaseN ix) (packL [(sec, E)]) := RecOk.lease ix _ hix (ofR_leOk (ha'.wf h.wf hix hsec) (ha'.good h.good) hR' (by simp))
        have hput := h.st.put hm hok
        generalize putR s.st (leaseN ix) (packL [(sec, E)]) = R at hput herr
        cases hput with
        | arg h' => rw [hfit] at h'; cases h'
        | full _ h' => omega
        | done _ _ _ _ _ _ _ => simp only at herr; omega
        | torn _ _ _ _ _ _ _ _ _ _ => simp only at herr; omega
    · exact .inr h1
theorem SrvG.put_one {m : Nat} {s : SrvS} (h : SrvG m s) (hm : m + 1 < 1000000) {r : Req} (hr : r.Wf) {n : Nat} {data : List UInt8} (hn : n < 16) (hme : May r.ends) (hd : data.length ≤ 200) (hg : Sto.look s.st.recs (shareN r.ix n) = none) (hroom : 8 ≤ s.room) (hlive : liveN s.st.recs + 2 ≤ s.st.recs.length) {E : Int}
    (hE : ∀ b l2, AddR s.tab r.ix r.sec r.ends b l2 → b = true ∧ l2.Perm [⟨r.ix, r.sec, E⟩]) {err : Int} {s' : SrvS} (hp : PutSh s r [((n : Int), data)] err s') :
    (err = 0 ∧ SrvG (m + 2) s' ∧ s'.tab.Perm [⟨r.ix, r.sec, E⟩] ∧ (∀ nm, Sto.look s'.st.recs nm = upd (upd (Sto.look s.st.recs) (shareN r.ix n) (some data)) (leaseN r.ix) (some (packL [(r.sec, E)])) nm) ∧ s'.st.disk.stops = s.st.disk.stops ∧ s'.slots = s.slots ∧ s'.room = s.room ∧ liveN s'.st.recs ≤ liveN s.st.recs + 2) ∨
    (err = 8 ∧ s.st.disk.stops = true ∧ s'.slots = s.slots ∧ s'.room = s.room ∧ ∃ f : Look, SrvT (m + 2) s' f ∧ ((∀ nm, f nm = Sto.look s.st.recs nm) ∨ (∀ nm, f nm = upd (Sto.look s.st.recs) (shareN r.ix n) (some data) nm) ∨ ∀ nm, f nm = upd (upd (Sto.look s.st.recs) (shareN r.ix n) (some data)) (leaseN r.ix) (some (packL [(r.sec, E)])) nm)) := by
  have hfit : fitsB s.st.room (shareN r.ix n) data = true := fits_of (by rw [share_size _ _ hr.ix]; omega) (by omega) (by rw [share_size _ _ hr.ix, ← h.room]; omega)
  have hlf := lease_fits (room := s.st.room) (by rw [← h.room]; exact hroom) hr.ix hr.sec E
  have hfl := freeN_live h
  have hslot : Sto.slot s.st.recs < s.st.recs.length := slot_of_live (by omega)
  have hget : s.st.get (shareN r.ix n) = none := by rw [h.get, hg]
  have hask : ∀ err', AskR s r.ix r.sec r.ends (shareN r.ix n) data false err' → err' = 0 := fun err' ha => by
    obtain ⟨b, l2, out, ha1, ha2, rfl⟩ := ha
    obtain ⟨rfl, hp2⟩ := hE _ _ ha1
    have ho := OfR.one hp2 (ha2 rfl)
    subst ho
    rw [if_neg (by simp; omega), if_neg (by simp [hfit, hlf])]
  have hnl : ∀ ix, shareN r.ix n ≠ leaseN ix := fun ix => share_lease
  have hok : RecOk (shareN r.ix n) data := RecOk.share r.ix n data hr.ix hn (by omega)
  cases hp with
  | form h' => exact absurd ⟨rfl, ⟨⟨fun x hx => by rw [List.mem_singleton.1 hx]; simp; omega, by simp⟩, hme⟩⟩ h'
  | no n' data' _ hl hn' hm' ha h0 =>
    simp only [List.cons.injEq, Prod.mk.injEq, and_true] at hl
    obtain ⟨e1, rfl⟩ := hl
    have e1 : n = n' := by omega
    subst e1
    rw [hget] at ha
    exact absurd (hask _ ha) h0
  | torn n' data' hl hn' hm' hg' ha h0 =>
    simp only [List.cons.injEq, Prod.mk.injEq, and_true] at hl
    obtain ⟨e1, rfl⟩ := hl
    have e1 : n = n' := by omega
    subst e1
    rcases h.put (by omega) hok hnl with ⟨h1, _⟩ | ⟨h1, _⟩ | ⟨h1, h2, l, h3, h4⟩
    · exact absurd h1 h0
    · exfalso
      have hput := h.st.put (by omega) hok
      generalize putR s.st (shareN r.ix n) data = R at hput h1
      cases hput with
      | arg h' => rw [hfit] at h'; cases h'
      | full _ h' => omega
      | done _ _ _ _ _ _ _ => simp only at h1; omega
      | torn _ _ _ _ _ _ _ _ _ _ => simp only at h1; omega
    · refine .inr ⟨h1, h2, rfl, rfl, Sto.look l, .inr ⟨l, h3.le (by omega), fun _ => rfl⟩, ?_⟩
      rcases h4 with h4 | h4
      · exact .inl h4
      · exact .inr (.inl h4)
  | put n' data' _ _ hl hn' hm' hg' ha h0 hs =>
    simp only [List.cons.injEq, Prod.mk.injEq, and_true] at hl
    obtain ⟨e1, rfl⟩ := hl
    have e1 : n = n' := by omega
    subst e1
    rcases h.put (by omega) hok hnl with ⟨h1, h2, h3, h4⟩ | ⟨h1, _⟩ | ⟨h1, _⟩
    · have hrec : (putR s.st (shareN r.ix n) data).2.recs = putF s.st.recs (shareN r.ix n) data := by
        have hput := h.st.put (m := m) (by omega) hok
        generalize putR s.st (shareN r.ix n) data = R at hput h0
        cases hput with
        | arg h' => rw [hfit] at h'; cases h'
        | full _ h' => omega
        | done _ _ _ hr' _ _ _ => exact hr'
        | torn _ _ _ _ _ _ _ _ _ _ => simp only at h0; omega
      have hlv := live_le hslot (shareN r.ix n) data
      have hln := putF_len s.st.recs (shareN r.ix n) data
      have hlv2 : liveN (putR s.st (shareN r.ix n) data).2.recs + 1 ≤ (putR s.st (shareN r.ix n) data).2.recs.length := by rw [hrec, hln]; omega
      have hslots : s'.slots = s.slots ∧ s'.room = s.room ∧ (err = 0 → liveN s'.st.recs ≤ liveN (putR s.st (shareN r.ix n) data).2.recs + 1) := by
        cases hs with
        | full _ => exact ⟨rfl, rfl, fun _ => Nat.le_succ _⟩
        | laid l2 _ _ ha2 hy =>
          obtain ⟨out, hR, herr, hs'⟩ := hy
          have h0' : out.length ≠ 0 := fun e => ha2.ne (hR.nil_iff.1 (List.eq_nil_of_length_eq_zero e))
          have e0 : layR { s with st := (putR s.st (shareN r.ix n) data).2 } r.ix out = putR (putR s.st (shareN r.ix n) data).2 (leaseN r.ix) (packL out) := by unfold layR; rw [if_neg h0']
          rw [e0] at hs' herr
          have hlr : (putR (putR s.st (shareN r.ix n) data).2 (leaseN r.ix) (packL out)).1 = 0 → liveN (putR (putR s.st (shareN r.ix n) data).2 (leaseN r.ix) (packL out)).2.recs ≤ liveN (putR s.st (shareN r.ix n) data).2.recs + 1 := by
            have hR2 := List.perm_singleton.1 (hE _ _ ha2).2
            have hput := h2.st.put (m := m + 1) hm (RecOk.lease r.ix out hr.ix (ofR_leOk (ha2.wf h2.wf hr.ix hr.sec) (ha2.good h2.good) hR (fun e => h0' (by rw [e]; rfl))))
            generalize hq : (putR s.st (shareN r.ix n) data).2 = st1 at *
            have hpr := hput
            generalize putR st1 (leaseN r.ix) (packL out) = R at hput
            cases hput with
            | arg h' => exact fun _ => Nat.le_succ _
            | full _ h' => exact fun _ => Nat.le_succ _
            | done _ _ hsl hr' _ _ _ => intro _; show liveN _ ≤ _; rw [hr']; exact live_le hsl _ _
            | torn _ _ _ _ _ _ _ _ _ _ => intro h; simp only at h; omega
          split at hs'
          · rw [hs', herr]; exact ⟨rfl, rfl, hlr⟩
          · rw [hs', herr]; exact ⟨rfl, rfl, hlr⟩
      rcases h2.add_one hm hr.ix hr.sec hroom hlv2 hE hs with ⟨a1, a2, a3, a4, a5⟩ | ⟨a1, a2, l, a3, a4⟩
      · have hnm : ∀ nm, Sto.look s'.st.recs nm = upd (upd (Sto.look s.st.recs) (shareN r.ix n) (some data)) (leaseN r.ix) (some (packL [(r.sec, E)])) nm := fun nm => by
          rw [a4]
          unfold upd
          split
          · rfl
          · exact h3 nm
        exact .inl ⟨a1, a2, a3, hnm, a5.trans h4, hslots.1, hslots.2.1, by have := hslots.2.2 a1; rw [hrec] at this; omega⟩
      · refine .inr ⟨a1, by rw [← h4]; exact a2, hslots.1, hslots.2.1, Sto.look l, .inr ⟨l, a3, fun _ => rfl⟩, ?_⟩
        rcases a4 with a4 | a4
        · exact .inr (.inl fun nm => by rw [a4]; exact h3 nm)
        · refine .inr (.inr fun nm => ?_)
          rw [a4]
          unfold upd
          split
          · rfl
          · exact h3 nm
    · omega
    · omega
  | there n' data' _ _ hl hn' hm' hg' ha hs =>
    simp only [List.cons.injEq, Prod.mk.injEq, and_true] at hl
    obtain ⟨e1, rfl⟩ := hl
    have e1 : n = n' := by omega
    subst e1
    rw [hget] at hg'
    cases hg'
theorem SrvG.put_there {m : Nat} {s : SrvS} (h : SrvG m s) (hm : m < 1000000) {r : Req} (hr : r.Wf) {n : Nat} {data x : List UInt8} (hn : n < 16) (hme : May r.ends) (hd : data.length ≤ 200) (hg : Sto.look s.st.recs (shareN r.ix n) = some x) (hroom : 8 ≤ s.room) (hlive : liveN s.st.recs + 1 ≤ s.st.recs.length) (hst : s.st.disk.stops = false) {E : Int}
    (hE : ∀ b l2, AddR s.tab r.ix r.sec r.ends b l2 → b = true ∧ l2.Perm [⟨r.ix, r.sec, E⟩]) {err : Int} {s' : SrvS} (hp : PutSh s r [((n : Int), data)] err s') : err = 5 := by
  have hfit : fitsB s.st.room (shareN r.ix n) data = true := fits_of (by rw [share_size _ _ hr.ix]; omega) (by omega) (by rw [share_size _ _ hr.ix, ← h.room]; omega)
  have hlf := lease_fits (room := s.st.room) (by rw [← h.room]; exact hroom) hr.ix hr.sec E
  have hfl := freeN_live h
  have hget : s.st.get (shareN r.ix n) = some x := by rw [h.get, hg]
  have hask : ∀ err', AskR s r.ix r.sec r.ends (shareN r.ix n) data true err' → err' = 0 := fun err' ha => by
    obtain ⟨b, l2, out, ha1, ha2, rfl⟩ := ha
    obtain ⟨rfl, hp2⟩ := hE _ _ ha1
    have ho := OfR.one hp2 (ha2 rfl)
    subst ho
    rw [if_neg (by simp; omega), if_neg (by simp [hfit, hlf])]
  cases hp with
  | form h' => exact absurd ⟨rfl, ⟨⟨fun x hx => by rw [List.mem_singleton.1 hx]; simp; omega, by simp⟩, hme⟩⟩ h'
  | no n' data' _ hl hn' hm' ha h0 =>
    simp only [List.cons.injEq, Prod.mk.injEq, and_true] at hl
    obtain ⟨e1, rfl⟩ := hl
    have e1 : n = n' := by omega
    subst e1
    rw [hget] at ha
    exact absurd (hask _ ha) h0
  | torn n' data' hl hn' hm' hg' ha h0 =>
    simp only [List.cons.injEq, Prod.mk.injEq, and_true] at hl
    obtain ⟨e1, rfl⟩ := hl
    have e1 : n = n' := by omega
    subst e1
    rw [hget] at hg'
    cases hg'
  | put n' data' _ _ hl hn' hm' hg' ha h0 hs =>
    simp only [List.cons.injEq, Prod.mk.injEq, and_true] at hl
    obtain ⟨e1, rfl⟩ := hl
    have e1 : n = n' := by omega
    subst e1
    rw [hget] at hg'
    cases hg'
  | there n' data' _ _ hl hn' hm' hg' ha hs =>
    simp only [List.cons.injEq, Prod.mk.injEq, and_true] at hl
    obtain ⟨e1, rfl⟩ := hl
    have e1 : n = n' := by omega
    subst e1
    rcases h.add_one hm hr.ix hr.sec hroom hlive hE hs with ⟨a1, _⟩ | ⟨_, a2, _⟩
    · rw [if_pos a1]
    · rw [hst] at a2; cases a2
end Go.Mem
end
section
namespace Go.Mem
open Go Go.RowKit Gf Lea Go.Proofs.YtclhgokchcklbaaGreatDoor
theorem reqV_all {r : Req} (h : r.Wf) (h1 : r.vt.oneCell' = true) (h2 : r.vb.oneCell' = true) : AllK 52 (reqV r) := by
  refine ⟨reqV_len h, fun v hv => ?_⟩
  unfold reqV at hv
  simp only [List.mem_cons, List.mem_append, List.mem_nil_iff, or_false] at hv
  rcases hv with rfl | hv | hv | rfl | hv | rfl | rfl
  · rfl
  · exact bV_one _ v hv
  · exact bV_one _ v hv
  · rfl
  · exact bV_one _ v hv
  · exact h1
  · exact h2
theorem blAt_one {w : World} {N : Nat → Prop} {g : Nat} {n : Int} {a : Option Addr} {c : Nat} {bs : List UInt8} {t : TypeId} (hb : Blk w g #[.int .i64 n, .slice a bs.length c] t) (hN : ¬ N g) (hd : DataZ w N (.slice a bs.length c) bs) : BlAt w N (.slice (some ⟨g, 0, none⟩) 1 1) [(n, bs)] := by
  refine ⟨_, 1, rfl, Nat.le_refl _, by decide, fun _ => ⟨g, 0, rfl, hb.lt, hN, fun i x hx => ?_⟩⟩
  cases i with
  | zero =>
    simp at hx
    subst hx
    exact ⟨by rw [hb.cell]; rfl, a, c, by rw [hb.cell]; rfl, hd⟩
  | succ i => simp at hx
end Go.Mem
namespace Go.Proofs.YtclhgokchcklbaaGreatDoor
open Go Go.RowKit Go.Mem Gf Lea
set_option linter.unusedVariables false
theorem store_req (dst : Option Tmp) (x y : Operand) (ty : TypeId) (pos : String) (af : Array Edge) (a : Act) (w : World) (K : Act → World → Prop) (Q : Exit → Act → World → Prop)
    (hp : ptrIs (a.eval x) = true) (hy : aggIs (a.eval y) = true) (ht : HasK 52 w (ptrB (a.eval x)) (ptrO (a.eval x))) (hc : AllK 52 (aggL (a.eval y))) :
    Oper.wp Tryz.prog ⟨dst, .store 47 x y, ty, pos, af, none⟩ a w K Q = K (a.put dst undef) (w.setCells (ptrB (a.eval x)) (ptrO (a.eval x)) (aggL (a.eval y))) :=
  wp_storeK i52 dst x y ty pos af a w K Q hp hy ht hc
theorem setCells_zeroR (w : World) (n : Nat) (hn : n = w.heap.size) (cs : List Value) (h : AllK 52 cs) : (w.alloc (.cells #[Value.int .i64 0, .int .u8 0, .int .u8 0, .int .u8 0, .int .u8 0, .int .u8 0, .int .u8 0, .int .u8 0, .int .u8 0, .int .u8 0, .int .u8 0, .int .u8 0, .int .u8 0, .int .u8 0, .int .u8 0, .int .u8 0, .int .u8 0, .int .u8 0, .int .u8 0, .int .u8 0, .int .u8 0, .int .u8 0, .int .u8 0, .int .u8 0, .int .u8 0, .int .u8 0, .int .u8 0, .int .u8 0, .int .u8 0, .int .u8 0, .int .u8 0, .int .u8 0, .int .u8 0, .int .i64 0, .int .u8 0, .int .u8 0, .int .u8 0, .int .u8 0, .int .u8 0, .int .u8 0, .int .u8 0, .int .u8 0, .int .u8 0, .int .u8 0, .int .u8 0, .int .u8 0, .int .u8 0, .int .u8 0, .int .u8 0, .int .u8 0, .slice none 0 0, .slice none 0 0] 47)).setCells n 0 cs = w.alloc (.cells cs.toArray 47) := setCells_alloc_at _ _ _ _ hn (by rw [h.1]; rfl)
def putV (e : Int) (u : Value) : Req := ⟨2, z16, z16, e, z16, .slice none 0 0, u⟩
theorem putV_wf (e : Int) (u : Value) : (putV e u).Wf := ⟨by show z16.length = 16; decide, by show z16.length = 16; decide, by show z16.length = 16; decide⟩
theorem putV_eq (e : Int) (u : Value) : RF.V ⟨.int .i64 2, zk, zk, .int .i64 e, zk, .slice none 0 0, u⟩ = reqV (putV e u) := rfl
theorem putV_all (e : Int) (a : Option Addr) (n c : Nat) : AllK 52 (reqV (putV e (.slice a n c))) := reqV_all (putV_wf e _) rfl rfl
theorem putV_size (e : Int) (a : Option Addr) (n c : Nat) : (reqV (putV e (.slice a n c))).length = 52 := reqV_len (putV_wf e _)
attribute [local irreducible] RF.V zk reqV
attribute [local go_sem ↓] Go.wp_at_zero Go.wp_at_succ
attribute [local go_sem ↓] load_req store_req build_req_cct
attribute [local go_sem] Value.oneCell' reqOf reqFit List.foldl_cons List.foldl_nil List.all_cons List.all_nil rfs0 rfs1 rfs2 rfs3 rfs4 rfs5 rfs6 rfz ok0 ok1 ok2 ok3 ok4 ok5 ok6 fld_reply0 fld_reply1
attribute [local go_sem] ptrB_eq ptrO_eq ptrIs_eq aggL_eq aggIs_eq readK_drew hasK_drew readK_alloc_past hasK_alloc_past readK_alloc_in hasK_alloc_in setCells_drew setCells_alloc_past setCells_zeroR putV_eq putV_all putV_size
theorem may5 : May 5 := ⟨by decide, by decide⟩
set_option maxRecDepth 100000 in
set_option maxHeartbeats 1000000 in
theorem wakes16_calls (w : World) (hT : Tab w) : Calls Tryz.prog 10 #[] w fun e w' => e = .returned (.bool true) ∧ Below w.heap.size w w' := by
  have HT := Lib.hid hT
  clear hT
  go_enter Tryz.func10, Tryz.ntmps10
  go_wp2_with fail
  refine (srvnew_calls 4 8 w HT.out (by omega) (by omega) (by omega)).mono ?_
  rintro e w1 ⟨pb, C, rfl, hS, hC, hb1⟩
  have HL := Lib.hid (show SrvL w w1 C pb (freshS 4 8) from ⟨hS, hb1, hC⟩)
  clear hS hC hb1
  go_upto_region 5 with fail
  have hbA : Below w1.heap.size w1 (w1.alloc (.cells #[Value.int .u8 7] 5)) := (Below.refl _ _).alloc (Nat.le_refl _) _
  have hbB := hbA.alloc hbA.size (.cells #[Value.int .i64 1, Value.slice (some ⟨w1.heap.size, 0, none⟩) 1 1] 41)
  have hbD := hbB.alloc hbB.size (.cells (reqV (putV 5 (.slice (some ⟨w1.heap.size + 1, 0, none⟩) 1 1))).toArray 47)
  have hkB : Blk ((w1.alloc (.cells #[Value.int .u8 7] 5)).alloc (.cells #[Value.int .i64 1, Value.slice (some ⟨w1.heap.size, 0, none⟩) 1 1] 41)) (w1.heap.size + 1) #[Value.int .i64 1, Value.slice (some ⟨w1.heap.size, 0, none⟩) 1 1] 41 := Blk.new_at _ _ _ _ (by simp)
  have hdA : Bys (w1.alloc (.cells #[Value.int .u8 7] 5)) (.slice (some ⟨w1.heap.size, 0, none⟩) 1 1) [7] := bys_one w1 7 _ rfl _
  have hkB2 := hkB.alloc (.cells (reqV (putV 5 (.slice (some ⟨w1.heap.size + 1, 0, none⟩) 1 1))).toArray 47)
  have hdB := (hdA.below ((Below.refl _ _).alloc (Nat.le_refl _) (.cells #[Value.int .i64 1, Value.slice (some ⟨w1.heap.size, 0, none⟩) 1 1] 41))).below ((Below.refl _ _).alloc (Nat.le_refl _) (.cells (reqV (putV 5 (.slice (some ⟨w1.heap.size + 1, 0, none⟩) 1 1))).toArray 47))
  have hkD : Blk (((w1.alloc (.cells #[Value.int .u8 7] 5)).alloc (.cells #[Value.int .i64 1, Value.slice (some ⟨w1.heap.size, 0, none⟩) 1 1] 41)).alloc (.cells (reqV (putV 5 (.slice (some ⟨w1.heap.size + 1, 0, none⟩) 1 1))).toArray 47)) (w1.heap.size + 1 + 1) (reqV (putV 5 (.slice (some ⟨w1.heap.size + 1, 0, none⟩) 1 1))).toArray 47 := Blk.new_at _ _ _ _ (by simp)
  obtain ⟨wd, hwd⟩ : ∃ q, q = ((w1.alloc (.cells #[Value.int .u8 7] 5)).alloc (.cells #[Value.int .i64 1, Value.slice (some ⟨w1.heap.size, 0, none⟩) 1 1] 41)).alloc (.cells (reqV (putV 5 (.slice (some ⟨w1.heap.size + 1, 0, none⟩) 1 1))).toArray 47) := ⟨_, rfl⟩
  rw [← hwd] at hbD hkB2 hdB hkD ⊢
  have hlD := hkD.lt
  have hnC : ∀ b, w1.heap.size ≤ b → ¬ C b := fun b hb hC => by have := HL.out.old hC; omega
  have hbl : BlAt wd C (.slice (some ⟨w1.heap.size + 1, 0, none⟩) 1 1) [(1, [7])] := blAt_one (a := some ⟨w1.heap.size, 0, none⟩) (bs := [7]) hkB2 (hnC _ (by omega)) ⟨hdB, _, _, rfl, fun _ b hb => by cases hb; exact ⟨by show w1.heap.size < _; omega, hnC _ (Nat.le_refl _)⟩⟩
  obtain ⟨p8, hp8⟩ : ∃ q, q = w1.heap.size + 1 := ⟨_, rfl⟩
  obtain ⟨p9, hp9⟩ : ∃ q, q = w1.heap.size + 1 + 1 := ⟨_, rfl⟩
  rw [← hp9] at hkD hlD ⊢
  rw [← hp8] at hkD hbl ⊢
  have r52 : readK 52 wd p9 0 = reqV (putV 5 (.slice (some ⟨p8, 0, none⟩) 1 1)) := blk_read0 hkD (putV_size _ _ _ _)
  have g52 : HasK 52 wd p9 0 := blk_has hkD (by simp [putV_size])
  have HD := Lib.hid (And.intro hbD (And.intro hkD (And.intro hbl (hnC p9 (by omega)))))
  have HG := Lib.hid (freshS_good 4 8 (by omega) (by omega))
  clear hbA hbB hbD hkB hdA hkB2 hdB hkD hwd hp8 hp9 hnC hbl hlD
  obtain ⟨s0, hs0⟩ : ∃ x, x = freshS 4 8 := ⟨_, rfl⟩
  have hsl : s0.slots = 4 ∧ s0.room = 8 ∧ s0.tab = [] ∧ s0.st.recs = List.replicate 4 Sto.Rec.free := by rw [hs0]; exact ⟨rfl, rfl, rfl, rfl⟩
  have HL0 := HL.out
  have HG0 := HG.out
  rw [← hs0] at HL0 HG0
  have H0 := Lib.hid (And.intro HL0 (And.intro HG0 hsl))
  clear HL HG HL0 HG0 hs0 hsl
  go_wp2_with fail
  refine ((H0.out.1.step HD.out.1).put H0.out.2.1.1.live ⟨by rw [H0.out.2.2.2.2.1]; simp, by have := H0.out.2.1.1.st.writes; omega⟩ (by have := H0.out.2.1.1.st.writes; omega) (putV_wf 5 _) rfl HD.out.2.2.1 (fun x hx => by rw [List.mem_singleton.1 hx]; decide)).mono ?_
  rintro e w2 ⟨C2, err, s1, rfl, hP, hL2, hsc⟩
  have hres : err = 0 ∧ SrvG 2 s1 ∧ s1.tab.Perm [⟨z16, z16, 5⟩] ∧ (∃ x, Sto.look s1.st.recs (shareN z16 1) = some x) ∧ s1.st.disk.stops = false ∧ s1.room = 8 ∧ s1.st.recs.length = 4 ∧ liveN s1.st.recs ≤ 2 := by
    have hlv : liveN s0.st.recs = 0 := by rw [H0.out.2.2.2.2.2]; exact live_free 4
    have hln : s0.st.recs.length = 4 := by rw [H0.out.2.2.2.2.2, List.length_replicate]
    rcases H0.out.2.1.1.put_one (E := 5) (by decide) (putV_wf 5 _) (n := 1) (by decide) may5 (by decide) (H0.out.2.1.2.1 _) (by rw [H0.out.2.2.2.1]; exact Nat.le_refl _) (by omega) (fun b l2 ha => by
      rw [H0.out.2.2.2.2.1] at ha
      exact AddR.none rfl may5 ha) hP with ⟨a1, a2, a3, a4, a5, a6, a7, a8⟩ | ⟨_, a2, _⟩
    · have h4 : s1.st.recs.length = 4 := by rw [← a2.slots, a6, H0.out.2.2.1]
      exact ⟨a1, a2, a3, ⟨_, by rw [a4, upd, if_neg share_lease, upd]; exact if_pos rfl⟩, a5.trans H0.out.2.1.2.2, a7.trans H0.out.2.2.2.1, h4, by omega⟩
    · rw [H0.out.2.1.2.2] at a2; cases a2
  obtain ⟨rfl, hres⟩ := hres
  have hk2 := hsc.1.blk HD.out.2.1 HD.out.2.2.2
  have r52' : readK 52 w2 p9 0 = reqV (putV 5 (.slice (some ⟨p8, 0, none⟩) 1 1)) := blk_read0 hk2 (putV_size _ _ _ _)
  have g52' : HasK 52 w2 p9 0 := blk_has hk2 (by simp [putV_size])
  have H2 := Lib.hid (And.intro hres (And.intro hL2 (BlAt.sch HD.out.2.2.1 hsc)))
  clear hP hL2 hsc hk2 r52 g52 hres
  go_wp2_with fail
  refine (H2.out.2.1.put H2.out.1.1.live ⟨by rw [H2.out.1.2.1.length_eq]; simp, by have := H2.out.1.1.st.writes; omega⟩ (by have := H2.out.1.1.st.writes; omega) (putV_wf 5 _) rfl H2.out.2.2 (fun x hx => by rw [List.mem_singleton.1 hx]; decide)).mono ?_
  rintro e w3 ⟨C3, err, s2, rfl, hP, hL3, hsc⟩
  have herr : err = 5 := by
    obtain ⟨x, hx⟩ := H2.out.1.2.2.1
    exact H2.out.1.1.put_there (E := 5) (by decide) (putV_wf 5 _) (n := 1) (by decide) may5 (by decide) hx (by rw [H2.out.1.2.2.2.2.1]; exact Nat.le_refl _) (by have := H2.out.1.2.2.2.2.2; omega) H2.out.1.2.2.2.1 (fun b l2 ha => AddR.again H2.out.1.2.1 may5 ha) hP
  subst herr
  have H3 := Lib.hid hL3.bel
  clear hP hL3 hsc
  go_wp2_with fail
  go_ret
  exact ⟨rfl, H3.out⟩
end Go.Proofs.YtclhgokchcklbaaGreatDoor
end
section
namespace Go.Proofs.YtclhgokchcklbaaGreatDoor
open Go Go.RowKit Go.Mem Gf Lea
set_option linter.unusedVariables false
set_option linter.unusedSimpArgs false
attribute [local go_sem ↓] Go.wp_at_zero Go.wp_at_succ
theorem freeK_all (n : Nat) : ∀ i, i ≤ n → freeK (List.replicate n Sto.Rec.free) i = i
  | 0, _ => rfl
  | i + 1, h => by
    have hr : (List.replicate n Sto.Rec.free)[i]? = some Sto.Rec.free := by
      rw [List.getElem?_replicate, if_pos (by omega)]
    rw [freeK, hr]
    show (if Sto.Rec.free.is = false then freeK (List.replicate n Sto.Rec.free) i + 1 else _) = i + 1
    rw [if_pos (show Sto.Rec.free.is = false from rfl), freeK_all n i (by omega)]
theorem freshS_free (sl rm : Nat) : (freshS sl rm).st.freeN = sl := by
  unfold St.freeN
  show (if false = true then 0 else freeK (List.replicate sl Sto.Rec.free) (List.replicate sl Sto.Rec.free).length) = sl
  rw [if_neg (by decide), List.length_replicate, freeK_all sl sl (Nat.le_refl _)]
set_option maxRecDepth 20000 in
set_option maxHeartbeats 4000000 in
theorem serverNews_walk (w : World) (hT : Tab w) (slots : Int) (_h1 : -9223372036854775808 ≤ slots ∧ slots ≤ 9223372036854775807) (room : Int) (_h2 : -9223372036854775808 ≤ room ∧ room ≤ 9223372036854775807) :
    Calls Tryz.prog 3 #[.int .i64 slots, .int .i64 room] w fun e w' => e = .returned (.bool true) ∧ Below w.heap.size w w' := by
  have HT := Lib.hid hT
  clear hT _h1 _h2
  go_enter Tryz.func3, Tryz.ntmps3
  go_upto_region 1 with fail
  go_cut [14] (fun v wx => ∃ b : Bool, v = .bool b ∧ w = wx)
  case first =>
    by_cases h1 : 40 < slots
    · by_cases h2 : slots ≤ 1024
      all_goals
        go_wp2_with fail
        go_meet
        exact ⟨_, rfl, rfl⟩
    · go_wp2_with fail
      go_meet
      exact ⟨_, rfl, rfl⟩
  case rest =>
  obtain ⟨q1, rfl, rfl⟩ := hcut
  go_upto_if 14 with fail
  go_cut [0] (fun s wx => ∃ a : Int, s = .int .i64 a ∧ w = wx)
  case first =>
    cases q1 with
    | true =>
      go_wp2_with fail
      refine (within_calls slots 40 (by decide) (by decide) w).mono ?_
      rintro e w1 ⟨rfl, rfl⟩
      go_wp2_with fail
      go_meet
      exact ⟨_, rfl, rfl⟩
    | false =>
      go_wp2_with fail
      go_meet
      exact ⟨_, rfl, rfl⟩
  case rest =>
  obtain ⟨a, rfl, rfl⟩ := hcut
  go_upto_region 3 with fail
  go_cut [26] (fun v wx => ∃ b : Bool, v = .bool b ∧ w = wx)
  case first =>
    by_cases h1 : 40 < room
    · by_cases h2 : room ≤ 1024
      · by_cases h3 : a < 30
        all_goals
          go_wp2_with fail
          go_meet
          exact ⟨_, rfl, rfl⟩
      · go_wp2_with fail
        go_meet
        exact ⟨_, rfl, rfl⟩
    · go_wp2_with fail
      go_meet
      exact ⟨_, rfl, rfl⟩
  case rest =>
  obtain ⟨q2, rfl, rfl⟩ := hcut
  go_upto_if 26 with fail
  go_cut [1] (fun s wx => ∃ b : Int, s = .int .i64 b ∧ w = wx)
  case first =>
    cases q2 with
    | true =>
      go_wp2_with fail
      refine (within_calls room 40 (by decide) (by decide) w).mono ?_
      rintro e w1 ⟨rfl, rfl⟩
      go_wp2_with fail
      go_meet
      exact ⟨_, rfl, rfl⟩
    | false =>
      go_wp2_with fail
      go_meet
      exact ⟨_, rfl, rfl⟩
  case rest =>
  obtain ⟨b, rfl, rfl⟩ := hcut
  by_cases hbad : (a < 1 ∨ 1024 < a) ∨ (b < 1 ∨ 1024 < b) ∨ 4096 < a * (b + 1)
  · go_wp2_with fail
    refine (srvnew_bad a b _ hbad).mono ?_
    rintro e w1 ⟨rfl, hb1⟩
    go_wp2_with fail
    refine (rnewsrv_bad a b _ hbad).mono ?_
    rintro e w2 ⟨rfl, rfl⟩
    have HB := Lib.hid hb1
    clear hbad hb1
    go_wp2_with fail
    refine (wakes16_calls _ (HT.out.below HB.out)).mono ?_
    rintro e w2 ⟨rfl, hb2⟩
    have HB2 := Lib.hid (HB.out.trans (hb2.mono HB.out.size))
    clear hb2
    go_wp2_with fail
    go_ret
    exact ⟨rfl, HB2.out⟩
  · obtain ⟨sl, rfl⟩ : ∃ k : Nat, a = (k : Int) := ⟨a.toNat, by omega⟩
    obtain ⟨rm, rfl⟩ : ∃ k : Nat, b = (k : Int) := ⟨b.toNat, by omega⟩
    have h1 : 1 ≤ sl ∧ sl ≤ 1024 := by omega
    have h2 : 1 ≤ rm ∧ rm ≤ 1024 := by omega
    have h3 : sl * (rm + 1) ≤ 4096 := by
      have : ((sl : Int) * ((rm : Int) + 1)) = ((sl * (rm + 1) : Nat) : Int) := by push_cast; rfl
      rw [this] at hbad
      omega
    have HA := Lib.hid (And.intro h1 (And.intro h2 h3))
    clear hbad h1 h2 h3
    go_wp2_with fail
    refine (srvnew_calls sl rm _ HT.out HA.out.1 HA.out.2.1 HA.out.2.2).mono ?_
    rintro e w1 ⟨pb, C, rfl, hS, _, hb1⟩
    go_wp2_with fail
    refine (rnewsrv_calls sl rm w1 HA.out.1 HA.out.2.1 HA.out.2.2).mono ?_
    rintro e w2 ⟨p, q, r, tb, rfl, cp, hq, hb2⟩
    have HW := Lib.hid (And.intro hS (And.intro hb1 (And.intro cp (And.intro hq hb2))))
    clear hS hb1 cp hq hb2
    go_upto_region 9 with fail
    have hfr : (freshS sl rm).st.freeN = sl := freshS_free sl rm
    have hcel : ∀ w', Below w2.heap.size w2 w' → w'.cell? ⟨p, 2, none⟩ = some (.pointer (some ⟨q, 0, none⟩)) := fun w' hb => (HW.out.2.2.1.kept hb).cell 2
    have hsv : ∀ w', Below w2.heap.size w2 w' → IsSrv w' C (fun _ => False) pb (freshS sl rm) := fun w' hb => (HW.out.1.below HW.out.2.2.2.2).below hb
    have htb : ∀ w', Below w2.heap.size w2 w' → Tab w' := fun w' hb => (hsv w' hb).tab
    have hfc : ∀ w', Below w2.heap.size w2 w' → Calls Tryz.prog 11 #[.pointer (some ⟨pb, 0, none⟩)] w' fun e w'' => e = .returned (.int .i64 sl) ∧ Below w'.heap.size w' w'' := fun w' hb => by
      have := srvfree_calls _ _ pb _ w' (hsv w' hb)
      rw [hfr] at this
      exact this
    have hrf : ∀ w', Below w2.heap.size w2 w' → Calls Tryz.prog 12 #[.pointer (some ⟨q, 0, none⟩)] w' fun e w'' => e = .returned (.int .i64 sl) ∧ Below w'.heap.size w' w'' := fun w' hb => (rfree_new q r sl rm w' (HW.out.2.2.2.1.kept hb) HA.out.1.2).mono fun e w'' ⟨h1, k, h2⟩ => ⟨h1, by rw [h2]; exact below_drewN (Below.refl _ _) k⟩
    have hdc : ∀ w', Below w2.heap.size w2 w' → Calls Tryz.prog 13 #[.pointer (some ⟨pb, 0, none⟩)] w' fun e w'' => e = .returned (.bool false) ∧ Below w'.heap.size w' w'' := fun w' hb => (srvdead_calls _ _ pb _ w' (hsv w' hb)).mono fun e w'' ⟨h1, h2⟩ => ⟨h1, by rw [h2]; exact Below.refl _ _⟩
    have hwc : ∀ w', Below w2.heap.size w2 w' → Calls Tryz.prog 10 #[] w' fun e w'' => e = .returned (.bool true) ∧ Below w'.heap.size w' w'' := fun w' hb => wakes16_calls w' (htb w' hb)
    have hfin : ∀ w', Below w2.heap.size w2 w' → Below w.heap.size w w' := fun w' hb => HW.out.2.1.trans ((HW.out.2.2.2.2.trans (hb.mono HW.out.2.2.2.2.size)).mono HW.out.2.1.size)
    have HF := Lib.hid hfin
    clear hfin hfr
    refine Tail.wp_region_J 24 (fun k => k == 8 || k == 13 || k == 18 || k == 22) (fun k => if k = 8 then some (.int .i64 sl) else if k = 13 then some (.int .i64 sl) else if k = 18 then some (.bool false) else if k = 22 then some (.bool true) else none)
      (fun D z w' => Below w2.heap.size w2 w')
      (by kernel_rfl) (by kernel_rfl) (fun k hk => by simp at hk; omega) (fun D z z' w' hz h => h)
      (Below.refl _ _).drew (fun z => ?_)
    simp only [List.take_succ_cons, List.take_zero, List.drop_succ_cons, List.drop_zero]
    refine Tail.J_ex (by rfl) (by rfl) ?_
    apply Exists.intro
    refine ⟨fun w => ?_, ?_⟩
    · go_simp <;> with_reducible rfl
    simp only [Act.put, List.setIfInBounds_toArray, List.set_cons_zero, List.set_cons_succ, Nat.reduceAdd, Nat.reduceEqDiff, reduceIte, Option.getD_some, Option.getD_none]
    refine Tail.J_ex (by rfl) (by rfl) ?_
    apply Exists.intro
    refine ⟨fun w => ?_, ?_⟩
    · go_simp <;> with_reducible rfl
    simp only [Act.put, List.setIfInBounds_toArray, List.set_cons_zero, List.set_cons_succ, Nat.reduceAdd, Nat.reduceEqDiff, reduceIte, Option.getD_some, Option.getD_none]
    refine Tail.J_ex (by rfl) (by rfl) ?_
    apply Exists.intro
    refine ⟨fun w => ?_, ?_⟩
    · go_simp <;> with_reducible rfl
    simp only [Act.put, List.setIfInBounds_toArray, List.set_cons_zero, List.set_cons_succ, Nat.reduceAdd, Nat.reduceEqDiff, reduceIte, Option.getD_some, Option.getD_none]
    refine Tail.J_ex (by rfl) (by rfl) ?_
    apply Exists.intro
    refine ⟨fun w => ?_, ?_⟩
    · go_simp <;> with_reducible rfl
    simp only [Act.put, List.setIfInBounds_toArray, List.set_cons_zero, List.set_cons_succ, Nat.reduceAdd, Nat.reduceEqDiff, reduceIte, Option.getD_some, Option.getD_none]
    refine Tail.J_ex (by rfl) (by rfl) ?_
    apply Exists.intro
    refine ⟨fun w => ?_, ?_⟩
    · go_simp <;> with_reducible rfl
    simp only [Act.put, List.setIfInBounds_toArray, List.set_cons_zero, List.set_cons_succ, Nat.reduceAdd, Nat.reduceEqDiff, reduceIte, Option.getD_some, Option.getD_none]
    refine Tail.J_ex (by rfl) (by rfl) ?_
    apply Exists.intro
    refine ⟨fun w => ?_, ?_⟩
    · go_simp <;> with_reducible rfl
    simp only [Act.put, List.setIfInBounds_toArray, List.set_cons_zero, List.set_cons_succ, Nat.reduceAdd, Nat.reduceEqDiff, reduceIte, Option.getD_some, Option.getD_none]
    refine Tail.J_ex (by rfl) (by rfl) ?_
    apply Exists.intro
    refine ⟨fun w => ?_, ?_⟩
    · go_simp <;> with_reducible rfl
    simp only [Act.put, List.setIfInBounds_toArray, List.set_cons_zero, List.set_cons_succ, Nat.reduceAdd, Nat.reduceEqDiff, reduceIte, Option.getD_some, Option.getD_none]
    refine Tail.J_ex (by rfl) (by rfl) ?_
    apply Exists.intro
    refine ⟨fun w => ?_, ?_⟩
    · go_simp <;> with_reducible rfl
    simp only [Act.put, List.setIfInBounds_toArray, List.set_cons_zero, List.set_cons_succ, Nat.reduceAdd, Nat.reduceEqDiff, reduceIte, Option.getD_some, Option.getD_none]
    refine Tail.J_call (by rfl) (by rfl) ?_ ?_
    · apply Exists.intro
      apply Exists.intro
      refine ⟨fun w' => ?_, ?_⟩
      · go_simp <;> exact ⟨rfl, rfl⟩
      intro D z' w' hD hz hd hp hJ
      refine (hfc w' hJ).mono ?_
      rintro e w'' ⟨rfl, hb⟩
      exact ⟨_, rfl, fun c hc => by simp at hc; rw [← hc], hJ.trans (hb.mono hJ.size)⟩
    simp only [Act.put, List.setIfInBounds_toArray, List.set_cons_zero, List.set_cons_succ, Nat.reduceAdd, Nat.reduceEqDiff, reduceIte, Option.getD_some, Option.getD_none]
    refine Tail.J_ex (by rfl) (by rfl) ?_
    apply Exists.intro
    refine ⟨fun w => ?_, ?_⟩
    · go_simp <;> with_reducible rfl
    simp only [Act.put, List.setIfInBounds_toArray, List.set_cons_zero, List.set_cons_succ, Nat.reduceAdd, Nat.reduceEqDiff, reduceIte, Option.getD_some, Option.getD_none]
    refine Tail.J_ex (by rfl) (by rfl) ?_
    apply Exists.intro
    refine ⟨fun w => ?_, ?_⟩
    · go_simp <;> with_reducible rfl
    simp only [Act.put, List.setIfInBounds_toArray, List.set_cons_zero, List.set_cons_succ, Nat.reduceAdd, Nat.reduceEqDiff, reduceIte, Option.getD_some, Option.getD_none]
    refine Tail.J_ex (by rfl) (by rfl) ?_
    apply Exists.intro
    refine ⟨fun w => ?_, ?_⟩
    · go_simp <;> with_reducible rfl
    simp only [Act.put, List.setIfInBounds_toArray, List.set_cons_zero, List.set_cons_succ, Nat.reduceAdd, Nat.reduceEqDiff, reduceIte, Option.getD_some, Option.getD_none]
    refine Tail.J_at (by rfl) (by rfl) ?_
    apply Exists.intro
    refine ⟨fun D w' hd hp hJ => ?_, ?_⟩
    · have cc := hcel w' hJ
      go_simp <;> with_reducible rfl
    simp only [Act.put, List.setIfInBounds_toArray, List.set_cons_zero, List.set_cons_succ, Nat.reduceAdd, Nat.reduceEqDiff, reduceIte, Option.getD_some, Option.getD_none]
    refine Tail.J_call (by rfl) (by rfl) ?_ ?_
    · apply Exists.intro
      apply Exists.intro
      refine ⟨fun w' => ?_, ?_⟩
      · go_simp <;> exact ⟨rfl, rfl⟩
      intro D z' w' hD hz hd hp hJ
      refine (hrf w' hJ).mono ?_
      rintro e w'' ⟨rfl, hb⟩
      exact ⟨_, rfl, fun c hc => by simp at hc; rw [← hc], hJ.trans (hb.mono hJ.size)⟩
    simp only [Act.put, List.setIfInBounds_toArray, List.set_cons_zero, List.set_cons_succ, Nat.reduceAdd, Nat.reduceEqDiff, reduceIte, Option.getD_some, Option.getD_none]
    refine Tail.J_ex (by rfl) (by rfl) ?_
    apply Exists.intro
    refine ⟨fun w => ?_, ?_⟩
    · go_simp <;> with_reducible rfl
    simp only [Act.put, List.setIfInBounds_toArray, List.set_cons_zero, List.set_cons_succ, Nat.reduceAdd, Nat.reduceEqDiff, reduceIte, Option.getD_some, Option.getD_none]
    refine Tail.J_ex (by rfl) (by rfl) ?_
    apply Exists.intro
    refine ⟨fun w => ?_, ?_⟩
    · go_simp <;> with_reducible rfl
    simp only [Act.put, List.setIfInBounds_toArray, List.set_cons_zero, List.set_cons_succ, Nat.reduceAdd, Nat.reduceEqDiff, reduceIte, Option.getD_some, Option.getD_none]
    refine Tail.J_ex (by rfl) (by rfl) ?_
    apply Exists.intro
    refine ⟨fun w => ?_, ?_⟩
    · go_simp <;> with_reducible rfl
    simp only [Act.put, List.setIfInBounds_toArray, List.set_cons_zero, List.set_cons_succ, Nat.reduceAdd, Nat.reduceEqDiff, reduceIte, Option.getD_some, Option.getD_none]
    refine Tail.J_ex (by rfl) (by rfl) ?_
    apply Exists.intro
    refine ⟨fun w => ?_, ?_⟩
    · go_simp <;> with_reducible rfl
    simp only [Act.put, List.setIfInBounds_toArray, List.set_cons_zero, List.set_cons_succ, Nat.reduceAdd, Nat.reduceEqDiff, reduceIte, Option.getD_some, Option.getD_none]
    refine Tail.J_call (by rfl) (by rfl) ?_ ?_
    · apply Exists.intro
      apply Exists.intro
      refine ⟨fun w' => ?_, ?_⟩
      · go_simp <;> exact ⟨rfl, rfl⟩
      intro D z' w' hD hz hd hp hJ
      refine (hdc w' hJ).mono ?_
      rintro e w'' ⟨rfl, hb⟩
      exact ⟨_, rfl, fun c hc => by simp at hc; rw [← hc], hJ.trans (hb.mono hJ.size)⟩
    simp only [Act.put, List.setIfInBounds_toArray, List.set_cons_zero, List.set_cons_succ, Nat.reduceAdd, Nat.reduceEqDiff, reduceIte, Option.getD_some, Option.getD_none]
    refine Tail.J_ex (by rfl) (by rfl) ?_
    apply Exists.intro
    refine ⟨fun w => ?_, ?_⟩
    · go_simp <;> with_reducible rfl
    simp only [Act.put, List.setIfInBounds_toArray, List.set_cons_zero, List.set_cons_succ, Nat.reduceAdd, Nat.reduceEqDiff, reduceIte, Option.getD_some, Option.getD_none]
    refine Tail.J_ex (by rfl) (by rfl) ?_
    apply Exists.intro
    refine ⟨fun w => ?_, ?_⟩
    · go_simp <;> with_reducible rfl
    simp only [Act.put, List.setIfInBounds_toArray, List.set_cons_zero, List.set_cons_succ, Nat.reduceAdd, Nat.reduceEqDiff, reduceIte, Option.getD_some, Option.getD_none]
    refine Tail.J_ex (by rfl) (by rfl) ?_
    apply Exists.intro
    refine ⟨fun w => ?_, ?_⟩
    · go_simp <;> with_reducible rfl
    simp only [Act.put, List.setIfInBounds_toArray, List.set_cons_zero, List.set_cons_succ, Nat.reduceAdd, Nat.reduceEqDiff, reduceIte, Option.getD_some, Option.getD_none]
    refine Tail.J_call (by rfl) (by rfl) ?_ ?_
    · apply Exists.intro
      apply Exists.intro
      refine ⟨fun w' => ?_, ?_⟩
      · go_simp <;> exact ⟨rfl, rfl⟩
      intro D z' w' hD hz hd hp hJ
      refine (hwc w' hJ).mono ?_
      rintro e w'' ⟨rfl, hb⟩
      exact ⟨_, rfl, fun c hc => by simp at hc; rw [← hc], hJ.trans (hb.mono hJ.size)⟩
    simp only [Act.put, List.setIfInBounds_toArray, List.set_cons_zero, List.set_cons_succ, Nat.reduceAdd, Nat.reduceEqDiff, reduceIte, Option.getD_some, Option.getD_none]
    refine Tail.J_ex (by rfl) (by rfl) ?_
    apply Exists.intro
    refine ⟨fun w => ?_, ?_⟩
    · go_simp <;> with_reducible rfl
    simp only [Act.put, List.setIfInBounds_toArray, List.set_cons_zero, List.set_cons_succ, Nat.reduceAdd, Nat.reduceEqDiff, reduceIte, Option.getD_some, Option.getD_none]
    intro w' hJ
    have HE := Lib.hid hJ
    clear hJ hcel hsv htb hfc hrf hdc hwc
    go_wp2_with fail
    go_ret
    exact ⟨rfl, HF.out w' HE.out⟩
end Go.Proofs.YtclhgokchcklbaaGreatDoor
end
section
namespace Go.Proofs.YtclhgokchcklbaaGreatDoor
open Go Go.RowKit Go.Mem
theorem tabT : (Tryz.prog.globals[gT]?).map (·.type) = some 285 := by kernel_rfl
theorem tab_of_laid {W : World} (h : laidMetH Tryz.prog [("math/bits.deBruijn32tab", Rows.laid_math_bits_deBruijn32tab), ("math/bits.deBruijn64tab", Rows.laid_math_bits_deBruijn64tab), ("internal/strconv.uint64pow10", Rows.laid_internal_strconv_uint64pow10)] W) : Tab W := by
  rw [MakeChecks.laidMetH_plain _ _ _ (by kernel_rfl)] at h
  obtain ⟨ps, ⟨g0, t0, cs0, f0, p0, q0, hg0, ht0, hv0, hd0, ⟨g1, t1, cs1, f1, p1, q1, hg1, ht1, hv1, hd1, ⟨g2, t2, cs2, f2, p2, q2, hg2, ht2, hv2, hd2, _, _⟩, _⟩, _⟩, _, _⟩ := h
  obtain rfl := Option.some.inj (gT_eq.symm.trans hg2)
  obtain rfl := Option.some.inj (tabT.symm.trans ht2)
  have hd : DataW.trod (fun _ => ()) Tryz.prog W 0 (fun _ => true) false f2 285 cs2.toList = some (Lib.tabData .u64 Lib.pow10Tab, p2) := hd2.trans (by rw [show (Rows.laid_internal_strconv_uint64pow10 : DataW Unit) = Lib.tabData .u64 Lib.pow10Tab from rfl])
  unfold Tab Lib.TabIs
  rw [hv2, ← Lib.cells_of_tab Tryz.underlying285 Tryz.underlying237 (by kernel_rfl) (by kernel_rfl) hd]
end Go.Proofs.YtclhgokchcklbaaGreatDoor
end
