/- Texts of this proof, packed: SrvReqB, SrvLab, SrvSweep. -/
import Derived.Test.YtbbojbdigiibbaaGreatDoorPk22
import Derived.Great.FillDense
section
namespace Go.Mem
open Go Go.RowKit Gf Lea
structure RF where
  kind : Value
  ix : List Value
  sec : List Value
  ends : Value
  en : List Value
  vt : Value
  vb : Value
def RF.V (f : RF) : List Value := f.kind :: (f.ix ++ (f.sec ++ (f.ends :: (f.en ++ [f.vt, f.vb]))))
def zk : List Value := bV z16
theorem zk_eq : zk = bV z16 := rfl
def RF.zero : RF := ⟨.int .i64 0, zk, zk, .int .i64 0, zk, .slice none 0 0, .slice none 0 0⟩
def RF.set (f : RF) : Nat → Value → RF
  | 0, v => { f with kind := v }
  | 1, v => { f with ix := aggL v }
  | 2, v => { f with sec := aggL v }
  | 3, v => { f with ends := v }
  | 4, v => { f with en := aggL v }
  | 5, v => { f with vt := v }
  | 6, v => { f with vb := v }
  | _, _ => f
def okAt : Nat → Value → Bool
  | 0, v => v.oneCell'
  | 1, v => aggIs v && decide ((aggL v).length = 16)
  | 2, v => aggIs v && decide ((aggL v).length = 16)
  | 3, v => v.oneCell'
  | 4, v => aggIs v && decide ((aggL v).length = 16)
  | 5, v => v.oneCell'
  | 6, v => v.oneCell'
  | _, _ => false
structure RF.Ok (f : RF) : Prop where
  ix : f.ix.length = 16
  sec : f.sec.length = 16
  en : f.en.length = 16
theorem zk_len : zk.length = 16 := by rw [zk_eq, bV_len]; rfl
theorem RF.zero_ok : RF.zero.Ok := ⟨zk_len, zk_len, zk_len⟩
theorem RF.Ok.set {f : RF} (h : f.Ok) {i : Nat} {v : Value} (hv : okAt i v = true) : (f.set i v).Ok := by
  match i, hv with
  | 0, _ => exact ⟨h.ix, h.sec, h.en⟩
  | 1, hv => simp [okAt] at hv; exact ⟨hv.2, h.sec, h.en⟩
  | 2, hv => simp [okAt] at hv; exact ⟨h.ix, hv.2, h.en⟩
  | 3, _ => exact ⟨h.ix, h.sec, h.en⟩
  | 4, hv => simp [okAt] at hv; exact ⟨h.ix, h.sec, hv.2⟩
  | 5, _ => exact ⟨h.ix, h.sec, h.en⟩
  | 6, _ => exact ⟨h.ix, h.sec, h.en⟩
theorem RF.Ok.len {f : RF} (h : f.Ok) : f.V.length = 52 := by
  unfold RF.V
  simp [h.ix, h.sec, h.en]
theorem cells_one {v : Value} (h : v.oneCell' = true) : v.cells = #[v] := by
  cases v <;> first | rfl | cases h
theorem cells_agg {v : Value} (h : aggIs v = true) : v.cells = (aggL v).toArray := by
  cases v <;> first | rfl | cases h
theorem fold_cells (off : Nat) (q c : Array Value) (h : off + q.size ≤ c.size) : q.zipIdx.foldl (fun cs (x : Value × Nat) => cs.setIfInBounds (off + x.2) x.1) c = (c.toList.take off ++ q.toList ++ c.toList.drop (off + q.size)).toArray := by
  have e : q.zipIdx.foldl (fun cs (x : Value × Nat) => cs.setIfInBounds (off + x.2) x.1) c = (q.toList.zipIdx 0).foldl (fun cs (x : Value × Nat) => cs.setIfInBounds (off + x.2) x.1) c := by
    rw [← Array.foldl_toList, Array.toList_zipIdx]
  obtain ⟨h1, h2⟩ := Great.foldl_set off q.toList 0 c
  rw [e]
  apply Array.ext_getElem?
  intro k
  rw [h2]
  simp only [Nat.add_zero, Array.length_toList, List.getElem?_toArray]
  by_cases hk : k < off
  · rw [if_neg (by omega), List.getElem?_append_left (by simp; omega), List.getElem?_append_left (by simp; omega), List.getElem?_take, if_pos hk, Array.getElem?_toList]
  · by_cases hk2 : k < off + q.size
    · rw [if_pos (by omega), List.getElem?_append_left (by simp; omega), List.getElem?_append_right (by simp; omega)]
      simp only [List.length_take, Array.length_toList, Array.getElem?_toList]
      congr 1
      omega
    · rw [if_neg (by omega), List.getElem?_append_right (by simp; omega)]
      simp only [List.length_append, List.length_take, Array.length_toList, List.getElem?_drop]
      rw [← Array.getElem?_toList]
      congr 1
      omega
def reqPl : List (Nat × Nat) := [(0, 1), (1, 16), (17, 16), (33, 1), (34, 16), (50, 1), (51, 1)]
theorem take_app {a b : List Value} {n : Nat} (h : a.length = n) : (a ++ b).take n = a := by rw [List.take_append_of_le_length (by omega), List.take_of_length_le (by omega)]
theorem drop_app {a b : List Value} {n : Nat} (h : a.length = n) : (a ++ b).drop n = b := by rw [List.drop_append_of_le_length (by omega), List.drop_of_length_le (by omega), List.nil_append]
theorem set_mid {a b c d : List Value} {n m : Nat} (h1 : a.length = n) (h2 : b.length = m) : ((a ++ (b ++ c)).take n ++ d ++ (a ++ (b ++ c)).drop (n + m)) = a ++ (d ++ c) := by
  rw [take_app h1, ← List.append_assoc a b c, drop_app (by rw [List.length_append]; omega), List.append_assoc]
theorem fill_step {f : RF} (h : f.Ok) {i : Nat} {v : Value} (hv : okAt i v = true) (rest : List (Nat × Value)) : Instr.fill (reqPl.toArray[·]?) f.V.toArray ((i, v) :: rest) = Instr.fill (reqPl.toArray[·]?) (f.set i v).V.toArray rest := by
  have hl := h.len
  obtain ⟨k, ix, sec, e, en, vt, vb⟩ := f
  obtain ⟨h1, h2, h3⟩ := h
  simp only at h1 h2 h3
  have key : ∀ (off n : Nat) (q : List Value), reqPl.toArray[i]? = some (off, n) → v.cells = q.toArray → q.length = n → off + n ≤ 52 →
      Instr.fill (reqPl.toArray[·]?) (RF.V ⟨k, ix, sec, e, en, vt, vb⟩).toArray ((i, v) :: rest) = Instr.fill (reqPl.toArray[·]?) ((RF.V ⟨k, ix, sec, e, en, vt, vb⟩).take off ++ q ++ (RF.V ⟨k, ix, sec, e, en, vt, vb⟩).drop (off + n)).toArray rest := fun off n q e1 e2 e3 e4 => by
    rw [Instr.fill]
    simp only [e1, e2]
    rw [if_neg (by simp [hl, e3]; omega), fold_cells _ _ _ (by simp [hl]; omega)]
    simp [e3]
  match i, hv with
  | 0, hv => rw [key 0 1 [v] rfl (cells_one hv) rfl (by decide)]; rfl
  | 1, hv =>
    simp only [okAt, Bool.and_eq_true, decide_eq_true_eq] at hv
    rw [key 1 16 (aggL v) rfl (cells_agg hv.1) hv.2 (by decide)]
    exact congrArg (fun l => Instr.fill _ (List.toArray l) rest) (set_mid (a := [k]) (b := ix) rfl h1)
  | 2, hv =>
    simp only [okAt, Bool.and_eq_true, decide_eq_true_eq] at hv
    rw [key 17 16 (aggL v) rfl (cells_agg hv.1) hv.2 (by decide)]
    have : RF.V ⟨k, ix, sec, e, en, vt, vb⟩ = (k :: ix) ++ (sec ++ (e :: (en ++ [vt, vb]))) := by simp [RF.V]
    rw [this, set_mid (by simp; omega) h2]
    simp [RF.V, RF.set]
  | 3, hv =>
    rw [key 33 1 [v] rfl (cells_one hv) rfl (by decide)]
    have : RF.V ⟨k, ix, sec, e, en, vt, vb⟩ = (k :: (ix ++ sec)) ++ ([e] ++ (en ++ [vt, vb])) := by simp [RF.V]
    rw [this, set_mid (m := 1) (by simp; omega) rfl]
    simp [RF.V, RF.set]
  | 4, hv =>
    simp only [okAt, Bool.and_eq_true, decide_eq_true_eq] at hv
    rw [key 34 16 (aggL v) rfl (cells_agg hv.1) hv.2 (by decide)]
    have : RF.V ⟨k, ix, sec, e, en, vt, vb⟩ = (k :: (ix ++ (sec ++ [e]))) ++ (en ++ [vt, vb]) := by simp [RF.V]
    rw [this, set_mid (by simp; omega) h3]
    simp [RF.V, RF.set]
  | 5, hv =>
    rw [key 50 1 [v] rfl (cells_one hv) rfl (by decide)]
    have : RF.V ⟨k, ix, sec, e, en, vt, vb⟩ = (k :: (ix ++ (sec ++ (e :: en)))) ++ ([vt] ++ [vb]) := by simp [RF.V]
    rw [this, set_mid (m := 1) (by simp; omega) rfl]
    simp [RF.V, RF.set]
  | 6, hv =>
    rw [key 51 1 [v] rfl (cells_one hv) rfl (by decide)]
    have : RF.V ⟨k, ix, sec, e, en, vt, vb⟩ = (k :: (ix ++ (sec ++ (e :: (en ++ [vt]))))) ++ ([vb] ++ []) := by simp [RF.V]
    rw [this, set_mid (m := 1) (by simp; omega) rfl]
    simp [RF.V, RF.set]
theorem fill_req : ∀ (l : List (Nat × Value)) (f : RF), f.Ok → (∀ p ∈ l, okAt p.1 p.2 = true) → Instr.fill (reqPl.toArray[·]?) f.V.toArray l = some (l.foldl (fun f p => f.set p.1 p.2) f).V.toArray
  | [], f, _, _ => rfl
  | (i, v) :: l, f, h, hl => by
    rw [fill_step h (hl (i, v) (by simp)), fill_req l _ (h.set (hl (i, v) (by simp))) (fun p hp => hl p (List.mem_cons_of_mem _ hp))]
    rfl
section
variable (k e vt vb v : Value) (ix sec en : List Value)
theorem rfs0 : RF.set ⟨k, ix, sec, e, en, vt, vb⟩ 0 v = ⟨v, ix, sec, e, en, vt, vb⟩ := rfl
theorem rfs1 : RF.set ⟨k, ix, sec, e, en, vt, vb⟩ 1 v = ⟨k, aggL v, sec, e, en, vt, vb⟩ := rfl
theorem rfs2 : RF.set ⟨k, ix, sec, e, en, vt, vb⟩ 2 v = ⟨k, ix, aggL v, e, en, vt, vb⟩ := rfl
theorem rfs3 : RF.set ⟨k, ix, sec, e, en, vt, vb⟩ 3 v = ⟨k, ix, sec, v, en, vt, vb⟩ := rfl
theorem rfs4 : RF.set ⟨k, ix, sec, e, en, vt, vb⟩ 4 v = ⟨k, ix, sec, e, aggL v, vt, vb⟩ := rfl
theorem rfs5 : RF.set ⟨k, ix, sec, e, en, vt, vb⟩ 5 v = ⟨k, ix, sec, e, en, v, vb⟩ := rfl
theorem rfs6 : RF.set ⟨k, ix, sec, e, en, vt, vb⟩ 6 v = ⟨k, ix, sec, e, en, vt, v⟩ := rfl
theorem rfz : RF.zero = ⟨.int .i64 0, zk, zk, .int .i64 0, zk, .slice none 0 0, .slice none 0 0⟩ := rfl
theorem ok0 : okAt 0 v = v.oneCell' := rfl
theorem ok1 : okAt 1 v = (aggIs v && decide ((aggL v).length = 16)) := rfl
theorem ok2 : okAt 2 v = (aggIs v && decide ((aggL v).length = 16)) := rfl
theorem ok3 : okAt 3 v = v.oneCell' := rfl
theorem ok4 : okAt 4 v = (aggIs v && decide ((aggL v).length = 16)) := rfl
theorem ok5 : okAt 5 v = v.oneCell' := rfl
theorem ok6 : okAt 6 v = v.oneCell' := rfl
end
end Go.Mem
namespace Go.Proofs.YtbbojbdigiibbaaGreatDoor
open Go Go.RowKit Go.Mem Gf Lea
theorem built_req (l : List (Nat × Value)) (h : ∀ p ∈ l, okAt p.1 p.2 = true) : Tryz.prog.built 47 l = some (l.foldl (fun f p => f.set p.1 p.2) RF.zero).V.toArray := by
  have h0 : Tryz.prog.built 47 l = Instr.fill (reqPl.toArray[·]?) RF.zero.V.toArray l := by
    unfold Program.built
    kernel_rfl
  rw [h0, fill_req l _ RF.zero_ok h]
def reqOf (a : Act) (l : List (Nat × Operand)) : RF := l.foldl (fun f p => f.set p.1 (a.eval p.2)) RF.zero
def reqFit (a : Act) (l : List (Nat × Operand)) : Bool := l.all fun p => okAt p.1 (a.eval p.2)
theorem build_req (dst : Option Tmp) (l : List (Nat × Operand)) (ty : TypeId) (pos : String) (af : Array Edge) (gd : Option (Tmp × Bool)) (a : Act) (w : World) (K : Act → World → Prop) (Q : Exit → Act → World → Prop) (h : reqFit a l = true) :
    Oper.wp Tryz.prog ⟨dst, .build 47 l.toArray, ty, pos, af, gd⟩ a w K Q = K (a.put dst (.agg (reqOf a l).V.toArray)) w := by
  have hb := built_req (l.map fun p => (p.1, a.eval p.2)) (fun p hp => by
    obtain ⟨q, hq, rfl⟩ := List.mem_map.1 hp
    exact List.all_eq_true.1 h q hq)
  have e : (l.map fun p => (p.1, a.eval p.2)).foldl (fun (f : RF) p => f.set p.1 p.2) RF.zero = reqOf a l := by
    unfold reqOf
    rw [List.foldl_map]
  rw [e] at hb
  unfold Oper.wp execOp
  have hr := run_build (P := Tryz.prog) w 47 (l.map fun p => (p.1, a.eval p.2)).toArray (reqOf a l).V.toArray (by exact hb)
  have em : l.toArray.map (fun p => (p.1, a.eval p.2)) = (l.map fun p => (p.1, a.eval p.2)).toArray := by simp
  simp only [Sem.run_bind]
  first
    | (rw [show (Array.map (fun x => (x.1, a.eval x.2)) l.toArray) = (l.map fun p => (p.1, a.eval p.2)).toArray from em]; simp only [hr, Result.andThen_ok]; rfl)
    | (simp only [em, hr, Result.andThen_ok]; rfl)
theorem build_req_ct (dst : Option Tmp) (i0 : Nat) (c0 : Value) (i1 : Nat) (x1 : Operand) (ty : TypeId) (pos : String) (af : Array Edge) (gd : Option (Tmp × Bool)) (a : Act) (w : World) (K : Act → World → Prop) (Q : Exit → Act → World → Prop) (h : reqFit a [(i0, .const c0), (i1, x1)] = true) :
    Oper.wp Tryz.prog ⟨dst, .build 47 #[(i0, .const c0), (i1, x1)], ty, pos, af, gd⟩ a w K Q = K (a.put dst (.agg (reqOf a [(i0, .const c0), (i1, x1)]).V.toArray)) w := build_req dst [(i0, .const c0), (i1, x1)] ty pos af gd a w K Q h
theorem build_req_cct (dst : Option Tmp) (i0 : Nat) (c0 : Value) (i1 : Nat) (c1 : Value) (i2 : Nat) (x2 : Operand) (ty : TypeId) (pos : String) (af : Array Edge) (gd : Option (Tmp × Bool)) (a : Act) (w : World) (K : Act → World → Prop) (Q : Exit → Act → World → Prop) (h : reqFit a [(i0, .const c0), (i1, .const c1), (i2, x2)] = true) :
    Oper.wp Tryz.prog ⟨dst, .build 47 #[(i0, .const c0), (i1, .const c1), (i2, x2)], ty, pos, af, gd⟩ a w K Q = K (a.put dst (.agg (reqOf a [(i0, .const c0), (i1, .const c1), (i2, x2)]).V.toArray)) w := build_req dst [(i0, .const c0), (i1, .const c1), (i2, x2)] ty pos af gd a w K Q h
theorem build_req_cttt (dst : Option Tmp) (i0 : Nat) (c0 : Value) (i1 : Nat) (x1 : Operand) (i2 : Nat) (x2 : Operand) (i3 : Nat) (x3 : Operand) (ty : TypeId) (pos : String) (af : Array Edge) (gd : Option (Tmp × Bool)) (a : Act) (w : World) (K : Act → World → Prop) (Q : Exit → Act → World → Prop) (h : reqFit a [(i0, .const c0), (i1, x1), (i2, x2), (i3, x3)] = true) :
    Oper.wp Tryz.prog ⟨dst, .build 47 #[(i0, .const c0), (i1, x1), (i2, x2), (i3, x3)], ty, pos, af, gd⟩ a w K Q = K (a.put dst (.agg (reqOf a [(i0, .const c0), (i1, x1), (i2, x2), (i3, x3)]).V.toArray)) w := build_req dst [(i0, .const c0), (i1, x1), (i2, x2), (i3, x3)] ty pos af gd a w K Q h
theorem build_req_ctt (dst : Option Tmp) (i0 : Nat) (c0 : Value) (i1 : Nat) (x1 : Operand) (i2 : Nat) (x2 : Operand) (ty : TypeId) (pos : String) (af : Array Edge) (gd : Option (Tmp × Bool)) (a : Act) (w : World) (K : Act → World → Prop) (Q : Exit → Act → World → Prop) (h : reqFit a [(i0, .const c0), (i1, x1), (i2, x2)] = true) :
    Oper.wp Tryz.prog ⟨dst, .build 47 #[(i0, .const c0), (i1, x1), (i2, x2)], ty, pos, af, gd⟩ a w K Q = K (a.put dst (.agg (reqOf a [(i0, .const c0), (i1, x1), (i2, x2)]).V.toArray)) w := build_req dst [(i0, .const c0), (i1, x1), (i2, x2)] ty pos af gd a w K Q h
end Go.Proofs.YtbbojbdigiibbaaGreatDoor
end
section
namespace Go.Proofs.YtbbojbdigiibbaaGreatDoor
open Go Go.RowKit Go.Mem Gf Lea
set_option linter.unusedVariables false
structure SrvL (w0 w : World) (C : Nat → Prop) (pb : Nat) (s : SrvS) : Prop where
  srv : IsSrv w C (fun _ => False) pb s
  bel : Below w0.heap.size w0 w
  c1 : ∀ b, C b → w0.heap.size ≤ b
section
variable {w0 w w' : World} {C C' : Nat → Prop} {pb : Nat} {s s' : SrvS}
theorem SrvL.step (h : SrvL w0 w C pb s) (hb : Below w.heap.size w w') : SrvL w0 w' C pb s := ⟨h.srv.below hb, h.bel.trans (hb.mono h.bel.size), h.c1⟩
theorem SrvL.sch (h : SrvL w0 w C pb s) (hs : IsSrv w' C' (fun _ => False) pb s') (hc : SChg C C' w w') : SrvL w0 w' C' pb s' :=
  ⟨hs, Chg.far h.bel hc.1 h.bel.size h.c1, fun b hb => by
    rcases hc.2 b hb with h1 | h1
    · exact h.c1 b h1
    · exact Nat.le_trans h.bel.size h1⟩
theorem SrvL.tab (h : SrvL w0 w C pb s) : Tab w := h.srv.tab
theorem SrvL.old (h : SrvL w0 w C pb s) {b : Nat} (hb : C b) : b < w.heap.size := h.srv.lt (.inl hb)
theorem BlAt.sch {v : Value} {l : List Blob} (h : BlAt w C v l) (hc : SChg C C' w w') : BlAt w' C' v l :=
  ((h.mono (M := fun b => C b ∨ C' b) (fun b hb => hb.elim .inl (hc.2 b))).chg hc.1 (fun b hb _ => .inl hb)).mono (fun b hb => .inl (.inr hb))
theorem SrvL.bys (h : SrvL w0 w C pb s) {v : Value} {bs : List UInt8} (hb : Bys w0 v bs) : Bys w v bs := hb.below h.bel
end
theorem do_answers {C X : Nat → Prop} {pb : Nat} {s : SrvS} {r : Req} (hr : r.Wf) {w : World} (h : IsSrv w C X pb s) (hB : s.dead = false) (k : Nat) (hk : handD k = true) (hkr : r.kind = (k : Int)) (R : Int → SrvS → Prop)
    (hP : ∀ w1 p4, Below w.heap.size w w1 → w.heap.size ≤ p4 → IsSrv w1 C (fun b => X b ∨ b = p4) pb s → Calls Tryz.prog (91 + (k - 1)) #[.pointer (some ⟨pb, 0, none⟩), .agg (reqV r).toArray] w1 (Answers C (fun b => X b ∨ b = p4) pb R w1)) :
    Calls Tryz.prog 20 #[.pointer (some ⟨pb, 0, none⟩), .agg (reqV r).toArray] w (Answers C X pb R w) := by
  refine do_calls C X pb s r hr w h hB k hk hkr _ fun w1 p4 hb h4 hb4 hs => ?_
  refine (hP w1 p4 hb h4 hs).mono ?_
  rintro e w2 ⟨C', err, s', rfl, hR, hs', hsc⟩
  have hk4 := hsc.1.blk hb4 (fun hC => by have := h.lt (.inl hC); omega)
  have hE := reply_end (x := .int .i64 err) (y := .slice none 0 0) hs' (hsc.pre hb) h4
  exact ⟨err, none, 0, 0, rfl, hk4, C', err, s', rfl, hR, hE.1, hE.2⟩
theorem do_gives {C X : Nat → Prop} {pb : Nat} {s : SrvS} {r : Req} (hr : r.Wf) {w : World} (h : IsSrv w C X pb s) (hB : s.dead = false) (k : Nat) (hk : handD k = true) (hkr : r.kind = (k : Int)) (l : List Blob)
    (hP : ∀ w1 p4, Below w.heap.size w w1 → w.heap.size ≤ p4 → IsSrv w1 C (fun b => X b ∨ b = p4) pb s → Calls Tryz.prog (91 + (k - 1)) #[.pointer (some ⟨pb, 0, none⟩), .agg (reqV r).toArray] w1 (Gives w1 l)) :
    Calls Tryz.prog 20 #[.pointer (some ⟨pb, 0, none⟩), .agg (reqV r).toArray] w (Gives w l) := by
  refine do_calls C X pb s r hr w h hB k hk hkr _ fun w1 p4 hb h4 hb4 hs => ?_
  refine (hP w1 p4 hb h4 hs).mono ?_
  rintro e w2 ⟨u, rfl, hO, hb2⟩
  obtain ⟨a, c, rfl, _⟩ := hO.slice
  have hk4 := hb4.kept hb2
  have hE := gives_end (x := .int .i64 0) (y := .slice a l.length c) hO hb hb2 h4 hb4.lt
  exact ⟨0, a, l.length, c, rfl, hk4, _, rfl, hE.1, hE.2⟩
section
variable {w0 w : World} {C : Nat → Prop} {pb : Nat} {s : SrvS}
theorem SrvL.put (h : SrvL w0 w C pb s) (hd : s.dead = false) (hB : SrvB s) (hw : s.st.disk.writes < 72057594037800000) {r : Req} (hr : r.Wf) (hk : r.kind = 2) {l : List Blob} (hl : BlAt w C r.vb l) (hz : ∀ x ∈ l, x.2.length ≤ 1000000) :
    Calls Tryz.prog 20 #[.pointer (some ⟨pb, 0, none⟩), .agg (reqV r).toArray] w fun e w' => ∃ C' err s', e = .returned (.agg #[.int .i64 err, .slice none 0 0]) ∧ PutSh s r l err s' ∧ SrvL w0 w' C' pb s' ∧ SChg C C' w w' := by
  refine (do_answers hr h.srv hd 2 rfl hk (PutSh s r l) fun w1 p4 hb h4 hs => ?_).mono ?_
  · have hl1 : BlAt w1 (fun b => C b ∨ (False ∨ b = p4)) r.vb l := BlAt.below (hl.mono (fun b hb' => hb'.elim .inl (fun h' => h'.elim (fun f => f.elim) (fun e => .inr (by rw [e]; exact h4))))) hb
    exact put_calls16 C _ pb s r l hr w1 hs hB hw hl1 hz
  · rintro e w' ⟨C', err, s', rfl, hR, hs', hsc⟩
    exact ⟨C', err, s', rfl, hR, h.sch hs' hsc, hsc⟩
theorem SrvL.get (h : SrvL w0 w C pb s) (hd : s.dead = false) (hB : SrvB s) {r : Req} (hr : r.Wf) (hk : r.kind = 1) :
    Calls Tryz.prog 20 #[.pointer (some ⟨pb, 0, none⟩), .agg (reqV r).toArray] w (Gives w (s.shares r.ix)) :=
  do_gives hr h.srv hd 1 rfl hk _ fun w1 p4 hb h4 hs => getShares_calls C _ pb s r hr w1 hs hB
theorem SrvL.slot (h : SrvL w0 w C pb s) (hd : s.dead = false) (hB : SrvB s) {r : Req} (hr : r.Wf) (hk : r.kind = 3) {o : Option (Key × List Blob)} (ho : ContIs s r.ix o) :
    Calls Tryz.prog 20 #[.pointer (some ⟨pb, 0, none⟩), .agg (reqV r).toArray] w (Gives w (contL o)) :=
  do_gives hr h.srv hd 3 rfl hk _ fun w1 p4 hb h4 hs => readSlot_calls C _ pb s r o hr w1 hs hB ho
theorem SrvL.renew (h : SrvL w0 w C pb s) (hd : s.dead = false) (hB : SrvB s) {r : Req} (hr : r.Wf) (hk : r.kind = 5) {o : Option (Key × List Blob)} (ho : ContIs s r.ix o) :
    Calls Tryz.prog 20 #[.pointer (some ⟨pb, 0, none⟩), .agg (reqV r).toArray] w fun e w' => ∃ C' err s', e = .returned (.agg #[.int .i64 err, .slice none 0 0]) ∧ RenSrv s r o err s' ∧ SrvL w0 w' C' pb s' ∧ SChg C C' w w' := by
  refine (do_answers hr h.srv hd 5 rfl hk (RenSrv s r o) fun w1 p4 hb h4 hs => renew_calls16 C _ pb s r o hr w1 hs hB ho).mono ?_
  rintro e w' ⟨C', err, s', rfl, hR, hs', hsc⟩
  exact ⟨C', err, s', rfl, hR, h.sch hs' hsc, hsc⟩
theorem SrvL.cancel (h : SrvL w0 w C pb s) (hd : s.dead = false) (hB : SrvB s) {r : Req} (hr : r.Wf) (hk : r.kind = 6) :
    Calls Tryz.prog 20 #[.pointer (some ⟨pb, 0, none⟩), .agg (reqV r).toArray] w fun e w' => ∃ C' err s', e = .returned (.agg #[.int .i64 err, .slice none 0 0]) ∧ CanSrv s r.ix r.sec err s' ∧ SrvL w0 w' C' pb s' ∧ SChg C C' w w' := by
  refine (do_answers hr h.srv hd 6 rfl hk (CanSrv s r.ix r.sec) fun w1 p4 hb h4 hs => can_calls C _ pb s r hr w1 hs hB).mono ?_
  rintro e w' ⟨C', err, s', rfl, hR, hs', hsc⟩
  exact ⟨C', err, s', rfl, hR, h.sch hs' hsc, hsc⟩
theorem SrvL.form (h : SrvL w0 w C pb s) (hd : s.dead = false) {r : Req} (hr : r.Wf) (hk : ∀ k : Nat, handD k = true → (k : Int) ≠ r.kind) :
    Calls Tryz.prog 20 #[.pointer (some ⟨pb, 0, none⟩), .agg (reqV r).toArray] w fun e w' => ∃ C', e = .returned (.agg #[.int .i64 2, .slice none 0 0]) ∧ SrvL w0 w' C' pb s ∧ SChg C C' w w' := by
  refine (do_form C _ pb s r hr w h.srv hd hk).mono ?_
  rintro e w' ⟨C', err, s', rfl, ⟨rfl, rfl⟩, hs', hsc⟩
  exact ⟨C', rfl, h.sch hs' hsc, hsc⟩
theorem SrvL.gone (h : SrvL w0 w C pb s) (hd : s.dead = true) {r : Req} (hr : r.Wf) :
    Calls Tryz.prog 20 #[.pointer (some ⟨pb, 0, none⟩), .agg (reqV r).toArray] w fun e w' => ∃ C', e = .returned (.agg #[.int .i64 8, .slice none 0 0]) ∧ SrvL w0 w' C' pb s ∧ SChg C C' w w' := by
  refine (do_dead C _ pb s r hr w h.srv hd).mono ?_
  rintro e w' ⟨C', err, s', rfl, ⟨rfl, rfl⟩, hs', hsc⟩
  exact ⟨C', rfl, h.sch hs' hsc, hsc⟩
theorem SrvL.restart (h : SrvL w0 w C pb s) {m : Nat} {l : List Sto.Rec} (hh : SHold m s.st.disk s.room l) (hl : l.length = s.slots) (hf : s.slots ≤ 120) (hr : 1 ≤ s.room ∧ s.room ≤ 1000) (hm : m < 1000000) :
    Calls Tryz.prog 29 #[.pointer (some ⟨pb, 0, none⟩)] w fun e w' => ∃ C' s', e = .returned (.int .i64 0) ∧ RestP m s l s' ∧ SrvL w0 w' C' pb s' ∧ SChg C C' w w' := by
  refine (restart_calls C _ pb s m l w h.srv hh hl hf hr hm).mono ?_
  rintro e w' ⟨C', s', rfl, hR, hs', hsc⟩
  exact ⟨C', s', rfl, hR, h.sch hs' hsc, hsc⟩
end
theorem _root_.Go.Mem.SrvG.hold {m : Nat} {s : SrvS} (h : SrvG m s) : SHold m s.st.disk s.room s.st.recs := by
  rw [h.room]; exact h.st.hold
theorem SrvL.restartT {w0 w : World} {C : Nat → Prop} {pb : Nat} {s : SrvS} (h : SrvL w0 w C pb s) {m : Nat} {f : Look} (ht : SrvT m s f) (hm : m < 1000000) :
    Calls Tryz.prog 29 #[.pointer (some ⟨pb, 0, none⟩)] w fun e w' => ∃ C' s', e = .returned (.int .i64 0) ∧ SrvG (m + 1) s' ∧ (∀ nm, Sto.look s'.st.recs nm = f nm) ∧ s'.st.disk.stops = false ∧ s'.slots = s.slots ∧ s'.room = s.room ∧ SrvL w0 w' C' pb s' ∧ SChg C C' w w' := by
  rcases ht with ⟨hg, hf⟩ | ⟨l, hx, hf⟩
  · refine (h.restart hg.hold hg.slots.symm hg.few (by rw [hg.room]; exact hg.st.room) hm).mono ?_
    rintro e w' ⟨C', s', rfl, hR, hs', hsc⟩
    exact ⟨C', s', rfl, hR.good, fun nm => by rw [hR.thin.look, hf], hR.stops, hR.slots, hR.room, hs', hsc⟩
  · refine (h.restart hx.hold hx.slots.symm hx.few hx.room hm).mono ?_
    rintro e w' ⟨C', s', rfl, hR, hs', hsc⟩
    exact ⟨C', s', rfl, hR.good, fun nm => by rw [hR.thin.look, hf], hR.stops, hR.slots, hR.room, hs', hsc⟩
end Go.Proofs.YtbbojbdigiibbaaGreatDoor
end
section
namespace Go.Mem
open Go Go.RowKit Gf Lea Go.Proofs.YtbbojbdigiibbaaGreatDoor
def noL (nm : ByteArray) : Bool := !(((nm.data.toList.getD 0 0).toNat : Int) == 108)
def swN (s : SrvS) (ix : Key) : List ByteArray := ((s.shares ix).map fun x => shareN ix x.1.toNat) ++ [slotN ix, leaseN ix]
def sweepR : List ByteArray → St → Bool → Bool × Int × St
  | [], st, told => (told, 0, st)
  | n :: l, st, told => if (st.get n).isSome = true then (if (dropR st n).1 = 0 then sweepR l (dropR st n).2 (told || noL n) else (told, (dropR st n).1, (dropR st n).2)) else sweepR l st told
theorem mem_sharesK {s : SrvS} {ix : Key} : ∀ {k : Nat} {x : Blob}, x ∈ s.sharesK ix k → ∃ m : Nat, m < k ∧ x.1 = m ∧ s.st.get (shareN ix m) = some x.2
  | 0, x, h => by simp [SrvS.sharesK] at h
  | k + 1, x, h => by
    rw [SrvS.sharesK_succ, List.mem_append] at h
    rcases h with h | h
    · obtain ⟨m, h1, h2, h3⟩ := mem_sharesK h
      exact ⟨m, by omega, h2, h3⟩
    · cases hg : s.st.get (shareN ix k) with
      | none => rw [hg] at h; simp at h
      | some b =>
        rw [hg] at h
        simp at h
        subst h
        exact ⟨k, by omega, rfl, hg⟩
theorem swN_size {s : SrvS} {ix : Key} (hix : ix.length = 16) : ∀ nm ∈ swN s ix, 0 < nm.size := fun nm hn => by
  unfold swN at hn
  rcases List.mem_append.1 hn with h | h
  · obtain ⟨x, _, rfl⟩ := List.mem_map.1 h
    rw [share_size _ _ hix]; decide
  · simp only [List.mem_cons, List.mem_nil_iff, or_false] at h
    rcases h with rfl | rfl
    · rw [slot_size _ hix]; decide
    · rw [lease_size _ hix]; decide
theorem dropR_writes (s : St) (nm : ByteArray) : (dropR s nm).2.disk.writes ≤ s.disk.writes + 1 := by
  unfold dropR
  split
  · exact Nat.le_succ _
  · split
    · exact Nat.le_succ _
    · exact DiskS.wr_writes _ _ _
end Go.Mem
namespace Go.Tail
open Go
section
variable {P : Program} {ops : Array Oper} {isM : Nat → Bool} {kn : Nat → Option Value} {J : (Nat → Bool) → (Nat → Value) → World → Prop}
theorem J_mov {z : Nat → Value} {Lq : Act → Prop} {o : Oper} {rest : List Oper} {k : Nat} {a : Act} (hk : isM k = true) (hw : Region.wanted o (yielded ops a.tmps) = true)
    (h1 : ∀ D z' w, D k = false → (∀ k', D k' = true → z k' = z' k') → (∀ k', dep .any ops isM k k' = true → D k' = true) → (∀ k', pre .any ops isM k' k = true → D k' = false) → J D z' w → ∃ v w', (execOp a.eval o).run P w = .ok (.value v) w' ∧ (∀ c, kn k = some c → v = c) ∧ J (updB D k) (updV z' k v) w')
    (h : wpJ P ops isM kn J z Lq rest (k + 1) (a.put o.dst ((kn k).getD (z k)))) : wpJ P ops isM kn J z Lq (o :: rest) k a :=
  ⟨_, .inr (.inr ⟨hk, hw, rfl, fun D z' w hD hz hd hp hJ => .inr (h1 D z' w hD hz hd hp hJ)⟩), h⟩
end
end Go.Tail
namespace Go.Mem
open Go Go.RowKit Gf
theorem run_app_own {P : Program} {t e : TypeId} {z : Value} {bytes : Nat} (E : Elem P t e z bytes) {o : Oper} {a : Act} {w : World} (s x : Operand) (ho : o.op = .call { callee := .builtin .append, args := #[s, x], argTypes := #[t, t] })
    {base : Nat} {v : Value} {n m : Nat} {xs : List Value} (news : List Value) (hs : a.eval s = v) {mb : Nat} (hx : a.eval x = .slice (some ⟨mb, 0, none⟩) m m) (hl : news.length = m) (hc : ∀ j u, news[j]? = some u → w.cell? ⟨mb, j, none⟩ = some u) (h1 : ∀ u ∈ news, u.oneCell' = true)
    (hown : w.ownsRow base e 1 v n xs) (hn : n + m ≤ 4294967296) (hby : bytes ≤ 4096) (hbase : base ≤ w.heap.size) :
    ∃ v' w', (execOp a.eval o).run P w = .ok (.value v') w' ∧ w'.ownsRow base e 1 v' (n + m) (xs ++ news) ∧ w.grownBy w' v.ownBlock ∧ (∀ k, v'.ownBlock = some k → v.ownBlock = some k ∨ w.heap.size ≤ k) := by
  obtain ⟨i, hi, hz, hsz, hb⟩ := info_parts E.info
  have hm : (n + m) * bytes ≤ 4294967296 * 4096 := Nat.mul_le_mul hn hby
  obtain ⟨v', w', hr, h2, h3, h4⟩ := run_append_own_new (P := P) w base t o.type e i z 1 bytes E.under hi hz hsz hb E.one (by decide) v n xs hown ⟨mb, 0, none⟩ m m news (by omega)
    (fun j y hj => by
      rw [show (⟨mb, 0, none⟩ : Addr).add j = ⟨mb, j, none⟩ from by unfold Addr.add; split <;> simp_all]
      exact hc j y hj)
    h1 (by unfold maxLen; omega) (by omega) hbase
  refine ⟨v', w', ?_, h2, h3, h4⟩
  unfold execOp
  simp only [ho, resolve, invoke, builtin, Sem.run_bind, Sem.run_pure, Result.andThen_ok, List.map_toArray, List.map_cons, List.map_nil, hs, hx, hr]
theorem app_ex {P : Program} {t e : TypeId} {z : Value} {bytes : Nat} (E : Elem P t e z bytes) {o : Oper} {a : Act} {w : World} (s x : Operand) (ho : o.op = .call { callee := .builtin .append, args := #[s, x], argTypes := #[t, t] })
    {base : Nat} {v : Value} {n m : Nat} {xs : List Value} (news : List Value) (hs : a.eval s = v) {mb : Nat} (hx : a.eval x = .slice (some ⟨mb, 0, none⟩) m m) (hl : news.length = m) (hc : ∀ j u, news[j]? = some u → w.cell? ⟨mb, j, none⟩ = some u) (h1 : ∀ u ∈ news, u.oneCell' = true)
    (hown : w.ownsRow base e 1 v n xs) (hn : n + m ≤ 4294967296) (hby : bytes ≤ 4096) (hbase : base ≤ w.heap.size) {R : Value → World → Prop}
    (h : ∀ v' w', w'.ownsRow base e 1 v' (n + m) (xs ++ news) → w.grownBy w' v.ownBlock → R v' w') : ∃ v' w', (execOp a.eval o).run P w = .ok (.value v') w' ∧ R v' w' := by
  obtain ⟨v', w', h2, h3, h4, _⟩ := run_app_own E s x ho news hs hx hl hc h1 hown hn hby hbase
  exact ⟨v', w', h2, h v' w' h3 h4⟩
end Go.Mem
namespace Go.Proofs.YtbbojbdigiibbaaGreatDoor
open Go Go.RowKit Go.Mem Gf Lea
set_option linter.unusedVariables false
theorem idx0 {nm : ByteArray} (h : 0 < nm.size) (w : World) : (Instr.index 9 (.string nm) (.int .i64 0)).run Tryz.prog w = .ok (.int .u8 ((nm.data.toList.getD 0 0).toNat : Int)) w := by
  rw [run_index_string w 9 nm .i64 0 Tryz.underlying9, dif_pos ⟨by omega, by omega⟩]
  have e : nm[(0 : Int).toNat]'(by simpa using h) = nm.data.toList.getD 0 0 := by
    have h1 : 0 < nm.data.toList.length := by simpa using h
    rw [List.getD_eq_getElem?_getD, List.getElem?_eq_getElem h1]
    rfl
  rw [e]
theorem own_cellB {w : World} {base n g c : Nat} {t : TypeId} {L : List ByteArray} (h : w.ownsRow base t 1 (.slice (some ⟨g, 0, none⟩) n c) n (L.map Value.string)) {i : Nat} {x : ByteArray} (hx : L[i]? = some x) : w.cell? ⟨g, i, none⟩ = some (.string x) := by
  have := h.cells (g := g) rfl i (.string x) (by rw [List.getElem?_map, hx]; rfl)
  rw [show (⟨g, 0, none⟩ : Addr).add i = ⟨g, i, none⟩ from by unfold Addr.add; split <;> simp_all] at this
  exact this
attribute [local go_sem ↓] Go.wp_at_zero Go.wp_at_succ
attribute [local go_sem ↓] load_key
attribute [local go_sem] ptrB_eq ptrO_eq ptrIs_eq aggL_eq aggIs_eq readK_drew hasK_drew readK_alloc_past hasK_alloc_past readK_alloc_in hasK_alloc_in
set_option maxRecDepth 20000 in
set_option maxHeartbeats 4000000 in
theorem sweep_calls (C X : Nat → Prop) (pb : Nat) (s : SrvS) (ix : Key) (hix : ix.length = 16) (w : World) (h : IsSrv w C X pb s) (hw : s.st.disk.writes < 72057594037800000) :
    Calls Tryz.prog 61 #[.pointer (some ⟨pb, 0, none⟩), .agg (bV ix).toArray] w fun e w' => ∃ told err st', e = .returned (.tuple #[.bool told, .int .i64 err]) ∧ sweepR (swN s ix) s.st false = (told, err, st') ∧ IsSrv w' C X pb { s with st := st' } ∧ Chg C w w' := by
  have hb0 : Below w.heap.size w (w.alloc (.cells (bV ix).toArray 39)) := (Below.refl _ _).alloc (Nat.le_refl _) _
  have hk0 : Blk (w.alloc (.cells (bV ix).toArray 39)) w.heap.size (bV ix).toArray 39 := Blk.new _ _ _
  obtain ⟨ck, hck⟩ : ∃ c, c = bV ix := ⟨_, rfl⟩
  have k1 : cutC ck.toArray 0 16 = ck := by rw [hck]; exact (key_in hix).1
  have k2 : ck.length = 16 := by rw [hck, bV_len]; exact hix
  have hu16 := Tryz.underlying39
  have hi16 : (Tryz.prog.info? 39).map (·.size) = some ck.length := by rw [k2]; exact i16
  rw [← hck] at hb0 hk0 ⊢
  obtain ⟨wa, hwa⟩ : ∃ q, q = w.alloc (.cells ck.toArray 39) := ⟨_, rfl⟩
  obtain ⟨p3, hp3⟩ : ∃ q, q = w.heap.size := ⟨_, rfl⟩
  rw [← hwa] at hb0 hk0
  rw [← hp3] at hk0
  have ra : readK 16 wa p3 0 = ck := blk_read0 hk0 k2
  have ga : HasK 16 wa p3 0 := blk_has hk0 (by simp [k2])
  have H := Lib.hid (And.intro h (And.intro hb0 (And.intro hk0 (And.intro hp3 (And.intro hix (And.intro hck hw))))))
  have HW := Lib.hid hwa
  clear h hb0 hk0 hwa hp3 hix hck hw
  go_enter Tryz.func61, Tryz.ntmps61
  go_upto_region 1 with fail
  rw [← HW.out, ← H.out.2.2.2.1]
  go_wp2_with fail
  refine (show Calls _ _ _ _ _ from (by rw [H.out.2.2.2.2.2.1]; exact shares_calls C X pb s ix H.out.2.2.2.2.1 wa (H.out.1.below H.out.2.1))).mono ?_
  rintro e w1 ⟨u, rfl, hO, hb1⟩
  obtain ⟨ua, uc, rfl, hua⟩ := hO.slice
  have hat := hO.mono (M := fun _ => False) (fun _ h => h.elim) |>.at (fun _ _ _ h => h)
  obtain ⟨n, hn⟩ : ∃ n, n = (s.shares ix).length := ⟨_, rfl⟩
  have hn16 : n ≤ 16 := by rw [hn]; exact SrvS.sharesK_len s ix 16
  rw [← hn] at hat ⊢
  obtain ⟨ua', uc', eu, _, _, hcell⟩ := hat
  have hcell : 0 < n → ∃ b off, ua = some ⟨b, off, none⟩ ∧ b < w1.heap.size ∧ ∀ (i : Nat) (x : Blob), (s.shares ix)[i]? = some x → w1.cell? ⟨b, off + i * 2, none⟩ = some (.int .i64 x.1) ∧ ∃ a' c', w1.cell? ⟨b, off + i * 2 + 1, none⟩ = some (.slice a' x.2.length c') := fun h0 => by
    injection eu with e1 _ _
    obtain ⟨b, off, e2, hb, _, hc⟩ := hcell (by rw [← hn]; exact h0)
    exact ⟨b, off, e1.trans e2, hb, fun i x hx => by
      obtain ⟨q1, a', c', q2, _⟩ := hc i x hx
      exact ⟨q1, a', c', q2⟩⟩
  have hb01 : Below w.heap.size w w1 := H.out.2.1.trans (hb1.mono H.out.2.1.size)
  have hk1 := H.out.2.2.1.kept hb1
  have H1 := Lib.hid (And.intro hn (And.intro hcell (And.intro hb01 hk1)))
  obtain ⟨NM, hNM⟩ : ∃ l, l = (s.shares ix).map fun x => shareN ix x.1.toNat := ⟨_, rfl⟩
  have HNM := Lib.hid hNM
  have hnl : NM.length = n := by rw [hNM, List.length_map, hn]
  have HNL := Lib.hid hnl
  clear hO hb1 hua hn eu hcell hb01 hk1 hNM hnl ra ga
  go_upto_region 3 with fail
  go_loopw [6, 18] (fun u6 vi wr => ∃ i : Nat, i ≤ n ∧ vi = .int .i64 i ∧ Hid (wr.ownsRow w1.heap.size 9 1 u6 i ((NM.take i).map Value.string) ∧ Below w1.heap.size w1 wr)) (fun _ vi _ => n - (intOf vi).toNat)
  case atStart => exact ⟨0, Nat.zero_le _, rfl, by rw [List.take_zero]; exact World.ownsRow_nil _ _ _ _, Below.refl _ _⟩
  case round =>
    obtain ⟨i, hi0, rfl, G⟩ := hrel
    by_cases hin : i < n
    · obtain ⟨b, off, rfl, hb, hc⟩ := H1.out.2.1 (by omega)
      obtain ⟨x, hx⟩ : ∃ x, (s.shares ix)[i]? = some x := ⟨(s.shares ix)[i]'(by have := H1.out.1; omega), by simp⟩
      obtain ⟨c1, a', c', c2⟩ := hc i x hx
      have hbc := fun o => G.out.2.cell (p := ⟨b, o, none⟩) hb
      rw [← hbc] at c1 c2
      obtain ⟨m, hm16, hxm, _⟩ := mem_sharesK (List.mem_of_getElem? hx)
      rw [hxm] at c1
      obtain ⟨q, hq⟩ : ∃ q, q = x.2.length := ⟨_, rfl⟩
      rw [← hq] at c2
      have i0 : (0 : Int) ≤ (i : Int) := by omega
      have i1 : (i : Int) < (n : Int) := by omega
      have hkr := H1.out.2.2.2.kept G.out.2
      have ra : readK 16 wr p3 0 = ck := blk_read0 hkr k2
      have ga : HasK 16 wr p3 0 := blk_has hkr (by simp [k2])
      have l3 := hkr.lt
      have hstep : (NM.take (i + 1)).map Value.string = (NM.take i).map Value.string ++ [.string (shareN ix m)] := by
        have : NM[i]? = some (shareN ix m) := by rw [HNM.out, List.getElem?_map, hx]; simp [hxm]
        rw [List.take_add_one, this, Option.toList_some, List.map_append]; rfl
      obtain ⟨xs, hxs⟩ : ∃ l, l = (NM.take i).map Value.string := ⟨_, rfl⟩
      have G1 := G.out.1
      rw [← hxs] at G1 hstep
      have HX := Lib.hid (And.intro hstep (And.intro hm16 G1))
      clear hx hc hbc hxm hq hkr hstep hxs G1 hm16
      go_wp2_with
        (first
          | (refine (show Calls _ _ _ _ _ from (by rw [H.out.2.2.2.2.2.1]; exact share_calls ix H.out.2.2.2.2.1 m HX.out.2.1 _)).mono ?_
             rintro e w3 ⟨rfl, hb3⟩
             have HB3 := Lib.hid (And.intro ((G.out.2.alloc G.out.2.size _).trans (hb3.mono (G.out.2.alloc G.out.2.size _).size)) (own_chg (S := fun _ => False) (HX.out.2.2.alloc _) (Chg.of_below hb3) (fun _ _ h => h)))
             clear hb3)
          | (at_builtin; refine appG_one ESc rfl _ _ rfl (base := w1.heap.size) (n := i) (xs := xs) (.string (shareN ix m)) rfl rfl ?cc rfl (HB3.out.2.alloc _) ?q1 ?q2 ?q3 ?_
             case cc => exact new_cell _ _ _ _ (by simp)
             case q1 => omega
             case q2 => omega
             case q3 => have := HB3.out.1.size; simp; omega
             intro v4 w4 ho4 hg4
             have hb4 := grown_below (HB3.out.1.alloc HB3.out.1.size _) hg4 (fun k hk => (HX.out.2.2.lt k hk).1)
             have HO4 := Lib.hid (And.intro ho4 hb4)
             clear ho4 hg4 hb4)
          | fail)
      exact ⟨⟨i + 1, by omega, by simp, by rw [HX.out.1]; exact HO4.out.1, HO4.out.2⟩, by show n - ((i : Int) + 1).toNat < n - (i : Int).toNat; omega⟩
    · obtain rfl : n = i := by omega
      have hkr := H1.out.2.2.2.kept G.out.2
      have r3 : wr.drew.rangeAt p3 0 ck := fun j v hj => by
        rw [(hkr.drew).cell, Nat.zero_add]
        simpa using hj
      go_upto_region 7 with fail
      have HKR := Lib.hid (And.intro G.out hkr)
      clear hkr
      refine Tail.wp_region_J 7 (fun k => k == 2 || k == 4 || k == 5 || k == 6) (fun k => if k = 2 then some (.string (slotN ix)) else if k = 4 then some (.string (leaseN ix)) else none)
        (fun D z w' => w'.rangeAt p3 0 ck ∧ (D 6 = false → Below wr.heap.size wr w' ∧ (D 5 = true → ∃ g, z 5 = .slice (some ⟨g, 0, none⟩) 2 2 ∧ wr.heap.size ≤ g ∧ Blk w' g #[.string (slotN ix), .string (leaseN ix)] 9)) ∧ (D 6 = true → w'.ownsRow w1.heap.size 9 1 (z 6) (n + 2) ((NM ++ [slotN ix, leaseN ix]).map Value.string) ∧ Below w1.heap.size w1 w'))
        (by kernel_rfl) (by kernel_rfl) (fun k hk => by simp at hk; omega) (fun D z z' w' hz h => ⟨h.1, fun d => ⟨(h.2.1 d).1, fun d5 => by rw [← hz 5 d5]; exact (h.2.1 d).2 d5⟩, fun d => by rw [← hz 6 d]; exact h.2.2 d⟩) ⟨r3, fun _ => ⟨(Below.refl _ _).drew, fun h => by cases h⟩, fun h => by cases h⟩ (fun z => ?_)
      simp only [List.take_succ_cons, List.take_zero, List.drop_succ_cons, List.drop_zero]
      clear r3
      refine Tail.J_ex (by rfl) (by rfl) ?_
      apply Exists.intro
      refine ⟨fun w => ?_, ?_⟩
      · go_simp <;> with_reducible rfl
      simp only [Act.put, List.setIfInBounds_toArray, List.set_cons_zero, List.set_cons_succ]
      refine Tail.J_load (by rfl) (by rfl) _ _ rfl p3 0 (by rfl) ck (fun D w' _ _ hJ => hJ.1) hu16 rfl hi16 ?_
      simp only [Act.put, List.setIfInBounds_toArray, List.set_cons_zero, List.set_cons_succ]
      refine Tail.J_call (by rfl) (by rfl) ?_ ?_
      · apply Exists.intro
        apply Exists.intro
        refine ⟨fun w' => ?_, ?_⟩
        · go_simp <;> exact ⟨rfl, rfl⟩
        intro D z' w' hD hz hd hp hJ
        have h5 : D 5 = false := hp 5 (by kernel_rfl)
        have h6 : D 6 = false := hp 6 (by kernel_rfl)
        refine (show Calls _ _ _ _ _ from (by rw [H.out.2.2.2.2.2.1]; exact slot_calls ix H.out.2.2.2.2.1 w')).mono ?_
        rintro e w'' ⟨rfl, hb⟩
        have hb2 := (hJ.2.1 h6).1.trans (hb.mono (hJ.2.1 h6).1.size)
        refine ⟨_, rfl, fun c hc => by simp at hc; exact hc, fun j v hj => ?_, fun _ => ⟨hb2, fun h => ?_⟩, fun h => ?_⟩
        · rw [((HKR.out.2.kept hb2)).cell, Nat.zero_add]
          simpa using hj
        · simp [Tail.updB, h5] at h
        · simp [Tail.updB, h6] at h
      simp only [Act.put, List.setIfInBounds_toArray, List.set_cons_zero, List.set_cons_succ, Nat.reduceAdd, Nat.reduceEqDiff, reduceIte, Option.getD_some]
      refine Tail.J_load (by rfl) (by rfl) _ _ rfl p3 0 (by rfl) ck (fun D w' _ _ hJ => hJ.1) hu16 rfl hi16 ?_
      simp only [Act.put, List.setIfInBounds_toArray, List.set_cons_zero, List.set_cons_succ]
      refine Tail.J_call (by rfl) (by rfl) ?_ ?_
      · apply Exists.intro
        apply Exists.intro
        refine ⟨fun w' => ?_, ?_⟩
        · go_simp <;> exact ⟨rfl, rfl⟩
        intro D z' w' hD hz hd hp hJ
        have h5 : D 5 = false := hp 5 (by kernel_rfl)
        have h6 : D 6 = false := hp 6 (by kernel_rfl)
        refine (show Calls _ _ _ _ _ from (by rw [H.out.2.2.2.2.2.1]; exact leases_calls ix H.out.2.2.2.2.1 w')).mono ?_
        rintro e w'' ⟨rfl, hb⟩
        have hb2 := (hJ.2.1 h6).1.trans (hb.mono (hJ.2.1 h6).1.size)
        refine ⟨_, rfl, fun c hc => by simp at hc; exact hc, fun j v hj => ?_, fun _ => ⟨hb2, fun h => ?_⟩, fun h => ?_⟩
        · rw [((HKR.out.2.kept hb2)).cell, Nat.zero_add]
          simpa using hj
        · simp [Tail.updB, h5] at h
        · simp [Tail.updB, h6] at h
      simp only [Act.put, List.setIfInBounds_toArray, List.set_cons_zero, List.set_cons_succ, Nat.reduceAdd, Nat.reduceEqDiff, reduceIte, Option.getD_some]
      refine Tail.J_mov (by rfl) (by rfl) (fun D z' w' hD hz hd hp hJ => ?_) ?_
      · have h6 : D 6 = false := hp 6 (by kernel_rfl)
        have hb2 := (hJ.2.1 h6).1
        have hb3 : Below wr.heap.size wr (w'.alloc (.cells #[Value.string (slotN ix), Value.string (leaseN ix)] 9)) := hb2.alloc hb2.size _
        refine ⟨.slice (some ⟨w'.heap.size, 0, none⟩) 2 2, w'.alloc (.cells #[Value.string (slotN ix), Value.string (leaseN ix)] 9), ?_, fun c hc => by simp at hc, fun j v hj => ?_, fun _ => ⟨hb3, fun _ => ⟨w'.heap.size, by simp [Tail.updV], hb2.size, Blk.new _ _ _⟩⟩, fun h => ?_⟩
        · go_simp <;> with_reducible rfl
        · rw [(HKR.out.2.kept hb3).cell, Nat.zero_add]
          simpa using hj
        · simp [Tail.updB, h6] at h
      simp only [Act.put, List.setIfInBounds_toArray, List.set_cons_zero, List.set_cons_succ, Nat.reduceAdd, Nat.reduceEqDiff, reduceIte, Option.getD_none]
      refine Tail.J_mov (by rfl) (by rfl) (fun D z' w' hD hz hd hp hJ => ?_) ?_
      · have h5 : D 5 = true := hd 5 (by kernel_rfl)
        obtain ⟨hb2, hq⟩ := hJ.2.1 hD
        obtain ⟨g, hz5, hg, hkg⟩ := hq h5
        have hown := own_chg (S := fun _ => False) HKR.out.1.1 (Chg.of_below hb2) (fun _ _ h => h)
        have hfull : NM.take n = NM := List.take_of_length_le (by have := HNL.out; omega)
        rw [hfull] at hown
        refine app_ex (P := Tryz.prog) ESc (.tmp 30) (.tmp 35) rfl (base := w1.heap.size) (v := u6) (n := n) (m := 2) (xs := NM.map Value.string) [.string (slotN ix), .string (leaseN ix)] rfl (mb := g) ?hx rfl (fun j u hj => by rw [hkg.cell]; simpa using hj) (by simp [Value.oneCell']) hown (by omega) (by decide) (Nat.le_trans HKR.out.1.2.size hb2.size) (fun v' wx ho2 hg2 => ?_)
        case hx => rw [← hz5, ← hz 5 h5]; rfl
        have hb4 : Below w1.heap.size w1 wx := grown_below (HKR.out.1.2.trans (hb2.mono HKR.out.1.2.size)) hg2 (fun k hk => (HKR.out.1.1.lt k hk).1)
        refine ⟨fun c hc => by simp at hc, fun j v hj => ?_, fun h => ?_, fun _ => ⟨?_, hb4⟩⟩
        · rw [(H1.out.2.2.2.kept hb4).cell, Nat.zero_add]
          simpa using hj
        · simp [Tail.updB] at h
        · rw [List.map_append]
          simpa [Tail.updV] using ho2
      simp only [Act.put, List.setIfInBounds_toArray, List.set_cons_zero, List.set_cons_succ, Nat.reduceAdd, Nat.reduceEqDiff, reduceIte, Option.getD_none]
      intro w4 hJ4
      have hQ := hJ4.2.2 rfl
      clear hJ4
      generalize z 6 = v6 at hQ ⊢
      generalize z 5 = v5
      obtain ⟨N2, hN2⟩ : ∃ m, m = n + 2 := ⟨_, rfl⟩
      obtain ⟨L, hL⟩ : ∃ l, l = swN s ix := ⟨_, rfl⟩
      have hLN : L = NM ++ [slotN ix, leaseN ix] := by rw [hL, HNM.out]; rfl
      rw [← hN2, ← hLN] at hQ
      have hLl : L.length = N2 := by rw [hLN, List.length_append, HNL.out, hN2]; rfl
      obtain ⟨sa, sc, rfl, hsa⟩ := own_eq_slice hQ.1
      obtain ⟨g, rfl⟩ := hsa (by omega)
      have hbw4 : Below w.heap.size w w4 := H1.out.2.2.1.trans (hQ.2.mono H1.out.2.2.1.size)
      have hgl := hQ.1.lt g rfl
      have hgC : ¬ C g := fun hC => by have := H.out.1.lt (.inl hC); have := H1.out.2.2.1.size; omega
      have hN18 : N2 ≤ 18 := by omega
      have HQ := Lib.hid (And.intro hQ.1 (And.intro hL (And.intro hLl (And.intro hbw4 (And.intro hgC (H.out.1.below hbw4))))))
      clear hQ hN2 hL hLN hLl hsa hbw4 hgl hgC
      go_upto_region 9 with fail
      go_loopw [4, 39] (fun u4 vi wx => ∃ (j : Nat) (t : Bool) (st : St), j ≤ N2 ∧ vi = .int .i64 j ∧ u4 = .bool t ∧ Hid (sweepR (L.drop j) st t = sweepR L s.st false ∧ IsSrv wx C X pb { s with st := st } ∧ Chg C w4 wx ∧ st.disk.writes ≤ s.st.disk.writes + j)) (fun _ vi _ => N2 - (intOf vi).toNat)
      case atStart => exact ⟨0, false, s.st, Nat.zero_le _, rfl, rfl, rfl, HQ.out.2.2.2.2.2, Chg.refl _ _, Nat.le_refl _⟩
      case round =>
        obtain ⟨j, t, st, hj0, rfl, rfl, G⟩ := hrel
        by_cases hj : j < N2
        · obtain ⟨nm, hnm⟩ : ∃ x, L[j]? = some x := ⟨L[j]'(by have := HQ.out.2.2.1; omega), by simp⟩
          have hdrop : L.drop j = nm :: L.drop (j + 1) := by
            have hi := (List.getElem?_eq_some_iff.1 hnm).1
            rw [List.drop_eq_getElem_cons hi]
            rw [List.getElem?_eq_getElem hi] at hnm
            cases hnm; rfl
          have hsz : 0 < nm.size := swN_size H.out.2.2.2.2.1 nm (by rw [← HQ.out.2.1]; exact List.mem_of_getElem? hnm)
          have hrow := own_chg HQ.out.1 G.out.2.2.1 (fun g' hg' => by cases hg'; exact HQ.out.2.2.2.2.1)
          have cx := own_cellB hrow hnm
          have gl : g < wr.heap.size := World.block_lt_of_cell? wr ⟨g, j, none⟩ cx
          have i0 : (0 : Int) ≤ (j : Int) := by omega
          have i1 : (j : Int) < (N2 : Int) := by omega
          obtain ⟨sb, lb, d, LL, tb, v, hA⟩ := G.out.2.1
          have c3 : wr.cell? ⟨pb, 3, none⟩ = some (.pointer (some ⟨sb, 0, none⟩)) := hA.blk.cell 3
          have hstep := G.out.1
          rw [hdrop, sweepR] at hstep
          obtain ⟨o, ho⟩ : ∃ b, b = (st.get nm).isSome := ⟨_, rfl⟩
          rw [← ho] at hstep
          have HX := Lib.hid (And.intro hA (And.intro hstep (And.intro hsz ho)))
          clear hnm hdrop hrow hA hstep hsz ho
          go_wp2_with fail
          refine (sget_calls _ sb lb d LL st nm wr HX.out.1.st).mono ?_
          rintro e wg ⟨hbg, vg, rfl, _⟩
          rw [← HX.out.2.2.2]
          have hAg := HX.out.1.below hbg
          have c3 : wg.cell? ⟨pb, 3, none⟩ = some (.pointer (some ⟨sb, 0, none⟩)) := hAg.blk.cell 3
          have HA2 := Lib.hid (And.intro hAg (G.out.2.2.1.trans_below hbg))
          clear hbg hAg
          cases o with
          | false =>
            go_wp2_with fail
            exact ⟨⟨j + 1, t, st, by omega, by simp, rfl, by have := HX.out.2.1; simpa using this, ⟨_, _, _, _, _, _, HA2.out.1⟩, HA2.out.2, by have := G.out.2.2.2; omega⟩, by show N2 - ((j : Int) + 1).toNat < N2 - (j : Int).toNat; omega⟩
          | true =>
            go_wp2_with fail
            refine (sdrop_calls _ sb lb d LL st nm wg HA2.out.1.st (by have := G.out.2.2.2; have := H.out.2.2.2.2.2.2; omega)).mono ?_
            rintro e wd ⟨rfl, hst, hc⟩
            have hAd := HA2.out.1.store hc hst
            have hdw := dropR_writes st nm
            obtain ⟨zr, hzr⟩ : ∃ q, q = (dropR st nm).1 := ⟨_, rfl⟩
            obtain ⟨st2, hst2⟩ : ∃ q, q = (dropR st nm).2 := ⟨_, rfl⟩
            rw [← hst2] at hAd hdw
            rw [← hzr]
            have hstep := HX.out.2.1
            simp only [if_true] at hstep
            rw [← hzr, ← hst2] at hstep
            have HD := Lib.hid (And.intro hAd (And.intro (HA2.out.2.trans (hc.mono HA2.out.1.foot)) (And.intro hstep hdw)))
            clear hst hc hAd hdw hzr hst2 hstep
            by_cases hz0 : zr = 0
            · have t0 : (zr == 0) = true := by simpa using hz0
              have t0' : (zr != 0) = false := by simpa using hz0
              have hstep := HD.out.2.2.1
              rw [if_pos hz0] at hstep
              have HS := Lib.hid hstep
              obtain ⟨cb, hcb⟩ : ∃ c : Int, c = ((nm.data.toList.getD 0 0).toNat : Int) := ⟨_, rfl⟩
              have hidx : ∀ w, (Instr.index 9 (.string nm) (.int .i64 0)).run Tryz.prog w = .ok (.int .u8 cb) w := fun w => by rw [hcb]; exact idx0 HX.out.2.2.1 w
              have hno : noL nm = !(cb == 108) := by unfold noL; rw [hcb]
              have HNO := Lib.hid hno
              clear hstep hz0 hcb hno
              cases t with
              | true =>
                go_wp2_with fail
                exact ⟨⟨j + 1, true, st2, by omega, by simp, rfl, by have := HS.out; simpa using this, ⟨_, _, _, _, _, _, HD.out.1⟩, HD.out.2.1, by have := G.out.2.2.2; have := HD.out.2.2.2; omega⟩, by show N2 - ((j : Int) + 1).toNat < N2 - (j : Int).toNat; omega⟩
              | false =>
                go_wp2_with fail
                exact ⟨⟨j + 1, !(cb == 108), st2, by omega, by simp, rfl, by have := HS.out; rw [HNO.out] at this; simpa using this, ⟨_, _, _, _, _, _, HD.out.1⟩, HD.out.2.1, by have := G.out.2.2.2; have := HD.out.2.2.2; omega⟩, by show N2 - ((j : Int) + 1).toNat < N2 - (j : Int).toNat; omega⟩
            · have t0 : (zr == 0) = false := by simpa using hz0
              have t0' : (zr != 0) = true := by simpa using hz0
              have hstep := HD.out.2.2.1
              rw [if_neg hz0] at hstep
              have HS := Lib.hid hstep
              clear hstep
              go_wp2_with fail
              go_ret2
              exact ⟨t, zr, st2, rfl, by rw [← HQ.out.2.1]; exact HS.out.symm, ⟨_, _, _, _, _, _, HD.out.1⟩, (Chg.of_below HQ.out.2.2.2.1).trans HD.out.2.1⟩
        · have hfull : L.drop j = [] := List.drop_of_length_le (by have := HQ.out.2.2.1; omega)
          have hend := G.out.1
          rw [hfull, sweepR] at hend
          have HE := Lib.hid hend
          clear hfull hend
          go_wp2_with fail
          go_ret2
          exact ⟨t, 0, st, rfl, by rw [← HQ.out.2.1]; exact HE.out.symm, G.out.2.1, (Chg.of_below HQ.out.2.2.2.1).trans G.out.2.2.1⟩
end Go.Proofs.YtbbojbdigiibbaaGreatDoor
end
