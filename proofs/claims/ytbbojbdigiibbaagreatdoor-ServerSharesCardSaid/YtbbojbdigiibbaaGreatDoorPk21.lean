/- Texts of this proof, packed: SrvReqB, SrvLab, SrvTell, SrvOne. -/
import Derived.Test.YtbbojbdigiibbaaGreatDoorPk20
import Derived.Great.FillDense
section
namespace Go.Mem
open Go Go.RowKit Gf Lea
structure RF where
  kind : Value
  ix : List Value
  sec : List Value
  ends : Value
  en : List Value
  vt : Value
  vb : Value
def RF.V (f : RF) : List Value := f.kind :: (f.ix ++ (f.sec ++ (f.ends :: (f.en ++ [f.vt, f.vb]))))
def zk : List Value := bV z16
theorem zk_eq : zk = bV z16 := rfl
def RF.zero : RF := ⟨.int .i64 0, zk, zk, .int .i64 0, zk, .slice none 0 0, .slice none 0 0⟩
def RF.set (f : RF) : Nat → Value → RF
  | 0, v => { f with kind := v }
  | 1, v => { f with ix := aggL v }
  | 2, v => { f with sec := aggL v }
  | 3, v => { f with ends := v }
  | 4, v => { f with en := aggL v }
  | 5, v => { f with vt := v }
  | 6, v => { f with vb := v }
  | _, _ => f
def okAt : Nat → Value → Bool
  | 0, v => v.oneCell'
  | 1, v => aggIs v && decide ((aggL v).length = 16)
  | 2, v => aggIs v && decide ((aggL v).length = 16)
  | 3, v => v.oneCell'
  | 4, v => aggIs v && decide ((aggL v).length = 16)
  | 5, v => v.oneCell'
  | 6, v => v.oneCell'
  | _, _ => false
structure RF.Ok (f : RF) : Prop where
  ix : f.ix.length = 16
  sec : f.sec.length = 16
  en : f.en.length = 16
theorem zk_len : zk.length = 16 := by rw [zk_eq, bV_len]; rfl
theorem RF.zero_ok : RF.zero.Ok := ⟨zk_len, zk_len, zk_len⟩
theorem RF.Ok.set {f : RF} (h : f.Ok) {i : Nat} {v : Value} (hv : okAt i v = true) : (f.set i v).Ok := by
  match i, hv with
  | 0, _ => exact ⟨h.ix, h.sec, h.en⟩
  | 1, hv => simp [okAt] at hv; exact ⟨hv.2, h.sec, h.en⟩
  | 2, hv => simp [okAt] at hv; exact ⟨h.ix, hv.2, h.en⟩
  | 3, _ => exact ⟨h.ix, h.sec, h.en⟩
  | 4, hv => simp [okAt] at hv; exact ⟨h.ix, h.sec, hv.2⟩
  | 5, _ => exact ⟨h.ix, h.sec, h.en⟩
  | 6, _ => exact ⟨h.ix, h.sec, h.en⟩
theorem RF.Ok.len {f : RF} (h : f.Ok) : f.V.length = 52 := by
  unfold RF.V
  simp [h.ix, h.sec, h.en]
theorem cells_one {v : Value} (h : v.oneCell' = true) : v.cells = #[v] := by
  cases v <;> first | rfl | cases h
theorem cells_agg {v : Value} (h : aggIs v = true) : v.cells = (aggL v).toArray := by
  cases v <;> first | rfl | cases h
theorem fold_cells (off : Nat) (q c : Array Value) (h : off + q.size ≤ c.size) : q.zipIdx.foldl (fun cs (x : Value × Nat) => cs.setIfInBounds (off + x.2) x.1) c = (c.toList.take off ++ q.toList ++ c.toList.drop (off + q.size)).toArray := by
  have e : q.zipIdx.foldl (fun cs (x : Value × Nat) => cs.setIfInBounds (off + x.2) x.1) c = (q.toList.zipIdx 0).foldl (fun cs (x : Value × Nat) => cs.setIfInBounds (off + x.2) x.1) c := by
    rw [← Array.foldl_toList, Array.toList_zipIdx]
  obtain ⟨h1, h2⟩ := Great.foldl_set off q.toList 0 c
  rw [e]
  apply Array.ext_getElem?
  intro k
  rw [h2]
  simp only [Nat.add_zero, Array.length_toList, List.getElem?_toArray]
  by_cases hk : k < off
  · rw [if_neg (by omega), List.getElem?_append_left (by simp; omega), List.getElem?_append_left (by simp; omega), List.getElem?_take, if_pos hk, Array.getElem?_toList]
  · by_cases hk2 : k < off + q.size
    · rw [if_pos (by omega), List.getElem?_append_left (by simp; omega), List.getElem?_append_right (by simp; omega)]
      simp only [List.length_take, Array.length_toList, Array.getElem?_toList]
      congr 1
      omega
    · rw [if_neg (by omega), List.getElem?_append_right (by simp; omega)]
      simp only [List.length_append, List.length_take, Array.length_toList, List.getElem?_drop]
      rw [← Array.getElem?_toList]
      congr 1
      omega
def reqPl : List (Nat × Nat) := [(0, 1), (1, 16), (17, 16), (33, 1), (34, 16), (50, 1), (51, 1)]
theorem take_app {a b : List Value} {n : Nat} (h : a.length = n) : (a ++ b).take n = a := by rw [List.take_append_of_le_length (by omega), List.take_of_length_le (by omega)]
theorem drop_app {a b : List Value} {n : Nat} (h : a.length = n) : (a ++ b).drop n = b := by rw [List.drop_append_of_le_length (by omega), List.drop_of_length_le (by omega), List.nil_append]
theorem set_mid {a b c d : List Value} {n m : Nat} (h1 : a.length = n) (h2 : b.length = m) : ((a ++ (b ++ c)).take n ++ d ++ (a ++ (b ++ c)).drop (n + m)) = a ++ (d ++ c) := by
  rw [take_app h1, ← List.append_assoc a b c, drop_app (by rw [List.length_append]; omega), List.append_assoc]
theorem fill_step {f : RF} (h : f.Ok) {i : Nat} {v : Value} (hv : okAt i v = true) (rest : List (Nat × Value)) : Instr.fill (reqPl.toArray[·]?) f.V.toArray ((i, v) :: rest) = Instr.fill (reqPl.toArray[·]?) (f.set i v).V.toArray rest := by
  have hl := h.len
  obtain ⟨k, ix, sec, e, en, vt, vb⟩ := f
  obtain ⟨h1, h2, h3⟩ := h
  simp only at h1 h2 h3
  have key : ∀ (off n : Nat) (q : List Value), reqPl.toArray[i]? = some (off, n) → v.cells = q.toArray → q.length = n → off + n ≤ 52 →
      Instr.fill (reqPl.toArray[·]?) (RF.V ⟨k, ix, sec, e, en, vt, vb⟩).toArray ((i, v) :: rest) = Instr.fill (reqPl.toArray[·]?) ((RF.V ⟨k, ix, sec, e, en, vt, vb⟩).take off ++ q ++ (RF.V ⟨k, ix, sec, e, en, vt, vb⟩).drop (off + n)).toArray rest := fun off n q e1 e2 e3 e4 => by
    rw [Instr.fill]
    simp only [e1, e2]
    rw [if_neg (by simp [hl, e3]; omega), fold_cells _ _ _ (by simp [hl]; omega)]
    simp [e3]
  match i, hv with
  | 0, hv => rw [key 0 1 [v] rfl (cells_one hv) rfl (by decide)]; rfl
  | 1, hv =>
    simp only [okAt, Bool.and_eq_true, decide_eq_true_eq] at hv
    rw [key 1 16 (aggL v) rfl (cells_agg hv.1) hv.2 (by decide)]
    exact congrArg (fun l => Instr.fill _ (List.toArray l) rest) (set_mid (a := [k]) (b := ix) rfl h1)
  | 2, hv =>
    simp only [okAt, Bool.and_eq_true, decide_eq_true_eq] at hv
    rw [key 17 16 (aggL v) rfl (cells_agg hv.1) hv.2 (by decide)]
    have : RF.V ⟨k, ix, sec, e, en, vt, vb⟩ = (k :: ix) ++ (sec ++ (e :: (en ++ [vt, vb]))) := by simp [RF.V]
    rw [this, set_mid (by simp; omega) h2]
    simp [RF.V, RF.set]
  | 3, hv =>
    rw [key 33 1 [v] rfl (cells_one hv) rfl (by decide)]
    have : RF.V ⟨k, ix, sec, e, en, vt, vb⟩ = (k :: (ix ++ sec)) ++ ([e] ++ (en ++ [vt, vb])) := by simp [RF.V]
    rw [this, set_mid (m := 1) (by simp; omega) rfl]
    simp [RF.V, RF.set]
  | 4, hv =>
    simp only [okAt, Bool.and_eq_true, decide_eq_true_eq] at hv
    rw [key 34 16 (aggL v) rfl (cells_agg hv.1) hv.2 (by decide)]
    have : RF.V ⟨k, ix, sec, e, en, vt, vb⟩ = (k :: (ix ++ (sec ++ [e]))) ++ (en ++ [vt, vb]) := by simp [RF.V]
    rw [this, set_mid (by simp; omega) h3]
    simp [RF.V, RF.set]
  | 5, hv =>
    rw [key 50 1 [v] rfl (cells_one hv) rfl (by decide)]
    have : RF.V ⟨k, ix, sec, e, en, vt, vb⟩ = (k :: (ix ++ (sec ++ (e :: en)))) ++ ([vt] ++ [vb]) := by simp [RF.V]
    rw [this, set_mid (m := 1) (by simp; omega) rfl]
    simp [RF.V, RF.set]
  | 6, hv =>
    rw [key 51 1 [v] rfl (cells_one hv) rfl (by decide)]
    have : RF.V ⟨k, ix, sec, e, en, vt, vb⟩ = (k :: (ix ++ (sec ++ (e :: (en ++ [vt]))))) ++ ([vb] ++ []) := by simp [RF.V]
    rw [this, set_mid (m := 1) (by simp; omega) rfl]
    simp [RF.V, RF.set]
theorem fill_req : ∀ (l : List (Nat × Value)) (f : RF), f.Ok → (∀ p ∈ l, okAt p.1 p.2 = true) → Instr.fill (reqPl.toArray[·]?) f.V.toArray l = some (l.foldl (fun f p => f.set p.1 p.2) f).V.toArray
  | [], f, _, _ => rfl
  | (i, v) :: l, f, h, hl => by
    rw [fill_step h (hl (i, v) (by simp)), fill_req l _ (h.set (hl (i, v) (by simp))) (fun p hp => hl p (List.mem_cons_of_mem _ hp))]
    rfl
section
variable (k e vt vb v : Value) (ix sec en : List Value)
theorem rfs0 : RF.set ⟨k, ix, sec, e, en, vt, vb⟩ 0 v = ⟨v, ix, sec, e, en, vt, vb⟩ := rfl
theorem rfs1 : RF.set ⟨k, ix, sec, e, en, vt, vb⟩ 1 v = ⟨k, aggL v, sec, e, en, vt, vb⟩ := rfl
theorem rfs2 : RF.set ⟨k, ix, sec, e, en, vt, vb⟩ 2 v = ⟨k, ix, aggL v, e, en, vt, vb⟩ := rfl
theorem rfs3 : RF.set ⟨k, ix, sec, e, en, vt, vb⟩ 3 v = ⟨k, ix, sec, v, en, vt, vb⟩ := rfl
theorem rfs4 : RF.set ⟨k, ix, sec, e, en, vt, vb⟩ 4 v = ⟨k, ix, sec, e, aggL v, vt, vb⟩ := rfl
theorem rfs5 : RF.set ⟨k, ix, sec, e, en, vt, vb⟩ 5 v = ⟨k, ix, sec, e, en, v, vb⟩ := rfl
theorem rfs6 : RF.set ⟨k, ix, sec, e, en, vt, vb⟩ 6 v = ⟨k, ix, sec, e, en, vt, v⟩ := rfl
theorem rfz : RF.zero = ⟨.int .i64 0, zk, zk, .int .i64 0, zk, .slice none 0 0, .slice none 0 0⟩ := rfl
theorem ok0 : okAt 0 v = v.oneCell' := rfl
theorem ok1 : okAt 1 v = (aggIs v && decide ((aggL v).length = 16)) := rfl
theorem ok2 : okAt 2 v = (aggIs v && decide ((aggL v).length = 16)) := rfl
theorem ok3 : okAt 3 v = v.oneCell' := rfl
theorem ok4 : okAt 4 v = (aggIs v && decide ((aggL v).length = 16)) := rfl
theorem ok5 : okAt 5 v = v.oneCell' := rfl
theorem ok6 : okAt 6 v = v.oneCell' := rfl
end
end Go.Mem
namespace Go.Proofs.YtbbojbdigiibbaaGreatDoor
open Go Go.RowKit Go.Mem Gf Lea
theorem built_req (l : List (Nat × Value)) (h : ∀ p ∈ l, okAt p.1 p.2 = true) : Tryz.prog.built 47 l = some (l.foldl (fun f p => f.set p.1 p.2) RF.zero).V.toArray := by
  have h0 : Tryz.prog.built 47 l = Instr.fill (reqPl.toArray[·]?) RF.zero.V.toArray l := by
    unfold Program.built
    kernel_rfl
  rw [h0, fill_req l _ RF.zero_ok h]
def reqOf (a : Act) (l : List (Nat × Operand)) : RF := l.foldl (fun f p => f.set p.1 (a.eval p.2)) RF.zero
def reqFit (a : Act) (l : List (Nat × Operand)) : Bool := l.all fun p => okAt p.1 (a.eval p.2)
theorem build_req (dst : Option Tmp) (l : List (Nat × Operand)) (ty : TypeId) (pos : String) (af : Array Edge) (gd : Option (Tmp × Bool)) (a : Act) (w : World) (K : Act → World → Prop) (Q : Exit → Act → World → Prop) (h : reqFit a l = true) :
    Oper.wp Tryz.prog ⟨dst, .build 47 l.toArray, ty, pos, af, gd⟩ a w K Q = K (a.put dst (.agg (reqOf a l).V.toArray)) w := by
  have hb := built_req (l.map fun p => (p.1, a.eval p.2)) (fun p hp => by
    obtain ⟨q, hq, rfl⟩ := List.mem_map.1 hp
    exact List.all_eq_true.1 h q hq)
  have e : (l.map fun p => (p.1, a.eval p.2)).foldl (fun (f : RF) p => f.set p.1 p.2) RF.zero = reqOf a l := by
    unfold reqOf
    rw [List.foldl_map]
  rw [e] at hb
  unfold Oper.wp execOp
  have hr := run_build (P := Tryz.prog) w 47 (l.map fun p => (p.1, a.eval p.2)).toArray (reqOf a l).V.toArray (by exact hb)
  have em : l.toArray.map (fun p => (p.1, a.eval p.2)) = (l.map fun p => (p.1, a.eval p.2)).toArray := by simp
  simp only [Sem.run_bind]
  first
    | (rw [show (Array.map (fun x => (x.1, a.eval x.2)) l.toArray) = (l.map fun p => (p.1, a.eval p.2)).toArray from em]; simp only [hr, Result.andThen_ok]; rfl)
    | (simp only [em, hr, Result.andThen_ok]; rfl)
theorem build_req_ct (dst : Option Tmp) (i0 : Nat) (c0 : Value) (i1 : Nat) (x1 : Operand) (ty : TypeId) (pos : String) (af : Array Edge) (gd : Option (Tmp × Bool)) (a : Act) (w : World) (K : Act → World → Prop) (Q : Exit → Act → World → Prop) (h : reqFit a [(i0, .const c0), (i1, x1)] = true) :
    Oper.wp Tryz.prog ⟨dst, .build 47 #[(i0, .const c0), (i1, x1)], ty, pos, af, gd⟩ a w K Q = K (a.put dst (.agg (reqOf a [(i0, .const c0), (i1, x1)]).V.toArray)) w := build_req dst [(i0, .const c0), (i1, x1)] ty pos af gd a w K Q h
theorem build_req_cct (dst : Option Tmp) (i0 : Nat) (c0 : Value) (i1 : Nat) (c1 : Value) (i2 : Nat) (x2 : Operand) (ty : TypeId) (pos : String) (af : Array Edge) (gd : Option (Tmp × Bool)) (a : Act) (w : World) (K : Act → World → Prop) (Q : Exit → Act → World → Prop) (h : reqFit a [(i0, .const c0), (i1, .const c1), (i2, x2)] = true) :
    Oper.wp Tryz.prog ⟨dst, .build 47 #[(i0, .const c0), (i1, .const c1), (i2, x2)], ty, pos, af, gd⟩ a w K Q = K (a.put dst (.agg (reqOf a [(i0, .const c0), (i1, .const c1), (i2, x2)]).V.toArray)) w := build_req dst [(i0, .const c0), (i1, .const c1), (i2, x2)] ty pos af gd a w K Q h
end Go.Proofs.YtbbojbdigiibbaaGreatDoor
end
section
namespace Go.Proofs.YtbbojbdigiibbaaGreatDoor
open Go Go.RowKit Go.Mem Gf Lea
set_option linter.unusedVariables false
structure SrvL (w0 w : World) (C : Nat → Prop) (pb : Nat) (s : SrvS) : Prop where
  srv : IsSrv w C (fun _ => False) pb s
  bel : Below w0.heap.size w0 w
  c1 : ∀ b, C b → w0.heap.size ≤ b
section
variable {w0 w w' : World} {C C' : Nat → Prop} {pb : Nat} {s s' : SrvS}
theorem SrvL.step (h : SrvL w0 w C pb s) (hb : Below w.heap.size w w') : SrvL w0 w' C pb s := ⟨h.srv.below hb, h.bel.trans (hb.mono h.bel.size), h.c1⟩
theorem SrvL.sch (h : SrvL w0 w C pb s) (hs : IsSrv w' C' (fun _ => False) pb s') (hc : SChg C C' w w') : SrvL w0 w' C' pb s' :=
  ⟨hs, Chg.far h.bel hc.1 h.bel.size h.c1, fun b hb => by
    rcases hc.2 b hb with h1 | h1
    · exact h.c1 b h1
    · exact Nat.le_trans h.bel.size h1⟩
theorem SrvL.tab (h : SrvL w0 w C pb s) : Tab w := h.srv.tab
theorem SrvL.old (h : SrvL w0 w C pb s) {b : Nat} (hb : C b) : b < w.heap.size := h.srv.lt (.inl hb)
theorem BlAt.sch {v : Value} {l : List Blob} (h : BlAt w C v l) (hc : SChg C C' w w') : BlAt w' C' v l :=
  ((h.mono (M := fun b => C b ∨ C' b) (fun b hb => hb.elim .inl (hc.2 b))).chg hc.1 (fun b hb _ => .inl hb)).mono (fun b hb => .inl (.inr hb))
theorem SrvL.bys (h : SrvL w0 w C pb s) {v : Value} {bs : List UInt8} (hb : Bys w0 v bs) : Bys w v bs := hb.below h.bel
end
theorem do_answers {C X : Nat → Prop} {pb : Nat} {s : SrvS} {r : Req} (hr : r.Wf) {w : World} (h : IsSrv w C X pb s) (hB : s.dead = false) (k : Nat) (hk : handD k = true) (hkr : r.kind = (k : Int)) (R : Int → SrvS → Prop)
    (hP : ∀ w1 p4, Below w.heap.size w w1 → w.heap.size ≤ p4 → IsSrv w1 C (fun b => X b ∨ b = p4) pb s → Calls Tryz.prog (91 + (k - 1)) #[.pointer (some ⟨pb, 0, none⟩), .agg (reqV r).toArray] w1 (Answers C (fun b => X b ∨ b = p4) pb R w1)) :
    Calls Tryz.prog 20 #[.pointer (some ⟨pb, 0, none⟩), .agg (reqV r).toArray] w (Answers C X pb R w) := by
  refine do_calls C X pb s r hr w h hB k hk hkr _ fun w1 p4 hb h4 hb4 hs => ?_
  refine (hP w1 p4 hb h4 hs).mono ?_
  rintro e w2 ⟨C', err, s', rfl, hR, hs', hsc⟩
  have hk4 := hsc.1.blk hb4 (fun hC => by have := h.lt (.inl hC); omega)
  have hE := reply_end (x := .int .i64 err) (y := .slice none 0 0) hs' (hsc.pre hb) h4
  exact ⟨err, none, 0, 0, rfl, hk4, C', err, s', rfl, hR, hE.1, hE.2⟩
theorem do_gives {C X : Nat → Prop} {pb : Nat} {s : SrvS} {r : Req} (hr : r.Wf) {w : World} (h : IsSrv w C X pb s) (hB : s.dead = false) (k : Nat) (hk : handD k = true) (hkr : r.kind = (k : Int)) (l : List Blob)
    (hP : ∀ w1 p4, Below w.heap.size w w1 → w.heap.size ≤ p4 → IsSrv w1 C (fun b => X b ∨ b = p4) pb s → Calls Tryz.prog (91 + (k - 1)) #[.pointer (some ⟨pb, 0, none⟩), .agg (reqV r).toArray] w1 (Gives w1 l)) :
    Calls Tryz.prog 20 #[.pointer (some ⟨pb, 0, none⟩), .agg (reqV r).toArray] w (Gives w l) := by
  refine do_calls C X pb s r hr w h hB k hk hkr _ fun w1 p4 hb h4 hb4 hs => ?_
  refine (hP w1 p4 hb h4 hs).mono ?_
  rintro e w2 ⟨u, rfl, hO, hb2⟩
  obtain ⟨a, c, rfl, _⟩ := hO.slice
  have hk4 := hb4.kept hb2
  have hE := gives_end (x := .int .i64 0) (y := .slice a l.length c) hO hb hb2 h4 hb4.lt
  exact ⟨0, a, l.length, c, rfl, hk4, _, rfl, hE.1, hE.2⟩
section
variable {w0 w : World} {C : Nat → Prop} {pb : Nat} {s : SrvS}
theorem SrvL.put (h : SrvL w0 w C pb s) (hd : s.dead = false) (hB : SrvB s) (hw : s.st.disk.writes < 72057594037800000) {r : Req} (hr : r.Wf) (hk : r.kind = 2) {l : List Blob} (hl : BlAt w C r.vb l) (hz : ∀ x ∈ l, x.2.length ≤ 1000000) :
    Calls Tryz.prog 20 #[.pointer (some ⟨pb, 0, none⟩), .agg (reqV r).toArray] w fun e w' => ∃ C' err s', e = .returned (.agg #[.int .i64 err, .slice none 0 0]) ∧ PutSh s r l err s' ∧ SrvL w0 w' C' pb s' ∧ SChg C C' w w' := by
  refine (do_answers hr h.srv hd 2 rfl hk (PutSh s r l) fun w1 p4 hb h4 hs => ?_).mono ?_
  · have hl1 : BlAt w1 (fun b => C b ∨ (False ∨ b = p4)) r.vb l := BlAt.below (hl.mono (fun b hb' => hb'.elim .inl (fun h' => h'.elim (fun f => f.elim) (fun e => .inr (by rw [e]; exact h4))))) hb
    exact put_calls16 C _ pb s r l hr w1 hs hB hw hl1 hz
  · rintro e w' ⟨C', err, s', rfl, hR, hs', hsc⟩
    exact ⟨C', err, s', rfl, hR, h.sch hs' hsc, hsc⟩
theorem SrvL.get (h : SrvL w0 w C pb s) (hd : s.dead = false) (hB : SrvB s) {r : Req} (hr : r.Wf) (hk : r.kind = 1) :
    Calls Tryz.prog 20 #[.pointer (some ⟨pb, 0, none⟩), .agg (reqV r).toArray] w (Gives w (s.shares r.ix)) :=
  do_gives hr h.srv hd 1 rfl hk _ fun w1 p4 hb h4 hs => getShares_calls C _ pb s r hr w1 hs hB
theorem SrvL.slot (h : SrvL w0 w C pb s) (hd : s.dead = false) (hB : SrvB s) {r : Req} (hr : r.Wf) (hk : r.kind = 3) {o : Option (Key × List Blob)} (ho : ContIs s r.ix o) :
    Calls Tryz.prog 20 #[.pointer (some ⟨pb, 0, none⟩), .agg (reqV r).toArray] w (Gives w (contL o)) :=
  do_gives hr h.srv hd 3 rfl hk _ fun w1 p4 hb h4 hs => readSlot_calls C _ pb s r o hr w1 hs hB ho
theorem SrvL.form (h : SrvL w0 w C pb s) (hd : s.dead = false) {r : Req} (hr : r.Wf) (hk : ∀ k : Nat, handD k = true → (k : Int) ≠ r.kind) :
    Calls Tryz.prog 20 #[.pointer (some ⟨pb, 0, none⟩), .agg (reqV r).toArray] w fun e w' => ∃ C', e = .returned (.agg #[.int .i64 2, .slice none 0 0]) ∧ SrvL w0 w' C' pb s ∧ SChg C C' w w' := by
  refine (do_form C _ pb s r hr w h.srv hd hk).mono ?_
  rintro e w' ⟨C', err, s', rfl, ⟨rfl, rfl⟩, hs', hsc⟩
  exact ⟨C', rfl, h.sch hs' hsc, hsc⟩
theorem SrvL.gone (h : SrvL w0 w C pb s) (hd : s.dead = true) {r : Req} (hr : r.Wf) :
    Calls Tryz.prog 20 #[.pointer (some ⟨pb, 0, none⟩), .agg (reqV r).toArray] w fun e w' => ∃ C', e = .returned (.agg #[.int .i64 8, .slice none 0 0]) ∧ SrvL w0 w' C' pb s ∧ SChg C C' w w' := by
  refine (do_dead C _ pb s r hr w h.srv hd).mono ?_
  rintro e w' ⟨C', err, s', rfl, ⟨rfl, rfl⟩, hs', hsc⟩
  exact ⟨C', rfl, h.sch hs' hsc, hsc⟩
theorem SrvL.restart (h : SrvL w0 w C pb s) {m : Nat} {l : List Sto.Rec} (hh : SHold m s.st.disk s.room l) (hl : l.length = s.slots) (hf : s.slots ≤ 120) (hr : 1 ≤ s.room ∧ s.room ≤ 1000) (hm : m < 1000000) :
    Calls Tryz.prog 29 #[.pointer (some ⟨pb, 0, none⟩)] w fun e w' => ∃ C' s', e = .returned (.int .i64 0) ∧ RestP m s l s' ∧ SrvL w0 w' C' pb s' ∧ SChg C C' w w' := by
  refine (restart_calls C _ pb s m l w h.srv hh hl hf hr hm).mono ?_
  rintro e w' ⟨C', s', rfl, hR, hs', hsc⟩
  exact ⟨C', s', rfl, hR, h.sch hs' hsc, hsc⟩
end
theorem _root_.Go.Mem.SrvG.hold {m : Nat} {s : SrvS} (h : SrvG m s) : SHold m s.st.disk s.room s.st.recs := by
  rw [h.room]; exact h.st.hold
theorem SrvL.restartT {w0 w : World} {C : Nat → Prop} {pb : Nat} {s : SrvS} (h : SrvL w0 w C pb s) {m : Nat} {f : Look} (ht : SrvT m s f) (hm : m < 1000000) :
    Calls Tryz.prog 29 #[.pointer (some ⟨pb, 0, none⟩)] w fun e w' => ∃ C' s', e = .returned (.int .i64 0) ∧ SrvG (m + 1) s' ∧ (∀ nm, Sto.look s'.st.recs nm = f nm) ∧ s'.st.disk.stops = false ∧ s'.slots = s.slots ∧ s'.room = s.room ∧ SrvL w0 w' C' pb s' ∧ SChg C C' w w' := by
  rcases ht with ⟨hg, hf⟩ | ⟨l, hx, hf⟩
  · refine (h.restart hg.hold hg.slots.symm hg.few (by rw [hg.room]; exact hg.st.room) hm).mono ?_
    rintro e w' ⟨C', s', rfl, hR, hs', hsc⟩
    exact ⟨C', s', rfl, hR.good, fun nm => by rw [hR.thin.look, hf], hR.stops, hR.slots, hR.room, hs', hsc⟩
  · refine (h.restart hx.hold hx.slots.symm hx.few hx.room hm).mono ?_
    rintro e w' ⟨C', s', rfl, hR, hs', hsc⟩
    exact ⟨C', s', rfl, hR.good, fun nm => by rw [hR.thin.look, hf], hR.stops, hR.slots, hR.room, hs', hsc⟩
end Go.Proofs.YtbbojbdigiibbaaGreatDoor
end
section
namespace Go.Proofs.YtbbojbdigiibbaaGreatDoor
open Go Go.RowKit Go.Mem Gf Lea
set_option linter.unusedVariables false
attribute [local irreducible] RF.V zk reqV
attribute [local go_sem ↓] Go.wp_at_zero Go.wp_at_succ
attribute [local go_sem ↓] load_key build_req_ct
attribute [local go_sem] Value.oneCell' reqOf reqFit List.foldl_cons List.foldl_nil List.all_cons List.all_nil rfs0 rfs1 rfs2 rfs3 rfs4 rfs5 rfs6 rfz ok0 ok1 ok2 ok3 ok4 ok5 ok6
attribute [local go_sem] ptrB_eq ptrO_eq ptrIs_eq aggL_eq aggIs_eq readK_drew hasK_drew readK_alloc_past hasK_alloc_past readK_alloc_in hasK_alloc_in
section
variable {w0 w : World} {C : Nat → Prop} {pb : Nat} {s : SrvS}
def askV (k : Int) (ix : Key) : Req := ⟨k, ix, z16, 0, z16, .slice none 0 0, .slice none 0 0⟩
theorem askV_wf (k : Int) {ix : Key} (h : ix.length = 16) : (askV k ix).Wf := ⟨h, by show z16.length = 16; decide, by show z16.length = 16; decide⟩
unseal RF.V zk reqV in
theorem askV_eq (k : Int) (ix : Key) : RF.V ⟨.int .i64 k, bV ix, zk, .int .i64 0, zk, .slice none 0 0, .slice none 0 0⟩ = reqV (askV k ix) := rfl
theorem fld_reply0 (a b : Value) (w : World) : (Instr.field 43 (.agg #[a, b]) 0).run Tryz.prog w = .ok a w := by kernel_rfl
theorem fld_reply1 (a b : Value) (w : World) : (Instr.field 43 (.agg #[a, b]) 1).run Tryz.prog w = .ok b w := by kernel_rfl
attribute [local go_sem] fld_reply0 fld_reply1
set_option maxRecDepth 100000 in
set_option maxHeartbeats 1000000 in
theorem SrvL.shares (h : SrvL w0 w C pb s) (hd : s.dead = false) (hB : SrvB s) (ix : Key) (hix : ix.length = 16) :
    Calls Tryz.prog 23 #[.pointer (some ⟨pb, 0, none⟩), .agg (bV ix).toArray] w fun e w' => ∃ u, e = .returned u ∧ OwnBl 53 w' w.heap.size (fun b => b < w.heap.size) u (s.shares ix) ∧ Below w.heap.size w w' := by
  have hb0 : Below w.heap.size w (w.alloc (.cells (bV ix).toArray 39)) := (Below.refl _ _).alloc (Nat.le_refl _) _
  obtain ⟨ck, hck⟩ : ∃ c, c = bV ix := ⟨_, rfl⟩
  have k1 : cutC ck.toArray 0 16 = ck := by rw [hck]; exact (key_in hix).1
  have k2 : ck.length = 16 := by rw [hck, bV_len]; exact hix
  rw [← hck] at hb0 ⊢
  have H := Lib.hid (And.intro h (And.intro hd (And.intro hB (And.intro hck (And.intro hix hb0)))))
  clear h hd hB hck hix hb0
  go_enter Tryz.func23, Tryz.ntmps23
  go_wp2_with fail
  rw [show RF.V ⟨.int .i64 1, ck, zk, .int .i64 0, zk, .slice none 0 0, .slice none 0 0⟩ = reqV (askV 1 ix) from by rw [H.out.2.2.2.1]; exact askV_eq 1 ix]
  refine ((H.out.1.step H.out.2.2.2.2.2).get H.out.2.1 H.out.2.2.1 (askV_wf 1 H.out.2.2.2.2.1) rfl).mono ?_
  rintro e w2 ⟨u, rfl, hO, hb2⟩
  obtain ⟨ua, uc, rfl, _⟩ := hO.slice
  obtain ⟨un, hun⟩ : ∃ n, n = (s.shares (askV 1 ix).ix).length := ⟨_, rfl⟩
  rw [← hun] at hO ⊢
  have HUN := Lib.hid hun
  clear hun
  have HR := Lib.hid (And.intro (ownBl_weak (base' := w.heap.size) (M := fun b => b < w.heap.size) hO (by simp) (fun b hb => .inl (by simp; omega))) (H.out.2.2.2.2.2.trans (hb2.mono (by simp))))
  clear hO hb2
  go_wp2_with fail
  go_ret
  exact ⟨_, rfl, HR.out.1, HR.out.2⟩
set_option maxRecDepth 100000 in
set_option maxHeartbeats 1000000 in
theorem SrvL.living (h : SrvL w0 w C pb s) (hB : SrvB s) (ix : Key) (hix : ix.length = 16) (now : Int) :
    Calls Tryz.prog 26 #[.pointer (some ⟨pb, 0, none⟩), .agg (bV ix).toArray, .int .i64 now] w fun e w' => ∃ b, e = .returned (.bool b) ∧ (b = true ↔ Lives s.tab ix now) ∧ Below w.heap.size w w' := by
  obtain ⟨sb, lb, d, L, tb, v, hA⟩ := h.srv
  have hb0 : Below w.heap.size w (w.alloc (.cells (bV ix).toArray 39)) := (Below.refl _ _).alloc (Nat.le_refl _) _
  have hk0 : Blk (w.alloc (.cells (bV ix).toArray 39)) w.heap.size (bV ix).toArray 39 := Blk.new _ _ _
  have hA0 := hA.below hb0
  have hlc := living_calls (w.alloc (.cells (bV ix).toArray 39)).drew tb v s.tab ix now (hA.heap.tab.below (hb0.drew)) (by have := hB.tab; omega) hix (by have := hA.good.few ix; omega)
  obtain ⟨ck, hck⟩ : ∃ c, c = bV ix := ⟨_, rfl⟩
  have k2 : ck.length = 16 := by rw [hck, bV_len]; exact hix
  have hu16 := Tryz.underlying39
  have hi16 : (Tryz.prog.info? 39).map (·.size) = some ck.length := by rw [k2]; exact i16
  rw [← hck] at hb0 hk0 hA0 hlc ⊢
  clear hck
  obtain ⟨wa, hwa⟩ : ∃ q, q = w.alloc (.cells ck.toArray 39) := ⟨_, rfl⟩
  obtain ⟨p4, hp4⟩ : ∃ q, q = w.heap.size := ⟨_, rfl⟩
  rw [← hwa] at hb0 hk0 hA0 hlc
  rw [← hp4] at hk0
  have H := Lib.hid (And.intro hb0 (And.intro hk0 (And.intro hA0 (And.intro hlc hp4))))
  have HW := Lib.hid hwa
  have c4 : wa.drew.cell? ⟨pb, 4, none⟩ = some (.pointer (some ⟨tb, 0, none⟩)) := hA0.blk.cell 4
  have r4 : wa.drew.rangeAt p4 0 ck := fun j v hj => by
    rw [(hk0.drew).cell, Nat.zero_add]
    simpa using hj
  clear h hB hb0 hk0 hA0 hlc hwa hp4 hA
  go_enter Tryz.func26, Tryz.ntmps26
  go_upto_region 1 with fail
  rw [← HW.out, ← H.out.2.2.2.2]
  go_region_held3 (fun w' => w'.cell? ⟨pb, 4, none⟩ = some (.pointer (some ⟨tb, 0, none⟩)) ∧ w'.rangeAt p4 0 ck) (first | exact ⟨c4, r4⟩ | with_reducible assumption)
    (first
      | (go_at_call 50
         refine H.out.2.2.2.1.mono ?_
         rintro e w2 ⟨b, rfl, hb, hb2⟩
         have hb2 : Below wa.heap.size wa w2 := of_drew hb2
         have hh : w2.cell? ⟨pb, 4, none⟩ = some (.pointer (some ⟨tb, 0, none⟩)) ∧ w2.rangeAt p4 0 ck := ⟨(H.out.2.2.1.below hb2).blk.cell 4, fun j v hj => by
           rw [(H.out.2.1.kept hb2).cell, Nat.zero_add]
           simpa using hj⟩
         have HB := Lib.hid (And.intro hb (H.out.1.trans (hb2.mono H.out.1.size)))
         clear hb hb2))
  go_wp2_with fail
  go_ret
  exact ⟨b, rfl, HB.out.1, HB.out.2⟩
set_option maxRecDepth 100000 in
theorem SrvL.stop (h : SrvL w0 w C pb s) (x y : Int) (hx : x ≤ 9223372036854775807) :
    Calls Tryz.prog 28 #[.pointer (some ⟨pb, 0, none⟩), .int .i64 x, .int .i64 y] w fun e w' => e = .returned (.tuple #[]) ∧ SrvL w0 w' C pb { s with st := { s.st with disk := s.st.disk.stop x y } } ∧ SChg C C w w' := by
  obtain ⟨sb, lb, d, L, tb, v, hA⟩ := h.srv
  have c2 : w.cell? ⟨pb, 2, none⟩ = some (.pointer (some ⟨d, 0, none⟩)) := hA.blk.cell 2
  have H := Lib.hid (And.intro h (And.intro hA hx))
  clear h hA hx
  go_enter Tryz.func28, Tryz.ntmps28
  go_wp2_with fail
  refine (dstop_calls d L s.st.disk x y w H.out.2.1.st.disk H.out.2.2).mono ?_
  rintro e w1 ⟨rfl, hD, hc⟩
  have HD := Lib.hid (And.intro hD hc)
  clear hD hc
  go_wp2_with fail
  go_end0
  have hc' : Chg (DL d L) w w1 := HD.out.2.mono (fun k hk => .inl hk)
  have hcF : Chg (Foot sb lb d L) w w1 := HD.out.2.mono (fun k hk => .inr (.inr (.inl hk)))
  have hS := SrvAt.store H.out.2.1 hcF (H.out.2.1.st.redisk hc' HD.out.1 rfl (Nat.le_refl _) H.out.2.1.st.ok.few)
  have hsc : SChg C C w w1 := ⟨hcF.mono H.out.2.1.foot, fun b hb => .inl hb⟩
  exact ⟨rfl, H.out.1.sch ⟨_, _, _, _, _, _, hS⟩ hsc, hsc⟩
end
end Go.Proofs.YtbbojbdigiibbaaGreatDoor
end
section
namespace Lea
theorem AddR.none {l l' : List Les} {ix sec : Key} {e : Int} {b : Bool} (hl : ofL l ix = []) (he : May e) (h : AddR l ix sec e b l') : b = true ∧ l'.Perm (l ++ [⟨ix, sec, e⟩]) := by
  have hno : ∀ x ∈ l, x.ix ≠ ix := ofL_nil.1 hl
  cases h with
  | no h =>
    rcases h with h | ⟨_, h⟩
    · exact absurd he h
    · rw [hl] at h; simp at h
  | more k x _ _ hx h1 _ _ => exact absurd h1 (hno x (List.mem_of_getElem? hx))
  | new _ _ _ _ hp => exact ⟨rfl, hp⟩
theorem AddR.again {l l' : List Les} {ix sec : Key} {e e0 : Int} {b : Bool} (hl : l.Perm [⟨ix, sec, e0⟩]) (he : May e) (h : AddR l ix sec e b l') : b = true ∧ l'.Perm [⟨ix, sec, max e0 e⟩] := by
  have h1 := List.perm_singleton.1 hl
  subst h1
  cases h with
  | no h =>
    rcases h with h | ⟨h, _⟩
    · exact absurd he h
    · exact absurd ⟨rfl, rfl⟩ (h _ (List.mem_singleton.2 rfl))
  | more k x _ _ hx _ _ hp =>
    cases k with
    | zero =>
      simp at hx
      subst hx
      exact ⟨rfl, hp⟩
    | succ k => simp at hx
  | new _ _ hk _ _ => exact absurd ⟨rfl, rfl⟩ (hk _ (List.mem_singleton.2 rfl))
theorem OfR.one {l : List Les} {ix sec : Key} {e : Int} {out : List Sec} (hl : l.Perm [⟨ix, sec, e⟩]) (h : OfR l ix out) : out = [(sec, e)] := by
  have h1 := List.perm_singleton.1 hl
  subst h1
  have h2 := h.perm
  unfold ofL at h2
  simp at h2
  exact h2
end Lea
namespace Go.Mem
open Go Go.RowKit Gf Lea Go.Proofs.YtbbojbdigiibbaaGreatDoor
theorem freeN_live {m : Nat} {s : SrvS} (h : SrvG m s) : liveN s.st.recs + s.st.freeN = s.st.recs.length := by
  have := free_live s.st.recs
  unfold St.freeN
  rw [if_neg (by simp [h.st.dead])]
  exact this
theorem live_le {l : List Sto.Rec} (ht : Sto.slot l < l.length) (name : ByteArray) (data : List UInt8) : liveN (putF l name data) ≤ liveN l + 1 := putF_live ht name data
theorem lease_fits {room : Nat} (hr : 8 ≤ room) {ix : Key} (hix : ix.length = 16) {sec : Key} (hs : sec.length = 16) (e : Int) : fitsB room (leaseN ix) (packL [(sec, e)]) = true := by
  have h1 := lease_size ix hix
  have h2 := packL_len [(sec, e)] (fun s hs' => by rw [List.mem_singleton.1 hs']; exact hs)
  simp only [List.length_singleton] at h2
  exact fits_of (by omega) (by omega) (by omega)
theorem SrvG.add_one {m : Nat} {s : SrvS} (h : SrvG m s) (hm : m < 1000000) {ix sec : Key} (hix : ix.length = 16) (hsec : sec.length = 16) {e E : Int} (hroom : 8 ≤ s.room) (hlive : liveN s.st.recs + 1 ≤ s.st.recs.length) (hE : ∀ b l2, AddR s.tab ix sec e b l2 → b = true ∧ l2.Perm [⟨ix, sec, E⟩]) {err : Int} {s' : SrvS} (hl : AddSrv s ix sec e err s') :
    (err = 0 ∧ SrvG (m + 1) s' ∧ s'.tab.Perm [⟨ix, sec, E⟩] ∧ (∀ nm, Sto.look s'.st.recs nm = upd (Sto.look s.st.recs) (leaseN ix) (some (packL [(sec, E)])) nm) ∧ s'.st.disk.stops = s.st.disk.stops) ∨
    (err = 8 ∧ s.st.disk.stops = true ∧ ∃ l, SrvX (m + 1) s' l ∧ ((∀ nm, Sto.look l nm = Sto.look s.st.recs nm) ∨ ∀ nm, Sto.look l nm = upd (Sto.look s.st.recs) (leaseN ix) (some (packL [(sec, E)])) nm)) := by
  have hl0 := hl
  rcases h.add hm hix hsec hl with ⟨_, _, ha⟩ | ⟨l2, out, ha, hR, h0, hc⟩
  · have := (hE _ _ ha).1; cases this
  · have hp := (hE _ _ ha).2
    have ho := OfR.one hp hR
    subst ho
    rcases hc with ⟨h1, h2, h3, h4, h5⟩ | ⟨h1, h2⟩ | h1
    · exact .inl ⟨h1, h2, by rw [h3]; exact hp, h4, h5⟩
    · exfalso
      have hfit := lease_fits (room := s.st.room) (by rw [← h.room]; exact hroom) hix hsec E
      have hslot : Sto.slot s.st.recs < s.st.recs.length := slot_of_live (by omega)
      cases hl0 with
      | full ha' => have := (hE _ _ ha').1; cases this
      | laid l3 _ _ ha' hy =>
        obtain ⟨out', hR', herr, _⟩ := hy
        have ho' := OfR.one (hE _ _ ha').2 hR'
        subst ho'
        have e0 : layR s ix [(sec, E)] = putR s.st (leaseN ix) (packL [(sec, E)]) := by unfold layR; rw [if_neg (by simp)]
        rw [e0] at herr
        have hok : RecOk (leaseN ix) (packL [(sec, E)]) := RecOk.lease ix _ hix (ofR_leOk (ha'.wf h.wf hix hsec) (ha'.good h.good) hR' (by simp))
        have hput := h.st.put hm hok
        generalize putR s.st (leaseN ix) (packL [(sec, E)]) = R at hput herr
        cases hput with
        | arg h' => rw [hfit] at h'; cases h'
        | full _ h' => omega
        | done _ _ _ _ _ _ _ => simp only at herr; omega
        | torn _ _ _ _ _ _ _ _ _ _ => simp only at herr; omega
    · exact .inr h1
theorem SrvG.put_one {m : Nat} {s : SrvS} (h : SrvG m s) (hm : m + 1 < 1000000) {r : Req} (hr : r.Wf) {n : Nat} {data : List UInt8} (hn : n < 16) (hme : May r.ends) (hd : data.length ≤ 200) (hg : Sto.look s.st.recs (shareN r.ix n) = none) (hroom : 8 ≤ s.room) (hlive : liveN s.st.recs + 2 ≤ s.st.recs.length) {E : Int}
    (hE : ∀ b l2, AddR s.tab r.ix r.sec r.ends b l2 → b = true ∧ l2.Perm [⟨r.ix, r.sec, E⟩]) {err : Int} {s' : SrvS} (hp : PutSh s r [((n : Int), data)] err s') :
    (err = 0 ∧ SrvG (m + 2) s' ∧ s'.tab.Perm [⟨r.ix, r.sec, E⟩] ∧ (∀ nm, Sto.look s'.st.recs nm = upd (upd (Sto.look s.st.recs) (shareN r.ix n) (some data)) (leaseN r.ix) (some (packL [(r.sec, E)])) nm) ∧ s'.st.disk.stops = s.st.disk.stops ∧ s'.slots = s.slots ∧ s'.room = s.room ∧ liveN s'.st.recs ≤ liveN s.st.recs + 2) ∨
    (err = 8 ∧ s.st.disk.stops = true ∧ s'.slots = s.slots ∧ s'.room = s.room ∧ ∃ f : Look, SrvT (m + 2) s' f ∧ ((∀ nm, f nm = Sto.look s.st.recs nm) ∨ (∀ nm, f nm = upd (Sto.look s.st.recs) (shareN r.ix n) (some data) nm) ∨ ∀ nm, f nm = upd (upd (Sto.look s.st.recs) (shareN r.ix n) (some data)) (leaseN r.ix) (some (packL [(r.sec, E)])) nm)) := by
  have hfit : fitsB s.st.room (shareN r.ix n) data = true := fits_of (by rw [share_size _ _ hr.ix]; omega) (by omega) (by rw [share_size _ _ hr.ix, ← h.room]; omega)
  have hlf := lease_fits (room := s.st.room) (by rw [← h.room]; exact hroom) hr.ix hr.sec E
  have hfl := freeN_live h
  have hslot : Sto.slot s.st.recs < s.st.recs.length := slot_of_live (by omega)
  have hget : s.st.get (shareN r.ix n) = none := by rw [h.get, hg]
  have hask : ∀ err', AskR s r.ix r.sec r.ends (shareN r.ix n) data false err' → err' = 0 := fun err' ha => by
    obtain ⟨b, l2, out, ha1, ha2, rfl⟩ := ha
    obtain ⟨rfl, hp2⟩ := hE _ _ ha1
    have ho := OfR.one hp2 (ha2 rfl)
    subst ho
    rw [if_neg (by simp; omega), if_neg (by simp [hfit, hlf])]
  have hnl : ∀ ix, shareN r.ix n ≠ leaseN ix := fun ix => share_lease
  have hok : RecOk (shareN r.ix n) data := RecOk.share r.ix n data hr.ix hn (by omega)
  cases hp with
  | form h' => exact absurd ⟨rfl, ⟨⟨fun x hx => by rw [List.mem_singleton.1 hx]; simp; omega, by simp⟩, hme⟩⟩ h'
  | no n' data' _ hl hn' hm' ha h0 =>
    simp only [List.cons.injEq, Prod.mk.injEq, and_true] at hl
    obtain ⟨e1, rfl⟩ := hl
    have e1 : n = n' := by omega
    subst e1
    rw [hget] at ha
    exact absurd (hask _ ha) h0
  | torn n' data' hl hn' hm' hg' ha h0 =>
    simp only [List.cons.injEq, Prod.mk.injEq, and_true] at hl
    obtain ⟨e1, rfl⟩ := hl
    have e1 : n = n' := by omega
    subst e1
    rcases h.put (by omega) hok hnl with ⟨h1, _⟩ | ⟨h1, _⟩ | ⟨h1, h2, l, h3, h4⟩
    · exact absurd h1 h0
    · exfalso
      have hput := h.st.put (by omega) hok
      generalize putR s.st (shareN r.ix n) data = R at hput h1
      cases hput with
      | arg h' => rw [hfit] at h'; cases h'
      | full _ h' => omega
      | done _ _ _ _ _ _ _ => simp only at h1; omega
      | torn _ _ _ _ _ _ _ _ _ _ => simp only at h1; omega
    · refine .inr ⟨h1, h2, rfl, rfl, Sto.look l, .inr ⟨l, h3.le (by omega), fun _ => rfl⟩, ?_⟩
      rcases h4 with h4 | h4
      · exact .inl h4
      · exact .inr (.inl h4)
  | put n' data' _ _ hl hn' hm' hg' ha h0 hs =>
    simp only [List.cons.injEq, Prod.mk.injEq, and_true] at hl
    obtain ⟨e1, rfl⟩ := hl
    have e1 : n = n' := by omega
    subst e1
    rcases h.put (by omega) hok hnl with ⟨h1, h2, h3, h4⟩ | ⟨h1, _⟩ | ⟨h1, _⟩
    · have hrec : (putR s.st (shareN r.ix n) data).2.recs = putF s.st.recs (shareN r.ix n) data := by
        have hput := h.st.put (m := m) (by omega) hok
        generalize putR s.st (shareN r.ix n) data = R at hput h0
        cases hput with
        | arg h' => rw [hfit] at h'; cases h'
        | full _ h' => omega
        | done _ _ _ hr' _ _ _ => exact hr'
        | torn _ _ _ _ _ _ _ _ _ _ => simp only at h0; omega
      have hlv := live_le hslot (shareN r.ix n) data
      have hln := putF_len s.st.recs (shareN r.ix n) data
      have hlv2 : liveN (putR s.st (shareN r.ix n) data).2.recs + 1 ≤ (putR s.st (shareN r.ix n) data).2.recs.length := by rw [hrec, hln]; omega
      have hslots : s'.slots = s.slots ∧ s'.room = s.room ∧ (err = 0 → liveN s'.st.recs ≤ liveN (putR s.st (shareN r.ix n) data).2.recs + 1) := by
        cases hs with
        | full _ => exact ⟨rfl, rfl, fun _ => Nat.le_succ _⟩
        | laid l2 _ _ ha2 hy =>
          obtain ⟨out, hR, herr, hs'⟩ := hy
          have h0' : out.length ≠ 0 := fun e => ha2.ne (hR.nil_iff.1 (List.eq_nil_of_length_eq_zero e))
          have e0 : layR { s with st := (putR s.st (shareN r.ix n) data).2 } r.ix out = putR (putR s.st (shareN r.ix n) data).2 (leaseN r.ix) (packL out) := by unfold layR; rw [if_neg h0']
          rw [e0] at hs' herr
          have hlr : (putR (putR s.st (shareN r.ix n) data).2 (leaseN r.ix) (packL out)).1 = 0 → liveN (putR (putR s.st (shareN r.ix n) data).2 (leaseN r.ix) (packL out)).2.recs ≤ liveN (putR s.st (shareN r.ix n) data).2.recs + 1 := by
            have hR2 := List.perm_singleton.1 (hE _ _ ha2).2
            have hput := h2.st.put (m := m + 1) hm (RecOk.lease r.ix out hr.ix (ofR_leOk (ha2.wf h2.wf hr.ix hr.sec) (ha2.good h2.good) hR (fun e => h0' (by rw [e]; rfl))))
            generalize hq : (putR s.st (shareN r.ix n) data).2 = st1 at *
            have hpr := hput
            generalize putR st1 (leaseN r.ix) (packL out) = R at hput
            cases hput with
            | arg h' => exact fun _ => Nat.le_succ _
            | full _ h' => exact fun _ => Nat.le_succ _
            | done _ _ hsl hr' _ _ _ => intro _; show liveN _ ≤ _; rw [hr']; exact live_le hsl _ _
            | torn _ _ _ _ _ _ _ _ _ _ => intro h; simp only at h; omega
          split at hs'
          · rw [hs', herr]; exact ⟨rfl, rfl, hlr⟩
          · rw [hs', herr]; exact ⟨rfl, rfl, hlr⟩
      rcases h2.add_one hm hr.ix hr.sec hroom hlv2 hE hs with ⟨a1, a2, a3, a4, a5⟩ | ⟨a1, a2, l, a3, a4⟩
      · have hnm : ∀ nm, Sto.look s'.st.recs nm = upd (upd (Sto.look s.st.recs) (shareN r.ix n) (some data)) (leaseN r.ix) (some (packL [(r.sec, E)])) nm := fun nm => by
          rw [a4]
          unfold upd
          split
          · rfl
          · exact h3 nm
        exact .inl ⟨a1, a2, a3, hnm, a5.trans h4, hslots.1, hslots.2.1, by have := hslots.2.2 a1; rw [hrec] at this; omega⟩
      · refine .inr ⟨a1, by rw [← h4]; exact a2, hslots.1, hslots.2.1, Sto.look l, .inr ⟨l, a3, fun _ => rfl⟩, ?_⟩
        rcases a4 with a4 | a4
        · exact .inr (.inl fun nm => by rw [a4]; exact h3 nm)
        · refine .inr (.inr fun nm => ?_)
          rw [a4]
          unfold upd
          split
          · rfl
          · exact h3 nm
    · omega
    · omega
  | there n' data' _ _ hl hn' hm' hg' ha hs =>
    simp only [List.cons.injEq, Prod.mk.injEq, and_true] at hl
    obtain ⟨e1, rfl⟩ := hl
    have e1 : n = n' := by omega
    subst e1
    rw [hget] at hg'
    cases hg'
theorem SrvG.put_there {m : Nat} {s : SrvS} (h : SrvG m s) (hm : m < 1000000) {r : Req} (hr : r.Wf) {n : Nat} {data x : List UInt8} (hn : n < 16) (hme : May r.ends) (hd : data.length ≤ 200) (hg : Sto.look s.st.recs (shareN r.ix n) = some x) (hroom : 8 ≤ s.room) (hlive : liveN s.st.recs + 1 ≤ s.st.recs.length) (hst : s.st.disk.stops = false) {E : Int}
    (hE : ∀ b l2, AddR s.tab r.ix r.sec r.ends b l2 → b = true ∧ l2.Perm [⟨r.ix, r.sec, E⟩]) {err : Int} {s' : SrvS} (hp : PutSh s r [((n : Int), data)] err s') : err = 5 := by
  have hfit : fitsB s.st.room (shareN r.ix n) data = true := fits_of (by rw [share_size _ _ hr.ix]; omega) (by omega) (by rw [share_size _ _ hr.ix, ← h.room]; omega)
  have hlf := lease_fits (room := s.st.room) (by rw [← h.room]; exact hroom) hr.ix hr.sec E
  have hfl := freeN_live h
  have hget : s.st.get (shareN r.ix n) = some x := by rw [h.get, hg]
  have hask : ∀ err', AskR s r.ix r.sec r.ends (shareN r.ix n) data true err' → err' = 0 := fun err' ha => by
    obtain ⟨b, l2, out, ha1, ha2, rfl⟩ := ha
    obtain ⟨rfl, hp2⟩ := hE _ _ ha1
    have ho := OfR.one hp2 (ha2 rfl)
    subst ho
    rw [if_neg (by simp; omega), if_neg (by simp [hfit, hlf])]
  cases hp with
  | form h' => exact absurd ⟨rfl, ⟨⟨fun x hx => by rw [List.mem_singleton.1 hx]; simp; omega, by simp⟩, hme⟩⟩ h'
  | no n' data' _ hl hn' hm' ha h0 =>
    simp only [List.cons.injEq, Prod.mk.injEq, and_true] at hl
    obtain ⟨e1, rfl⟩ := hl
    have e1 : n = n' := by omega
    subst e1
    rw [hget] at ha
    exact absurd (hask _ ha) h0
  | torn n' data' hl hn' hm' hg' ha h0 =>
    simp only [List.cons.injEq, Prod.mk.injEq, and_true] at hl
    obtain ⟨e1, rfl⟩ := hl
    have e1 : n = n' := by omega
    subst e1
    rw [hget] at hg'
    cases hg'
  | put n' data' _ _ hl hn' hm' hg' ha h0 hs =>
    simp only [List.cons.injEq, Prod.mk.injEq, and_true] at hl
    obtain ⟨e1, rfl⟩ := hl
    have e1 : n = n' := by omega
    subst e1
    rw [hget] at hg'
    cases hg'
  | there n' data' _ _ hl hn' hm' hg' ha hs =>
    simp only [List.cons.injEq, Prod.mk.injEq, and_true] at hl
    obtain ⟨e1, rfl⟩ := hl
    have e1 : n = n' := by omega
    subst e1
    rcases h.add_one hm hr.ix hr.sec hroom hlive hE hs with ⟨a1, _⟩ | ⟨_, a2, _⟩
    · rw [if_pos a1]
    · rw [hst] at a2; cases a2
end Go.Mem
end
