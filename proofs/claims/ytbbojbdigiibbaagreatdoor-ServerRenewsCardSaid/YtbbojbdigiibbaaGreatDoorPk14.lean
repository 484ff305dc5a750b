/- Texts of this proof, packed: LeaWake, Ints, Open, OpenS, Some, LeaTwo, TailNew, TailAny, RegJ. -/
import Derived.Test.YtbbojbdigiibbaaGreatDoorPk12
import Derived.Test.YtbbojbdigiibbaaGreatDoorPk13
import Derived.Test.YtbbojbdigiibbaaGreatDoorPk00
import Derived.WalkKit
import Derived.ProofKit
import Derived.ChangeOld
import Derived.Test.YtbbojbdigiibbaaGreatDoorPk01
import Derived.Deep.SlicePairs
import Derived.OpenShut
import Derived.Laws.StructEq
import Derived.Test.YtbbojbdigiibbaaGreatDoorPk03
import Derived.Deep.MidRow
import Derived.Deep.RegionHeld3
section
namespace Lea
def z16 : Key := List.replicate 16 0
end Lea
namespace Go.Proofs.YtbbojbdigiibbaaGreatDoor
open Go Go.RowKit Go.Mem Gf Lea
def keyC (v : Value) : Array Value := (v :: List.replicate 15 (.int .u8 0)).toArray
def isU8 : Value → Bool
  | .int .u8 _ => true
  | _ => false
def isI64 : Value → Bool
  | .int .i64 _ => true
  | _ => false
@[simp] theorem isU8_eq (n : Int) : isU8 (.int .u8 n) = true := rfl
@[simp] theorem isI64_eq (n : Int) : isI64 (.int .i64 n) = true := rfl
theorem built_k0 (n : Int) : Tryz.prog.built 39 [(0, .int .u8 n)] = some (keyC (.int .u8 n)) := by kernel_rfl
theorem built_z : Tryz.prog.built 39 [] = some (keyC (.int .u8 0)) := by kernel_rfl
theorem built_l1 (n : Int) : Tryz.prog.built 165 [(1, .int .i64 n)] = some (keyC (.int .u8 0) ++ #[.int .i64 n]) := by kernel_rfl
theorem build_k0 (dst : Option Tmp) (x : Operand) (ty : TypeId) (pos : String) (af : Array Edge) (gd : Option (Tmp × Bool)) (a : Act) (w : World) (K : Act → World → Prop) (Q : Exit → Act → World → Prop) (h : isU8 (a.eval x) = true) :
    Oper.wp Tryz.prog ⟨dst, .build 39 #[(0, x)], ty, pos, af, gd⟩ a w K Q = K (a.put dst (.agg (keyC (a.eval x)))) w := by
  unfold Oper.wp execOp
  have e : ∃ n, a.eval x = .int .u8 n := by
    unfold isU8 at h
    split at h
    · rename_i n e; exact ⟨n, e⟩
    · cases h
  obtain ⟨n, e⟩ := e
  have hr := run_build (P := Tryz.prog) w 39 #[(0, a.eval x)] (keyC (a.eval x)) (by rw [e]; exact built_k0 n)
  simp only [List.map_toArray, List.map_cons, List.map_nil, Sem.run_bind, hr, Result.andThen_ok]
  rfl
theorem build_z (dst : Option Tmp) (ty : TypeId) (pos : String) (af : Array Edge) (gd : Option (Tmp × Bool)) (a : Act) (w : World) (K : Act → World → Prop) (Q : Exit → Act → World → Prop) :
    Oper.wp Tryz.prog ⟨dst, .build 39 #[], ty, pos, af, gd⟩ a w K Q = K (a.put dst (.agg (keyC (.int .u8 0)))) w := by
  unfold Oper.wp execOp
  have hr := run_build (P := Tryz.prog) w 39 #[] (keyC (.int .u8 0)) built_z
  simp only [List.map_toArray, List.map_nil, Sem.run_bind, hr, Result.andThen_ok]
  rfl
theorem build_l1 (dst : Option Tmp) (x : Operand) (ty : TypeId) (pos : String) (af : Array Edge) (gd : Option (Tmp × Bool)) (a : Act) (w : World) (K : Act → World → Prop) (Q : Exit → Act → World → Prop) (h : isI64 (a.eval x) = true) :
    Oper.wp Tryz.prog ⟨dst, .build 165 #[(1, x)], ty, pos, af, gd⟩ a w K Q = K (a.put dst (.agg (keyC (.int .u8 0) ++ #[a.eval x]))) w := by
  unfold Oper.wp execOp
  have e : ∃ n, a.eval x = .int .i64 n := by
    unfold isI64 at h
    split at h
    · rename_i n e; exact ⟨n, e⟩
    · cases h
  obtain ⟨n, e⟩ := e
  have hr := run_build (P := Tryz.prog) w 165 #[(1, a.eval x)] (keyC (.int .u8 0) ++ #[a.eval x]) (by rw [e]; exact built_l1 n)
  simp only [List.map_toArray, List.map_cons, List.map_nil, Sem.run_bind, hr, Result.andThen_ok]
  rfl
theorem build_lease (dst : Option Tmp) (x y : Operand) (ty : TypeId) (pos : String) (af : Array Edge) (a : Act) (w : World) (K : Act → World → Prop) (Q : Exit → Act → World → Prop)
    (h1 : (a.eval x).cells.size = 16) (h2 : (a.eval y).cells.size = 1) :
    Oper.wp Tryz.prog ⟨dst, .build 165 #[(0, x), (1, y)], ty, pos, af, none⟩ a w K Q = K (a.put dst (.agg ((a.eval x).cells ++ (a.eval y).cells))) w :=
  wp_buildTwo Tryz.underlying165 (by kernel_rfl) (by kernel_rfl) dst x y ty pos af a w K Q h1 h2
theorem z16_len : z16.length = 16 := by simp [z16]
attribute [local go_sem ↓] Go.wp_at_zero Go.wp_at_succ
attribute [local go_sem ↓] build_k0 build_z build_l1 build_lease
attribute [local go_sem] isU8_eq isI64_eq
end Go.Proofs.YtbbojbdigiibbaaGreatDoor
namespace Go.Proofs.YtbbojbdigiibbaaGreatDoor
open Go Go.RowKit Go.Mem Gf Lea
structure Env (W wr : World) (tb p6 : Nat) (vt : Value) (lt : List Les) : Prop where
  heap : Heap wr tb vt lt
  good : Lea.Good lt
  key : Blk wr p6 (bV z16).toArray 39
  own : ∀ g, vt.ownBlock = some g → W.heap.size ≤ g ∧ g ≠ p6
  chg : Chg (fun k => W.heap.size ≤ k) W wr
  tb1 : W.heap.size ≤ tb
  tbp : tb ≠ p6
section
variable {W wr w' : World} {tb p6 : Nat} {vt v' : Value} {lt l' : List Les}
theorem Env.tchg (h : Env W wr tb p6 vt lt) (hc : TChg tb vt v' wr w') (hh : Heap w' tb v' l') (hg : Lea.Good l') : Env W w' tb p6 v' l' := by
  have hp := h.key.lt
  refine ⟨hh, hg, hc.1.blk h.key (fun e => ?_), fun g e => ?_, h.chg.mix hc.1 (fun k hk => ?_), h.tb1, h.tbp⟩
  · rcases e with e | e
    · exact h.tbp e.symm
    · exact (h.own _ e).2 rfl
  · rcases hc.2 g e with e1 | e1
    · exact h.own g e1
    · exact ⟨Nat.le_trans h.chg.size e1, fun e2 => by omega⟩
  · rcases hk with rfl | hk
    · exact .inl h.tb1
    · exact .inl (h.own _ hk).1
theorem Env.below (h : Env W wr tb p6 vt lt) (hb : Below wr.heap.size wr w') : Env W w' tb p6 vt lt :=
  ⟨h.heap.below hb, h.good, h.key.kept hb, h.own, h.chg.trans_below hb, h.tb1, h.tbp⟩
theorem Env.read (h : Env W wr tb p6 vt lt) : readK 16 wr p6 0 = bV z16 := blk_read0 h.key (by rw [bV_len]; exact z16_len)
theorem Env.has (h : Env W wr tb p6 vt lt) : HasK 16 wr p6 0 := blk_has h.key (by simp [bV_len, z16_len])
theorem Env.bel (h : Env W wr tb p6 vt lt) : Below W.heap.size W wr := h.chg.below (Nat.le_refl _) (fun _ h => h)
theorem Env.few (h : Env W wr tb p6 vt lt) (ix : Key) : (ofL lt ix).length ≤ 12 := by have := h.good.few ix; omega
theorem Env.new {W w1 : World} {tb : Nat} (h1 : W.heap.size ≤ tb) (h2 : Heap w1 tb (.slice none 0 0) []) (h3 : Below W.heap.size W w1) : Env W (w1.alloc (.cells (bV z16).toArray 39)) tb w1.heap.size (.slice none 0 0) [] :=
  ⟨h2.below ((Below.refl _ _).alloc (Nat.le_refl _) _), Good.nil, Blk.new _ _ _, (fun g e => by cases e), (Chg.of_below h3).trans_below ((Below.refl _ _).alloc (Nat.le_refl _) _), h1, fun e => by have := h2.tab.cell.lt; omega⟩
end
end Go.Proofs.YtbbojbdigiibbaaGreatDoor
end
section
namespace Go.Mem
open Go Go.RowKit
def Nms (w : World) (v : Value) (xs : List Int) : Prop :=
  ∃ a cap, v = .slice a xs.length cap ∧ xs.length ≤ cap ∧ cap ≤ maxLen ∧
    (0 < xs.length → ∃ b off, a = some ⟨b, off, none⟩ ∧ ∀ (i : Nat) (x : Int), xs[i]? = some x → w.cell? ⟨b, off + i, none⟩ = some (.int .i64 x))
theorem Nms.nil (w : World) : Nms w (.slice none 0 0) [] := ⟨none, 0, rfl, Nat.le_refl _, Nat.zero_le _, fun h => by simp at h⟩
section
variable {w w' : World} {v : Value} {xs : List Int}
theorem Nms.len (h : Nms w v xs) : xs.length ≤ 9223372036854775807 := by
  obtain ⟨a, cap, _, h1, h2, _⟩ := h
  unfold maxLen at h2; omega
theorem Nms.eq_slice (h : Nms w v xs) : ∃ a cap, v = .slice a xs.length cap := by
  obtain ⟨a, cap, e, _⟩ := h; exact ⟨a, cap, e⟩
theorem Nms.drewN (h : Nms w v xs) (n : Nat) : Nms (w.drewN n) v xs := h
theorem Nms.drew (h : Nms w v xs) : Nms w.drew v xs := h
theorem Nms.below (h : Nms w v xs) (hb : Below w.heap.size w w') : Nms w' v xs := by
  obtain ⟨a, cap, h0, h1, h2, h3⟩ := h
  refine ⟨a, cap, h0, h1, h2, fun hp => ?_⟩
  obtain ⟨b, off, e, hc⟩ := h3 hp
  refine ⟨b, off, e, fun i u hi => ?_⟩
  have := hc i u hi
  rw [hb.cell (p := ⟨b, off + i, none⟩) (World.block_lt_of_cell? w _ this)]
  exact this
theorem Nms.rd (h : Nms w v xs) (hr : Rd w w') : Nms w' v xs := by
  obtain ⟨m, rfl⟩ := hr; exact h
theorem Nms.at {a : Option Addr} {n cap : Nat} (h : Nms w (.slice a n cap) xs) (k : Nat) (hk : k < xs.length) :
    ∃ b off x, a = some ⟨b, off, none⟩ ∧ Hid (xs[k]? = some x) ∧ w.cell? ⟨b, off + k, none⟩ = some (.int .i64 x) := by
  obtain ⟨a', cap', e, h1, h2, h3⟩ := h
  obtain ⟨b, off, e', hc⟩ := h3 (by omega)
  injection e with e1 e2 e3
  exact ⟨b, off, xs[k], e1.trans e', by show xs[k]? = _; simp [hk], hc k _ (by simp [hk])⟩
theorem Nms.take {a : Option Addr} {len cap : Nat} (h : Nms w (.slice a len cap) xs) (n : Nat) (hn : n ≤ xs.length) : Nms w (.slice a n cap) (xs.take n) := by
  obtain ⟨a', cap', e, h1, h2, h3⟩ := h
  injection e with e1 e2 e3
  have hlen : (xs.take n).length = n := by simp; omega
  refine ⟨a, cap, by rw [hlen], by rw [hlen]; omega, by omega, fun hp => ?_⟩
  rw [hlen] at hp
  obtain ⟨b, off, e', hc⟩ := h3 (by omega)
  refine ⟨b, off, e1.trans e', fun i u hi => hc i u ?_⟩
  rw [List.getElem?_take] at hi
  split at hi
  · exact hi
  · cases hi
end
end Go.Mem
end
section
namespace Go.Mem
open Go Go.ChangeShapes Go.WideShapes Go.ChangeAt Go.RowKit
theorem int_of_wf {x : Int} (h : (Lit.int .i64 x).wf = true) : -9223372036854775808 ≤ x ∧ x ≤ 9223372036854775807 := by
  simp [Lit.wf, IntKind.min, IntKind.max, IntKind.signed, IntKind.bits] at h
  exact ⟨by omega, by omega⟩
section
variable {P : Program} {H : Type} {enc : TypeId × Value → H} {W : World} {base : Nat}
end
end Go.Mem
end
section
namespace Go.Mem
open Go Go.ChangeShapes Go.WideShapes Go.ChangeAt Go.RowKit Gf
section
variable {P : Program}
def Sls (c : Nat) {α : Type} (R : World → List Value → α → Prop) (W : World) (v : Value) (l : List α) : Prop :=
  ∃ a cap, v = .slice a l.length cap ∧ l.length ≤ cap ∧ cap ≤ maxLen ∧
    (0 < l.length → ∃ b off, a = some ⟨b, off, none⟩ ∧ ∀ i d, l[i]? = some d → ∃ cs : List Value, cs.length = c ∧ (∀ j v, cs[j]? = some v → W.cell? ⟨b, off + i * c + j, none⟩ = some v) ∧ R W cs d)
theorem Sls.len {c : Nat} {α : Type} {R : World → List Value → α → Prop} {W : World} {v : Value} {l : List α} (h : Sls c R W v l) : l.length ≤ 9223372036854775807 := by
  obtain ⟨a, cap, _, h1, h2, _⟩ := h
  unfold maxLen at h2; omega
theorem Sls.below {c : Nat} {α : Type} {R : World → List Value → α → Prop} (hR : ∀ w w' cs d, Below w.heap.size w w' → R w cs d → R w' cs d) {w w' : World} {v : Value} {l : List α} (h : Sls c R w v l) (hb : Below w.heap.size w w') : Sls c R w' v l := by
  obtain ⟨a, cap, h1, h2, h3, h4⟩ := h
  refine ⟨a, cap, h1, h2, h3, fun hp => ?_⟩
  obtain ⟨b, off, e, h5⟩ := h4 hp
  refine ⟨b, off, e, fun i d hi => ?_⟩
  obtain ⟨cs, h6, h7, h8⟩ := h5 i d hi
  exact ⟨cs, h6, fun j v hj => (hb.cell (p := ⟨b, off + i * c + j, none⟩) (World.block_lt_of_cell? w _ (h7 j v hj))).trans (h7 j v hj), hR _ _ _ _ hb h8⟩
theorem Sls.at {c : Nat} {α : Type} {R : World → List Value → α → Prop} {w : World} {a : Option Addr} {n cap : Nat} {l : List α} (h : Sls c R w (.slice a n cap) l) (i : Nat) (hi : i < l.length) :
    ∃ b off d cs, a = some ⟨b, off, none⟩ ∧ Hid (l[i]? = some d) ∧ cs.length = c ∧ (∀ j v, cs[j]? = some v → w.cell? ⟨b, off + i * c + j, none⟩ = some v) ∧ R w cs d := by
  obtain ⟨a', cap', e, h1, h2, h3⟩ := h
  obtain ⟨b, off, e', h4⟩ := h3 (by omega)
  injection e with e1 e2 e3
  obtain ⟨cs, h5, h6, h7⟩ := h4 i l[i] (List.getElem?_eq_getElem hi)
  exact ⟨b, off, l[i], cs, e1.trans e', by show l[i]? = _; simp [hi], h5, h6, h7⟩
theorem Sls.eq_slice {c : Nat} {α : Type} {R : World → List Value → α → Prop} {w : World} {v : Value} {l : List α} (h : Sls c R w v l) : ∃ a cap, v = .slice a l.length cap := by
  obtain ⟨a, cap, e, _⟩ := h; exact ⟨a, cap, e⟩
end
end Go.Mem
end
section
namespace Go.Mem
open Go Go.RowKit Gf
def SomeK (n : Nat) (w : World) (g o : Nat) : Prop := ∀ j, j < n → (w.cell? ⟨g, o + j, none⟩).isSome = true
theorem someK_drew (n : Nat) (w : World) (g o : Nat) : SomeK n w.drew g o = SomeK n w g o := rfl
theorem someK_alloc_past {w : World} (o' : Obj) (n g o : Nat) (hn : g < w.heap.size) : SomeK n (w.alloc o') g o = SomeK n w g o := by
  unfold SomeK
  apply propext
  constructor
  · intro h j hj
    have := h j hj
    rwa [World.cell?_alloc_past _ _ _ hn] at this
  · intro h j hj
    rw [World.cell?_alloc_past _ _ _ hn]
    exact h j hj
theorem HasK.some {n : Nat} {w : World} {g o : Nat} (h : HasK n w g o) : SomeK n w g o := fun j hj => (h j hj).1
theorem someK_of {n : Nat} {w : World} {g o : Nat} {cs : List Value} (h : w.rangeAt g o cs) (hn : cs.length = n) : SomeK n w g o := fun j hj => by
  rw [h j (cs[j]'(by omega)) (List.getElem?_eq_getElem (by omega))]; rfl
theorem readS_range {n : Nat} {w : World} {g o : Nat} (h : SomeK n w g o) : w.rangeAt g o (readK n w g o) := fun j v hj => by
  have hjn : j < n := by
    rcases Nat.lt_or_ge j n with h | h
    · exact h
    · rw [List.getElem?_eq_none (by rw [readK_len]; exact h)] at hj; cases hj
  obtain ⟨u, hu⟩ := Option.isSome_iff_exists.1 (h j hjn)
  rw [hu]
  unfold readK at hj
  rw [List.getElem?_map, List.getElem?_range hjn] at hj
  simp only [Option.map_some, hu, Option.getD_some] at hj
  exact hj
theorem wp_loadS {P : Program} {n : Nat} {t : TypeId} {d : TypeDesc} (hu : P.underlying t = some d) (hd : d.isRow = true) (hi : (P.info? t).map (·.size) = some n) (dst : Option Tmp) (x : Operand) (ty : TypeId) (pos : String) (af : Array Edge) (gd : Option (Tmp × Bool)) (a : Act) (w : World) (K : Act → World → Prop) (Q : Exit → Act → World → Prop)
    (hp : ptrIs (a.eval x) = true) (ht : SomeK n w (ptrB (a.eval x)) (ptrO (a.eval x))) :
    Oper.wp P ⟨dst, .load t x, ty, pos, af, gd⟩ a w K Q = K (a.put dst (.agg (readK n w (ptrB (a.eval x)) (ptrO (a.eval x))).toArray)) w := by
  unfold Oper.wp execOp
  have e := ptr_of hp
  have hl := run_loadVar_mid (P := P) w (ptrB (a.eval x)) (ptrO (a.eval x)) t (readK n w (ptrB (a.eval x)) (ptrO (a.eval x))) d (readS_range ht) hu hd (by rw [hi, readK_len])
  simp only
  rw [e]
  simp only [ptrB_eq, ptrO_eq, Instr.loadAt, Instr.sureAddr, Sem.run_bind, Sem.run_pure, Result.andThen_ok, hl]
  rfl
end Go.Mem
end
section
namespace Go.Mem
open Go Go.ChangeShapes Go.WideShapes Go.ChangeAt Go.RowKit Gf Lea
structure ActL where
  op : Int
  ix : List UInt8
  sec : List UInt8
  e : Int
  oth : List UInt8
  bs : List UInt8
structure ActLR (W : World) (cs : List Value) (a : ActL) : Prop where
  op : cs[0]? = some (.int .i64 a.op)
  opr : -9223372036854775808 ≤ a.op ∧ a.op ≤ 9223372036854775807
  ix : (cs.drop 1).take 16 = bV a.ix
  ixl : a.ix.length = 16
  l : (cs.drop 17).take 17 = encL (a.sec, a.e)
  secl : a.sec.length = 16
  er : -9223372036854775808 ≤ a.e ∧ a.e ≤ 9223372036854775807
  oth : (cs.drop 34).take 16 = bV a.oth
  othl : a.oth.length = 16
  bs : ∃ v, cs[50]? = some v ∧ Bys W v a.bs
theorem ActLR.below {w w' : World} {cs : List Value} {a : ActL} (hb : Below w.heap.size w w') (h : ActLR w cs a) : ActLR w' cs a :=
  ⟨h.op, h.opr, h.ix, h.ixl, h.l, h.secl, h.er, h.oth, h.othl, by obtain ⟨v, h1, h2⟩ := h.bs; exact ⟨v, h1, h2.below hb⟩⟩
end Go.Mem
namespace Go.Proofs.YtbbojbdigiibbaaGreatDoor
open Go Go.RowKit Go.Mem Gf
end Go.Proofs.YtbbojbdigiibbaaGreatDoor
namespace Go.Proofs.YtbbojbdigiibbaaGreatDoor
open Go Go.RowKit Go.Mem Gf Lea
attribute [local go_sem ↓] Go.wp_at_zero Go.wp_at_succ
theorem load_lease2 (dst : Option Tmp) (x : Operand) (ty : TypeId) (pos : String) (af : Array Edge) (gd : Option (Tmp × Bool)) (a : Act) (W : World) (K : Act → Prop)
    (hp : ptrIs (a.eval x) = true) (ht : HasK 17 W (ptrB (a.eval x)) (ptrO (a.eval x))) :
    Oper.quiet Tryz.prog ⟨dst, .load 165 x, ty, pos, af, gd⟩ a (fun w' => ∃ n, w' = W.drewN n) K = K (a.put dst (.agg (readK 17 W (ptrB (a.eval x)) (ptrO (a.eval x))).toArray)) :=
  quiet_loadK Tryz.underlying165 rfl i17 dst x ty pos af gd a W K hp ht
attribute [local go_sem ↓] load_lease load_lease2
attribute [local go_sem] ptrB_eq ptrO_eq ptrIs_eq aggL_eq aggIs_eq
end Go.Proofs.YtbbojbdigiibbaaGreatDoor
namespace Go.Proofs.YtbbojbdigiibbaaGreatDoor
open Go Go.RowKit Go.Mem Gf Lea
theorem load_keyS (dst : Option Tmp) (x : Operand) (ty : TypeId) (pos : String) (af : Array Edge) (gd : Option (Tmp × Bool)) (a : Act) (w : World) (K : Act → World → Prop) (Q : Exit → Act → World → Prop)
    (hp : ptrIs (a.eval x) = true) (ht : SomeK 16 w (ptrB (a.eval x)) (ptrO (a.eval x))) :
    Oper.wp Tryz.prog ⟨dst, .load 39 x, ty, pos, af, gd⟩ a w K Q = K (a.put dst (.agg (readK 16 w (ptrB (a.eval x)) (ptrO (a.eval x))).toArray)) w :=
  wp_loadS Tryz.underlying39 rfl i16 dst x ty pos af gd a w K Q hp ht
theorem load_leaseS (dst : Option Tmp) (x : Operand) (ty : TypeId) (pos : String) (af : Array Edge) (gd : Option (Tmp × Bool)) (a : Act) (w : World) (K : Act → World → Prop) (Q : Exit → Act → World → Prop)
    (hp : ptrIs (a.eval x) = true) (ht : SomeK 17 w (ptrB (a.eval x)) (ptrO (a.eval x))) :
    Oper.wp Tryz.prog ⟨dst, .load 165 x, ty, pos, af, gd⟩ a w K Q = K (a.put dst (.agg (readK 17 w (ptrB (a.eval x)) (ptrO (a.eval x))).toArray)) w :=
  wp_loadS Tryz.underlying165 rfl i17 dst x ty pos af gd a w K Q hp ht
end Go.Proofs.YtbbojbdigiibbaaGreatDoor
namespace Go.Proofs.YtbbojbdigiibbaaGreatDoor
open Go Go.RowKit Go.Mem Gf Lea
structure Env0 (W wr : World) (tb : Nat) (vt : Value) (lt : List Les) : Prop where
  heap : Heap wr tb vt lt
  good : Lea.Good lt
  own : ∀ g, vt.ownBlock = some g → W.heap.size ≤ g
  chg : Chg (fun k => W.heap.size ≤ k) W wr
  tb1 : W.heap.size ≤ tb
section
variable {W wr w' : World} {tb tu : Nat} {vt vu v' : Value} {lt lu l' : List Les}
theorem Env0.new {W w1 : World} {tb : Nat} (h1 : W.heap.size ≤ tb) (h2 : Heap w1 tb (.slice none 0 0) []) (h3 : Below W.heap.size W w1) : Env0 W w1 tb (.slice none 0 0) [] :=
  ⟨h2, Good.nil, (fun g e => by cases e), Chg.of_below h3, h1⟩
theorem Env0.tchg (h : Env0 W wr tb vt lt) (hc : TChg tb vt v' wr w') (hh : Heap w' tb v' l') (hg : Lea.Good l') : Env0 W w' tb v' l' :=
  ⟨hh, hg, fun g e => by
    rcases hc.2 g e with e1 | e1
    · exact h.own g e1
    · exact Nat.le_trans h.chg.size e1, h.chg.mix hc.1 (fun k hk => by
    rcases hk with rfl | hk
    · exact .inl h.tb1
    · exact .inl (h.own _ hk)), h.tb1⟩
theorem Env0.below (h : Env0 W wr tb vt lt) (hb : Below wr.heap.size wr w') : Env0 W w' tb vt lt := ⟨h.heap.below hb, h.good, h.own, h.chg.trans_below hb, h.tb1⟩
theorem Env0.bel (h : Env0 W wr tb vt lt) : Below W.heap.size W wr := h.chg.below (Nat.le_refl _) (fun _ h => h)
theorem Env0.few (h : Env0 W wr tb vt lt) (ix : Key) : (ofL lt ix).length ≤ 12 := by have := h.good.few ix; omega
structure Tw (W wr : World) (tb tu : Nat) (vt vu : Value) (lt lu : List Les) : Prop where
  a : Env0 W wr tb vt lt
  b : Env0 W wr tu vu lu
  ne : tb ≠ tu
  s1 : vt.ownBlock ≠ some tu
  s2 : vu.ownBlock ≠ some tb
  s3 : ∀ g, vt.ownBlock = some g → vu.ownBlock ≠ some g
theorem Tw.swap (h : Tw W wr tb tu vt vu lt lu) : Tw W wr tu tb vu vt lu lt := ⟨h.b, h.a, fun e => h.ne e.symm, h.s2, h.s1, fun g hg e => h.s3 g e hg⟩
theorem Tw.below (h : Tw W wr tb tu vt vu lt lu) (hb : Below wr.heap.size wr w') : Tw W w' tb tu vt vu lt lu := ⟨h.a.below hb, h.b.below hb, h.ne, h.s1, h.s2, h.s3⟩
theorem Tw.left (h : Tw W wr tb tu vt vu lt lu) (hc : TChg tb vt v' wr w') (hh : Heap w' tb v' l') (hg : Lea.Good l') : Tw W w' tb tu v' vu l' lu := by
  have ha := h.a.tchg hc hh hg
  have hu := h.b.heap.tab.cell.lt
  refine ⟨ha, ⟨⟨h.b.heap.tab.chg hc.1 (fun e => ?_) (fun g hg e => ?_), h.b.heap.heap⟩, h.b.good, h.b.own, ha.chg, h.b.tb1⟩, h.ne, fun e => ?_, h.s2, fun g hg e => ?_⟩
  · rcases e with e | e
    · exact h.ne e.symm
    · exact h.s1 e
  · rcases e with rfl | e
    · exact h.s2 hg
    · exact h.s3 _ e hg
  · rcases hc.2 _ e with e1 | e1
    · exact h.s1 e1
    · omega
  · rcases hc.2 g hg with e1 | e1
    · exact h.s3 g e1 e
    · have := h.b.heap.tab.own.lt _ e
      omega
end
end Go.Proofs.YtbbojbdigiibbaaGreatDoor
end
section
namespace Go.Tail
open Go
def goesUpon (P : Program) (C' : World → Prop) (v : Value) : Result Next → Prop
  | .ok (.value u) w' => C' w' ∧ u = v
  | .ok .skip w' => C' w' ∧ v = undef
  | .ok (.enter f args) w' => Calls P f args w' (fun e w'' => e = .returned v ∧ C' w'')
  | _ => False
def goesAt (P : Program) (o : Oper) (a : Act) (C' : World → Prop) (w : World) (v : Value) : Prop := goesUpon P C' v ((execOp a.eval o).run P w)
section
variable {P : Program} {ops : Array Oper} {md : Region.Mode} {U : Bool → World → Prop} {j0 : Nat}
def YG (P : Program) (ops : Array Oper) (U : Bool → World → Prop) (j0 i : Nat) (o : Oper) (v : Value) (a : Act) : Prop :=
  (Region.wanted o (yielded ops a.tmps) = true ∧ ∀ b : Bool, (i = j0 → b = false) → ∀ w, U b w → goesAt P o a (U (if i = j0 then true else b)) w v) ∨
  (Region.wanted o (yielded ops a.tmps) = false ∧ v = undef ∧ i ≠ j0)
theorem YG.of_same {i : Nat} {o : Oper} {v : Value} {a a' : Act} (h : YG P ops U j0 i o v a) (he : execOp a'.eval o = execOp a.eval o)
    (hw : Region.wanted o (yielded ops a'.tmps) = Region.wanted o (yielded ops a.tmps)) : YG P ops U j0 i o v a' := by
  unfold YG goesAt at *
  rw [he, hw]
  exact h
theorem YG.put {i : Nat} {oi oj : Oper} {v u : Value} {a : Act} (h : YG P ops U j0 i oi v a) (hap : oi.apart ops oj = true) (hsi : ∀ cs b, oi.op ≠ .select cs b) : YG P ops U j0 i oi v (a.put oj.dst u) := by
  obtain ⟨_, _, h3⟩ := Oper.apart_spec hap
  exact h.of_same (execOp_put oi hsi a oj.dst u h3) (wanted_put oi a oj.dst u h3)
theorem YG.unput {j : Nat} {oi oj : Oper} {v u : Value} {a : Act} (h : YG P ops U j0 j oj u (a.put oi.dst v)) (hap : oi.apart ops oj = true) (hsj : ∀ cs b, oj.op ≠ .select cs b) : YG P ops U j0 j oj u a := by
  obtain ⟨h1, _, _⟩ := Oper.apart_spec hap
  exact h.of_same (execOp_put oj hsj a oi.dst v h1).symm (wanted_put oj a oi.dst v h1).symm
def Hd (P : Program) (md : Region.Mode) (ops : Array Oper) (U : Bool → World → Prop) (j0 n : Nat) (L : Array Bool → Act → Prop) : Nat → Array Bool → Act → Prop
  | 0, listed, a => L listed a
  | f + 1, listed, a => Region.ready md ops listed ≠ [] ∧ ∀ i, i ∈ Region.ready md ops listed → i < n ∧ ∃ oi v, ops[i]? = some oi ∧ YG P ops U j0 i oi v a ∧ Hd P md ops U j0 n L f (listed.setIfInBounds i true) (a.put oi.dst v)
end
end Go.Tail
end
section
namespace Go.Tail
open Go
section
variable {P : Program} {ops : Array Oper} {md : Region.Mode} {C : World → Prop} {R : Value → World → Prop} {j0 : Nat} {z : Value}
def YA (P : Program) (ops : Array Oper) (C : World → Prop) (R : Value → World → Prop) (j0 : Nat) (z : Value) (i : Nat) (o : Oper) (v : Value) (a : Act) : Prop :=
  (i ≠ j0 ∧ Region.wanted o (yielded ops a.tmps) = true ∧ (∀ w, C w → (execOp a.eval o).run P w = .ok (.value v) w) ∧ (∀ w, R z w → (execOp a.eval o).run P w = .ok (.value v) w)) ∨
  (i ≠ j0 ∧ Region.wanted o (yielded ops a.tmps) = false ∧ v = undef) ∨
  (i = j0 ∧ v = z ∧ Region.wanted o (yielded ops a.tmps) = true ∧ ∀ w, C w → ∃ f args, (execOp a.eval o).run P w = .ok (.enter f args) w ∧ Calls P f args w fun e w' => ∃ v', e = .returned v' ∧ R v' w')
theorem YA.of_same {i : Nat} {o : Oper} {v : Value} {a a' : Act} (h : YA P ops C R j0 z i o v a) (he : execOp a'.eval o = execOp a.eval o)
    (hw : Region.wanted o (yielded ops a'.tmps) = Region.wanted o (yielded ops a.tmps)) : YA P ops C R j0 z i o v a' := by
  unfold YA at *
  rw [he, hw]
  exact h
theorem YA.put {i : Nat} {oi oj : Oper} {v u : Value} {a : Act} (h : YA P ops C R j0 z i oi v a) (hap : oi.apart ops oj = true) (hsi : ∀ cs b, oi.op ≠ .select cs b) : YA P ops C R j0 z i oi v (a.put oj.dst u) := by
  obtain ⟨_, _, h3⟩ := Oper.apart_spec hap
  exact h.of_same (execOp_put oi hsi a oj.dst u h3) (wanted_put oi a oj.dst u h3)
theorem YA.unput {j : Nat} {oi oj : Oper} {v u : Value} {a : Act} (h : YA P ops C R j0 z j oj u (a.put oi.dst v)) (hap : oi.apart ops oj = true) (hsj : ∀ cs b, oj.op ≠ .select cs b) : YA P ops C R j0 z j oj u a := by
  obtain ⟨h1, _, _⟩ := Oper.apart_spec hap
  exact h.of_same (execOp_put oj hsj a oi.dst v h1).symm (wanted_put oj a oi.dst v h1).symm
def Ha (P : Program) (md : Region.Mode) (ops : Array Oper) (C : World → Prop) (R : Value → World → Prop) (j0 : Nat) (z : Value) (n : Nat) (L : Array Bool → Act → Prop) : Nat → Array Bool → Act → Prop
  | 0, listed, a => L listed a
  | f + 1, listed, a => Region.ready md ops listed ≠ [] ∧ ∀ i, i ∈ Region.ready md ops listed → i < n ∧ ∃ oi v, ops[i]? = some oi ∧ YA P ops C R j0 z i oi v a ∧ Ha P md ops C R j0 z n L f (listed.setIfInBounds i true) (a.put oi.dst v)
theorem set_other {listed : Array Bool} {i : Nat} (h : i ≠ j0) : (listed.setIfInBounds i true).getD j0 false = listed.getD j0 false := getD_set_ne false h
end
end Go.Tail
namespace Go.Tail
open Go
section
variable {P : Program} {ops : Array Oper} {md : Region.Mode} {Q : Exit → Act → World → Prop} {S : World → Prop}
end
end Go.Tail
end
section
namespace Go.Tail
open Go
section
variable {P : Program} {ops : Array Oper} {md : Region.Mode} {isM : Nat → Bool} {kn : Nat → Option Value} {J : (Nat → Bool) → (Nat → Value) → World → Prop}
def ancs (md : Region.Mode) (ops : Array Oper) : Nat → Nat → List Nat
  | 0, _ => []
  | f + 1, j => match ops[j]? with
    | none => []
    | some o => (o.after.toList.filter fun e => Region.binds md e).flatMap fun e => e.on :: ancs md ops f e.on
theorem ancs_listed {listed : Array Bool} (hcl : ∀ j oj, ops[j]? = some oj → listed.getD j false = true → ∀ e ∈ oj.after, Region.binds md e = true → listed.getD e.on false = true) :
    ∀ (f j : Nat), (∀ oj, ops[j]? = some oj → ∀ e ∈ oj.after, Region.binds md e = true → listed.getD e.on false = true) → ∀ k ∈ ancs md ops f j, listed.getD k false = true
  | 0, _, _, k, hk => by cases hk
  | f + 1, j, h, k, hk => by
    unfold ancs at hk
    cases ho : ops[j]? with
    | none => rw [ho] at hk; cases hk
    | some o =>
      rw [ho] at hk
      obtain ⟨e, he, hk⟩ := List.mem_flatMap.1 hk
      rw [List.mem_filter] at he
      have h1 := h o ho e (by simpa using he.1) he.2
      rcases List.mem_cons.1 hk with rfl | hk
      · exact h1
      · exact ancs_listed hcl f e.on (fun oj hj => hcl e.on oj hj h1) k hk
def Dm (isM : Nat → Bool) (listed : Array Bool) : Nat → Bool := fun k => isM k && listed.getD k false
def updB (D : Nat → Bool) (i : Nat) : Nat → Bool := fun k => if k = i then true else D k
def updV (z : Nat → Value) (i : Nat) (v : Value) : Nat → Value := fun k => if k = i then v else z k
def dep (md : Region.Mode) (ops : Array Oper) (isM : Nat → Bool) (i k : Nat) : Bool := isM k && (ancs md ops ops.size i).contains k
def pre (md : Region.Mode) (ops : Array Oper) (isM : Nat → Bool) (k i : Nat) : Bool := isM k && (ancs md ops ops.size k).contains i
def Mv (P : Program) (kn : Nat → Option Value) (J : (Nat → Bool) → (Nat → Value) → World → Prop) (D : Nat → Bool) (z : Nat → Value) (i : Nat) (o : Oper) (a : Act) (w : World) : Prop :=
  (∃ f args, (execOp a.eval o).run P w = .ok (.enter f args) w ∧ Calls P f args w fun e w' => ∃ v, e = .returned v ∧ (∀ c, kn i = some c → v = c) ∧ J (updB D i) (updV z i v) w') ∨
  (∃ v w', (execOp a.eval o).run P w = .ok (.value v) w' ∧ (∀ c, kn i = some c → v = c) ∧ J (updB D i) (updV z i v) w')
def YJ (P : Program) (md : Region.Mode) (ops : Array Oper) (isM : Nat → Bool) (kn : Nat → Option Value) (J : (Nat → Bool) → (Nat → Value) → World → Prop) (z : Nat → Value) (i : Nat) (o : Oper) (v : Value) (a : Act) : Prop :=
  (isM i = false ∧ Region.wanted o (yielded ops a.tmps) = true ∧ ∀ D w, (∀ k, dep md ops isM i k = true → D k = true) → (∀ k, pre md ops isM k i = true → D k = false) → J D z w → (execOp a.eval o).run P w = .ok (.value v) w) ∨
  (isM i = false ∧ Region.wanted o (yielded ops a.tmps) = false ∧ v = undef) ∨
  (isM i = true ∧ Region.wanted o (yielded ops a.tmps) = true ∧ v = (kn i).getD (z i) ∧ ∀ D z' w, D i = false → (∀ k, D k = true → z k = z' k) → (∀ k, dep md ops isM i k = true → D k = true) → (∀ k, pre md ops isM k i = true → D k = false) → J D z' w → Mv P kn J D z' i o a w)
theorem YJ.of_same {z : Nat → Value} {i : Nat} {o : Oper} {v : Value} {a a' : Act} (h : YJ P md ops isM kn J z i o v a) (he : execOp a'.eval o = execOp a.eval o)
    (hw : Region.wanted o (yielded ops a'.tmps) = Region.wanted o (yielded ops a.tmps)) : YJ P md ops isM kn J z i o v a' := by
  unfold YJ Mv at *
  rw [he, hw]
  exact h
theorem YJ.put {z : Nat → Value} {i : Nat} {oi oj : Oper} {v u : Value} {a : Act} (h : YJ P md ops isM kn J z i oi v a) (hap : oi.apart ops oj = true) (hsi : ∀ cs b, oi.op ≠ .select cs b) : YJ P md ops isM kn J z i oi v (a.put oj.dst u) := by
  obtain ⟨_, _, h3⟩ := Oper.apart_spec hap
  exact h.of_same (execOp_put oi hsi a oj.dst u h3) (wanted_put oi a oj.dst u h3)
theorem YJ.unput {z : Nat → Value} {j : Nat} {oi oj : Oper} {v u : Value} {a : Act} (h : YJ P md ops isM kn J z j oj u (a.put oi.dst v)) (hap : oi.apart ops oj = true) (hsj : ∀ cs b, oj.op ≠ .select cs b) : YJ P md ops isM kn J z j oj u a := by
  obtain ⟨h1, _, _⟩ := Oper.apart_spec hap
  exact h.of_same (execOp_put oj hsj a oi.dst v h1).symm (wanted_put oj a oi.dst v h1).symm
def HJ (P : Program) (md : Region.Mode) (ops : Array Oper) (isM : Nat → Bool) (kn : Nat → Option Value) (J : (Nat → Bool) → (Nat → Value) → World → Prop) (z : Nat → Value) (n : Nat) (L : Array Bool → Act → Prop) : Nat → Array Bool → Act → Prop
  | 0, listed, a => L listed a
  | f + 1, listed, a => Region.ready md ops listed ≠ [] ∧ ∀ i, i ∈ Region.ready md ops listed → i < n ∧ ∃ oi v, ops[i]? = some oi ∧ YJ P md ops isM kn J z i oi v a ∧ HJ P md ops isM kn J z n L f (listed.setIfInBounds i true) (a.put oi.dst v)
theorem dm_set {listed : Array Bool} {i : Nat} (hi : listed.getD i true = false) : Dm isM (listed.setIfInBounds i true) = if isM i = true then updB (Dm isM listed) i else Dm isM listed := by
  have hlt : i < listed.size := by
    rcases Nat.lt_or_ge i listed.size with h | h
    · exact h
    · simp [Array.getElem?_eq_none h] at hi
  funext k
  by_cases hm : isM i = true
  · rw [if_pos hm]
    show (isM k && (listed.setIfInBounds i true).getD k false) = if k = i then true else (isM k && listed.getD k false)
    by_cases e : k = i
    · subst e
      rw [if_pos rfl, hm]
      simp [hlt]
    · rw [if_neg e, getD_set_ne false (Ne.symm e)]
  · rw [if_neg hm]
    show (isM k && (listed.setIfInBounds i true).getD k false) = (isM k && listed.getD k false)
    by_cases e : k = i
    · subst e
      have : isM k = false := by simpa using hm
      rw [this, Bool.false_and, Bool.false_and]
    · rw [getD_set_ne false (Ne.symm e)]
theorem any_J {n g : Nat} {L : (Nat → Value) → Array Bool → Act → Prop} {Q : Exit → Act → World → Prop} (hloc : ∀ D z z' w, (∀ k, D k = true → z k = z' k) → J D z w → J D z' w)
    (hL : ∀ z listed a w, J (Dm isM listed) z w → L z listed a → wpAny P md ops Q g listed a w) :
    ∀ (f : Nat) (listed : Array Bool) (a : Act) (w : World) (z : Nat → Value), HeadInv md ops n listed → J (Dm isM listed) z w → (∀ z', (∀ k, Dm isM listed k = true → z k = z' k) → HJ P md ops isM kn J z' n (L z') f listed a) → wpAny P md ops Q (f + g) listed a w := by
  intro f
  induction f with
  | zero => intro listed a w z _ hw h; rw [Nat.zero_add]; exact hL _ _ _ _ hw (h z fun _ _ => rfl)
  | succ f ih =>
    intro listed a w z inv hJ h
    rw [show f + 1 + g = (f + g) + 1 from by omega]
    have h0 := h z (fun _ _ => rfl)
    refine ⟨fun h1 => absurd h1 h0.1, fun i hi => ?_⟩
    obtain ⟨hin, oi, v, hoi, hy, hK⟩ := h0.2 i hi
    have hun := (mem_ready.1 hi).1
    have hset := dm_set (isM := isM) hun
    have hdep : ∀ k, dep md ops isM i k = true → Dm isM listed k = true := fun k hk => by
      unfold dep at hk
      rw [Bool.and_eq_true] at hk
      have hk2 : k ∈ ancs md ops ops.size i := by simpa using hk.2
      unfold Dm
      rw [hk.1, Bool.true_and]
      refine ancs_listed inv.closed _ _ (fun oj hj => ?_) k hk2
      obtain ⟨_, oj', hoj', hall⟩ := mem_ready.1 hi
      have e1 : oj = oj' := Option.some.inj (hj.symm.trans hoj')
      subst e1
      exact hall
    have hpre : ∀ k, pre md ops isM k i = true → Dm isM listed k = false := fun k hk => by
      unfold pre at hk
      rw [Bool.and_eq_true] at hk
      have hk2 : i ∈ ancs md ops ops.size k := by simpa using hk.2
      cases hD : Dm isM listed k with
      | false => rfl
      | true =>
        unfold Dm at hD
        rw [Bool.and_eq_true] at hD
        have := ancs_listed inv.closed _ _ (fun oj hj => inv.closed k oj hj hD.2) i hk2
        rw [getD_both hun] at this
        cases this
    unfold wpOp
    simp only [hoi]
    rcases hy with ⟨hm, hwt, hv⟩ | ⟨hm, hwt, rfl⟩ | ⟨hm, hwt, rfl, hv⟩
    · have hrun := hv _ w hdep hpre hJ
      simp only [hwt, if_true]
      refine .inl ?_
      unfold Oper.wp
      rw [hrun]
      rw [hm, if_neg (by decide)] at hset
      refine ih _ _ _ z (inv.set hi hin) (by rw [hset]; exact hJ) (fun z' hz' => ?_)
      rw [hset] at hz'
      obtain ⟨_, oi', v', hoi', hy', hK'⟩ := (h z' hz').2 i hi
      have eo : oi' = oi := Option.some.inj (hoi'.symm.trans hoi)
      subst eo
      rcases hy' with ⟨_, _, hv'⟩ | ⟨_, hwt', _⟩ | ⟨hm', _⟩
      · have e := (hv' _ w hdep hpre (hloc _ _ _ _ hz' hJ)).symm.trans hrun
        injection e with e1 _
        injection e1 with e1
        rw [← e1]; exact hK'
      · rw [hwt] at hwt'; cases hwt'
      · rw [hm] at hm'; cases hm'
    · simp only [hwt, Bool.false_eq_true, if_false]
      rw [hm, if_neg (by decide)] at hset
      refine ih _ _ _ z (inv.set hi hin) (by rw [hset]; exact hJ) (fun z' hz' => ?_)
      rw [hset] at hz'
      obtain ⟨_, oi', v', hoi', hy', hK'⟩ := (h z' hz').2 i hi
      have eo : oi' = oi := Option.some.inj (hoi'.symm.trans hoi)
      subst eo
      rcases hy' with ⟨_, hwt', _⟩ | ⟨_, _, e1⟩ | ⟨_, hwt', _⟩
      · rw [hwt] at hwt'; cases hwt'
      · rw [← e1]; exact hK'
      · rw [hwt] at hwt'; cases hwt'
    · rw [hm, if_pos rfl] at hset
      simp only [hwt, if_true]
      refine .inl ?_
      have hDi : Dm isM listed i = false := by unfold Dm; rw [getD_both hun, Bool.and_false]
      have next : ∀ v' w', (∀ c, kn i = some c → v' = c) → J (updB (Dm isM listed) i) (updV z i v') w' → wpAny P md ops Q (f + g) (listed.setIfInBounds i true) (a.put oi.dst v') w' := by
        intro v' w' hc hJ'
        refine ih _ _ _ (updV z i v') (inv.set hi hin) (by rw [hset]; exact hJ') (fun z'' hz'' => ?_)
        rw [hset] at hz''
        have hzi : v' = z'' i := by
          have := hz'' i (by simp [updB])
          simpa [updV] using this
        obtain ⟨_, oi', u, hoi', hy', hK'⟩ := (h z'' (fun k hk => by
          have hki : k ≠ i := fun e => by rw [e, hDi] at hk; cases hk
          have := hz'' k (by simp [updB, hk])
          simpa [updV, hki] using this)).2 i hi
        have eo : oi' = oi := Option.some.inj (hoi'.symm.trans hoi)
        subst eo
        rcases hy' with ⟨hm', _⟩ | ⟨hm', _⟩ | ⟨_, _, e1, _⟩
        · rw [hm] at hm'; cases hm'
        · rw [hm] at hm'; cases hm'
        · have e2 : u = v' := by
            rw [e1]
            cases hkn : kn i with
            | none => exact hzi.symm
            | some c => exact (hc c hkn).symm
          rw [← e2]; exact hK'
      rcases hv _ z w hDi (fun _ _ => rfl) hdep hpre hJ with ⟨fn, args, hr, hcalls⟩ | ⟨v', w', hr, hc, hJ'⟩
      · unfold Oper.wp
        rw [hr]
        refine hcalls.mono ?_
        rintro e w'' ⟨v', rfl, hc, hJ'⟩
        exact next v' w'' hc hJ'
      · unfold Oper.wp
        rw [hr]
        exact next v' w' hc hJ'
theorem first_J {z : Nat → Value} {n i : Nat} {oi : Oper} {v : Value} {L : Array Bool → Act → Prop} (hi : ops[i]? = some oi) (hsel : ∀ (j : Nat) (o : Oper) cs b, ops[j]? = some o → o.op ≠ .select cs b)
    (hs : Region.sinkB md ops n = true) (hc : Region.chainB md ops n = true) (hn : n < ops.size) (hin : i < n) (hdone : ∀ listed a, L listed a → ∀ j, j ∈ Region.ready md ops listed → n ≤ j) :
    ∀ (f : Nat) (listed : Array Bool) (a : Act), HeadInv md ops n listed →
      (∀ j oj, ops[j]? = some oj → j ≠ i → listed.getD j true = false → (∀ e ∈ oj.after, Region.binds md e = true → e.on ≠ i) → oi.apart ops oj = true) →
      i ∈ Region.ready md ops listed → YJ P md ops isM kn J z i oi v a →
      HJ P md ops isM kn J z n L f (listed.setIfInBounds i true) (a.put oi.dst v) → HJ P md ops isM kn J z n L (f + 1) listed a := by
  intro f
  induction f with
  | zero =>
    intro listed a inv _ hr hy H
    have hun := (mem_ready.1 hr).1
    refine ⟨fun h => (by rw [h] at hr; cases hr), fun j hj => ?_⟩
    have hjn : j < n := Nat.lt_of_not_le fun h => tail_waits hs hc hn inv _ i rfl hin hun j h hj
    by_cases e : j = i
    · subst e; exact ⟨hjn, oi, v, hi, hy, H⟩
    · have := hdone _ _ H j (ready_mono hj e)
      omega
  | succ f ih =>
    intro listed a inv hfree hr hy H
    have hun := (mem_ready.1 hr).1
    refine ⟨fun h => (by rw [h] at hr; cases hr), fun j hj => ?_⟩
    have hjn : j < n := Nat.lt_of_not_le fun h => tail_waits hs hc hn inv _ i rfl hin hun j h hj
    refine ⟨hjn, ?_⟩
    by_cases e : j = i
    · subst e; exact ⟨oi, v, hi, hy, H⟩
    · obtain ⟨hjun, oj, hoj, hall⟩ := mem_ready.1 hj
      have hnot : ∀ e ∈ oj.after, Region.binds md e = true → e.on ≠ i := fun e' he hb heq => by
        have h1 := hall e' he hb
        rw [heq, getD_both hun] at h1
        cases h1
      have hap := hfree j oj hoj e hjun hnot
      obtain ⟨_, oj', u, hoj', hyj, hKj⟩ := H.2 j (ready_mono hj e)
      have e1 : oj' = oj := Option.some.inj (hoj'.symm.trans hoj)
      subst e1
      have hfree' : ∀ k ok, ops[k]? = some ok → k ≠ i → (listed.setIfInBounds j true).getD k true = false →
          (∀ e ∈ ok.after, Region.binds md e = true → e.on ≠ i) → oi.apart ops ok = true := fun k ok hk hki hun' hno => by
        refine hfree k ok hk hki ?_ hno
        by_cases hjk : j = k
        · subst hjk; exact hjun
        · rw [getD_set_ne true hjk] at hun'; exact hun'
      refine ⟨oj', u, hoj, hyj.unput hap (fun cs b => hsel j oj' cs b hoj), ?_⟩
      refine ih (listed.setIfInBounds j true) _ (inv.set hj hjn) hfree' (ready_mono hr (Ne.symm e)) (hy.put hap (fun cs b => hsel i oi cs b hi)) ?_
      rw [Array.setIfInBounds_comm _ _ e]
      have hcomm := Act.put_comm a v u (Oper.apart_spec hap).2.1
      rw [← hcomm]
      exact hKj
def wpJ (P : Program) (ops : Array Oper) (isM : Nat → Bool) (kn : Nat → Option Value) (J : (Nat → Bool) → (Nat → Value) → World → Prop) (z : Nat → Value) (Lq : Act → Prop) : List Oper → Nat → Act → Prop
  | [], _, a => Lq a
  | o :: rest, k, a => ∃ v, YJ P .any ops isM kn J z k o v a ∧ wpJ P ops isM kn J z Lq rest (k + 1) (a.put o.dst v)
theorem lex_J {z : Nat → Value} {n g : Nat} {Lq : Act → Prop} (hsel : Region.noSelect ops = true) (hs : Region.sinkB .any ops n = true) (hc : Region.chainB .any ops n = true) (hn : n < ops.size) :
    ∀ (l : List Oper) (k : Nat) (listed : Array Bool) (a : Act), (∀ j, j < l.length → l[j]? = ops[k + j]?) → k + l.length = n → HeadInv .any ops n listed → (∀ i, i < k → listed.getD i false = true) →
    Region.lexHead .any ops g l.length k listed = true → wpJ P ops isM kn J z Lq l k a →
    HJ P .any ops isM kn J z n (fun listed' a' => Region.seqB .any ops g n listed' = true ∧ (∀ i, i < n → listed'.getD i false = true) ∧ Lq a') l.length listed a := by
  intro l
  induction l with
  | nil =>
    intro k listed a _ hk _ hdone hB h
    have : k = n := by simpa using hk
    subst this
    exact ⟨by simpa [Region.lexHead] using hB, hdone, h⟩
  | cons o l ih =>
    intro k listed a hl hk inv hdone hB h
    have h0 : ops[k]? = some o := by simpa using (hl 0 (by simp)).symm
    simp only [List.length_cons, Region.lexHead, Bool.and_eq_true] at hB
    obtain ⟨⟨hr, hf⟩, hB'⟩ := hB
    have hkn : k < n := by simp only [List.length_cons] at hk; omega
    have hr' : k ∈ Region.ready .any ops listed := by simpa using hr
    obtain ⟨v, hy, hK⟩ := h
    refine first_J h0 (Region.noSelect_spec hsel) hs hc hn hkn (fun listed' a' hL => seqB_ready hL.1) l.length listed a inv (Region.free_spec h0 hf) hr' hy ?_
    refine ih (k + 1) _ _ (fun j hj => by have := hl (j + 1) (by simp; omega); simpa [Nat.add_assoc, Nat.add_comm 1 j] using this) (by simp only [List.length_cons] at hk; omega) (inv.set hr' hkn) (fun i hi => ?_) hB' hK
    have hks : k < listed.size := by rw [inv.size]; omega
    by_cases e : k = i
    · subst e; simp [hks]
    · rw [getD_set_ne false e]; exact hdone i (by omega)
theorem wp_region_J {id : Nat} {Q : Exit → Act → World → Prop} {a : Act} {w : World} {l : List Oper} (n : Nat) (isM : Nat → Bool) (kn : Nat → Option Value) (J : (Nat → Bool) → (Nat → Value) → World → Prop) (hm : P.follows .mixedOrders = true)
    (hB : Region.lexTailB .any l.toArray n = true) (hM : ∀ k, isM k = true → k < n) (hloc : ∀ D z z' w, (∀ k, D k = true → z k = z' k) → J D z w → J D z' w) (hJ : J (fun _ => false) (fun _ => undef) w.drew)
    (h : ∀ z, wpJ P l.toArray isM kn J z (fun a' => ∀ w', J isM z w' → wpList P l.toArray Q (l.drop n) a' w') (l.take n) 0 a) :
    (Code.region id l.toArray true).wp P Q a w := by
  simp only [Region.lexTailB, Bool.and_eq_true, decide_eq_true_eq] at hB
  obtain ⟨⟨⟨⟨hsel, hn⟩, hs⟩, hc⟩, hlex⟩ := hB
  have hn' : n < l.length := by simpa using hn
  have htl : (l.take n).length = n := by simp; omega
  have inv0 : HeadInv .any l.toArray n (Array.replicate l.toArray.size false) :=
    ⟨by simp, fun j oj _ hl => (by rw [getD_replicate_false] at hl; cases hl), fun t _ ht => getD_in (by simpa using ht) (getD_replicate_false _ _)⟩
  have H := fun z => lex_J (isM := isM) (kn := kn) (J := J) (z := z) (g := l.toArray.size - n) hsel hs hc hn (l.take n) 0 _ a (fun j hj => by
    have hj' : j < n := by rw [htl] at hj; exact hj
    simp [hj']) (by simpa using htl) inv0 (fun i hi => by omega) (by rw [htl]; exact hlex) (h z)
  refine wp_region_any hm ?_
  have hD0 : Dm isM (Array.replicate l.toArray.size false) = fun _ => false := by
    funext k
    unfold Dm
    rw [getD_replicate_false, Bool.and_false]
  have := any_J (n := n) (isM := isM) (kn := kn) (J := J) (Q := Q) (g := l.toArray.size - n) (L := fun z listed' a' => Region.seqB .any l.toArray (l.toArray.size - n) n listed' = true ∧ (∀ i, i < n → listed'.getD i false = true) ∧ ∀ w', J isM z w' → wpList P l.toArray Q (l.drop n) a' w') hloc (fun z listed a' w' hw' hL => by
    have e : l.toArray.size - n = (l.drop n).length := by simp
    rw [e]
    refine wpAny_of_seq (l.drop n) n listed a' w' (fun j => by simp) (by rw [← e]; exact hL.1) (hL.2.2 w' ?_)
    have hDM : Dm isM listed = isM := by
      funext k
      unfold Dm
      cases hk : isM k with
      | false => rfl
      | true => rw [hL.2.1 k (hM k hk)]; rfl
    rwa [hDM] at hw') _ _ a w.drew (fun _ => undef) inv0 (by rw [hD0]; exact hJ) (fun z' _ => H z')
  rw [htl, show n + (l.toArray.size - n) = l.toArray.size from by omega] at this
  exact this
theorem J_pure {z : Nat → Value} {Lq : Act → Prop} {o : Oper} {rest : List Oper} {k : Nat} {a : Act} (hk : isM k = false) (v : Value) (hw : Region.wanted o (yielded ops a.tmps) = true) (h1 : ∀ D w, (∀ k', dep .any ops isM k k' = true → D k' = true) → (∀ k', pre .any ops isM k' k = true → D k' = false) → J D z w → (execOp a.eval o).run P w = .ok (.value v) w) (h : wpJ P ops isM kn J z Lq rest (k + 1) (a.put o.dst v)) :
    wpJ P ops isM kn J z Lq (o :: rest) k a := ⟨v, .inl ⟨hk, hw, h1⟩, h⟩
theorem J_ex {z : Nat → Value} {Lq : Act → Prop} {o : Oper} {rest : List Oper} {k : Nat} {a : Act} (hk : isM k = false) (hw : Region.wanted o (yielded ops a.tmps) = true) (h : ∃ v, (∀ w, (execOp a.eval o).run P w = .ok (.value v) w) ∧ wpJ P ops isM kn J z Lq rest (k + 1) (a.put o.dst v)) :
    wpJ P ops isM kn J z Lq (o :: rest) k a := by
  obtain ⟨v, h1, h2⟩ := h
  exact J_pure hk v hw (fun _ w _ _ _ => h1 w) h2
theorem J_at {z : Nat → Value} {Lq : Act → Prop} {o : Oper} {rest : List Oper} {k : Nat} {a : Act} (hk : isM k = false) (hw : Region.wanted o (yielded ops a.tmps) = true) (h : ∃ v, (∀ D w, (∀ k', dep .any ops isM k k' = true → D k' = true) → (∀ k', pre .any ops isM k' k = true → D k' = false) → J D z w → (execOp a.eval o).run P w = .ok (.value v) w) ∧ wpJ P ops isM kn J z Lq rest (k + 1) (a.put o.dst v)) :
    wpJ P ops isM kn J z Lq (o :: rest) k a := by
  obtain ⟨v, h1, h2⟩ := h
  exact J_pure hk v hw h1 h2
theorem J_skip {z : Nat → Value} {Lq : Act → Prop} {o : Oper} {rest : List Oper} {k : Nat} {a : Act} (hk : isM k = false) (hw : Region.wanted o (yielded ops a.tmps) = false) (h : wpJ P ops isM kn J z Lq rest (k + 1) (a.put o.dst undef)) :
    wpJ P ops isM kn J z Lq (o :: rest) k a := ⟨undef, .inr (.inl ⟨hk, hw, rfl⟩), h⟩
theorem J_load {z : Nat → Value} {Lq : Act → Prop} {o : Oper} {rest : List Oper} {k : Nat} {a : Act} (hk : isM k = false) (hw : Region.wanted o (yielded ops a.tmps) = true) (ty : TypeId) (x : Operand) (ho : o.op = .load ty x) (b off : Nat) (hx : a.eval x = .pointer (some ⟨b, off, none⟩)) (cs : List Value) {d : TypeDesc} (hC : ∀ D w, (∀ k', dep .any ops isM k k' = true → D k' = true) → (∀ k', pre .any ops isM k' k = true → D k' = false) → J D z w → w.rangeAt b off cs)
    (hu : P.underlying ty = some d) (hd : d.isRow = true) (hi : (P.info? ty).map (·.size) = some cs.length) (h : wpJ P ops isM kn J z Lq rest (k + 1) (a.put o.dst (.agg cs.toArray))) : wpJ P ops isM kn J z Lq (o :: rest) k a := by
  refine J_pure hk _ hw (fun D w hD hP hJ => ?_) h
  unfold execOp
  simp only [ho, hx, Instr.loadAt, Instr.sureAddr, Sem.run_bind, Sem.run_pure, Result.andThen_ok, run_loadVar_mid w b off ty cs d (hC D w hD hP hJ) hu hd hi]
theorem J_call {z : Nat → Value} {Lq : Act → Prop} {o : Oper} {rest : List Oper} {k : Nat} {a : Act} (hk : isM k = true) (hw : Region.wanted o (yielded ops a.tmps) = true)
    (h1 : ∃ f args, (∀ w, (execOp a.eval o).run P w = .ok (.enter f args) w) ∧ ∀ D z' w, D k = false → (∀ k', D k' = true → z k' = z' k') → (∀ k', dep .any ops isM k k' = true → D k' = true) → (∀ k', pre .any ops isM k' k = true → D k' = false) → J D z' w → Calls P f args w fun e w' => ∃ v, e = .returned v ∧ (∀ c, kn k = some c → v = c) ∧ J (updB D k) (updV z' k v) w')
    (h : wpJ P ops isM kn J z Lq rest (k + 1) (a.put o.dst ((kn k).getD (z k)))) : wpJ P ops isM kn J z Lq (o :: rest) k a := by
  obtain ⟨f, args, hr, hc⟩ := h1
  exact ⟨_, .inr (.inr ⟨hk, hw, rfl, fun D z' w hD hz hd hp hJ => .inl ⟨f, args, hr w, hc D z' w hD hz hd hp hJ⟩⟩), h⟩
end
end Go.Tail
end
