/- The acts of chapter 15 as they come in. -/
import Derived.Test.YtgjabnpngggcmaaDoorLeaWake
import Derived.Test.YtgjabnpngggcmaaDoorSome
import Derived.Laws.StructEq
namespace Go.Mem
open Go Go.ChangeShapes Go.WideShapes Go.ChangeAt Go.RowKit Gf Lea
/-- an act as it lies in memory -/
structure ActL where
  op : Int
  ix : List UInt8
  sec : List UInt8
  e : Int
  oth : List UInt8
  bs : List UInt8
structure ActLR (W : World) (cs : List Value) (a : ActL) : Prop where
  op : cs[0]? = some (.int .i64 a.op)
  opr : -9223372036854775808 ≤ a.op ∧ a.op ≤ 9223372036854775807
  ix : (cs.drop 1).take 16 = bV a.ix
  ixl : a.ix.length = 16
  l : (cs.drop 17).take 17 = encL (a.sec, a.e)
  secl : a.sec.length = 16
  er : -9223372036854775808 ≤ a.e ∧ a.e ≤ 9223372036854775807
  oth : (cs.drop 34).take 16 = bV a.oth
  othl : a.oth.length = 16
  bs : ∃ v, cs[50]? = some v ∧ Bys W v a.bs
theorem ActLR.below {w w' : World} {cs : List Value} {a : ActL} (hb : Below w.heap.size w w') (h : ActLR w cs a) : ActLR w' cs a :=
  ⟨h.op, h.opr, h.ix, h.ixl, h.l, h.secl, h.er, h.oth, h.othl, by obtain ⟨v, h1, h2⟩ := h.bs; exact ⟨v, h1, h2.below hb⟩⟩
theorem opens_lease {P : Program} {t tk ti : TypeId} {f0 f1 : Field} (ht : P.underlying t = some (.struct #[f0, f1])) {t8 : TypeId} (hk : P.underlying tk = some (.array 16 t8)) (h8 : P.underlying t8 = some (.int .u8)) (c8 : P.cellsOf t8 = 1) (ck : P.cellsOf tk = 16) (hi : P.underlying ti = some (.int .i64)) (ci : P.cellsOf ti = 1)
    (e0 : f0.type = tk) (e1 : f1.type = ti) (o0 : f0.offset = 0) (o1 : f1.offset = 16) (ct : P.cellsOf t = 17) : Opens P t (fun _ cs (s : Sec) => cs = encL s ∧ s.1.length = 16 ∧ -9223372036854775808 ≤ s.2 ∧ s.2 ≤ 9223372036854775807) := fun {_ _ W _ _ _ _ cs x} h => by
  have hl := opens_size ht h
  obtain ⟨k, r0⟩ := opens_field ht h 0 f0 rfl (by rw [e0]; exact opens_key hk h8 c8 ck)
  obtain ⟨z, r1, hr⟩ := opens_field ht h 1 f1 rfl (by rw [e1]; exact opens_i64 hi)
  rw [e0, ck, o0] at r0
  rw [e1, ci, o1] at r1
  rw [ct] at hl
  refine ⟨(k, z), ?_, r0.1, hr⟩
  have h1 : cs = cs.take 16 ++ cs.drop 16 := (List.take_append_drop 16 cs).symm
  have h2 : cs.drop 16 = [.int .i64 z] := by
    rw [← r1, List.take_of_length_le (by rw [List.length_drop]; omega)]
  unfold encL
  rw [h1, h2, ← r0.2]
  simp
theorem opens_actl {P : Program} {t tk tl ti tb t8 : TypeId} {f0 f1 f2 f3 f4 : Field} (ht : P.underlying t = some (.struct #[f0, f1, f2, f3, f4])) (hi : P.underlying ti = some (.int .i64)) (hk : P.underlying tk = some (.array 16 t8)) (h8 : P.underlying t8 = some (.int .u8)) (hb : P.underlying tb = some (.slice t8))
    (hL : Opens P tl (fun _ cs (s : Sec) => cs = encL s ∧ s.1.length = 16 ∧ -9223372036854775808 ≤ s.2 ∧ s.2 ≤ 9223372036854775807))
    (e0 : f0.type = ti) (e1 : f1.type = tk) (e2 : f2.type = tl) (e3 : f3.type = tk) (e4 : f4.type = tb) (o0 : f0.offset = 0) (o1 : f1.offset = 1) (o2 : f2.offset = 17) (o3 : f3.offset = 34) (o4 : f4.offset = 50)
    (ci : P.cellsOf ti = 1) (ck : P.cellsOf tk = 16) (cl : P.cellsOf tl = 17) (cb : P.cellsOf tb = 1) (c8 : P.cellsOf t8 = 1) : Opens P t ActLR := fun {_ _ W _ _ _ _ cs x} h => by
  obtain ⟨z0, r0, b0⟩ := opens_field ht h 0 f0 rfl (by rw [e0]; exact opens_i64 hi)
  obtain ⟨k1, l1, r1⟩ := opens_field ht h 1 f1 rfl (by rw [e1]; exact opens_key hk h8 c8 ck)
  obtain ⟨s2, r2, l2, b2⟩ := opens_field ht h 2 f2 rfl (by rw [e2]; exact hL)
  obtain ⟨k3, l3, r3⟩ := opens_field ht h 3 f3 rfl (by rw [e3]; exact opens_key hk h8 c8 ck)
  obtain ⟨bs, v, r4, hv⟩ := opens_field ht h 4 f4 rfl (by rw [e4]; exact opens_bytes hb h8 c8)
  rw [e0, ci, o0] at r0; rw [e1, ck, o1] at r1; rw [e2, cl, o2] at r2; rw [e3, ck, o3] at r3; rw [e4, cb, o4] at r4
  refine ⟨⟨z0, k1, s2.1, s2.2, k3, bs⟩, ⟨?_, b0, r1, l1, r2, l2, b2, r3, l3, v, ?_, hv⟩⟩
  · have := congrArg (fun l => l[0]?) r0
    simpa [List.getElem?_take, List.getElem?_drop] using this
  · have := congrArg (fun l => l[0]?) r4
    simpa [List.getElem?_take, List.getElem?_drop] using this
theorem ActLR.key_at {W : World} {cs : List Value} {a : ActL} {b o : Nat} (h : ActLR W cs a) (hc : ∀ j v, cs[j]? = some v → W.cell? ⟨b, o + j, none⟩ = some v) : W.rangeAt b (o + 1) (bV a.ix) := fun j v hv => by
  rw [← h.ix, List.getElem?_take] at hv
  split at hv
  · rw [List.getElem?_drop] at hv
    rw [Nat.add_assoc]
    exact hc _ _ hv
  · cases hv
theorem ActLR.lease_at {W : World} {cs : List Value} {a : ActL} {b o : Nat} (h : ActLR W cs a) (hc : ∀ j v, cs[j]? = some v → W.cell? ⟨b, o + j, none⟩ = some v) : W.rangeAt b (o + 17) (encL (a.sec, a.e)) := fun j v hv => by
  rw [← h.l, List.getElem?_take] at hv
  split at hv
  · rw [List.getElem?_drop] at hv
    rw [Nat.add_assoc]
    exact hc _ _ hv
  · cases hv
end Go.Mem
namespace Go.Proofs.YtgjabnpngggcmaaDoor
open Go Go.RowKit Go.Mem Gf
theorem lease_open : Opens Tryd.prog 29 (fun _ cs (s : Lea.Sec) => cs = Lea.encL s ∧ s.1.length = 16 ∧ -9223372036854775808 ≤ s.2 ∧ s.2 ≤ 9223372036854775807) :=
  opens_lease Tryd.underlying29 Tryd.underlying24 Tryd.underlying5 (by kernel_rfl) (by kernel_rfl) Tryd.underlying3 (by kernel_rfl) rfl rfl rfl rfl (by kernel_rfl)
end Go.Proofs.YtgjabnpngggcmaaDoor

namespace Go.Proofs.YtgjabnpngggcmaaDoor
open Go Go.RowKit Go.Mem Gf Lea
theorem drew_two (w : World) (a b : Nat) : (w.drewN a).drewN b = w.drewN (a + b) := by
  unfold World.drewN
  simp [Nat.add_assoc]
theorem part_key (x : Sec) (h : WfL x) (w : World) : (part 24 (encL x).toArray 0).run Tryd.prog w = .ok (.agg (bV x.1).toArray) w := by
  have e1 : (isAgg 24).run Tryd.prog w = .ok true w := by kernel_rfl
  have e2 : (sizeOf 24).run Tryd.prog w = .ok 16 w := by kernel_rfl
  have h1 : (bV x.1).length = 16 := by rw [bV_len]; exact h
  have he : (encL x).toArray.extract 0 16 = (bV x.1).toArray := by
    unfold encL
    apply Array.ext_getElem?
    intro k
    rw [Array.getElem?_extract]
    simp only [List.size_toArray, List.getElem?_toArray, Nat.zero_add, Nat.sub_zero, List.length_append, List.length_singleton]
    by_cases hk : k < 16
    · rw [if_pos (by omega), List.getElem?_append_left (by omega)]
    · rw [if_neg (by omega), List.getElem?_eq_none (by omega)]
  unfold part
  simp only [Sem.run_bind, e1, e2, Result.andThen_ok, if_true, Sem.run_pure, Nat.zero_add, he]
theorem part_end (x : Sec) (h : WfL x) (w : World) : (part 3 (encL x).toArray 16).run Tryd.prog w = .ok (.int .i64 x.2) w := by
  have e1 : (isAgg 3).run Tryd.prog w = .ok false w := by kernel_rfl
  unfold part
  simp only [Sem.run_bind, e1, Result.andThen_ok, leaseEnd h]
  rfl
theorem eq_lease (x y : Sec) (hx : WfL x) (hy : WfL y) (w : World) : (Op.equalIn 10000 29 (.agg (encL x).toArray) (.agg (encL y).toArray)).run Tryd.prog w = .ok (decide (x = y)) w := by
  have hf : (Tryd.prog.fieldsOf 29).toList.map (fun f => (f.name == "_", f.type, f.offset)) = [(false, 24, 0), (false, 3, 16)] := by kernel_rfl
  rw [show 10000 = 9999 + 1 from rfl, run_equalIn_struct w 9999 29 _ _ (by kernel_rfl) (by kernel_rfl)]
  generalize (Tryd.prog.fieldsOf 29).toList = fs at hf
  have hl : fs.length = 2 := by simpa using congrArg List.length hf
  match fs, hl, hf with
  | [f0, f1], _, hf =>
    simp only [List.map_cons, List.map_nil, List.cons.injEq, Prod.mk.injEq, and_true] at hf
    obtain ⟨⟨a0, a1, a2⟩, ⟨b0, b1, b2⟩⟩ := hf
    have n0 : f0.name ≠ "_" := by intro e; rw [e] at a0; cases a0
    have n1 : f1.name ≠ "_" := by intro e; rw [e] at b0; cases b0
    have q1 := run_eq_bytes (P := Tryd.prog) w 9997 16 Tryd.underlying24 (Option.some_get (by kernel_rfl)).symm (by kernel_rfl) (by kernel_rfl) x.1 y.1 hx hy
    have q2 := run_equalIn_int (P := Tryd.prog) w 9998 3 .i64 .i64 x.2 y.2 Tryd.underlying3
    rw [show 9997 + 2 = 9999 from rfl] at q1
    rw [show 9998 + 1 = 9999 from rfl] at q2
    unfold Op.eqFields
    simp only [if_pos n0, a1, a2, Sem.run_bind, part_key x hx, part_key y hy, Result.andThen_ok, q1]
    by_cases c1 : x.1 = y.1
    · simp only [c1, decide_true, Bool.not_true, Bool.false_eq_true, if_false]
      unfold Op.eqFields
      simp only [if_pos n1, b1, b2, Sem.run_bind, part_end x hx, part_end y hy, Result.andThen_ok, q2]
      by_cases c2 : x.2 = y.2
      · have : x = y := Prod.ext c1 c2
        simp [Op.eqFields, this]
      · have : ¬ x = y := fun e => c2 (by rw [e])
        simp [this, c2]
    · have : ¬ x = y := fun e => c1 (by rw [e])
      simp [this, c1]
attribute [local go_sem ↓] Go.wp_at_zero Go.wp_at_succ
theorem load_lease2 (dst : Option Tmp) (x : Operand) (ty : TypeId) (pos : String) (af : Array Edge) (gd : Option (Tmp × Bool)) (a : Act) (W : World) (K : Act → Prop)
    (hp : ptrIs (a.eval x) = true) (ht : HasK 17 W (ptrB (a.eval x)) (ptrO (a.eval x))) :
    Oper.quiet Tryd.prog ⟨dst, .load 29 x, ty, pos, af, gd⟩ a (fun w' => ∃ n, w' = W.drewN n) K = K (a.put dst (.agg (readK 17 W (ptrB (a.eval x)) (ptrO (a.eval x))).toArray)) :=
  quiet_loadK Tryd.underlying29 rfl i17 dst x ty pos af gd a W K hp ht
attribute [local go_sem ↓] load_lease load_lease2
attribute [local go_sem] ptrB_eq ptrO_eq ptrIs_eq aggL_eq aggIs_eq
set_option maxRecDepth 100000 in
set_option maxHeartbeats 1000000 in
theorem same_calls (w : World) (b1 b2 : Nat) (v1 v2 : Value) (l1 l2 : List Sec) (h1 : OwnG encL WfL 17 29 w b1 v1 l1) (h2 : OwnG encL WfL 17 29 w b2 v2 l2) (hl : l1.length ≤ 1000000) (hl2 : l2.length ≤ 1000000) :
    Calls Tryd.prog 8 #[v1, v2] w fun r w' => r = .returned (.bool (decide (l1 = l2))) ∧ ∃ d, w' = w.drewN d := by
  obtain ⟨p1, c1, e1⟩ := h1.slice
  obtain ⟨p2, c2, e2⟩ := h2.slice
  subst e1
  subst e2
  obtain ⟨n, hn⟩ : ∃ n, n = l1.length := ⟨_, rfl⟩
  obtain ⟨m, hm⟩ : ∃ m, m = l2.length := ⟨_, rfl⟩
  have hrow1 : 0 < n → ∃ g, p1 = some ⟨g, 0, none⟩ ∧ RowG encL WfL 17 29 w b1 g n c1 l1 := fun h0 => by
    obtain ⟨g, cap, e, hr⟩ := h1.ex (by omega)
    injection e with ea en ec
    rw [← ec, ← hn] at hr
    exact ⟨g, ea, hr⟩
  have hrow2 : 0 < m → ∃ g, p2 = some ⟨g, 0, none⟩ ∧ RowG encL WfL 17 29 w b2 g m c2 l2 := fun h0 => by
    obtain ⟨g, cap, e, hr⟩ := h2.ex (by omega)
    injection e with ea en ec
    rw [← ec, ← hm] at hr
    exact ⟨g, ea, hr⟩
  rw [← hn] at hl ⊢
  rw [← hm] at hl2 ⊢
  have H := Lib.hid (And.intro hrow1 (And.intro hrow2 (And.intro hn hm)))
  clear h1 h2 hrow1 hrow2 hn hm
  by_cases hnm : n = m
  · subst hnm
    have d0 : ((n : Int) != (n : Int)) = false := by simp
    go_enter Tryd.func8, Tryd.ntmps8
    go_upto_region 4 with fail
    go_loopw [5] (fun vi wr => ∃ i : Nat, i ≤ n ∧ vi = .int .i64 i ∧ Hid (l1.take i = l2.take i ∧ ∃ d, wr = w.drewN d)) (fun vi _ => n - (intOf vi).toNat)
    case atStart => exact ⟨0, Nat.zero_le _, rfl, by simp, 0, rfl⟩
    case round =>
      obtain ⟨i, hi0, rfl, G⟩ := hrel
      by_cases hin : i < n
      · obtain ⟨g1, rfl, hr1⟩ := H.out.1 (by omega)
        obtain ⟨g2, rfl, hr2⟩ := H.out.2.1 (by omega)
        obtain ⟨d, hd⟩ := G.out.2
        have k1 := hr1.drewN d
        have k2 := hr2.drewN d
        rw [← hd] at k1 k2
        have hx : l1[i]? = some (l1[i]'(by have := H.out.2.2.1; omega)) := by simp
        generalize l1[i]'(by have := H.out.2.2.1; omega) = x at hx
        have hy : l2[i]? = some (l2[i]'(by have := H.out.2.2.2; omega)) := by simp
        generalize l2[i]'(by have := H.out.2.2.2; omega) = y at hy
        have wx := k1.wf x (List.mem_of_getElem? hx)
        have wy := k2.wf y (List.mem_of_getElem? hy)
        have rx := k1.read ecL hx
        have ry := k2.read ecL hy
        have t1 : HasK 17 wr g1 (i * 17) := k1.there hin
        have t2 : HasK 17 wr g2 (i * 17) := k2.there hin
        have eq := eq_lease x y wx wy
        have i0 : (0 : Int) ≤ (i : Int) := by omega
        have i1 : (i : Int) < (n : Int) := by omega
        have HX := Lib.hid (And.intro hx (And.intro hy (And.intro G.out.1 hd)))
        clear k1 k2 hx hy hr1 hr2 hd G
        by_cases ce : x = y
        · have d1 : decide (x = y) = true := by simpa using ce
          replace ce := Lib.hid ce
          go_wp2_with fail
          go_quiet (fail)
          go_wp2_with fail
          refine ⟨⟨i + 1, by omega, by simp, ?_, d + nq, ?_⟩, by show n - ((i : Int) + 1).toNat < n - (i : Int).toNat; omega⟩
          · rw [List.take_add_one, List.take_add_one, HX.out.1, HX.out.2.1, HX.out.2.2.1, ce.out]
          · rw [HX.out.2.2.2]; exact drew_two _ _ _
        · have d1 : decide (x = y) = false := by simpa using ce
          replace ce := Lib.hid ce
          have hne : decide (l1 = l2) = false := by
            rw [decide_eq_false_iff_not]
            intro e
            have h1 := HX.out.1
            rw [e, HX.out.2.1] at h1
            exact ce.out (Option.some.inj h1).symm
          have HNE := Lib.hid hne
          clear hne
          go_wp2_with fail
          go_quiet (fail)
          go_wp2_with fail
          go_ret
          rw [HNE.out]
          exact ⟨rfl, d + nq, by rw [HX.out.2.2.2]; exact drew_two _ _ _⟩
      · have he : decide (l1 = l2) = true := by
          rw [decide_eq_true_iff]
          have := G.out.1
          rwa [List.take_of_length_le (by have := H.out.2.2.1; omega), List.take_of_length_le (by have := H.out.2.2.2; omega)] at this
        have HE := Lib.hid he
        clear he
        go_wp2_with fail
        go_ret
        rw [HE.out]
        exact ⟨rfl, G.out.2⟩
  · have d0 : ((n : Int) != (m : Int)) = true := by simp; omega
    have hne : decide (l1 = l2) = false := by
      rw [decide_eq_false_iff_not]
      intro e
      apply hnm
      rw [H.out.2.2.1, H.out.2.2.2, e]
    have HNE := Lib.hid hne
    have HNM := Lib.hid hnm
    clear hne hnm
    go_enter Tryd.func8, Tryd.ntmps8
    go_wp2_with fail
    go_ret
    rw [HNE.out]
    exact ⟨rfl, 0, rfl⟩
end Go.Proofs.YtgjabnpngggcmaaDoor

namespace Go.Proofs.YtgjabnpngggcmaaDoor
open Go Go.RowKit Go.Mem Gf Lea
theorem load_keyS (dst : Option Tmp) (x : Operand) (ty : TypeId) (pos : String) (af : Array Edge) (gd : Option (Tmp × Bool)) (a : Act) (w : World) (K : Act → World → Prop) (Q : Exit → Act → World → Prop)
    (hp : ptrIs (a.eval x) = true) (ht : SomeK 16 w (ptrB (a.eval x)) (ptrO (a.eval x))) :
    Oper.wp Tryd.prog ⟨dst, .load 24 x, ty, pos, af, gd⟩ a w K Q = K (a.put dst (.agg (readK 16 w (ptrB (a.eval x)) (ptrO (a.eval x))).toArray)) w :=
  wp_loadS Tryd.underlying24 rfl i16 dst x ty pos af gd a w K Q hp ht
theorem load_leaseS (dst : Option Tmp) (x : Operand) (ty : TypeId) (pos : String) (af : Array Edge) (gd : Option (Tmp × Bool)) (a : Act) (w : World) (K : Act → World → Prop) (Q : Exit → Act → World → Prop)
    (hp : ptrIs (a.eval x) = true) (ht : SomeK 17 w (ptrB (a.eval x)) (ptrO (a.eval x))) :
    Oper.wp Tryd.prog ⟨dst, .load 29 x, ty, pos, af, gd⟩ a w K Q = K (a.put dst (.agg (readK 17 w (ptrB (a.eval x)) (ptrO (a.eval x))).toArray)) w :=
  wp_loadS Tryd.underlying29 rfl i17 dst x ty pos af gd a w K Q hp ht
theorem quiet_keyS (dst : Option Tmp) (x : Operand) (ty : TypeId) (pos : String) (af : Array Edge) (gd : Option (Tmp × Bool)) (a : Act) (W : World) (K : Act → Prop)
    (hp : ptrIs (a.eval x) = true) (ht : SomeK 16 W (ptrB (a.eval x)) (ptrO (a.eval x))) :
    Oper.quiet Tryd.prog ⟨dst, .load 24 x, ty, pos, af, gd⟩ a (fun w' => ∃ n, w' = W.drewN n) K = K (a.put dst (.agg (readK 16 W (ptrB (a.eval x)) (ptrO (a.eval x))).toArray)) :=
  quiet_loadS Tryd.underlying24 rfl i16 dst x ty pos af gd a W K hp ht
end Go.Proofs.YtgjabnpngggcmaaDoor

namespace Go.Proofs.YtgjabnpngggcmaaDoor
open Go Go.RowKit Go.Mem Gf Lea
structure Env0 (W wr : World) (tb : Nat) (vt : Value) (lt : List Les) : Prop where
  heap : Heap wr tb vt lt
  good : Lea.Good lt
  own : ∀ g, vt.ownBlock = some g → W.heap.size ≤ g
  chg : Chg (fun k => W.heap.size ≤ k) W wr
  tb1 : W.heap.size ≤ tb
section
variable {W wr w' : World} {tb tu : Nat} {vt vu v' : Value} {lt lu l' : List Les}
theorem Env0.new {W w1 : World} {tb : Nat} (h1 : W.heap.size ≤ tb) (h2 : Heap w1 tb (.slice none 0 0) []) (h3 : Below W.heap.size W w1) : Env0 W w1 tb (.slice none 0 0) [] :=
  ⟨h2, Good.nil, (fun g e => by cases e), Chg.of_below h3, h1⟩
theorem Env0.tchg (h : Env0 W wr tb vt lt) (hc : TChg tb vt v' wr w') (hh : Heap w' tb v' l') (hg : Lea.Good l') : Env0 W w' tb v' l' :=
  ⟨hh, hg, fun g e => by
    rcases hc.2 g e with e1 | e1
    · exact h.own g e1
    · exact Nat.le_trans h.chg.size e1, h.chg.mix hc.1 (fun k hk => by
    rcases hk with rfl | hk
    · exact .inl h.tb1
    · exact .inl (h.own _ hk)), h.tb1⟩
theorem Env0.below (h : Env0 W wr tb vt lt) (hb : Below wr.heap.size wr w') : Env0 W w' tb vt lt := ⟨h.heap.below hb, h.good, h.own, h.chg.trans_below hb, h.tb1⟩
theorem Env0.bel (h : Env0 W wr tb vt lt) : Below W.heap.size W wr := h.chg.below (Nat.le_refl _) (fun _ h => h)
theorem Env0.few (h : Env0 W wr tb vt lt) (ix : Key) : (ofL lt ix).length ≤ 12 := by have := h.good.few ix; omega
structure Tw (W wr : World) (tb tu : Nat) (vt vu : Value) (lt lu : List Les) : Prop where
  a : Env0 W wr tb vt lt
  b : Env0 W wr tu vu lu
  ne : tb ≠ tu
  s1 : vt.ownBlock ≠ some tu
  s2 : vu.ownBlock ≠ some tb
  s3 : ∀ g, vt.ownBlock = some g → vu.ownBlock ≠ some g
theorem Tw.swap (h : Tw W wr tb tu vt vu lt lu) : Tw W wr tu tb vu vt lu lt := ⟨h.b, h.a, fun e => h.ne e.symm, h.s2, h.s1, fun g hg e => h.s3 g e hg⟩
theorem Tw.below (h : Tw W wr tb tu vt vu lt lu) (hb : Below wr.heap.size wr w') : Tw W w' tb tu vt vu lt lu := ⟨h.a.below hb, h.b.below hb, h.ne, h.s1, h.s2, h.s3⟩
theorem Tw.left (h : Tw W wr tb tu vt vu lt lu) (hc : TChg tb vt v' wr w') (hh : Heap w' tb v' l') (hg : Lea.Good l') : Tw W w' tb tu v' vu l' lu := by
  have ha := h.a.tchg hc hh hg
  have hu := h.b.heap.tab.cell.lt
  refine ⟨ha, ⟨⟨h.b.heap.tab.chg hc.1 (fun e => ?_) (fun g hg e => ?_), h.b.heap.heap⟩, h.b.good, h.b.own, ha.chg, h.b.tb1⟩, h.ne, fun e => ?_, h.s2, fun g hg e => ?_⟩
  · rcases e with e | e
    · exact h.ne e.symm
    · exact h.s1 e
  · rcases e with rfl | e
    · exact h.s2 hg
    · exact h.s3 _ e hg
  · rcases hc.2 _ e with e1 | e1
    · exact h.s1 e1
    · omega
  · rcases hc.2 g hg with e1 | e1
    · exact h.s3 g e1 e
    · have := h.b.heap.tab.own.lt _ e
      omega
theorem Tw.clone (h : Env0 W wr tb vt lt) (h1 : wr.heap.size ≤ tu) (h2 : ∀ g, vu.ownBlock = some g → wr.heap.size ≤ g) (h3 : Heap w' tu vu lt) (h4 : Below wr.heap.size wr w') : Tw W w' tb tu vt vu lt lt := by
  have ht := h.heap.tab.cell.lt
  have hz := h.chg.size
  refine ⟨h.below h4, ⟨h3, h.good, fun g e => Nat.le_trans hz (h2 g e), h.chg.trans_below h4, by omega⟩, by omega, fun e => ?_, fun e => ?_, fun g hg e => ?_⟩
  · have := h.heap.tab.own.lt _ e; omega
  · have := h2 _ e; omega
  · have := h.heap.tab.own.lt _ hg
    have := h2 _ e
    omega
end
/-! ### what LeaseNext asks -/
theorem next_add {l l' : List Les} {ix sec : Key} {e : Int} {b : Bool} (h : AddR l ix sec e b l') (hl : ∀ x ∈ l, 1 ≤ x.e ∧ x.e ≤ 50) (he : 1 ≤ e ∧ e ≤ 50) : (∀ x ∈ l', 1 ≤ x.e ∧ x.e ≤ 50) ∧ l' ≠ [] := by
  cases h with
  | no h =>
    refine ⟨hl, fun e2 => ?_⟩
    subst e2
    rcases h with h | ⟨_, h⟩
    · exact h ⟨by omega, by omega⟩
    · simp [ofL] at h
  | more k x _ _ hx _ _ hp =>
    have hm := hl x (List.mem_of_getElem? hx)
    refine ⟨fun y hy => ?_, fun e2 => ?_⟩
    · rcases List.mem_or_eq_of_mem_set (hp.mem_iff.1 hy) with hy | rfl
      · exact hl y hy
      · simp only; omega
    · rw [e2] at hp
      have h1 := hp.length_eq
      have h2 := some_lt hx
      rw [List.length_set, List.length_nil] at h1
      omega
  | new _ _ _ _ hp =>
    refine ⟨fun y hy => ?_, fun e2 => ?_⟩
    · rcases List.mem_append.1 (hp.mem_iff.1 hy) with hy | hy
      · exact hl y hy
      · rw [List.mem_singleton.1 hy]; exact he
    · rw [e2] at hp
      have := hp.length_eq
      simp at this
theorem next_none {l l' : List Les} {n : Int} {R : List Key} (h : EndedR l (n - 1) l' R) (hn : ∀ x ∈ l, n ≤ x.e) : R = [] ∧ l'.Perm l := by
  have hl : left l (n - 1) = l := List.filter_eq_self.2 (fun x hx => by have := hn x hx; simp; omega)
  have hp := h.perm
  rw [hl] at hp
  refine ⟨List.eq_nil_iff_forall_not_mem.2 fun k hk => ?_, hp⟩
  obtain ⟨⟨x, hx, _, he⟩, _⟩ := (h.mem k).1 hk
  have := hn x hx
  omega
theorem next_more {l l' : List Les} {n m : Int} {R : List Key} (h : EndedR l n l' R) (hm : NextR l' m true) : n < m := by
  rcases hm with ⟨_, _, h2⟩ | ⟨_, ⟨x, hx, rfl⟩, _⟩
  · cases h2
  · have := List.mem_filter.1 (h.perm.mem_iff.1 hx)
    simpa using this.2
theorem next_all {l l' : List Les} {R : List Key} (h : EndedR l 1048576 l' R) (hg : Lea.Good l) (hl : l ≠ []) : 0 < R.length := by
  obtain ⟨x, hx⟩ := List.exists_mem_of_ne_nil _ hl
  have hm := hg.ends x hx
  have : x.ix ∈ R := (h.mem x.ix).2 ⟨⟨x, hx, rfl, hm.2⟩, fun y hy => by
    have h1 := List.mem_filter.1 (h.perm.mem_iff.1 hy)
    have h2 := hg.ends y h1.1
    have h3 : (1048576 : Int) < y.e := by simpa using h1.2
    have := h2.2
    omega⟩
  exact List.length_pos_iff_exists_mem.2 ⟨_, this⟩
end Go.Proofs.YtgjabnpngggcmaaDoor
