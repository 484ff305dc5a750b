/- Are two rows of leases the same? -/
import Derived.Test.YtgjabnpngggcmaaLeaEnv
import Derived.Laws.StructEq
namespace Go.Proofs.Ytgjabnpngggcmaa
open Go Go.RowKit Go.Mem Gf Lea
theorem drew_two (w : World) (a b : Nat) : (w.drewN a).drewN b = w.drewN (a + b) := by
  unfold World.drewN
  simp [Nat.add_assoc]
theorem part_key (x : Sec) (h : WfL x) (w : World) : (part 26 (encL x).toArray 0).run Try.prog w = .ok (.agg (bV x.1).toArray) w := by
  have e1 : (isAgg 26).run Try.prog w = .ok true w := by kernel_rfl
  have e2 : (sizeOf 26).run Try.prog w = .ok 16 w := by kernel_rfl
  have h1 : (bV x.1).length = 16 := by rw [bV_len]; exact h
  have he : (encL x).toArray.extract 0 16 = (bV x.1).toArray := by
    unfold encL
    apply Array.ext_getElem?
    intro k
    rw [Array.getElem?_extract]
    simp only [List.size_toArray, List.getElem?_toArray, Nat.zero_add, Nat.sub_zero, List.length_append, List.length_singleton]
    by_cases hk : k < 16
    · rw [if_pos (by omega), List.getElem?_append_left (by omega)]
    · rw [if_neg (by omega), List.getElem?_eq_none (by omega)]
  unfold part
  simp only [Sem.run_bind, e1, e2, Result.andThen_ok, if_true, Sem.run_pure, Nat.zero_add, he]
theorem part_end (x : Sec) (h : WfL x) (w : World) : (part 3 (encL x).toArray 16).run Try.prog w = .ok (.int .i64 x.2) w := by
  have e1 : (isAgg 3).run Try.prog w = .ok false w := by kernel_rfl
  unfold part
  simp only [Sem.run_bind, e1, Result.andThen_ok, leaseEnd h]
  rfl
theorem eq_lease (x y : Sec) (hx : WfL x) (hy : WfL y) (w : World) : (Op.equalIn 10000 28 (.agg (encL x).toArray) (.agg (encL y).toArray)).run Try.prog w = .ok (decide (x = y)) w := by
  have hf : (Try.prog.fieldsOf 28).toList.map (fun f => (f.name == "_", f.type, f.offset)) = [(false, 26, 0), (false, 3, 16)] := by kernel_rfl
  rw [show 10000 = 9999 + 1 from rfl, run_equalIn_struct w 9999 28 _ _ (by kernel_rfl) (by kernel_rfl)]
  generalize (Try.prog.fieldsOf 28).toList = fs at hf
  have hl : fs.length = 2 := by simpa using congrArg List.length hf
  match fs, hl, hf with
  | [f0, f1], _, hf =>
    simp only [List.map_cons, List.map_nil, List.cons.injEq, Prod.mk.injEq, and_true] at hf
    obtain ⟨⟨a0, a1, a2⟩, ⟨b0, b1, b2⟩⟩ := hf
    have n0 : f0.name ≠ "_" := by intro e; rw [e] at a0; cases a0
    have n1 : f1.name ≠ "_" := by intro e; rw [e] at b0; cases b0
    have q1 := run_eq_bytes (P := Try.prog) w 9997 16 Try.underlying26 (Option.some_get (by kernel_rfl)).symm (by kernel_rfl) (by kernel_rfl) x.1 y.1 hx hy
    have q2 := run_equalIn_int (P := Try.prog) w 9998 3 .i64 .i64 x.2 y.2 Try.underlying3
    rw [show 9997 + 2 = 9999 from rfl] at q1
    rw [show 9998 + 1 = 9999 from rfl] at q2
    unfold Op.eqFields
    simp only [if_pos n0, a1, a2, Sem.run_bind, part_key x hx, part_key y hy, Result.andThen_ok, q1]
    by_cases c1 : x.1 = y.1
    · simp only [c1, decide_true, Bool.not_true, Bool.false_eq_true, if_false]
      unfold Op.eqFields
      simp only [if_pos n1, b1, b2, Sem.run_bind, part_end x hx, part_end y hy, Result.andThen_ok, q2]
      by_cases c2 : x.2 = y.2
      · have : x = y := Prod.ext c1 c2
        simp [Op.eqFields, this]
      · have : ¬ x = y := fun e => c2 (by rw [e])
        simp [this, c2]
    · have : ¬ x = y := fun e => c1 (by rw [e])
      simp [this, c1]
attribute [local go_sem ↓] Go.wp_at_zero Go.wp_at_succ
theorem load_lease2 (dst : Option Tmp) (x : Operand) (ty : TypeId) (pos : String) (af : Array Edge) (gd : Option (Tmp × Bool)) (a : Act) (W : World) (K : Act → Prop)
    (hp : ptrIs (a.eval x) = true) (ht : HasK 17 W (ptrB (a.eval x)) (ptrO (a.eval x))) :
    Oper.quiet Try.prog ⟨dst, .load 28 x, ty, pos, af, gd⟩ a (fun w' => ∃ n, w' = W.drewN n) K = K (a.put dst (.agg (readK 17 W (ptrB (a.eval x)) (ptrO (a.eval x))).toArray)) :=
  quiet_loadK Try.underlying28 rfl i17 dst x ty pos af gd a W K hp ht
attribute [local go_sem ↓] load_lease load_lease2
attribute [local go_sem] ptrB_eq ptrO_eq ptrIs_eq aggL_eq aggIs_eq
set_option maxRecDepth 100000 in
set_option maxHeartbeats 1000000 in
theorem same_calls (w : World) (b1 b2 : Nat) (v1 v2 : Value) (l1 l2 : List Sec) (h1 : OwnG encL WfL 17 28 w b1 v1 l1) (h2 : OwnG encL WfL 17 28 w b2 v2 l2) (hl : l1.length ≤ 1000000) (hl2 : l2.length ≤ 1000000) :
    Calls Try.prog 12 #[v1, v2] w fun r w' => r = .returned (.bool (decide (l1 = l2))) ∧ ∃ d, w' = w.drewN d := by
  obtain ⟨p1, c1, e1⟩ := h1.slice
  obtain ⟨p2, c2, e2⟩ := h2.slice
  subst e1
  subst e2
  obtain ⟨n, hn⟩ : ∃ n, n = l1.length := ⟨_, rfl⟩
  obtain ⟨m, hm⟩ : ∃ m, m = l2.length := ⟨_, rfl⟩
  have hrow1 : 0 < n → ∃ g, p1 = some ⟨g, 0, none⟩ ∧ RowG encL WfL 17 28 w b1 g n c1 l1 := fun h0 => by
    obtain ⟨g, cap, e, hr⟩ := h1.ex (by omega)
    injection e with ea en ec
    rw [← ec, ← hn] at hr
    exact ⟨g, ea, hr⟩
  have hrow2 : 0 < m → ∃ g, p2 = some ⟨g, 0, none⟩ ∧ RowG encL WfL 17 28 w b2 g m c2 l2 := fun h0 => by
    obtain ⟨g, cap, e, hr⟩ := h2.ex (by omega)
    injection e with ea en ec
    rw [← ec, ← hm] at hr
    exact ⟨g, ea, hr⟩
  rw [← hn] at hl ⊢
  rw [← hm] at hl2 ⊢
  have H := Lib.hid (And.intro hrow1 (And.intro hrow2 (And.intro hn hm)))
  clear h1 h2 hrow1 hrow2 hn hm
  by_cases hnm : n = m
  · subst hnm
    have d0 : ((n : Int) != (n : Int)) = false := by simp
    go_enter Try.func12, Try.ntmps12
    go_upto_region 4 with fail
    go_loopw [5] (fun vi wr => ∃ i : Nat, i ≤ n ∧ vi = .int .i64 i ∧ Hid (l1.take i = l2.take i ∧ ∃ d, wr = w.drewN d)) (fun vi _ => n - (intOf vi).toNat)
    case atStart => exact ⟨0, Nat.zero_le _, rfl, by simp, 0, rfl⟩
    case round =>
      obtain ⟨i, hi0, rfl, G⟩ := hrel
      by_cases hin : i < n
      · obtain ⟨g1, rfl, hr1⟩ := H.out.1 (by omega)
        obtain ⟨g2, rfl, hr2⟩ := H.out.2.1 (by omega)
        obtain ⟨d, hd⟩ := G.out.2
        have k1 := hr1.drewN d
        have k2 := hr2.drewN d
        rw [← hd] at k1 k2
        have hx : l1[i]? = some (l1[i]'(by have := H.out.2.2.1; omega)) := by simp
        generalize l1[i]'(by have := H.out.2.2.1; omega) = x at hx
        have hy : l2[i]? = some (l2[i]'(by have := H.out.2.2.2; omega)) := by simp
        generalize l2[i]'(by have := H.out.2.2.2; omega) = y at hy
        have wx := k1.wf x (List.mem_of_getElem? hx)
        have wy := k2.wf y (List.mem_of_getElem? hy)
        have rx := k1.read ecL hx
        have ry := k2.read ecL hy
        have t1 : HasK 17 wr g1 (i * 17) := k1.there hin
        have t2 : HasK 17 wr g2 (i * 17) := k2.there hin
        have eq := eq_lease x y wx wy
        have i0 : (0 : Int) ≤ (i : Int) := by omega
        have i1 : (i : Int) < (n : Int) := by omega
        have HX := Lib.hid (And.intro hx (And.intro hy (And.intro G.out.1 hd)))
        clear k1 k2 hx hy hr1 hr2 hd G
        by_cases ce : x = y
        · have d1 : decide (x = y) = true := by simpa using ce
          replace ce := Lib.hid ce
          go_wp2_with fail
          go_quiet (fail)
          go_wp2_with fail
          refine ⟨⟨i + 1, by omega, by simp, ?_, d + nq, ?_⟩, by show n - ((i : Int) + 1).toNat < n - (i : Int).toNat; omega⟩
          · rw [List.take_add_one, List.take_add_one, HX.out.1, HX.out.2.1, HX.out.2.2.1, ce.out]
          · rw [HX.out.2.2.2]; exact drew_two _ _ _
        · have d1 : decide (x = y) = false := by simpa using ce
          replace ce := Lib.hid ce
          have hne : decide (l1 = l2) = false := by
            rw [decide_eq_false_iff_not]
            intro e
            have h1 := HX.out.1
            rw [e, HX.out.2.1] at h1
            exact ce.out (Option.some.inj h1).symm
          have HNE := Lib.hid hne
          clear hne
          go_wp2_with fail
          go_quiet (fail)
          go_wp2_with fail
          go_ret
          rw [HNE.out]
          exact ⟨rfl, d + nq, by rw [HX.out.2.2.2]; exact drew_two _ _ _⟩
      · have he : decide (l1 = l2) = true := by
          rw [decide_eq_true_iff]
          have := G.out.1
          rwa [List.take_of_length_le (by have := H.out.2.2.1; omega), List.take_of_length_le (by have := H.out.2.2.2; omega)] at this
        have HE := Lib.hid he
        clear he
        go_wp2_with fail
        go_ret
        rw [HE.out]
        exact ⟨rfl, G.out.2⟩
  · have d0 : ((n : Int) != (m : Int)) = true := by simp; omega
    have hne : decide (l1 = l2) = false := by
      rw [decide_eq_false_iff_not]
      intro e
      apply hnm
      rw [H.out.2.2.1, H.out.2.2.2, e]
    have HNE := Lib.hid hne
    have HNM := Lib.hid hnm
    clear hne hnm
    go_enter Try.func12, Try.ntmps12
    go_wp2_with fail
    go_ret
    rw [HNE.out]
    exact ⟨rfl, 0, rfl⟩
end Go.Proofs.Ytgjabnpngggcmaa
