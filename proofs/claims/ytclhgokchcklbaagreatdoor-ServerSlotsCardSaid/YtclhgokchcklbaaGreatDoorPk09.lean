/- Texts of this proof, packed: TailAny, RegJ, SrvMem, RefMath, Ref01, SrvName, SrvBlobs. -/
import Derived.Test.YtclhgokchcklbaaGreatDoorPk08
import Derived.Deep.MidRow
import Derived.Deep.RegionHeld3
import Derived.Test.YtclhgokchcklbaaGreatDoorPk06
import Derived.Test.YtclhgokchcklbaaGreatDoorPk00
import Derived.Test.YtclhgokchcklbaaGreatDoorPk01
section
namespace Go.Tail
open Go
section
variable {P : Program} {ops : Array Oper} {md : Region.Mode} {C : World → Prop} {R : Value → World → Prop} {j0 : Nat} {z : Value}
def YA (P : Program) (ops : Array Oper) (C : World → Prop) (R : Value → World → Prop) (j0 : Nat) (z : Value) (i : Nat) (o : Oper) (v : Value) (a : Act) : Prop :=
  (i ≠ j0 ∧ Region.wanted o (yielded ops a.tmps) = true ∧ (∀ w, C w → (execOp a.eval o).run P w = .ok (.value v) w) ∧ (∀ w, R z w → (execOp a.eval o).run P w = .ok (.value v) w)) ∨
  (i ≠ j0 ∧ Region.wanted o (yielded ops a.tmps) = false ∧ v = undef) ∨
  (i = j0 ∧ v = z ∧ Region.wanted o (yielded ops a.tmps) = true ∧ ∀ w, C w → ∃ f args, (execOp a.eval o).run P w = .ok (.enter f args) w ∧ Calls P f args w fun e w' => ∃ v', e = .returned v' ∧ R v' w')
theorem YA.of_same {i : Nat} {o : Oper} {v : Value} {a a' : Act} (h : YA P ops C R j0 z i o v a) (he : execOp a'.eval o = execOp a.eval o)
    (hw : Region.wanted o (yielded ops a'.tmps) = Region.wanted o (yielded ops a.tmps)) : YA P ops C R j0 z i o v a' := by
  unfold YA at *
  rw [he, hw]
  exact h
theorem YA.put {i : Nat} {oi oj : Oper} {v u : Value} {a : Act} (h : YA P ops C R j0 z i oi v a) (hap : oi.apart ops oj = true) (hsi : ∀ cs b, oi.op ≠ .select cs b) : YA P ops C R j0 z i oi v (a.put oj.dst u) := by
  obtain ⟨_, _, h3⟩ := Oper.apart_spec hap
  exact h.of_same (execOp_put oi hsi a oj.dst u h3) (wanted_put oi a oj.dst u h3)
theorem YA.unput {j : Nat} {oi oj : Oper} {v u : Value} {a : Act} (h : YA P ops C R j0 z j oj u (a.put oi.dst v)) (hap : oi.apart ops oj = true) (hsj : ∀ cs b, oj.op ≠ .select cs b) : YA P ops C R j0 z j oj u a := by
  obtain ⟨h1, _, _⟩ := Oper.apart_spec hap
  exact h.of_same (execOp_put oj hsj a oi.dst v h1).symm (wanted_put oj a oi.dst v h1).symm
def Ha (P : Program) (md : Region.Mode) (ops : Array Oper) (C : World → Prop) (R : Value → World → Prop) (j0 : Nat) (z : Value) (n : Nat) (L : Array Bool → Act → Prop) : Nat → Array Bool → Act → Prop
  | 0, listed, a => L listed a
  | f + 1, listed, a => Region.ready md ops listed ≠ [] ∧ ∀ i, i ∈ Region.ready md ops listed → i < n ∧ ∃ oi v, ops[i]? = some oi ∧ YA P ops C R j0 z i oi v a ∧ Ha P md ops C R j0 z n L f (listed.setIfInBounds i true) (a.put oi.dst v)
theorem set_other {listed : Array Bool} {i : Nat} (h : i ≠ j0) : (listed.setIfInBounds i true).getD j0 false = listed.getD j0 false := getD_set_ne false h
theorem any_behind {n g : Nat} {L : Value → Array Bool → Act → Prop} {Q : Exit → Act → World → Prop} (hL : ∀ z listed a w, R z w → L z listed a → wpAny P md ops Q g listed a w) :
    ∀ (f : Nat) (listed : Array Bool) (a : Act) (w : World), listed.getD j0 false = true → R z w → Ha P md ops C R j0 z n (L z) f listed a → wpAny P md ops Q (f + g) listed a w := by
  intro f
  induction f with
  | zero => intro listed a w _ hw h; rw [Nat.zero_add]; exact hL _ _ _ _ hw h
  | succ f ih =>
    intro listed a w hd hw h
    rw [show f + 1 + g = (f + g) + 1 from by omega]
    refine ⟨fun h0 => absurd h0 h.1, fun i hi => ?_⟩
    obtain ⟨_, oi, v, hoi, hy, hK⟩ := h.2 i hi
    have hun := (mem_ready.1 hi).1
    have hij : i ≠ j0 := fun e => by
      subst e
      rw [getD_both hun] at hd
      cases hd
    have hset := set_other (listed := listed) hij
    rw [hd] at hset
    unfold wpOp
    simp only [hoi]
    rcases hy with ⟨_, hwt, _, hv⟩ | ⟨_, hwt, rfl⟩ | ⟨e, _⟩
    · simp only [hwt, if_true]
      refine .inl ?_
      unfold Oper.wp
      rw [hv w hw]
      exact ih _ _ _ hset hw hK
    · simp only [hwt, Bool.false_eq_true, if_false]
      exact ih _ _ _ hset hw hK
    · exact absurd e hij
theorem any_ahead {n g : Nat} {L : Value → Array Bool → Act → Prop} {Q : Exit → Act → World → Prop} (hL : ∀ z listed a w, R z w → L z listed a → wpAny P md ops Q g listed a w) (hLj : ∀ z listed a, L z listed a → listed.getD j0 false = true) (hz : ∃ z, ∃ w, R z w) :
    ∀ (f : Nat) (listed : Array Bool) (a : Act) (w : World), listed.getD j0 false = false → C w → (∀ z, (∃ w, R z w) → Ha P md ops C R j0 z n (L z) f listed a) → wpAny P md ops Q (f + g) listed a w := by
  intro f
  obtain ⟨z0, hz0⟩ := hz
  induction f with
  | zero =>
    intro listed a w hd hw h
    have := hLj _ _ _ (h z0 hz0)
    rw [hd] at this
    cases this
  | succ f ih =>
    intro listed a w hd hw h
    rw [show f + 1 + g = (f + g) + 1 from by omega]
    have h0 := h z0 hz0
    refine ⟨fun h1 => absurd h1 h0.1, fun i hi => ?_⟩
    obtain ⟨_, oi, v, hoi, hy, hK⟩ := h0.2 i hi
    have hun := (mem_ready.1 hi).1
    unfold wpOp
    simp only [hoi]
    rcases hy with ⟨hij, hwt, hv, _⟩ | ⟨hij, hwt, rfl⟩ | ⟨rfl, _, hwt, hv⟩
    · have hset := set_other (listed := listed) hij
      rw [hd] at hset
      simp only [hwt, if_true]
      refine .inl ?_
      unfold Oper.wp
      rw [hv w hw]
      refine ih _ _ _ hset hw (fun z hz => ?_)
      obtain ⟨_, oi', v', hoi', hy', hK'⟩ := (h z hz).2 i hi
      have eo : oi' = oi := Option.some.inj (hoi'.symm.trans hoi)
      subst eo
      rcases hy' with ⟨_, _, hv', _⟩ | ⟨_, hwt', _⟩ | ⟨e, _⟩
      · have e := (hv' w hw).symm.trans (hv w hw)
        injection e with e1 _
        injection e1 with e1
        rw [← e1]; exact hK'
      · rw [hwt] at hwt'; cases hwt'
      · exact absurd e hij
    · have hset := set_other (listed := listed) hij
      rw [hd] at hset
      simp only [hwt, Bool.false_eq_true, if_false]
      refine ih _ _ _ hset hw (fun z hz => ?_)
      obtain ⟨_, oi', v', hoi', hy', hK'⟩ := (h z hz).2 i hi
      have eo : oi' = oi := Option.some.inj (hoi'.symm.trans hoi)
      subst eo
      rcases hy' with ⟨_, hwt', _, _⟩ | ⟨_, _, e1⟩ | ⟨e, _⟩
      · rw [hwt] at hwt'; cases hwt'
      · rw [← e1]; exact hK'
      · exact absurd e hij
    · simp only [hwt, if_true]
      refine .inl ?_
      obtain ⟨fn, args, hr, hc⟩ := hv w hw
      unfold Oper.wp
      rw [hr]
      refine hc.mono ?_
      rintro e w'' ⟨v', rfl, hR⟩
      obtain ⟨_, oi', u', hoi', hy', hK'⟩ := (h v' ⟨_, hR⟩).2 i hi
      have eo : oi' = oi := Option.some.inj (hoi'.symm.trans hoi)
      subst eo
      have hlt : i < listed.size := by
        rcases Nat.lt_or_ge i listed.size with h | h
        · exact h
        · simp [Array.getElem?_eq_none h] at hun
      rcases hy' with ⟨e, _⟩ | ⟨e, _⟩ | ⟨_, rfl, _⟩
      · exact absurd rfl e
      · exact absurd rfl e
      · exact any_behind hL _ _ _ _ (by simp [hlt]) hR hK'
theorem any_first {n i : Nat} {oi : Oper} {v : Value} {L : Array Bool → Act → Prop} (hi : ops[i]? = some oi) (hsel : ∀ (j : Nat) (o : Oper) cs b, ops[j]? = some o → o.op ≠ .select cs b)
    (hs : Region.sinkB md ops n = true) (hc : Region.chainB md ops n = true) (hn : n < ops.size) (hin : i < n) (hdone : ∀ listed a, L listed a → ∀ j, j ∈ Region.ready md ops listed → n ≤ j) :
    ∀ (f : Nat) (listed : Array Bool) (a : Act), HeadInv md ops n listed →
      (∀ j oj, ops[j]? = some oj → j ≠ i → listed.getD j true = false → (∀ e ∈ oj.after, Region.binds md e = true → e.on ≠ i) → oi.apart ops oj = true) →
      i ∈ Region.ready md ops listed → YA P ops C R j0 z i oi v a →
      Ha P md ops C R j0 z n L f (listed.setIfInBounds i true) (a.put oi.dst v) → Ha P md ops C R j0 z n L (f + 1) listed a := by
  intro f
  induction f with
  | zero =>
    intro listed a inv _ hr hy H
    have hun := (mem_ready.1 hr).1
    refine ⟨fun h => (by rw [h] at hr; cases hr), fun j hj => ?_⟩
    have hjn : j < n := Nat.lt_of_not_le fun h => tail_waits hs hc hn inv _ i rfl hin hun j h hj
    by_cases e : j = i
    · subst e; exact ⟨hjn, oi, v, hi, hy, H⟩
    · have := hdone _ _ H j (ready_mono hj e)
      omega
  | succ f ih =>
    intro listed a inv hfree hr hy H
    have hun := (mem_ready.1 hr).1
    refine ⟨fun h => (by rw [h] at hr; cases hr), fun j hj => ?_⟩
    have hjn : j < n := Nat.lt_of_not_le fun h => tail_waits hs hc hn inv _ i rfl hin hun j h hj
    refine ⟨hjn, ?_⟩
    by_cases e : j = i
    · subst e; exact ⟨oi, v, hi, hy, H⟩
    · obtain ⟨hjun, oj, hoj, hall⟩ := mem_ready.1 hj
      have hnot : ∀ e ∈ oj.after, Region.binds md e = true → e.on ≠ i := fun e' he hb heq => by
        have h1 := hall e' he hb
        rw [heq, getD_both hun] at h1
        cases h1
      have hap := hfree j oj hoj e hjun hnot
      obtain ⟨_, oj', u, hoj', hyj, hKj⟩ := H.2 j (ready_mono hj e)
      have e1 : oj' = oj := Option.some.inj (hoj'.symm.trans hoj)
      subst e1
      have hfree' : ∀ k ok, ops[k]? = some ok → k ≠ i → (listed.setIfInBounds j true).getD k true = false →
          (∀ e ∈ ok.after, Region.binds md e = true → e.on ≠ i) → oi.apart ops ok = true := fun k ok hk hki hun' hno => by
        refine hfree k ok hk hki ?_ hno
        by_cases hjk : j = k
        · subst hjk; exact hjun
        · rw [getD_set_ne true hjk] at hun'; exact hun'
      refine ⟨oj', u, hoj, hyj.unput hap (fun cs b => hsel j oj' cs b hoj), ?_⟩
      refine ih (listed.setIfInBounds j true) _ (inv.set hj hjn) hfree' (ready_mono hr (Ne.symm e)) (hy.put hap (fun cs b => hsel i oi cs b hi)) ?_
      rw [Array.setIfInBounds_comm _ _ e]
      have hcomm := Act.put_comm a v u (Oper.apart_spec hap).2.1
      rw [← hcomm]
      exact hKj
def wpAg (P : Program) (ops : Array Oper) (C : World → Prop) (R : Value → World → Prop) (j0 : Nat) (z : Value) (Lq : Act → Prop) : List Oper → Nat → Act → Prop
  | [], _, a => Lq a
  | o :: rest, k, a => ∃ v, YA P ops C R j0 z k o v a ∧ wpAg P ops C R j0 z Lq rest (k + 1) (a.put o.dst v)
theorem any_lex {n g : Nat} {Lq : Act → Prop} (hsel : Region.noSelect ops = true) (hs : Region.sinkB md ops n = true) (hc : Region.chainB md ops n = true) (hn : n < ops.size) (hj0 : j0 < n) :
    ∀ (l : List Oper) (k : Nat) (listed : Array Bool) (a : Act), (∀ j, j < l.length → l[j]? = ops[k + j]?) → k + l.length = n → HeadInv md ops n listed → (∀ i, i < k → listed.getD i false = true) →
    Region.lexHead md ops g l.length k listed = true → wpAg P ops C R j0 z Lq l k a →
    Ha P md ops C R j0 z n (fun listed' a' => Region.seqB md ops g n listed' = true ∧ listed'.getD j0 false = true ∧ Lq a') l.length listed a := by
  intro l
  induction l with
  | nil =>
    intro k listed a _ hk _ hdone hB h
    have : k = n := by simpa using hk
    subst this
    exact ⟨by simpa [Region.lexHead] using hB, hdone j0 hj0, h⟩
  | cons o l ih =>
    intro k listed a hl hk inv hdone hB h
    have h0 : ops[k]? = some o := by simpa using (hl 0 (by simp)).symm
    simp only [List.length_cons, Region.lexHead, Bool.and_eq_true] at hB
    obtain ⟨⟨hr, hf⟩, hB'⟩ := hB
    have hkn : k < n := by simp only [List.length_cons] at hk; omega
    have hr' : k ∈ Region.ready md ops listed := by simpa using hr
    obtain ⟨v, hy, hK⟩ := h
    refine any_first h0 (Region.noSelect_spec hsel) hs hc hn hkn (fun listed' a' hL => seqB_ready hL.1) l.length listed a inv (Region.free_spec h0 hf) hr' hy ?_
    refine ih (k + 1) _ _ (fun j hj => by have := hl (j + 1) (by simp; omega); simpa [Nat.add_assoc, Nat.add_comm 1 j] using this) (by simp only [List.length_cons] at hk; omega) (inv.set hr' hkn) (fun i hi => ?_) hB' hK
    have hks : k < listed.size := by rw [inv.size]; omega
    by_cases e : k = i
    · subst e; simp [hks]
    · rw [getD_set_ne false e]; exact hdone i (by omega)
theorem wp_region_any_tail {id : Nat} {Q : Exit → Act → World → Prop} {a : Act} {w : World} {l : List Oper} (n j0 : Nat) (C : World → Prop) (R : Value → World → Prop) (hm : P.follows .mixedOrders = true)
    (hB : Region.lexTailB .any l.toArray n = true) (hj0 : j0 < n) (hC : C w.drew) (hz : ∃ z, ∃ w, R z w) (h : ∀ z, (∃ w, R z w) → wpAg P l.toArray C R j0 z (fun a' => ∀ w', R z w' → wpList P l.toArray Q (l.drop n) a' w') (l.take n) 0 a) :
    (Code.region id l.toArray true).wp P Q a w := by
  simp only [Region.lexTailB, Bool.and_eq_true, decide_eq_true_eq] at hB
  obtain ⟨⟨⟨⟨hsel, hn⟩, hs⟩, hc⟩, hlex⟩ := hB
  have hn' : n < l.length := by simpa using hn
  have htl : (l.take n).length = n := by simp; omega
  have inv0 : HeadInv .any l.toArray n (Array.replicate l.toArray.size false) :=
    ⟨by simp, fun j oj _ hl => (by rw [getD_replicate_false] at hl; cases hl), fun t _ ht => getD_in (by simpa using ht) (getD_replicate_false _ _)⟩
  have H := fun z hz => any_lex (md := .any) (C := C) (R := R) (j0 := j0) (z := z) (g := l.toArray.size - n) hsel hs hc hn hj0 (l.take n) 0 _ a (fun j hj => by
    have hj' : j < n := by rw [htl] at hj; exact hj
    simp [hj']) (by simpa using htl) inv0 (fun i hi => by omega) (by rw [htl]; exact hlex) (h z hz)
  refine wp_region_any hm ?_
  have := any_ahead (C := C) (R := R) (j0 := j0) (Q := Q) (g := l.toArray.size - n) (L := fun z listed' a' => Region.seqB .any l.toArray (l.toArray.size - n) n listed' = true ∧ listed'.getD j0 false = true ∧ ∀ w', R z w' → wpList P l.toArray Q (l.drop n) a' w') (fun z listed a' w' hw' hL => by
    have e : l.toArray.size - n = (l.drop n).length := by simp
    rw [e]
    exact wpAny_of_seq (l.drop n) n listed a' w' (fun j => by simp) (by rw [← e]; exact hL.1) (hL.2.2 w' hw')) (fun z listed a hL => hL.2.1) hz _ _ a w.drew (getD_replicate_false _ _) hC H
  rw [htl, show n + (l.toArray.size - n) = l.toArray.size from by omega] at this
  exact this
theorem any_step {Lq : Act → Prop} {o : Oper} {rest : List Oper} {k : Nat} {a : Act} (hk : k ≠ j0) (v : Value) (hw : Region.wanted o (yielded ops a.tmps) = true) (h1 : ∀ w, C w → (execOp a.eval o).run P w = .ok (.value v) w) (h2 : ∀ w, R z w → (execOp a.eval o).run P w = .ok (.value v) w) (h : wpAg P ops C R j0 z Lq rest (k + 1) (a.put o.dst v)) :
    wpAg P ops C R j0 z Lq (o :: rest) k a := ⟨v, .inl ⟨hk, hw, h1, h2⟩, h⟩
theorem any_call {Lq : Act → Prop} {o : Oper} {rest : List Oper} {a : Act} (hw : Region.wanted o (yielded ops a.tmps) = true)
    (h1 : ∀ w, C w → ∃ f args, (execOp a.eval o).run P w = .ok (.enter f args) w ∧ Calls P f args w fun e w' => ∃ v', e = .returned v' ∧ R v' w') (h : wpAg P ops C R j0 z Lq rest (j0 + 1) (a.put o.dst z)) :
    wpAg P ops C R j0 z Lq (o :: rest) j0 a := ⟨z, .inr (.inr ⟨rfl, rfl, hw, h1⟩), h⟩
theorem any_ex {Lq : Act → Prop} {o : Oper} {rest : List Oper} {k : Nat} {a : Act} (hk : k ≠ j0) (hw : Region.wanted o (yielded ops a.tmps) = true) (h : ∃ v, (∀ w, (execOp a.eval o).run P w = .ok (.value v) w) ∧ wpAg P ops C R j0 z Lq rest (k + 1) (a.put o.dst v)) :
    wpAg P ops C R j0 z Lq (o :: rest) k a := by
  obtain ⟨v, h1, h2⟩ := h
  exact ⟨v, .inl ⟨hk, hw, fun w _ => h1 w, fun w _ => h1 w⟩, h2⟩
theorem any_load {Lq : Act → Prop} {o : Oper} {rest : List Oper} {k : Nat} {a : Act} (hk : k ≠ j0) (hw : Region.wanted o (yielded ops a.tmps) = true) (ty : TypeId) (x : Operand) (ho : o.op = .load ty x) (b off : Nat) (hx : a.eval x = .pointer (some ⟨b, off, none⟩)) (cs : List Value) {d : TypeDesc} (hC : ∀ w, C w → w.rangeAt b off cs) (hR : ∀ w, R z w → w.rangeAt b off cs)
    (hu : P.underlying ty = some d) (hd : d.isRow = true) (hi : (P.info? ty).map (·.size) = some cs.length) (h : wpAg P ops C R j0 z Lq rest (k + 1) (a.put o.dst (.agg cs.toArray))) : wpAg P ops C R j0 z Lq (o :: rest) k a := by
  have hr : ∀ w, w.rangeAt b off cs → (execOp a.eval o).run P w = .ok (.value (.agg cs.toArray)) w := fun w hw' => by
    unfold execOp
    simp only [ho, hx, Instr.loadAt, Instr.sureAddr, Sem.run_bind, Sem.run_pure, Result.andThen_ok, run_loadVar_mid w b off ty cs d hw' hu hd hi]
  exact any_step hk _ hw (fun w h => hr w (hC w h)) (fun w h => hr w (hR w h)) h
end
end Go.Tail
namespace Go.Tail
open Go
section
variable {P : Program} {ops : Array Oper} {md : Region.Mode} {Q : Exit → Act → World → Prop} {S : World → Prop}
end
end Go.Tail
end
section
namespace Go.Tail
open Go
section
variable {P : Program} {ops : Array Oper} {md : Region.Mode} {isM : Nat → Bool} {kn : Nat → Option Value} {J : (Nat → Bool) → (Nat → Value) → World → Prop}
def ancs (md : Region.Mode) (ops : Array Oper) : Nat → Nat → List Nat
  | 0, _ => []
  | f + 1, j => match ops[j]? with
    | none => []
    | some o => (o.after.toList.filter fun e => Region.binds md e).flatMap fun e => e.on :: ancs md ops f e.on
theorem ancs_listed {listed : Array Bool} (hcl : ∀ j oj, ops[j]? = some oj → listed.getD j false = true → ∀ e ∈ oj.after, Region.binds md e = true → listed.getD e.on false = true) :
    ∀ (f j : Nat), (∀ oj, ops[j]? = some oj → ∀ e ∈ oj.after, Region.binds md e = true → listed.getD e.on false = true) → ∀ k ∈ ancs md ops f j, listed.getD k false = true
  | 0, _, _, k, hk => by cases hk
  | f + 1, j, h, k, hk => by
    unfold ancs at hk
    cases ho : ops[j]? with
    | none => rw [ho] at hk; cases hk
    | some o =>
      rw [ho] at hk
      obtain ⟨e, he, hk⟩ := List.mem_flatMap.1 hk
      rw [List.mem_filter] at he
      have h1 := h o ho e (by simpa using he.1) he.2
      rcases List.mem_cons.1 hk with rfl | hk
      · exact h1
      · exact ancs_listed hcl f e.on (fun oj hj => hcl e.on oj hj h1) k hk
def Dm (isM : Nat → Bool) (listed : Array Bool) : Nat → Bool := fun k => isM k && listed.getD k false
def updB (D : Nat → Bool) (i : Nat) : Nat → Bool := fun k => if k = i then true else D k
def updV (z : Nat → Value) (i : Nat) (v : Value) : Nat → Value := fun k => if k = i then v else z k
def dep (md : Region.Mode) (ops : Array Oper) (isM : Nat → Bool) (i k : Nat) : Bool := isM k && (ancs md ops ops.size i).contains k
def pre (md : Region.Mode) (ops : Array Oper) (isM : Nat → Bool) (k i : Nat) : Bool := isM k && (ancs md ops ops.size k).contains i
def Mv (P : Program) (kn : Nat → Option Value) (J : (Nat → Bool) → (Nat → Value) → World → Prop) (D : Nat → Bool) (z : Nat → Value) (i : Nat) (o : Oper) (a : Act) (w : World) : Prop :=
  (∃ f args, (execOp a.eval o).run P w = .ok (.enter f args) w ∧ Calls P f args w fun e w' => ∃ v, e = .returned v ∧ (∀ c, kn i = some c → v = c) ∧ J (updB D i) (updV z i v) w') ∨
  (∃ v w', (execOp a.eval o).run P w = .ok (.value v) w' ∧ (∀ c, kn i = some c → v = c) ∧ J (updB D i) (updV z i v) w') ∨
  (∃ w', (execOp a.eval o).run P w = .ok .skip w' ∧ (∀ c, kn i = some c → undef = c) ∧ J (updB D i) (updV z i undef) w')
def YJ (P : Program) (md : Region.Mode) (ops : Array Oper) (isM : Nat → Bool) (kn : Nat → Option Value) (J : (Nat → Bool) → (Nat → Value) → World → Prop) (z : Nat → Value) (i : Nat) (o : Oper) (v : Value) (a : Act) : Prop :=
  (isM i = false ∧ Region.wanted o (yielded ops a.tmps) = true ∧ ∀ D w, (∀ k, dep md ops isM i k = true → D k = true) → (∀ k, pre md ops isM k i = true → D k = false) → J D z w → (execOp a.eval o).run P w = .ok (.value v) w) ∨
  (isM i = false ∧ Region.wanted o (yielded ops a.tmps) = false ∧ v = undef) ∨
  (isM i = true ∧ Region.wanted o (yielded ops a.tmps) = true ∧ v = (kn i).getD (z i) ∧ ∀ D z' w, D i = false → (∀ k, D k = true → z k = z' k) → (∀ k, dep md ops isM i k = true → D k = true) → (∀ k, pre md ops isM k i = true → D k = false) → J D z' w → Mv P kn J D z' i o a w)
theorem YJ.of_same {z : Nat → Value} {i : Nat} {o : Oper} {v : Value} {a a' : Act} (h : YJ P md ops isM kn J z i o v a) (he : execOp a'.eval o = execOp a.eval o)
    (hw : Region.wanted o (yielded ops a'.tmps) = Region.wanted o (yielded ops a.tmps)) : YJ P md ops isM kn J z i o v a' := by
  unfold YJ Mv at *
  rw [he, hw]
  exact h
theorem YJ.put {z : Nat → Value} {i : Nat} {oi oj : Oper} {v u : Value} {a : Act} (h : YJ P md ops isM kn J z i oi v a) (hap : oi.apart ops oj = true) (hsi : ∀ cs b, oi.op ≠ .select cs b) : YJ P md ops isM kn J z i oi v (a.put oj.dst u) := by
  obtain ⟨_, _, h3⟩ := Oper.apart_spec hap
  exact h.of_same (execOp_put oi hsi a oj.dst u h3) (wanted_put oi a oj.dst u h3)
theorem YJ.unput {z : Nat → Value} {j : Nat} {oi oj : Oper} {v u : Value} {a : Act} (h : YJ P md ops isM kn J z j oj u (a.put oi.dst v)) (hap : oi.apart ops oj = true) (hsj : ∀ cs b, oj.op ≠ .select cs b) : YJ P md ops isM kn J z j oj u a := by
  obtain ⟨h1, _, _⟩ := Oper.apart_spec hap
  exact h.of_same (execOp_put oj hsj a oi.dst v h1).symm (wanted_put oj a oi.dst v h1).symm
def HJ (P : Program) (md : Region.Mode) (ops : Array Oper) (isM : Nat → Bool) (kn : Nat → Option Value) (J : (Nat → Bool) → (Nat → Value) → World → Prop) (z : Nat → Value) (n : Nat) (L : Array Bool → Act → Prop) : Nat → Array Bool → Act → Prop
  | 0, listed, a => L listed a
  | f + 1, listed, a => Region.ready md ops listed ≠ [] ∧ ∀ i, i ∈ Region.ready md ops listed → i < n ∧ ∃ oi v, ops[i]? = some oi ∧ YJ P md ops isM kn J z i oi v a ∧ HJ P md ops isM kn J z n L f (listed.setIfInBounds i true) (a.put oi.dst v)
theorem dm_set {listed : Array Bool} {i : Nat} (hi : listed.getD i true = false) : Dm isM (listed.setIfInBounds i true) = if isM i = true then updB (Dm isM listed) i else Dm isM listed := by
  have hlt : i < listed.size := by
    rcases Nat.lt_or_ge i listed.size with h | h
    · exact h
    · simp [Array.getElem?_eq_none h] at hi
  funext k
  by_cases hm : isM i = true
  · rw [if_pos hm]
    show (isM k && (listed.setIfInBounds i true).getD k false) = if k = i then true else (isM k && listed.getD k false)
    by_cases e : k = i
    · subst e
      rw [if_pos rfl, hm]
      simp [hlt]
    · rw [if_neg e, getD_set_ne false (Ne.symm e)]
  · rw [if_neg hm]
    show (isM k && (listed.setIfInBounds i true).getD k false) = (isM k && listed.getD k false)
    by_cases e : k = i
    · subst e
      have : isM k = false := by simpa using hm
      rw [this, Bool.false_and, Bool.false_and]
    · rw [getD_set_ne false (Ne.symm e)]
theorem any_J {n g : Nat} {L : (Nat → Value) → Array Bool → Act → Prop} {Q : Exit → Act → World → Prop} (hloc : ∀ D z z' w, (∀ k, D k = true → z k = z' k) → J D z w → J D z' w)
    (hL : ∀ z listed a w, J (Dm isM listed) z w → L z listed a → wpAny P md ops Q g listed a w) :
    ∀ (f : Nat) (listed : Array Bool) (a : Act) (w : World) (z : Nat → Value), HeadInv md ops n listed → J (Dm isM listed) z w → (∀ z', (∀ k, Dm isM listed k = true → z k = z' k) → HJ P md ops isM kn J z' n (L z') f listed a) → wpAny P md ops Q (f + g) listed a w := by
  intro f
  induction f with
  | zero => intro listed a w z _ hw h; rw [Nat.zero_add]; exact hL _ _ _ _ hw (h z fun _ _ => rfl)
  | succ f ih =>
    intro listed a w z inv hJ h
    rw [show f + 1 + g = (f + g) + 1 from by omega]
    have h0 := h z (fun _ _ => rfl)
    refine ⟨fun h1 => absurd h1 h0.1, fun i hi => ?_⟩
    obtain ⟨hin, oi, v, hoi, hy, hK⟩ := h0.2 i hi
    have hun := (mem_ready.1 hi).1
    have hset := dm_set (isM := isM) hun
    have hdep : ∀ k, dep md ops isM i k = true → Dm isM listed k = true := fun k hk => by
      unfold dep at hk
      rw [Bool.and_eq_true] at hk
      have hk2 : k ∈ ancs md ops ops.size i := by simpa using hk.2
      unfold Dm
      rw [hk.1, Bool.true_and]
      refine ancs_listed inv.closed _ _ (fun oj hj => ?_) k hk2
      obtain ⟨_, oj', hoj', hall⟩ := mem_ready.1 hi
      have e1 : oj = oj' := Option.some.inj (hj.symm.trans hoj')
      subst e1
      exact hall
    have hpre : ∀ k, pre md ops isM k i = true → Dm isM listed k = false := fun k hk => by
      unfold pre at hk
      rw [Bool.and_eq_true] at hk
      have hk2 : i ∈ ancs md ops ops.size k := by simpa using hk.2
      cases hD : Dm isM listed k with
      | false => rfl
      | true =>
        unfold Dm at hD
        rw [Bool.and_eq_true] at hD
        have := ancs_listed inv.closed _ _ (fun oj hj => inv.closed k oj hj hD.2) i hk2
        rw [getD_both hun] at this
        cases this
    unfold wpOp
    simp only [hoi]
    rcases hy with ⟨hm, hwt, hv⟩ | ⟨hm, hwt, rfl⟩ | ⟨hm, hwt, rfl, hv⟩
    · have hrun := hv _ w hdep hpre hJ
      simp only [hwt, if_true]
      refine .inl ?_
      unfold Oper.wp
      rw [hrun]
      rw [hm, if_neg (by decide)] at hset
      refine ih _ _ _ z (inv.set hi hin) (by rw [hset]; exact hJ) (fun z' hz' => ?_)
      rw [hset] at hz'
      obtain ⟨_, oi', v', hoi', hy', hK'⟩ := (h z' hz').2 i hi
      have eo : oi' = oi := Option.some.inj (hoi'.symm.trans hoi)
      subst eo
      rcases hy' with ⟨_, _, hv'⟩ | ⟨_, hwt', _⟩ | ⟨hm', _⟩
      · have e := (hv' _ w hdep hpre (hloc _ _ _ _ hz' hJ)).symm.trans hrun
        injection e with e1 _
        injection e1 with e1
        rw [← e1]; exact hK'
      · rw [hwt] at hwt'; cases hwt'
      · rw [hm] at hm'; cases hm'
    · simp only [hwt, Bool.false_eq_true, if_false]
      rw [hm, if_neg (by decide)] at hset
      refine ih _ _ _ z (inv.set hi hin) (by rw [hset]; exact hJ) (fun z' hz' => ?_)
      rw [hset] at hz'
      obtain ⟨_, oi', v', hoi', hy', hK'⟩ := (h z' hz').2 i hi
      have eo : oi' = oi := Option.some.inj (hoi'.symm.trans hoi)
      subst eo
      rcases hy' with ⟨_, hwt', _⟩ | ⟨_, _, e1⟩ | ⟨_, hwt', _⟩
      · rw [hwt] at hwt'; cases hwt'
      · rw [← e1]; exact hK'
      · rw [hwt] at hwt'; cases hwt'
    · rw [hm, if_pos rfl] at hset
      simp only [hwt, if_true]
      refine .inl ?_
      have hDi : Dm isM listed i = false := by unfold Dm; rw [getD_both hun, Bool.and_false]
      have next : ∀ v' w', (∀ c, kn i = some c → v' = c) → J (updB (Dm isM listed) i) (updV z i v') w' → wpAny P md ops Q (f + g) (listed.setIfInBounds i true) (a.put oi.dst v') w' := by
        intro v' w' hc hJ'
        refine ih _ _ _ (updV z i v') (inv.set hi hin) (by rw [hset]; exact hJ') (fun z'' hz'' => ?_)
        rw [hset] at hz''
        have hzi : v' = z'' i := by
          have := hz'' i (by simp [updB])
          simpa [updV] using this
        obtain ⟨_, oi', u, hoi', hy', hK'⟩ := (h z'' (fun k hk => by
          have hki : k ≠ i := fun e => by rw [e, hDi] at hk; cases hk
          have := hz'' k (by simp [updB, hk])
          simpa [updV, hki] using this)).2 i hi
        have eo : oi' = oi := Option.some.inj (hoi'.symm.trans hoi)
        subst eo
        rcases hy' with ⟨hm', _⟩ | ⟨hm', _⟩ | ⟨_, _, e1, _⟩
        · rw [hm] at hm'; cases hm'
        · rw [hm] at hm'; cases hm'
        · have e2 : u = v' := by
            rw [e1]
            cases hkn : kn i with
            | none => exact hzi.symm
            | some c => exact (hc c hkn).symm
          rw [← e2]; exact hK'
      rcases hv _ z w hDi (fun _ _ => rfl) hdep hpre hJ with ⟨fn, args, hr, hcalls⟩ | ⟨v', w', hr, hc, hJ'⟩ | ⟨w', hr, hc, hJ'⟩
      · unfold Oper.wp
        rw [hr]
        refine hcalls.mono ?_
        rintro e w'' ⟨v', rfl, hc, hJ'⟩
        exact next v' w'' hc hJ'
      · unfold Oper.wp
        rw [hr]
        exact next v' w' hc hJ'
      · unfold Oper.wp
        rw [hr]
        exact next undef w' hc hJ'
theorem first_J {z : Nat → Value} {n i : Nat} {oi : Oper} {v : Value} {L : Array Bool → Act → Prop} (hi : ops[i]? = some oi) (hsel : ∀ (j : Nat) (o : Oper) cs b, ops[j]? = some o → o.op ≠ .select cs b)
    (hs : Region.sinkB md ops n = true) (hc : Region.chainB md ops n = true) (hn : n < ops.size) (hin : i < n) (hdone : ∀ listed a, L listed a → ∀ j, j ∈ Region.ready md ops listed → n ≤ j) :
    ∀ (f : Nat) (listed : Array Bool) (a : Act), HeadInv md ops n listed →
      (∀ j oj, ops[j]? = some oj → j ≠ i → listed.getD j true = false → (∀ e ∈ oj.after, Region.binds md e = true → e.on ≠ i) → oi.apart ops oj = true) →
      i ∈ Region.ready md ops listed → YJ P md ops isM kn J z i oi v a →
      HJ P md ops isM kn J z n L f (listed.setIfInBounds i true) (a.put oi.dst v) → HJ P md ops isM kn J z n L (f + 1) listed a := by
  intro f
  induction f with
  | zero =>
    intro listed a inv _ hr hy H
    have hun := (mem_ready.1 hr).1
    refine ⟨fun h => (by rw [h] at hr; cases hr), fun j hj => ?_⟩
    have hjn : j < n := Nat.lt_of_not_le fun h => tail_waits hs hc hn inv _ i rfl hin hun j h hj
    by_cases e : j = i
    · subst e; exact ⟨hjn, oi, v, hi, hy, H⟩
    · have := hdone _ _ H j (ready_mono hj e)
      omega
  | succ f ih =>
    intro listed a inv hfree hr hy H
    have hun := (mem_ready.1 hr).1
    refine ⟨fun h => (by rw [h] at hr; cases hr), fun j hj => ?_⟩
    have hjn : j < n := Nat.lt_of_not_le fun h => tail_waits hs hc hn inv _ i rfl hin hun j h hj
    refine ⟨hjn, ?_⟩
    by_cases e : j = i
    · subst e; exact ⟨oi, v, hi, hy, H⟩
    · obtain ⟨hjun, oj, hoj, hall⟩ := mem_ready.1 hj
      have hnot : ∀ e ∈ oj.after, Region.binds md e = true → e.on ≠ i := fun e' he hb heq => by
        have h1 := hall e' he hb
        rw [heq, getD_both hun] at h1
        cases h1
      have hap := hfree j oj hoj e hjun hnot
      obtain ⟨_, oj', u, hoj', hyj, hKj⟩ := H.2 j (ready_mono hj e)
      have e1 : oj' = oj := Option.some.inj (hoj'.symm.trans hoj)
      subst e1
      have hfree' : ∀ k ok, ops[k]? = some ok → k ≠ i → (listed.setIfInBounds j true).getD k true = false →
          (∀ e ∈ ok.after, Region.binds md e = true → e.on ≠ i) → oi.apart ops ok = true := fun k ok hk hki hun' hno => by
        refine hfree k ok hk hki ?_ hno
        by_cases hjk : j = k
        · subst hjk; exact hjun
        · rw [getD_set_ne true hjk] at hun'; exact hun'
      refine ⟨oj', u, hoj, hyj.unput hap (fun cs b => hsel j oj' cs b hoj), ?_⟩
      refine ih (listed.setIfInBounds j true) _ (inv.set hj hjn) hfree' (ready_mono hr (Ne.symm e)) (hy.put hap (fun cs b => hsel i oi cs b hi)) ?_
      rw [Array.setIfInBounds_comm _ _ e]
      have hcomm := Act.put_comm a v u (Oper.apart_spec hap).2.1
      rw [← hcomm]
      exact hKj
def wpJ (P : Program) (ops : Array Oper) (isM : Nat → Bool) (kn : Nat → Option Value) (J : (Nat → Bool) → (Nat → Value) → World → Prop) (z : Nat → Value) (Lq : Act → Prop) : List Oper → Nat → Act → Prop
  | [], _, a => Lq a
  | o :: rest, k, a => ∃ v, YJ P .any ops isM kn J z k o v a ∧ wpJ P ops isM kn J z Lq rest (k + 1) (a.put o.dst v)
theorem lex_J {z : Nat → Value} {n g : Nat} {Lq : Act → Prop} (hsel : Region.noSelect ops = true) (hs : Region.sinkB .any ops n = true) (hc : Region.chainB .any ops n = true) (hn : n < ops.size) :
    ∀ (l : List Oper) (k : Nat) (listed : Array Bool) (a : Act), (∀ j, j < l.length → l[j]? = ops[k + j]?) → k + l.length = n → HeadInv .any ops n listed → (∀ i, i < k → listed.getD i false = true) →
    Region.lexHead .any ops g l.length k listed = true → wpJ P ops isM kn J z Lq l k a →
    HJ P .any ops isM kn J z n (fun listed' a' => Region.seqB .any ops g n listed' = true ∧ (∀ i, i < n → listed'.getD i false = true) ∧ Lq a') l.length listed a := by
  intro l
  induction l with
  | nil =>
    intro k listed a _ hk _ hdone hB h
    have : k = n := by simpa using hk
    subst this
    exact ⟨by simpa [Region.lexHead] using hB, hdone, h⟩
  | cons o l ih =>
    intro k listed a hl hk inv hdone hB h
    have h0 : ops[k]? = some o := by simpa using (hl 0 (by simp)).symm
    simp only [List.length_cons, Region.lexHead, Bool.and_eq_true] at hB
    obtain ⟨⟨hr, hf⟩, hB'⟩ := hB
    have hkn : k < n := by simp only [List.length_cons] at hk; omega
    have hr' : k ∈ Region.ready .any ops listed := by simpa using hr
    obtain ⟨v, hy, hK⟩ := h
    refine first_J h0 (Region.noSelect_spec hsel) hs hc hn hkn (fun listed' a' hL => seqB_ready hL.1) l.length listed a inv (Region.free_spec h0 hf) hr' hy ?_
    refine ih (k + 1) _ _ (fun j hj => by have := hl (j + 1) (by simp; omega); simpa [Nat.add_assoc, Nat.add_comm 1 j] using this) (by simp only [List.length_cons] at hk; omega) (inv.set hr' hkn) (fun i hi => ?_) hB' hK
    have hks : k < listed.size := by rw [inv.size]; omega
    by_cases e : k = i
    · subst e; simp [hks]
    · rw [getD_set_ne false e]; exact hdone i (by omega)
theorem wp_region_J {id : Nat} {Q : Exit → Act → World → Prop} {a : Act} {w : World} {l : List Oper} (n : Nat) (isM : Nat → Bool) (kn : Nat → Option Value) (J : (Nat → Bool) → (Nat → Value) → World → Prop) (hm : P.follows .mixedOrders = true)
    (hB : Region.lexTailB .any l.toArray n = true) (hM : ∀ k, isM k = true → k < n) (hloc : ∀ D z z' w, (∀ k, D k = true → z k = z' k) → J D z w → J D z' w) (hJ : J (fun _ => false) (fun _ => undef) w.drew)
    (h : ∀ z, wpJ P l.toArray isM kn J z (fun a' => ∀ w', J isM z w' → wpList P l.toArray Q (l.drop n) a' w') (l.take n) 0 a) :
    (Code.region id l.toArray true).wp P Q a w := by
  simp only [Region.lexTailB, Bool.and_eq_true, decide_eq_true_eq] at hB
  obtain ⟨⟨⟨⟨hsel, hn⟩, hs⟩, hc⟩, hlex⟩ := hB
  have hn' : n < l.length := by simpa using hn
  have htl : (l.take n).length = n := by simp; omega
  have inv0 : HeadInv .any l.toArray n (Array.replicate l.toArray.size false) :=
    ⟨by simp, fun j oj _ hl => (by rw [getD_replicate_false] at hl; cases hl), fun t _ ht => getD_in (by simpa using ht) (getD_replicate_false _ _)⟩
  have H := fun z => lex_J (isM := isM) (kn := kn) (J := J) (z := z) (g := l.toArray.size - n) hsel hs hc hn (l.take n) 0 _ a (fun j hj => by
    have hj' : j < n := by rw [htl] at hj; exact hj
    simp [hj']) (by simpa using htl) inv0 (fun i hi => by omega) (by rw [htl]; exact hlex) (h z)
  refine wp_region_any hm ?_
  have hD0 : Dm isM (Array.replicate l.toArray.size false) = fun _ => false := by
    funext k
    unfold Dm
    rw [getD_replicate_false, Bool.and_false]
  have := any_J (n := n) (isM := isM) (kn := kn) (J := J) (Q := Q) (g := l.toArray.size - n) (L := fun z listed' a' => Region.seqB .any l.toArray (l.toArray.size - n) n listed' = true ∧ (∀ i, i < n → listed'.getD i false = true) ∧ ∀ w', J isM z w' → wpList P l.toArray Q (l.drop n) a' w') hloc (fun z listed a' w' hw' hL => by
    have e : l.toArray.size - n = (l.drop n).length := by simp
    rw [e]
    refine wpAny_of_seq (l.drop n) n listed a' w' (fun j => by simp) (by rw [← e]; exact hL.1) (hL.2.2 w' ?_)
    have hDM : Dm isM listed = isM := by
      funext k
      unfold Dm
      cases hk : isM k with
      | false => rfl
      | true => rw [hL.2.1 k (hM k hk)]; rfl
    rwa [hDM] at hw') _ _ a w.drew (fun _ => undef) inv0 (by rw [hD0]; exact hJ) (fun z' _ => H z')
  rw [htl, show n + (l.toArray.size - n) = l.toArray.size from by omega] at this
  exact this
theorem J_pure {z : Nat → Value} {Lq : Act → Prop} {o : Oper} {rest : List Oper} {k : Nat} {a : Act} (hk : isM k = false) (v : Value) (hw : Region.wanted o (yielded ops a.tmps) = true) (h1 : ∀ D w, (∀ k', dep .any ops isM k k' = true → D k' = true) → (∀ k', pre .any ops isM k' k = true → D k' = false) → J D z w → (execOp a.eval o).run P w = .ok (.value v) w) (h : wpJ P ops isM kn J z Lq rest (k + 1) (a.put o.dst v)) :
    wpJ P ops isM kn J z Lq (o :: rest) k a := ⟨v, .inl ⟨hk, hw, h1⟩, h⟩
theorem J_ex {z : Nat → Value} {Lq : Act → Prop} {o : Oper} {rest : List Oper} {k : Nat} {a : Act} (hk : isM k = false) (hw : Region.wanted o (yielded ops a.tmps) = true) (h : ∃ v, (∀ w, (execOp a.eval o).run P w = .ok (.value v) w) ∧ wpJ P ops isM kn J z Lq rest (k + 1) (a.put o.dst v)) :
    wpJ P ops isM kn J z Lq (o :: rest) k a := by
  obtain ⟨v, h1, h2⟩ := h
  exact J_pure hk v hw (fun _ w _ _ _ => h1 w) h2
theorem J_at {z : Nat → Value} {Lq : Act → Prop} {o : Oper} {rest : List Oper} {k : Nat} {a : Act} (hk : isM k = false) (hw : Region.wanted o (yielded ops a.tmps) = true) (h : ∃ v, (∀ D w, (∀ k', dep .any ops isM k k' = true → D k' = true) → (∀ k', pre .any ops isM k' k = true → D k' = false) → J D z w → (execOp a.eval o).run P w = .ok (.value v) w) ∧ wpJ P ops isM kn J z Lq rest (k + 1) (a.put o.dst v)) :
    wpJ P ops isM kn J z Lq (o :: rest) k a := by
  obtain ⟨v, h1, h2⟩ := h
  exact J_pure hk v hw h1 h2
theorem J_skip {z : Nat → Value} {Lq : Act → Prop} {o : Oper} {rest : List Oper} {k : Nat} {a : Act} (hk : isM k = false) (hw : Region.wanted o (yielded ops a.tmps) = false) (h : wpJ P ops isM kn J z Lq rest (k + 1) (a.put o.dst undef)) :
    wpJ P ops isM kn J z Lq (o :: rest) k a := ⟨undef, .inr (.inl ⟨hk, hw, rfl⟩), h⟩
theorem J_load {z : Nat → Value} {Lq : Act → Prop} {o : Oper} {rest : List Oper} {k : Nat} {a : Act} (hk : isM k = false) (hw : Region.wanted o (yielded ops a.tmps) = true) (ty : TypeId) (x : Operand) (ho : o.op = .load ty x) (b off : Nat) (hx : a.eval x = .pointer (some ⟨b, off, none⟩)) (cs : List Value) {d : TypeDesc} (hC : ∀ D w, (∀ k', dep .any ops isM k k' = true → D k' = true) → (∀ k', pre .any ops isM k' k = true → D k' = false) → J D z w → w.rangeAt b off cs)
    (hu : P.underlying ty = some d) (hd : d.isRow = true) (hi : (P.info? ty).map (·.size) = some cs.length) (h : wpJ P ops isM kn J z Lq rest (k + 1) (a.put o.dst (.agg cs.toArray))) : wpJ P ops isM kn J z Lq (o :: rest) k a := by
  refine J_pure hk _ hw (fun D w hD hP hJ => ?_) h
  unfold execOp
  simp only [ho, hx, Instr.loadAt, Instr.sureAddr, Sem.run_bind, Sem.run_pure, Result.andThen_ok, run_loadVar_mid w b off ty cs d (hC D w hD hP hJ) hu hd hi]
theorem J_call {z : Nat → Value} {Lq : Act → Prop} {o : Oper} {rest : List Oper} {k : Nat} {a : Act} (hk : isM k = true) (hw : Region.wanted o (yielded ops a.tmps) = true)
    (h1 : ∃ f args, (∀ w, (execOp a.eval o).run P w = .ok (.enter f args) w) ∧ ∀ D z' w, D k = false → (∀ k', D k' = true → z k' = z' k') → (∀ k', dep .any ops isM k k' = true → D k' = true) → (∀ k', pre .any ops isM k' k = true → D k' = false) → J D z' w → Calls P f args w fun e w' => ∃ v, e = .returned v ∧ (∀ c, kn k = some c → v = c) ∧ J (updB D k) (updV z' k v) w')
    (h : wpJ P ops isM kn J z Lq rest (k + 1) (a.put o.dst ((kn k).getD (z k)))) : wpJ P ops isM kn J z Lq (o :: rest) k a := by
  obtain ⟨f, args, hr, hc⟩ := h1
  exact ⟨_, .inr (.inr ⟨hk, hw, rfl, fun D z' w hD hz hd hp hJ => .inl ⟨f, args, hr w, hc D z' w hD hz hd hp hJ⟩⟩), h⟩
theorem J_sto {z : Nat → Value} {Lq : Act → Prop} {o : Oper} {rest : List Oper} {k : Nat} {a : Act} (hk : isM k = true) (hw : Region.wanted o (yielded ops a.tmps) = true)
    (h1 : ∀ D z' w, D k = false → (∀ k', D k' = true → z k' = z' k') → (∀ k', dep .any ops isM k k' = true → D k' = true) → (∀ k', pre .any ops isM k' k = true → D k' = false) → J D z' w → ∃ w', (execOp a.eval o).run P w = .ok .skip w' ∧ (∀ c, kn k = some c → undef = c) ∧ J (updB D k) (updV z' k undef) w')
    (h : wpJ P ops isM kn J z Lq rest (k + 1) (a.put o.dst ((kn k).getD (z k)))) : wpJ P ops isM kn J z Lq (o :: rest) k a :=
  ⟨_, .inr (.inr ⟨hk, hw, rfl, fun D z' w hD hz hd hp hJ => .inr (.inr (h1 D z' w hD hz hd hp hJ))⟩), h⟩
end
end Go.Tail
end
section
namespace Go.Mem
open Go Go.RowKit Gf Lea
structure SrvS where
  slots : Nat
  room : Nat
  st : St
  tab : List Les
  broken : Bool
def SrvS.dead (s : SrvS) : Bool := s.broken || (s.st.disk.dead || s.st.dead)
def shareN (ix : Key) (n : Nat) : ByteArray := ⟨(115 :: (ix ++ [UInt8.ofNat n])).toArray⟩
def slotN (ix : Key) : ByteArray := ⟨(99 :: ix).toArray⟩
def leaseN (ix : Key) : ByteArray := ⟨(108 :: ix).toArray⟩
end Go.Mem
namespace Go.Proofs.YtclhgokchcklbaaGreatDoor
open Go Go.RowKit Go.Mem Gf Lea
def Core (pb sb lb d L tb : Nat) (v : Value) (b : Nat) : Prop := Foot sb lb d L b ∨ b = pb ∨ b = tb ∨ v.ownBlock = some b
def srvV (slots room d sb tb : Nat) (broken : Bool) : Array Value := #[.int .i64 slots, .int .i64 room, .pointer (some ⟨d, 0, none⟩), .pointer (some ⟨sb, 0, none⟩), .pointer (some ⟨tb, 0, none⟩), .bool broken]
structure SrvAt (w : World) (C X : Nat → Prop) (pb sb lb d L tb : Nat) (v : Value) (s : SrvS) : Prop where
  blk : Blk w pb (srvV s.slots s.room d sb tb s.broken) 79
  st : IsStore w (fun b => C b ∨ X b) sb lb d L s.st
  heap : Heap w tb v s.tab
  good : Lea.Good s.tab
  core : ∀ b, Core pb sb lb d L tb v b → C b
  xc : ∀ b, X b → ¬ C b
  npb : ¬ Foot sb lb d L pb
  ntb : ¬ Foot sb lb d L tb ∧ tb ≠ pb
  nown : ∀ g, v.ownBlock = some g → ¬ Foot sb lb d L g ∧ g ≠ pb
def IsSrv (w : World) (C X : Nat → Prop) (pb : Nat) (s : SrvS) : Prop := ∃ sb lb d L tb v, SrvAt w C X pb sb lb d L tb v s
section
variable {w w' : World} {C X S : Nat → Prop} {pb sb lb d L tb : Nat} {v : Value} {s : SrvS}
theorem SrvAt.lt (h : SrvAt w C X pb sb lb d L tb v s) {b : Nat} (hb : C b ∨ X b) : b < w.heap.size := h.st.old b hb
theorem SrvAt.pb_lt (h : SrvAt w C X pb sb lb d L tb v s) : pb < w.heap.size := h.blk.lt
theorem SrvAt.tab (h : SrvAt w C X pb sb lb d L tb v s) : Tab w := h.st.tab
theorem SrvAt.chg (h : SrvAt w C X pb sb lb d L tb v s) (hc : Chg S w w') (h1 : ∀ b, S b → ¬ C b) (h2 : ∀ b, S b → b < w.heap.size → X b) : SrvAt w' C X pb sb lb d L tb v s := by
  have hk : ∀ b, Core pb sb lb d L tb v b → ¬ S b := fun b hb hS => h1 b hS (h.core b hb)
  exact ⟨hc.blk h.blk (hk _ (.inr (.inl rfl))), h.st.chg hc (fun b hb => hk b (.inl hb)) (fun b hS hlt => .inr (h2 b hS hlt)), ⟨h.heap.tab.chg hc (hk _ (.inr (.inr (.inl rfl)))) (fun g hg => hk g (.inr (.inr (.inr hg)))), h.heap.heap⟩, h.good, h.core, h.xc, h.npb, h.ntb, h.nown⟩
theorem SrvAt.below (h : SrvAt w C X pb sb lb d L tb v s) (hb : Below w.heap.size w w') : SrvAt w' C X pb sb lb d L tb v s :=
  h.chg (S := fun _ => False) (Chg.of_below hb) (fun _ h => h.elim) (fun _ h => h.elim)
theorem IsSrv.below (h : IsSrv w C X pb s) (hb : Below w.heap.size w w') : IsSrv w' C X pb s := by
  obtain ⟨sb, lb, d, L, tb, v, h⟩ := h
  exact ⟨sb, lb, d, L, tb, v, h.below hb⟩
theorem IsSrv.chg (h : IsSrv w C X pb s) (hc : Chg S w w') (h1 : ∀ b, S b → ¬ C b) (h2 : ∀ b, S b → b < w.heap.size → X b) : IsSrv w' C X pb s := by
  obtain ⟨sb, lb, d, L, tb, v, h⟩ := h
  exact ⟨sb, lb, d, L, tb, v, h.chg hc h1 h2⟩
theorem IsSrv.lt (h : IsSrv w C X pb s) {b : Nat} (hb : C b ∨ X b) : b < w.heap.size := by
  obtain ⟨sb, lb, d, L, tb, v, h⟩ := h
  exact h.lt hb
theorem IsSrv.tab (h : IsSrv w C X pb s) : Tab w := by
  obtain ⟨sb, lb, d, L, tb, v, h⟩ := h
  exact h.tab
theorem IsSrv.growX {X' : Nat → Prop} (h : IsSrv w C X pb s) (h1 : ∀ b, X b → X' b) (h2 : ∀ b, X' b → X b ∨ w.heap.size ≤ b) (hb : Below w.heap.size w w') (h3 : ∀ b, X' b → b < w'.heap.size) : IsSrv w' C X' pb s := by
  obtain ⟨sb, lb, d, L, tb, v, h⟩ := h
  have h' := h.below hb
  have hs := hb.size
  refine ⟨sb, lb, d, L, tb, v, h'.blk, h.st.grow (S := fun _ => False) (Chg.of_below hb) (fun _ _ h => h) (fun _ h => h.elim) (fun b hM => ?_) (fun b hN => ?_) (fun b hM => ?_), h'.heap, h'.good, h'.core, fun b hX hC => ?_, h'.npb, h'.ntb, h'.nown⟩
  · rcases hM with hM | hM
    · exact .inl (.inl hM)
    · rcases h2 b hM with h | h
      · exact .inl (.inr h)
      · exact .inr h
  · rcases hN with hN | hN
    · exact .inl hN
    · exact .inr (h1 b hN)
  · rcases hM with hM | hM
    · exact Nat.lt_of_lt_of_le (h.lt (.inl hM)) hs
    · exact h3 b hM
  · rcases h2 b hX with h4 | h4
    · exact h.xc b h4 hC
    · have := h.lt (.inl hC); omega
def SChg (C C' : Nat → Prop) (w w' : World) : Prop := Chg C w w' ∧ ∀ b, C' b → C b ∨ w.heap.size ≤ b
theorem SChg.of_below (hb : Below w.heap.size w w') : SChg C C w w' := ⟨Chg.of_below hb, fun _ h => .inl h⟩
theorem SChg.trans {C1 C2 : Nat → Prop} {w1 w2 : World} (h : SChg C C1 w w1) (h' : SChg C1 C2 w1 w2) : SChg C C2 w w2 :=
  ⟨h.1.mix h'.1 (fun b hb => h.2 b hb), fun b hb => by
    rcases h'.2 b hb with h1 | h1
    · exact h.2 b h1
    · exact .inr (Nat.le_trans h.1.size h1)⟩
theorem SChg.pre {C' : Nat → Prop} {w1 : World} (hb : Below w.heap.size w w1) (h' : SChg C C' w1 w') : SChg C C' w w' := (SChg.of_below hb).trans h'
theorem SChg.post {C' : Nat → Prop} {w1 : World} (h : SChg C C' w w1) (hb : Below w1.heap.size w1 w') : SChg C C' w w' := h.trans (SChg.of_below hb)
end
attribute [local go_sem ↓] Go.wp_at_zero Go.wp_at_succ
set_option maxRecDepth 100000 in
theorem sdead_calls (N : Nat → Prop) (sb lb d L : Nat) (s : St) (w : World) (h : IsStore w N sb lb d L s) :
    Calls Tryz.prog 32 #[.pointer (some ⟨sb, 0, none⟩)] w fun e w' => e = .returned (.bool s.dead) ∧ w = w' := by
  obtain ⟨lc, hS, hlc1, hlc2⟩ := h.blk
  have c3 : w.cell? ⟨sb, 3, none⟩ = some (.bool s.dead) := hS.cell 3
  clear h hS
  go_enter Tryz.func32, Tryz.ntmps32
  go_wp2
  go_ret
  exact ⟨rfl, rfl⟩
set_option maxRecDepth 100000 in
theorem srvdead_calls (C X : Nat → Prop) (pb : Nat) (s : SrvS) (w : World) (h : IsSrv w C X pb s) :
    Calls Tryz.prog 13 #[.pointer (some ⟨pb, 0, none⟩)] w fun e w' => e = .returned (.bool s.dead) ∧ w = w' := by
  obtain ⟨sb, lb, d, L, tb, v, h⟩ := h
  have c5 : w.cell? ⟨pb, 5, none⟩ = some (.bool s.broken) := h.blk.cell 5
  have c2 : w.cell? ⟨pb, 2, none⟩ = some (.pointer (some ⟨d, 0, none⟩)) := h.blk.cell 2
  have c3 : w.cell? ⟨pb, 3, none⟩ = some (.pointer (some ⟨sb, 0, none⟩)) := h.blk.cell 3
  have H := Lib.hid h
  clear h
  cases hbr : s.broken with
  | true =>
    have HD := Lib.hid (show s.dead = true from by unfold SrvS.dead; rw [hbr]; rfl)
    rw [hbr] at c5
    clear hbr
    go_enter Tryz.func13, Tryz.ntmps13
    go_wp2
    go_ret
    exact ⟨by rw [HD.out]; rfl, rfl⟩
  | false =>
    have HD := Lib.hid (show s.dead = (s.st.disk.dead || s.st.dead) from by unfold SrvS.dead; rw [hbr]; rfl)
    rw [hbr] at c5
    clear hbr
    go_enter Tryz.func13, Tryz.ntmps13
    go_wp2_with fail
    refine (ddead_calls d L s.st.disk w H.out.st.disk).mono ?_
    rintro e w1 ⟨rfl, rfl⟩
    cases hdd : s.st.disk.dead with
    | true =>
      rw [hdd] at HD
      clear hdd
      go_wp2
      go_ret
      exact ⟨by rw [HD.out]; rfl, rfl⟩
    | false =>
      rw [hdd] at HD
      clear hdd
      go_wp2_with fail
      refine (sdead_calls _ sb lb d L s.st w H.out.st).mono ?_
      rintro e w1 ⟨rfl, rfl⟩
      obtain ⟨b, hb⟩ : ∃ b, b = s.st.dead := ⟨_, rfl⟩
      rw [← hb] at HD ⊢
      clear hb
      cases b
      all_goals
        go_wp2
        go_ret
        exact ⟨by rw [HD.out]; rfl, rfl⟩
set_option maxRecDepth 100000 in
theorem fails_calls (n : Int) (w : World) : Calls Tryz.prog 33 #[.int .i64 n] w fun e w' => e = .returned (.agg #[.int .i64 n, .slice none 0 0]) ∧ Below w.heap.size w w' := by
  go_enter Tryz.func33, Tryz.ntmps33
  go_wp2_with fail
  exact bodyPost_ret (v := .agg #[.int .i64 n, .slice none 0 0]) (by simp [results, Tryz.results33, go_sem]) rfl ⟨rfl, (Below.refl _ _).alloc (Nat.le_refl _) _⟩
set_option maxRecDepth 100000 in
theorem time_calls (e : Int) (w : World) : Calls Tryz.prog 122 #[.int .i64 e] w fun r w' => r = .returned (.bool (decide (May e))) ∧ w = w' := by
  by_cases h1 : 1 ≤ e
  · by_cases h2 : e ≤ 1048576
    · have HD := Lib.hid (show decide (May e) = true from by simp [May, h1, h2])
      go_enter Tryz.func122, Tryz.ntmps122
      go_wp2
      go_ret
      exact ⟨by rw [HD.out]; rfl, rfl⟩
    · have HD := Lib.hid (show decide (May e) = false from by simp [May, h1, h2])
      go_enter Tryz.func122, Tryz.ntmps122
      go_wp2
      go_ret
      exact ⟨by rw [HD.out]; rfl, rfl⟩
  · have HD := Lib.hid (show decide (May e) = false from by simp [May, h1])
    go_enter Tryz.func122, Tryz.ntmps122
    go_wp2
    go_ret
    exact ⟨by rw [HD.out]; rfl, rfl⟩
end Go.Proofs.YtclhgokchcklbaaGreatDoor
end
section
namespace Cod
open Go.Lib
end Cod
end
section
namespace Go.Proofs.YtclhgokchcklbaaGreatDoor
open Go Go.RowKit Go.Mem Gf
attribute [local go_sem ↓] Go.wp_at_zero Go.wp_at_succ
set_option maxRecDepth 20000 in
set_option maxHeartbeats 1000000 in
theorem rput_calls (n : Nat) (m : Nat) (hn : n ≤ 9223372036854775807) (h1 : 1 ≤ m) (hm : m ≤ 8) (w : World) :
    Calls Tryz.prog 36 #[.int .i64 n, .int .i64 m] w fun e w' => ∃ v, e = .returned v ∧ OwnF 5 w' w.heap.size v (Cod.be m n) ∧ Below w.heap.size w w' := by
  have hmk : ∀ w, (Instr.makeSlice 38 (.int .i64 (m : Int)) (.int .i64 (m : Int))).run Tryz.prog w = .ok (.slice (some ⟨w.heap.size, 0, none⟩) m m) (w.alloc (.cells (rowArr m fun _ => 0) 5)) := fun w => by
    have := make_bytes (P := Tryz.prog) 38 5 Tryz.underlying38 E8k m (by omega) w
    rw [rowArr_zero] at this
    exact this
  have hmx : min (m : Int) 8 = m := by omega
  have n0 : decide ((n : Int) < 0) = false := by simp
  have hB0 : Blk (w.alloc (.cells (rowArr m fun _ => 0) 5)) w.heap.size (rowArr m fun _ => 0) 5 := Blk.new _ _ _
  go_enter Tryz.func36, Tryz.ntmps36
  go_wp2_with fail
  go_loopw [0, 6] (fun u v wr => ∃ (k j : Nat), k + j = m ∧ u = .int .i64 ((n / 256 ^ k : Nat) : Int) ∧ v = .int .i64 ((j : Int) - 1) ∧ Blk wr w.heap.size (rowArr m fun x => if j ≤ x then UInt8.ofNat (n / 256 ^ (m - 1 - x)) else 0) 5 ∧ Below w.heap.size w wr) (fun _ v _ => (intOf v + 1).toNat)
  case atStart => exact ⟨0, m, by omega, by simp, rfl, by rw [rowArr_congr (m := m) (f := fun x => if m ≤ x then UInt8.ofNat (n / 256 ^ (m - 1 - x)) else 0) (g := fun _ => 0) (fun x hx => if_neg (by omega))]; exact hB0, (Below.refl _ _).alloc (Nat.le_refl _) _⟩
  case round =>
    clear hB0 hmk
    obtain ⟨k, j, hkj, rfl, rfl, hB, hb⟩ := hrel
    by_cases h0 : 1 ≤ j
    · obtain ⟨i, rfl⟩ : ∃ i, j = i + 1 := ⟨j - 1, by omega⟩
      have e1 : ((i + 1 : Nat) : Int) - 1 = (i : Int) := by omega
      rw [e1]
      have c1 : wr.cell? ⟨w.heap.size, i, none⟩ = some (.int .u8 0) := by rw [hB.cell, rowArr_get _ _ _ (by omega), if_neg (by omega)]; rfl
      have f1 := hB.free i
      obtain ⟨q, hq⟩ : ∃ q, q = n / 256 ^ k := ⟨_, rfl⟩
      have hq1 : q ≤ 9223372036854775807 := by rw [hq]; exact Nat.le_trans (Nat.div_le_self _ _) hn
      rw [← hq]
      have Hq := Lib.hid hq; have HB := Lib.hid hB
      have q8 : ((UInt8.ofNat q).toNat : Int) = (q : Int) % 256 := by rw [UInt8.toNat_ofNat']; rfl
      have HQ8 := Lib.hid q8
      clear hq hB q8
      go_wp2
      refine ⟨⟨k + 1, i, by omega, ?_, rfl, ?_, hb.setCell (Nat.le_refl _) _⟩, by simp [intOf] <;> omega⟩
      · rw [Nat.pow_succ, ← Nat.div_div_eq_div_mul, ← Hq.out]; congr 1
      · have := HB.out.set i (.int .u8 (((UInt8.ofNat q).toNat : Nat) : Int))
        rw [rowArr_set] at this
        rw [show ((q : Int) % 256) = (((UInt8.ofNat q).toNat : Nat) : Int) from HQ8.out.symm]
        rw [← rowArr_congr (m := m) (f := fun x => if x = i then UInt8.ofNat q else if i + 1 ≤ x then UInt8.ofNat (n / 256 ^ (m - 1 - x)) else 0) (fun x hx => ?_)]
        · exact this
        · by_cases e : x = i
          · subst e; rw [if_pos rfl, if_pos (Nat.le_refl _), Hq.out, show m - 1 - x = k from by omega]
          · rw [if_neg e]
            by_cases e2 : i + 1 ≤ x
            · rw [if_pos e2, if_pos (by omega)]
            · rw [if_neg e2, if_neg (by omega)]
    · obtain rfl : j = 0 := by omega
      go_wp2
      go_ret
      refine ⟨_, rfl, ?_, hb⟩
      have := ownF_row (base := w.heap.size) hB (Nat.le_refl _) (by omega)
      rw [← rowL_be, rowL_congr (g := fun x => if 0 ≤ x then UInt8.ofNat (n / 256 ^ (m - 1 - x)) else 0) (fun x hx => (if_pos (Nat.zero_le _)).symm)]
      exact this
theorem rput_x (n : Nat) (m : Nat) (hn : n ≤ 9223372036854775807) (h1 : 1 ≤ m) (hm : m ≤ 8) (w : World) :
    Calls Tryz.prog 36 #[.int .i64 n, .int .i64 m] w fun e w' => ∃ v, e = .returned v ∧ OwnX 5 w' w.heap.size v (Cod.be m n) ∧ Below w.heap.size w w' :=
  (rput_calls n m hn h1 hm w).mono fun _ _ ⟨v, he, h2, h3⟩ => ⟨v, he, h2.x, h3⟩
theorem conv_one (u : UInt8) (w : World) (g : Nat) (h : w.cell? ⟨g, 0, none⟩ = some (.int .u8 ((u.toNat : Nat) : Int))) : (convert 38 9 (.slice (some ⟨g, 0, none⟩) 1 1)).run Tryz.prog w = .ok (.string ⟨#[u]⟩) w := by
  refine conv_string (bs := [u]) ⟨_, 1, rfl, by simp, maxLen_ge (by decide), fun _ => ⟨g, 0, rfl, fun i v hi => ?_⟩⟩
  cases i with
  | zero => simp at hi; subst hi; exact h
  | succ i => simp at hi
end Go.Proofs.YtclhgokchcklbaaGreatDoor
end
section
namespace Go.Proofs.YtclhgokchcklbaaGreatDoor
open Go Go.RowKit Go.Mem Gf Lea
attribute [local go_sem ↓] Go.wp_at_zero Go.wp_at_succ
theorem key_conv {ix : Key} (h : ix.length = 16) {w : World} {g : Nat} {t : TypeId} (hb : Blk w g (bV ix).toArray t) : (convert 38 9 (.slice (some ⟨g, 0, none⟩) 16 16)).run Tryz.prog w = .ok (.string ⟨ix.toArray⟩) w := by
  have h1 : Bys w (.slice (some ⟨g, 0, none⟩) ix.length 16) ix := Blk.bys hb (by omega) (maxLen_ge (by decide)) (fun k u hk => by simp [bV_get, hk])
  rw [h] at h1
  exact conv_string h1
theorem name_one (c : UInt8) (ix : Key) : ((⟨#[c]⟩ : ByteArray) ++ ⟨ix.toArray⟩) = ⟨(c :: ix).toArray⟩ := by
  apply ByteArray.ext
  rw [ByteArray.data_append]
  simp
theorem name_size (c : UInt8) {ix : Key} (h : ix.length = 16) : (⟨(c :: ix).toArray⟩ : ByteArray).size = 17 := by
  show (c :: ix).toArray.size = 17
  simp [h]
set_option maxRecDepth 100000 in
theorem slot_calls (ix : Key) (h : ix.length = 16) (w : World) : Calls Tryz.prog 130 #[.agg (bV ix).toArray] w fun e w' => e = .returned (.string (slotN ix)) ∧ Below w.heap.size w w' := by
  have hc := key_conv h (Blk.new w (bV ix).toArray 44)
  have hl : (bV ix).length = 16 := by rw [bV_len]; exact h
  have HN := Lib.hid (name_one 99 ix)
  have hz : (⟨ix.toArray⟩ : ByteArray).size = 16 := by show ix.toArray.size = 16; simp [h]
  have hm : 17 ≤ maxLen := maxLen_ge (by decide)
  clear h
  go_enter Tryz.func130, Tryz.ntmps130
  go_wp2_with fail
  go_ret
  exact ⟨by unfold slotN; rw [← HN.out]; rfl, (Below.refl _ _).alloc (Nat.le_refl _) _⟩
set_option maxRecDepth 100000 in
theorem leases_calls (ix : Key) (h : ix.length = 16) (w : World) : Calls Tryz.prog 42 #[.agg (bV ix).toArray] w fun e w' => e = .returned (.string (leaseN ix)) ∧ Below w.heap.size w w' := by
  have hc := key_conv h (Blk.new w (bV ix).toArray 44)
  have hl : (bV ix).length = 16 := by rw [bV_len]; exact h
  have HN := Lib.hid (name_one 108 ix)
  have hz : (⟨ix.toArray⟩ : ByteArray).size = 16 := by show ix.toArray.size = 16; simp [h]
  have hm : 17 ≤ maxLen := maxLen_ge (by decide)
  clear h
  go_enter Tryz.func42, Tryz.ntmps42
  go_wp2_with fail
  go_ret
  exact ⟨by unfold leaseN; rw [← HN.out]; rfl, (Below.refl _ _).alloc (Nat.le_refl _) _⟩
set_option maxRecDepth 100000 in
theorem share_calls (ix : Key) (h : ix.length = 16) (n : Nat) (hn : n < 16) (w : World) : Calls Tryz.prog 123 #[.agg (bV ix).toArray, .int .i64 n] w fun e w' => e = .returned (.string (shareN ix n)) ∧ Below w.heap.size w w' := by
  have hB := Blk.new w (bV ix).toArray 44
  have hc1 := key_conv h hB.drew
  have hc2 := fun o => key_conv h (hB.alloc o).drew
  have hl : (bV ix).length = 16 := by rw [bV_len]; exact h
  have hu : ((UInt8.ofNat n).toNat : Int) = (n : Int) := by rw [UInt8.toNat_ofNat']; omega
  have hv := conv_one (UInt8.ofNat n)
  rw [hu] at hv
  have w8 : IntKind.u8.wrap (n : Int) = (n : Int) := by unfold IntKind.wrap; simp [IntKind.bits, IntKind.signed]; omega
  obtain ⟨u, hue⟩ : ∃ u, u = UInt8.ofNat n := ⟨_, rfl⟩
  rw [← hue] at hv
  have HN := Lib.hid (show ((⟨#[115]⟩ : ByteArray) ++ ⟨ix.toArray⟩) ++ ⟨#[u]⟩ = shareN ix n from by
    unfold shareN
    apply ByteArray.ext
    rw [ByteArray.data_append, ByteArray.data_append, ← hue]
    simp)
  have hz : (⟨ix.toArray⟩ : ByteArray).size = 16 := by show ix.toArray.size = 16; simp [h]
  have hm : 18 ≤ maxLen := maxLen_ge (by decide)
  have hm2 : 17 ≤ maxLen := maxLen_ge (by decide)
  clear h hue hu
  go_enter Tryz.func123, Tryz.ntmps123
  go_wp2_with fail
  go_region_with fail
  all_goals
    go_wp2_with fail
    go_ret
    exact ⟨by rw [← HN.out]; rfl, of_drew (w := w) (((Below.refl _ _).alloc (by simp) _).alloc (by simp) _)⟩
end Go.Proofs.YtclhgokchcklbaaGreatDoor
end
section
namespace Go.Mem
open Go Go.RowKit Gf
abbrev Blob := Int × List UInt8
def blV : List Blob → List Value → List Value
  | x :: l, v :: vs => [.int .i64 x.1, v] ++ blV l vs
  | _, _ => []
theorem blV_snoc : ∀ (l : List Blob) (vs : List Value) (x : Blob) (v : Value), vs.length = l.length → blV (l ++ [x]) (vs ++ [v]) = blV l vs ++ [.int .i64 x.1, v]
  | [], [], x, v, _ => rfl
  | x' :: l, v' :: vs, x, v, h => by
    simp only [List.cons_append, blV, List.append_assoc]
    rw [blV_snoc l vs x v (by simpa using h)]
theorem blV_get : ∀ (l : List Blob) (vs : List Value) (i : Nat) (x : Blob) (v : Value), l[i]? = some x → vs[i]? = some v → (blV l vs)[i * 2]? = some (.int .i64 x.1) ∧ (blV l vs)[i * 2 + 1]? = some v
  | x :: l, v :: vs, 0, x', v', h1, h2 => by
    simp at h1 h2
    subst h1 h2
    exact ⟨rfl, rfl⟩
  | x :: l, v :: vs, i + 1, x', v', h1, h2 => by
    have := blV_get l vs i x' v' (by simpa using h1) (by simpa using h2)
    have e : ∀ j, (blV (x :: l) (v :: vs))[(i + 1) * 2 + j]? = (blV l vs)[i * 2 + j]? := fun j => by
      rw [blV, List.getElem?_append_right (by simp; omega)]
      congr 1
      simp; omega
    exact ⟨by rw [show (i + 1) * 2 = (i + 1) * 2 + 0 from rfl, e]; exact this.1, by rw [e]; exact this.2⟩
  | [], _, i, x, v, h1, _ => by simp at h1
  | _ :: _, [], i, x, v, _, h2 => by simp at h2
def OwnBl (tr : TypeId) (w : World) (base : Nat) (N : Nat → Prop) (u : Value) (l : List Blob) : Prop :=
  ∃ vs : List Value, vs.length = l.length ∧ w.ownsRow base tr 2 u l.length (blV l vs) ∧ (∀ (j : Nat) (x : Blob) (v : Value), l[j]? = some x → vs[j]? = some v → DataAt w N v x.2) ∧ ∀ v ∈ vs, ∀ a n c, v = .slice (some a) n c → u.ownBlock ≠ some a.block
section
variable {tr : TypeId} {w w' : World} {base : Nat} {N S : Nat → Prop} {u u' v : Value} {l : List Blob} {x : Blob}
theorem OwnBl.nil (tr : TypeId) (w : World) (base : Nat) (N : Nat → Prop) : OwnBl tr w base N (.slice none 0 0) [] :=
  ⟨[], rfl, World.ownsRow_nil _ _ _ _, (fun j r v h => by simp at h), fun v h => by cases h⟩
theorem OwnBl.slice (h : OwnBl tr w base N u l) : ∃ a c, u = .slice a l.length c ∧ (0 < l.length → ∃ g, a = some ⟨g, 0, none⟩) := by
  obtain ⟨vs, _, h2, _⟩ := h
  exact own_eq_slice h2
theorem OwnBl.lt (h : OwnBl tr w base N u l) : ∀ g, u.ownBlock = some g → base ≤ g ∧ g < w.heap.size := by
  obtain ⟨vs, _, h2, _⟩ := h
  exact h2.lt
theorem OwnBl.chg (h : OwnBl tr w base N u l) (hc : Chg S w w') (h1 : ∀ g, u.ownBlock = some g → ¬ S g) (h2 : ∀ b, S b → b < w.heap.size → N b) : OwnBl tr w' base N u l := by
  obtain ⟨vs, a1, a2, a3, a4⟩ := h
  exact ⟨vs, a1, own_chg a2 hc h1, fun j x v hx hv => (a3 j x v hx hv).chg hc h2, a4⟩
theorem OwnBl.below (h : OwnBl tr w base N u l) (hb : Below w.heap.size w w') : OwnBl tr w' base N u l := h.chg (S := fun _ => False) (Chg.of_below hb) (fun _ _ h => h) (fun _ h => h.elim)
theorem OwnBl.mono {M : Nat → Prop} (h : OwnBl tr w base N u l) (hM : ∀ b, M b → N b ∨ w.heap.size ≤ b) : OwnBl tr w base M u l := by
  obtain ⟨vs, a1, a2, a3, a4⟩ := h
  exact ⟨vs, a1, a2, fun j x v hx hv => (a3 j x v hx hv).mono hM, a4⟩
theorem OwnBl.lower {b : Nat} (h : OwnBl tr w base N u l) (hb : b ≤ base) : OwnBl tr w b N u l := by
  obtain ⟨vs, a1, ⟨a2, a2'⟩, a3, a4⟩ := h
  refine ⟨vs, a1, ⟨a2, ?_⟩, a3, a4⟩
  rcases a2' with h | ⟨g, cap, cur, e, h1, h2⟩
  · exact .inl h
  · exact .inr ⟨g, cap, cur, e, Nat.le_trans hb h1, h2⟩
theorem OwnBl.push {vs : List Value} (h1 : vs.length = l.length) (h3 : ∀ (j : Nat) (x : Blob) (v : Value), l[j]? = some x → vs[j]? = some v → DataAt w N v x.2) (h4 : ∀ v ∈ vs, ∀ a n c, v = .slice (some a) n c → u.ownBlock ≠ some a.block)
    (hx : DataAt w N v x.2) (hne : ∀ a n c, v = .slice (some a) n c → u.ownBlock ≠ some a.block) (hown : w'.ownsRow base tr 2 u' (l.length + 1) (blV l vs ++ [.int .i64 x.1, v])) (hg : w.grownBy w' u.ownBlock) (hs : ∀ k, u'.ownBlock = some k → u.ownBlock = some k ∨ w.heap.size ≤ k) : OwnBl tr w' base N u' (l ++ [x]) := by
  have hd : ∀ (v : Value) (bs : List UInt8), DataAt w N v bs → (∀ a n c, v = .slice (some a) n c → u.ownBlock ≠ some a.block) → DataAt w' N v bs := by
    intro v bs hd hn
    obtain ⟨d1, a, c, rfl, d2⟩ := hd
    refine ⟨?_, a, c, rfl, fun b hb => ⟨Nat.lt_of_lt_of_le (d2 b hb).1 hg.size, (d2 b hb).2⟩⟩
    exact d1.chg (S := fun q => u.ownBlock = some q) (Chg.grown (Chg.refl _ _) hg (fun _ hq => .inl hq)) (fun a' n' c' e => by
      have := hn a' n' c' e
      exact this)
  have hlt : ∀ (v : Value) (bs : List UInt8), DataAt w N v bs → ∀ a n c, v = .slice (some a) n c → a.block < w.heap.size := by
    intro v bs hd a n c e
    obtain ⟨_, a', c', rfl, d2⟩ := hd
    injection e with e1 _ _
    exact (d2 a e1).1
  refine ⟨vs ++ [v], by simp [h1], by rw [blV_snoc l vs x v h1, List.length_append]; exact hown, fun j x' v' hx' hv' => ?_, fun v' hv' a n c e e2 => ?_⟩
  · rcases Nat.lt_or_ge j l.length with hj | hj
    · rw [List.getElem?_append_left hj] at hx'
      rw [List.getElem?_append_left (by omega)] at hv'
      exact hd _ _ (h3 j x' v' hx' hv') (h4 v' (List.mem_of_getElem? hv'))
    · rw [List.getElem?_append_right hj] at hx'
      rw [List.getElem?_append_right (by omega), h1] at hv'
      have hj0 : j - l.length = 0 := by
        rcases Nat.eq_zero_or_pos (j - l.length) with h | h
        · exact h
        · rw [List.getElem?_eq_none (by simp; omega)] at hx'; cases hx'
      rw [hj0] at hx' hv'
      simp at hx' hv'
      subst hx' hv'
      exact hd _ _ hx hne
  · rcases List.mem_append.1 hv' with hv' | hv'
    · obtain ⟨j, hj⟩ := List.mem_iff_getElem?.1 hv'
      have hjl : j < l.length := by have := (List.getElem?_eq_some_iff.1 hj).1; omega
      have hq := hlt _ _ (h3 j l[j] v' (by simp) hj) a n c e
      rcases hs _ e2 with h | h
      · exact h4 v' hv' a n c e h
      · omega
    · rw [List.mem_singleton.1 hv'] at e
      have hq := hlt _ _ hx a n c e
      rcases hs _ e2 with h | h
      · exact hne a n c e h
      · omega
end
end Go.Mem
namespace Go.Proofs.YtclhgokchcklbaaGreatDoor
open Go Go.RowKit Go.Mem Gf Lea
theorem one2 (i : Int) (va : Option Addr) (n : Nat) {c : Nat} : ∀ u ∈ [Value.int .i64 i, .slice va n c], u.oneCell' = true := by
  intro u hu
  simp at hu
  rcases hu with rfl | rfl <;> rfl
theorem EKb : ElemK Tryz.prog 42 41 (.agg #[.int .i64 0, .slice none 0 0]) 2 32 := ⟨Tryz.underlying42, by kernel_rfl, rfl, by decide⟩
end Go.Proofs.YtclhgokchcklbaaGreatDoor
namespace Go.Mem
end Go.Mem
namespace Go.Proofs.YtclhgokchcklbaaGreatDoor
open Go Go.RowKit Go.Mem Gf Lea
attribute [local go_sem ↓] Go.wp_at_zero Go.wp_at_succ
end Go.Proofs.YtclhgokchcklbaaGreatDoor
end
