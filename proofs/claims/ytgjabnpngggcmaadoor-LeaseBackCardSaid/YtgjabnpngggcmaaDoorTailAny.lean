/- As XTailNew; the operation that moves the world is a call, and its value is whatever it gives. No program in sight. -/
import Derived.Test.YtgjabnpngggcmaaDoorTailNew
import Derived.Deep.MidRow
import Derived.Deep.RegionHeld3
namespace Go.Tail
open Go
section
variable {P : Program} {ops : Array Oper} {md : Region.Mode} {C : World → Prop} {R : Value → World → Prop} {j0 : Nat} {z : Value}
/-- operation i in state a: it yields v in every world ahead of the call and behind it; number j0 is the call, its value z -/
def YA (P : Program) (ops : Array Oper) (C : World → Prop) (R : Value → World → Prop) (j0 : Nat) (z : Value) (i : Nat) (o : Oper) (v : Value) (a : Act) : Prop :=
  (i ≠ j0 ∧ Region.wanted o (yielded ops a.tmps) = true ∧ (∀ w, C w → (execOp a.eval o).run P w = .ok (.value v) w) ∧ (∀ w, R z w → (execOp a.eval o).run P w = .ok (.value v) w)) ∨
  (i ≠ j0 ∧ Region.wanted o (yielded ops a.tmps) = false ∧ v = undef) ∨
  (i = j0 ∧ v = z ∧ Region.wanted o (yielded ops a.tmps) = true ∧ ∀ w, C w → ∃ f args, (execOp a.eval o).run P w = .ok (.enter f args) w ∧ Calls P f args w fun e w' => ∃ v', e = .returned v' ∧ R v' w')
theorem YA.of_same {i : Nat} {o : Oper} {v : Value} {a a' : Act} (h : YA P ops C R j0 z i o v a) (he : execOp a'.eval o = execOp a.eval o)
    (hw : Region.wanted o (yielded ops a'.tmps) = Region.wanted o (yielded ops a.tmps)) : YA P ops C R j0 z i o v a' := by
  unfold YA at *
  rw [he, hw]
  exact h
theorem YA.put {i : Nat} {oi oj : Oper} {v u : Value} {a : Act} (h : YA P ops C R j0 z i oi v a) (hap : oi.apart ops oj = true) (hsi : ∀ cs b, oi.op ≠ .select cs b) : YA P ops C R j0 z i oi v (a.put oj.dst u) := by
  obtain ⟨_, _, h3⟩ := Oper.apart_spec hap
  exact h.of_same (execOp_put oi hsi a oj.dst u h3) (wanted_put oi a oj.dst u h3)
theorem YA.unput {j : Nat} {oi oj : Oper} {v u : Value} {a : Act} (h : YA P ops C R j0 z j oj u (a.put oi.dst v)) (hap : oi.apart ops oj = true) (hsj : ∀ cs b, oj.op ≠ .select cs b) : YA P ops C R j0 z j oj u a := by
  obtain ⟨h1, _, _⟩ := Oper.apart_spec hap
  exact h.of_same (execOp_put oj hsj a oi.dst v h1).symm (wanted_put oj a oi.dst v h1).symm
def Ha (P : Program) (md : Region.Mode) (ops : Array Oper) (C : World → Prop) (R : Value → World → Prop) (j0 : Nat) (z : Value) (n : Nat) (L : Array Bool → Act → Prop) : Nat → Array Bool → Act → Prop
  | 0, listed, a => L listed a
  | f + 1, listed, a => Region.ready md ops listed ≠ [] ∧ ∀ i, i ∈ Region.ready md ops listed → i < n ∧ ∃ oi v, ops[i]? = some oi ∧ YA P ops C R j0 z i oi v a ∧ Ha P md ops C R j0 z n L f (listed.setIfInBounds i true) (a.put oi.dst v)
theorem set_other {listed : Array Bool} {i : Nat} (h : i ≠ j0) : (listed.setIfInBounds i true).getD j0 false = listed.getD j0 false := getD_set_ne false h
/-- behind the call -/
theorem any_behind {n g : Nat} {L : Value → Array Bool → Act → Prop} {Q : Exit → Act → World → Prop} (hL : ∀ z listed a w, R z w → L z listed a → wpAny P md ops Q g listed a w) :
    ∀ (f : Nat) (listed : Array Bool) (a : Act) (w : World), listed.getD j0 false = true → R z w → Ha P md ops C R j0 z n (L z) f listed a → wpAny P md ops Q (f + g) listed a w := by
  intro f
  induction f with
  | zero => intro listed a w _ hw h; rw [Nat.zero_add]; exact hL _ _ _ _ hw h
  | succ f ih =>
    intro listed a w hd hw h
    rw [show f + 1 + g = (f + g) + 1 from by omega]
    refine ⟨fun h0 => absurd h0 h.1, fun i hi => ?_⟩
    obtain ⟨_, oi, v, hoi, hy, hK⟩ := h.2 i hi
    have hun := (mem_ready.1 hi).1
    have hij : i ≠ j0 := fun e => by
      subst e
      rw [getD_both hun] at hd
      cases hd
    have hset := set_other (listed := listed) hij
    rw [hd] at hset
    unfold wpOp
    simp only [hoi]
    rcases hy with ⟨_, hwt, _, hv⟩ | ⟨_, hwt, rfl⟩ | ⟨e, _⟩
    · simp only [hwt, if_true]
      refine .inl ?_
      unfold Oper.wp
      rw [hv w hw]
      exact ih _ _ _ hset hw hK
    · simp only [hwt, Bool.false_eq_true, if_false]
      exact ih _ _ _ hset hw hK
    · exact absurd e hij
/-- ahead of the call -/
theorem any_ahead {n g : Nat} {L : Value → Array Bool → Act → Prop} {Q : Exit → Act → World → Prop} (hL : ∀ z listed a w, R z w → L z listed a → wpAny P md ops Q g listed a w) (hLj : ∀ z listed a, L z listed a → listed.getD j0 false = true) (hz : ∃ z, ∃ w, R z w) :
    ∀ (f : Nat) (listed : Array Bool) (a : Act) (w : World), listed.getD j0 false = false → C w → (∀ z, (∃ w, R z w) → Ha P md ops C R j0 z n (L z) f listed a) → wpAny P md ops Q (f + g) listed a w := by
  intro f
  obtain ⟨z0, hz0⟩ := hz
  induction f with
  | zero =>
    intro listed a w hd hw h
    have := hLj _ _ _ (h z0 hz0)
    rw [hd] at this
    cases this
  | succ f ih =>
    intro listed a w hd hw h
    rw [show f + 1 + g = (f + g) + 1 from by omega]
    have h0 := h z0 hz0
    refine ⟨fun h1 => absurd h1 h0.1, fun i hi => ?_⟩
    obtain ⟨_, oi, v, hoi, hy, hK⟩ := h0.2 i hi
    have hun := (mem_ready.1 hi).1
    unfold wpOp
    simp only [hoi]
    rcases hy with ⟨hij, hwt, hv, _⟩ | ⟨hij, hwt, rfl⟩ | ⟨rfl, _, hwt, hv⟩
    · have hset := set_other (listed := listed) hij
      rw [hd] at hset
      simp only [hwt, if_true]
      refine .inl ?_
      unfold Oper.wp
      rw [hv w hw]
      refine ih _ _ _ hset hw (fun z hz => ?_)
      obtain ⟨_, oi', v', hoi', hy', hK'⟩ := (h z hz).2 i hi
      have eo : oi' = oi := Option.some.inj (hoi'.symm.trans hoi)
      subst eo
      rcases hy' with ⟨_, _, hv', _⟩ | ⟨_, hwt', _⟩ | ⟨e, _⟩
      · have e := (hv' w hw).symm.trans (hv w hw)
        injection e with e1 _
        injection e1 with e1
        rw [← e1]; exact hK'
      · rw [hwt] at hwt'; cases hwt'
      · exact absurd e hij
    · have hset := set_other (listed := listed) hij
      rw [hd] at hset
      simp only [hwt, Bool.false_eq_true, if_false]
      refine ih _ _ _ hset hw (fun z hz => ?_)
      obtain ⟨_, oi', v', hoi', hy', hK'⟩ := (h z hz).2 i hi
      have eo : oi' = oi := Option.some.inj (hoi'.symm.trans hoi)
      subst eo
      rcases hy' with ⟨_, hwt', _, _⟩ | ⟨_, _, e1⟩ | ⟨e, _⟩
      · rw [hwt] at hwt'; cases hwt'
      · rw [← e1]; exact hK'
      · exact absurd e hij
    · simp only [hwt, if_true]
      refine .inl ?_
      obtain ⟨fn, args, hr, hc⟩ := hv w hw
      unfold Oper.wp
      rw [hr]
      refine hc.mono ?_
      rintro e w'' ⟨v', rfl, hR⟩
      obtain ⟨_, oi', u', hoi', hy', hK'⟩ := (h v' ⟨_, hR⟩).2 i hi
      have eo : oi' = oi := Option.some.inj (hoi'.symm.trans hoi)
      subst eo
      have hlt : i < listed.size := by
        rcases Nat.lt_or_ge i listed.size with h | h
        · exact h
        · simp [Array.getElem?_eq_none h] at hun
      rcases hy' with ⟨e, _⟩ | ⟨e, _⟩ | ⟨_, rfl, _⟩
      · exact absurd rfl e
      · exact absurd rfl e
      · exact any_behind hL _ _ _ _ (by simp [hlt]) hR hK'
theorem any_first {n i : Nat} {oi : Oper} {v : Value} {L : Array Bool → Act → Prop} (hi : ops[i]? = some oi) (hsel : ∀ (j : Nat) (o : Oper) cs b, ops[j]? = some o → o.op ≠ .select cs b)
    (hs : Region.sinkB md ops n = true) (hc : Region.chainB md ops n = true) (hn : n < ops.size) (hin : i < n) (hdone : ∀ listed a, L listed a → ∀ j, j ∈ Region.ready md ops listed → n ≤ j) :
    ∀ (f : Nat) (listed : Array Bool) (a : Act), HeadInv md ops n listed →
      (∀ j oj, ops[j]? = some oj → j ≠ i → listed.getD j true = false → (∀ e ∈ oj.after, Region.binds md e = true → e.on ≠ i) → oi.apart ops oj = true) →
      i ∈ Region.ready md ops listed → YA P ops C R j0 z i oi v a →
      Ha P md ops C R j0 z n L f (listed.setIfInBounds i true) (a.put oi.dst v) → Ha P md ops C R j0 z n L (f + 1) listed a := by
  intro f
  induction f with
  | zero =>
    intro listed a inv _ hr hy H
    have hun := (mem_ready.1 hr).1
    refine ⟨fun h => (by rw [h] at hr; cases hr), fun j hj => ?_⟩
    have hjn : j < n := Nat.lt_of_not_le fun h => tail_waits hs hc hn inv _ i rfl hin hun j h hj
    by_cases e : j = i
    · subst e; exact ⟨hjn, oi, v, hi, hy, H⟩
    · have := hdone _ _ H j (ready_mono hj e)
      omega
  | succ f ih =>
    intro listed a inv hfree hr hy H
    have hun := (mem_ready.1 hr).1
    refine ⟨fun h => (by rw [h] at hr; cases hr), fun j hj => ?_⟩
    have hjn : j < n := Nat.lt_of_not_le fun h => tail_waits hs hc hn inv _ i rfl hin hun j h hj
    refine ⟨hjn, ?_⟩
    by_cases e : j = i
    · subst e; exact ⟨oi, v, hi, hy, H⟩
    · obtain ⟨hjun, oj, hoj, hall⟩ := mem_ready.1 hj
      have hnot : ∀ e ∈ oj.after, Region.binds md e = true → e.on ≠ i := fun e' he hb heq => by
        have h1 := hall e' he hb
        rw [heq, getD_both hun] at h1
        cases h1
      have hap := hfree j oj hoj e hjun hnot
      obtain ⟨_, oj', u, hoj', hyj, hKj⟩ := H.2 j (ready_mono hj e)
      have e1 : oj' = oj := Option.some.inj (hoj'.symm.trans hoj)
      subst e1
      have hfree' : ∀ k ok, ops[k]? = some ok → k ≠ i → (listed.setIfInBounds j true).getD k true = false →
          (∀ e ∈ ok.after, Region.binds md e = true → e.on ≠ i) → oi.apart ops ok = true := fun k ok hk hki hun' hno => by
        refine hfree k ok hk hki ?_ hno
        by_cases hjk : j = k
        · subst hjk; exact hjun
        · rw [getD_set_ne true hjk] at hun'; exact hun'
      refine ⟨oj', u, hoj, hyj.unput hap (fun cs b => hsel j oj' cs b hoj), ?_⟩
      refine ih (listed.setIfInBounds j true) _ (inv.set hj hjn) hfree' (ready_mono hr (Ne.symm e)) (hy.put hap (fun cs b => hsel i oi cs b hi)) ?_
      rw [Array.setIfInBounds_comm _ _ e]
      have hcomm := Act.put_comm a v u (Oper.apart_spec hap).2.1
      rw [← hcomm]
      exact hKj

/-- the head in the order of the text -/
def wpAg (P : Program) (ops : Array Oper) (C : World → Prop) (R : Value → World → Prop) (j0 : Nat) (z : Value) (Lq : Act → Prop) : List Oper → Nat → Act → Prop
  | [], _, a => Lq a
  | o :: rest, k, a => ∃ v, YA P ops C R j0 z k o v a ∧ wpAg P ops C R j0 z Lq rest (k + 1) (a.put o.dst v)
theorem any_lex {n g : Nat} {Lq : Act → Prop} (hsel : Region.noSelect ops = true) (hs : Region.sinkB md ops n = true) (hc : Region.chainB md ops n = true) (hn : n < ops.size) (hj0 : j0 < n) :
    ∀ (l : List Oper) (k : Nat) (listed : Array Bool) (a : Act), (∀ j, j < l.length → l[j]? = ops[k + j]?) → k + l.length = n → HeadInv md ops n listed → (∀ i, i < k → listed.getD i false = true) →
    Region.lexHead md ops g l.length k listed = true → wpAg P ops C R j0 z Lq l k a →
    Ha P md ops C R j0 z n (fun listed' a' => Region.seqB md ops g n listed' = true ∧ listed'.getD j0 false = true ∧ Lq a') l.length listed a := by
  intro l
  induction l with
  | nil =>
    intro k listed a _ hk _ hdone hB h
    have : k = n := by simpa using hk
    subst this
    exact ⟨by simpa [Region.lexHead] using hB, hdone j0 hj0, h⟩
  | cons o l ih =>
    intro k listed a hl hk inv hdone hB h
    have h0 : ops[k]? = some o := by simpa using (hl 0 (by simp)).symm
    simp only [List.length_cons, Region.lexHead, Bool.and_eq_true] at hB
    obtain ⟨⟨hr, hf⟩, hB'⟩ := hB
    have hkn : k < n := by simp only [List.length_cons] at hk; omega
    have hr' : k ∈ Region.ready md ops listed := by simpa using hr
    obtain ⟨v, hy, hK⟩ := h
    refine any_first h0 (Region.noSelect_spec hsel) hs hc hn hkn (fun listed' a' hL => seqB_ready hL.1) l.length listed a inv (Region.free_spec h0 hf) hr' hy ?_
    refine ih (k + 1) _ _ (fun j hj => by have := hl (j + 1) (by simp; omega); simpa [Nat.add_assoc, Nat.add_comm 1 j] using this) (by simp only [List.length_cons] at hk; omega) (inv.set hr' hkn) (fun i hi => ?_) hB' hK
    have hks : k < listed.size := by rw [inv.size]; omega
    by_cases e : k = i
    · subst e; simp [hks]
    · rw [getD_set_ne false e]; exact hdone i (by omega)

/-- ONE WALK OF THE HEAD, in which number j0 is a call that moves the world, then the tail. -/
theorem wp_region_any_tail {id : Nat} {Q : Exit → Act → World → Prop} {a : Act} {w : World} {l : List Oper} (n j0 : Nat) (C : World → Prop) (R : Value → World → Prop) (hm : P.follows .mixedOrders = true)
    (hB : Region.lexTailB .any l.toArray n = true) (hj0 : j0 < n) (hC : C w.drew) (hz : ∃ z, ∃ w, R z w) (h : ∀ z, (∃ w, R z w) → wpAg P l.toArray C R j0 z (fun a' => ∀ w', R z w' → wpList P l.toArray Q (l.drop n) a' w') (l.take n) 0 a) :
    (Code.region id l.toArray true).wp P Q a w := by
  simp only [Region.lexTailB, Bool.and_eq_true, decide_eq_true_eq] at hB
  obtain ⟨⟨⟨⟨hsel, hn⟩, hs⟩, hc⟩, hlex⟩ := hB
  have hn' : n < l.length := by simpa using hn
  have htl : (l.take n).length = n := by simp; omega
  have inv0 : HeadInv .any l.toArray n (Array.replicate l.toArray.size false) :=
    ⟨by simp, fun j oj _ hl => (by rw [getD_replicate_false] at hl; cases hl), fun t _ ht => getD_in (by simpa using ht) (getD_replicate_false _ _)⟩
  have H := fun z hz => any_lex (md := .any) (C := C) (R := R) (j0 := j0) (z := z) (g := l.toArray.size - n) hsel hs hc hn hj0 (l.take n) 0 _ a (fun j hj => by
    have hj' : j < n := by rw [htl] at hj; exact hj
    simp [hj']) (by simpa using htl) inv0 (fun i hi => by omega) (by rw [htl]; exact hlex) (h z hz)
  refine wp_region_any hm ?_
  have := any_ahead (C := C) (R := R) (j0 := j0) (Q := Q) (g := l.toArray.size - n) (L := fun z listed' a' => Region.seqB .any l.toArray (l.toArray.size - n) n listed' = true ∧ listed'.getD j0 false = true ∧ ∀ w', R z w' → wpList P l.toArray Q (l.drop n) a' w') (fun z listed a' w' hw' hL => by
    have e : l.toArray.size - n = (l.drop n).length := by simp
    rw [e]
    exact wpAny_of_seq (l.drop n) n listed a' w' (fun j => by simp) (by rw [← e]; exact hL.1) (hL.2.2 w' hw')) (fun z listed a hL => hL.2.1) hz _ _ a w.drew (getD_replicate_false _ _) hC H
  rw [htl, show n + (l.toArray.size - n) = l.toArray.size from by omega] at this
  exact this
/-- one operation of the head, not the call -/
theorem any_step {Lq : Act → Prop} {o : Oper} {rest : List Oper} {k : Nat} {a : Act} (hk : k ≠ j0) (v : Value) (hw : Region.wanted o (yielded ops a.tmps) = true) (h1 : ∀ w, C w → (execOp a.eval o).run P w = .ok (.value v) w) (h2 : ∀ w, R z w → (execOp a.eval o).run P w = .ok (.value v) w) (h : wpAg P ops C R j0 z Lq rest (k + 1) (a.put o.dst v)) :
    wpAg P ops C R j0 z Lq (o :: rest) k a := ⟨v, .inl ⟨hk, hw, h1, h2⟩, h⟩
/-- the call -/
theorem any_call {Lq : Act → Prop} {o : Oper} {rest : List Oper} {a : Act} (hw : Region.wanted o (yielded ops a.tmps) = true)
    (h1 : ∀ w, C w → ∃ f args, (execOp a.eval o).run P w = .ok (.enter f args) w ∧ Calls P f args w fun e w' => ∃ v', e = .returned v' ∧ R v' w') (h : wpAg P ops C R j0 z Lq rest (j0 + 1) (a.put o.dst z)) :
    wpAg P ops C R j0 z Lq (o :: rest) j0 a := ⟨z, .inr (.inr ⟨rfl, rfl, hw, h1⟩), h⟩
/-- an operation that looks at no world -/
theorem any_ex {Lq : Act → Prop} {o : Oper} {rest : List Oper} {k : Nat} {a : Act} (hk : k ≠ j0) (hw : Region.wanted o (yielded ops a.tmps) = true) (h : ∃ v, (∀ w, (execOp a.eval o).run P w = .ok (.value v) w) ∧ wpAg P ops C R j0 z Lq rest (k + 1) (a.put o.dst v)) :
    wpAg P ops C R j0 z Lq (o :: rest) k a := by
  obtain ⟨v, h1, h2⟩ := h
  exact ⟨v, .inl ⟨hk, hw, fun w _ => h1 w, fun w _ => h1 w⟩, h2⟩
/-- a load of many cells that stay as they are -/
theorem any_load {Lq : Act → Prop} {o : Oper} {rest : List Oper} {k : Nat} {a : Act} (hk : k ≠ j0) (hw : Region.wanted o (yielded ops a.tmps) = true) (ty : TypeId) (x : Operand) (ho : o.op = .load ty x) (b off : Nat) (hx : a.eval x = .pointer (some ⟨b, off, none⟩)) (cs : List Value) {d : TypeDesc} (hC : ∀ w, C w → w.rangeAt b off cs) (hR : ∀ w, R z w → w.rangeAt b off cs)
    (hu : P.underlying ty = some d) (hd : d.isRow = true) (hi : (P.info? ty).map (·.size) = some cs.length) (h : wpAg P ops C R j0 z Lq rest (k + 1) (a.put o.dst (.agg cs.toArray))) : wpAg P ops C R j0 z Lq (o :: rest) k a := by
  have hr : ∀ w, w.rangeAt b off cs → (execOp a.eval o).run P w = .ok (.value (.agg cs.toArray)) w := fun w hw' => by
    unfold execOp
    simp only [ho, hx, Instr.loadAt, Instr.sureAddr, Sem.run_bind, Sem.run_pure, Result.andThen_ok, run_loadVar_mid w b off ty cs d hw' hu hd hi]
  exact any_step hk _ hw (fun w h => hr w (hC w h)) (fun w h => hr w (hR w h)) h
end
end Go.Tail

namespace Go.Tail
open Go
section
variable {P : Program} {ops : Array Oper} {md : Region.Mode} {Q : Exit → Act → World → Prop} {S : World → Prop}
theorem held_ex {i : Nat} {oi : Oper} {fuel : Nat} {listed : Array Bool} {a : Act} {w : World} (hi : ops[i]? = some oi)
    (hs : Region.noSelect ops = true) (hf : Region.free md ops listed i = true) (hr : (Region.ready md ops listed).contains i = true)
    (hQ : ∀ v c a w, Q (.panic c) (Act.put a oi.dst v) w → Q (.panic c) a w) (hw : Region.wanted oi (yielded ops a.tmps) = true) (hS : S w)
    (h : ∃ v, (∀ w, (execOp a.eval oi).run P w = .ok (.value v) w) ∧ wpAnyH P md ops Q S fuel (listed.setIfInBounds i true) (a.put oi.dst v) w) : wpAnyH P md ops Q S (fuel + 1) listed a w := by
  obtain ⟨v, h1, h2⟩ := h
  exact wpAnyH_take hi hs hf hr (hQ v) (Or.inl ⟨hw, fun w _ => h1 w⟩) hS h2
theorem held_load {i : Nat} {oi : Oper} {fuel : Nat} {listed : Array Bool} {a : Act} {w : World} (hi : ops[i]? = some oi)
    (hs : Region.noSelect ops = true) (hf : Region.free md ops listed i = true) (hr : (Region.ready md ops listed).contains i = true)
    (hQ : ∀ v c a w, Q (.panic c) (Act.put a oi.dst v) w → Q (.panic c) a w) (hw : Region.wanted oi (yielded ops a.tmps) = true) (hS : S w)
    (ty : TypeId) (x : Operand) (ho : oi.op = .load ty x) (b off : Nat) (hx : a.eval x = .pointer (some ⟨b, off, none⟩)) (cs : List Value) {d : TypeDesc} (hSr : ∀ w, S w → w.rangeAt b off cs)
    (hu : P.underlying ty = some d) (hd : d.isRow = true) (hii : (P.info? ty).map (·.size) = some cs.length)
    (h : wpAnyH P md ops Q S fuel (listed.setIfInBounds i true) (a.put oi.dst (.agg cs.toArray)) w) : wpAnyH P md ops Q S (fuel + 1) listed a w :=
  wpAnyH_take hi hs hf hr (hQ _) (yieldsIf_load_mid hw ty x ho b off hx cs d hSr hu hd hii) hS h
theorem held_call {i : Nat} {oi : Oper} {fuel : Nat} {listed : Array Bool} {a : Act} {w : World} (hi : ops[i]? = some oi)
    (hr : Region.ready md ops listed = [i]) (hw : Region.wanted oi (yielded ops a.tmps) = true)
    (h : ∃ f args, (execOp a.eval oi).run P w = .ok (.enter f args) w ∧ Calls P f args w fun e w' => ∃ v, e = .returned v ∧ S w' ∧ wpAnyH P md ops Q S fuel (listed.setIfInBounds i true) (a.put oi.dst v) w') : wpAnyH P md ops Q S (fuel + 1) listed a w := by
  obtain ⟨f, args, h1, h2⟩ := h
  refine ⟨(fun h0 => absurd (hr.symm.trans h0) (by simp)), fun j hj => ?_⟩
  rw [hr, List.mem_singleton] at hj
  subst hj
  unfold wpOp
  simp only [hi, hw, if_true]
  refine .inl ?_
  unfold Oper.wp
  rw [h1]
  refine h2.mono ?_
  rintro e w' ⟨v, rfl, h3, h4⟩
  exact ⟨h3, h4⟩
end
end Go.Tail
