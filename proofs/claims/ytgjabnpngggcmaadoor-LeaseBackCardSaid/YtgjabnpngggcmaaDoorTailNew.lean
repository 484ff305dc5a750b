/- As XTail, but one operation of the head makes a new block (or else moves the world from one class to another), and its place in the order is open. No program in sight. -/
import Derived.Test.YtgjabnpngggcmaaDoorTail
namespace Go.Tail
open Go

/-- what an operation yields: the value v, and a world of the class C' -/
def goesUpon (P : Program) (C' : World → Prop) (v : Value) : Result Next → Prop
  | .ok (.value u) w' => C' w' ∧ u = v
  | .ok .skip w' => C' w' ∧ v = undef
  | .ok (.enter f args) w' => Calls P f args w' (fun e w'' => e = .returned v ∧ C' w'')
  | _ => False
def goesAt (P : Program) (o : Oper) (a : Act) (C' : World → Prop) (w : World) (v : Value) : Prop := goesUpon P C' v ((execOp a.eval o).run P w)

theorem goes_of_quiet {P : Program} {o : Oper} {a : Act} {C : World → Prop} {w : World} {v : Value} (hw : C w) (h : o.quietAt P a C w v) : goesAt P o a C w v := by
  unfold Oper.quietAt at h
  unfold goesAt
  generalize (execOp a.eval o).run P w = r at *
  cases r with
  | ok n w' => cases n <;> simp only [Oper.quietUpon, goesUpon] at h ⊢
               case value u => exact ⟨h.1 ▸ hw, h.2⟩
               case skip => exact ⟨h.1 ▸ hw, h.2⟩
               case enter f args => exact h.1 ▸ h.2
  | halt x w' => simp only [Oper.quietUpon] at h

section
variable {P : Program} {ops : Array Oper} {md : Region.Mode} {U : Bool → World → Prop} {j0 : Nat}
/-- the class that belongs to what has been carried out -/
def Cl (U : Bool → World → Prop) (j0 : Nat) (listed : Array Bool) : World → Prop := U (listed.getD j0 false)


/-- operation i, in state a, whatever has been carried out: it yields v; number j0 moves the world from the first class to the second, the others stay in their class -/
def YG (P : Program) (ops : Array Oper) (U : Bool → World → Prop) (j0 i : Nat) (o : Oper) (v : Value) (a : Act) : Prop :=
  (Region.wanted o (yielded ops a.tmps) = true ∧ ∀ b : Bool, (i = j0 → b = false) → ∀ w, U b w → goesAt P o a (U (if i = j0 then true else b)) w v) ∨
  (Region.wanted o (yielded ops a.tmps) = false ∧ v = undef ∧ i ≠ j0)
theorem YG.of_same {i : Nat} {o : Oper} {v : Value} {a a' : Act} (h : YG P ops U j0 i o v a) (he : execOp a'.eval o = execOp a.eval o)
    (hw : Region.wanted o (yielded ops a'.tmps) = Region.wanted o (yielded ops a.tmps)) : YG P ops U j0 i o v a' := by
  unfold YG goesAt at *
  rw [he, hw]
  exact h
theorem YG.put {i : Nat} {oi oj : Oper} {v u : Value} {a : Act} (h : YG P ops U j0 i oi v a) (hap : oi.apart ops oj = true) (hsi : ∀ cs b, oi.op ≠ .select cs b) : YG P ops U j0 i oi v (a.put oj.dst u) := by
  obtain ⟨_, _, h3⟩ := Oper.apart_spec hap
  exact h.of_same (execOp_put oi hsi a oj.dst u h3) (wanted_put oi a oj.dst u h3)
theorem YG.unput {j : Nat} {oi oj : Oper} {v u : Value} {a : Act} (h : YG P ops U j0 j oj u (a.put oi.dst v)) (hap : oi.apart ops oj = true) (hsj : ∀ cs b, oj.op ≠ .select cs b) : YG P ops U j0 j oj u a := by
  obtain ⟨h1, _, _⟩ := Oper.apart_spec hap
  exact h.of_same (execOp_put oj hsj a oi.dst v h1).symm (wanted_put oj a oi.dst v h1).symm

/-- f operations of the head are yet to come, in whatever order; then L -/
def Hd (P : Program) (md : Region.Mode) (ops : Array Oper) (U : Bool → World → Prop) (j0 n : Nat) (L : Array Bool → Act → Prop) : Nat → Array Bool → Act → Prop
  | 0, listed, a => L listed a
  | f + 1, listed, a => Region.ready md ops listed ≠ [] ∧ ∀ i, i ∈ Region.ready md ops listed → i < n ∧ ∃ oi v, ops[i]? = some oi ∧ YG P ops U j0 i oi v a ∧ Hd P md ops U j0 n L f (listed.setIfInBounds i true) (a.put oi.dst v)

theorem cl_set {listed : Array Bool} {i : Nat} (hi : listed.getD i true = false) : (listed.setIfInBounds i true).getD j0 false = (if i = j0 then true else listed.getD j0 false) := by
  by_cases e : i = j0
  · subst e
    rw [if_pos rfl]
    have hlt : i < listed.size := by
      rcases Nat.lt_or_ge i listed.size with h | h
      · exact h
      · simp [Array.getElem?_eq_none h] at hi
    simp [hlt]
  · rw [if_neg e, getD_set_ne false e]

theorem go_of_head {n g : Nat} {L : Array Bool → Act → Prop} {Q : Exit → Act → World → Prop} (hL : ∀ listed a w, Cl U j0 listed w → L listed a → wpAny P md ops Q g listed a w) :
    ∀ (f : Nat) (listed : Array Bool) (a : Act) (w : World), Cl U j0 listed w → Hd P md ops U j0 n L f listed a → wpAny P md ops Q (f + g) listed a w := by
  intro f
  induction f with
  | zero => intro listed a w hw h; rw [Nat.zero_add]; exact hL _ _ _ hw h
  | succ f ih =>
    intro listed a w hw h
    rw [show f + 1 + g = (f + g) + 1 from by omega]
    refine ⟨fun h0 => absurd h0 h.1, fun i hi => ?_⟩
    obtain ⟨_, oi, v, hoi, hy, hK⟩ := h.2 i hi
    have hun := (mem_ready.1 hi).1
    have hcl := cl_set (j0 := j0) hun
    unfold wpOp
    simp only [hoi]
    rcases hy with ⟨hwt, hv⟩ | ⟨hwt, rfl, hne⟩
    · simp only [hwt, if_true]
      refine .inl ?_
      have h3 := hv (listed.getD j0 false) (fun e => by subst e; exact getD_both hun) w hw
      rw [← hcl] at h3
      unfold goesAt at h3
      unfold Oper.wp
      generalize (execOp a.eval oi).run P w = r at *
      cases r with
      | ok nx w' =>
        cases nx <;> simp only [goesUpon] at h3 <;> simp only [Oper.upon]
        case value u => obtain ⟨e1, e2⟩ := h3; rw [e2]; exact ih _ _ _ e1 hK
        case skip => obtain ⟨e1, e2⟩ := h3; rw [← e2]; exact ih _ _ _ e1 hK
        case enter fn args => exact h3.mono fun e w'' ⟨he, hw''⟩ => by subst he; exact ih _ _ _ hw'' hK
      | halt x w' => simp only [goesUpon] at h3
    · simp only [hwt, Bool.false_eq_true, if_false]
      refine ih _ _ _ ?_ hK
      show U _ w
      rw [hcl, if_neg hne]; exact hw

theorem go_first {n i : Nat} {oi : Oper} {v : Value} {L : Array Bool → Act → Prop} (hi : ops[i]? = some oi) (hsel : ∀ (j : Nat) (o : Oper) cs b, ops[j]? = some o → o.op ≠ .select cs b)
    (hs : Region.sinkB md ops n = true) (hc : Region.chainB md ops n = true) (hn : n < ops.size) (hin : i < n) (hdone : ∀ listed a, L listed a → ∀ j, j ∈ Region.ready md ops listed → n ≤ j) :
    ∀ (f : Nat) (listed : Array Bool) (a : Act), HeadInv md ops n listed →
      (∀ j oj, ops[j]? = some oj → j ≠ i → listed.getD j true = false → (∀ e ∈ oj.after, Region.binds md e = true → e.on ≠ i) → oi.apart ops oj = true) →
      i ∈ Region.ready md ops listed → YG P ops U j0 i oi v a →
      Hd P md ops U j0 n L f (listed.setIfInBounds i true) (a.put oi.dst v) → Hd P md ops U j0 n L (f + 1) listed a := by
  intro f
  induction f with
  | zero =>
    intro listed a inv _ hr hy H
    have hun := (mem_ready.1 hr).1
    refine ⟨fun h => (by rw [h] at hr; cases hr), fun j hj => ?_⟩
    have hjn : j < n := Nat.lt_of_not_le fun h => tail_waits hs hc hn inv _ i rfl hin hun j h hj
    by_cases e : j = i
    · subst e; exact ⟨hjn, oi, v, hi, hy, H⟩
    · have := hdone _ _ H j (ready_mono hj e)
      omega
  | succ f ih =>
    intro listed a inv hfree hr hy H
    have hun := (mem_ready.1 hr).1
    refine ⟨fun h => (by rw [h] at hr; cases hr), fun j hj => ?_⟩
    have hjn : j < n := Nat.lt_of_not_le fun h => tail_waits hs hc hn inv _ i rfl hin hun j h hj
    refine ⟨hjn, ?_⟩
    by_cases e : j = i
    · subst e; exact ⟨oi, v, hi, hy, H⟩
    · obtain ⟨hjun, oj, hoj, hall⟩ := mem_ready.1 hj
      have hnot : ∀ e ∈ oj.after, Region.binds md e = true → e.on ≠ i := fun e' he hb heq => by
        have h1 := hall e' he hb
        rw [heq, getD_both hun] at h1
        cases h1
      have hap := hfree j oj hoj e hjun hnot
      obtain ⟨_, oj', u, hoj', hyj, hKj⟩ := H.2 j (ready_mono hj e)
      have e1 : oj' = oj := Option.some.inj (hoj'.symm.trans hoj)
      subst e1
      have hfree' : ∀ k ok, ops[k]? = some ok → k ≠ i → (listed.setIfInBounds j true).getD k true = false →
          (∀ e ∈ ok.after, Region.binds md e = true → e.on ≠ i) → oi.apart ops ok = true := fun k ok hk hki hun' hno => by
        refine hfree k ok hk hki ?_ hno
        by_cases hjk : j = k
        · subst hjk; exact hjun
        · rw [getD_set_ne true hjk] at hun'; exact hun'
      refine ⟨oj', u, hoj, hyj.unput hap (fun cs b => hsel j oj' cs b hoj), ?_⟩
      refine ih (listed.setIfInBounds j true) _ (inv.set hj hjn) hfree' (ready_mono hr (Ne.symm e)) (hy.put hap (fun cs b => hsel i oi cs b hi)) ?_
      rw [Array.setIfInBounds_comm _ _ e]
      have hcomm := Act.put_comm a v u (Oper.apart_spec hap).2.1
      rw [← hcomm]
      exact hKj

/-- the head in the order of the text, operation by operation: k is the number of the first of the list -/
def wpGo (P : Program) (ops : Array Oper) (U : Bool → World → Prop) (j0 : Nat) (Lq : Act → Prop) : List Oper → Nat → Act → Prop
  | [], _, a => Lq a
  | o :: rest, k, a => ∃ v, YG P ops U j0 k o v a ∧ wpGo P ops U j0 Lq rest (k + 1) (a.put o.dst v)

theorem hd_lex {n g : Nat} {Lq : Act → Prop} (hsel : Region.noSelect ops = true) (hs : Region.sinkB md ops n = true) (hc : Region.chainB md ops n = true) (hn : n < ops.size) (hj0 : j0 < n) :
    ∀ (l : List Oper) (k : Nat) (listed : Array Bool) (a : Act), (∀ j, j < l.length → l[j]? = ops[k + j]?) → k + l.length = n → HeadInv md ops n listed → (∀ i, i < k → listed.getD i false = true) →
    Region.lexHead md ops g l.length k listed = true → wpGo P ops U j0 Lq l k a →
    Hd P md ops U j0 n (fun listed' a' => Region.seqB md ops g n listed' = true ∧ listed'.getD j0 false = true ∧ Lq a') l.length listed a := by
  intro l
  induction l with
  | nil =>
    intro k listed a _ hk _ hdone hB h
    have : k = n := by simpa using hk
    subst this
    exact ⟨by simpa [Region.lexHead] using hB, hdone j0 hj0, h⟩
  | cons o l ih =>
    intro k listed a hl hk inv hdone hB h
    have h0 : ops[k]? = some o := by simpa using (hl 0 (by simp)).symm
    simp only [List.length_cons, Region.lexHead, Bool.and_eq_true] at hB
    obtain ⟨⟨hr, hf⟩, hB'⟩ := hB
    have hkn : k < n := by simp only [List.length_cons] at hk; omega
    have hr' : k ∈ Region.ready md ops listed := by simpa using hr
    obtain ⟨v, hy, hK⟩ := h
    refine go_first h0 (Region.noSelect_spec hsel) hs hc hn hkn (fun listed' a' hL => seqB_ready hL.1) l.length listed a inv (Region.free_spec h0 hf) hr' hy ?_
    refine ih (k + 1) _ _ (fun j hj => by have := hl (j + 1) (by simp; omega); simpa [Nat.add_assoc, Nat.add_comm 1 j] using this) (by simp only [List.length_cons] at hk; omega) (inv.set hr' hkn) (fun i hi => ?_) hB' hK
    have hks : k < listed.size := by rw [inv.size]; omega
    by_cases e : k = i
    · subst e; simp [hks]
    · rw [getD_set_ne false e]; exact hdone i (by omega)

/-- ONE WALK OF THE HEAD, in which number j0 moves the world from the class U false to the class U true, then the tail. -/
theorem wp_region_new_tail {id : Nat} {Q : Exit → Act → World → Prop} {a : Act} {w : World} {l : List Oper} (n j0 : Nat) (U : Bool → World → Prop) (hm : P.follows .mixedOrders = true)
    (hB : Region.lexTailB .any l.toArray n = true) (hj0 : j0 < n) (hC : U false w.drew) (h : wpGo P l.toArray U j0 (fun a' => ∀ w', U true w' → wpList P l.toArray Q (l.drop n) a' w') (l.take n) 0 a) :
    (Code.region id l.toArray true).wp P Q a w := by
  simp only [Region.lexTailB, Bool.and_eq_true, decide_eq_true_eq] at hB
  obtain ⟨⟨⟨⟨hsel, hn⟩, hs⟩, hc⟩, hlex⟩ := hB
  have hn' : n < l.length := by simpa using hn
  have htl : (l.take n).length = n := by simp; omega
  have inv0 : HeadInv .any l.toArray n (Array.replicate l.toArray.size false) :=
    ⟨by simp, fun j oj _ hl => (by rw [getD_replicate_false] at hl; cases hl), fun t _ ht => getD_in (by simpa using ht) (getD_replicate_false _ _)⟩
  have H := hd_lex (md := .any) (U := U) (j0 := j0) (g := l.toArray.size - n) hsel hs hc hn hj0 (l.take n) 0 _ a (fun j hj => by
    have hj' : j < n := by rw [htl] at hj; exact hj
    simp [hj']) (by simpa using htl) inv0 (fun i hi => by omega) (by rw [htl]; exact hlex) h
  refine wp_region_any hm ?_
  have := go_of_head (U := U) (j0 := j0) (Q := Q) (g := l.toArray.size - n) (fun listed a' w' hw' hL => by
    have e : l.toArray.size - n = (l.drop n).length := by simp
    rw [e]
    have hw2 : U true w' := by
      have h2 := hL.2.1
      unfold Cl at hw'
      rw [h2] at hw'; exact hw'
    exact wpAny_of_seq (l.drop n) n listed a' w' (fun j => by simp) (by rw [← e]; exact hL.1) (hL.2.2 w' hw2)) _ _ a w.drew (by unfold Cl; rw [getD_replicate_false]; exact hC) H
  rw [htl, show n + (l.toArray.size - n) = l.toArray.size from by omega] at this
  exact this

/-- one operation of the head, not number j0: quiet in both classes, with one value -/
theorem go_step {Lq : Act → Prop} {o : Oper} {rest : List Oper} {k : Nat} {a : Act} (hk : k ≠ j0)
    (h : ∀ K : Act → Prop, (∀ a, wpGo P ops U j0 Lq rest (k + 1) a → K a) →
      if Region.wanted o (yielded ops a.tmps) = true then ∃ v, (∀ w, U false w → o.quietAt P a (U false) w v) ∧ (∀ w, U true w → o.quietAt P a (U true) w v) ∧ K (a.put o.dst v) else K (a.put o.dst undef)) :
    wpGo P ops U j0 Lq (o :: rest) k a := by
  have h' := h (fun a' => wpGo P ops U j0 Lq rest (k + 1) a') (fun _ h => h)
  by_cases hw : Region.wanted o (yielded ops a.tmps) = true
  · simp only [hw, if_true] at h'
    obtain ⟨v, h1, h2, h3⟩ := h'
    refine ⟨v, .inl ⟨hw, fun b _ w hb => ?_⟩, h3⟩
    rw [if_neg hk]
    cases b with
    | false => exact goes_of_quiet hb (h1 w hb)
    | true => exact goes_of_quiet hb (h2 w hb)
  · simp only [hw, Bool.false_eq_true, if_false] at h'
    exact ⟨undef, .inr ⟨by simpa using hw, rfl, hk⟩, h'⟩
/-- number j0 -/
theorem go_step_new {Lq : Act → Prop} {o : Oper} {rest : List Oper} {a : Act} (hg : o.guard = none)
    (h : ∃ v, (∀ w, U false w → goesAt P o a (U true) w v) ∧ wpGo P ops U j0 Lq rest (j0 + 1) (a.put o.dst v)) :
    wpGo P ops U j0 Lq (o :: rest) j0 a := by
  obtain ⟨v, h1, h2⟩ := h
  refine ⟨v, .inl ⟨by simp [Region.wanted, hg], fun b hb w hw => ?_⟩, h2⟩
  have := hb rfl
  subst this
  rw [if_pos rfl]
  exact h1 w hw
end
end Go.Tail
