/- Texts of this proof,packed: TailAny,RegJ,SrvMem,RefMath,Ref01,SrvName,SrvBlobs,LeaSet. -/
import Derived.Test.YtbbojbdigiibbaaGreatDoorPa08
import Derived.Deep.MidRow
import Derived.Deep.RegionHeld3
import Derived.Test.YtbbojbdigiibbaaGreatDoorPa06
import Derived.Test.YtbbojbdigiibbaaGreatDoorPa00
import Derived.Test.YtbbojbdigiibbaaGreatDoorPa01
import Derived.Test.YtbbojbdigiibbaaGreatDoorPa02
section
namespace Go.Tail
open Go
section
variable {P:Program} {ops:Array Oper} {md:Region.Mode} {C:World→Prop} {R:Value→World→Prop} {j0:Nat} {z:Value}
def YA (P:Program) (ops:Array Oper) (C:World→Prop) (R:Value→World→Prop) (j0:Nat) (z:Value) (i:Nat) (o:Oper) (v:Value) (a:Act):Prop :=
 (i≠j0∧Region.wanted o (yielded ops a.tmps)=true∧(∀ w,C w→(execOp a.eval o).run P w=.ok (.value v) w)∧(∀ w,R z w→(execOp a.eval o).run P w=.ok (.value v) w)) ∨
 (i≠j0∧Region.wanted o (yielded ops a.tmps)=false∧v=undef) ∨
 (i=j0∧v=z∧Region.wanted o (yielded ops a.tmps)=true∧∀ w,C w→∃ f args,(execOp a.eval o).run P w=.ok (.enter f args) w∧Calls P f args w fun e w'=>∃ v',e=.returned v'∧R v' w')
theorem YA.of_same {i:Nat} {o:Oper} {v:Value} {a a':Act} (h:YA P ops C R j0 z i o v a) (he:execOp a'.eval o=execOp a.eval o)
  (hw:Region.wanted o (yielded ops a'.tmps)=Region.wanted o (yielded ops a.tmps)):YA P ops C R j0 z i o v a':=by
 unfold YA at *
 rw [he,hw]
 exact h
theorem YA.put {i:Nat} {oi oj:Oper} {v u:Value} {a:Act} (h:YA P ops C R j0 z i oi v a) (hap:oi.apart ops oj=true) (hsi:∀ cs b,oi.op≠.select cs b):YA P ops C R j0 z i oi v (a.put oj.dst u):=by
 obtain ⟨_,_,h3⟩:=Oper.apart_spec hap
 exact h.of_same (execOp_put oi hsi a oj.dst u h3) (wanted_put oi a oj.dst u h3)
theorem YA.unput {j:Nat} {oi oj:Oper} {v u:Value} {a:Act} (h:YA P ops C R j0 z j oj u (a.put oi.dst v)) (hap:oi.apart ops oj=true) (hsj:∀ cs b,oj.op≠.select cs b):YA P ops C R j0 z j oj u a:=by
 obtain ⟨h1,_,_⟩:=Oper.apart_spec hap
 exact h.of_same (execOp_put oj hsj a oi.dst v h1).symm (wanted_put oj a oi.dst v h1).symm
def Ha (P:Program) (md:Region.Mode) (ops:Array Oper) (C:World→Prop) (R:Value→World→Prop) (j0:Nat) (z:Value) (n:Nat) (L:Array Bool→Act→Prop):Nat→Array Bool→Act→Prop
 | 0,listed,a=>L listed a
 | f+1,listed,a=>Region.ready md ops listed≠[]∧∀ i,i∈Region.ready md ops listed→i < n∧∃ oi v,ops[i]?=some oi∧YA P ops C R j0 z i oi v a∧Ha P md ops C R j0 z n L f (listed.setIfInBounds i true) (a.put oi.dst v)
theorem set_other {listed:Array Bool} {i:Nat} (h:i≠j0):(listed.setIfInBounds i true).getD j0 false=listed.getD j0 false:=getD_set_ne false h
theorem zKW {n g:Nat} {L:Value→Array Bool→Act→Prop} {Q:Exit→Act→World→Prop} (hL:∀ z listed a w,R z w→L z listed a→wpAny P md ops Q g listed a w) :
  ∀ (f:Nat) (listed:Array Bool) (a:Act) (w:World),listed.getD j0 false=true→R z w→Ha P md ops C R j0 z n (L z) f listed a→wpAny P md ops Q (f+g) listed a w:=by
 intro f
 induction f with
 | zero=>intro listed a w _ hw h;rw [Nat.zero_add];exact hL _ _ _ _ hw h
 | succ f ih =>
   intro listed a w hd hw h
   rw [show f+1+g=(f+g)+1 from by omega]
   refine ⟨fun h0=>absurd h0 h.1,fun i hi=>?_⟩
   obtain ⟨_,oi,v,hoi,hy,hK⟩:=h.2 i hi
   have hun:=(mem_ready.1 hi).1
   have hij:i≠j0:=fun e=>by
    subst e
    rw [getD_both hun] at hd
    cases hd
   have hset:=set_other (listed:=listed) hij
   rw [hd] at hset
   unfold wpOp
   simp only [hoi]
   rcases hy with ⟨_,hwt,_,hv⟩ | ⟨_,hwt,rfl⟩ | ⟨e,_⟩
   · simp only [hwt,if_true]
     refine .inl ?_
     unfold Oper.wp
     rw [hv w hw]
     exact ih _ _ _ hset hw hK
   · simp only [hwt,Bool.false_eq_true,if_false]
     exact ih _ _ _ hset hw hK
   · exact absurd e hij
theorem zLt {n g:Nat} {L:Value→Array Bool→Act→Prop} {Q:Exit→Act→World→Prop} (hL:∀ z listed a w,R z w→L z listed a→wpAny P md ops Q g listed a w) (hLj:∀ z listed a,L z listed a→listed.getD j0 false=true) (hz:∃ z,∃ w,R z w) :
  ∀ (f:Nat) (listed:Array Bool) (a:Act) (w:World),listed.getD j0 false=false→C w→(∀ z,(∃ w,R z w)→Ha P md ops C R j0 z n (L z) f listed a)→wpAny P md ops Q (f+g) listed a w:=by
 intro f
 obtain ⟨z0,hz0⟩:=hz
 induction f with
 | zero =>
   intro listed a w hd hw h
   have:=hLj _ _ _ (h z0 hz0)
   rw [hd] at this
   cases this
 | succ f ih =>
   intro listed a w hd hw h
   rw [show f+1+g=(f+g)+1 from by omega]
   have h0:=h z0 hz0
   refine ⟨fun h1=>absurd h1 h0.1,fun i hi=>?_⟩
   obtain ⟨_,oi,v,hoi,hy,hK⟩:=h0.2 i hi
   have hun:=(mem_ready.1 hi).1
   unfold wpOp
   simp only [hoi]
   rcases hy with ⟨hij,hwt,hv,_⟩ | ⟨hij,hwt,rfl⟩ | ⟨rfl,_,hwt,hv⟩
   · have hset:=set_other (listed:=listed) hij
     rw [hd] at hset
     simp only [hwt,if_true]
     refine .inl ?_
     unfold Oper.wp
     rw [hv w hw]
     refine ih _ _ _ hset hw (fun z hz=>?_)
     obtain ⟨_,oi',v',hoi',hy',hK'⟩:=(h z hz).2 i hi
     have eo:oi'=oi:=Option.some.inj (hoi'.symm.trans hoi)
     subst eo
     rcases hy' with ⟨_,_,hv',_⟩ | ⟨_,hwt',_⟩ | ⟨e,_⟩
     · have e:=(hv' w hw).symm.trans (hv w hw)
       injection e with e1 _
       injection e1 with e1
       rw [← e1];exact hK'
     · rw [hwt] at hwt';cases hwt'
     · exact absurd e hij
   · have hset:=set_other (listed:=listed) hij
     rw [hd] at hset
     simp only [hwt,Bool.false_eq_true,if_false]
     refine ih _ _ _ hset hw (fun z hz=>?_)
     obtain ⟨_,oi',v',hoi',hy',hK'⟩:=(h z hz).2 i hi
     have eo:oi'=oi:=Option.some.inj (hoi'.symm.trans hoi)
     subst eo
     rcases hy' with ⟨_,hwt',_,_⟩ | ⟨_,_,e1⟩ | ⟨e,_⟩
     · rw [hwt] at hwt';cases hwt'
     · rw [← e1];exact hK'
     · exact absurd e hij
   · simp only [hwt,if_true]
     refine .inl ?_
     obtain ⟨fn,args,hr,hc⟩:=hv w hw
     unfold Oper.wp
     rw [hr]
     refine hc.mono ?_
     rintro e w'' ⟨v',rfl,hR⟩
     obtain ⟨_,oi',u',hoi',hy',hK'⟩:=(h v' ⟨_,hR⟩).2 i hi
     have eo:oi'=oi:=Option.some.inj (hoi'.symm.trans hoi)
     subst eo
     have hlt:i < listed.size:=by
      rcases Nat.lt_or_ge i listed.size with h | h
      · exact h
      · simp [Array.getElem?_eq_none h] at hun
     rcases hy' with ⟨e,_⟩ | ⟨e,_⟩ | ⟨_,rfl,_⟩
     · exact absurd rfl e
     · exact absurd rfl e
     · exact zKW hL _ _ _ _ (by simp [hlt]) hR hK'
theorem zLu {n i:Nat} {oi:Oper} {v:Value} {L:Array Bool→Act→Prop} (hi:ops[i]?=some oi) (hsel:∀ (j:Nat) (o:Oper) cs b,ops[j]?=some o→o.op≠.select cs b)
  (hs:Region.sinkB md ops n=true) (hc:Region.chainB md ops n=true) (hn:n < ops.size) (hin:i < n) (hdone:∀ listed a,L listed a→∀ j,j∈Region.ready md ops listed→n≤j) :
  ∀ (f:Nat) (listed:Array Bool) (a:Act),HeadInv md ops n listed →
    (∀ j oj,ops[j]?=some oj→j≠i→listed.getD j true=false→(∀ e∈oj.after,Region.binds md e=true→e.on≠i)→oi.apart ops oj=true) →
    i∈Region.ready md ops listed→YA P ops C R j0 z i oi v a →
    Ha P md ops C R j0 z n L f (listed.setIfInBounds i true) (a.put oi.dst v)→Ha P md ops C R j0 z n L (f+1) listed a:=by
 intro f
 induction f with
 | zero =>
   intro listed a inv _ hr hy H
   have hun:=(mem_ready.1 hr).1
   refine ⟨fun h=>(by rw [h] at hr;cases hr),fun j hj=>?_⟩
   have hjn:j < n:=Nat.lt_of_not_le fun h=>tail_waits hs hc hn inv _ i rfl hin hun j h hj
   by_cases e:j=i
   · subst e;exact ⟨hjn,oi,v,hi,hy,H⟩
   · have:=hdone _ _ H j (ready_mono hj e)
     omega
 | succ f ih =>
   intro listed a inv hfree hr hy H
   have hun:=(mem_ready.1 hr).1
   refine ⟨fun h=>(by rw [h] at hr;cases hr),fun j hj=>?_⟩
   have hjn:j < n:=Nat.lt_of_not_le fun h=>tail_waits hs hc hn inv _ i rfl hin hun j h hj
   refine ⟨hjn,?_⟩
   by_cases e:j=i
   · subst e;exact ⟨oi,v,hi,hy,H⟩
   · obtain ⟨hjun,oj,hoj,hall⟩:=mem_ready.1 hj
     have hnot:∀ e∈oj.after,Region.binds md e=true→e.on≠i:=fun e' he hb heq=>by
      have h1:=hall e' he hb
      rw [heq,getD_both hun] at h1
      cases h1
     have hap:=hfree j oj hoj e hjun hnot
     obtain ⟨_,oj',u,hoj',hyj,hKj⟩:=H.2 j (ready_mono hj e)
     have e1:oj'=oj:=Option.some.inj (hoj'.symm.trans hoj)
     subst e1
     have hfree':∀ k ok,ops[k]?=some ok→k≠i→(listed.setIfInBounds j true).getD k true=false →
       (∀ e∈ok.after,Region.binds md e=true→e.on≠i)→oi.apart ops ok=true:=fun k ok hk hki hun' hno=>by
      refine hfree k ok hk hki ?_ hno
      by_cases hjk:j=k
      · subst hjk;exact hjun
      · rw [getD_set_ne true hjk] at hun';exact hun'
     refine ⟨oj',u,hoj,hyj.unput hap (fun cs b=>hsel j oj' cs b hoj),?_⟩
     refine ih (listed.setIfInBounds j true) _ (inv.set hj hjn) hfree' (ready_mono hr (Ne.symm e)) (hy.put hap (fun cs b=>hsel i oi cs b hi)) ?_
     rw [Array.setIfInBounds_comm _ _ e]
     have hcomm:=Act.put_comm a v u (Oper.apart_spec hap).2.1
     rw [← hcomm]
     exact hKj
def zHP (P:Program) (ops:Array Oper) (C:World→Prop) (R:Value→World→Prop) (j0:Nat) (z:Value) (Lq:Act→Prop):List Oper→Nat→Act→Prop
 | [],_,a=>Lq a
 | o::rest,k,a=>∃ v,YA P ops C R j0 z k o v a∧zHP P ops C R j0 z Lq rest (k+1) (a.put o.dst v)
theorem zN9 {n g:Nat} {Lq:Act→Prop} (hsel:Region.noSelect ops=true) (hs:Region.sinkB md ops n=true) (hc:Region.chainB md ops n=true) (hn:n < ops.size) (hj0:j0 < n) :
  ∀ (l:List Oper) (k:Nat) (listed:Array Bool) (a:Act),(∀ j,j < l.length→l[j]?=ops[k+j]?)→k+l.length=n→HeadInv md ops n listed→(∀ i,i < k→listed.getD i false=true) →
  Region.lexHead md ops g l.length k listed=true→zHP P ops C R j0 z Lq l k a →
  Ha P md ops C R j0 z n (fun listed' a'=>Region.seqB md ops g n listed'=true∧listed'.getD j0 false=true∧Lq a') l.length listed a:=by
 intro l
 induction l with
 | nil =>
   intro k listed a _ hk _ hdone hB h
   have:k=n:=by simpa using hk
   subst this
   exact ⟨by simpa [Region.lexHead] using hB,hdone j0 hj0,h⟩
 | cons o l ih =>
   intro k listed a hl hk inv hdone hB h
   have h0:ops[k]?=some o:=by simpa using (hl 0 (by simp)).symm
   simp only [List.length_cons,Region.lexHead,Bool.and_eq_true] at hB
   obtain ⟨⟨hr,hf⟩,hB'⟩:=hB
   have hkn:k < n:=by simp only [List.length_cons] at hk;omega
   have hr':k∈Region.ready md ops listed:=by simpa using hr
   obtain ⟨v,hy,hK⟩:=h
   refine zLu h0 (Region.noSelect_spec hsel) hs hc hn hkn (fun listed' a' hL=>seqB_ready hL.1) l.length listed a inv (Region.free_spec h0 hf) hr' hy ?_
   refine ih (k+1) _ _ (fun j hj=>by have:=hl (j+1) (by simp;omega);simpa [Nat.add_assoc,Nat.add_comm 1 j] using this) (by simp only [List.length_cons] at hk;omega) (inv.set hr' hkn) (fun i hi=>?_) hB' hK
   have hks:k < listed.size:=by rw [inv.size];omega
   by_cases e:k=i
   · subst e;simp [hks]
   · rw [getD_set_ne false e];exact hdone i (by omega)
theorem zAa {id:Nat} {Q:Exit→Act→World→Prop} {a:Act} {w:World} {l:List Oper} (n j0:Nat) (C:World→Prop) (R:Value→World→Prop) (hm:P.follows .mixedOrders=true)
  (hB:Region.lexTailB .any l.toArray n=true) (hj0:j0 < n) (hC:C w.drew) (hz:∃ z,∃ w,R z w) (h:∀ z,(∃ w,R z w)→zHP P l.toArray C R j0 z (fun a'=>∀ w',R z w'→wpList P l.toArray Q (l.drop n) a' w') (l.take n) 0 a) :
  (Code.region id l.toArray true).wp P Q a w:=by
 simp only [Region.lexTailB,Bool.and_eq_true,decide_eq_true_eq] at hB
 obtain ⟨⟨⟨⟨hsel,hn⟩,hs⟩,hc⟩,hlex⟩:=hB
 have hn':n < l.length:=by simpa using hn
 have htl:(l.take n).length=n:=by simp;omega
 have inv0:HeadInv .any l.toArray n (Array.replicate l.toArray.size false) :=
  ⟨by simp,fun j oj _ hl=>(by rw [getD_replicate_false] at hl;cases hl),fun t _ ht=>getD_in (by simpa using ht) (getD_replicate_false _ _)⟩
 have H:=fun z hz=>zN9 (md:=.any) (C:=C) (R:=R) (j0:=j0) (z:=z) (g:=l.toArray.size - n) hsel hs hc hn hj0 (l.take n) 0 _ a (fun j hj=>by
  have hj':j < n:=by rw [htl] at hj;exact hj
  simp [hj']) (by simpa using htl) inv0 (fun i hi=>by omega) (by rw [htl];exact hlex) (h z hz)
 refine wp_region_any hm ?_
 have:=zLt (C:=C) (R:=R) (j0:=j0) (Q:=Q) (g:=l.toArray.size - n) (L:=fun z listed' a'=>Region.seqB .any l.toArray (l.toArray.size - n) n listed'=true∧listed'.getD j0 false=true∧∀ w',R z w'→wpList P l.toArray Q (l.drop n) a' w') (fun z listed a' w' hw' hL=>by
  have e:l.toArray.size - n=(l.drop n).length:=by simp
  rw [e]
  exact wpAny_of_seq (l.drop n) n listed a' w' (fun j=>by simp) (by rw [← e];exact hL.1) (hL.2.2 w' hw')) (fun z listed a hL=>hL.2.1) hz _ _ a w.drew (getD_replicate_false _ _) hC H
 rw [htl,show n+(l.toArray.size - n)=l.toArray.size from by omega] at this
 exact this
theorem zGe {Lq:Act→Prop} {o:Oper} {rest:List Oper} {k:Nat} {a:Act} (hk:k≠j0) (v:Value) (hw:Region.wanted o (yielded ops a.tmps)=true) (h1:∀ w,C w→(execOp a.eval o).run P w=.ok (.value v) w) (h2:∀ w,R z w→(execOp a.eval o).run P w=.ok (.value v) w) (h:zHP P ops C R j0 z Lq rest (k+1) (a.put o.dst v)) :
 zHP P ops C R j0 z Lq (o::rest) k a:=⟨v,.inl ⟨hk,hw,h1,h2⟩,h⟩
theorem zDF {Lq:Act→Prop} {o:Oper} {rest:List Oper} {a:Act} (hw:Region.wanted o (yielded ops a.tmps)=true)
 (h1:∀ w,C w→∃ f args,(execOp a.eval o).run P w=.ok (.enter f args) w∧Calls P f args w fun e w'=>∃ v',e=.returned v'∧R v' w') (h:zHP P ops C R j0 z Lq rest (j0+1) (a.put o.dst z)) :
 zHP P ops C R j0 z Lq (o::rest) j0 a:=⟨z,.inr (.inr ⟨rfl,rfl,hw,h1⟩),h⟩
theorem zBq {Lq:Act→Prop} {o:Oper} {rest:List Oper} {k:Nat} {a:Act} (hk:k≠j0) (hw:Region.wanted o (yielded ops a.tmps)=true) (h:∃ v,(∀ w,(execOp a.eval o).run P w=.ok (.value v) w)∧zHP P ops C R j0 z Lq rest (k+1) (a.put o.dst v)) :
  zHP P ops C R j0 z Lq (o::rest) k a:=by
 obtain ⟨v,h1,h2⟩:=h
 exact ⟨v,.inl ⟨hk,hw,fun w _=>h1 w,fun w _=>h1 w⟩,h2⟩
theorem zDG {Lq:Act→Prop} {o:Oper} {rest:List Oper} {k:Nat} {a:Act} (hk:k≠j0) (hw:Region.wanted o (yielded ops a.tmps)=true) (ty:TypeId) (x:Operand) (ho:o.op=.load ty x) (b off:Nat) (hx:a.eval x=.pointer (some ⟨b,off,none⟩)) (cs:List Value) {d:TypeDesc} (hC:∀ w,C w→w.rangeAt b off cs) (hR:∀ w,R z w→w.rangeAt b off cs)
  (hu:P.underlying ty=some d) (hd:d.isRow=true) (hi:(P.info? ty).map (·.size)=some cs.length) (h:zHP P ops C R j0 z Lq rest (k+1) (a.put o.dst (.agg cs.toArray))):zHP P ops C R j0 z Lq (o::rest) k a:=by
 have hr:∀ w,w.rangeAt b off cs→(execOp a.eval o).run P w=.ok (.value (.agg cs.toArray)) w:=fun w hw'=>by
  unfold execOp
  simp only [ho,hx,Instr.loadAt,Instr.sureAddr,Sem.run_bind,Sem.run_pure,Result.andThen_ok,run_loadVar_mid w b off ty cs d hw' hu hd hi]
 exact zGe hk _ hw (fun w h=>hr w (hC w h)) (fun w h=>hr w (hR w h)) h
end
end Go.Tail
namespace Go.Tail
open Go
section
variable {P:Program} {ops:Array Oper} {md:Region.Mode} {Q:Exit→Act→World→Prop} {S:World→Prop}
end
end Go.Tail
end
section
namespace Go.Tail
open Go
section
variable {P:Program} {ops:Array Oper} {md:Region.Mode} {isM:Nat→Bool} {kn:Nat→Option Value} {J:(Nat→Bool)→(Nat→Value)→World→Prop}
def zKV (md:Region.Mode) (ops:Array Oper):Nat→Nat→List Nat
 | 0,_=>[]
 | f+1,j=>match ops[j]? with
   | none=>[]
   | some o=>(o.after.toList.filter fun e=>Region.binds md e).flatMap fun e=>e.on::zKV md ops f e.on
theorem zD0 {listed:Array Bool} (hcl:∀ j oj,ops[j]?=some oj→listed.getD j false=true→∀ e∈oj.after,Region.binds md e=true→listed.getD e.on false=true) :
  ∀ (f j:Nat),(∀ oj,ops[j]?=some oj→∀ e∈oj.after,Region.binds md e=true→listed.getD e.on false=true)→∀ k∈zKV md ops f j,listed.getD k false=true
 | 0,_,_,k,hk=>by cases hk
 | f+1,j,h,k,hk=>by
   unfold zKV at hk
   cases ho:ops[j]? with
   | none=>rw [ho] at hk;cases hk
   | some o =>
     rw [ho] at hk
     obtain ⟨e,he,hk⟩:=List.mem_flatMap.1 hk
     rw [List.mem_filter] at he
     have h1:=h o ho e (by simpa using he.1) he.2
     rcases List.mem_cons.1 hk with rfl | hk
     · exact h1
     · exact zD0 hcl f e.on (fun oj hj=>hcl e.on oj hj h1) k hk
def Dm (isM:Nat→Bool) (listed:Array Bool):Nat→Bool:=fun k=>isM k && listed.getD k false
def zB1 (D:Nat→Bool) (i:Nat):Nat→Bool:=fun k=>if k=i then true else D k
def zFw (z:Nat→Value) (i:Nat) (v:Value):Nat→Value:=fun k=>if k=i then v else z k
def dep (md:Region.Mode) (ops:Array Oper) (isM:Nat→Bool) (i k:Nat):Bool:=isM k && (zKV md ops ops.size i).contains k
def pre (md:Region.Mode) (ops:Array Oper) (isM:Nat→Bool) (k i:Nat):Bool:=isM k && (zKV md ops ops.size k).contains i
def Mv (P:Program) (kn:Nat→Option Value) (J:(Nat→Bool)→(Nat→Value)→World→Prop) (D:Nat→Bool) (z:Nat→Value) (i:Nat) (o:Oper) (a:Act) (w:World):Prop :=
 (∃ f args,(execOp a.eval o).run P w=.ok (.enter f args) w∧Calls P f args w fun e w'=>∃ v,e=.returned v∧(∀ c,kn i=some c→v=c)∧J (zB1 D i) (zFw z i v) w') ∨
 (∃ v w',(execOp a.eval o).run P w=.ok (.value v) w'∧(∀ c,kn i=some c→v=c)∧J (zB1 D i) (zFw z i v) w') ∨
 (∃ w',(execOp a.eval o).run P w=.ok .skip w'∧(∀ c,kn i=some c→undef=c)∧J (zB1 D i) (zFw z i undef) w')
def YJ (P:Program) (md:Region.Mode) (ops:Array Oper) (isM:Nat→Bool) (kn:Nat→Option Value) (J:(Nat→Bool)→(Nat→Value)→World→Prop) (z:Nat→Value) (i:Nat) (o:Oper) (v:Value) (a:Act):Prop :=
 (isM i=false∧Region.wanted o (yielded ops a.tmps)=true∧∀ D w,(∀ k,dep md ops isM i k=true→D k=true)→(∀ k,pre md ops isM k i=true→D k=false)→J D z w→(execOp a.eval o).run P w=.ok (.value v) w) ∨
 (isM i=false∧Region.wanted o (yielded ops a.tmps)=false∧v=undef) ∨
 (isM i=true∧Region.wanted o (yielded ops a.tmps)=true∧v=(kn i).getD (z i)∧∀ D z' w,D i=false→(∀ k,D k=true→z k=z' k)→(∀ k,dep md ops isM i k=true→D k=true)→(∀ k,pre md ops isM k i=true→D k=false)→J D z' w→Mv P kn J D z' i o a w)
theorem YJ.of_same {z:Nat→Value} {i:Nat} {o:Oper} {v:Value} {a a':Act} (h:YJ P md ops isM kn J z i o v a) (he:execOp a'.eval o=execOp a.eval o)
  (hw:Region.wanted o (yielded ops a'.tmps)=Region.wanted o (yielded ops a.tmps)):YJ P md ops isM kn J z i o v a':=by
 unfold YJ Mv at *
 rw [he,hw]
 exact h
theorem YJ.put {z:Nat→Value} {i:Nat} {oi oj:Oper} {v u:Value} {a:Act} (h:YJ P md ops isM kn J z i oi v a) (hap:oi.apart ops oj=true) (hsi:∀ cs b,oi.op≠.select cs b):YJ P md ops isM kn J z i oi v (a.put oj.dst u):=by
 obtain ⟨_,_,h3⟩:=Oper.apart_spec hap
 exact h.of_same (execOp_put oi hsi a oj.dst u h3) (wanted_put oi a oj.dst u h3)
theorem YJ.unput {z:Nat→Value} {j:Nat} {oi oj:Oper} {v u:Value} {a:Act} (h:YJ P md ops isM kn J z j oj u (a.put oi.dst v)) (hap:oi.apart ops oj=true) (hsj:∀ cs b,oj.op≠.select cs b):YJ P md ops isM kn J z j oj u a:=by
 obtain ⟨h1,_,_⟩:=Oper.apart_spec hap
 exact h.of_same (execOp_put oj hsj a oi.dst v h1).symm (wanted_put oj a oi.dst v h1).symm
def HJ (P:Program) (md:Region.Mode) (ops:Array Oper) (isM:Nat→Bool) (kn:Nat→Option Value) (J:(Nat→Bool)→(Nat→Value)→World→Prop) (z:Nat→Value) (n:Nat) (L:Array Bool→Act→Prop):Nat→Array Bool→Act→Prop
 | 0,listed,a=>L listed a
 | f+1,listed,a=>Region.ready md ops listed≠[]∧∀ i,i∈Region.ready md ops listed→i < n∧∃ oi v,ops[i]?=some oi∧YJ P md ops isM kn J z i oi v a∧HJ P md ops isM kn J z n L f (listed.setIfInBounds i true) (a.put oi.dst v)
theorem dm_set {listed:Array Bool} {i:Nat} (hi:listed.getD i true=false):Dm isM (listed.setIfInBounds i true)=if isM i=true then zB1 (Dm isM listed) i else Dm isM listed:=by
 have hlt:i < listed.size:=by
  rcases Nat.lt_or_ge i listed.size with h | h
  · exact h
  · simp [Array.getElem?_eq_none h] at hi
 funext k
 by_cases hm:isM i=true
 · rw [if_pos hm]
   show (isM k && (listed.setIfInBounds i true).getD k false)=if k=i then true else (isM k && listed.getD k false)
   by_cases e:k=i
   · subst e
     rw [if_pos rfl,hm]
     simp [hlt]
   · rw [if_neg e,getD_set_ne false (Ne.symm e)]
 · rw [if_neg hm]
   show (isM k && (listed.setIfInBounds i true).getD k false)=(isM k && listed.getD k false)
   by_cases e:k=i
   · subst e
     have:isM k=false:=by simpa using hm
     rw [this,Bool.false_and,Bool.false_and]
   · rw [getD_set_ne false (Ne.symm e)]
theorem any_J {n g:Nat} {L:(Nat→Value)→Array Bool→Act→Prop} {Q:Exit→Act→World→Prop} (hloc:∀ D z z' w,(∀ k,D k=true→z k=z' k)→J D z w→J D z' w)
  (hL:∀ z listed a w,J (Dm isM listed) z w→L z listed a→wpAny P md ops Q g listed a w) :
  ∀ (f:Nat) (listed:Array Bool) (a:Act) (w:World) (z:Nat→Value),HeadInv md ops n listed→J (Dm isM listed) z w→(∀ z',(∀ k,Dm isM listed k=true→z k=z' k)→HJ P md ops isM kn J z' n (L z') f listed a)→wpAny P md ops Q (f+g) listed a w:=by
 intro f
 induction f with
 | zero=>intro listed a w z _ hw h;rw [Nat.zero_add];exact hL _ _ _ _ hw (h z fun _ _=>rfl)
 | succ f ih =>
   intro listed a w z inv hJ h
   rw [show f+1+g=(f+g)+1 from by omega]
   have h0:=h z (fun _ _=>rfl)
   refine ⟨fun h1=>absurd h1 h0.1,fun i hi=>?_⟩
   obtain ⟨hin,oi,v,hoi,hy,hK⟩:=h0.2 i hi
   have hun:=(mem_ready.1 hi).1
   have hset:=dm_set (isM:=isM) hun
   have hdep:∀ k,dep md ops isM i k=true→Dm isM listed k=true:=fun k hk=>by
    unfold dep at hk
    rw [Bool.and_eq_true] at hk
    have hk2:k∈zKV md ops ops.size i:=by simpa using hk.2
    unfold Dm
    rw [hk.1,Bool.true_and]
    refine zD0 inv.closed _ _ (fun oj hj=>?_) k hk2
    obtain ⟨_,oj',hoj',hall⟩:=mem_ready.1 hi
    have e1:oj=oj':=Option.some.inj (hj.symm.trans hoj')
    subst e1
    exact hall
   have hpre:∀ k,pre md ops isM k i=true→Dm isM listed k=false:=fun k hk=>by
    unfold pre at hk
    rw [Bool.and_eq_true] at hk
    have hk2:i∈zKV md ops ops.size k:=by simpa using hk.2
    cases hD:Dm isM listed k with
    | false=>rfl
    | true =>
      unfold Dm at hD
      rw [Bool.and_eq_true] at hD
      have:=zD0 inv.closed _ _ (fun oj hj=>inv.closed k oj hj hD.2) i hk2
      rw [getD_both hun] at this
      cases this
   unfold wpOp
   simp only [hoi]
   rcases hy with ⟨hm,hwt,hv⟩ | ⟨hm,hwt,rfl⟩ | ⟨hm,hwt,rfl,hv⟩
   · have hrun:=hv _ w hdep hpre hJ
     simp only [hwt,if_true]
     refine .inl ?_
     unfold Oper.wp
     rw [hrun]
     rw [hm,if_neg (by decide)] at hset
     refine ih _ _ _ z (inv.set hi hin) (by rw [hset];exact hJ) (fun z' hz'=>?_)
     rw [hset] at hz'
     obtain ⟨_,oi',v',hoi',hy',hK'⟩:=(h z' hz').2 i hi
     have eo:oi'=oi:=Option.some.inj (hoi'.symm.trans hoi)
     subst eo
     rcases hy' with ⟨_,_,hv'⟩ | ⟨_,hwt',_⟩ | ⟨hm',_⟩
     · have e:=(hv' _ w hdep hpre (hloc _ _ _ _ hz' hJ)).symm.trans hrun
       injection e with e1 _
       injection e1 with e1
       rw [← e1];exact hK'
     · rw [hwt] at hwt';cases hwt'
     · rw [hm] at hm';cases hm'
   · simp only [hwt,Bool.false_eq_true,if_false]
     rw [hm,if_neg (by decide)] at hset
     refine ih _ _ _ z (inv.set hi hin) (by rw [hset];exact hJ) (fun z' hz'=>?_)
     rw [hset] at hz'
     obtain ⟨_,oi',v',hoi',hy',hK'⟩:=(h z' hz').2 i hi
     have eo:oi'=oi:=Option.some.inj (hoi'.symm.trans hoi)
     subst eo
     rcases hy' with ⟨_,hwt',_⟩ | ⟨_,_,e1⟩ | ⟨_,hwt',_⟩
     · rw [hwt] at hwt';cases hwt'
     · rw [← e1];exact hK'
     · rw [hwt] at hwt';cases hwt'
   · rw [hm,if_pos rfl] at hset
     simp only [hwt,if_true]
     refine .inl ?_
     have hDi:Dm isM listed i=false:=by unfold Dm;rw [getD_both hun,Bool.and_false]
     have next:∀ v' w',(∀ c,kn i=some c→v'=c)→J (zB1 (Dm isM listed) i) (zFw z i v') w'→wpAny P md ops Q (f+g) (listed.setIfInBounds i true) (a.put oi.dst v') w':=by
      intro v' w' hc hJ'
      refine ih _ _ _ (zFw z i v') (inv.set hi hin) (by rw [hset];exact hJ') (fun z'' hz''=>?_)
      rw [hset] at hz''
      have hzi:v'=z'' i:=by
       have:=hz'' i (by simp [zB1])
       simpa [zFw] using this
      obtain ⟨_,oi',u,hoi',hy',hK'⟩:=(h z'' (fun k hk=>by
       have hki:k≠i:=fun e=>by rw [e,hDi] at hk;cases hk
       have:=hz'' k (by simp [zB1,hk])
       simpa [zFw,hki] using this)).2 i hi
      have eo:oi'=oi:=Option.some.inj (hoi'.symm.trans hoi)
      subst eo
      rcases hy' with ⟨hm',_⟩ | ⟨hm',_⟩ | ⟨_,_,e1,_⟩
      · rw [hm] at hm';cases hm'
      · rw [hm] at hm';cases hm'
      · have e2:u=v':=by
         rw [e1]
         cases hkn:kn i with
         | none=>exact hzi.symm
         | some c=>exact (hc c hkn).symm
        rw [← e2];exact hK'
     rcases hv _ z w hDi (fun _ _=>rfl) hdep hpre hJ with ⟨fn,args,hr,hcalls⟩ | ⟨v',w',hr,hc,hJ'⟩ | ⟨w',hr,hc,hJ'⟩
     · unfold Oper.wp
       rw [hr]
       refine hcalls.mono ?_
       rintro e w'' ⟨v',rfl,hc,hJ'⟩
       exact next v' w'' hc hJ'
     · unfold Oper.wp
       rw [hr]
       exact next v' w' hc hJ'
     · unfold Oper.wp
       rw [hr]
       exact next undef w' hc hJ'
theorem zOM {z:Nat→Value} {n i:Nat} {oi:Oper} {v:Value} {L:Array Bool→Act→Prop} (hi:ops[i]?=some oi) (hsel:∀ (j:Nat) (o:Oper) cs b,ops[j]?=some o→o.op≠.select cs b)
  (hs:Region.sinkB md ops n=true) (hc:Region.chainB md ops n=true) (hn:n < ops.size) (hin:i < n) (hdone:∀ listed a,L listed a→∀ j,j∈Region.ready md ops listed→n≤j) :
  ∀ (f:Nat) (listed:Array Bool) (a:Act),HeadInv md ops n listed →
    (∀ j oj,ops[j]?=some oj→j≠i→listed.getD j true=false→(∀ e∈oj.after,Region.binds md e=true→e.on≠i)→oi.apart ops oj=true) →
    i∈Region.ready md ops listed→YJ P md ops isM kn J z i oi v a →
    HJ P md ops isM kn J z n L f (listed.setIfInBounds i true) (a.put oi.dst v)→HJ P md ops isM kn J z n L (f+1) listed a:=by
 intro f
 induction f with
 | zero =>
   intro listed a inv _ hr hy H
   have hun:=(mem_ready.1 hr).1
   refine ⟨fun h=>(by rw [h] at hr;cases hr),fun j hj=>?_⟩
   have hjn:j < n:=Nat.lt_of_not_le fun h=>tail_waits hs hc hn inv _ i rfl hin hun j h hj
   by_cases e:j=i
   · subst e;exact ⟨hjn,oi,v,hi,hy,H⟩
   · have:=hdone _ _ H j (ready_mono hj e)
     omega
 | succ f ih =>
   intro listed a inv hfree hr hy H
   have hun:=(mem_ready.1 hr).1
   refine ⟨fun h=>(by rw [h] at hr;cases hr),fun j hj=>?_⟩
   have hjn:j < n:=Nat.lt_of_not_le fun h=>tail_waits hs hc hn inv _ i rfl hin hun j h hj
   refine ⟨hjn,?_⟩
   by_cases e:j=i
   · subst e;exact ⟨oi,v,hi,hy,H⟩
   · obtain ⟨hjun,oj,hoj,hall⟩:=mem_ready.1 hj
     have hnot:∀ e∈oj.after,Region.binds md e=true→e.on≠i:=fun e' he hb heq=>by
      have h1:=hall e' he hb
      rw [heq,getD_both hun] at h1
      cases h1
     have hap:=hfree j oj hoj e hjun hnot
     obtain ⟨_,oj',u,hoj',hyj,hKj⟩:=H.2 j (ready_mono hj e)
     have e1:oj'=oj:=Option.some.inj (hoj'.symm.trans hoj)
     subst e1
     have hfree':∀ k ok,ops[k]?=some ok→k≠i→(listed.setIfInBounds j true).getD k true=false →
       (∀ e∈ok.after,Region.binds md e=true→e.on≠i)→oi.apart ops ok=true:=fun k ok hk hki hun' hno=>by
      refine hfree k ok hk hki ?_ hno
      by_cases hjk:j=k
      · subst hjk;exact hjun
      · rw [getD_set_ne true hjk] at hun';exact hun'
     refine ⟨oj',u,hoj,hyj.unput hap (fun cs b=>hsel j oj' cs b hoj),?_⟩
     refine ih (listed.setIfInBounds j true) _ (inv.set hj hjn) hfree' (ready_mono hr (Ne.symm e)) (hy.put hap (fun cs b=>hsel i oi cs b hi)) ?_
     rw [Array.setIfInBounds_comm _ _ e]
     have hcomm:=Act.put_comm a v u (Oper.apart_spec hap).2.1
     rw [← hcomm]
     exact hKj
def wpJ (P:Program) (ops:Array Oper) (isM:Nat→Bool) (kn:Nat→Option Value) (J:(Nat→Bool)→(Nat→Value)→World→Prop) (z:Nat→Value) (Lq:Act→Prop):List Oper→Nat→Act→Prop
 | [],_,a=>Lq a
 | o::rest,k,a=>∃ v,YJ P .any ops isM kn J z k o v a∧wpJ P ops isM kn J z Lq rest (k+1) (a.put o.dst v)
theorem lex_J {z:Nat→Value} {n g:Nat} {Lq:Act→Prop} (hsel:Region.noSelect ops=true) (hs:Region.sinkB .any ops n=true) (hc:Region.chainB .any ops n=true) (hn:n < ops.size) :
  ∀ (l:List Oper) (k:Nat) (listed:Array Bool) (a:Act),(∀ j,j < l.length→l[j]?=ops[k+j]?)→k+l.length=n→HeadInv .any ops n listed→(∀ i,i < k→listed.getD i false=true) →
  Region.lexHead .any ops g l.length k listed=true→wpJ P ops isM kn J z Lq l k a →
  HJ P .any ops isM kn J z n (fun listed' a'=>Region.seqB .any ops g n listed'=true∧(∀ i,i < n→listed'.getD i false=true)∧Lq a') l.length listed a:=by
 intro l
 induction l with
 | nil =>
   intro k listed a _ hk _ hdone hB h
   have:k=n:=by simpa using hk
   subst this
   exact ⟨by simpa [Region.lexHead] using hB,hdone,h⟩
 | cons o l ih =>
   intro k listed a hl hk inv hdone hB h
   have h0:ops[k]?=some o:=by simpa using (hl 0 (by simp)).symm
   simp only [List.length_cons,Region.lexHead,Bool.and_eq_true] at hB
   obtain ⟨⟨hr,hf⟩,hB'⟩:=hB
   have hkn:k < n:=by simp only [List.length_cons] at hk;omega
   have hr':k∈Region.ready .any ops listed:=by simpa using hr
   obtain ⟨v,hy,hK⟩:=h
   refine zOM h0 (Region.noSelect_spec hsel) hs hc hn hkn (fun listed' a' hL=>seqB_ready hL.1) l.length listed a inv (Region.free_spec h0 hf) hr' hy ?_
   refine ih (k+1) _ _ (fun j hj=>by have:=hl (j+1) (by simp;omega);simpa [Nat.add_assoc,Nat.add_comm 1 j] using this) (by simp only [List.length_cons] at hk;omega) (inv.set hr' hkn) (fun i hi=>?_) hB' hK
   have hks:k < listed.size:=by rw [inv.size];omega
   by_cases e:k=i
   · subst e;simp [hks]
   · rw [getD_set_ne false e];exact hdone i (by omega)
theorem zC4 {id:Nat} {Q:Exit→Act→World→Prop} {a:Act} {w:World} {l:List Oper} (n:Nat) (isM:Nat→Bool) (kn:Nat→Option Value) (J:(Nat→Bool)→(Nat→Value)→World→Prop) (hm:P.follows .mixedOrders=true)
  (hB:Region.lexTailB .any l.toArray n=true) (hM:∀ k,isM k=true→k < n) (hloc:∀ D z z' w,(∀ k,D k=true→z k=z' k)→J D z w→J D z' w) (hJ:J (fun _=>false) (fun _=>undef) w.drew)
  (h:∀ z,wpJ P l.toArray isM kn J z (fun a'=>∀ w',J isM z w'→wpList P l.toArray Q (l.drop n) a' w') (l.take n) 0 a) :
  (Code.region id l.toArray true).wp P Q a w:=by
 simp only [Region.lexTailB,Bool.and_eq_true,decide_eq_true_eq] at hB
 obtain ⟨⟨⟨⟨hsel,hn⟩,hs⟩,hc⟩,hlex⟩:=hB
 have hn':n < l.length:=by simpa using hn
 have htl:(l.take n).length=n:=by simp;omega
 have inv0:HeadInv .any l.toArray n (Array.replicate l.toArray.size false) :=
  ⟨by simp,fun j oj _ hl=>(by rw [getD_replicate_false] at hl;cases hl),fun t _ ht=>getD_in (by simpa using ht) (getD_replicate_false _ _)⟩
 have H:=fun z=>lex_J (isM:=isM) (kn:=kn) (J:=J) (z:=z) (g:=l.toArray.size - n) hsel hs hc hn (l.take n) 0 _ a (fun j hj=>by
  have hj':j < n:=by rw [htl] at hj;exact hj
  simp [hj']) (by simpa using htl) inv0 (fun i hi=>by omega) (by rw [htl];exact hlex) (h z)
 refine wp_region_any hm ?_
 have hD0:Dm isM (Array.replicate l.toArray.size false)=fun _=>false:=by
  funext k
  unfold Dm
  rw [getD_replicate_false,Bool.and_false]
 have:=any_J (n:=n) (isM:=isM) (kn:=kn) (J:=J) (Q:=Q) (g:=l.toArray.size - n) (L:=fun z listed' a'=>Region.seqB .any l.toArray (l.toArray.size - n) n listed'=true∧(∀ i,i < n→listed'.getD i false=true)∧∀ w',J isM z w'→wpList P l.toArray Q (l.drop n) a' w') hloc (fun z listed a' w' hw' hL=>by
  have e:l.toArray.size - n=(l.drop n).length:=by simp
  rw [e]
  refine wpAny_of_seq (l.drop n) n listed a' w' (fun j=>by simp) (by rw [← e];exact hL.1) (hL.2.2 w' ?_)
  have hDM:Dm isM listed=isM:=by
   funext k
   unfold Dm
   cases hk:isM k with
   | false=>rfl
   | true=>rw [hL.2.1 k (hM k hk)];rfl
  rwa [hDM] at hw') _ _ a w.drew (fun _=>undef) inv0 (by rw [hD0];exact hJ) (fun z' _=>H z')
 rw [htl,show n+(l.toArray.size - n)=l.toArray.size from by omega] at this
 exact this
theorem zKS {z:Nat→Value} {Lq:Act→Prop} {o:Oper} {rest:List Oper} {k:Nat} {a:Act} (hk:isM k=false) (v:Value) (hw:Region.wanted o (yielded ops a.tmps)=true) (h1:∀ D w,(∀ k',dep .any ops isM k k'=true→D k'=true)→(∀ k',pre .any ops isM k' k=true→D k'=false)→J D z w→(execOp a.eval o).run P w=.ok (.value v) w) (h:wpJ P ops isM kn J z Lq rest (k+1) (a.put o.dst v)) :
 wpJ P ops isM kn J z Lq (o::rest) k a:=⟨v,.inl ⟨hk,hw,h1⟩,h⟩
theorem zB0 {z:Nat→Value} {Lq:Act→Prop} {o:Oper} {rest:List Oper} {k:Nat} {a:Act} (hk:isM k=false) (hw:Region.wanted o (yielded ops a.tmps)=true) (h:∃ v,(∀ w,(execOp a.eval o).run P w=.ok (.value v) w)∧wpJ P ops isM kn J z Lq rest (k+1) (a.put o.dst v)) :
  wpJ P ops isM kn J z Lq (o::rest) k a:=by
 obtain ⟨v,h1,h2⟩:=h
 exact zKS hk v hw (fun _ w _ _ _=>h1 w) h2
theorem J_at {z:Nat→Value} {Lq:Act→Prop} {o:Oper} {rest:List Oper} {k:Nat} {a:Act} (hk:isM k=false) (hw:Region.wanted o (yielded ops a.tmps)=true) (h:∃ v,(∀ D w,(∀ k',dep .any ops isM k k'=true→D k'=true)→(∀ k',pre .any ops isM k' k=true→D k'=false)→J D z w→(execOp a.eval o).run P w=.ok (.value v) w)∧wpJ P ops isM kn J z Lq rest (k+1) (a.put o.dst v)) :
  wpJ P ops isM kn J z Lq (o::rest) k a:=by
 obtain ⟨v,h1,h2⟩:=h
 exact zKS hk v hw h1 h2
theorem zB2 {z:Nat→Value} {Lq:Act→Prop} {o:Oper} {rest:List Oper} {k:Nat} {a:Act} (hk:isM k=false) (hw:Region.wanted o (yielded ops a.tmps)=false) (h:wpJ P ops isM kn J z Lq rest (k+1) (a.put o.dst undef)) :
 wpJ P ops isM kn J z Lq (o::rest) k a:=⟨undef,.inr (.inl ⟨hk,hw,rfl⟩),h⟩
theorem zFe {z:Nat→Value} {Lq:Act→Prop} {o:Oper} {rest:List Oper} {k:Nat} {a:Act} (hk:isM k=false) (hw:Region.wanted o (yielded ops a.tmps)=true) (ty:TypeId) (x:Operand) (ho:o.op=.load ty x) (b off:Nat) (hx:a.eval x=.pointer (some ⟨b,off,none⟩)) (cs:List Value) {d:TypeDesc} (hC:∀ D w,(∀ k',dep .any ops isM k k'=true→D k'=true)→(∀ k',pre .any ops isM k' k=true→D k'=false)→J D z w→w.rangeAt b off cs)
  (hu:P.underlying ty=some d) (hd:d.isRow=true) (hi:(P.info? ty).map (·.size)=some cs.length) (h:wpJ P ops isM kn J z Lq rest (k+1) (a.put o.dst (.agg cs.toArray))):wpJ P ops isM kn J z Lq (o::rest) k a:=by
 refine zKS hk _ hw (fun D w hD hP hJ=>?_) h
 unfold execOp
 simp only [ho,hx,Instr.loadAt,Instr.sureAddr,Sem.run_bind,Sem.run_pure,Result.andThen_ok,run_loadVar_mid w b off ty cs d (hC D w hD hP hJ) hu hd hi]
theorem zC6 {z:Nat→Value} {Lq:Act→Prop} {o:Oper} {rest:List Oper} {k:Nat} {a:Act} (hk:isM k=true) (hw:Region.wanted o (yielded ops a.tmps)=true)
  (h1:∃ f args,(∀ w,(execOp a.eval o).run P w=.ok (.enter f args) w)∧∀ D z' w,D k=false→(∀ k',D k'=true→z k'=z' k')→(∀ k',dep .any ops isM k k'=true→D k'=true)→(∀ k',pre .any ops isM k' k=true→D k'=false)→J D z' w→Calls P f args w fun e w'=>∃ v,e=.returned v∧(∀ c,kn k=some c→v=c)∧J (zB1 D k) (zFw z' k v) w')
  (h:wpJ P ops isM kn J z Lq rest (k+1) (a.put o.dst ((kn k).getD (z k)))):wpJ P ops isM kn J z Lq (o::rest) k a:=by
 obtain ⟨f,args,hr,hc⟩:=h1
 exact ⟨_,.inr (.inr ⟨hk,hw,rfl,fun D z' w hD hz hd hp hJ=>.inl ⟨f,args,hr w,hc D z' w hD hz hd hp hJ⟩⟩),h⟩
end
end Go.Tail
end
section
namespace Go.Mem
open Go Go.RowKit Gf Lea
structure zG where
 slots:Nat
 room:Nat
 st:St
 tab:List Les
 broken:Bool
def zG.dead (s:zG):Bool:=s.broken || (s.st.disk.dead || s.st.dead)
def zI (ix:Key) (n:Nat):ByteArray:=⟨(115::(ix++[UInt8.ofNat n])).toArray⟩
def zw (ix:Key):ByteArray:=⟨(99::ix).toArray⟩
def zD (ix:Key):ByteArray:=⟨(108::ix).toArray⟩
end Go.Mem
namespace Go.Proofs.YtbbojbdigiibbaaGreatDoor
open Go Go.RowKit Go.Mem Gf Lea
def Core (pb sb lb d L tb:Nat) (v:Value) (b:Nat):Prop:=zBZ sb lb d L b∨b=pb∨b=tb∨v.ownBlock=some b
def srvV (slots room d sb tb:Nat) (broken:Bool):Array Value:=#[.int .i64 slots,.int .i64 room,.pointer (some ⟨d,0,none⟩),.pointer (some ⟨sb,0,none⟩),.pointer (some ⟨tb,0,none⟩),.bool broken]
structure zAp (w:World) (C X:Nat→Prop) (pb sb lb d L tb:Nat) (v:Value) (s:zG):Prop where
 blk:Blk w pb (srvV s.slots s.room d sb tb s.broken) 95
 st:zt w (fun b=>C b∨X b) sb lb d L s.st
 heap:Heap w tb v s.tab
 good:Lea.Good s.tab
 core:∀ b,Core pb sb lb d L tb v b→C b
 xc:∀ b,X b→¬ C b
 npb:¬ zBZ sb lb d L pb
 ntb:¬ zBZ sb lb d L tb∧tb≠pb
 nown:∀ g,v.ownBlock=some g→¬ zBZ sb lb d L g∧g≠pb
def zT (w:World) (C X:Nat→Prop) (pb:Nat) (s:zG):Prop:=∃ sb lb d L tb v,zAp w C X pb sb lb d L tb v s
section
variable {w w':World} {C X S:Nat→Prop} {pb sb lb d L tb:Nat} {v:Value} {s:zG}
theorem zAp.lt (h:zAp w C X pb sb lb d L tb v s) {b:Nat} (hb:C b∨X b):b < w.heap.size:=h.st.old b hb
theorem zAp.pb_lt (h:zAp w C X pb sb lb d L tb v s):pb < w.heap.size:=h.blk.lt
theorem zAp.tab (h:zAp w C X pb sb lb d L tb v s):Tab w:=h.st.tab
theorem zAp.chg (h:zAp w C X pb sb lb d L tb v s) (hc:Chg S w w') (h1:∀ b,S b→¬ C b) (h2:∀ b,S b→b < w.heap.size→X b):zAp w' C X pb sb lb d L tb v s:=by
 have hk:∀ b,Core pb sb lb d L tb v b→¬ S b:=fun b hb hS=>h1 b hS (h.core b hb)
 exact ⟨hc.blk h.blk (hk _ (.inr (.inl rfl))),h.st.chg hc (fun b hb=>hk b (.inl hb)) (fun b hS hlt=>.inr (h2 b hS hlt)),⟨h.heap.tab.chg hc (hk _ (.inr (.inr (.inl rfl)))) (fun g hg=>hk g (.inr (.inr (.inr hg)))),h.heap.heap⟩,h.good,h.core,h.xc,h.npb,h.ntb,h.nown⟩
theorem zAp.below (h:zAp w C X pb sb lb d L tb v s) (hb:Below w.heap.size w w'):zAp w' C X pb sb lb d L tb v s :=
 h.chg (S:=fun _=>False) (Chg.of_below hb) (fun _ h=>h.elim) (fun _ h=>h.elim)
theorem zT.below (h:zT w C X pb s) (hb:Below w.heap.size w w'):zT w' C X pb s:=by
 obtain ⟨sb,lb,d,L,tb,v,h⟩:=h
 exact ⟨sb,lb,d,L,tb,v,h.below hb⟩
theorem zT.chg (h:zT w C X pb s) (hc:Chg S w w') (h1:∀ b,S b→¬ C b) (h2:∀ b,S b→b < w.heap.size→X b):zT w' C X pb s:=by
 obtain ⟨sb,lb,d,L,tb,v,h⟩:=h
 exact ⟨sb,lb,d,L,tb,v,h.chg hc h1 h2⟩
theorem zT.lt (h:zT w C X pb s) {b:Nat} (hb:C b∨X b):b < w.heap.size:=by
 obtain ⟨sb,lb,d,L,tb,v,h⟩:=h
 exact h.lt hb
theorem zT.tab (h:zT w C X pb s):Tab w:=by
 obtain ⟨sb,lb,d,L,tb,v,h⟩:=h
 exact h.tab
theorem zT.ok (h:zT w C X pb s):s.st.Ok:=by
 obtain ⟨sb,lb,d,L,tb,v,h⟩:=h
 exact h.st.ok
theorem zT.growX {X':Nat→Prop} (h:zT w C X pb s) (h1:∀ b,X b→X' b) (h2:∀ b,X' b→X b∨w.heap.size≤b) (hb:Below w.heap.size w w') (h3:∀ b,X' b→b < w'.heap.size):zT w' C X' pb s:=by
 obtain ⟨sb,lb,d,L,tb,v,h⟩:=h
 have h':=h.below hb
 have hs:=hb.size
 refine ⟨sb,lb,d,L,tb,v,h'.blk,h.st.grow (S:=fun _=>False) (Chg.of_below hb) (fun _ _ h=>h) (fun _ h=>h.elim) (fun b hM=>?_) (fun b hN=>?_) (fun b hM=>?_),h'.heap,h'.good,h'.core,fun b hX hC=>?_,h'.npb,h'.ntb,h'.nown⟩
 · rcases hM with hM | hM
   · exact .inl (.inl hM)
   · rcases h2 b hM with h | h
     · exact .inl (.inr h)
     · exact .inr h
 · rcases hN with hN | hN
   · exact .inl hN
   · exact .inr (h1 b hN)
 · rcases hM with hM | hM
   · exact Nat.lt_of_lt_of_le (h.lt (.inl hM)) hs
   · exact h3 b hM
 · rcases h2 b hX with h4 | h4
   · exact h.xc b h4 hC
   · have:=h.lt (.inl hC);omega
def zAS (C C':Nat→Prop) (w w':World):Prop:=Chg C w w'∧∀ b,C' b→C b∨w.heap.size≤b
theorem zAS.of_below (hb:Below w.heap.size w w'):zAS C C w w':=⟨Chg.of_below hb,fun _ h=>.inl h⟩
theorem zAS.trans {C1 C2:Nat→Prop} {w1 w2:World} (h:zAS C C1 w w1) (h':zAS C1 C2 w1 w2):zAS C C2 w w2 :=
 ⟨h.1.mix h'.1 (fun b hb=>h.2 b hb),fun b hb=>by
  rcases h'.2 b hb with h1 | h1
  · exact h.2 b h1
  · exact .inr (Nat.le_trans h.1.size h1)⟩
theorem zAS.pre {C':Nat→Prop} {w1:World} (hb:Below w.heap.size w w1) (h':zAS C C' w1 w'):zAS C C' w w':=(zAS.of_below hb).trans h'
theorem zAS.post {C':Nat→Prop} {w1:World} (h:zAS C C' w w1) (hb:Below w1.heap.size w1 w'):zAS C C' w w':=h.trans (zAS.of_below hb)
end
attribute [local go_sem ↓] Go.wp_at_zero Go.wp_at_succ
set_option maxRecDepth 100000 in
theorem zKC (N:Nat→Prop) (sb lb d L:Nat) (s:St) (w:World) (h:zt w N sb lb d L s) :
  Calls Tryz.prog 44 #[.pointer (some ⟨sb,0,none⟩)] w fun e w'=>e=.returned (.bool s.dead)∧w=w':=by
 obtain ⟨lc,hS,hlc1,hlc2⟩:=h.blk
 have c3:w.cell? ⟨sb,3,none⟩=some (.bool s.dead):=hS.cell 3
 clear h hS
 go_enter Tryz.func44,Tryz.ntmps44
 go_wp2
 go_ret
 exact ⟨rfl,rfl⟩
set_option maxRecDepth 100000 in
theorem zCC (C X:Nat→Prop) (pb:Nat) (s:zG) (w:World) (h:zT w C X pb s) :
  Calls Tryz.prog 19 #[.pointer (some ⟨pb,0,none⟩)] w fun e w'=>e=.returned (.bool s.dead)∧w=w':=by
 obtain ⟨sb,lb,d,L,tb,v,h⟩:=h
 have c5:w.cell? ⟨pb,5,none⟩=some (.bool s.broken):=h.blk.cell 5
 have c2:w.cell? ⟨pb,2,none⟩=some (.pointer (some ⟨d,0,none⟩)):=h.blk.cell 2
 have c3:w.cell? ⟨pb,3,none⟩=some (.pointer (some ⟨sb,0,none⟩)):=h.blk.cell 3
 have H:=Lib.hid h
 clear h
 cases hbr:s.broken with
 | true =>
   have HD:=Lib.hid (show s.dead=true from by unfold zG.dead;rw [hbr];rfl)
   rw [hbr] at c5
   clear hbr
   go_enter Tryz.func19,Tryz.ntmps19
   go_wp2
   go_ret
   exact ⟨by rw [HD.out];rfl,rfl⟩
 | false =>
   have HD:=Lib.hid (show s.dead=(s.st.disk.dead || s.st.dead) from by unfold zG.dead;rw [hbr];rfl)
   rw [hbr] at c5
   clear hbr
   go_enter Tryz.func19,Tryz.ntmps19
   go_wp2_with fail
   refine (zJF d L s.st.disk w H.out.st.disk).mono ?_
   rintro e w1 ⟨rfl,rfl⟩
   cases hdd:s.st.disk.dead with
   | true =>
     rw [hdd] at HD
     clear hdd
     go_wp2
     go_ret
     exact ⟨by rw [HD.out];rfl,rfl⟩
   | false =>
     rw [hdd] at HD
     clear hdd
     go_wp2_with fail
     refine (zKC _ sb lb d L s.st w H.out.st).mono ?_
     rintro e w1 ⟨rfl,rfl⟩
     obtain ⟨b,hb⟩:∃ b,b=s.st.dead:=⟨_,rfl⟩
     rw [← hb] at HD ⊢
     clear hb
     cases b
     all_goals
      go_wp2
      go_ret
      exact ⟨by rw [HD.out];rfl,rfl⟩
set_option maxRecDepth 100000 in
theorem zU (n:Int) (w:World):Calls Tryz.prog 45 #[.int .i64 n] w fun e w'=>e=.returned (.agg #[.int .i64 n,.slice none 0 0])∧Below w.heap.size w w':=by
 go_enter Tryz.func45,Tryz.ntmps45
 go_wp2_with fail
 exact bodyPost_ret (v:=.agg #[.int .i64 n,.slice none 0 0]) (by simp [results,Tryz.results45,go_sem]) rfl ⟨rfl,(Below.refl _ _).alloc (Nat.le_refl _) _⟩
set_option maxRecDepth 100000 in
theorem zDk (e:Int) (w:World):Calls Tryz.prog 141 #[.int .i64 e] w fun r w'=>r=.returned (.bool (decide (May e)))∧w=w':=by
 by_cases h1:1≤e
 · by_cases h2:e≤1048576
   · have HD:=Lib.hid (show decide (May e)=true from by simp [May,h1,h2])
     go_enter Tryz.func141,Tryz.ntmps141
     go_wp2
     go_ret
     exact ⟨by rw [HD.out];rfl,rfl⟩
   · have HD:=Lib.hid (show decide (May e)=false from by simp [May,h1,h2])
     go_enter Tryz.func141,Tryz.ntmps141
     go_wp2
     go_ret
     exact ⟨by rw [HD.out];rfl,rfl⟩
 · have HD:=Lib.hid (show decide (May e)=false from by simp [May,h1])
   go_enter Tryz.func141,Tryz.ntmps141
   go_wp2
   go_ret
   exact ⟨by rw [HD.out];rfl,rfl⟩
end Go.Proofs.YtbbojbdigiibbaaGreatDoor
end
section
namespace Cod
open Go.Lib
end Cod
end
section
namespace Go.Proofs.YtbbojbdigiibbaaGreatDoor
open Go Go.RowKit Go.Mem Gf
attribute [local go_sem ↓] Go.wp_at_zero Go.wp_at_succ
theorem zND (u:UInt8) (w:World) (g:Nat) (h:w.cell? ⟨g,0,none⟩=some (.int .u8 ((u.toNat:Nat):Int))):(convert 51 9 (.slice (some ⟨g,0,none⟩) 1 1)).run Tryz.prog w=.ok (.string ⟨#[u]⟩) w:=by
 refine zCF (bs:=[u]) ⟨_,1,rfl,by simp,zAf (by decide),fun _=>⟨g,0,rfl,fun i v hi=>?_⟩⟩
 cases i with
 | zero=>simp at hi;subst hi;exact h
 | succ i=>simp at hi
end Go.Proofs.YtbbojbdigiibbaaGreatDoor
end
section
namespace Go.Proofs.YtbbojbdigiibbaaGreatDoor
open Go Go.RowKit Go.Mem Gf Lea
attribute [local go_sem ↓] Go.wp_at_zero Go.wp_at_succ
theorem zFQ {ix:Key} (h:ix.length=16) {w:World} {g:Nat} {t:TypeId} (hb:Blk w g (bV ix).toArray t):(convert 51 9 (.slice (some ⟨g,0,none⟩) 16 16)).run Tryz.prog w=.ok (.string ⟨ix.toArray⟩) w:=by
 have h1:Bys w (.slice (some ⟨g,0,none⟩) ix.length 16) ix:=Blk.bys hb (by omega) (zAf (by decide)) (fun k u hk=>by simp [zAr,hk])
 rw [h] at h1
 exact zCF h1
theorem zJm (c:UInt8) (ix:Key):((⟨#[c]⟩:ByteArray)++⟨ix.toArray⟩)=⟨(c::ix).toArray⟩:=by
 apply ByteArray.ext
 rw [ByteArray.data_append]
 simp
theorem zER (c:UInt8) {ix:Key} (h:ix.length=16):(⟨(c::ix).toArray⟩:ByteArray).size=17:=by
 show (c::ix).toArray.size=17
 simp [h]
set_option maxRecDepth 100000 in
theorem zDh (ix:Key) (h:ix.length=16) (w:World):Calls Tryz.prog 108 #[.agg (bV ix).toArray] w fun e w'=>e=.returned (.string (zw ix))∧Below w.heap.size w w':=by
 have hc:=zFQ h (Blk.new w (bV ix).toArray 39)
 have hl:(bV ix).length=16:=by rw [zB];exact h
 have HN:=Lib.hid (zJm 99 ix)
 have hz:(⟨ix.toArray⟩:ByteArray).size=16:=by show ix.toArray.size=16;simp [h]
 have hm:17≤maxLen:=zAf (by decide)
 clear h
 go_enter Tryz.func108,Tryz.ntmps108
 go_wp2_with fail
 go_ret
 exact ⟨by unfold zw;rw [← HN.out];rfl,(Below.refl _ _).alloc (Nat.le_refl _) _⟩
set_option maxRecDepth 100000 in
theorem zA8 (ix:Key) (h:ix.length=16) (w:World):Calls Tryz.prog 58 #[.agg (bV ix).toArray] w fun e w'=>e=.returned (.string (zD ix))∧Below w.heap.size w w':=by
 have hc:=zFQ h (Blk.new w (bV ix).toArray 39)
 have hl:(bV ix).length=16:=by rw [zB];exact h
 have HN:=Lib.hid (zJm 108 ix)
 have hz:(⟨ix.toArray⟩:ByteArray).size=16:=by show ix.toArray.size=16;simp [h]
 have hm:17≤maxLen:=zAf (by decide)
 clear h
 go_enter Tryz.func58,Tryz.ntmps58
 go_wp2_with fail
 go_ret
 exact ⟨by unfold zD;rw [← HN.out];rfl,(Below.refl _ _).alloc (Nat.le_refl _) _⟩
set_option maxRecDepth 100000 in
theorem zEG (ix:Key) (h:ix.length=16) (n:Nat) (hn:n < 16) (w:World):Calls Tryz.prog 107 #[.agg (bV ix).toArray,.int .i64 n] w fun e w'=>e=.returned (.string (zI ix n))∧Below w.heap.size w w':=by
 have hB:=Blk.new w (bV ix).toArray 39
 have hc1:=zFQ h hB.drew
 have hc2:=fun o=>zFQ h (hB.alloc o).drew
 have hl:(bV ix).length=16:=by rw [zB];exact h
 have hu:((UInt8.ofNat n).toNat:Int)=(n:Int):=by rw [UInt8.toNat_ofNat'];omega
 have hv:=zND (UInt8.ofNat n)
 rw [hu] at hv
 have w8:IntKind.u8.wrap (n:Int)=(n:Int):=by unfold IntKind.wrap;simp [IntKind.bits,IntKind.signed];omega
 obtain ⟨u,hue⟩:∃ u,u=UInt8.ofNat n:=⟨_,rfl⟩
 rw [← hue] at hv
 have HN:=Lib.hid (show ((⟨#[115]⟩:ByteArray)++⟨ix.toArray⟩)++⟨#[u]⟩=zI ix n from by
  unfold zI
  apply ByteArray.ext
  rw [ByteArray.data_append,ByteArray.data_append,← hue]
  simp)
 have hz:(⟨ix.toArray⟩:ByteArray).size=16:=by show ix.toArray.size=16;simp [h]
 have hm:18≤maxLen:=zAf (by decide)
 have hm2:17≤maxLen:=zAf (by decide)
 clear h hue hu
 go_enter Tryz.func107,Tryz.ntmps107
 go_wp2_with fail
 go_region_with fail
 all_goals
  go_wp2_with fail
  go_ret
  exact ⟨by rw [← HN.out];rfl,zA1 (w:=w) (((Below.refl _ _).alloc (by simp) _).alloc (by simp) _)⟩
end Go.Proofs.YtbbojbdigiibbaaGreatDoor
end
section
namespace Go.Mem
open Go Go.RowKit Gf
abbrev zM:=Int × List UInt8
def blV:List zM→List Value→List Value
 | x::l,v::vs=>[.int .i64 x.1,v]++blV l vs
 | _,_=>[]
theorem zI7:∀ (l:List zM) (vs:List Value) (x:zM) (v:Value),vs.length=l.length→blV (l++[x]) (vs++[v])=blV l vs++[.int .i64 x.1,v]
 | [],[],x,v,_=>rfl
 | x'::l,v'::vs,x,v,h=>by
   simp only [List.cons_append,blV,List.append_assoc]
   rw [zI7 l vs x v (by simpa using h)]
theorem zLa:∀ (l:List zM) (vs:List Value) (i:Nat) (x:zM) (v:Value),l[i]?=some x→vs[i]?=some v→(blV l vs)[i*2]?=some (.int .i64 x.1)∧(blV l vs)[i*2+1]?=some v
 | x::l,v::vs,0,x',v',h1,h2=>by
   simp at h1 h2
   subst h1 h2
   exact ⟨rfl,rfl⟩
 | x::l,v::vs,i+1,x',v',h1,h2=>by
   have:=zLa l vs i x' v' (by simpa using h1) (by simpa using h2)
   have e:∀ j,(blV (x::l) (v::vs))[(i+1)*2+j]?=(blV l vs)[i*2+j]?:=fun j=>by
    rw [blV,List.getElem?_append_right (by simp;omega)]
    congr 1
    simp;omega
   exact ⟨by rw [show (i+1)*2=(i+1)*2+0 from rfl,e];exact this.1,by rw [e];exact this.2⟩
 | [],_,i,x,v,h1,_=>by simp at h1
 | _::_,[],i,x,v,_,h2=>by simp at h2
def zAF (tr:TypeId) (w:World) (base:Nat) (N:Nat→Prop) (u:Value) (l:List zM):Prop :=
 ∃ vs:List Value,vs.length=l.length∧w.ownsRow base tr 2 u l.length (blV l vs)∧(∀ (j:Nat) (x:zM) (v:Value),l[j]?=some x→vs[j]?=some v→zAX w N v x.2)∧∀ v∈vs,∀ a n c,v=.slice (some a) n c→u.ownBlock≠some a.block
section
variable {tr:TypeId} {w w':World} {base:Nat} {N S:Nat→Prop} {u u' v:Value} {l:List zM} {x:zM}
theorem zAF.nil (tr:TypeId) (w:World) (base:Nat) (N:Nat→Prop):zAF tr w base N (.slice none 0 0) [] :=
 ⟨[],rfl,World.ownsRow_nil _ _ _ _,(fun j r v h=>by simp at h),fun v h=>by cases h⟩
theorem zAF.slice (h:zAF tr w base N u l):∃ a c,u=.slice a l.length c∧(0 < l.length→∃ g,a=some ⟨g,0,none⟩):=by
 obtain ⟨vs,_,h2,_⟩:=h
 exact zAE h2
theorem zAF.lt (h:zAF tr w base N u l):∀ g,u.ownBlock=some g→base≤g∧g < w.heap.size:=by
 obtain ⟨vs,_,h2,_⟩:=h
 exact h2.lt
theorem zAF.chg (h:zAF tr w base N u l) (hc:Chg S w w') (h1:∀ g,u.ownBlock=some g→¬ S g) (h2:∀ b,S b→b < w.heap.size→N b):zAF tr w' base N u l:=by
 obtain ⟨vs,a1,a2,a3,a4⟩:=h
 exact ⟨vs,a1,zAg a2 hc h1,fun j x v hx hv=>(a3 j x v hx hv).chg hc h2,a4⟩
theorem zAF.below (h:zAF tr w base N u l) (hb:Below w.heap.size w w'):zAF tr w' base N u l:=h.chg (S:=fun _=>False) (Chg.of_below hb) (fun _ _ h=>h) (fun _ h=>h.elim)
theorem zAF.mono {M:Nat→Prop} (h:zAF tr w base N u l) (hM:∀ b,M b→N b∨w.heap.size≤b):zAF tr w base M u l:=by
 obtain ⟨vs,a1,a2,a3,a4⟩:=h
 exact ⟨vs,a1,a2,fun j x v hx hv=>(a3 j x v hx hv).mono hM,a4⟩
theorem zAF.lower {b:Nat} (h:zAF tr w base N u l) (hb:b≤base):zAF tr w b N u l:=by
 obtain ⟨vs,a1,⟨a2,a2'⟩,a3,a4⟩:=h
 refine ⟨vs,a1,⟨a2,?_⟩,a3,a4⟩
 rcases a2' with h | ⟨g,cap,cur,e,h1,h2⟩
 · exact .inl h
 · exact .inr ⟨g,cap,cur,e,Nat.le_trans hb h1,h2⟩
theorem zAF.push {vs:List Value} (h1:vs.length=l.length) (h3:∀ (j:Nat) (x:zM) (v:Value),l[j]?=some x→vs[j]?=some v→zAX w N v x.2) (h4:∀ v∈vs,∀ a n c,v=.slice (some a) n c→u.ownBlock≠some a.block)
  (hx:zAX w N v x.2) (hne:∀ a n c,v=.slice (some a) n c→u.ownBlock≠some a.block) (hown:w'.ownsRow base tr 2 u' (l.length+1) (blV l vs++[.int .i64 x.1,v])) (hg:w.grownBy w' u.ownBlock) (hs:∀ k,u'.ownBlock=some k→u.ownBlock=some k∨w.heap.size≤k):zAF tr w' base N u' (l++[x]):=by
 have hd:∀ (v:Value) (bs:List UInt8),zAX w N v bs→(∀ a n c,v=.slice (some a) n c→u.ownBlock≠some a.block)→zAX w' N v bs:=by
  intro v bs hd hn
  obtain ⟨d1,a,c,rfl,d2⟩:=hd
  refine ⟨?_,a,c,rfl,fun b hb=>⟨Nat.lt_of_lt_of_le (d2 b hb).1 hg.size,(d2 b hb).2⟩⟩
  exact d1.chg (S:=fun q=>u.ownBlock=some q) (Chg.grown (Chg.refl _ _) hg (fun _ hq=>.inl hq)) (fun a' n' c' e=>by
   have:=hn a' n' c' e
   exact this)
 have hlt:∀ (v:Value) (bs:List UInt8),zAX w N v bs→∀ a n c,v=.slice (some a) n c→a.block < w.heap.size:=by
  intro v bs hd a n c e
  obtain ⟨_,a',c',rfl,d2⟩:=hd
  injection e with e1 _ _
  exact (d2 a e1).1
 refine ⟨vs++[v],by simp [h1],by rw [zI7 l vs x v h1,List.length_append];exact hown,fun j x' v' hx' hv'=>?_,fun v' hv' a n c e e2=>?_⟩
 · rcases Nat.lt_or_ge j l.length with hj | hj
   · rw [List.getElem?_append_left hj] at hx'
     rw [List.getElem?_append_left (by omega)] at hv'
     exact hd _ _ (h3 j x' v' hx' hv') (h4 v' (List.mem_of_getElem? hv'))
   · rw [List.getElem?_append_right hj] at hx'
     rw [List.getElem?_append_right (by omega),h1] at hv'
     have hj0:j - l.length=0:=by
      rcases Nat.eq_zero_or_pos (j - l.length) with h | h
      · exact h
      · rw [List.getElem?_eq_none (by simp;omega)] at hx';cases hx'
     rw [hj0] at hx' hv'
     simp at hx' hv'
     subst hx' hv'
     exact hd _ _ hx hne
 · rcases List.mem_append.1 hv' with hv' | hv'
   · obtain ⟨j,hj⟩:=List.mem_iff_getElem?.1 hv'
     have hjl:j < l.length:=by have:=(List.getElem?_eq_some_iff.1 hj).1;omega
     have hq:=hlt _ _ (h3 j l[j] v' (by simp) hj) a n c e
     rcases hs _ e2 with h | h
     · exact h4 v' hv' a n c e h
     · omega
   · rw [List.mem_singleton.1 hv'] at e
     have hq:=hlt _ _ hx a n c e
     rcases hs _ e2 with h | h
     · exact hne a n c e h
     · omega
end
end Go.Mem
namespace Go.Proofs.YtbbojbdigiibbaaGreatDoor
open Go Go.RowKit Go.Mem Gf Lea
theorem one2 (i:Int) (va:Option Addr) (n:Nat) {c:Nat}:∀ u∈[Value.int .i64 i,.slice va n c],u.oneCell'=true:=by
 intro u hu
 simp at hu
 rcases hu with rfl | rfl <;> rfl
theorem EKb:zDD Tryz.prog 41 53 (.agg #[.int .i64 0,.slice none 0 0]) 2 32:=⟨Tryz.underlying41,by kernel_rfl,rfl,by decide⟩
end Go.Proofs.YtbbojbdigiibbaaGreatDoor
namespace Go.Mem
def zG.sharesK (s:zG) (ix:Lea.Key) (k:Nat):List zM:=(List.range k).filterMap fun n=>(s.st.get (zI ix n)).map fun b=>((n:Int),b)
theorem zG.sharesK_succ (s:zG) (ix:Lea.Key) (k:Nat):s.sharesK ix (k+1)=s.sharesK ix k++((s.st.get (zI ix k)).map fun b=>((k:Int),b)).toList:=by
 unfold zG.sharesK
 rw [List.range_succ,List.filterMap_append]
 cases h:s.st.get (zI ix k) <;> simp [h]
def zG.shares (s:zG) (ix:Lea.Key):List zM:=s.sharesK ix 16
theorem zG.sharesK_len (s:zG) (ix:Lea.Key):∀ k,(s.sharesK ix k).length≤k
 | 0=>by simp [zG.sharesK]
 | k+1=>by
   rw [zG.sharesK_succ,List.length_append]
   have:=zG.sharesK_len s ix k
   cases s.st.get (zI ix k) <;> simp <;> omega
end Go.Mem
namespace Go.Proofs.YtbbojbdigiibbaaGreatDoor
open Go Go.RowKit Go.Mem Gf Lea
attribute [local go_sem ↓] Go.wp_at_zero Go.wp_at_succ
set_option maxRecDepth 100000 in
set_option maxHeartbeats 1000000 in
theorem zDg (C X:Nat→Prop) (pb:Nat) (s:zG) (ix:Key) (hix:ix.length=16) (w:World) (h:zT w C X pb s) :
  Calls Tryz.prog 106 #[.pointer (some ⟨pb,0,none⟩),.agg (bV ix).toArray] w fun e w'=>∃ u,e=.returned u∧zAF 53 w' w.heap.size (fun b=>b < w.heap.size) u (s.shares ix)∧Below w.heap.size w w':=by
 obtain ⟨sb,lb,d,L,tb,v,h⟩:=h
 have H:=Lib.hid h
 have hl:(bV ix).length=16:=by rw [zB];exact hix
 have HB:=Lib.hid ((Below.refl w.heap.size w).alloc (Nat.le_refl _) (.cells (bV ix).toArray 39))
 have HK:=Lib.hid (Blk.new w (bV ix).toArray 39)
 have HX:=Lib.hid hix
 obtain ⟨ck,hck⟩:∃ c,c=bV ix:=⟨_,rfl⟩
 have HCK:=Lib.hid hck
 rw [← hck] at hl HB HK ⊢
 have hu16:=Tryz.underlying39
 have hi16:(Tryz.prog.info? 39).map (·.size)=some ck.length:=by rw [hl];exact i16
 clear h hix hck
 go_enter Tryz.func106,Tryz.ntmps106
 go_upto_region 3 with fail
 obtain ⟨p3,hp3⟩:∃ p,p=w.heap.size:=⟨_,rfl⟩
 rw [← hp3] at HK ⊢
 have HP:=Lib.hid hp3
 clear hp3
 go_loopw [5,9] (fun u vi wr=>∃ i:Nat,i≤16∧vi=.int .i64 i∧Hid (zAF 53 wr (w.heap.size+1) (fun b=>b < w.heap.size) u (s.sharesK ix i)∧Below w.heap.size w wr∧Blk wr p3 ck.toArray 39)) (fun _ vi _=>16 - (intOf vi).toNat)
 case atStart=>exact ⟨0,by omega,rfl,zAF.nil _ _ _ _,HB.out,HK.out⟩
 case round =>
  obtain ⟨i,hi,rfl,G⟩:=hrel
  by_cases h0:i < 16
  · have c3:wr.drew.cell? ⟨pb,3,none⟩=some (.pointer (some ⟨sb,0,none⟩)):=(H.out.below G.out.2.1).blk.cell 3
    have r3:wr.drew.rangeAt p3 0 ck:=fun j v hj=>by
     rw [(G.out.2.2.drew).cell,Nat.zero_add]
     simpa using hj
    go_upto_region 5 with fail
    go_region_held3 (fun w'=>w'.cell? ⟨pb,3,none⟩=some (.pointer (some ⟨sb,0,none⟩))∧w'.rangeAt p3 0 ck) (first | exact ⟨c3,r3⟩ | with_reducible assumption)
     (first
      | (go_at_call 107
         refine (show Calls _ _ _ _ _ from (by rw [HCK.out];exact zEG ix HX.out i h0 wr.drew)).mono ?_
         rintro e w2 ⟨rfl,hb2⟩
         have hb2:Below wr.heap.size wr w2:=zA1 hb2
         have hh:w2.cell? ⟨pb,3,none⟩=some (.pointer (some ⟨sb,0,none⟩))∧w2.rangeAt p3 0 ck:=⟨((H.out.below G.out.2.1).below hb2).blk.cell 3,fun j v hj=>by
          rw [(G.out.2.2.kept hb2).cell,Nat.zero_add]
          simpa using hj⟩
         have HB2:=Lib.hid hb2
         clear hb2)
      | (go_at_call 57
         refine (zCs _ sb lb d L s.st (zI ix i) w2 ((H.out.below G.out.2.1).below HB2.out).st).mono ?_
         rintro e w4 ⟨hb4,vg,rfl,hvg⟩
         have HG:=Lib.hid (And.intro hb4 hvg)
         have hh:w4.cell? ⟨pb,3,none⟩=some (.pointer (some ⟨sb,0,none⟩))∧w4.rangeAt p3 0 ck:=⟨(((H.out.below G.out.2.1).below HB2.out).below hb4).blk.cell 3,fun j v hj=>by
          rw [((G.out.2.2.kept HB2.out).kept hb4).cell,Nat.zero_add]
          simpa using hj⟩
         clear hb4 hvg))
    have hsucc:=s.sharesK_succ ix i
    have hlen:=s.sharesK_len ix i
    have hb24:Below w.heap.size w w4:=(G.out.2.1.trans (HB2.out.mono G.out.2.1.size)).trans (HG.out.1.mono (Nat.le_trans G.out.2.1.size HB2.out.size))
    have hk4:=(G.out.2.2.kept HB2.out).kept HG.out.1
    have hO4:=(G.out.1.below HB2.out).below HG.out.1
    cases hget:s.st.get (zI ix i) with
    | none =>
      rw [hget,Option.map_none,Option.toList_none,List.append_nil] at hsucc
      have HS:=Lib.hid (And.intro hsucc (And.intro hb24 (And.intro hk4 hO4)))
      clear hsucc hlen hb24 hk4 hO4 hget c3 r3 hh
      rw [Option.isSome_none]
      go_wp2_with fail
      exact ⟨⟨i+1,by omega,by simp,by rw [HS.out.1];exact HS.out.2.2.2,HS.out.2.1,HS.out.2.2.1⟩,by show 16 - ((i:Int)+1).toNat < 16 - (i:Int).toNat;omega⟩
    | some bs =>
      have hvg:=HG.out.2
      rw [hget,Option.getD_some] at hvg
      rw [hget,Option.map_some,Option.toList_some] at hsucc
      obtain ⟨va,vc,rfl⟩:=hvg.eq_slice
      have hd:zAX w4 (fun b=>b < w.heap.size) (.slice va bs.length vc) bs:=hvg.data fun b hb _=>by have:=Nat.le_trans G.out.2.1.size HB2.out.size;omega
      have hdn:∀ a n c,Value.slice va bs.length vc=.slice (some a) n c→u5.ownBlock≠some a.block:=fun a n c e e2=>by
       injection e with e1 _ _
       have h1:=(hvg.lt a.block (by rw [e1];simp [Value.ownBlock])).1
       have h2:=(G.out.1.lt _ e2).2
       have:=HB2.out.size
       omega
      obtain ⟨ua,uc,rfl,_⟩:=hO4.slice
      have HS:=Lib.hid (And.intro hsucc (And.intro hb24 (And.intro hk4 (And.intro hO4 (And.intro hd hdn)))))
      clear hsucc hb24 hk4 hO4 hget hvg hd hdn c3 r3 hh
      rw [Option.isSome_some]
      have hz4:w.heap.size≤w4.heap.size:=HS.out.2.1.size
      have HZ:=Lib.hid (show w.heap.size+1≤w4.heap.size from by have:=HS.out.2.2.1.lt;have:=HP.out;omega)
      obtain ⟨vs,g1,g2,g3,g4⟩:=(HS.out.2.2.2.1.below ((Below.refl w4.heap.size w4).alloc (Nat.le_refl _) (.cells #[.int .i64 i,.slice va bs.length vc] 53)))
      have HV:=Lib.hid (And.intro g1 (And.intro g2 (And.intro g3 g4)))
      clear g1 g2 g3 g4
      go_wp2_with
       (first
        | (refine zCV (by rfl) (fun _ hK=>zIu EKb _ _ (by rfl) (base:=w.heap.size+1) [.int .i64 i,.slice va bs.length vc] (by rfl) (by rfl) (by rfl) (zEC (by rfl)) (one2 _ _ _) HV.out.2.1 (by omega) (by decide) (by have:=HZ.out;simp;omega) hK) ?_
           intro x1 w6 hx1
           have H6:=Lib.hid hx1
           clear hx1)
        | fail)
      have hrow:=zAF.push (x:=((i:Int),bs)) HV.out.1 HV.out.2.2.1 HV.out.2.2.2 (HS.out.2.2.2.2.1.chg (S:=fun _=>False) (Chg.of_below ((Below.refl w4.heap.size w4).alloc (Nat.le_refl _) _)) (fun _ h=>h.elim)) HS.out.2.2.2.2.2 H6.out.1 H6.out.2.1 H6.out.2.2
      have hb6:=zg (HS.out.2.1.alloc hz4 (.cells #[.int .i64 i,.slice va bs.length vc] 53)) H6.out.2.1 (fun k hk=>by have:=(G.out.1.lt k hk).1;omega)
      have hk6:=Blk.grown' (HS.out.2.2.1.alloc (.cells #[.int .i64 i,.slice va bs.length vc] 53)) H6.out.2.1 (fun e=>by have:=G.out.1.lt _ e;have:=HP.out;omega)
      exact ⟨⟨i+1,by omega,by simp,by rw [HS.out.1];exact hrow,hb6,hk6⟩,by show 16 - ((i:Int)+1).toNat < 16 - (i:Int).toNat;omega⟩
  · have hsh:s.sharesK ix i=s.shares ix:=by unfold zG.shares;congr 1;omega
    have HSH:=Lib.hid hsh
    clear hsh
    go_wp2_with fail
    go_ret
    exact ⟨_,rfl,by rw [← HSH.out];exact G.out.1.lower (by omega),G.out.2.1⟩
end Go.Proofs.YtbbojbdigiibbaaGreatDoor
end
section
namespace Lea
open Go
def zu (l:List Sec):List UInt8:=l.flatMap fun s=>Cod.zA9 [s.1,Cod.be 4 s.2.toNat]
theorem zMX (l:List Sec) (s:Sec):zu (l++[s])=zu l++Cod.zA9 [s.1,Cod.be 4 s.2.toNat]:=by
 unfold zu
 rw [List.flatMap_append,List.flatMap_cons,List.flatMap_nil,List.append_nil]
end Lea
namespace Go.Proofs.YtbbojbdigiibbaaGreatDoor
open Go Go.RowKit Go.Mem Gf Lea
theorem zG4 (k:Key) (h:k.length=16) (n:Nat):(Cod.zA9 [k,Cod.be 4 n]).length≤48:=by
 have h1:Lib.nDigits 16≤9:=by have:=dec_len 16 (by omega);rw [Lib.itoa_nonneg,Lib.decDigits_length] at this;exact this
 have h2:Lib.nDigits 4≤9:=by have:=dec_len 4 (by omega);rw [Lib.itoa_nonneg,Lib.decDigits_length] at this;exact this
 simp only [Cod.zA9,List.length_append,Cod.zCS,Cod.zAR,List.length_nil,h]
 omega
theorem zEU (l:List Sec) (h:∀ s∈l,s.1.length=16):(zu l).length≤48*l.length:=by
 induction l with
 | nil=>simp [zu]
 | cons s l ih =>
   have h1:=ih (fun x hx=>h x (by simp [hx]))
   have h2:=zG4 s.1 (h s (by simp)) s.2.toNat
   unfold zu at *
   rw [List.flatMap_cons,List.length_append,List.length_cons]
   omega
theorem rws2 {w:World} {g:Nat} {t:TypeId} {v1 v2:Value} {b1 b2:List UInt8} (h:Blk w g #[v1,v2] t) (h1:Bys w v1 b1) (h2:Bys w v2 b2):Rws w (.slice (some ⟨g,0,none⟩) 2 2) [b1,b2]:=by
 refine ⟨_,2,rfl,by simp,by decide,fun _=>⟨g,0,rfl,fun k r hk=>?_⟩⟩
 rw [Nat.zero_add]
 match k,hk with
 | 0,hk=>simp at hk;subst hk;exact ⟨v1,by rw [h.cell];rfl,h1⟩
 | 1,hk=>simp at hk;subst hk;exact ⟨v2,by rw [h.cell];rfl,h2⟩
 | k+2,hk=>simp at hk
attribute [local go_sem ↓] Go.wp_at_zero Go.wp_at_succ
attribute [local go_sem ↓] zBJ zCJ
attribute [local go_sem] ptrB_eq ptrO_eq ptrIs_eq aggL_eq aggIs_eq zS ze zC zF zX zZ zV zH zJ
set_option maxRecDepth 100000 in
set_option maxHeartbeats 1000000 in
theorem zK5 (w:World) (base:Nat) (v:Value) (l:List Sec) (h:zAh zAv WfL 17 165 w base v l) (he:∀ s∈l,0≤s.2∧s.2≤1048576) (hl:l.length≤1000) (hT:Tab w) :
  Calls Tryz.prog 110 #[v] w fun e w'=>∃ vo,e=.returned vo∧zBT 5 w' w.heap.size vo (zu l)∧Below w.heap.size w w':=by
 obtain ⟨p,c,rfl⟩:=h.slice
 obtain ⟨n,hn⟩:∃ n,n=l.length:=⟨_,rfl⟩
 have hrow:0 < n→∃ g,p=some ⟨g,0,none⟩∧zAq zAv WfL 17 165 w base g n c l:=fun h0=>by
  obtain ⟨g,cap,e,hr⟩:=h.ex (by omega)
  injection e with ea en ec
  rw [← ec,← hn] at hr
  exact ⟨g,ea,hr⟩
 rw [← hn] at hl ⊢
 have H:=Lib.hid (And.intro hrow (And.intro hn (And.intro he hT)))
 clear h hrow hn he hT
 go_enter Tryz.func110,Tryz.ntmps110
 go_upto_region 3 with fail
 go_loopw [3,8] (fun v3 vi wr=>∃ i:Nat,i≤n∧vi=.int .i64 i∧Hid (zBT 5 wr w.heap.size v3 (zu (l.take i))∧Below w.heap.size w wr)) (fun _ vi _=>n - (intOf vi).toNat)
 case atStart=>exact ⟨0,Nat.zero_le _,rfl,World.ownsRow_nil _ _ _ _,Below.refl _ _⟩
 case round =>
  obtain ⟨i,hi0,rfl,G⟩:=hrel
  by_cases hin:i < n
  · obtain ⟨g,rfl,hr0⟩:=H.out.1 (by omega)
    have hr:=hr0.chg (S:=fun _=>False) (Chg.of_below G.out.2) (fun h=>h)
    have hx:l[i]?=some (l[i]'(by have:=H.out.2.1;omega)):=by simp
    generalize l[i]'(by have:=H.out.2.1;omega)=x at hx
    have wx:=hr.wf x (List.mem_of_getElem? hx)
    have hxe:=H.out.2.2.1 x (List.mem_of_getElem? hx)
    have rx:=hr.read ecL hx
    have t1:zY 17 wr g (i*17):=hr.there hin
    have ax:=allL wx
    have lx:=ecL.len x wx
    have gl:g < wr.heap.size:=hr.lt
    have i0:(0:Int)≤(i:Int):=by omega
    have i1:(i:Int) < (n:Int):=by omega
    obtain ⟨m,hm⟩:∃ m:Nat,m=x.2.toNat:=⟨_,rfl⟩
    have hm2:x.2=(m:Int):=by omega
    have ce:=zJg wx
    rw [hm2] at ce
    have hsec:=fun (k:Nat) (u:UInt8) (hk:x.1[k]?=some u)=>zGq hk
    have hp1:zu (l.take (i+1))=zu (l.take i)++Cod.zA9 [x.1,Cod.be 4 m]:=by rw [List.take_add_one,hx,Option.toList_some,zMX,hm]
    have hpl:(zu (l.take i)).length≤48000:=by
     have:=zEU (l.take i) (fun s hs=>hr.wf s (List.mem_of_mem_take hs))
     rw [List.length_take] at this
     omega
    obtain ⟨cl,hcl⟩:∃ c,c=zAv x:=⟨_,rfl⟩
    rw [← hcl] at rx ax lx ce
    have hmb:m≤1048576:=by omega
    have HX:=Lib.hid (And.intro wx (And.intro hcl (And.intro hsec (And.intro hp1 hpl))))
    clear hr0 hr hx hxe hm hm2 hcl hsec hp1 hpl wx
    go_upto_region 5 with fail
    have hW1:Blk (wr.alloc (.cells cl.toArray 165)) wr.heap.size cl.toArray 165:=Blk.new _ _ _
    have hB1:Below wr.heap.size wr (wr.alloc (.cells cl.toArray 165)):=(Below.refl _ _).alloc (Nat.le_refl _) _
    obtain ⟨W1,hw1⟩:∃ W,W=wr.alloc (.cells cl.toArray 165):=⟨_,rfl⟩
    obtain ⟨p5,hp5⟩:∃ q,q=wr.heap.size:=⟨_,rfl⟩
    rw [← hw1] at hW1 hB1 ⊢
    rw [← hp5] at hW1 ⊢
    have HW:=Lib.hid (And.intro hW1 (And.intro hB1 hp5))
    clear hw1 hp5 hW1 hB1
    have c16:W1.cell? ⟨p5,16,none⟩=some (.int .i64 m):=by rw [HW.out.1.cell 16];exact ce
    go_region_law
     (first
      | (refine zHb E8c (by rfl) _ _ (by rfl) (base:=w.heap.size) (v:=u3) (xv:=v3) (bs:=zu (l.take i)) (news:=Cod.zA9 [x.1,Cod.be 4 m]) (by rfl) (by rfl) (zAg (S:=fun _=>False) HY.out.1 (Chg.of_below HZ.out.2) (fun _ _ h=>h)) HZ.out.1.bys (by have:=zG4 x.1 HX.out.1 m;have:=HX.out.2.2.2.2;omega) (Nat.le_trans G.out.2.size (Nat.le_trans HY.out.2.2.2.2.size HZ.out.2.size)) ?_
         intro v4 x4 hv4 hg4
         have HV:=Lib.hid (And.intro hv4 hg4)
         clear hv4 hg4)
      | (go_simp
         go_at_call 159
         refine (zJ0 m 4 (by omega) (by decide) (by decide) W1.drew).mono ?_
         rintro e w' ⟨vo,rfl,h2,h3⟩
         obtain ⟨pa,pc,rfl⟩:=h2.eq_slice
         have h3':Below W1.heap.size W1 w':=⟨h3.os,h3.tape,h3.output,h3.size,h3.block⟩
         have hbW:Below wr.heap.size wr w':=HW.out.2.1.trans (h3'.mono HW.out.2.1.size)
         have hO':=zAg (S:=fun _=>False) G.out.1 (Chg.of_below hbW) (fun _ _ h=>h)
         have hT':=H.out.2.2.2.below (G.out.2.trans (hbW.mono G.out.2.size))
         have hby1:Bys w' (.slice (some ⟨p5,0,none⟩) 16 16) x.1:=by
          have:=Blk.bys (HW.out.1.kept h3') (bs:=x.1) (cap:=16) (by rw [HX.out.1];omega) (by decide) (fun k u hk=>by rw [HX.out.2.1];simpa using HX.out.2.2.1 k u hk)
          rwa [HX.out.1] at this
         have HY:=Lib.hid (And.intro hO' (And.intro hT' (And.intro hby1 (And.intro h2.bys hbW))))
         rw [Cod.zAR] at HY ⊢
         clear h2 h3 h3' hO' hT' hby1 hbW)
      | (go_simp
         go_at_call 158
         refine (zDe _ [x.1,Cod.be 4 m] _ (HY.out.2.1.below ((Below.refl w'.heap.size w').alloc (Nat.le_refl _) _)) (rws2 (Blk.new _ _ _) (HY.out.2.2.1.below ((Below.refl w'.heap.size w').alloc (Nat.le_refl _) _)) (HY.out.2.2.2.1.below ((Below.refl w'.heap.size w').alloc (Nat.le_refl _) _))) (by have:=zG4 x.1 HX.out.1 m;omega)).mono ?_
         rintro e w3 ⟨v3,rfl,h3,hb3⟩
         have hb4:Below w'.heap.size w' w3:=((Below.refl w'.heap.size w').alloc (Nat.le_refl _) _).trans (hb3.mono (by simp))
         have HZ:=Lib.hid (And.intro h3 hb4)
         clear h3 hb3 hb4))
    all_goals go_wp2_with fail
    refine ⟨⟨i+1,by omega,by simp,by rw [HX.out.2.2.2.1];exact HV.out.1,?_⟩,by show n - ((i:Int)+1).toNat < n - (i:Int).toNat;omega⟩
    have hb5:Below w.heap.size w w3:=(G.out.2.trans (HY.out.2.2.2.2.mono G.out.2.size)).trans (HZ.out.2.mono (Nat.le_trans G.out.2.size HY.out.2.2.2.2.size))
    exact (Chg.grown (S:=fun k=>w.heap.size≤k) (Chg.of_below hb5) HV.out.2 (fun q hq=>.inl (G.out.1.lt _ hq).1)).below (Nat.le_refl _) (fun _ h=>h)
  · go_wp2_with fail
    go_ret
    have:=G.out.1
    rw [List.take_of_length_le (by have:=H.out.2.1;omega)] at this
    exact ⟨_,rfl,this,G.out.2⟩
end Go.Proofs.YtbbojbdigiibbaaGreatDoor
namespace Go.Proofs.YtbbojbdigiibbaaGreatDoor
open Go Go.RowKit Go.Mem Gf Lea
theorem zHi {w:World} {b o n c:Nat} {bs:List UInt8} (h:Bys w (.slice (some ⟨b,o,none⟩) n c) bs):w.rangeAt b o (bV bs):=fun j v hv=>by
 rw [zAr] at hv
 cases hu:bs[j]? with
 | none=>rw [hu] at hv;cases hv
 | some u =>
   rw [hu] at hv
   obtain ⟨a',c',e,_,_,h3⟩:=h
   injection e with e1 _ _
   obtain ⟨b',o',e',hc⟩:=h3 (by have:=zq hu;omega)
   rw [← e1] at e'
   injection e' with e'
   injection e' with e1 e2
   subst e1
   subst e2
   rw [hc j u hu]
   simpa using hv
theorem zCD (b o c:Nat) (w:World):(Instr.arrayAt 39 (.slice (some ⟨b,o,none⟩) 16 c)).run Tryz.prog w=.ok (.pointer (some ⟨b,o,none⟩)) w:=by kernel_rfl
def sLenB:Value→Nat
 | .slice _ n _=>n
 | _=>0
attribute [local go_sem ↓] Go.wp_at_zero Go.wp_at_succ
attribute [local go_sem ↓] zEQ zD2 zC1
attribute [local go_sem] zCD ptrB_eq ptrO_eq ptrIs_eq aggL_eq aggIs_eq zS zCA zC
end Go.Proofs.YtbbojbdigiibbaaGreatDoor
namespace Go.Proofs.YtbbojbdigiibbaaGreatDoor
open Go Go.RowKit Go.Mem Gf Lea
attribute [local go_sem ↓] Go.wp_at_zero Go.wp_at_succ
attribute [local go_sem ↓] zAK zBJ zCJ
attribute [local go_sem] ptrB_eq ptrO_eq ptrIs_eq aggL_eq aggIs_eq zS ze zC zF zX zZ zV zH zJ
set_option maxRecDepth 100000 in
set_option maxHeartbeats 1000000 in
theorem zEI (w:World) (tb:Nat) (v:Value) (l:List Les) (ix:Key) (h:LTab w tb v l) (hl:l.length≤90000) (hix:ix.length=16) (h8:(ofL l ix).length≤12) (hg:∀ x∈l,May x.e) (hT:Tab w) :
  Calls Tryz.prog 63 #[.pointer (some ⟨tb,0,none⟩),.agg (bV ix).toArray] w fun e w'=>∃ vo out,e=.returned vo∧zBT 5 w' w.heap.size vo (zu out)∧OfR l ix out∧Below w.heap.size w w':=by
 have H:=Lib.hid (And.intro h (And.intro hg hT))
 have k1:=(zAT hix).1
 have k2:=(zAT hix).2
 have HB:Hid (Below w.heap.size w (w.alloc (.cells (bV ix).toArray 39))):=(Below.refl _ _).alloc (Nat.le_refl _) _
 clear h hg hT
 go_enter Tryz.func63,Tryz.ntmps63
 go_wp2_with fail
 refine (zCo _ tb v l ix (H.out.1.below HB.out) (by omega) hix h8).mono ?_
 rintro r w1 ⟨vo,out,rfl,hO,hR,hB1⟩
 have hb1:=HB.out.trans (hB1.mono HB.out.size)
 have hlen:out.length≤12:=by rw [hR.perm.length_eq];exact h8
 have HO:=Lib.hid (And.intro hO (And.intro hR hb1))
 clear hO hR hB1 hb1
 go_wp2_with fail
 refine (zK5 w1 _ vo out HO.out.1 (fun s hs=>?_) (by omega) (H.out.2.2.below HO.out.2.2)).mono ?_
 · obtain ⟨x,hx,_,e⟩:=zBs.1 (HO.out.2.1.perm.mem_iff.1 hs)
   have:=H.out.2.1 x hx
   rw [← e]
   unfold May at this
   simp only
   omega
 rintro r w2 ⟨vb,rfl,hb,hB2⟩
 have HP:=Lib.hid (And.intro hb hB2)
 clear hb hB2
 go_wp2_with fail
 go_ret
 have hlo:=HP.out.1
 refine ⟨vb,out,rfl,⟨hlo.1,?_⟩,HO.out.2.1,HO.out.2.2.trans (HP.out.2.mono HO.out.2.2.size)⟩
 rcases hlo.2 with e | ⟨g,cap,cur,e1,h1,h2⟩
 · exact .inl e
 · exact .inr ⟨g,cap,cur,e1,Nat.le_trans HO.out.2.2.size h1,h2⟩
end Go.Proofs.YtbbojbdigiibbaaGreatDoor
end
