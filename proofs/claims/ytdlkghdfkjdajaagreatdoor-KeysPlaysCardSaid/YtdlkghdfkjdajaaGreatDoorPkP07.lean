/- Texts of this proof,packed: RegJ,RefLib,KeyMath,Hash,StoreBest,StoreOps,StoreText,Tag. -/
import Derived.Test.YtdlkghdfkjdajaaGreatDoorPkP02
import Derived.Test.YtdlkghdfkjdajaaGreatDoorPkP04
import Derived.Test.YtdlkghdfkjdajaaGreatDoorPkP06
import Derived.Test.YtdlkghdfkjdajaaGreatDoorPkP01
import Derived.Test.YtdlkghdfkjdajaaGreatDoorPkP00
import Derived.ChangeKeysEq
section
namespace Go.Tail
open Go
section
variable {P:Program} {ops:Array Oper} {md:Region.Mode} {isM:Nat→Bool} {kn:Nat→Option Value} {J:(Nat→Bool)→(Nat→Value)→World→Prop}
def zIf (md:Region.Mode) (ops:Array Oper):Nat→Nat→List Nat
 | 0,_=>[]
 | f+1,j=>match ops[j]? with
   | none=>[]
   | some o=>(o.after.toList.filter fun e=>Region.binds md e).flatMap fun e=>e.on::zIf md ops f e.on
theorem zCi {listed:Array Bool} (hcl:∀ j oj,ops[j]?=some oj→listed.getD j false=true→∀ e∈oj.after,Region.binds md e=true→listed.getD e.on false=true) :
  ∀ (f j:Nat),(∀ oj,ops[j]?=some oj→∀ e∈oj.after,Region.binds md e=true→listed.getD e.on false=true)→∀ k∈zIf md ops f j,listed.getD k false=true
 | 0,_,_,k,hk=>by cases hk
 | f+1,j,h,k,hk=>by
   unfold zIf at hk
   cases ho:ops[j]? with
   | none=>rw [ho] at hk;cases hk
   | some o =>
     rw [ho] at hk
     obtain ⟨e,he,hk⟩:=List.mem_flatMap.1 hk
     rw [List.mem_filter] at he
     have h1:=h o ho e (by simpa using he.1) he.2
     rcases List.mem_cons.1 hk with rfl | hk
     · exact h1
     · exact zCi hcl f e.on (fun oj hj=>hcl e.on oj hj h1) k hk
def Dm (isM:Nat→Bool) (listed:Array Bool):Nat→Bool:=fun k=>isM k && listed.getD k false
def zAp (D:Nat→Bool) (i:Nat):Nat→Bool:=fun k=>if k=i then true else D k
def zAb (z:Nat→Value) (i:Nat) (v:Value):Nat→Value:=fun k=>if k=i then v else z k
def dep (md:Region.Mode) (ops:Array Oper) (isM:Nat→Bool) (i k:Nat):Bool:=isM k && (zIf md ops ops.size i).contains k
def pre (md:Region.Mode) (ops:Array Oper) (isM:Nat→Bool) (k i:Nat):Bool:=isM k && (zIf md ops ops.size k).contains i
def Mv (P:Program) (kn:Nat→Option Value) (J:(Nat→Bool)→(Nat→Value)→World→Prop) (D:Nat→Bool) (z:Nat→Value) (i:Nat) (o:Oper) (a:Act) (w:World):Prop :=
 (∃ f args,(execOp a.eval o).run P w=.ok (.enter f args) w∧Calls P f args w fun e w'=>∃ v,e=.returned v∧(∀ c,kn i=some c→v=c)∧J (zAp D i) (zAb z i v) w') ∨
 (∃ v w',(execOp a.eval o).run P w=.ok (.value v) w'∧(∀ c,kn i=some c→v=c)∧J (zAp D i) (zAb z i v) w') ∨
 (∃ w',(execOp a.eval o).run P w=.ok .skip w'∧(∀ c,kn i=some c→undef=c)∧J (zAp D i) (zAb z i undef) w')
def YJ (P:Program) (md:Region.Mode) (ops:Array Oper) (isM:Nat→Bool) (kn:Nat→Option Value) (J:(Nat→Bool)→(Nat→Value)→World→Prop) (z:Nat→Value) (i:Nat) (o:Oper) (v:Value) (a:Act):Prop :=
 (isM i=false∧Region.wanted o (yielded ops a.tmps)=true∧∀ D w,(∀ k,dep md ops isM i k=true→D k=true)→(∀ k,pre md ops isM k i=true→D k=false)→J D z w→(execOp a.eval o).run P w=.ok (.value v) w) ∨
 (isM i=false∧Region.wanted o (yielded ops a.tmps)=false∧v=undef) ∨
 (isM i=true∧Region.wanted o (yielded ops a.tmps)=true∧v=(kn i).getD (z i)∧∀ D z' w,D i=false→(∀ k,D k=true→z k=z' k)→(∀ k,dep md ops isM i k=true→D k=true)→(∀ k,pre md ops isM k i=true→D k=false)→J D z' w→Mv P kn J D z' i o a w)
theorem YJ.of_same {z:Nat→Value} {i:Nat} {o:Oper} {v:Value} {a a':Act} (h:YJ P md ops isM kn J z i o v a) (he:execOp a'.eval o=execOp a.eval o)
  (hw:Region.wanted o (yielded ops a'.tmps)=Region.wanted o (yielded ops a.tmps)):YJ P md ops isM kn J z i o v a':=by
 unfold YJ Mv at *
 rw [he,hw]
 exact h
theorem YJ.put {z:Nat→Value} {i:Nat} {oi oj:Oper} {v u:Value} {a:Act} (h:YJ P md ops isM kn J z i oi v a) (hap:oi.apart ops oj=true) (hsi:∀ cs b,oi.op≠.select cs b):YJ P md ops isM kn J z i oi v (a.put oj.dst u):=by
 obtain ⟨_,_,h3⟩:=Oper.apart_spec hap
 exact h.of_same (execOp_put oi hsi a oj.dst u h3) (wanted_put oi a oj.dst u h3)
theorem YJ.unput {z:Nat→Value} {j:Nat} {oi oj:Oper} {v u:Value} {a:Act} (h:YJ P md ops isM kn J z j oj u (a.put oi.dst v)) (hap:oi.apart ops oj=true) (hsj:∀ cs b,oj.op≠.select cs b):YJ P md ops isM kn J z j oj u a:=by
 obtain ⟨h1,_,_⟩:=Oper.apart_spec hap
 exact h.of_same (execOp_put oj hsj a oi.dst v h1).symm (wanted_put oj a oi.dst v h1).symm
def HJ (P:Program) (md:Region.Mode) (ops:Array Oper) (isM:Nat→Bool) (kn:Nat→Option Value) (J:(Nat→Bool)→(Nat→Value)→World→Prop) (z:Nat→Value) (n:Nat) (L:Array Bool→Act→Prop):Nat→Array Bool→Act→Prop
 | 0,listed,a=>L listed a
 | f+1,listed,a=>Region.ready md ops listed≠[]∧∀ i,i∈Region.ready md ops listed→i < n∧∃ oi v,ops[i]?=some oi∧YJ P md ops isM kn J z i oi v a∧HJ P md ops isM kn J z n L f (listed.setIfInBounds i true) (a.put oi.dst v)
theorem dm_set {listed:Array Bool} {i:Nat} (hi:listed.getD i true=false):Dm isM (listed.setIfInBounds i true)=if isM i=true then zAp (Dm isM listed) i else Dm isM listed:=by
 have hlt:i < listed.size:=by
  rcases Nat.lt_or_ge i listed.size with h | h
  · exact h
  · simp [Array.getElem?_eq_none h] at hi
 funext k
 by_cases hm:isM i=true
 · rw [if_pos hm]
   show (isM k && (listed.setIfInBounds i true).getD k false)=if k=i then true else (isM k && listed.getD k false)
   by_cases e:k=i
   · subst e
     rw [if_pos rfl,hm]
     simp [hlt]
   · rw [if_neg e,getD_set_ne false (Ne.symm e)]
 · rw [if_neg hm]
   show (isM k && (listed.setIfInBounds i true).getD k false)=(isM k && listed.getD k false)
   by_cases e:k=i
   · subst e
     have:isM k=false:=by simpa using hm
     rw [this,Bool.false_and,Bool.false_and]
   · rw [getD_set_ne false (Ne.symm e)]
theorem any_J {n g:Nat} {L:(Nat→Value)→Array Bool→Act→Prop} {Q:Exit→Act→World→Prop} (hloc:∀ D z z' w,(∀ k,D k=true→z k=z' k)→J D z w→J D z' w)
  (hL:∀ z listed a w,J (Dm isM listed) z w→L z listed a→wpAny P md ops Q g listed a w) :
  ∀ (f:Nat) (listed:Array Bool) (a:Act) (w:World) (z:Nat→Value),HeadInv md ops n listed→J (Dm isM listed) z w→(∀ z',(∀ k,Dm isM listed k=true→z k=z' k)→HJ P md ops isM kn J z' n (L z') f listed a)→wpAny P md ops Q (f+g) listed a w:=by
 intro f
 induction f with
 | zero=>intro listed a w z _ hw h;rw [Nat.zero_add];exact hL _ _ _ _ hw (h z fun _ _=>rfl)
 | succ f ih =>
   intro listed a w z inv hJ h
   rw [show f+1+g=(f+g)+1 from by omega]
   have h0:=h z (fun _ _=>rfl)
   refine ⟨fun h1=>absurd h1 h0.1,fun i hi=>?_⟩
   obtain ⟨hin,oi,v,hoi,hy,hK⟩:=h0.2 i hi
   have hun:=(mem_ready.1 hi).1
   have hset:=dm_set (isM:=isM) hun
   have hdep:∀ k,dep md ops isM i k=true→Dm isM listed k=true:=fun k hk=>by
    unfold dep at hk
    rw [Bool.and_eq_true] at hk
    have hk2:k∈zIf md ops ops.size i:=by simpa using hk.2
    unfold Dm
    rw [hk.1,Bool.true_and]
    refine zCi inv.closed _ _ (fun oj hj=>?_) k hk2
    obtain ⟨_,oj',hoj',hall⟩:=mem_ready.1 hi
    have e1:oj=oj':=Option.some.inj (hj.symm.trans hoj')
    subst e1
    exact hall
   have hpre:∀ k,pre md ops isM k i=true→Dm isM listed k=false:=fun k hk=>by
    unfold pre at hk
    rw [Bool.and_eq_true] at hk
    have hk2:i∈zIf md ops ops.size k:=by simpa using hk.2
    cases hD:Dm isM listed k with
    | false=>rfl
    | true =>
      unfold Dm at hD
      rw [Bool.and_eq_true] at hD
      have:=zCi inv.closed _ _ (fun oj hj=>inv.closed k oj hj hD.2) i hk2
      rw [getD_both hun] at this
      cases this
   unfold wpOp
   simp only [hoi]
   rcases hy with ⟨hm,hwt,hv⟩ | ⟨hm,hwt,rfl⟩ | ⟨hm,hwt,rfl,hv⟩
   · have hrun:=hv _ w hdep hpre hJ
     simp only [hwt,if_true]
     refine .inl ?_
     unfold Oper.wp
     rw [hrun]
     rw [hm,if_neg (by decide)] at hset
     refine ih _ _ _ z (inv.set hi hin) (by rw [hset];exact hJ) (fun z' hz'=>?_)
     rw [hset] at hz'
     obtain ⟨_,oi',v',hoi',hy',hK'⟩:=(h z' hz').2 i hi
     have eo:oi'=oi:=Option.some.inj (hoi'.symm.trans hoi)
     subst eo
     rcases hy' with ⟨_,_,hv'⟩ | ⟨_,hwt',_⟩ | ⟨hm',_⟩
     · have e:=(hv' _ w hdep hpre (hloc _ _ _ _ hz' hJ)).symm.trans hrun
       injection e with e1 _
       injection e1 with e1
       rw [← e1];exact hK'
     · rw [hwt] at hwt';cases hwt'
     · rw [hm] at hm';cases hm'
   · simp only [hwt,Bool.false_eq_true,if_false]
     rw [hm,if_neg (by decide)] at hset
     refine ih _ _ _ z (inv.set hi hin) (by rw [hset];exact hJ) (fun z' hz'=>?_)
     rw [hset] at hz'
     obtain ⟨_,oi',v',hoi',hy',hK'⟩:=(h z' hz').2 i hi
     have eo:oi'=oi:=Option.some.inj (hoi'.symm.trans hoi)
     subst eo
     rcases hy' with ⟨_,hwt',_⟩ | ⟨_,_,e1⟩ | ⟨_,hwt',_⟩
     · rw [hwt] at hwt';cases hwt'
     · rw [← e1];exact hK'
     · rw [hwt] at hwt';cases hwt'
   · rw [hm,if_pos rfl] at hset
     simp only [hwt,if_true]
     refine .inl ?_
     have hDi:Dm isM listed i=false:=by unfold Dm;rw [getD_both hun,Bool.and_false]
     have next:∀ v' w',(∀ c,kn i=some c→v'=c)→J (zAp (Dm isM listed) i) (zAb z i v') w'→wpAny P md ops Q (f+g) (listed.setIfInBounds i true) (a.put oi.dst v') w':=by
      intro v' w' hc hJ'
      refine ih _ _ _ (zAb z i v') (inv.set hi hin) (by rw [hset];exact hJ') (fun z'' hz''=>?_)
      rw [hset] at hz''
      have hzi:v'=z'' i:=by
       have:=hz'' i (by simp [zAp])
       simpa [zAb] using this
      obtain ⟨_,oi',u,hoi',hy',hK'⟩:=(h z'' (fun k hk=>by
       have hki:k≠i:=fun e=>by rw [e,hDi] at hk;cases hk
       have:=hz'' k (by simp [zAp,hk])
       simpa [zAb,hki] using this)).2 i hi
      have eo:oi'=oi:=Option.some.inj (hoi'.symm.trans hoi)
      subst eo
      rcases hy' with ⟨hm',_⟩ | ⟨hm',_⟩ | ⟨_,_,e1,_⟩
      · rw [hm] at hm';cases hm'
      · rw [hm] at hm';cases hm'
      · have e2:u=v':=by
         rw [e1]
         cases hkn:kn i with
         | none=>exact hzi.symm
         | some c=>exact (hc c hkn).symm
        rw [← e2];exact hK'
     rcases hv _ z w hDi (fun _ _=>rfl) hdep hpre hJ with ⟨fn,args,hr,hcalls⟩ | ⟨v',w',hr,hc,hJ'⟩ | ⟨w',hr,hc,hJ'⟩
     · unfold Oper.wp
       rw [hr]
       refine hcalls.mono ?_
       rintro e w'' ⟨v',rfl,hc,hJ'⟩
       exact next v' w'' hc hJ'
     · unfold Oper.wp
       rw [hr]
       exact next v' w' hc hJ'
     · unfold Oper.wp
       rw [hr]
       exact next undef w' hc hJ'
theorem zLt {z:Nat→Value} {n i:Nat} {oi:Oper} {v:Value} {L:Array Bool→Act→Prop} (hi:ops[i]?=some oi) (hsel:∀ (j:Nat) (o:Oper) cs b,ops[j]?=some o→o.op≠.select cs b)
  (hs:Region.sinkB md ops n=true) (hc:Region.chainB md ops n=true) (hn:n < ops.size) (hin:i < n) (hdone:∀ listed a,L listed a→∀ j,j∈Region.ready md ops listed→n≤j) :
  ∀ (f:Nat) (listed:Array Bool) (a:Act),HeadInv md ops n listed →
    (∀ j oj,ops[j]?=some oj→j≠i→listed.getD j true=false→(∀ e∈oj.after,Region.binds md e=true→e.on≠i)→oi.apart ops oj=true) →
    i∈Region.ready md ops listed→YJ P md ops isM kn J z i oi v a →
    HJ P md ops isM kn J z n L f (listed.setIfInBounds i true) (a.put oi.dst v)→HJ P md ops isM kn J z n L (f+1) listed a:=by
 intro f
 induction f with
 | zero =>
   intro listed a inv _ hr hy H
   have hun:=(mem_ready.1 hr).1
   refine ⟨fun h=>(by rw [h] at hr;cases hr),fun j hj=>?_⟩
   have hjn:j < n:=Nat.lt_of_not_le fun h=>tail_waits hs hc hn inv _ i rfl hin hun j h hj
   by_cases e:j=i
   · subst e;exact ⟨hjn,oi,v,hi,hy,H⟩
   · have:=hdone _ _ H j (ready_mono hj e)
     omega
 | succ f ih =>
   intro listed a inv hfree hr hy H
   have hun:=(mem_ready.1 hr).1
   refine ⟨fun h=>(by rw [h] at hr;cases hr),fun j hj=>?_⟩
   have hjn:j < n:=Nat.lt_of_not_le fun h=>tail_waits hs hc hn inv _ i rfl hin hun j h hj
   refine ⟨hjn,?_⟩
   by_cases e:j=i
   · subst e;exact ⟨oi,v,hi,hy,H⟩
   · obtain ⟨hjun,oj,hoj,hall⟩:=mem_ready.1 hj
     have hnot:∀ e∈oj.after,Region.binds md e=true→e.on≠i:=fun e' he hb heq=>by
      have h1:=hall e' he hb
      rw [heq,getD_both hun] at h1
      cases h1
     have hap:=hfree j oj hoj e hjun hnot
     obtain ⟨_,oj',u,hoj',hyj,hKj⟩:=H.2 j (ready_mono hj e)
     have e1:oj'=oj:=Option.some.inj (hoj'.symm.trans hoj)
     subst e1
     have hfree':∀ k ok,ops[k]?=some ok→k≠i→(listed.setIfInBounds j true).getD k true=false →
       (∀ e∈ok.after,Region.binds md e=true→e.on≠i)→oi.apart ops ok=true:=fun k ok hk hki hun' hno=>by
      refine hfree k ok hk hki ?_ hno
      by_cases hjk:j=k
      · subst hjk;exact hjun
      · rw [getD_set_ne true hjk] at hun';exact hun'
     refine ⟨oj',u,hoj,hyj.unput hap (fun cs b=>hsel j oj' cs b hoj),?_⟩
     refine ih (listed.setIfInBounds j true) _ (inv.set hj hjn) hfree' (ready_mono hr (Ne.symm e)) (hy.put hap (fun cs b=>hsel i oi cs b hi)) ?_
     rw [Array.setIfInBounds_comm _ _ e]
     have hcomm:=Act.put_comm a v u (Oper.apart_spec hap).2.1
     rw [← hcomm]
     exact hKj
def wpJ (P:Program) (ops:Array Oper) (isM:Nat→Bool) (kn:Nat→Option Value) (J:(Nat→Bool)→(Nat→Value)→World→Prop) (z:Nat→Value) (Lq:Act→Prop):List Oper→Nat→Act→Prop
 | [],_,a=>Lq a
 | o::rest,k,a=>∃ v,YJ P .any ops isM kn J z k o v a∧wpJ P ops isM kn J z Lq rest (k+1) (a.put o.dst v)
theorem lex_J {z:Nat→Value} {n g:Nat} {Lq:Act→Prop} (hsel:Region.noSelect ops=true) (hs:Region.sinkB .any ops n=true) (hc:Region.chainB .any ops n=true) (hn:n < ops.size) :
  ∀ (l:List Oper) (k:Nat) (listed:Array Bool) (a:Act),(∀ j,j < l.length→l[j]?=ops[k+j]?)→k+l.length=n→HeadInv .any ops n listed→(∀ i,i < k→listed.getD i false=true) →
  Region.lexHead .any ops g l.length k listed=true→wpJ P ops isM kn J z Lq l k a →
  HJ P .any ops isM kn J z n (fun listed' a'=>Region.seqB .any ops g n listed'=true∧(∀ i,i < n→listed'.getD i false=true)∧Lq a') l.length listed a:=by
 intro l
 induction l with
 | nil =>
   intro k listed a _ hk _ hdone hB h
   have:k=n:=by simpa using hk
   subst this
   exact ⟨by simpa [Region.lexHead] using hB,hdone,h⟩
 | cons o l ih =>
   intro k listed a hl hk inv hdone hB h
   have h0:ops[k]?=some o:=by simpa using (hl 0 (by simp)).symm
   simp only [List.length_cons,Region.lexHead,Bool.and_eq_true] at hB
   obtain ⟨⟨hr,hf⟩,hB'⟩:=hB
   have hkn:k < n:=by simp only [List.length_cons] at hk;omega
   have hr':k∈Region.ready .any ops listed:=by simpa using hr
   obtain ⟨v,hy,hK⟩:=h
   refine zLt h0 (Region.noSelect_spec hsel) hs hc hn hkn (fun listed' a' hL=>seqB_ready hL.1) l.length listed a inv (Region.free_spec h0 hf) hr' hy ?_
   refine ih (k+1) _ _ (fun j hj=>by have:=hl (j+1) (by simp;omega);simpa [Nat.add_assoc,Nat.add_comm 1 j] using this) (by simp only [List.length_cons] at hk;omega) (inv.set hr' hkn) (fun i hi=>?_) hB' hK
   have hks:k < listed.size:=by rw [inv.size];omega
   by_cases e:k=i
   · subst e;simp [hks]
   · rw [getD_set_ne false e];exact hdone i (by omega)
theorem zT {id:Nat} {Q:Exit→Act→World→Prop} {a:Act} {w:World} {l:List Oper} (n:Nat) (isM:Nat→Bool) (kn:Nat→Option Value) (J:(Nat→Bool)→(Nat→Value)→World→Prop) (hm:P.follows .mixedOrders=true)
  (hB:Region.lexTailB .any l.toArray n=true) (hM:∀ k,isM k=true→k < n) (hloc:∀ D z z' w,(∀ k,D k=true→z k=z' k)→J D z w→J D z' w) (hJ:J (fun _=>false) (fun _=>undef) w.drew)
  (h:∀ z,wpJ P l.toArray isM kn J z (fun a'=>∀ w',J isM z w'→wpList P l.toArray Q (l.drop n) a' w') (l.take n) 0 a) :
  (Code.region id l.toArray true).wp P Q a w:=by
 simp only [Region.lexTailB,Bool.and_eq_true,decide_eq_true_eq] at hB
 obtain ⟨⟨⟨⟨hsel,hn⟩,hs⟩,hc⟩,hlex⟩:=hB
 have hn':n < l.length:=by simpa using hn
 have htl:(l.take n).length=n:=by simp;omega
 have inv0:HeadInv .any l.toArray n (Array.replicate l.toArray.size false) :=
  ⟨by simp,fun j oj _ hl=>(by rw [getD_replicate_false] at hl;cases hl),fun t _ ht=>getD_in (by simpa using ht) (getD_replicate_false _ _)⟩
 have H:=fun z=>lex_J (isM:=isM) (kn:=kn) (J:=J) (z:=z) (g:=l.toArray.size - n) hsel hs hc hn (l.take n) 0 _ a (fun j hj=>by
  have hj':j < n:=by rw [htl] at hj;exact hj
  simp [hj']) (by simpa using htl) inv0 (fun i hi=>by omega) (by rw [htl];exact hlex) (h z)
 refine wp_region_any hm ?_
 have hD0:Dm isM (Array.replicate l.toArray.size false)=fun _=>false:=by
  funext k
  unfold Dm
  rw [getD_replicate_false,Bool.and_false]
 have:=any_J (n:=n) (isM:=isM) (kn:=kn) (J:=J) (Q:=Q) (g:=l.toArray.size - n) (L:=fun z listed' a'=>Region.seqB .any l.toArray (l.toArray.size - n) n listed'=true∧(∀ i,i < n→listed'.getD i false=true)∧∀ w',J isM z w'→wpList P l.toArray Q (l.drop n) a' w') hloc (fun z listed a' w' hw' hL=>by
  have e:l.toArray.size - n=(l.drop n).length:=by simp
  rw [e]
  refine wpAny_of_seq (l.drop n) n listed a' w' (fun j=>by simp) (by rw [← e];exact hL.1) (hL.2.2 w' ?_)
  have hDM:Dm isM listed=isM:=by
   funext k
   unfold Dm
   cases hk:isM k with
   | false=>rfl
   | true=>rw [hL.2.1 k (hM k hk)];rfl
  rwa [hDM] at hw') _ _ a w.drew (fun _=>undef) inv0 (by rw [hD0];exact hJ) (fun z' _=>H z')
 rw [htl,show n+(l.toArray.size - n)=l.toArray.size from by omega] at this
 exact this
theorem zIc {z:Nat→Value} {Lq:Act→Prop} {o:Oper} {rest:List Oper} {k:Nat} {a:Act} (hk:isM k=false) (v:Value) (hw:Region.wanted o (yielded ops a.tmps)=true) (h1:∀ D w,(∀ k',dep .any ops isM k k'=true→D k'=true)→(∀ k',pre .any ops isM k' k=true→D k'=false)→J D z w→(execOp a.eval o).run P w=.ok (.value v) w) (h:wpJ P ops isM kn J z Lq rest (k+1) (a.put o.dst v)) :
 wpJ P ops isM kn J z Lq (o::rest) k a:=⟨v,.inl ⟨hk,hw,h1⟩,h⟩
theorem zI {z:Nat→Value} {Lq:Act→Prop} {o:Oper} {rest:List Oper} {k:Nat} {a:Act} (hk:isM k=false) (hw:Region.wanted o (yielded ops a.tmps)=true) (h:∃ v,(∀ w,(execOp a.eval o).run P w=.ok (.value v) w)∧wpJ P ops isM kn J z Lq rest (k+1) (a.put o.dst v)) :
  wpJ P ops isM kn J z Lq (o::rest) k a:=by
 obtain ⟨v,h1,h2⟩:=h
 exact zIc hk v hw (fun _ w _ _ _=>h1 w) h2
theorem zA0 {z:Nat→Value} {Lq:Act→Prop} {o:Oper} {rest:List Oper} {k:Nat} {a:Act} (hk:isM k=false) (hw:Region.wanted o (yielded ops a.tmps)=true) (h:∃ v,(∀ D w,(∀ k',dep .any ops isM k k'=true→D k'=true)→(∀ k',pre .any ops isM k' k=true→D k'=false)→J D z w→(execOp a.eval o).run P w=.ok (.value v) w)∧wpJ P ops isM kn J z Lq rest (k+1) (a.put o.dst v)) :
  wpJ P ops isM kn J z Lq (o::rest) k a:=by
 obtain ⟨v,h1,h2⟩:=h
 exact zIc hk v hw h1 h2
theorem zBc {z:Nat→Value} {Lq:Act→Prop} {o:Oper} {rest:List Oper} {k:Nat} {a:Act} (hk:isM k=false) (hw:Region.wanted o (yielded ops a.tmps)=true) (ty:TypeId) (x:Operand) (ho:o.op=.load ty x) (b off:Nat) (hx:a.eval x=.pointer (some ⟨b,off,none⟩)) (cs:List Value) {d:TypeDesc} (hC:∀ D w,(∀ k',dep .any ops isM k k'=true→D k'=true)→(∀ k',pre .any ops isM k' k=true→D k'=false)→J D z w→w.rangeAt b off cs)
  (hu:P.underlying ty=some d) (hd:d.isRow=true) (hi:(P.info? ty).map (·.size)=some cs.length) (h:wpJ P ops isM kn J z Lq rest (k+1) (a.put o.dst (.agg cs.toArray))):wpJ P ops isM kn J z Lq (o::rest) k a:=by
 refine zIc hk _ hw (fun D w hD hP hJ=>?_) h
 unfold execOp
 simp only [ho,hx,Instr.loadAt,Instr.sureAddr,Sem.run_bind,Sem.run_pure,Result.andThen_ok,run_loadVar_mid w b off ty cs d (hC D w hD hP hJ) hu hd hi]
theorem zAT {z:Nat→Value} {Lq:Act→Prop} {o:Oper} {rest:List Oper} {k:Nat} {a:Act} (hk:isM k=true) (hw:Region.wanted o (yielded ops a.tmps)=true)
  (h1:∃ f args,(∀ w,(execOp a.eval o).run P w=.ok (.enter f args) w)∧∀ D z' w,D k=false→(∀ k',D k'=true→z k'=z' k')→(∀ k',dep .any ops isM k k'=true→D k'=true)→(∀ k',pre .any ops isM k' k=true→D k'=false)→J D z' w→Calls P f args w fun e w'=>∃ v,e=.returned v∧(∀ c,kn k=some c→v=c)∧J (zAp D k) (zAb z' k v) w')
  (h:wpJ P ops isM kn J z Lq rest (k+1) (a.put o.dst ((kn k).getD (z k)))):wpJ P ops isM kn J z Lq (o::rest) k a:=by
 obtain ⟨f,args,hr,hc⟩:=h1
 exact ⟨_,.inr (.inr ⟨hk,hw,rfl,fun D z' w hD hz hd hp hJ=>.inl ⟨f,args,hr w,hc D z' w hD hz hd hp hJ⟩⟩),h⟩
theorem zKl {z:Nat→Value} {Lq:Act→Prop} {o:Oper} {rest:List Oper} {k:Nat} {a:Act} (hk:isM k=true) (hw:Region.wanted o (yielded ops a.tmps)=true)
  (h1:∀ D z' w,D k=false→(∀ k',D k'=true→z k'=z' k')→(∀ k',dep .any ops isM k k'=true→D k'=true)→(∀ k',pre .any ops isM k' k=true→D k'=false)→J D z' w→∃ w',(execOp a.eval o).run P w=.ok .skip w'∧(∀ c,kn k=some c→undef=c)∧J (zAp D k) (zAb z' k undef) w')
  (h:wpJ P ops isM kn J z Lq rest (k+1) (a.put o.dst ((kn k).getD (z k)))):wpJ P ops isM kn J z Lq (o::rest) k a :=
 ⟨_,.inr (.inr ⟨hk,hw,rfl,fun D z' w hD hz hd hp hJ=>.inr (.inr (h1 D z' w hD hz hd hp hJ))⟩),h⟩
end
end Go.Tail
end
section
namespace Go.Mem
open Go Go.RowKit Gf
def zA1 (w:World) (N:Nat→Prop) (v:Value) (bs:List UInt8):Prop :=
 Bys w v bs∧∃ a c,v=.slice a bs.length c∧(0 < bs.length→∀ b,a=some b→b.block < w.heap.size∧¬ N b.block)
theorem zAo.z {w:World} {N:Nat→Prop} {v:Value} {bs:List UInt8} (h:zAo w N v bs):zA1 w N v bs:=by
 obtain ⟨h1,a,c,h2,h3⟩:=h
 exact ⟨h1,a,c,h2,fun _=>h3⟩
theorem zA1.chg {S N:Nat→Prop} {w w':World} {v:Value} {bs:List UInt8} (h:zA1 w N v bs) (hc:Chg S w w') (hs:∀ b,S b→b < w.heap.size→N b):zA1 w' N v bs:=by
 obtain ⟨h1,a,c,rfl,h3⟩:=h
 rcases Nat.eq_zero_or_pos bs.length with h0 | h0
 · refine ⟨?_,a,c,rfl,fun h=>by omega⟩
   obtain ⟨a',c',e,g1,g2,_⟩:=h1
   exact ⟨a',c',e,g1,g2,fun h=>by omega⟩
 · refine ⟨h1.chg hc (fun a' l' c' e hS=>?_),a,c,rfl,fun _ b hb=>⟨Nat.lt_of_lt_of_le (h3 h0 b hb).1 hc.size,(h3 h0 b hb).2⟩⟩
   injection e with e1 _ _
   have:=h3 h0 a' e1
   exact this.2 (hs _ hS this.1)
theorem zA1.mono {N M:Nat→Prop} {w:World} {v:Value} {bs:List UInt8} (h:zA1 w N v bs) (hM:∀ b,M b→N b∨w.heap.size≤b):zA1 w M v bs:=by
 obtain ⟨h1,a,c,e,h3⟩:=h
 refine ⟨h1,a,c,e,fun h0 b hb=>⟨(h3 h0 b hb).1,fun hm=>?_⟩⟩
 have:=h3 h0 b hb
 rcases hM _ hm with h | h
 · exact this.2 h
 · omega
end Go.Mem
namespace Go.Tail
open Go
section
variable {P:Program} {ops:Array Oper} {isM:Nat→Bool} {kn:Nat→Option Value} {J:(Nat→Bool)→(Nat→Value)→World→Prop}
theorem zFt {z:Nat→Value} {Lq:Act→Prop} {o:Oper} {rest:List Oper} {k:Nat} {a:Act} (hk:isM k=true) (hw:Region.wanted o (yielded ops a.tmps)=true)
  (h1:∀ D z' w,D k=false→(∀ k',D k'=true→z k'=z' k')→(∀ k',dep .any ops isM k k'=true→D k'=true)→(∀ k',pre .any ops isM k' k=true→D k'=false)→J D z' w→∃ v w',(execOp a.eval o).run P w=.ok (.value v) w'∧(∀ c,kn k=some c→v=c)∧J (zAp D k) (zAb z' k v) w')
  (h:wpJ P ops isM kn J z Lq rest (k+1) (a.put o.dst ((kn k).getD (z k)))):wpJ P ops isM kn J z Lq (o::rest) k a :=
 ⟨_,.inr (.inr ⟨hk,hw,rfl,fun D z' w hD hz hd hp hJ=>.inr (.inl (h1 D z' w hD hz hd hp hJ))⟩),h⟩
end
end Go.Tail
namespace Go.Mem
open Go Go.RowKit Gf
end Go.Mem
namespace Go.Mem
open Go Go.RowKit Gf
section
variable {P:Program} {w:World} {ops:Array Oper} {rest:List Oper} {o:Oper} {a:Act} {Q:Exit→Act→World→Prop}
theorem zHH {α:Type} {enc:α→List Value} {Wf:α→Prop} {t e:TypeId} {z:Value} {size bytes:Nat} (E:zCf P t e z size bytes) (EC:zEa enc Wf size) (hgd:o.guard=none) (s x:Operand) (ho:o.op=.call { callee:=.builtin .append,args:=#[s,x],argTypes:=#[t,t] })
  (hs:a.eval s=.slice none 0 0) {L off n cap:Nat} {l:List α} (hw:∀ x∈l,Wf x) (hx:a.eval x=.slice (some ⟨L,off,none⟩) n cap) (hl:l.length=n) (hnews:∀ j u,(zBd enc l)[j]?=some u→w.cell? ⟨L,off+j,none⟩=some u)
  (hn:n≤maxLen) (hby:n*bytes≤140737488355328)
  (h:∀ v' w',zL enc Wf size e w' w.heap.size v' l→Below w.heap.size w w'→wpList P ops Q rest (a.put o.dst v') w'):wpList P ops Q (o::rest) a w:=by
 obtain ⟨i,hi,hz,hsz,hb⟩:=info_parts E.info
 refine wpList_plain hgd fun K hK=>wp_append_own w s x t ho w.heap.size e i z size bytes E.under hi hz hsz hb E.zsize E.pos (.slice none 0 0) 0 [] hs (World.ownsRow_nil _ _ _ _) ⟨L,off,none⟩ n cap (zBd enc l) hx (by rw [zCh EC l hw,hl])
  (fun j y hj=>by
   rw [show (⟨L,off,none⟩:Addr).add j=⟨L,off+j,none⟩ from by
    unfold Addr.add
    split
    · subst_vars;rfl
    · rfl]
   exact hnews j y hj) (zFw EC l) (by omega) (by rw [Nat.zero_add];exact hby) (Nat.le_refl _) (fun v' w' h2 h3 _=>hK _ _ ?_)
 rw [Nat.zero_add,List.nil_append] at h2
 exact h v' w' ⟨by rw [hl];exact h2,hw⟩ (zAE h3 rfl)
end
end Go.Mem
end
section
namespace Wot
abbrev Bs:=List UInt8
def text (tag:Bs) (l:List Bs):Bs:=Cod.net tag++Cod.zAU l
def tagged (tag:Bs) (l:List Bs):Bs:=Sha.sum (text tag l)
theorem tagged_len (tag:Bs) (l:List Bs):(tagged tag l).length=32:=Sha.zJs _
def tMsg:Bs:=[109,115,103]
def tStart:Bs:=[115,116,97,114,116]
def tStep:Bs:=[115,116,101,112]
def tPublic:Bs:=[112,117,98,108,105,99]
def tPrint:Bs:=[112,114,105,110,116]
def tNode:Bs:=[110,111,100,101]
def tPad:Bs:=[112,97,100]
def nib:Bs→List Nat
 | []=>[]
 | c::r=>c.toNat / 16::c.toNat % 16::nib r
theorem nib_len:∀ l:Bs,(nib l).length=2*l.length
 | []=>rfl
 | c::r=>by
   show (nib r).length+1+1=2*(r.length+1)
   rw [nib_len r];omega
theorem zLE:∀ (l:Bs),∀ d∈nib l,d≤15
 | [],d,h=>by cases h
 | c::r,d,h=>by
   have hc:c.toNat < 256:=c.toNat_lt
   rcases List.mem_cons.1 h with rfl | h
   · omega
   · rcases List.mem_cons.1 h with rfl | h
     · omega
     · exact zLE r d h
theorem nib_snoc (l:Bs) (c:UInt8):nib (l++[c])=nib l++[c.toNat / 16,c.toNat % 16]:=by
 induction l with
 | nil=>rfl
 | cons d r ih =>
   show _::_::nib (r++[c])=_
   rw [ih];rfl
def chk:Bs→Nat
 | []=>0
 | c::r=>30 - c.toNat / 16 - c.toNat % 16+chk r
theorem chk_snoc (l:Bs) (c:UInt8):chk (l++[c])=chk l+(30 - c.toNat / 16 - c.toNat % 16):=by
 induction l with
 | nil=>show _+0=0+_;omega
 | cons d r ih =>
   show _+chk (r++[c])=_+chk r+_
   rw [ih];omega
theorem chk_le:∀ l:Bs,chk l≤30*l.length
 | []=>Nat.le_refl _
 | c::r=>by
   have:=chk_le r
   show _+chk r≤30*(r.length+1)
   omega
def digitsOf (h:Bs):List Nat:=nib h++[chk h / 256,chk h / 16 % 16,chk h % 16]
def digits (m:Bs):List Nat:=digitsOf (tagged tMsg [m])
theorem zGU (h:Bs) (hl:h.length=32):(digitsOf h).length=67:=by
 unfold digitsOf
 rw [List.length_append,nib_len,hl]
 rfl
theorem digits_len (m:Bs):(digits m).length=67:=zGU _ (tagged_len _ _)
theorem zHR (h:Bs) (hl:h.length=32):∀ d∈digitsOf h,d≤15:=fun d hd=>by
 unfold digitsOf at hd
 have hc:=chk_le h
 rw [hl] at hc
 rcases List.mem_append.1 hd with hd | hd
 · exact zLE _ d hd
 · simp only [List.mem_cons,List.not_mem_nil,or_false] at hd
   rcases hd with rfl | rfl | rfl <;> omega
theorem digits_le (m:Bs):∀ d∈digits m,d≤15:=zHR _ (tagged_len _ _)
def step (h:Bs):Bs:=tagged tStep [h]
def along (h:Bs):Nat→Bs
 | 0=>h
 | n+1=>step (along h n)
theorem along_len {h:Bs} (hl:h.length=32):∀ n,(along h n).length=32
 | 0=>hl
 | n+1=>tagged_len tStep [along h n]
def start (seed:Bs) (leaf chain:Nat):Bs:=tagged tStart [seed,Cod.be 4 leaf,Cod.be 4 chain]
theorem start_len (seed:Bs) (leaf chain:Nat):(start seed leaf chain).length=32:=tagged_len _ _
def ends (seed:Bs) (leaf n:Nat):List Bs:=(List.range n).map fun c=>along (start seed leaf c) 15
def publicOf (l:List Bs):Bs:=tagged tPublic l
def pub (seed:Bs) (leaf:Nat):Bs:=publicOf (ends seed leaf 67)
def vals (seed:Bs) (leaf:Nat) (ds:List Nat):List Bs:=(List.range ds.length).map fun c=>along (start seed leaf c) (ds.getD c 0)
def signO (seed:Bs) (leaf:Nat) (m:Bs):List Bs:=vals seed leaf (digits m)
theorem ends_snoc (seed:Bs) (leaf n:Nat):ends seed leaf (n+1)=ends seed leaf n++[along (start seed leaf n) 15]:=by
 unfold ends
 rw [List.range_succ,List.map_append]
 rfl
theorem signO_len (seed:Bs) (leaf:Nat) (m:Bs):(signO seed leaf m).length=67:=by
 unfold signO vals
 rw [List.length_map,List.length_range,digits_len]
def node (a b:Bs):Bs:=tagged tNode [a,b]
def up:List Bs→List Bs
 | a::b::r=>node a b::up r
 | _=>[]
theorem up_len:∀ (n:Nat) (l:List Bs),l.length=2*n→(up l).length=n
 | 0,l,h=>by
   cases l with
   | nil=>rfl
   | cons a l=>simp at h
 | n+1,l,h=>by
   cases l with
   | nil=>simp at h
   | cons a l =>
     cases l with
     | nil=>simp at h;omega
     | cons b r =>
       simp only [List.length_cons] at h
       show (up r).length+1=n+1
       rw [up_len n r (by omega)]
theorem up_get:∀ (i:Nat) (l:List Bs),2*i+1 < l.length→(up l)[i]?=some (node (l.getD (2*i) []) (l.getD (2*i+1) []))
 | 0,l,h=>by
   cases l with
   | nil=>simp at h
   | cons a l =>
     cases l with
     | nil=>simp at h
     | cons b r=>rfl
 | i+1,l,h=>by
   cases l with
   | nil=>simp at h
   | cons a l =>
     cases l with
     | nil=>simp at h
     | cons b r =>
       simp only [List.length_cons] at h
       show (up r)[i]?=_
       rw [up_get i r (by omega)]
       rfl
def root:Nat→List Bs→Bs
 | 0,l=>l.getD 0 []
 | h+1,l=>root h (up l)
def twin (i:Nat):Nat:=if i % 2=0 then i+1 else i - 1
def proof:Nat→Nat→List Bs→List Bs
 | 0,_,_=>[]
 | h+1,i,l=>l.getD (twin i) []::proof h (i / 2) (up l)
theorem proof_len:∀ (h i:Nat) (l:List Bs),(proof h i l).length=h
 | 0,_,_=>rfl
 | h+1,i,l=>by
   show (proof h (i / 2) (up l)).length+1=h+1
   rw [proof_len h]
def leaves (seed:Bs) (n:Nat):List Bs:=(List.range n).map (pub seed)
theorem leaves_len (seed:Bs) (n:Nat):(leaves seed n).length=n:=by unfold leaves;rw [List.length_map,List.length_range]
theorem leaves_snoc (seed:Bs) (n:Nat):leaves seed (n+1)=leaves seed n++[pub seed n]:=by
 unfold leaves
 rw [List.range_succ,List.map_append]
 rfl
def zL0 (height:Nat) (r:Bs):Bs:=tagged tPrint [Cod.be 1 height,r]
def print (seed:Bs) (height:Nat):Bs:=zL0 height (root height (leaves seed (2 ^ height)))
theorem zJv:∀ (l:List Bs),∀ x∈up l,x.length=32
 | [],x,h=>by cases h
 | [_],x,h=>by cases h
 | a::b::r,x,h=>by
   rcases List.mem_cons.1 h with rfl | h
   · exact tagged_len _ _
   · exact zJv r x h
def lvl:Nat→List Bs→List Bs
 | 0,l=>l
 | j+1,l=>up (lvl j l)
theorem zIz:∀ (j:Nat) (l:List Bs),lvl (j+1) l=lvl j (up l)
 | 0,_=>rfl
 | j+1,l=>by
   show up (lvl (j+1) l)=up (lvl j (up l))
   rw [zIz j l]
theorem lvl_len {h:Nat} {l:List Bs} (hl:l.length=2 ^ h):∀ j,j≤h→(lvl j l).length=2 ^ (h - j)
 | 0,_=>by rw [Nat.sub_zero];exact hl
 | j+1,hj=>by
   have ih:=lvl_len hl j (by omega)
   show (up (lvl j l)).length=_
   refine up_len _ _ ?_
   rw [ih,show h - j=(h - (j+1))+1 from by omega,Nat.pow_succ]
   omega
theorem lvl_each {l:List Bs} (hl:∀ x∈l,x.length=32):∀ j,∀ x∈lvl j l,x.length=32
 | 0=>hl
 | j+1=>zJv (lvl j l)
theorem root_lvl:∀ (h:Nat) (l:List Bs),root h l=(lvl h l).getD 0 []
 | 0,_=>rfl
 | h+1,l=>by
   rw [zIz]
   exact root_lvl h (up l)
theorem proof_lvl:∀ (h i:Nat) (l:List Bs),proof h i l=(List.range h).map fun q=>(lvl q l).getD (twin (i / 2 ^ q)) []
 | 0,_,_=>rfl
 | h+1,i,l=>by
   rw [List.range_succ_eq_map,List.map_cons,List.map_map]
   show l.getD (twin i) []::proof h (i / 2) (up l)=_
   rw [proof_lvl h (i / 2) (up l)]
   congr 1
   · rw [Nat.pow_zero,Nat.div_one]
     rfl
   · apply List.map_congr_left
     intro q _
     show _=(lvl (q+1) l).getD (twin (i / 2 ^ (q+1))) []
     rw [zIz,Nat.pow_succ,Nat.mul_comm,Nat.div_div_eq_div_mul]
def rowsN (l:List Bs) (n:Nat):List (List Bs):=(List.range n).map fun q=>lvl q l
theorem rowsN_succ (l:List Bs) (n:Nat):rowsN l (n+1)=rowsN l n++[lvl n l]:=by
 unfold rowsN
 rw [List.range_succ,List.map_append]
 rfl
theorem rowsN_len (l:List Bs) (n:Nat):(rowsN l n).length=n:=by unfold rowsN;rw [List.length_map,List.length_range]
theorem rowsN_get (l:List Bs) {n q:Nat} (h:q < n):(rowsN l n)[q]?=some (lvl q l):=by
 unfold rowsN
 rw [List.getElem?_map,List.getElem?_range h]
 rfl
end Wot
end
section
namespace Go.Mem
open Go Go.RowKit Gf
theorem zCz {P:Program} {w:World} {ops:Array Oper} {rest:List Oper} {o:Oper} {a:Act} {Q:Exit→Act→World→Prop} {α:Type} {enc:α→List Value} {Wf:α→Prop} {t e:TypeId} {z:Value} {size bytes:Nat} (E:zCf P t e z size bytes) (EC:zEa enc Wf size) (hgd:o.guard=none) (s x:Operand) (ho:o.op=.call { callee:=.builtin .append,args:=#[s,x],argTypes:=#[t,t] })
  {base:Nat} {v:Value} {l:List α} (ys:List α) (hy:∀ y∈ys,Wf y) (hs:a.eval s=v) {mb m cx:Nat} (hx:a.eval x=.slice (some ⟨mb,0,none⟩) m cx) (hm:ys.length=m) {e':TypeId} (hnews:Blk w mb (zBd enc ys).toArray e')
  (hown:zL enc Wf size e w base v l) (hn:l.length+m≤4294967296) (hby:bytes≤4096) (hbase:base≤w.heap.size)
  (h:∀ v' w',zL enc Wf size e w' base v' (l++ys)→w.grownBy w' v.ownBlock→(∀ k,v'.ownBlock=some k→v.ownBlock=some k∨w.heap.size≤k)→wpList P ops Q rest (a.put o.dst v') w'):wpList P ops Q (o::rest) a w :=
 zCW hgd (fun _ hK=>zLf E s x ho (zBd enc ys) hs hx (by rw [zCh EC ys hy,hm]) (fun j u hj=>by rw [hnews.cell];simpa using hj) (zFw EC ys) hown.own hn hby hbase hK) fun v' w' h2=>h v' w'
  ⟨by rw [List.length_append,hm,zHE];exact h2.1,fun q hq=>by
   rcases List.mem_append.1 hq with hq | hq
   · exact hown.wf q hq
   · exact hy q hq⟩ h2.2.1 h2.2.2
end Go.Mem
namespace Go.Proofs.YtdlkghdfkjdajaaGreatDoor
open Go Go.RowKit Go.Mem Gf
set_option linter.unusedVariables false
def WfH (h:List UInt8):Prop:=h.length=32
theorem ecH:zEa bV WfH 32:=⟨fun x h=>by rw [zG];exact h,zAQ,by decide⟩
theorem EKh:zCf Tryz.prog 46 34 (.agg (List.replicate 32 (Value.int .u8 0)).toArray) 32 32:=⟨Tryz.underlying46,by kernel_rfl,rfl,by decide⟩
theorem zm (dst:Option Tmp) (x:Operand) (ty:TypeId) (pos:String) (af:Array Edge) (a:Act) (w:World) (K:Act→World→Prop) (Q:Exit→Act→World→Prop) (hy:zBX (a.eval x)=true) (hc:zAS 32 (zAu (a.eval x))) :
  Oper.wp Tryz.prog ⟨dst,.buildSlice 46 1 #[(0,x)],ty,pos,af,none⟩ a w K Q=K (a.put dst (.slice (some ⟨w.heap.size,0,none⟩) 1 1)) (w.alloc (.cells (zAu (a.eval x)).toArray 34)) :=
 zKj Tryz.underlying46 (by kernel_rfl) (by decide) (by decide) dst x ty pos af a w K Q hy hc
theorem zLv {h:List UInt8} (hl:h.length=32):cutC (bV h).toArray 0 32=bV h∧(bV h).length=32∧zAS 32 (bV h):=by
 have h1:(bV h).length=32:=by rw [zG];exact hl
 exact ⟨by unfold cutC;rw [List.toList_toArray,List.drop_zero,List.take_of_length_le (by omega)],h1,h1,fun v hv=>zAQ _ v hv⟩
theorem zK5 (w:World) (i:Nat) (hi:i < 32) (l:List Value) (x:Value) (hx:l[i]?=some x):(Instr.index 34 (.agg l.toArray) (.int .i64 (i:Int))).run Tryz.prog w=.ok x w:=by
 have hn:0≤(i:Int)∧(i:Int) < ((32:Nat):Int):=by omega
 obtain ⟨inf,hinf⟩:=Option.isSome_iff_exists.1 (show (Tryz.prog.info? 5).isSome=true by kernel_rfl)
 have hc:Tryz.prog.cellsOf 5=1:=by kernel_rfl
 simp only [Instr.index,asIntOf,Sem.run_bind,Sem.run_pure,Result.andThen_ok,run_underlying Tryz.underlying34,hn,and_self,if_true]
 rw [run_sizeOf w hinf,hc]
 simp only [Result.andThen_ok,Int.toNat_natCast,Nat.mul_one]
 have he:Tryz.prog.plainKey 5=true:=by kernel_rfl
 have hx':l.toArray[i]?=some x:=by rw [List.getElem?_toArray];exact hx
 exact run_part_plain w he hx'
def zH:Array Value:=#[Value.int IntKind.u8 0,.int .u8 0,.int .u8 0,.int .u8 0,.int .u8 0,.int .u8 0,.int .u8 0,.int .u8 0,.int .u8 0,.int .u8 0,.int .u8 0,.int .u8 0,.int .u8 0,.int .u8 0,.int .u8 0,.int .u8 0,.int .u8 0,.int .u8 0,.int .u8 0,.int .u8 0,.int .u8 0,.int .u8 0,.int .u8 0,.int .u8 0,.int .u8 0,.int .u8 0,.int .u8 0,.int .u8 0,.int .u8 0,.int .u8 0,.int .u8 0,.int .u8 0]
theorem zL9:zH.size=32:=rfl
theorem zAP {w4:World} {p:Nat} {h:List UInt8} (hl:h.length=32) (hz:Blk w4 p zH 34):zi 32 w4 p 0∧zAS 32 (bV h)∧(loadVar 34 ⟨p,0,none⟩).run Tryz.prog (w4.setCells p 0 (bV h))=.ok (.agg (bV h).toArray) (w4.setCells p 0 (bV h)):=by
 have h1:zi 32 w4 p 0:=zQ hz (by rw [zL9];omega)
 have h2:=(zLv hl).2.2
 exact ⟨h1,h2,zBy h1 h2⟩
theorem zAI {w w4:World} {p:Nat} (cs:List Value) (hb:Below w.heap.size w w4) (hp:w.heap.size≤p):Below w.heap.size w (w4.setCells p 0 cs) :=
 (Chg.setCells (S:=fun b=>b=p) (L:=p) rfl _ _ _ (Chg.of_below hb)).below (Nat.le_refl _) (fun k hk=>by rw [hk];exact hp)
theorem zAg {w:World} {b:Nat} {h:List UInt8} {t:TypeId} {n:Nat} (hb:Blk w b (bV h).toArray t) (hl:h.length=n) (hn:n≤1000):Bys w (.slice (some ⟨b,0,none⟩) n n) h:=by
 subst hl
 exact hb.bys (Nat.le_refl _) (zAC (by omega)) (fun i u hi=>by
  rw [List.getElem?_toArray,zAd,hi]
  rfl)
end Go.Proofs.YtdlkghdfkjdajaaGreatDoor
end
section
namespace Go.Proofs.YtdlkghdfkjdajaaGreatDoor
open Go Go.RowKit Go.Mem Gf
attribute [local go_sem ↓] Go.wp_at_zero Go.wp_at_succ
theorem zDc (l:List Sto.Rec) (name:ByteArray):∀ k j,Sto.best l name k=some j→j < k∧∃ r,l[j]?=some r∧r.is=true∧(r.name.toList == name.toList)=true
 | 0,j,h=>by simp [Sto.best] at h
 | k+1,j,h=>by
   simp only [Sto.best] at h
   split at h
   · have:=zDc l name k j h;exact ⟨by omega,this.2⟩
   · rename_i r hr
     split at h
     · rename_i hc
       cases h
       exact ⟨by omega,r,hr,hc.1,hc.2.1⟩
     · have:=zDc l name k j h;exact ⟨by omega,this.2⟩
theorem zJ6 {l:List Sto.Rec} {name:ByteArray} {i:Nat} {r:Sto.Rec} (h:l[i]?=some r):Sto.best l name (i+1)=if r.is=true∧(r.name.toList == name.toList)=true∧(∀ j,Sto.best l name i=some j→(l.getD j Sto.Rec.free).num < r.num) then some i else Sto.best l name i:=by
 rw [Sto.best,h]
set_option maxRecDepth 20000 in
set_option maxHeartbeats 1000000 in
theorem zDM (N:Nat→Prop) (sb lb d n cap room:Nat) (dead:Bool) (l:List Sto.Rec) (name:ByteArray) (w:World) (hB:Blk w sb (stV d room (some ⟨lb,0,none⟩) n cap dead) 73) (hR:zAk 75 w N lb l) (hn:n=l.length) (hn2:n≤1000000) (hnc:n≤cap) (hcm:cap≤9223372036854775807) (hnum:∀ r∈l,r.num≤4611686018427387904) :
  Calls Tryz.prog 29 #[.pointer (some ⟨sb,0,none⟩),.string name] w fun e w'=>e=.returned (.int .i64 (zBg (Sto.best l name n)))∧Below w.heap.size w w':=by
 have c2:w.cell? ⟨sb,2,none⟩=some (.slice (some ⟨lb,0,none⟩) n cap):=hB.cell 2
 have Hn:=Lib.hid hn;have HB:=Lib.hid hB;have HR:=Lib.hid hR;have Hnum:=Lib.hid hnum
 clear hn hB hR hnum
 go_enter Tryz.func29,Tryz.ntmps29
 go_wp2_with fail
 go_loopw [5,13] (fun u v wr=>∃ i:Nat,i≤n∧v=.int .i64 i∧u=.int .i64 (zBg (Sto.best l name i))∧Below w.heap.size w wr) (fun _ v _=>n - (intOf v).toNat)
 case atStart=>exact ⟨0,by omega,rfl,rfl,Below.refl _ _⟩
 case round =>
  obtain ⟨i,hi,rfl,rfl,hb⟩:=hrel
  by_cases h0:i < n
  · obtain ⟨r,hr⟩:∃ r,l[i]?=some r:=⟨l[i]'(by have:=Hn.out;omega),by simp⟩
    have hRr:=HR.out.below hb
    obtain ⟨a,c,c3,c4,c5,c6,_,_⟩:=hRr.at hr
    have i0:(0:Int)≤(i:Int):=by omega
    have i1:(i:Int) < (n:Int):=by omega
    have Hr:=Lib.hid hr;have HRr:=Lib.hid hRr
    have hBr:=HB.out.kept hb
    have HBr:=Lib.hid hBr
    have hbx:=Blk.new wr (zH5 r (.slice a r.data.length c)) 75
    have hbb:Below wr.heap.size wr (wr.alloc (.cells (zH5 r (.slice a r.data.length c)) 75)):=(Below.refl _ _).alloc (Nat.le_refl _) _
    obtain ⟨wb,hwb⟩:∃ wb,wb=wr.alloc (.cells (zH5 r (.slice a r.data.length c)) 75):=⟨_,rfl⟩
    obtain ⟨bx,hbxe⟩:∃ bx,bx=wr.heap.size:=⟨_,rfl⟩
    have Hstep:=Lib.hid (zJ6 (name:=name) hr)
    clear hr hRr hBr
    go_upto_region 5 with fail
    rw [show (wr.alloc (.cells #[.bool r.is,.string r.name,.int .i64 (r.num:Int),.slice a r.data.length c] 75))=wb from hwb.symm,← hbxe]
    rw [← hwb,← hbxe] at hbx
    rw [← hwb] at hbb
    have b0:wb.cell? ⟨bx,0,none⟩=some (.bool r.is):=hbx.cell 0
    have b1:wb.cell? ⟨bx,1,none⟩=some (.string r.name):=hbx.cell 1
    have b2:wb.cell? ⟨bx,2,none⟩=some (.int .i64 (r.num:Int)):=hbx.cell 2
    have hbw:=Lib.hid (hb.trans (hbb.mono hb.size))
    have Hbb:=Lib.hid hbb
    clear hwb hbxe hbx hbb c3 c4 c5 c6
    by_cases k1:r.is=true
    · by_cases k2:(r.name.toList == name.toList)=true
      · cases hbest:Sto.best l name i with
        | none =>
          have Hfin:=Lib.hid (show Sto.best l name (i+1)=some i from by rw [Hstep.out,if_pos ⟨k1,k2,fun j h=>by rw [hbest] at h;cases h⟩])
          rw [k1] at b0
          clear k1 hbest
          simp only [zBg]
          go_quiet (fail)
          go_wp2
          exact ⟨⟨i+1,by omega,by go_num,by rw [Hfin.out];rfl,below_drewN hbw.out _⟩,by simp [intOf] <;> omega⟩
        | some j =>
          obtain ⟨hj,rj,hrj,_⟩:=zDc l name i j hbest
          obtain ⟨a2,c2',_,_,e5,_⟩:=(HRr.out.below Hbb.out).at hrj
          have s2:wb.cell? ⟨sb,2,none⟩=some (.slice (some ⟨lb,0,none⟩) n cap):=(HBr.out.kept Hbb.out).cell 2
          have j0:(0:Int)≤(j:Int):=by omega
          have j1:(j:Int) < (n:Int):=by omega
          have j2:decide ((j:Int) < 0)=false:=by simp <;> omega
          have j3:j < n:=by omega
          have n1:=Hnum.out rj (List.mem_of_getElem? hrj)
          have n2:=Hnum.out r (List.mem_of_getElem? Hr.out)
          have hgd:l.getD j Sto.Rec.free=rj:=by rw [List.getD_eq_getElem?_getD,hrj];rfl
          by_cases k3:rj.num < r.num
          · have Hfin:=Lib.hid (show Sto.best l name (i+1)=some i from by rw [Hstep.out,if_pos ⟨k1,k2,fun j' h=>by rw [hbest] at h;cases h;rw [hgd];exact k3⟩])
            have t3:decide ((rj.num:Int) < (r.num:Int))=true:=by simp;omega
            have t4:decide (rj.num < r.num)=true:=by simp;omega
            rw [k1] at b0
            clear k1 hbest hgd hrj
            simp only [zBg]
            go_quiet (fail)
            go_wp2
            exact ⟨⟨i+1,by omega,by go_num,by rw [Hfin.out];rfl,below_drewN hbw.out _⟩,by simp [intOf] <;> omega⟩
          · have Hfin:=Lib.hid (show Sto.best l name (i+1)=some j from by rw [Hstep.out,if_neg (fun h=>k3 (by have:=h.2.2 j hbest;rw [hgd] at this;exact this)),hbest])
            have t3:decide ((rj.num:Int) < (r.num:Int))=false:=by simp;omega
            have t4:decide (rj.num < r.num)=false:=by simp;omega
            rw [k1] at b0
            clear k1 hbest hgd hrj
            simp only [zBg]
            go_quiet (fail)
            go_wp2
            exact ⟨⟨i+1,by omega,by go_num,by rw [Hfin.out];rfl,below_drewN hbw.out _⟩,by simp [intOf] <;> omega⟩
      · have Hfin:=Lib.hid (show Sto.best l name (i+1)=Sto.best l name i from by rw [Hstep.out,if_neg (fun h=>k2 h.2.1)])
        have k2:(r.name.toList == name.toList)=false:=by simpa using k2
        rw [k1] at b0
        clear k1
        go_quiet (fail)
        go_wp2
        exact ⟨⟨i+1,by omega,by go_num,by rw [Hfin.out],below_drewN hbw.out _⟩,by simp [intOf] <;> omega⟩
    · have Hfin:=Lib.hid (show Sto.best l name (i+1)=Sto.best l name i from by rw [Hstep.out,if_neg (fun h=>k1 h.1)])
      have k1:r.is=false:=by simpa using k1
      rw [k1] at b0
      clear k1
      go_quiet (fail)
      go_wp2
      exact ⟨⟨i+1,by omega,by go_num,by rw [Hfin.out],below_drewN hbw.out _⟩,by simp [intOf] <;> omega⟩
  · obtain rfl:n=i:=by omega
    go_wp2
    go_ret
    exact ⟨rfl,hb⟩
end Go.Proofs.YtdlkghdfkjdajaaGreatDoor
end
section
namespace Go.Mem
open Go Go.RowKit Gf
def St.freeE (s:St) (i:Nat):Int:=s.disk.wres (i*(s.room+1):Nat) 1
def St.freeS (s:St) (i:Nat):St:={ s with disk:=s.disk.wr (i*(s.room+1):Nat) [0],dead:=s.dead || (s.freeE i != 0),recs:=if s.freeE i=0 then s.recs.set i Sto.Rec.free else s.recs }
def St.writeE (s:St) (i:Nat) (bs:List UInt8):Int:=s.disk.wres (i:Nat) bs.length
def St.writeS (s:St) (i:Nat) (bs:List UInt8):St:={ s with disk:=s.disk.wr (i:Nat) bs,dead:=s.dead || (s.writeE i bs != 0) }
theorem zA.wr_ge (s:zA) (i:Int) (bs:List UInt8):s.writes≤(s.wr i bs).writes:=by
 unfold zA.wr zA.write;split
 · split
   · exact Nat.le_refl _
   · exact Nat.le_succ _
 · exact Nat.le_refl _
theorem St.Ok.freeS {s:St} (h:s.Ok) (i:Nat) (hf:s.disk.writes < 72057594037927936):(s.freeS i).Ok:=by
 have hl:(s.freeS i).recs.length=s.recs.length:=by unfold St.freeS;simp only;split <;> simp
 refine ⟨h.room1,h.room2,by rw [hl];exact h.len1,by rw [hl];exact h.len2,by rw [hl];exact (zA.wr_n _ _ _).trans h.size,fun r hr=>?_,?_⟩
 · have hw:s.disk.writes≤(s.freeS i).disk.writes:=zA.wr_ge _ _ _
   have:r∈s.recs∨r=Sto.Rec.free:=by
    unfold St.freeS at hr
    simp only at hr
    split at hr
    · rcases List.mem_or_eq_of_mem_set hr with h | h
      · exact .inl h
      · exact .inr h
    · exact .inl hr
   rcases this with h' | rfl
   · obtain ⟨a,b,c⟩:=h.each r h'
     exact ⟨a,b,by omega⟩
   · exact ⟨Nat.zero_le _,Nat.zero_le _,Nat.zero_le _⟩
 · have:(s.freeS i).disk.writes≤s.disk.writes+1:=zA.wr_writes _ _ _
   omega
theorem St.Ok.writeS {s:St} (h:s.Ok) (i:Nat) (bs:List UInt8) (hf:s.disk.writes < 72057594037927936):(s.writeS i bs).Ok:=by
 refine ⟨h.room1,h.room2,h.len1,h.len2,(zA.wr_n _ _ _).trans h.size,fun r hr=>?_,?_⟩
 · have hw:s.disk.writes≤(s.writeS i bs).disk.writes:=zA.wr_ge _ _ _
   obtain ⟨a,b,c⟩:=h.each r hr
   exact ⟨a,b,by omega⟩
 · have:(s.writeS i bs).disk.writes≤s.disk.writes+1:=zA.wr_writes _ _ _
   omega
end Go.Mem
namespace Go.Proofs.YtdlkghdfkjdajaaGreatDoor
open Go Go.RowKit Go.Mem Gf
attribute [local go_sem ↓] Go.wp_at_zero Go.wp_at_succ
theorem zHO (w:World) (g k:Nat) (u0 u1 u2 u3:Value):Chg (fun b=>b=g) w ((((w.setCell ⟨g,k,none⟩ u0).setCell ⟨g,k+1,none⟩ u1).setCell ⟨g,k+2,none⟩ u2).setCell ⟨g,k+3,none⟩ u3):=by
 refine Chg.set (S:=fun b=>b=g) ?_ (a:=⟨g,k+3,none⟩) rfl u3
 refine Chg.set (S:=fun b=>b=g) ?_ (a:=⟨g,k+2,none⟩) rfl u2
 refine Chg.set (S:=fun b=>b=g) ?_ (a:=⟨g,k+1,none⟩) rfl u1
 exact Chg.set (S:=fun b=>b=g) (Chg.refl _ _) (a:=⟨g,k,none⟩) rfl u0
set_option maxRecDepth 20000 in
set_option maxHeartbeats 2000000 in
theorem free_at (N:Nat→Prop) (sb lb d L i:Nat) (s:St) (w:World) (h:zO w N sb lb d L s) (hi:i < s.recs.length) (hfew:s.disk.writes < 72057594037927936) :
  Calls Tryz.prog 30 #[.pointer (some ⟨sb,0,none⟩),.int .i64 i] w fun e w'=>e=.returned (.int .i64 (s.freeE i))∧zO w' N sb lb d L (s.freeS i)∧Chg (zAe sb lb d L) w w':=by
 obtain ⟨lc,hS,hlc1,hlc2⟩:=h.blk
 have hD:=h.disk
 have H:=Lib.hid h
 have hne:sb≠d∧sb≠L:=⟨h.ne.2.1,h.ne.2.2.1⟩
 have hok:=h.ok
 have hi2:i≤1024:=by have:=hok.len2;omega
 have hr:=hok.room2
 obtain ⟨room,hroom⟩:∃ r,r=s.room:=⟨_,rfl⟩
 obtain ⟨n,hn⟩:∃ n,n=s.recs.length:=⟨_,rfl⟩
 obtain ⟨D,hDD⟩:∃ D,D=s.disk:=⟨_,rfl⟩
 obtain ⟨dead,hdd⟩:∃ dd,dd=s.dead:=⟨_,rfl⟩
 have HzE:=Lib.hid (show s.freeE i=D.wres (i*(room+1):Nat) 1 from by rw [hDD,hroom];rfl)
 have HSS:=Lib.hid (show s.freeS i={ s with disk:=D.wr (i*(room+1):Nat) [0],dead:=dead || (s.freeE i != 0),recs:=if s.freeE i=0 then s.recs.set i Sto.Rec.free else s.recs } from by rw [hDD,hroom,hdd];rfl)
 have hfew':=hfew
 have Hfew:=Lib.hid hfew'
 rw [← hroom,← hn,← hdd] at hS
 rw [← hDD] at hD hfew
 rw [← hroom] at hr
 rw [← hn] at hi hlc1
 have hw:D.writes < 4611686018427387904:=by omega
 have Hr:=Lib.hid hroom;have Hn:=Lib.hid hn;have HDD:=Lib.hid hDD;have Hdd:=Lib.hid hdd;have Hok:=Lib.hid hok
 clear hroom hn hDD hdd h hok hfew' hfew
 generalize hla:(some ⟨lb,0,none⟩:Option Addr)=la at hS
 have Hla:=Lib.hid hla
 clear hla
 obtain ⟨z,hz⟩:∃ z,z=D.wres (i*(room+1):Nat) 1:=⟨_,rfl⟩
 have c0:w.cell? ⟨sb,0,none⟩=some (.pointer (some ⟨d,0,none⟩)):=by rw [hS.cell];rfl
 have c1:w.cell? ⟨sb,1,none⟩=some (.int .i64 room):=by rw [hS.cell];rfl
 have d0:(w.alloc (.cells #[.int .u8 0] 5)).cell? ⟨sb,0,none⟩=some (.pointer (some ⟨d,0,none⟩)):=by rw [(hS.alloc _).cell];rfl
 have d1:(w.alloc (.cells #[.int .u8 0] 5)).cell? ⟨sb,1,none⟩=some (.int .i64 room):=by rw [(hS.alloc _).cell];rfl
 have hb0:Below w.heap.size w (w.alloc (.cells #[.int .u8 0] 5)).drew:=below_drewN ((Below.refl _ _).alloc (Nat.le_refl _) _) 1
 have q1:IntKind.i64.wrap ((room:Int)+1)=(room:Int)+1:=IntWalk.i64_in _ (by omega)
 have hm:i*(room+1)≤1024*1025:=Nat.mul_le_mul hi2 (by omega)
 have e2:(i:Int)*((room:Int)+1)=((i*(room+1):Nat):Int):=by push_cast;rfl
 have q2:IntKind.i64.wrap ((i:Int)*((room:Int)+1))=(i:Int)*((room:Int)+1):=IntWalk.i64_in _ (by rw [e2];omega)
 rw [HzE.out,← hz]
 have HS:=Lib.hid hS;have HD:=Lib.hid hD;have Hz:=Lib.hid hz;have E2:=Lib.hid e2;have Hb0:=Lib.hid hb0
 clear hS hD hz e2 hm hb0
 go_enter Tryz.func30,Tryz.ntmps30
 go_wp2_with fail
 go_region_held3 (fun w'=>w'.cell? ⟨sb,0,none⟩=some (.pointer (some ⟨d,0,none⟩))∧w'.cell? ⟨sb,1,none⟩=some (.int .i64 room)) (first | exact ⟨c0,c1⟩ | exact ⟨d0,d1⟩ | assumption)
  (first
   | (go_at_call 54
      rw [E2.out]
      refine (zDO d L D (i*(room+1):Nat) _ [0] _ (HD.out.below Hb0.out) (Bys.drewN (zAv w 0 (.int .u8 0) rfl 5) 1) hw).mono ?_
      rintro e w2 ⟨rfl,hD2,hc2⟩
      have hS2:=hc2.blk (HS.out.kept Hb0.out) (fun h=>by rcases h with h | h;exact hne.1 h;exact hne.2 h)
      have hh:w2.cell? ⟨sb,0,none⟩=some (.pointer (some ⟨d,0,none⟩))∧w2.cell? ⟨sb,1,none⟩=some (.int .i64 room):=⟨hS2.cell 0,hS2.cell 1⟩
      rw [show ([0]:List UInt8).length=1 from rfl,← Hz.out]))
 have HS2:=Lib.hid hS2;have HD2:=Lib.hid hD2
 have HC2:=Lib.hid (show Chg (Tri sb d L) w w2 from (Chg.of_below Hb0.out).trans (hc2.mono fun b h=>.inr h))
 have g2:w2.cell? ⟨sb,2,none⟩=some (.slice la n lc):=hS2.cell 2
 have g3:w2.cell? ⟨sb,3,none⟩=some (.bool dead):=hS2.cell 3
 have f3:=hS2.free 3
 clear hS2 hD2 hc2 hh q1 q2 c0 c1 d0 d1
 by_cases h0:z=0
 · subst h0
   have g2':w2.cell? ⟨sb,2,none⟩=some (.slice (some ⟨lb,0,none⟩) n lc):=by rw [Hla.out];exact g2
   clear g2
   have hRec:=(H.out.recs.chg (S:=Tri sb d L) HC2.out (fun e=>by rcases e with e | e | e;exact H.out.ne.1 e.symm;exact H.out.ne.2.2.2.1 e;exact H.out.ne.2.2.2.2 e) (fun b hb _=>H.out.foot b (by rcases hb with e | e | e;exact .inl e;exact .inr (.inr (.inl e));exact .inr (.inr (.inr e)))))
   obtain ⟨r0,hr0⟩:∃ r,s.recs[i]?=some r:=⟨s.recs[i]'(by have:=Hn.out;omega),by simp⟩
   obtain ⟨xa,xc,e0,e1,e2,e3,_,ef⟩:=hRec.at hr0
   have i0:(0:Int)≤(i:Int):=by omega
   have i1:(i:Int) < (n:Int):=by omega
   have f0:=ef (i*4);have f1:=ef (i*4+1);have f2:=ef (i*4+2);have f4:=ef (i*4+3)
   have HREC:=Lib.hid hRec
   have HX:=Lib.hid hRec
   clear hRec hr0 ef
   go_wp2
   go_ret
   have hset:=HREC.out.set (i:=i) (by have:=Hn.out;omega) Sto.Rec.free (.slice none 0 0) (H.out.foot lb (.inr (.inl rfl))) (zAo.nil _ _)
   have hc5:Chg (fun b=>b=lb) w2 ((((w2.setCell ⟨lb,i*4,none⟩ (.bool false)).setCell ⟨lb,i*4+1,none⟩ (.string { data:=#[] })).setCell ⟨lb,i*4+2,none⟩ (.int .i64 0)).setCell ⟨lb,i*4+3,none⟩ (.slice none 0 0)):=zHO w2 lb (i*4) _ _ _ _
   have hC:Chg (zAe sb lb d L) w ((((w2.setCell ⟨lb,i*4,none⟩ (.bool false)).setCell ⟨lb,i*4+1,none⟩ (.string { data:=#[] })).setCell ⟨lb,i*4+2,none⟩ (.int .i64 0)).setCell ⟨lb,i*4+3,none⟩ (.slice none 0 0)):=(HC2.out.mono fun b hb=>by rcases hb with e | e | e;exact .inl e;exact .inr (.inr (.inl e));exact .inr (.inr (.inr e))).trans (hc5.mono fun b hb=>.inr (.inl hb))
   have hE:s.freeE i=0:=by rw [HzE.out,← Hz.out]
   have hok:=Hok.out.freeS i Hfew.out
   rw [HSS.out,hE] at hok ⊢
   rw [if_pos rfl] at hok ⊢
   have e0:(dead || ((0:Int) != 0))=dead:=by simp
   rw [e0] at hok ⊢
   refine ⟨rfl,⟨⟨lc,?_,by simp only [List.length_set];have:=Hn.out;omega,hlc2⟩,hset,HD2.out.chg hc5 (fun e=>H.out.ne.2.2.2.1 e.symm) (fun e=>H.out.ne.2.2.2.2 e.symm),H.out.tab.chg hC (fun e=>H.out.ntab (H.out.foot _ e)),H.out.ntab,H.out.foot,H.out.ne,hok,fun b hb=>Nat.lt_of_lt_of_le (H.out.old b hb) hC.size⟩,hC⟩
   simp only [List.length_set]
   rw [← Hn.out,← Hr.out,Hla.out]
   exact hc5.blk HS2.out H.out.ne.1
 · have t0:(z != 0)=true:=by simpa using h0
   have hE:s.freeE i=z:=by rw [HzE.out,← Hz.out]
   have HE:=Lib.hid hE;have H0:=Lib.hid h0
   clear h0 hE
   go_wp2
   go_ret
   have hc3:=chg1 w2 sb 3 (.bool true)
   have hC0:Chg (zAe sb lb d L) w w2:=HC2.out.mono fun b hb=>by rcases hb with e | e | e;exact .inl e;exact .inr (.inr (.inl e));exact .inr (.inr (.inr e))
   have hC:Chg (zAe sb lb d L) w (w2.setCell ⟨sb,3,none⟩ (.bool true)):=hC0.trans (hc3.mono fun b hb=>.inl hb)
   have hok:=Hok.out.freeS i Hfew.out
   rw [HSS.out,HE.out] at hok ⊢
   rw [if_neg H0.out,t0,Bool.or_true] at hok ⊢
   have hRec:=(H.out.recs.chg (S:=Tri sb d L) HC2.out (fun e=>by rcases e with e | e | e;exact H.out.ne.1 e.symm;exact H.out.ne.2.2.2.1 e;exact H.out.ne.2.2.2.2 e) (fun b hb _=>H.out.foot b (by rcases hb with e | e | e;exact .inl e;exact .inr (.inr (.inl e));exact .inr (.inr (.inr e))))).chg hc3 (fun e=>H.out.ne.1 e.symm) (fun b hb _=>H.out.foot b (.inl hb))
   refine ⟨rfl,⟨⟨lc,?_,by have:=Hn.out;simp only;omega,hlc2⟩,hRec,HD2.out.chg hc3 (fun e=>hne.1 e.symm) (fun e=>hne.2 e.symm),H.out.tab.chg hC (fun e=>H.out.ntab (H.out.foot _ e)),H.out.ntab,H.out.foot,H.out.ne,hok,fun b hb=>Nat.lt_of_lt_of_le (H.out.old b hb) hC.size⟩,hC⟩
   simp only
   rw [← Hn.out,← Hr.out,Hla.out]
   exact HS2.out.set 3 (.bool true)
set_option maxRecDepth 20000 in
set_option maxHeartbeats 2000000 in
theorem zB2 (N:Nat→Prop) (sb lb d L i:Nat) (s:St) (v:Value) (bs:List UInt8) (w:World) (h:zO w N sb lb d L s) (hb:Bys w v bs) (hfew:s.disk.writes < 72057594037927936) :
  Calls Tryz.prog 70 #[.pointer (some ⟨sb,0,none⟩),.int .i64 i,v] w fun e w'=>e=.returned (.int .i64 (s.writeE i bs))∧zO w' N sb lb d L (s.writeS i bs)∧Chg (zAe sb lb d L) w w':=by
 obtain ⟨lc,hS,hlc1,hlc2⟩:=h.blk
 have c0:w.cell? ⟨sb,0,none⟩=some (.pointer (some ⟨d,0,none⟩)):=hS.cell 0
 have H:=Lib.hid h;have HS:=Lib.hid hS;have HB:=Lib.hid hb;have Hfew:=Lib.hid hfew;have Hl1:=Lib.hid hlc1
 obtain ⟨z,hz⟩:∃ z,z=s.writeE i bs:=⟨_,rfl⟩
 have Hz:=Lib.hid hz
 rw [← hz]
 clear hz h hS hb hfew hlc1
 go_enter Tryz.func70,Tryz.ntmps70
 go_wp2_with fail
 refine (zDO d L s.disk i v bs w H.out.disk HB.out (by have:=Hfew.out;omega)).mono ?_
 rintro e w2 ⟨rfl,hD2,hc2⟩
 rw [show s.disk.wres (i:Nat) bs.length=z from Hz.out.symm]
 have hS2:=hc2.blk HS.out (fun e=>by rcases e with e | e;exact H.out.ne.2.1 e;exact H.out.ne.2.2.1 e)
 have hR2:=H.out.recs.chg hc2 (fun e=>by rcases e with e | e;exact H.out.ne.2.2.2.1 e;exact H.out.ne.2.2.2.2 e) (fun b hb _=>H.out.foot b (.inr (.inr hb)))
 have hC:=hc2.mono (T:=zAe sb lb d L) fun b hb=>.inr (.inr hb)
 have g3:w2.cell? ⟨sb,3,none⟩=some (.bool s.dead):=hS2.cell 3
 have f3:=hS2.free 3
 have HS2:=Lib.hid hS2;have HR2:=Lib.hid hR2;have HC:=Lib.hid hC;have HD2:=Lib.hid hD2
 clear hS2 hR2 hC hD2 hc2
 have hok:=Lib.hid (H.out.ok.writeS i bs Hfew.out)
 have HSS:=Lib.hid (show s.writeS i bs={ s with disk:=s.disk.wr (i:Nat) bs,dead:=s.dead || (z != 0) } from by rw [Hz.out];rfl)
 by_cases h0:z=0
 · subst h0
   have HT:=Lib.hid (show ((0:Int) != 0)=false from by simp)
   go_wp2
   go_ret
   rw [HSS.out]
   have hok:=hok.out
   rw [HSS.out,HT.out,Bool.or_false] at hok
   rw [HT.out,Bool.or_false]
   exact ⟨rfl,⟨⟨lc,HS2.out,Hl1.out,hlc2⟩,HR2.out,HD2.out,H.out.tab.chg HC.out (fun e=>H.out.ntab (H.out.foot _ e)),H.out.ntab,H.out.foot,H.out.ne,hok,fun b hb=>Nat.lt_of_lt_of_le (H.out.old b hb) HC.out.size⟩,HC.out⟩
 · have t0:(z != 0)=true:=by simpa using h0
   clear h0
   go_wp2
   go_ret
   rw [HSS.out]
   have hok:=hok.out
   rw [HSS.out,t0,Bool.or_true] at hok
   rw [t0,Bool.or_true]
   have hc3:=chg1 w2 sb 3 (.bool true)
   have hC:=HC.out.trans (hc3.mono (T:=zAe sb lb d L) fun b hb=>.inl hb)
   exact ⟨rfl,⟨⟨lc,HS2.out.set 3 (.bool true),Hl1.out,hlc2⟩,HR2.out.chg hc3 (fun e=>H.out.ne.1 e.symm) (fun b hb _=>H.out.foot b (.inl hb)),HD2.out.chg hc3 (fun e=>H.out.ne.2.1 e.symm) (fun e=>H.out.ne.2.2.1 e.symm),H.out.tab.chg hC (fun e=>H.out.ntab (H.out.foot _ e)),H.out.ntab,H.out.foot,H.out.ne,hok,fun b hb=>Nat.lt_of_lt_of_le (H.out.old b hb) hC.size⟩,hC⟩
end Go.Proofs.YtdlkghdfkjdajaaGreatDoor
end
section
namespace Go.Proofs.YtdlkghdfkjdajaaGreatDoor
open Go Go.RowKit Go.Mem Gf
attribute [local go_sem ↓] Go.wp_at_zero Go.wp_at_succ
theorem rws3 {w:World} {b:Nat} {t:TypeId} {v0 v1 v2:Value} {r0 r1 r2:List UInt8} (h:Blk w b #[v0,v1,v2] t) (h0:Bys w v0 r0) (h1:Bys w v1 r1) (h2:Bys w v2 r2):Rws w (.slice (some ⟨b,0,none⟩) 3 3) [r0,r1,r2]:=by
 refine ⟨_,3,rfl,Nat.le_refl _,zAC (by decide),fun _=>⟨b,0,rfl,fun k r hk=>?_⟩⟩
 match k with
 | 0=>simp at hk;subst hk;exact ⟨v0,by rw [h.cell];rfl,h0⟩
 | 1=>simp at hk;subst hk;exact ⟨v1,by rw [h.cell];rfl,h1⟩
 | 2=>simp at hk;subst hk;exact ⟨v2,by rw [h.cell];rfl,h2⟩
 | k+3=>simp at hk
set_option maxRecDepth 20000 in
set_option maxHeartbeats 2000000 in
theorem zCj (name:ByteArray) (num:Nat) (v:Value) (data:List UInt8) (w:World) (hT:Tab w) (hb:Bys w v data) (hn:name.size≤1000000) (hnum:num≤9223372036854775807) (hd:data.length≤1000000) :
  Calls Tryz.prog 69 #[.string name,.int .i64 num,v] w fun e w'=>∃ v',e=.returned v'∧zP 5 w' w.heap.size v' (Sto.text name num data)∧Below w.heap.size w w':=by
 have hconv:=Lib.run_convert_string_bytes (P:=Tryz.prog) w 9 41 5 name Tryz.underlying9 Tryz.underlying41 Tryz.underlying5
 obtain ⟨ho,hb1⟩:=zBl w 5 name (zAC (by omega))
 obtain ⟨w1,hw1⟩:∃ w1,w1=Lib.bytesWorld w 5 name:=⟨_,rfl⟩
 rw [← hw1] at ho hb1 hconv
 have HO:=Lib.hid ho;have HB1:=Lib.hid hb1;have HT:=Lib.hid hT;have HB:=Lib.hid hb
 have hs1:=hb1.size
 obtain ⟨da,dc,rfl⟩:=hb.eq_slice
 clear hw1 ho hb1 hT hb
 go_enter Tryz.func69,Tryz.ntmps69
 go_wp2_with fail
 refine (zFK num 4 hnum (by decide) (by decide) w1).mono ?_
 rintro e w2 ⟨pv,rfl,hp,hb2⟩
 have hb12:=HB1.out.trans (hb2.mono hs1)
 have hs2:=hb12.size
 obtain ⟨pa,pc,rfl⟩:=hp.eq_slice
 rw [Cod.zt] at hp ⊢
 have HP:=Lib.hid hp;have HB2:=Lib.hid hb2;have HB12:=Lib.hid hb12
 clear hp hb2 hb12 hconv
 go_wp2_with fail
 have hal:=fun (o:Obj)=>(Below.refl w2.heap.size w2).alloc (Nat.le_refl _) o
 refine (zFB _ [name.data.toList,Cod.be 4 num,data] _ ((HT.out.below HB12.out).below (hal _)) (rws3 (Blk.new _ _ _) (((HO.out.below HB2.out).bys).below (hal _)) ((HP.out.bys).below (hal _)) ((HB.out.below HB12.out).below (hal _))) ?_).mono ?_
 · simp only [Cod.zAU,List.length_append,Cod.zAL,Cod.zt,List.length_nil,Array.length_toList]
   have h1:Lib.nDigits name.data.size≤9:=by have:=zAw name.data.size (by show name.size≤_;omega);rw [Lib.itoa_nonneg,Lib.decDigits_length] at this;exact this
   have h2:Lib.nDigits 4≤9:=by rw [Lib.nDigits_small (by decide)];decide
   have h3:Lib.nDigits data.length≤9:=by have:=zAw data.length (by omega);rw [Lib.itoa_nonneg,Lib.decDigits_length] at this;exact this
   have h4:name.data.size≤1000000:=hn
   omega
 rintro e w3 ⟨v3,rfl,h3,hb3⟩
 go_wp2
 go_ret
 exact ⟨_,rfl,h3.mono (by simp;omega),(HB12.out.alloc hs2 _).trans (hb3.mono (by simp;omega))⟩
def zAH (room:Nat) (name:ByteArray) (data:List UInt8):Bool:=decide (name.size≤16384) && (decide (data.length≤16384) && decide ((Sto.text name 0 data).length≤room*32))
set_option maxRecDepth 20000 in
set_option maxHeartbeats 2000000 in
theorem zCJ (N:Nat→Prop) (sb lb d L:Nat) (s:St) (name:ByteArray) (v:Value) (data:List UInt8) (w:World) (h:zO w N sb lb d L s) (hb:Bys w v data) (hn:name.size≤9223372036854775807) :
  Calls Tryz.prog 68 #[.pointer (some ⟨sb,0,none⟩),.string name,v] w fun e w'=>e=.returned (.bool (zAH s.room name data))∧Below w.heap.size w w':=by
 obtain ⟨lc,hS,hlc1,hlc2⟩:=h.blk
 have c1:w.cell? ⟨sb,1,none⟩=some (.int .i64 s.room):=hS.cell 1
 have hr2:=h.ok.room2
 have hdl:=hb.len
 obtain ⟨da,dc,rfl⟩:=hb.eq_slice
 obtain ⟨dl,hdl'⟩:∃ dl,dl=data.length:=⟨_,rfl⟩
 rw [← hdl'] at hb hdl ⊢
 obtain ⟨nl,hnl⟩:∃ nl,nl=name.size:=⟨_,rfl⟩
 have Hdl:=Lib.hid hdl';have Hnl:=Lib.hid hnl
 have HF:=Lib.hid (show zAH s.room name data=(decide (name.size≤16384) && (decide (data.length≤16384) && decide ((Sto.text name 0 data).length≤s.room*32))) from rfl)
 have HS:=Lib.hid hS;have HT:=Lib.hid h.tab;have HB:=Lib.hid hb
 obtain ⟨room,hroom⟩:∃ r,r=s.room:=⟨_,rfl⟩
 rw [← hroom] at hr2 c1 HF HS ⊢
 clear h hS hb hdl' hnl hroom
 by_cases h1:name.size≤16384
 · by_cases h2:dl≤16384
   · have HF2:=Lib.hid (show zAH room name data=decide ((Sto.text name 0 data).length≤room*32) from by rw [HF.out,decide_eq_true h1,decide_eq_true (by have:=Hdl.out;omega)];rfl)
     have q1:IntKind.i64.wrap ((room:Int)*32)=(room:Int)*32:=IntWalk.i64_in _ (by omega)
     go_enter Tryz.func68,Tryz.ntmps68
     go_wp2_with fail
     go_region_held3 (fun w'=>w'.cell? ⟨sb,1,none⟩=some (.int .i64 room)) (first | exact c1 | assumption)
      (first
       | (go_at_call 69
          refine (zCj name 0 _ data w.drew (HT.out.drewN 1) (HB.out.drewN 1) (by omega) (by decide) (by have:=Hdl.out;omega)).mono ?_
          rintro e w2 ⟨v2,rfl,ho2,hb2⟩
          have hb2:Below w.heap.size w w2:=zCN hb2
          have hh:w2.cell? ⟨sb,1,none⟩=some (.int .i64 room):=(HS.out.kept hb2).cell 1
          obtain ⟨a2,c2,rfl⟩:=ho2.eq_slice))
     have HE:=Lib.hid (show decide (((Sto.text name 0 data).length:Int)≤(room:Int)*32)=zAH room name data from by rw [HF2.out,decide_eq_decide];omega)
     go_wp2
     go_ret
     exact ⟨by rw [← HE.out];rfl,hb2⟩
   · have HF2:=Lib.hid (show zAH room name data=false from by rw [HF.out,decide_eq_false (p:=data.length≤16384) (by have:=Hdl.out;omega)];simp)
     go_enter Tryz.func68,Tryz.ntmps68
     go_wp2
     go_ret
     exact ⟨by rw [HF2.out];rfl,Below.refl _ _⟩
 · have HF2:=Lib.hid (show zAH room name data=false from by rw [HF.out,decide_eq_false h1];rfl)
   go_enter Tryz.func68,Tryz.ntmps68
   go_wp2
   go_ret
   exact ⟨by rw [HF2.out];rfl,Below.refl _ _⟩
end Go.Proofs.YtdlkghdfkjdajaaGreatDoor
end
section
namespace Go.Proofs.YtdlkghdfkjdajaaGreatDoor
open Go Go.RowKit Go.Mem Gf
set_option linter.unusedVariables false
attribute [local go_sem ↓] Go.wp_at_zero Go.wp_at_succ
attribute [local go_sem ↓] zY zU zm
attribute [local go_sem] ptrB_eq ptrO_eq ptrIs_eq aggL_eq aggIs_eq zS zV zD zF zJ zK zB
set_option maxRecDepth 20000 in
set_option maxHeartbeats 2000000 in
theorem zB7 (tag:ByteArray) (v:Value) (rows:List (List UInt8)) (w:World) (hT:Tab w) (h:Rws w v rows) (hn:tag.size≤1000) (hl:(Cod.zAU rows).length≤10000000) :
  Calls Tryz.prog 96 #[.string tag,v] w fun e w'=>∃ v',e=.returned v'∧zP 5 w' w.heap.size v' (Wot.text tag.data.toList rows)∧Below w.heap.size w w':=by
 have hconv:=Lib.run_convert_string_bytes (P:=Tryz.prog) w 9 41 5 tag Tryz.underlying9 Tryz.underlying41 Tryz.underlying5
 obtain ⟨ho,hb1⟩:=zBl w 5 tag (zAC (by omega))
 obtain ⟨w1,hw1⟩:∃ w1,w1=Lib.bytesWorld w 5 tag:=⟨_,rfl⟩
 rw [← hw1] at ho hb1 hconv
 obtain ⟨va,vc,rfl⟩:=h.eq_slice
 obtain ⟨n,hnn⟩:∃ n,n=rows.length:=⟨_,rfl⟩
 rw [← hnn] at h ⊢
 have hdl:tag.data.toList.length≤1000:=by rw [Array.length_toList];exact hn
 have HO:=Lib.hid ho;have HB1:=Lib.hid hb1;have HR:=Lib.hid (And.intro h (And.intro hT hl))
 have hs1:=hb1.size
 clear hw1 ho hb1 h hT hnn
 go_enter Tryz.func96,Tryz.ntmps96
 go_wp2_with fail
 refine (zF9 _ tag.data.toList w1 (HR.out.2.1.below HB1.out) HO.out.bys (by omega)).mono ?_
 rintro e w2 ⟨nv,rfl,hnv,hb2⟩
 have hb12:=HB1.out.trans (hb2.mono hs1)
 have hs2:=hb12.size
 have hs12:=hb2.size
 have HN:=Lib.hid hnv;have HB12:=Lib.hid hb12
 obtain ⟨na,nc,rfl⟩:=hnv.eq_slice
 clear hconv hb2 hb12 hnv
 go_wp2_with fail
 refine (zFB _ rows w2 (HR.out.2.1.below HB12.out) (HR.out.1.below HB12.out) (by omega)).mono ?_
 rintro e w3 ⟨sv,rfl,hsv,hb3⟩
 have HS:=Lib.hid (And.intro hsv hb3)
 have hln:(Cod.net tag.data.toList).length≤2000:=by
  rw [Cod.zAL]
  have h3:Lib.nDigits tag.data.toList.length≤9:=by have:=zAw tag.data.toList.length (by omega);rw [Lib.itoa_nonneg,Lib.decDigits_length] at this;exact this
  omega
 have hls:=HR.out.2.2
 have hs23:=hb3.size
 clear hsv hb3
 go_wp2_with (at_builtin;refine zBL E8 rfl _ _ rfl (base:=w1.heap.size) (bs:=Cod.net tag.data.toList) (news:=Cod.zAU rows) rfl rfl (HN.out.below HS.out.2) HS.out.1.bys (by omega) (by omega) ?_)
 intro v4 w4 h4 hg4
 go_wp2
 go_ret
 have hg:=Chg.grown (S:=fun b=>(w1.heap.size≤b)) (Chg.refl _ w3) hg4 (fun b hb=>.inl ((HN.out.below HS.out.2).lt b hb).1)
 exact ⟨_,rfl,h4.mono hs1,(HB12.out.trans (HS.out.2.mono hs2)).trans (hg.below (by omega) (fun k (hk:w1.heap.size≤k)=>by omega))⟩
set_option maxRecDepth 20000 in
set_option maxHeartbeats 2000000 in
theorem zBJ (tag:ByteArray) (v:Value) (rows:List (List UInt8)) (w:World) (hT:Tab w) (h:Rws w v rows) (hn:tag.size≤1000) (hl:(Cod.zAU rows).length≤10000000) :
  Calls Tryz.prog 113 #[.string tag,v] w fun e w'=>e=.returned (.agg (bV (Wot.tagged tag.data.toList rows)).toArray)∧Below w.heap.size w w':=by
 have hx:=fun w1 (hb:Below w.heap.size w w1)=>zB7 tag v rows w1 (hT.below hb) (h.below hb) hn hl
 obtain ⟨va,vc,rfl⟩:=h.eq_slice
 have hdl:tag.data.toList.length≤1000:=by rw [Array.length_toList];exact hn
 have hln:(Wot.text tag.data.toList rows).length≤100000000:=by
  unfold Wot.text
  rw [List.length_append,Cod.zAL]
  have h3:Lib.nDigits tag.data.toList.length≤9:=by have:=zAw tag.data.toList.length (by omega);rw [Lib.itoa_nonneg,Lib.decDigits_length] at this;exact this
  omega
 obtain ⟨n,hnn⟩:∃ n,n=rows.length:=⟨_,rfl⟩
 rw [← hnn] at hx ⊢
 have HX:=Lib.hid hx
 clear hnn h hT hn hl hdl hx
 go_enter Tryz.func113,Tryz.ntmps113
 go_upto_region 1 with fail
 obtain ⟨w1,hw1⟩:∃ q,q=w.alloc (.cells #[Value.int IntKind.u8 0,.int .u8 0,.int .u8 0,.int .u8 0,.int .u8 0,.int .u8 0,.int .u8 0,.int .u8 0,.int .u8 0,.int .u8 0,.int .u8 0,.int .u8 0,.int .u8 0,.int .u8 0,.int .u8 0,.int .u8 0,.int .u8 0,.int .u8 0,.int .u8 0,.int .u8 0,.int .u8 0,.int .u8 0,.int .u8 0,.int .u8 0,.int .u8 0,.int .u8 0,.int .u8 0,.int .u8 0,.int .u8 0,.int .u8 0,.int .u8 0,.int .u8 0] 34):=⟨_,rfl⟩
 obtain ⟨p2,hp2⟩:∃ q,q=w.heap.size:=⟨_,rfl⟩
 have hb1:Below w.heap.size w w1:=by rw [hw1];exact (Below.refl _ _).alloc (Nat.le_refl _) _
 have hk1:Blk w1 p2 zH 34:=by rw [hw1,hp2];exact Blk.new _ _ _
 rw [← hw1,← hp2]
 have H1:=Lib.hid (And.intro hb1 (And.intro hk1 (show w.heap.size≤p2 from Nat.le_of_eq hp2.symm)))
 clear hw1 hp2 hb1 hk1
 go_wp2_with fail
 refine (HX.out w1 H1.out.1).mono ?_
 rintro e w2 ⟨v1,rfl,h1,hb2⟩
 have H2:=Lib.hid (And.intro h1 hb2)
 clear h1 hb2
 go_wp2_with fail
 refine (zEE v1 _ w2 H2.out.1.bys hln).mono ?_
 rintro e w3 ⟨rfl,hb3⟩
 have hb13:=H2.out.2.trans (hb3.mono H2.out.2.size)
 have hb03:=H1.out.1.trans (hb13.mono H1.out.1.size)
 have kz:=H1.out.2.1.kept hb13
 have hpge:=H1.out.2.2
 have hlen:=Wot.tagged_len tag.data.toList rows
 rw [show Sha.sum (Wot.text tag.data.toList rows)=Wot.tagged tag.data.toList rows from rfl]
 obtain ⟨hq1,hq2,hq3⟩:=zAP (p:=p2) (h:=Wot.tagged tag.data.toList rows) hlen kz
 obtain ⟨co,hco⟩:∃ q,q=bV (Wot.tagged tag.data.toList rows):=⟨_,rfl⟩
 rw [← hco] at hq2 hq3 ⊢
 have hcol:co.length=32:=hq2.1
 have HLD:=Lib.hid hq3
 have HM:=Lib.hid (And.intro hco (zAI co hb03 hpge))
 clear hco hq3
 go_wp2_with fail
 refine bodyPost_ret (v:=.agg co.toArray) (by simp [results,Tryz.results113,asAddr,HLD.out]) rfl ⟨by rw [HM.out.1],HM.out.2⟩
end Go.Proofs.YtdlkghdfkjdajaaGreatDoor
end
