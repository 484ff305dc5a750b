/- Texts of this proof,packed: RowsW,Mss,MssP,MssS,MPrint,MSign,StoreGet,KeyLook. -/
import Derived.Test.YtdlkghdfkjdajaaGreatDoorPkP08
import Derived.Test.YtdlkghdfkjdajaaGreatDoorPkP00
import Derived.Deep.QuietTactic
import Derived.Test.YtdlkghdfkjdajaaGreatDoorPkP07
section
namespace Go.Proofs.YtdlkghdfkjdajaaGreatDoor
open Go Go.RowKit Go.Mem Gf
set_option linter.unusedVariables false
set_option linter.unusedSimpArgs false
attribute [local go_sem ↓] Go.wp_at_zero Go.wp_at_succ
attribute [local go_sem ↓] zY zU zm zf
attribute [local go_sem] ptrB_eq ptrO_eq ptrIs_eq aggL_eq aggIs_eq zS zV zD zF zJ zK zB
def zJn:Value→Nat
 | .slice _ n _=>n
 | _=>0
set_option maxRecDepth 20000 in
set_option maxHeartbeats 8000000 in
theorem zEX (v:Value) (l:List (List UInt8)) (base h:Nat) (w:World) (hT:Tab w) (hv:zL bV WfH 32 34 w base v l) (hl:l.length=2 ^ h) (hh:h≤4) :
  Calls Tryz.prog 97 #[v] w fun e w'=>∃ v',e=.returned v'∧zBr w' w.heap.size v' (Wot.rowsN l (h+1))∧Below w.heap.size w w':=by
 obtain ⟨n,hn⟩:∃ n,n=l.length:=⟨_,rfl⟩
 have hn1:1≤n:=by rw [hn,hl];exact Nat.pow_pos (by decide)
 have hn16:n≤16:=by rw [hn,hl];exact Nat.pow_le_pow_right (by decide) hh
 obtain ⟨g,cap,rfl,hrow⟩:=hv.ex (by omega)
 rw [← hn] at hrow hv ⊢
 have hpad:=fun w1=>zJS h w1 hh
 rw [← hl,← hn] at hpad
 have H:=Lib.hid (And.intro hT (And.intro hrow (And.intro hn (And.intro hpad hl))))
 clear hT hv hrow hn hpad hl
 go_enter Tryz.func97,Tryz.ntmps97
 go_wp2_with (at_builtin;refine zHH EKh ecH rfl _ _ rfl rfl (l:=l) H.out.2.1.wf rfl H.out.2.2.1.symm (fun j u hu=>by rw [Nat.zero_add,H.out.2.1.cell (by have:=zBW hu;rw [zCh ecH l H.out.2.1.wf,← H.out.2.2.1] at this;exact this)];exact hu) (zAC (by omega)) (by omega) ?_)
 intro v1 w1 h1 hb1
 obtain ⟨a1,c1,rfl⟩:=h1.slice
 rw [← H.out.2.2.1] at h1 ⊢
 have hs1:=hb1.size
 have H1:=Lib.hid (And.intro h1 hb1)
 clear h1 hb1
 go_wp2_with fail
 refine (zBJ _ _ [] w1 (H.out.1.below H1.out.2) (Rws.nil _) (by decide) (show 0≤10000000 by decide)).mono ?_
 rintro e w2 ⟨rfl,hb2⟩
 obtain ⟨x,hx⟩:∃ x,x=Wot.tagged Wot.tPad []:=⟨_,rfl⟩
 rw [show Wot.tagged (ByteArray.mk #[112,97,100]).data.toList []=x from by rw [hx];rfl]
 have hxl:x.length=32:=by rw [hx];exact Wot.tagged_len _ _
 obtain ⟨co,hco⟩:∃ q,q=bV x:=⟨_,rfl⟩
 rw [← hco]
 have hcol:co.length=32:=by rw [hco,zG];exact hxl
 have hca:zAS 32 co:=⟨hcol,fun v hv=>by rw [hco] at hv;exact zAQ _ v hv⟩
 have H2:=Lib.hid (And.intro (H1.out.1.chg (S:=fun _=>False) (Chg.of_below hb2) (fun _ _=>id)) (H1.out.2.trans (hb2.mono hs1)))
 clear hx hco hb2
 go_upto_region 3 with fail
 obtain ⟨w3,hw3⟩:∃ q,q=w2.alloc (.cells co.toArray 34):=⟨_,rfl⟩
 have hb3:Below w2.heap.size w2 w3:=by rw [hw3];exact (Below.refl _ _).alloc (Nat.le_refl _) _
 have hb03:=H2.out.2.trans (hb3.mono H2.out.2.size)
 have H3:=Lib.hid (And.intro (H2.out.1.chg (S:=fun _=>False) (Chg.of_below hb3) (fun _ _=>id)) hb03)
 have hs03:=hb03.size
 rw [← hw3]
 clear hw3 hb3 hb03
 go_loopw [3] (fun u wr=>u=.slice a1 n c1∧w3=wr) (fun _ _=>0)
 case atStart=>exact ⟨rfl,rfl⟩
 case round =>
  obtain ⟨rfl,rfl⟩:=hrel
  have i1:¬ (n:Int) < (n:Int):=by omega
  go_wp2_with fail
  refine (H.out.2.2.2.1 w3).mono ?_
  rintro e _ ⟨rfl,rfl⟩
  have hr4:=zBr.one H3.out.1 hs03
  obtain ⟨w4,hw4⟩:∃ q,q=w3.alloc (.cells #[.slice a1 n c1] 46):=⟨_,rfl⟩
  have hb4:Below w3.heap.size w3 w4:=by rw [hw4];exact (Below.refl _ _).alloc (Nat.le_refl _) _
  rw [← hw4] at hr4
  have hb04:=H3.out.2.trans (hb4.mono hs03)
  have H4:=Lib.hid (And.intro (H3.out.1.chg (S:=fun _=>False) (Chg.of_below hb4) (fun _ _=>id)) (And.intro hr4 hb04))
  clear hr4 hb4 hb04
  go_wp2_with fail
  rw [← hw4]
  clear hw4
  go_loopw [3,5] (fun vr vo wr=>∃ j:Nat,j≤h∧Hid (zL bV WfH 32 34 wr w.heap.size vr (Wot.lvl j l)∧zBr wr w.heap.size vo (Wot.rowsN l (j+1))∧Below w.heap.size w wr)) (fun vr _ _=>zJn vr)
  case atStart=>exact ⟨0,Nat.zero_le _,H4.out.1,H4.out.2.1,H4.out.2.2⟩
  case round =>
   obtain ⟨j,hj,G⟩:=hrel
   obtain ⟨wo,hwo⟩:∃ z,z=wr:=⟨_,rfl⟩
   subst hwo
   have hlen:=Wot.lvl_len H.out.2.2.2.2 j hj
   obtain ⟨m,hm⟩:∃ m,m=(Wot.lvl j l).length:=⟨_,rfl⟩
   have hm16:m≤16:=by rw [hm,hlen];exact Nat.pow_le_pow_right (by decide) (show h - j≤4 by omega)
   obtain ⟨g',cap',e3,hr⟩:=G.out.1.ex (by rw [hlen];exact Nat.pow_pos (by decide))
   subst e3
   rw [← hm] at hr ⊢
   by_cases h0:j < h
   · obtain ⟨q,hq⟩:∃ q,q=2 ^ (h - (j+1)):=⟨_,rfl⟩
     have hmq:m=2*q:=by rw [hm,hlen,hq,show h - j=(h - (j+1))+1 from by omega,Nat.pow_succ];omega
     have hq1:1≤q:=by rw [hq];exact Nat.pow_pos (by decide)
     have hup:(Wot.up (Wot.lvl j l)).length=q:=Wot.up_len q _ (by rw [← hm,hmq])
     have m1:(1:Int) < (m:Int):=by omega
     have HU:=Lib.hid (And.intro hr (And.intro hm (And.intro hup hmq)))
     have hs0o:=G.out.2.2.size
     clear hlen hm hr hq hup hmq
     go_wp2_with fail
     go_loopw [7,6] (fun vi vu wr=>∃ i ii:Nat,Hid (i≤q∧ii=2*i)∧vi=.int .i64 ii∧Hid (zL bV WfH 32 34 wr wo.heap.size vu ((Wot.up (Wot.lvl j l)).take i)∧Below wo.heap.size wo wr)) (fun vi _ _=>m - (intOf vi).toNat)
     case atStart=>exact ⟨0,0,⟨Nat.zero_le _,rfl⟩,rfl,zL.nil _ _ _ _ _ _,Below.refl _ _⟩
     case round =>
      obtain ⟨i,ii,hii,rfl,K⟩:=hrel
      by_cases hiq:i < q
      · have t0:(0:Int)≤(ii:Int):=by omega
        have t1:(ii:Int) < (m:Int):=by have:=hii.out;have:=HU.out.2.2.2;omega
        have t2:(ii:Int)+1 < (m:Int):=by have:=hii.out;have:=HU.out.2.2.2;omega
        have t3:(0:Int)≤(ii:Int)+1:=by omega
        have q1:IntKind.i64.wrap ((ii:Int)+1)=(ii:Int)+1:=IntWalk.i64_in _ (by omega)
        have q2:IntKind.i64.wrap ((ii:Int)+2)=(ii:Int)+2:=IntWalk.i64_in _ (by omega)
        have hrw:=HU.out.1.chg (S:=fun _=>False) (Chg.of_below K.out.2) id
        obtain ⟨x,hx⟩:∃ x,(Wot.lvl j l)[ii]?=some x:=⟨_,List.getElem?_eq_getElem (by have:=HU.out.2.1;omega)⟩
        obtain ⟨y,hy⟩:∃ y,(Wot.lvl j l)[ii+1]?=some y:=⟨_,List.getElem?_eq_getElem (by have:=HU.out.2.1;omega)⟩
        have hxl:x.length=32:=hrw.wf x (List.mem_of_getElem? hx)
        have hyl:y.length=32:=hrw.wf y (List.mem_of_getElem? hy)
        obtain ⟨cx,hcx⟩:∃ c,c=bV x:=⟨_,rfl⟩
        obtain ⟨cy,hcy⟩:∃ c,c=bV y:=⟨_,rfl⟩
        have cxl:cx.length=32:=by rw [hcx,zG];exact hxl
        have cyl:cy.length=32:=by rw [hcy,zG];exact hyl
        have hnd:=fun w' (hb:Below wr.heap.size wr w')=>zIP x y w' (H.out.1.below (G.out.2.2.trans ((K.out.2.trans (hb.mono K.out.2.size)).mono hs0o))) hxl hyl
        obtain ⟨nd,hndd⟩:∃ nd,nd=Wot.node x y:=⟨_,rfl⟩
        obtain ⟨co,hco⟩:∃ c,c=bV nd:=⟨_,rfl⟩
        rw [← hcx,← hcy,← hndd,← hco] at hnd
        have hndl:nd.length=32:=by rw [hndd];exact Wot.tagged_len _ _
        have hcol2:co.length=32:=by rw [hco,zG];exact hndl
        have hca2:zAS 32 co:=⟨hcol2,fun v hv=>by rw [hco] at hv;exact zAQ _ v hv⟩
        have HX:=Lib.hid (And.intro hrw (And.intro hx (And.intro hy (And.intro hcx (And.intro hcy hnd)))))
        have HCO:=Lib.hid hco
        have HND:=Lib.hid (And.intro hndd hndl)
        clear hx hy hxl hyl hcx hcy hnd hrw hco hndd hndl
        go_upto_region 13 with fail
        refine Tail.zT 12 (fun k=>k == 10 || k == 11) (fun k=>if k=10 then some (.agg co.toArray) else none)
         (fun D z w'=>Below wr.heap.size wr w'∧(D 11=true→∃ mb,z 11=.slice (some ⟨mb,0,none⟩) 1 1∧Blk w' mb (bV nd).toArray 34))
         (by kernel_rfl) (by kernel_rfl) (fun k hk=>by simp at hk;omega) (fun D z z' w' hz h=>⟨h.1,fun d=>by rw [← hz 11 d];exact h.2 d⟩)
         (⟨(Below.refl _ _).drew,(fun h=>by cases h)⟩) (fun z=>?_)
        simp only [List.take_succ_cons,List.take_zero,List.drop_succ_cons,List.drop_zero]
        refine Tail.zI (by rfl) (by rfl) ?_
        apply Exists.intro
        refine ⟨fun w=>?_,?_⟩
        · go_simp <;> with_reducible rfl
        simp only [Act.put,List.setIfInBounds_toArray,List.set_cons_zero,List.set_cons_succ,Nat.reduceAdd,Nat.reduceEqDiff,reduceIte,Option.getD_some,Option.getD_none]
        refine Tail.zI (by rfl) (by rfl) ?_
        apply Exists.intro
        refine ⟨fun w=>?_,?_⟩
        · go_simp <;> with_reducible rfl
        simp only [Act.put,List.setIfInBounds_toArray,List.set_cons_zero,List.set_cons_succ,Nat.reduceAdd,Nat.reduceEqDiff,reduceIte,Option.getD_some,Option.getD_none]
        refine Tail.zI (by rfl) (by rfl) ?_
        apply Exists.intro
        refine ⟨fun w=>?_,?_⟩
        · go_simp <;> with_reducible rfl
        simp only [Act.put,List.setIfInBounds_toArray,List.set_cons_zero,List.set_cons_succ,Nat.reduceAdd,Nat.reduceEqDiff,reduceIte,Option.getD_some,Option.getD_none]
        refine Tail.zI (by rfl) (by rfl) ?_
        apply Exists.intro
        refine ⟨fun w=>?_,?_⟩
        · go_simp <;> with_reducible rfl
        simp only [Act.put,List.setIfInBounds_toArray,List.set_cons_zero,List.set_cons_succ,Nat.reduceAdd,Nat.reduceEqDiff,reduceIte,Option.getD_some,Option.getD_none]
        refine Tail.zBc (by rfl) (by rfl) _ _ rfl g' (ii*32) (by rfl) cx (fun D w' _ _ hJ=>by rw [HX.out.2.2.2.1];exact (HX.out.1.chg (S:=fun _=>False) (Chg.of_below hJ.1) id).range ecH HX.out.2.1) Tryz.underlying34 rfl (by rw [cxl];exact zGe) ?_
        simp only [Act.put,List.setIfInBounds_toArray,List.set_cons_zero,List.set_cons_succ,Nat.reduceAdd,Nat.reduceEqDiff,reduceIte,Option.getD_some,Option.getD_none]
        refine Tail.zI (by rfl) (by rfl) ?_
        apply Exists.intro
        refine ⟨fun w=>?_,?_⟩
        · go_simp <;> with_reducible rfl
        simp only [Act.put,List.setIfInBounds_toArray,List.set_cons_zero,List.set_cons_succ,Nat.reduceAdd,Nat.reduceEqDiff,reduceIte,Option.getD_some,Option.getD_none]
        refine Tail.zI (by rfl) (by rfl) ?_
        apply Exists.intro
        refine ⟨fun w=>?_,?_⟩
        · go_simp <;> with_reducible rfl
        simp only [Act.put,List.setIfInBounds_toArray,List.set_cons_zero,List.set_cons_succ,Nat.reduceAdd,Nat.reduceEqDiff,reduceIte,Option.getD_some,Option.getD_none]
        refine Tail.zI (by rfl) (by rfl) ?_
        apply Exists.intro
        refine ⟨fun w=>?_,?_⟩
        · go_simp <;> with_reducible rfl
        simp only [Act.put,List.setIfInBounds_toArray,List.set_cons_zero,List.set_cons_succ,Nat.reduceAdd,Nat.reduceEqDiff,reduceIte,Option.getD_some,Option.getD_none]
        refine Tail.zI (by rfl) (by rfl) ?_
        apply Exists.intro
        refine ⟨fun w=>?_,?_⟩
        · go_simp <;> with_reducible rfl
        simp only [Act.put,List.setIfInBounds_toArray,List.set_cons_zero,List.set_cons_succ,Nat.reduceAdd,Nat.reduceEqDiff,reduceIte,Option.getD_some,Option.getD_none]
        refine Tail.zBc (by rfl) (by rfl) _ _ rfl g' ((ii+1)*32) (by rfl) cy (fun D w' _ _ hJ=>by rw [HX.out.2.2.2.2.1];exact (HX.out.1.chg (S:=fun _=>False) (Chg.of_below hJ.1) id).range ecH HX.out.2.2.1) Tryz.underlying34 rfl (by rw [cyl];exact zGe) ?_
        simp only [Act.put,List.setIfInBounds_toArray,List.set_cons_zero,List.set_cons_succ,Nat.reduceAdd,Nat.reduceEqDiff,reduceIte,Option.getD_some,Option.getD_none]
        refine Tail.zAT (by rfl) (by rfl) ?_ ?_
        · apply Exists.intro
          apply Exists.intro
          refine ⟨fun w'=>?_,?_⟩
          · go_simp <;> exact ⟨rfl,rfl⟩
          intro D z' w' hD hz hd hp hJ
          have h11:D 11=false:=hp 11 (by kernel_rfl)
          refine (HX.out.2.2.2.2.2 w' hJ.1).mono ?_
          rintro e w'' ⟨rfl,hb⟩
          refine ⟨_,rfl,fun c hc=>by simp at hc;rw [← hc],hJ.1.trans (hb.mono hJ.1.size),fun h=>?_⟩
          simp [Tail.zAp,h11] at h
        simp only [Act.put,List.setIfInBounds_toArray,List.set_cons_zero,List.set_cons_succ,Nat.reduceAdd,Nat.reduceEqDiff,reduceIte,Option.getD_some,Option.getD_none]
        refine Tail.zFt (by rfl) (by rfl) (fun D z' w' hD hz hd hp hJ=>?_) ?_
        · refine ⟨_,_,zEG Tryz.underlying46 (n:=32) (by kernel_rfl) (by decide) (by decide) w' _ rfl co (by rfl) hca2,fun c hc=>by simp at hc,hJ.1.alloc hJ.1.size _,fun _=>⟨w'.heap.size,by simp [Tail.zAb],?_⟩⟩
          rw [← HCO.out]
          exact Blk.new _ _ _
        simp only [Act.put,List.setIfInBounds_toArray,List.set_cons_zero,List.set_cons_succ,Nat.reduceAdd,Nat.reduceEqDiff,reduceIte,Option.getD_some,Option.getD_none]
        intro w5 hJ
        have hb5:=hJ.1
        obtain ⟨mb,hz11,hkm⟩:=hJ.2 rfl
        rw [hz11]
        clear hJ hz11 z
        have hbo5:=K.out.2.trans (hb5.mono K.out.2.size)
        have hso5:=hbo5.size
        have H5:=Lib.hid (And.intro hkm (And.intro (K.out.1.chg (S:=fun _=>False) (Chg.of_below hb5) (fun _ _=>id)) hbo5))
        clear hkm hb5 hbo5
        go_wp2_with (at_builtin;refine zAZ EKh ecH rfl _ _ rfl (base:=wo.heap.size) nd HND.out.2 rfl rfl H5.out.1 H5.out.2.1 ?d1 (by decide) ?d2 ?_)
        case d1=>have:=HU.out.2.2.2;rw [List.length_take];omega
        case d2=>omega
        intro v6 w6 h6 hg6 hx6
        have hb6:=zN H5.out.2.2 hg6 (fun k hk=>H5.out.2.1.ge hk)
        have H6:=Lib.hid (And.intro h6 hb6)
        clear h6 hb6 hg6 hx6
        go_wp2
        refine ⟨⟨i+1,ii+2,⟨by omega,by have:=hii.out;omega⟩,by go_num,?_,H6.out.2⟩,by have:=hii.out;have:=HU.out.2.2.2;simp [intOf];omega⟩
        have hii2:=hii.out.2
        have hug:=Wot.up_get i (Wot.lvl j l) (by have:=HU.out.2.1;have:=HU.out.2.2.2;omega)
        rw [← hii2,List.getD_eq_getElem?_getD,HX.out.2.1,List.getD_eq_getElem?_getD,HX.out.2.2.1,Option.getD_some,Option.getD_some,← HND.out.1] at hug
        rw [List.take_add_one,hug]
        exact H6.out.1
      · have t1:¬ (ii:Int) < (m:Int):=by have:=hii.out;have:=HU.out.2.2.2;omega
        obtain rfl:i=q:=by have:=hii.out;omega
        have htk:(Wot.up (Wot.lvl j l)).take i=Wot.up (Wot.lvl j l):=List.take_of_length_le (by have:=HU.out.2.2.1;omega)
        rw [htk] at K
        obtain ⟨a6,c6,e6⟩:=K.out.1.slice
        subst e6
        rw [HU.out.2.2.1] at K ⊢
        have hb0r:=G.out.2.2.trans (K.out.2.mono hs0o)
        have hs0r:=hb0r.size
        obtain ⟨ss,s1,s2,s3⟩:=G.out.2.1.below K.out.2
        have hbr:Below wr.heap.size wr (wr.alloc (.cells #[.slice a6 i c6] 46)):=(Below.refl _ _).alloc (Nat.le_refl _) _
        have HS:=Lib.hid (And.intro (s1.chg (S:=fun _=>False) (Chg.of_below hbr) (fun _ _=>id)) (And.intro s2 (And.intro (fun (q:Nat) (s:SlV) (x:List (List UInt8)) (h1:ss[q]?=some s) (h2:(Wot.rowsN l (j+1))[q]?=some x)=>(s3 q s x h1 h2).chg (S:=fun _=>False) (Chg.of_below hbr) (fun _ _=>id))
         (And.intro ((K.out.1.lower hs0o).chg (S:=fun _=>False) (Chg.of_below hbr) (fun _ _=>id)) (hb0r.trans (hbr.mono hs0r))))))
        have hsl:ss.length≤100:=by rw [s2,Wot.rowsN_len];omega
        clear s1 s2 s3 hbr hb0r htk
        go_wp2_with (at_builtin;refine zAZ EKs ecS rfl _ _ rfl (base:=w.heap.size) ⟨a6,i,c6⟩ trivial rfl rfl (Blk.new _ _ _) HS.out.1 ?e1 (by decide) ?e2 ?_)
        case e1=>omega
        case e2=>exact Nat.le_succ_of_le hs0r
        intro v7 w7 h7 hg7 hx7
        have hb7:=zN HS.out.2.2.2.2 hg7 (fun k hk=>HS.out.1.ge hk)
        have hp7:=zBr.push (s:=⟨a6,i,c6⟩) HS.out.1 HS.out.2.1 HS.out.2.2.1 HS.out.2.2.2.1 h7 hg7
        have hr7:=HS.out.2.2.2.1.grown hg7 (fun g hg=>zFF HS.out.2.2.2.1 HS.out.1 (by decide) hg)
        have H7:=Lib.hid (And.intro hr7 (And.intro (show zBr w7 w.heap.size v7 (Wot.rowsN l (j+1+1)) from by rw [Wot.rowsN_succ];exact hp7) hb7))
        clear h7 hg7 hx7 hb7 hp7 hr7
        go_wp2
        exact ⟨⟨j+1,by omega,H7.out.1,H7.out.2.1,H7.out.2.2⟩,by have:=HU.out.2.2.2;simp [zJn];omega⟩
   · obtain rfl:j=h:=by omega
     have m1:m=1:=by rw [hm,hlen,Nat.sub_self]
     subst m1
     have HG:=Lib.hid G.out
     clear hlen hm hr
     go_wp2_with fail
     go_ret
     exact ⟨_,rfl,HG.out.2.1,HG.out.2.2⟩
end Go.Proofs.YtdlkghdfkjdajaaGreatDoor
end
section
namespace Go.Proofs.YtdlkghdfkjdajaaGreatDoor
open Go Go.RowKit Go.Mem Gf
set_option linter.unusedVariables false
set_option linter.unusedSimpArgs false
attribute [local go_sem ↓] Go.wp_at_zero Go.wp_at_succ
attribute [local go_sem ↓] zY zU zm zf
attribute [local go_sem] ptrB_eq ptrO_eq ptrIs_eq aggL_eq aggIs_eq zS zV zD zF zJ zK zB
theorem zGN (n:Nat) (h:n < 64):bits .xor .i64 n 1=((Wot.twin n:Nat):Int):=by
 have h0:((List.range 64).all fun n=>bits .xor .i64 n 1 == ((Wot.twin n:Nat):Int))=true:=by decide +kernel
 rw [List.all_eq_true] at h0
 have:=h0 n (List.mem_range.2 h)
 simpa using this
set_option maxRecDepth 20000 in
set_option maxHeartbeats 4000000 in
theorem zIQ (v:Value) (l:List (List UInt8)) (base h:Nat) (w:World) (hT:Tab w) (hv:zL bV WfH 32 34 w base v l) (hl:l.length=2 ^ h) (hh:h≤4) :
  Calls Tryz.prog 64 #[v] w fun e w'=>e=.returned (.agg (bV (Wot.root h l)).toArray)∧Below w.heap.size w w':=by
 have hr:=fun w1 (hb:Below w.heap.size w w1)=>zEX v l base h w1 (hT.below hb) (hv.chg (S:=fun _=>False) (Chg.of_below hb) (fun _ _=>id)) hl hh
 have hwf:=hv.wf
 obtain ⟨va,vc,rfl⟩:=hv.slice
 obtain ⟨n,hn⟩:∃ n,n=l.length:=⟨_,rfl⟩
 rw [← hn] at hr ⊢
 have H:=Lib.hid (And.intro hr (And.intro hl hwf))
 clear hr hv hT hl hwf hn
 go_enter Tryz.func64,Tryz.ntmps64
 go_upto_region 1 with fail
 obtain ⟨w1,hw1⟩:∃ q,q=w.alloc (.cells #[Value.int IntKind.u8 0,.int .u8 0,.int .u8 0,.int .u8 0,.int .u8 0,.int .u8 0,.int .u8 0,.int .u8 0,.int .u8 0,.int .u8 0,.int .u8 0,.int .u8 0,.int .u8 0,.int .u8 0,.int .u8 0,.int .u8 0,.int .u8 0,.int .u8 0,.int .u8 0,.int .u8 0,.int .u8 0,.int .u8 0,.int .u8 0,.int .u8 0,.int .u8 0,.int .u8 0,.int .u8 0,.int .u8 0,.int .u8 0,.int .u8 0,.int .u8 0,.int .u8 0] 34):=⟨_,rfl⟩
 obtain ⟨p2,hp2⟩:∃ q,q=w.heap.size:=⟨_,rfl⟩
 have hb1:Below w.heap.size w w1:=by rw [hw1];exact (Below.refl _ _).alloc (Nat.le_refl _) _
 have hk1:Blk w1 p2 zH 34:=by rw [hw1,hp2];exact Blk.new _ _ _
 rw [← hw1,← hp2]
 have H1:=Lib.hid (And.intro hb1 (And.intro hk1 (show w.heap.size≤p2 from Nat.le_of_eq hp2.symm)))
 clear hw1 hp2 hb1 hk1
 go_wp2_with fail
 refine (H.out.1 w1 H1.out.1).mono ?_
 rintro e w2 ⟨rv,rfl,hrv,hb2⟩
 obtain ⟨g,cap,u,e,cu,hu⟩:=hrv.at (j:=h) (Wot.rowsN_get l (by omega))
 have hll:=Wot.lvl_len H.out.2.1 h (Nat.le_refl _)
 rw [Nat.sub_self] at hll
 obtain ⟨g2,cap2,e2,hr2⟩:=hu.ex (by rw [hll];decide)
 rw [Wot.rowsN_len] at e
 subst e
 rw [hll] at e2
 subst e2
 obtain ⟨x,hx⟩:∃ x,(Wot.lvl h l)[0]?=some x:=⟨_,List.getElem?_eq_getElem (by rw [hll];decide)⟩
 have hroot:Wot.root h l=x:=by rw [Wot.root_lvl,List.getD_eq_getElem?_getD,hx];rfl
 have k1:=hr2.read ecH hx
 have k2:zi 32 w2 g2 (0*32):=hr2.there (by rw [hll];decide)
 have hlen:(Wot.root h l).length=32:=by rw [hroot];exact hr2.wf x (List.mem_of_getElem? hx)
 rw [← hroot] at k1
 rw [Nat.zero_mul] at k1 k2
 have q1:IntKind.i64.wrap (((h+1:Nat):Int) - 1)=(h:Int):=by rw [IntWalk.i64_in _ (by omega)];omega
 have t0:(0:Int)≤(h:Int):=by omega
 have t1:(h:Int) < ((h+1:Nat):Int):=by omega
 have hb02:=H1.out.1.trans (hb2.mono H1.out.1.size)
 have kz:=H1.out.2.1.kept hb2
 have hpge:=H1.out.2.2
 clear hrv hu hr2 hx hll hroot
 obtain ⟨hq1,hq2,hq3⟩:=zAP (p:=p2) (h:=Wot.root h l) hlen kz
 obtain ⟨co,hco⟩:∃ q,q=bV (Wot.root h l):=⟨_,rfl⟩
 rw [← hco] at hq2 hq3 k1
 try rw [← hco]
 have hcol:co.length=32:=hq2.1
 have HLD:=Lib.hid hq3
 have HM:=Lib.hid (And.intro hco (zAI co hb02 hpge))
 clear hco hq3
 go_wp2_with fail
 refine bodyPost_ret (v:=.agg co.toArray) (by simp [results,Tryz.results64,asAddr,HLD.out]) rfl ⟨by rw [HM.out.1],HM.out.2⟩
end Go.Proofs.YtdlkghdfkjdajaaGreatDoor
end
section
namespace Go.Proofs.YtdlkghdfkjdajaaGreatDoor
open Go Go.RowKit Go.Mem Gf
set_option linter.unusedVariables false
set_option linter.unusedSimpArgs false
attribute [local go_sem ↓] Go.wp_at_zero Go.wp_at_succ
attribute [local go_sem ↓] zY zU zm zf
attribute [local go_sem] ptrB_eq ptrO_eq ptrIs_eq aggL_eq aggIs_eq zS zV zD zF zJ zK zB
def zI6 (l:List (List UInt8)) (i n:Nat):List (List UInt8):=(List.range n).map fun q=>(Wot.lvl q l).getD (Wot.twin (i / 2 ^ q)) []
theorem zGE (l:List (List UInt8)) (i n:Nat):zI6 l i (n+1)=zI6 l i n++[(Wot.lvl n l).getD (Wot.twin (i / 2 ^ n)) []]:=by
 unfold zI6
 rw [List.range_succ,List.map_append]
 rfl
theorem zHy (l:List (List UInt8)) (i n:Nat):(zI6 l i n).length=n:=by unfold zI6;rw [List.length_map,List.length_range]
set_option maxRecDepth 20000 in
set_option maxHeartbeats 4000000 in
theorem zG8 (v:Value) (l:List (List UInt8)) (base h i:Nat) (w:World) (hT:Tab w) (hv:zL bV WfH 32 34 w base v l) (hl:l.length=2 ^ h) (hh:h≤4) (hi:i < 2 ^ h) :
  Calls Tryz.prog 71 #[.int .i64 i,v] w fun e w'=>∃ v',e=.returned (.tuple #[v',.int .i64 0])∧zL bV WfH 32 34 w' w.heap.size v' (Wot.proof h i l)∧Below w.heap.size w w':=by
 have hr:=zEX v l base h w hT hv hl hh
 have hwf:=hv.wf
 have h16:(2:Nat) ^ h≤16:=Nat.pow_le_pow_right (by decide) hh
 have i0:(0:Int)≤(i:Int):=by omega
 have i1:(i:Int) < ((l.length:Nat):Int):=by rw [hl];omega
 obtain ⟨va,vc,rfl⟩:=hv.slice
 obtain ⟨n,hn⟩:∃ n,n=l.length:=⟨_,rfl⟩
 have hib:i < 16:=by omega
 rw [← hn] at hr i1 ⊢
 have H:=Lib.hid (And.intro hr (And.intro hl (And.intro hwf hi)))
 clear hr hv hT hl hwf hn hi h16
 have i2:¬ (i:Int) < 0:=by omega
 have i3:¬ (n:Int)≤(i:Int):=by omega
 go_enter Tryz.func71,Tryz.ntmps71
 go_wp2_with fail
 refine H.out.1.mono ?_
 rintro e w2 ⟨rv,rfl,hrv,hb2⟩
 obtain ⟨g,cap,u,e,_,_⟩:=hrv.at (j:=h) (Wot.rowsN_get l (by omega))
 rw [Wot.rowsN_len] at e
 subst e
 have q1:IntKind.i64.wrap (((h+1:Nat):Int) - 1)=(h:Int):=by rw [IntWalk.i64_in _ (by omega)];omega
 have t0:(0:Int)≤(h:Int):=by omega
 have hcap:h+1≤cap:=by
  obtain ⟨ss,s1,s2,_⟩:=hrv
  obtain ⟨g',cap',e',hr'⟩:=s1.ex (by rw [s2,Wot.rowsN_len];omega)
  rw [s2,Wot.rowsN_len] at e' hr'
  injection e' with e1 e2 e3
  obtain ⟨_,_,_,hc,_⟩:=hr'.block
  omega
 have t1:(h:Int)≤(cap:Int):=by omega
 have H2:=Lib.hid (And.intro hrv hb2)
 have hs2:=hb2.size
 clear hrv hb2 i2 i3 i1
 go_wp2_with fail
 go_loopw [26,7,0] (fun vi vo v0 wr=>∃ j:Nat,j≤h∧vi=.int .i64 j∧v0=.int .i64 ((i / 2 ^ j:Nat):Int)∧Hid (zL bV WfH 32 34 wr w2.heap.size vo (zI6 l i j)∧Below w2.heap.size w2 wr)) (fun vi _ _ _=>h - (intOf vi).toNat)
 case atStart=>exact ⟨0,Nat.zero_le _,rfl,by rw [Nat.pow_zero,Nat.div_one],zL.nil _ _ _ _ _ _,Below.refl _ _⟩
 case round =>
  obtain ⟨j,hj,rfl,rfl,G⟩:=hrel
  obtain ⟨p,hp⟩:∃ p,p=i / 2 ^ j:=⟨_,rfl⟩
  have hp16:p < 16:=by rw [hp];exact Nat.lt_of_le_of_lt (Nat.div_le_self _ _) hib
  rw [← hp]
  by_cases h0:j < h
  · have j0:(0:Int)≤(j:Int):=by omega
    have j1:(j:Int) < (h:Int):=by omega
    have hrr:=H2.out.1.below G.out.2
    obtain ⟨g3,cap3,u3,e3,cu,hu⟩:=hrr.at (j:=j) (Wot.rowsN_get l (by omega))
    injection e3 with e3 e5 e4
    injection e3 with e3
    injection e3 with e3 _ _
    subst e3
    clear e5 e4
    have hll:=Wot.lvl_len H.out.2.1 j hj
    obtain ⟨g2,cap2,e2,hr2⟩:=hu.ex (by rw [hll];exact Nat.pow_pos (by decide))
    subst e2
    obtain ⟨m,hm⟩:∃ m,m=(Wot.lvl j l).length:=⟨_,rfl⟩
    rw [← hm] at hr2 cu
    have hpm:p < m:=by
     rw [hm,hll,hp,Nat.div_lt_iff_lt_mul (Nat.pow_pos (by decide)),← Nat.pow_add,show h - j+j=h from by omega]
     exact H.out.2.2.2
    have hm2:m % 2=0:=by
     rw [hm,hll,show h - j=(h - j - 1)+1 from by omega,Nat.pow_succ]
     omega
    have ht:Wot.twin p < m:=by unfold Wot.twin;split <;> omega
    have htb:=zGN p (by omega)
    obtain ⟨q,hq⟩:∃ q,q=Wot.twin p:=⟨_,rfl⟩
    rw [← hq] at ht htb
    have tq0:(0:Int)≤(q:Int):=by omega
    have tq1:(q:Int) < (m:Int):=by omega
    obtain ⟨x,hx⟩:∃ x,(Wot.lvl j l)[q]?=some x:=⟨_,List.getElem?_eq_getElem (by omega)⟩
    have hxl:x.length=32:=hr2.wf x (List.mem_of_getElem? hx)
    obtain ⟨cx,hcx⟩:∃ c,c=bV x:=⟨_,rfl⟩
    have k1:=hr2.read ecH hx
    have k2:zi 32 wr g2 (q*32):=hr2.there ht
    rw [← hcx] at k1
    have hcl:cx.length=32:=by rw [hcx,zG];exact hxl
    have hca:zAS 32 cx:=⟨hcl,fun v hv=>by rw [hcx] at hv;exact zAQ _ v hv⟩
    obtain ⟨ph,hph⟩:∃ x,x=p / 2:=⟨_,rfl⟩
    have hd2:(p:Int).tdiv 2=(ph:Int):=by rw [Int.tdiv_eq_ediv_of_nonneg (by omega)];omega
    have q2:IntKind.i64.wrap (ph:Int)=(ph:Int):=IntWalk.i64_in _ (by omega)
    have HPH:=Lib.hid hph
    clear hph
    have hsw:=G.out.2.size
    have HX:=Lib.hid (And.intro hx (And.intro hcx (And.intro hq (And.intro hp hxl))))
    clear hx hcx hq hp hr2 hu hrr hll hm hm2 hpm
    go_wp2_with (at_builtin;refine zAZ EKh ecH rfl _ _ rfl (base:=w2.heap.size) x HX.out.2.2.2.2 rfl rfl (by rw [← HX.out.2.1];exact Blk.new _ _ _) (G.out.1.chg (S:=fun _=>False) (Chg.of_below ((Below.refl _ _).alloc (Nat.le_refl _) _)) (fun _ _=>id)) ?d1 (by decide) ?d2 ?_)
    case d1=>rw [zHy];omega
    case d2=>exact Nat.le_succ_of_le hsw
    intro v5 w5 h5 hg5 hx5
    have hb5:=zN (G.out.2.alloc hsw _) hg5 (fun k hk=>G.out.1.ge hk)
    have H5:=Lib.hid (And.intro h5 hb5)
    clear h5 hb5 hg5 hx5 k1 k2
    go_wp2
    refine ⟨⟨j+1,by omega,by go_num,?_,?_,H5.out.2⟩,by simp [intOf];omega⟩
    · rw [HPH.out,HX.out.2.2.2.1,Nat.pow_succ,Nat.div_div_eq_div_mul]
    · rw [zGE,← HX.out.2.2.2.1,← HX.out.2.2.1,List.getD_eq_getElem?_getD,HX.out.1,Option.getD_some]
      exact H5.out.1
  · have j1:¬ (j:Int) < (h:Int):=by omega
    obtain rfl:j=h:=by omega
    clear hp
    go_wp2_with fail
    go_ret2
    refine ⟨_,rfl,?_,H2.out.2.trans (G.out.2.mono hs2)⟩
    rw [Wot.proof_lvl]
    exact G.out.1.lower hs2
end Go.Proofs.YtdlkghdfkjdajaaGreatDoor
end
section
namespace Go.Proofs.YtdlkghdfkjdajaaGreatDoor
open Go Go.RowKit Go.Mem Gf
set_option linter.unusedVariables false
set_option linter.unusedSimpArgs false
attribute [local go_sem ↓] Go.wp_at_zero Go.wp_at_succ
attribute [local go_sem ↓] zY zU zm zf
attribute [local go_sem] ptrB_eq ptrO_eq ptrIs_eq aggL_eq aggIs_eq zS zV zD zF zJ zK zB
set_option maxRecDepth 20000 in
set_option maxHeartbeats 4000000 in
theorem zDJ (sd:List UInt8) (h:Nat) (w:World) (hT:Tab w) (hs:sd.length=16) (hh:h≤4) :
  Calls Tryz.prog 65 #[.agg (bV sd).toArray,.int .i64 h] w fun e w'=>∃ v',e=.returned v'∧zL bV WfH 32 34 w' w.heap.size v' (Wot.leaves sd (2 ^ h))∧Below w.heap.size w w':=by
 have HT:=Lib.hid hT
 clear hT
 obtain ⟨cs,hcs⟩:∃ c,c=bV sd:=⟨_,rfl⟩
 have hcl:cs.length=16:=by rw [hcs,zG];exact hs
 have HCS:=Lib.hid hcs
 rw [← hcs]
 clear hcs
 obtain ⟨n,hn⟩:∃ n,n=2 ^ h:=⟨_,rfl⟩
 have hnb:n≤16:=by rw [hn];exact Nat.pow_le_pow_right (by decide) hh
 have HN:=Lib.hid hn
 rw [← hn]
 have h0':¬ (h:Int) < 0:=by omega
 have hsh:IntKind.i64.wrap (2 ^ h)=(n:Int):=by
  rw [hn]
  have:((2:Int) ^ h)=((2 ^ h:Nat):Int):=by simp
  rw [this]
  exact IntWalk.i64_in _ (by rw [← hn];omega)
 clear hn
 go_enter Tryz.func65,Tryz.ntmps65
 go_upto_region 1 with fail
 obtain ⟨w1,hw1⟩:∃ q,q=w.alloc (.cells cs.toArray 23):=⟨_,rfl⟩
 obtain ⟨p1,hp1⟩:∃ q,q=w.heap.size:=⟨_,rfl⟩
 have hb1:Below w.heap.size w w1:=by rw [hw1];exact (Below.refl _ _).alloc (Nat.le_refl _) _
 have hk1:Blk w1 p1 cs.toArray 23:=by rw [hw1,hp1];exact Blk.new _ _ _
 have hs01:=hb1.size
 rw [← hw1,← hp1]
 have H1:=Lib.hid (And.intro hb1 hk1)
 clear hw1 hp1 hb1 hk1
 go_wp2_with fail
 refine (zDR h w1 hh).mono ?_
 rintro e _ ⟨rfl,rfl⟩
 go_wp2_with fail
 go_loopw [12,5] (fun vi vo wr=>∃ i:Nat,i≤n∧vi=.int .i64 i∧Hid (zL bV WfH 32 34 wr w1.heap.size vo (Wot.leaves sd i)∧Below w1.heap.size w1 wr)) (fun vi _ _=>n - (intOf vi).toNat)
 case atStart=>exact ⟨0,by omega,rfl,zL.nil _ _ _ _ _ _,Below.refl _ _⟩
 case round =>
  obtain ⟨i,hi,rfl,G⟩:=hrel
  by_cases h0:i < n
  · have i1:(i:Int) < (n:Int):=by omega
    have hk:=H1.out.2.kept G.out.2
    have k1:zh 16 wr p1 0=cs:=zn hk hcl (fun k _=>by simp)
    have k2:zi 16 wr p1 0:=zQ hk (by simp [hcl])
    have hbw:=H1.out.1.trans (G.out.2.mono hs01)
    have hst:=zFp sd i wr (HT.out.below hbw) hs (by omega)
    rw [← HCS.out] at hst
    have HST:=Lib.hid (And.intro hst hbw)
    clear hst hk hbw
    go_wp2_with fail
    refine HST.out.1.mono ?_
    rintro e w4 ⟨rfl,hb4⟩
    obtain ⟨x,hx⟩:∃ x,x=Wot.pub sd i:=⟨_,rfl⟩
    rw [← hx]
    have hxl:x.length=32:=by rw [hx];exact Wot.tagged_len _ _
    obtain ⟨co,hco⟩:∃ q,q=bV x:=⟨_,rfl⟩
    rw [← hco]
    have hcol:co.length=32:=by rw [hco,zG];exact hxl
    have hca:zAS 32 co:=⟨hcol,fun v hv=>by rw [hco] at hv;exact zAQ _ v hv⟩
    have hb14:=G.out.2.trans (hb4.mono G.out.2.size)
    have H4:=Lib.hid (And.intro hb14 (And.intro (G.out.1.chg (S:=fun _=>False) (Chg.of_below hb4) (fun _ _=>id)) (And.intro hx hco)))
    have hs14:=hb14.size
    clear hb4 hb14 hx hco k1 k2
    go_wp2_with (at_builtin;refine zAZ EKh ecH rfl _ _ rfl (base:=w1.heap.size) x hxl rfl rfl (by rw [← H4.out.2.2.2];exact Blk.new _ _ _) (H4.out.2.1.chg (S:=fun _=>False) (Chg.of_below ((Below.refl _ _).alloc (Nat.le_refl _) _)) (fun _ _=>id)) ?d1 (by decide) ?d2 ?_)
    case d1=>rw [Wot.leaves_len];omega
    case d2=>simp;omega
    intro v5 w5 h5 hg5 hx5
    have hb5:=zN (H4.out.1.alloc hs14 _) hg5 (fun k hk=>H4.out.2.1.ge hk)
    have H5:=Lib.hid (And.intro h5 hb5)
    clear h5 hb5 hg5 hx5
    go_wp2
    refine ⟨⟨i+1,by omega,by go_num,?_,H5.out.2⟩,by simp [intOf];omega⟩
    rw [Wot.leaves_snoc,← H4.out.2.2.1]
    exact H5.out.1
  · have i1:¬ (i:Int) < (n:Int):=by omega
    obtain rfl:n=i:=by omega
    go_wp2_with fail
    go_ret
    exact ⟨_,rfl,G.out.1.lower hs01,H1.out.1.trans (G.out.2.mono hs01)⟩
end Go.Proofs.YtdlkghdfkjdajaaGreatDoor
end
section
namespace Go.Proofs.YtdlkghdfkjdajaaGreatDoor
open Go Go.RowKit Go.Mem Gf
set_option linter.unusedVariables false
set_option linter.unusedSimpArgs false
attribute [local go_sem ↓] Go.wp_at_zero Go.wp_at_succ
attribute [local go_sem ↓] zY zU zm zf
attribute [local go_sem] ptrB_eq ptrO_eq ptrIs_eq aggL_eq aggIs_eq zS zV zD zF zJ zK zB
theorem zFS (h:Nat) (l:List (List UInt8)) (hl:l.length=2 ^ h) (hw:∀ x∈l,x.length=32):(Wot.root h l).length=32:=by
 rw [Wot.root_lvl]
 have hll:=Wot.lvl_len hl h (Nat.le_refl _)
 have he:=Wot.lvl_each hw h
 generalize Wot.lvl h l=m at hll he ⊢
 rw [Nat.sub_self,Nat.pow_zero] at hll
 cases m with
 | nil=>cases hll
 | cons x m=>exact he x List.mem_cons_self
theorem zDi (sd:List UInt8) (n:Nat):∀ x∈Wot.leaves sd n,x.length=32:=fun x hx=>by
 unfold Wot.leaves at hx
 obtain ⟨c,_,rfl⟩:=List.mem_map.1 hx
 exact Wot.tagged_len _ _
set_option maxRecDepth 20000 in
set_option maxHeartbeats 1000000 in
theorem zGg (sd:List UInt8) (h:Nat) (w:World) (hT:Tab w) (hs:sd.length=16) (hh:h≤4) :
  Calls Tryz.prog 35 #[.agg (bV sd).toArray,.int .i64 h] w fun e w'=>e=.returned (.tuple #[.agg (bV (Wot.print sd h)).toArray,.int .i64 0])∧Below w.heap.size w w':=by
 have HT:=Lib.hid hT
 clear hT
 have hlv:=fun w1 (hb:Below w.heap.size w w1)=>zDJ sd h w1 (HT.out.below hb) hs hh
 obtain ⟨cs,hcs⟩:∃ c,c=bV sd:=⟨_,rfl⟩
 have hcl:cs.length=16:=by rw [hcs,zG];exact hs
 rw [← hcs] at hlv ⊢
 have HLV:=Lib.hid hlv
 clear hcs hlv
 go_enter Tryz.func35,Tryz.ntmps35
 go_upto_region 1 with fail
 obtain ⟨w1,hw1⟩:∃ q,q=(w.alloc (.cells cs.toArray 23)).alloc (.cells #[Value.int IntKind.u8 0,.int .u8 0,.int .u8 0,.int .u8 0,.int .u8 0,.int .u8 0,.int .u8 0,.int .u8 0,.int .u8 0,.int .u8 0,.int .u8 0,.int .u8 0,.int .u8 0,.int .u8 0,.int .u8 0,.int .u8 0,.int .u8 0,.int .u8 0,.int .u8 0,.int .u8 0,.int .u8 0,.int .u8 0,.int .u8 0,.int .u8 0,.int .u8 0,.int .u8 0,.int .u8 0,.int .u8 0,.int .u8 0,.int .u8 0,.int .u8 0,.int .u8 0] 34):=⟨_,rfl⟩
 obtain ⟨p1,hp1⟩:∃ q,q=w.heap.size:=⟨_,rfl⟩
 obtain ⟨p2,hp2⟩:∃ q,q=w.heap.size+1:=⟨_,rfl⟩
 have hb1:Below w.heap.size w w1:=by rw [hw1];exact ((Below.refl _ _).alloc (Nat.le_refl _) _).alloc (by simp) _
 have hk1:Blk w1 p1 cs.toArray 23:=by rw [hw1,hp1];exact (Blk.new _ _ _).alloc _
 have hk2:Blk w1 p2 zH 34:=by rw [hw1,hp2];exact Blk.new_at _ _ _ _ (by simp)
 rw [← hw1,← hp2,← hp1]
 have H1:=Lib.hid (And.intro hb1 (And.intro hk2 (And.intro (show w.heap.size≤p2 by omega) (And.intro (show p1≠p2 by omega) (show w.heap.size≤p1 by omega)))))
 have HK:=Lib.hid hk1
 have hpge:=H1.out.2.2.1
 clear hw1 hp1 hp2 hb1 hk1 hk2
 have hs01:=H1.out.1.size
 have k1:zh 16 w1 p1 0=cs:=zn HK.out hcl (fun k _=>by simp)
 have k2:zi 16 w1 p1 0:=zQ HK.out (by simp [hcl])
 go_wp2_with fail
 refine (zDR h w1 hh).mono ?_
 rintro e _ ⟨rfl,rfl⟩
 go_wp2_with fail
 refine (HLV.out w1 H1.out.1).mono ?_
 rintro e w2 ⟨lv,rfl,hlv,hb2⟩
 have hl0:=Wot.leaves_len sd (2 ^ h)
 have hw0:=zDi sd (2 ^ h)
 have hp0:Wot.print sd h=Wot.tagged Wot.tPrint [Cod.be 1 h,Wot.root h (Wot.leaves sd (2 ^ h))]:=rfl
 obtain ⟨ls,hls⟩:∃ ls,ls=Wot.leaves sd (2 ^ h):=⟨_,rfl⟩
 rw [← hls] at hl0 hw0 hp0 hlv
 have HL:=Lib.hid (And.intro hl0 (And.intro hw0 hp0))
 have hb02:=H1.out.1.trans (hb2.mono hs01)
 have hrt:=zIQ lv _ _ h w2 (HT.out.below hb02) hlv hl0 hh
 obtain ⟨la,lc,rfl⟩:=hlv.slice
 obtain ⟨ln,hln⟩:∃ ln,ln=ls.length:=⟨_,rfl⟩
 rw [← hln] at hrt ⊢
 obtain ⟨r,hr⟩:∃ r,r=Wot.root h ls:=⟨_,rfl⟩
 rw [← hr] at hrt
 have hrl:r.length=32:=by rw [hr];exact zFS h ls hl0 hw0
 have HR:=Lib.hid hr
 have HRT:=Lib.hid (And.intro hrt hb2)
 clear hlv hrt hb2 hb02 k1 k2 hl0 hw0 hp0 hls hln hr
 go_wp2_with fail
 refine HRT.out.1.mono ?_
 rintro e w3 ⟨rfl,hb3⟩
 have hb13:=HRT.out.2.trans (hb3.mono HRT.out.2.size)
 have HB3:=Lib.hid hb13
 clear hb13
 go_wp2_with fail
 refine (zFA h r w3 (HT.out.below (H1.out.1.trans (HB3.out.mono hs01))) hh hrl).mono ?_
 rintro e w4 ⟨v4,rfl,h4,hb4⟩
 have H4:=Lib.hid (And.intro h4 (HB3.out.trans (hb4.mono HB3.out.size)))
 have hln:(Wot.text Wot.tPrint [Cod.be 1 h,r]).length≤100000000:=by
  unfold Wot.text
  rw [List.length_append]
  have h1:(Cod.net Wot.tPrint).length≤100:=by
   rw [Cod.zAL,show Wot.tPrint.length=5 from rfl,Lib.nDigits_small (by decide)]
   decide
  have h2:=zAa [Cod.be 1 h,r] (fun x hx=>by
   simp only [List.mem_cons,List.not_mem_nil,or_false] at hx
   rcases hx with rfl | rfl
   · rw [Cod.zt];decide
   · omega) (show 2≤100 by decide)
  omega
 clear h4 hb4
 go_wp2_with fail
 refine (zEE v4 _ w4 H4.out.1.bys hln).mono ?_
 rintro e w5 ⟨rfl,hb5⟩
 have hpq:Sha.sum (Wot.text Wot.tPrint [Cod.be 1 h,r])=Wot.print sd h:=by
  rw [HL.out.2.2,← HR.out]
  rfl
 rw [hpq]
 have hb15:Below w1.heap.size w1 w5:=H4.out.2.trans (hb5.mono H4.out.2.size)
 have hb05:=H1.out.1.trans (hb15.mono hs01)
 have kz:=H1.out.2.1.kept hb15
 have hlen:(Wot.print sd h).length=32:=Wot.tagged_len _ _
 obtain ⟨hq1,hq2,hq3⟩:=zAP (p:=p2) (h:=Wot.print sd h) hlen kz
 obtain ⟨co,hco⟩:∃ q,q=bV (Wot.print sd h):=⟨_,rfl⟩
 rw [← hco] at hq2 hq3
 try rw [← hco]
 have hcol:co.length=32:=hq2.1
 have HLD:=Lib.hid hq3
 have HM:=Lib.hid (And.intro hco (zAI co hb05 hpge))
 clear hco hq3
 go_wp2_with fail
 trace_state
 refine bodyPost_ret (v:=.tuple #[.agg co.toArray,.int .i64 0]) (by simp [results,Tryz.results35,asAddr,HLD.out]) rfl ⟨by rw [HM.out.1],HM.out.2⟩
end Go.Proofs.YtdlkghdfkjdajaaGreatDoor
end
section
namespace Go.Proofs.YtdlkghdfkjdajaaGreatDoor
open Go Go.RowKit Go.Mem Gf
set_option linter.unusedVariables false
set_option linter.unusedSimpArgs false
attribute [local go_sem ↓] Go.wp_at_zero Go.wp_at_succ
attribute [local go_sem ↓] zY zU zm zf
attribute [local go_sem] ptrB_eq ptrO_eq ptrIs_eq aggL_eq aggIs_eq zS zV zD zF zJ zK zB
theorem i4s:(Tryz.prog.info? 48).map (·.size)=some 4:=by kernel_rfl
theorem zBC (dst:Option Tmp) (x y:Operand) (ty:TypeId) (pos:String) (af:Array Edge) (a:Act) (w:World) (K:Act→World→Prop) (Q:Exit→Act→World→Prop)
  (hp:zBe (a.eval x)=true) (hy:zBX (a.eval y)=true) (ht:zi 4 w (zAy (a.eval x)) (zAz (a.eval x))) (hc:zAS 4 (zAu (a.eval y))) :
  Oper.wp Tryz.prog ⟨dst,.store 48 x y,ty,pos,af,none⟩ a w K Q=K (a.put dst undef) (w.setCells (zAy (a.eval x)) (zAz (a.eval x)) (zAu (a.eval y))) :=
 zCI i4s dst x y ty pos af a w K Q hp hy ht hc
theorem zAt {w:World} {b:Nat} {cs:List Value} (h:zi 4 w b 0) (hc:zAS 4 cs):(loadVar 48 ⟨b,0,none⟩).run Tryz.prog (w.setCells b 0 cs)=.ok (.agg cs.toArray) (w.setCells b 0 cs):=by
 have h2:=zDf h b 0 cs
 refine run_loadVar_mid _ b 0 _ cs _ ?_ Tryz.underlying48 rfl (by rw [hc.1];exact i4s)
 have:=zAi h2
 rwa [zC5 h hc] at this
attribute [local go_sem ↓] zBC
set_option maxRecDepth 20000 in
set_option maxHeartbeats 2000000 in
theorem zHr (sd:List UInt8) (h leaf:Nat) (v:Value) (m:List UInt8) (w:World) (hT:Tab w) (hs:sd.length=16) (hh:h≤4) (hlf:leaf < 2 ^ h) (hv:Bys w v m) (hm:m.length≤1000) :
  Calls Tryz.prog 39 #[.agg (bV sd).toArray,.int .i64 h,.int .i64 leaf,v] w fun e w'=>∃ vv pv,e=.returned (.tuple #[.agg #[.int .i64 h,.int .i64 leaf,vv,pv],.int .i64 0])∧zL bV WfH 32 34 w' w.heap.size vv (Wot.signO sd leaf m)∧zL bV WfH 32 34 w' w.heap.size pv (Wot.proof h leaf (Wot.leaves sd (2 ^ h)))∧Below w.heap.size w w':=by
 have HT:=Lib.hid (And.intro hT hv)
 clear hT
 have hlv:=fun w1 (hb:Below w.heap.size w w1)=>zDJ sd h w1 (HT.out.1.below hb) hs hh
 obtain ⟨n,hn⟩:∃ n,n=2 ^ h:=⟨_,rfl⟩
 have hnb:n≤16:=by rw [hn];exact Nat.pow_le_pow_right (by decide) hh
 have hsh:IntKind.i64.wrap (2 ^ h)=(n:Int):=by
  rw [hn]
  have:((2:Int) ^ h)=((2 ^ h:Nat):Int):=by simp
  rw [this]
  exact IntWalk.i64_in _ (by rw [← hn];omega)
 rw [← hn] at hlf
 have h0':¬ (h:Int) < 0:=by omega
 have l0:¬ (leaf:Int) < 0:=by omega
 have l1:¬ (n:Int)≤(leaf:Int):=by omega
 have l2:(leaf:Int) < (n:Int):=by omega
 have lb0:decide ((leaf:Int) < 0)=false:=decide_eq_false l0
 have lb1:decide ((n:Int)≤(leaf:Int))=false:=decide_eq_false l1
 obtain ⟨ls,hls⟩:∃ ls,ls=Wot.leaves sd (2 ^ h):=⟨_,rfl⟩
 have hll:ls.length=2 ^ h:=by rw [hls];exact Wot.leaves_len _ _
 rw [← hls] at hlv ⊢
 have HN:=Lib.hid (And.intro hn hll)
 obtain ⟨va,vc,rfl⟩:=hv.eq_slice
 obtain ⟨mn,hmn⟩:∃ n,n=m.length:=⟨_,rfl⟩
 rw [← hmn] at HT ⊢
 obtain ⟨cs,hcs⟩:∃ c,c=bV sd:=⟨_,rfl⟩
 have hcl:cs.length=16:=by rw [hcs,zG];exact hs
 have hsg:=fun w1 (hb:Below w.heap.size w w1)=>zIX sd leaf _ m w1 (HT.out.1.below hb) hs (by omega) (HT.out.2.below hb) hm
 rw [← hcs] at hlv hsg ⊢
 have HLV:=Lib.hid (And.intro hlv hsg)
 clear hcs hlv hsg hn hll hls hmn hv
 go_enter Tryz.func39,Tryz.ntmps39
 go_upto_region 1 with fail
 obtain ⟨w1,hw1⟩:∃ q,q=(w.alloc (.cells cs.toArray 23)).alloc (.cells #[.int .i64 0,.int .i64 0,.slice none 0 0,.slice none 0 0] 48):=⟨_,rfl⟩
 obtain ⟨p1,hp1⟩:∃ q,q=w.heap.size:=⟨_,rfl⟩
 obtain ⟨p2,hp2⟩:∃ q,q=w.heap.size+1:=⟨_,rfl⟩
 have hb1:Below w.heap.size w w1:=by rw [hw1];exact ((Below.refl _ _).alloc (Nat.le_refl _) _).alloc (by simp) _
 have hk1:Blk w1 p1 cs.toArray 23:=by rw [hw1,hp1];exact (Blk.new _ _ _).alloc _
 have hk2:Blk w1 p2 #[.int .i64 0,.int .i64 0,.slice none 0 0,.slice none 0 0] 48:=by rw [hw1,hp2];exact Blk.new_at _ _ _ _ (by simp)
 have hs01:=hb1.size
 have hpge:w.heap.size≤p2:=by omega
 rw [← hw1,← hp2,← hp1]
 have H1:=Lib.hid (And.intro hb1 (And.intro hk1 hk2))
 have k1:zh 16 w1 p1 0=cs:=zn hk1 hcl (fun k _=>by simp)
 have k2:zi 16 w1 p1 0:=zQ hk1 (by simp [hcl])
 clear hw1 hp1 hp2 hb1 hk1 hk2
 go_wp2_with fail
 refine (zDR h w1 hh).mono ?_
 rintro e _ ⟨rfl,rfl⟩
 go_wp2_with fail
 refine (HLV.out.1 w1 H1.out.1).mono ?_
 rintro e w2 ⟨lv,rfl,hlv2,hb2⟩
 have hb02:=H1.out.1.trans (hb2.mono hs01)
 have hpf:=zG8 lv ls w1.heap.size h leaf w2 (HT.out.1.below hb02) hlv2 HN.out.2 hh (by rw [← HN.out.1];exact hlf)
 obtain ⟨la,lc,rfl⟩:=hlv2.slice
 obtain ⟨ln,hln⟩:∃ ln,ln=ls.length:=⟨_,rfl⟩
 rw [← hln] at hpf ⊢
 have HPF:=Lib.hid (And.intro hpf hb2)
 clear hlv2 hpf hb2 hb02 hln k1 k2
 go_wp2_with fail
 refine HPF.out.1.mono ?_
 rintro e w3 ⟨pv,rfl,hpv,hb3⟩
 have hb13:=HPF.out.2.trans (hb3.mono HPF.out.2.size)
 have hb03:=H1.out.1.trans (hb13.mono hs01)
 have hs12:=HPF.out.2.size
 have H3:=Lib.hid (And.intro (hpv.lower (Nat.le_trans hs01 hs12)) (And.intro hb13 hb03))
 obtain ⟨pa,pc,e3⟩:=hpv.slice
 subst e3
 obtain ⟨pn,hpn⟩:∃ pn,pn=(Wot.proof h leaf ls).length:=⟨_,rfl⟩
 rw [← hpn] at H3 ⊢
 have k1:zh 16 w3 p1 0=cs:=zn (H1.out.2.1.kept hb13) hcl (fun k _=>by simp)
 have k2:zi 16 w3 p1 0:=zQ (H1.out.2.1.kept hb13) (by simp [hcl])
 have hs03:=hb03.size
 clear hpv hb3 hb13 hb03 hpn
 go_wp2_with fail
 refine (HLV.out.2 w3 H3.out.2.2).mono ?_
 rintro e w4 ⟨sv,rfl,hsv,hb4⟩
 have hb04:=H3.out.2.2.trans (hb4.mono hs03)
 have hk4:=(H1.out.2.2.kept H3.out.2.1).kept hb4
 have H4:=Lib.hid (And.intro (hsv.lower hs03) (And.intro (H3.out.1.chg (S:=fun _=>False) (Chg.of_below hb4) (fun _ _=>id)) (And.intro hb04 hk4)))
 obtain ⟨sa,sc,e4⟩:=hsv.slice
 subst e4
 obtain ⟨sn,hsn⟩:∃ sn,sn=(Wot.signO sd leaf m).length:=⟨_,rfl⟩
 rw [← hsn] at H4 ⊢
 have q2:zi 4 w4 p2 0:=zQ hk4 (by decide)
 have hca4:zAS 4 [Value.int .i64 h,.int .i64 leaf,.slice sa sn sc,.slice pa pn pc]:=⟨rfl,fun v hv=>by
  simp only [List.mem_cons,List.not_mem_nil,or_false] at hv
  rcases hv with rfl | rfl | rfl | rfl <;> rfl⟩
 have HLD:=Lib.hid (zAt q2 hca4)
 have hpge2:∀ k,k=p2→w.heap.size≤k:=fun k hk=>by omega
 clear hsv hb4 hb04 hk4 hsn k1 k2
 go_wp2_with fail
 refine bodyPost_ret (v:=.tuple #[.agg #[.int .i64 h,.int .i64 leaf,.slice sa sn sc,.slice pa pn pc],.int .i64 0]) (by simp [results,Tryz.results39,asAddr,HLD.out]) rfl ?_
 have hch:Chg (fun b=>b=p2) w4 (w4.setCells p2 0 [Value.int .i64 h,.int .i64 leaf,.slice sa sn sc,.slice pa pn pc]):=Chg.setCells (S:=fun b=>b=p2) (L:=p2) rfl _ _ _ (Chg.refl _ _)
 have hf:∀ (v:Value) (l:List (List UInt8)),zL bV WfH 32 34 w4 w.heap.size v l→zL bV WfH 32 34 (w4.setCells p2 0 [Value.int .i64 h,.int .i64 leaf,.slice sa sn sc,.slice pa pn pc]) w.heap.size v l:=fun v l ho=>ho.chg hch (fun g hg e=>by
  subst e
  rcases ho.own.2 with ⟨e,_⟩ | ⟨g1,c1,r1,e,_,hh1,_⟩
  · rw [e] at hg;cases hg
  · rw [e] at hg
    injection hg with hg
    have a1:g1=g:=hg
    rw [a1,show w4.heap[g]?=some (.cells _ 48 (0,0)) from H4.out.2.2.2] at hh1
    injection hh1 with hh1
    injection hh1 with _ hh1
    exact absurd hh1 (by decide))
 exact ⟨_,_,rfl,hf _ _ H4.out.1,hf _ _ H4.out.2.1,zAI _ H4.out.2.2.1 hpge⟩
end Go.Proofs.YtdlkghdfkjdajaaGreatDoor
end
section
namespace Go.Mem
open Go Go.RowKit Gf
def St.get (s:St) (name:ByteArray):Option (List UInt8):=if s.dead=true then none else (Sto.best s.recs name s.recs.length).map fun k=>(s.recs.getD k Sto.Rec.free).data
end Go.Mem
namespace Go.Proofs.YtdlkghdfkjdajaaGreatDoor
open Go Go.RowKit Go.Mem Gf
attribute [local go_sem ↓] Go.wp_at_zero Go.wp_at_succ
def zEf (s:St) (name:ByteArray) (w:World) (e:Ending) (w':World):Prop :=
 Below w.heap.size w w'∧∃ v,e=.returned (.tuple #[v,.bool (s.get name).isSome])∧zP 5 w' w.heap.size v ((s.get name).getD [])
set_option maxRecDepth 20000 in
set_option maxHeartbeats 2000000 in
theorem zJH (N:Nat→Prop) (sb lb d L:Nat) (s:St) (name:ByteArray) (w:World) (h:zO w N sb lb d L s) :
  Calls Tryz.prog 66 #[.pointer (some ⟨sb,0,none⟩),.string name] w (zEf s name w):=by
 obtain ⟨lc,hS,hlc1,hlc2⟩:=h.blk
 have hl2:=h.ok.len2
 have H:=Lib.hid h;have HS:=Lib.hid hS
 obtain ⟨n,hnn⟩:∃ n,n=s.recs.length:=⟨_,rfl⟩
 rw [← hnn] at hlc1 hl2
 have Hn:=Lib.hid hnn
 clear h hS hnn
 go_enter Tryz.func66,Tryz.ntmps66
 go_wp2_with fail
 refine (zDM N sb lb d n lc s.room s.dead s.recs name w (by rw [Hn.out];exact HS.out) H.out.recs Hn.out (by omega) hlc1 hlc2 (fun r hr=>by have:=(H.out.ok.each r hr).2.2;have:=H.out.ok.few;omega)).mono ?_
 rintro e w3 ⟨rfl,hb3⟩
 have c3:w3.cell? ⟨sb,3,none⟩=some (.bool s.dead):=(HS.out.kept hb3).cell 3
 have c2:w3.cell? ⟨sb,2,none⟩=some (.slice (some ⟨lb,0,none⟩) n lc):=by have:=(HS.out.kept hb3).cell 2;rw [this,Hn.out];rfl
 have HB3:=Lib.hid hb3
 have hR3:=H.out.recs.below hb3
 have HR3:=Lib.hid hR3
 clear hb3 hR3
 by_cases hd:s.dead=true
 · have HG:=Lib.hid (show s.get name=none from by unfold St.get;rw [if_pos hd])
   rw [hd] at c3
   clear hd
   go_wp2
   go_ret2
   unfold zEf
   rw [HG.out]
   exact ⟨HB3.out,_,rfl,zP.nil _ _ _⟩
 · have hd:s.dead=false:=by simpa using hd
   cases hbst:Sto.best s.recs name n with
   | none =>
     have HG:=Lib.hid (show s.get name=none from by unfold St.get;rw [if_neg (by rw [hd];decide),← Hn.out,hbst];rfl)
     rw [hd] at c3
     clear hd hbst
     simp only [zBg]
     go_wp2
     go_ret2
     unfold zEf
     rw [HG.out]
     exact ⟨HB3.out,_,rfl,zP.nil _ _ _⟩
   | some j =>
     obtain ⟨hj,rj,hrj,_⟩:=zDc _ _ _ _ hbst
     have HG:=Lib.hid (show s.get name=some rj.data from by
      unfold St.get;rw [if_neg (by rw [hd];decide),← Hn.out,hbst]
      show some (s.recs.getD j Sto.Rec.free).data=_
      rw [List.getD_eq_getElem?_getD,hrj];rfl)
     obtain ⟨a,c,_,_,_,e3,hda,_⟩:=HR3.out.at hrj
     have hdl:=(H.out.ok.each rj (List.mem_of_getElem? hrj)).2.1
     have j0:(0:Int)≤(j:Int):=by omega
     have j1:(j:Int) < (n:Int):=by omega
     rw [hd] at c3
     have HDA:=Lib.hid hda.1
     clear hd hbst hrj hda
     simp only [zBg]
     go_wp2_with (at_builtin;refine zBL E8c rfl _ _ rfl (base:=w3.heap.size) (bs:=[]) (news:=rj.data) rfl rfl (zP.nil _ _ _) HDA.out ?z1 ?z2 ?_)
     case z1=>simp;omega
     case z2=>exact Nat.le_refl _
     intro v4 w4 ho4 hg4
     have hb4:=zAE hg4 rfl
     have HO4:=Lib.hid (show zP 5 w4 w3.heap.size v4 rj.data from ho4)
     clear hg4 ho4
     go_wp2
     go_ret2
     unfold zEf
     rw [HG.out]
     exact ⟨HB3.out.trans (hb4.mono HB3.out.size),_,rfl,HO4.out.mono HB3.out.size⟩
end Go.Proofs.YtdlkghdfkjdajaaGreatDoor
end
section
namespace Go.Proofs.YtdlkghdfkjdajaaGreatDoor
open Go Go.RowKit Go.Mem Gf
set_option linter.unusedVariables false
set_option linter.unusedSimpArgs false
attribute [local go_sem ↓] Go.wp_at_zero Go.wp_at_succ
def zBM (v:Value) (i:Nat):Value:=match v with
 | .tuple a=>(a[i]?).getD undef
 | _=>undef
theorem zK7 (w:World) (dn:Nat) (N:Nat→Prop) (sb lb d L:Nat) (s:St) (h:zO w N sb lb d L s) (name:ByteArray) :
  Calls Tryz.prog 66 #[.pointer (some ⟨sb,0,none⟩),.string name] (w.drewN dn) fun e w'=>∃ x y,e=.returned (.tuple #[x,y])∧(y=.bool (s.get name).isSome∧Bys w' x ((s.get name).getD [])∧Below w.heap.size w w'):=by
 have hb:=below_drewN (Below.refl w.heap.size w) dn
 refine (zJH N sb lb d L s name _ (h.below hb)).mono ?_
 rintro e w1 ⟨hb1,v,rfl,hv⟩
 exact ⟨v,_,rfl,rfl,hv.bys,hb.trans hb1⟩
def zDh (sb:Nat) (name:ByteArray) (sd:List UInt8) (h next:Nat) (pr:List UInt8):List Value :=
 [.pointer (some ⟨sb,0,none⟩),.string name]++bV sd++[.int .i64 h,.int .i64 next]++bV pr
def ze (w:World) (kb sb:Nat) (name:ByteArray) (sd:List UInt8) (h next:Nat) (pr:List UInt8):Prop:=Blk w kb (zDh sb name sd h next pr).toArray 87
section
variable {w:World} {kb sb h next:Nat} {name:ByteArray} {sd pr:List UInt8}
theorem ze.c0 (k:ze w kb sb name sd h next pr):w.cell? ⟨kb,0,none⟩=some (.pointer (some ⟨sb,0,none⟩)):=by rw [Blk.cell k];rfl
theorem ze.c1 (k:ze w kb sb name sd h next pr):w.cell? ⟨kb,1,none⟩=some (.string name):=by rw [Blk.cell k];rfl
theorem zF5 (hs:sd.length=16) (i:Nat) (x y:Value):([x,y]++bV sd++[Value.int .i64 h,.int .i64 next]++bV pr)[18+i]?=([Value.int .i64 h,.int .i64 next]++bV pr)[i]?:=by
 have h1:([x,y]++bV sd).length=18:=by simp [zG,hs]
 rw [List.append_assoc ([x,y]++bV sd),List.getElem?_append_right (by omega),h1,Nat.add_sub_cancel_left]
theorem ze.c18 (k:ze w kb sb name sd h next pr) (hs:sd.length=16):w.cell? ⟨kb,18,none⟩=some (.int .i64 h):=by
 rw [Blk.cell k,List.getElem?_toArray]
 exact zF5 hs 0 _ _
theorem ze.c19 (k:ze w kb sb name sd h next pr) (hs:sd.length=16):w.cell? ⟨kb,19,none⟩=some (.int .i64 next):=by
 rw [Blk.cell k,List.getElem?_toArray]
 exact zF5 hs 1 _ _
theorem ze.set (k:ze w kb sb name sd h next pr) (hs:sd.length=16) (n:Nat):ze (w.setCell ⟨kb,19,none⟩ (.int .i64 n)) kb sb name sd h n pr:=by
 have h2:=Blk.set k 19 (.int .i64 n)
 have e:(zDh sb name sd h next pr).toArray.setIfInBounds 19 (.int .i64 n)=(zDh sb name sd h n pr).toArray:=by
  have h1:([Value.pointer (some ⟨sb,0,none⟩),.string name]++bV sd).length=18:=by simp [zG,hs]
  unfold zDh
  rw [List.setIfInBounds_toArray,List.append_assoc ([Value.pointer (some ⟨sb,0,none⟩),.string name]++bV sd),List.set_append_right _ _ (by omega),h1,List.append_assoc ([Value.pointer (some ⟨sb,0,none⟩),.string name]++bV sd)]
  rfl
 rw [e] at h2
 exact h2
end
def zX (s:St) (name:ByteArray) (next:Nat):Nat:=match s.get name with
 | none=>next
 | some b=>max next (Cod.zAh b)
set_option maxRecDepth 20000 in
set_option maxHeartbeats 2000000 in
theorem zEJ (w:World) (N:Nat→Prop) (kb sb lb d Ld:Nat) (s:St) (name:ByteArray) (sd:List UInt8) (h next:Nat) (pr:List UInt8) (hk:ze w kb sb name sd h next pr) (hst:zO w N sb lb d Ld s) (hs:sd.length=16) (hN:N kb) (hf:¬ zAe sb lb d Ld kb) (h4:∀ b,s.get name=some b→b.length≤7) (hnx:next≤4611686018427387904) :
  Calls Tryz.prog 36 #[.pointer (some ⟨kb,0,none⟩)] w fun e w'=>e=.returned (.tuple #[])∧ze w' kb sb name sd h (zX s name next) pr∧zO w' N sb lb d Ld s∧Chg (fun b=>b=kb) w w':=by
 have HC:=Lib.hid (show (∀ w',Below w.heap.size w w'→w'.cell? ⟨kb,0,none⟩=some (.pointer (some ⟨sb,0,none⟩)))∧(∀ w',Below w.heap.size w w'→w'.cell? ⟨kb,1,none⟩=some (.string name)) from
  ⟨fun w' hb=>ze.c0 (Blk.kept hk hb),fun w' hb=>ze.c1 (Blk.kept hk hb)⟩)
 have H:=Lib.hid (And.intro hk (And.intro hst (And.intro hN (And.intro hf h4))))
 clear hk hst hN hf h4
 go_enter Tryz.func36,Tryz.ntmps36
 go_upto_region 0 with fail
 refine Tail.zT 13 (fun k=>k == 8) (fun k=>none)
  (fun D z w'=>(D 8=false→∃ n,w'=World.drewN w n)∧(D 8=true→∃ x_ y,z 8=.tuple #[x_,y]∧(y=.bool (s.get name).isSome∧Bys w' x_ ((s.get name).getD [])∧Below w.heap.size w w')))
  (by kernel_rfl) (by kernel_rfl) (fun k hk=>by simp at hk;omega) (fun D z z' w' hz h=>⟨h.1,fun d=>by rw [← hz 8 d];exact h.2 d⟩)
  (⟨fun _=>⟨1,rfl⟩,(fun h=>by cases h)⟩) (fun z=>?_)
 simp only [List.take_succ_cons,List.take_zero,List.drop_succ_cons,List.drop_zero]
 refine Tail.zI (by rfl) (by rfl) ?_
 apply Exists.intro
 refine ⟨fun w=>?_,?_⟩
 · go_simp <;> with_reducible rfl
 simp only [Act.put,List.setIfInBounds_toArray,List.set_cons_zero,List.set_cons_succ,Nat.reduceAdd,Nat.reduceEqDiff,reduceIte,Option.getD_some,Option.getD_none]
 refine Tail.zI (by rfl) (by rfl) ?_
 apply Exists.intro
 refine ⟨fun w=>?_,?_⟩
 · go_simp <;> with_reducible rfl
 simp only [Act.put,List.setIfInBounds_toArray,List.set_cons_zero,List.set_cons_succ,Nat.reduceAdd,Nat.reduceEqDiff,reduceIte,Option.getD_some,Option.getD_none]
 refine Tail.zI (by rfl) (by rfl) ?_
 apply Exists.intro
 refine ⟨fun w=>?_,?_⟩
 · go_simp <;> with_reducible rfl
 simp only [Act.put,List.setIfInBounds_toArray,List.set_cons_zero,List.set_cons_succ,Nat.reduceAdd,Nat.reduceEqDiff,reduceIte,Option.getD_some,Option.getD_none]
 refine Tail.zA0 (by rfl) (by rfl) ?_
 apply Exists.intro
 refine ⟨fun D w' hd hp hJ=>?_,?_⟩
 · obtain ⟨dn,hdn⟩:=hJ.1 (hp 8 (by kernel_rfl))
   have cc:=HC.out.1 w' (by rw [hdn];exact below_drewN (Below.refl _ _) dn)
   clear hdn dn
   go_simp <;> with_reducible rfl
 simp only [Act.put,List.setIfInBounds_toArray,List.set_cons_zero,List.set_cons_succ,Nat.reduceAdd,Nat.reduceEqDiff,reduceIte,Option.getD_some,Option.getD_none]
 refine Tail.zI (by rfl) (by rfl) ?_
 apply Exists.intro
 refine ⟨fun w=>?_,?_⟩
 · go_simp <;> with_reducible rfl
 simp only [Act.put,List.setIfInBounds_toArray,List.set_cons_zero,List.set_cons_succ,Nat.reduceAdd,Nat.reduceEqDiff,reduceIte,Option.getD_some,Option.getD_none]
 refine Tail.zI (by rfl) (by rfl) ?_
 apply Exists.intro
 refine ⟨fun w=>?_,?_⟩
 · go_simp <;> with_reducible rfl
 simp only [Act.put,List.setIfInBounds_toArray,List.set_cons_zero,List.set_cons_succ,Nat.reduceAdd,Nat.reduceEqDiff,reduceIte,Option.getD_some,Option.getD_none]
 refine Tail.zI (by rfl) (by rfl) ?_
 apply Exists.intro
 refine ⟨fun w=>?_,?_⟩
 · go_simp <;> with_reducible rfl
 simp only [Act.put,List.setIfInBounds_toArray,List.set_cons_zero,List.set_cons_succ,Nat.reduceAdd,Nat.reduceEqDiff,reduceIte,Option.getD_some,Option.getD_none]
 refine Tail.zA0 (by rfl) (by rfl) ?_
 apply Exists.intro
 refine ⟨fun D w' hd hp hJ=>?_,?_⟩
 · obtain ⟨dn,hdn⟩:=hJ.1 (hp 8 (by kernel_rfl))
   have cc:=HC.out.2 w' (by rw [hdn];exact below_drewN (Below.refl _ _) dn)
   clear hdn dn
   go_simp <;> with_reducible rfl
 simp only [Act.put,List.setIfInBounds_toArray,List.set_cons_zero,List.set_cons_succ,Nat.reduceAdd,Nat.reduceEqDiff,reduceIte,Option.getD_some,Option.getD_none]
 refine Tail.zAT (by rfl) (by rfl) ?_ ?_
 · apply Exists.intro
   apply Exists.intro
   refine ⟨fun w'=>?_,?_⟩
   · go_simp <;> exact ⟨rfl,rfl⟩
   intro D z' w' hD hz hd hp hJ
   obtain ⟨dn,hdn⟩:=hJ.1 hD
   subst hdn
   refine (zK7 w dn N sb lb d Ld s H.out.2.1 name).mono ?_
   rintro e w'' ⟨x',y,rfl,hxy⟩
   refine ⟨_,rfl,fun c hc=>by simp at hc,fun h=>?_,fun _=>?_⟩
   · simp [Tail.zAp] at h
   · exact ⟨x',y,by simp [Tail.zAb],hxy⟩
 simp only [Act.put,List.setIfInBounds_toArray,List.set_cons_zero,List.set_cons_succ,Nat.reduceAdd,Nat.reduceEqDiff,reduceIte,Option.getD_some,Option.getD_none]
 refine Tail.zI (by rfl) (by rfl) ?_
 apply Exists.intro
 refine ⟨fun w=>?_,?_⟩
 · go_simp <;> with_reducible rfl
 simp only [Act.put,List.setIfInBounds_toArray,List.set_cons_zero,List.set_cons_succ,Nat.reduceAdd,Nat.reduceEqDiff,reduceIte,Option.getD_some,Option.getD_none]
 refine Tail.zA0 (by rfl) (by rfl) ?_
 refine ⟨zBM (z 8) 0,fun D w' hd hp hJ=>?_,?_⟩
 · obtain ⟨x',y,e,_⟩:=hJ.2 (hd 8 (by kernel_rfl))
   rw [show zBM (z 8) 0=x' from by rw [e];rfl]
   simp only [e]
   go_simp <;> with_reducible rfl
 simp only [Act.put,List.setIfInBounds_toArray,List.set_cons_zero,List.set_cons_succ,Nat.reduceAdd,Nat.reduceEqDiff,reduceIte,Option.getD_some,Option.getD_none]
 refine Tail.zA0 (by rfl) (by rfl) ?_
 refine ⟨zBM (z 8) 1,fun D w' hd hp hJ=>?_,?_⟩
 · obtain ⟨x',y,e,_⟩:=hJ.2 (hd 8 (by kernel_rfl))
   rw [show zBM (z 8) 1=y from by rw [e];rfl]
   simp only [e]
   go_simp <;> with_reducible rfl
 simp only [Act.put,List.setIfInBounds_toArray,List.set_cons_zero,List.set_cons_succ,Nat.reduceAdd,Nat.reduceEqDiff,reduceIte,Option.getD_some,Option.getD_none]
 refine Tail.zI (by rfl) (by rfl) ?_
 apply Exists.intro
 refine ⟨fun w=>?_,?_⟩
 · go_simp <;> with_reducible rfl
 simp only [Act.put,List.setIfInBounds_toArray,List.set_cons_zero,List.set_cons_succ,Nat.reduceAdd,Nat.reduceEqDiff,reduceIte,Option.getD_some,Option.getD_none]
 intro w1 hJ
 obtain ⟨a1,e1,hz,hxy⟩:=hJ.2 rfl
 rw [show zBM (z 8) 0=a1 from by rw [hz];rfl,show zBM (z 8) 1=e1 from by rw [hz];rfl,hz]
 clear hJ hz z
 obtain ⟨rfl,hv1,hb1⟩:=hxy
 have hk1:ze w1 kb sb name sd h next pr:=Blk.kept H.out.1 hb1
 have H1:=Lib.hid (And.intro hk1 (And.intro (H.out.2.1.below hb1) (Chg.of_below (S:=fun b=>b=kb) hb1)))
 obtain ⟨ob,hob⟩:∃ o,o=s.get name:=⟨_,rfl⟩
 have h4:=H.out.2.2.2.2
 rw [← hob] at hv1 h4 ⊢
 have HO:=Lib.hid hob
 clear hk1 hob hb1
 cases ob with
 | none =>
   clear hv1 h4
   go_wp2_with fail
   refine bodyPost_ret (v:=.tuple #[]) (results_none Tryz.results36 _ _ _) rfl ?_
   have e:zX s name next=next:=by unfold zX;rw [← HO.out]
   rw [e]
   exact ⟨rfl,H1.out.1,H1.out.2.1,H1.out.2.2⟩
 | some b =>
   have hbl:=h4 b rfl
   have hget:=zF1 a1 b w1 hv1 hbl
   have hgb:=Cod.zBV b hbl
   obtain ⟨g,hg⟩:∃ g,g=Cod.zAh b:=⟨_,rfl⟩
   rw [← hg] at hget hgb
   have HG:=Lib.hid (And.intro hget hg)
   have c19:=H1.out.1.c19 hs
   have f19:=Blk.free H1.out.1 19
   clear hget hg hv1 h4 hbl
   go_wp2_with fail
   refine HG.out.1.mono ?_
   rintro e _ ⟨rfl,rfl⟩
   go_wp2_with fail
   go_end0
   have e:zX s name next=max next g:=by unfold zX;rw [← HO.out,HG.out.2]
   rw [e,show max (next:Int) (g:Int)=((max next g:Nat):Int) by omega]
   have hc:Chg (fun b=>b=kb) w1 (w1.setCell ⟨kb,19,none⟩ (.int .i64 (max next g:Nat))):=Chg.set (S:=fun b=>b=kb) (a:=⟨kb,19,none⟩) (Chg.refl _ _) rfl _
   exact ⟨rfl,H1.out.1.set hs _,H1.out.2.1.chg hc (fun b hb e=>by subst e;exact H.out.2.2.2.1 hb) (fun b e _=>by subst e;exact H.out.2.2.1),H1.out.2.2.trans hc⟩
set_option maxRecDepth 20000 in
set_option maxHeartbeats 2000000 in
theorem zCp (w:World) (N:Nat→Prop) (kb sb lb d Ld:Nat) (s:St) (name:ByteArray) (sd:List UInt8) (h next:Nat) (pr:List UInt8) (hk:ze w kb sb name sd h next pr) (hst:zO w N sb lb d Ld s) (hs:sd.length=16) (hN:N kb) (hf:¬ zAe sb lb d Ld kb) (h4:∀ b,s.get name=some b→b.length≤7) (hnx:next≤1000000) (hh:h≤4) :
  Calls Tryz.prog 24 #[.pointer (some ⟨kb,0,none⟩)] w fun e w'=>e=.returned (.int .i64 ((2 ^ h - zX s name next:Nat):Int))∧ze w' kb sb name sd h (zX s name next) pr∧zO w' N sb lb d Ld s∧Chg (fun b=>b=kb) w w':=by
 have hlk:=zEJ w N kb sb lb d Ld s name sd h next pr hk hst hs hN hf h4 (by omega)
 have hnx2:zX s name next < 72057594037927936:=by
  unfold zX
  cases hg:s.get name with
  | none=>simp only;omega
  | some b =>
    have:=Cod.zBV b (h4 b hg)
    simp only
    omega
 obtain ⟨nx,hnxx⟩:∃ n,n=zX s name next:=⟨_,rfl⟩
 rw [← hnxx] at hlk hnx2 ⊢
 obtain ⟨n,hn⟩:∃ n,n=2 ^ h:=⟨_,rfl⟩
 have hnb:n≤16:=by rw [hn];exact Nat.pow_le_pow_right (by decide) hh
 have hsh:IntKind.i64.wrap (2 ^ h)=(n:Int):=by
  rw [hn]
  have:((2:Int) ^ h)=((2 ^ h:Nat):Int):=by simp
  rw [this]
  exact IntWalk.i64_in _ (by rw [← hn];omega)
 rw [← hn]
 have h0':¬ (h:Int) < 0:=by omega
 have q1:IntKind.i64.wrap ((n:Int) - (nx:Int))=(n:Int) - (nx:Int):=IntWalk.i64_in _ (by omega)
 have q2:max 0 ((n:Int) - (nx:Int))=((n - nx:Nat):Int):=by omega
 have HL:=Lib.hid hlk
 clear hlk hk hst hN hf h4 hnxx hn
 go_enter Tryz.func24,Tryz.ntmps24
 go_wp2_with fail
 refine HL.out.mono ?_
 rintro e w1 ⟨rfl,hk1,hst1,hc1⟩
 have HK1:=Lib.hid (And.intro (hk1.c18 hs) (hk1.c19 hs))
 have H1:=Lib.hid (And.intro hk1 (And.intro hst1 hc1))
 clear hk1 hst1 hc1
 go_upto_region 2 with fail
 refine Tail.zT 11 (fun k=>false) (fun k=>none)
  (fun D z w'=>∃ n,w'=w1.drewN n)
  (by kernel_rfl) (by kernel_rfl) (fun k hk=>by cases hk) (fun D z z' w' hz h=>h)
  (⟨1,rfl⟩) (fun z=>?_)
 simp only [List.take_succ_cons,List.take_zero,List.drop_succ_cons,List.drop_zero]
 refine Tail.zI (by rfl) (by rfl) ?_
 apply Exists.intro
 refine ⟨fun w=>?_,?_⟩
 · go_simp <;> with_reducible rfl
 simp only [Act.put,List.setIfInBounds_toArray,List.set_cons_zero,List.set_cons_succ,Nat.reduceAdd,Nat.reduceEqDiff,reduceIte,Option.getD_some,Option.getD_none]
 refine Tail.zI (by rfl) (by rfl) ?_
 apply Exists.intro
 refine ⟨fun w=>?_,?_⟩
 · go_simp <;> with_reducible rfl
 simp only [Act.put,List.setIfInBounds_toArray,List.set_cons_zero,List.set_cons_succ,Nat.reduceAdd,Nat.reduceEqDiff,reduceIte,Option.getD_some,Option.getD_none]
 refine Tail.zI (by rfl) (by rfl) ?_
 apply Exists.intro
 refine ⟨fun w=>?_,?_⟩
 · go_simp <;> with_reducible rfl
 simp only [Act.put,List.setIfInBounds_toArray,List.set_cons_zero,List.set_cons_succ,Nat.reduceAdd,Nat.reduceEqDiff,reduceIte,Option.getD_some,Option.getD_none]
 refine Tail.zA0 (by rfl) (by rfl) ?_
 apply Exists.intro
 refine ⟨fun D w' hd hp hJ=>?_,?_⟩
 · have cc:=(show w'.cell? ⟨kb,18,none⟩=some (.int .i64 h) from by obtain ⟨n,rfl⟩:=hJ;exact HK1.out.1)
   clear hJ
   go_simp <;> with_reducible rfl
 simp only [Act.put,List.setIfInBounds_toArray,List.set_cons_zero,List.set_cons_succ,Nat.reduceAdd,Nat.reduceEqDiff,reduceIte,Option.getD_some,Option.getD_none]
 refine Tail.zI (by rfl) (by rfl) ?_
 apply Exists.intro
 refine ⟨fun w=>?_,?_⟩
 · go_simp <;> with_reducible rfl
 simp only [Act.put,List.setIfInBounds_toArray,List.set_cons_zero,List.set_cons_succ,Nat.reduceAdd,Nat.reduceEqDiff,reduceIte,Option.getD_some,Option.getD_none]
 refine Tail.zI (by rfl) (by rfl) ?_
 apply Exists.intro
 refine ⟨fun w=>?_,?_⟩
 · go_simp <;> with_reducible rfl
 simp only [Act.put,List.setIfInBounds_toArray,List.set_cons_zero,List.set_cons_succ,Nat.reduceAdd,Nat.reduceEqDiff,reduceIte,Option.getD_some,Option.getD_none]
 refine Tail.zI (by rfl) (by rfl) ?_
 apply Exists.intro
 refine ⟨fun w=>?_,?_⟩
 · go_simp <;> with_reducible rfl
 simp only [Act.put,List.setIfInBounds_toArray,List.set_cons_zero,List.set_cons_succ,Nat.reduceAdd,Nat.reduceEqDiff,reduceIte,Option.getD_some,Option.getD_none]
 refine Tail.zI (by rfl) (by rfl) ?_
 apply Exists.intro
 refine ⟨fun w=>?_,?_⟩
 · go_simp <;> with_reducible rfl
 simp only [Act.put,List.setIfInBounds_toArray,List.set_cons_zero,List.set_cons_succ,Nat.reduceAdd,Nat.reduceEqDiff,reduceIte,Option.getD_some,Option.getD_none]
 refine Tail.zA0 (by rfl) (by rfl) ?_
 apply Exists.intro
 refine ⟨fun D w' hd hp hJ=>?_,?_⟩
 · have cc:=(show w'.cell? ⟨kb,19,none⟩=some (.int .i64 nx) from by obtain ⟨n,rfl⟩:=hJ;exact HK1.out.2)
   clear hJ
   go_simp <;> with_reducible rfl
 simp only [Act.put,List.setIfInBounds_toArray,List.set_cons_zero,List.set_cons_succ,Nat.reduceAdd,Nat.reduceEqDiff,reduceIte,Option.getD_some,Option.getD_none]
 refine Tail.zI (by rfl) (by rfl) ?_
 apply Exists.intro
 refine ⟨fun w=>?_,?_⟩
 · go_simp <;> with_reducible rfl
 simp only [Act.put,List.setIfInBounds_toArray,List.set_cons_zero,List.set_cons_succ,Nat.reduceAdd,Nat.reduceEqDiff,reduceIte,Option.getD_some,Option.getD_none]
 refine Tail.zI (by rfl) (by rfl) ?_
 apply Exists.intro
 refine ⟨fun w=>?_,?_⟩
 · go_simp <;> with_reducible rfl
 simp only [Act.put,List.setIfInBounds_toArray,List.set_cons_zero,List.set_cons_succ,Nat.reduceAdd,Nat.reduceEqDiff,reduceIte,Option.getD_some,Option.getD_none]
 intro w2 hJ
 obtain ⟨dn,rfl⟩:=hJ
 clear z
 go_wp2
 go_ret
 exact ⟨rfl,H1.out.1,H1.out.2.1.below (below_drewN (Below.refl _ _) dn),H1.out.2.2.trans (Chg.of_below (below_drewN (Below.refl _ _) dn))⟩
end Go.Proofs.YtdlkghdfkjdajaaGreatDoor
end
