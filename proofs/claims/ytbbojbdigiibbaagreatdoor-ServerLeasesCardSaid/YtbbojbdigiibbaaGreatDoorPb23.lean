/- Texts of this proof,packed: ServerLeasesWalk. -/
import Derived.Test.YtbbojbdigiibbaaGreatDoorPb22
import Derived.Test.YtbbojbdigiibbaaGreatDoorPb09
import Derived.Test.YtbbojbdigiibbaaGreatDoorPb20
section
namespace Go.Mem
open Go Go.RowKit Gf Lea Go.Proofs.YtbbojbdigiibbaaGreatDoor
theorem zDM.all {W:World} {cs:List Value} {a:zH3} (h:zDM W cs a) (hl:cs.length=56):zAP 56 cs:=by
 refine ⟨hl,fun v hv=>?_⟩
 obtain ⟨j,hj⟩:=List.getElem?_of_mem hv
 have hjl:j < 56:=by
  rcases Nat.lt_or_ge j 56 with h' | h'
  · exact h'
  · rw [List.getElem?_eq_none (by omega)] at hj;cases hj
 rcases (by omega:j=0∨j=1∨j=2∨j=3∨4≤j) with rfl | rfl | rfl | rfl | h4
 · rw [h.dw] at hj;cases hj;rfl
 · rw [h.now] at hj;cases hj;rfl
 · rw [h.at_] at hj;cases hj;rfl
 · rw [h.keep] at hj;cases hj;rfl
 · have e:(zM a.r)[j - 4]?=some v:=by
    rw [← h.r.cs,List.getElem?_take,if_pos (by omega),List.getElem?_drop,show 4+(j - 4)=j from by omega];exact hj
   obtain ⟨a1,c1,e1⟩:=h.r.ts.eq_slice
   obtain ⟨a2,c2,e2⟩:=h.r.bl.eq_slice
   exact (zHY h.r.wf (by show a.r.vt.oneCell'=true;have e1:a.r.vt=_:=e1;rw [e1];rfl) (by have e2:a.r.vb=_:=e2;rw [e2];rfl)).2 v (List.mem_of_getElem? e)
theorem zKW {w:World} {b o n:Nat} {cs:List Value} (hc:∀ j v,cs[j]?=some v→w.cell? ⟨b,o+j,none⟩=some v) (hl:cs.length=n):zBh n w b o∧zN n w b o=cs:=by
 refine ⟨zC8 hc hl,?_⟩
 apply List.ext_getElem?
 intro j
 unfold zN
 rw [List.getElem?_map]
 rcases Nat.lt_or_ge j n with h | h
 · rw [List.getElem?_range h,List.getElem?_eq_getElem (by omega)]
   simp only [Option.map_some]
   rw [hc j (cs[j]'(by omega)) (by simp)]
   rfl
 · rw [List.getElem?_eq_none (by rw [List.length_range];exact h),List.getElem?_eq_none (by omega)];rfl
def zFr (w:World) (B:Nat) (v:Option Value) (l:List zP):Prop:=∃ a c,v=some (.slice a l.length c)∧zAI w (fun b=>b < B) (.slice a l.length c) l
theorem zFr.chg {w w':World} {B:Nat} {v:Option Value} {l:List zP} {S:Nat→Prop} (h:zFr w B v l) (hc:Chg S w w') (hs:∀ b,S b→b < B):zFr w' B v l:=by
 obtain ⟨a,c,e,hb⟩:=h
 exact ⟨a,c,e,hb.chg hc fun b hb _=>hs b hb⟩
theorem zFr.of {w w':World} {B:Nat} {u:Value} {l:List zP} (hB:B≤w.heap.size) (h:zAI w' (fun b=>b < w.heap.size) u l):zFr w' B (some u) l:=by
 obtain ⟨a,c,e,h2⟩:=id h
 subst e
 exact ⟨a,c,rfl,h.mono fun b hb=>.inl (by omega)⟩
end Go.Mem
namespace Go.Proofs.YtbbojbdigiibbaaGreatDoor
open Go Go.RowKit Go.Mem Gf Lea
set_option linter.unusedVariables false
set_option linter.unusedSimpArgs false
theorem i56a:(Tryz.prog.info? 50).map (·.size)=some 56:=by kernel_rfl
theorem zMl (dst:Option Tmp) (x:Operand) (ty:TypeId) (pos:String) (af:Array Edge) (gd:Option (Tmp × Bool)) (a:Act) (w:World) (K:Act→World→Prop) (Q:Exit→Act→World→Prop)
  (hp:zAs (a.eval x)=true) (ht:zBh 56 w (zAB (a.eval x)) (zAC (a.eval x))) :
  Oper.wp Tryz.prog ⟨dst,.load 50 x,ty,pos,af,gd⟩ a w K Q=K (a.put dst (.agg (zN 56 w (zAB (a.eval x)) (zAC (a.eval x))).toArray)) w :=
 zEX Tryz.underlying50 rfl i56a dst x ty pos af gd a w K Q hp ht
theorem zNF (dst:Option Tmp) (x y:Operand) (ty:TypeId) (pos:String) (af:Array Edge) (a:Act) (w:World) (K:Act→World→Prop) (Q:Exit→Act→World→Prop)
  (hp:zAs (a.eval x)=true) (hy:zBD (a.eval y)=true) (ht:zW 56 w (zAB (a.eval x)) (zAC (a.eval x))) (hc:zAP 56 (zAi (a.eval y))) :
  Oper.wp Tryz.prog ⟨dst,.store 50 x y,ty,pos,af,none⟩ a w K Q=K (a.put dst undef) (w.setCells (zAB (a.eval x)) (zAC (a.eval x)) (zAi (a.eval y))) :=
 zBN i56a dst x y ty pos af a w K Q hp hy ht hc
attribute [local irreducible] RF.V zk zM
attribute [local go_sem ↓] Go.wp_at_zero Go.wp_at_succ
attribute [local go_sem ↓] zMn zEf zLa zB2 zG1 zMl zNF
attribute [local go_sem] Value.oneCell' isU8_eq
attribute [local go_sem] ptrB_eq ptrO_eq ptrIs_eq aggL_eq aggIs_eq zT zCP zC zg ze zX zH zK
set_option maxRecDepth 20000 in
set_option maxHeartbeats 4000000 in
theorem zFl (w:World) (hT:Tab w) (va:Value) (l:List zH3) (ha:Sls 56 zDM w va l) (nowA:Int) (_hn:-9223372036854775808≤nowA∧nowA≤9223372036854775807) :
  Calls Tryz.prog 10 #[va,.int .i64 nowA] w fun e w'=>e=.returned (.bool true)∧Below w.heap.size w w':=by
 obtain ⟨aa,ac,rfl⟩:=ha.eq_slice
 obtain ⟨len,hlen⟩:∃ q,q=l.length:=⟨_,rfl⟩
 have hl64:=ha.len
 rw [← hlen] at hl64 ha ⊢
 have HT:=Zh (Zi hT (Zi ha hlen))
 clear hT ha hlen _hn
 go_enter Tryz.func10,Tryz.ntmps10
 go_wp2_with fail
 refine (zFn 12 8 w HT.o.1 (by omega) (by omega) (by omega)).mono ?_
 rintro e w1 ⟨pb,C,rfl,hS,hC,hb1⟩
 have HG:=zGN 12 8 (by omega) (by omega)
 have H0:=Zh (Zi (show zAW w w1 C pb (zEK 12 8) from ⟨hS,hb1,hC⟩) HG)
 clear hS hC hb1 HG
 have hnn:∀ {C C':Nat→Prop} {w w':World},zAO C C' w w'→∀ x,¬ C x→x < w.heap.size→¬ C' x:=fun {C C' w w'} hsc x hx hl hC=>by
  rcases hsc.2 _ hC with h1 | h1
  · exact hx h1
  · omega
 go_upto_block 0 with fail
 go_cut [] (fun wx=>Hid (∃ C s m f,zAW w wx C pb s∧zEB m s f∧m≤60∧s.slots=12))
 case first =>
  go_upto_region 5 with fail
  go_loopw [7,8,9,10] (fun vi v8 v9 v10 wr=>∃ i:Nat,i≤15∧i≤len∧vi=.int .i64 i∧Hid (∃ C s f,zAW w wr C pb s∧zEB (2*i) s f∧s.slots=12)) (fun vi _ _ _ _=>15 - (intOf vi).toNat)
  case atStart=>exact ⟨0,Nat.zero_le _,Nat.zero_le _,rfl,C,_,_,H0.o.1,.inl ⟨H0.o.2.1,fun _=>rfl⟩,rfl⟩
  case round =>
   obtain ⟨i,hi,hil,rfl,G⟩:=hrel
   obtain ⟨C,s,f,hL,hA,hsl⟩:=G.o
   have HL:=Zh (Zi hL (Zi hA hsl))
   clear G hL hA hsl
   have i0:(0:Int)≤(i:Int):=by omega
   have h0i:(((i:Int) < (len:Int))=True∧((i:Int) < 15)=True)∨((i:Int) < (len:Int))=False∨(((i:Int) < (len:Int))=True∧((i:Int) < 15)=False):=by
    by_cases c:i < len
    · by_cases c2:i < 15
      · exact .inl ⟨eq_true (by omega),eq_true (by omega)⟩
      · exact .inr (.inr ⟨eq_true (by omega),eq_false (by omega)⟩)
    · exact .inr (.inl (eq_false (by omega)))
   rcases h0i with ⟨h0i,h0j⟩ | h0i
   · have hlt:i < len:=by have:=of_eq_true h0i;omega
     have hlt15:i < 15:=by have:=of_eq_true h0j;omega
     obtain ⟨b,off,a,cs,rfl,hx,hcl,hcs,hA⟩:=HT.o.2.1.at i (by have:=HT.o.2.2;omega)
     have hblt:b < w.heap.size:=World.block_lt_of_cell? w _ (hcs 0 _ (List.getElem?_eq_getElem (by omega)))
     have hb0:Below w.heap.size w wr:=HL.o.1.bel
     have hce:∀ j v,cs[j]?=some v→wr.cell? ⟨b,off+i*56+j,none⟩=some v:=fun j v hj=>(hb0.cell (p:=⟨b,off+i*56+j,none⟩) hblt).trans (hcs j v hj)
     obtain ⟨hsm,hrd⟩:=zKW hce hcl
     have hall:=hA.all hcl
     go_upto_region 8 with fail
     obtain ⟨w4,hw4⟩:∃ q,q=wr.alloc (.cells cs.toArray 50):=⟨_,rfl⟩
     have hb4:Below wr.heap.size wr w4:=by rw [hw4];exact (Below.refl _ _).alloc (Nat.le_refl _) _
     have hk8:Blk w4 wr.heap.size cs.toArray 50:=by rw [hw4];exact Blk.new _ _ _
     rw [← hw4]
     have hL4:=HL.o.1.step hb4
     have hn8:¬ C wr.heap.size:=fun hC=>by have:=HL.o.1.old hC;omega
     obtain ⟨p8,hp8⟩:∃ q,q=wr.heap.size:=⟨_,rfl⟩
     rw [← hp8] at hk8 hn8 ⊢
     have hce:∀ j v,cs[j]?=some v→w4.cell? ⟨p8,0+j,none⟩=some v:=fun j v hj=>by rw [hk8.cell,Nat.zero_add,List.getElem?_toArray];exact hj
     obtain ⟨hsm,hrd⟩:=hA.req_at (w:=w4) (b:=p8) (o:=0) hce
     rw [Nat.zero_add] at hsm hrd
     have d0:w4.cell? ⟨p8,0,none⟩=some (.int .i64 a.dw):=hce 0 _ hA.dw
     have d2:w4.cell? ⟨p8,2,none⟩=some (.int .i64 a.at_):=hce 2 _ hA.at_
     have d3:w4.cell? ⟨p8,3,none⟩=some (.int .i64 a.keep):=hce 3 _ hA.keep
     have hrA:=(hA.below (hb0.trans (hb4.mono hb0.size))).r
     obtain ⟨rv,hrv⟩:∃ q,q=zM a.r:=⟨_,rfl⟩
     rw [← hrv] at hrd
     have HA:=Zh (Zi hrv hrA)
     have HK8:=Zh (Zi hk8 (Zi hn8 (Zi hA.at_ hA.keep)))
     have H4:=Zh (Zi hL4 (Zi HL.o.2.1 HL.o.2.2))
     clear hx hcl hcs hA hblt hb0 hrv hrA hce hw4 hk8 hL4 hp8 hall hb4 HL
     obtain ⟨kd,hkd⟩:∃ q,q=within a.dw 12:=⟨_,rfl⟩
     obtain ⟨at_,hat⟩:∃ q,q=within a.at_ 14:=⟨_,rfl⟩
     have hat2:at_≤9223372036854775807:=by have:=(zCm a.at_ 14 (by decide)).2;omega
     have HW:=Zh (Zi hkd hat)
     clear hkd hat
     go_wp2_with fail
     refine (zBg a.dw 12 (by decide) (by decide) _).mono ?_
     rintro e w3' ⟨rfl,rfl⟩
     rw [← HW.o.1]
     by_cases h8:kd=8
     · subst h8
       go_wp2_with fail
       exact ⟨⟨i+1,by omega,by omega,by simp,C,s,f,H4.o.1,H4.o.2.1.le (by omega),H4.o.2.2⟩,by show 15 - ((i:Int)+1).toNat < 15 - (i:Int).toNat;omega⟩
     · have h8b:decide (kd=8)=false:=by simpa using h8
       go_wp2_with fail
       refine (zBg a.dw 12 (by decide) (by decide) _).mono ?_
       rintro e w3' ⟨rfl,rfl⟩
       rw [← HW.o.1]
       by_cases h9:kd=9
       · subst h9
         go_upto_region 12 with fail
         go_region_held3 (fun w'=>w'.cell? ⟨p8,2,none⟩=some (.int .i64 a.at_)∧w'.cell? ⟨p8,3,none⟩=some (.int .i64 a.keep)) (first | exact ⟨d2,d3⟩ | with_reducible assumption)
          (first
           | (go_at_call 13
              refine (zBg a.at_ 14 (by decide) (by decide) w4.drew).mono ?_
              rintro e w5 ⟨rfl,rfl⟩
              rw [← HW.o.2]
              have hh:w4.drew.cell? ⟨p8,2,none⟩=some (.int .i64 a.at_)∧w4.drew.cell? ⟨p8,3,none⟩=some (.int .i64 a.keep):=⟨d2,d3⟩)
           | (go_at_call 28
              refine ((H4.o.1.step (Below.refl _ _).drew).stop at_ a.keep hat2).mono ?_
              rintro e w6 ⟨rfl,hL6,hsc6⟩
              have hh:w6.cell? ⟨p8,2,none⟩=some (.int .i64 a.at_)∧w6.cell? ⟨p8,3,none⟩=some (.int .i64 a.keep):=by
               have hb:=hsc6.1.blk HK8.o.1.drew HK8.o.2.1
               exact ⟨by rw [hb.cell,List.getElem?_toArray];exact HK8.o.2.2.1,by rw [hb.cell,List.getElem?_toArray];exact HK8.o.2.2.2⟩
              have H6:=Zh hL6
              clear hL6 hsc6))
         go_wp2_with fail
         exact ⟨⟨i+1,by omega,by omega,by simp,C,_,f,H6.o,(H4.o.2.1.stop _ _).le (by omega),H4.o.2.2⟩,by show 15 - ((i:Int)+1).toNat < 15 - (i:Int).toNat;omega⟩
       · have h9b:decide (kd=9)=false:=by simpa using h9
         by_cases h10:kd=10
         · subst h10
           go_wp2_with fail
           refine (H4.o.1.restartT H4.o.2.1 (by omega)).mono ?_
           rintro e w6 ⟨C',s',rfl,hg,hlk,hst,hsl,_,hL6,hsc6⟩
           have H6:=Zh (Zi hL6 (Zi hg hsl))
           clear hL6 hsc6 hg hlk hst hsl
           go_wp2_with fail
           exact ⟨⟨i+1,by omega,by omega,by simp,C',s',_,H6.o.1,.inl ⟨H6.o.2.1.le (by omega),fun _=>rfl⟩,H6.o.2.2.trans H4.o.2.2⟩,by show 15 - ((i:Int)+1).toNat < 15 - (i:Int).toNat;omega⟩
         · have h10b:decide (kd=10)=false:=by simpa using h10
           go_wp2_with fail
           refine (show Calls _ _ _ _ _ from (by rw [HA.o.1];exact zKk a.r a.ts a.bl w4 HA.o.2.wf HA.o.2.ts HA.o.2.bl)).mono ?_
           rintro e w5 ⟨vt,vb,rfl,hts,hbl,hb5⟩
           have HS:=Zh (Zi hts (Zi hbl hb5))
           clear hts hbl hb5
           go_wp2_with fail
           refine (zKP (H4.o.1.step HS.o.2.2) H4.o.2.1 (by omega) HA.o.2.wf (B:=w4.heap.size) (fun b hb=>H4.o.1.old hb) HS.o.1 HS.o.2.1).mono ?_
           rintro e w6 ⟨C',u,err,s',rfl,hL6,⟨f',hT6⟩,hsl6,hsc6⟩
           have H6:=Zh (Zi hL6 (Zi hT6 hsl6))
           clear hL6 hT6 hsl6 hsc6
           go_wp2_with fail
           exact ⟨⟨i+1,by omega,by omega,by simp,C',s',f',H6.o.1,H6.o.2.1.le (by omega),H6.o.2.2.trans H4.o.2.2⟩,by show 15 - ((i:Int)+1).toNat < 15 - (i:Int).toNat;omega⟩
   · have hm:2*i≤60:=by omega
     have HL2:=Zh (show ∃ C s m f,zAW w wr C pb s∧zEB m s f∧m≤60∧s.slots=12 from ⟨C,s,_,f,HL.o.1,HL.o.2.1,hm,HL.o.2.2⟩)
     clear HL hm hi hil
     rcases h0i with h0i | ⟨h0i,h0j⟩
     · go_wp2_with fail
       go_meet
       exact HL2.o
     · go_wp2_with fail
       go_meet
       exact HL2.o
 case rest =>
 obtain ⟨C3,s3,m,f,hL,hA,hm,hsl⟩:=hcut.o
 have H4:=Zh (Zi hL (Zi hA (Zi hm hsl)))
 clear hL hA hm hsl hcut
 go_wp2_with fail
 refine (H4.o.1.restartT H4.o.2.1 (by have:=H4.o.2.2.1;omega)).mono ?_
 rintro e w2 ⟨C,s,rfl,hg,_,hst,hsl,_,hL,hsc⟩
 have hg:=hg.le (show m+1≤100 by have:=H4.o.2.2.1;omega)
 have hW:=hg.weak hst
 have htl:s.tab.length≤1000:=by have:=hg.tabLen;have:=hsl.trans H4.o.2.2.2;omega
 have hBd:zCb s:=hg.srvB (by omega)
 have H5:=Zh (Zi hL (Zi hg (Zi hW (Zi htl (Zi hBd (hg.live))))))
 clear hL hg hW hst hsl hsc htl hBd H4
 obtain ⟨nw,hnw⟩:∃ q,q=within nowA 30:=⟨_,rfl⟩
 have HN:=Zh hnw
 clear hnw
 go_wp2_with fail
 refine (zBg nowA 30 (by decide) (by decide) _).mono ?_
 rintro e w2' ⟨rfl,rfl⟩
 rw [← HN.o]
 obtain ⟨oF,hoF⟩:∃ oF:Nat→Option (Key × List zP),∀ j,zA5 s (kx j) (oF j)∧(0 < (zw (oF j)).length↔Sto.look s.st.recs (zAM (kx j))≠none) :=
  ⟨fun j=>Classical.choose (zAQ.contNe H5.o.2.1.st.recs H5.o.2.1.st.dead (kx j)),fun j=>Classical.choose_spec (zAQ.contNe H5.o.2.1.st.recs H5.o.2.1.st.dead (kx j))⟩
 obtain ⟨bF,hbF⟩:∃ bF:Nat→Bool,∀ j,bF j=true↔zEu s.tab (kx j) nw:=⟨fun j=>@decide (zEu s.tab (kx j) nw) (Classical.propDecidable _),fun j=>by simp⟩
 have HF:=Zh (Zi hoF hbF)
 clear hoF hbF
 go_upto_region 23 with fail
 obtain ⟨wA,hwA⟩:∃ q,q=((w2.alloc (.cells #[Value.slice none 0 0,Value.slice none 0 0,Value.slice none 0 0] 77)).alloc (.cells #[Value.slice none 0 0,Value.slice none 0 0,Value.slice none 0 0] 77)).alloc (.cells #[Value.bool false,Value.bool false,Value.bool false] 78):=⟨_,rfl⟩
 rw [← hwA]
 have hbA:Below w2.heap.size w2 wA:=by
  rw [hwA]
  have h1:=(Below.refl w2.heap.size w2).alloc (Nat.le_refl _) (.cells #[Value.slice none 0 0,Value.slice none 0 0,Value.slice none 0 0] 77)
  have h2:=h1.alloc h1.size (.cells #[Value.slice none 0 0,Value.slice none 0 0,Value.slice none 0 0] 77)
  exact h2.alloc h2.size _
 have hk11:Blk wA w2.heap.size #[Value.slice none 0 0,Value.slice none 0 0,Value.slice none 0 0] 77:=by
  rw [hwA];exact ((Blk.new w2 #[Value.slice none 0 0,Value.slice none 0 0,Value.slice none 0 0] 77).alloc _).alloc _
 have hk12:Blk wA (w2.heap.size+1) #[Value.slice none 0 0,Value.slice none 0 0,Value.slice none 0 0] 77:=by
  rw [hwA];exact (Blk.new_at _ _ _ _ (by simp)).alloc _
 have hk13:Blk wA (w2.heap.size+1+1) #[Value.bool false,Value.bool false,Value.bool false] 78:=by
  rw [hwA];exact Blk.new_at _ _ _ _ (by simp)
 have hszA:wA.heap.size=w2.heap.size+3:=by rw [hwA];simp
 obtain ⟨p11,hp11⟩:∃ q,q=w2.heap.size:=⟨_,rfl⟩
 obtain ⟨p12,hp12⟩:∃ q,q=w2.heap.size+1:=⟨_,rfl⟩
 obtain ⟨p13,hp13⟩:∃ q,q=w2.heap.size+1+1:=⟨_,rfl⟩
 rw [← hp13] at hk13 ⊢
 rw [← hp12] at hk12 ⊢
 rw [← hp11] at hk11 ⊢
 obtain ⟨X,hX⟩:∃ X:Nat→Prop,X=fun b=>b=p11∨b=p12∨b=p13:=⟨_,rfl⟩
 have hY:zGt w wA C X pb s:=H5.o.1.y hbA (fun b hb=>by rw [hX] at hb;rcases hb with rfl | rfl | rfl <;> omega) (fun b hb=>by rw [hX] at hb;rcases hb with rfl | rfl | rfl <;> omega)
 have hp:p11 < p12∧p12 < p13:=by omega
 have hXB:∀ b,X b→b < wA.heap.size:=fun b hb=>by rw [hX] at hb;rcases hb with rfl | rfl | rfl <;> omega
 have h11:X p11∧X p12∧X p13:=by rw [hX];exact ⟨.inl rfl,.inr (.inl rfl),.inr (.inr rfl)⟩
 have H6:=Zh (Zi hY (Zi hk11 (Zi hk12 (Zi hk13 (Zi hXB h11)))))
 clear hY hk11 hk12 hk13 hXB h11 hX hp11 hp12 hp13 hszA hbA hwA
 go_loopw [14,15,78] (fun v14 v15 vi wr=>∃ i:Nat,i≤3∧vi=.int .i64 i∧Hid (zGt w wr C X pb s∧wA.heap.size≤wr.heap.size∧∃ U V L:List Value,(U.length=3∧V.length=3∧L.length=3)∧(Blk wr p11 U.toArray 77∧Blk wr p12 V.toArray 77∧Blk wr p13 L.toArray 78)∧∀ j,j < i→zFr wr wA.heap.size U[j]? (s.shares (kx j))∧zFr wr wA.heap.size V[j]? (zw (oF j))∧L[j]?=some (.bool (bF j)))) (fun _ _ vi _=>3 - (intOf vi).toNat)
 case atStart=>exact ⟨0,Nat.zero_le _,rfl,H6.o.1,Nat.le_refl _,_,_,_,⟨rfl,rfl,rfl⟩,⟨H6.o.2.1,H6.o.2.2.1,H6.o.2.2.2.1⟩,fun j hj=>by omega⟩
 case round =>
  obtain ⟨i,hi,rfl,G⟩:=hrel
  obtain ⟨hY,hsz,U,V,L,hlen,hks,hgot⟩:=G.o
  by_cases hin:i < 3
  · have i0:(0:Int)≤(i:Int):=by omega
    have i1:(i:Int) < 3:=by omega
    have e8:IntKind.u8.wrap (i:Int)=(i:Int):=by rw [IntKind.wrap_u8];omega
    have e8':(i:Int) % 256=(i:Int):=by omega
    have ek:=zL5 (j:=i) (by omega)
    obtain ⟨ck,hck⟩:∃ q,q=bV (kx i):=⟨_,rfl⟩
    rw [← hck] at ek
    have hckl:ck.length=16:=by rw [hck,zB];exact zCf i
    have hall:zAP 16 ck:=⟨hckl,fun v hv=>by rw [hck] at hv;exact zAJ _ v hv⟩
    have HCK:=Zh hck
    have HG:=Zh (Zi hY (Zi hsz (Zi hlen (Zi hks hgot))))
    clear hck G hY hsz hlen hks hgot
    go_upto_region 26 with fail
    obtain ⟨l1,hl1⟩:∃ q,q=(s.shares (kx i)).length:=⟨_,rfl⟩
    obtain ⟨l2,hl2⟩:∃ q,q=(zw (oF i)).length:=⟨_,rfl⟩
    obtain ⟨L1,hL1⟩:∃ q,q=s.shares (kx i):=⟨_,rfl⟩
    obtain ⟨L2,hL2⟩:∃ q,q=zw (oF i):=⟨_,rfl⟩
    obtain ⟨wa,hwa⟩:∃ q,q=wr.alloc (.cells ck.toArray 39):=⟨_,rfl⟩
    have hba:Below wr.heap.size wr wa:=by rw [hwa];exact (Below.refl _ _).alloc (Nat.le_refl _) _
    have hka:Blk wa wr.heap.size ck.toArray 39:=by rw [hwa];exact Blk.new _ _ _
    obtain ⟨p15,hp15⟩:∃ q,q=wr.heap.size:=⟨_,rfl⟩
    rw [← hwa]
    rw [← hp15] at hka ⊢
    have HLn:=Zh (Zi hl1 (Zi hl2 (Zi hL1 hL2)))
    have HA:=Zh (Zi hba hka)
    have HP15:=Zh hp15
    clear hl1 hl2 hL1 hL2 hba hka hwa hp15
    have hkey:∀ w',Below wa.heap.size wa w'→w'.rangeAt p15 0 ck:=fun w' hb j v hv=>by
     rw [(HA.o.2.kept hb).cell,Nat.zero_add]
     simpa using hv
    have hlv:∀ w',Below wa.heap.size wa w'→Calls Tryz.prog 26 #[.pointer (some ⟨pb,0,none⟩),.agg ck.toArray,.int .i64 nw] w' fun e w''=>e=.returned (.bool (bF i))∧Below w'.heap.size w' w'':=fun w' hb=>by
     rw [HCK.o]
     refine (((HG.o.1.below HA.o.1).l.step hb).living H5.o.2.2.2.2.1 (kx i) (zCf i) nw).mono ?_
     rintro e w'' ⟨b,rfl,hbb,hb2⟩
     refine ⟨?_,hb2⟩
     rw [show b=bF i from Bool.eq_iff_iff.2 (hbb.trans (HF.o.2 i).symm)]
    have hsh:∀ w',Below wa.heap.size wa w'→Calls Tryz.prog 23 #[.pointer (some ⟨pb,0,none⟩),.agg ck.toArray] w' fun e w''=>∃ u,e=.returned u∧(∃ a c,u=.slice a l1 c∧zAI w'' (fun b=>b < wa.heap.size) u (s.shares (kx i)))∧Below w'.heap.size w' w'':=fun w' hb=>by
     rw [HCK.o]
     refine ((((HG.o.1.below HA.o.1).l).step hb).shares H5.o.2.2.2.2.2 H5.o.2.2.2.2.1 (kx i) (zCf _)).mono ?_
     rintro e w'' ⟨u,rfl,hO,hb2⟩
     have hB3:zAI w'' (fun b=>b < wa.heap.size) u (s.shares (kx i)):=(hO.at (fun b h1 _ h2=>by omega)).mono (fun b h=>by first | exact h.elim | exact .inl (by have:=hb.size;omega))
     obtain ⟨a3,c3,rfl,_⟩:=hO.slice
     exact ⟨_,rfl,⟨a3,c3,by rw [HLn.o.1],hB3⟩,hb2⟩
    have hsl:∀ w',Below wa.heap.size wa w'→Calls Tryz.prog 24 #[.pointer (some ⟨pb,0,none⟩),.agg ck.toArray] w' fun e w''=>∃ u,e=.returned u∧(∃ a c,u=.slice a l2 c∧zAI w'' (fun b=>b < wa.heap.size) u (zw (oF i)))∧Below w'.heap.size w' w'':=fun w' hb=>by
     rw [HCK.o]
     refine ((((HG.o.1.below HA.o.1).l).step hb).slotOf H5.o.2.2.2.2.2 H5.o.2.2.2.2.1 (kx i) (zCf _) (HF.o.1 i).1).mono ?_
     rintro e w'' ⟨u,rfl,hO,hb2⟩
     have hB3:zAI w'' (fun b=>b < wa.heap.size) u (zw (oF i)):=(hO.at (fun b h1 _ h2=>by omega)).mono (fun b h=>by first | exact h.elim | exact .inl (by have:=hb.size;omega))
     obtain ⟨a3,c3,rfl,_⟩:=hO.slice
     exact ⟨_,rfl,⟨a3,c3,by rw [HLn.o.2.1],hB3⟩,hb2⟩
    have hne:p11≠p12∧p11≠p13∧p12≠p13:=by omega
    have hq:X p11∧X p12∧X p13∧p11 < wa.heap.size∧p12 < wa.heap.size:=by
     obtain ⟨q11,q12,q13⟩:=H6.o.2.2.2.2.2
     have h1:=H6.o.2.2.2.2.1 _ q11
     have h2:=H6.o.2.2.2.2.1 _ q12
     have h3:=HG.o.2.1
     have h4:=HA.o.1.size
     exact ⟨q11,q12,q13,by omega,by omega⟩
    have hkX:∀ w',Chg X wa w'→w'.rangeAt p15 0 ck:=fun w' hc j v hv=>by
     rw [(hc.blk HA.o.2 (fun hx=>by have h1:=H6.o.2.2.2.2.1 _ hx;have h2:=HG.o.2.1;have h3:=HP15.o;omega)).cell,Nat.zero_add]
     simpa using hv
    refine Tail.zBa 17 (fun k=>k == 5 || k == 8 || k == 12 || k == 14 || k == 16) (fun k=>if k=12 then some (.bool (bF i)) else none)
     (fun D z w'=>Chg X wa w'∧(D 14=false→D 16=false→Below wa.heap.size wa w')∧(D 14=false→Blk w' p11 U.toArray 77)∧(D 14=true→D 5=true∧Blk w' p11 (U.set i (z 5)).toArray 77)∧(D 16=false→Blk w' p12 V.toArray 77)∧(D 16=true→D 8=true∧Blk w' p12 (V.set i (z 8)).toArray 77)∧Blk w' p13 L.toArray 78 ∧
      (D 5=true→∃ a c,z 5=.slice a l1 c∧zAI w' (fun b=>b < wa.heap.size) (z 5) (s.shares (kx i)))∧(D 8=true→∃ a c,z 8=.slice a l2 c∧zAI w' (fun b=>b < wa.heap.size) (z 8) (zw (oF i))))
     (by kernel_rfl) (by kernel_rfl) (fun k hk=>by simp at hk;omega)
     (fun D z z' w' hz h=>⟨h.1,h.2.1,h.2.2.1,fun d=>⟨(h.2.2.2.1 d).1,by rw [← hz 5 (h.2.2.2.1 d).1];exact (h.2.2.2.1 d).2⟩,h.2.2.2.2.1,fun d=>⟨(h.2.2.2.2.2.1 d).1,by rw [← hz 8 (h.2.2.2.2.2.1 d).1];exact (h.2.2.2.2.2.1 d).2⟩,h.2.2.2.2.2.2.1,fun d=>by rw [← hz 5 d];exact h.2.2.2.2.2.2.2.1 d,fun d=>by rw [← hz 8 d];exact h.2.2.2.2.2.2.2.2 d⟩)
     ⟨Chg.of_below ((Below.refl _ _).drew),fun _ _=>(Below.refl _ _).drew,fun _=>(HG.o.2.2.2.1.1.kept HA.o.1).drew,(fun h=>by cases h),fun _=>(HG.o.2.2.2.1.2.1.kept HA.o.1).drew,(fun h=>by cases h),(HG.o.2.2.2.1.2.2.kept HA.o.1).drew,(fun h=>by cases h),(fun h=>by cases h)⟩ (fun z=>?_)
    simp only [List.take_succ_cons,List.take_zero,List.drop_succ_cons,List.drop_zero]
    iterate 4
     refine Tail.zAz (by rfl) (by rfl) ?_
     apply Exists.intro
     refine ⟨fun w=>?_,?_⟩
     · go_simp <;> with_reducible rfl
     simp only [Act.put,List.setIfInBounds_toArray,List.set_cons_zero,List.set_cons_succ,Nat.reduceAdd,Nat.reduceEqDiff,reduceIte,Option.getD_some,Option.getD_none]
    refine Tail.zB5 (by rfl) (by rfl) 39 _ (by rfl) p15 0 (by rfl) ck (fun D w' hd hp hJ=>hkX w' hJ.1) Tryz.underlying39 rfl (by rw [hckl];exact i16) ?_
    simp only [Act.put,List.setIfInBounds_toArray,List.set_cons_zero,List.set_cons_succ,Nat.reduceAdd,Nat.reduceEqDiff,reduceIte,Option.getD_some,Option.getD_none]
    refine Tail.zBA (by rfl) (by rfl) ?_ ?_
    · apply Exists.intro
      apply Exists.intro
      refine ⟨fun w'=>?_,?_⟩
      · go_simp <;> exact ⟨rfl,rfl⟩
      intro D z' w' hD hz hd hp hJ
      have n14:D 14=false:=hp 14 (by kernel_rfl)
      have n16:D 16=false:=hp 16 (by kernel_rfl)
      obtain ⟨j1,j2,j3,j4,j5,j6,j7,j8,j9⟩:=hJ
      have hbw:=j2 n14 n16
      refine (hsh w' hbw).mono ?_
      rintro e w'' ⟨u,rfl,⟨a',c',hu,hbl⟩,hb⟩
      refine ⟨u,rfl,fun c hc=>by simp at hc,?_⟩
      refine ⟨j1.trans (Chg.of_below hb),fun _ _=>hbw.trans (hb.mono hbw.size),fun _=>(j3 n14).kept hb,fun h=>?_,fun _=>(j5 n16).kept hb,fun h=>?_,j7.kept hb,fun h=>?_,fun h=>?_⟩
      · rw [show Tail.zAZ D 5 14=D 14 from rfl,n14] at h;cases h
      · rw [show Tail.zAZ D 5 16=D 16 from rfl,n16] at h;cases h
      · exact ⟨a',c',by simpa [Tail.zAc] using hu,by simpa [Tail.zAc] using hbl⟩
      · obtain ⟨a2',c2',e1,e2⟩:=j9 (by simpa [Tail.zAZ] using h)
        exact ⟨a2',c2',by simpa [Tail.zAc] using e1,by simpa [Tail.zAc] using e2.below hb⟩
    simp only [Act.put,List.setIfInBounds_toArray,List.set_cons_zero,List.set_cons_succ,Nat.reduceAdd,Nat.reduceEqDiff,reduceIte,Option.getD_some,Option.getD_none]
    refine Tail.zAz (by rfl) (by rfl) ?_
    apply Exists.intro
    refine ⟨fun w=>?_,?_⟩
    · go_simp <;> with_reducible rfl
    simp only [Act.put,List.setIfInBounds_toArray,List.set_cons_zero,List.set_cons_succ,Nat.reduceAdd,Nat.reduceEqDiff,reduceIte,Option.getD_some,Option.getD_none]
    refine Tail.zB5 (by rfl) (by rfl) 39 _ (by rfl) p15 0 (by rfl) ck (fun D w' hd hp hJ=>hkX w' hJ.1) Tryz.underlying39 rfl (by rw [hckl];exact i16) ?_
    simp only [Act.put,List.setIfInBounds_toArray,List.set_cons_zero,List.set_cons_succ,Nat.reduceAdd,Nat.reduceEqDiff,reduceIte,Option.getD_some,Option.getD_none]
    refine Tail.zBA (by rfl) (by rfl) ?_ ?_
    · apply Exists.intro
      apply Exists.intro
      refine ⟨fun w'=>?_,?_⟩
      · go_simp <;> exact ⟨rfl,rfl⟩
      intro D z' w' hD hz hd hp hJ
      have n14:D 14=false:=hp 14 (by kernel_rfl)
      have n16:D 16=false:=hp 16 (by kernel_rfl)
      obtain ⟨j1,j2,j3,j4,j5,j6,j7,j8,j9⟩:=hJ
      have hbw:=j2 n14 n16
      refine (hsl w' hbw).mono ?_
      rintro e w'' ⟨u,rfl,⟨a',c',hu,hbl⟩,hb⟩
      refine ⟨u,rfl,fun c hc=>by simp at hc,?_⟩
      refine ⟨j1.trans (Chg.of_below hb),fun _ _=>hbw.trans (hb.mono hbw.size),fun _=>(j3 n14).kept hb,fun h=>?_,fun _=>(j5 n16).kept hb,fun h=>?_,j7.kept hb,fun h=>?_,fun h=>?_⟩
      · rw [show Tail.zAZ D 8 14=D 14 from rfl,n14] at h;cases h
      · rw [show Tail.zAZ D 8 16=D 16 from rfl,n16] at h;cases h
      · obtain ⟨a2',c2',e1,e2⟩:=j8 (by simpa [Tail.zAZ] using h)
        exact ⟨a2',c2',by simpa [Tail.zAc] using e1,by simpa [Tail.zAc] using e2.below hb⟩
      · exact ⟨a',c',by simpa [Tail.zAc] using hu,by simpa [Tail.zAc] using hbl⟩
    simp only [Act.put,List.setIfInBounds_toArray,List.set_cons_zero,List.set_cons_succ,Nat.reduceAdd,Nat.reduceEqDiff,reduceIte,Option.getD_some,Option.getD_none]
    refine Tail.zAz (by rfl) (by rfl) ?_
    apply Exists.intro
    refine ⟨fun w=>?_,?_⟩
    · go_simp <;> with_reducible rfl
    simp only [Act.put,List.setIfInBounds_toArray,List.set_cons_zero,List.set_cons_succ,Nat.reduceAdd,Nat.reduceEqDiff,reduceIte,Option.getD_some,Option.getD_none]
    refine Tail.zB5 (by rfl) (by rfl) 39 _ (by rfl) p15 0 (by rfl) ck (fun D w' hd hp hJ=>hkX w' hJ.1) Tryz.underlying39 rfl (by rw [hckl];exact i16) ?_
    simp only [Act.put,List.setIfInBounds_toArray,List.set_cons_zero,List.set_cons_succ,Nat.reduceAdd,Nat.reduceEqDiff,reduceIte,Option.getD_some,Option.getD_none]
    refine Tail.zAz (by rfl) (by rfl) ?_
    apply Exists.intro
    refine ⟨fun w=>?_,?_⟩
    · go_simp <;> with_reducible rfl
    simp only [Act.put,List.setIfInBounds_toArray,List.set_cons_zero,List.set_cons_succ,Nat.reduceAdd,Nat.reduceEqDiff,reduceIte,Option.getD_some,Option.getD_none]
    refine Tail.zBA (by rfl) (by rfl) ?_ ?_
    · apply Exists.intro
      apply Exists.intro
      refine ⟨fun w'=>?_,?_⟩
      · go_simp <;> exact ⟨rfl,rfl⟩
      intro D z' w' hD hz hd hp hJ
      have n14:D 14=false:=hp 14 (by kernel_rfl)
      have n16:D 16=false:=hp 16 (by kernel_rfl)
      obtain ⟨j1,j2,j3,j4,j5,j6,j7,j8,j9⟩:=hJ
      have hbw:=j2 n14 n16
      refine (hlv w' hbw).mono ?_
      rintro e w'' ⟨rfl,hb⟩
      refine ⟨_,rfl,fun c hc=>by simp at hc;rw [← hc],?_⟩
      refine ⟨j1.trans (Chg.of_below hb),fun _ _=>hbw.trans (hb.mono hbw.size),fun _=>(j3 n14).kept hb,fun h=>?_,fun _=>(j5 n16).kept hb,fun h=>?_,j7.kept hb,fun h=>?_,fun h=>?_⟩
      · rw [show Tail.zAZ D 12 14=D 14 from rfl,n14] at h;cases h
      · rw [show Tail.zAZ D 12 16=D 16 from rfl,n16] at h;cases h
      · obtain ⟨a2',c2',e1,e2⟩:=j8 (by simpa [Tail.zAZ] using h)
        exact ⟨a2',c2',by simpa [Tail.zAc] using e1,by simpa [Tail.zAc] using e2.below hb⟩
      · obtain ⟨a2',c2',e1,e2⟩:=j9 (by simpa [Tail.zAZ] using h)
        exact ⟨a2',c2',by simpa [Tail.zAc] using e1,by simpa [Tail.zAc] using e2.below hb⟩
    simp only [Act.put,List.setIfInBounds_toArray,List.set_cons_zero,List.set_cons_succ,Nat.reduceAdd,Nat.reduceEqDiff,reduceIte,Option.getD_some,Option.getD_none]
    refine Tail.zAz (by rfl) (by rfl) ?_
    apply Exists.intro
    refine ⟨fun w=>?_,?_⟩
    · go_simp <;> with_reducible rfl
    simp only [Act.put,List.setIfInBounds_toArray,List.set_cons_zero,List.set_cons_succ,Nat.reduceAdd,Nat.reduceEqDiff,reduceIte,Option.getD_some,Option.getD_none]
    refine Tail.J_sto (by rfl) (by rfl) ?_ ?_
    · intro D z' w' hD hz hd hp hJ
      obtain ⟨j1,j2,j3,j4,j5,j6,j7,j8,j9⟩:=hJ
      have d5:D 5=true:=hd 5 (by kernel_rfl)
      have n16:D 16=false:=hp 16 (by kernel_rfl)
      obtain ⟨a',c',e1,e2⟩:=j8 d5
      have cc:z 5=.slice a' l1 c':=(hz 5 d5).trans e1
      have k11:=j3 hD
      have c11:w'.cell? ⟨p11,i,none⟩=some (U[i]'(by have:=HG.o.2.2.1.1;omega)):=by rw [k11.cell,List.getElem?_toArray,List.getElem?_eq_getElem (by have:=HG.o.2.2.1.1;omega)]
      generalize U[i]'(by have:=HG.o.2.2.1.1;omega)=u0 at c11
      have f11:=k11.free i
      refine ⟨w'.setCell ⟨p11,i,none⟩ (.slice a' l1 c'),?_,fun c hc=>by simp at hc,?_⟩
      · go_simp <;> with_reducible rfl
      · refine ⟨Chg.set (S:=X) (a:=⟨p11,i,none⟩) j1 hq.1 _,fun h=>(by rw [show Tail.zAZ D 14 14=true from rfl] at h;cases h),fun h=>(by rw [show Tail.zAZ D 14 14=true from rfl] at h;cases h),fun _=>⟨d5,?_⟩,fun _=>(j5 n16).set_other (a:=⟨p11,i,none⟩) (fun e=>hne.1 e) _,fun h=>(by rw [show Tail.zAZ D 14 16=D 16 from rfl,n16] at h;cases h),j7.set_other (a:=⟨p11,i,none⟩) (fun e=>hne.2.1 e) _,fun h=>?_,fun h=>?_⟩
        · show Blk _ p11 (U.set i (z' 5)).toArray _
          rw [e1,← List.setIfInBounds_toArray]
          exact k11.set i _
        · exact ⟨a',c',e1,e2.chg (zJY w' p11 i _) fun b hb _=>by rw [hb];exact hq.2.2.2.1⟩
        · obtain ⟨a2,c2,e3,e4⟩:=j9 h
          exact ⟨a2,c2,e3,e4.chg (zJY w' p11 i _) fun b hb _=>by rw [hb];exact hq.2.2.2.1⟩
    simp only [Act.put,List.setIfInBounds_toArray,List.set_cons_zero,List.set_cons_succ,Nat.reduceAdd,Nat.reduceEqDiff,reduceIte,Option.getD_some,Option.getD_none]
    refine Tail.zAz (by rfl) (by rfl) ?_
    apply Exists.intro
    refine ⟨fun w=>?_,?_⟩
    · go_simp <;> with_reducible rfl
    simp only [Act.put,List.setIfInBounds_toArray,List.set_cons_zero,List.set_cons_succ,Nat.reduceAdd,Nat.reduceEqDiff,reduceIte,Option.getD_some,Option.getD_none]
    refine Tail.J_sto (by rfl) (by rfl) ?_ ?_
    · intro D z' w' hD hz hd hp hJ
      obtain ⟨j1,j2,j3,j4,j5,j6,j7,j8,j9⟩:=hJ
      have d8:D 8=true:=hd 8 (by kernel_rfl)
      have d14:D 14=true:=hd 14 (by kernel_rfl)
      obtain ⟨a',c',e1,e2⟩:=j9 d8
      have cc:z 8=.slice a' l2 c':=(hz 8 d8).trans e1
      have k12:=j5 hD
      have c12:w'.cell? ⟨p12,i,none⟩=some (V[i]'(by have:=HG.o.2.2.1.2.1;omega)):=by rw [k12.cell,List.getElem?_toArray,List.getElem?_eq_getElem (by have:=HG.o.2.2.1.2.1;omega)]
      generalize V[i]'(by have:=HG.o.2.2.1.2.1;omega)=u0 at c12
      have f12:=k12.free i
      refine ⟨w'.setCell ⟨p12,i,none⟩ (.slice a' l2 c'),?_,fun c hc=>by simp at hc,?_⟩
      · go_simp <;> with_reducible rfl
      · refine ⟨Chg.set (S:=X) (a:=⟨p12,i,none⟩) j1 hq.2.1 _,fun h=>(by rw [show Tail.zAZ D 16 14=D 14 from rfl,d14] at h;cases h),fun h=>(by rw [show Tail.zAZ D 16 14=D 14 from rfl,d14] at h;cases h),fun _=>⟨(j4 d14).1,(j4 d14).2.set_other (a:=⟨p12,i,none⟩) (fun e=>hne.1 e.symm) _⟩,fun h=>(by rw [show Tail.zAZ D 16 16=true from rfl] at h;cases h),fun _=>⟨d8,?_⟩,j7.set_other (a:=⟨p12,i,none⟩) (fun e=>hne.2.2 e) _,fun h=>?_,fun h=>?_⟩
        · show Blk _ p12 (V.set i (z' 8)).toArray _
          rw [e1,← List.setIfInBounds_toArray]
          exact k12.set i _
        · obtain ⟨a2,c2,e3,e4⟩:=j8 h
          exact ⟨a2,c2,e3,e4.chg (zJY w' p12 i _) fun b hb _=>by rw [hb];exact hq.2.2.2.2⟩
        · exact ⟨a',c',e1,e2.chg (zJY w' p12 i _) fun b hb _=>by rw [hb];exact hq.2.2.2.2⟩
    simp only [Act.put,List.setIfInBounds_toArray,List.set_cons_zero,List.set_cons_succ,Nat.reduceAdd,Nat.reduceEqDiff,reduceIte,Option.getD_some,Option.getD_none]
    intro w' hJ
    obtain ⟨j1,_,_,j4,_,j6,y13,j8,j9⟩:=hJ
    obtain ⟨a5,c5,e5,g5⟩:=j8 (by rfl)
    obtain ⟨a8,c8,e8z,g8⟩:=j9 (by rfl)
    have y11:=(j4 (by rfl)).2
    have y12:=(j6 (by rfl)).2
    rw [e5] at g5 y11
    rw [e8z] at g8 y12
    have hY':=(HG.o.1.below HA.o.1).chg j1
    have hgot':∀ j,j < i→zFr w' wA.heap.size U[j]? (s.shares (kx j))∧zFr w' wA.heap.size V[j]? (zw (oF j))∧L[j]?=some (.bool (bF j)):=fun j hj=>by
     obtain ⟨q1,q2,q3⟩:=HG.o.2.2.2.2 j hj
     have hc:=(Chg.of_below (S:=fun _=>False) (HA.o.1))
     exact ⟨(q1.chg hc fun _ h=>h.elim).chg j1 H6.o.2.2.2.2.1,(q2.chg hc fun _ h=>h.elim).chg j1 H6.o.2.2.2.2.1,q3⟩
    have c13:w'.cell? ⟨p13,i,none⟩=some (L[i]'(by have:=HG.o.2.2.1.2.2;omega)):=by rw [y13.cell,List.getElem?_toArray,List.getElem?_eq_getElem (by have:=HG.o.2.2.1.2.2;omega)]
    have f13:=y13.free i
    generalize L[i]'(by have:=HG.o.2.2.1.2.2;omega)=b0 at c13
    have hszw:wa.heap.size≤w'.heap.size∧wr.heap.size≤wa.heap.size:=⟨j1.size,HA.o.1.size⟩
    have HW:=Zh (Zi y11 (Zi y12 (Zi y13 (Zi hY' (Zi hgot' (Zi g5 (Zi g8 hszw)))))))
    clear j1 j4 j6 j8 j9 y11 y12 y13 hY' hgot' hkey hkX hlv hsh hsl e5 e8z g5 g8 hszw
    go_wp2_with fail
    obtain ⟨q11,q12,q13⟩:=H6.o.2.2.2.2.2
    obtain ⟨w3,hw3⟩:∃ q,q=w'.setCell ⟨p13,i,none⟩ (Value.bool (bF i)):=⟨_,rfl⟩
    rw [← hw3]
    have hc3:Chg X w' w3:=by
     rw [hw3]
     exact Chg.set (S:=X) (a:=⟨p13,i,none⟩) (Chg.refl X w') q13 _
    obtain ⟨y11,y12,y13,yY,yg,y5,y8,ys⟩:=HW.o
    have z11:Blk w3 p11 (U.set i (Value.slice a5 l1 c5)).toArray 77:=by
     rw [hw3]
     exact y11.set_other (a:=⟨p13,i,none⟩) (fun e=>hne.2.1 e.symm) _
    have z12:Blk w3 p12 (V.set i (Value.slice a8 l2 c8)).toArray 77:=by
     rw [hw3]
     exact y12.set_other (a:=⟨p13,i,none⟩) (fun e=>hne.2.2 e.symm) _
    have z13:Blk w3 p13 (L.set i (Value.bool (bF i))).toArray 78:=by
     rw [hw3,← List.setIfInBounds_toArray]
     exact y13.set i _
    obtain ⟨m1,m2,m3⟩:=HG.o.2.2.1
    refine ⟨⟨i+1,by omega,by simp,yY.chg hc3,?_,_,_,_,⟨by simp [m1],by simp [m2],by simp [m3]⟩,⟨z11,z12,z13⟩,fun j hj=>?_⟩,by show 3 - ((i:Int)+1).toNat < 3 - (i:Int).toNat;omega⟩
    · have:=hc3.size
      have:=HG.o.2.1
      omega
    · by_cases e:j=i
      · subst e
        rw [List.getElem?_set_self (by omega),List.getElem?_set_self (by omega),List.getElem?_set_self (by omega)]
        have hB:wA.heap.size≤wa.heap.size:=by have:=HG.o.2.1;omega
        exact ⟨(zFr.of hB y5).chg hc3 H6.o.2.2.2.2.1,(zFr.of hB y8).chg hc3 H6.o.2.2.2.2.1,rfl⟩
      · rw [List.getElem?_set_ne (Ne.symm e),List.getElem?_set_ne (Ne.symm e),List.getElem?_set_ne (Ne.symm e)]
        obtain ⟨r1,r2,r3⟩:=yg j (by omega)
        exact ⟨r1.chg hc3 H6.o.2.2.2.2.1,r2.chg hc3 H6.o.2.2.2.2.1,r3⟩
  · obtain rfl:i=3:=by omega
    obtain ⟨hY,hsz,U,V,L,hlen,hks,hgot⟩:=G.o
    have hxc:¬ C p11∧¬ C p12∧¬ C p13:=⟨hY.srv.xc _ H6.o.2.2.2.2.2.1,hY.srv.xc _ H6.o.2.2.2.2.2.2.1,hY.srv.xc _ H6.o.2.2.2.2.2.2.2⟩
    have HG:=Zh (Zi hY (Zi hks (Zi hgot hxc)))
    clear G hY hsz hlen hks hgot hin hi hxc
    go_wp2_with fail
    refine (zLt C _ pb s 1100 nw wr HG.o.1.l.srv (H5.o.2.2.1.st.le (by decide)) H5.o.2.2.1.brk H5.o.2.2.2.2.1 (by decide) H5.o.2.2.1.few H5.o.2.2.2.1).mono ?_
    rintro e w4 ⟨vo,out,C',s',rfl,hTk,hO,_,hs',hsc⟩
    have hW':=(H5.o.2.2.1.tick (by decide) H5.o.2.2.2.1 hTk).1
    have hL':=HG.o.1.l.sch hs' hsc
    have htl':=(H5.o.2.2.1.tick (by decide) H5.o.2.2.2.1 hTk).2.1
    have hB':zCb s':=⟨by have:=H5.o.2.2.2.1;omega,by have:=hW'.st.writes;have:=H5.o.2.2.2.1;omega⟩
    have hPl:∀ j,j < 3→decide (kx j∈out)=(decide (0 < (s.shares (kx j)).length+(zw (oF j)).length) && !bF j)∧(bF j=true→s'.shares (kx j)=s.shares (kx j)∧zA5 s' (kx j) (oF j)∧zEu s'.tab (kx j) nw)∧(bF j=false→s'.shares (kx j)=[]∧zA5 s' (kx j) none):=fun j hj=>by
     obtain ⟨q1,q2⟩:=H5.o.2.2.1.tickAll (by decide) H5.o.2.2.2.1 hTk (zCf j)
     have hd:=H5.o.2.2.1.st.dead
     have hd':=hW'.st.dead
     cases hb:bF j with
     | true =>
       obtain ⟨r1,r2,r3⟩:=q1 ((HF.o.2 j).1 hb)
       refine ⟨by simp [r1],fun _=>⟨zKi hd hd' r3,zMV hd hd' r3 (HF.o.1 j).1,r2⟩,fun h=>by cases h⟩
     | false =>
       have hn:¬ zEu s.tab (kx j) nw:=fun h=>by rw [(HF.o.2 j).2 h] at hb;cases hb
       obtain ⟨r1,r2⟩:=q2 hn
       rw [zOy hd (HF.o.1 j).2] at r1
       refine ⟨by simp [r1],(fun h=>by cases h),fun _=>⟨?_,?_⟩⟩
       · rcases Nat.eq_zero_or_pos (s'.shares (kx j)).length with h | h
         · exact List.eq_nil_of_length_eq_zero h
         · obtain ⟨n,hn,h2⟩:=(zHd hd' (kx j)).1 h
           exact absurd ⟨_,.inl ⟨n,hn,rfl⟩,h2⟩ r2
       · show s'.st.get _=none
         rw [St.get_look hd']
         cases hh:Sto.look s'.st.recs (zAM (kx j)) with
         | none=>rfl
         | some b=>exact absurd ⟨_,.inr rfl,by rw [hh];simp⟩ r2
    have hgot4:∀ j,j < 3→zFr w4 wA.heap.size U[j]? (s.shares (kx j))∧zFr w4 wA.heap.size V[j]? (zw (oF j))∧L[j]?=some (.bool (bF j)):=fun j hj=>by
     obtain ⟨q1,q2,q3⟩:=HG.o.2.2.1 j hj
     have hCB:∀ b,C b→b < wA.heap.size:=fun b hb=>H6.o.1.srv.lt (.inl hb)
     exact ⟨q1.chg hsc.1 hCB,q2.chg hsc.1 hCB,q3⟩
    have k11:=hsc.1.blk HG.o.2.1.1 HG.o.2.2.2.1
    have k12:=hsc.1.blk HG.o.2.1.2.1 HG.o.2.2.2.2.1
    have k13:=hsc.1.blk HG.o.2.1.2.2 HG.o.2.2.2.2.2
    obtain ⟨ta,tc,rfl⟩:=hO.slice
    obtain ⟨n,hn⟩:∃ q,q=out.length:=⟨_,rfl⟩
    rw [← hn] at hO ⊢
    have hn64:n≤9223372036854775807:=by
     rcases Nat.eq_zero_or_pos n with h0 | h0
     · omega
     · obtain ⟨g,cap,e,hr⟩:=hO.ex (by omega)
       obtain ⟨cur,_,_,q1,q2,_⟩:=hr.block
       unfold maxLen at q2
       omega
    have hrow:0 < n→∃ g,ta=some ⟨g,0,none⟩∧zAt bV WfK 16 39 w4 wr.heap.size g n tc out:=fun h0=>by
     obtain ⟨g,cap,e,hr⟩:=hO.ex (by omega)
     injection e with ea en ec
     rw [← ec,← hn] at hr
     exact ⟨g,ea,hr⟩
    have hd':s'.dead=false:=hW'.live
    have hdl:s'.st.dead=false:=hW'.st.dead
    have H7:=Zh (Zi hL' (Zi hB' (Zi hPl (Zi hgot4 (Zi hrow (Zi hn (Zi hd' (Zi hdl (Zi k11 (Zi k12 k13))))))))))
    clear hL' hB' hPl hgot4 hrow hn hd' hdl k11 k12 k13 hO hTk hs' hsc hW' htl'
    go_upto_region 30 with fail
    go_loopw [17,18,19,20,21,104] (fun v17 v18 v19 v20 v21 vi wr=>∃ i:Nat,i≤3∧vi=.int .i64 i∧Hid (Below w4.heap.size w4 wr)) (fun _ _ _ _ _ vi _=>3 - (intOf vi).toNat)
    case atStart=>exact ⟨0,Nat.zero_le _,rfl,Below.refl _ _⟩
    case round =>
     obtain ⟨i,hi,rfl,G⟩:=hrel
     by_cases hin:i < 3
     · have i0:(0:Int)≤(i:Int):=by omega
       have i1:(i:Int) < 3:=by omega
       have e8:IntKind.u8.wrap (i:Int)=(i:Int):=by rw [IntKind.wrap_u8];omega
       have e8':(i:Int) % 256=(i:Int):=by omega
       have ek:=zL5 (j:=i) (by omega)
       obtain ⟨ck,hck⟩:∃ q,q=bV (kx i):=⟨_,rfl⟩
       rw [← hck] at ek
       have hckl:ck.length=16:=by rw [hck,zB];exact zCf i
       have hall:zAP 16 ck:=⟨hckl,fun v hv=>by rw [hck] at hv;exact zAJ _ v hv⟩
       have HCK:=Zh hck
       clear hck
       go_upto_region 35 with fail
       obtain ⟨wB,hwB⟩:∃ q,q=wr.alloc (.cells ck.toArray 39):=⟨_,rfl⟩
       have hbB:Below wr.heap.size wr wB:=by rw [hwB];exact (Below.refl _ _).alloc (Nat.le_refl _) _
       have hkB:Blk wB wr.heap.size ck.toArray 39:=by rw [hwB];exact Blk.new _ _ _
       obtain ⟨p18,hp18⟩:∃ q,q=wr.heap.size:=⟨_,rfl⟩
       rw [← hwB]
       rw [← hp18] at hkB ⊢
       have HB:=Zh (Zi (G.o.trans (hbB.mono G.o.size)) hkB)
       clear hwB hbB hkB hp18 G
       go_loopw [19,20,112] (fun v19 v20 vj wr2=>∃ j:Nat,j≤n∧vj=.int .i64 j∧v19=.bool (decide (kx i∈out.take j))∧Hid (Below w4.heap.size w4 wr2∧Blk wr2 p18 ck.toArray 39)) (fun _ _ vj _=>n - (intOf vj).toNat)
       case atStart=>exact ⟨0,Nat.zero_le _,rfl,by simp,HB.o⟩
       case round =>
        obtain ⟨j,hj,rfl,rfl,G⟩:=hrel
        by_cases hjn:j < n
        · have j0:(0:Int)≤(j:Int):=by omega
          have j1:(j:Int) < (n:Int):=by omega
          obtain ⟨g,rfl,hrow⟩:=H7.o.2.2.2.2.1 (by omega)
          have hrB:=hrow.chg (S:=fun _=>False) (Chg.of_below G.o.1) (fun h=>h)
          obtain ⟨x,hx⟩:∃ x,out[j]?=some x:=⟨out[j]'(by have:=H7.o.2.2.2.2.2.1;omega),by simp⟩
          have hxl:x.length=16:=hrow.wf x (List.mem_of_getElem? hx)
          have hr:=hrB.read ecK hx
          have hsx:zBh 16 wr g (j*16):=zC8 (hrB.range ecK hx) (by rw [zB];exact hxl)
          have r18:zN 16 wr p18 0=ck:=zS G.o.2 hckl
          have s18:zBh 16 wr p18 0:=(zO G.o.2 (by simp [hckl])).some
          have heq:=fun w'=>zFy x (kx i) hxl (zCf i) w'
          rw [← HCK.o] at heq
          obtain ⟨cx,hcx⟩:∃ q,q=bV x:=⟨_,rfl⟩
          rw [← hcx] at heq hr
          obtain ⟨b2,hb2⟩:∃ q,q=decide (x=kx i):=⟨_,rfl⟩
          rw [← hb2] at heq
          obtain ⟨b1,hb1⟩:∃ q,q=decide (kx i∈out.take j):=⟨_,rfl⟩
          have hst:Hid (decide (kx i∈out.take (j+1))=(b1 || b2)):=by
           show _=_
           rw [hb1,hb2,List.take_add_one,hx,Option.toList_some,← Bool.decide_or]
           refine decide_eq_decide.2 ?_
           rw [List.mem_append,List.mem_singleton]
           exact or_congr Iff.rfl ⟨fun h=>h.symm,fun h=>h.symm⟩
          rw [← hb1]
          clear hb1 hb2 hcx hrow hrB hx
          cases b1 with
          | true =>
            go_upto_region 37 with fail
            go_quiet (fail)
            go_wp2_with fail
            exact ⟨⟨j+1,by omega,by simp,by rw [hst.o];rfl,G.o.1.trans (below_drewN (Below.refl _ _) _),G.o.2.drewN _⟩,by show n - ((j:Int)+1).toNat < n - (j:Int).toNat;omega⟩
          | false =>
            go_upto_region 37 with fail
            go_quiet (fail)
            go_wp2_with fail
            exact ⟨⟨j+1,by omega,by simp,by rw [hst.o];rfl,G.o.1.trans (below_drewN (Below.refl _ _) _),G.o.2.drewN _⟩,by show n - ((j:Int)+1).toNat < n - (j:Int).toNat;omega⟩
        · obtain rfl:n=j:=by omega
          have hto:out.take n=out:=List.take_of_length_le (by have:=H7.o.2.2.2.2.2.1;omega)
          rw [hto]
          obtain ⟨bi,hbi⟩:∃ q,q=decide (kx i∈out):=⟨_,rfl⟩
          rw [← hbi]
          obtain ⟨pl1,pl2,pl3⟩:=H7.o.2.2.1 i hin
          rw [← hbi] at pl1
          obtain ⟨g1,g2,g3⟩:=H7.o.2.2.2.1 i hin
          obtain ⟨a1,c1,e1,gb1⟩:=g1.chg (S:=fun _=>False) (Chg.of_below G.o.1) (fun _ h=>h.elim)
          obtain ⟨a2,c2,e2,gb2⟩:=g2.chg (S:=fun _=>False) (Chg.of_below G.o.1) (fun _ h=>h.elim)
          have hm1:(s.shares (kx i)).length≤16:=zF.sharesK_len s _ 16
          have hm2:(zw (oF i)).length≤16:=(zEH (HF.o.1 i).1).2
          obtain ⟨l1,hl1⟩:∃ q,q=(s.shares (kx i)).length:=⟨_,rfl⟩
          obtain ⟨l2,hl2⟩:∃ q,q=(zw (oF i)).length:=⟨_,rfl⟩
          rw [← hl1] at hm1 e1 gb1 pl1
          rw [← hl2] at hm2 e2 gb2 pl1
          obtain ⟨lt,hlt⟩:∃ q,q=l1+l2:=⟨_,rfl⟩
          have hadd:IntKind.i64.wrap ((l1:Int)+(l2:Int))=(lt:Int):=by rw [IntKind.wrap_i64];omega
          obtain ⟨hv,hhv⟩:∃ q,q=decide (0 < lt):=⟨_,rfl⟩
          rw [← hlt,← hhv] at pl1
          have t1:decide ((0:Int) < (lt:Int))=hv:=by rw [hhv];simp
          have t2:decide (0 < lt)=hv:=hhv.symm
          have k11:=H7.o.2.2.2.2.2.2.2.2.1.kept G.o.1
          have k12:=H7.o.2.2.2.2.2.2.2.2.2.1.kept G.o.1
          have k13:=H7.o.2.2.2.2.2.2.2.2.2.2.kept G.o.1
          have c11:wr.cell? ⟨p11,i,none⟩=some (.slice a1 l1 c1):=by rw [k11.cell,List.getElem?_toArray];exact e1
          have c12:wr.cell? ⟨p12,i,none⟩=some (.slice a2 l2 c2):=by rw [k12.cell,List.getElem?_toArray];exact e2
          have c13:wr.cell? ⟨p13,i,none⟩=some (.bool (bF i)):=by rw [k13.cell,List.getElem?_toArray];exact g3
          have HGG:=Zh (Zi G.o (Zi gb1 (Zi gb2 (Zi pl1 (Zi pl2 (Zi pl3 (Zi hl1 hl2)))))))
          clear G k11 k12 k13 e1 e2 g1 g2 g3 gb1 gb2 pl1 pl2 pl3 hl1 hl2 hhv hbi hto hj hjn hlt
          go_upto_region 39 with fail
          go_quiet (fail)
          go_upto_region 40 with fail
          have HQ:Hid (Below w4.heap.size w4 (wr.drewN nq)∧Blk (wr.drewN nq) p18 ck.toArray 39∧zAI (wr.drewN nq) (fun b=>b < wA.heap.size) (.slice a1 l1 c1) (s.shares (kx i))∧zAI (wr.drewN nq) (fun b=>b < wA.heap.size) (.slice a2 l2 c2) (zw (oF i))) :=
           ⟨HGG.o.1.1.trans (below_drewN (Below.refl _ _) nq),HGG.o.1.2.drewN nq,HGG.o.2.1.below (below_drewN (Below.refl _ _) nq),HGG.o.2.2.1.below (below_drewN (Below.refl _ _) nq)⟩
          have c11:(wr.drewN nq).cell? ⟨p11,i,none⟩=some (.slice a1 l1 c1):=c11
          have c12:(wr.drewN nq).cell? ⟨p12,i,none⟩=some (.slice a2 l2 c2):=c12
          have c13:(wr.drewN nq).cell? ⟨p13,i,none⟩=some (.bool (bF i)):=c13
          obtain ⟨wq,hwq⟩:∃ q,q=wr.drewN nq:=⟨_,rfl⟩
          obtain ⟨bf,hbf⟩:∃ q,q=bF i:=⟨_,rfl⟩
          rw [← hwq] at HQ c11 c12 c13 ⊢
          rw [← hbf] at c13
          have HPL:=Zh (Zi HGG.o.2.2.2 hbf)
          clear hwq HGG hbf
          go_cut [143] (fun v wx=>v=.bool false∧wq=wx)
          case first =>
           have hb1:=HPL.o.1.1
           rw [← HPL.o.2] at hb1
           cases hv with
           | true =>
             cases bf with
             | true=>obtain rfl:bi=false:=hb1;go_wp2_with fail;go_meet;exact ⟨rfl,rfl⟩
             | false=>obtain rfl:bi=true:=hb1;go_wp2_with fail;go_meet;exact ⟨rfl,rfl⟩
           | false =>
             obtain rfl:bi=false:=hb1;go_wp2_with fail;go_meet;exact ⟨rfl,rfl⟩
          case rest =>
          obtain ⟨rfl,rfl⟩:=hcut
          go_upto_region 42 with fail
          go_cut [173] (fun v wx=>v=.bool false∧Hid (Below w4.heap.size w4 wx∧Blk wx p18 ck.toArray 39))
          case first =>
           cases bf with
           | false =>
             go_quiet (fail)
             go_wp2_with fail
             go_meet
             exact ⟨rfl,HQ.o.1.trans (below_drewN (Below.refl _ _) _),HQ.o.2.1.drewN _⟩
           | true =>
             obtain ⟨ps,pc,pv⟩:=HPL.o.1.2.1 HPL.o.2.symm
             have hl3:l1=(s'.shares (kx i)).length:=by rw [ps];exact HPL.o.1.2.2.2.1
             have HPS:=Zh (Zi ps (Zi pc (Zi pv (Zi hl3 HPL.o.1.2.2.2.2))))
             clear ps pc pv hl3
             have hkey:∀ w',Below wq.heap.size wq w'→w'.rangeAt p18 0 ck:=fun w' hb j v hv=>by
              rw [(HQ.o.2.1.kept hb).cell,Nat.zero_add]
              simpa using hv
             have hcel:∀ w',Below wq.heap.size wq w'→w'.cell? ⟨p11,i,none⟩=some (.slice a1 l1 c1)∧w'.cell? ⟨p12,i,none⟩=some (.slice a2 l2 c2)∧w'.cell? ⟨p13,i,none⟩=some (.bool true):=fun w' hb =>
              ⟨(hb.cell (p:=⟨p11,i,none⟩) (World.block_lt_of_cell? wq _ c11)).trans c11,(hb.cell (p:=⟨p12,i,none⟩) (World.block_lt_of_cell? wq _ c12)).trans c12,(hb.cell (p:=⟨p13,i,none⟩) (World.block_lt_of_cell? wq _ c13)).trans c13⟩
             have hlv:∀ w',Below wq.heap.size wq w'→Calls Tryz.prog 26 #[.pointer (some ⟨pb,0,none⟩),.agg ck.toArray,.int .i64 nw] w' fun e w''=>e=.returned (.bool true)∧Below w'.heap.size w' w'':=fun w' hb=>by
              rw [HCK.o]
              refine (((H7.o.1.step HQ.o.1).step hb).living H7.o.2.1 (kx i) (zCf i) nw).mono ?_
              rintro e w'' ⟨b,rfl,hbb,hb2⟩
              exact ⟨by rw [hbb.2 HPS.o.2.2.1],hb2⟩
             have hb1c:∀ w' v,Below wq.heap.size wq w'→zAI w' (fun _=>False) v (s'.shares (kx i))→Calls Tryz.prog 22 #[v,.slice a1 l1 c1] w' fun e w''=>e=.returned (.bool true)∧Below w'.heap.size w' w'':=fun w' v hb hv=>by
              refine (zEv _ _ _ _ w' hv ((HQ.o.2.2.1.below hb).mono fun _ h=>h.elim)).mono ?_
              rintro e w'' ⟨rfl,k,rfl⟩
              exact ⟨by rw [show decide (s'.shares (kx i)=s.shares (kx i))=true from by rw [HPS.o.1];simp],below_drewN (Below.refl _ _) k⟩
             have hb2c:∀ w' v,Below wq.heap.size wq w'→zAI w' (fun _=>False) v (zw (oF i))→Calls Tryz.prog 22 #[v,.slice a2 l2 c2] w' fun e w''=>e=.returned (.bool true)∧Below w'.heap.size w' w'':=fun w' v hb hv=>by
              refine (zEv _ _ _ _ w' hv ((HQ.o.2.2.2.below hb).mono fun _ h=>h.elim)).mono ?_
              rintro e w'' ⟨rfl,k,rfl⟩
              exact ⟨by rw [show decide (zw (oF i)=zw (oF i))=true from by simp],below_drewN (Below.refl _ _) k⟩
             have hsh:∀ w',Below wq.heap.size wq w'→Calls Tryz.prog 23 #[.pointer (some ⟨pb,0,none⟩),.agg ck.toArray] w' fun e w''=>∃ u,e=.returned u∧(∃ a c,u=.slice a l1 c∧zAI w'' (fun _=>False) u (s'.shares (kx i)))∧Below w'.heap.size w' w'':=fun w' hb=>by
              rw [HCK.o]
              refine (((H7.o.1.step HQ.o.1).step hb).shares H7.o.2.2.2.2.2.2.1 H7.o.2.1 (kx i) (zCf _)).mono ?_
              rintro e w'' ⟨u,rfl,hO,hb2⟩
              have hB3:zAI w'' (fun _=>False) u (s'.shares (kx i)):=(hO.at (fun b h1 _ h2=>by omega)).mono (fun b h=>by first | exact h.elim | exact .inl (by have:=hb.size;omega))
              obtain ⟨a3,c3,rfl,_⟩:=hO.slice
              exact ⟨_,rfl,⟨a3,c3,by rw [HPS.o.2.2.2.1],hB3⟩,hb2⟩
             have hsl:∀ w',Below wq.heap.size wq w'→Calls Tryz.prog 24 #[.pointer (some ⟨pb,0,none⟩),.agg ck.toArray] w' fun e w''=>∃ u,e=.returned u∧(∃ a c,u=.slice a l2 c∧zAI w'' (fun _=>False) u (zw (oF i)))∧Below w'.heap.size w' w'':=fun w' hb=>by
              rw [HCK.o]
              refine (((H7.o.1.step HQ.o.1).step hb).slotOf H7.o.2.2.2.2.2.2.1 H7.o.2.1 (kx i) (zCf _) HPS.o.2.1).mono ?_
              rintro e w'' ⟨u,rfl,hO,hb2⟩
              have hB3:zAI w'' (fun _=>False) u (zw (oF i)):=(hO.at (fun b h1 _ h2=>by omega)).mono (fun b h=>by first | exact h.elim | exact .inl (by have:=hb.size;omega))
              obtain ⟨a3,c3,rfl,_⟩:=hO.slice
              exact ⟨_,rfl,⟨a3,c3,by rw [HPS.o.2.2.2.2],hB3⟩,hb2⟩
             refine Tail.zBa 29 (fun k=>k == 6 || k == 10 || k == 15 || k == 19 || k == 26) (fun k=>if k=10 then some (.bool true) else if k=19 then some (.bool true) else if k=26 then some (.bool true) else none)
              (fun D z w'=>Below wq.heap.size wq w'∧(D 6=true→∃ a c,z 6=.slice a l1 c∧zAI w' (fun _=>False) (z 6) (s'.shares (kx i)))∧(D 15=true→∃ a c,z 15=.slice a l2 c∧zAI w' (fun _=>False) (z 15) (zw (oF i))))
              (by kernel_rfl) (by kernel_rfl) (fun k hk=>by simp at hk;omega) (fun D z z' w' hz h=>⟨h.1,fun d=>by rw [← hz 6 d];exact h.2.1 d,fun d=>by rw [← hz 15 d];exact h.2.2 d⟩)
              ⟨(Below.refl _ _).drew,(fun h=>by cases h),(fun h=>by cases h)⟩ (fun z=>?_)
             simp only [List.take_succ_cons,List.take_zero,List.drop_succ_cons,List.drop_zero]
             iterate 2
              refine Tail.zAz (by rfl) (by rfl) ?_
              apply Exists.intro
              refine ⟨fun w=>?_,?_⟩
              · go_simp <;> with_reducible rfl
              simp only [Act.put,List.setIfInBounds_toArray,List.set_cons_zero,List.set_cons_succ,Nat.reduceAdd,Nat.reduceEqDiff,reduceIte,Option.getD_some,Option.getD_none]
             refine Tail.zHp (by rfl) (by rfl) ?_
             apply Exists.intro
             refine ⟨fun D w' hd hp hJ=>?_,?_⟩
             · have cc:=(hcel w' hJ.1).2.2
               go_simp <;> with_reducible rfl
             simp only [Act.put,List.setIfInBounds_toArray,List.set_cons_zero,List.set_cons_succ,Nat.reduceAdd,Nat.reduceEqDiff,reduceIte,Option.getD_some,Option.getD_none]
             iterate 2
              refine Tail.zAz (by rfl) (by rfl) ?_
              apply Exists.intro
              refine ⟨fun w=>?_,?_⟩
              · go_simp <;> with_reducible rfl
              simp only [Act.put,List.setIfInBounds_toArray,List.set_cons_zero,List.set_cons_succ,Nat.reduceAdd,Nat.reduceEqDiff,reduceIte,Option.getD_some,Option.getD_none]
             refine Tail.zB5 (by rfl) (by rfl) 39 _ (by rfl) p18 0 (by rfl) ck (fun D w' hd hp hJ=>hkey w' hJ.1) Tryz.underlying39 rfl (by rw [hckl];exact i16) ?_
             simp only [Act.put,List.setIfInBounds_toArray,List.set_cons_zero,List.set_cons_succ,Nat.reduceAdd,Nat.reduceEqDiff,reduceIte,Option.getD_some,Option.getD_none]
             refine Tail.zBA (by rfl) (by rfl) ?_ ?_
             · apply Exists.intro
               apply Exists.intro
               refine ⟨fun w'=>?_,?_⟩
               · go_simp <;> exact ⟨rfl,rfl⟩
               intro D z' w' hD hz hd hp hJ
               refine (hsh w' hJ.1).mono ?_
               rintro e w'' ⟨u,rfl,⟨a',c',hu,hbl⟩,hb⟩
               refine ⟨u,rfl,fun c hc=>by simp at hc,hJ.1.trans (hb.mono hJ.1.size),fun h=>?_,fun h=>?_⟩
               · exact ⟨a',c',by simpa [Tail.zAc] using hu,by simpa [Tail.zAc] using hbl⟩
               · obtain ⟨a2',c2',e1,e2⟩:=hJ.2.2 (by simpa [Tail.zAZ] using h)
                 exact ⟨a2',c2',by simpa [Tail.zAc] using e1,by simpa [Tail.zAc] using e2.below hb⟩
             simp only [Act.put,List.setIfInBounds_toArray,List.set_cons_zero,List.set_cons_succ,Nat.reduceAdd,Nat.reduceEqDiff,reduceIte,Option.getD_some,Option.getD_none]
             iterate 2
              refine Tail.zAz (by rfl) (by rfl) ?_
              apply Exists.intro
              refine ⟨fun w=>?_,?_⟩
              · go_simp <;> with_reducible rfl
              simp only [Act.put,List.setIfInBounds_toArray,List.set_cons_zero,List.set_cons_succ,Nat.reduceAdd,Nat.reduceEqDiff,reduceIte,Option.getD_some,Option.getD_none]
             refine Tail.zHp (by rfl) (by rfl) ?_
             apply Exists.intro
             refine ⟨fun D w' hd hp hJ=>?_,?_⟩
             · have cc:=(hcel w' hJ.1).1
               go_simp <;> with_reducible rfl
             simp only [Act.put,List.setIfInBounds_toArray,List.set_cons_zero,List.set_cons_succ,Nat.reduceAdd,Nat.reduceEqDiff,reduceIte,Option.getD_some,Option.getD_none]
             refine Tail.zBA (by rfl) (by rfl) ?_ ?_
             · apply Exists.intro
               apply Exists.intro
               refine ⟨fun w'=>?_,?_⟩
               · go_simp <;> exact ⟨rfl,rfl⟩
               intro D z' w' hD hz hd hp hJ
               have hk:D 6=true:=hd 6 (by kernel_rfl)
               obtain ⟨a',c',e1,e2⟩:=hJ.2.1 hk
               rw [← hz 6 hk] at e2
               refine (hb1c w' (z 6) hJ.1 e2).mono ?_
               rintro e w'' ⟨rfl,hb⟩
               refine ⟨_,rfl,fun c hc=>by simp at hc;rw [← hc],hJ.1.trans (hb.mono hJ.1.size),fun h=>?_,fun h=>?_⟩
               · obtain ⟨a2',c2',e1,e2⟩:=hJ.2.1 (by simpa [Tail.zAZ] using h)
                 exact ⟨a2',c2',by simpa [Tail.zAc] using e1,by simpa [Tail.zAc] using e2.below hb⟩
               · obtain ⟨a2',c2',e1,e2⟩:=hJ.2.2 (by simpa [Tail.zAZ] using h)
                 exact ⟨a2',c2',by simpa [Tail.zAc] using e1,by simpa [Tail.zAc] using e2.below hb⟩
             simp only [Act.put,List.setIfInBounds_toArray,List.set_cons_zero,List.set_cons_succ,Nat.reduceAdd,Nat.reduceEqDiff,reduceIte,Option.getD_some,Option.getD_none]
             iterate 3
              refine Tail.zAz (by rfl) (by rfl) ?_
              apply Exists.intro
              refine ⟨fun w=>?_,?_⟩
              · go_simp <;> with_reducible rfl
              simp only [Act.put,List.setIfInBounds_toArray,List.set_cons_zero,List.set_cons_succ,Nat.reduceAdd,Nat.reduceEqDiff,reduceIte,Option.getD_some,Option.getD_none]
             refine Tail.zB5 (by rfl) (by rfl) 39 _ (by rfl) p18 0 (by rfl) ck (fun D w' hd hp hJ=>hkey w' hJ.1) Tryz.underlying39 rfl (by rw [hckl];exact i16) ?_
             simp only [Act.put,List.setIfInBounds_toArray,List.set_cons_zero,List.set_cons_succ,Nat.reduceAdd,Nat.reduceEqDiff,reduceIte,Option.getD_some,Option.getD_none]
             refine Tail.zBA (by rfl) (by rfl) ?_ ?_
             · apply Exists.intro
               apply Exists.intro
               refine ⟨fun w'=>?_,?_⟩
               · go_simp <;> exact ⟨rfl,rfl⟩
               intro D z' w' hD hz hd hp hJ
               refine (hsl w' hJ.1).mono ?_
               rintro e w'' ⟨u,rfl,⟨a',c',hu,hbl⟩,hb⟩
               refine ⟨u,rfl,fun c hc=>by simp at hc,hJ.1.trans (hb.mono hJ.1.size),fun h=>?_,fun h=>?_⟩
               · obtain ⟨a2',c2',e1,e2⟩:=hJ.2.1 (by simpa [Tail.zAZ] using h)
                 exact ⟨a2',c2',by simpa [Tail.zAc] using e1,by simpa [Tail.zAc] using e2.below hb⟩
               · exact ⟨a',c',by simpa [Tail.zAc] using hu,by simpa [Tail.zAc] using hbl⟩
             simp only [Act.put,List.setIfInBounds_toArray,List.set_cons_zero,List.set_cons_succ,Nat.reduceAdd,Nat.reduceEqDiff,reduceIte,Option.getD_some,Option.getD_none]
             iterate 2
              refine Tail.zAz (by rfl) (by rfl) ?_
              apply Exists.intro
              refine ⟨fun w=>?_,?_⟩
              · go_simp <;> with_reducible rfl
              simp only [Act.put,List.setIfInBounds_toArray,List.set_cons_zero,List.set_cons_succ,Nat.reduceAdd,Nat.reduceEqDiff,reduceIte,Option.getD_some,Option.getD_none]
             refine Tail.zHp (by rfl) (by rfl) ?_
             apply Exists.intro
             refine ⟨fun D w' hd hp hJ=>?_,?_⟩
             · have cc:=(hcel w' hJ.1).2.1
               go_simp <;> with_reducible rfl
             simp only [Act.put,List.setIfInBounds_toArray,List.set_cons_zero,List.set_cons_succ,Nat.reduceAdd,Nat.reduceEqDiff,reduceIte,Option.getD_some,Option.getD_none]
             refine Tail.zBA (by rfl) (by rfl) ?_ ?_
             · apply Exists.intro
               apply Exists.intro
               refine ⟨fun w'=>?_,?_⟩
               · go_simp <;> exact ⟨rfl,rfl⟩
               intro D z' w' hD hz hd hp hJ
               have hk:D 15=true:=hd 15 (by kernel_rfl)
               obtain ⟨a',c',e1,e2⟩:=hJ.2.2 hk
               rw [← hz 15 hk] at e2
               refine (hb2c w' (z 15) hJ.1 e2).mono ?_
               rintro e w'' ⟨rfl,hb⟩
               refine ⟨_,rfl,fun c hc=>by simp at hc;rw [← hc],hJ.1.trans (hb.mono hJ.1.size),fun h=>?_,fun h=>?_⟩
               · obtain ⟨a2',c2',e1,e2⟩:=hJ.2.1 (by simpa [Tail.zAZ] using h)
                 exact ⟨a2',c2',by simpa [Tail.zAc] using e1,by simpa [Tail.zAc] using e2.below hb⟩
               · obtain ⟨a2',c2',e1,e2⟩:=hJ.2.2 (by simpa [Tail.zAZ] using h)
                 exact ⟨a2',c2',by simpa [Tail.zAc] using e1,by simpa [Tail.zAc] using e2.below hb⟩
             simp only [Act.put,List.setIfInBounds_toArray,List.set_cons_zero,List.set_cons_succ,Nat.reduceAdd,Nat.reduceEqDiff,reduceIte,Option.getD_some,Option.getD_none]
             iterate 4
              refine Tail.zAz (by rfl) (by rfl) ?_
              apply Exists.intro
              refine ⟨fun w=>?_,?_⟩
              · go_simp <;> with_reducible rfl
              simp only [Act.put,List.setIfInBounds_toArray,List.set_cons_zero,List.set_cons_succ,Nat.reduceAdd,Nat.reduceEqDiff,reduceIte,Option.getD_some,Option.getD_none]
             refine Tail.zB5 (by rfl) (by rfl) 39 _ (by rfl) p18 0 (by rfl) ck (fun D w' hd hp hJ=>hkey w' hJ.1) Tryz.underlying39 rfl (by rw [hckl];exact i16) ?_
             simp only [Act.put,List.setIfInBounds_toArray,List.set_cons_zero,List.set_cons_succ,Nat.reduceAdd,Nat.reduceEqDiff,reduceIte,Option.getD_some,Option.getD_none]
             refine Tail.zAz (by rfl) (by rfl) ?_
             apply Exists.intro
             refine ⟨fun w=>?_,?_⟩
             · go_simp <;> with_reducible rfl
             simp only [Act.put,List.setIfInBounds_toArray,List.set_cons_zero,List.set_cons_succ,Nat.reduceAdd,Nat.reduceEqDiff,reduceIte,Option.getD_some,Option.getD_none]
             refine Tail.zBA (by rfl) (by rfl) ?_ ?_
             · apply Exists.intro
               apply Exists.intro
               refine ⟨fun w'=>?_,?_⟩
               · go_simp <;> exact ⟨rfl,rfl⟩
               intro D z' w' hD hz hd hp hJ
               refine (hlv w' hJ.1).mono ?_
               rintro e w'' ⟨rfl,hb⟩
               refine ⟨_,rfl,fun c hc=>by simp at hc;rw [← hc],hJ.1.trans (hb.mono hJ.1.size),fun h=>?_,fun h=>?_⟩
               · obtain ⟨a2',c2',e1,e2⟩:=hJ.2.1 (by simpa [Tail.zAZ] using h)
                 exact ⟨a2',c2',by simpa [Tail.zAc] using e1,by simpa [Tail.zAc] using e2.below hb⟩
               · obtain ⟨a2',c2',e1,e2⟩:=hJ.2.2 (by simpa [Tail.zAZ] using h)
                 exact ⟨a2',c2',by simpa [Tail.zAc] using e1,by simpa [Tail.zAc] using e2.below hb⟩
             simp only [Act.put,List.setIfInBounds_toArray,List.set_cons_zero,List.set_cons_succ,Nat.reduceAdd,Nat.reduceEqDiff,reduceIte,Option.getD_some,Option.getD_none]
             iterate 2
              refine Tail.zAz (by rfl) (by rfl) ?_
              apply Exists.intro
              refine ⟨fun w=>?_,?_⟩
              · go_simp <;> with_reducible rfl
              simp only [Act.put,List.setIfInBounds_toArray,List.set_cons_zero,List.set_cons_succ,Nat.reduceAdd,Nat.reduceEqDiff,reduceIte,Option.getD_some,Option.getD_none]
             intro w' hJ
             have HE:=Zh hJ.1
             clear hJ hcel hkey hsh hsl hb1c hb2c hlv
             go_wp2_with fail
             go_meet
             exact ⟨rfl,HQ.o.1.trans (HE.o.mono HQ.o.1.size),HQ.o.2.1.kept HE.o⟩
          case rest =>
          obtain ⟨rfl,hG⟩:=hcut
          have c13:=(H7.o.2.2.2.2.2.2.2.2.2.2.kept hG.o.1).cell i
          rw [List.getElem?_toArray,(H7.o.2.2.2.1 i hin).2.2,← HPL.o.2] at c13
          have HR:=Zh hG.o
          clear hG HQ c11 c12
          go_upto_region 44 with fail
          go_cut [189] (fun v wx=>v=.bool false∧Hid (Below w4.heap.size w4 wx))
          case first =>
           cases bf with
           | true =>
             go_quiet (fail)
             go_wp2_with fail
             go_meet
             exact ⟨rfl,HR.o.1.trans (below_drewN (Below.refl _ _) _)⟩
           | false =>
             obtain ⟨ps,pc⟩:=HPL.o.1.2.2.1 HPL.o.2.symm
             have hl3:0=(s'.shares (kx i)).length:=by rw [ps];rfl
             have HPS:=Zh (Zi pc hl3)
             clear ps pc hl3
             have hkey:∀ w',Below wc.heap.size wc w'→w'.rangeAt p18 0 ck:=fun w' hb j v hv=>by
              rw [(HR.o.2.kept hb).cell,Nat.zero_add]
              simpa using hv
             have hcel:∀ w',Below wc.heap.size wc w'→w'.cell? ⟨p13,i,none⟩=some (.bool false):=fun w' hb =>
              (hb.cell (p:=⟨p13,i,none⟩) (World.block_lt_of_cell? wc _ c13)).trans c13
             have hsh:∀ w',Below wc.heap.size wc w'→Calls Tryz.prog 23 #[.pointer (some ⟨pb,0,none⟩),.agg ck.toArray] w' fun e w''=>∃ u,e=.returned u∧(∃ a c,u=.slice a 0 c∧zAI w'' (fun _=>False) u (s'.shares (kx i)))∧Below w'.heap.size w' w'':=fun w' hb=>by
              rw [HCK.o]
              refine (((H7.o.1.step HR.o.1).step hb).shares H7.o.2.2.2.2.2.2.1 H7.o.2.1 (kx i) (zCf _)).mono ?_
              rintro e w'' ⟨u,rfl,hO,hb2⟩
              have hB3:zAI w'' (fun _=>False) u (s'.shares (kx i)):=(hO.at (fun b h1 _ h2=>by omega)).mono (fun b h=>by first | exact h.elim | exact .inl (by have:=hb.size;omega))
              obtain ⟨a3,c3,rfl,_⟩:=hO.slice
              exact ⟨_,rfl,⟨a3,c3,by rw [HPS.o.2],hB3⟩,hb2⟩
             have hsl:∀ w',Below wc.heap.size wc w'→Calls Tryz.prog 24 #[.pointer (some ⟨pb,0,none⟩),.agg ck.toArray] w' fun e w''=>∃ u,e=.returned u∧(∃ a c,u=.slice a 0 c∧zAI w'' (fun _=>False) u (zw none))∧Below w'.heap.size w' w'':=fun w' hb=>by
              rw [HCK.o]
              refine (((H7.o.1.step HR.o.1).step hb).slotOf H7.o.2.2.2.2.2.2.1 H7.o.2.1 (kx i) (zCf _) HPS.o.1).mono ?_
              rintro e w'' ⟨u,rfl,hO,hb2⟩
              have hB3:zAI w'' (fun _=>False) u (zw none):=(hO.at (fun b h1 _ h2=>by omega)).mono (fun b h=>by first | exact h.elim | exact .inl (by have:=hb.size;omega))
              obtain ⟨a3,c3,rfl,_⟩:=hO.slice
              exact ⟨_,rfl,⟨a3,c3,by rw [show 0=(zw none).length from rfl],hB3⟩,hb2⟩
             refine Tail.zBa 15 (fun k=>k == 7 || k == 11) (fun k=>none)
              (fun D z w'=>Below wc.heap.size wc w'∧(D 7=true→∃ a c,z 7=.slice a 0 c∧zAI w' (fun _=>False) (z 7) (s'.shares (kx i)))∧(D 11=true→∃ a c,z 11=.slice a 0 c∧zAI w' (fun _=>False) (z 11) (zw none)))
              (by kernel_rfl) (by kernel_rfl) (fun k hk=>by simp at hk;omega) (fun D z z' w' hz h=>⟨h.1,fun d=>by rw [← hz 7 d];exact h.2.1 d,fun d=>by rw [← hz 11 d];exact h.2.2 d⟩)
              ⟨(Below.refl _ _).drew,(fun h=>by cases h),(fun h=>by cases h)⟩ (fun z=>?_)
             simp only [List.take_succ_cons,List.take_zero,List.drop_succ_cons,List.drop_zero]
             iterate 2
              refine Tail.zAz (by rfl) (by rfl) ?_
              apply Exists.intro
              refine ⟨fun w=>?_,?_⟩
              · go_simp <;> with_reducible rfl
              simp only [Act.put,List.setIfInBounds_toArray,List.set_cons_zero,List.set_cons_succ,Nat.reduceAdd,Nat.reduceEqDiff,reduceIte,Option.getD_some,Option.getD_none]
             refine Tail.zHp (by rfl) (by rfl) ?_
             apply Exists.intro
             refine ⟨fun D w' hd hp hJ=>?_,?_⟩
             · have cc:=hcel w' hJ.1
               go_simp <;> with_reducible rfl
             simp only [Act.put,List.setIfInBounds_toArray,List.set_cons_zero,List.set_cons_succ,Nat.reduceAdd,Nat.reduceEqDiff,reduceIte,Option.getD_some,Option.getD_none]
             iterate 3
              refine Tail.zAz (by rfl) (by rfl) ?_
              apply Exists.intro
              refine ⟨fun w=>?_,?_⟩
              · go_simp <;> with_reducible rfl
              simp only [Act.put,List.setIfInBounds_toArray,List.set_cons_zero,List.set_cons_succ,Nat.reduceAdd,Nat.reduceEqDiff,reduceIte,Option.getD_some,Option.getD_none]
             refine Tail.zB5 (by rfl) (by rfl) 39 _ (by rfl) p18 0 (by rfl) ck (fun D w' hd hp hJ=>hkey w' hJ.1) Tryz.underlying39 rfl (by rw [hckl];exact i16) ?_
             simp only [Act.put,List.setIfInBounds_toArray,List.set_cons_zero,List.set_cons_succ,Nat.reduceAdd,Nat.reduceEqDiff,reduceIte,Option.getD_some,Option.getD_none]
             refine Tail.zBA (by rfl) (by rfl) ?_ ?_
             · apply Exists.intro
               apply Exists.intro
               refine ⟨fun w'=>?_,?_⟩
               · go_simp <;> exact ⟨rfl,rfl⟩
               intro D z' w' hD hz hd hp hJ
               refine (hsh w' hJ.1).mono ?_
               rintro e w'' ⟨u,rfl,⟨a',c',hu,hbl⟩,hb⟩
               refine ⟨u,rfl,fun c hc=>by simp at hc,hJ.1.trans (hb.mono hJ.1.size),fun h=>?_,fun h=>?_⟩
               · exact ⟨a',c',by simpa [Tail.zAc] using hu,by simpa [Tail.zAc] using hbl⟩
               · obtain ⟨a2',c2',e1,e2⟩:=hJ.2.2 (by simpa [Tail.zAZ] using h)
                 exact ⟨a2',c2',by simpa [Tail.zAc] using e1,by simpa [Tail.zAc] using e2.below hb⟩
             simp only [Act.put,List.setIfInBounds_toArray,List.set_cons_zero,List.set_cons_succ,Nat.reduceAdd,Nat.reduceEqDiff,reduceIte,Option.getD_some,Option.getD_none]
             refine Tail.zHp (by rfl) (by rfl) ?_
             refine ⟨.int .i64 0,fun D w' hd hp hJ=>?_,?_⟩
             · obtain ⟨a',c',cc,_⟩:=hJ.2.1 (hd 7 (by kernel_rfl))
               go_simp <;> with_reducible rfl
             simp only [Act.put,List.setIfInBounds_toArray,List.set_cons_zero,List.set_cons_succ,Nat.reduceAdd,Nat.reduceEqDiff,reduceIte,Option.getD_some,Option.getD_none]
             refine Tail.zAz (by rfl) (by rfl) ?_
             apply Exists.intro
             refine ⟨fun w=>?_,?_⟩
             · go_simp <;> with_reducible rfl
             simp only [Act.put,List.setIfInBounds_toArray,List.set_cons_zero,List.set_cons_succ,Nat.reduceAdd,Nat.reduceEqDiff,reduceIte,Option.getD_some,Option.getD_none]
             refine Tail.zB5 (by rfl) (by rfl) 39 _ (by rfl) p18 0 (by rfl) ck (fun D w' hd hp hJ=>hkey w' hJ.1) Tryz.underlying39 rfl (by rw [hckl];exact i16) ?_
             simp only [Act.put,List.setIfInBounds_toArray,List.set_cons_zero,List.set_cons_succ,Nat.reduceAdd,Nat.reduceEqDiff,reduceIte,Option.getD_some,Option.getD_none]
             refine Tail.zBA (by rfl) (by rfl) ?_ ?_
             · apply Exists.intro
               apply Exists.intro
               refine ⟨fun w'=>?_,?_⟩
               · go_simp <;> exact ⟨rfl,rfl⟩
               intro D z' w' hD hz hd hp hJ
               refine (hsl w' hJ.1).mono ?_
               rintro e w'' ⟨u,rfl,⟨a',c',hu,hbl⟩,hb⟩
               refine ⟨u,rfl,fun c hc=>by simp at hc,hJ.1.trans (hb.mono hJ.1.size),fun h=>?_,fun h=>?_⟩
               · obtain ⟨a2',c2',e1,e2⟩:=hJ.2.1 (by simpa [Tail.zAZ] using h)
                 exact ⟨a2',c2',by simpa [Tail.zAc] using e1,by simpa [Tail.zAc] using e2.below hb⟩
               · exact ⟨a',c',by simpa [Tail.zAc] using hu,by simpa [Tail.zAc] using hbl⟩
             simp only [Act.put,List.setIfInBounds_toArray,List.set_cons_zero,List.set_cons_succ,Nat.reduceAdd,Nat.reduceEqDiff,reduceIte,Option.getD_some,Option.getD_none]
             refine Tail.zHp (by rfl) (by rfl) ?_
             refine ⟨.int .i64 0,fun D w' hd hp hJ=>?_,?_⟩
             · obtain ⟨a',c',cc,_⟩:=hJ.2.2 (hd 11 (by kernel_rfl))
               go_simp <;> with_reducible rfl
             simp only [Act.put,List.setIfInBounds_toArray,List.set_cons_zero,List.set_cons_succ,Nat.reduceAdd,Nat.reduceEqDiff,reduceIte,Option.getD_some,Option.getD_none]
             iterate 2
              refine Tail.zAz (by rfl) (by rfl) ?_
              apply Exists.intro
              refine ⟨fun w=>?_,?_⟩
              · go_simp <;> with_reducible rfl
              simp only [Act.put,List.setIfInBounds_toArray,List.set_cons_zero,List.set_cons_succ,Nat.reduceAdd,Nat.reduceEqDiff,reduceIte,Option.getD_some,Option.getD_none]
             intro w' hJ
             have HE:=Zh hJ.1
             clear hJ hcel hkey hsh hsl
             go_wp2_with fail
             go_meet
             exact ⟨rfl,HR.o.1.trans (HE.o.mono HR.o.1.size)⟩
          case rest =>
          obtain ⟨rfl,hG2⟩:=hcut
          go_wp2_with fail
          exact ⟨⟨i+1,by omega,by simp,hG2⟩,by show 3 - ((i:Int)+1).toNat < 3 - (i:Int).toNat;omega⟩
     · obtain rfl:i=3:=by omega
       have HE:=Zh (H7.o.1.step G.o)
       clear G hin hi
       go_wp2_with fail
       refine (zBn C' _ pb s' _ HE.o.srv).mono ?_
       rintro e w5 ⟨rfl,rfl⟩
       rw [H7.o.2.2.2.2.2.2.1]
       go_wp2_with fail
       refine (zH2 _ HE.o.tab).mono ?_
       rintro e w6 ⟨rfl,hb6⟩
       have HF6:=Zh hb6
       clear hb6
       go_wp2_with fail
       go_ret
       exact ⟨rfl,HE.o.bel.trans (HF6.o.mono HE.o.bel.size)⟩
end Go.Proofs.YtbbojbdigiibbaaGreatDoor
end
