/- Texts of this proof,packed: zP,Code,TailNew,TailAny,CodeTake. -/
import Derived.Test.YtdlkghdfkjdajaaGreatDoorPkP01
import Derived.Lib.FrozenHead
import Derived.Lib.ConvBytes
import Derived.Test.YtdlkghdfkjdajaaGreatDoorPkP00
import Derived.Test.YtdlkghdfkjdajaaGreatDoorPkPS
import Derived.Laws.BytesArg
import Derived.Laws.MakeOwn
import Derived.IntWalk
import Derived.Deep.MidRow
import Derived.Deep.RegionHeld3
section
namespace Go.Mem
open Go Go.RowKit Gf
def zP (t8:TypeId) (w:World) (base:Nat) (v:Value) (bs:List UInt8):Prop :=
 (v=.slice none 0 0∧bs=[])∨∃ g cap arr fz,v=.slice (some ⟨g,0,none⟩) bs.length cap∧base≤g∧w.heap[g]?=some (.cells arr t8 fz)∧(fz=(0,0)∨arr.size≤fz.1)∧bs.length≤cap∧cap≤maxLen∧arr.size=cap ∧
  (∀ (i:Nat) (u:UInt8),bs[i]?=some u→arr[i]?=some (Value.int .u8 ((u.toNat:Nat):Int)))∧Byt arr
section
variable {t8:TypeId} {w w':World} {base:Nat} {v:Value} {bs:List UInt8}
theorem zP.nil (t8:TypeId) (w:World) (base:Nat):zP t8 w base (.slice none 0 0) []:=.inl ⟨rfl,rfl⟩
theorem zP.eq_slice (h:zP t8 w base v bs):∃ a cap,v=.slice a bs.length cap:=by
 rcases h with ⟨rfl,rfl⟩ | ⟨g,cap,_,_,rfl,_⟩
 · exact ⟨_,_,rfl⟩
 · exact ⟨_,_,rfl⟩
theorem zP.bys (h:zP t8 w base v bs):Bys w v bs:=by
 rcases h with ⟨rfl,rfl⟩ | ⟨g,cap,arr,fz,rfl,_,hg,_,h1,h2,_,h3,_⟩
 · exact Bys.nil w
 · refine ⟨_,cap,rfl,h1,h2,fun _=>⟨g,0,rfl,fun i u hi=>?_⟩⟩
   rw [Nat.zero_add]
   have:=h3 i u hi
   simp [World.cell?,hg,this]
theorem zP.lt (h:zP t8 w base v bs):∀ k,v.ownBlock=some k→base≤k∧k < w.heap.size:=by
 rcases h with ⟨rfl,rfl⟩ | ⟨g,cap,arr,fz,rfl,hb,hg,_⟩
 · intro k hk;simp [Value.ownBlock] at hk
 · intro k hk;simp [Value.ownBlock] at hk;subst hk;exact ⟨hb,lt_of_block hg⟩
theorem zP.drew (h:zP t8 w base v bs):zP t8 w.drew base v bs:=h
theorem zP.mono (h:zP t8 w base v bs) {base':Nat} (hb:base'≤base):zP t8 w base' v bs:=by
 rcases h with h | ⟨g,cap,arr,fz,h1,h2,r⟩
 · exact .inl h
 · exact .inr ⟨g,cap,arr,fz,h1,Nat.le_trans hb h2,r⟩
theorem zP.kept (h:zP t8 w base v bs) (hk:∀ g,v.ownBlock=some g→w'.heap[g]?=w.heap[g]?):zP t8 w' base v bs:=by
 rcases h with h | ⟨g,cap,arr,fz,rfl,h2,h3,r⟩
 · exact .inl h
 · exact .inr ⟨g,cap,arr,fz,rfl,h2,by rw [hk g rfl];exact h3,r⟩
theorem zP.below (h:zP t8 w base v bs) (hb:Below w.heap.size w w'):zP t8 w' base v bs:=h.kept fun g hg=>hb.block g (h.lt g hg).2
theorem zP.chg {S:Nat→Prop} (h:zP t8 w base v bs) (hc:Chg S w w') (hs:∀ g,v.ownBlock=some g→¬ S g):zP t8 w' base v bs:=h.kept fun g hg=>hc.block g (h.lt g hg).2 (hs g hg)
theorem zP.alloc (h:zP t8 w base v bs) (o:Obj):zP t8 (w.alloc o) base v bs:=h.below ((Below.refl _ _).alloc (Nat.le_refl _) _)
theorem zBv.x (h:zBv t8 w base v bs):zP t8 w base v bs:=by
 obtain ⟨⟨h1,h2⟩,h3⟩:=h
 rcases h2 with ⟨rfl,h0⟩ | ⟨g,cap,cur,rfl,hb,hg,hnc,hcm,hcs,htake⟩
 · exact .inl ⟨rfl,List.eq_nil_of_length_eq_zero h0⟩
 · obtain ⟨arr,h4,h5⟩:=h3 g rfl
   have e:cur=arr:=by
    have:=(show Blk w g cur t8 from hg).symm.trans h4
    injection this with this
    injection this with this
   subst e
   refine .inr ⟨g,cap,cur,(0,0),rfl,hb,hg,.inl rfl,hnc,hcm,by omega,fun i u hi=>?_,h5⟩
   have hil:i < bs.length:=by
    rcases Nat.lt_or_ge i bs.length with h | h
    · exact h
    · rw [List.getElem?_eq_none h] at hi;cases hi
   have:(bV bs)[i]?=some (.int .u8 ((u.toNat:Nat):Int)):=by rw [zAd,hi];rfl
   rw [← htake,List.getElem?_take,if_pos (by omega)] at this
   simpa using this
theorem zBl (w:World) (e:TypeId) (s:ByteArray) (hs:s.size≤maxLen):zP e (Lib.bytesWorld w e s) w.heap.size (.slice (some ⟨w.heap.size,0,none⟩) s.size (grownCap w s.size 0 e)) s.data.toList∧Below w.heap.size w (Lib.bytesWorld w e s):=by
 have hge:=grownCap_ge w s.size 0 e
 have hsz:(Lib.bytesCells w e s).size=grownCap w s.size 0 e:=by
  simp only [Lib.bytesCells,Array.size_append,Array.size_map,Array.size_replicate]
  show s.size+_=_
  omega
 refine ⟨.inr ⟨_,_,_,_,rfl,Nat.le_refl _,Lib.bytesWorld_at_new w e s,.inr (Nat.le_refl _),hge,grownCap_le_maxLen w s.size 0 e hs,hsz,fun i u hi=>?_,?_⟩,?_⟩
 · unfold Lib.bytesCells
   have hil:i < s.data.size:=by
    rcases Nat.lt_or_ge i s.data.size with h | h
    · exact h
    · rw [List.getElem?_eq_none (by simpa using h)] at hi;cases hi
   rw [Array.getElem?_append_left (by simpa using hil)]
   simp at hi ⊢
   exact ⟨u,hi,rfl⟩
 · refine zBx.2 fun y hy=>?_
   simp only [Lib.bytesCells,Array.toList_append,Array.toList_map,List.mem_append,List.mem_map,Array.toList_replicate,List.mem_replicate] at hy
   rcases hy with ⟨x,_,rfl⟩ | ⟨_,rfl⟩
   · exact ⟨x,rfl⟩
   · exact ⟨0,rfl⟩
 · exact ⟨by simp [Lib.bytesWorld,World.freeze,World.alloc,World.drew,-World.alloc_eq,-World.drew_eq],by simp [Lib.bytesWorld,World.freeze,World.alloc,World.drew,-World.alloc_eq,-World.drew_eq],by simp [Lib.bytesWorld,World.freeze,World.alloc,World.drew,-World.alloc_eq,-World.drew_eq],by rw [Lib.bytesWorld_size];omega,fun k hk=>Lib.bytesWorld_at_old w e s k hk⟩
end
theorem zBu (P:Program) (g o:Nat) (t:TypeId) (fz:Nat × Nat):∀ (vs:List Value) (i:Nat) (cur:Array Value) (w:World),w.heap[g]?=some (.cells cur t fz)→(fz=(0,0)∨cur.size≤fz.1)→o+i+vs.length≤cur.size→(∀ v∈vs,v.oneCell'=true) →
  (storeCells ⟨g,o,none⟩ vs i).run P w=.ok () (w.setRow g (cur.toList.take (o+i)++vs++cur.toList.drop (o+i+vs.length)).toArray)
 | [],i,cur,w,hg,_,_,_=>by
   simp only [storeCells,List.append_nil,List.length_nil,Nat.add_zero,List.take_append_drop,Array.toArray_toList]
   rw [setRow_self w g cur t fz hg]
   rfl
 | v::rest,i,cur,w,hg,hfz,hl,h1=>by
   have hi:o+i < cur.size:=by simp at hl;omega
   have hadd:(⟨g,o,none⟩:Addr).add i=⟨g,o+i,none⟩:=by unfold Addr.add;split <;> simp_all
   have hcell:w.cell? ⟨g,o+i,none⟩=some cur[o+i]:=by simp [World.cell?,hg,hi]
   have hfro:w.frozen? ⟨g,o+i,none⟩=false:=by
    obtain ⟨lo,hi'⟩:=fz
    simp only [World.frozen?,hg,Bool.and_eq_false_iff,decide_eq_false_iff_not]
    rcases hfz with hfz | hfz
    · right;cases hfz;omega
    · left;simp only at hfz;omega
   have hst:(store ((⟨g,o,none⟩:Addr).add i) v).run P w=.ok () (w.setRow g (cur.setIfInBounds (o+i) v)):=by
    rw [hadd,run_store P w _ v _ (h1 v (by simp)),hcell]
    simp [hfro,setCell_eq_setRow w g (o+i) cur t fz v hg]
   have ih:=zBu P g o t fz rest (i+1) (cur.setIfInBounds (o+i) v) (w.setRow g (cur.setIfInBounds (o+i) v)) (setRow_heap w g cur _ t _ hg) (by rw [Array.size_setIfInBounds];exact hfz) (by simp at hl ⊢;omega) (fun x hx=>h1 x (by simp [hx]))
   simp only [storeCells,Sem.run_bind,hst,Result.andThen_ok,ih,setRow_setRow]
   congr 3
   have e:=list_seg_step cur.toList (o+i) v rest (by simp at hl ⊢;omega)
   simpa [Array.toList_setIfInBounds,Nat.add_assoc] using e
section
variable {P:Program} {w:World} {ops:Array Oper} {rest:List Oper} {o:Oper} {a:Act} {Q:Exit→Act→World→Prop} {K:Act→World→Prop} {E0:Prop}
theorem zED (t ty e:TypeId) (i:TypeInfo) (ht:P.underlying t=some (.slice e)) (hi:P.info? e=some i) (hs1:i.size=1)
  (g sLen sCap:Nat) (cur:Array Value) (fz:Nat × Nat) (hg:w.heap[g]?=some (.cells cur e fz)) (hfz:fz=(0,0)∨cur.size≤fz.1)
  (ad:Addr) (m c:Nat) (news:List Value) (hl:news.length=m) (hnews:∀ j u,news[j]?=some u→w.cell? (ad.add j)=some u) (h1:∀ u∈news,u.oneCell'=true)
  (hroom:sLen+m≤sCap) (hfit:sLen+news.length≤cur.size) :
  (Builtin.append_ #[t,t] ty #[.slice (some ⟨g,0,none⟩) sLen sCap,.slice (some ad) m c]).run P w =
   .ok (.slice (some ⟨g,0,none⟩) (sLen+m) sCap) (w.setRow g (cur.toList.take sLen++news++cur.toList.drop (sLen+news.length)).toArray):=by
 have hf:=run_firstCells_some (P:=P) w i.size m ad m c news (by rw [hs1];omega) hnews
 have hst:=zBu P g (sLen*i.size) e fz news 0 cur w hg hfz (by rw [hs1];simpa using hfit) h1
 simp only [Nat.add_zero,hs1,Nat.mul_one] at hst hf
 simp [Builtin.append_,run_underlying ht,sizeOf,typeInfo,hi,Builtin.lenOf,hroom,hf,Addr.add_lit,hst,hs1]
theorem zIE {t e:TypeId} (E:Elem P t e (.int .u8 0) 1) (ty:TypeId) {base:Nat} {v xv:Value} {bs news:List UInt8} (hown:zP e w base v bs) (hb:Bys w xv news) (hn:bs.length+news.length≤140737488355328) (hbase:base≤w.heap.size) :
  ∃ v' w',(Builtin.append_ #[t,t] ty #[v,xv]).run P w=.ok v' w'∧zP e w' base v' (bs++news)∧w.grownBy w' v.ownBlock:=by
 obtain ⟨i,hi,hz,hsz,hby⟩:=info_parts E.info
 rcases hown with ⟨rfl,rfl⟩ | ⟨g,cap,arr,fz,rfl,hbg,hg,hfz,hnc,hcm,hcs,hcells,hbyt⟩
 · obtain ⟨v',w',h1,h2,h3⟩:=zID E ty (zBv.nil e w base) hb hn hbase
   exact ⟨v',w',h1,h2.x,h3⟩
 · obtain ⟨ad,xcap,rfl,hc1,hc2,hcell⟩:=hb
   have holds:∀ j u,(bV bs)[j]?=some u→w.cell? ((⟨g,0,none⟩:Addr).add j)=some u:=fun j u hj=>by
    rw [zAd] at hj
    cases hu:bs[j]? with
    | none=>rw [hu] at hj;cases hj
    | some x =>
      rw [hu] at hj
      have:=hcells j x hu
      rw [show (⟨g,0,none⟩:Addr).add j=⟨g,j,none⟩ from by unfold Addr.add;split <;> simp_all]
      simp at hj
      subst hj
      simp [World.cell?,hg,this]
   cases ad with
   | none =>
     have hl:news=[]:=by
      rcases Nat.eq_zero_or_pos news.length with h0 | h0
      · exact List.eq_nil_of_length_eq_zero h0
      · obtain ⟨b,off,e,_⟩:=hcell h0;cases e
     subst hl
     refine ⟨_,w,?_,by rw [List.append_nil];exact .inr ⟨g,cap,arr,fz,rfl,hbg,hg,hfz,hnc,hcm,hcs,hcells,hbyt⟩,⟨rfl,rfl,rfl,Nat.le_refl _,fun _ _ _=>rfl⟩⟩
     simp [Builtin.append_,run_underlying E.under,sizeOf,typeInfo,hi,Builtin.lenOf,Builtin.firstCells,hnc,storeCells]
   | some ad =>
     have hlen:(bV news).length=news.length*i.size:=by rw [zG,hsz];omega
     have hnews:∀ j y,(bV news)[j]?=some y→w.cell? (ad.add j)=some y:=fun j y hj=>by
      rw [zAd] at hj
      cases hu:news[j]? with
      | none=>rw [hu] at hj;cases hj
      | some u =>
        rw [hu] at hj
        have hjl:j < news.length:=by
         rcases Nat.lt_or_ge j news.length with h' | h'
         · exact h'
         · rw [List.getElem?_eq_none h'] at hu;cases hu
        obtain ⟨b,off,e,hc⟩:=hcell (by omega)
        cases e
        rw [show (⟨b,off,none⟩:Addr).add j=⟨b,off+j,none⟩ from by
         unfold Addr.add
         split
         · subst_vars;rfl
         · rfl]
        rw [hc j u hu]
        simpa using hj
     by_cases hroom:bs.length+news.length≤cap
     · have hr:=zED (P:=P) (w:=w) t ty e i E.under hi hsz g bs.length cap arr fz hg hfz ad news.length xcap (bV news) (zG _) hnews (zAQ _) hroom (by rw [zG];omega)
       refine ⟨_,_,hr,.inr ⟨g,cap,_,fz,by rw [List.length_append],hbg,setRow_heap w g arr _ e _ hg,?_,by rw [List.length_append];exact hroom,hcm,?_,fun j u hj=>?_,zBx.2 fun y hy=>?_⟩,⟨rfl,rfl,rfl,by simp,fun k _ hk=>setRow_other w g k _ (fun e=>hk (by simp [Value.ownBlock,e]))⟩⟩
       · rcases hfz with h | h
         · exact .inl h
         · refine .inr ?_
           simp only [List.size_toArray,List.length_append,List.length_take,List.length_drop,Array.length_toList,zG]
           omega
       · simp only [List.size_toArray,List.length_append,List.length_take,List.length_drop,Array.length_toList,zG]
         omega
       · rw [List.getElem?_toArray]
         by_cases hjb:j < bs.length
         · rw [List.getElem?_append_left hjb] at hj
           rw [List.append_assoc,List.getElem?_append_left (by simp;omega),List.getElem?_take,if_pos hjb]
           simpa using hcells j u hj
         · rw [List.getElem?_append_right (by omega)] at hj
           have hjn:j - bs.length < news.length:=by
            rcases Nat.lt_or_ge (j - bs.length) news.length with h' | h'
            · exact h'
            · rw [List.getElem?_eq_none h'] at hj;cases hj
           have htl:(arr.toList.take bs.length).length=bs.length:=by simp;omega
           rw [List.append_assoc,List.getElem?_append_right (by rw [htl];omega),htl,List.getElem?_append_left (by rw [zG];exact hjn),zAd,hj]
           rfl
       · have h6:=zBx.1 hbyt
         simp only [List.mem_append] at hy
         rcases hy with (hy | hy) | hy
         · exact h6 y (List.mem_of_mem_take hy)
         · exact zDN _ y hy
         · exact h6 y (List.mem_of_mem_drop hy)
     · have hr:=run_append_grow (P:=P) w t ty e i (.int .u8 0) E.under hi hz ⟨g,0,none⟩ bs.length cap (bV bs) (by rw [zG,hsz];omega) holds ad news.length xcap (bV news) hlen hnews (by omega) (by omega) (growslice_fits (by omega) (by rw [hby];omega))
       have hge:=grownCap_ge w (bs.length+news.length) cap e
       have hcm2:grownCap w (bs.length+news.length) cap e≤maxLen:=grownCap_le_maxLen w (bs.length+news.length) cap e (by unfold maxLen;omega)
       refine ⟨_,_,hr,.inr ⟨w.heap.size,_,_,(0,0),by rw [List.length_append],hbase,heap_alloc_new w.drew _,.inl rfl,by rw [List.length_append];exact hge,hcm2,?_,fun j u hj=>?_,zBx.2 fun y hy=>?_⟩,⟨rfl,rfl,rfl,by simp,fun k hk _=>heap_alloc_old w.drew _ hk⟩⟩
       · simp only [Array.size_append,List.size_toArray,size_zeroCells,zG]
         rw [show (Value.cells (.int .u8 0)).size=1 from rfl]
         omega
       · have:((bV bs++bV news))[j]?=some (.int .u8 ((u.toNat:Nat):Int)):=by rw [← zIh,zAd,hj];rfl
         have hjl:j < (bV bs++bV news).length:=by
          rcases Nat.lt_or_ge j (bV bs++bV news).length with h' | h'
          · exact h'
          · rw [List.getElem?_eq_none h'] at this;cases this
         rw [Array.getElem?_append_left (by simpa using hjl)]
         simpa using this
       · simp only [Array.toList_append,List.mem_append] at hy
         rcases hy with (hy | hy) | hy
         · exact zDN _ y (by simpa using hy)
         · exact zDN _ y (by simpa using hy)
         · exact zEr _ y hy
theorem zLg {t e:TypeId} (E:Elem P t e (.int .u8 0) 1) (s x:Operand) (ho:o.op=.call { callee:=.builtin .append,args:=#[s,x],argTypes:=#[t,t] })
  {base:Nat} {v xv:Value} {bs news:List UInt8} (hs:a.eval s=v) (hx:a.eval x=xv) (hown:zP e w base v bs) (hb:Bys w xv news) (hn:bs.length+news.length≤140737488355328) (hbase:base≤w.heap.size)
  (h:∀ v' w',zP e w' base v' (bs++news)∧w.grownBy w' v.ownBlock→K (a.put o.dst v') w'):o.wp P a w K Q:=by
 obtain ⟨v',w',hr,h2,h3⟩:=zIE E o.type hown hb hn hbase
 unfold Oper.wp execOp
 simp only [ho,resolve,invoke,builtin,Sem.run_bind,Sem.run_pure,Result.andThen_ok,List.map_toArray,List.map_cons,List.map_nil,hs,hx,hr]
 exact h v' w' ⟨h2,h3⟩
theorem zBL {t e:TypeId} (E:Elem P t e (.int .u8 0) 1) (hgd:o.guard=none) (s x:Operand) (ho:o.op=.call { callee:=.builtin .append,args:=#[s,x],argTypes:=#[t,t] })
  {base:Nat} {v xv:Value} {bs news:List UInt8} (hs:a.eval s=v) (hx:a.eval x=xv) (hown:zP e w base v bs) (hb:Bys w xv news) (hn:bs.length+news.length≤140737488355328) (hbase:base≤w.heap.size)
  (h:∀ v' w',zP e w' base v' (bs++news)→w.grownBy w' v.ownBlock→wpList P ops Q rest (a.put o.dst v') w'):wpList P ops Q (o::rest) a w :=
 zCW hgd (fun _ hK=>zLg E s x ho hs hx hown hb hn hbase hK) fun v' w' h2=>h v' w' h2.1 h2.2
theorem zIK {t e:TypeId} (E:Elem P t e (.int .u8 0) 1) (hgd:o.guard=none) (s x:Operand) (ho:o.op=.call { callee:=.builtin .append,args:=#[s,x],argTypes:=#[t,t] })
  {base:Nat} {v xv:Value} {bs news:List UInt8} (hs:a.eval s=v) (hx:a.eval x=xv) (hown:zP e w base v bs) (hb:Bys w xv news) (hn:bs.length+news.length≤140737488355328) (hbase:base≤w.heap.size)
  (h:∀ v' w',zP e w' base v' (bs++news)→w.grownBy w' v.ownBlock→K (a.put o.dst v') w'):if Region.wanted o (yielded ops a.tmps)=true then Oper.wp P o a w K Q else E0 :=
 zG7 hgd (fun _ hK=>zLg E s x ho hs hx hown hb hn hbase hK) fun v' w' h2=>h v' w' h2.1 h2.2
theorem zN {w0 w':World} {row:Option Nat} (hb:Below w0.heap.size w0 w) (h:w.grownBy w' row) (hr:∀ k,row=some k→w0.heap.size≤k):Below w0.heap.size w0 w' :=
 ⟨h.os.trans hb.os,h.tape.trans hb.tape,h.output.trans hb.output,Nat.le_trans hb.size h.size,fun k hk=>(h.block k (Nat.lt_of_lt_of_le hk hb.size) fun e=>by have:=hr k e.symm;omega).trans (hb.block k hk)⟩
end
end Go.Mem
end
section
namespace Go.Proofs.YtdlkghdfkjdajaaGreatDoor
open Go Go.RowKit Go.Mem Gf
attribute [local go_sem ↓] Go.wp_at_zero Go.wp_at_succ
set_option maxRecDepth 20000 in
theorem zLy (g u:Nat) (hg:g*256+u < 72057594037927936) (hu:u < 256):bits .or .i64 ((g:Int)*256) (u:Int)=((g*256+u:Nat):Int):=by
 have h0:((g:Int)*256)=((g*256:Nat):Int):=by omega
 have h1:g*256 % 2 ^ IntKind.bits .i64=g*256:=Nat.mod_eq_of_lt (show g*256 < 18446744073709551616 by omega)
 have h2:u % 2 ^ IntKind.bits .i64=u:=Nat.mod_eq_of_lt (show u < 18446744073709551616 by omega)
 rw [h0]
 simp only [bits,BitVec.ofInt_natCast,BitVec.toNat_or,BitVec.toNat_ofNat,h1,h2]
 have e:g*256 ||| u=g*256+u:=by
  have:=Nat.two_pow_add_eq_or_of_lt (i:=8) hu g
  rw [Nat.mul_comm g 256];exact this.symm
 rw [e]
 exact IntWalk.i64_in _ (by omega)
theorem E8c:Elem Tryz.prog 41 5 (.int .u8 0) 1:=⟨Tryz.underlying41,by kernel_rfl,rfl⟩
theorem zCl {w:World} {v:Value} {bs:List UInt8} (h:Bys w v bs):(convert 41 9 v).run Tryz.prog w=.ok (.string ⟨bs.toArray⟩) w:=by
 obtain ⟨a,cap,rfl,h1,h2,h3⟩:=h
 rcases Nat.eq_zero_or_pos bs.length with h0 | h0
 · rw [h0,List.eq_nil_of_length_eq_zero h0]
   rw [run_convert_bytes_string w 41 9 5 _ 0 cap Tryz.underlying41 Tryz.underlying5 Tryz.underlying9]
   cases a <;> simp [Conv.bytesToString,loadCells]
   all_goals rfl
 · obtain ⟨b,off,rfl,hc⟩:=h3 h0
   have:=run_convert_bytes_arg (P:=Tryz.prog) w 41 5 Tryz.underlying41 Tryz.underlying5 b off bs.length cap (bs.map fun u=>((u.toNat:Nat):Int)) (by simp) (fun i hi=>by
    rw [hc i bs[i] (by simp [hi])]
    simp [List.getD,hi]) 9 Tryz.underlying9
   have e:(bs.map fun u:UInt8=>((u.toNat:Nat):Int)).map (fun n=>UInt8.ofNat n.toNat)=bs:=by
    rw [List.map_map]
    exact (List.map_congr_left (fun u _=>by simp)).trans (List.map_id bs)
   rw [this]
   unfold strOfNums
   rw [e]
theorem zHw {w:World} {base b m:Nat} {f:Nat→UInt8} (h:Blk w b (zW m f) 5) (hb:base≤b) (hm:m≤9223372036854775807):zBv 5 w base (.slice (some ⟨b,0,none⟩) m m) (zBw m f) :=
 ⟨Blk.own h hb hm,fun g hg=>by simp [Value.ownBlock] at hg;subst hg;exact ⟨_,h,zLs _ _⟩⟩
def Tab (w : World) : Prop := Lib.TabIs Tryz.prog w "internal/strconv.uint64pow10" .u64 Lib.pow10Tab
noncomputable def gT : Nat := (Tryz.prog.globalNamed "internal/strconv.uint64pow10").getD 0
theorem zK1 : Tryz.prog.globalNamed "internal/strconv.uint64pow10" = some gT := by kernel_rfl
theorem Tab.lt {w:World} (h:Tab w):gT < w.heap.size:=by
 unfold Tab Lib.TabIs World.var? at h
 rw [zK1] at h
 rcases Nat.lt_or_ge gT w.heap.size with h' | h'
 · exact h'
 · simp [Array.getElem?_eq_none h'] at h
theorem Tab.kept {w w':World} (h:Tab w) (hk:w'.heap[gT]?=w.heap[gT]?):Tab w':=by
 unfold Tab Lib.TabIs World.var? at *
 rw [zK1] at *
 simp only [Option.bind_some] at *
 rw [hk];exact h
theorem Tab.chg {S:Nat→Prop} {w w':World} (h:Tab w) (hc:Chg S w w') (hs:¬ S gT):Tab w':=h.kept (hc.block _ h.lt hs)
theorem Tab.below {w w':World} (h:Tab w) (hb:Below w.heap.size w w'):Tab w':=h.kept (hb.block _ h.lt)
theorem Tab.drewN {w:World} (h:Tab w) (n:Nat):Tab (w.drewN n):=h
theorem zJl (w n:Nat):zBw w (fun j=>UInt8.ofNat (n / 256 ^ (w - 1 - j)))=Cod.be w n:=by
 apply List.ext_getElem?
 intro i
 by_cases h:i < w
 · rw [zBb _ _ _ h,Cod.zD5 _ _ _ h]
 · rw [List.getElem?_eq_none (by rw [zA4];omega),List.getElem?_eq_none (by rw [Cod.zt];omega)]
set_option maxRecDepth 20000 in
set_option maxHeartbeats 1000000 in
theorem zKX (n:Nat) (m:Nat) (hn:n≤9223372036854775807) (h1:1≤m) (hm:m≤8) (w:World) :
  Calls Tryz.prog 38 #[.int .i64 n,.int .i64 m] w fun e w'=>∃ v,e=.returned v∧zBv 5 w' w.heap.size v (Cod.be m n)∧Below w.heap.size w w':=by
 have hmk:∀ w,(Instr.makeSlice 41 (.int .i64 (m:Int)) (.int .i64 (m:Int))).run Tryz.prog w=.ok (.slice (some ⟨w.heap.size,0,none⟩) m m) (w.alloc (.cells (zW m fun _=>0) 5)):=fun w=>by
  have:=zDQ (P:=Tryz.prog) 41 5 Tryz.underlying41 E8k m (by omega) w
  rw [zB1] at this
  exact this
 have hmx:max 0 (min (m:Int) 8)=m:=by omega
 have hB0:Blk (w.alloc (.cells (zW m fun _=>0) 5)) w.heap.size (zW m fun _=>0) 5:=Blk.new _ _ _
 go_enter Tryz.func38,Tryz.ntmps38
 go_wp2_with fail
 go_loopw [6,7] (fun u v wr=>∃ (k j:Nat),k+j=m∧u=.int .u64 ((n / 256 ^ k:Nat):Int)∧v=.int .i64 ((j:Int) - 1)∧Blk wr w.heap.size (zW m fun x=>if j≤x then UInt8.ofNat (n / 256 ^ (m - 1 - x)) else 0) 5∧Below w.heap.size w wr) (fun _ v _=>(intOf v+1).toNat)
 case atStart=>exact ⟨0,m,by omega,by simp,rfl,by rw [zBh (m:=m) (f:=fun x=>if m≤x then UInt8.ofNat (n / 256 ^ (m - 1 - x)) else 0) (g:=fun _=>0) (fun x hx=>if_neg (by omega))];exact hB0,(Below.refl _ _).alloc (Nat.le_refl _) _⟩
 case round =>
  clear hB0 hmk
  obtain ⟨k,j,hkj,rfl,rfl,hB,hb⟩:=hrel
  by_cases h0:1≤j
  · obtain ⟨i,rfl⟩:∃ i,j=i+1:=⟨j - 1,by omega⟩
    have e1:((i+1:Nat):Int) - 1=(i:Int):=by omega
    rw [e1]
    have c1:wr.cell? ⟨w.heap.size,i,none⟩=some (.int .u8 0):=by rw [hB.cell,zAN _ _ _ (by omega),if_neg (by omega)];rfl
    have f1:=hB.free i
    obtain ⟨q,hq⟩:∃ q,q=n / 256 ^ k:=⟨_,rfl⟩
    have hq1:q≤9223372036854775807:=by rw [hq];exact Nat.le_trans (Nat.div_le_self _ _) hn
    rw [← hq]
    have Hq:=Lib.hid hq;have HB:=Lib.hid hB
    clear hq hB
    go_wp2
    refine ⟨⟨k+1,i,by omega,?_,rfl,?_,hb.setCell (Nat.le_refl _) _⟩,by simp [intOf] <;> omega⟩
    · rw [Nat.pow_succ,← Nat.div_div_eq_div_mul,← Hq.out];congr 1
    · have:=HB.out.set i (.int .u8 (((UInt8.ofNat q).toNat:Nat):Int))
      rw [zFT] at this
      rw [show ((q:Int) % 256)=(((UInt8.ofNat q).toNat:Nat):Int) from by rw [UInt8.toNat_ofNat'];rfl]
      rw [← zBh (m:=m) (f:=fun x=>if x=i then UInt8.ofNat q else if i+1≤x then UInt8.ofNat (n / 256 ^ (m - 1 - x)) else 0) (fun x hx=>?_)]
      · exact this
      · by_cases e:x=i
        · subst e;rw [if_pos rfl,if_pos (Nat.le_refl _),Hq.out,show m - 1 - x=k from by omega]
        · rw [if_neg e]
          by_cases e2:i+1≤x
          · rw [if_pos e2,if_pos (by omega)]
          · rw [if_neg e2,if_neg (by omega)]
  · obtain rfl:j=0:=by omega
    go_wp2
    go_ret
    refine ⟨_,rfl,?_,hb⟩
    have:=zHw (base:=w.heap.size) hB (Nat.le_refl _) (by omega)
    rw [← zJl,zFU (g:=fun x=>if 0≤x then UInt8.ofNat (n / 256 ^ (m - 1 - x)) else 0) (fun x hx=>(if_pos (Nat.zero_le _)).symm)]
    exact this
theorem zFK (n:Nat) (m:Nat) (hn:n≤9223372036854775807) (h1:1≤m) (hm:m≤8) (w:World) :
  Calls Tryz.prog 38 #[.int .i64 n,.int .i64 m] w fun e w'=>∃ v,e=.returned v∧zP 5 w' w.heap.size v (Cod.be m n)∧Below w.heap.size w w' :=
 (zKX n m hn h1 hm w).mono fun _ _ ⟨v,he,h2,h3⟩=>⟨v,he,h2.x,h3⟩
set_option maxRecDepth 100000 in
set_option maxHeartbeats 1000000 in
theorem zLu (v:Value) (bs:List UInt8) (w:World) (h:Bys w v bs) (hl:7 < bs.length) :
  Calls Tryz.prog 67 #[v] w fun e w'=>e=.returned (.tuple #[.int .i64 0,.bool false])∧w=w':=by
 have hm:=h.len
 obtain ⟨a,c,rfl⟩:=h.eq_slice
 obtain ⟨l,hl'⟩:∃ l,l=bs.length:=⟨_,rfl⟩
 rw [← hl'] at hl hm ⊢
 clear hl' h
 go_enter Tryz.func67,Tryz.ntmps67
 go_wp2
 go_ret2
 exact ⟨rfl,rfl⟩
set_option maxRecDepth 100000 in
set_option maxHeartbeats 1000000 in
theorem zF1 (v:Value) (bs:List UInt8) (w:World) (h:Bys w v bs) (hl:bs.length≤7) :
  Calls Tryz.prog 67 #[v] w fun e w'=>e=.returned (.tuple #[.int .i64 (Cod.zAh bs:Nat),.bool true])∧w=w':=by
 obtain ⟨a,c,rfl⟩:=h.eq_slice
 obtain ⟨l,hl'⟩:∃ l,l=bs.length:=⟨_,rfl⟩
 rw [← hl'] at hl h ⊢
 have Hl:=Lib.hid hl'
 clear hl'
 go_enter Tryz.func67,Tryz.ntmps67
 have t7:decide ((7:Int) < (l:Int))=false:=by simp;omega
 go_wp2
 go_loop [4,12] (fun u v=>∃ i:Nat,i≤l∧u=.int .i64 (Cod.zAh (bs.take i):Nat)∧v=.int .i64 i) (fun _ v=>l - (intOf v).toNat)
 case atStart=>exact ⟨0,by omega,rfl,rfl⟩
 case round =>
  obtain ⟨i,hi,rfl,rfl⟩:=hrel
  by_cases h0:i < l
  · obtain ⟨b,o,u,rfl,Hu,c1,hu⟩:=h.at i (by have:=Hl.out;omega)
    have i0:(0:Int)≤(i:Int):=by omega
    have i1:(i:Int) < (l:Int):=by omega
    have Hs:=Lib.hid (show Cod.zAh (bs.take (i+1))=Cod.zAh (bs.take i)*256+u.toNat from by
     rw [List.take_add_one,Hu.out];exact Cod.zE0 _ _ _)
    have hg:=Cod.zBV (bs.take i) (by rw [List.length_take];omega)
    have hg2:=Cod.zBV (bs.take (i+1)) (by rw [List.length_take];omega)
    rw [Hs.out] at hg2
    obtain ⟨g,hgg⟩:∃ g,g=Cod.zAh (bs.take i):=⟨_,rfl⟩
    rw [← hgg] at hg hg2 ⊢
    have Hg:=Lib.hid hgg
    clear hgg
    have ho:=zLy g u.toNat hg2 hu
    go_wp2
    exact ⟨⟨i+1,by omega,by rw [Hs.out,← Hg.out];exact congrArg (Value.int .i64) (by push_cast;rfl),by go_num⟩,by simp [intOf];omega⟩
  · obtain rfl:i=l:=by omega
    have e:bs.take i=bs:=List.take_of_length_le (by have:=Hl.out;omega)
    rw [e]
    clear e
    go_wp2
    go_ret2
    exact ⟨rfl,rfl⟩
theorem zIq (w:World) (k:Nat) (os:Array Obj):Below w.heap.size w (Sort.grow (w.drewN k) os) :=
 ⟨rfl,rfl,rfl,by show w.heap.size≤(w.heap++os).size;simp,fun j hj=>by show (w.heap++os)[j]?=_;rw [Array.getElem?_append_left hj]⟩
theorem zAv (w:World) (u:UInt8) (x:Value) (hx:x=.int .u8 ((u.toNat:Nat):Int)) (t:TypeId):Bys (w.alloc (.cells #[x] t)) (.slice (some ⟨w.heap.size,0,none⟩) 1 1) [u] :=
 (Blk.new w #[x] t).bys (bs:=[u]) (Nat.le_refl _) (zAC (by decide)) fun i v hi=>by
  cases i with
  | zero=>simp at hi;subst hi;rw [hx];rfl
  | succ i=>simp at hi
theorem zAw (l:Nat) (h:l≤100000000):(Lib.itoa (l:Int)).length≤9:=by
 rw [Lib.itoa_nonneg,Lib.decDigits_length]
 have:∀ k u,u < 10 ^ (k+1)→Lib.nDigits u≤k+1:=by
  intro k
  induction k with
  | zero=>intro u hu;rw [Lib.nDigits_small (by simpa using hu)];exact Nat.le_refl _
  | succ k ih =>
    intro u hu
    by_cases h:u < 10
    · rw [Lib.nDigits_small h];omega
    · rw [Lib.nDigits_big h]
      have:=ih (u / 10) (by rw [Nat.pow_succ] at hu;omega)
      omega
 exact this 8 l (by omega)
set_option maxRecDepth 100000 in
set_option maxHeartbeats 1000000 in
theorem zF9 (v:Value) (bs:List UInt8) (w:World) (hT:Tab w) (h:Bys w v bs) (hl:bs.length≤100000000) :
  Calls Tryz.prog 112 #[v] w fun e w'=>∃ v',e=.returned v'∧zP 5 w' w.heap.size v' (Cod.net bs)∧Below w.heap.size w w':=by
 obtain ⟨a,c,rfl⟩:=h.eq_slice
 obtain ⟨l,hl'⟩:∃ l,l=bs.length:=⟨_,rfl⟩
 have hd:=zAw bs.length hl
 have Hn:=Lib.hid (show Cod.net bs=Lib.itoa (bs.length:Nat)++[58]++bs++[44] from rfl)
 rw [← hl'] at hl h hd Hn ⊢
 have Hl:=Lib.hid hl'
 clear hl'
 go_enter Tryz.func112,Tryz.ntmps112
 go_wp2_with fail
 refine (Tryz.strconv_Itoa l (by omega) (by omega) w hT).mono ?_
 rintro e w1 ⟨rfl,k,os,hw1⟩
 have hb1:Below w.heap.size w w1:=by rw [hw1];exact zIq _ _ _
 clear hw1 hT
 obtain ⟨s,hs⟩:∃ s:ByteArray,s=⟨(Lib.itoa (l:Int)).toArray⟩:=⟨_,rfl⟩
 have hsl:s.data.toList=Lib.itoa (l:Int):=by rw [hs]
 have hss:s.size≤9:=by rw [hs];simpa [ByteArray.size] using hd
 rw [← hs]
 have hconv:=Lib.run_convert_string_bytes (P:=Tryz.prog) w1 9 41 5 s Tryz.underlying9 Tryz.underlying41 Tryz.underlying5
 obtain ⟨ho,hb2⟩:=zBl w1 5 s (zAC (by omega))
 obtain ⟨w2,hw2⟩:∃ w2,w2=Lib.bytesWorld w1 5 s:=⟨_,rfl⟩
 rw [← hw2] at ho hb2 hconv
 rw [hsl] at ho
 have hbw2:Below w.heap.size w w2:=hb1.trans (hb2.mono hb1.size)
 have Hs:=Lib.hid hs;have Hsl:=Lib.hid hsl
 have hs1:=hb1.size
 have hs2:=hb2.size
 clear hs hsl hw2
 have hlen:(Lib.itoa (l:Int)).length≤9:=hd
 go_wp2_with (at_builtin;refine zBL E8c rfl _ _ rfl (base:=w.heap.size) (bs:=Lib.itoa (l:Int)) (news:=[58]) rfl rfl ((ho.mono hs1).alloc _) (zAv _ 58 _ rfl _) ?q1 ?q2 ?_)
 case q1=>simp;omega
 case q2=>simp;omega
 intro v3 w3 ho3 hg3
 have hb3:=zN (hbw2.alloc hbw2.size _) hg3 (fun k hk=>by simp [Value.ownBlock] at hk;omega)
 have hs3:=hb3.size
 have hlt3:=ho3.lt
 clear hconv ho hb2 hg3 hbw2
 go_wp2_with (at_builtin;refine zBL E8c rfl _ _ rfl (base:=w.heap.size) (news:=bs) rfl rfl ho3 (h.below hb3) ?q3 ?q4 ?_)
 case q3=>have:=Hl.out;simp;omega
 case q4=>exact hs3
 intro v4 w4 ho4 hg4
 have hb4:=zN hb3 hg4 (fun k hk=>(hlt3 k hk).1)
 have hs4:=hb4.size
 have hlt4:=ho4.lt
 clear hg4 ho3 hb3
 go_wp2_with (at_builtin;refine zBL E8c rfl _ _ rfl (base:=w.heap.size) (news:=[44]) rfl rfl (ho4.alloc _) (zAv _ 44 _ rfl _) ?q5 ?q6 ?_)
 case q5=>have:=Hl.out;simp;omega
 case q6=>simp;omega
 intro v5 w5 ho5 hg5
 have hb5:=zN (hb4.alloc hs4 _) hg5 (fun k hk=>(hlt4 k hk).1)
 clear hg5 ho4 hb4
 go_wp2
 go_ret
 exact ⟨v5,rfl,by rw [Hn.out];simpa using ho5,hb5⟩
theorem zGk (rows:List (List UInt8)):∀ i,(Cod.zAU (rows.take i)).length≤(Cod.zAU rows).length:=by
 induction rows with
 | nil=>intro i;simp
 | cons a l ih =>
   intro i
   cases i with
   | zero=>simp [Cod.zAU]
   | succ i=>simp only [List.take_succ_cons,Cod.zAU,List.length_append];have:=ih i;omega
theorem zEL {rows:List (List UInt8)} {i:Nat} {b:List UInt8} (h:rows[i]?=some b):(Cod.zAU (rows.take i)).length+(Cod.net b).length≤(Cod.zAU rows).length:=by
 have:=zGk rows (i+1)
 rw [List.take_add_one,h] at this
 simp only [Option.toList_some] at this
 rw [Cod.zC2,List.length_append] at this
 exact this
set_option maxRecDepth 100000 in
set_option maxHeartbeats 1000000 in
theorem zFB (v:Value) (rows:List (List UInt8)) (w:World) (hT:Tab w) (h:Rws w v rows) (hl:(Cod.zAU rows).length≤100000000) :
  Calls Tryz.prog 99 #[v] w fun e w'=>∃ v',e=.returned v'∧zP 5 w' w.heap.size v' (Cod.zAU rows)∧Below w.heap.size w w':=by
 have hrl:=h.len
 obtain ⟨a,c,rfl⟩:=h.eq_slice
 obtain ⟨n,hn⟩:∃ n,n=rows.length:=⟨_,rfl⟩
 rw [← hn] at h hrl ⊢
 have Hn:=Lib.hid hn
 clear hn
 go_enter Tryz.func99,Tryz.ntmps99
 go_wp2_with fail
 go_loopw [3,8] (fun u v wr=>∃ i:Nat,i≤n∧v=.int .i64 i∧zP 5 wr w.heap.size u (Cod.zAU (rows.take i))∧Below w.heap.size w wr) (fun _ v _=>n - (intOf v).toNat)
 case atStart=>exact ⟨0,by omega,rfl,zP.nil _ _ _,Below.refl _ _⟩
 case round =>
  obtain ⟨i,hi,rfl,ho,hb⟩:=hrel
  by_cases h0:i < n
  · obtain ⟨b,o,bs,va,rfl,hr,c1,hrow⟩:=(h.below hb).at i (by have:=Hn.out;omega)
    have i0:(0:Int)≤(i:Int):=by omega
    have i1:(i:Int) < (n:Int):=by omega
    have hle:=zEL hr.out
    have hnl:=Cod.zAL bs
    have hs:=hb.size
    have hlt:=ho.lt
    have Hfin:=Lib.hid (show Cod.zAU (rows.take (i+1))=Cod.zAU (rows.take i)++Cod.net bs from by rw [List.take_add_one,hr.out];exact Cod.zC2 _ _)
    go_wp2_with fail
    refine (zF9 va bs wr (hT.below hb) hrow (by omega)).mono ?_
    rintro e w2 ⟨v2,rfl,ho2,hb2⟩
    go_wp2_with (at_builtin;refine zBL E8c rfl _ _ rfl (base:=w.heap.size) (news:=Cod.net bs) rfl rfl (ho.below hb2) ho2.bys ?q1 ?q2 ?_)
    case q1=>omega
    case q2=>have:=hb2.size;omega
    intro v3 w3 ho3 hg3
    have hb3:=zN (hb.trans (hb2.mono hs)) hg3 (fun k hk=>(hlt k hk).1)
    rw [← Hfin.out] at ho3
    clear hg3 ho2 hb2 hle hnl
    go_wp2
    exact ⟨⟨i+1,by omega,by go_num,ho3,hb3⟩,by simp [intOf] <;> omega⟩
  · obtain rfl:i=n:=by omega
    have e:rows.take i=rows:=List.take_of_length_le (by have:=Hn.out;omega)
    rw [e] at ho
    go_wp2
    go_ret
    exact ⟨_,rfl,ho,hb⟩
theorem zC1 {bs:List UInt8} {d:Nat} {u:UInt8} (h:bs[d]?=some u):bs.drop d=u::bs.drop (d+1):=by
 have hd:d < bs.length:=by
  rcases Nat.lt_or_ge d bs.length with h' | h'
  · exact h'
  · rw [List.getElem?_eq_none h'] at h;cases h
 rw [List.drop_eq_getElem_cons hd]
 rw [List.getElem?_eq_getElem hd] at h
 cases h;rfl
set_option maxRecDepth 20000 in
set_option maxHeartbeats 1000000 in
theorem zFY (v:Value) (bs:List UInt8) (w:World) (h:Bys w v bs) :
  Calls Tryz.prog 107 #[v] w fun e w'=>e=.returned (.tuple #[.int .i64 ((Cod.size bs).1:Nat),.int .i64 ((Cod.size bs).2:Nat)])∧w=w':=by
 have hrl:=h.len
 obtain ⟨a,c,rfl⟩:=h.eq_slice
 obtain ⟨l,hl'⟩:∃ l,l=bs.length:=⟨_,rfl⟩
 rw [← hl'] at h hrl ⊢
 have Hl:=Lib.hid hl'
 clear hl'
 go_enter Tryz.func107,Tryz.ntmps107
 go_wp2
 go_loop [2,3] (fun u v=>∃ n d:Nat,d≤l∧n≤163849∧u=.int .i64 n∧v=.int .i64 d∧Hid (Cod.size bs=Cod.zAD (bs.drop d) n d)) (fun _ v=>l - (intOf v).toNat)
 case atStart=>exact ⟨0,0,by omega,by omega,rfl,rfl,rfl⟩
 case round =>
  obtain ⟨n,d,hd,hn,rfl,rfl,Hz⟩:=hrel
  by_cases h0:d < l
  · obtain ⟨b,o,u,rfl,Hu,c1,hu⟩:=h.at d (by have:=Hl.out;omega)
    have i0:(0:Int)≤(d:Int):=by omega
    have i1:(d:Int) < (l:Int):=by omega
    by_cases hc:48≤u.toNat∧u.toNat≤57∧n≤16384
    · obtain ⟨h1,h2,h3⟩:=hc
      have Hfin:=Lib.hid (show Cod.size bs=Cod.zAD (bs.drop (d+1)) (10*n+(u.toNat - 48)) (d+1) from by rw [Hz.out];exact Cod.zIG (zC1 Hu.out) ⟨h1,h2,h3⟩)
      go_wp2
      exact ⟨⟨10*n+(u.toNat - 48),d+1,by omega,by omega,congrArg (Value.int .i64) (by omega),by go_num,Hfin.out⟩,by simp [intOf] <;> omega⟩
    · have Hfin:=Lib.hid (show Cod.size bs=(n,d) from by rw [Hz.out];exact Cod.zEU fun c r e=>by rw [zC1 Hu.out] at e;injection e with e _;subst e;exact hc)
      have h1:(u.toNat < 48)∨(48≤u.toNat∧57 < u.toNat)∨(48≤u.toNat∧u.toNat≤57∧16384 < n):=by omega
      clear hc
      rcases h1 with h1 | ⟨h1,h2⟩ | ⟨h1,h2,h3⟩
      all_goals
       go_wp2
       go_ret2
       exact ⟨by rw [Hfin.out];rfl,rfl⟩
  · obtain rfl:d=l:=by omega
    go_wp2
    go_ret2
    have e:=Hz.out
    rw [List.drop_eq_nil_of_le (by have:=Hl.out;omega)] at e
    exact ⟨by rw [e];rfl,rfl⟩
theorem zCD {w:World} {b o n c:Nat} {bs:List UInt8} (h:Bys w (.slice (some ⟨b,o,none⟩) n c) bs) (k m c':Nat) (hk:k+m≤bs.length) (hc:m≤c') (hm:c'≤maxLen):Bys w (.slice (some ⟨b,o+k,none⟩) m c') ((bs.drop k).take m):=by
 obtain ⟨a,cap,e,h1,h2,h3⟩:=h
 injection e with e1 e2 e3
 have hl:((bs.drop k).take m).length=m:=by simp;omega
 refine ⟨_,c',by rw [hl],by rw [hl];exact hc,hm,fun hp=>?_⟩
 rw [hl] at hp
 obtain ⟨b',o',e',hc'⟩:=h3 (by omega)
 rw [← e1] at e'
 cases e'
 refine ⟨b,o+k,rfl,fun i u hi=>?_⟩
 have him:i < m:=by
  rcases Nat.lt_or_ge i m with h' | h'
  · exact h'
  · rw [List.getElem?_eq_none (by rw [hl];exact h')] at hi;cases hi
 rw [List.getElem?_take,if_pos him,List.getElem?_drop] at hi
 rw [Nat.add_assoc]
 exact hc' _ u hi
end Go.Proofs.YtdlkghdfkjdajaaGreatDoor
end
section
namespace Go.Tail
open Go
def zK2 (P:Program) (C':World→Prop) (v:Value):Result Next→Prop
 | .ok (.value u) w'=>C' w'∧u=v
 | .ok .skip w'=>C' w'∧v=undef
 | .ok (.enter f args) w'=>Calls P f args w' (fun e w''=>e=.returned v∧C' w'')
 | _=>False
def goesAt (P:Program) (o:Oper) (a:Act) (C':World→Prop) (w:World) (v:Value):Prop:=zK2 P C' v ((execOp a.eval o).run P w)
section
variable {P:Program} {ops:Array Oper} {md:Region.Mode} {U:Bool→World→Prop} {j0:Nat}
def YG (P:Program) (ops:Array Oper) (U:Bool→World→Prop) (j0 i:Nat) (o:Oper) (v:Value) (a:Act):Prop :=
 (Region.wanted o (yielded ops a.tmps)=true∧∀ b:Bool,(i=j0→b=false)→∀ w,U b w→goesAt P o a (U (if i=j0 then true else b)) w v) ∨
 (Region.wanted o (yielded ops a.tmps)=false∧v=undef∧i≠j0)
def Hd (P:Program) (md:Region.Mode) (ops:Array Oper) (U:Bool→World→Prop) (j0 n:Nat) (L:Array Bool→Act→Prop):Nat→Array Bool→Act→Prop
 | 0,listed,a=>L listed a
 | f+1,listed,a=>Region.ready md ops listed≠[]∧∀ i,i∈Region.ready md ops listed→i < n∧∃ oi v,ops[i]?=some oi∧YG P ops U j0 i oi v a∧Hd P md ops U j0 n L f (listed.setIfInBounds i true) (a.put oi.dst v)
end
end Go.Tail
end
section
namespace Go.Tail
open Go
section
variable {P:Program} {ops:Array Oper} {md:Region.Mode} {C:World→Prop} {R:Value→World→Prop} {j0:Nat} {z:Value}
def YA (P:Program) (ops:Array Oper) (C:World→Prop) (R:Value→World→Prop) (j0:Nat) (z:Value) (i:Nat) (o:Oper) (v:Value) (a:Act):Prop :=
 (i≠j0∧Region.wanted o (yielded ops a.tmps)=true∧(∀ w,C w→(execOp a.eval o).run P w=.ok (.value v) w)∧(∀ w,R z w→(execOp a.eval o).run P w=.ok (.value v) w)) ∨
 (i≠j0∧Region.wanted o (yielded ops a.tmps)=false∧v=undef) ∨
 (i=j0∧v=z∧Region.wanted o (yielded ops a.tmps)=true∧∀ w,C w→∃ f args,(execOp a.eval o).run P w=.ok (.enter f args) w∧Calls P f args w fun e w'=>∃ v',e=.returned v'∧R v' w')
theorem YA.of_same {i:Nat} {o:Oper} {v:Value} {a a':Act} (h:YA P ops C R j0 z i o v a) (he:execOp a'.eval o=execOp a.eval o)
  (hw:Region.wanted o (yielded ops a'.tmps)=Region.wanted o (yielded ops a.tmps)):YA P ops C R j0 z i o v a':=by
 unfold YA at *
 rw [he,hw]
 exact h
theorem YA.put {i:Nat} {oi oj:Oper} {v u:Value} {a:Act} (h:YA P ops C R j0 z i oi v a) (hap:oi.apart ops oj=true) (hsi:∀ cs b,oi.op≠.select cs b):YA P ops C R j0 z i oi v (a.put oj.dst u):=by
 obtain ⟨_,_,h3⟩:=Oper.apart_spec hap
 exact h.of_same (execOp_put oi hsi a oj.dst u h3) (wanted_put oi a oj.dst u h3)
theorem YA.unput {j:Nat} {oi oj:Oper} {v u:Value} {a:Act} (h:YA P ops C R j0 z j oj u (a.put oi.dst v)) (hap:oi.apart ops oj=true) (hsj:∀ cs b,oj.op≠.select cs b):YA P ops C R j0 z j oj u a:=by
 obtain ⟨h1,_,_⟩:=Oper.apart_spec hap
 exact h.of_same (execOp_put oj hsj a oi.dst v h1).symm (wanted_put oj a oi.dst v h1).symm
def Ha (P:Program) (md:Region.Mode) (ops:Array Oper) (C:World→Prop) (R:Value→World→Prop) (j0:Nat) (z:Value) (n:Nat) (L:Array Bool→Act→Prop):Nat→Array Bool→Act→Prop
 | 0,listed,a=>L listed a
 | f+1,listed,a=>Region.ready md ops listed≠[]∧∀ i,i∈Region.ready md ops listed→i < n∧∃ oi v,ops[i]?=some oi∧YA P ops C R j0 z i oi v a∧Ha P md ops C R j0 z n L f (listed.setIfInBounds i true) (a.put oi.dst v)
theorem set_other {listed:Array Bool} {i:Nat} (h:i≠j0):(listed.setIfInBounds i true).getD j0 false=listed.getD j0 false:=getD_set_ne false h
theorem zIg {n g:Nat} {L:Value→Array Bool→Act→Prop} {Q:Exit→Act→World→Prop} (hL:∀ z listed a w,R z w→L z listed a→wpAny P md ops Q g listed a w) :
  ∀ (f:Nat) (listed:Array Bool) (a:Act) (w:World),listed.getD j0 false=true→R z w→Ha P md ops C R j0 z n (L z) f listed a→wpAny P md ops Q (f+g) listed a w:=by
 intro f
 induction f with
 | zero=>intro listed a w _ hw h;rw [Nat.zero_add];exact hL _ _ _ _ hw h
 | succ f ih =>
   intro listed a w hd hw h
   rw [show f+1+g=(f+g)+1 from by omega]
   refine ⟨fun h0=>absurd h0 h.1,fun i hi=>?_⟩
   obtain ⟨_,oi,v,hoi,hy,hK⟩:=h.2 i hi
   have hun:=(mem_ready.1 hi).1
   have hij:i≠j0:=fun e=>by
    subst e
    rw [getD_both hun] at hd
    cases hd
   have hset:=set_other (listed:=listed) hij
   rw [hd] at hset
   unfold wpOp
   simp only [hoi]
   rcases hy with ⟨_,hwt,_,hv⟩ | ⟨_,hwt,rfl⟩ | ⟨e,_⟩
   · simp only [hwt,if_true]
     refine .inl ?_
     unfold Oper.wp
     rw [hv w hw]
     exact ih _ _ _ hset hw hK
   · simp only [hwt,Bool.false_eq_true,if_false]
     exact ih _ _ _ hset hw hK
   · exact absurd e hij
theorem zJ3 {n g:Nat} {L:Value→Array Bool→Act→Prop} {Q:Exit→Act→World→Prop} (hL:∀ z listed a w,R z w→L z listed a→wpAny P md ops Q g listed a w) (hLj:∀ z listed a,L z listed a→listed.getD j0 false=true) (hz:∃ z,∃ w,R z w) :
  ∀ (f:Nat) (listed:Array Bool) (a:Act) (w:World),listed.getD j0 false=false→C w→(∀ z,(∃ w,R z w)→Ha P md ops C R j0 z n (L z) f listed a)→wpAny P md ops Q (f+g) listed a w:=by
 intro f
 obtain ⟨z0,hz0⟩:=hz
 induction f with
 | zero =>
   intro listed a w hd hw h
   have:=hLj _ _ _ (h z0 hz0)
   rw [hd] at this
   cases this
 | succ f ih =>
   intro listed a w hd hw h
   rw [show f+1+g=(f+g)+1 from by omega]
   have h0:=h z0 hz0
   refine ⟨fun h1=>absurd h1 h0.1,fun i hi=>?_⟩
   obtain ⟨_,oi,v,hoi,hy,hK⟩:=h0.2 i hi
   have hun:=(mem_ready.1 hi).1
   unfold wpOp
   simp only [hoi]
   rcases hy with ⟨hij,hwt,hv,_⟩ | ⟨hij,hwt,rfl⟩ | ⟨rfl,_,hwt,hv⟩
   · have hset:=set_other (listed:=listed) hij
     rw [hd] at hset
     simp only [hwt,if_true]
     refine .inl ?_
     unfold Oper.wp
     rw [hv w hw]
     refine ih _ _ _ hset hw (fun z hz=>?_)
     obtain ⟨_,oi',v',hoi',hy',hK'⟩:=(h z hz).2 i hi
     have eo:oi'=oi:=Option.some.inj (hoi'.symm.trans hoi)
     subst eo
     rcases hy' with ⟨_,_,hv',_⟩ | ⟨_,hwt',_⟩ | ⟨e,_⟩
     · have e:=(hv' w hw).symm.trans (hv w hw)
       injection e with e1 _
       injection e1 with e1
       rw [← e1];exact hK'
     · rw [hwt] at hwt';cases hwt'
     · exact absurd e hij
   · have hset:=set_other (listed:=listed) hij
     rw [hd] at hset
     simp only [hwt,Bool.false_eq_true,if_false]
     refine ih _ _ _ hset hw (fun z hz=>?_)
     obtain ⟨_,oi',v',hoi',hy',hK'⟩:=(h z hz).2 i hi
     have eo:oi'=oi:=Option.some.inj (hoi'.symm.trans hoi)
     subst eo
     rcases hy' with ⟨_,hwt',_,_⟩ | ⟨_,_,e1⟩ | ⟨e,_⟩
     · rw [hwt] at hwt';cases hwt'
     · rw [← e1];exact hK'
     · exact absurd e hij
   · simp only [hwt,if_true]
     refine .inl ?_
     obtain ⟨fn,args,hr,hc⟩:=hv w hw
     unfold Oper.wp
     rw [hr]
     refine hc.mono ?_
     rintro e w'' ⟨v',rfl,hR⟩
     obtain ⟨_,oi',u',hoi',hy',hK'⟩:=(h v' ⟨_,hR⟩).2 i hi
     have eo:oi'=oi:=Option.some.inj (hoi'.symm.trans hoi)
     subst eo
     have hlt:i < listed.size:=by
      rcases Nat.lt_or_ge i listed.size with h | h
      · exact h
      · simp [Array.getElem?_eq_none h] at hun
     rcases hy' with ⟨e,_⟩ | ⟨e,_⟩ | ⟨_,rfl,_⟩
     · exact absurd rfl e
     · exact absurd rfl e
     · exact zIg hL _ _ _ _ (by simp [hlt]) hR hK'
theorem zJ4 {n i:Nat} {oi:Oper} {v:Value} {L:Array Bool→Act→Prop} (hi:ops[i]?=some oi) (hsel:∀ (j:Nat) (o:Oper) cs b,ops[j]?=some o→o.op≠.select cs b)
  (hs:Region.sinkB md ops n=true) (hc:Region.chainB md ops n=true) (hn:n < ops.size) (hin:i < n) (hdone:∀ listed a,L listed a→∀ j,j∈Region.ready md ops listed→n≤j) :
  ∀ (f:Nat) (listed:Array Bool) (a:Act),HeadInv md ops n listed →
    (∀ j oj,ops[j]?=some oj→j≠i→listed.getD j true=false→(∀ e∈oj.after,Region.binds md e=true→e.on≠i)→oi.apart ops oj=true) →
    i∈Region.ready md ops listed→YA P ops C R j0 z i oi v a →
    Ha P md ops C R j0 z n L f (listed.setIfInBounds i true) (a.put oi.dst v)→Ha P md ops C R j0 z n L (f+1) listed a:=by
 intro f
 induction f with
 | zero =>
   intro listed a inv _ hr hy H
   have hun:=(mem_ready.1 hr).1
   refine ⟨fun h=>(by rw [h] at hr;cases hr),fun j hj=>?_⟩
   have hjn:j < n:=Nat.lt_of_not_le fun h=>tail_waits hs hc hn inv _ i rfl hin hun j h hj
   by_cases e:j=i
   · subst e;exact ⟨hjn,oi,v,hi,hy,H⟩
   · have:=hdone _ _ H j (ready_mono hj e)
     omega
 | succ f ih =>
   intro listed a inv hfree hr hy H
   have hun:=(mem_ready.1 hr).1
   refine ⟨fun h=>(by rw [h] at hr;cases hr),fun j hj=>?_⟩
   have hjn:j < n:=Nat.lt_of_not_le fun h=>tail_waits hs hc hn inv _ i rfl hin hun j h hj
   refine ⟨hjn,?_⟩
   by_cases e:j=i
   · subst e;exact ⟨oi,v,hi,hy,H⟩
   · obtain ⟨hjun,oj,hoj,hall⟩:=mem_ready.1 hj
     have hnot:∀ e∈oj.after,Region.binds md e=true→e.on≠i:=fun e' he hb heq=>by
      have h1:=hall e' he hb
      rw [heq,getD_both hun] at h1
      cases h1
     have hap:=hfree j oj hoj e hjun hnot
     obtain ⟨_,oj',u,hoj',hyj,hKj⟩:=H.2 j (ready_mono hj e)
     have e1:oj'=oj:=Option.some.inj (hoj'.symm.trans hoj)
     subst e1
     have hfree':∀ k ok,ops[k]?=some ok→k≠i→(listed.setIfInBounds j true).getD k true=false →
       (∀ e∈ok.after,Region.binds md e=true→e.on≠i)→oi.apart ops ok=true:=fun k ok hk hki hun' hno=>by
      refine hfree k ok hk hki ?_ hno
      by_cases hjk:j=k
      · subst hjk;exact hjun
      · rw [getD_set_ne true hjk] at hun';exact hun'
     refine ⟨oj',u,hoj,hyj.unput hap (fun cs b=>hsel j oj' cs b hoj),?_⟩
     refine ih (listed.setIfInBounds j true) _ (inv.set hj hjn) hfree' (ready_mono hr (Ne.symm e)) (hy.put hap (fun cs b=>hsel i oi cs b hi)) ?_
     rw [Array.setIfInBounds_comm _ _ e]
     have hcomm:=Act.put_comm a v u (Oper.apart_spec hap).2.1
     rw [← hcomm]
     exact hKj
def zFd (P:Program) (ops:Array Oper) (C:World→Prop) (R:Value→World→Prop) (j0:Nat) (z:Value) (Lq:Act→Prop):List Oper→Nat→Act→Prop
 | [],_,a=>Lq a
 | o::rest,k,a=>∃ v,YA P ops C R j0 z k o v a∧zFd P ops C R j0 z Lq rest (k+1) (a.put o.dst v)
theorem zLm {n g:Nat} {Lq:Act→Prop} (hsel:Region.noSelect ops=true) (hs:Region.sinkB md ops n=true) (hc:Region.chainB md ops n=true) (hn:n < ops.size) (hj0:j0 < n) :
  ∀ (l:List Oper) (k:Nat) (listed:Array Bool) (a:Act),(∀ j,j < l.length→l[j]?=ops[k+j]?)→k+l.length=n→HeadInv md ops n listed→(∀ i,i < k→listed.getD i false=true) →
  Region.lexHead md ops g l.length k listed=true→zFd P ops C R j0 z Lq l k a →
  Ha P md ops C R j0 z n (fun listed' a'=>Region.seqB md ops g n listed'=true∧listed'.getD j0 false=true∧Lq a') l.length listed a:=by
 intro l
 induction l with
 | nil =>
   intro k listed a _ hk _ hdone hB h
   have:k=n:=by simpa using hk
   subst this
   exact ⟨by simpa [Region.lexHead] using hB,hdone j0 hj0,h⟩
 | cons o l ih =>
   intro k listed a hl hk inv hdone hB h
   have h0:ops[k]?=some o:=by simpa using (hl 0 (by simp)).symm
   simp only [List.length_cons,Region.lexHead,Bool.and_eq_true] at hB
   obtain ⟨⟨hr,hf⟩,hB'⟩:=hB
   have hkn:k < n:=by simp only [List.length_cons] at hk;omega
   have hr':k∈Region.ready md ops listed:=by simpa using hr
   obtain ⟨v,hy,hK⟩:=h
   refine zJ4 h0 (Region.noSelect_spec hsel) hs hc hn hkn (fun listed' a' hL=>seqB_ready hL.1) l.length listed a inv (Region.free_spec h0 hf) hr' hy ?_
   refine ih (k+1) _ _ (fun j hj=>by have:=hl (j+1) (by simp;omega);simpa [Nat.add_assoc,Nat.add_comm 1 j] using this) (by simp only [List.length_cons] at hk;omega) (inv.set hr' hkn) (fun i hi=>?_) hB' hK
   have hks:k < listed.size:=by rw [inv.size];omega
   by_cases e:k=i
   · subst e;simp [hks]
   · rw [getD_set_ne false e];exact hdone i (by omega)
theorem zBB {id:Nat} {Q:Exit→Act→World→Prop} {a:Act} {w:World} {l:List Oper} (n j0:Nat) (C:World→Prop) (R:Value→World→Prop) (hm:P.follows .mixedOrders=true)
  (hB:Region.lexTailB .any l.toArray n=true) (hj0:j0 < n) (hC:C w.drew) (hz:∃ z,∃ w,R z w) (h:∀ z,(∃ w,R z w)→zFd P l.toArray C R j0 z (fun a'=>∀ w',R z w'→wpList P l.toArray Q (l.drop n) a' w') (l.take n) 0 a) :
  (Code.region id l.toArray true).wp P Q a w:=by
 simp only [Region.lexTailB,Bool.and_eq_true,decide_eq_true_eq] at hB
 obtain ⟨⟨⟨⟨hsel,hn⟩,hs⟩,hc⟩,hlex⟩:=hB
 have hn':n < l.length:=by simpa using hn
 have htl:(l.take n).length=n:=by simp;omega
 have inv0:HeadInv .any l.toArray n (Array.replicate l.toArray.size false) :=
  ⟨by simp,fun j oj _ hl=>(by rw [getD_replicate_false] at hl;cases hl),fun t _ ht=>getD_in (by simpa using ht) (getD_replicate_false _ _)⟩
 have H:=fun z hz=>zLm (md:=.any) (C:=C) (R:=R) (j0:=j0) (z:=z) (g:=l.toArray.size - n) hsel hs hc hn hj0 (l.take n) 0 _ a (fun j hj=>by
  have hj':j < n:=by rw [htl] at hj;exact hj
  simp [hj']) (by simpa using htl) inv0 (fun i hi=>by omega) (by rw [htl];exact hlex) (h z hz)
 refine wp_region_any hm ?_
 have:=zJ3 (C:=C) (R:=R) (j0:=j0) (Q:=Q) (g:=l.toArray.size - n) (L:=fun z listed' a'=>Region.seqB .any l.toArray (l.toArray.size - n) n listed'=true∧listed'.getD j0 false=true∧∀ w',R z w'→wpList P l.toArray Q (l.drop n) a' w') (fun z listed a' w' hw' hL=>by
  have e:l.toArray.size - n=(l.drop n).length:=by simp
  rw [e]
  exact wpAny_of_seq (l.drop n) n listed a' w' (fun j=>by simp) (by rw [← e];exact hL.1) (hL.2.2 w' hw')) (fun z listed a hL=>hL.2.1) hz _ _ a w.drew (getD_replicate_false _ _) hC H
 rw [htl,show n+(l.toArray.size - n)=l.toArray.size from by omega] at this
 exact this
theorem zKt {Lq:Act→Prop} {o:Oper} {rest:List Oper} {k:Nat} {a:Act} (hk:k≠j0) (v:Value) (hw:Region.wanted o (yielded ops a.tmps)=true) (h1:∀ w,C w→(execOp a.eval o).run P w=.ok (.value v) w) (h2:∀ w,R z w→(execOp a.eval o).run P w=.ok (.value v) w) (h:zFd P ops C R j0 z Lq rest (k+1) (a.put o.dst v)) :
 zFd P ops C R j0 z Lq (o::rest) k a:=⟨v,.inl ⟨hk,hw,h1,h2⟩,h⟩
theorem zEn {Lq:Act→Prop} {o:Oper} {rest:List Oper} {a:Act} (hw:Region.wanted o (yielded ops a.tmps)=true)
 (h1:∀ w,C w→∃ f args,(execOp a.eval o).run P w=.ok (.enter f args) w∧Calls P f args w fun e w'=>∃ v',e=.returned v'∧R v' w') (h:zFd P ops C R j0 z Lq rest (j0+1) (a.put o.dst z)) :
 zFd P ops C R j0 z Lq (o::rest) j0 a:=⟨z,.inr (.inr ⟨rfl,rfl,hw,h1⟩),h⟩
theorem zEo {Lq:Act→Prop} {o:Oper} {rest:List Oper} {k:Nat} {a:Act} (hk:k≠j0) (hw:Region.wanted o (yielded ops a.tmps)=true) (h:∃ v,(∀ w,(execOp a.eval o).run P w=.ok (.value v) w)∧zFd P ops C R j0 z Lq rest (k+1) (a.put o.dst v)) :
  zFd P ops C R j0 z Lq (o::rest) k a:=by
 obtain ⟨v,h1,h2⟩:=h
 exact ⟨v,.inl ⟨hk,hw,fun w _=>h1 w,fun w _=>h1 w⟩,h2⟩
theorem zHF {Lq:Act→Prop} {o:Oper} {rest:List Oper} {k:Nat} {a:Act} (hk:k≠j0) (hw:Region.wanted o (yielded ops a.tmps)=true) (ty:TypeId) (x:Operand) (ho:o.op=.load ty x) (b off:Nat) (hx:a.eval x=.pointer (some ⟨b,off,none⟩)) (cs:List Value) {d:TypeDesc} (hC:∀ w,C w→w.rangeAt b off cs) (hR:∀ w,R z w→w.rangeAt b off cs)
  (hu:P.underlying ty=some d) (hd:d.isRow=true) (hi:(P.info? ty).map (·.size)=some cs.length) (h:zFd P ops C R j0 z Lq rest (k+1) (a.put o.dst (.agg cs.toArray))):zFd P ops C R j0 z Lq (o::rest) k a:=by
 have hr:∀ w,w.rangeAt b off cs→(execOp a.eval o).run P w=.ok (.value (.agg cs.toArray)) w:=fun w hw'=>by
  unfold execOp
  simp only [ho,hx,Instr.loadAt,Instr.sureAddr,Sem.run_bind,Sem.run_pure,Result.andThen_ok,run_loadVar_mid w b off ty cs d hw' hu hd hi]
 exact zKt hk _ hw (fun w h=>hr w (hC w h)) (fun w h=>hr w (hR w h)) h
end
end Go.Tail
namespace Go.Tail
open Go
section
variable {P:Program} {ops:Array Oper} {md:Region.Mode} {Q:Exit→Act→World→Prop} {S:World→Prop}
end
end Go.Tail
end
section
namespace Go.Proofs.YtdlkghdfkjdajaaGreatDoor
open Go Go.RowKit Go.Mem Gf
attribute [local go_sem ↓] Go.wp_at_zero Go.wp_at_succ
theorem zG6 {bs:List UInt8} (h:Cod.zy bs=none):((Cod.size bs).2=0)∨(1 < (Cod.size bs).2∧bs.getD 0 0=48)∨(1≤(Cod.size bs).2∧¬ (1 < (Cod.size bs).2∧bs.getD 0 0=48)∧(16384 < (Cod.size bs).1∨((Cod.size bs).1≤16384 ∧
  (bs.length < (Cod.size bs).2+(Cod.size bs).1+2∨((Cod.size bs).2+(Cod.size bs).1+2≤bs.length∧(bs.getD (Cod.size bs).2 0≠58∨(bs.getD (Cod.size bs).2 0=58∧bs.getD ((Cod.size bs).2+1+(Cod.size bs).1) 0≠44))))))):=by
 generalize hd:(Cod.size bs).2=d at *
 generalize hn:(Cod.size bs).1=n at *
 unfold Cod.zy Cod.zGQ Cod.zGR at h
 rw [hd,hn] at h
 by_cases h0:d=0
 · exact .inl h0
 by_cases h1:1 < d∧bs.getD 0 0=48
 · exact .inr (.inl h1)
 refine .inr (.inr ⟨by omega,h1,?_⟩)
 by_cases h2:16384 < n
 · exact .inl h2
 refine .inr ⟨by omega,?_⟩
 by_cases h3:bs.length < d+n+2
 · exact .inl h3
 refine .inr ⟨by omega,?_⟩
 by_cases h4:bs.getD d 0=58
 · by_cases h5:bs.getD (d+1+n) 0=44
   · exfalso
     have e1:(d == 0 || decide (1 < d) && bs.getD 0 0 == 48 || decide (16384 < n))=false:=by
      have:¬ (1 < d∧(bs.getD 0 0 == 48)=true):=fun ⟨a,b⟩=>h1 ⟨a,by simpa using b⟩
      by_cases hd1:1 < d
      · have:(bs.getD 0 0 == 48)=false:=by
         rcases hb:(bs.getD 0 0 == 48) with _ | _
         · rfl
         · exact absurd ⟨hd1,hb⟩ this
        rw [this];simp;omega
      · simp;omega
     rw [e1,h4,h5] at h
     simp [h3] at h
   · exact .inr ⟨h4,h5⟩
 · exact .inl h4
theorem zBj {bs x y:List UInt8} (h:Cod.zy bs=some (x,y)):1≤(Cod.size bs).2∧¬ (1 < (Cod.size bs).2∧bs.getD 0 0=48)∧(Cod.size bs).1≤16384∧(Cod.size bs).2+(Cod.size bs).1+2≤bs.length∧bs.getD (Cod.size bs).2 0=58∧bs.getD ((Cod.size bs).2+1+(Cod.size bs).1) 0=44 ∧
  x=(bs.drop ((Cod.size bs).2+1)).take (Cod.size bs).1∧y=bs.drop ((Cod.size bs).2+(Cod.size bs).1+2):=by
 generalize hd:(Cod.size bs).2=d at *
 generalize hn:(Cod.size bs).1=n at *
 unfold Cod.zy Cod.zGQ Cod.zGR at h
 rw [hd,hn] at h
 split at h
 · cases h
 rename_i h1
 split at h
 · cases h
 rename_i h2
 simp only [Option.some.injEq,Prod.mk.injEq] at h
 simp only [Bool.or_eq_true,beq_iff_eq,Bool.and_eq_true,decide_eq_true_eq,not_or,bne_iff_ne,ne_eq,Decidable.not_not] at h1 h2
 exact ⟨by omega,h1.1.2,by omega,by omega,h2.1.2,h2.2,h.1.symm,h.2.symm⟩
theorem Bys.byte {w:World} {a:Option Addr} {n c:Nat} {bs:List UInt8} (h:Bys w (.slice a n c) bs) (k:Nat) (hk:k < bs.length) :
  ∃ b o,a=some ⟨b,o,none⟩∧w.cell? ⟨b,o+k,none⟩=some (.int .u8 ((bs.getD k 0).toNat:Nat)):=by
 obtain ⟨b,o,u,e,hu,hc,_⟩:=h.at k hk
 have hu:=hu.out
 exact ⟨b,o,e,by rw [hc,List.getD_eq_getElem?_getD,hu];rfl⟩
theorem zEI {u:UInt8} {k:Nat} (_hk:k < 256) (h:u≠UInt8.ofNat k):(((u.toNat:Nat):Int) == (k:Int))=false:=by
 have:u.toNat≠k:=fun e=>h (by rw [← e];simp)
 simp;omega
theorem zDS {u:UInt8} {k:Nat} (_hk:k < 256) (h:u≠UInt8.ofNat k):(((u.toNat:Nat):Int) != (k:Int))=true:=by
 have:u.toNat≠k:=fun e=>h (by rw [← e];simp)
 simp;omega
set_option maxRecDepth 20000 in
set_option maxHeartbeats 1000000 in
theorem zIO (v:Value) (bs:List UInt8) (w:World) (h:Bys w v bs) (hrl:bs.length≤1000000000000) (ht:Cod.zy bs=none) :
  Calls Tryz.prog 88 #[v] w fun e w'=>e=.returned (.tuple #[.slice none 0 0,.slice none 0 0,.bool false])∧w=w':=by
 obtain ⟨a,c,rfl⟩:=h.eq_slice
 have hsz:=Cod.size_le bs
 have hB:=zG6 ht
 clear ht
 have hS:=zFY _ bs w h
 obtain ⟨d,hd⟩:∃ d,d=(Cod.size bs).2:=⟨_,rfl⟩
 obtain ⟨n,hn⟩:∃ n,n=(Cod.size bs).1:=⟨_,rfl⟩
 rw [← hd,← hn] at hsz hB hS
 clear hd hn
 obtain ⟨hsz1,hsz2⟩:=hsz
 have HS:=Lib.hid hS
 clear hS
 have hby:=fun k hk=>Bys.byte h (k:=k) hk
 clear h
 have HB:=Lib.hid hby
 clear hby
 obtain ⟨l,hl'⟩:∃ l,l=bs.length:=⟨_,rfl⟩
 rw [← hl'] at hrl HS hsz2 hB ⊢
 have Hl:=Lib.hid hl'
 clear hl'
 rcases hB with hB | ⟨h1,h2⟩ | ⟨h1,h2,hB⟩
 · subst hB
   go_enter Tryz.func88,Tryz.ntmps88
   go_wp2_with fail
   refine HS.out.mono ?_
   rintro e w1 ⟨rfl,rfl⟩
   go_wp2
   go_ret3
   exact ⟨rfl,rfl⟩
 · obtain ⟨b,o,rfl,c0⟩:=HB.out 0 (by have:=Hl.out;omega)
   rw [h2] at c0
   have c0:w.cell? ⟨b,o,none⟩=some (.int .u8 48):=c0
   have t0:((d:Int) == 0)=false:=by simp;omega
   have t1:decide ((1:Int) < (d:Int))=true:=by simp;omega
   have i1:(0:Int) < (l:Int):=by omega
   have i2:0 < l:=by omega
   clear h2
   go_enter Tryz.func88,Tryz.ntmps88
   go_wp2_with fail
   refine HS.out.mono ?_
   rintro e w1 ⟨rfl,rfl⟩
   go_wp2
   go_ret3
   exact ⟨rfl,rfl⟩
 · obtain ⟨b,o,rfl,c0⟩:=HB.out 0 (by have:=Hl.out;omega)
   have i1:(0:Int) < (l:Int):=by omega --x
   have i2:0 < l:=by omega
   have c0:w.cell? ⟨b,o,none⟩=some (.int .u8 ((bs.getD 0 0).toNat:Nat)):=c0
   have t0:((d:Int) == 0)=false:=by simp;omega
   obtain ⟨u0,hu0⟩:∃ u0,u0=bs.getD 0 0:=⟨_,rfl⟩
   rw [← hu0] at c0 h2
   have HB':=Lib.hid (fun (k:Nat) (hk:k < l)=>(show w.cell? ⟨b,o+k,none⟩=some (.int .u8 ((bs.getD k 0).toNat:Nat)) from by
    obtain ⟨b',o',e,hc⟩:=HB.out k (by have:=Hl.out;omega)
    cases e;exact hc))
   clear HB hu0
   rcases (show d≤1∨(1 < d∧u0≠48) from by
    rcases Nat.lt_or_ge 1 d with h | h
    · exact .inr ⟨h,fun e=>h2 ⟨h,e⟩⟩
    · exact .inl (by omega)) with hd | ⟨hd,hu⟩
   · have t1:decide ((1:Int) < (d:Int))=false:=by simp;omega
     clear h2 hd
     rcases hB with hB | ⟨h3,hB | ⟨h4,hB | ⟨h5,hB⟩⟩⟩
     · have t2:decide ((16384:Int) < (n:Int))=true:=by simp;omega
       go_enter Tryz.func88,Tryz.ntmps88
       go_wp2_with fail
       refine HS.out.mono ?_
       rintro e w1 ⟨rfl,rfl⟩
       go_wp2
       go_ret3
       exact ⟨rfl,rfl⟩
     · have t2:decide ((16384:Int) < (n:Int))=false:=by simp;omega
       have t3:decide ((l:Int) < (d:Int)+(n:Int)+2)=true:=by simp;omega
       have t6:(l:Int) < (d:Int)+(n:Int)+2:=by omega
       go_enter Tryz.func88,Tryz.ntmps88
       go_wp2_with fail
       refine HS.out.mono ?_
       rintro e w1 ⟨rfl,rfl⟩
       go_wp2
       go_ret3
       exact ⟨rfl,rfl⟩
     · have t2:decide ((16384:Int) < (n:Int))=false:=by simp;omega
       have t3:decide ((l:Int) < (d:Int)+(n:Int)+2)=false:=by simp;omega
       have c1:=HB'.out d (by omega)
       obtain ⟨u1,hu1⟩:∃ u1,u1=bs.getD d 0:=⟨_,rfl⟩
       rw [← hu1] at c1 hB
       have t4:(((u1.toNat:Nat):Int) != 58)=true:=zDS (k:=58) (by decide) hB
       have i3:(d:Int) < (l:Int):=by omega
       have i4:d < l:=by omega
       clear hu1 hB
       go_enter Tryz.func88,Tryz.ntmps88
       go_wp2_with fail
       refine HS.out.mono ?_
       rintro e w1 ⟨rfl,rfl⟩
       go_wp2
       go_ret3
       exact ⟨rfl,rfl⟩
     · have t2:decide ((16384:Int) < (n:Int))=false:=by simp;omega
       have t3:decide ((l:Int) < (d:Int)+(n:Int)+2)=false:=by simp;omega
       have c1:=HB'.out d (by omega)
       rw [h5] at c1
       have c1:w.cell? ⟨b,o+d,none⟩=some (.int .u8 58):=c1
       have c2:=HB'.out (d+1+n) (by omega)
       obtain ⟨u1,hu1⟩:∃ u1,u1=bs.getD (d+1+n) 0:=⟨_,rfl⟩
       rw [← hu1] at c2 hB
       have t4:(((u1.toNat:Nat):Int) != 44)=true:=zDS (k:=44) (by decide) hB
       have i3:(d:Int) < (l:Int):=by omega
       have i4:d < l:=by omega
       have i5:(d:Int)+1+(n:Int) < (l:Int):=by omega
       have i6:(0:Int)≤(d:Int)+1+(n:Int):=by omega
       have q1:((d:Int)+1+(n:Int)).toNat=d+1+n:=by omega
       clear hu1 hB h5
       go_enter Tryz.func88,Tryz.ntmps88
       go_wp2_with fail
       refine HS.out.mono ?_
       rintro e w1 ⟨rfl,rfl⟩
       go_wp2
       go_ret3
       exact ⟨rfl,rfl⟩
   · have t1:decide ((1:Int) < (d:Int))=true:=by simp;omega
     have t5:(((u0.toNat:Nat):Int) == 48)=false:=zEI (k:=48) (by decide) hu
     clear h2 hu
     rcases hB with hB | ⟨h3,hB | ⟨h4,hB | ⟨h5,hB⟩⟩⟩
     · have t2:decide ((16384:Int) < (n:Int))=true:=by simp;omega
       go_enter Tryz.func88,Tryz.ntmps88
       go_wp2_with fail
       refine HS.out.mono ?_
       rintro e w1 ⟨rfl,rfl⟩
       go_wp2
       go_ret3
       exact ⟨rfl,rfl⟩
     · have t2:decide ((16384:Int) < (n:Int))=false:=by simp;omega
       have t3:decide ((l:Int) < (d:Int)+(n:Int)+2)=true:=by simp;omega
       have t6:(l:Int) < (d:Int)+(n:Int)+2:=by omega
       go_enter Tryz.func88,Tryz.ntmps88
       go_wp2_with fail
       refine HS.out.mono ?_
       rintro e w1 ⟨rfl,rfl⟩
       go_wp2
       go_ret3
       exact ⟨rfl,rfl⟩
     · have t2:decide ((16384:Int) < (n:Int))=false:=by simp;omega
       have t3:decide ((l:Int) < (d:Int)+(n:Int)+2)=false:=by simp;omega
       have c1:=HB'.out d (by omega)
       obtain ⟨u1,hu1⟩:∃ u1,u1=bs.getD d 0:=⟨_,rfl⟩
       rw [← hu1] at c1 hB
       have t4:(((u1.toNat:Nat):Int) != 58)=true:=zDS (k:=58) (by decide) hB
       have i3:(d:Int) < (l:Int):=by omega
       have i4:d < l:=by omega
       clear hu1 hB
       go_enter Tryz.func88,Tryz.ntmps88
       go_wp2_with fail
       refine HS.out.mono ?_
       rintro e w1 ⟨rfl,rfl⟩
       go_wp2
       go_ret3
       exact ⟨rfl,rfl⟩
     · have t2:decide ((16384:Int) < (n:Int))=false:=by simp;omega
       have t3:decide ((l:Int) < (d:Int)+(n:Int)+2)=false:=by simp;omega
       have c1:=HB'.out d (by omega)
       rw [h5] at c1
       have c1:w.cell? ⟨b,o+d,none⟩=some (.int .u8 58):=c1
       have c2:=HB'.out (d+1+n) (by omega)
       obtain ⟨u1,hu1⟩:∃ u1,u1=bs.getD (d+1+n) 0:=⟨_,rfl⟩
       rw [← hu1] at c2 hB
       have t4:(((u1.toNat:Nat):Int) != 44)=true:=zDS (k:=44) (by decide) hB
       have i3:(d:Int) < (l:Int):=by omega
       have i4:d < l:=by omega
       have i5:(d:Int)+1+(n:Int) < (l:Int):=by omega
       have i6:(0:Int)≤(d:Int)+1+(n:Int):=by omega
       have q1:((d:Int)+1+(n:Int)).toNat=d+1+n:=by omega
       clear hu1 hB h5
       go_enter Tryz.func88,Tryz.ntmps88
       go_wp2_with fail
       refine HS.out.mono ?_
       rintro e w1 ⟨rfl,rfl⟩
       go_wp2
       go_ret3
       exact ⟨rfl,rfl⟩
set_option maxRecDepth 20000 in
set_option maxHeartbeats 1000000 in
theorem zJO (v:Value) (bs x y:List UInt8) (w:World) (h:Bys w v bs) (hrl:bs.length≤1000000000000) (ht:Cod.zy bs=some (x,y)) :
  Calls Tryz.prog 88 #[v] w fun e w'=>∃ vx vy,e=.returned (.tuple #[vx,vy,.bool true])∧zP 5 w' w.heap.size vx x∧zP 5 w' w.heap.size vy y∧Below w.heap.size w w':=by
 obtain ⟨a,c,rfl⟩:=h.eq_slice
 have hsz:=Cod.size_le bs
 obtain ⟨h1,h2,h3,h4,h5,h6,hx,hy⟩:=zBj ht
 clear ht
 have hS:=zFY _ bs w h
 obtain ⟨d,hd⟩:∃ d,d=(Cod.size bs).2:=⟨_,rfl⟩
 obtain ⟨n,hn⟩:∃ n,n=(Cod.size bs).1:=⟨_,rfl⟩
 rw [← hd] at hsz h1 h2 h4 h5 h6 hx hy hS
 rw [← hn] at hsz h3 h4 h6 hx hy hS
 clear hd hn
 obtain ⟨hsz1,hsz2⟩:=hsz
 have HS:=Lib.hid hS
 clear hS
 obtain ⟨b,o,rfl,c0⟩:=Bys.byte h 0 (by omega)
 have hcap:bs.length≤c∧c≤maxLen:=by
  obtain ⟨_,_,e,k1,k2,_⟩:=id h
  injection e with e1 e2 e3
  subst e3
  exact ⟨k1,k2⟩
 have hm2:c≤9223372036854775807:=by unfold maxLen at hcap;omega
 have hX:Bys w (.slice (some ⟨b,o+(d+1),none⟩) n (c - (d+1))) x:=by rw [hx];exact zCD h (d+1) n _ (by omega) (by omega) (by omega)
 have hY:Bys w (.slice (if c=d+n+2 then some ⟨b,o,none⟩ else some ⟨b,o+(d+n+2),none⟩) (bs.length - (d+n+2)) (c - (d+n+2))) y:=by
  rw [hy]
  split
  · have e:bs.length=d+n+2:=by omega
    rw [List.drop_eq_nil_of_le (by omega),e,Nat.sub_self]
    exact ⟨some ⟨b,o,none⟩,c - (d+n+2),rfl,Nat.zero_le _,by omega,fun h=>by simp at h⟩
  · have:=zCD h (d+n+2) (bs.length - (d+n+2)) (c - (d+n+2)) (by omega) (by omega) (by omega)
    rwa [List.take_of_length_le (by simp)] at this
 have hxl:x.length=n:=by rw [hx];simp;omega
 have hyl:y.length≤bs.length:=by rw [hy];simp
 have c1:w.cell? ⟨b,o+d,none⟩=some (.int .u8 58):=by
  obtain ⟨b',o',e,hc⟩:=Bys.byte h d (by omega)
  cases e;rw [hc,h5];rfl
 have c2:w.cell? ⟨b,o+(d+1+n),none⟩=some (.int .u8 44):=by
  obtain ⟨b',o',e,hc⟩:=Bys.byte h (d+1+n) (by omega)
  cases e;rw [hc,h6];rfl
 have c0:w.cell? ⟨b,o,none⟩=some (.int .u8 ((bs.getD 0 0).toNat:Nat)):=c0
 obtain ⟨u0,hu0⟩:∃ u0,u0=bs.getD 0 0:=⟨_,rfl⟩
 rw [← hu0] at c0 h2
 obtain ⟨l,hl'⟩:∃ l,l=bs.length:=⟨_,rfl⟩
 rw [← hl'] at hrl HS hsz2 h4 hcap hY hyl ⊢
 have Hxl:=Lib.hid hxl
 obtain ⟨hc1,hc2⟩:=hcap
 have Hc2:=Lib.hid hc2
 clear hl' h hu0 hx hy h5 h6 hxl hc2
 have t0:((d:Int) == 0)=false:=by simp;omega
 have t2:decide ((16384:Int) < (n:Int))=false:=by simp;omega
 have t3:decide ((l:Int) < (d:Int)+(n:Int)+2)=false:=by simp;omega
 have i1:(0:Int) < (l:Int):=by omega
 have i2:0 < l:=by omega
 have i3:(d:Int) < (l:Int):=by omega
 have i4:d < l:=by omega
 have i5:(d:Int)+1+(n:Int) < (l:Int):=by omega
 have i6:(0:Int)≤(d:Int)+1+(n:Int):=by omega
 have i7:(d:Int)+1+(n:Int)≤(c:Int):=by omega
 have i8:(d:Int)+(n:Int)+2≤(l:Int):=by omega
 have i9:(d:Int)+1≤(d:Int)+1+(n:Int):=by omega
 have i10:¬ (c=d+1):=by omega
 have q1:((d:Int)+1+(n:Int)).toNat=d+1+n:=by omega
 rcases (show d≤1∨(1 < d∧u0≠48) from by
  rcases Nat.lt_or_ge 1 d with h | h
  · exact .inr ⟨h,fun e=>h2 ⟨h,e⟩⟩
  · exact .inl (by omega)) with hd | ⟨hd,hu⟩
 · have t1:decide ((1:Int) < (d:Int))=false:=by simp;omega
   clear h2 hd
   go_enter Tryz.func88,Tryz.ntmps88
   go_wp2_with fail
   refine HS.out.mono ?_
   rintro e w1 ⟨rfl,rfl⟩
   go_wp2_with (at_builtin;refine zBL E8c rfl _ _ rfl (base:=w.heap.size) (bs:=[]) (news:=x) rfl rfl (zP.nil _ _ _) hX ?q1 ?q2 ?_)
   case q1=>have:=Hxl.out;simp;omega
   case q2=>exact Nat.le_refl _
   intro v2 w2 ho2 hg2
   have hb2:=zAE hg2 rfl
   clear hg2 c0 c1 c2
   go_wp2_with (at_builtin;refine zBL E8c rfl _ _ rfl (base:=w.heap.size) (bs:=[]) (news:=y) rfl rfl (zP.nil _ _ _) (hY.below hb2) ?q3 ?q4 ?_)
   case q3=>simp;omega
   case q4=>exact hb2.size
   all_goals
    intro v3 w3 ho3 hg3
    have hb3:=zAE hg3 rfl
    clear hg3
    go_wp2
    go_ret3
    exact ⟨_,_,rfl,ho2.below hb3,ho3,hb2.trans (hb3.mono hb2.size)⟩
 · have t1:decide ((1:Int) < (d:Int))=true:=by simp;omega
   have t5:(((u0.toNat:Nat):Int) == 48)=false:=zEI (k:=48) (by decide) hu
   clear h2 hu
   go_enter Tryz.func88,Tryz.ntmps88
   go_wp2_with fail
   refine HS.out.mono ?_
   rintro e w1 ⟨rfl,rfl⟩
   go_wp2_with (at_builtin;refine zBL E8c rfl _ _ rfl (base:=w.heap.size) (bs:=[]) (news:=x) rfl rfl (zP.nil _ _ _) hX ?q5 ?q6 ?_)
   case q5=>have:=Hxl.out;simp;omega
   case q6=>exact Nat.le_refl _
   intro v2 w2 ho2 hg2
   have hb2:=zAE hg2 rfl
   clear hg2 c0 c1 c2
   go_wp2_with (at_builtin;refine zBL E8c rfl _ _ rfl (base:=w.heap.size) (bs:=[]) (news:=y) rfl rfl (zP.nil _ _ _) (hY.below hb2) ?q7 ?q8 ?_)
   case q7=>simp;omega
   case q8=>exact hb2.size
   all_goals
    intro v3 w3 ho3 hg3
    have hb3:=zAE hg3 rfl
    clear hg3
    go_wp2
    go_ret3
    exact ⟨_,_,rfl,ho2.below hb3,ho3,hb2.trans (hb3.mono hb2.size)⟩
end Go.Proofs.YtdlkghdfkjdajaaGreatDoor
end
