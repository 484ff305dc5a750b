/- Texts of this proof,packed: SrvCont,LeaClone,SrvAdd. -/
import Derived.Test.YtbbojbdigiibbaaGreatDoorPa09
import Derived.Test.YtbbojbdigiibbaaGreatDoorPa08
section
namespace Go.Mem
open Go Go.RowKit Gf
def blB (l:List zM):List UInt8:=l.flatMap fun x=>Cod.zA9 [Cod.be 1 x.1.toNat,x.2]
theorem zFD (x:zM) (l:List zM):blB (x::l)=Cod.net (Cod.be 1 x.1.toNat)++(Cod.net x.2++blB l):=by
 unfold blB
 rw [List.flatMap_cons]
 simp [Cod.zA9]
theorem zOB (l m:List zM):blB (l++m)=blB l++blB m:=by unfold blB;rw [List.flatMap_append]
theorem zLZ (x:zM):blB [x]=Cod.zA9 [Cod.be 1 x.1.toNat,x.2]:=by unfold blB;simp
def zAA (k:Lea.Key) (l:List zM):List UInt8:=Cod.net k++blB l
structure zDy (l:List zM):Prop where
 num:∀ x∈l,0≤x.1∧x.1 < 16
 len:∀ x∈l,x.2.length≤16384
theorem zDy.sub {l m:List zM} (h:zDy l) (hs:∀ x∈m,x∈l):zDy m:=⟨fun x hx=>h.num x (hs x hx),fun x hx=>h.len x (hs x hx)⟩
theorem zDd (b:List UInt8) (h:b.length≤16384):(Cod.net b).length≤b.length+11:=by
 rw [Cod.zCS]
 have:Lib.nDigits b.length≤9:=by
  have:=Go.Proofs.YtbbojbdigiibbaaGreatDoor.dec_len b.length (by omega)
  rw [Lib.itoa_nonneg,Lib.decDigits_length] at this
  exact this
 omega
theorem zIM (l:List zM) (h:zDy l):(blB l).length≤l.length*16420:=by
 induction l with
 | nil=>simp [blB]
 | cons x l ih =>
   have h1:=ih (h.sub fun y hy=>List.mem_cons_of_mem _ hy)
   have h2:=zDd (Cod.be 1 x.1.toNat) (by rw [Cod.zAR];omega)
   have h3:=zDd x.2 (h.len x (by simp))
   have h4:=h.len x (by simp)
   rw [Cod.zAR] at h2
   rw [zFD,List.length_append,List.length_append,List.length_cons]
   omega
def zW (is:Bool) (k:List Value) (u:Value):List Value:=.bool is::(k++[u])
theorem zAO (is:Bool) {k:List Value} (h:k.length=16) (u:Value):(zW is k u).length=18:=by simp [zW,h]
theorem zGV (is:Bool) (k:List Value) (u:Value):(zW is k u)[0]?=some (.bool is):=rfl
theorem zEO (is:Bool) (k:List Value) (u:Value) {i:Nat} (hi:i < k.length):(zW is k u)[i+1]?=k[i]?:=by
 unfold zW
 rw [List.getElem?_cons_succ,List.getElem?_append_left hi]
theorem zBF (is:Bool) {k:List Value} (h:k.length=16) (u:Value):(zW is k u)[17]?=some u:=by
 unfold zW
 rw [List.getElem?_cons_succ,List.getElem?_append_right (by omega),h];rfl
theorem zFj (is:Bool) {k:List Value} (h:k.length=16) (u v:Value):(zW is k u).toArray.setIfInBounds 17 v=(zW is k v).toArray:=by
 apply Array.ext_getElem?
 intro i
 have h1:=zAO is h u
 have h2:=zAO is h v
 rw [Array.getElem?_setIfInBounds]
 simp only [List.size_toArray,List.getElem?_toArray,h1]
 by_cases c:17=i
 · subst c
   rw [if_pos rfl,if_pos (by omega),zBF is h]
 · rw [if_neg c]
   rcases Nat.lt_or_ge i 17 with hi | hi
   · cases i with
     | zero=>rfl
     | succ i=>rw [zEO is k u (by omega),zEO is k v (by omega)]
   · rw [List.getElem?_eq_none (by omega),List.getElem?_eq_none (by omega)]
theorem zBg (is:Bool) {k:List Value} (h:∀ v∈k,v.oneCell'=true) (u:Value) (hu:u.oneCell'=true):∀ v∈zW is k u,v.oneCell'=true:=by
 intro v hv
 unfold zW at hv
 rcases List.mem_cons.1 hv with rfl | hv
 · rfl
 · rcases List.mem_append.1 hv with hv | hv
   · exact h v hv
   · rw [List.mem_singleton.1 hv];exact hu
end Go.Mem
namespace Go.Proofs.YtbbojbdigiibbaaGreatDoor
open Go Go.RowKit Go.Mem Gf Lea
theorem i18:(Tryz.prog.info? 205).map (·.size)=some 18:=by kernel_rfl
theorem zEP (dst:Option Tmp) (x:Operand) (ty:TypeId) (pos:String) (af:Array Edge) (gd:Option (Tmp × Bool)) (a:Act) (w:World) (K:Act→World→Prop) (Q:Exit→Act→World→Prop)
  (hp:zAz (a.eval x)=true) (ht:zY 18 w (zAM (a.eval x)) (zAN (a.eval x))) :
  Oper.wp Tryz.prog ⟨dst,.load 205 x,ty,pos,af,gd⟩ a w K Q=K (a.put dst (.agg (zN 18 w (zAM (a.eval x)) (zAN (a.eval x))).toArray)) w :=
 zEK Tryz.underlying205 rfl i18 dst x ty pos af gd a w K Q hp ht
theorem zE6 (dst:Option Tmp) (x y:Operand) (ty:TypeId) (pos:String) (af:Array Edge) (a:Act) (w:World) (K:Act→World→Prop) (Q:Exit→Act→World→Prop)
  (hp:zAz (a.eval x)=true) (hy:zA5 (a.eval y)=true) (ht:zY 18 w (zAM (a.eval x)) (zAN (a.eval x))) (hc:zAQ 18 (zAn (a.eval y))) :
  Oper.wp Tryz.prog ⟨dst,.store 205 x y,ty,pos,af,none⟩ a w K Q=K (a.put dst undef) (w.setCells (zAM (a.eval x)) (zAN (a.eval x)) (zAn (a.eval y))) :=
 zBP i18 dst x y ty pos af a w K Q hp hy ht hc
theorem zKa (b:Bool):∀ (k:List Value),k.length=16→Tryz.prog.built 205 [(0,.bool b),(1,.agg k.toArray)]=some (zW b k (.slice none 0 0)).toArray
 | [k0,k1,k2,k3,k4,k5,k6,k7,k8,k9,k10,k11,k12,k13,k14,k15],_=>by kernel_rfl
def zAu:List Value:=zW false (bV z16) (.slice none 0 0)
theorem zI8:Tryz.prog.built 205 []=some zAu.toArray:=by kernel_rfl
theorem zGi (dst:Option Tmp) (b:Bool) (y:Operand) (ty:TypeId) (pos:String) (af:Array Edge) (gd:Option (Tmp × Bool)) (a:Act) (w:World) (K:Act→World→Prop) (Q:Exit→Act→World→Prop)
  (h2:zA5 (a.eval y)=true) (h3:zAQ 16 (zAn (a.eval y))) :
  Oper.wp Tryz.prog ⟨dst,.build 205 #[(0,.const (.bool b)),(1,y)],ty,pos,af,gd⟩ a w K Q=K (a.put dst (.agg (zW b (zAn (a.eval y)) (.slice none 0 0)).toArray)) w:=by
 unfold Oper.wp execOp
 have e:a.eval (.const (.bool b))=.bool b:=rfl
 have hr:=run_build (P:=Tryz.prog) w 205 #[(0,a.eval (.const (.bool b))),(1,a.eval y)] _ (by rw [e,zKU h2];exact zKa _ _ h3.1)
 simp only [List.map_toArray,List.map_cons,List.map_nil,Sem.run_bind,hr,Result.andThen_ok]
 rfl
theorem zF3 (dst:Option Tmp) (ty:TypeId) (pos:String) (af:Array Edge) (gd:Option (Tmp × Bool)) (a:Act) (w:World) (K:Act→World→Prop) (Q:Exit→Act→World→Prop) :
  Oper.wp Tryz.prog ⟨dst,.build 205 #[],ty,pos,af,gd⟩ a w K Q=K (a.put dst (.agg zAu.toArray)) w:=by
 unfold Oper.wp execOp
 have hr:=run_build (P:=Tryz.prog) w 205 #[] _ zI8
 simp only [List.map_toArray,List.map_nil,Sem.run_bind,hr,Result.andThen_ok]
 rfl
def zBS (s:zG) (ix:Key) (o:Option (Key × List zM)):Prop:=match o with
 | none=>s.st.get (zw ix)=none
 | some (k,l)=>s.st.get (zw ix)=some (zAA k l)∧k.length=16∧zDy l∧l.length≤16
def zAy:Option (Key × List zM)→List zM
 | none=>[]
 | some (_,l)=>l
def zBf:Option (Key × List zM)→Key
 | none=>z16
 | some (k,_)=>k
theorem zeroC:(#[Value.bool false,.int .u8 0,.int .u8 0,.int .u8 0,.int .u8 0,.int .u8 0,.int .u8 0,.int .u8 0,.int .u8 0,.int .u8 0,.int .u8 0,.int .u8 0,.int .u8 0,.int .u8 0,.int .u8 0,.int .u8 0,.int .u8 0,.slice none 0 0]:Array Value)=zAu.toArray:=rfl
theorem zDB (w:World) (cs:List Value) (h:zAQ 18 cs):(w.alloc (.cells #[Value.bool false,.int .u8 0,.int .u8 0,.int .u8 0,.int .u8 0,.int .u8 0,.int .u8 0,.int .u8 0,.int .u8 0,.int .u8 0,.int .u8 0,.int .u8 0,.int .u8 0,.int .u8 0,.int .u8 0,.int .u8 0,.int .u8 0,.slice none 0 0] 205)).setCells w.heap.size 0 cs=w.alloc (.cells cs.toArray 205):=zJ _ _ _ _ rfl (by rw [h.1];rfl)
theorem zD6 {w:World} {b:Nat} {cs:List Value} (h:zY 18 w b 0) (hc:zAQ 18 cs):(loadVar 205 ⟨b,0,none⟩).run Tryz.prog (w.setCells b 0 cs)=.ok (.agg cs.toArray) (w.setCells b 0 cs):=by
 have h2:=zCl h b 0 cs
 refine run_loadVar_mid _ b 0 _ cs _ ?_ Tryz.underlying205 rfl (by rw [hc.1];exact i18)
 have:=zAB h2
 rwa [zCa h hc] at this
theorem zIG:zAQ 18 zAu:=⟨zAO _ (by rw [zB];exact zLq) _,zBg _ (fun v hv=>zAH _ v hv) _ rfl⟩
theorem takeBl (l:List zM) (h:zDy l) (x:zM) (r:List zM) (e:l=x::r):Cod.zBG (blB l)=some (Cod.be 1 x.1.toNat,Cod.net x.2++blB r)∧Cod.zBG (Cod.net x.2++blB r)=some (x.2,blB r):=by
 subst e
 rw [zFD]
 exact ⟨Cod.zBn _ _ (by rw [Cod.zAR];omega),Cod.zBn _ _ (h.len x (by simp))⟩
attribute [local irreducible] zAu zW
attribute [local go_sem ↓] Go.wp_at_zero Go.wp_at_succ
attribute [local go_sem ↓] zEQ zEP zE6 zGi zF3
attribute [local go_sem] zCD ptrB_eq ptrO_eq ptrIs_eq aggL_eq aggIs_eq zS ze zCA zC zF zX zZ zV zH zJ zDB
set_option maxRecDepth 100000 in
set_option maxHeartbeats 2000000 in
theorem zCL (C X:Nat→Prop) (pb:Nat) (s:zG) (ix:Key) (hix:ix.length=16) (o:Option (Key × List zM)) (w:World) (h:zT w C X pb s) (ho:zBS s ix o) :
  Calls Tryz.prog 144 #[.pointer (some ⟨pb,0,none⟩),.agg (bV ix).toArray] w fun e w'=>∃ u,e=.returned (.agg (zW o.isSome (bV (zBf o)) u).toArray)∧zAF 53 w' w.heap.size (fun b=>b < w.heap.size) u (zAy o)∧Below w.heap.size w w':=by
 obtain ⟨sb,lb,d,L,tb,v,h⟩:=h
 have H:=Lib.hid h
 have HO:=Lib.hid ho
 have hl:(bV ix).length=16:=by rw [zB];exact hix
 obtain ⟨cz,hcz⟩:∃ c,c=zAu:=⟨_,rfl⟩
 have HZ:=Lib.hid hcz
 have hzl:cz.length=18:=by rw [hcz];exact zIG.1
 have hza:zAQ 18 cz:=by rw [hcz];exact zIG
 obtain ⟨ck,hck⟩:∃ c,c=bV ix:=⟨_,rfl⟩
 have HCK:=Lib.hid (And.intro hck hix)
 rw [← hck] at hl ⊢
 have hu16:=Tryz.underlying39
 have hi16:(Tryz.prog.info? 39).map (·.size)=some ck.length:=by rw [hl];exact i16
 clear h hix hck ho hcz
 go_enter Tryz.func144,Tryz.ntmps144
 go_upto_region 1 with fail
 rw [zeroC]
 rw [← HZ.out]
 have hB0:Below w.heap.size w ((w.alloc (.cells ck.toArray 39)).alloc (.cells cz.toArray 205)):=((Below.refl _ _).alloc (Nat.le_refl _) _).alloc (by simp) _
 have hk3:Blk ((w.alloc (.cells ck.toArray 39)).alloc (.cells cz.toArray 205)) w.heap.size ck.toArray 39:=(Blk.new _ _ _).alloc _
 have hk4:Blk ((w.alloc (.cells ck.toArray 39)).alloc (.cells cz.toArray 205)) (w.heap.size+1) cz.toArray 205:=Blk.new_at _ _ _ _ (by simp)
 obtain ⟨w0,hw0⟩:∃ x,x=(w.alloc (.cells ck.toArray 39)).alloc (.cells cz.toArray 205):=⟨_,rfl⟩
 have hz0:w0.heap.size=w.heap.size+2:=by rw [hw0];simp
 rw [← hw0] at hB0 hk3 hk4 ⊢
 obtain ⟨p3,hp3⟩:∃ p,p=w.heap.size:=⟨_,rfl⟩
 obtain ⟨p4,hp4⟩:∃ p,p=w.heap.size+1:=⟨_,rfl⟩
 rw [← hp3] at hk3
 rw [← hp4] at hk4
 rw [← hp4,← hp3]
 have HB0:=Lib.hid (And.intro hB0 (And.intro hk3 (And.intro hk4 (And.intro hp3 (And.intro hp4 hz0)))))
 clear hw0 hB0 hk3 hk4 hp3 hp4 hz0
 have c3:w0.drew.cell? ⟨pb,3,none⟩=some (.pointer (some ⟨sb,0,none⟩)):=(H.out.below HB0.out.1).blk.cell 3
 have r3:w0.drew.rangeAt p3 0 ck:=fun j v hj=>by
  rw [(HB0.out.2.1.drew).cell,Nat.zero_add]
  simpa using hj
 go_region_held3 (fun w'=>w'.cell? ⟨pb,3,none⟩=some (.pointer (some ⟨sb,0,none⟩))∧w'.rangeAt p3 0 ck) (first | exact ⟨c3,r3⟩ | with_reducible assumption)
  (first
   | (go_at_call 108
      refine (show Calls _ _ _ _ _ from (by rw [HCK.out.1];exact zDh ix HCK.out.2 w0.drew)).mono ?_
      rintro e w2 ⟨rfl,hb2⟩
      have hb2:Below w0.heap.size w0 w2:=zA1 hb2
      have hh:w2.cell? ⟨pb,3,none⟩=some (.pointer (some ⟨sb,0,none⟩))∧w2.rangeAt p3 0 ck:=⟨((H.out.below HB0.out.1).below hb2).blk.cell 3,fun j v hj=>by
       rw [(HB0.out.2.1.kept hb2).cell,Nat.zero_add]
       simpa using hj⟩
      have HB2:=Lib.hid hb2
      clear hb2)
   | (go_at_call 57
      refine (zCs _ sb lb d L s.st (zw ix) w2 ((H.out.below HB0.out.1).below HB2.out).st).mono ?_
      rintro e w4 ⟨hb4,vg,rfl,hvg⟩
      have HG:=Lib.hid (And.intro (HB2.out.trans (hb4.mono HB2.out.size)) hvg)
      have hh:w4.cell? ⟨pb,3,none⟩=some (.pointer (some ⟨sb,0,none⟩))∧w4.rangeAt p3 0 ck:=⟨(((H.out.below HB0.out.1).below HB2.out).below hb4).blk.cell 3,fun j v hj=>by
       rw [((HB0.out.2.1.kept HB2.out).kept hb4).cell,Nat.zero_add]
       simpa using hj⟩
      clear hb4 hvg))
 have hk4:=HB0.out.2.2.1.kept HG.out.1
 have l4:=hk4.lt
 have h4:zY 18 w4 p4 0:=zL hk4 (by simp [hzl])
 have hb04:Below w.heap.size w w4:=HB0.out.1.trans (HG.out.1.mono HB0.out.1.size)
 have HB4:=Lib.hid hb04
 clear c3 r3 hh hb04
 cases o with
 | none =>
   have hget:s.st.get (zw ix)=none:=HO.out
   rw [hget,Option.isSome_none]
   have HGET:=Lib.hid hget
   clear hget
   have hza2:=zIG
   have HLD:=Lib.hid (And.intro (zD6 h4 zIG) hk4)
   have hzl2:=zIG.1
   clear hk4
   go_wp2_with fail
   exact bodyPost_ret (v:=.agg zAu.toArray) (by simp [results,Tryz.results144,asAddr,HLD.out.1]) rfl ⟨.slice none 0 0,by unfold zAu;rfl,zAF.nil _ _ _ _,(Chg.setCells (S:=fun b=>b=p4) (L:=p4) rfl _ _ _ (Chg.of_below HB4.out)).below (Nat.le_refl _) (fun k hk=>by rw [hk,HB0.out.2.2.2.2.1];omega)⟩
 | some kl =>
   obtain ⟨k,l⟩:=kl
   obtain ⟨hget,hk16,hbl,hl16⟩:=HO.out
   have hvg:=HG.out.2
   rw [hget,Option.getD_some] at hvg
   rw [hget,Option.isSome_some]
   have hlen:=zIM l hbl
   have hnk:=zDd k (by omega)
   obtain ⟨va,vc,rfl⟩:=hvg.eq_slice
   have htk:=zDj _ (zAA k l) k (blB l) w4 hvg.bys (by unfold zAA;rw [List.length_append];omega) (by unfold zAA;exact Cod.zBn _ _ (by omega))
   obtain ⟨n0,hn0⟩:∃ n,n=(zAA k l).length:=⟨_,rfl⟩
   rw [← hn0] at htk ⊢
   obtain ⟨n,hn⟩:∃ n,n=l.length:=⟨_,rfl⟩
   have HT:=Lib.hid htk
   have HL:=Lib.hid (And.intro hk16 (And.intro hbl (And.intro hn (And.intro hk4 hl16))))
   clear htk hvg hget hn0 hn hlen hnk hk16 hbl hk4 h4 hl16
   go_wp2_with fail
   refine HT.out.mono ?_
   rintro r w5 ⟨vx,vy,rfl,hX,hY,hB5⟩
   obtain ⟨xa,xc,rfl⟩:=hX.eq_slice
   have hX2:=hX.bys
   rw [HL.out.1] at hX2 ⊢
   obtain ⟨xb,xo,rfl⟩:∃ b o,xa=some ⟨b,o,none⟩:=by
    obtain ⟨a',c',e,_,_,h3⟩:=hX2
    obtain ⟨b,o,e',_⟩:=h3 (by rw [HL.out.1];omega)
    injection e with e1 _ _
    exact ⟨b,o,by rw [e1,e']⟩
   have hrng:=zHi hX2
   obtain ⟨cq,hcq⟩:∃ c,c=bV k:=⟨_,rfl⟩
   rw [← hcq] at hrng
   have hlb:cq.length=16:=by rw [hcq,zB];exact HL.out.1
   have s5:zBp 16 w5 xb xo:=zFY hrng hlb
   have r5:zN 16 w5 xb xo=cq:=zA3 hrng hlb
   have hqa:zAQ 16 cq:=⟨hlb,fun v hv=>by rw [hcq] at hv;exact zAH _ v hv⟩
   have hcl:=zAO true hlb (.slice none 0 0)
   have hca:zAQ 18 (zW true cq (.slice none 0 0)):=⟨hcl,zBg _ (fun v hv=>by rw [hcq] at hv;exact zAH _ v hv) _ rfl⟩
   have HX:=Lib.hid (And.intro hY.bys (And.intro (HB4.out.trans (hB5.mono HB4.out.size)) (And.intro (HL.out.2.2.2.1.kept hB5) hcq)))
   clear hX hX2 hY hB5 hrng hcq
   go_upto_region 8 with fail
   have hk8:Blk (w5.alloc (.cells (zW true cq (.slice none 0 0)).toArray 205)) w5.heap.size (zW true cq (.slice none 0 0)).toArray 205:=Blk.new _ _ _
   have hbW:Below w5.heap.size w5 (w5.alloc (.cells (zW true cq (.slice none 0 0)).toArray 205)):=(Below.refl _ _).alloc (Nat.le_refl _) _
   obtain ⟨w6,hw6⟩:∃ x,x=w5.alloc (.cells (zW true cq (.slice none 0 0)).toArray 205):=⟨_,rfl⟩
   obtain ⟨p8,hp8⟩:∃ x,x=w5.heap.size:=⟨_,rfl⟩
   have hz6:w6.heap.size=p8+1:=by rw [hw6,hp8];simp
   rw [← hw6] at hk8 hbW ⊢
   rw [← hp8] at hk8 ⊢
   have H6:=Lib.hid (And.intro hk8 (And.intro (HX.out.1.below hbW) (And.intro (HX.out.2.1.trans (hbW.mono HX.out.2.1.size)) (And.intro (HX.out.2.2.1.kept hbW) (And.intro hp8 hz6)))))
   have hw8:w.heap.size≤p8:=by rw [hp8];exact HX.out.2.1.size
   have hp48:p4 < p8:=by rw [hp8];exact HX.out.2.2.1.lt
   clear hw6 hp8 hz6 hk8 hbW s5 r5 hcl hca
   go_loopw [5] (fun v5 wr=>∃ (i:Nat) (u:Value),i≤n∧Hid (Bys wr v5 (blB (l.drop i))∧Blk wr p8 (zW true cq u).toArray 205∧Blk wr p4 cz.toArray 205∧zAF 53 wr (p8+1) (fun b=>b < p8+1) u (l.take i)∧Below w.heap.size w wr∧p8+1≤wr.heap.size)) (fun v5 _=>sLenB v5)
   case atStart=>exact ⟨0,.slice none 0 0,Nat.zero_le _,H6.out.2.1,H6.out.1,H6.out.2.2.2.1,zAF.nil _ _ _ _,H6.out.2.2.1,by rw [H6.out.2.2.2.2.2];exact Nat.le_refl _⟩
   case round =>
    obtain ⟨i,u,hi0,G⟩:=hrel
    obtain ⟨ba,bc,eb⟩:=G.out.1.eq_slice
    by_cases hin:i < n
    · have hx:l[i]?=some (l[i]'(by have:=HL.out.2.2.1;omega)):=by simp
      generalize l[i]'(by have:=HL.out.2.2.1;omega)=x at hx
      have hdrop:l.drop i=x::l.drop (i+1):=by
       have hi:=(List.getElem?_eq_some_iff.1 hx).1
       rw [List.drop_eq_getElem_cons hi]
       rw [List.getElem?_eq_getElem hi] at hx
       cases hx;rfl
      have hbo:zDy (l.drop i):=HL.out.2.1.sub fun y hy=>List.mem_of_mem_drop hy
      have hlen:=zIM (l.drop i) hbo
      rw [List.length_drop] at hlen
      have hl16:=HL.out.2.2.2.2
      obtain ⟨t1,t2⟩:=takeBl (l.drop i) hbo x (l.drop (i+1)) hdrop
      have hxn:=HL.out.2.1.num x (List.mem_of_getElem? hx)
      obtain ⟨m,hm⟩:∃ m:Nat,m=x.1.toNat:=⟨_,rfl⟩
      have hm2:x.1=(m:Int):=by omega
      have hmb:m < 16:=by omega
      rw [← hm] at t1
      have hpos:0 < (blB (l.drop i)).length:=by rw [hdrop,zFD,List.length_append,Cod.zCS];omega
      have hq:(Cod.net x.2++blB (l.drop (i+1))).length < (blB (l.drop i)).length∧(blB (l.drop (i+1))).length < (blB (l.drop i)).length:=by
       rw [hdrop,zFD]
       simp only [List.length_append,Cod.zCS]
       omega
      have hT1:=zDj _ (blB (l.drop i)) _ _ wr G.out.1 (by omega) t1
      obtain ⟨q,hqq⟩:∃ k,k=(blB (l.drop i)).length:=⟨_,rfl⟩
      rw [← hqq] at eb hpos hq
      have HT1:=Lib.hid (And.intro hT1 (And.intro t2 (And.intro hx (And.intro hm2 (And.intro hq hqq)))))
      have d0:decide ((0:Int) < (q:Int))=true:=by simp;omega
      have d0':decide (0 < q)=true:=by simp;omega
      have hq6:q≤1000000:=by omega
      subst eb
      clear hT1 t1 t2 hx hdrop hbo hlen hxn hm hm2 hq hqq hl16 hpos
      go_wp2_with fail
      refine HT1.out.1.mono ?_
      rintro r w7 ⟨vx,vy,rfl,hX,hY,hB7⟩
      obtain ⟨xa,xc,rfl⟩:=hX.eq_slice
      obtain ⟨ya,yc,rfl⟩:=hY.eq_slice
      obtain ⟨q2,hq2⟩:∃ k,k=(Cod.net x.2++blB (l.drop (i+1))).length:=⟨_,rfl⟩
      have H7:=Lib.hid (And.intro hX.bys (And.intro hY.bys (And.intro hB7 hq2)))
      have hT2:=zDj _ _ _ _ w7 hY.bys (by have:=HT1.out.2.2.2.2.1.1;omega) HT1.out.2.1
      rw [← hq2] at hT2 ⊢
      rw [Cod.zAR]
      have HT2:=Lib.hid hT2
      clear hX hY hB7 hq2 hT2
      go_wp2_with fail
      refine HT2.out.mono ?_
      rintro r w8 ⟨vx2,vy2,rfl,hX,hY,hB8⟩
      obtain ⟨za,zc,rfl⟩:=hX.eq_slice
      obtain ⟨ra,rc,rfl⟩:=hY.eq_slice
      have hg:=zHn _ (Cod.be 1 m) w8 (H7.out.1.below hB8) (by rw [Cod.zAR];omega)
      rw [Cod.zLd 1 m (by omega),Cod.zAR] at hg
      obtain ⟨q3,hq3⟩:∃ k,k=(blB (l.drop (i+1))).length:=⟨_,rfl⟩
      obtain ⟨q4,hq4⟩:∃ k,k=x.2.length:=⟨_,rfl⟩
      have H8:=Lib.hid (And.intro hX (And.intro hY (And.intro hB8 (And.intro hg (And.intro hq3 hq4)))))
      rw [← hq3,← hq4]
      clear hX hY hB8 hg hq3 hq4
      go_wp2_with fail
      refine H8.out.2.2.2.1.mono ?_
      rintro r w9 ⟨rfl,rfl⟩
      have hb8:=H7.out.2.2.1.trans (H8.out.2.2.1.mono H7.out.2.2.1.size)
      have hk8:=G.out.2.1.kept hb8
      have c17:w8.cell? ⟨p8,17,none⟩=some u:=by rw [hk8.cell];have:=zBF true hlb u;simpa using this
      have f17:=hk8.free 17
      have H9:=Lib.hid (And.intro hb8 (And.intro hk8 ((G.out.2.2.2.1).below hb8)))
      obtain ⟨ua,uc,hu,_⟩:=H9.out.2.2.slice
      have hti:(l.take i).length=i:=by rw [List.length_take];have:=HL.out.2.2.1;omega
      rw [hti] at hu
      have HTI:=Lib.hid hti
      subst hu
      have hX8:=H8.out.1
      have hl16:=HL.out.2.2.2.2
      have hd:zAX w8 (fun b=>b < p8+1) (.slice za q4 zc) x.2:=by
       have hz7:=G.out.2.2.2.2.2
       have hz8:=H7.out.2.2.1.size
       have:=hX8.data (N:=fun b=>b < p8+1) fun b hb _=>by omega
       rw [← H8.out.2.2.2.2.2] at this
       exact this
      have hdn:∀ a n c,Value.slice za q4 zc=.slice (some a) n c→(Value.slice ua i uc).ownBlock≠some a.block:=fun a n c e e2=>by
       injection e with e1 _ _
       have h1:=(hX8.lt a.block (by rw [e1];simp [Value.ownBlock])).1
       have h2:=(G.out.2.2.2.1.lt _ e2).2
       have h3:=H7.out.2.2.1.size
       omega
      have hz9:p8+1≤w8.heap.size:=Nat.le_trans G.out.2.2.2.2.2 H9.out.1.size
      obtain ⟨vs,g1,g2,g3,g4⟩:=H9.out.2.2.below ((Below.refl w8.heap.size w8).alloc (Nat.le_refl _) (.cells #[.int .i64 m,.slice za q4 zc] 53))
      rw [HTI.out] at g2
      have HV:=Lib.hid (And.intro g1 (And.intro g2 (And.intro g3 (And.intro g4 (And.intro hd hdn)))))
      clear hb8 hk8 hti hX8 hd hdn g1 g2 g3 g4
      have hi16:i < 16:=by have:=HL.out.2.2.1;omega
      go_wp2_with
       (first
        | (refine zCV (by rfl) (fun _ hK=>zIu EKb _ _ (by rfl) (base:=p8+1) [.int .i64 m,.slice za q4 zc] (by rfl) (by rfl) (by rfl) (zEC (by rfl)) (one2 _ _ _) HV.out.2.1 (by omega) (by decide) (by simp;omega) hK) ?_
           intro x1 w11 hx1
           obtain ⟨y1,yc1,rfl,_⟩:=zAE hx1.1
           have h88:Blk w11 p8 (zW true cq (.slice ua i uc)).toArray 205:=Blk.grown' (H9.out.2.1.alloc (.cells #[.int .i64 m,.slice za q4 zc] 53)) hx1.2.1 (fun e=>by have:=(G.out.2.2.2.1.lt _ e).1;omega)
           have f88:=h88.free 17
           have c88:w11.cell? ⟨p8,17,none⟩=some (.slice ua i uc):=by rw [h88.cell];have:=zBF true hlb (.slice ua i uc);simpa using this
           have H11:=Lib.hid (And.intro hx1 h88)
           clear hx1 h88)
        | fail)
      have hrow:=zAF.push (x:=x) HV.out.1 HV.out.2.2.1 HV.out.2.2.2.1 (HV.out.2.2.2.2.1.chg (S:=fun _=>False) (Chg.of_below ((Below.refl w8.heap.size w8).alloc (Nat.le_refl _) _)) (fun _ h=>h.elim)) HV.out.2.2.2.2.2 (by rw [HTI.out,HT1.out.2.2.2.1];exact H11.out.1.1) H11.out.1.2.1 H11.out.1.2.2
      have htk:l.take (i+1)=l.take i++[x]:=by rw [List.take_add_one,HT1.out.2.2.1];rfl
      have hbw:Below w.heap.size w w11:=zg ((G.out.2.2.2.2.1.trans (H9.out.1.mono G.out.2.2.2.2.1.size)).alloc (by omega) (.cells #[.int .i64 m,.slice za q4 zc] 53)) H11.out.1.2.1 (fun k hk=>by have:=(G.out.2.2.2.1.lt k hk).1;omega)
      have hk4:Blk w11 p4 cz.toArray 205:=Blk.grown' ((G.out.2.2.1.kept H9.out.1).alloc _) H11.out.1.2.1 (fun e=>by have:=(G.out.2.2.2.1.lt _ e).1;omega)
      have hcs:Chg (fun b=>(Value.slice ua i uc).ownBlock=some b∨b=p8) w8 (w11.setCell ⟨p8,17,none⟩ (.slice y1 (i+1) yc1)):=Chg.set (S:=fun b=>(Value.slice ua i uc).ownBlock=some b∨b=p8) (a:=⟨p8,17,none⟩) (Chg.grown (Chg.of_below ((Below.refl w8.heap.size w8).alloc (Nat.le_refl _) _)) H11.out.1.2.1 (fun q hq=>.inl (.inl hq))) (.inr rfl) _
      have hz7:=H7.out.2.2.1.size
      have hrest:=H8.out.2.1.chg hcs (fun g hg hS=>by
       have h1:=(H8.out.2.1.lt g hg).1
       rcases hS with hS | hS
       · have:=(G.out.2.2.2.1.lt _ hS).2;omega
       · have:=G.out.2.2.2.2.2;omega)
      have hq3:q3 < q:=by rw [H8.out.2.2.2.2.1];exact HT1.out.2.2.2.2.1.2
      refine ⟨⟨i+1,.slice y1 (i+1) yc1,by omega,?_,?_,?_,?_,?_,?_⟩,?_⟩
      · have:=hrest.bys
        rwa [← H8.out.2.2.2.2.1] at this
      · have:=H11.out.2.set 17 (.slice y1 (i+1) yc1)
        rwa [zFj true hlb] at this
      · exact hk4.set_other (fun e=>by have e':p8=p4:=e;omega) _
      · rw [htk]
        refine hrow.chg (S:=fun b=>b=p8) (Chg.set (S:=fun b=>b=p8) (a:=⟨p8,17,none⟩) (Chg.refl _ _) rfl _) (fun g hg e=>?_) (fun b hb _=>?_)
        · have h1:=(hrow.lt g hg).1
          omega
        · rw [hb];omega
      · exact hbw.setCell hw8 _
      · have:=H11.out.1.2.1.size
        simp at this ⊢
        omega
      · show q3 < q
        exact hq3
    · have hfull:l.take i=l:=List.take_of_length_le (by have:=HL.out.2.2.1;omega)
      have hnil:blB (l.drop i)=[]:=by rw [List.drop_of_length_le (by have:=HL.out.2.2.1;omega)];rfl
      rw [hnil] at eb
      have HF:=Lib.hid hfull
      have hk8:=G.out.2.1
      have r8:zN 18 wr p8 0=zW true cq u:=zP hk8 (zAO true hlb u)
      have h8:zY 18 wr p8 0:=zL hk8 (by simp [zAO true hlb u])
      have h4:zY 18 wr p4 0:=zL G.out.2.2.1 (by simp [hzl])
      have ha8:zAQ 18 (zW true cq u):=⟨zAO true hlb u,zBg _ hqa.2 _ (by obtain ⟨a,c,e,_⟩:=G.out.2.2.2.1.slice;rw [e];rfl)⟩
      have HLD:=Lib.hid (zD6 h4 ha8)
      clear hfull hnil hk8
      subst eb
      go_wp2_with fail
      have hset:Chg (fun b=>b=p4) wr (wr.setCells p4 0 (zW true cq u)):=Chg.setCells (S:=fun b=>b=p4) (L:=p4) rfl _ _ _ (Chg.refl _ _)
      refine bodyPost_ret (v:=.agg (zW true cq u).toArray) (by simp [results,Tryz.results144,asAddr,HLD.out]) rfl ⟨u,by rw [HX.out.2.2.2];rfl,?_,?_⟩
      · have hO:=G.out.2.2.2.1
        rw [HF.out] at hO
        refine ((hO.chg hset (fun g hg e=>?_) (fun b hb _=>?_)).lower (by omega)).mono (fun b hb=>.inl (by omega))
        · have h1:=(hO.lt g hg).1
          omega
        · rw [hb];omega
      · exact ((Chg.of_below (S:=fun k=>w.heap.size≤k) G.out.2.2.2.2.1).mix hset (fun k hk=>.inl (by rw [hk,HB0.out.2.2.2.2.1];omega))).below (Nat.le_refl _) (fun _ h=>h)
end Go.Proofs.YtbbojbdigiibbaaGreatDoor
end
section
namespace Go.Proofs.YtbbojbdigiibbaaGreatDoor
open Go Go.RowKit Go.Mem Gf Lea
attribute [local go_sem ↓] Go.wp_at_zero Go.wp_at_succ
set_option maxRecDepth 100000 in
set_option maxHeartbeats 1000000 in
theorem zD5 (w:World) (tb:Nat) (v:Value) (l:List Les) (h:Heap w tb v l) (hl:l.length≤90000) :
  Calls Tryz.prog 79 #[.pointer (some ⟨tb,0,none⟩)] w fun r w'=>∃ t2 v2,r=.returned (.pointer (some ⟨t2,0,none⟩))∧w.heap.size≤t2∧(∀ g,v2.ownBlock=some g→w.heap.size≤g)∧Heap w' t2 v2 l∧Below w.heap.size w w':=by
 have hcell:w.cell? ⟨tb,0,none⟩=some v:=by simpa using h.tab.cell.cell 0
 have hfin:∀ v1 x1,x1.ownsRow w.heap.size 175 33 v1 l.length (zAe l)→w.grownBy x1 none→w.heap.size≤x1.heap.size∧(∀ g,v1.ownBlock=some g→w.heap.size≤g)∧Heap (x1.alloc (.cells #[v1] 156)) x1.heap.size v1 l∧Below w.heap.size w (x1.alloc (.cells #[v1] 156)):=fun v1 x1 hv hg=>by
  have hB:Below w.heap.size w x1:=(Chg.grown (S:=fun _=>False) (Chg.refl _ _) hg (fun q hq=>by cases hq)).below (Nat.le_refl _) (fun _ h=>h.elim)
  have hge:∀ g,v1.ownBlock=some g→w.heap.size≤g∧g < x1.heap.size:=fun g e=>hv.lt g e
  have hv':=zAg (S:=fun _=>False) hv (Chg.of_below ((Below.refl _ _).alloc (Nat.le_refl _) (.cells #[v1] 156))) (fun _ _ h=>h)
  refine ⟨hB.size,fun g e=>(hge g e).1,⟨⟨Blk.new _ _ _,⟨hv'.1,?_⟩,h.tab.wf,fun e=>?_⟩,h.heap⟩,hB.alloc hB.size _⟩
  · rcases hv'.2 with e | ⟨g,cap,cur,e1,h1,h2⟩
    · exact .inl e
    · exact .inr ⟨g,cap,cur,e1,Nat.zero_le _,h2⟩
  · have:=(hge _ e).2
    omega
 have HF:=Lib.hid hfin
 obtain ⟨n,hn⟩:∃ n,n=l.length:=⟨_,rfl⟩
 have HN:=Lib.hid hn
 clear hfin
 rcases h.tab.own.2 with ⟨rfl,e0⟩ | ⟨g,cap,cur,rfl,hrest⟩
 · have H0:Hid (l=[]):=by
    refine List.eq_nil_of_length_eq_zero ?_
    have:=zAw l h.tab.wf
    rw [e0] at this
    simp at this
    omega
   clear h e0 hn
   go_enter Tryz.func79,Tryz.ntmps79
   go_wp2_with fail
   go_ret
   have:=HF.out (.slice none 0 0) w (by rw [H0.out];exact World.ownsRow_nil _ _ _ _) ⟨rfl,rfl,rfl,Nat.le_refl _,fun _ _ _=>rfl⟩
   exact ⟨_,_,rfl,Nat.le_refl _,this.2.1,this.2.2.1,this.2.2.2⟩
 · have hrow:Row 175 w 0 g l.length cap l:=⟨h.tab.own,rfl,h.tab.wf⟩
   have HR:=Lib.hid hrow
   rw [← hn] at hcell
   clear h hrow hrest hn
   go_enter Tryz.func79,Tryz.ntmps79
   go_wp2_with
    (first
     | (refine zCV (by rfl) (R:=fun v' w'=>w'.ownsRow w.heap.size 175 33 v' (0+n) ([]++zAe l)∧w.grownBy w' none∧(∀ k,v'.ownBlock=some k→(none:Option Nat)=some k∨w.heap.size≤k)) (fun _ hK=>zIu EKi _ _ (by rfl) (base:=w.heap.size) (v:=.slice none 0 0) (n:=0) (m:=n) (cx:=cap) (xs:=[]) (zAe l) (by rfl) (mb:=g) (by rfl) (by rw [zAw l HR.out.wf,HN.out]) (fun j u hj=>by rw [HR.out.cell (by have:=zq hj;rw [zAw l HR.out.wf] at this;exact this)];exact hj) (fun u hu=>by obtain ⟨x,_,hx⟩:=List.mem_flatMap.1 hu;exact zEw x u hx) (World.ownsRow_nil _ _ _ _) (by have:=HN.out;omega) (by decide) (Nat.le_refl _) (fun v' w' hh=>hK v' w' hh)) ?_
        rintro v1 x1 ⟨hv1,hg1,_⟩
        obtain ⟨a1,c1,rfl,_⟩:=zAE hv1
        have HV1:=Lib.hid hv1;have HG1:=Lib.hid hg1
        clear hv1 hg1)
     | fail)
   all_goals
    go_ret
    have hv:=HV1.out
    rw [Nat.zero_add,List.nil_append] at hv
    have:=HF.out _ x1 (by rw [← HN.out];exact hv) HG1.out
    exact ⟨_,_,rfl,this.1,this.2.1,this.2.2.1,this.2.2.2⟩
end Go.Proofs.YtbbojbdigiibbaaGreatDoor
end
section
namespace Go.Proofs.YtbbojbdigiibbaaGreatDoor
open Go Go.RowKit Go.Mem Gf Lea
section
variable {w w':World} {C X S:Nat→Prop} {pb sb lb d L tb:Nat} {v:Value} {s:zG}
theorem zAp.store (h:zAp w C X pb sb lb d L tb v s) {st':St} (hc:Chg (zBZ sb lb d L) w w') (hs:zt w' (fun b=>C b∨X b) sb lb d L st'):zAp w' C X pb sb lb d L tb v { s with st:=st' }:=by
 refine ⟨hc.blk h.blk h.npb,hs,⟨h.heap.tab.chg hc h.ntb.1 (fun g hg=>(h.nown g hg).1),h.heap.heap⟩,h.good,h.core,h.xc,h.npb,h.ntb,h.nown⟩
theorem zAp.foot (h:zAp w C X pb sb lb d L tb v s):∀ b,zBZ sb lb d L b→C b:=fun b hb=>h.core b (.inl hb)
theorem zAp.shrinkX {X':Nat→Prop} (h:zAp w C X pb sb lb d L tb v s) (hx:∀ b,X' b→X b):zAp w C X' pb sb lb d L tb v s:=by
 have hN:∀ b,(C b∨X' b)→(C b∨X b):=fun b hb=>hb.imp id (hx b)
 have hst:=h.st
 exact ⟨h.blk,⟨hst.blk,hst.recs.mono (fun b hb=>.inl (hN b hb)),hst.disk,hst.tab,fun hg=>hst.ntab (hN _ hg),fun b hb=>.inl (h.core b (.inl hb)),hst.ne,hst.ok,fun b hb=>hst.old b (hN b hb)⟩,h.heap,h.good,h.core,fun b hb=>h.xc b (hx b hb),h.npb,h.ntb,h.nown⟩
theorem zAp.lay {t2:Nat} {v2:Value} {l2:List Les} (h:zAp w C X pb sb lb d L tb v s) (h2:Heap w t2 v2 l2) (hg:Lea.Good l2) (hx:X t2) (hxo:∀ g,v2.ownBlock=some g→X g) :
  zAp (w.setCell ⟨pb,4,none⟩ (.pointer (some ⟨t2,0,none⟩))) (fun b=>C b∨b=t2∨v2.ownBlock=some b) (fun b=>X b∧¬ (b=t2∨v2.ownBlock=some b)) pb sb lb d L t2 v2 { s with tab:=l2 }:=by
 have hcpb:C pb:=h.core pb (.inr (.inl rfl))
 have hc:Chg (fun b=>b=pb) w (w.setCell ⟨pb,4,none⟩ (.pointer (some ⟨t2,0,none⟩))):=Chg.set (S:=fun b=>b=pb) (a:=⟨pb,4,none⟩) (Chg.refl _ _) rfl _
 have hne:t2≠pb:=fun e=>h.xc t2 hx (by rw [e];exact hcpb)
 have hN:(fun b=>(C b∨b=t2∨v2.ownBlock=some b)∨(X b∧¬ (b=t2∨v2.ownBlock=some b)))=fun b=>C b∨X b:=by
  funext b
  apply propext
  constructor
  · rintro ((hb | rfl | hb) | ⟨hb,_⟩)
    · exact .inl hb
    · exact .inr hx
    · exact .inr (hxo b hb)
    · exact .inr hb
  · rintro (hb | hb)
    · exact .inl (.inl hb)
    · by_cases hq:b=t2∨v2.ownBlock=some b
      · exact .inl (.inr hq)
      · exact .inr ⟨hb,hq⟩
 refine ⟨?_,by rw [hN];exact h.st.chg hc (fun b hb e=>h.npb (by rw [← e];exact hb)) (fun b hb _=>.inl (by rw [hb];exact hcpb)),⟨h2.tab.chg hc hne (fun g hg' e=>h.xc g (hxo g hg') (by rw [e];exact hcpb)),h2.heap⟩,hg,?_,?_,h.npb,⟨fun hf=>h.xc t2 hx (h.foot t2 hf),hne⟩,fun g hg'=>⟨fun hf=>h.xc g (hxo g hg') (h.foot g hf),fun e=>h.xc g (hxo g hg') (by rw [e];exact hcpb)⟩⟩
 · have:=h.blk.set 4 (.pointer (some ⟨t2,0,none⟩))
   exact this
 · rintro b (hb | hb | hb | hb)
   · exact .inl (h.foot b hb)
   · exact .inl (by rw [hb];exact hcpb)
   · exact .inr (.inl hb)
   · exact .inr (.inr hb)
 · rintro b ⟨hb,hn⟩ (hc' | hc')
   · exact h.xc b hb hc'
   · exact hn hc'
end
def zDY (s:zG) (ix:Key) (out:List Sec):Int × St:=if out.length=0 then zAd s.st (zD ix) else zO s.st (zD ix) (zu out)
def zGc (s:zG) (ix:Key) (l2:List Les) (err:Int) (s':zG):Prop :=
 ∃ out,OfR l2 ix out∧err=(zDY s ix out).1∧s'=(if err=0∨err=8 then { s with st:=(zDY s ix out).2,tab:=l2 } else { s with st:=(zDY s ix out).2 })
structure zCP (s:zG):Prop where
 tab:s.tab.length≤80000
 writes:s.st.disk.writes < 72057594037900000
theorem zIX {w w4:World} {C X:Nat→Prop} {pb sb lb d L tb t2:Nat} {v v2:Value} {s:zG} {st4:St} {l2:List Les} (hA:zAp w4 C X pb sb lb d L tb v { s with st:=st4 }) (hc:Chg C w w4) (h2:Heap w t2 v2 l2) (hg:Lea.Good l2) (hx:X t2) (hxo:∀ g,v2.ownBlock=some g→X g) :
  ∃ C' X',zT (w4.setCell ⟨pb,4,none⟩ (.pointer (some ⟨t2,0,none⟩))) C' X' pb { s with st:=st4,tab:=l2 }∧Chg C w (w4.setCell ⟨pb,4,none⟩ (.pointer (some ⟨t2,0,none⟩)))∧(∀ b,C' b→C b∨b=t2∨v2.ownBlock=some b)∧∀ b,X b→¬ (b=t2∨v2.ownBlock=some b)→X' b:=by
 have hcpb:C pb:=hA.core pb (.inr (.inl rfl))
 have h24:Heap w4 t2 v2 l2:=⟨h2.tab.chg hc (hA.xc t2 hx) (fun g hg'=>hA.xc g (hxo g hg')),h2.heap⟩
 exact ⟨_,_,⟨sb,lb,d,L,t2,v2,hA.lay h24 hg hx hxo⟩,Chg.set (S:=C) (a:=⟨pb,4,none⟩) hc hcpb _,fun b hb=>hb,fun b h1 h2=>⟨h1,h2⟩⟩
theorem zJe {w w1 w':World} {C X:Nat→Prop} {pb sb lb d L tb p3:Nat} {v:Value} {s:zG} {ck:List Value} {t:TypeId} (h:zAp w C X pb sb lb d L tb v s) (hb:Below w.heap.size w w1) (hk:Blk w1 p3 ck.toArray t) (hb1:Below w1.heap.size w1 w') :
  w'.cell? ⟨pb,3,none⟩=some (.pointer (some ⟨sb,0,none⟩))∧w'.rangeAt p3 0 ck :=
 ⟨((h.below hb).below hb1).blk.cell 3,fun j v hj=>by rw [(hk.kept hb1).cell,Nat.zero_add];simpa using hj⟩
theorem zCp {w w':World} {base:Nat} {v:Value} {bs:List UInt8} (h:zBT 5 w base v bs) (hb:Below w.heap.size w w'):zBT 5 w' base v bs:=zAg (S:=fun _=>False) h (Chg.of_below hb) (fun _ _ h=>h)
theorem zG7 {w:World} {base b:Nat} {v:Value} {bs:List UInt8} (h:zBT 5 w base v bs) (hb:b≤base):zBT 5 w b v bs:=by
 obtain ⟨h1,h2⟩:=h
 refine ⟨h1,?_⟩
 rcases h2 with h | ⟨g,cap,cur,e,h3,h4⟩
 · exact .inl h
 · exact .inr ⟨g,cap,cur,e,Nat.le_trans hb h3,h4⟩
attribute [local go_sem ↓] Go.wp_at_zero Go.wp_at_succ
attribute [local go_sem ↓] zAK
attribute [local go_sem] ptrB_eq ptrO_eq ptrIs_eq zS ze zC zF zX zZ
set_option maxRecDepth 100000 in
set_option maxHeartbeats 1000000 in
theorem zHp (C X:Nat→Prop) (pb:Nat) (s:zG) (ix:Key) (hix:ix.length=16) (t2:Nat) (v2:Value) (l2:List Les) (w:World) (h:zT w C X pb s) (hB:zCP s) (h2:Heap w t2 v2 l2) (hg:Lea.Good l2) (hl2:l2.length≤90000) (hx:X t2) (hxo:∀ g,v2.ownBlock=some g→X g) :
  Calls Tryz.prog 148 #[.pointer (some ⟨pb,0,none⟩),.agg (bV ix).toArray,.pointer (some ⟨t2,0,none⟩)] w fun e w'=>∃ C' X' err s',e=.returned (.int .i64 err)∧zGc s ix l2 err s'∧zT w' C' X' pb s'∧Chg C w w'∧(∀ b,C' b→C b∨b=t2∨v2.ownBlock=some b)∧∀ b,X b→¬ (b=t2∨v2.ownBlock=some b)→X' b:=by
 obtain ⟨sb,lb,d,L,tb,v,h⟩:=h
 have H:=Lib.hid (And.intro h (And.intro h2 (And.intro hg (And.intro hx (And.intro hxo (And.intro hB hix))))))
 have k1:=(zAT hix).1
 have k2:=(zAT hix).2
 have HB:=Lib.hid ((Below.refl w.heap.size w).alloc (Nat.le_refl _) (.cells (bV ix).toArray 39))
 have HK:=Lib.hid (Blk.new w (bV ix).toArray 39)
 obtain ⟨ck,hck⟩:∃ c,c=bV ix:=⟨_,rfl⟩
 have HCK:=Lib.hid hck
 rw [← hck] at k1 k2 HB HK ⊢
 have hu16:=Tryz.underlying39
 have hi16:(Tryz.prog.info? 39).map (·.size)=some ck.length:=by rw [k2];exact i16
 clear h h2 hg hx hxo hB hix hck
 go_enter Tryz.func148,Tryz.ntmps148
 go_wp2_with fail
 have hT:=H.out.2.1.below HB.out
 refine (show Calls _ _ _ _ _ from (by rw [HCK.out];exact zCo (w.alloc (.cells (bV ix).toArray 39)) t2 v2 l2 ix (by rw [← HCK.out];exact hT.tab) (by omega) H.out.2.2.2.2.2.2 (by have:=H.out.2.2.1.few ix;omega))).mono ?_
 rintro r w1 ⟨vo,out,rfl,hO,hR,hb1⟩
 obtain ⟨oa,oc,rfl⟩:=hO.slice
 obtain ⟨n,hn⟩:∃ n,n=out.length:=⟨_,rfl⟩
 rw [← hn]
 rw [← HCK.out] at hb1
 have hk1:=HK.out.kept hb1
 have hbw:=HB.out.trans (hb1.mono HB.out.size)
 obtain ⟨p3,hp3⟩:∃ p,p=w.heap.size:=⟨_,rfl⟩
 rw [← hp3] at hk1 ⊢
 have H1:=Lib.hid (And.intro hR (And.intro hn (And.intro hbw (And.intro hk1 hp3))))
 have c3:w1.drew.cell? ⟨pb,3,none⟩=some (.pointer (some ⟨sb,0,none⟩)):=(H.out.1.below hbw).blk.cell 3
 have r3:w1.drew.rangeAt p3 0 ck:=fun j v hj=>by
  rw [(hk1.drew).cell,Nat.zero_add]
  simpa using hj
 clear hT hO hR hn hb1 hk1 hbw hp3
 by_cases h0:n=0
 · have HOUT:=Lib.hid (show out.length=0 from by rw [← H1.out.2.1,h0])
   subst h0
   go_upto_region 3 with fail
   go_region_held3 (fun w'=>w'.cell? ⟨pb,3,none⟩=some (.pointer (some ⟨sb,0,none⟩))∧w'.rangeAt p3 0 ck) (first | exact ⟨c3,r3⟩ | with_reducible assumption)
    (first
     | (go_at_call 58
        refine (show Calls _ _ _ _ _ from (by rw [HCK.out];exact zA8 ix H.out.2.2.2.2.2.2 w1.drew)).mono ?_
        rintro e w2 ⟨rfl,hb2⟩
        have hb2:Below w1.heap.size w1 w2:=zA1 hb2
        have hbw2:=H1.out.2.2.1.trans (hb2.mono H1.out.2.2.1.size)
        have hh:w2.cell? ⟨pb,3,none⟩=some (.pointer (some ⟨sb,0,none⟩))∧w2.rangeAt p3 0 ck:=⟨(H.out.1.below hbw2).blk.cell 3,fun j v hj=>by
         rw [(H1.out.2.2.2.1.kept hb2).cell,Nat.zero_add]
         simpa using hj⟩
        have HB2:=Lib.hid (And.intro hb2 hbw2)
        clear hb2 hbw2)
     | (go_at_call 109
        refine (zGF _ sb lb d L s.st (zD ix) w2 (H.out.1.below HB2.out.2).st (by have:=H.out.2.2.2.2.2.1.writes;omega)).mono ?_
        rintro e w4 ⟨rfl,hst4,hc4⟩
        have hA4:=(H.out.1.below HB2.out.2).store hc4 hst4
        have HG:=Lib.hid (And.intro hc4 hA4)
        have hh:w4.cell? ⟨pb,3,none⟩=some (.pointer (some ⟨sb,0,none⟩))∧w4.rangeAt p3 0 ck:=⟨hA4.blk.cell 3,fun j v hj=>by
         rw [(hc4.blk (H1.out.2.2.2.1.kept HB2.out.1) (fun hf=>by have:=(H.out.1.lt (.inl (H.out.1.foot _ hf)));have:=H1.out.2.2.2.2;omega)).cell,Nat.zero_add]
         simpa using hj⟩
        clear hst4 hc4 hA4))
   have hlr:zDY s ix out=zAd s.st (zD ix):=by unfold zDY;rw [if_pos HOUT.out]
   have hcC:Chg C w w4:=(Chg.of_below HB2.out.2).trans (HG.out.1.mono H.out.1.foot)
   obtain ⟨z,hz⟩:∃ z,z=(zAd s.st (zD ix)).1:=⟨_,rfl⟩
   obtain ⟨q,hq⟩:∃ q,q=(zAd s.st (zD ix)).2:=⟨_,rfl⟩
   have hA4:=HG.out.2
   rw [← hq] at hA4
   rw [← hz]
   have HZ:=Lib.hid (And.intro hlr (And.intro hz (And.intro hq (And.intro hcC hA4))))
   have c4:w4.cell? ⟨pb,4,none⟩=some (.pointer (some ⟨tb,0,none⟩)):=hA4.blk.cell 4
   have f4:w4.frozen? ⟨pb,4,none⟩=false:=hA4.blk.free 4
   clear hlr hcC hz hq hA4 c3 r3 hh
   by_cases hz0:z=0
   · have HLR:Hid (zGc s ix l2 z { s with st:=q,tab:=l2 }):=⟨out,H1.out.1,by rw [HZ.out.1];exact HZ.out.2.1,by rw [if_pos (.inl hz0),HZ.out.1,← HZ.out.2.2.1]⟩
     have t1:(z == 0)=true:=by simpa using hz0
     replace hz0:=Lib.hid hz0
     go_wp2_with fail
     go_ret
     obtain ⟨C',X',q1,q2,q3,q4⟩:=zIX HZ.out.2.2.2.2 HZ.out.2.2.2.1 H.out.2.1 H.out.2.2.1 H.out.2.2.2.1 H.out.2.2.2.2.1
     exact ⟨C',X',z,_,rfl,HLR.out,q1,q2,q3,q4⟩
   · have t1:(z == 0)=false:=by simpa using hz0
     by_cases hz8:z=8
     · have HLR:Hid (zGc s ix l2 z { s with st:=q,tab:=l2 }):=⟨out,H1.out.1,by rw [HZ.out.1];exact HZ.out.2.1,by rw [if_pos (.inr hz8),HZ.out.1,← HZ.out.2.2.1]⟩
       have t2':(z == 8)=true:=by simpa using hz8
       replace hz8:=Lib.hid hz8
       go_wp2_with fail
       go_ret
       obtain ⟨C',X',q1,q2,q3,q4⟩:=zIX HZ.out.2.2.2.2 HZ.out.2.2.2.1 H.out.2.1 H.out.2.2.1 H.out.2.2.2.1 H.out.2.2.2.2.1
       exact ⟨C',X',z,_,rfl,HLR.out,q1,q2,q3,q4⟩
     · have HLR:Hid (zGc s ix l2 z { s with st:=q }):=⟨out,H1.out.1,by rw [HZ.out.1];exact HZ.out.2.1,by rw [if_neg (fun h=>h.elim hz0 hz8),HZ.out.1,← HZ.out.2.2.1]⟩
       have t2':(z == 8)=false:=by simpa using hz8
       go_wp2_with fail
       go_ret
       exact ⟨C,X,z,_,rfl,HLR.out,⟨sb,lb,d,L,tb,v,HZ.out.2.2.2.2⟩,HZ.out.2.2.2.1,fun b hb=>.inl hb,fun b hb _=>hb⟩
 · have hlr:zDY s ix out=zO s.st (zD ix) (zu out):=by unfold zDY;rw [if_neg (by rw [← H1.out.2.1];exact h0)]
   obtain ⟨z0,hz⟩:∃ z,z=(zO s.st (zD ix) (zu out)).1:=⟨_,rfl⟩
   obtain ⟨q,hq⟩:∃ q,q=(zO s.st (zD ix) (zu out)).2:=⟨_,rfl⟩
   have HZ:=Lib.hid (And.intro hlr (And.intro hz hq))
   clear hlr hz hq
   have d0:((n:Int) == 0)=false:=by simpa using h0
   have d1:(n == 0)=false:=by simpa using h0
   go_upto_region 4 with fail
   refine Tail.zC4 10 (fun k=>k == 5 || k == 8 || k == 9) (fun k=>if k=5 then some (.string (zD ix)) else if k=9 then some (.int .i64 z0) else none)
    (fun D z w'=>(w'.cell? ⟨pb,3,none⟩=some (.pointer (some ⟨sb,0,none⟩))∧w'.rangeAt p3 0 ck)∧(D 9=false→Below w1.heap.size w1 w'∧(D 8=true→zBT 5 w' w1.heap.size (z 8) (zu out)))∧(D 9=true→Chg C w w'∧zAp w' C X pb sb lb d L tb v { s with st:=q }))
    (by kernel_rfl) (by kernel_rfl) (fun k hk=>by simp at hk;omega) (fun D z z' w' hz h=>⟨h.1,fun d=>⟨(h.2.1 d).1,fun d8=>by rw [← hz 8 d8];exact (h.2.1 d).2 d8⟩,h.2.2⟩) ⟨⟨c3,r3⟩,fun _=>⟨(Below.refl _ _).drew,fun h=>by cases h⟩,fun h=>by cases h⟩ (fun z=>?_)
   simp only [List.take_succ_cons,List.take_zero,List.drop_succ_cons,List.drop_zero]
   clear c3 r3
   refine Tail.zB0 (by rfl) (by rfl) ?_
   apply Exists.intro
   refine ⟨fun w=>?_,?_⟩
   · go_simp <;> with_reducible rfl
   simp only [Act.put,List.setIfInBounds_toArray,List.set_cons_zero,List.set_cons_succ]
   refine Tail.zB0 (by rfl) (by rfl) ?_
   apply Exists.intro
   refine ⟨fun w=>?_,?_⟩
   · go_simp <;> with_reducible rfl
   simp only [Act.put,List.setIfInBounds_toArray,List.set_cons_zero,List.set_cons_succ]
   refine Tail.zB0 (by rfl) (by rfl) ?_
   apply Exists.intro
   refine ⟨fun w=>?_,?_⟩
   · go_simp <;> with_reducible rfl
   simp only [Act.put,List.setIfInBounds_toArray,List.set_cons_zero,List.set_cons_succ]
   refine Tail.J_at (by rfl) (by rfl) ?_
   apply Exists.intro
   refine ⟨fun D w' _ _ hJ=>?_,?_⟩
   · have hc:=hJ.1.1
     clear hJ
     go_simp <;> with_reducible rfl
   simp only [Act.put,List.setIfInBounds_toArray,List.set_cons_zero,List.set_cons_succ]
   refine Tail.zFe (by rfl) (by rfl) _ _ rfl p3 0 (by rfl) ck (fun D w' _ _ hJ=>hJ.1.2) hu16 rfl hi16 ?_
   simp only [Act.put,List.setIfInBounds_toArray,List.set_cons_zero,List.set_cons_succ]
   refine Tail.zC6 (by rfl) (by rfl) ?_ ?_
   · apply Exists.intro
     apply Exists.intro
     refine ⟨fun w'=>?_,?_⟩
     · go_simp <;> exact ⟨rfl,rfl⟩
     intro D z' w' hD hz hd hp hJ
     have h9:D 9=false:=hp 9 (by kernel_rfl)
     have hb1:=(hJ.2.1 h9).1
     refine (show Calls _ _ _ _ _ from (by rw [HCK.out];exact zA8 ix H.out.2.2.2.2.2.2 w')).mono ?_
     rintro e w'' ⟨rfl,hb⟩
     have hb2:=hb1.trans (hb.mono hb1.size)
     refine ⟨_,rfl,fun c hc=>by simp at hc;exact hc,⟨zJe H.out.1 H1.out.2.2.1 H1.out.2.2.2.1 hb2,fun _=>⟨hb2,fun d8=>?_⟩,fun d9=>?_⟩⟩
     · have:=(hJ.2.1 h9).2 (by simpa [Tail.zB1] using d8)
       exact zCp this hb
     · simp [Tail.zB1,h9] at d9
   simp only [Act.put,List.setIfInBounds_toArray,List.set_cons_zero,List.set_cons_succ,Nat.reduceAdd,Nat.reduceEqDiff,reduceIte,Option.getD_some]
   refine Tail.zB0 (by rfl) (by rfl) ?_
   apply Exists.intro
   refine ⟨fun w=>?_,?_⟩
   · go_simp <;> with_reducible rfl
   simp only [Act.put,List.setIfInBounds_toArray,List.set_cons_zero,List.set_cons_succ]
   refine Tail.zFe (by rfl) (by rfl) _ _ rfl p3 0 (by rfl) ck (fun D w' _ _ hJ=>hJ.1.2) hu16 rfl hi16 ?_
   simp only [Act.put,List.setIfInBounds_toArray,List.set_cons_zero,List.set_cons_succ]
   refine Tail.zC6 (by rfl) (by rfl) ?_ ?_
   · apply Exists.intro
     apply Exists.intro
     refine ⟨fun w'=>?_,?_⟩
     · go_simp <;> exact ⟨rfl,rfl⟩
     intro D z' w' hD hz hd hp hJ
     have h9:D 9=false:=hp 9 (by kernel_rfl)
     have hb1:=(hJ.2.1 h9).1
     have hbw:=H1.out.2.2.1.trans (hb1.mono H1.out.2.2.1.size)
     refine (show Calls _ _ _ _ _ from (by rw [HCK.out];exact zEI w' t2 v2 l2 ix (H.out.2.1.below hbw).tab (by omega) H.out.2.2.2.2.2.2 (by have:=H.out.2.2.1.few ix;omega) H.out.2.2.1.ends (H.out.1.below hbw).tab)).mono ?_
     rintro e w'' ⟨vo,out',rfl,hO,hR,hb⟩
     have ho:out'=out:=OfR.eq hR H1.out.1 (List.Perm.refl _)
     rw [ho] at hO
     have hb2:=hb1.trans (hb.mono hb1.size)
     refine ⟨_,rfl,fun c hc=>by simp at hc,⟨zJe H.out.1 H1.out.2.2.1 H1.out.2.2.2.1 hb2,fun _=>⟨hb2,fun _=>?_⟩,fun d9=>?_⟩⟩
     · simp only [Tail.zFw,if_pos]
       exact zG7 hO hb1.size
     · simp [Tail.zB1,h9] at d9
   simp only [Act.put,List.setIfInBounds_toArray,List.set_cons_zero,List.set_cons_succ,Nat.reduceAdd,Nat.reduceEqDiff,reduceIte,Option.getD_none]
   refine Tail.zC6 (by rfl) (by rfl) ?_ ?_
   · apply Exists.intro
     apply Exists.intro
     refine ⟨fun w'=>?_,?_⟩
     · go_simp <;> exact ⟨rfl,rfl⟩
     intro D z' w' hD hz hd hp hJ
     have h9:D 9=false:=hD
     have h8:D 8=true:=hd 8 (by kernel_rfl)
     have hb1:=(hJ.2.1 h9).1
     have hbw:=H1.out.2.2.1.trans (hb1.mono H1.out.2.2.1.size)
     have hO:=(hJ.2.1 h9).2 h8
     rw [← hz 8 h8] at hO
     have hA:=H.out.1.below hbw
     have hlt:∀ b,zBZ sb lb d L b→b < w.heap.size:=fun b hb=>H.out.1.lt (.inl (H.out.1.foot b hb))
     refine (zCu _ sb lb d L s.st (zD ix) (z 8) (zu out) w' hA.st hO.bys (by rw [show (zD ix).size=17 from zER 108 H.out.2.2.2.2.2.2];decide) ?_ (fun x hx=>hO.bys.chg hx (fun a l c e hf=>?_)) (by have:=H.out.2.2.2.2.2.1.writes;omega)).mono ?_
     · have h1:=zEU out (fun y hy=>by
        obtain ⟨x,hx,e1,e2⟩:=zBs.1 (H1.out.1.perm.mem_iff.1 hy)
        rw [← e2]
        exact (H.out.2.1.tab.wf x hx).2)
       have h2:=H1.out.1.perm.length_eq
       have h3:=H.out.2.2.1.few ix
       omega
     · have h1:=(hO.lt _ (by rw [e];rfl)).1
       have h2:=hlt _ hf
       have h3:=H1.out.2.2.1.size
       omega
     rintro e w'' ⟨rfl,hst,hc⟩
     have hA2:=hA.store hc hst
     rw [← HZ.out.2.2] at hA2
     have hk:=hc.blk (H1.out.2.2.2.1.kept hb1) (fun hf=>by have:=hlt _ hf;have:=H1.out.2.2.2.2;omega)
     refine ⟨_,rfl,fun c hc'=>by simp at hc';rw [← hc',HZ.out.2.1],⟨⟨hA2.blk.cell 3,fun j v hj=>?_⟩,fun d9=>?_,fun _=>⟨(Chg.of_below hbw).trans (hc.mono H.out.1.foot),hA2⟩⟩⟩
     · rw [hk.cell,Nat.zero_add]
       simpa using hj
     · simp [Tail.zB1] at d9
   simp only [Act.put,List.setIfInBounds_toArray,List.set_cons_zero,List.set_cons_succ,Nat.reduceAdd,Nat.reduceEqDiff,reduceIte,Option.getD_some]
   intro w4 hJ4
   have HQ:=Lib.hid (hJ4.2.2 rfl)
   clear hJ4
   have c4:w4.cell? ⟨pb,4,none⟩=some (.pointer (some ⟨tb,0,none⟩)):=HQ.out.2.blk.cell 4
   have f4:w4.frozen? ⟨pb,4,none⟩=false:=HQ.out.2.blk.free 4
   by_cases hz0:z0=0
   · have HLR:Hid (zGc s ix l2 z0 { s with st:=q,tab:=l2 }):=⟨out,H1.out.1,by rw [HZ.out.1];exact HZ.out.2.1,by rw [if_pos (.inl hz0),HZ.out.1,← HZ.out.2.2]⟩
     have t1:(z0 == 0)=true:=by simpa using hz0
     replace hz0:=Lib.hid hz0
     go_wp2_with fail
     go_ret
     obtain ⟨C',X',q1,q2,q3,q4⟩:=zIX HQ.out.2 HQ.out.1 H.out.2.1 H.out.2.2.1 H.out.2.2.2.1 H.out.2.2.2.2.1
     exact ⟨C',X',z0,_,rfl,HLR.out,q1,q2,q3,q4⟩
   · have t1:(z0 == 0)=false:=by simpa using hz0
     by_cases hz8:z0=8
     · have HLR:Hid (zGc s ix l2 z0 { s with st:=q,tab:=l2 }):=⟨out,H1.out.1,by rw [HZ.out.1];exact HZ.out.2.1,by rw [if_pos (.inr hz8),HZ.out.1,← HZ.out.2.2]⟩
       have t2':(z0 == 8)=true:=by simpa using hz8
       replace hz8:=Lib.hid hz8
       go_wp2_with fail
       go_ret
       obtain ⟨C',X',q1,q2,q3,q4⟩:=zIX HQ.out.2 HQ.out.1 H.out.2.1 H.out.2.2.1 H.out.2.2.2.1 H.out.2.2.2.2.1
       exact ⟨C',X',z0,_,rfl,HLR.out,q1,q2,q3,q4⟩
     · have HLR:Hid (zGc s ix l2 z0 { s with st:=q }):=⟨out,H1.out.1,by rw [HZ.out.1];exact HZ.out.2.1,by rw [if_neg (fun h=>h.elim hz0 hz8),HZ.out.1,← HZ.out.2.2]⟩
       have t2':(z0 == 8)=false:=by simpa using hz8
       go_wp2_with fail
       go_ret
       exact ⟨C,X,z0,_,rfl,HLR.out,⟨sb,lb,d,L,tb,v,HQ.out.2⟩,HQ.out.1,fun b hb=>.inl hb,fun b hb _=>hb⟩
end Go.Proofs.YtbbojbdigiibbaaGreatDoor
end
