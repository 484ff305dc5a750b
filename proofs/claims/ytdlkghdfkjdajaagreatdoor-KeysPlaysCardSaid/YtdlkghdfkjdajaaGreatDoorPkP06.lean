/- Texts of this proof,packed: ShaFin,AppG. -/
import Derived.Test.YtdlkghdfkjdajaaGreatDoorPkP05
import Derived.Test.YtdlkghdfkjdajaaGreatDoorPkP01
section
namespace Sha
open Go.Mem
def zBS (v:H8) (i:Nat):List UInt8:=((v.l.take i).flatMap fun x=>Cod.be 4 x.toNat)++List.replicate (32 - 4*i) 0
theorem zGB (v:H8) {i:Nat} (hi:i≤8):((v.l.take i).flatMap fun x=>Cod.be 4 x.toNat).length=4*i:=by
 have hl:v.l.length=8:=rfl
 rw [List.length_flatMap]
 have:(v.l.take i).map (fun x=>(Cod.be 4 x.toNat).length)=List.replicate i 4:=by
  rw [List.eq_replicate_iff]
  refine ⟨by rw [List.length_map,List.length_take];omega,fun y hy=>?_⟩
  obtain ⟨x,_,rfl⟩:=List.mem_map.1 hy
  exact Cod.zt _ _
 rw [this,List.sum_replicate_nat];omega
theorem zA2 (v:H8) {i:Nat} (hi:i≤8):(zBS v i).length=32:=by
 unfold zBS
 rw [List.length_append,zGB v hi,List.length_replicate];omega
theorem zLK (v:H8):zBS v 8=zFD v:=by
 unfold zBS zFD
 rw [List.take_of_length_le (by show 8≤8;omega)]
 show _++[]=_
 rw [List.append_nil]
theorem zHv (v:H8) {i:Nat} (hi:i < 8) (j:Nat) (hj:j < 32):(zBS v (i+1))[j]?=if 4*i≤j∧j < 4*i+4 then (Cod.be 4 (v.l.getD i 0).toNat)[j - 4*i]? else (zBS v i)[j]?:=by
 have hl:v.l.length=8:=rfl
 have h1:=zGB v (show i≤8 by omega)
 have e:(v.l.take (i+1)).flatMap (fun x=>Cod.be 4 x.toNat)=(v.l.take i).flatMap (fun x=>Cod.be 4 x.toNat)++Cod.be 4 (v.l.getD i 0).toNat:=by
  rw [List.take_add_one,List.flatMap_append,List.getD_eq_getElem?_getD,List.getElem?_eq_getElem (by omega)]
  simp
 have h2:(Cod.be 4 (v.l.getD i 0).toNat).length=4:=Cod.zt _ _
 unfold zBS
 rw [e,List.append_assoc]
 rcases Nat.lt_or_ge j (4*i) with c | c
 · rw [if_neg (by omega),List.getElem?_append_left (by omega),List.getElem?_append_left (by omega)]
 · rw [List.getElem?_append_right (by omega),h1]
   rcases Nat.lt_or_ge j (4*i+4) with d | d
   · rw [if_pos ⟨c,d⟩,List.getElem?_append_left (by omega)]
   · rw [if_neg (by omega),List.getElem?_append_right (by omega),List.getElem?_append_right (by omega),h1,h2,List.getElem?_replicate,List.getElem?_replicate,if_pos (by omega),if_pos (by omega)]
end Sha
namespace Go.Proofs.YtdlkghdfkjdajaaGreatDoor
open Go Go.RowKit Go.Mem Gf Sha
set_option linter.unusedVariables false
attribute [local go_sem ↓] Go.wp_at_zero Go.wp_at_succ
attribute [local go_sem ↓] zEg zDw
attribute [local go_sem] ptrB_eq ptrO_eq ptrIs_eq aggL_eq aggIs_eq zS zV zD zF zB zB4
attribute [local irreducible] zBi kL
theorem idx8_0 (k0 k1 k2 k3 k4 k5 k6 k7:Value) (w:World):(Instr.index 117 (.agg #[k0,k1,k2,k3,k4,k5,k6,k7]) (.int .i64 ((0:Nat):Int))).run Tryz.prog w=.ok k0 w:=by kernel_rfl
theorem idx8_1 (k0 k1 k2 k3 k4 k5 k6 k7:Value) (w:World):(Instr.index 117 (.agg #[k0,k1,k2,k3,k4,k5,k6,k7]) (.int .i64 ((1:Nat):Int))).run Tryz.prog w=.ok k1 w:=by kernel_rfl
theorem idx8_2 (k0 k1 k2 k3 k4 k5 k6 k7:Value) (w:World):(Instr.index 117 (.agg #[k0,k1,k2,k3,k4,k5,k6,k7]) (.int .i64 ((2:Nat):Int))).run Tryz.prog w=.ok k2 w:=by kernel_rfl
theorem idx8_3 (k0 k1 k2 k3 k4 k5 k6 k7:Value) (w:World):(Instr.index 117 (.agg #[k0,k1,k2,k3,k4,k5,k6,k7]) (.int .i64 ((3:Nat):Int))).run Tryz.prog w=.ok k3 w:=by kernel_rfl
theorem idx8_4 (k0 k1 k2 k3 k4 k5 k6 k7:Value) (w:World):(Instr.index 117 (.agg #[k0,k1,k2,k3,k4,k5,k6,k7]) (.int .i64 ((4:Nat):Int))).run Tryz.prog w=.ok k4 w:=by kernel_rfl
theorem idx8_5 (k0 k1 k2 k3 k4 k5 k6 k7:Value) (w:World):(Instr.index 117 (.agg #[k0,k1,k2,k3,k4,k5,k6,k7]) (.int .i64 ((5:Nat):Int))).run Tryz.prog w=.ok k5 w:=by kernel_rfl
theorem idx8_6 (k0 k1 k2 k3 k4 k5 k6 k7:Value) (w:World):(Instr.index 117 (.agg #[k0,k1,k2,k3,k4,k5,k6,k7]) (.int .i64 ((6:Nat):Int))).run Tryz.prog w=.ok k6 w:=by kernel_rfl
theorem idx8_7 (k0 k1 k2 k3 k4 k5 k6 k7:Value) (w:World):(Instr.index 117 (.agg #[k0,k1,k2,k3,k4,k5,k6,k7]) (.int .i64 ((7:Nat):Int))).run Tryz.prog w=.ok k7 w:=by kernel_rfl
theorem idx_h8 (w:World) (i:Nat) (hi:i < 8) (l:List Value) (hl:l.length=8) (x:Value) (hx:l[i]?=some x):(Instr.index 117 (.agg l.toArray) (.int .i64 (i:Int))).run Tryz.prog w=.ok x w:=by
 obtain ⟨k0,k1,k2,k3,k4,k5,k6,k7,rfl⟩:∃ k0 k1 k2 k3 k4 k5 k6 k7,l=[k0,k1,k2,k3,k4,k5,k6,k7]:=by
  match l,hl with
  | [k0,k1,k2,k3,k4,k5,k6,k7],_=>exact ⟨k0,k1,k2,k3,k4,k5,k6,k7,rfl⟩
 have e:i=0∨i=1∨i=2∨i=3∨i=4∨i=5∨i=6∨i=7:=by omega
 rcases e with e | e
 · subst e
   have hx:some k0=some x:=hx
   have hx:=Option.some.inj hx
   rw [← hx]
   exact idx8_0 k0 k1 k2 k3 k4 k5 k6 k7 w
 rcases e with e | e
 · subst e
   have hx:some k1=some x:=hx
   have hx:=Option.some.inj hx
   rw [← hx]
   exact idx8_1 k0 k1 k2 k3 k4 k5 k6 k7 w
 rcases e with e | e
 · subst e
   have hx:some k2=some x:=hx
   have hx:=Option.some.inj hx
   rw [← hx]
   exact idx8_2 k0 k1 k2 k3 k4 k5 k6 k7 w
 rcases e with e | e
 · subst e
   have hx:some k3=some x:=hx
   have hx:=Option.some.inj hx
   rw [← hx]
   exact idx8_3 k0 k1 k2 k3 k4 k5 k6 k7 w
 rcases e with e | e
 · subst e
   have hx:some k4=some x:=hx
   have hx:=Option.some.inj hx
   rw [← hx]
   exact idx8_4 k0 k1 k2 k3 k4 k5 k6 k7 w
 rcases e with e | e
 · subst e
   have hx:some k5=some x:=hx
   have hx:=Option.some.inj hx
   rw [← hx]
   exact idx8_5 k0 k1 k2 k3 k4 k5 k6 k7 w
 rcases e with e | e
 · subst e
   have hx:some k6=some x:=hx
   have hx:=Option.some.inj hx
   rw [← hx]
   exact idx8_6 k0 k1 k2 k3 k4 k5 k6 k7 w

 · subst e
   have hx:some k7=some x:=hx
   have hx:=Option.some.inj hx
   rw [← hx]
   exact idx8_7 k0 k1 k2 k3 k4 k5 k6 k7 w
theorem zLr {w:World} {b o n c:Nat} {bs:List UInt8} (h:Bys w (.slice (some ⟨b,o,none⟩) n c) bs):w.rangeAt b o (bV bs):=fun j v hv=>by
 rw [zAd] at hv
 cases hu:bs[j]? with
 | none=>rw [hu] at hv;cases hv
 | some u =>
   rw [hu] at hv
   obtain ⟨a',c',e,_,_,h3⟩:=h
   injection e with e1 _ _
   obtain ⟨b',o',e',hc⟩:=h3 (by have:=zBW hu;omega)
   rw [← e1] at e'
   injection e' with e'
   injection e' with e1 e2
   subst e1
   subst e2
   rw [hc j u hu]
   simpa using hv
theorem zGe:(Tryz.prog.info? 34).map (·.size)=some 32:=by kernel_rfl
theorem zY (dst:Option Tmp) (x:Operand) (ty:TypeId) (pos:String) (af:Array Edge) (gd:Option (Tmp × Bool)) (a:Act) (w:World) (K:Act→World→Prop) (Q:Exit→Act→World→Prop)
  (hp:zBe (a.eval x)=true) (ht:zi 32 w (zAy (a.eval x)) (zAz (a.eval x))) :
  Oper.wp Tryz.prog ⟨dst,.load 34 x,ty,pos,af,gd⟩ a w K Q=K (a.put dst (.agg (zh 32 w (zAy (a.eval x)) (zAz (a.eval x))).toArray)) w :=
 zD1 Tryz.underlying34 rfl zGe dst x ty pos af gd a w K Q hp ht
theorem zU (dst:Option Tmp) (x y:Operand) (ty:TypeId) (pos:String) (af:Array Edge) (a:Act) (w:World) (K:Act→World→Prop) (Q:Exit→Act→World→Prop)
  (hp:zBe (a.eval x)=true) (hy:zBX (a.eval y)=true) (ht:zi 32 w (zAy (a.eval x)) (zAz (a.eval x))) (hc:zAS 32 (zAu (a.eval y))) :
  Oper.wp Tryz.prog ⟨dst,.store 34 x y,ty,pos,af,none⟩ a w K Q=K (a.put dst undef) (w.setCells (zAy (a.eval x)) (zAz (a.eval x)) (zAu (a.eval y))) :=
 zCI zGe dst x y ty pos af a w K Q hp hy ht hc
theorem zBy {w:World} {b:Nat} {cs:List Value} (h:zi 32 w b 0) (hc:zAS 32 cs):(loadVar 34 ⟨b,0,none⟩).run Tryz.prog (w.setCells b 0 cs)=.ok (.agg cs.toArray) (w.setCells b 0 cs):=by
 have h2:=zDf h b 0 cs
 refine run_loadVar_mid _ b 0 _ cs _ ?_ Tryz.underlying34 rfl (by rw [hc.1];exact zGe)
 have:=zAi h2
 rwa [zC5 h hc] at this
attribute [local go_sem ↓] zY zU
theorem zEq {n:Nat} {w:World} {b:Nat} {cs ds:List Value} {t:TypeId} (h:Blk w b cs.toArray t) (h1:cs.length=n) (h2:ds.length=n):Blk (w.setCells b 0 ds) b ds.toArray t:=by
 obtain ⟨arr,g1,g2,g3⟩:=Blk.setCells ds 0 _ _ h
 have e:arr=ds.toArray:=by
  apply Array.ext_getElem?
  intro k
  have hs:cs.toArray.size=n:=by simpa using h1
  rcases Nat.lt_or_ge k n with hk | hk
  · rw [g3 k (by omega),if_pos ⟨Nat.zero_le _,by omega⟩,Nat.sub_zero];simp
  · rw [Array.getElem?_eq_none (by omega),Array.getElem?_eq_none (by simp;omega)]
 rw [← e];exact g1
theorem zJg (n:Nat):((n:Int).tmod 64)=((n % 64:Nat):Int):=by
 rw [Int.ofNat_tmod];rfl
set_option maxRecDepth 100000 in
set_option maxHeartbeats 4000000 in
theorem zG2 (w0 w:World) (b:Nat) (h:H8) (u:Value) (L:Nat) (rest:List UInt8) (hs:zAO w b h u (L:Nat)) (hb0:Below w0.heap.size w0 w) (hge:w0.heap.size≤b) (hv:Bys w u rest) (hr:rest.length < 64) (hL:L≤100000000) :
  Calls Tryz.prog 95 #[.pointer (some ⟨b,0,none⟩)] w fun e w'=>e=.returned (.agg (bV (zFD (zAl ((pad rest L).length / 64) h (pad rest L)))).toArray)∧Below w0.heap.size w0 w':=by
 obtain ⟨P,hP⟩:∃ P,P=pad rest L:=⟨_,rfl⟩
 obtain ⟨ua,uc,rfl⟩:=hv.eq_slice
 obtain ⟨m,hm⟩:∃ m,m=rest.length:=⟨_,rfl⟩
 rw [← hP]
 rw [← hm] at hv hs hr
 have HP:=Lib.hid (And.intro hP hm)
 clear hP hm
 have HI:=Lib.hid (And.intro hs (And.intro hb0 hv))
 clear hs hb0 hv
 go_enter Tryz.func95,Tryz.ntmps95
 go_upto_region 1 with fail
 have hk2:Blk (w.alloc (.cells #[Value.int IntKind.u8 0,.int .u8 0,.int .u8 0,.int .u8 0,.int .u8 0,.int .u8 0,.int .u8 0,.int .u8 0,.int .u8 0,.int .u8 0,.int .u8 0,.int .u8 0,.int .u8 0,.int .u8 0,.int .u8 0,.int .u8 0,.int .u8 0,.int .u8 0,.int .u8 0,.int .u8 0,.int .u8 0,.int .u8 0,.int .u8 0,.int .u8 0,.int .u8 0,.int .u8 0,.int .u8 0,.int .u8 0,.int .u8 0,.int .u8 0,.int .u8 0,.int .u8 0] 34)) w.heap.size #[Value.int IntKind.u8 0,.int .u8 0,.int .u8 0,.int .u8 0,.int .u8 0,.int .u8 0,.int .u8 0,.int .u8 0,.int .u8 0,.int .u8 0,.int .u8 0,.int .u8 0,.int .u8 0,.int .u8 0,.int .u8 0,.int .u8 0,.int .u8 0,.int .u8 0,.int .u8 0,.int .u8 0,.int .u8 0,.int .u8 0,.int .u8 0,.int .u8 0,.int .u8 0,.int .u8 0,.int .u8 0,.int .u8 0,.int .u8 0,.int .u8 0,.int .u8 0,.int .u8 0] 34:=Blk.new _ _ _
 have hb1:=HI.out.2.1.alloc HI.out.2.1.size (.cells #[Value.int IntKind.u8 0,.int .u8 0,.int .u8 0,.int .u8 0,.int .u8 0,.int .u8 0,.int .u8 0,.int .u8 0,.int .u8 0,.int .u8 0,.int .u8 0,.int .u8 0,.int .u8 0,.int .u8 0,.int .u8 0,.int .u8 0,.int .u8 0,.int .u8 0,.int .u8 0,.int .u8 0,.int .u8 0,.int .u8 0,.int .u8 0,.int .u8 0,.int .u8 0,.int .u8 0,.int .u8 0,.int .u8 0,.int .u8 0,.int .u8 0,.int .u8 0,.int .u8 0] 34)
 have hs1:=HI.out.1.alloc (.cells #[Value.int IntKind.u8 0,.int .u8 0,.int .u8 0,.int .u8 0,.int .u8 0,.int .u8 0,.int .u8 0,.int .u8 0,.int .u8 0,.int .u8 0,.int .u8 0,.int .u8 0,.int .u8 0,.int .u8 0,.int .u8 0,.int .u8 0,.int .u8 0,.int .u8 0,.int .u8 0,.int .u8 0,.int .u8 0,.int .u8 0,.int .u8 0,.int .u8 0,.int .u8 0,.int .u8 0,.int .u8 0,.int .u8 0,.int .u8 0,.int .u8 0,.int .u8 0,.int .u8 0] 34)
 have hu1:=HI.out.2.2.below ((Below.refl _ _).alloc (Nat.le_refl _) (.cells #[Value.int IntKind.u8 0,.int .u8 0,.int .u8 0,.int .u8 0,.int .u8 0,.int .u8 0,.int .u8 0,.int .u8 0,.int .u8 0,.int .u8 0,.int .u8 0,.int .u8 0,.int .u8 0,.int .u8 0,.int .u8 0,.int .u8 0,.int .u8 0,.int .u8 0,.int .u8 0,.int .u8 0,.int .u8 0,.int .u8 0,.int .u8 0,.int .u8 0,.int .u8 0,.int .u8 0,.int .u8 0,.int .u8 0,.int .u8 0,.int .u8 0,.int .u8 0,.int .u8 0] 34))
 have hlt:=Blk.lt HI.out.1
 have h0:=HI.out.2.1.size
 obtain ⟨w1,hw1⟩:∃ q,q=w.alloc (.cells #[Value.int IntKind.u8 0,.int .u8 0,.int .u8 0,.int .u8 0,.int .u8 0,.int .u8 0,.int .u8 0,.int .u8 0,.int .u8 0,.int .u8 0,.int .u8 0,.int .u8 0,.int .u8 0,.int .u8 0,.int .u8 0,.int .u8 0,.int .u8 0,.int .u8 0,.int .u8 0,.int .u8 0,.int .u8 0,.int .u8 0,.int .u8 0,.int .u8 0,.int .u8 0,.int .u8 0,.int .u8 0,.int .u8 0,.int .u8 0,.int .u8 0,.int .u8 0,.int .u8 0] 34):=⟨_,rfl⟩
 obtain ⟨p2,hp2⟩:∃ q,q=w.heap.size:=⟨_,rfl⟩
 have hz1:w1.heap.size=p2+1:=by rw [hw1,hp2];simp
 rw [← hw1] at hk2 hb1 hs1 hu1 ⊢
 rw [← hp2] at hk2 hlt h0 ⊢
 have hs1:zAO w1 b h (.slice ua m uc) (L:Nat):=hs1
 have c72:=hs1.cu
 have H1:=Lib.hid (And.intro hs1 (And.intro hb1 (And.intro hk2 hu1)))
 clear hk2 hb1 hs1 hu1 hw1 hp2 HI
 go_wp2_with (at_builtin;refine zBL E8c rfl _ _ rfl (base:=p2+1) (bs:=[]) (news:=rest) rfl rfl (zP.nil _ _ _) H1.out.2.2.2 ?q1 ?q2 ?_)
 case q1=>have:=HP.out.2;simp;omega
 case q2=>omega
 intro v2 w2 ho2 hg2
 have ho2:zP 5 w2 (p2+1) v2 rest:=ho2
 have hb2:Below w1.heap.size w1 w2:=zAE hg2 rfl
 have hz2:=hb2.size
 have hl2:=ho2.lt
 have H2:=Lib.hid (And.intro (H1.out.1.below hb2) (And.intro (H1.out.2.1.trans (hb2.mono H1.out.2.1.size)) (H1.out.2.2.1.kept hb2)))
 clear hg2 hb2
 go_wp2_with (at_builtin;refine zBL E8c rfl _ _ rfl (base:=p2+1) (bs:=rest) (news:=[128]) rfl rfl (ho2.alloc _) (zAv _ 128 _ rfl _) ?q3 ?q4 ?_)
 case q3=>have:=HP.out.2;simp;omega
 case q4=>simp;omega
 intro v3 w3 ho3 hg3
 have hb3:=zN (H2.out.2.1.alloc H2.out.2.1.size _) hg3 (fun k hk=>by have:=(hl2 k hk).1;omega)
 have hcc:Chg (fun k=>v2.ownBlock=some k) w2 w3:=Chg.grown (S:=fun k=>v2.ownBlock=some k) (Chg.of_below ((Below.refl _ _).alloc (Nat.le_refl _) _)) hg3 (fun _ hq=>.inl hq)
 have hs3:zAO w3 b h (.slice ua m uc) (L:Nat):=hcc.blk H2.out.1 (fun e=>by have:=(hl2 b e).1;omega)
 have hk3:Blk w3 p2 #[Value.int IntKind.u8 0,.int .u8 0,.int .u8 0,.int .u8 0,.int .u8 0,.int .u8 0,.int .u8 0,.int .u8 0,.int .u8 0,.int .u8 0,.int .u8 0,.int .u8 0,.int .u8 0,.int .u8 0,.int .u8 0,.int .u8 0,.int .u8 0,.int .u8 0,.int .u8 0,.int .u8 0,.int .u8 0,.int .u8 0,.int .u8 0,.int .u8 0,.int .u8 0,.int .u8 0,.int .u8 0,.int .u8 0,.int .u8 0,.int .u8 0,.int .u8 0,.int .u8 0] 34:=hcc.blk H2.out.2.2 (fun e=>by have:=(hl2 p2 e).1;omega)
 have hz3:=hcc.size
 have H3:=Lib.hid (And.intro ho3 (And.intro hs3 (And.intro hk3 hb3)))
 clear ho2 hl2 hg3 ho3 hs3 hk3 hb3 hcc
 obtain ⟨zz,hzz⟩:∃ z,z=zeros rest.length:=⟨_,rfl⟩
 have HZ:=Lib.hid hzz
 clear hzz
 go_upto_region 2 with fail
 go_loopw [3] (fun v wr=>∃ j:Nat,j≤zz∧Hid (zP 5 wr (p2+1) v (rest++128::List.replicate j 0)∧zAO wr b h (.slice ua m uc) (L:Nat)∧Blk wr p2 #[Value.int IntKind.u8 0,.int .u8 0,.int .u8 0,.int .u8 0,.int .u8 0,.int .u8 0,.int .u8 0,.int .u8 0,.int .u8 0,.int .u8 0,.int .u8 0,.int .u8 0,.int .u8 0,.int .u8 0,.int .u8 0,.int .u8 0,.int .u8 0,.int .u8 0,.int .u8 0,.int .u8 0,.int .u8 0,.int .u8 0,.int .u8 0,.int .u8 0,.int .u8 0,.int .u8 0,.int .u8 0,.int .u8 0,.int .u8 0,.int .u8 0,.int .u8 0,.int .u8 0] 34∧Below w0.heap.size w0 wr∧p2+1≤wr.heap.size)) (fun v _=>300 - zJo v)
 case atStart=>exact ⟨0,Nat.zero_le _,H3.out.1,H3.out.2.1,H3.out.2.2.1,H3.out.2.2.2,by omega⟩
 case round =>
  obtain ⟨j,hj0,G⟩:=hrel
  obtain ⟨va,vc,ev⟩:=G.out.1.eq_slice
  obtain ⟨k,hk⟩:∃ k,k=m+1+j:=⟨_,rfl⟩
  have hkl:(rest++128::List.replicate j (0:UInt8)).length=k:=by
   rw [List.length_append,List.length_cons,List.length_replicate,← HP.out.2];omega
  rw [hkl] at ev
  subst ev
  have hzm:=zDA rest.length
  rw [← HZ.out,← HP.out.2] at hzm
  have hmod:=zJg k
  by_cases hin:j < zz
  · have hne:k % 64≠56:=by
     have:=zEZ (n:=rest.length) (i:=j) (by rw [← HZ.out];exact hin)
     rw [← HP.out.2] at this
     rw [hk];exact this
    have t1:((k:Int) % 64 != 56)=true:=by simp;omega
    have HK:=Lib.hid (And.intro hk (And.intro hkl hzm))
    clear hk hkl hzm hne
    go_wp2_with (at_builtin;refine zBL E8c rfl _ _ rfl (base:=p2+1) (bs:=rest++128::List.replicate j 0) (news:=[0]) rfl rfl (G.out.1.alloc _) (zAv _ 0 _ rfl _) ?c1 ?c2 ?_)
    case c1=>rw [HK.out.2.1];show k+1≤_;have:=HK.out.1;have:=HK.out.2.2;omega
    case c2=>have:=G.out.2.2.2.2;simp;omega
    intro v4 w4 ho4 hg4
    have hlo:=fun k hk=>(G.out.1.lt k hk).1
    have hb4:=zN (G.out.2.2.2.1.alloc G.out.2.2.2.1.size _) hg4 (fun k hk=>by have:=hlo k hk;omega)
    have hcc:Chg (fun q=>(Value.slice va k vc).ownBlock=some q) wr w4:=Chg.grown (S:=fun q=>(Value.slice va k vc).ownBlock=some q) (Chg.of_below ((Below.refl _ _).alloc (Nat.le_refl _) _)) hg4 (fun _ hq=>.inl hq)
    have hs4:zAO w4 b h (.slice ua m uc) (L:Nat):=hcc.blk G.out.2.1 (fun e=>by have:=hlo b e;omega)
    have hk4:Blk w4 p2 #[Value.int IntKind.u8 0,.int .u8 0,.int .u8 0,.int .u8 0,.int .u8 0,.int .u8 0,.int .u8 0,.int .u8 0,.int .u8 0,.int .u8 0,.int .u8 0,.int .u8 0,.int .u8 0,.int .u8 0,.int .u8 0,.int .u8 0,.int .u8 0,.int .u8 0,.int .u8 0,.int .u8 0,.int .u8 0,.int .u8 0,.int .u8 0,.int .u8 0,.int .u8 0,.int .u8 0,.int .u8 0,.int .u8 0,.int .u8 0,.int .u8 0,.int .u8 0,.int .u8 0] 34:=hcc.blk G.out.2.2.1 (fun e=>by have:=hlo p2 e;omega)
    have hz4:=hcc.size
    have ho4:zP 5 w4 (p2+1) v4 (rest++128::List.replicate (j+1) 0):=by
     rw [List.replicate_succ']
     exact ho4
    obtain ⟨va4,vc4,ev4⟩:=ho4.eq_slice
    have hl4:(rest++128::List.replicate (j+1) (0:UInt8)).length=k+1:=by
     have:=HK.out.2.1
     rw [List.length_append,List.length_cons,List.length_replicate] at this ⊢
     omega
    rw [hl4] at ev4
    have H4:=Lib.hid (And.intro ho4 (And.intro hs4 (And.intro hk4 hb4)))
    clear ho4 hg4 hlo hb4 hcc hs4 hk4 hl4
    subst ev4
    go_wp2_with fail
    exact ⟨⟨j+1,by omega,H4.out.1,H4.out.2.1,H4.out.2.2.1,H4.out.2.2.2,by have:=G.out.2.2.2.2;omega⟩,by
     show 300 - (k+1) < 300 - k
     have:=HK.out.1
     have:=HK.out.2.2
     omega⟩
  · obtain rfl:j=zz:=by omega
    have t1:((k:Int) % 64 != 56)=false:=by
     rw [hk];simp;omega
    have c73:=G.out.2.1.cn
    have h8:IntKind.i64.wrap (8*(L:Int))=((8*L:Nat):Int):=by rw [IntKind.wrap_i64];omega
    obtain ⟨L8,hL8⟩:∃ x,x=8*L:=⟨_,rfl⟩
    rw [← hL8] at h8
    have hL9:L8≤9223372036854775807:=by omega
    have HK:=Lib.hid (And.intro hk (And.intro hkl (And.intro hzm hL8)))
    clear hk hkl hzm hL8 hmod
    go_wp2_with fail
    refine (zFK L8 8 hL9 (by decide) (by decide) wr).mono ?_
    rintro e w4 ⟨vp,rfl,hop,hb4⟩
    go_wp2_with (at_builtin;refine zBL E8c rfl _ _ rfl (base:=p2+1) (bs:=rest++128::List.replicate j 0) (news:=Cod.be 8 L8) rfl rfl (G.out.1.below hb4) hop.bys ?d1 ?d2 ?_)
    case d1=>rw [HK.out.2.1,Cod.zt];have:=HK.out.1;have:=HK.out.2.2.1;omega
    case d2=>have:=G.out.2.2.2.2;have:=hb4.size;omega
    intro v5 w5 ho5 hg5
    have hlo:=fun k hk=>(G.out.1.lt k hk).1
    have hbb:=G.out.2.2.2.1.trans (hb4.mono G.out.2.2.2.1.size)
    have hb5:=zN hbb hg5 (fun k hk=>by have:=hlo k hk;omega)
    have hcc:Chg (fun q=>(Value.slice va k vc).ownBlock=some q) wr w5:=Chg.grown (S:=fun q=>(Value.slice va k vc).ownBlock=some q) (Chg.of_below hb4) hg5 (fun _ hq=>.inl hq)
    have hs5:zAO w5 b h (.slice ua m uc) (L:Nat):=hcc.blk G.out.2.1 (fun e=>by have:=hlo b e;omega)
    have hk5:Blk w5 p2 #[Value.int IntKind.u8 0,.int .u8 0,.int .u8 0,.int .u8 0,.int .u8 0,.int .u8 0,.int .u8 0,.int .u8 0,.int .u8 0,.int .u8 0,.int .u8 0,.int .u8 0,.int .u8 0,.int .u8 0,.int .u8 0,.int .u8 0,.int .u8 0,.int .u8 0,.int .u8 0,.int .u8 0,.int .u8 0,.int .u8 0,.int .u8 0,.int .u8 0,.int .u8 0,.int .u8 0,.int .u8 0,.int .u8 0,.int .u8 0,.int .u8 0,.int .u8 0,.int .u8 0] 34:=hcc.blk G.out.2.2.1 (fun e=>by have:=hlo p2 e;omega)
    have he:rest++128::(List.replicate j (0:UInt8)++Cod.be 8 L8)=P:=by
     rw [HP.out.1,HZ.out,HK.out.2.2.2]
     rfl
    have ho5:zP 5 w5 (p2+1) v5 P:=by rw [← he];exact ho5
    have hz5:=hcc.size
    have hp5:Past p2 v5:=fun a n c e=>by have:=(ho5.lt a.block (by rw [e];rfl)).1;omega
    have hgz:=G.out.2.2.2.2
    have hp6:∀ a n c,v5=.slice (some a) n c→a.block < w5.heap.size:=fun a n c e=>(ho5.lt a.block (by rw [e];rfl)).2
    have H5:=Lib.hid (And.intro ho5.bys (And.intro hp5 (And.intro hs5 (And.intro hk5 (And.intro hb5 hp6)))))
    have hl5:=Blk.lt hs5
    clear hop hb4 ho5 hg5 hlo hbb hb5 hcc hs5 hk5 he hp5 hp6 G
    have r8:=H5.out.2.2.1.read
    have q8:=H5.out.2.2.1.has
    have hca:=zIr h
    obtain ⟨ch,hch⟩:∃ q,q=hV h:=⟨_,rfl⟩
    rw [← hch] at r8 hca
    have HCH:=Lib.hid hch
    clear hch
    go_upto_region 6 with fail
    have hk6:Blk ((w5.alloc (.cells #[Value.int IntKind.u32 0,.int .u32 0,.int .u32 0,.int .u32 0,.int .u32 0,.int .u32 0,.int .u32 0,.int .u32 0] 117)).setCells w5.heap.size 0 ch) w5.heap.size ch.toArray 117:=by
     rw [zB _ _ _ _ rfl (by rw [hca.1];rfl)]
     exact Blk.new _ _ _
    have hcc:Chg (fun k=>k=w5.heap.size) w5 ((w5.alloc (.cells #[Value.int IntKind.u32 0,.int .u32 0,.int .u32 0,.int .u32 0,.int .u32 0,.int .u32 0,.int .u32 0,.int .u32 0] 117)).setCells w5.heap.size 0 ch):=Chg.setCells (S:=fun k=>k=w5.heap.size) (L:=w5.heap.size) rfl _ _ _ (Chg.of_below ((Below.refl _ _).alloc (Nat.le_refl _) _))
    have hlt2:=Blk.lt H5.out.2.2.2.1
    have hs6:=hcc.blk H5.out.2.2.1 (fun e=>by have:b=w5.heap.size:=e;omega)
    have hp6:=hcc.blk H5.out.2.2.2.1 (fun e=>by have:p2=w5.heap.size:=e;omega)
    have hv6:=H5.out.1.chg hcc (fun a n c e hS=>by have h1:=H5.out.2.2.2.2.2 a n c e;have h2:a.block=w5.heap.size:=hS;omega)
    have hb6:Below w0.heap.size w0 ((w5.alloc (.cells #[Value.int IntKind.u32 0,.int .u32 0,.int .u32 0,.int .u32 0,.int .u32 0,.int .u32 0,.int .u32 0,.int .u32 0] 117)).setCells w5.heap.size 0 ch):=((Chg.of_below (S:=fun k=>w0.heap.size≤k) H5.out.2.2.2.2.1).mix hcc (fun k hk=>.inr (by rw [hk];omega))).below (Nat.le_refl _) (fun _ h=>h)
    have hpa:∀ a n c,v5=.slice (some a) n c→a.block≠w5.heap.size:=fun a n c e=>by have:=H5.out.2.2.2.2.2 a n c e;omega
    obtain ⟨w6,hw6⟩:∃ q,q=(w5.alloc (.cells #[Value.int IntKind.u32 0,.int .u32 0,.int .u32 0,.int .u32 0,.int .u32 0,.int .u32 0,.int .u32 0,.int .u32 0] 117)).setCells w5.heap.size 0 ch:=⟨_,rfl⟩
    obtain ⟨p4,hp4⟩:∃ q,q=w5.heap.size:=⟨_,rfl⟩
    rw [← hw6] at hk6 hs6 hp6 hv6 hb6 ⊢
    rw [← hp4] at hk6 hpa hlt2 hl5 ⊢
    have hq4:w0.heap.size≤p4:=by omega
    have H6:=Lib.hid (And.intro hv6 (And.intro hpa (And.intro hk6 (And.intro hs6 (And.intro hp6 hb6)))))
    clear hk6 hcc hs6 hp6 hv6 hb6 hpa hw6 hp4 r8 q8 hca
    obtain ⟨PL,hPL⟩:∃ k,k=P.length:=⟨_,rfl⟩
    obtain ⟨Q,hQ⟩:∃ Q,PL=64*Q:=⟨PL / 64,by have:=(zDl rest L).1;rw [← HP.out.1,← hPL] at this;omega⟩
    have HQ:=Lib.hid (And.intro hPL hQ)
    clear hPL hQ
    go_loopw [3] (fun v wr=>∃ i:Nat,i≤Q∧Hid (Bys wr v (P.drop (64*i))∧(∀ a n c,v=.slice (some a) n c→a.block≠p4)∧Blk wr p4 (hV (zAl i h P)).toArray 117∧zAO wr b h (.slice ua m uc) (L:Nat)∧Blk wr p2 #[Value.int IntKind.u8 0,.int .u8 0,.int .u8 0,.int .u8 0,.int .u8 0,.int .u8 0,.int .u8 0,.int .u8 0,.int .u8 0,.int .u8 0,.int .u8 0,.int .u8 0,.int .u8 0,.int .u8 0,.int .u8 0,.int .u8 0,.int .u8 0,.int .u8 0,.int .u8 0,.int .u8 0,.int .u8 0,.int .u8 0,.int .u8 0,.int .u8 0,.int .u8 0,.int .u8 0,.int .u8 0,.int .u8 0,.int .u8 0,.int .u8 0,.int .u8 0,.int .u8 0] 34∧Below w0.heap.size w0 wr)) (fun v _=>zJo v)
    case atStart=>exact ⟨0,Nat.zero_le _,H6.out.1,H6.out.2.1,by rw [zAl,← HCH.out];exact H6.out.2.2.1,H6.out.2.2.2.1,H6.out.2.2.2.2.1,H6.out.2.2.2.2.2⟩
    case round =>
     obtain ⟨i,hi0,G⟩:=hrel
     obtain ⟨xa,xc,ex⟩:=G.out.1.eq_slice
     obtain ⟨n,hn⟩:∃ n,n=(P.drop (64*i)).length:=⟨_,rfl⟩
     have hn2:n=64*(Q - i):=by rw [hn,List.length_drop,← HQ.out.1,HQ.out.2];omega
     rw [← hn] at ex
     subst ex
     by_cases hin:i < Q
     · have m0:(0:Int) < (n:Int):=by omega
       have m1:decide ((0:Int) < (n:Int))=true:=by simpa using m0
       have m2:decide (0 < n)=true:=by simp;omega
       have m3:64≤n:=by omega
       have m9:0 < n:=by omega
       obtain ⟨ub,uo,rfl,hmc,hcm⟩:∃ ub uo,xa=some ⟨ub,uo,none⟩∧n≤xc∧xc≤maxLen:=by
        obtain ⟨a',c',e,g1,g2,g3⟩:=G.out.1
        obtain ⟨b',o',e',_⟩:=g3 (by omega)
        injection e with e1 e2 e3
        exact ⟨b',o',by rw [e1,e'],by omega,by omega⟩
       unfold maxLen at hcm
       have hby:=G.out.1.take 64 (by omega)
       have m4:(64:Int)≤(xc:Int):=by omega
       have m5:64≤xc:=by omega
       have m6:(n:Int)≤(xc:Int):=by omega
       have m7:(64:Int)≤(n:Int):=by omega
       have HM:=Lib.hid (And.intro hn (And.intro hn2 hby))
       clear hn hn2 hby
       obtain ⟨hc,hhc⟩:∃ x,x=zAl i h P:=⟨_,rfl⟩
       have hmx:=G.out.2.2.1
       rw [← hhc] at hmx
       have hnx:Hid (zAl (i+1) h P=mix hc ((P.drop (64*i)).take 64)):=by
        show _=_
        rw [zD9,hhc]
       have hcall:∀ w',w'=wr.drew→Calls Tryz.prog 111 #[.agg (hV hc).toArray,.pointer (some ⟨b,8,none⟩),.slice (some ⟨ub,uo,none⟩) 64 xc] w' fun e w''=>∃ v',e=.returned v'∧(v'=.agg (hV (mix hc ((P.drop (64*i)).take 64))).toArray∧Below wr.heap.size wr w''):=fun w' e=>by
        subst e
        refine (zF7 hc b 8 _ ((P.drop (64*i)).take 64) wr.drew (by exact G.out.2.2.2.1.ck) HM.out.2.2 (by rw [List.length_take];have:=HM.out.1;omega)).mono ?_
        rintro e w'' ⟨rfl,hb⟩
        exact ⟨_,rfl,rfl,zCO hb rfl⟩
       obtain ⟨cc,hcc⟩:∃ q,q=hV hc:=⟨_,rfl⟩
       have hccl:cc.length=8:=by rw [hcc];rfl
       rw [← hcc] at hmx
       have hr0:wr.rangeAt p4 0 cc:=by
        have:=zAi (zQ (n:=8) (o:=0) hmx (by simp [hccl]))
        rwa [zBO hmx hccl] at this
       have hRr:∀ w',Below wr.heap.size wr w'→w'.rangeAt p4 0 cc:=fun w' hb=>by
        have:=zAi (zQ (n:=8) (o:=0) (hmx.kept hb) (by simp [hccl]))
        rwa [zBO (hmx.kept hb) hccl] at this
       obtain ⟨cm,hcm2⟩:∃ q,q=hV (mix hc ((P.drop (64*i)).take 64)):=⟨_,rfl⟩
       have hca:=zIr (mix hc ((P.drop (64*i)).take 64))
       rw [← hcc,← hcm2] at hcall
       rw [← hcm2] at hca
       have HMX:=Lib.hid (And.intro hmx (And.intro hhc hcm2))
       clear hmx hhc hcc hcm2
       go_upto_region 7 with fail
       refine Tail.zBB 7 6 (fun w'=>w'=wr.drew) (fun vo w'=>vo=.agg cm.toArray∧Below wr.heap.size wr w') (by kernel_rfl) (by kernel_rfl) (by decide) rfl ?_ (fun z hz=>?_)
       · obtain ⟨e,w',fr,⟨vo,rfl,h⟩,_⟩:=hcall wr.drew rfl []
         exact ⟨vo,w',h⟩
       simp only [List.take_succ_cons,List.take_zero,List.drop_succ_cons,List.drop_zero]
       clear hz
       refine Tail.zHF (by decide) (by rfl) _ _ rfl p4 0 rfl cc (fun w h=>by rw [h];exact hr0) (fun w h=>hRr w h.2) Tryz.underlying117 rfl (by rw [i8h,hccl]) ?_
       simp only [Act.put,List.setIfInBounds_toArray,List.set_cons_zero,List.set_cons_succ]
       iterate 5
        refine Tail.zEo (by decide) (by rfl) ?_
        apply Exists.intro
        refine ⟨fun w=>?_,?_⟩
        · go_simp <;> with_reducible rfl
        simp only [Act.put,List.setIfInBounds_toArray,List.set_cons_zero,List.set_cons_succ]
       refine Tail.zEn (by rfl) (fun w hw=>?_) ?_
       · apply Exists.intro
         apply Exists.intro
         refine ⟨?_,hcall w hw⟩
         go_simp <;> with_reducible rfl
       simp only [Act.put,List.setIfInBounds_toArray,List.set_cons_zero,List.set_cons_succ]
       intro w' hw'
       obtain ⟨rfl,hbw⟩:=hw'
       have hk4:Blk w' p4 cc.toArray 117:=HMX.out.1.kept hbw
       have h8:zi 8 w' p4 0:=zQ hk4 (by simp [hccl])
       have HS:=Lib.hid (And.intro hk4 (And.intro (G.out.2.2.2.2.2.trans (hbw.mono G.out.2.2.2.2.2.size)) (And.intro (G.out.1.below hbw) (And.intro (G.out.2.2.2.1.below hbw) (G.out.2.2.2.2.1.kept hbw)))))
       clear hk4 hbw hcall hr0 hRr
       have hub:ub≠p4:=G.out.2.1 _ _ _ rfl
       go_wp2_with fail
       refine ⟨⟨i+1,by omega,?_,?_,?_,?_,?_,?_⟩,?_⟩
       · have h1:=zHN HS.out.2.2.1 64 (by omega) (by rw [← HM.out.1];exact m3)
         rw [List.drop_drop,show 64*i+64=64*(i+1) from by omega] at h1
         refine Bys.chg h1 (Chg.setCells (S:=fun k=>k=p4) (L:=p4) rfl _ _ _ (Chg.refl _ _)) (fun a n c e hS=>?_)
         have hS':a.block=p4:=hS
         injection e with e1 _ _
         split at e1 <;> (injection e1 with e1;rw [← e1] at hS';exact hub hS')
       · intro a n c e
         injection e with e1 _ _
         split at e1 <;> (injection e1 with e1;rw [← e1];exact hub)
       · rw [hnx.out,← HMX.out.2.2]
         have:=zEq (n:=8) HS.out.1 hccl hca.1
         exact this
       · exact Blk.setCells_other (fun e=>by omega) _ _ _ HS.out.2.2.2.1
       · exact Blk.setCells_other (fun e=>by omega) _ _ _ HS.out.2.2.2.2
       · exact (Chg.setCells (S:=fun k=>k=p4) (L:=p4) rfl _ _ _ (Chg.of_below HS.out.2.1)).below (Nat.le_refl _) (fun k hk=>by rw [hk];exact hq4)
       · show n - 64 < n
         omega
     · obtain rfl:i=Q:=by omega
       have n0:n=0:=by omega
       subst n0
       have hmix:zAl i h P=zAl (P.length / 64) h P:=by rw [← HQ.out.1,HQ.out.2,Nat.mul_div_cancel_left _ (by decide)]
       obtain ⟨fin,hfin⟩:∃ f,f=zAl i h P:=⟨_,rfl⟩
       have hk4:=G.out.2.2.1
       rw [← hfin] at hk4 hmix
       have HF:=Lib.hid hmix
       clear hn hn2 hmix hfin
       obtain ⟨cf,hcf⟩:∃ q,q=hV fin:=⟨_,rfl⟩
       have hcfl:cf.length=8:=by rw [hcf];rfl
       have hcg:∀ j,j < 8→cf[j]?=some (.int .u32 (wz (fin.l.getD j 0))):=fun j hj=>by rw [hcf];exact zGZ fin hj
       rw [← hcf] at hk4
       have r4:zh 8 wr p4 0=cf:=zBO hk4 hcfl
       have q4:zi 8 wr p4 0:=zQ hk4 (by simp [hcfl])
       have l4:=Blk.lt hk4
       have HC:=Lib.hid (And.intro hcf hcg)
       clear hcf hcg hk4
       go_upto_region 11 with fail
       have hk5:Blk (wr.alloc (.cells #[Value.int IntKind.u8 0,.int .u8 0,.int .u8 0,.int .u8 0,.int .u8 0,.int .u8 0,.int .u8 0,.int .u8 0,.int .u8 0,.int .u8 0,.int .u8 0,.int .u8 0,.int .u8 0,.int .u8 0,.int .u8 0,.int .u8 0,.int .u8 0,.int .u8 0,.int .u8 0,.int .u8 0,.int .u8 0,.int .u8 0,.int .u8 0,.int .u8 0,.int .u8 0,.int .u8 0,.int .u8 0,.int .u8 0,.int .u8 0,.int .u8 0,.int .u8 0,.int .u8 0] 34)) wr.heap.size (bV (zBS fin 0)).toArray 34:=Blk.new _ _ _
       have hp5:=G.out.2.2.2.2.1.alloc (.cells #[Value.int IntKind.u8 0,.int .u8 0,.int .u8 0,.int .u8 0,.int .u8 0,.int .u8 0,.int .u8 0,.int .u8 0,.int .u8 0,.int .u8 0,.int .u8 0,.int .u8 0,.int .u8 0,.int .u8 0,.int .u8 0,.int .u8 0,.int .u8 0,.int .u8 0,.int .u8 0,.int .u8 0,.int .u8 0,.int .u8 0,.int .u8 0,.int .u8 0,.int .u8 0,.int .u8 0,.int .u8 0,.int .u8 0,.int .u8 0,.int .u8 0,.int .u8 0,.int .u8 0] 34)
       have hb5:=G.out.2.2.2.2.2.alloc G.out.2.2.2.2.2.size (.cells #[Value.int IntKind.u8 0,.int .u8 0,.int .u8 0,.int .u8 0,.int .u8 0,.int .u8 0,.int .u8 0,.int .u8 0,.int .u8 0,.int .u8 0,.int .u8 0,.int .u8 0,.int .u8 0,.int .u8 0,.int .u8 0,.int .u8 0,.int .u8 0,.int .u8 0,.int .u8 0,.int .u8 0,.int .u8 0,.int .u8 0,.int .u8 0,.int .u8 0,.int .u8 0,.int .u8 0,.int .u8 0,.int .u8 0,.int .u8 0,.int .u8 0,.int .u8 0,.int .u8 0] 34)
       have l2:=Blk.lt G.out.2.2.2.2.1
       have g0:=G.out.2.2.2.2.2.size
       obtain ⟨w7,hw7⟩:∃ q,q=wr.alloc (.cells #[Value.int IntKind.u8 0,.int .u8 0,.int .u8 0,.int .u8 0,.int .u8 0,.int .u8 0,.int .u8 0,.int .u8 0,.int .u8 0,.int .u8 0,.int .u8 0,.int .u8 0,.int .u8 0,.int .u8 0,.int .u8 0,.int .u8 0,.int .u8 0,.int .u8 0,.int .u8 0,.int .u8 0,.int .u8 0,.int .u8 0,.int .u8 0,.int .u8 0,.int .u8 0,.int .u8 0,.int .u8 0,.int .u8 0,.int .u8 0,.int .u8 0,.int .u8 0,.int .u8 0] 34):=⟨_,rfl⟩
       obtain ⟨p5,hp5e⟩:∃ q,q=wr.heap.size:=⟨_,rfl⟩
       rw [← hw7] at hk5 hp5 hb5 ⊢
       rw [← hp5e] at hk5 l2 l4 g0 ⊢
       have H7:=Lib.hid (And.intro hk5 (And.intro hp5 hb5))
       clear hk5 hp5 hb5 hw7 hp5e r4 q4 G
       go_loopw [47] (fun v wr=>∃ i:Nat,i≤8∧v=.int .i64 i∧Hid (Blk wr p5 (bV (zBS fin i)).toArray 34∧Blk wr p2 #[Value.int IntKind.u8 0,.int .u8 0,.int .u8 0,.int .u8 0,.int .u8 0,.int .u8 0,.int .u8 0,.int .u8 0,.int .u8 0,.int .u8 0,.int .u8 0,.int .u8 0,.int .u8 0,.int .u8 0,.int .u8 0,.int .u8 0,.int .u8 0,.int .u8 0,.int .u8 0,.int .u8 0,.int .u8 0,.int .u8 0,.int .u8 0,.int .u8 0,.int .u8 0,.int .u8 0,.int .u8 0,.int .u8 0,.int .u8 0,.int .u8 0,.int .u8 0,.int .u8 0] 34∧Below w0.heap.size w0 wr)) (fun v _=>8 - (intOf v).toNat)
       case atStart=>exact ⟨0,Nat.zero_le _,rfl,H7.out⟩
       case round =>
        obtain ⟨i,hi0,rfl,G⟩:=hrel
        by_cases hin:i < 8
        · have i0:(0:Int)≤(i:Int):=by omega
          have i1:(i:Int) < 8:=by omega
          obtain ⟨x,hx⟩:∃ x,x=fin.l.getD i 0:=⟨_,rfl⟩
          have hcx:=HC.out.2 i hin
          rw [← hx] at hcx
          have hix:=fun w=>idx_h8 w i hin cf hcfl _ hcx
          have i2:i < cf.length:=by omega
          obtain ⟨q,hq⟩:∃ q,q=4*i:=⟨_,rfl⟩
          have e0:IntKind.i64.wrap (4*(i:Int))=(q:Int):=by rw [IntKind.wrap_i64];omega
          have q1:(q:Int)≤32:=by omega
          have q2:q≤32:=by omega
          have q3:q < 32:=by omega
          have HX:=Lib.hid (And.intro hx (And.intro hq hcx))
          clear hx hq hcx
          go_upto_region 13 with fail
          have hcall:∀ w',w'=wr.drew→Calls Tryz.prog 38 #[.int .i64 (x.toNat:Nat),.int .i64 4] w' fun e w''=>∃ v',e=.returned v'∧(zP 5 w'' wr.heap.size v' (Cod.be 4 x.toNat)∧Below wr.heap.size wr w''):=fun w' e=>by
           subst e
           refine (zFK x.toNat 4 (by have:=UInt32.toNat_lt x;omega) (by decide) (by decide) wr.drew).mono ?_
           rintro e w'' ⟨v',rfl,h1,h2⟩
           exact ⟨_,rfl,h1,zCO h2 rfl⟩
          have wxe:IntKind.i64.wrap (wz x)=((x.toNat:Nat):Int):=by
           have:=UInt32.toNat_lt x
           unfold wz
           rw [IntKind.wrap_i64];omega
          refine Tail.zBB 6 5 (fun w'=>w'=wr.drew) (fun vo w'=>zP 5 w' wr.heap.size vo (Cod.be 4 x.toNat)∧Below wr.heap.size wr w') (by kernel_rfl) (by kernel_rfl) (by decide) rfl ?_ (fun z hz=>?_)
          · obtain ⟨e,w',fr,⟨vo,rfl,h⟩,_⟩:=hcall wr.drew rfl []
            exact ⟨vo,w',h⟩
          simp only [List.take_succ_cons,List.take_zero,List.drop_succ_cons,List.drop_zero]
          obtain ⟨za,zc,rfl⟩:∃ a c,z=.slice a 4 c:=by
           obtain ⟨w',h1,_⟩:=hz
           obtain ⟨a,c,e⟩:=h1.eq_slice
           rw [Cod.zt] at e
           exact ⟨a,c,e⟩
          clear hz
          iterate 5
           refine Tail.zEo (by decide) (by rfl) ?_
           apply Exists.intro
           refine ⟨fun w=>?_,?_⟩
           · go_simp <;> with_reducible rfl
           simp only [Act.put,List.setIfInBounds_toArray,List.set_cons_zero,List.set_cons_succ]
          refine Tail.zEn (by rfl) (fun w hw=>?_) ?_
          · apply Exists.intro
            apply Exists.intro
            refine ⟨?_,hcall w hw⟩
            go_simp <;> with_reducible rfl
          simp only [Act.put,List.setIfInBounds_toArray,List.set_cons_zero,List.set_cons_succ]
          intro w' hw'
          obtain ⟨zb,zo,rfl⟩:∃ b o,za=some ⟨b,o,none⟩:=by
           obtain ⟨a',c',e,_,_,h3⟩:=hw'.1.bys
           obtain ⟨b,o,e',_⟩:=h3 (by rw [Cod.zt];decide)
           injection e with e1 _ _
           exact ⟨b,o,by rw [e1,e']⟩
          have h32:¬ (32=q):=by omega
          rw [if_neg h32]
          have hrng:=zLr hw'.1.bys
          have hk5:Blk w' p5 (bV (zBS fin i)).toArray 34:=G.out.1.kept hw'.2
          have hcl:(bV (Cod.be 4 x.toNat)).length=4:=by rw [zG,Cod.zt]
          have hth:w'.there p5 q (bV (Cod.be 4 x.toNat)).length:=by
           rw [hcl]
           exact zQ (n:=4) (o:=q) hk5 (by rw [List.size_toArray,zG,zA2 fin hi0];have:=HX.out.2.1;omega)
          have HS:=Lib.hid (And.intro hk5 (And.intro (G.out.2.1.kept hw'.2) (G.out.2.2.trans (hw'.2.mono G.out.2.2.size))))
          clear hk5 hw' hcall
          go_wp2_with (refine zKw (o:=⟨some 57,_,_,_,_,_⟩) rfl (.tmp 53) (.tmp 56) 41 41 5 rfl Tryz.underlying41 E8s (bV (Cod.be 4 x.toNat)) rfl rfl ?y1 ?y2 hth (zAQ _) ?_)
          case y1=>rw [hcl];show 4=min 4 (32 - q);have:=HX.out.2.1;omega
          case y2 =>
           intro j v hj
           have:=hrng j v hj
           rw [show (⟨zb,zo,none⟩:Addr).add j=⟨zb,zo+j,none⟩ from by unfold Addr.add;split <;> simp_all]
           exact this
          go_wp2_with fail
          go_roundw
          case rel =>
           refine ⟨i+1,by omega,by simp,?_,?_,?_⟩
           · obtain ⟨arr,g1,g2,g3⟩:=Blk.setCells (bV (Cod.be 4 x.toNat)) q _ _ HS.out.1
             have e:arr=(bV (zBS fin (i+1))).toArray:=by
              have hs:(bV (zBS fin i)).toArray.size=32:=by simp [zG,zA2 fin hi0]
              apply Array.ext_getElem?
              intro j
              rcases Nat.lt_or_ge j 32 with hj | hj
              · rw [g3 j (by omega),hcl,List.getElem?_toArray,List.getElem?_toArray,zAd,zAd,zAd,zHv fin hin j hj,← HX.out.1,HX.out.2.1]
                split <;> rfl
              · rw [Array.getElem?_eq_none (by omega),Array.getElem?_eq_none (by rw [List.size_toArray,zG,zA2 fin (show i+1≤8 by omega)];exact hj)]
             rw [← e];exact g1
           · exact Blk.setCells_other (fun e=>by omega) _ _ _ HS.out.2.1
           · exact (Chg.setCells (S:=fun k=>k=p5) (L:=p5) rfl _ _ _ (Chg.of_below HS.out.2.2)).below (Nat.le_refl _) (fun k hk=>by rw [hk];exact g0)
          case measure =>
           show 8 - ((i:Int)+1).toNat < 8 - (i:Int).toNat
           omega
        · obtain rfl:i=8:=by omega
          have hk5:=G.out.1
          rw [zLK] at hk5
          obtain ⟨co,hco⟩:∃ q,q=bV (zFD fin):=⟨_,rfl⟩
          have hcol:co.length=32:=by rw [hco,zG,zFE]
          have hca2:zAS 32 co:=⟨hcol,fun v hv=>by rw [hco] at hv;exact zAQ _ v hv⟩
          rw [← hco] at hk5
          have r5:zh 32 wr p5 0=co:=zBO hk5 hcol
          have q5:zi 32 wr p5 0:=zQ hk5 (by simp [hcol])
          have q2:zi 32 wr p2 0:=zQ G.out.2.1 (by simp)
          have HLD:=Lib.hid (zBy q2 hca2)
          have HM:=Lib.hid (And.intro hco G.out)
          clear hk5 hco G
          go_wp2_with fail
          refine bodyPost_ret (v:=.agg co.toArray) (by simp [results,Tryz.results95,asAddr,HLD.out]) rfl ⟨by rw [HM.out.1,HF.out],?_⟩
          exact (Chg.setCells (S:=fun b=>b=p2) (L:=p2) rfl _ _ _ (Chg.of_below HM.out.2.2.2)).below (Nat.le_refl _) (fun k hk=>by rw [hk];omega)
set_option maxRecDepth 100000 in
theorem zEE (v:Value) (bs:List UInt8) (w:World) (hv:Bys w v bs) (hl:bs.length≤100000000) :
  Calls Tryz.prog 62 #[v] w fun e w'=>e=.returned (.agg (bV (Sha.sum bs)).toArray)∧Below w.heap.size w w':=by
 obtain ⟨va,vc,rfl⟩:=hv.eq_slice
 obtain ⟨l,hll⟩:∃ l,l=bs.length:=⟨_,rfl⟩
 rw [← hll] at hv ⊢
 have H:=Lib.hid (And.intro hv hll)
 clear hv hll
 go_enter Tryz.func62,Tryz.ntmps62
 go_upto_region 1 with fail
 have hk2:Blk (w.alloc (.cells #[Value.int IntKind.u8 0,.int .u8 0,.int .u8 0,.int .u8 0,.int .u8 0,.int .u8 0,.int .u8 0,.int .u8 0,.int .u8 0,.int .u8 0,.int .u8 0,.int .u8 0,.int .u8 0,.int .u8 0,.int .u8 0,.int .u8 0,.int .u8 0,.int .u8 0,.int .u8 0,.int .u8 0,.int .u8 0,.int .u8 0,.int .u8 0,.int .u8 0,.int .u8 0,.int .u8 0,.int .u8 0,.int .u8 0,.int .u8 0,.int .u8 0,.int .u8 0,.int .u8 0] 34)) w.heap.size #[Value.int IntKind.u8 0,.int .u8 0,.int .u8 0,.int .u8 0,.int .u8 0,.int .u8 0,.int .u8 0,.int .u8 0,.int .u8 0,.int .u8 0,.int .u8 0,.int .u8 0,.int .u8 0,.int .u8 0,.int .u8 0,.int .u8 0,.int .u8 0,.int .u8 0,.int .u8 0,.int .u8 0,.int .u8 0,.int .u8 0,.int .u8 0,.int .u8 0,.int .u8 0,.int .u8 0,.int .u8 0,.int .u8 0,.int .u8 0,.int .u8 0,.int .u8 0,.int .u8 0] 34:=Blk.new _ _ _
 have hb1:Below w.heap.size w (w.alloc (.cells #[Value.int IntKind.u8 0,.int .u8 0,.int .u8 0,.int .u8 0,.int .u8 0,.int .u8 0,.int .u8 0,.int .u8 0,.int .u8 0,.int .u8 0,.int .u8 0,.int .u8 0,.int .u8 0,.int .u8 0,.int .u8 0,.int .u8 0,.int .u8 0,.int .u8 0,.int .u8 0,.int .u8 0,.int .u8 0,.int .u8 0,.int .u8 0,.int .u8 0,.int .u8 0,.int .u8 0,.int .u8 0,.int .u8 0,.int .u8 0,.int .u8 0,.int .u8 0,.int .u8 0] 34)):=(Below.refl _ _).alloc (Nat.le_refl _) _
 obtain ⟨w1,hw1⟩:∃ q,q=w.alloc (.cells #[Value.int IntKind.u8 0,.int .u8 0,.int .u8 0,.int .u8 0,.int .u8 0,.int .u8 0,.int .u8 0,.int .u8 0,.int .u8 0,.int .u8 0,.int .u8 0,.int .u8 0,.int .u8 0,.int .u8 0,.int .u8 0,.int .u8 0,.int .u8 0,.int .u8 0,.int .u8 0,.int .u8 0,.int .u8 0,.int .u8 0,.int .u8 0,.int .u8 0,.int .u8 0,.int .u8 0,.int .u8 0,.int .u8 0,.int .u8 0,.int .u8 0,.int .u8 0,.int .u8 0] 34):=⟨_,rfl⟩
 obtain ⟨p2,hp2⟩:∃ q,q=w.heap.size:=⟨_,rfl⟩
 rw [← hw1] at hk2 hb1 ⊢
 rw [← hp2] at hk2 ⊢
 have H1:=Lib.hid (And.intro hk2 (And.intro hb1 hp2))
 clear hk2 hb1 hw1 hp2
 go_wp2_with fail
 refine (zG1 w1).mono ?_
 rintro e w2 ⟨b,rfl,hs2,hge,hb2⟩
 have hv1:Bys w1 (.slice va l vc) bs:=H.out.1.below H1.out.2.1
 have H2:=Lib.hid (And.intro hs2 (And.intro hge (And.intro hb2 hv1)))
 clear hs2 hge hb2 hv1
 have hwr:=zFX w1 w2 b _ bs H2.out.1 H2.out.2.2.1 H2.out.2.1 H2.out.2.2.2 (by have:=H.out.2;omega)
 rw [← H.out.2] at hwr
 have HW:=Lib.hid hwr
 clear hwr
 go_wp2_with fail
 refine HW.out.mono ?_
 rintro e w3 ⟨rfl,u,hs3,hv3,hp3,hb3⟩
 have H3:=Lib.hid (And.intro hs3 (And.intro hv3 hb3))
 clear hs3 hv3 hp3 hb3
 go_wp2_with fail
 refine (zG2 w1 w3 b _ u l (bs.drop (64*(l / 64))) H3.out.1 H3.out.2.2 H2.out.2.1 H3.out.2.1 (by rw [List.length_drop,← H.out.2];omega) (by have:=H.out.2;omega)).mono ?_
 rintro e w4 ⟨rfl,hb4⟩
 have hsum:=zL4 bs
 rw [← H.out.2] at hsum
 rw [← hsum]
 obtain ⟨co,hco⟩:∃ q,q=bV (Sha.sum bs):=⟨_,rfl⟩
 rw [← hco]
 have hcol:co.length=32:=by rw [hco,zG,zJs]
 have hca2:zAS 32 co:=⟨hcol,fun v hv=>by rw [hco] at hv;exact zAQ _ v hv⟩
 have q2:zi 32 w4 p2 0:=zQ (H1.out.1.kept hb4) (by simp)
 have HLD:=Lib.hid (zBy q2 hca2)
 have HM:=Lib.hid (And.intro hco (H1.out.2.1.trans (hb4.mono H1.out.2.1.size)))
 clear hco hb4 hsum
 go_wp2_with fail
 refine bodyPost_ret (v:=.agg co.toArray) (by simp [results,Tryz.results62,asAddr,HLD.out]) rfl ⟨by rw [HM.out.1],?_⟩
 exact (Chg.setCells (S:=fun b=>b=p2) (L:=p2) rfl _ _ _ (Chg.of_below HM.out.2)).below (Nat.le_refl _) (fun k hk=>by rw [hk,H1.out.2.2];exact Nat.le_refl _)
end Go.Proofs.YtdlkghdfkjdajaaGreatDoor
end
section
namespace Go.Mem
open Go Go.RowKit Gf
section
variable {P:Program} {w:World} {ops:Array Oper} {rest:List Oper} {o:Oper} {a:Act} {Q:Exit→Act→World→Prop} {K:Act→World→Prop} {E0:Prop}
theorem zLf {t e:TypeId} {z:Value} {size bytes:Nat} (E:zCf P t e z size bytes) (s x:Operand) (ho:o.op=.call { callee:=.builtin .append,args:=#[s,x],argTypes:=#[t,t] })
  {base:Nat} {v:Value} {n m cx:Nat} {xs:List Value} (news:List Value) (hs:a.eval s=v) {mb:Nat} (hx:a.eval x=.slice (some ⟨mb,0,none⟩) m cx) (hl:news.length=m*size) (hnews:∀ j u,news[j]?=some u→w.cell? ⟨mb,j,none⟩=some u) (h1:∀ u∈news,u.oneCell'=true)
  (hown:w.ownsRow base e size v n xs) (hn:n+m≤4294967296) (hby:bytes≤4096) (hbase:base≤w.heap.size)
  (h:∀ v' w',w'.ownsRow base e size v' (n+m) (xs++news)∧w.grownBy w' v.ownBlock∧(∀ k,v'.ownBlock=some k→v.ownBlock=some k∨w.heap.size≤k)→K (a.put o.dst v') w'):o.wp P a w K Q:=by
 obtain ⟨i,hi,hz,hsz,hb⟩:=info_parts E.info
 have hm:(n+m)*bytes≤4294967296*4096:=Nat.mul_le_mul hn hby
 obtain ⟨v',w',hr,h2,h3,h4⟩:=zDW (P:=P) w base t o.type e i z size bytes E.under hi hz hsz hb E.zsize E.pos v n xs hown ⟨mb,0,none⟩ m cx news (by omega)
  (fun j y hj=>by
   rw [show (⟨mb,0,none⟩:Addr).add j=⟨mb,j,none⟩ from by unfold Addr.add;split <;> simp_all]
   exact hnews j y hj)
  h1 (by unfold maxLen;omega) (by omega) hbase
 unfold Oper.wp execOp
 simp only [ho,resolve,invoke,builtin,Sem.run_bind,Sem.run_pure,Result.andThen_ok,List.map_toArray,List.map_cons,List.map_nil,hs,hx,hr]
 exact h v' w' ⟨h2,h3,h4⟩
theorem zAZ {α:Type} {enc:α→List Value} {Wf:α→Prop} {t e:TypeId} {z:Value} {size bytes:Nat} (E:zCf P t e z size bytes) (EC:zEa enc Wf size) (hgd:o.guard=none) (s x:Operand) (ho:o.op=.call { callee:=.builtin .append,args:=#[s,x],argTypes:=#[t,t] })
  {base:Nat} {v:Value} {l:List α} (y:α) (hy:Wf y) (hs:a.eval s=v) {mb cx:Nat} (hx:a.eval x=.slice (some ⟨mb,0,none⟩) 1 cx) {e':TypeId} (hnews:Blk w mb (enc y).toArray e')
  (hown:zL enc Wf size e w base v l) (hn:l.length+1≤4294967296) (hby:bytes≤4096) (hbase:base≤w.heap.size)
  (h:∀ v' w',zL enc Wf size e w' base v' (l++[y])→w.grownBy w' v.ownBlock→(∀ k,v'.ownBlock=some k→v.ownBlock=some k∨w.heap.size≤k)→wpList P ops Q rest (a.put o.dst v') w'):wpList P ops Q (o::rest) a w :=
 zCW hgd (fun _ hK=>zLf E s x ho (enc y) hs hx (by rw [EC.len y hy,Nat.one_mul]) (fun j u hj=>by rw [hnews.cell];simpa using hj) (EC.one y) hown.own hn hby hbase hK) fun v' w' h2=>h v' w'
  ⟨by rw [List.length_append,List.length_singleton,zHE,zKr];exact h2.1,fun q hq=>by
   rcases List.mem_append.1 hq with hq | hq
   · exact hown.wf q hq
   · rw [List.mem_singleton.1 hq];exact hy⟩ h2.2.1 h2.2.2
end
theorem zL.ge {α:Type} {enc:α→List Value} {Wf:α→Prop} {k:Nat} {ti:TypeId} {w:World} {base:Nat} {v:Value} {l:List α} (h:zL enc Wf k ti w base v l) {g:Nat} (e:v.ownBlock=some g):base≤g:=by
 rcases h.own.2 with ⟨e1,_⟩ | ⟨g',cap,cur,e1,h1,_⟩
 · rw [e1] at e;cases e
 · rw [e1] at e;cases e;exact h1
theorem zL.grown {α:Type} {enc:α→List Value} {Wf:α→Prop} {k:Nat} {ti:TypeId} {w w':World} {base:Nat} {v:Value} {l:List α} (h:zL enc Wf k ti w base v l) {row:Option Nat} (hg:w.grownBy w' row) (hr:∀ g,v.ownBlock=some g→row≠some g):zL enc Wf k ti w' base v l :=
 h.chg (S:=fun q=>row=some q) (Chg.grown (Chg.refl _ _) hg (fun _ hq=>.inl hq)) (fun g hg'=>hr g hg')
end Go.Mem
end
