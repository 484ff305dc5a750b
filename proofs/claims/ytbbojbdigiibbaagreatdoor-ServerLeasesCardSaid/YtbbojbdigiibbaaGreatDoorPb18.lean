/- Texts of this proof,packed: ShaFin,SrvHolds. -/
import Derived.Test.YtbbojbdigiibbaaGreatDoorPb17
import Derived.Test.YtbbojbdigiibbaaGreatDoorPb16
section
namespace Sha
open Go.Mem
def zGi (v:H8) (i:Nat):List UInt8:=((v.l.take i).flatMap fun x=>Cod.be 4 x.toNat)++List.replicate (32 - 4*i) 0
theorem zIL (v:H8) {i:Nat} (hi:i≤8):((v.l.take i).flatMap fun x=>Cod.be 4 x.toNat).length=4*i:=by
 have hl:v.l.length=8:=rfl
 rw [List.length_flatMap]
 have:(v.l.take i).map (fun x=>(Cod.be 4 x.toNat).length)=List.replicate i 4:=by
  rw [List.eq_replicate_iff]
  refine ⟨by rw [List.length_map,List.length_take];omega,fun y hy=>?_⟩
  obtain ⟨x,_,rfl⟩:=List.mem_map.1 hy
  exact Cod.zAV _ _
 rw [this,List.sum_replicate_nat];omega
theorem zHR (v:H8) {i:Nat} (hi:i≤8):(zGi v i).length=32:=by
 unfold zGi
 rw [List.length_append,zIL v hi,List.length_replicate];omega
theorem outP_8 (v:H8):zGi v 8=zI2 v:=by
 unfold zGi zI2
 rw [List.take_of_length_le (by show 8≤8;omega)]
 show _++[]=_
 rw [List.append_nil]
theorem zN8 (v:H8) {i:Nat} (hi:i < 8) (j:Nat) (hj:j < 32):(zGi v (i+1))[j]?=if 4*i≤j∧j < 4*i+4 then (Cod.be 4 (v.l.getD i 0).toNat)[j - 4*i]? else (zGi v i)[j]?:=by
 have hl:v.l.length=8:=rfl
 have h1:=zIL v (show i≤8 by omega)
 have e:(v.l.take (i+1)).flatMap (fun x=>Cod.be 4 x.toNat)=(v.l.take i).flatMap (fun x=>Cod.be 4 x.toNat)++Cod.be 4 (v.l.getD i 0).toNat:=by
  rw [List.take_add_one,List.flatMap_append,List.getD_eq_getElem?_getD,List.getElem?_eq_getElem (by omega)]
  simp
 have h2:(Cod.be 4 (v.l.getD i 0).toNat).length=4:=Cod.zAV _ _
 unfold zGi
 rw [e,List.append_assoc]
 rcases Nat.lt_or_ge j (4*i) with c | c
 · rw [if_neg (by omega),List.getElem?_append_left (by omega),List.getElem?_append_left (by omega)]
 · rw [List.getElem?_append_right (by omega),h1]
   rcases Nat.lt_or_ge j (4*i+4) with d | d
   · rw [if_pos ⟨c,d⟩,List.getElem?_append_left (by omega)]
   · rw [if_neg (by omega),List.getElem?_append_right (by omega),List.getElem?_append_right (by omega),h1,h2,List.getElem?_replicate,List.getElem?_replicate,if_pos (by omega),if_pos (by omega)]
end Sha
namespace Go.Proofs.YtbbojbdigiibbaaGreatDoor
open Go Go.RowKit Go.Mem Gf Sha
set_option linter.unusedVariables false
attribute [local go_sem ↓] Go.wp_at_zero Go.wp_at_succ
attribute [local go_sem ↓] zIy zHi
attribute [local go_sem] ptrB_eq ptrO_eq ptrIs_eq aggL_eq aggIs_eq zT zg zC zG zX zH zK zCR
attribute [local irreducible] zCj kL
theorem idx8_0 (k0 k1 k2 k3 k4 k5 k6 k7:Value) (w:World):(Instr.index 118 (.agg #[k0,k1,k2,k3,k4,k5,k6,k7]) (.int .i64 ((0:Nat):Int))).run Tryz.prog w=.ok k0 w:=by kernel_rfl
theorem idx8_1 (k0 k1 k2 k3 k4 k5 k6 k7:Value) (w:World):(Instr.index 118 (.agg #[k0,k1,k2,k3,k4,k5,k6,k7]) (.int .i64 ((1:Nat):Int))).run Tryz.prog w=.ok k1 w:=by kernel_rfl
theorem idx8_2 (k0 k1 k2 k3 k4 k5 k6 k7:Value) (w:World):(Instr.index 118 (.agg #[k0,k1,k2,k3,k4,k5,k6,k7]) (.int .i64 ((2:Nat):Int))).run Tryz.prog w=.ok k2 w:=by kernel_rfl
theorem idx8_3 (k0 k1 k2 k3 k4 k5 k6 k7:Value) (w:World):(Instr.index 118 (.agg #[k0,k1,k2,k3,k4,k5,k6,k7]) (.int .i64 ((3:Nat):Int))).run Tryz.prog w=.ok k3 w:=by kernel_rfl
theorem idx8_4 (k0 k1 k2 k3 k4 k5 k6 k7:Value) (w:World):(Instr.index 118 (.agg #[k0,k1,k2,k3,k4,k5,k6,k7]) (.int .i64 ((4:Nat):Int))).run Tryz.prog w=.ok k4 w:=by kernel_rfl
theorem idx8_5 (k0 k1 k2 k3 k4 k5 k6 k7:Value) (w:World):(Instr.index 118 (.agg #[k0,k1,k2,k3,k4,k5,k6,k7]) (.int .i64 ((5:Nat):Int))).run Tryz.prog w=.ok k5 w:=by kernel_rfl
theorem idx8_6 (k0 k1 k2 k3 k4 k5 k6 k7:Value) (w:World):(Instr.index 118 (.agg #[k0,k1,k2,k3,k4,k5,k6,k7]) (.int .i64 ((6:Nat):Int))).run Tryz.prog w=.ok k6 w:=by kernel_rfl
theorem idx8_7 (k0 k1 k2 k3 k4 k5 k6 k7:Value) (w:World):(Instr.index 118 (.agg #[k0,k1,k2,k3,k4,k5,k6,k7]) (.int .i64 ((7:Nat):Int))).run Tryz.prog w=.ok k7 w:=by kernel_rfl
theorem idx_h8 (w:World) (i:Nat) (hi:i < 8) (l:List Value) (hl:l.length=8) (x:Value) (hx:l[i]?=some x):(Instr.index 118 (.agg l.toArray) (.int .i64 (i:Int))).run Tryz.prog w=.ok x w:=by
 obtain ⟨k0,k1,k2,k3,k4,k5,k6,k7,rfl⟩:∃ k0 k1 k2 k3 k4 k5 k6 k7,l=[k0,k1,k2,k3,k4,k5,k6,k7]:=by
  match l,hl with
  | [k0,k1,k2,k3,k4,k5,k6,k7],_=>exact ⟨k0,k1,k2,k3,k4,k5,k6,k7,rfl⟩
 have e:i=0∨i=1∨i=2∨i=3∨i=4∨i=5∨i=6∨i=7:=by omega
 rcases e with e | e
 · subst e
   have hx:some k0=some x:=hx
   have hx:=Option.some.inj hx
   rw [← hx]
   exact idx8_0 k0 k1 k2 k3 k4 k5 k6 k7 w
 rcases e with e | e
 · subst e
   have hx:some k1=some x:=hx
   have hx:=Option.some.inj hx
   rw [← hx]
   exact idx8_1 k0 k1 k2 k3 k4 k5 k6 k7 w
 rcases e with e | e
 · subst e
   have hx:some k2=some x:=hx
   have hx:=Option.some.inj hx
   rw [← hx]
   exact idx8_2 k0 k1 k2 k3 k4 k5 k6 k7 w
 rcases e with e | e
 · subst e
   have hx:some k3=some x:=hx
   have hx:=Option.some.inj hx
   rw [← hx]
   exact idx8_3 k0 k1 k2 k3 k4 k5 k6 k7 w
 rcases e with e | e
 · subst e
   have hx:some k4=some x:=hx
   have hx:=Option.some.inj hx
   rw [← hx]
   exact idx8_4 k0 k1 k2 k3 k4 k5 k6 k7 w
 rcases e with e | e
 · subst e
   have hx:some k5=some x:=hx
   have hx:=Option.some.inj hx
   rw [← hx]
   exact idx8_5 k0 k1 k2 k3 k4 k5 k6 k7 w
 rcases e with e | e
 · subst e
   have hx:some k6=some x:=hx
   have hx:=Option.some.inj hx
   rw [← hx]
   exact idx8_6 k0 k1 k2 k3 k4 k5 k6 k7 w

 · subst e
   have hx:some k7=some x:=hx
   have hx:=Option.some.inj hx
   rw [← hx]
   exact idx8_7 k0 k1 k2 k3 k4 k5 k6 k7 w
theorem zOp {w:World} {b o n c:Nat} {bs:List UInt8} (h:Bys w (.slice (some ⟨b,o,none⟩) n c) bs):w.rangeAt b o (bV bs):=fun j v hv=>by
 rw [zA0] at hv
 cases hu:bs[j]? with
 | none=>rw [hu] at hv;cases hv
 | some u =>
   rw [hu] at hv
   obtain ⟨a',c',e,_,_,h3⟩:=h
   injection e with e1 _ _
   obtain ⟨b',o',e',hc⟩:=h3 (by have:=zh hu;omega)
   rw [← e1] at e'
   injection e' with e'
   injection e' with e1 e2
   subst e1
   subst e2
   rw [hc j u hu]
   simpa using hv
theorem i32h:(Tryz.prog.info? 63).map (·.size)=some 32:=by kernel_rfl
theorem zMm (dst:Option Tmp) (x:Operand) (ty:TypeId) (pos:String) (af:Array Edge) (gd:Option (Tmp × Bool)) (a:Act) (w:World) (K:Act→World→Prop) (Q:Exit→Act→World→Prop)
  (hp:zAs (a.eval x)=true) (ht:zW 32 w (zAB (a.eval x)) (zAC (a.eval x))) :
  Oper.wp Tryz.prog ⟨dst,.load 63 x,ty,pos,af,gd⟩ a w K Q=K (a.put dst (.agg (zN 32 w (zAB (a.eval x)) (zAC (a.eval x))).toArray)) w :=
 zEW Tryz.underlying63 rfl i32h dst x ty pos af gd a w K Q hp ht
theorem zLp (dst:Option Tmp) (x y:Operand) (ty:TypeId) (pos:String) (af:Array Edge) (a:Act) (w:World) (K:Act→World→Prop) (Q:Exit→Act→World→Prop)
  (hp:zAs (a.eval x)=true) (hy:zBD (a.eval y)=true) (ht:zW 32 w (zAB (a.eval x)) (zAC (a.eval x))) (hc:zAP 32 (zAi (a.eval y))) :
  Oper.wp Tryz.prog ⟨dst,.store 63 x y,ty,pos,af,none⟩ a w K Q=K (a.put dst undef) (w.setCells (zAB (a.eval x)) (zAC (a.eval x)) (zAi (a.eval y))) :=
 zBN i32h dst x y ty pos af a w K Q hp hy ht hc
theorem zGP {w:World} {b:Nat} {cs:List Value} (h:zW 32 w b 0) (hc:zAP 32 cs):(loadVar 63 ⟨b,0,none⟩).run Tryz.prog (w.setCells b 0 cs)=.ok (.agg cs.toArray) (w.setCells b 0 cs):=by
 have h2:=zC2 h b 0 cs
 refine run_loadVar_mid _ b 0 _ cs _ ?_ Tryz.underlying63 rfl (by rw [hc.1];exact i32h)
 have:=zAD h2
 rwa [zCq h hc] at this
attribute [local go_sem ↓] zMm zLp
theorem zNX {n:Nat} {w:World} {b:Nat} {cs ds:List Value} {t:TypeId} (h:Blk w b cs.toArray t) (h1:cs.length=n) (h2:ds.length=n):Blk (w.setCells b 0 ds) b ds.toArray t:=by
 obtain ⟨arr,g1,g2,g3⟩:=Blk.setCells ds 0 _ _ h
 have e:arr=ds.toArray:=by
  apply Array.ext_getElem?
  intro k
  have hs:cs.toArray.size=n:=by simpa using h1
  rcases Nat.lt_or_ge k n with hk | hk
  · rw [g3 k (by omega),if_pos ⟨Nat.zero_le _,by omega⟩,Nat.sub_zero];simp
  · rw [Array.getElem?_eq_none (by omega),Array.getElem?_eq_none (by simp;omega)]
 rw [← e];exact g1
theorem zO6 (n:Nat):((n:Int).tmod 64)=((n % 64:Nat):Int):=by
 rw [Int.ofNat_tmod];rfl
set_option maxRecDepth 100000 in
set_option maxHeartbeats 4000000 in
theorem zJA (w0 w:World) (b:Nat) (h:H8) (u:Value) (L:Nat) (rest:List UInt8) (hs:zAX w b h u (L:Nat)) (hb0:Below w0.heap.size w0 w) (hge:w0.heap.size≤b) (hv:Bys w u rest) (hr:rest.length < 64) (hL:L≤100000000) :
  Calls Tryz.prog 216 #[.pointer (some ⟨b,0,none⟩)] w fun e w'=>e=.returned (.agg (bV (zI2 (zB9 ((pad rest L).length / 64) h (pad rest L)))).toArray)∧Below w0.heap.size w0 w':=by
 obtain ⟨P,hP⟩:∃ P,P=pad rest L:=⟨_,rfl⟩
 obtain ⟨ua,uc,rfl⟩:=hv.eq_slice
 obtain ⟨m,hm⟩:∃ m,m=rest.length:=⟨_,rfl⟩
 rw [← hP]
 rw [← hm] at hv hs hr
 have HP:=Zh (Zi hP hm)
 clear hP hm
 have HI:=Zh (Zi hs (Zi hb0 hv))
 clear hs hb0 hv
 go_enter Tryz.func216,Tryz.ntmps216
 go_upto_region 1 with fail
 have hk2:Blk (w.alloc (.cells #[Value.int IntKind.u8 0,.int .u8 0,.int .u8 0,.int .u8 0,.int .u8 0,.int .u8 0,.int .u8 0,.int .u8 0,.int .u8 0,.int .u8 0,.int .u8 0,.int .u8 0,.int .u8 0,.int .u8 0,.int .u8 0,.int .u8 0,.int .u8 0,.int .u8 0,.int .u8 0,.int .u8 0,.int .u8 0,.int .u8 0,.int .u8 0,.int .u8 0,.int .u8 0,.int .u8 0,.int .u8 0,.int .u8 0,.int .u8 0,.int .u8 0,.int .u8 0,.int .u8 0] 63)) w.heap.size #[Value.int IntKind.u8 0,.int .u8 0,.int .u8 0,.int .u8 0,.int .u8 0,.int .u8 0,.int .u8 0,.int .u8 0,.int .u8 0,.int .u8 0,.int .u8 0,.int .u8 0,.int .u8 0,.int .u8 0,.int .u8 0,.int .u8 0,.int .u8 0,.int .u8 0,.int .u8 0,.int .u8 0,.int .u8 0,.int .u8 0,.int .u8 0,.int .u8 0,.int .u8 0,.int .u8 0,.int .u8 0,.int .u8 0,.int .u8 0,.int .u8 0,.int .u8 0,.int .u8 0] 63:=Blk.new _ _ _
 have hb1:=HI.o.2.1.alloc HI.o.2.1.size (.cells #[Value.int IntKind.u8 0,.int .u8 0,.int .u8 0,.int .u8 0,.int .u8 0,.int .u8 0,.int .u8 0,.int .u8 0,.int .u8 0,.int .u8 0,.int .u8 0,.int .u8 0,.int .u8 0,.int .u8 0,.int .u8 0,.int .u8 0,.int .u8 0,.int .u8 0,.int .u8 0,.int .u8 0,.int .u8 0,.int .u8 0,.int .u8 0,.int .u8 0,.int .u8 0,.int .u8 0,.int .u8 0,.int .u8 0,.int .u8 0,.int .u8 0,.int .u8 0,.int .u8 0] 63)
 have hs1:=HI.o.1.alloc (.cells #[Value.int IntKind.u8 0,.int .u8 0,.int .u8 0,.int .u8 0,.int .u8 0,.int .u8 0,.int .u8 0,.int .u8 0,.int .u8 0,.int .u8 0,.int .u8 0,.int .u8 0,.int .u8 0,.int .u8 0,.int .u8 0,.int .u8 0,.int .u8 0,.int .u8 0,.int .u8 0,.int .u8 0,.int .u8 0,.int .u8 0,.int .u8 0,.int .u8 0,.int .u8 0,.int .u8 0,.int .u8 0,.int .u8 0,.int .u8 0,.int .u8 0,.int .u8 0,.int .u8 0] 63)
 have hu1:=HI.o.2.2.below ((Below.refl _ _).alloc (Nat.le_refl _) (.cells #[Value.int IntKind.u8 0,.int .u8 0,.int .u8 0,.int .u8 0,.int .u8 0,.int .u8 0,.int .u8 0,.int .u8 0,.int .u8 0,.int .u8 0,.int .u8 0,.int .u8 0,.int .u8 0,.int .u8 0,.int .u8 0,.int .u8 0,.int .u8 0,.int .u8 0,.int .u8 0,.int .u8 0,.int .u8 0,.int .u8 0,.int .u8 0,.int .u8 0,.int .u8 0,.int .u8 0,.int .u8 0,.int .u8 0,.int .u8 0,.int .u8 0,.int .u8 0,.int .u8 0] 63))
 have hlt:=Blk.lt HI.o.1
 have h0:=HI.o.2.1.size
 obtain ⟨w1,hw1⟩:∃ q,q=w.alloc (.cells #[Value.int IntKind.u8 0,.int .u8 0,.int .u8 0,.int .u8 0,.int .u8 0,.int .u8 0,.int .u8 0,.int .u8 0,.int .u8 0,.int .u8 0,.int .u8 0,.int .u8 0,.int .u8 0,.int .u8 0,.int .u8 0,.int .u8 0,.int .u8 0,.int .u8 0,.int .u8 0,.int .u8 0,.int .u8 0,.int .u8 0,.int .u8 0,.int .u8 0,.int .u8 0,.int .u8 0,.int .u8 0,.int .u8 0,.int .u8 0,.int .u8 0,.int .u8 0,.int .u8 0] 63):=⟨_,rfl⟩
 obtain ⟨p2,hp2⟩:∃ q,q=w.heap.size:=⟨_,rfl⟩
 have hz1:w1.heap.size=p2+1:=by rw [hw1,hp2];simp
 rw [← hw1] at hk2 hb1 hs1 hu1 ⊢
 rw [← hp2] at hk2 hlt h0 ⊢
 have hs1:zAX w1 b h (.slice ua m uc) (L:Nat):=hs1
 have c72:=hs1.cu
 have H1:=Zh (Zi hs1 (Zi hb1 (Zi hk2 hu1)))
 clear hk2 hb1 hs1 hu1 hw1 hp2 HI
 go_wp2_with (at_builtin;refine zEr E8c rfl _ _ rfl (base:=p2+1) (bs:=[]) (news:=rest) rfl rfl (zt.nil _ _ _) H1.o.2.2.2 ?q1 ?q2 ?_)
 case q1=>have:=HP.o.2;simp;omega
 case q2=>omega
 intro v2 w2 ho2 hg2
 have ho2:zt 5 w2 (p2+1) v2 rest:=ho2
 have hb2:Below w1.heap.size w1 w2:=zAo hg2 rfl
 have hz2:=hb2.size
 have hl2:=ho2.lt
 have H2:=Zh (Zi (H1.o.1.below hb2) (Zi (H1.o.2.1.trans (hb2.mono H1.o.2.1.size)) (H1.o.2.2.1.kept hb2)))
 clear hg2 hb2
 go_wp2_with (at_builtin;refine zEr E8c rfl _ _ rfl (base:=p2+1) (bs:=rest) (news:=[128]) rfl rfl (ho2.alloc _) (zCh _ 128 _ rfl _) ?q3 ?q4 ?_)
 case q3=>have:=HP.o.2;simp;omega
 case q4=>simp;omega
 intro v3 w3 ho3 hg3
 have hb3:=zl (H2.o.2.1.alloc H2.o.2.1.size _) hg3 (fun k hk=>by have:=(hl2 k hk).1;omega)
 have hcc:Chg (fun k=>v2.ownBlock=some k) w2 w3:=Chg.grown (S:=fun k=>v2.ownBlock=some k) (Chg.of_below ((Below.refl _ _).alloc (Nat.le_refl _) _)) hg3 (fun _ hq=>.inl hq)
 have hs3:zAX w3 b h (.slice ua m uc) (L:Nat):=hcc.blk H2.o.1 (fun e=>by have:=(hl2 b e).1;omega)
 have hk3:Blk w3 p2 #[Value.int IntKind.u8 0,.int .u8 0,.int .u8 0,.int .u8 0,.int .u8 0,.int .u8 0,.int .u8 0,.int .u8 0,.int .u8 0,.int .u8 0,.int .u8 0,.int .u8 0,.int .u8 0,.int .u8 0,.int .u8 0,.int .u8 0,.int .u8 0,.int .u8 0,.int .u8 0,.int .u8 0,.int .u8 0,.int .u8 0,.int .u8 0,.int .u8 0,.int .u8 0,.int .u8 0,.int .u8 0,.int .u8 0,.int .u8 0,.int .u8 0,.int .u8 0,.int .u8 0] 63:=hcc.blk H2.o.2.2 (fun e=>by have:=(hl2 p2 e).1;omega)
 have hz3:=hcc.size
 have H3:=Zh (Zi ho3 (Zi hs3 (Zi hk3 hb3)))
 clear ho2 hl2 hg3 ho3 hs3 hk3 hb3 hcc
 obtain ⟨zz,hzz⟩:∃ z,z=zeros rest.length:=⟨_,rfl⟩
 have HZ:=Zh hzz
 clear hzz
 go_upto_region 2 with fail
 go_loopw [3] (fun v wr=>∃ j:Nat,j≤zz∧Hid (zt 5 wr (p2+1) v (rest++128::List.replicate j 0)∧zAX wr b h (.slice ua m uc) (L:Nat)∧Blk wr p2 #[Value.int IntKind.u8 0,.int .u8 0,.int .u8 0,.int .u8 0,.int .u8 0,.int .u8 0,.int .u8 0,.int .u8 0,.int .u8 0,.int .u8 0,.int .u8 0,.int .u8 0,.int .u8 0,.int .u8 0,.int .u8 0,.int .u8 0,.int .u8 0,.int .u8 0,.int .u8 0,.int .u8 0,.int .u8 0,.int .u8 0,.int .u8 0,.int .u8 0,.int .u8 0,.int .u8 0,.int .u8 0,.int .u8 0,.int .u8 0,.int .u8 0,.int .u8 0,.int .u8 0] 63∧Below w0.heap.size w0 wr∧p2+1≤wr.heap.size)) (fun v _=>300 - zOH v)
 case atStart=>exact ⟨0,Nat.zero_le _,H3.o.1,H3.o.2.1,H3.o.2.2.1,H3.o.2.2.2,by omega⟩
 case round =>
  obtain ⟨j,hj0,G⟩:=hrel
  obtain ⟨va,vc,ev⟩:=G.o.1.eq_slice
  obtain ⟨k,hk⟩:∃ k,k=m+1+j:=⟨_,rfl⟩
  have hkl:(rest++128::List.replicate j (0:UInt8)).length=k:=by
   rw [List.length_append,List.length_cons,List.length_replicate,← HP.o.2];omega
  rw [hkl] at ev
  subst ev
  have hzm:=zIc rest.length
  rw [← HZ.o,← HP.o.2] at hzm
  have hmod:=zO6 k
  by_cases hin:j < zz
  · have hne:k % 64≠56:=by
     have:=zKv (n:=rest.length) (i:=j) (by rw [← HZ.o];exact hin)
     rw [← HP.o.2] at this
     rw [hk];exact this
    have t1:((k:Int) % 64 != 56)=true:=by simp;omega
    have HK:=Zh (Zi hk (Zi hkl hzm))
    clear hk hkl hzm hne
    go_wp2_with (at_builtin;refine zEr E8c rfl _ _ rfl (base:=p2+1) (bs:=rest++128::List.replicate j 0) (news:=[0]) rfl rfl (G.o.1.alloc _) (zCh _ 0 _ rfl _) ?c1 ?c2 ?_)
    case c1=>rw [HK.o.2.1];show k+1≤_;have:=HK.o.1;have:=HK.o.2.2;omega
    case c2=>have:=G.o.2.2.2.2;simp;omega
    intro v4 w4 ho4 hg4
    have hlo:=fun k hk=>(G.o.1.lt k hk).1
    have hb4:=zl (G.o.2.2.2.1.alloc G.o.2.2.2.1.size _) hg4 (fun k hk=>by have:=hlo k hk;omega)
    have hcc:Chg (fun q=>(Value.slice va k vc).ownBlock=some q) wr w4:=Chg.grown (S:=fun q=>(Value.slice va k vc).ownBlock=some q) (Chg.of_below ((Below.refl _ _).alloc (Nat.le_refl _) _)) hg4 (fun _ hq=>.inl hq)
    have hs4:zAX w4 b h (.slice ua m uc) (L:Nat):=hcc.blk G.o.2.1 (fun e=>by have:=hlo b e;omega)
    have hk4:Blk w4 p2 #[Value.int IntKind.u8 0,.int .u8 0,.int .u8 0,.int .u8 0,.int .u8 0,.int .u8 0,.int .u8 0,.int .u8 0,.int .u8 0,.int .u8 0,.int .u8 0,.int .u8 0,.int .u8 0,.int .u8 0,.int .u8 0,.int .u8 0,.int .u8 0,.int .u8 0,.int .u8 0,.int .u8 0,.int .u8 0,.int .u8 0,.int .u8 0,.int .u8 0,.int .u8 0,.int .u8 0,.int .u8 0,.int .u8 0,.int .u8 0,.int .u8 0,.int .u8 0,.int .u8 0] 63:=hcc.blk G.o.2.2.1 (fun e=>by have:=hlo p2 e;omega)
    have hz4:=hcc.size
    have ho4:zt 5 w4 (p2+1) v4 (rest++128::List.replicate (j+1) 0):=by
     rw [List.replicate_succ']
     exact ho4
    obtain ⟨va4,vc4,ev4⟩:=ho4.eq_slice
    have hl4:(rest++128::List.replicate (j+1) (0:UInt8)).length=k+1:=by
     have:=HK.o.2.1
     rw [List.length_append,List.length_cons,List.length_replicate] at this ⊢
     omega
    rw [hl4] at ev4
    have H4:=Zh (Zi ho4 (Zi hs4 (Zi hk4 hb4)))
    clear ho4 hg4 hlo hb4 hcc hs4 hk4 hl4
    subst ev4
    go_wp2_with fail
    exact ⟨⟨j+1,by omega,H4.o.1,H4.o.2.1,H4.o.2.2.1,H4.o.2.2.2,by have:=G.o.2.2.2.2;omega⟩,by
     show 300 - (k+1) < 300 - k
     have:=HK.o.1
     have:=HK.o.2.2
     omega⟩
  · obtain rfl:j=zz:=by omega
    have t1:((k:Int) % 64 != 56)=false:=by
     rw [hk];simp;omega
    have c73:=G.o.2.1.cn
    have h8:IntKind.i64.wrap (8*(L:Int))=((8*L:Nat):Int):=by rw [IntKind.wrap_i64];omega
    obtain ⟨L8,hL8⟩:∃ x,x=8*L:=⟨_,rfl⟩
    rw [← hL8] at h8
    have hL9:L8≤9223372036854775807:=by omega
    have HK:=Zh (Zi hk (Zi hkl (Zi hzm hL8)))
    clear hk hkl hzm hL8 hmod
    go_wp2_with fail
    refine (zKT L8 8 hL9 (by decide) (by decide) wr).mono ?_
    rintro e w4 ⟨vp,rfl,hop,hb4⟩
    go_wp2_with (at_builtin;refine zEr E8c rfl _ _ rfl (base:=p2+1) (bs:=rest++128::List.replicate j 0) (news:=Cod.be 8 L8) rfl rfl (G.o.1.below hb4) hop.bys ?d1 ?d2 ?_)
    case d1=>rw [HK.o.2.1,Cod.zAV];have:=HK.o.1;have:=HK.o.2.2.1;omega
    case d2=>have:=G.o.2.2.2.2;have:=hb4.size;omega
    intro v5 w5 ho5 hg5
    have hlo:=fun k hk=>(G.o.1.lt k hk).1
    have hbb:=G.o.2.2.2.1.trans (hb4.mono G.o.2.2.2.1.size)
    have hb5:=zl hbb hg5 (fun k hk=>by have:=hlo k hk;omega)
    have hcc:Chg (fun q=>(Value.slice va k vc).ownBlock=some q) wr w5:=Chg.grown (S:=fun q=>(Value.slice va k vc).ownBlock=some q) (Chg.of_below hb4) hg5 (fun _ hq=>.inl hq)
    have hs5:zAX w5 b h (.slice ua m uc) (L:Nat):=hcc.blk G.o.2.1 (fun e=>by have:=hlo b e;omega)
    have hk5:Blk w5 p2 #[Value.int IntKind.u8 0,.int .u8 0,.int .u8 0,.int .u8 0,.int .u8 0,.int .u8 0,.int .u8 0,.int .u8 0,.int .u8 0,.int .u8 0,.int .u8 0,.int .u8 0,.int .u8 0,.int .u8 0,.int .u8 0,.int .u8 0,.int .u8 0,.int .u8 0,.int .u8 0,.int .u8 0,.int .u8 0,.int .u8 0,.int .u8 0,.int .u8 0,.int .u8 0,.int .u8 0,.int .u8 0,.int .u8 0,.int .u8 0,.int .u8 0,.int .u8 0,.int .u8 0] 63:=hcc.blk G.o.2.2.1 (fun e=>by have:=hlo p2 e;omega)
    have he:rest++128::(List.replicate j (0:UInt8)++Cod.be 8 L8)=P:=by
     rw [HP.o.1,HZ.o,HK.o.2.2.2]
     rfl
    have ho5:zt 5 w5 (p2+1) v5 P:=by rw [← he];exact ho5
    have hz5:=hcc.size
    have hp5:Past p2 v5:=fun a n c e=>by have:=(ho5.lt a.block (by rw [e];rfl)).1;omega
    have hgz:=G.o.2.2.2.2
    have hp6:∀ a n c,v5=.slice (some a) n c→a.block < w5.heap.size:=fun a n c e=>(ho5.lt a.block (by rw [e];rfl)).2
    have H5:=Zh (Zi ho5.bys (Zi hp5 (Zi hs5 (Zi hk5 (Zi hb5 hp6)))))
    have hl5:=Blk.lt hs5
    clear hop hb4 ho5 hg5 hlo hbb hb5 hcc hs5 hk5 he hp5 hp6 G
    have r8:=H5.o.2.2.1.read
    have q8:=H5.o.2.2.1.has
    have hca:=zLI h
    obtain ⟨ch,hch⟩:∃ q,q=hV h:=⟨_,rfl⟩
    rw [← hch] at r8 hca
    have HCH:=Zh hch
    clear hch
    go_upto_region 6 with fail
    have hk6:Blk ((w5.alloc (.cells #[Value.int IntKind.u32 0,.int .u32 0,.int .u32 0,.int .u32 0,.int .u32 0,.int .u32 0,.int .u32 0,.int .u32 0] 118)).setCells w5.heap.size 0 ch) w5.heap.size ch.toArray 118:=by
     rw [zK _ _ _ _ rfl (by rw [hca.1];rfl)]
     exact Blk.new _ _ _
    have hcc:Chg (fun k=>k=w5.heap.size) w5 ((w5.alloc (.cells #[Value.int IntKind.u32 0,.int .u32 0,.int .u32 0,.int .u32 0,.int .u32 0,.int .u32 0,.int .u32 0,.int .u32 0] 118)).setCells w5.heap.size 0 ch):=Chg.setCells (S:=fun k=>k=w5.heap.size) (L:=w5.heap.size) rfl _ _ _ (Chg.of_below ((Below.refl _ _).alloc (Nat.le_refl _) _))
    have hlt2:=Blk.lt H5.o.2.2.2.1
    have hs6:=hcc.blk H5.o.2.2.1 (fun e=>by have:b=w5.heap.size:=e;omega)
    have hp6:=hcc.blk H5.o.2.2.2.1 (fun e=>by have:p2=w5.heap.size:=e;omega)
    have hv6:=H5.o.1.chg hcc (fun a n c e hS=>by have h1:=H5.o.2.2.2.2.2 a n c e;have h2:a.block=w5.heap.size:=hS;omega)
    have hb6:Below w0.heap.size w0 ((w5.alloc (.cells #[Value.int IntKind.u32 0,.int .u32 0,.int .u32 0,.int .u32 0,.int .u32 0,.int .u32 0,.int .u32 0,.int .u32 0] 118)).setCells w5.heap.size 0 ch):=((Chg.of_below (S:=fun k=>w0.heap.size≤k) H5.o.2.2.2.2.1).mix hcc (fun k hk=>.inr (by rw [hk];omega))).below (Nat.le_refl _) (fun _ h=>h)
    have hpa:∀ a n c,v5=.slice (some a) n c→a.block≠w5.heap.size:=fun a n c e=>by have:=H5.o.2.2.2.2.2 a n c e;omega
    obtain ⟨w6,hw6⟩:∃ q,q=(w5.alloc (.cells #[Value.int IntKind.u32 0,.int .u32 0,.int .u32 0,.int .u32 0,.int .u32 0,.int .u32 0,.int .u32 0,.int .u32 0] 118)).setCells w5.heap.size 0 ch:=⟨_,rfl⟩
    obtain ⟨p4,hp4⟩:∃ q,q=w5.heap.size:=⟨_,rfl⟩
    rw [← hw6] at hk6 hs6 hp6 hv6 hb6 ⊢
    rw [← hp4] at hk6 hpa hlt2 hl5 ⊢
    have hq4:w0.heap.size≤p4:=by omega
    have H6:=Zh (Zi hv6 (Zi hpa (Zi hk6 (Zi hs6 (Zi hp6 hb6)))))
    clear hk6 hcc hs6 hp6 hv6 hb6 hpa hw6 hp4 r8 q8 hca
    obtain ⟨PL,hPL⟩:∃ k,k=P.length:=⟨_,rfl⟩
    obtain ⟨Q,hQ⟩:∃ Q,PL=64*Q:=⟨PL / 64,by have:=(zI4 rest L).1;rw [← HP.o.1,← hPL] at this;omega⟩
    have HQ:=Zh (Zi hPL hQ)
    clear hPL hQ
    go_loopw [3] (fun v wr=>∃ i:Nat,i≤Q∧Hid (Bys wr v (P.drop (64*i))∧(∀ a n c,v=.slice (some a) n c→a.block≠p4)∧Blk wr p4 (hV (zB9 i h P)).toArray 118∧zAX wr b h (.slice ua m uc) (L:Nat)∧Blk wr p2 #[Value.int IntKind.u8 0,.int .u8 0,.int .u8 0,.int .u8 0,.int .u8 0,.int .u8 0,.int .u8 0,.int .u8 0,.int .u8 0,.int .u8 0,.int .u8 0,.int .u8 0,.int .u8 0,.int .u8 0,.int .u8 0,.int .u8 0,.int .u8 0,.int .u8 0,.int .u8 0,.int .u8 0,.int .u8 0,.int .u8 0,.int .u8 0,.int .u8 0,.int .u8 0,.int .u8 0,.int .u8 0,.int .u8 0,.int .u8 0,.int .u8 0,.int .u8 0,.int .u8 0] 63∧Below w0.heap.size w0 wr)) (fun v _=>zOH v)
    case atStart=>exact ⟨0,Nat.zero_le _,H6.o.1,H6.o.2.1,by rw [zB9,← HCH.o];exact H6.o.2.2.1,H6.o.2.2.2.1,H6.o.2.2.2.2.1,H6.o.2.2.2.2.2⟩
    case round =>
     obtain ⟨i,hi0,G⟩:=hrel
     obtain ⟨xa,xc,ex⟩:=G.o.1.eq_slice
     obtain ⟨n,hn⟩:∃ n,n=(P.drop (64*i)).length:=⟨_,rfl⟩
     have hn2:n=64*(Q - i):=by rw [hn,List.length_drop,← HQ.o.1,HQ.o.2];omega
     rw [← hn] at ex
     subst ex
     by_cases hin:i < Q
     · have m0:(0:Int) < (n:Int):=by omega
       have m1:decide ((0:Int) < (n:Int))=true:=by simpa using m0
       have m2:decide (0 < n)=true:=by simp;omega
       have m3:64≤n:=by omega
       have m9:0 < n:=by omega
       obtain ⟨ub,uo,rfl,hmc,hcm⟩:∃ ub uo,xa=some ⟨ub,uo,none⟩∧n≤xc∧xc≤maxLen:=by
        obtain ⟨a',c',e,g1,g2,g3⟩:=G.o.1
        obtain ⟨b',o',e',_⟩:=g3 (by omega)
        injection e with e1 e2 e3
        exact ⟨b',o',by rw [e1,e'],by omega,by omega⟩
       unfold maxLen at hcm
       have hby:=G.o.1.take 64 (by omega)
       have m4:(64:Int)≤(xc:Int):=by omega
       have m5:64≤xc:=by omega
       have m6:(n:Int)≤(xc:Int):=by omega
       have m7:(64:Int)≤(n:Int):=by omega
       have HM:=Zh (Zi hn (Zi hn2 hby))
       clear hn hn2 hby
       obtain ⟨hc,hhc⟩:∃ x,x=zB9 i h P:=⟨_,rfl⟩
       have hmx:=G.o.2.2.1
       rw [← hhc] at hmx
       have hnx:Hid (zB9 (i+1) h P=mix hc ((P.drop (64*i)).take 64)):=by
        show _=_
        rw [zIG,hhc]
       have hcall:∀ w',w'=wr.drew→Calls Tryz.prog 234 #[.agg (hV hc).toArray,.pointer (some ⟨b,8,none⟩),.slice (some ⟨ub,uo,none⟩) 64 xc] w' fun e w''=>∃ v',e=.returned v'∧(v'=.agg (hV (mix hc ((P.drop (64*i)).take 64))).toArray∧Below wr.heap.size wr w''):=fun w' e=>by
        subst e
        refine (zIH hc b 8 _ ((P.drop (64*i)).take 64) wr.drew (by exact G.o.2.2.2.1.ck) HM.o.2.2 (by rw [List.length_take];have:=HM.o.1;omega)).mono ?_
        rintro e w'' ⟨rfl,hb⟩
        exact ⟨_,rfl,rfl,zBf hb rfl⟩
       obtain ⟨cc,hcc⟩:∃ q,q=hV hc:=⟨_,rfl⟩
       have hccl:cc.length=8:=by rw [hcc];rfl
       rw [← hcc] at hmx
       have hr0:wr.rangeAt p4 0 cc:=by
        have:=zAD (zO (n:=8) (o:=0) hmx (by simp [hccl]))
        rwa [zS hmx hccl] at this
       have hRr:∀ w',Below wr.heap.size wr w'→w'.rangeAt p4 0 cc:=fun w' hb=>by
        have:=zAD (zO (n:=8) (o:=0) (hmx.kept hb) (by simp [hccl]))
        rwa [zS (hmx.kept hb) hccl] at this
       obtain ⟨cm,hcm2⟩:∃ q,q=hV (mix hc ((P.drop (64*i)).take 64)):=⟨_,rfl⟩
       have hca:=zLI (mix hc ((P.drop (64*i)).take 64))
       rw [← hcc,← hcm2] at hcall
       rw [← hcm2] at hca
       have HMX:=Zh (Zi hmx (Zi hhc hcm2))
       clear hmx hhc hcc hcm2
       go_upto_region 7 with fail
       refine Tail.zAa 7 6 (fun w'=>w'=wr.drew) (fun vo w'=>vo=.agg cm.toArray∧Below wr.heap.size wr w') (by kernel_rfl) (by kernel_rfl) (by decide) rfl ?_ (fun z hz=>?_)
       · obtain ⟨e,w',fr,⟨vo,rfl,h⟩,_⟩:=hcall wr.drew rfl []
         exact ⟨vo,w',h⟩
       simp only [List.take_succ_cons,List.take_zero,List.drop_succ_cons,List.drop_zero]
       clear hz
       refine Tail.zDY (by decide) (by rfl) _ _ rfl p4 0 rfl cc (fun w h=>by rw [h];exact hr0) (fun w h=>hRr w h.2) Tryz.underlying118 rfl (by rw [i8h,hccl]) ?_
       simp only [Act.put,List.setIfInBounds_toArray,List.set_cons_zero,List.set_cons_succ]
       iterate 5
        refine Tail.zB6 (by decide) (by rfl) ?_
        apply Exists.intro
        refine ⟨fun w=>?_,?_⟩
        · go_simp <;> with_reducible rfl
        simp only [Act.put,List.setIfInBounds_toArray,List.set_cons_zero,List.set_cons_succ]
       refine Tail.zDX (by rfl) (fun w hw=>?_) ?_
       · apply Exists.intro
         apply Exists.intro
         refine ⟨?_,hcall w hw⟩
         go_simp <;> with_reducible rfl
       simp only [Act.put,List.setIfInBounds_toArray,List.set_cons_zero,List.set_cons_succ]
       intro w' hw'
       obtain ⟨rfl,hbw⟩:=hw'
       have hk4:Blk w' p4 cc.toArray 118:=HMX.o.1.kept hbw
       have h8:zW 8 w' p4 0:=zO hk4 (by simp [hccl])
       have HS:=Zh (Zi hk4 (Zi (G.o.2.2.2.2.2.trans (hbw.mono G.o.2.2.2.2.2.size)) (Zi (G.o.1.below hbw) (Zi (G.o.2.2.2.1.below hbw) (G.o.2.2.2.2.1.kept hbw)))))
       clear hk4 hbw hcall hr0 hRr
       have hub:ub≠p4:=G.o.2.1 _ _ _ rfl
       go_wp2_with fail
       refine ⟨⟨i+1,by omega,?_,?_,?_,?_,?_,?_⟩,?_⟩
       · have h1:=zJX HS.o.2.2.1 64 (by omega) (by rw [← HM.o.1];exact m3)
         rw [List.drop_drop,show 64*i+64=64*(i+1) from by omega] at h1
         refine Bys.chg h1 (Chg.setCells (S:=fun k=>k=p4) (L:=p4) rfl _ _ _ (Chg.refl _ _)) (fun a n c e hS=>?_)
         have hS':a.block=p4:=hS
         injection e with e1 _ _
         split at e1 <;> (injection e1 with e1;rw [← e1] at hS';exact hub hS')
       · intro a n c e
         injection e with e1 _ _
         split at e1 <;> (injection e1 with e1;rw [← e1];exact hub)
       · rw [hnx.o,← HMX.o.2.2]
         have:=zNX (n:=8) HS.o.1 hccl hca.1
         exact this
       · exact Blk.setCells_other (fun e=>by omega) _ _ _ HS.o.2.2.2.1
       · exact Blk.setCells_other (fun e=>by omega) _ _ _ HS.o.2.2.2.2
       · exact (Chg.setCells (S:=fun k=>k=p4) (L:=p4) rfl _ _ _ (Chg.of_below HS.o.2.1)).below (Nat.le_refl _) (fun k hk=>by rw [hk];exact hq4)
       · show n - 64 < n
         omega
     · obtain rfl:i=Q:=by omega
       have n0:n=0:=by omega
       subst n0
       have hmix:zB9 i h P=zB9 (P.length / 64) h P:=by rw [← HQ.o.1,HQ.o.2,Nat.mul_div_cancel_left _ (by decide)]
       obtain ⟨fin,hfin⟩:∃ f,f=zB9 i h P:=⟨_,rfl⟩
       have hk4:=G.o.2.2.1
       rw [← hfin] at hk4 hmix
       have HF:=Zh hmix
       clear hn hn2 hmix hfin
       obtain ⟨cf,hcf⟩:∃ q,q=hV fin:=⟨_,rfl⟩
       have hcfl:cf.length=8:=by rw [hcf];rfl
       have hcg:∀ j,j < 8→cf[j]?=some (.int .u32 (wz (fin.l.getD j 0))):=fun j hj=>by rw [hcf];exact zNv fin hj
       rw [← hcf] at hk4
       have r4:zN 8 wr p4 0=cf:=zS hk4 hcfl
       have q4:zW 8 wr p4 0:=zO hk4 (by simp [hcfl])
       have l4:=Blk.lt hk4
       have HC:=Zh (Zi hcf hcg)
       clear hcf hcg hk4
       go_upto_region 11 with fail
       have hk5:Blk (wr.alloc (.cells #[Value.int IntKind.u8 0,.int .u8 0,.int .u8 0,.int .u8 0,.int .u8 0,.int .u8 0,.int .u8 0,.int .u8 0,.int .u8 0,.int .u8 0,.int .u8 0,.int .u8 0,.int .u8 0,.int .u8 0,.int .u8 0,.int .u8 0,.int .u8 0,.int .u8 0,.int .u8 0,.int .u8 0,.int .u8 0,.int .u8 0,.int .u8 0,.int .u8 0,.int .u8 0,.int .u8 0,.int .u8 0,.int .u8 0,.int .u8 0,.int .u8 0,.int .u8 0,.int .u8 0] 63)) wr.heap.size (bV (zGi fin 0)).toArray 63:=Blk.new _ _ _
       have hp5:=G.o.2.2.2.2.1.alloc (.cells #[Value.int IntKind.u8 0,.int .u8 0,.int .u8 0,.int .u8 0,.int .u8 0,.int .u8 0,.int .u8 0,.int .u8 0,.int .u8 0,.int .u8 0,.int .u8 0,.int .u8 0,.int .u8 0,.int .u8 0,.int .u8 0,.int .u8 0,.int .u8 0,.int .u8 0,.int .u8 0,.int .u8 0,.int .u8 0,.int .u8 0,.int .u8 0,.int .u8 0,.int .u8 0,.int .u8 0,.int .u8 0,.int .u8 0,.int .u8 0,.int .u8 0,.int .u8 0,.int .u8 0] 63)
       have hb5:=G.o.2.2.2.2.2.alloc G.o.2.2.2.2.2.size (.cells #[Value.int IntKind.u8 0,.int .u8 0,.int .u8 0,.int .u8 0,.int .u8 0,.int .u8 0,.int .u8 0,.int .u8 0,.int .u8 0,.int .u8 0,.int .u8 0,.int .u8 0,.int .u8 0,.int .u8 0,.int .u8 0,.int .u8 0,.int .u8 0,.int .u8 0,.int .u8 0,.int .u8 0,.int .u8 0,.int .u8 0,.int .u8 0,.int .u8 0,.int .u8 0,.int .u8 0,.int .u8 0,.int .u8 0,.int .u8 0,.int .u8 0,.int .u8 0,.int .u8 0] 63)
       have l2:=Blk.lt G.o.2.2.2.2.1
       have g0:=G.o.2.2.2.2.2.size
       obtain ⟨w7,hw7⟩:∃ q,q=wr.alloc (.cells #[Value.int IntKind.u8 0,.int .u8 0,.int .u8 0,.int .u8 0,.int .u8 0,.int .u8 0,.int .u8 0,.int .u8 0,.int .u8 0,.int .u8 0,.int .u8 0,.int .u8 0,.int .u8 0,.int .u8 0,.int .u8 0,.int .u8 0,.int .u8 0,.int .u8 0,.int .u8 0,.int .u8 0,.int .u8 0,.int .u8 0,.int .u8 0,.int .u8 0,.int .u8 0,.int .u8 0,.int .u8 0,.int .u8 0,.int .u8 0,.int .u8 0,.int .u8 0,.int .u8 0] 63):=⟨_,rfl⟩
       obtain ⟨p5,hp5e⟩:∃ q,q=wr.heap.size:=⟨_,rfl⟩
       rw [← hw7] at hk5 hp5 hb5 ⊢
       rw [← hp5e] at hk5 l2 l4 g0 ⊢
       have H7:=Zh (Zi hk5 (Zi hp5 hb5))
       clear hk5 hp5 hb5 hw7 hp5e r4 q4 G
       go_loopw [47] (fun v wr=>∃ i:Nat,i≤8∧v=.int .i64 i∧Hid (Blk wr p5 (bV (zGi fin i)).toArray 63∧Blk wr p2 #[Value.int IntKind.u8 0,.int .u8 0,.int .u8 0,.int .u8 0,.int .u8 0,.int .u8 0,.int .u8 0,.int .u8 0,.int .u8 0,.int .u8 0,.int .u8 0,.int .u8 0,.int .u8 0,.int .u8 0,.int .u8 0,.int .u8 0,.int .u8 0,.int .u8 0,.int .u8 0,.int .u8 0,.int .u8 0,.int .u8 0,.int .u8 0,.int .u8 0,.int .u8 0,.int .u8 0,.int .u8 0,.int .u8 0,.int .u8 0,.int .u8 0,.int .u8 0,.int .u8 0] 63∧Below w0.heap.size w0 wr)) (fun v _=>8 - (intOf v).toNat)
       case atStart=>exact ⟨0,Nat.zero_le _,rfl,H7.o⟩
       case round =>
        obtain ⟨i,hi0,rfl,G⟩:=hrel
        by_cases hin:i < 8
        · have i0:(0:Int)≤(i:Int):=by omega
          have i1:(i:Int) < 8:=by omega
          obtain ⟨x,hx⟩:∃ x,x=fin.l.getD i 0:=⟨_,rfl⟩
          have hcx:=HC.o.2 i hin
          rw [← hx] at hcx
          have hix:=fun w=>idx_h8 w i hin cf hcfl _ hcx
          have i2:i < cf.length:=by omega
          obtain ⟨q,hq⟩:∃ q,q=4*i:=⟨_,rfl⟩
          have e0:IntKind.i64.wrap (4*(i:Int))=(q:Int):=by rw [IntKind.wrap_i64];omega
          have q1:(q:Int)≤32:=by omega
          have q2:q≤32:=by omega
          have q3:q < 32:=by omega
          have HX:=Zh (Zi hx (Zi hq hcx))
          clear hx hq hcx
          go_upto_region 13 with fail
          have hcall:∀ w',w'=wr.drew→Calls Tryz.prog 159 #[.int .i64 (x.toNat:Nat),.int .i64 4] w' fun e w''=>∃ v',e=.returned v'∧(zt 5 w'' wr.heap.size v' (Cod.be 4 x.toNat)∧Below wr.heap.size wr w''):=fun w' e=>by
           subst e
           refine (zKT x.toNat 4 (by have:=UInt32.toNat_lt x;omega) (by decide) (by decide) wr.drew).mono ?_
           rintro e w'' ⟨v',rfl,h1,h2⟩
           exact ⟨_,rfl,h1,zBf h2 rfl⟩
          have wxe:IntKind.i64.wrap (wz x)=((x.toNat:Nat):Int):=by
           have:=UInt32.toNat_lt x
           unfold wz
           rw [IntKind.wrap_i64];omega
          refine Tail.zAa 6 5 (fun w'=>w'=wr.drew) (fun vo w'=>zt 5 w' wr.heap.size vo (Cod.be 4 x.toNat)∧Below wr.heap.size wr w') (by kernel_rfl) (by kernel_rfl) (by decide) rfl ?_ (fun z hz=>?_)
          · obtain ⟨e,w',fr,⟨vo,rfl,h⟩,_⟩:=hcall wr.drew rfl []
            exact ⟨vo,w',h⟩
          simp only [List.take_succ_cons,List.take_zero,List.drop_succ_cons,List.drop_zero]
          obtain ⟨za,zc,rfl⟩:∃ a c,z=.slice a 4 c:=by
           obtain ⟨w',h1,_⟩:=hz
           obtain ⟨a,c,e⟩:=h1.eq_slice
           rw [Cod.zAV] at e
           exact ⟨a,c,e⟩
          clear hz
          iterate 5
           refine Tail.zB6 (by decide) (by rfl) ?_
           apply Exists.intro
           refine ⟨fun w=>?_,?_⟩
           · go_simp <;> with_reducible rfl
           simp only [Act.put,List.setIfInBounds_toArray,List.set_cons_zero,List.set_cons_succ]
          refine Tail.zDX (by rfl) (fun w hw=>?_) ?_
          · apply Exists.intro
            apply Exists.intro
            refine ⟨?_,hcall w hw⟩
            go_simp <;> with_reducible rfl
          simp only [Act.put,List.setIfInBounds_toArray,List.set_cons_zero,List.set_cons_succ]
          intro w' hw'
          obtain ⟨zb,zo,rfl⟩:∃ b o,za=some ⟨b,o,none⟩:=by
           obtain ⟨a',c',e,_,_,h3⟩:=hw'.1.bys
           obtain ⟨b,o,e',_⟩:=h3 (by rw [Cod.zAV];decide)
           injection e with e1 _ _
           exact ⟨b,o,by rw [e1,e']⟩
          have h32:¬ (32=q):=by omega
          rw [if_neg h32]
          have hrng:=zOp hw'.1.bys
          have hk5:Blk w' p5 (bV (zGi fin i)).toArray 63:=G.o.1.kept hw'.2
          have hcl:(bV (Cod.be 4 x.toNat)).length=4:=by rw [zB,Cod.zAV]
          have hth:w'.there p5 q (bV (Cod.be 4 x.toNat)).length:=by
           rw [hcl]
           exact zO (n:=4) (o:=q) hk5 (by rw [List.size_toArray,zB,zHR fin hi0];have:=HX.o.2.1;omega)
          have HS:=Zh (Zi hk5 (Zi (G.o.2.1.kept hw'.2) (G.o.2.2.trans (hw'.2.mono G.o.2.2.size))))
          clear hk5 hw' hcall
          go_wp2_with (refine zNj (o:=⟨some 57,_,_,_,_,_⟩) rfl (.tmp 53) (.tmp 56) 51 51 5 rfl Tryz.underlying51 E8s (bV (Cod.be 4 x.toNat)) rfl rfl ?y1 ?y2 hth (zAJ _) ?_)
          case y1=>rw [hcl];show 4=min 4 (32 - q);have:=HX.o.2.1;omega
          case y2 =>
           intro j v hj
           have:=hrng j v hj
           rw [show (⟨zb,zo,none⟩:Addr).add j=⟨zb,zo+j,none⟩ from by unfold Addr.add;split <;> simp_all]
           exact this
          go_wp2_with fail
          go_roundw
          case rel =>
           refine ⟨i+1,by omega,by simp,?_,?_,?_⟩
           · obtain ⟨arr,g1,g2,g3⟩:=Blk.setCells (bV (Cod.be 4 x.toNat)) q _ _ HS.o.1
             have e:arr=(bV (zGi fin (i+1))).toArray:=by
              have hs:(bV (zGi fin i)).toArray.size=32:=by simp [zB,zHR fin hi0]
              apply Array.ext_getElem?
              intro j
              rcases Nat.lt_or_ge j 32 with hj | hj
              · rw [g3 j (by omega),hcl,List.getElem?_toArray,List.getElem?_toArray,zA0,zA0,zA0,zN8 fin hin j hj,← HX.o.1,HX.o.2.1]
                split <;> rfl
              · rw [Array.getElem?_eq_none (by omega),Array.getElem?_eq_none (by rw [List.size_toArray,zB,zHR fin (show i+1≤8 by omega)];exact hj)]
             rw [← e];exact g1
           · exact Blk.setCells_other (fun e=>by omega) _ _ _ HS.o.2.1
           · exact (Chg.setCells (S:=fun k=>k=p5) (L:=p5) rfl _ _ _ (Chg.of_below HS.o.2.2)).below (Nat.le_refl _) (fun k hk=>by rw [hk];exact g0)
          case measure =>
           show 8 - ((i:Int)+1).toNat < 8 - (i:Int).toNat
           omega
        · obtain rfl:i=8:=by omega
          have hk5:=G.o.1
          rw [outP_8] at hk5
          obtain ⟨co,hco⟩:∃ q,q=bV (zI2 fin):=⟨_,rfl⟩
          have hcol:co.length=32:=by rw [hco,zB,zKN]
          have hca2:zAP 32 co:=⟨hcol,fun v hv=>by rw [hco] at hv;exact zAJ _ v hv⟩
          rw [← hco] at hk5
          have r5:zN 32 wr p5 0=co:=zS hk5 hcol
          have q5:zW 32 wr p5 0:=zO hk5 (by simp [hcol])
          have q2:zW 32 wr p2 0:=zO G.o.2.1 (by simp)
          have HLD:=Zh (zGP q2 hca2)
          have HM:=Zh (Zi hco G.o)
          clear hk5 hco G
          go_wp2_with fail
          refine bodyPost_ret (v:=.agg co.toArray) (by simp [results,Tryz.results216,asAddr,HLD.o]) rfl ⟨by rw [HM.o.1,HF.o],?_⟩
          exact (Chg.setCells (S:=fun b=>b=p2) (L:=p2) rfl _ _ _ (Chg.of_below HM.o.2.2.2)).below (Nat.le_refl _) (fun k hk=>by rw [hk];omega)
set_option maxRecDepth 100000 in
theorem zNC (v:Value) (bs:List UInt8) (w:World) (hv:Bys w v bs) (hl:bs.length≤100000000) :
  Calls Tryz.prog 186 #[v] w fun e w'=>e=.returned (.agg (bV (Sha.sum bs)).toArray)∧Below w.heap.size w w':=by
 obtain ⟨va,vc,rfl⟩:=hv.eq_slice
 obtain ⟨l,hll⟩:∃ l,l=bs.length:=⟨_,rfl⟩
 rw [← hll] at hv ⊢
 have H:=Zh (Zi hv hll)
 clear hv hll
 go_enter Tryz.func186,Tryz.ntmps186
 go_upto_region 1 with fail
 have hk2:Blk (w.alloc (.cells #[Value.int IntKind.u8 0,.int .u8 0,.int .u8 0,.int .u8 0,.int .u8 0,.int .u8 0,.int .u8 0,.int .u8 0,.int .u8 0,.int .u8 0,.int .u8 0,.int .u8 0,.int .u8 0,.int .u8 0,.int .u8 0,.int .u8 0,.int .u8 0,.int .u8 0,.int .u8 0,.int .u8 0,.int .u8 0,.int .u8 0,.int .u8 0,.int .u8 0,.int .u8 0,.int .u8 0,.int .u8 0,.int .u8 0,.int .u8 0,.int .u8 0,.int .u8 0,.int .u8 0] 63)) w.heap.size #[Value.int IntKind.u8 0,.int .u8 0,.int .u8 0,.int .u8 0,.int .u8 0,.int .u8 0,.int .u8 0,.int .u8 0,.int .u8 0,.int .u8 0,.int .u8 0,.int .u8 0,.int .u8 0,.int .u8 0,.int .u8 0,.int .u8 0,.int .u8 0,.int .u8 0,.int .u8 0,.int .u8 0,.int .u8 0,.int .u8 0,.int .u8 0,.int .u8 0,.int .u8 0,.int .u8 0,.int .u8 0,.int .u8 0,.int .u8 0,.int .u8 0,.int .u8 0,.int .u8 0] 63:=Blk.new _ _ _
 have hb1:Below w.heap.size w (w.alloc (.cells #[Value.int IntKind.u8 0,.int .u8 0,.int .u8 0,.int .u8 0,.int .u8 0,.int .u8 0,.int .u8 0,.int .u8 0,.int .u8 0,.int .u8 0,.int .u8 0,.int .u8 0,.int .u8 0,.int .u8 0,.int .u8 0,.int .u8 0,.int .u8 0,.int .u8 0,.int .u8 0,.int .u8 0,.int .u8 0,.int .u8 0,.int .u8 0,.int .u8 0,.int .u8 0,.int .u8 0,.int .u8 0,.int .u8 0,.int .u8 0,.int .u8 0,.int .u8 0,.int .u8 0] 63)):=(Below.refl _ _).alloc (Nat.le_refl _) _
 obtain ⟨w1,hw1⟩:∃ q,q=w.alloc (.cells #[Value.int IntKind.u8 0,.int .u8 0,.int .u8 0,.int .u8 0,.int .u8 0,.int .u8 0,.int .u8 0,.int .u8 0,.int .u8 0,.int .u8 0,.int .u8 0,.int .u8 0,.int .u8 0,.int .u8 0,.int .u8 0,.int .u8 0,.int .u8 0,.int .u8 0,.int .u8 0,.int .u8 0,.int .u8 0,.int .u8 0,.int .u8 0,.int .u8 0,.int .u8 0,.int .u8 0,.int .u8 0,.int .u8 0,.int .u8 0,.int .u8 0,.int .u8 0,.int .u8 0] 63):=⟨_,rfl⟩
 obtain ⟨p2,hp2⟩:∃ q,q=w.heap.size:=⟨_,rfl⟩
 rw [← hw1] at hk2 hb1 ⊢
 rw [← hp2] at hk2 ⊢
 have H1:=Zh (Zi hk2 (Zi hb1 hp2))
 clear hk2 hb1 hw1 hp2
 go_wp2_with fail
 refine (zI9 w1).mono ?_
 rintro e w2 ⟨b,rfl,hs2,hge,hb2⟩
 have hv1:Bys w1 (.slice va l vc) bs:=H.o.1.below H1.o.2.1
 have H2:=Zh (Zi hs2 (Zi hge (Zi hb2 hv1)))
 clear hs2 hge hb2 hv1
 have hwr:=zHe w1 w2 b _ bs H2.o.1 H2.o.2.2.1 H2.o.2.1 H2.o.2.2.2 (by have:=H.o.2;omega)
 rw [← H.o.2] at hwr
 have HW:=Zh hwr
 clear hwr
 go_wp2_with fail
 refine HW.o.mono ?_
 rintro e w3 ⟨rfl,u,hs3,hv3,hp3,hb3⟩
 have H3:=Zh (Zi hs3 (Zi hv3 hb3))
 clear hs3 hv3 hp3 hb3
 go_wp2_with fail
 refine (zJA w1 w3 b _ u l (bs.drop (64*(l / 64))) H3.o.1 H3.o.2.2 H2.o.2.1 H3.o.2.1 (by rw [List.length_drop,← H.o.2];omega) (by have:=H.o.2;omega)).mono ?_
 rintro e w4 ⟨rfl,hb4⟩
 have hsum:=zPH bs
 rw [← H.o.2] at hsum
 rw [← hsum]
 obtain ⟨co,hco⟩:∃ q,q=bV (Sha.sum bs):=⟨_,rfl⟩
 rw [← hco]
 have hcol:co.length=32:=by rw [hco,zB,zMC]
 have hca2:zAP 32 co:=⟨hcol,fun v hv=>by rw [hco] at hv;exact zAJ _ v hv⟩
 have q2:zW 32 w4 p2 0:=zO (H1.o.1.kept hb4) (by simp)
 have HLD:=Zh (zGP q2 hca2)
 have HM:=Zh (Zi hco (H1.o.2.1.trans (hb4.mono H1.o.2.1.size)))
 clear hco hb4 hsum
 go_wp2_with fail
 refine bodyPost_ret (v:=.agg co.toArray) (by simp [results,Tryz.results186,asAddr,HLD.o]) rfl ⟨by rw [HM.o.1],?_⟩
 exact (Chg.setCells (S:=fun b=>b=p2) (L:=p2) rfl _ _ _ (Chg.of_below HM.o.2)).below (Nat.le_refl _) (fun k hk=>by rw [hk,H1.o.2.2];exact Nat.le_refl _)
end Go.Proofs.YtbbojbdigiibbaaGreatDoor
end
section
namespace Go.Mem
open Go Go.RowKit Gf Lea
structure Tst where
 num:Int
 absent:Bool
 want:List UInt8
def zD7 (t:Tst):List Value:=.int .i64 t.num::.bool t.absent::bV t.want
theorem zFp {t:Tst} (h:t.want.length=32):(zD7 t).length=34:=by simp [zD7,zB,h]
def zB8 (l:List zP) (t:Tst):Bool:=match zDZ l t.num with
 | none=>t.absent
 | some b=>!t.absent && decide (Sha.sum b=t.want)
end Go.Mem
namespace Go.Proofs.YtbbojbdigiibbaaGreatDoor
open Go Go.RowKit Go.Mem Gf Lea
set_option linter.unusedVariables false
theorem zOt (xs ys:List UInt8) (hx:xs.length=32) (hy:ys.length=32) (w:World):(Op.equalIn 10000 63 (.agg (bV xs).toArray) (.agg (bV ys).toArray)).run Tryz.prog w=.ok (decide (xs=ys)) w :=
 zFk (P:=Tryz.prog) w 9998 32 Tryz.underlying63 (Option.some_get (by kernel_rfl)).symm (by kernel_rfl) (by kernel_rfl) xs ys hx hy
attribute [local go_sem ↓] Go.wp_at_zero Go.wp_at_succ
attribute [local go_sem ↓] zEe
attribute [local go_sem] ptrB_eq ptrO_eq ptrIs_eq aggL_eq aggIs_eq
attribute [local irreducible] zY
set_option maxRecDepth 100000 in
set_option maxHeartbeats 1000000 in
theorem zJw (w:World) (is:Bool) (k:List Value) (u:Value) (l:List zP) (t:Tst) (hk:zAP 16 k) (h:zAI w (fun _=>False) u l) (ht:t.want.length=32) (hd:∀ x∈l,x.2.length≤1000000) :
  Calls Tryz.prog 145 #[.agg (zY is k u).toArray,.agg (zD7 t).toArray] w fun e w'=>e=.returned (.bool (zB8 l t))∧Below w.heap.size w w':=by
 obtain ⟨ua,uc,rfl⟩:∃ a c,u=.slice a l.length c:=by
  obtain ⟨a,c,e,_⟩:=h
  exact ⟨a,c,e⟩
 have hal:zAP 18 (zY is k (.slice ua l.length uc)):=⟨zAT is hk.1 _,zBw _ hk.2 _ rfl⟩
 obtain ⟨cc,hcc⟩:∃ cc,cc=zY is k (.slice ua l.length uc):=⟨_,rfl⟩
 have hfc:=fun (w':World) (hb:Below w.heap.size w w')=>zGM w' is k (.slice ua l.length uc) l t.num hk.1 hk.2 (h.below hb)
 rw [← hcc] at hal hfc ⊢
 obtain ⟨ct,hct⟩:∃ ct,ct=zD7 t:=⟨_,rfl⟩
 have htl:ct.length=34:=by rw [hct];exact zFp ht
 have hw2:∀ j v,(bV t.want)[j]?=some v→ct[2+j]?=some v:=fun j v hj=>by
  rw [hct,Nat.add_comm]
  exact hj
 have h0:ct[0]?=some (.int .i64 t.num):=by rw [hct];rfl
 have h1:ct[1]?=some (.bool t.absent):=by rw [hct];rfl
 rw [← hct]
 have hk2:Blk (w.alloc (.cells cc.toArray 205)) w.heap.size cc.toArray 205:=Blk.new _ _ _
 have hb2:Below w.heap.size w (w.alloc (.cells cc.toArray 205)):=(Below.refl _ _).alloc (Nat.le_refl _) _
 have hk2':=hk2.alloc (.cells ct.toArray 66)
 have hk3:Blk ((w.alloc (.cells cc.toArray 205)).alloc (.cells ct.toArray 66)) (w.heap.size+1) ct.toArray 66:=Blk.new_at _ _ _ _ (by simp)
 have hb3:=hb2.alloc hb2.size (.cells ct.toArray 66)
 have H:=Zh (Zi h (Zi hfc (Zi hd ht)))
 clear h hfc hcc hct hd hk2 hb2
 go_enter Tryz.func145,Tryz.ntmps145
 go_upto_region 1 with fail
 obtain ⟨w1,hw1⟩:∃ q,q=(w.alloc (.cells cc.toArray 205)).alloc (.cells ct.toArray 66):=⟨_,rfl⟩
 obtain ⟨p2,hp2⟩:∃ q,q=w.heap.size:=⟨_,rfl⟩
 obtain ⟨p3,hp3⟩:∃ q,q=w.heap.size+1:=⟨_,rfl⟩
 rw [← hw1] at hk2' hk3 hb3 ⊢
 rw [← hp3] at hk3 ⊢
 rw [← hp2] at hk2' ⊢
 have c30:w1.cell? ⟨p3,0,none⟩=some (.int .i64 t.num):=by rw [hk3.cell 0];simpa using h0
 have r2:zN 18 w1 p2 0=cc:=zS hk2' hal.1
 have q2:zW 18 w1 p2 0:=zO hk2' (by simp [hal.1])
 have H1:=Zh (Zi hk3 hb3)
 clear hk2' hk3 hb3 hw1 hp2 hp3
 go_wp2_with fail
 refine (H.o.2.1 w1 H1.o.2).mono ?_
 rintro e w2 ⟨v,ok,rfl,hb2,hf⟩
 have hk32:=H1.o.1.kept hb2
 have c31:w2.cell? ⟨p3,1,none⟩=some (.bool t.absent):=by rw [hk32.cell 1];simpa using h1
 have H2:=Zh (Zi hk32 (Zi (H1.o.2.trans (hb2.mono H1.o.2.size)) hf))
 clear hk32 hb2 hf c30 r2 q2
 obtain ⟨ab,hab⟩:∃ q,q=t.absent:=⟨_,rfl⟩
 rw [← hab] at c31
 have HAB:=Zh hab
 clear hab
 cases ab with
 | true =>
   have hh:zB8 l t=!ok:=by
    unfold zB8
    rcases H2.o.2.2 with ⟨bs,h1,h2,_⟩ | ⟨h1,h2,_⟩
    · rw [h1,h2,← HAB.o];rfl
    · rw [h1,h2,← HAB.o];rfl
   have HH:=Zh hh
   clear hh
   go_wp2_with fail
   go_ret
   exact ⟨by rw [HH.o];rfl,H2.o.2.1⟩
 | false =>
   cases ok with
   | false =>
     have hh:zB8 l t=false:=by
      unfold zB8
      rcases H2.o.2.2 with ⟨bs,h1,h2,_⟩ | ⟨h1,h2,_⟩
      · cases h2
      · rw [h1,← HAB.o]
     have HH:=Zh hh
     clear hh
     go_upto_region 4 with fail
     go_quiet (fail)
     go_wp2_with fail
     go_ret
     exact ⟨by rw [HH.o];rfl,below_drewN H2.o.2.1 _⟩
   | true =>
     obtain ⟨bs,hbs,hdz⟩:∃ bs,zDZ l t.num=some bs∧zDU w2 (fun _=>False) v bs:=by
      rcases H2.o.2.2 with ⟨bs,h1,_,h3⟩ | ⟨_,h2,_⟩
      · exact ⟨bs,h1,h3⟩
      · cases h2
     have hbl:bs.length≤1000000:=by
      unfold zDZ at hbs
      cases hq:l.find? (fun x=>decide (x.1=t.num)) with
      | none=>rw [hq] at hbs;cases hbs
      | some x =>
        rw [hq] at hbs
        cases hbs
        exact H.o.2.2.1 x (List.mem_of_find?_eq_some hq)
     have hh:zB8 l t=decide (Sha.sum bs=t.want):=by
      unfold zB8
      rw [hbs,← HAB.o];rfl
     have hcall:∀ w',w'=w2.drew→Calls Tryz.prog 186 #[v] w' fun e w''=>∃ v',e=.returned v'∧(v'=.agg (bV (Sha.sum bs)).toArray∧Below w2.heap.size w2 w''):=fun w' e=>by
      subst e
      refine (zNC v bs w2.drew hdz.1 (by omega)).mono ?_
      rintro e w'' ⟨rfl,hb⟩
      exact ⟨_,rfl,rfl,zBf hb rfl⟩
     obtain ⟨cw,hcw⟩:∃ q,q=bV t.want:=⟨_,rfl⟩
     have hcwl:cw.length=32:=by rw [hcw,zB];exact ht
     have hR:∀ w',Below w2.heap.size w2 w'→w'.rangeAt p3 2 cw:=fun w' hb j u hj=>by
      rw [(H2.o.1.kept hb).cell,List.getElem?_toArray]
      exact hw2 j u (by rw [← hcw];exact hj)
     have heq:=fun w'=>zOt (Sha.sum bs) t.want (Sha.zMC bs) ht w'
     obtain ⟨cs,hcs⟩:∃ q,q=bV (Sha.sum bs):=⟨_,rfl⟩
     rw [← hcw,← hcs] at heq
     rw [← hcs] at hcall
     have HH:=Zh (Zi hh (Zi hcw hcs))
     clear hh hcw hcs hbs
     go_upto_region 4 with fail
     refine Tail.zAa 8 3 (fun w'=>w'=w2.drew) (fun vo w'=>vo=.agg cs.toArray∧Below w2.heap.size w2 w') (by kernel_rfl) (by kernel_rfl) (by decide) rfl ?_ (fun z hz=>?_)
     · obtain ⟨e,w',fr,⟨vo,rfl,h⟩,_⟩:=hcall w2.drew rfl []
       exact ⟨vo,w',h⟩
     simp only [List.take_succ_cons,List.take_zero,List.drop_succ_cons,List.drop_zero]
     obtain rfl:z=.agg cs.toArray:=by
      obtain ⟨_,h,_⟩:=hz
      exact h
     clear hz
     iterate 3
      refine Tail.zB6 (by decide) (by rfl) ?_
      apply Exists.intro
      refine ⟨fun w=>?_,?_⟩
      · go_simp <;> with_reducible rfl
      simp only [Act.put,List.setIfInBounds_toArray,List.set_cons_zero,List.set_cons_succ]
     refine Tail.zDX (by rfl) (fun w hw=>?_) ?_
     · apply Exists.intro
       apply Exists.intro
       refine ⟨?_,hcall w hw⟩
       go_simp <;> with_reducible rfl
     simp only [Act.put,List.setIfInBounds_toArray,List.set_cons_zero,List.set_cons_succ]
     iterate 1
      refine Tail.zB6 (by decide) (by rfl) ?_
      apply Exists.intro
      refine ⟨fun w=>?_,?_⟩
      · go_simp <;> with_reducible rfl
      simp only [Act.put,List.setIfInBounds_toArray,List.set_cons_zero,List.set_cons_succ]
     refine Tail.zDY (by decide) (by rfl) _ _ rfl p3 2 rfl cw (fun w h=>by rw [h];exact hR w2.drew (Below.refl _ _).drew) (fun w h=>hR w h.2) Tryz.underlying63 rfl (by rw [i32h,hcwl]) ?_
     simp only [Act.put,List.setIfInBounds_toArray,List.set_cons_zero,List.set_cons_succ]
     iterate 2
      refine Tail.zB6 (by decide) (by rfl) ?_
      apply Exists.intro
      refine ⟨fun w=>?_,?_⟩
      · go_simp <;> with_reducible rfl
      simp only [Act.put,List.setIfInBounds_toArray,List.set_cons_zero,List.set_cons_succ]
     intro w' hw'
     have HB:=Zh hw'.2
     clear hw' hcall hR heq
     go_wp2_with fail
     go_ret
     exact ⟨by rw [HH.o.1];rfl,H2.o.2.1.trans (HB.o.mono H2.o.2.1.size)⟩
end Go.Proofs.YtbbojbdigiibbaaGreatDoor
end
