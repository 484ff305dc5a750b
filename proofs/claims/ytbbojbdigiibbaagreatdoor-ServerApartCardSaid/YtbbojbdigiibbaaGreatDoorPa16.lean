/- Texts of this proof,packed: ShaMix,ShaSum. -/
import Derived.Test.YtbbojbdigiibbaaGreatDoorPa15
import Derived.Test.YtbbojbdigiibbaaGreatDoorPa07
import Derived.BigQuiet
import Derived.Test.YtbbojbdigiibbaaGreatDoorPa01
import Derived.Test.YtbbojbdigiibbaaGreatDoorPa09
import Derived.Test.YtbbojbdigiibbaaGreatDoorPa02
import Derived.Test.YtbbojbdigiibbaaGreatDoorPa03
section
namespace Go.Mem
open Go Go.RowKit Gf Sha
def wv (x:UInt32):Value:=.int .u32 (wz x)
theorem wv_eq (x:UInt32):wv x=.int .u32 (wz x):=rfl
def zHD (b:List UInt8) (i:Nat):Array Value:=((sch b i).map wv++List.replicate (64 - i) (Value.int .u32 0)).toArray
theorem zDP (b:List UInt8) {i j:Nat} (h:j < i):(zHD b i)[j]?=some (.int .u32 (wz ((sch b i).getD j 0))):=by
 have hl:=zEX b i
 unfold zHD
 rw [List.getElem?_toArray,List.getElem?_append_left (by rw [List.length_map];omega),List.getElem?_map,List.getElem?_eq_getElem (by omega),List.getD_eq_getElem?_getD,List.getElem?_eq_getElem (by omega)];rfl
theorem zKA (b:List UInt8) {i j:Nat} (h:j < 64) (hi:i≤64):∃ z,(zHD b i)[j]?=some (.int .u32 z):=by
 rcases Nat.lt_or_ge j i with h1 | h1
 · exact ⟨_,zDP b h1⟩
 · refine ⟨0,?_⟩
   unfold zHD
   rw [List.getElem?_toArray,List.getElem?_append_right (by rw [List.length_map,zEX];exact h1),List.length_map,zEX,List.getElem?_replicate,if_pos (by omega)]
theorem zKB (b:List UInt8) {i:Nat} (h:i < 64) (x:UInt32) (hx:sch b (i+1)=sch b i++[x]):(zHD b i).setIfInBounds i (.int .u32 (wz x))=zHD b (i+1):=by
 have hl:=zEX b i
 have hm:((sch b i).map wv).length=i:=by rw [List.length_map,hl]
 unfold zHD
 rw [List.setIfInBounds_toArray,hx,List.map_append,List.set_append_right _ _ (by omega),hm,Nat.sub_self,show 64 - i=(64 - (i+1))+1 from by omega,List.replicate_succ,List.set_cons_zero,List.append_assoc]
 rfl
end Go.Mem
namespace Go.Proofs.YtbbojbdigiibbaaGreatDoor
open Go Go.RowKit Go.Mem Gf Sha
set_option linter.unusedVariables false
theorem i8h:(Tryz.prog.info? 118).map (·.size)=some 8:=by kernel_rfl
theorem zIa (dst:Option Tmp) (x:Operand) (ty:TypeId) (pos:String) (af:Array Edge) (gd:Option (Tmp × Bool)) (a:Act) (w:World) (K:Act→World→Prop) (Q:Exit→Act→World→Prop)
  (hp:zAz (a.eval x)=true) (ht:zY 8 w (zAM (a.eval x)) (zAN (a.eval x))) :
  Oper.wp Tryz.prog ⟨dst,.load 118 x,ty,pos,af,gd⟩ a w K Q=K (a.put dst (.agg (zN 8 w (zAM (a.eval x)) (zAN (a.eval x))).toArray)) w :=
 zEK Tryz.underlying118 rfl i8h dst x ty pos af gd a w K Q hp ht
theorem zHL (dst:Option Tmp) (x y:Operand) (ty:TypeId) (pos:String) (af:Array Edge) (a:Act) (w:World) (K:Act→World→Prop) (Q:Exit→Act→World→Prop)
  (hp:zAz (a.eval x)=true) (hy:zA5 (a.eval y)=true) (ht:zY 8 w (zAM (a.eval x)) (zAN (a.eval x))) (hc:zAQ 8 (zAn (a.eval y))) :
  Oper.wp Tryz.prog ⟨dst,.store 118 x y,ty,pos,af,none⟩ a w K Q=K (a.put dst undef) (w.setCells (zAM (a.eval x)) (zAN (a.eval x)) (zAn (a.eval y))) :=
 zBP i8h dst x y ty pos af a w K Q hp hy ht hc
theorem zMC {w:World} {b:Nat} {cs:List Value} (h:zY 8 w b 0) (hc:zAQ 8 cs):(loadVar 118 ⟨b,0,none⟩).run Tryz.prog (w.setCells b 0 cs)=.ok (.agg cs.toArray) (w.setCells b 0 cs):=by
 have hr:(w.setCells b 0 cs).rangeAt b 0 cs:=by
  have:=zAB (zCl h b 0 cs)
  rwa [zCa h hc] at this
 exact run_loadVar_mid (P:=Tryz.prog) _ b 0 118 cs _ hr Tryz.underlying118 rfl (by rw [i8h,hc.1])
def isW:Value→Bool
 | .int .u32 _=>true
 | _=>false
@[simp] theorem isW_eq (z:Int):isW (.int .u32 z)=true:=rfl
theorem zD9 {v:Value} (h:isW v=true):∃ z,v=.int .u32 z:=by
 unfold isW at h
 split at h
 · exact ⟨_,rfl⟩
 · cases h
theorem zM7 (z0 z1 z2 z3 z4 z5 z6 z7:Int):Tryz.prog.built 118 [(0,.int .u32 z0),(1,.int .u32 z1),(2,.int .u32 z2),(3,.int .u32 z3),(4,.int .u32 z4),(5,.int .u32 z5),(6,.int .u32 z6),(7,.int .u32 z7)]=some #[Value.int .u32 z0,Value.int .u32 z1,Value.int .u32 z2,Value.int .u32 z3,Value.int .u32 z4,Value.int .u32 z5,Value.int .u32 z6,Value.int .u32 z7]:=by kernel_rfl
theorem zM4 (dst:Option Tmp) (x0 x1 x2 x3 x4 x5 x6 x7:Operand) (ty:TypeId) (pos:String) (af:Array Edge) (gd:Option (Tmp × Bool)) (a:Act) (w:World) (K:Act→World→Prop) (Q:Exit→Act→World→Prop)
  (h:(isW (a.eval x0) && isW (a.eval x1) && isW (a.eval x2) && isW (a.eval x3) && isW (a.eval x4) && isW (a.eval x5) && isW (a.eval x6) && isW (a.eval x7))=true) :
  Oper.wp Tryz.prog ⟨dst,.build 118 #[(0,x0),(1,x1),(2,x2),(3,x3),(4,x4),(5,x5),(6,x6),(7,x7)],ty,pos,af,gd⟩ a w K Q=K (a.put dst (.agg #[a.eval x0,a.eval x1,a.eval x2,a.eval x3,a.eval x4,a.eval x5,a.eval x6,a.eval x7])) w:=by
 simp only [Bool.and_eq_true] at h
 obtain ⟨⟨⟨⟨⟨⟨⟨h0,h1⟩,h2⟩,h3⟩,h4⟩,h5⟩,h6⟩,h7⟩:=h
 obtain ⟨z0,e0⟩:=zD9 h0
 obtain ⟨z1,e1⟩:=zD9 h1
 obtain ⟨z2,e2⟩:=zD9 h2
 obtain ⟨z3,e3⟩:=zD9 h3
 obtain ⟨z4,e4⟩:=zD9 h4
 obtain ⟨z5,e5⟩:=zD9 h5
 obtain ⟨z6,e6⟩:=zD9 h6
 obtain ⟨z7,e7⟩:=zD9 h7
 unfold Oper.wp execOp
 have hr:=run_build (P:=Tryz.prog) w 118 #[(0,a.eval x0),(1,a.eval x1),(2,a.eval x2),(3,a.eval x3),(4,a.eval x4),(5,a.eval x5),(6,a.eval x6),(7,a.eval x7)] _ (by
  rw [e0,e1,e2,e3,e4,e5,e6,e7]
  exact zM7 z0 z1 z2 z3 z4 z5 z6 z7)
 simp only [List.map_toArray,List.map_cons,List.map_nil,Sem.run_bind,hr,Result.andThen_ok]
 rw [e0,e1,e2,e3,e4,e5,e6,e7]
 rfl
attribute [local go_sem ↓] Go.wp_at_zero Go.wp_at_succ
attribute [local go_sem ↓] zIa zHL zM4
attribute [local go_sem] isW_eq
attribute [local go_sem] ptrB_eq ptrO_eq ptrIs_eq aggL_eq aggIs_eq zS ze zC zF zV zH zJ zCB
attribute [local go_sem] zNy zIv zOn wz_xor wz_and wz_or zNz zOp zN0 zGa zLU zOo zN2 zN1 zOq zOr zN3
set_option maxRecDepth 100000 in
theorem zBC (x:UInt32) (n:Int) (k:Nat) (hn:n=-(k:Int)) (hk:1≤k∧k≤31) (w:World) :
  Calls Tryz.prog 243 #[.int .u32 (wz x),.int .i64 n] w fun e w'=>e=.returned (.int .u32 (wz (ror x k)))∧w=w':=by
 obtain ⟨m,hm⟩:∃ m,m=32 - k:=⟨_,rfl⟩
 have h1:bits .and .u64 (IntKind.u64.wrap n) 31=(m:Int):=by
  subst hn;subst hm
  have:∀ k:Fin 32,1≤k.1→bits .and .u64 (IntKind.u64.wrap (-(k.1:Int))) 31=((32 - k.1:Nat):Int):=by decide
  exact this ⟨k,by omega⟩ hk.1
 have h2:IntKind.u64.wrap (32 - (m:Int))=(k:Int):=by
  rw [IntKind.wrap_u64];omega
 have h3:min m 32=m:=by omega
 have h4:min k 32=k:=by omega
 have m0:(0:Int)≤(m:Int):=by omega
 have k0:(0:Int)≤(k:Int):=by omega
 have HM:=Lib.hid hm
 clear hm hn
 go_enter Tryz.func243,Tryz.ntmps243
 go_wp2
 go_ret
 refine ⟨?_,rfl⟩
 rw [HM.out]
 rfl
def KAt (w:World) (kb ko:Nat):Prop:=kb < w.heap.size∧∀ i,i < 64→w.cell? ⟨kb,ko+i,none⟩=some (.int .u32 (wz (kT.getD i 0)))
def hV (v:H8):List Value:=v.l.map wv
theorem zNP (v:H8) {i:Nat} (hi:i < 8):(hV v)[i]?=some (wv (v.l.getD i 0)):=by
 have hl:v.l.length=8:=rfl
 unfold hV
 rw [List.getElem?_map,List.getD_eq_getElem?_getD,List.getElem?_eq_getElem (by omega)];rfl
set_option maxRecDepth 100000 in
set_option maxHeartbeats 16000000 in
theorem zHv (h:H8) (kb ko:Nat) (v:Value) (bs:List UInt8) (w:World) (hk:KAt w kb ko) (hb:Bys w v bs) (hl:bs.length=64) :
  Calls Tryz.prog 234 #[.agg (hV h).toArray,.pointer (some ⟨kb,ko,none⟩),v] w fun e w'=>e=.returned (.agg (hV (mix h bs)).toArray)∧Below w.heap.size w w':=by
 obtain ⟨va,vc,rfl,hc1,hc2,hrow⟩:=hb
 obtain ⟨bb,off,rfl,hcells⟩:=hrow (by omega)
 have hcell:∀ j,j < 64→w.cell? ⟨bb,off+j,none⟩=some (.int .u8 ((bs.getD j 0).toNat:Int)):=fun j hj=>by
  have:=hcells j (bs[j]'(by omega)) (by simp)
  rw [this,List.getD_eq_getElem?_getD,List.getElem?_eq_getElem (by omega)];rfl
 have hbl:bb < w.heap.size:=World.block_lt_of_cell? w _ (hcell 0 (by decide))
 have H:=Lib.hid (And.intro hk (And.intro hcell (And.intro hbl hl)))
 rw [hl] at *
 clear hk hcell hbl hc1 hc2 hrow hcells
 obtain ⟨ch,hch⟩:∃ q,q=hV h:=⟨_,rfl⟩
 have hchl:ch.length=8:=by rw [hch];rfl
 have HCH:=Lib.hid hch
 rw [← hch]
 clear hch hl
 go_enter Tryz.func234,Tryz.ntmps234
 go_upto_region 3 with fail
 obtain ⟨w0,hw0⟩:∃ q,q=((w.alloc (.cells ch.toArray 118)).alloc (.cells #[Value.int IntKind.u32 0,.int .u32 0,.int .u32 0,.int .u32 0,.int .u32 0,.int .u32 0,.int .u32 0,.int .u32 0] 118)).alloc (.cells #[Value.int IntKind.u32 0,.int .u32 0,.int .u32 0,.int .u32 0,.int .u32 0,.int .u32 0,.int .u32 0,.int .u32 0,.int .u32 0,.int .u32 0,.int .u32 0,.int .u32 0,.int .u32 0,.int .u32 0,.int .u32 0,.int .u32 0,.int .u32 0,.int .u32 0,.int .u32 0,.int .u32 0,.int .u32 0,.int .u32 0,.int .u32 0,.int .u32 0,.int .u32 0,.int .u32 0,.int .u32 0,.int .u32 0,.int .u32 0,.int .u32 0,.int .u32 0,.int .u32 0,.int .u32 0,.int .u32 0,.int .u32 0,.int .u32 0,.int .u32 0,.int .u32 0,.int .u32 0,.int .u32 0,.int .u32 0,.int .u32 0,.int .u32 0,.int .u32 0,.int .u32 0,.int .u32 0,.int .u32 0,.int .u32 0,.int .u32 0,.int .u32 0,.int .u32 0,.int .u32 0,.int .u32 0,.int .u32 0,.int .u32 0,.int .u32 0,.int .u32 0,.int .u32 0,.int .u32 0,.int .u32 0,.int .u32 0,.int .u32 0,.int .u32 0,.int .u32 0] 116):=⟨_,rfl⟩
 rw [← hw0]
 have hk3:Blk w0 w.heap.size ch.toArray 118:=by
  rw [hw0];exact ((Blk.new w ch.toArray 118).alloc (.cells #[Value.int IntKind.u32 0,.int .u32 0,.int .u32 0,.int .u32 0,.int .u32 0,.int .u32 0,.int .u32 0,.int .u32 0] 118)).alloc _
 have hk6:Blk w0 (w.heap.size+1) #[Value.int IntKind.u32 0,.int .u32 0,.int .u32 0,.int .u32 0,.int .u32 0,.int .u32 0,.int .u32 0,.int .u32 0] 118:=by
  rw [hw0];exact (Blk.new_at _ _ _ _ (by simp)).alloc _
 have hk7:Blk w0 (w.heap.size+1+1) (zHD bs 0) 116:=by
  rw [hw0];exact Blk.new_at _ _ _ _ (by simp)
 have hb0:Below w.heap.size w w0:=by
  rw [hw0]
  have h1:Below w.heap.size w (w.alloc (.cells ch.toArray 118)):=(Below.refl _ _).alloc (Nat.le_refl _) _
  have h2:=h1.alloc h1.size (.cells #[Value.int IntKind.u32 0,.int .u32 0,.int .u32 0,.int .u32 0,.int .u32 0,.int .u32 0,.int .u32 0,.int .u32 0] 118)
  exact h2.alloc h2.size _
 obtain ⟨p3,hp3⟩:∃ q,q=w.heap.size:=⟨_,rfl⟩
 obtain ⟨p6,hp6⟩:∃ q,q=w.heap.size+1:=⟨_,rfl⟩
 obtain ⟨p7,hp7⟩:∃ q,q=w.heap.size+1+1:=⟨_,rfl⟩
 have HP:=Lib.hid (And.intro hp3 (And.intro hp6 hp7))
 rw [← hp7] at hk7 ⊢
 rw [← hp6] at hk6 ⊢
 rw [← hp3] at hk3 ⊢
 have HB:=Lib.hid (And.intro hk3 (And.intro hk6 (And.intro hk7 hb0)))
 have hp:p3 < p6∧p6 < p7:=by omega
 have hge:w.heap.size≤p3∧w.heap.size≤p7:=by omega
 clear hw0 hk3 hk6 hk7 hb0 hp3 hp6 hp7
 go_loopw [23] (fun vi wr=>∃ i:Nat,i≤16∧vi=.int .i64 i∧Hid (Blk wr p3 ch.toArray 118∧Blk wr p6 #[Value.int IntKind.u32 0,.int .u32 0,.int .u32 0,.int .u32 0,.int .u32 0,.int .u32 0,.int .u32 0,.int .u32 0] 118∧Blk wr p7 (zHD bs i) 116∧Below w.heap.size w wr)) (fun vi _=>16 - (intOf vi).toNat)
 case atStart=>exact ⟨0,Nat.zero_le _,rfl,HB.out⟩
 case round =>
  obtain ⟨i,hi0,rfl,G⟩:=hrel
  by_cases hin:i < 16
  · have i0:(0:Int)≤(i:Int):=by omega
    have i1:(i:Int) < 16:=by omega
    obtain ⟨q,hq⟩:∃ q,q=4*i:=⟨_,rfl⟩
    have e0:IntKind.i64.wrap (4*(i:Int))=(q:Int):=by rw [IntKind.wrap_i64];omega
    have hq1:q≤60:=by omega
    have g0:=(G.out.2.2.2.cell (p:=⟨bb,off+(q+0),none⟩) H.out.2.2.1).trans (H.out.2.1 (q+0) (by omega))
    obtain ⟨x0,hx0⟩:∃ b,b=bs.getD (q+0) 0:=⟨_,rfl⟩
    rw [← hx0] at g0
    have g1:=(G.out.2.2.2.cell (p:=⟨bb,off+(q+1),none⟩) H.out.2.2.1).trans (H.out.2.1 (q+1) (by omega))
    obtain ⟨x1,hx1⟩:∃ b,b=bs.getD (q+1) 0:=⟨_,rfl⟩
    rw [← hx1] at g1
    have g2:=(G.out.2.2.2.cell (p:=⟨bb,off+(q+2),none⟩) H.out.2.2.1).trans (H.out.2.1 (q+2) (by omega))
    obtain ⟨x2,hx2⟩:∃ b,b=bs.getD (q+2) 0:=⟨_,rfl⟩
    rw [← hx2] at g2
    have g3:=(G.out.2.2.2.cell (p:=⟨bb,off+(q+3),none⟩) H.out.2.2.1).trans (H.out.2.1 (q+3) (by omega))
    obtain ⟨x3,hx3⟩:∃ b,b=bs.getD (q+3) 0:=⟨_,rfl⟩
    rw [← hx3] at g3
    rw [Nat.add_zero] at g0
    have HW:Hid (word bs i=shl x0.toUInt32 24 ||| shl x1.toUInt32 16 ||| shl x2.toUInt32 8 ||| x3.toUInt32):=by
     show word bs i=_
     rw [hx0,hx1,hx2,hx3,hq];rfl
    clear hx0 hx1 hx2 hx3
    obtain ⟨z,hz⟩:=zKA bs (i:=i) (j:=i) (by omega) (by omega)
    have c7:wr.cell? ⟨p7,i,none⟩=some (.int .u32 z):=(G.out.2.2.1.cell i).trans hz
    have f7:=G.out.2.2.1.free i
    have HQ:=Lib.hid (And.intro hq hz)
    clear hq hz
    go_upto_region 5 with fail
    refine Tail.zAG 35 (fun w'=>∃ n,w'=wr.drewN n) (by kernel_rfl) (by kernel_rfl) ⟨1,rfl⟩ ?_
    simp only [List.take_succ_cons,List.take_zero,List.drop_succ_cons,List.drop_zero]
    repeat (first
     | go_big_quiet_step (fail)
     | quiet_step (fail))
    refine wpQuiet_nil ?_
    intro _ hw'
    obtain ⟨d5,hw''⟩:=hw'
    subst hw''
    go_wp2_with fail
    refine ⟨⟨i+1,by omega,by simp,?_,?_,?_,?_⟩,by show 16 - ((i:Int)+1).toNat < 16 - (i:Int).toNat;omega⟩
    · exact (G.out.1.drewN d5).set_other (fun e=>by have e':p7=p3:=e;omega) _
    · exact (G.out.2.1.drewN d5).set_other (fun e=>by have e':p7=p6:=e;omega) _
    · have:=(G.out.2.2.1.drewN d5).set i (.int .u32 (wz (word bs i)))
      rw [zKB bs (by omega) _ (sch_lo bs hin),HW.out] at this
      exact this
    · exact (below_drewN G.out.2.2.2 d5).setCell hge.2 _
  · obtain rfl:i=16:=by omega
    have HG:=Lib.hid G.out
    obtain ⟨w1,hw1⟩:∃ q,q=wr:=⟨_,rfl⟩
    rw [← hw1] at HG ⊢
    clear hw1 G hi0 hin
    go_upto_region 8 with fail
    go_loopw [9] (fun vi wr=>∃ i:Nat,16≤i∧i≤64∧vi=.int .i64 i∧Hid (Blk wr p3 ch.toArray 118∧Blk wr p6 #[Value.int IntKind.u32 0,.int .u32 0,.int .u32 0,.int .u32 0,.int .u32 0,.int .u32 0,.int .u32 0,.int .u32 0] 118∧Blk wr p7 (zHD bs i) 116∧Below w.heap.size w wr)) (fun vi _=>64 - (intOf vi).toNat)
    case atStart=>exact ⟨16,Nat.le_refl _,by decide,rfl,HG.out⟩
    case round =>
     obtain ⟨i,hi0,hi64,rfl,G⟩:=hrel
     by_cases hin:i < 64
     · have i0:(0:Int)≤(i:Int):=by omega
       have i1:(i:Int) < 64:=by omega
       obtain ⟨j16,hj16⟩:∃ j,j=i - 16:=⟨_,rfl⟩
       have e16:(i:Int) - 16=(j16:Int):=by omega
       have b16:j16 < 64:=by omega
       have c16:wr.cell? ⟨p7,j16,none⟩=some (.int .u32 (wz ((sch bs i).getD j16 0))):=(G.out.2.2.1.cell j16).trans (zDP bs (by omega))
       obtain ⟨y16,hy16⟩:∃ b,b=(sch bs i).getD j16 0:=⟨_,rfl⟩
       rw [← hy16] at c16
       obtain ⟨j15,hj15⟩:∃ j,j=i - 15:=⟨_,rfl⟩
       have e15:(i:Int) - 15=(j15:Int):=by omega
       have b15:j15 < 64:=by omega
       have c15:wr.cell? ⟨p7,j15,none⟩=some (.int .u32 (wz ((sch bs i).getD j15 0))):=(G.out.2.2.1.cell j15).trans (zDP bs (by omega))
       obtain ⟨y15,hy15⟩:∃ b,b=(sch bs i).getD j15 0:=⟨_,rfl⟩
       rw [← hy15] at c15
       obtain ⟨j7,hj7⟩:∃ j,j=i - 7:=⟨_,rfl⟩
       have e7:(i:Int) - 7=(j7:Int):=by omega
       have b7:j7 < 64:=by omega
       have c7:wr.cell? ⟨p7,j7,none⟩=some (.int .u32 (wz ((sch bs i).getD j7 0))):=(G.out.2.2.1.cell j7).trans (zDP bs (by omega))
       obtain ⟨y7,hy7⟩:∃ b,b=(sch bs i).getD j7 0:=⟨_,rfl⟩
       rw [← hy7] at c7
       obtain ⟨j2,hj2⟩:∃ j,j=i - 2:=⟨_,rfl⟩
       have e2:(i:Int) - 2=(j2:Int):=by omega
       have b2:j2 < 64:=by omega
       have c2:wr.cell? ⟨p7,j2,none⟩=some (.int .u32 (wz ((sch bs i).getD j2 0))):=(G.out.2.2.1.cell j2).trans (zDP bs (by omega))
       obtain ⟨y2,hy2⟩:∃ b,b=(sch bs i).getD j2 0:=⟨_,rfl⟩
       rw [← hy2] at c2
       have HN:Hid (next (sch bs i)=y16+(ror y15 7 ^^^ ror y15 18 ^^^ shr y15 3)+y7+(ror y2 17 ^^^ ror y2 19 ^^^ shr y2 10)):=by
        show next (sch bs i)=_
        rw [hy16,hy15,hy7,hy2,hj16,hj15,hj7,hj2]
        unfold next
        rw [zEX];rfl
       obtain ⟨z,hz⟩:=zKA bs (i:=i) (j:=i) (by omega) (by omega)
       have c7:wr.cell? ⟨p7,i,none⟩=some (.int .u32 z):=(G.out.2.2.1.cell i).trans hz
       have f7:=G.out.2.2.1.free i
       clear hy16 hy15 hy7 hy2 hj16 hj15 hj7 hj2 hz
       go_upto_region 10 with fail
       go_quiet (fail)
       go_wp2_with fail
       refine (zBC y15 (-7) 7 rfl (by decide) _).mono ?_
       rintro e w' ⟨rfl,rfl⟩
       go_wp2_with fail
       refine (zBC y15 (-18) 18 rfl (by decide) _).mono ?_
       rintro e w' ⟨rfl,rfl⟩
       go_wp2_with fail
       refine (zBC y2 (-17) 17 rfl (by decide) _).mono ?_
       rintro e w' ⟨rfl,rfl⟩
       go_wp2_with fail
       refine (zBC y2 (-19) 19 rfl (by decide) _).mono ?_
       rintro e w' ⟨rfl,rfl⟩
       go_upto_region 13 with fail
       refine Tail.zAG 15 (fun w'=>∃ n,w'=(wr.drewN nq).drewN n) (by kernel_rfl) (by kernel_rfl) ⟨1,rfl⟩ ?_
       simp only [List.take_succ_cons,List.take_zero,List.drop_succ_cons,List.drop_zero]
       repeat (first
        | go_big_quiet_step (fail)
        | quiet_step (fail))
       refine wpQuiet_nil ?_
       intro _ hw'
       obtain ⟨d5,hw''⟩:=hw'
       subst hw''
       rw [World.drewN_drewN]
       generalize nq+d5=d6
       go_wp2_with fail
       go_roundw
       case rel =>
        repeat apply Exists.intro
        refine ⟨⟨i+1,by omega,by omega,by simp,?_,?_,?_,?_⟩,rfl⟩
        · exact (G.out.1.drewN d6).set_other (fun e=>by have e':p7=p3:=e;omega) _
        · exact (G.out.2.1.drewN d6).set_other (fun e=>by have e':p7=p6:=e;omega) _
        · have:=(G.out.2.2.1.drewN d6).set i (.int .u32 (wz (next (sch bs i))))
          rw [zKB bs (by omega) _ (sch_hi bs hi0),HN.out] at this
          exact this
        · exact (below_drewN G.out.2.2.2 d6).setCell hge.2 _
       case measure =>
        show 64 - ((i:Int)+1).toNat < 64 - (i:Int).toNat
        omega
     · obtain rfl:i=64:=by omega
       have HG:=Lib.hid G.out
       have r3:zN 8 wr p3 0=ch:=zP G.out.1 hchl
       have h3:zY 8 wr p3 0:=zL G.out.1 (by simp [hchl])
       have l3:=G.out.1.lt
       have hca:zAQ 8 ch:=⟨hchl,fun v hv=>by
        rw [HCH.out] at hv
        unfold hV at hv
        obtain ⟨x,_,rfl⟩:=List.mem_map.1 hv
        rfl⟩
       clear G hi0 hi64 hin
       go_upto_region 16 with fail
       have hk14:Blk (wr.alloc (.cells ch.toArray 118)) wr.heap.size ch.toArray 118:=Blk.new _ _ _
       have h3a:=HG.out.1.alloc (.cells ch.toArray 118)
       have h6a:=HG.out.2.1.alloc (.cells ch.toArray 118)
       have h7a:=HG.out.2.2.1.alloc (.cells ch.toArray 118)
       have hba:=HG.out.2.2.2.alloc HG.out.2.2.2.size (.cells ch.toArray 118)
       have l7:=HG.out.2.2.1.lt
       have l0:=HG.out.2.2.2.size
       obtain ⟨w2,hw2⟩:∃ q,q=wr.alloc (.cells ch.toArray 118):=⟨_,rfl⟩
       obtain ⟨p14,hp14⟩:∃ q,q=wr.heap.size:=⟨_,rfl⟩
       rw [← hw2] at hk14 h3a h6a h7a hba ⊢
       rw [← hp14] at hk14 l7 l0 ⊢
       have HD:=Lib.hid (And.intro h3a (And.intro h6a (And.intro h7a (And.intro hk14 hba))))
       have hp2:p7 < p14:=l7
       have l14:w.heap.size≤p14:=l0
       clear hk14 h3a h6a h7a hba hw2 hp14 r3 h3 l3 HG
       go_loopw [106] (fun vi wr=>∃ i:Nat,i≤64∧vi=.int .i64 i∧Hid (Blk wr p3 ch.toArray 118∧Blk wr p6 #[Value.int IntKind.u32 0,.int .u32 0,.int .u32 0,.int .u32 0,.int .u32 0,.int .u32 0,.int .u32 0,.int .u32 0] 118∧Blk wr p7 (zHD bs 64) 116∧Blk wr p14 (hV (zHa bs h i)).toArray 118∧Below w.heap.size w wr)) (fun vi _=>64 - (intOf vi).toNat)
       case atStart=>exact ⟨0,Nat.zero_le _,rfl,HD.out.1,HD.out.2.1,HD.out.2.2.1,by rw [zHa,← HCH.out];exact HD.out.2.2.2.1,HD.out.2.2.2.2⟩
       case round =>
        obtain ⟨i,hi0,rfl,G⟩:=hrel
        by_cases hin:i < 64
        · have i0:(0:Int)≤(i:Int):=by omega
          have i1:(i:Int) < 64:=by omega
          obtain ⟨kk,hkk⟩:∃ q,q=kT.getD i 0:=⟨_,rfl⟩
          obtain ⟨ww,hww⟩:∃ q,q=(sch bs 64).getD i 0:=⟨_,rfl⟩
          have ck:=(G.out.2.2.2.2.cell (p:=⟨kb,ko+i,none⟩) H.out.1.1).trans (H.out.1.2 i hin)
          have c7:=(G.out.2.2.1.cell i).trans (zDP bs hin)
          rw [← hkk] at ck
          rw [← hww] at c7
          have hk14:=G.out.2.2.2.1
          have hv:Hid (zHa bs h (i+1)=rnd (zHa bs h i) kk ww):=by
           show zHa bs h (i+1)=_
           rw [zHa,← hkk,← hww]
          obtain ⟨vv,hvv⟩:∃ q,q=zHa bs h i:=⟨_,rfl⟩
          rw [← hvv] at hk14 hv
          clear hvv hkk hww
          obtain ⟨xa,xb,xc,xd,xe,xf,xg,xh⟩:=vv
          have d0:wr.cell? ⟨p14,0,none⟩=some (.int .u32 (wz xa)):=hk14.cell 0
          have d1:wr.cell? ⟨p14,1,none⟩=some (.int .u32 (wz xb)):=hk14.cell 1
          have d2:wr.cell? ⟨p14,2,none⟩=some (.int .u32 (wz xc)):=hk14.cell 2
          have d3:wr.cell? ⟨p14,3,none⟩=some (.int .u32 (wz xd)):=hk14.cell 3
          have d4:wr.cell? ⟨p14,4,none⟩=some (.int .u32 (wz xe)):=hk14.cell 4
          have d5:wr.cell? ⟨p14,5,none⟩=some (.int .u32 (wz xf)):=hk14.cell 5
          have d6:wr.cell? ⟨p14,6,none⟩=some (.int .u32 (wz xg)):=hk14.cell 6
          have d7:wr.cell? ⟨p14,7,none⟩=some (.int .u32 (wz xh)):=hk14.cell 7
          have f0:wr.frozen? ⟨p14,0,none⟩=false:=hk14.free 0
          have f1:wr.frozen? ⟨p14,1,none⟩=false:=hk14.free 1
          have f2:wr.frozen? ⟨p14,2,none⟩=false:=hk14.free 2
          have f3:wr.frozen? ⟨p14,3,none⟩=false:=hk14.free 3
          have f4:wr.frozen? ⟨p14,4,none⟩=false:=hk14.free 4
          have f5:wr.frozen? ⟨p14,5,none⟩=false:=hk14.free 5
          have f6:wr.frozen? ⟨p14,6,none⟩=false:=hk14.free 6
          have f7:wr.frozen? ⟨p14,7,none⟩=false:=hk14.free 7
          have h14:zY 8 wr p14 0:=zL hk14 (by simp [hV,H8.l])
          have HK:=Lib.hid hk14
          clear hk14
          go_upto_region 18 with fail
          go_quiet (fail)
          go_wp2_with fail
          refine (zBC xe (-6) 6 rfl (by decide) _).mono ?_
          rintro e w' ⟨rfl,rfl⟩
          go_wp2_with fail
          refine (zBC xe (-11) 11 rfl (by decide) _).mono ?_
          rintro e w' ⟨rfl,rfl⟩
          go_wp2_with fail
          refine (zBC xe (-25) 25 rfl (by decide) _).mono ?_
          rintro e w' ⟨rfl,rfl⟩
          go_upto_region 20 with fail
          go_quiet (fail)
          go_wp2_with fail
          refine (zBC xa (-2) 2 rfl (by decide) _).mono ?_
          rintro e w' ⟨rfl,rfl⟩
          go_wp2_with fail
          refine (zBC xa (-13) 13 rfl (by decide) _).mono ?_
          rintro e w' ⟨rfl,rfl⟩
          go_wp2_with fail
          refine (zBC xa (-22) 22 rfl (by decide) _).mono ?_
          rintro e w' ⟨rfl,rfl⟩
          go_wp2_with fail
          go_roundw
          case rel =>
           repeat apply Exists.intro
           refine ⟨⟨i+1,by omega,by simp,?_,?_,?_,?_,?_⟩,rfl⟩
           · exact ((((((((G.out.1.drewN _).set_other (fun e=>by have e':p14=p3:=e;omega) _).set_other (fun e=>by have e':p14=p3:=e;omega) _).set_other (fun e=>by have e':p14=p3:=e;omega) _).set_other (fun e=>by have e':p14=p3:=e;omega) _).set_other (fun e=>by have e':p14=p3:=e;omega) _).set_other (fun e=>by have e':p14=p3:=e;omega) _).set_other (fun e=>by have e':p14=p3:=e;omega) _).set_other (fun e=>by have e':p14=p3:=e;omega) _
           · exact ((((((((G.out.2.1.drewN _).set_other (fun e=>by have e':p14=p6:=e;omega) _).set_other (fun e=>by have e':p14=p6:=e;omega) _).set_other (fun e=>by have e':p14=p6:=e;omega) _).set_other (fun e=>by have e':p14=p6:=e;omega) _).set_other (fun e=>by have e':p14=p6:=e;omega) _).set_other (fun e=>by have e':p14=p6:=e;omega) _).set_other (fun e=>by have e':p14=p6:=e;omega) _).set_other (fun e=>by have e':p14=p6:=e;omega) _
           · exact ((((((((G.out.2.2.1.drewN _).set_other (fun e=>by have e':p14=p7:=e;omega) _).set_other (fun e=>by have e':p14=p7:=e;omega) _).set_other (fun e=>by have e':p14=p7:=e;omega) _).set_other (fun e=>by have e':p14=p7:=e;omega) _).set_other (fun e=>by have e':p14=p7:=e;omega) _).set_other (fun e=>by have e':p14=p7:=e;omega) _).set_other (fun e=>by have e':p14=p7:=e;omega) _).set_other (fun e=>by have e':p14=p7:=e;omega) _
           · rw [hv.out]
             exact ((((((((HK.out.drewN _).set 0 _).set 1 _).set 2 _).set 3 _).set 4 _).set 5 _).set 6 _).set 7 _
           · exact ((((((((below_drewN G.out.2.2.2.2 _).setCell l14 _).setCell l14 _).setCell l14 _).setCell l14 _).setCell l14 _).setCell l14 _).setCell l14 _).setCell l14 _
          case measure =>
           show 64 - ((i:Int)+1).toNat < 64 - (i:Int).toNat
           omega
        · obtain rfl:i=64:=by omega
          have HG:=Lib.hid G.out
          clear G hi0 hin
          go_upto_region 26 with fail
          obtain ⟨vv,hvv⟩:∃ q,q=zHa bs h 64:=⟨_,rfl⟩
          have HV:=Lib.hid hvv
          have hg4:=HG.out.2.2.2.1
          have hg3:=HG.out.1
          rw [← hvv] at hg4
          rw [HCH.out] at hg3
          have HG2:=Lib.hid (And.intro hg3 (And.intro HG.out.2.1 (And.intro hg4 HG.out.2.2.2.2)))
          clear hvv hg4 hg3 HG
          go_loopw [190] (fun vi wr=>∃ i:Nat,i≤8∧vi=.int .i64 i∧Hid (Blk wr p3 ((zHT h vv i).map wv).toArray 118∧Blk wr p6 #[Value.int IntKind.u32 0,.int .u32 0,.int .u32 0,.int .u32 0,.int .u32 0,.int .u32 0,.int .u32 0,.int .u32 0] 118∧Blk wr p14 (hV vv).toArray 118∧Below w.heap.size w wr)) (fun vi _=>8 - (intOf vi).toNat)
          case atStart=>exact ⟨0,Nat.zero_le _,rfl,HG2.out⟩
          case round =>
           obtain ⟨i,hi0,rfl,G⟩:=hrel
           by_cases hin:i < 8
           · have i0:(0:Int)≤(i:Int):=by omega
             have i1:(i:Int) < 8:=by omega
             obtain ⟨x,hx⟩:∃ x,x=h.l.getD i 0:=⟨_,rfl⟩
             obtain ⟨y,hy⟩:∃ x,x=vv.l.getD i 0:=⟨_,rfl⟩
             have c3:wr.cell? ⟨p3,i,none⟩=some (.int .u32 (wz x)):=by
              rw [G.out.1.cell,List.getElem?_toArray,List.getElem?_map,zMs h vv hin,← hx];rfl
             have c14:wr.cell? ⟨p14,i,none⟩=some (.int .u32 (wz y)):=by
              rw [G.out.2.2.1.cell,List.getElem?_toArray,zNP vv hin,hy];rfl
             have f3:=G.out.1.free i
             have hs:Hid ((zHT h vv i).set i (x+y)=zHT h vv (i+1)):=by
              show _=_
              rw [hx,hy];exact zMt h vv hin
             clear hx hy
             go_upto_region 28 with fail
             refine Tail.zAG 9 (fun w'=>∃ n,w'=wr.drewN n) (by kernel_rfl) (by kernel_rfl) ⟨1,rfl⟩ ?_
             simp only [List.take_succ_cons,List.take_zero,List.drop_succ_cons,List.drop_zero]
             repeat (first
              | go_big_quiet_step (fail)
              | quiet_step (fail))
             refine wpQuiet_nil ?_
             intro _ hw'
             obtain ⟨d5,hw''⟩:=hw'
             subst hw''
             go_wp2_with fail
             refine ⟨⟨i+1,by omega,by simp,?_,?_,?_,?_⟩,by show 8 - ((i:Int)+1).toNat < 8 - (i:Int).toNat;omega⟩
             · have:=(G.out.1.drewN d5).set i (.int .u32 (wz (x+y)))
               rw [← wv_eq,List.setIfInBounds_toArray,← List.map_set,hs.out] at this
               exact this
             · exact (G.out.2.1.drewN d5).set_other (fun e=>by have e':p3=p6:=e;omega) _
             · exact (G.out.2.2.1.drewN d5).set_other (fun e=>by have e':p3=p14:=e;omega) _
             · exact (below_drewN G.out.2.2.2 d5).setCell hge.1 _
           · obtain rfl:i=8:=by omega
             have hg:=G.out.1
             rw [addL_8] at hg
             have hq:zIK h vv=mix h bs:=by unfold mix;rw [HV.out]
             rw [hq] at hg
             obtain ⟨cm,hcm⟩:∃ q,q=hV (mix h bs):=⟨_,rfl⟩
             have hg':Blk wr p3 cm.toArray 118:=by rw [hcm];exact hg
             have hcml:cm.length=8:=by rw [hcm];rfl
             have hca2:zAQ 8 cm:=⟨hcml,fun v hv=>by
              rw [hcm] at hv
              unfold hV at hv
              obtain ⟨x,_,rfl⟩:=List.mem_map.1 hv
              rfl⟩
             have r3:zN 8 wr p3 0=cm:=zP hg' hcml
             have h3:zY 8 wr p3 0:=zL hg' (by simp [hcml])
             have h6:zY 8 wr p6 0:=zL G.out.2.1 (by simp)
             have HLD:=Lib.hid (zMC h6 hca2)
             have HM:=Lib.hid (And.intro hcm G.out)
             clear hg hg' hq hcm G
             go_wp2_with fail
             refine bodyPost_ret (v:=.agg cm.toArray) (by simp [results,Tryz.results234,asAddr,HLD.out]) rfl ⟨by rw [HM.out.1],?_⟩
             exact (Chg.setCells (S:=fun b=>b=p6) (L:=p6) rfl _ _ _ (Chg.of_below HM.out.2.2.2.2)).below (Nat.le_refl _) (fun k hk=>by rw [hk,HP.out.2.1];omega)
end Go.Proofs.YtbbojbdigiibbaaGreatDoor
end
section
namespace Go.Proofs.YtbbojbdigiibbaaGreatDoor
open Go Go.RowKit Go.Mem Gf Sha
set_option linter.unusedVariables false
def kL:List Value:=kT.map wv
theorem zCm:kL.length=64:=rfl
theorem kL_all:zAQ 64 kL:=⟨rfl,fun v hv=>by
 unfold kL at hv
 obtain ⟨x,_,rfl⟩:=List.mem_map.1 hv
 rfl⟩
theorem kL_get {i:Nat} (h:i < 64):kL[i]?=some (.int .u32 (wz (kT.getD i 0))):=by
 have hl:kT.length=64:=rfl
 unfold kL
 rw [List.getElem?_map,List.getD_eq_getElem?_getD,List.getElem?_eq_getElem (by omega)];rfl
theorem zKp (v:H8):zAQ 8 (hV v):=⟨rfl,fun x hx=>by
 unfold hV at hx
 obtain ⟨y,_,rfl⟩:=List.mem_map.1 hx
 rfl⟩
theorem zOE:Tryz.prog.built 116 #[(0,Value.int IntKind.u32 1116352408),(1,Value.int IntKind.u32 1899447441),(2,Value.int IntKind.u32 3049323471),(3,Value.int IntKind.u32 3921009573),(4,Value.int IntKind.u32 961987163),(5,Value.int IntKind.u32 1508970993),(6,Value.int IntKind.u32 2453635748),(7,Value.int IntKind.u32 2870763221),(8,Value.int IntKind.u32 3624381080),(9,Value.int IntKind.u32 310598401),(10,Value.int IntKind.u32 607225278),(11,Value.int IntKind.u32 1426881987),(12,Value.int IntKind.u32 1925078388),(13,Value.int IntKind.u32 2162078206),(14,Value.int IntKind.u32 2614888103),(15,Value.int IntKind.u32 3248222580),(16,Value.int IntKind.u32 3835390401),(17,Value.int IntKind.u32 4022224774),(18,Value.int IntKind.u32 264347078),(19,Value.int IntKind.u32 604807628),(20,Value.int IntKind.u32 770255983),(21,Value.int IntKind.u32 1249150122),(22,Value.int IntKind.u32 1555081692),(23,Value.int IntKind.u32 1996064986),(24,Value.int IntKind.u32 2554220882),(25,Value.int IntKind.u32 2821834349),(26,Value.int IntKind.u32 2952996808),(27,Value.int IntKind.u32 3210313671),(28,Value.int IntKind.u32 3336571891),(29,Value.int IntKind.u32 3584528711),(30,Value.int IntKind.u32 113926993),(31,Value.int IntKind.u32 338241895),(32,Value.int IntKind.u32 666307205),(33,Value.int IntKind.u32 773529912),(34,Value.int IntKind.u32 1294757372),(35,Value.int IntKind.u32 1396182291),(36,Value.int IntKind.u32 1695183700),(37,Value.int IntKind.u32 1986661051),(38,Value.int IntKind.u32 2177026350),(39,Value.int IntKind.u32 2456956037),(40,Value.int IntKind.u32 2730485921),(41,Value.int IntKind.u32 2820302411),(42,Value.int IntKind.u32 3259730800),(43,Value.int IntKind.u32 3345764771),(44,Value.int IntKind.u32 3516065817),(45,Value.int IntKind.u32 3600352804),(46,Value.int IntKind.u32 4094571909),(47,Value.int IntKind.u32 275423344),(48,Value.int IntKind.u32 430227734),(49,Value.int IntKind.u32 506948616),(50,Value.int IntKind.u32 659060556),(51,Value.int IntKind.u32 883997877),(52,Value.int IntKind.u32 958139571),(53,Value.int IntKind.u32 1322822218),(54,Value.int IntKind.u32 1537002063),(55,Value.int IntKind.u32 1747873779),(56,Value.int IntKind.u32 1955562222),(57,Value.int IntKind.u32 2024104815),(58,Value.int IntKind.u32 2227730452),(59,Value.int IntKind.u32 2361852424),(60,Value.int IntKind.u32 2428436474),(61,Value.int IntKind.u32 2756734187),(62,Value.int IntKind.u32 3204031479),(63,Value.int IntKind.u32 3329325298)].toList=some kL.toArray:=by kernel_rfl
set_option maxRecDepth 20000 in
theorem zOC (dst:Option Tmp) (ty:TypeId) (pos:String) (af:Array Edge) (gd:Option (Tmp × Bool)) (a:Act) (w:World) (K:Act→World→Prop) (Q:Exit→Act→World→Prop) :
  Oper.wp Tryz.prog ⟨dst,.build 116 #[(0,Operand.const (Value.int IntKind.u32 1116352408)),(1,Operand.const (Value.int IntKind.u32 1899447441)),(2,Operand.const (Value.int IntKind.u32 3049323471)),(3,Operand.const (Value.int IntKind.u32 3921009573)),(4,Operand.const (Value.int IntKind.u32 961987163)),(5,Operand.const (Value.int IntKind.u32 1508970993)),(6,Operand.const (Value.int IntKind.u32 2453635748)),(7,Operand.const (Value.int IntKind.u32 2870763221)),(8,Operand.const (Value.int IntKind.u32 3624381080)),(9,Operand.const (Value.int IntKind.u32 310598401)),(10,Operand.const (Value.int IntKind.u32 607225278)),(11,Operand.const (Value.int IntKind.u32 1426881987)),(12,Operand.const (Value.int IntKind.u32 1925078388)),(13,Operand.const (Value.int IntKind.u32 2162078206)),(14,Operand.const (Value.int IntKind.u32 2614888103)),(15,Operand.const (Value.int IntKind.u32 3248222580)),(16,Operand.const (Value.int IntKind.u32 3835390401)),(17,Operand.const (Value.int IntKind.u32 4022224774)),(18,Operand.const (Value.int IntKind.u32 264347078)),(19,Operand.const (Value.int IntKind.u32 604807628)),(20,Operand.const (Value.int IntKind.u32 770255983)),(21,Operand.const (Value.int IntKind.u32 1249150122)),(22,Operand.const (Value.int IntKind.u32 1555081692)),(23,Operand.const (Value.int IntKind.u32 1996064986)),(24,Operand.const (Value.int IntKind.u32 2554220882)),(25,Operand.const (Value.int IntKind.u32 2821834349)),(26,Operand.const (Value.int IntKind.u32 2952996808)),(27,Operand.const (Value.int IntKind.u32 3210313671)),(28,Operand.const (Value.int IntKind.u32 3336571891)),(29,Operand.const (Value.int IntKind.u32 3584528711)),(30,Operand.const (Value.int IntKind.u32 113926993)),(31,Operand.const (Value.int IntKind.u32 338241895)),(32,Operand.const (Value.int IntKind.u32 666307205)),(33,Operand.const (Value.int IntKind.u32 773529912)),(34,Operand.const (Value.int IntKind.u32 1294757372)),(35,Operand.const (Value.int IntKind.u32 1396182291)),(36,Operand.const (Value.int IntKind.u32 1695183700)),(37,Operand.const (Value.int IntKind.u32 1986661051)),(38,Operand.const (Value.int IntKind.u32 2177026350)),(39,Operand.const (Value.int IntKind.u32 2456956037)),(40,Operand.const (Value.int IntKind.u32 2730485921)),(41,Operand.const (Value.int IntKind.u32 2820302411)),(42,Operand.const (Value.int IntKind.u32 3259730800)),(43,Operand.const (Value.int IntKind.u32 3345764771)),(44,Operand.const (Value.int IntKind.u32 3516065817)),(45,Operand.const (Value.int IntKind.u32 3600352804)),(46,Operand.const (Value.int IntKind.u32 4094571909)),(47,Operand.const (Value.int IntKind.u32 275423344)),(48,Operand.const (Value.int IntKind.u32 430227734)),(49,Operand.const (Value.int IntKind.u32 506948616)),(50,Operand.const (Value.int IntKind.u32 659060556)),(51,Operand.const (Value.int IntKind.u32 883997877)),(52,Operand.const (Value.int IntKind.u32 958139571)),(53,Operand.const (Value.int IntKind.u32 1322822218)),(54,Operand.const (Value.int IntKind.u32 1537002063)),(55,Operand.const (Value.int IntKind.u32 1747873779)),(56,Operand.const (Value.int IntKind.u32 1955562222)),(57,Operand.const (Value.int IntKind.u32 2024104815)),(58,Operand.const (Value.int IntKind.u32 2227730452)),(59,Operand.const (Value.int IntKind.u32 2361852424)),(60,Operand.const (Value.int IntKind.u32 2428436474)),(61,Operand.const (Value.int IntKind.u32 2756734187)),(62,Operand.const (Value.int IntKind.u32 3204031479)),(63,Operand.const (Value.int IntKind.u32 3329325298))],ty,pos,af,gd⟩ a w K Q=K (a.put dst (.agg kL.toArray)) w:=by
 unfold Oper.wp execOp
 have hr:=run_build (P:=Tryz.prog) w 116 #[(0,a.eval (Operand.const (Value.int IntKind.u32 1116352408))),(1,a.eval (Operand.const (Value.int IntKind.u32 1899447441))),(2,a.eval (Operand.const (Value.int IntKind.u32 3049323471))),(3,a.eval (Operand.const (Value.int IntKind.u32 3921009573))),(4,a.eval (Operand.const (Value.int IntKind.u32 961987163))),(5,a.eval (Operand.const (Value.int IntKind.u32 1508970993))),(6,a.eval (Operand.const (Value.int IntKind.u32 2453635748))),(7,a.eval (Operand.const (Value.int IntKind.u32 2870763221))),(8,a.eval (Operand.const (Value.int IntKind.u32 3624381080))),(9,a.eval (Operand.const (Value.int IntKind.u32 310598401))),(10,a.eval (Operand.const (Value.int IntKind.u32 607225278))),(11,a.eval (Operand.const (Value.int IntKind.u32 1426881987))),(12,a.eval (Operand.const (Value.int IntKind.u32 1925078388))),(13,a.eval (Operand.const (Value.int IntKind.u32 2162078206))),(14,a.eval (Operand.const (Value.int IntKind.u32 2614888103))),(15,a.eval (Operand.const (Value.int IntKind.u32 3248222580))),(16,a.eval (Operand.const (Value.int IntKind.u32 3835390401))),(17,a.eval (Operand.const (Value.int IntKind.u32 4022224774))),(18,a.eval (Operand.const (Value.int IntKind.u32 264347078))),(19,a.eval (Operand.const (Value.int IntKind.u32 604807628))),(20,a.eval (Operand.const (Value.int IntKind.u32 770255983))),(21,a.eval (Operand.const (Value.int IntKind.u32 1249150122))),(22,a.eval (Operand.const (Value.int IntKind.u32 1555081692))),(23,a.eval (Operand.const (Value.int IntKind.u32 1996064986))),(24,a.eval (Operand.const (Value.int IntKind.u32 2554220882))),(25,a.eval (Operand.const (Value.int IntKind.u32 2821834349))),(26,a.eval (Operand.const (Value.int IntKind.u32 2952996808))),(27,a.eval (Operand.const (Value.int IntKind.u32 3210313671))),(28,a.eval (Operand.const (Value.int IntKind.u32 3336571891))),(29,a.eval (Operand.const (Value.int IntKind.u32 3584528711))),(30,a.eval (Operand.const (Value.int IntKind.u32 113926993))),(31,a.eval (Operand.const (Value.int IntKind.u32 338241895))),(32,a.eval (Operand.const (Value.int IntKind.u32 666307205))),(33,a.eval (Operand.const (Value.int IntKind.u32 773529912))),(34,a.eval (Operand.const (Value.int IntKind.u32 1294757372))),(35,a.eval (Operand.const (Value.int IntKind.u32 1396182291))),(36,a.eval (Operand.const (Value.int IntKind.u32 1695183700))),(37,a.eval (Operand.const (Value.int IntKind.u32 1986661051))),(38,a.eval (Operand.const (Value.int IntKind.u32 2177026350))),(39,a.eval (Operand.const (Value.int IntKind.u32 2456956037))),(40,a.eval (Operand.const (Value.int IntKind.u32 2730485921))),(41,a.eval (Operand.const (Value.int IntKind.u32 2820302411))),(42,a.eval (Operand.const (Value.int IntKind.u32 3259730800))),(43,a.eval (Operand.const (Value.int IntKind.u32 3345764771))),(44,a.eval (Operand.const (Value.int IntKind.u32 3516065817))),(45,a.eval (Operand.const (Value.int IntKind.u32 3600352804))),(46,a.eval (Operand.const (Value.int IntKind.u32 4094571909))),(47,a.eval (Operand.const (Value.int IntKind.u32 275423344))),(48,a.eval (Operand.const (Value.int IntKind.u32 430227734))),(49,a.eval (Operand.const (Value.int IntKind.u32 506948616))),(50,a.eval (Operand.const (Value.int IntKind.u32 659060556))),(51,a.eval (Operand.const (Value.int IntKind.u32 883997877))),(52,a.eval (Operand.const (Value.int IntKind.u32 958139571))),(53,a.eval (Operand.const (Value.int IntKind.u32 1322822218))),(54,a.eval (Operand.const (Value.int IntKind.u32 1537002063))),(55,a.eval (Operand.const (Value.int IntKind.u32 1747873779))),(56,a.eval (Operand.const (Value.int IntKind.u32 1955562222))),(57,a.eval (Operand.const (Value.int IntKind.u32 2024104815))),(58,a.eval (Operand.const (Value.int IntKind.u32 2227730452))),(59,a.eval (Operand.const (Value.int IntKind.u32 2361852424))),(60,a.eval (Operand.const (Value.int IntKind.u32 2428436474))),(61,a.eval (Operand.const (Value.int IntKind.u32 2756734187))),(62,a.eval (Operand.const (Value.int IntKind.u32 3204031479))),(63,a.eval (Operand.const (Value.int IntKind.u32 3329325298)))] _ zOE
 simp only [List.map_toArray,List.map_cons,List.map_nil,Sem.run_bind,hr,Result.andThen_ok]
 rfl
theorem i64k:(Tryz.prog.info? 116).map (·.size)=some 64:=by kernel_rfl
theorem zOh (dst:Option Tmp) (x y:Operand) (ty:TypeId) (pos:String) (af:Array Edge) (a:Act) (w:World) (K:Act→World→Prop) (Q:Exit→Act→World→Prop)
  (hp:zAz (a.eval x)=true) (hy:zA5 (a.eval y)=true) (ht:zY 64 w (zAM (a.eval x)) (zAN (a.eval x))) (hc:zAQ 64 (zAn (a.eval y))) :
  Oper.wp Tryz.prog ⟨dst,.store 116 x y,ty,pos,af,none⟩ a w K Q=K (a.put dst undef) (w.setCells (zAM (a.eval x)) (zAN (a.eval x)) (zAn (a.eval y))) :=
 zBP i64k dst x y ty pos af a w K Q hp hy ht hc
theorem zNU {w:World} {b:Nat} {cs:List Value} (h:zY 64 w b 0) (hc:zAQ 64 cs):(loadVar 116 ⟨b,0,none⟩).run Tryz.prog (w.setCells b 0 cs)=.ok (.agg cs.toArray) (w.setCells b 0 cs):=by
 have h2:=zCl h b 0 cs
 refine run_loadVar_mid _ b 0 _ cs _ ?_ Tryz.underlying116 rfl (by rw [hc.1];exact i64k)
 have:=zAB h2
 rwa [zCa h hc] at this
attribute [local go_sem ↓] Go.wp_at_zero Go.wp_at_succ
attribute [local go_sem ↓] zIa zHL zOC zOh
attribute [local go_sem] ptrB_eq ptrO_eq ptrIs_eq aggL_eq aggIs_eq
attribute [local irreducible] kL
set_option maxRecDepth 100000 in
theorem zI6 (w:World):Calls Tryz.prog 232 #[] w fun e w'=>e=.returned (.agg (hV h0).toArray)∧Below w.heap.size w w':=by
 go_enter Tryz.func232,Tryz.ntmps232
 go_wp2_with fail
 rw [show #[Value.int IntKind.u32 1779033703,.int .u32 3144134277,.int .u32 1013904242,.int .u32 2773480762,.int .u32 1359893119,.int .u32 2600822924,.int .u32 528734635,.int .u32 1541459225]=(hV h0).toArray from rfl]
 have hr:(w.alloc (.cells (hV h0).toArray 118)).rangeAt w.heap.size 0 (hV h0):=fun j v hj=>by
  rw [(Blk.new w (hV h0).toArray 118).cell,Nat.zero_add,List.getElem?_toArray];exact hj
 have hl:=run_loadVar_mid (P:=Tryz.prog) (w.alloc (.cells (hV h0).toArray 118)) w.heap.size 0 118 (hV h0) _ hr Tryz.underlying118 rfl (by rw [i8h];rfl)
 exact bodyPost_ret (v:=.agg (hV h0).toArray) (by simp [results,Tryz.results232,asAddr,hl]) rfl ⟨rfl,(Below.refl _ _).alloc (Nat.le_refl _) _⟩
set_option maxRecDepth 100000 in
theorem zKJ (w:World):Calls Tryz.prog 233 #[] w fun e w'=>e=.returned (.agg kL.toArray)∧Below w.heap.size w w':=by
 have hka:=kL_all
 have hkl:=zCm
 go_enter Tryz.func233,Tryz.ntmps233
 go_upto_region 1 with fail
 obtain ⟨w0,hw0⟩:∃ q,q=w.alloc (.cells #[Value.int IntKind.u32 0,.int .u32 0,.int .u32 0,.int .u32 0,.int .u32 0,.int .u32 0,.int .u32 0,.int .u32 0,.int .u32 0,.int .u32 0,.int .u32 0,.int .u32 0,.int .u32 0,.int .u32 0,.int .u32 0,.int .u32 0,.int .u32 0,.int .u32 0,.int .u32 0,.int .u32 0,.int .u32 0,.int .u32 0,.int .u32 0,.int .u32 0,.int .u32 0,.int .u32 0,.int .u32 0,.int .u32 0,.int .u32 0,.int .u32 0,.int .u32 0,.int .u32 0,.int .u32 0,.int .u32 0,.int .u32 0,.int .u32 0,.int .u32 0,.int .u32 0,.int .u32 0,.int .u32 0,.int .u32 0,.int .u32 0,.int .u32 0,.int .u32 0,.int .u32 0,.int .u32 0,.int .u32 0,.int .u32 0,.int .u32 0,.int .u32 0,.int .u32 0,.int .u32 0,.int .u32 0,.int .u32 0,.int .u32 0,.int .u32 0,.int .u32 0,.int .u32 0,.int .u32 0,.int .u32 0,.int .u32 0,.int .u32 0,.int .u32 0,.int .u32 0] 116):=⟨_,rfl⟩
 have h0:zY 64 w0 w.heap.size 0:=by
  rw [hw0];exact zJW (by simp) _ _
 have hb:Below w.heap.size w w0:=by
  rw [hw0];exact (Below.refl _ _).alloc (Nat.le_refl _) _
 rw [← hw0]
 clear hw0
 have HLD:=Lib.hid (zNU h0 hka)
 have HB:=Lib.hid hb
 clear hb
 go_wp2_with fail
 refine bodyPost_ret (v:=.agg kL.toArray) (by simp [results,Tryz.results233,asAddr,HLD.out]) rfl ⟨rfl,?_⟩
 exact (Chg.setCells (S:=fun b=>b=w.heap.size) (L:=w.heap.size) rfl _ _ _ (Chg.of_below HB.out)).below (Nat.le_refl _) (fun k hk=>by rw [hk];exact Nat.le_refl _)
def zNl:Value→Nat
 | .slice _ n _=>n
 | _=>0
def zCT (h:H8) (u:Value) (n:Int):List Value:=hV h++(kL++[u,.int .i64 n])
theorem zHG (h:H8) (u:Value) (n:Int):(zCT h u n).length=74:=by
 unfold zCT
 rw [List.length_append,List.length_append,zCm];rfl
theorem zNn (h:H8) (u:Value) (n:Int) {i:Nat} (hi:i < 8):(zCT h u n)[i]?=(hV h)[i]?:=by
 unfold zCT
 rw [List.getElem?_append_left hi]
theorem shaV_k (h:H8) (u:Value) (n:Int) {i:Nat} (hi:i < 64):(zCT h u n)[8+i]?=some (.int .u32 (wz (kT.getD i 0))):=by
 have hl:(hV h).length=8:=rfl
 unfold zCT
 rw [List.getElem?_append_right (by omega),hl,show 8+i - 8=i from by omega,List.getElem?_append_left (by rw [zCm];exact hi),kL_get hi]
theorem shaV_u (h:H8) (u:Value) (n:Int):(zCT h u n)[72]?=some u:=by
 have hl:(hV h).length=8:=rfl
 unfold zCT
 rw [List.getElem?_append_right (by omega),hl,List.getElem?_append_right (by rw [zCm];omega),zCm];rfl
theorem shaV_n (h:H8) (u:Value) (n:Int):(zCT h u n)[73]?=some (.int .i64 n):=by
 have hl:(hV h).length=8:=rfl
 unfold zCT
 rw [List.getElem?_append_right (by omega),hl,List.getElem?_append_right (by rw [zCm];omega),zCm];rfl
theorem zMh (h:H8) (u v:Value) (n:Int):(zCT h u n).toArray.setIfInBounds 72 v=(zCT h v n).toArray:=by
 have hl:(hV h).length=8:=rfl
 unfold zCT
 rw [List.setIfInBounds_toArray,List.set_append_right _ _ (by omega),hl,List.set_append_right _ _ (by rw [zCm];omega),zCm];rfl
theorem zMg (h:H8) (u:Value) (n m:Int):(zCT h u n).toArray.setIfInBounds 73 (.int .i64 m)=(zCT h u m).toArray:=by
 have hl:(hV h).length=8:=rfl
 unfold zCT
 rw [List.setIfInBounds_toArray,List.set_append_right _ _ (by omega),hl,List.set_append_right _ _ (by rw [zCm];omega),zCm];rfl
def zAU (w:World) (b:Nat) (h:H8) (u:Value) (n:Int):Prop:=Blk w b (zCT h u n).toArray 276
section
variable {w w':World} {b:Nat} {h:H8} {u:Value} {n:Int}
theorem zAU.read (s:zAU w b h u n):zN 8 w b 0=hV h:=zCE s rfl fun k hk=>by
 rw [Nat.zero_add,List.getElem?_toArray,zNn h u n hk]
theorem zAU.has (s:zAU w b h u n):zY 8 w b 0:=zL s (by simp [zHG])
theorem zAU.range (s:zAU w b h u n):w.rangeAt b 0 (hV h):=by
 have:=zAB s.has
 rwa [s.read] at this
theorem zAU.ck (s:zAU w b h u n):KAt w b 8:=⟨Blk.lt s,fun i hi=>by rw [Blk.cell s,List.getElem?_toArray,shaV_k h u n hi]⟩
theorem zAU.cu (s:zAU w b h u n):w.cell? ⟨b,72,none⟩=some u:=by rw [Blk.cell s,List.getElem?_toArray,shaV_u]
theorem zAU.cn (s:zAU w b h u n):w.cell? ⟨b,73,none⟩=some (.int .i64 n):=by rw [Blk.cell s,List.getElem?_toArray,shaV_n]
theorem zAU.setu (s:zAU w b h u n) (v:Value):zAU (w.setCell ⟨b,72,none⟩ v) b h v n:=by
 have:=Blk.set s 72 v
 rwa [zMh] at this
theorem zAU.setn (s:zAU w b h u n) (m:Int):zAU (w.setCell ⟨b,73,none⟩ (.int .i64 m)) b h u m:=by
 have:=Blk.set s 73 (.int .i64 m)
 rwa [zMg] at this
theorem zAU.seth (s:zAU w b h u n) (h':H8):zAU (w.setCells b 0 (hV h')) b h' u n:=by
 obtain ⟨arr,h1,h2,h3⟩:=Blk.setCells (hV h') 0 _ _ s
 have e:arr=(zCT h' u n).toArray:=by
  apply Array.ext_getElem?
  intro k
  have hl:(hV h').length=8:=rfl
  have hl2:(zCT h u n).toArray.size=74:=by simp [zHG]
  rcases Nat.lt_or_ge k 74 with hk | hk
  · rw [h3 k (by omega)]
    rcases Nat.lt_or_ge k 8 with h8 | h8
    · rw [if_pos ⟨Nat.zero_le _,by omega⟩,Nat.sub_zero,List.getElem?_toArray,zNn h' u n h8]
    · rw [if_neg (by omega),List.getElem?_toArray,List.getElem?_toArray]
      unfold zCT
      have a1:(hV h').length≤k:=h8
      have a2:(hV h).length≤k:=h8
      rw [List.getElem?_append_right a1,List.getElem?_append_right a2];rfl
  · rw [Array.getElem?_eq_none (by omega),Array.getElem?_eq_none (by simp [zHG];omega)]
 rw [e] at h1
 exact h1
theorem zAU.below (s:zAU w b h u n) (hb:Below w.heap.size w w'):zAU w' b h u n:=Blk.kept s hb
end
attribute [local irreducible] zCT
theorem zL0:Tryz.prog.built 276 [(0,.agg (hV h0).toArray),(1,.agg kL.toArray)]=some (zCT h0 (.slice none 0 0) 0).toArray:=by kernel_rfl
theorem zLy (dst:Option Tmp) (x y:Operand) (ty:TypeId) (pos:String) (af:Array Edge) (gd:Option (Tmp × Bool)) (a:Act) (w:World) (K:Act→World→Prop) (Q:Exit→Act→World→Prop)
  (h1:a.eval x=.agg (hV h0).toArray) (h2:a.eval y=.agg kL.toArray) :
  Oper.wp Tryz.prog ⟨dst,.build 276 #[(0,x),(1,y)],ty,pos,af,gd⟩ a w K Q=K (a.put dst (.agg (zCT h0 (.slice none 0 0) 0).toArray)) w:=by
 unfold Oper.wp execOp
 have hr:=run_build (P:=Tryz.prog) w 276 #[(0,a.eval x),(1,a.eval y)] _ (by rw [h1,h2];exact zL0)
 simp only [List.map_toArray,List.map_cons,List.map_nil,Sem.run_bind,hr,Result.andThen_ok]
 rfl
attribute [local go_sem ↓] zLy
set_option maxRecDepth 100000 in
theorem zIl (w:World):Calls Tryz.prog 214 #[] w fun e w'=>∃ b,e=.returned (.pointer (some ⟨b,0,none⟩))∧zAU w' b h0 (.slice none 0 0) 0∧w.heap.size≤b∧Below w.heap.size w w':=by
 go_enter Tryz.func214,Tryz.ntmps214
 go_wp2_with fail
 refine (zI6 w).mono ?_
 rintro e w1 ⟨rfl,hb1⟩
 obtain ⟨c0,hc0⟩:∃ q,q=(hV h0).toArray:=⟨_,rfl⟩
 have HC:=Lib.hid hc0
 rw [← hc0]
 clear hc0
 go_wp2_with fail
 refine (zKJ w1).mono ?_
 rintro e w2 ⟨rfl,hb2⟩
 have e0:c0=(hV h0).toArray:=HC.out
 subst e0
 have HB:=Lib.hid (hb1.trans (hb2.mono hb1.size))
 clear hb1 hb2
 go_wp2_with fail
 go_ret
 exact ⟨_,rfl,Blk.new _ _ _,HB.out.size,HB.out.alloc HB.out.size _⟩
theorem zI9 {w:World} {ub uo m uc:Nat} {bs:List UInt8} (h:Bys w (.slice (some ⟨ub,uo,none⟩) m uc) bs) (k:Nat) (hk:0 < k) (hkl:k≤bs.length):Bys w (.slice (if uc=k then some ⟨ub,uo,none⟩ else some ⟨ub,uo+k,none⟩) (m - k) (uc - k)) (bs.drop k):=by
 obtain ⟨a',c',e,g1,g2,g3⟩:=h
 injection e with e1 e2 e3
 obtain ⟨b',o',e4,g4⟩:=g3 (by omega)
 rw [← e1] at e4
 injection e4 with e4
 injection e4 with e5 e6
 subst e2
 subst e3
 refine ⟨_,uc - k,by rw [List.length_drop],by rw [List.length_drop];omega,by omega,fun hp=>?_⟩
 rw [List.length_drop] at hp
 rw [if_neg (by omega)]
 refine ⟨_,_,rfl,fun i u hi=>?_⟩
 rw [List.getElem?_drop] at hi
 rw [Nat.add_assoc,e5,e6]
 exact g4 _ _ hi
def Past (b:Nat) (v:Value):Prop:=∀ a n c,v=.slice (some a) n c→b < a.block
set_option maxRecDepth 100000 in
set_option maxHeartbeats 4000000 in
theorem zHH (w0 w:World) (b:Nat) (v:Value) (bs:List UInt8) (hs:zAU w b h0 (.slice none 0 0) 0) (hb0:Below w0.heap.size w0 w) (hge:w0.heap.size≤b) (hv:Bys w0 v bs) (hl:bs.length≤100000000) :
  Calls Tryz.prog 215 #[.pointer (some ⟨b,0,none⟩),v] w fun e w'=>e=.returned (.int .i64 (bs.length:Nat))∧∃ u,zAU w' b (zBt (bs.length / 64) h0 bs) u (bs.length:Nat)∧Bys w' u (bs.drop (64*(bs.length / 64)))∧Past b u∧Below w0.heap.size w0 w':=by
 obtain ⟨va,vc,rfl⟩:=hv.eq_slice
 obtain ⟨l,hll⟩:∃ l,l=bs.length:=⟨_,rfl⟩
 rw [← hll] at hv hl ⊢
 obtain ⟨q,hq⟩:∃ q,q=l / 64:=⟨_,rfl⟩
 rw [← hq]
 have c73:=hs.cn
 have f73:=Blk.free hs 73
 have f72:=Blk.free hs 72
 have hlt:=Blk.lt hs
 have H:=Lib.hid (And.intro hv (And.intro hb0 (And.intro hs hll)))
 clear hv hb0 hs hll
 go_enter Tryz.func215,Tryz.ntmps215
 go_upto_region 2 with fail
 have hs1:=H.out.2.2.1.setn (l:Int)
 have hb1:Below w0.heap.size w0 (w.setCell ⟨b,73,none⟩ (.int .i64 (l:Int))):=H.out.2.1.setCell hge _
 have hz1:(w.setCell ⟨b,73,none⟩ (.int .i64 (l:Int))).heap.size=w.heap.size:=by simp
 obtain ⟨w1,hw1⟩:∃ q,q=w.setCell ⟨b,73,none⟩ (.int .i64 (l:Int)):=⟨_,rfl⟩
 rw [← hw1] at hs1 hb1 hz1 ⊢
 have c72:=hs1.cu
 have H1:=Lib.hid (And.intro hs1 hb1)
 clear hs1 hb1 hw1 c73 f73
 go_wp2_with (at_builtin;refine zEc E8c rfl _ _ rfl (base:=b+1) (bs:=[]) (news:=[]) rfl rfl (zl.nil _ _ _) (Bys.nil _) ?q1 ?q2 ?_)
 case q1=>simp
 case q2=>omega
 intro v2 w2 ho2 hg2
 have hb2:Below w1.heap.size w1 w2:=zAj hg2 rfl
 have H2:=Lib.hid (And.intro (H1.out.1.below hb2) (And.intro (H1.out.2.trans (hb2.mono H1.out.2.size)) hb2.size))
 have hl2:=ho2.lt
 clear hg2 hb2
 go_wp2_with (at_builtin;refine zEc E8c rfl _ _ rfl (base:=b+1) (bs:=[]) (news:=bs) rfl rfl ho2 (H.out.1.below H2.out.2.1) ?q3 ?q4 ?_)
 case q3=>have:=H.out.2.2.2;simp;omega
 case q4=>have:=H2.out.2.2;omega
 intro v3 w3 ho3 hg3
 have hb3:=zg H2.out.2.1 hg3 (fun k hk=>by have:=(hl2 k hk).1;omega)
 have hs3:zAU w3 b h0 (.slice none 0 0) (l:Int):=(Chg.grown (S:=fun k=>v2.ownBlock=some k) (Chg.refl _ _) hg3 (fun _ hq=>.inl hq)).blk H2.out.1 (fun e=>by have:=(hl2 b e).1;omega)
 have hp3:Past b v3:=fun a n c e=>(ho3.lt a.block (by rw [e];rfl)).1
 have H3:=Lib.hid (And.intro ho3.bys (And.intro hp3 (And.intro hs3 hb3)))
 clear ho2 hl2 hg3 ho3 hp3 hs3 hb3
 go_upto_region 3 with fail
 go_loopw [5] (fun v5 wr=>∃ i:Nat,i≤q∧Hid (Bys wr v5 (bs.drop (64*i))∧Past b v5∧zAU wr b (zBt i h0 bs) (.slice none 0 0) (l:Int)∧Below w0.heap.size w0 wr)) (fun v5 _=>zNl v5)
 case atStart=>exact ⟨0,Nat.zero_le _,H3.out⟩
 case round =>
  obtain ⟨i,hi0,G⟩:=hrel
  obtain ⟨ua,uc,eu⟩:=G.out.1.eq_slice
  obtain ⟨m,hm⟩:∃ m,m=(bs.drop (64*i)).length:=⟨_,rfl⟩
  have hm2:m=l - 64*i:=by rw [hm,List.length_drop,← H.out.2.2.2]
  rw [← hm] at eu
  subst eu
  by_cases hin:i < q
  · have m1:(64:Int)≤(m:Int):=by omega
    have m2:decide ((64:Int)≤(m:Int))=true:=by simpa using m1
    have m3:64≤m:=by omega
    obtain ⟨ub,uo,rfl,hmc,hcm⟩:∃ ub uo,ua=some ⟨ub,uo,none⟩∧m≤uc∧uc≤maxLen:=by
     obtain ⟨a',c',e,g1,g2,g3⟩:=G.out.1
     obtain ⟨b',o',e',_⟩:=g3 (by omega)
     injection e with e1 e2 e3
     exact ⟨b',o',by rw [e1,e'],by omega,by omega⟩
    unfold maxLen at hcm
    have hby:=(G.out.1.take 64 (by omega))
    have hbd:(bs.drop (64*i)).take 64=(bs.drop (64*i)).take 64:=rfl
    have m4:(64:Int)≤(uc:Int):=by omega
    have m5:64≤uc:=by omega
    have m6:(m:Int)≤(uc:Int):=by omega
    have HM:=Lib.hid (And.intro hm (And.intro hm2 hby))
    clear hm hm2 hby hbd
    obtain ⟨hc,hhc⟩:∃ x,x=zBt i h0 bs:=⟨_,rfl⟩
    have hmx:=G.out.2.2.1
    rw [← hhc] at hmx
    have hnx:Hid (zBt (i+1) h0 bs=mix hc ((bs.drop (64*i)).take 64)):=by
     show _=_
     rw [zHu,hhc]
    have hcall:∀ w',w'=wr.drew→Calls Tryz.prog 234 #[.agg (hV hc).toArray,.pointer (some ⟨b,8,none⟩),.slice (some ⟨ub,uo,none⟩) 64 uc] w' fun e w''=>∃ v',e=.returned v'∧(v'=.agg (hV (mix hc ((bs.drop (64*i)).take 64))).toArray∧Below wr.heap.size wr w''):=fun w' e=>by
     subst e
     refine (zHv hc b 8 _ ((bs.drop (64*i)).take 64) wr.drew (by exact hmx.ck) HM.out.2.2 (by rw [List.length_take];have:=HM.out.1;omega)).mono ?_
     rintro e w'' ⟨rfl,hb⟩
     exact ⟨_,rfl,rfl,zBO hb rfl⟩
    obtain ⟨ch,hch⟩:∃ q,q=hV hc:=⟨_,rfl⟩
    have hchl:ch.length=8:=by rw [hch];rfl
    have hr0:wr.rangeAt b 0 ch:=by rw [hch];exact hmx.range
    obtain ⟨cm,hcm2⟩:∃ q,q=hV (mix hc ((bs.drop (64*i)).take 64)):=⟨_,rfl⟩
    rw [← hch,← hcm2] at hcall
    have hca:=zKp (mix hc ((bs.drop (64*i)).take 64))
    rw [← hcm2] at hca
    have hRr:∀ w',Below wr.heap.size wr w'→w'.rangeAt b 0 ch:=fun w' hb=>by rw [hch];exact (hmx.below hb).range
    have HMX:=Lib.hid (And.intro hmx (And.intro hhc hcm2))
    clear hmx hhc hch hcm2
    go_upto_region 4 with fail
    refine Tail.zAa 13 10 (fun w'=>w'=wr.drew) (fun vo w'=>vo=.agg cm.toArray∧Below wr.heap.size wr w') (by kernel_rfl) (by kernel_rfl) (by decide) rfl ?_ (fun z hz=>?_)
    · obtain ⟨e,w',fr,⟨vo,rfl,h⟩,_⟩:=hcall wr.drew rfl []
      exact ⟨vo,w',h⟩
    simp only [List.take_succ_cons,List.take_zero,List.drop_succ_cons,List.drop_zero]
    clear hz
    iterate 4
     refine Tail.zBq (by decide) (by rfl) ?_
     apply Exists.intro
     refine ⟨fun w=>?_,?_⟩
     · go_simp <;> with_reducible rfl
     simp only [Act.put,List.setIfInBounds_toArray,List.set_cons_zero,List.set_cons_succ]
    refine Tail.zDG (by decide) (by rfl) _ _ rfl b 0 rfl ch (fun w h=>by rw [h];exact hr0) (fun w h=>hRr w h.2) Tryz.underlying118 rfl (by rw [i8h,hchl]) ?_
    simp only [Act.put,List.setIfInBounds_toArray,List.set_cons_zero,List.set_cons_succ]
    iterate 5
     refine Tail.zBq (by decide) (by rfl) ?_
     apply Exists.intro
     refine ⟨fun w=>?_,?_⟩
     · go_simp <;> with_reducible rfl
     simp only [Act.put,List.setIfInBounds_toArray,List.set_cons_zero,List.set_cons_succ]
    refine Tail.zDF (by rfl) (fun w hw=>?_) ?_
    · apply Exists.intro
      apply Exists.intro
      refine ⟨?_,hcall w hw⟩
      go_simp <;> with_reducible rfl
    simp only [Act.put,List.setIfInBounds_toArray,List.set_cons_zero,List.set_cons_succ]
    iterate 2
     refine Tail.zBq (by decide) (by rfl) ?_
     apply Exists.intro
     refine ⟨fun w=>?_,?_⟩
     · go_simp <;> with_reducible rfl
     simp only [Act.put,List.setIfInBounds_toArray,List.set_cons_zero,List.set_cons_succ]
    intro w' hw'
    obtain ⟨rfl,hbw⟩:=hw'
    have hs':zAU w' b hc (.slice none 0 0) (l:Int):=HMX.out.1.below hbw
    have h8:zY 8 w' b 0:=hs'.has
    have HS:=Lib.hid (And.intro hs' (And.intro (G.out.2.2.2.trans (hbw.mono G.out.2.2.2.size)) (G.out.1.below hbw)))
    clear hs' hbw hcall hr0 hRr
    go_wp2_with fail
    refine ⟨⟨i+1,by omega,?_,?_,?_,?_⟩,?_⟩
    · have h1:=zI9 HS.out.2.2 64 (by omega) (by rw [← HM.out.1];exact m3)
      rw [List.drop_drop,show 64*i+64=64*(i+1) from by omega] at h1
      exact h1.chg (Chg.setCells (S:=fun k=>k=b) (L:=b) rfl _ _ _ (Chg.refl _ _)) (fun a n c e hS=>by
       have hS':a.block=b:=hS
       have hp:b < ub:=G.out.2.1 _ _ _ rfl
       injection e with e1 _ _
       split at e1 <;> (injection e1 with e1;rw [← e1] at hS';have e2:ub=b:=hS';omega))
    · intro a n c e
      have hp:b < ub:=G.out.2.1 _ _ _ rfl
      injection e with e1 _ _
      split at e1 <;> (injection e1 with e1;rw [← e1];exact hp)
    · rw [hnx.out,HMX.out.2.2]
      exact HS.out.1.seth _
    · exact (Chg.setCells (S:=fun k=>k=b) (L:=b) rfl _ _ _ (Chg.of_below HS.out.2.1)).below (Nat.le_refl _) (fun k hk=>by rw [hk];exact hge)
    · show m - 64 < m
      omega
  · obtain rfl:i=q:=by omega
    have m1:¬ (64:Int)≤(m:Int):=by omega
    have m2:decide ((64:Int)≤(m:Int))=false:=by simpa using m1
    have c73:=G.out.2.2.1.cn
    have c72:=G.out.2.2.1.cu
    have f72:=Blk.free G.out.2.2.1 72
    clear hm hm2
    go_wp2_with fail
    go_ret
    rw [← hq]
    refine ⟨rfl,.slice ua m uc,G.out.2.2.1.setu _,?_,G.out.2.1,G.out.2.2.2.setCell hge _⟩
    exact G.out.1.chg (S:=fun k=>k=b) (Chg.set (S:=fun k=>k=b) (a:=⟨b,72,none⟩) (Chg.refl _ _) rfl _) (fun a n c e hS=>by
     have hS':a.block=b:=hS
     have:=G.out.2.1 a n c e
     omega)
end Go.Proofs.YtbbojbdigiibbaaGreatDoor
end
