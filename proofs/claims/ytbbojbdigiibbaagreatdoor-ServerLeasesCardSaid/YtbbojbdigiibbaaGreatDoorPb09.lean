/- Texts of this proof,packed: LeaWake,Ints,Open,OpenS,Some,LeaTwo,TailNew,TailAny,RegJ,SrvMem,RefMath,Ref01,SrvName. -/
import Derived.Test.YtbbojbdigiibbaaGreatDoorPb08
import Derived.Test.YtbbojbdigiibbaaGreatDoorPb00
import Derived.WalkKit
import Derived.ProofKit
import Derived.ChangeOld
import Derived.Deep.SlicePairs
import Derived.OpenShut
import Derived.Laws.StructEq
import Derived.Test.YtbbojbdigiibbaaGreatDoorPb02
import Derived.Deep.MidRow
import Derived.Deep.RegionHeld3
import Derived.Test.YtbbojbdigiibbaaGreatDoorPb06
import Derived.Test.YtbbojbdigiibbaaGreatDoorPb01
section
namespace Lea
def z16:Key:=List.replicate 16 0
end Lea
namespace Go.Proofs.YtbbojbdigiibbaaGreatDoor
open Go Go.RowKit Go.Mem Gf Lea
def zEs (v:Value):Array Value:=(v::List.replicate 15 (.int .u8 0)).toArray
def isU8:Value→Bool
 | .int .u8 _=>true
 | _=>false
def zNy:Value→Bool
 | .int .i64 _=>true
 | _=>false
@[simp] theorem isU8_eq (n:Int):isU8 (.int .u8 n)=true:=rfl
@[simp] theorem isI64_eq (n:Int):zNy (.int .i64 n)=true:=rfl
theorem zNd (n:Int):Tryz.prog.built 39 [(0,.int .u8 n)]=some (zEs (.int .u8 n)):=by kernel_rfl
theorem zOo:Tryz.prog.built 39 []=some (zEs (.int .u8 0)):=by kernel_rfl
theorem zNe (n:Int):Tryz.prog.built 165 [(1,.int .i64 n)]=some (zEs (.int .u8 0)++#[.int .i64 n]):=by kernel_rfl
theorem zG1 (dst:Option Tmp) (x:Operand) (ty:TypeId) (pos:String) (af:Array Edge) (gd:Option (Tmp × Bool)) (a:Act) (w:World) (K:Act→World→Prop) (Q:Exit→Act→World→Prop) (h:isU8 (a.eval x)=true) :
  Oper.wp Tryz.prog ⟨dst,.build 39 #[(0,x)],ty,pos,af,gd⟩ a w K Q=K (a.put dst (.agg (zEs (a.eval x)))) w:=by
 unfold Oper.wp execOp
 have e:∃ n,a.eval x=.int .u8 n:=by
  unfold isU8 at h
  split at h
  · rename_i n e;exact ⟨n,e⟩
  · cases h
 obtain ⟨n,e⟩:=e
 have hr:=run_build (P:=Tryz.prog) w 39 #[(0,a.eval x)] (zEs (a.eval x)) (by rw [e];exact zNd n)
 simp only [List.map_toArray,List.map_cons,List.map_nil,Sem.run_bind,hr,Result.andThen_ok]
 rfl
theorem zOm (dst:Option Tmp) (ty:TypeId) (pos:String) (af:Array Edge) (gd:Option (Tmp × Bool)) (a:Act) (w:World) (K:Act→World→Prop) (Q:Exit→Act→World→Prop) :
  Oper.wp Tryz.prog ⟨dst,.build 39 #[],ty,pos,af,gd⟩ a w K Q=K (a.put dst (.agg (zEs (.int .u8 0)))) w:=by
 unfold Oper.wp execOp
 have hr:=run_build (P:=Tryz.prog) w 39 #[] (zEs (.int .u8 0)) zOo
 simp only [List.map_toArray,List.map_nil,Sem.run_bind,hr,Result.andThen_ok]
 rfl
theorem zNb (dst:Option Tmp) (x:Operand) (ty:TypeId) (pos:String) (af:Array Edge) (gd:Option (Tmp × Bool)) (a:Act) (w:World) (K:Act→World→Prop) (Q:Exit→Act→World→Prop) (h:zNy (a.eval x)=true) :
  Oper.wp Tryz.prog ⟨dst,.build 165 #[(1,x)],ty,pos,af,gd⟩ a w K Q=K (a.put dst (.agg (zEs (.int .u8 0)++#[a.eval x]))) w:=by
 unfold Oper.wp execOp
 have e:∃ n,a.eval x=.int .i64 n:=by
  unfold zNy at h
  split at h
  · rename_i n e;exact ⟨n,e⟩
  · cases h
 obtain ⟨n,e⟩:=e
 have hr:=run_build (P:=Tryz.prog) w 165 #[(1,a.eval x)] (zEs (.int .u8 0)++#[a.eval x]) (by rw [e];exact zNe n)
 simp only [List.map_toArray,List.map_cons,List.map_nil,Sem.run_bind,hr,Result.andThen_ok]
 rfl
theorem zED (dst:Option Tmp) (x y:Operand) (ty:TypeId) (pos:String) (af:Array Edge) (a:Act) (w:World) (K:Act→World→Prop) (Q:Exit→Act→World→Prop)
  (h1:(a.eval x).cells.size=16) (h2:(a.eval y).cells.size=1) :
  Oper.wp Tryz.prog ⟨dst,.build 165 #[(0,x),(1,y)],ty,pos,af,none⟩ a w K Q=K (a.put dst (.agg ((a.eval x).cells++(a.eval y).cells))) w :=
 zGc Tryz.underlying165 (by kernel_rfl) (by kernel_rfl) dst x y ty pos af a w K Q h1 h2
theorem zMI:z16.length=16:=by simp [z16]
attribute [local go_sem ↓] Go.wp_at_zero Go.wp_at_succ
attribute [local go_sem ↓] zG1 zOm zNb zED
attribute [local go_sem] isU8_eq isI64_eq
end Go.Proofs.YtbbojbdigiibbaaGreatDoor
namespace Go.Proofs.YtbbojbdigiibbaaGreatDoor
open Go Go.RowKit Go.Mem Gf Lea
section
variable {W wr w':World} {tb p6:Nat} {vt v':Value} {lt l':List Les}
end
end Go.Proofs.YtbbojbdigiibbaaGreatDoor
end
section
namespace Go.Mem
open Go Go.RowKit
section
variable {w w':World} {v:Value} {xs:List Int}
end
end Go.Mem
end
section
namespace Go.Mem
open Go Go.ChangeShapes Go.WideShapes Go.ChangeAt Go.RowKit
theorem byte_of_wf {x:Int} (h:(Lit.int .u8 x).wf=true):∃ n:Nat,n < 256∧x=(n:Int):=by
 simp [Lit.wf,IntKind.min,IntKind.max,IntKind.signed,IntKind.bits] at h
 exact ⟨x.toNat,by omega,by omega⟩
theorem zIC {x:Int} (h:(Lit.int .i64 x).wf=true):-9223372036854775808≤x∧x≤9223372036854775807:=by
 simp [Lit.wf,IntKind.min,IntKind.max,IntKind.signed,IntKind.bits] at h
 exact ⟨by omega,by omega⟩
theorem zH4 {w:World} {a:Addr} {v:Value} (h:w.cell? a=some v):a=⟨a.block,a.off,none⟩:=by
 obtain ⟨b,o,s⟩:=a
 unfold World.cell? at h
 cases s with
 | none=>rfl
 | some n =>
   split at h
   · simp at h
   · cases h
theorem add_plain (b off i:Nat):(⟨b,off,none⟩:Addr).add i=⟨b,off+i,none⟩:=by
 unfold Addr.add
 split
 · subst_vars;rfl
 · rfl
section
variable {P:Program} {H:Type} {enc:TypeId × Value→H} {W:World} {base:Nat}
theorem zN5 {t e:TypeId} {v:Value} {x:DataW H × List MemPlace} {spare:Nat→Bool} {held:Bool} (ht:P.underlying t=some (.slice e)) (he:P.underlying e=some (.int .u8)) (hc:P.cellsOf e=1)
  (hs:∃ a len cap,v=.slice a len cap) (h:∃ fuel,DataW.trod enc P W base spare held fuel t v.cells.toList=some x):∃ bs,Bys W v bs:=by
 obtain ⟨a,len,cap,rfl⟩:=hs
 obtain ⟨fuel,hf⟩:=h
 rcases open_ints ht he hc hf with ⟨hcs,_⟩ | ⟨a',len',cap',zs,hcs,_,hl,hm,hz,_,hcell,hwz⟩
 · simp [Value.cells] at hcs
   obtain ⟨rfl,rfl,rfl⟩:=hcs
   exact ⟨[],Bys.nil W⟩
 · simp [Value.cells] at hcs
   obtain ⟨rfl,rfl,rfl⟩:=hcs
   have hzl:len≤zs.length:=by rw [hz];split <;> omega
   have hlen:((zs.take len).map fun z=>UInt8.ofNat z.toNat).length=len:=by simp;omega
   refine ⟨(zs.take len).map fun z=>UInt8.ofNat z.toNat,some a',cap,by rw [hlen],by rw [hlen];exact hl,hm,fun hp=>?_⟩
   rw [hlen] at hp
   have h0:=hcell 0 (by omega)
   have ha:a'=⟨a'.block,a'.off,none⟩:=zH4 (a:=a') (by simpa [Addr.add] using h0)
   refine ⟨a'.block,a'.off,by rw [← ha],fun i u hi=>?_⟩
   have hil:i < len:=by
    rcases Nat.lt_or_ge i len with h | h
    · exact h
    · rw [List.getElem?_eq_none (by rw [hlen];exact h)] at hi;cases hi
   have hci:=hcell i (by omega)
   rw [ha,add_plain] at hci
   rw [hci]
   have hzi:zs[i]?=some zs[i]:=List.getElem?_eq_getElem (by omega)
   have hu:u=UInt8.ofNat zs[i].toNat:=by
    simp only [List.getElem?_map,List.getElem?_take,hil,if_true,hzi,Option.map_some,Option.some.injEq] at hi
    exact hi.symm
   have hw:=hwz zs[i] (List.getElem_mem _)
   obtain ⟨n,hn,hx⟩:=byte_of_wf hw
   rw [List.getD_eq_getElem?_getD,hzi,hu,hx]
   simp [UInt8.toNat_ofNat']
   omega
end
end Go.Mem
end
section
namespace Go.Mem
open Go Go.ChangeShapes Go.WideShapes Go.ChangeAt Go.RowKit Gf
def zBU (P:Program) (t:TypeId) {α:Type} (R:World→List Value→α→Prop):Prop :=
 ∀ {H:Type} {enc:TypeId × Value→H} {W:World} {base:Nat} {spare:Nat→Bool} {held:Bool} {fuel:Nat} {cs:List Value} {x:DataW H × List MemPlace},DataW.trod enc P W base spare held fuel t cs=some x→∃ d:α,R W cs d
section
variable {P:Program}
theorem zIK {t:TypeId} {k:IntKind} (ht:P.underlying t=some (.int k)):zBU P t (fun _ cs (z:Int)=>cs=[.int k z]∧(Lit.int k z).wf=true):=fun h=>by
 obtain ⟨z,h1,_,h2⟩:=DataW.trod_int ht h
 exact ⟨z,h1,h2⟩
theorem zBz {t:TypeId} (ht:P.underlying t=some (.int .i64)):zBU P t (fun _ cs (z:Int)=>cs=[.int .i64 z]∧-9223372036854775808≤z∧z≤9223372036854775807):=fun h=>by
 obtain ⟨z,h1,h2⟩:=zIK ht h
 exact ⟨z,h1,zIC h2⟩
theorem zN7 {t:TypeId} (ht:P.underlying t=some (.int .u8)):zBU P t (fun _ cs (u:UInt8)=>cs=[.int .u8 (u.toNat:Int)]):=fun h=>by
 obtain ⟨z,h1,h2⟩:=zIK ht h
 obtain ⟨n,hn,rfl⟩:=byte_of_wf h2
 exact ⟨UInt8.ofNat n,by show _=_;rw [h1,Gf.zHj _ hn]⟩
theorem zLV {t:TypeId} (ht:P.underlying t=some .bool):zBU P t (fun _ cs (b:Bool)=>cs=[.bool b]):=fun h=>by
 obtain ⟨b,h1,_⟩:=DataW.trod_bool ht h
 exact ⟨b,h1⟩
theorem zKM {t t8:TypeId} (ht:P.underlying t=some (.slice t8)) (h8:P.underlying t8=some (.int .u8)) (c8:P.cellsOf t8=1):zBU P t (fun W cs (bs:List UInt8)=>∃ v,cs=[v]∧Bys W v bs):=fun {_ _ W _ _ _ _ cs x} h=>by
 have hsl:∃ a len cap,cs=[.slice a len cap]:=by
  rcases open_ints ht h8 c8 h with ⟨h9,_⟩ | ⟨a2,l2,cp2,_,h9,_⟩
  · exact ⟨_,_,_,h9⟩
  · exact ⟨_,_,_,h9⟩
 obtain ⟨a,l,c,rfl⟩:=hsl
 obtain ⟨bs,hbs⟩:=zN5 (v:=.slice a l c) ht h8 c8 ⟨_,_,_,rfl⟩ ⟨_,h⟩
 exact ⟨bs,_,rfl,hbs⟩
theorem zDp {α:Type} {p:Nat→α→Prop}:∀ (n:Nat),(∀ i,i < n→∃ d,p i d)→∃ l:List α,l.length=n∧∀ i d,l[i]?=some d→p i d
 | 0,_=>⟨[],rfl,fun i d h=>by simp at h⟩
 | n+1,h=>by
   obtain ⟨l,h1,h2⟩:=zDp n fun i hi=>h i (by omega)
   obtain ⟨d,hd⟩:=h n (by omega)
   refine ⟨l++[d],by simp [h1],fun i d' hi=>?_⟩
   by_cases e:i < l.length
   · rw [List.getElem?_append_left e] at hi;exact h2 i d' hi
   · rw [List.getElem?_append_right (by omega)] at hi
     by_cases e2:i=l.length
     · subst e2;rw [Nat.sub_self] at hi;cases hi;rw [h1];exact hd
     · rw [List.getElem?_eq_none (by simp;omega)] at hi;cases hi
theorem zKL {t e:TypeId} {n c:Nat} {α:Type} {R:World→List Value→α→Prop} (ht:P.underlying t=some (.array n e)) (hc:P.cellsOf e=c) (hR:zBU P e R) :
  zBU P t (fun W cs (l:List α)=>l.length=n∧cs.length=P.cellsOf t∧∀ i d,l[i]?=some d→R W ((cs.drop (i*c)).take c) d):=fun {_ _ W _ _ _ _ cs x} h=>by
 obtain ⟨xs,m,_,_,hl,hx,hel⟩:=DataW.trod_array ht h
 rw [hc] at hel
 obtain ⟨l,h1,h2⟩:=zDp (p:=fun i d=>R W ((cs.drop (i*c)).take c) d) n fun i hi=>by
  have:=hel i hi
  rw [List.getElem?_eq_getElem (by omega)] at this
  exact hR this
 exact ⟨l,h1,hl,h2⟩
theorem zEj {t t8:TypeId} {n:Nat} (ht:P.underlying t=some (.array n t8)) (h8:P.underlying t8=some (.int .u8)) (c8:P.cellsOf t8=1) (ct:P.cellsOf t=n):zBU P t (fun _ cs (k:List UInt8)=>k.length=n∧cs=bV k):=fun {_ _ W _ _ _ _ cs x} h=>by
 obtain ⟨l,h1,h2,h3⟩:=zKL ht c8 (zN7 h8) h
 refine ⟨l,h1,?_⟩
 apply List.ext_getElem?
 intro i
 rw [zA0]
 by_cases hi:i < n
 · have:=h3 i l[i] (List.getElem?_eq_getElem (by omega))
   rw [Nat.mul_one] at this
   have h4:=congrArg (fun l=>l[0]?) this
   simp only [List.getElem?_take,List.getElem?_drop] at h4
   simp at h4
   rw [List.getElem?_eq_getElem (show i < l.length by omega)]
   simpa using h4
 · rw [List.getElem?_eq_none (by omega),List.getElem?_eq_none (by omega)];rfl
theorem z8 {t:TypeId} {fs:Array Field} (ht:P.underlying t=some (.struct fs)) {H:Type} {enc:TypeId × Value→H} {W:World} {base:Nat} {spare:Nat→Bool} {held:Bool} {fuel:Nat} {cs:List Value} {x:DataW H × List MemPlace}
  (h:DataW.trod enc P W base spare held fuel t cs=some x) {α:Type} {R:World→List Value→α→Prop} (i:Nat) (f:Field) (hf:fs[i]?=some f) (hR:zBU P f.type R):∃ d,R W ((cs.drop f.offset).take (P.cellsOf f.type)) d:=by
 obtain ⟨xs,n,_,_,_,hl,hx⟩:=DataW.trod_struct ht h
 have hi:i < fs.size:=by
  rcases Nat.lt_or_ge i fs.size with h | h
  · exact h
  · rw [Array.getElem?_eq_none h] at hf;cases hf
 have:=hx i f hf
 rw [List.getElem?_eq_getElem (by omega)] at this
 exact hR this
theorem zFE {t:TypeId} {fs:Array Field} (ht:P.underlying t=some (.struct fs)) {H:Type} {enc:TypeId × Value→H} {W:World} {base:Nat} {spare:Nat→Bool} {held:Bool} {fuel:Nat} {cs:List Value} {x:DataW H × List MemPlace}
  (h:DataW.trod enc P W base spare held fuel t cs=some x):cs.length=P.cellsOf t:=by
 obtain ⟨xs,n,_,_,hl,_,_⟩:=DataW.trod_struct ht h
 exact hl
def Sls (c:Nat) {α:Type} (R:World→List Value→α→Prop) (W:World) (v:Value) (l:List α):Prop :=
 ∃ a cap,v=.slice a l.length cap∧l.length≤cap∧cap≤maxLen ∧
   (0 < l.length→∃ b off,a=some ⟨b,off,none⟩∧∀ i d,l[i]?=some d→∃ cs:List Value,cs.length=c∧(∀ j v,cs[j]?=some v→W.cell? ⟨b,off+i*c+j,none⟩=some v)∧R W cs d)
theorem zES {t e:TypeId} {c:Nat} {α:Type} {R:World→List Value→α→Prop} (ht:P.underlying t=some (.slice e)) (hc:P.cellsOf e=c) (h0:0 < c) (hR:zBU P e R) :
  zBU P t (fun W cs (l:List α)=>∃ v,cs=[v]∧Sls c R W v l):=fun {_ _ W _ _ _ _ cs x} h=>by
 rcases Deep.open_slice ht h with ⟨hcs,_⟩ | ⟨a',len',cap',m,n,D,Pl,hcs,_,hl,hm,hmm,_,hx⟩
 · exact ⟨[],_,hcs,none,0,rfl,Nat.le_refl _,Nat.zero_le _,fun h=>by simp at h⟩
 · have hlm:len'≤m:=by rw [hmm];split <;> omega
   rw [hc] at hx
   obtain ⟨l,h1,h2⟩:=zDp (p:=fun i d=>∃ cs:List Value,cs.length=c∧(∀ j,j < c→W.cell? ((a'.add (i*c)).add j)=cs[j]?)∧R W cs d) len' fun i hi=>by
    obtain ⟨cs',k1,k2⟩:=hx i (by omega)
    obtain ⟨_,k3,k4⟩:=World.cells?_some k1
    obtain ⟨d,hd⟩:=hR k2
    exact ⟨d,cs',k3,k4,hd⟩
   refine ⟨l,_,hcs,some a',cap',by rw [h1],by rw [h1];exact hl,hm,fun hp=>?_⟩
   obtain ⟨cs0,k3,k4,_⟩:=h2 0 l[0] (List.getElem?_eq_getElem hp)
   have ha:a'=⟨a'.block,a'.off,none⟩:=by
    have:=k4 0 h0
    rw [List.getElem?_eq_getElem (by omega)] at this
    exact zH4 (a:=a') (by simpa [Addr.add] using this)
   refine ⟨a'.block,a'.off,by rw [← ha],fun i d hi=>?_⟩
   obtain ⟨cs',k5,k6,k7⟩:=h2 i d hi
   refine ⟨cs',k5,fun j v hj=>?_,k7⟩
   have hjc:j < c:=by
    rcases Nat.lt_or_ge j c with h | h
    · exact h
    · rw [List.getElem?_eq_none (by omega)] at hj;cases hj
   have:=k6 j hjc
   rw [ha,add_plain,add_plain,hj] at this
   exact this
theorem zMu {t:TypeId} {α:Type} {R:World→Value→α→Prop} (hO:zBU P t (fun W cs d=>∃ v,cs=[v]∧R W v d)) {H:Type} {enc:TypeId × Value→H} {W:World} {base:Nat} {spare:Nat→Bool} {held:Bool} {v:Value} {x:DataW H × List MemPlace}
  (hv:∃ a len cap,v=.slice a len cap) (h:∃ fuel,DataW.trod enc P W base spare held fuel t v.cells.toList=some x):∃ d,R W v d:=by
 obtain ⟨a,len,cap,rfl⟩:=hv
 obtain ⟨fuel,hf⟩:=h
 obtain ⟨d,v',e,hr⟩:=hO hf
 simp [Value.cells] at e
 subst e
 exact ⟨d,hr⟩
theorem Sls.len {c:Nat} {α:Type} {R:World→List Value→α→Prop} {W:World} {v:Value} {l:List α} (h:Sls c R W v l):l.length≤9223372036854775807:=by
 obtain ⟨a,cap,_,h1,h2,_⟩:=h
 unfold maxLen at h2;omega
theorem Sls.below {c:Nat} {α:Type} {R:World→List Value→α→Prop} (hR:∀ w w' cs d,Below w.heap.size w w'→R w cs d→R w' cs d) {w w':World} {v:Value} {l:List α} (h:Sls c R w v l) (hb:Below w.heap.size w w'):Sls c R w' v l:=by
 obtain ⟨a,cap,h1,h2,h3,h4⟩:=h
 refine ⟨a,cap,h1,h2,h3,fun hp=>?_⟩
 obtain ⟨b,off,e,h5⟩:=h4 hp
 refine ⟨b,off,e,fun i d hi=>?_⟩
 obtain ⟨cs,h6,h7,h8⟩:=h5 i d hi
 exact ⟨cs,h6,fun j v hj=>(hb.cell (p:=⟨b,off+i*c+j,none⟩) (World.block_lt_of_cell? w _ (h7 j v hj))).trans (h7 j v hj),hR _ _ _ _ hb h8⟩
theorem Sls.at {c:Nat} {α:Type} {R:World→List Value→α→Prop} {w:World} {a:Option Addr} {n cap:Nat} {l:List α} (h:Sls c R w (.slice a n cap) l) (i:Nat) (hi:i < l.length) :
  ∃ b off d cs,a=some ⟨b,off,none⟩∧Hid (l[i]?=some d)∧cs.length=c∧(∀ j v,cs[j]?=some v→w.cell? ⟨b,off+i*c+j,none⟩=some v)∧R w cs d:=by
 obtain ⟨a',cap',e,h1,h2,h3⟩:=h
 obtain ⟨b,off,e',h4⟩:=h3 (by omega)
 injection e with e1 e2 e3
 obtain ⟨cs,h5,h6,h7⟩:=h4 i l[i] (List.getElem?_eq_getElem hi)
 exact ⟨b,off,l[i],cs,e1.trans e',by show l[i]?=_;simp [hi],h5,h6,h7⟩
theorem Sls.eq_slice {c:Nat} {α:Type} {R:World→List Value→α→Prop} {w:World} {v:Value} {l:List α} (h:Sls c R w v l):∃ a cap,v=.slice a l.length cap:=by
 obtain ⟨a,cap,e,_⟩:=h;exact ⟨a,cap,e⟩
end
end Go.Mem
end
section
namespace Go.Mem
open Go Go.RowKit Gf
def zBh (n:Nat) (w:World) (g o:Nat):Prop:=∀ j,j < n→(w.cell? ⟨g,o+j,none⟩).isSome=true
theorem zCP (n:Nat) (w:World) (g o:Nat):zBh n w.drew g o=zBh n w g o:=rfl
theorem zW.some {n:Nat} {w:World} {g o:Nat} (h:zW n w g o):zBh n w g o:=fun j hj=>(h j hj).1
theorem zC8 {n:Nat} {w:World} {g o:Nat} {cs:List Value} (h:w.rangeAt g o cs) (hn:cs.length=n):zBh n w g o:=fun j hj=>by
 rw [h j (cs[j]'(by omega)) (List.getElem?_eq_getElem (by omega))];rfl
theorem zGU {n:Nat} {w:World} {g o:Nat} (h:zBh n w g o):w.rangeAt g o (zN n w g o):=fun j v hj=>by
 have hjn:j < n:=by
  rcases Nat.lt_or_ge j n with h | h
  · exact h
  · rw [List.getElem?_eq_none (by rw [zCK];exact h)] at hj;cases hj
 obtain ⟨u,hu⟩:=Option.isSome_iff_exists.1 (h j hjn)
 rw [hu]
 unfold zN at hj
 rw [List.getElem?_map,List.getElem?_range hjn] at hj
 simp only [Option.map_some,hu,Option.getD_some] at hj
 exact hj
theorem zEX {P:Program} {n:Nat} {t:TypeId} {d:TypeDesc} (hu:P.underlying t=some d) (hd:d.isRow=true) (hi:(P.info? t).map (·.size)=some n) (dst:Option Tmp) (x:Operand) (ty:TypeId) (pos:String) (af:Array Edge) (gd:Option (Tmp × Bool)) (a:Act) (w:World) (K:Act→World→Prop) (Q:Exit→Act→World→Prop)
  (hp:zAs (a.eval x)=true) (ht:zBh n w (zAB (a.eval x)) (zAC (a.eval x))) :
  Oper.wp P ⟨dst,.load t x,ty,pos,af,gd⟩ a w K Q=K (a.put dst (.agg (zN n w (zAB (a.eval x)) (zAC (a.eval x))).toArray)) w:=by
 unfold Oper.wp execOp
 have e:=zF9 hp
 have hl:=run_loadVar_mid (P:=P) w (zAB (a.eval x)) (zAC (a.eval x)) t (zN n w (zAB (a.eval x)) (zAC (a.eval x))) d (zGU ht) hu hd (by rw [hi,zCK])
 simp only
 rw [e]
 simp only [ptrB_eq,ptrO_eq,Instr.loadAt,Instr.sureAddr,Sem.run_bind,Sem.run_pure,Result.andThen_ok,hl]
 rfl
theorem zKV {P:Program} {n:Nat} {t:TypeId} {d:TypeDesc} (hu:P.underlying t=some d) (hd:d.isRow=true) (hi:(P.info? t).map (·.size)=some n) (dst:Option Tmp) (x:Operand) (ty:TypeId) (pos:String) (af:Array Edge) (gd:Option (Tmp × Bool)) (a:Act) (W:World) (K:Act→Prop)
  (hp:zAs (a.eval x)=true) (ht:zBh n W (zAB (a.eval x)) (zAC (a.eval x))) :
  Oper.quiet P ⟨dst,.load t x,ty,pos,af,gd⟩ a (fun w'=>∃ n,w'=W.drewN n) K=K (a.put dst (.agg (zN n W (zAB (a.eval x)) (zAC (a.eval x))).toArray)):=by
 have e:=zF9 hp
 have hl:∀ w',(∃ n,w'=W.drewN n)→∀ v,Oper.quietAt P ⟨dst,.load t x,ty,pos,af,gd⟩ a (fun w'=>∃ n,w'=W.drewN n) w' v↔.agg (zN n W (zAB (a.eval x)) (zAC (a.eval x))).toArray=v:=fun w' ⟨m,hm⟩ v=>by
  subst hm
  have hr:=run_loadVar_mid (P:=P) (W.drewN m) (zAB (a.eval x)) (zAC (a.eval x)) t (zN n W (zAB (a.eval x)) (zAC (a.eval x))) d (zGU ht) hu hd (by rw [hi,zCK])
  unfold Oper.quietAt execOp
  simp only
  rw [e]
  simp only [ptrB_eq,ptrO_eq,Instr.loadAt,Instr.sureAddr,Sem.run_bind,Sem.run_pure,Result.andThen_ok,hr,Oper.quietUpon,true_and]
 unfold Oper.quiet
 apply propext
 constructor
 · rintro ⟨v,h1,h2⟩
   rw [(hl W ⟨0,rfl⟩ v).1 (h1 W ⟨0,rfl⟩)]
   exact h2
 · intro h
   exact ⟨_,fun w hw=>(hl w hw _).2 rfl,h⟩
end Go.Mem
end
section
namespace Go.Mem
open Go Go.ChangeShapes Go.WideShapes Go.ChangeAt Go.RowKit Gf Lea
end Go.Mem
namespace Go.Proofs.YtbbojbdigiibbaaGreatDoor
open Go Go.RowKit Go.Mem Gf
end Go.Proofs.YtbbojbdigiibbaaGreatDoor
namespace Go.Proofs.YtbbojbdigiibbaaGreatDoor
open Go Go.RowKit Go.Mem Gf Lea
attribute [local go_sem ↓] Go.wp_at_zero Go.wp_at_succ
attribute [local go_sem ↓] zBZ
attribute [local go_sem] ptrB_eq ptrO_eq ptrIs_eq aggL_eq aggIs_eq
end Go.Proofs.YtbbojbdigiibbaaGreatDoor
namespace Go.Proofs.YtbbojbdigiibbaaGreatDoor
open Go Go.RowKit Go.Mem Gf Lea
theorem zEf (dst:Option Tmp) (x:Operand) (ty:TypeId) (pos:String) (af:Array Edge) (gd:Option (Tmp × Bool)) (a:Act) (w:World) (K:Act→World→Prop) (Q:Exit→Act→World→Prop)
  (hp:zAs (a.eval x)=true) (ht:zBh 16 w (zAB (a.eval x)) (zAC (a.eval x))) :
  Oper.wp Tryz.prog ⟨dst,.load 39 x,ty,pos,af,gd⟩ a w K Q=K (a.put dst (.agg (zN 16 w (zAB (a.eval x)) (zAC (a.eval x))).toArray)) w :=
 zEX Tryz.underlying39 rfl i16 dst x ty pos af gd a w K Q hp ht
theorem zJ9 (dst:Option Tmp) (x:Operand) (ty:TypeId) (pos:String) (af:Array Edge) (gd:Option (Tmp × Bool)) (a:Act) (w:World) (K:Act→World→Prop) (Q:Exit→Act→World→Prop)
  (hp:zAs (a.eval x)=true) (ht:zBh 17 w (zAB (a.eval x)) (zAC (a.eval x))) :
  Oper.wp Tryz.prog ⟨dst,.load 165 x,ty,pos,af,gd⟩ a w K Q=K (a.put dst (.agg (zN 17 w (zAB (a.eval x)) (zAC (a.eval x))).toArray)) w :=
 zEX Tryz.underlying165 rfl i17 dst x ty pos af gd a w K Q hp ht
theorem zLa (dst:Option Tmp) (x:Operand) (ty:TypeId) (pos:String) (af:Array Edge) (gd:Option (Tmp × Bool)) (a:Act) (W:World) (K:Act→Prop)
  (hp:zAs (a.eval x)=true) (ht:zBh 16 W (zAB (a.eval x)) (zAC (a.eval x))) :
  Oper.quiet Tryz.prog ⟨dst,.load 39 x,ty,pos,af,gd⟩ a (fun w'=>∃ n,w'=W.drewN n) K=K (a.put dst (.agg (zN 16 W (zAB (a.eval x)) (zAC (a.eval x))).toArray)) :=
 zKV Tryz.underlying39 rfl i16 dst x ty pos af gd a W K hp ht
end Go.Proofs.YtbbojbdigiibbaaGreatDoor
namespace Go.Proofs.YtbbojbdigiibbaaGreatDoor
open Go Go.RowKit Go.Mem Gf Lea
structure zFN (W wr:World) (tb:Nat) (vt:Value) (lt:List Les):Prop where
 heap:Heap wr tb vt lt
 good:Lea.Good lt
 own:∀ g,vt.ownBlock=some g→W.heap.size≤g
 chg:Chg (fun k=>W.heap.size≤k) W wr
 tb1:W.heap.size≤tb
section
variable {W wr w':World} {tb tu:Nat} {vt vu v':Value} {lt lu l':List Les}
theorem zFN.new {W w1:World} {tb:Nat} (h1:W.heap.size≤tb) (h2:Heap w1 tb (.slice none 0 0) []) (h3:Below W.heap.size W w1):zFN W w1 tb (.slice none 0 0) [] :=
 ⟨h2,Good.nil,(fun g e=>by cases e),Chg.of_below h3,h1⟩
theorem zFN.tchg (h:zFN W wr tb vt lt) (hc:zAr tb vt v' wr w') (hh:Heap w' tb v' l') (hg:Lea.Good l'):zFN W w' tb v' l' :=
 ⟨hh,hg,fun g e=>by
  rcases hc.2 g e with e1 | e1
  · exact h.own g e1
  · exact Nat.le_trans h.chg.size e1,h.chg.mix hc.1 (fun k hk=>by
  rcases hk with rfl | hk
  · exact .inl h.tb1
  · exact .inl (h.own _ hk)),h.tb1⟩
theorem zFN.below (h:zFN W wr tb vt lt) (hb:Below wr.heap.size wr w'):zFN W w' tb vt lt:=⟨h.heap.below hb,h.good,h.own,h.chg.trans_below hb,h.tb1⟩
theorem zFN.bel (h:zFN W wr tb vt lt):Below W.heap.size W wr:=h.chg.below (Nat.le_refl _) (fun _ h=>h)
theorem zFN.few (h:zFN W wr tb vt lt) (ix:Key):(ofL lt ix).length≤12:=by have:=h.good.few ix;omega
end
end Go.Proofs.YtbbojbdigiibbaaGreatDoor
end
section
namespace Go.Tail
open Go
def zNt (P:Program) (C':World→Prop) (v:Value):Result Next→Prop
 | .ok (.value u) w'=>C' w'∧u=v
 | .ok .skip w'=>C' w'∧v=undef
 | .ok (.enter f args) w'=>Calls P f args w' (fun e w''=>e=.returned v∧C' w'')
 | _=>False
def goesAt (P:Program) (o:Oper) (a:Act) (C':World→Prop) (w:World) (v:Value):Prop:=zNt P C' v ((execOp a.eval o).run P w)
section
variable {P:Program} {ops:Array Oper} {md:Region.Mode} {U:Bool→World→Prop} {j0:Nat}
def YG (P:Program) (ops:Array Oper) (U:Bool→World→Prop) (j0 i:Nat) (o:Oper) (v:Value) (a:Act):Prop :=
 (Region.wanted o (yielded ops a.tmps)=true∧∀ b:Bool,(i=j0→b=false)→∀ w,U b w→goesAt P o a (U (if i=j0 then true else b)) w v) ∨
 (Region.wanted o (yielded ops a.tmps)=false∧v=undef∧i≠j0)
def Hd (P:Program) (md:Region.Mode) (ops:Array Oper) (U:Bool→World→Prop) (j0 n:Nat) (L:Array Bool→Act→Prop):Nat→Array Bool→Act→Prop
 | 0,listed,a=>L listed a
 | f+1,listed,a=>Region.ready md ops listed≠[]∧∀ i,i∈Region.ready md ops listed→i < n∧∃ oi v,ops[i]?=some oi∧YG P ops U j0 i oi v a∧Hd P md ops U j0 n L f (listed.setIfInBounds i true) (a.put oi.dst v)
end
end Go.Tail
end
section
namespace Go.Tail
open Go
section
variable {P:Program} {ops:Array Oper} {md:Region.Mode} {C:World→Prop} {R:Value→World→Prop} {j0:Nat} {z:Value}
def YA (P:Program) (ops:Array Oper) (C:World→Prop) (R:Value→World→Prop) (j0:Nat) (z:Value) (i:Nat) (o:Oper) (v:Value) (a:Act):Prop :=
 (i≠j0∧Region.wanted o (yielded ops a.tmps)=true∧(∀ w,C w→(execOp a.eval o).run P w=.ok (.value v) w)∧(∀ w,R z w→(execOp a.eval o).run P w=.ok (.value v) w)) ∨
 (i≠j0∧Region.wanted o (yielded ops a.tmps)=false∧v=undef) ∨
 (i=j0∧v=z∧Region.wanted o (yielded ops a.tmps)=true∧∀ w,C w→∃ f args,(execOp a.eval o).run P w=.ok (.enter f args) w∧Calls P f args w fun e w'=>∃ v',e=.returned v'∧R v' w')
theorem YA.of_same {i:Nat} {o:Oper} {v:Value} {a a':Act} (h:YA P ops C R j0 z i o v a) (he:execOp a'.eval o=execOp a.eval o)
  (hw:Region.wanted o (yielded ops a'.tmps)=Region.wanted o (yielded ops a.tmps)):YA P ops C R j0 z i o v a':=by
 unfold YA at *
 rw [he,hw]
 exact h
theorem YA.put {i:Nat} {oi oj:Oper} {v u:Value} {a:Act} (h:YA P ops C R j0 z i oi v a) (hap:oi.apart ops oj=true) (hsi:∀ cs b,oi.op≠.select cs b):YA P ops C R j0 z i oi v (a.put oj.dst u):=by
 obtain ⟨_,_,h3⟩:=Oper.apart_spec hap
 exact h.of_same (execOp_put oi hsi a oj.dst u h3) (wanted_put oi a oj.dst u h3)
theorem YA.unput {j:Nat} {oi oj:Oper} {v u:Value} {a:Act} (h:YA P ops C R j0 z j oj u (a.put oi.dst v)) (hap:oi.apart ops oj=true) (hsj:∀ cs b,oj.op≠.select cs b):YA P ops C R j0 z j oj u a:=by
 obtain ⟨h1,_,_⟩:=Oper.apart_spec hap
 exact h.of_same (execOp_put oj hsj a oi.dst v h1).symm (wanted_put oj a oi.dst v h1).symm
def Ha (P:Program) (md:Region.Mode) (ops:Array Oper) (C:World→Prop) (R:Value→World→Prop) (j0:Nat) (z:Value) (n:Nat) (L:Array Bool→Act→Prop):Nat→Array Bool→Act→Prop
 | 0,listed,a=>L listed a
 | f+1,listed,a=>Region.ready md ops listed≠[]∧∀ i,i∈Region.ready md ops listed→i < n∧∃ oi v,ops[i]?=some oi∧YA P ops C R j0 z i oi v a∧Ha P md ops C R j0 z n L f (listed.setIfInBounds i true) (a.put oi.dst v)
theorem set_other {listed:Array Bool} {i:Nat} (h:i≠j0):(listed.setIfInBounds i true).getD j0 false=listed.getD j0 false:=getD_set_ne false h
theorem zK0 {n g:Nat} {L:Value→Array Bool→Act→Prop} {Q:Exit→Act→World→Prop} (hL:∀ z listed a w,R z w→L z listed a→wpAny P md ops Q g listed a w) :
  ∀ (f:Nat) (listed:Array Bool) (a:Act) (w:World),listed.getD j0 false=true→R z w→Ha P md ops C R j0 z n (L z) f listed a→wpAny P md ops Q (f+g) listed a w:=by
 intro f
 induction f with
 | zero=>intro listed a w _ hw h;rw [Nat.zero_add];exact hL _ _ _ _ hw h
 | succ f ih =>
   intro listed a w hd hw h
   rw [show f+1+g=(f+g)+1 from by omega]
   refine ⟨fun h0=>absurd h0 h.1,fun i hi=>?_⟩
   obtain ⟨_,oi,v,hoi,hy,hK⟩:=h.2 i hi
   have hun:=(mem_ready.1 hi).1
   have hij:i≠j0:=fun e=>by
    subst e
    rw [getD_both hun] at hd
    cases hd
   have hset:=set_other (listed:=listed) hij
   rw [hd] at hset
   unfold wpOp
   simp only [hoi]
   rcases hy with ⟨_,hwt,_,hv⟩ | ⟨_,hwt,rfl⟩ | ⟨e,_⟩
   · simp only [hwt,if_true]
     refine .inl ?_
     unfold Oper.wp
     rw [hv w hw]
     exact ih _ _ _ hset hw hK
   · simp only [hwt,Bool.false_eq_true,if_false]
     exact ih _ _ _ hset hw hK
   · exact absurd e hij
theorem zML {n g:Nat} {L:Value→Array Bool→Act→Prop} {Q:Exit→Act→World→Prop} (hL:∀ z listed a w,R z w→L z listed a→wpAny P md ops Q g listed a w) (hLj:∀ z listed a,L z listed a→listed.getD j0 false=true) (hz:∃ z,∃ w,R z w) :
  ∀ (f:Nat) (listed:Array Bool) (a:Act) (w:World),listed.getD j0 false=false→C w→(∀ z,(∃ w,R z w)→Ha P md ops C R j0 z n (L z) f listed a)→wpAny P md ops Q (f+g) listed a w:=by
 intro f
 obtain ⟨z0,hz0⟩:=hz
 induction f with
 | zero =>
   intro listed a w hd hw h
   have:=hLj _ _ _ (h z0 hz0)
   rw [hd] at this
   cases this
 | succ f ih =>
   intro listed a w hd hw h
   rw [show f+1+g=(f+g)+1 from by omega]
   have h0:=h z0 hz0
   refine ⟨fun h1=>absurd h1 h0.1,fun i hi=>?_⟩
   obtain ⟨_,oi,v,hoi,hy,hK⟩:=h0.2 i hi
   have hun:=(mem_ready.1 hi).1
   unfold wpOp
   simp only [hoi]
   rcases hy with ⟨hij,hwt,hv,_⟩ | ⟨hij,hwt,rfl⟩ | ⟨rfl,_,hwt,hv⟩
   · have hset:=set_other (listed:=listed) hij
     rw [hd] at hset
     simp only [hwt,if_true]
     refine .inl ?_
     unfold Oper.wp
     rw [hv w hw]
     refine ih _ _ _ hset hw (fun z hz=>?_)
     obtain ⟨_,oi',v',hoi',hy',hK'⟩:=(h z hz).2 i hi
     have eo:oi'=oi:=Option.some.inj (hoi'.symm.trans hoi)
     subst eo
     rcases hy' with ⟨_,_,hv',_⟩ | ⟨_,hwt',_⟩ | ⟨e,_⟩
     · have e:=(hv' w hw).symm.trans (hv w hw)
       injection e with e1 _
       injection e1 with e1
       rw [← e1];exact hK'
     · rw [hwt] at hwt';cases hwt'
     · exact absurd e hij
   · have hset:=set_other (listed:=listed) hij
     rw [hd] at hset
     simp only [hwt,Bool.false_eq_true,if_false]
     refine ih _ _ _ hset hw (fun z hz=>?_)
     obtain ⟨_,oi',v',hoi',hy',hK'⟩:=(h z hz).2 i hi
     have eo:oi'=oi:=Option.some.inj (hoi'.symm.trans hoi)
     subst eo
     rcases hy' with ⟨_,hwt',_,_⟩ | ⟨_,_,e1⟩ | ⟨e,_⟩
     · rw [hwt] at hwt';cases hwt'
     · rw [← e1];exact hK'
     · exact absurd e hij
   · simp only [hwt,if_true]
     refine .inl ?_
     obtain ⟨fn,args,hr,hc⟩:=hv w hw
     unfold Oper.wp
     rw [hr]
     refine hc.mono ?_
     rintro e w'' ⟨v',rfl,hR⟩
     obtain ⟨_,oi',u',hoi',hy',hK'⟩:=(h v' ⟨_,hR⟩).2 i hi
     have eo:oi'=oi:=Option.some.inj (hoi'.symm.trans hoi)
     subst eo
     have hlt:i < listed.size:=by
      rcases Nat.lt_or_ge i listed.size with h | h
      · exact h
      · simp [Array.getElem?_eq_none h] at hun
     rcases hy' with ⟨e,_⟩ | ⟨e,_⟩ | ⟨_,rfl,_⟩
     · exact absurd rfl e
     · exact absurd rfl e
     · exact zK0 hL _ _ _ _ (by simp [hlt]) hR hK'
theorem zMM {n i:Nat} {oi:Oper} {v:Value} {L:Array Bool→Act→Prop} (hi:ops[i]?=some oi) (hsel:∀ (j:Nat) (o:Oper) cs b,ops[j]?=some o→o.op≠.select cs b)
  (hs:Region.sinkB md ops n=true) (hc:Region.chainB md ops n=true) (hn:n < ops.size) (hin:i < n) (hdone:∀ listed a,L listed a→∀ j,j∈Region.ready md ops listed→n≤j) :
  ∀ (f:Nat) (listed:Array Bool) (a:Act),HeadInv md ops n listed →
    (∀ j oj,ops[j]?=some oj→j≠i→listed.getD j true=false→(∀ e∈oj.after,Region.binds md e=true→e.on≠i)→oi.apart ops oj=true) →
    i∈Region.ready md ops listed→YA P ops C R j0 z i oi v a →
    Ha P md ops C R j0 z n L f (listed.setIfInBounds i true) (a.put oi.dst v)→Ha P md ops C R j0 z n L (f+1) listed a:=by
 intro f
 induction f with
 | zero =>
   intro listed a inv _ hr hy H
   have hun:=(mem_ready.1 hr).1
   refine ⟨fun h=>(by rw [h] at hr;cases hr),fun j hj=>?_⟩
   have hjn:j < n:=Nat.lt_of_not_le fun h=>tail_waits hs hc hn inv _ i rfl hin hun j h hj
   by_cases e:j=i
   · subst e;exact ⟨hjn,oi,v,hi,hy,H⟩
   · have:=hdone _ _ H j (ready_mono hj e)
     omega
 | succ f ih =>
   intro listed a inv hfree hr hy H
   have hun:=(mem_ready.1 hr).1
   refine ⟨fun h=>(by rw [h] at hr;cases hr),fun j hj=>?_⟩
   have hjn:j < n:=Nat.lt_of_not_le fun h=>tail_waits hs hc hn inv _ i rfl hin hun j h hj
   refine ⟨hjn,?_⟩
   by_cases e:j=i
   · subst e;exact ⟨oi,v,hi,hy,H⟩
   · obtain ⟨hjun,oj,hoj,hall⟩:=mem_ready.1 hj
     have hnot:∀ e∈oj.after,Region.binds md e=true→e.on≠i:=fun e' he hb heq=>by
      have h1:=hall e' he hb
      rw [heq,getD_both hun] at h1
      cases h1
     have hap:=hfree j oj hoj e hjun hnot
     obtain ⟨_,oj',u,hoj',hyj,hKj⟩:=H.2 j (ready_mono hj e)
     have e1:oj'=oj:=Option.some.inj (hoj'.symm.trans hoj)
     subst e1
     have hfree':∀ k ok,ops[k]?=some ok→k≠i→(listed.setIfInBounds j true).getD k true=false →
       (∀ e∈ok.after,Region.binds md e=true→e.on≠i)→oi.apart ops ok=true:=fun k ok hk hki hun' hno=>by
      refine hfree k ok hk hki ?_ hno
      by_cases hjk:j=k
      · subst hjk;exact hjun
      · rw [getD_set_ne true hjk] at hun';exact hun'
     refine ⟨oj',u,hoj,hyj.unput hap (fun cs b=>hsel j oj' cs b hoj),?_⟩
     refine ih (listed.setIfInBounds j true) _ (inv.set hj hjn) hfree' (ready_mono hr (Ne.symm e)) (hy.put hap (fun cs b=>hsel i oi cs b hi)) ?_
     rw [Array.setIfInBounds_comm _ _ e]
     have hcomm:=Act.put_comm a v u (Oper.apart_spec hap).2.1
     rw [← hcomm]
     exact hKj
def zHm (P:Program) (ops:Array Oper) (C:World→Prop) (R:Value→World→Prop) (j0:Nat) (z:Value) (Lq:Act→Prop):List Oper→Nat→Act→Prop
 | [],_,a=>Lq a
 | o::rest,k,a=>∃ v,YA P ops C R j0 z k o v a∧zHm P ops C R j0 z Lq rest (k+1) (a.put o.dst v)
theorem zOh {n g:Nat} {Lq:Act→Prop} (hsel:Region.noSelect ops=true) (hs:Region.sinkB md ops n=true) (hc:Region.chainB md ops n=true) (hn:n < ops.size) (hj0:j0 < n) :
  ∀ (l:List Oper) (k:Nat) (listed:Array Bool) (a:Act),(∀ j,j < l.length→l[j]?=ops[k+j]?)→k+l.length=n→HeadInv md ops n listed→(∀ i,i < k→listed.getD i false=true) →
  Region.lexHead md ops g l.length k listed=true→zHm P ops C R j0 z Lq l k a →
  Ha P md ops C R j0 z n (fun listed' a'=>Region.seqB md ops g n listed'=true∧listed'.getD j0 false=true∧Lq a') l.length listed a:=by
 intro l
 induction l with
 | nil =>
   intro k listed a _ hk _ hdone hB h
   have:k=n:=by simpa using hk
   subst this
   exact ⟨by simpa [Region.lexHead] using hB,hdone j0 hj0,h⟩
 | cons o l ih =>
   intro k listed a hl hk inv hdone hB h
   have h0:ops[k]?=some o:=by simpa using (hl 0 (by simp)).symm
   simp only [List.length_cons,Region.lexHead,Bool.and_eq_true] at hB
   obtain ⟨⟨hr,hf⟩,hB'⟩:=hB
   have hkn:k < n:=by simp only [List.length_cons] at hk;omega
   have hr':k∈Region.ready md ops listed:=by simpa using hr
   obtain ⟨v,hy,hK⟩:=h
   refine zMM h0 (Region.noSelect_spec hsel) hs hc hn hkn (fun listed' a' hL=>seqB_ready hL.1) l.length listed a inv (Region.free_spec h0 hf) hr' hy ?_
   refine ih (k+1) _ _ (fun j hj=>by have:=hl (j+1) (by simp;omega);simpa [Nat.add_assoc,Nat.add_comm 1 j] using this) (by simp only [List.length_cons] at hk;omega) (inv.set hr' hkn) (fun i hi=>?_) hB' hK
   have hks:k < listed.size:=by rw [inv.size];omega
   by_cases e:k=i
   · subst e;simp [hks]
   · rw [getD_set_ne false e];exact hdone i (by omega)
theorem zAa {id:Nat} {Q:Exit→Act→World→Prop} {a:Act} {w:World} {l:List Oper} (n j0:Nat) (C:World→Prop) (R:Value→World→Prop) (hm:P.follows .mixedOrders=true)
  (hB:Region.lexTailB .any l.toArray n=true) (hj0:j0 < n) (hC:C w.drew) (hz:∃ z,∃ w,R z w) (h:∀ z,(∃ w,R z w)→zHm P l.toArray C R j0 z (fun a'=>∀ w',R z w'→wpList P l.toArray Q (l.drop n) a' w') (l.take n) 0 a) :
  (Code.region id l.toArray true).wp P Q a w:=by
 simp only [Region.lexTailB,Bool.and_eq_true,decide_eq_true_eq] at hB
 obtain ⟨⟨⟨⟨hsel,hn⟩,hs⟩,hc⟩,hlex⟩:=hB
 have hn':n < l.length:=by simpa using hn
 have htl:(l.take n).length=n:=by simp;omega
 have inv0:HeadInv .any l.toArray n (Array.replicate l.toArray.size false) :=
  ⟨by simp,fun j oj _ hl=>(by rw [getD_replicate_false] at hl;cases hl),fun t _ ht=>getD_in (by simpa using ht) (getD_replicate_false _ _)⟩
 have H:=fun z hz=>zOh (md:=.any) (C:=C) (R:=R) (j0:=j0) (z:=z) (g:=l.toArray.size - n) hsel hs hc hn hj0 (l.take n) 0 _ a (fun j hj=>by
  have hj':j < n:=by rw [htl] at hj;exact hj
  simp [hj']) (by simpa using htl) inv0 (fun i hi=>by omega) (by rw [htl];exact hlex) (h z hz)
 refine wp_region_any hm ?_
 have:=zML (C:=C) (R:=R) (j0:=j0) (Q:=Q) (g:=l.toArray.size - n) (L:=fun z listed' a'=>Region.seqB .any l.toArray (l.toArray.size - n) n listed'=true∧listed'.getD j0 false=true∧∀ w',R z w'→wpList P l.toArray Q (l.drop n) a' w') (fun z listed a' w' hw' hL=>by
  have e:l.toArray.size - n=(l.drop n).length:=by simp
  rw [e]
  exact wpAny_of_seq (l.drop n) n listed a' w' (fun j=>by simp) (by rw [← e];exact hL.1) (hL.2.2 w' hw')) (fun z listed a hL=>hL.2.1) hz _ _ a w.drew (getD_replicate_false _ _) hC H
 rw [htl,show n+(l.toArray.size - n)=l.toArray.size from by omega] at this
 exact this
theorem zGv {Lq:Act→Prop} {o:Oper} {rest:List Oper} {k:Nat} {a:Act} (hk:k≠j0) (v:Value) (hw:Region.wanted o (yielded ops a.tmps)=true) (h1:∀ w,C w→(execOp a.eval o).run P w=.ok (.value v) w) (h2:∀ w,R z w→(execOp a.eval o).run P w=.ok (.value v) w) (h:zHm P ops C R j0 z Lq rest (k+1) (a.put o.dst v)) :
 zHm P ops C R j0 z Lq (o::rest) k a:=⟨v,.inl ⟨hk,hw,h1,h2⟩,h⟩
theorem zDX {Lq:Act→Prop} {o:Oper} {rest:List Oper} {a:Act} (hw:Region.wanted o (yielded ops a.tmps)=true)
 (h1:∀ w,C w→∃ f args,(execOp a.eval o).run P w=.ok (.enter f args) w∧Calls P f args w fun e w'=>∃ v',e=.returned v'∧R v' w') (h:zHm P ops C R j0 z Lq rest (j0+1) (a.put o.dst z)) :
 zHm P ops C R j0 z Lq (o::rest) j0 a:=⟨z,.inr (.inr ⟨rfl,rfl,hw,h1⟩),h⟩
theorem zB6 {Lq:Act→Prop} {o:Oper} {rest:List Oper} {k:Nat} {a:Act} (hk:k≠j0) (hw:Region.wanted o (yielded ops a.tmps)=true) (h:∃ v,(∀ w,(execOp a.eval o).run P w=.ok (.value v) w)∧zHm P ops C R j0 z Lq rest (k+1) (a.put o.dst v)) :
  zHm P ops C R j0 z Lq (o::rest) k a:=by
 obtain ⟨v,h1,h2⟩:=h
 exact ⟨v,.inl ⟨hk,hw,fun w _=>h1 w,fun w _=>h1 w⟩,h2⟩
theorem zDY {Lq:Act→Prop} {o:Oper} {rest:List Oper} {k:Nat} {a:Act} (hk:k≠j0) (hw:Region.wanted o (yielded ops a.tmps)=true) (ty:TypeId) (x:Operand) (ho:o.op=.load ty x) (b off:Nat) (hx:a.eval x=.pointer (some ⟨b,off,none⟩)) (cs:List Value) {d:TypeDesc} (hC:∀ w,C w→w.rangeAt b off cs) (hR:∀ w,R z w→w.rangeAt b off cs)
  (hu:P.underlying ty=some d) (hd:d.isRow=true) (hi:(P.info? ty).map (·.size)=some cs.length) (h:zHm P ops C R j0 z Lq rest (k+1) (a.put o.dst (.agg cs.toArray))):zHm P ops C R j0 z Lq (o::rest) k a:=by
 have hr:∀ w,w.rangeAt b off cs→(execOp a.eval o).run P w=.ok (.value (.agg cs.toArray)) w:=fun w hw'=>by
  unfold execOp
  simp only [ho,hx,Instr.loadAt,Instr.sureAddr,Sem.run_bind,Sem.run_pure,Result.andThen_ok,run_loadVar_mid w b off ty cs d hw' hu hd hi]
 exact zGv hk _ hw (fun w h=>hr w (hC w h)) (fun w h=>hr w (hR w h)) h
end
end Go.Tail
namespace Go.Tail
open Go
section
variable {P:Program} {ops:Array Oper} {md:Region.Mode} {Q:Exit→Act→World→Prop} {S:World→Prop}
end
end Go.Tail
end
section
namespace Go.Tail
open Go
section
variable {P:Program} {ops:Array Oper} {md:Region.Mode} {isM:Nat→Bool} {kn:Nat→Option Value} {J:(Nat→Bool)→(Nat→Value)→World→Prop}
def zKz (md:Region.Mode) (ops:Array Oper):Nat→Nat→List Nat
 | 0,_=>[]
 | f+1,j=>match ops[j]? with
   | none=>[]
   | some o=>(o.after.toList.filter fun e=>Region.binds md e).flatMap fun e=>e.on::zKz md ops f e.on
theorem zEC {listed:Array Bool} (hcl:∀ j oj,ops[j]?=some oj→listed.getD j false=true→∀ e∈oj.after,Region.binds md e=true→listed.getD e.on false=true) :
  ∀ (f j:Nat),(∀ oj,ops[j]?=some oj→∀ e∈oj.after,Region.binds md e=true→listed.getD e.on false=true)→∀ k∈zKz md ops f j,listed.getD k false=true
 | 0,_,_,k,hk=>by cases hk
 | f+1,j,h,k,hk=>by
   unfold zKz at hk
   cases ho:ops[j]? with
   | none=>rw [ho] at hk;cases hk
   | some o =>
     rw [ho] at hk
     obtain ⟨e,he,hk⟩:=List.mem_flatMap.1 hk
     rw [List.mem_filter] at he
     have h1:=h o ho e (by simpa using he.1) he.2
     rcases List.mem_cons.1 hk with rfl | hk
     · exact h1
     · exact zEC hcl f e.on (fun oj hj=>hcl e.on oj hj h1) k hk
def Dm (isM:Nat→Bool) (listed:Array Bool):Nat→Bool:=fun k=>isM k && listed.getD k false
def zAZ (D:Nat→Bool) (i:Nat):Nat→Bool:=fun k=>if k=i then true else D k
def zAc (z:Nat→Value) (i:Nat) (v:Value):Nat→Value:=fun k=>if k=i then v else z k
def dep (md:Region.Mode) (ops:Array Oper) (isM:Nat→Bool) (i k:Nat):Bool:=isM k && (zKz md ops ops.size i).contains k
def pre (md:Region.Mode) (ops:Array Oper) (isM:Nat→Bool) (k i:Nat):Bool:=isM k && (zKz md ops ops.size k).contains i
def Mv (P:Program) (kn:Nat→Option Value) (J:(Nat→Bool)→(Nat→Value)→World→Prop) (D:Nat→Bool) (z:Nat→Value) (i:Nat) (o:Oper) (a:Act) (w:World):Prop :=
 (∃ f args,(execOp a.eval o).run P w=.ok (.enter f args) w∧Calls P f args w fun e w'=>∃ v,e=.returned v∧(∀ c,kn i=some c→v=c)∧J (zAZ D i) (zAc z i v) w') ∨
 (∃ v w',(execOp a.eval o).run P w=.ok (.value v) w'∧(∀ c,kn i=some c→v=c)∧J (zAZ D i) (zAc z i v) w') ∨
 (∃ w',(execOp a.eval o).run P w=.ok .skip w'∧(∀ c,kn i=some c→undef=c)∧J (zAZ D i) (zAc z i undef) w')
def YJ (P:Program) (md:Region.Mode) (ops:Array Oper) (isM:Nat→Bool) (kn:Nat→Option Value) (J:(Nat→Bool)→(Nat→Value)→World→Prop) (z:Nat→Value) (i:Nat) (o:Oper) (v:Value) (a:Act):Prop :=
 (isM i=false∧Region.wanted o (yielded ops a.tmps)=true∧∀ D w,(∀ k,dep md ops isM i k=true→D k=true)→(∀ k,pre md ops isM k i=true→D k=false)→J D z w→(execOp a.eval o).run P w=.ok (.value v) w) ∨
 (isM i=false∧Region.wanted o (yielded ops a.tmps)=false∧v=undef) ∨
 (isM i=true∧Region.wanted o (yielded ops a.tmps)=true∧v=(kn i).getD (z i)∧∀ D z' w,D i=false→(∀ k,D k=true→z k=z' k)→(∀ k,dep md ops isM i k=true→D k=true)→(∀ k,pre md ops isM k i=true→D k=false)→J D z' w→Mv P kn J D z' i o a w)
theorem YJ.of_same {z:Nat→Value} {i:Nat} {o:Oper} {v:Value} {a a':Act} (h:YJ P md ops isM kn J z i o v a) (he:execOp a'.eval o=execOp a.eval o)
  (hw:Region.wanted o (yielded ops a'.tmps)=Region.wanted o (yielded ops a.tmps)):YJ P md ops isM kn J z i o v a':=by
 unfold YJ Mv at *
 rw [he,hw]
 exact h
theorem YJ.put {z:Nat→Value} {i:Nat} {oi oj:Oper} {v u:Value} {a:Act} (h:YJ P md ops isM kn J z i oi v a) (hap:oi.apart ops oj=true) (hsi:∀ cs b,oi.op≠.select cs b):YJ P md ops isM kn J z i oi v (a.put oj.dst u):=by
 obtain ⟨_,_,h3⟩:=Oper.apart_spec hap
 exact h.of_same (execOp_put oi hsi a oj.dst u h3) (wanted_put oi a oj.dst u h3)
theorem YJ.unput {z:Nat→Value} {j:Nat} {oi oj:Oper} {v u:Value} {a:Act} (h:YJ P md ops isM kn J z j oj u (a.put oi.dst v)) (hap:oi.apart ops oj=true) (hsj:∀ cs b,oj.op≠.select cs b):YJ P md ops isM kn J z j oj u a:=by
 obtain ⟨h1,_,_⟩:=Oper.apart_spec hap
 exact h.of_same (execOp_put oj hsj a oi.dst v h1).symm (wanted_put oj a oi.dst v h1).symm
def HJ (P:Program) (md:Region.Mode) (ops:Array Oper) (isM:Nat→Bool) (kn:Nat→Option Value) (J:(Nat→Bool)→(Nat→Value)→World→Prop) (z:Nat→Value) (n:Nat) (L:Array Bool→Act→Prop):Nat→Array Bool→Act→Prop
 | 0,listed,a=>L listed a
 | f+1,listed,a=>Region.ready md ops listed≠[]∧∀ i,i∈Region.ready md ops listed→i < n∧∃ oi v,ops[i]?=some oi∧YJ P md ops isM kn J z i oi v a∧HJ P md ops isM kn J z n L f (listed.setIfInBounds i true) (a.put oi.dst v)
theorem dm_set {listed:Array Bool} {i:Nat} (hi:listed.getD i true=false):Dm isM (listed.setIfInBounds i true)=if isM i=true then zAZ (Dm isM listed) i else Dm isM listed:=by
 have hlt:i < listed.size:=by
  rcases Nat.lt_or_ge i listed.size with h | h
  · exact h
  · simp [Array.getElem?_eq_none h] at hi
 funext k
 by_cases hm:isM i=true
 · rw [if_pos hm]
   show (isM k && (listed.setIfInBounds i true).getD k false)=if k=i then true else (isM k && listed.getD k false)
   by_cases e:k=i
   · subst e
     rw [if_pos rfl,hm]
     simp [hlt]
   · rw [if_neg e,getD_set_ne false (Ne.symm e)]
 · rw [if_neg hm]
   show (isM k && (listed.setIfInBounds i true).getD k false)=(isM k && listed.getD k false)
   by_cases e:k=i
   · subst e
     have:isM k=false:=by simpa using hm
     rw [this,Bool.false_and,Bool.false_and]
   · rw [getD_set_ne false (Ne.symm e)]
theorem any_J {n g:Nat} {L:(Nat→Value)→Array Bool→Act→Prop} {Q:Exit→Act→World→Prop} (hloc:∀ D z z' w,(∀ k,D k=true→z k=z' k)→J D z w→J D z' w)
  (hL:∀ z listed a w,J (Dm isM listed) z w→L z listed a→wpAny P md ops Q g listed a w) :
  ∀ (f:Nat) (listed:Array Bool) (a:Act) (w:World) (z:Nat→Value),HeadInv md ops n listed→J (Dm isM listed) z w→(∀ z',(∀ k,Dm isM listed k=true→z k=z' k)→HJ P md ops isM kn J z' n (L z') f listed a)→wpAny P md ops Q (f+g) listed a w:=by
 intro f
 induction f with
 | zero=>intro listed a w z _ hw h;rw [Nat.zero_add];exact hL _ _ _ _ hw (h z fun _ _=>rfl)
 | succ f ih =>
   intro listed a w z inv hJ h
   rw [show f+1+g=(f+g)+1 from by omega]
   have h0:=h z (fun _ _=>rfl)
   refine ⟨fun h1=>absurd h1 h0.1,fun i hi=>?_⟩
   obtain ⟨hin,oi,v,hoi,hy,hK⟩:=h0.2 i hi
   have hun:=(mem_ready.1 hi).1
   have hset:=dm_set (isM:=isM) hun
   have hdep:∀ k,dep md ops isM i k=true→Dm isM listed k=true:=fun k hk=>by
    unfold dep at hk
    rw [Bool.and_eq_true] at hk
    have hk2:k∈zKz md ops ops.size i:=by simpa using hk.2
    unfold Dm
    rw [hk.1,Bool.true_and]
    refine zEC inv.closed _ _ (fun oj hj=>?_) k hk2
    obtain ⟨_,oj',hoj',hall⟩:=mem_ready.1 hi
    have e1:oj=oj':=Option.some.inj (hj.symm.trans hoj')
    subst e1
    exact hall
   have hpre:∀ k,pre md ops isM k i=true→Dm isM listed k=false:=fun k hk=>by
    unfold pre at hk
    rw [Bool.and_eq_true] at hk
    have hk2:i∈zKz md ops ops.size k:=by simpa using hk.2
    cases hD:Dm isM listed k with
    | false=>rfl
    | true =>
      unfold Dm at hD
      rw [Bool.and_eq_true] at hD
      have:=zEC inv.closed _ _ (fun oj hj=>inv.closed k oj hj hD.2) i hk2
      rw [getD_both hun] at this
      cases this
   unfold wpOp
   simp only [hoi]
   rcases hy with ⟨hm,hwt,hv⟩ | ⟨hm,hwt,rfl⟩ | ⟨hm,hwt,rfl,hv⟩
   · have hrun:=hv _ w hdep hpre hJ
     simp only [hwt,if_true]
     refine .inl ?_
     unfold Oper.wp
     rw [hrun]
     rw [hm,if_neg (by decide)] at hset
     refine ih _ _ _ z (inv.set hi hin) (by rw [hset];exact hJ) (fun z' hz'=>?_)
     rw [hset] at hz'
     obtain ⟨_,oi',v',hoi',hy',hK'⟩:=(h z' hz').2 i hi
     have eo:oi'=oi:=Option.some.inj (hoi'.symm.trans hoi)
     subst eo
     rcases hy' with ⟨_,_,hv'⟩ | ⟨_,hwt',_⟩ | ⟨hm',_⟩
     · have e:=(hv' _ w hdep hpre (hloc _ _ _ _ hz' hJ)).symm.trans hrun
       injection e with e1 _
       injection e1 with e1
       rw [← e1];exact hK'
     · rw [hwt] at hwt';cases hwt'
     · rw [hm] at hm';cases hm'
   · simp only [hwt,Bool.false_eq_true,if_false]
     rw [hm,if_neg (by decide)] at hset
     refine ih _ _ _ z (inv.set hi hin) (by rw [hset];exact hJ) (fun z' hz'=>?_)
     rw [hset] at hz'
     obtain ⟨_,oi',v',hoi',hy',hK'⟩:=(h z' hz').2 i hi
     have eo:oi'=oi:=Option.some.inj (hoi'.symm.trans hoi)
     subst eo
     rcases hy' with ⟨_,hwt',_⟩ | ⟨_,_,e1⟩ | ⟨_,hwt',_⟩
     · rw [hwt] at hwt';cases hwt'
     · rw [← e1];exact hK'
     · rw [hwt] at hwt';cases hwt'
   · rw [hm,if_pos rfl] at hset
     simp only [hwt,if_true]
     refine .inl ?_
     have hDi:Dm isM listed i=false:=by unfold Dm;rw [getD_both hun,Bool.and_false]
     have next:∀ v' w',(∀ c,kn i=some c→v'=c)→J (zAZ (Dm isM listed) i) (zAc z i v') w'→wpAny P md ops Q (f+g) (listed.setIfInBounds i true) (a.put oi.dst v') w':=by
      intro v' w' hc hJ'
      refine ih _ _ _ (zAc z i v') (inv.set hi hin) (by rw [hset];exact hJ') (fun z'' hz''=>?_)
      rw [hset] at hz''
      have hzi:v'=z'' i:=by
       have:=hz'' i (by simp [zAZ])
       simpa [zAc] using this
      obtain ⟨_,oi',u,hoi',hy',hK'⟩:=(h z'' (fun k hk=>by
       have hki:k≠i:=fun e=>by rw [e,hDi] at hk;cases hk
       have:=hz'' k (by simp [zAZ,hk])
       simpa [zAc,hki] using this)).2 i hi
      have eo:oi'=oi:=Option.some.inj (hoi'.symm.trans hoi)
      subst eo
      rcases hy' with ⟨hm',_⟩ | ⟨hm',_⟩ | ⟨_,_,e1,_⟩
      · rw [hm] at hm';cases hm'
      · rw [hm] at hm';cases hm'
      · have e2:u=v':=by
         rw [e1]
         cases hkn:kn i with
         | none=>exact hzi.symm
         | some c=>exact (hc c hkn).symm
        rw [← e2];exact hK'
     rcases hv _ z w hDi (fun _ _=>rfl) hdep hpre hJ with ⟨fn,args,hr,hcalls⟩ | ⟨v',w',hr,hc,hJ'⟩ | ⟨w',hr,hc,hJ'⟩
     · unfold Oper.wp
       rw [hr]
       refine hcalls.mono ?_
       rintro e w'' ⟨v',rfl,hc,hJ'⟩
       exact next v' w'' hc hJ'
     · unfold Oper.wp
       rw [hr]
       exact next v' w' hc hJ'
     · unfold Oper.wp
       rw [hr]
       exact next undef w' hc hJ'
theorem zOv {z:Nat→Value} {n i:Nat} {oi:Oper} {v:Value} {L:Array Bool→Act→Prop} (hi:ops[i]?=some oi) (hsel:∀ (j:Nat) (o:Oper) cs b,ops[j]?=some o→o.op≠.select cs b)
  (hs:Region.sinkB md ops n=true) (hc:Region.chainB md ops n=true) (hn:n < ops.size) (hin:i < n) (hdone:∀ listed a,L listed a→∀ j,j∈Region.ready md ops listed→n≤j) :
  ∀ (f:Nat) (listed:Array Bool) (a:Act),HeadInv md ops n listed →
    (∀ j oj,ops[j]?=some oj→j≠i→listed.getD j true=false→(∀ e∈oj.after,Region.binds md e=true→e.on≠i)→oi.apart ops oj=true) →
    i∈Region.ready md ops listed→YJ P md ops isM kn J z i oi v a →
    HJ P md ops isM kn J z n L f (listed.setIfInBounds i true) (a.put oi.dst v)→HJ P md ops isM kn J z n L (f+1) listed a:=by
 intro f
 induction f with
 | zero =>
   intro listed a inv _ hr hy H
   have hun:=(mem_ready.1 hr).1
   refine ⟨fun h=>(by rw [h] at hr;cases hr),fun j hj=>?_⟩
   have hjn:j < n:=Nat.lt_of_not_le fun h=>tail_waits hs hc hn inv _ i rfl hin hun j h hj
   by_cases e:j=i
   · subst e;exact ⟨hjn,oi,v,hi,hy,H⟩
   · have:=hdone _ _ H j (ready_mono hj e)
     omega
 | succ f ih =>
   intro listed a inv hfree hr hy H
   have hun:=(mem_ready.1 hr).1
   refine ⟨fun h=>(by rw [h] at hr;cases hr),fun j hj=>?_⟩
   have hjn:j < n:=Nat.lt_of_not_le fun h=>tail_waits hs hc hn inv _ i rfl hin hun j h hj
   refine ⟨hjn,?_⟩
   by_cases e:j=i
   · subst e;exact ⟨oi,v,hi,hy,H⟩
   · obtain ⟨hjun,oj,hoj,hall⟩:=mem_ready.1 hj
     have hnot:∀ e∈oj.after,Region.binds md e=true→e.on≠i:=fun e' he hb heq=>by
      have h1:=hall e' he hb
      rw [heq,getD_both hun] at h1
      cases h1
     have hap:=hfree j oj hoj e hjun hnot
     obtain ⟨_,oj',u,hoj',hyj,hKj⟩:=H.2 j (ready_mono hj e)
     have e1:oj'=oj:=Option.some.inj (hoj'.symm.trans hoj)
     subst e1
     have hfree':∀ k ok,ops[k]?=some ok→k≠i→(listed.setIfInBounds j true).getD k true=false →
       (∀ e∈ok.after,Region.binds md e=true→e.on≠i)→oi.apart ops ok=true:=fun k ok hk hki hun' hno=>by
      refine hfree k ok hk hki ?_ hno
      by_cases hjk:j=k
      · subst hjk;exact hjun
      · rw [getD_set_ne true hjk] at hun';exact hun'
     refine ⟨oj',u,hoj,hyj.unput hap (fun cs b=>hsel j oj' cs b hoj),?_⟩
     refine ih (listed.setIfInBounds j true) _ (inv.set hj hjn) hfree' (ready_mono hr (Ne.symm e)) (hy.put hap (fun cs b=>hsel i oi cs b hi)) ?_
     rw [Array.setIfInBounds_comm _ _ e]
     have hcomm:=Act.put_comm a v u (Oper.apart_spec hap).2.1
     rw [← hcomm]
     exact hKj
def wpJ (P:Program) (ops:Array Oper) (isM:Nat→Bool) (kn:Nat→Option Value) (J:(Nat→Bool)→(Nat→Value)→World→Prop) (z:Nat→Value) (Lq:Act→Prop):List Oper→Nat→Act→Prop
 | [],_,a=>Lq a
 | o::rest,k,a=>∃ v,YJ P .any ops isM kn J z k o v a∧wpJ P ops isM kn J z Lq rest (k+1) (a.put o.dst v)
theorem lex_J {z:Nat→Value} {n g:Nat} {Lq:Act→Prop} (hsel:Region.noSelect ops=true) (hs:Region.sinkB .any ops n=true) (hc:Region.chainB .any ops n=true) (hn:n < ops.size) :
  ∀ (l:List Oper) (k:Nat) (listed:Array Bool) (a:Act),(∀ j,j < l.length→l[j]?=ops[k+j]?)→k+l.length=n→HeadInv .any ops n listed→(∀ i,i < k→listed.getD i false=true) →
  Region.lexHead .any ops g l.length k listed=true→wpJ P ops isM kn J z Lq l k a →
  HJ P .any ops isM kn J z n (fun listed' a'=>Region.seqB .any ops g n listed'=true∧(∀ i,i < n→listed'.getD i false=true)∧Lq a') l.length listed a:=by
 intro l
 induction l with
 | nil =>
   intro k listed a _ hk _ hdone hB h
   have:k=n:=by simpa using hk
   subst this
   exact ⟨by simpa [Region.lexHead] using hB,hdone,h⟩
 | cons o l ih =>
   intro k listed a hl hk inv hdone hB h
   have h0:ops[k]?=some o:=by simpa using (hl 0 (by simp)).symm
   simp only [List.length_cons,Region.lexHead,Bool.and_eq_true] at hB
   obtain ⟨⟨hr,hf⟩,hB'⟩:=hB
   have hkn:k < n:=by simp only [List.length_cons] at hk;omega
   have hr':k∈Region.ready .any ops listed:=by simpa using hr
   obtain ⟨v,hy,hK⟩:=h
   refine zOv h0 (Region.noSelect_spec hsel) hs hc hn hkn (fun listed' a' hL=>seqB_ready hL.1) l.length listed a inv (Region.free_spec h0 hf) hr' hy ?_
   refine ih (k+1) _ _ (fun j hj=>by have:=hl (j+1) (by simp;omega);simpa [Nat.add_assoc,Nat.add_comm 1 j] using this) (by simp only [List.length_cons] at hk;omega) (inv.set hr' hkn) (fun i hi=>?_) hB' hK
   have hks:k < listed.size:=by rw [inv.size];omega
   by_cases e:k=i
   · subst e;simp [hks]
   · rw [getD_set_ne false e];exact hdone i (by omega)
theorem zBa {id:Nat} {Q:Exit→Act→World→Prop} {a:Act} {w:World} {l:List Oper} (n:Nat) (isM:Nat→Bool) (kn:Nat→Option Value) (J:(Nat→Bool)→(Nat→Value)→World→Prop) (hm:P.follows .mixedOrders=true)
  (hB:Region.lexTailB .any l.toArray n=true) (hM:∀ k,isM k=true→k < n) (hloc:∀ D z z' w,(∀ k,D k=true→z k=z' k)→J D z w→J D z' w) (hJ:J (fun _=>false) (fun _=>undef) w.drew)
  (h:∀ z,wpJ P l.toArray isM kn J z (fun a'=>∀ w',J isM z w'→wpList P l.toArray Q (l.drop n) a' w') (l.take n) 0 a) :
  (Code.region id l.toArray true).wp P Q a w:=by
 simp only [Region.lexTailB,Bool.and_eq_true,decide_eq_true_eq] at hB
 obtain ⟨⟨⟨⟨hsel,hn⟩,hs⟩,hc⟩,hlex⟩:=hB
 have hn':n < l.length:=by simpa using hn
 have htl:(l.take n).length=n:=by simp;omega
 have inv0:HeadInv .any l.toArray n (Array.replicate l.toArray.size false) :=
  ⟨by simp,fun j oj _ hl=>(by rw [getD_replicate_false] at hl;cases hl),fun t _ ht=>getD_in (by simpa using ht) (getD_replicate_false _ _)⟩
 have H:=fun z=>lex_J (isM:=isM) (kn:=kn) (J:=J) (z:=z) (g:=l.toArray.size - n) hsel hs hc hn (l.take n) 0 _ a (fun j hj=>by
  have hj':j < n:=by rw [htl] at hj;exact hj
  simp [hj']) (by simpa using htl) inv0 (fun i hi=>by omega) (by rw [htl];exact hlex) (h z)
 refine wp_region_any hm ?_
 have hD0:Dm isM (Array.replicate l.toArray.size false)=fun _=>false:=by
  funext k
  unfold Dm
  rw [getD_replicate_false,Bool.and_false]
 have:=any_J (n:=n) (isM:=isM) (kn:=kn) (J:=J) (Q:=Q) (g:=l.toArray.size - n) (L:=fun z listed' a'=>Region.seqB .any l.toArray (l.toArray.size - n) n listed'=true∧(∀ i,i < n→listed'.getD i false=true)∧∀ w',J isM z w'→wpList P l.toArray Q (l.drop n) a' w') hloc (fun z listed a' w' hw' hL=>by
  have e:l.toArray.size - n=(l.drop n).length:=by simp
  rw [e]
  refine wpAny_of_seq (l.drop n) n listed a' w' (fun j=>by simp) (by rw [← e];exact hL.1) (hL.2.2 w' ?_)
  have hDM:Dm isM listed=isM:=by
   funext k
   unfold Dm
   cases hk:isM k with
   | false=>rfl
   | true=>rw [hL.2.1 k (hM k hk)];rfl
  rwa [hDM] at hw') _ _ a w.drew (fun _=>undef) inv0 (by rw [hD0];exact hJ) (fun z' _=>H z')
 rw [htl,show n+(l.toArray.size - n)=l.toArray.size from by omega] at this
 exact this
theorem zKw {z:Nat→Value} {Lq:Act→Prop} {o:Oper} {rest:List Oper} {k:Nat} {a:Act} (hk:isM k=false) (v:Value) (hw:Region.wanted o (yielded ops a.tmps)=true) (h1:∀ D w,(∀ k',dep .any ops isM k k'=true→D k'=true)→(∀ k',pre .any ops isM k' k=true→D k'=false)→J D z w→(execOp a.eval o).run P w=.ok (.value v) w) (h:wpJ P ops isM kn J z Lq rest (k+1) (a.put o.dst v)) :
 wpJ P ops isM kn J z Lq (o::rest) k a:=⟨v,.inl ⟨hk,hw,h1⟩,h⟩
theorem zAz {z:Nat→Value} {Lq:Act→Prop} {o:Oper} {rest:List Oper} {k:Nat} {a:Act} (hk:isM k=false) (hw:Region.wanted o (yielded ops a.tmps)=true) (h:∃ v,(∀ w,(execOp a.eval o).run P w=.ok (.value v) w)∧wpJ P ops isM kn J z Lq rest (k+1) (a.put o.dst v)) :
  wpJ P ops isM kn J z Lq (o::rest) k a:=by
 obtain ⟨v,h1,h2⟩:=h
 exact zKw hk v hw (fun _ w _ _ _=>h1 w) h2
theorem zHp {z:Nat→Value} {Lq:Act→Prop} {o:Oper} {rest:List Oper} {k:Nat} {a:Act} (hk:isM k=false) (hw:Region.wanted o (yielded ops a.tmps)=true) (h:∃ v,(∀ D w,(∀ k',dep .any ops isM k k'=true→D k'=true)→(∀ k',pre .any ops isM k' k=true→D k'=false)→J D z w→(execOp a.eval o).run P w=.ok (.value v) w)∧wpJ P ops isM kn J z Lq rest (k+1) (a.put o.dst v)) :
  wpJ P ops isM kn J z Lq (o::rest) k a:=by
 obtain ⟨v,h1,h2⟩:=h
 exact zKw hk v hw h1 h2
theorem zCF {z:Nat→Value} {Lq:Act→Prop} {o:Oper} {rest:List Oper} {k:Nat} {a:Act} (hk:isM k=false) (hw:Region.wanted o (yielded ops a.tmps)=false) (h:wpJ P ops isM kn J z Lq rest (k+1) (a.put o.dst undef)) :
 wpJ P ops isM kn J z Lq (o::rest) k a:=⟨undef,.inr (.inl ⟨hk,hw,rfl⟩),h⟩
theorem zB5 {z:Nat→Value} {Lq:Act→Prop} {o:Oper} {rest:List Oper} {k:Nat} {a:Act} (hk:isM k=false) (hw:Region.wanted o (yielded ops a.tmps)=true) (ty:TypeId) (x:Operand) (ho:o.op=.load ty x) (b off:Nat) (hx:a.eval x=.pointer (some ⟨b,off,none⟩)) (cs:List Value) {d:TypeDesc} (hC:∀ D w,(∀ k',dep .any ops isM k k'=true→D k'=true)→(∀ k',pre .any ops isM k' k=true→D k'=false)→J D z w→w.rangeAt b off cs)
  (hu:P.underlying ty=some d) (hd:d.isRow=true) (hi:(P.info? ty).map (·.size)=some cs.length) (h:wpJ P ops isM kn J z Lq rest (k+1) (a.put o.dst (.agg cs.toArray))):wpJ P ops isM kn J z Lq (o::rest) k a:=by
 refine zKw hk _ hw (fun D w hD hP hJ=>?_) h
 unfold execOp
 simp only [ho,hx,Instr.loadAt,Instr.sureAddr,Sem.run_bind,Sem.run_pure,Result.andThen_ok,run_loadVar_mid w b off ty cs d (hC D w hD hP hJ) hu hd hi]
theorem zBA {z:Nat→Value} {Lq:Act→Prop} {o:Oper} {rest:List Oper} {k:Nat} {a:Act} (hk:isM k=true) (hw:Region.wanted o (yielded ops a.tmps)=true)
  (h1:∃ f args,(∀ w,(execOp a.eval o).run P w=.ok (.enter f args) w)∧∀ D z' w,D k=false→(∀ k',D k'=true→z k'=z' k')→(∀ k',dep .any ops isM k k'=true→D k'=true)→(∀ k',pre .any ops isM k' k=true→D k'=false)→J D z' w→Calls P f args w fun e w'=>∃ v,e=.returned v∧(∀ c,kn k=some c→v=c)∧J (zAZ D k) (zAc z' k v) w')
  (h:wpJ P ops isM kn J z Lq rest (k+1) (a.put o.dst ((kn k).getD (z k)))):wpJ P ops isM kn J z Lq (o::rest) k a:=by
 obtain ⟨f,args,hr,hc⟩:=h1
 exact ⟨_,.inr (.inr ⟨hk,hw,rfl,fun D z' w hD hz hd hp hJ=>.inl ⟨f,args,hr w,hc D z' w hD hz hd hp hJ⟩⟩),h⟩
theorem J_sto {z:Nat→Value} {Lq:Act→Prop} {o:Oper} {rest:List Oper} {k:Nat} {a:Act} (hk:isM k=true) (hw:Region.wanted o (yielded ops a.tmps)=true)
  (h1:∀ D z' w,D k=false→(∀ k',D k'=true→z k'=z' k')→(∀ k',dep .any ops isM k k'=true→D k'=true)→(∀ k',pre .any ops isM k' k=true→D k'=false)→J D z' w→∃ w',(execOp a.eval o).run P w=.ok .skip w'∧(∀ c,kn k=some c→undef=c)∧J (zAZ D k) (zAc z' k undef) w')
  (h:wpJ P ops isM kn J z Lq rest (k+1) (a.put o.dst ((kn k).getD (z k)))):wpJ P ops isM kn J z Lq (o::rest) k a :=
 ⟨_,.inr (.inr ⟨hk,hw,rfl,fun D z' w hD hz hd hp hJ=>.inr (.inr (h1 D z' w hD hz hd hp hJ))⟩),h⟩
end
end Go.Tail
end
section
namespace Go.Mem
open Go Go.RowKit Gf Lea
structure zF where
 slots:Nat
 room:Nat
 st:St
 tab:List Les
 broken:Bool
def zF.dead (s:zF):Bool:=s.broken || (s.st.disk.dead || s.st.dead)
def zJ (ix:Key) (n:Nat):ByteArray:=⟨(115::(ix++[UInt8.ofNat n])).toArray⟩
def zAM (ix:Key):ByteArray:=⟨(99::ix).toArray⟩
def zD (ix:Key):ByteArray:=⟨(108::ix).toArray⟩
end Go.Mem
namespace Go.Proofs.YtbbojbdigiibbaaGreatDoor
open Go Go.RowKit Go.Mem Gf Lea
def Core (pb sb lb d L tb:Nat) (v:Value) (b:Nat):Prop:=zBi sb lb d L b∨b=pb∨b=tb∨v.ownBlock=some b
def srvV (slots room d sb tb:Nat) (broken:Bool):Array Value:=#[.int .i64 slots,.int .i64 room,.pointer (some ⟨d,0,none⟩),.pointer (some ⟨sb,0,none⟩),.pointer (some ⟨tb,0,none⟩),.bool broken]
structure zAv (w:World) (C X:Nat→Prop) (pb sb lb d L tb:Nat) (v:Value) (s:zF):Prop where
 blk:Blk w pb (srvV s.slots s.room d sb tb s.broken) 95
 st:zi w (fun b=>C b∨X b) sb lb d L s.st
 heap:Heap w tb v s.tab
 good:Lea.Good s.tab
 core:∀ b,Core pb sb lb d L tb v b→C b
 xc:∀ b,X b→¬ C b
 npb:¬ zBi sb lb d L pb
 ntb:¬ zBi sb lb d L tb∧tb≠pb
 nown:∀ g,v.ownBlock=some g→¬ zBi sb lb d L g∧g≠pb
def zR (w:World) (C X:Nat→Prop) (pb:Nat) (s:zF):Prop:=∃ sb lb d L tb v,zAv w C X pb sb lb d L tb v s
section
variable {w w':World} {C X S:Nat→Prop} {pb sb lb d L tb:Nat} {v:Value} {s:zF}
theorem zAv.lt (h:zAv w C X pb sb lb d L tb v s) {b:Nat} (hb:C b∨X b):b < w.heap.size:=h.st.old b hb
theorem zAv.pb_lt (h:zAv w C X pb sb lb d L tb v s):pb < w.heap.size:=h.blk.lt
theorem zAv.tab (h:zAv w C X pb sb lb d L tb v s):Tab w:=h.st.tab
theorem zAv.chg (h:zAv w C X pb sb lb d L tb v s) (hc:Chg S w w') (h1:∀ b,S b→¬ C b) (h2:∀ b,S b→b < w.heap.size→X b):zAv w' C X pb sb lb d L tb v s:=by
 have hk:∀ b,Core pb sb lb d L tb v b→¬ S b:=fun b hb hS=>h1 b hS (h.core b hb)
 exact ⟨hc.blk h.blk (hk _ (.inr (.inl rfl))),h.st.chg hc (fun b hb=>hk b (.inl hb)) (fun b hS hlt=>.inr (h2 b hS hlt)),⟨h.heap.tab.chg hc (hk _ (.inr (.inr (.inl rfl)))) (fun g hg=>hk g (.inr (.inr (.inr hg)))),h.heap.heap⟩,h.good,h.core,h.xc,h.npb,h.ntb,h.nown⟩
theorem zAv.below (h:zAv w C X pb sb lb d L tb v s) (hb:Below w.heap.size w w'):zAv w' C X pb sb lb d L tb v s :=
 h.chg (S:=fun _=>False) (Chg.of_below hb) (fun _ h=>h.elim) (fun _ h=>h.elim)
theorem zR.below (h:zR w C X pb s) (hb:Below w.heap.size w w'):zR w' C X pb s:=by
 obtain ⟨sb,lb,d,L,tb,v,h⟩:=h
 exact ⟨sb,lb,d,L,tb,v,h.below hb⟩
theorem zR.chg (h:zR w C X pb s) (hc:Chg S w w') (h1:∀ b,S b→¬ C b) (h2:∀ b,S b→b < w.heap.size→X b):zR w' C X pb s:=by
 obtain ⟨sb,lb,d,L,tb,v,h⟩:=h
 exact ⟨sb,lb,d,L,tb,v,h.chg hc h1 h2⟩
theorem zR.lt (h:zR w C X pb s) {b:Nat} (hb:C b∨X b):b < w.heap.size:=by
 obtain ⟨sb,lb,d,L,tb,v,h⟩:=h
 exact h.lt hb
theorem zR.tab (h:zR w C X pb s):Tab w:=by
 obtain ⟨sb,lb,d,L,tb,v,h⟩:=h
 exact h.tab
theorem zR.ok (h:zR w C X pb s):s.st.Ok:=by
 obtain ⟨sb,lb,d,L,tb,v,h⟩:=h
 exact h.st.ok
theorem zR.growX {X':Nat→Prop} (h:zR w C X pb s) (h1:∀ b,X b→X' b) (h2:∀ b,X' b→X b∨w.heap.size≤b) (hb:Below w.heap.size w w') (h3:∀ b,X' b→b < w'.heap.size):zR w' C X' pb s:=by
 obtain ⟨sb,lb,d,L,tb,v,h⟩:=h
 have h':=h.below hb
 have hs:=hb.size
 refine ⟨sb,lb,d,L,tb,v,h'.blk,h.st.grow (S:=fun _=>False) (Chg.of_below hb) (fun _ _ h=>h) (fun _ h=>h.elim) (fun b hM=>?_) (fun b hN=>?_) (fun b hM=>?_),h'.heap,h'.good,h'.core,fun b hX hC=>?_,h'.npb,h'.ntb,h'.nown⟩
 · rcases hM with hM | hM
   · exact .inl (.inl hM)
   · rcases h2 b hM with h | h
     · exact .inl (.inr h)
     · exact .inr h
 · rcases hN with hN | hN
   · exact .inl hN
   · exact .inr (h1 b hN)
 · rcases hM with hM | hM
   · exact Nat.lt_of_lt_of_le (h.lt (.inl hM)) hs
   · exact h3 b hM
 · rcases h2 b hX with h4 | h4
   · exact h.xc b h4 hC
   · have:=h.lt (.inl hC);omega
def zAO (C C':Nat→Prop) (w w':World):Prop:=Chg C w w'∧∀ b,C' b→C b∨w.heap.size≤b
theorem zAO.of_below (hb:Below w.heap.size w w'):zAO C C w w':=⟨Chg.of_below hb,fun _ h=>.inl h⟩
theorem zAO.trans {C1 C2:Nat→Prop} {w1 w2:World} (h:zAO C C1 w w1) (h':zAO C1 C2 w1 w2):zAO C C2 w w2 :=
 ⟨h.1.mix h'.1 (fun b hb=>h.2 b hb),fun b hb=>by
  rcases h'.2 b hb with h1 | h1
  · exact h.2 b h1
  · exact .inr (Nat.le_trans h.1.size h1)⟩
theorem zAO.pre {C':Nat→Prop} {w1:World} (hb:Below w.heap.size w w1) (h':zAO C C' w1 w'):zAO C C' w w':=(zAO.of_below hb).trans h'
theorem zAO.post {C':Nat→Prop} {w1:World} (h:zAO C C' w w1) (hb:Below w1.heap.size w1 w'):zAO C C' w w':=h.trans (zAO.of_below hb)
end
attribute [local go_sem ↓] Go.wp_at_zero Go.wp_at_succ
set_option maxRecDepth 100000 in
theorem zKf (N:Nat→Prop) (sb lb d L:Nat) (s:St) (w:World) (h:zi w N sb lb d L s) :
  Calls Tryz.prog 44 #[.pointer (some ⟨sb,0,none⟩)] w fun e w'=>e=.returned (.bool s.dead)∧w=w':=by
 obtain ⟨lc,hS,hlc1,hlc2⟩:=h.blk
 have c3:w.cell? ⟨sb,3,none⟩=some (.bool s.dead):=hS.cell 3
 clear h hS
 go_enter Tryz.func44,Tryz.ntmps44
 go_wp2
 go_ret
 exact ⟨rfl,rfl⟩
set_option maxRecDepth 100000 in
theorem zBn (C X:Nat→Prop) (pb:Nat) (s:zF) (w:World) (h:zR w C X pb s) :
  Calls Tryz.prog 19 #[.pointer (some ⟨pb,0,none⟩)] w fun e w'=>e=.returned (.bool s.dead)∧w=w':=by
 obtain ⟨sb,lb,d,L,tb,v,h⟩:=h
 have c5:w.cell? ⟨pb,5,none⟩=some (.bool s.broken):=h.blk.cell 5
 have c2:w.cell? ⟨pb,2,none⟩=some (.pointer (some ⟨d,0,none⟩)):=h.blk.cell 2
 have c3:w.cell? ⟨pb,3,none⟩=some (.pointer (some ⟨sb,0,none⟩)):=h.blk.cell 3
 have H:=Zh h
 clear h
 cases hbr:s.broken with
 | true =>
   have HD:=Zh (show s.dead=true from by unfold zF.dead;rw [hbr];rfl)
   rw [hbr] at c5
   clear hbr
   go_enter Tryz.func19,Tryz.ntmps19
   go_wp2
   go_ret
   exact ⟨by rw [HD.o];rfl,rfl⟩
 | false =>
   have HD:=Zh (show s.dead=(s.st.disk.dead || s.st.dead) from by unfold zF.dead;rw [hbr];rfl)
   rw [hbr] at c5
   clear hbr
   go_enter Tryz.func19,Tryz.ntmps19
   go_wp2_with fail
   refine (zJd d L s.st.disk w H.o.st.disk).mono ?_
   rintro e w1 ⟨rfl,rfl⟩
   cases hdd:s.st.disk.dead with
   | true =>
     rw [hdd] at HD
     clear hdd
     go_wp2
     go_ret
     exact ⟨by rw [HD.o];rfl,rfl⟩
   | false =>
     rw [hdd] at HD
     clear hdd
     go_wp2_with fail
     refine (zKf _ sb lb d L s.st w H.o.st).mono ?_
     rintro e w1 ⟨rfl,rfl⟩
     obtain ⟨b,hb⟩:∃ b,b=s.st.dead:=⟨_,rfl⟩
     rw [← hb] at HD ⊢
     clear hb
     cases b
     all_goals
      go_wp2
      go_ret
      exact ⟨by rw [HD.o];rfl,rfl⟩
set_option maxRecDepth 100000 in
theorem zV (n:Int) (w:World):Calls Tryz.prog 45 #[.int .i64 n] w fun e w'=>e=.returned (.agg #[.int .i64 n,.slice none 0 0])∧Below w.heap.size w w':=by
 go_enter Tryz.func45,Tryz.ntmps45
 go_wp2_with fail
 exact bodyPost_ret (v:=.agg #[.int .i64 n,.slice none 0 0]) (by simp [results,Tryz.results45,go_sem]) rfl ⟨rfl,(Below.refl _ _).alloc (Nat.le_refl _) _⟩
set_option maxRecDepth 100000 in
theorem zDw (e:Int) (w:World):Calls Tryz.prog 141 #[.int .i64 e] w fun r w'=>r=.returned (.bool (decide (May e)))∧w=w':=by
 by_cases h1:1≤e
 · by_cases h2:e≤1048576
   · have HD:=Zh (show decide (May e)=true from by simp [May,h1,h2])
     go_enter Tryz.func141,Tryz.ntmps141
     go_wp2
     go_ret
     exact ⟨by rw [HD.o];rfl,rfl⟩
   · have HD:=Zh (show decide (May e)=false from by simp [May,h1,h2])
     go_enter Tryz.func141,Tryz.ntmps141
     go_wp2
     go_ret
     exact ⟨by rw [HD.o];rfl,rfl⟩
 · have HD:=Zh (show decide (May e)=false from by simp [May,h1])
   go_enter Tryz.func141,Tryz.ntmps141
   go_wp2
   go_ret
   exact ⟨by rw [HD.o];rfl,rfl⟩
end Go.Proofs.YtbbojbdigiibbaaGreatDoor
end
section
namespace Cod
open Go.Lib
end Cod
end
section
namespace Go.Proofs.YtbbojbdigiibbaaGreatDoor
open Go Go.RowKit Go.Mem Gf
attribute [local go_sem ↓] Go.wp_at_zero Go.wp_at_succ
theorem zNi (u:UInt8) (w:World) (g:Nat) (h:w.cell? ⟨g,0,none⟩=some (.int .u8 ((u.toNat:Nat):Int))):(convert 51 9 (.slice (some ⟨g,0,none⟩) 1 1)).run Tryz.prog w=.ok (.string ⟨#[u]⟩) w:=by
 refine zBX (bs:=[u]) ⟨_,1,rfl,by simp,zAk (by decide),fun _=>⟨g,0,rfl,fun i v hi=>?_⟩⟩
 cases i with
 | zero=>simp at hi;subst hi;exact h
 | succ i=>simp at hi
end Go.Proofs.YtbbojbdigiibbaaGreatDoor
end
section
namespace Go.Proofs.YtbbojbdigiibbaaGreatDoor
open Go Go.RowKit Go.Mem Gf Lea
attribute [local go_sem ↓] Go.wp_at_zero Go.wp_at_succ
theorem zFd {ix:Key} (h:ix.length=16) {w:World} {g:Nat} {t:TypeId} (hb:Blk w g (bV ix).toArray t):(convert 51 9 (.slice (some ⟨g,0,none⟩) 16 16)).run Tryz.prog w=.ok (.string ⟨ix.toArray⟩) w:=by
 have h1:Bys w (.slice (some ⟨g,0,none⟩) ix.length 16) ix:=Blk.bys hb (by omega) (zAk (by decide)) (fun k u hk=>by simp [zA0,hk])
 rw [h] at h1
 exact zBX h1
theorem zKF (c:UInt8) (ix:Key):((⟨#[c]⟩:ByteArray)++⟨ix.toArray⟩)=⟨(c::ix).toArray⟩:=by
 apply ByteArray.ext
 rw [ByteArray.data_append]
 simp
theorem zEg (c:UInt8) {ix:Key} (h:ix.length=16):(⟨(c::ix).toArray⟩:ByteArray).size=17:=by
 show (c::ix).toArray.size=17
 simp [h]
set_option maxRecDepth 100000 in
theorem zDv (ix:Key) (h:ix.length=16) (w:World):Calls Tryz.prog 108 #[.agg (bV ix).toArray] w fun e w'=>e=.returned (.string (zAM ix))∧Below w.heap.size w w':=by
 have hc:=zFd h (Blk.new w (bV ix).toArray 39)
 have hl:(bV ix).length=16:=by rw [zB];exact h
 have HN:=Zh (zKF 99 ix)
 have hz:(⟨ix.toArray⟩:ByteArray).size=16:=by show ix.toArray.size=16;simp [h]
 have hm:17≤maxLen:=zAk (by decide)
 clear h
 go_enter Tryz.func108,Tryz.ntmps108
 go_wp2_with fail
 go_ret
 exact ⟨by unfold zAM;rw [← HN.o];rfl,(Below.refl _ _).alloc (Nat.le_refl _) _⟩
set_option maxRecDepth 100000 in
theorem zA1 (ix:Key) (h:ix.length=16) (w:World):Calls Tryz.prog 58 #[.agg (bV ix).toArray] w fun e w'=>e=.returned (.string (zD ix))∧Below w.heap.size w w':=by
 have hc:=zFd h (Blk.new w (bV ix).toArray 39)
 have hl:(bV ix).length=16:=by rw [zB];exact h
 have HN:=Zh (zKF 108 ix)
 have hz:(⟨ix.toArray⟩:ByteArray).size=16:=by show ix.toArray.size=16;simp [h]
 have hm:17≤maxLen:=zAk (by decide)
 clear h
 go_enter Tryz.func58,Tryz.ntmps58
 go_wp2_with fail
 go_ret
 exact ⟨by unfold zD;rw [← HN.o];rfl,(Below.refl _ _).alloc (Nat.le_refl _) _⟩
set_option maxRecDepth 100000 in
theorem zEU (ix:Key) (h:ix.length=16) (n:Nat) (hn:n < 16) (w:World):Calls Tryz.prog 107 #[.agg (bV ix).toArray,.int .i64 n] w fun e w'=>e=.returned (.string (zJ ix n))∧Below w.heap.size w w':=by
 have hB:=Blk.new w (bV ix).toArray 39
 have hc1:=zFd h hB.drew
 have hc2:=fun o=>zFd h (hB.alloc o).drew
 have hl:(bV ix).length=16:=by rw [zB];exact h
 have hu:((UInt8.ofNat n).toNat:Int)=(n:Int):=by rw [UInt8.toNat_ofNat'];omega
 have hv:=zNi (UInt8.ofNat n)
 rw [hu] at hv
 have w8:IntKind.u8.wrap (n:Int)=(n:Int):=by unfold IntKind.wrap;simp [IntKind.bits,IntKind.signed];omega
 obtain ⟨u,hue⟩:∃ u,u=UInt8.ofNat n:=⟨_,rfl⟩
 rw [← hue] at hv
 have HN:=Zh (show ((⟨#[115]⟩:ByteArray)++⟨ix.toArray⟩)++⟨#[u]⟩=zJ ix n from by
  unfold zJ
  apply ByteArray.ext
  rw [ByteArray.data_append,ByteArray.data_append,← hue]
  simp)
 have hz:(⟨ix.toArray⟩:ByteArray).size=16:=by show ix.toArray.size=16;simp [h]
 have hm:18≤maxLen:=zAk (by decide)
 have hm2:17≤maxLen:=zAk (by decide)
 clear h hue hu
 go_enter Tryz.func107,Tryz.ntmps107
 go_wp2_with fail
 go_region_with fail
 all_goals
  go_wp2_with fail
  go_ret
  exact ⟨by rw [← HN.o];rfl,zA2 (w:=w) (((Below.refl _ _).alloc (by simp) _).alloc (by simp) _)⟩
end Go.Proofs.YtbbojbdigiibbaaGreatDoor
end
