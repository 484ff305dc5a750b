/- Texts of this proof,packed: LeaRow,LeaSpec,Far,LeaFind,LeaLess,LeaSort,AppG,LeaOf,LeaAdd,LeaMore. -/
import Derived.Test.YtbbojbdigiibbaaGreatDoorPb07
import Derived.Test.YtbbojbdigiibbaaGreatDoorPb06
import Derived.Test.YtbbojbdigiibbaaGreatDoorPbS
import Derived.Test.YtbbojbdigiibbaaGreatDoorPb02
section
namespace Lea
open Go Go.RowKit Go.Mem Gf
abbrev Sec:=List UInt8 × Int
def zAn (x:Sec):List Value:=bV x.1++[.int .i64 x.2]
def WfL (x:Sec):Prop:=x.1.length=16
theorem ecL:zEq zAn WfL 17:=by
 refine ⟨fun x h=>?_,fun x v hv=>?_,by decide⟩
 · unfold zAn
   rw [List.length_append,zB,h,List.length_singleton]
 · unfold zAn at hv
   rcases List.mem_append.1 hv with hv | hv
   · exact zAJ _ v hv
   · rw [List.mem_singleton.1 hv];rfl
theorem zFY {x:Sec} (h:WfL x):(zAn x)[16]?=some (.int .i64 x.2):=by
 unfold zAn
 rw [List.getElem?_append_right (by rw [zB,h];omega),zB,h]
 rfl
theorem zG6 {x:Sec} {k:Nat} {u:UInt8} (h:x.1[k]?=some u):(zAn x)[k]?=some (.int .u8 u.toNat):=by
 unfold zAn
 rw [List.getElem?_append_left (by rw [zB];exact (List.getElem?_eq_some_iff.1 h).1)]
 simp [bV,h]
theorem zJP {x:Sec} (h:WfL x):zAP 17 (zAn x):=⟨ecL.len x h,ecL.one x⟩
def ltL (a b:Sec):Bool:=decide (a.2 < b.2) || (decide (a.2=b.2) && decide (Go.Lib.compareBytes a.1 b.1 < 0))
theorem zF3 {a b:Sec}:ltL a b=false↔b.2 < a.2∨(a.2=b.2∧0≤Go.Lib.compareBytes a.1 b.1):=by
 unfold ltL
 simp only [Bool.or_eq_false_iff,decide_eq_false_iff_not,Bool.and_eq_false_iff]
 omega
theorem ordL:Srt.Ord ltL:=by
 refine ⟨fun a b h=>?_,fun a b c h1 h2=>?_⟩
 · rw [zF3]
   unfold ltL at h
   simp only [Bool.or_eq_true,decide_eq_true_eq,Bool.and_eq_true] at h
   have:=zA9 a.1 b.1
   omega
 · rw [zF3] at *
   have e1:=zA9 a.1 b.1
   have e2:=zA9 b.1 c.1
   have e3:=zA9 a.1 c.1
   rcases h1 with h1 | h1
   · rcases h2 with h2 | h2 <;> (left;omega)
   · rcases h2 with h2 | h2
     · left;omega
     · right
       have:=zCn a.1 b.1 c.1 (by omega) (by omega)
       omega
theorem zKC {a b:Sec} (h1:ltL a b=false) (h2:ltL b a=false):a=b:=by
 rw [zF3] at *
 have:=zA9 a.1 b.1
 have e:a.2=b.2:=by omega
 have:Go.Lib.compareBytes a.1 b.1=0:=by omega
 exact Prod.ext (zFW _ _ this) e
theorem zGF {α:Type} {R:α→α→Prop} (hanti:∀ a b,R a b→R b a→a=b):∀ (l m:List α),l.Pairwise R→m.Pairwise R→l.Perm m→l=m
 | [],m,_,_,h=>h.nil_eq
 | a::l,[],_,_,h=>by exact absurd h.length_eq (by simp)
 | a::l,b::m,hl,hm,h=>by
   have hl':=List.pairwise_cons.1 hl
   have hm':=List.pairwise_cons.1 hm
   have e:a=b:=by
    rcases List.mem_cons.1 (h.mem_iff.1 (List.mem_cons_self:a∈a::l)) with e | ha
    · exact e
    · rcases List.mem_cons.1 (h.mem_iff.2 (List.mem_cons_self:b∈b::m)) with e | hb
      · exact e.symm
      · exact hanti _ _ (hl'.1 b hb) (hm'.1 a ha)
   subst e
   rw [zGF hanti l m hl'.2 hm'.2 ((List.perm_cons a).1 h)]
end Lea
namespace Go.Proofs.YtbbojbdigiibbaaGreatDoor
open Go Go.RowKit Go.Mem Gf Lea
attribute [local go_sem ↓] Go.wp_at_zero Go.wp_at_succ
theorem i17:(Tryz.prog.info? 165).map (·.size)=some 17:=by kernel_rfl
theorem zBZ (dst:Option Tmp) (x:Operand) (ty:TypeId) (pos:String) (af:Array Edge) (a:Act) (w:World) (K:Act→World→Prop) (Q:Exit→Act→World→Prop)
  (hp:zAs (a.eval x)=true) (ht:zW 17 w (zAB (a.eval x)) (zAC (a.eval x))) :
  Oper.wp Tryz.prog ⟨dst,.load 165 x,ty,pos,af,none⟩ a w K Q=K (a.put dst (.agg (zN 17 w (zAB (a.eval x)) (zAC (a.eval x))).toArray)) w :=
 zKu Tryz.underlying165 rfl i17 dst x ty pos af a w K Q hp ht
theorem zCZ (dst:Option Tmp) (x y:Operand) (ty:TypeId) (pos:String) (af:Array Edge) (a:Act) (w:World) (K:Act→World→Prop) (Q:Exit→Act→World→Prop)
  (hp:zAs (a.eval x)=true) (hy:zBD (a.eval y)=true) (ht:zW 17 w (zAB (a.eval x)) (zAC (a.eval x))) (hc:zAP 17 (zAi (a.eval y))) :
  Oper.wp Tryz.prog ⟨dst,.store 165 x y,ty,pos,af,none⟩ a w K Q=K (a.put dst undef) (w.setCells (zAB (a.eval x)) (zAC (a.eval x)) (zAi (a.eval y))) :=
 zBN i17 dst x y ty pos af a w K Q hp hy ht hc
attribute [local go_sem ↓] zBZ zCZ
attribute [local go_sem] ptrB_eq ptrO_eq ptrIs_eq aggL_eq aggIs_eq
end Go.Proofs.YtbbojbdigiibbaaGreatDoor
end
section
namespace Lea
abbrev Key:=List UInt8
def kOf (x:Les):Key × Key:=(x.ix,x.sec)
def ofL (l:List Les) (ix:Key):List Sec:=(l.filter fun x=>decide (x.ix=ix)).map fun x=>(x.sec,x.e)
def zEA (l:List Les) (ix sec:Key):Prop:=∀ x∈l,¬ (x.ix=ix∧x.sec=sec)
def May (e:Int):Prop:=1≤e∧e≤1048576
instance (e:Int):Decidable (May e):=by unfold May;infer_instance
structure Good (l:List Les):Prop where
 ends:∀ x∈l,May x.e
 uniq:(l.map kOf).Nodup
 few:∀ ix,(ofL l ix).length≤8
theorem zKI (l:List Les) (ix:Key):(ofL l ix).length=((l.map kOf).filter fun k=>decide (k.1=ix)).length:=by
 unfold ofL
 rw [List.length_map,List.filter_map,List.length_map]
 rfl
theorem zBl {l l':List Les} (h:l'.Perm l) (ix:Key):(ofL l' ix).Perm (ofL l ix):=(h.filter _).map _
theorem Good.perm {l l':List Les} (h:l'.Perm l) (g:Good l):Good l' :=
 ⟨fun x hx=>g.ends x (h.mem_iff.1 hx),(h.map kOf).nodup_iff.2 g.uniq,fun ix=>by rw [(zBl h ix).length_eq];exact g.few ix⟩
theorem Good.nil:Good []:=⟨(fun _ h=>by cases h),List.nodup_nil,(fun _=>by simp [ofL])⟩
theorem Good.sub {l l':List Les} (h:l'.Sublist l) (g:Good l):Good l' :=
 ⟨fun x hx=>g.ends x (h.subset hx),g.uniq.sublist (h.map kOf),fun ix=>Nat.le_trans (by
  unfold ofL
  rw [List.length_map,List.length_map]
  exact (h.filter _).length_le) (g.few ix)⟩
theorem Good.tail {x:Les} {l l':List Les} (h:(x::l').Perm l) (g:Good l):Good l':=(g.perm h).sub (List.sublist_cons_self x l')
theorem zEi (l m:List Les) (ix:Key):ofL (l++m) ix=ofL l ix++ofL m ix:=by unfold ofL;rw [List.filter_append,List.map_append]
theorem Good.push {l:List Les} (g:Good l) (x:Les) (hx:May x.e) (hk:zEA l x.ix x.sec) (h8:(ofL l x.ix).length < 8):Good (l++[x]):=by
 refine ⟨fun y hy=>?_,?_,fun ix=>?_⟩
 · rcases List.mem_append.1 hy with hy | hy
   · exact g.ends y hy
   · rw [List.mem_singleton.1 hy];exact hx
 · rw [List.map_append,List.nodup_append]
   refine ⟨g.uniq,by simp,fun a ha b hb=>?_⟩
   obtain ⟨y,hy,rfl⟩:=List.mem_map.1 ha
   simp at hb
   subst hb
   intro e
   exact hk y hy ⟨congrArg Prod.fst e,congrArg Prod.snd e⟩
 · rw [zEi,List.length_append]
   by_cases c:x.ix=ix
   · subst c
     have:(ofL [x] x.ix).length≤1:=by unfold ofL;rw [List.length_map];exact List.length_filter_le _ [x]
     omega
   · have:(ofL [x] ix)=[]:=by simp [ofL,c]
     rw [this]
     have:=g.few ix
     simpa using this
theorem zGQ {l:List Les} {k:Nat} {x y:Les} (hx:l[k]?=some x) (hy:kOf y=kOf x):(l.set k y).map kOf=l.map kOf:=by
 rw [List.map_set]
 apply List.ext_getElem?
 intro j
 by_cases c:k=j
 · subst c
   have hk:=Go.Mem.zh hx
   rw [List.getElem?_set_self (by simpa using hk),List.getElem?_map,hx,hy];rfl
 · rw [List.getElem?_set_ne c]
theorem Good.set {l:List Les} (g:Good l) {k:Nat} {x y:Les} (hx:l[k]?=some x) (hy:kOf y=kOf x) (he:May y.e):Good (l.set k y):=by
 refine ⟨fun z hz=>?_,by rw [zGQ hx hy];exact g.uniq,fun ix=>by rw [zKI,zGQ hx hy,← zKI];exact g.few ix⟩
 rcases List.mem_or_eq_of_mem_set hz with hz | rfl
 · exact g.ends z hz
 · exact he
inductive zBk (l:List Les) (ix sec:Key) (e:Int):Bool→List Les→Prop
 | no (h:¬ May e∨(zEA l ix sec∧8≤(ofL l ix).length)):zBk l ix sec e false l
 | more (k:Nat) (x:Les) (l':List Les) (he:May e) (hx:l[k]?=some x) (h1:x.ix=ix) (h2:x.sec=sec) (hp:l'.Perm (l.set k ⟨ix,sec,max x.e e⟩)):zBk l ix sec e true l'
 | new (l':List Les) (he:May e) (hk:zEA l ix sec) (h8:(ofL l ix).length < 8) (hp:l'.Perm (l++[⟨ix,sec,e⟩])):zBk l ix sec e true l'
theorem zBk.good {l l':List Les} {ix sec:Key} {e:Int} {b:Bool} (h:zBk l ix sec e b l') (g:Good l):Good l':=by
 cases h with
 | no h=>exact g
 | more k x l' he hx h1 h2 hp =>
   have hm:=g.ends x (List.mem_of_getElem? hx)
   refine (g.set hx (y:=⟨ix,sec,max x.e e⟩) (by unfold kOf;rw [h1,h2]) ?_).perm hp
   unfold May at *
   simp only
   omega
 | new l' he hk h8 hp=>exact (g.push ⟨ix,sec,e⟩ he hk h8).perm hp
theorem zBk.len {l l':List Les} {ix sec:Key} {e:Int} {b:Bool} (h:zBk l ix sec e b l'):l'.length≤l.length+1:=by
 cases h with
 | no h=>omega
 | more k x l' he hx h1 h2 hp=>rw [hp.length_eq,List.length_set];omega
 | new l' he hk h8 hp=>rw [hp.length_eq];simp
def FindR (l:List Les) (ix sec:Key) (r:Int):Prop:=(r=-1∧zEA l ix sec)∨∃ (k:Nat) (x:Les),r=k∧l[k]?=some x∧x.ix=ix∧x.sec=sec
inductive zBQ (l:List Les) (ix sec:Key):Bool→List Les→Prop
 | no (h:zEA l ix sec):zBQ l ix sec false l
 | gone (x:Les) (l':List Les) (h1:x.ix=ix) (h2:x.sec=sec) (hp:(x::l').Perm l):zBQ l ix sec true l'
theorem zBQ.good {l l':List Les} {ix sec:Key} {b:Bool} (h:zBQ l ix sec b l') (g:Good l):Good l':=by
 cases h with
 | no h=>exact g
 | gone x l' h1 h2 hp=>exact g.tail hp
structure OfR (l:List Les) (ix:Key) (out:List Sec):Prop where
 perm:out.Perm (ofL l ix)
 up:out.Pairwise fun a b=>ltL b a=false
theorem OfR.eq {l l':List Les} {ix:Key} {a b:List Sec} (ha:OfR l ix a) (hb:OfR l' ix b) (h:l.Perm l'):a=b :=
 zGF (fun _ _ h1 h2=>zKC h2 h1) a b ha.up hb.up (ha.perm.trans ((zBl h ix).trans hb.perm.symm))
theorem zCS {l:List Les} {ix:Key} {s:Sec}:s∈ofL l ix↔∃ x∈l,x.ix=ix∧(x.sec,x.e)=s:=by
 unfold ofL
 constructor
 · intro h
   obtain ⟨x,hx,e⟩:=List.mem_map.1 h
   have:=List.mem_filter.1 hx
   exact ⟨x,this.1,by simpa using this.2,e⟩
 · rintro ⟨x,hx,e,e2⟩
   exact List.mem_map.2 ⟨x,List.mem_filter.2 ⟨hx,by simpa using e⟩,e2⟩
theorem zBe {l:List Les} {ix:Key}:ofL l ix=[]↔∀ x∈l,x.ix≠ix:=by
 constructor
 · intro h x hx e
   have:(x.sec,x.e)∈ofL l ix:=zCS.2 ⟨x,hx,e,rfl⟩
   rw [h] at this
   cases this
 · intro h
   rw [List.eq_nil_iff_forall_not_mem]
   intro s hs
   obtain ⟨x,hx,e,_⟩:=zCS.1 hs
   exact h x hx e
def left (l:List Les) (now:Int):List Les:=l.filter fun x=>decide (now < x.e)
structure zGr (l:List Les) (now:Int) (l':List Les) (R:List Key):Prop where
 perm:l'.Perm (left l now)
 up:R.Pairwise fun a b=>Go.Lib.compareBytes a b < 0
 mem:∀ k,k∈R↔(∃ x∈l,x.ix=k∧x.e≤now)∧∀ x∈l',x.ix≠k
end Lea
end
section
namespace Go.Mem
open Go Go.RowKit Gf
section
variable {w:World}
theorem zT (n:Nat) (w:World) (g o:Nat):zN n w.drew g o=zN n w g o:=rfl
theorem zg (n:Nat) (w:World) (g o:Nat):zW n w.drew g o=zW n w g o:=rfl
theorem zX (w:World) (g:Nat):∀ (cs:List Value) (o:Nat),w.drew.setCells g o cs=(w.setCells g o cs).drew:=fun cs o=>by
 induction cs generalizing o w with
 | nil=>rfl
 | cons v vs ih=>exact ih (w.setCell ⟨g,o,none⟩ v) (o+1)
theorem zC (o':Obj) (n g o:Nat) (hn:g < w.heap.size):zN n (w.alloc o') g o=zN n w g o:=by
 unfold zN
 apply List.map_congr_left
 intro k _
 rw [World.cell?_alloc_past _ _ _ hn]
theorem zG (o':Obj) (n g o:Nat) (hn:g < w.heap.size):zW n (w.alloc o') g o=zW n w g o:=by
 unfold zW World.there
 apply propext
 constructor
 · intro h j hj
   have:=h j hj
   rw [World.cell?_alloc_past _ _ _ hn,World.frozen?_alloc_past _ _ _ hn] at this
   exact this
 · intro h j hj
   rw [World.cell?_alloc_past _ _ _ hn,World.frozen?_alloc_past _ _ _ hn]
   exact h j hj
def zCH (c:Array Value) (o n:Nat):List Value:=(c.toList.drop o).take n
theorem zZ (c:Array Value) (t:TypeId) (n g o:Nat) (hn:g=w.heap.size) (hc:o+n≤c.size):zN n (w.alloc (.cells c t)) g o=zCH c o n:=by
 subst hn
 have hb:=Blk.new w c t
 unfold zCH
 have hl:((c.toList.drop o).take n).length=n:=by
  rw [List.length_take,List.length_drop,Array.length_toList];omega
 refine zA3 (fun k v hv=>?_) hl
 have hk:k < n:=by have:=zh hv;omega
 rw [hb.cell]
 rw [List.getElem?_take,if_pos hk,List.getElem?_drop,Array.getElem?_toList] at hv
 exact hv
theorem ze (c:Array Value) (t:TypeId) (n g o:Nat) (hn:g=w.heap.size) (hc:o+n≤c.size):zW n (w.alloc (.cells c t)) g o:=by
 subst hn
 intro j hj
 have hb:=Blk.new w c t
 exact ⟨by rw [hb.cell];simp;omega,hb.free _⟩
theorem zCR (c:Array Value) (t:TypeId) (n g:Nat) (hn:g=w.heap.size) (hc:n≤c.size):zW n (w.alloc (.cells c t)) g 0:=by
 subst hn
 intro j hj
 have hb:=Blk.new w c t
 exact ⟨by rw [hb.cell];simp;omega,hb.free _⟩
theorem zH (o':Obj) (n:Nat) (hn:n < w.heap.size) (cs:List Value) (o:Nat):(w.alloc o').setCells n o cs=(w.setCells n o cs).alloc o':=by
 induction cs generalizing o w with
 | nil=>rfl
 | cons v vs ih =>
   show ((w.alloc o').setCell ⟨n,o,none⟩ v).setCells n (o+1) vs=_
   rw [World.setCell_alloc_past _ _ _ _ hn]
   exact ih (by simpa using hn) (o+1)
theorem zEt (c:Array Value) (t:TypeId) (n:Nat) (hn:n=w.heap.size) (cs:List Value) (o:Nat):∃ c':Array Value,(w.alloc (.cells c t)).setCells n o cs=w.alloc (.cells c' t):=by
 induction cs generalizing o c with
 | nil=>exact ⟨c,rfl⟩
 | cons v vs ih =>
   show ∃ c':Array Value,((w.alloc (.cells c t)).setCell ⟨n,o,none⟩ v).setCells n (o+1) vs=_
   rw [World.setCell_alloc_at _ _ _ _ _ hn]
   exact ih _ (o+1)
theorem zK (c:Array Value) (t:TypeId) (n:Nat) (cs:List Value) (hn:n=w.heap.size) (hc:c.size=cs.length):(w.alloc (.cells c t)).setCells n 0 cs=w.alloc (.cells cs.toArray t):=by
 subst hn
 obtain ⟨c',e⟩:=zEt c t w.heap.size rfl cs 0
 obtain ⟨arr,h1,h2,h3⟩:=Blk.setCells cs 0 _ _ (Blk.new w c t)
 rw [e] at h1 ⊢
 have h4:=Blk.new w c' t
 have e2:c'=arr:=by
  unfold Blk at h1 h4
  rw [h1] at h4
  simpa using h4.symm
 have e3:arr=cs.toArray:=by
  apply Array.ext_getElem?
  intro k
  rcases Nat.lt_or_ge k c.size with hk | hk
  · rw [h3 k hk,if_pos ⟨Nat.zero_le _,by omega⟩,Nat.sub_zero];simp
  · rw [Array.getElem?_eq_none (by omega),Array.getElem?_eq_none (by simp;omega)]
 rw [e2,e3]
end
theorem zKU {P:Program} {n:Nat} {t:TypeId} {d:TypeDesc} (hu:P.underlying t=some d) (hd:d.isRow=true) (hi:(P.info? t).map (·.size)=some n) (dst:Option Tmp) (x:Operand) (ty:TypeId) (pos:String) (af:Array Edge) (gd:Option (Tmp × Bool)) (a:Act) (W:World) (K:Act→Prop)
  (hp:zAs (a.eval x)=true) (ht:zW n W (zAB (a.eval x)) (zAC (a.eval x))) :
  Oper.quiet P ⟨dst,.load t x,ty,pos,af,gd⟩ a (fun w'=>∃ n,w'=W.drewN n) K=K (a.put dst (.agg (zN n W (zAB (a.eval x)) (zAC (a.eval x))).toArray)):=by
 have e:=zF9 hp
 have hl:∀ w',(∃ n,w'=W.drewN n)→∀ v,Oper.quietAt P ⟨dst,.load t x,ty,pos,af,gd⟩ a (fun w'=>∃ n,w'=W.drewN n) w' v↔.agg (zN n W (zAB (a.eval x)) (zAC (a.eval x))).toArray=v:=fun w' ⟨m,hm⟩ v=>by
  subst hm
  have hr:=run_loadVar_mid (P:=P) (W.drewN m) (zAB (a.eval x)) (zAC (a.eval x)) t (zN n W (zAB (a.eval x)) (zAC (a.eval x))) d (zAD ht) hu hd (by rw [hi,zCK])
  unfold Oper.quietAt execOp
  simp only
  rw [e]
  simp only [ptrB_eq,ptrO_eq,Instr.loadAt,Instr.sureAddr,Sem.run_bind,Sem.run_pure,Result.andThen_ok,hr,Oper.quietUpon,true_and]
 unfold Oper.quiet
 apply propext
 constructor
 · rintro ⟨v,h1,h2⟩
   rw [(hl W ⟨0,rfl⟩ v).1 (h1 W ⟨0,rfl⟩)]
   exact h2
 · intro h
   exact ⟨_,fun w hw=>(hl w hw _).2 rfl,h⟩
theorem zEW {P:Program} {n:Nat} {t:TypeId} {d:TypeDesc} (hu:P.underlying t=some d) (hd:d.isRow=true) (hi:(P.info? t).map (·.size)=some n) (dst:Option Tmp) (x:Operand) (ty:TypeId) (pos:String) (af:Array Edge) (gd:Option (Tmp × Bool)) (a:Act) (w:World) (K:Act→World→Prop) (Q:Exit→Act→World→Prop)
  (hp:zAs (a.eval x)=true) (ht:zW n w (zAB (a.eval x)) (zAC (a.eval x))) :
  Oper.wp P ⟨dst,.load t x,ty,pos,af,gd⟩ a w K Q=K (a.put dst (.agg (zN n w (zAB (a.eval x)) (zAC (a.eval x))).toArray)) w:=by
 unfold Oper.wp execOp
 have e:=zF9 hp
 have hl:=run_loadVar_mid (P:=P) w (zAB (a.eval x)) (zAC (a.eval x)) t (zN n w (zAB (a.eval x)) (zAC (a.eval x))) d (zAD ht) hu hd (by rw [hi,zCK])
 simp only
 rw [e]
 simp only [ptrB_eq,ptrO_eq,Instr.loadAt,Instr.sureAddr,Sem.run_bind,Sem.run_pure,Result.andThen_ok,hl]
 rfl
end Go.Mem
end
section
namespace Go.Proofs.YtbbojbdigiibbaaGreatDoor
open Go Go.RowKit Go.Mem Gf Lea
theorem i16:(Tryz.prog.info? 39).map (·.size)=some 16:=by kernel_rfl
theorem zAN (dst:Option Tmp) (x:Operand) (ty:TypeId) (pos:String) (af:Array Edge) (gd:Option (Tmp × Bool)) (a:Act) (w:World) (K:Act→World→Prop) (Q:Exit→Act→World→Prop)
  (hp:zAs (a.eval x)=true) (ht:zW 16 w (zAB (a.eval x)) (zAC (a.eval x))) :
  Oper.wp Tryz.prog ⟨dst,.load 39 x,ty,pos,af,gd⟩ a w K Q=K (a.put dst (.agg (zN 16 w (zAB (a.eval x)) (zAC (a.eval x))).toArray)) w :=
 zEW Tryz.underlying39 rfl i16 dst x ty pos af gd a w K Q hp ht
theorem zFy (xs ys:List UInt8) (hx:xs.length=16) (hy:ys.length=16) (w:World):(Op.equalIn 10000 39 (.agg (bV xs).toArray) (.agg (bV ys).toArray)).run Tryz.prog w=.ok (decide (xs=ys)) w :=
 zFk (P:=Tryz.prog) w 9998 16 Tryz.underlying39 (Option.some_get (by kernel_rfl)).symm (by kernel_rfl) (by kernel_rfl) xs ys hx hy
theorem zGo {x:Les} (h:Wf x):zCH (zq x).toArray 0 16=bV x.ix∧zCH (zq x).toArray 16 16=bV x.sec:=by
 have h1:(bV x.ix).length=16:=by rw [zB];exact h.1
 have h2:(bV x.sec).length=16:=by rw [zB];exact h.2
 unfold zCH zq
 constructor
 · simp [h1]
 · rw [List.toList_toArray,List.append_assoc,List.drop_append_of_le_length (by omega),List.drop_of_length_le (by omega),List.nil_append,List.take_append_of_le_length (by omega),List.take_of_length_le (by omega)]
theorem _root_.Lea.Row.below {ti:TypeId} {w w':World} {base g n cap:Nat} {l:List Les} (h:Row ti w base g n cap l) (hb:Below w.heap.size w w'):Row ti w' base g n cap l:=⟨zAl (S:=fun _=>False) h.own (Chg.of_below hb) (fun _ _ h=>h),h.len,h.wf⟩
theorem _root_.Lea.Row.lt {ti:TypeId} {w:World} {base g n cap:Nat} {l:List Les} (h:Row ti w base g n cap l):g < w.heap.size:=by
 obtain ⟨cur,hh,_⟩:=h.block
 exact lt_of_block hh
theorem LTab.row {w:World} {tb g n cap:Nat} {v:Value} {l:List Les} (h:LTab w tb v l) (hn:l.length=n) (hv:v=.slice (some ⟨g,0,none⟩) n cap):Row 175 w 0 g n cap l:=by
 subst hv
 exact h.theRow hn
theorem zLT {l:List Les} {i:Nat} {x:Les} {ix sec:Key} (h:zEA (l.take i) ix sec) (hx:l[i]?=some x) (hn:¬ (x.ix=ix∧x.sec=sec)):zEA (l.take (i+1)) ix sec:=by
 intro y hy
 rw [List.take_add_one,hx] at hy
 rcases List.mem_append.1 hy with hy | hy
 · exact h y hy
 · simp at hy
   rw [hy];exact hn
attribute [local go_sem ↓] Go.wp_at_zero Go.wp_at_succ
attribute [local go_sem ↓] zAN zBb zBI
attribute [local go_sem] ptrB_eq ptrO_eq ptrIs_eq aggL_eq aggIs_eq zT zg zC zG zZ ze zX zH zK
set_option maxRecDepth 100000 in
set_option maxHeartbeats 1000000 in
theorem zE9 (w:World) (tb:Nat) (v:Value) (l:List Les) (ix sec:Key) (h:LTab w tb v l) (hl:l.length≤100000) (hix:ix.length=16) (hsec:sec.length=16) :
  Calls Tryz.prog 100 #[.pointer (some ⟨tb,0,none⟩),.agg (bV ix).toArray,.agg (bV sec).toArray] w fun e w'=>∃ r,e=.returned (.int .i64 r)∧FindR l ix sec r∧Below w.heap.size w w':=by
 have hcell:w.cell? ⟨tb,0,none⟩=some v:=by simpa using h.cell.cell 0
 have htb:=h.cell.lt
 have htb1:tb < w.heap.size+1:=by omega
 obtain ⟨a0,c0,hv,hg⟩:=zAG h.own
 obtain ⟨n,hn⟩:∃ n,n=l.length:=⟨_,rfl⟩
 rw [← hn] at hl
 have H:=Zh (Zi h (Zi hn (Zi hv hg)))
 rw [hv,← hn] at hcell
 clear h hn hv hg
 go_enter Tryz.func100,Tryz.ntmps100
 go_upto_region 2 with fail
 have hB0:Below w.heap.size w ((w.alloc (.cells (bV ix).toArray 39)).alloc (.cells (bV sec).toArray 39)):=((Below.refl _ _).alloc (Nat.le_refl _) _).alloc (by simp) _
 have hk1:Blk ((w.alloc (.cells (bV ix).toArray 39)).alloc (.cells (bV sec).toArray 39)) w.heap.size (bV ix).toArray 39:=(Blk.new _ _ _).alloc _
 have hk2:Blk ((w.alloc (.cells (bV ix).toArray 39)).alloc (.cells (bV sec).toArray 39)) (w.heap.size+1) (bV sec).toArray 39:=Blk.new_at _ _ _ _ (by simp)
 obtain ⟨w0,hw0⟩:∃ x,x=(w.alloc (.cells (bV ix).toArray 39)).alloc (.cells (bV sec).toArray 39):=⟨_,rfl⟩
 rw [← hw0] at hB0 hk1 hk2 ⊢
 clear hw0
 obtain ⟨p4,hp4⟩:∃ p,p=w.heap.size:=⟨_,rfl⟩
 obtain ⟨p5,hp5⟩:∃ p,p=w.heap.size+1:=⟨_,rfl⟩
 rw [← hp5] at hk2 ⊢
 rw [← hp4] at hk1 ⊢
 have HB0:=Zh hB0
 clear hp4 hp5 hB0
 go_loopw [14] (fun vi wr=>∃ i:Nat,i≤n∧vi=.int .i64 i∧Hid (zEA (l.take i) ix sec∧Blk wr p4 (bV ix).toArray 39∧Blk wr p5 (bV sec).toArray 39∧Below w.heap.size w wr)) (fun vi _=>n - (intOf vi).toNat)
 case atStart=>exact ⟨0,Nat.zero_le _,rfl,fun x hx=>by simp at hx,hk1,hk2,HB0.o⟩
 case round =>
  obtain ⟨i,hi0,rfl,G⟩:=hrel
  by_cases hin:i < n
  · obtain ⟨g,rfl⟩:=H.o.2.2.2 (by have:=H.o.2.1;omega)
    have hrow:=(H.o.1.row H.o.2.1.symm (by rw [H.o.2.1];exact H.o.2.2.1)).below G.o.2.2.2
    have hx:l[i]?=some (l[i]'(by have:=H.o.2.1;omega)):=by simp
    generalize l[i]'(by have:=H.o.2.1;omega)=x at hx
    have hwx:=hrow.wf x (List.mem_of_getElem? hx)
    have rx:zN 33 wr g (i*33)=zq x:=zA3 (hrow.range hx) (zAR hwx)
    have t1:zW 33 wr g (i*33):=hrow.there hin
    have ax:=zBq hwx
    have lx:=zAR hwx
    have k1:=(zGo hwx).1
    have k2:=(zGo hwx).2
    have gl:g < wr.heap.size:=hrow.lt
    have r4:zN 16 wr p4 0=bV ix:=zS G.o.2.1 (by rw [zB,hix])
    have r5:zN 16 wr p5 0=bV sec:=zS G.o.2.2.1 (by rw [zB,hsec])
    have h4:zW 16 wr p4 0:=zO G.o.2.1 (by simp [zB,hix])
    have h5:zW 16 wr p5 0:=zO G.o.2.2.1 (by simp [zB,hsec])
    have l4:=G.o.2.1.lt
    have l5:=G.o.2.2.1.lt
    have e1:=zFy x.ix ix hwx.1 hix
    have e2:=zFy x.sec sec hwx.2 hsec
    have i0:(0:Int)≤(i:Int):=by omega
    have i1:(i:Int) < (n:Int):=by omega
    have HX:=Zh hx
    obtain ⟨cx,hcx⟩:∃ c,c=zq x:=⟨_,rfl⟩
    rw [← hcx] at rx ax lx k1 k2
    clear hrow hx hcx
    have hend:Below w.heap.size w (wr.alloc (.cells cx.toArray 175)):=G.o.2.2.2.alloc (G.o.2.2.2.size) _
    have HE:=Zh hend
    have hmore:¬ (x.ix=ix∧x.sec=sec)→zEA (l.take (i+1)) ix sec:=fun hn=>zLT G.o.1 HX.o hn
    clear hend
    by_cases c1:x.ix=ix
    · have d1:decide (x.ix=ix)=true:=by simpa using c1
      replace c1:=Zh c1
      by_cases c2:x.sec=sec
      · have d2:decide (x.sec=sec)=true:=by simpa using c2
        replace c2:=Zh c2
        go_wp2_with fail
        go_ret
        exact ⟨i,rfl,.inr ⟨i,x,rfl,HX.o,c1.o,c2.o⟩,HE.o⟩
      · have d2:decide (x.sec=sec)=false:=by simpa using c2
        have hm:=Zh (hmore fun h=>c2 h.2)
        clear c2 hmore
        go_wp2_with fail
        exact ⟨⟨i+1,by omega,by simp,hm.o,G.o.2.1.alloc _,G.o.2.2.1.alloc _,HE.o⟩,by show n - ((i:Int)+1).toNat < n - (i:Int).toNat;omega⟩
    · have d1:decide (x.ix=ix)=false:=by simpa using c1
      have hm:=Zh (hmore fun h=>c1 h.1)
      clear c1 hmore
      go_wp2_with fail
      exact ⟨⟨i+1,by omega,by simp,hm.o,G.o.2.1.alloc _,G.o.2.2.1.alloc _,HE.o⟩,by show n - ((i:Int)+1).toNat < n - (i:Int).toNat;omega⟩
  · go_wp2_with fail
    go_ret
    refine ⟨-1,rfl,.inl ⟨rfl,?_⟩,G.o.2.2.2⟩
    have:=G.o.1
    rwa [List.take_of_length_le (by have:=H.o.2.1;omega)] at this
end Go.Proofs.YtbbojbdigiibbaaGreatDoor
end
section
namespace Go.Proofs.YtbbojbdigiibbaaGreatDoor
open Go Go.RowKit Go.Mem Gf Lea
attribute [local go_sem ↓] Go.wp_at_zero Go.wp_at_succ
attribute [local go_sem ↓] zBZ zCZ
attribute [local go_sem] ptrB_eq ptrO_eq ptrIs_eq aggL_eq aggIs_eq zT zg zC zG zCR zX zH zK
theorem below_drewN {B:Nat} {w w':World} (h:Below B w w') (n:Nat):Below B w (w'.drewN n):=⟨h.os,h.tape,h.output,h.size,h.block⟩
set_option maxRecDepth 100000 in
set_option maxHeartbeats 1000000 in
theorem zI1 (w:World) (bx base g n cap:Nat) (l:List Sec) (h:zAt zAn WfL 17 165 w base g n cap l) (hb:Blk w bx #[.slice (some ⟨g,0,none⟩) n cap] 131) (i j:Nat) (x y:Sec) (hx:l[i]?=some x) (hy:l[j]?=some y) :
  Calls Tryz.prog 115 #[.int .i64 i,.int .i64 j,.pointer (some ⟨bx,0,none⟩)] w fun e w'=>e=.returned (.bool (ltL x y))∧Below w.heap.size w w':=by
 have hi:i < n:=by rw [h.len];exact zh hx
 have hj:j < n:=by rw [h.len];exact zh hy
 have i0:(0:Int)≤(i:Int):=by omega
 have i1:(i:Int) < (n:Int):=by omega
 have j0:(0:Int)≤(j:Int):=by omega
 have j1:(j:Int) < (n:Int):=by omega
 have c0:w.cell? ⟨bx,0,none⟩=some (.slice (some ⟨g,0,none⟩) n cap):=by simpa using hb.cell 0
 have hwx:=h.wf x (List.mem_of_getElem? hx)
 have hwy:=h.wf y (List.mem_of_getElem? hy)
 go_enter Tryz.func115,Tryz.ntmps115
 have rx:=h.read ecL hx
 have ry:=h.read ecL hy
 have t1:zW 17 w g (i*17):=h.there hi
 have t1':zW 17 w g (j*17):=h.there hj
 have ax:=zJP hwx
 have ay:=zJP hwy
 have lx:=ecL.len x hwx
 have ly:=ecL.len y hwy
 have hgl:g < w.heap.size:=by
  obtain ⟨cur,hh,_⟩:=h.block
  exact lt_of_block hh
 have hbl:=hb.lt
 have hgl1:g < w.heap.size+1:=by omega
 go_upto_region 1 with fail
 go_cut [6,7] (fun a b wx=>∃ p q,p≠q∧a=.pointer (some ⟨p,0,none⟩)∧b=.pointer (some ⟨q,0,none⟩)∧Blk wx p (zAn x).toArray 165∧Blk wx q (zAn y).toArray 165∧Below w.heap.size w wx)
 case first =>
  go_region
  all_goals go_wp2_with fail
  all_goals go_meet
  · exact ⟨_,_,by omega,rfl,rfl,(Blk.new _ _ _).alloc _,Blk.new_at _ _ _ _ (by simp),(((Below.refl _ _).alloc (Nat.le_refl _) _).alloc (by simp) _).drew⟩
  · exact ⟨_,_,by omega,rfl,rfl,Blk.new_at _ _ _ _ (by simp),(Blk.new _ _ _).alloc _,(((Below.refl _ _).alloc (Nat.le_refl _) _).alloc (by simp) _).drew⟩
 case rest =>
  obtain ⟨p,q,hpq,rfl,rfl,hp,hq,hB⟩:=hcut
  have cp:wc.cell? ⟨p,16,none⟩=some (.int .i64 x.2):=by rw [hp.cell];simpa using zFY hwx
  have cq:wc.cell? ⟨q,16,none⟩=some (.int .i64 y.2):=by rw [hq.cell];simpa using zFY hwy
  have bp:Bys wc (.slice (some ⟨p,0,none⟩) 16 16) x.1:=by
   have:=Blk.bys hp (bs:=x.1) (cap:=16) (by rw [hwx];omega) (by decide) (fun k u hu=>by simpa using zG6 hu)
   rwa [hwx] at this
  have bq:Bys wc (.slice (some ⟨q,0,none⟩) 16 16) y.1:=by
   have:=Blk.bys hq (bs:=y.1) (cap:=16) (by rw [hwy];omega) (by decide) (fun k u hu=>by simpa using zG6 hu)
   rwa [hwy] at this
  have HL:=Zh (Zi hB (Zi bp bq))
  clear hB bp bq hp hq h hb hx hy rx ry t1 t1' ax ay lx ly
  go_upto_region 2 with fail
  by_cases c1:x.2 < y.2
  · have d1:decide (x.2 < y.2)=true:=by simpa using c1
    have hr:ltL x y=true:=by unfold ltL;simp [c1]
    go_quiet (fail)
    go_wp2
    go_ret
    exact ⟨by first | rfl | (rw [hr];rfl),below_drewN HL.o.1 _⟩
  · have d1:decide (x.2 < y.2)=false:=by simpa using c1
    by_cases c2:x.2=y.2
    · have hr:ltL x y=decide (Go.Lib.compareBytes x.1 y.1 < 0):=by unfold ltL;simp [c2]
      have d2:decide (x.2=y.2)=true:=by simpa using c2
      have d3:(x.2 == y.2)=true:=by simpa using c2
      go_quiet (exact Calls.quiet_of_same (zGJ _ _ x.1 y.1 _ (HL.o.2.1.drewN _) (HL.o.2.2.drewN _)))
      go_wp2
      go_ret
      exact ⟨by first | rfl | (rw [hr];rfl),below_drewN HL.o.1 _⟩
    · have hr:ltL x y=false:=by unfold ltL;simp [c1,c2]
      have d2:decide (x.2=y.2)=false:=by simpa using c2
      have d3:(x.2 == y.2)=false:=by simpa using c2
      go_quiet (fail)
      go_wp2
      go_ret
      exact ⟨by first | rfl | (rw [hr];rfl),below_drewN HL.o.1 _⟩
end Go.Proofs.YtbbojbdigiibbaaGreatDoor
end
section
namespace Go.Proofs.YtbbojbdigiibbaaGreatDoor
open Go Go.RowKit Go.Mem Gf Lea Go.Lib Go.Shelf
noncomputable def lsT:TypeInfo:=(Tryz.prog.info? 131).get (by kernel_rfl)
noncomputable def lsE:TypeInfo:=(Tryz.prog.info? 165).get (by kernel_rfl)
theorem lsK9 (n:Nat) (h2:2≤n):Lib.swapperK n lsE 25=9:=by
 have a:lsE.hasPointers=false:=by kernel_rfl
 have b:lsE.bytes=24:=by kernel_rfl
 have c:(n == 0)=false:=by simp;omega
 have d:(n == 1)=false:=by simp;omega
 simp [Lib.swapperK,a,b,c,d]
theorem zFK {α:Type} (lt:α→α→Bool) (ho:Srt.Ord lt) (g sf:Nat) (lb sb:Array Value) (eg:∀ args w,(callFunc g args).run Tryz.prog w=.ok (.enter g args) w) :
  zIe (fun _ l=>l.length≤1) (fun _=>False) lt g sf lb sb :=
 ⟨fun _ _ _ _ h=>h.elim,fun _ _ _ h=>h,fun W l i j x y hij h hi hj=>by have:=zh hi;omega,fun W l i j x y hij h hi hj=>by have:=zh hi;omega,eg,ho⟩
theorem zE4 {α:Type} {lt:α→α→Bool} {l:List α} {n:Nat} (h:Srt.Upto lt l n) (hn:l.length≤n):l.Pairwise fun a b=>lt b a=false:=by
 rw [List.pairwise_iff_getElem]
 intro i j hi hj hij
 exact h i j _ _ hij (by omega) (by simp) (by simp)
theorem zE1:∀ args w,(callFunc 115 args).run Tryz.prog w=.ok (.enter 115 args) w:=enters_of Tryz.func115 (by kernel_rfl) rfl
theorem zND (bx base g n cap:Nat) (hne:bx≠g) (sf:Nat) (gS:Bool) (hx:∀ args W,(callFunc sf args).run Tryz.prog W=((Extern.ReflectliteSwapper.swap gS args).run Tryz.prog W).andThen fun v w'=>.ok (.value v) w') :
  zIe (fun W l=>zAt zAn WfL 17 165 W base g n cap l∧Blk W bx #[.slice (some ⟨g,0,none⟩) n cap] 131) (fun k=>k=g) ltL 115 sf #[.pointer (some ⟨bx,0,none⟩)] #[.slice (some ⟨g,0,none⟩) n cap,typeHandle Tryz.prog 165]:=by
 refine ⟨fun W l h k hk=>?_,fun W l o h=>?_,fun W l i j x y _ h hi hj=>?_,fun W l i j x y hij h hi hj=>?_,zE1,ordL⟩
 · obtain ⟨cur,hh,_⟩:=h.1.block
   rw [hk];exact lt_of_block hh
 · exact ⟨h.1.chg (S:=fun _=>False) (Chg.of_below ((Below.refl _ _).alloc (Nat.le_refl _) o)) (fun h=>h),h.2.alloc o⟩
 · refine (zI1 W bx base g n cap l h.1 h.2 i j x y hi hj).mono ?_
   rintro e W' ⟨rfl,hB⟩
   have hc:Chg (fun k=>k=g) W W':=Chg.of_below hB
   exact ⟨rfl,⟨h.1.chg (S:=fun _=>False) (Chg.of_below hB) (fun h=>h),hc.blk h.2 hne⟩,hc⟩
 · have hi':i < n:=by rw [h.1.len];exact zh hi
   have hj':j < n:=by rw [h.1.len];exact zh hj
   have wx:=h.1.wf x (List.mem_of_getElem? hi)
   have wy:=h.1.wf y (List.mem_of_getElem? hj)
   have hs:lsE.size=17:=by kernel_rfl
   have h1:=h.1.set ecL hi' wy
   have h2:=h1.set ecL hj' wx
   have hsw:=run_swap_cells (P:=Tryz.prog) gS 165 lsE (by kernel_rfl) (fun _=>by kernel_rfl) g 0 n cap i j hi' hj' (zAn x) (zAn y) (by rw [hs];exact ecL.len x wx) (by rw [hs];exact ecL.len y wy) (ecL.one x) (ecL.one y) W
    (fun k v hv=>by rw [hs,Nat.zero_add];exact h.1.range ecL hi k v hv) (fun k v hv=>by rw [hs,Nat.zero_add];exact h.1.range ecL hj k v hv)
    (fun k hk=>by rw [hs] at hk ⊢;rw [Nat.zero_add];exact (h.1.there hi' k hk).2) (fun k hk=>by rw [hs] at hk ⊢;rw [Nat.zero_add];exact (h.1.there hj' k hk).2)
   rw [hs,Nat.zero_add,Nat.zero_add] at hsw
   have hc:Chg (fun k=>k=g) W ((W.setCells g (i*17) (zAn y)).setCells g (j*17) (zAn x)):=Chg.setCells (S:=fun b=>b=g) (L:=g) rfl _ _ _ (Chg.setCells (S:=fun b=>b=g) (L:=g) rfl _ _ _ (Chg.refl _ _))
   refine ⟨_,?_,⟨?_,hc.blk h.2 hne⟩,hc⟩
   · rw [hx]
     show ((Extern.ReflectliteSwapper.swap gS #[.int .i64 i,.int .i64 j,.slice (some ⟨g,0,none⟩) n cap,typeHandle Tryz.prog 165]).run Tryz.prog W).andThen _=_
     rw [hsw]
     rfl
   · unfold Srt.swap
     rw [hi,hj]
     exact h2
theorem zKB (w:World) (p:Option Addr) (n c:Nat) (hn:n≤1) (bx:Nat) :
  Calls Tryz.prog 114 #[.iface 131 (.slice p n c),.func (.func 115) #[] #[.pointer (some ⟨bx,0,none⟩)]] w fun e w'=>e=.returned (.tuple #[])∧Chg (fun _=>False) w w':=by
 obtain ⟨l,hl⟩:∃ l:List Sec,l.length=n:=⟨List.replicate n ([],0),by simp⟩
 obtain ⟨f, hf⟩ : ∃ f, Tryz.prog.funcs.findIdx? (·.name == "internal/reflectlite" ++ ".Swapper$" ++ toString (swapperK n lsE 25)) = some f := by
  rcases (by omega:n=0∨n=1) with rfl | rfl
  · exact ⟨192,by kernel_rfl⟩
  · exact ⟨193,by kernel_rfl⟩
 have hb:sliceBound Tryz.prog 165 lsE 25 p n c=#[]:=by
  unfold sliceBound swapperK
  rcases (by omega:n=0∨n=1) with rfl | rfl <;> simp
 have hw:Chg (fun _=>False) w (sliceWorld Tryz.prog Tryz.laysGg6_ren 131 p n c w):=Chg.of_below (((Below.refl _ _).alloc (Nat.le_refl _) _).alloc (by simp) _)
 refine Any.sort_Slice_of_pdq Tryz.laysGg6 131 165 lsT lsE (by kernel_rfl) (by kernel_rfl) (by kernel_rfl) (by kernel_rfl) 25 (fun _=>by kernel_rfl) p n c (by omega) f hf _ _ _ w _ ?_
 rw [hb]
 refine (zEk (zFK ltL ordL 115 f #[.pointer (some ⟨bx,0,none⟩)] #[] zE1) l n _ hl (by omega) _ (by omega)).mono ?_
 rintro e w' ⟨rfl,_,_,_,_,hc⟩
 exact ⟨rfl,hw.trans hc⟩
theorem zKA (w:World) (bx base g n cap:Nat) (l:List Sec) (h:zAt zAn WfL 17 165 w base g n cap l) (hb:Blk w bx #[.slice (some ⟨g,0,none⟩) n cap] 131) (hne:bx≠g) (h2:2≤n) (hn:n≤12) :
  Calls Tryz.prog 114 #[.iface 131 (.slice (some ⟨g,0,none⟩) n cap),.func (.func 115) #[] #[.pointer (some ⟨bx,0,none⟩)]] w fun e w' =>
   e=.returned (.tuple #[])∧∃ l',zAt zAn WfL 17 165 w' base g n cap l'∧l'.Perm l∧(l'.Pairwise fun a b=>ltL b a=false)∧Chg (fun k=>k=g) w w':=by
 have hf : Tryz.prog.funcs.findIdx? (·.name == "internal/reflectlite" ++ ".Swapper$" ++ toString (swapperK n lsE 25)) = some 200 := by
  rw [lsK9 n h2];kernel_rfl
 have hsb:sliceBound Tryz.prog 165 lsE 25 (some ⟨g,0,none⟩) n cap=#[.slice (some ⟨g,0,none⟩) n cap,typeHandle Tryz.prog 165]:=by
  unfold sliceBound
  rw [lsK9 n h2]
  rfl
 have hB:Below w.heap.size w (sliceWorld Tryz.prog Tryz.laysGg6_ren 131 (some ⟨g,0,none⟩) n cap w):=((Below.refl _ _).alloc (Nat.le_refl _) _).alloc (by simp) _
 have hw:Chg (fun k=>k=g) w (sliceWorld Tryz.prog Tryz.laysGg6_ren 131 (some ⟨g,0,none⟩) n cap w):=Chg.of_below hB
 have S:=zND bx base g n cap hne 200 false (fun args W=>run_callFunc_extern Tryz.func200 (by kernel_rfl) (by kernel_rfl) (by kernel_rfl) (e:=Extern.ReflectliteSwapper.swap false) (by kernel_rfl) args W)
 refine Any.sort_Slice_of_pdq Tryz.laysGg6 131 165 lsT lsE (by kernel_rfl) (by kernel_rfl) (by kernel_rfl) (by kernel_rfl) 25 (fun _=>by kernel_rfl) _ n cap (by omega) _ hf _ _ _ w _ ?_
 rw [hsb]
 refine (zEk S l n _ h.len.symm hn _ ⟨h.chg (S:=fun _=>False) (Chg.of_below hB) (fun h=>h),hw.blk hb hne⟩).mono ?_
 rintro e w' ⟨rfl,l',h1,hp,hu,hc⟩
 exact ⟨rfl,l',h1.1,hp,zE4 hu (by rw [hp.length_eq,← h.len];exact Nat.le_refl _),hw.trans hc⟩
end Go.Proofs.YtbbojbdigiibbaaGreatDoor
end
section
namespace Go.Mem
open Go Go.RowKit Gf
section
variable {P:Program} {w:World} {ops:Array Oper} {rest:List Oper} {o:Oper} {a:Act} {Q:Exit→Act→World→Prop} {K:Act→World→Prop} {E0:Prop}
theorem zJK {t e:TypeId} {z:Value} {size bytes:Nat} (E:zDV P t e z size bytes) (s x:Operand) (ho:o.op=.call { callee:=.builtin .append,args:=#[s,x],argTypes:=#[t,t] })
  {base:Nat} {v:Value} {n m cx:Nat} {xs:List Value} (news:List Value) (hs:a.eval s=v) {mb:Nat} (hx:a.eval x=.slice (some ⟨mb,0,none⟩) m cx) (hl:news.length=m*size) (hnews:∀ j u,news[j]?=some u→w.cell? ⟨mb,j,none⟩=some u) (h1:∀ u∈news,u.oneCell'=true)
  (hown:w.ownsRow base e size v n xs) (hn:n+m≤4294967296) (hby:bytes≤4096) (hbase:base≤w.heap.size)
  (h:∀ v' w',w'.ownsRow base e size v' (n+m) (xs++news)∧w.grownBy w' v.ownBlock∧(∀ k,v'.ownBlock=some k→v.ownBlock=some k∨w.heap.size≤k)→K (a.put o.dst v') w'):o.wp P a w K Q:=by
 obtain ⟨i,hi,hz,hsz,hb⟩:=info_parts E.info
 have hm:(n+m)*bytes≤4294967296*4096:=Nat.mul_le_mul hn hby
 obtain ⟨v',w',hr,h2,h3,h4⟩:=zBs (P:=P) w base t o.type e i z size bytes E.under hi hz hsz hb E.zsize E.pos v n xs hown ⟨mb,0,none⟩ m cx news (by omega)
  (fun j y hj=>by
   rw [show (⟨mb,0,none⟩:Addr).add j=⟨mb,j,none⟩ from by unfold Addr.add;split <;> simp_all]
   exact hnews j y hj)
  h1 (by unfold maxLen;omega) (by omega) hbase
 unfold Oper.wp execOp
 simp only [ho,resolve,invoke,builtin,Sem.run_bind,Sem.run_pure,Result.andThen_ok,List.map_toArray,List.map_cons,List.map_nil,hs,hx,hr]
 exact h v' w' ⟨h2,h3,h4⟩
theorem zBW {α:Type} {enc:α→List Value} {Wf:α→Prop} {t e:TypeId} {z:Value} {size bytes:Nat} (E:zDV P t e z size bytes) (EC:zEq enc Wf size) (hgd:o.guard=none) (s x:Operand) (ho:o.op=.call { callee:=.builtin .append,args:=#[s,x],argTypes:=#[t,t] })
  {base:Nat} {v:Value} {l:List α} (y:α) (hy:Wf y) (hs:a.eval s=v) {mb cx:Nat} (hx:a.eval x=.slice (some ⟨mb,0,none⟩) 1 cx) {e':TypeId} (hnews:Blk w mb (enc y).toArray e')
  (hown:zAb enc Wf size e w base v l) (hn:l.length+1≤4294967296) (hby:bytes≤4096) (hbase:base≤w.heap.size)
  (h:∀ v' w',zAb enc Wf size e w' base v' (l++[y])→w.grownBy w' v.ownBlock→(∀ k,v'.ownBlock=some k→v.ownBlock=some k∨w.heap.size≤k)→wpList P ops Q rest (a.put o.dst v') w'):wpList P ops Q (o::rest) a w :=
 zCl hgd (fun _ hK=>zJK E s x ho (enc y) hs hx (by rw [EC.len y hy,Nat.one_mul]) (fun j u hj=>by rw [hnews.cell];simpa using hj) (EC.one y) hown.own hn hby hbase hK) fun v' w' h2=>h v' w'
  ⟨by rw [List.length_append,List.length_singleton,zNQ,zNR];exact h2.1,fun q hq=>by
   rcases List.mem_append.1 hq with hq | hq
   · exact hown.wf q hq
   · rw [List.mem_singleton.1 hq];exact hy⟩ h2.2.1 h2.2.2
end
theorem Chg.trans_below {S:Nat→Prop} {w w' w'':World} (h:Chg S w w') (h':Below w'.heap.size w' w''):Chg S w w'':=h.trans (Chg.of_below h')
theorem zAb.ge {α:Type} {enc:α→List Value} {Wf:α→Prop} {k:Nat} {ti:TypeId} {w:World} {base:Nat} {v:Value} {l:List α} (h:zAb enc Wf k ti w base v l) {g:Nat} (e:v.ownBlock=some g):base≤g:=by
 rcases h.own.2 with ⟨e1,_⟩ | ⟨g',cap,cur,e1,h1,_⟩
 · rw [e1] at e;cases e
 · rw [e1] at e;cases e;exact h1
end Go.Mem
end
section
namespace Go.Proofs.YtbbojbdigiibbaaGreatDoor
open Go Go.RowKit Go.Mem Gf Lea
theorem EKl:zDV Tryz.prog 131 165 (.agg ((List.replicate 16 (Value.int .u8 0))++[Value.int .i64 0]).toArray) 17 24:=⟨Tryz.underlying131,by kernel_rfl,rfl,by decide⟩
theorem zDG (dst:Option Tmp) (x:Operand) (ty:TypeId) (pos:String) (af:Array Edge) (a:Act) (w:World) (K:Act→World→Prop) (Q:Exit→Act→World→Prop) (hy:zBD (a.eval x)=true) (hc:zAP 17 (zAi (a.eval x))) :
  Oper.wp Tryz.prog ⟨dst,.buildSlice 131 1 #[(0,x)],ty,pos,af,none⟩ a w K Q=K (a.put dst (.slice (some ⟨w.heap.size,0,none⟩) 1 1)) (w.alloc (.cells (zAi (a.eval x)).toArray 165)) :=
 zGI Tryz.underlying131 (by kernel_rfl) (by decide) (by decide) dst x ty pos af a w K Q hy hc
theorem zMg {x:Les} (h:Wf x):zCH (zq x).toArray 16 17=zAn (x.sec,x.e):=by
 have h1:(bV x.ix).length=16:=by rw [zB];exact h.1
 have h2:(bV x.sec).length=16:=by rw [zB];exact h.2
 unfold zCH zq zAn
 rw [List.toList_toArray,List.append_assoc,List.drop_append_of_le_length (by omega),List.drop_of_length_le (by omega),List.nil_append,List.take_of_length_le (by simp;omega)]
theorem zN4 {l:List Les} {i:Nat} {x:Les} (hx:l[i]?=some x) (ix:Key):ofL (l.take (i+1)) ix=ofL (l.take i) ix++if x.ix=ix then [(x.sec,x.e)] else []:=by
 rw [List.take_add_one,hx,Option.toList_some,zEi]
 congr 1
 unfold ofL
 by_cases c:x.ix=ix <;> simp [c]
attribute [local go_sem ↓] Go.wp_at_zero Go.wp_at_succ
attribute [local go_sem ↓] zAN zBb zBI zBZ zDG
attribute [local go_sem] ptrB_eq ptrO_eq ptrIs_eq aggL_eq aggIs_eq zT zg zC zG zZ ze zX zH zK
set_option maxRecDepth 100000 in
set_option maxHeartbeats 1000000 in
theorem zCY (w:World) (tb:Nat) (v:Value) (l:List Les) (ix:Key) (h:LTab w tb v l) (hl:l.length≤100000) (hix:ix.length=16) (h8:(ofL l ix).length≤12) :
  Calls Tryz.prog 65 #[.pointer (some ⟨tb,0,none⟩),.agg (bV ix).toArray] w fun e w'=>∃ vo out,e=.returned vo∧zAb zAn WfL 17 165 w' w.heap.size vo out∧OfR l ix out∧Below w.heap.size w w':=by
 have hcell:w.cell? ⟨tb,0,none⟩=some v:=by simpa using h.cell.cell 0
 have htb:=h.cell.lt
 have htb1:tb < w.heap.size+1:=by omega
 obtain ⟨a0,c0,hv,hg⟩:=zAG h.own
 obtain ⟨n,hn⟩:∃ n,n=l.length:=⟨_,rfl⟩
 rw [← hn] at hl
 have H:=Zh (Zi h (Zi hn (Zi hv hg)))
 rw [hv,← hn] at hcell
 have H8:=Zh h8
 clear h hn hv hg h8
 go_enter Tryz.func65,Tryz.ntmps65
 go_upto_region 3 with fail
 have hB0:Below w.heap.size w ((w.alloc (.cells (bV ix).toArray 39)).alloc (.cells #[.slice none 0 0] 131)):=((Below.refl _ _).alloc (Nat.le_refl _) _).alloc (by simp) _
 have hk1:Blk ((w.alloc (.cells (bV ix).toArray 39)).alloc (.cells #[.slice none 0 0] 131)) w.heap.size (bV ix).toArray 39:=(Blk.new _ _ _).alloc _
 have hk2:Blk ((w.alloc (.cells (bV ix).toArray 39)).alloc (.cells #[.slice none 0 0] 131)) (w.heap.size+1) #[.slice none 0 0] 131:=Blk.new_at _ _ _ _ (by simp)
 obtain ⟨w0,hw0⟩:∃ x,x=(w.alloc (.cells (bV ix).toArray 39)).alloc (.cells #[.slice none 0 0] 131):=⟨_,rfl⟩
 have hsz:w0.heap.size=w.heap.size+2:=by rw [hw0];simp
 rw [← hw0] at hB0 hk1 hk2 ⊢
 clear hw0
 obtain ⟨p3,hp3⟩:∃ p,p=w.heap.size:=⟨_,rfl⟩
 obtain ⟨p5,hp5⟩:∃ p,p=w.heap.size+1:=⟨_,rfl⟩
 rw [← hp5] at hk2 ⊢
 rw [← hp3] at hk1 ⊢
 have HP:=Zh (Zi hp3 (Zi hp5 (Zi hsz hB0)))
 clear hp3 hp5 hsz hB0
 go_loopw [13] (fun vi wr=>∃ (i:Nat) (a5:Option Addr) (n5 c5:Nat),i≤n∧vi=.int .i64 i∧Hid (zAb zAn WfL 17 165 wr (p5+1) (.slice a5 n5 c5) (ofL (l.take i) ix)∧Blk wr p3 (bV ix).toArray 39∧Blk wr p5 #[.slice a5 n5 c5] 131∧Chg (fun k=>w.heap.size≤k) w wr)) (fun vi _=>n - (intOf vi).toNat)
 case atStart=>exact ⟨0,none,0,0,Nat.zero_le _,rfl,zAb.nil _ _ _ _ _ _,hk1,hk2,Chg.of_below HP.o.2.2.2⟩
 case round =>
  obtain ⟨i,a5,n5,c5,hi0,rfl,G⟩:=hrel
  have l5:=G.o.2.2.1.lt
  have q5:wr.cell? ⟨p5,0,none⟩=some (.slice a5 n5 c5):=by simpa using G.o.2.2.1.cell 0
  by_cases hin:i < n
  · obtain ⟨g,rfl⟩:=H.o.2.2.2 (by have:=H.o.2.1;omega)
    have hrow:=(H.o.1.row H.o.2.1.symm (by rw [H.o.2.1];exact H.o.2.2.1)).below (G.o.2.2.2.below (Nat.le_refl _) (fun _ h=>h))
    have hx:l[i]?=some (l[i]'(by have:=H.o.2.1;omega)):=by simp
    generalize l[i]'(by have:=H.o.2.1;omega)=x at hx
    have hwx:=hrow.wf x (List.mem_of_getElem? hx)
    have rx:zN 33 wr g (i*33)=zq x:=zA3 (hrow.range hx) (zAR hwx)
    have t1:zW 33 wr g (i*33):=hrow.there hin
    have ax:=zBq hwx
    have lx:=zAR hwx
    have k1:=(zGo hwx).1
    have k2:=zMg hwx
    have gl:g < wr.heap.size:=hrow.lt
    have r3:zN 16 wr p3 0=bV ix:=zS G.o.2.1 (by rw [zB,hix])
    have h3:zW 16 wr p3 0:=zO G.o.2.1 (by simp [zB,hix])
    have l3:=G.o.2.1.lt
    have e1:=zFy x.ix ix hwx.1 hix
    have i0:(0:Int)≤(i:Int):=by omega
    have i1:(i:Int) < (n:Int):=by omega
    have hs:=zN4 hx ix
    have HX:=Zh (Zi hx hs)
    have wl:WfL (x.sec,x.e):=hwx.2
    have al:=zJP wl
    obtain ⟨cx,hcx⟩:∃ c,c=zq x:=⟨_,rfl⟩
    rw [← hcx] at rx ax lx k1 k2
    obtain ⟨y,hy⟩:∃ y,y=(x.sec,x.e):=⟨_,rfl⟩
    have HY:=Zh hy
    rw [← hy] at k2 wl al
    obtain ⟨cy,hcy⟩:∃ c,c=zAn y:=⟨_,rfl⟩
    have HC:=Zh hcy
    rw [← hcy] at k2 al
    have hend:Chg (fun k=>w.heap.size≤k) w (wr.alloc (.cells cx.toArray 175)):=G.o.2.2.2.trans_below ((Below.refl _ _).alloc (Nat.le_refl _) _)
    have HE:=Zh hend
    have hown:zAb zAn WfL 17 165 (wr.alloc (.cells cx.toArray 175)) (p5+1) (.slice a5 n5 c5) (ofL (l.take i) ix):=G.o.1.chg (S:=fun _=>False) (Chg.of_below ((Below.refl _ _).alloc (Nat.le_refl _) _)) (fun _ _ h=>h)
    have HO:=Zh hown
    clear hrow hx hcx hs hend hown hy hcy
    by_cases c1:x.ix=ix
    · have d1:decide (x.ix=ix)=true:=by simpa using c1
      have hs:=HX.o.2
      rw [if_pos c1] at hs
      have HS:=Zh hs
      replace c1:=Zh c1
      clear hs
      have hle:(ofL (l.take i) ix).length+1≤4294967296:=by
       have h1:(ofL (l.take i) ix).length≤(l.take i).length:=by unfold ofL;rw [List.length_map];exact List.length_filter_le _ _
       rw [List.length_take] at h1
       omega
      have HLE:=Zh hle
      clear hle
      go_wp2_with
       (first
        | (refine zBW EKl ecL (by rfl) _ _ (by rfl) (base:=p5+1) (v:=.slice a5 n5 c5) (l:=ofL (l.take i) ix) (cx:=1) (e':=165) y wl (by rfl) (by rfl) (by rw [← HC.o];exact Blk.new_at _ _ _ _ (by simp)) (HO.o.chg (S:=fun _=>False) (Chg.of_below ((Below.refl _ _).alloc (Nat.le_refl _) _)) (fun _ _ h=>h)) HLE.o (by decide) (by simp;omega) ?_
           intro v1 x1 hv1 hg1 hs1
           obtain ⟨a1,n1,rfl⟩:=hv1.slice
           have hB1:Blk x1 p5 #[.slice a5 n5 c5] 131:=Blk.grown' ((G.o.2.2.1.alloc _).alloc _) hg1 (fun e=>by have:=G.o.1.ge e;omega)
           have hh:x1.cell? ⟨p5,0,none⟩=some (.slice a5 n5 c5):=by simpa using hB1.cell 0
           have f2:x1.frozen? ⟨p5,0,none⟩=false:=hB1.free 0
           have HV1:=Zh hv1;have HG1:=Zh hg1;have HS1:=Zh hs1;have HB1:=Zh hB1
           clear hv1 hg1 hs1 hB1)
        | fail)
      have hv:=HV1.o
      rw [List.length_append,List.length_singleton] at hv
      have hp3:p3 < p5:=by rw [HP.o.1,HP.o.2.1];omega
      have hp5:w.heap.size≤p5:=by rw [HP.o.2.1];omega
      refine ⟨⟨i+1,a1,_,n1,by omega,by simp,?_,?_,HB1.o.set 0 _,?_⟩,by show n - ((i:Int)+1).toNat < n - (i:Int).toNat;omega⟩
      · rw [HS.o,← HY.o]
        exact hv.chg (zEF x1 p5 0 _) (fun q hq e=>by have:=hv.ge hq;omega)
      · exact (Blk.grown' ((G.o.2.1.alloc _).alloc _) HG1.o (fun e=>by have:=G.o.1.ge e;omega)).set_other (fun e=>by have e':p5=p3:=e;omega) _
      · exact ((HE.o.trans_below ((Below.refl _ _).alloc (Nat.le_refl _) _)).grown HG1.o (fun q hq=>by left;have:=G.o.1.ge hq;omega)).set (a:=⟨p5,0,none⟩) hp5 _
    · have d1:decide (x.ix=ix)=false:=by simpa using c1
      have hs:=HX.o.2
      rw [if_neg c1,List.append_nil] at hs
      have HS:=Zh hs
      clear c1 hs
      go_wp2_with fail
      exact ⟨⟨i+1,a5,n5,c5,by omega,by simp,by rw [HS.o];exact HO.o,G.o.2.1.alloc _,G.o.2.2.1.alloc _,HE.o⟩,by show n - ((i:Int)+1).toNat < n - (i:Int).toNat;omega⟩
  · go_wp2_with fail
    have hfull:ofL (l.take i) ix=ofL l ix:=by rw [List.take_of_length_le (by have:=H.o.2.1;omega)]
    have hown:=G.o.1
    rw [hfull] at hown
    have hlen:n5=(ofL l ix).length:=by
     obtain ⟨_,_,e⟩:=hown.slice
     cases e;rfl
    have hB:=G.o.2.2.2.below (Nat.le_refl _) (fun _ h=>h)
    have hp5:w.heap.size≤p5:=by rw [HP.o.2.1];omega
    have HO:=Zh (Zi hown (Zi hlen (Zi hB hp5)))
    clear hown hlen hB hp5 hfull
    by_cases h2:2≤n5
    · obtain ⟨g5,c5',e5,hrow⟩:=HO.o.1.ex (by rw [← HO.o.2.1];omega)
      injection e5 with ea en ec
      subst ea
      subst ec
      rw [← HO.o.2.1] at hrow
      clear en
      have HR:=Zh hrow
      have hne:p5≠g5:=fun e=>by have:=HO.o.1.ge (g:=g5) rfl;omega
      clear hrow
      refine (zKA wr p5 (p5+1) g5 n5 c5 (ofL l ix) HR.o G.o.2.2.1 hne h2 (by rw [HO.o.2.1];exact H8.o)).mono ?_
      rintro e w2 ⟨rfl,out,hr2,hp2,hs2,hc2⟩
      have hb2:=hc2.blk G.o.2.2.1 hne
      have q2:w2.cell? ⟨p5,0,none⟩=some (.slice (some ⟨g5,0,none⟩) n5 c5):=by simpa using hb2.cell 0
      have H2:=Zh (Zi hr2 (Zi hp2 (Zi hs2 hc2)))
      clear hr2 hp2 hs2 hc2 hb2
      go_wp2_with fail
      go_ret
      refine ⟨_,out,rfl,H2.o.1.to.lower (by have:=HO.o.2.2.2;omega),⟨H2.o.2.1,H2.o.2.2.1⟩,?_⟩
      exact ((Chg.of_below (S:=fun k=>w.heap.size≤k) HO.o.2.2.1).mix H2.o.2.2.2 (fun k hk=>.inl (by have:=HO.o.1.ge (g:=g5) rfl;have:=HO.o.2.2.2;omega))).below (Nat.le_refl _) (fun _ h=>h)
    · refine (zKB wr a5 n5 c5 (by omega) p5).mono ?_
      rintro e w2 ⟨rfl,hc2⟩
      have hb2:=hc2.blk G.o.2.2.1 (fun h=>h)
      have q2:w2.cell? ⟨p5,0,none⟩=some (.slice a5 n5 c5):=by simpa using hb2.cell 0
      have H2:=Zh hc2
      clear hc2 hb2
      go_wp2_with fail
      go_ret
      refine ⟨_,ofL l ix,rfl,(HO.o.1.chg H2.o (fun _ _ h=>h)).lower (by have:=HO.o.2.2.2;omega),⟨List.Perm.refl _,?_⟩,?_⟩
      · rw [List.pairwise_iff_getElem]
        intro p q hp hq hpq
        have:=HO.o.2.1
        omega
      · exact ((Chg.of_below (S:=fun k=>w.heap.size≤k) HO.o.2.2.1).mix H2.o (fun k hk=>hk.elim)).below (Nat.le_refl _) (fun _ h=>h)
end Go.Proofs.YtbbojbdigiibbaaGreatDoor
end
section
namespace Go.Proofs.YtbbojbdigiibbaaGreatDoor
open Go Go.RowKit Go.Mem Gf Lea
theorem _root_.Go.Proofs.YtbbojbdigiibbaaGreatDoor.LTab.below {w w':World} {tb:Nat} {v:Value} {l:List Les} (h:LTab w tb v l) (hb:Below w.heap.size w w'):LTab w' tb v l :=
 ⟨h.cell.kept hb,zAl (S:=fun _=>False) h.own (Chg.of_below hb) (fun _ _ h=>h),h.wf,h.apart⟩
theorem _root_.Go.Proofs.YtbbojbdigiibbaaGreatDoor.Heap.below {w w':World} {tb:Nat} {v:Value} {l:List Les} (h:Heap w tb v l) (hb:Below w.heap.size w w'):Heap w' tb v l:=⟨h.tab.below hb,h.heap⟩
theorem zAr.pre {tb:Nat} {v v':Value} {w w1 w2:World} (hb:Below w.heap.size w w1) (h:zAr tb v v' w1 w2):zAr tb v v' w w2 :=
 ⟨(Chg.of_below hb).trans h.1,fun k hk=>by
   rcases h.2 k hk with h | h
   · exact .inl h
   · exact .inr (Nat.le_trans hb.size h)⟩
theorem zAr.same {tb:Nat} {v:Value} {w w':World} (hb:Below w.heap.size w w'):zAr tb v v w w':=⟨Chg.of_below hb,fun _ hk=>.inl hk⟩
set_option maxRecDepth 100000 in
theorem zDq (e:Int) (w:World):Calls Tryz.prog 152 #[.int .i64 e] w fun r w'=>r=.returned (.bool (decide (May e)))∧w'=w:=by
 by_cases c1:1≤e
 · have d1:decide (1≤e)=true:=by simpa using c1
   have hr:decide (May e)=decide (e≤1048576):=by unfold May;simp [c1]
   go_enter Tryz.func152,Tryz.ntmps152
   go_wp2_with fail
   go_ret
   exact ⟨by first | rfl | (rw [hr];rfl),rfl⟩
 · have d1:decide (1≤e)=false:=by simpa using c1
   have hr:decide (May e)=false:=by unfold May;simp [c1]
   go_enter Tryz.func152,Tryz.ntmps152
   go_wp2_with fail
   go_ret
   exact ⟨by first | rfl | (rw [hr];rfl),rfl⟩
theorem _root_.Lea.Row.setEnd {ti:TypeId} {w:World} {base g n cap:Nat} {l:List Les} (h:Row ti w base g n cap l) {i:Nat} {x y:Les} {e:Int} (hi:i < n) (hx:l[i]?=some x) (hy:y=⟨x.ix,x.sec,e⟩) :
  Row ti (w.setCell ⟨g,i*33+16+16,none⟩ (.int .i64 e)).drew base g n cap (l.set i y):=by
 have hwx:=h.wf x (List.mem_of_getElem? hx)
 have hwy:Wf y:=by rw [hy];exact hwx
 obtain ⟨cur,hh,hb,h1,h2,h3,h4⟩:=h.block
 have hB:Blk w g cur ti:=hh
 have b1:=(hB.set (i*33+16+16) (.int .i64 e)).drew
 have hll:=h.len
 refine ⟨⟨?_,.inr ⟨g,cap,_,rfl,hb,b1,h1,h2,by rw [Array.size_setIfInBounds,h3],?_⟩⟩,by rw [List.length_set];exact hll,wf_set h.wf hwy⟩
 · rw [zA6 _ (wf_set h.wf hwy),List.length_set,hll]
 · apply List.ext_getElem?
   intro j
   have hlen:=zA6 _ (wf_set h.wf hwy (i:=i))
   rw [List.length_set] at hlen
   rw [List.getElem?_take,Array.getElem?_toList]
   by_cases hj:j < n*33
   · have hm:n*33≤cap*33:=Nat.mul_le_mul_right _ h1
     rw [if_pos hj,zHG l h.wf (by omega) hwy j (by omega),Array.getElem?_setIfInBounds]
     by_cases c:i*33+16+16=j
     · subst c
       rw [if_pos rfl,if_pos (by omega),if_pos (by omega),show i*33+16+16 - i*33=32 by omega,zG3 hwy,hy]
     · rw [if_neg c,h4 j hj]
       by_cases c2:i*33≤j∧j < i*33+33
       · rw [if_pos c2]
         have hg:=zCI l h.wf i x hx (j - i*33) (by omega)
         rw [show i*33+(j - i*33)=j by omega] at hg
         rw [hg,hy]
         unfold zq
         have l1:(bV x.ix++bV x.sec).length=32:=by rw [List.length_append,zB,zB,hwx.1,hwx.2]
         show (bV x.ix++bV x.sec++[.int .i64 x.e])[j - i*33]?=(bV x.ix++bV x.sec++[.int .i64 e])[j - i*33]?
         rw [List.getElem?_append_left (l₁:=bV x.ix++bV x.sec) (l₂:=[.int .i64 x.e]) (by omega),List.getElem?_append_left (l₁:=bV x.ix++bV x.sec) (l₂:=[.int .i64 e]) (by omega)]
       · rw [if_neg c2]
   · rw [if_neg hj,List.getElem?_eq_none (by omega)]
theorem zG0 (dst:Option Tmp) (x y:Operand) (ty:TypeId) (pos:String) (af:Array Edge) (a:Act) (w:World) (K:Act→World→Prop) (Q:Exit→Act→World→Prop)
  (h1:(a.eval x).cells.size=16) (h2:(a.eval y).cells.size=17) :
  Oper.wp Tryz.prog ⟨dst,.build 175 #[(0,x),(1,y)],ty,pos,af,none⟩ a w K Q=K (a.put dst (.agg ((a.eval x).cells++(a.eval y).cells))) w :=
 zGc Tryz.underlying175 (by kernel_rfl) (by kernel_rfl) dst x y ty pos af a w K Q h1 h2
theorem zJ7 {y:Sec} (h:WfL y):zCH (zAn y).toArray 0 16=bV y.1:=by
 have h1:(bV y.1).length=16:=by rw [zB];exact h
 unfold zCH zAn
 simp [h1]
attribute [local go_sem ↓] Go.wp_at_zero Go.wp_at_succ
attribute [local go_sem ↓] zAN zBb zBI zBZ zDG zG0
attribute [local go_sem] ptrB_eq ptrO_eq ptrIs_eq aggL_eq aggIs_eq zT zg zC zG zZ ze zX zH zK
set_option maxRecDepth 100000 in
set_option maxHeartbeats 1000000 in
theorem zEZ (w:World) (tb:Nat) (v:Value) (l:List Les) (ix sec:Key) (e:Int) (h:Heap w tb v l) (hg:Lea.Good l) (hl:l.length≤90000) (hix:ix.length=16) (hsec:sec.length=16) :
  Calls Tryz.prog 101 #[.pointer (some ⟨tb,0,none⟩),.agg (bV ix).toArray,.agg (zAn (sec,e)).toArray] w fun r w'=>∃ b v' l',r=.returned (.bool b)∧zBk l ix sec e b l'∧Heap w' tb v' l'∧zAr tb v v' w w':=by
 have wl:WfL (sec,e):=hsec
 obtain ⟨cy,hcy⟩:∃ c,c=zAn (sec,e):=⟨_,rfl⟩
 have k1:zCH cy.toArray 0 16=bV sec:=by rw [hcy];exact zJ7 wl
 have ly:cy.length=17:=by rw [hcy];exact ecL.len _ wl
 have ce:cy[16]?=some (.int .i64 e):=by rw [hcy];exact zFY wl
 have H:=Zh (Zi h (Zi hg hcy))
 rw [← hcy]
 clear h hg hcy wl
 go_enter Tryz.func101,Tryz.ntmps101
 go_upto_region 1 with fail
 have hB0:Below w.heap.size w ((w.alloc (.cells (bV ix).toArray 39)).alloc (.cells cy.toArray 165)):=((Below.refl _ _).alloc (Nat.le_refl _) _).alloc (by simp) _
 have hk1:Blk ((w.alloc (.cells (bV ix).toArray 39)).alloc (.cells cy.toArray 165)) w.heap.size (bV ix).toArray 39:=(Blk.new _ _ _).alloc _
 have hk2:Blk ((w.alloc (.cells (bV ix).toArray 39)).alloc (.cells cy.toArray 165)) (w.heap.size+1) cy.toArray 165:=Blk.new_at _ _ _ _ (by simp)
 obtain ⟨w0,hw0⟩:∃ x,x=(w.alloc (.cells (bV ix).toArray 39)).alloc (.cells cy.toArray 165):=⟨_,rfl⟩
 rw [← hw0] at hB0 hk1 hk2 ⊢
 clear hw0
 obtain ⟨p4,hp4⟩:∃ p,p=w.heap.size:=⟨_,rfl⟩
 obtain ⟨p5,hp5⟩:∃ p,p=w.heap.size+1:=⟨_,rfl⟩
 rw [← hp5] at hk2 ⊢
 rw [← hp4] at hk1 ⊢
 have HP:=Zh (Zi hp4 (Zi hp5 hB0))
 clear hp4 hp5 hB0
 have r4:zN 16 w0 p4 0=bV ix:=zS hk1 (by rw [zB,hix])
 have h4:zW 16 w0 p4 0:=zO hk1 (by simp [zB,hix])
 have r5:zN 16 w0 p5 0=bV sec:=by
  rw [← k1]
  exact zCV hk2 (by unfold zCH;simp [ly]) (fun k hk=>by unfold zCH;simp [hk])
 have h5:zW 16 w0 p5 0:=zO hk2 (by simp [ly])
 have hT0:Heap w0 tb v l:=H.o.1.below HP.o.2.2
 have HT:=Zh hT0
 have HK:=Zh (Zi hk1 hk2)
 clear hT0 hk1 hk2
 go_wp2_with fail
 refine (zE9 w0 tb v l ix sec HT.o.tab (by omega) hix hsec).mono ?_
 rintro r w1 ⟨k,rfl,hF,hB1⟩
 have hk1:=HK.o.1.kept hB1
 have hk2:=HK.o.2.kept hB1
 have hT1:=HT.o.below hB1
 have r4:zN 16 w1 p4 0=bV ix:=zS hk1 (by rw [zB,hix])
 have h4:zW 16 w1 p4 0:=zO hk1 (by simp [zB,hix])
 have q5:w1.cell? ⟨p5,16,none⟩=some (.int .i64 e):=by rw [hk2.cell];simpa using ce
 have hB:Below w.heap.size w w1:=HP.o.2.2.trans (hB1.mono HP.o.2.2.size)
 have H1:=Zh (Zi hk1 (Zi hk2 (Zi hT1 hB)))
 clear hk1 hk2 hT1 hB hB1 ce
 rcases hF with ⟨rfl,hno⟩ | ⟨i,x,rfl,hx,e1,e2⟩
 · have HNO:=Zh hno
   clear hno
   go_upto_region 4 with fail
   by_cases hm:May e
   · have d1:decide (May e)=true:=by simpa using hm
     replace hm:=Zh hm
     go_wp2_with fail
     refine (zDq _ _).mono ?_
     rintro r w2 ⟨rfl,rfl⟩
     go_wp2_with fail
     refine (zCY w2 tb v l ix H1.o.2.2.1.tab (by omega) hix (by have:=H.o.2.1.few ix;omega)).mono ?_
     rintro r w3 ⟨vo,out,rfl,hO,hR,hB3⟩
     obtain ⟨po,co,rfl⟩:=hO.slice
     obtain ⟨m,hm'⟩:∃ m,m=out.length:=⟨_,rfl⟩
     rw [← hm']
     have hlen:(ofL l ix).length=m:=by rw [hm',hR.perm.length_eq]
     have hk1:=H1.o.1.kept hB3
     have hk2:=H1.o.2.1.kept hB3
     have hT3:=H1.o.2.2.1.below hB3
     have hB:=H1.o.2.2.2.trans (hB3.mono H1.o.2.2.2.size)
     have r4:zN 16 w3 p4 0=bV ix:=zS hk1 (by rw [zB,hix])
     have h4:zW 16 w3 p4 0:=zO hk1 (by simp [zB,hix])
     have r5:zN 17 w3 p5 0=cy:=zS hk2 ly
     have h5:zW 17 w3 p5 0:=zO hk2 (by simp [ly])
     have H3:=Zh (Zi hT3 (Zi hB hlen))
     clear hk1 hk2 hT3 hB hlen hO hR hB3 hm'
     by_cases c8:8≤m
     · have d8:decide ((8:Int)≤(m:Int))=true:=by simp;omega
       replace c8:=Zh c8
       go_wp2_with fail
       go_ret
       exact ⟨false,v,l,rfl,.no (.inr ⟨HNO.o,by rw [H3.o.2.2];exact c8.o⟩),H3.o.1,zAr.same H3.o.2.1⟩
     · have d8:decide ((8:Int)≤(m:Int))=false:=by simp;omega
       replace c8:=Zh c8
       have wx:Wf ⟨ix,sec,e⟩:=⟨hix,hsec⟩
       obtain ⟨cz,hcz⟩:∃ c,c=zq ⟨ix,sec,e⟩:=⟨_,rfl⟩
       have hcat:bV ix++cy=cz:=by rw [hcz,H.o.2.2];unfold zq zAn;rw [List.append_assoc]
       have hcat2:(bV ix).toArray++cy.toArray=cz.toArray:=by rw [← hcat];simp
       have hbi:(bV ix).length=16:=by rw [zB,hix]
       have hpush:∀ W,Heap W tb v l→Calls Tryz.prog 153 #[.iface 177 (.pointer (some ⟨tb,0,none⟩)),.iface 175 (.agg cz.toArray)] W fun r w'=>r=.returned (.tuple #[])∧∃ v' l',Heap w' tb v' l'∧l'.Perm (l++[⟨ix,sec,e⟩])∧zAr tb v v' W w':=fun W hW=>by
        rw [hcz]
        exact zJx W tb v l ⟨ix,sec,e⟩ hW wx (by omega)
       have HPU:=Zh hpush
       have hB3:Below w.heap.size w w3.drew:=H3.o.2.1.drew
       have hT3:Heap w3.drew tb v l:=⟨⟨H3.o.1.tab.cell,H3.o.1.tab.own,H3.o.1.tab.wf,H3.o.1.tab.apart⟩,H3.o.1.heap⟩
       have H4:=Zh (Zi hB3 hT3)
       clear hcz hpush wx hB3 hT3
       go_upto_region 7 with fail
       go_region_with (refine (HPU.o _ H4.o.2).mono ?_;rintro r w4 ⟨rfl,v4,l4,hT4,hP4,hC4⟩)
       all_goals
        go_wp2_with fail
        go_ret
        exact ⟨true,v4,l4,rfl,.new l4 hm.o HNO.o (by rw [H3.o.2.2];have:=c8.o;omega) hP4,hT4,hC4.pre H4.o.1⟩
   · have d1:decide (May e)=false:=by simpa using hm
     replace hm:=Zh hm
     go_wp2_with fail
     refine (zDq _ _).mono ?_
     rintro r w2 ⟨rfl,rfl⟩
     go_wp2_with fail
     go_ret
     exact ⟨false,v,l,rfl,.no (.inl hm.o),H1.o.2.2.1,zAr.same H1.o.2.2.2⟩
 · have hi:i < l.length:=zh hx
   have d0:decide ((i:Int) < 0)=false:=by simp
   have HX:=Zh (Zi hx (Zi e1 e2))
   clear hx e1 e2
   go_upto_region 4 with fail
   by_cases hm:May e
   · have d1:decide (May e)=true:=by simpa using hm
     replace hm:=Zh hm
     obtain ⟨g,cap,rfl,hrow⟩:=H1.o.2.2.1.tab.ex (by omega)
     have hc:w1.cell? ⟨tb,0,none⟩=some (.slice (some ⟨g,0,none⟩) l.length cap):=by simpa using H1.o.2.2.1.tab.cell.cell 0
     have qe:=hrow.ends HX.o.1
     have fe:=(hrow.there hi 32 (by decide)).2
     obtain ⟨n,hn⟩:∃ n,n=l.length:=⟨_,rfl⟩
     rw [← hn] at hc hi
     have HR:=Zh (Zi hrow hn)
     have i0:(0:Int)≤(i:Int):=by omega
     have i1:(i:Int) < (n:Int):=by omega
     clear hrow hn
     go_wp2_with fail
     refine (zDq _ _).mono ?_
     rintro r w2 ⟨rfl,rfl⟩
     go_upto_region 2 with fail
     go_region
     all_goals
      obtain ⟨y,hy⟩:∃ y:Les,y=⟨x.ix,x.sec,max x.e e⟩:=⟨_,rfl⟩
      have hr2:=HR.o.1.setEnd (by rw [← HR.o.2];exact hi) HX.o.1 hy
      have hc2:Chg (fun b=>b=g) w2 (w2.setCell ⟨g,i*33+16+16,none⟩ (.int .i64 (max x.e e))).drew:=(zEF w2 g _ _).drew
      have hT2:=(H1.o.2.2.1.tab.row' (l':=l.set i y) rfl hr2 hc2)
      have hfp:=zOw (l:=l) (n:=n) (k:=i) (by rw [HR.o.2];exact H1.o.2.2.1.heap) hi (by rw [HR.o.2];exact Nat.le_refl _) y
      have HT2:=Zh (Zi hT2 (Zi hc2 (Zi hfp hy)))
      obtain ⟨w3,hw3⟩:∃ w3,w3=(w2.setCell ⟨g,i*33+16+16,none⟩ (.int .i64 (max x.e e))).drew:=⟨_,rfl⟩
      rw [← hw3] at HT2 ⊢
      clear hw3 hr2 hc2 hT2 hfp hy
      have q3:w3.cell? ⟨tb,0,none⟩=some (.slice (some ⟨g,0,none⟩) l.length cap):=by simpa using HT2.o.1.cell.cell 0
      go_wp2_with fail
      refine (zLL w3 tb _ (l.set i y) i n (by rw [List.length_set,HR.o.2]) HT2.o.1 (by rw [HR.o.2];omega) hi HT2.o.2.2.1.1 HT2.o.2.2.1.2).mono ?_
      rintro r w4 ⟨rfl,l4,hT4,hP4,hC4⟩
      go_wp2_with fail
      go_ret
      refine ⟨true,_,l4,rfl,.more i x l4 hm.o HX.o.1 HX.o.2.1 HX.o.2.2 ?_,hT4,((zAr.of HT2.o.2.1).trans hC4).pre H1.o.2.2.2⟩
      rw [← HX.o.2.1,← HX.o.2.2,← HT2.o.2.2.2]
      exact hP4
   · have d1:decide (May e)=false:=by simpa using hm
     replace hm:=Zh hm
     go_wp2_with fail
     refine (zDq _ _).mono ?_
     rintro r w2 ⟨rfl,rfl⟩
     go_wp2_with fail
     go_ret
     exact ⟨false,v,l,rfl,.no (.inl hm.o),H1.o.2.2.1,zAr.same H1.o.2.2.2⟩
end Go.Proofs.YtbbojbdigiibbaaGreatDoor
end
section
namespace Go.Proofs.YtbbojbdigiibbaaGreatDoor
open Go Go.RowKit Go.Mem Gf Lea
attribute [local go_sem ↓] Go.wp_at_zero Go.wp_at_succ
attribute [local go_sem ↓] zAN zBb zBI zBZ zCZ zDG zG0
attribute [local go_sem] ptrB_eq ptrO_eq ptrIs_eq aggL_eq aggIs_eq zT zg zC zG zZ ze zX zH zK
theorem _root_.Go.Proofs.YtbbojbdigiibbaaGreatDoor.LTab.chg {S:Nat→Prop} {w w':World} {tb:Nat} {v:Value} {l:List Les} (h:LTab w tb v l) (hc:Chg S w w') (h1:¬ S tb) (h2:∀ g,v.ownBlock=some g→¬ S g):LTab w' tb v l :=
 ⟨hc.blk h.cell h1,zAl h.own hc h2,h.wf,h.apart⟩
theorem zAS {k:Key} (h:k.length=16):zCH (bV k).toArray 0 16=bV k∧(bV k).length=16:=by
 have h1:(bV k).length=16:=by rw [zB];exact h
 exact ⟨by unfold zCH;rw [List.toList_toArray,List.drop_zero,List.take_of_length_le (by omega)],h1⟩
set_option maxRecDepth 100000 in
set_option maxHeartbeats 1000000 in
theorem zIl (w:World) (tb:Nat) (v:Value) (l:List Les) (ix sec:Key) (h:Heap w tb v l) (hl:l.length≤90000) (hix:ix.length=16) (hsec:sec.length=16) :
  Calls Tryz.prog 103 #[.pointer (some ⟨tb,0,none⟩),.agg (bV ix).toArray,.agg (bV sec).toArray] w fun r w'=>∃ b v' l',r=.returned (.bool b)∧zBQ l ix sec b l'∧Heap w' tb v' l'∧zAr tb v v' w w':=by
 have H:=Zh h
 have k1:=(zAS hix).1
 have k2:=(zAS hix).2
 have k3:=(zAS hsec).1
 have k4:=(zAS hsec).2
 clear h
 go_enter Tryz.func103,Tryz.ntmps103
 have hB0:Below w.heap.size w ((w.alloc (.cells (bV ix).toArray 39)).alloc (.cells (bV sec).toArray 39)):=((Below.refl _ _).alloc (Nat.le_refl _) _).alloc (by simp) _
 have HB:=Zh hB0
 clear hB0
 go_wp2_with fail
 refine (zE9 _ tb v l ix sec (H.o.below HB.o).tab (by omega) hix hsec).mono ?_
 rintro r w1 ⟨k,rfl,hF,hB1⟩
 have hT1:=(H.o.below HB.o).below hB1
 have H1:=Zh (Zi hT1 (HB.o.trans (hB1.mono HB.o.size)))
 clear hT1 hB1
 rcases hF with ⟨rfl,hno⟩ | ⟨i,x,rfl,hx,e1,e2⟩
 · have HNO:=Zh hno
   clear hno
   go_wp2_with fail
   go_ret
   exact ⟨false,v,l,rfl,.no HNO.o,H1.o.1,zAr.same H1.o.2⟩
 · have d0:decide ((i:Int) < 0)=false:=by simp
   have HX:=Zh (Zi hx (Zi e1 e2))
   clear hx e1 e2
   go_wp2_with fail
   refine (zHs w1 tb v l i x H1.o.1 HX.o.1 (by omega)).mono ?_
   rintro r w2 ⟨rfl,v2,l2,h1,h2,h3⟩
   go_wp2_with fail
   go_ret
   exact ⟨true,v2,l2,rfl,.gone x l2 HX.o.2.1 HX.o.2.2 h2,h1,h3.pre H1.o.2⟩
set_option maxRecDepth 100000 in
theorem zF6 (w:World):Calls Tryz.prog 39 #[] w fun r w'=>∃ tb,r=.returned (.pointer (some ⟨tb,0,none⟩))∧w.heap.size≤tb∧Heap w' tb (.slice none 0 0) []∧Below w.heap.size w w':=by
 go_enter Tryz.func39,Tryz.ntmps39
 go_wp2_with fail
 go_ret
 refine ⟨_,rfl,Nat.le_refl _,⟨⟨Blk.new _ _ _,World.ownsRow_nil _ _ _ _,(fun _ h=>by cases h),by simp [Value.ownBlock]⟩,(fun c h1 h2=>by simp at h2)⟩,(Below.refl _ _).alloc (Nat.le_refl _) _⟩
theorem zJ6 {y:Sec} (h:WfL y):(zAn y).toArray[16]?=some (.int .i64 y.2):=by
 simpa using zFY h
def zEu (l:List Les) (ix:Key) (now:Int):Prop:=∃ x∈l,x.ix=ix∧now < x.e
set_option maxRecDepth 100000 in
set_option maxHeartbeats 1000000 in
theorem zIx (w:World) (tb:Nat) (v:Value) (l:List Les) (ix:Key) (now:Int) (h:LTab w tb v l) (hl:l.length≤90000) (hix:ix.length=16) (h8:(ofL l ix).length≤12) :
  Calls Tryz.prog 50 #[.pointer (some ⟨tb,0,none⟩),.agg (bV ix).toArray,.int .i64 now] w fun r w'=>∃ b,r=.returned (.bool b)∧(b=true↔zEu l ix now)∧Below w.heap.size w w':=by
 have H:=Zh h
 have k1:=(zAS hix).1
 have k2:=(zAS hix).2
 clear h
 have HB:Hid (Below w.heap.size w (w.alloc (.cells (bV ix).toArray 39))):=(Below.refl _ _).alloc (Nat.le_refl _) _
 go_enter Tryz.func50,Tryz.ntmps50
 go_wp2_with fail
 refine (zCY _ tb v l ix (H.o.below HB.o) (by omega) hix h8).mono ?_
 rintro r w1 ⟨vo,out,rfl,hO,hR,hB1⟩
 obtain ⟨po,co,rfl⟩:=hO.slice
 have hgo:0 < out.length→∃ g,po=some ⟨g,0,none⟩:=fun hp=>by
  obtain ⟨g,cap,e,_⟩:=hO.ex hp
  injection e with ea
  exact ⟨g,ea⟩
 have hmem:∀ b:Bool,(b=true↔∃ s∈out,now < s.2)→(b=true↔zEu l ix now):=fun b hb=>by
  rw [hb]
  constructor
  · rintro ⟨s,hs,hlt⟩
    obtain ⟨x,hx,e1,e2⟩:=zCS.1 (hR.perm.mem_iff.1 hs)
    exact ⟨x,hx,e1,by rw [← e2] at hlt;exact hlt⟩
  · rintro ⟨x,hx,e1,hlt⟩
    exact ⟨_,hR.perm.mem_iff.2 (zCS.2 ⟨x,hx,e1,rfl⟩),hlt⟩
 obtain ⟨n,hn⟩:∃ n,n=out.length:=⟨_,rfl⟩
 rw [← hn] at hgo ⊢
 have hn8:n≤12:=by rw [hn,hR.perm.length_eq];exact h8
 have H1:=Zh (Zi hO (Zi hn (Zi hgo (Zi hmem (HB.o.trans (hB1.mono HB.o.size))))))
 clear hO hn hgo hmem hR hB1
 go_upto_region 2 with fail
 go_loopw [13] (fun vi wr=>∃ i:Nat,i≤n∧vi=.int .i64 i∧Hid ((∀ s∈out.take i,¬ now < s.2)∧Below w1.heap.size w1 wr)) (fun vi _=>n - (intOf vi).toNat)
 case atStart=>exact ⟨0,Nat.zero_le _,rfl,(fun s hs=>by simp at hs),Below.refl _ _⟩
 case round =>
  obtain ⟨i,hi0,rfl,G⟩:=hrel
  by_cases hin:i < n
  · obtain ⟨g,rfl⟩:=H1.o.2.2.1 (by omega)
    have hrow0:zAt zAn WfL 17 165 w1 (w.alloc (.cells (bV ix).toArray 39)).heap.size g n co out:=by
     obtain ⟨g',cap',e,hr⟩:=H1.o.1.ex (by have:=H1.o.2.1;omega)
     injection e with ea _ ec
     injection ea with ea
     injection ea with ea
     rw [← ea,← ec,← H1.o.2.1] at hr
     exact hr
    have hrow:=hrow0.chg (S:=fun _=>False) (Chg.of_below G.o.2) (fun h=>h)
    have hx:out[i]?=some (out[i]'(by have:=H1.o.2.1;omega)):=by simp
    generalize out[i]'(by have:=H1.o.2.1;omega)=x at hx
    have hwx:=hrow.wf x (List.mem_of_getElem? hx)
    have rx:=hrow.read ecL hx
    have t1:zW 17 wr g (i*17):=hrow.there hin
    have ax:=zJP hwx
    have lx:=ecL.len x hwx
    have ce:=zJ6 hwx
    have gl:g < wr.heap.size:=hrow.lt
    have i0:(0:Int)≤(i:Int):=by omega
    have i1:(i:Int) < (n:Int):=by omega
    have HX:=Zh hx
    obtain ⟨cx,hcx⟩:∃ c,c=zAn x:=⟨_,rfl⟩
    rw [← hcx] at rx ax lx ce
    have ce2:cx[16]'(by omega)=.int .i64 x.2:=by
     rw [List.getElem?_toArray,List.getElem?_eq_getElem (by omega)] at ce
     exact Option.some.inj ce
    have HE:=Zh (G.o.2.alloc G.o.2.size (.cells cx.toArray 165))
    clear hrow hrow0 hx hcx
    by_cases c1:now < x.2
    · have d1:decide (now < x.2)=true:=by simpa using c1
      replace c1:=Zh c1
      go_wp2_with fail
      go_ret
      exact .inr ⟨rfl,(H1.o.2.2.2.1 true ⟨fun _=>⟨x,List.mem_of_getElem? HX.o,c1.o⟩,fun _=>rfl⟩).1 rfl,H1.o.2.2.2.2.trans (HE.o.mono H1.o.2.2.2.2.size)⟩
    · have d1:decide (now < x.2)=false:=by simpa using c1
      replace c1:=Zh c1
      go_wp2_with fail
      refine ⟨⟨i+1,by omega,by simp,fun s hs=>?_,HE.o⟩,by show n - ((i:Int)+1).toNat < n - (i:Int).toNat;omega⟩
      rw [List.take_add_one,HX.o] at hs
      rcases List.mem_append.1 hs with hs | hs
      · exact G.o.1 s hs
      · simp at hs
        rw [hs];exact c1.o
  · go_wp2_with fail
    go_ret
    refine .inl ⟨rfl,fun hlv=>Bool.noConfusion ((H1.o.2.2.2.1 false ⟨fun h=>by (cases h),fun ⟨s,hs,hlt⟩=>?_⟩).2 hlv),H1.o.2.2.2.2.trans (G.o.2.mono H1.o.2.2.2.2.size)⟩
    have:=G.o.1 s (by rw [List.take_of_length_le (by have:=H1.o.2.1;omega)];exact hs)
    omega
end Go.Proofs.YtbbojbdigiibbaaGreatDoor
end
