/- Texts of this proof,packed: StoreMem,StoreBest,StoreOps,StoreFreeN,StoreNames,StoreOpenMath,StoreOpenBad,StoreText. -/
import Derived.Test.YtbbojbdigiibbaaGreatDoorPb02
import Derived.Test.YtbbojbdigiibbaaGreatDoorPb01
import Derived.Deep.RegionLaw
import Derived.Sort.OwnSorted
section
namespace Go.Mem
open Go Go.RowKit Gf
def zAY (w:World) (N:Nat→Prop) (v:Value) (bs:List UInt8):Prop :=
 Bys w v bs∧∃ a c,v=.slice a bs.length c∧∀ b,a=some b→b.block < w.heap.size∧¬ N b.block
theorem zAY.nil (w:World) (N:Nat→Prop):zAY w N (.slice none 0 0) []:=⟨Bys.nil _,none,0,rfl,fun b h=>by cases h⟩
theorem Bys.chg {S:Nat→Prop} {w w':World} {v:Value} {bs:List UInt8} (h:Bys w v bs) (hc:Chg S w w') (hs:∀ a l c,v=.slice (some a) l c→¬ S a.block):Bys w' v bs:=by
 obtain ⟨a,cap,rfl,h1,h2,h3⟩:=h
 refine ⟨a,cap,rfl,h1,h2,fun hp=>?_⟩
 obtain ⟨b,off,rfl,hcell⟩:=h3 hp
 refine ⟨b,off,rfl,fun i u hi=>?_⟩
 have hx:=hcell i u hi
 have hlt:b < w.heap.size:=World.block_lt_of_cell? w ⟨b,off+i,none⟩ hx
 have hb:=hc.block b hlt (hs _ _ _ rfl)
 unfold World.cell? at hx ⊢
 rw [hb];exact hx
theorem zAY.chg {S N:Nat→Prop} {w w':World} {v:Value} {bs:List UInt8} (h:zAY w N v bs) (hc:Chg S w w') (hs:∀ b,S b→b < w.heap.size→N b):zAY w' N v bs:=by
 obtain ⟨h1,a,c,rfl,h2⟩:=h
 refine ⟨h1.chg hc (fun a' l c' e hS=>?_),a,c,rfl,fun b hb=>⟨Nat.lt_of_lt_of_le (h2 b hb).1 hc.size,(h2 b hb).2⟩⟩
 injection e with e1 _ _
 obtain ⟨hb1,hb2⟩:=h2 a' e1
 exact hb2 (hs _ hS hb1)
theorem zAY.mono {N M:Nat→Prop} {w:World} {v:Value} {bs:List UInt8} (h:zAY w N v bs) (hM:∀ b,M b→N b∨w.heap.size≤b):zAY w M v bs:=by
 obtain ⟨h1,a,c,rfl,h2⟩:=h
 refine ⟨h1,a,c,rfl,fun b hb=>⟨(h2 b hb).1,fun hm=>?_⟩⟩
 rcases hM _ hm with h | h
 · exact (h2 b hb).2 h
 · have:=(h2 b hb).1;omega
theorem zt.data {t8:TypeId} {w:World} {base:Nat} {v:Value} {bs:List UInt8} {N:Nat→Prop} (h:zt t8 w base v bs) (hN:∀ b,base≤b→b < w.heap.size→¬ N b):zAY w N v bs:=by
 refine ⟨h.bys,?_⟩
 rcases h with ⟨rfl,rfl⟩ | ⟨g,cap,arr,fz,rfl,h2,h3,_⟩
 · exact ⟨none,0,rfl,fun b h=>by cases h⟩
 · exact ⟨_,cap,rfl,fun b hb=>by cases hb;exact ⟨lt_of_block h3,hN _ h2 (lt_of_block h3)⟩⟩
def zBK:List Sto.Rec→List Value→List Value
 | r::l,v::vs=>[.bool r.is,.string r.name,.int .i64 r.num,v]++zBK l vs
 | _,_=>[]
theorem zIR:∀ (l:List Sto.Rec) (vs:List Value),vs.length=l.length→(zBK l vs).length=l.length*4
 | [],[],_=>rfl
 | r::l,v::vs,h=>by
   simp only [zBK,List.length_append,List.length_cons,List.length_nil]
   have:=zIR l vs (by simpa using h)
   omega
theorem zHV:∀ (l:List Sto.Rec) (vs:List Value) (r:Sto.Rec) (v:Value),vs.length=l.length→zBK (l++[r]) (vs++[v])=zBK l vs++[.bool r.is,.string r.name,.int .i64 r.num,v]
 | [],[],r,v,_=>rfl
 | r'::l,v'::vs,r,v,h=>by
   simp only [List.cons_append,zBK,List.append_assoc]
   rw [zHV l vs r v (by simpa using h)]
theorem zIQ:∀ (l:List Sto.Rec) (vs:List Value) (i:Nat) (r:Sto.Rec) (v:Value),l[i]?=some r→vs[i]?=some v →
  (zBK l vs)[i*4]?=some (.bool r.is)∧(zBK l vs)[i*4+1]?=some (.string r.name)∧(zBK l vs)[i*4+2]?=some (.int .i64 r.num)∧(zBK l vs)[i*4+3]?=some v
 | r::l,v::vs,0,r',v',h1,h2=>by
   simp at h1 h2
   subst h1 h2
   exact ⟨rfl,rfl,rfl,rfl⟩
 | r::l,v::vs,i+1,r',v',h1,h2=>by
   have:=zIQ l vs i r' v' (by simpa using h1) (by simpa using h2)
   have e:∀ j,(zBK (r::l) (v::vs))[(i+1)*4+j]?=(zBK l vs)[i*4+j]?:=fun j=>by
    rw [zBK,List.getElem?_append_right (by simp;omega)]
    congr 1
    simp;omega
   exact ⟨by rw [show (i+1)*4=(i+1)*4+0 from rfl,e];exact this.1,by rw [e];exact this.2.1,by rw [e];exact this.2.2.1,by rw [e];exact this.2.2.2⟩
 | [],_,i,r,v,h1,_=>by simp at h1
 | _::_,[],i,r,v,_,h2=>by simp at h2
def zBH (t:TypeId) (w:World) (N:Nat→Prop) (lb:Nat) (l:List Sto.Rec):Prop :=
 ∃ (arr:Array Value) (vs:List Value),Blk w lb arr t∧l.length*4≤arr.size∧vs.length=l.length∧(∀ j,j < l.length*4→arr[j]?=(zBK l vs)[j]?)∧∀ (i:Nat) (r:Sto.Rec) (v:Value),l[i]?=some r→vs[i]?=some v→zAY w N v r.data
section
variable {t:TypeId} {w w':World} {N S:Nat→Prop} {lb:Nat} {l:List Sto.Rec}
theorem zBH.lt (h:zBH t w N lb l):lb < w.heap.size:=by obtain ⟨_,_,h,_⟩:=h;exact h.lt
theorem zBH.chg (h:zBH t w N lb l) (hc:Chg S w w') (h1:¬ S lb) (hs:∀ b,S b→b < w.heap.size→N b):zBH t w' N lb l:=by
 obtain ⟨arr,vs,hB,a,b,c,d⟩:=h
 exact ⟨arr,vs,hc.blk hB h1,a,b,c,fun i r v hr hv=>(d i r v hr hv).chg hc hs⟩
theorem zBH.below (h:zBH t w N lb l) (hb:Below w.heap.size w w'):zBH t w' N lb l:=h.chg (S:=fun _=>False) (Chg.of_below hb) id (fun _ h=>h.elim)
theorem zBH.mono {M:Nat→Prop} (h:zBH t w N lb l) (hM:∀ b,M b→N b∨w.heap.size≤b):zBH t w M lb l:=by
 obtain ⟨arr,vs,hB,a,b,c,d⟩:=h
 exact ⟨arr,vs,hB,a,b,c,fun i r v hr hv=>(d i r v hr hv).mono hM⟩
theorem zBH.at (h:zBH t w N lb l) {i:Nat} {r:Sto.Rec} (hr:l[i]?=some r):∃ a c,w.cell? ⟨lb,i*4,none⟩=some (.bool r.is)∧w.cell? ⟨lb,i*4+1,none⟩=some (.string r.name)∧w.cell? ⟨lb,i*4+2,none⟩=some (.int .i64 r.num)∧w.cell? ⟨lb,i*4+3,none⟩=some (.slice a r.data.length c) ∧
  zAY w N (.slice a r.data.length c) r.data∧(∀ j,w.frozen? ⟨lb,j,none⟩=false):=by
 obtain ⟨arr,vs,hB,h1,h2,h3,h4⟩:=h
 have hi:i < l.length:=by
  rcases Nat.lt_or_ge i l.length with h | h
  · exact h
  · rw [List.getElem?_eq_none h] at hr;cases hr
 have hd:=h4 i r vs[i] hr (by simp [h2,hi])
 obtain ⟨a,c,e,_⟩:=id hd.2
 obtain ⟨g0,g1,g2,g3⟩:=zIQ l vs i r vs[i] hr (by simp [h2,hi])
 rw [e] at g3 hd
 exact ⟨a,c,by rw [hB.cell,h3 _ (by omega)];exact g0,by rw [hB.cell,h3 _ (by omega)];exact g1,by rw [hB.cell,h3 _ (by omega)];exact g2,by rw [hB.cell,h3 _ (by omega)];exact g3,hd,fun j=>hB.free j⟩
theorem zIS:∀ (l:List Sto.Rec) (vs:List Value) (i:Nat) (r:Sto.Rec) (v:Value),vs.length=l.length→i < l.length →
  zBK (l.set i r) (vs.set i v)=((((zBK l vs).set (i*4) (.bool r.is)).set (i*4+1) (.string r.name)).set (i*4+2) (.int .i64 r.num)).set (i*4+3) v
 | r'::l,v'::vs,0,r,v,h,_=>by simp [zBK]
 | r'::l,v'::vs,i+1,r,v,h,hi=>by
   simp only [List.set_cons_succ,zBK]
   rw [zIS l vs i r v (by simpa using h) (by simpa using hi)]
   have e:∀ (j:Nat) (L:List Value) (x:Value),([.bool r'.is,.string r'.name,.int .i64 r'.num,v']++L).set ((i+1)*4+j) x=[.bool r'.is,.string r'.name,.int .i64 r'.num,v']++L.set (i*4+j) x:=fun j L x=>by
    rw [List.set_append_right _ _ (by simp;omega)]
    congr 2
    simp;omega
   rw [show (i+1)*4=(i+1)*4+0 from rfl,e 0,e 1,e 2,e 3]
   rfl
theorem zBH.set (h:zBH t w N lb l) {i:Nat} (hi:i < l.length) (r:Sto.Rec) (v:Value) (hN:N lb) (hd:zAY w N v r.data) :
  zBH t ((((w.setCell ⟨lb,i*4,none⟩ (.bool r.is)).setCell ⟨lb,i*4+1,none⟩ (.string r.name)).setCell ⟨lb,i*4+2,none⟩ (.int .i64 r.num)).setCell ⟨lb,i*4+3,none⟩ v) N lb (l.set i r):=by
 obtain ⟨arr,vs,hB,h1,h2,h3,h4⟩:=h
 have hc:Chg (fun b=>b=lb) w ((((w.setCell ⟨lb,i*4,none⟩ (.bool r.is)).setCell ⟨lb,i*4+1,none⟩ (.string r.name)).setCell ⟨lb,i*4+2,none⟩ (.int .i64 r.num)).setCell ⟨lb,i*4+3,none⟩ v):=by
  refine Chg.set (S:=fun b=>b=lb) ?_ (a:=⟨lb,i*4+3,none⟩) rfl _
  refine Chg.set (S:=fun b=>b=lb) ?_ (a:=⟨lb,i*4+2,none⟩) rfl _
  refine Chg.set (S:=fun b=>b=lb) ?_ (a:=⟨lb,i*4+1,none⟩) rfl _
  exact Chg.set (S:=fun b=>b=lb) (Chg.refl _ _) (a:=⟨lb,i*4,none⟩) rfl _
 refine ⟨_,vs.set i v,(((hB.set (i*4) (.bool r.is)).set (i*4+1) (.string r.name)).set (i*4+2) (.int .i64 r.num)).set (i*4+3) v,by simpa using h1,by simp [h2],fun j hj=>?_,fun k r' v' hr' hv'=>?_⟩
 · rw [zIS l vs i r v h2 hi]
   have hl:=zIR l vs h2
   simp only [List.length_set] at hj
   simp only [Array.getElem?_setIfInBounds,List.getElem?_set,Array.size_setIfInBounds,List.length_set,hl,h3 j hj]
   have e1:(i*4 < arr.size)=(i*4 < l.length*4):=by simp;omega
   have e2:(i*4+1 < arr.size)=(i*4+1 < l.length*4):=by simp;omega
   have e3:(i*4+2 < arr.size)=(i*4+2 < l.length*4):=by simp;omega
   have e4:(i*4+3 < arr.size)=(i*4+3 < l.length*4):=by simp;omega
   simp only [e1,e2,e3,e4]
 · rw [List.getElem?_set] at hr' hv'
   by_cases e:i=k
   · subst e
     simp [hi,h2] at hr' hv'
     subst hr' hv'
     exact hd.chg hc (fun b hb _=>by rw [hb];exact hN)
   · rw [if_neg e] at hr' hv'
     exact (h4 k r' v' hr' hv').chg hc (fun b hb _=>by rw [hb];exact hN)
end
structure St where
 room:Nat
 recs:List Sto.Rec
 dead:Bool
 disk:zA
structure St.Ok (s:St):Prop where
 room1:1≤s.room
 room2:s.room≤1024
 len1:1≤s.recs.length
 len2:s.recs.length≤1024
 size:s.disk.n=s.recs.length*(s.room+1)
 each:∀ r∈s.recs,r.name.size≤1000000∧r.data.length≤1000000∧r.num≤72057594037927936+s.disk.writes
 few:s.disk.writes≤72057594037927936
end Go.Mem
namespace Go.Proofs.YtbbojbdigiibbaaGreatDoor
open Go Go.RowKit Go.Mem Gf
def zBi (sb lb d L:Nat) (b:Nat):Prop:=b=sb∨b=lb∨b=d∨b=L
structure zi (w:World) (N:Nat→Prop) (sb lb d L:Nat) (s:St):Prop where
 blk:∃ cap,Blk w sb (stV d s.room (some ⟨lb,0,none⟩) s.recs.length cap s.dead) 146∧s.recs.length≤cap∧cap≤9223372036854775807
 recs:zBH 148 w N lb s.recs
 disk:zQ w d L s.disk
 tab:Tab w
 ntab:¬ N gT
 foot:∀ b,zBi sb lb d L b→N b
 ne:sb≠lb∧sb≠d∧sb≠L∧lb≠d∧lb≠L
 ok:s.Ok
 old:∀ b,N b→b < w.heap.size
theorem zi.chg {w w':World} {N S:Nat→Prop} {sb lb d L:Nat} {s:St} (h:zi w N sb lb d L s) (hc:Chg S w w') (h1:∀ b,zBi sb lb d L b→¬ S b) (hs:∀ b,S b→b < w.heap.size→N b):zi w' N sb lb d L s:=by
 obtain ⟨cap,hB,a,b⟩:=h.blk
 exact ⟨⟨cap,hc.blk hB (h1 _ (.inl rfl)),a,b⟩,h.recs.chg hc (h1 _ (.inr (.inl rfl))) hs,h.disk.chg hc (h1 _ (.inr (.inr (.inl rfl)))) (h1 _ (.inr (.inr (.inr rfl)))),h.tab.chg hc (fun hS=>h.ntab (hs _ hS h.tab.lt)),h.ntab,h.foot,h.ne,h.ok,fun b hb=>Nat.lt_of_lt_of_le (h.old b hb) hc.size⟩
theorem zi.below {w w':World} {N:Nat→Prop} {sb lb d L:Nat} {s:St} (h:zi w N sb lb d L s) (hb:Below w.heap.size w w'):zi w' N sb lb d L s:=h.chg (S:=fun _=>False) (Chg.of_below hb) (fun _ _=>id) (fun _ h=>h.elim)
theorem zi.lt {w:World} {N:Nat→Prop} {sb lb d L:Nat} {s:St} (h:zi w N sb lb d L s):∀ b,zBi sb lb d L b→b < w.heap.size:=by
 intro b hb
 obtain ⟨cap,hB,_⟩:=h.blk
 rcases hb with rfl | rfl | rfl | rfl
 · exact hB.lt
 · exact h.recs.lt
 · exact h.disk.lt.1
 · exact h.disk.lt.2
theorem zi.grow {w w':World} {N M S:Nat→Prop} {sb lb d L:Nat} {s:St} (h:zi w N sb lb d L s) (hc:Chg S w w') (h1:∀ b,zBi sb lb d L b→¬ S b) (hs:∀ b,S b→b < w.heap.size→N b) (hM:∀ b,M b→N b∨w.heap.size≤b) (hNM:∀ b,N b→M b) (hold:∀ b,M b→b < w'.heap.size):zi w' M sb lb d L s:=by
 obtain ⟨cap,hB,a,b⟩:=h.blk
 have hg:¬ M gT:=fun hg=>by
  rcases hM _ hg with h' | h'
  · exact h.ntab h'
  · have:=h.tab.lt;omega
 exact ⟨⟨cap,hc.blk hB (h1 _ (.inl rfl)),a,b⟩,(h.recs.mono hM).chg hc (h1 _ (.inr (.inl rfl))) (fun b hb hlt=>hNM _ (hs b hb hlt)),h.disk.chg hc (h1 _ (.inr (.inr (.inl rfl)))) (h1 _ (.inr (.inr (.inr rfl)))),h.tab.chg hc (fun hS=>h.ntab (hs _ hS h.tab.lt)),hg,fun b hb=>hNM _ (h.foot b hb),h.ne,h.ok,hold⟩
def zFF:Option Nat→Int
 | none=>-1
 | some k=>k
end Go.Proofs.YtbbojbdigiibbaaGreatDoor
end
section
namespace Go.Proofs.YtbbojbdigiibbaaGreatDoor
open Go Go.RowKit Go.Mem Gf
attribute [local go_sem ↓] Go.wp_at_zero Go.wp_at_succ
theorem zEa (l:List Sto.Rec) (name:ByteArray):∀ k j,Sto.best l name k=some j→j < k∧∃ r,l[j]?=some r∧r.is=true∧(r.name.toList == name.toList)=true
 | 0,j,h=>by simp [Sto.best] at h
 | k+1,j,h=>by
   simp only [Sto.best] at h
   split at h
   · have:=zEa l name k j h;exact ⟨by omega,this.2⟩
   · rename_i r hr
     split at h
     · rename_i hc
       cases h
       exact ⟨by omega,r,hr,hc.1,hc.2.1⟩
     · have:=zEa l name k j h;exact ⟨by omega,this.2⟩
theorem zMO {l:List Sto.Rec} {name:ByteArray} {i:Nat} {r:Sto.Rec} (h:l[i]?=some r):Sto.best l name (i+1)=if r.is=true∧(r.name.toList == name.toList)=true∧(∀ j,Sto.best l name i=some j→(l.getD j Sto.Rec.free).num < r.num) then some i else Sto.best l name i:=by
 rw [Sto.best,h]
set_option maxRecDepth 20000 in
set_option maxHeartbeats 1000000 in
theorem zDl (N:Nat→Prop) (sb lb d n cap room:Nat) (dead:Bool) (l:List Sto.Rec) (name:ByteArray) (w:World) (hB:Blk w sb (stV d room (some ⟨lb,0,none⟩) n cap dead) 146) (hR:zBH 148 w N lb l) (hn:n=l.length) (hn2:n≤1000000) (hnc:n≤cap) (hcm:cap≤9223372036854775807) (hnum:∀ r∈l,r.num≤4611686018427387904) :
  Calls Tryz.prog 85 #[.pointer (some ⟨sb,0,none⟩),.string name] w fun e w'=>e=.returned (.int .i64 (zFF (Sto.best l name n)))∧Below w.heap.size w w':=by
 have c2:w.cell? ⟨sb,2,none⟩=some (.slice (some ⟨lb,0,none⟩) n cap):=hB.cell 2
 have Hn:=Zh hn;have HB:=Zh hB;have HR:=Zh hR;have Hnum:=Zh hnum
 clear hn hB hR hnum
 go_enter Tryz.func85,Tryz.ntmps85
 go_wp2_with fail
 go_loopw [5,13] (fun u v wr=>∃ i:Nat,i≤n∧v=.int .i64 i∧u=.int .i64 (zFF (Sto.best l name i))∧Below w.heap.size w wr) (fun _ v _=>n - (intOf v).toNat)
 case atStart=>exact ⟨0,by omega,rfl,rfl,Below.refl _ _⟩
 case round =>
  obtain ⟨i,hi,rfl,rfl,hb⟩:=hrel
  by_cases h0:i < n
  · obtain ⟨r,hr⟩:∃ r,l[i]?=some r:=⟨l[i]'(by have:=Hn.o;omega),by simp⟩
    have hRr:=HR.o.below hb
    obtain ⟨a,c,c3,c4,c5,c6,_,_⟩:=hRr.at hr
    have i0:(0:Int)≤(i:Int):=by omega
    have i1:(i:Int) < (n:Int):=by omega
    have Hr:=Zh hr;have HRr:=Zh hRr
    have hBr:=HB.o.kept hb
    have HBr:=Zh hBr
    have hbx:=Blk.new wr (zKY r (.slice a r.data.length c)) 148
    have hbb:Below wr.heap.size wr (wr.alloc (.cells (zKY r (.slice a r.data.length c)) 148)):=(Below.refl _ _).alloc (Nat.le_refl _) _
    obtain ⟨wb,hwb⟩:∃ wb,wb=wr.alloc (.cells (zKY r (.slice a r.data.length c)) 148):=⟨_,rfl⟩
    obtain ⟨bx,hbxe⟩:∃ bx,bx=wr.heap.size:=⟨_,rfl⟩
    have Hstep:=Zh (zMO (name:=name) hr)
    clear hr hRr hBr
    go_upto_region 5 with fail
    rw [show (wr.alloc (.cells #[.bool r.is,.string r.name,.int .i64 (r.num:Int),.slice a r.data.length c] 148))=wb from hwb.symm,← hbxe]
    rw [← hwb,← hbxe] at hbx
    rw [← hwb] at hbb
    have b0:wb.cell? ⟨bx,0,none⟩=some (.bool r.is):=hbx.cell 0
    have b1:wb.cell? ⟨bx,1,none⟩=some (.string r.name):=hbx.cell 1
    have b2:wb.cell? ⟨bx,2,none⟩=some (.int .i64 (r.num:Int)):=hbx.cell 2
    have hbw:=Zh (hb.trans (hbb.mono hb.size))
    have Hbb:=Zh hbb
    clear hwb hbxe hbx hbb c3 c4 c5 c6
    by_cases k1:r.is=true
    · by_cases k2:(r.name.toList == name.toList)=true
      · cases hbest:Sto.best l name i with
        | none =>
          have Hfin:=Zh (show Sto.best l name (i+1)=some i from by rw [Hstep.o,if_pos ⟨k1,k2,fun j h=>by rw [hbest] at h;cases h⟩])
          rw [k1] at b0
          clear k1 hbest
          simp only [zFF]
          go_quiet (fail)
          go_wp2
          exact ⟨⟨i+1,by omega,by go_num,by rw [Hfin.o];rfl,below_drewN hbw.o _⟩,by simp [intOf] <;> omega⟩
        | some j =>
          obtain ⟨hj,rj,hrj,_⟩:=zEa l name i j hbest
          obtain ⟨a2,c2',_,_,e5,_⟩:=(HRr.o.below Hbb.o).at hrj
          have s2:wb.cell? ⟨sb,2,none⟩=some (.slice (some ⟨lb,0,none⟩) n cap):=(HBr.o.kept Hbb.o).cell 2
          have j0:(0:Int)≤(j:Int):=by omega
          have j1:(j:Int) < (n:Int):=by omega
          have j2:decide ((j:Int) < 0)=false:=by simp <;> omega
          have j3:j < n:=by omega
          have n1:=Hnum.o rj (List.mem_of_getElem? hrj)
          have n2:=Hnum.o r (List.mem_of_getElem? Hr.o)
          have hgd:l.getD j Sto.Rec.free=rj:=by rw [List.getD_eq_getElem?_getD,hrj];rfl
          by_cases k3:rj.num < r.num
          · have Hfin:=Zh (show Sto.best l name (i+1)=some i from by rw [Hstep.o,if_pos ⟨k1,k2,fun j' h=>by rw [hbest] at h;cases h;rw [hgd];exact k3⟩])
            have t3:decide ((rj.num:Int) < (r.num:Int))=true:=by simp;omega
            have t4:decide (rj.num < r.num)=true:=by simp;omega
            rw [k1] at b0
            clear k1 hbest hgd hrj
            simp only [zFF]
            go_quiet (fail)
            go_wp2
            exact ⟨⟨i+1,by omega,by go_num,by rw [Hfin.o];rfl,below_drewN hbw.o _⟩,by simp [intOf] <;> omega⟩
          · have Hfin:=Zh (show Sto.best l name (i+1)=some j from by rw [Hstep.o,if_neg (fun h=>k3 (by have:=h.2.2 j hbest;rw [hgd] at this;exact this)),hbest])
            have t3:decide ((rj.num:Int) < (r.num:Int))=false:=by simp;omega
            have t4:decide (rj.num < r.num)=false:=by simp;omega
            rw [k1] at b0
            clear k1 hbest hgd hrj
            simp only [zFF]
            go_quiet (fail)
            go_wp2
            exact ⟨⟨i+1,by omega,by go_num,by rw [Hfin.o];rfl,below_drewN hbw.o _⟩,by simp [intOf] <;> omega⟩
      · have Hfin:=Zh (show Sto.best l name (i+1)=Sto.best l name i from by rw [Hstep.o,if_neg (fun h=>k2 h.2.1)])
        have k2:(r.name.toList == name.toList)=false:=by simpa using k2
        rw [k1] at b0
        clear k1
        go_quiet (fail)
        go_wp2
        exact ⟨⟨i+1,by omega,by go_num,by rw [Hfin.o],below_drewN hbw.o _⟩,by simp [intOf] <;> omega⟩
    · have Hfin:=Zh (show Sto.best l name (i+1)=Sto.best l name i from by rw [Hstep.o,if_neg (fun h=>k1 h.1)])
      have k1:r.is=false:=by simpa using k1
      rw [k1] at b0
      clear k1
      go_quiet (fail)
      go_wp2
      exact ⟨⟨i+1,by omega,by go_num,by rw [Hfin.o],below_drewN hbw.o _⟩,by simp [intOf] <;> omega⟩
  · obtain rfl:n=i:=by omega
    go_wp2
    go_ret
    exact ⟨rfl,hb⟩
end Go.Proofs.YtbbojbdigiibbaaGreatDoor
end
section
namespace Go.Mem
open Go Go.RowKit Gf
def St.freeE (s:St) (i:Nat):Int:=s.disk.wres (i*(s.room+1):Nat) 1
def St.freeS (s:St) (i:Nat):St:={ s with disk:=s.disk.wr (i*(s.room+1):Nat) [0],dead:=s.dead || (s.freeE i != 0),recs:=if s.freeE i=0 then s.recs.set i Sto.Rec.free else s.recs }
def St.writeE (s:St) (i:Nat) (bs:List UInt8):Int:=s.disk.wres (i:Nat) bs.length
def St.writeS (s:St) (i:Nat) (bs:List UInt8):St:={ s with disk:=s.disk.wr (i:Nat) bs,dead:=s.dead || (s.writeE i bs != 0) }
theorem zA.wr_ge (s:zA) (i:Int) (bs:List UInt8):s.writes≤(s.wr i bs).writes:=by
 unfold zA.wr zA.write;split
 · split
   · exact Nat.le_refl _
   · exact Nat.le_succ _
 · exact Nat.le_refl _
theorem St.Ok.freeS {s:St} (h:s.Ok) (i:Nat) (hf:s.disk.writes < 72057594037927936):(s.freeS i).Ok:=by
 have hl:(s.freeS i).recs.length=s.recs.length:=by unfold St.freeS;simp only;split <;> simp
 refine ⟨h.room1,h.room2,by rw [hl];exact h.len1,by rw [hl];exact h.len2,by rw [hl];exact (zA.wr_n _ _ _).trans h.size,fun r hr=>?_,?_⟩
 · have hw:s.disk.writes≤(s.freeS i).disk.writes:=zA.wr_ge _ _ _
   have:r∈s.recs∨r=Sto.Rec.free:=by
    unfold St.freeS at hr
    simp only at hr
    split at hr
    · rcases List.mem_or_eq_of_mem_set hr with h | h
      · exact .inl h
      · exact .inr h
    · exact .inl hr
   rcases this with h' | rfl
   · obtain ⟨a,b,c⟩:=h.each r h'
     exact ⟨a,b,by omega⟩
   · exact ⟨Nat.zero_le _,Nat.zero_le _,Nat.zero_le _⟩
 · have:(s.freeS i).disk.writes≤s.disk.writes+1:=zA.wr_writes _ _ _
   omega
theorem St.Ok.writeS {s:St} (h:s.Ok) (i:Nat) (bs:List UInt8) (hf:s.disk.writes < 72057594037927936):(s.writeS i bs).Ok:=by
 refine ⟨h.room1,h.room2,h.len1,h.len2,(zA.wr_n _ _ _).trans h.size,fun r hr=>?_,?_⟩
 · have hw:s.disk.writes≤(s.writeS i bs).disk.writes:=zA.wr_ge _ _ _
   obtain ⟨a,b,c⟩:=h.each r hr
   exact ⟨a,b,by omega⟩
 · have:(s.writeS i bs).disk.writes≤s.disk.writes+1:=zA.wr_writes _ _ _
   omega
end Go.Mem
namespace Go.Proofs.YtbbojbdigiibbaaGreatDoor
open Go Go.RowKit Go.Mem Gf
attribute [local go_sem ↓] Go.wp_at_zero Go.wp_at_succ
theorem zJZ (w:World) (g k:Nat) (u0 u1 u2 u3:Value):Chg (fun b=>b=g) w ((((w.setCell ⟨g,k,none⟩ u0).setCell ⟨g,k+1,none⟩ u1).setCell ⟨g,k+2,none⟩ u2).setCell ⟨g,k+3,none⟩ u3):=by
 refine Chg.set (S:=fun b=>b=g) ?_ (a:=⟨g,k+3,none⟩) rfl u3
 refine Chg.set (S:=fun b=>b=g) ?_ (a:=⟨g,k+2,none⟩) rfl u2
 refine Chg.set (S:=fun b=>b=g) ?_ (a:=⟨g,k+1,none⟩) rfl u1
 exact Chg.set (S:=fun b=>b=g) (Chg.refl _ _) (a:=⟨g,k,none⟩) rfl u0
set_option maxRecDepth 20000 in
set_option maxHeartbeats 2000000 in
theorem free_at (N:Nat→Prop) (sb lb d L i:Nat) (s:St) (w:World) (h:zi w N sb lb d L s) (hi:i < s.recs.length) (hfew:s.disk.writes < 72057594037927936) :
  Calls Tryz.prog 86 #[.pointer (some ⟨sb,0,none⟩),.int .i64 i] w fun e w'=>e=.returned (.int .i64 (s.freeE i))∧zi w' N sb lb d L (s.freeS i)∧Chg (zBi sb lb d L) w w':=by
 obtain ⟨lc,hS,hlc1,hlc2⟩:=h.blk
 have hD:=h.disk
 have H:=Zh h
 have hne:sb≠d∧sb≠L:=⟨h.ne.2.1,h.ne.2.2.1⟩
 have hok:=h.ok
 have hi2:i≤1024:=by have:=hok.len2;omega
 have hr:=hok.room2
 obtain ⟨room,hroom⟩:∃ r,r=s.room:=⟨_,rfl⟩
 obtain ⟨n,hn⟩:∃ n,n=s.recs.length:=⟨_,rfl⟩
 obtain ⟨D,hDD⟩:∃ D,D=s.disk:=⟨_,rfl⟩
 obtain ⟨dead,hdd⟩:∃ dd,dd=s.dead:=⟨_,rfl⟩
 have HzE:=Zh (show s.freeE i=D.wres (i*(room+1):Nat) 1 from by rw [hDD,hroom];rfl)
 have HSS:=Zh (show s.freeS i={ s with disk:=D.wr (i*(room+1):Nat) [0],dead:=dead || (s.freeE i != 0),recs:=if s.freeE i=0 then s.recs.set i Sto.Rec.free else s.recs } from by rw [hDD,hroom,hdd];rfl)
 have hfew':=hfew
 have Hfew:=Zh hfew'
 rw [← hroom,← hn,← hdd] at hS
 rw [← hDD] at hD hfew
 rw [← hroom] at hr
 rw [← hn] at hi hlc1
 have hw:D.writes < 4611686018427387904:=by omega
 have Hr:=Zh hroom;have Hn:=Zh hn;have HDD:=Zh hDD;have Hdd:=Zh hdd;have Hok:=Zh hok
 clear hroom hn hDD hdd h hok hfew' hfew
 generalize hla:(some ⟨lb,0,none⟩:Option Addr)=la at hS
 have Hla:=Zh hla
 clear hla
 obtain ⟨z,hz⟩:∃ z,z=D.wres (i*(room+1):Nat) 1:=⟨_,rfl⟩
 have c0:w.cell? ⟨sb,0,none⟩=some (.pointer (some ⟨d,0,none⟩)):=by rw [hS.cell];rfl
 have c1:w.cell? ⟨sb,1,none⟩=some (.int .i64 room):=by rw [hS.cell];rfl
 have d0:(w.alloc (.cells #[.int .u8 0] 5)).cell? ⟨sb,0,none⟩=some (.pointer (some ⟨d,0,none⟩)):=by rw [(hS.alloc _).cell];rfl
 have d1:(w.alloc (.cells #[.int .u8 0] 5)).cell? ⟨sb,1,none⟩=some (.int .i64 room):=by rw [(hS.alloc _).cell];rfl
 have hb0:Below w.heap.size w (w.alloc (.cells #[.int .u8 0] 5)).drew:=below_drewN ((Below.refl _ _).alloc (Nat.le_refl _) _) 1
 have q1:IntKind.i64.wrap ((room:Int)+1)=(room:Int)+1:=IntWalk.i64_in _ (by omega)
 have hm:i*(room+1)≤1024*1025:=Nat.mul_le_mul hi2 (by omega)
 have e2:(i:Int)*((room:Int)+1)=((i*(room+1):Nat):Int):=by push_cast;rfl
 have q2:IntKind.i64.wrap ((i:Int)*((room:Int)+1))=(i:Int)*((room:Int)+1):=IntWalk.i64_in _ (by rw [e2];omega)
 rw [HzE.o,← hz]
 have HS:=Zh hS;have HD:=Zh hD;have Hz:=Zh hz;have E2:=Zh e2;have Hb0:=Zh hb0
 clear hS hD hz e2 hm hb0
 go_enter Tryz.func86,Tryz.ntmps86
 go_wp2_with fail
 go_region_held3 (fun w'=>w'.cell? ⟨sb,0,none⟩=some (.pointer (some ⟨d,0,none⟩))∧w'.cell? ⟨sb,1,none⟩=some (.int .i64 room)) (first | exact ⟨c0,c1⟩ | exact ⟨d0,d1⟩ | assumption)
  (first
   | (go_at_call 137
      rw [E2.o]
      refine (zE8 d L D (i*(room+1):Nat) _ [0] _ (HD.o.below Hb0.o) (Bys.drewN (zCh w 0 (.int .u8 0) rfl 5) 1) hw).mono ?_
      rintro e w2 ⟨rfl,hD2,hc2⟩
      have hS2:=hc2.blk (HS.o.kept Hb0.o) (fun h=>by rcases h with h | h;exact hne.1 h;exact hne.2 h)
      have hh:w2.cell? ⟨sb,0,none⟩=some (.pointer (some ⟨d,0,none⟩))∧w2.cell? ⟨sb,1,none⟩=some (.int .i64 room):=⟨hS2.cell 0,hS2.cell 1⟩
      rw [show ([0]:List UInt8).length=1 from rfl,← Hz.o]))
 have HS2:=Zh hS2;have HD2:=Zh hD2
 have HC2:=Zh (show Chg (Tri sb d L) w w2 from (Chg.of_below Hb0.o).trans (hc2.mono fun b h=>.inr h))
 have g2:w2.cell? ⟨sb,2,none⟩=some (.slice la n lc):=hS2.cell 2
 have g3:w2.cell? ⟨sb,3,none⟩=some (.bool dead):=hS2.cell 3
 have f3:=hS2.free 3
 clear hS2 hD2 hc2 hh q1 q2 c0 c1 d0 d1
 by_cases h0:z=0
 · subst h0
   have g2':w2.cell? ⟨sb,2,none⟩=some (.slice (some ⟨lb,0,none⟩) n lc):=by rw [Hla.o];exact g2
   clear g2
   have hRec:=(H.o.recs.chg (S:=Tri sb d L) HC2.o (fun e=>by rcases e with e | e | e;exact H.o.ne.1 e.symm;exact H.o.ne.2.2.2.1 e;exact H.o.ne.2.2.2.2 e) (fun b hb _=>H.o.foot b (by rcases hb with e | e | e;exact .inl e;exact .inr (.inr (.inl e));exact .inr (.inr (.inr e)))))
   obtain ⟨r0,hr0⟩:∃ r,s.recs[i]?=some r:=⟨s.recs[i]'(by have:=Hn.o;omega),by simp⟩
   obtain ⟨xa,xc,e0,e1,e2,e3,_,ef⟩:=hRec.at hr0
   have i0:(0:Int)≤(i:Int):=by omega
   have i1:(i:Int) < (n:Int):=by omega
   have f0:=ef (i*4);have f1:=ef (i*4+1);have f2:=ef (i*4+2);have f4:=ef (i*4+3)
   have HREC:=Zh hRec
   have HX:=Zh hRec
   clear hRec hr0 ef
   go_wp2
   go_ret
   have hset:=HREC.o.set (i:=i) (by have:=Hn.o;omega) Sto.Rec.free (.slice none 0 0) (H.o.foot lb (.inr (.inl rfl))) (zAY.nil _ _)
   have hc5:Chg (fun b=>b=lb) w2 ((((w2.setCell ⟨lb,i*4,none⟩ (.bool false)).setCell ⟨lb,i*4+1,none⟩ (.string { data:=#[] })).setCell ⟨lb,i*4+2,none⟩ (.int .i64 0)).setCell ⟨lb,i*4+3,none⟩ (.slice none 0 0)):=zJZ w2 lb (i*4) _ _ _ _
   have hC:Chg (zBi sb lb d L) w ((((w2.setCell ⟨lb,i*4,none⟩ (.bool false)).setCell ⟨lb,i*4+1,none⟩ (.string { data:=#[] })).setCell ⟨lb,i*4+2,none⟩ (.int .i64 0)).setCell ⟨lb,i*4+3,none⟩ (.slice none 0 0)):=(HC2.o.mono fun b hb=>by rcases hb with e | e | e;exact .inl e;exact .inr (.inr (.inl e));exact .inr (.inr (.inr e))).trans (hc5.mono fun b hb=>.inr (.inl hb))
   have hE:s.freeE i=0:=by rw [HzE.o,← Hz.o]
   have hok:=Hok.o.freeS i Hfew.o
   rw [HSS.o,hE] at hok ⊢
   rw [if_pos rfl] at hok ⊢
   have e0:(dead || ((0:Int) != 0))=dead:=by simp
   rw [e0] at hok ⊢
   refine ⟨rfl,⟨⟨lc,?_,by simp only [List.length_set];have:=Hn.o;omega,hlc2⟩,hset,HD2.o.chg hc5 (fun e=>H.o.ne.2.2.2.1 e.symm) (fun e=>H.o.ne.2.2.2.2 e.symm),H.o.tab.chg hC (fun e=>H.o.ntab (H.o.foot _ e)),H.o.ntab,H.o.foot,H.o.ne,hok,fun b hb=>Nat.lt_of_lt_of_le (H.o.old b hb) hC.size⟩,hC⟩
   simp only [List.length_set]
   rw [← Hn.o,← Hr.o,Hla.o]
   exact hc5.blk HS2.o H.o.ne.1
 · have t0:(z != 0)=true:=by simpa using h0
   have hE:s.freeE i=z:=by rw [HzE.o,← Hz.o]
   have HE:=Zh hE;have H0:=Zh h0
   clear h0 hE
   go_wp2
   go_ret
   have hc3:=zJY w2 sb 3 (.bool true)
   have hC0:Chg (zBi sb lb d L) w w2:=HC2.o.mono fun b hb=>by rcases hb with e | e | e;exact .inl e;exact .inr (.inr (.inl e));exact .inr (.inr (.inr e))
   have hC:Chg (zBi sb lb d L) w (w2.setCell ⟨sb,3,none⟩ (.bool true)):=hC0.trans (hc3.mono fun b hb=>.inl hb)
   have hok:=Hok.o.freeS i Hfew.o
   rw [HSS.o,HE.o] at hok ⊢
   rw [if_neg H0.o,t0,Bool.or_true] at hok ⊢
   have hRec:=(H.o.recs.chg (S:=Tri sb d L) HC2.o (fun e=>by rcases e with e | e | e;exact H.o.ne.1 e.symm;exact H.o.ne.2.2.2.1 e;exact H.o.ne.2.2.2.2 e) (fun b hb _=>H.o.foot b (by rcases hb with e | e | e;exact .inl e;exact .inr (.inr (.inl e));exact .inr (.inr (.inr e))))).chg hc3 (fun e=>H.o.ne.1 e.symm) (fun b hb _=>H.o.foot b (.inl hb))
   refine ⟨rfl,⟨⟨lc,?_,by have:=Hn.o;simp only;omega,hlc2⟩,hRec,HD2.o.chg hc3 (fun e=>hne.1 e.symm) (fun e=>hne.2 e.symm),H.o.tab.chg hC (fun e=>H.o.ntab (H.o.foot _ e)),H.o.ntab,H.o.foot,H.o.ne,hok,fun b hb=>Nat.lt_of_lt_of_le (H.o.old b hb) hC.size⟩,hC⟩
   simp only
   rw [← Hn.o,← Hr.o,Hla.o]
   exact HS2.o.set 3 (.bool true)
set_option maxRecDepth 20000 in
set_option maxHeartbeats 2000000 in
theorem zDL (N:Nat→Prop) (sb lb d L i:Nat) (s:St) (v:Value) (bs:List UInt8) (w:World) (h:zi w N sb lb d L s) (hb:Bys w v bs) (hfew:s.disk.writes < 72057594037927936) :
  Calls Tryz.prog 113 #[.pointer (some ⟨sb,0,none⟩),.int .i64 i,v] w fun e w'=>e=.returned (.int .i64 (s.writeE i bs))∧zi w' N sb lb d L (s.writeS i bs)∧Chg (zBi sb lb d L) w w':=by
 obtain ⟨lc,hS,hlc1,hlc2⟩:=h.blk
 have c0:w.cell? ⟨sb,0,none⟩=some (.pointer (some ⟨d,0,none⟩)):=hS.cell 0
 have H:=Zh h;have HS:=Zh hS;have HB:=Zh hb;have Hfew:=Zh hfew;have Hl1:=Zh hlc1
 obtain ⟨z,hz⟩:∃ z,z=s.writeE i bs:=⟨_,rfl⟩
 have Hz:=Zh hz
 rw [← hz]
 clear hz h hS hb hfew hlc1
 go_enter Tryz.func113,Tryz.ntmps113
 go_wp2_with fail
 refine (zE8 d L s.disk i v bs w H.o.disk HB.o (by have:=Hfew.o;omega)).mono ?_
 rintro e w2 ⟨rfl,hD2,hc2⟩
 rw [show s.disk.wres (i:Nat) bs.length=z from Hz.o.symm]
 have hS2:=hc2.blk HS.o (fun e=>by rcases e with e | e;exact H.o.ne.2.1 e;exact H.o.ne.2.2.1 e)
 have hR2:=H.o.recs.chg hc2 (fun e=>by rcases e with e | e;exact H.o.ne.2.2.2.1 e;exact H.o.ne.2.2.2.2 e) (fun b hb _=>H.o.foot b (.inr (.inr hb)))
 have hC:=hc2.mono (T:=zBi sb lb d L) fun b hb=>.inr (.inr hb)
 have g3:w2.cell? ⟨sb,3,none⟩=some (.bool s.dead):=hS2.cell 3
 have f3:=hS2.free 3
 have HS2:=Zh hS2;have HR2:=Zh hR2;have HC:=Zh hC;have HD2:=Zh hD2
 clear hS2 hR2 hC hD2 hc2
 have hok:=Zh (H.o.ok.writeS i bs Hfew.o)
 have HSS:=Zh (show s.writeS i bs={ s with disk:=s.disk.wr (i:Nat) bs,dead:=s.dead || (z != 0) } from by rw [Hz.o];rfl)
 by_cases h0:z=0
 · subst h0
   have HT:=Zh (show ((0:Int) != 0)=false from by simp)
   go_wp2
   go_ret
   rw [HSS.o]
   have hok:=hok.o
   rw [HSS.o,HT.o,Bool.or_false] at hok
   rw [HT.o,Bool.or_false]
   exact ⟨rfl,⟨⟨lc,HS2.o,Hl1.o,hlc2⟩,HR2.o,HD2.o,H.o.tab.chg HC.o (fun e=>H.o.ntab (H.o.foot _ e)),H.o.ntab,H.o.foot,H.o.ne,hok,fun b hb=>Nat.lt_of_lt_of_le (H.o.old b hb) HC.o.size⟩,HC.o⟩
 · have t0:(z != 0)=true:=by simpa using h0
   clear h0
   go_wp2
   go_ret
   rw [HSS.o]
   have hok:=hok.o
   rw [HSS.o,t0,Bool.or_true] at hok
   rw [t0,Bool.or_true]
   have hc3:=zJY w2 sb 3 (.bool true)
   have hC:=HC.o.trans (hc3.mono (T:=zBi sb lb d L) fun b hb=>.inl hb)
   exact ⟨rfl,⟨⟨lc,HS2.o.set 3 (.bool true),Hl1.o,hlc2⟩,HR2.o.chg hc3 (fun e=>H.o.ne.1 e.symm) (fun b hb _=>H.o.foot b (.inl hb)),HD2.o.chg hc3 (fun e=>H.o.ne.2.1 e.symm) (fun e=>H.o.ne.2.2.1 e.symm),H.o.tab.chg hC (fun e=>H.o.ntab (H.o.foot _ e)),H.o.ntab,H.o.foot,H.o.ne,hok,fun b hb=>Nat.lt_of_lt_of_le (H.o.old b hb) hC.size⟩,hC⟩
end Go.Proofs.YtbbojbdigiibbaaGreatDoor
end
section
namespace Go.Mem
open Go Go.RowKit Gf
def zBy (l:List Sto.Rec):Nat→Nat
 | 0=>0
 | k+1=>match l[k]? with
   | none=>zBy l k
   | some r=>if r.is=false then zBy l k+1 else zBy l k
theorem zJr (l:List Sto.Rec):∀ k,zBy l k≤k
 | 0=>Nat.le_refl _
 | k+1=>by
   have:=zJr l k
   simp only [zBy]
   split
   · omega
   · split <;> omega
def St.freeN (s:St):Nat:=if s.dead=true then 0 else zBy s.recs s.recs.length
end Go.Mem
namespace Go.Proofs.YtbbojbdigiibbaaGreatDoor
open Go Go.RowKit Go.Mem Gf
attribute [local go_sem ↓] Go.wp_at_zero Go.wp_at_succ
set_option maxRecDepth 100000 in
theorem zJy (n:Int) (b:Bool) (w:World) (hb:decide (1≤n∧n≤1024)=b) :
  Calls Tryz.prog 82 #[.int .i64 n] w fun e w'=>e=.returned (.bool b)∧w=w':=by
 have H:=Zh hb
 clear hb
 by_cases h1:1≤n
 · by_cases h2:n≤1024
   · obtain rfl:b=true:=by rw [← H.o];exact decide_eq_true ⟨h1,h2⟩
     clear H
     go_enter Tryz.func82,Tryz.ntmps82
     go_wp2
     go_ret
     exact ⟨rfl,rfl⟩
   · obtain rfl:b=false:=by rw [← H.o];exact decide_eq_false (fun h=>h2 h.2)
     clear H
     go_enter Tryz.func82,Tryz.ntmps82
     go_wp2
     go_ret
     exact ⟨rfl,rfl⟩
 · obtain rfl:b=false:=by rw [← H.o];exact decide_eq_false (fun h=>h1 h.1)
   clear H
   go_enter Tryz.func82,Tryz.ntmps82
   go_wp2
   go_ret
   exact ⟨rfl,rfl⟩
set_option maxRecDepth 20000 in
set_option maxHeartbeats 2000000 in
theorem zKg (N:Nat→Prop) (sb lb d L:Nat) (s:St) (w:World) (h:zi w N sb lb d L s) :
  Calls Tryz.prog 42 #[.pointer (some ⟨sb,0,none⟩)] w fun e w'=>e=.returned (.int .i64 (s.freeN:Nat))∧Below w.heap.size w w':=by
 obtain ⟨lc,hS,hlc1,hlc2⟩:=h.blk
 have hl2:=h.ok.len2
 have H:=Zh h;have HS:=Zh hS
 obtain ⟨n,hnn⟩:∃ n,n=s.recs.length:=⟨_,rfl⟩
 have c2:w.cell? ⟨sb,2,none⟩=some (.slice (some ⟨lb,0,none⟩) n lc):=by rw [hnn];exact hS.cell 2
 rw [← hnn] at hlc1 hl2
 have Hn:=Zh hnn
 obtain ⟨dead,hdd⟩:∃ x,x=s.dead:=⟨_,rfl⟩
 have Hdd:=Zh hdd
 have HF:=Zh (show s.freeN=if dead=true then 0 else zBy s.recs n from by unfold St.freeN;rw [hdd,hnn])
 obtain ⟨m,hm⟩:∃ m,m=s.freeN:=⟨_,rfl⟩
 rw [← hm] at HF ⊢
 clear h hS hnn hdd hm
 go_enter Tryz.func42,Tryz.ntmps42
 go_wp2_with fail
 go_loopw [3,11] (fun u v wr=>∃ i:Nat,i≤n∧v=.int .i64 i∧u=.int .i64 ((if dead=true then 0 else zBy s.recs i:Nat):Int)∧Below w.heap.size w wr) (fun _ v _=>n - (intOf v).toNat)
 case atStart=>exact ⟨0,by omega,rfl,by cases dead <;> rfl,Below.refl _ _⟩
 case round =>
  obtain ⟨i,hi,rfl,rfl,hb⟩:=hrel
  by_cases h0:i < n
  · obtain ⟨r,hr⟩:∃ r,s.recs[i]?=some r:=⟨s.recs[i]'(by have:=Hn.o;omega),by simp⟩
    obtain ⟨a,c,c3,c4,c5,c6,_,_⟩:=(H.o.recs.below hb).at hr
    have i0:(0:Int)≤(i:Int):=by omega
    have i1:(i:Int) < (n:Int):=by omega
    have hle:=zJr s.recs i
    have Hst:=Zh (show zBy s.recs (i+1)=if r.is=false then zBy s.recs i+1 else zBy s.recs i from by rw [zBy,hr])
    obtain ⟨q,hq⟩:∃ q,q=zBy s.recs i:=⟨_,rfl⟩
    rw [← hq] at hle ⊢
    have Hq:=Zh hq
    have d3:∀ o,(wr.alloc o).cell? ⟨sb,3,none⟩=some (.bool dead):=fun o=>by rw [Hdd.o];exact ((HS.o.kept hb).alloc o).cell 3
    have hbo:∀ o,Below w.heap.size w (wr.alloc o):=fun o=>hb.alloc hb.size o
    have HBO:=Zh hbo
    clear hr hq hbo
    cases dead with
    | true =>
      simp only [if_true]
      by_cases k1:r.is=true
      · rw [k1] at c3
        go_wp2
        exact ⟨⟨i+1,by omega,by go_num,rfl,HBO.o _⟩,by simp [intOf] <;> omega⟩
      · have k1:r.is=false:=by simpa using k1
        rw [k1] at c3
        go_wp2
        exact ⟨⟨i+1,by omega,by go_num,rfl,HBO.o _⟩,by simp [intOf] <;> omega⟩
    | false =>
      simp only [Bool.false_eq_true,if_false]
      by_cases k1:r.is=true
      · have Hs2:=Zh (show zBy s.recs (i+1)=q from by rw [Hst.o,if_neg (by rw [k1];decide),Hq.o])
        rw [k1] at c3
        clear k1
        go_wp2
        exact ⟨⟨i+1,by omega,by go_num,by rw [Hs2.o] <;> rfl,HBO.o _⟩,by simp [intOf] <;> omega⟩
      · have k1:r.is=false:=by simpa using k1
        have Hs2:=Zh (show zBy s.recs (i+1)=q+1 from by rw [Hst.o,if_pos k1,Hq.o])
        rw [k1] at c3
        clear k1
        go_wp2
        exact ⟨⟨i+1,by omega,by go_num,by rw [Hs2.o] <;> rfl,HBO.o _⟩,by simp [intOf] <;> omega⟩
  · obtain rfl:n=i:=by omega
    have HF2:=Zh (show (((if dead=true then 0 else zBy s.recs n:Nat)):Int)=(m:Int) from by rw [HF.o])
    have HB:=Zh hb
    obtain ⟨z,hz⟩:∃ z:Int,z=(((if dead=true then 0 else zBy s.recs n:Nat)):Int):=⟨_,rfl⟩
    rw [← hz] at HF2 ⊢
    clear hz hb
    go_wp2
    go_ret
    exact ⟨by rw [HF2.o] <;> rfl,HB.o⟩
end Go.Proofs.YtbbojbdigiibbaaGreatDoor
end
section
namespace Go.Mem
open Go Go.RowKit Gf
def zAp (l:List Sto.Rec):Nat→List (List UInt8)
 | 0=>[]
 | k+1=>match l[k]? with
   | none=>zAp l k
   | some r=>if r.is=true then zAp l k++[r.name.data.toList] else zAp l k
theorem zEh (l:List Sto.Rec):∀ k,(zAp l k).length≤k
 | 0=>Nat.le_refl _
 | k+1=>by
   have:=zEh l k
   simp only [zAp]
   split
   · omega
   · split
     · simp;omega
     · omega
def St.names (s:St):List (List UInt8):=if s.dead=true then [] else zAp s.recs s.recs.length
end Go.Mem
namespace Go.Proofs.YtbbojbdigiibbaaGreatDoor
open Go Go.RowKit Go.Mem Gf Go.Sort
attribute [local go_sem ↓] Go.wp_at_zero Go.wp_at_succ
theorem ESc:Elem Tryz.prog 166 9 (.string ByteArray.empty) 16:=⟨Tryz.underlying166,by kernel_rfl,rfl⟩
def zMJ (s:St) (w:World) (e:Ending) (w':World):Prop :=
 ∃ v,e=.returned v∧w'.ownsRow w.heap.size 9 1 v s.names.length ((s.names.mergeSort fun x y=>decide (x≤y)).map encStr)∧Below w.heap.size w w'
set_option maxRecDepth 20000 in
set_option maxHeartbeats 2000000 in
theorem zJD (N:Nat→Prop) (sb lb d L:Nat) (s:St) (w:World) (h:zi w N sb lb d L s) :
  Calls Tryz.prog 97 #[.pointer (some ⟨sb,0,none⟩)] w (zMJ s w):=by
 obtain ⟨lc,hS,hlc1,hlc2⟩:=h.blk
 have hl2:=h.ok.len2
 have H:=Zh h;have HS:=Zh hS
 obtain ⟨n,hnn⟩:∃ n,n=s.recs.length:=⟨_,rfl⟩
 have c2:w.cell? ⟨sb,2,none⟩=some (.slice (some ⟨lb,0,none⟩) n lc):=by rw [hnn];exact hS.cell 2
 rw [← hnn] at hlc1 hl2
 have Hn:=Zh hnn
 obtain ⟨dead,hdd⟩:∃ x,x=s.dead:=⟨_,rfl⟩
 have Hdd:=Zh hdd
 have HF:=Zh (show s.names=if dead=true then [] else zAp s.recs n from by unfold St.names;rw [hdd,hnn])
 clear h hS hnn hdd
 go_enter Tryz.func97,Tryz.ntmps97
 go_wp2_with fail
 go_loopw [3,11] (fun u v wr=>∃ i:Nat,i≤n∧v=.int .i64 i∧wr.ownsRow w.heap.size 9 1 u (if dead=true then [] else zAp s.recs i).length ((if dead=true then [] else zAp s.recs i).map encStr)∧Below w.heap.size w wr) (fun _ v _=>n - (intOf v).toNat)
 case atStart=>exact ⟨0,by omega,rfl,by cases dead <;> exact World.ownsRow_nil _ _ _ _,Below.refl _ _⟩
 case round =>
  obtain ⟨i,hi,rfl,hown,hb⟩:=hrel
  by_cases h0:i < n
  · obtain ⟨r,hr⟩:∃ r,s.recs[i]?=some r:=⟨s.recs[i]'(by have:=Hn.o;omega),by simp⟩
    obtain ⟨a,c,c3,c4,c5,c6,_,_⟩:=(H.o.recs.below hb).at hr
    have i0:(0:Int)≤(i:Int):=by omega
    have i1:(i:Int) < (n:Int):=by omega
    have hle:=zEh s.recs i
    have Hst:=Zh (show zAp s.recs (i+1)=if r.is=true then zAp s.recs i++[r.name.data.toList] else zAp s.recs i from by rw [zAp,hr])
    obtain ⟨q,hq⟩:∃ q,q=zAp s.recs i:=⟨_,rfl⟩
    rw [← hq] at hle hown
    have Hq:=Zh hq
    have d3:∀ o,(wr.alloc o).cell? ⟨sb,3,none⟩=some (.bool dead):=fun o=>by rw [Hdd.o];exact ((HS.o.kept hb).alloc o).cell 3
    have hbo:∀ o,Below w.heap.size w (wr.alloc o):=fun o=>hb.alloc hb.size o
    have HBO:=Zh hbo
    have hsz:=hb.size
    have HO:=Zh hown
    clear hr hq hbo hown
    cases dead with
    | true =>
      by_cases k1:r.is=true
      · rw [k1] at c3
        go_wp2
        exact ⟨⟨i+1,by omega,by go_num,HO.o.alloc _,HBO.o _⟩,by simp [intOf] <;> omega⟩
      · have k1:r.is=false:=by simpa using k1
        rw [k1] at c3
        go_wp2
        exact ⟨⟨i+1,by omega,by go_num,HO.o.alloc _,HBO.o _⟩,by simp [intOf] <;> omega⟩
    | false =>
      have HO2:=Zh (show wr.ownsRow w.heap.size 9 1 u3 q.length (q.map encStr) from HO.o)
      by_cases k1:r.is=true
      · have Hs2:=Zh (show zAp s.recs (i+1)=q++[r.name.data.toList] from by rw [Hst.o,if_pos k1,Hq.o])
        rw [k1] at c3
        clear k1
        go_wp2_with (at_builtin;refine zGw ESc rfl _ _ rfl (base:=w.heap.size) (n:=q.length) (xs:=q.map encStr) (.string r.name) rfl rfl ?cc rfl ((HO2.o.alloc _).alloc _) ?q1 ?q2 ?q3 ?_)
        case cc=>exact zHO _ _ _ _ (by simp)
        case q1=>omega
        case q2=>omega
        case q3=>simp;omega
        intro v4 w4 ho4 hg4
        have hb4:=zl ((HBO.o _).alloc (HBO.o _).size _) hg4 (fun k hk=>(HO2.o.lt k hk).1)
        have HO4:=Zh ho4
        have HB4:=Zh hb4
        clear ho4 hg4 hb4
        go_wp2
        refine ⟨⟨i+1,by omega,by go_num,?_,HB4.o⟩,by simp [intOf] <;> omega⟩
        rw [if_neg (by decide),Hs2.o,List.length_append,List.map_append]
        exact HO4.o
      · have k1:r.is=false:=by simpa using k1
        have Hs2:=Zh (show zAp s.recs (i+1)=q from by rw [Hst.o,if_neg (by rw [k1];decide),Hq.o])
        rw [k1] at c3
        clear k1
        go_wp2
        refine ⟨⟨i+1,by omega,by go_num,?_,HBO.o _⟩,by simp [intOf] <;> omega⟩
        rw [if_neg (by decide),Hs2.o]
        exact HO2.o.alloc _
  · obtain rfl:n=i:=by omega
    have hown2:wr.ownsRow w.heap.size 9 1 u3 s.names.length (s.names.map encStr):=by rw [HF.o];exact hown
    have hzl:s.names.length≤n:=by
     rw [HF.o]
     cases dead
     · exact zEh _ _
     · simp
    obtain ⟨z,hz⟩:∃ z,z=s.names:=⟨_,rfl⟩
    rw [← hz] at hown2 hzl
    have HZ:=Zh hz
    have HB:=Zh hb
    clear hown hz hb HF
    have HO:=Zh hown2
    rcases hown2.2 with ⟨rfl,h0l⟩ | ⟨g,cap,cur,rfl,hg,hgg,g1,g2,g3,g4⟩
    · have hz0:z=[]:=by simpa using h0l
      subst hz0
      clear hown2
      go_wp2_with fail
      refine (Tryz.sort_Strings_none none 0 wr).mono ?_
      rintro e w3 ⟨rfl,rfl⟩
      go_wp2
      go_ret
      exact ⟨_,rfl,by rw [← HZ.o];simpa using HO.o,HB.o⟩
    · have hH:Holds encStr wr g 0 z.toArray:=holds_of_block hgg (by simpa using g4)
      have hgl:g < wr.heap.size:=(Array.getElem?_eq_some_iff.1 hgg).1
      have HS2:=Zh (fun n os=>ownsRow_sorted (n:=n) (os:=os) (ss:=z) (ts:=z.mergeSort fun x y=>decide (x≤y)) (by simp) hg hgg g1 g2 g3)
      have HG:=Zh hg
      clear hown2 hgg g4
      go_wp2_with fail
      refine (Tryz.sort_Strings g 0 cap z wr hH hgl (by omega)).mono ?_
      rintro e w3 ⟨rfl,m,os,rfl⟩
      have hgr:Below w.heap.size w (grow (putRow encStr (Sort.ahead wr m) g 0 (z.mergeSort fun x y=>decide (x≤y)).toArray) os):=zl HB.o (grownBy_sorted _) (fun k hk=>by cases hk;exact HG.o)
      obtain ⟨w4,hw4⟩:∃ w4,w4=grow (putRow encStr (Sort.ahead wr m) g 0 (z.mergeSort fun x y=>decide (x≤y)).toArray) os:=⟨_,rfl⟩
      rw [← hw4] at hgr ⊢
      have HW:=Zh hw4
      have HGR:=Zh hgr
      clear hgr hw4
      go_wp2
      go_ret
      exact ⟨_,rfl,by rw [HW.o,← HZ.o];exact HS2.o _ _,HGR.o⟩
end Go.Proofs.YtbbojbdigiibbaaGreatDoor
end
section
namespace Go.Mem
open Go Go.RowKit Gf
def readAll (room:Nat) (D:zA):Nat→List Sto.Rec × Int × zA
 | 0=>([],0,D)
 | k+1 =>
   let p:=readAll room D k
   if p.2.1≠0 then p else
    let q:=Go.Proofs.YtbbojbdigiibbaaGreatDoor.readR p.2.2 room k
    let D':=if q.2.2=true then p.2.2.wr (k*(room+1):Nat) [0] else p.2.2
    if q.2.1≠0 then (p.1,q.2.1,D') else (p.1++[q.1],0,D')
theorem zET (room:Nat) (D:zA):∀ k,(readAll room D k).2.1=0→(readAll room D k).1.length=k
 | 0,_=>rfl
 | k+1,h=>by
   rw [readAll] at h ⊢
   by_cases h0:(readAll room D k).2.1=0
   · have ih:=zET room D k h0
     simp only [h0,ne_eq,not_true_eq_false,if_false] at h ⊢
     split at h
     · rename_i h1
       exact absurd h h1
     · rename_i h1
       rw [if_neg h1,List.length_append,ih]
       rfl
   · simp only [ne_eq,h0,not_false_eq_true,if_true] at h
theorem zGT (room:Nat) (D:zA) {k:Nat} (h:(readAll room D k).2.1≠0):∀ m,readAll room D (k+m)=readAll room D k
 | 0=>rfl
 | m+1=>by
   have ih:=zGT room D h m
   rw [Nat.add_succ,readAll,ih]
   simp only [ne_eq,h,not_false_eq_true,if_true]
def zI (s:St):Nat→Int × St
 | 0=>(0,s)
 | k+1 =>
   let p:=zI s k
   if p.1≠0 then p else
    match p.2.recs[k]? with
    | none=>p
    | some r=>if r.is=true∧Sto.best p.2.recs r.name p.2.recs.length≠some k then (p.2.freeE k,p.2.freeS k) else p
theorem zFb (s:St) {k:Nat} (h:(zI s k).1≠0):∀ m,zI s (k+m)=zI s k
 | 0=>rfl
 | m+1=>by
   have ih:=zFb s h m
   rw [Nat.add_succ,zI,ih]
   simp only [ne_eq,h,not_false_eq_true,if_true]
theorem zIB (s:St) (i:Nat):(s.freeS i).recs.length=s.recs.length∧(s.freeS i).room=s.room:=by
 refine ⟨?_,rfl⟩
 simp only [St.freeS]
 split
 · exact List.length_set
 · rfl
theorem zFc (s:St):∀ k,(zI s k).2.recs.length=s.recs.length∧(zI s k).2.room=s.room
 | 0=>⟨rfl,rfl⟩
 | k+1=>by
   have ih:=zFc s k
   rw [zI]
   by_cases h0:(zI s k).1=0
   · simp only [h0,ne_eq,not_true_eq_false,if_false]
     split
     · exact ih
     · split
       · exact ⟨(zIB _ _).1.trans ih.1,(zIB _ _).2.trans ih.2⟩
       · exact ih
   · simp only [ne_eq,h0,not_false_eq_true,if_true]
     exact ih
def zAh (D:zA) (slots room:Nat):Int × zA × Option St :=
 let p:=readAll room D slots
 if p.2.1≠0 then (p.2.1,p.2.2,none) else
  let q:=zI ⟨room,p.1,false,p.2.2⟩ slots
  if q.1≠0 then (q.1,q.2.disk,none) else (0,q.2.disk,some q.2)
end Go.Mem
namespace Go.Mem
open Go Go.RowKit Gf Go.Proofs.YtbbojbdigiibbaaGreatDoor
theorem zLr {b x r:List UInt8} (h:Cod.zBS b=some (x,r)):x.length≤b.length∧r.length≤b.length:=by
 unfold Cod.zBS at h
 split at h
 · cases h
 · split at h
   · cases h
   · simp only [Option.some.injEq,Prod.mk.injEq] at h
     obtain ⟨rfl,rfl⟩:=h
     simp only [List.length_take,List.length_drop]
     omega
theorem zKp:∀ (k:Nat) (b:List UInt8) (xs:List (List UInt8)) (r:List UInt8),Sto.takeN k b=some (xs,r)→(∀ x∈xs,x.length≤b.length)∧r.length≤b.length
 | 0,b,xs,r,h=>by
   simp [Sto.takeN] at h
   obtain ⟨rfl,rfl⟩:=h
   exact ⟨fun x hx=>by simp at hx,Nat.le_refl _⟩
 | k+1,b,xs,r,h=>by
   simp only [Sto.takeN] at h
   split at h
   · cases h
   · rename_i xs' r' h'
     split at h
     · cases h
     · rename_i x r'' h''
       simp only [Option.some.injEq,Prod.mk.injEq] at h
       obtain ⟨rfl,rfl⟩:=h
       have ih:=zKp k b xs' r' h'
       have h2:=zLr h''
       refine ⟨fun y hy=>?_,Nat.le_trans h2.2 ih.2⟩
       rcases List.mem_append.1 hy with hy | hy
       · exact ih.1 y hy
       · simp only [List.mem_singleton] at hy
         subst hy
         exact Nat.le_trans h2.1 ih.2
theorem zL3 {xs:List (List UInt8)} {m:Nat} (h:∀ x∈xs,x.length≤m) (i:Nat):(xs.getD i []).length≤m:=by
 rw [List.getD_eq_getElem?_getD]
 cases hx:xs[i]? with
 | none=>exact Nat.zero_le _
 | some x=>exact h x (List.mem_of_getElem? hx)
theorem zOA {b:List UInt8} {r:Sto.Rec} (h:Sto.parse b=some r):r.name.size≤b.length∧r.data.length≤b.length∧r.num≤72057594037927936:=by
 unfold Sto.parse at h
 split at h
 · cases h
 · rename_i xs r' h'
   split at h
   · rename_i h4
     simp only [Option.some.injEq] at h
     subst h
     have ih:=(zKp 3 b xs r' h').1
     exact ⟨zL3 ih 0,zL3 ih 2,by have:=Cod.zIu (xs.getD 1 []) (by omega);simp only;omega⟩
   · cases h
def Small (m:Nat) (r:Sto.Rec):Prop:=r.name.size≤m∧r.data.length≤m∧r.num≤72057594037927936
theorem zFJ (m:Nat):Small m Sto.Rec.free:=⟨Nat.zero_le _,Nat.zero_le _,Nat.zero_le _⟩
theorem zKX (D:zA) (room i:Nat):Small (room*32) (readR D room i).1:=by
 unfold readR
 split
 · exact zFJ _
 · split
   · exact zFJ _
   · split
     · rename_i r h
       have:=zOA h
       rw [zCs] at this
       exact this
     · exact zFJ _
theorem zE2 (room:Nat) (D:zA):∀ k,∀ r∈(readAll room D k).1,Small (room*32) r
 | 0,r,h=>by simp [readAll] at h
 | k+1,r,h=>by
   have ih:=zE2 room D k
   rw [readAll] at h
   simp only at h
   split at h
   · exact ih r h
   · split at h
     · exact ih r h
     · rcases List.mem_append.1 h with h | h
       · exact ih r h
       · simp only [List.mem_singleton] at h
         subst h
         exact zKX _ _ _
theorem zIP (room:Nat) (D:zA):∀ k,(readAll room D k).2.2.n=D.n
 | 0=>rfl
 | k+1=>by
   have ih:=zIP room D k
   rw [readAll]
   simp only
   split
   · exact ih
   · split
     · simp only
       split
       · exact (zA.wr_n _ _ _).trans ih
       · exact ih
     · simp only
       split
       · exact (zA.wr_n _ _ _).trans ih
       · exact ih
end Go.Mem
end
section
namespace Go.Proofs.YtbbojbdigiibbaaGreatDoor
open Go Go.RowKit Go.Mem Gf
attribute [local go_sem ↓] Go.wp_at_zero Go.wp_at_succ
end Go.Proofs.YtbbojbdigiibbaaGreatDoor
end
section
namespace Go.Proofs.YtbbojbdigiibbaaGreatDoor
open Go Go.RowKit Go.Mem Gf
attribute [local go_sem ↓] Go.wp_at_zero Go.wp_at_succ
theorem rws3 {w:World} {b:Nat} {t:TypeId} {v0 v1 v2:Value} {r0 r1 r2:List UInt8} (h:Blk w b #[v0,v1,v2] t) (h0:Bys w v0 r0) (h1:Bys w v1 r1) (h2:Bys w v2 r2):Rws w (.slice (some ⟨b,0,none⟩) 3 3) [r0,r1,r2]:=by
 refine ⟨_,3,rfl,Nat.le_refl _,zAk (by decide),fun _=>⟨b,0,rfl,fun k r hk=>?_⟩⟩
 match k with
 | 0=>simp at hk;subst hk;exact ⟨v0,by rw [h.cell];rfl,h0⟩
 | 1=>simp at hk;subst hk;exact ⟨v1,by rw [h.cell];rfl,h1⟩
 | 2=>simp at hk;subst hk;exact ⟨v2,by rw [h.cell];rfl,h2⟩
 | k+3=>simp at hk
set_option maxRecDepth 20000 in
set_option maxHeartbeats 2000000 in
theorem zEE (name:ByteArray) (num:Nat) (v:Value) (data:List UInt8) (w:World) (hT:Tab w) (hb:Bys w v data) (hn:name.size≤1000000) (hnum:num≤9223372036854775807) (hd:data.length≤1000000) :
  Calls Tryz.prog 112 #[.string name,.int .i64 num,v] w fun e w'=>∃ v',e=.returned v'∧zt 5 w' w.heap.size v' (Sto.text name num data)∧Below w.heap.size w w':=by
 have hconv:=Lib.run_convert_string_bytes (P:=Tryz.prog) w 9 51 5 name Tryz.underlying9 Tryz.underlying51 Tryz.underlying5
 obtain ⟨ho,hb1⟩:=zFx w 5 name (zAk (by omega))
 obtain ⟨w1,hw1⟩:∃ w1,w1=Lib.bytesWorld w 5 name:=⟨_,rfl⟩
 rw [← hw1] at ho hb1 hconv
 have HO:=Zh ho;have HB1:=Zh hb1;have HT:=Zh hT;have HB:=Zh hb
 have hs1:=hb1.size
 obtain ⟨da,dc,rfl⟩:=hb.eq_slice
 clear hw1 ho hb1 hT hb
 go_enter Tryz.func112,Tryz.ntmps112
 go_wp2_with fail
 refine (zKT num 4 hnum (by decide) (by decide) w1).mono ?_
 rintro e w2 ⟨pv,rfl,hp,hb2⟩
 have hb12:=HB1.o.trans (hb2.mono hs1)
 have hs2:=hb12.size
 obtain ⟨pa,pc,rfl⟩:=hp.eq_slice
 rw [Cod.zAV] at hp ⊢
 have HP:=Zh hp;have HB2:=Zh hb2;have HB12:=Zh hb12
 clear hp hb2 hb12 hconv
 go_wp2_with fail
 have hal:=fun (o:Obj)=>(Below.refl w2.heap.size w2).alloc (Nat.le_refl _) o
 refine (zDs _ [name.data.toList,Cod.be 4 num,data] _ ((HT.o.below HB12.o).below (hal _)) (rws3 (Blk.new _ _ _) (((HO.o.below HB2.o).bys).below (hal _)) ((HP.o.bys).below (hal _)) ((HB.o.below HB12.o).below (hal _))) ?_).mono ?_
 · simp only [Cod.zBE,List.length_append,Cod.zCT,Cod.zAV,List.length_nil,Array.length_toList]
   have h1:Lib.nDigits name.data.size≤9:=by have:=dec_len name.data.size (by show name.size≤_;omega);rw [Lib.itoa_nonneg,Lib.decDigits_length] at this;exact this
   have h2:Lib.nDigits 4≤9:=by rw [Lib.nDigits_small (by decide)];decide
   have h3:Lib.nDigits data.length≤9:=by have:=dec_len data.length (by omega);rw [Lib.itoa_nonneg,Lib.decDigits_length] at this;exact this
   have h4:name.data.size≤1000000:=hn
   omega
 rintro e w3 ⟨v3,rfl,h3,hb3⟩
 go_wp2
 go_ret
 exact ⟨_,rfl,h3.mono (by simp;omega),(HB12.o.alloc hs2 _).trans (hb3.mono (by simp;omega))⟩
def zAf (room:Nat) (name:ByteArray) (data:List UInt8):Bool:=decide (name.size≤16384) && (decide (data.length≤16384) && decide ((Sto.text name 0 data).length≤room*32))
set_option maxRecDepth 20000 in
set_option maxHeartbeats 2000000 in
theorem zBr (N:Nat→Prop) (sb lb d L:Nat) (s:St) (name:ByteArray) (v:Value) (data:List UInt8) (w:World) (h:zi w N sb lb d L s) (hb:Bys w v data) (hn:name.size≤9223372036854775807) :
  Calls Tryz.prog 111 #[.pointer (some ⟨sb,0,none⟩),.string name,v] w fun e w'=>e=.returned (.bool (zAf s.room name data))∧Below w.heap.size w w':=by
 obtain ⟨lc,hS,hlc1,hlc2⟩:=h.blk
 have c1:w.cell? ⟨sb,1,none⟩=some (.int .i64 s.room):=hS.cell 1
 have hr2:=h.ok.room2
 have hdl:=hb.len
 obtain ⟨da,dc,rfl⟩:=hb.eq_slice
 obtain ⟨dl,hdl'⟩:∃ dl,dl=data.length:=⟨_,rfl⟩
 rw [← hdl'] at hb hdl ⊢
 obtain ⟨nl,hnl⟩:∃ nl,nl=name.size:=⟨_,rfl⟩
 have Hdl:=Zh hdl';have Hnl:=Zh hnl
 have HF:=Zh (show zAf s.room name data=(decide (name.size≤16384) && (decide (data.length≤16384) && decide ((Sto.text name 0 data).length≤s.room*32))) from rfl)
 have HS:=Zh hS;have HT:=Zh h.tab;have HB:=Zh hb
 obtain ⟨room,hroom⟩:∃ r,r=s.room:=⟨_,rfl⟩
 rw [← hroom] at hr2 c1 HF HS ⊢
 clear h hS hb hdl' hnl hroom
 by_cases h1:name.size≤16384
 · by_cases h2:dl≤16384
   · have HF2:=Zh (show zAf room name data=decide ((Sto.text name 0 data).length≤room*32) from by rw [HF.o,decide_eq_true h1,decide_eq_true (by have:=Hdl.o;omega)];rfl)
     have q1:IntKind.i64.wrap ((room:Int)*32)=(room:Int)*32:=IntWalk.i64_in _ (by omega)
     go_enter Tryz.func111,Tryz.ntmps111
     go_wp2_with fail
     go_region_held3 (fun w'=>w'.cell? ⟨sb,1,none⟩=some (.int .i64 room)) (first | exact c1 | assumption)
      (first
       | (go_at_call 112
          refine (zEE name 0 _ data w.drew (HT.o.drewN 1) (HB.o.drewN 1) (by omega) (by decide) (by have:=Hdl.o;omega)).mono ?_
          rintro e w2 ⟨v2,rfl,ho2,hb2⟩
          have hb2:Below w.heap.size w w2:=zA2 hb2
          have hh:w2.cell? ⟨sb,1,none⟩=some (.int .i64 room):=(HS.o.kept hb2).cell 1
          obtain ⟨a2,c2,rfl⟩:=ho2.eq_slice))
     have HE:=Zh (show decide (((Sto.text name 0 data).length:Int)≤(room:Int)*32)=zAf room name data from by rw [HF2.o,decide_eq_decide];omega)
     go_wp2
     go_ret
     exact ⟨by rw [← HE.o];rfl,hb2⟩
   · have HF2:=Zh (show zAf room name data=false from by rw [HF.o,decide_eq_false (p:=data.length≤16384) (by have:=Hdl.o;omega)];simp)
     go_enter Tryz.func111,Tryz.ntmps111
     go_wp2
     go_ret
     exact ⟨by rw [HF2.o];rfl,Below.refl _ _⟩
 · have HF2:=Zh (show zAf room name data=false from by rw [HF.o,decide_eq_false h1];rfl)
   go_enter Tryz.func111,Tryz.ntmps111
   go_wp2
   go_ret
   exact ⟨by rw [HF2.o];rfl,Below.refl _ _⟩
end Go.Proofs.YtbbojbdigiibbaaGreatDoor
end
