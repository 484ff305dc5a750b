/- Texts of this proof,packed: KeyOpen,KeyBad,StoreFreeN,StoreNames,StoreOpenMath,StoreOpenBad,StoreDisk,StoreLaw. -/
import Derived.Test.YtdlkghdfkjdajaaGreatDoorPkP10
import Derived.Great.FillDense
import Derived.Test.YtdlkghdfkjdajaaGreatDoorPkP07
import Derived.Sort.OwnSorted
import Derived.Test.YtdlkghdfkjdajaaGreatDoorPkP03
import Derived.Laws.Strings
import Derived.Test.YtdlkghdfkjdajaaGreatDoorPkP09
section
namespace Go.Mem
open Go Go.RowKit Gf
theorem zBQ {v:Value} (h:v.oneCell'=true):v.cells=#[v]:=by
 cases v <;> first | rfl | cases h
theorem zDP {v:Value} (h:zBX v=true):v.cells=(zAu v).toArray:=by
 cases v <;> first | rfl | cases h
theorem zHn (off:Nat) (q c:Array Value) (h:off+q.size≤c.size):q.zipIdx.foldl (fun cs (x:Value × Nat)=>cs.setIfInBounds (off+x.2) x.1) c=(c.toList.take off++q.toList++c.toList.drop (off+q.size)).toArray:=by
 have e:q.zipIdx.foldl (fun cs (x:Value × Nat)=>cs.setIfInBounds (off+x.2) x.1) c=(q.toList.zipIdx 0).foldl (fun cs (x:Value × Nat)=>cs.setIfInBounds (off+x.2) x.1) c:=by
  rw [← Array.foldl_toList,Array.toList_zipIdx]
 obtain ⟨h1,h2⟩:=Great.foldl_set off q.toList 0 c
 rw [e]
 apply Array.ext_getElem?
 intro k
 rw [h2]
 simp only [Nat.add_zero,Array.length_toList,List.getElem?_toArray]
 by_cases hk:k < off
 · rw [if_neg (by omega),List.getElem?_append_left (by simp;omega),List.getElem?_append_left (by simp;omega),List.getElem?_take,if_pos hk,Array.getElem?_toList]
 · by_cases hk2:k < off+q.size
   · rw [if_pos (by omega),List.getElem?_append_left (by simp;omega),List.getElem?_append_right (by simp;omega)]
     simp only [List.length_take,Array.length_toList,Array.getElem?_toList]
     congr 1
     omega
   · rw [if_neg (by omega),List.getElem?_append_right (by simp;omega)]
     simp only [List.length_append,List.length_take,Array.length_toList,List.getElem?_drop]
     rw [← Array.getElem?_toList]
     congr 1
     omega
theorem zKH {a b:List Value} {n:Nat} (h:a.length=n):(a++b).take n=a:=by rw [List.take_append_of_le_length (by omega),List.take_of_length_le (by omega)]
theorem zKG {a b:List Value} {n:Nat} (h:a.length=n):(a++b).drop n=b:=by rw [List.drop_append_of_le_length (by omega),List.drop_of_length_le (by omega),List.nil_append]
theorem zBt {a b c d:List Value} {n m:Nat} (h1:a.length=n) (h2:b.length=m):((a++(b++c)).take n++d++(a++(b++c)).drop (n+m))=a++(d++c):=by
 rw [zKH h1,← List.append_assoc a b c,zKG (by rw [List.length_append];omega),List.append_assoc]
theorem zBF {pl:Array (Nat × Nat)} {c:List Value} {i off n:Nat} {v:Value} (q:List Value) (e1:pl[i]?=some (off,n)) (e2:v.cells=q.toArray) (e3:q.length=n) (e4:off+n≤c.length) (rest:List (Nat × Value)):Instr.fill (pl[·]?) c.toArray ((i,v)::rest)=Instr.fill (pl[·]?) (c.take off++q++c.drop (off+n)).toArray rest:=by
 rw [Instr.fill]
 simp only [e1,e2]
 rw [if_neg (by simp [e3];omega),zHn _ _ _ (by simp;omega)]
 simp [e3]
def z8 (n:Nat):List Value:=List.replicate n (.int .u8 0)
theorem zJX (n:Nat):(z8 n).length=n:=by unfold z8;rw [List.length_replicate]
def keyPl:List (Nat × Nat):=[(0,1),(1,1),(2,16),(18,1),(19,1),(20,32)]
def zJe:List Value:=[Value.pointer none,.string ByteArray.empty]++(z8 16++([Value.int .i64 0,.int .i64 0]++z8 32))
end Go.Mem
namespace Go.Proofs.YtdlkghdfkjdajaaGreatDoor
open Go Go.RowKit Go.Mem Gf
set_option linter.unusedVariables false
set_option linter.unusedSimpArgs false
theorem zIj (x0 x1 x3:Value) (cs pr:List Value) (h0:x0.oneCell'=true) (h1:x1.oneCell'=true) (h3:x3.oneCell'=true) (hc:cs.length=16) (hp:pr.length=32) :
  Tryz.prog.built 87 [(0,x0),(1,x1),(2,.agg cs.toArray),(3,x3),(5,.agg pr.toArray)]=some ([x0,x1]++cs++[x3,.int .i64 0]++pr).toArray:=by
 have hz:Tryz.prog.built 87 [(0,x0),(1,x1),(2,.agg cs.toArray),(3,x3),(5,.agg pr.toArray)]=Instr.fill (keyPl.toArray[·]?) zJe.toArray [(0,x0),(1,x1),(2,.agg cs.toArray),(3,x3),(5,.agg pr.toArray)]:=by
  unfold Program.built
  kernel_rfl
 have l16:=zJX 16
 have l32:=zJX 32
 rw [hz,zBF [x0] (off:=0) (n:=1) rfl (zBQ h0) rfl (by unfold zJe;simp)]
 rw [show zJe.take 0++[x0]++zJe.drop (0+1)=[x0]++([Value.string ByteArray.empty]++(z8 16++([Value.int .i64 0,.int .i64 0]++z8 32))) from rfl]
 rw [zBF [x1] (off:=1) (n:=1) rfl (zBQ h1) rfl (by simp),zBt (n:=1) (m:=1) (a:=[x0]) (b:=[Value.string ByteArray.empty]) rfl rfl]
 rw [show [x0]++([x1]++(z8 16++([Value.int .i64 0,.int .i64 0]++z8 32)))=[x0,x1]++(z8 16++([Value.int .i64 0,.int .i64 0]++z8 32)) from rfl]
 rw [zBF cs (off:=2) (n:=16) rfl (zDP rfl) hc (by simp [l16,l32]),zBt (n:=2) (m:=16) (a:=[x0,x1]) rfl l16]
 rw [show [x0,x1]++(cs++([Value.int .i64 0,.int .i64 0]++z8 32))=([x0,x1]++cs)++([Value.int .i64 0]++([Value.int .i64 0]++z8 32)) from by simp]
 rw [zBF [x3] (off:=18) (n:=1) rfl (zBQ h3) rfl (by simp [hc,l32]),zBt (n:=18) (m:=1) (a:=[x0,x1]++cs) (b:=[Value.int .i64 0]) (by simp [hc]) rfl]
 rw [show ([x0,x1]++cs)++([x3]++([Value.int .i64 0]++z8 32))=([x0,x1]++cs++[x3,Value.int .i64 0])++(z8 32++[]) from by simp]
 rw [zBF pr (off:=20) (n:=32) rfl (zDP rfl) hp (by simp [hc,l32]),zBt (n:=20) (m:=32) (a:=[x0,x1]++cs++[x3,Value.int .i64 0]) (by simp [hc]) l32]
 rw [List.append_nil]
 rfl
def zIx (v0 v1 v2 v3 v5:Value):Bool:=v0.oneCell' && v1.oneCell' && zBX v2 && v3.oneCell' && zBX v5 && decide ((zAu v2).length=16) && decide ((zAu v5).length=32)
theorem zIi (dst:Option Tmp) (x0 x1 x2 x3 x5:Operand) (ty:TypeId) (pos:String) (af:Array Edge) (gd:Option (Tmp × Bool)) (a:Act) (w:World) (K:Act→World→Prop) (Q:Exit→Act→World→Prop)
  (h:zIx (a.eval x0) (a.eval x1) (a.eval x2) (a.eval x3) (a.eval x5)=true) :
  Oper.wp Tryz.prog ⟨dst,.build 87 #[(0,x0),(1,x1),(2,x2),(3,x3),(5,x5)],ty,pos,af,gd⟩ a w K Q=K (a.put dst (.agg ([a.eval x0,a.eval x1]++zAu (a.eval x2)++[a.eval x3,.int .i64 0]++zAu (a.eval x5)).toArray)) w:=by
 unfold zIx at h
 simp only [Bool.and_eq_true,decide_eq_true_eq] at h
 obtain ⟨⟨⟨⟨⟨⟨h0,h1⟩,h2⟩,h3⟩,h5⟩,l2⟩,l5⟩:=h
 have e2:=zEm h2
 have e5:=zEm h5
 have hb:=zIj (a.eval x0) (a.eval x1) (a.eval x3) (zAu (a.eval x2)) (zAu (a.eval x5)) h0 h1 h3 l2 l5
 rw [← e2,← e5] at hb
 have hr:=run_build (P:=Tryz.prog) w 87 #[(0,a.eval x0),(1,a.eval x1),(2,a.eval x2),(3,a.eval x3),(5,a.eval x5)] _ hb
 unfold Oper.wp execOp
 simp only [Sem.run_bind,List.map_toArray,List.map_cons,List.map_nil,hr,Result.andThen_ok]
 rfl
attribute [local go_sem ↓] Go.wp_at_zero Go.wp_at_succ
attribute [local go_sem ↓] zY zU zf zIi
attribute [local go_sem] zIx Value.oneCell' ptrB_eq ptrO_eq ptrIs_eq aggL_eq aggIs_eq zS zV zD zF zJ zK zB
set_option maxRecDepth 20000 in
set_option maxHeartbeats 2000000 in
theorem zEK (w:World) (N:Nat→Prop) (sb lb d Ld:Nat) (s:St) (name:ByteArray) (sd:List UInt8) (h:Nat) (hst:zO w N sb lb d Ld s) (hs:sd.length=16) (hh:h≤4) (h4:∀ b,s.get name=some b→b.length≤7) :
  Calls Tryz.prog 9 #[.pointer (some ⟨sb,0,none⟩),.string name,.agg (bV sd).toArray,.int .i64 h] w fun e w'=>∃ kb,e=.returned (.tuple #[.pointer (some ⟨kb,0,none⟩),.int .i64 0])∧w.heap.size≤kb∧ze w' kb sb name sd h (zX s name 0) (Wot.print sd h)∧zO w' (fun b=>N b∨b=kb) sb lb d Ld s∧Below w.heap.size w w':=by
 have hpr:=fun w1 (hb:Below w.heap.size w w1)=>zGg sd h w1 (hst.tab.below hb) hs hh
 obtain ⟨pr,hprr⟩:∃ p,p=Wot.print sd h:=⟨_,rfl⟩
 have hprl:pr.length=32:=by rw [hprr];exact Wot.tagged_len _ _
 rw [← hprr] at hpr ⊢
 obtain ⟨cs,hcs⟩:∃ c,c=bV sd:=⟨_,rfl⟩
 have hcl:cs.length=16:=by rw [hcs,zG];exact hs
 obtain ⟨cp,hcp⟩:∃ c,c=bV pr:=⟨_,rfl⟩
 have hcpl:cp.length=32:=by rw [hcp,zG];exact hprl
 have hcpa:zAS 32 cp:=⟨hcpl,fun v hv=>by rw [hcp] at hv;exact zAQ _ v hv⟩
 rw [← hcs,← hcp] at hpr
 rw [← hcs]
 have H:=Lib.hid (And.intro hst (And.intro hpr (And.intro hcs (And.intro hcp h4))))
 clear hst hpr hcs hcp h4 hprr
 go_enter Tryz.func9,Tryz.ntmps9
 go_upto_region 1 with fail
 obtain ⟨w1,hw1⟩:∃ q,q=w.alloc (.cells cs.toArray 23):=⟨_,rfl⟩
 obtain ⟨p1,hp1⟩:∃ q,q=w.heap.size:=⟨_,rfl⟩
 have hb1:Below w.heap.size w w1:=by rw [hw1];exact (Below.refl _ _).alloc (Nat.le_refl _) _
 have hk1:Blk w1 p1 cs.toArray 23:=by rw [hw1,hp1];exact Blk.new _ _ _
 have hs01:=hb1.size
 rw [← hw1,← hp1]
 have k1:zh 16 w1 p1 0=cs:=zn hk1 hcl (fun k _=>by simp)
 have k2:zi 16 w1 p1 0:=zQ hk1 (by simp [hcl])
 have H1:=Lib.hid (And.intro hb1 hk1)
 clear hw1 hp1 hb1 hk1
 go_wp2_with fail
 refine (H.out.2.1 w1 H1.out.1).mono ?_
 rintro e w2 ⟨rfl,hb2⟩
 have hb02:=H1.out.1.trans (hb2.mono hs01)
 have hkk2:=H1.out.2.kept hb2
 have k1:zh 16 w2 p1 0=cs:=zn hkk2 hcl (fun k _=>by simp)
 have k2:zi 16 w2 p1 0:=zQ hkk2 (by simp [hcl])
 have hp12:p1 < w2.heap.size:=hkk2.lt
 have H2:=Lib.hid hb02
 have hs02:=hb02.size
 have hcut:cutC cp.toArray 0 32=cp:=by unfold cutC;rw [List.toList_toArray,List.drop_zero,List.take_of_length_le (by omega)]
 clear hb2 hb02 hkk2
 go_upto_region 5 with fail
 obtain ⟨cv,hcv⟩:∃ c:List Value,c=Value.pointer (some ⟨sb,0,none⟩)::Value.string name::(cs++Value.int .i64 h::Value.int .i64 0::cp):=⟨_,rfl⟩
 have hkv:cv=zDh sb name sd h 0 pr:=by
  unfold zDh
  rw [hcv,← H.out.2.2.1,← H.out.2.2.2.1]
  simp
 obtain ⟨wk,hwk⟩:∃ q,q=(w2.alloc (.cells cp.toArray 34)).alloc (.cells cv.toArray 87):=⟨_,rfl⟩
 obtain ⟨kb,hkb⟩:∃ q,q=w2.heap.size+1:=⟨_,rfl⟩
 have hbk:Below w2.heap.size w2 wk:=by rw [hwk];exact ((Below.refl _ _).alloc (Nat.le_refl _) _).alloc (by simp) _
 have hks:ze wk kb sb name sd h 0 pr:=by
  unfold ze
  rw [← hkv,hwk,hkb]
  exact Blk.new_at _ _ _ _ (by simp)
 have hszk:wk.heap.size=w2.heap.size+2:=by rw [hwk];simp
 rw [← hcv,← hwk,← hkb]
 have hb0k:=H2.out.trans (hbk.mono hs02)
 have hstk:zO wk (fun b=>N b∨b=kb) sb lb d Ld s:=H.out.1.grow (S:=fun _=>False) (Chg.of_below hb0k) (fun _ _=>id) (fun _ h=>h.elim) (fun b hb=>hb.elim .inl (fun e=>.inr (by omega))) (fun b hb=>.inl hb) (fun b hb=>hb.elim (fun hb=>by have:=H.out.1.old b hb;omega) (fun e=>by omega))
 have hfk:¬ zAe sb lb d Ld kb:=fun hf=>by have:=H.out.1.lt kb hf;omega
 have HK:=Lib.hid (And.intro hks (And.intro hstk (And.intro hfk hb0k)))
 have hkge:w.heap.size≤kb:=by omega
 clear hcv hkv hwk hkb hbk hks hszk hb0k hstk hfk k1 k2
 go_wp2_with fail
 refine (zEJ wk (fun b=>N b∨b=kb) kb sb lb d Ld s name sd h 0 pr HK.out.1 HK.out.2.1 hs (.inr rfl) HK.out.2.2.1 H.out.2.2.2.2 (Nat.zero_le _)).mono ?_
 rintro e w4 ⟨rfl,hk4,hst4,hc4⟩
 have HF:=Lib.hid (And.intro hk4 (And.intro hst4 (HK.out.2.2.2.trans (hc4.below (Nat.le_trans hkge (Nat.le_of_lt HK.out.1.lt)) (fun b (e:b=kb)=>by rw [e];exact hkge)))))
 clear hk4 hst4 hc4
 go_wp2
 go_ret2
 exact ⟨kb,rfl,hkge,HF.out.1,HF.out.2.1,HF.out.2.2⟩
end Go.Proofs.YtdlkghdfkjdajaaGreatDoor
end
section
namespace Go.Proofs.YtdlkghdfkjdajaaGreatDoor
open Go Go.RowKit Go.Mem Gf
set_option linter.unusedVariables false
set_option linter.unusedSimpArgs false
attribute [local go_sem ↓] Go.wp_at_zero Go.wp_at_succ
attribute [local go_sem ↓] zY zU zf
attribute [local go_sem] ptrB_eq ptrO_eq ptrIs_eq aggL_eq aggIs_eq zS zV zD zF zJ zK zB
end Go.Proofs.YtdlkghdfkjdajaaGreatDoor
end
section
namespace Go.Mem
open Go Go.RowKit Gf
end Go.Mem
namespace Go.Proofs.YtdlkghdfkjdajaaGreatDoor
open Go Go.RowKit Go.Mem Gf
attribute [local go_sem ↓] Go.wp_at_zero Go.wp_at_succ
set_option maxRecDepth 100000 in
theorem zHi (n:Int) (b:Bool) (w:World) (hb:decide (1≤n∧n≤1024)=b) :
  Calls Tryz.prog 26 #[.int .i64 n] w fun e w'=>e=.returned (.bool b)∧w=w':=by
 have H:=Lib.hid hb
 clear hb
 by_cases h1:1≤n
 · by_cases h2:n≤1024
   · obtain rfl:b=true:=by rw [← H.out];exact decide_eq_true ⟨h1,h2⟩
     clear H
     go_enter Tryz.func26,Tryz.ntmps26
     go_wp2
     go_ret
     exact ⟨rfl,rfl⟩
   · obtain rfl:b=false:=by rw [← H.out];exact decide_eq_false (fun h=>h2 h.2)
     clear H
     go_enter Tryz.func26,Tryz.ntmps26
     go_wp2
     go_ret
     exact ⟨rfl,rfl⟩
 · obtain rfl:b=false:=by rw [← H.out];exact decide_eq_false (fun h=>h1 h.1)
   clear H
   go_enter Tryz.func26,Tryz.ntmps26
   go_wp2
   go_ret
   exact ⟨rfl,rfl⟩
end Go.Proofs.YtdlkghdfkjdajaaGreatDoor
end
section
namespace Go.Mem
open Go Go.RowKit Gf
end Go.Mem
namespace Go.Proofs.YtdlkghdfkjdajaaGreatDoor
open Go Go.RowKit Go.Mem Gf Go.Sort
attribute [local go_sem ↓] Go.wp_at_zero Go.wp_at_succ
end Go.Proofs.YtdlkghdfkjdajaaGreatDoor
end
section
namespace Go.Mem
open Go Go.RowKit Gf
def readAll (room:Nat) (D:zA):Nat→List Sto.Rec × Int × zA
 | 0=>([],0,D)
 | k+1 =>
   let p:=readAll room D k
   if p.2.1≠0 then p else
    let q:=Go.Proofs.YtdlkghdfkjdajaaGreatDoor.readR p.2.2 room k
    let D':=if q.2.2=true then p.2.2.wr (k*(room+1):Nat) [0] else p.2.2
    if q.2.1≠0 then (p.1,q.2.1,D') else (p.1++[q.1],0,D')
theorem zBZ (room:Nat) (D:zA):∀ k,(readAll room D k).2.1=0→(readAll room D k).1.length=k
 | 0,_=>rfl
 | k+1,h=>by
   rw [readAll] at h ⊢
   by_cases h0:(readAll room D k).2.1=0
   · have ih:=zBZ room D k h0
     simp only [h0,ne_eq,not_true_eq_false,if_false] at h ⊢
     split at h
     · rename_i h1
       exact absurd h h1
     · rename_i h1
       rw [if_neg h1,List.length_append,ih]
       rfl
   · simp only [ne_eq,h0,not_false_eq_true,if_true] at h
theorem zCs (room:Nat) (D:zA) {k:Nat} (h:(readAll room D k).2.1≠0):∀ m,readAll room D (k+m)=readAll room D k
 | 0=>rfl
 | m+1=>by
   have ih:=zCs room D h m
   rw [Nat.add_succ,readAll,ih]
   simp only [ne_eq,h,not_false_eq_true,if_true]
def zC (s:St):Nat→Int × St
 | 0=>(0,s)
 | k+1 =>
   let p:=zC s k
   if p.1≠0 then p else
    match p.2.recs[k]? with
    | none=>p
    | some r=>if r.is=true∧Sto.best p.2.recs r.name p.2.recs.length≠some k then (p.2.freeE k,p.2.freeS k) else p
theorem zCK (s:St) {k:Nat} (h:(zC s k).1≠0):∀ m,zC s (k+m)=zC s k
 | 0=>rfl
 | m+1=>by
   have ih:=zCK s h m
   rw [Nat.add_succ,zC,ih]
   simp only [ne_eq,h,not_false_eq_true,if_true]
theorem zD7 (s:St) (i:Nat):(s.freeS i).recs.length=s.recs.length∧(s.freeS i).room=s.room:=by
 refine ⟨?_,rfl⟩
 simp only [St.freeS]
 split
 · exact List.length_set
 · rfl
theorem zBf (s:St):∀ k,(zC s k).2.recs.length=s.recs.length∧(zC s k).2.room=s.room
 | 0=>⟨rfl,rfl⟩
 | k+1=>by
   have ih:=zBf s k
   rw [zC]
   by_cases h0:(zC s k).1=0
   · simp only [h0,ne_eq,not_true_eq_false,if_false]
     split
     · exact ih
     · split
       · exact ⟨(zD7 _ _).1.trans ih.1,(zD7 _ _).2.trans ih.2⟩
       · exact ih
   · simp only [ne_eq,h0,not_false_eq_true,if_true]
     exact ih
def zu (D:zA) (slots room:Nat):Int × zA × Option St :=
 let p:=readAll room D slots
 if p.2.1≠0 then (p.2.1,p.2.2,none) else
  let q:=zC ⟨room,p.1,false,p.2.2⟩ slots
  if q.1≠0 then (q.1,q.2.disk,none) else (0,q.2.disk,some q.2)
end Go.Mem
namespace Go.Mem
open Go Go.RowKit Gf Go.Proofs.YtdlkghdfkjdajaaGreatDoor
theorem zJN {b x r:List UInt8} (h:Cod.zy b=some (x,r)):x.length≤b.length∧r.length≤b.length:=by
 unfold Cod.zy at h
 split at h
 · cases h
 · split at h
   · cases h
   · simp only [Option.some.injEq,Prod.mk.injEq] at h
     obtain ⟨rfl,rfl⟩:=h
     simp only [List.length_take,List.length_drop]
     omega
theorem zIN:∀ (k:Nat) (b:List UInt8) (xs:List (List UInt8)) (r:List UInt8),Sto.takeN k b=some (xs,r)→(∀ x∈xs,x.length≤b.length)∧r.length≤b.length
 | 0,b,xs,r,h=>by
   simp [Sto.takeN] at h
   obtain ⟨rfl,rfl⟩:=h
   exact ⟨fun x hx=>by simp at hx,Nat.le_refl _⟩
 | k+1,b,xs,r,h=>by
   simp only [Sto.takeN] at h
   split at h
   · cases h
   · rename_i xs' r' h'
     split at h
     · cases h
     · rename_i x r'' h''
       simp only [Option.some.injEq,Prod.mk.injEq] at h
       obtain ⟨rfl,rfl⟩:=h
       have ih:=zIN k b xs' r' h'
       have h2:=zJN h''
       refine ⟨fun y hy=>?_,Nat.le_trans h2.2 ih.2⟩
       rcases List.mem_append.1 hy with hy | hy
       · exact ih.1 y hy
       · simp only [List.mem_singleton] at hy
         subst hy
         exact Nat.le_trans h2.1 ih.2
theorem zJc {xs:List (List UInt8)} {m:Nat} (h:∀ x∈xs,x.length≤m) (i:Nat):(xs.getD i []).length≤m:=by
 rw [List.getD_eq_getElem?_getD]
 cases hx:xs[i]? with
 | none=>exact Nat.zero_le _
 | some x=>exact h x (List.mem_of_getElem? hx)
theorem zLO {b:List UInt8} {r:Sto.Rec} (h:Sto.parse b=some r):r.name.size≤b.length∧r.data.length≤b.length∧r.num≤72057594037927936:=by
 unfold Sto.parse at h
 split at h
 · cases h
 · rename_i xs r' h'
   split at h
   · rename_i h4
     simp only [Option.some.injEq] at h
     subst h
     have ih:=(zIN 3 b xs r' h').1
     exact ⟨zJc ih 0,zJc ih 2,by have:=Cod.zBV (xs.getD 1 []) (by omega);simp only;omega⟩
   · cases h
def Small (m:Nat) (r:Sto.Rec):Prop:=r.name.size≤m∧r.data.length≤m∧r.num≤72057594037927936
theorem zDZ (m:Nat):Small m Sto.Rec.free:=⟨Nat.zero_le _,Nat.zero_le _,Nat.zero_le _⟩
theorem zH3 (D:zA) (room i:Nat):Small (room*32) (readR D room i).1:=by
 unfold readR
 split
 · exact zDZ _
 · split
   · exact zDZ _
   · split
     · rename_i r h
       have:=zLO h
       rw [zBn] at this
       exact this
     · exact zDZ _
theorem zDK (room:Nat) (D:zA):∀ k,∀ r∈(readAll room D k).1,Small (room*32) r
 | 0,r,h=>by simp [readAll] at h
 | k+1,r,h=>by
   have ih:=zDK room D k
   rw [readAll] at h
   simp only at h
   split at h
   · exact ih r h
   · split at h
     · exact ih r h
     · rcases List.mem_append.1 h with h | h
       · exact ih r h
       · simp only [List.mem_singleton] at h
         subst h
         exact zH3 _ _ _
theorem zBm (room:Nat) (D:zA):∀ k,(readAll room D k).2.2.n=D.n
 | 0=>rfl
 | k+1=>by
   have ih:=zBm room D k
   rw [readAll]
   simp only
   split
   · exact ih
   · split
     · simp only
       split
       · exact (zA.wr_n _ _ _).trans ih
       · exact ih
     · simp only
       split
       · exact (zA.wr_n _ _ _).trans ih
       · exact ih
end Go.Mem
end
section
namespace Go.Proofs.YtdlkghdfkjdajaaGreatDoor
open Go Go.RowKit Go.Mem Gf
attribute [local go_sem ↓] Go.wp_at_zero Go.wp_at_succ
end Go.Proofs.YtdlkghdfkjdajaaGreatDoor
end
section
namespace Sto
theorem ByteArray.toList_inj' {a b:ByteArray} (h:a.toList=b.toList):a=b:=by
 rw [Go.ByteArray.toList_eq,Go.ByteArray.toList_eq] at h
 exact ByteArray.ext (Array.toList_inj.mp h)
def At (l:List Rec) (name:ByteArray) (k:Nat) (r:Rec):Prop:=l[k]?=some r∧r.is=true∧r.name=name
theorem At.eq {l:List Rec} {name:ByteArray} {k:Nat} {r r':Rec} (h:At l name k r) (h':At l name k r'):r=r':=by
 have:=h.1.symm.trans h'.1
 cases this;rfl
theorem At.lt {l:List Rec} {name:ByteArray} {k:Nat} {r:Rec} (h:At l name k r):k < l.length:=by
 rcases Nat.lt_or_ge k l.length with h' | h'
 · exact h'
 · have:=h.1;rw [List.getElem?_eq_none h'] at this;cases this
theorem zCH {a b:ByteArray}:((a.toList == b.toList)=true)↔a=b:=⟨fun h=>ByteArray.toList_inj' (by simpa using h),fun h=>by rw [h];simp⟩
def Top (l:List Rec) (name:ByteArray) (n k:Nat):Prop:=∃ r,k < n∧At l name k r∧∀ j r',j < n→At l name j r'→(j < k→r'.num < r.num)∧r'.num≤r.num
theorem zAB (l:List Rec) (name:ByteArray):∀ n,(∀ k,best l name n=some k→Top l name n k)∧(best l name n=none→∀ j r,j < n→¬ At l name j r)
 | 0=>⟨fun k h=>by simp [best] at h,fun _ j r h=>by omega⟩
 | n+1=>by
   obtain ⟨i1,i2⟩:=zAB l name n
   cases hn:l[n]? with
   | none =>
     have e:best l name (n+1)=best l name n:=by simp only [best,hn]
     have hno:∀ r,¬ At l name n r:=fun r h=>by have:=h.1;rw [hn] at this;cases this
     refine ⟨fun k h=>?_,fun h j r hj ha=>?_⟩
     · rw [e] at h
       obtain ⟨r,a,b,c⟩:=i1 k h
       refine ⟨r,by omega,b,fun j r' hj ha=>?_⟩
       rcases Nat.lt_or_ge j n with h' | h'
       · exact c j r' h' ha
       · obtain rfl:j=n:=by omega
         exact absurd ha (hno r')
     · rw [e] at h
       rcases Nat.lt_or_ge j n with h' | h'
       · exact i2 h j r h' ha
       · obtain rfl:j=n:=by omega
         exact hno r ha
   | some r =>
     by_cases hc:r.is=true∧(r.name.toList == name.toList)=true∧(∀ j,best l name n=some j→(l.getD j Rec.free).num < r.num)
     · have e:best l name (n+1)=some n:=by simp only [best,hn];rw [if_pos hc]
       have hat:At l name n r:=⟨hn,hc.1,zCH.1 hc.2.1⟩
       refine ⟨fun k h=>?_,fun h=>by rw [e] at h;cases h⟩
       rw [e] at h;cases h
       refine ⟨r,by omega,hat,fun j r' hj ha=>?_⟩
       rcases Nat.lt_or_ge j n with h' | h'
       · cases hb:best l name n with
         | none=>exact absurd ha (i2 hb j r' h')
         | some k =>
           obtain ⟨rk,a,b,c⟩:=i1 k hb
           have h2:=(c j r' h' ha).2
           have h3:=hc.2.2 k hb
           rw [List.getD_eq_getElem?_getD,b.1] at h3
           have h3:rk.num < r.num:=h3
           exact ⟨fun _=>by omega,by omega⟩
       · obtain rfl:j=n:=by omega
         have:=hat.eq ha
         subst this
         exact ⟨fun h=>by omega,Nat.le_refl _⟩
     · have e:best l name (n+1)=best l name n:=by simp only [best,hn];rw [if_neg hc]
       refine ⟨fun k h=>?_,fun h j r' hj ha=>?_⟩
       · rw [e] at h
         obtain ⟨rk,a,b,c⟩:=i1 k h
         refine ⟨rk,by omega,b,fun j r' hj ha=>?_⟩
         rcases Nat.lt_or_ge j n with h' | h'
         · exact c j r' h' ha
         · obtain rfl:j=n:=by omega
           have hr:r=r':=by have:=ha.1;rw [hn] at this;cases this;rfl
           subst hr
           refine ⟨fun h'=>by omega,?_⟩
           rcases Nat.lt_or_ge rk.num r.num with hlt | hge
           · exfalso
             refine hc ⟨ha.2.1,zCH.2 ha.2.2,fun j' hj'=>?_⟩
             rw [h] at hj';cases hj'
             rw [List.getD_eq_getElem?_getD,b.1]
             exact hlt
           · exact hge
       · rw [e] at h
         rcases Nat.lt_or_ge j n with h' | h'
         · exact i2 h j r' h' ha
         · obtain rfl:j=n:=by omega
           have hr:r=r':=by have:=ha.1;rw [hn] at this;cases this;rfl
           subst hr
           exact hc ⟨ha.2.1,zCH.2 ha.2.2,fun j' hj'=>by rw [h] at hj';cases hj'⟩
theorem zDb {l:List Rec} {name:ByteArray} {n k:Nat} (h:Top l name n k):best l name n=some k:=by
 obtain ⟨r,a,b,c⟩:=h
 cases hb:best l name n with
 | none=>exact absurd b ((zAB l name n).2 hb k r a)
 | some k' =>
   obtain ⟨r',a',b',c'⟩:=(zAB l name n).1 k' hb
   have h1:=c k' r' a' b'
   have h2:=c' k r a b
   rcases Nat.lt_trichotomy k k' with h | h | h
   · have:=h2.1 h;omega
   · rw [h]
   · have:=h1.1 h;omega
theorem zGS {l:List Rec} {name:ByteArray} {n:Nat} (h:∀ j r,¬ At l name j r):best l name n=none:=by
 cases hb:best l name n with
 | none=>rfl
 | some k =>
   obtain ⟨r,_,b,_⟩:=(zAB l name n).1 k hb
   exact absurd b (h k r)
def look (l:List Rec) (name:ByteArray):Option (List UInt8):=(best l name l.length).map fun k=>(l.getD k Rec.free).data
def zAq (l l':List Rec):Prop:=l'.length=l.length∧∀ i,l'[i]?=l[i]?∨∃ r,l[i]?=some r∧r.is=true∧best l r.name l.length≠some i∧l'[i]?=some Rec.free
theorem zAq.refl (l:List Rec):zAq l l:=⟨rfl,fun _=>.inl rfl⟩
theorem zAq.get {l l':List Rec} (h:zAq l l') {name:ByteArray} {k:Nat} (hb:best l name l.length=some k):l'[k]?=l[k]?:=by
 obtain ⟨r,_,b,_⟩:=(zAB l name l.length).1 k hb
 rcases h.2 k with h | ⟨r',h1,h2,h3,h4⟩
 · exact h
 · have:r=r':=by have:=b.1.symm.trans h1;cases this;rfl
   subst this
   rw [b.2.2] at h3
   exact absurd hb h3
theorem zAq.back {l l':List Rec} (h:zAq l l') {name:ByteArray} {k:Nat} {r:Rec} (ha:At l' name k r):At l name k r:=by
 rcases h.2 k with h | ⟨r',h1,h2,h3,h4⟩
 · exact ⟨h.symm.trans ha.1,ha.2⟩
 · have:=h4.symm.trans ha.1
   cases this
   have:=ha.2.1
   simp [Rec.free] at this
theorem zAq.best {l l':List Rec} (h:zAq l l') (name:ByteArray):Sto.best l' name l'.length=Sto.best l name l.length:=by
 cases hb:Sto.best l name l.length with
 | none=>exact zGS fun j r ha=>(zAB l name l.length).2 hb j r (h.back ha).lt (h.back ha)
 | some k =>
   have hg:=h.get hb
   obtain ⟨r,a,b,c⟩:=(zAB l name l.length).1 k hb
   exact zDb ⟨r,by rw [h.1];exact a,⟨hg.trans b.1,b.2⟩,fun j r' hj ha=>c j r' (by rw [← h.1];exact hj) (h.back ha)⟩
theorem zAq.look {l l':List Rec} (h:zAq l l') (name:ByteArray):Sto.look l' name=Sto.look l name:=by
 unfold Sto.look
 rw [h.best]
 cases hb:Sto.best l name l.length with
 | none=>rfl
 | some k =>
   simp only [Option.map_some]
   rw [List.getD_eq_getElem?_getD,List.getD_eq_getElem?_getD,h.get hb]
theorem zAq.trans {l l' l'':List Rec} (h:zAq l l') (h':zAq l' l''):zAq l l'':=by
 refine ⟨h'.1.trans h.1,fun i=>?_⟩
 rcases h'.2 i with h1 | ⟨r,h1,h2,h3,h4⟩
 · rcases h.2 i with h5 | ⟨r,h5,h6,h7,h8⟩
   · exact .inl (h1.trans h5)
   · exact .inr ⟨r,h5,h6,h7,h1.trans h8⟩
 · rcases h.2 i with h5 | ⟨r',h5,h6,h7,h8⟩
   · exact .inr ⟨r,h5.symm.trans h1,h2,by rw [← h.best];exact h3,h4⟩
   · exact .inr ⟨r',h5,h6,h7,h4⟩
theorem zAq.step {l:List Rec} {i:Nat} {r:Rec} (hr:l[i]?=some r) (his:r.is=true) (hb:Sto.best l r.name l.length≠some i):zAq l (l.set i Rec.free):=by
 have hi:i < l.length:=(At.lt ⟨hr,his,rfl⟩:i < l.length)
 refine ⟨List.length_set,fun j=>?_⟩
 by_cases e:i=j
 · subst e
   exact .inr ⟨r,hr,his,hb,by simp [hi]⟩
 · exact .inl (by rw [List.getElem?_set_ne e])
def Uniq (l:List Rec):Prop:=∀ name i j r r',At l name i r→At l name j r'→i=j
theorem Uniq.is {l:List Rec} (h:Uniq l) {name:ByteArray} {k:Nat} {r:Rec} (ha:At l name k r):Sto.best l name l.length=some k :=
 zDb ⟨r,ha.lt,ha,fun j r' hj ha'=>by
  have e:=h name j k r' r ha' ha
  subst e
  have:=ha.eq ha'
  subst this
  exact ⟨fun h=>by omega,Nat.le_refl _⟩⟩
theorem zDx {l:List Rec} (h:∀ i r,l[i]?=some r→r.is=true→Sto.best l r.name l.length=some i):Uniq l:=by
 intro name i j r r' h1 h2
 have e1:=h i r h1.1 h1.2.1
 have e2:=h j r' h2.1 h2.2.1
 rw [h1.2.2] at e1
 rw [h2.2.2,e1] at e2
 cases e2;rfl
theorem at_set {l:List Rec} {t:Nat} (ht:t < l.length) {name:ByteArray} {r r':Rec} {j:Nat} (h:At (l.set t r) name j r'):(j=t∧r'=r)∨(j≠t∧At l name j r'):=by
 by_cases e:t=j
 · subst e
   have:=h.1
   rw [List.getElem?_set_self ht] at this
   cases this
   exact .inl ⟨rfl,rfl⟩
 · refine .inr ⟨fun h=>e h.symm,?_,h.2⟩
   have:=h.1
   rw [List.getElem?_set_ne e] at this
   exact this
theorem set_at {l:List Rec} {t:Nat} {name:ByteArray} {r r':Rec} {j:Nat} (h:At l name j r') (e:t≠j):At (l.set t r) name j r':=⟨by rw [List.getElem?_set_ne e];exact h.1,h.2⟩
def zA8 (l:List Rec) (name:ByteArray):Nat:=match best l name l.length with
 | none=>1
 | some k=>(l.getD k Rec.free).num+1
theorem zJu {l:List Rec} {t:Nat} (ht:t < l.length) (name:ByteArray) (data:List UInt8):best (l.set t ⟨true,name,zA8 l name,data⟩) name (l.set t ⟨true,name,zA8 l name,data⟩).length=some t:=by
 refine zDb ⟨⟨true,name,zA8 l name,data⟩,by rw [List.length_set];exact ht,⟨by rw [List.getElem?_set_self ht],rfl,rfl⟩,fun j r' hj ha=>?_⟩
 rcases at_set ht ha with ⟨rfl,rfl⟩ | ⟨hne,ha⟩
 · exact ⟨fun h=>by omega,Nat.le_refl _⟩
 · cases hb:best l name l.length with
   | none=>exact absurd ha ((zAB l name l.length).2 hb j r' ha.lt)
   | some k =>
     obtain ⟨rk,a,b,c⟩:=(zAB l name l.length).1 k hb
     have h1:=(c j r' ha.lt ha).2
     have h2:zA8 l name=rk.num+1:=by
      unfold zA8;rw [hb]
      simp only
      rw [List.getD_eq_getElem?_getD,b.1];rfl
     simp only [h2]
     exact ⟨fun _=>by omega,by omega⟩
theorem zKR {l:List Rec} {t:Nat} (ht:t < l.length) {r0 r:Rec} (h0:l[t]?=some r0) (hf:r0.is=false) {name:ByteArray} (hn:r.is=true→r.name≠name):best (l.set t r) name (l.set t r).length=best l name l.length:=by
 have back:∀ {j r'},At (l.set t r) name j r'→At l name j r':=fun {j r'} h=>by
  rcases at_set ht h with ⟨rfl,rfl⟩ | ⟨_,h'⟩
  · exact absurd h.2.2 (hn h.2.1)
  · exact h'
 have forth:∀ {j r'},At l name j r'→At (l.set t r) name j r':=fun {j r'} h=>set_at h (fun e=>by subst e;have:=h.1;rw [h0] at this;cases this;exact absurd (h.2.1.symm.trans hf) (by simp))
 cases hb:best l name l.length with
 | none=>exact zGS fun j r' ha=>(zAB l name l.length).2 hb j r' (back ha).lt (back ha)
 | some k =>
   obtain ⟨rk,a,b,c⟩:=(zAB l name l.length).1 k hb
   exact zDb ⟨rk,by rw [List.length_set];exact a,forth b,fun j r' hj ha=>c j r' (back ha).lt (back ha)⟩
theorem zLB {l:List Rec} {t:Nat} (ht:t < l.length) (name:ByteArray) (data:List UInt8):look (l.set t ⟨true,name,zA8 l name,data⟩) name=some data:=by
 unfold look
 rw [zJu ht]
 simp [List.getD_eq_getElem?_getD,ht]
theorem zIy {l:List Rec} {t:Nat} (ht:t < l.length) {r0 r:Rec} (h0:l[t]?=some r0) (hf:r0.is=false) {name:ByteArray} (hn:r.is=true→r.name≠name):look (l.set t r) name=look l name:=by
 unfold look
 rw [zKR ht h0 hf hn]
 cases hb:best l name l.length with
 | none=>rfl
 | some k =>
   obtain ⟨rk,a,b,c⟩:=(zAB l name l.length).1 k hb
   have e:t≠k:=fun e=>by subst e;have:=b.1;rw [h0] at this;cases this;exact absurd (b.2.1.symm.trans hf) (by simp)
   simp only [Option.map_some]
   rw [List.getD_eq_getElem?_getD,List.getD_eq_getElem?_getD,List.getElem?_set_ne e]
theorem Uniq.put {l:List Rec} (h:Uniq l) {t:Nat} (ht:t < l.length) {name:ByteArray} (hb:best l name l.length=none) (num:Nat) (data:List UInt8):Uniq (l.set t ⟨true,name,num,data⟩):=by
 intro nm i j r r' h1 h2
 rcases at_set ht h1 with ⟨rfl,rfl⟩ | ⟨n1,g1⟩
 · rcases at_set ht h2 with ⟨rfl,rfl⟩ | ⟨n2,g2⟩
   · rfl
   · have:=h1.2.2
     simp only at this
     rw [← this] at g2
     exact absurd g2 ((zAB l name l.length).2 hb j r' g2.lt)
 · rcases at_set ht h2 with ⟨rfl,rfl⟩ | ⟨n2,g2⟩
   · have:=h2.2.2
     simp only at this
     rw [← this] at g1
     exact absurd g1 ((zAB l name l.length).2 hb i r g1.lt)
   · exact h nm i j r r' g1 g2
theorem Uniq.swap {l:List Rec} (h:Uniq l) {t k:Nat} (ht:t < l.length) {name:ByteArray} (hb:best l name l.length=some k) (num:Nat) (data:List UInt8):Uniq ((l.set t ⟨true,name,num,data⟩).set k Rec.free):=by
 obtain ⟨rk,a,b,c⟩:=(zAB l name l.length).1 k hb
 have f:∀ {nm i r},At ((l.set t ⟨true,name,num,data⟩).set k Rec.free) nm i r→i≠k∧At (l.set t ⟨true,name,num,data⟩) nm i r:=fun {nm i r} h=>by
  rcases at_set (by rw [List.length_set];exact a) h with ⟨_,e⟩ | h'
  · have:=h.2.1;rw [e] at this;simp [Rec.free] at this
  · exact h'
 intro nm i j r r' h1 h2
 obtain ⟨n1,g1⟩:=f h1
 obtain ⟨n2,g2⟩:=f h2
 rcases at_set ht g1 with ⟨rfl,rfl⟩ | ⟨m1,q1⟩
 · rcases at_set ht g2 with ⟨rfl,rfl⟩ | ⟨m2,q2⟩
   · rfl
   · have:=g1.2.2
     simp only at this
     rw [← this] at q2
     exact absurd (h name j k r' rk q2 b) n2
 · rcases at_set ht g2 with ⟨rfl,rfl⟩ | ⟨m2,q2⟩
   · have:=g2.2.2
     simp only at this
     rw [← this] at q1
     exact absurd (h name i k r rk q1 b) n1
   · exact h nm i j r r' q1 q2
theorem zKh {l:List Rec} {t k:Nat} (ht:t < l.length) {r0:Rec} (h0:l[t]?=some r0) (hf:r0.is=false) {name:ByteArray} (hb:best l name l.length=some k) (data:List UInt8) :
  zAq (l.set t ⟨true,name,zA8 l name,data⟩) ((l.set t ⟨true,name,zA8 l name,data⟩).set k Rec.free):=by
 obtain ⟨rk,a,b,c⟩:=(zAB l name l.length).1 k hb
 have e:t≠k:=fun e=>by subst e;have:=b.1;rw [h0] at this;cases this;exact absurd (b.2.1.symm.trans hf) (by simp)
 refine zAq.step (r:=rk) (by rw [List.getElem?_set_ne e];exact b.1) b.2.1 ?_
 rw [b.2.2,zJu ht]
 intro h
 cases h
 exact e rfl
end Sto
namespace Go.Mem
open Go Go.RowKit Gf Go.Proofs.YtdlkghdfkjdajaaGreatDoor
def Slot (D:zA) (room i:Nat) (r:Sto.Rec):Prop :=
 (r=Sto.Rec.free∧D.f (i*(room+1)*32)≠1)∨(r.is=true∧D.f (i*(room+1)*32)=1∧Sto.parse (zA5 D room i room)=some r)
def Holds (D:zA) (room:Nat) (l:List Sto.Rec):Prop:=D.n=l.length*(room+1)∧D.keep≤32∧∀ i r,l[i]?=some r→Slot D room i r
theorem zJA {D:zA} {room i:Nat} {r:Sto.Rec} (hd:D.dead=false) (h:Slot D room i r):readR D room i=(r,0,false):=by
 unfold readR
 rw [if_neg (by simp [hd])]
 rcases h with ⟨rfl,h⟩ | ⟨_,h1,h2⟩
 · rw [if_pos h]
 · rw [if_neg (by simp [h1]),h2]
theorem zB5 {D:zA} {room:Nat} {l:List Sto.Rec} (hd:D.dead=false) (h:Holds D room l):∀ k,k≤l.length→readAll room D k=(l.take k,0,D)
 | 0,_=>by simp [readAll]
 | k+1,hk=>by
   have ih:=zB5 hd h k (by omega)
   obtain ⟨r,hr⟩:∃ r,l[k]?=some r:=⟨l[k],by simp⟩
   have hq:=zJA hd (h.2.2 k r hr)
   rw [readAll,ih]
   simp only [ne_eq,not_true_eq_false,if_false,hq,Bool.false_eq_true,Prod.mk.injEq,and_true]
   rw [List.take_add_one,hr];rfl
theorem zG0 {D D':zA} {i:Nat} (h:∀ k,k < 32→D'.f (i*32+k)=D.f (i*32+k)):D'.sector i=D.sector i:=by
 unfold zA.sector zBw
 exact List.map_congr_left fun k hk=>h k (by simpa using hk)
theorem zEW {D D':zA} {room i:Nat}:∀ (m:Nat),(∀ j,(i*(room+1)+1)*32≤j→j < (i*(room+1)+1+m)*32→D'.f j=D.f j)→zA5 D' room i m=zA5 D room i m
 | 0,_=>rfl
 | m+1,h=>by
   rw [zA5,zA5,zEW m (fun j h1 h2=>h j h1 (by omega)),zG0 (fun k hk=>h _ (by omega) (by omega))]
theorem Slot.congr {D D':zA} {room i:Nat} {r:Sto.Rec} (h:Slot D room i r) (hf:∀ j,i*(room+1)*32≤j→j < (i*(room+1)+(room+1))*32→D'.f j=D.f j):Slot D' room i r:=by
 have h0:D'.f (i*(room+1)*32)=D.f (i*(room+1)*32):=hf _ (Nat.le_refl _) (by omega)
 have h1:=zEW (D:=D) (D':=D') (room:=room) (i:=i) room (fun j h1 h2=>hf j (by omega) (by omega))
 unfold Slot at h ⊢
 rw [h0,h1];exact h
theorem Slot.free {D:zA} {room i:Nat} (h:D.f (i*(room+1)*32)≠1):Slot D room i Sto.Rec.free:=.inl ⟨rfl,h⟩
theorem apart {i t m j x k:Nat} (hne:i≠t) (hx:x=t*m+k) (hk:k < m) (h1:i*m*32≤j) (h2:j < (i*m+m)*32):¬ (x*32≤j∧j < x*32+32):=by
 subst hx
 rcases Nat.lt_or_ge i t with h | h
 · have:(i+1)*m≤t*m:=Nat.mul_le_mul_right _ h
   rw [Nat.add_mul,Nat.one_mul] at this
   omega
 · have:(t+1)*m≤i*m:=Nat.mul_le_mul_right _ (by omega)
   rw [Nat.add_mul,Nat.one_mul] at this
   omega
theorem zL7 {D:zA} (hk:D.keep≤32) (x:Nat) (bs:List UInt8) {j:Nat} (h:¬ (x*32≤j∧j < x*32+32)):(D.write x bs).f j=D.f j:=by
 unfold zA.write
 split
 · simp only [zA.lay]
   rw [if_neg (by omega)]
 · simp only [zA.lay]
   rw [if_neg h]
theorem wr_f {D:zA} (hk:D.keep≤32) (x:Nat) (bs:List UInt8) {j:Nat} (h:¬ (x*32≤j∧j < x*32+32)):(D.wr (x:Int) bs).f j=D.f j:=by
 unfold zA.wr
 split
 · exact zL7 hk x bs h
 · rfl
theorem zJw (D:zA) (x:Int) (bs:List UInt8):(D.wr x bs).keep=D.keep:=by
 unfold zA.wr zA.write
 split
 · split <;> rfl
 · rfl
theorem zBK (D:zA) (x:Int) (bs:List UInt8):(D.wr x bs).stops=D.stops:=by
 unfold zA.wr zA.write
 split
 · split <;> rfl
 · rfl
theorem zFe {D:zA} (hd:D.dead=false) {x:Nat} (hx:x < D.n) {bs:List UInt8} (hl:bs.length≤32) :
  (D.wres (x:Int) bs.length=0∧(D.wr (x:Int) bs).dead=false∧(∀ k,k < 32→(D.wr (x:Int) bs).f (x*32+k)=bs.getD k 0)) ∨
  (D.stops=true∧D.cnt=0∧D.wres (x:Int) bs.length=8∧(D.wr (x:Int) bs).dead=true∧(∀ k,k < 32→(D.wr (x:Int) bs).f (x*32+k)=if k < D.keep then bs.getD k 0 else D.f (x*32+k))):=by
 have hm:=zA.may_yes hx
 have e1:D.wr (x:Int) bs=D.write x bs:=by
  unfold zA.wr
  rw [if_pos ⟨⟨hm,hl⟩,hd⟩];rfl
 have e2:D.wres (x:Int) bs.length=if D.stops=true∧D.cnt=0 then 8 else 0:=by
  unfold zA.wres
  rw [if_pos ⟨hm,hl⟩,if_neg (by simp [hd])]
 by_cases hs:D.stops=true∧D.cnt=0
 · have e3:D.write x bs={ D with f:=D.lay x bs D.keep,dead:=true }:=by unfold zA.write;rw [if_pos hs]
   refine .inr ⟨hs.1,hs.2,by rw [e2,if_pos hs],by rw [e1,e3],fun k hk=>?_⟩
   rw [e1,e3]
   show D.lay x bs D.keep (x*32+k)=_
   rw [zHp]
 · have e3:D.write x bs={ D with f:=D.lay x bs 32,cnt:=if D.stops then D.cnt - 1 else D.cnt,writes:=D.writes+1 }:=by unfold zA.write;rw [if_neg hs]
   refine .inl ⟨by rw [e2,if_neg hs],by rw [e1,e3];exact hd,fun k hk=>?_⟩
   rw [e1,e3]
   show D.lay x bs 32 (x*32+k)=_
   rw [zHp,if_pos hk]
theorem zJd {α:Type} {l:List α} {t:Nat} {r r':α} {i:Nat} (ht:t < l.length) (h:(l.set t r)[i]?=some r'):(i=t∧r'=r)∨(i≠t∧l[i]?=some r'):=by
 by_cases e:t=i
 · subst e
   rw [List.getElem?_set_self ht] at h
   cases h
   exact .inl ⟨rfl,rfl⟩
 · rw [List.getElem?_set_ne e] at h
   exact .inr ⟨fun h=>e h.symm,h⟩
def Off (D D':zA) (room t:Nat):Prop:=D'.n=D.n∧D'.keep=D.keep∧∀ i,i≠t→∀ j,i*(room+1)*32≤j→j < (i*(room+1)+(room+1))*32→D'.f j=D.f j
theorem Off.refl (D:zA) (room t:Nat):Off D D room t:=⟨rfl,rfl,fun _ _ _ _ _=>rfl⟩
theorem Off.trans {D D' D'':zA} {room t:Nat} (h:Off D D' room t) (h':Off D' D'' room t):Off D D'' room t:=⟨h'.1.trans h.1,h'.2.1.trans h.2.1,fun i hi j h1 h2=>(h'.2.2 i hi j h1 h2).trans (h.2.2 i hi j h1 h2)⟩
theorem Off.wr {D:zA} {room t k x:Nat} (hk:D.keep≤32) (hx:x=t*(room+1)+k) (hkr:k < room+1) (bs:List UInt8):Off D (D.wr (x:Int) bs) room t :=
 ⟨zA.wr_n _ _ _,zJw _ _ _,fun _ hi _ h1 h2=>wr_f hk x bs (apart hi hx hkr h1 h2)⟩
theorem Off.holds {D D':zA} {room t:Nat} {l:List Sto.Rec} (h:Off D D' room t) (hl:Holds D room l) (ht:t < l.length) {r:Sto.Rec} (hs:Slot D' room t r):Holds D' room (l.set t r):=by
 refine ⟨by rw [List.length_set];exact h.1.trans hl.1,h.2.1 ▸ hl.2.1,fun i r' hr=>?_⟩
 rcases zJd ht hr with ⟨rfl,rfl⟩ | ⟨hne,hr⟩
 · exact hs
 · exact (hl.2.2 i r' hr).congr (h.2.2 i hne)
theorem Holds.lt {D:zA} {room t k:Nat} {l:List Sto.Rec} (h:Holds D room l) (ht:t < l.length) (hk:k < room+1):t*(room+1)+k < D.n:=by
 have:(t+1)*(room+1)≤l.length*(room+1):=Nat.mul_le_mul_right _ ht
 rw [Nat.add_mul,Nat.one_mul] at this
 rw [h.1];omega
theorem zHX {s:St} {i:Nat} (hh:Holds s.disk s.room s.recs) (hd:s.disk.dead=false) (hs:s.dead=false) (hi:i < s.recs.length) :
  (s.freeE i=0∧(s.freeS i).dead=false∧(s.freeS i).disk.dead=false∧(s.freeS i).recs=s.recs.set i Sto.Rec.free∧Holds (s.freeS i).disk s.room (s.recs.set i Sto.Rec.free)) ∨
  (s.freeE i=8∧s.disk.stops=true∧s.disk.cnt=0∧(s.freeS i).dead=true∧(s.freeS i).disk.dead=true∧(s.freeS i).recs=s.recs∧(Holds (s.freeS i).disk s.room s.recs∨Holds (s.freeS i).disk s.room (s.recs.set i Sto.Rec.free))):=by
 obtain ⟨r,hr⟩:∃ r,s.recs[i]?=some r:=⟨s.recs[i],by simp⟩
 have hx:=hh.lt hi (k:=0) (Nat.succ_pos _)
 have hoff:=Off.wr (D:=s.disk) (room:=s.room) (t:=i) (k:=0) hh.2.1 rfl (Nat.succ_pos _) [0]
 rcases zFe hd (bs:=[0]) hx (by simp) with ⟨h1,h2,h3⟩ | ⟨h0,hc,h1,h2,h3⟩
 · simp only [Nat.add_zero] at h1 h2 h3 hoff
   have hE:s.freeE i=0:=h1
   refine .inl ⟨hE,by simp [St.freeS,hE,hs],h2,by simp [St.freeS,hE],?_⟩
   refine hoff.holds hh hi (Slot.free fun he=>?_)
   have:=(h3 0 (by omega)).symm.trans he
   exact absurd this (by decide)
 · simp only [Nat.add_zero] at h1 h2 h3 hoff
   have hE:s.freeE i=8:=h1
   refine .inr ⟨hE,h0,hc,by simp [St.freeS,hE],h2,by simp [St.freeS,hE],?_⟩
   by_cases hk:0 < s.disk.keep
   · refine .inr (hoff.holds hh hi (Slot.free fun he=>?_))
     have:=h3 0 (by omega)
     rw [if_pos hk] at this
     exact absurd (this.symm.trans he) (by decide)
   · refine .inl ?_
     have he:∀ k,k < 32→(s.disk.wr ((i*(s.room+1):Nat):Int) [0]).f (i*(s.room+1)*32+k)=s.disk.f (i*(s.room+1)*32+k):=fun k hk'=>by rw [h3 k hk',if_neg (by omega)]
     refine ⟨hoff.1.trans hh.1,hoff.2.1 ▸ hh.2.1,fun j r' hr'=>(hh.2.2 j r' hr').congr fun q h1 h2=>?_⟩
     by_cases hq:i*(s.room+1)*32≤q∧q < i*(s.room+1)*32+32
     · have:=he (q - i*(s.room+1)*32) (by omega)
       rw [show i*(s.room+1)*32+(q - i*(s.room+1)*32)=q from by omega] at this
       exact this
     · exact wr_f hh.2.1 _ _ hq
theorem zEt {room t:Nat}:∀ (n:Nat) (s:St) (k:Nat) (b:List UInt8),s.room=room→s.disk.dead=false→s.dead=false→s.disk.keep≤32→b.length≤n*32→k+n≤room→t*(room+1)+room < s.disk.n →
  ∃ e s',St.chunks (t*(room+1)) n s k b=(e,s')∧s'.recs=s.recs∧s'.room=s.room∧Off s.disk s'.disk room t∧s'.disk.stops=s.disk.stops∧(∀ j,(j < (t*(room+1)+1+k)*32)→s'.disk.f j=s.disk.f j) ∧
    ((e=0∧s'.dead=false∧s'.disk.dead=false∧∀ j,j < b.length→s'.disk.f ((t*(room+1)+1+k)*32+j)=b.getD j 0)∨(e=8∧s'.dead=true∧s'.disk.dead=true∧s.disk.stops=true))
 | 0,s,k,b,h1,h2,h3,h4,h5,h6,h7=>⟨0,s,rfl,rfl,rfl,Off.refl _ _ _,rfl,fun _ _=>rfl,.inl ⟨rfl,h3,h2,fun j hj=>by omega⟩⟩
 | n+1,s,k,b,h1,h2,h3,h4,h5,h6,h7=>by
   by_cases hb:b=[]
   · subst hb
     exact ⟨0,s,by simp [St.chunks],rfl,rfl,Off.refl _ _ _,rfl,fun _ _=>rfl,.inl ⟨rfl,h3,h2,fun j hj=>by simp at hj⟩⟩
   · have hx:t*(room+1)+1+k < s.disk.n:=by omega
     have hoff:Off s.disk (s.disk.wr ((t*(room+1)+1+k:Nat):Int) (b.take 32)) room t:=Off.wr h4 (k:=1+k) (by omega) (by omega) _
     have hlow:∀ j,j < (t*(room+1)+1+k)*32→(s.disk.wr ((t*(room+1)+1+k:Nat):Int) (b.take 32)).f j=s.disk.f j:=fun j hj=>wr_f h4 _ _ (by omega)
     rcases zFe h2 hx (bs:=b.take 32) (by rw [List.length_take];omega) with ⟨q1,q2,q3⟩ | ⟨q0,qc,q1,q2,q3⟩
     · have hE:s.writeE (t*(room+1)+1+k) (b.take 32)=0:=q1
       obtain ⟨e,s',i1,i2,i3,i4,i5,i6,i7⟩:=zEt n (s.writeS (t*(room+1)+1+k) (b.take 32)) (k+1) (b.drop 32) h1 q2 (by simp [St.writeS,hE,h3]) (Nat.le_trans (Nat.le_of_eq (zJw _ _ _)) h4) (by rw [List.length_drop];omega) (by omega) (by rw [show (s.writeS (t*(room+1)+1+k) (b.take 32)).disk.n=s.disk.n from zA.wr_n _ _ _];exact h7)
       refine ⟨e,s',?_,i2,i3,hoff.trans i4,i5.trans (zBK _ _ _),fun j hj=>(i6 j (by omega)).trans (hlow j hj),?_⟩
       · rw [St.chunks,if_neg hb,if_neg (by simp [hE])]
         exact i1
       · rcases i7 with ⟨j1,j2,j3,j4⟩ | ⟨j1,j2,j3,j4⟩
         · refine .inl ⟨j1,j2,j3,fun j hj=>?_⟩
           rcases Nat.lt_or_ge j 32 with hj32 | hj32
           · rw [i6 _ (by omega)]
             have:=q3 j hj32
             rw [show (s.writeS (t*(room+1)+1+k) (b.take 32)).disk=s.disk.wr ((t*(room+1)+1+k:Nat):Int) (b.take 32) from rfl,this]
             simp [List.getD_eq_getElem?_getD,hj32]
           · have:=j4 (j - 32) (by rw [List.length_drop];omega)
             rw [show (t*(room+1)+1+(k+1))*32+(j - 32)=(t*(room+1)+1+k)*32+j from by omega] at this
             rw [this]
             simp [List.getD_eq_getElem?_getD,List.getElem?_drop,show 32+(j - 32)=j from by omega]
         · exact .inr ⟨j1,j2,j3,by rw [← j4];exact (zBK _ _ _).symm⟩
     · have hE:s.writeE (t*(room+1)+1+k) (b.take 32)=8:=q1
       refine ⟨8,s.writeS (t*(room+1)+1+k) (b.take 32),?_,rfl,rfl,hoff,zBK _ _ _,hlow,.inr ⟨rfl,by simp [St.writeS,hE],q2,q0⟩⟩
       rw [St.chunks,if_neg hb,if_pos (by simp [hE]),hE]
end Go.Mem
end
section
namespace Go.Mem
open Go Go.RowKit Gf Go.Proofs.YtdlkghdfkjdajaaGreatDoor
theorem zI5 {name:ByteArray} {num:Nat} {data rest:List UInt8} (h1:name.size≤16384) (h2:data.length≤16384) (hn:num < 4294967296):Sto.parse (Sto.text name num data++rest)=some ⟨true,name,num,data⟩:=by
 have e:Sto.text name num data++rest=Cod.net name.data.toList++(Cod.net (Cod.be 4 num)++(Cod.net data++rest)):=by simp [Sto.text,Cod.zAU,List.append_assoc]
 have t:Sto.takeN 3 (Sto.text name num data++rest)=some ([name.data.toList,Cod.be 4 num,data],rest):=by
  rw [e]
  simp only [Sto.takeN,Cod.zCx name.data.toList (Cod.net (Cod.be 4 num)++(Cod.net data++rest)) (by simpa using h1),Cod.zCx (Cod.be 4 num) (Cod.net data++rest) (by rw [Cod.zt];omega),Cod.zCx data rest h2,List.nil_append,List.cons_append]
 unfold Sto.parse
 rw [t]
 simp only [List.getD_cons_zero,List.getD_cons_succ,Cod.zt,if_true,Cod.zGY 4 num hn]
theorem zGK (D:zA) (room i:Nat):∀ (m j:Nat),j < m*32→(zA5 D room i m)[j]?=some (D.f ((i*(room+1)+1)*32+j))
 | m+1,j,h=>by
   rw [zA5]
   rcases Nat.lt_or_ge j (m*32) with hj | hj
   · rw [List.getElem?_append_left (by rw [zBn];exact hj)]
     exact zGK D room i m j hj
   · rw [List.getElem?_append_right (by rw [zBn];exact hj),zBn,zFV _ _ _ (by omega)]
     congr 2
     omega
theorem zJK {D:zA} {room i:Nat} {b:List UInt8} (hl:b.length≤room*32) (h:∀ j,j < b.length→D.f ((i*(room+1)+1)*32+j)=b.getD j 0):∃ rest,zA5 D room i room=b++rest:=by
 refine ⟨(zA5 D room i room).drop b.length,?_⟩
 have:(zA5 D room i room).take b.length=b:=by
  apply List.ext_getElem?
  intro j
  rw [List.getElem?_take]
  split
  · rename_i hj
    rw [zGK _ _ _ _ _ (by omega),h j hj,List.getD_eq_getElem?_getD,List.getElem?_eq_getElem hj];rfl
  · rename_i hj
    rw [List.getElem?_eq_none (by omega)]
 conv=>lhs;rw [← List.take_append_drop b.length (zA5 D room i room)]
 rw [this]
theorem zIp {room:Nat} {name:ByteArray} {data:List UInt8} (h:zAH room name data=true):name.size≤16384∧data.length≤16384:=by
 unfold zAH at h
 simp only [Bool.and_eq_true,decide_eq_true_eq] at h
 exact ⟨h.1,h.2.1⟩
def Bnd (m:Nat) (l:List Sto.Rec):Prop:=∀ r∈l,r.num≤m
theorem Bnd.set {m:Nat} {l:List Sto.Rec} (h:Bnd m l) {m':Nat} (hm:m≤m') (t:Nat) {r:Sto.Rec} (hr:r.num≤m'):Bnd m' (l.set t r):=fun r' h'=>by
 rcases List.mem_or_eq_of_mem_set h' with h' | rfl
 · exact Nat.le_trans (h r' h') hm
 · exact hr
theorem Bnd.next {m:Nat} {l:List Sto.Rec} (h:Bnd m l) (name:ByteArray):Sto.zA8 l name≤m+1:=by
 unfold Sto.zA8
 split
 · omega
 · rename_i k hb
   obtain ⟨r,_,b,_⟩:=(Sto.zAB l name l.length).1 k hb
   have:=h r (List.mem_of_getElem? b.1)
   rw [List.getD_eq_getElem?_getD,b.1]
   simpa using this
theorem Bnd.thin {m:Nat} {l l':List Sto.Rec} (h:Bnd m l) (ht:Sto.zAq l l'):Bnd m l':=fun r hr=>by
 obtain ⟨i,hi⟩:=List.getElem?_of_mem hr
 rcases ht.2 i with h1 | ⟨_,_,_,_,h1⟩
 · exact h r (List.mem_of_getElem? (h1.symm.trans hi))
 · rw [h1] at hi;cases hi;exact Nat.zero_le _
theorem zC9 {l:List Sto.Rec} (h:Sto.slot l≠l.length):Sto.slot l < l.length:=by have:=zEh l;omega
def zDC (l:List Sto.Rec) (name:ByteArray) (data:List UInt8):List Sto.Rec:=l.set (Sto.slot l) ⟨true,name,Sto.zA8 l name,data⟩
def zEd (l:List Sto.Rec) (name:ByteArray) (data:List UInt8):List Sto.Rec:=match Sto.best l name l.length with
 | none=>zDC l name data
 | some k=>(zDC l name data).set k Sto.Rec.free
theorem zC3 {l:List Sto.Rec} (ht:Sto.slot l < l.length) (name:ByteArray) (data:List UInt8):Sto.zAq (zDC l name data) (zEd l name data):=by
 have h0:l[Sto.slot l]?=some l[Sto.slot l]:=by simp [ht]
 unfold zEd
 split
 · exact Sto.zAq.refl _
 · rename_i k hb
   exact Sto.zKh ht h0 (zDv h0) hb data
theorem zEB {l:List Sto.Rec} (ht:Sto.slot l < l.length) (name:ByteArray) (data:List UInt8) (nm:ByteArray):Sto.look (zDC l name data) nm=if nm=name then some data else Sto.look l nm:=by
 have h0:l[Sto.slot l]?=some l[Sto.slot l]:=by simp [ht]
 by_cases e:nm=name
 · rw [if_pos e,e]
   exact Sto.zLB ht name data
 · rw [if_neg e]
   exact Sto.zIy ht h0 (zDv h0) (fun _ h=>e h.symm)
theorem zGF {l:List Sto.Rec} (hu:Sto.Uniq l) (ht:Sto.slot l < l.length) (name:ByteArray) (data:List UInt8):Sto.Uniq (zEd l name data):=by
 unfold zEd
 split
 · rename_i hb
   exact hu.put ht hb _ _
 · rename_i k hb
   exact hu.swap ht hb _ _
theorem zJh {s:St} {m:Nat} (hh:Holds s.disk s.room s.recs) (hd:s.disk.dead=false) (hs:s.dead=false) (hm:Bnd m s.recs) (hm2:m < 4294967295) (name:ByteArray) (data:List UInt8) :
  (zAH s.room name data=false∧zk s name data=(1,s))∨(zAH s.room name data=true∧Sto.slot s.recs=s.recs.length∧zk s name data=(3,s)) ∨
  (zAH s.room name data=true∧Sto.slot s.recs < s.recs.length∧(zk s name data).2.room=s.room∧(zk s name data).2.disk.stops=s.disk.stops ∧ 
   (((zk s name data).1=0∧(zk s name data).2.dead=false∧(zk s name data).2.disk.dead=false∧(zk s name data).2.recs=zEd s.recs name data∧Holds (zk s name data).2.disk s.room (zEd s.recs name data)) ∨
    ((zk s name data).1=8∧s.disk.stops=true∧(zk s name data).2.dead=true∧(zk s name data).2.disk.dead=true∧∃ l,Holds (zk s name data).2.disk s.room l∧(l=s.recs∨Sto.zAq (zDC s.recs name data) l)))):=by
 by_cases hf:zAH s.room name data=true
 rotate_left
 · have hf':zAH s.room name data=false:=by simpa using hf
   exact .inl ⟨hf',by unfold zk;rw [if_neg (by simp [hs]),if_pos hf']⟩
 refine .inr ?_
 by_cases ht:Sto.slot s.recs=s.recs.length
 · exact .inl ⟨hf,ht,by unfold zk;rw [if_neg (by simp [hs]),if_neg (by simp [hf]),if_pos ht]⟩
 refine .inr ⟨hf,zC9 ht,?_⟩
 have htl:=zC9 ht
 have hr0:s.recs[Sto.slot s.recs]?=some s.recs[Sto.slot s.recs]:=by simp [htl]
 obtain ⟨hn1,hd1⟩:=zIp hf
 have hnum:s.num name=Sto.zA8 s.recs name:=rfl
 have htx:=zEw hf (s.num name)
 have hpn:s.num name < 4294967296:=by have:=hm.next name;rw [hnum];omega
 obtain ⟨e,s1,c0,c1,c2,c3,c4,c5,c6⟩:=zEt (room:=s.room) (t:=Sto.slot s.recs) s.room s 0 (Sto.text name (s.num name) data) rfl hd hs hh.2.1 htx (by omega) (hh.lt htl (by omega))
 have hfree:s.recs[Sto.slot s.recs]=Sto.Rec.free∧s.disk.f (Sto.slot s.recs*(s.room+1)*32)≠1:=by
  rcases hh.2.2 _ _ hr0 with h | h
  · exact h
  · have:=zDv hr0;rw [h.1] at this;cases this
 have hst1:s1.disk.f (Sto.slot s.recs*(s.room+1)*32)=s.disk.f (Sto.slot s.recs*(s.room+1)*32):=c5 _ (by omega)
 have hold:Holds s1.disk s.room s.recs:=by
  have:=c3.holds hh htl (r:=Sto.Rec.free) (Slot.free (by rw [hst1];exact hfree.2))
  rwa [show s.recs.set (Sto.slot s.recs) Sto.Rec.free=s.recs from by rw [← hfree.1];exact List.set_getElem_self htl] at this
 rcases c6 with ⟨rfl,g1,g2,g3⟩ | ⟨rfl,g1,g2,g3⟩
 rotate_left
 · have e1:zk s name data=(8,s1):=by
    unfold zk
    rw [if_neg (by simp [hs]),if_neg (by simp [hf]),if_neg ht,c0]
    rfl
   rw [e1]
   exact ⟨c2,c4,.inr ⟨rfl,g3,g1,g2,s.recs,hold,.inl rfl⟩⟩
 have e1:zk s name data=if s1.writeE (Sto.slot s.recs*(s.room+1)) [1]≠0 then (s1.writeE (Sto.slot s.recs*(s.room+1)) [1],s1.writeS (Sto.slot s.recs*(s.room+1)) [1]) else ((s1.writeS (Sto.slot s.recs*(s.room+1)) [1]).laid (Sto.slot s.recs) ⟨true,name,s.num name,data⟩).done (Sto.best s.recs name s.recs.length):=by
  unfold zk
  rw [if_neg (by simp [hs]),if_neg (by simp [hf]),if_neg ht,c0]
  rfl
 have hx:=hold.lt htl (k:=0) (Nat.succ_pos _)
 have hoff:Off s1.disk (s1.disk.wr ((Sto.slot s.recs*(s.room+1):Nat):Int) [1]) s.room (Sto.slot s.recs):=Off.wr (k:=0) hold.2.1 rfl (Nat.succ_pos _) [1]
 have htext:∀ D':zA,(∀ j,(Sto.slot s.recs*(s.room+1)+1)*32≤j→j < (Sto.slot s.recs*(s.room+1)+1+s.room)*32→D'.f j=s1.disk.f j)→D'.f (Sto.slot s.recs*(s.room+1)*32)=1→Slot D' s.room (Sto.slot s.recs) ⟨true,name,s.num name,data⟩:=fun D' h1 h2=>by
  refine .inr ⟨rfl,h2,?_⟩
  obtain ⟨rest,hrest⟩:=zJK (D:=D') (room:=s.room) (i:=Sto.slot s.recs) htx (fun j hj=>(h1 _ (by omega) (by omega)).trans (g3 j hj))
  rw [hrest]
  exact zI5 hn1 hd1 hpn
 have hb1:∀ j,(Sto.slot s.recs*(s.room+1)+1)*32≤j→j < (Sto.slot s.recs*(s.room+1)+1+s.room)*32→(s1.disk.wr ((Sto.slot s.recs*(s.room+1):Nat):Int) [1]).f j=s1.disk.f j:=fun j h1 h2=>wr_f hold.2.1 _ _ (by omega)
 rcases zFe g2 (bs:=[1]) hx (by simp) with ⟨q1,q2,q3⟩ | ⟨q0,qc,q1,q2,q3⟩
 rotate_left
 · simp only [Nat.add_zero] at q1 q2 q3
   have hE:s1.writeE (Sto.slot s.recs*(s.room+1)) [1]=8:=q1
   rw [e1,hE,if_pos (by decide)]
   refine ⟨c2,(zBK _ _ _).trans c4,.inr ⟨rfl,c4 ▸ q0,by simp [St.writeS,hE],q2,?_⟩⟩
   by_cases hk:0 < s1.disk.keep
   · refine ⟨zDC s.recs name data,hoff.holds hold htl (htext _ hb1 ?_),.inr (Sto.zAq.refl _)⟩
     have:=q3 0 (by omega)
     rw [if_pos hk] at this
     exact this
   · refine ⟨s.recs,?_,.inl rfl⟩
     have:=hoff.holds hold htl (r:=Sto.Rec.free) (Slot.free (fun h1=>by
      have h2:=q3 0 (by omega)
      rw [if_neg hk] at h2
      exact hfree.2 (hst1.symm.trans (h2.symm.trans h1))))
     rwa [show s.recs.set (Sto.slot s.recs) Sto.Rec.free=s.recs from by rw [← hfree.1];exact List.set_getElem_self htl] at this
 simp only [Nat.add_zero] at q1 q2 q3
 have hE:s1.writeE (Sto.slot s.recs*(s.room+1)) [1]=0:=q1
 have hhp:Holds (s1.disk.wr ((Sto.slot s.recs*(s.room+1):Nat):Int) [1]) s.room (zDC s.recs name data):=hoff.holds hold htl (htext _ hb1 (q3 0 (by omega)))
 rw [e1,if_neg (by simp [hE])]
 cases hb:Sto.best s.recs name s.recs.length with
 | none =>
   have hF:zEd s.recs name data=zDC s.recs name data:=by unfold zEd;rw [hb]
   rw [hF]
   exact ⟨c2,(zBK _ _ _).trans c4,.inl ⟨rfl,by simp [St.done,St.laid,St.writeS,hE,g1],q2,by show s1.recs.set _ _=_;rw [c1];rfl,hhp⟩⟩
 | some k =>
   have hF:zEd s.recs name data=(zDC s.recs name data).set k Sto.Rec.free:=by unfold zEd;rw [hb]
   have hk:k < s.recs.length:=by obtain ⟨_,h,_⟩:=(Sto.zAB _ _ _).1 k hb;exact h
   obtain ⟨s2,hs2⟩:∃ s2,s2=(s1.writeS (Sto.slot s.recs*(s.room+1)) [1]).laid (Sto.slot s.recs) ⟨true,name,s.num name,data⟩:=⟨_,rfl⟩
   have r1:s2.recs=zDC s.recs name data:=by rw [hs2];show s1.recs.set _ _=_;rw [c1];rfl
   have r2:s2.room=s.room:=by rw [hs2];exact c2
   have r3:s2.disk=s1.disk.wr ((Sto.slot s.recs*(s.room+1):Nat):Int) [1]:=by rw [hs2];rfl
   have r4:s2.dead=false:=by rw [hs2];simp [St.laid,St.writeS,hE,g1]
   have hthin:=zC3 htl name data
   rw [hF] at hthin
   have r5:(s2.freeS k).disk.stops=s.disk.stops:=by
    show (s2.disk.wr _ _).stops=_
    rw [zBK,r3,zBK,c4]
   have HF:=zHX (s:=s2) (i:=k) (by rw [r3,r2,r1];exact hhp) (by rw [r3];exact q2) r4 (by rw [r1];unfold zDC;rw [List.length_set];exact hk)
   rw [r1,r2] at HF
   rw [← hs2]
   show (s2.freeS k).room=_∧(s2.freeS k).disk.stops=_∧((s2.freeE k=0∧(s2.freeS k).dead=false∧(s2.freeS k).disk.dead=false∧(s2.freeS k).recs=_∧Holds (s2.freeS k).disk _ _)∨(s2.freeE k=8∧_∧(s2.freeS k).dead=true∧(s2.freeS k).disk.dead=true∧∃ l,Holds (s2.freeS k).disk _ l∧_))
   refine ⟨r2,r5,?_⟩
   rcases HF with ⟨a1,a2,a3,a4,a5⟩ | ⟨a1,a2,a2',a3,a4,a5,a6⟩
   · exact .inl ⟨a1,a2,a3,by rw [hF];exact a4,by rw [hF];exact a5⟩
   · refine .inr ⟨a1,?_,a3,a4,?_⟩
     · rw [r3,zBK,c4] at a2;exact a2
     · rcases a6 with a6 | a6
       · exact ⟨_,a6,.inr (Sto.zAq.refl _)⟩
       · exact ⟨_,a6,.inr hthin⟩
theorem zHl {s:St} (hh:Holds s.disk s.room s.recs) (hd:s.disk.dead=false) (hs:s.dead=false):∀ k,k≤s.recs.length →
  (zC s k).2.room=s.room∧(zC s k).2.disk.stops=s.disk.stops ∧
  (((zC s k).1=0∧(zC s k).2.dead=false∧(zC s k).2.disk.dead=false∧Holds (zC s k).2.disk s.room (zC s k).2.recs∧Sto.zAq s.recs (zC s k).2.recs ∧
    ∀ i r,i < k→(zC s k).2.recs[i]?=some r→r.is=true→Sto.best (zC s k).2.recs r.name (zC s k).2.recs.length=some i) ∨
   ((zC s k).1=8∧s.disk.stops=true∧(zC s k).2.disk.dead=true∧∃ l,Sto.zAq s.recs l∧Holds (zC s k).2.disk s.room l))
 | 0,_=>⟨rfl,rfl,.inl ⟨rfl,hs,hd,hh,Sto.zAq.refl _,fun i r h=>by omega⟩⟩
 | k+1,hk=>by
   obtain ⟨i1,i2,i3⟩:=zHl hh hd hs k (by omega)
   rcases i3 with ⟨a1,a2,a3,a4,a5,a6⟩ | ⟨a1,a2,a3,a4⟩
   rotate_left
   · have e:zC s (k+1)=zC s k:=by rw [zC];simp only [a1];rfl
     rw [e]
     exact ⟨i1,i2,.inr ⟨a1,a2,a3,a4⟩⟩
   · obtain ⟨p,hp⟩:∃ p,p=zC s k:=⟨_,rfl⟩
     rw [← hp] at i1 i2 a1 a2 a3 a4 a5 a6
     have hlen:p.2.recs.length=s.recs.length:=a5.1
     obtain ⟨r,hr⟩:∃ r,p.2.recs[k]?=some r:=⟨p.2.recs[k]'(by omega),by simp⟩
     by_cases hc:r.is=true∧Sto.best p.2.recs r.name p.2.recs.length≠some k
     · have e:zC s (k+1)=(p.2.freeE k,p.2.freeS k):=by
        rw [zC,← hp]
        simp only [a1,ne_eq,not_true_eq_false,if_false,hr]
        rw [if_pos hc]
       rw [e]
       have hstep:=Sto.zAq.step hr hc.1 hc.2
       have hst:(p.2.freeS k).disk.stops=s.disk.stops:=(zBK _ _ _).trans i2
       rcases zHX (s:=p.2) (i:=k) (by rw [i1];exact a4) a3 a2 (by omega) with ⟨b1,b2,b3,b4,b5⟩ | ⟨b1,b2,b2',b3,b4,b5,b6⟩
       · rw [i1] at b5
         refine ⟨i1,hst,.inl ⟨b1,b2,b3,by rw [b4];exact b5,by rw [b4];exact a5.trans hstep,fun i r' hi hr' his=>?_⟩⟩
         simp only at hr' ⊢
         rw [b4] at hr' ⊢
         rw [hstep.best]
         rcases zJd (by omega) hr' with ⟨rfl,rfl⟩ | ⟨hne,hr'⟩
         · simp [Sto.Rec.free] at his
         · exact a6 i r' (by omega) hr' his
       · rw [i1] at b6
         refine ⟨i1,hst,.inr ⟨b1,i2 ▸ b2,b4,?_⟩⟩
         rcases b6 with b6 | b6
         · exact ⟨_,a5,b6⟩
         · exact ⟨_,a5.trans hstep,b6⟩
     · have e:zC s (k+1)=p:=by
        rw [zC,← hp]
        simp only [a1,ne_eq,not_true_eq_false,if_false,hr]
        rw [if_neg hc]
       rw [e]
       refine ⟨i1,i2,.inl ⟨a1,a2,a3,a4,a5,fun i r' hi hr' his=>?_⟩⟩
       rcases Nat.lt_or_ge i k with h | h
       · exact a6 i r' h hr' his
       · obtain rfl:i=k:=by omega
         rw [hr] at hr';cases hr'
         exact Classical.byContradiction fun h=>hc ⟨his,h⟩
theorem zF4 {s:St} (hu:Sto.Uniq s.recs):∀ k,zC s k=(0,s)
 | 0=>rfl
 | k+1=>by
   rw [zC,zF4 hu k]
   simp only [ne_eq,not_true_eq_false,if_false]
   cases hr:s.recs[k]? with
   | none=>rfl
   | some r =>
     simp only
     by_cases hr1:r.is=true
     · rw [if_neg (fun h=>h.2 (hu.is ⟨hr,hr1,rfl⟩))]
     · rw [if_neg (fun h=>hr1 h.1)]
theorem zKO {D:zA} {room:Nat} {l:List Sto.Rec} (hh:Holds D room l) (hd:D.dead=false) (hu:Sto.Uniq l):zu D l.length room=(0,D,some ⟨room,l,false,D⟩):=by
 unfold zu
 rw [zB5 hd hh _ (Nat.le_refl _),List.take_length]
 simp only [ne_eq,not_true_eq_false,if_false]
 rw [zF4 (s:=⟨room,l,false,D⟩) hu]
 simp only [not_true_eq_false,if_false]
theorem zLI {D:zA} {room:Nat} {l:List Sto.Rec} (hh:Holds D room l) (hd:D.dead=false):∃ l',Sto.zAq l l'∧Holds (zu D l.length room).2.1 room l'∧(zu D l.length room).2.1.stops=D.stops ∧
  (((zu D l.length room).1=0∧(zu D l.length room).2.1.dead=false∧(zu D l.length room).2.2=some ⟨room,l',false,(zu D l.length room).2.1⟩∧Sto.Uniq l') ∨
   ((zu D l.length room).1=8∧D.stops=true∧(zu D l.length room).2.1.dead=true∧(zu D l.length room).2.2=none)):=by
 obtain ⟨q,hq⟩:∃ q,q=zC ⟨room,l,false,D⟩ l.length:=⟨_,rfl⟩
 have e:zu D l.length room=if q.1≠0 then (q.1,q.2.disk,none) else (0,q.2.disk,some q.2):=by
  unfold zu
  rw [zB5 hd hh _ (Nat.le_refl _),List.take_length,hq]
  rfl
 obtain ⟨i1,i2,i3⟩:=zHl (s:=⟨room,l,false,D⟩) hh hd rfl l.length (Nat.le_refl _)
 rw [← hq] at i1 i2 i3
 rw [e]
 rcases i3 with ⟨a1,a2,a3,a4,a5,a6⟩ | ⟨a1,a2,a3,l',a4,a5⟩
 · rw [if_neg (by simp [a1])]
   refine ⟨q.2.recs,a5,a4,i2,.inl ⟨rfl,a3,?_,Sto.zDx fun i r hr his=>a6 i r ?_ hr his⟩⟩
   · obtain ⟨q1,⟨q2,q3,q4,q5⟩⟩:=q
     simp only at i1 a2
     subst i1 a2
     rfl
   · have:i < q.2.recs.length:=Sto.At.lt (name:=r.name) (k:=i) (r:=r) ⟨hr,his,rfl⟩
     rw [a5.1] at this
     exact this
 · rw [if_pos (by simp [a1])]
   exact ⟨l',a4,a5,i2,.inr ⟨a1,a2,a3,rfl⟩⟩
theorem zKM {D:zA} {room slots:Nat} (hd:D.dead=true) (hs:1≤slots):zu D slots room=(8,D,none):=by
 have h1:readAll room D 1=([],8,D):=by
  simp only [readAll,readR,hd,if_true];rfl
 have h2:readAll room D slots=([],8,D):=by
  have:=zCs room D (k:=1) (by simp [h1]) (slots - 1)
  rw [show 1+(slots - 1)=slots from by omega] at this
  rw [this,h1]
 unfold zu
 rw [h2]
 rfl
theorem Holds.start {D:zA} {room:Nat} {l:List Sto.Rec} (h:Holds D room l):Holds D.start room l:=by
 refine ⟨h.1,h.2.1,fun i r hr=>(h.2.2 i r hr).congr fun _ _ _=>rfl⟩
theorem Holds.stop {D:zA} {room:Nat} {l:List Sto.Rec} (h:Holds D room l) (a k:Int):Holds (D.stop a k) room l:=by
 refine ⟨h.1,?_,fun i r hr=>(h.2.2 i r hr).congr fun _ _ _=>rfl⟩
 show (max 0 (min k 32)).toNat≤32
 omega
theorem Holds.fresh (slots room:Nat):Holds (.fresh (slots*(room+1))) room (List.replicate slots Sto.Rec.free):=by
 refine ⟨by simp [zA.fresh],Nat.zero_le _,fun i r hr=>?_⟩
 have:r=Sto.Rec.free:=by
  have:=List.mem_of_getElem? hr
  exact (List.mem_replicate.1 this).2
 subst this
 exact Slot.free (by simp [zA.fresh])
theorem zGO (n:Nat):Sto.Uniq (List.replicate n Sto.Rec.free):=fun nm i j r r' h1 _=>by
 have:=(List.mem_replicate.1 (List.mem_of_getElem? h1.1)).2
 have h2:=h1.2.1
 rw [this] at h2
 simp [Sto.Rec.free] at h2
theorem zKu (n:Nat):Bnd 0 (List.replicate n Sto.Rec.free):=fun r hr=>by rw [(List.mem_replicate.1 hr).2];exact Nat.le_refl _
theorem zD8 (n:Nat) (nm:ByteArray):Sto.look (List.replicate n Sto.Rec.free) nm=none:=by
 unfold Sto.look
 rw [Sto.zGS]
 · rfl
 · intro j r h
   have:=(List.mem_replicate.1 (List.mem_of_getElem? h.1)).2
   have h2:=h.2.1
   rw [this] at h2
   simp [Sto.Rec.free] at h2
theorem zDE (at_:Nat):∀ (n:Nat) (s:St) (k:Nat) (b:List UInt8),(St.chunks at_ n s k b).2.disk.writes≤s.disk.writes+n
 | 0,s,k,b=>Nat.le_refl _
 | n+1,s,k,b=>by
   have h1:(s.writeS (at_+1+k) (b.take 32)).disk.writes≤s.disk.writes+1:=zA.wr_writes _ _ _
   rw [St.chunks]
   split
   · show s.disk.writes≤_;omega
   · split
     · show (s.writeS (at_+1+k) (b.take 32)).disk.writes≤_
       omega
     · have:=zDE at_ n (s.writeS (at_+1+k) (b.take 32)) (k+1) (b.drop 32)
       omega
theorem zDU (s:St) (name:ByteArray) (data:List UInt8):(zk s name data).2.disk.writes≤s.disk.writes+s.room+2:=by
 unfold zk
 split
 · show s.disk.writes≤_;omega
 · split
   · show s.disk.writes≤_;omega
   · split
     · show s.disk.writes≤_;omega
     · have h0:=zDE (Sto.slot s.recs*(s.room+1)) s.room s 0 (Sto.text name (s.num name) data)
       obtain ⟨p,hp⟩:∃ p,p=St.chunks (Sto.slot s.recs*(s.room+1)) s.room s 0 (Sto.text name (s.num name) data):=⟨_,rfl⟩
       rw [← hp] at h0 ⊢
       obtain ⟨e,s1⟩:=p
       simp only at h0 ⊢
       have h1:(s1.writeS (Sto.slot s.recs*(s.room+1)) [1]).disk.writes≤s1.disk.writes+1:=zA.wr_writes _ _ _
       split
       · show s1.disk.writes≤_;omega
       · split
         · show (s1.writeS (Sto.slot s.recs*(s.room+1)) [1]).disk.writes≤_;omega
         · unfold St.done
           split
           · show (s1.writeS (Sto.slot s.recs*(s.room+1)) [1]).disk.writes≤_;omega
           · rename_i k hk
             have h2:(((s1.writeS (Sto.slot s.recs*(s.room+1)) [1]).laid (Sto.slot s.recs) ⟨true,name,s.num name,data⟩).freeS k).disk.writes≤(s1.writeS (Sto.slot s.recs*(s.room+1)) [1]).disk.writes+1:=zA.wr_writes _ _ _
             show (((s1.writeS (Sto.slot s.recs*(s.room+1)) [1]).laid (Sto.slot s.recs) ⟨true,name,s.num name,data⟩).freeS k).disk.writes≤_
             omega
theorem zBH (room:Nat) (D:zA):∀ k,(readAll room D k).2.2.writes≤D.writes+k
 | 0=>Nat.le_refl _
 | k+1=>by
   have ih:=zBH room D k
   have h1:∀ i bs,((readAll room D k).2.2.wr i bs).writes≤(readAll room D k).2.2.writes+1:=fun i bs=>zA.wr_writes _ i bs
   rw [readAll]
   simp only
   split
   · omega
   · split
     · simp only
       split
       · exact Nat.le_trans (h1 _ _) (by omega)
       · omega
     · simp only
       split
       · exact Nat.le_trans (h1 _ _) (by omega)
       · omega
theorem zCo (s:St):∀ k,(zC s k).2.disk.writes≤s.disk.writes+k
 | 0=>Nat.le_refl _
 | k+1=>by
   have ih:=zCo s k
   rw [zC]
   split
   · omega
   · split
     · omega
     · split
       · exact Nat.le_trans (zA.wr_writes _ _ _) (by omega)
       · omega
theorem zEM (D:zA) (slots room:Nat):(zu D slots room).2.1.writes≤D.writes+slots+slots:=by
 have h1:=zBH room D slots
 have h2:=zCo ⟨room,(readAll room D slots).1,false,(readAll room D slots).2.2⟩ slots
 simp only at h2
 unfold zu
 simp only
 split
 · first | (simp only;omega) | omega
 · split
   · first | (simp only;omega) | omega
   · first | (simp only;omega) | omega
end Go.Mem
end
