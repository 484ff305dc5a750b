/- Texts of this proof,packed: LeaLess,LeaSort,AppG,LeaOf,LeaAdd,LeaMore,LeaWake,Ints,Open,OpenS,Some,LeaTwo,TailNew. -/
import Derived.Test.YtbbojbdigiibbaaGreatDoorPa07
import Derived.Test.YtbbojbdigiibbaaGreatDoorPaS
import Derived.Test.YtbbojbdigiibbaaGreatDoorPa02
import Derived.Test.YtbbojbdigiibbaaGreatDoorPa00
import Derived.WalkKit
import Derived.ProofKit
import Derived.ChangeOld
import Derived.Deep.SlicePairs
import Derived.OpenShut
import Derived.Laws.StructEq
section
namespace Go.Proofs.YtbbojbdigiibbaaGreatDoor
open Go Go.RowKit Go.Mem Gf Lea
attribute [local go_sem ↓] Go.wp_at_zero Go.wp_at_succ
attribute [local go_sem ↓] zBJ zCJ
attribute [local go_sem] ptrB_eq ptrO_eq ptrIs_eq aggL_eq aggIs_eq zS ze zC zF zCB zV zH zJ
theorem below_drewN {B:Nat} {w w':World} (h:Below B w w') (n:Nat):Below B w (w'.drewN n):=⟨h.os,h.tape,h.output,h.size,h.block⟩
set_option maxRecDepth 100000 in
set_option maxHeartbeats 1000000 in
theorem zId (w:World) (bx base g n cap:Nat) (l:List Sec) (h:zAq zAv WfL 17 165 w base g n cap l) (hb:Blk w bx #[.slice (some ⟨g,0,none⟩) n cap] 131) (i j:Nat) (x y:Sec) (hx:l[i]?=some x) (hy:l[j]?=some y) :
  Calls Tryz.prog 115 #[.int .i64 i,.int .i64 j,.pointer (some ⟨bx,0,none⟩)] w fun e w'=>e=.returned (.bool (ltL x y))∧Below w.heap.size w w':=by
 have hi:i < n:=by rw [h.len];exact zq hx
 have hj:j < n:=by rw [h.len];exact zq hy
 have i0:(0:Int)≤(i:Int):=by omega
 have i1:(i:Int) < (n:Int):=by omega
 have j0:(0:Int)≤(j:Int):=by omega
 have j1:(j:Int) < (n:Int):=by omega
 have c0:w.cell? ⟨bx,0,none⟩=some (.slice (some ⟨g,0,none⟩) n cap):=by simpa using hb.cell 0
 have hwx:=h.wf x (List.mem_of_getElem? hx)
 have hwy:=h.wf y (List.mem_of_getElem? hy)
 go_enter Tryz.func115,Tryz.ntmps115
 have rx:=h.read ecL hx
 have ry:=h.read ecL hy
 have t1:zY 17 w g (i*17):=h.there hi
 have t1':zY 17 w g (j*17):=h.there hj
 have ax:=allL hwx
 have ay:=allL hwy
 have lx:=ecL.len x hwx
 have ly:=ecL.len y hwy
 have hgl:g < w.heap.size:=by
  obtain ⟨cur,hh,_⟩:=h.block
  exact lt_of_block hh
 have hbl:=hb.lt
 have hgl1:g < w.heap.size+1:=by omega
 go_upto_region 1 with fail
 go_cut [6,7] (fun a b wx=>∃ p q,p≠q∧a=.pointer (some ⟨p,0,none⟩)∧b=.pointer (some ⟨q,0,none⟩)∧Blk wx p (zAv x).toArray 165∧Blk wx q (zAv y).toArray 165∧Below w.heap.size w wx)
 case first =>
  go_region
  all_goals go_wp2_with fail
  all_goals go_meet
  · exact ⟨_,_,by omega,rfl,rfl,(Blk.new _ _ _).alloc _,Blk.new_at _ _ _ _ (by simp),(((Below.refl _ _).alloc (Nat.le_refl _) _).alloc (by simp) _).drew⟩
  · exact ⟨_,_,by omega,rfl,rfl,Blk.new_at _ _ _ _ (by simp),(Blk.new _ _ _).alloc _,(((Below.refl _ _).alloc (Nat.le_refl _) _).alloc (by simp) _).drew⟩
 case rest =>
  obtain ⟨p,q,hpq,rfl,rfl,hp,hq,hB⟩:=hcut
  have cp:wc.cell? ⟨p,16,none⟩=some (.int .i64 x.2):=by rw [hp.cell];simpa using zFK hwx
  have cq:wc.cell? ⟨q,16,none⟩=some (.int .i64 y.2):=by rw [hq.cell];simpa using zFK hwy
  have bp:Bys wc (.slice (some ⟨p,0,none⟩) 16 16) x.1:=by
   have:=Blk.bys hp (bs:=x.1) (cap:=16) (by rw [hwx];omega) (by decide) (fun k u hu=>by simpa using zGq hu)
   rwa [hwx] at this
  have bq:Bys wc (.slice (some ⟨q,0,none⟩) 16 16) y.1:=by
   have:=Blk.bys hq (bs:=y.1) (cap:=16) (by rw [hwy];omega) (by decide) (fun k u hu=>by simpa using zGq hu)
   rwa [hwy] at this
  have HL:=Lib.hid (And.intro hB (And.intro bp bq))
  clear hB bp bq hp hq h hb hx hy rx ry t1 t1' ax ay lx ly
  go_upto_region 2 with fail
  by_cases c1:x.2 < y.2
  · have d1:decide (x.2 < y.2)=true:=by simpa using c1
    have hr:ltL x y=true:=by unfold ltL;simp [c1]
    go_quiet (fail)
    go_wp2
    go_ret
    exact ⟨by first | rfl | (rw [hr];rfl),below_drewN HL.out.1 _⟩
  · have d1:decide (x.2 < y.2)=false:=by simpa using c1
    by_cases c2:x.2=y.2
    · have hr:ltL x y=decide (Go.Lib.compareBytes x.1 y.1 < 0):=by unfold ltL;simp [c2]
      have d2:decide (x.2=y.2)=true:=by simpa using c2
      have d3:(x.2 == y.2)=true:=by simpa using c2
      go_quiet (exact Calls.quiet_of_same (zF1 _ _ x.1 y.1 _ (HL.out.2.1.drewN _) (HL.out.2.2.drewN _)))
      go_wp2
      go_ret
      exact ⟨by first | rfl | (rw [hr];rfl),below_drewN HL.out.1 _⟩
    · have hr:ltL x y=false:=by unfold ltL;simp [c1,c2]
      have d2:decide (x.2=y.2)=false:=by simpa using c2
      have d3:(x.2 == y.2)=false:=by simpa using c2
      go_quiet (fail)
      go_wp2
      go_ret
      exact ⟨by first | rfl | (rw [hr];rfl),below_drewN HL.out.1 _⟩
end Go.Proofs.YtbbojbdigiibbaaGreatDoor
end
section
namespace Go.Proofs.YtbbojbdigiibbaaGreatDoor
open Go Go.RowKit Go.Mem Gf Lea Go.Lib Go.Shelf
noncomputable def lsT:TypeInfo:=(Tryz.prog.info? 131).get (by kernel_rfl)
noncomputable def lsE:TypeInfo:=(Tryz.prog.info? 165).get (by kernel_rfl)
theorem lsK9 (n:Nat) (h2:2≤n):Lib.swapperK n lsE 25=9:=by
 have a:lsE.hasPointers=false:=by kernel_rfl
 have b:lsE.bytes=24:=by kernel_rfl
 have c:(n == 0)=false:=by simp;omega
 have d:(n == 1)=false:=by simp;omega
 simp [Lib.swapperK,a,b,c,d]
theorem zE5 {α:Type} (lt:α→α→Bool) (ho:Srt.Ord lt) (g sf:Nat) (lb sb:Array Value) (eg:∀ args w,(callFunc g args).run Tryz.prog w=.ok (.enter g args) w) :
  zIJ (fun _ l=>l.length≤1) (fun _=>False) lt g sf lb sb :=
 ⟨fun _ _ _ _ h=>h.elim,fun _ _ _ h=>h,fun W l i j x y hij h hi hj=>by have:=zq hi;omega,fun W l i j x y hij h hi hj=>by have:=zq hi;omega,eg,ho⟩
theorem zEp {α:Type} {lt:α→α→Bool} {l:List α} {n:Nat} (h:Srt.Upto lt l n) (hn:l.length≤n):l.Pairwise fun a b=>lt b a=false:=by
 rw [List.pairwise_iff_getElem]
 intro i j hi hj hij
 exact h i j _ _ hij (by omega) (by simp) (by simp)
theorem zEk:∀ args w,(callFunc 115 args).run Tryz.prog w=.ok (.enter 115 args) w:=enters_of Tryz.func115 (by kernel_rfl) rfl
theorem zMk (bx base g n cap:Nat) (hne:bx≠g) (sf:Nat) (gS:Bool) (hx:∀ args W,(callFunc sf args).run Tryz.prog W=((Extern.ReflectliteSwapper.swap gS args).run Tryz.prog W).andThen fun v w'=>.ok (.value v) w') :
  zIJ (fun W l=>zAq zAv WfL 17 165 W base g n cap l∧Blk W bx #[.slice (some ⟨g,0,none⟩) n cap] 131) (fun k=>k=g) ltL 115 sf #[.pointer (some ⟨bx,0,none⟩)] #[.slice (some ⟨g,0,none⟩) n cap,typeHandle Tryz.prog 165]:=by
 refine ⟨fun W l h k hk=>?_,fun W l o h=>?_,fun W l i j x y _ h hi hj=>?_,fun W l i j x y hij h hi hj=>?_,zEk,ordL⟩
 · obtain ⟨cur,hh,_⟩:=h.1.block
   rw [hk];exact lt_of_block hh
 · exact ⟨h.1.chg (S:=fun _=>False) (Chg.of_below ((Below.refl _ _).alloc (Nat.le_refl _) o)) (fun h=>h),h.2.alloc o⟩
 · refine (zId W bx base g n cap l h.1 h.2 i j x y hi hj).mono ?_
   rintro e W' ⟨rfl,hB⟩
   have hc:Chg (fun k=>k=g) W W':=Chg.of_below hB
   exact ⟨rfl,⟨h.1.chg (S:=fun _=>False) (Chg.of_below hB) (fun h=>h),hc.blk h.2 hne⟩,hc⟩
 · have hi':i < n:=by rw [h.1.len];exact zq hi
   have hj':j < n:=by rw [h.1.len];exact zq hj
   have wx:=h.1.wf x (List.mem_of_getElem? hi)
   have wy:=h.1.wf y (List.mem_of_getElem? hj)
   have hs:lsE.size=17:=by kernel_rfl
   have h1:=h.1.set ecL hi' wy
   have h2:=h1.set ecL hj' wx
   have hsw:=run_swap_cells (P:=Tryz.prog) gS 165 lsE (by kernel_rfl) (fun _=>by kernel_rfl) g 0 n cap i j hi' hj' (zAv x) (zAv y) (by rw [hs];exact ecL.len x wx) (by rw [hs];exact ecL.len y wy) (ecL.one x) (ecL.one y) W
    (fun k v hv=>by rw [hs,Nat.zero_add];exact h.1.range ecL hi k v hv) (fun k v hv=>by rw [hs,Nat.zero_add];exact h.1.range ecL hj k v hv)
    (fun k hk=>by rw [hs] at hk ⊢;rw [Nat.zero_add];exact (h.1.there hi' k hk).2) (fun k hk=>by rw [hs] at hk ⊢;rw [Nat.zero_add];exact (h.1.there hj' k hk).2)
   rw [hs,Nat.zero_add,Nat.zero_add] at hsw
   have hc:Chg (fun k=>k=g) W ((W.setCells g (i*17) (zAv y)).setCells g (j*17) (zAv x)):=Chg.setCells (S:=fun b=>b=g) (L:=g) rfl _ _ _ (Chg.setCells (S:=fun b=>b=g) (L:=g) rfl _ _ _ (Chg.refl _ _))
   refine ⟨_,?_,⟨?_,hc.blk h.2 hne⟩,hc⟩
   · rw [hx]
     show ((Extern.ReflectliteSwapper.swap gS #[.int .i64 i,.int .i64 j,.slice (some ⟨g,0,none⟩) n cap,typeHandle Tryz.prog 165]).run Tryz.prog W).andThen _=_
     rw [hsw]
     rfl
   · unfold Srt.swap
     rw [hi,hj]
     exact h2
theorem zJj (w:World) (p:Option Addr) (n c:Nat) (hn:n≤1) (bx:Nat) :
  Calls Tryz.prog 114 #[.iface 131 (.slice p n c),.func (.func 115) #[] #[.pointer (some ⟨bx,0,none⟩)]] w fun e w'=>e=.returned (.tuple #[])∧Chg (fun _=>False) w w':=by
 obtain ⟨l,hl⟩:∃ l:List Sec,l.length=n:=⟨List.replicate n ([],0),by simp⟩
 obtain ⟨f, hf⟩ : ∃ f, Tryz.prog.funcs.findIdx? (·.name == "internal/reflectlite" ++ ".Swapper$" ++ toString (swapperK n lsE 25)) = some f := by
  rcases (by omega:n=0∨n=1) with rfl | rfl
  · exact ⟨192,by kernel_rfl⟩
  · exact ⟨193,by kernel_rfl⟩
 have hb:sliceBound Tryz.prog 165 lsE 25 p n c=#[]:=by
  unfold sliceBound swapperK
  rcases (by omega:n=0∨n=1) with rfl | rfl <;> simp
 have hw:Chg (fun _=>False) w (sliceWorld Tryz.prog Tryz.laysGg6_ren 131 p n c w):=Chg.of_below (((Below.refl _ _).alloc (Nat.le_refl _) _).alloc (by simp) _)
 refine Any.sort_Slice_of_pdq Tryz.laysGg6 131 165 lsT lsE (by kernel_rfl) (by kernel_rfl) (by kernel_rfl) (by kernel_rfl) 25 (fun _=>by kernel_rfl) p n c (by omega) f hf _ _ _ w _ ?_
 rw [hb]
 refine (zEV (zE5 ltL ordL 115 f #[.pointer (some ⟨bx,0,none⟩)] #[] zEk) l n _ hl (by omega) _ (by omega)).mono ?_
 rintro e w' ⟨rfl,_,_,_,_,hc⟩
 exact ⟨rfl,hw.trans hc⟩
theorem zJi (w:World) (bx base g n cap:Nat) (l:List Sec) (h:zAq zAv WfL 17 165 w base g n cap l) (hb:Blk w bx #[.slice (some ⟨g,0,none⟩) n cap] 131) (hne:bx≠g) (h2:2≤n) (hn:n≤12) :
  Calls Tryz.prog 114 #[.iface 131 (.slice (some ⟨g,0,none⟩) n cap),.func (.func 115) #[] #[.pointer (some ⟨bx,0,none⟩)]] w fun e w' =>
   e=.returned (.tuple #[])∧∃ l',zAq zAv WfL 17 165 w' base g n cap l'∧l'.Perm l∧(l'.Pairwise fun a b=>ltL b a=false)∧Chg (fun k=>k=g) w w':=by
 have hf : Tryz.prog.funcs.findIdx? (·.name == "internal/reflectlite" ++ ".Swapper$" ++ toString (swapperK n lsE 25)) = some 200 := by
  rw [lsK9 n h2];kernel_rfl
 have hsb:sliceBound Tryz.prog 165 lsE 25 (some ⟨g,0,none⟩) n cap=#[.slice (some ⟨g,0,none⟩) n cap,typeHandle Tryz.prog 165]:=by
  unfold sliceBound
  rw [lsK9 n h2]
  rfl
 have hB:Below w.heap.size w (sliceWorld Tryz.prog Tryz.laysGg6_ren 131 (some ⟨g,0,none⟩) n cap w):=((Below.refl _ _).alloc (Nat.le_refl _) _).alloc (by simp) _
 have hw:Chg (fun k=>k=g) w (sliceWorld Tryz.prog Tryz.laysGg6_ren 131 (some ⟨g,0,none⟩) n cap w):=Chg.of_below hB
 have S:=zMk bx base g n cap hne 200 false (fun args W=>run_callFunc_extern Tryz.func200 (by kernel_rfl) (by kernel_rfl) (by kernel_rfl) (e:=Extern.ReflectliteSwapper.swap false) (by kernel_rfl) args W)
 refine Any.sort_Slice_of_pdq Tryz.laysGg6 131 165 lsT lsE (by kernel_rfl) (by kernel_rfl) (by kernel_rfl) (by kernel_rfl) 25 (fun _=>by kernel_rfl) _ n cap (by omega) _ hf _ _ _ w _ ?_
 rw [hsb]
 refine (zEV S l n _ h.len.symm hn _ ⟨h.chg (S:=fun _=>False) (Chg.of_below hB) (fun h=>h),hw.blk hb hne⟩).mono ?_
 rintro e w' ⟨rfl,l',h1,hp,hu,hc⟩
 exact ⟨rfl,l',h1.1,hp,zEp hu (by rw [hp.length_eq,← h.len];exact Nat.le_refl _),hw.trans hc⟩
end Go.Proofs.YtbbojbdigiibbaaGreatDoor
end
section
namespace Go.Mem
open Go Go.RowKit Gf
section
variable {P:Program} {w:World} {ops:Array Oper} {rest:List Oper} {o:Oper} {a:Act} {Q:Exit→Act→World→Prop} {K:Act→World→Prop} {E0:Prop}
theorem zIu {t e:TypeId} {z:Value} {size bytes:Nat} (E:zDD P t e z size bytes) (s x:Operand) (ho:o.op=.call { callee:=.builtin .append,args:=#[s,x],argTypes:=#[t,t] })
  {base:Nat} {v:Value} {n m cx:Nat} {xs:List Value} (news:List Value) (hs:a.eval s=v) {mb:Nat} (hx:a.eval x=.slice (some ⟨mb,0,none⟩) m cx) (hl:news.length=m*size) (hnews:∀ j u,news[j]?=some u→w.cell? ⟨mb,j,none⟩=some u) (h1:∀ u∈news,u.oneCell'=true)
  (hown:w.ownsRow base e size v n xs) (hn:n+m≤4294967296) (hby:bytes≤4096) (hbase:base≤w.heap.size)
  (h:∀ v' w',w'.ownsRow base e size v' (n+m) (xs++news)∧w.grownBy w' v.ownBlock∧(∀ k,v'.ownBlock=some k→v.ownBlock=some k∨w.heap.size≤k)→K (a.put o.dst v') w'):o.wp P a w K Q:=by
 obtain ⟨i,hi,hz,hsz,hb⟩:=info_parts E.info
 have hm:(n+m)*bytes≤4294967296*4096:=Nat.mul_le_mul hn hby
 obtain ⟨v',w',hr,h2,h3,h4⟩:=zBc (P:=P) w base t o.type e i z size bytes E.under hi hz hsz hb E.zsize E.pos v n xs hown ⟨mb,0,none⟩ m cx news (by omega)
  (fun j y hj=>by
   rw [show (⟨mb,0,none⟩:Addr).add j=⟨mb,j,none⟩ from by unfold Addr.add;split <;> simp_all]
   exact hnews j y hj)
  h1 (by unfold maxLen;omega) (by omega) hbase
 unfold Oper.wp execOp
 simp only [ho,resolve,invoke,builtin,Sem.run_bind,Sem.run_pure,Result.andThen_ok,List.map_toArray,List.map_cons,List.map_nil,hs,hx,hr]
 exact h v' w' ⟨h2,h3,h4⟩
theorem zBV {α:Type} {enc:α→List Value} {Wf:α→Prop} {t e:TypeId} {z:Value} {size bytes:Nat} (E:zDD P t e z size bytes) (EC:zEb enc Wf size) (hgd:o.guard=none) (s x:Operand) (ho:o.op=.call { callee:=.builtin .append,args:=#[s,x],argTypes:=#[t,t] })
  {base:Nat} {v:Value} {l:List α} (y:α) (hy:Wf y) (hs:a.eval s=v) {mb cx:Nat} (hx:a.eval x=.slice (some ⟨mb,0,none⟩) 1 cx) {e':TypeId} (hnews:Blk w mb (enc y).toArray e')
  (hown:zAh enc Wf size e w base v l) (hn:l.length+1≤4294967296) (hby:bytes≤4096) (hbase:base≤w.heap.size)
  (h:∀ v' w',zAh enc Wf size e w' base v' (l++[y])→w.grownBy w' v.ownBlock→(∀ k,v'.ownBlock=some k→v.ownBlock=some k∨w.heap.size≤k)→wpList P ops Q rest (a.put o.dst v') w'):wpList P ops Q (o::rest) a w :=
 zCV hgd (fun _ hK=>zIu E s x ho (enc y) hs hx (by rw [EC.len y hy,Nat.one_mul]) (fun j u hj=>by rw [hnews.cell];simpa using hj) (EC.one y) hown.own hn hby hbase hK) fun v' w' h2=>h v' w'
  ⟨by rw [List.length_append,List.length_singleton,zMv,zMw];exact h2.1,fun q hq=>by
   rcases List.mem_append.1 hq with hq | hq
   · exact hown.wf q hq
   · rw [List.mem_singleton.1 hq];exact hy⟩ h2.2.1 h2.2.2
end
theorem Chg.trans_below {S:Nat→Prop} {w w' w'':World} (h:Chg S w w') (h':Below w'.heap.size w' w''):Chg S w w'':=h.trans (Chg.of_below h')
theorem zAh.ge {α:Type} {enc:α→List Value} {Wf:α→Prop} {k:Nat} {ti:TypeId} {w:World} {base:Nat} {v:Value} {l:List α} (h:zAh enc Wf k ti w base v l) {g:Nat} (e:v.ownBlock=some g):base≤g:=by
 rcases h.own.2 with ⟨e1,_⟩ | ⟨g',cap,cur,e1,h1,_⟩
 · rw [e1] at e;cases e
 · rw [e1] at e;cases e;exact h1
end Go.Mem
end
section
namespace Go.Proofs.YtbbojbdigiibbaaGreatDoor
open Go Go.RowKit Go.Mem Gf Lea
theorem EKl:zDD Tryz.prog 131 165 (.agg ((List.replicate 16 (Value.int .u8 0))++[Value.int .i64 0]).toArray) 17 24:=⟨Tryz.underlying131,by kernel_rfl,rfl,by decide⟩
theorem zC1 (dst:Option Tmp) (x:Operand) (ty:TypeId) (pos:String) (af:Array Edge) (a:Act) (w:World) (K:Act→World→Prop) (Q:Exit→Act→World→Prop) (hy:zA5 (a.eval x)=true) (hc:zAQ 17 (zAn (a.eval x))) :
  Oper.wp Tryz.prog ⟨dst,.buildSlice 131 1 #[(0,x)],ty,pos,af,none⟩ a w K Q=K (a.put dst (.slice (some ⟨w.heap.size,0,none⟩) 1 1)) (w.alloc (.cells (zAn (a.eval x)).toArray 165)) :=
 zFz Tryz.underlying131 (by kernel_rfl) (by decide) (by decide) dst x ty pos af a w K Q hy hc
theorem zMF {x:Les} (h:Wf x):zCi (zi x).toArray 16 17=zAv (x.sec,x.e):=by
 have h1:(bV x.ix).length=16:=by rw [zB];exact h.1
 have h2:(bV x.sec).length=16:=by rw [zB];exact h.2
 unfold zCi zi zAv
 rw [List.toList_toArray,List.append_assoc,List.drop_append_of_le_length (by omega),List.drop_of_length_le (by omega),List.nil_append,List.take_of_length_le (by simp;omega)]
theorem zNa {l:List Les} {i:Nat} {x:Les} (hx:l[i]?=some x) (ix:Key):ofL (l.take (i+1)) ix=ofL (l.take i) ix++if x.ix=ix then [(x.sec,x.e)] else []:=by
 rw [List.take_add_one,hx,Option.toList_some,zGY]
 congr 1
 unfold ofL
 by_cases c:x.ix=ix <;> simp [c]
attribute [local go_sem ↓] Go.wp_at_zero Go.wp_at_succ
attribute [local go_sem ↓] zAK zBL zBA zBJ zC1
attribute [local go_sem] ptrB_eq ptrO_eq ptrIs_eq aggL_eq aggIs_eq zS ze zC zF zX zZ zV zH zJ
set_option maxRecDepth 100000 in
set_option maxHeartbeats 1000000 in
theorem zCo (w:World) (tb:Nat) (v:Value) (l:List Les) (ix:Key) (h:LTab w tb v l) (hl:l.length≤100000) (hix:ix.length=16) (h8:(ofL l ix).length≤12) :
  Calls Tryz.prog 65 #[.pointer (some ⟨tb,0,none⟩),.agg (bV ix).toArray] w fun e w'=>∃ vo out,e=.returned vo∧zAh zAv WfL 17 165 w' w.heap.size vo out∧OfR l ix out∧Below w.heap.size w w':=by
 have hcell:w.cell? ⟨tb,0,none⟩=some v:=by simpa using h.cell.cell 0
 have htb:=h.cell.lt
 have htb1:tb < w.heap.size+1:=by omega
 obtain ⟨a0,c0,hv,hg⟩:=zAE h.own
 obtain ⟨n,hn⟩:∃ n,n=l.length:=⟨_,rfl⟩
 rw [← hn] at hl
 have H:=Lib.hid (And.intro h (And.intro hn (And.intro hv hg)))
 rw [hv,← hn] at hcell
 have H8:=Lib.hid h8
 clear h hn hv hg h8
 go_enter Tryz.func65,Tryz.ntmps65
 go_upto_region 3 with fail
 have hB0:Below w.heap.size w ((w.alloc (.cells (bV ix).toArray 39)).alloc (.cells #[.slice none 0 0] 131)):=((Below.refl _ _).alloc (Nat.le_refl _) _).alloc (by simp) _
 have hk1:Blk ((w.alloc (.cells (bV ix).toArray 39)).alloc (.cells #[.slice none 0 0] 131)) w.heap.size (bV ix).toArray 39:=(Blk.new _ _ _).alloc _
 have hk2:Blk ((w.alloc (.cells (bV ix).toArray 39)).alloc (.cells #[.slice none 0 0] 131)) (w.heap.size+1) #[.slice none 0 0] 131:=Blk.new_at _ _ _ _ (by simp)
 obtain ⟨w0,hw0⟩:∃ x,x=(w.alloc (.cells (bV ix).toArray 39)).alloc (.cells #[.slice none 0 0] 131):=⟨_,rfl⟩
 have hsz:w0.heap.size=w.heap.size+2:=by rw [hw0];simp
 rw [← hw0] at hB0 hk1 hk2 ⊢
 clear hw0
 obtain ⟨p3,hp3⟩:∃ p,p=w.heap.size:=⟨_,rfl⟩
 obtain ⟨p5,hp5⟩:∃ p,p=w.heap.size+1:=⟨_,rfl⟩
 rw [← hp5] at hk2 ⊢
 rw [← hp3] at hk1 ⊢
 have HP:=Lib.hid (And.intro hp3 (And.intro hp5 (And.intro hsz hB0)))
 clear hp3 hp5 hsz hB0
 go_loopw [13] (fun vi wr=>∃ (i:Nat) (a5:Option Addr) (n5 c5:Nat),i≤n∧vi=.int .i64 i∧Hid (zAh zAv WfL 17 165 wr (p5+1) (.slice a5 n5 c5) (ofL (l.take i) ix)∧Blk wr p3 (bV ix).toArray 39∧Blk wr p5 #[.slice a5 n5 c5] 131∧Chg (fun k=>w.heap.size≤k) w wr)) (fun vi _=>n - (intOf vi).toNat)
 case atStart=>exact ⟨0,none,0,0,Nat.zero_le _,rfl,zAh.nil _ _ _ _ _ _,hk1,hk2,Chg.of_below HP.out.2.2.2⟩
 case round =>
  obtain ⟨i,a5,n5,c5,hi0,rfl,G⟩:=hrel
  have l5:=G.out.2.2.1.lt
  have q5:wr.cell? ⟨p5,0,none⟩=some (.slice a5 n5 c5):=by simpa using G.out.2.2.1.cell 0
  by_cases hin:i < n
  · obtain ⟨g,rfl⟩:=H.out.2.2.2 (by have:=H.out.2.1;omega)
    have hrow:=(H.out.1.row H.out.2.1.symm (by rw [H.out.2.1];exact H.out.2.2.1)).below (G.out.2.2.2.below (Nat.le_refl _) (fun _ h=>h))
    have hx:l[i]?=some (l[i]'(by have:=H.out.2.1;omega)):=by simp
    generalize l[i]'(by have:=H.out.2.1;omega)=x at hx
    have hwx:=hrow.wf x (List.mem_of_getElem? hx)
    have rx:zN 33 wr g (i*33)=zi x:=zA3 (hrow.range hx) (zAL hwx)
    have t1:zY 33 wr g (i*33):=hrow.there hin
    have ax:=zBa hwx
    have lx:=zAL hwx
    have k1:=(zGX hwx).1
    have k2:=zMF hwx
    have gl:g < wr.heap.size:=hrow.lt
    have r3:zN 16 wr p3 0=bV ix:=zP G.out.2.1 (by rw [zB,hix])
    have h3:zY 16 wr p3 0:=zL G.out.2.1 (by simp [zB,hix])
    have l3:=G.out.2.1.lt
    have e1:=zGr x.ix ix hwx.1 hix
    have i0:(0:Int)≤(i:Int):=by omega
    have i1:(i:Int) < (n:Int):=by omega
    have hs:=zNa hx ix
    have HX:=Lib.hid (And.intro hx hs)
    have wl:WfL (x.sec,x.e):=hwx.2
    have al:=allL wl
    obtain ⟨cx,hcx⟩:∃ c,c=zi x:=⟨_,rfl⟩
    rw [← hcx] at rx ax lx k1 k2
    obtain ⟨y,hy⟩:∃ y,y=(x.sec,x.e):=⟨_,rfl⟩
    have HY:=Lib.hid hy
    rw [← hy] at k2 wl al
    obtain ⟨cy,hcy⟩:∃ c,c=zAv y:=⟨_,rfl⟩
    have HC:=Lib.hid hcy
    rw [← hcy] at k2 al
    have hend:Chg (fun k=>w.heap.size≤k) w (wr.alloc (.cells cx.toArray 175)):=G.out.2.2.2.trans_below ((Below.refl _ _).alloc (Nat.le_refl _) _)
    have HE:=Lib.hid hend
    have hown:zAh zAv WfL 17 165 (wr.alloc (.cells cx.toArray 175)) (p5+1) (.slice a5 n5 c5) (ofL (l.take i) ix):=G.out.1.chg (S:=fun _=>False) (Chg.of_below ((Below.refl _ _).alloc (Nat.le_refl _) _)) (fun _ _ h=>h)
    have HO:=Lib.hid hown
    clear hrow hx hcx hs hend hown hy hcy
    by_cases c1:x.ix=ix
    · have d1:decide (x.ix=ix)=true:=by simpa using c1
      have hs:=HX.out.2
      rw [if_pos c1] at hs
      have HS:=Lib.hid hs
      replace c1:=Lib.hid c1
      clear hs
      have hle:(ofL (l.take i) ix).length+1≤4294967296:=by
       have h1:(ofL (l.take i) ix).length≤(l.take i).length:=by unfold ofL;rw [List.length_map];exact List.length_filter_le _ _
       rw [List.length_take] at h1
       omega
      have HLE:=Lib.hid hle
      clear hle
      go_wp2_with
       (first
        | (refine zBV EKl ecL (by rfl) _ _ (by rfl) (base:=p5+1) (v:=.slice a5 n5 c5) (l:=ofL (l.take i) ix) (cx:=1) (e':=165) y wl (by rfl) (by rfl) (by rw [← HC.out];exact Blk.new_at _ _ _ _ (by simp)) (HO.out.chg (S:=fun _=>False) (Chg.of_below ((Below.refl _ _).alloc (Nat.le_refl _) _)) (fun _ _ h=>h)) HLE.out (by decide) (by simp;omega) ?_
           intro v1 x1 hv1 hg1 hs1
           obtain ⟨a1,n1,rfl⟩:=hv1.slice
           have hB1:Blk x1 p5 #[.slice a5 n5 c5] 131:=Blk.grown' ((G.out.2.2.1.alloc _).alloc _) hg1 (fun e=>by have:=G.out.1.ge e;omega)
           have hh:x1.cell? ⟨p5,0,none⟩=some (.slice a5 n5 c5):=by simpa using hB1.cell 0
           have f2:x1.frozen? ⟨p5,0,none⟩=false:=hB1.free 0
           have HV1:=Lib.hid hv1;have HG1:=Lib.hid hg1;have HS1:=Lib.hid hs1;have HB1:=Lib.hid hB1
           clear hv1 hg1 hs1 hB1)
        | fail)
      have hv:=HV1.out
      rw [List.length_append,List.length_singleton] at hv
      have hp3:p3 < p5:=by rw [HP.out.1,HP.out.2.1];omega
      have hp5:w.heap.size≤p5:=by rw [HP.out.2.1];omega
      refine ⟨⟨i+1,a1,_,n1,by omega,by simp,?_,?_,HB1.out.set 0 _,?_⟩,by show n - ((i:Int)+1).toNat < n - (i:Int).toNat;omega⟩
      · rw [HS.out,← HY.out]
        exact hv.chg (zD4 x1 p5 0 _) (fun q hq e=>by have:=hv.ge hq;omega)
      · exact (Blk.grown' ((G.out.2.1.alloc _).alloc _) HG1.out (fun e=>by have:=G.out.1.ge e;omega)).set_other (fun e=>by have e':p5=p3:=e;omega) _
      · exact ((HE.out.trans_below ((Below.refl _ _).alloc (Nat.le_refl _) _)).grown HG1.out (fun q hq=>by left;have:=G.out.1.ge hq;omega)).set (a:=⟨p5,0,none⟩) hp5 _
    · have d1:decide (x.ix=ix)=false:=by simpa using c1
      have hs:=HX.out.2
      rw [if_neg c1,List.append_nil] at hs
      have HS:=Lib.hid hs
      clear c1 hs
      go_wp2_with fail
      exact ⟨⟨i+1,a5,n5,c5,by omega,by simp,by rw [HS.out];exact HO.out,G.out.2.1.alloc _,G.out.2.2.1.alloc _,HE.out⟩,by show n - ((i:Int)+1).toNat < n - (i:Int).toNat;omega⟩
  · go_wp2_with fail
    have hfull:ofL (l.take i) ix=ofL l ix:=by rw [List.take_of_length_le (by have:=H.out.2.1;omega)]
    have hown:=G.out.1
    rw [hfull] at hown
    have hlen:n5=(ofL l ix).length:=by
     obtain ⟨_,_,e⟩:=hown.slice
     cases e;rfl
    have hB:=G.out.2.2.2.below (Nat.le_refl _) (fun _ h=>h)
    have hp5:w.heap.size≤p5:=by rw [HP.out.2.1];omega
    have HO:=Lib.hid (And.intro hown (And.intro hlen (And.intro hB hp5)))
    clear hown hlen hB hp5 hfull
    by_cases h2:2≤n5
    · obtain ⟨g5,c5',e5,hrow⟩:=HO.out.1.ex (by rw [← HO.out.2.1];omega)
      injection e5 with ea en ec
      subst ea
      subst ec
      rw [← HO.out.2.1] at hrow
      clear en
      have HR:=Lib.hid hrow
      have hne:p5≠g5:=fun e=>by have:=HO.out.1.ge (g:=g5) rfl;omega
      clear hrow
      refine (zJi wr p5 (p5+1) g5 n5 c5 (ofL l ix) HR.out G.out.2.2.1 hne h2 (by rw [HO.out.2.1];exact H8.out)).mono ?_
      rintro e w2 ⟨rfl,out,hr2,hp2,hs2,hc2⟩
      have hb2:=hc2.blk G.out.2.2.1 hne
      have q2:w2.cell? ⟨p5,0,none⟩=some (.slice (some ⟨g5,0,none⟩) n5 c5):=by simpa using hb2.cell 0
      have H2:=Lib.hid (And.intro hr2 (And.intro hp2 (And.intro hs2 hc2)))
      clear hr2 hp2 hs2 hc2 hb2
      go_wp2_with fail
      go_ret
      refine ⟨_,out,rfl,H2.out.1.to.lower (by have:=HO.out.2.2.2;omega),⟨H2.out.2.1,H2.out.2.2.1⟩,?_⟩
      exact ((Chg.of_below (S:=fun k=>w.heap.size≤k) HO.out.2.2.1).mix H2.out.2.2.2 (fun k hk=>.inl (by have:=HO.out.1.ge (g:=g5) rfl;have:=HO.out.2.2.2;omega))).below (Nat.le_refl _) (fun _ h=>h)
    · refine (zJj wr a5 n5 c5 (by omega) p5).mono ?_
      rintro e w2 ⟨rfl,hc2⟩
      have hb2:=hc2.blk G.out.2.2.1 (fun h=>h)
      have q2:w2.cell? ⟨p5,0,none⟩=some (.slice a5 n5 c5):=by simpa using hb2.cell 0
      have H2:=Lib.hid hc2
      clear hc2 hb2
      go_wp2_with fail
      go_ret
      refine ⟨_,ofL l ix,rfl,(HO.out.1.chg H2.out (fun _ _ h=>h)).lower (by have:=HO.out.2.2.2;omega),⟨List.Perm.refl _,?_⟩,?_⟩
      · rw [List.pairwise_iff_getElem]
        intro p q hp hq hpq
        have:=HO.out.2.1
        omega
      · exact ((Chg.of_below (S:=fun k=>w.heap.size≤k) HO.out.2.2.1).mix H2.out (fun k hk=>hk.elim)).below (Nat.le_refl _) (fun _ h=>h)
end Go.Proofs.YtbbojbdigiibbaaGreatDoor
end
section
namespace Go.Proofs.YtbbojbdigiibbaaGreatDoor
open Go Go.RowKit Go.Mem Gf Lea
theorem _root_.Go.Proofs.YtbbojbdigiibbaaGreatDoor.LTab.below {w w':World} {tb:Nat} {v:Value} {l:List Les} (h:LTab w tb v l) (hb:Below w.heap.size w w'):LTab w' tb v l :=
 ⟨h.cell.kept hb,zAg (S:=fun _=>False) h.own (Chg.of_below hb) (fun _ _ h=>h),h.wf,h.apart⟩
theorem _root_.Go.Proofs.YtbbojbdigiibbaaGreatDoor.Heap.below {w w':World} {tb:Nat} {v:Value} {l:List Les} (h:Heap w tb v l) (hb:Below w.heap.size w w'):Heap w' tb v l:=⟨h.tab.below hb,h.heap⟩
theorem zAt.pre {tb:Nat} {v v':Value} {w w1 w2:World} (hb:Below w.heap.size w w1) (h:zAt tb v v' w1 w2):zAt tb v v' w w2 :=
 ⟨(Chg.of_below hb).trans h.1,fun k hk=>by
   rcases h.2 k hk with h | h
   · exact .inl h
   · exact .inr (Nat.le_trans hb.size h)⟩
theorem zAt.same {tb:Nat} {v:Value} {w w':World} (hb:Below w.heap.size w w'):zAt tb v v w w':=⟨Chg.of_below hb,fun _ hk=>.inl hk⟩
set_option maxRecDepth 100000 in
theorem zDb (e:Int) (w:World):Calls Tryz.prog 152 #[.int .i64 e] w fun r w'=>r=.returned (.bool (decide (May e)))∧w'=w:=by
 by_cases c1:1≤e
 · have d1:decide (1≤e)=true:=by simpa using c1
   have hr:decide (May e)=decide (e≤1048576):=by unfold May;simp [c1]
   go_enter Tryz.func152,Tryz.ntmps152
   go_wp2_with fail
   go_ret
   exact ⟨by first | rfl | (rw [hr];rfl),rfl⟩
 · have d1:decide (1≤e)=false:=by simpa using c1
   have hr:decide (May e)=false:=by unfold May;simp [c1]
   go_enter Tryz.func152,Tryz.ntmps152
   go_wp2_with fail
   go_ret
   exact ⟨by first | rfl | (rw [hr];rfl),rfl⟩
theorem _root_.Lea.Row.setEnd {ti:TypeId} {w:World} {base g n cap:Nat} {l:List Les} (h:Row ti w base g n cap l) {i:Nat} {x y:Les} {e:Int} (hi:i < n) (hx:l[i]?=some x) (hy:y=⟨x.ix,x.sec,e⟩) :
  Row ti (w.setCell ⟨g,i*33+16+16,none⟩ (.int .i64 e)).drew base g n cap (l.set i y):=by
 have hwx:=h.wf x (List.mem_of_getElem? hx)
 have hwy:Wf y:=by rw [hy];exact hwx
 obtain ⟨cur,hh,hb,h1,h2,h3,h4⟩:=h.block
 have hB:Blk w g cur ti:=hh
 have b1:=(hB.set (i*33+16+16) (.int .i64 e)).drew
 have hll:=h.len
 refine ⟨⟨?_,.inr ⟨g,cap,_,rfl,hb,b1,h1,h2,by rw [Array.size_setIfInBounds,h3],?_⟩⟩,by rw [List.length_set];exact hll,wf_set h.wf hwy⟩
 · rw [zAw _ (wf_set h.wf hwy),List.length_set,hll]
 · apply List.ext_getElem?
   intro j
   have hlen:=zAw _ (wf_set h.wf hwy (i:=i))
   rw [List.length_set] at hlen
   rw [List.getElem?_take,Array.getElem?_toList]
   by_cases hj:j < n*33
   · have hm:n*33≤cap*33:=Nat.mul_le_mul_right _ h1
     rw [if_pos hj,zGy l h.wf (by omega) hwy j (by omega),Array.getElem?_setIfInBounds]
     by_cases c:i*33+16+16=j
     · subst c
       rw [if_pos rfl,if_pos (by omega),if_pos (by omega),show i*33+16+16 - i*33=32 by omega,zGn hwy,hy]
     · rw [if_neg c,h4 j hj]
       by_cases c2:i*33≤j∧j < i*33+33
       · rw [if_pos c2]
         have hg:=zB4 l h.wf i x hx (j - i*33) (by omega)
         rw [show i*33+(j - i*33)=j by omega] at hg
         rw [hg,hy]
         unfold zi
         have l1:(bV x.ix++bV x.sec).length=32:=by rw [List.length_append,zB,zB,hwx.1,hwx.2]
         show (bV x.ix++bV x.sec++[.int .i64 x.e])[j - i*33]?=(bV x.ix++bV x.sec++[.int .i64 e])[j - i*33]?
         rw [List.getElem?_append_left (l₁:=bV x.ix++bV x.sec) (l₂:=[.int .i64 x.e]) (by omega),List.getElem?_append_left (l₁:=bV x.ix++bV x.sec) (l₂:=[.int .i64 e]) (by omega)]
       · rw [if_neg c2]
   · rw [if_neg hj,List.getElem?_eq_none (by omega)]
theorem zGj (dst:Option Tmp) (x y:Operand) (ty:TypeId) (pos:String) (af:Array Edge) (a:Act) (w:World) (K:Act→World→Prop) (Q:Exit→Act→World→Prop)
  (h1:(a.eval x).cells.size=16) (h2:(a.eval y).cells.size=17) :
  Oper.wp Tryz.prog ⟨dst,.build 175 #[(0,x),(1,y)],ty,pos,af,none⟩ a w K Q=K (a.put dst (.agg ((a.eval x).cells++(a.eval y).cells))) w :=
 zGK Tryz.underlying175 (by kernel_rfl) (by kernel_rfl) dst x y ty pos af a w K Q h1 h2
theorem zNW {y:Sec} (h:WfL y):zCi (zAv y).toArray 0 16=bV y.1:=by
 have h1:(bV y.1).length=16:=by rw [zB];exact h
 unfold zCi zAv
 simp [h1]
attribute [local go_sem ↓] Go.wp_at_zero Go.wp_at_succ
attribute [local go_sem ↓] zAK zBL zBA zBJ zC1 zGj
attribute [local go_sem] ptrB_eq ptrO_eq ptrIs_eq aggL_eq aggIs_eq zS ze zC zF zX zZ zV zH zJ
set_option maxRecDepth 100000 in
set_option maxHeartbeats 1000000 in
theorem zHe (w:World) (tb:Nat) (v:Value) (l:List Les) (ix sec:Key) (e:Int) (h:Heap w tb v l) (hg:Lea.Good l) (hl:l.length≤90000) (hix:ix.length=16) (hsec:sec.length=16) :
  Calls Tryz.prog 101 #[.pointer (some ⟨tb,0,none⟩),.agg (bV ix).toArray,.agg (zAv (sec,e)).toArray] w fun r w'=>∃ b v' l',r=.returned (.bool b)∧zBK l ix sec e b l'∧Heap w' tb v' l'∧zAt tb v v' w w':=by
 have wl:WfL (sec,e):=hsec
 obtain ⟨cy,hcy⟩:∃ c,c=zAv (sec,e):=⟨_,rfl⟩
 have k1:zCi cy.toArray 0 16=bV sec:=by rw [hcy];exact zNW wl
 have ly:cy.length=17:=by rw [hcy];exact ecL.len _ wl
 have ce:cy[16]?=some (.int .i64 e):=by rw [hcy];exact zFK wl
 have H:=Lib.hid (And.intro h (And.intro hg hcy))
 rw [← hcy]
 clear h hg hcy wl
 go_enter Tryz.func101,Tryz.ntmps101
 go_upto_region 1 with fail
 have hB0:Below w.heap.size w ((w.alloc (.cells (bV ix).toArray 39)).alloc (.cells cy.toArray 165)):=((Below.refl _ _).alloc (Nat.le_refl _) _).alloc (by simp) _
 have hk1:Blk ((w.alloc (.cells (bV ix).toArray 39)).alloc (.cells cy.toArray 165)) w.heap.size (bV ix).toArray 39:=(Blk.new _ _ _).alloc _
 have hk2:Blk ((w.alloc (.cells (bV ix).toArray 39)).alloc (.cells cy.toArray 165)) (w.heap.size+1) cy.toArray 165:=Blk.new_at _ _ _ _ (by simp)
 obtain ⟨w0,hw0⟩:∃ x,x=(w.alloc (.cells (bV ix).toArray 39)).alloc (.cells cy.toArray 165):=⟨_,rfl⟩
 rw [← hw0] at hB0 hk1 hk2 ⊢
 clear hw0
 obtain ⟨p4,hp4⟩:∃ p,p=w.heap.size:=⟨_,rfl⟩
 obtain ⟨p5,hp5⟩:∃ p,p=w.heap.size+1:=⟨_,rfl⟩
 rw [← hp5] at hk2 ⊢
 rw [← hp4] at hk1 ⊢
 have HP:=Lib.hid (And.intro hp4 (And.intro hp5 hB0))
 clear hp4 hp5 hB0
 have r4:zN 16 w0 p4 0=bV ix:=zP hk1 (by rw [zB,hix])
 have h4:zY 16 w0 p4 0:=zL hk1 (by simp [zB,hix])
 have r5:zN 16 w0 p5 0=bV sec:=by
  rw [← k1]
  exact zCE hk2 (by unfold zCi;simp [ly]) (fun k hk=>by unfold zCi;simp [hk])
 have h5:zY 16 w0 p5 0:=zL hk2 (by simp [ly])
 have hT0:Heap w0 tb v l:=H.out.1.below HP.out.2.2
 have HT:=Lib.hid hT0
 have HK:=Lib.hid (And.intro hk1 hk2)
 clear hT0 hk1 hk2
 go_wp2_with fail
 refine (zGs w0 tb v l ix sec HT.out.tab (by omega) hix hsec).mono ?_
 rintro r w1 ⟨k,rfl,hF,hB1⟩
 have hk1:=HK.out.1.kept hB1
 have hk2:=HK.out.2.kept hB1
 have hT1:=HT.out.below hB1
 have r4:zN 16 w1 p4 0=bV ix:=zP hk1 (by rw [zB,hix])
 have h4:zY 16 w1 p4 0:=zL hk1 (by simp [zB,hix])
 have q5:w1.cell? ⟨p5,16,none⟩=some (.int .i64 e):=by rw [hk2.cell];simpa using ce
 have hB:Below w.heap.size w w1:=HP.out.2.2.trans (hB1.mono HP.out.2.2.size)
 have H1:=Lib.hid (And.intro hk1 (And.intro hk2 (And.intro hT1 hB)))
 clear hk1 hk2 hT1 hB hB1 ce
 rcases hF with ⟨rfl,hno⟩ | ⟨i,x,rfl,hx,e1,e2⟩
 · have HNO:=Lib.hid hno
   clear hno
   go_upto_region 4 with fail
   by_cases hm:May e
   · have d1:decide (May e)=true:=by simpa using hm
     replace hm:=Lib.hid hm
     go_wp2_with fail
     refine (zDb _ _).mono ?_
     rintro r w2 ⟨rfl,rfl⟩
     go_wp2_with fail
     refine (zCo w2 tb v l ix H1.out.2.2.1.tab (by omega) hix (by have:=H.out.2.1.few ix;omega)).mono ?_
     rintro r w3 ⟨vo,out,rfl,hO,hR,hB3⟩
     obtain ⟨po,co,rfl⟩:=hO.slice
     obtain ⟨m,hm'⟩:∃ m,m=out.length:=⟨_,rfl⟩
     rw [← hm']
     have hlen:(ofL l ix).length=m:=by rw [hm',hR.perm.length_eq]
     have hk1:=H1.out.1.kept hB3
     have hk2:=H1.out.2.1.kept hB3
     have hT3:=H1.out.2.2.1.below hB3
     have hB:=H1.out.2.2.2.trans (hB3.mono H1.out.2.2.2.size)
     have r4:zN 16 w3 p4 0=bV ix:=zP hk1 (by rw [zB,hix])
     have h4:zY 16 w3 p4 0:=zL hk1 (by simp [zB,hix])
     have r5:zN 17 w3 p5 0=cy:=zP hk2 ly
     have h5:zY 17 w3 p5 0:=zL hk2 (by simp [ly])
     have H3:=Lib.hid (And.intro hT3 (And.intro hB hlen))
     clear hk1 hk2 hT3 hB hlen hO hR hB3 hm'
     by_cases c8:8≤m
     · have d8:decide ((8:Int)≤(m:Int))=true:=by simp;omega
       replace c8:=Lib.hid c8
       go_wp2_with fail
       go_ret
       exact ⟨false,v,l,rfl,.no (.inr ⟨HNO.out,by rw [H3.out.2.2];exact c8.out⟩),H3.out.1,zAt.same H3.out.2.1⟩
     · have d8:decide ((8:Int)≤(m:Int))=false:=by simp;omega
       replace c8:=Lib.hid c8
       have wx:Wf ⟨ix,sec,e⟩:=⟨hix,hsec⟩
       obtain ⟨cz,hcz⟩:∃ c,c=zi ⟨ix,sec,e⟩:=⟨_,rfl⟩
       have hcat:bV ix++cy=cz:=by rw [hcz,H.out.2.2];unfold zi zAv;rw [List.append_assoc]
       have hcat2:(bV ix).toArray++cy.toArray=cz.toArray:=by rw [← hcat];simp
       have hbi:(bV ix).length=16:=by rw [zB,hix]
       have hpush:∀ W,Heap W tb v l→Calls Tryz.prog 153 #[.iface 177 (.pointer (some ⟨tb,0,none⟩)),.iface 175 (.agg cz.toArray)] W fun r w'=>r=.returned (.tuple #[])∧∃ v' l',Heap w' tb v' l'∧l'.Perm (l++[⟨ix,sec,e⟩])∧zAt tb v v' W w':=fun W hW=>by
        rw [hcz]
        exact zJY W tb v l ⟨ix,sec,e⟩ hW wx (by omega)
       have HPU:=Lib.hid hpush
       have hB3:Below w.heap.size w w3.drew:=H3.out.2.1.drew
       have hT3:Heap w3.drew tb v l:=⟨⟨H3.out.1.tab.cell,H3.out.1.tab.own,H3.out.1.tab.wf,H3.out.1.tab.apart⟩,H3.out.1.heap⟩
       have H4:=Lib.hid (And.intro hB3 hT3)
       clear hcz hpush wx hB3 hT3
       go_upto_region 7 with fail
       go_region_with (refine (HPU.out _ H4.out.2).mono ?_;rintro r w4 ⟨rfl,v4,l4,hT4,hP4,hC4⟩)
       all_goals
        go_wp2_with fail
        go_ret
        exact ⟨true,v4,l4,rfl,.new l4 hm.out HNO.out (by rw [H3.out.2.2];have:=c8.out;omega) hP4,hT4,hC4.pre H4.out.1⟩
   · have d1:decide (May e)=false:=by simpa using hm
     replace hm:=Lib.hid hm
     go_wp2_with fail
     refine (zDb _ _).mono ?_
     rintro r w2 ⟨rfl,rfl⟩
     go_wp2_with fail
     go_ret
     exact ⟨false,v,l,rfl,.no (.inl hm.out),H1.out.2.2.1,zAt.same H1.out.2.2.2⟩
 · have hi:i < l.length:=zq hx
   have d0:decide ((i:Int) < 0)=false:=by simp
   have HX:=Lib.hid (And.intro hx (And.intro e1 e2))
   clear hx e1 e2
   go_upto_region 4 with fail
   by_cases hm:May e
   · have d1:decide (May e)=true:=by simpa using hm
     replace hm:=Lib.hid hm
     obtain ⟨g,cap,rfl,hrow⟩:=H1.out.2.2.1.tab.ex (by omega)
     have hc:w1.cell? ⟨tb,0,none⟩=some (.slice (some ⟨g,0,none⟩) l.length cap):=by simpa using H1.out.2.2.1.tab.cell.cell 0
     have qe:=hrow.ends HX.out.1
     have fe:=(hrow.there hi 32 (by decide)).2
     obtain ⟨n,hn⟩:∃ n,n=l.length:=⟨_,rfl⟩
     rw [← hn] at hc hi
     have HR:=Lib.hid (And.intro hrow hn)
     have i0:(0:Int)≤(i:Int):=by omega
     have i1:(i:Int) < (n:Int):=by omega
     clear hrow hn
     go_wp2_with fail
     refine (zDb _ _).mono ?_
     rintro r w2 ⟨rfl,rfl⟩
     go_upto_region 2 with fail
     go_region
     all_goals
      obtain ⟨y,hy⟩:∃ y:Les,y=⟨x.ix,x.sec,max x.e e⟩:=⟨_,rfl⟩
      have hr2:=HR.out.1.setEnd (by rw [← HR.out.2];exact hi) HX.out.1 hy
      have hc2:Chg (fun b=>b=g) w2 (w2.setCell ⟨g,i*33+16+16,none⟩ (.int .i64 (max x.e e))).drew:=(zD4 w2 g _ _).drew
      have hT2:=(H1.out.2.2.1.tab.row' (l':=l.set i y) rfl hr2 hc2)
      have hfp:=zON (l:=l) (n:=n) (k:=i) (by rw [HR.out.2];exact H1.out.2.2.1.heap) hi (by rw [HR.out.2];exact Nat.le_refl _) y
      have HT2:=Lib.hid (And.intro hT2 (And.intro hc2 (And.intro hfp hy)))
      obtain ⟨w3,hw3⟩:∃ w3,w3=(w2.setCell ⟨g,i*33+16+16,none⟩ (.int .i64 (max x.e e))).drew:=⟨_,rfl⟩
      rw [← hw3] at HT2 ⊢
      clear hw3 hr2 hc2 hT2 hfp hy
      have q3:w3.cell? ⟨tb,0,none⟩=some (.slice (some ⟨g,0,none⟩) l.length cap):=by simpa using HT2.out.1.cell.cell 0
      go_wp2_with fail
      refine (zKs w3 tb _ (l.set i y) i n (by rw [List.length_set,HR.out.2]) HT2.out.1 (by rw [HR.out.2];omega) hi HT2.out.2.2.1.1 HT2.out.2.2.1.2).mono ?_
      rintro r w4 ⟨rfl,l4,hT4,hP4,hC4⟩
      go_wp2_with fail
      go_ret
      refine ⟨true,_,l4,rfl,.more i x l4 hm.out HX.out.1 HX.out.2.1 HX.out.2.2 ?_,hT4,((zAt.of HT2.out.2.1).trans hC4).pre H1.out.2.2.2⟩
      rw [← HX.out.2.1,← HX.out.2.2,← HT2.out.2.2.2]
      exact hP4
   · have d1:decide (May e)=false:=by simpa using hm
     replace hm:=Lib.hid hm
     go_wp2_with fail
     refine (zDb _ _).mono ?_
     rintro r w2 ⟨rfl,rfl⟩
     go_wp2_with fail
     go_ret
     exact ⟨false,v,l,rfl,.no (.inl hm.out),H1.out.2.2.1,zAt.same H1.out.2.2.2⟩
end Go.Proofs.YtbbojbdigiibbaaGreatDoor
end
section
namespace Go.Proofs.YtbbojbdigiibbaaGreatDoor
open Go Go.RowKit Go.Mem Gf Lea
attribute [local go_sem ↓] Go.wp_at_zero Go.wp_at_succ
attribute [local go_sem ↓] zAK zBL zBA zBJ zCJ zC1 zGj
attribute [local go_sem] ptrB_eq ptrO_eq ptrIs_eq aggL_eq aggIs_eq zS ze zC zF zX zZ zV zH zJ
theorem _root_.Go.Proofs.YtbbojbdigiibbaaGreatDoor.LTab.chg {S:Nat→Prop} {w w':World} {tb:Nat} {v:Value} {l:List Les} (h:LTab w tb v l) (hc:Chg S w w') (h1:¬ S tb) (h2:∀ g,v.ownBlock=some g→¬ S g):LTab w' tb v l :=
 ⟨hc.blk h.cell h1,zAg h.own hc h2,h.wf,h.apart⟩
theorem zAT {k:Key} (h:k.length=16):zCi (bV k).toArray 0 16=bV k∧(bV k).length=16:=by
 have h1:(bV k).length=16:=by rw [zB];exact h
 exact ⟨by unfold zCi;rw [List.toList_toArray,List.drop_zero,List.take_of_length_le (by omega)],h1⟩
set_option maxRecDepth 100000 in
set_option maxHeartbeats 1000000 in
theorem zIP (w:World) (tb:Nat) (v:Value) (l:List Les) (ix sec:Key) (h:Heap w tb v l) (hl:l.length≤90000) (hix:ix.length=16) (hsec:sec.length=16) :
  Calls Tryz.prog 103 #[.pointer (some ⟨tb,0,none⟩),.agg (bV ix).toArray,.agg (bV sec).toArray] w fun r w'=>∃ b v' l',r=.returned (.bool b)∧CancelR l ix sec b l'∧Heap w' tb v' l'∧zAt tb v v' w w':=by
 have H:=Lib.hid h
 have k1:=(zAT hix).1
 have k2:=(zAT hix).2
 have k3:=(zAT hsec).1
 have k4:=(zAT hsec).2
 clear h
 go_enter Tryz.func103,Tryz.ntmps103
 have hB0:Below w.heap.size w ((w.alloc (.cells (bV ix).toArray 39)).alloc (.cells (bV sec).toArray 39)):=((Below.refl _ _).alloc (Nat.le_refl _) _).alloc (by simp) _
 have HB:=Lib.hid hB0
 clear hB0
 go_wp2_with fail
 refine (zGs _ tb v l ix sec (H.out.below HB.out).tab (by omega) hix hsec).mono ?_
 rintro r w1 ⟨k,rfl,hF,hB1⟩
 have hT1:=(H.out.below HB.out).below hB1
 have H1:=Lib.hid (And.intro hT1 (HB.out.trans (hB1.mono HB.out.size)))
 clear hT1 hB1
 rcases hF with ⟨rfl,hno⟩ | ⟨i,x,rfl,hx,e1,e2⟩
 · have HNO:=Lib.hid hno
   clear hno
   go_wp2_with fail
   go_ret
   exact ⟨false,v,l,rfl,.no HNO.out,H1.out.1,zAt.same H1.out.2⟩
 · have d0:decide ((i:Int) < 0)=false:=by simp
   have HX:=Lib.hid (And.intro hx (And.intro e1 e2))
   clear hx e1 e2
   go_wp2_with fail
   refine (zHV w1 tb v l i x H1.out.1 HX.out.1 (by omega)).mono ?_
   rintro r w2 ⟨rfl,v2,l2,h1,h2,h3⟩
   go_wp2_with fail
   go_ret
   exact ⟨true,v2,l2,rfl,.gone x l2 HX.out.2.1 HX.out.2.2 h2,h1,h3.pre H1.out.2⟩
set_option maxRecDepth 100000 in
theorem zMP (w:World):Calls Tryz.prog 39 #[] w fun r w'=>∃ tb,r=.returned (.pointer (some ⟨tb,0,none⟩))∧w.heap.size≤tb∧Heap w' tb (.slice none 0 0) []∧Below w.heap.size w w':=by
 go_enter Tryz.func39,Tryz.ntmps39
 go_wp2_with fail
 go_ret
 refine ⟨_,rfl,Nat.le_refl _,⟨⟨Blk.new _ _ _,World.ownsRow_nil _ _ _ _,(fun _ h=>by cases h),by simp [Value.ownBlock]⟩,(fun c h1 h2=>by simp at h2)⟩,(Below.refl _ _).alloc (Nat.le_refl _) _⟩
theorem zJg {y:Sec} (h:WfL y):(zAv y).toArray[16]?=some (.int .i64 y.2):=by
 simpa using zFK h
def zLW (l:List Les) (ix:Key) (now:Int):Prop:=∃ x∈l,x.ix=ix∧now < x.e
set_option maxRecDepth 100000 in
set_option maxHeartbeats 1000000 in
theorem zIZ (w:World) (tb:Nat) (v:Value) (l:List Les) (ix:Key) (now:Int) (h:LTab w tb v l) (hl:l.length≤90000) (hix:ix.length=16) (h8:(ofL l ix).length≤12) :
  Calls Tryz.prog 50 #[.pointer (some ⟨tb,0,none⟩),.agg (bV ix).toArray,.int .i64 now] w fun r w'=>∃ b,r=.returned (.bool b)∧(b=true↔zLW l ix now)∧Below w.heap.size w w':=by
 have H:=Lib.hid h
 have k1:=(zAT hix).1
 have k2:=(zAT hix).2
 clear h
 have HB:Hid (Below w.heap.size w (w.alloc (.cells (bV ix).toArray 39))):=(Below.refl _ _).alloc (Nat.le_refl _) _
 go_enter Tryz.func50,Tryz.ntmps50
 go_wp2_with fail
 refine (zCo _ tb v l ix (H.out.below HB.out) (by omega) hix h8).mono ?_
 rintro r w1 ⟨vo,out,rfl,hO,hR,hB1⟩
 obtain ⟨po,co,rfl⟩:=hO.slice
 have hgo:0 < out.length→∃ g,po=some ⟨g,0,none⟩:=fun hp=>by
  obtain ⟨g,cap,e,_⟩:=hO.ex hp
  injection e with ea
  exact ⟨g,ea⟩
 have hmem:∀ b:Bool,(b=true↔∃ s∈out,now < s.2)→(b=true↔zLW l ix now):=fun b hb=>by
  rw [hb]
  constructor
  · rintro ⟨s,hs,hlt⟩
    obtain ⟨x,hx,e1,e2⟩:=zBs.1 (hR.perm.mem_iff.1 hs)
    exact ⟨x,hx,e1,by rw [← e2] at hlt;exact hlt⟩
  · rintro ⟨x,hx,e1,hlt⟩
    exact ⟨_,hR.perm.mem_iff.2 (zBs.2 ⟨x,hx,e1,rfl⟩),hlt⟩
 obtain ⟨n,hn⟩:∃ n,n=out.length:=⟨_,rfl⟩
 rw [← hn] at hgo ⊢
 have hn8:n≤12:=by rw [hn,hR.perm.length_eq];exact h8
 have H1:=Lib.hid (And.intro hO (And.intro hn (And.intro hgo (And.intro hmem (HB.out.trans (hB1.mono HB.out.size))))))
 clear hO hn hgo hmem hR hB1
 go_upto_region 2 with fail
 go_loopw [13] (fun vi wr=>∃ i:Nat,i≤n∧vi=.int .i64 i∧Hid ((∀ s∈out.take i,¬ now < s.2)∧Below w1.heap.size w1 wr)) (fun vi _=>n - (intOf vi).toNat)
 case atStart=>exact ⟨0,Nat.zero_le _,rfl,(fun s hs=>by simp at hs),Below.refl _ _⟩
 case round =>
  obtain ⟨i,hi0,rfl,G⟩:=hrel
  by_cases hin:i < n
  · obtain ⟨g,rfl⟩:=H1.out.2.2.1 (by omega)
    have hrow0:zAq zAv WfL 17 165 w1 (w.alloc (.cells (bV ix).toArray 39)).heap.size g n co out:=by
     obtain ⟨g',cap',e,hr⟩:=H1.out.1.ex (by have:=H1.out.2.1;omega)
     injection e with ea _ ec
     injection ea with ea
     injection ea with ea
     rw [← ea,← ec,← H1.out.2.1] at hr
     exact hr
    have hrow:=hrow0.chg (S:=fun _=>False) (Chg.of_below G.out.2) (fun h=>h)
    have hx:out[i]?=some (out[i]'(by have:=H1.out.2.1;omega)):=by simp
    generalize out[i]'(by have:=H1.out.2.1;omega)=x at hx
    have hwx:=hrow.wf x (List.mem_of_getElem? hx)
    have rx:=hrow.read ecL hx
    have t1:zY 17 wr g (i*17):=hrow.there hin
    have ax:=allL hwx
    have lx:=ecL.len x hwx
    have ce:=zJg hwx
    have gl:g < wr.heap.size:=hrow.lt
    have i0:(0:Int)≤(i:Int):=by omega
    have i1:(i:Int) < (n:Int):=by omega
    have HX:=Lib.hid hx
    obtain ⟨cx,hcx⟩:∃ c,c=zAv x:=⟨_,rfl⟩
    rw [← hcx] at rx ax lx ce
    have ce2:cx[16]'(by omega)=.int .i64 x.2:=by
     rw [List.getElem?_toArray,List.getElem?_eq_getElem (by omega)] at ce
     exact Option.some.inj ce
    have HE:=Lib.hid (G.out.2.alloc G.out.2.size (.cells cx.toArray 165))
    clear hrow hrow0 hx hcx
    by_cases c1:now < x.2
    · have d1:decide (now < x.2)=true:=by simpa using c1
      replace c1:=Lib.hid c1
      go_wp2_with fail
      go_ret
      exact .inr ⟨rfl,(H1.out.2.2.2.1 true ⟨fun _=>⟨x,List.mem_of_getElem? HX.out,c1.out⟩,fun _=>rfl⟩).1 rfl,H1.out.2.2.2.2.trans (HE.out.mono H1.out.2.2.2.2.size)⟩
    · have d1:decide (now < x.2)=false:=by simpa using c1
      replace c1:=Lib.hid c1
      go_wp2_with fail
      refine ⟨⟨i+1,by omega,by simp,fun s hs=>?_,HE.out⟩,by show n - ((i:Int)+1).toNat < n - (i:Int).toNat;omega⟩
      rw [List.take_add_one,HX.out] at hs
      rcases List.mem_append.1 hs with hs | hs
      · exact G.out.1 s hs
      · simp at hs
        rw [hs];exact c1.out
  · go_wp2_with fail
    go_ret
    refine .inl ⟨rfl,fun hlv=>Bool.noConfusion ((H1.out.2.2.2.1 false ⟨fun h=>by (cases h),fun ⟨s,hs,hlt⟩=>?_⟩).2 hlv),H1.out.2.2.2.2.trans (G.out.2.mono H1.out.2.2.2.2.size)⟩
    have:=G.out.1 s (by rw [List.take_of_length_le (by have:=H1.out.2.1;omega)];exact hs)
    omega
end Go.Proofs.YtbbojbdigiibbaaGreatDoor
end
section
namespace Lea
def z16:Key:=List.replicate 16 0
end Lea
namespace Go.Proofs.YtbbojbdigiibbaaGreatDoor
open Go Go.RowKit Go.Mem Gf Lea
def zFP (v:Value):Array Value:=(v::List.replicate 15 (.int .u8 0)).toArray
def isU8:Value→Bool
 | .int .u8 _=>true
 | _=>false
def zNS:Value→Bool
 | .int .i64 _=>true
 | _=>false
@[simp] theorem isU8_eq (n:Int):isU8 (.int .u8 n)=true:=rfl
@[simp] theorem isI64_eq (n:Int):zNS (.int .i64 n)=true:=rfl
theorem zM8 (n:Int):Tryz.prog.built 39 [(0,.int .u8 n)]=some (zFP (.int .u8 n)):=by kernel_rfl
theorem zOF:Tryz.prog.built 39 []=some (zFP (.int .u8 0)):=by kernel_rfl
theorem zM9 (n:Int):Tryz.prog.built 165 [(1,.int .i64 n)]=some (zFP (.int .u8 0)++#[.int .i64 n]):=by kernel_rfl
theorem zGk (dst:Option Tmp) (x:Operand) (ty:TypeId) (pos:String) (af:Array Edge) (gd:Option (Tmp × Bool)) (a:Act) (w:World) (K:Act→World→Prop) (Q:Exit→Act→World→Prop) (h:isU8 (a.eval x)=true) :
  Oper.wp Tryz.prog ⟨dst,.build 39 #[(0,x)],ty,pos,af,gd⟩ a w K Q=K (a.put dst (.agg (zFP (a.eval x)))) w:=by
 unfold Oper.wp execOp
 have e:∃ n,a.eval x=.int .u8 n:=by
  unfold isU8 at h
  split at h
  · rename_i n e;exact ⟨n,e⟩
  · cases h
 obtain ⟨n,e⟩:=e
 have hr:=run_build (P:=Tryz.prog) w 39 #[(0,a.eval x)] (zFP (a.eval x)) (by rw [e];exact zM8 n)
 simp only [List.map_toArray,List.map_cons,List.map_nil,Sem.run_bind,hr,Result.andThen_ok]
 rfl
theorem zOD (dst:Option Tmp) (ty:TypeId) (pos:String) (af:Array Edge) (gd:Option (Tmp × Bool)) (a:Act) (w:World) (K:Act→World→Prop) (Q:Exit→Act→World→Prop) :
  Oper.wp Tryz.prog ⟨dst,.build 39 #[],ty,pos,af,gd⟩ a w K Q=K (a.put dst (.agg (zFP (.int .u8 0)))) w:=by
 unfold Oper.wp execOp
 have hr:=run_build (P:=Tryz.prog) w 39 #[] (zFP (.int .u8 0)) zOF
 simp only [List.map_toArray,List.map_nil,Sem.run_bind,hr,Result.andThen_ok]
 rfl
theorem zM6 (dst:Option Tmp) (x:Operand) (ty:TypeId) (pos:String) (af:Array Edge) (gd:Option (Tmp × Bool)) (a:Act) (w:World) (K:Act→World→Prop) (Q:Exit→Act→World→Prop) (h:zNS (a.eval x)=true) :
  Oper.wp Tryz.prog ⟨dst,.build 165 #[(1,x)],ty,pos,af,gd⟩ a w K Q=K (a.put dst (.agg (zFP (.int .u8 0)++#[a.eval x]))) w:=by
 unfold Oper.wp execOp
 have e:∃ n,a.eval x=.int .i64 n:=by
  unfold zNS at h
  split at h
  · rename_i n e;exact ⟨n,e⟩
  · cases h
 obtain ⟨n,e⟩:=e
 have hr:=run_build (P:=Tryz.prog) w 165 #[(1,a.eval x)] (zFP (.int .u8 0)++#[a.eval x]) (by rw [e];exact zM9 n)
 simp only [List.map_toArray,List.map_cons,List.map_nil,Sem.run_bind,hr,Result.andThen_ok]
 rfl
theorem zD2 (dst:Option Tmp) (x y:Operand) (ty:TypeId) (pos:String) (af:Array Edge) (a:Act) (w:World) (K:Act→World→Prop) (Q:Exit→Act→World→Prop)
  (h1:(a.eval x).cells.size=16) (h2:(a.eval y).cells.size=1) :
  Oper.wp Tryz.prog ⟨dst,.build 165 #[(0,x),(1,y)],ty,pos,af,none⟩ a w K Q=K (a.put dst (.agg ((a.eval x).cells++(a.eval y).cells))) w :=
 zGK Tryz.underlying165 (by kernel_rfl) (by kernel_rfl) dst x y ty pos af a w K Q h1 h2
theorem zLq:z16.length=16:=by simp [z16]
attribute [local go_sem ↓] Go.wp_at_zero Go.wp_at_succ
attribute [local go_sem ↓] zGk zOD zM6 zD2
attribute [local go_sem] isU8_eq isI64_eq
end Go.Proofs.YtbbojbdigiibbaaGreatDoor
namespace Go.Proofs.YtbbojbdigiibbaaGreatDoor
open Go Go.RowKit Go.Mem Gf Lea
section
variable {W wr w':World} {tb p6:Nat} {vt v':Value} {lt l':List Les}
end
end Go.Proofs.YtbbojbdigiibbaaGreatDoor
end
section
namespace Go.Mem
open Go Go.RowKit
section
variable {w w':World} {v:Value} {xs:List Int}
end
end Go.Mem
end
section
namespace Go.Mem
open Go Go.ChangeShapes Go.WideShapes Go.ChangeAt Go.RowKit
theorem byte_of_wf {x:Int} (h:(Lit.int .u8 x).wf=true):∃ n:Nat,n < 256∧x=(n:Int):=by
 simp [Lit.wf,IntKind.min,IntKind.max,IntKind.signed,IntKind.bits] at h
 exact ⟨x.toNat,by omega,by omega⟩
theorem zME {x:Int} (h:(Lit.int .i64 x).wf=true):-9223372036854775808≤x∧x≤9223372036854775807:=by
 simp [Lit.wf,IntKind.min,IntKind.max,IntKind.signed,IntKind.bits] at h
 exact ⟨by omega,by omega⟩
theorem zHf {w:World} {a:Addr} {v:Value} (h:w.cell? a=some v):a=⟨a.block,a.off,none⟩:=by
 obtain ⟨b,o,s⟩:=a
 unfold World.cell? at h
 cases s with
 | none=>rfl
 | some n =>
   split at h
   · simp at h
   · cases h
theorem add_plain (b off i:Nat):(⟨b,off,none⟩:Addr).add i=⟨b,off+i,none⟩:=by
 unfold Addr.add
 split
 · subst_vars;rfl
 · rfl
section
variable {P:Program} {H:Type} {enc:TypeId × Value→H} {W:World} {base:Nat}
theorem zJq {t e:TypeId} {v:Value} {x:DataW H × List MemPlace} {spare:Nat→Bool} {held:Bool} (ht:P.underlying t=some (.slice e)) (he:P.underlying e=some (.int .u8)) (hc:P.cellsOf e=1)
  (hs:∃ a len cap,v=.slice a len cap) (h:∃ fuel,DataW.trod enc P W base spare held fuel t v.cells.toList=some x):∃ bs,Bys W v bs:=by
 obtain ⟨a,len,cap,rfl⟩:=hs
 obtain ⟨fuel,hf⟩:=h
 rcases open_ints ht he hc hf with ⟨hcs,_⟩ | ⟨a',len',cap',zs,hcs,_,hl,hm,hz,_,hcell,hwz⟩
 · simp [Value.cells] at hcs
   obtain ⟨rfl,rfl,rfl⟩:=hcs
   exact ⟨[],Bys.nil W⟩
 · simp [Value.cells] at hcs
   obtain ⟨rfl,rfl,rfl⟩:=hcs
   have hzl:len≤zs.length:=by rw [hz];split <;> omega
   have hlen:((zs.take len).map fun z=>UInt8.ofNat z.toNat).length=len:=by simp;omega
   refine ⟨(zs.take len).map fun z=>UInt8.ofNat z.toNat,some a',cap,by rw [hlen],by rw [hlen];exact hl,hm,fun hp=>?_⟩
   rw [hlen] at hp
   have h0:=hcell 0 (by omega)
   have ha:a'=⟨a'.block,a'.off,none⟩:=zHf (a:=a') (by simpa [Addr.add] using h0)
   refine ⟨a'.block,a'.off,by rw [← ha],fun i u hi=>?_⟩
   have hil:i < len:=by
    rcases Nat.lt_or_ge i len with h | h
    · exact h
    · rw [List.getElem?_eq_none (by rw [hlen];exact h)] at hi;cases hi
   have hci:=hcell i (by omega)
   rw [ha,add_plain] at hci
   rw [hci]
   have hzi:zs[i]?=some zs[i]:=List.getElem?_eq_getElem (by omega)
   have hu:u=UInt8.ofNat zs[i].toNat:=by
    simp only [List.getElem?_map,List.getElem?_take,hil,if_true,hzi,Option.map_some,Option.some.injEq] at hi
    exact hi.symm
   have hw:=hwz zs[i] (List.getElem_mem _)
   obtain ⟨n,hn,hx⟩:=byte_of_wf hw
   rw [List.getD_eq_getElem?_getD,hzi,hu,hx]
   simp [UInt8.toNat_ofNat']
   omega
end
end Go.Mem
end
section
namespace Go.Mem
open Go Go.ChangeShapes Go.WideShapes Go.ChangeAt Go.RowKit Gf
def zBH (P:Program) (t:TypeId) {α:Type} (R:World→List Value→α→Prop):Prop :=
 ∀ {H:Type} {enc:TypeId × Value→H} {W:World} {base:Nat} {spare:Nat→Bool} {held:Bool} {fuel:Nat} {cs:List Value} {x:DataW H × List MemPlace},DataW.trod enc P W base spare held fuel t cs=some x→∃ d:α,R W cs d
section
variable {P:Program}
theorem zHy {t:TypeId} {k:IntKind} (ht:P.underlying t=some (.int k)):zBH P t (fun _ cs (z:Int)=>cs=[.int k z]∧(Lit.int k z).wf=true):=fun h=>by
 obtain ⟨z,h1,_,h2⟩:=DataW.trod_int ht h
 exact ⟨z,h1,h2⟩
theorem zBj {t:TypeId} (ht:P.underlying t=some (.int .i64)):zBH P t (fun _ cs (z:Int)=>cs=[.int .i64 z]∧-9223372036854775808≤z∧z≤9223372036854775807):=fun h=>by
 obtain ⟨z,h1,h2⟩:=zHy ht h
 exact ⟨z,h1,zME h2⟩
theorem zNb {t:TypeId} (ht:P.underlying t=some (.int .u8)):zBH P t (fun _ cs (u:UInt8)=>cs=[.int .u8 (u.toNat:Int)]):=fun h=>by
 obtain ⟨z,h1,h2⟩:=zHy ht h
 obtain ⟨n,hn,rfl⟩:=byte_of_wf h2
 exact ⟨UInt8.ofNat n,by show _=_;rw [h1,Gf.zHM _ hn]⟩
theorem zK4 {t:TypeId} (ht:P.underlying t=some .bool):zBH P t (fun _ cs (b:Bool)=>cs=[.bool b]):=fun h=>by
 obtain ⟨b,h1,_⟩:=DataW.trod_bool ht h
 exact ⟨b,h1⟩
theorem zJt {t t8:TypeId} (ht:P.underlying t=some (.slice t8)) (h8:P.underlying t8=some (.int .u8)) (c8:P.cellsOf t8=1):zBH P t (fun W cs (bs:List UInt8)=>∃ v,cs=[v]∧Bys W v bs):=fun {_ _ W _ _ _ _ cs x} h=>by
 have hsl:∃ a len cap,cs=[.slice a len cap]:=by
  rcases open_ints ht h8 c8 h with ⟨h9,_⟩ | ⟨a2,l2,cp2,_,h9,_⟩
  · exact ⟨_,_,_,h9⟩
  · exact ⟨_,_,_,h9⟩
 obtain ⟨a,l,c,rfl⟩:=hsl
 obtain ⟨bs,hbs⟩:=zJq (v:=.slice a l c) ht h8 c8 ⟨_,_,_,rfl⟩ ⟨_,h⟩
 exact ⟨bs,_,rfl,hbs⟩
theorem zDa {α:Type} {p:Nat→α→Prop}:∀ (n:Nat),(∀ i,i < n→∃ d,p i d)→∃ l:List α,l.length=n∧∀ i d,l[i]?=some d→p i d
 | 0,_=>⟨[],rfl,fun i d h=>by simp at h⟩
 | n+1,h=>by
   obtain ⟨l,h1,h2⟩:=zDa n fun i hi=>h i (by omega)
   obtain ⟨d,hd⟩:=h n (by omega)
   refine ⟨l++[d],by simp [h1],fun i d' hi=>?_⟩
   by_cases e:i < l.length
   · rw [List.getElem?_append_left e] at hi;exact h2 i d' hi
   · rw [List.getElem?_append_right (by omega)] at hi
     by_cases e2:i=l.length
     · subst e2;rw [Nat.sub_self] at hi;cases hi;rw [h1];exact hd
     · rw [List.getElem?_eq_none (by simp;omega)] at hi;cases hi
theorem zJs {t e:TypeId} {n c:Nat} {α:Type} {R:World→List Value→α→Prop} (ht:P.underlying t=some (.array n e)) (hc:P.cellsOf e=c) (hR:zBH P e R) :
  zBH P t (fun W cs (l:List α)=>l.length=n∧cs.length=P.cellsOf t∧∀ i d,l[i]?=some d→R W ((cs.drop (i*c)).take c) d):=fun {_ _ W _ _ _ _ cs x} h=>by
 obtain ⟨xs,m,_,_,hl,hx,hel⟩:=DataW.trod_array ht h
 rw [hc] at hel
 obtain ⟨l,h1,h2⟩:=zDa (p:=fun i d=>R W ((cs.drop (i*c)).take c) d) n fun i hi=>by
  have:=hel i hi
  rw [List.getElem?_eq_getElem (by omega)] at this
  exact hR this
 exact ⟨l,h1,hl,h2⟩
theorem zET {t t8:TypeId} {n:Nat} (ht:P.underlying t=some (.array n t8)) (h8:P.underlying t8=some (.int .u8)) (c8:P.cellsOf t8=1) (ct:P.cellsOf t=n):zBH P t (fun _ cs (k:List UInt8)=>k.length=n∧cs=bV k):=fun {_ _ W _ _ _ _ cs x} h=>by
 obtain ⟨l,h1,h2,h3⟩:=zJs ht c8 (zNb h8) h
 refine ⟨l,h1,?_⟩
 apply List.ext_getElem?
 intro i
 rw [zAr]
 by_cases hi:i < n
 · have:=h3 i l[i] (List.getElem?_eq_getElem (by omega))
   rw [Nat.mul_one] at this
   have h4:=congrArg (fun l=>l[0]?) this
   simp only [List.getElem?_take,List.getElem?_drop] at h4
   simp at h4
   rw [List.getElem?_eq_getElem (show i < l.length by omega)]
   simpa using h4
 · rw [List.getElem?_eq_none (by omega),List.getElem?_eq_none (by omega)];rfl
theorem zx {t:TypeId} {fs:Array Field} (ht:P.underlying t=some (.struct fs)) {H:Type} {enc:TypeId × Value→H} {W:World} {base:Nat} {spare:Nat→Bool} {held:Bool} {fuel:Nat} {cs:List Value} {x:DataW H × List MemPlace}
  (h:DataW.trod enc P W base spare held fuel t cs=some x) {α:Type} {R:World→List Value→α→Prop} (i:Nat) (f:Field) (hf:fs[i]?=some f) (hR:zBH P f.type R):∃ d,R W ((cs.drop f.offset).take (P.cellsOf f.type)) d:=by
 obtain ⟨xs,n,_,_,_,hl,hx⟩:=DataW.trod_struct ht h
 have hi:i < fs.size:=by
  rcases Nat.lt_or_ge i fs.size with h | h
  · exact h
  · rw [Array.getElem?_eq_none h] at hf;cases hf
 have:=hx i f hf
 rw [List.getElem?_eq_getElem (by omega)] at this
 exact hR this
theorem zEx {t:TypeId} {fs:Array Field} (ht:P.underlying t=some (.struct fs)) {H:Type} {enc:TypeId × Value→H} {W:World} {base:Nat} {spare:Nat→Bool} {held:Bool} {fuel:Nat} {cs:List Value} {x:DataW H × List MemPlace}
  (h:DataW.trod enc P W base spare held fuel t cs=some x):cs.length=P.cellsOf t:=by
 obtain ⟨xs,n,_,_,hl,_,_⟩:=DataW.trod_struct ht h
 exact hl
def Sls (c:Nat) {α:Type} (R:World→List Value→α→Prop) (W:World) (v:Value) (l:List α):Prop :=
 ∃ a cap,v=.slice a l.length cap∧l.length≤cap∧cap≤maxLen ∧
   (0 < l.length→∃ b off,a=some ⟨b,off,none⟩∧∀ i d,l[i]?=some d→∃ cs:List Value,cs.length=c∧(∀ j v,cs[j]?=some v→W.cell? ⟨b,off+i*c+j,none⟩=some v)∧R W cs d)
theorem zED {t e:TypeId} {c:Nat} {α:Type} {R:World→List Value→α→Prop} (ht:P.underlying t=some (.slice e)) (hc:P.cellsOf e=c) (h0:0 < c) (hR:zBH P e R) :
  zBH P t (fun W cs (l:List α)=>∃ v,cs=[v]∧Sls c R W v l):=fun {_ _ W _ _ _ _ cs x} h=>by
 rcases Deep.open_slice ht h with ⟨hcs,_⟩ | ⟨a',len',cap',m,n,D,Pl,hcs,_,hl,hm,hmm,_,hx⟩
 · exact ⟨[],_,hcs,none,0,rfl,Nat.le_refl _,Nat.zero_le _,fun h=>by simp at h⟩
 · have hlm:len'≤m:=by rw [hmm];split <;> omega
   rw [hc] at hx
   obtain ⟨l,h1,h2⟩:=zDa (p:=fun i d=>∃ cs:List Value,cs.length=c∧(∀ j,j < c→W.cell? ((a'.add (i*c)).add j)=cs[j]?)∧R W cs d) len' fun i hi=>by
    obtain ⟨cs',k1,k2⟩:=hx i (by omega)
    obtain ⟨_,k3,k4⟩:=World.cells?_some k1
    obtain ⟨d,hd⟩:=hR k2
    exact ⟨d,cs',k3,k4,hd⟩
   refine ⟨l,_,hcs,some a',cap',by rw [h1],by rw [h1];exact hl,hm,fun hp=>?_⟩
   obtain ⟨cs0,k3,k4,_⟩:=h2 0 l[0] (List.getElem?_eq_getElem hp)
   have ha:a'=⟨a'.block,a'.off,none⟩:=by
    have:=k4 0 h0
    rw [List.getElem?_eq_getElem (by omega)] at this
    exact zHf (a:=a') (by simpa [Addr.add] using this)
   refine ⟨a'.block,a'.off,by rw [← ha],fun i d hi=>?_⟩
   obtain ⟨cs',k5,k6,k7⟩:=h2 i d hi
   refine ⟨cs',k5,fun j v hj=>?_,k7⟩
   have hjc:j < c:=by
    rcases Nat.lt_or_ge j c with h | h
    · exact h
    · rw [List.getElem?_eq_none (by omega)] at hj;cases hj
   have:=k6 j hjc
   rw [ha,add_plain,add_plain,hj] at this
   exact this
theorem zMR {t:TypeId} {α:Type} {R:World→Value→α→Prop} (hO:zBH P t (fun W cs d=>∃ v,cs=[v]∧R W v d)) {H:Type} {enc:TypeId × Value→H} {W:World} {base:Nat} {spare:Nat→Bool} {held:Bool} {v:Value} {x:DataW H × List MemPlace}
  (hv:∃ a len cap,v=.slice a len cap) (h:∃ fuel,DataW.trod enc P W base spare held fuel t v.cells.toList=some x):∃ d,R W v d:=by
 obtain ⟨a,len,cap,rfl⟩:=hv
 obtain ⟨fuel,hf⟩:=h
 obtain ⟨d,v',e,hr⟩:=hO hf
 simp [Value.cells] at e
 subst e
 exact ⟨d,hr⟩
theorem Sls.len {c:Nat} {α:Type} {R:World→List Value→α→Prop} {W:World} {v:Value} {l:List α} (h:Sls c R W v l):l.length≤9223372036854775807:=by
 obtain ⟨a,cap,_,h1,h2,_⟩:=h
 unfold maxLen at h2;omega
theorem Sls.below {c:Nat} {α:Type} {R:World→List Value→α→Prop} (hR:∀ w w' cs d,Below w.heap.size w w'→R w cs d→R w' cs d) {w w':World} {v:Value} {l:List α} (h:Sls c R w v l) (hb:Below w.heap.size w w'):Sls c R w' v l:=by
 obtain ⟨a,cap,h1,h2,h3,h4⟩:=h
 refine ⟨a,cap,h1,h2,h3,fun hp=>?_⟩
 obtain ⟨b,off,e,h5⟩:=h4 hp
 refine ⟨b,off,e,fun i d hi=>?_⟩
 obtain ⟨cs,h6,h7,h8⟩:=h5 i d hi
 exact ⟨cs,h6,fun j v hj=>(hb.cell (p:=⟨b,off+i*c+j,none⟩) (World.block_lt_of_cell? w _ (h7 j v hj))).trans (h7 j v hj),hR _ _ _ _ hb h8⟩
theorem Sls.at {c:Nat} {α:Type} {R:World→List Value→α→Prop} {w:World} {a:Option Addr} {n cap:Nat} {l:List α} (h:Sls c R w (.slice a n cap) l) (i:Nat) (hi:i < l.length) :
  ∃ b off d cs,a=some ⟨b,off,none⟩∧Hid (l[i]?=some d)∧cs.length=c∧(∀ j v,cs[j]?=some v→w.cell? ⟨b,off+i*c+j,none⟩=some v)∧R w cs d:=by
 obtain ⟨a',cap',e,h1,h2,h3⟩:=h
 obtain ⟨b,off,e',h4⟩:=h3 (by omega)
 injection e with e1 e2 e3
 obtain ⟨cs,h5,h6,h7⟩:=h4 i l[i] (List.getElem?_eq_getElem hi)
 exact ⟨b,off,l[i],cs,e1.trans e',by show l[i]?=_;simp [hi],h5,h6,h7⟩
theorem Sls.eq_slice {c:Nat} {α:Type} {R:World→List Value→α→Prop} {w:World} {v:Value} {l:List α} (h:Sls c R w v l):∃ a cap,v=.slice a l.length cap:=by
 obtain ⟨a,cap,e,_⟩:=h;exact ⟨a,cap,e⟩
end
end Go.Mem
end
section
namespace Go.Mem
open Go Go.RowKit Gf
def zBp (n:Nat) (w:World) (g o:Nat):Prop:=∀ j,j < n→(w.cell? ⟨g,o+j,none⟩).isSome=true
theorem zCA (n:Nat) (w:World) (g o:Nat):zBp n w.drew g o=zBp n w g o:=rfl
theorem zY.some {n:Nat} {w:World} {g o:Nat} (h:zY n w g o):zBp n w g o:=fun j hj=>(h j hj).1
theorem zFY {n:Nat} {w:World} {g o:Nat} {cs:List Value} (h:w.rangeAt g o cs) (hn:cs.length=n):zBp n w g o:=fun j hj=>by
 rw [h j (cs[j]'(by omega)) (List.getElem?_eq_getElem (by omega))];rfl
theorem zJ3 {n:Nat} {w:World} {g o:Nat} (h:zBp n w g o):w.rangeAt g o (zN n w g o):=fun j v hj=>by
 have hjn:j < n:=by
  rcases Nat.lt_or_ge j n with h | h
  · exact h
  · rw [List.getElem?_eq_none (by rw [zCZ];exact h)] at hj;cases hj
 obtain ⟨u,hu⟩:=Option.isSome_iff_exists.1 (h j hjn)
 rw [hu]
 unfold zN at hj
 rw [List.getElem?_map,List.getElem?_range hjn] at hj
 simp only [Option.map_some,hu,Option.getD_some] at hj
 exact hj
theorem zHQ {P:Program} {n:Nat} {t:TypeId} {d:TypeDesc} (hu:P.underlying t=some d) (hd:d.isRow=true) (hi:(P.info? t).map (·.size)=some n) (dst:Option Tmp) (x:Operand) (ty:TypeId) (pos:String) (af:Array Edge) (gd:Option (Tmp × Bool)) (a:Act) (w:World) (K:Act→World→Prop) (Q:Exit→Act→World→Prop)
  (hp:zAz (a.eval x)=true) (ht:zBp n w (zAM (a.eval x)) (zAN (a.eval x))) :
  Oper.wp P ⟨dst,.load t x,ty,pos,af,gd⟩ a w K Q=K (a.put dst (.agg (zN n w (zAM (a.eval x)) (zAN (a.eval x))).toArray)) w:=by
 unfold Oper.wp execOp
 have e:=zG9 hp
 have hl:=run_loadVar_mid (P:=P) w (zAM (a.eval x)) (zAN (a.eval x)) t (zN n w (zAM (a.eval x)) (zAN (a.eval x))) d (zJ3 ht) hu hd (by rw [hi,zCZ])
 simp only
 rw [e]
 simp only [ptrB_eq,ptrO_eq,Instr.loadAt,Instr.sureAddr,Sem.run_bind,Sem.run_pure,Result.andThen_ok,hl]
 rfl
end Go.Mem
end
section
namespace Go.Mem
open Go Go.ChangeShapes Go.WideShapes Go.ChangeAt Go.RowKit Gf Lea
end Go.Mem
namespace Go.Proofs.YtbbojbdigiibbaaGreatDoor
open Go Go.RowKit Go.Mem Gf
end Go.Proofs.YtbbojbdigiibbaaGreatDoor
namespace Go.Proofs.YtbbojbdigiibbaaGreatDoor
open Go Go.RowKit Go.Mem Gf Lea
attribute [local go_sem ↓] Go.wp_at_zero Go.wp_at_succ
attribute [local go_sem ↓] zBJ
attribute [local go_sem] ptrB_eq ptrO_eq ptrIs_eq aggL_eq aggIs_eq
end Go.Proofs.YtbbojbdigiibbaaGreatDoor
namespace Go.Proofs.YtbbojbdigiibbaaGreatDoor
open Go Go.RowKit Go.Mem Gf Lea
theorem zEQ (dst:Option Tmp) (x:Operand) (ty:TypeId) (pos:String) (af:Array Edge) (gd:Option (Tmp × Bool)) (a:Act) (w:World) (K:Act→World→Prop) (Q:Exit→Act→World→Prop)
  (hp:zAz (a.eval x)=true) (ht:zBp 16 w (zAM (a.eval x)) (zAN (a.eval x))) :
  Oper.wp Tryz.prog ⟨dst,.load 39 x,ty,pos,af,gd⟩ a w K Q=K (a.put dst (.agg (zN 16 w (zAM (a.eval x)) (zAN (a.eval x))).toArray)) w :=
 zHQ Tryz.underlying39 rfl i16 dst x ty pos af gd a w K Q hp ht
end Go.Proofs.YtbbojbdigiibbaaGreatDoor
namespace Go.Proofs.YtbbojbdigiibbaaGreatDoor
open Go Go.RowKit Go.Mem Gf Lea
section
variable {W wr w':World} {tb tu:Nat} {vt vu v':Value} {lt lu l':List Les}
end
end Go.Proofs.YtbbojbdigiibbaaGreatDoor
end
section
namespace Go.Tail
open Go
def zNN (P:Program) (C':World→Prop) (v:Value):Result Next→Prop
 | .ok (.value u) w'=>C' w'∧u=v
 | .ok .skip w'=>C' w'∧v=undef
 | .ok (.enter f args) w'=>Calls P f args w' (fun e w''=>e=.returned v∧C' w'')
 | _=>False
def goesAt (P:Program) (o:Oper) (a:Act) (C':World→Prop) (w:World) (v:Value):Prop:=zNN P C' v ((execOp a.eval o).run P w)
section
variable {P:Program} {ops:Array Oper} {md:Region.Mode} {U:Bool→World→Prop} {j0:Nat}
def YG (P:Program) (ops:Array Oper) (U:Bool→World→Prop) (j0 i:Nat) (o:Oper) (v:Value) (a:Act):Prop :=
 (Region.wanted o (yielded ops a.tmps)=true∧∀ b:Bool,(i=j0→b=false)→∀ w,U b w→goesAt P o a (U (if i=j0 then true else b)) w v) ∨
 (Region.wanted o (yielded ops a.tmps)=false∧v=undef∧i≠j0)
def Hd (P:Program) (md:Region.Mode) (ops:Array Oper) (U:Bool→World→Prop) (j0 n:Nat) (L:Array Bool→Act→Prop):Nat→Array Bool→Act→Prop
 | 0,listed,a=>L listed a
 | f+1,listed,a=>Region.ready md ops listed≠[]∧∀ i,i∈Region.ready md ops listed→i < n∧∃ oi v,ops[i]?=some oi∧YG P ops U j0 i oi v a∧Hd P md ops U j0 n L f (listed.setIfInBounds i true) (a.put oi.dst v)
end
end Go.Tail
end
