/- Texts of this proof,packed: SrvCopyT,SrvSweep,SrvSmallM,SrvSmall,SrvKindL,SrvPlay,SrvWeak,SrvHeld. -/
import Derived.Test.YtbbojbdigiibbaaGreatDoorPb19
import Derived.Test.YtbbojbdigiibbaaGreatDoorPb15
import Derived.Test.YtbbojbdigiibbaaGreatDoorPb14
import Derived.Test.YtbbojbdigiibbaaGreatDoorPb09
section
namespace Go.Mem
open Go Go.RowKit Gf Lea
theorem Sls.take {c:Nat} {α:Type} {R:World→List Value→α→Prop} {w:World} {a:Option Addr} {n cap:Nat} {l:List α} (h:Sls c R w (.slice a n cap) l) (m:Nat) (hm:m≤n):Sls c R w (.slice a m cap) (l.take m):=by
 obtain ⟨a',cap',e,h1,h2,h3⟩:=h
 injection e with e1 e2 e3
 subst e1 e2 e3
 refine ⟨a,cap,by rw [List.length_take,Nat.min_eq_left hm],by rw [List.length_take];omega,h2,fun hp=>?_⟩
 rw [List.length_take] at hp
 obtain ⟨b,off,e,h4⟩:=h3 (by omega)
 refine ⟨b,off,e,fun i d hi=>h4 i d ?_⟩
 rw [List.getElem?_take] at hi
 split at hi
 · exact hi
 · cases hi
theorem zGk {P:Program} {w:World} (t ty e:TypeId) (i:TypeInfo) (cap:Nat) (a:Option Addr) (ht:P.underlying t=some (.slice e)) (hi:P.info? e=some i) :
  (Builtin.append_ #[t,t] ty #[.slice none 0 0,.slice a 0 cap]).run P w=.ok (.slice none 0 0) w:=by
 cases a <;> simp [Builtin.append_,run_underlying ht,sizeOf,typeInfo,hi,Builtin.lenOf,Builtin.firstCells,loadCells,loadCellsFrom]
section
variable {P:Program} {w:World} {ops:Array Oper} {rest:List Oper} {o:Oper} {a:Act} {Q:Exit→Act→World→Prop}
theorem zNT {t e:TypeId} {z:Value} {size bytes:Nat} (E:zDV P t e z size bytes) (hgd:o.guard=none) (s x:Operand) (ho:o.op=.call { callee:=.builtin .append,args:=#[s,x],argTypes:=#[t,t] })
  (hs:a.eval s=.slice none 0 0) {ad:Option Addr} {cap:Nat} (hx:a.eval x=.slice ad 0 cap) (h:wpList P ops Q rest (a.put o.dst (.slice none 0 0)) w):wpList P ops Q (o::rest) a w:=by
 refine wpList_plain hgd fun K hK=>?_
 obtain ⟨i,hi,_⟩:=info_parts E.info
 have hrun:=zGk (P:=P) (w:=w) t o.type e i cap ad E.under hi
 unfold Oper.wp
 simp [execOp,ho,resolve,invoke,builtin,hs,hx,hrun,Result.andThen]
 exact hK _ _ h
end
def WfT (t:Tst):Prop:=t.want.length=32
theorem ecT:zEq zD7 WfT 34:=⟨fun x h=>zFp h,fun x v hv=>by
 unfold zD7 at hv
 rcases List.mem_cons.1 hv with rfl | hv
 · rfl
 · rcases List.mem_cons.1 hv with rfl | hv
   · rfl
   · exact zAJ _ v hv,by decide⟩
theorem zLv {w:World} {a:Option Addr} {n cap:Nat} {ts:List Tst} (h:Sls 34 zGe w (.slice a n cap) ts) (h0:0 < n):∃ b off,a=some ⟨b,off,none⟩∧b < w.heap.size∧∀ j u,(zCG zD7 ts)[j]?=some u→w.cell? ⟨b,off+j,none⟩=some u:=by
 obtain ⟨a',cap',e,h1,h2,h3⟩:=h
 injection e with e1 e2 e3
 subst e1 e2 e3
 obtain ⟨b,off,e,h4⟩:=h3 h0
 have hwf:∀ x∈ts,WfT x:=fun x hx=>by
  obtain ⟨i,hi⟩:=List.mem_iff_getElem?.1 hx
  obtain ⟨cs,_,_,h5⟩:=h4 i x hi
  exact h5.2
 have hc:∀ j u,(zCG zD7 ts)[j]?=some u→w.cell? ⟨b,off+j,none⟩=some u:=fun j u hj=>by
  have hlt:=zh hj
  rw [zCx ecT ts hwf] at hlt
  have hi:j / 34 < ts.length:=by omega
  have hp:ts[j / 34]?=some ts[j / 34]:=List.getElem?_eq_getElem hi
  obtain ⟨cs,_,h6,h7⟩:=h4 _ _ hp
  have e:=zBV ecT ts hwf _ _ hp (j % 34) (by omega)
  rw [show j / 34*34+j % 34=j from by omega,hj] at e
  have:=h6 (j % 34) u (by rw [h7.1];exact e.symm)
  rw [show off+j / 34*34+j % 34=off+j from by omega] at this
  exact this
 refine ⟨b,off,e,?_,hc⟩
 obtain ⟨cs,h5,h6,h7⟩:=h4 0 ts[0] (List.getElem?_eq_getElem h0)
 exact World.block_lt_of_cell? w _ (h6 0 _ (List.getElem?_eq_getElem (by omega)))
theorem zPJ {w:World} {v:Value} {ts:List Tst} (h:Sls 34 zGe w v ts):∀ x∈ts,WfT x:=fun x hx=>by
 obtain ⟨i,hi⟩:=List.mem_iff_getElem?.1 hx
 obtain ⟨a',cap',e,h1,h2,h3⟩:=h
 obtain ⟨b,off,e,h4⟩:=h3 (by have:=zh hi;omega)
 obtain ⟨cs,_,_,h5⟩:=h4 i x hi
 exact h5.2
theorem zAb.tests {e:TypeId} {w:World} {base:Nat} {v:Value} {ts:List Tst} {N:Nat→Prop} (h:zAb zD7 WfT 34 e w base v ts) (hl:ts.length≤1000000) (hN:∀ b,base≤b→b < w.heap.size→¬ N b):zDk w N v ts:=by
 obtain ⟨a,c,rfl⟩:=h.slice
 refine ⟨a,c,rfl,hl,h.wf,fun h0=>?_⟩
 obtain ⟨g,cap,arr,e2,hb,hB,hc,hm,hs,hcell⟩:=zL7 h.own h0
 injection e2 with e3 e4 e5
 refine ⟨g,0,e3,hB.lt,hN g hb hB.lt,fun i t ht j u hu=>?_⟩
 have hj:j < 34:=by have:=zh hu;rw [zFp (h.wf t (List.mem_of_getElem? ht))] at this;exact this
 have hi:=zh ht
 rw [Nat.zero_add,hB.cell,hcell _ (by omega),zBV ecT ts h.wf i t ht j hj]
 exact hu
end Go.Mem
namespace Go.Proofs.YtbbojbdigiibbaaGreatDoor
open Go Go.RowKit Go.Mem Gf Lea
set_option linter.unusedVariables false
theorem EKt:zDV Tryz.prog 45 66 (.agg (zD7 ⟨0,false,List.replicate 32 0⟩).toArray) 34 48:=⟨Tryz.underlying45,by kernel_rfl,rfl,by decide⟩
set_option maxRecDepth 100000 in
set_option maxHeartbeats 1000000 in
theorem zK7 (v:Value) (ts:List Tst) (n:Nat) (w:World) (h:Sls 34 zGe w v ts) :
  Calls Tryz.prog 49 #[v,.int .i64 n] w fun e w'=>(∃ v',e=.returned v'∧Sls 34 zGe w v' (ts.take n))∧w=w':=by
 obtain ⟨a,cap,rfl,h1,h2,h3⟩:=id h
 obtain ⟨l,hl'⟩:∃ l,l=ts.length:=⟨_,rfl⟩
 rw [← hl'] at h h1 ⊢
 have hl:l≤maxLen:=Nat.le_trans h1 h2
 have hl2:(l:Int)≤9223372036854775807:=by unfold maxLen at hl;omega
 have Hl:=Zh hl';have H3:=Zh h3;have H2:=Zh h2;have H0:=Zh h;clear hl' h3 h2 h hl
 by_cases hlt:n < l
 · go_enter Tryz.func49,Tryz.ntmps49
   go_wp2
   go_ret
   refine ⟨⟨_,rfl,?_⟩,rfl⟩
   show Sls 34 zGe w (.slice a (min (l:Int) (n:Int)).toNat cap) _
   rw [show (min (l:Int) (n:Int)).toNat=n from by omega]
   exact H0.o.take n (by have:=Hl.o;omega)
 · go_enter Tryz.func49,Tryz.ntmps49
   go_wp2
   go_ret
   refine ⟨⟨_,rfl,?_⟩,rfl⟩
   show Sls 34 zGe w (.slice a (min (l:Int) (n:Int)).toNat cap) _
   rw [show (min (l:Int) (n:Int)).toNat=l from by omega,List.take_of_length_le (by have:=Hl.o;omega)]
   exact H0.o
set_option maxRecDepth 100000 in
set_option maxHeartbeats 1000000 in
theorem zJc (v:Value) (ts:List Tst) (w:World) (h:Sls 34 zGe w v ts) (hn:ts.length≤1000000) :
  Calls Tryz.prog 48 #[v] w fun e w'=>∃ v',e=.returned v'∧zAb zD7 WfT 34 66 w' w.heap.size v' ts∧Below w.heap.size w w':=by
 obtain ⟨a,cap,rfl,h1,h2,h3⟩:=id h
 have hwf:=zPJ h
 obtain ⟨n,hl⟩:∃ n,n=ts.length:=⟨_,rfl⟩
 rw [← hl] at h h1 hn ⊢
 rcases Nat.eq_zero_or_pos n with h0 | h0
 · subst h0
   have ht:ts=[]:=List.eq_nil_of_length_eq_zero hl.symm
   have HT:=Zh ht
   clear h h3 hl ht hwf
   go_enter Tryz.func48,Tryz.ntmps48
   go_wp2_with (at_builtin;refine zNT EKt rfl _ _ rfl rfl rfl ?_)
   go_wp2
   go_ret
   refine ⟨_,rfl,?_,Below.refl _ _⟩
   rw [HT.o]
   exact ⟨World.ownsRow_nil _ _ _ _,fun x hx=>by cases hx⟩
 · obtain ⟨b,off,rfl,hb,hc⟩:=zLv h h0
   have H:=Zh (Zi hc (Zi hwf hl))
   clear h h3 hwf hl hc
   go_enter Tryz.func48,Tryz.ntmps48
   go_wp2_with (at_builtin;refine zJR EKt ecT rfl _ _ rfl rfl (L:=b) (off:=off) (n:=n) (cap:=cap) (l:=ts) H.o.2.1 rfl H.o.2.2.symm H.o.1 (Nat.le_trans h1 h2) (by omega) ?_)
   intro v' w' ho hb'
   go_wp2
   go_ret
   exact ⟨_,rfl,ho,hb'⟩
set_option maxRecDepth 100000 in
set_option maxHeartbeats 1000000 in
theorem zJb (v:Value) (bs:List UInt8) (w:World) (h:Bys w v bs) (hl:bs.length≤140737488355328) :
  Calls Tryz.prog 47 #[v] w fun e w'=>∃ v',e=.returned v'∧zBj 5 w' w.heap.size v' bs∧Below w.heap.size w w':=by
 go_enter Tryz.func47,Tryz.ntmps47
 go_wp2_with (at_builtin;refine zMN E8 rfl _ _ rfl (base:=w.heap.size) (v:=.slice none 0 0) (bs:=[]) (news:=bs) rfl rfl (zBj.nil _ _ _) h (by simp;omega) (Nat.le_refl _) ?_)
 intro v' w1 hown hg
 go_wp2
 go_ret
 exact ⟨v',rfl,hown,zAo hg rfl⟩
end Go.Proofs.YtbbojbdigiibbaaGreatDoor
end
section
namespace Go.Mem
open Go Go.RowKit Gf Lea Go.Proofs.YtbbojbdigiibbaaGreatDoor
def noL (nm:ByteArray):Bool:=!(((nm.data.toList.getD 0 0).toNat:Int) == 108)
def swN (s:zF) (ix:Key):List ByteArray:=((s.shares ix).map fun x=>zJ ix x.1.toNat)++[zAM ix,zD ix]
def zx:List ByteArray→St→Bool→Bool × Int × St
 | [],st,told=>(told,0,st)
 | n::l,st,told=>if (st.get n).isSome=true then (if (zA8 st n).1=0 then zx l (zA8 st n).2 (told || noL n) else (told,(zA8 st n).1,(zA8 st n).2)) else zx l st told
theorem zDF {s:zF} {ix:Key}:∀ {k:Nat} {x:zP},x∈s.sharesK ix k→∃ m:Nat,m < k∧x.1=m∧s.st.get (zJ ix m)=some x.2
 | 0,x,h=>by simp [zF.sharesK] at h
 | k+1,x,h=>by
   rw [zF.sharesK_succ,List.mem_append] at h
   rcases h with h | h
   · obtain ⟨m,h1,h2,h3⟩:=zDF h
     exact ⟨m,by omega,h2,h3⟩
   · cases hg:s.st.get (zJ ix k) with
     | none=>rw [hg] at h;simp at h
     | some b =>
       rw [hg] at h
       simp at h
       subst h
       exact ⟨k,by omega,rfl,hg⟩
theorem zOO {s:zF} {ix:Key} (hix:ix.length=16):∀ nm∈swN s ix,0 < nm.size:=fun nm hn=>by
 unfold swN at hn
 rcases List.mem_append.1 hn with h | h
 · obtain ⟨x,_,rfl⟩:=List.mem_map.1 h
   rw [zCN _ _ hix];decide
 · simp only [List.mem_cons,List.mem_nil_iff,or_false] at h
   rcases h with rfl | rfl
   · rw [zIW _ hix];decide
   · rw [zC4 _ hix];decide
theorem zIn (s:St) (nm:ByteArray):(zA8 s nm).2.disk.writes≤s.disk.writes+1:=by
 unfold zA8
 split
 · exact Nat.le_succ _
 · split
   · exact Nat.le_succ _
   · exact zA.wr_writes _ _ _
end Go.Mem
namespace Go.Tail
open Go
section
variable {P:Program} {ops:Array Oper} {isM:Nat→Bool} {kn:Nat→Option Value} {J:(Nat→Bool)→(Nat→Value)→World→Prop}
theorem J_mov {z:Nat→Value} {Lq:Act→Prop} {o:Oper} {rest:List Oper} {k:Nat} {a:Act} (hk:isM k=true) (hw:Region.wanted o (yielded ops a.tmps)=true)
  (h1:∀ D z' w,D k=false→(∀ k',D k'=true→z k'=z' k')→(∀ k',dep .any ops isM k k'=true→D k'=true)→(∀ k',pre .any ops isM k' k=true→D k'=false)→J D z' w→∃ v w',(execOp a.eval o).run P w=.ok (.value v) w'∧(∀ c,kn k=some c→v=c)∧J (zAZ D k) (zAc z' k v) w')
  (h:wpJ P ops isM kn J z Lq rest (k+1) (a.put o.dst ((kn k).getD (z k)))):wpJ P ops isM kn J z Lq (o::rest) k a :=
 ⟨_,.inr (.inr ⟨hk,hw,rfl,fun D z' w hD hz hd hp hJ=>.inr (.inl (h1 D z' w hD hz hd hp hJ))⟩),h⟩
end
end Go.Tail
namespace Go.Mem
open Go Go.RowKit Gf
theorem zKa {P:Program} {t e:TypeId} {z:Value} {bytes:Nat} (E:Elem P t e z bytes) {o:Oper} {a:Act} {w:World} (s x:Operand) (ho:o.op=.call { callee:=.builtin .append,args:=#[s,x],argTypes:=#[t,t] })
  {base:Nat} {v:Value} {n m:Nat} {xs:List Value} (news:List Value) (hs:a.eval s=v) {mb:Nat} (hx:a.eval x=.slice (some ⟨mb,0,none⟩) m m) (hl:news.length=m) (hc:∀ j u,news[j]?=some u→w.cell? ⟨mb,j,none⟩=some u) (h1:∀ u∈news,u.oneCell'=true)
  (hown:w.ownsRow base e 1 v n xs) (hn:n+m≤4294967296) (hby:bytes≤4096) (hbase:base≤w.heap.size) :
  ∃ v' w',(execOp a.eval o).run P w=.ok (.value v') w'∧w'.ownsRow base e 1 v' (n+m) (xs++news)∧w.grownBy w' v.ownBlock∧(∀ k,v'.ownBlock=some k→v.ownBlock=some k∨w.heap.size≤k):=by
 obtain ⟨i,hi,hz,hsz,hb⟩:=info_parts E.info
 have hm:(n+m)*bytes≤4294967296*4096:=Nat.mul_le_mul hn hby
 obtain ⟨v',w',hr,h2,h3,h4⟩:=zBs (P:=P) w base t o.type e i z 1 bytes E.under hi hz hsz hb E.one (by decide) v n xs hown ⟨mb,0,none⟩ m m news (by omega)
  (fun j y hj=>by
   rw [show (⟨mb,0,none⟩:Addr).add j=⟨mb,j,none⟩ from by unfold Addr.add;split <;> simp_all]
   exact hc j y hj)
  h1 (by unfold maxLen;omega) (by omega) hbase
 refine ⟨v',w',?_,h2,h3,h4⟩
 unfold execOp
 simp only [ho,resolve,invoke,builtin,Sem.run_bind,Sem.run_pure,Result.andThen_ok,List.map_toArray,List.map_cons,List.map_nil,hs,hx,hr]
theorem app_ex {P:Program} {t e:TypeId} {z:Value} {bytes:Nat} (E:Elem P t e z bytes) {o:Oper} {a:Act} {w:World} (s x:Operand) (ho:o.op=.call { callee:=.builtin .append,args:=#[s,x],argTypes:=#[t,t] })
  {base:Nat} {v:Value} {n m:Nat} {xs:List Value} (news:List Value) (hs:a.eval s=v) {mb:Nat} (hx:a.eval x=.slice (some ⟨mb,0,none⟩) m m) (hl:news.length=m) (hc:∀ j u,news[j]?=some u→w.cell? ⟨mb,j,none⟩=some u) (h1:∀ u∈news,u.oneCell'=true)
  (hown:w.ownsRow base e 1 v n xs) (hn:n+m≤4294967296) (hby:bytes≤4096) (hbase:base≤w.heap.size) {R:Value→World→Prop}
  (h:∀ v' w',w'.ownsRow base e 1 v' (n+m) (xs++news)→w.grownBy w' v.ownBlock→R v' w'):∃ v' w',(execOp a.eval o).run P w=.ok (.value v') w'∧R v' w':=by
 obtain ⟨v',w',h2,h3,h4,_⟩:=zKa E s x ho news hs hx hl hc h1 hown hn hby hbase
 exact ⟨v',w',h2,h v' w' h3 h4⟩
end Go.Mem
namespace Go.Proofs.YtbbojbdigiibbaaGreatDoor
open Go Go.RowKit Go.Mem Gf Lea
set_option linter.unusedVariables false
theorem idx0 {nm:ByteArray} (h:0 < nm.size) (w:World):(Instr.index 9 (.string nm) (.int .i64 0)).run Tryz.prog w=.ok (.int .u8 ((nm.data.toList.getD 0 0).toNat:Int)) w:=by
 rw [run_index_string w 9 nm .i64 0 Tryz.underlying9,dif_pos ⟨by omega,by omega⟩]
 have e:nm[(0:Int).toNat]'(by simpa using h)=nm.data.toList.getD 0 0:=by
  have h1:0 < nm.data.toList.length:=by simpa using h
  rw [List.getD_eq_getElem?_getD,List.getElem?_eq_getElem h1]
  rfl
 rw [e]
theorem zMz {w:World} {base n g c:Nat} {t:TypeId} {L:List ByteArray} (h:w.ownsRow base t 1 (.slice (some ⟨g,0,none⟩) n c) n (L.map Value.string)) {i:Nat} {x:ByteArray} (hx:L[i]?=some x):w.cell? ⟨g,i,none⟩=some (.string x):=by
 have:=h.cells (g:=g) rfl i (.string x) (by rw [List.getElem?_map,hx];rfl)
 rw [show (⟨g,0,none⟩:Addr).add i=⟨g,i,none⟩ from by unfold Addr.add;split <;> simp_all] at this
 exact this
attribute [local go_sem ↓] Go.wp_at_zero Go.wp_at_succ
attribute [local go_sem ↓] zAN
attribute [local go_sem] ptrB_eq ptrO_eq ptrIs_eq aggL_eq aggIs_eq zT zg zC zG zZ ze
set_option maxRecDepth 20000 in
set_option maxHeartbeats 4000000 in
theorem zGa (C X:Nat→Prop) (pb:Nat) (s:zF) (ix:Key) (hix:ix.length=16) (w:World) (h:zR w C X pb s) (hw:s.st.disk.writes < 72057594037800000) :
  Calls Tryz.prog 61 #[.pointer (some ⟨pb,0,none⟩),.agg (bV ix).toArray] w fun e w'=>∃ told err st',e=.returned (.tuple #[.bool told,.int .i64 err])∧zx (swN s ix) s.st false=(told,err,st')∧zR w' C X pb { s with st:=st' }∧Chg C w w':=by
 have hb0:Below w.heap.size w (w.alloc (.cells (bV ix).toArray 39)):=(Below.refl _ _).alloc (Nat.le_refl _) _
 have hk0:Blk (w.alloc (.cells (bV ix).toArray 39)) w.heap.size (bV ix).toArray 39:=Blk.new _ _ _
 obtain ⟨ck,hck⟩:∃ c,c=bV ix:=⟨_,rfl⟩
 have k1:zCH ck.toArray 0 16=ck:=by rw [hck];exact (zAS hix).1
 have k2:ck.length=16:=by rw [hck,zB];exact hix
 have hu16:=Tryz.underlying39
 have hi16:(Tryz.prog.info? 39).map (·.size)=some ck.length:=by rw [k2];exact i16
 rw [← hck] at hb0 hk0 ⊢
 obtain ⟨wa,hwa⟩:∃ q,q=w.alloc (.cells ck.toArray 39):=⟨_,rfl⟩
 obtain ⟨p3,hp3⟩:∃ q,q=w.heap.size:=⟨_,rfl⟩
 rw [← hwa] at hb0 hk0
 rw [← hp3] at hk0
 have ra:zN 16 wa p3 0=ck:=zS hk0 k2
 have ga:zW 16 wa p3 0:=zO hk0 (by simp [k2])
 have H:=Zh (Zi h (Zi hb0 (Zi hk0 (Zi hp3 (Zi hix (Zi hck hw))))))
 have HW:=Zh hwa
 clear h hb0 hk0 hwa hp3 hix hck hw
 go_enter Tryz.func61,Tryz.ntmps61
 go_upto_region 1 with fail
 rw [← HW.o,← H.o.2.2.2.1]
 go_wp2_with fail
 refine (show Calls _ _ _ _ _ from (by rw [H.o.2.2.2.2.2.1];exact zDu C X pb s ix H.o.2.2.2.2.1 wa (H.o.1.below H.o.2.1))).mono ?_
 rintro e w1 ⟨u,rfl,hO,hb1⟩
 obtain ⟨ua,uc,rfl,hua⟩:=hO.slice
 have hat:=hO.mono (M:=fun _=>False) (fun _ h=>h.elim) |>.at (fun _ _ _ h=>h)
 obtain ⟨n,hn⟩:∃ n,n=(s.shares ix).length:=⟨_,rfl⟩
 have hn16:n≤16:=by rw [hn];exact zF.sharesK_len s ix 16
 rw [← hn] at hat ⊢
 obtain ⟨ua',uc',eu,_,_,hcell⟩:=hat
 have hcell:0 < n→∃ b off,ua=some ⟨b,off,none⟩∧b < w1.heap.size∧∀ (i:Nat) (x:zP),(s.shares ix)[i]?=some x→w1.cell? ⟨b,off+i*2,none⟩=some (.int .i64 x.1)∧∃ a' c',w1.cell? ⟨b,off+i*2+1,none⟩=some (.slice a' x.2.length c'):=fun h0=>by
  injection eu with e1 _ _
  obtain ⟨b,off,e2,hb,_,hc⟩:=hcell (by rw [← hn];exact h0)
  exact ⟨b,off,e1.trans e2,hb,fun i x hx=>by
   obtain ⟨q1,a',c',q2,_⟩:=hc i x hx
   exact ⟨q1,a',c',q2⟩⟩
 have hb01:Below w.heap.size w w1:=H.o.2.1.trans (hb1.mono H.o.2.1.size)
 have hk1:=H.o.2.2.1.kept hb1
 have H1:=Zh (Zi hn (Zi hcell (Zi hb01 hk1)))
 obtain ⟨NM,hNM⟩:∃ l,l=(s.shares ix).map fun x=>zJ ix x.1.toNat:=⟨_,rfl⟩
 have HNM:=Zh hNM
 have hnl:NM.length=n:=by rw [hNM,List.length_map,hn]
 have HNL:=Zh hnl
 clear hO hb1 hua hn eu hcell hb01 hk1 hNM hnl ra ga
 go_upto_region 3 with fail
 go_loopw [6,18] (fun u6 vi wr=>∃ i:Nat,i≤n∧vi=.int .i64 i∧Hid (wr.ownsRow w1.heap.size 9 1 u6 i ((NM.take i).map Value.string)∧Below w1.heap.size w1 wr)) (fun _ vi _=>n - (intOf vi).toNat)
 case atStart=>exact ⟨0,Nat.zero_le _,rfl,by rw [List.take_zero];exact World.ownsRow_nil _ _ _ _,Below.refl _ _⟩
 case round =>
  obtain ⟨i,hi0,rfl,G⟩:=hrel
  by_cases hin:i < n
  · obtain ⟨b,off,rfl,hb,hc⟩:=H1.o.2.1 (by omega)
    obtain ⟨x,hx⟩:∃ x,(s.shares ix)[i]?=some x:=⟨(s.shares ix)[i]'(by have:=H1.o.1;omega),by simp⟩
    obtain ⟨c1,a',c',c2⟩:=hc i x hx
    have hbc:=fun o=>G.o.2.cell (p:=⟨b,o,none⟩) hb
    rw [← hbc] at c1 c2
    obtain ⟨m,hm16,hxm,_⟩:=zDF (List.mem_of_getElem? hx)
    rw [hxm] at c1
    obtain ⟨q,hq⟩:∃ q,q=x.2.length:=⟨_,rfl⟩
    rw [← hq] at c2
    have i0:(0:Int)≤(i:Int):=by omega
    have i1:(i:Int) < (n:Int):=by omega
    have hkr:=H1.o.2.2.2.kept G.o.2
    have ra:zN 16 wr p3 0=ck:=zS hkr k2
    have ga:zW 16 wr p3 0:=zO hkr (by simp [k2])
    have l3:=hkr.lt
    have hstep:(NM.take (i+1)).map Value.string=(NM.take i).map Value.string++[.string (zJ ix m)]:=by
     have:NM[i]?=some (zJ ix m):=by rw [HNM.o,List.getElem?_map,hx];simp [hxm]
     rw [List.take_add_one,this,Option.toList_some,List.map_append];rfl
    obtain ⟨xs,hxs⟩:∃ l,l=(NM.take i).map Value.string:=⟨_,rfl⟩
    have G1:=G.o.1
    rw [← hxs] at G1 hstep
    have HX:=Zh (Zi hstep (Zi hm16 G1))
    clear hx hc hbc hxm hq hkr hstep hxs G1 hm16
    go_wp2_with
     (first
      | (refine (show Calls _ _ _ _ _ from (by rw [H.o.2.2.2.2.2.1];exact zEU ix H.o.2.2.2.2.1 m HX.o.2.1 _)).mono ?_
         rintro e w3 ⟨rfl,hb3⟩
         have HB3:=Zh (Zi ((G.o.2.alloc G.o.2.size _).trans (hb3.mono (G.o.2.alloc G.o.2.size _).size)) (zAl (S:=fun _=>False) (HX.o.2.2.alloc _) (Chg.of_below hb3) (fun _ _ h=>h)))
         clear hb3)
      | (at_builtin;refine zGw ESc rfl _ _ rfl (base:=w1.heap.size) (n:=i) (xs:=xs) (.string (zJ ix m)) rfl rfl ?cc rfl (HB3.o.2.alloc _) ?q1 ?q2 ?q3 ?_
         case cc=>exact zHO _ _ _ _ (by simp)
         case q1=>omega
         case q2=>omega
         case q3=>have:=HB3.o.1.size;simp;omega
         intro v4 w4 ho4 hg4
         have hb4:=zl (HB3.o.1.alloc HB3.o.1.size _) hg4 (fun k hk=>(HX.o.2.2.lt k hk).1)
         have HO4:=Zh (Zi ho4 hb4)
         clear ho4 hg4 hb4)
      | fail)
    exact ⟨⟨i+1,by omega,by simp,by rw [HX.o.1];exact HO4.o.1,HO4.o.2⟩,by show n - ((i:Int)+1).toNat < n - (i:Int).toNat;omega⟩
  · obtain rfl:n=i:=by omega
    have hkr:=H1.o.2.2.2.kept G.o.2
    have r3:wr.drew.rangeAt p3 0 ck:=fun j v hj=>by
     rw [(hkr.drew).cell,Nat.zero_add]
     simpa using hj
    go_upto_region 7 with fail
    have HKR:=Zh (Zi G.o hkr)
    clear hkr
    refine Tail.zBa 7 (fun k=>k == 2 || k == 4 || k == 5 || k == 6) (fun k=>if k=2 then some (.string (zAM ix)) else if k=4 then some (.string (zD ix)) else none)
     (fun D z w'=>w'.rangeAt p3 0 ck∧(D 6=false→Below wr.heap.size wr w'∧(D 5=true→∃ g,z 5=.slice (some ⟨g,0,none⟩) 2 2∧wr.heap.size≤g∧Blk w' g #[.string (zAM ix),.string (zD ix)] 9))∧(D 6=true→w'.ownsRow w1.heap.size 9 1 (z 6) (n+2) ((NM++[zAM ix,zD ix]).map Value.string)∧Below w1.heap.size w1 w'))
     (by kernel_rfl) (by kernel_rfl) (fun k hk=>by simp at hk;omega) (fun D z z' w' hz h=>⟨h.1,fun d=>⟨(h.2.1 d).1,fun d5=>by rw [← hz 5 d5];exact (h.2.1 d).2 d5⟩,fun d=>by rw [← hz 6 d];exact h.2.2 d⟩) ⟨r3,fun _=>⟨(Below.refl _ _).drew,fun h=>by cases h⟩,fun h=>by cases h⟩ (fun z=>?_)
    simp only [List.take_succ_cons,List.take_zero,List.drop_succ_cons,List.drop_zero]
    clear r3
    refine Tail.zAz (by rfl) (by rfl) ?_
    apply Exists.intro
    refine ⟨fun w=>?_,?_⟩
    · go_simp <;> with_reducible rfl
    simp only [Act.put,List.setIfInBounds_toArray,List.set_cons_zero,List.set_cons_succ]
    refine Tail.zB5 (by rfl) (by rfl) _ _ rfl p3 0 (by rfl) ck (fun D w' _ _ hJ=>hJ.1) hu16 rfl hi16 ?_
    simp only [Act.put,List.setIfInBounds_toArray,List.set_cons_zero,List.set_cons_succ]
    refine Tail.zBA (by rfl) (by rfl) ?_ ?_
    · apply Exists.intro
      apply Exists.intro
      refine ⟨fun w'=>?_,?_⟩
      · go_simp <;> exact ⟨rfl,rfl⟩
      intro D z' w' hD hz hd hp hJ
      have h5:D 5=false:=hp 5 (by kernel_rfl)
      have h6:D 6=false:=hp 6 (by kernel_rfl)
      refine (show Calls _ _ _ _ _ from (by rw [H.o.2.2.2.2.2.1];exact zDv ix H.o.2.2.2.2.1 w')).mono ?_
      rintro e w'' ⟨rfl,hb⟩
      have hb2:=(hJ.2.1 h6).1.trans (hb.mono (hJ.2.1 h6).1.size)
      refine ⟨_,rfl,fun c hc=>by simp at hc;exact hc,fun j v hj=>?_,fun _=>⟨hb2,fun h=>?_⟩,fun h=>?_⟩
      · rw [((HKR.o.2.kept hb2)).cell,Nat.zero_add]
        simpa using hj
      · simp [Tail.zAZ,h5] at h
      · simp [Tail.zAZ,h6] at h
    simp only [Act.put,List.setIfInBounds_toArray,List.set_cons_zero,List.set_cons_succ,Nat.reduceAdd,Nat.reduceEqDiff,reduceIte,Option.getD_some]
    refine Tail.zB5 (by rfl) (by rfl) _ _ rfl p3 0 (by rfl) ck (fun D w' _ _ hJ=>hJ.1) hu16 rfl hi16 ?_
    simp only [Act.put,List.setIfInBounds_toArray,List.set_cons_zero,List.set_cons_succ]
    refine Tail.zBA (by rfl) (by rfl) ?_ ?_
    · apply Exists.intro
      apply Exists.intro
      refine ⟨fun w'=>?_,?_⟩
      · go_simp <;> exact ⟨rfl,rfl⟩
      intro D z' w' hD hz hd hp hJ
      have h5:D 5=false:=hp 5 (by kernel_rfl)
      have h6:D 6=false:=hp 6 (by kernel_rfl)
      refine (show Calls _ _ _ _ _ from (by rw [H.o.2.2.2.2.2.1];exact zA1 ix H.o.2.2.2.2.1 w')).mono ?_
      rintro e w'' ⟨rfl,hb⟩
      have hb2:=(hJ.2.1 h6).1.trans (hb.mono (hJ.2.1 h6).1.size)
      refine ⟨_,rfl,fun c hc=>by simp at hc;exact hc,fun j v hj=>?_,fun _=>⟨hb2,fun h=>?_⟩,fun h=>?_⟩
      · rw [((HKR.o.2.kept hb2)).cell,Nat.zero_add]
        simpa using hj
      · simp [Tail.zAZ,h5] at h
      · simp [Tail.zAZ,h6] at h
    simp only [Act.put,List.setIfInBounds_toArray,List.set_cons_zero,List.set_cons_succ,Nat.reduceAdd,Nat.reduceEqDiff,reduceIte,Option.getD_some]
    refine Tail.J_mov (by rfl) (by rfl) (fun D z' w' hD hz hd hp hJ=>?_) ?_
    · have h6:D 6=false:=hp 6 (by kernel_rfl)
      have hb2:=(hJ.2.1 h6).1
      have hb3:Below wr.heap.size wr (w'.alloc (.cells #[Value.string (zAM ix),Value.string (zD ix)] 9)):=hb2.alloc hb2.size _
      refine ⟨.slice (some ⟨w'.heap.size,0,none⟩) 2 2,w'.alloc (.cells #[Value.string (zAM ix),Value.string (zD ix)] 9),?_,fun c hc=>by simp at hc,fun j v hj=>?_,fun _=>⟨hb3,fun _=>⟨w'.heap.size,by simp [Tail.zAc],hb2.size,Blk.new _ _ _⟩⟩,fun h=>?_⟩
      · go_simp <;> with_reducible rfl
      · rw [(HKR.o.2.kept hb3).cell,Nat.zero_add]
        simpa using hj
      · simp [Tail.zAZ,h6] at h
    simp only [Act.put,List.setIfInBounds_toArray,List.set_cons_zero,List.set_cons_succ,Nat.reduceAdd,Nat.reduceEqDiff,reduceIte,Option.getD_none]
    refine Tail.J_mov (by rfl) (by rfl) (fun D z' w' hD hz hd hp hJ=>?_) ?_
    · have h5:D 5=true:=hd 5 (by kernel_rfl)
      obtain ⟨hb2,hq⟩:=hJ.2.1 hD
      obtain ⟨g,hz5,hg,hkg⟩:=hq h5
      have hown:=zAl (S:=fun _=>False) HKR.o.1.1 (Chg.of_below hb2) (fun _ _ h=>h)
      have hfull:NM.take n=NM:=List.take_of_length_le (by have:=HNL.o;omega)
      rw [hfull] at hown
      refine app_ex (P:=Tryz.prog) ESc (.tmp 30) (.tmp 35) rfl (base:=w1.heap.size) (v:=u6) (n:=n) (m:=2) (xs:=NM.map Value.string) [.string (zAM ix),.string (zD ix)] rfl (mb:=g) ?hx rfl (fun j u hj=>by rw [hkg.cell];simpa using hj) (by simp [Value.oneCell']) hown (by omega) (by decide) (Nat.le_trans HKR.o.1.2.size hb2.size) (fun v' wx ho2 hg2=>?_)
      case hx=>rw [← hz5,← hz 5 h5];rfl
      have hb4:Below w1.heap.size w1 wx:=zl (HKR.o.1.2.trans (hb2.mono HKR.o.1.2.size)) hg2 (fun k hk=>(HKR.o.1.1.lt k hk).1)
      refine ⟨fun c hc=>by simp at hc,fun j v hj=>?_,fun h=>?_,fun _=>⟨?_,hb4⟩⟩
      · rw [(H1.o.2.2.2.kept hb4).cell,Nat.zero_add]
        simpa using hj
      · simp [Tail.zAZ] at h
      · rw [List.map_append]
        simpa [Tail.zAc] using ho2
    simp only [Act.put,List.setIfInBounds_toArray,List.set_cons_zero,List.set_cons_succ,Nat.reduceAdd,Nat.reduceEqDiff,reduceIte,Option.getD_none]
    intro w4 hJ4
    have hQ:=hJ4.2.2 rfl
    clear hJ4
    generalize z 6=v6 at hQ ⊢
    generalize z 5=v5
    obtain ⟨N2,hN2⟩:∃ m,m=n+2:=⟨_,rfl⟩
    obtain ⟨L,hL⟩:∃ l,l=swN s ix:=⟨_,rfl⟩
    have hLN:L=NM++[zAM ix,zD ix]:=by rw [hL,HNM.o];rfl
    rw [← hN2,← hLN] at hQ
    have hLl:L.length=N2:=by rw [hLN,List.length_append,HNL.o,hN2];rfl
    obtain ⟨sa,sc,rfl,hsa⟩:=zAG hQ.1
    obtain ⟨g,rfl⟩:=hsa (by omega)
    have hbw4:Below w.heap.size w w4:=H1.o.2.2.1.trans (hQ.2.mono H1.o.2.2.1.size)
    have hgl:=hQ.1.lt g rfl
    have hgC:¬ C g:=fun hC=>by have:=H.o.1.lt (.inl hC);have:=H1.o.2.2.1.size;omega
    have hN18:N2≤18:=by omega
    have HQ:=Zh (Zi hQ.1 (Zi hL (Zi hLl (Zi hbw4 (Zi hgC (H.o.1.below hbw4))))))
    clear hQ hN2 hL hLN hLl hsa hbw4 hgl hgC
    go_upto_region 9 with fail
    go_loopw [4,39] (fun u4 vi wx=>∃ (j:Nat) (t:Bool) (st:St),j≤N2∧vi=.int .i64 j∧u4=.bool t∧Hid (zx (L.drop j) st t=zx L s.st false∧zR wx C X pb { s with st:=st }∧Chg C w4 wx∧st.disk.writes≤s.st.disk.writes+j)) (fun _ vi _=>N2 - (intOf vi).toNat)
    case atStart=>exact ⟨0,false,s.st,Nat.zero_le _,rfl,rfl,rfl,HQ.o.2.2.2.2.2,Chg.refl _ _,Nat.le_refl _⟩
    case round =>
     obtain ⟨j,t,st,hj0,rfl,rfl,G⟩:=hrel
     by_cases hj:j < N2
     · obtain ⟨nm,hnm⟩:∃ x,L[j]?=some x:=⟨L[j]'(by have:=HQ.o.2.2.1;omega),by simp⟩
       have hdrop:L.drop j=nm::L.drop (j+1):=by
        have hi:=(List.getElem?_eq_some_iff.1 hnm).1
        rw [List.drop_eq_getElem_cons hi]
        rw [List.getElem?_eq_getElem hi] at hnm
        cases hnm;rfl
       have hsz:0 < nm.size:=zOO H.o.2.2.2.2.1 nm (by rw [← HQ.o.2.1];exact List.mem_of_getElem? hnm)
       have hrow:=zAl HQ.o.1 G.o.2.2.1 (fun g' hg'=>by cases hg';exact HQ.o.2.2.2.2.1)
       have cx:=zMz hrow hnm
       have gl:g < wr.heap.size:=World.block_lt_of_cell? wr ⟨g,j,none⟩ cx
       have i0:(0:Int)≤(j:Int):=by omega
       have i1:(j:Int) < (N2:Int):=by omega
       obtain ⟨sb,lb,d,LL,tb,v,hA⟩:=G.o.2.1
       have c3:wr.cell? ⟨pb,3,none⟩=some (.pointer (some ⟨sb,0,none⟩)):=hA.blk.cell 3
       have hstep:=G.o.1
       rw [hdrop,zx] at hstep
       obtain ⟨o,ho⟩:∃ b,b=(st.get nm).isSome:=⟨_,rfl⟩
       rw [← ho] at hstep
       have HX:=Zh (Zi hA (Zi hstep (Zi hsz ho)))
       clear hnm hdrop hrow hA hstep hsz ho
       go_wp2_with fail
       refine (zCM _ sb lb d LL st nm wr HX.o.1.st).mono ?_
       rintro e wg ⟨hbg,vg,rfl,_⟩
       rw [← HX.o.2.2.2]
       have hAg:=HX.o.1.below hbg
       have c3:wg.cell? ⟨pb,3,none⟩=some (.pointer (some ⟨sb,0,none⟩)):=hAg.blk.cell 3
       have HA2:=Zh (Zi hAg (G.o.2.2.1.trans_below hbg))
       clear hbg hAg
       cases o with
       | false =>
         go_wp2_with fail
         exact ⟨⟨j+1,t,st,by omega,by simp,rfl,by have:=HX.o.2.1;simpa using this,⟨_,_,_,_,_,_,HA2.o.1⟩,HA2.o.2,by have:=G.o.2.2.2;omega⟩,by show N2 - ((j:Int)+1).toNat < N2 - (j:Int).toNat;omega⟩
       | true =>
         go_wp2_with fail
         refine (zGX _ sb lb d LL st nm wg HA2.o.1.st (by have:=G.o.2.2.2;have:=H.o.2.2.2.2.2.2;omega)).mono ?_
         rintro e wd ⟨rfl,hst,hc⟩
         have hAd:=HA2.o.1.store hc hst
         have hdw:=zIn st nm
         obtain ⟨zr,hzr⟩:∃ q,q=(zA8 st nm).1:=⟨_,rfl⟩
         obtain ⟨st2,hst2⟩:∃ q,q=(zA8 st nm).2:=⟨_,rfl⟩
         rw [← hst2] at hAd hdw
         rw [← hzr]
         have hstep:=HX.o.2.1
         simp only [if_true] at hstep
         rw [← hzr,← hst2] at hstep
         have HD:=Zh (Zi hAd (Zi (HA2.o.2.trans (hc.mono HA2.o.1.foot)) (Zi hstep hdw)))
         clear hst hc hAd hdw hzr hst2 hstep
         by_cases hz0:zr=0
         · have t0:(zr == 0)=true:=by simpa using hz0
           have t0':(zr != 0)=false:=by simpa using hz0
           have hstep:=HD.o.2.2.1
           rw [if_pos hz0] at hstep
           have HS:=Zh hstep
           obtain ⟨cb,hcb⟩:∃ c:Int,c=((nm.data.toList.getD 0 0).toNat:Int):=⟨_,rfl⟩
           have hidx:∀ w,(Instr.index 9 (.string nm) (.int .i64 0)).run Tryz.prog w=.ok (.int .u8 cb) w:=fun w=>by rw [hcb];exact idx0 HX.o.2.2.1 w
           have hno:noL nm=!(cb == 108):=by unfold noL;rw [hcb]
           have HNO:=Zh hno
           clear hstep hz0 hcb hno
           cases t with
           | true =>
             go_wp2_with fail
             exact ⟨⟨j+1,true,st2,by omega,by simp,rfl,by have:=HS.o;simpa using this,⟨_,_,_,_,_,_,HD.o.1⟩,HD.o.2.1,by have:=G.o.2.2.2;have:=HD.o.2.2.2;omega⟩,by show N2 - ((j:Int)+1).toNat < N2 - (j:Int).toNat;omega⟩
           | false =>
             go_wp2_with fail
             exact ⟨⟨j+1,!(cb == 108),st2,by omega,by simp,rfl,by have:=HS.o;rw [HNO.o] at this;simpa using this,⟨_,_,_,_,_,_,HD.o.1⟩,HD.o.2.1,by have:=G.o.2.2.2;have:=HD.o.2.2.2;omega⟩,by show N2 - ((j:Int)+1).toNat < N2 - (j:Int).toNat;omega⟩
         · have t0:(zr == 0)=false:=by simpa using hz0
           have t0':(zr != 0)=true:=by simpa using hz0
           have hstep:=HD.o.2.2.1
           rw [if_neg hz0] at hstep
           have HS:=Zh hstep
           clear hstep
           go_wp2_with fail
           go_ret2
           exact ⟨t,zr,st2,rfl,by rw [← HQ.o.2.1];exact HS.o.symm,⟨_,_,_,_,_,_,HD.o.1⟩,(Chg.of_below HQ.o.2.2.2.1).trans HD.o.2.1⟩
     · have hfull:L.drop j=[]:=List.drop_of_length_le (by have:=HQ.o.2.2.1;omega)
       have hend:=G.o.1
       rw [hfull,zx] at hend
       have HE:=Zh hend
       clear hfull hend
       go_wp2_with fail
       go_ret2
       exact ⟨t,0,st,rfl,by rw [← HQ.o.2.1];exact HE.o.symm,G.o.2.1,(Chg.of_below HQ.o.2.2.2.1).trans G.o.2.2.1⟩
end Go.Proofs.YtbbojbdigiibbaaGreatDoor
end
section
namespace Go.Mem
open Go Go.RowKit Gf Lea Go.Proofs.YtbbojbdigiibbaaGreatDoor
def zCO (k:Key) (n:Int):Key:=UInt8.ofNat (within (((k[0]?).getD 0).toNat:Int) n).toNat::List.replicate 15 0
def zBP (l:List zP):List zP:=(l.take 4).map fun x=>(x.1,x.2.take 60)
def zGD (r:Req) (vt vb:Value):Req:={ r with ix:=zCO r.ix 3,en:=zCO r.en 2,vt:=vt,vb:=vb }
theorem zBt (k:Key) (n:Int):(zCO k n).length=16:=by simp [zCO]
theorem zGE {r:Req} (h:r.Wf) (vt vb:Value):(zGD r vt vb).Wf:=⟨zBt _ _,h.sec,zBt _ _⟩
theorem zHH (k:Key) (n:Int) (h1:0 < n) (h2:n≤256):zEs (.int .u8 (within (((k[0]?).getD 0).toNat:Int) n))=(bV (zCO k n)).toArray:=by
 obtain ⟨a,b⟩:=zCm (((k[0]?).getD 0).toNat:Int) n h1
 unfold zEs zCO
 simp only [bV,List.map_cons,List.map_replicate]
 have:((UInt8.ofNat (within (((k[0]?).getD 0).toNat:Int) n).toNat).toNat:Int)=within (((k[0]?).getD 0).toNat:Int) n:=by
  rw [Gf.zHj _ (by omega)];omega
 rw [this]
 rfl
theorem zLe {w:World} {p:Nat} {r:Req} {t:TypeId} {k:Key} (h:Blk w p (zM r).toArray t) (hr:r.Wf) (hk:k.length=16):Blk (w.setCells p 1 (bV k)) p (zM { r with ix:=k }).toArray t:=by
 obtain ⟨arr,g1,g2,g3⟩:=Blk.setCells (bV k) 1 _ _ h
 have hw2:Req.Wf { r with ix:=k }:=⟨hk,hr.sec,hr.en⟩
 have hs:(zM r).toArray.size=52:=by simp [zAU hr]
 have hk16:(bV k).length=16:=by rw [zB];exact hk
 have e:arr=(zM { r with ix:=k }).toArray:=by
  apply Array.ext_getElem?
  intro j
  rcases Nat.lt_or_ge j 52 with hj | hj
  · rw [g3 j (by omega),List.getElem?_toArray,List.getElem?_toArray]
    by_cases hj1:1≤j∧j < 17
    · rw [if_pos (by omega)]
      have:=zI6 hw2 (k:=j - 1) (by omega)
      rw [show 1+(j - 1)=j from by omega] at this
      exact this.symm
    · rw [if_neg (by omega)]
      rcases (by omega:j=0∨17≤j) with rfl | h17
      · rfl
      · have e1:∀ q:Req,q.ix.length=16→(zM q)[j]?=(bV q.sec++(.int .i64 q.ends::(bV q.en++[q.vt,q.vb])))[j - 17]?:=fun q hq=>by
         unfold zM
         rw [show j=(j - 1)+1 from by omega,List.getElem?_cons_succ,List.getElem?_append_right (by rw [zB,hq];omega),zB,hq]
         congr 1
        rw [e1 r hr.ix,e1 _ hk]
  · rw [Array.getElem?_eq_none (by omega),Array.getElem?_eq_none (by simp [zAU hw2];omega)]
 rw [← e];exact g1
theorem zLd {w:World} {p:Nat} {r:Req} {t:TypeId} {k:Key} (h:Blk w p (zM r).toArray t) (hr:r.Wf) (hk:k.length=16):Blk (w.setCells p 34 (bV k)) p (zM { r with en:=k }).toArray t:=by
 obtain ⟨arr,g1,g2,g3⟩:=Blk.setCells (bV k) 34 _ _ h
 have hw2:Req.Wf { r with en:=k }:=⟨hr.ix,hr.sec,hk⟩
 have hs:(zM r).toArray.size=52:=by simp [zAU hr]
 have hk16:(bV k).length=16:=by rw [zB];exact hk
 have e:arr=(zM { r with en:=k }).toArray:=by
  apply Array.ext_getElem?
  intro j
  rcases Nat.lt_or_ge j 52 with hj | hj
  · rw [g3 j (by omega),List.getElem?_toArray,List.getElem?_toArray]
    by_cases hj1:34≤j∧j < 50
    · rw [if_pos (by omega)]
      have:=zI5 hw2 (k:=j - 34) (by omega)
      rw [show 34+(j - 34)=j from by omega] at this
      exact this.symm
    · rw [if_neg (by omega)]
      have e0:∀ q:Req,q.ix.length=16→q.sec.length=16→q.en.length=16→∀ q':Req,q'.kind=q.kind→q'.ix=q.ix→q'.sec=q.sec→q'.ends=q.ends→q'.en.length=16→q'.vt=q.vt→q'.vb=q.vb→(zM q)[j]?=(zM q')[j]?:=fun q h1 h2 h3 q' a1 a2 a3 a4 a5 a6 a7=>by
       unfold zM
       rw [a1,a2,a3,a4,a6,a7]
       rcases Nat.lt_or_ge j 34 with c | c
       · rw [show (Value.int .i64 q.kind::(bV q.ix++(bV q.sec++(Value.int .i64 q.ends::(bV q.en++[q.vt,q.vb])))))=(Value.int .i64 q.kind::(bV q.ix++(bV q.sec++[Value.int .i64 q.ends])))++(bV q.en++[q.vt,q.vb]) from by simp,
        show (Value.int .i64 q.kind::(bV q.ix++(bV q.sec++(Value.int .i64 q.ends::(bV q'.en++[q.vt,q.vb])))))=(Value.int .i64 q.kind::(bV q.ix++(bV q.sec++[Value.int .i64 q.ends])))++(bV q'.en++[q.vt,q.vb]) from by simp,
        List.getElem?_append_left (by simp [zB,h1,h2];omega),List.getElem?_append_left (by simp [zB,h1,h2];omega)]
       · rw [show (Value.int .i64 q.kind::(bV q.ix++(bV q.sec++(Value.int .i64 q.ends::(bV q.en++[q.vt,q.vb])))))=(Value.int .i64 q.kind::(bV q.ix++(bV q.sec++(Value.int .i64 q.ends::bV q.en))))++[q.vt,q.vb] from by simp,
          show (Value.int .i64 q.kind::(bV q.ix++(bV q.sec++(Value.int .i64 q.ends::(bV q'.en++[q.vt,q.vb])))))=(Value.int .i64 q.kind::(bV q.ix++(bV q.sec++(Value.int .i64 q.ends::bV q'.en))))++[q.vt,q.vb] from by simp,
          List.getElem?_append_right (by simp [zB,h1,h2,h3];omega),List.getElem?_append_right (by simp [zB,h1,h2,a5];omega)]
         simp [zB,h1,h2,h3,a5]
      exact e0 r hr.ix hr.sec hr.en _ rfl rfl rfl rfl hk rfl rfl
  · rw [Array.getElem?_eq_none (by omega),Array.getElem?_eq_none (by simp [zAU hw2];omega)]
 rw [← e];exact g1
theorem zLg {r:Req} (hr:r.Wf) (v:Value):(zM r).toArray.setIfInBounds 50 v=(zM { r with vt:=v }).toArray:=by
 apply Array.ext_getElem?
 intro j
 rw [Array.getElem?_setIfInBounds]
 have hl:=zAU hr
 have hw2:Req.Wf { r with vt:=v }:=⟨hr.ix,hr.sec,hr.en⟩
 by_cases e:50=j
 · subst e
   rw [if_pos rfl,if_pos (by simp [hl])]
   simpa using (zB0 hw2).1.symm
 · rw [if_neg e]
   simp only [List.getElem?_toArray]
   rcases Nat.lt_or_ge j 50 with c | c
   · unfold zM
     rw [show (Value.int .i64 r.kind::(bV r.ix++(bV r.sec++(Value.int .i64 r.ends::(bV r.en++[r.vt,r.vb])))))=(Value.int .i64 r.kind::(bV r.ix++(bV r.sec++(Value.int .i64 r.ends::bV r.en))))++[r.vt,r.vb] from by simp,
      show (Value.int .i64 r.kind::(bV r.ix++(bV r.sec++(Value.int .i64 r.ends::(bV r.en++[v,r.vb])))))=(Value.int .i64 r.kind::(bV r.ix++(bV r.sec++(Value.int .i64 r.ends::bV r.en))))++[v,r.vb] from by simp,
      List.getElem?_append_left (by simp [zB,hr.ix,hr.sec,hr.en];omega),List.getElem?_append_left (by simp [zB,hr.ix,hr.sec,hr.en];omega)]
   · rcases (by omega:j=51∨52≤j) with rfl | c2
     · rw [(zB0 hr).2,(zB0 hw2).2]
     · rw [List.getElem?_eq_none (by omega),List.getElem?_eq_none (by rw [zAU hw2];omega)]
theorem zLf {r:Req} (hr:r.Wf) (v:Value):(zM r).toArray.setIfInBounds 51 v=(zM { r with vb:=v }).toArray:=by
 apply Array.ext_getElem?
 intro j
 rw [Array.getElem?_setIfInBounds]
 have hl:=zAU hr
 have hw2:Req.Wf { r with vb:=v }:=⟨hr.ix,hr.sec,hr.en⟩
 by_cases e:51=j
 · subst e
   rw [if_pos rfl,if_pos (by simp [hl])]
   simpa using (zB0 hw2).2.symm
 · rw [if_neg e]
   simp only [List.getElem?_toArray]
   rcases Nat.lt_or_ge j 51 with c | c
   · unfold zM
     rw [show (Value.int .i64 r.kind::(bV r.ix++(bV r.sec++(Value.int .i64 r.ends::(bV r.en++[r.vt,r.vb])))))=(Value.int .i64 r.kind::(bV r.ix++(bV r.sec++(Value.int .i64 r.ends::(bV r.en++[r.vt])))))++[r.vb] from by simp,
      show (Value.int .i64 r.kind::(bV r.ix++(bV r.sec++(Value.int .i64 r.ends::(bV r.en++[r.vt,v])))))=(Value.int .i64 r.kind::(bV r.ix++(bV r.sec++(Value.int .i64 r.ends::(bV r.en++[r.vt])))))++[v] from by simp,
      List.getElem?_append_left (by simp [zB,hr.ix,hr.sec,hr.en];omega),List.getElem?_append_left (by simp [zB,hr.ix,hr.sec,hr.en];omega)]
   · rw [List.getElem?_eq_none (by omega),List.getElem?_eq_none (by rw [zAU hw2];omega)]
end Go.Mem
end
section
namespace Go.Proofs.YtbbojbdigiibbaaGreatDoor
open Go Go.RowKit Go.Mem Gf Lea
set_option linter.unusedVariables false
def zIb:Req:=⟨0,z16,z16,0,z16,.slice none 0 0,.slice none 0 0⟩
def zOd:Array Value:=#[Value.int .i64 0,.int .u8 0,.int .u8 0,.int .u8 0,.int .u8 0,.int .u8 0,.int .u8 0,.int .u8 0,.int .u8 0,.int .u8 0,.int .u8 0,.int .u8 0,.int .u8 0,.int .u8 0,.int .u8 0,.int .u8 0,.int .u8 0,.int .u8 0,.int .u8 0,.int .u8 0,.int .u8 0,.int .u8 0,.int .u8 0,.int .u8 0,.int .u8 0,.int .u8 0,.int .u8 0,.int .u8 0,.int .u8 0,.int .u8 0,.int .u8 0,.int .u8 0,.int .u8 0,.int .i64 0,.int .u8 0,.int .u8 0,.int .u8 0,.int .u8 0,.int .u8 0,.int .u8 0,.int .u8 0,.int .u8 0,.int .u8 0,.int .u8 0,.int .u8 0,.int .u8 0,.int .u8 0,.int .u8 0,.int .u8 0,.int .u8 0,.slice none 0 0,.slice none 0 0]
theorem _root_.Go.Mem.zBj.dataAt {t8:TypeId} {w:World} {base:Nat} {v:Value} {bs:List UInt8} {N:Nat→Prop} (h:zBj t8 w base v bs) (hN:∀ b,base≤b→¬ N b):zAY w N v bs:=by
 refine ⟨h.bys,?_⟩
 have h':w.ownsRow base t8 1 v bs.length (bV bs):=h
 have hlt:=h'.lt
 obtain ⟨a,c,rfl,_⟩:=zAG h'
 refine ⟨a,c,rfl,fun b hb=>?_⟩
 have:=hlt b.block (by rw [hb];rfl)
 exact ⟨this.2,hN _ this.1⟩
theorem zOe:zOd=(zM zIb).toArray:=rfl
theorem zOf:zIb.Wf:=⟨by show z16.length=16;decide,by show z16.length=16;decide,by show z16.length=16;decide⟩
theorem zLh {w:World} {b:Nat} {cs:List Value} (h:zW 52 w b 0) (hc:zAP 52 cs):(loadVar 47 ⟨b,0,none⟩).run Tryz.prog (w.setCells b 0 cs)=.ok (.agg cs.toArray) (w.setCells b 0 cs):=by
 have h2:=zC2 h b 0 cs
 refine run_loadVar_mid _ b 0 _ cs _ ?_ Tryz.underlying47 rfl (by rw [hc.1];exact i52)
 have:=zAD h2
 rwa [zCq h hc] at this
attribute [local irreducible] RF.V zk zM zEs
attribute [local go_sem ↓] Go.wp_at_zero Go.wp_at_succ
attribute [local go_sem ↓] zCX zIX zG1 zB2
attribute [local go_sem] ptrB_eq ptrO_eq ptrIs_eq aggL_eq aggIs_eq isU8_eq zT zg zC zG zX zH
set_option maxRecDepth 100000 in
set_option maxHeartbeats 2000000 in
theorem zKk (r:Req) (ts:List Tst) (bl:List zP) (w:World) (hr:r.Wf) (hts:Sls 34 zGe w r.vt ts) (hbl:Sls 2 zJM w r.vb bl) :
  Calls Tryz.prog 21 #[.agg (zM r).toArray] w fun e w'=>∃ vt vb,e=.returned (.agg (zM (zGD r vt vb)).toArray)∧zDk w' (fun b=>b < w.heap.size) vt (ts.take 4)∧zAI w' (fun b=>b < w.heap.size) vb (zBP bl)∧Below w.heap.size w w':=by
 obtain ⟨rv,hrv⟩:∃ q,q=zM r:=⟨_,rfl⟩
 have H:=Zh (Zi hr (Zi hts (Zi hbl hrv)))
 rw [← hrv]
 clear hr hts hbl hrv
 go_enter Tryz.func21,Tryz.ntmps21
 go_upto_region 1 with fail
 obtain ⟨wz,hwz⟩:∃ q,q=(w.alloc (.cells rv.toArray 47)).alloc (.cells zOd 47):=⟨_,rfl⟩
 unfold zOd at hwz
 rw [← hwz]
 have hk1:Blk wz w.heap.size (zM r).toArray 47:=by
  rw [hwz,← H.o.2.2.2];exact (Blk.new w rv.toArray 47).alloc _
 have hk2:Blk wz (w.heap.size+1) (zM zIb).toArray 47:=by
  rw [hwz,← zOe];exact Blk.new_at _ _ _ _ (by simp)
 have hbz:Below w.heap.size w wz:=by
  rw [hwz]
  have h1:Below w.heap.size w (w.alloc (.cells rv.toArray 47)):=(Below.refl _ _).alloc (Nat.le_refl _) _
  exact h1.alloc h1.size _
 obtain ⟨p1,hp1⟩:∃ q,q=w.heap.size:=⟨_,rfl⟩
 obtain ⟨p2,hp2⟩:∃ q,q=w.heap.size+1:=⟨_,rfl⟩
 have hge:w.heap.size≤p1∧p1 < p2∧p2≤p1+1:=by omega
 rw [← hp2] at hk2 ⊢
 rw [← hp1] at hk1 ⊢
 clear hwz hp1 hp2
 obtain ⟨x0,hx0⟩:∃ x:Nat,x=((r.ix[0]?).getD 0).toNat:=⟨_,rfl⟩
 obtain ⟨x1,hx1⟩:∃ x:Nat,x=((r.en[0]?).getD 0).toNat:=⟨_,rfl⟩
 have hx0':x0 < 256:=by rw [hx0];exact UInt8.toNat_lt _
 have hx1':x1 < 256:=by rw [hx1];exact UInt8.toNat_lt _
 have c1:wz.cell? ⟨p1,1,none⟩=some (.int .u8 x0):=by
  rw [hk1.cell,List.getElem?_toArray,zI6 H.o.1 (k:=0) (by omega),zA0,hx0]
  have:=H.o.1.ix
  rw [List.getElem?_eq_getElem (by omega)];rfl
 obtain ⟨q0,hq0⟩:∃ q,q=within x0 3:=⟨_,rfl⟩
 obtain ⟨q1,hq1⟩:∃ q,q=within x1 2:=⟨_,rfl⟩
 have hr0:0≤q0∧q0 < 3:=by rw [hq0];exact zCm _ 3 (by decide)
 have hr1:0≤q1∧q1 < 2:=by rw [hq1];exact zCm _ 2 (by decide)
 have e0:zEs (.int .u8 q0)=(bV (zCO r.ix 3)).toArray:=by rw [hq0,hx0];exact zHH _ _ (by decide) (by decide)
 have e1:zEs (.int .u8 q1)=(bV (zCO r.en 2)).toArray:=by rw [hq1,hx1];exact zHH _ _ (by decide) (by decide)
 have hw1:Req.Wf { r with ix:=zCO r.ix 3 }:=⟨zBt _ _,H.o.1.sec,H.o.1.en⟩
 have hw2:Req.Wf { r with ix:=zCO r.ix 3,en:=zCO r.en 2 }:=⟨zBt _ _,H.o.1.sec,zBt _ _⟩
 have g1:zW 16 wz p1 1:=zO hk1 (by simp [zAU H.o.1])
 have l1:=hk1.lt
 obtain ⟨m0,hm0⟩:∃ m,m=zCO r.ix 3:=⟨_,rfl⟩
 obtain ⟨m1,hm1⟩:∃ m,m=zCO r.en 2:=⟨_,rfl⟩
 rw [← hm0] at e0 hw1 hw2
 rw [← hm1] at e1 hw2
 have hl0:m0.length=16:=by rw [hm0];exact zBt _ _
 have hl1:m1.length=16:=by rw [hm1];exact zBt _ _
 obtain ⟨b0,hb0⟩:∃ b,b=bV m0:=⟨_,rfl⟩
 obtain ⟨b1,hb1⟩:∃ b,b=bV m1:=⟨_,rfl⟩
 have a0:zAP 16 b0:=⟨by rw [hb0,zB];exact hl0,fun v hv=>by rw [hb0] at hv;exact zAJ _ v hv⟩
 have a1:zAP 16 b1:=⟨by rw [hb1,zB];exact hl1,fun v hv=>by rw [hb1] at hv;exact zAJ _ v hv⟩
 rw [← hb0] at e0
 rw [← hb1] at e1
 have HA:=Zh (Zi hm0 (Zi hm1 (Zi hw1 (Zi hw2 (Zi hl0 (Zi hl1 (Zi hb0 hb1)))))))
 have HK:=Zh (Zi hk1 (Zi hk2 hbz))
 have HQ:=Zh (Zi hq0 (Zi hq1 (Zi hx0 hx1)))
 clear hm0 hm1 hw1 hw2 hl0 hl1 hb0 hb1 hk1 hk2 hbz hq0 hq1 hx0 hx1
 go_wp2_with fail
 refine (zBg x0 3 (by decide) (by decide) _).mono ?_
 rintro e w2 ⟨rfl,rfl⟩
 rw [← HQ.o.1]
 go_upto_region 2 with fail
 have kk1:Blk (wz.setCells p1 1 b0) p1 (zM { r with ix:=m0 }).toArray 47:=by rw [HA.o.2.2.2.2.2.2.1];exact zLe HK.o.1 H.o.1 HA.o.2.2.2.2.1
 have kk2:Blk (wz.setCells p1 1 b0) p2 (zM zIb).toArray 47:=Blk.setCells_other (fun e=>by omega) _ _ _ HK.o.2.1
 have kb:Below w.heap.size w (wz.setCells p1 1 b0):=(Chg.setCells (S:=fun b=>b=p1) (L:=p1) rfl _ _ _ (Chg.of_below HK.o.2.2)).below (Nat.le_refl _) (fun k hk=>by rw [hk];omega)
 obtain ⟨wy,hwy⟩:∃ q,q=wz.setCells p1 1 b0:=⟨_,rfl⟩
 rw [← hwy] at kk1 kk2 kb ⊢
 have c1:wy.cell? ⟨p1,34,none⟩=some (.int .u8 x1):=by
  rw [kk1.cell,List.getElem?_toArray,zI5 HA.o.2.2.1 (k:=0) (by omega),zA0,HQ.o.2.2.2]
  have:({ r with ix:=m0 }:Req).en.length=16:=H.o.1.en
  rw [List.getElem?_eq_getElem (by omega)];rfl
 have g1:zW 16 wy p1 34:=zO kk1 (by simp [zAU HA.o.2.2.1])
 have l1:=kk1.lt
 have HY:=Zh (Zi kk1 (Zi kk2 kb))
 clear hwy kk1 kk2 kb
 go_wp2_with fail
 refine (zBg x1 2 (by decide) (by decide) _).mono ?_
 rintro e w2 ⟨rfl,rfl⟩
 rw [← HQ.o.2.1]
 go_upto_region 5 with fail
 have kk1:Blk (wy.setCells p1 34 b1) p1 (zM { r with ix:=m0,en:=m1 }).toArray 47:=by rw [HA.o.2.2.2.2.2.2.2];exact zLd HY.o.1 HA.o.2.2.1 HA.o.2.2.2.2.2.1
 have kk2:Blk (wy.setCells p1 34 b1) p2 (zM zIb).toArray 47:=Blk.setCells_other (fun e=>by omega) _ _ _ HY.o.2.1
 have kb:Below w.heap.size w (wy.setCells p1 34 b1):=(Chg.setCells (S:=fun b=>b=p1) (L:=p1) rfl _ _ _ (Chg.of_below HY.o.2.2)).below (Nat.le_refl _) (fun k hk=>by rw [hk];omega)
 obtain ⟨wv,hwv⟩:∃ q,q=wy.setCells p1 34 b1:=⟨_,rfl⟩
 rw [← hwv] at kk1 kk2 kb ⊢
 have HV:=Zh (Zi kk1 (Zi kk2 (Zi kb hge)))
 obtain ⟨R,hR⟩:∃ R:Req,R={ r with ix:=m0,en:=m1 }:=⟨_,rfl⟩
 have hRw:R.Wf:=by rw [hR];exact HA.o.2.2.2.1
 have hRt:R.vt=r.vt:=by rw [hR]
 have hRb:R.vb=r.vb:=by rw [hR]
 rw [← hR] at HV
 have HR:=Zh (Zi hR (Zi hRw (Zi hRt hRb)))
 obtain ⟨n,hn⟩:∃ n,n=bl.length:=⟨_,rfl⟩
 obtain ⟨ba,bc,hvb⟩:=H.o.2.2.1.eq_slice
 have hbl:=H.o.2.2.1
 rw [← hn] at hvb
 have n64:(n:Int)≤9223372036854775807:=by have:=hbl.len;omega
 rw [hvb] at hbl
 have HB:=Zh (Zi hn (Zi hvb hbl))
 clear hwv kk1 kk2 kb c1 g1 l1 hR hRw hRt hRb hn hvb hbl e0 e1 a0 a1 hge hr0 hr1 hx0' hx1'
 go_loopw [3,4] (fun u vi wr=>∃ i:Nat,i≤4∧i≤n∧vi=.int .i64 i∧Hid (zAH 53 wr (p2+1) (fun b=>b≤p2) u (zBP (bl.take i))∧Below w.heap.size w wr∧Blk wr p1 (zM R).toArray 47∧Blk wr p2 (zM zIb).toArray 47)) (fun _ vi _=>4 - (intOf vi).toNat)
 case atStart=>exact ⟨0,by omega,by omega,rfl,zAH.nil _ _ _ _,HV.o.2.2.1,HV.o.1,HV.o.2.1⟩
 case round =>
  obtain ⟨i,hi4,hin,rfl,G⟩:=hrel
  have cb:wr.cell? ⟨p1,51,none⟩=some (.slice ba n bc):=by
   rw [G.o.2.2.1.cell,List.getElem?_toArray,(zB0 HR.o.2.1).2,HR.o.2.2.2,HB.o.2.1]
  have i0:(0:Int)≤(i:Int):=by omega
  by_cases h0:i < n∧i < 4
  · obtain ⟨h1,h2⟩:=h0
    have i1:(i:Int) < (n:Int):=by omega
    have i2:(i:Int) < 4:=by omega
    obtain ⟨b,off,x,cs,rfl,hx,hcl,hcs,v,rfl,hv⟩:=HB.o.2.2.at i (by have:=HB.o.1;omega)
    obtain ⟨va,vc,rfl⟩:=hv.eq_slice
    have d0:w.cell? ⟨b,off+i*2,none⟩=some (.int .i64 x.1):=hcs 0 _ rfl
    have d1:w.cell? ⟨b,off+i*2+1,none⟩=some (.slice va x.2.length vc):=hcs 1 _ rfl
    have hblt:=World.block_lt_of_cell? w _ d0
    have hbc:=fun o=>G.o.2.1.cell (p:=⟨b,o,none⟩) hblt
    rw [← hbc] at d0 d1
    obtain ⟨z,hz⟩:∃ z,z=x.1:=⟨_,rfl⟩
    obtain ⟨m,hm⟩:∃ m,m=x.2.length:=⟨_,rfl⟩
    obtain ⟨xs,hxs⟩:∃ xs,xs=x.2.take 60:=⟨_,rfl⟩
    obtain ⟨k,hk⟩:∃ k,k=xs.length:=⟨_,rfl⟩
    rw [← hz] at d0
    rw [← hm] at d1 hv
    have hk60:k≤60:=by rw [hk,hxs,List.length_take];omega
    have hsn:zBP (bl.take (i+1))=zBP (bl.take i)++[(z,xs)]:=by
     unfold zBP
     rw [List.take_take,List.take_take,Nat.min_eq_right (by omega),Nat.min_eq_right (by omega),List.take_add_one,hx.o,List.map_append,hz,hxs]
     rfl
    have hsl:(zBP (bl.take i)).length=i:=by
     unfold zBP
     have:=HB.o.1
     simp
     omega
    have HX:=Zh (Zi hsn (Zi hsl (Zi hv (Zi hxs (Zi hk hblt)))))
    have hvz:=hv.below G.o.2.1
    have HVZ:=Zh hvz
    clear hx hcl hcs hbc hz hm hxs hk hsn hsl hv hblt hvz
    go_upto_region 7 with fail
    go_region_law
     (first
      | (refine zKl EKb (by rfl) _ _ (by rfl) (base:=p2+1) (v:=u3) (n:=i) (m:=1) (xs:=blV (zBP (bl.take i)) vs) [.int .i64 z,.slice a3 k c3] (by rfl) (by rfl) (by rfl) (zER (by rfl)) (one2 _ _ _) (by have ho:=HO.o.2.1;rw [HX.o.2.1] at ho;exact ho.alloc _) (by omega) (by decide) (by have:=HW.o.2.1;have:=G.o.2.2.2.lt;simp;omega) ?_
         intro v4 x4 hv4 hg4 hs4
         have HF:=Zh (Zi hv4 (Zi hg4 hs4))
         clear hv4 hg4 hs4)
      | (go_simp
         go_at_call 25
         refine (zNk (.slice va m vc) x.2 60 wr.drew wr.drew (HVZ.o.below (Below.refl _ _).drew) (HVZ.o.below (Below.refl _ _).drew)).mono ?_
         rintro e w2 ⟨⟨v2,rfl,hv2⟩,rfl⟩
         rw [← HX.o.2.2.2.1] at hv2
         have HC:=Zh hv2
         clear hv2)
      | (go_simp
         go_at_call 47
         refine (zJb v2 xs _ HC.o (by have:=HX.o.2.2.2.2.1;omega)).mono ?_
         rintro e w3 ⟨v3,rfl,ho3,hb3⟩
         obtain ⟨a3,c3,rfl⟩:=ho3.eq_slice
         rw [← HX.o.2.2.2.2.1] at ho3 ⊢
         have hb3:Below wr.heap.size wr w3:=zA2 hb3
         have d0:w3.cell? ⟨b,off+i*2,none⟩=some (.int .i64 z):=(hb3.cell (p:=⟨b,off+i*2,none⟩) (World.block_lt_of_cell? wr _ d0)).trans d0
         have cb:w3.cell? ⟨p1,51,none⟩=some (.slice (some ⟨b,off,none⟩) n bc):=(hb3.cell (p:=⟨p1,51,none⟩) (World.block_lt_of_cell? wr _ cb)).trans cb
         obtain ⟨vs,o1,o2,o3,o4⟩:=G.o.1.below hb3
         have HO:=Zh (Zi o1 (Zi o2 (Zi o3 o4)))
         have HW:=Zh (Zi ho3 (Zi hb3.size hb3))
         clear ho3 hb3 o1 o2 o3 o4))
    all_goals
     go_wp2_with fail
     have hz0:=HW.o.2.1
     have hge:=HV.o.2.2.2
     have hDw:Below w3.heap.size w3 (w3.alloc (.cells #[.int .i64 z,.slice a3 k c3] 53)):=(Below.refl _ _).alloc (Nat.le_refl _) _
     have hsl:=HX.o.2.1
     have hda:zAY (w3.alloc (.cells #[.int .i64 z,.slice a3 k c3] 53)) (fun b=>b≤p2) (.slice a3 k c3) xs:=zAY.chg (S:=fun _=>False) (HW.o.1.dataAt (N:=fun b=>b≤p2) fun b hb hb2=>by have hb':wr.heap.size≤b:=hb;have hb2':b≤p2:=hb2;have:=G.o.2.2.2.lt;omega) (Chg.of_below hDw) (fun _ h=>h.elim)
     have hdn:∀ a n c,Value.slice a3 k c3=.slice (some a) n c→u3.ownBlock≠some a.block:=fun a n c e e2=>by
      injection e with e1 _ _
      have h1:=(HW.o.1.lt a.block (by rw [e1];simp [Value.ownBlock])).1
      have h1':wr.heap.size≤a.block:=h1
      have h2:=(G.o.1.lt _ e2).2
      omega
     have hrow:=zAH.push (x:=(z,xs)) HO.o.1 (fun j x v hx hv=>(HO.o.2.2.1 j x v hx hv).chg (S:=fun _=>False) (Chg.of_below hDw) (fun _ h=>h.elim)) HO.o.2.2.2 hda hdn (by rw [hsl];exact HF.o.1) HF.o.2.1 HF.o.2.2
     have hb24:Below w.heap.size w w3:=G.o.2.1.trans (HW.o.2.2.mono G.o.2.1.size)
     have hb6:=zl (hb24.alloc hb24.size (.cells #[.int .i64 z,.slice a3 k c3] 53)) HF.o.2.1 (fun q hq=>by have:=(G.o.1.lt q hq).1;omega)
     have hk16:=Blk.grown' ((G.o.2.2.1.kept HW.o.2.2).alloc (.cells #[.int .i64 z,.slice a3 k c3] 53)) HF.o.2.1 (fun e=>by have:=(G.o.1.lt _ e).1;omega)
     have hk26:=Blk.grown' ((G.o.2.2.2.kept HW.o.2.2).alloc (.cells #[.int .i64 z,.slice a3 k c3] 53)) HF.o.2.1 (fun e=>by have:=(G.o.1.lt _ e).1;omega)
     exact ⟨⟨i+1,by omega,by omega,by simp,by rw [HX.o.1];exact hrow,hb6,hk16,hk26⟩,by show 4 - ((i:Int)+1).toNat < 4 - (i:Int).toNat;omega⟩
  · have hsm:zBP (bl.take i)=zBP bl:=by
     unfold zBP
     rw [List.take_take]
     rcases (by omega:i=4∨i=n) with e | e
     · rw [e];rfl
     · congr 1
       have:=HB.o.1
       rcases Nat.lt_or_ge i 4 with c | c
       · rw [Nat.min_eq_right (by omega),List.take_of_length_le (by omega),List.take_of_length_le (by omega)]
       · rw [Nat.min_eq_left (by omega)]
    have hO:=G.o.1
    rw [hsm] at hO
    obtain ⟨ua,uc,rfl,_⟩:=hO.slice
    obtain ⟨ul,hul⟩:∃ q,q=(zBP bl).length:=⟨_,rfl⟩
    rw [← hul] at hO ⊢
    obtain ⟨ta,tc,hvt⟩:=H.o.2.1.eq_slice
    obtain ⟨tn,htn⟩:∃ q,q=ts.length:=⟨_,rfl⟩
    have hts:=H.o.2.1
    rw [← htn] at hvt
    rw [hvt] at hts
    have ct:wr.cell? ⟨p1,50,none⟩=some (.slice ta tn tc):=by
     rw [G.o.2.2.1.cell,List.getElem?_toArray,(zB0 HR.o.2.1).1,HR.o.2.2.1,hvt]
    have HO:=Zh (Zi hO (Zi hul (Zi htn (hts.below (fun _ _ _ _ _ h=>h) G.o.2.1))))
    have HGE:=Zh (Zi HV.o.2.2.2 G.o.2)
    have h0i:((i:Int) < (n:Int))=False∨(((i:Int) < (n:Int))=True∧((i:Int) < 4)=False):=by
     by_cases c:i < n
     · exact .inr ⟨eq_true (by omega),eq_false (by omega)⟩
     · exact .inl (eq_false (by omega))
    clear hsm hO hul hvt htn hts h0 G
    rcases h0i with h0i | ⟨h0i,h0j⟩
    all_goals
     go_upto_region 8 with fail
     go_wp2_with fail
     refine (zK7 (.slice ta tn tc) ts 4 wr HO.o.2.2.2).mono ?_
     rintro e w2 ⟨⟨v2,rfl,hv2⟩,rfl⟩
     have HT:=Zh hv2
     clear hv2
     go_wp2_with fail
     refine (zJc v2 (ts.take 4) wr HT.o (by rw [List.length_take];omega)).mono ?_
     rintro e w3 ⟨v3,rfl,ho3,hb3⟩
     obtain ⟨za,zc,rfl⟩:=ho3.slice
     obtain ⟨zn,hzn⟩:∃ q,q=(ts.take 4).length:=⟨_,rfl⟩
     rw [← hzn] at ho3 ⊢
     have k13:=HGE.o.2.2.1.kept hb3
     have k23:=HGE.o.2.2.2.kept hb3
     have l13:=k13.lt
     have f51:=k13.free 51
     have f50:=k13.free 50
     have c51:w3.cell? ⟨p1,51,none⟩=some (.slice ba n bc):=(hb3.cell (p:=⟨p1,51,none⟩) (World.block_lt_of_cell? wr _ cb)).trans cb
     have c50:w3.cell? ⟨p1,50,none⟩=some (.slice ta tn tc):=(hb3.cell (p:=⟨p1,50,none⟩) (World.block_lt_of_cell? wr _ ct)).trans ct
     have hq1:=k13.set 51 (.slice ua ul uc)
     rw [zLf HR.o.2.1] at hq1
     have hRw2:Req.Wf { R with vb:=.slice ua ul uc }:=⟨HR.o.2.1.ix,HR.o.2.1.sec,HR.o.2.1.en⟩
     have hq2:=hq1.set 50 (.slice za zn zc)
     rw [zLg hRw2] at hq2
     have hq3:=(k23.set_other (a:=⟨p1,51,none⟩) (fun e=>by have e':p1=p2:=e;have:=HGE.o.1;omega) (.slice ua ul uc)).set_other (a:=⟨p1,50,none⟩) (fun e=>by have e':p1=p2:=e;have:=HGE.o.1;omega) (.slice za zn zc)
     have hch:Chg (fun b=>b=p1) w3 ((w3.setCell ⟨p1,51,none⟩ (.slice ua ul uc)).setCell ⟨p1,50,none⟩ (.slice za zn zc)):=Chg.set (S:=fun b=>b=p1) (a:=⟨p1,50,none⟩) (Chg.set (S:=fun b=>b=p1) (a:=⟨p1,51,none⟩) (Chg.refl _ _) rfl _) rfl _
     have hb03:Below w.heap.size w w3:=HGE.o.2.1.trans (hb3.mono HGE.o.2.1.size)
     have hz3:=hb3.size
     have hbw:Below w.heap.size w ((w3.setCell ⟨p1,51,none⟩ (.slice ua ul uc)).setCell ⟨p1,50,none⟩ (.slice za zn zc)):=((Chg.of_below (S:=fun b=>b=p1) hb03).mix hch (fun k hk=>.inl hk)).below (Nat.le_refl _) (fun k hk=>by rw [hk];have:=HGE.o.1;omega)
     have hT4:zDk w3 (fun b=>b≤p2) (.slice za zn zc) (ts.take 4):=ho3.tests (by rw [List.length_take];omega) (fun b hb _ hb'=>by have hb2:b≤p2:=hb';have:=HGE.o.2.2.2.lt;omega)
     have hT5:=hT4.chg hch (fun b hb _=>by rw [hb];have:=HGE.o.1;omega)
     have hB4:zAI w3 (fun b=>b≤p2) (.slice ua ul uc) (zBP bl):=zAI.below (HO.o.1.at (fun b hb _ hb'=>by have hb2:b≤p2:=hb';omega)) hb3
     have hB5:=hB4.chg hch (fun b hb _=>by rw [hb];have:=HGE.o.1;omega)
     obtain ⟨w5,hw5⟩:∃ q,q=(w3.setCell ⟨p1,51,none⟩ (.slice ua ul uc)).setCell ⟨p1,50,none⟩ (.slice za zn zc):=⟨_,rfl⟩
     rw [← hw5] at hq2 hq3 hch hbw hT5 hB5
     have hfin:({ { R with vb:=.slice ua ul uc } with vt:=.slice za zn zc }:Req)=zGD r (.slice za zn zc) (.slice ua ul uc):=by rw [HR.o.1,HA.o.1,HA.o.2.1];rfl
     have hfw:Req.Wf { { R with vb:=.slice ua ul uc } with vt:=.slice za zn zc }:=⟨HR.o.2.1.ix,HR.o.2.1.sec,HR.o.2.1.en⟩
     have hal:=zHY hfw rfl rfl
     rw [hfin] at hal hq2
     obtain ⟨co,hco⟩:∃ q,q=zM (zGD r (.slice za zn zc) (.slice ua ul uc)):=⟨_,rfl⟩
     rw [← hco] at hal hq2
     have hcut:zCH co.toArray 0 52=co:=zFX hal.1
     have H5:=Zh (Zi hw5 (Zi hbw (Zi hT5 (Zi hB5 hco))))
     have HP:=Zh (Zi hq2 (Zi hq3 HGE.o.1))
     clear hq1 hq2 hq3 hch hbw hT4 hT5 hB4 hB5 hw5 hfin hfw hco k13 k23 hRw2 hb03 hz3 hzn ho3 hb3
     go_upto_region 9 with fail
     rw [← H5.o.1]
     have r5:zN 52 w5 p1 0=co:=zS HP.o.1 hal.1
     have g5:zW 52 w5 p1 0:=zO HP.o.1 (by simp [hal.1])
     have g6:zW 52 w5 p2 0:=zO HP.o.2.1 (by simp [zAU zOf])
     have HLD:=Zh (zLh g6 hal)
     clear cb ct l13 f51 f50 c51 c50
     go_wp2_with fail
     have hc7:Chg (fun b=>b=p2) w5 (w5.setCells p2 0 co):=Chg.setCells (S:=fun b=>b=p2) (L:=p2) rfl _ _ _ (Chg.refl _ _)
     refine bodyPost_ret (v:=.agg co.toArray) (by simp [results,Tryz.results21,asAddr,HLD.o]) rfl ⟨.slice za zn zc,.slice ua ul uc,by rw [H5.o.2.2.2.2],?_,?_,?_⟩
     · exact (H5.o.2.2.1.chg hc7 (fun b hb _=>by rw [hb];exact Nat.le_refl _)).mono (fun b hb=>.inl (by have hb2:b < w.heap.size:=hb;have:=HP.o.2.2;omega))
     · exact (H5.o.2.2.2.1.chg hc7 (fun b hb _=>by rw [hb];exact Nat.le_refl _)).mono (fun b hb=>.inl (by have hb2:b < w.heap.size:=hb;have:=HP.o.2.2;omega))
     · exact ((Chg.of_below (S:=fun k=>w.heap.size≤k) H5.o.2.1).mix hc7 (fun k hk=>.inl (by rw [hk];have:=HP.o.2.2;omega))).below (Nat.le_refl _) (fun _ h=>h)
end Go.Proofs.YtbbojbdigiibbaaGreatDoor
end
section
namespace Go.Mem
open Go Go.RowKit Gf Lea Go.Proofs.YtbbojbdigiibbaaGreatDoor
section
variable {s s':zF} {r:Req} {l lb:List zP} {ts:List Tst} {o:Option (Key × List zP)} {err:Int}
end
end Go.Mem
end
section
namespace Go.Mem
open Go Go.RowKit Gf Lea Go.Proofs.YtbbojbdigiibbaaGreatDoor
theorem zDM.req_at {W w:World} {cs:List Value} {a:zH3} {b o:Nat} (h:zDM W cs a) (hc:∀ j v,cs[j]?=some v→w.cell? ⟨b,o+j,none⟩=some v):zBh 52 w b (o+4)∧zN 52 w b (o+4)=zM a.r:=by
 have hl:(zM a.r).length=52:=zAU h.r.wf
 have hr:∀ j v,(zM a.r)[j]?=some v→w.cell? ⟨b,o+4+j,none⟩=some v:=fun j v hv=>by
  rw [← h.r.cs,List.getElem?_take] at hv
  split at hv
  · rw [List.getElem?_drop] at hv
    rw [Nat.add_assoc]
    exact hc _ _ hv
  · cases hv
 refine ⟨zC8 (cs:=zM a.r) hr hl,?_⟩
 apply List.ext_getElem?
 intro j
 unfold zN
 rw [List.getElem?_map]
 rcases Nat.lt_or_ge j 52 with hj | hj
 · rw [List.getElem?_range hj]
   have hv:(zM a.r)[j]?=some ((zM a.r)[j]'(by omega)):=List.getElem?_eq_getElem (by omega)
   rw [hv]
   simp only [Option.map_some]
   rw [hr j _ hv];rfl
 · rw [List.getElem?_eq_none (by simpa using hj),List.getElem?_eq_none (by omega)];rfl
end Go.Mem
namespace Go.Proofs.YtbbojbdigiibbaaGreatDoor
open Go Go.RowKit Go.Mem Gf Lea
set_option linter.unusedVariables false
theorem zMn (dst:Option Tmp) (x:Operand) (ty:TypeId) (pos:String) (af:Array Edge) (gd:Option (Tmp × Bool)) (a:Act) (w:World) (K:Act→World→Prop) (Q:Exit→Act→World→Prop)
  (hp:zAs (a.eval x)=true) (ht:zBh 52 w (zAB (a.eval x)) (zAC (a.eval x))) :
  Oper.wp Tryz.prog ⟨dst,.load 47 x,ty,pos,af,gd⟩ a w K Q=K (a.put dst (.agg (zN 52 w (zAB (a.eval x)) (zAC (a.eval x))).toArray)) w :=
 zEX Tryz.underlying47 rfl i52 dst x ty pos af gd a w K Q hp ht
theorem zJC (l:List zP):∀ x∈zBP l,x.2.length≤60:=fun x hx=>by
 unfold zBP at hx
 obtain ⟨y,_,rfl⟩:=List.mem_map.1 hx
 show (y.2.take 60).length≤60
 rw [List.length_take]
 omega
end Go.Proofs.YtbbojbdigiibbaaGreatDoor
end
section
namespace Go.Mem
open Go Go.RowKit Gf Lea Go.Proofs.YtbbojbdigiibbaaGreatDoor
structure zCg (m:Nat) (s:zF):Prop where
 st:zAu m s.st
 calm:s.st.disk.stops=false
 good:Lea.Good s.tab
 wf:∀ x∈s.tab,Wf x
 brk:s.broken=false
 len:s.tab.length≤m
 few:s.st.recs.length≤120
theorem zCg.le {m m':Nat} {s:zF} (h:zCg m s) (hm:m≤m'):zCg m' s:=⟨h.st.le hm,h.calm,h.good,h.wf,h.brk,Nat.le_trans h.len hm,h.few⟩
theorem zCg.live {m:Nat} {s:zF} (h:zCg m s):s.dead=false:=by
 unfold zF.dead
 rw [h.brk,h.st.disk,h.st.dead];rfl
theorem zCg.put {m:Nat} {s:zF} (h:zCg m s) (hm:m < 1000000) {name:ByteArray} {data:List UInt8} (hr:zAe name data) :
  ((zU s.st name data).1=0∧zCg (m+1) { s with st:=(zU s.st name data).2 }∧∀ nm,Sto.look (zU s.st name data).2.recs nm=upd (Sto.look s.st.recs) name (some data) nm) ∨
  ((zU s.st name data).1≠0∧(zU s.st name data).1≠8∧(zU s.st name data).2=s.st):=by
 have hp:=h.st.put hm hr
 generalize zU s.st name data=R at hp
 cases hp with
 | arg _=>exact .inr ⟨by simp,by simp,rfl⟩
 | full _ _=>exact .inr ⟨by simp,by simp,rfl⟩
 | done s' _ hs hr' hl ho hst =>
   refine .inl ⟨rfl,⟨hl,hst.trans h.calm,h.good,h.wf,h.brk,Nat.le_succ_of_le h.len,?_⟩,fun nm=>by rw [hr'];exact zFh hs _ _ nm⟩
   show s'.recs.length≤120
   rw [hr',zFg];exact h.few
 | torn s' l _ hs hd h1 h2 ho hl hx=>rw [h.calm] at hd;cases hd
end Go.Mem
end
section
namespace Go.Mem
open Go Go.RowKit Gf Lea
def zBJ (t:List Les) (R:List Key):List Key:=R.filter fun ix=>decide (ofL t ix≠[])
theorem zLJ {t:List Les} {R:List Key} {i:Nat} {x:Key} (hx:R[i]?=some x):zBJ t (R.take (i+1))=zBJ t (R.take i)++if ofL t x≠[] then [x] else []:=by
 unfold zBJ
 rw [List.take_add_one,hx,Option.toList_some,List.filter_append]
 congr 1
 by_cases h:ofL t x≠[]
 · rw [if_pos h,List.filter_cons_of_pos (by simpa using h)];rfl
 · rw [if_neg h,List.filter_cons_of_neg (by simpa using h)];rfl
theorem zEd (t:List Les) (R:List Key):(zBJ t R).length≤R.length:=List.length_filter_le _ _
end Go.Mem
namespace Go.Proofs.YtbbojbdigiibbaaGreatDoor
open Go Go.RowKit Go.Mem Gf Lea
set_option linter.unusedVariables false
theorem zIv {st:St} {R:List Key} (h:zId st R):R.length≤st.recs.length:=by
 have hsub:R.length≤(st.recs.map fun r=>zCe r.name).length:=by
  refine List.Nodup.length_le_of_subset h.nodup fun k hk=>?_
  obtain ⟨_,r,h1,_,h3⟩:=(h.mem k).1 hk
  exact List.mem_map.2 ⟨r,h1,h3⟩
 rwa [List.length_map] at hsub
attribute [local go_sem ↓] Go.wp_at_zero Go.wp_at_succ
attribute [local go_sem ↓] zAN zB2 zCr
attribute [local go_sem] ptrB_eq ptrO_eq ptrIs_eq aggL_eq aggIs_eq zT zg zC zG zZ ze zX zH zK
set_option maxRecDepth 20000 in
set_option maxHeartbeats 4000000 in
theorem zLK (C X:Nat→Prop) (pb:Nat) (s:zF) (w:World) (h:zR w C X pb s) (hn:∀ r∈s.st.recs,r.is=true→17≤r.name.size) (hB:zCb s) :
  Calls Tryz.prog 62 #[.pointer (some ⟨pb,0,none⟩)] w fun e w'=>∃ vo R,e=.returned vo∧zAb bV WfK 16 39 w' w.heap.size vo (zBJ s.tab R)∧zId s.st R∧Below w.heap.size w w':=by
 have H:=Zh (Zi h (Zi hn hB))
 clear h hn hB
 go_enter Tryz.func62,Tryz.ntmps62
 go_wp2_with fail
 refine (zDP C X pb s w H.o.1 H.o.2.1).mono ?_
 rintro e w1 ⟨vo,R,rfl,hO,hR,hb1⟩
 obtain ⟨oa,oc,rfl⟩:=hO.slice
 obtain ⟨n,hnn⟩:∃ n,n=R.length:=⟨_,rfl⟩
 rw [← hnn] at hO ⊢
 have hn4:n≤1024:=by
  have:=zIv hR
  have:=H.o.1.ok.len2
  omega
 have hex0:0 < n→∃ g,oa=some ⟨g,0,none⟩∧zAt bV WfK 16 39 w1 w.heap.size g n oc R:=fun h0=>by
  obtain ⟨g,cap,e,hr⟩:=hO.ex (by omega)
  injection e with ea en ec
  rw [← ec,← hnn] at hr
  exact ⟨g,ea,hr⟩
 have H1:=Zh (Zi hex0 (Zi hR (Zi hb1 (Zi hnn (H.o.1.below hb1)))))
 clear hO hR hb1 hnn hex0
 go_upto_region 3 with fail
 go_loopw [3,9] (fun u vi wr=>∃ i:Nat,i≤n∧vi=.int .i64 i∧Hid (zAb bV WfK 16 39 wr w1.heap.size u (zBJ s.tab (R.take i))∧Below w1.heap.size w1 wr)) (fun _ vi _=>n - (intOf vi).toNat)
 case atStart=>exact ⟨0,Nat.zero_le _,rfl,by rw [List.take_zero];exact zAb.nil _ _ _ _ _ _,Below.refl _ _⟩
 case round =>
  obtain ⟨i,hi0,rfl,G⟩:=hrel
  by_cases hin:i < n
  · obtain ⟨g,rfl,hrow0⟩:=H1.o.1 (by omega)
    have hrow:=hrow0.chg (S:=fun _=>False) (Chg.of_below G.o.2) (fun h=>h)
    have hx:R[i]?=some (R[i]'(by have:=H1.o.2.2.2.1;omega)):=by simp
    generalize R[i]'(by have:=H1.o.2.2.2.1;omega)=x at hx
    have wx:x.length=16:=hrow.wf x (List.mem_of_getElem? hx)
    have rx:=hrow.read ecK hx
    have t1:zW 16 wr g (i*16):=hrow.there hin
    have ax:zAP 16 (bV x):=⟨(zAS wx).2,zAJ x⟩
    have gl:g < wr.heap.size:=hrow.lt
    have i0:(0:Int)≤(i:Int):=by omega
    have i1:(i:Int) < (n:Int):=by omega
    have kx1:=(zAS wx).1
    obtain ⟨ck,hck⟩:∃ c,c=bV x:=⟨_,rfl⟩
    rw [← hck] at rx ax kx1
    have k2:ck.length=16:=ax.1
    have HX:=Zh (Zi hx (Zi hck wx))
    have hu16:=Tryz.underlying39
    have hi16:(Tryz.prog.info? 39).map (·.size)=some ck.length:=by rw [ax.1];exact i16
    clear hx hrow hrow0 hck wx
    go_upto_region 5 with fail
    have hbk:Blk (wr.alloc (.cells ck.toArray 39)) wr.heap.size ck.toArray 39:=Blk.new _ _ _
    have hbb:Below wr.heap.size wr (wr.alloc (.cells ck.toArray 39)):=(Below.refl _ _).alloc (Nat.le_refl _) _
    obtain ⟨wa,hwa⟩:∃ q,q=wr.alloc (.cells ck.toArray 39):=⟨_,rfl⟩
    obtain ⟨p6,hp6⟩:∃ q,q=wr.heap.size:=⟨_,rfl⟩
    rw [← hwa] at hbk hbb ⊢
    rw [← hp6] at hbk ⊢
    obtain ⟨sb,lb,d,L,tb,v,hA⟩:=H1.o.2.2.2.2.below (G.o.2.trans (hbb.mono G.o.2.size))
    have hof:=zCY wa.drew tb v s.tab x (hA.heap.tab.below (Below.refl _ _).drew) (by have:=H.o.2.2.tab;omega) HX.o.2.2 (by have:=hA.good.few x;omega)
    rw [← HX.o.2.1] at hof
    have c4:wa.drew.cell? ⟨pb,4,none⟩=some (.pointer (some ⟨tb,0,none⟩)):=hA.blk.cell 4
    have r4:wa.drew.rangeAt p6 0 ck:=fun j v hj=>by
     rw [(hbk.drew).cell,Nat.zero_add]
     simpa using hj
    obtain ⟨m,hm⟩:∃ m,m=(ofL s.tab x).length:=⟨_,rfl⟩
    have HA:=Zh (Zi hA (Zi hbk (Zi hbb (Zi hof hm))))
    clear hwa hp6 hbk hbb hA hof hm
    go_region_held3 (fun w'=>w'.cell? ⟨pb,4,none⟩=some (.pointer (some ⟨tb,0,none⟩))∧w'.rangeAt p6 0 ck) (first | exact ⟨c4,r4⟩ | with_reducible assumption)
     (first
      | (go_at_call 65
         refine HA.o.2.2.2.1.mono ?_
         rintro e w2 ⟨vo,out,rfl,hO,hR,hb2⟩
         obtain ⟨fa,fc,rfl⟩:=hO.slice
         rw [hR.perm.length_eq,← HA.o.2.2.2.2]
         have hb2:Below wa.heap.size wa w2:=zA2 hb2
         have hh:w2.cell? ⟨pb,4,none⟩=some (.pointer (some ⟨tb,0,none⟩))∧w2.rangeAt p6 0 ck:=⟨(HA.o.1.below hb2).blk.cell 4,fun j v hj=>by
          rw [(HA.o.2.1.kept hb2).cell,Nat.zero_add]
          simpa using hj⟩
         have HB2:=Zh (Zi (HA.o.2.2.1.trans (hb2.mono HA.o.2.2.1.size)) (HA.o.2.1.kept hb2))
         clear hO hR hb2))
    clear c4 r4 hh
    have hst:=zLJ (t:=s.tab) HX.o.1
    have rk:zN 16 w2 p6 0=ck:=zS HB2.o.2 k2
    have gk:zW 16 w2 p6 0:=zO HB2.o.2 (by simp [k2])
    have lk:=HB2.o.2.lt
    have HO:=Zh (Zi (G.o.1.chg (S:=fun _=>False) (Chg.of_below HB2.o.1) (fun _ _ h=>h)) (G.o.2.trans (HB2.o.1.mono G.o.2.size)))
    by_cases m0:m=0
    · have hnil:ofL s.tab x=[]:=List.eq_nil_of_length_eq_zero (by rw [← HA.o.2.2.2.2];exact m0)
      rw [if_neg (by simpa using hnil),List.append_nil] at hst
      have HS:=Zh hst
      subst m0
      clear hst hnil
      go_wp2_with fail
      exact ⟨⟨i+1,by omega,by simp,by rw [HS.o];exact HO.o.1,HO.o.2⟩,by show n - ((i:Int)+1).toNat < n - (i:Int).toNat;omega⟩
    · have hne:ofL s.tab x≠[]:=fun e=>m0 (by rw [HA.o.2.2.2.2,e];rfl)
      rw [if_pos hne] at hst
      have hll:=zEd s.tab (R.take i)
      have hll2:(R.take i).length≤i:=by rw [List.length_take];omega
      have HS:=Zh (Zi hst (Nat.le_trans hll hll2))
      have dm:decide ((0:Int) < (m:Int))=true:=by simp;omega
      have dm':decide (0 < m)=true:=by simp;omega
      have mp:0 < m:=by omega
      replace m0:=Zh m0
      clear hst hne hll hll2
      go_wp2_with
       (first
        | (refine zBW EKk ecK (by rfl) _ _ (by rfl) (base:=w1.heap.size) (l:=zBJ s.tab (R.take i)) (cx:=1) (e':=39) x HX.o.2.2 (by rfl) (by rfl) (by rw [← HX.o.2.1];exact Blk.new_at _ _ _ _ (by simp)) (HO.o.1.chg (S:=fun _=>False) (Chg.of_below ((Below.refl _ _).alloc (Nat.le_refl _) _)) (fun _ _ h=>h)) (by have:=HS.o.2;omega) (by decide) (by have:=HO.o.2.size;simp;omega) ?_
           intro v1 x1 hv1 hg1 hs1
           have HV1:=Zh hv1
           have HC1:=Zh (zl (HO.o.2.alloc HO.o.2.size _) hg1 (fun q hq=>HO.o.1.ge hq))
           clear hv1 hg1 hs1)
        | fail)
      exact ⟨⟨i+1,by omega,by simp,by rw [HS.o.1];exact HV1.o,HC1.o⟩,by show n - ((i:Int)+1).toNat < n - (i:Int).toNat;omega⟩
  · have hfull:R.take i=R:=List.take_of_length_le (by have:=H1.o.2.2.2.1;omega)
    have hg:=G.o.1
    rw [hfull] at hg
    have HG:=Zh hg
    clear hfull hg
    go_wp2_with fail
    go_ret
    exact ⟨_,R,rfl,HG.o.lower H1.o.2.2.1.size,H1.o.2.1,H1.o.2.2.1.trans (G.o.2.mono H1.o.2.2.1.size)⟩
end Go.Proofs.YtbbojbdigiibbaaGreatDoor
end
