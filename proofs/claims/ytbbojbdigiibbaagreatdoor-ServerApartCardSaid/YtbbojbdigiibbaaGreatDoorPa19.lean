/- Texts of this proof,packed: SrvSweep,SrvSmallM,SrvSmall,SrvKindL,SrvPlay,SrvWeak,SrvHeld. -/
import Derived.Test.YtbbojbdigiibbaaGreatDoorPa14
import Derived.Test.YtbbojbdigiibbaaGreatDoorPa18
import Derived.Test.YtbbojbdigiibbaaGreatDoorPa08
section
namespace Go.Mem
open Go Go.RowKit Gf Lea Go.Proofs.YtbbojbdigiibbaaGreatDoor
def noL (nm:ByteArray):Bool:=!(((nm.data.toList.getD 0 0).toNat:Int) == 108)
def swN (s:zG) (ix:Key):List ByteArray:=((s.shares ix).map fun x=>zI ix x.1.toNat)++[zw ix,zD ix]
def zAI:List ByteArray→St→Bool→Bool × Int × St
 | [],st,told=>(told,0,st)
 | n::l,st,told=>if (st.get n).isSome=true then (if (zAd st n).1=0 then zAI l (zAd st n).2 (told || noL n) else (told,(zAd st n).1,(zAd st n).2)) else zAI l st told
theorem zGA {s:zG} {ix:Key}:∀ {k:Nat} {x:zM},x∈s.sharesK ix k→∃ m:Nat,m < k∧x.1=m∧s.st.get (zI ix m)=some x.2
 | 0,x,h=>by simp [zG.sharesK] at h
 | k+1,x,h=>by
   rw [zG.sharesK_succ,List.mem_append] at h
   rcases h with h | h
   · obtain ⟨m,h1,h2,h3⟩:=zGA h
     exact ⟨m,by omega,h2,h3⟩
   · cases hg:s.st.get (zI ix k) with
     | none=>rw [hg] at h;simp at h
     | some b =>
       rw [hg] at h
       simp at h
       subst h
       exact ⟨k,by omega,rfl,hg⟩
theorem zNq {s:zG} {ix:Key} (hix:ix.length=16):∀ nm∈swN s ix,0 < nm.size:=fun nm hn=>by
 unfold swN at hn
 rcases List.mem_append.1 hn with h | h
 · obtain ⟨x,_,rfl⟩:=List.mem_map.1 h
   rw [zB9 _ _ hix];decide
 · simp only [List.mem_cons,List.mem_nil_iff,or_false] at h
   rcases h with rfl | rfl
   · rw [zEY _ hix];decide
   · rw [zCn _ hix];decide
theorem zIR (s:St) (nm:ByteArray):(zAd s nm).2.disk.writes≤s.disk.writes+1:=by
 unfold zAd
 split
 · exact Nat.le_succ _
 · split
   · exact Nat.le_succ _
   · exact zA.wr_writes _ _ _
end Go.Mem
namespace Go.Tail
open Go
section
variable {P:Program} {ops:Array Oper} {isM:Nat→Bool} {kn:Nat→Option Value} {J:(Nat→Bool)→(Nat→Value)→World→Prop}
theorem J_mov {z:Nat→Value} {Lq:Act→Prop} {o:Oper} {rest:List Oper} {k:Nat} {a:Act} (hk:isM k=true) (hw:Region.wanted o (yielded ops a.tmps)=true)
  (h1:∀ D z' w,D k=false→(∀ k',D k'=true→z k'=z' k')→(∀ k',dep .any ops isM k k'=true→D k'=true)→(∀ k',pre .any ops isM k' k=true→D k'=false)→J D z' w→∃ v w',(execOp a.eval o).run P w=.ok (.value v) w'∧(∀ c,kn k=some c→v=c)∧J (zB1 D k) (zFw z' k v) w')
  (h:wpJ P ops isM kn J z Lq rest (k+1) (a.put o.dst ((kn k).getD (z k)))):wpJ P ops isM kn J z Lq (o::rest) k a :=
 ⟨_,.inr (.inr ⟨hk,hw,rfl,fun D z' w hD hz hd hp hJ=>.inr (.inl (h1 D z' w hD hz hd hp hJ))⟩),h⟩
end
end Go.Tail
namespace Go.Mem
open Go Go.RowKit Gf
theorem zJ7 {P:Program} {t e:TypeId} {z:Value} {bytes:Nat} (E:Elem P t e z bytes) {o:Oper} {a:Act} {w:World} (s x:Operand) (ho:o.op=.call { callee:=.builtin .append,args:=#[s,x],argTypes:=#[t,t] })
  {base:Nat} {v:Value} {n m:Nat} {xs:List Value} (news:List Value) (hs:a.eval s=v) {mb:Nat} (hx:a.eval x=.slice (some ⟨mb,0,none⟩) m m) (hl:news.length=m) (hc:∀ j u,news[j]?=some u→w.cell? ⟨mb,j,none⟩=some u) (h1:∀ u∈news,u.oneCell'=true)
  (hown:w.ownsRow base e 1 v n xs) (hn:n+m≤4294967296) (hby:bytes≤4096) (hbase:base≤w.heap.size) :
  ∃ v' w',(execOp a.eval o).run P w=.ok (.value v') w'∧w'.ownsRow base e 1 v' (n+m) (xs++news)∧w.grownBy w' v.ownBlock∧(∀ k,v'.ownBlock=some k→v.ownBlock=some k∨w.heap.size≤k):=by
 obtain ⟨i,hi,hz,hsz,hb⟩:=info_parts E.info
 have hm:(n+m)*bytes≤4294967296*4096:=Nat.mul_le_mul hn hby
 obtain ⟨v',w',hr,h2,h3,h4⟩:=zBc (P:=P) w base t o.type e i z 1 bytes E.under hi hz hsz hb E.one (by decide) v n xs hown ⟨mb,0,none⟩ m m news (by omega)
  (fun j y hj=>by
   rw [show (⟨mb,0,none⟩:Addr).add j=⟨mb,j,none⟩ from by unfold Addr.add;split <;> simp_all]
   exact hc j y hj)
  h1 (by unfold maxLen;omega) (by omega) hbase
 refine ⟨v',w',?_,h2,h3,h4⟩
 unfold execOp
 simp only [ho,resolve,invoke,builtin,Sem.run_bind,Sem.run_pure,Result.andThen_ok,List.map_toArray,List.map_cons,List.map_nil,hs,hx,hr]
theorem app_ex {P:Program} {t e:TypeId} {z:Value} {bytes:Nat} (E:Elem P t e z bytes) {o:Oper} {a:Act} {w:World} (s x:Operand) (ho:o.op=.call { callee:=.builtin .append,args:=#[s,x],argTypes:=#[t,t] })
  {base:Nat} {v:Value} {n m:Nat} {xs:List Value} (news:List Value) (hs:a.eval s=v) {mb:Nat} (hx:a.eval x=.slice (some ⟨mb,0,none⟩) m m) (hl:news.length=m) (hc:∀ j u,news[j]?=some u→w.cell? ⟨mb,j,none⟩=some u) (h1:∀ u∈news,u.oneCell'=true)
  (hown:w.ownsRow base e 1 v n xs) (hn:n+m≤4294967296) (hby:bytes≤4096) (hbase:base≤w.heap.size) {R:Value→World→Prop}
  (h:∀ v' w',w'.ownsRow base e 1 v' (n+m) (xs++news)→w.grownBy w' v.ownBlock→R v' w'):∃ v' w',(execOp a.eval o).run P w=.ok (.value v') w'∧R v' w':=by
 obtain ⟨v',w',h2,h3,h4,_⟩:=zJ7 E s x ho news hs hx hl hc h1 hown hn hby hbase
 exact ⟨v',w',h2,h v' w' h3 h4⟩
end Go.Mem
namespace Go.Proofs.YtbbojbdigiibbaaGreatDoor
open Go Go.RowKit Go.Mem Gf Lea
set_option linter.unusedVariables false
theorem idx0 {nm:ByteArray} (h:0 < nm.size) (w:World):(Instr.index 9 (.string nm) (.int .i64 0)).run Tryz.prog w=.ok (.int .u8 ((nm.data.toList.getD 0 0).toNat:Int)) w:=by
 rw [run_index_string w 9 nm .i64 0 Tryz.underlying9,dif_pos ⟨by omega,by omega⟩]
 have e:nm[(0:Int).toNat]'(by simpa using h)=nm.data.toList.getD 0 0:=by
  have h1:0 < nm.data.toList.length:=by simpa using h
  rw [List.getD_eq_getElem?_getD,List.getElem?_eq_getElem h1]
  rfl
 rw [e]
theorem zMW {w:World} {base n g c:Nat} {t:TypeId} {L:List ByteArray} (h:w.ownsRow base t 1 (.slice (some ⟨g,0,none⟩) n c) n (L.map Value.string)) {i:Nat} {x:ByteArray} (hx:L[i]?=some x):w.cell? ⟨g,i,none⟩=some (.string x):=by
 have:=h.cells (g:=g) rfl i (.string x) (by rw [List.getElem?_map,hx];rfl)
 rw [show (⟨g,0,none⟩:Addr).add i=⟨g,i,none⟩ from by unfold Addr.add;split <;> simp_all] at this
 exact this
attribute [local go_sem ↓] Go.wp_at_zero Go.wp_at_succ
attribute [local go_sem ↓] zAK
attribute [local go_sem] ptrB_eq ptrO_eq ptrIs_eq aggL_eq aggIs_eq zS ze zC zF zX zZ
set_option maxRecDepth 20000 in
set_option maxHeartbeats 4000000 in
theorem zGI (C X:Nat→Prop) (pb:Nat) (s:zG) (ix:Key) (hix:ix.length=16) (w:World) (h:zT w C X pb s) (hw:s.st.disk.writes < 72057594037800000) :
  Calls Tryz.prog 61 #[.pointer (some ⟨pb,0,none⟩),.agg (bV ix).toArray] w fun e w'=>∃ told err st',e=.returned (.tuple #[.bool told,.int .i64 err])∧zAI (swN s ix) s.st false=(told,err,st')∧zT w' C X pb { s with st:=st' }∧Chg C w w':=by
 have hb0:Below w.heap.size w (w.alloc (.cells (bV ix).toArray 39)):=(Below.refl _ _).alloc (Nat.le_refl _) _
 have hk0:Blk (w.alloc (.cells (bV ix).toArray 39)) w.heap.size (bV ix).toArray 39:=Blk.new _ _ _
 obtain ⟨ck,hck⟩:∃ c,c=bV ix:=⟨_,rfl⟩
 have k1:zCi ck.toArray 0 16=ck:=by rw [hck];exact (zAT hix).1
 have k2:ck.length=16:=by rw [hck,zB];exact hix
 have hu16:=Tryz.underlying39
 have hi16:(Tryz.prog.info? 39).map (·.size)=some ck.length:=by rw [k2];exact i16
 rw [← hck] at hb0 hk0 ⊢
 obtain ⟨wa,hwa⟩:∃ q,q=w.alloc (.cells ck.toArray 39):=⟨_,rfl⟩
 obtain ⟨p3,hp3⟩:∃ q,q=w.heap.size:=⟨_,rfl⟩
 rw [← hwa] at hb0 hk0
 rw [← hp3] at hk0
 have ra:zN 16 wa p3 0=ck:=zP hk0 k2
 have ga:zY 16 wa p3 0:=zL hk0 (by simp [k2])
 have H:=Lib.hid (And.intro h (And.intro hb0 (And.intro hk0 (And.intro hp3 (And.intro hix (And.intro hck hw))))))
 have HW:=Lib.hid hwa
 clear h hb0 hk0 hwa hp3 hix hck hw
 go_enter Tryz.func61,Tryz.ntmps61
 go_upto_region 1 with fail
 rw [← HW.out,← H.out.2.2.2.1]
 go_wp2_with fail
 refine (show Calls _ _ _ _ _ from (by rw [H.out.2.2.2.2.2.1];exact zDg C X pb s ix H.out.2.2.2.2.1 wa (H.out.1.below H.out.2.1))).mono ?_
 rintro e w1 ⟨u,rfl,hO,hb1⟩
 obtain ⟨ua,uc,rfl,hua⟩:=hO.slice
 have hat:=hO.mono (M:=fun _=>False) (fun _ h=>h.elim) |>.at (fun _ _ _ h=>h)
 obtain ⟨n,hn⟩:∃ n,n=(s.shares ix).length:=⟨_,rfl⟩
 have hn16:n≤16:=by rw [hn];exact zG.sharesK_len s ix 16
 rw [← hn] at hat ⊢
 obtain ⟨ua',uc',eu,_,_,hcell⟩:=hat
 have hcell:0 < n→∃ b off,ua=some ⟨b,off,none⟩∧b < w1.heap.size∧∀ (i:Nat) (x:zM),(s.shares ix)[i]?=some x→w1.cell? ⟨b,off+i*2,none⟩=some (.int .i64 x.1)∧∃ a' c',w1.cell? ⟨b,off+i*2+1,none⟩=some (.slice a' x.2.length c'):=fun h0=>by
  injection eu with e1 _ _
  obtain ⟨b,off,e2,hb,_,hc⟩:=hcell (by rw [← hn];exact h0)
  exact ⟨b,off,e1.trans e2,hb,fun i x hx=>by
   obtain ⟨q1,a',c',q2,_⟩:=hc i x hx
   exact ⟨q1,a',c',q2⟩⟩
 have hb01:Below w.heap.size w w1:=H.out.2.1.trans (hb1.mono H.out.2.1.size)
 have hk1:=H.out.2.2.1.kept hb1
 have H1:=Lib.hid (And.intro hn (And.intro hcell (And.intro hb01 hk1)))
 obtain ⟨NM,hNM⟩:∃ l,l=(s.shares ix).map fun x=>zI ix x.1.toNat:=⟨_,rfl⟩
 have HNM:=Lib.hid hNM
 have hnl:NM.length=n:=by rw [hNM,List.length_map,hn]
 have HNL:=Lib.hid hnl
 clear hO hb1 hua hn eu hcell hb01 hk1 hNM hnl ra ga
 go_upto_region 3 with fail
 go_loopw [6,18] (fun u6 vi wr=>∃ i:Nat,i≤n∧vi=.int .i64 i∧Hid (wr.ownsRow w1.heap.size 9 1 u6 i ((NM.take i).map Value.string)∧Below w1.heap.size w1 wr)) (fun _ vi _=>n - (intOf vi).toNat)
 case atStart=>exact ⟨0,Nat.zero_le _,rfl,by rw [List.take_zero];exact World.ownsRow_nil _ _ _ _,Below.refl _ _⟩
 case round =>
  obtain ⟨i,hi0,rfl,G⟩:=hrel
  by_cases hin:i < n
  · obtain ⟨b,off,rfl,hb,hc⟩:=H1.out.2.1 (by omega)
    obtain ⟨x,hx⟩:∃ x,(s.shares ix)[i]?=some x:=⟨(s.shares ix)[i]'(by have:=H1.out.1;omega),by simp⟩
    obtain ⟨c1,a',c',c2⟩:=hc i x hx
    have hbc:=fun o=>G.out.2.cell (p:=⟨b,o,none⟩) hb
    rw [← hbc] at c1 c2
    obtain ⟨m,hm16,hxm,_⟩:=zGA (List.mem_of_getElem? hx)
    rw [hxm] at c1
    obtain ⟨q,hq⟩:∃ q,q=x.2.length:=⟨_,rfl⟩
    rw [← hq] at c2
    have i0:(0:Int)≤(i:Int):=by omega
    have i1:(i:Int) < (n:Int):=by omega
    have hkr:=H1.out.2.2.2.kept G.out.2
    have ra:zN 16 wr p3 0=ck:=zP hkr k2
    have ga:zY 16 wr p3 0:=zL hkr (by simp [k2])
    have l3:=hkr.lt
    have hstep:(NM.take (i+1)).map Value.string=(NM.take i).map Value.string++[.string (zI ix m)]:=by
     have:NM[i]?=some (zI ix m):=by rw [HNM.out,List.getElem?_map,hx];simp [hxm]
     rw [List.take_add_one,this,Option.toList_some,List.map_append];rfl
    obtain ⟨xs,hxs⟩:∃ l,l=(NM.take i).map Value.string:=⟨_,rfl⟩
    have G1:=G.out.1
    rw [← hxs] at G1 hstep
    have HX:=Lib.hid (And.intro hstep (And.intro hm16 G1))
    clear hx hc hbc hxm hq hkr hstep hxs G1 hm16
    go_wp2_with
     (first
      | (refine (show Calls _ _ _ _ _ from (by rw [H.out.2.2.2.2.2.1];exact zEG ix H.out.2.2.2.2.1 m HX.out.2.1 _)).mono ?_
         rintro e w3 ⟨rfl,hb3⟩
         have HB3:=Lib.hid (And.intro ((G.out.2.alloc G.out.2.size _).trans (hb3.mono (G.out.2.alloc G.out.2.size _).size)) (zAg (S:=fun _=>False) (HX.out.2.2.alloc _) (Chg.of_below hb3) (fun _ _ h=>h)))
         clear hb3)
      | (at_builtin;refine zGf ESc rfl _ _ rfl (base:=w1.heap.size) (n:=i) (xs:=xs) (.string (zI ix m)) rfl rfl ?cc rfl (HB3.out.2.alloc _) ?q1 ?q2 ?q3 ?_
         case cc=>exact zG5 _ _ _ _ (by simp)
         case q1=>omega
         case q2=>omega
         case q3=>have:=HB3.out.1.size;simp;omega
         intro v4 w4 ho4 hg4
         have hb4:=zg (HB3.out.1.alloc HB3.out.1.size _) hg4 (fun k hk=>(HX.out.2.2.lt k hk).1)
         have HO4:=Lib.hid (And.intro ho4 hb4)
         clear ho4 hg4 hb4)
      | fail)
    exact ⟨⟨i+1,by omega,by simp,by rw [HX.out.1];exact HO4.out.1,HO4.out.2⟩,by show n - ((i:Int)+1).toNat < n - (i:Int).toNat;omega⟩
  · obtain rfl:n=i:=by omega
    have hkr:=H1.out.2.2.2.kept G.out.2
    have r3:wr.drew.rangeAt p3 0 ck:=fun j v hj=>by
     rw [(hkr.drew).cell,Nat.zero_add]
     simpa using hj
    go_upto_region 7 with fail
    have HKR:=Lib.hid (And.intro G.out hkr)
    clear hkr
    refine Tail.zC4 7 (fun k=>k == 2 || k == 4 || k == 5 || k == 6) (fun k=>if k=2 then some (.string (zw ix)) else if k=4 then some (.string (zD ix)) else none)
     (fun D z w'=>w'.rangeAt p3 0 ck∧(D 6=false→Below wr.heap.size wr w'∧(D 5=true→∃ g,z 5=.slice (some ⟨g,0,none⟩) 2 2∧wr.heap.size≤g∧Blk w' g #[.string (zw ix),.string (zD ix)] 9))∧(D 6=true→w'.ownsRow w1.heap.size 9 1 (z 6) (n+2) ((NM++[zw ix,zD ix]).map Value.string)∧Below w1.heap.size w1 w'))
     (by kernel_rfl) (by kernel_rfl) (fun k hk=>by simp at hk;omega) (fun D z z' w' hz h=>⟨h.1,fun d=>⟨(h.2.1 d).1,fun d5=>by rw [← hz 5 d5];exact (h.2.1 d).2 d5⟩,fun d=>by rw [← hz 6 d];exact h.2.2 d⟩) ⟨r3,fun _=>⟨(Below.refl _ _).drew,fun h=>by cases h⟩,fun h=>by cases h⟩ (fun z=>?_)
    simp only [List.take_succ_cons,List.take_zero,List.drop_succ_cons,List.drop_zero]
    clear r3
    refine Tail.zB0 (by rfl) (by rfl) ?_
    apply Exists.intro
    refine ⟨fun w=>?_,?_⟩
    · go_simp <;> with_reducible rfl
    simp only [Act.put,List.setIfInBounds_toArray,List.set_cons_zero,List.set_cons_succ]
    refine Tail.zFe (by rfl) (by rfl) _ _ rfl p3 0 (by rfl) ck (fun D w' _ _ hJ=>hJ.1) hu16 rfl hi16 ?_
    simp only [Act.put,List.setIfInBounds_toArray,List.set_cons_zero,List.set_cons_succ]
    refine Tail.zC6 (by rfl) (by rfl) ?_ ?_
    · apply Exists.intro
      apply Exists.intro
      refine ⟨fun w'=>?_,?_⟩
      · go_simp <;> exact ⟨rfl,rfl⟩
      intro D z' w' hD hz hd hp hJ
      have h5:D 5=false:=hp 5 (by kernel_rfl)
      have h6:D 6=false:=hp 6 (by kernel_rfl)
      refine (show Calls _ _ _ _ _ from (by rw [H.out.2.2.2.2.2.1];exact zDh ix H.out.2.2.2.2.1 w')).mono ?_
      rintro e w'' ⟨rfl,hb⟩
      have hb2:=(hJ.2.1 h6).1.trans (hb.mono (hJ.2.1 h6).1.size)
      refine ⟨_,rfl,fun c hc=>by simp at hc;exact hc,fun j v hj=>?_,fun _=>⟨hb2,fun h=>?_⟩,fun h=>?_⟩
      · rw [((HKR.out.2.kept hb2)).cell,Nat.zero_add]
        simpa using hj
      · simp [Tail.zB1,h5] at h
      · simp [Tail.zB1,h6] at h
    simp only [Act.put,List.setIfInBounds_toArray,List.set_cons_zero,List.set_cons_succ,Nat.reduceAdd,Nat.reduceEqDiff,reduceIte,Option.getD_some]
    refine Tail.zFe (by rfl) (by rfl) _ _ rfl p3 0 (by rfl) ck (fun D w' _ _ hJ=>hJ.1) hu16 rfl hi16 ?_
    simp only [Act.put,List.setIfInBounds_toArray,List.set_cons_zero,List.set_cons_succ]
    refine Tail.zC6 (by rfl) (by rfl) ?_ ?_
    · apply Exists.intro
      apply Exists.intro
      refine ⟨fun w'=>?_,?_⟩
      · go_simp <;> exact ⟨rfl,rfl⟩
      intro D z' w' hD hz hd hp hJ
      have h5:D 5=false:=hp 5 (by kernel_rfl)
      have h6:D 6=false:=hp 6 (by kernel_rfl)
      refine (show Calls _ _ _ _ _ from (by rw [H.out.2.2.2.2.2.1];exact zA8 ix H.out.2.2.2.2.1 w')).mono ?_
      rintro e w'' ⟨rfl,hb⟩
      have hb2:=(hJ.2.1 h6).1.trans (hb.mono (hJ.2.1 h6).1.size)
      refine ⟨_,rfl,fun c hc=>by simp at hc;exact hc,fun j v hj=>?_,fun _=>⟨hb2,fun h=>?_⟩,fun h=>?_⟩
      · rw [((HKR.out.2.kept hb2)).cell,Nat.zero_add]
        simpa using hj
      · simp [Tail.zB1,h5] at h
      · simp [Tail.zB1,h6] at h
    simp only [Act.put,List.setIfInBounds_toArray,List.set_cons_zero,List.set_cons_succ,Nat.reduceAdd,Nat.reduceEqDiff,reduceIte,Option.getD_some]
    refine Tail.J_mov (by rfl) (by rfl) (fun D z' w' hD hz hd hp hJ=>?_) ?_
    · have h6:D 6=false:=hp 6 (by kernel_rfl)
      have hb2:=(hJ.2.1 h6).1
      have hb3:Below wr.heap.size wr (w'.alloc (.cells #[Value.string (zw ix),Value.string (zD ix)] 9)):=hb2.alloc hb2.size _
      refine ⟨.slice (some ⟨w'.heap.size,0,none⟩) 2 2,w'.alloc (.cells #[Value.string (zw ix),Value.string (zD ix)] 9),?_,fun c hc=>by simp at hc,fun j v hj=>?_,fun _=>⟨hb3,fun _=>⟨w'.heap.size,by simp [Tail.zFw],hb2.size,Blk.new _ _ _⟩⟩,fun h=>?_⟩
      · go_simp <;> with_reducible rfl
      · rw [(HKR.out.2.kept hb3).cell,Nat.zero_add]
        simpa using hj
      · simp [Tail.zB1,h6] at h
    simp only [Act.put,List.setIfInBounds_toArray,List.set_cons_zero,List.set_cons_succ,Nat.reduceAdd,Nat.reduceEqDiff,reduceIte,Option.getD_none]
    refine Tail.J_mov (by rfl) (by rfl) (fun D z' w' hD hz hd hp hJ=>?_) ?_
    · have h5:D 5=true:=hd 5 (by kernel_rfl)
      obtain ⟨hb2,hq⟩:=hJ.2.1 hD
      obtain ⟨g,hz5,hg,hkg⟩:=hq h5
      have hown:=zAg (S:=fun _=>False) HKR.out.1.1 (Chg.of_below hb2) (fun _ _ h=>h)
      have hfull:NM.take n=NM:=List.take_of_length_le (by have:=HNL.out;omega)
      rw [hfull] at hown
      refine app_ex (P:=Tryz.prog) ESc (.tmp 30) (.tmp 35) rfl (base:=w1.heap.size) (v:=u6) (n:=n) (m:=2) (xs:=NM.map Value.string) [.string (zw ix),.string (zD ix)] rfl (mb:=g) ?hx rfl (fun j u hj=>by rw [hkg.cell];simpa using hj) (by simp [Value.oneCell']) hown (by omega) (by decide) (Nat.le_trans HKR.out.1.2.size hb2.size) (fun v' wx ho2 hg2=>?_)
      case hx=>rw [← hz5,← hz 5 h5];rfl
      have hb4:Below w1.heap.size w1 wx:=zg (HKR.out.1.2.trans (hb2.mono HKR.out.1.2.size)) hg2 (fun k hk=>(HKR.out.1.1.lt k hk).1)
      refine ⟨fun c hc=>by simp at hc,fun j v hj=>?_,fun h=>?_,fun _=>⟨?_,hb4⟩⟩
      · rw [(H1.out.2.2.2.kept hb4).cell,Nat.zero_add]
        simpa using hj
      · simp [Tail.zB1] at h
      · rw [List.map_append]
        simpa [Tail.zFw] using ho2
    simp only [Act.put,List.setIfInBounds_toArray,List.set_cons_zero,List.set_cons_succ,Nat.reduceAdd,Nat.reduceEqDiff,reduceIte,Option.getD_none]
    intro w4 hJ4
    have hQ:=hJ4.2.2 rfl
    clear hJ4
    generalize z 6=v6 at hQ ⊢
    generalize z 5=v5
    obtain ⟨N2,hN2⟩:∃ m,m=n+2:=⟨_,rfl⟩
    obtain ⟨L,hL⟩:∃ l,l=swN s ix:=⟨_,rfl⟩
    have hLN:L=NM++[zw ix,zD ix]:=by rw [hL,HNM.out];rfl
    rw [← hN2,← hLN] at hQ
    have hLl:L.length=N2:=by rw [hLN,List.length_append,HNL.out,hN2];rfl
    obtain ⟨sa,sc,rfl,hsa⟩:=zAE hQ.1
    obtain ⟨g,rfl⟩:=hsa (by omega)
    have hbw4:Below w.heap.size w w4:=H1.out.2.2.1.trans (hQ.2.mono H1.out.2.2.1.size)
    have hgl:=hQ.1.lt g rfl
    have hgC:¬ C g:=fun hC=>by have:=H.out.1.lt (.inl hC);have:=H1.out.2.2.1.size;omega
    have hN18:N2≤18:=by omega
    have HQ:=Lib.hid (And.intro hQ.1 (And.intro hL (And.intro hLl (And.intro hbw4 (And.intro hgC (H.out.1.below hbw4))))))
    clear hQ hN2 hL hLN hLl hsa hbw4 hgl hgC
    go_upto_region 9 with fail
    go_loopw [4,39] (fun u4 vi wx=>∃ (j:Nat) (t:Bool) (st:St),j≤N2∧vi=.int .i64 j∧u4=.bool t∧Hid (zAI (L.drop j) st t=zAI L s.st false∧zT wx C X pb { s with st:=st }∧Chg C w4 wx∧st.disk.writes≤s.st.disk.writes+j)) (fun _ vi _=>N2 - (intOf vi).toNat)
    case atStart=>exact ⟨0,false,s.st,Nat.zero_le _,rfl,rfl,rfl,HQ.out.2.2.2.2.2,Chg.refl _ _,Nat.le_refl _⟩
    case round =>
     obtain ⟨j,t,st,hj0,rfl,rfl,G⟩:=hrel
     by_cases hj:j < N2
     · obtain ⟨nm,hnm⟩:∃ x,L[j]?=some x:=⟨L[j]'(by have:=HQ.out.2.2.1;omega),by simp⟩
       have hdrop:L.drop j=nm::L.drop (j+1):=by
        have hi:=(List.getElem?_eq_some_iff.1 hnm).1
        rw [List.drop_eq_getElem_cons hi]
        rw [List.getElem?_eq_getElem hi] at hnm
        cases hnm;rfl
       have hsz:0 < nm.size:=zNq H.out.2.2.2.2.1 nm (by rw [← HQ.out.2.1];exact List.mem_of_getElem? hnm)
       have hrow:=zAg HQ.out.1 G.out.2.2.1 (fun g' hg'=>by cases hg';exact HQ.out.2.2.2.2.1)
       have cx:=zMW hrow hnm
       have gl:g < wr.heap.size:=World.block_lt_of_cell? wr ⟨g,j,none⟩ cx
       have i0:(0:Int)≤(j:Int):=by omega
       have i1:(j:Int) < (N2:Int):=by omega
       obtain ⟨sb,lb,d,LL,tb,v,hA⟩:=G.out.2.1
       have c3:wr.cell? ⟨pb,3,none⟩=some (.pointer (some ⟨sb,0,none⟩)):=hA.blk.cell 3
       have hstep:=G.out.1
       rw [hdrop,zAI] at hstep
       obtain ⟨o,ho⟩:∃ b,b=(st.get nm).isSome:=⟨_,rfl⟩
       rw [← ho] at hstep
       have HX:=Lib.hid (And.intro hA (And.intro hstep (And.intro hsz ho)))
       clear hnm hdrop hrow hA hstep hsz ho
       go_wp2_with fail
       refine (zCs _ sb lb d LL st nm wr HX.out.1.st).mono ?_
       rintro e wg ⟨hbg,vg,rfl,_⟩
       rw [← HX.out.2.2.2]
       have hAg:=HX.out.1.below hbg
       have c3:wg.cell? ⟨pb,3,none⟩=some (.pointer (some ⟨sb,0,none⟩)):=hAg.blk.cell 3
       have HA2:=Lib.hid (And.intro hAg (G.out.2.2.1.trans_below hbg))
       clear hbg hAg
       cases o with
       | false =>
         go_wp2_with fail
         exact ⟨⟨j+1,t,st,by omega,by simp,rfl,by have:=HX.out.2.1;simpa using this,⟨_,_,_,_,_,_,HA2.out.1⟩,HA2.out.2,by have:=G.out.2.2.2;omega⟩,by show N2 - ((j:Int)+1).toNat < N2 - (j:Int).toNat;omega⟩
       | true =>
         go_wp2_with fail
         refine (zGF _ sb lb d LL st nm wg HA2.out.1.st (by have:=G.out.2.2.2;have:=H.out.2.2.2.2.2.2;omega)).mono ?_
         rintro e wd ⟨rfl,hst,hc⟩
         have hAd:=HA2.out.1.store hc hst
         have hdw:=zIR st nm
         obtain ⟨zr,hzr⟩:∃ q,q=(zAd st nm).1:=⟨_,rfl⟩
         obtain ⟨st2,hst2⟩:∃ q,q=(zAd st nm).2:=⟨_,rfl⟩
         rw [← hst2] at hAd hdw
         rw [← hzr]
         have hstep:=HX.out.2.1
         simp only [if_true] at hstep
         rw [← hzr,← hst2] at hstep
         have HD:=Lib.hid (And.intro hAd (And.intro (HA2.out.2.trans (hc.mono HA2.out.1.foot)) (And.intro hstep hdw)))
         clear hst hc hAd hdw hzr hst2 hstep
         by_cases hz0:zr=0
         · have t0:(zr == 0)=true:=by simpa using hz0
           have t0':(zr != 0)=false:=by simpa using hz0
           have hstep:=HD.out.2.2.1
           rw [if_pos hz0] at hstep
           have HS:=Lib.hid hstep
           obtain ⟨cb,hcb⟩:∃ c:Int,c=((nm.data.toList.getD 0 0).toNat:Int):=⟨_,rfl⟩
           have hidx:∀ w,(Instr.index 9 (.string nm) (.int .i64 0)).run Tryz.prog w=.ok (.int .u8 cb) w:=fun w=>by rw [hcb];exact idx0 HX.out.2.2.1 w
           have hno:noL nm=!(cb == 108):=by unfold noL;rw [hcb]
           have HNO:=Lib.hid hno
           clear hstep hz0 hcb hno
           cases t with
           | true =>
             go_wp2_with fail
             exact ⟨⟨j+1,true,st2,by omega,by simp,rfl,by have:=HS.out;simpa using this,⟨_,_,_,_,_,_,HD.out.1⟩,HD.out.2.1,by have:=G.out.2.2.2;have:=HD.out.2.2.2;omega⟩,by show N2 - ((j:Int)+1).toNat < N2 - (j:Int).toNat;omega⟩
           | false =>
             go_wp2_with fail
             exact ⟨⟨j+1,!(cb == 108),st2,by omega,by simp,rfl,by have:=HS.out;rw [HNO.out] at this;simpa using this,⟨_,_,_,_,_,_,HD.out.1⟩,HD.out.2.1,by have:=G.out.2.2.2;have:=HD.out.2.2.2;omega⟩,by show N2 - ((j:Int)+1).toNat < N2 - (j:Int).toNat;omega⟩
         · have t0:(zr == 0)=false:=by simpa using hz0
           have t0':(zr != 0)=true:=by simpa using hz0
           have hstep:=HD.out.2.2.1
           rw [if_neg hz0] at hstep
           have HS:=Lib.hid hstep
           clear hstep
           go_wp2_with fail
           go_ret2
           exact ⟨t,zr,st2,rfl,by rw [← HQ.out.2.1];exact HS.out.symm,⟨_,_,_,_,_,_,HD.out.1⟩,(Chg.of_below HQ.out.2.2.2.1).trans HD.out.2.1⟩
     · have hfull:L.drop j=[]:=List.drop_of_length_le (by have:=HQ.out.2.2.1;omega)
       have hend:=G.out.1
       rw [hfull,zAI] at hend
       have HE:=Lib.hid hend
       clear hfull hend
       go_wp2_with fail
       go_ret2
       exact ⟨t,0,st,rfl,by rw [← HQ.out.2.1];exact HE.out.symm,G.out.2.1,(Chg.of_below HQ.out.2.2.2.1).trans G.out.2.2.1⟩
end Go.Proofs.YtbbojbdigiibbaaGreatDoor
end
section
namespace Go.Mem
open Go Go.RowKit Gf Lea Go.Proofs.YtbbojbdigiibbaaGreatDoor
def zBd (k:Key) (n:Int):Key:=UInt8.ofNat (within (((k[0]?).getD 0).toNat:Int) n).toNat::List.replicate 15 0
def zBE (l:List zM):List zM:=(l.take 4).map fun x=>(x.1,x.2.take 60)
def zFv (r:Req) (vt vb:Value):Req:={ r with ix:=zBd r.ix 3,en:=zBd r.en 2,vt:=vt,vb:=vb }
theorem zBe (k:Key) (n:Int):(zBd k n).length=16:=by simp [zBd]
theorem zIA {r:Req} (h:r.Wf) (vt vb:Value):(zFv r vt vb).Wf:=⟨zBe _ _,h.sec,zBe _ _⟩
theorem zGz (k:Key) (n:Int) (h1:0 < n) (h2:n≤256):zFP (.int .u8 (within (((k[0]?).getD 0).toNat:Int) n))=(bV (zBd k n)).toArray:=by
 obtain ⟨a,b⟩:=zBy (((k[0]?).getD 0).toNat:Int) n h1
 unfold zFP zBd
 simp only [bV,List.map_cons,List.map_replicate]
 have:((UInt8.ofNat (within (((k[0]?).getD 0).toNat:Int) n).toNat).toNat:Int)=within (((k[0]?).getD 0).toNat:Int) n:=by
  rw [Gf.zHM _ (by omega)];omega
 rw [this]
 rfl
theorem zLB {w:World} {p:Nat} {r:Req} {t:TypeId} {k:Key} (h:Blk w p (zK r).toArray t) (hr:r.Wf) (hk:k.length=16):Blk (w.setCells p 1 (bV k)) p (zK { r with ix:=k }).toArray t:=by
 obtain ⟨arr,g1,g2,g3⟩:=Blk.setCells (bV k) 1 _ _ h
 have hw2:Req.Wf { r with ix:=k }:=⟨hk,hr.sec,hr.en⟩
 have hs:(zK r).toArray.size=52:=by simp [zAP hr]
 have hk16:(bV k).length=16:=by rw [zB];exact hk
 have e:arr=(zK { r with ix:=k }).toArray:=by
  apply Array.ext_getElem?
  intro j
  rcases Nat.lt_or_ge j 52 with hj | hj
  · rw [g3 j (by omega),List.getElem?_toArray,List.getElem?_toArray]
    by_cases hj1:1≤j∧j < 17
    · rw [if_pos (by omega)]
      have:=zIi hw2 (k:=j - 1) (by omega)
      rw [show 1+(j - 1)=j from by omega] at this
      exact this.symm
    · rw [if_neg (by omega)]
      rcases (by omega:j=0∨17≤j) with rfl | h17
      · rfl
      · have e1:∀ q:Req,q.ix.length=16→(zK q)[j]?=(bV q.sec++(.int .i64 q.ends::(bV q.en++[q.vt,q.vb])))[j - 17]?:=fun q hq=>by
         unfold zK
         rw [show j=(j - 1)+1 from by omega,List.getElem?_cons_succ,List.getElem?_append_right (by rw [zB,hq];omega),zB,hq]
         congr 1
        rw [e1 r hr.ix,e1 _ hk]
  · rw [Array.getElem?_eq_none (by omega),Array.getElem?_eq_none (by simp [zAP hw2];omega)]
 rw [← e];exact g1
theorem zLA {w:World} {p:Nat} {r:Req} {t:TypeId} {k:Key} (h:Blk w p (zK r).toArray t) (hr:r.Wf) (hk:k.length=16):Blk (w.setCells p 34 (bV k)) p (zK { r with en:=k }).toArray t:=by
 obtain ⟨arr,g1,g2,g3⟩:=Blk.setCells (bV k) 34 _ _ h
 have hw2:Req.Wf { r with en:=k }:=⟨hr.ix,hr.sec,hk⟩
 have hs:(zK r).toArray.size=52:=by simp [zAP hr]
 have hk16:(bV k).length=16:=by rw [zB];exact hk
 have e:arr=(zK { r with en:=k }).toArray:=by
  apply Array.ext_getElem?
  intro j
  rcases Nat.lt_or_ge j 52 with hj | hj
  · rw [g3 j (by omega),List.getElem?_toArray,List.getElem?_toArray]
    by_cases hj1:34≤j∧j < 50
    · rw [if_pos (by omega)]
      have:=zIh hw2 (k:=j - 34) (by omega)
      rw [show 34+(j - 34)=j from by omega] at this
      exact this.symm
    · rw [if_neg (by omega)]
      have e0:∀ q:Req,q.ix.length=16→q.sec.length=16→q.en.length=16→∀ q':Req,q'.kind=q.kind→q'.ix=q.ix→q'.sec=q.sec→q'.ends=q.ends→q'.en.length=16→q'.vt=q.vt→q'.vb=q.vb→(zK q)[j]?=(zK q')[j]?:=fun q h1 h2 h3 q' a1 a2 a3 a4 a5 a6 a7=>by
       unfold zK
       rw [a1,a2,a3,a4,a6,a7]
       rcases Nat.lt_or_ge j 34 with c | c
       · rw [show (Value.int .i64 q.kind::(bV q.ix++(bV q.sec++(Value.int .i64 q.ends::(bV q.en++[q.vt,q.vb])))))=(Value.int .i64 q.kind::(bV q.ix++(bV q.sec++[Value.int .i64 q.ends])))++(bV q.en++[q.vt,q.vb]) from by simp,
        show (Value.int .i64 q.kind::(bV q.ix++(bV q.sec++(Value.int .i64 q.ends::(bV q'.en++[q.vt,q.vb])))))=(Value.int .i64 q.kind::(bV q.ix++(bV q.sec++[Value.int .i64 q.ends])))++(bV q'.en++[q.vt,q.vb]) from by simp,
        List.getElem?_append_left (by simp [zB,h1,h2];omega),List.getElem?_append_left (by simp [zB,h1,h2];omega)]
       · rw [show (Value.int .i64 q.kind::(bV q.ix++(bV q.sec++(Value.int .i64 q.ends::(bV q.en++[q.vt,q.vb])))))=(Value.int .i64 q.kind::(bV q.ix++(bV q.sec++(Value.int .i64 q.ends::bV q.en))))++[q.vt,q.vb] from by simp,
          show (Value.int .i64 q.kind::(bV q.ix++(bV q.sec++(Value.int .i64 q.ends::(bV q'.en++[q.vt,q.vb])))))=(Value.int .i64 q.kind::(bV q.ix++(bV q.sec++(Value.int .i64 q.ends::bV q'.en))))++[q.vt,q.vb] from by simp,
          List.getElem?_append_right (by simp [zB,h1,h2,h3];omega),List.getElem?_append_right (by simp [zB,h1,h2,a5];omega)]
         simp [zB,h1,h2,h3,a5]
      exact e0 r hr.ix hr.sec hr.en _ rfl rfl rfl rfl hk rfl rfl
  · rw [Array.getElem?_eq_none (by omega),Array.getElem?_eq_none (by simp [zAP hw2];omega)]
 rw [← e];exact g1
theorem zLD {r:Req} (hr:r.Wf) (v:Value):(zK r).toArray.setIfInBounds 50 v=(zK { r with vt:=v }).toArray:=by
 apply Array.ext_getElem?
 intro j
 rw [Array.getElem?_setIfInBounds]
 have hl:=zAP hr
 have hw2:Req.Wf { r with vt:=v }:=⟨hr.ix,hr.sec,hr.en⟩
 by_cases e:50=j
 · subst e
   rw [if_pos rfl,if_pos (by simp [hl])]
   simpa using (zBk hw2).1.symm
 · rw [if_neg e]
   simp only [List.getElem?_toArray]
   rcases Nat.lt_or_ge j 50 with c | c
   · unfold zK
     rw [show (Value.int .i64 r.kind::(bV r.ix++(bV r.sec++(Value.int .i64 r.ends::(bV r.en++[r.vt,r.vb])))))=(Value.int .i64 r.kind::(bV r.ix++(bV r.sec++(Value.int .i64 r.ends::bV r.en))))++[r.vt,r.vb] from by simp,
      show (Value.int .i64 r.kind::(bV r.ix++(bV r.sec++(Value.int .i64 r.ends::(bV r.en++[v,r.vb])))))=(Value.int .i64 r.kind::(bV r.ix++(bV r.sec++(Value.int .i64 r.ends::bV r.en))))++[v,r.vb] from by simp,
      List.getElem?_append_left (by simp [zB,hr.ix,hr.sec,hr.en];omega),List.getElem?_append_left (by simp [zB,hr.ix,hr.sec,hr.en];omega)]
   · rcases (by omega:j=51∨52≤j) with rfl | c2
     · rw [(zBk hr).2,(zBk hw2).2]
     · rw [List.getElem?_eq_none (by omega),List.getElem?_eq_none (by rw [zAP hw2];omega)]
theorem zLC {r:Req} (hr:r.Wf) (v:Value):(zK r).toArray.setIfInBounds 51 v=(zK { r with vb:=v }).toArray:=by
 apply Array.ext_getElem?
 intro j
 rw [Array.getElem?_setIfInBounds]
 have hl:=zAP hr
 have hw2:Req.Wf { r with vb:=v }:=⟨hr.ix,hr.sec,hr.en⟩
 by_cases e:51=j
 · subst e
   rw [if_pos rfl,if_pos (by simp [hl])]
   simpa using (zBk hw2).2.symm
 · rw [if_neg e]
   simp only [List.getElem?_toArray]
   rcases Nat.lt_or_ge j 51 with c | c
   · unfold zK
     rw [show (Value.int .i64 r.kind::(bV r.ix++(bV r.sec++(Value.int .i64 r.ends::(bV r.en++[r.vt,r.vb])))))=(Value.int .i64 r.kind::(bV r.ix++(bV r.sec++(Value.int .i64 r.ends::(bV r.en++[r.vt])))))++[r.vb] from by simp,
      show (Value.int .i64 r.kind::(bV r.ix++(bV r.sec++(Value.int .i64 r.ends::(bV r.en++[r.vt,v])))))=(Value.int .i64 r.kind::(bV r.ix++(bV r.sec++(Value.int .i64 r.ends::(bV r.en++[r.vt])))))++[v] from by simp,
      List.getElem?_append_left (by simp [zB,hr.ix,hr.sec,hr.en];omega),List.getElem?_append_left (by simp [zB,hr.ix,hr.sec,hr.en];omega)]
   · rw [List.getElem?_eq_none (by omega),List.getElem?_eq_none (by rw [zAP hw2];omega)]
end Go.Mem
end
section
namespace Go.Proofs.YtbbojbdigiibbaaGreatDoor
open Go Go.RowKit Go.Mem Gf Lea
set_option linter.unusedVariables false
def zIH:Req:=⟨0,z16,z16,0,z16,.slice none 0 0,.slice none 0 0⟩
def zN5:Array Value:=#[Value.int .i64 0,.int .u8 0,.int .u8 0,.int .u8 0,.int .u8 0,.int .u8 0,.int .u8 0,.int .u8 0,.int .u8 0,.int .u8 0,.int .u8 0,.int .u8 0,.int .u8 0,.int .u8 0,.int .u8 0,.int .u8 0,.int .u8 0,.int .u8 0,.int .u8 0,.int .u8 0,.int .u8 0,.int .u8 0,.int .u8 0,.int .u8 0,.int .u8 0,.int .u8 0,.int .u8 0,.int .u8 0,.int .u8 0,.int .u8 0,.int .u8 0,.int .u8 0,.int .u8 0,.int .i64 0,.int .u8 0,.int .u8 0,.int .u8 0,.int .u8 0,.int .u8 0,.int .u8 0,.int .u8 0,.int .u8 0,.int .u8 0,.int .u8 0,.int .u8 0,.int .u8 0,.int .u8 0,.int .u8 0,.int .u8 0,.int .u8 0,.slice none 0 0,.slice none 0 0]
theorem _root_.Go.Mem.zBT.dataAt {t8:TypeId} {w:World} {base:Nat} {v:Value} {bs:List UInt8} {N:Nat→Prop} (h:zBT t8 w base v bs) (hN:∀ b,base≤b→¬ N b):zAX w N v bs:=by
 refine ⟨h.bys,?_⟩
 have h':w.ownsRow base t8 1 v bs.length (bV bs):=h
 have hlt:=h'.lt
 obtain ⟨a,c,rfl,_⟩:=zAE h'
 refine ⟨a,c,rfl,fun b hb=>?_⟩
 have:=hlt b.block (by rw [hb];rfl)
 exact ⟨this.2,hN _ this.1⟩
theorem zN6:zN5=(zK zIH).toArray:=rfl
theorem zN7:zIH.Wf:=⟨by show z16.length=16;decide,by show z16.length=16;decide,by show z16.length=16;decide⟩
theorem zLE {w:World} {b:Nat} {cs:List Value} (h:zY 52 w b 0) (hc:zAQ 52 cs):(loadVar 47 ⟨b,0,none⟩).run Tryz.prog (w.setCells b 0 cs)=.ok (.agg cs.toArray) (w.setCells b 0 cs):=by
 have h2:=zCl h b 0 cs
 refine run_loadVar_mid _ b 0 _ cs _ ?_ Tryz.underlying47 rfl (by rw [hc.1];exact i52)
 have:=zAB h2
 rwa [zCa h hc] at this
attribute [local irreducible] RF.V zk zK zFP
attribute [local go_sem ↓] Go.wp_at_zero Go.wp_at_succ
attribute [local go_sem ↓] zCH zIC zGk zBl
attribute [local go_sem] ptrB_eq ptrO_eq ptrIs_eq aggL_eq aggIs_eq isU8_eq zS ze zC zF zV zH
set_option maxRecDepth 100000 in
set_option maxHeartbeats 2000000 in
theorem zKG (r:Req) (ts:List Tst) (bl:List zM) (w:World) (hr:r.Wf) (hts:Sls 34 zGM w r.vt ts) (hbl:Sls 2 zIx w r.vb bl) :
  Calls Tryz.prog 21 #[.agg (zK r).toArray] w fun e w'=>∃ vt vb,e=.returned (.agg (zK (zFv r vt vb)).toArray)∧zCv w' (fun b=>b < w.heap.size) vt (ts.take 4)∧zAW w' (fun b=>b < w.heap.size) vb (zBE bl)∧Below w.heap.size w w':=by
 obtain ⟨rv,hrv⟩:∃ q,q=zK r:=⟨_,rfl⟩
 have H:=Lib.hid (And.intro hr (And.intro hts (And.intro hbl hrv)))
 rw [← hrv]
 clear hr hts hbl hrv
 go_enter Tryz.func21,Tryz.ntmps21
 go_upto_region 1 with fail
 obtain ⟨wz,hwz⟩:∃ q,q=(w.alloc (.cells rv.toArray 47)).alloc (.cells zN5 47):=⟨_,rfl⟩
 unfold zN5 at hwz
 rw [← hwz]
 have hk1:Blk wz w.heap.size (zK r).toArray 47:=by
  rw [hwz,← H.out.2.2.2];exact (Blk.new w rv.toArray 47).alloc _
 have hk2:Blk wz (w.heap.size+1) (zK zIH).toArray 47:=by
  rw [hwz,← zN6];exact Blk.new_at _ _ _ _ (by simp)
 have hbz:Below w.heap.size w wz:=by
  rw [hwz]
  have h1:Below w.heap.size w (w.alloc (.cells rv.toArray 47)):=(Below.refl _ _).alloc (Nat.le_refl _) _
  exact h1.alloc h1.size _
 obtain ⟨p1,hp1⟩:∃ q,q=w.heap.size:=⟨_,rfl⟩
 obtain ⟨p2,hp2⟩:∃ q,q=w.heap.size+1:=⟨_,rfl⟩
 have hge:w.heap.size≤p1∧p1 < p2∧p2≤p1+1:=by omega
 rw [← hp2] at hk2 ⊢
 rw [← hp1] at hk1 ⊢
 clear hwz hp1 hp2
 obtain ⟨x0,hx0⟩:∃ x:Nat,x=((r.ix[0]?).getD 0).toNat:=⟨_,rfl⟩
 obtain ⟨x1,hx1⟩:∃ x:Nat,x=((r.en[0]?).getD 0).toNat:=⟨_,rfl⟩
 have hx0':x0 < 256:=by rw [hx0];exact UInt8.toNat_lt _
 have hx1':x1 < 256:=by rw [hx1];exact UInt8.toNat_lt _
 have c1:wz.cell? ⟨p1,1,none⟩=some (.int .u8 x0):=by
  rw [hk1.cell,List.getElem?_toArray,zIi H.out.1 (k:=0) (by omega),zAr,hx0]
  have:=H.out.1.ix
  rw [List.getElem?_eq_getElem (by omega)];rfl
 obtain ⟨q0,hq0⟩:∃ q,q=within x0 3:=⟨_,rfl⟩
 obtain ⟨q1,hq1⟩:∃ q,q=within x1 2:=⟨_,rfl⟩
 have hr0:0≤q0∧q0 < 3:=by rw [hq0];exact zBy _ 3 (by decide)
 have hr1:0≤q1∧q1 < 2:=by rw [hq1];exact zBy _ 2 (by decide)
 have e0:zFP (.int .u8 q0)=(bV (zBd r.ix 3)).toArray:=by rw [hq0,hx0];exact zGz _ _ (by decide) (by decide)
 have e1:zFP (.int .u8 q1)=(bV (zBd r.en 2)).toArray:=by rw [hq1,hx1];exact zGz _ _ (by decide) (by decide)
 have hw1:Req.Wf { r with ix:=zBd r.ix 3 }:=⟨zBe _ _,H.out.1.sec,H.out.1.en⟩
 have hw2:Req.Wf { r with ix:=zBd r.ix 3,en:=zBd r.en 2 }:=⟨zBe _ _,H.out.1.sec,zBe _ _⟩
 have g1:zY 16 wz p1 1:=zL hk1 (by simp [zAP H.out.1])
 have l1:=hk1.lt
 obtain ⟨m0,hm0⟩:∃ m,m=zBd r.ix 3:=⟨_,rfl⟩
 obtain ⟨m1,hm1⟩:∃ m,m=zBd r.en 2:=⟨_,rfl⟩
 rw [← hm0] at e0 hw1 hw2
 rw [← hm1] at e1 hw2
 have hl0:m0.length=16:=by rw [hm0];exact zBe _ _
 have hl1:m1.length=16:=by rw [hm1];exact zBe _ _
 obtain ⟨b0,hb0⟩:∃ b,b=bV m0:=⟨_,rfl⟩
 obtain ⟨b1,hb1⟩:∃ b,b=bV m1:=⟨_,rfl⟩
 have a0:zAQ 16 b0:=⟨by rw [hb0,zB];exact hl0,fun v hv=>by rw [hb0] at hv;exact zAH _ v hv⟩
 have a1:zAQ 16 b1:=⟨by rw [hb1,zB];exact hl1,fun v hv=>by rw [hb1] at hv;exact zAH _ v hv⟩
 rw [← hb0] at e0
 rw [← hb1] at e1
 have HA:=Lib.hid (And.intro hm0 (And.intro hm1 (And.intro hw1 (And.intro hw2 (And.intro hl0 (And.intro hl1 (And.intro hb0 hb1)))))))
 have HK:=Lib.hid (And.intro hk1 (And.intro hk2 hbz))
 have HQ:=Lib.hid (And.intro hq0 (And.intro hq1 (And.intro hx0 hx1)))
 clear hm0 hm1 hw1 hw2 hl0 hl1 hb0 hb1 hk1 hk2 hbz hq0 hq1 hx0 hx1
 go_wp2_with fail
 refine (zCW x0 3 (by decide) (by decide) _).mono ?_
 rintro e w2 ⟨rfl,rfl⟩
 rw [← HQ.out.1]
 go_upto_region 2 with fail
 have kk1:Blk (wz.setCells p1 1 b0) p1 (zK { r with ix:=m0 }).toArray 47:=by rw [HA.out.2.2.2.2.2.2.1];exact zLB HK.out.1 H.out.1 HA.out.2.2.2.2.1
 have kk2:Blk (wz.setCells p1 1 b0) p2 (zK zIH).toArray 47:=Blk.setCells_other (fun e=>by omega) _ _ _ HK.out.2.1
 have kb:Below w.heap.size w (wz.setCells p1 1 b0):=(Chg.setCells (S:=fun b=>b=p1) (L:=p1) rfl _ _ _ (Chg.of_below HK.out.2.2)).below (Nat.le_refl _) (fun k hk=>by rw [hk];omega)
 obtain ⟨wy,hwy⟩:∃ q,q=wz.setCells p1 1 b0:=⟨_,rfl⟩
 rw [← hwy] at kk1 kk2 kb ⊢
 have c1:wy.cell? ⟨p1,34,none⟩=some (.int .u8 x1):=by
  rw [kk1.cell,List.getElem?_toArray,zIh HA.out.2.2.1 (k:=0) (by omega),zAr,HQ.out.2.2.2]
  have:({ r with ix:=m0 }:Req).en.length=16:=H.out.1.en
  rw [List.getElem?_eq_getElem (by omega)];rfl
 have g1:zY 16 wy p1 34:=zL kk1 (by simp [zAP HA.out.2.2.1])
 have l1:=kk1.lt
 have HY:=Lib.hid (And.intro kk1 (And.intro kk2 kb))
 clear hwy kk1 kk2 kb
 go_wp2_with fail
 refine (zCW x1 2 (by decide) (by decide) _).mono ?_
 rintro e w2 ⟨rfl,rfl⟩
 rw [← HQ.out.2.1]
 go_upto_region 5 with fail
 have kk1:Blk (wy.setCells p1 34 b1) p1 (zK { r with ix:=m0,en:=m1 }).toArray 47:=by rw [HA.out.2.2.2.2.2.2.2];exact zLA HY.out.1 HA.out.2.2.1 HA.out.2.2.2.2.2.1
 have kk2:Blk (wy.setCells p1 34 b1) p2 (zK zIH).toArray 47:=Blk.setCells_other (fun e=>by omega) _ _ _ HY.out.2.1
 have kb:Below w.heap.size w (wy.setCells p1 34 b1):=(Chg.setCells (S:=fun b=>b=p1) (L:=p1) rfl _ _ _ (Chg.of_below HY.out.2.2)).below (Nat.le_refl _) (fun k hk=>by rw [hk];omega)
 obtain ⟨wv,hwv⟩:∃ q,q=wy.setCells p1 34 b1:=⟨_,rfl⟩
 rw [← hwv] at kk1 kk2 kb ⊢
 have HV:=Lib.hid (And.intro kk1 (And.intro kk2 (And.intro kb hge)))
 obtain ⟨R,hR⟩:∃ R:Req,R={ r with ix:=m0,en:=m1 }:=⟨_,rfl⟩
 have hRw:R.Wf:=by rw [hR];exact HA.out.2.2.2.1
 have hRt:R.vt=r.vt:=by rw [hR]
 have hRb:R.vb=r.vb:=by rw [hR]
 rw [← hR] at HV
 have HR:=Lib.hid (And.intro hR (And.intro hRw (And.intro hRt hRb)))
 obtain ⟨n,hn⟩:∃ n,n=bl.length:=⟨_,rfl⟩
 obtain ⟨ba,bc,hvb⟩:=H.out.2.2.1.eq_slice
 have hbl:=H.out.2.2.1
 rw [← hn] at hvb
 have n64:(n:Int)≤9223372036854775807:=by have:=hbl.len;omega
 rw [hvb] at hbl
 have HB:=Lib.hid (And.intro hn (And.intro hvb hbl))
 clear hwv kk1 kk2 kb c1 g1 l1 hR hRw hRt hRb hn hvb hbl e0 e1 a0 a1 hge hr0 hr1 hx0' hx1'
 go_loopw [3,4] (fun u vi wr=>∃ i:Nat,i≤4∧i≤n∧vi=.int .i64 i∧Hid (zAF 53 wr (p2+1) (fun b=>b≤p2) u (zBE (bl.take i))∧Below w.heap.size w wr∧Blk wr p1 (zK R).toArray 47∧Blk wr p2 (zK zIH).toArray 47)) (fun _ vi _=>4 - (intOf vi).toNat)
 case atStart=>exact ⟨0,by omega,by omega,rfl,zAF.nil _ _ _ _,HV.out.2.2.1,HV.out.1,HV.out.2.1⟩
 case round =>
  obtain ⟨i,hi4,hin,rfl,G⟩:=hrel
  have cb:wr.cell? ⟨p1,51,none⟩=some (.slice ba n bc):=by
   rw [G.out.2.2.1.cell,List.getElem?_toArray,(zBk HR.out.2.1).2,HR.out.2.2.2,HB.out.2.1]
  have i0:(0:Int)≤(i:Int):=by omega
  by_cases h0:i < n∧i < 4
  · obtain ⟨h1,h2⟩:=h0
    have i1:(i:Int) < (n:Int):=by omega
    have i2:(i:Int) < 4:=by omega
    obtain ⟨b,off,x,cs,rfl,hx,hcl,hcs,v,rfl,hv⟩:=HB.out.2.2.at i (by have:=HB.out.1;omega)
    obtain ⟨va,vc,rfl⟩:=hv.eq_slice
    have d0:w.cell? ⟨b,off+i*2,none⟩=some (.int .i64 x.1):=hcs 0 _ rfl
    have d1:w.cell? ⟨b,off+i*2+1,none⟩=some (.slice va x.2.length vc):=hcs 1 _ rfl
    have hblt:=World.block_lt_of_cell? w _ d0
    have hbc:=fun o=>G.out.2.1.cell (p:=⟨b,o,none⟩) hblt
    rw [← hbc] at d0 d1
    obtain ⟨z,hz⟩:∃ z,z=x.1:=⟨_,rfl⟩
    obtain ⟨m,hm⟩:∃ m,m=x.2.length:=⟨_,rfl⟩
    obtain ⟨xs,hxs⟩:∃ xs,xs=x.2.take 60:=⟨_,rfl⟩
    obtain ⟨k,hk⟩:∃ k,k=xs.length:=⟨_,rfl⟩
    rw [← hz] at d0
    rw [← hm] at d1 hv
    have hk60:k≤60:=by rw [hk,hxs,List.length_take];omega
    have hsn:zBE (bl.take (i+1))=zBE (bl.take i)++[(z,xs)]:=by
     unfold zBE
     rw [List.take_take,List.take_take,Nat.min_eq_right (by omega),Nat.min_eq_right (by omega),List.take_add_one,hx.out,List.map_append,hz,hxs]
     rfl
    have hsl:(zBE (bl.take i)).length=i:=by
     unfold zBE
     have:=HB.out.1
     simp
     omega
    have HX:=Lib.hid (And.intro hsn (And.intro hsl (And.intro hv (And.intro hxs (And.intro hk hblt)))))
    have hvz:=hv.below G.out.2.1
    have HVZ:=Lib.hid hvz
    clear hx hcl hcs hbc hz hm hxs hk hsn hsl hv hblt hvz
    go_upto_region 7 with fail
    go_region_law
     (first
      | (refine zKH EKb (by rfl) _ _ (by rfl) (base:=p2+1) (v:=u3) (n:=i) (m:=1) (xs:=blV (zBE (bl.take i)) vs) [.int .i64 z,.slice a3 k c3] (by rfl) (by rfl) (by rfl) (zEC (by rfl)) (one2 _ _ _) (by have ho:=HO.out.2.1;rw [HX.out.2.1] at ho;exact ho.alloc _) (by omega) (by decide) (by have:=HW.out.2.1;have:=G.out.2.2.2.lt;simp;omega) ?_
         intro v4 x4 hv4 hg4 hs4
         have HF:=Lib.hid (And.intro hv4 (And.intro hg4 hs4))
         clear hv4 hg4 hs4)
      | (go_simp
         go_at_call 25
         refine (zJE (.slice va m vc) x.2 60 wr.drew wr.drew (HVZ.out.below (Below.refl _ _).drew) (HVZ.out.below (Below.refl _ _).drew)).mono ?_
         rintro e w2 ⟨⟨v2,rfl,hv2⟩,rfl⟩
         rw [← HX.out.2.2.2.1] at hv2
         have HC:=Lib.hid hv2
         clear hv2)
      | (go_simp
         go_at_call 47
         refine (zJC v2 xs _ HC.out (by have:=HX.out.2.2.2.2.1;omega)).mono ?_
         rintro e w3 ⟨v3,rfl,ho3,hb3⟩
         obtain ⟨a3,c3,rfl⟩:=ho3.eq_slice
         rw [← HX.out.2.2.2.2.1] at ho3 ⊢
         have hb3:Below wr.heap.size wr w3:=zA1 hb3
         have d0:w3.cell? ⟨b,off+i*2,none⟩=some (.int .i64 z):=(hb3.cell (p:=⟨b,off+i*2,none⟩) (World.block_lt_of_cell? wr _ d0)).trans d0
         have cb:w3.cell? ⟨p1,51,none⟩=some (.slice (some ⟨b,off,none⟩) n bc):=(hb3.cell (p:=⟨p1,51,none⟩) (World.block_lt_of_cell? wr _ cb)).trans cb
         obtain ⟨vs,o1,o2,o3,o4⟩:=G.out.1.below hb3
         have HO:=Lib.hid (And.intro o1 (And.intro o2 (And.intro o3 o4)))
         have HW:=Lib.hid (And.intro ho3 (And.intro hb3.size hb3))
         clear ho3 hb3 o1 o2 o3 o4))
    all_goals
     go_wp2_with fail
     have hz0:=HW.out.2.1
     have hge:=HV.out.2.2.2
     have hDw:Below w3.heap.size w3 (w3.alloc (.cells #[.int .i64 z,.slice a3 k c3] 53)):=(Below.refl _ _).alloc (Nat.le_refl _) _
     have hsl:=HX.out.2.1
     have hda:zAX (w3.alloc (.cells #[.int .i64 z,.slice a3 k c3] 53)) (fun b=>b≤p2) (.slice a3 k c3) xs:=zAX.chg (S:=fun _=>False) (HW.out.1.dataAt (N:=fun b=>b≤p2) fun b hb hb2=>by have hb':wr.heap.size≤b:=hb;have hb2':b≤p2:=hb2;have:=G.out.2.2.2.lt;omega) (Chg.of_below hDw) (fun _ h=>h.elim)
     have hdn:∀ a n c,Value.slice a3 k c3=.slice (some a) n c→u3.ownBlock≠some a.block:=fun a n c e e2=>by
      injection e with e1 _ _
      have h1:=(HW.out.1.lt a.block (by rw [e1];simp [Value.ownBlock])).1
      have h1':wr.heap.size≤a.block:=h1
      have h2:=(G.out.1.lt _ e2).2
      omega
     have hrow:=zAF.push (x:=(z,xs)) HO.out.1 (fun j x v hx hv=>(HO.out.2.2.1 j x v hx hv).chg (S:=fun _=>False) (Chg.of_below hDw) (fun _ h=>h.elim)) HO.out.2.2.2 hda hdn (by rw [hsl];exact HF.out.1) HF.out.2.1 HF.out.2.2
     have hb24:Below w.heap.size w w3:=G.out.2.1.trans (HW.out.2.2.mono G.out.2.1.size)
     have hb6:=zg (hb24.alloc hb24.size (.cells #[.int .i64 z,.slice a3 k c3] 53)) HF.out.2.1 (fun q hq=>by have:=(G.out.1.lt q hq).1;omega)
     have hk16:=Blk.grown' ((G.out.2.2.1.kept HW.out.2.2).alloc (.cells #[.int .i64 z,.slice a3 k c3] 53)) HF.out.2.1 (fun e=>by have:=(G.out.1.lt _ e).1;omega)
     have hk26:=Blk.grown' ((G.out.2.2.2.kept HW.out.2.2).alloc (.cells #[.int .i64 z,.slice a3 k c3] 53)) HF.out.2.1 (fun e=>by have:=(G.out.1.lt _ e).1;omega)
     exact ⟨⟨i+1,by omega,by omega,by simp,by rw [HX.out.1];exact hrow,hb6,hk16,hk26⟩,by show 4 - ((i:Int)+1).toNat < 4 - (i:Int).toNat;omega⟩
  · have hsm:zBE (bl.take i)=zBE bl:=by
     unfold zBE
     rw [List.take_take]
     rcases (by omega:i=4∨i=n) with e | e
     · rw [e];rfl
     · congr 1
       have:=HB.out.1
       rcases Nat.lt_or_ge i 4 with c | c
       · rw [Nat.min_eq_right (by omega),List.take_of_length_le (by omega),List.take_of_length_le (by omega)]
       · rw [Nat.min_eq_left (by omega)]
    have hO:=G.out.1
    rw [hsm] at hO
    obtain ⟨ua,uc,rfl,_⟩:=hO.slice
    obtain ⟨ul,hul⟩:∃ q,q=(zBE bl).length:=⟨_,rfl⟩
    rw [← hul] at hO ⊢
    obtain ⟨ta,tc,hvt⟩:=H.out.2.1.eq_slice
    obtain ⟨tn,htn⟩:∃ q,q=ts.length:=⟨_,rfl⟩
    have hts:=H.out.2.1
    rw [← htn] at hvt
    rw [hvt] at hts
    have ct:wr.cell? ⟨p1,50,none⟩=some (.slice ta tn tc):=by
     rw [G.out.2.2.1.cell,List.getElem?_toArray,(zBk HR.out.2.1).1,HR.out.2.2.1,hvt]
    have HO:=Lib.hid (And.intro hO (And.intro hul (And.intro htn (hts.below (fun _ _ _ _ _ h=>h) G.out.2.1))))
    have HGE:=Lib.hid (And.intro HV.out.2.2.2 G.out.2)
    have h0i:((i:Int) < (n:Int))=False∨(((i:Int) < (n:Int))=True∧((i:Int) < 4)=False):=by
     by_cases c:i < n
     · exact .inr ⟨eq_true (by omega),eq_false (by omega)⟩
     · exact .inl (eq_false (by omega))
    clear hsm hO hul hvt htn hts h0 G
    rcases h0i with h0i | ⟨h0i,h0j⟩
    all_goals
     go_upto_region 8 with fail
     go_wp2_with fail
     refine (zKe (.slice ta tn tc) ts 4 wr HO.out.2.2.2).mono ?_
     rintro e w2 ⟨⟨v2,rfl,hv2⟩,rfl⟩
     have HT:=Lib.hid hv2
     clear hv2
     go_wp2_with fail
     refine (zJD v2 (ts.take 4) wr HT.out (by rw [List.length_take];omega)).mono ?_
     rintro e w3 ⟨v3,rfl,ho3,hb3⟩
     obtain ⟨za,zc,rfl⟩:=ho3.slice
     obtain ⟨zn,hzn⟩:∃ q,q=(ts.take 4).length:=⟨_,rfl⟩
     rw [← hzn] at ho3 ⊢
     have k13:=HGE.out.2.2.1.kept hb3
     have k23:=HGE.out.2.2.2.kept hb3
     have l13:=k13.lt
     have f51:=k13.free 51
     have f50:=k13.free 50
     have c51:w3.cell? ⟨p1,51,none⟩=some (.slice ba n bc):=(hb3.cell (p:=⟨p1,51,none⟩) (World.block_lt_of_cell? wr _ cb)).trans cb
     have c50:w3.cell? ⟨p1,50,none⟩=some (.slice ta tn tc):=(hb3.cell (p:=⟨p1,50,none⟩) (World.block_lt_of_cell? wr _ ct)).trans ct
     have hq1:=k13.set 51 (.slice ua ul uc)
     rw [zLC HR.out.2.1] at hq1
     have hRw2:Req.Wf { R with vb:=.slice ua ul uc }:=⟨HR.out.2.1.ix,HR.out.2.1.sec,HR.out.2.1.en⟩
     have hq2:=hq1.set 50 (.slice za zn zc)
     rw [zLD hRw2] at hq2
     have hq3:=(k23.set_other (a:=⟨p1,51,none⟩) (fun e=>by have e':p1=p2:=e;have:=HGE.out.1;omega) (.slice ua ul uc)).set_other (a:=⟨p1,50,none⟩) (fun e=>by have e':p1=p2:=e;have:=HGE.out.1;omega) (.slice za zn zc)
     have hch:Chg (fun b=>b=p1) w3 ((w3.setCell ⟨p1,51,none⟩ (.slice ua ul uc)).setCell ⟨p1,50,none⟩ (.slice za zn zc)):=Chg.set (S:=fun b=>b=p1) (a:=⟨p1,50,none⟩) (Chg.set (S:=fun b=>b=p1) (a:=⟨p1,51,none⟩) (Chg.refl _ _) rfl _) rfl _
     have hb03:Below w.heap.size w w3:=HGE.out.2.1.trans (hb3.mono HGE.out.2.1.size)
     have hz3:=hb3.size
     have hbw:Below w.heap.size w ((w3.setCell ⟨p1,51,none⟩ (.slice ua ul uc)).setCell ⟨p1,50,none⟩ (.slice za zn zc)):=((Chg.of_below (S:=fun b=>b=p1) hb03).mix hch (fun k hk=>.inl hk)).below (Nat.le_refl _) (fun k hk=>by rw [hk];have:=HGE.out.1;omega)
     have hT4:zCv w3 (fun b=>b≤p2) (.slice za zn zc) (ts.take 4):=ho3.tests (by rw [List.length_take];omega) (fun b hb _ hb'=>by have hb2:b≤p2:=hb';have:=HGE.out.2.2.2.lt;omega)
     have hT5:=hT4.chg hch (fun b hb _=>by rw [hb];have:=HGE.out.1;omega)
     have hB4:zAW w3 (fun b=>b≤p2) (.slice ua ul uc) (zBE bl):=zAW.below (HO.out.1.at (fun b hb _ hb'=>by have hb2:b≤p2:=hb';omega)) hb3
     have hB5:=hB4.chg hch (fun b hb _=>by rw [hb];have:=HGE.out.1;omega)
     obtain ⟨w5,hw5⟩:∃ q,q=(w3.setCell ⟨p1,51,none⟩ (.slice ua ul uc)).setCell ⟨p1,50,none⟩ (.slice za zn zc):=⟨_,rfl⟩
     rw [← hw5] at hq2 hq3 hch hbw hT5 hB5
     have hfin:({ { R with vb:=.slice ua ul uc } with vt:=.slice za zn zc }:Req)=zFv r (.slice za zn zc) (.slice ua ul uc):=by rw [HR.out.1,HA.out.1,HA.out.2.1];rfl
     have hfw:Req.Wf { { R with vb:=.slice ua ul uc } with vt:=.slice za zn zc }:=⟨HR.out.2.1.ix,HR.out.2.1.sec,HR.out.2.1.en⟩
     have hal:=zJ5 hfw rfl rfl
     rw [hfin] at hal hq2
     obtain ⟨co,hco⟩:∃ q,q=zK (zFv r (.slice za zn zc) (.slice ua ul uc)):=⟨_,rfl⟩
     rw [← hco] at hal hq2
     have hcut:zCi co.toArray 0 52=co:=zFI hal.1
     have H5:=Lib.hid (And.intro hw5 (And.intro hbw (And.intro hT5 (And.intro hB5 hco))))
     have HP:=Lib.hid (And.intro hq2 (And.intro hq3 HGE.out.1))
     clear hq1 hq2 hq3 hch hbw hT4 hT5 hB4 hB5 hw5 hfin hfw hco k13 k23 hRw2 hb03 hz3 hzn ho3 hb3
     go_upto_region 9 with fail
     rw [← H5.out.1]
     have r5:zN 52 w5 p1 0=co:=zP HP.out.1 hal.1
     have g5:zY 52 w5 p1 0:=zL HP.out.1 (by simp [hal.1])
     have g6:zY 52 w5 p2 0:=zL HP.out.2.1 (by simp [zAP zN7])
     have HLD:=Lib.hid (zLE g6 hal)
     clear cb ct l13 f51 f50 c51 c50
     go_wp2_with fail
     have hc7:Chg (fun b=>b=p2) w5 (w5.setCells p2 0 co):=Chg.setCells (S:=fun b=>b=p2) (L:=p2) rfl _ _ _ (Chg.refl _ _)
     refine bodyPost_ret (v:=.agg co.toArray) (by simp [results,Tryz.results21,asAddr,HLD.out]) rfl ⟨.slice za zn zc,.slice ua ul uc,by rw [H5.out.2.2.2.2],?_,?_,?_⟩
     · exact (H5.out.2.2.1.chg hc7 (fun b hb _=>by rw [hb];exact Nat.le_refl _)).mono (fun b hb=>.inl (by have hb2:b < w.heap.size:=hb;have:=HP.out.2.2;omega))
     · exact (H5.out.2.2.2.1.chg hc7 (fun b hb _=>by rw [hb];exact Nat.le_refl _)).mono (fun b hb=>.inl (by have hb2:b < w.heap.size:=hb;have:=HP.out.2.2;omega))
     · exact ((Chg.of_below (S:=fun k=>w.heap.size≤k) H5.out.2.1).mix hc7 (fun k hk=>.inl (by rw [hk];have:=HP.out.2.2;omega))).below (Nat.le_refl _) (fun _ h=>h)
end Go.Proofs.YtbbojbdigiibbaaGreatDoor
end
section
namespace Go.Mem
open Go Go.RowKit Gf Lea Go.Proofs.YtbbojbdigiibbaaGreatDoor
section
variable {s s':zG} {r:Req} {l lb:List zM} {ts:List Tst} {o:Option (Key × List zM)} {err:Int}
end
end Go.Mem
end
section
namespace Go.Mem
open Go Go.RowKit Gf Lea Go.Proofs.YtbbojbdigiibbaaGreatDoor
theorem zDw.req_at {W w:World} {cs:List Value} {a:zIw} {b o:Nat} (h:zDw W cs a) (hc:∀ j v,cs[j]?=some v→w.cell? ⟨b,o+j,none⟩=some v):zBp 52 w b (o+4)∧zN 52 w b (o+4)=zK a.r:=by
 have hl:(zK a.r).length=52:=zAP h.r.wf
 have hr:∀ j v,(zK a.r)[j]?=some v→w.cell? ⟨b,o+4+j,none⟩=some v:=fun j v hv=>by
  rw [← h.r.cs,List.getElem?_take] at hv
  split at hv
  · rw [List.getElem?_drop] at hv
    rw [Nat.add_assoc]
    exact hc _ _ hv
  · cases hv
 refine ⟨zFY (cs:=zK a.r) hr hl,?_⟩
 apply List.ext_getElem?
 intro j
 unfold zN
 rw [List.getElem?_map]
 rcases Nat.lt_or_ge j 52 with hj | hj
 · rw [List.getElem?_range hj]
   have hv:(zK a.r)[j]?=some ((zK a.r)[j]'(by omega)):=List.getElem?_eq_getElem (by omega)
   rw [hv]
   simp only [Option.map_some]
   rw [hr j _ hv];rfl
 · rw [List.getElem?_eq_none (by simpa using hj),List.getElem?_eq_none (by omega)];rfl
end Go.Mem
namespace Go.Proofs.YtbbojbdigiibbaaGreatDoor
open Go Go.RowKit Go.Mem Gf Lea
set_option linter.unusedVariables false
theorem zMK (dst:Option Tmp) (x:Operand) (ty:TypeId) (pos:String) (af:Array Edge) (gd:Option (Tmp × Bool)) (a:Act) (w:World) (K:Act→World→Prop) (Q:Exit→Act→World→Prop)
  (hp:zAz (a.eval x)=true) (ht:zBp 52 w (zAM (a.eval x)) (zAN (a.eval x))) :
  Oper.wp Tryz.prog ⟨dst,.load 47 x,ty,pos,af,gd⟩ a w K Q=K (a.put dst (.agg (zN 52 w (zAM (a.eval x)) (zAN (a.eval x))).toArray)) w :=
 zHQ Tryz.underlying47 rfl i52 dst x ty pos af gd a w K Q hp ht
theorem zIo (l:List zM):∀ x∈zBE l,x.2.length≤60:=fun x hx=>by
 unfold zBE at hx
 obtain ⟨y,_,rfl⟩:=List.mem_map.1 hx
 show (y.2.take 60).length≤60
 rw [List.length_take]
 omega
end Go.Proofs.YtbbojbdigiibbaaGreatDoor
end
section
namespace Go.Mem
open Go Go.RowKit Gf Lea Go.Proofs.YtbbojbdigiibbaaGreatDoor
structure zA2 (m:Nat) (s:zG):Prop where
 st:zA4 m s.st
 calm:s.st.disk.stops=false
 good:Lea.Good s.tab
 wf:∀ x∈s.tab,Wf x
 brk:s.broken=false
 len:s.tab.length≤m
 few:s.st.recs.length≤120
theorem zA2.le {m m':Nat} {s:zG} (h:zA2 m s) (hm:m≤m'):zA2 m' s:=⟨h.st.le hm,h.calm,h.good,h.wf,h.brk,Nat.le_trans h.len hm,h.few⟩
theorem zA2.live {m:Nat} {s:zG} (h:zA2 m s):s.dead=false:=by
 unfold zG.dead
 rw [h.brk,h.st.disk,h.st.dead];rfl
def zBQ (ix:Key) (s s':zG):Prop:=(∀ nm,zDt nm≠ix→Sto.look s'.st.recs nm=Sto.look s.st.recs nm)∧(∀ ix',ix'≠ix→(ofL s'.tab ix').Perm (ofL s.tab ix'))∧s'.tab.length≤s.tab.length+1
theorem zBQ.refl (ix:Key) (s:zG):zBQ ix s s:=⟨fun _ _=>rfl,fun _ _=>List.Perm.refl _,Nat.le_succ _⟩
theorem zBQ.trans {ix:Key} {s s1 s':zG} (h:∀ nm,zDt nm≠ix→Sto.look s1.st.recs nm=Sto.look s.st.recs nm) (e:s1.tab=s.tab) (h':zBQ ix s1 s'):zBQ ix s s':=⟨fun nm hn=>(h'.1 nm hn).trans (h nm hn),fun ix' hn=>by rw [← e];exact h'.2.1 ix' hn,by rw [← e];exact h'.2.2⟩
theorem zA2.put {m:Nat} {s:zG} (h:zA2 m s) (hm:m < 1000000) {name:ByteArray} {data:List UInt8} (hr:zAm name data) :
  ((zO s.st name data).1=0∧zA2 (m+1) { s with st:=(zO s.st name data).2 }∧∀ nm,Sto.look (zO s.st name data).2.recs nm=upd (Sto.look s.st.recs) name (some data) nm) ∨
  ((zO s.st name data).1≠0∧(zO s.st name data).1≠8∧(zO s.st name data).2=s.st):=by
 have hp:=h.st.put hm hr
 generalize zO s.st name data=R at hp
 cases hp with
 | arg _=>exact .inr ⟨by simp,by simp,rfl⟩
 | full _ _=>exact .inr ⟨by simp,by simp,rfl⟩
 | done s' _ hs hr' hl ho hst =>
   refine .inl ⟨rfl,⟨hl,hst.trans h.calm,h.good,h.wf,h.brk,Nat.le_succ_of_le h.len,?_⟩,fun nm=>by rw [hr'];exact zFU hs _ _ nm⟩
   show s'.recs.length≤120
   rw [hr',zEE];exact h.few
 | torn s' l _ hs hd h1 h2 ho hl hx=>rw [h.calm] at hd;cases hd
theorem zA2.drop {m:Nat} {s:zG} (h:zA2 m s) (name:ByteArray) :
  ((zAd s.st name).1=0∧zA2 (m+1) { s with st:=(zAd s.st name).2 }∧∀ nm,Sto.look (zAd s.st name).2.recs nm=upd (Sto.look s.st.recs) name none nm) ∨
  ((zAd s.st name).1=4∧(zAd s.st name).2=s.st):=by
 have hp:=h.st.drop name
 generalize zAd s.st name=R at hp
 cases hp with
 | none _=>exact .inr ⟨rfl,rfl⟩
 | done s' x _ k hk hr hl ho hst hlk =>
   refine .inl ⟨rfl,⟨hl,hst.trans h.calm,h.good,h.wf,h.brk,Nat.le_succ_of_le h.len,?_⟩,fun nm=>hlk nm⟩
   show s'.recs.length≤120
   rw [hr,List.length_set];exact h.few
 | torn s' l x hx hd h1 h2 ho hl hn hlk hx'=>rw [h.calm] at hd;cases hd
theorem zA2.lay {m:Nat} {s:zG} (h:zA2 m s) (hm:m < 1000000) {ix:Key} (hix:ix.length=16) {l2:List Les} (hg:Lea.Good l2) (hw:∀ x∈l2,Wf x) (hlen:l2.length≤s.tab.length+1) (ho:∀ ix',ix'≠ix→(ofL l2 ix').Perm (ofL s.tab ix')) {err:Int} {s':zG} (hl:zGc s ix l2 err s'):zA2 (m+1) s'∧zBQ ix s s':=by
 obtain ⟨out,hR,herr,hs'⟩:=hl
 have hlm:l2.length≤m+1:=by have:=h.len;omega
 have hK:∀ (x:Option (List UInt8)) (f:Look),(∀ nm,f nm=upd (Sto.look s.st.recs) (zD ix) x nm)→∀ nm,zDt nm≠ix→f nm=Sto.look s.st.recs nm:=fun x f hf nm hn=>by rw [hf];exact zIF (zDX hix) hn
 by_cases h0:out=[]
 · have e0:zDY s ix out=zAd s.st (zD ix):=by unfold zDY;rw [if_pos (by rw [h0];rfl)]
   rw [e0] at herr hs'
   rcases h.drop (zD ix) with ⟨d1,d2,d3⟩ | ⟨d1,d2⟩
   · rw [herr,d1,if_pos (.inl rfl)] at hs'
     subst hs'
     exact ⟨⟨d2.st,d2.calm,hg,hw,d2.brk,hlm,d2.few⟩,hK none _ d3,fun ix' hn=>ho ix' hn,hlen⟩
   · rw [herr,d1,if_neg (by simp),d2] at hs'
     subst hs'
     exact ⟨h.le (Nat.le_succ m),zBQ.refl ix s⟩
 · have e0:zDY s ix out=zO s.st (zD ix) (zu out):=by
    unfold zDY
    rw [if_neg (fun e=>h0 (List.eq_nil_of_length_eq_zero e))]
   rw [e0] at herr hs'
   rcases h.put hm (zAm.lease ix out hix (zDN hw hg hR h0)) with ⟨d1,d2,d3⟩ | ⟨d1,d2,d3⟩
   · rw [herr,d1,if_pos (.inl rfl)] at hs'
     subst hs'
     exact ⟨⟨d2.st,d2.calm,hg,hw,d2.brk,hlm,d2.few⟩,hK _ _ d3,fun ix' hn=>ho ix' hn,hlen⟩
   · rw [herr,if_neg (fun e=>e.elim d1 d2),d3] at hs'
     subst hs'
     exact ⟨h.le (Nat.le_succ m),zBQ.refl ix s⟩
theorem zA2.add {m:Nat} {s:zG} (h:zA2 m s) (hm:m < 1000000) {ix sec:Key} (hix:ix.length=16) (hsec:sec.length=16) {e err:Int} {s':zG} (hl:zCe s ix sec e err s'):zA2 (m+1) s'∧zBQ ix s s':=by
 cases hl with
 | full _=>exact ⟨h.le (Nat.le_succ m),zBQ.refl ix s⟩
 | laid l2 _ _ ha hy=>exact h.lay hm hix (ha.good h.good) (ha.wf h.wf hix hsec) ha.len (fun ix' hn=>ha.other hn) hy
theorem zA2.can {m:Nat} {s:zG} (h:zA2 m s) (hm:m < 1000000) {ix sec:Key} (hix:ix.length=16) {err:Int} {s':zG} (hl:zDR s ix sec err s'):zA2 (m+1) s'∧zBQ ix s s':=by
 cases hl with
 | no _=>exact ⟨h.le (Nat.le_succ m),zBQ.refl ix s⟩
 | laid l2 _ _ ha hy=>exact h.lay hm hix (ha.good h.good) (fun x hx=>h.wf x (ha.sub x hx)) (Nat.le_succ_of_le (Go.Proofs.YtbbojbdigiibbaaGreatDoor.CancelR.len ha)) (fun ix' hn=>ha.other hn) hy
theorem zA2.putRec {m:Nat} {s:zG} (h:zA2 m s) (hm:m+1 < 1000000) {ix:Key} (hix:ix.length=16) {name:ByteArray} {data:List UInt8} (hr:zAm name data) (hi:zDt name=ix) :
  ((zO s.st name data).1≠0→zA2 (m+2) { s with st:=(zO s.st name data).2 }∧zBQ ix s { s with st:=(zO s.st name data).2 }) ∧
  ((zO s.st name data).1=0→∀ (sec:Key) (e err:Int) (s':zG),sec.length=16→zCe { s with st:=(zO s.st name data).2 } ix sec e err s'→zA2 (m+2) s'∧zBQ ix s s'):=by
 rcases h.put (by omega) hr with ⟨h0,hg,hk⟩ | ⟨h0,_,e⟩
 · refine ⟨fun hne=>absurd h0 hne,fun _ sec e err s' hsec ha=>?_⟩
   obtain ⟨a,b⟩:=hg.add (by omega) hix hsec ha
   exact ⟨a,zBQ.trans (s1:={ s with st:=(zO s.st name data).2 }) (fun nm hn=>by show Sto.look (zO s.st name data).2.recs nm=_;rw [hk];exact zIF hi hn) rfl b⟩
 · refine ⟨fun _=>?_,fun h1=>absurd h1 h0⟩
   rw [e]
   exact ⟨h.le (by omega),zBQ.refl ix s⟩
theorem zA2.step {m:Nat} {s:zG} (h:zA2 m s) (hm:m+1 < 1000000) {r:Req} (hr:r.Wf) {l:List zM} (hz:∀ x∈l,x.2.length≤16384) {ts:List Tst} {o:Option (Key × List zM)} (ho:zBS s r.ix o) {err:Int} {lb:List zM} {s':zG} (hR:DoR s r l ts o err lb s'):zA2 (m+2) s'∧zBQ r.ix s s':=by
 have href:zA2 (m+2) s∧zBQ r.ix s s:=⟨h.le (by omega),zBQ.refl _ _⟩
 have up:∀ {q:zG},zA2 (m+1) q∧zBQ r.ix s q→zA2 (m+2) q∧zBQ r.ix s q:=fun hq=>⟨hq.1.le (by omega),hq.2⟩
 cases hR with
 | dead _=>exact href
 | form _ _=>exact href
 | get _ _=>exact href
 | slot _ _=>exact href
 | put _ _ err s' hp =>
   cases hp with
   | form _=>exact href
   | no _ _ _ _ _ _ _ _=>exact href
   | torn n data hl hn _ _ _ h0 =>
     have hd:=hz (((n:Nat):Int),data) (by rw [hl];simp)
     exact (h.putRec hm hr.ix (zAm.share r.ix n data hr.ix hn hd) (zB5 n hr.ix)).1 h0
   | put n data err s' hl hn _ _ _ h0 hs =>
     have hd:=hz (((n:Nat):Int),data) (by rw [hl];simp)
     exact (h.putRec hm hr.ix (zAm.share r.ix n data hr.ix hn hd) (zB5 n hr.ix)).2 h0 _ _ _ _ hr.sec hs
   | there n data err s' _ _ _ _ _ hs=>exact up (h.add (by omega) hr.ix hr.sec hs)
 | swap _ _ err s' hp =>
   have hlo:=(zFH ho).1
   have hel:(zCN r o).length=16:=by
    unfold zCN
    split
    · exact zEN ho
    · exact hr.en
   cases hp with
   | form _=>exact href
   | enable _ _ _=>exact href
   | test _ _ _=>exact href
   | no _ _ _ _ _ _ _ _ _=>exact href
   | torn hf _ _ l' hp hs _ h0 =>
     obtain ⟨a1,a2,a3⟩:=zLm hf.2.1 hz hlo hp hs
     exact (h.putRec hm hr.ix (zAm.slot r.ix (zCN r o) l' hr.ix hel a1 a2 a3 (zLl hf.1 hp)) (zCY hr.ix)).1 h0
   | put hf _ _ l' hp hs err s' _ h0 hs' =>
     obtain ⟨a1,a2,a3⟩:=zLm hf.2.1 hz hlo hp hs
     exact (h.putRec hm hr.ix (zAm.slot r.ix (zCN r o) l' hr.ix hel a1 a2 a3 (zLl hf.1 hp)) (zCY hr.ix)).2 h0 _ _ _ _ hr.sec hs'
 | renew _ _ err s' hp =>
   cases hp with
   | none _=>exact href
   | form _ _=>exact href
   | add err s' _ _ hs=>exact up (h.add (by omega) hr.ix hr.sec hs)
 | cancel _ _ err s' hp=>exact up (h.can (by omega) hr.ix hp)
end Go.Mem
end
section
namespace Go.Mem
open Go Go.RowKit Gf Lea
def zBR (t:List Les) (R:List Key):List Key:=R.filter fun ix=>decide (ofL t ix≠[])
theorem zKq {t:List Les} {R:List Key} {i:Nat} {x:Key} (hx:R[i]?=some x):zBR t (R.take (i+1))=zBR t (R.take i)++if ofL t x≠[] then [x] else []:=by
 unfold zBR
 rw [List.take_add_one,hx,Option.toList_some,List.filter_append]
 congr 1
 by_cases h:ofL t x≠[]
 · rw [if_pos h,List.filter_cons_of_pos (by simpa using h)];rfl
 · rw [if_neg h,List.filter_cons_of_neg (by simpa using h)];rfl
theorem zFn (t:List Les) (R:List Key):(zBR t R).length≤R.length:=List.length_filter_le _ _
end Go.Mem
namespace Go.Proofs.YtbbojbdigiibbaaGreatDoor
open Go Go.RowKit Go.Mem Gf Lea
set_option linter.unusedVariables false
theorem zIW {st:St} {R:List Key} (h:zIz st R):R.length≤st.recs.length:=by
 have hsub:R.length≤(st.recs.map fun r=>zDt r.name).length:=by
  refine List.Nodup.length_le_of_subset h.nodup fun k hk=>?_
  obtain ⟨_,r,h1,_,h3⟩:=(h.mem k).1 hk
  exact List.mem_map.2 ⟨r,h1,h3⟩
 rwa [List.length_map] at hsub
attribute [local go_sem ↓] Go.wp_at_zero Go.wp_at_succ
attribute [local go_sem ↓] zAK zBl zCb
attribute [local go_sem] ptrB_eq ptrO_eq ptrIs_eq aggL_eq aggIs_eq zS ze zC zF zX zZ zV zH zJ
set_option maxRecDepth 20000 in
set_option maxHeartbeats 4000000 in
theorem zKr (C X:Nat→Prop) (pb:Nat) (s:zG) (w:World) (h:zT w C X pb s) (hn:∀ r∈s.st.recs,r.is=true→17≤r.name.size) (hB:zCP s) :
  Calls Tryz.prog 62 #[.pointer (some ⟨pb,0,none⟩)] w fun e w'=>∃ vo R,e=.returned vo∧zAh bV WfK 16 39 w' w.heap.size vo (zBR s.tab R)∧zIz s.st R∧Below w.heap.size w w':=by
 have H:=Lib.hid (And.intro h (And.intro hn hB))
 clear h hn hB
 go_enter Tryz.func62,Tryz.ntmps62
 go_wp2_with fail
 refine (zEi C X pb s w H.out.1 H.out.2.1).mono ?_
 rintro e w1 ⟨vo,R,rfl,hO,hR,hb1⟩
 obtain ⟨oa,oc,rfl⟩:=hO.slice
 obtain ⟨n,hnn⟩:∃ n,n=R.length:=⟨_,rfl⟩
 rw [← hnn] at hO ⊢
 have hn4:n≤1024:=by
  have:=zIW hR
  have:=H.out.1.ok.len2
  omega
 have hex0:0 < n→∃ g,oa=some ⟨g,0,none⟩∧zAq bV WfK 16 39 w1 w.heap.size g n oc R:=fun h0=>by
  obtain ⟨g,cap,e,hr⟩:=hO.ex (by omega)
  injection e with ea en ec
  rw [← ec,← hnn] at hr
  exact ⟨g,ea,hr⟩
 have H1:=Lib.hid (And.intro hex0 (And.intro hR (And.intro hb1 (And.intro hnn (H.out.1.below hb1)))))
 clear hO hR hb1 hnn hex0
 go_upto_region 3 with fail
 go_loopw [3,9] (fun u vi wr=>∃ i:Nat,i≤n∧vi=.int .i64 i∧Hid (zAh bV WfK 16 39 wr w1.heap.size u (zBR s.tab (R.take i))∧Below w1.heap.size w1 wr)) (fun _ vi _=>n - (intOf vi).toNat)
 case atStart=>exact ⟨0,Nat.zero_le _,rfl,by rw [List.take_zero];exact zAh.nil _ _ _ _ _ _,Below.refl _ _⟩
 case round =>
  obtain ⟨i,hi0,rfl,G⟩:=hrel
  by_cases hin:i < n
  · obtain ⟨g,rfl,hrow0⟩:=H1.out.1 (by omega)
    have hrow:=hrow0.chg (S:=fun _=>False) (Chg.of_below G.out.2) (fun h=>h)
    have hx:R[i]?=some (R[i]'(by have:=H1.out.2.2.2.1;omega)):=by simp
    generalize R[i]'(by have:=H1.out.2.2.2.1;omega)=x at hx
    have wx:x.length=16:=hrow.wf x (List.mem_of_getElem? hx)
    have rx:=hrow.read ecK hx
    have t1:zY 16 wr g (i*16):=hrow.there hin
    have ax:zAQ 16 (bV x):=⟨(zAT wx).2,zAH x⟩
    have gl:g < wr.heap.size:=hrow.lt
    have i0:(0:Int)≤(i:Int):=by omega
    have i1:(i:Int) < (n:Int):=by omega
    have kx1:=(zAT wx).1
    obtain ⟨ck,hck⟩:∃ c,c=bV x:=⟨_,rfl⟩
    rw [← hck] at rx ax kx1
    have k2:ck.length=16:=ax.1
    have HX:=Lib.hid (And.intro hx (And.intro hck wx))
    have hu16:=Tryz.underlying39
    have hi16:(Tryz.prog.info? 39).map (·.size)=some ck.length:=by rw [ax.1];exact i16
    clear hx hrow hrow0 hck wx
    go_upto_region 5 with fail
    have hbk:Blk (wr.alloc (.cells ck.toArray 39)) wr.heap.size ck.toArray 39:=Blk.new _ _ _
    have hbb:Below wr.heap.size wr (wr.alloc (.cells ck.toArray 39)):=(Below.refl _ _).alloc (Nat.le_refl _) _
    obtain ⟨wa,hwa⟩:∃ q,q=wr.alloc (.cells ck.toArray 39):=⟨_,rfl⟩
    obtain ⟨p6,hp6⟩:∃ q,q=wr.heap.size:=⟨_,rfl⟩
    rw [← hwa] at hbk hbb ⊢
    rw [← hp6] at hbk ⊢
    obtain ⟨sb,lb,d,L,tb,v,hA⟩:=H1.out.2.2.2.2.below (G.out.2.trans (hbb.mono G.out.2.size))
    have hof:=zCo wa.drew tb v s.tab x (hA.heap.tab.below (Below.refl _ _).drew) (by have:=H.out.2.2.tab;omega) HX.out.2.2 (by have:=hA.good.few x;omega)
    rw [← HX.out.2.1] at hof
    have c4:wa.drew.cell? ⟨pb,4,none⟩=some (.pointer (some ⟨tb,0,none⟩)):=hA.blk.cell 4
    have r4:wa.drew.rangeAt p6 0 ck:=fun j v hj=>by
     rw [(hbk.drew).cell,Nat.zero_add]
     simpa using hj
    obtain ⟨m,hm⟩:∃ m,m=(ofL s.tab x).length:=⟨_,rfl⟩
    have HA:=Lib.hid (And.intro hA (And.intro hbk (And.intro hbb (And.intro hof hm))))
    clear hwa hp6 hbk hbb hA hof hm
    go_region_held3 (fun w'=>w'.cell? ⟨pb,4,none⟩=some (.pointer (some ⟨tb,0,none⟩))∧w'.rangeAt p6 0 ck) (first | exact ⟨c4,r4⟩ | with_reducible assumption)
     (first
      | (go_at_call 65
         refine HA.out.2.2.2.1.mono ?_
         rintro e w2 ⟨vo,out,rfl,hO,hR,hb2⟩
         obtain ⟨fa,fc,rfl⟩:=hO.slice
         rw [hR.perm.length_eq,← HA.out.2.2.2.2]
         have hb2:Below wa.heap.size wa w2:=zA1 hb2
         have hh:w2.cell? ⟨pb,4,none⟩=some (.pointer (some ⟨tb,0,none⟩))∧w2.rangeAt p6 0 ck:=⟨(HA.out.1.below hb2).blk.cell 4,fun j v hj=>by
          rw [(HA.out.2.1.kept hb2).cell,Nat.zero_add]
          simpa using hj⟩
         have HB2:=Lib.hid (And.intro (HA.out.2.2.1.trans (hb2.mono HA.out.2.2.1.size)) (HA.out.2.1.kept hb2))
         clear hO hR hb2))
    clear c4 r4 hh
    have hst:=zKq (t:=s.tab) HX.out.1
    have rk:zN 16 w2 p6 0=ck:=zP HB2.out.2 k2
    have gk:zY 16 w2 p6 0:=zL HB2.out.2 (by simp [k2])
    have lk:=HB2.out.2.lt
    have HO:=Lib.hid (And.intro (G.out.1.chg (S:=fun _=>False) (Chg.of_below HB2.out.1) (fun _ _ h=>h)) (G.out.2.trans (HB2.out.1.mono G.out.2.size)))
    by_cases m0:m=0
    · have hnil:ofL s.tab x=[]:=List.eq_nil_of_length_eq_zero (by rw [← HA.out.2.2.2.2];exact m0)
      rw [if_neg (by simpa using hnil),List.append_nil] at hst
      have HS:=Lib.hid hst
      subst m0
      clear hst hnil
      go_wp2_with fail
      exact ⟨⟨i+1,by omega,by simp,by rw [HS.out];exact HO.out.1,HO.out.2⟩,by show n - ((i:Int)+1).toNat < n - (i:Int).toNat;omega⟩
    · have hne:ofL s.tab x≠[]:=fun e=>m0 (by rw [HA.out.2.2.2.2,e];rfl)
      rw [if_pos hne] at hst
      have hll:=zFn s.tab (R.take i)
      have hll2:(R.take i).length≤i:=by rw [List.length_take];omega
      have HS:=Lib.hid (And.intro hst (Nat.le_trans hll hll2))
      have dm:decide ((0:Int) < (m:Int))=true:=by simp;omega
      have dm':decide (0 < m)=true:=by simp;omega
      have mp:0 < m:=by omega
      replace m0:=Lib.hid m0
      clear hst hne hll hll2
      go_wp2_with
       (first
        | (refine zBV EKk ecK (by rfl) _ _ (by rfl) (base:=w1.heap.size) (l:=zBR s.tab (R.take i)) (cx:=1) (e':=39) x HX.out.2.2 (by rfl) (by rfl) (by rw [← HX.out.2.1];exact Blk.new_at _ _ _ _ (by simp)) (HO.out.1.chg (S:=fun _=>False) (Chg.of_below ((Below.refl _ _).alloc (Nat.le_refl _) _)) (fun _ _ h=>h)) (by have:=HS.out.2;omega) (by decide) (by have:=HO.out.2.size;simp;omega) ?_
           intro v1 x1 hv1 hg1 hs1
           have HV1:=Lib.hid hv1
           have HC1:=Lib.hid (zg (HO.out.2.alloc HO.out.2.size _) hg1 (fun q hq=>HO.out.1.ge hq))
           clear hv1 hg1 hs1)
        | fail)
      exact ⟨⟨i+1,by omega,by simp,by rw [HS.out.1];exact HV1.out,HC1.out⟩,by show n - ((i:Int)+1).toNat < n - (i:Int).toNat;omega⟩
  · have hfull:R.take i=R:=List.take_of_length_le (by have:=H1.out.2.2.2.1;omega)
    have hg:=G.out.1
    rw [hfull] at hg
    have HG:=Lib.hid hg
    clear hfull hg
    go_wp2_with fail
    go_ret
    exact ⟨_,R,rfl,HG.out.lower H1.out.2.2.1.size,H1.out.2.1,H1.out.2.2.1.trans (G.out.2.mono H1.out.2.2.1.size)⟩
end Go.Proofs.YtbbojbdigiibbaaGreatDoor
end
