/- Texts of this proof,packed: Ref10Put,Ref10Drop,Ref10Names,RefTake. -/
import Derived.Test.YtdlkghdfkjdajaaGreatDoorPkP17
import Derived.Test.YtdlkghdfkjdajaaGreatDoorPkP07
import Derived.Test.YtdlkghdfkjdajaaGreatDoorPkP11
import Derived.Test.YtdlkghdfkjdajaaGreatDoorPkP12
import Derived.Test.YtdlkghdfkjdajaaGreatDoorPkP13
import Derived.Test.YtdlkghdfkjdajaaGreatDoorPkP02
import Derived.Deep.QuietTactic
import Derived.Deep.CutBlock
section
namespace Go.Mem
open Go Go.RowKit Gf Go.Proofs.YtdlkghdfkjdajaaGreatDoor
set_option linter.unusedVariables false
def zw (at_:Nat):Nat→zA→Nat→List UInt8→Bool × zA
 | 0,D,_,_=>(true,D)
 | n+1,D,k,b=>if b=[] then (true,D) else if D.wres ((at_+1+k:Nat):Int) (b.take 32).length≠0 then (false,D.wr ((at_+1+k:Nat):Int) (b.take 32)) else zw at_ n (D.wr ((at_+1+k:Nat):Int) (b.take 32)) (k+1) (b.drop 32)
theorem zGG (at_:Nat):∀ (n:Nat) (D:zA) (k:Nat) (b:List UInt8),(zw at_ n D k b).2.n=D.n
 | 0,_,_,_=>rfl
 | n+1,D,k,b=>by
   rw [zw]
   split
   · rfl
   · split
     · exact zA.wr_n _ _ _
     · rw [zGG at_ n,zA.wr_n]
def zBa (L:List zR) (name:ByteArray):Nat:=match zAr L name L.length with
 | none=>1
 | some i=>(L[i]?).elim 1 (·.num+1)
def zCu (L:List zR) (i:Nat):Nat:=(L[i]?).elim 0 (·.slot)
def zAX (slots room:Nat) (D:zA) (L:List zR) (died:Bool) (name:ByteArray) (data:List UInt8):Int × zA × List zR × Bool :=
 if died=true then (8,D,L,died) else if zAH room name data=false then (1,D,L,died) else
 match zAJ L slots slots with
 | none=>(3,D,L,died)
 | some sl =>
   if (zw (sl*(room+1)) (room+1) D 0 (Sto.text name (zBa L name) data)).1=false then (8,(zw (sl*(room+1)) (room+1) D 0 (Sto.text name (zBa L name) data)).2,L,true) else
   if (zw (sl*(room+1)) (room+1) D 0 (Sto.text name (zBa L name) data)).2.wres ((sl*(room+1):Nat):Int) 1≠0 then (8,(zw (sl*(room+1)) (room+1) D 0 (Sto.text name (zBa L name) data)).2.wr ((sl*(room+1):Nat):Int) [1],L,true) else
   match zAr L name L.length with
   | none=>(0,(zw (sl*(room+1)) (room+1) D 0 (Sto.text name (zBa L name) data)).2.wr ((sl*(room+1):Nat):Int) [1],zAf zR.name L ⟨name,zBa L name,data,sl⟩,false)
   | some i =>
     if ((zw (sl*(room+1)) (room+1) D 0 (Sto.text name (zBa L name) data)).2.wr ((sl*(room+1):Nat):Int) [1]).wres ((zCu L i*(room+1):Nat):Int) 0≠0 then
      (8,((zw (sl*(room+1)) (room+1) D 0 (Sto.text name (zBa L name) data)).2.wr ((sl*(room+1):Nat):Int) [1]).wr ((zCu L i*(room+1):Nat):Int) [],L,true)
     else (0,((zw (sl*(room+1)) (room+1) D 0 (Sto.text name (zBa L name) data)).2.wr ((sl*(room+1):Nat):Int) [1]).wr ((zCu L i*(room+1):Nat):Int) [],zAf zR.name L ⟨name,zBa L name,data,sl⟩,false)
theorem zFI {α:Type} (nm:α→ByteArray) (l:List α) (r:α):∀ x∈zAf nm l r,x∈l∨x=r:=by
 have h:∀ (l':List α) (s:List α × Bool),(∀ x∈s.1,x∈l∨x=r)→(∀ x∈l',x∈l)→∀ x∈(l'.foldl (zAF nm r) s).1,x∈l∨x=r:=by
  intro l'
  induction l' with
  | nil=>intro s hs _;exact hs
  | cons y l' ih =>
    intro s hs hl
    rw [List.foldl_cons]
    refine ih _ (fun x hx=>?_) (fun x hx=>hl x (by simp [hx]))
    have hp:∀ x∈s.1++[r],x∈l∨x=r:=fun x hx=>by
     rcases List.mem_append.1 hx with hx | hx
     · exact hs x hx
     · exact .inr (List.mem_singleton.1 hx)
    unfold zAF at hx
    split at hx
    · split at hx
      · exact hp x hx
      · exact hs x hx
    · simp only [] at hx
      rcases List.mem_append.1 hx with hx | hx
      · split at hx
        · exact hp x hx
        · exact hs x hx
      · rw [List.mem_singleton.1 hx];exact .inl (hl y (by simp))
 have hf:=h l ([],false) (fun _ h=>by cases h) (fun _ h=>h)
 intro x hx
 unfold zAf at hx
 split at hx
 · exact hf x hx
 · rcases List.mem_append.1 hx with hx | hx
   · exact hf x hx
   · exact .inr (List.mem_singleton.1 hx)
end Go.Mem
namespace Go.Proofs.YtdlkghdfkjdajaaGreatDoor
open Go Go.RowKit Go.Mem Gf
set_option linter.unusedVariables false
set_option linter.unusedSimpArgs false
attribute [local go_sem ↓] Go.wp_at_zero Go.wp_at_succ
theorem zJY {P:Program} {t e:TypeId} (E:Elem P t e (.int .u8 0) 1) {o:Oper} {a:Act} {w:World} (s x:Operand) (ho:o.op=.call { callee:=.builtin .append,args:=#[s,x],argTypes:=#[t,t] })
  {base:Nat} {v xv:Value} {bs news:List UInt8} (hs:a.eval s=v) (hx:a.eval x=xv) (hown:zP e w base v bs) (hb:Bys w xv news) (hn:bs.length+news.length≤140737488355328) (hbase:base≤w.heap.size) {R:Value→World→Prop}
  (h:∀ v' w',zP e w' base v' (bs++news)→w.grownBy w' v.ownBlock→R v' w'):∃ v' w',(execOp a.eval o).run P w=.ok (.value v') w'∧R v' w':=by
 obtain ⟨v',w',hr,h2,h3⟩:=zIE E o.type hown hb hn hbase
 refine ⟨v',w',?_,h v' w' h2 h3⟩
 unfold execOp
 simp only [ho,resolve,invoke,builtin,Sem.run_bind,Sem.run_pure,Result.andThen_ok,List.map_toArray,List.map_cons,List.map_nil,hs,hx,hr]
theorem zBk (w:World):Bys w (.slice none 0 0) []:=(zP.nil 5 w 0).bys
set_option maxRecDepth 20000 in
set_option maxHeartbeats 8000000 in
theorem zIB (w:World) (N:Nat→Prop) (q r B:Nat) (lv:Value) (ps:List RP) (D:zA) (slots room:Nat) (L:List zR) (died:Bool) (h:zAA w N q r B lv ps D slots room L died) (name:ByteArray) (v:Value) (data:List UInt8) (hb:zA1 w N v data) (hname:name.size≤1000000) (hN:∀ b,N b→b < w.heap.size) (hfew:D.writes < 4611686018427000000) (hlen:∀ sl,zAJ L slots slots=some sl→(zAf zR.name L ⟨name,zBa L name,data,sl⟩).length≤slots) (hnum:zBa L name < 1000000000000) :
  Calls Tryz.prog 48 #[.pointer (some ⟨q,0,none⟩),.string name,v] w fun e w'=>∃ lv' ps',e=.returned (.int .i64 (zAX slots room D L died name data).1)∧zAA w' N q r B lv' ps' (zAX slots room D L died name data).2.1 slots room (zAX slots room D L died name data).2.2.1 (zAX slots room D L died name data).2.2.2∧Chg (zAY q r B) w w':=by
 have c4:w.cell? ⟨q,4,none⟩=some (.bool died):=h.blk.cell 4
 obtain ⟨da,dc,rfl⟩:=hb.1.eq_slice
 obtain ⟨dl,hdl⟩:∃ x,x=data.length:=⟨_,rfl⟩
 rw [← hdl] at hb ⊢
 have H:=Lib.hid (And.intro h (And.intro hb (And.intro hN (And.intro hfew (And.intro hname hdl)))))
 have HL:=Lib.hid (And.intro hlen hnum)
 clear h hb hN hfew hname hdl hlen hnum
 go_enter Tryz.func48,Tryz.ntmps48
 cases died with
 | true =>
   have HQ:=Lib.hid (show zAX slots room D L true name data=(8,D,L,true) from by unfold zAX;rw [if_pos rfl])
   go_wp2_with fail
   go_ret
   rw [HQ.out]
   exact ⟨lv,ps,rfl,H.out.1,Chg.refl _ _⟩
 | false =>
   go_wp2_with fail
   refine (zH6 w N q r B lv ps D slots room L false H.out.1 name _ data H.out.2.1.1 (by have:=H.out.2.2.2.2.1;omega)).mono ?_
   rintro e w1 ⟨rfl,hb1⟩
   cases hfit:zAH room name data with
   | false =>
     have HQ:=Lib.hid (show zAX slots room D L false name data=(1,D,L,false) from by unfold zAX;rw [if_neg (by decide),if_pos hfit])
     have HB:=Lib.hid hb1
     clear hfit hb1
     go_wp2_with fail
     go_ret
     rw [HQ.out]
     exact ⟨lv,ps,rfl,H.out.1.below HB.out,Chg.of_below HB.out⟩
   | true =>
     have h1:=H.out.1.below hb1
     have hd1:=H.out.2.1.chg (S:=fun _=>False) (Chg.of_below hb1) (fun _ h=>h.elim)
     have H1:=Lib.hid (And.intro h1 (And.intro hd1 (And.intro hb1 hfit)))
     clear h1 hd1 hb1 hfit
     go_wp2_with fail
     refine (zFm w1 N q r B lv ps D slots room L false H1.out.1).mono ?_
     rintro e w2 ⟨rfl,rfl⟩
     cases hsl:zAJ L slots slots with
     | none =>
       have HQ:=Lib.hid (show zAX slots room D L false name data=(3,D,L,false) from by unfold zAX;rw [if_neg (by decide),if_neg (by rw [H1.out.2.2.2];decide),hsl])
       clear hsl
       simp only [zBg]
       go_wp2_with fail
       go_ret
       rw [HQ.out]
       exact ⟨lv,ps,rfl,H1.out.1,Chg.of_below H1.out.2.2.1⟩
     | some sl =>
       have hslt:=(zFO hsl).1
       have HSL:=Lib.hid (And.intro hsl hslt)
       have s0:decide ((sl:Int) < 0)=false:=by simp
       clear hsl hslt
       simp only [zBg]
       go_wp2_with fail
       refine (zEP w1 N q r B lv ps D slots room L false H1.out.1 name).mono ?_
       rintro e w2 ⟨rfl,rfl⟩
       obtain ⟨o,ho⟩:∃ o,o=zAr L name L.length:=⟨_,rfl⟩
       rw [← ho]
       obtain ⟨nm,hnm⟩:∃ n,n=zBa L name:=⟨_,rfl⟩
       have hn1:nm < 1000000000000:=by rw [hnm];exact HL.out.2
       have HO:=Lib.hid (And.intro ho hnm)
       have hlo:∀ i,o=some i→∃ x,L[i]?=some x∧nm=x.num+1:=fun i hi=>by
        obtain ⟨_,x,hx,_⟩:=zCt (ho.symm.trans hi)
        refine ⟨x,hx,?_⟩
        rw [hnm]
        unfold zBa
        rw [← ho,hi]
        simp only [hx]
        rfl
       have hno:o=none→nm=1:=fun hi=>by
        rw [hnm]
        unfold zBa
        rw [← ho,hi]
       have HLO:=Lib.hid (And.intro hlo hno)
       clear ho hnm hlo hno
       go_upto_if 30 with fail
       go_cut [9] (fun v wx=>v=.int .i64 nm∧w1=wx)
       case first =>
        cases o with
        | none =>
          have hq:=HLO.out.2 rfl
          subst hq
          simp only [zBg]
          go_wp2_with fail
          go_meet
          exact ⟨rfl,rfl⟩
        | some i =>
          obtain ⟨x,hx,hq⟩:=HLO.out.1 i rfl
          have c3:w1.cell? ⟨q,3,none⟩=some lv:=H1.out.1.blk.cell 3
          obtain ⟨a,c,rfl,h1,h2,h3⟩:=id H1.out.1.row
          obtain ⟨p,hp,e1,e2,_⟩:=H1.out.1.recs.at hx
          obtain ⟨b,off,ha,_,_,hc⟩:=h3 (by have:=(List.getElem?_eq_some_iff.1 hp).1;omega)
          have cx:=hc i p hp 1 (.int .i64 p.num) rfl
          subst ha
          rw [e2] at cx
          have hil:=(List.getElem?_eq_some_iff.1 hp).1
          have i0:(0:Int)≤(i:Int):=by omega
          have i2:decide ((0:Int)≤(i:Int))=true:=by simp
          obtain ⟨n,hnn⟩:∃ n,n=ps.length:=⟨_,rfl⟩
          rw [← hnn] at c3 hil
          have i1:(i:Int) < (n:Int):=by omega
          have i3:IntKind.i64.wrap ((x.num:Int)+1)=(nm:Int):=by rw [hq];push_cast;exact IntWalk.i64_in _ (by omega)
          clear hp hc h3 h1 h2 hx e1 e2 hnn hq
          simp only [zBg]
          go_wp2_with fail
          go_meet
          exact ⟨rfl,rfl⟩
       case rest =>
       obtain ⟨rfl,rfl⟩:=hcut
       go_wp2_with fail
       refine (zES name nm _ data w1 H1.out.2.1.1 H.out.2.2.2.2.1 (by omega) (by have:=H1.out.2.2.2;unfold zAH at this;simp at this;omega)).mono ?_
       rintro e w3 ⟨v3,rfl,ho3,hb3⟩
       obtain ⟨T,hT⟩:∃ T,T=Sto.text name nm data:=⟨_,rfl⟩
       rw [← hT] at ho3
       obtain ⟨ta,tc,rfl⟩:=ho3.eq_slice
       obtain ⟨tl,htl⟩:∃ n,n=T.length:=⟨_,rfl⟩
       rw [← htl] at ho3 ⊢
       have htl2:tl≤room*32:=by
        have:=H1.out.2.2.2
        unfold zAH at this
        simp only [Bool.and_eq_true,decide_eq_true_eq] at this
        have hl:(Sto.text name nm data).length=(Sto.text name 0 data).length:=by
         simp only [Sto.text,Cod.zAU,List.length_append,Cod.zAL,Cod.zt,List.length_nil]
        rw [htl,hT,hl]
        exact this.2.2
       obtain ⟨A,hA⟩:∃ n,n=sl*(room+1):=⟨_,rfl⟩
       have hr1:=H1.out.1.r1
       have hA2:A≤1024*1025:=by
        rw [hA]
        exact Nat.mul_le_mul (by have:=HSL.out.2;have:=H1.out.1.s1;omega) (by omega)
       have q1:IntKind.i64.wrap ((room:Int)+1)=(room:Int)+1:=IntWalk.i64_in _ (by omega)
       have q2:IntKind.i64.wrap ((sl:Int)*((room:Int)+1))=(A:Int):=by
        have e2:(sl:Int)*((room:Int)+1)=(A:Int):=by rw [hA];push_cast;rfl
        rw [e2]
        exact IntWalk.i64_in _ (by omega)
       have h3:=H1.out.1.below hb3
       have hd3:=H1.out.2.1.chg (S:=fun _=>False) (Chg.of_below hb3) (fun _ h=>h.elim)
       have c2:w3.cell? ⟨q,2,none⟩=some (.int .i64 room):=h3.blk.cell 2
       have hTb:∀ wr,Chg (zAY q r B) w3 wr→Bys wr (.slice ta tl tc) T:=fun wr hc=>(ho3.chg hc (fun g hg hS=>by
        have h1:=(ho3.lt g hg).1
        have h2:=H.out.2.2.1 g (H.out.1.foot g hS)
        have h3:=H1.out.2.2.1.size
        omega)).bys
       have hTs:0 < tl→∃ g,ta=some ⟨g,0,none⟩∧tl≤tc∧tc≤maxLen:=fun h0=>by
        rcases ho3 with ⟨_,e0⟩ | ⟨g,cap,arr,fz,e,_,_,_,h5,h6,_⟩
        · rw [e0] at htl;rw [List.length_nil] at htl;omega
        · injection e with e1 e2 e3
          exact ⟨g,e1,by omega,by omega⟩
       have HTB:=Lib.hid (And.intro hTb hTs)
       clear hTb hTs
       have H3:=Lib.hid (And.intro h3 (And.intro hd3 (And.intro ho3 (And.intro (H1.out.2.2.1.trans (hb3.mono H1.out.2.2.1.size)) (And.intro hT (And.intro htl hA))))))
       have hzz:=H1.out.2.2.1.size
       clear h3 hd3 ho3 hb3 hT htl hA
       go_wp2_with fail
       go_loopw [12] (fun v wr=>∃ (k:Nat) (D':zA),v=.int .i64 k∧k≤room∧Hid (zw A (room+1) D 0 T=zw A (room+1 - k) D' k (T.drop (32*k))∧zAA wr N q r B lv ps D' slots room L false∧Chg (zAY q r B) w3 wr∧D'.writes≤D.writes+k)) (fun v _=>room+1 - (intOf v).toNat)
       case atStart=>exact ⟨0,D,rfl,Nat.zero_le _,rfl,H3.out.1,Chg.refl _ _,Nat.le_refl _⟩
       case round =>
        obtain ⟨k,D',rfl,hk,G⟩:=hrel
        have q3:IntKind.i64.wrap ((k:Int)*32)=((k*32:Nat):Int):=by
         rw [show (k:Int)*32=((k*32:Nat):Int) from by push_cast;rfl]
         exact IntWalk.i64_in _ (by omega)
        obtain ⟨kk,hkk⟩:∃ n,n=k*32:=⟨_,rfl⟩
        rw [← hkk] at q3
        by_cases h0:kk < tl
        · have t0:decide ((kk:Int) < (tl:Int))=true:=by simp;omega
          have t0':decide (kk < tl)=true:=by simp;omega
          obtain ⟨g,rfl,hc1,hc2⟩:=HTB.out.2 (by omega)
          obtain ⟨e,he⟩:∃ e,e=min tl (kk+32):=⟨_,rfl⟩
          have hmin:min (tl:Int) ((kk:Int)+32)=(e:Int):=by omega
          have q4:IntKind.i64.wrap ((k:Int)+1)=(k:Int)+1:=IntWalk.i64_in _ (by omega)
          have q5:IntKind.i64.wrap (((k:Int)+1)*32)=(kk:Int)+32:=by
           rw [show ((k:Int)+1)*32=(kk:Int)+32 from by omega]
           exact IntWalk.i64_in _ (by omega)
          obtain ⟨X,hX⟩:∃ X,X=A+1+k:=⟨_,rfl⟩
          have q6:IntKind.i64.wrap ((A:Int)+1)=(A:Int)+1:=IntWalk.i64_in _ (by omega)
          have q7:IntKind.i64.wrap ((A:Int)+1+(k:Int))=(X:Int):=by
           rw [show (A:Int)+1+(k:Int)=(X:Int) from by omega]
           exact IntWalk.i64_in _ (by omega)
          have e1:kk≤e:=by omega
          have e2:e≤tc:=by omega
          have e1':(kk:Int)≤(e:Int):=by omega
          have e2':(e:Int)≤(tc:Int):=by omega
          have e0':(0:Int)≤(kk:Int):=by omega
          have e3:¬ (tc=kk):=by omega
          have e3':¬ (kk=tc):=by omega
          have e4:e - kk≤32:=by omega
          have e4':0 < e - kk:=by omega
          have HE:=Lib.hid (And.intro he (And.intro hX (And.intro hkk h0)))
          clear he hX hkk h0
          go_upto_region 17 with fail
          go_wp2_with fail
          have hbk:∀ w',Chg (zAY q r B) w3 w'→Bys w' (.slice (some ⟨g,kk,none⟩) (e - kk) (tc - kk)) ((T.drop (32*k)).take 32):=fun w' hc=>by
           have h1:=zCD (HTB.out.1 w' hc) kk (e - kk) (tc - kk) (by have:=H3.out.2.2.2.2.2.1;omega) (by omega) (by omega)
           have h2:(T.drop kk).take (e - kk)=(T.drop (32*k)).take 32:=by
            have hkk:kk=32*k:=by have:=HE.out.2.2.1;omega
            rw [hkk]
            have htl:=H3.out.2.2.2.2.2.1
            have he:=HE.out.1
            rcases Nat.lt_or_ge tl (kk+32) with h' | h'
            · rw [List.take_of_length_le (i:=32) (by rw [List.length_drop];omega),List.take_of_length_le (by rw [List.length_drop];omega)]
            · rw [show e - 32*k=32 from by omega]
           rw [Nat.zero_add] at h1
           rw [← h2]
           exact h1
          have hlen:((T.drop (32*k)).take 32).length=e - kk:=by
           rw [List.length_take,List.length_drop]
           have:=H3.out.2.2.2.2.2.1
           have:=HE.out
           omega
          refine (zB6 wr N q r B lv ps D' slots room L false G.out.2.1 X _ ((T.drop (32*k)).take 32) (hbk wr G.out.2.2.1) (fun w' hc=>hbk w' (G.out.2.2.1.trans (hc.mono (fun b hb=>.inr (.inr hb))))) (by have:=G.out.2.2.2;have:=H.out.2.2.2.1;omega)).mono ?_
          rintro er w4 ⟨rfl,h4,hc4⟩
          obtain ⟨z,hz⟩:∃ z,z=D'.wres (X:Int) ((T.drop (32*k)).take 32).length:=⟨_,rfl⟩
          rw [← hz] at h4 ⊢
          have hst:zw A (room+1) D 0 T=if z≠0 then (false,D'.wr (X:Int) ((T.drop (32*k)).take 32)) else zw A (room - k) (D'.wr (X:Int) ((T.drop (32*k)).take 32)) (k+1) (T.drop (32*(k+1))):=by
           rw [G.out.1,show room+1 - k=(room - k)+1 from by omega,zw,if_neg (fun e=>by
            have:=congrArg List.length e
            rw [List.length_drop,List.length_nil] at this
            have:=H3.out.2.2.2.2.2.1
            have:=HE.out
            omega),← HE.out.2.1,← hz,List.drop_drop,show 32*k+32=32*(k+1) from by omega]
          have H4:=Lib.hid (And.intro h4 (And.intro (G.out.2.2.1.trans hc4) (And.intro hst hz)))
          clear h4 hc4 hst hz hbk hlen
          by_cases hz0:z=0
          · subst hz0
            have h4:=H4.out.1
            have HR5:=Lib.hid (show zAA w4 N q r B lv ps (D'.wr (X:Int) ((T.drop (32*k)).take 32)) slots room L false from by simpa using h4)
            have HW:=Lib.hid (zG9 H4.out.2.2.2.symm)
            have HST:=Lib.hid (show zw A (room+1) D 0 T=zw A (room+1 - (k+1)) (D'.wr (X:Int) ((T.drop (32*k)).take 32)) (k+1) (T.drop (32*(k+1))) from by rw [H4.out.2.2.1,if_neg (by simp),show room+1 - (k+1)=room - k from by omega])
            clear h4
            go_wp2_with fail
            exact ⟨⟨k+1,_,by go_num,by have:=HE.out;omega,HST.out,HR5.out,H4.out.2.1,by have:=HW.out;have:=G.out.2.2.2;omega⟩,by simp [intOf];have:=HE.out;omega⟩
          · have t2:(z != 0)=true:=by simp [hz0]
            have h4:=H4.out.1
            rw [t2] at h4
            have HR5:=Lib.hid (show zAA w4 N q r B lv ps (D'.wr (X:Int) ((T.drop (32*k)).take 32)) slots room L true from by simpa using h4)
            have HST:=Lib.hid (show zw A (room+1) D 0 T=(false,D'.wr (X:Int) ((T.drop (32*k)).take 32)) from by rw [H4.out.2.2.1,if_pos hz0])
            have HQ:=Lib.hid (show zAX slots room D L false name data=(8,D'.wr (X:Int) ((T.drop (32*k)).take 32),L,true) from by
             unfold zAX
             rw [if_neg (by decide),if_neg (by rw [H1.out.2.2.2];decide),HSL.out.1]
             simp only []
             rw [← HO.out.2,← H3.out.2.2.2.2.1,← H3.out.2.2.2.2.2.2,HST.out,if_pos rfl])
            clear h4 hz0
            go_wp2_with fail
            go_ret
            rw [HQ.out]
            exact ⟨lv,ps,rfl,HR5.out,(Chg.of_below H3.out.2.2.2.1).trans H4.out.2.1⟩
        · have hnil:T.drop (32*k)=[]:=List.drop_eq_nil_of_le (by have:=H3.out.2.2.2.2.2.1;omega)
          have hch:zw A (room+1) D 0 T=(true,D'):=by
           rw [G.out.1,hnil]
           cases room+1 - k with
           | zero=>rfl
           | succ n=>rw [zw,if_pos rfl]
          have t0:decide ((kk:Int) < (tl:Int))=false:=by simp;omega
          have t0':decide (kk < tl)=false:=by simp;omega
          have hwf:D'.writes≤D.writes+1024:=by have:=G.out.2.2.2;omega
          have HC:=Lib.hid (And.intro hch (And.intro G.out.2.1 (And.intro ((Chg.of_below H3.out.2.2.2.1).trans G.out.2.2.1) hwf)))
          clear hnil hch hwf h0 hkk hk G
          go_wp2_with fail
          have hz6:∀ b,zAY q r B b→b < wr.heap.size:=fun b hb=>by
           have h1:=H.out.2.2.1 b (H.out.1.foot b hb)
           have h2:=HC.out.2.2.1.size
           omega
          have hb6:Below wr.heap.size wr (wr.alloc (.cells #[Value.int .u8 1] 5)):=(Below.refl _ _).alloc (Nat.le_refl _) _
          refine (zB6 _ N q r B lv ps D' slots room L false (HC.out.2.1.below hb6) A _ [1] (zAv wr 1 _ rfl _) (fun w' hc=>?_) (by have:=HC.out.2.2.2;have:=H.out.2.2.2.1;omega)).mono ?_
          · have hk:=hc.blk (Blk.new wr #[Value.int .u8 1] 5) (fun e=>by have:=hz6 B (.inr (.inr rfl));omega)
            exact hk.bys (bs:=[1]) (Nat.le_refl _) (zAC (by decide)) fun i v hi=>by
             cases i with
             | zero=>simp at hi;subst hi;rfl
             | succ i=>simp at hi
          rintro er w6 ⟨rfl,h6,hc6⟩
          obtain ⟨z,hz⟩:∃ z,z=D'.wres (A:Int) [(1:UInt8)].length:=⟨_,rfl⟩
          rw [← hz] at h6 ⊢
          have H6:=Lib.hid (And.intro h6 (And.intro ((HC.out.2.2.1.trans (Chg.of_below hb6)).trans hc6) hz))
          clear h6 hc6 hz hb6 hz6
          by_cases hz0:z=0
          · subst hz0
            obtain ⟨D1,hD1⟩:∃ x,x=D'.wr (A:Int) [1]:=⟨_,rfl⟩
            have h6:=H6.out.1
            rw [← hD1] at h6
            have HR6:=Lib.hid (And.intro (show zAA w6 N q r B lv ps D1 slots room L false from by simpa using h6) (And.intro hD1 (show D1.writes < 4611686018427387904 from by
             have:=zG9 H6.out.2.2.symm
             rw [← hD1] at this
             have:=HC.out.2.2.2
             have:=H.out.2.2.2.1
             omega)))
            clear h6 hD1
            go_upto_region 21 with fail
            go_cut [100] (fun vb wx=>∃ bad:Bool,vb=.bool bad∧Hid (∃ D2,(o=none∧D2=D1∧bad=false∨∃ i,o=some i∧D2=D1.wr ((zCu L i*(room+1):Nat):Int) []∧bad=(D1.wres ((zCu L i*(room+1):Nat):Int) 0 != 0))∧zAA wx N q r B lv ps D2 slots room L bad∧Chg (zAY q r B) w6 wx))
            case first =>
             cases o with
             | none =>
               simp only [zBg]
               go_quiet (fail)
               go_wp2_with fail
               go_meet
               exact ⟨false,rfl,D1,.inl ⟨trivial,rfl,rfl⟩,HR6.out.1.below (below_drewN (Below.refl _ _) _),Chg.of_below (below_drewN (Below.refl _ _) _)⟩
             | some i =>
               obtain ⟨x,hx,hq⟩:=HLO.out.1 i rfl
               have c3:w6.cell? ⟨q,3,none⟩=some lv:=HR6.out.1.blk.cell 3
               have c2':w6.cell? ⟨q,2,none⟩=some (.int .i64 room):=HR6.out.1.blk.cell 2
               obtain ⟨a,c,rfl,h1,h2,h3⟩:=id HR6.out.1.row
               obtain ⟨p,hp,e1,e2,e3,_⟩:=HR6.out.1.recs.at hx
               obtain ⟨b,off,ha,_,_,hc⟩:=h3 (by have:=(List.getElem?_eq_some_iff.1 hp).1;omega)
               have cx:=hc i p hp 3 (.int .i64 p.slot) rfl
               subst ha
               rw [e3] at cx
               have hil:=(List.getElem?_eq_some_iff.1 hp).1
               have i0:(0:Int)≤(i:Int):=by omega
               have i2:decide ((0:Int)≤(i:Int))=true:=by simp
               obtain ⟨n,hnn⟩:∃ n,n=ps.length:=⟨_,rfl⟩
               rw [← hnn] at c3 hil
               have i1:(i:Int) < (n:Int):=by omega
               have hrs:zCu L i=x.slot:=by unfold zCu;rw [hx];rfl
               have hxs:=(H.out.1.small x (List.mem_of_getElem? hx)).2.2
               obtain ⟨A2,hA2'⟩:∃ n,n=x.slot*(room+1):=⟨_,rfl⟩
               have hA22:A2≤1024*1025:=by
                rw [hA2']
                exact Nat.mul_le_mul (by have:=H1.out.1.s1;omega) (by omega)
               have q8:IntKind.i64.wrap ((x.slot:Int)*((room:Int)+1))=(A2:Int):=by
                have e2:(x.slot:Int)*((room:Int)+1)=(A2:Int):=by rw [hA2'];push_cast;rfl
                rw [e2]
                exact IntWalk.i64_in _ (by omega)
               have HA2:=Lib.hid (And.intro hA2' hrs)
               clear hp hc h3 h1 h2 hx e1 e2 e3 hnn hq hA2' hrs hA22 hxs
               simp only [zBg]
               refine Tail.zAK 18 (fun w'=>∃ n,w'=w6.drewN n) (by kernel_rfl) (by kernel_rfl) ⟨1,rfl⟩ ?_
               simp only [List.take_succ_cons,List.take_zero,List.drop_succ_cons,List.drop_zero]
               repeat (first
                | go_big_quiet_step (fail)
                | quiet_step (fail))
               refine wpQuiet_nil ?_
               intro _ hw'
               obtain ⟨d5,hw''⟩:=hw'
               subst hw''
               have h7:=HR6.out.1.below (below_drewN (Below.refl w6.heap.size w6) d5)
               have H7:=Lib.hid h7
               clear h7
               go_wp2_with fail
               refine (zB6 _ N q r B _ ps D1 slots room L false H7.out A2 _ [] (zBk _) (fun w' _=>zBk _) HR6.out.2.2).mono ?_
               rintro er w8 ⟨rfl,h8,hc8⟩
               obtain ⟨bad,hbad⟩:∃ z,z=(false || (D1.wres (A2:Int) ([]:List UInt8).length != 0)):=⟨_,rfl⟩
               rw [← hbad] at h8 ⊢
               have H8:=Lib.hid (And.intro h8 (And.intro ((Chg.of_below (below_drewN (Below.refl w6.heap.size w6) d5)).trans hc8) hbad))
               clear h8 hc8 hbad
               have hfin:(some i=none∧D1.wr (A2:Int) []=D1∧bad=false∨∃ i',some i=some i'∧D1.wr (A2:Int) []=D1.wr ((zCu L i'*(room+1):Nat):Int) []∧bad=(D1.wres ((zCu L i'*(room+1):Nat):Int) 0 != 0)):=by
                refine .inr ⟨i,rfl,?_,?_⟩
                · rw [HA2.out.2,HA2.out.1]
                · rw [HA2.out.2,← HA2.out.1]
                  have:=H8.out.2.2
                  rw [Bool.false_or] at this
                  exact this
               have HF:=Lib.hid hfin
               clear hfin
               cases bad
               all_goals
                go_wp2_with fail
                go_meet
                exact ⟨_,rfl,_,by simpa using HF.out,H8.out.1,H8.out.2.1⟩
            case rest =>
            obtain ⟨bad,rfl,hG⟩:=hcut
            obtain ⟨D2,hD2,h9,hc9⟩:=hG.out
            have H9:=Lib.hid (And.intro h9 (And.intro (H6.out.2.1.trans hc9) hD2))
            clear hG hD2 h9 hc9
            cases bad with
            | true =>
              have HQ:=Lib.hid (show zAX slots room D L false name data=(8,D2,L,true) from by
               unfold zAX
               rw [if_neg (by decide),if_neg (by rw [H1.out.2.2.2];decide),HSL.out.1]
               simp only []
               rw [← HO.out.2,← H3.out.2.2.2.2.1,← H3.out.2.2.2.2.2.2,HC.out.1,if_neg (show ¬ (true=false) from by decide),if_neg (by have:=H6.out.2.2;intro e;exact e this.symm),← HO.out.1,← HR6.out.2.1]
               rcases H9.out.2.2 with ⟨_,_,h⟩ | ⟨i,h1,h2,h3⟩
               · cases h
               · subst h1
                 simp only []
                 rw [if_pos (by simpa using h3.symm),← h2])
              go_wp2_with fail
              go_ret
              rw [HQ.out]
              exact ⟨lv,ps,rfl,H9.out.1,H9.out.2.1⟩
            | false =>
              have HQ:=Lib.hid (show zAX slots room D L false name data=(0,D2,zAf zR.name L ⟨name,nm,data,sl⟩,false) from by
               unfold zAX
               rw [if_neg (by decide),if_neg (by rw [H1.out.2.2.2];decide),HSL.out.1]
               simp only []
               rw [← HO.out.2,← H3.out.2.2.2.2.1,← H3.out.2.2.2.2.2.2,HC.out.1,if_neg (show ¬ (true=false) from by decide),if_neg (by have:=H6.out.2.2;intro e;exact e this.symm),← HO.out.1,← HR6.out.2.1]
               rcases H9.out.2.2 with ⟨h1,h2,_⟩ | ⟨i,h1,h2,h3⟩
               · subst h1
                 simp only []
                 rw [h2]
               · subst h1
                 simp only []
                 rw [if_neg (by simpa using h3.symm),← h2])
              have hwc:Chg (zAY q r B) w wc:=H9.out.2.1
              have hzw:w.heap.size≤wc.heap.size:=hwc.size
              have hdz:zA1 wc N (.slice da dl dc) data:=H.out.2.1.chg hwc (fun b hb _=>H.out.1.foot b hb)
              have c3:wc.cell? ⟨q,3,none⟩=some lv:=H9.out.1.blk.cell 3
              have f3:=H9.out.1.blk.free 3
              have hd2:data.length≤16384:=by have:=H1.out.2.2.2;unfold zAH at this;simp at this;omega
              have hps:ps.length≤1024:=by have:=H9.out.1.few;have:=H9.out.1.recs.len;have:=H9.out.1.s1;omega
              have HZ:=Lib.hid (And.intro hdz (And.intro hd2 (And.intro hps hzw)))
              clear hdz hd2 hps hzw hwc
              go_upto_region 23 with fail
              refine Tail.zT 14 (fun k=>k == 8 || k == 11) (fun k=>none)
               (fun D z w'=>Below wc.heap.size wc w'∧(D 8=true→∃ a c,z 8=.slice a data.length c∧zA1 w' N (z 8) data)∧(D 11=true→∃ p:RP,p.name=name∧p.num=nm∧p.slot=sl∧p.l=data.length∧zA1 w' N (.slice p.a p.l p.c) data∧zL eR WfR 4 101 w' wc.heap.size (z 11) (zAf RP.name ps p)))
               (by kernel_rfl) (by kernel_rfl) (fun k hk=>by simp at hk;omega) (fun D z z' w' hz h=>⟨h.1,fun d=>by rw [← hz 8 d];exact h.2.1 d,fun d=>by rw [← hz 11 d];exact h.2.2 d⟩)
               ⟨(Below.refl _ _).drew,(fun h=>by cases h),(fun h=>by cases h)⟩ (fun z=>?_)
              simp only [List.take_succ_cons,List.take_zero,List.drop_succ_cons,List.drop_zero]
              refine Tail.zI (by rfl) (by rfl) ?_
              apply Exists.intro
              refine ⟨fun w=>?_,?_⟩
              · go_simp <;> with_reducible rfl
              simp only [Act.put,List.setIfInBounds_toArray,List.set_cons_zero,List.set_cons_succ,Nat.reduceAdd,Nat.reduceEqDiff,reduceIte,Option.getD_some,Option.getD_none]
              refine Tail.zI (by rfl) (by rfl) ?_
              apply Exists.intro
              refine ⟨fun w=>?_,?_⟩
              · go_simp <;> with_reducible rfl
              simp only [Act.put,List.setIfInBounds_toArray,List.set_cons_zero,List.set_cons_succ,Nat.reduceAdd,Nat.reduceEqDiff,reduceIte,Option.getD_some,Option.getD_none]
              refine Tail.zI (by rfl) (by rfl) ?_
              apply Exists.intro
              refine ⟨fun w=>?_,?_⟩
              · go_simp <;> with_reducible rfl
              simp only [Act.put,List.setIfInBounds_toArray,List.set_cons_zero,List.set_cons_succ,Nat.reduceAdd,Nat.reduceEqDiff,reduceIte,Option.getD_some,Option.getD_none]
              refine Tail.zI (by rfl) (by rfl) ?_
              apply Exists.intro
              refine ⟨fun w=>?_,?_⟩
              · go_simp <;> with_reducible rfl
              simp only [Act.put,List.setIfInBounds_toArray,List.set_cons_zero,List.set_cons_succ,Nat.reduceAdd,Nat.reduceEqDiff,reduceIte,Option.getD_some,Option.getD_none]
              refine Tail.zA0 (by rfl) (by rfl) ?_
              apply Exists.intro
              refine ⟨fun D w' hd hp hJ=>?_,?_⟩
              · have cc:w'.cell? ⟨q,3,none⟩=some lv:=(H9.out.1.blk.kept hJ.1).cell 3
                go_simp <;> with_reducible rfl
              simp only [Act.put,List.setIfInBounds_toArray,List.set_cons_zero,List.set_cons_succ,Nat.reduceAdd,Nat.reduceEqDiff,reduceIte,Option.getD_some,Option.getD_none]
              refine Tail.zI (by rfl) (by rfl) ?_
              apply Exists.intro
              refine ⟨fun w=>?_,?_⟩
              · go_simp <;> with_reducible rfl
              simp only [Act.put,List.setIfInBounds_toArray,List.set_cons_zero,List.set_cons_succ,Nat.reduceAdd,Nat.reduceEqDiff,reduceIte,Option.getD_some,Option.getD_none]
              refine Tail.zI (by rfl) (by rfl) ?_
              apply Exists.intro
              refine ⟨fun w=>?_,?_⟩
              · go_simp <;> with_reducible rfl
              simp only [Act.put,List.setIfInBounds_toArray,List.set_cons_zero,List.set_cons_succ,Nat.reduceAdd,Nat.reduceEqDiff,reduceIte,Option.getD_some,Option.getD_none]
              refine Tail.zI (by rfl) (by rfl) ?_
              apply Exists.intro
              refine ⟨fun w=>?_,?_⟩
              · go_simp <;> with_reducible rfl
              simp only [Act.put,List.setIfInBounds_toArray,List.set_cons_zero,List.set_cons_succ,Nat.reduceAdd,Nat.reduceEqDiff,reduceIte,Option.getD_some,Option.getD_none]
              refine Tail.zFt (by rfl) (by rfl) (fun D z' w' hD hz hd hp hJ=>?_) ?_
              · have h11:D 11=false:=hp 11 (by kernel_rfl)
                refine zJY (P:=Tryz.prog) E8c _ _ rfl (base:=wc.heap.size) (v:=.slice none 0 0) (xv:=.slice da dl dc) (bs:=[]) (news:=data) rfl rfl (zP.nil _ _ _) (HZ.out.1.1.below hJ.1) (by have:=HZ.out.2.1;simp;omega) hJ.1.size ?_
                intro v' wx ho2 hg2
                have hbx:Below w'.heap.size w' wx:=zAE hg2 rfl
                have ho2:zP 5 wx wc.heap.size v' data:=ho2
                refine ⟨fun c hc=>by simp at hc,hJ.1.trans (hbx.mono hJ.1.size),fun _=>?_,fun h=>?_⟩
                · obtain ⟨a',c',e'⟩:=ho2.eq_slice
                  refine ⟨a',c',by simpa [Tail.zAb] using e',?_⟩
                  have:=(ho2.data (N:=N) (fun b hb _ hN=>by have:=H.out.2.2.1 b hN;have:=HZ.out.2.2.2;omega)).z
                  simpa [Tail.zAb] using this
                · simp [Tail.zAp,h11] at h
              simp only [Act.put,List.setIfInBounds_toArray,List.set_cons_zero,List.set_cons_succ,Nat.reduceAdd,Nat.reduceEqDiff,reduceIte,Option.getD_some,Option.getD_none]
              refine Tail.zI (by rfl) (by rfl) ?_
              apply Exists.intro
              refine ⟨fun w=>?_,?_⟩
              · go_simp <;> with_reducible rfl
              simp only [Act.put,List.setIfInBounds_toArray,List.set_cons_zero,List.set_cons_succ,Nat.reduceAdd,Nat.reduceEqDiff,reduceIte,Option.getD_some,Option.getD_none]
              refine Tail.zA0 (by rfl) (by rfl) ?_
              refine ⟨.agg #[.string name,.int .i64 nm,z 8,.int .i64 sl],fun D w' hd hp hJ=>?_,?_⟩
              · have h8:D 8=true:=hd 8 (by kernel_rfl)
                obtain ⟨a',c',e',_⟩:=hJ.2.1 h8
                generalize z 8=z8 at e' ⊢
                subst e'
                go_simp <;> with_reducible rfl
              simp only [Act.put,List.setIfInBounds_toArray,List.set_cons_zero,List.set_cons_succ,Nat.reduceAdd,Nat.reduceEqDiff,reduceIte,Option.getD_some,Option.getD_none]
              refine Tail.zAT (by rfl) (by rfl) ?_ ?_
              · apply Exists.intro
                apply Exists.intro
                refine ⟨fun w'=>?_,?_⟩
                · go_simp <;> exact ⟨rfl,rfl⟩
                intro D z' w' hD hz hd hp hJ
                have h8:D 8=true:=hd 8 (by kernel_rfl)
                obtain ⟨a',c',e',hdz⟩:=hJ.2.1 h8
                rw [hz 8 h8,e']
                rw [e'] at hdz
                refine (zER w' lv ps ⟨name,nm,a',data.length,c',sl⟩ (((H9.out.1.below hJ.1).row).mono (fun b h=>h.elim)) HZ.out.2.2.1).mono ?_
                rintro e w'' ⟨v8,rfl,ho8,hb8⟩
                refine ⟨v8,rfl,fun c hc=>by simp at hc,hJ.1.trans (hb8.mono hJ.1.size),fun _=>⟨a',c',?_,?_⟩,fun _=>⟨⟨name,nm,a',data.length,c',sl⟩,rfl,rfl,rfl,rfl,?_,?_⟩⟩
                · simpa [Tail.zAb] using e'
                · have:=hdz.chg (S:=fun _=>False) (Chg.of_below hb8) (fun _ h=>h.elim)
                  simpa [Tail.zAb,e'] using this
                · exact hdz.chg (S:=fun _=>False) (Chg.of_below hb8) (fun _ h=>h.elim)
                · have:=ho8.lower hJ.1.size
                  simpa [Tail.zAb] using this
              simp only [Act.put,List.setIfInBounds_toArray,List.set_cons_zero,List.set_cons_succ,Nat.reduceAdd,Nat.reduceEqDiff,reduceIte,Option.getD_some,Option.getD_none]
              refine Tail.zI (by rfl) (by rfl) ?_
              apply Exists.intro
              refine ⟨fun w=>?_,?_⟩
              · go_simp <;> with_reducible rfl
              simp only [Act.put,List.setIfInBounds_toArray,List.set_cons_zero,List.set_cons_succ,Nat.reduceAdd,Nat.reduceEqDiff,reduceIte,Option.getD_some,Option.getD_none]
              refine Tail.zI (by rfl) (by rfl) ?_
              apply Exists.intro
              refine ⟨fun w=>?_,?_⟩
              · go_simp <;> with_reducible rfl
              simp only [Act.put,List.setIfInBounds_toArray,List.set_cons_zero,List.set_cons_succ,Nat.reduceAdd,Nat.reduceEqDiff,reduceIte,Option.getD_some,Option.getD_none]
              intro w8 hJ
              obtain ⟨p8,hp1,hp2,hp3,hp4,hdz8,ho8⟩:=hJ.2.2 rfl
              have hb8:=hJ.1
              clear hJ
              generalize z 11=v8 at ho8 ⊢
              generalize z 8=v7
              have h9:=H9.out.1.below hb8
              have c3':w8.cell? ⟨q,3,none⟩=some lv:=h9.blk.cell 3
              have f3':=h9.blk.free 3
              have hrow:zB3 w8 N v8 (zAf RP.name ps p8):=zB3.own ho8 (fun g hg hNg=>by have:=ho8.ge hg;have:=H.out.2.2.1 g hNg;have:=HZ.out.2.2.2;omega)
              have hrec:=RPs.put (x:=⟨name,nm,data,sl⟩) h9.recs hp1 hp2 hp3 hp4 hdz8
              have hl:=HL.out.1 sl HSL.out.1
              rw [← HO.out.2] at hl
              have hfin:=h9.relist hrow hrec hl (fun x hx=>by
               rcases zFI _ _ _ x hx with h | h
               · exact H9.out.1.small x h
               · rw [h];exact ⟨Nat.le_trans HZ.out.2.1 (by decide),hn1,HSL.out.2⟩)
              obtain ⟨a8,c8,e8⟩:=ho8.slice
              subst e8
              have HFIN:=Lib.hid (And.intro hfin (Chg.set (S:=zAY q r B) (a:=⟨q,3,none⟩) (H9.out.2.1.trans (Chg.of_below hb8)) (.inl rfl) (.slice a8 (zAf RP.name ps p8).length c8)))
              clear h9 hrow hrec hl hfin ho8 hb8 hp1 hp2 hp3 hp4 hdz8 c3 f3
              go_wp2_with fail
              go_ret
              rw [HQ.out]
              exact ⟨rfl,⟨_,_,HFIN.out.1⟩,HFIN.out.2⟩
          · have t2:(z != 0)=true:=by simp [hz0]
            have h6:=H6.out.1
            rw [t2] at h6
            have HR6:=Lib.hid (show zAA w6 N q r B lv ps (D'.wr (A:Int) [1]) slots room L true from by simpa using h6)
            have HQ:=Lib.hid (show zAX slots room D L false name data=(8,D'.wr (A:Int) [1],L,true) from by
             unfold zAX
             rw [if_neg (by decide),if_neg (by rw [H1.out.2.2.2];decide),HSL.out.1]
             simp only []
             rw [← HO.out.2,← H3.out.2.2.2.2.1,← H3.out.2.2.2.2.2.2,HC.out.1,if_neg (show ¬ (true=false) from by decide),if_pos (by have:=H6.out.2.2;intro e;exact hz0 (this.trans e))])
            clear h6 hz0
            go_wp2_with fail
            go_ret
            rw [HQ.out]
            exact ⟨lv,ps,rfl,HR6.out,H6.out.2.1⟩
end Go.Proofs.YtdlkghdfkjdajaaGreatDoor
end
section
namespace Go.Mem
open Go Go.RowKit Gf Go.Proofs.YtdlkghdfkjdajaaGreatDoor
set_option linter.unusedVariables false
end Go.Mem
namespace Go.Proofs.YtdlkghdfkjdajaaGreatDoor
open Go Go.RowKit Go.Mem Gf
set_option linter.unusedVariables false
set_option linter.unusedSimpArgs false
attribute [local go_sem ↓] Go.wp_at_zero Go.wp_at_succ
end Go.Proofs.YtdlkghdfkjdajaaGreatDoor
end
section
namespace Go.Proofs.YtdlkghdfkjdajaaGreatDoor
open Go Go.RowKit Go.Mem Gf
set_option linter.unusedVariables false
attribute [local go_sem ↓] Go.wp_at_zero Go.wp_at_succ
end Go.Proofs.YtdlkghdfkjdajaaGreatDoor
end
section
namespace Go.Proofs.YtdlkghdfkjdajaaGreatDoor
open Go Go.RowKit Go.Mem Gf
attribute [local go_sem ↓] Go.wp_at_zero Go.wp_at_succ
theorem zJa {w:World} {b o n c:Nat} {bs:List UInt8} (h:Bys w (.slice (some ⟨b,o,none⟩) n c) bs) (k m:Nat) (hk:k+m≤bs.length):Bys w (.slice (if c=k then some ⟨b,o,none⟩ else some ⟨b,o+k,none⟩) m (c - k)) ((bs.drop k).take m):=by
 have hc:n≤c∧c≤maxLen∧n=bs.length:=by
  obtain ⟨a,cap,e,h1,h2,_⟩:=h
  injection e with e1 e2 e3
  subst e2 e3
  exact ⟨h1,h2,rfl⟩
 by_cases hck:c=k
 · have hm:m=0:=by omega
   subst hm
   rw [if_pos hck,List.take_zero]
   exact ⟨_,c - k,rfl,Nat.zero_le _,by omega,fun hp=>by simp at hp⟩
 · rw [if_neg hck]
   exact zCD h k m (c - k) hk (by omega) (by omega)
def TakeP (bs:List UInt8) (w:World) (e:Ending) (w':World):Prop :=
 ∃ vx vy d,w'=w.drewN d∧((Cod.zy bs=none∧e=.returned (.tuple #[vx,vy,.bool false])∧vx=.slice none 0 0∧vy=.slice none 0 0) ∨
   ∃ x y,Cod.zy bs=some (x,y)∧e=.returned (.tuple #[vx,vy,.bool true])∧Bys w vx x∧Bys w vy y)
theorem zL5 {bs:List UInt8} (h:Cod.zDB bs):Cod.zy bs=none:=by
 cases e:Cod.zy bs with
 | none=>rfl
 | some p=>exact absurd h (Cod.zKg e).1
theorem zA6 {bs:List UInt8} (h:Cod.zDB bs) (w:World):TakeP bs w (.returned (.tuple #[.slice none 0 0,.slice none 0 0,.bool false])) w :=
 ⟨_,_,0,rfl,.inl ⟨zL5 h,rfl,rfl,rfl⟩⟩
set_option maxRecDepth 100000 in
set_option maxHeartbeats 4000000 in
theorem zCv (v:Value) (bs:List UInt8) (w:World) (h:Bys w v bs) (hrl:bs.length≤1000000000000) :
  Calls Tryz.prog 77 #[v] w (TakeP bs w):=by
 obtain ⟨a,c,rfl⟩:=h.eq_slice
 have hsz:=Cod.zLX bs
 have hbad:(Cod.zDB bs)=((Cod.zx bs).2=0∨bs.length≤(Cod.zx bs).2∨bs.getD (Cod.zx bs).2 0≠58∨(bs.getD 0 0=48∧1 < (Cod.zx bs).2)∨16384 < (Cod.zx bs).1∨bs.length < (Cod.zx bs).2+(Cod.zx bs).1+2∨bs.getD ((Cod.zx bs).2+1+(Cod.zx bs).1) 0≠44):=rfl
 obtain ⟨D,hD⟩:∃ D,D=(Cod.zx bs).2:=⟨_,rfl⟩
 obtain ⟨N,hN⟩:∃ N,N=(Cod.zx bs).1:=⟨_,rfl⟩
 rw [← hD,← hN] at hbad
 rw [← hD,← hN] at hsz
 obtain ⟨l,hl'⟩:∃ l,l=bs.length:=⟨_,rfl⟩
 rw [← hl'] at hrl hsz hbad
 obtain ⟨hN1,hD6,hDl⟩:=hsz
 have hcap:l≤c∧c≤maxLen:=by
  obtain ⟨_,cap,e,h1,h2,_⟩:=id h
  injection e with e1 e2 e3
  rw [hl',e3]
  exact ⟨h1,h2⟩
 have hc1:=hcap.1
 have hc2:=hcap.2
 unfold maxLen at hc2
 have H:=Lib.hid h
 have HL:=Lib.hid hl'
 have HD:=Lib.hid (And.intro hD hN)
 have HB:=Lib.hid hbad
 rw [← hl'] at h ⊢
 clear hl' hD hN hcap hbad
 go_enter Tryz.func77,Tryz.ntmps77
 go_upto_block 0 with fail
 go_cut [5,6] (fun s5 s6 wx=>s5=.int .i64 D∧s6=.int .i64 N∧w=wx)
 case first =>
  go_wp2_with fail
  go_loop [5,6] (fun u v=>∃ n d:Nat,d≤l∧d≤6∧n≤1000000∧u=.int .i64 d∧v=.int .i64 n∧Hid (n < 10 ^ d)∧Hid (Cod.zx bs=Cod.zAG (bs.drop d) n d)) (fun u _=>l - (intOf u).toNat)
  case atStart=>exact ⟨0,0,by omega,by omega,by omega,rfl,rfl,(by decide:0 < 10 ^ 0),rfl⟩
  case round =>
   obtain ⟨n,d,hd,hd6,hnb,rfl,rfl,Hb,Hz⟩:=hrel
   by_cases h0:d < l
   · obtain ⟨b,o,u,rfl,Hu,c1,hu⟩:=h.at d (by have:=HL.out;omega)
     have i0:(0:Int)≤(d:Int):=by omega
     have i1:(d:Int) < (l:Int):=by omega
     by_cases hc:48≤u.toNat∧u.toNat≤57∧d < 6
     · obtain ⟨h1,h2,h3⟩:=hc
       have Hfin:=Lib.hid (show Cod.zx bs=Cod.zAG (bs.drop (d+1)) (10*n+(u.toNat - 48)) (d+1) from by rw [Hz.out];exact Cod.zG3 (zC1 Hu.out) ⟨h1,h2,h3⟩)
       have hnb2:10*n+(u.toNat - 48) < 10 ^ (d+1):=by rw [Nat.pow_succ];have:=Hb.out;omega
       have hnb3:10*n+(u.toNat - 48)≤1000000:=by
        have:10 ^ (d+1)≤10 ^ 6:=Nat.pow_le_pow_right (by decide) (by omega)
        omega
       have HNB:=Lib.hid hnb2
       clear hnb2
       go_wp2
       exact ⟨⟨10*n+(u.toNat - 48),d+1,by omega,by omega,hnb3,by go_num,congrArg (Value.int .i64) (by omega),HNB.out,Hfin.out⟩,by simp [intOf] <;> omega⟩
     · have Hfin:=Lib.hid (show Cod.zx bs=(n,d) from by rw [Hz.out];exact Cod.zG4 fun c r e=>by rw [zC1 Hu.out] at e;injection e with e _;subst e;exact hc)
       have h1:(u.toNat < 48)∨(48≤u.toNat∧57 < u.toNat)∨(48≤u.toNat∧u.toNat≤57∧6≤d):=by omega
       clear hc
       rcases h1 with h1 | ⟨h1,h2⟩ | ⟨h1,h2,h3⟩
       all_goals
        go_wp2
        go_meet
        exact ⟨by rw [HD.out.1,Hfin.out],by rw [HD.out.2,Hfin.out],rfl⟩
   · obtain rfl:d=l:=by omega
     have e:=Hz.out
     rw [List.drop_eq_nil_of_le (by have:=HL.out;omega)] at e
     have E:=Lib.hid e
     clear e
     go_wp2
     go_meet
     exact ⟨by rw [HD.out.1,E.out];rfl,by rw [HD.out.2,E.out];rfl,rfl⟩
 case rest =>
 obtain ⟨rfl,rfl,rfl⟩:=hcut
 by_cases b1:D=0
 · have t0:((D:Int) == 0)=true:=by simp [b1]
   have HF:=Lib.hid (show Cod.zDB bs from by rw [HB.out];exact .inl b1)
   clear b1
   go_wp2
   go_ret3
   exact zA6 HF.out _
 have t0:((D:Int) == 0)=false:=by simp;omega
 by_cases b2:l≤D
 · have t1:decide (l≤D)=true:=by simpa using b2
   have t2:decide ((l:Int)≤(D:Int))=true:=by simpa using b2
   have HF:=Lib.hid (show Cod.zDB bs from by rw [HB.out];exact .inr (.inl b2))
   go_wp2
   go_ret3
   exact zA6 HF.out _
 have t1:decide (l≤D)=false:=by simp;omega
 have t2:decide ((l:Int)≤(D:Int))=false:=by simp;omega
 obtain ⟨b,o,rfl,c0⟩:=Bys.byte H.out 0 (by have:=HL.out;omega)
 obtain ⟨b',o',e1,c1⟩:=Bys.byte H.out D (by have:=HL.out;omega)
 cases e1
 obtain ⟨u0,hu0⟩:∃ u0,u0=bs.getD 0 0:=⟨_,rfl⟩
 obtain ⟨u1,hu1⟩:∃ u1,u1=bs.getD D 0:=⟨_,rfl⟩
 obtain ⟨u2,hu2⟩:∃ u2,u2=bs.getD (D+1+N) 0:=⟨_,rfl⟩
 rw [← hu0] at c0 HB
 rw [← hu1] at c1 HB
 rw [← hu2] at HB
 replace c0:w.cell? ⟨b,o,none⟩=some (.int .u8 (u0.toNat:Nat)):=c0
 have HU:=Lib.hid hu2
 clear hu0 hu1 hu2 h
 have i1:(0:Int) < (l:Int):=by omega
 have i2:0 < l:=by omega
 have i3:(D:Int) < (l:Int):=by omega
 have i4:D < l:=by omega
 by_cases b3:u1=58
 rotate_left
 · have t3:(((u1.toNat:Nat):Int) == 58)=false:=zEI (k:=58) (by decide) b3
   have t3':(((u1.toNat:Nat):Int) != 58)=true:=zDS (k:=58) (by decide) b3
   have HF:=Lib.hid (show Cod.zDB bs from by rw [HB.out];exact .inr (.inr (.inl b3)))
   clear b3
   go_wp2
   go_ret3
   exact zA6 HF.out _
 replace c1:w.cell? ⟨b,o+D,none⟩=some (.int .u8 58):=by rw [c1,b3];rfl
 replace b3:=Lib.hid b3
 have hz:(u0=48∧1 < D)∨(¬ (u0=48∧1 < D)):=Classical.em _
 rcases hz with hz | hz
 · replace c0:w.cell? ⟨b,o,none⟩=some (.int .u8 48):=by rw [c0,hz.1];rfl
   have t4:decide ((1:Int) < (D:Int))=true:=by simp;omega
   have HF:=Lib.hid (show Cod.zDB bs from by rw [HB.out];exact .inr (.inr (.inr (.inl hz))))
   clear hz
   go_wp2
   go_ret3
   exact zA6 HF.out _
 have hz2:(u0=48∧D≤1)∨u0≠48:=by
  by_cases e:u0=48
  · exact .inl ⟨e,Nat.not_lt.1 fun h=>hz ⟨e,h⟩⟩
  · exact .inr e
 have H4:=Lib.hid hz
 clear hz
 have t4:(u0=48→decide ((1:Int) < (D:Int))=false):=fun e=>by
  rcases hz2 with h | h
  · have:=h.2
    simp;omega
  · exact absurd e h
 by_cases b5:16384 < N
 · have t5:decide ((16384:Int) < (N:Int))=true:=by simp;omega
   have HF:=Lib.hid (show Cod.zDB bs from by rw [HB.out];exact .inr (.inr (.inr (.inr (.inl b5)))))
   rcases hz2 with ⟨hz,hz1⟩ | hz
   · replace c0:w.cell? ⟨b,o,none⟩=some (.int .u8 48):=by rw [c0,hz];rfl
     replace t4:=t4 hz
     clear hz
     go_wp2
     go_ret3
     exact zA6 HF.out _
   · have t6:(((u0.toNat:Nat):Int) == 48)=false:=zEI (k:=48) (by decide) hz
     clear hz t4
     go_wp2
     go_ret3
     exact zA6 HF.out _
 have t5:decide ((16384:Int) < (N:Int))=false:=by simp;omega
 by_cases b6:l < D+N+2
 · have t7:decide ((l:Int) < (D:Int)+(N:Int)+2)=true:=by simp;omega
   have HF:=Lib.hid (show Cod.zDB bs from by rw [HB.out];exact .inr (.inr (.inr (.inr (.inr (.inl b6))))))
   rcases hz2 with ⟨hz,hz1⟩ | hz
   · replace c0:w.cell? ⟨b,o,none⟩=some (.int .u8 48):=by rw [c0,hz];rfl
     replace t4:=t4 hz
     clear hz
     go_wp2
     go_ret3
     exact zA6 HF.out _
   · have t6:(((u0.toNat:Nat):Int) == 48)=false:=zEI (k:=48) (by decide) hz
     clear hz t4
     go_wp2
     go_ret3
     exact zA6 HF.out _
 have t7:decide ((l:Int) < (D:Int)+(N:Int)+2)=false:=by simp;omega
 obtain ⟨b',o',e1,c2⟩:=Bys.byte H.out (D+1+N) (by have:=HL.out;omega)
 cases e1
 rw [← HU.out] at c2
 have i5:(D:Int)+1+(N:Int) < (l:Int):=by omega
 have i6:(0:Int)≤(D:Int)+1+(N:Int):=by omega
 have q1:((D:Int)+1+(N:Int)).toNat=D+1+N:=by omega
 by_cases b7:u2=44
 rotate_left
 · have t3:(((u2.toNat:Nat):Int) == 44)=false:=zEI (k:=44) (by decide) b7
   have t3':(((u2.toNat:Nat):Int) != 44)=true:=zDS (k:=44) (by decide) b7
   have HF:=Lib.hid (show Cod.zDB bs from by rw [HB.out];exact .inr (.inr (.inr (.inr (.inr (.inr b7))))))
   clear b7
   rcases hz2 with ⟨hz,hz1⟩ | hz
   · replace c0:w.cell? ⟨b,o,none⟩=some (.int .u8 48):=by rw [c0,hz];rfl
     replace t4:=t4 hz
     clear hz
     go_wp2
     go_ret3
     exact zA6 HF.out _
   · have t6:(((u0.toNat:Nat):Int) == 48)=false:=zEI (k:=48) (by decide) hz
     clear hz t4
     go_wp2
     go_ret3
     exact zA6 HF.out _
 replace c2:w.cell? ⟨b,o+(D+1+N),none⟩=some (.int .u8 44):=by rw [c2,b7];rfl
 have hgood:¬ Cod.zDB bs:=by
  rw [HB.out]
  rintro (h | h | h | h | h | h | h)
  · exact b1 h
  · exact b2 h
  · exact h b3.out
  · exact H4.out h
  · exact b5 h
  · exact b6 h
  · exact h b7
 replace b7:=Lib.hid b7
 have HT:=(Cod.zGM hgood).2
 rw [← HD.out.1,← HD.out.2] at HT
 have hX:Bys w (.slice (if c=D+1 then some ⟨b,o,none⟩ else some ⟨b,o+(D+1),none⟩) N (c - (D+1))) ((bs.drop (D+1)).take N):=zJa H.out (D+1) N (by have:=HL.out;omega)
 have hY:Bys w (.slice (if c=D+N+2 then some ⟨b,o,none⟩ else some ⟨b,o+(D+N+2),none⟩) (l - (D+N+2)) (c - (D+N+2))) (bs.drop (D+N+2)):=by
  have:=zJa H.out (D+N+2) (l - (D+N+2)) (by have:=HL.out;omega)
  rwa [List.take_of_length_le (by rw [List.length_drop];have:=HL.out;omega)] at this
 have HXY:=Lib.hid (And.intro HT (And.intro hX hY))
 have i7:(D:Int)+1+(N:Int)≤(c:Int):=by omega
 have i8:(D:Int)+(N:Int)+2≤(l:Int):=by omega
 have i9:(D:Int)+1≤(D:Int)+1+(N:Int):=by omega
 have i10:¬ (c=D+1):=by omega
 have x1:IntKind.i64.wrap ((D:Int)+1)=(D:Int)+1:=IntWalk.i64_in _ (by omega)
 have x2:IntKind.i64.wrap ((D:Int)+1+(N:Int))=(D:Int)+1+(N:Int):=IntWalk.i64_in _ (by omega)
 have x3:IntKind.i64.wrap ((D:Int)+(N:Int))=(D:Int)+(N:Int):=IntWalk.i64_in _ (by omega)
 have x4:IntKind.i64.wrap ((D:Int)+(N:Int)+2)=(D:Int)+(N:Int)+2:=IntWalk.i64_in _ (by omega)
 have x5:((D:Int)+(N:Int)+2).toNat=D+N+2:=by omega
 have x6:((D:Int)+1).toNat=D+1:=by omega
 have x7:(0:Int)≤(D:Int)+1:=by omega
 have x8:(0:Int)≤(D:Int)+(N:Int)+2:=by omega
 rw [if_neg i10] at HXY
 clear hX hY HT hgood b1 b2 b5 b6
 rcases hz2 with ⟨hz,hz1⟩ | hz
 · replace c0:w.cell? ⟨b,o,none⟩=some (.int .u8 48):=by rw [c0,hz];rfl
   replace t4:=t4 hz
   clear hz
   by_cases hcc:c=D+N+2
   · have hcc2:(c=D+N+2)=True:=by simp [hcc]
     have HXZ:=Lib.hid (show Bys w (.slice (some ⟨b,o,none⟩) (l - (D+N+2)) (c - (D+N+2))) (bs.drop (D+N+2)) from by have:=HXY.out.2.2;rwa [if_pos hcc] at this)
     clear hcc
     go_upto_region 7 with fail
     go_quiet (fail)
     go_wp2
     go_ret3
     exact ⟨_,_,_,rfl,.inr ⟨_,_,HXY.out.1,rfl,HXY.out.2.1,HXZ.out⟩⟩
   · have HXZ:=Lib.hid (show Bys w (.slice (some ⟨b,o+(D+N+2),none⟩) (l - (D+N+2)) (c - (D+N+2))) (bs.drop (D+N+2)) from by have:=HXY.out.2.2;rwa [if_neg hcc] at this)
     go_upto_region 7 with fail
     go_quiet (fail)
     go_wp2
     go_ret3
     exact ⟨_,_,_,rfl,.inr ⟨_,_,HXY.out.1,rfl,HXY.out.2.1,HXZ.out⟩⟩
 · have t6:(((u0.toNat:Nat):Int) == 48)=false:=zEI (k:=48) (by decide) hz
   clear hz t4
   by_cases hcc:c=D+N+2
   · have hcc2:(c=D+N+2)=True:=by simp [hcc]
     have HXZ:=Lib.hid (show Bys w (.slice (some ⟨b,o,none⟩) (l - (D+N+2)) (c - (D+N+2))) (bs.drop (D+N+2)) from by have:=HXY.out.2.2;rwa [if_pos hcc] at this)
     clear hcc
     go_upto_region 7 with fail
     go_quiet (fail)
     go_wp2
     go_ret3
     exact ⟨_,_,_,rfl,.inr ⟨_,_,HXY.out.1,rfl,HXY.out.2.1,HXZ.out⟩⟩
   · have HXZ:=Lib.hid (show Bys w (.slice (some ⟨b,o+(D+N+2),none⟩) (l - (D+N+2)) (c - (D+N+2))) (bs.drop (D+N+2)) from by have:=HXY.out.2.2;rwa [if_neg hcc] at this)
     go_upto_region 7 with fail
     go_quiet (fail)
     go_wp2
     go_ret3
     exact ⟨_,_,_,rfl,.inr ⟨_,_,HXY.out.1,rfl,HXY.out.2.1,HXZ.out⟩⟩
end Go.Proofs.YtdlkghdfkjdajaaGreatDoor
end
