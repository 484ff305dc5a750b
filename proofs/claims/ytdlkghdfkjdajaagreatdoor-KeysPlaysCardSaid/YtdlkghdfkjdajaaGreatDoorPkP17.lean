/- Texts of this proof,packed: Ref10Get,Ref10Wr,Ref10List. -/
import Derived.Test.YtdlkghdfkjdajaaGreatDoorPkP16
import Derived.Test.YtdlkghdfkjdajaaGreatDoorPkP03
import Derived.Test.YtdlkghdfkjdajaaGreatDoorPkP10
import Derived.Test.YtdlkghdfkjdajaaGreatDoorPkP13
import Derived.Test.YtdlkghdfkjdajaaGreatDoorPkP06
section
namespace Go.Mem
open Go Go.RowKit Gf Go.Proofs.YtdlkghdfkjdajaaGreatDoor
def zAc (L:List zR) (died:Bool) (name:ByteArray):Option (List UInt8):=if died=true then none else match zAr L name L.length with
 | none=>none
 | some i=>(L[i]?).map (·.data)
theorem zCt {L:List zR} {name:ByteArray}:∀ {n i:Nat},zAr L name n=some i→i < n∧∃ x,L[i]?=some x∧(x.name.toList == name.toList)=true
 | 0,i,h=>by simp [zAr] at h
 | n+1,i,h=>by
   rw [zAr] at h
   split at h
   · rename_i j hj
     cases h
     have:=zCt hj
     exact ⟨by omega,this.2⟩
   · split at h
     · cases h
     · rename_i x hx
       split at h
       · rename_i he
         cases h
         exact ⟨by omega,x,hx,he⟩
       · cases h
def zDy (L:List zR) (i:Nat):Bool:=L.any fun x=>decide (x.slot=i)
def zAJ (L:List zR) (slots:Nat):Nat→Option Nat
 | 0=>none
 | k+1=>match zAJ L slots k with
   | some j=>some j
   | none=>if zDy L k=true then none else some k
end Go.Mem
namespace Go.Proofs.YtdlkghdfkjdajaaGreatDoor
open Go Go.RowKit Go.Mem Gf
set_option linter.unusedVariables false
attribute [local go_sem ↓] Go.wp_at_zero Go.wp_at_succ
set_option maxRecDepth 20000 in
set_option maxHeartbeats 1000000 in
theorem zGq (w:World) (N:Nat→Prop) (q r B:Nat) (lv:Value) (ps:List RP) (D:zA) (slots room:Nat) (L:List zR) (died:Bool) (h:zAA w N q r B lv ps D slots room L died) (name:ByteArray) :
  Calls Tryz.prog 79 #[.pointer (some ⟨q,0,none⟩),.string name] w fun e w' =>
   (zAc L died name=none∧e=.returned (.tuple #[.slice none 0 0,.bool false])∨∃ v bs,zAc L died name=some bs∧e=.returned (.tuple #[v,.bool true])∧zP 5 w' w.heap.size v bs)∧Below w.heap.size w w':=by
 have c3:w.cell? ⟨q,3,none⟩=some lv:=h.blk.cell 3
 have c4:w.cell? ⟨q,4,none⟩=some (.bool died):=h.blk.cell 4
 obtain ⟨a,c,rfl,h1,h2,h3⟩:=id h.row
 obtain ⟨n,hn⟩:∃ n,n=ps.length:=⟨_,rfl⟩
 have hL:L.length=n:=by rw [hn,h.recs.len]
 have hfew:=h.few
 have hs1:=h.s1
 rw [← hn] at c3 h1 h3
 have hnb:n≤1024:=by omega
 have H:=Lib.hid (And.intro h (And.intro hL (And.intro h3 hn)))
 clear h hn hL h3 h1 h2 hfew hs1
 go_enter Tryz.func79,Tryz.ntmps79
 go_wp2_with fail
 refine (zEP w N q r B _ ps D slots room L died H.out.1 name).mono ?_
 rintro e w1 ⟨rfl,rfl⟩
 cases hf:zAr L name L.length with
 | none =>
   have HQ:=Lib.hid (show zAc L died name=none from by unfold zAc;rw [hf];split <;> rfl)
   clear hf
   simp only [zBg]
   go_wp2_with fail
   go_ret2
   exact ⟨.inl ⟨HQ.out,rfl⟩,Below.refl _ _⟩
 | some i =>
   obtain ⟨hi,x,hx,_⟩:=zCt hf
   rw [H.out.2.1] at hi
   cases died with
   | true =>
     have HQ:=Lib.hid (show zAc L true name=none from by unfold zAc;rw [if_pos rfl])
     clear hf
     simp only [zBg]
     have i0:decide ((0:Int)≤(i:Int))=true:=by simp
     go_wp2_with fail
     go_ret2
     exact ⟨.inl ⟨HQ.out,rfl⟩,Below.refl _ _⟩
   | false =>
     have HQ:=Lib.hid (show zAc L false name=some x.data from by unfold zAc;rw [if_neg (by decide),hf];simp only [hx];rfl)
     obtain ⟨p,hp,e1,e2,e3,e4,hd⟩:=H.out.1.recs.at hx
     obtain ⟨b,off,ha,_,_,hc⟩:=H.out.2.2.1 (by omega)
     have cx:=hc i p hp 2 (.slice p.a p.l p.c) rfl
     subst ha
     have hd1:=hd.1
     obtain ⟨m,hm⟩:∃ m,m=x.data.length:=⟨_,rfl⟩
     rw [e4,← hm] at hd1 cx
     have i0:(0:Int)≤(i:Int):=by omega
     have i1:(i:Int) < (n:Int):=by omega
     have i2:decide ((0:Int)≤(i:Int))=true:=by simp
     have hml:m≤1000000:=by rw [hm];exact (H.out.1.small x (List.mem_of_getElem? hx)).1
     obtain ⟨pa,hpa⟩:∃ z,z=p.a:=⟨_,rfl⟩
     obtain ⟨pc,hpc⟩:∃ z,z=p.c:=⟨_,rfl⟩
     rw [← hpa,← hpc] at hd1 cx
     have HD:=Lib.hid (And.intro hd1 hm)
     clear hf hx hp hd hd1 hc e1 e2 e3 e4 hm hpa hpc
     simp only [zBg]
     go_wp2_with (at_builtin;refine zBL E8c rfl _ _ rfl (base:=w.heap.size) (bs:=[]) (news:=x.data) rfl rfl (zP.nil _ _ _) HD.out.1 ?q1 ?q2 ?_)
     case q1=>rw [List.length_nil,← HD.out.2];omega
     case q2=>exact Nat.le_refl _
     intro v4 w4 ho4 hg4
     have HO:=Lib.hid (And.intro ho4 (zAE hg4 rfl))
     obtain ⟨va,vc,ev⟩:=ho4.eq_slice
     clear ho4 hg4
     go_wp2_with fail
     go_ret2
     exact ⟨.inr ⟨v4,x.data,HQ.out,rfl,HO.out.1⟩,HO.out.2⟩
theorem zFO {L:List zR} {s:Nat}:∀ {n i:Nat},zAJ L s n=some i→i < n∧zDy L i=false
 | 0,i,h=>by simp [zAJ] at h
 | n+1,i,h=>by
   rw [zAJ] at h
   split at h
   · rename_i j hj
     cases h
     have:=zFO hj
     exact ⟨by omega,this.2⟩
   · split at h
     · cases h
     · rename_i hu
       cases h
       exact ⟨by omega,by simpa using hu⟩
set_option maxRecDepth 20000 in
set_option maxHeartbeats 2000000 in
theorem zFm (w:World) (N:Nat→Prop) (q r B:Nat) (lv:Value) (ps:List RP) (D:zA) (slots room:Nat) (L:List zR) (died:Bool) (h:zAA w N q r B lv ps D slots room L died) :
  Calls Tryz.prog 81 #[.pointer (some ⟨q,0,none⟩)] w fun e w'=>e=.returned (.int .i64 (zBg (zAJ L slots slots)))∧w=w':=by
 have c1:w.cell? ⟨q,1,none⟩=some (.int .i64 slots):=h.blk.cell 1
 have c3:w.cell? ⟨q,3,none⟩=some lv:=h.blk.cell 3
 obtain ⟨a,c,rfl,h1,h2,h3⟩:=id h.row
 obtain ⟨n,hn⟩:∃ n,n=ps.length:=⟨_,rfl⟩
 have hL:L.length=n:=by rw [hn,h.recs.len]
 have hfew:=h.few
 have hs1:=h.s1.2
 rw [← hn] at c3 h1 h3
 have hnb:n≤1024:=by omega
 have H:=Lib.hid (And.intro h (And.intro hL (And.intro h3 hn)))
 clear h hn hL h3 h1 h2 hfew
 go_enter Tryz.func81,Tryz.ntmps81
 go_wp2_with fail
 go_loopw [3] (fun v wr=>∃ i:Nat,i≤slots∧v=.int .i64 i∧Hid (zAJ L slots i=none)∧w=wr) (fun v _=>slots - (intOf v).toNat)
 case atStart=>exact ⟨0,Nat.zero_le _,rfl,rfl,rfl⟩
 case round =>
  obtain ⟨i,hi,rfl,hf,rfl⟩:=hrel
  by_cases h0:i < slots
  · have i0:decide ((i:Int) < (slots:Int))=true:=by simp;omega
    have i0':decide (i < slots)=true:=by simp;omega
    have HI:=Lib.hid h0
    clear h0
    go_upto_region 6 with fail
    go_loopw [4,19] (fun u v wr=>∃ k:Nat,k≤n∧v=.int .i64 k∧u=.bool ((L.take k).any fun x=>decide (x.slot=i))∧w=wr) (fun _ v _=>n - (intOf v).toNat)
    case atStart=>exact ⟨0,Nat.zero_le _,rfl,by simp,rfl⟩
    case round =>
     obtain ⟨k,hk,rfl,rfl,rfl⟩:=hrel
     by_cases h0:k < n
     · obtain ⟨x,hx⟩:∃ x,L[k]?=some x:=⟨L[k]'(by have:=H.out.2.1;omega),by simp⟩
       have hst:((L.take (k+1)).any fun x=>decide (x.slot=i))=(((L.take k).any fun x=>decide (x.slot=i)) || decide (x.slot=i)):=by
        rw [List.take_add_one,hx]
        simp
       obtain ⟨p,hp,e1,e2,e3,_⟩:=H.out.1.recs.at hx
       obtain ⟨b,off,ha,_,_,hc⟩:=H.out.2.2.1 (by omega)
       have cx:=hc k p hp 3 (.int .i64 p.slot) rfl
       rw [e3] at cx
       subst ha
       have k0:(0:Int)≤(k:Int):=by omega
       have k1:(k:Int) < (n:Int):=by omega
       have HX:=Lib.hid hst
       obtain ⟨u,hu⟩:∃ u,u=((L.take k).any fun x=>decide (x.slot=i)):=⟨_,rfl⟩
       rw [← hu] at hst ⊢
       have HU:=Lib.hid hst
       clear hst hx hp hc e1 e2 e3 hu HX
       cases u with
       | true =>
         have HV:=Lib.hid (show ((L.take (k+1)).any fun x=>decide (x.slot=i))=true from by rw [HU.out];rfl)
         go_wp2_with fail
         exact ⟨⟨k+1,by omega,by go_num,by rw [HV.out],trivial⟩,by simp [intOf] <;> omega⟩
       | false =>
         by_cases he:x.slot=i
         · have HV:=Lib.hid (show ((L.take (k+1)).any fun x=>decide (x.slot=i))=true from by rw [HU.out];simp [he])
           have t1:((x.slot:Int) == (i:Int))=true:=by simp;omega
           have t2:(x.slot == i)=true:=by simp;omega
           clear he
           go_wp2_with fail
           exact ⟨⟨k+1,by omega,by go_num,by rw [HV.out],trivial⟩,by simp [intOf] <;> omega⟩
         · have HV:=Lib.hid (show ((L.take (k+1)).any fun x=>decide (x.slot=i))=false from by rw [HU.out];simp [he])
           have t1:((x.slot:Int) == (i:Int))=false:=by simp;omega
           have t2:(x.slot == i)=false:=by simp;omega
           clear he
           go_wp2_with fail
           exact ⟨⟨k+1,by omega,by go_num,by rw [HV.out],trivial⟩,by simp [intOf] <;> omega⟩
     · obtain rfl:n=k:=by omega
       have hall:((L.take n).any fun x=>decide (x.slot=i))=zDy L i:=by
        rw [List.take_of_length_le (by have:=H.out.2.1;omega)];rfl
       obtain ⟨u,hu⟩:∃ u,u=((L.take n).any fun x=>decide (x.slot=i)):=⟨_,rfl⟩
       rw [← hu]
       have HU:=Lib.hid (hu.trans hall)
       clear hall hu h0 hk
       have k0:decide ((n:Int) < (n:Int))=false:=by simp
       have k0':decide (n < n)=false:=by simp
       cases u with
       | true =>
         have HV:=Lib.hid (show zAJ L slots (i+1)=none from by rw [zAJ,hf.out];simp only [if_pos HU.out.symm])
         go_wp2_with fail
         exact ⟨⟨i+1,by have:=HI.out;omega,by go_num,HV,trivial⟩,by have:=HI.out;simp [intOf];omega⟩
       | false =>
         have HV:=Lib.hid (show zAJ L slots slots=some i from by
          have h1:zAJ L slots (i+1)=some i:=by
           rw [zAJ,hf.out]
           simp only []
           rw [if_neg (by rw [← HU.out];decide)]
          have h2:∀ m,i+1≤m→zAJ L slots m=some i:=fun m hm=>by
           induction m with
           | zero=>omega
           | succ m ih =>
             rcases Nat.lt_or_ge i m with h' | h'
             · rw [zAJ,ih (by omega)]
             · obtain rfl:i=m:=by omega
               exact h1
          exact h2 slots (by have:=HI.out;omega))
         go_wp2_with fail
         go_ret
         exact ⟨by rw [HV.out];rfl,rfl⟩
  · obtain rfl:slots=i:=by omega
    clear h0 hi
    have i0:decide ((slots:Int) < (slots:Int))=false:=by simp
    have i0':decide (slots < slots)=false:=by simp
    go_wp2_with fail
    go_ret
    exact ⟨by rw [hf.out];rfl,rfl⟩
end Go.Proofs.YtdlkghdfkjdajaaGreatDoor
end
section
namespace Go.Mem
open Go Go.RowKit Gf Go.Proofs.YtdlkghdfkjdajaaGreatDoor
set_option linter.unusedVariables false
def zAY (q r B:Nat):Nat→Prop:=fun b=>b=q∨b=r∨b=B
section
variable {w w':World} {N S:Nat→Prop} {q r B slots room:Nat} {lv:Value} {ps:List RP} {D D':zA} {L:List zR} {died:Bool}
theorem zAA.foot (h:zAA w N q r B lv ps D slots room L died):∀ b,zAY q r B b→N b:=fun b hb=>by
 rcases hb with rfl | rfl | rfl
 · exact h.nq
 · exact h.nr
 · exact h.nB
theorem zAA.chg (h:zAA w N q r B lv ps D slots room L died) (hc:Chg S w w') (hs:∀ b,S b→b < w.heap.size→N b) (hf:∀ b,zAY q r B b→¬ S b):zAA w' N q r B lv ps D slots room L died :=
 { h with blk:=hc.blk h.blk (hf _ (.inl rfl)),disk:=h.disk.chg hc (hf _ (.inr (.inl rfl))) (hf _ (.inr (.inr rfl))),row:=h.row.chg hc hs,recs:=h.recs.chg hc hs }
theorem zAA.below (h:zAA w N q r B lv ps D slots room L died) (hb:Below w.heap.size w w'):zAA w' N q r B lv ps D slots room L died :=
 h.chg (S:=fun _=>False) (Chg.of_below hb) (fun _ h=>h.elim) (fun _ _ h=>h)
theorem zAA.redisk (h:zAA w N q r B lv ps D slots room L died) (hc:Chg (fun b=>b=r∨b=B) w w') (hd:zZ w' r B D') (hn:D'.n=D.n):zAA w' N q r B lv ps D' slots room L died :=
 { h with blk:=hc.blk h.blk (fun e=>e.elim h.qr h.qB),disk:=hd,row:=h.row.chg hc (fun b hb _=>h.foot b (.inr hb)),recs:=h.recs.chg hc (fun b hb _=>h.foot b (.inr hb)),n:=hn.trans h.n }
theorem zAA.die (h:zAA w N q r B lv ps D slots room L died):zAA (w.setCell ⟨q,4,none⟩ (.bool true)) N q r B lv ps D slots room L true:=by
 have hc:Chg (fun b=>b=q) w (w.setCell ⟨q,4,none⟩ (.bool true)):=Chg.set (S:=fun b=>b=q) (a:=⟨q,4,none⟩) (Chg.refl _ _) rfl _
 have hb:=h.blk.set 4 (.bool true)
 exact { h with blk:=hb,disk:=h.disk.chg hc (fun e=>h.qr e.symm) (fun e=>h.qB e.symm),row:=h.row.chg hc (fun b hb _=>by rw [hb];exact h.nq),recs:=h.recs.chg hc (fun b hb _=>by rw [hb];exact h.nq) }
theorem zAA.relist {lv':Value} {ps':List RP} {L':List zR} (h:zAA w N q r B lv ps D slots room L died) (hr:zB3 w N lv' ps') (hp:RPs w N ps' L') (hl:L'.length≤slots) (hs:∀ x∈L',x.data.length≤1000000∧x.num < 1000000000000∧x.slot < slots):zAA (w.setCell ⟨q,3,none⟩ lv') N q r B lv' ps' D slots room L' died:=by
 have hc:Chg (fun b=>b=q) w (w.setCell ⟨q,3,none⟩ lv'):=Chg.set (S:=fun b=>b=q) (a:=⟨q,3,none⟩) (Chg.refl _ _) rfl _
 have hb:=h.blk.set 3 lv'
 exact ⟨hb,h.disk.chg hc (fun e=>h.qr e.symm) (fun e=>h.qB e.symm),hr.chg hc (fun b hb _=>by rw [hb];exact h.nq),hp.chg hc (fun b hb _=>by rw [hb];exact h.nq),h.nq,h.nr,h.nB,h.qr,h.qB,h.n,h.s1,h.r1,hl,hs⟩
end
end Go.Mem
namespace Go.Proofs.YtdlkghdfkjdajaaGreatDoor
open Go Go.RowKit Go.Mem Gf
set_option linter.unusedVariables false
attribute [local go_sem ↓] Go.wp_at_zero Go.wp_at_succ
set_option maxRecDepth 20000 in
set_option maxHeartbeats 1000000 in
theorem zB6 (w:World) (N:Nat→Prop) (q r B:Nat) (lv:Value) (ps:List RP) (D:zA) (slots room:Nat) (L:List zR) (died:Bool) (h:zAA w N q r B lv ps D slots room L died) (i:Nat) (v:Value) (bs:List UInt8) (hb:Bys w v bs) (hkeep:∀ w',Chg (fun b=>b=B) w w'→Bys w' v bs) (hw:D.writes < 4611686018427387904) :
  Calls Tryz.prog 84 #[.pointer (some ⟨q,0,none⟩),.int .i64 i,v] w fun e w'=>e=.returned (.bool (!(died || (D.wres i bs.length != 0))))∧zAA w' N q r B lv ps (D.wr i bs) slots room L (died || (D.wres i bs.length != 0))∧Chg (zAY q r B) w w':=by
 have c0:w.cell? ⟨q,0,none⟩=some (.pointer (some ⟨r,0,none⟩)):=h.blk.cell 0
 obtain ⟨va,vc,rfl⟩:=hb.eq_slice
 obtain ⟨m,hm⟩:∃ m,m=bs.length:=⟨_,rfl⟩
 rw [← hm] at hb hkeep ⊢
 have H:=Lib.hid (And.intro h (And.intro hb (And.intro hkeep (And.intro hw hm))))
 clear h hb hkeep hw hm
 go_enter Tryz.func84,Tryz.ntmps84
 go_wp2_with fail
 refine (zDX r B D i _ bs w H.out.1.disk H.out.2.1 H.out.2.2.1 H.out.2.2.2.1).mono ?_
 rintro e w1 ⟨rfl,hd,hc⟩
 rw [← H.out.2.2.2.2]
 have h1:=H.out.1.redisk hc hd (zA.wr_n _ _ _)
 have c4:w1.cell? ⟨q,4,none⟩=some (.bool died):=h1.blk.cell 4
 have f4:=h1.blk.free 4
 obtain ⟨er,her⟩:∃ x,x=D.wres i m:=⟨_,rfl⟩
 rw [← her]
 have H1:=Lib.hid (And.intro h1 (hc.mono (T:=zAY q r B) (fun b hb=>.inr hb)))
 have HER:=Lib.hid her
 clear hd hc h1 her
 by_cases he:er=0
 · subst he
   cases died with
   | true =>
     go_wp2_with fail
     go_ret
     rw [← HER.out]
     exact ⟨rfl,H1.out.1,H1.out.2⟩
   | false =>
     go_wp2_with fail
     go_ret
     rw [← HER.out]
     exact ⟨rfl,H1.out.1,H1.out.2⟩
 · have t1:(er == 0)=false:=by simp [he]
   have t2:(er != 0)=true:=by simp [he]
   have HE:=Lib.hid (show (died || (er != 0))=true from by rw [t2];cases died <;> rfl)
   clear he
   go_wp2_with fail
   go_ret
   rw [← HER.out,HE.out]
   exact ⟨rfl,H1.out.1.die,Chg.set (S:=zAY q r B) (a:=⟨q,4,none⟩) H1.out.2 (.inl rfl) _⟩
set_option maxRecDepth 20000 in
set_option maxHeartbeats 2000000 in
theorem zES (name:ByteArray) (num:Nat) (v:Value) (data:List UInt8) (w:World) (hb:Bys w v data) (hn:name.size≤1000000) (hnum:num≤9223372036854775807) (hd:data.length≤1000000) :
  Calls Tryz.prog 83 #[.string name,.int .i64 num,v] w fun e w'=>∃ v',e=.returned v'∧zP 5 w' w.heap.size v' (Sto.text name num data)∧Below w.heap.size w w':=by
 have hconv:=Lib.run_convert_string_bytes (P:=Tryz.prog) w 9 41 5 name Tryz.underlying9 Tryz.underlying41 Tryz.underlying5
 obtain ⟨ho,hb1⟩:=zBl w 5 name (zAC (by omega))
 obtain ⟨w1,hw1⟩:∃ w1,w1=Lib.bytesWorld w 5 name:=⟨_,rfl⟩
 rw [← hw1] at ho hb1 hconv
 have HO:=Lib.hid ho;have HB1:=Lib.hid hb1;have HB:=Lib.hid hb
 have hs1:=hb1.size
 obtain ⟨da,dc,rfl⟩:=hb.eq_slice
 clear hw1 ho hb1 hb
 go_enter Tryz.func83,Tryz.ntmps83
 go_wp2_with fail
 refine (zEC num 4 hnum (by decide) (by decide) w1).mono ?_
 rintro e w2 ⟨pv,rfl,hp,hb2⟩
 have hb12:=HB1.out.trans (hb2.mono hs1)
 have hs2:=hb12.size
 obtain ⟨pa,pc,rfl⟩:=hp.eq_slice
 rw [Cod.zt] at hp ⊢
 have HP:=Lib.hid hp;have HB2:=Lib.hid hb2;have HB12:=Lib.hid hb12
 clear hp hb2 hb12 hconv
 go_wp2_with fail
 have hal:=fun (o:Obj)=>(Below.refl w2.heap.size w2).alloc (Nat.le_refl _) o
 refine (zEQ _ [name.data.toList,Cod.be 4 num,data] _ (rws3 (Blk.new _ _ _) (((HO.out.below HB2.out).bys).below (hal _)) ((HP.out.bys).below (hal _)) ((HB.out.below HB12.out).below (hal _))) ?_).mono ?_
 · simp only [Cod.zAU,List.length_append,Cod.zAL,Cod.zt,List.length_nil,Array.length_toList]
   have h1:Lib.nDigits name.data.size≤9:=by have:=zAw name.data.size (by show name.size≤_;omega);rw [Lib.itoa_nonneg,Lib.decDigits_length] at this;exact this
   have h2:Lib.nDigits 4≤9:=by rw [Lib.nDigits_small (by decide)];decide
   have h3:Lib.nDigits data.length≤9:=by have:=zAw data.length (by omega);rw [Lib.itoa_nonneg,Lib.decDigits_length] at this;exact this
   have h4:name.data.size≤1000000:=hn
   omega
 rintro e w3 ⟨v3,rfl,h3,hb3⟩
 go_wp2_with fail
 go_ret
 exact ⟨_,rfl,h3.mono (by simp;omega),(HB12.out.alloc hs2 _).trans (hb3.mono (by simp;omega))⟩
theorem zJQ (name:ByteArray) (data:List UInt8):(Sto.text name 1 data).length=(Sto.text name 0 data).length:=by
 simp only [Sto.text,Cod.zAU,List.length_append,Cod.zAL,Cod.zt,List.length_nil]
set_option maxRecDepth 20000 in
set_option maxHeartbeats 2000000 in
theorem zH6 (w:World) (N:Nat→Prop) (q r B:Nat) (lv:Value) (ps:List RP) (D:zA) (slots room:Nat) (L:List zR) (died:Bool) (h:zAA w N q r B lv ps D slots room L died) (name:ByteArray) (v:Value) (data:List UInt8) (hb:Bys w v data) (hn:name.size≤9223372036854775807) :
  Calls Tryz.prog 80 #[.pointer (some ⟨q,0,none⟩),.string name,v] w fun e w'=>e=.returned (.bool (zAH room name data))∧Below w.heap.size w w':=by
 have c1:w.cell? ⟨q,2,none⟩=some (.int .i64 room):=h.blk.cell 2
 have hr2:=h.r1.2
 have hdl:=hb.len
 obtain ⟨da,dc,rfl⟩:=hb.eq_slice
 obtain ⟨dl,hdl'⟩:∃ dl,dl=data.length:=⟨_,rfl⟩
 rw [← hdl'] at hb hdl ⊢
 obtain ⟨nl,hnl⟩:∃ nl,nl=name.size:=⟨_,rfl⟩
 have Hdl:=Lib.hid hdl';have Hnl:=Lib.hid hnl
 have HF:=Lib.hid (show zAH room name data=(decide (name.size≤16384) && (decide (data.length≤16384) && decide ((Sto.text name 0 data).length≤room*32))) from rfl)
 have HS:=Lib.hid h.blk;have HB:=Lib.hid hb
 clear h hb hdl' hnl
 by_cases h1:name.size≤16384
 · by_cases h2:dl≤16384
   · have HF2:=Lib.hid (show zAH room name data=decide ((Sto.text name 0 data).length≤room*32) from by rw [HF.out,decide_eq_true h1,decide_eq_true (by have:=Hdl.out;omega)];rfl)
     have q1:IntKind.i64.wrap ((room:Int)*32)=(room:Int)*32:=IntWalk.i64_in _ (by omega)
     have g1:decide ((name.size:Int)≤16384)=true:=by simp;omega
     have g1':decide (name.size≤16384)=true:=by simp;omega
     have g2:decide ((dl:Int)≤16384)=true:=by simp;omega
     have g2':decide (dl≤16384)=true:=by simp;omega
     go_enter Tryz.func80,Tryz.ntmps80
     go_wp2_with fail
     go_region_held3 (fun w'=>w'.cell? ⟨q,2,none⟩=some (.int .i64 room)) (first | exact c1 | assumption)
      (first
       | (go_at_call 83
          refine (zES name 1 _ data w.drew (HB.out.drewN 1) (by omega) (by decide) (by have:=Hdl.out;omega)).mono ?_
          rintro e w2 ⟨v2,rfl,ho2,hb2⟩
          have hb2:Below w.heap.size w w2:=zCN hb2
          have hh:w2.cell? ⟨q,2,none⟩=some (.int .i64 room):=(HS.out.kept hb2).cell 2
          obtain ⟨a2,c2,rfl⟩:=ho2.eq_slice))
     have HE:=Lib.hid (show decide (((Sto.text name 1 data).length:Int)≤(room:Int)*32)=zAH room name data from by rw [HF2.out,zJQ,decide_eq_decide];omega)
     go_wp2
     go_ret
     exact ⟨by rw [← HE.out];rfl,hb2⟩
   · have HF2:=Lib.hid (show zAH room name data=false from by rw [HF.out,decide_eq_false (p:=data.length≤16384) (by have:=Hdl.out;omega)];simp)
     have g1:decide ((name.size:Int)≤16384)=true:=by simp;omega
     have g1':decide (name.size≤16384)=true:=by simp;omega
     have g2:decide ((dl:Int)≤16384)=false:=by simp;omega
     have g2':decide (dl≤16384)=false:=by simp;omega
     go_enter Tryz.func80,Tryz.ntmps80
     go_upto_region 1 with fail
     go_quiet (fail)
     go_wp2
     go_ret
     exact ⟨by rw [HF2.out];rfl,below_drewN (Below.refl _ _) _⟩
 · have HF2:=Lib.hid (show zAH room name data=false from by rw [HF.out,decide_eq_false h1];rfl)
   have g1:decide ((name.size:Int)≤16384)=false:=by simp;omega
   have g1':decide (name.size≤16384)=false:=by simp;omega
   go_enter Tryz.func80,Tryz.ntmps80
   go_upto_region 1 with fail
   go_quiet (fail)
   go_wp2
   go_ret
   exact ⟨by rw [HF2.out];rfl,below_drewN (Below.refl _ _) _⟩
end Go.Proofs.YtdlkghdfkjdajaaGreatDoor
end
section
namespace Go.Mem
open Go Go.RowKit Gf Go.Proofs.YtdlkghdfkjdajaaGreatDoor
set_option linter.unusedVariables false
def zAF {α:Type} (nm:α→ByteArray) (r:α) (s:List α × Bool) (x:α):List α × Bool :=
 if ((nm x).toList == (nm r).toList)=true then (if s.2=false∧Op.bytesLess (nm x).toList (nm r).toList=false then (s.1++[r],true) else s)
 else ((if s.2=false∧Op.bytesLess (nm x).toList (nm r).toList=false then (s.1++[r],true) else s).1++[x],(if s.2=false∧Op.bytesLess (nm x).toList (nm r).toList=false then (s.1++[r],true) else s).2)
def zAM {α:Type} (nm:α→ByteArray) (l:List α) (r:α):List α × Bool:=l.foldl (zAF nm r) ([],false)
def zAf {α:Type} (nm:α→ByteArray) (l:List α) (r:α):List α:=if (zAM nm l r).2=true then (zAM nm l r).1 else (zAM nm l r).1++[r]
theorem zH2 {α β:Type} {na:α→ByteArray} {nb:β→ByteArray} (f:α→β) (r x:α) (hr:nb (f r)=na r) (hx:nb (f x)=na x) (s:List α × Bool) :
  zAF nb (f r) (s.1.map f,s.2) (f x)=((zAF na r s x).1.map f,(zAF na r s x).2):=by
 unfold zAF
 rw [hr,hx]
 simp only []
 split
 · split
   · simp
   · rfl
 · split
   · simp
   · simp
theorem zHz {α β:Type} {na:α→ByteArray} {nb:β→ByteArray} (f:α→β) (r:α) (hr:nb (f r)=na r) (l:List α) (hl:∀ x∈l,nb (f x)=na x) (s:List α × Bool) :
  (l.map f).foldl (zAF nb (f r)) (s.1.map f,s.2)=((l.foldl (zAF na r) s).1.map f,(l.foldl (zAF na r) s).2):=by
 induction l generalizing s with
 | nil=>rfl
 | cons x l ih =>
   rw [List.map_cons,List.foldl_cons,List.foldl_cons,zH2 f r x hr (hl x (by simp)) s]
   exact ih (fun y hy=>hl y (by simp [hy])) _
theorem zH0 {α β:Type} {na:α→ByteArray} {nb:β→ByteArray} (f:α→β) (r:α) (hr:nb (f r)=na r) (l:List α) (hl:∀ x∈l,nb (f x)=na x):zAf nb (l.map f) (f r)=(zAf na l r).map f:=by
 have h:=zHz f r hr l hl ([],false)
 have h':zAM nb (l.map f) (f r)=((zAM na l r).1.map f,(zAM na l r).2):=h
 unfold zAf
 rw [h']
 simp only []
 split
 · rfl
 · rw [List.map_append];rfl
theorem zH1 {α:Type} (nm:α→ByteArray) (r x:α) (s:List α × Bool):(zAF nm r s x).1.length≤s.1.length+2:=by
 unfold zAF
 split
 · split <;> simp
 · split <;> simp
theorem zEN {α:Type} (nm:α→ByteArray) (r:α) (l:List α) (s:List α × Bool):(l.foldl (zAF nm r) s).1.length≤s.1.length+2*l.length:=by
 induction l generalizing s with
 | nil=>simp
 | cons x l ih =>
   have h1:=ih (zAF nm r s x)
   have h2:=zH1 nm r x s
   rw [List.foldl_cons,List.length_cons]
   omega
theorem RPs.put {w:World} {N:Nat→Prop} {ps:List RP} {l:List zR} {p:RP} {x:zR} (h:RPs w N ps l) (h1:p.name=x.name) (h2:p.num=x.num) (h3:p.slot=x.slot) (h4:p.l=x.data.length) (h5:zA1 w N (.slice p.a p.l p.c) x.data):RPs w N (zAf RP.name ps p) (zAf zR.name l x):=by
 obtain ⟨q,rfl,rfl,hq⟩:=h
 have e1:=zH0 (na:=fun z:RP × zR=>z.1.name) (nb:=RP.name) (·.1) (p,x) rfl q (fun _ _=>rfl)
 have e2:=zH0 (na:=fun z:RP × zR=>z.1.name) (nb:=zR.name) (·.2) (p,x) h1.symm q (fun z hz=>(hq z hz).1.symm)
 refine ⟨zAf (fun z:RP × zR=>z.1.name) q (p,x),e1,e2,?_⟩
 have hstep:∀ (l:List (RP × zR)) (s:List (RP × zR) × Bool),(∀ z∈l,z.1.name=z.2.name∧z.1.num=z.2.num∧z.1.slot=z.2.slot∧z.1.l=z.2.data.length∧zA1 w N (.slice z.1.a z.1.l z.1.c) z.2.data)→(∀ z∈s.1,z.1.name=z.2.name∧z.1.num=z.2.num∧z.1.slot=z.2.slot∧z.1.l=z.2.data.length∧zA1 w N (.slice z.1.a z.1.l z.1.c) z.2.data) →
   ∀ z∈(l.foldl (zAF (fun z:RP × zR=>z.1.name) (p,x)) s).1,z.1.name=z.2.name∧z.1.num=z.2.num∧z.1.slot=z.2.slot∧z.1.l=z.2.data.length∧zA1 w N (.slice z.1.a z.1.l z.1.c) z.2.data:=by
  intro l
  induction l with
  | nil=>intro s _ hs;exact hs
  | cons y l ih =>
    intro s hl hs
    rw [List.foldl_cons]
    refine ih _ (fun z hz=>hl z (by simp [hz])) (fun z hz=>?_)
    have hpx:∀ z∈s.1++[(p,x)],z.1.name=z.2.name∧z.1.num=z.2.num∧z.1.slot=z.2.slot∧z.1.l=z.2.data.length∧zA1 w N (.slice z.1.a z.1.l z.1.c) z.2.data:=fun z hz=>by
     rcases List.mem_append.1 hz with hz | hz
     · exact hs z hz
     · rw [List.mem_singleton.1 hz];exact ⟨h1,h2,h3,h4,h5⟩
    unfold zAF at hz
    split at hz
    · split at hz
      · exact hpx z hz
      · exact hs z hz
    · simp only [] at hz
      rcases List.mem_append.1 hz with hz | hz
      · split at hz
        · exact hpx z hz
        · exact hs z hz
      · rw [List.mem_singleton.1 hz];exact hl y (by simp)
 have hf:=hstep q ([],false) hq (fun _ h=>by cases h)
 intro z hz
 unfold zAf at hz
 split at hz
 · exact hf z hz
 · rcases List.mem_append.1 hz with hz | hz
   · exact hf z hz
   · rw [List.mem_singleton.1 hz];exact ⟨h1,h2,h3,h4,h5⟩
end Go.Mem
namespace Go.Proofs.YtdlkghdfkjdajaaGreatDoor
open Go Go.RowKit Go.Mem Gf
set_option linter.unusedVariables false
theorem EK10:zCf Tryz.prog 97 101 (.agg #[.string ⟨#[]⟩,.int .i64 0,.slice none 0 0,.int .i64 0]) 4 56:=⟨Tryz.underlying97,by kernel_rfl,rfl,by decide⟩
theorem zGm (ps:List RP) (p x:RP) {i:Nat} (hx:ps[i]?=some x):zAM RP.name (ps.take (i+1)) p=zAF RP.name p (zAM RP.name (ps.take i) p) x:=by
 unfold zAM
 rw [List.take_add_one,hx]
 simp
attribute [local go_sem ↓] Go.wp_at_zero Go.wp_at_succ
set_option maxRecDepth 20000 in
set_option maxHeartbeats 4000000 in
theorem zER (w:World) (v:Value) (ps:List RP) (p:RP) (hrow:zB3 w (fun _=>False) v ps) (hn:ps.length≤1024) :
  Calls Tryz.prog 46 #[v,.agg (eR p).toArray] w fun e w'=>∃ v',e=.returned v'∧zL eR WfR 4 101 w' w.heap.size v' (zAf RP.name ps p)∧Below w.heap.size w w':=by
 have hrow':=hrow
 obtain ⟨a,c,rfl,h1,h2,h3⟩:=hrow
 obtain ⟨n,hnn⟩:∃ n,n=ps.length:=⟨_,rfl⟩
 rw [← hnn] at hn h1 h3 hrow' ⊢
 have HR:=Lib.hid (And.intro hrow' (And.intro h3 hnn))
 clear hrow' h3 hnn h2 h1
 go_enter Tryz.func46,Tryz.ntmps46
 go_upto_region 4 with fail
 obtain ⟨p3,hp3⟩:∃ q,q=w.heap.size:=⟨_,rfl⟩
 rw [← hp3]
 obtain ⟨w1,hw1⟩:∃ q,q=w.alloc (.cells (eR p).toArray 101):=⟨_,rfl⟩
 rw [← hw1]
 have hk3:Blk w1 p3 (eR p).toArray 101:=by rw [hw1,hp3];exact Blk.new _ _ _
 have hb1:Below w.heap.size w w1:=by rw [hw1];exact (Below.refl _ _).alloc (Nat.le_refl _) _
 have hz1:w1.heap.size=p3+1:=by rw [hw1,hp3];simp
 have H1:=Lib.hid (And.intro hk3 (And.intro hb1 (And.intro hz1 hp3)))
 clear hk3 hb1 hz1 hp3 hw1
 go_loopw [5,6,10] (fun u d v wr=>∃ (i:Nat),i≤n∧v=.int .i64 i∧d=.bool (zAM RP.name (ps.take i) p).2∧Hid (zL eR WfR 4 101 wr (p3+1) u (zAM RP.name (ps.take i) p).1∧Below w1.heap.size w1 wr)) (fun _ _ v _=>n - (intOf v).toNat)
 case atStart=>exact ⟨0,Nat.zero_le _,rfl,rfl,zL.nil _ _ _ _ _ _,Below.refl _ _⟩
 case round =>
  obtain ⟨i,hi,rfl,rfl,G⟩:=hrel
  have hwr:Below w.heap.size w wr:=H1.out.2.1.trans (G.out.2.mono H1.out.2.1.size)
  have HWR:=Lib.hid hwr
  clear hwr
  by_cases h0:i < n
  · obtain ⟨x,hx⟩:∃ x,ps[i]?=some x:=⟨ps[i]'(by have:=HR.out.2.2;omega),by simp⟩
    obtain ⟨b,off,ha,hbl,_,hc⟩:=HR.out.2.1 (by omega)
    have hst:=zGm ps p x hx
    obtain ⟨l1,hl1⟩:∃ l,l=(zAM RP.name (ps.take i) p).1:=⟨_,rfl⟩
    obtain ⟨d1,hd1⟩:∃ d,d=(zAM RP.name (ps.take i) p).2:=⟨_,rfl⟩
    have hlen:l1.length≤3000:=by
     have:=zEN RP.name p (ps.take i) ([],false)
     rw [hl1]
     unfold zAM
     simp only [List.length_nil,List.length_take] at this ⊢
     omega
    rw [← hd1]
    have hG:zL eR WfR 4 101 wr (p3+1) u5 l1:=by rw [hl1];exact G.out.1
    have hcx:∀ (w':World),Below w.heap.size w w'→∀ k y,(eR x)[k]?=some y→w'.cell? ⟨b,off+i*4+k,none⟩=some y:=fun w' hb k y hy=>by
     have:=hc i x hx k y hy
     have hk:w'.cell? ⟨b,off+i*4+k,none⟩=w.cell? ⟨b,off+i*4+k,none⟩:=by
      unfold World.cell?
      rw [hb.block b hbl]
     rw [hk];exact this
    have hcp:∀ (w':World),Below w1.heap.size w1 w'→∀ k y,(eR p)[k]?=some y→w'.cell? ⟨p3,k,none⟩=some y:=fun w' hb k y hy=>by
     rw [(H1.out.1.kept hb).cell,List.getElem?_toArray];exact hy
    subst ha
    have i0:(0:Int)≤(i:Int):=by omega
    have i1:(i:Int) < (n:Int):=by omega
    have HX:=Lib.hid (And.intro hst (And.intro hl1 (And.intro hd1 (And.intro hlen (And.intro hcx hcp)))))
    have HG:=Lib.hid (And.intro hG G.out.2)
    have HI:=Lib.hid h0
    clear hst hl1 hd1 hlen hG hcx hcp hx hc hbl h0
    obtain ⟨lt,hlt⟩:∃ q,q=Op.bytesLess x.name.toList p.name.toList:=⟨_,rfl⟩
    obtain ⟨eq,heq⟩:∃ q,q=(x.name.toList == p.name.toList):=⟨_,rfl⟩
    have HLT:=Lib.hid (And.intro hlt heq)
    go_upto_region 6 with fail
    go_cut [24] (fun vb wx=>vb=.bool (!d1 && !lt)∧Hid (∃ k,wx=wr.drewN k))
    case first =>
     have cx:=HX.out.2.2.2.2.1 wr HWR.out 0 _ rfl
     have cp:=HX.out.2.2.2.2.2 wr G.out.2 0 _ rfl
     rw [Nat.add_zero] at cx
     clear heq
     subst hlt
     cases d1 with
     | true =>
       go_quiet (fail)
       go_wp2_with fail
       go_meet
       exact ⟨rfl,_,rfl⟩
     | false =>
       go_quiet (fail)
       go_wp2_with fail
       go_meet
       exact ⟨rfl,_,rfl⟩
    case rest =>
    clear hlt heq
    obtain ⟨rfl,hk⟩:=hcut
    obtain ⟨w6,hw6⟩:∃ q,q=wc:=⟨_,rfl⟩
    subst hw6
    obtain ⟨k6,hk6⟩:=hk.out
    clear hk
    have hbk:Below wr.heap.size wr w6:=by rw [hk6];exact below_drewN (Below.refl _ _) _
    obtain ⟨b1,hb1⟩:∃ q,q=(!d1 && !lt):=⟨_,rfl⟩
    rw [← hb1]
    have hgc:zL eR WfR 4 101 w6 (p3+1) u5 l1:=by rw [hk6];exact HG.out.1.drewN _
    have HC:=Lib.hid (And.intro hgc (And.intro hbk hb1))
    clear hk6 hbk hb1 hgc
    go_upto_if 24 with fail
    go_cut [5,6] (fun u d wx=>d=.bool (b1 || d1)∧Hid (zL eR WfR 4 101 wx (p3+1) u (if b1 then l1++[p] else l1)∧Below w1.heap.size w1 wx))
    case first =>
     have hbc:Below w1.heap.size w1 w6:=HG.out.2.trans (HC.out.2.1.mono HG.out.2.size)
     have HBC:=Lib.hid hbc
     clear hbc
     cases b1 with
     | true =>
       have cp0:=HX.out.2.2.2.2.2 w6 HBC.out 0 _ rfl
       have cp1:=HX.out.2.2.2.2.2 w6 HBC.out 1 _ rfl
       have cp2:=HX.out.2.2.2.2.2 w6 HBC.out 2 _ rfl
       have cp3:=HX.out.2.2.2.2.2 w6 HBC.out 3 _ rfl
       have hll:=HX.out.2.2.2.1
       have hz:=HBC.out.size
       have hz1:=H1.out.2.2.1
       go_wp2_with (at_builtin;refine zAZ EK10 ecR rfl _ _ rfl (base:=p3+1) (l:=l1) p trivial rfl (mb:=w6.heap.size) (cx:=1) rfl (show Blk _ _ (eR p).toArray 101 from Blk.new _ _ _) (HC.out.1.chg (Chg.of_below (S:=fun _=>False) ((Below.refl _ _).alloc (Nat.le_refl _) _)) (fun _ _ h=>h)) (by omega) (by decide) ?z1 ?_)
       case z1=>first | omega | (simp;omega)
       intro v8 w8 ho8 hg8 hn8
       have hb8:Below w1.heap.size w1 w8:=by
        have hcc:=Chg.grown (S:=fun b=>p3+1≤b) (Chg.of_below (S:=fun b=>p3+1≤b) (HBC.out.trans (((Below.refl w6.heap.size w6).alloc (Nat.le_refl _) _).mono hz))) hg8 (fun k hk=>.inl (HC.out.1.ge hk))
        exact hcc.below (Nat.le_refl _) (fun k hk=>by omega)
       have H8:=Lib.hid (And.intro ho8 hb8)
       clear ho8 hg8 hn8 hb8
       go_wp2_with fail
       go_meet
       exact ⟨rfl,H8.out⟩
     | false =>
       go_wp2_with fail
       go_meet
       exact ⟨rfl,HC.out.1,HBC.out⟩
    case rest =>
    obtain ⟨rfl,hG2⟩:=hcut
    obtain ⟨w7,hw7⟩:∃ q,q=wc:=⟨_,rfl⟩
    subst hw7
    obtain ⟨v5,hv5⟩:∃ q,q=u5:=⟨_,rfl⟩
    subst hv5
    obtain ⟨l2,hl2⟩:∃ q,q=(if b1 then l1++[p] else l1):=⟨_,rfl⟩
    rw [← hl2] at hG2
    have hlen2:l2.length≤3001:=by
     have:=HX.out.2.2.2.1
     rw [hl2]
     split
     · rw [List.length_append,List.length_singleton];omega
     · omega
    have H7:=Lib.hid (And.intro hG2.out.1 (And.intro hG2.out.2 (And.intro (H1.out.2.1.trans (hG2.out.2.mono H1.out.2.1.size)) (And.intro hl2 hlen2))))
    clear hG2 hl2 hlen2
    have heq:=HLT.out.2
    go_upto_region 9 with fail
    go_cut [36] (fun vb wx=>vb=.bool (!eq)∧Hid (∃ k,wx=w7.drewN k))
    case first =>
     have cx:=HX.out.2.2.2.2.1 w7 H7.out.2.2.1 0 _ rfl
     have cp:=HX.out.2.2.2.2.2 w7 H7.out.2.1 0 _ rfl
     rw [Nat.add_zero] at cx
     subst heq
     go_quiet (fail)
     go_wp2_with fail
     go_meet
     exact ⟨by rfl,_,rfl⟩
    case rest =>
    clear heq
    obtain ⟨rfl,hk⟩:=hcut
    obtain ⟨w8,hw8⟩:∃ q,q=wc:=⟨_,rfl⟩
    subst hw8
    obtain ⟨k8,hk8⟩:=hk.out
    clear hk
    have hbk:Below w7.heap.size w7 w8:=by rw [hk8];exact below_drewN (Below.refl _ _) _
    have hgc:zL eR WfR 4 101 w8 (p3+1) v5 l2:=by rw [hk8];exact H7.out.1.drewN _
    have H9:=Lib.hid (And.intro hgc (And.intro (H7.out.2.1.trans (hbk.mono H7.out.2.1.size)) (H7.out.2.2.1.trans (hbk.mono H7.out.2.2.1.size))))
    clear hk8 hbk hgc
    have hfin:∀ (u:Value) (w':World),zL eR WfR 4 101 w' (p3+1) u (if eq then l2 else l2++[x])→Below w1.heap.size w1 w'→((b1 || d1)=(zAM RP.name (ps.take (i+1)) p).2)∧Hid (zL eR WfR 4 101 w' (p3+1) u (zAM RP.name (ps.take (i+1)) p).1∧Below w1.heap.size w1 w'):=fun u w' h1 h2=>by
     have hs:=HX.out.1
     have hb:=HC.out.2.2
     have hsp:zAM RP.name (List.take i ps) p=(l1,d1):=Prod.ext HX.out.2.1.symm HX.out.2.2.1.symm
     rw [hs,hsp]
     unfold zAF
     rw [← HLT.out.1,← HLT.out.2]
     rw [H7.out.2.2.2.1] at h1
     cases hd:d1 <;> cases hlt:lt <;> cases he:eq <;> rw [hd,hlt] at hb <;> subst hb <;> simp [he] at h1 ⊢ <;> exact ⟨h1,h2⟩
    have HFIN:=Lib.hid hfin
    clear hfin
    have HWX:=Lib.hid (And.intro (HX.out.2.2.2.2.1 w8 H9.out.2.2 0 _ rfl) (And.intro (HX.out.2.2.2.2.1 w8 H9.out.2.2 1 _ rfl) (And.intro (HX.out.2.2.2.2.1 w8 H9.out.2.2 2 _ rfl) (HX.out.2.2.2.2.1 w8 H9.out.2.2 3 _ rfl))))
    cases eq with
    | true =>
      go_wp2_with fail
      have hq:=HFIN.out v5 w8 H9.out.1 H9.out.2.1
      exact ⟨⟨i+1,by have:=HI.out;omega,by go_num,by rw [hq.1],hq.2⟩,by have:=HI.out;simp [intOf];omega⟩
    | false =>
      have cx0:=HWX.out.1
      have cx1:=HWX.out.2.1
      have cx2:=HWX.out.2.2.1
      have cx3:=HWX.out.2.2.2
      rw [Nat.add_zero] at cx0
      have hll:=H7.out.2.2.2.2
      have hz:=H9.out.2.1.size
      have hz1:=H1.out.2.2.1
      go_wp2_with (at_builtin;refine zAZ EK10 ecR rfl _ _ rfl (base:=p3+1) (l:=l2) x trivial rfl (mb:=w8.heap.size) (cx:=1) rfl (show Blk _ _ (eR x).toArray 101 from Blk.new _ _ _) (H9.out.1.chg (Chg.of_below (S:=fun _=>False) ((Below.refl _ _).alloc (Nat.le_refl _) _)) (fun _ _ h=>h)) (by omega) (by decide) ?z2 ?_)
      case z2=>first | omega | (simp;omega)
      intro v9 w9 ho9 hg9 hn9
      have hb9:Below w1.heap.size w1 w9:=by
       have hcc:=Chg.grown (S:=fun b=>p3+1≤b) (Chg.of_below (S:=fun b=>p3+1≤b) (H9.out.2.1.trans (((Below.refl w8.heap.size w8).alloc (Nat.le_refl _) _).mono hz))) hg9 (fun k hk=>.inl (H9.out.1.ge hk))
       exact hcc.below (Nat.le_refl _) (fun k hk=>by omega)
      have hq:=HFIN.out v9 w9 ho9 hb9
      have HQ:=Lib.hid hq
      clear ho9 hg9 hn9 hb9 hq cx0 cx1 cx2 cx3
      go_wp2_with fail
      exact ⟨⟨i+1,by have:=HI.out;omega,by go_num,by rw [HQ.out.1],HQ.out.2⟩,by have:=HI.out;simp [intOf];omega⟩
  · obtain rfl:n=i:=by omega
    have hall:ps.take n=ps:=List.take_of_length_le (by have:=HR.out.2.2;omega)
    rw [hall] at G ⊢
    obtain ⟨l1,hl1⟩:∃ l,l=(zAM RP.name ps p).1:=⟨_,rfl⟩
    obtain ⟨d1,hd1⟩:∃ d,d=(zAM RP.name ps p).2:=⟨_,rfl⟩
    rw [← hd1]
    have hlen:l1.length≤3000:=by
     have:=zEN RP.name p ps ([],false)
     rw [hl1]
     unfold zAM
     have h2:=HR.out.2.2
     simp only [List.length_nil] at this ⊢
     omega
    have hput:zAf RP.name ps p=if d1=true then l1 else l1++[p]:=by
     unfold zAf
     rw [← hl1,← hd1]
    have hG:zL eR WfR 4 101 wr (p3+1) u5 l1:=by rw [hl1];exact G.out.1
    have HP:=Lib.hid (And.intro hput (And.intro hlen (And.intro hG G.out.2)))
    clear h0 hi hall hl1 hd1 hlen hput hG G
    obtain ⟨v5,hv5⟩:∃ q,q=u5:=⟨_,rfl⟩
    subst hv5
    cases d1 with
    | true =>
      have HQ:=Lib.hid (show zAf RP.name ps p=l1 from by rw [HP.out.1,if_pos rfl])
      go_wp2_with fail
      go_ret
      rw [HQ.out]
      exact ⟨v5,rfl,HP.out.2.2.1.lower (by have:=H1.out.2.2.2;omega),HWR.out⟩
    | false =>
      have HQ:=Lib.hid (show zAf RP.name ps p=l1++[p] from by rw [HP.out.1,if_neg (by decide)])
      have cp0:wr.cell? ⟨p3,0,none⟩=some (.string p.name):=(H1.out.1.kept HP.out.2.2.2).cell 0
      have cp1:wr.cell? ⟨p3,1,none⟩=some (.int .i64 p.num):=(H1.out.1.kept HP.out.2.2.2).cell 1
      have cp2:wr.cell? ⟨p3,2,none⟩=some (.slice p.a p.l p.c):=(H1.out.1.kept HP.out.2.2.2).cell 2
      have cp3:wr.cell? ⟨p3,3,none⟩=some (.int .i64 p.slot):=(H1.out.1.kept HP.out.2.2.2).cell 3
      have hll:=HP.out.2.1
      have hz:=HP.out.2.2.2.size
      have hz1:=H1.out.2.2.1
      go_wp2_with (at_builtin;refine zAZ EK10 ecR rfl _ _ rfl (base:=p3+1) (l:=l1) p trivial rfl (mb:=wr.heap.size) (cx:=1) rfl (show Blk _ _ (eR p).toArray 101 from Blk.new _ _ _) (HP.out.2.2.1.chg (Chg.of_below (S:=fun _=>False) ((Below.refl _ _).alloc (Nat.le_refl _) _)) (fun _ _ h=>h)) (by omega) (by decide) ?z3 ?_)
      case z3=>first | omega | (simp;omega)
      intro v9 w9 ho9 hg9 hn9
      have hb9:Below w1.heap.size w1 w9:=by
       have hcc:=Chg.grown (S:=fun b=>p3+1≤b) (Chg.of_below (S:=fun b=>p3+1≤b) (HP.out.2.2.2.trans (((Below.refl wr.heap.size wr).alloc (Nat.le_refl _) _).mono hz))) hg9 (fun k hk=>.inl (HP.out.2.2.1.ge hk))
       exact hcc.below (Nat.le_refl _) (fun k hk=>by omega)
      have H9:=Lib.hid (And.intro ho9 hb9)
      clear ho9 hg9 hn9 hb9 cp0 cp1 cp2 cp3
      go_wp2_with fail
      go_ret
      rw [HQ.out]
      exact ⟨v9,rfl,H9.out.1.lower (by have:=H1.out.2.2.2;omega),H1.out.2.1.trans (H9.out.2.mono H1.out.2.1.size)⟩
end Go.Proofs.YtdlkghdfkjdajaaGreatDoor
end
