/- Texts of this proof,packed: StorePut,KeySign. -/
import Derived.Test.YtdlkghdfkjdajaaGreatDoorPkP07
import Derived.Test.YtdlkghdfkjdajaaGreatDoorPkP09
section
namespace Go.Mem
open Go Go.RowKit Gf
def Sto.slot (l:List Sto.Rec):Nat:=l.findIdx fun r=>!r.is
def St.chunks (at_:Nat):Nat→St→Nat→List UInt8→Int × St
 | 0,s,_,_=>(0,s)
 | n+1,s,k,b=>if b=[] then (0,s) else if s.writeE (at_+1+k) (b.take 32)≠0 then (s.writeE (at_+1+k) (b.take 32),s.writeS (at_+1+k) (b.take 32)) else St.chunks at_ n (s.writeS (at_+1+k) (b.take 32)) (k+1) (b.drop 32)
def St.num (s:St) (name:ByteArray):Nat:=match Sto.best s.recs name s.recs.length with
 | none=>1
 | some k=>(s.recs.getD k Sto.Rec.free).num+1
def St.laid (s:St) (p:Nat) (r:Sto.Rec):St:={ s with recs:=s.recs.set p r }
def St.done (s:St) (was:Option Nat):Int × St:=match was with
 | none=>(0,s)
 | some k=>(s.freeE k,s.freeS k)
end Go.Mem
namespace Go.Proofs.YtdlkghdfkjdajaaGreatDoor
open Go Go.RowKit Go.Mem Gf
def zk (s:St) (name:ByteArray) (data:List UInt8):Int × St :=
 if s.dead=true then (8,s) else if zAH s.room name data=false then (1,s) else if Sto.slot s.recs=s.recs.length then (3,s) else
 match St.chunks (Sto.slot s.recs*(s.room+1)) s.room s 0 (Sto.text name (s.num name) data) with
 | (e,s1)=>if e≠0 then (e,s1) else if s1.writeE (Sto.slot s.recs*(s.room+1)) [1]≠0 then (s1.writeE (Sto.slot s.recs*(s.room+1)) [1],s1.writeS (Sto.slot s.recs*(s.room+1)) [1]) else
   ((s1.writeS (Sto.slot s.recs*(s.room+1)) [1]).laid (Sto.slot s.recs) ⟨true,name,s.num name,data⟩).done (Sto.best s.recs name s.recs.length)
theorem zG9 {s:zA} {i:Int} {bs:List UInt8} (h:s.wres i bs.length=0):(s.wr i bs).writes=s.writes+1:=by
 unfold zA.wres at h
 split at h
 · rename_i h1
   split at h
   · cases h
   · rename_i h2
     split at h
     · cases h
     · rename_i h3
       unfold zA.wr zA.write
       rw [if_pos ⟨h1,by simpa using h2⟩,if_neg h3]
 · cases h
theorem zEh (l:List Sto.Rec):Sto.slot l≤l.length:=List.findIdx_le_length
theorem zJp {l:List Sto.Rec} {i:Nat} {r:Sto.Rec} (h:i < Sto.slot l) (hr:l[i]?=some r):r.is=true:=by
 have:=List.not_of_lt_findIdx h
 have hi:i < l.length:=Nat.lt_of_lt_of_le h (zEh l)
 rw [List.getElem?_eq_getElem hi] at hr
 cases hr
 simpa using this
theorem zDv {l:List Sto.Rec} {r:Sto.Rec} (hr:l[Sto.slot l]?=some r):r.is=false:=by
 have hi:Sto.slot l < l.length:=by
  rcases Nat.lt_or_ge (Sto.slot l) l.length with h | h
  · exact h
  · rw [List.getElem?_eq_none h] at hr;cases hr
 have:=List.findIdx_getElem (w:=hi)
 rw [List.getElem?_eq_getElem hi] at hr
 cases hr
 have e:(!(l[Sto.slot l]'hi).is)=true:=this
 simpa using e
theorem zLc (name:ByteArray) (a b:Nat) (data:List UInt8):(Sto.text name a data).length=(Sto.text name b data).length:=by
 unfold Sto.text
 simp only [Cod.zAU,List.length_append,Cod.zAL,Cod.zt]
theorem zEw {room:Nat} {name:ByteArray} {data:List UInt8} (h:zAH room name data=true) (num:Nat):(Sto.text name num data).length≤room*32:=by
 unfold zAH at h
 simp only [Bool.and_eq_true,decide_eq_true_eq] at h
 rw [zLc name num 0];exact h.2.2
def zA7 (N:Nat→Prop) (sb lb d L:Nat) (s:St) (name:ByteArray) (data:List UInt8) (w:World) (e:Ending) (w':World):Prop :=
 e=.returned (.int .i64 (zk s name data).1)∧zO w' N sb lb d L (zk s name data).2∧Chg (zAe sb lb d L) w w'
attribute [local go_sem ↓] Go.wp_at_zero Go.wp_at_succ
set_option maxRecDepth 20000 in
set_option maxHeartbeats 1000000 in
theorem zJL (N:Nat→Prop) (sb lb d L:Nat) (s:St) (name:ByteArray) (v:Value) (data:List UInt8) (w:World) (h:zO w N sb lb d L s) (hb:Bys w v data) (hn:name.size≤1000000) (hdl:data.length≤1000000) (hv:∀ w',Chg (zAe sb lb d L) w w'→Bys w' v data) (hfew:s.disk.writes < 72057594037920000) :
  Calls Tryz.prog 37 #[.pointer (some ⟨sb,0,none⟩),.string name,v] w (zA7 N sb lb d L s name data w):=by
 obtain ⟨lc,hS,hlc1,hlc2⟩:=h.blk
 have c2:w.cell? ⟨sb,2,none⟩=some (.slice (some ⟨lb,0,none⟩) s.recs.length lc):=hS.cell 2
 have c3:w.cell? ⟨sb,3,none⟩=some (.bool s.dead):=hS.cell 3
 have hok:=h.ok
 have hl2:=hok.len2
 have H:=Lib.hid h;have HB:=Lib.hid hb;have HV:=Lib.hid hv;have HS:=Lib.hid hS
 obtain ⟨n,hnn⟩:∃ n,n=s.recs.length:=⟨_,rfl⟩
 rw [← hnn] at c2 hlc1 hl2
 have Hn:=Lib.hid hnn
 obtain ⟨p,hto⟩:∃ t,t=Sto.slot s.recs:=⟨_,rfl⟩
 have hto1:p≤n:=by rw [hto,hnn];exact zEh _
 have Hto:=Lib.hid hto
 clear h hb hv hS hnn hto hok
 go_enter Tryz.func37,Tryz.ntmps37
 go_wp2_with fail
 go_loop [7] (fun u=>∃ i:Nat,i≤p∧u=.int .i64 i) (fun u=>p - (intOf u).toNat)
 case atStart=>exact ⟨0,by omega,rfl⟩
 case round =>
  obtain ⟨i,hi,rfl⟩:=hrel
  by_cases hit:i < p
  · obtain ⟨r,hr⟩:∃ r,s.recs[i]?=some r:=⟨s.recs[i]'(by have:=Hn.out;omega),by simp⟩
    obtain ⟨a1,a2,e0,_⟩:=H.out.recs.at hr
    rw [zJp (by have:=Hto.out;omega) hr] at e0
    have i0:(0:Int)≤(i:Int):=by omega
    have i1:(i:Int) < (n:Int):=by omega
    clear hr
    go_wp2
    exact ⟨⟨i+1,by omega,by go_num⟩,by simp [intOf] <;> omega⟩
  · obtain rfl:p=i:=by omega
    rcases (show p < n∨p=n from by omega) with hpn | hpn
    · obtain ⟨r,hr⟩:∃ r,s.recs[p]?=some r:=⟨s.recs[p]'(by have:=Hn.out;omega),by simp⟩
      obtain ⟨a1,a2,e0,_⟩:=H.out.recs.at hr
      rw [zDv (l:=s.recs) (by rw [← Hto.out];exact hr)] at e0
      have i0:(0:Int)≤(p:Int):=by omega
      have i1:(p:Int) < (n:Int):=by omega
      clear hr
      by_cases hd:s.dead=true
      · have HP:=Lib.hid (show zk s name data=(8,s) from by unfold zk;rw [if_pos hd])
        rw [hd] at c3
        clear hd
        go_wp2
        go_ret
        unfold zA7
        rw [HP.out]
        exact ⟨rfl,H.out,Chg.refl _ _⟩
      · have hd:s.dead=false:=by simpa using hd
        by_cases hf:zAH s.room name data=false
        · have HP:=Lib.hid (show zk s name data=(1,s) from by unfold zk;rw [if_neg (by rw [hd];decide),if_pos hf])
          rw [hd] at c3
          have Hf:=Lib.hid hf
          clear hd hf
          go_wp2_with fail
          refine (zCJ N sb lb d L s name _ data w H.out HB.out (by omega)).mono ?_
          rintro e w2 ⟨rfl,hb2⟩
          rw [Hf.out]
          go_wp2
          go_ret
          unfold zA7
          rw [HP.out]
          exact ⟨rfl,H.out.below hb2,Chg.of_below hb2⟩
        · have hf:zAH s.room name data=true:=by simpa using hf
          have HP0:=Lib.hid (And.intro hd hf)
          rw [hd] at c3
          have Hf:=Lib.hid hf
          have Hd:=Lib.hid hd
          clear hd hf
          go_wp2_with fail
          refine (zCJ N sb lb d L s name _ data w H.out HB.out (by omega)).mono ?_
          rintro e w2 ⟨rfl,hb2⟩
          rw [Hf.out]
          have g2:w2.cell? ⟨sb,2,none⟩=some (.slice (some ⟨lb,0,none⟩) n lc):=by have:=(HS.out.kept hb2).cell 2;rw [this,Hn.out];rfl
          have tp:((p:Int) == (n:Int))=false:=by simp;omega
          have HB2:=Lib.hid hb2
          clear hb2
          go_wp2_with fail
          refine (zDM N sb lb d n lc s.room s.dead s.recs name w2 (by rw [Hn.out];exact HS.out.kept HB2.out) (H.out.recs.below HB2.out) Hn.out (by omega) hlc1 hlc2 (fun r hr=>by have:=(H.out.ok.each r hr).2.2;omega)).mono ?_
          rintro e w3 ⟨rfl,hb3⟩
          have HB3:=Lib.hid (HB2.out.trans (hb3.mono HB2.out.size))
          clear hb3
          cases hbst:Sto.best s.recs name n with
          | none =>
            obtain ⟨nm,hnm⟩:∃ m:Nat,m=1:=⟨_,rfl⟩
            have Hnm:=Lib.hid (show s.num name=nm from by unfold St.num;rw [← Hn.out,hbst,hnm])
            have hnm2:nm≤9223372036854775807:=by omega
            have Hnb:=Lib.hid (show nm≤72057594037927936+s.disk.writes+1 from by omega)
            have Hb:=Lib.hid hbst
            clear hbst
            simp only [zBg]
            go_wp2_with fail
            rw [show Value.int .i64 (1:Int)=Value.int .i64 (nm:Int) from by rw [hnm];rfl]
            clear hnm
            refine (zCj name nm _ data w3 (H.out.tab.below HB3.out) (HB.out.below HB3.out) (by omega) (by omega) hdl).mono ?_
            rintro e w4 ⟨tv,rfl,ht,hb4⟩
            have hs3:=HB3.out.size
            have HB4:=Lib.hid (HB3.out.trans (hb4.mono hs3))
            have hs4:=HB4.out.size
            obtain ⟨ta,tc,rfl⟩:=ht.eq_slice
            have h4:=H.out.below HB4.out
            have y1:w4.cell? ⟨sb,1,none⟩=some (.int .i64 s.room):=(HS.out.kept HB4.out).cell 1
            have HT:=Lib.hid ht;have H4:=Lib.hid h4
            have hlen:=zEw (by rw [Hf.out]:zAH s.room name data=true) nm
            obtain ⟨T,hT⟩:∃ T,T=Sto.text name nm data:=⟨_,rfl⟩
            rw [← hT] at ht HT hlen ⊢
            have HTT:=Lib.hid hT
            have hr1:=H.out.ok.room1;have hr2:=H.out.ok.room2
            obtain ⟨room,hroom⟩:∃ r,r=s.room:=⟨_,rfl⟩
            rw [← hroom] at hr1 hr2 y1 hlen
            have Hroom:=Lib.hid hroom
            obtain ⟨A,hA⟩:∃ A,A=p*(room+1):=⟨_,rfl⟩
            have hA2:A≤1024*1025:=by rw [hA];exact Nat.mul_le_mul (by omega) (by omega)
            have hAr:A+(room+1)≤s.disk.n:=by
             have e:=H.out.ok.size
             rw [e,← Hn.out,← hroom,hA]
             have:(p+1)*(room+1)≤n*(room+1):=Nat.mul_le_mul_right _ (by omega)
             rw [Nat.add_mul,Nat.one_mul] at this
             exact this
            have EA:=Lib.hid (show (p:Int)*((room:Int)+1)=(A:Int) from by rw [hA];push_cast;rfl)
            have u1:(0:Int)≤(p:Int)*((room:Int)+1):=by rw [EA.out];omega
            have u2:(p:Int)*((room:Int)+1)≤9223372036854775807:=by rw [EA.out];omega
            have HA:=Lib.hid hA
            have HPE:=Lib.hid (show zk s name data=(match St.chunks A room s 0 T with
             | (e,s1)=>if e≠0 then (e,s1) else if s1.writeE A [1]≠0 then (s1.writeE A [1],s1.writeS A [1]) else ((s1.writeS A [1]).laid p ⟨true,name,nm,data⟩).done (Sto.best s.recs name n)) from by
             unfold zk
             rw [if_neg (by rw [HP0.out.1];decide),if_neg (by rw [HP0.out.2];decide),if_neg (by rw [← Hto.out,← Hn.out];omega),← Hto.out,← hroom,← hA,Hnm.out,← hT,← Hn.out])
            clear ht h4 hT hroom hA hb4 g2 c2 c3 e0
            go_wp2_with fail
            simp only [EA.out]
            clear u1 u2
            go_loopw [10,12] (fun u v wr=>∃ (k:Nat) (s':St) (b':List UInt8),v=.int .i64 k∧Bys wr u b'∧Hid (∀ a l c,u=.slice (some a) l c→w.heap.size≤a.block)∧zO wr N sb lb d L s'∧Chg (zAe sb lb d L) w wr∧Hid (St.chunks A room s 0 T=St.chunks A (room - k) s' k b')∧k≤room∧b'.length≤(room - k)*32∧s.disk.writes≤s'.disk.writes∧s'.disk.writes≤s.disk.writes+k∧Hid (s'.recs=s.recs∧s'.room=room)) (fun _ v _=>room - (intOf v).toNat)
            case atStart=>exact ⟨0,s,T,rfl,HT.out.bys,(fun a l c e=>by injection e with e1;have:=HT.out.lt a.block (by rw [e1];rfl);omega),H4.out,Chg.of_below HB4.out,by rw [Nat.sub_zero];exact rfl,by omega,by simpa using hlen,Nat.le_refl _,by omega,rfl,Hroom.out.symm⟩
            case round =>
             obtain ⟨k,s',b',rfl,hbu,hub,hst,hch,hck,hk,hbl,hwr0,hwr,hsr⟩:=hrel
             obtain ⟨ua,uc,rfl⟩:=hbu.eq_slice
             obtain ⟨l,hl⟩:∃ l,l=b'.length:=⟨_,rfl⟩
             rw [← hl] at hbu hub hbl ⊢
             have Hl:=Lib.hid hl
             clear hl
             by_cases hb0:1≤l
             · have hkr:k < room:=by
                rcases Nat.lt_or_ge k room with h | h
                · exact h
                · have:room - k=0:=by omega
                  rw [this] at hbl;omega
               obtain ⟨g,o,_,rfl,_⟩:=hbu.at 0 (by have:=Hl.out;omega)
               have hcap:l≤uc∧uc≤maxLen:=by
                obtain ⟨_,_,e,k1,k2,_⟩:=id hbu
                injection e with e1 e2 e3
                subst e3
                exact ⟨by have:=Hl.out;omega,k2⟩
               have hm2:uc≤9223372036854775807:=by unfold maxLen at hcap;omega
               obtain ⟨nn,hnn⟩:∃ m,m=min l 32:=⟨_,rfl⟩
               have hmin:min (l:Int) 32=(nn:Int):=by rw [hnn];omega
               have hnn1:nn≤l:=by omega
               have hnn2:1≤nn∧nn≤32:=by omega
               have htk:b'.take nn=b'.take 32:=by
                rcases Nat.lt_or_ge 32 l with h | h
                · rw [show nn=32 from by omega]
                · rw [List.take_of_length_le (by have:=Hl.out;omega),List.take_of_length_le (by have:=Hl.out;omega)]
               have hdr:b'.drop nn=b'.drop 32:=by
                rcases Nat.lt_or_ge 32 l with h | h
                · rw [show nn=32 from by omega]
                · rw [List.drop_eq_nil_of_le (by have:=Hl.out;omega),List.drop_eq_nil_of_le (by have:=Hl.out;omega)]
               have hX:Bys wr (.slice (some ⟨g,o,none⟩) nn uc) (b'.take 32):=by rw [← htk];exact hbu.take nn (by have:=Hl.out;omega)
               have hY:∀ w',Bys w' (.slice (some ⟨g,o,none⟩) l uc) b'→Bys w' (.slice (if uc=nn then some ⟨g,o,none⟩ else some ⟨g,o+nn,none⟩) (l - nn) (uc - nn)) (b'.drop 32):=fun w' hbw=>by
                rw [← hdr]
                split
                · have e:l=nn:=by omega
                  rw [List.drop_eq_nil_of_le (by have:=Hl.out;omega),e,Nat.sub_self]
                  exact ⟨some ⟨g,o,none⟩,uc - nn,rfl,Nat.zero_le _,by omega,fun h=>by simp at h⟩
                · have:=zCD hbw nn (l - nn) (uc - nn) (by have:=Hl.out;omega) (by omega) (by omega)
                  rwa [List.take_of_length_le (by have:=Hl.out;simp;omega)] at this
               have i5:(nn:Int)≤(uc:Int):=by omega
               have i6:(nn:Int)≤(l:Int):=by omega
               have i7:(0:Int)≤(nn:Int):=by omega
               have i8:(0:Int) < (l:Int):=by omega
               have Hmn:=Lib.hid hnn;have HY:=Lib.hid hY;have HX:=Lib.hid hX;have HBU:=Lib.hid hbu;have Hst:=Lib.hid hst;have Hch:=Lib.hid hch
               obtain ⟨hc1,hc2⟩:=hcap
               have Hc2:=Lib.hid hc2
               have hne:b'≠[]:=fun e=>by have:=Hl.out;rw [e] at this;simp at this;omega
               have hgb:=hub.out _ _ _ rfl
               have Hne:=Lib.hid hne
               clear hnn htk hdr hX hY hbu hst hch hc2 hne
               go_wp2_with fail
               rw [show (A:Int)+1+(k:Int)=((A+1+k:Nat):Int) from by push_cast;rfl]
               refine (zB2 N sb lb d L (A+1+k) s' _ (b'.take 32) wr Hst.out HX.out (by omega)).mono ?_
               rintro e w6 ⟨rfl,h6,hc6⟩
               obtain ⟨z,hz⟩:∃ z,z=s'.writeE (A+1+k) (b'.take 32):=⟨_,rfl⟩
               rw [← hz]
               have Hz:=Lib.hid hz;have H6:=Lib.hid h6;have HC6:=Lib.hid hc6
               clear hz h6 hc6
               have Hrk:=Lib.hid (show room - k=(room - (k+1))+1 from by omega)
               by_cases hz0:z=0
               · subst hz0
                 have Hstep:=Lib.hid (show St.chunks A room s 0 T=St.chunks A (room - (k+1)) (s'.writeS (A+1+k) (b'.take 32)) (k+1) (b'.drop 32) from by
                  rw [hck.out,Hrk.out,St.chunks,if_neg Hne.out,← Hz.out,if_neg (by simp)])
                 have hw6:(s'.writeS (A+1+k) (b'.take 32)).disk.writes≤s'.disk.writes+1:=zA.wr_writes _ _ _
                 have hbl2:(b'.drop 32).length≤(room - (k+1))*32:=by
                  rw [List.length_drop];have:=Hl.out;have:=Hrk.out;rw [this] at hbl;omega
                 have hb6:Bys w6 (.slice (some ⟨g,o,none⟩) l uc) b':=HBU.out.chg HC6.out (fun a l' c' e hS=>by injection e with e1;injection e1 with e1;subst e1;exact absurd (Nat.lt_of_lt_of_le (H.out.lt _ hS) hgb) (Nat.lt_irrefl _))
                 have Hfin:=Lib.hid (HY.out w6 hb6)
                 clear hb6
                 go_wp2
                 exact ⟨⟨k+1,_,b'.drop 32,by go_num,Hfin.out,(fun a l' c' e=>by
                  injection e with e1
                  split at e1
                  · injection e1 with e1;subst e1;exact hgb
                  · injection e1 with e1;subst e1;exact hgb),H6.out,Hch.out.trans HC6.out,Hstep.out,by omega,hbl2,Nat.le_trans hwr0 (zA.wr_ge _ _ _),by omega,⟨hsr.out.1,hsr.out.2⟩⟩,by simp [intOf] <;> omega⟩
               · have t0:(z != 0)=true:=by simpa using hz0
                 have HPz:=Lib.hid (show zk s name data=(z,s'.writeS (A+1+k) (b'.take 32)) from by
                  rw [HPE.out,hck.out,Hrk.out,St.chunks,if_neg Hne.out,← Hz.out,if_pos hz0]
                  simp only [if_pos hz0])
                 clear hz0
                 go_wp2
                 go_ret
                 unfold zA7
                 rw [HPz.out]
                 exact ⟨rfl,H6.out,Hch.out.trans HC6.out⟩
             · obtain rfl:l=0:=by omega
               have hbe:b'=[]:=List.eq_nil_of_length_eq_zero Hl.out.symm
               have HPE2:=Lib.hid (show zk s name data=(if s'.writeE A [1]≠0 then (s'.writeE A [1],s'.writeS A [1]) else ((s'.writeS A [1]).laid p ⟨true,name,nm,data⟩).done (Sto.best s.recs name n)) from by
                have e:St.chunks A (room - k) s' k b'=(0,s'):=by
                 rw [hbe]
                 cases room - k with
                 | zero=>rfl
                 | succ m=>rw [St.chunks,if_pos rfl]
                rw [HPE.out,hck.out,e]
                simp)
               have Hst:=Lib.hid hst;have Hch:=Lib.hid hch
               clear hbe hst hch hbu hub hb0
               go_wp2_with fail
               have hal:=fun (o:Obj)=>(Below.refl wr.heap.size wr).alloc (Nat.le_refl _) o
               refine (zB2 N sb lb d L A s' _ [1] _ (Hst.out.below (hal _)) (zAv wr 1 _ rfl _) (by omega)).mono ?_
               rintro e w6 ⟨rfl,h6,hc6⟩
               obtain ⟨z,hz⟩:∃ z,z=s'.writeE A [1]:=⟨_,rfl⟩
               rw [← hz]
               have Hz:=Lib.hid hz;have H6:=Lib.hid h6
               have HC6:=Lib.hid (show Chg (zAe sb lb d L) w w6 from (Hch.out.trans (Chg.of_below (hal _))).trans hc6)
               clear hz h6 hc6 hal
               by_cases hz0:z=0
               · subst hz0
                 obtain ⟨s1,hs1⟩:∃ x,x=s'.writeS A [1]:=⟨_,rfl⟩
                 have HPE3:=Lib.hid (show zk s name data=(s1.laid p ⟨true,name,nm,data⟩).done (Sto.best s.recs name n) from by rw [HPE2.out,← Hz.out,if_neg (by simp),hs1])
                 have h6:=H6.out
                 rw [← hs1] at h6
                 have hrec1:s1.recs=s.recs:=by rw [hs1];exact hsr.out.1
                 have hlen1:s1.recs.length=n:=by rw [hrec1,Hn.out]
                 have hw1:s1.disk.writes≤s'.disk.writes+1:=by rw [hs1];exact zA.wr_writes _ _ _
                 obtain ⟨lc6,hS6,hk1,hk2⟩:=h6.blk
                 rw [hlen1] at hS6 hk1
                 have x2:w6.cell? ⟨sb,2,none⟩=some (.slice (some ⟨lb,0,none⟩) n lc6):=hS6.cell 2
                 obtain ⟨r6,hr6⟩:∃ r,s1.recs[p]?=some r:=⟨s1.recs[p]'(by omega),by simp⟩
                 obtain ⟨ra,rc,e0,e1,e2,e3,_,ef⟩:=h6.recs.at hr6
                 have f0:=ef (p*4);have f1:=ef (p*4+1);have f2:=ef (p*4+2);have f4:=ef (p*4+3)
                 have h6b:Bys w6 v data:=HV.out _ HC6.out
                 have HB6:=Lib.hid h6b;have Hw1:=Lib.hid (show s.disk.writes+1≤s1.disk.writes from by rw [hs1,show (s'.writeS A [1]).disk.writes=s'.disk.writes+1 from zG9 Hz.out.symm];omega);have Hw2:=Lib.hid (show s1.disk.writes≤s.disk.writes+k+1 from by omega);have H6':=Lib.hid h6;have HS6:=Lib.hid hS6;have Hrec:=Lib.hid hrec1;have Hlen:=Lib.hid hlen1;have Hs1:=Lib.hid hs1
                 clear h6 hS6 hrec1 hlen1 hr6 ef h6b hs1
                 go_wp2_with fail
                 have hup:∀ w',Below w6.heap.size w6 w'→(w'.cell? ⟨sb,2,none⟩=some (.slice (some ⟨lb,0,none⟩) n lc6)∧w'.cell? ⟨lb,p*4,none⟩=some (.bool r6.is)∧w'.cell? ⟨lb,p*4+1,none⟩=some (.string r6.name)∧w'.cell? ⟨lb,p*4+2,none⟩=some (.int .i64 r6.num)∧w'.cell? ⟨lb,p*4+3,none⟩=some (.slice ra r6.data.length rc)∧w'.frozen? ⟨lb,p*4,none⟩=false∧w'.frozen? ⟨lb,p*4+1,none⟩=false∧w'.frozen? ⟨lb,p*4+2,none⟩=false∧w'.frozen? ⟨lb,p*4+3,none⟩=false):=fun w' hb'=>by
                  have hx:=H6'.out.below hb'
                  obtain ⟨arr,vs,hBl,_⟩:=H6'.out.recs
                  have hBl':=hBl.kept hb'
                  exact ⟨((HS6.out.kept hb').cell 2),by rw [hBl'.cell,← hBl.cell];exact e0,by rw [hBl'.cell,← hBl.cell];exact e1,by rw [hBl'.cell,← hBl.cell];exact e2,by rw [hBl'.cell,← hBl.cell];exact e3,hBl'.free _,hBl'.free _,hBl'.free _,hBl'.free _⟩
                 have HUP:=Lib.hid hup
                 have HUP0:=Lib.hid (hup w6.drew (below_drewN (Below.refl _ _) 1))
                 clear hup
                 have HUP1:=Lib.hid (show w6.drew.cell? ⟨sb,2,none⟩=some (.slice (some ⟨lb,0,none⟩) n lc6) from HUP0.out.1)
                 go_region_held3 (fun w'=>w'.cell? ⟨sb,2,none⟩=some (.slice (some ⟨lb,0,none⟩) n lc6)) (first | with_reducible exact hh | with_reducible exact HUP1.out | with_reducible exact hk _ _ _ _)
                  (first
                   | (refine zIK E8c (by rfl) _ _ (by rfl) (base:=w6.heap.size) (bs:=[]) (news:=data) (by rfl) (by rfl) (zP.nil _ _ _) (by exact HB6.out.drewN 1) (by simp;omega) (by exact Nat.le_refl _) ?_
                      intro v7 w7 ho7 hg7
                      have hb7:Below w6.heap.size w6 w7:=zCN (zAE hg7 rfl)
                      have ho7:zP 5 w7 w6.heap.size v7 data:=ho7
                      obtain ⟨a7,c7,rfl⟩:=ho7.eq_slice
                      obtain ⟨hh,k0,k1,k2,k3,k4,k5,k6,k7⟩:=HUP.out w7 hb7
                      have hk:∀ u0 u1 u2 u3,((((w7.setCell ⟨lb,p*4,none⟩ u0).setCell ⟨lb,p*4+1,none⟩ u1).setCell ⟨lb,p*4+2,none⟩ u2).setCell ⟨lb,p*4+3,none⟩ u3).cell? ⟨sb,2,none⟩=some (.slice (some ⟨lb,0,none⟩) n lc6):=fun u0 u1 u2 u3=>((zHO w7 lb (p*4) u0 u1 u2 u3).blk (HS6.out.kept hb7) H.out.ne.1).cell 2))
                 have hd7:zAo w7 N (.slice a7 data.length c7) data:=ho7.data fun b hb _ hN=>absurd (Nat.lt_of_lt_of_le ((H6'.out.old b) hN) hb) (Nat.lt_irrefl _)
                 have hset:=(H6'.out.recs.below hb7).set (i:=p) (by have:=Hlen.out;omega) ⟨true,name,nm,data⟩ (.slice a7 data.length c7) (H.out.foot lb (.inr (.inl rfl))) hd7
                 have hc8:=zHO w7 lb (p*4) (.bool true) (.string name) (.int .i64 (nm:Int)) (.slice a7 data.length c7)
                 obtain ⟨w8,hw8⟩:∃ w8,w8=((((w7.setCell ⟨lb,p*4,none⟩ (.bool true)).setCell ⟨lb,p*4+1,none⟩ (.string name)).setCell ⟨lb,p*4+2,none⟩ (.int .i64 (nm:Int))).setCell ⟨lb,p*4+3,none⟩ (.slice a7 data.length c7)):=⟨_,rfl⟩
                 rw [← hw8] at hset hc8 ⊢
                 have hC8:Chg (zAe sb lb d L) w6 w8:=(Chg.of_below hb7).trans (hc8.mono fun b hb=>.inr (.inl hb))
                 have hC9:=HC6.out.trans hC8
                 have hok8:(s1.laid p ⟨true,name,nm,data⟩).Ok:=by
                  have ho:=H6'.out.ok
                  refine ⟨ho.room1,ho.room2,by show 1≤(s1.recs.set p _).length;rw [List.length_set];exact ho.len1,by show (s1.recs.set p _).length≤_;rw [List.length_set];exact ho.len2,by show _=(s1.recs.set p _).length*_;rw [List.length_set];exact ho.size,fun r hr=>?_,ho.few⟩
                  rcases List.mem_or_eq_of_mem_set (show r∈s1.recs.set p ⟨true,name,nm,data⟩ from hr) with h | h
                  · exact ho.each r h
                  · subst h;exact ⟨hn,hdl,by have:=Hnb.out;show nm≤_+s1.disk.writes;have:=Hw1.out;omega⟩
                 have HI8:=Lib.hid (show zO w8 N sb lb d L (s1.laid p ⟨true,name,nm,data⟩) from by
                  refine ⟨⟨lc6,?_,by show (s1.recs.set p _).length≤_;rw [List.length_set,Hlen.out];exact hk1,hk2⟩,hset,(H6'.out.disk.below hb7).chg hc8 (fun e=>H.out.ne.2.2.2.1 e.symm) (fun e=>H.out.ne.2.2.2.2 e.symm),H6'.out.tab.chg hC8 (fun e=>H.out.ntab (H.out.foot _ e)),H.out.ntab,H.out.foot,H.out.ne,hok8,fun b hb=>Nat.lt_of_lt_of_le (H6'.out.old b hb) hC8.size⟩
                  show Blk w8 sb (stV d s1.room (some ⟨lb,0,none⟩) (s1.recs.set p _).length lc6 s1.dead) _
                  rw [List.length_set,Hlen.out]
                  exact hc8.blk (HS6.out.kept hb7) H.out.ne.1)
                 have HC9:=Lib.hid hC9
                 clear hd7 hset hc8 hw8 hC8 hC9 hok8 hh k0 k1 k2 k3 k4 k5 k6 k7 hk ho7 hb7 x2 e0 e1 e2 e3 f0 f1 f2 f4
                 go_wp2
                 go_ret
                 unfold zA7
                 rw [HPE3.out,Hb.out]
                 exact ⟨rfl,HI8.out,HC9.out⟩
               · have t0:(z != 0)=true:=by simpa using hz0
                 have HPz:=Lib.hid (show zk s name data=(z,s'.writeS A [1]) from by rw [HPE2.out,← Hz.out,if_pos hz0])
                 clear hz0
                 go_wp2
                 go_ret
                 unfold zA7
                 rw [HPz.out]
                 exact ⟨rfl,H6.out,HC6.out⟩
          | some j =>
            obtain ⟨hj,rj,hrj,_⟩:=zDc _ _ _ _ hbst
            have hR3:=H.out.recs.below HB3.out
            obtain ⟨_,_,_,_,e5,_⟩:=hR3.at hrj
            have s2:w3.cell? ⟨sb,2,none⟩=some (.slice (some ⟨lb,0,none⟩) n lc):=by have:=(HS.out.kept HB3.out).cell 2;rw [this,Hn.out];rfl
            have j0:(0:Int)≤(j:Int):=by omega
            have j1:(j:Int) < (n:Int):=by omega
            have nb:=(H.out.ok.each rj (List.mem_of_getElem? hrj)).2.2
            obtain ⟨nm,hnm⟩:∃ m:Nat,m=rj.num+1:=⟨_,rfl⟩
            have Hnm:=Lib.hid (show s.num name=nm from by unfold St.num;rw [← Hn.out,hbst,hnm];show (s.recs.getD j Sto.Rec.free).num+1=_;rw [List.getD_eq_getElem?_getD,hrj];rfl)
            have hnm2:nm≤9223372036854775807:=by omega
            have Hnb:=Lib.hid (show nm≤72057594037927936+s.disk.writes+1 from by omega)
            have Hb:=Lib.hid hbst
            have HNM:=Lib.hid (show Value.int .i64 ((rj.num:Int)+1)=Value.int .i64 (nm:Int) from by rw [hnm];rfl)
            clear hbst hrj hR3 hnm
            simp only [zBg]
            go_wp2_with fail
            rw [HNM.out]
            clear e5 s2 nb
            refine (zCj name nm _ data w3 (H.out.tab.below HB3.out) (HB.out.below HB3.out) (by omega) (by omega) hdl).mono ?_
            rintro e w4 ⟨tv,rfl,ht,hb4⟩
            have hs3:=HB3.out.size
            have HB4:=Lib.hid (HB3.out.trans (hb4.mono hs3))
            have hs4:=HB4.out.size
            obtain ⟨ta,tc,rfl⟩:=ht.eq_slice
            have h4:=H.out.below HB4.out
            have y1:w4.cell? ⟨sb,1,none⟩=some (.int .i64 s.room):=(HS.out.kept HB4.out).cell 1
            have HT:=Lib.hid ht;have H4:=Lib.hid h4
            have hlen:=zEw (by rw [Hf.out]:zAH s.room name data=true) nm
            obtain ⟨T,hT⟩:∃ T,T=Sto.text name nm data:=⟨_,rfl⟩
            rw [← hT] at ht HT hlen ⊢
            have HTT:=Lib.hid hT
            have hr1:=H.out.ok.room1;have hr2:=H.out.ok.room2
            obtain ⟨room,hroom⟩:∃ r,r=s.room:=⟨_,rfl⟩
            rw [← hroom] at hr1 hr2 y1 hlen
            have Hroom:=Lib.hid hroom
            obtain ⟨A,hA⟩:∃ A,A=p*(room+1):=⟨_,rfl⟩
            have hA2:A≤1024*1025:=by rw [hA];exact Nat.mul_le_mul (by omega) (by omega)
            have hAr:A+(room+1)≤s.disk.n:=by
             have e:=H.out.ok.size
             rw [e,← Hn.out,← hroom,hA]
             have:(p+1)*(room+1)≤n*(room+1):=Nat.mul_le_mul_right _ (by omega)
             rw [Nat.add_mul,Nat.one_mul] at this
             exact this
            have EA:=Lib.hid (show (p:Int)*((room:Int)+1)=(A:Int) from by rw [hA];push_cast;rfl)
            have u1:(0:Int)≤(p:Int)*((room:Int)+1):=by rw [EA.out];omega
            have u2:(p:Int)*((room:Int)+1)≤9223372036854775807:=by rw [EA.out];omega
            have HA:=Lib.hid hA
            have HPE:=Lib.hid (show zk s name data=(match St.chunks A room s 0 T with
             | (e,s1)=>if e≠0 then (e,s1) else if s1.writeE A [1]≠0 then (s1.writeE A [1],s1.writeS A [1]) else ((s1.writeS A [1]).laid p ⟨true,name,nm,data⟩).done (Sto.best s.recs name n)) from by
             unfold zk
             rw [if_neg (by rw [HP0.out.1];decide),if_neg (by rw [HP0.out.2];decide),if_neg (by rw [← Hto.out,← Hn.out];omega),← Hto.out,← hroom,← hA,Hnm.out,← hT,← Hn.out])
            clear ht h4 hT hroom hA hb4 g2 c2 c3 e0
            go_wp2_with fail
            simp only [EA.out]
            clear u1 u2
            go_loopw [10,12] (fun u v wr=>∃ (k:Nat) (s':St) (b':List UInt8),v=.int .i64 k∧Bys wr u b'∧Hid (∀ a l c,u=.slice (some a) l c→w.heap.size≤a.block)∧zO wr N sb lb d L s'∧Chg (zAe sb lb d L) w wr∧Hid (St.chunks A room s 0 T=St.chunks A (room - k) s' k b')∧k≤room∧b'.length≤(room - k)*32∧s.disk.writes≤s'.disk.writes∧s'.disk.writes≤s.disk.writes+k∧Hid (s'.recs=s.recs∧s'.room=room)) (fun _ v _=>room - (intOf v).toNat)
            case atStart=>exact ⟨0,s,T,rfl,HT.out.bys,(fun a l c e=>by injection e with e1;have:=HT.out.lt a.block (by rw [e1];rfl);omega),H4.out,Chg.of_below HB4.out,by rw [Nat.sub_zero];exact rfl,by omega,by simpa using hlen,Nat.le_refl _,by omega,rfl,Hroom.out.symm⟩
            case round =>
             obtain ⟨k,s',b',rfl,hbu,hub,hst,hch,hck,hk,hbl,hwr0,hwr,hsr⟩:=hrel
             obtain ⟨ua,uc,rfl⟩:=hbu.eq_slice
             obtain ⟨l,hl⟩:∃ l,l=b'.length:=⟨_,rfl⟩
             rw [← hl] at hbu hub hbl ⊢
             have Hl:=Lib.hid hl
             clear hl
             by_cases hb0:1≤l
             · have hkr:k < room:=by
                rcases Nat.lt_or_ge k room with h | h
                · exact h
                · have:room - k=0:=by omega
                  rw [this] at hbl;omega
               obtain ⟨g,o,_,rfl,_⟩:=hbu.at 0 (by have:=Hl.out;omega)
               have hcap:l≤uc∧uc≤maxLen:=by
                obtain ⟨_,_,e,k1,k2,_⟩:=id hbu
                injection e with e1 e2 e3
                subst e3
                exact ⟨by have:=Hl.out;omega,k2⟩
               have hm2:uc≤9223372036854775807:=by unfold maxLen at hcap;omega
               obtain ⟨nn,hnn⟩:∃ m,m=min l 32:=⟨_,rfl⟩
               have hmin:min (l:Int) 32=(nn:Int):=by rw [hnn];omega
               have hnn1:nn≤l:=by omega
               have hnn2:1≤nn∧nn≤32:=by omega
               have htk:b'.take nn=b'.take 32:=by
                rcases Nat.lt_or_ge 32 l with h | h
                · rw [show nn=32 from by omega]
                · rw [List.take_of_length_le (by have:=Hl.out;omega),List.take_of_length_le (by have:=Hl.out;omega)]
               have hdr:b'.drop nn=b'.drop 32:=by
                rcases Nat.lt_or_ge 32 l with h | h
                · rw [show nn=32 from by omega]
                · rw [List.drop_eq_nil_of_le (by have:=Hl.out;omega),List.drop_eq_nil_of_le (by have:=Hl.out;omega)]
               have hX:Bys wr (.slice (some ⟨g,o,none⟩) nn uc) (b'.take 32):=by rw [← htk];exact hbu.take nn (by have:=Hl.out;omega)
               have hY:∀ w',Bys w' (.slice (some ⟨g,o,none⟩) l uc) b'→Bys w' (.slice (if uc=nn then some ⟨g,o,none⟩ else some ⟨g,o+nn,none⟩) (l - nn) (uc - nn)) (b'.drop 32):=fun w' hbw=>by
                rw [← hdr]
                split
                · have e:l=nn:=by omega
                  rw [List.drop_eq_nil_of_le (by have:=Hl.out;omega),e,Nat.sub_self]
                  exact ⟨some ⟨g,o,none⟩,uc - nn,rfl,Nat.zero_le _,by omega,fun h=>by simp at h⟩
                · have:=zCD hbw nn (l - nn) (uc - nn) (by have:=Hl.out;omega) (by omega) (by omega)
                  rwa [List.take_of_length_le (by have:=Hl.out;simp;omega)] at this
               have i5:(nn:Int)≤(uc:Int):=by omega
               have i6:(nn:Int)≤(l:Int):=by omega
               have i7:(0:Int)≤(nn:Int):=by omega
               have i8:(0:Int) < (l:Int):=by omega
               have Hmn:=Lib.hid hnn;have HY:=Lib.hid hY;have HX:=Lib.hid hX;have HBU:=Lib.hid hbu;have Hst:=Lib.hid hst;have Hch:=Lib.hid hch
               obtain ⟨hc1,hc2⟩:=hcap
               have Hc2:=Lib.hid hc2
               have hne:b'≠[]:=fun e=>by have:=Hl.out;rw [e] at this;simp at this;omega
               have hgb:=hub.out _ _ _ rfl
               have Hne:=Lib.hid hne
               clear hnn htk hdr hX hY hbu hst hch hc2 hne
               go_wp2_with fail
               rw [show (A:Int)+1+(k:Int)=((A+1+k:Nat):Int) from by push_cast;rfl]
               refine (zB2 N sb lb d L (A+1+k) s' _ (b'.take 32) wr Hst.out HX.out (by omega)).mono ?_
               rintro e w6 ⟨rfl,h6,hc6⟩
               obtain ⟨z,hz⟩:∃ z,z=s'.writeE (A+1+k) (b'.take 32):=⟨_,rfl⟩
               rw [← hz]
               have Hz:=Lib.hid hz;have H6:=Lib.hid h6;have HC6:=Lib.hid hc6
               clear hz h6 hc6
               have Hrk:=Lib.hid (show room - k=(room - (k+1))+1 from by omega)
               by_cases hz0:z=0
               · subst hz0
                 have Hstep:=Lib.hid (show St.chunks A room s 0 T=St.chunks A (room - (k+1)) (s'.writeS (A+1+k) (b'.take 32)) (k+1) (b'.drop 32) from by
                  rw [hck.out,Hrk.out,St.chunks,if_neg Hne.out,← Hz.out,if_neg (by simp)])
                 have hw6:(s'.writeS (A+1+k) (b'.take 32)).disk.writes≤s'.disk.writes+1:=zA.wr_writes _ _ _
                 have hbl2:(b'.drop 32).length≤(room - (k+1))*32:=by
                  rw [List.length_drop];have:=Hl.out;have:=Hrk.out;rw [this] at hbl;omega
                 have hb6:Bys w6 (.slice (some ⟨g,o,none⟩) l uc) b':=HBU.out.chg HC6.out (fun a l' c' e hS=>by injection e with e1;injection e1 with e1;subst e1;exact absurd (Nat.lt_of_lt_of_le (H.out.lt _ hS) hgb) (Nat.lt_irrefl _))
                 have Hfin:=Lib.hid (HY.out w6 hb6)
                 clear hb6
                 go_wp2
                 exact ⟨⟨k+1,_,b'.drop 32,by go_num,Hfin.out,(fun a l' c' e=>by
                  injection e with e1
                  split at e1
                  · injection e1 with e1;subst e1;exact hgb
                  · injection e1 with e1;subst e1;exact hgb),H6.out,Hch.out.trans HC6.out,Hstep.out,by omega,hbl2,Nat.le_trans hwr0 (zA.wr_ge _ _ _),by omega,⟨hsr.out.1,hsr.out.2⟩⟩,by simp [intOf] <;> omega⟩
               · have t0:(z != 0)=true:=by simpa using hz0
                 have HPz:=Lib.hid (show zk s name data=(z,s'.writeS (A+1+k) (b'.take 32)) from by
                  rw [HPE.out,hck.out,Hrk.out,St.chunks,if_neg Hne.out,← Hz.out,if_pos hz0]
                  simp only [if_pos hz0])
                 clear hz0
                 go_wp2
                 go_ret
                 unfold zA7
                 rw [HPz.out]
                 exact ⟨rfl,H6.out,Hch.out.trans HC6.out⟩
             · obtain rfl:l=0:=by omega
               have hbe:b'=[]:=List.eq_nil_of_length_eq_zero Hl.out.symm
               have HPE2:=Lib.hid (show zk s name data=(if s'.writeE A [1]≠0 then (s'.writeE A [1],s'.writeS A [1]) else ((s'.writeS A [1]).laid p ⟨true,name,nm,data⟩).done (Sto.best s.recs name n)) from by
                have e:St.chunks A (room - k) s' k b'=(0,s'):=by
                 rw [hbe]
                 cases room - k with
                 | zero=>rfl
                 | succ m=>rw [St.chunks,if_pos rfl]
                rw [HPE.out,hck.out,e]
                simp)
               have Hst:=Lib.hid hst;have Hch:=Lib.hid hch
               clear hbe hst hch hbu hub hb0
               go_wp2_with fail
               have hal:=fun (o:Obj)=>(Below.refl wr.heap.size wr).alloc (Nat.le_refl _) o
               refine (zB2 N sb lb d L A s' _ [1] _ (Hst.out.below (hal _)) (zAv wr 1 _ rfl _) (by omega)).mono ?_
               rintro e w6 ⟨rfl,h6,hc6⟩
               obtain ⟨z,hz⟩:∃ z,z=s'.writeE A [1]:=⟨_,rfl⟩
               rw [← hz]
               have Hz:=Lib.hid hz;have H6:=Lib.hid h6
               have HC6:=Lib.hid (show Chg (zAe sb lb d L) w w6 from (Hch.out.trans (Chg.of_below (hal _))).trans hc6)
               clear hz h6 hc6 hal
               by_cases hz0:z=0
               · subst hz0
                 obtain ⟨s1,hs1⟩:∃ x,x=s'.writeS A [1]:=⟨_,rfl⟩
                 have HPE3:=Lib.hid (show zk s name data=(s1.laid p ⟨true,name,nm,data⟩).done (Sto.best s.recs name n) from by rw [HPE2.out,← Hz.out,if_neg (by simp),hs1])
                 have h6:=H6.out
                 rw [← hs1] at h6
                 have hrec1:s1.recs=s.recs:=by rw [hs1];exact hsr.out.1
                 have hlen1:s1.recs.length=n:=by rw [hrec1,Hn.out]
                 have hw1:s1.disk.writes≤s'.disk.writes+1:=by rw [hs1];exact zA.wr_writes _ _ _
                 obtain ⟨lc6,hS6,hk1,hk2⟩:=h6.blk
                 rw [hlen1] at hS6 hk1
                 have x2:w6.cell? ⟨sb,2,none⟩=some (.slice (some ⟨lb,0,none⟩) n lc6):=hS6.cell 2
                 obtain ⟨r6,hr6⟩:∃ r,s1.recs[p]?=some r:=⟨s1.recs[p]'(by omega),by simp⟩
                 obtain ⟨ra,rc,e0,e1,e2,e3,_,ef⟩:=h6.recs.at hr6
                 have f0:=ef (p*4);have f1:=ef (p*4+1);have f2:=ef (p*4+2);have f4:=ef (p*4+3)
                 have h6b:Bys w6 v data:=HV.out _ HC6.out
                 have HB6:=Lib.hid h6b;have Hw1:=Lib.hid (show s.disk.writes+1≤s1.disk.writes from by rw [hs1,show (s'.writeS A [1]).disk.writes=s'.disk.writes+1 from zG9 Hz.out.symm];omega);have Hw2:=Lib.hid (show s1.disk.writes≤s.disk.writes+k+1 from by omega);have H6':=Lib.hid h6;have HS6:=Lib.hid hS6;have Hrec:=Lib.hid hrec1;have Hlen:=Lib.hid hlen1;have Hs1:=Lib.hid hs1
                 clear h6 hS6 hrec1 hlen1 hr6 ef h6b hs1
                 go_wp2_with fail
                 have hup:∀ w',Below w6.heap.size w6 w'→(w'.cell? ⟨sb,2,none⟩=some (.slice (some ⟨lb,0,none⟩) n lc6)∧w'.cell? ⟨lb,p*4,none⟩=some (.bool r6.is)∧w'.cell? ⟨lb,p*4+1,none⟩=some (.string r6.name)∧w'.cell? ⟨lb,p*4+2,none⟩=some (.int .i64 r6.num)∧w'.cell? ⟨lb,p*4+3,none⟩=some (.slice ra r6.data.length rc)∧w'.frozen? ⟨lb,p*4,none⟩=false∧w'.frozen? ⟨lb,p*4+1,none⟩=false∧w'.frozen? ⟨lb,p*4+2,none⟩=false∧w'.frozen? ⟨lb,p*4+3,none⟩=false):=fun w' hb'=>by
                  have hx:=H6'.out.below hb'
                  obtain ⟨arr,vs,hBl,_⟩:=H6'.out.recs
                  have hBl':=hBl.kept hb'
                  exact ⟨((HS6.out.kept hb').cell 2),by rw [hBl'.cell,← hBl.cell];exact e0,by rw [hBl'.cell,← hBl.cell];exact e1,by rw [hBl'.cell,← hBl.cell];exact e2,by rw [hBl'.cell,← hBl.cell];exact e3,hBl'.free _,hBl'.free _,hBl'.free _,hBl'.free _⟩
                 have HUP:=Lib.hid hup
                 have HUP0:=Lib.hid (hup w6.drew (below_drewN (Below.refl _ _) 1))
                 clear hup
                 have HUP1:=Lib.hid (show w6.drew.cell? ⟨sb,2,none⟩=some (.slice (some ⟨lb,0,none⟩) n lc6) from HUP0.out.1)
                 go_region_held3 (fun w'=>w'.cell? ⟨sb,2,none⟩=some (.slice (some ⟨lb,0,none⟩) n lc6)) (first | with_reducible exact hh | with_reducible exact HUP1.out | with_reducible exact hk _ _ _ _)
                  (first
                   | (refine zIK E8c (by rfl) _ _ (by rfl) (base:=w6.heap.size) (bs:=[]) (news:=data) (by rfl) (by rfl) (zP.nil _ _ _) (by exact HB6.out.drewN 1) (by simp;omega) (by exact Nat.le_refl _) ?_
                      intro v7 w7 ho7 hg7
                      have hb7:Below w6.heap.size w6 w7:=zCN (zAE hg7 rfl)
                      have ho7:zP 5 w7 w6.heap.size v7 data:=ho7
                      obtain ⟨a7,c7,rfl⟩:=ho7.eq_slice
                      obtain ⟨hh,k0,k1,k2,k3,k4,k5,k6,k7⟩:=HUP.out w7 hb7
                      have hk:∀ u0 u1 u2 u3,((((w7.setCell ⟨lb,p*4,none⟩ u0).setCell ⟨lb,p*4+1,none⟩ u1).setCell ⟨lb,p*4+2,none⟩ u2).setCell ⟨lb,p*4+3,none⟩ u3).cell? ⟨sb,2,none⟩=some (.slice (some ⟨lb,0,none⟩) n lc6):=fun u0 u1 u2 u3=>((zHO w7 lb (p*4) u0 u1 u2 u3).blk (HS6.out.kept hb7) H.out.ne.1).cell 2))
                 have hd7:zAo w7 N (.slice a7 data.length c7) data:=ho7.data fun b hb _ hN=>absurd (Nat.lt_of_lt_of_le ((H6'.out.old b) hN) hb) (Nat.lt_irrefl _)
                 have hset:=(H6'.out.recs.below hb7).set (i:=p) (by have:=Hlen.out;omega) ⟨true,name,nm,data⟩ (.slice a7 data.length c7) (H.out.foot lb (.inr (.inl rfl))) hd7
                 have hc8:=zHO w7 lb (p*4) (.bool true) (.string name) (.int .i64 (nm:Int)) (.slice a7 data.length c7)
                 obtain ⟨w8,hw8⟩:∃ w8,w8=((((w7.setCell ⟨lb,p*4,none⟩ (.bool true)).setCell ⟨lb,p*4+1,none⟩ (.string name)).setCell ⟨lb,p*4+2,none⟩ (.int .i64 (nm:Int))).setCell ⟨lb,p*4+3,none⟩ (.slice a7 data.length c7)):=⟨_,rfl⟩
                 rw [← hw8] at hset hc8 ⊢
                 have hC8:Chg (zAe sb lb d L) w6 w8:=(Chg.of_below hb7).trans (hc8.mono fun b hb=>.inr (.inl hb))
                 have hC9:=HC6.out.trans hC8
                 have hok8:(s1.laid p ⟨true,name,nm,data⟩).Ok:=by
                  have ho:=H6'.out.ok
                  refine ⟨ho.room1,ho.room2,by show 1≤(s1.recs.set p _).length;rw [List.length_set];exact ho.len1,by show (s1.recs.set p _).length≤_;rw [List.length_set];exact ho.len2,by show _=(s1.recs.set p _).length*_;rw [List.length_set];exact ho.size,fun r hr=>?_,ho.few⟩
                  rcases List.mem_or_eq_of_mem_set (show r∈s1.recs.set p ⟨true,name,nm,data⟩ from hr) with h | h
                  · exact ho.each r h
                  · subst h;exact ⟨hn,hdl,by have:=Hnb.out;show nm≤_+s1.disk.writes;have:=Hw1.out;omega⟩
                 have Hs1w:=Lib.hid (show s1.disk.writes≤s.disk.writes+room+2 from by have:=Hw2.out;omega)
                 have HI8:=Lib.hid (show zO w8 N sb lb d L (s1.laid p ⟨true,name,nm,data⟩) from by
                  refine ⟨⟨lc6,?_,by show (s1.recs.set p _).length≤_;rw [List.length_set,Hlen.out];exact hk1,hk2⟩,hset,(H6'.out.disk.below hb7).chg hc8 (fun e=>H.out.ne.2.2.2.1 e.symm) (fun e=>H.out.ne.2.2.2.2 e.symm),H6'.out.tab.chg hC8 (fun e=>H.out.ntab (H.out.foot _ e)),H.out.ntab,H.out.foot,H.out.ne,hok8,fun b hb=>Nat.lt_of_lt_of_le (H6'.out.old b hb) hC8.size⟩
                  show Blk w8 sb (stV d s1.room (some ⟨lb,0,none⟩) (s1.recs.set p _).length lc6 s1.dead) _
                  rw [List.length_set,Hlen.out]
                  exact hc8.blk (HS6.out.kept hb7) H.out.ne.1)
                 have HC9:=Lib.hid hC9
                 clear hd7 hset hc8 hw8 hC8 hC9 hok8 hh k0 k1 k2 k3 k4 k5 k6 k7 hk ho7 hb7 x2 e0 e1 e2 e3 f0 f1 f2 f4
                 have j9:j < (s1.laid p ⟨true,name,nm,data⟩).recs.length:=by show j < (s1.recs.set p _).length;rw [List.length_set,Hlen.out];exact hj
                 go_wp2_with fail
                 refine (free_at N sb lb d L j _ w8 HI8.out j9 (by show s1.disk.writes < _;have:=Hs1w.out;omega)).mono ?_
                 rintro e w9 ⟨rfl,h9,hc9⟩
                 go_wp2
                 go_ret
                 unfold zA7
                 rw [HPE3.out,Hb.out]
                 exact ⟨rfl,h9,HC9.out.trans hc9⟩
               · have t0:(z != 0)=true:=by simpa using hz0
                 have HPz:=Lib.hid (show zk s name data=(z,s'.writeS A [1]) from by rw [HPE2.out,← Hz.out,if_pos hz0])
                 clear hz0
                 go_wp2
                 go_ret
                 unfold zA7
                 rw [HPz.out]
                 exact ⟨rfl,H6.out,HC6.out⟩
    · subst hpn
      by_cases hd:s.dead=true
      · have HP:=Lib.hid (show zk s name data=(8,s) from by unfold zk;rw [if_pos hd])
        rw [hd] at c3
        clear hd
        go_wp2
        go_ret
        unfold zA7
        rw [HP.out]
        exact ⟨rfl,H.out,Chg.refl _ _⟩
      · have hd:s.dead=false:=by simpa using hd
        by_cases hf:zAH s.room name data=false
        · have HP:=Lib.hid (show zk s name data=(1,s) from by unfold zk;rw [if_neg (by rw [hd];decide),if_pos hf])
          rw [hd] at c3
          have Hf:=Lib.hid hf
          clear hd hf
          go_wp2_with fail
          refine (zCJ N sb lb d L s name _ data w H.out HB.out (by omega)).mono ?_
          rintro e w2 ⟨rfl,hb2⟩
          rw [Hf.out]
          go_wp2
          go_ret
          unfold zA7
          rw [HP.out]
          exact ⟨rfl,H.out.below hb2,Chg.of_below hb2⟩
        · have hf:zAH s.room name data=true:=by simpa using hf
          have HP:=Lib.hid (show zk s name data=(3,s) from by unfold zk;rw [if_neg (by rw [hd];decide),if_neg (by rw [hf];decide),if_pos (by rw [← Hto.out,← Hn.out])])
          rw [hd] at c3
          have Hf:=Lib.hid hf
          clear hd hf
          go_wp2_with fail
          refine (zCJ N sb lb d L s name _ data w H.out HB.out (by omega)).mono ?_
          rintro e w2 ⟨rfl,hb2⟩
          rw [Hf.out]
          have g2:w2.cell? ⟨sb,2,none⟩=some (.slice (some ⟨lb,0,none⟩) p lc):=by have:=(HS.out.kept hb2).cell 2;rw [this,Hn.out];rfl
          have tp:((p:Int) == (p:Int))=true:=by simp
          go_wp2
          go_ret
          unfold zA7
          rw [HP.out]
          exact ⟨rfl,H.out.below hb2,Chg.of_below hb2⟩
end Go.Proofs.YtdlkghdfkjdajaaGreatDoor
end
section
namespace Go.Proofs.YtdlkghdfkjdajaaGreatDoor
open Go Go.RowKit Go.Mem Gf
set_option linter.unusedVariables false
set_option linter.unusedSimpArgs false
attribute [local go_sem ↓] Go.wp_at_zero Go.wp_at_succ
attribute [local go_sem ↓] zf zBC
attribute [local go_sem] ptrB_eq ptrO_eq ptrIs_eq aggL_eq aggIs_eq zS zV zD zF zJ zK zB
structure SJ (w2:World) (N:Nat→Prop) (kb sb lb d Ld:Nat) (s:St) (name:ByteArray) (sd:List UInt8) (h next:Nat) (pr:List UInt8) (s':St) (n:Nat) (zv:Value) (b1 b2:Bool) (w':World):Prop where
 ks:ze w' kb sb name sd h next pr
 nf:¬ zAe sb lb d Ld kb
 base:zO w2 N sb lb d Ld s
 now:(b2=false∧Below w2.heap.size w2 w'∧(b1=true→zP 5 w' w2.heap.size zv (Cod.be 4 n)))∨(b2=true∧zO w' N sb lb d Ld s'∧Chg (zAe sb lb d Ld) w2 w')
section
variable {w2 w' w'':World} {N:Nat→Prop} {kb sb lb d Ld h next n:Nat} {s s':St} {name:ByteArray} {sd pr:List UInt8} {zv v:Value} {b1 b2:Bool}
theorem SJ.start (hk:ze w2 kb sb name sd h next pr) (hs:zO w2 N sb lb d Ld s) (hN:N kb) (hf:¬ zAe sb lb d Ld kb):SJ w2 N kb sb lb d Ld s name sd h next pr s' n zv false false w2.drew :=
 ⟨hk,hf,hs,.inl ⟨rfl,(Below.refl _ _).drew,fun e=>by cases e⟩⟩
theorem SJ.s0 (j:SJ w2 N kb sb lb d Ld s name sd h next pr s' n zv b1 b2 w'):w'.cell? ⟨kb,0,none⟩=some (.pointer (some ⟨sb,0,none⟩)):=j.ks.c0
theorem SJ.s1 (j:SJ w2 N kb sb lb d Ld s name sd h next pr s' n zv b1 b2 w'):w'.cell? ⟨kb,1,none⟩=some (.string name):=j.ks.c1
theorem SJ.swap (j:SJ w2 N kb sb lb d Ld s name sd h next pr s' n zv false b2 w') (v:Value):SJ w2 N kb sb lb d Ld s name sd h next pr s' n v false b2 w' :=
 ⟨j.ks,j.nf,j.base,by
  rcases j.now with ⟨a,b,_⟩ | c
  · exact .inl ⟨a,b,fun e=>by cases e⟩
  · exact .inr c⟩
theorem SJ.made (j:SJ w2 N kb sb lb d Ld s name sd h next pr s' n zv false false w') (hv:zP 5 w'' w'.heap.size v (Cod.be 4 n)) (hb:Below w'.heap.size w' w''):SJ w2 N kb sb lb d Ld s name sd h next pr s' n v true false w'':=by
 rcases j.now with ⟨_,b,_⟩ | ⟨e,_⟩
 · exact ⟨Blk.kept j.ks hb,j.nf,j.base,.inl ⟨rfl,b.trans (hb.mono b.size),fun _=>hv.mono b.size⟩⟩
 · cases e
theorem SJ.mid (j:SJ w2 N kb sb lb d Ld s name sd h next pr s' n zv true false w'):Below w2.heap.size w2 w'∧zP 5 w' w2.heap.size zv (Cod.be 4 n):=by
 rcases j.now with ⟨_,b,c⟩ | ⟨e,_⟩
 · exact ⟨b,c rfl⟩
 · cases e
theorem SJ.st (j:SJ w2 N kb sb lb d Ld s name sd h next pr s' n zv true false w'):zO w' N sb lb d Ld s:=j.base.below j.mid.1
theorem SJ.own (j:SJ w2 N kb sb lb d Ld s name sd h next pr s' n zv true false w'):zP 5 w' w2.heap.size zv (Cod.be 4 n):=j.mid.2
theorem SJ.keep (j:SJ w2 N kb sb lb d Ld s name sd h next pr s' n zv true false w') (hc:Chg (zAe sb lb d Ld) w' w''):Bys w'' zv (Cod.be 4 n) :=
 (j.own.chg hc (fun g hg hf=>by have:=(j.own.lt g hg).1;have:=j.base.lt g hf;omega)).bys
theorem SJ.put (j:SJ w2 N kb sb lb d Ld s name sd h next pr s' n zv true false w') (hs:zO w'' N sb lb d Ld s') (hc:Chg (zAe sb lb d Ld) w' w'') (v:Value):SJ w2 N kb sb lb d Ld s name sd h next pr s' n v true true w'' :=
 ⟨hc.blk j.ks j.nf,j.nf,j.base,.inr ⟨rfl,hs,(Chg.of_below j.mid.1).trans hc⟩⟩
theorem SJ.fin (j:SJ w2 N kb sb lb d Ld s name sd h next pr s' n zv true true w'):ze w' kb sb name sd h next pr∧zO w' N sb lb d Ld s'∧Chg (zAe sb lb d Ld) w2 w':=by
 rcases j.now with ⟨e,_⟩ | ⟨_,a,b⟩
 · cases e
 · exact ⟨j.ks,a,b⟩
end
theorem ze.rng {w:World} {kb sb h next:Nat} {name:ByteArray} {sd pr:List UInt8} (k:ze w kb sb name sd h next pr):w.rangeAt kb 2 (bV sd):=fun j v hv=>by
 rw [Blk.cell k,List.getElem?_toArray]
 have hj:=zBW hv
 unfold zDh
 rw [List.append_assoc,List.append_assoc,List.getElem?_append_right (by simp),List.getElem?_append_left (by simp;exact hj)]
 rw [show 2+j - [Value.pointer (some ⟨sb,0,none⟩),Value.string name].length=j from by simp]
 exact hv
def zCe:Value:=.agg #[.int .i64 0,.int .i64 0,.slice none 0 0,.slice none 0 0]
def KF (kb sb lb d Ld:Nat) (b:Nat):Prop:=b=kb∨zAe sb lb d Ld b
def StN (w:World) (N:Nat→Prop) (sb lb d Ld:Nat) (s:St) (w':World):Prop:=∃ N':Nat→Prop,(∀ b,N b→N' b)∧(∀ b,N' b→N b∨w.heap.size≤b)∧zO w' N' sb lb d Ld s
def zHB (w:World) (N:Nat→Prop) (kb sb lb d Ld:Nat) (s:St) (name:ByteArray) (sd:List UInt8) (h next:Nat) (pr:List UInt8) (m:List UInt8) (e:Ending) (w':World):Prop :=
 (2 ^ h≤zX s name next∧e=.returned (.tuple #[zCe,.int .i64 9])∧ze w' kb sb name sd h (zX s name next) pr∧StN w N sb lb d Ld s w'∧Chg (KF kb sb lb d Ld) w w') ∨
 (zX s name next < 2 ^ h∧(zk s name (Cod.be 4 (zX s name next+1))).1≠0∧e=.returned (.tuple #[zCe,.int .i64 (zk s name (Cod.be 4 (zX s name next+1))).1])∧ze w' kb sb name sd h (zX s name next) pr∧StN w N sb lb d Ld (zk s name (Cod.be 4 (zX s name next+1))).2 w'∧Chg (KF kb sb lb d Ld) w w') ∨
 (zX s name next < 2 ^ h∧(zk s name (Cod.be 4 (zX s name next+1))).1=0∧∃ vv pv,e=.returned (.tuple #[.agg #[.int .i64 h,.int .i64 (zX s name next),vv,pv],.int .i64 0]) ∧
  zL bV WfH 32 34 w' w.heap.size vv (Wot.signO sd (zX s name next) m)∧zL bV WfH 32 34 w' w.heap.size pv (Wot.proof h (zX s name next) (Wot.leaves sd (2 ^ h))) ∧
  ze w' kb sb name sd h (zX s name next+1) pr∧StN w N sb lb d Ld (zk s name (Cod.be 4 (zX s name next+1))).2 w'∧Chg (KF kb sb lb d Ld) w w')
set_option maxRecDepth 20000 in
set_option maxHeartbeats 2000000 in
theorem zCq (w:World) (N:Nat→Prop) (kb sb lb d Ld:Nat) (s:St) (name:ByteArray) (sd:List UInt8) (h next:Nat) (pr:List UInt8) (v:Value) (m:List UInt8) (hk:ze w kb sb name sd h next pr) (hst:zO w N sb lb d Ld s) (hs:sd.length=16) (hN:N kb) (hf:¬ zAe sb lb d Ld kb) (h4:∀ b,s.get name=some b→b.length≤7) (hnx:next≤1000000) (hh:h≤4)
  (hv:∀ w',Chg (KF kb sb lb d Ld) w w'→Bys w' v m) (hm:m.length≤1000) (hnm:name.size≤1000000) (hfew:s.disk.writes < 72057594037920000) :
  Calls Tryz.prog 13 #[.pointer (some ⟨kb,0,none⟩),v] w (zHB w N kb sb lb d Ld s name sd h next pr m):=by
 obtain ⟨va,vc,hvv⟩:=(hv w (Chg.refl _ _)).eq_slice
 subst hvv
 obtain ⟨mn,hmn⟩:∃ n,n=m.length:=⟨_,rfl⟩
 rw [← hmn] at hv ⊢
 have hlf:=fun w1 (hb:Below w.heap.size w w1) (N1:Nat→Prop) (hst1:zO w1 N1 sb lb d Ld s) (hN1:N1 kb)=>zCp w1 N1 kb sb lb d Ld s name sd h next pr (Blk.kept hk hb) hst1 hs hN1 hf h4 hnx hh
 unfold zHB
 obtain ⟨nx,hnxx⟩:∃ n,n=zX s name next:=⟨_,rfl⟩
 rw [← hnxx] at hlf ⊢
 obtain ⟨n,hn⟩:∃ n,n=2 ^ h:=⟨_,rfl⟩
 have hnb:n≤16:=by rw [hn];exact Nat.pow_le_pow_right (by decide) hh
 rw [← hn] at hlf ⊢
 have H:=Lib.hid (And.intro hk (And.intro hst (And.intro hlf (And.intro hv hn))))
 clear hk hst hlf hv hn hnxx hmn
 go_enter Tryz.func13,Tryz.ntmps13
 go_upto_region 1 with fail
 obtain ⟨w1,hw1⟩:∃ q,q=w.alloc (.cells #[.int .i64 0,.int .i64 0,.slice none 0 0,.slice none 0 0] 48):=⟨_,rfl⟩
 obtain ⟨p2,hp2⟩:∃ q,q=w.heap.size:=⟨_,rfl⟩
 have hb1:Below w.heap.size w w1:=by rw [hw1];exact (Below.refl _ _).alloc (Nat.le_refl _) _
 have hk1:Blk w1 p2 #[.int .i64 0,.int .i64 0,.slice none 0 0,.slice none 0 0] 48:=by rw [hw1,hp2];exact Blk.new _ _ _
 have hs01:w1.heap.size=w.heap.size+1:=by rw [hw1];simp
 rw [← hw1,← hp2]
 have hkl:kb < w.heap.size:=H.out.1.lt
 have hfl:∀ b,zAe sb lb d Ld b→b < w.heap.size:=H.out.2.1.lt
 obtain ⟨N1,hN1⟩:∃ N1:Nat→Prop,N1=fun b=>N b∨b=p2:=⟨_,rfl⟩
 have hst1:zO w1 N1 sb lb d Ld s:=by
  rw [hN1]
  exact H.out.2.1.grow (S:=fun _=>False) (Chg.of_below hb1) (fun _ _=>id) (fun _ h=>h.elim) (fun b hb=>hb.elim .inl (fun e=>.inr (by omega))) (fun b hb=>.inl hb) (fun b hb=>hb.elim (fun hb=>by have:=H.out.2.1.old b hb;omega) (fun e=>by omega))
 have hNk:N1 kb:=by rw [hN1];exact .inl hN
 have HNN:=Lib.hid (show (∀ b,N b→N1 b)∧(∀ b,N1 b→N b∨w.heap.size≤b)∧N1 p2 from by
  rw [hN1]
  exact ⟨fun b hb=>.inl hb,fun b hb=>hb.elim .inl (fun e=>.inr (by omega)),.inr rfl⟩)
 have H1:=Lib.hid (And.intro hb1 (And.intro hk1 (And.intro hp2 (And.intro hkl (And.intro hfl hst1)))))
 clear hw1 hp2 hb1 hk1 hkl hfl hN1 hN hst1
 go_wp2_with fail
 refine (H.out.2.2.1 w1 H1.out.1 N1 H1.out.2.2.2.2.2 hNk).mono ?_
 rintro e w2 ⟨rfl,hk2,hst2,hc2⟩
 have hkf:∀ b,b=kb→KF kb sb lb d Ld b:=fun b hb=>.inl hb
 have hc02:Chg (KF kb sb lb d Ld) w w2:=(Chg.of_below H1.out.1).trans (hc2.mono hkf)
 have hsg2:Blk w2 p2 #[.int .i64 0,.int .i64 0,.slice none 0 0,.slice none 0 0] 48:=hc2.blk H1.out.2.1 (fun e=>by have:=H1.out.2.2.1;have:=H1.out.2.2.2.1;have e:p2=kb:=e;omega)
 have H2:=Lib.hid (And.intro hk2 (And.intro hst2 (And.intro hNk (And.intro hf (And.intro hc02 hsg2)))))
 clear hk2 hst2 hc2 hc02 hsg2 hNk hf hkf
 have hfin:∀ (w3:World) (X:St) (nn:Nat) (cs:List Value),zO w3 N1 sb lb d Ld X→ze w3 kb sb name sd h nn pr→Chg (KF kb sb lb d Ld) w w3→ze (w3.setCells p2 0 cs) kb sb name sd h nn pr∧StN w N sb lb d Ld X (w3.setCells p2 0 cs)∧Chg (KF kb sb lb d Ld) w (w3.setCells p2 0 cs):=fun w3 X nn cs i1 i2 i3=>by
  have hc:Chg (fun b=>b=p2) w3 (w3.setCells p2 0 cs):=Chg.setCells (S:=fun b=>b=p2) (L:=p2) rfl _ _ _ (Chg.refl _ _)
  have hne:kb≠p2:=by have:=H1.out.2.2.1;have:=H1.out.2.2.2.1;omega
  refine ⟨Blk.setCells_other hne cs 0 _ i2,⟨N1,HNN.out.1,HNN.out.2.1,i1.chg hc (fun b hb e=>by have:=H1.out.2.2.1;have:=H1.out.2.2.2.2.1 b hb;omega) (fun b e _=>by subst e;exact HNN.out.2.2)⟩,zCE i3 hc (fun k e=>by have:=H1.out.2.2.1;omega)⟩
 have HFIN:=Lib.hid hfin
 clear hfin
 by_cases h0:n≤nx
 · have e0:n - nx=0:=by omega
   rw [e0]
   have q4:zi 4 w2 p2 0:=zQ H2.out.2.2.2.2.2 (by decide)
   have hca4:zAS 4 [Value.int .i64 0,.int .i64 0,.slice none 0 0,.slice none 0 0]:=⟨rfl,fun v hv=>by
    simp only [List.mem_cons,List.not_mem_nil,or_false] at hv
    rcases hv with rfl | rfl | rfl | rfl <;> rfl⟩
   have HLD:=Lib.hid (zAt q4 hca4)
   clear e0
   go_wp2_with fail
   obtain ⟨r1,r2,r3⟩:=HFIN.out w2 s nx [Value.int .i64 0,.int .i64 0,.slice none 0 0,.slice none 0 0] H2.out.2.1 H2.out.1 H2.out.2.2.2.2.1
   exact bodyPost_ret (v:=.tuple #[zCe,.int .i64 9]) (by simp [results,Tryz.results13,asAddr,HLD.out,zCe]) rfl (.inl ⟨h0,rfl,r1,r2,r3⟩)
 · have e0:((n - nx:Nat):Int)≠0:=by omega
   have eb:(((n - nx:Nat):Int) == 0)=false:=by simp;omega
   have c19:=H2.out.1.c19 hs
   obtain ⟨lf,hlf⟩:∃ z,z=n - nx:=⟨_,rfl⟩
   rw [← hlf] at e0 eb ⊢
   have q1:IntKind.i64.wrap ((nx:Int)+1)=((nx+1:Nat):Int):=by rw [IntWalk.i64_in _ (by omega)];omega
   clear hlf
   go_upto_region 4 with fail
   refine Tail.zT 12 (fun k=>k == 10 || k == 11) (fun k=>if k=11 then some (.int .i64 (zk s name (Cod.be 4 (nx+1))).1) else none)
    (fun D z w'=>SJ w2 N1 kb sb lb d Ld s name sd h nx pr (zk s name (Cod.be 4 (nx+1))).2 (nx+1) (z 10) (D 10) (D 11) w')
    (by kernel_rfl) (by kernel_rfl) (fun k hk=>by simp at hk;omega) (fun D z z' w' hz hh=>by cases hd:D 10 with | true=>(rw [hd] at hh;rw [← hz 10 hd];exact hh) | false=>(rw [hd] at hh;exact hh.swap _))
    (SJ.start H2.out.1 H2.out.2.1 H2.out.2.2.1 H2.out.2.2.2.1) (fun z=>?_)
   simp only [List.take_succ_cons,List.take_zero,List.drop_succ_cons,List.drop_zero]
   refine Tail.zI (by rfl) (by rfl) ?_
   apply Exists.intro
   refine ⟨fun w=>?_,?_⟩
   · go_simp <;> with_reducible rfl
   simp only [Act.put,List.setIfInBounds_toArray,List.set_cons_zero,List.set_cons_succ,Nat.reduceAdd,Nat.reduceEqDiff,reduceIte,Option.getD_some,Option.getD_none]
   refine Tail.zI (by rfl) (by rfl) ?_
   apply Exists.intro
   refine ⟨fun w=>?_,?_⟩
   · go_simp <;> with_reducible rfl
   simp only [Act.put,List.setIfInBounds_toArray,List.set_cons_zero,List.set_cons_succ,Nat.reduceAdd,Nat.reduceEqDiff,reduceIte,Option.getD_some,Option.getD_none]
   refine Tail.zI (by rfl) (by rfl) ?_
   apply Exists.intro
   refine ⟨fun w=>?_,?_⟩
   · go_simp <;> with_reducible rfl
   simp only [Act.put,List.setIfInBounds_toArray,List.set_cons_zero,List.set_cons_succ,Nat.reduceAdd,Nat.reduceEqDiff,reduceIte,Option.getD_some,Option.getD_none]
   refine Tail.zA0 (by rfl) (by rfl) ?_
   apply Exists.intro
   refine ⟨fun D w' hd hp hJ=>?_,?_⟩
   · have cc:=hJ.s0
     clear hJ
     go_simp <;> with_reducible rfl
   simp only [Act.put,List.setIfInBounds_toArray,List.set_cons_zero,List.set_cons_succ,Nat.reduceAdd,Nat.reduceEqDiff,reduceIte,Option.getD_some,Option.getD_none]
   refine Tail.zI (by rfl) (by rfl) ?_
   apply Exists.intro
   refine ⟨fun w=>?_,?_⟩
   · go_simp <;> with_reducible rfl
   simp only [Act.put,List.setIfInBounds_toArray,List.set_cons_zero,List.set_cons_succ,Nat.reduceAdd,Nat.reduceEqDiff,reduceIte,Option.getD_some,Option.getD_none]
   refine Tail.zI (by rfl) (by rfl) ?_
   apply Exists.intro
   refine ⟨fun w=>?_,?_⟩
   · go_simp <;> with_reducible rfl
   simp only [Act.put,List.setIfInBounds_toArray,List.set_cons_zero,List.set_cons_succ,Nat.reduceAdd,Nat.reduceEqDiff,reduceIte,Option.getD_some,Option.getD_none]
   refine Tail.zI (by rfl) (by rfl) ?_
   apply Exists.intro
   refine ⟨fun w=>?_,?_⟩
   · go_simp <;> with_reducible rfl
   simp only [Act.put,List.setIfInBounds_toArray,List.set_cons_zero,List.set_cons_succ,Nat.reduceAdd,Nat.reduceEqDiff,reduceIte,Option.getD_some,Option.getD_none]
   refine Tail.zA0 (by rfl) (by rfl) ?_
   apply Exists.intro
   refine ⟨fun D w' hd hp hJ=>?_,?_⟩
   · have cc:=hJ.s1
     clear hJ
     go_simp <;> with_reducible rfl
   simp only [Act.put,List.setIfInBounds_toArray,List.set_cons_zero,List.set_cons_succ,Nat.reduceAdd,Nat.reduceEqDiff,reduceIte,Option.getD_some,Option.getD_none]
   refine Tail.zI (by rfl) (by rfl) ?_
   apply Exists.intro
   refine ⟨fun w=>?_,?_⟩
   · go_simp <;> with_reducible rfl
   simp only [Act.put,List.setIfInBounds_toArray,List.set_cons_zero,List.set_cons_succ,Nat.reduceAdd,Nat.reduceEqDiff,reduceIte,Option.getD_some,Option.getD_none]
   refine Tail.zI (by rfl) (by rfl) ?_
   apply Exists.intro
   refine ⟨fun w=>?_,?_⟩
   · go_simp <;> with_reducible rfl
   simp only [Act.put,List.setIfInBounds_toArray,List.set_cons_zero,List.set_cons_succ,Nat.reduceAdd,Nat.reduceEqDiff,reduceIte,Option.getD_some,Option.getD_none]
   refine Tail.zAT (by rfl) (by rfl) ?_ ?_
   · apply Exists.intro
     apply Exists.intro
     refine ⟨fun w'=>?_,?_⟩
     · go_simp <;> exact ⟨rfl,rfl⟩
     intro D z' w' hD hz hd hp hJ
     have h11:D 11=false:=hp 11 (by kernel_rfl)
     rw [hD,h11] at hJ
     refine (zFK (nx+1) 4 (by omega) (by decide) (by decide) w').mono ?_
     rintro e w'' ⟨v,rfl,hv,hb⟩
     refine ⟨v,rfl,fun c hc=>by simp at hc,?_⟩
     simp [Tail.zAp,Tail.zAb,h11]
     exact hJ.made hv hb
   simp only [Act.put,List.setIfInBounds_toArray,List.set_cons_zero,List.set_cons_succ,Nat.reduceAdd,Nat.reduceEqDiff,reduceIte,Option.getD_some,Option.getD_none]
   refine Tail.zAT (by rfl) (by rfl) ?_ ?_
   · apply Exists.intro
     apply Exists.intro
     refine ⟨fun w'=>?_,?_⟩
     · go_simp <;> exact ⟨rfl,rfl⟩
     intro D z' w' hD hz hd hp hJ
     have h10:D 10=true:=hd 10 (by kernel_rfl)
     rw [hD,h10,← hz 10 h10] at hJ
     refine (zJL N1 sb lb d Ld s name _ (Cod.be 4 (nx+1)) w' hJ.st hJ.own.bys hnm (by rw [Cod.zt];decide) (fun w2 hc=>hJ.keep hc) hfew).mono ?_
     rintro e w'' ⟨rfl,hs,hc⟩
     refine ⟨_,rfl,fun c hc=>by simp at hc;rw [← hc],?_⟩
     simp [Tail.zAp,Tail.zAb,h10]
     exact hJ.put hs hc _
   simp only [Act.put,List.setIfInBounds_toArray,List.set_cons_zero,List.set_cons_succ,Nat.reduceAdd,Nat.reduceEqDiff,reduceIte,Option.getD_some,Option.getD_none]
   intro w3 hJ
   obtain ⟨hk3,hst3,hc3⟩:=hJ.fin
   clear hJ
   generalize z 10=v10
   clear z
   obtain ⟨er,her⟩:∃ z,z=(zk s name (Cod.be 4 (nx+1))).1:=⟨_,rfl⟩
   rw [← her]
   have H3:=Lib.hid (And.intro hk3 (And.intro hst3 (And.intro hc3 her)))
   have hsg3:=hc3.blk H2.out.2.2.2.2.2 (fun e=>by have:=H1.out.2.2.1;have:=H1.out.2.2.2.2.1 _ e;omega)
   have HS3:=Lib.hid hsg3
   have hc19:=hk3.c19 hs
   have hf19:=Blk.free hk3 19
   clear hk3 hst3 hc3 her
   by_cases hz:er=0
   · subst hz
     have hc4:Chg (fun b=>b=kb) w3 (w3.setCell ⟨kb,19,none⟩ (.int .i64 ((nx:Int)+1))):=Chg.set (S:=fun b=>b=kb) (a:=⟨kb,19,none⟩) (Chg.refl _ _) rfl _
     have hk4:ze (w3.setCell ⟨kb,19,none⟩ (.int .i64 ((nx:Int)+1))) kb sb name sd h (nx+1) pr:=H3.out.1.set hs (nx+1)
     have hst4:=H3.out.2.1.chg hc4 (fun b hb e=>by subst e;exact H2.out.2.2.2.1 hb) (fun b e _=>by subst e;exact H2.out.2.2.1)
     have hne:p2≠kb:=by have:=H1.out.2.2.1;have:=H1.out.2.2.2.1;omega
     have hsg4:=hc4.blk hsg3 hne
     have hc04:Chg (KF kb sb lb d Ld) w (w3.setCell ⟨kb,19,none⟩ (.int .i64 ((nx:Int)+1))):=(H2.out.2.2.2.2.1.trans (H3.out.2.2.1.mono fun b hb=>.inr hb)).trans (hc4.mono fun b hb=>.inl hb)
     go_upto_region 8 with fail
     obtain ⟨w4,hw4⟩:∃ q,q=w3.setCell ⟨kb,19,none⟩ (.int .i64 ((nx:Int)+1)):=⟨_,rfl⟩
     rw [← hw4] at hk4 hst4 hsg4 hc04 ⊢
     have hs04:=hc04.size
     have hps:=hsg4.lt
     have H4:=Lib.hid (And.intro hk4 (And.intro hst4 (And.intro hsg4 hc04)))
     clear hc4 hk4 hst4 hsg4 hc04 hw4 hsg3 hc19 hf19 hne
     refine Tail.zT 13 (fun k=>k == 10) (fun k=>none)
      (fun D z w'=>Below w4.heap.size w4 w'∧(D 10=true→∃ x y,z 10=.tuple #[x,y]∧y=.int .i64 0∧∃ vv pv,x=.agg #[.int .i64 h,.int .i64 nx,vv,pv]∧zL bV WfH 32 34 w' w4.heap.size vv (Wot.signO sd nx m)∧zL bV WfH 32 34 w' w4.heap.size pv (Wot.proof h nx (Wot.leaves sd (2 ^ h)))))
      (by kernel_rfl) (by kernel_rfl) (fun k hk=>by simp at hk;omega) (fun D z z' w' hz hh=>⟨hh.1,fun d=>by rw [← hz 10 d];exact hh.2 d⟩)
      (⟨(Below.refl _ _).drew,(fun h=>by cases h)⟩) (fun z=>?_)
     simp only [List.take_succ_cons,List.take_zero,List.drop_succ_cons,List.drop_zero]
     refine Tail.zI (by rfl) (by rfl) ?_
     apply Exists.intro
     refine ⟨fun w=>?_,?_⟩
     · go_simp <;> with_reducible rfl
     simp only [Act.put,List.setIfInBounds_toArray,List.set_cons_zero,List.set_cons_succ,Nat.reduceAdd,Nat.reduceEqDiff,reduceIte,Option.getD_some,Option.getD_none]
     refine Tail.zI (by rfl) (by rfl) ?_
     apply Exists.intro
     refine ⟨fun w=>?_,?_⟩
     · go_simp <;> with_reducible rfl
     simp only [Act.put,List.setIfInBounds_toArray,List.set_cons_zero,List.set_cons_succ,Nat.reduceAdd,Nat.reduceEqDiff,reduceIte,Option.getD_some,Option.getD_none]
     refine Tail.zI (by rfl) (by rfl) ?_
     apply Exists.intro
     refine ⟨fun w=>?_,?_⟩
     · go_simp <;> with_reducible rfl
     simp only [Act.put,List.setIfInBounds_toArray,List.set_cons_zero,List.set_cons_succ,Nat.reduceAdd,Nat.reduceEqDiff,reduceIte,Option.getD_some,Option.getD_none]
     refine Tail.zBc (by rfl) (by rfl) _ _ rfl kb 2 (by rfl) (bV sd) (fun D w' _ _ hJ=>ze.rng (Blk.kept H4.out.1 hJ.1)) Tryz.underlying23 rfl (by rw [zG,hs];exact zIt) ?_
     simp only [Act.put,List.setIfInBounds_toArray,List.set_cons_zero,List.set_cons_succ,Nat.reduceAdd,Nat.reduceEqDiff,reduceIte,Option.getD_some,Option.getD_none]
     refine Tail.zI (by rfl) (by rfl) ?_
     apply Exists.intro
     refine ⟨fun w=>?_,?_⟩
     · go_simp <;> with_reducible rfl
     simp only [Act.put,List.setIfInBounds_toArray,List.set_cons_zero,List.set_cons_succ,Nat.reduceAdd,Nat.reduceEqDiff,reduceIte,Option.getD_some,Option.getD_none]
     refine Tail.zI (by rfl) (by rfl) ?_
     apply Exists.intro
     refine ⟨fun w=>?_,?_⟩
     · go_simp <;> with_reducible rfl
     simp only [Act.put,List.setIfInBounds_toArray,List.set_cons_zero,List.set_cons_succ,Nat.reduceAdd,Nat.reduceEqDiff,reduceIte,Option.getD_some,Option.getD_none]
     refine Tail.zI (by rfl) (by rfl) ?_
     apply Exists.intro
     refine ⟨fun w=>?_,?_⟩
     · go_simp <;> with_reducible rfl
     simp only [Act.put,List.setIfInBounds_toArray,List.set_cons_zero,List.set_cons_succ,Nat.reduceAdd,Nat.reduceEqDiff,reduceIte,Option.getD_some,Option.getD_none]
     refine Tail.zA0 (by rfl) (by rfl) ?_
     apply Exists.intro
     refine ⟨fun D w' hd hp hJ=>?_,?_⟩
     · have cc:=(show w'.cell? ⟨kb,18,none⟩=some (.int .i64 h) from ze.c18 (Blk.kept H4.out.1 hJ.1) hs)
       clear hJ
       go_simp <;> with_reducible rfl
     simp only [Act.put,List.setIfInBounds_toArray,List.set_cons_zero,List.set_cons_succ,Nat.reduceAdd,Nat.reduceEqDiff,reduceIte,Option.getD_some,Option.getD_none]
     refine Tail.zI (by rfl) (by rfl) ?_
     apply Exists.intro
     refine ⟨fun w=>?_,?_⟩
     · go_simp <;> with_reducible rfl
     simp only [Act.put,List.setIfInBounds_toArray,List.set_cons_zero,List.set_cons_succ,Nat.reduceAdd,Nat.reduceEqDiff,reduceIte,Option.getD_some,Option.getD_none]
     refine Tail.zI (by rfl) (by rfl) ?_
     apply Exists.intro
     refine ⟨fun w=>?_,?_⟩
     · go_simp <;> with_reducible rfl
     simp only [Act.put,List.setIfInBounds_toArray,List.set_cons_zero,List.set_cons_succ,Nat.reduceAdd,Nat.reduceEqDiff,reduceIte,Option.getD_some,Option.getD_none]
     refine Tail.zAT (by rfl) (by rfl) ?_ ?_
     · apply Exists.intro
       apply Exists.intro
       refine ⟨fun w'=>?_,?_⟩
       · go_simp <;> exact ⟨rfl,rfl⟩
       intro D z' w' hD hz hd hp hJ
       refine (zHr sd h nx _ m w' ((H4.out.2.1.below hJ.1).tab) hs hh (by have:=H.out.2.2.2.2;omega) (H.out.2.2.2.1 w' (H4.out.2.2.2.trans (Chg.of_below hJ.1))) hm).mono ?_
       rintro e w'' ⟨vv,pv,rfl,hh1,hh2,hb⟩
       refine ⟨_,rfl,fun c hc=>by simp at hc,hJ.1.trans (hb.mono hJ.1.size),fun _=>⟨_,_,by simp [Tail.zAb],rfl,vv,pv,rfl,hh1.lower hJ.1.size,hh2.lower hJ.1.size⟩⟩
     simp only [Act.put,List.setIfInBounds_toArray,List.set_cons_zero,List.set_cons_succ,Nat.reduceAdd,Nat.reduceEqDiff,reduceIte,Option.getD_some,Option.getD_none]
     refine Tail.zA0 (by rfl) (by rfl) ?_
     refine ⟨zBM (z 10) 0,fun D w' hd hp hJ=>?_,?_⟩
     · obtain ⟨x,y,e,_⟩:=hJ.2 (hd 10 (by kernel_rfl))
       rw [show zBM (z 10) 0=x from by rw [e];rfl]
       simp only [e]
       go_simp <;> with_reducible rfl
     simp only [Act.put,List.setIfInBounds_toArray,List.set_cons_zero,List.set_cons_succ,Nat.reduceAdd,Nat.reduceEqDiff,reduceIte,Option.getD_some,Option.getD_none]
     refine Tail.zA0 (by rfl) (by rfl) ?_
     refine ⟨zBM (z 10) 1,fun D w' hd hp hJ=>?_,?_⟩
     · obtain ⟨x,y,e,_⟩:=hJ.2 (hd 10 (by kernel_rfl))
       rw [show zBM (z 10) 1=y from by rw [e];rfl]
       simp only [e]
       go_simp <;> with_reducible rfl
     simp only [Act.put,List.setIfInBounds_toArray,List.set_cons_zero,List.set_cons_succ,Nat.reduceAdd,Nat.reduceEqDiff,reduceIte,Option.getD_some,Option.getD_none]
     intro w5 hJ
     obtain ⟨xv,yv,hz,hyv,vv,pv,hxv,ho1,ho2⟩:=hJ.2 rfl
     have hb5:=hJ.1
     rw [show zBM (z 10) 0=xv from by rw [hz];rfl,show zBM (z 10) 1=yv from by rw [hz];rfl,hz]
     clear hJ hz z
     subst hxv hyv
     have hsg5:=H4.out.2.2.1.kept hb5
     have q4:zi 4 w5 p2 0:=zQ hsg5 (by decide)
     obtain ⟨va1,vc1,e1⟩:=ho1.slice
     obtain ⟨va2,vc2,e2⟩:=ho2.slice
     subst e1 e2
     obtain ⟨n1,hn1⟩:∃ x,x=(Wot.signO sd nx m).length:=⟨_,rfl⟩
     obtain ⟨n2,hn2⟩:∃ x,x=(Wot.proof h nx (Wot.leaves sd (2 ^ h))).length:=⟨_,rfl⟩
     rw [← hn1] at ho1 ⊢
     rw [← hn2] at ho2 ⊢
     have hca4:zAS 4 [Value.int .i64 h,.int .i64 nx,.slice va1 n1 vc1,.slice va2 n2 vc2]:=⟨rfl,fun v hv=>by
      simp only [List.mem_cons,List.not_mem_nil,or_false] at hv
      rcases hv with rfl | rfl | rfl | rfl <;> rfl⟩
     have HLD:=Lib.hid (zAt q4 hca4)
     have H5:=Lib.hid (And.intro hb5 (And.intro ho1 ho2))
     clear hb5 ho1 ho2 hn1 hn2 hsg5
     go_wp2_with fail
     obtain ⟨r1,r2,r3⟩:=HFIN.out w5 _ (nx+1) [Value.int .i64 h,.int .i64 nx,.slice va1 n1 vc1,.slice va2 n2 vc2] (H4.out.2.1.below H5.out.1) (Blk.kept H4.out.1 H5.out.1) (H4.out.2.2.2.trans (Chg.of_below H5.out.1))
     have hcp:Chg (fun b=>b=p2) w5 (w5.setCells p2 0 [Value.int .i64 h,.int .i64 nx,.slice va1 n1 vc1,.slice va2 n2 vc2]):=Chg.setCells (S:=fun b=>b=p2) (L:=p2) rfl _ _ _ (Chg.refl _ _)
     have hrow:∀ (v:Value) (l:List (List UInt8)),zL bV WfH 32 34 w5 w4.heap.size v l→zL bV WfH 32 34 (w5.setCells p2 0 [Value.int .i64 h,.int .i64 nx,.slice va1 n1 vc1,.slice va2 n2 vc2]) w.heap.size v l:=fun v l ho=>(ho.chg hcp (fun g hg e=>by have:=ho.ge hg;omega)).lower hs04
     exact bodyPost_ret (v:=.tuple #[.agg #[.int .i64 h,.int .i64 nx,.slice va1 n1 vc1,.slice va2 n2 vc2],.int .i64 0]) (by simp [results,Tryz.results13,asAddr,HLD.out]) rfl (.inr (.inr ⟨by omega,H3.out.2.2.2.symm,_,_,rfl,hrow _ _ H5.out.2.1,(by have:=hrow _ _ H5.out.2.2;rw [← H.out.2.2.2.2] at this;exact this),r1,r2,r3⟩))
   · have hzb:(er != 0)=true:=by simp [hz]
     have q4:zi 4 w3 p2 0:=zQ hsg3 (by decide)
     have hca4:zAS 4 [Value.int .i64 0,.int .i64 0,.slice none 0 0,.slice none 0 0]:=⟨rfl,fun v hv=>by
      simp only [List.mem_cons,List.not_mem_nil,or_false] at hv
      rcases hv with rfl | rfl | rfl | rfl <;> rfl⟩
     have HLD:=Lib.hid (zAt q4 hca4)
     clear hsg3 hc19 hf19
     go_wp2_with fail
     obtain ⟨r1,r2,r3⟩:=HFIN.out w3 _ nx [Value.int .i64 0,.int .i64 0,.slice none 0 0,.slice none 0 0] H3.out.2.1 H3.out.1 (H2.out.2.2.2.2.1.trans (H3.out.2.2.1.mono fun b hb=>.inr hb))
     exact bodyPost_ret (v:=.tuple #[zCe,.int .i64 er]) (by simp [results,Tryz.results13,asAddr,HLD.out,zCe]) rfl (.inr (.inl ⟨by omega,by rw [← H3.out.2.2.2];exact hz,by rw [← H3.out.2.2.2],r1,r2,r3⟩))
end Go.Proofs.YtdlkghdfkjdajaaGreatDoor
end
