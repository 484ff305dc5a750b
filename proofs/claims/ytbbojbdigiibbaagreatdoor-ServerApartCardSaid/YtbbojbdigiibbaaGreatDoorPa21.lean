/- Texts of this proof,packed: SrvWTick,SrvSwapOne,SrvApartL,SrvBads,SrvFullL,SrvApartS,SrvPlay7,SrvSame,ServerApartWalk,TabOf. -/
import Derived.Test.YtbbojbdigiibbaaGreatDoorPa19
import Derived.Test.YtbbojbdigiibbaaGreatDoorPa20
import Derived.Test.YtbbojbdigiibbaaGreatDoorPa18
import Derived.Test.YtbbojbdigiibbaaGreatDoorPa14
import Derived.Test.YtbbojbdigiibbaaGreatDoorPa13
import Derived.Test.YtbbojbdigiibbaaGreatDoorPa11
import Derived.Test.YtbbojbdigiibbaaGreatDoorPa00
import Derived.Test.YtbbojbdigiibbaaGreatDoorPa08
import Derived.Test.YtbbojbdigiibbaaGreatDoorRows
import Derived.Test.YtbbojbdigiibbaaGreatDoorPa01
import Derived.Lib.LaidTab
import Derived.LaidMore
section
namespace Go.Mem
open Go Go.RowKit Gf Lea Go.Proofs.YtbbojbdigiibbaaGreatDoor
theorem zFp {α:Type} [DecidableEq α]:∀ (R L:List α),R.Nodup→(∀ x∈R,x∈L)→R.length≤L.length
 | [],_,_,_=>Nat.zero_le _
 | x::R,L,hn,hs=>by
   have hx:=hs x (by simp)
   have h1:=zFp R (L.erase x) (List.nodup_cons.1 hn).2 fun y hy=>(List.mem_erase_of_ne (fun e=>(List.nodup_cons.1 hn).1 (by rw [← e];exact hy))).2 (hs y (by simp [hy]))
   have h2:=List.length_erase_of_mem hx
   have h3:=List.length_pos_of_mem hx
   rw [List.length_cons];omega
theorem swN_ix {s:zG} {k:Key} (hk:k.length=16) {nm:ByteArray} (h:nm∈swN s k):zDt nm=k:=by
 unfold swN at h
 rcases List.mem_append.1 h with h | h
 · obtain ⟨x,_,rfl⟩:=List.mem_map.1 h
   exact zB5 _ hk
 · simp only [List.mem_cons,List.not_mem_nil,or_false] at h
   rcases h with rfl | rfl
   · exact zCY hk
   · exact zDX hk
theorem zDC:∀ (L:List Key) {m:Nat} {s:zG},zA2 m s→(∀ k∈L,k.length=16) →
  (zQ L s).2.1=0∧zA2 (m+18*L.length) (zQ L s).2.2∧(zQ L s).2.2.tab=s.tab∧∀ nm,zDt nm∉L→Sto.look (zQ L s).2.2.st.recs nm=Sto.look s.st.recs nm
 | [],m,s,h,_=>⟨rfl,h,rfl,fun _ _=>rfl⟩
 | k::L,m,s,h,hk=>by
   have hc:=zEH (swN s k) (t:=false) h.st h.calm
   obtain ⟨c1,c2,c3,c4,c5,c6,_⟩:=hc
   have hW:zA2 (m+18) { s with st:=(zAI (swN s k) s.st false).2.2 }:=⟨c2.le (by have:=zFa s k;omega),c3,h.good,h.wf,h.brk,by have:=h.len;show s.tab.length≤_;omega,by show (zAI (swN s k) s.st false).2.2.recs.length≤120;rw [c5];exact h.few⟩
   obtain ⟨i1,i2,i3,i4⟩:=zDC L hW fun x hx=>hk x (by simp [hx])
   have e:(zQ (k::L) s).2=(zQ L { s with st:=(zAI (swN s k) s.st false).2.2 }).2:=by rw [zQ,if_pos c1]
   rw [e]
   refine ⟨i1,i2.le (by rw [List.length_cons];omega),i3,fun nm hn=>?_⟩
   rw [i4 nm fun hm=>hn (by simp [hm])]
   show Sto.look (zAI (swN s k) s.st false).2.2.recs nm=_
   exact (c6 nm).2 fun hm=>hn (by rw [swN_ix (hk k (by simp)) hm];simp)
theorem zCR {pk:Key→List UInt8}:∀ (L:List Key) {m:Nat} {s:zG},zA2 m s→m+L.length < 1000000→(∀ ix∈L,zAm (zD ix) (pk ix)) →
  (zAJ pk L s).1=false∧zA2 (m+L.length) (zAJ pk L s).2∧(zAJ pk L s).2.tab=s.tab∧∀ nm,(∀ ix,nm≠zD ix)→Sto.look (zAJ pk L s).2.st.recs nm=Sto.look s.st.recs nm
 | [],m,s,h,_,_=>⟨rfl,h,rfl,fun _ _=>rfl⟩
 | k::L,m,s,h,hm,hr=>by
   rw [List.length_cons] at hm ⊢
   by_cases hg:s.st.get (zD k)=some (pk k)
   · rw [zFL hg]
     obtain ⟨i1,i2,i3,i4⟩:=zCR L h (by omega) fun x hx=>hr x (by simp [hx])
     exact ⟨i1,i2.le (by omega),i3,i4⟩
   · rcases h.put (by omega) (hr k (by simp)) with ⟨d1,d2,d3⟩ | ⟨d1,d2,d3⟩
     · rw [zC0 hg (by rw [d1];decide)]
       obtain ⟨i1,i2,i3,i4⟩:=zCR L d2 (by omega) fun x hx=>hr x (by simp [hx])
       refine ⟨i1,i2.le (by omega),i3,fun nm hn=>?_⟩
       rw [i4 nm hn]
       show Sto.look (zO s.st (zD k) (pk k)).2.recs nm=_
       rw [d3,upd,if_neg (hn k)]
     · rw [zC0 hg d2,d3]
       obtain ⟨i1,i2,i3,i4⟩:=zCR L h (by omega) fun x hx=>hr x (by simp [hx])
       exact ⟨i1,i2.le (by omega),i3,i4⟩
theorem zA2.tick {m:Nat} {s s':zG} (h:zA2 m s) (hm:m < 900000) (ht:s.tab.length≤1000) {now:Int} {out:List Key} (hT:zMr s now out s') :
  zA2 (m+18*s.tab.length+3000) s'∧s'.tab.length≤s.tab.length∧(∀ x∈s.tab,now < x.e→x∈s'.tab∧∀ nm,zDt nm=x.ix→(∀ ix,nm≠zD ix)→Sto.look s'.st.recs nm=Sto.look s.st.recs nm):=by
 obtain ⟨l1,R,hE,hT⟩:=hT
 have hsub:=zDV hE
 have hg1:Lea.Good l1:=(h.good.sub List.filter_sublist).perm hE.perm
 have hw1:∀ x∈l1,Wf x:=fun x hx=>h.wf x (hsub.1 x hx)
 have hW1:zA2 m { s with tab:=l1 }:=⟨h.st,h.calm,hg1,hw1,h.brk,Nat.le_trans hsub.2 h.len,h.few⟩
 have hRn:R.Nodup:=hE.up.imp fun {a b} h e=>by rw [e,zDH] at h;omega
 have hRl:R.length≤s.tab.length:=by
  have h1:=zFp R (s.tab.map (·.ix)) hRn fun k hk=>by
   obtain ⟨⟨x,hx,e,_⟩,_⟩:=(hE.mem k).1 hk
   exact List.mem_map.2 ⟨x,hx,e⟩
  rw [List.length_map] at h1
  exact h1
 have hRk:∀ k∈R,k.length=16:=fun k hk=>by
  obtain ⟨⟨x,hx,e,_⟩,_⟩:=(hE.mem k).1 hk
  rw [← e];exact (h.wf x hx).1
 obtain ⟨a1,a2,a3,a4⟩:=zDC R hW1 hRk
 rcases hT with ⟨b1,_⟩ | ⟨_,I,pk,hI,hpk,hT⟩
 · exact absurd a1 b1
 generalize (zQ R { s with tab:=l1 }).2.2=s1 at *
 have hrl:∀ {st:St} {I:List Key},st.recs.length≤120→zIz st I→I.length≤120:=fun {st I} hf hI=>by
  have h1:=zFp I (st.recs.map fun r=>zDt r.name) hI.nodup fun k hk=>by
   obtain ⟨_,r,hr,_,e⟩:=(hI.mem k).1 hk
   exact List.mem_map.2 ⟨r,hr,e⟩
  rw [List.length_map] at h1
  omega
 have hIl:=hrl a2.few hI
 have hHl:=zFn l1 I
 have hHo:∀ ix∈zBR l1 I,zAm (zD ix) (pk ix):=fun ix hi=>by
  obtain ⟨o,h1,h2⟩:=hpk ix hi
  have hne:=(zHt hi).2
  obtain ⟨p,hp⟩:=List.exists_mem_of_ne_nil _ hne
  obtain ⟨x,hx,e,_⟩:=zBs.1 hp
  rw [h2]
  exact zAm.lease ix o (by rw [← e];exact (hw1 x hx).1) (zDN hw1 hg1 h1 fun e=>hne (h1.nil_iff.1 e))
 obtain ⟨b1,b2,b3,b4⟩:=zCR (pk:=pk) (zBR l1 I) a2 (by omega) hHo
 rcases hT with ⟨c1,_⟩ | ⟨_,I2,hI2,_,rfl⟩
 · rw [b1] at c1;cases c1
 generalize (zAJ pk (zBR l1 I) s1).2=s2 at *
 have hI2l:=hrl b2.few hI2
 have hFl:(I2.filter fun ix=>decide (ofL l1 ix=[])).length≤120:=Nat.le_trans (List.length_filter_le _ _) hI2l
 have hFk:∀ k∈I2.filter fun ix=>decide (ofL l1 ix=[]),k.length=16:=fun k hk=>by
  obtain ⟨_,r,hr,his,e⟩:=(hI2.mem k).1 (List.mem_filter.1 hk).1
  rw [← e]
  have:=b2.st.recs r hr his
  generalize r.name=nm at this
  generalize r.data=dt at this
  cases this with
  | share ix n data h hn hd=>rw [zB5 n h];exact h
  | slot ix k l h hk hl h16 hu=>rw [zCY h];exact h
  | lease ix out h hl=>rw [zDX h];exact h
 obtain ⟨c1,c2,c3,c4⟩:=zDC _ b2 hFk
 refine ⟨c2.le (by omega),by rw [c3,b3,a3];exact hsub.2,fun x hx hnow=>?_⟩
 have hin:x∈l1:=hE.perm.mem_iff.2 (List.mem_filter.2 ⟨hx,by simpa using hnow⟩)
 refine ⟨by rw [c3,b3,a3];exact hin,fun nm hnm hnl=>?_⟩
 have hxl:=(h.wf x hx).1
 rw [c4 nm ?_,b4 nm ?_,a4 nm ?_]
 · intro hm
   rw [hnm] at hm
   exact ((hE.mem _).1 hm).2 x hin rfl
 · exact hnl
 · intro hm
   rw [hnm] at hm
   have:=(List.mem_filter.1 hm).2
   simp only [decide_eq_true_eq] at this
   have hp:(x.sec,x.e)∈ofL l1 x.ix:=zBs.2 ⟨x,hin,rfl,rfl⟩
   rw [this] at hp;cases hp
end Go.Mem
end
section
namespace Go.Mem
open Go Go.RowKit Gf Lea Go.Proofs.YtbbojbdigiibbaaGreatDoor
theorem zBU.swap_one {m:Nat} {s:zG} (h:zBU m s) (hm:m+1 < 1000000) {r:Req} (hr:r.Wf) {n:Nat} {data:List UInt8} (hn:n < 16) (hme:May r.ends) (hd:data.length≤100) (hroom:8≤s.room) (hlive:zAV s.st.recs+2≤s.st.recs.length) (hst:s.st.disk.stops=false) {E:Int}
  (hE:∀ b l2,zBK s.tab r.ix r.sec r.ends b l2→b=true∧l2.Perm [⟨r.ix,r.sec,E⟩]) {err:Int} {s':zG} (hp:zAs s r [((n:Int),data)] [] none err s') :
  err=0∧zBU (m+2) s'∧s'.tab.Perm [⟨r.ix,r.sec,E⟩]∧(∀ nm,Sto.look s'.st.recs nm=upd (upd (Sto.look s.st.recs) (zw r.ix) (some (zAA r.en [((n:Int),data)]))) (zD r.ix) (some (zu [(r.sec,E)])) nm)∧s'.st.disk.stops=false:=by
 have hbo:zDy [((n:Int),data)]:=⟨fun x hx=>by rw [List.mem_singleton.1 hx];exact ⟨by show (0:Int)≤(n:Int);omega,by show (n:Int) < 16;omega⟩,fun x hx=>by rw [List.mem_singleton.1 hx];show data.length≤16384;omega⟩
 have hcl:(zAA r.en [((n:Int),data)]).length≤170:=by
  have h1:=zDd r.en (by rw [hr.en];decide)
  have h2:=zDd (Cod.be 1 n) (by rw [Cod.zAR];omega)
  have h3:=zDd data (by omega)
  rw [hr.en] at h1
  rw [Cod.zAR] at h2
  have e:zAA r.en [((n:Int),data)]=Cod.net r.en++(Cod.net (Cod.be 1 n)++Cod.net data):=by
   unfold zAA
   rw [zLZ]
   simp [Cod.zA9]
  rw [e,List.length_append,List.length_append]
  omega
 have hfit:zAb s.st.room (zw r.ix) (zAA r.en [((n:Int),data)])=true:=zGW (by rw [zEY _ hr.ix];omega) (by omega) (by rw [zEY _ hr.ix,← h.room];omega)
 have hlf:=zDZ (room:=s.st.room) (by rw [← h.room];exact hroom) hr.ix hr.sec E
 have hfl:=zEu h
 have hslot:Sto.slot s.st.recs < s.st.recs.length:=zDi (by omega)
 have hnl:∀ ix,zw r.ix≠zD ix:=fun ix=>zCt
 have hok:zAm (zw r.ix) (zAA r.en [((n:Int),data)]):=zAm.slot r.ix r.en _ hr.ix hr.en hbo (by simp) (by simp) (by simp)
 have hask:∀ err',zEa s r.ix r.sec r.ends (zw r.ix) (zAA r.en [((n:Int),data)]) false err'→err'=0:=fun err' ha=>by
  obtain ⟨b,l2,out,ha1,ha2,rfl⟩:=ha
  obtain ⟨rfl,hp2⟩:=hE _ _ ha1
  have ho:=OfR.one hp2 (ha2 rfl)
  subst ho
  rw [if_neg (by simp;omega),if_neg (by simp [hfit,hlf])]
 have hnums:zAY [((n:Int),data)]:=⟨hbo.num,by simp⟩
 have he:∀ {l':List zM},l'.Perm (zAo [((n:Int),data)] (zAy none))→l'=[((n:Int),data)]:=fun hp=>List.perm_singleton.1 hp
 have hen:zCN r none=r.en:=rfl
 cases hp with
 | form h'=>exact absurd ⟨by simp,hnums,hme⟩ h'
 | enable _ ho _=>cases ho
 | test _ _ ht=>obtain ⟨t,ht,_⟩:=ht;cases ht
 | no _ _ _ l' hp' _ _ ha h0 =>
   rw [he hp',hen] at ha
   exact absurd (hask _ ha) h0
 | torn _ _ _ l' hp' _ ha h0 =>
   rw [he hp',hen] at h0
   rcases h.put (by omega) hok hnl with ⟨h1,_⟩ | ⟨h1,_⟩ | ⟨h1,h2,_⟩
   · exact absurd h1 h0
   · exfalso
     have hput:=h.st.put (by omega) hok
     generalize zO s.st (zw r.ix) (zAA r.en [((n:Int),data)])=R at hput h1
     cases hput with
     | arg h'=>rw [hfit] at h';cases h'
     | full _ h'=>omega
     | done _ _ _ _ _ _ _=>simp only at h1;omega
     | torn _ _ _ _ _ _ _ _ _ _=>simp only at h1;omega
   · rw [hst] at h2;cases h2
 | put _ _ _ l' hp' _ _ _ ha h0 hs =>
   rw [he hp',hen] at h0 hs
   rcases h.put (by omega) hok hnl with ⟨h1,h2,h3,h4⟩ | ⟨h1,_⟩ | ⟨h1,_⟩
   · have hrec:(zO s.st (zw r.ix) (zAA r.en [((n:Int),data)])).2.recs=putF s.st.recs (zw r.ix) (zAA r.en [((n:Int),data)]):=by
      have hput:=h.st.put (m:=m) (by omega) hok
      generalize zO s.st (zw r.ix) (zAA r.en [((n:Int),data)])=R at hput h0
      cases hput with
      | arg h'=>rw [hfit] at h';cases h'
      | full _ h'=>omega
      | done _ _ _ hr' _ _ _=>exact hr'
      | torn _ _ _ _ _ _ _ _ _ _=>simp only at h0;omega
     have hlv:=zIY hslot (zw r.ix) (zAA r.en [((n:Int),data)])
     have hln:=zEE s.st.recs (zw r.ix) (zAA r.en [((n:Int),data)])
     have hlv2:zAV (zO s.st (zw r.ix) (zAA r.en [((n:Int),data)])).2.recs+1≤(zO s.st (zw r.ix) (zAA r.en [((n:Int),data)])).2.recs.length:=by rw [hrec,hln];omega
     rcases h2.add_one hm hr.ix hr.sec hroom hlv2 hE hs with ⟨a1,a2,a3,a4,a5⟩ | ⟨a1,a2,l,a3,a4⟩
     · refine ⟨a1,a2,a3,fun nm=>?_,a5.trans (h4.trans hst)⟩
       rw [a4]
       unfold upd
       split
       · rfl
       · exact h3 nm
     · have h4':(zO s.st (zw r.ix) (zAA r.en [((n:Int),data)])).2.disk.stops=false:=h4.trans hst
       rw [show ({ s with st:=(zO s.st (zw r.ix) (zAA r.en [((n:Int),data)])).2 }:zG).st.disk.stops=false from h4'] at a2
       cases a2
   · omega
   · omega
end Go.Mem
end
section
namespace Go.Mem
open Go Go.RowKit Gf Lea Go.Proofs.YtbbojbdigiibbaaGreatDoor
def k7:Key:=7::List.replicate 15 0
theorem zB6:k7.length=16:=rfl
structure zAc (d:List UInt8) (m:Nat) (s:zG):Prop where
 w:zA2 m s
 sh:∀ n,n < 16→Sto.look s.st.recs (zI k7 n)=if n=4 then some d else none
 slot:Sto.look s.st.recs (zw k7)=some (zAA z16 [((1:Int),d)])
 tab:∃ x∈s.tab,x.ix=k7∧x.e=90
theorem zAc.le {d:List UInt8} {m m':Nat} {s:zG} (h:zAc d m s) (hm:m≤m'):zAc d m' s:=⟨h.w.le hm,h.sh,h.slot,h.tab⟩
theorem zAc.of_keep {d:List UInt8} {m m':Nat} {s s':zG} (h:zAc d m s) (hw:zA2 m' s') {ix:Key} (hk:zBQ ix s s') (hn:ix≠k7):zAc d m' s':=by
 refine ⟨hw,fun n hn'=>?_,?_,?_⟩
 · rw [hk.1 _ (by rw [zB5 n zB6];exact fun e=>hn e.symm)];exact h.sh n hn'
 · rw [hk.1 _ (by rw [zCY zB6];exact fun e=>hn e.symm)];exact h.slot
 · obtain ⟨x,hx,h1,h2⟩:=h.tab
   have hm:(x.sec,x.e)∈ofL s.tab k7:=zBs.2 ⟨x,hx,h1,rfl⟩
   have hm':=(hk.2.1 k7 (fun e=>hn e.symm)).mem_iff.2 hm
   obtain ⟨y,hy,g1,g2⟩:=zBs.1 hm'
   injection g2 with g3 g4
   exact ⟨y,hy,g1,g4.trans h2⟩
theorem zAc.step {d:List UInt8} {m:Nat} {s s':zG} (h:zAc d m s) (hm:m+1 < 1000000) {r:Req} (hr:r.Wf) (hn:r.ix≠k7) {l:List zM} (hz:∀ x∈l,x.2.length≤16384) {ts:List Tst} {o:Option (Key × List zM)} (ho:zBS s r.ix o) {err:Int} {lb:List zM} (hR:DoR s r l ts o err lb s'):zAc d (m+2) s'∧s'.tab.length≤s.tab.length+1:=by
 obtain ⟨h1,h2⟩:=h.w.step hm hr hz ho hR
 exact ⟨h.of_keep h1 h2 hn,h2.2.2⟩
theorem zAc.tick {d:List UInt8} {m:Nat} {s s':zG} (h:zAc d m s) (hm:m < 900000) (ht:s.tab.length≤1000) {now:Int} (hn:now < 90) {out:List Key} (hT:zMr s now out s'):zAc d (m+18*s.tab.length+3000) s'∧s'.tab.length≤s.tab.length:=by
 obtain ⟨h1,h3,h2⟩:=h.w.tick hm ht hT
 obtain ⟨x,hx,e1,e2⟩:=h.tab
 obtain ⟨g1,g2⟩:=h2 x hx (by omega)
 refine ⟨⟨h1,fun n hn'=>?_,?_,x,g1,e1,e2⟩,h3⟩
 · rw [g2 _ (by rw [zB5 n zB6,e1]) fun ix=>zCI];exact h.sh n hn'
 · rw [g2 _ (by rw [zCY zB6,e1]) fun ix=>zCt];exact h.slot
theorem zAc.shares {d:List UInt8} {m:Nat} {s:zG} (h:zAc d m s):s.shares k7=[((4:Int),d)]:=by
 unfold zG.shares zG.sharesK
 rw [fmC (g:=fun n=>if n=4 then some ((4:Int),d) else none) fun n hn=>by
  rw [St.get_look h.w.st.dead,h.sh n (List.mem_range.1 hn)]
  by_cases e:n=4
  · subst e;rfl
  · rw [if_neg e,if_neg e];rfl]
 rfl
theorem zAc.cont {d:List UInt8} {m:Nat} {s:zG} (h:zAc d m s) (hd:d.length≤100):zBS s k7 (some (z16,[((1:Int),d)])):=by
 refine ⟨by rw [St.get_look h.w.st.dead];exact h.slot,by decide,⟨fun x hx=>?_,fun x hx=>?_⟩,by simp⟩
 · rw [List.mem_singleton.1 hx];exact ⟨(by decide:(0:Int)≤1),(by decide:(1:Int) < 16)⟩
 · rw [List.mem_singleton.1 hx];show d.length≤16384;omega
theorem zAc.lives {d:List UInt8} {m:Nat} {s:zG} (h:zAc d m s):zLW s.tab k7 89:=by
 obtain ⟨x,hx,h1,h2⟩:=h.tab
 exact ⟨x,hx,h1,by omega⟩
end Go.Mem
end
section
namespace Go.Proofs.YtbbojbdigiibbaaGreatDoor
open Go Go.RowKit Go.Mem Gf Lea
set_option linter.unusedVariables false
def zLe (kind:Int) (ix:Key) (ends:Int) (vb:Value):Req:=⟨kind,ix,z16,ends,z16,.slice none 0 0,vb⟩
theorem zFR (kind:Int) {ix:Key} (ends:Int) (vb:Value) (h:ix.length=16):(zLe kind ix ends vb).Wf:=⟨h,by show z16.length=16;decide,by show z16.length=16;decide⟩
end Go.Proofs.YtbbojbdigiibbaaGreatDoor
end
section
namespace Go.Mem
open Go Go.RowKit Gf Lea Go.Proofs.YtbbojbdigiibbaaGreatDoor
section
variable {d:List UInt8} {e:Int} {s:zG}
end
end Go.Mem
end
section
namespace Go.Mem
open Go Go.RowKit Gf Lea Go.Proofs.YtbbojbdigiibbaaGreatDoor
theorem zLg:May 90:=by decide
theorem zLv {m:Nat} {s s':zG} (h:zBU m s) (hm:m+1 < 1000) (hst:s.st.disk.stops=false) (hnone:∀ nm,Sto.look s.st.recs nm=none) (ht:s.tab=[]) (hroom:8≤s.room) (hlive:zAV s.st.recs+4≤s.st.recs.length) {d:List UInt8} (hd:d.length≤60) {vb:Value} {err:Int} (hp:zAx s (zLe 2 k7 90 vb) [((4:Nat),d)] err s') :
  err=0∧zBU (m+2) s'∧s'.st.disk.stops=false∧s'.tab.Perm [⟨k7,z16,90⟩]∧(∀ nm,Sto.look s'.st.recs nm=upd (upd (fun _=>none) (zI k7 4) (some d)) (zD k7) (some (zu [(z16,90)])) nm)∧8≤s'.room∧zAV s'.st.recs+2≤s'.st.recs.length:=by
 have hf:Sto.look s.st.recs=fun _=>none:=funext hnone
 rcases h.put_one (E:=90) (by omega) (zFR 2 90 vb zB6) (n:=4) (by omega) zLg (by omega) (hnone _) hroom (by omega) (fun b l2 ha=>by
  rw [ht] at ha
  exact zBK.none rfl zLg ha) hp with ⟨a1,a2,a3,a4,a5,a6,a7,a8⟩ | ⟨_,a2,_⟩
 · have h4:s'.st.recs.length=s.st.recs.length:=by rw [← a2.slots,a6,h.slots]
   exact ⟨a1,a2,a5.trans hst,a3,fun nm=>by rw [a4,hf];rfl,by omega,by omega⟩
 · rw [hst] at a2;cases a2
theorem zKX {m:Nat} {s s':zG} (h:zBU m s) (hm:m+1 < 1000) (hst:s.st.disk.stops=false) (ht:s.tab.Perm [⟨k7,z16,90⟩]) {d:List UInt8} (hl:∀ nm,Sto.look s.st.recs nm=upd (upd (fun _=>none) (zI k7 4) (some d)) (zD k7) (some (zu [(z16,90)])) nm) (hroom:8≤s.room) (hlive:zAV s.st.recs+2≤s.st.recs.length) (hd:d.length≤60) {vb:Value} {err:Int} (hp:zAs s (zLe 4 k7 90 vb) [((1:Nat),d)] [] none err s') :
  err=0∧zAc d (m+3) s'∧s'.tab.length=1:=by
 obtain ⟨a1,a2,a3,a4,a5⟩:=h.swap_one (E:=90) (by omega) (zFR 4 90 vb zB6) (n:=1) (by omega) zLg (by omega) hroom hlive hst (fun b l2 ha=>by
  have:=zBK.again ht zLg ha
  rwa [show max (90:Int) 90=90 from by decide] at this) hp
 have hf:Sto.look s.st.recs=upd (upd (fun _=>none) (zI k7 4) (some d)) (zD k7) (some (zu [(z16,90)])):=funext hl
 rw [hf] at a4
 have hl1:s'.tab.length=1:=a3.length_eq
 refine ⟨a1,⟨⟨a2.st.le (by omega),a5,a2.good,a2.wf,a2.brk,by omega,by rw [← a2.slots];exact a2.few⟩,fun n hn=>?_,?_,⟨⟨k7,z16,90⟩,a3.mem_iff.2 (List.mem_singleton.2 rfl),rfl,rfl⟩⟩,hl1⟩
 · rw [a4]
   show upd (upd (upd (upd (fun _=>none) (zI k7 4) (some d)) (zD k7) _) (zw k7) _) (zD k7) _ _=_
   unfold upd
   rw [if_neg zCI,if_neg zE2,if_neg zCI]
   by_cases e:n=4
   · subst e;rw [if_pos rfl,if_pos rfl]
   · rw [if_neg (fun e'=>e (zLJ e' zB6 zB6 hn (by decide)).2),if_neg e]
 · rw [a4]
   show upd (upd (upd (upd (fun _=>none) (zI k7 4) (some d)) (zD k7) _) (zw k7) _) (zD k7) _ _=_
   unfold upd
   rw [if_neg zCt,if_pos rfl]
   rfl
end Go.Mem
end
section
namespace Go.Mem
open Go Go.RowKit Gf Lea Go.Proofs.YtbbojbdigiibbaaGreatDoor
theorem zMj (k:Key):zBd k 3≠k7:=fun e=>by
 unfold zBd k7 at e
 injection e with e1 _
 obtain ⟨a,b⟩:=zBy (((k[0]?).getD 0).toNat:Int) 3 (by decide)
 have h:=congrArg UInt8.toNat e1
 rw [Gf.zHM _ (by omega)] at h
 have h7:(7:UInt8).toNat=7:=rfl
 omega
theorem zFJ {w0 w:World} {C:Nat→Prop} {pb:Nat} {s:zG} (h:zAi w0 w C pb s) {v:Value} {bs:List UInt8} (hb:Bys w0 v bs):zCx w C v bs:=by
 refine ⟨hb.below h.bel,?_⟩
 obtain ⟨a,c,rfl,h1,h2,h3⟩:=hb
 refine ⟨a,c,rfl,fun h0 b hb=>?_⟩
 subst hb
 obtain ⟨g,off,e,hc⟩:=h3 h0
 injection e with e
 have hlt:b.block < w0.heap.size:=by
  rw [e]
  exact World.block_lt_of_cell? w0 ⟨g,off+0,none⟩ (hc 0 _ (List.getElem?_eq_getElem h0))
 exact ⟨Nat.lt_of_lt_of_le hlt h.bel.size,fun hC=>by have:=h.c1 _ hC;omega⟩
end Go.Mem
namespace Go.Proofs.YtbbojbdigiibbaaGreatDoor
open Go Go.RowKit Go.Mem Gf Lea
set_option linter.unusedVariables false
theorem zJw {w0 w:World} {C:Nat→Prop} {pb m B:Nat} {s:zG} {d:List UInt8} (h:zAi w0 w C pb s) (hA:zAc d m s) (ht:s.tab.length≤1000) (hm:m+1 < 900000) {r:Req} (hr:r.Wf) {vt vb:Value} {ts:List Tst} {bl:List zM}
  (hB:∀ b,C b→b < B) (hts:zCv w (fun b=>b < B) vt ts) (hbl:zAW w (fun b=>b < B) vb (zBE bl)) :
  Calls Tryz.prog 20 #[.pointer (some ⟨pb,0,none⟩),.agg (zK (zFv r vt vb)).toArray] w fun e w'=>∃ C' u err s',e=.returned (.agg #[.int .i64 err,u])∧zAi w0 w' C' pb s'∧zAc d (m+2) s'∧s'.tab.length≤s.tab.length+1∧zAS C C' w w':=by
 obtain ⟨o,ho⟩:=zAZ.cont (s:=s) hA.w.st.recs hA.w.st.dead (zFv r vt vb).ix
 have hz:∀ x∈zBE bl,x.2.length≤16384:=fun x hx=>by have:=zIo bl x hx;omega
 have hwr:=hA.w.st.writes
 refine (h.any ⟨by omega,by omega⟩ (by omega) (zIA hr vt vb) (l:=zBE bl) (zAW.mono hbl fun b hb=>.inl (hB b hb)) hz (ts:=ts) (zCv.mono hts fun b hb=>.inl (hB b hb)) (fun _=>ho)).mono ?_
 rintro e w' ⟨C',err,u,lb,s',rfl,_,hR,hL,hsc⟩
 obtain ⟨h1,h2⟩:=hA.step (by omega) (zIA hr vt vb) (zMj r.ix) hz ho hR
 exact ⟨C',u,err,s',rfl,hL,h1,h2,hsc⟩
theorem zKN {w0 w:World} {C:Nat→Prop} {pb m:Nat} {s:zG} {d:List UInt8} (h:zAi w0 w C pb s) (hA:zAc d m s) (ht:s.tab.length≤1000) (hm:m < 900000) (now:Int) (hn:now < 90) :
  Calls Tryz.prog 32 #[.pointer (some ⟨pb,0,none⟩),.int .i64 now] w fun e w'=>∃ u C' s',e=.returned u∧zAi w0 w' C' pb s'∧zAc d (m+18*s.tab.length+3000) s'∧s'.tab.length≤s.tab.length∧zAS C C' w w':=by
 have hwr:=hA.w.st.writes
 refine (zLQ C _ pb s m now w h.srv hA.w.st hA.w.brk ⟨by omega,by omega⟩ hm hA.w.few ht).mono ?_
 rintro e w' ⟨vo,out,C',s',rfl,hT,hO,_,hs',hsc⟩
 obtain ⟨h1,h2⟩:=hA.tick hm ht hn hT
 exact ⟨vo,C',s',rfl,h.sch hs' hsc,h1,h2,hsc⟩
end Go.Proofs.YtbbojbdigiibbaaGreatDoor
end
section
namespace Go.Proofs.YtbbojbdigiibbaaGreatDoor
open Go Go.RowKit Go.Mem Gf Lea
set_option linter.unusedVariables false
attribute [local go_sem ↓] Go.wp_at_zero Go.wp_at_succ
theorem zKv {α:Type} {l l':List α} (hn:l.length=l'.length) (h:∀ q,q < l.length→l[q]?=l'[q]?):l=l':=by
 apply List.ext_getElem?
 intro q
 rcases Nat.lt_or_ge q l.length with h1 | h1
 · exact h q h1
 · rw [List.getElem?_eq_none h1,List.getElem?_eq_none (by omega)]
set_option maxRecDepth 100000 in
set_option maxHeartbeats 2000000 in
theorem zEe (va vb:Value) (l l':List zM) (w:World) (ha:zAW w (fun _=>False) va l) (hb:zAW w (fun _=>False) vb l') :
  Calls Tryz.prog 22 #[va,vb] w fun e w'=>e=.returned (.bool (decide (l=l')))∧∃ k,w'=w.drewN k:=by
 obtain ⟨aa,ac,rfl,ha1,ha2,harow⟩:=id ha
 obtain ⟨ba,bc,rfl,hb1,hb2,hbrow⟩:=id hb
 obtain ⟨n,hn⟩:∃ n,n=l.length:=⟨_,rfl⟩
 obtain ⟨m,hm⟩:∃ n,n=l'.length:=⟨_,rfl⟩
 rw [← hn] at ha1 harow ⊢
 rw [← hm] at hb1 hbrow ⊢
 unfold maxLen at ha2 hb2
 have H:=Lib.hid (And.intro hn (And.intro hm (And.intro harow hbrow)))
 clear ha hb hn hm harow hbrow
 by_cases hnm:n=m
 rotate_left
 · have t1:((n:Int) != (m:Int))=true:=by simp;omega
   have t2:(n != m)=true:=by simp;omega
   have hd:decide (l=l')=false:=by
    simp
    intro e
    rw [e] at H
    have:=H.out.1
    have:=H.out.2.1
    omega
   have HD:=Lib.hid hd
   replace hnm:=Lib.hid hnm
   clear hd
   go_enter Tryz.func22,Tryz.ntmps22
   go_wp2_with fail
   go_ret
   exact ⟨by rw [HD.out];rfl,0,rfl⟩
 · subst hnm
   have t1:((n:Int) != (n:Int))=false:=by simp
   have t2:(n != n)=false:=by simp
   go_enter Tryz.func22,Tryz.ntmps22
   go_upto_region 4 with fail
   go_loopw [13] (fun vi wr=>∃ i:Nat,i≤n∧vi=.int .i64 i∧Hid ((∀ q,q < i→l[q]?=l'[q]?)∧∃ k,wr=w.drewN k)) (fun vi _=>n - (intOf vi).toNat)
   case atStart=>exact ⟨0,Nat.zero_le _,rfl,(fun q h=>by omega),0,rfl⟩
   case round =>
    obtain ⟨i,hi0,rfl,G⟩:=hrel
    by_cases hin:i < n
    · obtain ⟨b1,o1,rfl,hl1,_,hc1⟩:=H.out.2.2.1 (by omega)
      obtain ⟨b2,o2,rfl,hl2,_,hc2⟩:=H.out.2.2.2 (by omega)
      have hx:l[i]?=some (l[i]'(by have:=H.out.1;omega)):=by simp
      generalize l[i]'(by have:=H.out.1;omega)=x at hx
      have hy:l'[i]?=some (l'[i]'(by have:=H.out.2.1;omega)):=by simp
      generalize l'[i]'(by have:=H.out.2.1;omega)=y at hy
      obtain ⟨c1,a1,d1,c2,hd1⟩:=hc1 i x hx
      obtain ⟨e1,a2,d2,e2,hd2⟩:=hc2 i y hy
      obtain ⟨kk,hkk⟩:=G.out.2
      have i0:(0:Int)≤(i:Int):=by omega
      have i1:(i:Int) < (n:Int):=by omega
      obtain ⟨z,hz⟩:∃ z,z=x.1:=⟨_,rfl⟩
      obtain ⟨u,hu⟩:∃ z,z=y.1:=⟨_,rfl⟩
      obtain ⟨xl,hxl⟩:∃ z,z=x.2.length:=⟨_,rfl⟩
      obtain ⟨yl,hyl⟩:∃ z,z=y.2.length:=⟨_,rfl⟩
      have f1:wr.cell? ⟨b1,o1+i*2,none⟩=some (.int .i64 z):=by rw [hkk,hz];exact c1
      have f2:wr.cell? ⟨b1,o1+i*2+1,none⟩=some (.slice a1 xl d1):=by rw [hkk,hxl];exact c2
      have f3:wr.cell? ⟨b2,o2+i*2,none⟩=some (.int .i64 u):=by rw [hkk,hu];exact e1
      have f4:wr.cell? ⟨b2,o2+i*2+1,none⟩=some (.slice a2 yl d2):=by rw [hkk,hyl];exact e2
      have hs:=fun k=>zJ9 (.slice a1 xl d1) (.slice a2 yl d2) x.2 y.2 (wr.drewN k) (by rw [hkk,hxl];exact hd1.1) (by rw [hkk,hyl];exact hd2.1)
      have HX:=Lib.hid (And.intro hx (And.intro hy (And.intro hz (And.intro hu (And.intro hs hkk)))))
      clear hx hy hz hu hxl hyl hs hkk c1 c2 e1 e2 hc1 hc2 hd1 hd2
      by_cases hzu:z=u
      rotate_left
      · have t3:(z != u)=true:=by simpa using hzu
        have hd:decide (l=l')=false:=by
         simp
         intro e
         have:=HX.out.1
         rw [e,HX.out.2.1] at this
         cases this
         exact hzu (HX.out.2.2.1.trans HX.out.2.2.2.1.symm)
        have HD:=Lib.hid hd
        replace hzu:=Lib.hid hzu
        clear hd
        go_upto_region 6 with fail
        go_quiet (fail)
        go_wp2_with fail
        go_ret
        exact ⟨by rw [HD.out];rfl,by rw [HX.out.2.2.2.2.2,World.drewN_drewN];exact ⟨_,rfl⟩⟩
      · have t3:(z != u)=false:=by simpa using hzu
        have HZ:=Lib.hid hzu
        clear hzu
        have hq:∀ k,Calls Tryz.prog 31 #[.slice a1 xl d1,.slice a2 yl d2] (wr.drewN k) fun e w'=>e=.returned (.bool (decide (x.2=y.2)))∧∃ n,w'=wr.drewN n:=fun k=>by
         refine (HX.out.2.2.2.2.1 k).mono ?_
         rintro e w' ⟨rfl,q,rfl⟩
         exact ⟨rfl,_,World.drewN_drewN _ _ _⟩
        have HQ:=Lib.hid hq
        clear hq
        by_cases hxy:x.2=y.2
        · have hdx:decide (x.2=y.2)=true:=by simpa using hxy
          have HXY:=Lib.hid hxy
          rw [hdx] at HQ
          clear hxy hdx
          go_upto_region 6 with fail
          go_quiet (exact HQ.out _)
          go_wp2_with fail
          exact ⟨⟨i+1,by omega,by simp,fun q hq=>by
           rcases Nat.lt_or_ge q i with h | h
           · exact G.out.1 q h
           · have:q=i:=by omega
             subst this
             rw [HX.out.1,HX.out.2.1]
             have e1:x.1=y.1:=HX.out.2.2.1.symm.trans (HZ.out.trans HX.out.2.2.2.1)
             exact congrArg some (Prod.ext e1 HXY.out),by rw [HX.out.2.2.2.2.2,World.drewN_drewN];exact ⟨_,rfl⟩⟩,by show n - ((i:Int)+1).toNat < n - (i:Int).toNat;omega⟩
        · have hdx:decide (x.2=y.2)=false:=by simpa using hxy
          have hd:decide (l=l')=false:=by
           simp
           intro e
           have:=HX.out.1
           rw [e,HX.out.2.1] at this
           cases this
           exact hxy rfl
          have HD:=Lib.hid hd
          rw [hdx] at HQ
          clear hxy hdx hd
          go_upto_region 6 with fail
          go_quiet (exact HQ.out _)
          go_wp2_with fail
          go_ret
          exact ⟨by rw [HD.out];rfl,by rw [HX.out.2.2.2.2.2,World.drewN_drewN];exact ⟨_,rfl⟩⟩
    · obtain rfl:i=n:=by omega
      have hd:decide (l=l')=true:=by
       simp
       exact zKv (by have:=H.out.1;have:=H.out.2.1;omega) (fun q hq=>G.out.1 q (by have:=H.out.1;omega))
      have HD:=Lib.hid hd
      clear hd
      go_wp2_with fail
      go_ret
      exact ⟨by rw [HD.out];rfl,G.out.2⟩
end Go.Proofs.YtbbojbdigiibbaaGreatDoor
end
section
namespace Go.Proofs.YtbbojbdigiibbaaGreatDoor
open Go Go.RowKit Go.Mem Gf Lea
set_option linter.unusedVariables false
set_option linter.unusedSimpArgs false
def k7V:List Value:=bV k7
theorem zKu:k7V=bV k7:=rfl
theorem zBY:k7V.length=16:=rfl
theorem zOW:zAQ 16 k7V:=⟨rfl,fun v hv=>zAH _ v hv⟩
theorem zNT:k7V.toArray.size=16:=rfl
theorem zM5 (dst:Option Tmp) (ty:TypeId) (pos:String) (af:Array Edge) (gd:Option (Tmp × Bool)) (a:Act) (w:World) (K:Act→World→Prop) (Q:Exit→Act→World→Prop) :
  Oper.wp Tryz.prog ⟨dst,.build 39 #[(0,.const (.int .u8 7))],ty,pos,af,gd⟩ a w K Q=K (a.put dst (.agg k7V.toArray)) w :=
 zGk dst (.const (.int .u8 7)) ty pos af gd a w K Q rfl
theorem r7_eq (k:Int) (vb:Value):RF.V ⟨.int .i64 k,k7V,zk,.int .i64 90,zk,.slice none 0 0,vb⟩=zK (zLe k k7 90 vb):=rfl
attribute [local irreducible] RF.V zk zK k7V
attribute [local go_sem ↓] Go.wp_at_zero Go.wp_at_succ
attribute [local go_sem ↓] zMK zEQ zBl zM5 zGl
attribute [local go_sem] Value.oneCell' zEn zE1 List.foldl_cons List.foldl_nil List.all_cons List.all_nil rfs0 rfs1 rfs2 rfs3 rfs4 rfs5 rfs6 rfz ok0 ok1 ok2 ok3 ok4 ok5 ok6 zEs zEt
attribute [local go_sem] ptrB_eq ptrO_eq ptrIs_eq aggL_eq aggIs_eq zS zCA zC ze zZ zV zH zJ zBY zOW zNT r7_eq
set_option maxRecDepth 20000 in
set_option maxHeartbeats 4000000 in
theorem zFu (w:World) (hT:Tab w) (va:Value) (l:List zIw) (ha:Sls 56 zDw w va l) (vd:Value) (xs:List UInt8) (hd:Bys w vd xs) :
  Calls Tryz.prog 8 #[va,vd] w fun e w'=>e=.returned (.bool true)∧Below w.heap.size w w':=by
 obtain ⟨aa,ac,rfl⟩:=ha.eq_slice
 obtain ⟨len,hlen⟩:∃ q,q=l.length:=⟨_,rfl⟩
 have hl64:=ha.len
 rw [← hlen] at hl64 ha ⊢
 have HT:=Lib.hid (And.intro hT (And.intro ha (And.intro hlen hd)))
 clear hT ha hlen hd
 go_enter Tryz.func8,Tryz.ntmps8
 go_wp2_with fail
 refine (zFZ 20 8 w HT.out.1 (by omega) (by omega) (by omega)).mono ?_
 rintro e w1 ⟨pb,C,rfl,hS,hC,hb1⟩
 have HG:=zF5 20 8 (by omega) (by omega)
 have H0:=Lib.hid (And.intro (show zAi w w1 C pb (zC9 20 8) from ⟨hS,hb1,hC⟩) HG)
 clear hS hC hb1 HG
 go_upto_region 4 with fail
 go_wp2_with fail
 refine (zJE vd xs 60 w w1 HT.out.2.2.2 (HT.out.2.2.2.below H0.out.1.bel)).mono ?_
 rintro e w2 ⟨⟨va',rfl,hA⟩,rfl⟩
 obtain ⟨d,hd⟩:∃ A,A=xs.take 60:=⟨_,rfl⟩
 have hdl:d.length≤60:=by rw [hd,List.length_take];omega
 rw [← hd] at hA
 obtain ⟨da,dc,rfl⟩:=hA.eq_slice
 obtain ⟨dn,hdn⟩:∃ q,q=d.length:=⟨_,rfl⟩
 rw [← hdn] at hA ⊢
 have HD:=Lib.hid (And.intro hA (And.intro hdl hdn))
 clear hA hd hdl hdn
 go_upto_region 6 with fail
 have e7:((w1.alloc (.cells #[Value.int .u8 0,.int .u8 0,.int .u8 0,.int .u8 0,.int .u8 0,.int .u8 0,.int .u8 0,.int .u8 0,.int .u8 0,.int .u8 0,.int .u8 0,.int .u8 0,.int .u8 0,.int .u8 0,.int .u8 0,.int .u8 0] 39)).setCells w1.heap.size 0 k7V)=w1.alloc (.cells k7V.toArray 39):=zJ _ _ _ _ rfl (by rw [zBY];rfl)
 rw [e7]
 have hk7:Blk (w1.alloc (.cells k7V.toArray 39)) w1.heap.size k7V.toArray 39:=Blk.new _ _ _
 have hn7:¬ C w1.heap.size:=fun hC=>by have:=H0.out.1.old hC;omega
 have hLa:=H0.out.1.step ((Below.refl w1.heap.size w1).alloc (Nat.le_refl _) (.cells k7V.toArray 39))
 obtain ⟨wa,hwa⟩:∃ q,q=w1.alloc (.cells k7V.toArray 39):=⟨_,rfl⟩
 rw [← hwa] at hk7 hLa ⊢
 obtain ⟨p7,hp7⟩:∃ q,q=w1.heap.size:=⟨_,rfl⟩
 rw [← hp7] at hk7 hn7 ⊢
 clear hwa hp7 e7
 have r7:zN 16 wa p7 0=k7V:=zP hk7 zBY
 have s7:zBp 16 wa p7 0:=(zL hk7 (by simp [zBY])).some
 have hbb:Below wa.heap.size wa (wa.alloc (.cells #[.int .i64 4,.slice da dn dc] 53)):=(Below.refl _ _).alloc (Nat.le_refl _) _
 have hLb:=hLa.step hbb
 have hbl:zAW (wa.alloc (.cells #[.int .i64 4,.slice da dn dc] 53)) C (.slice (some ⟨wa.heap.size,0,none⟩) 1 1) [(((4:Nat):Int),d)]:=by
  have hdz:=zFJ hLb HD.out.1
  rw [HD.out.2.2] at hdz ⊢
  exact zD1 (Blk.new _ _ _) (fun hC=>by have:=hLa.old hC;omega) hdz
 have hwr:=H0.out.2.1.st.writes
 have hput:=hLb.put H0.out.2.1.live (H0.out.2.1.srvB (by decide)) (by omega) (zFR 2 90 (.slice (some ⟨wa.heap.size,0,none⟩) 1 1) zB6) rfl hbl (fun x hx=>by rw [List.mem_singleton.1 hx];have:=HD.out.2.1;show d.length≤_;omega)
 have hk7b:=hk7.kept hbb
 have H1:=Lib.hid (And.intro hput (And.intro hk7b hn7))
 clear hput hk7b hn7 hLa hLb hbl hbb hk7 hwr
 go_wp2_with fail
 refine H1.out.1.mono ?_
 rintro e w3 ⟨C1,err,s1,rfl,hP,hL1,hsc1⟩
 have hfr:(zC9 20 8).st.recs=List.replicate 20 Sto.Rec.free:=rfl
 obtain ⟨rfl,g1,g2,g3,g4,g5,g6⟩:=zLv H0.out.2.1 (by decide) H0.out.2.2.2 H0.out.2.2.1 rfl (show (8:Nat)≤(zC9 20 8).room from Nat.le_refl _) (by rw [hfr,zHr,List.length_replicate];decide) HD.out.2.1 hP
 have hnn:∀ {C C':Nat→Prop} {w w':World},zAS C C' w w'→∀ x,¬ C x→x < w.heap.size→¬ C' x:=fun {C C' w w'} hsc x hx hl hC=>by
  rcases hsc.2 _ hC with h1 | h1
  · exact hx h1
  · omega
 have hk7c:=hsc1.1.blk H1.out.2.1 H1.out.2.2
 have hn7c:=hnn hsc1 p7 H1.out.2.2 H1.out.2.1.lt
 have r7:zN 16 w3 p7 0=k7V:=zP hk7c zBY
 have s7:zBp 16 w3 p7 0:=(zL hk7c (by simp [zBY])).some
 have hbb:Below w3.heap.size w3 (w3.alloc (.cells #[.int .i64 1,.slice da dn dc] 53)):=(Below.refl _ _).alloc (Nat.le_refl _) _
 have hLb:=hL1.step hbb
 have hbl:zAW (w3.alloc (.cells #[.int .i64 1,.slice da dn dc] 53)) C1 (.slice (some ⟨w3.heap.size,0,none⟩) 1 1) [(((1:Nat):Int),d)]:=by
  have hdz:=zFJ hLb HD.out.1
  rw [HD.out.2.2] at hdz ⊢
  exact zD1 (Blk.new _ _ _) (fun hC=>by have:=hL1.old hC;omega) hdz
 have hwr:=g1.st.writes
 have hswap:=hLb.swap g1.live (g1.srvB (by decide)) (by omega) (zFR 4 90 (.slice (some ⟨w3.heap.size,0,none⟩) 1 1) zB6) rfl hbl (fun x hx=>by rw [List.mem_singleton.1 hx];have:=HD.out.2.1;show d.length≤_;omega) (zCv.nil _ _) (o:=none) (by
  show s1.st.get (zw k7)=none
  rw [g1.get,g4]
  unfold upd
  rw [if_neg zCt,if_neg (fun e=>zE2 e.symm)])
 have hk7d:=hk7c.kept hbb
 have H2:=Lib.hid (And.intro hswap (And.intro hk7d (And.intro hn7c (And.intro g1 (And.intro g2 (And.intro g3 (And.intro g4 (And.intro g5 g6))))))))
 clear hswap hk7d hn7c g1 g2 g3 g4 g5 g6 hLb hbl hbb hk7c hwr hP hL1 hsc1 hfr
 go_wp2_with fail
 refine H2.out.1.mono ?_
 rintro e w4 ⟨C2,err,s2,rfl,hP,hL2,hsc2⟩
 obtain ⟨rfl,hA,ht⟩:=zKX H2.out.2.2.2.1 (by decide) H2.out.2.2.2.2.1 H2.out.2.2.2.2.2.1 H2.out.2.2.2.2.2.2.1 H2.out.2.2.2.2.2.2.2.1 H2.out.2.2.2.2.2.2.2.2 HD.out.2.1 hP
 have hk7e:=hsc2.1.blk H2.out.2.1 H2.out.2.2.1
 have hn7e:=hnn hsc2 p7 H2.out.2.2.1 H2.out.2.1.lt
 have H3:=Lib.hid (And.intro hL2 (And.intro hA (And.intro ht (And.intro hk7e hn7e))))
 clear hP hL2 hA ht hk7e hn7e hsc2 r7 s7
 go_upto_block 0 with fail
 go_cut [] (fun wx=>Hid (∃ C s m,zAi w wx C pb s∧zAc d m s∧m≤60000∧s.tab.length≤100∧Blk wx p7 k7V.toArray 39))
 case first =>
  go_upto_region 9 with fail
  go_loopw [8,9] (fun vi v9 wr=>∃ i:Nat,i≤15∧i≤len∧vi=.int .i64 i∧Hid (∃ C s,zAi w wr C pb s∧zAc d (5+3500*i) s∧s.tab.length≤1+i∧Blk wr p7 k7V.toArray 39∧¬ C p7)) (fun vi _ _=>15 - (intOf vi).toNat)
  case atStart=>exact ⟨0,Nat.zero_le _,Nat.zero_le _,rfl,C2,s2,H3.out.1,H3.out.2.1.le (by decide),by rw [H3.out.2.2.1];exact Nat.le_refl _,H3.out.2.2.2.1,H3.out.2.2.2.2⟩
  case round =>
   obtain ⟨i,hi,hil,rfl,G⟩:=hrel
   obtain ⟨C,s,hL,hA,ht,hk,hn⟩:=G.out
   have HL:=Lib.hid (And.intro hL (And.intro hA (And.intro ht (And.intro hk hn))))
   clear G hL hA ht hk hn
   have i0:(0:Int)≤(i:Int):=by omega
   have h0i:(((i:Int) < (len:Int))=True∧((i:Int) < 15)=True)∨((i:Int) < (len:Int))=False∨(((i:Int) < (len:Int))=True∧((i:Int) < 15)=False):=by
    by_cases c:i < len
    · by_cases c2:i < 15
      · exact .inl ⟨eq_true (by omega),eq_true (by omega)⟩
      · exact .inr (.inr ⟨eq_true (by omega),eq_false (by omega)⟩)
    · exact .inr (.inl (eq_false (by omega)))
   rcases h0i with ⟨h0i,h0j⟩ | h0i
   · have hlt:i < len:=by have:=of_eq_true h0i;omega
     have hlt15:i < 15:=by have:=of_eq_true h0j;omega
     obtain ⟨b,off,a,cs,rfl,hx,hcl,hcs,hA⟩:=HT.out.2.1.at i (by have:=HT.out.2.2.1;omega)
     have hblt:b < w.heap.size:=World.block_lt_of_cell? w _ (hcs 0 _ (List.getElem?_eq_getElem (by omega)))
     have hb0:Below w.heap.size w wr:=HL.out.1.bel
     have hce:∀ j v,cs[j]?=some v→wr.cell? ⟨b,off+i*56+j,none⟩=some v:=fun j v hj=>(hb0.cell (p:=⟨b,off+i*56+j,none⟩) hblt).trans (hcs j v hj)
     obtain ⟨hsm,hrd⟩:=hA.req_at (w:=wr) (b:=b) (o:=off+i*56) hce
     have d0:wr.cell? ⟨b,off+i*56,none⟩=some (.int .i64 a.dw):=hce 0 _ hA.dw
     have d1:wr.cell? ⟨b,off+i*56+1,none⟩=some (.int .i64 a.now):=hce 1 _ hA.now
     have hrA:=(hA.below hb0).r
     obtain ⟨rv,hrv⟩:∃ q,q=zK a.r:=⟨_,rfl⟩
     rw [← hrv] at hrd
     have HA:=Lib.hid (And.intro hrv hrA)
     clear hx hcl hcs hA hblt hb0 hrv hrA hce
     obtain ⟨kd,hkd⟩:∃ q,q=within a.dw 12:=⟨_,rfl⟩
     obtain ⟨nw,hnw⟩:∃ q,q=within a.now 30:=⟨_,rfl⟩
     have hn90:nw < 90:=by have:=(zBy a.now 30 (by decide)).2;omega
     have HW:=Lib.hid (And.intro hkd (And.intro hnw hn90))
     clear hkd hnw hn90
     go_upto_region 11 with fail
     go_wp2_with fail
     refine (zCW a.dw 12 (by decide) (by decide) _).mono ?_
     rintro e w3' ⟨rfl,rfl⟩
     rw [← HW.out.1]
     by_cases h8:kd=8
     · subst h8
       go_wp2_with fail
       refine (zCW a.now 30 (by decide) (by decide) _).mono ?_
       rintro e w3' ⟨rfl,rfl⟩
       rw [← HW.out.2.1]
       go_wp2_with fail
       refine (zKN HL.out.1 HL.out.2.1 (by have:=HL.out.2.2.1;omega) (by omega) nw HW.out.2.2).mono ?_
       rintro e w5 ⟨u,C',s',rfl,hL,hA,ht,hsc⟩
       have hk':=hsc.1.blk HL.out.2.2.2.1 HL.out.2.2.2.2
       have hn':=hnn hsc p7 HL.out.2.2.2.2 HL.out.2.2.2.1.lt
       have HN:=Lib.hid (And.intro hL (And.intro hA (And.intro ht (And.intro hk' hn'))))
       clear hL hA ht hk' hn' hsc
       go_wp2_with fail
       exact ⟨⟨i+1,by omega,by omega,by simp,C',s',HN.out.1,HN.out.2.1.le (by have:=HL.out.2.2.1;omega),by have:=HL.out.2.2.1;have:=HN.out.2.2.1;omega,HN.out.2.2.2.1,HN.out.2.2.2.2⟩,by show 15 - ((i:Int)+1).toNat < 15 - (i:Int).toNat;omega⟩
     · go_wp2_with fail
       refine (show Calls _ _ _ _ _ from (by rw [HA.out.1];exact zKG a.r a.ts a.bl wr HA.out.2.wf HA.out.2.ts HA.out.2.bl)).mono ?_
       rintro e w2' ⟨vt,vb,rfl,hts,hbl,hb2⟩
       have HS:=Lib.hid (And.intro hts (And.intro hbl hb2))
       clear hts hbl hb2
       go_wp2_with fail
       refine (zJw (HL.out.1.step HS.out.2.2) HL.out.2.1 (by have:=HL.out.2.2.1;omega) (by omega) HA.out.2.wf (B:=wr.heap.size) (fun b hb=>HL.out.1.old hb) HS.out.1 HS.out.2.1).mono ?_
       rintro e w5 ⟨C',u,err,s',rfl,hL,hA,ht,hsc⟩
       have hkx:=HL.out.2.2.2.1.kept HS.out.2.2
       have hk':=hsc.1.blk hkx HL.out.2.2.2.2
       have hn':=hnn hsc p7 HL.out.2.2.2.2 hkx.lt
       have HN:=Lib.hid (And.intro hL (And.intro hA (And.intro ht (And.intro hk' hn'))))
       clear hL hA ht hk' hn' hsc hkx
       go_wp2_with fail
       exact ⟨⟨i+1,by omega,by omega,by simp,C',s',HN.out.1,HN.out.2.1.le (by omega),by have:=HL.out.2.2.1;have:=HN.out.2.2.1;omega,HN.out.2.2.2.1,HN.out.2.2.2.2⟩,by show 15 - ((i:Int)+1).toNat < 15 - (i:Int).toNat;omega⟩
   · have hm:5+3500*i≤60000:=by omega
     have ht:=HL.out.2.2.1
     have HL2:=Lib.hid (show ∃ C s m,zAi w wr C pb s∧zAc d m s∧m≤60000∧s.tab.length≤100∧Blk wr p7 k7V.toArray 39 from ⟨C,s,_,HL.out.1,HL.out.2.1,hm,by omega,HL.out.2.2.2.1⟩)
     clear HL hm hi hil ht
     rcases h0i with h0i | ⟨h0i,h0j⟩
     · go_wp2_with fail
       go_meet
       exact HL2.out
     · go_wp2_with fail
       go_meet
       exact HL2.out
 case rest =>
 obtain ⟨C3,s,m,hL,hA,hm,ht,hk7⟩:=hcut.out
 have hB:zCP s:=⟨by omega,by have:=hA.w.st.writes;omega⟩
 have r7:zN 16 wc p7 0=k7V:=zP hk7 zBY
 have s7:zBp 16 wc p7 0:=(zL hk7 (by simp [zBY])).some
 have H4:=Lib.hid (And.intro hL (And.intro hA (And.intro hB hk7)))
 clear hL hA hm ht hB hk7 hcut
 have hsh:=H4.out.1.shares H4.out.2.1.w.live H4.out.2.2.1 k7 zB6
 rw [H4.out.2.1.shares] at hsh
 have HSH:=Lib.hid (show Calls Tryz.prog 23 #[.pointer (some ⟨pb,0,none⟩),.agg k7V.toArray] wc _ from (by rw [show k7V=bV k7 from zKu];exact hsh))
 clear hsh
 go_wp2_with fail
 refine HSH.out.mono ?_
 rintro e w5 ⟨u1,rfl,hO1,hb5⟩
 obtain ⟨a1,c1,rfl,_⟩:=hO1.slice
 have g5:=H4.out.1.step hb5
 have hbb:Below w5.heap.size w5 (w5.alloc (.cells #[.int .i64 4,.slice da dn dc] 53)):=(Below.refl _ _).alloc (Nat.le_refl _) _
 have g6:=g5.step hbb
 have hB1:zAW (w5.alloc (.cells #[.int .i64 4,.slice da dn dc] 53)) (fun _=>False) (.slice a1 1 c1) [((4:Int),d)]:=zAW.below ((hO1.at (fun b h1 _ h2=>by omega)).mono (fun _ h=>h.elim)) hbb
 have hB2:zAW (w5.alloc (.cells #[.int .i64 4,.slice da dn dc] 53)) (fun _=>False) (.slice (some ⟨w5.heap.size,0,none⟩) 1 1) [((4:Int),d)]:=by
  have hdz:=zFJ g6 HD.out.1
  rw [HD.out.2.2] at hdz ⊢
  exact zD1 (Blk.new _ _ _) (fun h=>h) (hdz.mono (fun _ h=>h.elim))
 have hbe:=zEe _ _ _ _ _ hB1 hB2
 rw [show decide ([((4:Int),d)]=[((4:Int),d)])=true from by simp] at hbe
 have hk5:=(H4.out.2.2.2.kept hb5).kept hbb
 have H5:=Lib.hid (And.intro hbe (And.intro g6 hk5))
 clear hO1 hb5 g5 hbb g6 hB1 hB2 hbe hk5
 simp only [List.length_singleton]
 go_wp2_with fail
 refine H5.out.1.mono ?_
 rintro e w6 ⟨rfl,kd,rfl⟩
 obtain ⟨w6,hw6⟩:∃ q,q=(w5.alloc (.cells #[.int .i64 4,.slice da dn dc] 53)).drewN kd:=⟨_,rfl⟩
 have g6:=H5.out.2.1.step (below_drewN (Below.refl _ _) kd)
 have hk6:=H5.out.2.2.kept (below_drewN (Below.refl _ _) kd)
 rw [← hw6] at g6 hk6 ⊢
 have r7:zN 16 w6 p7 0=k7V:=zP hk6 zBY
 have s7:zBp 16 w6 p7 0:=(zL hk6 (by simp [zBY])).some
 have hsl:=g6.slotOf H4.out.2.1.w.live H4.out.2.2.1 k7 zB6 (H4.out.2.1.cont (by have:=HD.out.2.1;omega))
 have HSL:=Lib.hid (And.intro (show Calls Tryz.prog 24 #[.pointer (some ⟨pb,0,none⟩),.agg k7V.toArray] w6 _ from (by rw [show k7V=bV k7 from zKu];exact hsl)) (And.intro g6 hk6))
 clear hsl g6 hk6 hw6
 go_wp2_with fail
 refine HSL.out.1.mono ?_
 rintro e w7 ⟨u2,rfl,hO2,hb7⟩
 obtain ⟨a2,c2,rfl,_⟩:=hO2.slice
 have g7:=HSL.out.2.1.step hb7
 have hbb:Below w7.heap.size w7 (w7.alloc (.cells #[.int .i64 1,.slice da dn dc] 53)):=(Below.refl _ _).alloc (Nat.le_refl _) _
 have g8:=g7.step hbb
 have hB1:zAW (w7.alloc (.cells #[.int .i64 1,.slice da dn dc] 53)) (fun _=>False) (.slice a2 1 c2) [((1:Int),d)]:=zAW.below ((hO2.at (fun b h1 _ h2=>by omega)).mono (fun _ h=>h.elim)) hbb
 have hB2:zAW (w7.alloc (.cells #[.int .i64 1,.slice da dn dc] 53)) (fun _=>False) (.slice (some ⟨w7.heap.size,0,none⟩) 1 1) [((1:Int),d)]:=by
  have hdz:=zFJ g8 HD.out.1
  rw [HD.out.2.2] at hdz ⊢
  exact zD1 (Blk.new _ _ _) (fun h=>h) (hdz.mono (fun _ h=>h.elim))
 have hbe:=zEe _ _ _ _ _ hB1 hB2
 rw [show decide ([((1:Int),d)]=[((1:Int),d)])=true from by simp] at hbe
 have hk8:=(HSL.out.2.2.kept hb7).kept hbb
 have H7:=Lib.hid (And.intro hbe (And.intro g8 hk8))
 clear hO2 hb7 g7 hbb g8 hB1 hB2 hbe hk8 r7 s7
 simp only [zAy,List.length_singleton]
 go_wp2_with fail
 refine H7.out.1.mono ?_
 rintro e w8 ⟨rfl,ke,rfl⟩
 obtain ⟨w8,hw8⟩:∃ q,q=(w7.alloc (.cells #[.int .i64 1,.slice da dn dc] 53)).drewN ke:=⟨_,rfl⟩
 have g8:=H7.out.2.1.step (below_drewN (Below.refl _ _) ke)
 have hk8:=H7.out.2.2.kept (below_drewN (Below.refl _ _) ke)
 rw [← hw8] at g8 hk8 ⊢
 have r7:zN 16 w8 p7 0=k7V:=zP hk8 zBY
 have s7:zBp 16 w8 p7 0:=(zL hk8 (by simp [zBY])).some
 have hlv:=g8.living H4.out.2.2.1 k7 zB6 89
 have HLV:=Lib.hid (And.intro (show Calls Tryz.prog 26 #[.pointer (some ⟨pb,0,none⟩),.agg k7V.toArray,.int .i64 89] w8 _ from (by rw [show k7V=bV k7 from zKu];exact hlv)) g8)
 clear hlv g8 hk8 hw8
 go_wp2_with fail
 refine HLV.out.1.mono ?_
 rintro e w9 ⟨bb,rfl,hbb,hb9⟩
 obtain rfl:bb=true:=hbb.2 H4.out.2.1.lives
 have H9:=Lib.hid (HLV.out.2.step hb9)
 clear hbb hb9
 go_wp2_with fail
 refine (zHd _ H9.out.tab).mono ?_
 rintro e w10 ⟨rfl,hb10⟩
 have H10:=Lib.hid hb10
 clear hb10
 go_wp2_with fail
 go_ret
 exact ⟨rfl,H9.out.bel.trans (H10.out.mono H9.out.bel.size)⟩
end Go.Proofs.YtbbojbdigiibbaaGreatDoor
end
section
namespace Go.Proofs.YtbbojbdigiibbaaGreatDoor
open Go Go.RowKit Go.Mem
theorem tabT:(Tryz.prog.globals[gT]?).map (·.type)=some 295:=by kernel_rfl
theorem zKI {W : World} (h : laidMetH Tryz.prog [("math/bits.deBruijn32tab", Rows.laid_math_bits_deBruijn32tab), ("math/bits.deBruijn64tab", Rows.laid_math_bits_deBruijn64tab), ("internal/strconv.uint64pow10", Rows.laid_internal_strconv_uint64pow10)] W) : Tab W := by
 rw [MakeChecks.laidMetH_plain _ _ _ (by kernel_rfl)] at h
 obtain ⟨ps,⟨g0,t0,cs0,f0,p0,q0,hg0,ht0,hv0,hd0,⟨g1,t1,cs1,f1,p1,q1,hg1,ht1,hv1,hd1,⟨g2,t2,cs2,f2,p2,q2,hg2,ht2,hv2,hd2,_,_⟩,_⟩,_⟩,_,_⟩:=h
 obtain rfl:=Option.some.inj (zNM.symm.trans hg2)
 obtain rfl:=Option.some.inj (tabT.symm.trans ht2)
 have hd:DataW.trod (fun _=>()) Tryz.prog W 0 (fun _=>true) false f2 295 cs2.toList=some (Lib.tabData .u64 Lib.pow10Tab,p2):=hd2.trans (by rw [show (Rows.laid_internal_strconv_uint64pow10:DataW Unit)=Lib.tabData .u64 Lib.pow10Tab from rfl])
 unfold Tab Lib.TabIs
 rw [hv2,← Lib.cells_of_tab Tryz.underlying295 Tryz.underlying241 (by kernel_rfl) (by kernel_rfl) hd]
end Go.Proofs.YtbbojbdigiibbaaGreatDoor
end
