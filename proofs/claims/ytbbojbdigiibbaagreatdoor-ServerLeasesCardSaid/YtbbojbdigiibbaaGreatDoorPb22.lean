/- Texts of this proof,packed: SrvWTick,SrvSwapOne,SrvApartL,SrvBads,SrvFullL,SrvApartS,SrvPlay7,SrvLeaL,SrvLeaV,SrvSame. -/
import Derived.Test.YtbbojbdigiibbaaGreatDoorPb20
import Derived.Test.YtbbojbdigiibbaaGreatDoorPb21
import Derived.Test.YtbbojbdigiibbaaGreatDoorPb19
import Derived.Test.YtbbojbdigiibbaaGreatDoorPb15
import Derived.Test.YtbbojbdigiibbaaGreatDoorPb14
import Derived.Test.YtbbojbdigiibbaaGreatDoorPb11
import Derived.Test.YtbbojbdigiibbaaGreatDoorPb00
section
namespace Go.Mem
open Go Go.RowKit Gf Lea Go.Proofs.YtbbojbdigiibbaaGreatDoor
theorem zDd {α:Type} [DecidableEq α]:∀ (R L:List α),R.Nodup→(∀ x∈R,x∈L)→R.length≤L.length
 | [],_,_,_=>Nat.zero_le _
 | x::R,L,hn,hs=>by
   have hx:=hs x (by simp)
   have h1:=zDd R (L.erase x) (List.nodup_cons.1 hn).2 fun y hy=>(List.mem_erase_of_ne (fun e=>(List.nodup_cons.1 hn).1 (by rw [← e];exact hy))).2 (hs y (by simp [hy]))
   have h2:=List.length_erase_of_mem hx
   have h3:=List.length_pos_of_mem hx
   rw [List.length_cons];omega
theorem zON {s:zF} {k:Key} (hk:k.length=16) {nm:ByteArray} (h:nm∈swN s k):zCe nm=k:=by
 unfold swN at h
 rcases List.mem_append.1 h with h | h
 · obtain ⟨x,_,rfl⟩:=List.mem_map.1 h
   exact zCJ _ hk
 · simp only [List.mem_cons,List.not_mem_nil,or_false] at h
   rcases h with rfl | rfl
   · exact zCo hk
   · exact zA7 hk
theorem zBM:∀ (L:List Key) {m:Nat} {s:zF},zCg m s→(∀ k∈L,k.length=16) →
  (zL L s).2.1=0∧zCg (m+18*L.length) (zL L s).2.2∧(zL L s).2.2.tab=s.tab∧∀ nm,zCe nm∉L→Sto.look (zL L s).2.2.st.recs nm=Sto.look s.st.recs nm
 | [],m,s,h,_=>⟨rfl,h,rfl,fun _ _=>rfl⟩
 | k::L,m,s,h,hk=>by
   have hc:=zDJ (swN s k) (t:=false) h.st h.calm
   obtain ⟨c1,c2,c3,c4,c5,c6,_⟩:=hc
   have hW:zCg (m+18) { s with st:=(zx (swN s k) s.st false).2.2 }:=⟨c2.le (by have:=zEn s k;omega),c3,h.good,h.wf,h.brk,by have:=h.len;show s.tab.length≤_;omega,by show (zx (swN s k) s.st false).2.2.recs.length≤120;rw [c5];exact h.few⟩
   obtain ⟨i1,i2,i3,i4⟩:=zBM L hW fun x hx=>hk x (by simp [hx])
   have e:(zL (k::L) s).2=(zL L { s with st:=(zx (swN s k) s.st false).2.2 }).2:=by rw [zL,if_pos c1]
   rw [e]
   refine ⟨i1,i2.le (by rw [List.length_cons];omega),i3,fun nm hn=>?_⟩
   rw [i4 nm fun hm=>hn (by simp [hm])]
   show Sto.look (zx (swN s k) s.st false).2.2.recs nm=_
   exact (c6 nm).2 fun hm=>hn (by rw [zON (hk k (by simp)) hm];simp)
theorem zB7 {pk:Key→List UInt8}:∀ (L:List Key) {m:Nat} {s:zF},zCg m s→m+L.length < 1000000→(∀ ix∈L,zAe (zD ix) (pk ix)) →
  (zAL pk L s).1=false∧zCg (m+L.length) (zAL pk L s).2∧(zAL pk L s).2.tab=s.tab∧∀ nm,(∀ ix,nm≠zD ix)→Sto.look (zAL pk L s).2.st.recs nm=Sto.look s.st.recs nm
 | [],m,s,h,_,_=>⟨rfl,h,rfl,fun _ _=>rfl⟩
 | k::L,m,s,h,hm,hr=>by
   rw [List.length_cons] at hm ⊢
   by_cases hg:s.st.get (zD k)=some (pk k)
   · rw [zFZ hg]
     obtain ⟨i1,i2,i3,i4⟩:=zB7 L h (by omega) fun x hx=>hr x (by simp [hx])
     exact ⟨i1,i2.le (by omega),i3,i4⟩
   · rcases h.put (by omega) (hr k (by simp)) with ⟨d1,d2,d3⟩ | ⟨d1,d2,d3⟩
     · rw [zDE hg (by rw [d1];decide)]
       obtain ⟨i1,i2,i3,i4⟩:=zB7 L d2 (by omega) fun x hx=>hr x (by simp [hx])
       refine ⟨i1,i2.le (by omega),i3,fun nm hn=>?_⟩
       rw [i4 nm hn]
       show Sto.look (zU s.st (zD k) (pk k)).2.recs nm=_
       rw [d3,upd,if_neg (hn k)]
     · rw [zDE hg d2,d3]
       obtain ⟨i1,i2,i3,i4⟩:=zB7 L h (by omega) fun x hx=>hr x (by simp [hx])
       exact ⟨i1,i2.le (by omega),i3,i4⟩
theorem zCg.tick {m:Nat} {s s':zF} (h:zCg m s) (hm:m < 900000) (ht:s.tab.length≤1000) {now:Int} {out:List Key} (hT:zNM s now out s') :
  zCg (m+18*s.tab.length+3000) s'∧s'.tab.length≤s.tab.length∧(∀ x∈s.tab,now < x.e→x∈s'.tab∧∀ nm,zCe nm=x.ix→(∀ ix,nm≠zD ix)→Sto.look s'.st.recs nm=Sto.look s.st.recs nm):=by
 obtain ⟨l1,R,hE,hT⟩:=hT
 have hsub:=zC0 hE
 have hg1:Lea.Good l1:=(h.good.sub List.filter_sublist).perm hE.perm
 have hw1:∀ x∈l1,Wf x:=fun x hx=>h.wf x (hsub.1 x hx)
 have hW1:zCg m { s with tab:=l1 }:=⟨h.st,h.calm,hg1,hw1,h.brk,Nat.le_trans hsub.2 h.len,h.few⟩
 have hRn:R.Nodup:=hE.up.imp fun {a b} h e=>by rw [e,zCy] at h;omega
 have hRl:R.length≤s.tab.length:=by
  have h1:=zDd R (s.tab.map (·.ix)) hRn fun k hk=>by
   obtain ⟨⟨x,hx,e,_⟩,_⟩:=(hE.mem k).1 hk
   exact List.mem_map.2 ⟨x,hx,e⟩
  rw [List.length_map] at h1
  exact h1
 have hRk:∀ k∈R,k.length=16:=fun k hk=>by
  obtain ⟨⟨x,hx,e,_⟩,_⟩:=(hE.mem k).1 hk
  rw [← e];exact (h.wf x hx).1
 obtain ⟨a1,a2,a3,a4⟩:=zBM R hW1 hRk
 rcases hT with ⟨b1,_⟩ | ⟨_,I,pk,hI,hpk,hT⟩
 · exact absurd a1 b1
 generalize (zL R { s with tab:=l1 }).2.2=s1 at *
 have hrl:∀ {st:St} {I:List Key},st.recs.length≤120→zId st I→I.length≤120:=fun {st I} hf hI=>by
  have h1:=zDd I (st.recs.map fun r=>zCe r.name) hI.nodup fun k hk=>by
   obtain ⟨_,r,hr,_,e⟩:=(hI.mem k).1 hk
   exact List.mem_map.2 ⟨r,hr,e⟩
  rw [List.length_map] at h1
  omega
 have hIl:=hrl a2.few hI
 have hHl:=zEd l1 I
 have hHo:∀ ix∈zBJ l1 I,zAe (zD ix) (pk ix):=fun ix hi=>by
  obtain ⟨o,h1,h2⟩:=hpk ix hi
  have hne:=(zF4 hi).2
  obtain ⟨p,hp⟩:=List.exists_mem_of_ne_nil _ hne
  obtain ⟨x,hx,e,_⟩:=zCS.1 hp
  rw [h2]
  exact zAe.lease ix o (by rw [← e];exact (hw1 x hx).1) (zDe hw1 hg1 h1 fun e=>hne (h1.nil_iff.1 e))
 obtain ⟨b1,b2,b3,b4⟩:=zB7 (pk:=pk) (zBJ l1 I) a2 (by omega) hHo
 rcases hT with ⟨c1,_⟩ | ⟨_,I2,hI2,_,rfl⟩
 · rw [b1] at c1;cases c1
 generalize (zAL pk (zBJ l1 I) s1).2=s2 at *
 have hI2l:=hrl b2.few hI2
 have hFl:(I2.filter fun ix=>decide (ofL l1 ix=[])).length≤120:=Nat.le_trans (List.length_filter_le _ _) hI2l
 have hFk:∀ k∈I2.filter fun ix=>decide (ofL l1 ix=[]),k.length=16:=fun k hk=>by
  obtain ⟨_,r,hr,his,e⟩:=(hI2.mem k).1 (List.mem_filter.1 hk).1
  rw [← e]
  have:=b2.st.recs r hr his
  generalize r.name=nm at this
  generalize r.data=dt at this
  cases this with
  | share ix n data h hn hd=>rw [zCJ n h];exact h
  | slot ix k l h hk hl h16 hu=>rw [zCo h];exact h
  | lease ix out h hl=>rw [zA7 h];exact h
 obtain ⟨c1,c2,c3,c4⟩:=zBM _ b2 hFk
 refine ⟨c2.le (by omega),by rw [c3,b3,a3];exact hsub.2,fun x hx hnow=>?_⟩
 have hin:x∈l1:=hE.perm.mem_iff.2 (List.mem_filter.2 ⟨hx,by simpa using hnow⟩)
 refine ⟨by rw [c3,b3,a3];exact hin,fun nm hnm hnl=>?_⟩
 have hxl:=(h.wf x hx).1
 rw [c4 nm ?_,b4 nm ?_,a4 nm ?_]
 · intro hm
   rw [hnm] at hm
   exact ((hE.mem _).1 hm).2 x hin rfl
 · exact hnl
 · intro hm
   rw [hnm] at hm
   have:=(List.mem_filter.1 hm).2
   simp only [decide_eq_true_eq] at this
   have hp:(x.sec,x.e)∈ofL l1 x.ix:=zCS.2 ⟨x,hin,rfl,rfl⟩
   rw [this] at hp;cases hp
end Go.Mem
end
section
namespace Go.Mem
open Go Go.RowKit Gf Lea Go.Proofs.YtbbojbdigiibbaaGreatDoor
end Go.Mem
end
section
namespace Go.Mem
open Go Go.RowKit Gf Lea Go.Proofs.YtbbojbdigiibbaaGreatDoor
def k7:Key:=7::List.replicate 15 0
end Go.Mem
end
section
namespace Go.Proofs.YtbbojbdigiibbaaGreatDoor
open Go Go.RowKit Go.Mem Gf Lea
set_option linter.unusedVariables false
end Go.Proofs.YtbbojbdigiibbaaGreatDoor
end
section
namespace Go.Mem
open Go Go.RowKit Gf Lea Go.Proofs.YtbbojbdigiibbaaGreatDoor
section
variable {d:List UInt8} {e:Int} {s:zF}
end
end Go.Mem
end
section
namespace Go.Mem
open Go Go.RowKit Gf Lea Go.Proofs.YtbbojbdigiibbaaGreatDoor
end Go.Mem
end
section
namespace Go.Mem
open Go Go.RowKit Gf Lea Go.Proofs.YtbbojbdigiibbaaGreatDoor
end Go.Mem
namespace Go.Proofs.YtbbojbdigiibbaaGreatDoor
open Go Go.RowKit Go.Mem Gf Lea
set_option linter.unusedVariables false
end Go.Proofs.YtbbojbdigiibbaaGreatDoor
end
section
namespace Go.Mem
open Go Go.RowKit Gf Lea Go.Proofs.YtbbojbdigiibbaaGreatDoor
def zDT (ix:Key) (nm:ByteArray):Prop:=(∃ n,n < 16∧nm=zJ ix n)∨nm=zAM ix
def Had (s:zF) (ix:Key):Prop:=∃ nm,zDT ix nm∧Sto.look s.st.recs nm≠none
theorem zDT.ix {ix:Key} {nm:ByteArray} (h:zDT ix nm) (hix:ix.length=16):zCe nm=ix:=by
 rcases h with ⟨n,_,rfl⟩ | rfl
 · exact zCJ n hix
 · exact zCo hix
theorem zDT.noLease {ix:Key} {nm:ByteArray} (h:zDT ix nm) (ix':Key):nm≠zD ix':=by
 rcases h with ⟨n,_,rfl⟩ | rfl
 · exact zB1
 · exact zC7
theorem zDT.noL {ix:Key} {nm:ByteArray} (h:zDT ix nm):noL nm=true:=by
 rcases h with ⟨n,_,rfl⟩ | rfl
 · rfl
 · rfl
theorem zEz {s:zF} {ix:Key} {n:Nat} {b:List UInt8} (hn:n < 16) (h:s.st.get (zJ ix n)=some b):(((n:Nat):Int),b)∈s.shares ix:=by
 unfold zF.shares zF.sharesK
 exact List.mem_filterMap.2 ⟨n,List.mem_range.2 hn,by rw [h];rfl⟩
theorem zKm {s:zF} {k:Key} (hd:s.st.dead=false) {nm:ByteArray} (h:zDT k nm) (hl:Sto.look s.st.recs nm≠none):nm∈swN s k:=by
 unfold swN
 rcases h with ⟨n,hn,rfl⟩ | rfl
 · refine List.mem_append_left _ ?_
   cases hh:Sto.look s.st.recs (zJ k n) with
   | none=>exact absurd hh hl
   | some b=>exact List.mem_map.2 ⟨_,zEz hn (by rw [St.get_look hd];exact hh),by simp⟩
 · exact List.mem_append_right _ (by simp)
theorem swN_is {s:zF} {k:Key} {nm:ByteArray} (h:nm∈swN s k):zDT k nm∨nm=zD k:=by
 unfold swN at h
 rcases List.mem_append.1 h with h | h
 · obtain ⟨x,hx,rfl⟩:=List.mem_map.1 h
   obtain ⟨m,hm,e,_⟩:=zDF hx
   exact .inl (.inl ⟨m,hm,by rw [e];rfl⟩)
 · simp only [List.mem_cons,List.not_mem_nil,or_false] at h
   rcases h with rfl | rfl
   · exact .inl (.inr rfl)
   · exact .inr rfl
theorem zMs (k:Key):noL (zD k)=false:=rfl
theorem zEL {s s':zF} {ix:Key} (h:∀ nm,zDT ix nm→Sto.look s'.st.recs nm=Sto.look s.st.recs nm):Had s' ix↔Had s ix :=
 ⟨fun ⟨nm,a,b⟩=>⟨nm,a,by rw [← h nm a];exact b⟩,fun ⟨nm,a,b⟩=>⟨nm,a,by rw [h nm a];exact b⟩⟩
def swS (s:zF) (k:Key):zF:={ s with st:=(zx (swN s k) s.st false).2.2 }
theorem zNG {m:Nat} {s:zF} (h:zCg m s) {k:Key} (hk:k.length=16) :
  (zx (swN s k) s.st false).2.1=0∧zCg (m+18) (swS s k)∧((zx (swN s k) s.st false).1=true↔Had s k)∧¬ Had (swS s k) k ∧
   ∀ nm,zCe nm≠k→Sto.look (swS s k).st.recs nm=Sto.look s.st.recs nm:=by
 obtain ⟨c1,c2,c3,c4,c5,c6,c7⟩:=zDJ (swN s k) (t:=false) h.st h.calm
 refine ⟨c1,⟨c2.le (by have:=zEn s k;omega),c3,h.good,h.wf,h.brk,by have:=h.len;show s.tab.length≤_;omega,by show (zx (swN s k) s.st false).2.2.recs.length≤120;rw [c5];exact h.few⟩,?_,?_,fun nm hn=>(c6 nm).2 fun hm=>hn (zON hk hm)⟩
 · rw [c7]
   constructor
   · rintro (h' | ⟨nm,h1,h2,h3⟩)
     · cases h'
     · rcases swN_is h1 with h4 | rfl
       · exact ⟨nm,h4,h3⟩
       · rw [zMs] at h2;cases h2
   · rintro ⟨nm,h1,h2⟩
     exact .inr ⟨nm,zKm h.st.dead h1 h2,h1.noL,h2⟩
 · rintro ⟨nm,h1,h2⟩
   rcases Classical.em (nm∈swN s k) with e | e
   · exact h2 ((c6 nm).1 e)
   · apply e
     refine zKm h.st.dead h1 fun e2=>h2 ?_
     show Sto.look (zx (swN s k) s.st false).2.2.recs nm=none
     rw [(c6 nm).2 e,e2]
theorem zH1 {k:Key} {L:List Key} {s:zF} (c:(zx (swN s k) s.st false).2.1=0):zL (k::L) s=((if (zx (swN s k) s.st false).1=true then [k] else [])++(zL L (swS s k)).1,(zL L (swS s k)).2):=by
 rw [zL,if_pos c];rfl
theorem zDS:∀ (L:List Key) {m:Nat} {s:zF},zCg m s→(∀ k∈L,k.length=16)→L.Nodup→∀ ix,ix.length=16 →
  (ix∈(zL L s).1↔ix∈L∧Had s ix)∧(ix∈L→¬ Had (zL L s).2.2 ix)
 | [],m,s,h,_,_,ix,_=>⟨by simp [zL],fun h=>by cases h⟩
 | k::L,m,s,h,hk,hn,ix,hix=>by
   have hk16:=hk k (by simp)
   obtain ⟨c1,c2,c3,c4,c5⟩:=zNG h hk16
   have hkL:k∉L:=(List.nodup_cons.1 hn).1
   have hI:=zDS L c2 (fun x hx=>hk x (by simp [hx])) (List.nodup_cons.1 hn).2 ix hix
   have hW:=(zBM L c2 (fun x hx=>hk x (by simp [hx]))).2.2.2
   rw [zH1 c1]
   by_cases e:ix=k
   · subst e
     have hno:ix∉(zL L (swS s ix)).1:=fun h=>hkL (hI.1.1 h).1
     refine ⟨?_,fun _ hH=>c4 ((zEL fun nm hd=>hW nm (by rw [hd.ix hix];exact hkL)).1 hH)⟩
     rw [List.mem_append,← c3]
     constructor
     · rintro (h' | h')
       · split at h'
         · rename_i hq;exact ⟨by simp,hq⟩
         · cases h'
       · exact absurd h' hno
     · rintro ⟨_,h'⟩
       rw [if_pos h'];simp
   · have hs:Had (swS s k) ix↔Had s ix:=zEL fun nm hd=>c5 nm (by rw [hd.ix hix];exact e)
     refine ⟨?_,fun hm=>hI.2 ((List.mem_cons.1 hm).resolve_left e)⟩
     rw [List.mem_append,hI.1,hs,List.mem_cons]
     constructor
     · rintro (h' | ⟨h1,h2⟩)
       · split at h'
         · exact absurd (List.mem_singleton.1 h') e
         · cases h'
       · exact ⟨.inr h1,h2⟩
     · rintro ⟨h1,h2⟩
       exact .inr ⟨h1.resolve_left e,h2⟩
theorem zCg.tickAll {m:Nat} {s s':zF} (h:zCg m s) (hm:m < 900000) (ht:s.tab.length≤1000) {now:Int} {out:List Key} (hT:zNM s now out s') {ix:Key} (hix:ix.length=16) :
  (zEu s.tab ix now→ix∉out∧zEu s'.tab ix now∧∀ nm,zDT ix nm→Sto.look s'.st.recs nm=Sto.look s.st.recs nm) ∧
  (¬ zEu s.tab ix now→(ix∈out↔Had s ix)∧¬ Had s' ix):=by
 have hK:=(h.tick hm ht hT).2.2
 obtain ⟨l1,R,hE,hT⟩:=hT
 have hsub:=zC0 hE
 have hg1:Lea.Good l1:=(h.good.sub List.filter_sublist).perm hE.perm
 have hw1:∀ x∈l1,Wf x:=fun x hx=>h.wf x (hsub.1 x hx)
 have hW1:zCg m { s with tab:=l1 }:=⟨h.st,h.calm,hg1,hw1,h.brk,Nat.le_trans hsub.2 h.len,h.few⟩
 have hRn:R.Nodup:=hE.up.imp fun {a b} h e=>by rw [e,zCy] at h;omega
 have hRl:R.length≤s.tab.length:=by
  have h1:=zDd R (s.tab.map (·.ix)) hRn fun k hk=>by
   obtain ⟨⟨x,hx,e,_⟩,_⟩:=(hE.mem k).1 hk
   exact List.mem_map.2 ⟨x,hx,e⟩
  rw [List.length_map] at h1
  exact h1
 have hRk:∀ k∈R,k.length=16:=fun k hk=>by
  obtain ⟨⟨x,hx,e,_⟩,_⟩:=(hE.mem k).1 hk
  rw [← e];exact (h.wf x hx).1
 obtain ⟨a1,a2,a3,a4⟩:=zBM R hW1 hRk
 have aT:=zDS R hW1 hRk hRn ix hix
 rcases hT with ⟨b1,_⟩ | ⟨_,I,pk,hI,hpk,hT⟩
 · exact absurd a1 b1
 have e0:Had { s with tab:=l1 } ix↔Had s ix:=Iff.rfl
 rw [e0] at aT
 generalize (zL R { s with tab:=l1 }).2.2=s1 at *
 generalize (zL R { s with tab:=l1 }).1=o1 at *
 have hrl:∀ {st:St} {I:List Key},st.recs.length≤120→zId st I→I.length≤120:=fun {st I} hf hI=>by
  have h1:=zDd I (st.recs.map fun r=>zCe r.name) hI.nodup fun k hk=>by
   obtain ⟨_,r,hr,_,e⟩:=(hI.mem k).1 hk
   exact List.mem_map.2 ⟨r,hr,e⟩
  rw [List.length_map] at h1
  omega
 have hIl:=hrl a2.few hI
 have hHl:=zEd l1 I
 have hHo:∀ ix∈zBJ l1 I,zAe (zD ix) (pk ix):=fun ix hi=>by
  obtain ⟨o,h1,h2⟩:=hpk ix hi
  have hne:=(zF4 hi).2
  obtain ⟨p,hp⟩:=List.exists_mem_of_ne_nil _ hne
  obtain ⟨x,hx,e,_⟩:=zCS.1 hp
  rw [h2]
  exact zAe.lease ix o (by rw [← e];exact (hw1 x hx).1) (zDe hw1 hg1 h1 fun e=>hne (h1.nil_iff.1 e))
 obtain ⟨b1,b2,b3,b4⟩:=zB7 (pk:=pk) (zBJ l1 I) a2 (by omega) hHo
 rcases hT with ⟨c1,_⟩ | ⟨_,I2,hI2,rfl,rfl⟩
 · rw [b1] at c1;cases c1
 generalize (zAL pk (zBJ l1 I) s1).2=s2 at *
 have h21:Had s2 ix↔Had s1 ix:=zEL fun nm hd=>b4 nm fun ix'=>hd.noLease ix'
 obtain ⟨F,hF⟩:∃ F,F=I2.filter fun ix=>decide (ofL l1 ix=[]):=⟨_,rfl⟩
 have hFk:∀ k∈F,k.length=16:=fun k hk=>by
  rw [hF] at hk
  obtain ⟨_,r,hr,his,e⟩:=(hI2.mem k).1 (List.mem_filter.1 hk).1
  rw [← e]
  have:=b2.st.recs r hr his
  generalize r.name=nm at this
  generalize r.data=dt at this
  cases this with
  | share ix n data h hn hd=>rw [zCJ n h];exact h
  | slot ix k l h hk hl h16 hu=>rw [zCo h];exact h
  | lease ix out h hl=>rw [zA7 h];exact h
 have hFn:F.Nodup:=by rw [hF];exact hI2.nodup.filter _
 rw [← hF] at hK ⊢
 obtain ⟨c1,c2,c3,c4⟩:=zBM F b2 hFk
 have cT:=zDS F b2 hFk hFn ix hix
 have hFm:ix∈F↔ix∈I2∧ofL l1 ix=[]:=by rw [hF,List.mem_filter];simp
 have hI2m:Had s2 ix→ix∈I2:=fun ⟨nm,h1,h2⟩=>by
  cases hh:Sto.look s2.st.recs nm with
  | none=>exact absurd hh h2
  | some b =>
    obtain ⟨r,r1,r2,r3,_⟩:=zFe hh
    exact (hI2.mem ix).2 ⟨b2.st.dead,r,r1,r2,by rw [r3];exact h1.ix hix⟩
 constructor
 · rintro ⟨x,hx,rfl,hnow⟩
   obtain ⟨k1,k2⟩:=hK x hx hnow
   have hin:x∈l1:=hE.perm.mem_iff.2 (List.mem_filter.2 ⟨hx,by simpa using hnow⟩)
   refine ⟨fun hm=>?_,⟨x,k1,rfl,hnow⟩,fun nm hd=>k2 nm (hd.ix hix) hd.noLease⟩
   rcases List.mem_append.1 hm with hm | hm
   · exact ((hE.mem _).1 (aT.1.1 hm).1).2 x hin rfl
   · exact zBe.1 (hFm.1 (cT.1.1 hm).1).2 x hin rfl
 · intro hL
   have hno:∀ x∈l1,x.ix≠ix:=fun x hx e=>by
    have:=List.mem_filter.1 (hE.perm.mem_iff.1 hx)
    exact hL ⟨x,this.1,e,by simpa using this.2⟩
   have hof:ofL l1 ix=[]:=zBe.2 hno
   have hfin:¬ Had (zL F s2).2.2 ix:=by
    rcases Classical.em (ix∈F) with e | e
    · exact cT.2 e
    · intro hH
      have h2:=(zEL fun nm hd=>c4 nm (by rw [hd.ix hix];exact e)).1 hH
      exact e (hFm.2 ⟨hI2m h2,hof⟩)
   refine ⟨?_,hfin⟩
   rw [List.mem_append,aT.1,cT.1]
   rcases Classical.em (ix∈R) with e | e
   · have h2:¬ Had s2 ix:=fun h=>aT.2 e (h21.1 h)
     constructor
     · rintro (h' | h')
       · exact h'.2
       · exact absurd h'.2 h2
     · exact fun h'=>.inl ⟨e,h'⟩
   · have h1:Had s1 ix↔Had s ix:=zEL fun nm hd=>a4 nm (by rw [hd.ix hix];exact e)
     constructor
     · rintro (h' | h')
       · exact h'.2
       · exact h1.1 (h21.1 h'.2)
     · exact fun h'=>.inr ⟨hFm.2 ⟨hI2m (h21.2 (h1.2 h')),hof⟩,h21.2 (h1.2 h')⟩
theorem zAm.tabLen {m:Nat} {s:zF} (h:zAm m s):s.tab.length≤8*s.slots:=by
 have:=zF2 (s.st.recs.map fun r=>zCe r.name) s.tab (fun x hx=>by
  have hw:=(h.wf x hx).1
  rcases h.tab x.ix hw with ⟨_,h2⟩ | ⟨o,h1,_⟩
  · exact absurd rfl (zBe.1 h2 x hx)
  · obtain ⟨r,a1,a2,a3,_⟩:=zFe h1
    exact List.mem_map.2 ⟨r,a1,by rw [a3];exact zA7 hw⟩) h.good.few
 rwa [List.length_map,← h.slots] at this
theorem zAm.weak {m:Nat} {s:zF} (h:zAm m s) (hs:s.st.disk.stops=false):zCg (m+1000) s:=by
 have h1:=h.tabLen
 have h2:=h.few
 exact ⟨h.st.le (by omega),hs,h.good,h.wf,h.brk,by omega,by rw [← h.slots];exact h2⟩
theorem zAQ.contNe {s:zF} (h:zAQ s.st.recs) (hd:s.st.dead=false) (ix:Key):∃ o,zA5 s ix o∧(0 < (zw o).length↔Sto.look s.st.recs (zAM ix)≠none):=by
 cases hl:Sto.look s.st.recs (zAM ix) with
 | none=>exact ⟨none,by show s.st.get _=none;rw [St.get_look hd,hl],by simp [zw]⟩
 | some b =>
   obtain ⟨k,l,rfl,h1,h2,h3,_,h4⟩:=(h.look hl).slot_of
   refine ⟨some (k,l),⟨by rw [St.get_look hd,hl],h1,h2,h3⟩,?_⟩
   have:0 < l.length:=List.length_pos_iff.2 h4
   simpa [zw] using this
theorem zHd {s:zF} (hd:s.st.dead=false) (ix:Key):0 < (s.shares ix).length↔∃ n,n < 16∧Sto.look s.st.recs (zJ ix n)≠none:=by
 constructor
 · intro h
   obtain ⟨x,hx⟩:=List.exists_mem_of_ne_nil _ (List.length_pos_iff.1 h)
   obtain ⟨m,hm,_,e⟩:=zDF hx
   exact ⟨m,hm,by rw [← St.get_look hd,e];simp⟩
 · rintro ⟨n,hn,h⟩
   cases hh:Sto.look s.st.recs (zJ ix n) with
   | none=>exact absurd hh h
   | some b=>exact List.length_pos_of_mem (zEz hn (by rw [St.get_look hd];exact hh))
theorem zOy {s:zF} (hd:s.st.dead=false) {ix:Key} {o:Option (Key × List zP)} (ho:0 < (zw o).length↔Sto.look s.st.recs (zAM ix)≠none):Had s ix↔0 < (s.shares ix).length+(zw o).length:=by
 have h1:=zHd hd ix
 constructor
 · rintro ⟨nm,⟨n,hn,rfl⟩ | rfl,h2⟩
   · have:=h1.2 ⟨n,hn,h2⟩;omega
   · have:=ho.2 h2;omega
 · intro h
   by_cases h2:0 < (s.shares ix).length
   · obtain ⟨n,hn,h3⟩:=h1.1 h2
     exact ⟨_,.inl ⟨n,hn,rfl⟩,h3⟩
   · exact ⟨_,.inr rfl,ho.1 (by omega)⟩
theorem zKi {s s':zF} (hd:s.st.dead=false) (hd':s'.st.dead=false) {ix:Key} (h:∀ nm,zDT ix nm→Sto.look s'.st.recs nm=Sto.look s.st.recs nm):s'.shares ix=s.shares ix:=by
 unfold zF.shares zF.sharesK
 refine fmC fun n hn=>?_
 rw [St.get_look hd,St.get_look hd',h _ (.inl ⟨n,List.mem_range.1 hn,rfl⟩)]
theorem zMV {s s':zF} (hd:s.st.dead=false) (hd':s'.st.dead=false) {ix:Key} (h:∀ nm,zDT ix nm→Sto.look s'.st.recs nm=Sto.look s.st.recs nm) {o:Option (Key × List zP)} (ho:zA5 s ix o):zA5 s' ix o:=by
 have e:s'.st.get (zAM ix)=s.st.get (zAM ix):=by rw [St.get_look hd,St.get_look hd',h _ (.inr rfl)]
 cases o with
 | none=>exact e.trans ho
 | some kl=>exact ⟨e.trans ho.1,ho.2⟩
end Go.Mem
end
section
namespace Go.Mem
open Go Go.RowKit Gf Lea Go.Proofs.YtbbojbdigiibbaaGreatDoor
theorem zFO.stop {m:Nat} {s:zF} {l:List Sto.Rec} (h:zFO m s l) (a k:Int):zFO m { s with st:={ s.st with disk:=s.st.disk.stop a k } } l :=
 ⟨h.dead,⟨h.hold.holds.stop a k,h.hold.bnd,h.hold.writes,h.hold.recs⟩,h.good,h.slots,h.room,h.few⟩
theorem zEB.stop {m:Nat} {s:zF} {f:zE6} (h:zEB m s f) (a k:Int):zEB m { s with st:={ s.st with disk:=s.st.disk.stop a k } } f:=by
 rcases h with ⟨h,e⟩ | ⟨l,h,e⟩
 · exact .inl ⟨h.stop a k,e⟩
 · exact .inr ⟨l,h.stop a k,e⟩
def kx (j:Nat):Key:=UInt8.ofNat j::List.replicate 15 0
theorem zCf (j:Nat):(kx j).length=16:=by simp [kx]
end Go.Mem
namespace Go.Proofs.YtbbojbdigiibbaaGreatDoor
open Go Go.RowKit Go.Mem Gf Lea
set_option linter.unusedVariables false
theorem zL5 {j:Nat} (h:j < 256):zEs (.int .u8 (j:Int))=(bV (kx j)).toArray:=by
 unfold zEs kx
 simp only [bV,List.map_cons,List.map_replicate]
 rw [Gf.zHj _ h]
 rfl
theorem zKP {w0 w:World} {C:Nat→Prop} {pb m B:Nat} {s:zF} {f:zE6} (h:zAW w0 w C pb s) (hT:zEB m s f) (hm:m+1 < 900000) {r:Req} (hr:r.Wf) {vt vb:Value} {ts:List Tst} {bl:List zP}
  (hB:∀ b,C b→b < B) (hts:zDk w (fun b=>b < B) vt ts) (hbl:zAI w (fun b=>b < B) vb (zBP bl)) :
  Calls Tryz.prog 20 #[.pointer (some ⟨pb,0,none⟩),.agg (zM (zGD r vt vb)).toArray] w fun e w'=>∃ C' u err s',e=.returned (.agg #[.int .i64 err,u])∧zAW w0 w' C' pb s'∧(∃ f',zEB (m+2) s' f')∧s'.slots=s.slots∧zAO C C' w w':=by
 have hz:∀ x∈zBP bl,x.2.length≤16384:=fun x hx=>by have:=zJC bl x hx;omega
 rcases hT with ⟨hg,hf⟩ | ⟨l,hx,hf⟩
 · have hwr:=hg.st.writes
   obtain ⟨o,ho⟩:=zAQ.cont (s:=s) hg.st.recs hg.st.dead (zGD r vt vb).ix
   refine (h.any (hg.srvB (by omega)) (by omega) (zGE hr vt vb) (l:=zBP bl) (zAI.mono hbl fun b hb=>.inl (hB b hb)) hz (ts:=ts) (zDk.mono hts fun b hb=>.inl (hB b hb)) (fun _=>ho)).mono ?_
   rintro e w' ⟨C',err,u,lb,s',rfl,_,hR,hL,hsc⟩
   obtain ⟨h1,h2,_⟩:=zEB.stepDo (m:=m) (f:=f) (.inl ⟨hg,hf⟩) (by omega) (zGE hr vt vb) hz (fun _=>ho) hR
   exact ⟨C',u,err,s',rfl,hL,h1,h2,hsc⟩
 · refine (h.gone hx.isdead (zGE hr vt vb)).mono ?_
   rintro e w' ⟨C',rfl,hL,hsc⟩
   exact ⟨C',_,_,s,rfl,hL,⟨f,.inr ⟨l,hx.le (by omega),hf⟩⟩,rfl,hsc⟩
theorem zR.less {w:World} {C X Y:Nat→Prop} {pb:Nat} {s:zF} (h:zR w C X pb s) (hY:∀ b,Y b→X b):zR w C Y pb s:=by
 obtain ⟨sb,lb,d,L,tb,v,h⟩:=h
 refine ⟨sb,lb,d,L,tb,v,h.blk,⟨h.st.blk,h.st.recs.mono (fun b hb=>.inl (hb.imp id (hY b))),h.st.disk,h.st.tab,fun hg=>h.st.ntab (hg.imp id (hY _)),fun b hb=>.inl (h.core b (.inl hb)),h.st.ne,h.st.ok,fun b hb=>h.st.old b (hb.imp id (hY b))⟩,h.heap,h.good,h.core,fun b hb=>h.xc b (hY b hb),h.npb,h.ntb,h.nown⟩
structure zGt (w0 w:World) (C X:Nat→Prop) (pb:Nat) (s:zF):Prop where
 srv:zR w C X pb s
 bel:Below w0.heap.size w0 w
 c1:∀ b,C b→w0.heap.size≤b
 x1:∀ b,X b→w0.heap.size≤b
theorem zGt.l {w0 w:World} {C X:Nat→Prop} {pb:Nat} {s:zF} (h:zGt w0 w C X pb s):zAW w0 w C pb s:=⟨h.srv.less (fun _ h=>h.elim),h.bel,h.c1⟩
theorem zGt.below {w0 w w':World} {C X:Nat→Prop} {pb:Nat} {s:zF} (h:zGt w0 w C X pb s) (hb:Below w.heap.size w w'):zGt w0 w' C X pb s :=
 ⟨h.srv.below hb,h.bel.trans (hb.mono h.bel.size),h.c1,h.x1⟩
theorem zGt.chg {w0 w w':World} {C X:Nat→Prop} {pb:Nat} {s:zF} (h:zGt w0 w C X pb s) (hc:Chg X w w'):zGt w0 w' C X pb s :=
 ⟨h.srv.growS hc (fun b hb=>h.srv.xc b hb) (fun b hb _=>hb) (fun b hb=>hb) (fun b hb=>.inl hb) (fun b hb=>Nat.lt_of_lt_of_le (h.srv.lt (.inr hb)) hc.size),Chg.far h.bel hc h.bel.size h.x1,h.c1,h.x1⟩
theorem zAW.y {w0 w w':World} {C X:Nat→Prop} {pb:Nat} {s:zF} (h:zAW w0 w C pb s) (hb:Below w.heap.size w w') (h1:∀ b,X b→w.heap.size≤b) (h2:∀ b,X b→b < w'.heap.size):zGt w0 w' C X pb s :=
 ⟨h.srv.growS (S:=fun _=>False) (Chg.of_below hb) (fun _ h=>h.elim) (fun _ h=>h.elim) (fun _ h=>h.elim) (fun b hb=>.inr (h1 b hb)) h2,h.bel.trans (hb.mono h.bel.size),h.c1,fun b hb=>Nat.le_trans h.bel.size (h1 b hb)⟩
end Go.Proofs.YtbbojbdigiibbaaGreatDoor
end
section
namespace Go.Proofs.YtbbojbdigiibbaaGreatDoor
open Go Go.RowKit Go.Mem Gf Lea
set_option linter.unusedVariables false
attribute [local go_sem ↓] Go.wp_at_zero Go.wp_at_succ
theorem zLN {α:Type} {l l':List α} (hn:l.length=l'.length) (h:∀ q,q < l.length→l[q]?=l'[q]?):l=l':=by
 apply List.ext_getElem?
 intro q
 rcases Nat.lt_or_ge q l.length with h1 | h1
 · exact h q h1
 · rw [List.getElem?_eq_none h1,List.getElem?_eq_none (by omega)]
set_option maxRecDepth 100000 in
set_option maxHeartbeats 2000000 in
theorem zEv (va vb:Value) (l l':List zP) (w:World) (ha:zAI w (fun _=>False) va l) (hb:zAI w (fun _=>False) vb l') :
  Calls Tryz.prog 22 #[va,vb] w fun e w'=>e=.returned (.bool (decide (l=l')))∧∃ k,w'=w.drewN k:=by
 obtain ⟨aa,ac,rfl,ha1,ha2,harow⟩:=id ha
 obtain ⟨ba,bc,rfl,hb1,hb2,hbrow⟩:=id hb
 obtain ⟨n,hn⟩:∃ n,n=l.length:=⟨_,rfl⟩
 obtain ⟨m,hm⟩:∃ n,n=l'.length:=⟨_,rfl⟩
 rw [← hn] at ha1 harow ⊢
 rw [← hm] at hb1 hbrow ⊢
 unfold maxLen at ha2 hb2
 have H:=Zh (Zi hn (Zi hm (Zi harow hbrow)))
 clear ha hb hn hm harow hbrow
 by_cases hnm:n=m
 rotate_left
 · have t1:((n:Int) != (m:Int))=true:=by simp;omega
   have t2:(n != m)=true:=by simp;omega
   have hd:decide (l=l')=false:=by
    simp
    intro e
    rw [e] at H
    have:=H.o.1
    have:=H.o.2.1
    omega
   have HD:=Zh hd
   replace hnm:=Zh hnm
   clear hd
   go_enter Tryz.func22,Tryz.ntmps22
   go_wp2_with fail
   go_ret
   exact ⟨by rw [HD.o];rfl,0,rfl⟩
 · subst hnm
   have t1:((n:Int) != (n:Int))=false:=by simp
   have t2:(n != n)=false:=by simp
   go_enter Tryz.func22,Tryz.ntmps22
   go_upto_region 4 with fail
   go_loopw [13] (fun vi wr=>∃ i:Nat,i≤n∧vi=.int .i64 i∧Hid ((∀ q,q < i→l[q]?=l'[q]?)∧∃ k,wr=w.drewN k)) (fun vi _=>n - (intOf vi).toNat)
   case atStart=>exact ⟨0,Nat.zero_le _,rfl,(fun q h=>by omega),0,rfl⟩
   case round =>
    obtain ⟨i,hi0,rfl,G⟩:=hrel
    by_cases hin:i < n
    · obtain ⟨b1,o1,rfl,hl1,_,hc1⟩:=H.o.2.2.1 (by omega)
      obtain ⟨b2,o2,rfl,hl2,_,hc2⟩:=H.o.2.2.2 (by omega)
      have hx:l[i]?=some (l[i]'(by have:=H.o.1;omega)):=by simp
      generalize l[i]'(by have:=H.o.1;omega)=x at hx
      have hy:l'[i]?=some (l'[i]'(by have:=H.o.2.1;omega)):=by simp
      generalize l'[i]'(by have:=H.o.2.1;omega)=y at hy
      obtain ⟨c1,a1,d1,c2,hd1⟩:=hc1 i x hx
      obtain ⟨e1,a2,d2,e2,hd2⟩:=hc2 i y hy
      obtain ⟨kk,hkk⟩:=G.o.2
      have i0:(0:Int)≤(i:Int):=by omega
      have i1:(i:Int) < (n:Int):=by omega
      obtain ⟨z,hz⟩:∃ z,z=x.1:=⟨_,rfl⟩
      obtain ⟨u,hu⟩:∃ z,z=y.1:=⟨_,rfl⟩
      obtain ⟨xl,hxl⟩:∃ z,z=x.2.length:=⟨_,rfl⟩
      obtain ⟨yl,hyl⟩:∃ z,z=y.2.length:=⟨_,rfl⟩
      have f1:wr.cell? ⟨b1,o1+i*2,none⟩=some (.int .i64 z):=by rw [hkk,hz];exact c1
      have f2:wr.cell? ⟨b1,o1+i*2+1,none⟩=some (.slice a1 xl d1):=by rw [hkk,hxl];exact c2
      have f3:wr.cell? ⟨b2,o2+i*2,none⟩=some (.int .i64 u):=by rw [hkk,hu];exact e1
      have f4:wr.cell? ⟨b2,o2+i*2+1,none⟩=some (.slice a2 yl d2):=by rw [hkk,hyl];exact e2
      have hs:=fun k=>zKc (.slice a1 xl d1) (.slice a2 yl d2) x.2 y.2 (wr.drewN k) (by rw [hkk,hxl];exact hd1.1) (by rw [hkk,hyl];exact hd2.1)
      have HX:=Zh (Zi hx (Zi hy (Zi hz (Zi hu (Zi hs hkk)))))
      clear hx hy hz hu hxl hyl hs hkk c1 c2 e1 e2 hc1 hc2 hd1 hd2
      by_cases hzu:z=u
      rotate_left
      · have t3:(z != u)=true:=by simpa using hzu
        have hd:decide (l=l')=false:=by
         simp
         intro e
         have:=HX.o.1
         rw [e,HX.o.2.1] at this
         cases this
         exact hzu (HX.o.2.2.1.trans HX.o.2.2.2.1.symm)
        have HD:=Zh hd
        replace hzu:=Zh hzu
        clear hd
        go_upto_region 6 with fail
        go_quiet (fail)
        go_wp2_with fail
        go_ret
        exact ⟨by rw [HD.o];rfl,by rw [HX.o.2.2.2.2.2,World.drewN_drewN];exact ⟨_,rfl⟩⟩
      · have t3:(z != u)=false:=by simpa using hzu
        have HZ:=Zh hzu
        clear hzu
        have hq:∀ k,Calls Tryz.prog 31 #[.slice a1 xl d1,.slice a2 yl d2] (wr.drewN k) fun e w'=>e=.returned (.bool (decide (x.2=y.2)))∧∃ n,w'=wr.drewN n:=fun k=>by
         refine (HX.o.2.2.2.2.1 k).mono ?_
         rintro e w' ⟨rfl,q,rfl⟩
         exact ⟨rfl,_,World.drewN_drewN _ _ _⟩
        have HQ:=Zh hq
        clear hq
        by_cases hxy:x.2=y.2
        · have hdx:decide (x.2=y.2)=true:=by simpa using hxy
          have HXY:=Zh hxy
          rw [hdx] at HQ
          clear hxy hdx
          go_upto_region 6 with fail
          go_quiet (exact HQ.o _)
          go_wp2_with fail
          exact ⟨⟨i+1,by omega,by simp,fun q hq=>by
           rcases Nat.lt_or_ge q i with h | h
           · exact G.o.1 q h
           · have:q=i:=by omega
             subst this
             rw [HX.o.1,HX.o.2.1]
             have e1:x.1=y.1:=HX.o.2.2.1.symm.trans (HZ.o.trans HX.o.2.2.2.1)
             exact congrArg some (Prod.ext e1 HXY.o),by rw [HX.o.2.2.2.2.2,World.drewN_drewN];exact ⟨_,rfl⟩⟩,by show n - ((i:Int)+1).toNat < n - (i:Int).toNat;omega⟩
        · have hdx:decide (x.2=y.2)=false:=by simpa using hxy
          have hd:decide (l=l')=false:=by
           simp
           intro e
           have:=HX.o.1
           rw [e,HX.o.2.1] at this
           cases this
           exact hxy rfl
          have HD:=Zh hd
          rw [hdx] at HQ
          clear hxy hdx hd
          go_upto_region 6 with fail
          go_quiet (exact HQ.o _)
          go_wp2_with fail
          go_ret
          exact ⟨by rw [HD.o];rfl,by rw [HX.o.2.2.2.2.2,World.drewN_drewN];exact ⟨_,rfl⟩⟩
    · obtain rfl:i=n:=by omega
      have hd:decide (l=l')=true:=by
       simp
       exact zLN (by have:=H.o.1;have:=H.o.2.1;omega) (fun q hq=>G.o.1 q (by have:=H.o.1;omega))
      have HD:=Zh hd
      clear hd
      go_wp2_with fail
      go_ret
      exact ⟨by rw [HD.o];rfl,G.o.2⟩
end Go.Proofs.YtbbojbdigiibbaaGreatDoor
end
