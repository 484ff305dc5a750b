/- Texts of this proof,packed: SrvOk,SrvLaw,SrvNew,SortG,LeaKeys,LeaBare. -/
import Derived.Test.YtbbojbdigiibbaaGreatDoorPb12
import Derived.Test.YtbbojbdigiibbaaGreatDoorPb07
import Derived.Shelf.GgSortFunc.InsertionK
import Derived.Test.YtbbojbdigiibbaaGreatDoorPb08
import Derived.Test.YtbbojbdigiibbaaGreatDoorPb02
section
namespace Go.Mem
open Go Go.RowKit Gf Lea Go.Proofs.YtbbojbdigiibbaaGreatDoor
theorem zCp {a b:List UInt8} (h:(⟨a.toArray⟩:ByteArray)=⟨b.toArray⟩):a=b:=by
 injection h with h
 simpa using h
theorem zHJ {ix ix':Key} (h:zD ix=zD ix'):ix=ix':=by
 have h:=zCp h
 injection h
theorem zLm {ix ix':Key} {n:Nat}:zJ ix n≠zAM ix':=fun h=>by
 have h:=zCp h
 injection h with h _
 exact absurd h (by decide)
theorem zB1 {ix ix':Key} {n:Nat}:zJ ix n≠zD ix':=fun h=>by
 have h:=zCp h
 injection h with h _
 exact absurd h (by decide)
theorem zC7 {ix ix':Key}:zAM ix≠zD ix':=fun h=>by
 have h:=zCp h
 injection h with h _
 exact absurd h (by decide)
def zCe (nm:ByteArray):Key:=(nm.data.toList.drop 1).take 16
theorem zCJ {ix:Key} (n:Nat) (h:ix.length=16):zCe (zJ ix n)=ix:=by
 show ((115::(ix++[UInt8.ofNat n])).drop 1).take 16=ix
 rw [List.drop_succ_cons,List.drop_zero,List.take_append_of_le_length (by omega),List.take_of_length_le (by omega)]
theorem zCo {ix:Key} (h:ix.length=16):zCe (zAM ix)=ix:=by
 show ((99::ix).drop 1).take 16=ix
 rw [List.drop_succ_cons,List.drop_zero,List.take_of_length_le (by omega)]
theorem zA7 {ix:Key} (h:ix.length=16):zCe (zD ix)=ix:=by
 show ((108::ix).drop 1).take 16=ix
 rw [List.drop_succ_cons,List.drop_zero,List.take_of_length_le (by omega)]
theorem zCN (ix:Key) (n:Nat) (h:ix.length=16):(zJ ix n).size=18:=by
 show (115::(ix++[UInt8.ofNat n])).toArray.size=18
 simp;omega
theorem zIW (ix:Key) (h:ix.length=16):(zAM ix).size=17:=zEg 99 h
theorem zC4 (ix:Key) (h:ix.length=16):(zD ix).size=17:=zEg 108 h
structure LeOk (out:List Sec):Prop where
 wf:∀ s∈out,WfL s∧May s.2
 few:out.length≤8
 nodup:(out.map (·.1)).Nodup
 up:out.Pairwise fun a b=>ltL b a=false
 ne:out≠[]
inductive zAe:ByteArray→List UInt8→Prop
 | share (ix:Key) (n:Nat) (data:List UInt8) (h:ix.length=16) (hn:n < 16) (hd:data.length≤16384):zAe (zJ ix n) data
 | slot (ix k:Key) (l:List zP) (h:ix.length=16) (hk:k.length=16) (hl:zEp l) (h16:l.length≤16) (hu:(l.map (·.1)).Pairwise (· < ·)) (hne:l≠[]):zAe (zAM ix) (zAj k l)
 | lease (ix:Key) (out:List Sec) (h:ix.length=16) (hl:LeOk out):zAe (zD ix) (zf out)
def zAQ (l:List Sto.Rec):Prop:=∀ r∈l,r.is=true→zAe r.name r.data
theorem zAQ.free (n:Nat):zAQ (List.replicate n Sto.Rec.free):=fun r hr h=>by
 rw [(List.mem_replicate.1 hr).2] at h
 cases h
theorem zAQ.set {l:List Sto.Rec} (h:zAQ l) (t:Nat) {r:Sto.Rec} (hr:r.is=true→zAe r.name r.data):zAQ (l.set t r):=fun r' h'=>by
 rcases List.mem_or_eq_of_mem_set h' with h' | rfl
 · exact h r' h'
 · exact hr
theorem zAQ.drop {l:List Sto.Rec} (h:zAQ l) (t:Nat):zAQ (l.set t Sto.Rec.free):=h.set t (fun h=>by cases h)
theorem zAQ.putL {l:List Sto.Rec} (h:zAQ l) {name:ByteArray} {data:List UInt8} (hr:zAe name data):zAQ (putL l name data):=h.set _ (fun _=>hr)
theorem zAQ.putF {l:List Sto.Rec} (h:zAQ l) {name:ByteArray} {data:List UInt8} (hr:zAe name data):zAQ (putF l name data):=by
 unfold Go.Mem.putF
 split
 · exact h.putL hr
 · exact (h.putL hr).drop _
theorem zAQ.thin {l l':List Sto.Rec} (h:zAQ l) (ht:Sto.zBT l l'):zAQ l':=fun r hr his=>by
 obtain ⟨i,hi⟩:=List.getElem?_of_mem hr
 rcases ht.2 i with h1 | ⟨_,_,_,_,h1⟩
 · exact h r (List.mem_of_getElem? (h1.symm.trans hi)) his
 · rw [h1] at hi;cases hi;cases his
theorem zFe {l:List Sto.Rec} {nm:ByteArray} {b:List UInt8} (h:Sto.look l nm=some b):∃ r∈l,r.is=true∧r.name=nm∧r.data=b:=by
 obtain ⟨k,hk⟩:=zIh h
 obtain ⟨r,h1,h2,_⟩:=(Sto.zAF _ _ _).1 k hk
 unfold Sto.look at h
 rw [hk] at h
 simp only [Option.map_some,Option.some.injEq] at h
 rw [List.getD_eq_getElem?_getD,h2.1] at h
 exact ⟨r,List.mem_of_getElem? h2.1,h2.2.1,h2.2.2,h⟩
theorem zAQ.look {l:List Sto.Rec} (h:zAQ l) {nm:ByteArray} {b:List UInt8} (hl:Sto.look l nm=some b):zAe nm b:=by
 obtain ⟨r,h1,h2,rfl,rfl⟩:=zFe hl
 exact h r h1 h2
theorem zAQ.size {l:List Sto.Rec} (h:zAQ l):∀ r∈l,r.is=true→17≤r.name.size:=fun r hr his=>by
 have:=h r hr his
 generalize r.data=dd at this
 revert this
 generalize r.name=nm
 intro this
 cases this with
 | share ix n _ h _ _=>rw [zCN _ _ h];omega
 | slot ix _ _ h _ _ _ _=>rw [zIW _ h];exact Nat.le_refl _
 | lease ix _ h _=>rw [zC4 _ h];exact Nat.le_refl _
theorem zAe.lease_of {ix:Key} {b:List UInt8} (h:zAe (zD ix) b):∃ out,b=zf out∧LeOk out:=by
 generalize hn:zD ix=nm at h
 cases h with
 | share ix n _ _ _ _=>exact absurd hn (fun e=>zB1 e.symm)
 | slot ix _ _ _ _ _ _ _=>exact absurd hn (fun e=>zC7 e.symm)
 | lease ix out _ hl=>exact ⟨out,rfl,hl⟩
theorem zAe.slot_of {ix:Key} {b:List UInt8} (h:zAe (zAM ix) b):∃ k l,b=zAj k l∧k.length=16∧zEp l∧l.length≤16∧(l.map (·.1)).Pairwise (· < ·)∧l≠[]:=by
 generalize hn:zAM ix=nm at h
 cases h with
 | share ix n _ _ _ _=>exact absurd hn (fun e=>zLm e.symm)
 | slot ix k l _ hk hl h16 hu hne=>exact ⟨k,l,rfl,hk,hl,h16,hu,hne⟩
 | lease ix out _ hl=>exact absurd hn zC7
theorem zAQ.cont {s:zF} (h:zAQ s.st.recs) (hd:s.st.dead=false) (ix:Key):∃ o,zA5 s ix o:=by
 cases hl:Sto.look s.st.recs (zAM ix) with
 | none=>exact ⟨none,by show s.st.get _=none;rw [St.get_look hd,hl]⟩
 | some b =>
   obtain ⟨k,l,rfl,h1,h2,h3,_⟩:=(h.look hl).slot_of
   exact ⟨some (k,l),by rw [St.get_look hd,hl],h1,h2,h3⟩
structure zAu (m:Nat) (s:St):Prop where
 holds:Holds s.disk s.room s.recs
 uniq:Sto.Uniq s.recs
 disk:s.disk.dead=false
 dead:s.dead=false
 bnd:Bnd m s.recs
 writes:s.disk.writes≤2000*m
 room:1≤s.room∧s.room≤1000
 recs:zAQ s.recs
structure zDB (m:Nat) (D:zA) (room:Nat) (l:List Sto.Rec):Prop where
 holds:Holds D room l
 bnd:Bnd m l
 writes:D.writes≤2000*m
 recs:zAQ l
theorem zAu.hold {m:Nat} {s:St} (h:zAu m s):zDB m s.disk s.room s.recs:=⟨h.holds,h.bnd,h.writes,h.recs⟩
theorem zAu.le {m m':Nat} {s:St} (h:zAu m s) (hm:m≤m'):zAu m' s:=⟨h.holds,h.uniq,h.disk,h.dead,fun r hr=>Nat.le_trans (h.bnd r hr) hm,by have:=h.writes;omega,h.room,h.recs⟩
theorem zDB.le {m m':Nat} {D:zA} {room:Nat} {l:List Sto.Rec} (h:zDB m D room l) (hm:m≤m'):zDB m' D room l:=⟨h.holds,fun r hr=>Nat.le_trans (h.bnd r hr) hm,by have:=h.writes;omega,h.recs⟩
theorem zAu.fresh (slots room:Nat) (h:1≤room∧room≤1000):zAu 0 ⟨room,List.replicate slots Sto.Rec.free,false,.fresh (slots*(room+1))⟩ :=
 ⟨Holds.fresh slots room,zIZ slots,rfl,rfl,zNZ slots,Nat.le_refl _,h,zAQ.free _⟩
theorem zAu.stop {m:Nat} {s:St} (h:zAu m s) (a k:Int):zAu m { s with disk:=s.disk.stop a k }:=⟨h.holds.stop a k,h.uniq,h.disk,h.dead,h.bnd,h.writes,h.room,h.recs⟩
inductive PutL (m:Nat) (s:St) (name:ByteArray) (data:List UInt8):Int × St→Prop
 | arg (h:zAf s.room name data=false):PutL m s name data (1,s)
 | full (h:zAf s.room name data=true) (hs:Sto.slot s.recs=s.recs.length):PutL m s name data (3,s)
 | done (s':St) (h:zAf s.room name data=true) (hs:Sto.slot s.recs < s.recs.length) (hr:s'.recs=putF s.recs name data) (hl:zAu (m+1) s') (ho:s'.room=s.room) (hst:s'.disk.stops=s.disk.stops):PutL m s name data (0,s')
 | torn (s':St) (l:List Sto.Rec) (h:zAf s.room name data=true) (hs:Sto.slot s.recs < s.recs.length) (hd:s.disk.stops=true) (h1:s'.disk.dead=true) (h2:s'.dead=true) (ho:s'.room=s.room) (hl:zDB (m+1) s'.disk s.room l) (hx:l=s.recs∨Sto.zBT (putL s.recs name data) l):PutL m s name data (8,s')
theorem zAu.put {m:Nat} {s:St} (h:zAu m s) (hm:m < 1000000) {name:ByteArray} {data:List UInt8} (hr:zAe name data):PutL m s name data (zU s name data):=by
 have hro:=h.room
 have hw:=h.writes
 have hpw:=zFH s name data
 rcases zPC h.holds h.disk h.dead h.bnd (by omega) name data with ⟨h1,e⟩ | ⟨h1,h2,e⟩ | ⟨h0,h1,h2,h3,h4⟩
 · rw [e];exact .arg h1
 · rw [e];exact .full h1 h2
 · have hb:Bnd (m+1) (putL s.recs name data):=h.bnd.set (by omega) _ (h.bnd.next name)
   generalize zU s name data=R at *
   obtain ⟨e,s'⟩:=R
   simp only at *
   rcases h4 with ⟨rfl,a2,a3,a4,a5⟩ | ⟨rfl,a2,a3,a4,l,a5,a6⟩
   · refine .done s' h0 h1 a4 ⟨by rw [h2,a4];exact a5,by rw [a4];exact zM4 h.uniq h1 name data,a3,a2,by rw [a4];exact hb.thin (zGA h1 name data),by omega,by rw [h2];exact hro,by rw [a4];exact h.recs.putF hr⟩ h2 h3
   · refine .torn s' l h0 h1 a2 a4 a3 h2 ⟨a5,?_,by omega,?_⟩ a6
     · rcases a6 with rfl | a6
       · exact fun r hr=>Nat.le_succ_of_le (h.bnd r hr)
       · exact hb.thin a6
     · rcases a6 with rfl | a6
       · exact h.recs
       · exact (h.recs.putL hr).thin a6
inductive zJN (m:Nat) (s:St) (name:ByteArray):Int × St→Prop
 | none (h:Sto.look s.recs name=none):zJN m s name (4,s)
 | done (s':St) (x:List UInt8) (h:Sto.look s.recs name=some x) (k:Nat) (hk:Sto.best s.recs name s.recs.length=some k) (hr:s'.recs=s.recs.set k Sto.Rec.free) (hl:zAu (m+1) s') (ho:s'.room=s.room) (hst:s'.disk.stops=s.disk.stops) (hlk:∀ nm,Sto.look s'.recs nm=if nm=name then Option.none else Sto.look s.recs nm):zJN m s name (0,s')
 | torn (s':St) (l:List Sto.Rec) (x:List UInt8) (h:Sto.look s.recs name=some x) (hd:s.disk.stops=true) (h1:s'.disk.dead=true) (h2:s'.dead=true) (ho:s'.room=s.room) (hl:zDB (m+1) s'.disk s.room l) (hn:l.length=s.recs.length) (hlk:∀ nm,nm≠name→Sto.look l nm=Sto.look s.recs nm) (hx:Sto.look l name=Option.none∨Sto.look l name=some x):zJN m s name (8,s')
theorem zAu.drop {m:Nat} {s:St} (h:zAu m s) (name:ByteArray):zJN m s name (zA8 s name):=by
 unfold zA8
 rw [if_neg (by simp [h.dead])]
 cases hb:Sto.best s.recs name s.recs.length with
 | none=>exact .none (by unfold Sto.look;rw [hb];rfl)
 | some k =>
   obtain ⟨rk,hk,_⟩:=(Sto.zAF _ _ _).1 k hb
   obtain ⟨x,hx⟩:∃ x,Sto.look s.recs name=some x:=by unfold Sto.look;rw [hb];exact ⟨_,rfl⟩
   have hwr:(s.freeS k).disk.writes≤s.disk.writes+1:=zA.wr_writes _ _ _
   have hw:=h.writes
   have hlk:=Sto.zMp h.uniq hb
   have hb1:Bnd (m+1) s.recs:=fun r hr=>Nat.le_succ_of_le (h.bnd r hr)
   have hb2:Bnd (m+1) (s.recs.set k Sto.Rec.free):=h.bnd.set (by omega) k (Nat.zero_le _)
   have hst:(s.freeS k).disk.stops=s.disk.stops:=zBo _ _ _
   show zJN m s name (s.freeE k,s.freeS k)
   have hro:(s.freeS k).room=s.room:=rfl
   rcases zHB h.holds h.disk h.dead hk with ⟨a1,a2,a3,a4,a5⟩ | ⟨a1,a2,a2',a3,a4,a5,a6⟩
   · rw [a1]
     refine .done _ x hx k hb a4 ⟨by rw [a4,hro];exact a5,by rw [a4];exact h.uniq.drop k,a3,a2,by rw [a4];exact hb2,by omega,h.room,by rw [a4];exact h.recs.drop k⟩ hro hst (fun nm=>by rw [a4];exact hlk nm)
   · rw [a1]
     rcases a6 with a6 | a6
     · exact .torn _ s.recs x hx a2 a4 a3 hro ⟨a6,hb1,by omega,h.recs⟩ rfl (fun _ _=>rfl) (.inr hx)
     · exact .torn _ _ x hx a2 a4 a3 hro ⟨a6,hb2,by omega,h.recs.drop k⟩ List.length_set (fun nm hn=>by rw [hlk,if_neg hn]) (.inl (by rw [hlk,if_pos rfl]))
theorem zDB.reopen {m:Nat} {D:zA} {room:Nat} {l:List Sto.Rec} (h:zDB m D room l) (hl:l.length≤500) (hr:1≤room∧room≤1000) :
  ∃ l' D',Sto.zBT l l'∧zAh D.start l.length room=(0,D',some ⟨room,l',false,D'⟩)∧zAu (m+1) ⟨room,l',false,D'⟩∧D'.stops=false:=by
 obtain ⟨l',D',h1,h2,h3⟩:=zJu h.holds h.bnd h.writes hl hr
 exact ⟨l',D',h1,h2,⟨h3.holds,h3.uniq,h3.disk,h3.dead,h3.bnd,h3.writes,h3.room,h.recs.thin h1⟩,h3.stops⟩
def TabIs (l:List Sto.Rec) (tab:List Les):Prop:=∀ ix:Key,ix.length=16→(Sto.look l (zD ix)=none∧ofL tab ix=[])∨∃ out,Sto.look l (zD ix)=some (zf out)∧OfR tab ix out∧out≠[]
theorem zDe {t:List Les} (hw:∀ x∈t,Wf x) (hg:Lea.Good t) {ix:Key} {out:List Sec} (h:OfR t ix out) (hne:out≠[]):LeOk out:=by
 refine ⟨fun s hs=>?_,?_,?_,h.up,hne⟩
 · obtain ⟨x,hx,_,e⟩:=zCS.1 (h.perm.mem_iff.1 hs)
   subst e
   exact ⟨(hw x hx).2,hg.ends x hx⟩
 · rw [h.perm.length_eq];exact hg.few ix
 · have hg':Lea.Good (t.filter fun x=>decide (x.ix=ix)):=hg.sub List.filter_sublist
   have h1:(t.filter fun x=>decide (x.ix=ix)).map kOf=((ofL t ix).map (·.1)).map fun s=>(ix,s):=by
    unfold ofL
    rw [List.map_map,List.map_map]
    refine List.map_congr_left fun x hx=>?_
    have:=(List.mem_filter.1 hx).2
    simp only [decide_eq_true_eq] at this
    subst this
    rfl
   have h2:=hg'.uniq
   rw [h1] at h2
   exact (h.perm.map _).nodup_iff.2 ((List.pairwise_map.1 h2).imp (fun h e=>h (by rw [e])))
end Go.Mem
end
section
namespace Lea
theorem zE0 {ix ix':Key} (hn:ix'≠ix):∀ {l:List Les} {k:Nat} {x y:Les},l[k]?=some x→x.ix=ix→y.ix=ix→ofL (l.set k y) ix'=ofL l ix'
 | z::l,0,x,y,hx,h1,h2=>by
   simp at hx
   subst hx
   unfold ofL
   rw [List.set_cons_zero,List.filter_cons_of_neg (by simpa [h2] using fun e=>hn e.symm),List.filter_cons_of_neg (by simpa [h1] using fun e=>hn e.symm)]
 | z::l,k+1,x,y,hx,h1,h2=>by
   have ih:=zE0 hn (l:=l) (k:=k) (by simpa using hx) h1 h2
   unfold ofL at ih ⊢
   rw [List.set_cons_succ,List.filter_cons,List.filter_cons]
   split
   · rw [List.map_cons,List.map_cons,ih]
   · exact ih
theorem zBk.other {l l':List Les} {ix sec:Key} {e:Int} {b:Bool} (h:zBk l ix sec e b l') {ix':Key} (hn:ix'≠ix):(ofL l' ix').Perm (ofL l ix'):=by
 cases h with
 | no _=>exact List.Perm.refl _
 | more k x _ _ hx h1 _ hp=>exact (zBl hp ix').trans (by rw [zE0 hn hx h1 rfl])
 | new _ _ _ _ hp =>
   refine (zBl hp ix').trans ?_
   rw [zEi]
   have:ofL [(⟨ix,sec,e⟩:Les)] ix'=[]:=by
    unfold ofL
    rw [List.filter_cons_of_neg (by simpa using fun e=>hn e.symm)];rfl
   rw [this,List.append_nil]
theorem zBk.wf {l l':List Les} {ix sec:Key} {e:Int} {b:Bool} (h:zBk l ix sec e b l') (hw:∀ x∈l,Wf x) (h1:ix.length=16) (h2:sec.length=16):∀ x∈l',Wf x:=by
 cases h with
 | no _=>exact hw
 | more k x _ _ hx _ _ hp =>
   intro y hy
   rcases List.mem_or_eq_of_mem_set (hp.mem_iff.1 hy) with hy | rfl
   · exact hw y hy
   · exact ⟨h1,h2⟩
 | new _ _ _ _ hp =>
   intro y hy
   rcases List.mem_append.1 (hp.mem_iff.1 hy) with hy | hy
   · exact hw y hy
   · rw [List.mem_singleton.1 hy];exact ⟨h1,h2⟩
theorem zBk.has {l l':List Les} {ix sec:Key} {e:Int} (h:zBk l ix sec e true l'):∃ x∈l',x.ix=ix∧x.sec=sec∧e≤x.e:=by
 cases h with
 | more k x _ _ hx _ _ hp=>exact ⟨_,hp.mem_iff.2 (List.mem_set (Go.Mem.zh hx) _),rfl,rfl,by show e≤max x.e e;omega⟩
 | new _ _ _ _ hp=>exact ⟨⟨ix,sec,e⟩,hp.mem_iff.2 (by simp),rfl,rfl,Int.le_refl _⟩
theorem zBk.ne {l l':List Les} {ix sec:Key} {e:Int} (h:zBk l ix sec e true l'):ofL l' ix≠[]:=fun e'=>by
 obtain ⟨x,hx,h1,_⟩:=h.has
 exact zBe.1 e' x hx h1
theorem zBQ.other {l l':List Les} {ix sec:Key} {b:Bool} (h:zBQ l ix sec b l') {ix':Key} (hn:ix'≠ix):(ofL l' ix').Perm (ofL l ix'):=by
 cases h with
 | no _=>exact List.Perm.refl _
 | gone x _ h1 _ hp =>
   refine List.Perm.trans ?_ (zBl hp ix')
   unfold ofL
   rw [List.filter_cons_of_neg (by simpa [h1] using fun e=>hn e.symm)]
theorem zBQ.sub {l l':List Les} {ix sec:Key} {b:Bool} (h:zBQ l ix sec b l'):∀ x∈l',x∈l:=by
 cases h with
 | no _=>exact fun _ h=>h
 | gone x _ _ _ hp=>exact fun y hy=>hp.mem_iff.1 (List.mem_cons_of_mem _ hy)
theorem OfR.nil_iff {l:List Les} {ix:Key} {out:List Sec} (h:OfR l ix out):out=[]↔ofL l ix=[]:=by
 have:=h.perm.length_eq
 constructor
 · intro e;rw [e] at this;exact List.eq_nil_of_length_eq_zero this.symm
 · intro e;rw [e] at this;exact List.eq_nil_of_length_eq_zero this
end Lea
namespace Go.Mem
open Go Go.RowKit Gf Lea Go.Proofs.YtbbojbdigiibbaaGreatDoor
abbrev zE6:=ByteArray→Option (List UInt8)
structure zAm (m:Nat) (s:zF):Prop where
 st:zAu m s.st
 good:Lea.Good s.tab
 wf:∀ x∈s.tab,Wf x
 tab:TabIs s.st.recs s.tab
 brk:s.broken=false
 slots:s.slots=s.st.recs.length
 room:s.room=s.st.room
 few:s.slots≤120
structure zFO (m:Nat) (s:zF) (l:List Sto.Rec):Prop where
 dead:s.st.disk.dead=true
 hold:zDB m s.st.disk s.room l
 good:Lea.Good s.tab
 slots:s.slots=l.length
 room:1≤s.room∧s.room≤1000
 few:s.slots≤120
def zEB (m:Nat) (s:zF) (f:zE6):Prop:=(zAm m s∧∀ nm,f nm=Sto.look s.st.recs nm)∨∃ l,zFO m s l∧∀ nm,f nm=Sto.look l nm
theorem zAm.le {m m':Nat} {s:zF} (h:zAm m s) (hm:m≤m'):zAm m' s:=⟨h.st.le hm,h.good,h.wf,h.tab,h.brk,h.slots,h.room,h.few⟩
theorem zFO.le {m m':Nat} {s:zF} {l:List Sto.Rec} (h:zFO m s l) (hm:m≤m'):zFO m' s l:=⟨h.dead,h.hold.le hm,h.good,h.slots,h.room,h.few⟩
theorem zEB.le {m m':Nat} {s:zF} {f:zE6} (h:zEB m s f) (hm:m≤m'):zEB m' s f:=by
 rcases h with ⟨h,e⟩ | ⟨l,h,e⟩
 · exact .inl ⟨h.le hm,e⟩
 · exact .inr ⟨l,h.le hm,e⟩
theorem zAm.live {m:Nat} {s:zF} (h:zAm m s):s.dead=false:=by
 unfold zF.dead
 rw [h.brk,h.st.disk,h.st.dead];rfl
theorem zFO.isdead {m:Nat} {s:zF} {l:List Sto.Rec} (h:zFO m s l):s.dead=true:=by
 unfold zF.dead
 rw [h.dead];simp
theorem zAm.get {m:Nat} {s:zF} (h:zAm m s) (nm:ByteArray):s.st.get nm=Sto.look s.st.recs nm:=St.get_look h.st.dead nm
def upd (f:zE6) (nm:ByteArray) (x:Option (List UInt8)):zE6:=fun n=>if n=nm then x else f n
theorem zFh {l:List Sto.Rec} (ht:Sto.slot l < l.length) (name:ByteArray) (data:List UInt8):∀ nm,Sto.look (putF l name data) nm=upd (Sto.look l) name (some data) nm:=fun nm=>zM3 ht name data nm
theorem zKs {l l':List Sto.Rec} (ht:Sto.slot l < l.length) {name:ByteArray} {data:List UInt8} (h:l'=l∨Sto.zBT (putL l name data) l'):l'.length=l.length∧((∀ nm,Sto.look l' nm=Sto.look l nm)∨∀ nm,Sto.look l' nm=upd (Sto.look l) name (some data) nm):=by
 rcases h with rfl | h
 · exact ⟨rfl,.inl fun _=>rfl⟩
 · refine ⟨by rw [h.1];unfold Go.Mem.putL;rw [List.length_set],.inr fun nm=>?_⟩
   rw [h.look,zIN ht];rfl
theorem zAm.put {m:Nat} {s:zF} (h:zAm m s) (hm:m < 1000000) {name:ByteArray} {data:List UInt8} (hr:zAe name data) (hn:∀ ix,name≠zD ix) :
  ((zU s.st name data).1=0∧zAm (m+1) { s with st:=(zU s.st name data).2 }∧(∀ nm,Sto.look (zU s.st name data).2.recs nm=upd (Sto.look s.st.recs) name (some data) nm)∧(zU s.st name data).2.disk.stops=s.st.disk.stops) ∨
  (((zU s.st name data).1=1∨(zU s.st name data).1=3)∧(zU s.st name data).2=s.st) ∨
  ((zU s.st name data).1=8∧s.st.disk.stops=true∧∃ l,zFO (m+1) { s with st:=(zU s.st name data).2 } l∧((∀ nm,Sto.look l nm=Sto.look s.st.recs nm)∨∀ nm,Sto.look l nm=upd (Sto.look s.st.recs) name (some data) nm)):=by
 have hp:=h.st.put hm hr
 have hro:=h.st.room
 generalize zU s.st name data=R at hp
 cases hp with
 | arg _=>exact .inr (.inl ⟨.inl rfl,rfl⟩)
 | full _ _=>exact .inr (.inl ⟨.inr rfl,rfl⟩)
 | done s' _ hs hr' hl ho hst =>
   refine .inl ⟨rfl,⟨hl,h.good,h.wf,fun ix hx=>?_,h.brk,?_,?_,h.few⟩,fun nm=>by rw [hr'];exact zFh hs _ _ nm,hst⟩
   · show (Sto.look s'.recs (zD ix)=none∧_)∨_
     rw [hr',zFh hs,upd,if_neg (fun e=>hn ix e.symm)]
     exact h.tab ix hx
   · show s.slots=s'.recs.length
     rw [hr',zFg,h.slots]
   · show s.room=s'.room
     rw [ho,h.room]
 | torn s' l _ hs hd h1 h2 ho hl hx =>
   have ht:=zKs hs hx
   exact .inr (.inr ⟨rfl,hd,l,⟨h1,by rw [h.room];exact hl,h.good,by show s.slots=l.length;rw [ht.1,h.slots],by rw [h.room];exact hro,h.few⟩,ht.2⟩)
theorem zAm.lay {m:Nat} {s:zF} (h:zAm m s) (hm:m < 1000000) {ix:Key} (hix:ix.length=16) {l2:List Les} (hg:Lea.Good l2) (hw:∀ x∈l2,Wf x) (ho:∀ ix',ix'≠ix→(ofL l2 ix').Perm (ofL s.tab ix')) {err:Int} {s':zF} (hl:zGs s ix l2 err s') :
  ∃ out,OfR l2 ix out ∧
  ((err=0∧zAm (m+1) s'∧s'.tab=l2∧(∀ nm,Sto.look s'.st.recs nm=upd (Sto.look s.st.recs) (zD ix) (if out=[] then none else some (zf out)) nm)∧s'.st.disk.stops=s.st.disk.stops) ∨
   ((err=1∨err=3∨err=4)∧s'=s) ∨
   (err=8∧s.st.disk.stops=true∧∃ l,zFO (m+1) s' l∧((∀ nm,Sto.look l nm=Sto.look s.st.recs nm)∨∀ nm,Sto.look l nm=upd (Sto.look s.st.recs) (zD ix) (if out=[] then none else some (zf out)) nm))):=by
 obtain ⟨out,hR,herr,hs'⟩:=hl
 have hro:=h.st.room
 refine ⟨out,hR,?_⟩
 by_cases h0:out=[]
 · have e0:zFA s ix out=zA8 s.st (zD ix):=by unfold zFA;rw [if_pos (by rw [h0];rfl)]
   rw [e0] at herr hs'
   have hp:=h.st.drop (zD ix)
   generalize zA8 s.st (zD ix)=R at hp herr hs'
   simp only [if_pos h0]
   cases hp with
   | none _ =>
     subst herr
     rw [if_neg (by simp)] at hs'
     exact .inr (.inl ⟨.inr (.inr rfl),hs'⟩)
   | done st' x _ k hk hr hl' ho' hst hlk =>
     subst herr
     rw [if_pos (.inl rfl)] at hs'
     subst hs'
     refine .inl ⟨rfl,⟨hl',hg,hw,fun ix' hx'=>?_,h.brk,?_,?_,h.few⟩,rfl,fun nm=>hlk nm,hst⟩
     · show (Sto.look st'.recs (zD ix')=none∧ofL l2 ix'=[])∨_
       by_cases e:ix'=ix
       · subst e
         exact .inl ⟨by rw [hlk,if_pos rfl],hR.nil_iff.1 h0⟩
       · rw [hlk,if_neg (fun e'=>e (zHJ e'))]
         rcases h.tab ix' hx' with ⟨a1,a2⟩ | ⟨o,a1,a2,a3⟩
         · exact .inl ⟨a1,by have:=(ho ix' e).length_eq;rw [a2] at this;exact List.eq_nil_of_length_eq_zero this⟩
         · exact .inr ⟨o,a1,⟨a2.perm.trans (ho ix' e).symm,a2.up⟩,a3⟩
     · show s.slots=st'.recs.length
       rw [hr,List.length_set,h.slots]
     · show s.room=st'.room
       rw [ho',h.room]
   | torn st' l x hx hd h1 h2 ho' hl' hn hlk hx' =>
     subst herr
     rw [if_pos (.inr rfl)] at hs'
     subst hs'
     refine .inr (.inr ⟨rfl,hd,l,⟨h1,by show zDB _ st'.disk s.room l;rw [h.room];exact hl',hg,by show s.slots=l.length;rw [hn,h.slots],by show 1≤s.room∧s.room≤1000;rw [h.room];exact hro,h.few⟩,?_⟩)
     rcases hx' with hx' | hx'
     · right
       intro nm
       unfold upd
       split
       · rename_i e;rw [e];exact hx'
       · rename_i e;exact hlk nm e
     · left
       intro nm
       by_cases e:nm=zD ix
       · rw [e,hx',hx]
       · exact hlk nm e
 · have e0:zFA s ix out=zU s.st (zD ix) (zf out):=by
    unfold zFA
    rw [if_neg (fun e=>h0 (List.eq_nil_of_length_eq_zero e))]
   rw [e0] at herr hs'
   have hp:=h.st.put hm (zAe.lease ix out hix (zDe hw hg hR h0))
   generalize zU s.st (zD ix) (zf out)=R at hp herr hs'
   simp only [if_neg h0]
   cases hp with
   | arg _ =>
     subst herr
     rw [if_neg (by simp)] at hs'
     exact .inr (.inl ⟨.inl rfl,hs'⟩)
   | full _ _ =>
     subst herr
     rw [if_neg (by simp)] at hs'
     exact .inr (.inl ⟨.inr (.inl rfl),hs'⟩)
   | done st' _ hs hr hl' ho' hst =>
     subst herr
     rw [if_pos (.inl rfl)] at hs'
     subst hs'
     have hlk:∀ nm,Sto.look st'.recs nm=upd (Sto.look s.st.recs) (zD ix) (some (zf out)) nm:=fun nm=>by rw [hr];exact zFh hs _ _ nm
     refine .inl ⟨rfl,⟨hl',hg,hw,fun ix' hx'=>?_,h.brk,?_,?_,h.few⟩,rfl,hlk,hst⟩
     · show (Sto.look st'.recs (zD ix')=none∧ofL l2 ix'=[])∨_
       rw [hlk]
       by_cases e:ix'=ix
       · subst e
         exact .inr ⟨out,by rw [upd,if_pos rfl],hR,h0⟩
       · rw [upd,if_neg (fun e'=>e (zHJ e'))]
         rcases h.tab ix' hx' with ⟨a1,a2⟩ | ⟨o,a1,a2,a3⟩
         · exact .inl ⟨a1,by have:=(ho ix' e).length_eq;rw [a2] at this;exact List.eq_nil_of_length_eq_zero this⟩
         · exact .inr ⟨o,a1,⟨a2.perm.trans (ho ix' e).symm,a2.up⟩,a3⟩
     · show s.slots=st'.recs.length
       rw [hr,zFg,h.slots]
     · show s.room=st'.room
       rw [ho',h.room]
   | torn st' l _ hs hd h1 h2 ho' hl' hx =>
     subst herr
     rw [if_pos (.inr rfl)] at hs'
     subst hs'
     have ht:=zKs hs hx
     exact .inr (.inr ⟨rfl,hd,l,⟨h1,by show zDB _ st'.disk s.room l;rw [h.room];exact hl',hg,by show s.slots=l.length;rw [ht.1,h.slots],by show 1≤s.room∧s.room≤1000;rw [h.room];exact hro,h.few⟩,ht.2⟩)
theorem zAm.add {m:Nat} {s:zF} (h:zAm m s) (hm:m < 1000000) {ix sec:Key} (hix:ix.length=16) (hsec:sec.length=16) {e:Int} {err:Int} {s':zF} (hl:zCv s ix sec e err s') :
  (err=3∧s'=s∧zBk s.tab ix sec e false s.tab)∨∃ l2 out,zBk s.tab ix sec e true l2∧OfR l2 ix out∧out≠[] ∧
  ((err=0∧zAm (m+1) s'∧s'.tab=l2∧(∀ nm,Sto.look s'.st.recs nm=upd (Sto.look s.st.recs) (zD ix) (some (zf out)) nm)∧s'.st.disk.stops=s.st.disk.stops) ∨
   ((err=1∨err=3∨err=4)∧s'=s) ∨
   (err=8∧s.st.disk.stops=true∧∃ l,zFO (m+1) s' l∧((∀ nm,Sto.look l nm=Sto.look s.st.recs nm)∨∀ nm,Sto.look l nm=upd (Sto.look s.st.recs) (zD ix) (some (zf out)) nm))):=by
 cases hl with
 | full h1=>exact .inl ⟨rfl,rfl,h1⟩
 | laid l2 _ _ ha hy =>
   obtain ⟨out,hR,hc⟩:=h.lay hm hix (ha.good h.good) (ha.wf h.wf hix hsec) (fun ix' hn=>ha.other hn) hy
   have h0:out≠[]:=fun e=>ha.ne (hR.nil_iff.1 e)
   simp only [if_neg h0] at hc
   exact .inr ⟨l2,out,ha,hR,h0,hc⟩
end Go.Mem
end
section
namespace Go.Mem
open Go Go.RowKit Gf Lea Go.Proofs.YtbbojbdigiibbaaGreatDoor
def zEK (slots room:Nat):zF:=⟨slots,room,⟨room,List.replicate slots Sto.Rec.free,false,.fresh (slots*(room+1))⟩,[],false⟩
theorem zGN (slots room:Nat) (h:1≤room∧room≤1000) (h2:slots≤120):zAm 0 (zEK slots room)∧(∀ nm,Sto.look (zEK slots room).st.recs nm=none)∧(zEK slots room).st.disk.stops=false :=
 ⟨⟨zAu.fresh slots room h,Lea.Good.nil,(fun _ h=>by cases h),fun ix _=>.inl ⟨zIF _ _,rfl⟩,rfl,by show slots=(List.replicate slots Sto.Rec.free).length;rw [List.length_replicate],rfl,h2⟩,fun nm=>zIF _ _,rfl⟩
end Go.Mem
namespace Go.Proofs.YtbbojbdigiibbaaGreatDoor
open Go Go.RowKit Go.Mem Gf Lea
attribute [local go_sem ↓] Go.wp_at_zero Go.wp_at_succ
theorem zNE {w w2 w3 w4:World} {sb lb d L tb:Nat} {slots room:Nat} (hS:LabS w w2 sb lb d L ⟨room,List.replicate slots Sto.Rec.free,false,.fresh (slots*(room+1))⟩) (h1:w2.heap.size≤tb) (h2:Heap w3 tb (.slice none 0 0) []) (hb:Below w2.heap.size w2 w3)
  (hw:w4=w3.alloc (.cells (srvV slots room d sb tb false) 95)) :
  ∃ C,zR w4 C (fun _=>False) w3.heap.size (zEK slots room)∧(∀ b,C b→w.heap.size≤b)∧Below w.heap.size w w4:=by
 have hs2:=hS.bel.size
 have hs3:=hb.size
 have hlt:=hS.st.lt
 have htl:=h2.tab.cell.lt
 have hb4:Below w3.heap.size w3 w4:=by rw [hw];exact (Below.refl _ _).alloc (Nat.le_refl _) _
 have hb24:Below w2.heap.size w2 w4:=hb.trans (hb4.mono hs3)
 have h4:w4.heap.size=w3.heap.size+1:=by rw [hw];simp
 refine ⟨fun b=>(DL d L b∨b=sb∨b=lb)∨b=tb∨b=w3.heap.size,⟨sb,lb,d,L,tb,.slice none 0 0,?_,?_,h2.below hb4,Lea.Good.nil,?_,(fun _ h=>h.elim),?_,?_,(fun g hg=>by cases hg)⟩,?_,hS.bel.trans (hb24.mono hs2)⟩
 · rw [hw];exact Blk.new _ _ _
 · refine hS.st.grow (S:=fun _=>False) (Chg.of_below hb24) (fun _ _ h=>h) (fun _ h=>h.elim) (fun b hM=>?_) (fun b hN=>.inl (.inl hN)) (fun b hM=>?_)
   · rcases hM with (hM | rfl | rfl) | hM
     · exact .inl hM
     · exact .inr h1
     · exact .inr hs3
     · exact hM.elim
   · rcases hM with (hM | rfl | rfl) | hM
     · have:=hS.st.old b hM;omega
     · omega
     · omega
     · exact hM.elim
 · rintro b (hf | rfl | rfl | hv)
   · left
     rcases hf with rfl | rfl | rfl | rfl
     · exact .inr (.inl rfl)
     · exact .inr (.inr rfl)
     · exact .inl (.inl rfl)
     · exact .inl (.inr rfl)
   · exact .inr (.inr rfl)
   · exact .inr (.inl rfl)
   · cases hv
 · intro hf
   have:=hlt _ hf;omega
 · exact ⟨fun hf=>by have:=hlt _ hf;omega,by omega⟩
 · rintro b ((hM | rfl | rfl) | rfl | rfl)
   · rcases hM with rfl | rfl
     · exact hS.d1
     · exact hS.l1
   · exact hS.s1
   · exact hS.b1
   · omega
   · omega
set_option maxRecDepth 100000 in
set_option maxHeartbeats 1000000 in
theorem zFn (slots room:Nat) (w:World) (hT:Tab w) (h1:1≤slots∧slots≤1024) (h2:1≤room∧room≤1024) (h3:slots*(room+1)≤4096) :
  Calls Tryz.prog 14 #[.int .i64 slots,.int .i64 room] w fun e w'=>∃ pb C,e=.returned (.tuple #[.pointer (some ⟨pb,0,none⟩),.int .i64 0])∧zR w' C (fun _=>False) pb (zEK slots room)∧(∀ b,C b→w.heap.size≤b)∧Below w.heap.size w w':=by
 obtain ⟨m,hmm⟩:∃ m,m=slots*(room+1):=⟨_,rfl⟩
 have q1:IntKind.i64.wrap ((room:Int)+1)=(room:Int)+1:=IntWalk.i64_in _ (by omega)
 have q2:IntKind.i64.wrap ((slots:Int)*((room:Int)+1))=(m:Int):=by
  have e2:(slots:Int)*((room:Int)+1)=(m:Int):=by rw [hmm];push_cast;rfl
  rw [e2]
  exact IntWalk.i64_in _ (by omega)
 have hm1:1≤m:=by rw [hmm];exact Nat.mul_pos (by omega) (by omega)
 rw [← hmm] at h3
 have i1:decide ((slots:Int) < 1)=false:=by simp;omega
 have i2:decide ((room:Int) < 1)=false:=by simp;omega
 have i3:decide (4096 < (slots:Int))=false:=by simp;omega
 have i4:decide (4096 < (room:Int))=false:=by simp;omega
 have i1':decide (slots < 1)=false:=by simp;omega
 have i2':decide (room < 1)=false:=by simp;omega
 have i3':decide (4096 < slots)=false:=by simp;omega
 have i4':decide (4096 < room)=false:=by simp;omega
 have HM:=Zh hmm
 have HT:=Zh hT
 have HA:=Zh (Zi h1 (Zi h2 (Zi h3 hm1)))
 clear hmm hT h1 h2 h3 hm1
 go_enter Tryz.func14,Tryz.ntmps14
 go_wp2_with fail
 refine (zO5 m w w HT.o (Below.refl _ _) HA.o.2.2.2 HA.o.2.2.1).mono ?_
 rintro e w1 ⟨d,L,rfl,hl1,ht,_⟩
 have H1:=Zh (Zi ht hl1)
 clear ht hl1
 go_wp2_with fail
 refine (zHt H1.o.2 H1.o.1 (slots:=slots) (room:=room) HA.o.1 HA.o.2.1 (by show 0 < _;omega) (l:=List.replicate slots Sto.Rec.free) List.length_replicate (by rw [HM.o];exact Holds.fresh slots room) rfl (zIZ slots)).mono ?_
 rintro e w2 ⟨sb,lb,rfl,hs2,_⟩
 have H2:=Zh hs2
 clear hs2
 go_wp2_with fail
 refine (zF6 w2).mono ?_
 rintro e w3 ⟨tb,rfl,hn1,hn2,hn3⟩
 have H3:=Zh (Zi hn1 (Zi hn2 hn3))
 clear hn1 hn2 hn3
 go_wp2_with fail
 go_ret2
 obtain ⟨C,a1,a2,a3⟩:=zNE (by have:=H2.o;rw [HM.o] at this;exact this) H3.o.1 H3.o.2.1 H3.o.2.2 rfl
 exact ⟨w3.heap.size,C,rfl,a1,a2,a3⟩
end Go.Proofs.YtbbojbdigiibbaaGreatDoor
end
section
namespace Go.Mem
open Go Go.RowKit Gf Go.Sort
section
variable {α:Type} {enc:α→List Value} {Wf:α→Prop} {k:Nat} {ti:TypeId} {w:World} {base g n cap:Nat} {l:List α} [Inhabited {x:α // Wf x}]
omit [Inhabited {x:α // Wf x}] in
theorem toS (hwf:∀ x∈l,Wf x):∃ d:Array {x:α // Wf x},d.toList.map (·.1)=l:=by
 refine ⟨(l.pmap Subtype.mk hwf).toArray,?_⟩
 rw [List.toList_toArray,List.map_pmap]
 simp
def zDO (enc:α→List Value) (Wf:α→Prop) (x:{x:α // Wf x}):List Value:=enc x.1
theorem zJq (E:zEq enc Wf k) (d:Array {x:α // Wf x}) {j:Nat} (hj:j < d.size*k):(zCG enc (d.toList.map (·.1)))[j]?=some (flatK (zDO enc Wf) k d)[j]! := by
 have e:=Nat.div_add_mod' j k
 have hr:=Nat.mod_lt j E.pos
 have hq:j / k < d.size:=Nat.div_lt_of_lt_mul (by rw [Nat.mul_comm];exact hj)
 have hx:(d.toList.map (·.1))[j / k]?=some (d[j / k]!).1:=by
  rw [List.getElem?_map,Array.getElem?_toList,getElem!_pos d _ hq,Array.getElem?_eq_getElem hq];rfl
 have hwf:∀ x∈d.toList.map (·.1),Wf x:=fun x hx=>by
  obtain ⟨y,_,rfl⟩:=List.mem_map.1 hx
  exact y.2
 have:=zBV E _ hwf (j / k) _ hx (j % k) hr
 rw [e] at this
 rw [this,get_flatK _ _ _ _ hj]
 have hl:=E.len _ (d[j / k]!).2
 unfold zDO
 generalize d[j / k]! = y at *
 have hl':j % k < (enc y.1).length:=by omega
 rw [getElem!_pos (enc y.1) (j % k) hl',List.getElem?_eq_getElem hl']
theorem zAt.holds (E:zEq enc Wf k) (h:zAt enc Wf k ti w base g n cap l) (d:Array {x:α // Wf x}) (hd:d.toList.map (·.1)=l):HoldsK (zDO enc Wf) k w g 0 d:=by
 have hn:d.size=n:=by rw [h.len,← hd];simp
 intro j hj
 rw [size_flatK] at hj
 rw [Nat.zero_add]
 refine ⟨?_,?_⟩
 · rw [h.cell (by rw [← hn];exact hj),← hd,zJq E d hj];rfl
 · obtain ⟨cur,hh,_⟩:=h.block
   have hB:Blk w g cur ti:=hh
   exact hB.free _
theorem zAt.put (E:zEq enc Wf k) (h:zAt enc Wf k ti w base g n cap l) (m:Nat) (os:Array Obj) (d:Array {x:α // Wf x}) (hd:d.size=n) :
  zAt enc Wf k ti (grow (putRowK (zDO enc Wf) k (Sort.ahead w m) g 0 d) os) base g n cap (d.toList.map (·.1))∧Chg (fun b=>b=g) w (grow (putRowK (zDO enc Wf) k (Sort.ahead w m) g 0 d) os):=by
 obtain ⟨cur,hh,hb,h1,h2,h3,h4⟩:=h.block
 have hg:g < w.heap.size:=lt_of_block hh
 have hlen:(d.toList.map (·.1)).length=n:=by simp [hd]
 have hwf:∀ x∈d.toList.map (·.1),Wf x:=fun x hx=>by
  obtain ⟨y,_,rfl⟩:=List.mem_map.1 hx
  exact y.2
 have hal:=zCx E _ hwf
 rw [hlen] at hal
 have hm:n*k≤cap*k:=Nat.mul_le_mul_right _ h1
 refine ⟨⟨⟨hal,.inr ⟨g,cap,putCells id 0 (flatK (zDO enc Wf) k d) cur,rfl,hb,?_,h1,h2,by rw [← h3];simp [putCells],?_⟩⟩,hlen.symm,hwf⟩,⟨rfl,rfl,rfl,?_,fun b hbs hne=>?_⟩⟩
 · rw [heap_grow_old _ _ (by unfold putRowK;rw [size_putRow];exact hg)]
   show ((w.heap).modify g (onCells _))[g]?=_
   rw [Array.getElem?_modify,if_pos rfl,hh];rfl
 · apply List.ext_getElem?
   intro j
   rw [List.getElem?_take,Array.getElem?_toList]
   by_cases hj:j < n*k
   · rw [if_pos hj,zJq E d (by rw [hd];exact hj)]
     have hjc:j < cur.size:=by omega
     unfold putCells
     rw [Array.getElem?_mapIdx,Array.getElem?_eq_getElem hjc,Option.map_some,if_pos ⟨Nat.zero_le _,by rw [size_flatK,hd];omega⟩]
     rfl
   · rw [if_neg hj,List.getElem?_eq_none (by omega)]
 · rw [size_grow]
   unfold putRowK
   rw [size_putRow]
   exact Nat.le_add_right _ _
 · rw [heap_grow_old _ _ (by unfold putRowK;rw [size_putRow];exact hbs)]
   show ((w.heap).modify g (onCells _))[b]?=_
   rw [Array.getElem?_modify,if_neg (fun e=>hne e.symm)]
theorem zGS {d d':Array {x:α // Wf x}} (h:PermIn 0 d.size d d'):(d'.toList.map (·.1)).Perm (d.toList.map (·.1)):=by
 have h2:=h.2.2
 have e1:d.extract 0 d.size=d:=by simp
 have e2:d'.extract 0 d.size=d':=by rw [← h.1];simp
 rw [e1,e2] at h2
 exact h2.map _
theorem zDH {lt:α→α→Bool} {d:Array {x:α // Wf x}} {m:Nat} (hm:d.size=m) (h:SortedIn (fun a b=>lt a.1 b.1) 0 m d):(d.toList.map (·.1)).Pairwise fun a b=>lt b a=false:=by
 rw [List.pairwise_iff_getElem]
 intro i j hi hj hij
 simp at hi hj
 have:=h i j (Nat.zero_le _) hij (by omega)
 rw [getElem!_pos d i hi,getElem!_pos d j hj] at this
 simpa using this
end
end Go.Mem
end
section
namespace Go.Proofs.YtbbojbdigiibbaaGreatDoor
open Go Go.RowKit Go.Mem Gf Lea Go.Lib Go.Shelf
def WfK (k:Key):Prop:=k.length=16
theorem ecK:zEq bV WfK 16:=⟨fun x h=>by rw [zB];exact h,zAJ,by decide⟩
def ltK (a b:Key):Bool:=decide (Go.Lib.compareBytes a b < 0)
theorem ordK:Srt.Ord ltK:=by
 refine ⟨fun a b h=>?_,fun a b c h1 h2=>?_⟩
 · have:=zA9 a b
   unfold ltK at *
   simp only [decide_eq_true_eq,decide_eq_false_iff_not] at *
   omega
 · have e1:=zA9 a b
   have e2:=zA9 b c
   have e3:=zA9 a c
   have:=zCn a b c
   unfold ltK at *
   simp only [decide_eq_false_iff_not] at *
   omega
instance:Inhabited {k:Key // WfK k}:=⟨⟨List.replicate 16 0,by unfold WfK;simp⟩⟩
theorem swoK:Go.Sort.SWO (fun a b:{k:Key // WfK k}=>ltK a.1 b.1):=by
 refine ⟨fun x=>?_,fun x y z h1 h2=>?_,fun x y z h1 h2=>?_⟩
 · show ltK x.1 x.1=false
   unfold ltK;rw [zCy];rfl
 · show ltK x.1 z.1=true
   have h1:ltK x.1 y.1=true:=h1
   have h2:ltK y.1 z.1=true:=h2
   have e:=zA9 x.1 z.1
   have e3:=zA9 x.1 y.1
   have t:=zCn z.1 x.1 y.1
   have t2:=zCn x.1 y.1 z.1
   have e2:=zA9 y.1 z.1
   unfold ltK at *
   simp only [decide_eq_true_eq] at *
   have:=zFW x.1 z.1
   rcases Int.lt_or_le (compareBytes x.1 z.1) 0 with c | c
   · exact c
   · have hz:compareBytes z.1 x.1≤0:=by omega
     have:=zCn y.1 z.1 x.1 (by omega) hz
     omega
 · exact ordK.trans z.1 y.1 x.1 h2 h1
theorem zIU {w:World} {base g n cap:Nat} {l:List Key} (h:zAt bV WfK 16 39 w base g n cap l) {i:Nat} {x:Key} (hx:l[i]?=some x):Bys w (.slice (some ⟨g,i*16,none⟩) 16 16) x:=by
 have hw:x.length=16:=h.wf x (List.mem_of_getElem? hx)
 refine ⟨_,16,by rw [hw],by omega,by decide,fun _=>⟨g,i*16,rfl,fun j u hj=>?_⟩⟩
 refine h.range ecK hx j _ ?_
 rw [zA0,hj];rfl
attribute [local go_sem ↓] Go.wp_at_zero Go.wp_at_succ
set_option maxRecDepth 100000 in
set_option maxHeartbeats 1000000 in
theorem zGy (w:World) (bx base g n cap:Nat) (l:List Key) (h:zAt bV WfK 16 39 w base g n cap l) (hb:w.cell? ⟨bx,0,none⟩=some (.slice (some ⟨g,0,none⟩) n cap)) (i j:Nat) (x y:Key) (hx:l[i]?=some x) (hy:l[j]?=some y) :
  Calls Tryz.prog 157 #[.int .i64 i,.int .i64 j,.pointer (some ⟨bx,0,none⟩)] w fun e w'=>e=.returned (.bool (ltK x y))∧∃ q,w'=w.drewN q:=by
 have hi:i < n:=by rw [h.len];exact zh hx
 have hj:j < n:=by rw [h.len];exact zh hy
 have i0:(0:Int)≤(i:Int):=by omega
 have i1:(i:Int) < (n:Int):=by omega
 have j0:(0:Int)≤(j:Int):=by omega
 have j1:(j:Int) < (n:Int):=by omega
 have HL:=Zh (Zi (zIU h hx) (zIU h hy))
 have t1:=h.there hi 0 (by decide)
 have t2:=h.there hj 0 (by decide)
 clear h hx hy
 go_enter Tryz.func157,Tryz.ntmps157
 go_wp2_with fail
 go_quiet (exact Calls.quiet_of_same (zGJ _ _ x y _ (HL.o.1.drewN _) (HL.o.2.drewN _)))
 go_wp2
 go_ret
 exact ⟨rfl,nq,rfl⟩
theorem zD1:∀ args w,(callFunc 157 args).run Tryz.prog w=.ok (.enter 157 args) w:=enters_of Tryz.func157 (by kernel_rfl) rfl
noncomputable def ksT:TypeInfo:=(Tryz.prog.info? 73).get (by kernel_rfl)
noncomputable def ksE:TypeInfo:=(Tryz.prog.info? 39).get (by kernel_rfl)
theorem ksK9 (n:Nat) (h2:2≤n):Lib.swapperK n ksE 17=9:=by
 have a:ksE.hasPointers=false:=by kernel_rfl
 have b:ksE.bytes=16:=by kernel_rfl
 have c:(n == 0)=false:=by simp;omega
 have d:(n == 1)=false:=by simp;omega
 simp [Lib.swapperK,a,b,c,d]
theorem zJ3 (w:World) (p:Option Addr) (n c:Nat) (hn:n≤1) (bx:Nat) :
  Calls Tryz.prog 114 #[.iface 73 (.slice p n c),.func (.func 157) #[] #[.pointer (some ⟨bx,0,none⟩)]] w fun e w'=>e=.returned (.tuple #[])∧Chg (fun _=>False) w w':=by
 obtain ⟨l,hl⟩:∃ l:List Key,l.length=n:=⟨List.replicate n [],by simp⟩
 obtain ⟨f, hf⟩ : ∃ f, Tryz.prog.funcs.findIdx? (·.name == "internal/reflectlite" ++ ".Swapper$" ++ toString (swapperK n ksE 17)) = some f := by
  rcases (by omega:n=0∨n=1) with rfl | rfl
  · exact ⟨192,by kernel_rfl⟩
  · exact ⟨193,by kernel_rfl⟩
 have hb:sliceBound Tryz.prog 39 ksE 17 p n c=#[]:=by
  unfold sliceBound swapperK
  rcases (by omega:n=0∨n=1) with rfl | rfl <;> simp
 have hw:Chg (fun _=>False) w (sliceWorld Tryz.prog Tryz.laysGg6_ren 73 p n c w):=Chg.of_below (((Below.refl _ _).alloc (Nat.le_refl _) _).alloc (by simp) _)
 refine Any.sort_Slice_of_pdq Tryz.laysGg6 73 39 ksT ksE (by kernel_rfl) (by kernel_rfl) (by kernel_rfl) (by kernel_rfl) 17 (fun _=>by kernel_rfl) p n c (by omega) f hf _ _ _ w _ ?_
 rw [hb]
 refine (zEk (zFK ltK ordK 157 f #[.pointer (some ⟨bx,0,none⟩)] #[] zD1) l n _ hl (by omega) _ (by omega)).mono ?_
 rintro e w' ⟨rfl,_,_,_,_,hc⟩
 exact ⟨rfl,hw.trans hc⟩
theorem zMh (w:World) (bx base g n cap:Nat) (l:List Key) (h:zAt bV WfK 16 39 w base g n cap l) (hb:Blk w bx #[.slice (some ⟨g,0,none⟩) n cap] 73) (hne:bx≠g) (h2:2≤n) (hn:n≤1000000) :
  Calls Tryz.prog 114 #[.iface 73 (.slice (some ⟨g,0,none⟩) n cap),.func (.func 157) #[] #[.pointer (some ⟨bx,0,none⟩)]] w fun e w' =>
   e=.returned (.tuple #[])∧∃ l',zAt bV WfK 16 39 w' base g n cap l'∧l'.Perm l∧(l'.Pairwise fun a b=>ltK b a=false)∧Chg (fun k=>k=g) w w':=by
 obtain ⟨d,hd⟩:=toS h.wf
 have hdn:d.size=n:=by rw [h.len,← hd];simp
 have hH:=h.holds ecK d hd
 have hless:Go.Proofs.LessReadsK Tryz.prog 157 #[.pointer (some ⟨bx,0,none⟩)] (zDO bV WfK) 16 (fun a b:{k:Key // WfK k}=>ltK a.1 b.1) g 0 d.size w:=by
  intro m os dk hs i j hi hj
  have hp:=h.put ecK m os dk (by omega)
  have hx:(dk.toList.map (·.1))[i]?=some (dk[i]!).1:=by
   rw [List.getElem?_map,Array.getElem?_toList,getElem!_pos dk i (by omega),Array.getElem?_eq_getElem (by omega)];rfl
  have hy:(dk.toList.map (·.1))[j]?=some (dk[j]!).1:=by
   rw [List.getElem?_map,Array.getElem?_toList,getElem!_pos dk j (by omega),Array.getElem?_eq_getElem (by omega)];rfl
  exact zGy _ bx base g n cap _ hp.1 (by simpa using (hp.2.blk hb hne).cell 0) i j _ _ hx hy
 have hf : Tryz.prog.funcs.findIdx? (·.name == "internal/reflectlite" ++ ".Swapper$" ++ toString (swapperK d.size ksE 17)) = some 200 := by
  rw [ksK9 _ (by omega)];kernel_rfl
 have:=Go.Proofs.Any.sort_Slice_cells_sorted Tryz.laysGg6 73 39 ksT ksE (by kernel_rfl) (by kernel_rfl) (by kernel_rfl) (by kernel_rfl) 17 (fun _=>by kernel_rfl) (zDO bV WfK) 16 (fun x=>ecK.len x.1 x.2) (by kernel_rfl) (fun _=>by kernel_rfl)
  (fun x=>ecK.one x.1) (fun a b:{k:Key // WfK k}=>ltK a.1 b.1) swoK 157 #[.pointer (some ⟨bx,0,none⟩)] zD1 g 0 cap d (by omega) (by omega) 200 hf false
  (fun args W=>run_callFunc_extern Tryz.func200 (by kernel_rfl) (by kernel_rfl) (by kernel_rfl) (e:=Extern.ReflectliteSwapper.swap false) (by kernel_rfl) args W) w hless hH (by obtain ⟨cur,hh,_⟩:=h.block;exact lt_of_block hh)
 rw [hdn] at this
 refine this.mono ?_
 rintro e w' ⟨rfl,d',m,os,hp,hs,rfl⟩
 rw [← hdn] at hp
 have hd':d'.size=n:=by rw [hp.1,hdn]
 have hput:=h.put ecK m os d' hd'
 exact ⟨rfl,_,hput.1,by rw [← hd];exact zGS hp,zDH hd' hs,hput.2⟩
theorem zJ2 (w:World) (bx base:Nat) (a:Option Addr) (n c:Nat) (l:List Key) (h:zAb bV WfK 16 39 w base (.slice a n c) l) (hb:Blk w bx #[.slice a n c] 73) (hne:(Value.slice a n c).ownBlock≠some bx) (hn:l.length≤1000000) :
  Calls Tryz.prog 114 #[.iface 73 (.slice a n c),.func (.func 157) #[] #[.pointer (some ⟨bx,0,none⟩)]] w fun e w' =>
   e=.returned (.tuple #[])∧∃ l',zAb bV WfK 16 39 w' base (.slice a n c) l'∧l'.Perm l∧(l'.Pairwise fun a b=>ltK b a=false)∧Chg (fun k=>(Value.slice a n c).ownBlock=some k) w w':=by
 have hlen:n=l.length:=by
  obtain ⟨_,_,e⟩:=h.slice
  injection e
 by_cases h2:2≤n
 · obtain ⟨g,cap,e,hr⟩:=h.ex (by omega)
   injection e with ea en ec
   subst ea
   subst ec
   rw [← hlen] at hr
   refine (zMh w bx base g n c l hr hb (fun e=>hne (by rw [e];rfl)) h2 (by omega)).mono ?_
   rintro e w' ⟨rfl,l',h1,h3,h4,h5⟩
   exact ⟨rfl,l',h1.to,h3,h4,h5.mono (fun k hk=>by rw [hk];rfl)⟩
 · refine (zJ3 w a n c (by omega) bx).mono ?_
   rintro e w' ⟨rfl,h5⟩
   refine ⟨rfl,l,h.chg h5 (fun _ _ h=>h),List.Perm.refl _,?_,h5.mono (fun _ h=>h.elim)⟩
   rw [List.pairwise_iff_getElem]
   intro p q hp hq hpq
   omega
end Go.Proofs.YtbbojbdigiibbaaGreatDoor
end
section
namespace Go.Proofs.YtbbojbdigiibbaaGreatDoor
open Go Go.RowKit Go.Mem Gf Lea
structure zD8 (l:List Les) (ks:List Key) (i:Nat) (R:List Key):Prop where
 up:R.Pairwise fun a b=>Go.Lib.compareBytes a b < 0
 mem:∀ k,k∈R↔k∈ks.take i∧∀ x∈l,x.ix≠k
theorem zH6 (l:List Les) (ks:List Key):zD8 l ks 0 []:=⟨List.Pairwise.nil,fun k=>by simp⟩
section
variable {l:List Les} {ks R:List Key} {i:Nat} {x:Key}
theorem zAx (hx:ks[i]?=some x) (k:Key):k∈ks.take (i+1)↔k∈ks.take i∨k=x:=by
 rw [List.take_add_one,hx,Option.toList_some,List.mem_append,List.mem_singleton]
theorem zJT (h:zD8 l ks i R) (hx:ks[i]?=some x) (hh:¬ ∀ z∈l,z.ix≠x):zD8 l ks (i+1) R:=by
 refine ⟨h.up,fun k=>?_⟩
 rw [h.mem,zAx hx]
 constructor
 · rintro ⟨h1,h2⟩;exact ⟨.inl h1,h2⟩
 · rintro ⟨h1 | h1,h2⟩
   · exact ⟨h1,h2⟩
   · subst h1;exact absurd h2 hh
theorem zJS (h:zD8 l ks i R) (hx:ks[i]?=some x) (h0:0 < i) (hd:ks[i - 1]?=some x):zD8 l ks (i+1) R:=by
 refine ⟨h.up,fun k=>?_⟩
 have hin:x∈ks.take i:=List.mem_iff_getElem?.2 ⟨i - 1,by rw [List.getElem?_take,if_pos (by omega)];exact hd⟩
 rw [h.mem,zAx hx]
 constructor
 · rintro ⟨h1,h2⟩;exact ⟨.inl h1,h2⟩
 · rintro ⟨h1 | h1,h2⟩
   · exact ⟨h1,h2⟩
   · subst h1;exact ⟨hin,h2⟩
theorem zFQ (h:zD8 l ks i R) (hs:ks.Pairwise fun a b=>ltK b a=false) (hx:ks[i]?=some x) (hd:∀ y,0 < i→ks[i - 1]?=some y→y≠x) (hn:∀ z∈l,z.ix≠x):zD8 l ks (i+1) (R++[x]):=by
 have hle:∀ {p q:Nat} {a b:Key},p < q→ks[p]?=some a→ks[q]?=some b→Go.Lib.compareBytes a b≤0:=fun {p q a b} hpq ha hb=>by
  rw [List.pairwise_iff_getElem] at hs
  have hp:=zh ha
  have hq:=zh hb
  have:=hs p q hp hq hpq
  rw [List.getElem?_eq_getElem hp] at ha
  rw [List.getElem?_eq_getElem hq] at hb
  cases ha;cases hb
  have e:=zA9 ks[p] ks[q]
  unfold ltK at this
  simp only [decide_eq_false_iff_not] at this
  omega
 refine ⟨?_,fun k=>?_⟩
 · rw [List.pairwise_append]
   refine ⟨h.up,List.pairwise_singleton _ _,fun a ha b hb=>?_⟩
   rw [List.mem_singleton.1 hb]
   obtain ⟨j,hj⟩:=List.mem_iff_getElem?.1 ((h.mem a).1 ha).1
   rw [List.getElem?_take] at hj
   by_cases hji:j < i
   · rw [if_pos hji] at hj
     have h1:=hle hji hj hx
     by_cases e:Go.Lib.compareBytes a x=0
     · have hax:=zFW _ _ e
       subst hax
       have hy:ks[i - 1]?=some (ks[i - 1]'(by have:=zh hx;omega)):=by simp
       generalize ks[i - 1]'(by have:=zh hx;omega)=y at hy
       have h3:=hle (by omega:i - 1 < i) hy hx
       have h4:Go.Lib.compareBytes a y≤0:=by
        rcases Nat.lt_or_ge j (i - 1) with c | c
        · exact hle c hj hy
        · have:j=i - 1:=by omega
          subst this
          rw [hj] at hy;cases hy
          rw [zCy];omega
       have e2:=zA9 a y
       have:=zFW y a (by omega)
       exact absurd this (hd y (by omega) hy)
     · omega
   · rw [if_neg hji] at hj;cases hj
 · rw [List.mem_append,List.mem_singleton,h.mem,zAx hx]
   constructor
   · rintro (⟨h1,h2⟩ | rfl)
     · exact ⟨.inl h1,h2⟩
     · exact ⟨.inr rfl,hn⟩
   · rintro ⟨h1 | h1,h2⟩
     · exact .inl ⟨h1,h2⟩
     · exact .inr h1
end
theorem EKk:zDV Tryz.prog 73 39 (.agg (List.replicate 16 (Value.int .u8 0)).toArray) 16 16:=⟨Tryz.underlying73,by kernel_rfl,rfl,by decide⟩
theorem zCr (dst:Option Tmp) (x:Operand) (ty:TypeId) (pos:String) (af:Array Edge) (a:Act) (w:World) (K:Act→World→Prop) (Q:Exit→Act→World→Prop) (hy:zBD (a.eval x)=true) (hc:zAP 16 (zAi (a.eval x))) :
  Oper.wp Tryz.prog ⟨dst,.buildSlice 73 1 #[(0,x)],ty,pos,af,none⟩ a w K Q=K (a.put dst (.slice (some ⟨w.heap.size,0,none⟩) 1 1)) (w.alloc (.cells (zAi (a.eval x)).toArray 39)) :=
 zGI Tryz.underlying73 (by kernel_rfl) (by decide) (by decide) dst x ty pos af a w K Q hy hc
theorem zB2 (dst:Option Tmp) (x y:Operand) (ty:TypeId) (pos:String) (af:Array Edge) (a:Act) (w:World) (K:Act→World→Prop) (Q:Exit→Act→World→Prop)
  (hp:zAs (a.eval x)=true) (hy:zBD (a.eval y)=true) (ht:zW 16 w (zAB (a.eval x)) (zAC (a.eval x))) (hc:zAP 16 (zAi (a.eval y))) :
  Oper.wp Tryz.prog ⟨dst,.store 39 x y,ty,pos,af,none⟩ a w K Q=K (a.put dst undef) (w.setCells (zAB (a.eval x)) (zAC (a.eval x)) (zAi (a.eval y))) :=
 zBN i16 dst x y ty pos af a w K Q hp hy ht hc
attribute [local go_sem ↓] Go.wp_at_zero Go.wp_at_succ
theorem zIO (dst:Option Tmp) (x:Operand) (ty:TypeId) (pos:String) (af:Array Edge) (gd:Option (Tmp × Bool)) (a:Act) (W:World) (K:Act→Prop)
  (hp:zAs (a.eval x)=true) (ht:zW 16 W (zAB (a.eval x)) (zAC (a.eval x))) :
  Oper.quiet Tryz.prog ⟨dst,.load 39 x,ty,pos,af,gd⟩ a (fun w'=>∃ n,w'=W.drewN n) K=K (a.put dst (.agg (zN 16 W (zAB (a.eval x)) (zAC (a.eval x))).toArray)) :=
 zKU Tryz.underlying39 rfl i16 dst x ty pos af gd a W K hp ht
attribute [local go_sem ↓] zAN zB2 zCr zIO
attribute [local go_sem] ptrB_eq ptrO_eq ptrIs_eq aggL_eq aggIs_eq zT zg zC zG zZ ze zX zH zK
set_option maxRecDepth 100000 in
set_option maxHeartbeats 1000000 in
theorem zK2 (w:World) (tb:Nat) (v:Value) (l:List Les) (base:Nat) (a:Option Addr) (n c:Nat) (ks:List Key) (h:LTab w tb v l) (hl:l.length≤90000) (h8:∀ ix,(ofL l ix).length≤12)
  (hk:zAb bV WfK 16 39 w base (.slice a n c) ks) (hkn:ks.length≤1000000) (hsep:∀ g,(Value.slice a n c).ownBlock=some g→g≠tb∧v.ownBlock≠some g) :
  Calls Tryz.prog 105 #[.pointer (some ⟨tb,0,none⟩),.slice a n c] w fun e w'=>∃ vo R,e=.returned vo∧zAb bV WfK 16 39 w' w.heap.size vo R∧zD8 l ks ks.length R∧Chg (fun b=>(Value.slice a n c).ownBlock=some b) w w':=by
 have hlen:n=ks.length:=by
  obtain ⟨_,_,e⟩:=hk.slice
  injection e
 have hlt:(Value.slice a n c).ownBlock≠some w.heap.size:=fun e=>by
  have:=hk.own.lt _ e
  omega
 have hnn:n≤1000000:=by omega
 have H:=Zh (Zi h (Zi h8 (Zi hk (Zi hsep (Zi hlen hlt)))))
 have HB:Hid (Below w.heap.size w (w.alloc (.cells #[.slice a n c] 73))):=(Below.refl _ _).alloc (Nat.le_refl _) _
 clear h h8 hk hsep hlen hlt
 go_enter Tryz.func105,Tryz.ntmps105
 have HP:Hid (Blk (w.alloc (.cells #[.slice a n c] 73)) w.heap.size #[.slice a n c] 73):=Blk.new _ _ _
 obtain ⟨p3,hp3⟩:∃ p,p=w.heap.size:=⟨_,rfl⟩
 obtain ⟨w0,hw0⟩:∃ x,x=w.alloc (.cells #[.slice a n c] 73):=⟨_,rfl⟩
 have HP3:=Zh hp3
 have HW0:=Zh hw0
 go_upto_region 1 with fail
 rw [← hw0] at HB HP ⊢
 rw [← hp3] at HP ⊢
 have q3:w0.cell? ⟨p3,0,none⟩=some (.slice a n c):=by simpa using HP.o.cell 0
 clear hp3 hw0
 go_wp2_with fail
 refine (zJ2 w0 p3 base a n c ks (H.o.2.2.1.chg (S:=fun _=>False) (Chg.of_below HB.o) (fun _ _ h=>h)) HP.o (by rw [HP3.o];exact H.o.2.2.2.2.2) hkn).mono ?_
 rintro r w2 ⟨rfl,ks',hk2,hp2,hs2,hc2⟩
 have hb2:=hc2.blk HP.o (by rw [HP3.o];exact H.o.2.2.2.2.2)
 have hT2:=(H.o.1.below HB.o).chg hc2 (fun e=>(H.o.2.2.2.1 _ e).1 rfl) (fun g hg e=>(H.o.2.2.2.1 g e).2 hg)
 have q3:w2.cell? ⟨p3,0,none⟩=some (.slice a n c):=by simpa using hb2.cell 0
 have hcw:Chg (fun b=>(Value.slice a n c).ownBlock=some b) w w2:=(Chg.of_below HB.o).trans hc2
 have hn2:n=ks'.length:=by rw [hp2.length_eq];exact H.o.2.2.2.2.1
 have hg2:0 < n→∃ g,a=some ⟨g,0,none⟩∧zAt bV WfK 16 39 w2 base g n c ks':=fun h0=>by
  obtain ⟨g,cap,e,hr⟩:=hk2.ex (by omega)
  injection e with ea en ec
  rw [← ec,← hn2] at hr
  exact ⟨g,ea,hr⟩
 have l3:=hb2.lt
 have H2:=Zh (Zi hb2 (Zi hT2 (Zi hcw (Zi hn2 (Zi hg2 (Zi hp2 hs2))))))
 clear hb2 hT2 hcw hn2 hg2 hp2 hs2 hc2 hk2
 go_upto_region 4 with fail
 go_loopw [5,14] (fun v5 vi wr=>∃ (i:Nat) (R:List Key),i≤n∧vi=.int .i64 i∧Hid (zAb bV WfK 16 39 wr w2.heap.size v5 R∧zD8 l ks' i R∧Chg (fun k=>w2.heap.size≤k) w2 wr∧R.length≤i)) (fun _ vi _=>n - (intOf vi).toNat)
 case atStart=>exact ⟨0,[],Nat.zero_le _,rfl,zAb.nil _ _ _ _ _ _,zH6 _ _,Chg.refl _ _,Nat.le_refl _⟩
 case round =>
  obtain ⟨i,R,hi0,rfl,G⟩:=hrel
  by_cases hin:i < n
  · obtain ⟨g,rfl,hr0⟩:=H2.o.2.2.2.2.1 (by omega)
    have hB:Below w2.heap.size w2 wr:=G.o.2.2.1.below (Nat.le_refl _) (fun _ h=>h)
    have hrow:=hr0.chg (S:=fun _=>False) (Chg.of_below hB) (fun h=>h)
    have hx:ks'[i]?=some (ks'[i]'(by have:=H2.o.2.2.2.1;omega)):=by simp
    generalize ks'[i]'(by have:=H2.o.2.2.2.1;omega)=x at hx
    have wx:x.length=16:=hrow.wf x (List.mem_of_getElem? hx)
    have rx:=hrow.read ecK hx
    have t1:zW 16 wr g (i*16):=hrow.there hin
    have ax:zAP 16 (bV x):=⟨(zAS wx).2,zAJ x⟩
    have k1:=(zAS wx).1
    have k2:=(zAS wx).2
    have gl:g < wr.heap.size:=hrow.lt
    have gl1:g < wr.heap.size+1:=by omega
    have hb3:=H2.o.1.kept hB
    have q3:wr.cell? ⟨p3,0,none⟩=some (.slice (some ⟨g,0,none⟩) n c):=by simpa using hb3.cell 0
    have l3:=hb3.lt
    have i0:(0:Int)≤(i:Int):=by omega
    have i1:(i:Int) < (n:Int):=by omega
    have HX:=Zh (Zi hx (Zi hrow hb3))
    have hT:=H2.o.2.1.below hB
    obtain ⟨m,hm⟩:∃ m,m=(ofL l x).length:=⟨_,rfl⟩
    have hof:∀ W (d:Nat),W=(wr.alloc (.cells (bV x).toArray 39)).drewN d→Calls Tryz.prog 65 #[.pointer (some ⟨tb,0,none⟩),.agg (bV x).toArray] W fun r w'=>∃ a c,r=.returned (.slice a m c)∧Below wr.heap.size wr w'∧zN 16 w' wr.heap.size 0=bV x∧zW 16 w' wr.heap.size 0:=fun W d hW=>by
     have h0:Below wr.heap.size wr W:=by rw [hW];exact below_drewN ((Below.refl _ _).alloc (Nat.le_refl _) _) d
     have hb0:Blk W wr.heap.size (bV x).toArray 39:=by rw [hW];exact (Blk.new _ _ _).drewN d
     refine (zCY W tb v l x (hT.below h0) (by omega) wx (H.o.2.1 x)).mono ?_
     rintro r w' ⟨vo,out,rfl,hO,hR,hB'⟩
     obtain ⟨a,c,rfl⟩:=hO.slice
     have hb':=hb0.kept hB'
     exact ⟨a,c,by rw [hR.perm.length_eq,hm],h0.trans (hB'.mono h0.size),zS hb' (by rw [zB];exact wx),zO hb' (by simp [zB,wx])⟩
    have hm2:(m=0→∀ z∈l,z.ix≠x)∧(m≠0→¬ ∀ z∈l,z.ix≠x):=by
     constructor
     · intro e
       exact zBe.1 (List.eq_nil_of_length_eq_zero (by omega))
     · intro e h
       exact e (by rw [hm,zBe.2 h];rfl)
    have HOF:=Zh hof
    have HM:=Zh hm2
    clear hx hrow hb3 hT hof hm hm2 hr0 hB
    by_cases c0:i=0
    · have d0:decide ((i:Int)=0)=true:=by simp;omega
      have d0':((i:Int) == 0)=true:=by simp;omega
      have C0:=Zh c0
      clear c0
      by_cases cm:m=0
      · subst cm
        have HN:=Zh (HM.o.1 rfl)
        go_upto_region 6 with fail
        refine Tail.zAK 14 (fun w'=>∃ n,w'=(wr.alloc (.cells (bV x).toArray 39)).drewN n) (by kernel_rfl) (by kernel_rfl) ⟨1,rfl⟩ ?_
        simp only [List.take_succ_cons,List.take_zero,List.drop_succ_cons,List.drop_zero]
        repeat (first
         | go_big_quiet_step (fail)
         | quiet_step (fail))
        refine wpQuiet_nil ?_
        intro _ hw'
        obtain ⟨d5,hw''⟩:=hw'
        subst hw''
        go_wp2_with
         (first
          | (refine (HOF.o _ d5 rfl).mono ?_
             rintro r w3 ⟨a3,c3,rfl,hB3,r7,h7⟩
             have HO3:=Zh (G.o.1.chg (S:=fun _=>False) (Chg.of_below hB3) (fun _ _ h=>h))
             have HC3:=Zh (G.o.2.2.1.trans_below hB3)
             have hz3:w2.heap.size≤w3.heap.size:=Nat.le_trans G.o.2.2.1.size hB3.size
             clear hB3)
          | (refine zBW EKk ecK (by rfl) _ _ (by rfl) (base:=w2.heap.size) (l:=R) (cx:=1) (e':=39) x wx (by rfl) (by rfl) (Blk.new_at _ _ _ _ (by simp)) (HO3.o.chg (S:=fun _=>False) (Chg.of_below ((Below.refl _ _).alloc (Nat.le_refl _) _)) (fun _ _ h=>h)) (by have:=G.o.2.2.2;have:=H.o.2.2.2.2.1;omega) (by decide) (by simp;omega) ?_
             intro v1 x1 hv1 hg1 hs1
             have HV1:=Zh hv1
             have HC1:=Zh ((HC3.o.trans_below ((Below.refl _ _).alloc (Nat.le_refl _) _)).grown hg1 (fun q hq=>.inl (HO3.o.ge hq)))
             clear hv1 hg1 hs1)
          | fail)
        exact ⟨⟨i+1,R++[x],by omega,by simp,HV1.o,zFQ G.o.2.1 H2.o.2.2.2.2.2.2 HX.o.1 (fun _ h0 _=>absurd C0.o (by omega)) HN.o,HC1.o,by have:=G.o.2.2.2;simp;omega⟩,by show n - ((i:Int)+1).toNat < n - (i:Int).toNat;omega⟩
      · have HN:=Zh (HM.o.2 cm)
        have dm:decide ((m:Int)=0)=false:=by simp;omega
        have dm':((m:Int) == 0)=false:=by simp;omega
        replace cm:=Zh cm
        go_upto_region 6 with fail
        refine Tail.zAK 14 (fun w'=>∃ n,w'=(wr.alloc (.cells (bV x).toArray 39)).drewN n) (by kernel_rfl) (by kernel_rfl) ⟨1,rfl⟩ ?_
        simp only [List.take_succ_cons,List.take_zero,List.drop_succ_cons,List.drop_zero]
        repeat (first
         | go_big_quiet_step (fail)
         | quiet_step (fail))
        refine wpQuiet_nil ?_
        intro _ hw'
        obtain ⟨d5,hw''⟩:=hw'
        subst hw''
        go_wp2_with
         (first
          | (refine (HOF.o _ d5 rfl).mono ?_
             rintro r w3 ⟨a3,c3,rfl,hB3,r7,h7⟩
             have HO3:=Zh (G.o.1.chg (S:=fun _=>False) (Chg.of_below hB3) (fun _ _ h=>h))
             have HC3:=Zh (G.o.2.2.1.trans_below hB3)
             have hz3:w2.heap.size≤w3.heap.size:=Nat.le_trans G.o.2.2.1.size hB3.size
             clear hB3)
          | fail)
        exact ⟨⟨i+1,R,by omega,by simp,HO3.o,zJT G.o.2.1 HX.o.1 HN.o,HC3.o,by have:=G.o.2.2.2;omega⟩,by show n - ((i:Int)+1).toNat < n - (i:Int).toNat;omega⟩
    · have d0:decide ((i:Int)=0)=false:=by simp;omega
      have d0':((i:Int) == 0)=false:=by simp;omega
      obtain ⟨y,hy⟩:∃ y,ks'[i - 1]?=some y:=⟨_,List.getElem?_eq_getElem (by have:=H2.o.2.2.2.1;omega)⟩
      have wy:y.length=16:=HX.o.2.1.wf y (List.mem_of_getElem? hy)
      have ry:=HX.o.2.1.read ecK hy
      have t2:zW 16 wr g ((i - 1)*16):=HX.o.2.1.there (by omega)
      have eyx:=zFy y x wy wx
      obtain ⟨j,hj⟩:∃ j,j=i - 1:=⟨_,rfl⟩
      have ej:(i:Int) - 1=(j:Int):=by omega
      have j0:(0:Int)≤(j:Int):=by omega
      have j1:(j:Int) < (n:Int):=by omega
      rw [← hj] at hy ry t2
      have C0:=Zh (Zi hj (Zi c0 hy))
      clear hj c0 hy
      by_cases ce:y=x
      · have d1:decide (y=x)=true:=by simpa using ce
        replace ce:=Zh ce
        go_upto_region 6 with fail
        go_quiet (fail)
        go_wp2_with fail
        have hB4:Below wr.heap.size wr ((wr.alloc (.cells (bV x).toArray 39)).drewN nq):=below_drewN ((Below.refl _ _).alloc (Nat.le_refl _) _) nq
        exact ⟨⟨i+1,R,by omega,by simp,G.o.1.chg (S:=fun _=>False) (Chg.of_below hB4) (fun _ _ h=>h),zJS G.o.2.1 HX.o.1 (by have:=C0.o.2.1;omega) (by rw [← C0.o.1,C0.o.2.2,ce.o]),G.o.2.2.1.trans_below hB4,by have:=G.o.2.2.2;omega⟩,by show n - ((i:Int)+1).toNat < n - (i:Int).toNat;omega⟩
      · have d1:decide (y=x)=false:=by simpa using ce
        replace ce:=Zh ce
        by_cases cm:m=0
        · subst cm
          have HN:=Zh (HM.o.1 rfl)
          go_upto_region 6 with fail
          refine Tail.zAK 14 (fun w'=>∃ n,w'=(wr.alloc (.cells (bV x).toArray 39)).drewN n) (by kernel_rfl) (by kernel_rfl) ⟨1,rfl⟩ ?_
          simp only [List.take_succ_cons,List.take_zero,List.drop_succ_cons,List.drop_zero]
          repeat (first
           | go_big_quiet_step (fail)
           | quiet_step (fail))
          refine wpQuiet_nil ?_
          intro _ hw'
          obtain ⟨d5,hw''⟩:=hw'
          subst hw''
          go_wp2_with
           (first
            | (refine (HOF.o _ d5 rfl).mono ?_
               rintro r w3 ⟨a3,c3,rfl,hB3,r7,h7⟩
               have HO3:=Zh (G.o.1.chg (S:=fun _=>False) (Chg.of_below hB3) (fun _ _ h=>h))
               have HC3:=Zh (G.o.2.2.1.trans_below hB3)
               have hz3:w2.heap.size≤w3.heap.size:=Nat.le_trans G.o.2.2.1.size hB3.size
               clear hB3)
            | (refine zBW EKk ecK (by rfl) _ _ (by rfl) (base:=w2.heap.size) (l:=R) (cx:=1) (e':=39) x wx (by rfl) (by rfl) (Blk.new_at _ _ _ _ (by simp)) (HO3.o.chg (S:=fun _=>False) (Chg.of_below ((Below.refl _ _).alloc (Nat.le_refl _) _)) (fun _ _ h=>h)) (by have:=G.o.2.2.2;have:=H.o.2.2.2.2.1;omega) (by decide) (by simp;omega) ?_
               intro v1 x1 hv1 hg1 hs1
               have HV1:=Zh hv1
               have HC1:=Zh ((HC3.o.trans_below ((Below.refl _ _).alloc (Nat.le_refl _) _)).grown hg1 (fun q hq=>.inl (HO3.o.ge hq)))
               clear hv1 hg1 hs1)
            | fail)
          exact ⟨⟨i+1,R++[x],by omega,by simp,HV1.o,zFQ G.o.2.1 H2.o.2.2.2.2.2.2 HX.o.1 (fun z h0 hz e=>ce.o (by have h1:=C0.o.2.2;rw [C0.o.1,hz] at h1;cases h1;exact e)) HN.o,HC1.o,by have:=G.o.2.2.2;simp;omega⟩,by show n - ((i:Int)+1).toNat < n - (i:Int).toNat;omega⟩
        · have HN:=Zh (HM.o.2 cm)
          have dm:decide ((m:Int)=0)=false:=by simp;omega
          have dm':((m:Int) == 0)=false:=by simp;omega
          replace cm:=Zh cm
          go_upto_region 6 with fail
          refine Tail.zAK 14 (fun w'=>∃ n,w'=(wr.alloc (.cells (bV x).toArray 39)).drewN n) (by kernel_rfl) (by kernel_rfl) ⟨1,rfl⟩ ?_
          simp only [List.take_succ_cons,List.take_zero,List.drop_succ_cons,List.drop_zero]
          repeat (first
           | go_big_quiet_step (fail)
           | quiet_step (fail))
          refine wpQuiet_nil ?_
          intro _ hw'
          obtain ⟨d5,hw''⟩:=hw'
          subst hw''
          go_wp2_with
           (first
            | (refine (HOF.o _ d5 rfl).mono ?_
               rintro r w3 ⟨a3,c3,rfl,hB3,r7,h7⟩
               have HO3:=Zh (G.o.1.chg (S:=fun _=>False) (Chg.of_below hB3) (fun _ _ h=>h))
               have HC3:=Zh (G.o.2.2.1.trans_below hB3)
               have hz3:w2.heap.size≤w3.heap.size:=Nat.le_trans G.o.2.2.1.size hB3.size
               clear hB3)
            | fail)
          exact ⟨⟨i+1,R,by omega,by simp,HO3.o,zJT G.o.2.1 HX.o.1 HN.o,HC3.o,by have:=G.o.2.2.2;omega⟩,by show n - ((i:Int)+1).toNat < n - (i:Int).toNat;omega⟩
  · go_wp2_with fail
    go_ret
    have hfull:ks'.take i=ks':=List.take_of_length_le (by have:=H2.o.2.2.2.1;omega)
    refine ⟨u5,R,rfl,G.o.1.lower H2.o.2.2.1.size,⟨G.o.2.1.up,fun k=>?_⟩,H2.o.2.2.1.mix G.o.2.2.1 (fun k hk=>.inr (Nat.le_trans H2.o.2.2.1.size hk))⟩
    rw [G.o.2.1.mem,hfull,List.take_of_length_le (Nat.le_refl _),H2.o.2.2.2.2.2.1.mem_iff]
end Go.Proofs.YtbbojbdigiibbaaGreatDoor
end
