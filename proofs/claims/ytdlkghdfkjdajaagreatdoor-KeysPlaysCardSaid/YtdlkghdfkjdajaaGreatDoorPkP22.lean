/- Texts of this proof,packed: Ref10Law,Ref10OpenL,Ref10Play. -/
import Derived.Test.YtdlkghdfkjdajaaGreatDoorPkP20
import Derived.Test.YtdlkghdfkjdajaaGreatDoorPkP12
import Derived.Test.YtdlkghdfkjdajaaGreatDoorPkP11
import Derived.Sort.Walk0
section
namespace Go.Mem
open Go Go.RowKit Gf Go.Proofs.YtdlkghdfkjdajaaGreatDoor
set_option linter.unusedVariables false
theorem zEH (s:zA) (i:Int):s.wres i 1=s.wres i 0:=by
 unfold zA.wres
 by_cases h:s.may i=true <;> simp [h]
theorem zKI (s:zA) (i m:Nat):s.lay i [0] m=s.lay i [] m:=by
 funext j
 unfold zA.lay
 split
 · cases h:j - i*32 with
   | zero=>rfl
   | succ k=>simp
 · rfl
theorem zEk (s:zA) (i:Int):s.wr i [0]=s.wr i []:=by
 unfold zA.wr zA.write
 simp only [zKI,List.length_singleton,List.length_nil]
 by_cases h:s.may i=true <;> simp [h]
theorem zAR (x y:List UInt8):(Op.bytesLess x y=true)↔x < y:=by rw [Go.Proofs.bytesLess_eq,decide_eq_true_iff]
section
variable {α:Type} (nm:α→ByteArray)
def zDm (r:α) (pre:List α):List α × Bool :=
 (pre.filter (fun x=>Op.bytesLess (nm x).toList (nm r).toList)++(if (pre.any fun x=>!Op.bytesLess (nm x).toList (nm r).toList)=true then [r] else [])++pre.filter (fun x=>Op.bytesLess (nm r).toList (nm x).toList),pre.any fun x=>!Op.bytesLess (nm x).toList (nm r).toList)
theorem zFJ {r:α} {pre:List α} (h:∀ y∈pre,(nm y).toList < (nm r).toList):zDm nm r pre=(pre,false):=by
 have h1:∀ y∈pre,Op.bytesLess (nm y).toList (nm r).toList=true:=fun y hy=>(zAR _ _).2 (h y hy)
 have h2:∀ y∈pre,Op.bytesLess (nm r).toList (nm y).toList=false:=fun y hy=>by
  rw [Bool.eq_false_iff]
  intro e
  exact List.lt_irrefl _ (List.lt_trans (h y hy) ((zAR _ _).1 e))
 have e1:(pre.any fun x=>!Op.bytesLess (nm x).toList (nm r).toList)=false:=by
  rw [List.any_eq_false]
  intro y hy
  rw [h1 y hy]
  decide
 unfold zDm
 rw [e1,List.filter_eq_self.2 h1,List.filter_eq_nil_iff.2 (fun y hy=>by rw [h2 y hy];decide)]
 simp
theorem zKW {r x:α} {pre:List α} (hs:∀ y∈pre,(nm y).toList < (nm x).toList):zAF nm r (zDm nm r pre) x=zDm nm r (pre++[x]):=by
 by_cases h1:(nm x).toList < (nm r).toList
 · rw [zFJ nm (fun y hy=>List.lt_trans (hs y hy) h1),zFJ nm (fun y hy=>by
    rcases List.mem_append.1 hy with hy | hy
    · exact List.lt_trans (hs y hy) h1
    · rw [List.mem_singleton.1 hy];exact h1)]
   have e1:Op.bytesLess (nm x).toList (nm r).toList=true:=(zAR _ _).2 h1
   have e2:((nm x).toList == (nm r).toList)=false:=by
    rw [Bool.eq_false_iff]
    intro e
    rw [eq_of_beq e] at h1
    exact List.lt_irrefl _ h1
   unfold zAF
   simp [e1,e2]
 · have e1:Op.bytesLess (nm x).toList (nm r).toList=false:=by
    rw [Bool.eq_false_iff]
    intro e
    exact h1 ((zAR _ _).1 e)
   by_cases h2:(nm x).toList=(nm r).toList
   · rw [zFJ nm (fun y hy=>by rw [← h2];exact hs y hy)]
     have hl:∀ y∈pre,Op.bytesLess (nm y).toList (nm r).toList=true:=fun y hy=>(zAR _ _).2 (by rw [← h2];exact hs y hy)
     have hg:∀ y∈pre,Op.bytesLess (nm r).toList (nm y).toList=false:=fun y hy=>by
      rw [Bool.eq_false_iff]
      intro e
      rw [← h2] at e
      exact List.lt_irrefl _ (List.lt_trans (hs y hy) ((zAR _ _).1 e))
     have e3:Op.bytesLess (nm r).toList (nm x).toList=false:=by
      rw [Bool.eq_false_iff]
      intro e
      rw [← h2] at e
      exact List.lt_irrefl _ ((zAR _ _).1 e)
     have e2:((nm x).toList == (nm r).toList)=true:=by rw [h2];simp
     have ef1:(pre++[x]).filter (fun x=>Op.bytesLess (nm x).toList (nm r).toList)=pre:=by
      rw [List.filter_append,List.filter_eq_self.2 hl]
      simp [e1]
     have ef2:(pre++[x]).filter (fun x=>Op.bytesLess (nm r).toList (nm x).toList)=[]:=by
      rw [List.filter_append,List.filter_eq_nil_iff.2 (fun y hy=>by rw [hg y hy];decide)]
      simp [e3]
     have ea:((pre++[x]).any fun x=>!Op.bytesLess (nm x).toList (nm r).toList)=true:=by
      rw [List.any_append]
      simp [e1]
     unfold zDm
     rw [ef1,ef2,ea]
     unfold zAF
     simp [e2,e1]
   · have h3:(nm r).toList < (nm x).toList:=by
      by_cases h:(nm r).toList < (nm x).toList
      · exact h
      · exact absurd (List.le_antisymm (List.not_lt.1 h) (List.not_lt.1 h1)) h2
     have e3:Op.bytesLess (nm r).toList (nm x).toList=true:=(zAR _ _).2 h3
     have e2:((nm x).toList == (nm r).toList)=false:=by
      rw [Bool.eq_false_iff]
      intro e
      exact h2 (eq_of_beq e)
     unfold zAF zDm
     rw [List.filter_append,List.filter_append,List.any_append]
     simp only [e1,e2,e3,List.filter_cons,List.filter_nil,List.any_cons,List.any_nil,Bool.not_false,Bool.or_false,Bool.or_true,if_true]
     cases hany:pre.any fun x=>!Op.bytesLess (nm x).toList (nm r).toList with
     | true=>simp
     | false =>
       have hall:∀ y∈pre,Op.bytesLess (nm y).toList (nm r).toList=true:=fun y hy=>by
        have:=List.any_eq_false.1 hany y hy
        simpa using this
       have hg:pre.filter (fun x=>Op.bytesLess (nm r).toList (nm x).toList)=[]:=List.filter_eq_nil_iff.2 (fun y hy=>by
        intro e
        exact List.lt_irrefl _ (List.lt_trans ((zAR _ _).1 (hall y hy)) ((zAR _ _).1 e)))
       rw [hg]
       simp
theorem zCr {r:α}:∀ (l pre:List α),(pre++l).Pairwise (fun a b=>(nm a).toList < (nm b).toList)→l.foldl (zAF nm r) (zDm nm r pre)=zDm nm r (pre++l)
 | [],pre,_=>by simp
 | x::l,pre,h=>by
   rw [List.foldl_cons,zKW nm (fun y hy=>(List.pairwise_append.1 h).2.2 y hy x (by simp))]
   have:=zCr (r:=r) l (pre++[x]) (by simpa using h)
   rw [this]
   simp
theorem zEO {l:List α} {r:α} (h:l.Pairwise (fun a b=>(nm a).toList < (nm b).toList)):zAf nm l r=l.filter (fun x=>Op.bytesLess (nm x).toList (nm r).toList)++[r]++l.filter (fun x=>Op.bytesLess (nm r).toList (nm x).toList):=by
 have h1:zAM nm l r=zDm nm r l:=by
  have:=zCr nm (r:=r) l [] (by simpa using h)
  simpa [zDm,zAM] using this
 unfold zAf
 rw [h1]
 cases hany:l.any fun x=>!Op.bytesLess (nm x).toList (nm r).toList with
 | true =>
   have:(zDm nm r l).2=true:=hany
   rw [if_pos this]
   unfold zDm
   rw [hany]
   simp
 | false =>
   have:(zDm nm r l).2=false:=hany
   rw [if_neg (by rw [this];decide)]
   have hall:∀ y∈l,Op.bytesLess (nm y).toList (nm r).toList=true:=fun y hy=>by
    have:=List.any_eq_false.1 hany y hy
    simpa using this
   have hg:l.filter (fun x=>Op.bytesLess (nm r).toList (nm x).toList)=[]:=List.filter_eq_nil_iff.2 (fun y hy=>by
    intro e
    exact List.lt_irrefl _ (List.lt_trans ((zAR _ _).1 (hall y hy)) ((zAR _ _).1 e)))
   unfold zDm
   rw [hany,hg]
   simp
end
structure zAW (s:List Sto.Rec) (L:List zR):Prop where
 uniq:Sto.Uniq s
 mem:∀ x:zR,x∈L↔∃ r,s[x.slot]?=some r∧r.is=true∧x.name=r.name∧x.num=r.num∧x.data=r.data
 sorted:L.Pairwise (fun a b=>a.name.toList < b.name.toList)
theorem zFN {L:List zR} {name:ByteArray}:∀ {n:Nat},zAr L name n=none→∀ i x,i < n→L[i]?=some x→(x.name.toList == name.toList)=false
 | 0,_,i,x,hi,_=>by omega
 | n+1,h,i,x,hi,hx=>by
   rw [zAr] at h
   split at h
   · cases h
   · rename_i hn
     rcases Nat.lt_or_ge i n with h' | h'
     · exact zFN hn i x h' hx
     · obtain rfl:i=n:=by omega
       rw [hx] at h
       simp only [] at h
       split at h
       · cases h
       · rename_i hne
         simpa using hne
section
variable {s:List Sto.Rec} {L:List zR}
theorem zAW.find_some (h:zAW s L) {name:ByteArray} {j:Nat} (hf:zAr L name L.length=some j):∃ x r,L[j]?=some x∧s[x.slot]?=some r∧r.is=true∧x.name=r.name∧x.num=r.num∧x.data=r.data∧r.name=name∧Sto.best s name s.length=some x.slot:=by
 obtain ⟨_,x,hx,he⟩:=zCt hf
 obtain ⟨r,h1,h2,h3,h4,h5⟩:=(h.mem x).1 (List.mem_of_getElem? hx)
 have hn:r.name=name:=by rw [← h3];exact Sto.zCH.1 he
 exact ⟨x,r,hx,h1,h2,h3,h4,h5,hn,h.uniq.is ⟨h1,h2,hn⟩⟩
theorem zAW.find_none (h:zAW s L) {name:ByteArray} (hf:zAr L name L.length=none):Sto.best s name s.length=none:=by
 cases hb:Sto.best s name s.length with
 | none=>rfl
 | some k =>
   obtain ⟨r,_,ha,_⟩:=(Sto.zAB s name s.length).1 k hb
   obtain ⟨i,hi⟩:=List.mem_iff_getElem?.1 ((h.mem ⟨r.name,r.num,r.data,k⟩).2 ⟨r,ha.1,ha.2.1,rfl,rfl,rfl⟩)
   have:=zFN hf i _ (List.getElem?_eq_some_iff.1 hi).1 hi
   rw [show (zR.mk r.name r.num r.data k).name=name from ha.2.2] at this
   simp at this
theorem zAW.num (h:zAW s L) (name:ByteArray):zBa L name=match Sto.best s name s.length with
  | none=>1
  | some k=>(s.getD k Sto.Rec.free).num+1:=by
 unfold zBa
 cases hf:zAr L name L.length with
 | none=>rw [h.find_none hf]
 | some j =>
   obtain ⟨x,r,hx,h1,h2,h3,h4,h5,h6,hb⟩:=h.find_some hf
   rw [hb]
   simp only [hx]
   rw [List.getD_eq_getElem?_getD,h1]
   show x.num+1=r.num+1
   rw [h4]
theorem zAW.used (h:zAW s L) (i:Nat):zDy L i=true↔∃ r,s[i]?=some r∧r.is=true:=by
 unfold zDy
 rw [List.any_eq_true]
 constructor
 · rintro ⟨x,hx,he⟩
   obtain ⟨r,h1,h2,_⟩:=(h.mem x).1 hx
   rw [of_decide_eq_true he] at h1
   exact ⟨r,h1,h2⟩
 · rintro ⟨r,h1,h2⟩
   exact ⟨⟨r.name,r.num,r.data,i⟩,(h.mem _).2 ⟨r,h1,h2,rfl,rfl,rfl⟩,by simp⟩
theorem zCS {L:List zR} {slots:Nat}:∀ {n:Nat},(∀ j,j < n→zDy L j=true)→zAJ L slots n=none
 | 0,_=>rfl
 | n+1,h=>by
   rw [zAJ,zCS (fun j hj=>h j (by omega))]
   simp only []
   rw [if_pos (h n (by omega))]
theorem zDo {slots:Nat}:∀ {n i:Nat},i < n→zDy L i=false→(∀ j,j < i→zDy L j=true)→zAJ L slots n=some i
 | n+1,i,hi,hu,hl=>by
   rw [zAJ]
   rcases Nat.lt_or_ge i n with h' | h'
   · rw [zDo h' hu hl]
   · obtain rfl:i=n:=by omega
     rw [zCS hl]
     simp only []
     rw [if_neg (by rw [hu];decide)]
theorem zAW.free (h:zAW s L):zAJ L s.length s.length=if Sto.slot s=s.length then none else some (Sto.slot s):=by
 have hle:∀ j,j < Sto.slot s→zDy L j=true:=fun j hj=>by
  have hjl:j < s.length:=Nat.lt_of_lt_of_le hj (zEh s)
  have:=List.not_of_lt_findIdx hj
  rw [h.used]
  exact ⟨s[j],List.getElem?_eq_getElem hjl,by simpa using this⟩
 split
 · rename_i e
   exact zCS (fun j hj=>hle j (by omega))
 · rename_i e
   have hlt:=zC9 e
   refine zDo hlt ?_ hle
   rw [Bool.eq_false_iff]
   intro hu
   obtain ⟨r,h1,h2⟩:=h.used (Sto.slot s) |>.1 hu
   have h3:(!(s[Sto.slot s]).is)=true:=List.findIdx_getElem (w:=hlt)
   rw [List.getElem?_eq_getElem hlt] at h1
   cases h1
   rw [h2] at h3
   cases h3
end
theorem zDn (at_:Nat):∀ (n:Nat) (D:zA) (k:Nat) (b:List UInt8),b.length≤n*32→zw at_ (n+1) D k b=zw at_ n D k b
 | 0,D,k,b,h=>by
   have:b=[]:=List.eq_nil_of_length_eq_zero (by omega)
   subst this
   rfl
 | n+1,D,k,b,h=>by
   rw [zw]
   conv=>rhs;rw [zw]
   split
   · rfl
   · split
     · rfl
     · exact zDn at_ n _ _ _ (by rw [List.length_drop];omega)
theorem zCk (at_:Nat):∀ (n:Nat) (s:St) (k:Nat) (b:List UInt8),(St.chunks at_ n s k b).2.disk=(zw at_ n s.disk k b).2∧(St.chunks at_ n s k b).2.recs=s.recs∧(St.chunks at_ n s k b).2.room=s.room∧((St.chunks at_ n s k b).1=0↔(zw at_ n s.disk k b).1=true)∧((zw at_ n s.disk k b).1=true→(St.chunks at_ n s k b).2.dead=s.dead)∧((zw at_ n s.disk k b).1=false→(St.chunks at_ n s k b).2.dead=true)
 | 0,s,k,b=>⟨rfl,rfl,rfl,by simp [St.chunks,zw],fun _=>rfl,fun h=>by cases h⟩
 | n+1,s,k,b=>by
   rw [St.chunks,zw]
   by_cases hb:b=[]
   · rw [if_pos hb,if_pos hb]
     exact ⟨rfl,rfl,rfl,by simp,(fun _=>rfl),(fun h=>by cases h)⟩
   · rw [if_neg hb,if_neg hb]
     have e:s.writeE (at_+1+k) (b.take 32)=s.disk.wres ((at_+1+k:Nat):Int) (b.take 32).length:=rfl
     rw [e]
     by_cases hw:s.disk.wres ((at_+1+k:Nat):Int) (b.take 32).length=0
     · rw [if_neg (by simpa using hw),if_neg (by simpa using hw)]
       obtain ⟨h1,h2,h3,h4,h5,h6⟩:=zCk at_ n (s.writeS (at_+1+k) (b.take 32)) (k+1) (b.drop 32)
       have hd:(s.writeS (at_+1+k) (b.take 32)).dead=s.dead:=by
        show (s.dead || (s.writeE (at_+1+k) (b.take 32) != 0))=s.dead
        rw [e,hw]
        simp
       exact ⟨h1,h2,h3,h4,fun h=>(h5 h).trans hd,h6⟩
     · rw [if_pos hw,if_pos hw]
       refine ⟨rfl,rfl,rfl,⟨fun h=>absurd h hw,(fun h=>by cases h)⟩,(fun h=>by cases h),fun _=>?_⟩
       show (s.dead || (s.writeE (at_+1+k) (b.take 32) != 0))=true
       rw [e,show (s.disk.wres ((at_+1+k:Nat):Int) (b.take 32).length != 0)=true from by rw [bne_iff_ne];exact hw,Bool.or_true]
theorem zGi {a b:ByteArray}:(Op.bytesLess a.toList b.toList=true∨Op.bytesLess b.toList a.toList=true)↔a≠b:=by
 rw [zAR,zAR]
 constructor
 · rintro (h | h) e
   · rw [e] at h;exact List.lt_irrefl _ h
   · rw [e] at h;exact List.lt_irrefl _ h
 · intro h
   by_cases h1:a.toList < b.toList
   · exact .inl h1
   · by_cases h2:b.toList < a.toList
     · exact .inr h2
     · exact absurd (Sto.ByteArray.toList_inj' (List.le_antisymm (List.not_lt.1 h2) (List.not_lt.1 h1))) h
theorem zGn {L:List zR} {x:zR} (h:L.Pairwise (fun a b=>a.name.toList < b.name.toList)) (y:zR):y∈zAf zR.name L x↔y=x∨(y∈L∧y.name≠x.name):=by
 rw [zEO zR.name h]
 simp only [List.mem_append,List.mem_singleton,List.mem_filter]
 constructor
 · rintro ((⟨h1,h2⟩ | h1) | ⟨h1,h2⟩)
   · exact .inr ⟨h1,zGi.1 (.inl h2)⟩
   · exact .inl h1
   · exact .inr ⟨h1,zGi.1 (.inr h2)⟩
 · rintro (h1 | ⟨h1,h2⟩)
   · exact .inl (.inr h1)
   · rcases zGi.2 h2 with h3 | h3
     · exact .inl (.inl ⟨h1,h3⟩)
     · exact .inr ⟨h1,h3⟩
theorem zDT {L:List zR} {x:zR} (h:L.Pairwise (fun a b=>a.name.toList < b.name.toList)):(zAf zR.name L x).Pairwise (fun a b=>a.name.toList < b.name.toList):=by
 rw [zEO zR.name h,List.pairwise_append,List.pairwise_append]
 refine ⟨⟨h.filter _,List.pairwise_singleton _ _,fun a ha b hb=>?_⟩,h.filter _,fun a ha b hb=>?_⟩
 · rw [List.mem_singleton.1 hb]
   exact (zAR _ _).1 (List.mem_filter.1 ha).2
 · have h2:=(zAR _ _).1 (List.mem_filter.1 hb).2
   rcases List.mem_append.1 ha with ha | ha
   · exact List.lt_trans ((zAR _ _).1 (List.mem_filter.1 ha).2) h2
   · rw [List.mem_singleton.1 ha];exact h2
section
variable {s:List Sto.Rec} {L:List zR}
theorem zAW.put_new (h:zAW s L) {name:ByteArray} (hb:Sto.best s name s.length=none) (ht:Sto.slot s < s.length) (num:Nat) (data:List UInt8):zAW (s.set (Sto.slot s) ⟨true,name,num,data⟩) (zAf zR.name L ⟨name,num,data,Sto.slot s⟩):=by
 have hfree:∀ r,s[Sto.slot s]?=some r→r.is=false:=fun r hr=>by
  have h3:(!(s[Sto.slot s]).is)=true:=List.findIdx_getElem (w:=ht)
  rw [List.getElem?_eq_getElem ht] at hr
  cases hr
  simpa using h3
 have hno:∀ y∈L,y.name≠name:=fun y hy e=>by
  obtain ⟨r,h1,h2,h3,_⟩:=(h.mem y).1 hy
  exact (Sto.zAB s name s.length).2 hb y.slot r (List.getElem?_eq_some_iff.1 h1).1 ⟨h1,h2,by rw [← h3];exact e⟩
 refine ⟨h.uniq.put ht hb num data,fun x=>?_,zDT h.sorted⟩
 rw [zGn h.sorted]
 constructor
 · rintro (rfl | ⟨hx,_⟩)
   · exact ⟨⟨true,name,num,data⟩,List.getElem?_set_self ht,rfl,rfl,rfl,rfl⟩
   · obtain ⟨r,h1,h2,h3⟩:=(h.mem x).1 hx
     have hne:Sto.slot s≠x.slot:=fun e=>by
      rw [← e] at h1
      rw [hfree r h1] at h2
      cases h2
     exact ⟨r,by rw [List.getElem?_set_ne hne];exact h1,h2,h3⟩
 · rintro ⟨r,h1,h2,h3,h4,h5⟩
   by_cases e:Sto.slot s=x.slot
   · left
     rw [← e,List.getElem?_set_self ht] at h1
     cases h1
     cases x
     simp only at h3 h4 h5 e
     rw [h3,h4,h5,e]
   · right
     rw [List.getElem?_set_ne e] at h1
     have hx:=(h.mem x).2 ⟨r,h1,h2,h3,h4,h5⟩
     exact ⟨hx,hno x hx⟩
theorem zAW.put_old (h:zAW s L) {name:ByteArray} {k:Nat} (hb:Sto.best s name s.length=some k) (ht:Sto.slot s < s.length) (num:Nat) (data:List UInt8):zAW ((s.set (Sto.slot s) ⟨true,name,num,data⟩).set k Sto.Rec.free) (zAf zR.name L ⟨name,num,data,Sto.slot s⟩):=by
 have hfree:∀ r,s[Sto.slot s]?=some r→r.is=false:=fun r hr=>by
  have h3:(!(s[Sto.slot s]).is)=true:=List.findIdx_getElem (w:=ht)
  rw [List.getElem?_eq_getElem ht] at hr
  cases hr
  simpa using h3
 obtain ⟨rk,hk,hak,_⟩:=(Sto.zAB s name s.length).1 k hb
 have hkt:k≠Sto.slot s:=fun e=>by
  have:=hak.1
  rw [e] at this
  have h2:=hak.2.1
  rw [hfree rk this] at h2
  cases h2
 have hname:∀ y∈L,y.slot≠k↔y.name≠name:=fun y hy=>by
  obtain ⟨r,h1,h2,h3,_⟩:=(h.mem y).1 hy
  constructor
  · intro hne e
    exact hne (h.uniq name y.slot k r rk ⟨h1,h2,by rw [← h3];exact e⟩ hak)
  · intro hne e
    rw [e,hak.1] at h1
    cases h1
    exact hne (h3.trans hak.2.2)
 refine ⟨h.uniq.swap ht hb num data,fun x=>?_,zDT h.sorted⟩
 rw [zGn h.sorted]
 constructor
 · rintro (rfl | ⟨hx,hne⟩)
   · exact ⟨⟨true,name,num,data⟩,by rw [List.getElem?_set_ne hkt];exact List.getElem?_set_self ht,rfl,rfl,rfl,rfl⟩
   · obtain ⟨r,h1,h2,h3⟩:=(h.mem x).1 hx
     have hne1:Sto.slot s≠x.slot:=fun e=>by
      rw [← e] at h1
      rw [hfree r h1] at h2
      cases h2
     have hne2:k≠x.slot:=fun e=>(hname x hx).2 hne e.symm
     exact ⟨r,by rw [List.getElem?_set_ne hne2,List.getElem?_set_ne hne1];exact h1,h2,h3⟩
 · rintro ⟨r,h1,h2,h3,h4,h5⟩
   have hne2:k≠x.slot:=fun e=>by
    rw [← e,List.getElem?_set_self (by rw [List.length_set];exact hk)] at h1
    cases h1
    cases h2
   rw [List.getElem?_set_ne hne2] at h1
   by_cases e:Sto.slot s=x.slot
   · left
     rw [← e,List.getElem?_set_self ht] at h1
     cases h1
     cases x
     simp only at h3 h4 h5 e
     rw [h3,h4,h5,e]
   · right
     rw [List.getElem?_set_ne e] at h1
     have hx:=(h.mem x).2 ⟨r,h1,h2,h3,h4,h5⟩
     exact ⟨hx,(hname x hx).1 (fun e=>hne2 e.symm)⟩
end
theorem zIW {D:zA} {i n:Nat} (hi:i < D.n) (hn:n≤32):D.wres (i:Int) n=0∨D.wres (i:Int) n=8:=by
 unfold zA.wres
 rw [if_pos ⟨by simp [zA.may];omega,hn⟩]
 split
 · exact .inr rfl
 · split
   · exact .inr rfl
   · exact .inl rfl
theorem zC7 {n room k:Nat} (h:k < n):k*(room+1)+room < n*(room+1):=by
 have:(k+1)*(room+1)≤n*(room+1):=Nat.mul_le_mul h (Nat.le_refl _)
 rw [Nat.add_mul,Nat.one_mul] at this
 omega
structure Both (R:Int × zA × List zR × Bool) (P:Int × St) (room:Nat):Prop where
 err:R.1=P.1
 disk:R.2.1=P.2.disk
 dead:R.2.2.2=P.2.dead
 recs:P.2.dead=false→zAW P.2.recs R.2.2.1
 room:P.2.room=room
theorem zEs (at_:Nat):∀ (n:Nat) (s:St) (k:Nat) (b:List UInt8),b.length≤n*32→at_+k+n < s.disk.n→(St.chunks at_ n s k b).1=0∨(St.chunks at_ n s k b).1=8
 | 0,s,k,b,_,_=>.inl rfl
 | n+1,s,k,b,hb,hi=>by
   rw [St.chunks]
   split
   · exact .inl rfl
   · split
     · rename_i hw
       exact (zIW (D:=s.disk) (i:=at_+1+k) (n:=(b.take 32).length) (by omega) (by rw [List.length_take];omega)).elim (fun e=>absurd e hw) .inr
     · exact zEs at_ n _ (k+1) (b.drop 32) (by rw [List.length_drop];omega) (by show _ < (s.disk.wr _ _).n;rw [zA.wr_n];omega)
theorem zLP {s:St} {L:List zR} (h:zAW s.recs L) (hd:s.dead=false) (hn:s.disk.n=s.recs.length*(s.room+1)) (name:ByteArray) (data:List UInt8):Both (zAX s.recs.length s.room s.disk L false name data) (zk s name data) s.room:=by
 unfold zAX zk
 rw [if_neg (show ¬ (false=true) from by decide),if_neg (show ¬ (s.dead=true) from by rw [hd];decide)]
 by_cases hfit:zAH s.room name data=false
 · rw [if_pos hfit,if_pos hfit]
   exact ⟨rfl,rfl,hd.symm,fun _=>h,rfl⟩
 · rw [if_neg hfit,if_neg hfit,h.free]
   by_cases hfull:Sto.slot s.recs=s.recs.length
   · rw [if_pos hfull,if_pos hfull]
     exact ⟨rfl,rfl,hd.symm,fun _=>h,rfl⟩
   · rw [if_neg hfull,if_neg hfull]
     have hlt:=zC9 hfull
     have hnum:zBa L name=s.num name:=h.num name
     simp only []
     rw [hnum]
     have htl:(Sto.text name (s.num name) data).length≤s.room*32:=by
      have h1:zAH s.room name data=true:=by simpa using hfit
      unfold zAH at h1
      simp only [Bool.and_eq_true,decide_eq_true_eq] at h1
      have hl:(Sto.text name (s.num name) data).length=(Sto.text name 0 data).length:=by
       simp only [Sto.text,Cod.zAU,List.length_append,Cod.zAL,Cod.zt,List.length_nil]
      rw [hl]
      exact h1.2.2
     have hsec:=zC7 (room:=s.room) hlt
     rw [zDn _ _ _ _ _ htl]
     obtain ⟨c1,c2,c3,c4,c5,c6⟩:=zCk (Sto.slot s.recs*(s.room+1)) s.room s 0 (Sto.text name (s.num name) data)
     have c7:=zEs (Sto.slot s.recs*(s.room+1)) s.room s 0 (Sto.text name (s.num name) data) htl (by rw [hn];omega)
     generalize hC:St.chunks (Sto.slot s.recs*(s.room+1)) s.room s 0 (Sto.text name (s.num name) data)=C at c1 c2 c3 c4 c5 c6 c7 ⊢
     generalize hK:zw (Sto.slot s.recs*(s.room+1)) s.room s.disk 0 (Sto.text name (s.num name) data)=K at c1 c4 c5 c6 ⊢
     obtain ⟨e,s1⟩:=C
     obtain ⟨ok,D1⟩:=K
     simp only at c1 c2 c3 c4 c5 c6 c7 ⊢
     subst c1
     have hKn:=zGG (Sto.slot s.recs*(s.room+1)) s.room s.disk 0 (Sto.text name (s.num name) data)
     rw [hK] at hKn
     simp only at hKn
     cases ok with
     | false =>
       have he:e≠0:=fun e0=>by have:=c4.1 e0;cases this
       rw [if_pos rfl,if_pos he]
       exact ⟨(c7.resolve_left he).symm,rfl,(c6 rfl).symm,(fun e'=>by rw [c6 rfl] at e';cases e'),c3⟩
     | true =>
       have he:e=0:=c4.2 rfl
       have hd1:s1.dead=false:=(c5 rfl).trans hd
       rw [if_neg (show ¬ (true=false) from by decide),if_neg (show ¬ (e≠0) from fun h'=>h' he)]
       have hE:s1.writeE (Sto.slot s.recs*(s.room+1)) [1]=s1.disk.wres ((Sto.slot s.recs*(s.room+1):Nat):Int) 1:=rfl
       rw [hE]
       by_cases hw:s1.disk.wres ((Sto.slot s.recs*(s.room+1):Nat):Int) 1=0
       · rw [if_neg (by simpa using hw),if_neg (by simpa using hw)]
         have hd2:(s1.writeS (Sto.slot s.recs*(s.room+1)) [1]).dead=false:=by
          show (s1.dead || (s1.writeE (Sto.slot s.recs*(s.room+1)) [1] != 0))=false
          rw [hd1,hE,hw];rfl
         cases hf:zAr L name L.length with
         | none =>
           rw [h.find_none hf]
           refine ⟨rfl,rfl,hd2.symm,fun _=>?_,c3⟩
           show zAW (s1.recs.set (Sto.slot s.recs) ⟨true,name,s.num name,data⟩) _
           rw [c2]
           exact h.put_new (h.find_none hf) hlt _ _
         | some i =>
           obtain ⟨x,r,hx,h1,h2,_,_,_,_,hb⟩:=h.find_some hf
           rw [hb]
           simp only [St.done]
           have hs:zCu L i=x.slot:=by unfold zCu;rw [hx];rfl
           rw [hs]
           have hin:x.slot*(s.room+1) < s.disk.n:=by
            have:=zC7 (room:=s.room) (List.getElem?_eq_some_iff.1 h1).1
            rw [hn];omega
           obtain ⟨D2,hD2⟩:∃ D,D=s1.disk.wr ((Sto.slot s.recs*(s.room+1):Nat):Int) [1]:=⟨_,rfl⟩
           have hD2n:D2.n=s.disk.n:=by rw [hD2,zA.wr_n,hKn]
           obtain ⟨s3,hs3⟩:∃ z,z=(s1.writeS (Sto.slot s.recs*(s.room+1)) [1]).laid (Sto.slot s.recs) ⟨true,name,s.num name,data⟩:=⟨_,rfl⟩
           have g1:s3.disk=D2:=by rw [hs3,hD2];rfl
           have g2:s3.dead=false:=by rw [hs3];exact hd2
           have g3:s3.room=s.room:=by rw [hs3];exact c3
           have g4:s3.recs=s.recs.set (Sto.slot s.recs) ⟨true,name,s.num name,data⟩:=by
            rw [hs3]
            show s1.recs.set _ _=_
            rw [c2]
           rw [← hs3,← hD2]
           have hE3:s3.freeE x.slot=D2.wres ((x.slot*(s.room+1):Nat):Int) 0:=by
            unfold St.freeE
            rw [g1,g3]
            exact zEH _ _
           by_cases hw3:D2.wres ((x.slot*(s.room+1):Nat):Int) 0=0
           · rw [if_neg (by simpa using hw3)]
             have hdead:(s3.freeS x.slot).dead=false:=by
              show (s3.dead || (s3.freeE x.slot != 0))=false
              rw [g2,hE3,hw3];rfl
             refine ⟨by show (0:Int)=s3.freeE x.slot;rw [hE3,hw3],by show _=s3.disk.wr _ [0];rw [zEk,g1,g3],hdead.symm,fun _=>?_,g3⟩
             show zAW (if s3.freeE x.slot=0 then s3.recs.set x.slot Sto.Rec.free else s3.recs) _
             rw [if_pos (by rw [hE3,hw3]),g4]
             exact h.put_old hb hlt _ _
           · rw [if_pos hw3]
             have h8:D2.wres ((x.slot*(s.room+1):Nat):Int) 0=8:=(zIW (by rw [hD2n];exact hin) (by decide)).resolve_left hw3
             have hdead:(s3.freeS x.slot).dead=true:=by
              show (s3.dead || (s3.freeE x.slot != 0))=true
              rw [g2,hE3,h8];rfl
             exact ⟨by show (8:Int)=s3.freeE x.slot;rw [hE3,h8],by show _=s3.disk.wr _ [0];rw [zEk,g1,g3],hdead.symm,(fun e'=>by rw [hdead] at e';cases e'),g3⟩
       · rw [if_pos hw,if_pos hw]
         have h8:s1.disk.wres ((Sto.slot s.recs*(s.room+1):Nat):Int) 1=8:=(zIW (by rw [hKn,hn];omega) (by decide)).resolve_left hw
         have hdead:(s1.writeS (Sto.slot s.recs*(s.room+1)) [1]).dead=true:=by
          show (s1.dead || (s1.writeE (Sto.slot s.recs*(s.room+1)) [1] != 0))=true
          rw [hd1,hE,h8];rfl
         exact ⟨h8.symm,rfl,hdead.symm,(fun e'=>by rw [hdead] at e';cases e'),c3⟩
end Go.Mem
end
section
namespace Go.Mem
open Go Go.RowKit Gf Go.Proofs.YtdlkghdfkjdajaaGreatDoor
set_option linter.unusedVariables false
theorem zFa (D:zA) (room i:Nat):∀ k,zA5 D room i k=zBw (k*32) fun j=>D.f (i*(room+1)*32+32+j)
 | 0=>by
   rw [Nat.zero_mul]
   rfl
 | k+1=>by
   rw [zA5,zFa D room i k]
   apply List.ext_getElem?
   intro j
   have e1:∀ (m:Nat) (f:Nat→UInt8),(zBw m f).length=m:=fun m f=>by simp [zBw]
   rcases Nat.lt_or_ge j (k*32) with h | h
   · rw [List.getElem?_append_left (by rw [e1];exact h),zBb _ _ _ h,zBb _ _ _ (by omega)]
   · rw [List.getElem?_append_right (by rw [e1];exact h),e1]
     by_cases h2:j < (k+1)*32
     · rw [zA.sector,zBb _ _ _ (by omega),zBb _ _ _ h2]
       congr 2
       rw [Nat.add_mul,Nat.add_mul]
       omega
     · rw [List.getElem?_eq_none (by rw [zA.sector,e1];omega),List.getElem?_eq_none (by rw [e1];omega)]
theorem zKZ {D:zA} {room k:Nat} (hd:D.dead=false) (hf:D.f (k*(room+1)*32)≠1):readR D room k=(Sto.Rec.free,0,false):=by
 unfold readR
 rw [if_neg (by rw [hd];decide),if_pos hf]
theorem zLQ {D:zA} {room k:Nat} (hd:D.dead=false) (hf:D.f (k*(room+1)*32)=1) {r:Sto.Rec} (hp:Sto.parse (zBT D room k)=some r):readR D room k=(r,0,false):=by
 unfold readR
 rw [if_neg (by rw [hd];decide),if_neg (fun e=>e hf),zFa,show (zBw (room*32) fun j=>D.f (k*(room+1)*32+32+j))=zBT D room k from rfl,hp]
theorem zKY {D:zA} {room k:Nat} (hd:D.dead=false) (hf:D.f (k*(room+1)*32)=1) (hp:Sto.parse (zBT D room k)=none):readR D room k=(Sto.Rec.free,D.wres ((k*(room+1):Nat):Int) 0,true):=by
 unfold readR
 rw [if_neg (by rw [hd];decide),if_neg (fun e=>e hf),zFa,show (zBw (room*32) fun j=>D.f (k*(room+1)*32+32+j))=zBT D room k from rfl,hp]
 simp only []
 rw [zEH]
theorem zLN {b:List UInt8} {r:Sto.Rec} (h:Sto.parse b=some r):r.is=true:=by
 rw [zCP] at h
 split at h
 · cases h
 · split at h
   · cases h
   · split at h
     · split at h
       · cases h
       · cases h;rfl
     · cases h
theorem zIV {s:zA} {i:Int} {bs:List UInt8} (h:s.wres i bs.length=0) (hd:s.dead=false):(s.wr i bs).dead=false:=by
 unfold zA.wres at h
 unfold zA.wr zA.write
 split
 · split
   · rename_i h1 h2
     rw [if_pos h1.1,if_neg (by rw [hd];decide),if_pos h2] at h
     cases h
   · exact hd
 · exact hd
def zl:List Sto.Rec→Nat→List zR
 | [],_=>[]
 | r::l,i=>if r.is=true then ⟨r.name,r.num,r.data,i⟩::zl l (i+1) else zl l (i+1)
theorem zA9:∀ (l l':List Sto.Rec) (i:Nat),zl (l++l') i=zl l i++zl l' (i+l.length)
 | [],l',i=>by simp [zl]
 | r::l,l',i=>by
   rw [List.cons_append,zl,zl,zA9 l l' (i+1),List.length_cons,show i+1+l.length=i+(l.length+1) from by omega]
   split
   · rfl
   · rfl
theorem zE7 (D0:zA) (room:Nat) (hd:D0.dead=false) {n:Nat} (hn:D0.n=n*(room+1)):∀ k,k≤n →
  ((readAll room D0 k).2.1=0↔(ro1 D0 room k).1=true)∧((readAll room D0 k).2.1=0∨(readAll room D0 k).2.1=8)∧(readAll room D0 k).2.2=(ro1 D0 room k).2.1∧zl (readAll room D0 k).1 0=(ro1 D0 room k).2.2∧((readAll room D0 k).2.1=0→(readAll room D0 k).2.2.dead=false)
 | 0,_=>⟨by simp [readAll,ro1],.inl rfl,rfl,rfl,fun _=>hd⟩
 | k+1,hk=>by
   obtain ⟨h1,h2,h3,h4,h5⟩:=zE7 D0 room hd hn k (by omega)
   rw [readAll,ro1]
   by_cases h0:(readAll room D0 k).2.1=0
   · have ho:=h1.1 h0
     rw [if_neg (show ¬ ((ro1 D0 room k).1=false) from by rw [ho];decide)]
     simp only [h0,ne_eq,not_true_eq_false,if_false]
     have hlen:=zBZ room D0 k h0
     have hdk:=h5 h0
     rw [← h3]
     by_cases hf:(readAll room D0 k).2.2.f (k*(room+1)*32)=1
     · rw [if_neg (show ¬ ((readAll room D0 k).2.2.f (k*(room+1)*32)≠1) from fun e=>e hf)]
       cases hp:Sto.parse (zBT (readAll room D0 k).2.2 room k) with
       | some r =>
         rw [zLQ hdk hf hp]
         simp only [not_true_eq_false,if_false,Bool.false_eq_true]
         refine ⟨by simp,by simp,by simp,?_,fun _=>hdk⟩
         rw [zA9,h4,hlen]
         simp [zl,zLN hp]
       | none =>
         rw [zKY hdk hf hp]
         have hin:k*(room+1) < (readAll room D0 k).2.2.n:=by
          have:=zC7 (room:=room) (show k < n by omega)
          rw [h3,zLR,hn];omega
         have e8:=zIW (D:=(readAll room D0 k).2.2) (n:=0) hin (by decide)
         simp only [if_true]
         rw [zEk]
         by_cases hw:(readAll room D0 k).2.2.wres ((k*(room+1):Nat):Int) 0=0
         · rw [if_neg (show ¬ (¬ ((readAll room D0 k).2.2.wres ((k*(room+1):Nat):Int) 0=0)) from fun e=>e hw)]
           refine ⟨by rw [hw];simp,.inl rfl,rfl,?_,fun _=>zIV (bs:=[]) hw hdk⟩
           rw [zA9,h4]
           simp [zl,Sto.Rec.free]
         · rw [if_pos hw]
           have h8:=e8.resolve_left hw
           exact ⟨by rw [h8];simp,.inr h8,rfl,h4,fun e=>absurd e hw⟩
     · rw [if_pos hf,zKZ hdk hf]
       simp only [not_true_eq_false,if_false,Bool.false_eq_true]
       refine ⟨by simp [ho],by simp,by first | exact h3 | simp [h3],?_,fun _=>hdk⟩
       rw [zA9,h4]
       simp [zl,Sto.Rec.free]
   · have ho:(ro1 D0 room k).1=false:=by
      rw [Bool.eq_false_iff]
      exact fun e=>h0 (h1.2 e)
     rw [if_pos ho]
     simp only []
     rw [if_pos h0]
     exact ⟨⟨fun e=>absurd e h0,fun e=>by rw [ho] at e;cases e⟩,h2,h3,h4,fun e=>absurd e h0⟩
theorem zCQ:∀ (l:List Sto.Rec) (i:Nat) (y:zR),y∈zl l i↔i≤y.slot∧∃ r,l[y.slot - i]?=some r∧r.is=true∧y.name=r.name∧y.num=r.num∧y.data=r.data
 | [],i,y=>by simp [zl]
 | r::l,i,y=>by
   rw [zl]
   have key:y∈zl l (i+1)↔i+1≤y.slot∧∃ r',(r::l)[y.slot - i]?=some r'∧r'.is=true∧y.name=r'.name∧y.num=r'.num∧y.data=r'.data:=by
    rw [zCQ l (i+1) y]
    constructor
    · rintro ⟨h,h2⟩
      refine ⟨h,?_⟩
      rw [show y.slot - i=(y.slot - (i+1))+1 from by omega,List.getElem?_cons_succ]
      exact h2
    · rintro ⟨h,h2⟩
      refine ⟨h,?_⟩
      rw [show y.slot - i=(y.slot - (i+1))+1 from by omega,List.getElem?_cons_succ] at h2
      exact h2
   by_cases hr:r.is=true
   · rw [if_pos hr,List.mem_cons,key]
     constructor
     · rintro (rfl | ⟨h,h2⟩)
       · exact ⟨Nat.le_refl _,r,by simp,hr,rfl,rfl,rfl⟩
       · exact ⟨by omega,h2⟩
     · rintro ⟨h,r',h2⟩
       rcases Nat.eq_or_lt_of_le h with e | e
       · left
         rw [show y.slot - i=0 from by omega] at h2
         obtain ⟨h3,h4,h5,h6,h7⟩:=h2
         simp at h3
         subst h3
         cases y
         simp only at h5 h6 h7 e
         rw [h5,h6,h7,e]
       · exact .inr ⟨e,r',h2⟩
   · rw [if_neg hr,key]
     constructor
     · rintro ⟨h,h2⟩
       exact ⟨by omega,h2⟩
     · rintro ⟨h,r',h2⟩
       rcases Nat.eq_or_lt_of_le h with e | e
       · exfalso
         rw [show y.slot - i=0 from by omega] at h2
         obtain ⟨h3,h4,_⟩:=h2
         simp at h3
         rw [← h3] at h4
         exact hr h4
       · exact ⟨e,r',h2⟩
theorem zCR:∀ (l:List Sto.Rec) (i:Nat),(zl l i).Pairwise (fun a b=>a.slot < b.slot)
 | [],i=>by simp [zl]
 | r::l,i=>by
   rw [zl]
   split
   · refine List.pairwise_cons.2 ⟨fun y hy=>?_,zCR l (i+1)⟩
     exact ((zCQ l (i+1) y).1 hy).1
   · exact zCR l (i+1)
theorem zH7 {all:List zR} (h:all.Pairwise (fun a b=>a.slot < b.slot)) {i j:Nat} {x y:zR} (hx:all[i]?=some x) (hy:all[j]?=some y) (hij:i < j):x.slot < y.slot:=by
 obtain ⟨h1,h2⟩:=List.getElem?_eq_some_iff.1 hx
 obtain ⟨h3,h4⟩:=List.getElem?_eq_some_iff.1 hy
 rw [← h2,← h4]
 exact List.pairwise_iff_getElem.1 h i j h1 h3 hij
theorem zH8 {all:List zR} (h:all.Pairwise (fun a b=>a.slot < b.slot)) {i j:Nat} {x y:zR} (hx:all[i]?=some x) (hy:all[j]?=some y):x.slot < y.slot↔i < j:=by
 constructor
 · intro hs
   rcases Nat.lt_trichotomy i j with h' | h' | h'
   · exact h'
   · subst h'
     rw [hx] at hy;cases hy;omega
   · have:=zH7 h hy hx h';omega
 · exact zH7 h hx hy
theorem zEp (all:List zR) (x:zR) (i:Nat):∀ n,zBN all x i n=true↔∀ k,k < n→zBU all x i k=false
 | 0=>⟨fun _ k hk=>by omega,fun _=>rfl⟩
 | n+1=>by
   rw [zBN,Bool.and_eq_true,zEp all x i n]
   constructor
   · rintro ⟨h1,h2⟩ k hk
     rcases Nat.lt_or_ge k n with h | h
     · exact h1 k h
     · obtain rfl:k=n:=by omega
       simpa using h2
   · intro h
     exact ⟨fun k hk=>h k (by omega),by rw [h n (by omega)];rfl⟩
theorem zHJ {l:List Sto.Rec} {k m:Nat} {r:Sto.Rec} (hr:l[k]?=some r) (hi:r.is=true) (hm:(zl l 0)[m]?=some ⟨r.name,r.num,r.data,k⟩) :
  zBN (zl l 0) ⟨r.name,r.num,r.data,k⟩ m (zl l 0).length=true↔Sto.best l r.name l.length=some k:=by
 have hris:=zCR l 0
 rw [zEp]
 constructor
 · intro h
   refine Sto.zDb ⟨r,(List.getElem?_eq_some_iff.1 hr).1,⟨hr,hi,rfl⟩,fun j r' hj ha=>?_⟩
   have hy:(⟨r'.name,r'.num,r'.data,j⟩:zR)∈zl l 0:=(zCQ l 0 _).2 ⟨Nat.zero_le _,r',by simpa using ha.1,ha.2.1,rfl,rfl,rfl⟩
   obtain ⟨p,hp⟩:=List.getElem?_of_mem hy
   have hw:=h p (List.getElem?_eq_some_iff.1 hp).1
   unfold zBU at hw
   rw [hp] at hw
   simp only [ha.2.2,beq_self_eq_true,Bool.true_and,Bool.or_eq_false_iff,decide_eq_false_iff_not,Bool.and_eq_false_iff] at hw
   obtain ⟨w1,w2⟩:=hw
   refine ⟨fun hjk=>?_,by omega⟩
   have:=(zH8 hris hp hm).1 hjk
   rcases w2 with w2 | w2
   · omega
   · exact absurd this w2
 · intro h p hp
   obtain ⟨r0,h1,h2,h3⟩:=(Sto.zAB l r.name l.length).1 k h
   have e0:r0=r:=by have:=h2.1;rw [hr] at this;cases this;rfl
   subst e0
   unfold zBU
   obtain ⟨y,hy⟩:∃ y,(zl l 0)[p]?=some y:=⟨_,List.getElem?_eq_getElem hp⟩
   rw [hy]
   simp only []
   by_cases hn:y.name=r0.name
   · obtain ⟨_,r',g1,g2,g3,g4,g5⟩:=(zCQ l 0 y).1 (List.mem_of_getElem? hy)
     rw [Nat.sub_zero] at g1
     have:=h3 y.slot r' (List.getElem?_eq_some_iff.1 g1).1 ⟨g1,g2,by rw [← g3];exact hn⟩
     have hlt:=zH8 hris hy hm
     simp only at hlt
     by_cases hpm:p < m
     · have:=this.1 (hlt.2 hpm)
       simp [g4]
       intro _
       exact ⟨by omega,fun e=>by omega⟩
     · simp [g4,hpm]
       intro _
       exact this.2
   · have:(y.name.toList == r0.name.toList)=false:=by
      rw [Bool.eq_false_iff]
      exact fun e=>hn (Sto.zCH.1 e)
     rw [this];rfl
theorem zHk {s:St} {k:Nat} {r:Sto.Rec} (h:(zC s k).1=0) (hr:(zC s k).2.recs[k]?=some r):zC s (k+1)=if r.is=true∧Sto.best (zC s k).2.recs r.name (zC s k).2.recs.length≠some k then ((zC s k).2.freeE k,(zC s k).2.freeS k) else zC s k:=by
 rw [zC]
 rw [if_neg (fun e=>e h),hr]
theorem ro2_on {room:Nat} {all:List zR} {D1:zA} {i:Nat} {x:zR} (h:(ro2 room all D1 i).1=true) (hx:all[i]?=some x):ro2 room all D1 (i+1)=if zBN all x i all.length=true then (true,(ro2 room all D1 i).2.1,zAf zR.name (ro2 room all D1 i).2.2 x)
  else (decide ((ro2 room all D1 i).2.1.wres ((x.slot*(room+1):Nat):Int) 0=0),(ro2 room all D1 i).2.1.wr ((x.slot*(room+1):Nat):Int) [],(ro2 room all D1 i).2.2):=by
 rw [ro2,if_neg (by rw [h];decide),hx]
structure KR (l:List Sto.Rec) (k:Nat) (K:Int × St) (R:Bool × zA × List zR):Prop where
 dd:K.2.disk.dead=false
 dead:K.2.dead=false
 thin:Sto.zAq l K.2.recs
 rest:∀ i,k≤i→K.2.recs[i]?=l[i]?
 done:∀ i r,i < k→K.2.recs[i]?=some r→r.is=true→Sto.best l r.name l.length=some i
 mem:∀ x:zR,x∈R.2.2↔x.slot < k∧∃ r,l[x.slot]?=some r∧r.is=true∧x.name=r.name∧x.num=r.num∧x.data=r.data∧Sto.best l r.name l.length=some x.slot
 sorted:R.2.2.Pairwise (fun a b=>a.name.toList < b.name.toList)
def zBE (l:List Sto.Rec) (k:Nat):Nat:=(zl (l.take k) 0).length
theorem zFy {l:List Sto.Rec} {k:Nat} {r:Sto.Rec} (hr:l[k]?=some r) (hi:r.is=false):zBE l (k+1)=zBE l k:=by
 unfold zBE
 rw [List.take_add_one,hr,zA9]
 simp [zl,hi]
theorem zHP {l:List Sto.Rec} {k:Nat} {r:Sto.Rec} (hr:l[k]?=some r) (hi:r.is=true):zBE l (k+1)=zBE l k+1∧(zl l 0)[zBE l k]?=some ⟨r.name,r.num,r.data,k⟩:=by
 have hk:=(List.getElem?_eq_some_iff.1 hr).1
 have ht:(l.take k).length=k:=by rw [List.length_take];omega
 unfold zBE
 constructor
 · rw [List.take_add_one,hr,zA9]
   simp [zl,hi]
 · have hs:l=l.take k++r::l.drop (k+1):=by
    have h1:l.drop k=r::l.drop (k+1):=by
     rw [List.drop_eq_getElem_cons hk]
     congr 1
     exact (List.getElem?_eq_some_iff.1 hr).2
    rw [← h1,List.take_append_drop]
   have e1:zl l 0=zl (l.take k) 0++⟨r.name,r.num,r.data,k⟩::zl (l.drop (k+1)) (k+1):=by
    conv=>lhs;rw [hs]
    rw [zA9,ht,Nat.zero_add,zl,if_pos hi]
   rw [e1,List.getElem?_append_right (Nat.le_refl _),Nat.sub_self]
   rfl
theorem zE8 (room:Nat) (l:List Sto.Rec) (D1:zA) (hd:D1.dead=false) (hn:D1.n=l.length*(room+1)):∀ k,k≤l.length →
  ((zC ⟨room,l,false,D1⟩ k).1=0↔(ro2 room (zl l 0) D1 (zBE l k)).1=true)∧((zC ⟨room,l,false,D1⟩ k).1=0∨(zC ⟨room,l,false,D1⟩ k).1=8)∧(zC ⟨room,l,false,D1⟩ k).2.disk=(ro2 room (zl l 0) D1 (zBE l k)).2.1∧((zC ⟨room,l,false,D1⟩ k).1=0→KR l k (zC ⟨room,l,false,D1⟩ k) (ro2 room (zl l 0) D1 (zBE l k)))
 | 0,_=>⟨⟨fun _=>rfl,fun _=>rfl⟩,.inl rfl,rfl,fun _=>⟨hd,rfl,Sto.zAq.refl _,fun _ _=>rfl,fun i r h=>absurd h (Nat.not_lt_zero _),fun x=>⟨fun h=>(by simp [zBE,zl,ro2] at h),fun h=>absurd h.1 (Nat.not_lt_zero _)⟩,by simp [zBE,zl,ro2]⟩⟩
 | k+1,hk=>by
   obtain ⟨h1,h2,h3,h4⟩:=zE8 room l D1 hd hn k (by omega)
   have hroom:=(zBf ⟨room,l,false,D1⟩ k).2
   simp only at hroom
   obtain ⟨r,hr⟩:∃ r,l[k]?=some r:=⟨_,List.getElem?_eq_getElem (by omega)⟩
   have hkl:k < l.length:=by omega
   by_cases h0:(zC ⟨room,l,false,D1⟩ k).1=0
   · have hK:=h4 h0
     have ho:=h1.1 h0
     have hrk:(zC ⟨room,l,false,D1⟩ k).2.recs[k]?=some r:=(hK.rest k (Nat.le_refl _)).trans hr
     have hstep:=zHk h0 hrk
     rw [hK.thin.best] at hstep
     cases hi:r.is with
     | false =>
       rw [if_neg (fun e=>by rw [hi] at e;exact absurd e.1 (by decide))] at hstep
       rw [hstep,zFy hr hi]
       refine ⟨h1,h2,h3,fun _=>⟨hK.dd,hK.dead,hK.thin,fun i h=>hK.rest i (by omega),fun i r' h h' h''=>?_,fun x=>?_,hK.sorted⟩⟩
       · rcases Nat.lt_or_ge i k with hlt | hge
         · exact hK.done i r' hlt h' h''
         · obtain rfl:i=k:=by omega
           rw [hrk] at h'
           cases h'
           rw [hi] at h''
           cases h''
       · rw [hK.mem x]
         constructor
         · rintro ⟨a,b⟩
           exact ⟨by omega,b⟩
         · rintro ⟨a,r',b,c,d⟩
           refine ⟨?_,r',b,c,d⟩
           rcases Nat.lt_or_ge x.slot k with hlt | hge
           · exact hlt
           · have e:x.slot=k:=by omega
             rw [e,hr] at b
             cases b
             rw [hi] at c
             cases c
     | true =>
       obtain ⟨c1,c2⟩:=zHP hr hi
       have hR:=ro2_on (room:=room) (D1:=D1) ho c2
       rw [c1]
       have hbb:=zHJ hr hi c2
       by_cases hb:Sto.best l r.name l.length=some k
       · rw [if_neg (fun e=>e.2 hb)] at hstep
         rw [if_pos (hbb.2 hb)] at hR
         rw [hstep,hR]
         refine ⟨⟨fun _=>rfl,fun _=>h0⟩,h2,h3,fun _=>⟨hK.dd,hK.dead,hK.thin,fun i h=>hK.rest i (by omega),fun i r' h h' h''=>?_,fun x=>?_,zDT hK.sorted⟩⟩
         · rcases Nat.lt_or_ge i k with hlt | hge
           · exact hK.done i r' hlt h' h''
           · obtain rfl:i=k:=by omega
             rw [hrk] at h'
             cases h'
             exact hb
         · show x∈zAf zR.name _ _↔_
           rw [zGn hK.sorted,hK.mem x]
           constructor
           · rintro (rfl | ⟨⟨a,b⟩,_⟩)
             · exact ⟨Nat.lt_succ_self _,r,hr,hi,rfl,rfl,rfl,hb⟩
             · exact ⟨by omega,b⟩
           · rintro ⟨a,r',b,c,d,e,f,g⟩
             rcases Nat.lt_or_ge x.slot k with hlt | hge
             · right
               refine ⟨⟨hlt,r',b,c,d,e,f,g⟩,fun hnm=>?_⟩
               simp only at hnm
               rw [← d,hnm,hb] at g
               injection g with g
               omega
             · left
               have ek:x.slot=k:=by omega
               rw [ek,hr] at b
               cases b
               cases x
               simp only at d e f ek
               rw [d,e,f,ek]
       · rw [if_pos ⟨hi,hb⟩] at hstep
         rw [if_neg (fun e=>hb (hbb.1 e))] at hR
         rw [hstep,hR]
         obtain ⟨K,hKe⟩:∃ K,K=(zC ⟨room,l,false,D1⟩ k):=⟨_,rfl⟩
         obtain ⟨R,hRe⟩:∃ R,R=(ro2 room (zl l 0) D1 (zBE l k)):=⟨_,rfl⟩
         have hRn:R.2.1.n=D1.n:=by rw [hRe];exact (zC6 room (zl l 0) D1 (zBE l k)).2.2.1
         rw [← hKe] at h0 hK hrk h3 hroom ⊢
         rw [← hRe] at ho h3 hK ⊢
         have hE:K.2.freeE k=R.2.1.wres ((k*(room+1):Nat):Int) 0:=by
          unfold St.freeE
          rw [h3,hroom]
          exact zEH _ _
         have hD:(K.2.freeS k).disk=R.2.1.wr ((k*(room+1):Nat):Int) []:=by
          show K.2.disk.wr _ [0]=_
          rw [zEk,h3,hroom]
         have hin:k*(room+1) < R.2.1.n:=by
          have:=zC7 (room:=room) hkl
          rw [hRn,hn];omega
         have e8:=zIW (D:=R.2.1) (n:=0) hin (by decide)
         simp only []
         refine ⟨by rw [hE,decide_eq_true_iff],by rw [hE];exact e8,hD,fun hz=>?_⟩
         have hw:R.2.1.wres ((k*(room+1):Nat):Int) 0=0:=by rw [← hE];exact hz
         have hrecs:(K.2.freeS k).recs=K.2.recs.set k Sto.Rec.free:=by
          show (if K.2.freeE k=0 then _ else _)=_
          rw [if_pos hz]
         have hth:Sto.zAq l (K.2.recs.set k Sto.Rec.free):=hK.thin.trans (Sto.zAq.step hrk hi (by rw [hK.thin.best];exact hb))
         have hkk:k < K.2.recs.length:=(List.getElem?_eq_some_iff.1 hrk).1
         refine ⟨by rw [hD];exact zIV (bs:=[]) hw (by rw [← h3];exact hK.dd),?_,by rw [hrecs];exact hth,fun i h=>?_,fun i r' h h' h''=>?_,fun x=>?_,hK.sorted⟩
         · show (K.2.dead || (K.2.freeE k != 0))=false
           rw [hK.dead,hz];rfl
         · show (K.2.freeS k).recs[i]?=_
           rw [hrecs,List.getElem?_set_ne (by omega)]
           exact hK.rest i (by omega)
         · have h':(K.2.freeS k).recs[i]?=some r':=h'
           rw [hrecs] at h'
           by_cases e:k=i
           · subst e
             rw [List.getElem?_set_self hkk] at h'
             cases h'
             cases h''
           · rw [List.getElem?_set_ne e] at h'
             exact hK.done i r' (by omega) h' h''
         · show x∈R.2.2↔_
           rw [hK.mem x]
           constructor
           · rintro ⟨a,b⟩
             exact ⟨by omega,b⟩
           · rintro ⟨a,r',b,c,d,e,f,g⟩
             refine ⟨?_,r',b,c,d,e,f,g⟩
             rcases Nat.lt_or_ge x.slot k with hlt | hge
             · exact hlt
             · have ek:x.slot=k:=by omega
               rw [ek] at g b
               rw [hr] at b
               cases b
               exact absurd g hb
   · have ho:(ro2 room (zl l 0) D1 (zBE l k)).1=false:=by
      rw [Bool.eq_false_iff]
      exact fun e=>h0 (h1.2 e)
     have hle:zBE l k≤zBE l (k+1):=by
      cases hi:r.is with
      | false=>rw [zFy hr hi];exact Nat.le_refl _
      | true=>rw [(zHP hr hi).1];exact Nat.le_succ _
     rw [zH9 room _ D1 hle ho,zCK _ h0 1]
     exact ⟨h1,h2,h3,fun e=>absurd e h0⟩
theorem zKN (D:zA) (slots room:Nat) (hn:D.n=slots*(room+1)) (hs:1≤slots) :
  (zAV D slots room).1=(zu D slots room).1∧(zAV D slots room).2.1=(zu D slots room).2.1 ∧
  (((zu D slots room).1=0∧∃ s:St,(zu D slots room).2.2=some s∧zAW s.recs (zAV D slots room).2.2∧s.dead=false∧s.room=room∧s.recs.length=slots∧s.disk=(zu D slots room).2.1∧s.disk.dead=false)∨((zu D slots room).1=8∧(zu D slots room).2.2=none)):=by
 by_cases hd:D.dead=true
 · rw [zKM hd hs]
   unfold zAV
   rw [if_pos hd]
   exact ⟨rfl,rfl,.inr ⟨rfl,rfl⟩⟩
 · have hd:D.dead=false:=by simpa using hd
   obtain ⟨h1,h2,h3,h4,h5⟩:=zE7 D room hd hn slots (Nat.le_refl _)
   unfold zAV zu
   rw [if_neg (by rw [hd];decide)]
   by_cases h0:(readAll room D slots).2.1=0
   · have hl:=zBZ room D slots h0
     have hd1:=h5 h0
     rw [if_neg (show ¬ ((ro1 D room slots).1=false) from by rw [h1.1 h0];decide)]
     simp only []
     rw [if_neg (show ¬ ((readAll room D slots).2.1≠0) from fun e=>e h0),← h4,← h3]
     have hn1:(readAll room D slots).2.2.n=(readAll room D slots).1.length*(room+1):=by rw [zBm,hl];exact hn
     have hc:zBE (readAll room D slots).1 slots=(zl (readAll room D slots).1 0).length:=by
      unfold zBE
      rw [List.take_of_length_le (by omega)]
     obtain ⟨g1,g2,g3,g4⟩:=zE8 room (readAll room D slots).1 (readAll room D slots).2.2 hd1 hn1 slots (by omega)
     rw [hc] at g1 g3 g4
     have hlen:=zBf ⟨room,(readAll room D slots).1,false,(readAll room D slots).2.2⟩ slots
     simp only at hlen
     by_cases hk:(zC ⟨room,(readAll room D slots).1,false,(readAll room D slots).2.2⟩ slots).1=0
     · have hK:=g4 hk
       rw [if_neg (show ¬ (_=false) from by rw [g1.1 hk];decide),if_neg (fun e=>e hk)]
       refine ⟨rfl,g3.symm,.inl ⟨rfl,_,rfl,⟨Sto.zDx fun i r hi his=>?_,fun x=>?_,hK.sorted⟩,hK.dead,hlen.2,hlen.1.trans hl,rfl,hK.dd⟩⟩
       · rw [hK.thin.best]
         exact hK.done i r (by have:=(List.getElem?_eq_some_iff.1 hi).1;rw [hlen.1,hl] at this;exact this) hi his
       · show x∈(ro2 _ _ _ _).2.2↔_
         rw [hK.mem x]
         constructor
         · rintro ⟨a,r,b,c,d,e,f,g⟩
           exact ⟨r,(hK.thin.get g).trans b,c,d,e,f⟩
         · rintro ⟨r,b,c,d,e,f⟩
           have hlt:=(List.getElem?_eq_some_iff.1 b).1
           rw [hlen.1,hl] at hlt
           exact ⟨hlt,r,(hK.thin.back ⟨b,c,rfl⟩).1,c,d,e,f,hK.done _ _ hlt b c⟩
     · have ho:(ro2 room (zl (readAll room D slots).1 0) (readAll room D slots).2.2 (zl (readAll room D slots).1 0).length).1=false:=by
        rw [Bool.eq_false_iff]
        exact fun e=>hk (g1.2 e)
       rw [if_pos ho,if_pos hk]
       exact ⟨(g2.resolve_left hk).symm,g3.symm,.inr ⟨g2.resolve_left hk,rfl⟩⟩
   · have ho:(ro1 D room slots).1=false:=by
      rw [Bool.eq_false_iff]
      exact fun e=>h0 (h1.2 e)
     rw [if_pos ho]
     simp only []
     rw [if_pos h0]
     exact ⟨(h2.resolve_left h0).symm,h3.symm,.inr ⟨h2.resolve_left h0,rfl⟩⟩
end Go.Mem
end
section
namespace Go.Mem
open Go Go.RowKit Gf Go.Proofs.YtdlkghdfkjdajaaGreatDoor
set_option linter.unusedVariables false
theorem zIH:∀ (n:Nat) (l:List Nat),l.Nodup→(∀ x∈l,x < n)→l.length≤n
 | 0,l,_,h=>by
   cases l with
   | nil=>exact Nat.le_refl _
   | cons x l=>exact absurd (h x (by simp)) (Nat.not_lt_zero _)
 | n+1,l,hn,h=>by
   have h1:=zIH n (l.erase n) (hn.erase n) (fun x hx=>by
    have h2:=(hn.mem_erase_iff).1 hx
    have h3:=h x h2.2
    have h4:=h2.1
    omega)
   have h2:=List.le_length_erase (a:=n) (l:=l)
   omega
section
variable {l:List Sto.Rec} {L:List zR}
theorem zAW.lt (h:zAW l L) {x:zR} (hx:x∈L):x.slot < l.length:=by
 obtain ⟨r,h1,_⟩:=(h.mem x).1 hx
 exact (List.getElem?_eq_some_iff.1 h1).1
theorem zAW.len_le (h:zAW l L):L.length≤l.length:=by
 have h1:(L.map (·.slot)).Nodup:=by
  unfold List.Nodup
  rw [List.pairwise_map,List.pairwise_iff_getElem]
  intro i j hi hj hij e
  have hs:=List.pairwise_iff_getElem.1 h.sorted i j hi hj hij
  obtain ⟨r,a1,a2,a3,_⟩:=(h.mem L[i]).1 (List.getElem_mem hi)
  obtain ⟨r',b1,b2,b3,_⟩:=(h.mem L[j]).1 (List.getElem_mem hj)
  rw [e,b1] at a1
  cases a1
  rw [a3,b3] at hs
  exact List.lt_irrefl _ hs
 have h2:=zIH l.length (L.map (·.slot)) h1 (fun x hx=>by
  obtain ⟨y,hy,rfl⟩:=List.mem_map.1 hx
  exact h.lt hy)
 rw [List.length_map] at h2
 exact h2
theorem zAW.put_any (h:zAW l L) {name:ByteArray} {sl:Nat} (hs:zAJ L l.length l.length=some sl) (num:Nat) (data:List UInt8):∃ l':List Sto.Rec,l'.length=l.length∧zAW l' (zAf zR.name L ⟨name,num,data,sl⟩):=by
 rw [h.free] at hs
 by_cases hf:Sto.slot l=l.length
 · rw [if_pos hf] at hs
   cases hs
 · rw [if_neg hf] at hs
   injection hs with hs
   subst hs
   have hlt:=zC9 hf
   cases hb:Sto.best l name l.length with
   | none=>exact ⟨_,List.length_set,h.put_new hb hlt num data⟩
   | some k=>exact ⟨_,by rw [List.length_set,List.length_set],h.put_old hb hlt num data⟩
theorem zAW.rget (h:zAW l L) (name:ByteArray):zAc L false name=(Sto.best l name l.length).map fun k=>(l.getD k Sto.Rec.free).data:=by
 unfold zAc
 rw [if_neg (by decide)]
 cases hf:zAr L name L.length with
 | none =>
   rw [h.find_none hf]
   rfl
 | some i =>
   obtain ⟨x,r,hx,h1,h2,_,_,e,_,hb⟩:=h.find_some hf
   rw [hb]
   simp only [hx,Option.map_some]
   rw [List.getD_eq_getElem?_getD,h1,e]
   rfl
end
theorem zJi {L:List zR} {m:Nat} (h:∀ x∈L,x.num≤m) (name:ByteArray):zBa L name≤m+1:=by
 unfold zBa
 split
 · omega
 · rename_i i hi
   obtain ⟨_,x,hx,_⟩:=zCt hi
   rw [hx]
   have:=h x (List.mem_of_getElem? hx)
   show x.num+1≤_
   omega
theorem zJm (slots room:Nat) (D:zA) (L:List zR) (died:Bool) (name:ByteArray) (data:List UInt8):(zAX slots room D L died name data).2.2.1=L∨∃ sl,zAJ L slots slots=some sl∧(zAX slots room D L died name data).2.2.1=zAf zR.name L ⟨name,zBa L name,data,sl⟩:=by
 unfold zAX
 split
 · exact .inl rfl
 · split
   · exact .inl rfl
   · split
     · exact .inl rfl
     · rename_i sl hsl
       split
       · exact .inl rfl
       · split
         · exact .inl rfl
         · split
           · exact .inr ⟨sl,hsl,rfl⟩
           · split
             · exact .inl rfl
             · exact .inr ⟨sl,hsl,rfl⟩
theorem zGo (s:St) (name:ByteArray) (data:List UInt8):(zk s name data).2.recs.length=s.recs.length:=by
 unfold zk
 split
 · rfl
 · split
   · rfl
   · split
     · rfl
     · have c2:=(zCk (Sto.slot s.recs*(s.room+1)) s.room s 0 (Sto.text name (s.num name) data)).2.1
       generalize St.chunks (Sto.slot s.recs*(s.room+1)) s.room s 0 (Sto.text name (s.num name) data)=C at c2 ⊢
       obtain ⟨e,s1⟩:=C
       simp only at c2 ⊢
       split
       · rw [c2]
       · split
         · show s1.recs.length=_
           rw [c2]
         · have h1:((s1.writeS (Sto.slot s.recs*(s.room+1)) [1]).laid (Sto.slot s.recs) ⟨true,name,s.num name,data⟩).recs.length=s.recs.length:=by
            show (s1.recs.set _ _).length=_
            rw [List.length_set,c2]
           unfold St.done
           split
           · exact h1
           · exact (zD7 _ _).1.trans h1
structure Dup (m slots:Nat) (s:St) (L:List zR):Prop where
 len:s.recs.length=slots
 same:∃ l:List Sto.Rec,l.length=slots∧zAW l L∧(s.dead=false→l=s.recs)
 num:∀ x∈L,x.num≤m
 wr:s.disk.writes≤2000*m
section
variable {m slots:Nat} {s:St} {L:List zR}
theorem Dup.alive (h:Dup m slots s L) (hd:s.dead=false):zAW s.recs L:=by
 obtain ⟨l,_,h1,h2⟩:=h.same
 rw [h2 hd] at h1
 exact h1
theorem Dup.get (h:Dup m slots s L) (name:ByteArray):s.get name=zAc L s.dead name:=by
 unfold St.get
 cases hd:s.dead with
 | true=>rfl
 | false=>exact ((h.alive hd).rget name).symm
theorem Dup.put_len (h:Dup m slots s L) (name:ByteArray) (data:List UInt8) (sl:Nat) (hs:zAJ L slots slots=some sl):(zAf zR.name L ⟨name,zBa L name,data,sl⟩).length≤slots:=by
 obtain ⟨l,h0,h1,_⟩:=h.same
 rw [← h0] at hs ⊢
 obtain ⟨l',e,h2⟩:=h1.put_any (name:=name) hs (zBa L name) data
 rw [← e]
 exact h2.len_le
theorem Dup.put (h:Dup m slots s L) (hok:s.Ok) (hr:s.room≤1000) (name:ByteArray) (data:List UInt8) :
  (zAX slots s.room s.disk L s.dead name data).1=(zk s name data).1∧(zAX slots s.room s.disk L s.dead name data).2.1=(zk s name data).2.disk∧(zAX slots s.room s.disk L s.dead name data).2.2.2=(zk s name data).2.dead∧(zk s name data).2.room=s.room∧Dup (m+1) slots (zk s name data).2 (zAX slots s.room s.disk L s.dead name data).2.2.1:=by
 have hw:=zDU s name data
 have hnum:∀ x∈(zAX slots s.room s.disk L s.dead name data).2.2.1,x.num≤m+1:=fun x hx=>by
  rcases zJm slots s.room s.disk L s.dead name data with e | ⟨sl,hsl,e⟩
  · rw [e] at hx
    have:=h.num x hx
    omega
  · rw [e] at hx
    rcases zFI _ _ _ x hx with hx | rfl
    · have:=h.num x hx
      omega
    · exact zJi h.num name
 cases hd:s.dead with
 | true =>
   rw [hd] at hnum
   have e1:zk s name data=(8,s):=by unfold zk;rw [if_pos hd]
   have e2:zAX slots s.room s.disk L true name data=(8,s.disk,L,true):=by unfold zAX;rw [if_pos rfl]
   rw [e1,e2]
   exact ⟨rfl,rfl,hd.symm,rfl,h.len,h.same,fun x hx=>by have:=h.num x hx;omega,by have:=h.wr;show s.disk.writes≤_;omega⟩
 | false =>
   rw [hd] at hnum
   have hB:=zLP (h.alive hd) hd hok.size name data
   rw [h.len] at hB
   have hlen:(zk s name data).2.recs.length=slots:=(zGo s name data).trans h.len
   refine ⟨hB.err,hB.disk,hB.dead,hB.room,hlen,?_,hnum,by have:=h.wr;omega⟩
   cases hd':(zk s name data).2.dead with
   | false=>exact ⟨_,hlen,hB.recs hd',fun _=>rfl⟩
   | true =>
     rcases zJm slots s.room s.disk L false name data with e | ⟨sl,hsl,e⟩
     · rw [e]
       obtain ⟨l,h0,h1,_⟩:=h.same
       exact ⟨l,h0,h1,fun e=>by cases e⟩
     · rw [e]
       obtain ⟨l,h0,h1,_⟩:=h.same
       rw [← h0] at hsl
       obtain ⟨l',e',h2⟩:=h1.put_any (name:=name) hsl (zBa L name) data
       exact ⟨l',e'.trans h0,h2,fun e=>by cases e⟩
theorem Dup.redisk (h:Dup m slots s L) (D:zA) (hD:D.writes=s.disk.writes):Dup m slots { s with disk:=D } L :=
 ⟨h.len,h.same,h.num,by show D.writes≤_;rw [hD];exact h.wr⟩
theorem Dup.mono (h:Dup m slots s L) {m':Nat} (hm:m≤m'):Dup m' slots s L :=
 ⟨h.len,h.same,fun x hx=>Nat.le_trans (h.num x hx) hm,by have:=h.wr;omega⟩
end
theorem zIw (s:St):∀ k,(zC s k).2.disk.n=s.disk.n
 | 0=>rfl
 | k+1=>by
   have ih:=zIw s k
   rw [zC]
   by_cases h0:(zC s k).1=0
   · simp only [h0,ne_eq,not_true_eq_false,if_false]
     split
     · exact ih
     · split
       · exact (zA.wr_n _ _ _).trans ih
       · exact ih
   · simp only [ne_eq,h0,not_false_eq_true,if_true]
     exact ih
theorem zKT {b:List UInt8} {y:Sto.Rec} (hy:Sto.parse b=some y):y.num < 4294967296:=by
 rw [zCP] at hy
 split at hy
 · cases hy
 · rename_i x0 r0 h0
   split at hy
   · cases hy
   · rename_i x1 r1 h1
     split at hy
     · rename_i h4
       split at hy
       · cases hy
       · rename_i x2 r2 h2
         injection hy with hy
         subst hy
         show Cod.zAh x1 < _
         have:=Cod.zDd x1 0
         rw [h4] at this
         unfold Cod.zAh
         omega
     · cases hy
theorem zJk (D0:zA) (room:Nat):∀ i,∀ x∈(ro1 D0 room i).2.2,x.num < 4294967296
 | 0,x,h=>by cases h
 | i+1,x,h=>by
   have ih:=zJk D0 room i
   rw [ro1] at h
   split at h
   · exact ih x h
   · split at h
     · exact ih x h
     · split at h
       · rename_i y hy
         rcases List.mem_append.1 h with h | h
         · exact ih x h
         · rw [List.mem_singleton.1 h]
           exact zKT hy
       · exact ih x h
theorem zKb (D:zA) (slots room:Nat):∀ x∈(zAV D slots room).2.2,x.num < 4294967296:=by
 intro x hx
 unfold zAV at hx
 split at hx
 · cases hx
 · split at hx
   · cases hx
   · split at hx
     · cases hx
     · exact zJk D room slots x ((zC6 room _ _ _).2.1 x hx)
theorem zLG {m:Nat} (D:zA) (slots room:Nat) (hn:D.n=slots*(room+1)) (hs:1≤slots) (hs2:slots≤500) (hm:4294967296≤m) (hw:D.writes≤2000*m) :
  (zAV D slots room).1=(zu D slots room).1∧(zAV D slots room).2.1=(zu D slots room).2.1∧(zu D slots room).2.1.n=D.n∧(zu D slots room).2.1.writes≤2000*(m+1) ∧
  (((zu D slots room).1=0∧∃ s:St,(zu D slots room).2.2=some s∧Dup (m+1) slots s (zAV D slots room).2.2∧s.dead=false∧s.room=room∧s.disk=(zu D slots room).2.1)∨((zu D slots room).1=8∧(zu D slots room).2.2=none)):=by
 obtain ⟨h1,h2,h3⟩:=zKN D slots room hn hs
 have hww:=zEM D slots room
 have hnn:(zu D slots room).2.1.n=D.n:=by
  unfold zu
  simp only []
  split
  · exact zBm room D slots
  · split
    · exact (zIw _ _).trans (zBm room D slots)
    · exact (zIw _ _).trans (zBm room D slots)
 refine ⟨h1,h2,hnn,by omega,?_⟩
 rcases h3 with ⟨h0,s,a1,a2,a3,a4,a5,a6,_⟩ | h3
 · refine .inl ⟨h0,s,a1,⟨a5,⟨s.recs,a5,a2,fun _=>rfl⟩,fun x hx=>?_,by rw [a6];omega⟩,a3,a4,a6⟩
   have:=zKb D slots room x hx
   omega
 · exact .inr h3
end Go.Mem
end
