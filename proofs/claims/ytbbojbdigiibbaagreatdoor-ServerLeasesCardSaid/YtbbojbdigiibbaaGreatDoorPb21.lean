/- Texts of this proof,packed: LeaEnded,SrvTickM,SrvTick,SrvTickL. -/
import Derived.Test.YtbbojbdigiibbaaGreatDoorPb13
import Derived.Test.YtbbojbdigiibbaaGreatDoorPb20
import Derived.Test.YtbbojbdigiibbaaGreatDoorPb15
section
namespace Go.Proofs.YtbbojbdigiibbaaGreatDoor
open Go Go.RowKit Go.Mem Gf Lea
structure Gone (l0:List Les) (now:Int) (l:List Les) (P:List Les):Prop where
 perm:(P++l).Perm l0
 ended:∀ x∈P,x.e≤now
theorem zMd (l:List Les) (now:Int):Gone l now l []:=⟨List.Perm.refl _,fun _ h=>by cases h⟩
theorem zMc {l0 l l' P:List Les} {now:Int} {x:Les} (h:Gone l0 now l P) (hx:(x::l').Perm l) (he:x.e≤now):Gone l0 now l' (P++[x]):=by
 refine ⟨?_,fun y hy=>?_⟩
 · rw [List.append_assoc]
   exact (hx.append_left P).trans h.perm
 · rcases List.mem_append.1 hy with hy | hy
   · exact h.ended y hy
   · rw [List.mem_singleton.1 hy];exact he
theorem zNu {l0 l P:List Les} {now:Int} {R:List Key} (h:Gone l0 now l P) (hl:∀ x∈l,now < x.e) (hb:zD8 l (P.map (·.ix)) (P.map (·.ix)).length R):zGr l0 now l R:=by
 have hp:l.Perm (left l0 now):=by
  have h1:(left (P++l) now).Perm (left l0 now):=h.perm.filter _
  have h2:left (P++l) now=l:=by
   unfold left
   rw [List.filter_append,List.filter_eq_nil_iff.2 (fun x hx=>by have:=h.ended x hx;simp;omega),List.nil_append,List.filter_eq_self.2 (fun x hx=>by simpa using hl x hx)]
  rw [h2] at h1
  exact h1
 refine ⟨hp,hb.up,fun k=>?_⟩
 rw [hb.mem,List.take_of_length_le (Nat.le_refl _)]
 constructor
 · rintro ⟨h1,h2⟩
   obtain ⟨x,hx,e⟩:=List.mem_map.1 h1
   exact ⟨⟨x,h.perm.mem_iff.1 (List.mem_append_left _ hx),e,h.ended x hx⟩,h2⟩
 · rintro ⟨⟨x,hx,e,he⟩,h2⟩
   refine ⟨?_,h2⟩
   rcases List.mem_append.1 (h.perm.mem_iff.2 hx) with hm | hm
   · exact List.mem_map.2 ⟨x,hm,e⟩
   · have:=hl x hm;omega
theorem zO7 {l0 l P:List Les} {now:Int} (h:Gone l0 now l P) (ix:Key) (h8:(ofL l0 ix).length≤12):(ofL l ix).length≤12:=by
 have h1:=(zBl h.perm ix).length_eq
 rw [zEi,List.length_append] at h1
 omega
def sLen:Value→Nat
 | .slice _ n _=>n
 | _=>0
attribute [local go_sem ↓] Go.wp_at_zero Go.wp_at_succ
attribute [local go_sem ↓] zAN zBb zBI zB2 zCr
attribute [local go_sem] ptrB_eq ptrO_eq ptrIs_eq aggL_eq aggIs_eq zT zg zC zG zZ ze zX zH zK zGm
set_option maxRecDepth 100000 in
set_option maxHeartbeats 1000000 in
theorem zJl (w:World) (tb:Nat) (v:Value) (l:List Les) (now:Int) (h:Heap w tb v l) (hl:l.length≤90000) (h8:∀ ix,(ofL l ix).length≤12) :
  Calls Tryz.prog 60 #[.pointer (some ⟨tb,0,none⟩),.int .i64 now] w fun r w'=>∃ vo R v' l',r=.returned vo∧zAb bV WfK 16 39 w' w.heap.size vo R∧zGr l now l' R∧Heap w' tb v' l'∧zAr tb v v' w w':=by
 have H:=Zh (Zi h h8)
 clear h h8
 go_enter Tryz.func60,Tryz.ntmps60
 go_upto_region 2 with fail
 go_loopw [5] (fun v5 wr=>∃ (vt:Value) (lt P:List Les),P.length+lt.length=l.length∧Hid (Heap wr tb vt lt∧zAr tb v vt w wr∧Gone l now lt P∧zAb bV WfK 16 39 wr w.heap.size v5 (P.map (·.ix))∧(∀ g,v5.ownBlock=some g→g≠tb∧vt.ownBlock≠some g))) (fun v5 _=>l.length - sLen v5)
 case atStart=>exact ⟨v,l,[],by simp,H.o.1,zAr.same (Below.refl _ _),zMd _ _,zAb.nil _ _ _ _ _ _,fun g hg=>by cases hg⟩
 case round =>
  obtain ⟨vt,lt,P,hlen,G⟩:=hrel
  obtain ⟨a5,c5,e5⟩:=G.o.2.2.2.1.slice
  rw [List.length_map] at e5
  have hbare:(∀ x∈lt,now < x.e)→Calls Tryz.prog 105 #[.pointer (some ⟨tb,0,none⟩),u5] wr (fun r w'=>∃ vo R v' l',r=.returned vo∧zAb bV WfK 16 39 w' w.heap.size vo R∧zGr l now l' R∧Heap w' tb v' l'∧zAr tb v v' w w'):=fun hlt=>by
   have hO:=G.o.2.2.2.1
   have hsep:=G.o.2.2.2.2
   rw [e5] at hO hsep ⊢
   refine (zK2 wr tb vt lt w.heap.size a5 _ c5 (P.map (·.ix)) G.o.1.tab (by omega) (fun ix=>zO7 G.o.2.2.1 ix (H.o.2 ix)) hO (by rw [List.length_map];omega) hsep).mono ?_
   rintro r w' ⟨vo,R,rfl,h1,h2,h3⟩
   exact ⟨vo,R,vt,lt,rfl,h1.lower G.o.2.1.1.size,zNu G.o.2.2.1 hlt h2,⟨G.o.1.tab.chg h3 (fun e=>(hsep _ e).1 rfl) (fun g hg e=>(hsep g e).2 hg),G.o.1.heap⟩,⟨G.o.2.1.1.mix h3 (fun k hk=>.inr (hO.ge hk)),G.o.2.1.2⟩⟩
  have HBARE:=Zh hbare
  clear hbare
  obtain ⟨at0,ct0,hvt,hgt⟩:=zAG G.o.1.tab.own
  have hcell:wr.cell? ⟨tb,0,none⟩=some vt:=by simpa using G.o.1.tab.cell.cell 0
  obtain ⟨n,hn⟩:∃ n,n=lt.length:=⟨_,rfl⟩
  rw [hvt,← hn] at hcell
  have HV:=Zh (Zi hvt (Zi hgt (Zi e5 hn)))
  clear hvt hgt e5
  by_cases h0:n=0
  · have d0:decide ((0:Int) < (n:Int))=false:=by simp;omega
    have d0':decide (0 < n)=false:=by simp;omega
    have hnil:lt=[]:=List.eq_nil_of_length_eq_zero (by omega)
    have HN:=Zh hnil
    replace h0:=Zh h0
    clear hn hnil
    go_wp2_with fail
    refine (HBARE.o (by rw [HN.o];intro _ h;cases h)).mono ?_
    rintro r w2 ⟨vo,R,v',l',rfl,f1,f2,f3,f4⟩
    have HF:=Zh (Zi f1 (Zi f2 (Zi f3 f4)))
    clear f1 f2 f3 f4
    go_wp2_with fail
    go_ret
    exact ⟨vo,R,v',l',rfl,HF.o.1,HF.o.2.1,HF.o.2.2.1,HF.o.2.2.2⟩
  · have d0:decide ((0:Int) < (n:Int))=true:=by simp;omega
    have d0':decide (0 < n)=true:=by simp;omega
    have i0:(0:Int) < (n:Int):=by omega
    obtain ⟨g,ea⟩:=HV.o.2.1 (by omega)
    subst ea
    obtain ⟨g',cap',e',hrow⟩:=G.o.1.tab.ex (by omega)
    have hx:lt[0]?=some (lt[0]'(by omega)):=by simp
    generalize lt[0]'(by omega)=x at hx
    have qe:=hrow.ends hx
    rw [HV.o.1] at e'
    injection e' with e1 _ _
    injection e1 with e1
    injection e1 with e1
    rw [← e1,Nat.zero_mul,Nat.zero_add] at qe
    have wx:=hrow.wf x (List.mem_of_getElem? hx)
    have HX:=Zh hx
    clear hx hrow e1
    by_cases hle:x.e≤now
    · have d1:decide (x.e≤now)=true:=by simpa using hle
      replace hle:=Zh hle
      have ax:=zBq wx
      have lx:=zAR wx
      have k1:=(zGo wx).1
      have wk:WfK x.ix:=wx.1
      have ak:zAP 16 (bV x.ix):=⟨(zAS wx.1).2,zAJ x.ix⟩
      obtain ⟨cx,hcx⟩:∃ c,c=zq x:=⟨_,rfl⟩
      have hpop:=zLM wr tb vt lt x G.o.1 HX.o (by omega)
      rw [← hcx] at ax lx k1 hpop
      have HPOP:=Zh hpop
      replace hn:=Zh hn
      clear hcx hpop h0
      go_wp2_with
       (first
        | (refine (HPOP.o).mono ?_
           rintro r w3 ⟨rfl,v3,l3,hh3,hp3,hc3⟩
           have HO3:=Zh (G.o.2.2.2.1.chg hc3.1 (fun q hq hS=>by
            rcases hS with hS | hS
            · exact (G.o.2.2.2.2 q hq).1 hS
            · exact (G.o.2.2.2.2 q hq).2 hS))
           have H3:=Zh (Zi hh3 (Zi hp3 hc3))
           have hz3:w.heap.size≤w3.heap.size:=Nat.le_trans G.o.2.1.1.size hc3.1.size
           clear hh3 hp3 hc3)
        | (refine zBW EKk ecK (by rfl) _ _ (by rfl) (base:=w.heap.size) (l:=P.map (·.ix)) (cx:=1) (e':=39) x.ix wk (by rfl) (by rfl) (Blk.new_at _ _ _ _ (by simp)) (HO3.o.chg (S:=fun _=>False) (Chg.of_below (((Below.refl _ _).alloc (Nat.le_refl _) _).alloc (by simp) _)) (fun _ _ h=>h)) (by simp;omega) (by decide) (by simp;omega) ?_
           intro v1 x1 hv1 hg1 hs1
           have HV1:=Zh hv1;have HG1:=Zh hg1;have HS1:=Zh hs1
           clear hv1 hg1 hs1)
        | fail)
      have hpl:P.length+1+l3.length=l.length:=by
       have:=H3.o.2.1.length_eq
       rw [List.length_cons] at this
       omega
      have hzW:w3.heap.size≤((w3.alloc (.cells cx.toArray 175)).alloc (.cells (bV x.ix).toArray 39)).heap.size:=by simp;omega
      have hBW:Below w3.heap.size w3 ((w3.alloc (.cells cx.toArray 175)).alloc (.cells (bV x.ix).toArray 39)):=((Below.refl _ _).alloc (Nat.le_refl _) _).alloc (by simp) _
      have hCW:Chg (fun q=>u5.ownBlock=some q) w3 x1:=Chg.grown (Chg.of_below hBW) HG1.o (fun q hq=>.inl hq)
      have hsep3:∀ q,u5.ownBlock=some q→q≠tb∧v3.ownBlock≠some q:=fun q hq=>⟨(G.o.2.2.2.2 q hq).1,fun e=>by
       rcases H3.o.2.2.2 q e with e1 | e1
       · exact (G.o.2.2.2.2 q hq).2 e1
       · have:=G.o.2.2.2.1.own.lt _ hq
         omega⟩
      refine ⟨⟨v3,l3,P++[x],by simp;omega,⟨H3.o.1.tab.chg hCW (fun e=>(hsep3 _ e).1 rfl) (fun q hq e=>(hsep3 q e).2 hq),H3.o.1.heap⟩,?_,zMc G.o.2.2.1 H3.o.2.1 hle.o,by rw [List.map_append];exact HV1.o,fun q hq=>?_⟩,?_⟩
      · have hc:=G.o.2.1.trans H3.o.2.2
        exact ⟨hc.1.mix hCW (fun k hk=>.inr (G.o.2.2.2.1.ge hk)),hc.2⟩
      · rcases HS1.o q hq with e1 | e1
        · exact hsep3 q e1
        · have h1:=H3.o.1.tab.cell.lt
          refine ⟨by omega,fun e=>?_⟩
          have:=H3.o.1.tab.own.lt _ e
          omega
      · obtain ⟨a1,c1,e1⟩:=HV1.o.slice
        rw [e1,HV.o.2.2.1]
        have:=hn.o
        have:=i0
        simp [sLen]
        omega
    · have d1:decide (x.e≤now)=false:=by simpa using hle
      replace hle:=Zh hle
      replace hn:=Zh hn
      replace h0:=Zh h0
      go_wp2_with fail
      refine (HBARE.o (fun y hy=>by
       obtain ⟨j,hj⟩:=List.mem_iff_getElem?.1 hy
       have:=zNJ G.o.1.heap (Nat.le_refl _) HX.o j (zh hj) y hj
       have:=hle.o
       omega)).mono ?_
      rintro r w2 ⟨vo,R,v',l',rfl,f1,f2,f3,f4⟩
      have HF:=Zh (Zi f1 (Zi f2 (Zi f3 f4)))
      clear f1 f2 f3 f4
      go_wp2_with fail
      go_ret
      exact ⟨vo,R,v',l',rfl,HF.o.1,HF.o.2.1,HF.o.2.2.1,HF.o.2.2.2⟩
end Go.Proofs.YtbbojbdigiibbaaGreatDoor
end
section
namespace Go.Mem
open Go Go.RowKit Gf Lea Go.Proofs.YtbbojbdigiibbaaGreatDoor
set_option linter.unusedVariables false
def zL:List Key→zF→List Key × Int × zF
 | [],s=>([],0,s)
 | ix::l,s =>
   if (zx (swN s ix) s.st false).2.1=0 then
    ((if (zx (swN s ix) s.st false).1=true then [ix] else [])++(zL l { s with st:=(zx (swN s ix) s.st false).2.2 }).1,(zL l { s with st:=(zx (swN s ix) s.st false).2.2 }).2)
   else (if (zx (swN s ix) s.st false).1=true then [ix] else [],(zx (swN s ix) s.st false).2.1,{ s with st:=(zx (swN s ix) s.st false).2.2 })
def zAL (pk:Key→List UInt8):List Key→zF→Bool × zF
 | [],s=>(false,s)
 | ix::l,s =>
   if s.st.get (zD ix)=some (pk ix) then zAL pk l s else
   if (zU s.st (zD ix) (pk ix)).1=8 then (true,{ s with st:=(zU s.st (zD ix) (pk ix)).2 }) else zAL pk l { s with st:=(zU s.st (zD ix) (pk ix)).2 }
def zFP (out:List Key) (q:List Key × Int × zF):List Key × Int × zF:=(out++q.1,q.2)
theorem zDI {x:Key} {l:List Key} {si:zF} {told:Bool} {st':St} (h:zx (swN si x) si.st false=(told,0,st')) (o:List Key):zFP o (zL (x::l) si)=zFP (o++if told=true then [x] else []) (zL l { si with st:=st' }):=by
 rw [zL,h]
 unfold zFP
 simp
theorem zCk {x:Key} {l:List Key} {si:zF} {told:Bool} {err:Int} {st':St} (h:zx (swN si x) si.st false=(told,err,st')) (he:err≠0) (o:List Key):zFP o (zL (x::l) si)=(o++if told=true then [x] else [],err,{ si with st:=st' }):=by
 rw [zL,h]
 unfold zFP
 simp [he]
theorem zFZ {pk:Key→List UInt8} {x:Key} {l:List Key} {s:zF} (h:s.st.get (zD x)=some (pk x)):zAL pk (x::l) s=zAL pk l s:=by rw [zAL,if_pos h]
theorem zDE {pk:Key→List UInt8} {x:Key} {l:List Key} {s:zF} (h:s.st.get (zD x)≠some (pk x)) (h8:(zU s.st (zD x) (pk x)).1≠8):zAL pk (x::l) s=zAL pk l { s with st:=(zU s.st (zD x) (pk x)).2 }:=by rw [zAL,if_neg h,if_neg h8]
theorem zFa {pk:Key→List UInt8} {x:Key} {l:List Key} {s:zF} (h:s.st.get (zD x)≠some (pk x)) (h8:(zU s.st (zD x) (pk x)).1=8):zAL pk (x::l) s=(true,{ s with st:=(zU s.st (zD x) (pk x)).2 }):=by rw [zAL,if_neg h,if_pos h8]
theorem zF4 {t:List Les} {R:List Key} {x:Key} (h:x∈zBJ t R):x∈R∧ofL t x≠[]:=by
 unfold zBJ at h
 have:=List.mem_filter.1 h
 exact ⟨this.1,by simpa using this.2⟩
theorem zC0 {l l1:List Les} {now:Int} {R:List Key} (h:zGr l now l1 R):(∀ x∈l1,x∈l)∧l1.length≤l.length:=by
 refine ⟨fun x hx=>List.filter_sublist.subset (h.perm.mem_iff.1 hx),?_⟩
 rw [h.perm.length_eq]
 exact List.length_filter_le _ _
theorem zJo {p:Key→Bool} {L:List Key} {k:Nat} {x:Key} (h:L[k]?=some x):(L.drop k).filter p=(if p x=true then [x] else [])++(L.drop (k+1)).filter p:=by
 have hi:=(List.getElem?_eq_some_iff.1 h).1
 rw [List.drop_eq_getElem_cons hi]
 rw [List.getElem?_eq_getElem hi] at h
 cases h
 rw [List.filter_cons]
 split <;> rfl
def zNM (s:zF) (now:Int) (out:List Key) (s':zF):Prop :=
 ∃ l1 R,zGr s.tab now l1 R ∧
   (((zL R { s with tab:=l1 }).2.1≠0∧out=(zL R { s with tab:=l1 }).1∧s'=(zL R { s with tab:=l1 }).2.2) ∨
    ((zL R { s with tab:=l1 }).2.1=0∧∃ I pk,zId (zL R { s with tab:=l1 }).2.2.st I∧(∀ ix∈zBJ l1 I,∃ o,OfR l1 ix o∧pk ix=zf o) ∧
      (((zAL pk (zBJ l1 I) (zL R { s with tab:=l1 }).2.2).1=true∧out=(zL R { s with tab:=l1 }).1∧s'=(zAL pk (zBJ l1 I) (zL R { s with tab:=l1 }).2.2).2) ∨
       ((zAL pk (zBJ l1 I) (zL R { s with tab:=l1 }).2.2).1=false∧∃ I2,zId (zAL pk (zBJ l1 I) (zL R { s with tab:=l1 }).2.2).2.st I2 ∧
         out=(zL R { s with tab:=l1 }).1++(zL (I2.filter fun ix=>decide (ofL l1 ix=[])) (zAL pk (zBJ l1 I) (zL R { s with tab:=l1 }).2.2).2).1 ∧
         s'=(zL (I2.filter fun ix=>decide (ofL l1 ix=[])) (zAL pk (zBJ l1 I) (zL R { s with tab:=l1 }).2.2).2).2.2))))
theorem zNn {m:Nat} {st:St} (h:zAu m st) {nm:ByteArray} (h0:(zA8 st nm).1=0):zAu (m+1) (zA8 st nm).2:=by
 have:=h.drop nm
 generalize zA8 st nm=R at this h0
 cases this with
 | none _=>simp at h0
 | done s' _ _ _ _ _ hl _ _ _=>exact hl
 | torn _ _ _ _ _ _ _ _ _ _ _ _=>simp at h0
theorem zB3:∀ (L:List ByteArray) {m:Nat} {st:St} {t:Bool},zAu m st→(zx L st t).2.1=0→zAu (m+L.length) (zx L st t).2.2
 | [],m,st,t,h,_=>h
 | n::l,m,st,t,h,h0=>by
   rw [zx] at h0 ⊢
   split
   · rename_i h1
     rw [if_pos h1] at h0
     split
     · rename_i h2
       rw [if_pos h2] at h0
       have:=zB3 l (zNn h h2) h0
       rw [List.length_cons]
       exact this.le (by omega)
     · rename_i h2
       rw [if_neg h2] at h0
       exact absurd h0 h2
   · rename_i h1
     rw [if_neg h1] at h0
     exact (zB3 l h h0).le (by rw [List.length_cons];omega)
theorem zEn (s:zF) (ix:Key):(swN s ix).length≤18:=by
 unfold swN
 rw [List.length_append,List.length_map]
 have:(s.shares ix).length≤16:=zF.sharesK_len s ix 16
 simp;omega
theorem zOD {m:Nat} {st:St} (h:zAu m st) (hm:m < 1000000) {nm:ByteArray} {b:List UInt8} (hr:zAe nm b) (h8:(zU st nm b).1≠8):zAu (m+1) (zU st nm b).2:=by
 have:=h.put hm hr
 generalize zU st nm b=R at this h8
 cases this with
 | arg _=>exact h.le (by omega)
 | full _ _=>exact h.le (by omega)
 | done _ _ _ _ hl _ _=>exact hl
 | torn _ _ _ _ _ _ _ _ _ _=>exact absurd rfl h8
end Go.Mem
namespace Go.Proofs.YtbbojbdigiibbaaGreatDoor
open Go Go.RowKit Go.Mem Gf Lea
set_option linter.unusedVariables false
theorem zR.growS {w w':World} {C X X' S:Nat→Prop} {pb:Nat} {s:zF} (h:zR w C X pb s) (hc:Chg S w w') (h1:∀ b,S b→¬ C b) (h2:∀ b,S b→b < w.heap.size→X b) (h3:∀ b,X b→X' b) (h4:∀ b,X' b→X b∨w.heap.size≤b) (h5:∀ b,X' b→b < w'.heap.size):zR w' C X' pb s:=by
 obtain ⟨sb,lb,d,L,tb,v,h⟩:=h
 have hk:∀ b,Core pb sb lb d L tb v b→¬ S b:=fun b hb hS=>h1 b hS (h.core b hb)
 refine ⟨sb,lb,d,L,tb,v,hc.blk h.blk (hk _ (.inr (.inl rfl))),?_,⟨h.heap.tab.chg hc (hk _ (.inr (.inr (.inl rfl)))) (fun g hg=>hk g (.inr (.inr (.inr hg)))),h.heap.heap⟩,h.good,h.core,fun b hX hC=>?_,h.npb,h.ntb,h.nown⟩
 · refine h.st.grow hc (fun b hb=>hk b (.inl hb)) (fun b hS hlt=>.inr (h2 b hS hlt)) (fun b hM=>?_) (fun b hN=>hN.imp id (h3 b)) (fun b hM=>?_)
   · rcases hM with hM | hM
     · exact .inl (.inl hM)
     · exact (h4 b hM).imp .inr id
   · rcases hM with hM | hM
     · exact Nat.lt_of_lt_of_le (h.lt (.inl hM)) hc.size
     · exact h5 b hM
 · rcases h4 b hX with h' | h'
   · exact h.xc b h' hC
   · have:=h.lt (.inl hC);omega
theorem zR.row {w w':World} {C X:Nat→Prop} {pb:Nat} {s:zF} (h:zR w C X pb s) {u u':Value} (hu:∀ g,u.ownBlock=some g→X g) (hg:w.grownBy w' u.ownBlock) (hs:∀ k,u'.ownBlock=some k→u.ownBlock=some k∨w.heap.size≤k) (hl:∀ k,u'.ownBlock=some k→k < w'.heap.size) :
  ∃ X',zR w' C X' pb s∧(∀ b,X b→X' b)∧(∀ g,u'.ownBlock=some g→X' g)∧∀ b,X' b→X b∨w.heap.size≤b:=by
 have hc:Chg (fun b=>u.ownBlock=some b) w w':=Chg.grown (Chg.refl _ _) hg (fun q hq=>.inl hq)
 refine ⟨fun b=>X b∨u'.ownBlock=some b,h.growS hc (fun b hb=>h.xc b (hu b hb)) (fun b hb _=>hu b hb) (fun b hb=>.inl hb) (fun b hb=>?_) (fun b hb=>?_),fun b hb=>.inl hb,fun g hg=>.inr hg,fun b hb=>?_⟩
 · rcases hb with hb | hb
   · exact .inl hb
   · exact (hs b hb).imp (hu b) id
 · rcases hb with hb | hb
   · exact Nat.lt_of_lt_of_le (h.lt (.inr hb)) hc.size
   · exact hl b hb
 · rcases hb with hb | hb
   · exact .inl hb
   · exact (hs b hb).imp (hu b) id
end Go.Proofs.YtbbojbdigiibbaaGreatDoor
end
section
namespace Go.Proofs.YtbbojbdigiibbaaGreatDoor
open Go Go.RowKit Go.Mem Gf Lea
set_option linter.unusedVariables false
attribute [local go_sem ↓] Go.wp_at_zero Go.wp_at_succ
attribute [local go_sem ↓] zAN zB2 zCr
attribute [local go_sem] ptrB_eq ptrO_eq ptrIs_eq aggL_eq aggIs_eq zT zg zC zG zZ ze zX zH zK
theorem zDm {S:Nat→Prop} {w w':World} (h:Chg (fun b=>S b∨w.heap.size≤b) w w'):Chg S w w':=⟨h.os,h.tape,h.output,h.size,fun k hk hs=>h.block k hk (fun h'=>h'.elim hs (fun h2=>by omega))⟩
theorem zM8 {w:World} {b1 b2 n1 n2 s1 s2:Nat} {t1 t2:TypeId} {v1 v2:Value} {x1 x2:List Value} (h1:w.ownsRow b1 t1 s1 v1 n1 x1) (h2:w.ownsRow b2 t2 s2 v2 n2 x2) (hne:t1≠t2):∀ g,v1.ownBlock=some g→v2.ownBlock≠some g:=fun g e1 e2=>by
 rcases h1.2 with ⟨rfl,_⟩ | ⟨g1,c1,q1,rfl,_,hg1,_⟩
 · cases e1
 · rcases h2.2 with ⟨rfl,_⟩ | ⟨g2,c2,q2,rfl,_,hg2,_⟩
   · cases e2
   · cases e1;cases e2
     rw [hg1] at hg2
     simp at hg2
     exact hne hg2.2
set_option maxRecDepth 20000 in
set_option maxHeartbeats 4000000 in
theorem zLt (C X:Nat→Prop) (pb:Nat) (s:zF) (m:Nat) (now:Int) (w:World) (h:zR w C X pb s) (hs:zAu m s.st) (hbr:s.broken=false) (hB:zCb s) (hm:m < 900000) (hr:s.st.recs.length≤120) (htl:s.tab.length≤1000) :
  Calls Tryz.prog 32 #[.pointer (some ⟨pb,0,none⟩),.int .i64 now] w fun e w'=>∃ vo out C' s',e=.returned vo∧zNM s now out s'∧zAb bV WfK 16 39 w' w.heap.size vo out∧(∀ g,vo.ownBlock=some g→¬ C' g)∧zR w' C' X pb s'∧zAO C C' w w':=by
 obtain ⟨sb,lb,d,L,tb,v,hA⟩:=id h
 have hdead:s.dead=false:=by unfold zF.dead;rw [hbr,hs.disk,hs.dead];rfl
 have c4:w.cell? ⟨pb,4,none⟩=some (.pointer (some ⟨tb,0,none⟩)):=hA.blk.cell 4
 have H:=Zh (Zi h (Zi hA (Zi hs (Zi hB (Zi hm (Zi hr (Zi hdead htl)))))))
 clear h hA hs hB hm hr hdead hbr htl
 go_enter Tryz.func32,Tryz.ntmps32
 go_wp2_with fail
 refine (zBn C X pb s w H.o.1).mono ?_
 rintro e w1 ⟨rfl,rfl⟩
 rw [H.o.2.2.2.2.2.2.1]
 go_wp2_with fail
 refine (zJl w tb v s.tab now H.o.2.1.heap (by have:=H.o.2.2.2.1.tab;omega) (fun ix=>by have:=H.o.2.1.good.few ix;omega)).mono ?_
 rintro e w2 ⟨vo,R,v',l1,rfl,hO,hE,hh,hc⟩
 have hg1:Lea.Good l1:=(H.o.2.1.good.sub List.filter_sublist).perm hE.perm
 have hA2:=H.o.2.1.tchg hc hh hg1
 obtain ⟨C1,hC1⟩:∃ c:Nat→Prop,c=fun b=>C b∨v'.ownBlock=some b:=⟨_,rfl⟩
 rw [← hC1] at hA2
 obtain ⟨s1,hs1⟩:∃ z:zF,z={ s with tab:=l1 }:=⟨_,rfl⟩
 rw [← hs1] at hA2
 obtain ⟨oa,oc,rfl⟩:=hO.slice
 obtain ⟨n,hn⟩:∃ n,n=R.length:=⟨_,rfl⟩
 rw [← hn] at hO ⊢
 have hex0:0 < n→∃ g,oa=some ⟨g,0,none⟩∧zAt bV WfK 16 39 w2 w.heap.size g n oc R:=fun h0=>by
  obtain ⟨g,cap,e,hr⟩:=hO.ex (by omega)
  injection e with ea en ec
  rw [← ec,← hn] at hr
  exact ⟨g,ea,hr⟩
 have hgC:∀ g,(Value.slice oa n oc).ownBlock=some g→¬ C1 g:=fun g hg hC=>by
  rw [hC1] at hC
  rcases hC with hC | hC
  · have h1:=(hO.own.lt g hg).1
    have h2:=H.o.1.lt (.inl hC)
    omega
  · exact zM8 hO.own hh.tab.own (by decide) g hg hC
 have hnr:n≤1000:=by
  have hnd:R.Nodup:=hE.up.imp fun {a b} h e=>by rw [e,zCy] at h;omega
  have:=List.Nodup.length_le_of_subset hnd (l₂:=s.tab.map fun x=>x.ix) fun k hk=>by
   obtain ⟨⟨x,hx,e,_⟩,_⟩:=(hE.mem k).1 hk
   exact List.mem_map.2 ⟨x,hx,e⟩
  rw [List.length_map] at this
  have:=H.o.2.2.2.2.2.2.2
  omega
 have hts:s1.tab=l1∧s1.st=s.st∧s1.slots=s.slots∧s1.room=s.room∧s1.broken=s.broken:=by rw [hs1];exact ⟨rfl,rfl,rfl,rfl,rfl⟩
 have H2:=Zh (Zi hE (Zi hg1 (Zi hA2 (Zi hs1 (Zi hex0 (Zi hgC (Zi hn hts)))))))
 clear hO hE hh hc hg1 hA2 hC1 hs1 hn hex0 hgC hts c4
 go_upto_region 5 with fail
 go_loopw [5,28] (fun u5 vi wr=>∃ (i mi:Nat) (o:List Key) (si:zF) (Xr:Nat→Prop),i≤n∧vi=.int .i64 i∧Hid (zAb bV WfK 16 39 wr w2.heap.size u5 o∧o.length≤i∧zR wr C1 Xr pb si∧(∀ b,X b→Xr b)∧(∀ g,u5.ownBlock=some g→Xr g)∧(∀ b,Xr b→X b∨w2.heap.size≤b)∧Chg (fun b=>C1 b∨w2.heap.size≤b) w2 wr∧zAu mi si.st∧mi≤m+18*i∧si.tab=l1∧zFP o (zL (R.drop i) si)=zL R s1)) (fun _ vi _=>n - (intOf vi).toNat)
 case atStart =>
  refine ⟨0,m,[],s1,X,Nat.zero_le _,rfl,zAb.nil _ _ _ _ _ _,Nat.le_refl _,⟨_,_,_,_,_,_,H2.o.2.2.1.1⟩,fun _ h=>h,(fun g h=>by cases h),fun _ h=>.inl h,Chg.refl _ _,by rw [H2.o.2.2.2.2.2.2.2.2.1];exact H.o.2.2.1,by omega,H2.o.2.2.2.2.2.2.2.1,by unfold zFP;simp⟩
 case round =>
  obtain ⟨i,mi,o,si,Xr,hi0,rfl,G⟩:=hrel
  by_cases hin:i < n
  · obtain ⟨g,rfl,hrow0⟩:=H2.o.2.2.2.2.1 (by omega)
    have hgC:=H2.o.2.2.2.2.2.1 g rfl
    have hrow:=hrow0.chg G.o.2.2.2.2.2.2.1 (fun h=>h.elim hgC (fun h2=>by have:=hrow0.lt;omega))
    have hx:R[i]?=some (R[i]'(by have:=H2.o.2.2.2.2.2.2.1;omega)):=by simp
    generalize R[i]'(by have:=H2.o.2.2.2.2.2.2.1;omega)=x at hx
    have hdrop:R.drop i=x::R.drop (i+1):=by
     have hi:=(List.getElem?_eq_some_iff.1 hx).1
     rw [List.drop_eq_getElem_cons hi]
     rw [List.getElem?_eq_getElem hi] at hx
     cases hx;rfl
    have wx:x.length=16:=hrow.wf x (List.mem_of_getElem? hx)
    have rx:=hrow.read ecK hx
    have t1:zW 16 wr g (i*16):=hrow.there hin
    have ax:zAP 16 (bV x):=⟨(zAS wx).2,zAJ x⟩
    have gl:g < wr.heap.size:=hrow.lt
    have i0:(0:Int)≤(i:Int):=by omega
    have i1:(i:Int) < (n:Int):=by omega
    have kx1:=(zAS wx).1
    obtain ⟨ck,hck⟩:∃ c,c=bV x:=⟨_,rfl⟩
    rw [← hck] at rx ax kx1
    have k2:ck.length=16:=ax.1
    have hbk:Blk (wr.alloc (.cells ck.toArray 39)) wr.heap.size ck.toArray 39:=Blk.new _ _ _
    have hbb:Below wr.heap.size wr (wr.alloc (.cells ck.toArray 39)):=(Below.refl _ _).alloc (Nat.le_refl _) _
    have hsw:=zGa C1 Xr pb si x wx (wr.alloc (.cells ck.toArray 39)) (G.o.2.2.1.below hbb) (by have:=G.o.2.2.2.2.2.2.2.1.writes;have:=G.o.2.2.2.2.2.2.2.2.1;have:=H.o.2.2.2.2.1;omega)
    rw [← hck] at hsw
    have HX:=Zh (Zi hx (Zi hck (Zi wx (Zi hdrop (Zi hsw (Zi hbk hbb))))))
    clear hx hrow hrow0 hck wx hdrop hsw hbk hbb hgC
    go_wp2_with fail
    refine HX.o.2.2.2.2.1.mono ?_
    rintro e w3 ⟨told,err,st',rfl,hsr,hs3,hc3⟩
    have hk3:=hc3.blk HX.o.2.2.2.2.2.1 (fun hC=>by have:=G.o.2.2.1.lt (.inl hC);omega)
    have hcw:Chg (fun b=>C1 b∨w2.heap.size≤b) w2 w3:=(G.o.2.2.2.2.2.2.1.trans_below HX.o.2.2.2.2.2.2).trans (hc3.mono fun b hb=>.inl hb)
    have ho3:=(G.o.1.chg (S:=fun _=>False) (Chg.of_below HX.o.2.2.2.2.2.2) (fun _ _ h=>h)).chg hc3 (fun g hg hC=>G.o.2.2.1.xc g (G.o.2.2.2.2.1 g hg) hC)
    have rk:zN 16 w3 wr.heap.size 0=ck:=zS hk3 k2
    have gk:zW 16 w3 wr.heap.size 0:=zO hk3 (by simp [k2])
    have lk:=hk3.lt
    have H3:=Zh (Zi hsr (Zi hs3 (Zi hcw ho3)))
    clear hsr hs3 hc3 hcw ho3 hk3
    cases told with
    | false =>
      by_cases e0:err=0
      · have hsr:=H3.o.1
        rw [e0] at hsr
        have hq:=zDI (l:=R.drop (i+1)) hsr o
        rw [← HX.o.2.2.2.1,G.o.2.2.2.2.2.2.2.2.2.2] at hq
        have hsl:=zB3 (swN si x) (t:=false) G.o.2.2.2.2.2.2.2.1 (by rw [hsr])
        rw [hsr] at hsl
        have hsw:=zEn si x
        have HN:=Zh (Zi hq (Zi hsl hsw))
        have t0:(err == 0)=true:=by simpa using e0
        have t0':(err != 0)=false:=by simpa using e0
        replace e0:=Zh e0
        clear hsr hq hsl hsw rk gk lk
        go_wp2_with fail
        exact ⟨⟨i+1,_,o,{ si with st:=st' },Xr,by omega,by simp,H3.o.2.2.2,by have:=G.o.2.1;omega,H3.o.2.1,G.o.2.2.2.1,G.o.2.2.2.2.1,G.o.2.2.2.2.2.1,H3.o.2.2.1,HN.o.2.1,by have:=G.o.2.2.2.2.2.2.2.2.1;have:=HN.o.2.2;omega,G.o.2.2.2.2.2.2.2.2.2.1,by have:=HN.o.1;simpa using this.symm⟩,by show n - ((i:Int)+1).toNat < n - (i:Int).toNat;omega⟩
      · have hq:=zCk (l:=R.drop (i+1)) H3.o.1 e0 o
        rw [← HX.o.2.2.2.1,G.o.2.2.2.2.2.2.2.2.2.2] at hq
        have HF:=Zh (show zL R s1=(o,err,{ si with st:=st' }) from by rw [hq];simp)
        have HE:=Zh e0
        have t0:(err == 0)=false:=by simpa using e0
        have t0':(err != 0)=true:=by simpa using e0
        clear hq e0 rk gk lk
        go_wp2_with fail
        go_ret
        exact ⟨_,o,C1,{ si with st:=st' },rfl,⟨l1,R,H2.o.1,.inl ⟨by rw [← H2.o.2.2.2.1,HF.o];exact HE.o,by rw [← H2.o.2.2.2.1,HF.o],by rw [← H2.o.2.2.2.1,HF.o]⟩⟩,H3.o.2.2.2.lower H2.o.2.2.1.2.1.size,fun g hg=>H3.o.2.1.xc g (G.o.2.2.2.2.1 g hg),H3.o.2.1.shrinkX G.o.2.2.2.1,H2.o.2.2.1.2.trans ⟨zDm H3.o.2.2.1,fun b hb=>.inl hb⟩⟩
    | true =>
      have hszs:w2.heap.size≤w3.heap.size:=H3.o.2.2.1.size
      go_upto_region 10 with
       (first
        | (refine zBW EKk ecK (by rfl) _ _ (by rfl) (base:=w2.heap.size) (l:=o) (cx:=1) (e':=39) x HX.o.2.2.1 (by rfl) (by rfl) (by rw [← HX.o.2.1];exact Blk.new_at _ _ _ _ (by simp)) (H3.o.2.2.2.chg (S:=fun _=>False) (Chg.of_below ((Below.refl _ _).alloc (Nat.le_refl _) _)) (fun _ _ h=>h)) (by have:=G.o.2.1;omega) (by decide) (by simp;omega) ?_
           intro v1 x1 hv1 hg1 hs1)
        | fail)
      obtain ⟨X1,hX1,hX2,hX3,hX4⟩:=(H3.o.2.1.below (((Below.refl w3.heap.size w3).alloc (Nat.le_refl _) (.cells ck.toArray 39)))).row G.o.2.2.2.2.1 hg1 hs1 (fun k hk=>(hv1.own.lt k hk).2)
      have hcx:Chg (fun b=>C1 b∨w2.heap.size≤b) w2 x1:=(H3.o.2.2.1.trans_below ((Below.refl w3.heap.size w3).alloc (Nat.le_refl _) (.cells ck.toArray 39))).grown hg1 (fun q hq=>by
       have:=H3.o.2.2.2.ge hq
       exact .inl (.inr this))
      have hX5:∀ b,X1 b→X b∨w2.heap.size≤b:=fun b hb=>by
       rcases hX4 b hb with h1 | h1
       · exact G.o.2.2.2.2.2.1 b h1
       · exact .inr (by simp at h1;omega)
      have H4:=Zh (Zi hv1 (Zi hX1 (Zi (fun b hb=>hX2 b (G.o.2.2.2.1 b hb)) (Zi hX3 (Zi hX5 hcx)))))
      clear hv1 hg1 hs1 hX1 hX2 hX3 hX4 hX5 hcx rk gk lk hszs
      by_cases e0:err=0
      · have hsr:=H3.o.1
        rw [e0] at hsr
        have hq:=zDI (l:=R.drop (i+1)) hsr o
        rw [← HX.o.2.2.2.1,G.o.2.2.2.2.2.2.2.2.2.2] at hq
        have hsl:=zB3 (swN si x) (t:=false) G.o.2.2.2.2.2.2.2.1 (by rw [hsr])
        rw [hsr] at hsl
        have hsw:=zEn si x
        have HN:=Zh (Zi hq (Zi hsl hsw))
        have t0:(err == 0)=true:=by simpa using e0
        have t0':(err != 0)=false:=by simpa using e0
        replace e0:=Zh e0
        clear hsr hq hsl hsw
        go_wp2_with fail
        exact ⟨⟨i+1,_,o++[x],{ si with st:=st' },X1,by omega,by simp,H4.o.1,by have:=G.o.2.1;simp;omega,H4.o.2.1,H4.o.2.2.1,H4.o.2.2.2.1,H4.o.2.2.2.2.1,H4.o.2.2.2.2.2,HN.o.2.1,by have:=G.o.2.2.2.2.2.2.2.2.1;have:=HN.o.2.2;omega,G.o.2.2.2.2.2.2.2.2.2.1,by have:=HN.o.1;simpa using this.symm⟩,by show n - ((i:Int)+1).toNat < n - (i:Int).toNat;omega⟩
      · have hq:=zCk (l:=R.drop (i+1)) H3.o.1 e0 o
        rw [← HX.o.2.2.2.1,G.o.2.2.2.2.2.2.2.2.2.2] at hq
        have HF:=Zh (show zL R s1=(o++[x],err,{ si with st:=st' }) from by rw [hq];simp)
        have HE:=Zh e0
        have t0:(err == 0)=false:=by simpa using e0
        have t0':(err != 0)=true:=by simpa using e0
        clear hq e0
        go_wp2_with fail
        go_ret
        exact ⟨_,o++[x],C1,{ si with st:=st' },rfl,⟨l1,R,H2.o.1,.inl ⟨by rw [← H2.o.2.2.2.1,HF.o];exact HE.o,by rw [← H2.o.2.2.2.1,HF.o],by rw [← H2.o.2.2.2.1,HF.o]⟩⟩,H4.o.1.lower H2.o.2.2.1.2.1.size,fun g hg=>H4.o.2.1.xc g (H4.o.2.2.2.1 g hg),H4.o.2.1.shrinkX H4.o.2.2.1,H2.o.2.2.1.2.trans ⟨zDm H4.o.2.2.2.2.2,fun b hb=>.inl hb⟩⟩
  · have hfull:R.drop i=[]:=List.drop_of_length_le (by have:=H2.o.2.2.2.2.2.2.1;omega)
    have hend:=G.o.2.2.2.2.2.2.2.2.2.2
    rw [hfull,zL] at hend
    have hend:zL R s1=(o,0,si):=by rw [← hend];unfold zFP;simp
    have hsub:=zC0 H2.o.1
    have htab:=G.o.2.2.2.2.2.2.2.2.2.1
    have hBi:zCb si:=⟨by rw [htab];have:=hsub.2;have:=H.o.2.2.2.2.2.2.2;omega,by have:=G.o.2.2.2.2.2.2.2.1.writes;have:=G.o.2.2.2.2.2.2.2.2.1;have:=H.o.2.2.2.2.1;omega⟩
    have hn1:∀ r∈si.st.recs,r.is=true→17≤r.name.size:=G.o.2.2.2.2.2.2.2.1.recs.size
    have hheld:=zLK C1 Xr pb si wr G.o.2.2.1 hn1 hBi
    rw [htab] at hheld
    have H5:=Zh (Zi hend (Zi hheld (Zi G.o.2.2.2.1 (Zi G.o.2.2.2.2.1 (Zi G.o.2.2.2.2.2.1 (Zi G.o.2.2.2.2.2.2.1 (Zi G.o.1 (Zi G.o.2.2.2.2.2.2.2.1 (Zi G.o.2.2.2.2.2.2.2.2.1 (Zi htab (Zi G.o.2.2.1 G.o.2.1)))))))))))
    clear hfull hend hsub htab hBi hn1 hheld G
    go_wp2_with fail
    refine H5.o.2.1.mono ?_
    rintro e w3 ⟨vh,I,rfl,hO,hI,hb3⟩
    obtain ⟨HL,hHL⟩:∃ l,l=zBJ l1 I:=⟨_,rfl⟩
    rw [← hHL] at hO
    obtain ⟨ha,hc,rfl⟩:=hO.slice
    obtain ⟨nh,hnh⟩:∃ q,q=HL.length:=⟨_,rfl⟩
    rw [← hnh] at hO ⊢
    have hex0:0 < nh→∃ g,ha=some ⟨g,0,none⟩∧zAt bV WfK 16 39 w3 wr.heap.size g nh hc HL:=fun h0=>by
     obtain ⟨g,cap,e,hr⟩:=hO.ex (by omega)
     injection e with ea en ec
     rw [← ec,← hnh] at hr
     exact ⟨g,ea,hr⟩
    have hPK:∃ pk:Key→List UInt8,∀ ix,∃ q,OfR l1 ix q∧pk ix=zf q:=⟨fun ix=>zf (Classical.choose (zLU l1 ix)),fun ix=>⟨_,Classical.choose_spec (zLU l1 ix),rfl⟩⟩
    obtain ⟨pk,hPK⟩:=hPK
    have HPK:=Zh hPK
    have hnh120:nh≤1024:=by
     have h1:=zIv hI
     have h2:=zEd l1 I
     have h3:=H5.o.2.2.2.2.2.2.2.2.2.2.1.ok.len2
     rw [hnh,hHL];omega
    have H6:=Zh (Zi hI (Zi hHL (Zi hb3 (Zi (show zAL pk HL si=zAL pk (zBJ l1 I) si from by rw [hHL]) (Zi hnh (Zi hex0 (H5.o.2.2.2.2.2.2.2.2.2.2.1.below hb3)))))))
    have HO3:=Zh (H5.o.2.2.2.2.2.2.1.chg (S:=fun _=>False) (Chg.of_below hb3) (fun _ _ h=>h))
    have HCH:=Zh (H5.o.2.2.2.2.2.1.trans_below hb3)
    clear hO hI hHL hb3 hnh hex0 hPK
    go_upto_region 14 with fail
    go_loopw [50] (fun vi wy=>∃ (j mj:Nat) (sj:zF),j≤nh∧vi=.int .i64 j∧Hid (zR wy C1 Xr pb sj∧Chg (fun b=>C1 b∨w3.heap.size≤b) w3 wy∧zAu mj sj.st∧mj≤mi+j∧sj.tab=l1∧zAL pk (HL.drop j) sj=zAL pk HL si∧zAb bV WfK 16 39 wy w2.heap.size u5 o)) (fun vi _=>nh - (intOf vi).toNat)
    case atStart=>exact ⟨0,mi,si,Nat.zero_le _,rfl,H6.o.2.2.2.2.2.2,Chg.refl _ _,H5.o.2.2.2.2.2.2.2.1,by omega,H5.o.2.2.2.2.2.2.2.2.2.1,rfl,HO3.o⟩
    case round =>
     obtain ⟨j,mj,sj,hj0,rfl,G⟩:=hrel
     by_cases hjn:j < nh
     · obtain ⟨g,rfl,hrow0⟩:=H6.o.2.2.2.2.2.1 (by omega)
       have hgC:¬ C1 g:=fun hC=>by
        have h1:=(hrow0.own.lt g rfl).1
        have h2:=H5.o.2.2.2.2.2.2.2.2.2.2.1.lt (.inl hC)
        omega
       have hrow:=hrow0.chg G.o.2.1 (fun h=>h.elim hgC (fun h2=>by have:=hrow0.lt;omega))
       have hx:HL[j]?=some (HL[j]'(by have:=H6.o.2.2.2.2.1;omega)):=by simp
       generalize HL[j]'(by have:=H6.o.2.2.2.2.1;omega)=x at hx
       have hdrop:HL.drop j=x::HL.drop (j+1):=by
        have hi:=(List.getElem?_eq_some_iff.1 hx).1
        rw [List.drop_eq_getElem_cons hi]
        rw [List.getElem?_eq_getElem hi] at hx
        cases hx;rfl
       have wx:x.length=16:=hrow.wf x (List.mem_of_getElem? hx)
       have rx:=hrow.read ecK hx
       have t1:zW 16 wr g (j*16):=hrow.there hjn
       have ax:zAP 16 (bV x):=⟨(zAS wx).2,zAJ x⟩
       have gl:g < wr.heap.size:=hrow.lt
       have i0:(0:Int)≤(j:Int):=by omega
       have i1:(j:Int) < (nh:Int):=by omega
       have kx1:=(zAS wx).1
       obtain ⟨ck,hck⟩:∃ c,c=bV x:=⟨_,rfl⟩
       rw [← hck] at rx ax kx1
       have k2:ck.length=16:=ax.1
       have hu16:=Tryz.underlying39
       have hi16:(Tryz.prog.info? 39).map (·.size)=some ck.length:=by rw [ax.1];exact i16
       obtain ⟨sb3,lb3,d3,L3,tb3,v3,hA⟩:=G.o.1
       have HX0:=Zh (Zi hx (Zi hck (Zi wx (Zi hdrop hA))))
       have hxm:x∈zBJ l1 I:=by rw [← H6.o.2.1];exact List.mem_of_getElem? hx
       have HXM:=Zh hxm
       clear hx hrow hrow0 hck wx hdrop hgC hA hxm
       go_upto_region 16 with fail
       have hbk:Blk (wr.alloc (.cells ck.toArray 39)) wr.heap.size ck.toArray 39:=Blk.new _ _ _
       have hbb:Below wr.heap.size wr (wr.alloc (.cells ck.toArray 39)):=(Below.refl _ _).alloc (Nat.le_refl _) _
       obtain ⟨wa,hwa⟩:∃ q,q=wr.alloc (.cells ck.toArray 39):=⟨_,rfl⟩
       obtain ⟨pk11,hp6⟩:∃ q,q=wr.heap.size:=⟨_,rfl⟩
       rw [← hwa] at hbk hbb ⊢
       rw [← hp6] at hbk ⊢
       have hA1:=HX0.o.2.2.2.2.below hbb
       have HX:=Zh (Zi HX0.o.1 (Zi HX0.o.2.1 (Zi HX0.o.2.2.1 (Zi HX0.o.2.2.2.1 (Zi HX0.o.2.2.2.2 (Zi hp6 HXM.o))))))
       have HA:=Zh (Zi hA1 (Zi hbk hbb))
       have c3:wa.drew.cell? ⟨pb,3,none⟩=some (.pointer (some ⟨sb3,0,none⟩)):=hA1.blk.cell 3
       have r3:wa.drew.rangeAt pk11 0 ck:=fun j v hj=>by
        rw [(hbk.drew).cell,Nat.zero_add]
        simpa using hj
       clear hwa hp6 hbk hbb hA1
       go_region_held3 (fun w'=>w'.cell? ⟨pb,3,none⟩=some (.pointer (some ⟨sb3,0,none⟩))∧w'.rangeAt pk11 0 ck) (first | exact ⟨c3,r3⟩ | with_reducible assumption)
        (first
         | (go_at_call 58
            refine (show Calls _ _ _ _ _ from (by rw [HX.o.2.1];exact zA1 x HX.o.2.2.1 wa.drew)).mono ?_
            rintro e wl ⟨rfl,hb2⟩
            have hb2:Below wa.heap.size wa wl:=zA2 hb2
            have hh:wl.cell? ⟨pb,3,none⟩=some (.pointer (some ⟨sb3,0,none⟩))∧wl.rangeAt pk11 0 ck:=⟨(HA.o.1.below hb2).blk.cell 3,fun j v hj=>by
             rw [(HA.o.2.1.kept hb2).cell,Nat.zero_add]
             simpa using hj⟩
            have HB2:=Zh hb2
            clear hb2)
         | (go_at_call 57
            refine (zCM _ sb3 lb3 d3 L3 sj.st (zD x) wl (HA.o.1.below HB2.o).st).mono ?_
            rintro e wg ⟨hb4,vg,rfl,hvg⟩
            have hh:wg.cell? ⟨pb,3,none⟩=some (.pointer (some ⟨sb3,0,none⟩))∧wg.rangeAt pk11 0 ck:=⟨((HA.o.1.below HB2.o).below hb4).blk.cell 3,fun j v hj=>by
             rw [((HA.o.2.1.kept HB2.o).kept hb4).cell,Nat.zero_add]
             simpa using hj⟩
            have HG:=Zh (Zi (HB2.o.trans (hb4.mono HB2.o.size)) hvg)
            clear hb4 hvg))
       clear c3 r3 hh
       have hAg:=HA.o.1.below HG.o.1
       have hkg:=HA.o.2.1.kept HG.o.1
       have htp:=zDK wg.drew tb3 v3 sj.tab x (hAg.heap.tab.below (Below.refl _ _).drew) (by rw [G.o.2.2.2.2.1];have:=(zC0 H2.o.1).2;have:=H.o.2.2.2.2.2.2.2;omega) HX.o.2.2.1 (by have:=hAg.good.few x;omega) hAg.good.ends ((hAg.below (Below.refl _ _).drew).tab)
       rw [← HX.o.2.1] at htp
       have HTP:=Zh htp
       have HK:=Zh (Zi hAg hkg)
       have c4:wg.drew.cell? ⟨pb,4,none⟩=some (.pointer (some ⟨tb3,0,none⟩)):=hAg.blk.cell 4
       have r4:wg.drew.rangeAt pk11 0 ck:=fun j v hj=>by
        rw [(hkg.drew).cell,Nat.zero_add]
        simpa using hj
       clear hAg hkg htp
       go_upto_region 17 with fail
       go_region_held3 (fun w'=>w'.cell? ⟨pb,4,none⟩=some (.pointer (some ⟨tb3,0,none⟩))∧w'.rangeAt pk11 0 ck) (first | exact ⟨c4,r4⟩ | with_reducible assumption)
        (first
         | (go_at_call 63
            refine HTP.o.mono ?_
            rintro e wp ⟨vp,out,rfl,hOp,hRp,hbp⟩
            have hbp:Below wg.heap.size wg wp:=zA2 hbp
            have hh:wp.cell? ⟨pb,4,none⟩=some (.pointer (some ⟨tb3,0,none⟩))∧wp.rangeAt pk11 0 ck:=⟨(HK.o.1.below hbp).blk.cell 4,fun j v hj=>by
             rw [(HK.o.2.kept hbp).cell,Nat.zero_add]
             simpa using hj⟩
            have HPP:=Zh (Zi hOp (Zi hRp hbp))
            clear hOp hRp hbp))
       clear c4 r4 hh
       have hpke:zf out=pk x:=by
        obtain ⟨q,hq1,hq2⟩:=HPK.o x
        have hR:=HPP.o.2.1
        rw [G.o.2.2.2.2.1] at hR
        rw [hq2,OfR.eq hR hq1 (List.Perm.refl _)]
       have hne:out≠[]:=fun e=>by
        have:=HPP.o.2.1.nil_iff.1 e
        rw [G.o.2.2.2.2.1] at this
        exact (zF4 HX.o.2.2.2.2.2.2).2 this
       have hlo:=zDe HK.o.1.heap.tab.wf HK.o.1.good HPP.o.2.1 hne
       have HRO:=Zh (show zAe (zD x) (pk x) from by rw [← hpke];exact zAe.lease x out HX.o.2.2.1 hlo)
       have hOB:=HPP.o.1
       rw [hpke] at hOB
       have hAp:=HK.o.1.below HPP.o.2.2
       have hkp:=HK.o.2.kept HPP.o.2.2
       have hlen:(pk x).length≤1000000:=by
        rw [← hpke]
        have h1:=zDf out (fun y hy=>(hlo.wf y hy).1)
        have h2:=hlo.few
        omega
       have HP:=Zh (Zi hAp (Zi hkp (Zi hOB (Zi (G.o.2.1.trans_below (HA.o.2.2.trans ((HG.o.1.trans (HPP.o.2.2.mono HG.o.1.size)).mono HA.o.2.2.size))) (Zi hlen (fun a l c (e:vp=.slice (some a) l c)=>by
        have h1:=(hOB.lt a.block (by rw [e];rfl)).1
        have h2:=HA.o.2.2.size
        have h3:=HG.o.1.size
        exact (show wr.heap.size≤a.block from by simp at h1;omega)))))))
       obtain ⟨og,hog⟩:∃ q,q=sj.st.get (zD x):=⟨_,rfl⟩
       have hvg:=HG.o.2
       rw [← hog] at hvg ⊢
       have HOG:=Zh (Zi hog hvg)
       have c3:wp.drew.cell? ⟨pb,3,none⟩=some (.pointer (some ⟨sb3,0,none⟩)):=hAp.blk.cell 3
       have r3:wp.drew.rangeAt pk11 0 ck:=fun j v hj=>by
        rw [(hkp.drew).cell,Nat.zero_add]
        simpa using hj
       have cv2:(convert 51 9 vp).run Tryz.prog wp=.ok (.string ⟨(pk x).toArray⟩) wp:=zBX hOB.bys
       obtain ⟨np,hnp⟩:∃ q:ByteArray,q=⟨(pk x).toArray⟩:=⟨_,rfl⟩
       rw [← hnp] at cv2
       have HNP:=Zh hnp
       clear hpke hne hlo hOB hAp hkp hlen hog hvg hnp
       cases og with
       | none =>
         have HNE:=Zh (show sj.st.get (zD x)≠some (pk x) from by rw [← HOG.o.1];simp)
         rw [Option.isSome_none]
         go_upto_region 19 with fail
         go_region_held3 (fun w'=>w'.cell? ⟨pb,3,none⟩=some (.pointer (some ⟨sb3,0,none⟩))∧w'.rangeAt pk11 0 ck) (first | exact ⟨c3,r3⟩ | with_reducible assumption)
          (first
           | (go_at_call 58
              refine (show Calls _ _ _ _ _ from (by rw [HX.o.2.1];exact zA1 x HX.o.2.2.1 wp.drew)).mono ?_
              rintro e wl ⟨rfl,hbl⟩
              have hbl:Below wp.heap.size wp wl:=zA2 hbl
              have hh:wl.cell? ⟨pb,3,none⟩=some (.pointer (some ⟨sb3,0,none⟩))∧wl.rangeAt pk11 0 ck:=⟨(HP.o.1.below hbl).blk.cell 3,fun j v hj=>by
               rw [(HP.o.2.1.kept hbl).cell,Nat.zero_add]
               simpa using hj⟩
              have HBL:=Zh hbl
              clear hbl)
           | (go_at_call 64
              refine (zC9 _ sb3 lb3 d3 L3 sj.st (zD x) vp (pk x) wl (HP.o.1.below HBL.o).st (HP.o.2.2.1.bys.below HBL.o) (by rw [zC4 x HX.o.2.2.1];decide) HP.o.2.2.2.2.1 (fun wq hq=>(HP.o.2.2.1.bys.below HBL.o).chg hq (fun a l c e hf=>by
               have h1:=HP.o.2.2.2.2.2 a l c e
               have h2:=HX.o.2.2.2.2.1.lt (.inl (HX.o.2.2.2.2.1.foot _ hf))
               omega)) (by have:=G.o.2.2.1.writes;have:=G.o.2.2.2.1;have:=H.o.2.2.2.2.1;have:=H5.o.2.2.2.2.2.2.2.2.1;omega)).mono ?_
              rintro e wq ⟨rfl,hst,hcq⟩
              have hAq:=(HP.o.1.below HBL.o).store hcq hst
              have hkq:=hcq.blk (HP.o.2.1.kept HBL.o) (fun hf=>by have:=HX.o.2.2.2.2.1.lt (.inl (HX.o.2.2.2.2.1.foot _ hf));have:=HX.o.2.2.2.2.2.1;omega)
              have hh:wq.cell? ⟨pb,3,none⟩=some (.pointer (some ⟨sb3,0,none⟩))∧wq.rangeAt pk11 0 ck:=⟨hAq.blk.cell 3,fun j v hj=>by
               rw [hkq.cell,Nat.zero_add]
               simpa using hj⟩
              have HQ:=Zh (Zi hAq ((HP.o.2.2.2.1.trans_below HBL.o).trans (hcq.mono fun b hb=>.inl (HX.o.2.2.2.2.1.foot b hb))))
              clear hst hcq hAq hkq))
         obtain ⟨zr,hzr⟩:∃ q,q=(zU sj.st (zD x) (pk x)).1:=⟨_,rfl⟩
         obtain ⟨st2,hst2⟩:∃ q,q=(zU sj.st (zD x) (pk x)).2:=⟨_,rfl⟩
         have hQ:=HQ.o
         rw [← hst2] at hQ
         rw [← hzr]
         clear c3 r3 hh
         by_cases h8:zr=8
         · have hq:=zFa (l:=HL.drop (j+1)) HNE.o (by rw [← hzr];exact h8)
           rw [← HX.o.2.2.2.1,G.o.2.2.2.2.2.1,← hst2] at hq
           have HF:=Zh (Zi hq hQ)
           have t8:(zr == 8)=true:=by simpa using h8
           clear hq hQ hzr hst2 h8
           go_wp2_with fail
           go_ret
           exact ⟨_,o,C1,{ sj with st:=st2 },rfl,⟨l1,R,H2.o.1,.inr ⟨by rw [← H2.o.2.2.2.1,H5.o.1],I,pk,by rw [← H2.o.2.2.2.1,H5.o.1];exact H6.o.1,fun ix _=>HPK.o ix,.inl ⟨by rw [← H2.o.2.2.2.1,H5.o.1,← H6.o.2.2.2.1,HF.o.1],by rw [← H2.o.2.2.2.1,H5.o.1],by rw [← H2.o.2.2.2.1,H5.o.1,← H6.o.2.2.2.1,HF.o.1]⟩⟩⟩,(HO3.o.chg HF.o.2.2 (fun g hg h=>h.elim (G.o.1.xc g (H5.o.2.2.2.1 g hg)) (fun h'=>by have:=(HO3.o.own.lt g hg).2;omega))).lower H2.o.2.2.1.2.1.size,fun g hg=>G.o.1.xc g (H5.o.2.2.2.1 g hg),zR.shrinkX ⟨_,_,_,_,_,_,HF.o.2.1⟩ H5.o.2.2.1,H2.o.2.2.1.2.trans ⟨zDm (HCH.o.mix HF.o.2.2 (fun b hb=>hb.elim (fun h=>.inl (.inl h)) (fun h=>.inl (.inr (Nat.le_trans HCH.o.size h))))),fun b hb=>.inl hb⟩⟩
         · have hq:=zDE (l:=HL.drop (j+1)) HNE.o (by rw [← hzr];exact h8)
           rw [← HX.o.2.2.2.1,G.o.2.2.2.2.2.1,← hst2] at hq
           have hok:=zOD G.o.2.2.1 (by have:=G.o.2.2.2.1;have:=H.o.2.2.2.2.1;have:=H5.o.2.2.2.2.2.2.2.2.1;omega) HRO.o (by rw [← hzr];exact h8)
           rw [← hst2] at hok
           have HF:=Zh (Zi hq (Zi hQ hok))
           have t8:(zr == 8)=false:=by simpa using h8
           clear hq hQ hzr hst2 h8 hok
           go_wp2_with fail
           exact ⟨⟨j+1,_,{ sj with st:=st2 },by omega,by simp,⟨_,_,_,_,_,_,HF.o.2.1.1⟩,HF.o.2.1.2,HF.o.2.2,by have:=G.o.2.2.2.1;omega,G.o.2.2.2.2.1,HF.o.1.symm,HO3.o.chg HF.o.2.1.2 (fun g hg h=>h.elim (G.o.1.xc g (H5.o.2.2.2.1 g hg)) (fun h'=>by have:=(HO3.o.own.lt g hg).2;omega))⟩,by show nh - ((j:Int)+1).toNat < nh - (j:Int).toNat;omega⟩
       | some bs =>
         have hvg:=HOG.o.2
         rw [Option.getD_some] at hvg
         have cv1:(convert 51 9 vg).run Tryz.prog wp=.ok (.string ⟨bs.toArray⟩) wp:=zBX (hvg.bys.below HPP.o.2.2)
         obtain ⟨ng,hng⟩:∃ q:ByteArray,q=⟨bs.toArray⟩:=⟨_,rfl⟩
         rw [← hng] at cv1
         have HNG:=Zh hng
         clear hvg hng
         rw [Option.isSome_some]
         by_cases hbe:bs=pk x
         · have dd:(ng.toList == np.toList)=true:=Sto.zCL.2 (by rw [HNG.o,HNP.o,hbe])
           have hq:=zFZ (pk:=pk) (l:=HL.drop (j+1)) (by rw [← HOG.o.1,hbe]:sj.st.get (zD x)=some (pk x))
           rw [← HX.o.2.2.2.1,G.o.2.2.2.2.2.1] at hq
           have HF:=Zh hq
           clear hq hbe c3 r3
           go_wp2_with fail
           exact ⟨⟨j+1,mj,sj,by omega,by simp,⟨_,_,_,_,_,_,HP.o.1⟩,HP.o.2.2.2.1,G.o.2.2.1,by have:=G.o.2.2.2.1;omega,G.o.2.2.2.2.1,HF.o.symm,HO3.o.chg HP.o.2.2.2.1 (fun g hg h=>h.elim (G.o.1.xc g (H5.o.2.2.2.1 g hg)) (fun h'=>by have:=(HO3.o.own.lt g hg).2;omega))⟩,by show nh - ((j:Int)+1).toNat < nh - (j:Int).toNat;omega⟩
         · have dd:(ng.toList == np.toList)=false:=by
            rw [← Bool.not_eq_true,Sto.zCL,HNG.o,HNP.o]
            exact fun e=>hbe (zCp e)
           have HNE:=Zh (show sj.st.get (zD x)≠some (pk x) from by rw [← HOG.o.1];simpa using hbe)
           replace hbe:=Zh hbe
           go_upto_region 19 with fail
           go_region_held3 (fun w'=>w'.cell? ⟨pb,3,none⟩=some (.pointer (some ⟨sb3,0,none⟩))∧w'.rangeAt pk11 0 ck) (first | exact ⟨c3,r3⟩ | with_reducible assumption)
            (first
             | (go_at_call 58
                refine (show Calls _ _ _ _ _ from (by rw [HX.o.2.1];exact zA1 x HX.o.2.2.1 wp.drew)).mono ?_
                rintro e wl ⟨rfl,hbl⟩
                have hbl:Below wp.heap.size wp wl:=zA2 hbl
                have hh:wl.cell? ⟨pb,3,none⟩=some (.pointer (some ⟨sb3,0,none⟩))∧wl.rangeAt pk11 0 ck:=⟨(HP.o.1.below hbl).blk.cell 3,fun j v hj=>by
                 rw [(HP.o.2.1.kept hbl).cell,Nat.zero_add]
                 simpa using hj⟩
                have HBL:=Zh hbl
                clear hbl)
             | (go_at_call 64
                refine (zC9 _ sb3 lb3 d3 L3 sj.st (zD x) vp (pk x) wl (HP.o.1.below HBL.o).st (HP.o.2.2.1.bys.below HBL.o) (by rw [zC4 x HX.o.2.2.1];decide) HP.o.2.2.2.2.1 (fun wq hq=>(HP.o.2.2.1.bys.below HBL.o).chg hq (fun a l c e hf=>by
                 have h1:=HP.o.2.2.2.2.2 a l c e
                 have h2:=HX.o.2.2.2.2.1.lt (.inl (HX.o.2.2.2.2.1.foot _ hf))
                 omega)) (by have:=G.o.2.2.1.writes;have:=G.o.2.2.2.1;have:=H.o.2.2.2.2.1;have:=H5.o.2.2.2.2.2.2.2.2.1;omega)).mono ?_
                rintro e wq ⟨rfl,hst,hcq⟩
                have hAq:=(HP.o.1.below HBL.o).store hcq hst
                have hkq:=hcq.blk (HP.o.2.1.kept HBL.o) (fun hf=>by have:=HX.o.2.2.2.2.1.lt (.inl (HX.o.2.2.2.2.1.foot _ hf));have:=HX.o.2.2.2.2.2.1;omega)
                have hh:wq.cell? ⟨pb,3,none⟩=some (.pointer (some ⟨sb3,0,none⟩))∧wq.rangeAt pk11 0 ck:=⟨hAq.blk.cell 3,fun j v hj=>by
                 rw [hkq.cell,Nat.zero_add]
                 simpa using hj⟩
                have HQ:=Zh (Zi hAq ((HP.o.2.2.2.1.trans_below HBL.o).trans (hcq.mono fun b hb=>.inl (HX.o.2.2.2.2.1.foot b hb))))
                clear hst hcq hAq hkq))
           obtain ⟨zr,hzr⟩:∃ q,q=(zU sj.st (zD x) (pk x)).1:=⟨_,rfl⟩
           obtain ⟨st2,hst2⟩:∃ q,q=(zU sj.st (zD x) (pk x)).2:=⟨_,rfl⟩
           have hQ:=HQ.o
           rw [← hst2] at hQ
           rw [← hzr]
           clear c3 r3 hh
           by_cases h8:zr=8
           · have hq:=zFa (l:=HL.drop (j+1)) HNE.o (by rw [← hzr];exact h8)
             rw [← HX.o.2.2.2.1,G.o.2.2.2.2.2.1,← hst2] at hq
             have HF:=Zh (Zi hq hQ)
             have t8:(zr == 8)=true:=by simpa using h8
             clear hq hQ hzr hst2 h8
             go_wp2_with fail
             go_ret
             exact ⟨_,o,C1,{ sj with st:=st2 },rfl,⟨l1,R,H2.o.1,.inr ⟨by rw [← H2.o.2.2.2.1,H5.o.1],I,pk,by rw [← H2.o.2.2.2.1,H5.o.1];exact H6.o.1,fun ix _=>HPK.o ix,.inl ⟨by rw [← H2.o.2.2.2.1,H5.o.1,← H6.o.2.2.2.1,HF.o.1],by rw [← H2.o.2.2.2.1,H5.o.1],by rw [← H2.o.2.2.2.1,H5.o.1,← H6.o.2.2.2.1,HF.o.1]⟩⟩⟩,(HO3.o.chg HF.o.2.2 (fun g hg h=>h.elim (G.o.1.xc g (H5.o.2.2.2.1 g hg)) (fun h'=>by have:=(HO3.o.own.lt g hg).2;omega))).lower H2.o.2.2.1.2.1.size,fun g hg=>G.o.1.xc g (H5.o.2.2.2.1 g hg),zR.shrinkX ⟨_,_,_,_,_,_,HF.o.2.1⟩ H5.o.2.2.1,H2.o.2.2.1.2.trans ⟨zDm (HCH.o.mix HF.o.2.2 (fun b hb=>hb.elim (fun h=>.inl (.inl h)) (fun h=>.inl (.inr (Nat.le_trans HCH.o.size h))))),fun b hb=>.inl hb⟩⟩
           · have hq:=zDE (l:=HL.drop (j+1)) HNE.o (by rw [← hzr];exact h8)
             rw [← HX.o.2.2.2.1,G.o.2.2.2.2.2.1,← hst2] at hq
             have hok:=zOD G.o.2.2.1 (by have:=G.o.2.2.2.1;have:=H.o.2.2.2.2.1;have:=H5.o.2.2.2.2.2.2.2.2.1;omega) HRO.o (by rw [← hzr];exact h8)
             rw [← hst2] at hok
             have HF:=Zh (Zi hq (Zi hQ hok))
             have t8:(zr == 8)=false:=by simpa using h8
             clear hq hQ hzr hst2 h8 hok
             go_wp2_with fail
             exact ⟨⟨j+1,_,{ sj with st:=st2 },by omega,by simp,⟨_,_,_,_,_,_,HF.o.2.1.1⟩,HF.o.2.1.2,HF.o.2.2,by have:=G.o.2.2.2.1;omega,G.o.2.2.2.2.1,HF.o.1.symm,HO3.o.chg HF.o.2.1.2 (fun g hg h=>h.elim (G.o.1.xc g (H5.o.2.2.2.1 g hg)) (fun h'=>by have:=(HO3.o.own.lt g hg).2;omega))⟩,by show nh - ((j:Int)+1).toNat < nh - (j:Int).toNat;omega⟩
     · have hfull:HL.drop j=[]:=List.drop_of_length_le (by have:=H6.o.2.2.2.2.1;omega)
       have hend:=G.o.2.2.2.2.2.1
       rw [hfull,zAL] at hend
       have hn2:∀ r∈sj.st.recs,r.is=true→17≤r.name.size:=G.o.2.2.1.recs.size
       have hidx:=zDP C1 Xr pb sj wr G.o.1 hn2
       have H7:=Zh (Zi hend.symm (Zi G.o.1 (Zi G.o.2.1 (Zi G.o.2.2.1 (Zi G.o.2.2.2.1 (Zi G.o.2.2.2.2.1 (Zi G.o.2.2.2.2.2.2 hidx)))))))
       clear hfull hend hn2 hidx G
       go_wp2_with fail
       refine H7.o.2.2.2.2.2.2.2.mono ?_
       rintro e w5 ⟨v5,I2,rfl,hO,hI2,hb5⟩
       obtain ⟨ia,ic,rfl⟩:=hO.slice
       obtain ⟨n3,hn3⟩:∃ q,q=I2.length:=⟨_,rfl⟩
       rw [← hn3] at hO ⊢
       have hex3:0 < n3→∃ g,ia=some ⟨g,0,none⟩∧zAt bV WfK 16 39 w5 wr.heap.size g n3 ic I2:=fun h0=>by
        obtain ⟨g,cap,e,hr⟩:=hO.ex (by omega)
        injection e with ea en ec
        rw [← ec,← hn3] at hr
        exact ⟨g,ea,hr⟩
       have hn3b:n3≤1024:=by
        have h1:=zIv hI2
        have h3:=H7.o.2.1.ok.len2
        omega
       have hO5:=H7.o.2.2.2.2.2.2.1.chg (S:=fun _=>False) (Chg.of_below hb5) (fun _ _ h=>h)
       have hu5:∀ g,u5.ownBlock=some g→w2.heap.size≤g∧g < wr.heap.size:=fun g hg=>H7.o.2.2.2.2.2.2.1.own.lt g hg
       have hc25:Chg (fun b=>C1 b∨w2.heap.size≤b) w2 w5:=(HCH.o.mix H7.o.2.2.1 (fun b hb=>hb.elim (fun h=>.inl (.inl h)) (fun h=>.inl (.inr (Nat.le_trans HCH.o.size h))))).trans_below hb5
       have H8:=Zh (Zi hI2 (Zi hn3 (Zi hb5 (Zi hex3 (Zi hO5 (Zi hu5 hc25))))))
       have hts:∀ b,(C1 b∨u5.ownBlock=some b∨w5.heap.size≤b)→(C1 b∨w2.heap.size≤b)∨w2.heap.size≤b:=fun b hb=>by
        rcases hb with h | h | h
        · exact .inl (.inl h)
        · exact .inr (hu5 b h).1
        · exact .inr (Nat.le_trans hc25.size h)
       have HTS:=Zh hts
       clear hO hI2 hn3 hb5 hex3 hO5 hu5 hc25 hts
       go_upto_region 23 with fail
       obtain ⟨ow,how⟩:∃ ow,ow=u5:=⟨_,rfl⟩
       subst how
       go_loopw [5,93] (fun q5 vi wz=>∃ (k mk:Nat) (o3:List Key) (sk:zF) (Xk:Nat→Prop),k≤n3∧vi=.int .i64 k∧Hid (zAb bV WfK 16 39 wz w2.heap.size q5 o3∧o3.length≤n+k∧zR wz C1 Xk pb sk∧(∀ b,X b→Xk b)∧(∀ g,q5.ownBlock=some g→Xk g)∧(∀ b,Xk b→X b∨w2.heap.size≤b)∧Chg (fun b=>C1 b∨ow.ownBlock=some b∨w5.heap.size≤b) w5 wz∧zAu mk sk.st∧mk≤mi+nh+18*k∧sk.tab=l1∧(∀ g,q5.ownBlock=some g→ow.ownBlock=some g∨w5.heap.size≤g)∧zFP o3 (zL ((I2.drop k).filter fun ix=>decide (ofL l1 ix=[])) sk)=zFP o (zL (I2.filter fun ix=>decide (ofL l1 ix=[])) sj))) (fun _ vi _=>n3 - (intOf vi).toNat)
       case atStart=>exact ⟨0,mj,o,sj,Xr,Nat.zero_le _,rfl,H8.o.2.2.2.2.1,by have:=H5.o.2.2.2.2.2.2.2.2.2.2.2;omega,H7.o.2.1.below H8.o.2.2.1,H5.o.2.2.1,H5.o.2.2.2.1,H5.o.2.2.2.2.1,Chg.refl _ _,H7.o.2.2.2.1,by have:=H7.o.2.2.2.2.1;omega,H7.o.2.2.2.2.2.1,fun g hg=>.inl hg,by simp⟩
       case round =>
        obtain ⟨k,mk,o3,sk,Xk,hk0,rfl,G⟩:=hrel
        by_cases hkn:k < n3
        · obtain ⟨g,rfl,hrow0⟩:=H8.o.2.2.2.1 (by omega)
          have hg1:=(hrow0.own.lt g rfl)
          have hgC:¬ C1 g:=fun hC=>by
           have h2:=H7.o.2.1.lt (.inl hC)
           omega
          have hrow:=hrow0.chg G.o.2.2.2.2.2.2.1 (fun h=>by
           rcases h with h | h | h
           · exact hgC h
           · have:=(H8.o.2.2.2.2.2.1 g h).2;omega
           · omega)
          have hx:I2[k]?=some (I2[k]'(by have:=H8.o.2.1;omega)):=by simp
          generalize I2[k]'(by have:=H8.o.2.1;omega)=x at hx
          have wx:x.length=16:=hrow.wf x (List.mem_of_getElem? hx)
          have rx:=hrow.read ecK hx
          have t1:zW 16 wr g (k*16):=hrow.there hkn
          have ax:zAP 16 (bV x):=⟨(zAS wx).2,zAJ x⟩
          have gl:g < wr.heap.size:=hrow.lt
          have i0:(0:Int)≤(k:Int):=by omega
          have i1:(k:Int) < (n3:Int):=by omega
          have kx1:=(zAS wx).1
          obtain ⟨ck,hck⟩:∃ c,c=bV x:=⟨_,rfl⟩
          rw [← hck] at rx ax kx1
          have k2:ck.length=16:=ax.1
          have hu16:=Tryz.underlying39
          have hi16:(Tryz.prog.info? 39).map (·.size)=some ck.length:=by rw [ax.1];exact i16
          have HX:=Zh (Zi hck (Zi wx (zJo (p:=fun ix=>decide (ofL l1 ix=[])) hx)))
          clear hx hrow hrow0 hck wx hg1 hgC
          go_upto_region 25 with fail
          have hbk:Blk (wr.alloc (.cells ck.toArray 39)) wr.heap.size ck.toArray 39:=Blk.new _ _ _
          have hbb:Below wr.heap.size wr (wr.alloc (.cells ck.toArray 39)):=(Below.refl _ _).alloc (Nat.le_refl _) _
          obtain ⟨wa,hwa⟩:∃ q,q=wr.alloc (.cells ck.toArray 39):=⟨_,rfl⟩
          obtain ⟨p16,hp6⟩:∃ q,q=wr.heap.size:=⟨_,rfl⟩
          rw [← hwa] at hbk hbb ⊢
          rw [← hp6] at hbk ⊢
          obtain ⟨sb,lb,d,L,tb',v0,hA⟩:=G.o.2.2.1.below hbb
          have hof:=zCY wa.drew tb' v0 sk.tab x (hA.heap.tab.below (Below.refl _ _).drew) (by rw [G.o.2.2.2.2.2.2.2.2.2.1];have:=(zC0 H2.o.1).2;have:=H.o.2.2.2.2.2.2.2;omega) HX.o.2.1 (by have:=hA.good.few x;omega)
          rw [← HX.o.1] at hof
          have c4:wa.drew.cell? ⟨pb,4,none⟩=some (.pointer (some ⟨tb',0,none⟩)):=hA.blk.cell 4
          have r4:wa.drew.rangeAt p16 0 ck:=fun j v hj=>by
           rw [(hbk.drew).cell,Nat.zero_add]
           simpa using hj
          obtain ⟨q,hq⟩:∃ q,q=(ofL l1 x).length:=⟨_,rfl⟩
          have HA:=Zh (Zi hA (Zi hbk (Zi hbb (Zi hof (Zi hq hp6)))))
          clear hwa hp6 hbk hbb hA hof hq
          go_region_held3 (fun w'=>w'.cell? ⟨pb,4,none⟩=some (.pointer (some ⟨tb',0,none⟩))∧w'.rangeAt p16 0 ck) (first | exact ⟨c4,r4⟩ | with_reducible assumption)
           (first
            | (go_at_call 65
               refine HA.o.2.2.2.1.mono ?_
               rintro e wo ⟨vo',out',rfl,hO',hR',hb2⟩
               obtain ⟨fa,fc,rfl⟩:=hO'.slice
               rw [hR'.perm.length_eq,G.o.2.2.2.2.2.2.2.2.2.1,← HA.o.2.2.2.2.1]
               have hb2:Below wa.heap.size wa wo:=zA2 hb2
               have hh:wo.cell? ⟨pb,4,none⟩=some (.pointer (some ⟨tb',0,none⟩))∧wo.rangeAt p16 0 ck:=⟨(HA.o.1.below hb2).blk.cell 4,fun j v hj=>by
                rw [(HA.o.2.1.kept hb2).cell,Nat.zero_add]
                simpa using hj⟩
               have HB2:=Zh (Zi (HA.o.2.2.1.trans (hb2.mono HA.o.2.2.1.size)) (HA.o.2.1.kept hb2))
               clear hO' hR' hb2))
          clear c4 r4 hh
          by_cases m0:q=0
          rotate_left
          · have hne:ofL l1 x≠[]:=fun e=>m0 (by rw [HA.o.2.2.2.2.1,e];rfl)
            have hfd:=HX.o.2.2
            rw [if_neg (by simpa using hne),List.nil_append] at hfd
            have HFD:=Zh hfd
            have dm:decide ((0:Int) < (q:Int))=true:=by simp;omega
            have dm':decide (0 < q)=true:=by simp;omega
            have mp:0 < q:=by omega
            replace m0:=Zh m0
            clear hne hfd
            go_wp2_with fail
            exact ⟨⟨k+1,mk,o3,sk,Xk,by omega,by simp,G.o.1.chg (S:=fun _=>False) (Chg.of_below HB2.o.1) (fun _ _ h=>h),by have:=G.o.2.1;omega,G.o.2.2.1.below HB2.o.1,G.o.2.2.2.1,G.o.2.2.2.2.1,G.o.2.2.2.2.2.1,G.o.2.2.2.2.2.2.1.trans_below HB2.o.1,G.o.2.2.2.2.2.2.2.1,by have:=G.o.2.2.2.2.2.2.2.2.1;omega,G.o.2.2.2.2.2.2.2.2.2.1,G.o.2.2.2.2.2.2.2.2.2.2.1,by rw [← HFD.o];exact G.o.2.2.2.2.2.2.2.2.2.2.2⟩,by show n3 - ((k:Int)+1).toNat < n3 - (k:Int).toNat;omega⟩
          · have hnil:ofL l1 x=[]:=List.eq_nil_of_length_eq_zero (by rw [← HA.o.2.2.2.2.1];exact m0)
            have hfd:=HX.o.2.2
            rw [if_pos (by simpa using hnil),List.singleton_append] at hfd
            have HFD:=Zh hfd
            subst m0
            have hko:=HB2.o.2
            have hIo:=G.o.2.2.1.below HB2.o.1
            have hsw:=zGa C1 Xk pb sk x HX.o.2.1 wo hIo (by have:=G.o.2.2.2.2.2.2.2.1.writes;have:=G.o.2.2.2.2.2.2.2.2.1;have:=H.o.2.2.2.2.1;have:=H5.o.2.2.2.2.2.2.2.2.1;omega)
            rw [← HX.o.1] at hsw
            have HSW:=Zh (Zi hsw hIo)
            have rk:zN 16 wo p16 0=ck:=zS hko k2
            have gk:zW 16 wo p16 0:=zO hko (by simp [k2])
            have lk:=hko.lt
            clear hnil hfd hko hIo hsw
            go_wp2_with fail
            refine HSW.o.1.mono ?_
            rintro e wt ⟨told,err,st',rfl,hsr,hs3,hc3⟩
            have hkt:=hc3.blk HB2.o.2 (fun hC=>by have:=G.o.2.2.1.lt (.inl hC);have:=HA.o.2.2.2.2.2;omega)
            have hct:Chg (fun b=>C1 b∨ow.ownBlock=some b∨w5.heap.size≤b) w5 wt:=(G.o.2.2.2.2.2.2.1.trans_below HB2.o.1).trans (hc3.mono fun b hb=>.inl hb)
            have hot:=(G.o.1.chg (S:=fun _=>False) (Chg.of_below HB2.o.1) (fun _ _ h=>h)).chg hc3 (fun g hg hC=>G.o.2.2.1.xc g (G.o.2.2.2.2.1 g hg) hC)
            have rk:zN 16 wt p16 0=ck:=zS hkt k2
            have gk:zW 16 wt p16 0:=zO hkt (by simp [k2])
            have lk:=hkt.lt
            have H12:=Zh (Zi hsr (Zi hs3 (Zi hct hot)))
            clear hsr hs3 hc3 hct hot hkt
            cases told with
            | false =>
              by_cases e0:err=0
              · have hsr:=H12.o.1
                rw [e0] at hsr
                have hq:=zDI (l:=(I2.drop (k+1)).filter fun ix=>decide (ofL l1 ix=[])) hsr o3
                rw [← HFD.o,G.o.2.2.2.2.2.2.2.2.2.2.2] at hq
                have hsl:=zB3 (swN sk x) (t:=false) G.o.2.2.2.2.2.2.2.1 (by rw [hsr])
                rw [hsr] at hsl
                have hsw:=zEn sk x
                have HN:=Zh (Zi hq (Zi hsl hsw))
                have t0:(err == 0)=true:=by simpa using e0
                have t0':(err != 0)=false:=by simpa using e0
                replace e0:=Zh e0
                clear hsr hq hsl hsw
                go_wp2_with fail
                exact ⟨⟨k+1,_,o3,{ sk with st:=st' },Xk,by omega,by simp,H12.o.2.2.2,by have:=G.o.2.1;omega,H12.o.2.1,G.o.2.2.2.1,G.o.2.2.2.2.1,G.o.2.2.2.2.2.1,H12.o.2.2.1,HN.o.2.1,by have:=G.o.2.2.2.2.2.2.2.2.1;have:=HN.o.2.2;omega,G.o.2.2.2.2.2.2.2.2.2.1,G.o.2.2.2.2.2.2.2.2.2.2.1,by have:=HN.o.1;simpa using this.symm⟩,by show n3 - ((k:Int)+1).toNat < n3 - (k:Int).toNat;omega⟩
              · have hq:=zCk (l:=(I2.drop (k+1)).filter fun ix=>decide (ofL l1 ix=[])) H12.o.1 e0 o3
                rw [← HFD.o,G.o.2.2.2.2.2.2.2.2.2.2.2] at hq
                have HF:=Zh (show zFP o (zL (I2.filter fun ix=>decide (ofL l1 ix=[])) sj)=(o3,err,{ sk with st:=st' }) from by rw [hq];simp)
                have t0:(err == 0)=false:=by simpa using e0
                have t0':(err != 0)=true:=by simpa using e0
                clear hq e0
                go_wp2_with fail
                go_ret
                exact ⟨_,o3,C1,{ sk with st:=st' },rfl,⟨l1,R,H2.o.1,.inr ⟨by rw [← H2.o.2.2.2.1,H5.o.1],I,pk,by rw [← H2.o.2.2.2.1,H5.o.1];exact H6.o.1,fun ix _=>HPK.o ix,.inr ⟨by rw [← H2.o.2.2.2.1,H5.o.1,← H6.o.2.2.2.1,H7.o.1],I2,by rw [← H2.o.2.2.2.1,H5.o.1,← H6.o.2.2.2.1,H7.o.1];exact H8.o.1,by rw [← H2.o.2.2.2.1,H5.o.1,← H6.o.2.2.2.1,H7.o.1];exact (congrArg (fun q=>q.1) HF.o).symm,by rw [← H2.o.2.2.2.1,H5.o.1,← H6.o.2.2.2.1,H7.o.1];exact (congrArg (fun q=>q.2.2) HF.o).symm⟩⟩⟩,H12.o.2.2.2.lower H2.o.2.2.1.2.1.size,fun g hg=>H12.o.2.1.xc g (G.o.2.2.2.2.1 g hg),H12.o.2.1.shrinkX G.o.2.2.2.1,H2.o.2.2.1.2.trans ⟨zDm (H8.o.2.2.2.2.2.2.mix H12.o.2.2.1 HTS.o),fun b hb=>.inl hb⟩⟩
            | true =>
              have hszs:w2.heap.size≤wt.heap.size:=Nat.le_trans H8.o.2.2.2.2.2.2.size H12.o.2.2.1.size
              go_upto_region 29 with
               (first
                | (refine zBW EKk ecK (by rfl) _ _ (by rfl) (base:=w2.heap.size) (l:=o3) (cx:=1) (e':=39) x HX.o.2.1 (by rfl) (by rfl) (by rw [← HX.o.1];exact Blk.new_at _ _ _ _ (by simp)) (H12.o.2.2.2.chg (S:=fun _=>False) (Chg.of_below ((Below.refl _ _).alloc (Nat.le_refl _) _)) (fun _ _ h=>h)) (by have:=G.o.2.1;omega) (by decide) (by simp;omega) ?_
                   intro v1 x1 hv1 hg1 hs1)
                | fail)
              obtain ⟨X1,hX1,hX2,hX3,hX4⟩:=(H12.o.2.1.below (((Below.refl wt.heap.size wt).alloc (Nat.le_refl _) (.cells ck.toArray 39)))).row G.o.2.2.2.2.1 hg1 hs1 (fun k hk=>(hv1.own.lt k hk).2)
              have hcx:Chg (fun b=>C1 b∨ow.ownBlock=some b∨w5.heap.size≤b) w5 x1:=(H12.o.2.2.1.trans_below ((Below.refl wt.heap.size wt).alloc (Nat.le_refl _) (.cells ck.toArray 39))).grown hg1 (fun q hq=>.inl ((G.o.2.2.2.2.2.2.2.2.2.2.1 q hq).elim (fun h=>.inr (.inl h)) (fun h=>.inr (.inr h))))
              have hX5:∀ b,X1 b→X b∨w2.heap.size≤b:=fun b hb=>by
               rcases hX4 b hb with h1 | h1
               · exact G.o.2.2.2.2.2.1 b h1
               · exact .inr (by simp at h1;omega)
              have hgr:∀ g,v1.ownBlock=some g→ow.ownBlock=some g∨w5.heap.size≤g:=fun g hg=>by
               rcases hs1 g hg with h1 | h1
               · exact G.o.2.2.2.2.2.2.2.2.2.2.1 g h1
               · have:=H12.o.2.2.1.size
                 exact .inr (by simp at h1;omega)
              have H13:=Zh (Zi hv1 (Zi hX1 (Zi (fun b hb=>hX2 b (G.o.2.2.2.1 b hb)) (Zi hX3 (Zi hX5 (Zi hcx hgr))))))
              clear hv1 hg1 hs1 hX1 hX2 hX3 hX4 hX5 hcx rk gk lk hszs hgr
              by_cases e0:err=0
              · have hsr:=H12.o.1
                rw [e0] at hsr
                have hq:=zDI (l:=(I2.drop (k+1)).filter fun ix=>decide (ofL l1 ix=[])) hsr o3
                rw [← HFD.o,G.o.2.2.2.2.2.2.2.2.2.2.2] at hq
                have hsl:=zB3 (swN sk x) (t:=false) G.o.2.2.2.2.2.2.2.1 (by rw [hsr])
                rw [hsr] at hsl
                have hsw:=zEn sk x
                have HN:=Zh (Zi hq (Zi hsl hsw))
                have t0:(err == 0)=true:=by simpa using e0
                have t0':(err != 0)=false:=by simpa using e0
                replace e0:=Zh e0
                clear hsr hq hsl hsw
                go_wp2_with fail
                exact ⟨⟨k+1,_,(o3++[x]),{ sk with st:=st' },X1,by omega,by simp,H13.o.1,by have:=G.o.2.1;simp;omega,H13.o.2.1,H13.o.2.2.1,H13.o.2.2.2.1,H13.o.2.2.2.2.1,H13.o.2.2.2.2.2.1,HN.o.2.1,by have:=G.o.2.2.2.2.2.2.2.2.1;have:=HN.o.2.2;omega,G.o.2.2.2.2.2.2.2.2.2.1,H13.o.2.2.2.2.2.2,by have:=HN.o.1;simpa using this.symm⟩,by show n3 - ((k:Int)+1).toNat < n3 - (k:Int).toNat;omega⟩
              · have hq:=zCk (l:=(I2.drop (k+1)).filter fun ix=>decide (ofL l1 ix=[])) H12.o.1 e0 o3
                rw [← HFD.o,G.o.2.2.2.2.2.2.2.2.2.2.2] at hq
                have HF:=Zh (show zFP o (zL (I2.filter fun ix=>decide (ofL l1 ix=[])) sj)=((o3++[x]),err,{ sk with st:=st' }) from by rw [hq];simp)
                have t0:(err == 0)=false:=by simpa using e0
                have t0':(err != 0)=true:=by simpa using e0
                clear hq e0
                go_wp2_with fail
                go_ret
                exact ⟨_,(o3++[x]),C1,{ sk with st:=st' },rfl,⟨l1,R,H2.o.1,.inr ⟨by rw [← H2.o.2.2.2.1,H5.o.1],I,pk,by rw [← H2.o.2.2.2.1,H5.o.1];exact H6.o.1,fun ix _=>HPK.o ix,.inr ⟨by rw [← H2.o.2.2.2.1,H5.o.1,← H6.o.2.2.2.1,H7.o.1],I2,by rw [← H2.o.2.2.2.1,H5.o.1,← H6.o.2.2.2.1,H7.o.1];exact H8.o.1,by rw [← H2.o.2.2.2.1,H5.o.1,← H6.o.2.2.2.1,H7.o.1];exact (congrArg (fun q=>q.1) HF.o).symm,by rw [← H2.o.2.2.2.1,H5.o.1,← H6.o.2.2.2.1,H7.o.1];exact (congrArg (fun q=>q.2.2) HF.o).symm⟩⟩⟩,H13.o.1.lower H2.o.2.2.1.2.1.size,fun g hg=>H13.o.2.1.xc g (H13.o.2.2.2.1 g hg),H13.o.2.1.shrinkX H13.o.2.2.1,H2.o.2.2.1.2.trans ⟨zDm (H8.o.2.2.2.2.2.2.mix H13.o.2.2.2.2.2.1 HTS.o),fun b hb=>.inl hb⟩⟩
        · have hfull:I2.drop k=[]:=List.drop_of_length_le (by have:=H8.o.2.1;omega)
          have hend:=G.o.2.2.2.2.2.2.2.2.2.2.2
          rw [hfull] at hend
          have HF:=Zh (show zFP o (zL (I2.filter fun ix=>decide (ofL l1 ix=[])) sj)=(o3,0,sk) from by rw [← hend];simp [zFP,zL])
          clear hfull hend
          go_wp2_with fail
          go_ret
          exact ⟨_,o3,C1,sk,rfl,⟨l1,R,H2.o.1,.inr ⟨by rw [← H2.o.2.2.2.1,H5.o.1],I,pk,by rw [← H2.o.2.2.2.1,H5.o.1];exact H6.o.1,fun ix _=>HPK.o ix,.inr ⟨by rw [← H2.o.2.2.2.1,H5.o.1,← H6.o.2.2.2.1,H7.o.1],I2,by rw [← H2.o.2.2.2.1,H5.o.1,← H6.o.2.2.2.1,H7.o.1];exact H8.o.1,by rw [← H2.o.2.2.2.1,H5.o.1,← H6.o.2.2.2.1,H7.o.1];exact (congrArg (fun q=>q.1) HF.o).symm,by rw [← H2.o.2.2.2.1,H5.o.1,← H6.o.2.2.2.1,H7.o.1];exact (congrArg (fun q=>q.2.2) HF.o).symm⟩⟩⟩,G.o.1.lower H2.o.2.2.1.2.1.size,fun g hg=>G.o.2.2.1.xc g (G.o.2.2.2.2.1 g hg),G.o.2.2.1.shrinkX G.o.2.2.2.1,H2.o.2.2.1.2.trans ⟨zDm (H8.o.2.2.2.2.2.2.mix G.o.2.2.2.2.2.2.1 HTS.o),fun b hb=>.inl hb⟩⟩
end Go.Proofs.YtbbojbdigiibbaaGreatDoor
end
section
namespace Go.Mem
open Go Go.RowKit Gf Lea Go.Proofs.YtbbojbdigiibbaaGreatDoor
set_option linter.unusedVariables false
theorem zDJ:∀ (L:List ByteArray) {m:Nat} {st:St} {t:Bool},zAu m st→st.disk.stops=false →
  (zx L st t).2.1=0∧zAu (m+L.length) (zx L st t).2.2∧(zx L st t).2.2.disk.stops=false∧(zx L st t).2.2.room=st.room∧(zx L st t).2.2.recs.length=st.recs.length∧(∀ nm,(nm∈L→Sto.look (zx L st t).2.2.recs nm=none)∧(nm∉L→Sto.look (zx L st t).2.2.recs nm=Sto.look st.recs nm))∧((zx L st t).1=true↔t=true∨∃ n∈L,noL n=true∧Sto.look st.recs n≠none)
 | [],m,st,t,h,hs=>⟨rfl,h,hs,rfl,rfl,fun nm=>⟨fun h=>(List.not_mem_nil h).elim,fun _=>rfl⟩,by simp [zx]⟩
 | n::l,m,st,t,h,hs=>by
   rw [zx]
   have hg:st.get n=Sto.look st.recs n:=St.get_look h.dead n
   split
   · rename_i h1
     rw [hg] at h1
     have hd:=h.drop n
     generalize zA8 st n=R at hd
     cases hd with
     | none h'=>rw [h'] at h1;cases h1
     | torn _ _ _ _ hd' _ _ _ _ _ _ _=>rw [hs] at hd';cases hd'
     | done s' x hx k hk hr hl ho hst hlk =>
       rw [if_pos rfl]
       obtain ⟨a1,a2,a3,a4,a5,a6,a7⟩:=zDJ l (t:=t || noL n) hl (hst.trans hs)
       refine ⟨a1,a2.le (by rw [List.length_cons];omega),a3,a4.trans ho,a5.trans (by rw [hr,List.length_set]),fun nm=>?_,a7.trans ?_⟩
       · refine ⟨fun hn=>?_,fun hn=>?_⟩
         · rcases Classical.em (nm∈l) with e2 | e2
           · exact (a6 nm).1 e2
           · rw [(a6 nm).2 e2,hlk,if_pos]
             exact (List.mem_cons.1 hn).resolve_right e2
         · rw [(a6 nm).2 fun e2=>hn (List.mem_cons_of_mem _ e2),hlk,if_neg fun e=>hn (by rw [e];exact List.mem_cons_self)]
       · rw [Bool.or_eq_true]
         constructor
         · rintro ((h' | h') | ⟨y,hy,h2,h3⟩)
           · exact .inl h'
           · exact .inr ⟨n,by simp,h',by rw [hx];simp⟩
           · rw [hlk] at h3
             split at h3
             · exact absurd rfl h3
             · exact .inr ⟨y,by simp [hy],h2,h3⟩
         · rintro (h' | ⟨y,hy,h2,h3⟩)
           · exact .inl (.inl h')
           · by_cases e:y=n
             · subst e;exact .inl (.inr h2)
             · rcases List.mem_cons.1 hy with hy | hy
               · exact absurd hy e
               · exact .inr ⟨y,hy,h2,by rw [hlk,if_neg e];exact h3⟩
   · rename_i h1
     rw [hg] at h1
     have h2:Sto.look st.recs n=none:=by
      cases hh:Sto.look st.recs n with
      | none=>rfl
      | some _=>rw [hh] at h1;exact absurd rfl h1
     obtain ⟨a1,a2,a3,a4,a5,a6,a7⟩:=zDJ l (t:=t) h hs
     refine ⟨a1,a2.le (by rw [List.length_cons];omega),a3,a4,a5,fun nm=>?_,a7.trans ?_⟩
     · refine ⟨fun hn=>?_,fun hn=>(a6 nm).2 fun e2=>hn (List.mem_cons_of_mem _ e2)⟩
       rcases Classical.em (nm∈l) with e2 | e2
       · exact (a6 nm).1 e2
       · rw [(a6 nm).2 e2,(List.mem_cons.1 hn).resolve_right e2,h2]
     · constructor
       · rintro (h' | ⟨y,hy,h3,h4⟩)
         · exact .inl h'
         · exact .inr ⟨y,by simp [hy],h3,h4⟩
       · rintro (h' | ⟨y,hy,h3,h4⟩)
         · exact .inl h'
         · rcases List.mem_cons.1 hy with hy | hy
           · subst hy;exact absurd h2 h4
           · exact .inr ⟨y,hy,h3,h4⟩
theorem fmC {α β:Type} {f g:α→Option β}:∀ {l:List α},(∀ x∈l,f x=g x)→l.filterMap f=l.filterMap g
 | [],_=>rfl
 | x::l,h=>by
   rw [List.filterMap_cons,List.filterMap_cons,h x (by simp),fmC (l:=l) fun y hy=>h y (List.mem_cons_of_mem _ hy)]
end Go.Mem
end
