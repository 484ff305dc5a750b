/- Texts of this proof,packed: SrvReq,SrvBl,SrvPut. -/
import Derived.Test.YtbbojbdigiibbaaGreatDoorPa10
section
namespace Go.Mem
open Go Go.RowKit Gf Lea
structure Req where
 kind:Int
 ix:Key
 sec:Key
 ends:Int
 en:Key
 vt:Value
 vb:Value
structure Req.Wf (r:Req):Prop where
 ix:r.ix.length=16
 sec:r.sec.length=16
 en:r.en.length=16
def zK (r:Req):List Value:=.int .i64 r.kind::(bV r.ix++(bV r.sec++(.int .i64 r.ends::(bV r.en++[r.vt,r.vb]))))
theorem zAP {r:Req} (h:r.Wf):(zK r).length=52:=by
 simp [zK,zB,h.ix,h.sec,h.en]
theorem zMe (r:Req):(zK r)[0]?=some (.int .i64 r.kind):=rfl
theorem zIi {r:Req} (h:r.Wf) {k:Nat} (hk:k < 16):(zK r)[1+k]?=(bV r.ix)[k]?:=by
 unfold zK
 rw [Nat.add_comm,List.getElem?_cons_succ,List.getElem?_append_left (by rw [zB,h.ix];exact hk)]
theorem zNi {r:Req} (h:r.Wf) {k:Nat} (hk:k < 16):(zK r)[17+k]?=(bV r.sec)[k]?:=by
 unfold zK
 rw [show 17+k=(16+k)+1 from by omega,List.getElem?_cons_succ,List.getElem?_append_right (by rw [zB,h.ix];omega),zB,h.ix,List.getElem?_append_left (by rw [zB,h.sec];omega),show 16+k - 16=k from by omega]
theorem zMd {r:Req} (h:r.Wf):(zK r)[33]?=some (.int .i64 r.ends):=by
 unfold zK
 rw [List.getElem?_cons_succ,List.getElem?_append_right (by rw [zB,h.ix];omega),zB,h.ix,List.getElem?_append_right (by rw [zB,h.sec];omega),zB,h.sec];rfl
theorem zIh {r:Req} (h:r.Wf) {k:Nat} (hk:k < 16):(zK r)[34+k]?=(bV r.en)[k]?:=by
 unfold zK
 rw [show 34+k=(33+k)+1 from by omega,List.getElem?_cons_succ,List.getElem?_append_right (by rw [zB,h.ix];omega),zB,h.ix,List.getElem?_append_right (by rw [zB,h.sec];omega),zB,h.sec,show 33+k - 16 - 16=k+1 from by omega,List.getElem?_cons_succ,List.getElem?_append_left (by rw [zB,h.en];exact hk)]
theorem zBk {r:Req} (h:r.Wf):(zK r)[50]?=some r.vt∧(zK r)[51]?=some r.vb:=by
 unfold zK
 constructor
 · rw [List.getElem?_cons_succ,List.getElem?_append_right (by rw [zB,h.ix];omega),zB,h.ix,List.getElem?_append_right (by rw [zB,h.sec];omega),zB,h.sec,List.getElem?_cons_succ,List.getElem?_append_right (by rw [zB,h.en];omega),zB,h.en];rfl
 · rw [List.getElem?_cons_succ,List.getElem?_append_right (by rw [zB,h.ix];omega),zB,h.ix,List.getElem?_append_right (by rw [zB,h.sec];omega),zB,h.sec,List.getElem?_cons_succ,List.getElem?_append_right (by rw [zB,h.en];omega),zB,h.en];rfl
structure zAC (w:World) (p:Nat) (t:TypeId) (r:Req):Prop where
 blk:Blk w p (zK r).toArray t
 wf:r.Wf
section
variable {w w':World} {p:Nat} {t:TypeId} {r:Req}
theorem zAC.new (w:World) (t:TypeId) (h:r.Wf):zAC (w.alloc (.cells (zK r).toArray t)) w.heap.size t r:=⟨Blk.new _ _ _,h⟩
theorem zAC.below (h:zAC w p t r) (hb:Below w.heap.size w w'):zAC w' p t r:=⟨h.blk.kept hb,h.wf⟩
theorem zAC.chg {S:Nat→Prop} (h:zAC w p t r) (hc:Chg S w w') (hs:¬ S p):zAC w' p t r:=⟨hc.blk h.blk hs,h.wf⟩
theorem zAC.kind (h:zAC w p t r):w.cell? ⟨p,0,none⟩=some (.int .i64 r.kind):=by rw [h.blk.cell];simp [zMe]
theorem zAC.ends (h:zAC w p t r):w.cell? ⟨p,33,none⟩=some (.int .i64 r.ends):=by rw [h.blk.cell];simp [zMd h.wf]
theorem zAC.tests (h:zAC w p t r):w.cell? ⟨p,50,none⟩=some r.vt:=by rw [h.blk.cell];simp [(zBk h.wf).1]
theorem zAC.blobs (h:zAC w p t r):w.cell? ⟨p,51,none⟩=some r.vb:=by rw [h.blk.cell];simp [(zBk h.wf).2]
theorem zAC.rix (h:zAC w p t r):zN 16 w p 1=bV r.ix:=zCE h.blk (by rw [zB,h.wf.ix]) (fun k hk=>by simp [zIi h.wf hk])
theorem zAC.rsec (h:zAC w p t r):zN 16 w p 17=bV r.sec:=zCE h.blk (by rw [zB,h.wf.sec]) (fun k hk=>by simp [zNi h.wf hk])
theorem zAC.ren (h:zAC w p t r):zN 16 w p 34=bV r.en:=zCE h.blk (by rw [zB,h.wf.en]) (fun k hk=>by simp [zIh h.wf hk])
theorem zAC.hix (h:zAC w p t r):zY 16 w p 1:=zL h.blk (by simp [zAP h.wf])
theorem zAC.hsec (h:zAC w p t r):zY 16 w p 17:=zL h.blk (by simp [zAP h.wf])
theorem zAC.hen (h:zAC w p t r):zY 16 w p 34:=zL h.blk (by simp [zAP h.wf])
theorem zAC.hall (h:zAC w p t r):zY 52 w p 0:=zL h.blk (by simp [zAP h.wf])
theorem zAC.rall (h:zAC w p t r):zN 52 w p 0=zK r:=zP h.blk (zAP h.wf)
theorem zAC.gix (h:zAC w p t r):w.rangeAt p 1 (bV r.ix):=by have:=zAB h.hix;rwa [h.rix] at this
theorem zAC.lt (h:zAC w p t r):p < w.heap.size:=h.blk.lt
end
end Go.Mem
namespace Go.Proofs.YtbbojbdigiibbaaGreatDoor
open Go Go.RowKit Go.Mem Gf Lea
inductive zCe (s:zG) (ix sec:Key) (e:Int):Int→zG→Prop
 | full (h:zBK s.tab ix sec e false s.tab):zCe s ix sec e 3 s
 | laid (l2:List Les) (err:Int) (s':zG) (h:zBK s.tab ix sec e true l2) (hl:zGc s ix l2 err s'):zCe s ix sec e err s'
theorem zIf {w w1 w2:World} {C X:Nat→Prop} {pb:Nat} {s:zG} (h:zT w C X pb s) {t2:Nat} {v2 v3:Value} {l:List Les} (h1:w.heap.size≤t2) (h2:∀ g,v2.ownBlock=some g→w.heap.size≤g) (hb:Below w.heap.size w w1) (hc:zAt t2 v2 v3 w1 w2) (hh:Heap w2 t2 v3 l) :
  zT w2 C (fun b=>X b∨(w.heap.size≤b∧b < w2.heap.size)) pb s∧Below w.heap.size w w2∧(w.heap.size≤t2∧t2 < w2.heap.size)∧∀ g,v3.ownBlock=some g→w.heap.size≤g∧g < w2.heap.size:=by
 have hb2:Below w.heap.size w w2:=((Chg.of_below (S:=fun b=>w.heap.size≤b) hb).mix hc.1 (fun k hk=>by
  rcases hk with rfl | hk
  · exact .inl h1
  · exact .inl (h2 k hk))).below (Nat.le_refl _) (fun _ h=>h)
 refine ⟨h.growX (fun b hb=>.inl hb) (fun b hb=>hb.imp id And.left) hb2 (fun b hb=>?_),hb2,⟨h1,hh.tab.cell.lt⟩,fun g hg=>⟨?_,(hh.tab.own.lt g hg).2⟩⟩
 · rcases hb with hb | hb
   · exact Nat.lt_of_lt_of_le (h.lt (.inr hb)) hb2.size
   · exact hb.2
 · rcases hc.2 g hg with h3 | h3
   · exact h2 g h3
   · exact Nat.le_trans hb.size h3
attribute [local irreducible] zK
attribute [local go_sem ↓] Go.wp_at_zero Go.wp_at_succ
attribute [local go_sem ↓] zAK zD2
attribute [local go_sem] ptrB_eq ptrO_eq ptrIs_eq aggL_eq aggIs_eq zS ze zC zF
set_option maxRecDepth 100000 in
set_option maxHeartbeats 1000000 in
theorem zBw (C X:Nat→Prop) (pb:Nat) (s:zG) (r:Req) (hr:r.Wf) (w:World) (h:zT w C X pb s) (hB:zCP s) :
  Calls Tryz.prog 143 #[.pointer (some ⟨pb,0,none⟩),.agg (zK r).toArray] w fun e w'=>∃ C' err s',e=.returned (.int .i64 err)∧zCe s r.ix r.sec r.ends err s'∧zT w' C' X pb s'∧zAS C C' w w':=by
 have hR:=zAC.new w 47 hr
 have hb0:=(Below.refl w.heap.size w).alloc (Nat.le_refl _) (.cells (zK r).toArray 47)
 obtain ⟨cr,hcr⟩:∃ c,c=zK r:=⟨_,rfl⟩
 rw [← hcr] at hR hb0 ⊢
 have HCR:=Lib.hid hcr
 have H:=Lib.hid (And.intro h (And.intro hB hr))
 obtain ⟨w0,hw0⟩:∃ x,x=w.alloc (.cells cr.toArray 47):=⟨_,rfl⟩
 obtain ⟨p3,hp3⟩:∃ p,p=w.heap.size:=⟨_,rfl⟩
 have HW:=Lib.hid (And.intro hw0 hp3)
 rw [← hw0,← hp3] at hR
 rw [← hw0] at hb0
 have H0:=Lib.hid (And.intro hR (And.intro hb0 (h.below hb0)))
 clear h hB hr hcr hw0 hp3 hR hb0
 go_enter Tryz.func143,Tryz.ntmps143
 go_upto_region 1 with fail
 rw [← HW.out.1,← HW.out.2]
 obtain ⟨sb,lb,d,L,tb,v,hA⟩:=H0.out.2.2
 have c4:w0.cell? ⟨pb,4,none⟩=some (.pointer (some ⟨tb,0,none⟩)):=hA.blk.cell 4
 have HA:=Lib.hid hA
 clear hA
 go_wp2_with fail
 refine (zD5 w0 tb v s.tab HA.out.heap (by have:=H.out.2.1.tab;omega)).mono ?_
 rintro e w1 ⟨t2,v2,rfl,f1,f2,f3,f4⟩
 have hR1:=H0.out.1.below f4
 have r1:=hR1.rix
 have r2:=hR1.rsec
 have r3:=hR1.ends
 have g1:=hR1.hix
 have g2:=hR1.hsec
 obtain ⟨ki,hki⟩:∃ c,c=bV r.ix:=⟨_,rfl⟩
 obtain ⟨ks,hks⟩:∃ c,c=bV r.sec:=⟨_,rfl⟩
 rw [← hki] at r1
 rw [← hks] at r2
 have k1:ki.length=16:=by rw [hki,zB];exact H.out.2.2.ix
 have k2:ks.length=16:=by rw [hks,zB];exact H.out.2.2.sec
 have k3:ks.toArray.push (.int .i64 r.ends)=(zAv (r.sec,r.ends)).toArray:=by rw [hks];unfold zAv;simp
 have k4:ks.toArray++#[.int .i64 r.ends]=(zAv (r.sec,r.ends)).toArray:=by rw [hks];unfold zAv;simp
 have H1:=Lib.hid (And.intro f1 (And.intro f2 (And.intro f3 (And.intro f4 (And.intro hki (And.intro hks hR1))))))
 clear f1 f2 f3 f4 hki hks hR1
 go_wp2_with fail
 refine (show Calls _ _ _ _ _ from (by rw [H1.out.2.2.2.2.1];exact zHe w1 t2 v2 s.tab r.ix r.sec r.ends H1.out.2.2.1 HA.out.good (by have:=H.out.2.1.tab;omega) H.out.2.2.ix H.out.2.2.sec)).mono ?_
 rintro e w2 ⟨b,v3,l2,rfl,ha,hh,hc⟩
 obtain ⟨q1,q2,q3,q4⟩:=zIf H0.out.2.2 H1.out.1 H1.out.2.1 H1.out.2.2.2.1 hc hh
 have hR2:=H0.out.1.below q2
 have r1':=hR2.rix
 have g1':=hR2.hix
 rw [← H1.out.2.2.2.2.1] at r1'
 have H2:=Lib.hid (And.intro q1 (And.intro q2 (And.intro q3 (And.intro q4 (And.intro ha hh)))))
 clear q1 q2 q3 q4 hR2 ha hh hc r1 r2 r3 g1 g2 k3 k4
 cases b with
 | false =>
   have hno:zBK s.tab r.ix r.sec r.ends false s.tab:=by
    have:=H2.out.2.2.2.2.1
    cases this with
    | no h=>exact .no h
   have HNO:=Lib.hid hno
   clear hno
   go_wp2_with fail
   go_ret
   exact ⟨C,3,s,rfl,.full HNO.out,(H0.out.2.2.below H2.out.2.1),zAS.of_below (H0.out.2.1.trans (H2.out.2.1.mono H0.out.2.1.size))⟩
 | true =>
   go_wp2_with fail
   refine (show Calls _ _ _ _ _ from (by rw [H1.out.2.2.2.2.1];exact zHp C _ pb s r.ix H.out.2.2.ix t2 v3 l2 w2 H2.out.1 H.out.2.1 H2.out.2.2.2.2.2 (H2.out.2.2.2.2.1.good HA.out.good) (by have:=H2.out.2.2.2.2.1.len;have:=H.out.2.1.tab;omega) (.inr H2.out.2.2.1) (fun g hg=>.inr (H2.out.2.2.2.1 g hg)))).mono ?_
   rintro e w3 ⟨C',X',err,s',rfl,hl,hs',hc3,hC',hX'⟩
   have HL:=Lib.hid (And.intro hl (And.intro hs' (And.intro hc3 (And.intro hC' hX'))))
   clear hl hs' hc3 hC' hX'
   go_wp2_with fail
   go_ret
   have hw:=H0.out.2.1
   have hb2:=hw.trans (H2.out.2.1.mono hw.size)
   refine ⟨C',err,s',rfl,.laid l2 err s' H2.out.2.2.2.2.1 HL.out.1,?_,(Chg.of_below hb2).trans HL.out.2.2.1,fun b hb=>?_⟩
   · obtain ⟨sb',lb',d',L',tb',v',hA'⟩:=HL.out.2.1
     refine ⟨sb',lb',d',L',tb',v',hA'.shrinkX (fun b hb=>HL.out.2.2.2.2 b (.inl hb) ?_)⟩
     have hlt:=H.out.1.lt (.inr hb)
     have hz:=hw.size
     rintro (e | e)
     · have:=H2.out.2.2.1.1;omega
     · have:=(H2.out.2.2.2.1 b e).1;omega
   · have hz:=hw.size
     rcases HL.out.2.2.2.1 b hb with h | h | h
     · exact .inl h
     · right
       rw [h]
       exact Nat.le_trans hz H2.out.2.2.1.1
     · right
       exact Nat.le_trans hz (H2.out.2.2.2.1 b h).1
theorem zK2 (l:List Les) (ix:Key):∃ out,OfR l ix out:=by
 refine ⟨(ofL l ix).mergeSort (fun a b=>!ltL b a),List.mergeSort_perm _ _,?_⟩
 have:=List.pairwise_mergeSort (le:=fun a b=>!ltL b a) (fun a b c h1 h2=>?_) (fun a b=>?_) (ofL l ix)
 · exact this.imp fun {a b} h=>by simpa using h
 · simp only [Bool.not_eq_true'] at h1 h2 ⊢
   exact ordL.trans a b c h1 h2
 · have:=ordL.asymm a b
   cases h:ltL a b with
   | false=>simp
   | true=>simp [this h]
def zEa (s:zG) (ix sec:Key) (e:Int) (name:ByteArray) (data:List UInt8) (is:Bool) (err:Int):Prop :=
 ∃ b l2 out,zBK s.tab ix sec e b l2∧(b=true→OfR l2 ix out) ∧
   err=if b=false∨s.st.freeN < (if is=true then 1 else 2) then 3 else if zAb s.st.room name data=false∨zAb s.st.room (zD ix) (zu out)=false then 1 else 0
set_option maxRecDepth 100000 in
set_option maxHeartbeats 2000000 in
theorem zGg (C X:Nat→Prop) (pb:Nat) (s:zG) (r:Req) (hr:r.Wf) (name:ByteArray) (vd:Value) (data:List UInt8) (is:Bool) (w:World) (h:zT w C X pb s) (hB:zCP s) (hd:Bys w vd data) (hn:name.size≤1000000) :
  Calls Tryz.prog 142 #[.pointer (some ⟨pb,0,none⟩),.agg (zK r).toArray,.string name,vd,.bool is] w fun e w'=>∃ err,e=.returned (.int .i64 err)∧zEa s r.ix r.sec r.ends name data is err∧Below w.heap.size w w':=by
 have hR:=zAC.new w 47 hr
 have hb0:=(Below.refl w.heap.size w).alloc (Nat.le_refl _) (.cells (zK r).toArray 47)
 obtain ⟨cr,hcr⟩:∃ c,c=zK r:=⟨_,rfl⟩
 rw [← hcr] at hR hb0 ⊢
 have HCR:=Lib.hid hcr
 have H:=Lib.hid (And.intro h (And.intro hB (And.intro hr (And.intro hd hn))))
 obtain ⟨w0,hw0⟩:∃ x,x=w.alloc (.cells cr.toArray 47):=⟨_,rfl⟩
 obtain ⟨p3,hp3⟩:∃ p,p=w.heap.size:=⟨_,rfl⟩
 have HW:=Lib.hid (And.intro hw0 hp3)
 rw [← hw0,← hp3] at hR
 rw [← hw0] at hb0
 have H0:=Lib.hid (And.intro hR (And.intro hb0 (h.below hb0)))
 clear h hB hr hcr hw0 hp3 hR hb0 hd hn
 go_enter Tryz.func142,Tryz.ntmps142
 go_upto_region 1 with fail
 rw [← HW.out.1,← HW.out.2]
 obtain ⟨sb,lb,d,L,tb,v,hA⟩:=H0.out.2.2
 have c4:w0.cell? ⟨pb,4,none⟩=some (.pointer (some ⟨tb,0,none⟩)):=hA.blk.cell 4
 have HA:=Lib.hid hA
 clear hA
 go_wp2_with fail
 refine (zD5 w0 tb v s.tab HA.out.heap (by have:=H.out.2.1.tab;omega)).mono ?_
 rintro e w1 ⟨t2,v2,rfl,f1,f2,f3,f4⟩
 have hR1:=H0.out.1.below f4
 have r1:=hR1.rix
 have r2:=hR1.rsec
 have r3:=hR1.ends
 have g1:=hR1.hix
 have g2:=hR1.hsec
 obtain ⟨ki,hki⟩:∃ c,c=bV r.ix:=⟨_,rfl⟩
 obtain ⟨ks,hks⟩:∃ c,c=bV r.sec:=⟨_,rfl⟩
 rw [← hki] at r1
 rw [← hks] at r2
 have k1:ki.length=16:=by rw [hki,zB];exact H.out.2.2.1.ix
 have k2:ks.length=16:=by rw [hks,zB];exact H.out.2.2.1.sec
 have k3:ks.toArray.push (.int .i64 r.ends)=(zAv (r.sec,r.ends)).toArray:=by rw [hks];unfold zAv;simp
 have k4:ks.toArray++#[.int .i64 r.ends]=(zAv (r.sec,r.ends)).toArray:=by rw [hks];unfold zAv;simp
 have H1:=Lib.hid (And.intro f1 (And.intro f2 (And.intro f3 (And.intro f4 (And.intro hki (And.intro hks hR1))))))
 clear f1 f2 f3 f4 hki hks hR1
 -- how many slots are wanted
 obtain ⟨fr,hfr⟩:∃ f:Nat,f=if is=true then 1 else 2:=⟨_,rfl⟩
 go_upto_if 18 with fail
 go_cut [12] (fun s12 wx=>s12=.int .i64 fr∧w1=wx)
 case first =>
  cases is
  · have e2:fr=2:=hfr
    subst e2
    clear hfr
    go_wp2_with fail
    go_meet
    exact ⟨rfl,rfl⟩
  · have e2:fr=1:=hfr
    subst e2
    clear hfr
    go_wp2_with fail
    go_meet
    exact ⟨rfl,rfl⟩
 case rest =>
 obtain ⟨rfl,rfl⟩:=hcut
 have HFR:=Lib.hid hfr
 have hfr2:fr≤2:=by rw [hfr];split <;> omega
 clear hfr
 go_wp2_with fail
 refine (show Calls _ _ _ _ _ from (by rw [H1.out.2.2.2.2.1];exact zHe w1 t2 v2 s.tab r.ix r.sec r.ends H1.out.2.2.1 HA.out.good (by have:=H.out.2.1.tab;omega) H.out.2.2.1.ix H.out.2.2.1.sec)).mono ?_
 rintro e w2 ⟨b,v3,l2,rfl,ha,hh,hc⟩
 obtain ⟨q1,q2,q3,q4⟩:=zIf H0.out.2.2 H1.out.1 H1.out.2.1 H1.out.2.2.2.1 hc hh
 have hbw2:=H0.out.2.1.trans (q2.mono H0.out.2.1.size)
 have H2:=Lib.hid (And.intro q2 (And.intro hbw2 (And.intro ha hh)))
 have c3:w2.cell? ⟨pb,3,none⟩=some (.pointer (some ⟨sb,0,none⟩)):=(HA.out.below q2).blk.cell 3
 clear q1 q2 q3 q4 ha hh hc r1 r2 r3 g1 g2 k3 k4 hbw2
 cases b with
 | false =>
   have HNO:Hid (zEa s r.ix r.sec r.ends name data is 3):=⟨false,l2,[],H2.out.2.2.1,(fun h=>by cases h),by rw [if_pos (.inl rfl)]⟩
   go_wp2_with fail
   go_ret
   exact ⟨3,rfl,HNO.out,H2.out.2.1⟩
 | true =>
   obtain ⟨out,hout⟩:=zK2 l2 r.ix
   have HOUT:=Lib.hid hout
   clear hout
   go_wp2_with fail
   refine (zKD _ sb lb d L s.st w2 (HA.out.below H2.out.1).st).mono ?_
   rintro e w3 ⟨rfl,hb3⟩
   obtain ⟨fn,hfn⟩:∃ f,f=s.st.freeN:=⟨_,rfl⟩
   rw [← hfn]
   have HFN:=Lib.hid hfn
   have H3:=Lib.hid (And.intro (H2.out.1.trans (hb3.mono H2.out.1.size)) (H2.out.2.1.trans (hb3.mono H2.out.2.1.size)))
   have H4:=Lib.hid hb3
   have H5:=Lib.hid (H2.out.2.2.1.good HA.out.good)
   clear hfn hb3 c3
   by_cases h3:fn < fr
   · have HNO:Hid (zEa s r.ix r.sec r.ends name data is 3):=⟨true,l2,out,H2.out.2.2.1,fun _=>HOUT.out,by rw [if_pos (.inr (by rw [← HFN.out,← HFR.out];exact h3))]⟩
     have d3:decide ((fn:Int) < (fr:Int))=true:=by simpa using h3
     have d3':decide (fn < fr)=true:=by simpa using h3
     go_wp2_with fail
     go_ret
     exact ⟨3,rfl,HNO.out,H3.out.2⟩
   · have d3:decide ((fn:Int) < (fr:Int))=false:=by simp;omega
     have d3':decide (fn < fr)=false:=by simp;omega
     go_upto_region 7 with fail
     obtain ⟨f1,hf1⟩:∃ f,f=zAb s.st.room name data:=⟨_,rfl⟩
     have HF1:=Lib.hid hf1
     clear hf1
     cases f1 with
     | false =>
       refine Tail.zC4 23 (fun k=>k == 6) (fun k=>if k=6 then some (.bool false) else none) (fun D z w'=>Below w3.heap.size w3 w'∧(D 19=true→zBT 5 w' w3.heap.size (z 19) (zu out)))
        (by kernel_rfl) (by kernel_rfl) (fun k hk=>by simp at hk;omega) (fun D z z' w' hz h=>⟨h.1,fun d19=>by rw [← hz 19 d19];exact h.2 d19⟩) ⟨(Below.refl _ _).drew,fun h=>by cases h⟩ (fun z=>?_)
       simp only [List.take_succ_cons,List.take_zero,List.drop_succ_cons,List.drop_zero]
       refine Tail.zB0 (by rfl) (by rfl) ?_
       apply Exists.intro
       refine ⟨fun w=>?_,?_⟩
       · go_simp <;> with_reducible rfl
       simp only [Act.put,List.setIfInBounds_toArray,List.set_cons_zero,List.set_cons_succ]
       refine Tail.zB0 (by rfl) (by rfl) ?_
       apply Exists.intro
       refine ⟨fun w=>?_,?_⟩
       · go_simp <;> with_reducible rfl
       simp only [Act.put,List.setIfInBounds_toArray,List.set_cons_zero,List.set_cons_succ]
       refine Tail.zB0 (by rfl) (by rfl) ?_
       apply Exists.intro
       refine ⟨fun w=>?_,?_⟩
       · go_simp <;> with_reducible rfl
       simp only [Act.put,List.setIfInBounds_toArray,List.set_cons_zero,List.set_cons_succ]
       refine Tail.J_at (by rfl) (by rfl) ?_
       apply Exists.intro
       refine ⟨fun D w' _ _ hJ=>?_,?_⟩
       · have hc:w'.cell? ⟨pb,3,none⟩=some (.pointer (some ⟨sb,0,none⟩)):=((HA.out.below H3.out.1).below hJ.1).blk.cell 3
         clear hJ
         go_simp <;> with_reducible rfl
       simp only [Act.put,List.setIfInBounds_toArray,List.set_cons_zero,List.set_cons_succ]
       refine Tail.zB0 (by rfl) (by rfl) ?_
       apply Exists.intro
       refine ⟨fun w=>?_,?_⟩
       · go_simp <;> with_reducible rfl
       simp only [Act.put,List.setIfInBounds_toArray,List.set_cons_zero,List.set_cons_succ]
       refine Tail.zB0 (by rfl) (by rfl) ?_
       apply Exists.intro
       refine ⟨fun w=>?_,?_⟩
       · go_simp <;> with_reducible rfl
       simp only [Act.put,List.setIfInBounds_toArray,List.set_cons_zero,List.set_cons_succ]
       refine Tail.zC6 (by rfl) (by rfl) ?_ ?_
       · apply Exists.intro
         apply Exists.intro
         refine ⟨fun w'=>?_,?_⟩
         · go_simp <;> exact ⟨rfl,rfl⟩
         intro D z' w' hD hz hd hp hJ
         have hb3:=H3.out.2.trans (hJ.1.mono H3.out.2.size)
         refine (zBb _ sb lb d L s.st name vd data w' ((HA.out.below H3.out.1).below hJ.1).st (H.out.2.2.2.1.below hb3) (by have:=H.out.2.2.2.2;omega)).mono ?_
         rintro e w'' ⟨rfl,hb⟩
         refine ⟨_,rfl,fun c hc=>by simp at hc;rw [← hc,← HF1.out],⟨hJ.1.trans (hb.mono hJ.1.size),fun d19=>?_⟩⟩
         exact zCp (hJ.2 d19) hb
       simp only [Act.put,List.setIfInBounds_toArray,List.set_cons_zero,List.set_cons_succ,Nat.reduceAdd,reduceIte,Option.getD_some]
       refine Tail.zB0 (by rfl) (by rfl) ?_
       apply Exists.intro
       refine ⟨fun w=>?_,?_⟩
       · go_simp <;> with_reducible rfl
       simp only [Act.put,List.setIfInBounds_toArray,List.set_cons_zero,List.set_cons_succ]
       refine Tail.zB0 (by rfl) (by rfl) ?_
       apply Exists.intro
       refine ⟨fun w=>?_,?_⟩
       · go_simp <;> with_reducible rfl
       simp only [Act.put,List.setIfInBounds_toArray,List.set_cons_zero,List.set_cons_succ]
       refine Tail.zB2 (by rfl) (by rfl) ?_
       simp only [Act.put,List.setIfInBounds_toArray,List.set_cons_zero,List.set_cons_succ]
       refine Tail.zB2 (by rfl) (by rfl) ?_
       simp only [Act.put,List.setIfInBounds_toArray,List.set_cons_zero,List.set_cons_succ]
       refine Tail.zB2 (by rfl) (by rfl) ?_
       simp only [Act.put,List.setIfInBounds_toArray,List.set_cons_zero,List.set_cons_succ]
       refine Tail.zB2 (by rfl) (by rfl) ?_
       simp only [Act.put,List.setIfInBounds_toArray,List.set_cons_zero,List.set_cons_succ]
       refine Tail.zB2 (by rfl) (by rfl) ?_
       simp only [Act.put,List.setIfInBounds_toArray,List.set_cons_zero,List.set_cons_succ]
       refine Tail.zB2 (by rfl) (by rfl) ?_
       simp only [Act.put,List.setIfInBounds_toArray,List.set_cons_zero,List.set_cons_succ]
       refine Tail.zB2 (by rfl) (by rfl) ?_
       simp only [Act.put,List.setIfInBounds_toArray,List.set_cons_zero,List.set_cons_succ]
       refine Tail.zB2 (by rfl) (by rfl) ?_
       simp only [Act.put,List.setIfInBounds_toArray,List.set_cons_zero,List.set_cons_succ]
       refine Tail.zB2 (by rfl) (by rfl) ?_
       simp only [Act.put,List.setIfInBounds_toArray,List.set_cons_zero,List.set_cons_succ]
       refine Tail.zB2 (by rfl) (by rfl) ?_
       simp only [Act.put,List.setIfInBounds_toArray,List.set_cons_zero,List.set_cons_succ]
       refine Tail.zB2 (by rfl) (by rfl) ?_
       simp only [Act.put,List.setIfInBounds_toArray,List.set_cons_zero,List.set_cons_succ]
       refine Tail.zB2 (by rfl) (by rfl) ?_
       simp only [Act.put,List.setIfInBounds_toArray,List.set_cons_zero,List.set_cons_succ]
       refine Tail.zB2 (by rfl) (by rfl) ?_
       simp only [Act.put,List.setIfInBounds_toArray,List.set_cons_zero,List.set_cons_succ]
       refine Tail.zB0 (by rfl) (by rfl) ?_
       apply Exists.intro
       refine ⟨fun w=>?_,?_⟩
       · go_simp <;> with_reducible rfl
       simp only [Act.put,List.setIfInBounds_toArray,List.set_cons_zero,List.set_cons_succ]
       intro w4 hJ4
       have HB4:=Lib.hid (H3.out.2.trans (hJ4.1.mono H3.out.2.size))
       clear hJ4
       have HNO:Hid (zEa s r.ix r.sec r.ends name data is 1):=⟨true,l2,out,H2.out.2.2.1,fun _=>HOUT.out,by rw [if_neg (by rw [← HFN.out,← HFR.out];rintro (h | h);cases h;exact h3 h),if_pos (.inl HF1.out.symm)]⟩
       go_wp2_with fail
       go_ret
       exact ⟨1,rfl,HNO.out,HB4.out⟩
     | true =>
       obtain ⟨f2,hf2⟩:∃ f,f=zAb s.st.room (zD r.ix) (zu out):=⟨_,rfl⟩
       have HF2:=Lib.hid hf2
       clear hf2
       refine Tail.zC4 23 (fun k=>k == 6 || k == 15 || k == 19 || k == 20) (fun k=>if k=6 then some (.bool true) else if k=15 then some (.string (zD r.ix)) else if k=20 then some (.bool f2) else none) (fun D z w'=>Below w3.heap.size w3 w'∧(D 19=true→zBT 5 w' w3.heap.size (z 19) (zu out)))
        (by kernel_rfl) (by kernel_rfl) (fun k hk=>by simp at hk;omega) (fun D z z' w' hz h=>⟨h.1,fun d19=>by rw [← hz 19 d19];exact h.2 d19⟩) ⟨(Below.refl _ _).drew,fun h=>by cases h⟩ (fun z=>?_)
       simp only [List.take_succ_cons,List.take_zero,List.drop_succ_cons,List.drop_zero]
       refine Tail.zB0 (by rfl) (by rfl) ?_
       apply Exists.intro
       refine ⟨fun w=>?_,?_⟩
       · go_simp <;> with_reducible rfl
       simp only [Act.put,List.setIfInBounds_toArray,List.set_cons_zero,List.set_cons_succ]
       refine Tail.zB0 (by rfl) (by rfl) ?_
       apply Exists.intro
       refine ⟨fun w=>?_,?_⟩
       · go_simp <;> with_reducible rfl
       simp only [Act.put,List.setIfInBounds_toArray,List.set_cons_zero,List.set_cons_succ]
       refine Tail.zB0 (by rfl) (by rfl) ?_
       apply Exists.intro
       refine ⟨fun w=>?_,?_⟩
       · go_simp <;> with_reducible rfl
       simp only [Act.put,List.setIfInBounds_toArray,List.set_cons_zero,List.set_cons_succ]
       refine Tail.J_at (by rfl) (by rfl) ?_
       apply Exists.intro
       refine ⟨fun D w' _ _ hJ=>?_,?_⟩
       · have hc:w'.cell? ⟨pb,3,none⟩=some (.pointer (some ⟨sb,0,none⟩)):=((HA.out.below H3.out.1).below hJ.1).blk.cell 3
         clear hJ
         go_simp <;> with_reducible rfl
       simp only [Act.put,List.setIfInBounds_toArray,List.set_cons_zero,List.set_cons_succ]
       refine Tail.zB0 (by rfl) (by rfl) ?_
       apply Exists.intro
       refine ⟨fun w=>?_,?_⟩
       · go_simp <;> with_reducible rfl
       simp only [Act.put,List.setIfInBounds_toArray,List.set_cons_zero,List.set_cons_succ]
       refine Tail.zB0 (by rfl) (by rfl) ?_
       apply Exists.intro
       refine ⟨fun w=>?_,?_⟩
       · go_simp <;> with_reducible rfl
       simp only [Act.put,List.setIfInBounds_toArray,List.set_cons_zero,List.set_cons_succ]
       refine Tail.zC6 (by rfl) (by rfl) ?_ ?_
       · apply Exists.intro
         apply Exists.intro
         refine ⟨fun w'=>?_,?_⟩
         · go_simp <;> exact ⟨rfl,rfl⟩
         intro D z' w' hD hz hd hp hJ
         have hb3:=H3.out.2.trans (hJ.1.mono H3.out.2.size)
         refine (zBb _ sb lb d L s.st name vd data w' ((HA.out.below H3.out.1).below hJ.1).st (H.out.2.2.2.1.below hb3) (by have:=H.out.2.2.2.2;omega)).mono ?_
         rintro e w'' ⟨rfl,hb⟩
         refine ⟨_,rfl,fun c hc=>by simp at hc;rw [← hc,← HF1.out],⟨hJ.1.trans (hb.mono hJ.1.size),fun d19=>?_⟩⟩
         exact zCp (hJ.2 d19) hb
       simp only [Act.put,List.setIfInBounds_toArray,List.set_cons_zero,List.set_cons_succ,Nat.reduceAdd,Nat.reduceEqDiff,reduceIte,Option.getD_some]
       refine Tail.zB0 (by rfl) (by rfl) ?_
       apply Exists.intro
       refine ⟨fun w=>?_,?_⟩
       · go_simp <;> with_reducible rfl
       simp only [Act.put,List.setIfInBounds_toArray,List.set_cons_zero,List.set_cons_succ]
       refine Tail.zB0 (by rfl) (by rfl) ?_
       apply Exists.intro
       refine ⟨fun w=>?_,?_⟩
       · go_simp <;> with_reducible rfl
       simp only [Act.put,List.setIfInBounds_toArray,List.set_cons_zero,List.set_cons_succ]
       refine Tail.zB0 (by rfl) (by rfl) ?_
       apply Exists.intro
       refine ⟨fun w=>?_,?_⟩
       · go_simp <;> with_reducible rfl
       simp only [Act.put,List.setIfInBounds_toArray,List.set_cons_zero,List.set_cons_succ]
       refine Tail.zB0 (by rfl) (by rfl) ?_
       apply Exists.intro
       refine ⟨fun w=>?_,?_⟩
       · go_simp <;> with_reducible rfl
       simp only [Act.put,List.setIfInBounds_toArray,List.set_cons_zero,List.set_cons_succ]
       refine Tail.zB0 (by rfl) (by rfl) ?_
       apply Exists.intro
       refine ⟨fun w=>?_,?_⟩
       · go_simp <;> with_reducible rfl
       simp only [Act.put,List.setIfInBounds_toArray,List.set_cons_zero,List.set_cons_succ]
       refine Tail.J_at (by rfl) (by rfl) ?_
       apply Exists.intro
       refine ⟨fun D w' _ _ hJ=>?_,?_⟩
       · have hc:w'.cell? ⟨pb,3,none⟩=some (.pointer (some ⟨sb,0,none⟩)):=((HA.out.below H3.out.1).below hJ.1).blk.cell 3
         clear hJ
         go_simp <;> with_reducible rfl
       simp only [Act.put,List.setIfInBounds_toArray,List.set_cons_zero,List.set_cons_succ]
       refine Tail.zB0 (by rfl) (by rfl) ?_
       apply Exists.intro
       refine ⟨fun w=>?_,?_⟩
       · go_simp <;> with_reducible rfl
       simp only [Act.put,List.setIfInBounds_toArray,List.set_cons_zero,List.set_cons_succ]
       refine Tail.zFe (by rfl) (by rfl) _ _ rfl p3 1 (by rfl) ki (fun D w' _ _ hJ=>by rw [H1.out.2.2.2.2.1];exact ((H0.out.1.below H3.out.1).below hJ.1).gix) Tryz.underlying39 rfl (by rw [k1];exact i16) ?_
       simp only [Act.put,List.setIfInBounds_toArray,List.set_cons_zero,List.set_cons_succ]
       refine Tail.zC6 (by rfl) (by rfl) ?_ ?_
       · apply Exists.intro
         apply Exists.intro
         refine ⟨fun w'=>?_,?_⟩
         · go_simp <;> exact ⟨rfl,rfl⟩
         intro D z' w' hD hz hd hp hJ
         have hb3:=H3.out.2.trans (hJ.1.mono H3.out.2.size)
         refine (show Calls _ _ _ _ _ from (by rw [H1.out.2.2.2.2.1];exact zA8 r.ix H.out.2.2.1.ix w')).mono ?_
         rintro e w'' ⟨rfl,hb⟩
         exact ⟨_,rfl,fun c hc=>by simp at hc;exact hc,⟨hJ.1.trans (hb.mono hJ.1.size),fun d19=>zCp (hJ.2 d19) hb⟩⟩
       simp only [Act.put,List.setIfInBounds_toArray,List.set_cons_zero,List.set_cons_succ,Nat.reduceAdd,Nat.reduceEqDiff,reduceIte,Option.getD_some]
       refine Tail.zB0 (by rfl) (by rfl) ?_
       apply Exists.intro
       refine ⟨fun w=>?_,?_⟩
       · go_simp <;> with_reducible rfl
       simp only [Act.put,List.setIfInBounds_toArray,List.set_cons_zero,List.set_cons_succ]
       refine Tail.zB0 (by rfl) (by rfl) ?_
       apply Exists.intro
       refine ⟨fun w=>?_,?_⟩
       · go_simp <;> with_reducible rfl
       simp only [Act.put,List.setIfInBounds_toArray,List.set_cons_zero,List.set_cons_succ]
       refine Tail.zFe (by rfl) (by rfl) _ _ rfl p3 1 (by rfl) ki (fun D w' _ _ hJ=>by rw [H1.out.2.2.2.2.1];exact ((H0.out.1.below H3.out.1).below hJ.1).gix) Tryz.underlying39 rfl (by rw [k1];exact i16) ?_
       simp only [Act.put,List.setIfInBounds_toArray,List.set_cons_zero,List.set_cons_succ]
       refine Tail.zC6 (by rfl) (by rfl) ?_ ?_
       · apply Exists.intro
         apply Exists.intro
         refine ⟨fun w'=>?_,?_⟩
         · go_simp <;> exact ⟨rfl,rfl⟩
         intro D z' w' hD hz hd hp hJ
         have hb3:=H3.out.2.trans (hJ.1.mono H3.out.2.size)
         refine (show Calls _ _ _ _ _ from (by rw [H1.out.2.2.2.2.1];exact zEI w' t2 v3 l2 r.ix ((H2.out.2.2.2.below H4.out).below hJ.1).tab (by have:=H2.out.2.2.1.len;have:=H.out.2.1.tab;omega) H.out.2.2.1.ix (by have:=H5.out.few r.ix;omega) H5.out.ends ((HA.out.below H3.out.1).below hJ.1).tab)).mono ?_
         rintro e w'' ⟨vo,out',rfl,hO,hR,hb⟩
         have ho:out'=out:=OfR.eq hR HOUT.out (List.Perm.refl _)
         rw [ho] at hO
         refine ⟨_,rfl,fun c hc=>by simp at hc,⟨hJ.1.trans (hb.mono hJ.1.size),fun _=>?_⟩⟩
         simp only [Tail.zFw,if_pos]
         exact zG7 hO hJ.1.size
       simp only [Act.put,List.setIfInBounds_toArray,List.set_cons_zero,List.set_cons_succ,Nat.reduceAdd,Nat.reduceEqDiff,reduceIte,Option.getD_none]
       refine Tail.zC6 (by rfl) (by rfl) ?_ ?_
       · apply Exists.intro
         apply Exists.intro
         refine ⟨fun w'=>?_,?_⟩
         · go_simp <;> exact ⟨rfl,rfl⟩
         intro D z' w' hD hz hd hp hJ
         have hb3:=H3.out.2.trans (hJ.1.mono H3.out.2.size)
         have d19:D 19=true:=hd 19 (by kernel_rfl)
         have hO:=hJ.2 d19
         rw [← hz 19 d19] at hO
         refine (zBb _ sb lb d L s.st (zD r.ix) (z 19) (zu out) w' ((HA.out.below H3.out.1).below hJ.1).st hO.bys (by rw [show (zD r.ix).size=17 from zER 108 H.out.2.2.1.ix];decide)).mono ?_
         rintro e w'' ⟨rfl,hb⟩
         exact ⟨_,rfl,fun c hc=>by simp at hc;rw [← hc,← HF2.out],⟨hJ.1.trans (hb.mono hJ.1.size),fun d19=>zCp (hJ.2 d19) hb⟩⟩
       simp only [Act.put,List.setIfInBounds_toArray,List.set_cons_zero,List.set_cons_succ,Nat.reduceAdd,Nat.reduceEqDiff,reduceIte,Option.getD_some]
       refine Tail.zB0 (by rfl) (by rfl) ?_
       apply Exists.intro
       refine ⟨fun w=>?_,?_⟩
       · go_simp <;> with_reducible rfl
       simp only [Act.put,List.setIfInBounds_toArray,List.set_cons_zero,List.set_cons_succ]
       refine Tail.zB0 (by rfl) (by rfl) ?_
       apply Exists.intro
       refine ⟨fun w=>?_,?_⟩
       · go_simp <;> with_reducible rfl
       simp only [Act.put,List.setIfInBounds_toArray,List.set_cons_zero,List.set_cons_succ]
       intro w4 hJ4
       have HB4:=Lib.hid (H3.out.2.trans (hJ4.1.mono H3.out.2.size))
       clear hJ4
       cases f2 with
       | false =>
         have HNO:Hid (zEa s r.ix r.sec r.ends name data is 1):=⟨true,l2,out,H2.out.2.2.1,fun _=>HOUT.out,by rw [if_neg (by rw [← HFN.out,← HFR.out];rintro (h | h);cases h;exact h3 h),if_pos (.inr HF2.out.symm)]⟩
         go_wp2_with fail
         go_ret
         exact ⟨1,rfl,HNO.out,HB4.out⟩
       | true =>
         have HNO:Hid (zEa s r.ix r.sec r.ends name data is 0):=⟨true,l2,out,H2.out.2.2.1,fun _=>HOUT.out,by rw [if_neg (by rw [← HFN.out,← HFR.out];rintro (h | h);cases h;exact h3 h),if_neg (by rw [← HF1.out,← HF2.out];rintro (h | h) <;> cases h)]⟩
         go_wp2_with fail
         go_ret
         exact ⟨0,rfl,HNO.out,HB4.out⟩
end Go.Proofs.YtbbojbdigiibbaaGreatDoor
end
section
namespace Go.Mem
open Go Go.RowKit Gf
def zCx (w:World) (N:Nat→Prop) (v:Value) (bs:List UInt8):Prop :=
 Bys w v bs∧∃ a c,v=.slice a bs.length c∧(0 < bs.length→∀ b,a=some b→b.block < w.heap.size∧¬ N b.block)
theorem zCx.chg {S N:Nat→Prop} {w w':World} {v:Value} {bs:List UInt8} (h:zCx w N v bs) (hc:Chg S w w') (hs:∀ b,S b→b < w.heap.size→N b):zCx w' N v bs:=by
 obtain ⟨h1,a,c,rfl,h3⟩:=h
 rcases Nat.eq_zero_or_pos bs.length with h0 | h0
 · refine ⟨?_,a,c,rfl,fun h=>by omega⟩
   obtain ⟨a',c',e,g1,g2,_⟩:=h1
   exact ⟨a',c',e,g1,g2,fun h=>by omega⟩
 · refine ⟨h1.chg hc (fun a' l' c' e hS=>?_),a,c,rfl,fun _ b hb=>⟨Nat.lt_of_lt_of_le (h3 h0 b hb).1 hc.size,(h3 h0 b hb).2⟩⟩
   injection e with e1 _ _
   have:=h3 h0 a' e1
   exact this.2 (hs _ hS this.1)
theorem zCx.mono {N M:Nat→Prop} {w:World} {v:Value} {bs:List UInt8} (h:zCx w N v bs) (hM:∀ b,M b→N b∨w.heap.size≤b):zCx w M v bs:=by
 obtain ⟨h1,a,c,e,h3⟩:=h
 refine ⟨h1,a,c,e,fun h0 b hb=>⟨(h3 h0 b hb).1,fun hm=>?_⟩⟩
 have:=h3 h0 b hb
 rcases hM _ hm with h | h
 · exact this.2 h
 · omega
def zAW (w:World) (N:Nat→Prop) (v:Value) (l:List zM):Prop :=
 ∃ a c,v=.slice a l.length c∧l.length≤c∧c≤maxLen∧(0 < l.length→∃ b off,a=some ⟨b,off,none⟩∧b < w.heap.size∧¬ N b∧∀ (i:Nat) (x:zM),l[i]?=some x →
   w.cell? ⟨b,off+i*2,none⟩=some (.int .i64 x.1)∧∃ a' c',w.cell? ⟨b,off+i*2+1,none⟩=some (.slice a' x.2.length c')∧zCx w N (.slice a' x.2.length c') x.2)
section
variable {w w':World} {N S:Nat→Prop} {v:Value} {l:List zM}
theorem zAW.nil (w:World) (N:Nat→Prop):zAW w N (.slice none 0 0) []:=⟨none,0,rfl,Nat.le_refl _,Nat.zero_le _,fun h=>by simp at h⟩
theorem zAW.chg (h:zAW w N v l) (hc:Chg S w w') (hs:∀ b,S b→b < w.heap.size→N b):zAW w' N v l:=by
 obtain ⟨a,c,e,h1,h2,h3⟩:=h
 refine ⟨a,c,e,h1,h2,fun hp=>?_⟩
 obtain ⟨b,off,e1,hb,hn,h4⟩:=h3 hp
 have hk:∀ o,w'.cell? ⟨b,o,none⟩=w.cell? ⟨b,o,none⟩:=fun o=>by
  unfold World.cell?
  rw [hc.block b hb (fun hS=>hn (hs b hS hb))]
 refine ⟨b,off,e1,Nat.lt_of_lt_of_le hb hc.size,hn,fun i x hx=>?_⟩
 obtain ⟨c1,a',c',c2,hd⟩:=h4 i x hx
 exact ⟨by rw [hk];exact c1,a',c',by rw [hk];exact c2,hd.chg hc hs⟩
theorem zAW.below (h:zAW w N v l) (hb:Below w.heap.size w w'):zAW w' N v l:=h.chg (S:=fun _=>False) (Chg.of_below hb) (fun _ h=>h.elim)
theorem zAW.mono {M:Nat→Prop} (h:zAW w N v l) (hM:∀ b,M b→N b∨w.heap.size≤b):zAW w M v l:=by
 obtain ⟨a,c,e,h1,h2,h3⟩:=h
 refine ⟨a,c,e,h1,h2,fun hp=>?_⟩
 obtain ⟨b,off,e1,hb,hn,h4⟩:=h3 hp
 refine ⟨b,off,e1,hb,fun hm=>?_,fun i x hx=>?_⟩
 · rcases hM b hm with h | h
   · exact hn h
   · omega
 · obtain ⟨c1,a',c',c2,hd⟩:=h4 i x hx
   exact ⟨c1,a',c',c2,hd.mono hM⟩
theorem zAF.at {tr:TypeId} {base:Nat} {u:Value} (h:zAF tr w base N u l) (hN:∀ b,base≤b→b < w.heap.size→¬ N b):zAW w N u l:=by
 obtain ⟨vs,h1,h2,h3,_⟩:=h
 rcases Nat.eq_zero_or_pos l.length with h0 | h0
 · obtain ⟨a,c,e,_⟩:=zAE h2
   have hl:l=[]:=List.eq_nil_of_length_eq_zero h0
   subst hl
   rcases h2.2 with ⟨rfl,_⟩ | ⟨g,cap,cur,rfl,_,_,_,hm,_⟩
   · exact zAW.nil _ _
   · exact ⟨_,cap,rfl,Nat.zero_le _,hm,fun h=>by simp at h⟩
 · obtain ⟨g,cap,arr,rfl,hb,hB,hc,hm,hs,hcell⟩:=zLh h2 h0
   refine ⟨_,cap,rfl,hc,hm,fun _=>⟨g,0,rfl,hB.lt,hN g hb hB.lt,fun i x hx=>?_⟩⟩
   have hi:=(List.getElem?_eq_some_iff.1 hx).1
   have hv:vs[i]?=some (vs[i]'(by omega)):=by simp
   generalize vs[i]'(by omega)=vd at hv
   obtain ⟨g1,g2⟩:=zLa l vs i x vd hx hv
   have hd:=h3 i x vd hx hv
   obtain ⟨d1,a',c',rfl,d2⟩:=hd
   exact ⟨by rw [hB.cell,hcell _ (by omega),Nat.zero_add];exact g1,a',c',by rw [hB.cell,hcell _ (by omega),Nat.zero_add];exact g2,⟨d1,a',c',rfl,fun _=>d2⟩⟩
end
def zAY (l:List zM):Prop:=(∀ x∈l,0≤x.1∧x.1 < 16)∧(l.map (·.1)).Nodup
theorem zAY.nil:zAY []:=⟨(fun _ h=>by cases h),List.nodup_nil⟩
theorem zAY.step {l:List zM} {i:Nat} {x:zM} (hx:l[i]?=some x):zAY (l.take (i+1))↔zAY (l.take i)∧(0≤x.1∧x.1 < 16)∧∀ j y,j < i→l[j]?=some y→y.1≠x.1:=by
 have e:l.take (i+1)=l.take i++[x]:=by rw [List.take_add_one,hx];rfl
 rw [e]
 unfold zAY
 rw [List.map_append,List.nodup_append]
 constructor
 · rintro ⟨h1,h2,_,h3⟩
   refine ⟨⟨fun y hy=>h1 y (by simp [hy]),h2⟩,h1 x (by simp),fun j y hj hy e=>?_⟩
   exact h3 y.1 (List.mem_map.2 ⟨y,List.mem_of_getElem? (i:=j) (by rw [List.getElem?_take,if_pos hj];exact hy),rfl⟩) x.1 (by simp) e
 · rintro ⟨⟨h1,h2⟩,h3,h4⟩
   refine ⟨fun y hy=>?_,h2,by simp,fun a ha b hb e=>?_⟩
   · rcases List.mem_append.1 hy with hy | hy
     · exact h1 y hy
     · rw [List.mem_singleton.1 hy];exact h3
   · obtain ⟨y,hy,rfl⟩:=List.mem_map.1 ha
     obtain ⟨j,hj⟩:=List.mem_iff_getElem?.1 hy
     rw [List.getElem?_take] at hj
     split at hj
     · rename_i hji
       simp at hb
       exact h4 j y hji hj (by rw [e,hb])
     · cases hj
theorem zAY.le {l:List zM} (h:zAY l) (i:Nat):zAY (l.take i):=⟨fun x hx=>h.1 x (List.mem_of_mem_take hx),by rw [List.map_take];exact h.2.sublist (List.take_sublist _ _)⟩
end Go.Mem
namespace Go.Proofs.YtbbojbdigiibbaaGreatDoor
open Go Go.RowKit Go.Mem Gf Lea
attribute [local go_sem ↓] Go.wp_at_zero Go.wp_at_succ
def BlobsP (l:List zM) (w:World) (e:Ending) (w':World):Prop:=∃ b,e=.returned (.bool b)∧(b=true↔zAY l)∧Below w.heap.size w w'
set_option maxRecDepth 100000 in
set_option maxHeartbeats 1000000 in
theorem zF2 (N:Nat→Prop) (v:Value) (l:List zM) (w:World) (h:zAW w N v l) :
  Calls Tryz.prog 140 #[v] w (BlobsP l w):=by
 obtain ⟨a,c,rfl,hc1,hc2,hrow⟩:=id h
 obtain ⟨n,hn⟩:∃ n,n=l.length:=⟨_,rfl⟩
 rw [← hn] at hc1 hrow ⊢
 unfold maxLen at hc2
 have H:=Lib.hid (And.intro h (And.intro hn hrow))
 clear h hn hrow
 go_enter Tryz.func140,Tryz.ntmps140
 go_upto_region 2 with fail
 go_loopw [9] (fun vi wr=>∃ i:Nat,i≤n∧vi=.int .i64 i∧Hid (zAY (l.take i)∧Below w.heap.size w wr)) (fun vi _=>n - (intOf vi).toNat)
 case atStart=>exact ⟨0,Nat.zero_le _,rfl,by rw [List.take_zero];exact zAY.nil,Below.refl _ _⟩
 case round =>
  obtain ⟨i,hi0,rfl,G⟩:=hrel
  by_cases hin:i < n
  · obtain ⟨b,off,rfl,hb,_,hcells⟩:=H.out.2.2 (by omega)
    have hx:l[i]?=some (l[i]'(by have:=H.out.2.1;omega)):=by simp
    generalize l[i]'(by have:=H.out.2.1;omega)=x at hx
    obtain ⟨c1,a',c',c2,_⟩:=hcells i x hx
    have hbc:=fun o=>G.out.2.cell (p:=⟨b,o,none⟩) hb
    rw [← hbc] at c1 c2
    have i0:(0:Int)≤(i:Int):=by omega
    have i1:(i:Int) < (n:Int):=by omega
    have hstep:=zAY.step hx
    obtain ⟨z,hz⟩:∃ z,z=x.1:=⟨_,rfl⟩
    rw [← hz] at c1
    have HX:=Lib.hid (And.intro hx (And.intro hz (And.intro hstep (And.intro hb (And.intro hcells hbc)))))
    have hbad:∀ bb:Bool,bb=false→¬ zAY (l.take (i+1))→(bb=true↔zAY l):=fun bb e hno=>⟨fun h=>(by rw [e] at h;cases h),fun h=>absurd (h.le (i+1)) hno⟩
    have HBAD:=Lib.hid hbad
    clear hx hz hstep hb hcells hbc hbad
    by_cases z0:z < 0
    · have d0:decide (z < 0)=true:=by simpa using z0
      have HN:=Lib.hid (HBAD.out false rfl (by rw [HX.out.2.2.1];rintro ⟨_,h,_⟩;rw [← HX.out.2.1] at h;omega))
      go_wp2_with fail
      go_ret
      exact ⟨false,rfl,HN.out,G.out.2.alloc G.out.2.size _⟩
    · by_cases z16:16≤z
      · have d0:decide (z < 0)=false:=by simp;omega
        have d1:decide (16≤z)=true:=by simpa using z16
        have HN:=Lib.hid (HBAD.out false rfl (by rw [HX.out.2.2.1];rintro ⟨_,h,_⟩;rw [← HX.out.2.1] at h;omega))
        go_wp2_with fail
        go_ret
        exact ⟨false,rfl,HN.out,G.out.2.alloc G.out.2.size _⟩
      · have d0:decide (z < 0)=false:=by simp;omega
        have d1:decide (16≤z)=false:=by simp;omega
        go_upto_region 7 with fail
        have hk4:Blk (wr.alloc (.cells #[.int .i64 z,.slice a' x.2.length c'] 53)) wr.heap.size #[.int .i64 z,.slice a' x.2.length c'] 53:=Blk.new _ _ _
        have hb4:=G.out.2.alloc G.out.2.size (.cells #[.int .i64 z,.slice a' x.2.length c'] 53)
        obtain ⟨w4,hw4⟩:∃ q,q=wr.alloc (.cells #[.int .i64 z,.slice a' x.2.length c'] 53):=⟨_,rfl⟩
        obtain ⟨p4,hp4⟩:∃ q,q=wr.heap.size:=⟨_,rfl⟩
        rw [← hw4] at hk4 hb4 ⊢
        rw [← hp4] at hk4 ⊢
        have H4:=Lib.hid (And.intro hk4 hb4)
        clear hk4 hb4 hw4 hp4 c1 c2
        go_loopw [26] (fun vj wx=>∃ j:Nat,j≤i∧vj=.int .i64 j∧Hid ((∀ q y,q < j→l[q]?=some y→y.1≠z)∧Below w.heap.size w wx∧Blk wx p4 #[.int .i64 z,.slice a' x.2.length c'] 53)) (fun vj _=>i - (intOf vj).toNat)
        case atStart=>exact ⟨0,Nat.zero_le _,rfl,(fun q y h=>by omega),H4.out.2,H4.out.1⟩
        case round =>
         obtain ⟨j,hj0,rfl,GJ⟩:=hrel
         have c4:wr.cell? ⟨p4,0,none⟩=some (.int .i64 z):=GJ.out.2.2.cell 0
         by_cases hji:j < i
         · have hy:l[j]?=some (l[j]'(by have:=H.out.2.1;omega)):=by simp
           generalize l[j]'(by have:=H.out.2.1;omega)=y at hy
           obtain ⟨c1,a'',c'',c2,_⟩:=HX.out.2.2.2.2.1 j y hy
           have hbc:=fun o=>GJ.out.2.1.cell (p:=⟨b,o,none⟩) HX.out.2.2.2.1
           rw [← hbc] at c1 c2
           have j0:(0:Int)≤(j:Int):=by omega
           have j1:(j:Int) < (i:Int):=by omega
           obtain ⟨zy,hzy⟩:∃ z,z=y.1:=⟨_,rfl⟩
           rw [← hzy] at c1
           have HY:=Lib.hid (And.intro hy hzy)
           have hbA:=GJ.out.2.1.alloc GJ.out.2.1.size (.cells #[.int .i64 zy,.slice a'' y.2.length c''] 53)
           have HBA:=Lib.hid (And.intro hbA (GJ.out.2.2.alloc (.cells #[.int .i64 zy,.slice a'' y.2.length c''] 53)))
           have l4:=GJ.out.2.2.lt
           clear hy hzy hbc hbA
           by_cases hzz:zy=z
           · have t1:(zy == z)=true:=by simpa using hzz
             have HN:=Lib.hid (HBAD.out false rfl (by rw [HX.out.2.2.1];rintro ⟨_,_,h⟩;exact h j y hji HY.out.1 (by rw [← HY.out.2,← HX.out.2.1];exact hzz)))
             replace hzz:=Lib.hid hzz
             go_wp2_with fail
             go_ret
             exact ⟨false,rfl,HN.out,HBA.out.1⟩
           · have t1:(zy == z)=false:=by simpa using hzz
             have HNE:=Lib.hid hzz
             clear hzz
             go_wp2_with fail
             exact ⟨⟨j+1,by omega,by simp,fun q y' hq hy'=>by
              rcases Nat.lt_or_ge q j with h | h
              · exact GJ.out.1 q y' h hy'
              · have:q=j:=by omega
                subst this
                rw [HY.out.1] at hy'
                cases hy'
                rw [← HY.out.2];exact HNE.out,HBA.out.1,HBA.out.2⟩,by show i - ((j:Int)+1).toNat < i - (j:Int).toNat;omega⟩
         · have hok:zAY (l.take (i+1)):=by
            rw [HX.out.2.2.1]
            refine ⟨G.out.1,by rw [← HX.out.2.1];omega,fun q y hq hy=>?_⟩
            rw [← HX.out.2.1]
            exact GJ.out.1 q y (by omega) hy
           have HOK:=Lib.hid hok
           clear hok
           go_wp2_with fail
           go_roundw
           case rel=>exact ⟨i+1,by omega,by simp,HOK.out,GJ.out.2.1⟩
           case measure =>
            show n - ((i:Int)+1).toNat < n - (i:Int).toNat
            omega
  · have hfull:l.take i=l:=List.take_of_length_le (by have:=H.out.2.1;omega)
    have hg:=G.out.1
    rw [hfull] at hg
    have HG:=Lib.hid hg
    clear hfull hg
    go_wp2_with fail
    go_ret
    exact ⟨true,rfl,⟨fun _=>HG.out,fun _=>rfl⟩,G.out.2⟩
end Go.Proofs.YtbbojbdigiibbaaGreatDoor
end
section
namespace Go.Proofs.YtbbojbdigiibbaaGreatDoor
open Go Go.RowKit Go.Mem Gf Lea
theorem i52:(Tryz.prog.info? 47).map (·.size)=some 52:=by kernel_rfl
theorem zCH (dst:Option Tmp) (x:Operand) (ty:TypeId) (pos:String) (af:Array Edge) (gd:Option (Tmp × Bool)) (a:Act) (w:World) (K:Act→World→Prop) (Q:Exit→Act→World→Prop)
  (hp:zAz (a.eval x)=true) (ht:zY 52 w (zAM (a.eval x)) (zAN (a.eval x))) :
  Oper.wp Tryz.prog ⟨dst,.load 47 x,ty,pos,af,gd⟩ a w K Q=K (a.put dst (.agg (zN 52 w (zAM (a.eval x)) (zAN (a.eval x))).toArray)) w :=
 zEK Tryz.underlying47 rfl i52 dst x ty pos af gd a w K Q hp ht
inductive zAx (s:zG) (r:Req) (l:List zM):Int→zG→Prop
 | form (h:¬ (l.length=1∧zAY l∧May r.ends)):zAx s r l 2 s
 | no (n:Nat) (data:List UInt8) (err:Int) (hl:l=[((n:Int),data)]) (hn:n < 16) (hm:May r.ends) (ha:zEa s r.ix r.sec r.ends (zI r.ix n) data (s.st.get (zI r.ix n)).isSome err) (h0:err≠0):zAx s r l err s
 | torn (n:Nat) (data:List UInt8) (hl:l=[((n:Int),data)]) (hn:n < 16) (hm:May r.ends) (hg:s.st.get (zI r.ix n)=none) (ha:zEa s r.ix r.sec r.ends (zI r.ix n) data false 0) (h0:(zO s.st (zI r.ix n) data).1≠0):zAx s r l (zO s.st (zI r.ix n) data).1 { s with st:=(zO s.st (zI r.ix n) data).2 }
 | put (n:Nat) (data:List UInt8) (err:Int) (s':zG) (hl:l=[((n:Int),data)]) (hn:n < 16) (hm:May r.ends) (hg:s.st.get (zI r.ix n)=none) (ha:zEa s r.ix r.sec r.ends (zI r.ix n) data false 0) (h0:(zO s.st (zI r.ix n) data).1=0) (hs:zCe { s with st:=(zO s.st (zI r.ix n) data).2 } r.ix r.sec r.ends err s'):zAx s r l err s'
 | there (n:Nat) (data:List UInt8) (err:Int) (s':zG) (hl:l=[((n:Int),data)]) (hn:n < 16) (hm:May r.ends) (hg:(s.st.get (zI r.ix n)).isSome=true) (ha:zEa s r.ix r.sec r.ends (zI r.ix n) data true 0) (hs:zCe s r.ix r.sec r.ends err s'):zAx s r l (if err=0 then 5 else err) s'
theorem zKE {ix:Key} (h:ix.length=16) (n:Nat):(zI ix n).size≤1000000:=by
 have:(zI ix n).size=18:=by
  show (115::(ix++[UInt8.ofNat n])).toArray.size=18
  simp [h]
 omega
def zCw (C X:Nat→Prop) (pb:Nat) (R:Int→zG→Prop) (w:World) (e:Ending) (w':World):Prop :=
 ∃ C' err s',e=.returned (.agg #[.int .i64 err,.slice none 0 0])∧R err s'∧zT w' C' X pb s'∧zAS C C' w w'
theorem zT.shrinkX {w:World} {C X X':Nat→Prop} {pb:Nat} {s:zG} (h:zT w C X pb s) (hx:∀ b,X' b→X b):zT w C X' pb s:=by
 obtain ⟨sb,lb,d,L,tb,v,h⟩:=h
 exact ⟨sb,lb,d,L,tb,v,h.shrinkX hx⟩
theorem zT.xc {w:World} {C X:Nat→Prop} {pb:Nat} {s:zG} (h:zT w C X pb s):∀ b,X b→¬ C b:=by
 obtain ⟨sb,lb,d,L,tb,v,h⟩:=h
 exact h.xc
theorem zh {w w':World} {C C' X:Nat→Prop} {pb p4:Nat} {s':zG} (h:zT w' C' (fun b=>X b∨b=p4) pb s') (hc:zAS C C' w w') (h4:w.heap.size≤p4) (x y:Value) :
  zT ((w'.setCell ⟨p4,0,none⟩ x).setCell ⟨p4,1,none⟩ y) C' X pb s'∧zAS C C' w ((w'.setCell ⟨p4,0,none⟩ x).setCell ⟨p4,1,none⟩ y):=by
 have hcc:Chg (fun b=>b=p4) w' ((w'.setCell ⟨p4,0,none⟩ x).setCell ⟨p4,1,none⟩ y):=Chg.set (S:=fun b=>b=p4) (a:=⟨p4,1,none⟩) (Chg.set (S:=fun b=>b=p4) (a:=⟨p4,0,none⟩) (Chg.refl _ _) rfl _) rfl _
 refine ⟨(h.chg hcc (fun b hb=>?_) (fun b hb _=>.inr hb)).shrinkX (fun b hb=>.inl hb),⟨hc.1.mix hcc (fun k hk=>.inr (by rw [hk];exact h4)),hc.2⟩⟩
 rw [hb]
 exact h.xc p4 (.inr rfl)
attribute [local irreducible] zK
attribute [local go_sem ↓] Go.wp_at_zero Go.wp_at_succ
attribute [local go_sem ↓] zAK zCH
attribute [local go_sem] ptrB_eq ptrO_eq ptrIs_eq aggL_eq aggIs_eq zS ze zC zF
set_option maxRecDepth 100000 in
set_option maxHeartbeats 2000000 in
theorem zJz (C X:Nat→Prop) (pb:Nat) (s:zG) (r:Req) (l:List zM) (hr:r.Wf) (w:World) (h:zT w C X pb s) (hB:zCP s) (hwr:s.st.disk.writes < 72057594037800000) (hl:zAW w (fun b=>C b∨X b) r.vb l) (hd:∀ x∈l,x.2.length≤1000000) :
  Calls Tryz.prog 92 #[.pointer (some ⟨pb,0,none⟩),.agg (zK r).toArray] w (zCw C X pb (zAx s r l) w):=by
 obtain ⟨la,lc,hvb,hlc1,hlc2,hrow⟩:=id hl
 obtain ⟨n,hn⟩:∃ n,n=l.length:=⟨_,rfl⟩
 rw [← hn] at hvb hlc1 hrow
 have hR:=(zAC.new w 47 hr)
 have hb0:=(Below.refl w.heap.size w).alloc (Nat.le_refl _) (.cells (zK r).toArray 47)
 have hb1:=hb0.alloc hb0.size (.cells #[.int .i64 0,.slice none 0 0] 43)
 have hR1:=hR.below ((Below.refl _ (w.alloc (.cells (zK r).toArray 47))).alloc (Nat.le_refl _) (.cells #[.int .i64 0,.slice none 0 0] 43))
 have hk4:Blk ((w.alloc (.cells (zK r).toArray 47)).alloc (.cells #[.int .i64 0,.slice none 0 0] 43)) (w.heap.size+1) #[.int .i64 0,.slice none 0 0] 43:=Blk.new_at _ _ _ _ (by simp)
 obtain ⟨cr,hcr⟩:∃ c,c=zK r:=⟨_,rfl⟩
 rw [← hcr] at hR1 hb1 hk4
 rw [← hcr]
 have HCR:=Lib.hid hcr
 obtain ⟨w0,hw0⟩:∃ x,x=(w.alloc (.cells cr.toArray 47)).alloc (.cells #[.int .i64 0,.slice none 0 0] 43):=⟨_,rfl⟩
 obtain ⟨p3,hp3⟩:∃ p,p=w.heap.size:=⟨_,rfl⟩
 obtain ⟨p4,hp4⟩:∃ p,p=w.heap.size+1:=⟨_,rfl⟩
 have HW:=Lib.hid (And.intro hw0 (And.intro hp3 hp4))
 rw [← hw0,← hp3] at hR1
 rw [← hw0] at hb1
 rw [← hw0,← hp4] at hk4
 have H:=Lib.hid (And.intro h (And.intro hB (And.intro hr (And.intro hl (And.intro hd hn)))))
 have hx4:zT w0 C (fun b=>X b∨b=p4) pb s:=h.growX (fun b hb=>.inl hb) (fun b hb=>hb.imp id (fun e=>by rw [e,hp4];omega)) hb1 (fun b hb=>by rcases hb with hb | hb;exact Nat.lt_of_lt_of_le (h.lt (.inr hb)) hb1.size;rw [hb];exact hk4.lt)
 have H0:=Lib.hid (And.intro hR1 (And.intro hb1 (And.intro hk4 hx4)))
 have c33:=hR1.ends
 have c51:=hR1.blobs
 rw [hvb] at c51
 clear h hB hr hl hd hn hcr hw0 hp3 hp4 hR hR1 hb0 hb1 hk4 hx4
 go_enter Tryz.func92,Tryz.ntmps92
 go_upto_region 1 with fail
 rw [← HW.out.1,← HW.out.2.2,← HW.out.2.1]
 have HVB:=Lib.hid hvb
 clear hvb
 by_cases h1:n=1
 rotate_left
 · have d1:((n:Int) != 1)=true:=by simp;omega
   have d1':(n != 1)=true:=by simp;omega
   have HF:Hid (zAx s r l 2 s):=zAx.form (by rintro ⟨e,_⟩;have:=H.out.2.2.2.2.2;omega)
   go_wp2_with fail
   refine (zU 2 w0).mono ?_
   rintro e w1 ⟨rfl,hb⟩
   have k4:=H0.out.2.2.1.kept hb
   have f40:=k4.free 0
   have f41:=k4.free 1
   have c40:w1.cell? ⟨p4,0,none⟩=some (.int .i64 0):=k4.cell 0
   have c41:w1.cell? ⟨p4,1,none⟩=some (.slice none 0 0):=k4.cell 1
   have l4:=k4.lt
   have HB1:=Lib.hid (And.intro hb k4)
   clear hb k4
   go_wp2_with fail
   have hE:=zh (x:=.int .i64 2) (y:=.slice none 0 0) (H0.out.2.2.2.below HB1.out.1) (zAS.of_below (H0.out.2.1.trans (HB1.out.1.mono H0.out.2.1.size))) (by rw [HW.out.2.2];omega)
   exact bodyPost_ret (v:=.agg #[.int .i64 2,.slice none 0 0]) (by simp [results,Tryz.results92,go_sem,c40,c41]) rfl ⟨C,2,s,rfl,HF.out,hE.1,hE.2⟩
 · obtain ⟨x,hx⟩:∃ x,l=[x]:=by
    match l,H.out.2.2.2.2.2 with
    | [x],_=>exact ⟨x,rfl⟩
    | [],e=>simp at e;omega
    | _::_::_,e=>simp at e;omega
   obtain ⟨b,off,rfl,hbl,hnN,hcells⟩:=hrow (by omega)
   obtain ⟨q1,a',c',q2,hda⟩:=hcells 0 x (by rw [hx];rfl)
   rw [Nat.zero_mul,Nat.add_zero] at q1 q2
   obtain ⟨q,hq⟩:∃ q,q=x.2.length:=⟨_,rfl⟩
   rw [← hq] at q2 hda
   obtain ⟨z,hz⟩:∃ z,z=x.1:=⟨_,rfl⟩
   rw [← hz] at q1
   have HX:=Lib.hid (And.intro hx (And.intro hbl (And.intro q1 (And.intro q2 (And.intro hda (And.intro hq hz))))))
   subst h1
   clear hx hbl hnN hcells q1 q2 hda hq hz
   have d1:((1:Int) != 1)=false:=by decide
   have hblobs:=zF2 _ r.vb l w0 (H.out.2.2.2.1.below H0.out.2.1)
   rw [HVB.out] at hblobs
   go_wp2_with fail
   refine hblobs.mono ?_
   rintro e w1 ⟨bb,rfl,hbb,hb1⟩
   clear hblobs
   have k41:=H0.out.2.2.1.kept hb1
   have hw01:=H0.out.2.1.trans (hb1.mono H0.out.2.1.size)
   have hR1:=H0.out.1.below hb1
   have c33:=hR1.ends
   have c51:=hR1.blobs
   rw [HVB.out] at c51
   have H1:=Lib.hid (And.intro hbb (And.intro hb1 (And.intro k41 (And.intro hw01 (And.intro hR1 (H0.out.2.2.2.below hb1))))))
   clear hbb hb1 k41 hw01 hR1
   cases bb with
   | false =>
     have HF:Hid (zAx s r l 2 s):=zAx.form (fun h=>Bool.noConfusion (H1.out.1.2 h.2.1))
     go_wp2_with fail
     refine (zU 2 w1).mono ?_
     rintro e wf ⟨rfl,hbf⟩
     have k4f:=H1.out.2.2.1.kept hbf
     have f40:=k4f.free 0
     have f41:=k4f.free 1
     have c40:wf.cell? ⟨p4,0,none⟩=some (.int .i64 0):=k4f.cell 0
     have c41:wf.cell? ⟨p4,1,none⟩=some (.slice none 0 0):=k4f.cell 1
     have l4f:=k4f.lt
     have HBF:=Lib.hid hbf
     clear hbf k4f
     go_wp2_with fail
     have hE:=zh (x:=.int .i64 2) (y:=.slice none 0 0) ((H1.out.2.2.2.2.2).below HBF.out) ((zAS.of_below H1.out.2.2.2.1).post HBF.out) (by rw [HW.out.2.2];omega)
     exact bodyPost_ret (v:=.agg #[.int .i64 2,.slice none 0 0]) (by simp [results,Tryz.results92,go_sem,c40,c41]) rfl ⟨C,2,s,rfl,HF.out,hE.1,hE.2⟩
   | true =>
     go_wp2_with fail
     refine (zDk r.ends w1).mono ?_
     rintro e wt ⟨rfl,rfl⟩
     by_cases hmay:May r.ends
     rotate_left
     · have HF:Hid (zAx s r l 2 s):=zAx.form (fun h=>hmay h.2.2)
       have dm:decide (May r.ends)=false:=by simpa using hmay
       replace hmay:=Lib.hid hmay
       go_wp2_with fail
       refine (zU 2 w1).mono ?_
       rintro e wf ⟨rfl,hbf⟩
       have k4f:=H1.out.2.2.1.kept hbf
       have f40:=k4f.free 0
       have f41:=k4f.free 1
       have c40:wf.cell? ⟨p4,0,none⟩=some (.int .i64 0):=k4f.cell 0
       have c41:wf.cell? ⟨p4,1,none⟩=some (.slice none 0 0):=k4f.cell 1
       have l4f:=k4f.lt
       have HBF:=Lib.hid hbf
       clear hbf k4f
       go_wp2_with fail
       have hE:=zh (x:=.int .i64 2) (y:=.slice none 0 0) ((H1.out.2.2.2.2.2).below HBF.out) ((zAS.of_below H1.out.2.2.2.1).post HBF.out) (by rw [HW.out.2.2];omega)
       exact bodyPost_ret (v:=.agg #[.int .i64 2,.slice none 0 0]) (by simp [results,Tryz.results92,go_sem,c40,c41]) rfl ⟨C,2,s,rfl,HF.out,hE.1,hE.2⟩
     · have dm:decide (May r.ends)=true:=by simpa using hmay
       have HM:=Lib.hid hmay
       have hnum:=(H1.out.1.1 (by first | rfl | trivial)).1 x (by rw [HX.out.1];simp)
       obtain ⟨m,hm⟩:∃ m:Nat,(m:Int)=z:=⟨z.toNat,by rw [HX.out.2.2.2.2.2.2];omega⟩
       have hm16:m < 16:=by have:=HX.out.2.2.2.2.2.2;omega
       have q1:w1.cell? ⟨b,off,none⟩=some (.int .i64 z):=(H1.out.2.2.2.1.cell (p:=⟨b,off,none⟩) HX.out.2.1).trans HX.out.2.2.1
       have q2:w1.cell? ⟨b,off+1,none⟩=some (.slice a' q c'):=(H1.out.2.2.2.1.cell (p:=⟨b,off+1,none⟩) HX.out.2.1).trans HX.out.2.2.2.1
       rw [← hm] at q1
       have HMZ:=Lib.hid hm
       have rk:=H1.out.2.2.2.2.1.rix
       have gk:=H1.out.2.2.2.2.1.hix
       have lp3:=H1.out.2.2.2.2.1.lt
       have lp4:=H1.out.2.2.1.lt
       obtain ⟨ki,hki⟩:∃ c,c=bV r.ix:=⟨_,rfl⟩
       rw [← hki] at rk
       have HKI:=Lib.hid hki
       clear hmay hnum hm hki
       obtain ⟨sb,lb,d,L,tb,v,hA1⟩:=H1.out.2.2.2.2.2
       have HA1:=Lib.hid hA1
       clear hA1
       go_upto_region 4 with fail
       have hk5:Blk (w1.alloc (.cells #[.int .i64 m,.slice a' q c'] 53)) w1.heap.size #[.int .i64 m,.slice a' q c'] 53:=Blk.new _ _ _
       have hbA:Below w1.heap.size w1 (w1.alloc (.cells #[.int .i64 m,.slice a' q c'] 53)):=(Below.refl _ _).alloc (Nat.le_refl _) _
       obtain ⟨wa,hwa⟩:∃ x,x=w1.alloc (.cells #[.int .i64 m,.slice a' q c'] 53):=⟨_,rfl⟩
       obtain ⟨p5,hp5⟩:∃ x,x=w1.heap.size:=⟨_,rfl⟩
       rw [← hwa] at hk5 hbA ⊢
       rw [← hp5] at hk5 ⊢
       have HWA:=Lib.hid (And.intro hk5 (And.intro hbA hp5))
       have c50:wa.cell? ⟨p5,0,none⟩=some (.int .i64 m):=hk5.cell 0
       have hRa:=H1.out.2.2.2.2.1.below hbA
       have rk:=hRa.rix
       have gk:=hRa.hix
       rw [← HKI.out] at rk
       clear hk5 hbA hwa hp5 hRa
       go_wp2_with fail
       refine (show Calls _ _ _ _ _ from (by rw [HKI.out];exact zEG r.ix H.out.2.2.1.ix m hm16 wa)).mono ?_
       rintro e w2 ⟨rfl,hb2⟩
       have hb12:=HWA.out.2.1.trans (hb2.mono HWA.out.2.1.size)
       have c3:w2.cell? ⟨pb,3,none⟩=some (.pointer (some ⟨sb,0,none⟩)):=(HA1.out.below hb12).blk.cell 3
       have H2:=Lib.hid (And.intro hb2 hb12)
       clear hb2 hb12 rk gk c50
       go_wp2_with fail
       refine (zCs _ sb lb d L s.st (zI r.ix m) w2 (HA1.out.below H2.out.2).st).mono ?_
       rintro e w3 ⟨hb3,vg,rfl,hvg⟩
       obtain ⟨is,his⟩:∃ b,b=(s.st.get (zI r.ix m)).isSome:=⟨_,rfl⟩
       rw [← his]
       have hb13:=H2.out.2.trans (hb3.mono H2.out.2.size)
       have hR3:=H1.out.2.2.2.2.1.below hb13
       have hk53:=(HWA.out.1.kept H2.out.1).kept hb3
       have r52:=hR3.rall
       have g52:=hR3.hall
       obtain ⟨cr2,hcr2⟩:∃ c,c=zK r:=⟨_,rfl⟩
       rw [← hcr2] at r52
       have c51':w3.cell? ⟨p5,1,none⟩=some (.slice a' q c'):=hk53.cell 1
       have H3:=Lib.hid (And.intro his (And.intro hb13 (And.intro hR3 (And.intro hk53 hcr2))))
       clear hb3 hvg his hb13 hR3 hk53 hcr2 c3 q1 q2
       go_wp2_with fail
       have hlen:(zI r.ix m).size≤1000000:=by
        have:(zI r.ix m).size=18:=by
         show (115::(r.ix++[UInt8.ofNat m])).toArray.size=18
         simp [H.out.2.2.1.ix]
        omega
       have hdata:Bys w3 (.slice a' q c') x.2:=(HX.out.2.2.2.2.1.1).below (H1.out.2.2.2.1.trans (H3.out.2.1.mono H1.out.2.2.2.1.size))
       refine (show Calls _ _ _ _ _ from (by rw [H3.out.2.2.2.2];exact zGg C _ pb s r H.out.2.2.1 (zI r.ix m) (.slice a' q c') x.2 is w3 (H1.out.2.2.2.2.2.below H3.out.2.1) H.out.2.1 hdata hlen)).mono ?_
       rintro e w4 ⟨err,rfl,hask,hb4⟩
       have hb14:=H3.out.2.1.trans (hb4.mono H3.out.2.1.size)
       have hlx:l=[((m:Int),x.2)]:=by
        rw [HX.out.1]
        congr 1
        exact Prod.ext (by rw [← HX.out.2.2.2.2.2.2,HMZ.out]) rfl
       have H4:=Lib.hid (And.intro hask (And.intro hb14 (And.intro (H1.out.2.2.1.kept hb14) (And.intro (H3.out.2.2.2.1.kept hb4) (And.intro hlx (And.intro (H1.out.2.2.2.2.1.below hb14) (H1.out.2.2.2.1.trans (hb14.mono H1.out.2.2.2.1.size))))))))
       clear hask hb4 hb14 hlx hlen hdata r52 g52 c51'
       by_cases he:err=0
       rotate_left
       · have t0:(err != 0)=true:=by simpa using he
         have t0':(err == 0)=false:=by simpa using he
         have HF:Hid (zAx s r l err s):=zAx.no m x.2 err H4.out.2.2.2.2.1 hm16 HM.out (by rw [← H3.out.1];exact H4.out.1) he
         replace he:=Lib.hid he
         go_wp2_with fail
         refine (zU err w4).mono ?_
         rintro e wf ⟨rfl,hbf⟩
         have k4f:=H4.out.2.2.1.kept hbf
         have f40:=k4f.free 0
         have f41:=k4f.free 1
         have c40:wf.cell? ⟨p4,0,none⟩=some (.int .i64 0):=k4f.cell 0
         have c41:wf.cell? ⟨p4,1,none⟩=some (.slice none 0 0):=k4f.cell 1
         have l4f:=k4f.lt
         have HBF:=Lib.hid hbf
         clear hbf k4f
         go_wp2_with fail
         have hE:=zh (x:=.int .i64 err) (y:=.slice none 0 0) ((H1.out.2.2.2.2.2.below H4.out.2.1).below HBF.out) ((zAS.of_below H4.out.2.2.2.2.2.2).post HBF.out) (by rw [HW.out.2.2];omega)
         exact bodyPost_ret (v:=.agg #[.int .i64 err,.slice none 0 0]) (by simp [results,Tryz.results92,go_sem,c40,c41]) rfl ⟨C,err,s,rfl,HF.out,hE.1,hE.2⟩
       · subst he
         cases is with
         | false =>
           have hno:s.st.get (zI r.ix m)=none:=by
            have:=H3.out.1
            cases hg:s.st.get (zI r.ix m) with
            | none=>rfl
            | some b=>rw [hg] at this;cases this
           have HNO:=Lib.hid hno
           have c3:w4.drew.cell? ⟨pb,3,none⟩=some (.pointer (some ⟨sb,0,none⟩)):=(HA1.out.below H4.out.2.1).blk.cell 3
           have c5:w4.drew.cell? ⟨p5,1,none⟩=some (.slice a' q c'):=H4.out.2.2.2.1.cell 1
           obtain ⟨z1,hz1⟩:∃ z,z=(zO s.st (zI r.ix m) x.2).1:=⟨_,rfl⟩
           obtain ⟨st1,hst1⟩:∃ z,z=(zO s.st (zI r.ix m) x.2).2:=⟨_,rfl⟩
           have HZ:=Lib.hid (And.intro hz1 hst1)
           clear hno hz1 hst1
           go_upto_region 10 with fail
           go_region_held3 (fun w'=>w'.cell? ⟨pb,3,none⟩=some (.pointer (some ⟨sb,0,none⟩))∧w'.cell? ⟨p5,1,none⟩=some (.slice a' q c')) (first | exact ⟨c3,c5⟩ | with_reducible assumption)
            (first
             | (go_at_call 64
                have hda4:=(HX.out.2.2.2.2.1.chg (S:=fun _=>False) (Chg.of_below (H4.out.2.2.2.2.2.2.trans (Below.refl _ _).drew)) (fun _ h=>h.elim):zCx w4.drew _ _ _)
                refine (zCu _ sb lb d L s.st (zI r.ix m) (.slice a' q c') x.2 w4.drew (HA1.out.below (H4.out.2.1.trans (Below.refl _ _).drew)).st hda4.1 (zKE H.out.2.2.1.ix m) (H.out.2.2.2.2.1 x (by rw [HX.out.1];simp)) (fun w' hc=>(hda4.chg (S:=zBZ sb lb d L) (w:=w4.drew) hc (fun b hb _=>.inl (HA1.out.foot b hb))).1) (by have:=H.out.2.1.writes;omega)).mono ?_
                rintro e w5 ⟨rfl,hst5,hc5⟩
                have hA5:=(HA1.out.below (H4.out.2.1.trans (Below.refl _ _).drew)).store hc5 hst5
                have hcw:Chg C w w5:=(Chg.of_below (H4.out.2.2.2.2.2.2.trans (Below.refl _ _).drew)).trans (hc5.mono HA1.out.foot)
                have hk55:=hc5.blk H4.out.2.2.2.1.drew (fun hf=>by have:=HA1.out.lt (.inl (HA1.out.foot _ hf));have:=HWA.out.2.2;omega)
                have hh:w5.cell? ⟨pb,3,none⟩=some (.pointer (some ⟨sb,0,none⟩))∧w5.cell? ⟨p5,1,none⟩=some (.slice a' q c'):=⟨hA5.blk.cell 3,hk55.cell 1⟩
                have HG:=Lib.hid (And.intro hA5 (And.intro hcw hc5))
                clear hda4 hst5 hA5 hcw hk55 hc5))
           have hp4C:¬ C p4:=fun hC=>by have:=H.out.1.lt (.inl hC);have:=HW.out.2.2;omega
           have hp3C:¬ C p3:=fun hC=>by have:=H.out.1.lt (.inl hC);have:=HW.out.2.1;omega
           have hA5:=HG.out.1
           rw [← HZ.out.2] at hA5
           rw [← HZ.out.1]
           have hk45:Blk w5 p4 #[.int .i64 0,.slice none 0 0] 43:=HG.out.2.2.blk H4.out.2.2.1.drew (fun hf=>hp4C (HA1.out.foot _ hf))
           have hR5:zAC w5 p3 47 r:=zAC.chg (w:=w4.drew) ⟨H4.out.2.2.2.2.2.1.blk.drew,H.out.2.2.1⟩ HG.out.2.2 (fun hf=>hp3C (HA1.out.foot _ hf))
           have H5:=Lib.hid (And.intro (show zT w5 C (fun b=>X b∨b=p4) pb { s with st:=st1 } from ⟨sb,lb,d,L,tb,v,hA5⟩) (And.intro hk45 (And.intro hR5 (And.intro hp4C (And.intro hp3C (show zAS C C w w5 from ⟨HG.out.2.1,fun b hb=>.inl hb⟩))))))
           clear hA5 hk45 hR5 hp4C hp3C c3 c5 hh
           by_cases hz0:z1=0
           rotate_left
           · have t0:(z1 != 0)=true:=by simpa using hz0
             have t0':(z1 == 0)=false:=by simpa using hz0
             have HF:Hid (zAx s r l z1 { s with st:=st1 }):=by
              show zAx s r l z1 { s with st:=st1 }
              rw [HZ.out.1,HZ.out.2]
              exact zAx.torn m x.2 H4.out.2.2.2.2.1 hm16 HM.out HNO.out H4.out.1 (by rw [← HZ.out.1];exact hz0)
             replace hz0:=Lib.hid hz0
             go_wp2_with fail
             refine (zU z1 w5).mono ?_
             rintro e wf ⟨rfl,hbf⟩
             have k4f:=H5.out.2.1.kept hbf
             have f40:=k4f.free 0
             have f41:=k4f.free 1
             have c40:wf.cell? ⟨p4,0,none⟩=some (.int .i64 0):=k4f.cell 0
             have c41:wf.cell? ⟨p4,1,none⟩=some (.slice none 0 0):=k4f.cell 1
             have l4f:=k4f.lt
             have HBF:=Lib.hid hbf
             clear hbf k4f
             go_wp2_with fail
             have hE:=zh (x:=.int .i64 z1) (y:=.slice none 0 0) ((H5.out.1).below HBF.out) ((H5.out.2.2.2.2.2).post HBF.out) (by rw [HW.out.2.2];omega)
             exact bodyPost_ret (v:=.agg #[.int .i64 z1,.slice none 0 0]) (by simp [results,Tryz.results92,go_sem,c40,c41]) rfl ⟨C,z1,{ s with st:=st1 },rfl,HF.out,hE.1,hE.2⟩
           · have HZ0:=Lib.hid hz0
             subst hz0
             have r52:=H5.out.2.2.1.rall
             have g52:=H5.out.2.2.1.hall
             rw [← H3.out.2.2.2.2] at r52
             go_wp2_with fail
             refine (show Calls _ _ _ _ _ from (by rw [H3.out.2.2.2.2];exact zBw C _ pb { s with st:=st1 } r H.out.2.2.1 w5 H5.out.1 ⟨H.out.2.1.tab,by rw [HZ.out.2];have h1:=zE0 s.st (zI r.ix m) x.2;have h2:=hwr;have h3:=HA1.out.st.ok.room2;simp only;omega⟩)).mono ?_
             rintro e w6 ⟨C',err2,s',rfl,hadd,hs',hsc⟩
             have hk46:=hsc.1.blk H5.out.2.1 H5.out.2.2.2.1
             have HF:Hid (zAx s r l err2 s'):=by
              refine zAx.put m x.2 err2 s' H4.out.2.2.2.2.1 hm16 HM.out HNO.out H4.out.1 HZ.out.1.symm ?_
              rw [← HZ.out.2]
              exact hadd
             have H6:=Lib.hid (And.intro hs' (And.intro (H5.out.2.2.2.2.2.trans hsc) hk46))
             clear hadd hs' hsc hk46 r52 g52
             by_cases h20:err2=0
             · have t0:(err2 == 0)=true:=by simpa using h20
               subst h20
               go_wp2_with fail
               refine (zU 0 w6).mono ?_
               rintro e wf ⟨rfl,hbf⟩
               have k4f:=H6.out.2.2.kept hbf
               have f40:=k4f.free 0
               have f41:=k4f.free 1
               have c40:wf.cell? ⟨p4,0,none⟩=some (.int .i64 0):=k4f.cell 0
               have c41:wf.cell? ⟨p4,1,none⟩=some (.slice none 0 0):=k4f.cell 1
               have l4f:=k4f.lt
               have HBF:=Lib.hid hbf
               clear hbf k4f
               go_wp2_with fail
               have hE:=zh (x:=.int .i64 0) (y:=.slice none 0 0) ((H6.out.1).below HBF.out) ((H6.out.2.1).post HBF.out) (by rw [HW.out.2.2];omega)
               exact bodyPost_ret (v:=.agg #[.int .i64 0,.slice none 0 0]) (by simp [results,Tryz.results92,go_sem,c40,c41]) rfl ⟨C',0,s',rfl,HF.out,hE.1,hE.2⟩
             · have t0:(err2 == 0)=false:=by simpa using h20
               replace h20:=Lib.hid h20
               go_wp2_with fail
               refine (zU err2 w6).mono ?_
               rintro e wf ⟨rfl,hbf⟩
               have k4f:=H6.out.2.2.kept hbf
               have f40:=k4f.free 0
               have f41:=k4f.free 1
               have c40:wf.cell? ⟨p4,0,none⟩=some (.int .i64 0):=k4f.cell 0
               have c41:wf.cell? ⟨p4,1,none⟩=some (.slice none 0 0):=k4f.cell 1
               have l4f:=k4f.lt
               have HBF:=Lib.hid hbf
               clear hbf k4f
               go_wp2_with fail
               have hE:=zh (x:=.int .i64 err2) (y:=.slice none 0 0) ((H6.out.1).below HBF.out) ((H6.out.2.1).post HBF.out) (by rw [HW.out.2.2];omega)
               exact bodyPost_ret (v:=.agg #[.int .i64 err2,.slice none 0 0]) (by simp [results,Tryz.results92,go_sem,c40,c41]) rfl ⟨C',err2,s',rfl,HF.out,hE.1,hE.2⟩
         | true =>
           have hsome:(s.st.get (zI r.ix m)).isSome=true:=H3.out.1.symm
           have HNO:=Lib.hid hsome
           have hp4C:¬ C p4:=fun hC=>by have:=H.out.1.lt (.inl hC);have:=HW.out.2.2;omega
           have r52:=H4.out.2.2.2.2.2.1.rall
           have g52:=H4.out.2.2.2.2.2.1.hall
           rw [← H3.out.2.2.2.2] at r52
           clear hsome
           go_wp2_with fail
           refine (show Calls _ _ _ _ _ from (by rw [H3.out.2.2.2.2];exact zBw C _ pb s r H.out.2.2.1 w4 (H1.out.2.2.2.2.2.below H4.out.2.1) H.out.2.1)).mono ?_
           rintro e w6 ⟨C',err2,s',rfl,hadd,hs',hsc⟩
           have hk46:=hsc.1.blk H4.out.2.2.1 hp4C
           have HF:Hid (zAx s r l (if err2=0 then 5 else err2) s'):=zAx.there m x.2 err2 s' H4.out.2.2.2.2.1 hm16 HM.out HNO.out H4.out.1 hadd
           have H6:=Lib.hid (And.intro hs' (And.intro ((zAS.of_below H4.out.2.2.2.2.2.2).trans hsc) hk46))
           clear hadd hs' hsc hk46 r52 g52
           by_cases h20:err2=0
           · have t0:(err2 == 0)=true:=by simpa using h20
             subst h20
             go_wp2_with fail
             refine (zU 5 w6).mono ?_
             rintro e wf ⟨rfl,hbf⟩
             have k4f:=H6.out.2.2.kept hbf
             have f40:=k4f.free 0
             have f41:=k4f.free 1
             have c40:wf.cell? ⟨p4,0,none⟩=some (.int .i64 0):=k4f.cell 0
             have c41:wf.cell? ⟨p4,1,none⟩=some (.slice none 0 0):=k4f.cell 1
             have l4f:=k4f.lt
             have HBF:=Lib.hid hbf
             clear hbf k4f
             go_wp2_with fail
             have hE:=zh (x:=.int .i64 5) (y:=.slice none 0 0) ((H6.out.1).below HBF.out) ((H6.out.2.1).post HBF.out) (by rw [HW.out.2.2];omega)
             exact bodyPost_ret (v:=.agg #[.int .i64 5,.slice none 0 0]) (by simp [results,Tryz.results92,go_sem,c40,c41]) rfl ⟨C',5,s',rfl,by simpa using HF.out,hE.1,hE.2⟩
           · have t0:(err2 == 0)=false:=by simpa using h20
             have HF2:Hid (zAx s r l err2 s'):=by
              have:=HF.out
              rwa [if_neg h20] at this
             clear HF
             replace h20:=Lib.hid h20
             go_wp2_with fail
             refine (zU err2 w6).mono ?_
             rintro e wf ⟨rfl,hbf⟩
             have k4f:=H6.out.2.2.kept hbf
             have f40:=k4f.free 0
             have f41:=k4f.free 1
             have c40:wf.cell? ⟨p4,0,none⟩=some (.int .i64 0):=k4f.cell 0
             have c41:wf.cell? ⟨p4,1,none⟩=some (.slice none 0 0):=k4f.cell 1
             have l4f:=k4f.lt
             have HBF:=Lib.hid hbf
             clear hbf k4f
             go_wp2_with fail
             have hE:=zh (x:=.int .i64 err2) (y:=.slice none 0 0) ((H6.out.1).below HBF.out) ((H6.out.2.1).post HBF.out) (by rw [HW.out.2.2];omega)
             exact bodyPost_ret (v:=.agg #[.int .i64 err2,.slice none 0 0]) (by simp [results,Tryz.results92,go_sem,c40,c41]) rfl ⟨C',err2,s',rfl,HF2.out,hE.1,hE.2⟩
end Go.Proofs.YtbbojbdigiibbaaGreatDoor
end
