/- Texts of this proof,packed: SrvCan,SrvGet,SrvRen,zDz,SrvHand,SrvDo,SrvOk,SrvLaw. -/
import Derived.Test.YtbbojbdigiibbaaGreatDoorPa11
import Derived.Test.YtbbojbdigiibbaaGreatDoorPa08
import Derived.Test.YtbbojbdigiibbaaGreatDoorPa09
import Derived.MapKept
import Derived.Below
section
namespace Go.Proofs.YtbbojbdigiibbaaGreatDoor
open Go Go.RowKit Go.Mem Gf Lea
inductive zDR (s:zG) (ix sec:Key):Int→zG→Prop
 | no (h:CancelR s.tab ix sec false s.tab):zDR s ix sec 4 s
 | laid (l2:List Les) (err:Int) (s':zG) (h:CancelR s.tab ix sec true l2) (hl:zGc s ix l2 err s'):zDR s ix sec err s'
theorem CancelR.len {l l':List Les} {ix sec:Key} {b:Bool} (h:CancelR l ix sec b l'):l'.length≤l.length:=by
 cases h with
 | no h=>exact Nat.le_refl _
 | gone x l' h1 h2 hp=>have:=hp.length_eq;simp at this;omega
attribute [local irreducible] zK
attribute [local go_sem ↓] Go.wp_at_zero Go.wp_at_succ
attribute [local go_sem ↓] zAK zCH
attribute [local go_sem] ptrB_eq ptrO_eq ptrIs_eq aggL_eq aggIs_eq zS ze zC zF
set_option maxRecDepth 100000 in
set_option maxHeartbeats 1000000 in
theorem zL3 (C X:Nat→Prop) (pb:Nat) (s:zG) (r:Req) (hr:r.Wf) (w:World) (h:zT w C X pb s) (hB:zCP s) :
  Calls Tryz.prog 96 #[.pointer (some ⟨pb,0,none⟩),.agg (zK r).toArray] w (zCw C X pb (zDR s r.ix r.sec) w):=by
 have hR:=(zAC.new w 47 hr)
 have hb0:=(Below.refl w.heap.size w).alloc (Nat.le_refl _) (.cells (zK r).toArray 47)
 have hb1:=hb0.alloc hb0.size (.cells #[.int .i64 0,.slice none 0 0] 43)
 have hR1:=hR.below ((Below.refl _ (w.alloc (.cells (zK r).toArray 47))).alloc (Nat.le_refl _) (.cells #[.int .i64 0,.slice none 0 0] 43))
 have hk4:Blk ((w.alloc (.cells (zK r).toArray 47)).alloc (.cells #[.int .i64 0,.slice none 0 0] 43)) (w.heap.size+1) #[.int .i64 0,.slice none 0 0] 43:=Blk.new_at _ _ _ _ (by simp)
 obtain ⟨cr,hcr⟩:∃ c,c=zK r:=⟨_,rfl⟩
 rw [← hcr] at hR1 hb1 hk4
 rw [← hcr]
 have HCR:=Lib.hid hcr
 obtain ⟨w0,hw0⟩:∃ x,x=(w.alloc (.cells cr.toArray 47)).alloc (.cells #[.int .i64 0,.slice none 0 0] 43):=⟨_,rfl⟩
 obtain ⟨p3,hp3⟩:∃ p,p=w.heap.size:=⟨_,rfl⟩
 obtain ⟨p4,hp4⟩:∃ p,p=w.heap.size+1:=⟨_,rfl⟩
 have HW:=Lib.hid (And.intro hw0 (And.intro hp3 hp4))
 rw [← hw0,← hp3] at hR1
 rw [← hw0] at hb1
 rw [← hw0,← hp4] at hk4
 have H:=Lib.hid (And.intro h (And.intro hB hr))
 have hx4:zT w0 C (fun b=>X b∨b=p4) pb s:=h.growX (fun b hb=>.inl hb) (fun b hb=>hb.imp id (fun e=>by rw [e,hp4];omega)) hb1 (fun b hb=>by rcases hb with hb | hb;exact Nat.lt_of_lt_of_le (h.lt (.inr hb)) hb1.size;rw [hb];exact hk4.lt)
 have H0:=Lib.hid (And.intro hR1 (And.intro hb1 (And.intro hk4 hx4)))
 clear h hB hr hcr hw0 hp3 hp4 hR hR1 hb0 hb1 hk4 hx4
 go_enter Tryz.func96,Tryz.ntmps96
 go_upto_region 1 with fail
 rw [← HW.out.1,← HW.out.2.2,← HW.out.2.1]
 obtain ⟨sb,lb,d,L,tb,v,hA⟩:=H0.out.2.2.2
 have c4:w0.cell? ⟨pb,4,none⟩=some (.pointer (some ⟨tb,0,none⟩)):=hA.blk.cell 4
 have HA:=Lib.hid hA
 clear hA
 go_wp2_with fail
 refine (zD5 w0 tb v s.tab HA.out.heap (by have:=H.out.2.1.tab;omega)).mono ?_
 rintro e w1 ⟨t2,v2,rfl,f1,f2,f3,f4⟩
 have hR1:=H0.out.1.below f4
 have r1:=hR1.rix
 have r2:=hR1.rsec
 have g1:=hR1.hix
 have g2:=hR1.hsec
 obtain ⟨ki,hki⟩:∃ c,c=bV r.ix:=⟨_,rfl⟩
 obtain ⟨ks,hks⟩:∃ c,c=bV r.sec:=⟨_,rfl⟩
 rw [← hki] at r1
 rw [← hks] at r2
 have H1:=Lib.hid (And.intro f1 (And.intro f2 (And.intro f3 (And.intro f4 (And.intro hki (And.intro hks hR1))))))
 clear f1 f2 f3 f4 hki hks hR1
 go_wp2_with fail
 refine (show Calls _ _ _ _ _ from (by rw [H1.out.2.2.2.2.1,H1.out.2.2.2.2.2.1];exact zIP w1 t2 v2 s.tab r.ix r.sec H1.out.2.2.1 (by have:=H.out.2.1.tab;omega) H.out.2.2.ix H.out.2.2.sec)).mono ?_
 rintro e w2 ⟨b,v3,l2,rfl,ha,hh,hc⟩
 obtain ⟨q1,q2,q3,q4⟩:=zIf H0.out.2.2.2 H1.out.1 H1.out.2.1 H1.out.2.2.2.1 hc hh
 have hR2:=H0.out.1.below q2
 have r1':=hR2.rix
 have g1':=hR2.hix
 rw [← H1.out.2.2.2.2.1] at r1'
 have H2:=Lib.hid (And.intro q1 (And.intro q2 (And.intro q3 (And.intro q4 (And.intro ha (And.intro hh (H0.out.2.2.1.kept q2)))))))
 clear q1 q2 q3 q4 hR2 ha hh hc r1 r2 g1 g2
 cases b with
 | false =>
   have HF:Hid (zDR s r.ix r.sec 4 s):=by
    refine .no ?_
    have:=H2.out.2.2.2.2.1
    cases this with
    | no h=>exact .no h
   go_wp2_with fail
   refine (zU 4 w2).mono ?_
   rintro e wf ⟨rfl,hbf⟩
   have k4f:=H2.out.2.2.2.2.2.2.kept hbf
   have f40:=k4f.free 0
   have f41:=k4f.free 1
   have c40:wf.cell? ⟨p4,0,none⟩=some (.int .i64 0):=k4f.cell 0
   have c41:wf.cell? ⟨p4,1,none⟩=some (.slice none 0 0):=k4f.cell 1
   have l4f:=k4f.lt
   have HBF:=Lib.hid hbf
   clear hbf k4f
   go_wp2_with fail
   have hE:=zh (x:=.int .i64 4) (y:=.slice none 0 0) ((H0.out.2.2.2.below H2.out.2.1).below HBF.out) ((zAS.of_below (H0.out.2.1.trans (H2.out.2.1.mono H0.out.2.1.size))).post HBF.out) (by rw [HW.out.2.2];omega)
   exact bodyPost_ret (v:=.agg #[.int .i64 4,.slice none 0 0]) (by simp [results,Tryz.results96,go_sem,c40,c41]) rfl ⟨C,4,s,rfl,HF.out,hE.1,hE.2⟩
 | true =>
   go_wp2_with fail
   refine (show Calls _ _ _ _ _ from (by rw [H1.out.2.2.2.2.1];exact zHp C _ pb s r.ix H.out.2.2.ix t2 v3 l2 w2 H2.out.1 H.out.2.1 H2.out.2.2.2.2.2.1 (H2.out.2.2.2.2.1.good HA.out.good) (by have:=CancelR.len H2.out.2.2.2.2.1;have:=H.out.2.1.tab;omega) (.inr H2.out.2.2.1) (fun g hg=>.inr (H2.out.2.2.2.1 g hg)))).mono ?_
   rintro e w3 ⟨C',X',err,s',rfl,hl,hs',hc3,hC',hX'⟩
   have hp4C:¬ C p4:=fun hC=>by have:=H.out.1.lt (.inl hC);have:=HW.out.2.2;omega
   have hk3:=hc3.blk H2.out.2.2.2.2.2.2 hp4C
   have hw:=H0.out.2.1
   have hz:=hw.size
   have hb2:=hw.trans (H2.out.2.1.mono hz)
   have h4lt:p4 < w0.heap.size:=H0.out.2.2.1.lt
   have hs3:zT w3 C' (fun b=>X b∨b=p4) pb s':=hs'.shrinkX (fun b hb=>hX' b (.inl hb) (by
    have hlt:b < w0.heap.size:=by
     rcases hb with hb | hb
     · exact Nat.lt_of_lt_of_le (H.out.1.lt (.inr hb)) hz
     · rw [hb];exact h4lt
    rintro (e | e)
    · have:=H2.out.2.2.1.1;omega
    · have:=(H2.out.2.2.2.1 b e).1;omega))
   have hcc:zAS C C' w w3:=⟨(Chg.of_below hb2).trans hc3,fun b hb=>by
    rcases hC' b hb with h | h | h
    · exact .inl h
    · right
      rw [h]
      exact Nat.le_trans hz H2.out.2.2.1.1
    · right
      exact Nat.le_trans hz (H2.out.2.2.2.1 b h).1⟩
   have HF:Hid (zDR s r.ix r.sec err s'):=.laid l2 err s' H2.out.2.2.2.2.1 hl
   have HL:=Lib.hid (And.intro hs3 (And.intro hcc hk3))
   clear hl hs' hc3 hC' hX' hp4C hk3 hw hz hb2 h4lt hs3 hcc
   go_wp2_with fail
   refine (zU err w3).mono ?_
   rintro e wf ⟨rfl,hbf⟩
   have k4f:=HL.out.2.2.kept hbf
   have f40:=k4f.free 0
   have f41:=k4f.free 1
   have c40:wf.cell? ⟨p4,0,none⟩=some (.int .i64 0):=k4f.cell 0
   have c41:wf.cell? ⟨p4,1,none⟩=some (.slice none 0 0):=k4f.cell 1
   have l4f:=k4f.lt
   have HBF:=Lib.hid hbf
   clear hbf k4f
   go_wp2_with fail
   have hE:=zh (x:=.int .i64 err) (y:=.slice none 0 0) ((HL.out.1).below HBF.out) ((HL.out.2.1).post HBF.out) (by rw [HW.out.2.2];omega)
   exact bodyPost_ret (v:=.agg #[.int .i64 err,.slice none 0 0]) (by simp [results,Tryz.results96,go_sem,c40,c41]) rfl ⟨C',err,s',rfl,HF.out,hE.1,hE.2⟩
end Go.Proofs.YtbbojbdigiibbaaGreatDoor
end
section
namespace Go.Proofs.YtbbojbdigiibbaaGreatDoor
open Go Go.RowKit Go.Mem Gf Lea
def Gives (w:World) (l:List zM) (e:Ending) (w':World):Prop :=
 ∃ u,e=.returned (.agg #[.int .i64 0,u])∧zAF 53 w' w.heap.size (fun b=>b < w.heap.size) u l∧Below w.heap.size w w'
theorem zEz {tr:TypeId} {w:World} {base base':Nat} {N M:Nat→Prop} {u:Value} {l:List zM} (h:zAF tr w base N u l) (hb:base'≤base) (hM:∀ b,M b→N b∨w.heap.size≤b):zAF tr w base' M u l:=by
 obtain ⟨vs,h1,h2,h3,h4⟩:=h
 exact ⟨vs,h1,⟨h2.1,h2.2.imp id fun ⟨g,cap,cur,a1,a2,a3⟩=>⟨g,cap,cur,a1,Nat.le_trans hb a2,a3⟩⟩,fun j x v a b=>(h3 j x v a b).mono hM,h4⟩
theorem zFm {w w0 w1:World} {p4:Nat} {u x y:Value} {l:List zM} (h:zAF 53 w1 w0.heap.size (fun b=>b < w0.heap.size) u l) (hb:Below w.heap.size w w0) (hb1:Below w0.heap.size w0 w1) (h4:w.heap.size≤p4) (h4':p4 < w0.heap.size) :
  zAF 53 ((w1.setCell ⟨p4,0,none⟩ x).setCell ⟨p4,1,none⟩ y) w.heap.size (fun b=>b < w.heap.size) u l∧Below w.heap.size w ((w1.setCell ⟨p4,0,none⟩ x).setCell ⟨p4,1,none⟩ y):=by
 have hcc:Chg (fun b=>b=p4) w1 ((w1.setCell ⟨p4,0,none⟩ x).setCell ⟨p4,1,none⟩ y):=Chg.set (S:=fun b=>b=p4) (a:=⟨p4,1,none⟩) (Chg.set (S:=fun b=>b=p4) (a:=⟨p4,0,none⟩) (Chg.refl _ _) rfl _) rfl _
 have hz:=hb.size
 refine ⟨zEz (h.chg hcc (fun g hg e=>?_) (fun b hb _=>?_)) hz (fun b hb=>.inl ?_),?_⟩
 · have:=(h.lt g hg).1
   omega
 · rw [hb];exact h4'
 · exact Nat.lt_of_lt_of_le (by assumption) hz
 · exact ((Chg.of_below (S:=fun b=>w.heap.size≤b) (hb.trans (hb1.mono hz))).mix hcc (fun k hk=>.inl (by rw [hk];exact h4))).below (Nat.le_refl _) (fun _ h=>h)
theorem zEN {s:zG} {ix:Key} {o:Option (Key × List zM)} (h:zBS s ix o):(zBf o).length=16:=by
 cases o with
 | none=>exact zLq
 | some x=>exact h.2.1
theorem zOL (b:Bool) (u:Value) (w:World):∀ (k:List Value),k.length=16→(Instr.field 205 (.agg (zW b k u).toArray) 2).run Tryz.prog w=.ok u w
 | [k0,k1,k2,k3,k4,k5,k6,k7,k8,k9,k10,k11,k12,k13,k14,k15],_=>by kernel_rfl
theorem zNJ (b:Bool) (u:Value) (w:World):∀ (k:List Value),k.length=16→(Instr.field 205 (.agg (zW b k u).toArray) 0).run Tryz.prog w=.ok (.bool b) w
 | [k0,k1,k2,k3,k4,k5,k6,k7,k8,k9,k10,k11,k12,k13,k14,k15],_=>by kernel_rfl
attribute [local irreducible] zK
attribute [local go_sem ↓] Go.wp_at_zero Go.wp_at_succ
attribute [local go_sem ↓] zAK zCH
attribute [local go_sem] ptrB_eq ptrO_eq ptrIs_eq aggL_eq aggIs_eq zS ze zC zF
set_option maxRecDepth 100000 in
set_option maxHeartbeats 1000000 in
theorem zGO (C X:Nat→Prop) (pb:Nat) (s:zG) (r:Req) (hr:r.Wf) (w:World) (h:zT w C X pb s) (hB:zCP s) :
  Calls Tryz.prog 91 #[.pointer (some ⟨pb,0,none⟩),.agg (zK r).toArray] w (Gives w (s.shares r.ix)):=by
 have hR:=(zAC.new w 47 hr)
 have hb0:=(Below.refl w.heap.size w).alloc (Nat.le_refl _) (.cells (zK r).toArray 47)
 have hb1:=hb0.alloc hb0.size (.cells #[.int .i64 0,.slice none 0 0] 43)
 have hR1:=hR.below ((Below.refl _ (w.alloc (.cells (zK r).toArray 47))).alloc (Nat.le_refl _) (.cells #[.int .i64 0,.slice none 0 0] 43))
 have hk4:Blk ((w.alloc (.cells (zK r).toArray 47)).alloc (.cells #[.int .i64 0,.slice none 0 0] 43)) (w.heap.size+1) #[.int .i64 0,.slice none 0 0] 43:=Blk.new_at _ _ _ _ (by simp)
 obtain ⟨cr,hcr⟩:∃ c,c=zK r:=⟨_,rfl⟩
 rw [← hcr] at hR1 hb1 hk4
 rw [← hcr]
 have HCR:=Lib.hid hcr
 obtain ⟨w0,hw0⟩:∃ x,x=(w.alloc (.cells cr.toArray 47)).alloc (.cells #[.int .i64 0,.slice none 0 0] 43):=⟨_,rfl⟩
 obtain ⟨p3,hp3⟩:∃ p,p=w.heap.size:=⟨_,rfl⟩
 obtain ⟨p4,hp4⟩:∃ p,p=w.heap.size+1:=⟨_,rfl⟩
 have HW:=Lib.hid (And.intro hw0 (And.intro hp3 hp4))
 rw [← hw0,← hp3] at hR1
 rw [← hw0] at hb1
 rw [← hw0,← hp4] at hk4
 have H:=Lib.hid (And.intro h (And.intro hB hr))
 have hx4:zT w0 C (fun b=>X b∨b=p4) pb s:=h.growX (fun b hb=>.inl hb) (fun b hb=>hb.imp id (fun e=>by rw [e,hp4];omega)) hb1 (fun b hb=>by rcases hb with hb | hb;exact Nat.lt_of_lt_of_le (h.lt (.inr hb)) hb1.size;rw [hb];exact hk4.lt)
 have H0:=Lib.hid (And.intro hR1 (And.intro hb1 (And.intro hk4 hx4)))
 clear h hB hr hcr hw0 hp3 hp4 hR hR1 hb0 hb1 hk4 hx4
 go_enter Tryz.func91,Tryz.ntmps91
 go_upto_region 1 with fail
 rw [← HW.out.1,← HW.out.2.2,← HW.out.2.1]
 have r1:=H0.out.1.rix
 have g1:=H0.out.1.hix
 have f40:=H0.out.2.2.1.free 0
 have f41:=H0.out.2.2.1.free 1
 have c40:w0.cell? ⟨p4,0,none⟩=some (.int .i64 0):=H0.out.2.2.1.cell 0
 have c41:w0.cell? ⟨p4,1,none⟩=some (.slice none 0 0):=H0.out.2.2.1.cell 1
 have l4:=H0.out.2.2.1.lt
 obtain ⟨ki,hki⟩:∃ c,c=bV r.ix:=⟨_,rfl⟩
 rw [← hki] at r1
 have HKI:=Lib.hid hki
 clear hki
 go_wp2_with fail
 refine (show Calls _ _ _ _ _ from (by rw [HKI.out];exact zDg C _ pb s r.ix H.out.2.2.ix w0 H0.out.2.2.2)).mono ?_
 rintro e w1 ⟨u,rfl,hu,hb1⟩
 obtain ⟨a5,c5,rfl,_⟩:=hu.slice
 obtain ⟨n,hn⟩:∃ n,n=(s.shares r.ix).length:=⟨_,rfl⟩
 rw [← hn] at hu ⊢
 have k4f:=H0.out.2.2.1.kept hb1
 have f40:=k4f.free 0
 have f41:=k4f.free 1
 have c40:w1.cell? ⟨p4,0,none⟩=some (.int .i64 0):=k4f.cell 0
 have c41:w1.cell? ⟨p4,1,none⟩=some (.slice none 0 0):=k4f.cell 1
 have l4f:=k4f.lt
 have HU:=Lib.hid (And.intro hu (And.intro hb1 hn))
 clear hu hb1 hn k4f r1 g1
 go_wp2_with fail
 have hE:=zFm (x:=.int .i64 0) (y:=.slice a5 n c5) HU.out.1 H0.out.2.1 HU.out.2.1 (by rw [HW.out.2.2];omega) H0.out.2.2.1.lt
 exact bodyPost_ret (v:=.agg #[.int .i64 0,.slice a5 n c5]) (by simp [results,Tryz.results91,go_sem,c40,c41]) rfl ⟨.slice a5 n c5,rfl,hE.1,hE.2⟩
set_option maxRecDepth 100000 in
set_option maxHeartbeats 1000000 in
theorem zHA (C X:Nat→Prop) (pb:Nat) (s:zG) (r:Req) (o:Option (Key × List zM)) (hr:r.Wf) (w:World) (h:zT w C X pb s) (hB:zCP s) (ho:zBS s r.ix o) :
  Calls Tryz.prog 93 #[.pointer (some ⟨pb,0,none⟩),.agg (zK r).toArray] w (Gives w (zAy o)):=by
 have hR:=(zAC.new w 47 hr)
 have hb0:=(Below.refl w.heap.size w).alloc (Nat.le_refl _) (.cells (zK r).toArray 47)
 have hb1:=hb0.alloc hb0.size (.cells #[.int .i64 0,.slice none 0 0] 43)
 have hR1:=hR.below ((Below.refl _ (w.alloc (.cells (zK r).toArray 47))).alloc (Nat.le_refl _) (.cells #[.int .i64 0,.slice none 0 0] 43))
 have hk4:Blk ((w.alloc (.cells (zK r).toArray 47)).alloc (.cells #[.int .i64 0,.slice none 0 0] 43)) (w.heap.size+1) #[.int .i64 0,.slice none 0 0] 43:=Blk.new_at _ _ _ _ (by simp)
 obtain ⟨cr,hcr⟩:∃ c,c=zK r:=⟨_,rfl⟩
 rw [← hcr] at hR1 hb1 hk4
 rw [← hcr]
 have HCR:=Lib.hid hcr
 obtain ⟨w0,hw0⟩:∃ x,x=(w.alloc (.cells cr.toArray 47)).alloc (.cells #[.int .i64 0,.slice none 0 0] 43):=⟨_,rfl⟩
 obtain ⟨p3,hp3⟩:∃ p,p=w.heap.size:=⟨_,rfl⟩
 obtain ⟨p4,hp4⟩:∃ p,p=w.heap.size+1:=⟨_,rfl⟩
 have HW:=Lib.hid (And.intro hw0 (And.intro hp3 hp4))
 rw [← hw0,← hp3] at hR1
 rw [← hw0] at hb1
 rw [← hw0,← hp4] at hk4
 have H:=Lib.hid (And.intro h (And.intro hB hr))
 have hx4:zT w0 C (fun b=>X b∨b=p4) pb s:=h.growX (fun b hb=>.inl hb) (fun b hb=>hb.imp id (fun e=>by rw [e,hp4];omega)) hb1 (fun b hb=>by rcases hb with hb | hb;exact Nat.lt_of_lt_of_le (h.lt (.inr hb)) hb1.size;rw [hb];exact hk4.lt)
 have H0:=Lib.hid (And.intro hR1 (And.intro hb1 (And.intro hk4 hx4)))
 clear h hB hr hcr hw0 hp3 hp4 hR hR1 hb0 hb1 hk4 hx4
 have HO:=Lib.hid ho
 go_enter Tryz.func93,Tryz.ntmps93
 go_upto_region 1 with fail
 rw [← HW.out.1,← HW.out.2.2,← HW.out.2.1]
 have r1:=H0.out.1.rix
 have g1:=H0.out.1.hix
 have f40:=H0.out.2.2.1.free 0
 have f41:=H0.out.2.2.1.free 1
 have c40:w0.cell? ⟨p4,0,none⟩=some (.int .i64 0):=H0.out.2.2.1.cell 0
 have c41:w0.cell? ⟨p4,1,none⟩=some (.slice none 0 0):=H0.out.2.2.1.cell 1
 have l4:=H0.out.2.2.1.lt
 obtain ⟨ki,hki⟩:∃ c,c=bV r.ix:=⟨_,rfl⟩
 rw [← hki] at r1
 have HKI:=Lib.hid hki
 clear hki
 go_wp2_with fail
 refine (show Calls _ _ _ _ _ from (by rw [HKI.out];exact zCL C _ pb s r.ix H.out.2.2.ix o w0 H0.out.2.2.2 ho)).mono ?_
 rintro e w1 ⟨u,rfl,hu,hb1⟩
 obtain ⟨a5,c5,rfl,_⟩:=hu.slice
 obtain ⟨kc,hkc⟩:∃ c,c=bV (zBf o):=⟨_,rfl⟩
 rw [← hkc]
 have HKC:=Lib.hid hkc
 clear hkc
 have fl:∀ u w,(Instr.field 205 (.agg (zW o.isSome kc u).toArray) 2).run Tryz.prog w=.ok u w:=fun u w=>zOL _ u w kc (by rw [HKC.out,zB];exact zEN HO.out)
 obtain ⟨n,hn⟩:∃ n,n=(zAy o).length:=⟨_,rfl⟩
 rw [← hn] at hu ⊢
 have k4f:=H0.out.2.2.1.kept hb1
 have f40:=k4f.free 0
 have f41:=k4f.free 1
 have c40:w1.cell? ⟨p4,0,none⟩=some (.int .i64 0):=k4f.cell 0
 have c41:w1.cell? ⟨p4,1,none⟩=some (.slice none 0 0):=k4f.cell 1
 have l4f:=k4f.lt
 have HU:=Lib.hid (And.intro hu (And.intro hb1 hn))
 clear hu hb1 hn k4f r1 g1
 go_wp2_with fail
 have hE:=zFm (x:=.int .i64 0) (y:=.slice a5 n c5) HU.out.1 H0.out.2.1 HU.out.2.1 (by rw [HW.out.2.2];omega) H0.out.2.2.1.lt
 exact bodyPost_ret (v:=.agg #[.int .i64 0,.slice a5 n c5]) (by simp [results,Tryz.results93,go_sem,c40,c41]) rfl ⟨.slice a5 n c5,rfl,hE.1,hE.2⟩
end Go.Proofs.YtbbojbdigiibbaaGreatDoor
end
section
namespace Go.Proofs.YtbbojbdigiibbaaGreatDoor
open Go Go.RowKit Go.Mem Gf Lea
inductive zCK (s:zG) (r:Req) (o:Option (Key × List zM)):Int→zG→Prop
 | none (h:o=none∧s.shares r.ix=[]):zCK s r o 4 s
 | form (h:¬ (o=none∧s.shares r.ix=[])) (hm:¬ May r.ends):zCK s r o 2 s
 | add (err:Int) (s':zG) (h:¬ (o=none∧s.shares r.ix=[])) (hm:May r.ends) (hs:zCe s r.ix r.sec r.ends err s'):zCK s r o err s'
attribute [local irreducible] zK zW
attribute [local go_sem ↓] Go.wp_at_zero Go.wp_at_succ
attribute [local go_sem ↓] zAK zCH
attribute [local go_sem] ptrB_eq ptrO_eq ptrIs_eq aggL_eq aggIs_eq zS ze zC zF
set_option maxRecDepth 100000 in
set_option maxHeartbeats 1000000 in
theorem zHZ (C X:Nat→Prop) (pb:Nat) (s:zG) (r:Req) (o:Option (Key × List zM)) (hr:r.Wf) (w:World) (h:zT w C X pb s) (hB:zCP s) (ho:zBS s r.ix o) :
  Calls Tryz.prog 95 #[.pointer (some ⟨pb,0,none⟩),.agg (zK r).toArray] w (zCw C X pb (zCK s r o) w):=by
 have hR:=(zAC.new w 47 hr)
 have hb0:=(Below.refl w.heap.size w).alloc (Nat.le_refl _) (.cells (zK r).toArray 47)
 have hb1:=hb0.alloc hb0.size (.cells #[.int .i64 0,.slice none 0 0] 43)
 have hR1:=hR.below ((Below.refl _ (w.alloc (.cells (zK r).toArray 47))).alloc (Nat.le_refl _) (.cells #[.int .i64 0,.slice none 0 0] 43))
 have hk4:Blk ((w.alloc (.cells (zK r).toArray 47)).alloc (.cells #[.int .i64 0,.slice none 0 0] 43)) (w.heap.size+1) #[.int .i64 0,.slice none 0 0] 43:=Blk.new_at _ _ _ _ (by simp)
 obtain ⟨cr,hcr⟩:∃ c,c=zK r:=⟨_,rfl⟩
 rw [← hcr] at hR1 hb1 hk4
 rw [← hcr]
 have HCR:=Lib.hid hcr
 obtain ⟨w0,hw0⟩:∃ x,x=(w.alloc (.cells cr.toArray 47)).alloc (.cells #[.int .i64 0,.slice none 0 0] 43):=⟨_,rfl⟩
 obtain ⟨p3,hp3⟩:∃ p,p=w.heap.size:=⟨_,rfl⟩
 obtain ⟨p4,hp4⟩:∃ p,p=w.heap.size+1:=⟨_,rfl⟩
 have HW:=Lib.hid (And.intro hw0 (And.intro hp3 hp4))
 rw [← hw0,← hp3] at hR1
 rw [← hw0] at hb1
 rw [← hw0,← hp4] at hk4
 have H:=Lib.hid (And.intro h (And.intro hB hr))
 have hx4:zT w0 C (fun b=>X b∨b=p4) pb s:=h.growX (fun b hb=>.inl hb) (fun b hb=>hb.imp id (fun e=>by rw [e,hp4];omega)) hb1 (fun b hb=>by rcases hb with hb | hb;exact Nat.lt_of_lt_of_le (h.lt (.inr hb)) hb1.size;rw [hb];exact hk4.lt)
 have H0:=Lib.hid (And.intro hR1 (And.intro hb1 (And.intro hk4 hx4)))
 clear h hB hr hcr hw0 hp3 hp4 hR hR1 hb0 hb1 hk4 hx4
 have HO:=Lib.hid ho
 clear ho
 go_enter Tryz.func95,Tryz.ntmps95
 go_upto_region 1 with fail
 rw [← HW.out.1,← HW.out.2.2,← HW.out.2.1]
 obtain ⟨ki,hki⟩:∃ c,c=bV r.ix:=⟨_,rfl⟩
 have HKI:=Lib.hid hki
 clear hki
 have r1:=H0.out.1.rix
 have g1:=H0.out.1.hix
 rw [← HKI.out] at r1
 go_wp2_with fail
 refine (show Calls _ _ _ _ _ from (by rw [HKI.out];exact zCL C _ pb s r.ix H.out.2.2.ix o w0 H0.out.2.2.2 HO.out)).mono ?_
 rintro e w1 ⟨u,rfl,hu,hb1⟩
 clear hu
 obtain ⟨kc,hkc⟩:∃ c,c=bV (zBf o):=⟨_,rfl⟩
 rw [← hkc]
 have HKC:=Lib.hid hkc
 clear hkc
 obtain ⟨is,his⟩:∃ b,b=o.isSome:=⟨_,rfl⟩
 rw [← his]
 have HIS:=Lib.hid his
 have fl:∀ u w,(Instr.field 205 (.agg (zW is kc u).toArray) 0).run Tryz.prog w=.ok (.bool is) w:=fun u w=>zNJ _ u w kc (by rw [HKC.out,zB];exact zEN HO.out)
 have H1:=Lib.hid (And.intro (H0.out.1.below hb1) (And.intro hb1 (And.intro (H0.out.2.2.1.kept hb1) (H0.out.2.2.2.below hb1))))
 clear his hb1 r1 g1
 cases is with
 | true =>
   have HNO:Hid (¬ (o=none∧s.shares r.ix=[])):=by
    rintro ⟨e,_⟩
    have:=HIS.out
    rw [e] at this
    cases this
   have c33:=H1.out.1.ends
   go_wp2_with fail
   refine (zDk r.ends w1).mono ?_
   rintro e wt ⟨rfl,rfl⟩
   by_cases hmay:May r.ends
   rotate_left
   · have HF:Hid (zCK s r o 2 s):=.form HNO.out hmay
     have dm:decide (May r.ends)=false:=by simpa using hmay
     replace hmay:=Lib.hid hmay
     go_wp2_with fail
     refine (zU 2 w1).mono ?_
     rintro e wf ⟨rfl,hbf⟩
     have k4f:=H1.out.2.2.1.kept hbf
     have f40:=k4f.free 0
     have f41:=k4f.free 1
     have c40:wf.cell? ⟨p4,0,none⟩=some (.int .i64 0):=k4f.cell 0
     have c41:wf.cell? ⟨p4,1,none⟩=some (.slice none 0 0):=k4f.cell 1
     have l4f:=k4f.lt
     have HBF:=Lib.hid hbf
     clear hbf k4f
     go_wp2_with fail
     have hE:=zh (x:=.int .i64 2) (y:=.slice none 0 0) ((H1.out.2.2.2).below HBF.out) ((zAS.of_below (H0.out.2.1.trans (H1.out.2.1.mono H0.out.2.1.size))).post HBF.out) (by rw [HW.out.2.2];omega)
     exact bodyPost_ret (v:=.agg #[.int .i64 2,.slice none 0 0]) (by simp [results,Tryz.results95,go_sem,c40,c41]) rfl ⟨C,2,s,rfl,HF.out,hE.1,hE.2⟩
   · have dm:decide (May r.ends)=true:=by simpa using hmay
     have HM:=Lib.hid hmay
     have r52:=H1.out.1.rall
     have g52:=H1.out.1.hall
     obtain ⟨cr2,hcr2⟩:∃ c,c=zK r:=⟨_,rfl⟩
     rw [← hcr2] at r52
     have HCR2:=Lib.hid hcr2
     clear hmay hcr2
     go_wp2_with fail
     refine (show Calls _ _ _ _ _ from (by rw [HCR2.out];exact zBw C _ pb s r H.out.2.2 w1 H1.out.2.2.2 H.out.2.1)).mono ?_
     rintro e w6 ⟨C',err2,s',rfl,hadd,hs',hsc⟩
     have hp4C:¬ C p4:=fun hC=>by have:=H.out.1.lt (.inl hC);have:=HW.out.2.2;omega
     have hk46:=hsc.1.blk H1.out.2.2.1 hp4C
     have HF:Hid (zCK s r o err2 s'):=.add err2 s' HNO.out HM.out hadd
     have H6:=Lib.hid (And.intro hs' (And.intro ((zAS.of_below (H0.out.2.1.trans (H1.out.2.1.mono H0.out.2.1.size))).trans hsc) hk46))
     clear hadd hs' hsc hk46 r52 g52 hp4C
     go_wp2_with fail
     refine (zU err2 w6).mono ?_
     rintro e wf ⟨rfl,hbf⟩
     have k4f:=H6.out.2.2.kept hbf
     have f40:=k4f.free 0
     have f41:=k4f.free 1
     have c40:wf.cell? ⟨p4,0,none⟩=some (.int .i64 0):=k4f.cell 0
     have c41:wf.cell? ⟨p4,1,none⟩=some (.slice none 0 0):=k4f.cell 1
     have l4f:=k4f.lt
     have HBF:=Lib.hid hbf
     clear hbf k4f
     go_wp2_with fail
     have hE:=zh (x:=.int .i64 err2) (y:=.slice none 0 0) ((H6.out.1).below HBF.out) ((H6.out.2.1).post HBF.out) (by rw [HW.out.2.2];omega)
     exact bodyPost_ret (v:=.agg #[.int .i64 err2,.slice none 0 0]) (by simp [results,Tryz.results95,go_sem,c40,c41]) rfl ⟨C',err2,s',rfl,HF.out,hE.1,hE.2⟩
 | false =>
   have hon:o=none:=by
    have:=HIS.out
    cases o with
    | none=>rfl
    | some x=>cases this
   have HON:=Lib.hid hon
   have r1:=H1.out.1.rix
   have g1:=H1.out.1.hix
   rw [← HKI.out] at r1
   clear hon
   go_wp2_with fail
   refine (show Calls _ _ _ _ _ from (by rw [HKI.out];exact zDg C _ pb s r.ix H.out.2.2.ix w1 H1.out.2.2.2)).mono ?_
   rintro e w2 ⟨u2,rfl,hu2,hb2⟩
   obtain ⟨a5,c5,rfl,_⟩:=hu2.slice
   obtain ⟨n,hn⟩:∃ n,n=(s.shares r.ix).length:=⟨_,rfl⟩
   rw [← hn]
   have HN:=Lib.hid hn
   have H2:=Lib.hid (And.intro (H1.out.1.below hb2) (And.intro (H1.out.2.1.trans (hb2.mono H1.out.2.1.size)) (And.intro (H1.out.2.2.1.kept hb2) (H1.out.2.2.2.below hb2))))
   clear hu2 hb2 hn r1 g1
   by_cases hn0:n=0
   · subst hn0
     have HF:Hid (zCK s r o 4 s):=.none ⟨HON.out,List.length_eq_zero_iff.mp HN.out.symm⟩
     go_wp2_with fail
     refine (zU 4 w2).mono ?_
     rintro e wf ⟨rfl,hbf⟩
     have k4f:=H2.out.2.2.1.kept hbf
     have f40:=k4f.free 0
     have f41:=k4f.free 1
     have c40:wf.cell? ⟨p4,0,none⟩=some (.int .i64 0):=k4f.cell 0
     have c41:wf.cell? ⟨p4,1,none⟩=some (.slice none 0 0):=k4f.cell 1
     have l4f:=k4f.lt
     have HBF:=Lib.hid hbf
     clear hbf k4f
     go_wp2_with fail
     have hE:=zh (x:=.int .i64 4) (y:=.slice none 0 0) ((H2.out.2.2.2).below HBF.out) ((zAS.of_below (H0.out.2.1.trans (H2.out.2.1.mono H0.out.2.1.size))).post HBF.out) (by rw [HW.out.2.2];omega)
     exact bodyPost_ret (v:=.agg #[.int .i64 4,.slice none 0 0]) (by simp [results,Tryz.results95,go_sem,c40,c41]) rfl ⟨C,4,s,rfl,HF.out,hE.1,hE.2⟩
   · have t0:((n:Int) == 0)=false:=by simp;omega
     have t0':(n == 0)=false:=by simp;omega
     have HNO:Hid (¬ (o=none∧s.shares r.ix=[])):=by
      rintro ⟨_,e⟩
      have:=HN.out
      rw [e] at this
      exact hn0 this
     replace hn0:=Lib.hid hn0
     have c33:=H2.out.1.ends
     go_wp2_with fail
     refine (zDk r.ends w2).mono ?_
     rintro e wt ⟨rfl,rfl⟩
     by_cases hmay:May r.ends
     rotate_left
     · have HF:Hid (zCK s r o 2 s):=.form HNO.out hmay
       have dm:decide (May r.ends)=false:=by simpa using hmay
       replace hmay:=Lib.hid hmay
       go_wp2_with fail
       refine (zU 2 w2).mono ?_
       rintro e wf ⟨rfl,hbf⟩
       have k4f:=H2.out.2.2.1.kept hbf
       have f40:=k4f.free 0
       have f41:=k4f.free 1
       have c40:wf.cell? ⟨p4,0,none⟩=some (.int .i64 0):=k4f.cell 0
       have c41:wf.cell? ⟨p4,1,none⟩=some (.slice none 0 0):=k4f.cell 1
       have l4f:=k4f.lt
       have HBF:=Lib.hid hbf
       clear hbf k4f
       go_wp2_with fail
       have hE:=zh (x:=.int .i64 2) (y:=.slice none 0 0) ((H2.out.2.2.2).below HBF.out) ((zAS.of_below (H0.out.2.1.trans (H2.out.2.1.mono H0.out.2.1.size))).post HBF.out) (by rw [HW.out.2.2];omega)
       exact bodyPost_ret (v:=.agg #[.int .i64 2,.slice none 0 0]) (by simp [results,Tryz.results95,go_sem,c40,c41]) rfl ⟨C,2,s,rfl,HF.out,hE.1,hE.2⟩
     · have dm:decide (May r.ends)=true:=by simpa using hmay
       have HM:=Lib.hid hmay
       have r52:=H2.out.1.rall
       have g52:=H2.out.1.hall
       obtain ⟨cr2,hcr2⟩:∃ c,c=zK r:=⟨_,rfl⟩
       rw [← hcr2] at r52
       have HCR2:=Lib.hid hcr2
       clear hmay hcr2
       go_wp2_with fail
       refine (show Calls _ _ _ _ _ from (by rw [HCR2.out];exact zBw C _ pb s r H.out.2.2 w2 H2.out.2.2.2 H.out.2.1)).mono ?_
       rintro e w6 ⟨C',err2,s',rfl,hadd,hs',hsc⟩
       have hp4C:¬ C p4:=fun hC=>by have:=H.out.1.lt (.inl hC);have:=HW.out.2.2;omega
       have hk46:=hsc.1.blk H2.out.2.2.1 hp4C
       have HF:Hid (zCK s r o err2 s'):=.add err2 s' HNO.out HM.out hadd
       have H6:=Lib.hid (And.intro hs' (And.intro ((zAS.of_below (H0.out.2.1.trans (H2.out.2.1.mono H0.out.2.1.size))).trans hsc) hk46))
       clear hadd hs' hsc hk46 r52 g52 hp4C
       go_wp2_with fail
       refine (zU err2 w6).mono ?_
       rintro e wf ⟨rfl,hbf⟩
       have k4f:=H6.out.2.2.kept hbf
       have f40:=k4f.free 0
       have f41:=k4f.free 1
       have c40:wf.cell? ⟨p4,0,none⟩=some (.int .i64 0):=k4f.cell 0
       have c41:wf.cell? ⟨p4,1,none⟩=some (.slice none 0 0):=k4f.cell 1
       have l4f:=k4f.lt
       have HBF:=Lib.hid hbf
       clear hbf k4f
       go_wp2_with fail
       have hE:=zh (x:=.int .i64 err2) (y:=.slice none 0 0) ((H6.out.1).below HBF.out) ((H6.out.2.1).post HBF.out) (by rw [HW.out.2.2];omega)
       exact bodyPost_ret (v:=.agg #[.int .i64 err2,.slice none 0 0]) (by simp [results,Tryz.results95,go_sem,c40,c41]) rfl ⟨C',err2,s',rfl,HF.out,hE.1,hE.2⟩
end Go.Proofs.YtbbojbdigiibbaaGreatDoor
end
section
namespace Go.Mem
open Go Go.RowKit
def zDz (f:Nat→Value) (D:Nat→Bool) (es:List MapEntry):Prop :=
 (∀ e∈es,∃ k:Nat,D k=true∧e.key=.int .i64 k∧e.val=f k)∧∀ k:Nat,D k=true→∃ e∈es,e.key=.int .i64 k
theorem zDz.nil (f:Nat→Value) {D:Nat→Bool} (h:∀ k,D k=false):zDz f D [] :=
 ⟨fun e he=>(List.not_mem_nil he).elim,fun k hk=>by rw [h k] at hk;cases hk⟩
theorem zDz.push {f:Nat→Value} {D E:Nat→Bool} {es:List MapEntry} (h:zDz f D es) (k b:Nat) (hE:∀ j,E j=true↔D j=true∨j=k):zDz f E (es++[⟨.int .i64 k,f k,b⟩]):=by
 refine ⟨fun e he=>?_,fun j hj=>?_⟩
 · rcases List.mem_append.1 he with he | he
   · obtain ⟨j,h1,h2⟩:=h.1 e he
     exact ⟨j,(hE j).2 (.inl h1),h2⟩
   · rw [List.mem_singleton.1 he]
     exact ⟨k,(hE k).2 (.inr rfl),rfl,rfl⟩
 · rcases (hE j).1 hj with h1 | rfl
   · obtain ⟨e,he,h2⟩:=h.2 j h1
     exact ⟨e,List.mem_append_left _ he,h2⟩
   · exact ⟨_,List.mem_append_right _ (List.mem_singleton.2 rfl),rfl⟩
theorem zIU {f:Nat→Value} {D:Nat→Bool} {j:Int} (hj:∀ k:Nat,D k=true→(k:Int)≠j) :
  ∀ (es:List MapEntry) (i:Nat),(∀ e∈es,∃ k:Nat,D k=true∧e.key=.int .i64 k∧e.val=f k)→Instr.findNow (.int .i64) (.int .i64 j) es i=some none
 | [],_,_=>rfl
 | e::es,i,h=>by
   obtain ⟨k,h1,h2,_⟩:=h e List.mem_cons_self
   have hne:=hj k h1
   unfold Instr.findNow
   rw [h2]
   simp only [Instr.sameNow,reduceIte]
   rw [show (j == (k:Int))=false by simp;omega]
   exact zIU hj es (i+1) fun e he=>h e (List.mem_cons_of_mem _ he)
theorem zJQ {f:Nat→Value} {D:Nat→Bool} {j:Nat} :
  ∀ (es:List MapEntry) (i:Nat),(∀ e∈es,∃ k:Nat,D k=true∧e.key=.int .i64 k∧e.val=f k)→(∃ e∈es,e.key=.int .i64 (j:Nat))→∃ n,Instr.findNow (.int .i64) (.int .i64 j) es i=some (some (n,f j))
 | [],_,_,h=>by obtain ⟨_,he,_⟩:=h;cases he
 | e::es,i,h,hx=>by
   obtain ⟨k,h1,h2,h3⟩:=h e List.mem_cons_self
   unfold Instr.findNow
   rw [h2]
   simp only [Instr.sameNow,reduceIte]
   by_cases hk:k=j
   · subst hk
     rw [show ((k:Int) == (k:Int))=true by simp]
     exact ⟨i,by rw [h3]⟩
   · rw [show ((j:Int) == (k:Int))=false by simp;omega]
     refine zJQ es (i+1) (fun e he=>h e (List.mem_cons_of_mem _ he)) ?_
     obtain ⟨e',he',h4⟩:=hx
     rcases List.mem_cons.1 he' with rfl | he'
     · rw [h2] at h4
       simp at h4
       omega
     · exact ⟨e',he',h4⟩
section
variable {P:Program} {mt kt et:TypeId} {w:World} {p c:Nat} {es:Array MapEntry} {f:Nat→Value} {D:Nat→Bool}
theorem zLI (hm:P.underlying mt=some (.map kt et)) (hk:P.underlying kt=some (.int .i64)) (hb:w.heap[p]?=some (.map es c)) (h:zDz f D es.toList) (k:Nat) (hD:D k=false) :
  (Instr.mapUpdate mt (.map (some p)) (.int .i64 k) (f k)).run P w=.ok () { w with heap:=w.heap.setIfInBounds p (.map (es.push ⟨.int .i64 k,f k,c⟩) (c+1)) }:=by
 have hno:∀ j:Nat,D j=true→(j:Int)≠(k:Int):=fun j hj e=>by
  rw [show j=k by omega,hD] at hj
  cases hj
 have hf:Instr.findNow (.int .i64) (.int .i64 k) es.toList 0=some none:=zIU hno es.toList 0 h.1
 have hc:(Instr.checkKey false 10000 kt (.int .i64 k)).run P w=.ok () w:=MapKept.run_checkKey (k:=.int .i64 k) hk (by simp [MapKept.IsKey]) false 9999
 simp [Instr.mapUpdate,run_underlying hm,MapKept.run_getObj_map hb,hc,MapKept.run_findKey hk hf,MapKept.run_setObj_map _ hb,Result.andThen]
theorem zIj (hm:P.underlying mt=some (.map kt et)) (hk:P.underlying kt=some (.int .i64)) (hb:w.heap[p]?=some (.map es c)) (h:zDz f D es.toList) (k:Nat) (hD:D k=true) :
  (Instr.lookup mt (.map (some p)) (.int .i64 k) true).run P w=.ok (.tuple #[f k,.bool true]) w:=by
 obtain ⟨n,hf⟩:=zJQ es.toList 0 h.1 (h.2 k hD)
 have hc:(Instr.checkKey es.isEmpty 10000 kt (.int .i64 k)).run P w=.ok () w:=MapKept.run_checkKey (k:=.int .i64 k) hk (by simp [MapKept.IsKey]) _ 9999
 simp [Instr.lookup,run_underlying hm,MapKept.run_getObj_map hb,hc,MapKept.run_findKey hk hf,Result.andThen]
theorem zJ8 {z:Value} (hm:P.underlying mt=some (.map kt et)) (hk:P.underlying kt=some (.int .i64)) (hz:(zeroValue et).run P w=.ok z w) (hb:w.heap[p]?=some (.map es c)) (h:zDz f D es.toList) (j:Int) (hD:∀ k:Nat,D k=true→(k:Int)≠j) :
  (Instr.lookup mt (.map (some p)) (.int .i64 j) true).run P w=.ok (.tuple #[z,.bool false]) w:=by
 have hf:=zIU hD es.toList 0 h.1
 have hc:(Instr.checkKey es.isEmpty 10000 kt (.int .i64 j)).run P w=.ok () w:=MapKept.run_checkKey (k:=.int .i64 j) hk (by simp [MapKept.IsKey]) _ 9999
 simp [Instr.lookup,run_underlying hm,MapKept.run_getObj_map hb,hc,MapKept.run_findKey hk hf,hz,Result.andThen]
def zFf (f:Nat→Value) (D:Nat→Bool) (w0:World) (p:Nat) (w:World):Prop :=
 w0.heap.size=p∧Below p w0 w∧∃ es c,w.heap[p]?=some (.map es c)∧zDz f D es.toList
theorem zFf.new (f:Nat→Value) (w0:World):zFf f (fun _=>false) w0 w0.heap.size (w0.alloc (.map #[] 0)) :=
 ⟨rfl,(Below.refl _ _).alloc (Nat.le_refl _) _,#[],0,by show (w0.heap.push _)[w0.heap.size]?=_;simp,zDz.nil f fun _=>rfl⟩
theorem zFf.step {w0:World} (hm:P.underlying mt=some (.map kt et)) (hk:P.underlying kt=some (.int .i64)) (h:zFf f D w0 p w) (k:Nat) (hD:D k=false) :
  ∃ w',(Instr.mapUpdate mt (.map (some p)) (.int .i64 k) (f k)).run P w=.ok () w'∧zFf f (Tail.zB1 D k) w0 p w':=by
 obtain ⟨h1,h2,es,c,hb,hf⟩:=h
 refine ⟨_,zLI hm hk hb hf k hD,h1,h2.trans ⟨rfl,rfl,rfl,by simp,fun b hlt=>?_⟩,_,_,(MapKept.heap_set hb).1,?_⟩
 · exact (MapKept.heap_set hb).2 b (by omega)
 · rw [Array.toList_push]
   refine hf.push k c fun j=>?_
   unfold Tail.zB1
   split
   · rename_i e;simp [e]
   · rename_i e;simp [e]
end
end Go.Mem
end
section
namespace Go.Proofs.YtbbojbdigiibbaaGreatDoor
open Go Go.RowKit Go.Mem Gf Lea
def zF6 (k:Nat):Value:=.func (.func (91+(k - 1))) #[] #[]
def zCz (k:Nat):Bool:=decide (1≤k) && decide (k≤6)
theorem zOQ:Value.func (.func 91) #[] #[]=zF6 1:=rfl
theorem zOR:Value.func (.func 92) #[] #[]=zF6 2:=rfl
theorem zOS:Value.func (.func 93) #[] #[]=zF6 3:=rfl
theorem zOT:Value.func (.func 94) #[] #[]=zF6 4:=rfl
theorem zOU:Value.func (.func 95) #[] #[]=zF6 5:=rfl
theorem zOV:Value.func (.func 96) #[] #[]=zF6 6:=rfl
attribute [local go_sem ↓] Go.wp_at_zero Go.wp_at_succ
set_option maxRecDepth 100000 in
set_option maxHeartbeats 1000000 in
theorem zD8 (w:World):Calls Tryz.prog 46 #[] w fun e w'=>e=.returned (.map (some w.heap.size))∧zFf zF6 zCz w w.heap.size w':=by
 have hmm:=run_makeMap (P:=Tryz.prog) 110 w
 obtain ⟨p,hp⟩:∃ p,p=w.heap.size:=⟨_,rfl⟩
 have h0:=zFf.new zF6 w
 obtain ⟨w1,hw1⟩:∃ x,x=w.alloc (.map #[] 0):=⟨_,rfl⟩
 rw [← hp,← hw1] at h0
 rw [← hp,← hw1] at hmm
 rw [← hp]
 obtain ⟨w2,r2,h2⟩:=zFf.step (P:=Tryz.prog) Tryz.underlying110 Tryz.underlying3 h0 1 rfl
 obtain ⟨w3,r3,h3⟩:=zFf.step (P:=Tryz.prog) Tryz.underlying110 Tryz.underlying3 h2 2 rfl
 obtain ⟨w4,r4,h4⟩:=zFf.step (P:=Tryz.prog) Tryz.underlying110 Tryz.underlying3 h3 3 rfl
 obtain ⟨w5,r5,h5⟩:=zFf.step (P:=Tryz.prog) Tryz.underlying110 Tryz.underlying3 h4 4 rfl
 obtain ⟨w6,r6,h6⟩:=zFf.step (P:=Tryz.prog) Tryz.underlying110 Tryz.underlying3 h5 5 rfl
 obtain ⟨w7,r7,h7⟩:=zFf.step (P:=Tryz.prog) Tryz.underlying110 Tryz.underlying3 h6 6 rfl
 rw [← zOQ] at r2
 rw [← zOR] at r3
 rw [← zOS] at r4
 rw [← zOT] at r5
 rw [← zOU] at r6
 rw [← zOV] at r7
 have e7:Tail.zB1 (Tail.zB1 (Tail.zB1 (Tail.zB1 (Tail.zB1 (Tail.zB1 (fun _=>false) 1) 2) 3) 4) 5) 6=zCz:=by
  funext k
  unfold Tail.zB1 zCz
  repeat' split
  all_goals first | (subst_vars;rfl) | (symm;simp;omega)
 rw [e7] at h7
 push_cast at r2 r3 r4 r5 r6 r7
 have H7:=Lib.hid h7
 have HP:=Lib.hid hp
 clear h0 h2 h3 h4 h5 h6 h7 e7
 go_enter Tryz.func46,Tryz.ntmps46
 clear hp hw1
 go_wp2_with fail
 go_ret
 exact ⟨rfl,H7.out⟩
end Go.Proofs.YtbbojbdigiibbaaGreatDoor
end
section
namespace Go.Proofs.YtbbojbdigiibbaaGreatDoor
open Go Go.RowKit Go.Mem Gf Lea
theorem zL2:∀ (k:Nat),zCz k=true→∀ (args:Array Value) (w:World),(callFunc (91+(k - 1)) args).run Tryz.prog w=.ok (.enter (91+(k - 1)) args) w
 | 0,h,_,_=>by cases h
 | 1,_,_,_=>by kernel_rfl
 | 2,_,_,_=>by kernel_rfl
 | 3,_,_,_=>by kernel_rfl
 | 4,_,_,_=>by kernel_rfl
 | 5,_,_,_=>by kernel_rfl
 | 6,_,_,_=>by kernel_rfl
 | k+7,h,_,_=>by simp [zCz] at h
attribute [local irreducible] zK zW
attribute [local go_sem ↓] Go.wp_at_zero Go.wp_at_succ
attribute [local go_sem ↓] zAK zCH
attribute [local go_sem] ptrB_eq ptrO_eq ptrIs_eq aggL_eq aggIs_eq zS ze zC zF
set_option maxRecDepth 100000 in
set_option maxHeartbeats 1000000 in
theorem zJG (C X:Nat→Prop) (pb:Nat) (s:zG) (r:Req) (hr:r.Wf) (w:World) (h:zT w C X pb s) (hB:s.dead=false) (k:Nat) (hk:zCz k=true) (hkr:r.kind=(k:Int)) (Post:Ending→World→Prop)
  (hP:∀ w1 p4,Below w.heap.size w w1→w.heap.size≤p4→Blk w1 p4 #[.int .i64 0,.slice none 0 0] 43→zT w1 C (fun b=>X b∨b=p4) pb s→Calls Tryz.prog (91+(k - 1)) #[.pointer (some ⟨pb,0,none⟩),.agg (zK r).toArray] w1 fun e w'=>∃ err a n c,e=.returned (.agg #[.int .i64 err,.slice a n c])∧Blk w' p4 #[.int .i64 0,.slice none 0 0] 43∧Post (.returned (.agg #[.int .i64 err,.slice a n c])) ((w'.setCell ⟨p4,0,none⟩ (.int .i64 err)).setCell ⟨p4,1,none⟩ (.slice a n c))) :
  Calls Tryz.prog 20 #[.pointer (some ⟨pb,0,none⟩),.agg (zK r).toArray] w (Post):=by
 have hR:=(zAC.new w 47 hr)
 have hb0:=(Below.refl w.heap.size w).alloc (Nat.le_refl _) (.cells (zK r).toArray 47)
 have hb1:=hb0.alloc hb0.size (.cells #[.int .i64 0,.slice none 0 0] 43)
 have hR1:=hR.below ((Below.refl _ (w.alloc (.cells (zK r).toArray 47))).alloc (Nat.le_refl _) (.cells #[.int .i64 0,.slice none 0 0] 43))
 have hk4:Blk ((w.alloc (.cells (zK r).toArray 47)).alloc (.cells #[.int .i64 0,.slice none 0 0] 43)) (w.heap.size+1) #[.int .i64 0,.slice none 0 0] 43:=Blk.new_at _ _ _ _ (by simp)
 obtain ⟨cr,hcr⟩:∃ c,c=zK r:=⟨_,rfl⟩
 rw [← hcr] at hR1 hb1 hk4
 rw [← hcr]
 have HCR:=Lib.hid hcr
 obtain ⟨w0,hw0⟩:∃ x,x=(w.alloc (.cells cr.toArray 47)).alloc (.cells #[.int .i64 0,.slice none 0 0] 43):=⟨_,rfl⟩
 obtain ⟨p3,hp3⟩:∃ p,p=w.heap.size:=⟨_,rfl⟩
 obtain ⟨p4,hp4⟩:∃ p,p=w.heap.size+1:=⟨_,rfl⟩
 have HW:=Lib.hid (And.intro hw0 (And.intro hp3 hp4))
 rw [← hw0,← hp3] at hR1
 rw [← hw0] at hb1
 rw [← hw0,← hp4] at hk4
 have H:=Lib.hid (And.intro h (And.intro hB hr))
 have hx4:zT w0 C (fun b=>X b∨b=p4) pb s:=h.growX (fun b hb=>.inl hb) (fun b hb=>hb.imp id (fun e=>by rw [e,hp4];omega)) hb1 (fun b hb=>by rcases hb with hb | hb;exact Nat.lt_of_lt_of_le (h.lt (.inr hb)) hb1.size;rw [hb];exact hk4.lt)
 have H0:=Lib.hid (And.intro hR1 (And.intro hb1 (And.intro hk4 hx4)))
 clear h hB hr hcr hw0 hp3 hp4 hR hR1 hb0 hb1 hk4 hx4
 have HP:=Lib.hid hP
 have HK:=Lib.hid (And.intro hk hkr)
 clear hP hk hkr
 go_enter Tryz.func20,Tryz.ntmps20
 go_upto_region 1 with fail
 rw [← HW.out.1,← HW.out.2.2,← HW.out.2.1]
 go_wp2_with fail
 refine (zCC C _ pb s w0 H0.out.2.2.2).mono ?_
 rintro e w1 ⟨rfl,rfl⟩
 rw [H.out.2.1]
 go_upto_region 3 with fail
 have c0:=H0.out.1.kind
 rw [HK.out.2] at c0
 have c0:w0.drew.cell? ⟨p3,0,none⟩=some (.int .i64 (k:Int)):=c0
 have l3:=H0.out.1.lt
 obtain ⟨fnn,hfn⟩:∃ n,n=91+(k - 1):=⟨_,rfl⟩
 have HN:=Lib.hid hfn
 clear hfn
 go_region_held3 (fun w'=>w'.cell? ⟨p3,0,none⟩=some (.int .i64 (k:Int))) (first | exact c0 | with_reducible assumption)
  (first
   | (go_at_call 46
      refine (zD8 w0.drew).mono ?_
      rintro e w2 ⟨rfl,hm⟩
      obtain ⟨es,c,hb,hf⟩:=hm.2.2
      have lk:(Instr.lookup 110 (.map (some w0.heap.size)) (.int .i64 (k:Int)) true).run Tryz.prog w2=.ok (.tuple #[.func (.func fnn) #[] #[],.bool true]) w2:=by rw [HN.out];exact zIj (P:=Tryz.prog) Tryz.underlying110 Tryz.underlying3 hb hf k HK.out.1
      have hh:w2.cell? ⟨p3,0,none⟩=some (.int .i64 (k:Int)):=(hm.2.1.cell (p:=⟨p3,0,none⟩) l3).trans c0
      have HM:=Lib.hid hm.2.1
      clear hm hb hf))
 have hb2:Below w0.heap.size w0 w2:=((Below.refl _ _).drew).trans HM.out
 have k42:=H0.out.2.2.1.kept hb2
 have hR2:=H0.out.1.below hb2
 have r52:=hR2.rall
 have g52:=hR2.hall
 obtain ⟨cr2,hcr2⟩:∃ c,c=zK r:=⟨_,rfl⟩
 rw [← hcr2] at r52
 have hcf:∀ args w,(callFunc fnn args).run Tryz.prog w=.ok (.enter fnn args) w:=by rw [HN.out];exact zL2 k HK.out.1
 have H2:=Lib.hid (And.intro k42 (And.intro (H0.out.2.2.2.below hb2) (And.intro (H0.out.2.1.trans (hb2.mono H0.out.2.1.size)) hcr2)))
 clear hb2 k42 hR2 hcr2
 go_wp2_with fail
 refine (show Calls _ _ _ _ _ from (by rw [H2.out.2.2.2,HN.out];exact HP.out w2 p4 H2.out.2.2.1 (by rw [HW.out.2.2];omega) H2.out.1 H2.out.2.1)).mono ?_
 rintro e w3 ⟨err,a5,n5,c5,rfl,hk3,hpost⟩
 have f40:=hk3.free 0
 have f41:=hk3.free 1
 have c40:w3.cell? ⟨p4,0,none⟩=some (.int .i64 0):=hk3.cell 0
 have c41:w3.cell? ⟨p4,1,none⟩=some (.slice none 0 0):=hk3.cell 1
 have l4f:=hk3.lt
 have HPO:=Lib.hid hpost
 clear hpost hk3 r52 g52
 go_wp2_with fail
 exact bodyPost_ret (v:=.agg #[.int .i64 err,.slice a5 n5 c5]) (by simp [results,Tryz.results20,go_sem,c40,c41]) rfl HPO.out
set_option maxRecDepth 100000 in
set_option maxHeartbeats 1000000 in
theorem zOI (C X:Nat→Prop) (pb:Nat) (s:zG) (r:Req) (hr:r.Wf) (w:World) (h:zT w C X pb s) (hB:s.dead=true) :
  Calls Tryz.prog 20 #[.pointer (some ⟨pb,0,none⟩),.agg (zK r).toArray] w (zCw C X pb (fun err s'=>err=8∧s'=s) w):=by
 have hR:=(zAC.new w 47 hr)
 have hb0:=(Below.refl w.heap.size w).alloc (Nat.le_refl _) (.cells (zK r).toArray 47)
 have hb1:=hb0.alloc hb0.size (.cells #[.int .i64 0,.slice none 0 0] 43)
 have hR1:=hR.below ((Below.refl _ (w.alloc (.cells (zK r).toArray 47))).alloc (Nat.le_refl _) (.cells #[.int .i64 0,.slice none 0 0] 43))
 have hk4:Blk ((w.alloc (.cells (zK r).toArray 47)).alloc (.cells #[.int .i64 0,.slice none 0 0] 43)) (w.heap.size+1) #[.int .i64 0,.slice none 0 0] 43:=Blk.new_at _ _ _ _ (by simp)
 obtain ⟨cr,hcr⟩:∃ c,c=zK r:=⟨_,rfl⟩
 rw [← hcr] at hR1 hb1 hk4
 rw [← hcr]
 have HCR:=Lib.hid hcr
 obtain ⟨w0,hw0⟩:∃ x,x=(w.alloc (.cells cr.toArray 47)).alloc (.cells #[.int .i64 0,.slice none 0 0] 43):=⟨_,rfl⟩
 obtain ⟨p3,hp3⟩:∃ p,p=w.heap.size:=⟨_,rfl⟩
 obtain ⟨p4,hp4⟩:∃ p,p=w.heap.size+1:=⟨_,rfl⟩
 have HW:=Lib.hid (And.intro hw0 (And.intro hp3 hp4))
 rw [← hw0,← hp3] at hR1
 rw [← hw0] at hb1
 rw [← hw0,← hp4] at hk4
 have H:=Lib.hid (And.intro h (And.intro hB hr))
 have hx4:zT w0 C (fun b=>X b∨b=p4) pb s:=h.growX (fun b hb=>.inl hb) (fun b hb=>hb.imp id (fun e=>by rw [e,hp4];omega)) hb1 (fun b hb=>by rcases hb with hb | hb;exact Nat.lt_of_lt_of_le (h.lt (.inr hb)) hb1.size;rw [hb];exact hk4.lt)
 have H0:=Lib.hid (And.intro hR1 (And.intro hb1 (And.intro hk4 hx4)))
 clear h hB hr hcr hw0 hp3 hp4 hR hR1 hb0 hb1 hk4 hx4
 go_enter Tryz.func20,Tryz.ntmps20
 go_upto_region 1 with fail
 rw [← HW.out.1,← HW.out.2.2,← HW.out.2.1]
 go_wp2_with fail
 refine (zCC C _ pb s w0 H0.out.2.2.2).mono ?_
 rintro e w1 ⟨rfl,rfl⟩
 rw [H.out.2.1]
 go_wp2_with fail
 refine (zU 8 w0).mono ?_
 rintro e wf ⟨rfl,hbf⟩
 have k4f:=H0.out.2.2.1.kept hbf
 have f40:=k4f.free 0
 have f41:=k4f.free 1
 have c40:wf.cell? ⟨p4,0,none⟩=some (.int .i64 0):=k4f.cell 0
 have c41:wf.cell? ⟨p4,1,none⟩=some (.slice none 0 0):=k4f.cell 1
 have l4f:=k4f.lt
 have HBF:=Lib.hid hbf
 clear hbf k4f
 go_wp2_with fail
 have hE:=zh (x:=.int .i64 8) (y:=.slice none 0 0) ((H0.out.2.2.2).below HBF.out) ((zAS.of_below H0.out.2.1).post HBF.out) (by rw [HW.out.2.2];omega)
 exact bodyPost_ret (v:=.agg #[.int .i64 8,.slice none 0 0]) (by simp [results,Tryz.results20,go_sem,c40,c41]) rfl ⟨C,8,s,rfl,⟨rfl,rfl⟩,hE.1,hE.2⟩
set_option maxRecDepth 100000 in
set_option maxHeartbeats 1000000 in
theorem zOJ (C X:Nat→Prop) (pb:Nat) (s:zG) (r:Req) (hr:r.Wf) (w:World) (h:zT w C X pb s) (hB:s.dead=false) (hk:∀ k:Nat,zCz k=true→(k:Int)≠r.kind) :
  Calls Tryz.prog 20 #[.pointer (some ⟨pb,0,none⟩),.agg (zK r).toArray] w (zCw C X pb (fun err s'=>err=2∧s'=s) w):=by
 have hR:=(zAC.new w 47 hr)
 have hb0:=(Below.refl w.heap.size w).alloc (Nat.le_refl _) (.cells (zK r).toArray 47)
 have hb1:=hb0.alloc hb0.size (.cells #[.int .i64 0,.slice none 0 0] 43)
 have hR1:=hR.below ((Below.refl _ (w.alloc (.cells (zK r).toArray 47))).alloc (Nat.le_refl _) (.cells #[.int .i64 0,.slice none 0 0] 43))
 have hk4:Blk ((w.alloc (.cells (zK r).toArray 47)).alloc (.cells #[.int .i64 0,.slice none 0 0] 43)) (w.heap.size+1) #[.int .i64 0,.slice none 0 0] 43:=Blk.new_at _ _ _ _ (by simp)
 obtain ⟨cr,hcr⟩:∃ c,c=zK r:=⟨_,rfl⟩
 rw [← hcr] at hR1 hb1 hk4
 rw [← hcr]
 have HCR:=Lib.hid hcr
 obtain ⟨w0,hw0⟩:∃ x,x=(w.alloc (.cells cr.toArray 47)).alloc (.cells #[.int .i64 0,.slice none 0 0] 43):=⟨_,rfl⟩
 obtain ⟨p3,hp3⟩:∃ p,p=w.heap.size:=⟨_,rfl⟩
 obtain ⟨p4,hp4⟩:∃ p,p=w.heap.size+1:=⟨_,rfl⟩
 have HW:=Lib.hid (And.intro hw0 (And.intro hp3 hp4))
 rw [← hw0,← hp3] at hR1
 rw [← hw0] at hb1
 rw [← hw0,← hp4] at hk4
 have H:=Lib.hid (And.intro h (And.intro hB hr))
 have hx4:zT w0 C (fun b=>X b∨b=p4) pb s:=h.growX (fun b hb=>.inl hb) (fun b hb=>hb.imp id (fun e=>by rw [e,hp4];omega)) hb1 (fun b hb=>by rcases hb with hb | hb;exact Nat.lt_of_lt_of_le (h.lt (.inr hb)) hb1.size;rw [hb];exact hk4.lt)
 have H0:=Lib.hid (And.intro hR1 (And.intro hb1 (And.intro hk4 hx4)))
 clear h hB hr hcr hw0 hp3 hp4 hR hR1 hb0 hb1 hk4 hx4
 have HK:=Lib.hid hk
 clear hk
 go_enter Tryz.func20,Tryz.ntmps20
 go_upto_region 1 with fail
 rw [← HW.out.1,← HW.out.2.2,← HW.out.2.1]
 go_wp2_with fail
 refine (zCC C _ pb s w0 H0.out.2.2.2).mono ?_
 rintro e w1 ⟨rfl,rfl⟩
 rw [H.out.2.1]
 go_upto_region 3 with fail
 have c0:w0.drew.cell? ⟨p3,0,none⟩=some (.int .i64 r.kind):=H0.out.1.kind
 have l3:=H0.out.1.lt
 go_region_held3 (fun w'=>w'.cell? ⟨p3,0,none⟩=some (.int .i64 r.kind)) (first | exact c0 | with_reducible assumption)
  (first
   | (go_at_call 46
      refine (zD8 w0.drew).mono ?_
      rintro e w2 ⟨rfl,hm⟩
      obtain ⟨es,c,hb,hf⟩:=hm.2.2
      have lk:(Instr.lookup 110 (.map (some w0.heap.size)) (.int .i64 r.kind) true).run Tryz.prog w2=.ok (.tuple #[.nilFunc,.bool false]) w2:=zJ8 (P:=Tryz.prog) Tryz.underlying110 Tryz.underlying3 (by kernel_rfl) hb hf r.kind HK.out
      have hh:w2.cell? ⟨p3,0,none⟩=some (.int .i64 r.kind):=(hm.2.1.cell (p:=⟨p3,0,none⟩) l3).trans c0
      have HM:=Lib.hid hm.2.1
      clear hm hb hf))
 have hb2:Below w0.heap.size w0 w2:=((Below.refl _ _).drew).trans HM.out
 have H2:=Lib.hid (And.intro (H0.out.2.2.1.kept hb2) (And.intro (H0.out.2.2.2.below hb2) (H0.out.2.1.trans (hb2.mono H0.out.2.1.size))))
 clear hb2
 go_wp2_with fail
 refine (zU 2 w2).mono ?_
 rintro e wf ⟨rfl,hbf⟩
 have k4f:=H2.out.1.kept hbf
 have f40:=k4f.free 0
 have f41:=k4f.free 1
 have c40:wf.cell? ⟨p4,0,none⟩=some (.int .i64 0):=k4f.cell 0
 have c41:wf.cell? ⟨p4,1,none⟩=some (.slice none 0 0):=k4f.cell 1
 have l4f:=k4f.lt
 have HBF:=Lib.hid hbf
 clear hbf k4f
 go_wp2_with fail
 have hE:=zh (x:=.int .i64 2) (y:=.slice none 0 0) ((H2.out.2.1).below HBF.out) ((zAS.of_below H2.out.2.2).post HBF.out) (by rw [HW.out.2.2];omega)
 exact bodyPost_ret (v:=.agg #[.int .i64 2,.slice none 0 0]) (by simp [results,Tryz.results20,go_sem,c40,c41]) rfl ⟨C,2,s,rfl,⟨rfl,rfl⟩,hE.1,hE.2⟩
end Go.Proofs.YtbbojbdigiibbaaGreatDoor
end
section
namespace Go.Mem
open Go Go.RowKit Gf Lea Go.Proofs.YtbbojbdigiibbaaGreatDoor
theorem zB7 {a b:List UInt8} (h:(⟨a.toArray⟩:ByteArray)=⟨b.toArray⟩):a=b:=by
 injection h with h
 simpa using h
theorem zLJ {ix ix':Key} {n n':Nat} (h:zI ix n=zI ix' n') (hi:ix.length=16) (hi':ix'.length=16) (hn:n < 16) (hn':n' < 16):ix=ix'∧n=n':=by
 have h:=zB7 h
 injection h with _ h
 have h2:=List.append_inj h (by omega)
 refine ⟨h2.1,?_⟩
 have h3:UInt8.ofNat n=UInt8.ofNat n':=by simpa using h2.2
 have h4:=congrArg UInt8.toNat h3
 simpa [Nat.mod_eq_of_lt (show n < 256 by omega),Nat.mod_eq_of_lt (show n' < 256 by omega)] using h4
theorem zG0 {ix ix':Key} (h:zD ix=zD ix'):ix=ix':=by
 have h:=zB7 h
 injection h
theorem zE2 {ix ix':Key} {n:Nat}:zI ix n≠zw ix':=fun h=>by
 have h:=zB7 h
 injection h with h _
 exact absurd h (by decide)
theorem zCI {ix ix':Key} {n:Nat}:zI ix n≠zD ix':=fun h=>by
 have h:=zB7 h
 injection h with h _
 exact absurd h (by decide)
theorem zCt {ix ix':Key}:zw ix≠zD ix':=fun h=>by
 have h:=zB7 h
 injection h with h _
 exact absurd h (by decide)
def zDt (nm:ByteArray):Key:=(nm.data.toList.drop 1).take 16
theorem zB5 {ix:Key} (n:Nat) (h:ix.length=16):zDt (zI ix n)=ix:=by
 show ((115::(ix++[UInt8.ofNat n])).drop 1).take 16=ix
 rw [List.drop_succ_cons,List.drop_zero,List.take_append_of_le_length (by omega),List.take_of_length_le (by omega)]
theorem zCY {ix:Key} (h:ix.length=16):zDt (zw ix)=ix:=by
 show ((99::ix).drop 1).take 16=ix
 rw [List.drop_succ_cons,List.drop_zero,List.take_of_length_le (by omega)]
theorem zDX {ix:Key} (h:ix.length=16):zDt (zD ix)=ix:=by
 show ((108::ix).drop 1).take 16=ix
 rw [List.drop_succ_cons,List.drop_zero,List.take_of_length_le (by omega)]
theorem zB9 (ix:Key) (n:Nat) (h:ix.length=16):(zI ix n).size=18:=by
 show (115::(ix++[UInt8.ofNat n])).toArray.size=18
 simp;omega
theorem zEY (ix:Key) (h:ix.length=16):(zw ix).size=17:=zER 99 h
theorem zCn (ix:Key) (h:ix.length=16):(zD ix).size=17:=zER 108 h
structure LeOk (out:List Sec):Prop where
 wf:∀ s∈out,WfL s∧May s.2
 few:out.length≤8
 nodup:(out.map (·.1)).Nodup
 up:out.Pairwise fun a b=>ltL b a=false
 ne:out≠[]
inductive zAm:ByteArray→List UInt8→Prop
 | share (ix:Key) (n:Nat) (data:List UInt8) (h:ix.length=16) (hn:n < 16) (hd:data.length≤16384):zAm (zI ix n) data
 | slot (ix k:Key) (l:List zM) (h:ix.length=16) (hk:k.length=16) (hl:zDy l) (h16:l.length≤16) (hu:(l.map (·.1)).Pairwise (· < ·)) (hne:l≠[]):zAm (zw ix) (zAA k l)
 | lease (ix:Key) (out:List Sec) (h:ix.length=16) (hl:LeOk out):zAm (zD ix) (zu out)
def zAZ (l:List Sto.Rec):Prop:=∀ r∈l,r.is=true→zAm r.name r.data
theorem zAZ.free (n:Nat):zAZ (List.replicate n Sto.Rec.free):=fun r hr h=>by
 rw [(List.mem_replicate.1 hr).2] at h
 cases h
theorem zAZ.set {l:List Sto.Rec} (h:zAZ l) (t:Nat) {r:Sto.Rec} (hr:r.is=true→zAm r.name r.data):zAZ (l.set t r):=fun r' h'=>by
 rcases List.mem_or_eq_of_mem_set h' with h' | rfl
 · exact h r' h'
 · exact hr
theorem zAZ.drop {l:List Sto.Rec} (h:zAZ l) (t:Nat):zAZ (l.set t Sto.Rec.free):=h.set t (fun h=>by cases h)
theorem zAZ.putL {l:List Sto.Rec} (h:zAZ l) {name:ByteArray} {data:List UInt8} (hr:zAm name data):zAZ (putL l name data):=h.set _ (fun _=>hr)
theorem zAZ.putF {l:List Sto.Rec} (h:zAZ l) {name:ByteArray} {data:List UInt8} (hr:zAm name data):zAZ (putF l name data):=by
 unfold Go.Mem.putF
 split
 · exact h.putL hr
 · exact (h.putL hr).drop _
theorem zAZ.thin {l l':List Sto.Rec} (h:zAZ l) (ht:Sto.zCg l l'):zAZ l':=fun r hr his=>by
 obtain ⟨i,hi⟩:=List.getElem?_of_mem hr
 rcases ht.2 i with h1 | ⟨_,_,_,_,h1⟩
 · exact h r (List.mem_of_getElem? (h1.symm.trans hi)) his
 · rw [h1] at hi;cases hi;cases his
theorem zLf {l:List Sto.Rec} {nm:ByteArray} {b:List UInt8} (h:Sto.look l nm=some b):∃ r∈l,r.is=true∧r.name=nm∧r.data=b:=by
 obtain ⟨k,hk⟩:=zIL h
 obtain ⟨r,h1,h2,_⟩:=(Sto.zAD _ _ _).1 k hk
 unfold Sto.look at h
 rw [hk] at h
 simp only [Option.map_some,Option.some.injEq] at h
 rw [List.getD_eq_getElem?_getD,h2.1] at h
 exact ⟨r,List.mem_of_getElem? h2.1,h2.2.1,h2.2.2,h⟩
theorem zAZ.look {l:List Sto.Rec} (h:zAZ l) {nm:ByteArray} {b:List UInt8} (hl:Sto.look l nm=some b):zAm nm b:=by
 obtain ⟨r,h1,h2,rfl,rfl⟩:=zLf hl
 exact h r h1 h2
theorem zAZ.size {l:List Sto.Rec} (h:zAZ l):∀ r∈l,r.is=true→17≤r.name.size:=fun r hr his=>by
 have:=h r hr his
 generalize r.data=dd at this
 revert this
 generalize r.name=nm
 intro this
 cases this with
 | share ix n _ h _ _=>rw [zB9 _ _ h];omega
 | slot ix _ _ h _ _ _ _=>rw [zEY _ h];exact Nat.le_refl _
 | lease ix _ h _=>rw [zCn _ h];exact Nat.le_refl _
theorem zAm.slot_of {ix:Key} {b:List UInt8} (h:zAm (zw ix) b):∃ k l,b=zAA k l∧k.length=16∧zDy l∧l.length≤16∧(l.map (·.1)).Pairwise (· < ·)∧l≠[]:=by
 generalize hn:zw ix=nm at h
 cases h with
 | share ix n _ _ _ _=>exact absurd hn (fun e=>zE2 e.symm)
 | slot ix k l _ hk hl h16 hu hne=>exact ⟨k,l,rfl,hk,hl,h16,hu,hne⟩
 | lease ix out _ hl=>exact absurd hn zCt
theorem zAZ.cont {s:zG} (h:zAZ s.st.recs) (hd:s.st.dead=false) (ix:Key):∃ o,zBS s ix o:=by
 cases hl:Sto.look s.st.recs (zw ix) with
 | none=>exact ⟨none,by show s.st.get _=none;rw [St.get_look hd,hl]⟩
 | some b =>
   obtain ⟨k,l,rfl,h1,h2,h3,_⟩:=(h.look hl).slot_of
   exact ⟨some (k,l),by rw [St.get_look hd,hl],h1,h2,h3⟩
structure zA4 (m:Nat) (s:St):Prop where
 holds:Holds s.disk s.room s.recs
 uniq:Sto.Uniq s.recs
 disk:s.disk.dead=false
 dead:s.dead=false
 bnd:Bnd m s.recs
 writes:s.disk.writes≤2000*m
 room:1≤s.room∧s.room≤1000
 recs:zAZ s.recs
structure zF0 (m:Nat) (D:zA) (room:Nat) (l:List Sto.Rec):Prop where
 holds:Holds D room l
 bnd:Bnd m l
 writes:D.writes≤2000*m
 recs:zAZ l
theorem zA4.le {m m':Nat} {s:St} (h:zA4 m s) (hm:m≤m'):zA4 m' s:=⟨h.holds,h.uniq,h.disk,h.dead,fun r hr=>Nat.le_trans (h.bnd r hr) hm,by have:=h.writes;omega,h.room,h.recs⟩
theorem zF0.le {m m':Nat} {D:zA} {room:Nat} {l:List Sto.Rec} (h:zF0 m D room l) (hm:m≤m'):zF0 m' D room l:=⟨h.holds,fun r hr=>Nat.le_trans (h.bnd r hr) hm,by have:=h.writes;omega,h.recs⟩
theorem zA4.fresh (slots room:Nat) (h:1≤room∧room≤1000):zA4 0 ⟨room,List.replicate slots Sto.Rec.free,false,.fresh (slots*(room+1))⟩ :=
 ⟨Holds.fresh slots room,zIE slots,rfl,rfl,zM3 slots,Nat.le_refl _,h,zAZ.free _⟩
inductive PutL (m:Nat) (s:St) (name:ByteArray) (data:List UInt8):Int × St→Prop
 | arg (h:zAb s.room name data=false):PutL m s name data (1,s)
 | full (h:zAb s.room name data=true) (hs:Sto.slot s.recs=s.recs.length):PutL m s name data (3,s)
 | done (s':St) (h:zAb s.room name data=true) (hs:Sto.slot s.recs < s.recs.length) (hr:s'.recs=putF s.recs name data) (hl:zA4 (m+1) s') (ho:s'.room=s.room) (hst:s'.disk.stops=s.disk.stops):PutL m s name data (0,s')
 | torn (s':St) (l:List Sto.Rec) (h:zAb s.room name data=true) (hs:Sto.slot s.recs < s.recs.length) (hd:s.disk.stops=true) (h1:s'.disk.dead=true) (h2:s'.dead=true) (ho:s'.room=s.room) (hl:zF0 (m+1) s'.disk s.room l) (hx:l=s.recs∨Sto.zCg (putL s.recs name data) l):PutL m s name data (8,s')
theorem zA4.put {m:Nat} {s:St} (h:zA4 m s) (hm:m < 1000000) {name:ByteArray} {data:List UInt8} (hr:zAm name data):PutL m s name data (zO s name data):=by
 have hro:=h.room
 have hw:=h.writes
 have hpw:=zE0 s name data
 rcases zOe h.holds h.disk h.dead h.bnd (by omega) name data with ⟨h1,e⟩ | ⟨h1,h2,e⟩ | ⟨h0,h1,h2,h3,h4⟩
 · rw [e];exact .arg h1
 · rw [e];exact .full h1 h2
 · have hb:Bnd (m+1) (putL s.recs name data):=h.bnd.set (by omega) _ (h.bnd.next name)
   generalize zO s name data=R at *
   obtain ⟨e,s'⟩:=R
   simp only at *
   rcases h4 with ⟨rfl,a2,a3,a4,a5⟩ | ⟨rfl,a2,a3,a4,l,a5,a6⟩
   · refine .done s' h0 h1 a4 ⟨by rw [h2,a4];exact a5,by rw [a4];exact zMb h.uniq h1 name data,a3,a2,by rw [a4];exact hb.thin (zFr h1 name data),by omega,by rw [h2];exact hro,by rw [a4];exact h.recs.putF hr⟩ h2 h3
   · refine .torn s' l h0 h1 a2 a4 a3 h2 ⟨a5,?_,by omega,?_⟩ a6
     · rcases a6 with rfl | a6
       · exact fun r hr=>Nat.le_succ_of_le (h.bnd r hr)
       · exact hb.thin a6
     · rcases a6 with rfl | a6
       · exact h.recs
       · exact (h.recs.putL hr).thin a6
inductive zIy (m:Nat) (s:St) (name:ByteArray):Int × St→Prop
 | none (h:Sto.look s.recs name=none):zIy m s name (4,s)
 | done (s':St) (x:List UInt8) (h:Sto.look s.recs name=some x) (k:Nat) (hk:Sto.best s.recs name s.recs.length=some k) (hr:s'.recs=s.recs.set k Sto.Rec.free) (hl:zA4 (m+1) s') (ho:s'.room=s.room) (hst:s'.disk.stops=s.disk.stops) (hlk:∀ nm,Sto.look s'.recs nm=if nm=name then Option.none else Sto.look s.recs nm):zIy m s name (0,s')
 | torn (s':St) (l:List Sto.Rec) (x:List UInt8) (h:Sto.look s.recs name=some x) (hd:s.disk.stops=true) (h1:s'.disk.dead=true) (h2:s'.dead=true) (ho:s'.room=s.room) (hl:zF0 (m+1) s'.disk s.room l) (hn:l.length=s.recs.length) (hlk:∀ nm,nm≠name→Sto.look l nm=Sto.look s.recs nm) (hx:Sto.look l name=Option.none∨Sto.look l name=some x):zIy m s name (8,s')
theorem zA4.drop {m:Nat} {s:St} (h:zA4 m s) (name:ByteArray):zIy m s name (zAd s name):=by
 unfold zAd
 rw [if_neg (by simp [h.dead])]
 cases hb:Sto.best s.recs name s.recs.length with
 | none=>exact .none (by unfold Sto.look;rw [hb];rfl)
 | some k =>
   obtain ⟨rk,hk,_⟩:=(Sto.zAD _ _ _).1 k hb
   obtain ⟨x,hx⟩:∃ x,Sto.look s.recs name=some x:=by unfold Sto.look;rw [hb];exact ⟨_,rfl⟩
   have hwr:(s.freeS k).disk.writes≤s.disk.writes+1:=zA.wr_writes _ _ _
   have hw:=h.writes
   have hlk:=Sto.zMM h.uniq hb
   have hb1:Bnd (m+1) s.recs:=fun r hr=>Nat.le_succ_of_le (h.bnd r hr)
   have hb2:Bnd (m+1) (s.recs.set k Sto.Rec.free):=h.bnd.set (by omega) k (Nat.zero_le _)
   have hst:(s.freeS k).disk.stops=s.disk.stops:=zBz _ _ _
   show zIy m s name (s.freeE k,s.freeS k)
   have hro:(s.freeS k).room=s.room:=rfl
   rcases zJT h.holds h.disk h.dead hk with ⟨a1,a2,a3,a4,a5⟩ | ⟨a1,a2,a2',a3,a4,a5,a6⟩
   · rw [a1]
     refine .done _ x hx k hb a4 ⟨by rw [a4,hro];exact a5,by rw [a4];exact h.uniq.drop k,a3,a2,by rw [a4];exact hb2,by omega,h.room,by rw [a4];exact h.recs.drop k⟩ hro hst (fun nm=>by rw [a4];exact hlk nm)
   · rw [a1]
     rcases a6 with a6 | a6
     · exact .torn _ s.recs x hx a2 a4 a3 hro ⟨a6,hb1,by omega,h.recs⟩ rfl (fun _ _=>rfl) (.inr hx)
     · exact .torn _ _ x hx a2 a4 a3 hro ⟨a6,hb2,by omega,h.recs.drop k⟩ List.length_set (fun nm hn=>by rw [hlk,if_neg hn]) (.inl (by rw [hlk,if_pos rfl]))
def TabIs (l:List Sto.Rec) (tab:List Les):Prop:=∀ ix:Key,ix.length=16→(Sto.look l (zD ix)=none∧ofL tab ix=[])∨∃ out,Sto.look l (zD ix)=some (zu out)∧OfR tab ix out∧out≠[]
theorem zDN {t:List Les} (hw:∀ x∈t,Wf x) (hg:Lea.Good t) {ix:Key} {out:List Sec} (h:OfR t ix out) (hne:out≠[]):LeOk out:=by
 refine ⟨fun s hs=>?_,?_,?_,h.up,hne⟩
 · obtain ⟨x,hx,_,e⟩:=zBs.1 (h.perm.mem_iff.1 hs)
   subst e
   exact ⟨(hw x hx).2,hg.ends x hx⟩
 · rw [h.perm.length_eq];exact hg.few ix
 · have hg':Lea.Good (t.filter fun x=>decide (x.ix=ix)):=hg.sub List.filter_sublist
   have h1:(t.filter fun x=>decide (x.ix=ix)).map kOf=((ofL t ix).map (·.1)).map fun s=>(ix,s):=by
    unfold ofL
    rw [List.map_map,List.map_map]
    refine List.map_congr_left fun x hx=>?_
    have:=(List.mem_filter.1 hx).2
    simp only [decide_eq_true_eq] at this
    subst this
    rfl
   have h2:=hg'.uniq
   rw [h1] at h2
   exact (h.perm.map _).nodup_iff.2 ((List.pairwise_map.1 h2).imp (fun h e=>h (by rw [e])))
end Go.Mem
end
section
namespace Lea
theorem zEj {ix ix':Key} (hn:ix'≠ix):∀ {l:List Les} {k:Nat} {x y:Les},l[k]?=some x→x.ix=ix→y.ix=ix→ofL (l.set k y) ix'=ofL l ix'
 | z::l,0,x,y,hx,h1,h2=>by
   simp at hx
   subst hx
   unfold ofL
   rw [List.set_cons_zero,List.filter_cons_of_neg (by simpa [h2] using fun e=>hn e.symm),List.filter_cons_of_neg (by simpa [h1] using fun e=>hn e.symm)]
 | z::l,k+1,x,y,hx,h1,h2=>by
   have ih:=zEj hn (l:=l) (k:=k) (by simpa using hx) h1 h2
   unfold ofL at ih ⊢
   rw [List.set_cons_succ,List.filter_cons,List.filter_cons]
   split
   · rw [List.map_cons,List.map_cons,ih]
   · exact ih
theorem zBK.other {l l':List Les} {ix sec:Key} {e:Int} {b:Bool} (h:zBK l ix sec e b l') {ix':Key} (hn:ix'≠ix):(ofL l' ix').Perm (ofL l ix'):=by
 cases h with
 | no _=>exact List.Perm.refl _
 | more k x _ _ hx h1 _ hp=>exact (zDM hp ix').trans (by rw [zEj hn hx h1 rfl])
 | new _ _ _ _ hp =>
   refine (zDM hp ix').trans ?_
   rw [zGY]
   have:ofL [(⟨ix,sec,e⟩:Les)] ix'=[]:=by
    unfold ofL
    rw [List.filter_cons_of_neg (by simpa using fun e=>hn e.symm)];rfl
   rw [this,List.append_nil]
theorem zBK.wf {l l':List Les} {ix sec:Key} {e:Int} {b:Bool} (h:zBK l ix sec e b l') (hw:∀ x∈l,Wf x) (h1:ix.length=16) (h2:sec.length=16):∀ x∈l',Wf x:=by
 cases h with
 | no _=>exact hw
 | more k x _ _ hx _ _ hp =>
   intro y hy
   rcases List.mem_or_eq_of_mem_set (hp.mem_iff.1 hy) with hy | rfl
   · exact hw y hy
   · exact ⟨h1,h2⟩
 | new _ _ _ _ hp =>
   intro y hy
   rcases List.mem_append.1 (hp.mem_iff.1 hy) with hy | hy
   · exact hw y hy
   · rw [List.mem_singleton.1 hy];exact ⟨h1,h2⟩
theorem zBK.has {l l':List Les} {ix sec:Key} {e:Int} (h:zBK l ix sec e true l'):∃ x∈l',x.ix=ix∧x.sec=sec∧e≤x.e:=by
 cases h with
 | more k x _ _ hx _ _ hp=>exact ⟨_,hp.mem_iff.2 (List.mem_set (Go.Mem.zq hx) _),rfl,rfl,by show e≤max x.e e;omega⟩
 | new _ _ _ _ hp=>exact ⟨⟨ix,sec,e⟩,hp.mem_iff.2 (by simp),rfl,rfl,Int.le_refl _⟩
theorem zBK.ne {l l':List Les} {ix sec:Key} {e:Int} (h:zBK l ix sec e true l'):ofL l' ix≠[]:=fun e'=>by
 obtain ⟨x,hx,h1,_⟩:=h.has
 exact zFT.1 e' x hx h1
theorem CancelR.other {l l':List Les} {ix sec:Key} {b:Bool} (h:CancelR l ix sec b l') {ix':Key} (hn:ix'≠ix):(ofL l' ix').Perm (ofL l ix'):=by
 cases h with
 | no _=>exact List.Perm.refl _
 | gone x _ h1 _ hp =>
   refine List.Perm.trans ?_ (zDM hp ix')
   unfold ofL
   rw [List.filter_cons_of_neg (by simpa [h1] using fun e=>hn e.symm)]
theorem CancelR.sub {l l':List Les} {ix sec:Key} {b:Bool} (h:CancelR l ix sec b l'):∀ x∈l',x∈l:=by
 cases h with
 | no _=>exact fun _ h=>h
 | gone x _ _ _ hp=>exact fun y hy=>hp.mem_iff.1 (List.mem_cons_of_mem _ hy)
theorem OfR.nil_iff {l:List Les} {ix:Key} {out:List Sec} (h:OfR l ix out):out=[]↔ofL l ix=[]:=by
 have:=h.perm.length_eq
 constructor
 · intro e;rw [e] at this;exact List.eq_nil_of_length_eq_zero this.symm
 · intro e;rw [e] at this;exact List.eq_nil_of_length_eq_zero this
end Lea
namespace Go.Mem
open Go Go.RowKit Gf Lea Go.Proofs.YtbbojbdigiibbaaGreatDoor
abbrev Look:=ByteArray→Option (List UInt8)
structure zBU (m:Nat) (s:zG):Prop where
 st:zA4 m s.st
 good:Lea.Good s.tab
 wf:∀ x∈s.tab,Wf x
 tab:TabIs s.st.recs s.tab
 brk:s.broken=false
 slots:s.slots=s.st.recs.length
 room:s.room=s.st.room
 few:s.slots≤120
structure zI0 (m:Nat) (s:zG) (l:List Sto.Rec):Prop where
 dead:s.st.disk.dead=true
 hold:zF0 m s.st.disk s.room l
 good:Lea.Good s.tab
 slots:s.slots=l.length
 room:1≤s.room∧s.room≤1000
 few:s.slots≤120
def SrvT (m:Nat) (s:zG) (f:Look):Prop:=(zBU m s∧∀ nm,f nm=Sto.look s.st.recs nm)∨∃ l,zI0 m s l∧∀ nm,f nm=Sto.look l nm
theorem zI0.le {m m':Nat} {s:zG} {l:List Sto.Rec} (h:zI0 m s l) (hm:m≤m'):zI0 m' s l:=⟨h.dead,h.hold.le hm,h.good,h.slots,h.room,h.few⟩
theorem zBU.live {m:Nat} {s:zG} (h:zBU m s):s.dead=false:=by
 unfold zG.dead
 rw [h.brk,h.st.disk,h.st.dead];rfl
theorem zBU.get {m:Nat} {s:zG} (h:zBU m s) (nm:ByteArray):s.st.get nm=Sto.look s.st.recs nm:=St.get_look h.st.dead nm
def upd (f:Look) (nm:ByteArray) (x:Option (List UInt8)):Look:=fun n=>if n=nm then x else f n
theorem zFU {l:List Sto.Rec} (ht:Sto.slot l < l.length) (name:ByteArray) (data:List UInt8):∀ nm,Sto.look (putF l name data) nm=upd (Sto.look l) name (some data) nm:=fun nm=>zMa ht name data nm
theorem zKO {l l':List Sto.Rec} (ht:Sto.slot l < l.length) {name:ByteArray} {data:List UInt8} (h:l'=l∨Sto.zCg (putL l name data) l'):l'.length=l.length∧((∀ nm,Sto.look l' nm=Sto.look l nm)∨∀ nm,Sto.look l' nm=upd (Sto.look l) name (some data) nm):=by
 rcases h with rfl | h
 · exact ⟨rfl,.inl fun _=>rfl⟩
 · refine ⟨by rw [h.1];unfold Go.Mem.putL;rw [List.length_set],.inr fun nm=>?_⟩
   rw [h.look,zH1 ht];rfl
theorem zBU.put {m:Nat} {s:zG} (h:zBU m s) (hm:m < 1000000) {name:ByteArray} {data:List UInt8} (hr:zAm name data) (hn:∀ ix,name≠zD ix) :
  ((zO s.st name data).1=0∧zBU (m+1) { s with st:=(zO s.st name data).2 }∧(∀ nm,Sto.look (zO s.st name data).2.recs nm=upd (Sto.look s.st.recs) name (some data) nm)∧(zO s.st name data).2.disk.stops=s.st.disk.stops) ∨
  (((zO s.st name data).1=1∨(zO s.st name data).1=3)∧(zO s.st name data).2=s.st) ∨
  ((zO s.st name data).1=8∧s.st.disk.stops=true∧∃ l,zI0 (m+1) { s with st:=(zO s.st name data).2 } l∧((∀ nm,Sto.look l nm=Sto.look s.st.recs nm)∨∀ nm,Sto.look l nm=upd (Sto.look s.st.recs) name (some data) nm)):=by
 have hp:=h.st.put hm hr
 have hro:=h.st.room
 generalize zO s.st name data=R at hp
 cases hp with
 | arg _=>exact .inr (.inl ⟨.inl rfl,rfl⟩)
 | full _ _=>exact .inr (.inl ⟨.inr rfl,rfl⟩)
 | done s' _ hs hr' hl ho hst =>
   refine .inl ⟨rfl,⟨hl,h.good,h.wf,fun ix hx=>?_,h.brk,?_,?_,h.few⟩,fun nm=>by rw [hr'];exact zFU hs _ _ nm,hst⟩
   · show (Sto.look s'.recs (zD ix)=none∧_)∨_
     rw [hr',zFU hs,upd,if_neg (fun e=>hn ix e.symm)]
     exact h.tab ix hx
   · show s.slots=s'.recs.length
     rw [hr',zEE,h.slots]
   · show s.room=s'.room
     rw [ho,h.room]
 | torn s' l _ hs hd h1 h2 ho hl hx =>
   have ht:=zKO hs hx
   exact .inr (.inr ⟨rfl,hd,l,⟨h1,by rw [h.room];exact hl,h.good,by show s.slots=l.length;rw [ht.1,h.slots],by rw [h.room];exact hro,h.few⟩,ht.2⟩)
theorem zBU.lay {m:Nat} {s:zG} (h:zBU m s) (hm:m < 1000000) {ix:Key} (hix:ix.length=16) {l2:List Les} (hg:Lea.Good l2) (hw:∀ x∈l2,Wf x) (ho:∀ ix',ix'≠ix→(ofL l2 ix').Perm (ofL s.tab ix')) {err:Int} {s':zG} (hl:zGc s ix l2 err s') :
  ∃ out,OfR l2 ix out ∧
  ((err=0∧zBU (m+1) s'∧s'.tab=l2∧(∀ nm,Sto.look s'.st.recs nm=upd (Sto.look s.st.recs) (zD ix) (if out=[] then none else some (zu out)) nm)∧s'.st.disk.stops=s.st.disk.stops) ∨
   ((err=1∨err=3∨err=4)∧s'=s) ∨
   (err=8∧s.st.disk.stops=true∧∃ l,zI0 (m+1) s' l∧((∀ nm,Sto.look l nm=Sto.look s.st.recs nm)∨∀ nm,Sto.look l nm=upd (Sto.look s.st.recs) (zD ix) (if out=[] then none else some (zu out)) nm))):=by
 obtain ⟨out,hR,herr,hs'⟩:=hl
 have hro:=h.st.room
 refine ⟨out,hR,?_⟩
 by_cases h0:out=[]
 · have e0:zDY s ix out=zAd s.st (zD ix):=by unfold zDY;rw [if_pos (by rw [h0];rfl)]
   rw [e0] at herr hs'
   have hp:=h.st.drop (zD ix)
   generalize zAd s.st (zD ix)=R at hp herr hs'
   simp only [if_pos h0]
   cases hp with
   | none _ =>
     subst herr
     rw [if_neg (by simp)] at hs'
     exact .inr (.inl ⟨.inr (.inr rfl),hs'⟩)
   | done st' x _ k hk hr hl' ho' hst hlk =>
     subst herr
     rw [if_pos (.inl rfl)] at hs'
     subst hs'
     refine .inl ⟨rfl,⟨hl',hg,hw,fun ix' hx'=>?_,h.brk,?_,?_,h.few⟩,rfl,fun nm=>hlk nm,hst⟩
     · show (Sto.look st'.recs (zD ix')=none∧ofL l2 ix'=[])∨_
       by_cases e:ix'=ix
       · subst e
         exact .inl ⟨by rw [hlk,if_pos rfl],hR.nil_iff.1 h0⟩
       · rw [hlk,if_neg (fun e'=>e (zG0 e'))]
         rcases h.tab ix' hx' with ⟨a1,a2⟩ | ⟨o,a1,a2,a3⟩
         · exact .inl ⟨a1,by have:=(ho ix' e).length_eq;rw [a2] at this;exact List.eq_nil_of_length_eq_zero this⟩
         · exact .inr ⟨o,a1,⟨a2.perm.trans (ho ix' e).symm,a2.up⟩,a3⟩
     · show s.slots=st'.recs.length
       rw [hr,List.length_set,h.slots]
     · show s.room=st'.room
       rw [ho',h.room]
   | torn st' l x hx hd h1 h2 ho' hl' hn hlk hx' =>
     subst herr
     rw [if_pos (.inr rfl)] at hs'
     subst hs'
     refine .inr (.inr ⟨rfl,hd,l,⟨h1,by show zF0 _ st'.disk s.room l;rw [h.room];exact hl',hg,by show s.slots=l.length;rw [hn,h.slots],by show 1≤s.room∧s.room≤1000;rw [h.room];exact hro,h.few⟩,?_⟩)
     rcases hx' with hx' | hx'
     · right
       intro nm
       unfold upd
       split
       · rename_i e;rw [e];exact hx'
       · rename_i e;exact hlk nm e
     · left
       intro nm
       by_cases e:nm=zD ix
       · rw [e,hx',hx]
       · exact hlk nm e
 · have e0:zDY s ix out=zO s.st (zD ix) (zu out):=by
    unfold zDY
    rw [if_neg (fun e=>h0 (List.eq_nil_of_length_eq_zero e))]
   rw [e0] at herr hs'
   have hp:=h.st.put hm (zAm.lease ix out hix (zDN hw hg hR h0))
   generalize zO s.st (zD ix) (zu out)=R at hp herr hs'
   simp only [if_neg h0]
   cases hp with
   | arg _ =>
     subst herr
     rw [if_neg (by simp)] at hs'
     exact .inr (.inl ⟨.inl rfl,hs'⟩)
   | full _ _ =>
     subst herr
     rw [if_neg (by simp)] at hs'
     exact .inr (.inl ⟨.inr (.inl rfl),hs'⟩)
   | done st' _ hs hr hl' ho' hst =>
     subst herr
     rw [if_pos (.inl rfl)] at hs'
     subst hs'
     have hlk:∀ nm,Sto.look st'.recs nm=upd (Sto.look s.st.recs) (zD ix) (some (zu out)) nm:=fun nm=>by rw [hr];exact zFU hs _ _ nm
     refine .inl ⟨rfl,⟨hl',hg,hw,fun ix' hx'=>?_,h.brk,?_,?_,h.few⟩,rfl,hlk,hst⟩
     · show (Sto.look st'.recs (zD ix')=none∧ofL l2 ix'=[])∨_
       rw [hlk]
       by_cases e:ix'=ix
       · subst e
         exact .inr ⟨out,by rw [upd,if_pos rfl],hR,h0⟩
       · rw [upd,if_neg (fun e'=>e (zG0 e'))]
         rcases h.tab ix' hx' with ⟨a1,a2⟩ | ⟨o,a1,a2,a3⟩
         · exact .inl ⟨a1,by have:=(ho ix' e).length_eq;rw [a2] at this;exact List.eq_nil_of_length_eq_zero this⟩
         · exact .inr ⟨o,a1,⟨a2.perm.trans (ho ix' e).symm,a2.up⟩,a3⟩
     · show s.slots=st'.recs.length
       rw [hr,zEE,h.slots]
     · show s.room=st'.room
       rw [ho',h.room]
   | torn st' l _ hs hd h1 h2 ho' hl' hx =>
     subst herr
     rw [if_pos (.inr rfl)] at hs'
     subst hs'
     have ht:=zKO hs hx
     exact .inr (.inr ⟨rfl,hd,l,⟨h1,by show zF0 _ st'.disk s.room l;rw [h.room];exact hl',hg,by show s.slots=l.length;rw [ht.1,h.slots],by show 1≤s.room∧s.room≤1000;rw [h.room];exact hro,h.few⟩,ht.2⟩)
theorem zBU.add {m:Nat} {s:zG} (h:zBU m s) (hm:m < 1000000) {ix sec:Key} (hix:ix.length=16) (hsec:sec.length=16) {e:Int} {err:Int} {s':zG} (hl:zCe s ix sec e err s') :
  (err=3∧s'=s∧zBK s.tab ix sec e false s.tab)∨∃ l2 out,zBK s.tab ix sec e true l2∧OfR l2 ix out∧out≠[] ∧
  ((err=0∧zBU (m+1) s'∧s'.tab=l2∧(∀ nm,Sto.look s'.st.recs nm=upd (Sto.look s.st.recs) (zD ix) (some (zu out)) nm)∧s'.st.disk.stops=s.st.disk.stops) ∨
   ((err=1∨err=3∨err=4)∧s'=s) ∨
   (err=8∧s.st.disk.stops=true∧∃ l,zI0 (m+1) s' l∧((∀ nm,Sto.look l nm=Sto.look s.st.recs nm)∨∀ nm,Sto.look l nm=upd (Sto.look s.st.recs) (zD ix) (some (zu out)) nm))):=by
 cases hl with
 | full h1=>exact .inl ⟨rfl,rfl,h1⟩
 | laid l2 _ _ ha hy =>
   obtain ⟨out,hR,hc⟩:=h.lay hm hix (ha.good h.good) (ha.wf h.wf hix hsec) (fun ix' hn=>ha.other hn) hy
   have h0:out≠[]:=fun e=>ha.ne (hR.nil_iff.1 e)
   simp only [if_neg h0] at hc
   exact .inr ⟨l2,out,ha,hR,h0,hc⟩
end Go.Mem
end
