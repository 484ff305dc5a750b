/- Texts of this proof,packed: SrvPut,SrvCan,SrvGet,SrvRen,zD9,SrvHand,SrvDo. -/
import Derived.Test.YtbbojbdigiibbaaGreatDoorPb11
import Derived.Test.YtbbojbdigiibbaaGreatDoorPb08
import Derived.Test.YtbbojbdigiibbaaGreatDoorPb09
import Derived.MapKept
import Derived.Below
section
namespace Go.Proofs.YtbbojbdigiibbaaGreatDoor
open Go Go.RowKit Go.Mem Gf Lea
theorem i52:(Tryz.prog.info? 47).map (·.size)=some 52:=by kernel_rfl
theorem zCX (dst:Option Tmp) (x:Operand) (ty:TypeId) (pos:String) (af:Array Edge) (gd:Option (Tmp × Bool)) (a:Act) (w:World) (K:Act→World→Prop) (Q:Exit→Act→World→Prop)
  (hp:zAs (a.eval x)=true) (ht:zW 52 w (zAB (a.eval x)) (zAC (a.eval x))) :
  Oper.wp Tryz.prog ⟨dst,.load 47 x,ty,pos,af,gd⟩ a w K Q=K (a.put dst (.agg (zN 52 w (zAB (a.eval x)) (zAC (a.eval x))).toArray)) w :=
 zEW Tryz.underlying47 rfl i52 dst x ty pos af gd a w K Q hp ht
inductive zBB (s:zF) (r:Req) (l:List zP):Int→zF→Prop
 | form (h:¬ (l.length=1∧zAd l∧May r.ends)):zBB s r l 2 s
 | no (n:Nat) (data:List UInt8) (err:Int) (hl:l=[((n:Int),data)]) (hn:n < 16) (hm:May r.ends) (ha:zE5 s r.ix r.sec r.ends (zJ r.ix n) data (s.st.get (zJ r.ix n)).isSome err) (h0:err≠0):zBB s r l err s
 | torn (n:Nat) (data:List UInt8) (hl:l=[((n:Int),data)]) (hn:n < 16) (hm:May r.ends) (hg:s.st.get (zJ r.ix n)=none) (ha:zE5 s r.ix r.sec r.ends (zJ r.ix n) data false 0) (h0:(zU s.st (zJ r.ix n) data).1≠0):zBB s r l (zU s.st (zJ r.ix n) data).1 { s with st:=(zU s.st (zJ r.ix n) data).2 }
 | put (n:Nat) (data:List UInt8) (err:Int) (s':zF) (hl:l=[((n:Int),data)]) (hn:n < 16) (hm:May r.ends) (hg:s.st.get (zJ r.ix n)=none) (ha:zE5 s r.ix r.sec r.ends (zJ r.ix n) data false 0) (h0:(zU s.st (zJ r.ix n) data).1=0) (hs:zCv { s with st:=(zU s.st (zJ r.ix n) data).2 } r.ix r.sec r.ends err s'):zBB s r l err s'
 | there (n:Nat) (data:List UInt8) (err:Int) (s':zF) (hl:l=[((n:Int),data)]) (hn:n < 16) (hm:May r.ends) (hg:(s.st.get (zJ r.ix n)).isSome=true) (ha:zE5 s r.ix r.sec r.ends (zJ r.ix n) data true 0) (hs:zCv s r.ix r.sec r.ends err s'):zBB s r l (if err=0 then 5 else err) s'
theorem zKh {ix:Key} (h:ix.length=16) (n:Nat):(zJ ix n).size≤1000000:=by
 have:(zJ ix n).size=18:=by
  show (115::(ix++[UInt8.ofNat n])).toArray.size=18
  simp [h]
 omega
def zDA (C X:Nat→Prop) (pb:Nat) (R:Int→zF→Prop) (w:World) (e:Ending) (w':World):Prop :=
 ∃ C' err s',e=.returned (.agg #[.int .i64 err,.slice none 0 0])∧R err s'∧zR w' C' X pb s'∧zAO C C' w w'
theorem zR.shrinkX {w:World} {C X X':Nat→Prop} {pb:Nat} {s:zF} (h:zR w C X pb s) (hx:∀ b,X' b→X b):zR w C X' pb s:=by
 obtain ⟨sb,lb,d,L,tb,v,h⟩:=h
 exact ⟨sb,lb,d,L,tb,v,h.shrinkX hx⟩
theorem zR.xc {w:World} {C X:Nat→Prop} {pb:Nat} {s:zF} (h:zR w C X pb s):∀ b,X b→¬ C b:=by
 obtain ⟨sb,lb,d,L,tb,v,h⟩:=h
 exact h.xc
theorem zm {w w':World} {C C' X:Nat→Prop} {pb p4:Nat} {s':zF} (h:zR w' C' (fun b=>X b∨b=p4) pb s') (hc:zAO C C' w w') (h4:w.heap.size≤p4) (x y:Value) :
  zR ((w'.setCell ⟨p4,0,none⟩ x).setCell ⟨p4,1,none⟩ y) C' X pb s'∧zAO C C' w ((w'.setCell ⟨p4,0,none⟩ x).setCell ⟨p4,1,none⟩ y):=by
 have hcc:Chg (fun b=>b=p4) w' ((w'.setCell ⟨p4,0,none⟩ x).setCell ⟨p4,1,none⟩ y):=Chg.set (S:=fun b=>b=p4) (a:=⟨p4,1,none⟩) (Chg.set (S:=fun b=>b=p4) (a:=⟨p4,0,none⟩) (Chg.refl _ _) rfl _) rfl _
 refine ⟨(h.chg hcc (fun b hb=>?_) (fun b hb _=>.inr hb)).shrinkX (fun b hb=>.inl hb),⟨hc.1.mix hcc (fun k hk=>.inr (by rw [hk];exact h4)),hc.2⟩⟩
 rw [hb]
 exact h.xc p4 (.inr rfl)
attribute [local irreducible] zM
attribute [local go_sem ↓] Go.wp_at_zero Go.wp_at_succ
attribute [local go_sem ↓] zAN zCX
attribute [local go_sem] ptrB_eq ptrO_eq ptrIs_eq aggL_eq aggIs_eq zT zg zC zG
set_option maxRecDepth 100000 in
set_option maxHeartbeats 2000000 in
theorem zKS (C X:Nat→Prop) (pb:Nat) (s:zF) (r:Req) (l:List zP) (hr:r.Wf) (w:World) (h:zR w C X pb s) (hB:zCb s) (hwr:s.st.disk.writes < 72057594037800000) (hl:zAI w (fun b=>C b∨X b) r.vb l) (hd:∀ x∈l,x.2.length≤1000000) :
  Calls Tryz.prog 92 #[.pointer (some ⟨pb,0,none⟩),.agg (zM r).toArray] w (zDA C X pb (zBB s r l) w):=by
 obtain ⟨la,lc,hvb,hlc1,hlc2,hrow⟩:=id hl
 obtain ⟨n,hn⟩:∃ n,n=l.length:=⟨_,rfl⟩
 rw [← hn] at hvb hlc1 hrow
 have hR:=(zAE.new w 47 hr)
 have hb0:=(Below.refl w.heap.size w).alloc (Nat.le_refl _) (.cells (zM r).toArray 47)
 have hb1:=hb0.alloc hb0.size (.cells #[.int .i64 0,.slice none 0 0] 43)
 have hR1:=hR.below ((Below.refl _ (w.alloc (.cells (zM r).toArray 47))).alloc (Nat.le_refl _) (.cells #[.int .i64 0,.slice none 0 0] 43))
 have hk4:Blk ((w.alloc (.cells (zM r).toArray 47)).alloc (.cells #[.int .i64 0,.slice none 0 0] 43)) (w.heap.size+1) #[.int .i64 0,.slice none 0 0] 43:=Blk.new_at _ _ _ _ (by simp)
 obtain ⟨cr,hcr⟩:∃ c,c=zM r:=⟨_,rfl⟩
 rw [← hcr] at hR1 hb1 hk4
 rw [← hcr]
 have HCR:=Zh hcr
 obtain ⟨w0,hw0⟩:∃ x,x=(w.alloc (.cells cr.toArray 47)).alloc (.cells #[.int .i64 0,.slice none 0 0] 43):=⟨_,rfl⟩
 obtain ⟨p3,hp3⟩:∃ p,p=w.heap.size:=⟨_,rfl⟩
 obtain ⟨p4,hp4⟩:∃ p,p=w.heap.size+1:=⟨_,rfl⟩
 have HW:=Zh (Zi hw0 (Zi hp3 hp4))
 rw [← hw0,← hp3] at hR1
 rw [← hw0] at hb1
 rw [← hw0,← hp4] at hk4
 have H:=Zh (Zi h (Zi hB (Zi hr (Zi hl (Zi hd hn)))))
 have hx4:zR w0 C (fun b=>X b∨b=p4) pb s:=h.growX (fun b hb=>.inl hb) (fun b hb=>hb.imp id (fun e=>by rw [e,hp4];omega)) hb1 (fun b hb=>by rcases hb with hb | hb;exact Nat.lt_of_lt_of_le (h.lt (.inr hb)) hb1.size;rw [hb];exact hk4.lt)
 have H0:=Zh (Zi hR1 (Zi hb1 (Zi hk4 hx4)))
 have c33:=hR1.ends
 have c51:=hR1.blobs
 rw [hvb] at c51
 clear h hB hr hl hd hn hcr hw0 hp3 hp4 hR hR1 hb0 hb1 hk4 hx4
 go_enter Tryz.func92,Tryz.ntmps92
 go_upto_region 1 with fail
 rw [← HW.o.1,← HW.o.2.2,← HW.o.2.1]
 have HVB:=Zh hvb
 clear hvb
 by_cases h1:n=1
 rotate_left
 · have d1:((n:Int) != 1)=true:=by simp;omega
   have d1':(n != 1)=true:=by simp;omega
   have HF:Hid (zBB s r l 2 s):=zBB.form (by rintro ⟨e,_⟩;have:=H.o.2.2.2.2.2;omega)
   go_wp2_with fail
   refine (zV 2 w0).mono ?_
   rintro e w1 ⟨rfl,hb⟩
   have k4:=H0.o.2.2.1.kept hb
   have f40:=k4.free 0
   have f41:=k4.free 1
   have c40:w1.cell? ⟨p4,0,none⟩=some (.int .i64 0):=k4.cell 0
   have c41:w1.cell? ⟨p4,1,none⟩=some (.slice none 0 0):=k4.cell 1
   have l4:=k4.lt
   have HB1:=Zh (Zi hb k4)
   clear hb k4
   go_wp2_with fail
   have hE:=zm (x:=.int .i64 2) (y:=.slice none 0 0) (H0.o.2.2.2.below HB1.o.1) (zAO.of_below (H0.o.2.1.trans (HB1.o.1.mono H0.o.2.1.size))) (by rw [HW.o.2.2];omega)
   exact bodyPost_ret (v:=.agg #[.int .i64 2,.slice none 0 0]) (by simp [results,Tryz.results92,go_sem,c40,c41]) rfl ⟨C,2,s,rfl,HF.o,hE.1,hE.2⟩
 · obtain ⟨x,hx⟩:∃ x,l=[x]:=by
    match l,H.o.2.2.2.2.2 with
    | [x],_=>exact ⟨x,rfl⟩
    | [],e=>simp at e;omega
    | _::_::_,e=>simp at e;omega
   obtain ⟨b,off,rfl,hbl,hnN,hcells⟩:=hrow (by omega)
   obtain ⟨q1,a',c',q2,hda⟩:=hcells 0 x (by rw [hx];rfl)
   rw [Nat.zero_mul,Nat.add_zero] at q1 q2
   obtain ⟨q,hq⟩:∃ q,q=x.2.length:=⟨_,rfl⟩
   rw [← hq] at q2 hda
   obtain ⟨z,hz⟩:∃ z,z=x.1:=⟨_,rfl⟩
   rw [← hz] at q1
   have HX:=Zh (Zi hx (Zi hbl (Zi q1 (Zi q2 (Zi hda (Zi hq hz))))))
   subst h1
   clear hx hbl hnN hcells q1 q2 hda hq hz
   have d1:((1:Int) != 1)=false:=by decide
   have hblobs:=zGK _ r.vb l w0 (H.o.2.2.2.1.below H0.o.2.1)
   rw [HVB.o] at hblobs
   go_wp2_with fail
   refine hblobs.mono ?_
   rintro e w1 ⟨bb,rfl,hbb,hb1⟩
   clear hblobs
   have k41:=H0.o.2.2.1.kept hb1
   have hw01:=H0.o.2.1.trans (hb1.mono H0.o.2.1.size)
   have hR1:=H0.o.1.below hb1
   have c33:=hR1.ends
   have c51:=hR1.blobs
   rw [HVB.o] at c51
   have H1:=Zh (Zi hbb (Zi hb1 (Zi k41 (Zi hw01 (Zi hR1 (H0.o.2.2.2.below hb1))))))
   clear hbb hb1 k41 hw01 hR1
   cases bb with
   | false =>
     have HF:Hid (zBB s r l 2 s):=zBB.form (fun h=>Bool.noConfusion (H1.o.1.2 h.2.1))
     go_wp2_with fail
     refine (zV 2 w1).mono ?_
     rintro e wf ⟨rfl,hbf⟩
     have k4f:=H1.o.2.2.1.kept hbf
     have f40:=k4f.free 0
     have f41:=k4f.free 1
     have c40:wf.cell? ⟨p4,0,none⟩=some (.int .i64 0):=k4f.cell 0
     have c41:wf.cell? ⟨p4,1,none⟩=some (.slice none 0 0):=k4f.cell 1
     have l4f:=k4f.lt
     have HBF:=Zh hbf
     clear hbf k4f
     go_wp2_with fail
     have hE:=zm (x:=.int .i64 2) (y:=.slice none 0 0) ((H1.o.2.2.2.2.2).below HBF.o) ((zAO.of_below H1.o.2.2.2.1).post HBF.o) (by rw [HW.o.2.2];omega)
     exact bodyPost_ret (v:=.agg #[.int .i64 2,.slice none 0 0]) (by simp [results,Tryz.results92,go_sem,c40,c41]) rfl ⟨C,2,s,rfl,HF.o,hE.1,hE.2⟩
   | true =>
     go_wp2_with fail
     refine (zDw r.ends w1).mono ?_
     rintro e wt ⟨rfl,rfl⟩
     by_cases hmay:May r.ends
     rotate_left
     · have HF:Hid (zBB s r l 2 s):=zBB.form (fun h=>hmay h.2.2)
       have dm:decide (May r.ends)=false:=by simpa using hmay
       replace hmay:=Zh hmay
       go_wp2_with fail
       refine (zV 2 w1).mono ?_
       rintro e wf ⟨rfl,hbf⟩
       have k4f:=H1.o.2.2.1.kept hbf
       have f40:=k4f.free 0
       have f41:=k4f.free 1
       have c40:wf.cell? ⟨p4,0,none⟩=some (.int .i64 0):=k4f.cell 0
       have c41:wf.cell? ⟨p4,1,none⟩=some (.slice none 0 0):=k4f.cell 1
       have l4f:=k4f.lt
       have HBF:=Zh hbf
       clear hbf k4f
       go_wp2_with fail
       have hE:=zm (x:=.int .i64 2) (y:=.slice none 0 0) ((H1.o.2.2.2.2.2).below HBF.o) ((zAO.of_below H1.o.2.2.2.1).post HBF.o) (by rw [HW.o.2.2];omega)
       exact bodyPost_ret (v:=.agg #[.int .i64 2,.slice none 0 0]) (by simp [results,Tryz.results92,go_sem,c40,c41]) rfl ⟨C,2,s,rfl,HF.o,hE.1,hE.2⟩
     · have dm:decide (May r.ends)=true:=by simpa using hmay
       have HM:=Zh hmay
       have hnum:=(H1.o.1.1 (by first | rfl | trivial)).1 x (by rw [HX.o.1];simp)
       obtain ⟨m,hm⟩:∃ m:Nat,(m:Int)=z:=⟨z.toNat,by rw [HX.o.2.2.2.2.2.2];omega⟩
       have hm16:m < 16:=by have:=HX.o.2.2.2.2.2.2;omega
       have q1:w1.cell? ⟨b,off,none⟩=some (.int .i64 z):=(H1.o.2.2.2.1.cell (p:=⟨b,off,none⟩) HX.o.2.1).trans HX.o.2.2.1
       have q2:w1.cell? ⟨b,off+1,none⟩=some (.slice a' q c'):=(H1.o.2.2.2.1.cell (p:=⟨b,off+1,none⟩) HX.o.2.1).trans HX.o.2.2.2.1
       rw [← hm] at q1
       have HMZ:=Zh hm
       have rk:=H1.o.2.2.2.2.1.rix
       have gk:=H1.o.2.2.2.2.1.hix
       have lp3:=H1.o.2.2.2.2.1.lt
       have lp4:=H1.o.2.2.1.lt
       obtain ⟨ki,hki⟩:∃ c,c=bV r.ix:=⟨_,rfl⟩
       rw [← hki] at rk
       have HKI:=Zh hki
       clear hmay hnum hm hki
       obtain ⟨sb,lb,d,L,tb,v,hA1⟩:=H1.o.2.2.2.2.2
       have HA1:=Zh hA1
       clear hA1
       go_upto_region 4 with fail
       have hk5:Blk (w1.alloc (.cells #[.int .i64 m,.slice a' q c'] 53)) w1.heap.size #[.int .i64 m,.slice a' q c'] 53:=Blk.new _ _ _
       have hbA:Below w1.heap.size w1 (w1.alloc (.cells #[.int .i64 m,.slice a' q c'] 53)):=(Below.refl _ _).alloc (Nat.le_refl _) _
       obtain ⟨wa,hwa⟩:∃ x,x=w1.alloc (.cells #[.int .i64 m,.slice a' q c'] 53):=⟨_,rfl⟩
       obtain ⟨p5,hp5⟩:∃ x,x=w1.heap.size:=⟨_,rfl⟩
       rw [← hwa] at hk5 hbA ⊢
       rw [← hp5] at hk5 ⊢
       have HWA:=Zh (Zi hk5 (Zi hbA hp5))
       have c50:wa.cell? ⟨p5,0,none⟩=some (.int .i64 m):=hk5.cell 0
       have hRa:=H1.o.2.2.2.2.1.below hbA
       have rk:=hRa.rix
       have gk:=hRa.hix
       rw [← HKI.o] at rk
       clear hk5 hbA hwa hp5 hRa
       go_wp2_with fail
       refine (show Calls _ _ _ _ _ from (by rw [HKI.o];exact zEU r.ix H.o.2.2.1.ix m hm16 wa)).mono ?_
       rintro e w2 ⟨rfl,hb2⟩
       have hb12:=HWA.o.2.1.trans (hb2.mono HWA.o.2.1.size)
       have c3:w2.cell? ⟨pb,3,none⟩=some (.pointer (some ⟨sb,0,none⟩)):=(HA1.o.below hb12).blk.cell 3
       have H2:=Zh (Zi hb2 hb12)
       clear hb2 hb12 rk gk c50
       go_wp2_with fail
       refine (zCM _ sb lb d L s.st (zJ r.ix m) w2 (HA1.o.below H2.o.2).st).mono ?_
       rintro e w3 ⟨hb3,vg,rfl,hvg⟩
       obtain ⟨is,his⟩:∃ b,b=(s.st.get (zJ r.ix m)).isSome:=⟨_,rfl⟩
       rw [← his]
       have hb13:=H2.o.2.trans (hb3.mono H2.o.2.size)
       have hR3:=H1.o.2.2.2.2.1.below hb13
       have hk53:=(HWA.o.1.kept H2.o.1).kept hb3
       have r52:=hR3.rall
       have g52:=hR3.hall
       obtain ⟨cr2,hcr2⟩:∃ c,c=zM r:=⟨_,rfl⟩
       rw [← hcr2] at r52
       have c51':w3.cell? ⟨p5,1,none⟩=some (.slice a' q c'):=hk53.cell 1
       have H3:=Zh (Zi his (Zi hb13 (Zi hR3 (Zi hk53 hcr2))))
       clear hb3 hvg his hb13 hR3 hk53 hcr2 c3 q1 q2
       go_wp2_with fail
       have hlen:(zJ r.ix m).size≤1000000:=by
        have:(zJ r.ix m).size=18:=by
         show (115::(r.ix++[UInt8.ofNat m])).toArray.size=18
         simp [H.o.2.2.1.ix]
        omega
       have hdata:Bys w3 (.slice a' q c') x.2:=(HX.o.2.2.2.2.1.1).below (H1.o.2.2.2.1.trans (H3.o.2.1.mono H1.o.2.2.2.1.size))
       refine (show Calls _ _ _ _ _ from (by rw [H3.o.2.2.2.2];exact zGx C _ pb s r H.o.2.2.1 (zJ r.ix m) (.slice a' q c') x.2 is w3 (H1.o.2.2.2.2.2.below H3.o.2.1) H.o.2.1 hdata hlen)).mono ?_
       rintro e w4 ⟨err,rfl,hask,hb4⟩
       have hb14:=H3.o.2.1.trans (hb4.mono H3.o.2.1.size)
       have hlx:l=[((m:Int),x.2)]:=by
        rw [HX.o.1]
        congr 1
        exact Prod.ext (by rw [← HX.o.2.2.2.2.2.2,HMZ.o]) rfl
       have H4:=Zh (Zi hask (Zi hb14 (Zi (H1.o.2.2.1.kept hb14) (Zi (H3.o.2.2.2.1.kept hb4) (Zi hlx (Zi (H1.o.2.2.2.2.1.below hb14) (H1.o.2.2.2.1.trans (hb14.mono H1.o.2.2.2.1.size))))))))
       clear hask hb4 hb14 hlx hlen hdata r52 g52 c51'
       by_cases he:err=0
       rotate_left
       · have t0:(err != 0)=true:=by simpa using he
         have t0':(err == 0)=false:=by simpa using he
         have HF:Hid (zBB s r l err s):=zBB.no m x.2 err H4.o.2.2.2.2.1 hm16 HM.o (by rw [← H3.o.1];exact H4.o.1) he
         replace he:=Zh he
         go_wp2_with fail
         refine (zV err w4).mono ?_
         rintro e wf ⟨rfl,hbf⟩
         have k4f:=H4.o.2.2.1.kept hbf
         have f40:=k4f.free 0
         have f41:=k4f.free 1
         have c40:wf.cell? ⟨p4,0,none⟩=some (.int .i64 0):=k4f.cell 0
         have c41:wf.cell? ⟨p4,1,none⟩=some (.slice none 0 0):=k4f.cell 1
         have l4f:=k4f.lt
         have HBF:=Zh hbf
         clear hbf k4f
         go_wp2_with fail
         have hE:=zm (x:=.int .i64 err) (y:=.slice none 0 0) ((H1.o.2.2.2.2.2.below H4.o.2.1).below HBF.o) ((zAO.of_below H4.o.2.2.2.2.2.2).post HBF.o) (by rw [HW.o.2.2];omega)
         exact bodyPost_ret (v:=.agg #[.int .i64 err,.slice none 0 0]) (by simp [results,Tryz.results92,go_sem,c40,c41]) rfl ⟨C,err,s,rfl,HF.o,hE.1,hE.2⟩
       · subst he
         cases is with
         | false =>
           have hno:s.st.get (zJ r.ix m)=none:=by
            have:=H3.o.1
            cases hg:s.st.get (zJ r.ix m) with
            | none=>rfl
            | some b=>rw [hg] at this;cases this
           have HNO:=Zh hno
           have c3:w4.drew.cell? ⟨pb,3,none⟩=some (.pointer (some ⟨sb,0,none⟩)):=(HA1.o.below H4.o.2.1).blk.cell 3
           have c5:w4.drew.cell? ⟨p5,1,none⟩=some (.slice a' q c'):=H4.o.2.2.2.1.cell 1
           obtain ⟨z1,hz1⟩:∃ z,z=(zU s.st (zJ r.ix m) x.2).1:=⟨_,rfl⟩
           obtain ⟨st1,hst1⟩:∃ z,z=(zU s.st (zJ r.ix m) x.2).2:=⟨_,rfl⟩
           have HZ:=Zh (Zi hz1 hst1)
           clear hno hz1 hst1
           go_upto_region 10 with fail
           go_region_held3 (fun w'=>w'.cell? ⟨pb,3,none⟩=some (.pointer (some ⟨sb,0,none⟩))∧w'.cell? ⟨p5,1,none⟩=some (.slice a' q c')) (first | exact ⟨c3,c5⟩ | with_reducible assumption)
            (first
             | (go_at_call 64
                have hda4:=(HX.o.2.2.2.2.1.chg (S:=fun _=>False) (Chg.of_below (H4.o.2.2.2.2.2.2.trans (Below.refl _ _).drew)) (fun _ h=>h.elim):zDU w4.drew _ _ _)
                refine (zC9 _ sb lb d L s.st (zJ r.ix m) (.slice a' q c') x.2 w4.drew (HA1.o.below (H4.o.2.1.trans (Below.refl _ _).drew)).st hda4.1 (zKh H.o.2.2.1.ix m) (H.o.2.2.2.2.1 x (by rw [HX.o.1];simp)) (fun w' hc=>(hda4.chg (S:=zBi sb lb d L) (w:=w4.drew) hc (fun b hb _=>.inl (HA1.o.foot b hb))).1) (by have:=H.o.2.1.writes;omega)).mono ?_
                rintro e w5 ⟨rfl,hst5,hc5⟩
                have hA5:=(HA1.o.below (H4.o.2.1.trans (Below.refl _ _).drew)).store hc5 hst5
                have hcw:Chg C w w5:=(Chg.of_below (H4.o.2.2.2.2.2.2.trans (Below.refl _ _).drew)).trans (hc5.mono HA1.o.foot)
                have hk55:=hc5.blk H4.o.2.2.2.1.drew (fun hf=>by have:=HA1.o.lt (.inl (HA1.o.foot _ hf));have:=HWA.o.2.2;omega)
                have hh:w5.cell? ⟨pb,3,none⟩=some (.pointer (some ⟨sb,0,none⟩))∧w5.cell? ⟨p5,1,none⟩=some (.slice a' q c'):=⟨hA5.blk.cell 3,hk55.cell 1⟩
                have HG:=Zh (Zi hA5 (Zi hcw hc5))
                clear hda4 hst5 hA5 hcw hk55 hc5))
           have hp4C:¬ C p4:=fun hC=>by have:=H.o.1.lt (.inl hC);have:=HW.o.2.2;omega
           have hp3C:¬ C p3:=fun hC=>by have:=H.o.1.lt (.inl hC);have:=HW.o.2.1;omega
           have hA5:=HG.o.1
           rw [← HZ.o.2] at hA5
           rw [← HZ.o.1]
           have hk45:Blk w5 p4 #[.int .i64 0,.slice none 0 0] 43:=HG.o.2.2.blk H4.o.2.2.1.drew (fun hf=>hp4C (HA1.o.foot _ hf))
           have hR5:zAE w5 p3 47 r:=zAE.chg (w:=w4.drew) ⟨H4.o.2.2.2.2.2.1.blk.drew,H.o.2.2.1⟩ HG.o.2.2 (fun hf=>hp3C (HA1.o.foot _ hf))
           have H5:=Zh (Zi (show zR w5 C (fun b=>X b∨b=p4) pb { s with st:=st1 } from ⟨sb,lb,d,L,tb,v,hA5⟩) (Zi hk45 (Zi hR5 (Zi hp4C (Zi hp3C (show zAO C C w w5 from ⟨HG.o.2.1,fun b hb=>.inl hb⟩))))))
           clear hA5 hk45 hR5 hp4C hp3C c3 c5 hh
           by_cases hz0:z1=0
           rotate_left
           · have t0:(z1 != 0)=true:=by simpa using hz0
             have t0':(z1 == 0)=false:=by simpa using hz0
             have HF:Hid (zBB s r l z1 { s with st:=st1 }):=by
              show zBB s r l z1 { s with st:=st1 }
              rw [HZ.o.1,HZ.o.2]
              exact zBB.torn m x.2 H4.o.2.2.2.2.1 hm16 HM.o HNO.o H4.o.1 (by rw [← HZ.o.1];exact hz0)
             replace hz0:=Zh hz0
             go_wp2_with fail
             refine (zV z1 w5).mono ?_
             rintro e wf ⟨rfl,hbf⟩
             have k4f:=H5.o.2.1.kept hbf
             have f40:=k4f.free 0
             have f41:=k4f.free 1
             have c40:wf.cell? ⟨p4,0,none⟩=some (.int .i64 0):=k4f.cell 0
             have c41:wf.cell? ⟨p4,1,none⟩=some (.slice none 0 0):=k4f.cell 1
             have l4f:=k4f.lt
             have HBF:=Zh hbf
             clear hbf k4f
             go_wp2_with fail
             have hE:=zm (x:=.int .i64 z1) (y:=.slice none 0 0) ((H5.o.1).below HBF.o) ((H5.o.2.2.2.2.2).post HBF.o) (by rw [HW.o.2.2];omega)
             exact bodyPost_ret (v:=.agg #[.int .i64 z1,.slice none 0 0]) (by simp [results,Tryz.results92,go_sem,c40,c41]) rfl ⟨C,z1,{ s with st:=st1 },rfl,HF.o,hE.1,hE.2⟩
           · have HZ0:=Zh hz0
             subst hz0
             have r52:=H5.o.2.2.1.rall
             have g52:=H5.o.2.2.1.hall
             rw [← H3.o.2.2.2.2] at r52
             go_wp2_with fail
             refine (show Calls _ _ _ _ _ from (by rw [H3.o.2.2.2.2];exact zCD C _ pb { s with st:=st1 } r H.o.2.2.1 w5 H5.o.1 ⟨H.o.2.1.tab,by rw [HZ.o.2];have h1:=zFH s.st (zJ r.ix m) x.2;have h2:=hwr;have h3:=HA1.o.st.ok.room2;simp only;omega⟩)).mono ?_
             rintro e w6 ⟨C',err2,s',rfl,hadd,hs',hsc⟩
             have hk46:=hsc.1.blk H5.o.2.1 H5.o.2.2.2.1
             have HF:Hid (zBB s r l err2 s'):=by
              refine zBB.put m x.2 err2 s' H4.o.2.2.2.2.1 hm16 HM.o HNO.o H4.o.1 HZ.o.1.symm ?_
              rw [← HZ.o.2]
              exact hadd
             have H6:=Zh (Zi hs' (Zi (H5.o.2.2.2.2.2.trans hsc) hk46))
             clear hadd hs' hsc hk46 r52 g52
             by_cases h20:err2=0
             · have t0:(err2 == 0)=true:=by simpa using h20
               subst h20
               go_wp2_with fail
               refine (zV 0 w6).mono ?_
               rintro e wf ⟨rfl,hbf⟩
               have k4f:=H6.o.2.2.kept hbf
               have f40:=k4f.free 0
               have f41:=k4f.free 1
               have c40:wf.cell? ⟨p4,0,none⟩=some (.int .i64 0):=k4f.cell 0
               have c41:wf.cell? ⟨p4,1,none⟩=some (.slice none 0 0):=k4f.cell 1
               have l4f:=k4f.lt
               have HBF:=Zh hbf
               clear hbf k4f
               go_wp2_with fail
               have hE:=zm (x:=.int .i64 0) (y:=.slice none 0 0) ((H6.o.1).below HBF.o) ((H6.o.2.1).post HBF.o) (by rw [HW.o.2.2];omega)
               exact bodyPost_ret (v:=.agg #[.int .i64 0,.slice none 0 0]) (by simp [results,Tryz.results92,go_sem,c40,c41]) rfl ⟨C',0,s',rfl,HF.o,hE.1,hE.2⟩
             · have t0:(err2 == 0)=false:=by simpa using h20
               replace h20:=Zh h20
               go_wp2_with fail
               refine (zV err2 w6).mono ?_
               rintro e wf ⟨rfl,hbf⟩
               have k4f:=H6.o.2.2.kept hbf
               have f40:=k4f.free 0
               have f41:=k4f.free 1
               have c40:wf.cell? ⟨p4,0,none⟩=some (.int .i64 0):=k4f.cell 0
               have c41:wf.cell? ⟨p4,1,none⟩=some (.slice none 0 0):=k4f.cell 1
               have l4f:=k4f.lt
               have HBF:=Zh hbf
               clear hbf k4f
               go_wp2_with fail
               have hE:=zm (x:=.int .i64 err2) (y:=.slice none 0 0) ((H6.o.1).below HBF.o) ((H6.o.2.1).post HBF.o) (by rw [HW.o.2.2];omega)
               exact bodyPost_ret (v:=.agg #[.int .i64 err2,.slice none 0 0]) (by simp [results,Tryz.results92,go_sem,c40,c41]) rfl ⟨C',err2,s',rfl,HF.o,hE.1,hE.2⟩
         | true =>
           have hsome:(s.st.get (zJ r.ix m)).isSome=true:=H3.o.1.symm
           have HNO:=Zh hsome
           have hp4C:¬ C p4:=fun hC=>by have:=H.o.1.lt (.inl hC);have:=HW.o.2.2;omega
           have r52:=H4.o.2.2.2.2.2.1.rall
           have g52:=H4.o.2.2.2.2.2.1.hall
           rw [← H3.o.2.2.2.2] at r52
           clear hsome
           go_wp2_with fail
           refine (show Calls _ _ _ _ _ from (by rw [H3.o.2.2.2.2];exact zCD C _ pb s r H.o.2.2.1 w4 (H1.o.2.2.2.2.2.below H4.o.2.1) H.o.2.1)).mono ?_
           rintro e w6 ⟨C',err2,s',rfl,hadd,hs',hsc⟩
           have hk46:=hsc.1.blk H4.o.2.2.1 hp4C
           have HF:Hid (zBB s r l (if err2=0 then 5 else err2) s'):=zBB.there m x.2 err2 s' H4.o.2.2.2.2.1 hm16 HM.o HNO.o H4.o.1 hadd
           have H6:=Zh (Zi hs' (Zi ((zAO.of_below H4.o.2.2.2.2.2.2).trans hsc) hk46))
           clear hadd hs' hsc hk46 r52 g52
           by_cases h20:err2=0
           · have t0:(err2 == 0)=true:=by simpa using h20
             subst h20
             go_wp2_with fail
             refine (zV 5 w6).mono ?_
             rintro e wf ⟨rfl,hbf⟩
             have k4f:=H6.o.2.2.kept hbf
             have f40:=k4f.free 0
             have f41:=k4f.free 1
             have c40:wf.cell? ⟨p4,0,none⟩=some (.int .i64 0):=k4f.cell 0
             have c41:wf.cell? ⟨p4,1,none⟩=some (.slice none 0 0):=k4f.cell 1
             have l4f:=k4f.lt
             have HBF:=Zh hbf
             clear hbf k4f
             go_wp2_with fail
             have hE:=zm (x:=.int .i64 5) (y:=.slice none 0 0) ((H6.o.1).below HBF.o) ((H6.o.2.1).post HBF.o) (by rw [HW.o.2.2];omega)
             exact bodyPost_ret (v:=.agg #[.int .i64 5,.slice none 0 0]) (by simp [results,Tryz.results92,go_sem,c40,c41]) rfl ⟨C',5,s',rfl,by simpa using HF.o,hE.1,hE.2⟩
           · have t0:(err2 == 0)=false:=by simpa using h20
             have HF2:Hid (zBB s r l err2 s'):=by
              have:=HF.o
              rwa [if_neg h20] at this
             clear HF
             replace h20:=Zh h20
             go_wp2_with fail
             refine (zV err2 w6).mono ?_
             rintro e wf ⟨rfl,hbf⟩
             have k4f:=H6.o.2.2.kept hbf
             have f40:=k4f.free 0
             have f41:=k4f.free 1
             have c40:wf.cell? ⟨p4,0,none⟩=some (.int .i64 0):=k4f.cell 0
             have c41:wf.cell? ⟨p4,1,none⟩=some (.slice none 0 0):=k4f.cell 1
             have l4f:=k4f.lt
             have HBF:=Zh hbf
             clear hbf k4f
             go_wp2_with fail
             have hE:=zm (x:=.int .i64 err2) (y:=.slice none 0 0) ((H6.o.1).below HBF.o) ((H6.o.2.1).post HBF.o) (by rw [HW.o.2.2];omega)
             exact bodyPost_ret (v:=.agg #[.int .i64 err2,.slice none 0 0]) (by simp [results,Tryz.results92,go_sem,c40,c41]) rfl ⟨C',err2,s',rfl,HF2.o,hE.1,hE.2⟩
end Go.Proofs.YtbbojbdigiibbaaGreatDoor
end
section
namespace Go.Proofs.YtbbojbdigiibbaaGreatDoor
open Go Go.RowKit Go.Mem Gf Lea
inductive zDj (s:zF) (ix sec:Key):Int→zF→Prop
 | no (h:zBQ s.tab ix sec false s.tab):zDj s ix sec 4 s
 | laid (l2:List Les) (err:Int) (s':zF) (h:zBQ s.tab ix sec true l2) (hl:zGs s ix l2 err s'):zDj s ix sec err s'
theorem zBQ.len {l l':List Les} {ix sec:Key} {b:Bool} (h:zBQ l ix sec b l'):l'.length≤l.length:=by
 cases h with
 | no h=>exact Nat.le_refl _
 | gone x l' h1 h2 hp=>have:=hp.length_eq;simp at this;omega
attribute [local irreducible] zM
attribute [local go_sem ↓] Go.wp_at_zero Go.wp_at_succ
attribute [local go_sem ↓] zAN zCX
attribute [local go_sem] ptrB_eq ptrO_eq ptrIs_eq aggL_eq aggIs_eq zT zg zC zG
set_option maxRecDepth 100000 in
set_option maxHeartbeats 1000000 in
theorem zMU (C X:Nat→Prop) (pb:Nat) (s:zF) (r:Req) (hr:r.Wf) (w:World) (h:zR w C X pb s) (hB:zCb s) :
  Calls Tryz.prog 96 #[.pointer (some ⟨pb,0,none⟩),.agg (zM r).toArray] w (zDA C X pb (zDj s r.ix r.sec) w):=by
 have hR:=(zAE.new w 47 hr)
 have hb0:=(Below.refl w.heap.size w).alloc (Nat.le_refl _) (.cells (zM r).toArray 47)
 have hb1:=hb0.alloc hb0.size (.cells #[.int .i64 0,.slice none 0 0] 43)
 have hR1:=hR.below ((Below.refl _ (w.alloc (.cells (zM r).toArray 47))).alloc (Nat.le_refl _) (.cells #[.int .i64 0,.slice none 0 0] 43))
 have hk4:Blk ((w.alloc (.cells (zM r).toArray 47)).alloc (.cells #[.int .i64 0,.slice none 0 0] 43)) (w.heap.size+1) #[.int .i64 0,.slice none 0 0] 43:=Blk.new_at _ _ _ _ (by simp)
 obtain ⟨cr,hcr⟩:∃ c,c=zM r:=⟨_,rfl⟩
 rw [← hcr] at hR1 hb1 hk4
 rw [← hcr]
 have HCR:=Zh hcr
 obtain ⟨w0,hw0⟩:∃ x,x=(w.alloc (.cells cr.toArray 47)).alloc (.cells #[.int .i64 0,.slice none 0 0] 43):=⟨_,rfl⟩
 obtain ⟨p3,hp3⟩:∃ p,p=w.heap.size:=⟨_,rfl⟩
 obtain ⟨p4,hp4⟩:∃ p,p=w.heap.size+1:=⟨_,rfl⟩
 have HW:=Zh (Zi hw0 (Zi hp3 hp4))
 rw [← hw0,← hp3] at hR1
 rw [← hw0] at hb1
 rw [← hw0,← hp4] at hk4
 have H:=Zh (Zi h (Zi hB hr))
 have hx4:zR w0 C (fun b=>X b∨b=p4) pb s:=h.growX (fun b hb=>.inl hb) (fun b hb=>hb.imp id (fun e=>by rw [e,hp4];omega)) hb1 (fun b hb=>by rcases hb with hb | hb;exact Nat.lt_of_lt_of_le (h.lt (.inr hb)) hb1.size;rw [hb];exact hk4.lt)
 have H0:=Zh (Zi hR1 (Zi hb1 (Zi hk4 hx4)))
 clear h hB hr hcr hw0 hp3 hp4 hR hR1 hb0 hb1 hk4 hx4
 go_enter Tryz.func96,Tryz.ntmps96
 go_upto_region 1 with fail
 rw [← HW.o.1,← HW.o.2.2,← HW.o.2.1]
 obtain ⟨sb,lb,d,L,tb,v,hA⟩:=H0.o.2.2.2
 have c4:w0.cell? ⟨pb,4,none⟩=some (.pointer (some ⟨tb,0,none⟩)):=hA.blk.cell 4
 have HA:=Zh hA
 clear hA
 go_wp2_with fail
 refine (zEG w0 tb v s.tab HA.o.heap (by have:=H.o.2.1.tab;omega)).mono ?_
 rintro e w1 ⟨t2,v2,rfl,f1,f2,f3,f4⟩
 have hR1:=H0.o.1.below f4
 have r1:=hR1.rix
 have r2:=hR1.rsec
 have g1:=hR1.hix
 have g2:=hR1.hsec
 obtain ⟨ki,hki⟩:∃ c,c=bV r.ix:=⟨_,rfl⟩
 obtain ⟨ks,hks⟩:∃ c,c=bV r.sec:=⟨_,rfl⟩
 rw [← hki] at r1
 rw [← hks] at r2
 have H1:=Zh (Zi f1 (Zi f2 (Zi f3 (Zi f4 (Zi hki (Zi hks hR1))))))
 clear f1 f2 f3 f4 hki hks hR1
 go_wp2_with fail
 refine (show Calls _ _ _ _ _ from (by rw [H1.o.2.2.2.2.1,H1.o.2.2.2.2.2.1];exact zIl w1 t2 v2 s.tab r.ix r.sec H1.o.2.2.1 (by have:=H.o.2.1.tab;omega) H.o.2.2.ix H.o.2.2.sec)).mono ?_
 rintro e w2 ⟨b,v3,l2,rfl,ha,hh,hc⟩
 obtain ⟨q1,q2,q3,q4⟩:=zI3 H0.o.2.2.2 H1.o.1 H1.o.2.1 H1.o.2.2.2.1 hc hh
 have hR2:=H0.o.1.below q2
 have r1':=hR2.rix
 have g1':=hR2.hix
 rw [← H1.o.2.2.2.2.1] at r1'
 have H2:=Zh (Zi q1 (Zi q2 (Zi q3 (Zi q4 (Zi ha (Zi hh (H0.o.2.2.1.kept q2)))))))
 clear q1 q2 q3 q4 hR2 ha hh hc r1 r2 g1 g2
 cases b with
 | false =>
   have HF:Hid (zDj s r.ix r.sec 4 s):=by
    refine .no ?_
    have:=H2.o.2.2.2.2.1
    cases this with
    | no h=>exact .no h
   go_wp2_with fail
   refine (zV 4 w2).mono ?_
   rintro e wf ⟨rfl,hbf⟩
   have k4f:=H2.o.2.2.2.2.2.2.kept hbf
   have f40:=k4f.free 0
   have f41:=k4f.free 1
   have c40:wf.cell? ⟨p4,0,none⟩=some (.int .i64 0):=k4f.cell 0
   have c41:wf.cell? ⟨p4,1,none⟩=some (.slice none 0 0):=k4f.cell 1
   have l4f:=k4f.lt
   have HBF:=Zh hbf
   clear hbf k4f
   go_wp2_with fail
   have hE:=zm (x:=.int .i64 4) (y:=.slice none 0 0) ((H0.o.2.2.2.below H2.o.2.1).below HBF.o) ((zAO.of_below (H0.o.2.1.trans (H2.o.2.1.mono H0.o.2.1.size))).post HBF.o) (by rw [HW.o.2.2];omega)
   exact bodyPost_ret (v:=.agg #[.int .i64 4,.slice none 0 0]) (by simp [results,Tryz.results96,go_sem,c40,c41]) rfl ⟨C,4,s,rfl,HF.o,hE.1,hE.2⟩
 | true =>
   go_wp2_with fail
   refine (show Calls _ _ _ _ _ from (by rw [H1.o.2.2.2.2.1];exact zIE C _ pb s r.ix H.o.2.2.ix t2 v3 l2 w2 H2.o.1 H.o.2.1 H2.o.2.2.2.2.2.1 (H2.o.2.2.2.2.1.good HA.o.good) (by have:=zBQ.len H2.o.2.2.2.2.1;have:=H.o.2.1.tab;omega) (.inr H2.o.2.2.1) (fun g hg=>.inr (H2.o.2.2.2.1 g hg)))).mono ?_
   rintro e w3 ⟨C',X',err,s',rfl,hl,hs',hc3,hC',hX'⟩
   have hp4C:¬ C p4:=fun hC=>by have:=H.o.1.lt (.inl hC);have:=HW.o.2.2;omega
   have hk3:=hc3.blk H2.o.2.2.2.2.2.2 hp4C
   have hw:=H0.o.2.1
   have hz:=hw.size
   have hb2:=hw.trans (H2.o.2.1.mono hz)
   have h4lt:p4 < w0.heap.size:=H0.o.2.2.1.lt
   have hs3:zR w3 C' (fun b=>X b∨b=p4) pb s':=hs'.shrinkX (fun b hb=>hX' b (.inl hb) (by
    have hlt:b < w0.heap.size:=by
     rcases hb with hb | hb
     · exact Nat.lt_of_lt_of_le (H.o.1.lt (.inr hb)) hz
     · rw [hb];exact h4lt
    rintro (e | e)
    · have:=H2.o.2.2.1.1;omega
    · have:=(H2.o.2.2.2.1 b e).1;omega))
   have hcc:zAO C C' w w3:=⟨(Chg.of_below hb2).trans hc3,fun b hb=>by
    rcases hC' b hb with h | h | h
    · exact .inl h
    · right
      rw [h]
      exact Nat.le_trans hz H2.o.2.2.1.1
    · right
      exact Nat.le_trans hz (H2.o.2.2.2.1 b h).1⟩
   have HF:Hid (zDj s r.ix r.sec err s'):=.laid l2 err s' H2.o.2.2.2.2.1 hl
   have HL:=Zh (Zi hs3 (Zi hcc hk3))
   clear hl hs' hc3 hC' hX' hp4C hk3 hw hz hb2 h4lt hs3 hcc
   go_wp2_with fail
   refine (zV err w3).mono ?_
   rintro e wf ⟨rfl,hbf⟩
   have k4f:=HL.o.2.2.kept hbf
   have f40:=k4f.free 0
   have f41:=k4f.free 1
   have c40:wf.cell? ⟨p4,0,none⟩=some (.int .i64 0):=k4f.cell 0
   have c41:wf.cell? ⟨p4,1,none⟩=some (.slice none 0 0):=k4f.cell 1
   have l4f:=k4f.lt
   have HBF:=Zh hbf
   clear hbf k4f
   go_wp2_with fail
   have hE:=zm (x:=.int .i64 err) (y:=.slice none 0 0) ((HL.o.1).below HBF.o) ((HL.o.2.1).post HBF.o) (by rw [HW.o.2.2];omega)
   exact bodyPost_ret (v:=.agg #[.int .i64 err,.slice none 0 0]) (by simp [results,Tryz.results96,go_sem,c40,c41]) rfl ⟨C',err,s',rfl,HF.o,hE.1,hE.2⟩
end Go.Proofs.YtbbojbdigiibbaaGreatDoor
end
section
namespace Go.Proofs.YtbbojbdigiibbaaGreatDoor
open Go Go.RowKit Go.Mem Gf Lea
def Gives (w:World) (l:List zP) (e:Ending) (w':World):Prop :=
 ∃ u,e=.returned (.agg #[.int .i64 0,u])∧zAH 53 w' w.heap.size (fun b=>b < w.heap.size) u l∧Below w.heap.size w w'
theorem zFG {tr:TypeId} {w:World} {base base':Nat} {N M:Nat→Prop} {u:Value} {l:List zP} (h:zAH tr w base N u l) (hb:base'≤base) (hM:∀ b,M b→N b∨w.heap.size≤b):zAH tr w base' M u l:=by
 obtain ⟨vs,h1,h2,h3,h4⟩:=h
 exact ⟨vs,h1,⟨h2.1,h2.2.imp id fun ⟨g,cap,cur,a1,a2,a3⟩=>⟨g,cap,cur,a1,Nat.le_trans hb a2,a3⟩⟩,fun j x v a b=>(h3 j x v a b).mono hM,h4⟩
theorem zF1 {w w0 w1:World} {p4:Nat} {u x y:Value} {l:List zP} (h:zAH 53 w1 w0.heap.size (fun b=>b < w0.heap.size) u l) (hb:Below w.heap.size w w0) (hb1:Below w0.heap.size w0 w1) (h4:w.heap.size≤p4) (h4':p4 < w0.heap.size) :
  zAH 53 ((w1.setCell ⟨p4,0,none⟩ x).setCell ⟨p4,1,none⟩ y) w.heap.size (fun b=>b < w.heap.size) u l∧Below w.heap.size w ((w1.setCell ⟨p4,0,none⟩ x).setCell ⟨p4,1,none⟩ y):=by
 have hcc:Chg (fun b=>b=p4) w1 ((w1.setCell ⟨p4,0,none⟩ x).setCell ⟨p4,1,none⟩ y):=Chg.set (S:=fun b=>b=p4) (a:=⟨p4,1,none⟩) (Chg.set (S:=fun b=>b=p4) (a:=⟨p4,0,none⟩) (Chg.refl _ _) rfl _) rfl _
 have hz:=hb.size
 refine ⟨zFG (h.chg hcc (fun g hg e=>?_) (fun b hb _=>?_)) hz (fun b hb=>.inl ?_),?_⟩
 · have:=(h.lt g hg).1
   omega
 · rw [hb];exact h4'
 · exact Nat.lt_of_lt_of_le (by assumption) hz
 · exact ((Chg.of_below (S:=fun b=>w.heap.size≤b) (hb.trans (hb1.mono hz))).mix hcc (fun k hk=>.inl (by rw [hk];exact h4))).below (Nat.le_refl _) (fun _ h=>h)
theorem zEb {s:zF} {ix:Key} {o:Option (Key × List zP)} (h:zA5 s ix o):(zBv o).length=16:=by
 cases o with
 | none=>exact zMI
 | some x=>exact h.2.1
theorem zOu (b:Bool) (u:Value) (w:World):∀ (k:List Value),k.length=16→(Instr.field 205 (.agg (zY b k u).toArray) 2).run Tryz.prog w=.ok u w
 | [k0,k1,k2,k3,k4,k5,k6,k7,k8,k9,k10,k11,k12,k13,k14,k15],_=>by kernel_rfl
theorem zNp (b:Bool) (u:Value) (w:World):∀ (k:List Value),k.length=16→(Instr.field 205 (.agg (zY b k u).toArray) 0).run Tryz.prog w=.ok (.bool b) w
 | [k0,k1,k2,k3,k4,k5,k6,k7,k8,k9,k10,k11,k12,k13,k14,k15],_=>by kernel_rfl
attribute [local irreducible] zM
attribute [local go_sem ↓] Go.wp_at_zero Go.wp_at_succ
attribute [local go_sem ↓] zAN zCX
attribute [local go_sem] ptrB_eq ptrO_eq ptrIs_eq aggL_eq aggIs_eq zT zg zC zG
set_option maxRecDepth 100000 in
set_option maxHeartbeats 1000000 in
theorem zGg (C X:Nat→Prop) (pb:Nat) (s:zF) (r:Req) (hr:r.Wf) (w:World) (h:zR w C X pb s) (hB:zCb s) :
  Calls Tryz.prog 91 #[.pointer (some ⟨pb,0,none⟩),.agg (zM r).toArray] w (Gives w (s.shares r.ix)):=by
 have hR:=(zAE.new w 47 hr)
 have hb0:=(Below.refl w.heap.size w).alloc (Nat.le_refl _) (.cells (zM r).toArray 47)
 have hb1:=hb0.alloc hb0.size (.cells #[.int .i64 0,.slice none 0 0] 43)
 have hR1:=hR.below ((Below.refl _ (w.alloc (.cells (zM r).toArray 47))).alloc (Nat.le_refl _) (.cells #[.int .i64 0,.slice none 0 0] 43))
 have hk4:Blk ((w.alloc (.cells (zM r).toArray 47)).alloc (.cells #[.int .i64 0,.slice none 0 0] 43)) (w.heap.size+1) #[.int .i64 0,.slice none 0 0] 43:=Blk.new_at _ _ _ _ (by simp)
 obtain ⟨cr,hcr⟩:∃ c,c=zM r:=⟨_,rfl⟩
 rw [← hcr] at hR1 hb1 hk4
 rw [← hcr]
 have HCR:=Zh hcr
 obtain ⟨w0,hw0⟩:∃ x,x=(w.alloc (.cells cr.toArray 47)).alloc (.cells #[.int .i64 0,.slice none 0 0] 43):=⟨_,rfl⟩
 obtain ⟨p3,hp3⟩:∃ p,p=w.heap.size:=⟨_,rfl⟩
 obtain ⟨p4,hp4⟩:∃ p,p=w.heap.size+1:=⟨_,rfl⟩
 have HW:=Zh (Zi hw0 (Zi hp3 hp4))
 rw [← hw0,← hp3] at hR1
 rw [← hw0] at hb1
 rw [← hw0,← hp4] at hk4
 have H:=Zh (Zi h (Zi hB hr))
 have hx4:zR w0 C (fun b=>X b∨b=p4) pb s:=h.growX (fun b hb=>.inl hb) (fun b hb=>hb.imp id (fun e=>by rw [e,hp4];omega)) hb1 (fun b hb=>by rcases hb with hb | hb;exact Nat.lt_of_lt_of_le (h.lt (.inr hb)) hb1.size;rw [hb];exact hk4.lt)
 have H0:=Zh (Zi hR1 (Zi hb1 (Zi hk4 hx4)))
 clear h hB hr hcr hw0 hp3 hp4 hR hR1 hb0 hb1 hk4 hx4
 go_enter Tryz.func91,Tryz.ntmps91
 go_upto_region 1 with fail
 rw [← HW.o.1,← HW.o.2.2,← HW.o.2.1]
 have r1:=H0.o.1.rix
 have g1:=H0.o.1.hix
 have f40:=H0.o.2.2.1.free 0
 have f41:=H0.o.2.2.1.free 1
 have c40:w0.cell? ⟨p4,0,none⟩=some (.int .i64 0):=H0.o.2.2.1.cell 0
 have c41:w0.cell? ⟨p4,1,none⟩=some (.slice none 0 0):=H0.o.2.2.1.cell 1
 have l4:=H0.o.2.2.1.lt
 obtain ⟨ki,hki⟩:∃ c,c=bV r.ix:=⟨_,rfl⟩
 rw [← hki] at r1
 have HKI:=Zh hki
 clear hki
 go_wp2_with fail
 refine (show Calls _ _ _ _ _ from (by rw [HKI.o];exact zDu C _ pb s r.ix H.o.2.2.ix w0 H0.o.2.2.2)).mono ?_
 rintro e w1 ⟨u,rfl,hu,hb1⟩
 obtain ⟨a5,c5,rfl,_⟩:=hu.slice
 obtain ⟨n,hn⟩:∃ n,n=(s.shares r.ix).length:=⟨_,rfl⟩
 rw [← hn] at hu ⊢
 have k4f:=H0.o.2.2.1.kept hb1
 have f40:=k4f.free 0
 have f41:=k4f.free 1
 have c40:w1.cell? ⟨p4,0,none⟩=some (.int .i64 0):=k4f.cell 0
 have c41:w1.cell? ⟨p4,1,none⟩=some (.slice none 0 0):=k4f.cell 1
 have l4f:=k4f.lt
 have HU:=Zh (Zi hu (Zi hb1 hn))
 clear hu hb1 hn k4f r1 g1
 go_wp2_with fail
 have hE:=zF1 (x:=.int .i64 0) (y:=.slice a5 n c5) HU.o.1 H0.o.2.1 HU.o.2.1 (by rw [HW.o.2.2];omega) H0.o.2.2.1.lt
 exact bodyPost_ret (v:=.agg #[.int .i64 0,.slice a5 n c5]) (by simp [results,Tryz.results91,go_sem,c40,c41]) rfl ⟨.slice a5 n c5,rfl,hE.1,hE.2⟩
set_option maxRecDepth 100000 in
set_option maxHeartbeats 1000000 in
theorem zHU (C X:Nat→Prop) (pb:Nat) (s:zF) (r:Req) (o:Option (Key × List zP)) (hr:r.Wf) (w:World) (h:zR w C X pb s) (hB:zCb s) (ho:zA5 s r.ix o) :
  Calls Tryz.prog 93 #[.pointer (some ⟨pb,0,none⟩),.agg (zM r).toArray] w (Gives w (zw o)):=by
 have hR:=(zAE.new w 47 hr)
 have hb0:=(Below.refl w.heap.size w).alloc (Nat.le_refl _) (.cells (zM r).toArray 47)
 have hb1:=hb0.alloc hb0.size (.cells #[.int .i64 0,.slice none 0 0] 43)
 have hR1:=hR.below ((Below.refl _ (w.alloc (.cells (zM r).toArray 47))).alloc (Nat.le_refl _) (.cells #[.int .i64 0,.slice none 0 0] 43))
 have hk4:Blk ((w.alloc (.cells (zM r).toArray 47)).alloc (.cells #[.int .i64 0,.slice none 0 0] 43)) (w.heap.size+1) #[.int .i64 0,.slice none 0 0] 43:=Blk.new_at _ _ _ _ (by simp)
 obtain ⟨cr,hcr⟩:∃ c,c=zM r:=⟨_,rfl⟩
 rw [← hcr] at hR1 hb1 hk4
 rw [← hcr]
 have HCR:=Zh hcr
 obtain ⟨w0,hw0⟩:∃ x,x=(w.alloc (.cells cr.toArray 47)).alloc (.cells #[.int .i64 0,.slice none 0 0] 43):=⟨_,rfl⟩
 obtain ⟨p3,hp3⟩:∃ p,p=w.heap.size:=⟨_,rfl⟩
 obtain ⟨p4,hp4⟩:∃ p,p=w.heap.size+1:=⟨_,rfl⟩
 have HW:=Zh (Zi hw0 (Zi hp3 hp4))
 rw [← hw0,← hp3] at hR1
 rw [← hw0] at hb1
 rw [← hw0,← hp4] at hk4
 have H:=Zh (Zi h (Zi hB hr))
 have hx4:zR w0 C (fun b=>X b∨b=p4) pb s:=h.growX (fun b hb=>.inl hb) (fun b hb=>hb.imp id (fun e=>by rw [e,hp4];omega)) hb1 (fun b hb=>by rcases hb with hb | hb;exact Nat.lt_of_lt_of_le (h.lt (.inr hb)) hb1.size;rw [hb];exact hk4.lt)
 have H0:=Zh (Zi hR1 (Zi hb1 (Zi hk4 hx4)))
 clear h hB hr hcr hw0 hp3 hp4 hR hR1 hb0 hb1 hk4 hx4
 have HO:=Zh ho
 go_enter Tryz.func93,Tryz.ntmps93
 go_upto_region 1 with fail
 rw [← HW.o.1,← HW.o.2.2,← HW.o.2.1]
 have r1:=H0.o.1.rix
 have g1:=H0.o.1.hix
 have f40:=H0.o.2.2.1.free 0
 have f41:=H0.o.2.2.1.free 1
 have c40:w0.cell? ⟨p4,0,none⟩=some (.int .i64 0):=H0.o.2.2.1.cell 0
 have c41:w0.cell? ⟨p4,1,none⟩=some (.slice none 0 0):=H0.o.2.2.1.cell 1
 have l4:=H0.o.2.2.1.lt
 obtain ⟨ki,hki⟩:∃ c,c=bV r.ix:=⟨_,rfl⟩
 rw [← hki] at r1
 have HKI:=Zh hki
 clear hki
 go_wp2_with fail
 refine (show Calls _ _ _ _ _ from (by rw [HKI.o];exact zCc C _ pb s r.ix H.o.2.2.ix o w0 H0.o.2.2.2 ho)).mono ?_
 rintro e w1 ⟨u,rfl,hu,hb1⟩
 obtain ⟨a5,c5,rfl,_⟩:=hu.slice
 obtain ⟨kc,hkc⟩:∃ c,c=bV (zBv o):=⟨_,rfl⟩
 rw [← hkc]
 have HKC:=Zh hkc
 clear hkc
 have fl:∀ u w,(Instr.field 205 (.agg (zY o.isSome kc u).toArray) 2).run Tryz.prog w=.ok u w:=fun u w=>zOu _ u w kc (by rw [HKC.o,zB];exact zEb HO.o)
 obtain ⟨n,hn⟩:∃ n,n=(zw o).length:=⟨_,rfl⟩
 rw [← hn] at hu ⊢
 have k4f:=H0.o.2.2.1.kept hb1
 have f40:=k4f.free 0
 have f41:=k4f.free 1
 have c40:w1.cell? ⟨p4,0,none⟩=some (.int .i64 0):=k4f.cell 0
 have c41:w1.cell? ⟨p4,1,none⟩=some (.slice none 0 0):=k4f.cell 1
 have l4f:=k4f.lt
 have HU:=Zh (Zi hu (Zi hb1 hn))
 clear hu hb1 hn k4f r1 g1
 go_wp2_with fail
 have hE:=zF1 (x:=.int .i64 0) (y:=.slice a5 n c5) HU.o.1 H0.o.2.1 HU.o.2.1 (by rw [HW.o.2.2];omega) H0.o.2.2.1.lt
 exact bodyPost_ret (v:=.agg #[.int .i64 0,.slice a5 n c5]) (by simp [results,Tryz.results93,go_sem,c40,c41]) rfl ⟨.slice a5 n c5,rfl,hE.1,hE.2⟩
end Go.Proofs.YtbbojbdigiibbaaGreatDoor
end
section
namespace Go.Proofs.YtbbojbdigiibbaaGreatDoor
open Go Go.RowKit Go.Mem Gf Lea
inductive zCa (s:zF) (r:Req) (o:Option (Key × List zP)):Int→zF→Prop
 | none (h:o=none∧s.shares r.ix=[]):zCa s r o 4 s
 | form (h:¬ (o=none∧s.shares r.ix=[])) (hm:¬ May r.ends):zCa s r o 2 s
 | add (err:Int) (s':zF) (h:¬ (o=none∧s.shares r.ix=[])) (hm:May r.ends) (hs:zCv s r.ix r.sec r.ends err s'):zCa s r o err s'
attribute [local irreducible] zM zY
attribute [local go_sem ↓] Go.wp_at_zero Go.wp_at_succ
attribute [local go_sem ↓] zAN zCX
attribute [local go_sem] ptrB_eq ptrO_eq ptrIs_eq aggL_eq aggIs_eq zT zg zC zG
set_option maxRecDepth 100000 in
set_option maxHeartbeats 1000000 in
theorem zHw (C X:Nat→Prop) (pb:Nat) (s:zF) (r:Req) (o:Option (Key × List zP)) (hr:r.Wf) (w:World) (h:zR w C X pb s) (hB:zCb s) (ho:zA5 s r.ix o) :
  Calls Tryz.prog 95 #[.pointer (some ⟨pb,0,none⟩),.agg (zM r).toArray] w (zDA C X pb (zCa s r o) w):=by
 have hR:=(zAE.new w 47 hr)
 have hb0:=(Below.refl w.heap.size w).alloc (Nat.le_refl _) (.cells (zM r).toArray 47)
 have hb1:=hb0.alloc hb0.size (.cells #[.int .i64 0,.slice none 0 0] 43)
 have hR1:=hR.below ((Below.refl _ (w.alloc (.cells (zM r).toArray 47))).alloc (Nat.le_refl _) (.cells #[.int .i64 0,.slice none 0 0] 43))
 have hk4:Blk ((w.alloc (.cells (zM r).toArray 47)).alloc (.cells #[.int .i64 0,.slice none 0 0] 43)) (w.heap.size+1) #[.int .i64 0,.slice none 0 0] 43:=Blk.new_at _ _ _ _ (by simp)
 obtain ⟨cr,hcr⟩:∃ c,c=zM r:=⟨_,rfl⟩
 rw [← hcr] at hR1 hb1 hk4
 rw [← hcr]
 have HCR:=Zh hcr
 obtain ⟨w0,hw0⟩:∃ x,x=(w.alloc (.cells cr.toArray 47)).alloc (.cells #[.int .i64 0,.slice none 0 0] 43):=⟨_,rfl⟩
 obtain ⟨p3,hp3⟩:∃ p,p=w.heap.size:=⟨_,rfl⟩
 obtain ⟨p4,hp4⟩:∃ p,p=w.heap.size+1:=⟨_,rfl⟩
 have HW:=Zh (Zi hw0 (Zi hp3 hp4))
 rw [← hw0,← hp3] at hR1
 rw [← hw0] at hb1
 rw [← hw0,← hp4] at hk4
 have H:=Zh (Zi h (Zi hB hr))
 have hx4:zR w0 C (fun b=>X b∨b=p4) pb s:=h.growX (fun b hb=>.inl hb) (fun b hb=>hb.imp id (fun e=>by rw [e,hp4];omega)) hb1 (fun b hb=>by rcases hb with hb | hb;exact Nat.lt_of_lt_of_le (h.lt (.inr hb)) hb1.size;rw [hb];exact hk4.lt)
 have H0:=Zh (Zi hR1 (Zi hb1 (Zi hk4 hx4)))
 clear h hB hr hcr hw0 hp3 hp4 hR hR1 hb0 hb1 hk4 hx4
 have HO:=Zh ho
 clear ho
 go_enter Tryz.func95,Tryz.ntmps95
 go_upto_region 1 with fail
 rw [← HW.o.1,← HW.o.2.2,← HW.o.2.1]
 obtain ⟨ki,hki⟩:∃ c,c=bV r.ix:=⟨_,rfl⟩
 have HKI:=Zh hki
 clear hki
 have r1:=H0.o.1.rix
 have g1:=H0.o.1.hix
 rw [← HKI.o] at r1
 go_wp2_with fail
 refine (show Calls _ _ _ _ _ from (by rw [HKI.o];exact zCc C _ pb s r.ix H.o.2.2.ix o w0 H0.o.2.2.2 HO.o)).mono ?_
 rintro e w1 ⟨u,rfl,hu,hb1⟩
 clear hu
 obtain ⟨kc,hkc⟩:∃ c,c=bV (zBv o):=⟨_,rfl⟩
 rw [← hkc]
 have HKC:=Zh hkc
 clear hkc
 obtain ⟨is,his⟩:∃ b,b=o.isSome:=⟨_,rfl⟩
 rw [← his]
 have HIS:=Zh his
 have fl:∀ u w,(Instr.field 205 (.agg (zY is kc u).toArray) 0).run Tryz.prog w=.ok (.bool is) w:=fun u w=>zNp _ u w kc (by rw [HKC.o,zB];exact zEb HO.o)
 have H1:=Zh (Zi (H0.o.1.below hb1) (Zi hb1 (Zi (H0.o.2.2.1.kept hb1) (H0.o.2.2.2.below hb1))))
 clear his hb1 r1 g1
 cases is with
 | true =>
   have HNO:Hid (¬ (o=none∧s.shares r.ix=[])):=by
    rintro ⟨e,_⟩
    have:=HIS.o
    rw [e] at this
    cases this
   have c33:=H1.o.1.ends
   go_wp2_with fail
   refine (zDw r.ends w1).mono ?_
   rintro e wt ⟨rfl,rfl⟩
   by_cases hmay:May r.ends
   rotate_left
   · have HF:Hid (zCa s r o 2 s):=.form HNO.o hmay
     have dm:decide (May r.ends)=false:=by simpa using hmay
     replace hmay:=Zh hmay
     go_wp2_with fail
     refine (zV 2 w1).mono ?_
     rintro e wf ⟨rfl,hbf⟩
     have k4f:=H1.o.2.2.1.kept hbf
     have f40:=k4f.free 0
     have f41:=k4f.free 1
     have c40:wf.cell? ⟨p4,0,none⟩=some (.int .i64 0):=k4f.cell 0
     have c41:wf.cell? ⟨p4,1,none⟩=some (.slice none 0 0):=k4f.cell 1
     have l4f:=k4f.lt
     have HBF:=Zh hbf
     clear hbf k4f
     go_wp2_with fail
     have hE:=zm (x:=.int .i64 2) (y:=.slice none 0 0) ((H1.o.2.2.2).below HBF.o) ((zAO.of_below (H0.o.2.1.trans (H1.o.2.1.mono H0.o.2.1.size))).post HBF.o) (by rw [HW.o.2.2];omega)
     exact bodyPost_ret (v:=.agg #[.int .i64 2,.slice none 0 0]) (by simp [results,Tryz.results95,go_sem,c40,c41]) rfl ⟨C,2,s,rfl,HF.o,hE.1,hE.2⟩
   · have dm:decide (May r.ends)=true:=by simpa using hmay
     have HM:=Zh hmay
     have r52:=H1.o.1.rall
     have g52:=H1.o.1.hall
     obtain ⟨cr2,hcr2⟩:∃ c,c=zM r:=⟨_,rfl⟩
     rw [← hcr2] at r52
     have HCR2:=Zh hcr2
     clear hmay hcr2
     go_wp2_with fail
     refine (show Calls _ _ _ _ _ from (by rw [HCR2.o];exact zCD C _ pb s r H.o.2.2 w1 H1.o.2.2.2 H.o.2.1)).mono ?_
     rintro e w6 ⟨C',err2,s',rfl,hadd,hs',hsc⟩
     have hp4C:¬ C p4:=fun hC=>by have:=H.o.1.lt (.inl hC);have:=HW.o.2.2;omega
     have hk46:=hsc.1.blk H1.o.2.2.1 hp4C
     have HF:Hid (zCa s r o err2 s'):=.add err2 s' HNO.o HM.o hadd
     have H6:=Zh (Zi hs' (Zi ((zAO.of_below (H0.o.2.1.trans (H1.o.2.1.mono H0.o.2.1.size))).trans hsc) hk46))
     clear hadd hs' hsc hk46 r52 g52 hp4C
     go_wp2_with fail
     refine (zV err2 w6).mono ?_
     rintro e wf ⟨rfl,hbf⟩
     have k4f:=H6.o.2.2.kept hbf
     have f40:=k4f.free 0
     have f41:=k4f.free 1
     have c40:wf.cell? ⟨p4,0,none⟩=some (.int .i64 0):=k4f.cell 0
     have c41:wf.cell? ⟨p4,1,none⟩=some (.slice none 0 0):=k4f.cell 1
     have l4f:=k4f.lt
     have HBF:=Zh hbf
     clear hbf k4f
     go_wp2_with fail
     have hE:=zm (x:=.int .i64 err2) (y:=.slice none 0 0) ((H6.o.1).below HBF.o) ((H6.o.2.1).post HBF.o) (by rw [HW.o.2.2];omega)
     exact bodyPost_ret (v:=.agg #[.int .i64 err2,.slice none 0 0]) (by simp [results,Tryz.results95,go_sem,c40,c41]) rfl ⟨C',err2,s',rfl,HF.o,hE.1,hE.2⟩
 | false =>
   have hon:o=none:=by
    have:=HIS.o
    cases o with
    | none=>rfl
    | some x=>cases this
   have HON:=Zh hon
   have r1:=H1.o.1.rix
   have g1:=H1.o.1.hix
   rw [← HKI.o] at r1
   clear hon
   go_wp2_with fail
   refine (show Calls _ _ _ _ _ from (by rw [HKI.o];exact zDu C _ pb s r.ix H.o.2.2.ix w1 H1.o.2.2.2)).mono ?_
   rintro e w2 ⟨u2,rfl,hu2,hb2⟩
   obtain ⟨a5,c5,rfl,_⟩:=hu2.slice
   obtain ⟨n,hn⟩:∃ n,n=(s.shares r.ix).length:=⟨_,rfl⟩
   rw [← hn]
   have HN:=Zh hn
   have H2:=Zh (Zi (H1.o.1.below hb2) (Zi (H1.o.2.1.trans (hb2.mono H1.o.2.1.size)) (Zi (H1.o.2.2.1.kept hb2) (H1.o.2.2.2.below hb2))))
   clear hu2 hb2 hn r1 g1
   by_cases hn0:n=0
   · subst hn0
     have HF:Hid (zCa s r o 4 s):=.none ⟨HON.o,List.length_eq_zero_iff.mp HN.o.symm⟩
     go_wp2_with fail
     refine (zV 4 w2).mono ?_
     rintro e wf ⟨rfl,hbf⟩
     have k4f:=H2.o.2.2.1.kept hbf
     have f40:=k4f.free 0
     have f41:=k4f.free 1
     have c40:wf.cell? ⟨p4,0,none⟩=some (.int .i64 0):=k4f.cell 0
     have c41:wf.cell? ⟨p4,1,none⟩=some (.slice none 0 0):=k4f.cell 1
     have l4f:=k4f.lt
     have HBF:=Zh hbf
     clear hbf k4f
     go_wp2_with fail
     have hE:=zm (x:=.int .i64 4) (y:=.slice none 0 0) ((H2.o.2.2.2).below HBF.o) ((zAO.of_below (H0.o.2.1.trans (H2.o.2.1.mono H0.o.2.1.size))).post HBF.o) (by rw [HW.o.2.2];omega)
     exact bodyPost_ret (v:=.agg #[.int .i64 4,.slice none 0 0]) (by simp [results,Tryz.results95,go_sem,c40,c41]) rfl ⟨C,4,s,rfl,HF.o,hE.1,hE.2⟩
   · have t0:((n:Int) == 0)=false:=by simp;omega
     have t0':(n == 0)=false:=by simp;omega
     have HNO:Hid (¬ (o=none∧s.shares r.ix=[])):=by
      rintro ⟨_,e⟩
      have:=HN.o
      rw [e] at this
      exact hn0 this
     replace hn0:=Zh hn0
     have c33:=H2.o.1.ends
     go_wp2_with fail
     refine (zDw r.ends w2).mono ?_
     rintro e wt ⟨rfl,rfl⟩
     by_cases hmay:May r.ends
     rotate_left
     · have HF:Hid (zCa s r o 2 s):=.form HNO.o hmay
       have dm:decide (May r.ends)=false:=by simpa using hmay
       replace hmay:=Zh hmay
       go_wp2_with fail
       refine (zV 2 w2).mono ?_
       rintro e wf ⟨rfl,hbf⟩
       have k4f:=H2.o.2.2.1.kept hbf
       have f40:=k4f.free 0
       have f41:=k4f.free 1
       have c40:wf.cell? ⟨p4,0,none⟩=some (.int .i64 0):=k4f.cell 0
       have c41:wf.cell? ⟨p4,1,none⟩=some (.slice none 0 0):=k4f.cell 1
       have l4f:=k4f.lt
       have HBF:=Zh hbf
       clear hbf k4f
       go_wp2_with fail
       have hE:=zm (x:=.int .i64 2) (y:=.slice none 0 0) ((H2.o.2.2.2).below HBF.o) ((zAO.of_below (H0.o.2.1.trans (H2.o.2.1.mono H0.o.2.1.size))).post HBF.o) (by rw [HW.o.2.2];omega)
       exact bodyPost_ret (v:=.agg #[.int .i64 2,.slice none 0 0]) (by simp [results,Tryz.results95,go_sem,c40,c41]) rfl ⟨C,2,s,rfl,HF.o,hE.1,hE.2⟩
     · have dm:decide (May r.ends)=true:=by simpa using hmay
       have HM:=Zh hmay
       have r52:=H2.o.1.rall
       have g52:=H2.o.1.hall
       obtain ⟨cr2,hcr2⟩:∃ c,c=zM r:=⟨_,rfl⟩
       rw [← hcr2] at r52
       have HCR2:=Zh hcr2
       clear hmay hcr2
       go_wp2_with fail
       refine (show Calls _ _ _ _ _ from (by rw [HCR2.o];exact zCD C _ pb s r H.o.2.2 w2 H2.o.2.2.2 H.o.2.1)).mono ?_
       rintro e w6 ⟨C',err2,s',rfl,hadd,hs',hsc⟩
       have hp4C:¬ C p4:=fun hC=>by have:=H.o.1.lt (.inl hC);have:=HW.o.2.2;omega
       have hk46:=hsc.1.blk H2.o.2.2.1 hp4C
       have HF:Hid (zCa s r o err2 s'):=.add err2 s' HNO.o HM.o hadd
       have H6:=Zh (Zi hs' (Zi ((zAO.of_below (H0.o.2.1.trans (H2.o.2.1.mono H0.o.2.1.size))).trans hsc) hk46))
       clear hadd hs' hsc hk46 r52 g52 hp4C
       go_wp2_with fail
       refine (zV err2 w6).mono ?_
       rintro e wf ⟨rfl,hbf⟩
       have k4f:=H6.o.2.2.kept hbf
       have f40:=k4f.free 0
       have f41:=k4f.free 1
       have c40:wf.cell? ⟨p4,0,none⟩=some (.int .i64 0):=k4f.cell 0
       have c41:wf.cell? ⟨p4,1,none⟩=some (.slice none 0 0):=k4f.cell 1
       have l4f:=k4f.lt
       have HBF:=Zh hbf
       clear hbf k4f
       go_wp2_with fail
       have hE:=zm (x:=.int .i64 err2) (y:=.slice none 0 0) ((H6.o.1).below HBF.o) ((H6.o.2.1).post HBF.o) (by rw [HW.o.2.2];omega)
       exact bodyPost_ret (v:=.agg #[.int .i64 err2,.slice none 0 0]) (by simp [results,Tryz.results95,go_sem,c40,c41]) rfl ⟨C',err2,s',rfl,HF.o,hE.1,hE.2⟩
end Go.Proofs.YtbbojbdigiibbaaGreatDoor
end
section
namespace Go.Mem
open Go Go.RowKit
def zD9 (f:Nat→Value) (D:Nat→Bool) (es:List MapEntry):Prop :=
 (∀ e∈es,∃ k:Nat,D k=true∧e.key=.int .i64 k∧e.val=f k)∧∀ k:Nat,D k=true→∃ e∈es,e.key=.int .i64 k
theorem zD9.nil (f:Nat→Value) {D:Nat→Bool} (h:∀ k,D k=false):zD9 f D [] :=
 ⟨fun e he=>(List.not_mem_nil he).elim,fun k hk=>by rw [h k] at hk;cases hk⟩
theorem zD9.push {f:Nat→Value} {D E:Nat→Bool} {es:List MapEntry} (h:zD9 f D es) (k b:Nat) (hE:∀ j,E j=true↔D j=true∨j=k):zD9 f E (es++[⟨.int .i64 k,f k,b⟩]):=by
 refine ⟨fun e he=>?_,fun j hj=>?_⟩
 · rcases List.mem_append.1 he with he | he
   · obtain ⟨j,h1,h2⟩:=h.1 e he
     exact ⟨j,(hE j).2 (.inl h1),h2⟩
   · rw [List.mem_singleton.1 he]
     exact ⟨k,(hE k).2 (.inr rfl),rfl,rfl⟩
 · rcases (hE j).1 hj with h1 | rfl
   · obtain ⟨e,he,h2⟩:=h.2 j h1
     exact ⟨e,List.mem_append_left _ he,h2⟩
   · exact ⟨_,List.mem_append_right _ (List.mem_singleton.2 rfl),rfl⟩
theorem zIr {f:Nat→Value} {D:Nat→Bool} {j:Int} (hj:∀ k:Nat,D k=true→(k:Int)≠j) :
  ∀ (es:List MapEntry) (i:Nat),(∀ e∈es,∃ k:Nat,D k=true∧e.key=.int .i64 k∧e.val=f k)→Instr.findNow (.int .i64) (.int .i64 j) es i=some none
 | [],_,_=>rfl
 | e::es,i,h=>by
   obtain ⟨k,h1,h2,_⟩:=h e List.mem_cons_self
   have hne:=hj k h1
   unfold Instr.findNow
   rw [h2]
   simp only [Instr.sameNow,reduceIte]
   rw [show (j == (k:Int))=false by simp;omega]
   exact zIr hj es (i+1) fun e he=>h e (List.mem_cons_of_mem _ he)
theorem zJp {f:Nat→Value} {D:Nat→Bool} {j:Nat} :
  ∀ (es:List MapEntry) (i:Nat),(∀ e∈es,∃ k:Nat,D k=true∧e.key=.int .i64 k∧e.val=f k)→(∃ e∈es,e.key=.int .i64 (j:Nat))→∃ n,Instr.findNow (.int .i64) (.int .i64 j) es i=some (some (n,f j))
 | [],_,_,h=>by obtain ⟨_,he,_⟩:=h;cases he
 | e::es,i,h,hx=>by
   obtain ⟨k,h1,h2,h3⟩:=h e List.mem_cons_self
   unfold Instr.findNow
   rw [h2]
   simp only [Instr.sameNow,reduceIte]
   by_cases hk:k=j
   · subst hk
     rw [show ((k:Int) == (k:Int))=true by simp]
     exact ⟨i,by rw [h3]⟩
   · rw [show ((j:Int) == (k:Int))=false by simp;omega]
     refine zJp es (i+1) (fun e he=>h e (List.mem_cons_of_mem _ he)) ?_
     obtain ⟨e',he',h4⟩:=hx
     rcases List.mem_cons.1 he' with rfl | he'
     · rw [h2] at h4
       simp at h4
       omega
     · exact ⟨e',he',h4⟩
section
variable {P:Program} {mt kt et:TypeId} {w:World} {p c:Nat} {es:Array MapEntry} {f:Nat→Value} {D:Nat→Bool}
theorem zLl (hm:P.underlying mt=some (.map kt et)) (hk:P.underlying kt=some (.int .i64)) (hb:w.heap[p]?=some (.map es c)) (h:zD9 f D es.toList) (k:Nat) (hD:D k=false) :
  (Instr.mapUpdate mt (.map (some p)) (.int .i64 k) (f k)).run P w=.ok () { w with heap:=w.heap.setIfInBounds p (.map (es.push ⟨.int .i64 k,f k,c⟩) (c+1)) }:=by
 have hno:∀ j:Nat,D j=true→(j:Int)≠(k:Int):=fun j hj e=>by
  rw [show j=k by omega,hD] at hj
  cases hj
 have hf:Instr.findNow (.int .i64) (.int .i64 k) es.toList 0=some none:=zIr hno es.toList 0 h.1
 have hc:(Instr.checkKey false 10000 kt (.int .i64 k)).run P w=.ok () w:=MapKept.run_checkKey (k:=.int .i64 k) hk (by simp [MapKept.IsKey]) false 9999
 simp [Instr.mapUpdate,run_underlying hm,MapKept.run_getObj_map hb,hc,MapKept.run_findKey hk hf,MapKept.run_setObj_map _ hb,Result.andThen]
theorem zI7 (hm:P.underlying mt=some (.map kt et)) (hk:P.underlying kt=some (.int .i64)) (hb:w.heap[p]?=some (.map es c)) (h:zD9 f D es.toList) (k:Nat) (hD:D k=true) :
  (Instr.lookup mt (.map (some p)) (.int .i64 k) true).run P w=.ok (.tuple #[f k,.bool true]) w:=by
 obtain ⟨n,hf⟩:=zJp es.toList 0 h.1 (h.2 k hD)
 have hc:(Instr.checkKey es.isEmpty 10000 kt (.int .i64 k)).run P w=.ok () w:=MapKept.run_checkKey (k:=.int .i64 k) hk (by simp [MapKept.IsKey]) _ 9999
 simp [Instr.lookup,run_underlying hm,MapKept.run_getObj_map hb,hc,MapKept.run_findKey hk hf,Result.andThen]
theorem zKb {z:Value} (hm:P.underlying mt=some (.map kt et)) (hk:P.underlying kt=some (.int .i64)) (hz:(zeroValue et).run P w=.ok z w) (hb:w.heap[p]?=some (.map es c)) (h:zD9 f D es.toList) (j:Int) (hD:∀ k:Nat,D k=true→(k:Int)≠j) :
  (Instr.lookup mt (.map (some p)) (.int .i64 j) true).run P w=.ok (.tuple #[z,.bool false]) w:=by
 have hf:=zIr hD es.toList 0 h.1
 have hc:(Instr.checkKey es.isEmpty 10000 kt (.int .i64 j)).run P w=.ok () w:=MapKept.run_checkKey (k:=.int .i64 j) hk (by simp [MapKept.IsKey]) _ 9999
 simp [Instr.lookup,run_underlying hm,MapKept.run_getObj_map hb,hc,MapKept.run_findKey hk hf,hz,Result.andThen]
def zFs (f:Nat→Value) (D:Nat→Bool) (w0:World) (p:Nat) (w:World):Prop :=
 w0.heap.size=p∧Below p w0 w∧∃ es c,w.heap[p]?=some (.map es c)∧zD9 f D es.toList
theorem zFs.new (f:Nat→Value) (w0:World):zFs f (fun _=>false) w0 w0.heap.size (w0.alloc (.map #[] 0)) :=
 ⟨rfl,(Below.refl _ _).alloc (Nat.le_refl _) _,#[],0,by show (w0.heap.push _)[w0.heap.size]?=_;simp,zD9.nil f fun _=>rfl⟩
theorem zFs.step {w0:World} (hm:P.underlying mt=some (.map kt et)) (hk:P.underlying kt=some (.int .i64)) (h:zFs f D w0 p w) (k:Nat) (hD:D k=false) :
  ∃ w',(Instr.mapUpdate mt (.map (some p)) (.int .i64 k) (f k)).run P w=.ok () w'∧zFs f (Tail.zAZ D k) w0 p w':=by
 obtain ⟨h1,h2,es,c,hb,hf⟩:=h
 refine ⟨_,zLl hm hk hb hf k hD,h1,h2.trans ⟨rfl,rfl,rfl,by simp,fun b hlt=>?_⟩,_,_,(MapKept.heap_set hb).1,?_⟩
 · exact (MapKept.heap_set hb).2 b (by omega)
 · rw [Array.toList_push]
   refine hf.push k c fun j=>?_
   unfold Tail.zAZ
   split
   · rename_i e;simp [e]
   · rename_i e;simp [e]
end
end Go.Mem
end
section
namespace Go.Proofs.YtbbojbdigiibbaaGreatDoor
open Go Go.RowKit Go.Mem Gf Lea
def zGO (k:Nat):Value:=.func (.func (91+(k - 1))) #[] #[]
def zDD (k:Nat):Bool:=decide (1≤k) && decide (k≤6)
theorem zOz:Value.func (.func 91) #[] #[]=zGO 1:=rfl
theorem zO0:Value.func (.func 92) #[] #[]=zGO 2:=rfl
theorem zO1:Value.func (.func 93) #[] #[]=zGO 3:=rfl
theorem zO2:Value.func (.func 94) #[] #[]=zGO 4:=rfl
theorem zO3:Value.func (.func 95) #[] #[]=zGO 5:=rfl
theorem zO4:Value.func (.func 96) #[] #[]=zGO 6:=rfl
attribute [local go_sem ↓] Go.wp_at_zero Go.wp_at_succ
set_option maxRecDepth 100000 in
set_option maxHeartbeats 1000000 in
theorem zEM (w:World):Calls Tryz.prog 46 #[] w fun e w'=>e=.returned (.map (some w.heap.size))∧zFs zGO zDD w w.heap.size w':=by
 have hmm:=run_makeMap (P:=Tryz.prog) 110 w
 obtain ⟨p,hp⟩:∃ p,p=w.heap.size:=⟨_,rfl⟩
 have h0:=zFs.new zGO w
 obtain ⟨w1,hw1⟩:∃ x,x=w.alloc (.map #[] 0):=⟨_,rfl⟩
 rw [← hp,← hw1] at h0
 rw [← hp,← hw1] at hmm
 rw [← hp]
 obtain ⟨w2,r2,h2⟩:=zFs.step (P:=Tryz.prog) Tryz.underlying110 Tryz.underlying3 h0 1 rfl
 obtain ⟨w3,r3,h3⟩:=zFs.step (P:=Tryz.prog) Tryz.underlying110 Tryz.underlying3 h2 2 rfl
 obtain ⟨w4,r4,h4⟩:=zFs.step (P:=Tryz.prog) Tryz.underlying110 Tryz.underlying3 h3 3 rfl
 obtain ⟨w5,r5,h5⟩:=zFs.step (P:=Tryz.prog) Tryz.underlying110 Tryz.underlying3 h4 4 rfl
 obtain ⟨w6,r6,h6⟩:=zFs.step (P:=Tryz.prog) Tryz.underlying110 Tryz.underlying3 h5 5 rfl
 obtain ⟨w7,r7,h7⟩:=zFs.step (P:=Tryz.prog) Tryz.underlying110 Tryz.underlying3 h6 6 rfl
 rw [← zOz] at r2
 rw [← zO0] at r3
 rw [← zO1] at r4
 rw [← zO2] at r5
 rw [← zO3] at r6
 rw [← zO4] at r7
 have e7:Tail.zAZ (Tail.zAZ (Tail.zAZ (Tail.zAZ (Tail.zAZ (Tail.zAZ (fun _=>false) 1) 2) 3) 4) 5) 6=zDD:=by
  funext k
  unfold Tail.zAZ zDD
  repeat' split
  all_goals first | (subst_vars;rfl) | (symm;simp;omega)
 rw [e7] at h7
 push_cast at r2 r3 r4 r5 r6 r7
 have H7:=Zh h7
 have HP:=Zh hp
 clear h0 h2 h3 h4 h5 h6 h7 e7
 go_enter Tryz.func46,Tryz.ntmps46
 clear hp hw1
 go_wp2_with fail
 go_ret
 exact ⟨rfl,H7.o⟩
end Go.Proofs.YtbbojbdigiibbaaGreatDoor
end
section
namespace Go.Proofs.YtbbojbdigiibbaaGreatDoor
open Go Go.RowKit Go.Mem Gf Lea
theorem zMT:∀ (k:Nat),zDD k=true→∀ (args:Array Value) (w:World),(callFunc (91+(k - 1)) args).run Tryz.prog w=.ok (.enter (91+(k - 1)) args) w
 | 0,h,_,_=>by cases h
 | 1,_,_,_=>by kernel_rfl
 | 2,_,_,_=>by kernel_rfl
 | 3,_,_,_=>by kernel_rfl
 | 4,_,_,_=>by kernel_rfl
 | 5,_,_,_=>by kernel_rfl
 | 6,_,_,_=>by kernel_rfl
 | k+7,h,_,_=>by simp [zDD] at h
attribute [local irreducible] zM zY
attribute [local go_sem ↓] Go.wp_at_zero Go.wp_at_succ
attribute [local go_sem ↓] zAN zCX
attribute [local go_sem] ptrB_eq ptrO_eq ptrIs_eq aggL_eq aggIs_eq zT zg zC zG
set_option maxRecDepth 100000 in
set_option maxHeartbeats 1000000 in
theorem zJe (C X:Nat→Prop) (pb:Nat) (s:zF) (r:Req) (hr:r.Wf) (w:World) (h:zR w C X pb s) (hB:s.dead=false) (k:Nat) (hk:zDD k=true) (hkr:r.kind=(k:Int)) (Post:Ending→World→Prop)
  (hP:∀ w1 p4,Below w.heap.size w w1→w.heap.size≤p4→Blk w1 p4 #[.int .i64 0,.slice none 0 0] 43→zR w1 C (fun b=>X b∨b=p4) pb s→Calls Tryz.prog (91+(k - 1)) #[.pointer (some ⟨pb,0,none⟩),.agg (zM r).toArray] w1 fun e w'=>∃ err a n c,e=.returned (.agg #[.int .i64 err,.slice a n c])∧Blk w' p4 #[.int .i64 0,.slice none 0 0] 43∧Post (.returned (.agg #[.int .i64 err,.slice a n c])) ((w'.setCell ⟨p4,0,none⟩ (.int .i64 err)).setCell ⟨p4,1,none⟩ (.slice a n c))) :
  Calls Tryz.prog 20 #[.pointer (some ⟨pb,0,none⟩),.agg (zM r).toArray] w (Post):=by
 have hR:=(zAE.new w 47 hr)
 have hb0:=(Below.refl w.heap.size w).alloc (Nat.le_refl _) (.cells (zM r).toArray 47)
 have hb1:=hb0.alloc hb0.size (.cells #[.int .i64 0,.slice none 0 0] 43)
 have hR1:=hR.below ((Below.refl _ (w.alloc (.cells (zM r).toArray 47))).alloc (Nat.le_refl _) (.cells #[.int .i64 0,.slice none 0 0] 43))
 have hk4:Blk ((w.alloc (.cells (zM r).toArray 47)).alloc (.cells #[.int .i64 0,.slice none 0 0] 43)) (w.heap.size+1) #[.int .i64 0,.slice none 0 0] 43:=Blk.new_at _ _ _ _ (by simp)
 obtain ⟨cr,hcr⟩:∃ c,c=zM r:=⟨_,rfl⟩
 rw [← hcr] at hR1 hb1 hk4
 rw [← hcr]
 have HCR:=Zh hcr
 obtain ⟨w0,hw0⟩:∃ x,x=(w.alloc (.cells cr.toArray 47)).alloc (.cells #[.int .i64 0,.slice none 0 0] 43):=⟨_,rfl⟩
 obtain ⟨p3,hp3⟩:∃ p,p=w.heap.size:=⟨_,rfl⟩
 obtain ⟨p4,hp4⟩:∃ p,p=w.heap.size+1:=⟨_,rfl⟩
 have HW:=Zh (Zi hw0 (Zi hp3 hp4))
 rw [← hw0,← hp3] at hR1
 rw [← hw0] at hb1
 rw [← hw0,← hp4] at hk4
 have H:=Zh (Zi h (Zi hB hr))
 have hx4:zR w0 C (fun b=>X b∨b=p4) pb s:=h.growX (fun b hb=>.inl hb) (fun b hb=>hb.imp id (fun e=>by rw [e,hp4];omega)) hb1 (fun b hb=>by rcases hb with hb | hb;exact Nat.lt_of_lt_of_le (h.lt (.inr hb)) hb1.size;rw [hb];exact hk4.lt)
 have H0:=Zh (Zi hR1 (Zi hb1 (Zi hk4 hx4)))
 clear h hB hr hcr hw0 hp3 hp4 hR hR1 hb0 hb1 hk4 hx4
 have HP:=Zh hP
 have HK:=Zh (Zi hk hkr)
 clear hP hk hkr
 go_enter Tryz.func20,Tryz.ntmps20
 go_upto_region 1 with fail
 rw [← HW.o.1,← HW.o.2.2,← HW.o.2.1]
 go_wp2_with fail
 refine (zBn C _ pb s w0 H0.o.2.2.2).mono ?_
 rintro e w1 ⟨rfl,rfl⟩
 rw [H.o.2.1]
 go_upto_region 3 with fail
 have c0:=H0.o.1.kind
 rw [HK.o.2] at c0
 have c0:w0.drew.cell? ⟨p3,0,none⟩=some (.int .i64 (k:Int)):=c0
 have l3:=H0.o.1.lt
 obtain ⟨fnn,hfn⟩:∃ n,n=91+(k - 1):=⟨_,rfl⟩
 have HN:=Zh hfn
 clear hfn
 go_region_held3 (fun w'=>w'.cell? ⟨p3,0,none⟩=some (.int .i64 (k:Int))) (first | exact c0 | with_reducible assumption)
  (first
   | (go_at_call 46
      refine (zEM w0.drew).mono ?_
      rintro e w2 ⟨rfl,hm⟩
      obtain ⟨es,c,hb,hf⟩:=hm.2.2
      have lk:(Instr.lookup 110 (.map (some w0.heap.size)) (.int .i64 (k:Int)) true).run Tryz.prog w2=.ok (.tuple #[.func (.func fnn) #[] #[],.bool true]) w2:=by rw [HN.o];exact zI7 (P:=Tryz.prog) Tryz.underlying110 Tryz.underlying3 hb hf k HK.o.1
      have hh:w2.cell? ⟨p3,0,none⟩=some (.int .i64 (k:Int)):=(hm.2.1.cell (p:=⟨p3,0,none⟩) l3).trans c0
      have HM:=Zh hm.2.1
      clear hm hb hf))
 have hb2:Below w0.heap.size w0 w2:=((Below.refl _ _).drew).trans HM.o
 have k42:=H0.o.2.2.1.kept hb2
 have hR2:=H0.o.1.below hb2
 have r52:=hR2.rall
 have g52:=hR2.hall
 obtain ⟨cr2,hcr2⟩:∃ c,c=zM r:=⟨_,rfl⟩
 rw [← hcr2] at r52
 have hcf:∀ args w,(callFunc fnn args).run Tryz.prog w=.ok (.enter fnn args) w:=by rw [HN.o];exact zMT k HK.o.1
 have H2:=Zh (Zi k42 (Zi (H0.o.2.2.2.below hb2) (Zi (H0.o.2.1.trans (hb2.mono H0.o.2.1.size)) hcr2)))
 clear hb2 k42 hR2 hcr2
 go_wp2_with fail
 refine (show Calls _ _ _ _ _ from (by rw [H2.o.2.2.2,HN.o];exact HP.o w2 p4 H2.o.2.2.1 (by rw [HW.o.2.2];omega) H2.o.1 H2.o.2.1)).mono ?_
 rintro e w3 ⟨err,a5,n5,c5,rfl,hk3,hpost⟩
 have f40:=hk3.free 0
 have f41:=hk3.free 1
 have c40:w3.cell? ⟨p4,0,none⟩=some (.int .i64 0):=hk3.cell 0
 have c41:w3.cell? ⟨p4,1,none⟩=some (.slice none 0 0):=hk3.cell 1
 have l4f:=hk3.lt
 have HPO:=Zh hpost
 clear hpost hk3 r52 g52
 go_wp2_with fail
 exact bodyPost_ret (v:=.agg #[.int .i64 err,.slice a5 n5 c5]) (by simp [results,Tryz.results20,go_sem,c40,c41]) rfl HPO.o
set_option maxRecDepth 100000 in
set_option maxHeartbeats 1000000 in
theorem zOr (C X:Nat→Prop) (pb:Nat) (s:zF) (r:Req) (hr:r.Wf) (w:World) (h:zR w C X pb s) (hB:s.dead=true) :
  Calls Tryz.prog 20 #[.pointer (some ⟨pb,0,none⟩),.agg (zM r).toArray] w (zDA C X pb (fun err s'=>err=8∧s'=s) w):=by
 have hR:=(zAE.new w 47 hr)
 have hb0:=(Below.refl w.heap.size w).alloc (Nat.le_refl _) (.cells (zM r).toArray 47)
 have hb1:=hb0.alloc hb0.size (.cells #[.int .i64 0,.slice none 0 0] 43)
 have hR1:=hR.below ((Below.refl _ (w.alloc (.cells (zM r).toArray 47))).alloc (Nat.le_refl _) (.cells #[.int .i64 0,.slice none 0 0] 43))
 have hk4:Blk ((w.alloc (.cells (zM r).toArray 47)).alloc (.cells #[.int .i64 0,.slice none 0 0] 43)) (w.heap.size+1) #[.int .i64 0,.slice none 0 0] 43:=Blk.new_at _ _ _ _ (by simp)
 obtain ⟨cr,hcr⟩:∃ c,c=zM r:=⟨_,rfl⟩
 rw [← hcr] at hR1 hb1 hk4
 rw [← hcr]
 have HCR:=Zh hcr
 obtain ⟨w0,hw0⟩:∃ x,x=(w.alloc (.cells cr.toArray 47)).alloc (.cells #[.int .i64 0,.slice none 0 0] 43):=⟨_,rfl⟩
 obtain ⟨p3,hp3⟩:∃ p,p=w.heap.size:=⟨_,rfl⟩
 obtain ⟨p4,hp4⟩:∃ p,p=w.heap.size+1:=⟨_,rfl⟩
 have HW:=Zh (Zi hw0 (Zi hp3 hp4))
 rw [← hw0,← hp3] at hR1
 rw [← hw0] at hb1
 rw [← hw0,← hp4] at hk4
 have H:=Zh (Zi h (Zi hB hr))
 have hx4:zR w0 C (fun b=>X b∨b=p4) pb s:=h.growX (fun b hb=>.inl hb) (fun b hb=>hb.imp id (fun e=>by rw [e,hp4];omega)) hb1 (fun b hb=>by rcases hb with hb | hb;exact Nat.lt_of_lt_of_le (h.lt (.inr hb)) hb1.size;rw [hb];exact hk4.lt)
 have H0:=Zh (Zi hR1 (Zi hb1 (Zi hk4 hx4)))
 clear h hB hr hcr hw0 hp3 hp4 hR hR1 hb0 hb1 hk4 hx4
 go_enter Tryz.func20,Tryz.ntmps20
 go_upto_region 1 with fail
 rw [← HW.o.1,← HW.o.2.2,← HW.o.2.1]
 go_wp2_with fail
 refine (zBn C _ pb s w0 H0.o.2.2.2).mono ?_
 rintro e w1 ⟨rfl,rfl⟩
 rw [H.o.2.1]
 go_wp2_with fail
 refine (zV 8 w0).mono ?_
 rintro e wf ⟨rfl,hbf⟩
 have k4f:=H0.o.2.2.1.kept hbf
 have f40:=k4f.free 0
 have f41:=k4f.free 1
 have c40:wf.cell? ⟨p4,0,none⟩=some (.int .i64 0):=k4f.cell 0
 have c41:wf.cell? ⟨p4,1,none⟩=some (.slice none 0 0):=k4f.cell 1
 have l4f:=k4f.lt
 have HBF:=Zh hbf
 clear hbf k4f
 go_wp2_with fail
 have hE:=zm (x:=.int .i64 8) (y:=.slice none 0 0) ((H0.o.2.2.2).below HBF.o) ((zAO.of_below H0.o.2.1).post HBF.o) (by rw [HW.o.2.2];omega)
 exact bodyPost_ret (v:=.agg #[.int .i64 8,.slice none 0 0]) (by simp [results,Tryz.results20,go_sem,c40,c41]) rfl ⟨C,8,s,rfl,⟨rfl,rfl⟩,hE.1,hE.2⟩
set_option maxRecDepth 100000 in
set_option maxHeartbeats 1000000 in
theorem zOs (C X:Nat→Prop) (pb:Nat) (s:zF) (r:Req) (hr:r.Wf) (w:World) (h:zR w C X pb s) (hB:s.dead=false) (hk:∀ k:Nat,zDD k=true→(k:Int)≠r.kind) :
  Calls Tryz.prog 20 #[.pointer (some ⟨pb,0,none⟩),.agg (zM r).toArray] w (zDA C X pb (fun err s'=>err=2∧s'=s) w):=by
 have hR:=(zAE.new w 47 hr)
 have hb0:=(Below.refl w.heap.size w).alloc (Nat.le_refl _) (.cells (zM r).toArray 47)
 have hb1:=hb0.alloc hb0.size (.cells #[.int .i64 0,.slice none 0 0] 43)
 have hR1:=hR.below ((Below.refl _ (w.alloc (.cells (zM r).toArray 47))).alloc (Nat.le_refl _) (.cells #[.int .i64 0,.slice none 0 0] 43))
 have hk4:Blk ((w.alloc (.cells (zM r).toArray 47)).alloc (.cells #[.int .i64 0,.slice none 0 0] 43)) (w.heap.size+1) #[.int .i64 0,.slice none 0 0] 43:=Blk.new_at _ _ _ _ (by simp)
 obtain ⟨cr,hcr⟩:∃ c,c=zM r:=⟨_,rfl⟩
 rw [← hcr] at hR1 hb1 hk4
 rw [← hcr]
 have HCR:=Zh hcr
 obtain ⟨w0,hw0⟩:∃ x,x=(w.alloc (.cells cr.toArray 47)).alloc (.cells #[.int .i64 0,.slice none 0 0] 43):=⟨_,rfl⟩
 obtain ⟨p3,hp3⟩:∃ p,p=w.heap.size:=⟨_,rfl⟩
 obtain ⟨p4,hp4⟩:∃ p,p=w.heap.size+1:=⟨_,rfl⟩
 have HW:=Zh (Zi hw0 (Zi hp3 hp4))
 rw [← hw0,← hp3] at hR1
 rw [← hw0] at hb1
 rw [← hw0,← hp4] at hk4
 have H:=Zh (Zi h (Zi hB hr))
 have hx4:zR w0 C (fun b=>X b∨b=p4) pb s:=h.growX (fun b hb=>.inl hb) (fun b hb=>hb.imp id (fun e=>by rw [e,hp4];omega)) hb1 (fun b hb=>by rcases hb with hb | hb;exact Nat.lt_of_lt_of_le (h.lt (.inr hb)) hb1.size;rw [hb];exact hk4.lt)
 have H0:=Zh (Zi hR1 (Zi hb1 (Zi hk4 hx4)))
 clear h hB hr hcr hw0 hp3 hp4 hR hR1 hb0 hb1 hk4 hx4
 have HK:=Zh hk
 clear hk
 go_enter Tryz.func20,Tryz.ntmps20
 go_upto_region 1 with fail
 rw [← HW.o.1,← HW.o.2.2,← HW.o.2.1]
 go_wp2_with fail
 refine (zBn C _ pb s w0 H0.o.2.2.2).mono ?_
 rintro e w1 ⟨rfl,rfl⟩
 rw [H.o.2.1]
 go_upto_region 3 with fail
 have c0:w0.drew.cell? ⟨p3,0,none⟩=some (.int .i64 r.kind):=H0.o.1.kind
 have l3:=H0.o.1.lt
 go_region_held3 (fun w'=>w'.cell? ⟨p3,0,none⟩=some (.int .i64 r.kind)) (first | exact c0 | with_reducible assumption)
  (first
   | (go_at_call 46
      refine (zEM w0.drew).mono ?_
      rintro e w2 ⟨rfl,hm⟩
      obtain ⟨es,c,hb,hf⟩:=hm.2.2
      have lk:(Instr.lookup 110 (.map (some w0.heap.size)) (.int .i64 r.kind) true).run Tryz.prog w2=.ok (.tuple #[.nilFunc,.bool false]) w2:=zKb (P:=Tryz.prog) Tryz.underlying110 Tryz.underlying3 (by kernel_rfl) hb hf r.kind HK.o
      have hh:w2.cell? ⟨p3,0,none⟩=some (.int .i64 r.kind):=(hm.2.1.cell (p:=⟨p3,0,none⟩) l3).trans c0
      have HM:=Zh hm.2.1
      clear hm hb hf))
 have hb2:Below w0.heap.size w0 w2:=((Below.refl _ _).drew).trans HM.o
 have H2:=Zh (Zi (H0.o.2.2.1.kept hb2) (Zi (H0.o.2.2.2.below hb2) (H0.o.2.1.trans (hb2.mono H0.o.2.1.size))))
 clear hb2
 go_wp2_with fail
 refine (zV 2 w2).mono ?_
 rintro e wf ⟨rfl,hbf⟩
 have k4f:=H2.o.1.kept hbf
 have f40:=k4f.free 0
 have f41:=k4f.free 1
 have c40:wf.cell? ⟨p4,0,none⟩=some (.int .i64 0):=k4f.cell 0
 have c41:wf.cell? ⟨p4,1,none⟩=some (.slice none 0 0):=k4f.cell 1
 have l4f:=k4f.lt
 have HBF:=Zh hbf
 clear hbf k4f
 go_wp2_with fail
 have hE:=zm (x:=.int .i64 2) (y:=.slice none 0 0) ((H2.o.2.1).below HBF.o) ((zAO.of_below H2.o.2.2).post HBF.o) (by rw [HW.o.2.2];omega)
 exact bodyPost_ret (v:=.agg #[.int .i64 2,.slice none 0 0]) (by simp [results,Tryz.results20,go_sem,c40,c41]) rfl ⟨C,2,s,rfl,⟨rfl,rfl⟩,hE.1,hE.2⟩
end Go.Proofs.YtbbojbdigiibbaaGreatDoor
end
