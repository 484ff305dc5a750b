/- Texts of this proof,packed: SrvSwap,SrvAny,SrvStep,SrvActs,SrvCopyT. -/
import Derived.Test.YtbbojbdigiibbaaGreatDoorPa17
import Derived.Test.YtbbojbdigiibbaaGreatDoorPa14
import Derived.Test.YtbbojbdigiibbaaGreatDoorPa12
import Derived.Test.YtbbojbdigiibbaaGreatDoorPa08
import Derived.Test.YtbbojbdigiibbaaGreatDoorPa15
section
namespace Go.Mem
open Go Go.RowKit Gf Lea
theorem zCd {x:zM}:∀ {r out:List zM},x∈zAo out r→x∈out∨x∈r
 | [],_,h=>.inl h
 | b::r,out,h=>by
   rw [zAo] at h
   split at h
   · rcases zCd h with h | h
     · rcases List.mem_append.1 h with h | h
       · exact .inl h
       · rw [List.mem_singleton.1 h];exact .inr (List.mem_cons_self)
     · exact .inr (List.mem_cons_of_mem _ h)
   · rcases zCd h with h | h
     · exact .inl h
     · exact .inr (List.mem_cons_of_mem _ h)
def zCv (w:World) (N:Nat→Prop) (v:Value) (ts:List Tst):Prop :=
 ∃ a c,v=.slice a ts.length c∧ts.length≤1000000∧(∀ t∈ts,t.want.length=32)∧(0 < ts.length→∃ b off,a=some ⟨b,off,none⟩∧b < w.heap.size∧¬ N b∧∀ (i:Nat) (t:Tst),ts[i]?=some t→w.rangeAt b (off+i*34) (zDv t))
theorem zCv.nil (w:World) (N:Nat→Prop):zCv w N (.slice none 0 0) []:=⟨none,0,rfl,Nat.zero_le _,(fun _ h=>by cases h),fun h=>by simp at h⟩
theorem zCv.chg {S N:Nat→Prop} {w w':World} {v:Value} {ts:List Tst} (h:zCv w N v ts) (hc:Chg S w w') (hs:∀ b,S b→b < w.heap.size→N b):zCv w' N v ts:=by
 obtain ⟨a,c,e,h1,h2,h3⟩:=h
 refine ⟨a,c,e,h1,h2,fun hp=>?_⟩
 obtain ⟨b,off,e1,hb,hn,h4⟩:=h3 hp
 refine ⟨b,off,e1,Nat.lt_of_lt_of_le hb hc.size,hn,fun i t ht j u hu=>?_⟩
 have:=h4 i t ht j u hu
 unfold World.cell? at this ⊢
 rw [hc.block b hb (fun hS=>hn (hs b hS hb))]
 exact this
theorem zCv.below {N:Nat→Prop} {w w':World} {v:Value} {ts:List Tst} (h:zCv w N v ts) (hb:Below w.heap.size w w'):zCv w' N v ts:=h.chg (S:=fun _=>False) (Chg.of_below hb) (fun _ h=>h.elim)
theorem zCv.mono {N M:Nat→Prop} {w:World} {v:Value} {ts:List Tst} (h:zCv w N v ts) (hM:∀ b,M b→N b∨w.heap.size≤b):zCv w M v ts:=by
 obtain ⟨a,c,e,h1,h2,h3⟩:=h
 refine ⟨a,c,e,h1,h2,fun hp=>?_⟩
 obtain ⟨b,off,e1,hb,hn,h4⟩:=h3 hp
 refine ⟨b,off,e1,hb,fun hm=>?_,h4⟩
 rcases hM b hm with h | h
 · exact hn h
 · omega
end Go.Mem
namespace Go.Proofs.YtbbojbdigiibbaaGreatDoor
open Go Go.RowKit Go.Mem Gf Lea
set_option linter.unusedVariables false
def zCN (r:Req) (o:Option (Key × List zM)):Key:=if o.isSome then zBf o else r.en
inductive zAs (s:zG) (r:Req) (l:List zM) (ts:List Tst) (o:Option (Key × List zM)):Int→zG→Prop
 | form (h:¬ (l≠[]∧zAY l∧May r.ends)):zAs s r l ts o 2 s
 | enable (h:l≠[]∧zAY l∧May r.ends) (ho:o.isSome=true) (hk:zBf o≠r.en):zAs s r l ts o 7 s
 | test (h:l≠[]∧zAY l∧May r.ends) (hk:o.isSome=true→zBf o=r.en) (ht:∃ t∈ts,zBr (zAy o) t=false):zAs s r l ts o 6 s
 | no (h:l≠[]∧zAY l∧May r.ends) (hk:o.isSome=true→zBf o=r.en) (ht:∀ t∈ts,zBr (zAy o) t=true) (l':List zM) (hp:l'.Perm (zAo l (zAy o))) (hs:l'.Pairwise fun a b:zM=>a.1≤b.1) (err:Int)
  (ha:zEa s r.ix r.sec r.ends (zw r.ix) (zAA (zCN r o) l') o.isSome err) (h0:err≠0):zAs s r l ts o err s
 | torn (h:l≠[]∧zAY l∧May r.ends) (hk:o.isSome=true→zBf o=r.en) (ht:∀ t∈ts,zBr (zAy o) t=true) (l':List zM) (hp:l'.Perm (zAo l (zAy o))) (hs:l'.Pairwise fun a b:zM=>a.1≤b.1)
  (ha:zEa s r.ix r.sec r.ends (zw r.ix) (zAA (zCN r o) l') o.isSome 0) (h0:(zO s.st (zw r.ix) (zAA (zCN r o) l')).1≠0):zAs s r l ts o (zO s.st (zw r.ix) (zAA (zCN r o) l')).1 { s with st:=(zO s.st (zw r.ix) (zAA (zCN r o) l')).2 }
 | put (h:l≠[]∧zAY l∧May r.ends) (hk:o.isSome=true→zBf o=r.en) (ht:∀ t∈ts,zBr (zAy o) t=true) (l':List zM) (hp:l'.Perm (zAo l (zAy o))) (hs:l'.Pairwise fun a b:zM=>a.1≤b.1) (err:Int) (s':zG)
  (ha:zEa s r.ix r.sec r.ends (zw r.ix) (zAA (zCN r o) l') o.isSome 0) (h0:(zO s.st (zw r.ix) (zAA (zCN r o) l')).1=0) (hs':zCe { s with st:=(zO s.st (zw r.ix) (zAA (zCN r o) l')).2 } r.ix r.sec r.ends err s'):zAs s r l ts o err s'
theorem zJB {s:zG} {ix:Key} {o:Option (Key × List zM)} (h:zBS s ix o):∀ x∈zAy o,x.2.length≤16384:=fun x hx=>by
 cases o with
 | none=>cases hx
 | some kl =>
   obtain ⟨_,_,h3,_⟩:=h
   exact h3.len x hx
theorem zFH {s:zG} {ix:Key} {o:Option (Key × List zM)} (h:zBS s ix o):zDy (zAy o)∧(zAy o).length≤16:=by
 cases o with
 | none=>exact ⟨⟨fun x hx=>(by cases hx),fun x hx=>(by cases hx)⟩,Nat.zero_le _⟩
 | some kl =>
   obtain ⟨_,_,h3,h4⟩:=h
   exact ⟨h3,h4⟩
theorem zFS:∀ (n:Nat) (l:List Int),l.Nodup→(∀ x∈l,0≤x∧x < (n:Int))→l.length≤n
 | 0,l,_,h=>by
   cases l with
   | nil=>exact Nat.le_refl _
   | cons x l=>have:=h x (by simp);omega
 | n+1,l,hn,h=>by
   by_cases hm:(n:Int)∈l
   · have h1:=List.length_erase_of_mem hm
     have h2:=zFS n (l.erase n) (hn.erase _) (fun x hx=>by
      have h3:=(hn.mem_erase_iff).1 hx
      have:=h x h3.2
      have:=h3.1
      omega)
     omega
   · have h2:=zFS n l hn (fun x hx=>by
      have:=h x hx
      have:x≠(n:Int):=fun e=>hm (by rw [← e];exact hx)
      omega)
     omega
theorem zJo {l:List zM} (h:zAY l):l.length≤16:=by
 have:=zFS 16 (l.map (·.1)) h.2 (fun x hx=>by
  obtain ⟨y,hy,rfl⟩:=List.mem_map.1 hx
  exact h.1 y hy)
 rwa [List.length_map] at this
theorem i34:(Tryz.prog.info? 66).map (·.size)=some 34:=by kernel_rfl
theorem zML (dst:Option Tmp) (x:Operand) (ty:TypeId) (pos:String) (af:Array Edge) (gd:Option (Tmp × Bool)) (a:Act) (w:World) (K:Act→World→Prop) (Q:Exit→Act→World→Prop)
  (hp:zAz (a.eval x)=true) (ht:zBp 34 w (zAM (a.eval x)) (zAN (a.eval x))) :
  Oper.wp Tryz.prog ⟨dst,.load 66 x,ty,pos,af,gd⟩ a w K Q=K (a.put dst (.agg (zN 34 w (zAM (a.eval x)) (zAN (a.eval x))).toArray)) w :=
 zHQ Tryz.underlying66 rfl i34 dst x ty pos af gd a w K Q hp ht
theorem zLN (dst:Option Tmp) (x y:Operand) (ty:TypeId) (pos:String) (af:Array Edge) (a:Act) (w:World) (K:Act→World→Prop) (Q:Exit→Act→World→Prop)
  (hp:zAz (a.eval x)=true) (hy:zA5 (a.eval y)=true) (ht:zY 34 w (zAM (a.eval x)) (zAN (a.eval x))) (hc:zAQ 34 (zAn (a.eval y))) :
  Oper.wp Tryz.prog ⟨dst,.store 66 x y,ty,pos,af,none⟩ a w K Q=K (a.put dst undef) (w.setCells (zAM (a.eval x)) (zAN (a.eval x)) (zAn (a.eval y))) :=
 zBP i34 dst x y ty pos af a w K Q hp hy ht hc
theorem allT {t:Tst} (h:t.want.length=32):zAQ 34 (zDv t):=⟨zFc h,fun v hv=>by
 unfold zDv at hv
 rcases List.mem_cons.1 hv with rfl | hv
 · rfl
 · rcases List.mem_cons.1 hv with rfl | hv
   · rfl
   · exact zAH _ v hv⟩
attribute [local irreducible] zK zW zAu
attribute [local go_sem ↓] Go.wp_at_zero Go.wp_at_succ
attribute [local go_sem ↓] zAK zCH zEP zE6 zML zLN
attribute [local go_sem] zCD ptrB_eq ptrO_eq ptrIs_eq aggL_eq aggIs_eq zS ze zCA zC zF zX zZ zV zH zJ zDB zCB
set_option maxRecDepth 100000 in
set_option maxHeartbeats 8000000 in
theorem zIq (C X:Nat→Prop) (pb:Nat) (s:zG) (r:Req) (l:List zM) (ts:List Tst) (o:Option (Key × List zM)) (hr:r.Wf) (w:World) (h:zT w C X pb s) (hB:zCP s) (hwr:s.st.disk.writes < 72057594037800000) (hl:zAW w (fun b=>C b∨X b) r.vb l) (hd:∀ x∈l,x.2.length≤16384) (hts:zCv w (fun b=>C b∨X b) r.vt ts) (ho:zBS s r.ix o) :
  Calls Tryz.prog 94 #[.pointer (some ⟨pb,0,none⟩),.agg (zK r).toArray] w (zCw C X pb (zAs s r l ts o) w):=by
 obtain ⟨la,lc,hvb,hlc1,hlc2,hrow⟩:=id hl
 obtain ⟨n,hn⟩:∃ n,n=l.length:=⟨_,rfl⟩
 rw [← hn] at hvb hlc1 hrow
 obtain ⟨ta,tc,hvt,htn,htw,htrow⟩:=id hts
 obtain ⟨tn,htn2⟩:∃ n,n=ts.length:=⟨_,rfl⟩
 rw [← htn2] at hvt htn htrow
 have hR:=(zAC.new w 47 hr)
 have hb0:=(Below.refl w.heap.size w).alloc (Nat.le_refl _) (.cells (zK r).toArray 47)
 have hb1:=hb0.alloc hb0.size (.cells #[.int .i64 0,.slice none 0 0] 43)
 have hR1:=hR.below ((Below.refl _ (w.alloc (.cells (zK r).toArray 47))).alloc (Nat.le_refl _) (.cells #[.int .i64 0,.slice none 0 0] 43))
 have hk4:Blk ((w.alloc (.cells (zK r).toArray 47)).alloc (.cells #[.int .i64 0,.slice none 0 0] 43)) (w.heap.size+1) #[.int .i64 0,.slice none 0 0] 43:=Blk.new_at _ _ _ _ (by simp)
 obtain ⟨cr,hcr⟩:∃ c,c=zK r:=⟨_,rfl⟩
 rw [← hcr] at hR1 hb1 hk4
 rw [← hcr]
 have HCR:=Lib.hid hcr
 obtain ⟨w0,hw0⟩:∃ x,x=(w.alloc (.cells cr.toArray 47)).alloc (.cells #[.int .i64 0,.slice none 0 0] 43):=⟨_,rfl⟩
 obtain ⟨p3,hp3⟩:∃ p,p=w.heap.size:=⟨_,rfl⟩
 obtain ⟨p4,hp4⟩:∃ p,p=w.heap.size+1:=⟨_,rfl⟩
 have HW:=Lib.hid (And.intro hw0 (And.intro hp3 hp4))
 rw [← hw0,← hp3] at hR1
 rw [← hw0] at hb1
 rw [← hw0,← hp4] at hk4
 have H:=Lib.hid (And.intro h (And.intro hB (And.intro hr (And.intro hl (And.intro hd hn)))))
 have hx4:zT w0 C (fun b=>X b∨b=p4) pb s:=h.growX (fun b hb=>.inl hb) (fun b hb=>hb.imp id (fun e=>by rw [e,hp4];omega)) hb1 (fun b hb=>by rcases hb with hb | hb;exact Nat.lt_of_lt_of_le (h.lt (.inr hb)) hb1.size;rw [hb];exact hk4.lt)
 have H0:=Lib.hid (And.intro hR1 (And.intro hb1 (And.intro hk4 hx4)))
 have HT:=Lib.hid (And.intro hts (And.intro htw (And.intro htrow (And.intro htn2 (And.intro hvt ho)))))
 have c33:=hR1.ends
 have c51:=hR1.blobs
 rw [hvb] at c51
 clear h hB hr hl hd hn hcr hw0 hp3 hp4 hR hR1 hb0 hb1 hk4 hx4 hts htw htrow htn2 hvt ho
 go_enter Tryz.func94,Tryz.ntmps94
 go_upto_region 1 with fail
 rw [← HW.out.1,← HW.out.2.2,← HW.out.2.1]
 have HVB:=Lib.hid hvb
 clear hvb
 have hln:l≠[]↔n≠0:=by
  have:=H.out.2.2.2.2.2
  constructor
  · intro h e
    exact h (List.eq_nil_of_length_eq_zero (by omega))
  · intro h e
    rw [e] at this
    exact h this
 have HLN:=Lib.hid hln
 clear hln
 by_cases h1:n=0
 · subst h1
   have HF:Hid (zAs s r l ts o 2 s):=zAs.form (by rintro ⟨e,_⟩;exact HLN.out.1 e rfl)
   go_wp2_with fail
   refine (zU 2 w0).mono ?_
   rintro e wf ⟨rfl,hbf⟩
   have k4f:=H0.out.2.2.1.kept hbf
   have f40:=k4f.free 0
   have f41:=k4f.free 1
   have c40:wf.cell? ⟨p4,0,none⟩=some (.int .i64 0):=k4f.cell 0
   have c41:wf.cell? ⟨p4,1,none⟩=some (.slice none 0 0):=k4f.cell 1
   have l4f:=k4f.lt
   have HBF:=Lib.hid hbf
   clear hbf k4f
   go_wp2_with fail
   have hE:=zh (x:=.int .i64 2) (y:=.slice none 0 0) ((H0.out.2.2.2).below HBF.out) ((zAS.of_below H0.out.2.1).post HBF.out) (by rw [HW.out.2.2];omega)
   exact bodyPost_ret (v:=.agg #[.int .i64 2,.slice none 0 0]) (by simp [results,Tryz.results94,go_sem,c40,c41]) rfl ⟨C,2,s,rfl,HF.out,hE.1,hE.2⟩
 · have d1:((n:Int) == 0)=false:=by simp;omega
   have d1':(n == 0)=false:=by simp;omega
   have hblobs:=zF2 _ r.vb l w0 (H.out.2.2.2.1.below H0.out.2.1)
   rw [HVB.out] at hblobs
   replace h1:=Lib.hid h1
   go_wp2_with fail
   refine hblobs.mono ?_
   rintro e w1 ⟨bb,rfl,hbb,hb1⟩
   clear hblobs
   have hw01:=H0.out.2.1.trans (hb1.mono H0.out.2.1.size)
   have hR1:=H0.out.1.below hb1
   have c33:=hR1.ends
   have c51:=hR1.blobs
   rw [HVB.out] at c51
   have H1:=Lib.hid (And.intro hbb (And.intro hb1 (And.intro (H0.out.2.2.1.kept hb1) (And.intro hw01 (And.intro hR1 (H0.out.2.2.2.below hb1))))))
   clear hbb hb1 hw01 hR1
   cases bb with
   | false =>
     have HF:Hid (zAs s r l ts o 2 s):=zAs.form (fun h=>Bool.noConfusion (H1.out.1.2 h.2.1))
     go_wp2_with fail
     refine (zU 2 w1).mono ?_
     rintro e wf ⟨rfl,hbf⟩
     have k4f:=H1.out.2.2.1.kept hbf
     have f40:=k4f.free 0
     have f41:=k4f.free 1
     have c40:wf.cell? ⟨p4,0,none⟩=some (.int .i64 0):=k4f.cell 0
     have c41:wf.cell? ⟨p4,1,none⟩=some (.slice none 0 0):=k4f.cell 1
     have l4f:=k4f.lt
     have HBF:=Lib.hid hbf
     clear hbf k4f
     go_wp2_with fail
     have hE:=zh (x:=.int .i64 2) (y:=.slice none 0 0) ((H1.out.2.2.2.2.2).below HBF.out) ((zAS.of_below H1.out.2.2.2.1).post HBF.out) (by rw [HW.out.2.2];omega)
     exact bodyPost_ret (v:=.agg #[.int .i64 2,.slice none 0 0]) (by simp [results,Tryz.results94,go_sem,c40,c41]) rfl ⟨C,2,s,rfl,HF.out,hE.1,hE.2⟩
   | true =>
     go_wp2_with fail
     refine (zDk r.ends w1).mono ?_
     rintro e wt ⟨rfl,rfl⟩
     by_cases hmay:May r.ends
     rotate_left
     · have HF:Hid (zAs s r l ts o 2 s):=zAs.form (fun h=>hmay h.2.2)
       have dm:decide (May r.ends)=false:=by simpa using hmay
       replace hmay:=Lib.hid hmay
       go_wp2_with fail
       refine (zU 2 w1).mono ?_
       rintro e wf ⟨rfl,hbf⟩
       have k4f:=H1.out.2.2.1.kept hbf
       have f40:=k4f.free 0
       have f41:=k4f.free 1
       have c40:wf.cell? ⟨p4,0,none⟩=some (.int .i64 0):=k4f.cell 0
       have c41:wf.cell? ⟨p4,1,none⟩=some (.slice none 0 0):=k4f.cell 1
       have l4f:=k4f.lt
       have HBF:=Lib.hid hbf
       clear hbf k4f
       go_wp2_with fail
       have hE:=zh (x:=.int .i64 2) (y:=.slice none 0 0) ((H1.out.2.2.2.2.2).below HBF.out) ((zAS.of_below H1.out.2.2.2.1).post HBF.out) (by rw [HW.out.2.2];omega)
       exact bodyPost_ret (v:=.agg #[.int .i64 2,.slice none 0 0]) (by simp [results,Tryz.results94,go_sem,c40,c41]) rfl ⟨C,2,s,rfl,HF.out,hE.1,hE.2⟩
     · have dm:decide (May r.ends)=true:=by simpa using hmay
       have HOK:Hid (l≠[]∧zAY l∧May r.ends):=⟨HLN.out.2 h1.out,H1.out.1.1 (by first | rfl | trivial),hmay⟩
       have rk:=H1.out.2.2.2.2.1.rix
       have gk:=H1.out.2.2.2.2.1.hix
       obtain ⟨ki,hki⟩:∃ c,c=bV r.ix:=⟨_,rfl⟩
       rw [← hki] at rk
       have HKI:=Lib.hid hki
       clear hmay hki
       go_wp2_with fail
       refine (show Calls _ _ _ _ _ from (by rw [HKI.out];exact zCL C _ pb s r.ix H.out.2.2.1.ix o w1 H1.out.2.2.2.2.2 HT.out.2.2.2.2.2)).mono ?_
       rintro e w2 ⟨u,rfl,hu,hb2⟩
       obtain ⟨ua,uc,rfl,_⟩:=hu.slice
       have hck:=zEN HT.out.2.2.2.2.2
       obtain ⟨kc,hkc⟩:∃ c,c=bV (zBf o):=⟨_,rfl⟩
       obtain ⟨ln,hln⟩:∃ q,q=(zAy o).length:=⟨_,rfl⟩
       rw [← hkc,← hln]
       obtain ⟨is,his⟩:∃ b,b=o.isSome:=⟨_,rfl⟩
       rw [← his]
       have hka:zAQ 16 kc:=⟨by rw [hkc,zB];exact hck,fun v hv=>by rw [hkc] at hv;exact zAH _ v hv⟩
       have hca:zAQ 18 (zW is kc (.slice ua ln uc)):=⟨zAO is hka.1 _,zBg _ hka.2 _ rfl⟩
       have hbl0:zAW w2 (fun _=>False) (.slice ua ln uc) (zAy o):=by rw [hln];exact (hu.at (fun b h1 _ h2=>by omega)).mono (fun _ h=>h.elim)
       have hkk:=fun (j:Nat) (hj:j < 16)=>zEO is kc (.slice ua ln uc) (i:=j) (by rw [hka.1];exact hj)
       obtain ⟨cc,hcc⟩:∃ c,c=zW is kc (.slice ua ln uc):=⟨_,rfl⟩
       have hc0:cc[0]?=some (.bool is):=by rw [hcc];exact zGV _ _ _
       rw [← hcc] at hca hkk ⊢
       have HC:=Lib.hid (And.intro hkc (And.intro his (And.intro hcc (And.intro hln hck))))
       have hw2:=H1.out.2.2.2.1.trans (hb2.mono H1.out.2.2.2.1.size)
       have H2:=Lib.hid (And.intro hbl0 (And.intro hw2 (And.intro (H1.out.2.2.2.2.1.below hb2) (And.intro (H1.out.2.2.1.kept hb2) (H1.out.2.2.2.2.2.below hb2)))))
       clear hu hck hkc hln his hcc hbl0 hw2 hb2 rk gk c33 c51
       go_upto_region 4 with fail
       have hk5:Blk (w2.alloc (.cells cc.toArray 205)) w2.heap.size cc.toArray 205:=Blk.new _ _ _
       have hbA:Below w2.heap.size w2 (w2.alloc (.cells cc.toArray 205)):=(Below.refl _ _).alloc (Nat.le_refl _) _
       obtain ⟨w3,hw3⟩:∃ x,x=w2.alloc (.cells cc.toArray 205):=⟨_,rfl⟩
       obtain ⟨p5,hp5⟩:∃ x,x=w2.heap.size:=⟨_,rfl⟩
       rw [← hw3] at hk5 hbA ⊢
       rw [← hp5] at hk5 ⊢
       have c50:w3.cell? ⟨p5,0,none⟩=some (.bool is):=by rw [hk5.cell 0];simpa using hc0
       have hR3:=H2.out.2.2.1.below hbA
       have H3:=Lib.hid (And.intro hk5 (And.intro (H2.out.2.1.trans (hbA.mono H2.out.2.1.size)) (And.intro hR3 (And.intro (H2.out.2.2.2.1.kept hbA) (And.intro (H2.out.2.2.2.2.below hbA) (H2.out.1.below hbA))))))
       have q5:zY 16 w3 p5 1:=zL hk5 (by simp [hca.1])
       have r5:zN 16 w3 p5 1=kc:=zCE hk5 hka.1 (fun j hj=>by rw [List.getElem?_toArray,Nat.add_comm];exact hkk j hj)
       have q3:=hR3.hen
       have r3:=hR3.ren
       obtain ⟨ke,hke⟩:∃ c,c=bV r.en:=⟨_,rfl⟩
       rw [← hke] at r3
       have heq:=fun w'=>zGr (zBf o) r.en HC.out.2.2.2.2 H.out.2.2.1.en w'
       rw [← hke,← HC.out.1] at heq
       have HKE:=Lib.hid hke
       clear hk5 hbA hw3 hp5 hR3 hke
       obtain ⟨bad,hbad⟩:∃ b,b=(is && !decide (zBf o=r.en)):=⟨_,rfl⟩
       have HBAD:=Lib.hid hbad
       clear hbad
       go_cut [40] (fun v wx=>v=.bool bad∧w3=wx)
       case first =>
        cases is with
        | false =>
          have hb:bad=false:=HBAD.out
          subst hb
          go_wp2_with fail
          go_meet
          exact ⟨rfl,rfl⟩
        | true =>
          by_cases e:zBf o=r.en
          · have de:decide (zBf o=r.en)=true:=by simpa using e
            have hb:bad=false:=by rw [HBAD.out,de];rfl
            subst hb
            replace e:=Lib.hid e
            go_wp2_with fail
            go_meet
            exact ⟨by simp,rfl⟩
          · have de:decide (zBf o=r.en)=false:=by simpa using e
            have hb:bad=true:=by rw [HBAD.out,de];rfl
            subst hb
            replace e:=Lib.hid e
            go_wp2_with fail
            go_meet
            exact ⟨by simp,rfl⟩
       case rest =>
       obtain ⟨rfl,rfl⟩:=hcut
       clear q5 r5 q3 r3 heq
       cases bad with
       | true =>
         have HF:Hid (zAs s r l ts o 7 s):=by
          have hb:=HBAD.out
          rw [HC.out.2.1] at hb
          have h2:o.isSome=true∧¬ zBf o=r.en:=by simpa using hb.symm
          exact zAs.enable HOK.out h2.1 h2.2
         go_wp2_with fail
         refine (zU 7 w3).mono ?_
         rintro e wf ⟨rfl,hbf⟩
         have k4f:=H3.out.2.2.2.1.kept hbf
         have f40:=k4f.free 0
         have f41:=k4f.free 1
         have c40:wf.cell? ⟨p4,0,none⟩=some (.int .i64 0):=k4f.cell 0
         have c41:wf.cell? ⟨p4,1,none⟩=some (.slice none 0 0):=k4f.cell 1
         have l4f:=k4f.lt
         have HBF:=Lib.hid hbf
         clear hbf k4f
         go_wp2_with fail
         have hE:=zh (x:=.int .i64 7) (y:=.slice none 0 0) ((H3.out.2.2.2.2.1).below HBF.out) ((zAS.of_below H3.out.2.1).post HBF.out) (by rw [HW.out.2.2];omega)
         exact bodyPost_ret (v:=.agg #[.int .i64 7,.slice none 0 0]) (by simp [results,Tryz.results94,go_sem,c40,c41]) rfl ⟨C,7,s,rfl,HF.out,hE.1,hE.2⟩
       | false =>
         have hen:o.isSome=true→zBf o=r.en:=fun h=>by
          have hb:=HBAD.out
          rw [HC.out.2.1,h] at hb
          simpa using hb.symm
         have HEN:=Lib.hid hen
         have c350:=H3.out.2.2.1.tests
         rw [HT.out.2.2.2.2.1] at c350
         clear hen
         go_upto_region 7 with fail
         go_loopw [45] (fun vi wr=>∃ i:Nat,i≤tn∧vi=.int .i64 i∧Hid ((∀ q t,q < i→ts[q]?=some t→zBr (zAy o) t=true)∧Below w3.heap.size w3 wr)) (fun vi _=>tn - (intOf vi).toNat)
         case atStart=>exact ⟨0,Nat.zero_le _,rfl,(fun q t h=>by omega),Below.refl _ _⟩
         case round =>
          obtain ⟨i,hi0,rfl,G⟩:=hrel
          by_cases hin:i < tn
          · obtain ⟨b,off,rfl,hb,_,hcells⟩:=HT.out.2.2.1 (by omega)
            have hx:ts[i]?=some (ts[i]'(by have:=HT.out.2.2.2.1;omega)):=by simp
            generalize ts[i]'(by have:=HT.out.2.2.2.1;omega)=x at hx
            have hxw:=HT.out.2.1 x (List.mem_of_getElem? hx)
            have hbwr:Below w.heap.size w wr:=H3.out.2.1.trans (G.out.2.mono H3.out.2.1.size)
            have hrng:wr.rangeAt b (off+i*34) (zDv x):=fun j u hu=>by
             rw [hbwr.cell (p:=⟨b,off+i*34+j,none⟩) hb];exact hcells i x hx j u hu
            have hta:=allT hxw
            obtain ⟨ct,hct⟩:∃ c,c=zDv x:=⟨_,rfl⟩
            rw [← hct] at hrng hta
            have s34:zBp 34 wr b (off+i*34):=zFY hrng hta.1
            have r34:zN 34 wr b (off+i*34)=ct:=zA3 hrng hta.1
            have i0:(0:Int)≤(i:Int):=by omega
            have i1:(i:Int) < (tn:Int):=by omega
            have htl:=hta.1
            have HX:=Lib.hid (And.intro hx (And.intro hxw (And.intro hct hbwr)))
            clear hx hxw hbwr hrng hct hcells
            go_upto_region 9 with fail
            have hk7:Blk (wr.alloc (.cells ct.toArray 66)) wr.heap.size ct.toArray 66:=Blk.new _ _ _
            have hbB:Below wr.heap.size wr (wr.alloc (.cells ct.toArray 66)):=(Below.refl _ _).alloc (Nat.le_refl _) _
            obtain ⟨wb,hwb⟩:∃ x,x=wr.alloc (.cells ct.toArray 66):=⟨_,rfl⟩
            obtain ⟨p7,hp7⟩:∃ x,x=wr.heap.size:=⟨_,rfl⟩
            rw [← hwb] at hk7 hbB ⊢
            rw [← hp7] at hk7 ⊢
            have hb3:=G.out.2.trans (hbB.mono G.out.2.size)
            have hk5b:=H3.out.1.kept hb3
            have q7:zBp 34 wb p7 0:=(zL (n:=34) (o:=0) hk7 (by simp [hta.1])).some
            have r7:zN 34 wb p7 0=ct:=zP hk7 hta.1
            have q5:zY 18 wb p5 0:=zL hk5b (by simp [hca.1])
            have r5:zN 18 wb p5 0=cc:=zP hk5b hca.1
            have HB:=Lib.hid hb3
            clear hk7 hbB hwb hp7 hb3 hk5b s34 r34
            go_wp2_with fail
            have hlen:∀ y∈zAy o,y.2.length≤1000000:=fun y hy=>by
             have:=zJB HT.out.2.2.2.2.2 y hy
             omega
            refine (show Calls _ _ _ _ _ from (by rw [HX.out.2.2.1,HC.out.2.2.1];exact zJX wb is kc (.slice ua ln uc) (zAy o) x hka (H3.out.2.2.2.2.2.below HB.out) HX.out.2.1 hlen)).mono ?_
            rintro e w4 ⟨rfl,hb4⟩
            obtain ⟨hb,hhb⟩:∃ b,b=zBr (zAy o) x:=⟨_,rfl⟩
            rw [← hhb]
            have HH:=Lib.hid (And.intro hhb (HB.out.trans (hb4.mono HB.out.size)))
            clear hhb hb4 hlen q7 r7 q5 r5
            cases hb with
            | false =>
              have HF:Hid (zAs s r l ts o 6 s):=zAs.test HOK.out HEN.out ⟨x,List.mem_of_getElem? HX.out.1,HH.out.1.symm⟩
              go_wp2_with fail
              refine (zU 6 w4).mono ?_
              rintro e wf ⟨rfl,hbf⟩
              have k4f:=(H3.out.2.2.2.1.kept HH.out.2).kept hbf
              have f40:=k4f.free 0
              have f41:=k4f.free 1
              have c40:wf.cell? ⟨p4,0,none⟩=some (.int .i64 0):=k4f.cell 0
              have c41:wf.cell? ⟨p4,1,none⟩=some (.slice none 0 0):=k4f.cell 1
              have l4f:=k4f.lt
              have HBF:=Lib.hid hbf
              clear hbf k4f
              go_wp2_with fail
              have hE:=zh (x:=.int .i64 6) (y:=.slice none 0 0) ((H3.out.2.2.2.2.1.below HH.out.2).below HBF.out) ((zAS.of_below (H3.out.2.1.trans (HH.out.2.mono H3.out.2.1.size))).post HBF.out) (by rw [HW.out.2.2];omega)
              exact bodyPost_ret (v:=.agg #[.int .i64 6,.slice none 0 0]) (by simp [results,Tryz.results94,go_sem,c40,c41]) rfl ⟨C,6,s,rfl,HF.out,hE.1,hE.2⟩
            | true =>
              go_wp2_with fail
              exact ⟨⟨i+1,by omega,by simp,fun q t hq ht=>by
               rcases Nat.lt_or_ge q i with h | h
               · exact G.out.1 q t h ht
               · have:q=i:=by omega
                 subst this
                 rw [HX.out.1] at ht
                 cases ht
                 exact HH.out.1.symm,HH.out.2⟩,by show tn - ((i:Int)+1).toNat < tn - (i:Int).toNat;omega⟩
          · obtain rfl:i=tn:=by omega
            have hall:∀ t∈ts,zBr (zAy o) t=true:=fun t ht=>by
             obtain ⟨q,hq⟩:=List.getElem?_of_mem ht
             exact G.out.1 q t (by have:=zq hq;have:=HT.out.2.2.2.1;omega) hq
            obtain ⟨w5,hw5⟩:∃ x,x=wr:=⟨_,rfl⟩
            have G2:=Lib.hid G.out.2
            rw [← hw5] at G2 ⊢
            have HALL:=Lib.hid hall
            clear hall G hw5 hi0
            have hk5b:=H3.out.1.kept G2.out
            have hR5:=H3.out.2.2.1.below G2.out
            have q5:zY 18 w5 p5 0:=zL hk5b (by simp [hca.1])
            have r5:zN 18 w5 p5 0=cc:=zP hk5b hca.1
            have q3:=hR5.hen
            have r3:=hR5.ren
            rw [← HKE.out] at r3
            have c351:=hR5.blobs
            rw [HVB.out] at c351
            have hw:=H3.out.2.1.trans (G2.out.mono H3.out.2.1.size)
            have hwith:=zLT (fun b=>C b∨X b) w5 is (zBf o) (.slice ua ln uc) r.vb (zAy o) l r.en HC.out.2.2.2.2 H.out.2.2.1.en (H3.out.2.2.2.2.2.below G2.out) (H.out.2.2.2.1.below hw) (by have:=H.out.2.2.2.2.2;have:=h1.out;omega) (zJo HOK.out.2.1) (zFH HT.out.2.2.2.2.2).2
            rw [← HC.out.1,← HC.out.2.2.1,← HKE.out,HVB.out] at hwith
            have H5:=Lib.hid (And.intro hk5b (And.intro hR5 (And.intro hw hwith)))
            clear hk5b hR5 hw hwith
            go_wp2_with fail
            refine H5.out.2.2.2.mono ?_
            rintro e w6 ⟨u6,l6,rfl,hbl6,hp6,hs6,hb6⟩
            have hek:(if is=true then zBf o else r.en)=zCN r o:=by unfold zCN;rw [HC.out.2.1]
            rw [hek]
            have hekl:(zCN r o).length=16:=by
             unfold zCN
             split
             · exact HC.out.2.2.2.2
             · exact H.out.2.2.1.en
            have hl6:l6.length≤32:=by
             have h1:=zFx (zAy o) l
             have h2:=zJo HOK.out.2.1
             have h3:=(zFH HT.out.2.2.2.2.2).2
             rw [hp6.length_eq];omega
            have hok6:zDy l6:=by
             have h1:=(zFH HT.out.2.2.2.2.2).1
             refine ⟨fun x hx=>?_,fun x hx=>?_⟩
             · rcases zCd (hp6.mem_iff.1 hx) with h | h
               · exact HOK.out.2.1.1 x h
               · exact h1.num x h
             · rcases zCd (hp6.mem_iff.1 hx) with h | h
               · exact H.out.2.2.2.2.1 x h
               · exact h1.len x h
            have hw6:=H5.out.2.2.1.trans (hb6.mono H5.out.2.2.1.size)
            have hcb:=zGN w6 true (zCN r o) u6 l6 hekl hbl6 ((H.out.1.below hw6).tab) hl6 hok6
            have hcbl:=zFi (zCN r o) hekl l6 hok6
            have H6:=Lib.hid (And.intro hp6 (And.intro hs6 (And.intro hb6 (And.intro hcb hcbl))))
            clear hbl6 hp6 hs6 hb6 hek hekl hok6 hw6 hcb hcbl q5 r5 q3 r3 c351
            go_wp2_with fail
            refine H6.out.2.2.2.1.mono ?_
            rintro e w7 ⟨v7,rfl,ho7,hb7⟩
            obtain ⟨a7,c7,rfl⟩:=ho7.eq_slice
            obtain ⟨n7,hn7⟩:∃ q,q=(zAA (zCN r o) l6).length:=⟨_,rfl⟩
            rw [← hn7]
            have HN7:=Lib.hid hn7
            have hb67:=hb7
            have hw7:=(H5.out.2.2.1.trans (H6.out.2.2.1.mono H5.out.2.2.1.size)).trans (hb7.mono (Nat.le_trans H5.out.2.2.1.size H6.out.2.2.1.size))
            have hb57:=H6.out.2.2.1.trans (hb7.mono H6.out.2.2.1.size)
            have hb37:=G2.out.trans (hb57.mono G2.out.size)
            have hR7:=H5.out.2.1.below hb57
            have hk57:=H5.out.1.kept hb57
            have hS7:=H3.out.2.2.2.2.1.below hb37
            have hk47:=H3.out.2.2.2.1.kept hb37
            obtain ⟨cr2,hcr2⟩:∃ c,c=zK r:=⟨_,rfl⟩
            have hcl:cr2.length=52:=by rw [hcr2];exact zAP H.out.2.2.1
            have hrr:∀ w',Below w7.heap.size w7 w'→w'.rangeAt p3 0 cr2:=fun w' hb=>by
             have:=zAB (hR7.below hb).hall
             rw [(hR7.below hb).rall,← hcr2] at this
             exact this
            have hri:∀ w',Below w7.heap.size w7 w'→w'.rangeAt p3 1 ki:=fun w' hb=>by
             have:=zAB (hR7.below hb).hix
             rw [(hR7.below hb).rix,← HKI.out] at this
             exact this
            have h50:∀ w',Below w7.heap.size w7 w'→w'.cell? ⟨p5,0,none⟩=some (.bool is):=fun w' hb=>by
             rw [(hk57.kept hb).cell 0];simpa using hc0
            have hki:ki.length=16:=by rw [HKI.out,zB];exact H.out.2.2.1.ix
            have hslot:∀ w',w'=w7.drew→Calls Tryz.prog 108 #[.agg ki.toArray] w' fun e w''=>∃ v',e=.returned v'∧(v'=.string (zw r.ix)∧Below w7.heap.size w7 w''):=fun w' e=>by
             subst e
             rw [HKI.out]
             refine (zDh r.ix H.out.2.2.1.ix w7.drew).mono ?_
             rintro e w'' ⟨rfl,hb⟩
             exact ⟨_,rfl,rfl,zBO hb rfl⟩
            have H7:=Lib.hid (And.intro ho7 (And.intro hw7 (And.intro hR7 (And.intro hk57 (And.intro hS7 (And.intro hk47 (And.intro hcr2 hb57)))))))
            clear ho7 hb7 hn7 hw7 hb57 hb37 hR7 hk57 hS7 hk47 hcr2 hb67
            obtain ⟨nm,hnm⟩:∃ x,x=zw r.ix:=⟨_,rfl⟩
            have HNM:=Lib.hid hnm
            rw [← hnm] at hslot
            clear hnm
            go_upto_region 13 with fail
            refine Tail.zAa 8 4 (fun w'=>w'=w7.drew) (fun vo w'=>vo=.string nm∧Below w7.heap.size w7 w') (by kernel_rfl) (by kernel_rfl) (by decide) rfl ?_ (fun z hz=>?_)
            · obtain ⟨e,w',fr,⟨vo,rfl,h⟩,_⟩:=hslot w7.drew rfl []
              exact ⟨vo,w',h⟩
            simp only [List.take_succ_cons,List.take_zero,List.drop_succ_cons,List.drop_zero]
            obtain rfl:z=.string nm:=by
             obtain ⟨_,h,_⟩:=hz
             exact h
            clear hz
            iterate 1
             refine Tail.zBq (by decide) (by rfl) ?_
             apply Exists.intro
             refine ⟨fun w=>?_,?_⟩
             · go_simp <;> with_reducible rfl
             simp only [Act.put,List.setIfInBounds_toArray,List.set_cons_zero,List.set_cons_succ]
            refine Tail.zDG (by decide) (by rfl) _ _ rfl p3 0 rfl cr2 (fun w h=>by rw [h];exact hrr w7.drew (Below.refl _ _).drew) (fun w h=>hrr w h.2) Tryz.underlying47 rfl (by rw [i52,hcl]) ?_
            simp only [Act.put,List.setIfInBounds_toArray,List.set_cons_zero,List.set_cons_succ]
            iterate 1
             refine Tail.zBq (by decide) (by rfl) ?_
             apply Exists.intro
             refine ⟨fun w=>?_,?_⟩
             · go_simp <;> with_reducible rfl
             simp only [Act.put,List.setIfInBounds_toArray,List.set_cons_zero,List.set_cons_succ]
            refine Tail.zDG (by decide) (by rfl) _ _ rfl p3 1 rfl ki (fun w h=>by rw [h];exact hri w7.drew (Below.refl _ _).drew) (fun w h=>hri w h.2) Tryz.underlying39 rfl (by rw [i16,hki]) ?_
            simp only [Act.put,List.setIfInBounds_toArray,List.set_cons_zero,List.set_cons_succ]
            refine Tail.zDF (by rfl) (fun w hw=>?_) ?_
            · apply Exists.intro
              apply Exists.intro
              refine ⟨?_,hslot w hw⟩
              go_simp <;> with_reducible rfl
            simp only [Act.put,List.setIfInBounds_toArray,List.set_cons_zero,List.set_cons_succ]
            iterate 2
             refine Tail.zBq (by decide) (by rfl) ?_
             apply Exists.intro
             refine ⟨fun w=>?_,?_⟩
             · go_simp <;> with_reducible rfl
             simp only [Act.put,List.setIfInBounds_toArray,List.set_cons_zero,List.set_cons_succ]
            refine Tail.zGe (by decide) (.bool is) (by rfl) (fun w h=>?_) (fun w h=>?_) ?_
            · subst h
              have hc:=h50 w7 (Below.refl _ _)
              go_simp <;> with_reducible rfl
            · have hc:=h50 w h.2
              go_simp <;> with_reducible rfl
            simp only [Act.put,List.setIfInBounds_toArray,List.set_cons_zero,List.set_cons_succ]
            intro w8 hw8
            have hb78:=hw8.2
            have hw08:=H7.out.2.1.trans (hb78.mono H7.out.2.1.size)
            have hnmz:(zw r.ix).size≤1000000:=by
             have:(zw r.ix).size=17:=by
              show (99::r.ix).toArray.size=17
              simp [H.out.2.2.1.ix]
             omega
            have hask:=zGg C _ pb s r H.out.2.2.1 (zw r.ix) (.slice a7 n7 c7) (zAA (zCN r o) l6) is w8 (H7.out.2.2.2.2.1.below hb78) H.out.2.1 (HN7.out ▸ (H7.out.1.below hb78).bys) hnmz
            rw [← H7.out.2.2.2.2.2.2.1,← HNM.out] at hask
            have H8:=Lib.hid (And.intro hb78 (And.intro hw08 (And.intro hnmz hask)))
            clear hw8 hb78 hw08  hask hrr hri h50 hslot
            go_wp2_with fail
            refine H8.out.2.2.2.mono ?_
            rintro e w9 ⟨err,rfl,hask,hb9⟩
            have hb79:=H8.out.1.trans (hb9.mono H8.out.1.size)
            have H9:=Lib.hid (And.intro hask (And.intro hb79 (H7.out.2.1.trans (hb79.mono H7.out.2.1.size))))
            clear hask hb9 hb79
            by_cases he:err=0
            rotate_left
            · have t0:(err != 0)=true:=by simpa using he
              have t0':(err == 0)=false:=by simpa using he
              have HF:Hid (zAs s r l ts o err s):=zAs.no HOK.out HEN.out HALL.out l6 H6.out.1 H6.out.2.1 err (by have:=H9.out.1;rw [HNM.out,HC.out.2.1] at this;exact this) he
              replace he:=Lib.hid he
              go_wp2_with fail
              refine (zU err w9).mono ?_
              rintro e wf ⟨rfl,hbf⟩
              have k4f:=(H7.out.2.2.2.2.2.1.kept H9.out.2.1).kept hbf
              have f40:=k4f.free 0
              have f41:=k4f.free 1
              have c40:wf.cell? ⟨p4,0,none⟩=some (.int .i64 0):=k4f.cell 0
              have c41:wf.cell? ⟨p4,1,none⟩=some (.slice none 0 0):=k4f.cell 1
              have l4f:=k4f.lt
              have HBF:=Lib.hid hbf
              clear hbf k4f
              go_wp2_with fail
              have hE:=zh (x:=.int .i64 err) (y:=.slice none 0 0) ((H7.out.2.2.2.2.1.below H9.out.2.1).below HBF.out) ((zAS.of_below H9.out.2.2).post HBF.out) (by rw [HW.out.2.2];omega)
              exact bodyPost_ret (v:=.agg #[.int .i64 err,.slice none 0 0]) (by simp [results,Tryz.results94,go_sem,c40,c41]) rfl ⟨C,err,s,rfl,HF.out,hE.1,hE.2⟩
            · subst he
              obtain ⟨sb,lb,d,L,tb,v,hA⟩:=H7.out.2.2.2.2.1.below H9.out.2.1
              have hhi:∀ w',Below w9.heap.size w9 w'→w'.rangeAt p3 1 ki:=fun w' hb=>by
               have hR9:=(H7.out.2.2.1.below H9.out.2.1).below hb
               have:=zAB hR9.hix
               rw [hR9.rix,← HKI.out] at this
               exact this
              have h30:∀ w',Below w9.heap.size w9 w'→w'.cell? ⟨pb,3,none⟩=some (.pointer (some ⟨sb,0,none⟩)):=fun w' hb=>(hA.below hb).blk.cell 3
              have hslot:∀ w',w'=w9.drew→Calls Tryz.prog 108 #[.agg ki.toArray] w' fun e w''=>∃ v',e=.returned v'∧(v'=.string nm∧Below w9.heap.size w9 w''):=fun w' e=>by
               subst e
               rw [HKI.out,HNM.out]
               refine (zDh r.ix H.out.2.2.1.ix w9.drew).mono ?_
               rintro e w'' ⟨rfl,hb⟩
               exact ⟨_,rfl,rfl,zBO hb rfl⟩
              have HA:=Lib.hid hA
              clear hA
              go_upto_region 16 with fail
              refine Tail.zAa 8 6 (fun w'=>w'=w9.drew) (fun vo w'=>vo=.string nm∧Below w9.heap.size w9 w') (by kernel_rfl) (by kernel_rfl) (by decide) rfl ?_ (fun z hz=>?_)
              · obtain ⟨e,w',fr,⟨vo,rfl,h⟩,_⟩:=hslot w9.drew rfl []
                exact ⟨vo,w',h⟩
              simp only [List.take_succ_cons,List.take_zero,List.drop_succ_cons,List.drop_zero]
              obtain rfl:z=.string nm:=by
               obtain ⟨_,h,_⟩:=hz
               exact h
              clear hz
              iterate 3
               refine Tail.zBq (by decide) (by rfl) ?_
               apply Exists.intro
               refine ⟨fun w=>?_,?_⟩
               · go_simp <;> with_reducible rfl
               simp only [Act.put,List.setIfInBounds_toArray,List.set_cons_zero,List.set_cons_succ]
              refine Tail.zGe (by decide) (.pointer (some ⟨sb,0,none⟩)) (by rfl) (fun w h=>?_) (fun w h=>?_) ?_
              · subst h
                have hc:=h30 w9 (Below.refl _ _)
                go_simp <;> with_reducible rfl
              · have hc:=h30 w h.2
                go_simp <;> with_reducible rfl
              simp only [Act.put,List.setIfInBounds_toArray,List.set_cons_zero,List.set_cons_succ]
              iterate 1
               refine Tail.zBq (by decide) (by rfl) ?_
               apply Exists.intro
               refine ⟨fun w=>?_,?_⟩
               · go_simp <;> with_reducible rfl
               simp only [Act.put,List.setIfInBounds_toArray,List.set_cons_zero,List.set_cons_succ]
              refine Tail.zDG (by decide) (by rfl) _ _ rfl p3 1 rfl ki (fun w h=>by rw [h];exact hhi w9.drew (Below.refl _ _).drew) (fun w h=>hhi w h.2) Tryz.underlying39 rfl (by rw [i16,hki]) ?_
              simp only [Act.put,List.setIfInBounds_toArray,List.set_cons_zero,List.set_cons_succ]
              refine Tail.zDF (by rfl) (fun w hw=>?_) ?_
              · apply Exists.intro
                apply Exists.intro
                refine ⟨?_,hslot w hw⟩
                go_simp <;> with_reducible rfl
              simp only [Act.put,List.setIfInBounds_toArray,List.set_cons_zero,List.set_cons_succ]
              iterate 1
               refine Tail.zBq (by decide) (by rfl) ?_
               apply Exists.intro
               refine ⟨fun w=>?_,?_⟩
               · go_simp <;> with_reducible rfl
               simp only [Act.put,List.setIfInBounds_toArray,List.set_cons_zero,List.set_cons_succ]
              intro w10 hw10
              have hb90:=hw10.2
              have hb70:=H9.out.2.1.trans (hb90.mono H9.out.2.1.size)
              have hAt:=HA.out.below hb90
              have hby:=(H7.out.1.below hb70)
              have hgl:∀ b,C b→b < w.heap.size:=fun b hb=>H.out.1.lt (.inl hb)
              have hwz:w.heap.size≤w6.heap.size:=Nat.le_trans H5.out.2.2.1.size H6.out.2.2.1.size
              have hput:=zCu _ sb lb d L s.st (zw r.ix) (.slice a7 n7 c7) (zAA (zCN r o) l6) w10 hAt.st (HN7.out ▸ hby.bys) H8.out.2.2.1 (by have:=H6.out.2.2.2.2;have:l6.length*16420≤32*16420:=Nat.mul_le_mul_right _ hl6;omega) (fun w' hc=>HN7.out ▸ (hby.chg (S:=zBZ sb lb d L) hc (fun g hg hf=>by
               have h1:=hgl g (HA.out.foot g hf)
               have h2:=(hby.lt g hg).1
               omega)).bys) (by have:=hwr;omega)
              obtain ⟨z1,hz1⟩:∃ z,z=(zO s.st nm (zAA (zCN r o) l6)).1:=⟨_,rfl⟩
              obtain ⟨st1,hst1⟩:∃ z,z=(zO s.st nm (zAA (zCN r o) l6)).2:=⟨_,rfl⟩
              have HZ:=Lib.hid (And.intro hz1 hst1)
              rw [← HNM.out] at hput
              have H10:=Lib.hid (And.intro hb90 (And.intro hAt (And.intro hput (H7.out.2.1.trans (hb70.mono H7.out.2.1.size)))))
              clear hw10 hb90 hb70 hAt hby hput hz1 hst1 hslot hhi h30
              go_wp2_with fail
              refine H10.out.2.2.1.mono ?_
              rintro e w11 ⟨rfl,hst5,hc5⟩
              have hA5:=H10.out.2.1.store hc5 hst5
              have hp4C:¬ C p4:=fun hC=>by have:=hgl p4 hC;have:=HW.out.2.2;omega
              have hp3C:¬ C p3:=fun hC=>by have:=hgl p3 hC;have:=HW.out.2.1;omega
              rw [← HZ.out.2] at hA5
              rw [← HZ.out.1]
              have hcw:Chg C w w11:=(Chg.of_below H10.out.2.2.2).trans (hc5.mono HA.out.foot)
              have hb710:=H9.out.2.1.trans (H10.out.1.mono H9.out.2.1.size)
              have hk411:=hc5.blk (H7.out.2.2.2.2.2.1.kept hb710) (fun hf=>hp4C (HA.out.foot _ hf))
              have hR11:=(H7.out.2.2.1.below hb710).chg hc5 (fun hf=>hp3C (HA.out.foot _ hf))
              have H11:=Lib.hid (And.intro (show zT w11 C (fun b=>X b∨b=p4) pb { s with st:=st1 } from ⟨sb,lb,d,L,tb,v,hA5⟩) (And.intro hk411 (And.intro hR11 (And.intro hp4C (show zAS C C w w11 from ⟨hcw,fun b hb=>.inl hb⟩)))))
              clear hst5 hc5 hA5 hp4C hp3C hcw hb710 hk411 hR11
              by_cases hz0:z1=0
              rotate_left
              · have t0:(z1 != 0)=true:=by simpa using hz0
                have t0':(z1 == 0)=false:=by simpa using hz0
                have HF:Hid (zAs s r l ts o z1 { s with st:=st1 }):=by
                 show zAs s r l ts o z1 { s with st:=st1 }
                 rw [HZ.out.1,HZ.out.2,HNM.out]
                 exact zAs.torn HOK.out HEN.out HALL.out l6 H6.out.1 H6.out.2.1 (by have:=H9.out.1;rw [HNM.out,HC.out.2.1] at this;exact this) (by rw [← HNM.out,← HZ.out.1];exact hz0)
                replace hz0:=Lib.hid hz0
                go_wp2_with fail
                refine (zU z1 w11).mono ?_
                rintro e wf ⟨rfl,hbf⟩
                have k4f:=H11.out.2.1.kept hbf
                have f40:=k4f.free 0
                have f41:=k4f.free 1
                have c40:wf.cell? ⟨p4,0,none⟩=some (.int .i64 0):=k4f.cell 0
                have c41:wf.cell? ⟨p4,1,none⟩=some (.slice none 0 0):=k4f.cell 1
                have l4f:=k4f.lt
                have HBF:=Lib.hid hbf
                clear hbf k4f
                go_wp2_with fail
                have hE:=zh (x:=.int .i64 z1) (y:=.slice none 0 0) ((H11.out.1).below HBF.out) ((H11.out.2.2.2.2).post HBF.out) (by rw [HW.out.2.2];omega)
                exact bodyPost_ret (v:=.agg #[.int .i64 z1,.slice none 0 0]) (by simp [results,Tryz.results94,go_sem,c40,c41]) rfl ⟨C,z1,{ s with st:=st1 },rfl,HF.out,hE.1,hE.2⟩
              · have HZ0:=Lib.hid hz0
                subst hz0
                have r52:=H11.out.2.2.1.rall
                have g52:=H11.out.2.2.1.hall
                rw [← H7.out.2.2.2.2.2.2.1] at r52
                go_wp2_with fail
                refine (show Calls _ _ _ _ _ from (by rw [H7.out.2.2.2.2.2.2.1];exact zBw C _ pb { s with st:=st1 } r H.out.2.2.1 w11 H11.out.1 ⟨H.out.2.1.tab,by rw [HZ.out.2];have h1:=zE0 s.st nm (zAA (zCN r o) l6);have h2:=hwr;have h3:=HA.out.st.ok.room2;simp only;omega⟩)).mono ?_
                rintro e w12 ⟨C',err2,s',rfl,hadd,hs',hsc⟩
                have hk46:=hsc.1.blk H11.out.2.1 H11.out.2.2.2.1
                have HF:Hid (zAs s r l ts o err2 s'):=by
                 refine zAs.put HOK.out HEN.out HALL.out l6 H6.out.1 H6.out.2.1 err2 s' (by have:=H9.out.1;rw [HNM.out,HC.out.2.1] at this;exact this) (by rw [← HNM.out];exact HZ.out.1.symm) ?_
                 rw [← HNM.out,← HZ.out.2]
                 exact hadd
                have H12:=Lib.hid (And.intro hs' (And.intro (H11.out.2.2.2.2.trans hsc) hk46))
                clear hadd hs' hsc hk46 r52 g52
                go_wp2_with fail
                refine (zU err2 w12).mono ?_
                rintro e wf ⟨rfl,hbf⟩
                have k4f:=H12.out.2.2.kept hbf
                have f40:=k4f.free 0
                have f41:=k4f.free 1
                have c40:wf.cell? ⟨p4,0,none⟩=some (.int .i64 0):=k4f.cell 0
                have c41:wf.cell? ⟨p4,1,none⟩=some (.slice none 0 0):=k4f.cell 1
                have l4f:=k4f.lt
                have HBF:=Lib.hid hbf
                clear hbf k4f
                go_wp2_with fail
                have hE:=zh (x:=.int .i64 err2) (y:=.slice none 0 0) ((H12.out.1).below HBF.out) ((H12.out.2.1).post HBF.out) (by rw [HW.out.2.2];omega)
                exact bodyPost_ret (v:=.agg #[.int .i64 err2,.slice none 0 0]) (by simp [results,Tryz.results94,go_sem,c40,c41]) rfl ⟨C',err2,s',rfl,HF.out,hE.1,hE.2⟩
end Go.Proofs.YtbbojbdigiibbaaGreatDoor
end
section
namespace Go.Mem
open Go Go.RowKit Gf Lea Go.Proofs.YtbbojbdigiibbaaGreatDoor
inductive DoR (s:zG) (r:Req) (l:List zM) (ts:List Tst) (o:Option (Key × List zM)):Int→List zM→zG→Prop
 | dead (h:s.dead=true):DoR s r l ts o 8 [] s
 | form (h:s.dead=false) (hk:∀ k:Nat,zCz k=true→(k:Int)≠r.kind):DoR s r l ts o 2 [] s
 | get (h:s.dead=false) (hk:r.kind=1):DoR s r l ts o 0 (s.shares r.ix) s
 | put (h:s.dead=false) (hk:r.kind=2) (err:Int) (s':zG) (hp:zAx s r l err s'):DoR s r l ts o err [] s'
 | slot (h:s.dead=false) (hk:r.kind=3):DoR s r l ts o 0 (zAy o) s
 | swap (h:s.dead=false) (hk:r.kind=4) (err:Int) (s':zG) (hp:zAs s r l ts o err s'):DoR s r l ts o err [] s'
 | renew (h:s.dead=false) (hk:r.kind=5) (err:Int) (s':zG) (hp:zCK s r o err s'):DoR s r l ts o err [] s'
 | cancel (h:s.dead=false) (hk:r.kind=6) (err:Int) (s':zG) (hp:zDR s r.ix r.sec err s'):DoR s r l ts o err [] s'
end Go.Mem
namespace Go.Proofs.YtbbojbdigiibbaaGreatDoor
open Go Go.RowKit Go.Mem Gf Lea
set_option linter.unusedVariables false
section
variable {w0 w:World} {C:Nat→Prop} {pb:Nat} {s:zG}
theorem zAi.swap (h:zAi w0 w C pb s) (hd:s.dead=false) (hB:zCP s) (hw:s.st.disk.writes < 72057594037800000) {r:Req} (hr:r.Wf) (hk:r.kind=4) {l:List zM} (hl:zAW w C r.vb l) (hz:∀ x∈l,x.2.length≤16384) {ts:List Tst} (hts:zCv w C r.vt ts) {o:Option (Key × List zM)} (ho:zBS s r.ix o) :
  Calls Tryz.prog 20 #[.pointer (some ⟨pb,0,none⟩),.agg (zK r).toArray] w fun e w'=>∃ C' err s',e=.returned (.agg #[.int .i64 err,.slice none 0 0])∧zAs s r l ts o err s'∧zAi w0 w' C' pb s'∧zAS C C' w w':=by
 refine (zDU hr h.srv hd 4 rfl hk (zAs s r l ts o) fun w1 p4 hb h4 hs=>?_).mono ?_
 · have hm:∀ b,(C b∨(False∨b=p4))→C b∨w.heap.size≤b:=fun b hb'=>hb'.elim .inl (fun h'=>h'.elim (fun f=>f.elim) (fun e=>.inr (by rw [e];exact h4)))
   have hl1:zAW w1 (fun b=>C b∨(False∨b=p4)) r.vb l:=zAW.below (hl.mono hm) hb
   have ht1:zCv w1 (fun b=>C b∨(False∨b=p4)) r.vt ts:=zCv.below (hts.mono hm) hb
   exact zIq C _ pb s r l ts o hr w1 hs hB hw hl1 hz ht1 ho
 · rintro e w' ⟨C',err,s',rfl,hR,hs',hsc⟩
   exact ⟨C',err,s',rfl,hR,h.sch hs' hsc,hsc⟩
theorem zAi.any (h:zAi w0 w C pb s) (hB:zCP s) (hw:s.st.disk.writes < 72057594037800000) {r:Req} (hr:r.Wf) {l:List zM} (hl:zAW w C r.vb l) (hz:∀ x∈l,x.2.length≤16384) {ts:List Tst} (hts:zCv w C r.vt ts) {o:Option (Key × List zM)} (ho:s.dead=false→zBS s r.ix o) :
  Calls Tryz.prog 20 #[.pointer (some ⟨pb,0,none⟩),.agg (zK r).toArray] w fun e w'=>∃ C' err u lb s',e=.returned (.agg #[.int .i64 err,u])∧zAF 53 w' w.heap.size (fun b=>b < w.heap.size) u lb∧DoR s r l ts o err lb s'∧zAi w0 w' C' pb s'∧zAS C C' w w':=by
 cases hd:s.dead with
 | true =>
   refine (h.gone hd hr).mono ?_
   rintro e w' ⟨C',rfl,hL,hsc⟩
   exact ⟨C',8,_,[],s,rfl,zAF.nil _ _ _ _,.dead hd,hL,hsc⟩
 | false =>
   have ho:=ho hd
   by_cases hk:∃ k:Nat,zCz k=true∧(k:Int)=r.kind
   · obtain ⟨k,hk1,hk2⟩:=hk
     have hk3:1≤k∧k≤6:=by unfold zCz at hk1;simpa using hk1
     rcases (by omega:k=1∨k=2∨k=3∨k=4∨k=5∨k=6) with rfl | rfl | rfl | rfl | rfl | rfl
     · refine (h.get hd hB hr hk2.symm).mono ?_
       rintro e w' ⟨u,rfl,hO,hb⟩
       exact ⟨C,0,u,_,s,rfl,hO,.get hd hk2.symm,h.step hb,zAS.of_below hb⟩
     · refine (h.put hd hB hw hr hk2.symm hl (fun x hx=>by have:=hz x hx;omega)).mono ?_
       rintro e w' ⟨C',err,s',rfl,hR,hL,hsc⟩
       exact ⟨C',err,_,[],s',rfl,zAF.nil _ _ _ _,.put hd hk2.symm err s' hR,hL,hsc⟩
     · refine (h.slot hd hB hr hk2.symm ho).mono ?_
       rintro e w' ⟨u,rfl,hO,hb⟩
       exact ⟨C,0,u,_,s,rfl,hO,.slot hd hk2.symm,h.step hb,zAS.of_below hb⟩
     · refine (h.swap hd hB hw hr hk2.symm hl hz hts ho).mono ?_
       rintro e w' ⟨C',err,s',rfl,hR,hL,hsc⟩
       exact ⟨C',err,_,[],s',rfl,zAF.nil _ _ _ _,.swap hd hk2.symm err s' hR,hL,hsc⟩
     · refine (h.renew hd hB hr hk2.symm ho).mono ?_
       rintro e w' ⟨C',err,s',rfl,hR,hL,hsc⟩
       exact ⟨C',err,_,[],s',rfl,zAF.nil _ _ _ _,.renew hd hk2.symm err s' hR,hL,hsc⟩
     · refine (h.cancel hd hB hr hk2.symm).mono ?_
       rintro e w' ⟨C',err,s',rfl,hR,hL,hsc⟩
       exact ⟨C',err,_,[],s',rfl,zAF.nil _ _ _ _,.cancel hd hk2.symm err s' hR,hL,hsc⟩
   · have hk':∀ k:Nat,zCz k=true→(k:Int)≠r.kind:=fun k h1 h2=>hk ⟨k,h1,h2⟩
     refine (h.form hd hr hk').mono ?_
     rintro e w' ⟨C',rfl,hL,hsc⟩
     exact ⟨C',2,_,[],s,rfl,zAF.nil _ _ _ _,.form hd hk',hL,hsc⟩
end
end Go.Proofs.YtbbojbdigiibbaaGreatDoor
end
section
namespace Go.Mem
open Go Go.RowKit Gf Lea Go.Proofs.YtbbojbdigiibbaaGreatDoor
theorem zL8 {l:List zM} {num:Int} (h:zDI l num=none):num∉l.map (·.1):=by
 intro hm
 obtain ⟨x,hx,e⟩:=List.mem_map.1 hm
 unfold zDI at h
 rw [Option.map_eq_none_iff,List.find?_eq_none] at h
 exact h x hx (by simpa using e)
theorem zEJ:∀ (r out:List zM),(out.map (·.1)).Nodup→((zAo out r).map (·.1)).Nodup
 | [],_,h=>h
 | b::r,out,h=>by
   rw [zAo]
   split
   · rename_i hn
     refine zEJ r _ ?_
     rw [List.map_append,List.nodup_append]
     refine ⟨h,by simp,fun a ha c hc e=>?_⟩
     simp at hc
     subst hc
     subst e
     exact zL8 hn ha
   · exact zEJ r _ h
theorem zLm {l lo l':List zM} (hl:zAY l) (hz:∀ x∈l,x.2.length≤16384) (ho:zDy lo) (hp:l'.Perm (zAo l lo)) (hs:l'.Pairwise fun a b:zM=>a.1≤b.1):zDy l'∧l'.length≤16∧(l'.map (·.1)).Pairwise (· < ·):=by
 have hb:zDy l':=by
  refine ⟨fun x hx=>?_,fun x hx=>?_⟩
  · rcases zCd (hp.mem_iff.1 hx) with h | h
    · exact hl.1 x h
    · exact ho.num x h
  · rcases zCd (hp.mem_iff.1 hx) with h | h
    · exact hz x h
    · exact ho.len x h
 have hn:(l'.map (·.1)).Nodup:=(hp.map _).nodup_iff.2 (zEJ lo l hl.2)
 refine ⟨hb,?_,?_⟩
 · have:=zFS 16 (l'.map (·.1)) hn (fun x hx=>by
    obtain ⟨y,hy,rfl⟩:=List.mem_map.1 hx
    exact hb.num y hy)
   rwa [List.length_map] at this
 · rw [List.pairwise_map]
   rw [List.Nodup,List.pairwise_map] at hn
   exact (hs.and hn).imp fun {a b} h=>by have h1:=h.1;have h2:=h.2;omega
theorem zFy:∀ (r out:List zM) {x:zM},x∈out→x∈zAo out r
 | [],_,_,h=>h
 | b::r,out,x,h=>by
   rw [zAo]
   split
   · exact zFy r _ (List.mem_append_left _ h)
   · exact zFy r _ h
theorem zLl {l lo l':List zM} (h:l≠[]) (hp:l'.Perm (zAo l lo)):l'≠[]:=fun e=>by
 obtain ⟨x,hx⟩:=List.exists_mem_of_ne_nil l h
 have:=hp.mem_iff.2 (zFy lo l hx)
 rw [e] at this
 cases this
theorem zIF {f:Look} {nm nm':ByteArray} {x:Option (List UInt8)} {ix:Key} (h:zDt nm=ix) (hn:zDt nm'≠ix):upd f nm x nm'=f nm':=by
 unfold upd
 rw [if_neg (fun e=>hn (by rw [e];exact h))]
end Go.Mem
end
section
namespace Go.Mem
open Go Go.ChangeShapes Go.WideShapes Go.ChangeAt Go.RowKit Gf Lea
def zGM (_:World) (cs:List Value) (t:Tst):Prop:=cs=zDv t∧t.want.length=32
def zIx (W:World) (cs:List Value) (x:zM):Prop:=∃ v,cs=[.int .i64 x.1,v]∧Bys W v x.2
structure zKT (W:World) (cs:List Value) (a:Req × List Tst × List zM):Prop where
 cs:cs=zK a.1
 wf:a.1.Wf
 ts:Sls 34 zGM W a.1.vt a.2.1
 bl:Sls 2 zIx W a.1.vb a.2.2
structure zIw where
 dw:Int
 now:Int
 at_:Int
 keep:Int
 r:Req
 ts:List Tst
 bl:List zM
structure zDw (W:World) (cs:List Value) (a:zIw):Prop where
 dw:cs[0]?=some (.int .i64 a.dw)
 dwr:-9223372036854775808≤a.dw∧a.dw≤9223372036854775807
 now:cs[1]?=some (.int .i64 a.now)
 nowr:-9223372036854775808≤a.now∧a.now≤9223372036854775807
 at_:cs[2]?=some (.int .i64 a.at_)
 atr:-9223372036854775808≤a.at_∧a.at_≤9223372036854775807
 keep:cs[3]?=some (.int .i64 a.keep)
 keepr:-9223372036854775808≤a.keep∧a.keep≤9223372036854775807
 r:zKT W ((cs.drop 4).take 52) (a.r,a.ts,a.bl)
theorem zCM {α:Type} (l:List α) (o c:Nat) {X:List α} (h:(l.drop o).take c=X):l.drop o=X++l.drop (o+c):=by
 rw [← h,← List.drop_drop,List.take_append_drop]
theorem zIx.below {w w':World} {cs:List Value} {d:zM} (hb:Below w.heap.size w w') (h:zIx w cs d):zIx w' cs d:=by
 obtain ⟨v,h1,h2⟩:=h
 exact ⟨v,h1,h2.below hb⟩
theorem zKT.below {w w':World} {cs:List Value} {a:Req × List Tst × List zM} (hb:Below w.heap.size w w') (h:zKT w cs a):zKT w' cs a :=
 ⟨h.cs,h.wf,h.ts.below (fun _ _ _ _ _ h=>h) hb,h.bl.below (fun _ _ _ _ hb h=>h.below hb) hb⟩
theorem zDw.below {w w':World} {cs:List Value} {a:zIw} (hb:Below w.heap.size w w') (h:zDw w cs a):zDw w' cs a :=
 ⟨h.dw,h.dwr,h.now,h.nowr,h.at_,h.atr,h.keep,h.keepr,h.r.below hb⟩
theorem zMU {P:Program} {t ti tb th t8:TypeId} {f0 f1 f2:Field} (ht:P.underlying t=some (.struct #[f0,f1,f2])) (hi:P.underlying ti=some (.int .i64)) (hb:P.underlying tb=some .bool) (hk:P.underlying th=some (.array 32 t8)) (h8:P.underlying t8=some (.int .u8))
  (e0:f0.type=ti) (e1:f1.type=tb) (e2:f2.type=th) (o0:f0.offset=0) (o1:f1.offset=1) (o2:f2.offset=2) (ci:P.cellsOf ti=1) (cb:P.cellsOf tb=1) (ck:P.cellsOf th=32) (c8:P.cellsOf t8=1) (ct:P.cellsOf t=34):zBH P t zGM:=fun {_ _ W _ _ _ _ cs x} h=>by
 have hl:=zEx ht h
 rw [ct] at hl
 obtain ⟨z0,r0,_⟩:=zx ht h 0 f0 rfl (by rw [e0];exact zBj hi)
 obtain ⟨b1,r1⟩:=zx ht h 1 f1 rfl (by rw [e1];exact zK4 hb)
 obtain ⟨k2,l2,r2⟩:=zx ht h 2 f2 rfl (by rw [e2];exact zET hk h8 c8 ck)
 rw [e0,ci,o0] at r0;rw [e1,cb,o1] at r1;rw [e2,ck,o2] at r2
 refine ⟨⟨z0,b1,k2⟩,?_,l2⟩
 have h0:cs=cs.drop 0:=rfl
 rw [h0,zCM cs 0 1 r0,zCM cs (0+1) 1 r1,zCM cs (0+1+1) 32 r2,List.drop_eq_nil_of_le (by omega)]
 simp [zDv]
theorem zMS {P:Program} {t ti tb t8:TypeId} {f0 f1:Field} (ht:P.underlying t=some (.struct #[f0,f1])) (hi:P.underlying ti=some (.int .i64)) (hb:P.underlying tb=some (.slice t8)) (h8:P.underlying t8=some (.int .u8))
  (e0:f0.type=ti) (e1:f1.type=tb) (o0:f0.offset=0) (o1:f1.offset=1) (ci:P.cellsOf ti=1) (cb:P.cellsOf tb=1) (c8:P.cellsOf t8=1) (ct:P.cellsOf t=2):zBH P t zIx:=fun {_ _ W _ _ _ _ cs x} h=>by
 have hl:=zEx ht h
 rw [ct] at hl
 obtain ⟨z0,r0,_⟩:=zx ht h 0 f0 rfl (by rw [e0];exact zBj hi)
 obtain ⟨bs,v,r1,hv⟩:=zx ht h 1 f1 rfl (by rw [e1];exact zJt hb h8 c8)
 rw [e0,ci,o0] at r0;rw [e1,cb,o1] at r1
 refine ⟨(z0,bs),v,?_,hv⟩
 have h0:cs=cs.drop 0:=rfl
 rw [h0,zCM cs 0 1 r0,zCM cs (0+1) 1 r1,List.drop_eq_nil_of_le (by omega)]
 rfl
theorem zMT {P:Program} {t ti tk t8 tt tts tb tbs:TypeId} {f0 f1 f2 f3 f4 f5 f6:Field} (ht:P.underlying t=some (.struct #[f0,f1,f2,f3,f4,f5,f6])) (hi:P.underlying ti=some (.int .i64)) (hk:P.underlying tk=some (.array 16 t8)) (h8:P.underlying t8=some (.int .u8))
  (hts:P.underlying tts=some (.slice tt)) (hbs:P.underlying tbs=some (.slice tb)) (hT:zBH P tt zGM) (hB:zBH P tb zIx) (ctt:P.cellsOf tt=34) (ctb:P.cellsOf tb=2)
  (e0:f0.type=ti) (e1:f1.type=tk) (e2:f2.type=tk) (e3:f3.type=ti) (e4:f4.type=tk) (e5:f5.type=tts) (e6:f6.type=tbs)
  (o0:f0.offset=0) (o1:f1.offset=1) (o2:f2.offset=17) (o3:f3.offset=33) (o4:f4.offset=34) (o5:f5.offset=50) (o6:f6.offset=51)
  (ci:P.cellsOf ti=1) (ck:P.cellsOf tk=16) (c5:P.cellsOf tts=1) (c6:P.cellsOf tbs=1) (c8:P.cellsOf t8=1) (ct:P.cellsOf t=52):zBH P t zKT:=fun {_ _ W _ _ _ _ cs x} h=>by
 have hl:=zEx ht h
 rw [ct] at hl
 obtain ⟨z0,r0,_⟩:=zx ht h 0 f0 rfl (by rw [e0];exact zBj hi)
 obtain ⟨k1,l1,r1⟩:=zx ht h 1 f1 rfl (by rw [e1];exact zET hk h8 c8 ck)
 obtain ⟨k2,l2,r2⟩:=zx ht h 2 f2 rfl (by rw [e2];exact zET hk h8 c8 ck)
 obtain ⟨z3,r3,_⟩:=zx ht h 3 f3 rfl (by rw [e3];exact zBj hi)
 obtain ⟨k4,l4,r4⟩:=zx ht h 4 f4 rfl (by rw [e4];exact zET hk h8 c8 ck)
 obtain ⟨ts,v5,r5,s5⟩:=zx ht h 5 f5 rfl (by rw [e5];exact zED hts ctt (by decide) hT)
 obtain ⟨bl,v6,r6,s6⟩:=zx ht h 6 f6 rfl (by rw [e6];exact zED hbs ctb (by decide) hB)
 rw [e0,ci,o0] at r0;rw [e1,ck,o1] at r1;rw [e2,ck,o2] at r2;rw [e3,ci,o3] at r3;rw [e4,ck,o4] at r4;rw [e5,c5,o5] at r5;rw [e6,c6,o6] at r6
 refine ⟨(⟨z0,k1,k2,z3,k4,v5,v6⟩,ts,bl),⟨?_,⟨l1,l2,l4⟩,s5,s6⟩⟩
 have h0:cs=cs.drop 0:=rfl
 rw [h0,zCM cs 0 1 r0,zCM cs (0+1) 16 r1,zCM cs (0+1+16) 16 r2,zCM cs (0+1+16+16) 1 r3,zCM cs (0+1+16+16+1) 16 r4,zCM cs (0+1+16+16+1+16) 1 r5,zCM cs (0+1+16+16+1+16+1) 1 r6,List.drop_eq_nil_of_le (by omega)]
 simp [zK]
theorem zJr {P:Program} {t ti tr:TypeId} {f0 f1 f2 f3 f4:Field} (ht:P.underlying t=some (.struct #[f0,f1,f2,f3,f4])) (hi:P.underlying ti=some (.int .i64)) (hR:zBH P tr zKT)
  (e0:f0.type=ti) (e1:f1.type=ti) (e2:f2.type=ti) (e3:f3.type=ti) (e4:f4.type=tr) (o0:f0.offset=0) (o1:f1.offset=1) (o2:f2.offset=2) (o3:f3.offset=3) (o4:f4.offset=4)
  (ci:P.cellsOf ti=1) (cr:P.cellsOf tr=52):zBH P t zDw:=fun {_ _ W _ _ _ _ cs x} h=>by
 obtain ⟨z0,r0,b0⟩:=zx ht h 0 f0 rfl (by rw [e0];exact zBj hi)
 obtain ⟨z1,r1,b1⟩:=zx ht h 1 f1 rfl (by rw [e1];exact zBj hi)
 obtain ⟨z2,r2,b2⟩:=zx ht h 2 f2 rfl (by rw [e2];exact zBj hi)
 obtain ⟨z3,r3,b3⟩:=zx ht h 3 f3 rfl (by rw [e3];exact zBj hi)
 obtain ⟨a,r4⟩:=zx ht h 4 f4 rfl (by rw [e4];exact hR)
 rw [e0,ci,o0] at r0;rw [e1,ci,o1] at r1;rw [e2,ci,o2] at r2;rw [e3,ci,o3] at r3;rw [e4,cr,o4] at r4
 have one:∀ (o:Nat) (v:Value),(cs.drop o).take 1=[v]→cs[o]?=some v:=fun o v e=>by
  have:=congrArg (fun l=>l[0]?) e
  simpa [List.getElem?_take,List.getElem?_drop] using this
 exact ⟨⟨z0,z1,z2,z3,a.1,a.2.1,a.2.2⟩,⟨one 0 _ r0,b0,one 1 _ r1,b1,one 2 _ r2,b2,one 3 _ r3,b3,r4⟩⟩
end Go.Mem
namespace Go.Proofs.YtbbojbdigiibbaaGreatDoor
open Go Go.RowKit Go.Mem Gf
theorem zNt:zBH Tryz.prog 66 zGM :=
 zMU Tryz.underlying66 Tryz.underlying3 Tryz.underlying4 Tryz.underlying63 Tryz.underlying5 rfl rfl rfl rfl rfl rfl (by kernel_rfl) (by kernel_rfl) (by kernel_rfl) (by kernel_rfl) (by kernel_rfl)
theorem zM2:zBH Tryz.prog 53 zIx :=
 zMS Tryz.underlying53 Tryz.underlying3 Tryz.underlying51 Tryz.underlying5 rfl rfl rfl rfl (by kernel_rfl) (by kernel_rfl) (by kernel_rfl) (by kernel_rfl)
theorem zNj:zBH Tryz.prog 47 zKT :=
 zMT Tryz.underlying47 Tryz.underlying3 Tryz.underlying39 Tryz.underlying5 Tryz.underlying45 Tryz.underlying41 zNt zM2 (by kernel_rfl) (by kernel_rfl) rfl rfl rfl rfl rfl rfl rfl rfl rfl rfl rfl rfl rfl rfl (by kernel_rfl) (by kernel_rfl) (by kernel_rfl) (by kernel_rfl) (by kernel_rfl) (by kernel_rfl)
theorem zI1:zBH Tryz.prog 40 (fun W cs (l:List zIw)=>∃ v,cs=[v]∧Sls 56 zDw W v l) :=
 zED Tryz.underlying40 (by kernel_rfl) (by decide)
  (zJr Tryz.underlying50 Tryz.underlying3 zNj rfl rfl rfl rfl rfl rfl rfl rfl rfl rfl (by kernel_rfl) (by kernel_rfl))
end Go.Proofs.YtbbojbdigiibbaaGreatDoor
end
section
namespace Go.Mem
open Go Go.RowKit Gf Lea
theorem Sls.take {c:Nat} {α:Type} {R:World→List Value→α→Prop} {w:World} {a:Option Addr} {n cap:Nat} {l:List α} (h:Sls c R w (.slice a n cap) l) (m:Nat) (hm:m≤n):Sls c R w (.slice a m cap) (l.take m):=by
 obtain ⟨a',cap',e,h1,h2,h3⟩:=h
 injection e with e1 e2 e3
 subst e1 e2 e3
 refine ⟨a,cap,by rw [List.length_take,Nat.min_eq_left hm],by rw [List.length_take];omega,h2,fun hp=>?_⟩
 rw [List.length_take] at hp
 obtain ⟨b,off,e,h4⟩:=h3 (by omega)
 refine ⟨b,off,e,fun i d hi=>h4 i d ?_⟩
 rw [List.getElem?_take] at hi
 split at hi
 · exact hi
 · cases hi
theorem zGS {P:Program} {w:World} (t ty e:TypeId) (i:TypeInfo) (cap:Nat) (a:Option Addr) (ht:P.underlying t=some (.slice e)) (hi:P.info? e=some i) :
  (Builtin.append_ #[t,t] ty #[.slice none 0 0,.slice a 0 cap]).run P w=.ok (.slice none 0 0) w:=by
 cases a <;> simp [Builtin.append_,run_underlying ht,sizeOf,typeInfo,hi,Builtin.lenOf,Builtin.firstCells,loadCells,loadCellsFrom]
section
variable {P:Program} {w:World} {ops:Array Oper} {rest:List Oper} {o:Oper} {a:Act} {Q:Exit→Act→World→Prop}
theorem zMy {t e:TypeId} {z:Value} {size bytes:Nat} (E:zDD P t e z size bytes) (hgd:o.guard=none) (s x:Operand) (ho:o.op=.call { callee:=.builtin .append,args:=#[s,x],argTypes:=#[t,t] })
  (hs:a.eval s=.slice none 0 0) {ad:Option Addr} {cap:Nat} (hx:a.eval x=.slice ad 0 cap) (h:wpList P ops Q rest (a.put o.dst (.slice none 0 0)) w):wpList P ops Q (o::rest) a w:=by
 refine wpList_plain hgd fun K hK=>?_
 obtain ⟨i,hi,_⟩:=info_parts E.info
 have hrun:=zGS (P:=P) (w:=w) t o.type e i cap ad E.under hi
 unfold Oper.wp
 simp [execOp,ho,resolve,invoke,builtin,hs,hx,hrun,Result.andThen]
 exact hK _ _ h
end
def WfT (t:Tst):Prop:=t.want.length=32
theorem ecT:zEb zDv WfT 34:=⟨fun x h=>zFc h,fun x v hv=>by
 unfold zDv at hv
 rcases List.mem_cons.1 hv with rfl | hv
 · rfl
 · rcases List.mem_cons.1 hv with rfl | hv
   · rfl
   · exact zAH _ v hv,by decide⟩
theorem zLS {w:World} {a:Option Addr} {n cap:Nat} {ts:List Tst} (h:Sls 34 zGM w (.slice a n cap) ts) (h0:0 < n):∃ b off,a=some ⟨b,off,none⟩∧b < w.heap.size∧∀ j u,(zB3 zDv ts)[j]?=some u→w.cell? ⟨b,off+j,none⟩=some u:=by
 obtain ⟨a',cap',e,h1,h2,h3⟩:=h
 injection e with e1 e2 e3
 subst e1 e2 e3
 obtain ⟨b,off,e,h4⟩:=h3 h0
 have hwf:∀ x∈ts,WfT x:=fun x hx=>by
  obtain ⟨i,hi⟩:=List.mem_iff_getElem?.1 hx
  obtain ⟨cs,_,_,h5⟩:=h4 i x hi
  exact h5.2
 have hc:∀ j u,(zB3 zDv ts)[j]?=some u→w.cell? ⟨b,off+j,none⟩=some u:=fun j u hj=>by
  have hlt:=zq hj
  rw [zCh ecT ts hwf] at hlt
  have hi:j / 34 < ts.length:=by omega
  have hp:ts[j / 34]?=some ts[j / 34]:=List.getElem?_eq_getElem hi
  obtain ⟨cs,_,h6,h7⟩:=h4 _ _ hp
  have e:=zBI ecT ts hwf _ _ hp (j % 34) (by omega)
  rw [show j / 34*34+j % 34=j from by omega,hj] at e
  have:=h6 (j % 34) u (by rw [h7.1];exact e.symm)
  rw [show off+j / 34*34+j % 34=off+j from by omega] at this
  exact this
 refine ⟨b,off,e,?_,hc⟩
 obtain ⟨cs,h5,h6,h7⟩:=h4 0 ts[0] (List.getElem?_eq_getElem h0)
 exact World.block_lt_of_cell? w _ (h6 0 _ (List.getElem?_eq_getElem (by omega)))
theorem zOk {w:World} {v:Value} {ts:List Tst} (h:Sls 34 zGM w v ts):∀ x∈ts,WfT x:=fun x hx=>by
 obtain ⟨i,hi⟩:=List.mem_iff_getElem?.1 hx
 obtain ⟨a',cap',e,h1,h2,h3⟩:=h
 obtain ⟨b,off,e,h4⟩:=h3 (by have:=zq hi;omega)
 obtain ⟨cs,_,_,h5⟩:=h4 i x hi
 exact h5.2
theorem zAh.tests {e:TypeId} {w:World} {base:Nat} {v:Value} {ts:List Tst} {N:Nat→Prop} (h:zAh zDv WfT 34 e w base v ts) (hl:ts.length≤1000000) (hN:∀ b,base≤b→b < w.heap.size→¬ N b):zCv w N v ts:=by
 obtain ⟨a,c,rfl⟩:=h.slice
 refine ⟨a,c,rfl,hl,h.wf,fun h0=>?_⟩
 obtain ⟨g,cap,arr,e2,hb,hB,hc,hm,hs,hcell⟩:=zLh h.own h0
 injection e2 with e3 e4 e5
 refine ⟨g,0,e3,hB.lt,hN g hb hB.lt,fun i t ht j u hu=>?_⟩
 have hj:j < 34:=by have:=zq hu;rw [zFc (h.wf t (List.mem_of_getElem? ht))] at this;exact this
 have hi:=zq ht
 rw [Nat.zero_add,hB.cell,hcell _ (by omega),zBI ecT ts h.wf i t ht j hj]
 exact hu
end Go.Mem
namespace Go.Proofs.YtbbojbdigiibbaaGreatDoor
open Go Go.RowKit Go.Mem Gf Lea
set_option linter.unusedVariables false
theorem EKt:zDD Tryz.prog 45 66 (.agg (zDv ⟨0,false,List.replicate 32 0⟩).toArray) 34 48:=⟨Tryz.underlying45,by kernel_rfl,rfl,by decide⟩
set_option maxRecDepth 100000 in
set_option maxHeartbeats 1000000 in
theorem zKe (v:Value) (ts:List Tst) (n:Nat) (w:World) (h:Sls 34 zGM w v ts) :
  Calls Tryz.prog 49 #[v,.int .i64 n] w fun e w'=>(∃ v',e=.returned v'∧Sls 34 zGM w v' (ts.take n))∧w=w':=by
 obtain ⟨a,cap,rfl,h1,h2,h3⟩:=id h
 obtain ⟨l,hl'⟩:∃ l,l=ts.length:=⟨_,rfl⟩
 rw [← hl'] at h h1 ⊢
 have hl:l≤maxLen:=Nat.le_trans h1 h2
 have hl2:(l:Int)≤9223372036854775807:=by unfold maxLen at hl;omega
 have Hl:=Lib.hid hl';have H3:=Lib.hid h3;have H2:=Lib.hid h2;have H0:=Lib.hid h;clear hl' h3 h2 h hl
 by_cases hlt:n < l
 · go_enter Tryz.func49,Tryz.ntmps49
   go_wp2
   go_ret
   refine ⟨⟨_,rfl,?_⟩,rfl⟩
   show Sls 34 zGM w (.slice a (min (l:Int) (n:Int)).toNat cap) _
   rw [show (min (l:Int) (n:Int)).toNat=n from by omega]
   exact H0.out.take n (by have:=Hl.out;omega)
 · go_enter Tryz.func49,Tryz.ntmps49
   go_wp2
   go_ret
   refine ⟨⟨_,rfl,?_⟩,rfl⟩
   show Sls 34 zGM w (.slice a (min (l:Int) (n:Int)).toNat cap) _
   rw [show (min (l:Int) (n:Int)).toNat=l from by omega,List.take_of_length_le (by have:=Hl.out;omega)]
   exact H0.out
set_option maxRecDepth 100000 in
set_option maxHeartbeats 1000000 in
theorem zJD (v:Value) (ts:List Tst) (w:World) (h:Sls 34 zGM w v ts) (hn:ts.length≤1000000) :
  Calls Tryz.prog 48 #[v] w fun e w'=>∃ v',e=.returned v'∧zAh zDv WfT 34 66 w' w.heap.size v' ts∧Below w.heap.size w w':=by
 obtain ⟨a,cap,rfl,h1,h2,h3⟩:=id h
 have hwf:=zOk h
 obtain ⟨n,hl⟩:∃ n,n=ts.length:=⟨_,rfl⟩
 rw [← hl] at h h1 hn ⊢
 rcases Nat.eq_zero_or_pos n with h0 | h0
 · subst h0
   have ht:ts=[]:=List.eq_nil_of_length_eq_zero hl.symm
   have HT:=Lib.hid ht
   clear h h3 hl ht hwf
   go_enter Tryz.func48,Tryz.ntmps48
   go_wp2_with (at_builtin;refine zMy EKt rfl _ _ rfl rfl rfl ?_)
   go_wp2
   go_ret
   refine ⟨_,rfl,?_,Below.refl _ _⟩
   rw [HT.out]
   exact ⟨World.ownsRow_nil _ _ _ _,fun x hx=>by cases hx⟩
 · obtain ⟨b,off,rfl,hb,hc⟩:=zLS h h0
   have H:=Lib.hid (And.intro hc (And.intro hwf hl))
   clear h h3 hwf hl hc
   go_enter Tryz.func48,Tryz.ntmps48
   go_wp2_with (at_builtin;refine zI3 EKt ecT rfl _ _ rfl rfl (L:=b) (off:=off) (n:=n) (cap:=cap) (l:=ts) H.out.2.1 rfl H.out.2.2.symm H.out.1 (Nat.le_trans h1 h2) (by omega) ?_)
   intro v' w' ho hb'
   go_wp2
   go_ret
   exact ⟨_,rfl,ho,hb'⟩
set_option maxRecDepth 100000 in
set_option maxHeartbeats 1000000 in
theorem zJC (v:Value) (bs:List UInt8) (w:World) (h:Bys w v bs) (hl:bs.length≤140737488355328) :
  Calls Tryz.prog 47 #[v] w fun e w'=>∃ v',e=.returned v'∧zBT 5 w' w.heap.size v' bs∧Below w.heap.size w w':=by
 go_enter Tryz.func47,Tryz.ntmps47
 go_wp2_with (at_builtin;refine zLw E8 rfl _ _ rfl (base:=w.heap.size) (v:=.slice none 0 0) (bs:=[]) (news:=bs) rfl rfl (zBT.nil _ _ _) h (by simp;omega) (Nat.le_refl _) ?_)
 intro v' w1 hown hg
 go_wp2
 go_ret
 exact ⟨v',rfl,hown,zAj hg rfl⟩
end Go.Proofs.YtbbojbdigiibbaaGreatDoor
end
