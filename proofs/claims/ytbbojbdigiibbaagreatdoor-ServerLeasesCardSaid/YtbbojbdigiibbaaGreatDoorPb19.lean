/- Texts of this proof,packed: SrvSwap,SrvAny,SrvStep,SrvActs. -/
import Derived.Test.YtbbojbdigiibbaaGreatDoorPb18
import Derived.Test.YtbbojbdigiibbaaGreatDoorPb14
import Derived.Test.YtbbojbdigiibbaaGreatDoorPb13
import Derived.Test.YtbbojbdigiibbaaGreatDoorPb09
section
namespace Go.Mem
open Go Go.RowKit Gf Lea
theorem zCu {x:zP}:∀ {r out:List zP},x∈zAy out r→x∈out∨x∈r
 | [],_,h=>.inl h
 | b::r,out,h=>by
   rw [zAy] at h
   split at h
   · rcases zCu h with h | h
     · rcases List.mem_append.1 h with h | h
       · exact .inl h
       · rw [List.mem_singleton.1 h];exact .inr (List.mem_cons_self)
     · exact .inr (List.mem_cons_of_mem _ h)
   · rcases zCu h with h | h
     · exact .inl h
     · exact .inr (List.mem_cons_of_mem _ h)
def zDk (w:World) (N:Nat→Prop) (v:Value) (ts:List Tst):Prop :=
 ∃ a c,v=.slice a ts.length c∧ts.length≤1000000∧(∀ t∈ts,t.want.length=32)∧(0 < ts.length→∃ b off,a=some ⟨b,off,none⟩∧b < w.heap.size∧¬ N b∧∀ (i:Nat) (t:Tst),ts[i]?=some t→w.rangeAt b (off+i*34) (zD7 t))
theorem zDk.chg {S N:Nat→Prop} {w w':World} {v:Value} {ts:List Tst} (h:zDk w N v ts) (hc:Chg S w w') (hs:∀ b,S b→b < w.heap.size→N b):zDk w' N v ts:=by
 obtain ⟨a,c,e,h1,h2,h3⟩:=h
 refine ⟨a,c,e,h1,h2,fun hp=>?_⟩
 obtain ⟨b,off,e1,hb,hn,h4⟩:=h3 hp
 refine ⟨b,off,e1,Nat.lt_of_lt_of_le hb hc.size,hn,fun i t ht j u hu=>?_⟩
 have:=h4 i t ht j u hu
 unfold World.cell? at this ⊢
 rw [hc.block b hb (fun hS=>hn (hs b hS hb))]
 exact this
theorem zDk.below {N:Nat→Prop} {w w':World} {v:Value} {ts:List Tst} (h:zDk w N v ts) (hb:Below w.heap.size w w'):zDk w' N v ts:=h.chg (S:=fun _=>False) (Chg.of_below hb) (fun _ h=>h.elim)
theorem zDk.mono {N M:Nat→Prop} {w:World} {v:Value} {ts:List Tst} (h:zDk w N v ts) (hM:∀ b,M b→N b∨w.heap.size≤b):zDk w M v ts:=by
 obtain ⟨a,c,e,h1,h2,h3⟩:=h
 refine ⟨a,c,e,h1,h2,fun hp=>?_⟩
 obtain ⟨b,off,e1,hb,hn,h4⟩:=h3 hp
 refine ⟨b,off,e1,hb,fun hm=>?_,h4⟩
 rcases hM b hm with h | h
 · exact hn h
 · omega
end Go.Mem
namespace Go.Proofs.YtbbojbdigiibbaaGreatDoor
open Go Go.RowKit Go.Mem Gf Lea
set_option linter.unusedVariables false
def zCi (r:Req) (o:Option (Key × List zP)):Key:=if o.isSome then zBv o else r.en
inductive zBC (s:zF) (r:Req) (l:List zP) (ts:List Tst) (o:Option (Key × List zP)):Int→zF→Prop
 | form (h:¬ (l≠[]∧zAd l∧May r.ends)):zBC s r l ts o 2 s
 | enable (h:l≠[]∧zAd l∧May r.ends) (ho:o.isSome=true) (hk:zBv o≠r.en):zBC s r l ts o 7 s
 | test (h:l≠[]∧zAd l∧May r.ends) (hk:o.isSome=true→zBv o=r.en) (ht:∃ t∈ts,zB8 (zw o) t=false):zBC s r l ts o 6 s
 | no (h:l≠[]∧zAd l∧May r.ends) (hk:o.isSome=true→zBv o=r.en) (ht:∀ t∈ts,zB8 (zw o) t=true) (l':List zP) (hp:l'.Perm (zAy l (zw o))) (hs:l'.Pairwise fun a b:zP=>a.1≤b.1) (err:Int)
  (ha:zE5 s r.ix r.sec r.ends (zAM r.ix) (zAj (zCi r o) l') o.isSome err) (h0:err≠0):zBC s r l ts o err s
 | torn (h:l≠[]∧zAd l∧May r.ends) (hk:o.isSome=true→zBv o=r.en) (ht:∀ t∈ts,zB8 (zw o) t=true) (l':List zP) (hp:l'.Perm (zAy l (zw o))) (hs:l'.Pairwise fun a b:zP=>a.1≤b.1)
  (ha:zE5 s r.ix r.sec r.ends (zAM r.ix) (zAj (zCi r o) l') o.isSome 0) (h0:(zU s.st (zAM r.ix) (zAj (zCi r o) l')).1≠0):zBC s r l ts o (zU s.st (zAM r.ix) (zAj (zCi r o) l')).1 { s with st:=(zU s.st (zAM r.ix) (zAj (zCi r o) l')).2 }
 | put (h:l≠[]∧zAd l∧May r.ends) (hk:o.isSome=true→zBv o=r.en) (ht:∀ t∈ts,zB8 (zw o) t=true) (l':List zP) (hp:l'.Perm (zAy l (zw o))) (hs:l'.Pairwise fun a b:zP=>a.1≤b.1) (err:Int) (s':zF)
  (ha:zE5 s r.ix r.sec r.ends (zAM r.ix) (zAj (zCi r o) l') o.isSome 0) (h0:(zU s.st (zAM r.ix) (zAj (zCi r o) l')).1=0) (hs':zCv { s with st:=(zU s.st (zAM r.ix) (zAj (zCi r o) l')).2 } r.ix r.sec r.ends err s'):zBC s r l ts o err s'
theorem zJa {s:zF} {ix:Key} {o:Option (Key × List zP)} (h:zA5 s ix o):∀ x∈zw o,x.2.length≤16384:=fun x hx=>by
 cases o with
 | none=>cases hx
 | some kl =>
   obtain ⟨_,_,h3,_⟩:=h
   exact h3.len x hx
theorem zEH {s:zF} {ix:Key} {o:Option (Key × List zP)} (h:zA5 s ix o):zEp (zw o)∧(zw o).length≤16:=by
 cases o with
 | none=>exact ⟨⟨fun x hx=>(by cases hx),fun x hx=>(by cases hx)⟩,Nat.zero_le _⟩
 | some kl =>
   obtain ⟨_,_,h3,h4⟩:=h
   exact ⟨h3,h4⟩
theorem zFf:∀ (n:Nat) (l:List Int),l.Nodup→(∀ x∈l,0≤x∧x < (n:Int))→l.length≤n
 | 0,l,_,h=>by
   cases l with
   | nil=>exact Nat.le_refl _
   | cons x l=>have:=h x (by simp);omega
 | n+1,l,hn,h=>by
   by_cases hm:(n:Int)∈l
   · have h1:=List.length_erase_of_mem hm
     have h2:=zFf n (l.erase n) (hn.erase _) (fun x hx=>by
      have h3:=(hn.mem_erase_iff).1 hx
      have:=h x h3.2
      have:=h3.1
      omega)
     omega
   · have h2:=zFf n l hn (fun x hx=>by
      have:=h x hx
      have:x≠(n:Int):=fun e=>hm (by rw [← e];exact hx)
      omega)
     omega
theorem zKH {l:List zP} (h:zAd l):l.length≤16:=by
 have:=zFf 16 (l.map (·.1)) h.2 (fun x hx=>by
  obtain ⟨y,hy,rfl⟩:=List.mem_map.1 hx
  exact h.1 y hy)
 rwa [List.length_map] at this
theorem i34:(Tryz.prog.info? 66).map (·.size)=some 34:=by kernel_rfl
theorem zMo (dst:Option Tmp) (x:Operand) (ty:TypeId) (pos:String) (af:Array Edge) (gd:Option (Tmp × Bool)) (a:Act) (w:World) (K:Act→World→Prop) (Q:Exit→Act→World→Prop)
  (hp:zAs (a.eval x)=true) (ht:zBh 34 w (zAB (a.eval x)) (zAC (a.eval x))) :
  Oper.wp Tryz.prog ⟨dst,.load 66 x,ty,pos,af,gd⟩ a w K Q=K (a.put dst (.agg (zN 34 w (zAB (a.eval x)) (zAC (a.eval x))).toArray)) w :=
 zEX Tryz.underlying66 rfl i34 dst x ty pos af gd a w K Q hp ht
theorem zLq (dst:Option Tmp) (x y:Operand) (ty:TypeId) (pos:String) (af:Array Edge) (a:Act) (w:World) (K:Act→World→Prop) (Q:Exit→Act→World→Prop)
  (hp:zAs (a.eval x)=true) (hy:zBD (a.eval y)=true) (ht:zW 34 w (zAB (a.eval x)) (zAC (a.eval x))) (hc:zAP 34 (zAi (a.eval y))) :
  Oper.wp Tryz.prog ⟨dst,.store 66 x y,ty,pos,af,none⟩ a w K Q=K (a.put dst undef) (w.setCells (zAB (a.eval x)) (zAC (a.eval x)) (zAi (a.eval y))) :=
 zBN i34 dst x y ty pos af a w K Q hp hy ht hc
theorem allT {t:Tst} (h:t.want.length=32):zAP 34 (zD7 t):=⟨zFp h,fun v hv=>by
 unfold zD7 at hv
 rcases List.mem_cons.1 hv with rfl | hv
 · rfl
 · rcases List.mem_cons.1 hv with rfl | hv
   · rfl
   · exact zAJ _ v hv⟩
attribute [local irreducible] zM zY zA4
attribute [local go_sem ↓] Go.wp_at_zero Go.wp_at_succ
attribute [local go_sem ↓] zAN zCX zEe zFL zMo zLq
attribute [local go_sem] zCU ptrB_eq ptrO_eq ptrIs_eq aggL_eq aggIs_eq zT zg zCP zC zG zZ ze zX zH zK zDR zCR
set_option maxRecDepth 100000 in
set_option maxHeartbeats 8000000 in
theorem zJE (C X:Nat→Prop) (pb:Nat) (s:zF) (r:Req) (l:List zP) (ts:List Tst) (o:Option (Key × List zP)) (hr:r.Wf) (w:World) (h:zR w C X pb s) (hB:zCb s) (hwr:s.st.disk.writes < 72057594037800000) (hl:zAI w (fun b=>C b∨X b) r.vb l) (hd:∀ x∈l,x.2.length≤16384) (hts:zDk w (fun b=>C b∨X b) r.vt ts) (ho:zA5 s r.ix o) :
  Calls Tryz.prog 94 #[.pointer (some ⟨pb,0,none⟩),.agg (zM r).toArray] w (zDA C X pb (zBC s r l ts o) w):=by
 obtain ⟨la,lc,hvb,hlc1,hlc2,hrow⟩:=id hl
 obtain ⟨n,hn⟩:∃ n,n=l.length:=⟨_,rfl⟩
 rw [← hn] at hvb hlc1 hrow
 obtain ⟨ta,tc,hvt,htn,htw,htrow⟩:=id hts
 obtain ⟨tn,htn2⟩:∃ n,n=ts.length:=⟨_,rfl⟩
 rw [← htn2] at hvt htn htrow
 have hR:=(zAE.new w 47 hr)
 have hb0:=(Below.refl w.heap.size w).alloc (Nat.le_refl _) (.cells (zM r).toArray 47)
 have hb1:=hb0.alloc hb0.size (.cells #[.int .i64 0,.slice none 0 0] 43)
 have hR1:=hR.below ((Below.refl _ (w.alloc (.cells (zM r).toArray 47))).alloc (Nat.le_refl _) (.cells #[.int .i64 0,.slice none 0 0] 43))
 have hk4:Blk ((w.alloc (.cells (zM r).toArray 47)).alloc (.cells #[.int .i64 0,.slice none 0 0] 43)) (w.heap.size+1) #[.int .i64 0,.slice none 0 0] 43:=Blk.new_at _ _ _ _ (by simp)
 obtain ⟨cr,hcr⟩:∃ c,c=zM r:=⟨_,rfl⟩
 rw [← hcr] at hR1 hb1 hk4
 rw [← hcr]
 have HCR:=Zh hcr
 obtain ⟨w0,hw0⟩:∃ x,x=(w.alloc (.cells cr.toArray 47)).alloc (.cells #[.int .i64 0,.slice none 0 0] 43):=⟨_,rfl⟩
 obtain ⟨p3,hp3⟩:∃ p,p=w.heap.size:=⟨_,rfl⟩
 obtain ⟨p4,hp4⟩:∃ p,p=w.heap.size+1:=⟨_,rfl⟩
 have HW:=Zh (Zi hw0 (Zi hp3 hp4))
 rw [← hw0,← hp3] at hR1
 rw [← hw0] at hb1
 rw [← hw0,← hp4] at hk4
 have H:=Zh (Zi h (Zi hB (Zi hr (Zi hl (Zi hd hn)))))
 have hx4:zR w0 C (fun b=>X b∨b=p4) pb s:=h.growX (fun b hb=>.inl hb) (fun b hb=>hb.imp id (fun e=>by rw [e,hp4];omega)) hb1 (fun b hb=>by rcases hb with hb | hb;exact Nat.lt_of_lt_of_le (h.lt (.inr hb)) hb1.size;rw [hb];exact hk4.lt)
 have H0:=Zh (Zi hR1 (Zi hb1 (Zi hk4 hx4)))
 have HT:=Zh (Zi hts (Zi htw (Zi htrow (Zi htn2 (Zi hvt ho)))))
 have c33:=hR1.ends
 have c51:=hR1.blobs
 rw [hvb] at c51
 clear h hB hr hl hd hn hcr hw0 hp3 hp4 hR hR1 hb0 hb1 hk4 hx4 hts htw htrow htn2 hvt ho
 go_enter Tryz.func94,Tryz.ntmps94
 go_upto_region 1 with fail
 rw [← HW.o.1,← HW.o.2.2,← HW.o.2.1]
 have HVB:=Zh hvb
 clear hvb
 have hln:l≠[]↔n≠0:=by
  have:=H.o.2.2.2.2.2
  constructor
  · intro h e
    exact h (List.eq_nil_of_length_eq_zero (by omega))
  · intro h e
    rw [e] at this
    exact h this
 have HLN:=Zh hln
 clear hln
 by_cases h1:n=0
 · subst h1
   have HF:Hid (zBC s r l ts o 2 s):=zBC.form (by rintro ⟨e,_⟩;exact HLN.o.1 e rfl)
   go_wp2_with fail
   refine (zV 2 w0).mono ?_
   rintro e wf ⟨rfl,hbf⟩
   have k4f:=H0.o.2.2.1.kept hbf
   have f40:=k4f.free 0
   have f41:=k4f.free 1
   have c40:wf.cell? ⟨p4,0,none⟩=some (.int .i64 0):=k4f.cell 0
   have c41:wf.cell? ⟨p4,1,none⟩=some (.slice none 0 0):=k4f.cell 1
   have l4f:=k4f.lt
   have HBF:=Zh hbf
   clear hbf k4f
   go_wp2_with fail
   have hE:=zm (x:=.int .i64 2) (y:=.slice none 0 0) ((H0.o.2.2.2).below HBF.o) ((zAO.of_below H0.o.2.1).post HBF.o) (by rw [HW.o.2.2];omega)
   exact bodyPost_ret (v:=.agg #[.int .i64 2,.slice none 0 0]) (by simp [results,Tryz.results94,go_sem,c40,c41]) rfl ⟨C,2,s,rfl,HF.o,hE.1,hE.2⟩
 · have d1:((n:Int) == 0)=false:=by simp;omega
   have d1':(n == 0)=false:=by simp;omega
   have hblobs:=zGK _ r.vb l w0 (H.o.2.2.2.1.below H0.o.2.1)
   rw [HVB.o] at hblobs
   replace h1:=Zh h1
   go_wp2_with fail
   refine hblobs.mono ?_
   rintro e w1 ⟨bb,rfl,hbb,hb1⟩
   clear hblobs
   have hw01:=H0.o.2.1.trans (hb1.mono H0.o.2.1.size)
   have hR1:=H0.o.1.below hb1
   have c33:=hR1.ends
   have c51:=hR1.blobs
   rw [HVB.o] at c51
   have H1:=Zh (Zi hbb (Zi hb1 (Zi (H0.o.2.2.1.kept hb1) (Zi hw01 (Zi hR1 (H0.o.2.2.2.below hb1))))))
   clear hbb hb1 hw01 hR1
   cases bb with
   | false =>
     have HF:Hid (zBC s r l ts o 2 s):=zBC.form (fun h=>Bool.noConfusion (H1.o.1.2 h.2.1))
     go_wp2_with fail
     refine (zV 2 w1).mono ?_
     rintro e wf ⟨rfl,hbf⟩
     have k4f:=H1.o.2.2.1.kept hbf
     have f40:=k4f.free 0
     have f41:=k4f.free 1
     have c40:wf.cell? ⟨p4,0,none⟩=some (.int .i64 0):=k4f.cell 0
     have c41:wf.cell? ⟨p4,1,none⟩=some (.slice none 0 0):=k4f.cell 1
     have l4f:=k4f.lt
     have HBF:=Zh hbf
     clear hbf k4f
     go_wp2_with fail
     have hE:=zm (x:=.int .i64 2) (y:=.slice none 0 0) ((H1.o.2.2.2.2.2).below HBF.o) ((zAO.of_below H1.o.2.2.2.1).post HBF.o) (by rw [HW.o.2.2];omega)
     exact bodyPost_ret (v:=.agg #[.int .i64 2,.slice none 0 0]) (by simp [results,Tryz.results94,go_sem,c40,c41]) rfl ⟨C,2,s,rfl,HF.o,hE.1,hE.2⟩
   | true =>
     go_wp2_with fail
     refine (zDw r.ends w1).mono ?_
     rintro e wt ⟨rfl,rfl⟩
     by_cases hmay:May r.ends
     rotate_left
     · have HF:Hid (zBC s r l ts o 2 s):=zBC.form (fun h=>hmay h.2.2)
       have dm:decide (May r.ends)=false:=by simpa using hmay
       replace hmay:=Zh hmay
       go_wp2_with fail
       refine (zV 2 w1).mono ?_
       rintro e wf ⟨rfl,hbf⟩
       have k4f:=H1.o.2.2.1.kept hbf
       have f40:=k4f.free 0
       have f41:=k4f.free 1
       have c40:wf.cell? ⟨p4,0,none⟩=some (.int .i64 0):=k4f.cell 0
       have c41:wf.cell? ⟨p4,1,none⟩=some (.slice none 0 0):=k4f.cell 1
       have l4f:=k4f.lt
       have HBF:=Zh hbf
       clear hbf k4f
       go_wp2_with fail
       have hE:=zm (x:=.int .i64 2) (y:=.slice none 0 0) ((H1.o.2.2.2.2.2).below HBF.o) ((zAO.of_below H1.o.2.2.2.1).post HBF.o) (by rw [HW.o.2.2];omega)
       exact bodyPost_ret (v:=.agg #[.int .i64 2,.slice none 0 0]) (by simp [results,Tryz.results94,go_sem,c40,c41]) rfl ⟨C,2,s,rfl,HF.o,hE.1,hE.2⟩
     · have dm:decide (May r.ends)=true:=by simpa using hmay
       have HOK:Hid (l≠[]∧zAd l∧May r.ends):=⟨HLN.o.2 h1.o,H1.o.1.1 (by first | rfl | trivial),hmay⟩
       have rk:=H1.o.2.2.2.2.1.rix
       have gk:=H1.o.2.2.2.2.1.hix
       obtain ⟨ki,hki⟩:∃ c,c=bV r.ix:=⟨_,rfl⟩
       rw [← hki] at rk
       have HKI:=Zh hki
       clear hmay hki
       go_wp2_with fail
       refine (show Calls _ _ _ _ _ from (by rw [HKI.o];exact zCc C _ pb s r.ix H.o.2.2.1.ix o w1 H1.o.2.2.2.2.2 HT.o.2.2.2.2.2)).mono ?_
       rintro e w2 ⟨u,rfl,hu,hb2⟩
       obtain ⟨ua,uc,rfl,_⟩:=hu.slice
       have hck:=zEb HT.o.2.2.2.2.2
       obtain ⟨kc,hkc⟩:∃ c,c=bV (zBv o):=⟨_,rfl⟩
       obtain ⟨ln,hln⟩:∃ q,q=(zw o).length:=⟨_,rfl⟩
       rw [← hkc,← hln]
       obtain ⟨is,his⟩:∃ b,b=o.isSome:=⟨_,rfl⟩
       rw [← his]
       have hka:zAP 16 kc:=⟨by rw [hkc,zB];exact hck,fun v hv=>by rw [hkc] at hv;exact zAJ _ v hv⟩
       have hca:zAP 18 (zY is kc (.slice ua ln uc)):=⟨zAT is hka.1 _,zBw _ hka.2 _ rfl⟩
       have hbl0:zAI w2 (fun _=>False) (.slice ua ln uc) (zw o):=by rw [hln];exact (hu.at (fun b h1 _ h2=>by omega)).mono (fun _ h=>h.elim)
       have hkk:=fun (j:Nat) (hj:j < 16)=>zEc is kc (.slice ua ln uc) (i:=j) (by rw [hka.1];exact hj)
       obtain ⟨cc,hcc⟩:∃ c,c=zY is kc (.slice ua ln uc):=⟨_,rfl⟩
       have hc0:cc[0]?=some (.bool is):=by rw [hcc];exact zGn _ _ _
       rw [← hcc] at hca hkk ⊢
       have HC:=Zh (Zi hkc (Zi his (Zi hcc (Zi hln hck))))
       have hw2:=H1.o.2.2.2.1.trans (hb2.mono H1.o.2.2.2.1.size)
       have H2:=Zh (Zi hbl0 (Zi hw2 (Zi (H1.o.2.2.2.2.1.below hb2) (Zi (H1.o.2.2.1.kept hb2) (H1.o.2.2.2.2.2.below hb2)))))
       clear hu hck hkc hln his hcc hbl0 hw2 hb2 rk gk c33 c51
       go_upto_region 4 with fail
       have hk5:Blk (w2.alloc (.cells cc.toArray 205)) w2.heap.size cc.toArray 205:=Blk.new _ _ _
       have hbA:Below w2.heap.size w2 (w2.alloc (.cells cc.toArray 205)):=(Below.refl _ _).alloc (Nat.le_refl _) _
       obtain ⟨w3,hw3⟩:∃ x,x=w2.alloc (.cells cc.toArray 205):=⟨_,rfl⟩
       obtain ⟨p5,hp5⟩:∃ x,x=w2.heap.size:=⟨_,rfl⟩
       rw [← hw3] at hk5 hbA ⊢
       rw [← hp5] at hk5 ⊢
       have c50:w3.cell? ⟨p5,0,none⟩=some (.bool is):=by rw [hk5.cell 0];simpa using hc0
       have hR3:=H2.o.2.2.1.below hbA
       have H3:=Zh (Zi hk5 (Zi (H2.o.2.1.trans (hbA.mono H2.o.2.1.size)) (Zi hR3 (Zi (H2.o.2.2.2.1.kept hbA) (Zi (H2.o.2.2.2.2.below hbA) (H2.o.1.below hbA))))))
       have q5:zW 16 w3 p5 1:=zO hk5 (by simp [hca.1])
       have r5:zN 16 w3 p5 1=kc:=zCV hk5 hka.1 (fun j hj=>by rw [List.getElem?_toArray,Nat.add_comm];exact hkk j hj)
       have q3:=hR3.hen
       have r3:=hR3.ren
       obtain ⟨ke,hke⟩:∃ c,c=bV r.en:=⟨_,rfl⟩
       rw [← hke] at r3
       have heq:=fun w'=>zFy (zBv o) r.en HC.o.2.2.2.2 H.o.2.2.1.en w'
       rw [← hke,← HC.o.1] at heq
       have HKE:=Zh hke
       clear hk5 hbA hw3 hp5 hR3 hke
       obtain ⟨bad,hbad⟩:∃ b,b=(is && !decide (zBv o=r.en)):=⟨_,rfl⟩
       have HBAD:=Zh hbad
       clear hbad
       go_cut [40] (fun v wx=>v=.bool bad∧w3=wx)
       case first =>
        cases is with
        | false =>
          have hb:bad=false:=HBAD.o
          subst hb
          go_wp2_with fail
          go_meet
          exact ⟨rfl,rfl⟩
        | true =>
          by_cases e:zBv o=r.en
          · have de:decide (zBv o=r.en)=true:=by simpa using e
            have hb:bad=false:=by rw [HBAD.o,de];rfl
            subst hb
            replace e:=Zh e
            go_wp2_with fail
            go_meet
            exact ⟨by simp,rfl⟩
          · have de:decide (zBv o=r.en)=false:=by simpa using e
            have hb:bad=true:=by rw [HBAD.o,de];rfl
            subst hb
            replace e:=Zh e
            go_wp2_with fail
            go_meet
            exact ⟨by simp,rfl⟩
       case rest =>
       obtain ⟨rfl,rfl⟩:=hcut
       clear q5 r5 q3 r3 heq
       cases bad with
       | true =>
         have HF:Hid (zBC s r l ts o 7 s):=by
          have hb:=HBAD.o
          rw [HC.o.2.1] at hb
          have h2:o.isSome=true∧¬ zBv o=r.en:=by simpa using hb.symm
          exact zBC.enable HOK.o h2.1 h2.2
         go_wp2_with fail
         refine (zV 7 w3).mono ?_
         rintro e wf ⟨rfl,hbf⟩
         have k4f:=H3.o.2.2.2.1.kept hbf
         have f40:=k4f.free 0
         have f41:=k4f.free 1
         have c40:wf.cell? ⟨p4,0,none⟩=some (.int .i64 0):=k4f.cell 0
         have c41:wf.cell? ⟨p4,1,none⟩=some (.slice none 0 0):=k4f.cell 1
         have l4f:=k4f.lt
         have HBF:=Zh hbf
         clear hbf k4f
         go_wp2_with fail
         have hE:=zm (x:=.int .i64 7) (y:=.slice none 0 0) ((H3.o.2.2.2.2.1).below HBF.o) ((zAO.of_below H3.o.2.1).post HBF.o) (by rw [HW.o.2.2];omega)
         exact bodyPost_ret (v:=.agg #[.int .i64 7,.slice none 0 0]) (by simp [results,Tryz.results94,go_sem,c40,c41]) rfl ⟨C,7,s,rfl,HF.o,hE.1,hE.2⟩
       | false =>
         have hen:o.isSome=true→zBv o=r.en:=fun h=>by
          have hb:=HBAD.o
          rw [HC.o.2.1,h] at hb
          simpa using hb.symm
         have HEN:=Zh hen
         have c350:=H3.o.2.2.1.tests
         rw [HT.o.2.2.2.2.1] at c350
         clear hen
         go_upto_region 7 with fail
         go_loopw [45] (fun vi wr=>∃ i:Nat,i≤tn∧vi=.int .i64 i∧Hid ((∀ q t,q < i→ts[q]?=some t→zB8 (zw o) t=true)∧Below w3.heap.size w3 wr)) (fun vi _=>tn - (intOf vi).toNat)
         case atStart=>exact ⟨0,Nat.zero_le _,rfl,(fun q t h=>by omega),Below.refl _ _⟩
         case round =>
          obtain ⟨i,hi0,rfl,G⟩:=hrel
          by_cases hin:i < tn
          · obtain ⟨b,off,rfl,hb,_,hcells⟩:=HT.o.2.2.1 (by omega)
            have hx:ts[i]?=some (ts[i]'(by have:=HT.o.2.2.2.1;omega)):=by simp
            generalize ts[i]'(by have:=HT.o.2.2.2.1;omega)=x at hx
            have hxw:=HT.o.2.1 x (List.mem_of_getElem? hx)
            have hbwr:Below w.heap.size w wr:=H3.o.2.1.trans (G.o.2.mono H3.o.2.1.size)
            have hrng:wr.rangeAt b (off+i*34) (zD7 x):=fun j u hu=>by
             rw [hbwr.cell (p:=⟨b,off+i*34+j,none⟩) hb];exact hcells i x hx j u hu
            have hta:=allT hxw
            obtain ⟨ct,hct⟩:∃ c,c=zD7 x:=⟨_,rfl⟩
            rw [← hct] at hrng hta
            have s34:zBh 34 wr b (off+i*34):=zC8 hrng hta.1
            have r34:zN 34 wr b (off+i*34)=ct:=zA3 hrng hta.1
            have i0:(0:Int)≤(i:Int):=by omega
            have i1:(i:Int) < (tn:Int):=by omega
            have htl:=hta.1
            have HX:=Zh (Zi hx (Zi hxw (Zi hct hbwr)))
            clear hx hxw hbwr hrng hct hcells
            go_upto_region 9 with fail
            have hk7:Blk (wr.alloc (.cells ct.toArray 66)) wr.heap.size ct.toArray 66:=Blk.new _ _ _
            have hbB:Below wr.heap.size wr (wr.alloc (.cells ct.toArray 66)):=(Below.refl _ _).alloc (Nat.le_refl _) _
            obtain ⟨wb,hwb⟩:∃ x,x=wr.alloc (.cells ct.toArray 66):=⟨_,rfl⟩
            obtain ⟨p7,hp7⟩:∃ x,x=wr.heap.size:=⟨_,rfl⟩
            rw [← hwb] at hk7 hbB ⊢
            rw [← hp7] at hk7 ⊢
            have hb3:=G.o.2.trans (hbB.mono G.o.2.size)
            have hk5b:=H3.o.1.kept hb3
            have q7:zBh 34 wb p7 0:=(zO (n:=34) (o:=0) hk7 (by simp [hta.1])).some
            have r7:zN 34 wb p7 0=ct:=zS hk7 hta.1
            have q5:zW 18 wb p5 0:=zO hk5b (by simp [hca.1])
            have r5:zN 18 wb p5 0=cc:=zS hk5b hca.1
            have HB:=Zh hb3
            clear hk7 hbB hwb hp7 hb3 hk5b s34 r34
            go_wp2_with fail
            have hlen:∀ y∈zw o,y.2.length≤1000000:=fun y hy=>by
             have:=zJa HT.o.2.2.2.2.2 y hy
             omega
            refine (show Calls _ _ _ _ _ from (by rw [HX.o.2.2.1,HC.o.2.2.1];exact zJw wb is kc (.slice ua ln uc) (zw o) x hka (H3.o.2.2.2.2.2.below HB.o) HX.o.2.1 hlen)).mono ?_
            rintro e w4 ⟨rfl,hb4⟩
            obtain ⟨hb,hhb⟩:∃ b,b=zB8 (zw o) x:=⟨_,rfl⟩
            rw [← hhb]
            have HH:=Zh (Zi hhb (HB.o.trans (hb4.mono HB.o.size)))
            clear hhb hb4 hlen q7 r7 q5 r5
            cases hb with
            | false =>
              have HF:Hid (zBC s r l ts o 6 s):=zBC.test HOK.o HEN.o ⟨x,List.mem_of_getElem? HX.o.1,HH.o.1.symm⟩
              go_wp2_with fail
              refine (zV 6 w4).mono ?_
              rintro e wf ⟨rfl,hbf⟩
              have k4f:=(H3.o.2.2.2.1.kept HH.o.2).kept hbf
              have f40:=k4f.free 0
              have f41:=k4f.free 1
              have c40:wf.cell? ⟨p4,0,none⟩=some (.int .i64 0):=k4f.cell 0
              have c41:wf.cell? ⟨p4,1,none⟩=some (.slice none 0 0):=k4f.cell 1
              have l4f:=k4f.lt
              have HBF:=Zh hbf
              clear hbf k4f
              go_wp2_with fail
              have hE:=zm (x:=.int .i64 6) (y:=.slice none 0 0) ((H3.o.2.2.2.2.1.below HH.o.2).below HBF.o) ((zAO.of_below (H3.o.2.1.trans (HH.o.2.mono H3.o.2.1.size))).post HBF.o) (by rw [HW.o.2.2];omega)
              exact bodyPost_ret (v:=.agg #[.int .i64 6,.slice none 0 0]) (by simp [results,Tryz.results94,go_sem,c40,c41]) rfl ⟨C,6,s,rfl,HF.o,hE.1,hE.2⟩
            | true =>
              go_wp2_with fail
              exact ⟨⟨i+1,by omega,by simp,fun q t hq ht=>by
               rcases Nat.lt_or_ge q i with h | h
               · exact G.o.1 q t h ht
               · have:q=i:=by omega
                 subst this
                 rw [HX.o.1] at ht
                 cases ht
                 exact HH.o.1.symm,HH.o.2⟩,by show tn - ((i:Int)+1).toNat < tn - (i:Int).toNat;omega⟩
          · obtain rfl:i=tn:=by omega
            have hall:∀ t∈ts,zB8 (zw o) t=true:=fun t ht=>by
             obtain ⟨q,hq⟩:=List.getElem?_of_mem ht
             exact G.o.1 q t (by have:=zh hq;have:=HT.o.2.2.2.1;omega) hq
            obtain ⟨w5,hw5⟩:∃ x,x=wr:=⟨_,rfl⟩
            have G2:=Zh G.o.2
            rw [← hw5] at G2 ⊢
            have HALL:=Zh hall
            clear hall G hw5 hi0
            have hk5b:=H3.o.1.kept G2.o
            have hR5:=H3.o.2.2.1.below G2.o
            have q5:zW 18 w5 p5 0:=zO hk5b (by simp [hca.1])
            have r5:zN 18 w5 p5 0=cc:=zS hk5b hca.1
            have q3:=hR5.hen
            have r3:=hR5.ren
            rw [← HKE.o] at r3
            have c351:=hR5.blobs
            rw [HVB.o] at c351
            have hw:=H3.o.2.1.trans (G2.o.mono H3.o.2.1.size)
            have hwith:=zLw (fun b=>C b∨X b) w5 is (zBv o) (.slice ua ln uc) r.vb (zw o) l r.en HC.o.2.2.2.2 H.o.2.2.1.en (H3.o.2.2.2.2.2.below G2.o) (H.o.2.2.2.1.below hw) (by have:=H.o.2.2.2.2.2;have:=h1.o;omega) (zKH HOK.o.2.1) (zEH HT.o.2.2.2.2.2).2
            rw [← HC.o.1,← HC.o.2.2.1,← HKE.o,HVB.o] at hwith
            have H5:=Zh (Zi hk5b (Zi hR5 (Zi hw hwith)))
            clear hk5b hR5 hw hwith
            go_wp2_with fail
            refine H5.o.2.2.2.mono ?_
            rintro e w6 ⟨u6,l6,rfl,hbl6,hp6,hs6,hb6⟩
            have hek:(if is=true then zBv o else r.en)=zCi r o:=by unfold zCi;rw [HC.o.2.1]
            rw [hek]
            have hekl:(zCi r o).length=16:=by
             unfold zCi
             split
             · exact HC.o.2.2.2.2
             · exact H.o.2.2.1.en
            have hl6:l6.length≤32:=by
             have h1:=zGG (zw o) l
             have h2:=zKH HOK.o.2.1
             have h3:=(zEH HT.o.2.2.2.2.2).2
             rw [hp6.length_eq];omega
            have hok6:zEp l6:=by
             have h1:=(zEH HT.o.2.2.2.2.2).1
             refine ⟨fun x hx=>?_,fun x hx=>?_⟩
             · rcases zCu (hp6.mem_iff.1 hx) with h | h
               · exact HOK.o.2.1.1 x h
               · exact h1.num x h
             · rcases zCu (hp6.mem_iff.1 hx) with h | h
               · exact H.o.2.2.2.2.1 x h
               · exact h1.len x h
            have hw6:=H5.o.2.2.1.trans (hb6.mono H5.o.2.2.1.size)
            have hcb:=zGf w6 true (zCi r o) u6 l6 hekl hbl6 ((H.o.1.below hw6).tab) hl6 hok6
            have hcbl:=zFv (zCi r o) hekl l6 hok6
            have H6:=Zh (Zi hp6 (Zi hs6 (Zi hb6 (Zi hcb hcbl))))
            clear hbl6 hp6 hs6 hb6 hek hekl hok6 hw6 hcb hcbl q5 r5 q3 r3 c351
            go_wp2_with fail
            refine H6.o.2.2.2.1.mono ?_
            rintro e w7 ⟨v7,rfl,ho7,hb7⟩
            obtain ⟨a7,c7,rfl⟩:=ho7.eq_slice
            obtain ⟨n7,hn7⟩:∃ q,q=(zAj (zCi r o) l6).length:=⟨_,rfl⟩
            rw [← hn7]
            have HN7:=Zh hn7
            have hb67:=hb7
            have hw7:=(H5.o.2.2.1.trans (H6.o.2.2.1.mono H5.o.2.2.1.size)).trans (hb7.mono (Nat.le_trans H5.o.2.2.1.size H6.o.2.2.1.size))
            have hb57:=H6.o.2.2.1.trans (hb7.mono H6.o.2.2.1.size)
            have hb37:=G2.o.trans (hb57.mono G2.o.size)
            have hR7:=H5.o.2.1.below hb57
            have hk57:=H5.o.1.kept hb57
            have hS7:=H3.o.2.2.2.2.1.below hb37
            have hk47:=H3.o.2.2.2.1.kept hb37
            obtain ⟨cr2,hcr2⟩:∃ c,c=zM r:=⟨_,rfl⟩
            have hcl:cr2.length=52:=by rw [hcr2];exact zAU H.o.2.2.1
            have hrr:∀ w',Below w7.heap.size w7 w'→w'.rangeAt p3 0 cr2:=fun w' hb=>by
             have:=zAD (hR7.below hb).hall
             rw [(hR7.below hb).rall,← hcr2] at this
             exact this
            have hri:∀ w',Below w7.heap.size w7 w'→w'.rangeAt p3 1 ki:=fun w' hb=>by
             have:=zAD (hR7.below hb).hix
             rw [(hR7.below hb).rix,← HKI.o] at this
             exact this
            have h50:∀ w',Below w7.heap.size w7 w'→w'.cell? ⟨p5,0,none⟩=some (.bool is):=fun w' hb=>by
             rw [(hk57.kept hb).cell 0];simpa using hc0
            have hki:ki.length=16:=by rw [HKI.o,zB];exact H.o.2.2.1.ix
            have hslot:∀ w',w'=w7.drew→Calls Tryz.prog 108 #[.agg ki.toArray] w' fun e w''=>∃ v',e=.returned v'∧(v'=.string (zAM r.ix)∧Below w7.heap.size w7 w''):=fun w' e=>by
             subst e
             rw [HKI.o]
             refine (zDv r.ix H.o.2.2.1.ix w7.drew).mono ?_
             rintro e w'' ⟨rfl,hb⟩
             exact ⟨_,rfl,rfl,zBf hb rfl⟩
            have H7:=Zh (Zi ho7 (Zi hw7 (Zi hR7 (Zi hk57 (Zi hS7 (Zi hk47 (Zi hcr2 hb57)))))))
            clear ho7 hb7 hn7 hw7 hb57 hb37 hR7 hk57 hS7 hk47 hcr2 hb67
            obtain ⟨nm,hnm⟩:∃ x,x=zAM r.ix:=⟨_,rfl⟩
            have HNM:=Zh hnm
            rw [← hnm] at hslot
            clear hnm
            go_upto_region 13 with fail
            refine Tail.zAa 8 4 (fun w'=>w'=w7.drew) (fun vo w'=>vo=.string nm∧Below w7.heap.size w7 w') (by kernel_rfl) (by kernel_rfl) (by decide) rfl ?_ (fun z hz=>?_)
            · obtain ⟨e,w',fr,⟨vo,rfl,h⟩,_⟩:=hslot w7.drew rfl []
              exact ⟨vo,w',h⟩
            simp only [List.take_succ_cons,List.take_zero,List.drop_succ_cons,List.drop_zero]
            obtain rfl:z=.string nm:=by
             obtain ⟨_,h,_⟩:=hz
             exact h
            clear hz
            iterate 1
             refine Tail.zB6 (by decide) (by rfl) ?_
             apply Exists.intro
             refine ⟨fun w=>?_,?_⟩
             · go_simp <;> with_reducible rfl
             simp only [Act.put,List.setIfInBounds_toArray,List.set_cons_zero,List.set_cons_succ]
            refine Tail.zDY (by decide) (by rfl) _ _ rfl p3 0 rfl cr2 (fun w h=>by rw [h];exact hrr w7.drew (Below.refl _ _).drew) (fun w h=>hrr w h.2) Tryz.underlying47 rfl (by rw [i52,hcl]) ?_
            simp only [Act.put,List.setIfInBounds_toArray,List.set_cons_zero,List.set_cons_succ]
            iterate 1
             refine Tail.zB6 (by decide) (by rfl) ?_
             apply Exists.intro
             refine ⟨fun w=>?_,?_⟩
             · go_simp <;> with_reducible rfl
             simp only [Act.put,List.setIfInBounds_toArray,List.set_cons_zero,List.set_cons_succ]
            refine Tail.zDY (by decide) (by rfl) _ _ rfl p3 1 rfl ki (fun w h=>by rw [h];exact hri w7.drew (Below.refl _ _).drew) (fun w h=>hri w h.2) Tryz.underlying39 rfl (by rw [i16,hki]) ?_
            simp only [Act.put,List.setIfInBounds_toArray,List.set_cons_zero,List.set_cons_succ]
            refine Tail.zDX (by rfl) (fun w hw=>?_) ?_
            · apply Exists.intro
              apply Exists.intro
              refine ⟨?_,hslot w hw⟩
              go_simp <;> with_reducible rfl
            simp only [Act.put,List.setIfInBounds_toArray,List.set_cons_zero,List.set_cons_succ]
            iterate 2
             refine Tail.zB6 (by decide) (by rfl) ?_
             apply Exists.intro
             refine ⟨fun w=>?_,?_⟩
             · go_simp <;> with_reducible rfl
             simp only [Act.put,List.setIfInBounds_toArray,List.set_cons_zero,List.set_cons_succ]
            refine Tail.zGv (by decide) (.bool is) (by rfl) (fun w h=>?_) (fun w h=>?_) ?_
            · subst h
              have hc:=h50 w7 (Below.refl _ _)
              go_simp <;> with_reducible rfl
            · have hc:=h50 w h.2
              go_simp <;> with_reducible rfl
            simp only [Act.put,List.setIfInBounds_toArray,List.set_cons_zero,List.set_cons_succ]
            intro w8 hw8
            have hb78:=hw8.2
            have hw08:=H7.o.2.1.trans (hb78.mono H7.o.2.1.size)
            have hnmz:(zAM r.ix).size≤1000000:=by
             have:(zAM r.ix).size=17:=by
              show (99::r.ix).toArray.size=17
              simp [H.o.2.2.1.ix]
             omega
            have hask:=zGx C _ pb s r H.o.2.2.1 (zAM r.ix) (.slice a7 n7 c7) (zAj (zCi r o) l6) is w8 (H7.o.2.2.2.2.1.below hb78) H.o.2.1 (HN7.o ▸ (H7.o.1.below hb78).bys) hnmz
            rw [← H7.o.2.2.2.2.2.2.1,← HNM.o] at hask
            have H8:=Zh (Zi hb78 (Zi hw08 (Zi hnmz hask)))
            clear hw8 hb78 hw08  hask hrr hri h50 hslot
            go_wp2_with fail
            refine H8.o.2.2.2.mono ?_
            rintro e w9 ⟨err,rfl,hask,hb9⟩
            have hb79:=H8.o.1.trans (hb9.mono H8.o.1.size)
            have H9:=Zh (Zi hask (Zi hb79 (H7.o.2.1.trans (hb79.mono H7.o.2.1.size))))
            clear hask hb9 hb79
            by_cases he:err=0
            rotate_left
            · have t0:(err != 0)=true:=by simpa using he
              have t0':(err == 0)=false:=by simpa using he
              have HF:Hid (zBC s r l ts o err s):=zBC.no HOK.o HEN.o HALL.o l6 H6.o.1 H6.o.2.1 err (by have:=H9.o.1;rw [HNM.o,HC.o.2.1] at this;exact this) he
              replace he:=Zh he
              go_wp2_with fail
              refine (zV err w9).mono ?_
              rintro e wf ⟨rfl,hbf⟩
              have k4f:=(H7.o.2.2.2.2.2.1.kept H9.o.2.1).kept hbf
              have f40:=k4f.free 0
              have f41:=k4f.free 1
              have c40:wf.cell? ⟨p4,0,none⟩=some (.int .i64 0):=k4f.cell 0
              have c41:wf.cell? ⟨p4,1,none⟩=some (.slice none 0 0):=k4f.cell 1
              have l4f:=k4f.lt
              have HBF:=Zh hbf
              clear hbf k4f
              go_wp2_with fail
              have hE:=zm (x:=.int .i64 err) (y:=.slice none 0 0) ((H7.o.2.2.2.2.1.below H9.o.2.1).below HBF.o) ((zAO.of_below H9.o.2.2).post HBF.o) (by rw [HW.o.2.2];omega)
              exact bodyPost_ret (v:=.agg #[.int .i64 err,.slice none 0 0]) (by simp [results,Tryz.results94,go_sem,c40,c41]) rfl ⟨C,err,s,rfl,HF.o,hE.1,hE.2⟩
            · subst he
              obtain ⟨sb,lb,d,L,tb,v,hA⟩:=H7.o.2.2.2.2.1.below H9.o.2.1
              have hhi:∀ w',Below w9.heap.size w9 w'→w'.rangeAt p3 1 ki:=fun w' hb=>by
               have hR9:=(H7.o.2.2.1.below H9.o.2.1).below hb
               have:=zAD hR9.hix
               rw [hR9.rix,← HKI.o] at this
               exact this
              have h30:∀ w',Below w9.heap.size w9 w'→w'.cell? ⟨pb,3,none⟩=some (.pointer (some ⟨sb,0,none⟩)):=fun w' hb=>(hA.below hb).blk.cell 3
              have hslot:∀ w',w'=w9.drew→Calls Tryz.prog 108 #[.agg ki.toArray] w' fun e w''=>∃ v',e=.returned v'∧(v'=.string nm∧Below w9.heap.size w9 w''):=fun w' e=>by
               subst e
               rw [HKI.o,HNM.o]
               refine (zDv r.ix H.o.2.2.1.ix w9.drew).mono ?_
               rintro e w'' ⟨rfl,hb⟩
               exact ⟨_,rfl,rfl,zBf hb rfl⟩
              have HA:=Zh hA
              clear hA
              go_upto_region 16 with fail
              refine Tail.zAa 8 6 (fun w'=>w'=w9.drew) (fun vo w'=>vo=.string nm∧Below w9.heap.size w9 w') (by kernel_rfl) (by kernel_rfl) (by decide) rfl ?_ (fun z hz=>?_)
              · obtain ⟨e,w',fr,⟨vo,rfl,h⟩,_⟩:=hslot w9.drew rfl []
                exact ⟨vo,w',h⟩
              simp only [List.take_succ_cons,List.take_zero,List.drop_succ_cons,List.drop_zero]
              obtain rfl:z=.string nm:=by
               obtain ⟨_,h,_⟩:=hz
               exact h
              clear hz
              iterate 3
               refine Tail.zB6 (by decide) (by rfl) ?_
               apply Exists.intro
               refine ⟨fun w=>?_,?_⟩
               · go_simp <;> with_reducible rfl
               simp only [Act.put,List.setIfInBounds_toArray,List.set_cons_zero,List.set_cons_succ]
              refine Tail.zGv (by decide) (.pointer (some ⟨sb,0,none⟩)) (by rfl) (fun w h=>?_) (fun w h=>?_) ?_
              · subst h
                have hc:=h30 w9 (Below.refl _ _)
                go_simp <;> with_reducible rfl
              · have hc:=h30 w h.2
                go_simp <;> with_reducible rfl
              simp only [Act.put,List.setIfInBounds_toArray,List.set_cons_zero,List.set_cons_succ]
              iterate 1
               refine Tail.zB6 (by decide) (by rfl) ?_
               apply Exists.intro
               refine ⟨fun w=>?_,?_⟩
               · go_simp <;> with_reducible rfl
               simp only [Act.put,List.setIfInBounds_toArray,List.set_cons_zero,List.set_cons_succ]
              refine Tail.zDY (by decide) (by rfl) _ _ rfl p3 1 rfl ki (fun w h=>by rw [h];exact hhi w9.drew (Below.refl _ _).drew) (fun w h=>hhi w h.2) Tryz.underlying39 rfl (by rw [i16,hki]) ?_
              simp only [Act.put,List.setIfInBounds_toArray,List.set_cons_zero,List.set_cons_succ]
              refine Tail.zDX (by rfl) (fun w hw=>?_) ?_
              · apply Exists.intro
                apply Exists.intro
                refine ⟨?_,hslot w hw⟩
                go_simp <;> with_reducible rfl
              simp only [Act.put,List.setIfInBounds_toArray,List.set_cons_zero,List.set_cons_succ]
              iterate 1
               refine Tail.zB6 (by decide) (by rfl) ?_
               apply Exists.intro
               refine ⟨fun w=>?_,?_⟩
               · go_simp <;> with_reducible rfl
               simp only [Act.put,List.setIfInBounds_toArray,List.set_cons_zero,List.set_cons_succ]
              intro w10 hw10
              have hb90:=hw10.2
              have hb70:=H9.o.2.1.trans (hb90.mono H9.o.2.1.size)
              have hAt:=HA.o.below hb90
              have hby:=(H7.o.1.below hb70)
              have hgl:∀ b,C b→b < w.heap.size:=fun b hb=>H.o.1.lt (.inl hb)
              have hwz:w.heap.size≤w6.heap.size:=Nat.le_trans H5.o.2.2.1.size H6.o.2.2.1.size
              have hput:=zC9 _ sb lb d L s.st (zAM r.ix) (.slice a7 n7 c7) (zAj (zCi r o) l6) w10 hAt.st (HN7.o ▸ hby.bys) H8.o.2.2.1 (by have:=H6.o.2.2.2.2;have:l6.length*16420≤32*16420:=Nat.mul_le_mul_right _ hl6;omega) (fun w' hc=>HN7.o ▸ (hby.chg (S:=zBi sb lb d L) hc (fun g hg hf=>by
               have h1:=hgl g (HA.o.foot g hf)
               have h2:=(hby.lt g hg).1
               omega)).bys) (by have:=hwr;omega)
              obtain ⟨z1,hz1⟩:∃ z,z=(zU s.st nm (zAj (zCi r o) l6)).1:=⟨_,rfl⟩
              obtain ⟨st1,hst1⟩:∃ z,z=(zU s.st nm (zAj (zCi r o) l6)).2:=⟨_,rfl⟩
              have HZ:=Zh (Zi hz1 hst1)
              rw [← HNM.o] at hput
              have H10:=Zh (Zi hb90 (Zi hAt (Zi hput (H7.o.2.1.trans (hb70.mono H7.o.2.1.size)))))
              clear hw10 hb90 hb70 hAt hby hput hz1 hst1 hslot hhi h30
              go_wp2_with fail
              refine H10.o.2.2.1.mono ?_
              rintro e w11 ⟨rfl,hst5,hc5⟩
              have hA5:=H10.o.2.1.store hc5 hst5
              have hp4C:¬ C p4:=fun hC=>by have:=hgl p4 hC;have:=HW.o.2.2;omega
              have hp3C:¬ C p3:=fun hC=>by have:=hgl p3 hC;have:=HW.o.2.1;omega
              rw [← HZ.o.2] at hA5
              rw [← HZ.o.1]
              have hcw:Chg C w w11:=(Chg.of_below H10.o.2.2.2).trans (hc5.mono HA.o.foot)
              have hb710:=H9.o.2.1.trans (H10.o.1.mono H9.o.2.1.size)
              have hk411:=hc5.blk (H7.o.2.2.2.2.2.1.kept hb710) (fun hf=>hp4C (HA.o.foot _ hf))
              have hR11:=(H7.o.2.2.1.below hb710).chg hc5 (fun hf=>hp3C (HA.o.foot _ hf))
              have H11:=Zh (Zi (show zR w11 C (fun b=>X b∨b=p4) pb { s with st:=st1 } from ⟨sb,lb,d,L,tb,v,hA5⟩) (Zi hk411 (Zi hR11 (Zi hp4C (show zAO C C w w11 from ⟨hcw,fun b hb=>.inl hb⟩)))))
              clear hst5 hc5 hA5 hp4C hp3C hcw hb710 hk411 hR11
              by_cases hz0:z1=0
              rotate_left
              · have t0:(z1 != 0)=true:=by simpa using hz0
                have t0':(z1 == 0)=false:=by simpa using hz0
                have HF:Hid (zBC s r l ts o z1 { s with st:=st1 }):=by
                 show zBC s r l ts o z1 { s with st:=st1 }
                 rw [HZ.o.1,HZ.o.2,HNM.o]
                 exact zBC.torn HOK.o HEN.o HALL.o l6 H6.o.1 H6.o.2.1 (by have:=H9.o.1;rw [HNM.o,HC.o.2.1] at this;exact this) (by rw [← HNM.o,← HZ.o.1];exact hz0)
                replace hz0:=Zh hz0
                go_wp2_with fail
                refine (zV z1 w11).mono ?_
                rintro e wf ⟨rfl,hbf⟩
                have k4f:=H11.o.2.1.kept hbf
                have f40:=k4f.free 0
                have f41:=k4f.free 1
                have c40:wf.cell? ⟨p4,0,none⟩=some (.int .i64 0):=k4f.cell 0
                have c41:wf.cell? ⟨p4,1,none⟩=some (.slice none 0 0):=k4f.cell 1
                have l4f:=k4f.lt
                have HBF:=Zh hbf
                clear hbf k4f
                go_wp2_with fail
                have hE:=zm (x:=.int .i64 z1) (y:=.slice none 0 0) ((H11.o.1).below HBF.o) ((H11.o.2.2.2.2).post HBF.o) (by rw [HW.o.2.2];omega)
                exact bodyPost_ret (v:=.agg #[.int .i64 z1,.slice none 0 0]) (by simp [results,Tryz.results94,go_sem,c40,c41]) rfl ⟨C,z1,{ s with st:=st1 },rfl,HF.o,hE.1,hE.2⟩
              · have HZ0:=Zh hz0
                subst hz0
                have r52:=H11.o.2.2.1.rall
                have g52:=H11.o.2.2.1.hall
                rw [← H7.o.2.2.2.2.2.2.1] at r52
                go_wp2_with fail
                refine (show Calls _ _ _ _ _ from (by rw [H7.o.2.2.2.2.2.2.1];exact zCD C _ pb { s with st:=st1 } r H.o.2.2.1 w11 H11.o.1 ⟨H.o.2.1.tab,by rw [HZ.o.2];have h1:=zFH s.st nm (zAj (zCi r o) l6);have h2:=hwr;have h3:=HA.o.st.ok.room2;simp only;omega⟩)).mono ?_
                rintro e w12 ⟨C',err2,s',rfl,hadd,hs',hsc⟩
                have hk46:=hsc.1.blk H11.o.2.1 H11.o.2.2.2.1
                have HF:Hid (zBC s r l ts o err2 s'):=by
                 refine zBC.put HOK.o HEN.o HALL.o l6 H6.o.1 H6.o.2.1 err2 s' (by have:=H9.o.1;rw [HNM.o,HC.o.2.1] at this;exact this) (by rw [← HNM.o];exact HZ.o.1.symm) ?_
                 rw [← HNM.o,← HZ.o.2]
                 exact hadd
                have H12:=Zh (Zi hs' (Zi (H11.o.2.2.2.2.trans hsc) hk46))
                clear hadd hs' hsc hk46 r52 g52
                go_wp2_with fail
                refine (zV err2 w12).mono ?_
                rintro e wf ⟨rfl,hbf⟩
                have k4f:=H12.o.2.2.kept hbf
                have f40:=k4f.free 0
                have f41:=k4f.free 1
                have c40:wf.cell? ⟨p4,0,none⟩=some (.int .i64 0):=k4f.cell 0
                have c41:wf.cell? ⟨p4,1,none⟩=some (.slice none 0 0):=k4f.cell 1
                have l4f:=k4f.lt
                have HBF:=Zh hbf
                clear hbf k4f
                go_wp2_with fail
                have hE:=zm (x:=.int .i64 err2) (y:=.slice none 0 0) ((H12.o.1).below HBF.o) ((H12.o.2.1).post HBF.o) (by rw [HW.o.2.2];omega)
                exact bodyPost_ret (v:=.agg #[.int .i64 err2,.slice none 0 0]) (by simp [results,Tryz.results94,go_sem,c40,c41]) rfl ⟨C',err2,s',rfl,HF.o,hE.1,hE.2⟩
end Go.Proofs.YtbbojbdigiibbaaGreatDoor
end
section
namespace Go.Mem
open Go Go.RowKit Gf Lea Go.Proofs.YtbbojbdigiibbaaGreatDoor
inductive DoR (s:zF) (r:Req) (l:List zP) (ts:List Tst) (o:Option (Key × List zP)):Int→List zP→zF→Prop
 | dead (h:s.dead=true):DoR s r l ts o 8 [] s
 | form (h:s.dead=false) (hk:∀ k:Nat,zDD k=true→(k:Int)≠r.kind):DoR s r l ts o 2 [] s
 | get (h:s.dead=false) (hk:r.kind=1):DoR s r l ts o 0 (s.shares r.ix) s
 | put (h:s.dead=false) (hk:r.kind=2) (err:Int) (s':zF) (hp:zBB s r l err s'):DoR s r l ts o err [] s'
 | slot (h:s.dead=false) (hk:r.kind=3):DoR s r l ts o 0 (zw o) s
 | swap (h:s.dead=false) (hk:r.kind=4) (err:Int) (s':zF) (hp:zBC s r l ts o err s'):DoR s r l ts o err [] s'
 | renew (h:s.dead=false) (hk:r.kind=5) (err:Int) (s':zF) (hp:zCa s r o err s'):DoR s r l ts o err [] s'
 | cancel (h:s.dead=false) (hk:r.kind=6) (err:Int) (s':zF) (hp:zDj s r.ix r.sec err s'):DoR s r l ts o err [] s'
end Go.Mem
namespace Go.Proofs.YtbbojbdigiibbaaGreatDoor
open Go Go.RowKit Go.Mem Gf Lea
set_option linter.unusedVariables false
section
variable {w0 w:World} {C:Nat→Prop} {pb:Nat} {s:zF}
theorem zAW.swap (h:zAW w0 w C pb s) (hd:s.dead=false) (hB:zCb s) (hw:s.st.disk.writes < 72057594037800000) {r:Req} (hr:r.Wf) (hk:r.kind=4) {l:List zP} (hl:zAI w C r.vb l) (hz:∀ x∈l,x.2.length≤16384) {ts:List Tst} (hts:zDk w C r.vt ts) {o:Option (Key × List zP)} (ho:zA5 s r.ix o) :
  Calls Tryz.prog 20 #[.pointer (some ⟨pb,0,none⟩),.agg (zM r).toArray] w fun e w'=>∃ C' err s',e=.returned (.agg #[.int .i64 err,.slice none 0 0])∧zBC s r l ts o err s'∧zAW w0 w' C' pb s'∧zAO C C' w w':=by
 refine (zDn hr h.srv hd 4 rfl hk (zBC s r l ts o) fun w1 p4 hb h4 hs=>?_).mono ?_
 · have hm:∀ b,(C b∨(False∨b=p4))→C b∨w.heap.size≤b:=fun b hb'=>hb'.elim .inl (fun h'=>h'.elim (fun f=>f.elim) (fun e=>.inr (by rw [e];exact h4)))
   have hl1:zAI w1 (fun b=>C b∨(False∨b=p4)) r.vb l:=zAI.below (hl.mono hm) hb
   have ht1:zDk w1 (fun b=>C b∨(False∨b=p4)) r.vt ts:=zDk.below (hts.mono hm) hb
   exact zJE C _ pb s r l ts o hr w1 hs hB hw hl1 hz ht1 ho
 · rintro e w' ⟨C',err,s',rfl,hR,hs',hsc⟩
   exact ⟨C',err,s',rfl,hR,h.sch hs' hsc,hsc⟩
theorem zAW.any (h:zAW w0 w C pb s) (hB:zCb s) (hw:s.st.disk.writes < 72057594037800000) {r:Req} (hr:r.Wf) {l:List zP} (hl:zAI w C r.vb l) (hz:∀ x∈l,x.2.length≤16384) {ts:List Tst} (hts:zDk w C r.vt ts) {o:Option (Key × List zP)} (ho:s.dead=false→zA5 s r.ix o) :
  Calls Tryz.prog 20 #[.pointer (some ⟨pb,0,none⟩),.agg (zM r).toArray] w fun e w'=>∃ C' err u lb s',e=.returned (.agg #[.int .i64 err,u])∧zAH 53 w' w.heap.size (fun b=>b < w.heap.size) u lb∧DoR s r l ts o err lb s'∧zAW w0 w' C' pb s'∧zAO C C' w w':=by
 cases hd:s.dead with
 | true =>
   refine (h.gone hd hr).mono ?_
   rintro e w' ⟨C',rfl,hL,hsc⟩
   exact ⟨C',8,_,[],s,rfl,zAH.nil _ _ _ _,.dead hd,hL,hsc⟩
 | false =>
   have ho:=ho hd
   by_cases hk:∃ k:Nat,zDD k=true∧(k:Int)=r.kind
   · obtain ⟨k,hk1,hk2⟩:=hk
     have hk3:1≤k∧k≤6:=by unfold zDD at hk1;simpa using hk1
     rcases (by omega:k=1∨k=2∨k=3∨k=4∨k=5∨k=6) with rfl | rfl | rfl | rfl | rfl | rfl
     · refine (h.get hd hB hr hk2.symm).mono ?_
       rintro e w' ⟨u,rfl,hO,hb⟩
       exact ⟨C,0,u,_,s,rfl,hO,.get hd hk2.symm,h.step hb,zAO.of_below hb⟩
     · refine (h.put hd hB hw hr hk2.symm hl (fun x hx=>by have:=hz x hx;omega)).mono ?_
       rintro e w' ⟨C',err,s',rfl,hR,hL,hsc⟩
       exact ⟨C',err,_,[],s',rfl,zAH.nil _ _ _ _,.put hd hk2.symm err s' hR,hL,hsc⟩
     · refine (h.slot hd hB hr hk2.symm ho).mono ?_
       rintro e w' ⟨u,rfl,hO,hb⟩
       exact ⟨C,0,u,_,s,rfl,hO,.slot hd hk2.symm,h.step hb,zAO.of_below hb⟩
     · refine (h.swap hd hB hw hr hk2.symm hl hz hts ho).mono ?_
       rintro e w' ⟨C',err,s',rfl,hR,hL,hsc⟩
       exact ⟨C',err,_,[],s',rfl,zAH.nil _ _ _ _,.swap hd hk2.symm err s' hR,hL,hsc⟩
     · refine (h.renew hd hB hr hk2.symm ho).mono ?_
       rintro e w' ⟨C',err,s',rfl,hR,hL,hsc⟩
       exact ⟨C',err,_,[],s',rfl,zAH.nil _ _ _ _,.renew hd hk2.symm err s' hR,hL,hsc⟩
     · refine (h.cancel hd hB hr hk2.symm).mono ?_
       rintro e w' ⟨C',err,s',rfl,hR,hL,hsc⟩
       exact ⟨C',err,_,[],s',rfl,zAH.nil _ _ _ _,.cancel hd hk2.symm err s' hR,hL,hsc⟩
   · have hk':∀ k:Nat,zDD k=true→(k:Int)≠r.kind:=fun k h1 h2=>hk ⟨k,h1,h2⟩
     refine (h.form hd hr hk').mono ?_
     rintro e w' ⟨C',rfl,hL,hsc⟩
     exact ⟨C',2,_,[],s,rfl,zAH.nil _ _ _ _,.form hd hk',hL,hsc⟩
end
end Go.Proofs.YtbbojbdigiibbaaGreatDoor
end
section
namespace Go.Mem
open Go Go.RowKit Gf Lea Go.Proofs.YtbbojbdigiibbaaGreatDoor
theorem zMa {l:List zP} {num:Int} (h:zDZ l num=none):num∉l.map (·.1):=by
 intro hm
 obtain ⟨x,hx,e⟩:=List.mem_map.1 hm
 unfold zDZ at h
 rw [Option.map_eq_none_iff,List.find?_eq_none] at h
 exact h x hx (by simpa using e)
theorem zEV:∀ (r out:List zP),(out.map (·.1)).Nodup→((zAy out r).map (·.1)).Nodup
 | [],_,h=>h
 | b::r,out,h=>by
   rw [zAy]
   split
   · rename_i hn
     refine zEV r _ ?_
     rw [List.map_append,List.nodup_append]
     refine ⟨h,by simp,fun a ha c hc e=>?_⟩
     simp at hc
     subst hc
     subst e
     exact zMa hn ha
   · exact zEV r _ h
theorem zME {l lo l':List zP} (hl:zAd l) (hz:∀ x∈l,x.2.length≤16384) (ho:zEp lo) (hp:l'.Perm (zAy l lo)) (hs:l'.Pairwise fun a b:zP=>a.1≤b.1):zEp l'∧l'.length≤16∧(l'.map (·.1)).Pairwise (· < ·):=by
 have hb:zEp l':=by
  refine ⟨fun x hx=>?_,fun x hx=>?_⟩
  · rcases zCu (hp.mem_iff.1 hx) with h | h
    · exact hl.1 x h
    · exact ho.num x h
  · rcases zCu (hp.mem_iff.1 hx) with h | h
    · exact hz x h
    · exact ho.len x h
 have hn:(l'.map (·.1)).Nodup:=(hp.map _).nodup_iff.2 (zEV lo l hl.2)
 refine ⟨hb,?_,?_⟩
 · have:=zFf 16 (l'.map (·.1)) hn (fun x hx=>by
    obtain ⟨y,hy,rfl⟩:=List.mem_map.1 hx
    exact hb.num y hy)
   rwa [List.length_map] at this
 · rw [List.pairwise_map]
   rw [List.Nodup,List.pairwise_map] at hn
   exact (hs.and hn).imp fun {a b} h=>by have h1:=h.1;have h2:=h.2;omega
theorem zGH:∀ (r out:List zP) {x:zP},x∈out→x∈zAy out r
 | [],_,_,h=>h
 | b::r,out,x,h=>by
   rw [zAy]
   split
   · exact zGH r _ (List.mem_append_left _ h)
   · exact zGH r _ h
theorem zMD {l lo l':List zP} (h:l≠[]) (hp:l'.Perm (zAy l lo)):l'≠[]:=fun e=>by
 obtain ⟨x,hx⟩:=List.exists_mem_of_ne_nil l h
 have:=hp.mem_iff.2 (zGH lo l hx)
 rw [e] at this
 cases this
def zBu (m:Nat) (s:zF) (ix:Key) (s':zF):Prop :=
 (s'.slots=s.slots∧s'.room=s.room) ∧
 ((zAm m s'∧s'.st.disk.stops=s.st.disk.stops∧(∀ nm,zCe nm≠ix→Sto.look s'.st.recs nm=Sto.look s.st.recs nm)∧∀ ix',ix'≠ix→(ofL s'.tab ix').Perm (ofL s.tab ix')) ∨
  (s.st.disk.stops=true∧∃ l,zFO m s' l∧∀ nm,zCe nm≠ix→Sto.look l nm=Sto.look s.st.recs nm))
theorem zBu.refl {m:Nat} {s:zF} (h:zAm m s) (ix:Key):zBu m s ix s:=⟨⟨rfl,rfl⟩,.inl ⟨h,rfl,fun _ _=>rfl,fun _ _=>List.Perm.refl _⟩⟩
theorem zBu.le {m m':Nat} {s s':zF} {ix:Key} (h:zBu m s ix s') (hm:m≤m'):zBu m' s ix s':=by
 refine ⟨h.1,?_⟩
 rcases h.2 with ⟨a,b⟩ | ⟨a,l,b,c⟩
 · exact .inl ⟨a.le hm,b⟩
 · exact .inr ⟨a,l,b.le hm,c⟩
theorem zBu.trans {m:Nat} {s s1 s':zF} {ix:Key} (h1:s1.slots=s.slots∧s1.room=s.room) (h2:s1.st.disk.stops=s.st.disk.stops) (h3:∀ nm,zCe nm≠ix→Sto.look s1.st.recs nm=Sto.look s.st.recs nm) (h4:∀ ix',ix'≠ix→(ofL s1.tab ix').Perm (ofL s.tab ix')) (h:zBu m s1 ix s'):zBu m s ix s':=by
 refine ⟨⟨h.1.1.trans h1.1,h.1.2.trans h1.2⟩,?_⟩
 rcases h.2 with ⟨a,b,c,d⟩ | ⟨a,l,b,c⟩
 · exact .inl ⟨a,b.trans h2,fun nm hn=>(c nm hn).trans (h3 nm hn),fun ix' hn=>(d ix' hn).trans (h4 ix' hn)⟩
 · exact .inr ⟨h2 ▸ a,l,b,fun nm hn=>(c nm hn).trans (h3 nm hn)⟩
theorem zCt {f:zE6} {nm nm':ByteArray} {x:Option (List UInt8)} {ix:Key} (h:zCe nm=ix) (hn:zCe nm'≠ix):upd f nm x nm'=f nm':=by
 unfold upd
 rw [if_neg (fun e=>hn (by rw [e];exact h))]
theorem zHI {s s':zF} {ix:Key} {l2:List Les} {err:Int} (h:zGs s ix l2 err s'):s'.slots=s.slots∧s'.room=s.room:=by
 obtain ⟨out,_,_,e⟩:=h
 subst e
 split <;> exact ⟨rfl,rfl⟩
theorem zAm.stepAdd {m:Nat} {s:zF} (h:zAm m s) (hm:m < 1000000) {ix sec:Key} (hix:ix.length=16) (hsec:sec.length=16) {e err:Int} {s':zF} (hl:zCv s ix sec e err s'):zBu (m+1) s ix s':=by
 have hsl:s'.slots=s.slots∧s'.room=s.room:=by
  cases hl with
  | full _=>exact ⟨rfl,rfl⟩
  | laid _ _ _ _ hy=>exact zHI hy
 rcases h.add hm hix hsec hl with ⟨_,e,_⟩ | ⟨l2,out,ha,hR,h0,hc⟩
 · rw [e];exact (zBu.refl h ix).le (Nat.le_succ m)
 · rcases hc with ⟨_,hg,ht,hk,hst⟩ | ⟨_,e⟩ | ⟨_,hst,l,hx,hk⟩
   · exact ⟨hsl,.inl ⟨hg,hst,fun nm hn=>by rw [hk];exact zCt (zA7 hix) hn,fun ix' hn=>by rw [ht];exact ha.other hn⟩⟩
   · rw [e];exact (zBu.refl h ix).le (Nat.le_succ m)
   · refine ⟨hsl,.inr ⟨hst,l,hx,fun nm hn=>?_⟩⟩
     rcases hk with hk | hk
     · exact hk nm
     · rw [hk];exact zCt (zA7 hix) hn
theorem zAm.stepCan {m:Nat} {s:zF} (h:zAm m s) (hm:m < 1000000) {ix sec:Key} (hix:ix.length=16) {err:Int} {s':zF} (hl:zDj s ix sec err s'):zBu (m+1) s ix s':=by
 cases hl with
 | no _=>exact (zBu.refl h ix).le (Nat.le_succ m)
 | laid l2 _ _ ha hy =>
   have hsl:=zHI hy
   obtain ⟨out,hR,hc⟩:=h.lay hm hix (ha.good h.good) (fun x hx=>h.wf x (ha.sub x hx)) (fun ix' hn=>ha.other hn) hy
   rcases hc with ⟨_,hg,ht,hk,hst⟩ | ⟨_,e⟩ | ⟨_,hst,l,hx,hk⟩
   · exact ⟨hsl,.inl ⟨hg,hst,fun nm hn=>by rw [hk];exact zCt (zA7 hix) hn,fun ix' hn=>by rw [ht];exact ha.other hn⟩⟩
   · rw [e];exact (zBu.refl h ix).le (Nat.le_succ m)
   · refine ⟨hsl,.inr ⟨hst,l,hx,fun nm hn=>?_⟩⟩
     rcases hk with hk | hk
     · exact hk nm
     · rw [hk];exact zCt (zA7 hix) hn
theorem zAm.stepRec {m:Nat} {s:zF} (h:zAm m s) (hm:m+1 < 1000000) {ix:Key} (hix:ix.length=16) {name:ByteArray} {data:List UInt8} (hr:zAe name data) (hn:∀ ix,name≠zD ix) (hi:zCe name=ix) :
  ((zU s.st name data).1≠0→zBu (m+2) s ix { s with st:=(zU s.st name data).2 }) ∧
  ((zU s.st name data).1=0→∀ (sec:Key) (e err:Int) (s':zF),sec.length=16→zCv { s with st:=(zU s.st name data).2 } ix sec e err s'→zBu (m+2) s ix s'):=by
 rcases h.put (by omega) hr hn with ⟨h0,hg,hk,hst⟩ | ⟨h0,e⟩ | ⟨h0,hst,l,hx,hk⟩
 · refine ⟨fun hne=>absurd h0 hne,fun _ sec e err s' hsec ha=>?_⟩
   exact zBu.trans (s1:={ s with st:=(zU s.st name data).2 }) ⟨rfl,rfl⟩ hst (fun nm hn=>by show Sto.look (zU s.st name data).2.recs nm=_;rw [hk];exact zCt hi hn) (fun _ _=>List.Perm.refl _) (hg.stepAdd (by omega) hix hsec ha)
 · refine ⟨fun _=>?_,fun h1=>by omega⟩
   rw [e]
   exact (zBu.refl h ix).le (by omega)
 · refine ⟨fun _=>⟨⟨rfl,rfl⟩,.inr ⟨hst,l,hx.le (by omega),fun nm hn=>?_⟩⟩,fun h1=>by omega⟩
   rcases hk with hk | hk
   · exact hk nm
   · rw [hk];exact zCt hi hn
theorem zAm.stepDo {m:Nat} {s:zF} (h:zAm m s) (hm:m+1 < 1000000) {r:Req} (hr:r.Wf) {l:List zP} (hz:∀ x∈l,x.2.length≤16384) {ts:List Tst} {o:Option (Key × List zP)} (ho:zA5 s r.ix o) {err:Int} {lb:List zP} {s':zF} (hR:DoR s r l ts o err lb s'):zBu (m+2) s r.ix s':=by
 have href:=(zBu.refl h r.ix).le (show m≤m+2 by omega)
 cases hR with
 | dead _=>exact href
 | form _ _=>exact href
 | get _ _=>exact href
 | slot _ _=>exact href
 | put _ _ err s' hp =>
   cases hp with
   | form _=>exact href
   | no _ _ _ _ _ _ _ _=>exact href
   | torn n data hl hn _ _ _ h0 =>
     have hd:=hz (((n:Nat):Int),data) (by rw [hl];simp)
     exact (h.stepRec hm hr.ix (zAe.share r.ix n data hr.ix hn hd) (fun ix=>zB1) (zCJ n hr.ix)).1 h0
   | put n data err s' hl hn _ _ _ h0 hs =>
     have hd:=hz (((n:Nat):Int),data) (by rw [hl];simp)
     exact (h.stepRec hm hr.ix (zAe.share r.ix n data hr.ix hn hd) (fun ix=>zB1) (zCJ n hr.ix)).2 h0 _ _ _ _ hr.sec hs
   | there n data err s' _ _ _ _ _ hs=>exact (h.stepAdd (by omega) hr.ix hr.sec hs).le (by omega)
 | swap _ _ err s' hp =>
   have hlo:=(zEH ho).1
   have hel:(zCi r o).length=16:=by
    unfold zCi
    split
    · exact zEb ho
    · exact hr.en
   cases hp with
   | form _=>exact href
   | enable _ _ _=>exact href
   | test _ _ _=>exact href
   | no _ _ _ _ _ _ _ _ _=>exact href
   | torn hf _ _ l' hp hs _ h0 =>
     obtain ⟨a1,a2,a3⟩:=zME hf.2.1 hz hlo hp hs
     exact (h.stepRec hm hr.ix (zAe.slot r.ix (zCi r o) l' hr.ix hel a1 a2 a3 (zMD hf.1 hp)) (fun ix=>zC7) (zCo hr.ix)).1 h0
   | put hf _ _ l' hp hs err s' _ h0 hs' =>
     obtain ⟨a1,a2,a3⟩:=zME hf.2.1 hz hlo hp hs
     exact (h.stepRec hm hr.ix (zAe.slot r.ix (zCi r o) l' hr.ix hel a1 a2 a3 (zMD hf.1 hp)) (fun ix=>zC7) (zCo hr.ix)).2 h0 _ _ _ _ hr.sec hs'
 | renew _ _ err s' hp =>
   cases hp with
   | none _=>exact href
   | form _ _=>exact href
   | add err s' _ _ hs=>exact (h.stepAdd (by omega) hr.ix hr.sec hs).le (by omega)
 | cancel _ _ err s' hp=>exact (h.stepCan (by omega) hr.ix hp).le (by omega)
theorem zEB.stepDo {m:Nat} {s:zF} {f:zE6} (h:zEB m s f) (hm:m+1 < 1000000) {r:Req} (hr:r.Wf) {l:List zP} (hz:∀ x∈l,x.2.length≤16384) {ts:List Tst} {o:Option (Key × List zP)} (ho:s.dead=false→zA5 s r.ix o) {err:Int} {lb:List zP} {s':zF} (hR:DoR s r l ts o err lb s'):(∃ f',zEB (m+2) s' f')∧s'.slots=s.slots∧s'.room=s.room:=by
 rcases h with ⟨hg,hf⟩ | ⟨l,hx,hf⟩
 · have hst:=hg.stepDo hm hr hz (ho hg.live) hR
   refine ⟨?_,hst.1⟩
   rcases hst.2 with ⟨a,_⟩ | ⟨_,l,a,_⟩
   · exact ⟨_,.inl ⟨a,fun _=>rfl⟩⟩
   · exact ⟨_,.inr ⟨l,a,fun _=>rfl⟩⟩
 · have hd:=hx.isdead
   have hs:s'=s:=by
    cases hR with
    | dead _=>rfl
    | form h _=>rfl
    | get h _=>rfl
    | slot h _=>rfl
    | put h _ _ _ _=>rw [hd] at h;cases h
    | swap h _ _ _ _=>rw [hd] at h;cases h
    | renew h _ _ _ _=>rw [hd] at h;cases h
    | cancel h _ _ _ _=>rw [hd] at h;cases h
   rw [hs]
   exact ⟨⟨f,.inr ⟨l,hx.le (by omega),hf⟩⟩,rfl,rfl⟩
end Go.Mem
end
section
namespace Go.Mem
open Go Go.ChangeShapes Go.WideShapes Go.ChangeAt Go.RowKit Gf Lea
def zGe (_:World) (cs:List Value) (t:Tst):Prop:=cs=zD7 t∧t.want.length=32
def zJM (W:World) (cs:List Value) (x:zP):Prop:=∃ v,cs=[.int .i64 x.1,v]∧Bys W v x.2
structure zKx (W:World) (cs:List Value) (a:Req × List Tst × List zP):Prop where
 cs:cs=zM a.1
 wf:a.1.Wf
 ts:Sls 34 zGe W a.1.vt a.2.1
 bl:Sls 2 zJM W a.1.vb a.2.2
structure zH3 where
 dw:Int
 now:Int
 at_:Int
 keep:Int
 r:Req
 ts:List Tst
 bl:List zP
structure zDM (W:World) (cs:List Value) (a:zH3):Prop where
 dw:cs[0]?=some (.int .i64 a.dw)
 dwr:-9223372036854775808≤a.dw∧a.dw≤9223372036854775807
 now:cs[1]?=some (.int .i64 a.now)
 nowr:-9223372036854775808≤a.now∧a.now≤9223372036854775807
 at_:cs[2]?=some (.int .i64 a.at_)
 atr:-9223372036854775808≤a.at_∧a.at_≤9223372036854775807
 keep:cs[3]?=some (.int .i64 a.keep)
 keepr:-9223372036854775808≤a.keep∧a.keep≤9223372036854775807
 r:zKx W ((cs.drop 4).take 52) (a.r,a.ts,a.bl)
theorem zCd {α:Type} (l:List α) (o c:Nat) {X:List α} (h:(l.drop o).take c=X):l.drop o=X++l.drop (o+c):=by
 rw [← h,← List.drop_drop,List.take_append_drop]
theorem zJM.below {w w':World} {cs:List Value} {d:zP} (hb:Below w.heap.size w w') (h:zJM w cs d):zJM w' cs d:=by
 obtain ⟨v,h1,h2⟩:=h
 exact ⟨v,h1,h2.below hb⟩
theorem zKx.below {w w':World} {cs:List Value} {a:Req × List Tst × List zP} (hb:Below w.heap.size w w') (h:zKx w cs a):zKx w' cs a :=
 ⟨h.cs,h.wf,h.ts.below (fun _ _ _ _ _ h=>h) hb,h.bl.below (fun _ _ _ _ hb h=>h.below hb) hb⟩
theorem zDM.below {w w':World} {cs:List Value} {a:zH3} (hb:Below w.heap.size w w') (h:zDM w cs a):zDM w' cs a :=
 ⟨h.dw,h.dwr,h.now,h.nowr,h.at_,h.atr,h.keep,h.keepr,h.r.below hb⟩
theorem zMx {P:Program} {t ti tb th t8:TypeId} {f0 f1 f2:Field} (ht:P.underlying t=some (.struct #[f0,f1,f2])) (hi:P.underlying ti=some (.int .i64)) (hb:P.underlying tb=some .bool) (hk:P.underlying th=some (.array 32 t8)) (h8:P.underlying t8=some (.int .u8))
  (e0:f0.type=ti) (e1:f1.type=tb) (e2:f2.type=th) (o0:f0.offset=0) (o1:f1.offset=1) (o2:f2.offset=2) (ci:P.cellsOf ti=1) (cb:P.cellsOf tb=1) (ck:P.cellsOf th=32) (c8:P.cellsOf t8=1) (ct:P.cellsOf t=34):zBU P t zGe:=fun {_ _ W _ _ _ _ cs x} h=>by
 have hl:=zFE ht h
 rw [ct] at hl
 obtain ⟨z0,r0,_⟩:=z8 ht h 0 f0 rfl (by rw [e0];exact zBz hi)
 obtain ⟨b1,r1⟩:=z8 ht h 1 f1 rfl (by rw [e1];exact zLV hb)
 obtain ⟨k2,l2,r2⟩:=z8 ht h 2 f2 rfl (by rw [e2];exact zEj hk h8 c8 ck)
 rw [e0,ci,o0] at r0;rw [e1,cb,o1] at r1;rw [e2,ck,o2] at r2
 refine ⟨⟨z0,b1,k2⟩,?_,l2⟩
 have h0:cs=cs.drop 0:=rfl
 rw [h0,zCd cs 0 1 r0,zCd cs (0+1) 1 r1,zCd cs (0+1+1) 32 r2,List.drop_eq_nil_of_le (by omega)]
 simp [zD7]
theorem zMv {P:Program} {t ti tb t8:TypeId} {f0 f1:Field} (ht:P.underlying t=some (.struct #[f0,f1])) (hi:P.underlying ti=some (.int .i64)) (hb:P.underlying tb=some (.slice t8)) (h8:P.underlying t8=some (.int .u8))
  (e0:f0.type=ti) (e1:f1.type=tb) (o0:f0.offset=0) (o1:f1.offset=1) (ci:P.cellsOf ti=1) (cb:P.cellsOf tb=1) (c8:P.cellsOf t8=1) (ct:P.cellsOf t=2):zBU P t zJM:=fun {_ _ W _ _ _ _ cs x} h=>by
 have hl:=zFE ht h
 rw [ct] at hl
 obtain ⟨z0,r0,_⟩:=z8 ht h 0 f0 rfl (by rw [e0];exact zBz hi)
 obtain ⟨bs,v,r1,hv⟩:=z8 ht h 1 f1 rfl (by rw [e1];exact zKM hb h8 c8)
 rw [e0,ci,o0] at r0;rw [e1,cb,o1] at r1
 refine ⟨(z0,bs),v,?_,hv⟩
 have h0:cs=cs.drop 0:=rfl
 rw [h0,zCd cs 0 1 r0,zCd cs (0+1) 1 r1,List.drop_eq_nil_of_le (by omega)]
 rfl
theorem zMw {P:Program} {t ti tk t8 tt tts tb tbs:TypeId} {f0 f1 f2 f3 f4 f5 f6:Field} (ht:P.underlying t=some (.struct #[f0,f1,f2,f3,f4,f5,f6])) (hi:P.underlying ti=some (.int .i64)) (hk:P.underlying tk=some (.array 16 t8)) (h8:P.underlying t8=some (.int .u8))
  (hts:P.underlying tts=some (.slice tt)) (hbs:P.underlying tbs=some (.slice tb)) (hT:zBU P tt zGe) (hB:zBU P tb zJM) (ctt:P.cellsOf tt=34) (ctb:P.cellsOf tb=2)
  (e0:f0.type=ti) (e1:f1.type=tk) (e2:f2.type=tk) (e3:f3.type=ti) (e4:f4.type=tk) (e5:f5.type=tts) (e6:f6.type=tbs)
  (o0:f0.offset=0) (o1:f1.offset=1) (o2:f2.offset=17) (o3:f3.offset=33) (o4:f4.offset=34) (o5:f5.offset=50) (o6:f6.offset=51)
  (ci:P.cellsOf ti=1) (ck:P.cellsOf tk=16) (c5:P.cellsOf tts=1) (c6:P.cellsOf tbs=1) (c8:P.cellsOf t8=1) (ct:P.cellsOf t=52):zBU P t zKx:=fun {_ _ W _ _ _ _ cs x} h=>by
 have hl:=zFE ht h
 rw [ct] at hl
 obtain ⟨z0,r0,_⟩:=z8 ht h 0 f0 rfl (by rw [e0];exact zBz hi)
 obtain ⟨k1,l1,r1⟩:=z8 ht h 1 f1 rfl (by rw [e1];exact zEj hk h8 c8 ck)
 obtain ⟨k2,l2,r2⟩:=z8 ht h 2 f2 rfl (by rw [e2];exact zEj hk h8 c8 ck)
 obtain ⟨z3,r3,_⟩:=z8 ht h 3 f3 rfl (by rw [e3];exact zBz hi)
 obtain ⟨k4,l4,r4⟩:=z8 ht h 4 f4 rfl (by rw [e4];exact zEj hk h8 c8 ck)
 obtain ⟨ts,v5,r5,s5⟩:=z8 ht h 5 f5 rfl (by rw [e5];exact zES hts ctt (by decide) hT)
 obtain ⟨bl,v6,r6,s6⟩:=z8 ht h 6 f6 rfl (by rw [e6];exact zES hbs ctb (by decide) hB)
 rw [e0,ci,o0] at r0;rw [e1,ck,o1] at r1;rw [e2,ck,o2] at r2;rw [e3,ci,o3] at r3;rw [e4,ck,o4] at r4;rw [e5,c5,o5] at r5;rw [e6,c6,o6] at r6
 refine ⟨(⟨z0,k1,k2,z3,k4,v5,v6⟩,ts,bl),⟨?_,⟨l1,l2,l4⟩,s5,s6⟩⟩
 have h0:cs=cs.drop 0:=rfl
 rw [h0,zCd cs 0 1 r0,zCd cs (0+1) 16 r1,zCd cs (0+1+16) 16 r2,zCd cs (0+1+16+16) 1 r3,zCd cs (0+1+16+16+1) 16 r4,zCd cs (0+1+16+16+1+16) 1 r5,zCd cs (0+1+16+16+1+16+1) 1 r6,List.drop_eq_nil_of_le (by omega)]
 simp [zM]
theorem zKK {P:Program} {t ti tr:TypeId} {f0 f1 f2 f3 f4:Field} (ht:P.underlying t=some (.struct #[f0,f1,f2,f3,f4])) (hi:P.underlying ti=some (.int .i64)) (hR:zBU P tr zKx)
  (e0:f0.type=ti) (e1:f1.type=ti) (e2:f2.type=ti) (e3:f3.type=ti) (e4:f4.type=tr) (o0:f0.offset=0) (o1:f1.offset=1) (o2:f2.offset=2) (o3:f3.offset=3) (o4:f4.offset=4)
  (ci:P.cellsOf ti=1) (cr:P.cellsOf tr=52):zBU P t zDM:=fun {_ _ W _ _ _ _ cs x} h=>by
 obtain ⟨z0,r0,b0⟩:=z8 ht h 0 f0 rfl (by rw [e0];exact zBz hi)
 obtain ⟨z1,r1,b1⟩:=z8 ht h 1 f1 rfl (by rw [e1];exact zBz hi)
 obtain ⟨z2,r2,b2⟩:=z8 ht h 2 f2 rfl (by rw [e2];exact zBz hi)
 obtain ⟨z3,r3,b3⟩:=z8 ht h 3 f3 rfl (by rw [e3];exact zBz hi)
 obtain ⟨a,r4⟩:=z8 ht h 4 f4 rfl (by rw [e4];exact hR)
 rw [e0,ci,o0] at r0;rw [e1,ci,o1] at r1;rw [e2,ci,o2] at r2;rw [e3,ci,o3] at r3;rw [e4,cr,o4] at r4
 have one:∀ (o:Nat) (v:Value),(cs.drop o).take 1=[v]→cs[o]?=some v:=fun o v e=>by
  have:=congrArg (fun l=>l[0]?) e
  simpa [List.getElem?_take,List.getElem?_drop] using this
 exact ⟨⟨z0,z1,z2,z3,a.1,a.2.1,a.2.2⟩,⟨one 0 _ r0,b0,one 1 _ r1,b1,one 2 _ r2,b2,one 3 _ r3,b3,r4⟩⟩
end Go.Mem
namespace Go.Proofs.YtbbojbdigiibbaaGreatDoor
open Go Go.RowKit Go.Mem Gf
theorem zOR:zBU Tryz.prog 66 zGe :=
 zMx Tryz.underlying66 Tryz.underlying3 Tryz.underlying4 Tryz.underlying63 Tryz.underlying5 rfl rfl rfl rfl rfl rfl (by kernel_rfl) (by kernel_rfl) (by kernel_rfl) (by kernel_rfl) (by kernel_rfl)
theorem zNY:zBU Tryz.prog 53 zJM :=
 zMv Tryz.underlying53 Tryz.underlying3 Tryz.underlying51 Tryz.underlying5 rfl rfl rfl rfl (by kernel_rfl) (by kernel_rfl) (by kernel_rfl) (by kernel_rfl)
theorem zOF:zBU Tryz.prog 47 zKx :=
 zMw Tryz.underlying47 Tryz.underlying3 Tryz.underlying39 Tryz.underlying5 Tryz.underlying45 Tryz.underlying41 zOR zNY (by kernel_rfl) (by kernel_rfl) rfl rfl rfl rfl rfl rfl rfl rfl rfl rfl rfl rfl rfl rfl (by kernel_rfl) (by kernel_rfl) (by kernel_rfl) (by kernel_rfl) (by kernel_rfl) (by kernel_rfl)
theorem zJO:zBU Tryz.prog 40 (fun W cs (l:List zH3)=>∃ v,cs=[v]∧Sls 56 zDM W v l) :=
 zES Tryz.underlying40 (by kernel_rfl) (by decide)
  (zKK Tryz.underlying50 Tryz.underlying3 zOF rfl rfl rfl rfl rfl rfl rfl rfl rfl rfl (by kernel_rfl) (by kernel_rfl))
end Go.Proofs.YtbbojbdigiibbaaGreatDoor
end
