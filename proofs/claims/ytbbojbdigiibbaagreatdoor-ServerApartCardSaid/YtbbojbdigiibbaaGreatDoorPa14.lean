/- Texts of this proof,packed: SrvLab,SrvTell,SrvOne,SrvWake,SrvFind,SrvSort,SrvPair,SrvAppN. -/
import Derived.Test.YtbbojbdigiibbaaGreatDoorPa13
section
namespace Go.Proofs.YtbbojbdigiibbaaGreatDoor
open Go Go.RowKit Go.Mem Gf Lea
set_option linter.unusedVariables false
structure zAi (w0 w:World) (C:Nat→Prop) (pb:Nat) (s:zG):Prop where
 srv:zT w C (fun _=>False) pb s
 bel:Below w0.heap.size w0 w
 c1:∀ b,C b→w0.heap.size≤b
section
variable {w0 w w':World} {C C':Nat→Prop} {pb:Nat} {s s':zG}
theorem zAi.step (h:zAi w0 w C pb s) (hb:Below w.heap.size w w'):zAi w0 w' C pb s:=⟨h.srv.below hb,h.bel.trans (hb.mono h.bel.size),h.c1⟩
theorem zAi.sch (h:zAi w0 w C pb s) (hs:zT w' C' (fun _=>False) pb s') (hc:zAS C C' w w'):zAi w0 w' C' pb s' :=
 ⟨hs,Chg.far h.bel hc.1 h.bel.size h.c1,fun b hb=>by
  rcases hc.2 b hb with h1 | h1
  · exact h.c1 b h1
  · exact Nat.le_trans h.bel.size h1⟩
theorem zAi.tab (h:zAi w0 w C pb s):Tab w:=h.srv.tab
theorem zAi.old (h:zAi w0 w C pb s) {b:Nat} (hb:C b):b < w.heap.size:=h.srv.lt (.inl hb)
theorem zAW.sch {v:Value} {l:List zM} (h:zAW w C v l) (hc:zAS C C' w w'):zAW w' C' v l :=
 ((h.mono (M:=fun b=>C b∨C' b) (fun b hb=>hb.elim .inl (hc.2 b))).chg hc.1 (fun b hb _=>.inl hb)).mono (fun b hb=>.inl (.inr hb))
end
theorem zDU {C X:Nat→Prop} {pb:Nat} {s:zG} {r:Req} (hr:r.Wf) {w:World} (h:zT w C X pb s) (hB:s.dead=false) (k:Nat) (hk:zCz k=true) (hkr:r.kind=(k:Int)) (R:Int→zG→Prop)
  (hP:∀ w1 p4,Below w.heap.size w w1→w.heap.size≤p4→zT w1 C (fun b=>X b∨b=p4) pb s→Calls Tryz.prog (91+(k - 1)) #[.pointer (some ⟨pb,0,none⟩),.agg (zK r).toArray] w1 (zCw C (fun b=>X b∨b=p4) pb R w1)) :
  Calls Tryz.prog 20 #[.pointer (some ⟨pb,0,none⟩),.agg (zK r).toArray] w (zCw C X pb R w):=by
 refine zJG C X pb s r hr w h hB k hk hkr _ fun w1 p4 hb h4 hb4 hs=>?_
 refine (hP w1 p4 hb h4 hs).mono ?_
 rintro e w2 ⟨C',err,s',rfl,hR,hs',hsc⟩
 have hk4:=hsc.1.blk hb4 (fun hC=>by have:=h.lt (.inl hC);omega)
 have hE:=zh (x:=.int .i64 err) (y:=.slice none 0 0) hs' (hsc.pre hb) h4
 exact ⟨err,none,0,0,rfl,hk4,C',err,s',rfl,hR,hE.1,hE.2⟩
theorem zJH {C X:Nat→Prop} {pb:Nat} {s:zG} {r:Req} (hr:r.Wf) {w:World} (h:zT w C X pb s) (hB:s.dead=false) (k:Nat) (hk:zCz k=true) (hkr:r.kind=(k:Int)) (l:List zM)
  (hP:∀ w1 p4,Below w.heap.size w w1→w.heap.size≤p4→zT w1 C (fun b=>X b∨b=p4) pb s→Calls Tryz.prog (91+(k - 1)) #[.pointer (some ⟨pb,0,none⟩),.agg (zK r).toArray] w1 (Gives w1 l)) :
  Calls Tryz.prog 20 #[.pointer (some ⟨pb,0,none⟩),.agg (zK r).toArray] w (Gives w l):=by
 refine zJG C X pb s r hr w h hB k hk hkr _ fun w1 p4 hb h4 hb4 hs=>?_
 refine (hP w1 p4 hb h4 hs).mono ?_
 rintro e w2 ⟨u,rfl,hO,hb2⟩
 obtain ⟨a,c,rfl,_⟩:=hO.slice
 have hk4:=hb4.kept hb2
 have hE:=zFm (x:=.int .i64 0) (y:=.slice a l.length c) hO hb hb2 h4 hb4.lt
 exact ⟨0,a,l.length,c,rfl,hk4,_,rfl,hE.1,hE.2⟩
section
variable {w0 w:World} {C:Nat→Prop} {pb:Nat} {s:zG}
theorem zAi.put (h:zAi w0 w C pb s) (hd:s.dead=false) (hB:zCP s) (hw:s.st.disk.writes < 72057594037800000) {r:Req} (hr:r.Wf) (hk:r.kind=2) {l:List zM} (hl:zAW w C r.vb l) (hz:∀ x∈l,x.2.length≤1000000) :
  Calls Tryz.prog 20 #[.pointer (some ⟨pb,0,none⟩),.agg (zK r).toArray] w fun e w'=>∃ C' err s',e=.returned (.agg #[.int .i64 err,.slice none 0 0])∧zAx s r l err s'∧zAi w0 w' C' pb s'∧zAS C C' w w':=by
 refine (zDU hr h.srv hd 2 rfl hk (zAx s r l) fun w1 p4 hb h4 hs=>?_).mono ?_
 · have hl1:zAW w1 (fun b=>C b∨(False∨b=p4)) r.vb l:=zAW.below (hl.mono (fun b hb'=>hb'.elim .inl (fun h'=>h'.elim (fun f=>f.elim) (fun e=>.inr (by rw [e];exact h4))))) hb
   exact zJz C _ pb s r l hr w1 hs hB hw hl1 hz
 · rintro e w' ⟨C',err,s',rfl,hR,hs',hsc⟩
   exact ⟨C',err,s',rfl,hR,h.sch hs' hsc,hsc⟩
theorem zAi.get (h:zAi w0 w C pb s) (hd:s.dead=false) (hB:zCP s) {r:Req} (hr:r.Wf) (hk:r.kind=1) :
  Calls Tryz.prog 20 #[.pointer (some ⟨pb,0,none⟩),.agg (zK r).toArray] w (Gives w (s.shares r.ix)) :=
 zJH hr h.srv hd 1 rfl hk _ fun w1 p4 hb h4 hs=>zGO C _ pb s r hr w1 hs hB
theorem zAi.slot (h:zAi w0 w C pb s) (hd:s.dead=false) (hB:zCP s) {r:Req} (hr:r.Wf) (hk:r.kind=3) {o:Option (Key × List zM)} (ho:zBS s r.ix o) :
  Calls Tryz.prog 20 #[.pointer (some ⟨pb,0,none⟩),.agg (zK r).toArray] w (Gives w (zAy o)) :=
 zJH hr h.srv hd 3 rfl hk _ fun w1 p4 hb h4 hs=>zHA C _ pb s r o hr w1 hs hB ho
theorem zAi.renew (h:zAi w0 w C pb s) (hd:s.dead=false) (hB:zCP s) {r:Req} (hr:r.Wf) (hk:r.kind=5) {o:Option (Key × List zM)} (ho:zBS s r.ix o) :
  Calls Tryz.prog 20 #[.pointer (some ⟨pb,0,none⟩),.agg (zK r).toArray] w fun e w'=>∃ C' err s',e=.returned (.agg #[.int .i64 err,.slice none 0 0])∧zCK s r o err s'∧zAi w0 w' C' pb s'∧zAS C C' w w':=by
 refine (zDU hr h.srv hd 5 rfl hk (zCK s r o) fun w1 p4 hb h4 hs=>zHZ C _ pb s r o hr w1 hs hB ho).mono ?_
 rintro e w' ⟨C',err,s',rfl,hR,hs',hsc⟩
 exact ⟨C',err,s',rfl,hR,h.sch hs' hsc,hsc⟩
theorem zAi.cancel (h:zAi w0 w C pb s) (hd:s.dead=false) (hB:zCP s) {r:Req} (hr:r.Wf) (hk:r.kind=6) :
  Calls Tryz.prog 20 #[.pointer (some ⟨pb,0,none⟩),.agg (zK r).toArray] w fun e w'=>∃ C' err s',e=.returned (.agg #[.int .i64 err,.slice none 0 0])∧zDR s r.ix r.sec err s'∧zAi w0 w' C' pb s'∧zAS C C' w w':=by
 refine (zDU hr h.srv hd 6 rfl hk (zDR s r.ix r.sec) fun w1 p4 hb h4 hs=>zL3 C _ pb s r hr w1 hs hB).mono ?_
 rintro e w' ⟨C',err,s',rfl,hR,hs',hsc⟩
 exact ⟨C',err,s',rfl,hR,h.sch hs' hsc,hsc⟩
theorem zAi.form (h:zAi w0 w C pb s) (hd:s.dead=false) {r:Req} (hr:r.Wf) (hk:∀ k:Nat,zCz k=true→(k:Int)≠r.kind) :
  Calls Tryz.prog 20 #[.pointer (some ⟨pb,0,none⟩),.agg (zK r).toArray] w fun e w'=>∃ C',e=.returned (.agg #[.int .i64 2,.slice none 0 0])∧zAi w0 w' C' pb s∧zAS C C' w w':=by
 refine (zOJ C _ pb s r hr w h.srv hd hk).mono ?_
 rintro e w' ⟨C',err,s',rfl,⟨rfl,rfl⟩,hs',hsc⟩
 exact ⟨C',rfl,h.sch hs' hsc,hsc⟩
theorem zAi.gone (h:zAi w0 w C pb s) (hd:s.dead=true) {r:Req} (hr:r.Wf) :
  Calls Tryz.prog 20 #[.pointer (some ⟨pb,0,none⟩),.agg (zK r).toArray] w fun e w'=>∃ C',e=.returned (.agg #[.int .i64 8,.slice none 0 0])∧zAi w0 w' C' pb s∧zAS C C' w w':=by
 refine (zOI C _ pb s r hr w h.srv hd).mono ?_
 rintro e w' ⟨C',err,s',rfl,⟨rfl,rfl⟩,hs',hsc⟩
 exact ⟨C',rfl,h.sch hs' hsc,hsc⟩
end
end Go.Proofs.YtbbojbdigiibbaaGreatDoor
end
section
namespace Go.Proofs.YtbbojbdigiibbaaGreatDoor
open Go Go.RowKit Go.Mem Gf Lea
set_option linter.unusedVariables false
attribute [local irreducible] RF.V zk zK
attribute [local go_sem ↓] Go.wp_at_zero Go.wp_at_succ
attribute [local go_sem ↓] zAK zIN
attribute [local go_sem] Value.oneCell' zEn zE1 List.foldl_cons List.foldl_nil List.all_cons List.all_nil rfs0 rfs1 rfs2 rfs3 rfs4 rfs5 rfs6 rfz ok0 ok1 ok2 ok3 ok4 ok5 ok6
attribute [local go_sem] ptrB_eq ptrO_eq ptrIs_eq aggL_eq aggIs_eq zS ze zC zF zX zZ
section
variable {w0 w:World} {C:Nat→Prop} {pb:Nat} {s:zG}
def askV (k:Int) (ix:Key):Req:=⟨k,ix,z16,0,z16,.slice none 0 0,.slice none 0 0⟩
theorem zLY (k:Int) {ix:Key} (h:ix.length=16):(askV k ix).Wf:=⟨h,by show z16.length=16;decide,by show z16.length=16;decide⟩
unseal RF.V zk zK in
theorem zLX (k:Int) (ix:Key):RF.V ⟨.int .i64 k,bV ix,zk,.int .i64 0,zk,.slice none 0 0,.slice none 0 0⟩=zK (askV k ix):=rfl
theorem zEs (a b:Value) (w:World):(Instr.field 43 (.agg #[a,b]) 0).run Tryz.prog w=.ok a w:=by kernel_rfl
theorem zEt (a b:Value) (w:World):(Instr.field 43 (.agg #[a,b]) 1).run Tryz.prog w=.ok b w:=by kernel_rfl
attribute [local go_sem] zEs zEt
set_option maxRecDepth 100000 in
set_option maxHeartbeats 1000000 in
theorem zAi.shares (h:zAi w0 w C pb s) (hd:s.dead=false) (hB:zCP s) (ix:Key) (hix:ix.length=16) :
  Calls Tryz.prog 23 #[.pointer (some ⟨pb,0,none⟩),.agg (bV ix).toArray] w fun e w'=>∃ u,e=.returned u∧zAF 53 w' w.heap.size (fun b=>b < w.heap.size) u (s.shares ix)∧Below w.heap.size w w':=by
 have hb0:Below w.heap.size w (w.alloc (.cells (bV ix).toArray 39)):=(Below.refl _ _).alloc (Nat.le_refl _) _
 obtain ⟨ck,hck⟩:∃ c,c=bV ix:=⟨_,rfl⟩
 have k1:zCi ck.toArray 0 16=ck:=by rw [hck];exact (zAT hix).1
 have k2:ck.length=16:=by rw [hck,zB];exact hix
 rw [← hck] at hb0 ⊢
 have H:=Lib.hid (And.intro h (And.intro hd (And.intro hB (And.intro hck (And.intro hix hb0)))))
 clear h hd hB hck hix hb0
 go_enter Tryz.func23,Tryz.ntmps23
 go_wp2_with fail
 rw [show RF.V ⟨.int .i64 1,ck,zk,.int .i64 0,zk,.slice none 0 0,.slice none 0 0⟩=zK (askV 1 ix) from by rw [H.out.2.2.2.1];exact zLX 1 ix]
 refine ((H.out.1.step H.out.2.2.2.2.2).get H.out.2.1 H.out.2.2.1 (zLY 1 H.out.2.2.2.2.1) rfl).mono ?_
 rintro e w2 ⟨u,rfl,hO,hb2⟩
 obtain ⟨ua,uc,rfl,_⟩:=hO.slice
 obtain ⟨un,hun⟩:∃ n,n=(s.shares (askV 1 ix).ix).length:=⟨_,rfl⟩
 rw [← hun] at hO ⊢
 have HUN:=Lib.hid hun
 clear hun
 have HR:=Lib.hid (And.intro (zEz (base':=w.heap.size) (M:=fun b=>b < w.heap.size) hO (by simp) (fun b hb=>.inl (by simp;omega))) (H.out.2.2.2.2.2.trans (hb2.mono (by simp))))
 clear hO hb2
 go_wp2_with fail
 go_ret
 exact ⟨_,rfl,HR.out.1,HR.out.2⟩
set_option maxRecDepth 100000 in
set_option maxHeartbeats 1000000 in
theorem zAi.slotOf (h:zAi w0 w C pb s) (hd:s.dead=false) (hB:zCP s) (ix:Key) (hix:ix.length=16) {o:Option (Key × List zM)} (ho:zBS s ix o) :
  Calls Tryz.prog 24 #[.pointer (some ⟨pb,0,none⟩),.agg (bV ix).toArray] w fun e w'=>∃ u,e=.returned u∧zAF 53 w' w.heap.size (fun b=>b < w.heap.size) u (zAy o)∧Below w.heap.size w w':=by
 have hb0:Below w.heap.size w (w.alloc (.cells (bV ix).toArray 39)):=(Below.refl _ _).alloc (Nat.le_refl _) _
 obtain ⟨ck,hck⟩:∃ c,c=bV ix:=⟨_,rfl⟩
 have k1:zCi ck.toArray 0 16=ck:=by rw [hck];exact (zAT hix).1
 have k2:ck.length=16:=by rw [hck,zB];exact hix
 rw [← hck] at hb0 ⊢
 have H:=Lib.hid (And.intro h (And.intro hd (And.intro hB (And.intro hck (And.intro hix hb0)))))
 have HO:=Lib.hid ho
 clear ho
 clear h hd hB hck hix hb0
 go_enter Tryz.func24,Tryz.ntmps24
 go_wp2_with fail
 rw [show RF.V ⟨.int .i64 3,ck,zk,.int .i64 0,zk,.slice none 0 0,.slice none 0 0⟩=zK (askV 3 ix) from by rw [H.out.2.2.2.1];exact zLX 3 ix]
 refine ((H.out.1.step H.out.2.2.2.2.2).slot H.out.2.1 H.out.2.2.1 (zLY 3 H.out.2.2.2.2.1) rfl HO.out).mono ?_
 rintro e w2 ⟨u,rfl,hO,hb2⟩
 obtain ⟨ua,uc,rfl,_⟩:=hO.slice
 obtain ⟨un,hun⟩:∃ n,n=(zAy o).length:=⟨_,rfl⟩
 rw [← hun] at hO ⊢
 have HUN:=Lib.hid hun
 clear hun
 have HR:=Lib.hid (And.intro (zEz (base':=w.heap.size) (M:=fun b=>b < w.heap.size) hO (by simp) (fun b hb=>.inl (by simp;omega))) (H.out.2.2.2.2.2.trans (hb2.mono (by simp))))
 clear hO hb2
 go_wp2_with fail
 go_ret
 exact ⟨_,rfl,HR.out.1,HR.out.2⟩
set_option maxRecDepth 100000 in
set_option maxHeartbeats 1000000 in
theorem zAi.living (h:zAi w0 w C pb s) (hB:zCP s) (ix:Key) (hix:ix.length=16) (now:Int) :
  Calls Tryz.prog 26 #[.pointer (some ⟨pb,0,none⟩),.agg (bV ix).toArray,.int .i64 now] w fun e w'=>∃ b,e=.returned (.bool b)∧(b=true↔zLW s.tab ix now)∧Below w.heap.size w w':=by
 obtain ⟨sb,lb,d,L,tb,v,hA⟩:=h.srv
 have hb0:Below w.heap.size w (w.alloc (.cells (bV ix).toArray 39)):=(Below.refl _ _).alloc (Nat.le_refl _) _
 have hk0:Blk (w.alloc (.cells (bV ix).toArray 39)) w.heap.size (bV ix).toArray 39:=Blk.new _ _ _
 have hA0:=hA.below hb0
 have hlc:=zIZ (w.alloc (.cells (bV ix).toArray 39)).drew tb v s.tab ix now (hA.heap.tab.below (hb0.drew)) (by have:=hB.tab;omega) hix (by have:=hA.good.few ix;omega)
 obtain ⟨ck,hck⟩:∃ c,c=bV ix:=⟨_,rfl⟩
 have k2:ck.length=16:=by rw [hck,zB];exact hix
 have hu16:=Tryz.underlying39
 have hi16:(Tryz.prog.info? 39).map (·.size)=some ck.length:=by rw [k2];exact i16
 rw [← hck] at hb0 hk0 hA0 hlc ⊢
 clear hck
 obtain ⟨wa,hwa⟩:∃ q,q=w.alloc (.cells ck.toArray 39):=⟨_,rfl⟩
 obtain ⟨p4,hp4⟩:∃ q,q=w.heap.size:=⟨_,rfl⟩
 rw [← hwa] at hb0 hk0 hA0 hlc
 rw [← hp4] at hk0
 have H:=Lib.hid (And.intro hb0 (And.intro hk0 (And.intro hA0 (And.intro hlc hp4))))
 have HW:=Lib.hid hwa
 have c4:wa.drew.cell? ⟨pb,4,none⟩=some (.pointer (some ⟨tb,0,none⟩)):=hA0.blk.cell 4
 have r4:wa.drew.rangeAt p4 0 ck:=fun j v hj=>by
  rw [(hk0.drew).cell,Nat.zero_add]
  simpa using hj
 clear h hB hb0 hk0 hA0 hlc hwa hp4 hA
 go_enter Tryz.func26,Tryz.ntmps26
 go_upto_region 1 with fail
 rw [← HW.out,← H.out.2.2.2.2]
 go_region_held3 (fun w'=>w'.cell? ⟨pb,4,none⟩=some (.pointer (some ⟨tb,0,none⟩))∧w'.rangeAt p4 0 ck) (first | exact ⟨c4,r4⟩ | with_reducible assumption)
  (first
   | (go_at_call 50
      refine H.out.2.2.2.1.mono ?_
      rintro e w2 ⟨b,rfl,hb,hb2⟩
      have hb2:Below wa.heap.size wa w2:=zA1 hb2
      have hh:w2.cell? ⟨pb,4,none⟩=some (.pointer (some ⟨tb,0,none⟩))∧w2.rangeAt p4 0 ck:=⟨(H.out.2.2.1.below hb2).blk.cell 4,fun j v hj=>by
       rw [(H.out.2.1.kept hb2).cell,Nat.zero_add]
       simpa using hj⟩
      have HB:=Lib.hid (And.intro hb (H.out.1.trans (hb2.mono H.out.1.size)))
      clear hb hb2))
 go_wp2_with fail
 go_ret
 exact ⟨b,rfl,HB.out.1,HB.out.2⟩
end
end Go.Proofs.YtbbojbdigiibbaaGreatDoor
end
section
namespace Lea
theorem zBK.none {l l':List Les} {ix sec:Key} {e:Int} {b:Bool} (hl:ofL l ix=[]) (he:May e) (h:zBK l ix sec e b l'):b=true∧l'.Perm (l++[⟨ix,sec,e⟩]):=by
 have hno:∀ x∈l,x.ix≠ix:=zFT.1 hl
 cases h with
 | no h =>
   rcases h with h | ⟨_,h⟩
   · exact absurd he h
   · rw [hl] at h;simp at h
 | more k x _ _ hx h1 _ _=>exact absurd h1 (hno x (List.mem_of_getElem? hx))
 | new _ _ _ _ hp=>exact ⟨rfl,hp⟩
theorem zBK.again {l l':List Les} {ix sec:Key} {e e0:Int} {b:Bool} (hl:l.Perm [⟨ix,sec,e0⟩]) (he:May e) (h:zBK l ix sec e b l'):b=true∧l'.Perm [⟨ix,sec,max e0 e⟩]:=by
 have h1:=List.perm_singleton.1 hl
 subst h1
 cases h with
 | no h =>
   rcases h with h | ⟨h,_⟩
   · exact absurd he h
   · exact absurd ⟨rfl,rfl⟩ (h _ (List.mem_singleton.2 rfl))
 | more k x _ _ hx _ _ hp =>
   cases k with
   | zero =>
     simp at hx
     subst hx
     exact ⟨rfl,hp⟩
   | succ k=>simp at hx
 | new _ _ hk _ _=>exact absurd ⟨rfl,rfl⟩ (hk _ (List.mem_singleton.2 rfl))
theorem OfR.one {l:List Les} {ix sec:Key} {e:Int} {out:List Sec} (hl:l.Perm [⟨ix,sec,e⟩]) (h:OfR l ix out):out=[(sec,e)]:=by
 have h1:=List.perm_singleton.1 hl
 subst h1
 have h2:=h.perm
 unfold ofL at h2
 simp at h2
 exact h2
end Lea
namespace Go.Mem
open Go Go.RowKit Gf Lea Go.Proofs.YtbbojbdigiibbaaGreatDoor
theorem zEu {m:Nat} {s:zG} (h:zBU m s):zAV s.st.recs+s.st.freeN=s.st.recs.length:=by
 have:=zL9 s.st.recs
 unfold St.freeN
 rw [if_neg (by simp [h.st.dead])]
 exact this
theorem zIY {l:List Sto.Rec} (ht:Sto.slot l < l.length) (name:ByteArray) (data:List UInt8):zAV (putF l name data)≤zAV l+1:=zMZ ht name data
theorem zDZ {room:Nat} (hr:8≤room) {ix:Key} (hix:ix.length=16) {sec:Key} (hs:sec.length=16) (e:Int):zAb room (zD ix) (zu [(sec,e)])=true:=by
 have h1:=zCn ix hix
 have h2:=zEU [(sec,e)] (fun s hs'=>by rw [List.mem_singleton.1 hs'];exact hs)
 simp only [List.length_singleton] at h2
 exact zGW (by omega) (by omega) (by omega)
theorem zBU.add_one {m:Nat} {s:zG} (h:zBU m s) (hm:m < 1000000) {ix sec:Key} (hix:ix.length=16) (hsec:sec.length=16) {e E:Int} (hroom:8≤s.room) (hlive:zAV s.st.recs+1≤s.st.recs.length) (hE:∀ b l2,zBK s.tab ix sec e b l2→b=true∧l2.Perm [⟨ix,sec,E⟩]) {err:Int} {s':zG} (hl:zCe s ix sec e err s') :
  (err=0∧zBU (m+1) s'∧s'.tab.Perm [⟨ix,sec,E⟩]∧(∀ nm,Sto.look s'.st.recs nm=upd (Sto.look s.st.recs) (zD ix) (some (zu [(sec,E)])) nm)∧s'.st.disk.stops=s.st.disk.stops) ∨
  (err=8∧s.st.disk.stops=true∧∃ l,zI0 (m+1) s' l∧((∀ nm,Sto.look l nm=Sto.look s.st.recs nm)∨∀ nm,Sto.look l nm=upd (Sto.look s.st.recs) (zD ix) (some (zu [(sec,E)])) nm)):=by
 have hl0:=hl
 rcases h.add hm hix hsec hl with ⟨_,_,ha⟩ | ⟨l2,out,ha,hR,h0,hc⟩
 · have:=(hE _ _ ha).1;cases this
 · have hp:=(hE _ _ ha).2
   have ho:=OfR.one hp hR
   subst ho
   rcases hc with ⟨h1,h2,h3,h4,h5⟩ | ⟨h1,h2⟩ | h1
   · exact .inl ⟨h1,h2,by rw [h3];exact hp,h4,h5⟩
   · exfalso
     have hfit:=zDZ (room:=s.st.room) (by rw [← h.room];exact hroom) hix hsec E
     have hslot:Sto.slot s.st.recs < s.st.recs.length:=zDi (by omega)
     cases hl0 with
     | full ha'=>have:=(hE _ _ ha').1;cases this
     | laid l3 _ _ ha' hy =>
       obtain ⟨out',hR',herr,_⟩:=hy
       have ho':=OfR.one (hE _ _ ha').2 hR'
       subst ho'
       have e0:zDY s ix [(sec,E)]=zO s.st (zD ix) (zu [(sec,E)]):=by unfold zDY;rw [if_neg (by simp)]
       rw [e0] at herr
       have hok:zAm (zD ix) (zu [(sec,E)]):=zAm.lease ix _ hix (zDN (ha'.wf h.wf hix hsec) (ha'.good h.good) hR' (by simp))
       have hput:=h.st.put hm hok
       generalize zO s.st (zD ix) (zu [(sec,E)])=R at hput herr
       cases hput with
       | arg h'=>rw [hfit] at h';cases h'
       | full _ h'=>omega
       | done _ _ _ _ _ _ _=>simp only at herr;omega
       | torn _ _ _ _ _ _ _ _ _ _=>simp only at herr;omega
   · exact .inr h1
theorem zBU.put_one {m:Nat} {s:zG} (h:zBU m s) (hm:m+1 < 1000000) {r:Req} (hr:r.Wf) {n:Nat} {data:List UInt8} (hn:n < 16) (hme:May r.ends) (hd:data.length≤200) (hg:Sto.look s.st.recs (zI r.ix n)=none) (hroom:8≤s.room) (hlive:zAV s.st.recs+2≤s.st.recs.length) {E:Int}
  (hE:∀ b l2,zBK s.tab r.ix r.sec r.ends b l2→b=true∧l2.Perm [⟨r.ix,r.sec,E⟩]) {err:Int} {s':zG} (hp:zAx s r [((n:Int),data)] err s') :
  (err=0∧zBU (m+2) s'∧s'.tab.Perm [⟨r.ix,r.sec,E⟩]∧(∀ nm,Sto.look s'.st.recs nm=upd (upd (Sto.look s.st.recs) (zI r.ix n) (some data)) (zD r.ix) (some (zu [(r.sec,E)])) nm)∧s'.st.disk.stops=s.st.disk.stops∧s'.slots=s.slots∧s'.room=s.room∧zAV s'.st.recs≤zAV s.st.recs+2) ∨
  (err=8∧s.st.disk.stops=true∧s'.slots=s.slots∧s'.room=s.room∧∃ f:Look,SrvT (m+2) s' f∧((∀ nm,f nm=Sto.look s.st.recs nm)∨(∀ nm,f nm=upd (Sto.look s.st.recs) (zI r.ix n) (some data) nm)∨∀ nm,f nm=upd (upd (Sto.look s.st.recs) (zI r.ix n) (some data)) (zD r.ix) (some (zu [(r.sec,E)])) nm)):=by
 have hfit:zAb s.st.room (zI r.ix n) data=true:=zGW (by rw [zB9 _ _ hr.ix];omega) (by omega) (by rw [zB9 _ _ hr.ix,← h.room];omega)
 have hlf:=zDZ (room:=s.st.room) (by rw [← h.room];exact hroom) hr.ix hr.sec E
 have hfl:=zEu h
 have hslot:Sto.slot s.st.recs < s.st.recs.length:=zDi (by omega)
 have hget:s.st.get (zI r.ix n)=none:=by rw [h.get,hg]
 have hask:∀ err',zEa s r.ix r.sec r.ends (zI r.ix n) data false err'→err'=0:=fun err' ha=>by
  obtain ⟨b,l2,out,ha1,ha2,rfl⟩:=ha
  obtain ⟨rfl,hp2⟩:=hE _ _ ha1
  have ho:=OfR.one hp2 (ha2 rfl)
  subst ho
  rw [if_neg (by simp;omega),if_neg (by simp [hfit,hlf])]
 have hnl:∀ ix,zI r.ix n≠zD ix:=fun ix=>zCI
 have hok:zAm (zI r.ix n) data:=zAm.share r.ix n data hr.ix hn (by omega)
 cases hp with
 | form h'=>exact absurd ⟨rfl,⟨⟨fun x hx=>by rw [List.mem_singleton.1 hx];simp;omega,by simp⟩,hme⟩⟩ h'
 | no n' data' _ hl hn' hm' ha h0 =>
   simp only [List.cons.injEq,Prod.mk.injEq,and_true] at hl
   obtain ⟨e1,rfl⟩:=hl
   have e1:n=n':=by omega
   subst e1
   rw [hget] at ha
   exact absurd (hask _ ha) h0
 | torn n' data' hl hn' hm' hg' ha h0 =>
   simp only [List.cons.injEq,Prod.mk.injEq,and_true] at hl
   obtain ⟨e1,rfl⟩:=hl
   have e1:n=n':=by omega
   subst e1
   rcases h.put (by omega) hok hnl with ⟨h1,_⟩ | ⟨h1,_⟩ | ⟨h1,h2,l,h3,h4⟩
   · exact absurd h1 h0
   · exfalso
     have hput:=h.st.put (by omega) hok
     generalize zO s.st (zI r.ix n) data=R at hput h1
     cases hput with
     | arg h'=>rw [hfit] at h';cases h'
     | full _ h'=>omega
     | done _ _ _ _ _ _ _=>simp only at h1;omega
     | torn _ _ _ _ _ _ _ _ _ _=>simp only at h1;omega
   · refine .inr ⟨h1,h2,rfl,rfl,Sto.look l,.inr ⟨l,h3.le (by omega),fun _=>rfl⟩,?_⟩
     rcases h4 with h4 | h4
     · exact .inl h4
     · exact .inr (.inl h4)
 | put n' data' _ _ hl hn' hm' hg' ha h0 hs =>
   simp only [List.cons.injEq,Prod.mk.injEq,and_true] at hl
   obtain ⟨e1,rfl⟩:=hl
   have e1:n=n':=by omega
   subst e1
   rcases h.put (by omega) hok hnl with ⟨h1,h2,h3,h4⟩ | ⟨h1,_⟩ | ⟨h1,_⟩
   · have hrec:(zO s.st (zI r.ix n) data).2.recs=putF s.st.recs (zI r.ix n) data:=by
      have hput:=h.st.put (m:=m) (by omega) hok
      generalize zO s.st (zI r.ix n) data=R at hput h0
      cases hput with
      | arg h'=>rw [hfit] at h';cases h'
      | full _ h'=>omega
      | done _ _ _ hr' _ _ _=>exact hr'
      | torn _ _ _ _ _ _ _ _ _ _=>simp only at h0;omega
     have hlv:=zIY hslot (zI r.ix n) data
     have hln:=zEE s.st.recs (zI r.ix n) data
     have hlv2:zAV (zO s.st (zI r.ix n) data).2.recs+1≤(zO s.st (zI r.ix n) data).2.recs.length:=by rw [hrec,hln];omega
     have hslots:s'.slots=s.slots∧s'.room=s.room∧(err=0→zAV s'.st.recs≤zAV (zO s.st (zI r.ix n) data).2.recs+1):=by
      cases hs with
      | full _=>exact ⟨rfl,rfl,fun _=>Nat.le_succ _⟩
      | laid l2 _ _ ha2 hy =>
        obtain ⟨out,hR,herr,hs'⟩:=hy
        have h0':out.length≠0:=fun e=>ha2.ne (hR.nil_iff.1 (List.eq_nil_of_length_eq_zero e))
        have e0:zDY { s with st:=(zO s.st (zI r.ix n) data).2 } r.ix out=zO (zO s.st (zI r.ix n) data).2 (zD r.ix) (zu out):=by unfold zDY;rw [if_neg h0']
        rw [e0] at hs' herr
        have hlr:(zO (zO s.st (zI r.ix n) data).2 (zD r.ix) (zu out)).1=0→zAV (zO (zO s.st (zI r.ix n) data).2 (zD r.ix) (zu out)).2.recs≤zAV (zO s.st (zI r.ix n) data).2.recs+1:=by
         have hR2:=List.perm_singleton.1 (hE _ _ ha2).2
         have hput:=h2.st.put (m:=m+1) hm (zAm.lease r.ix out hr.ix (zDN (ha2.wf h2.wf hr.ix hr.sec) (ha2.good h2.good) hR (fun e=>h0' (by rw [e];rfl))))
         generalize hq:(zO s.st (zI r.ix n) data).2=st1 at *
         have hpr:=hput
         generalize zO st1 (zD r.ix) (zu out)=R at hput
         cases hput with
         | arg h'=>exact fun _=>Nat.le_succ _
         | full _ h'=>exact fun _=>Nat.le_succ _
         | done _ _ hsl hr' _ _ _=>intro _;show zAV _≤_;rw [hr'];exact zIY hsl _ _
         | torn _ _ _ _ _ _ _ _ _ _=>intro h;simp only at h;omega
        split at hs'
        · rw [hs',herr];exact ⟨rfl,rfl,hlr⟩
        · rw [hs',herr];exact ⟨rfl,rfl,hlr⟩
     rcases h2.add_one hm hr.ix hr.sec hroom hlv2 hE hs with ⟨a1,a2,a3,a4,a5⟩ | ⟨a1,a2,l,a3,a4⟩
     · have hnm:∀ nm,Sto.look s'.st.recs nm=upd (upd (Sto.look s.st.recs) (zI r.ix n) (some data)) (zD r.ix) (some (zu [(r.sec,E)])) nm:=fun nm=>by
        rw [a4]
        unfold upd
        split
        · rfl
        · exact h3 nm
       exact .inl ⟨a1,a2,a3,hnm,a5.trans h4,hslots.1,hslots.2.1,by have:=hslots.2.2 a1;rw [hrec] at this;omega⟩
     · refine .inr ⟨a1,by rw [← h4];exact a2,hslots.1,hslots.2.1,Sto.look l,.inr ⟨l,a3,fun _=>rfl⟩,?_⟩
       rcases a4 with a4 | a4
       · exact .inr (.inl fun nm=>by rw [a4];exact h3 nm)
       · refine .inr (.inr fun nm=>?_)
         rw [a4]
         unfold upd
         split
         · rfl
         · exact h3 nm
   · omega
   · omega
 | there n' data' _ _ hl hn' hm' hg' ha hs =>
   simp only [List.cons.injEq,Prod.mk.injEq,and_true] at hl
   obtain ⟨e1,rfl⟩:=hl
   have e1:n=n':=by omega
   subst e1
   rw [hget] at hg'
   cases hg'
theorem zBU.put_there {m:Nat} {s:zG} (h:zBU m s) (hm:m < 1000000) {r:Req} (hr:r.Wf) {n:Nat} {data x:List UInt8} (hn:n < 16) (hme:May r.ends) (hd:data.length≤200) (hg:Sto.look s.st.recs (zI r.ix n)=some x) (hroom:8≤s.room) (hlive:zAV s.st.recs+1≤s.st.recs.length) (hst:s.st.disk.stops=false) {E:Int}
  (hE:∀ b l2,zBK s.tab r.ix r.sec r.ends b l2→b=true∧l2.Perm [⟨r.ix,r.sec,E⟩]) {err:Int} {s':zG} (hp:zAx s r [((n:Int),data)] err s'):err=5:=by
 have hfit:zAb s.st.room (zI r.ix n) data=true:=zGW (by rw [zB9 _ _ hr.ix];omega) (by omega) (by rw [zB9 _ _ hr.ix,← h.room];omega)
 have hlf:=zDZ (room:=s.st.room) (by rw [← h.room];exact hroom) hr.ix hr.sec E
 have hfl:=zEu h
 have hget:s.st.get (zI r.ix n)=some x:=by rw [h.get,hg]
 have hask:∀ err',zEa s r.ix r.sec r.ends (zI r.ix n) data true err'→err'=0:=fun err' ha=>by
  obtain ⟨b,l2,out,ha1,ha2,rfl⟩:=ha
  obtain ⟨rfl,hp2⟩:=hE _ _ ha1
  have ho:=OfR.one hp2 (ha2 rfl)
  subst ho
  rw [if_neg (by simp;omega),if_neg (by simp [hfit,hlf])]
 cases hp with
 | form h'=>exact absurd ⟨rfl,⟨⟨fun x hx=>by rw [List.mem_singleton.1 hx];simp;omega,by simp⟩,hme⟩⟩ h'
 | no n' data' _ hl hn' hm' ha h0 =>
   simp only [List.cons.injEq,Prod.mk.injEq,and_true] at hl
   obtain ⟨e1,rfl⟩:=hl
   have e1:n=n':=by omega
   subst e1
   rw [hget] at ha
   exact absurd (hask _ ha) h0
 | torn n' data' hl hn' hm' hg' ha h0 =>
   simp only [List.cons.injEq,Prod.mk.injEq,and_true] at hl
   obtain ⟨e1,rfl⟩:=hl
   have e1:n=n':=by omega
   subst e1
   rw [hget] at hg'
   cases hg'
 | put n' data' _ _ hl hn' hm' hg' ha h0 hs =>
   simp only [List.cons.injEq,Prod.mk.injEq,and_true] at hl
   obtain ⟨e1,rfl⟩:=hl
   have e1:n=n':=by omega
   subst e1
   rw [hget] at hg'
   cases hg'
 | there n' data' _ _ hl hn' hm' hg' ha hs =>
   simp only [List.cons.injEq,Prod.mk.injEq,and_true] at hl
   obtain ⟨e1,rfl⟩:=hl
   have e1:n=n':=by omega
   subst e1
   rcases h.add_one hm hr.ix hr.sec hroom hlive hE hs with ⟨a1,_⟩ | ⟨_,a2,_⟩
   · rw [if_pos a1]
   · rw [hst] at a2;cases a2
end Go.Mem
end
section
namespace Go.Mem
open Go Go.RowKit Gf Lea Go.Proofs.YtbbojbdigiibbaaGreatDoor
theorem zHq:∀ (K:List Key) (l:List Les),(∀ x∈l,x.ix∈K)→(∀ ix,(ofL l ix).length≤8)→l.length≤8*K.length
 | [],l,h,_=>by
   cases l with
   | nil=>simp
   | cons x l=>have:=h x (by simp);cases this
 | k::K,l,h,h8=>by
   have h1:=zHq K (l.filter fun x=>!decide (x.ix=k)) (fun x hx=>by
    have:=h x (List.mem_filter.1 hx).1
    have h2:=(List.mem_filter.1 hx).2
    simp only [Bool.not_eq_true',decide_eq_false_iff_not] at h2
    rcases List.mem_cons.1 this with e | e
    · exact absurd e h2
    · exact e) (fun ix=>Nat.le_trans (by
    unfold ofL
    rw [List.length_map,List.length_map]
    exact ((List.filter_sublist (p:=fun x=>!decide (x.ix=k)) (l:=l)).filter _).length_le) (h8 ix))
   have h2:=h8 k
   have h3:=List.length_eq_countP_add_countP (fun x:Les=>decide (x.ix=k)) (l:=l)
   unfold ofL at h2
   rw [List.length_map,← List.countP_eq_length_filter] at h2
   rw [← List.countP_eq_length_filter] at h1
   have h4:l.countP (fun x=>!decide (x.ix=k))=l.countP (fun x=>decide (¬ decide (x.ix=k)=true)):=by
    congr 1
    funext x
    by_cases e:x.ix=k <;> simp [e]
   rw [List.length_cons]
   omega
theorem zBU.srvB {m:Nat} {s:zG} (h:zBU m s) (hm:m < 1000000):zCP s:=by
 refine ⟨?_,by have:=h.st.writes;omega⟩
 have:=zHq (s.st.recs.map fun r=>zDt r.name) s.tab (fun x hx=>by
  have hw:=(h.wf x hx).1
  rcases h.tab x.ix hw with ⟨_,h2⟩ | ⟨o,h1,_⟩
  · exact absurd rfl (zFT.1 h2 x hx)
  · obtain ⟨r,a1,a2,a3,_⟩:=zLf h1
    exact List.mem_map.2 ⟨r,a1,by rw [a3];exact zDX hw⟩) h.good.few
 rw [List.length_map,← h.slots] at this
 have:=h.few
 omega
theorem zJ5 {r:Req} (h:r.Wf) (h1:r.vt.oneCell'=true) (h2:r.vb.oneCell'=true):zAQ 52 (zK r):=by
 refine ⟨zAP h,fun v hv=>?_⟩
 unfold zK at hv
 simp only [List.mem_cons,List.mem_append,List.mem_nil_iff,or_false] at hv
 rcases hv with rfl | hv | hv | rfl | hv | rfl | rfl
 · rfl
 · exact zAH _ v hv
 · exact zAH _ v hv
 · rfl
 · exact zAH _ v hv
 · exact h1
 · exact h2
theorem zD1 {w:World} {N:Nat→Prop} {g:Nat} {n:Int} {a:Option Addr} {c:Nat} {bs:List UInt8} {t:TypeId} (hb:Blk w g #[.int .i64 n,.slice a bs.length c] t) (hN:¬ N g) (hd:zCx w N (.slice a bs.length c) bs):zAW w N (.slice (some ⟨g,0,none⟩) 1 1) [(n,bs)]:=by
 refine ⟨_,1,rfl,Nat.le_refl _,by decide,fun _=>⟨g,0,rfl,hb.lt,hN,fun i x hx=>?_⟩⟩
 cases i with
 | zero =>
   simp at hx
   subst hx
   exact ⟨by rw [hb.cell];rfl,a,c,by rw [hb.cell];rfl,hd⟩
 | succ i=>simp at hx
end Go.Mem
namespace Go.Proofs.YtbbojbdigiibbaaGreatDoor
open Go Go.RowKit Go.Mem Gf Lea
set_option linter.unusedVariables false
theorem zIC (dst:Option Tmp) (x y:Operand) (ty:TypeId) (pos:String) (af:Array Edge) (a:Act) (w:World) (K:Act→World→Prop) (Q:Exit→Act→World→Prop)
  (hp:zAz (a.eval x)=true) (hy:zA5 (a.eval y)=true) (ht:zY 52 w (zAM (a.eval x)) (zAN (a.eval x))) (hc:zAQ 52 (zAn (a.eval y))) :
  Oper.wp Tryz.prog ⟨dst,.store 47 x y,ty,pos,af,none⟩ a w K Q=K (a.put dst undef) (w.setCells (zAM (a.eval x)) (zAN (a.eval x)) (zAn (a.eval y))) :=
 zBP i52 dst x y ty pos af a w K Q hp hy ht hc
theorem zHF (w:World) (n:Nat) (hn:n=w.heap.size) (cs:List Value) (h:zAQ 52 cs):(w.alloc (.cells #[Value.int .i64 0,.int .u8 0,.int .u8 0,.int .u8 0,.int .u8 0,.int .u8 0,.int .u8 0,.int .u8 0,.int .u8 0,.int .u8 0,.int .u8 0,.int .u8 0,.int .u8 0,.int .u8 0,.int .u8 0,.int .u8 0,.int .u8 0,.int .u8 0,.int .u8 0,.int .u8 0,.int .u8 0,.int .u8 0,.int .u8 0,.int .u8 0,.int .u8 0,.int .u8 0,.int .u8 0,.int .u8 0,.int .u8 0,.int .u8 0,.int .u8 0,.int .u8 0,.int .u8 0,.int .i64 0,.int .u8 0,.int .u8 0,.int .u8 0,.int .u8 0,.int .u8 0,.int .u8 0,.int .u8 0,.int .u8 0,.int .u8 0,.int .u8 0,.int .u8 0,.int .u8 0,.int .u8 0,.int .u8 0,.int .u8 0,.int .u8 0,.slice none 0 0,.slice none 0 0] 47)).setCells n 0 cs=w.alloc (.cells cs.toArray 47):=zJ _ _ _ _ hn (by rw [h.1];rfl)
def zGR (e:Int) (u:Value):Req:=⟨2,z16,z16,e,z16,.slice none 0 0,u⟩
theorem zEW (e:Int) (u:Value):(zGR e u).Wf:=⟨by show z16.length=16;decide,by show z16.length=16;decide,by show z16.length=16;decide⟩
theorem zOd (e:Int) (u:Value):RF.V ⟨.int .i64 2,zk,zk,.int .i64 e,zk,.slice none 0 0,u⟩=zK (zGR e u):=rfl
theorem zNg (e:Int) (a:Option Addr) (n c:Nat):zAQ 52 (zK (zGR e (.slice a n c))):=zJ5 (zEW e _) rfl rfl
theorem zFI {l:List Value} {n:Nat} (h:l.length=n):zCi l.toArray 0 n=l:=by
 unfold zCi
 subst h
 apply List.ext_getElem?
 intro k
 simp
theorem zDO (e:Int) (a:Option Addr) (n c:Nat):(zK (zGR e (.slice a n c))).length=52:=zAP (zEW e _)
attribute [local irreducible] RF.V zk zK
attribute [local go_sem ↓] Go.wp_at_zero Go.wp_at_succ
attribute [local go_sem ↓] zCH zIC zHU
attribute [local go_sem] Value.oneCell' zEn zE1 List.foldl_cons List.foldl_nil List.all_cons List.all_nil rfs0 rfs1 rfs2 rfs3 rfs4 rfs5 rfs6 rfz ok0 ok1 ok2 ok3 ok4 ok5 ok6 zEs zEt
attribute [local go_sem] ptrB_eq ptrO_eq ptrIs_eq aggL_eq aggIs_eq zS ze zC zF zX zZ zV zH zHF zOd zNg zDO
theorem may5:May 5:=⟨by decide,by decide⟩
set_option maxRecDepth 100000 in
set_option maxHeartbeats 1000000 in
theorem zHd (w:World) (hT:Tab w):Calls Tryz.prog 16 #[] w fun e w'=>e=.returned (.bool true)∧Below w.heap.size w w':=by
 have HT:=Lib.hid hT
 clear hT
 go_enter Tryz.func16,Tryz.ntmps16
 go_wp2_with fail
 refine (zFZ 4 8 w HT.out (by omega) (by omega) (by omega)).mono ?_
 rintro e w1 ⟨pb,C,rfl,hS,hC,hb1⟩
 have HL:=Lib.hid (show zAi w w1 C pb (zC9 4 8) from ⟨hS,hb1,hC⟩)
 clear hS hC hb1
 go_upto_region 5 with fail
 have hbA:Below w1.heap.size w1 (w1.alloc (.cells #[Value.int .u8 7] 5)):=(Below.refl _ _).alloc (Nat.le_refl _) _
 have hbB:=hbA.alloc hbA.size (.cells #[Value.int .i64 1,Value.slice (some ⟨w1.heap.size,0,none⟩) 1 1] 53)
 have hbD:=hbB.alloc hbB.size (.cells (zK (zGR 5 (.slice (some ⟨w1.heap.size+1,0,none⟩) 1 1))).toArray 47)
 have hkB:Blk ((w1.alloc (.cells #[Value.int .u8 7] 5)).alloc (.cells #[Value.int .i64 1,Value.slice (some ⟨w1.heap.size,0,none⟩) 1 1] 53)) (w1.heap.size+1) #[Value.int .i64 1,Value.slice (some ⟨w1.heap.size,0,none⟩) 1 1] 53:=Blk.new_at _ _ _ _ (by simp)
 have hdA:Bys (w1.alloc (.cells #[Value.int .u8 7] 5)) (.slice (some ⟨w1.heap.size,0,none⟩) 1 1) [7]:=zCQ w1 7 _ rfl _
 have hkB2:=hkB.alloc (.cells (zK (zGR 5 (.slice (some ⟨w1.heap.size+1,0,none⟩) 1 1))).toArray 47)
 have hdB:=(hdA.below ((Below.refl _ _).alloc (Nat.le_refl _) (.cells #[Value.int .i64 1,Value.slice (some ⟨w1.heap.size,0,none⟩) 1 1] 53))).below ((Below.refl _ _).alloc (Nat.le_refl _) (.cells (zK (zGR 5 (.slice (some ⟨w1.heap.size+1,0,none⟩) 1 1))).toArray 47))
 have hkD:Blk (((w1.alloc (.cells #[Value.int .u8 7] 5)).alloc (.cells #[Value.int .i64 1,Value.slice (some ⟨w1.heap.size,0,none⟩) 1 1] 53)).alloc (.cells (zK (zGR 5 (.slice (some ⟨w1.heap.size+1,0,none⟩) 1 1))).toArray 47)) (w1.heap.size+1+1) (zK (zGR 5 (.slice (some ⟨w1.heap.size+1,0,none⟩) 1 1))).toArray 47:=Blk.new_at _ _ _ _ (by simp)
 obtain ⟨wd,hwd⟩:∃ q,q=((w1.alloc (.cells #[Value.int .u8 7] 5)).alloc (.cells #[Value.int .i64 1,Value.slice (some ⟨w1.heap.size,0,none⟩) 1 1] 53)).alloc (.cells (zK (zGR 5 (.slice (some ⟨w1.heap.size+1,0,none⟩) 1 1))).toArray 47):=⟨_,rfl⟩
 rw [← hwd] at hbD hkB2 hdB hkD ⊢
 have hlD:=hkD.lt
 have hnC:∀ b,w1.heap.size≤b→¬ C b:=fun b hb hC=>by have:=HL.out.old hC;omega
 have hbl:zAW wd C (.slice (some ⟨w1.heap.size+1,0,none⟩) 1 1) [(1,[7])]:=zD1 (a:=some ⟨w1.heap.size,0,none⟩) (bs:=[7]) hkB2 (hnC _ (by omega)) ⟨hdB,_,_,rfl,fun _ b hb=>by cases hb;exact ⟨by show w1.heap.size < _;omega,hnC _ (Nat.le_refl _)⟩⟩
 obtain ⟨p8,hp8⟩:∃ q,q=w1.heap.size+1:=⟨_,rfl⟩
 obtain ⟨p9,hp9⟩:∃ q,q=w1.heap.size+1+1:=⟨_,rfl⟩
 rw [← hp9] at hkD hlD ⊢
 rw [← hp8] at hkD hbl ⊢
 have r52:zN 52 wd p9 0=zK (zGR 5 (.slice (some ⟨p8,0,none⟩) 1 1)):=zP hkD (zDO _ _ _ _)
 have g52:zY 52 wd p9 0:=zL hkD (by simp [zDO])
 have HD:=Lib.hid (And.intro hbD (And.intro hkD (And.intro hbl (hnC p9 (by omega)))))
 have HG:=Lib.hid (zF5 4 8 (by omega) (by omega))
 clear hbA hbB hbD hkB hdA hkB2 hdB hkD hwd hp8 hp9 hnC hbl hlD
 obtain ⟨s0,hs0⟩:∃ x,x=zC9 4 8:=⟨_,rfl⟩
 have hsl:s0.slots=4∧s0.room=8∧s0.tab=[]∧s0.st.recs=List.replicate 4 Sto.Rec.free:=by rw [hs0];exact ⟨rfl,rfl,rfl,rfl⟩
 have HL0:=HL.out
 have HG0:=HG.out
 rw [← hs0] at HL0 HG0
 have H0:=Lib.hid (And.intro HL0 (And.intro HG0 hsl))
 clear HL HG HL0 HG0 hs0 hsl
 go_wp2_with fail
 refine ((H0.out.1.step HD.out.1).put H0.out.2.1.1.live ⟨by rw [H0.out.2.2.2.2.1];simp,by have:=H0.out.2.1.1.st.writes;omega⟩ (by have:=H0.out.2.1.1.st.writes;omega) (zEW 5 _) rfl HD.out.2.2.1 (fun x hx=>by rw [List.mem_singleton.1 hx];decide)).mono ?_
 rintro e w2 ⟨C2,err,s1,rfl,hP,hL2,hsc⟩
 have hres:err=0∧zBU 2 s1∧s1.tab.Perm [⟨z16,z16,5⟩]∧(∃ x,Sto.look s1.st.recs (zI z16 1)=some x)∧s1.st.disk.stops=false∧s1.room=8∧s1.st.recs.length=4∧zAV s1.st.recs≤2:=by
  have hlv:zAV s0.st.recs=0:=by rw [H0.out.2.2.2.2.2];exact zHr 4
  have hln:s0.st.recs.length=4:=by rw [H0.out.2.2.2.2.2,List.length_replicate]
  rcases H0.out.2.1.1.put_one (E:=5) (by decide) (zEW 5 _) (n:=1) (by decide) may5 (by decide) (H0.out.2.1.2.1 _) (by rw [H0.out.2.2.2.1];exact Nat.le_refl _) (by omega) (fun b l2 ha=>by
   rw [H0.out.2.2.2.2.1] at ha
   exact zBK.none rfl may5 ha) hP with ⟨a1,a2,a3,a4,a5,a6,a7,a8⟩ | ⟨_,a2,_⟩
  · have h4:s1.st.recs.length=4:=by rw [← a2.slots,a6,H0.out.2.2.1]
    exact ⟨a1,a2,a3,⟨_,by rw [a4,upd,if_neg zCI,upd];exact if_pos rfl⟩,a5.trans H0.out.2.1.2.2,a7.trans H0.out.2.2.2.1,h4,by omega⟩
  · rw [H0.out.2.1.2.2] at a2;cases a2
 obtain ⟨rfl,hres⟩:=hres
 have hk2:=hsc.1.blk HD.out.2.1 HD.out.2.2.2
 have r52':zN 52 w2 p9 0=zK (zGR 5 (.slice (some ⟨p8,0,none⟩) 1 1)):=zP hk2 (zDO _ _ _ _)
 have g52':zY 52 w2 p9 0:=zL hk2 (by simp [zDO])
 have H2:=Lib.hid (And.intro hres (And.intro hL2 (zAW.sch HD.out.2.2.1 hsc)))
 clear hP hL2 hsc hk2 r52 g52 hres
 go_wp2_with fail
 refine (H2.out.2.1.put H2.out.1.1.live ⟨by rw [H2.out.1.2.1.length_eq];simp,by have:=H2.out.1.1.st.writes;omega⟩ (by have:=H2.out.1.1.st.writes;omega) (zEW 5 _) rfl H2.out.2.2 (fun x hx=>by rw [List.mem_singleton.1 hx];decide)).mono ?_
 rintro e w3 ⟨C3,err,s2,rfl,hP,hL3,hsc⟩
 have herr:err=5:=by
  obtain ⟨x,hx⟩:=H2.out.1.2.2.1
  exact H2.out.1.1.put_there (E:=5) (by decide) (zEW 5 _) (n:=1) (by decide) may5 (by decide) hx (by rw [H2.out.1.2.2.2.2.1];exact Nat.le_refl _) (by have:=H2.out.1.2.2.2.2.2;omega) H2.out.1.2.2.2.1 (fun b l2 ha=>zBK.again H2.out.1.2.1 may5 ha) hP
 subst herr
 have H3:=Lib.hid hL3.bel
 clear hP hL3 hsc
 go_wp2_with fail
 go_ret
 exact ⟨rfl,H3.out⟩
end Go.Proofs.YtbbojbdigiibbaaGreatDoor
end
section
namespace Go.Mem
open Go Go.RowKit Gf Lea
def zDI (l:List zM) (num:Int):Option (List UInt8):=(l.find? fun x=>decide (x.1=num)).map (·.2)
theorem zKk {l:List zM} {num:Int} {i:Nat} {x:zM} (hx:l[i]?=some x) (he:x.1=num) (hb:∀ q y,q < i→l[q]?=some y→y.1≠num):zDI l num=some x.2:=by
 unfold zDI
 have:l.find? (fun x=>decide (x.1=num))=some x:=by
  induction l generalizing i with
  | nil=>simp at hx
  | cons z l ih =>
    cases i with
    | zero =>
      simp at hx;subst hx
      rw [List.find?_cons_of_pos (by simpa using he)]
    | succ i =>
      rw [List.find?_cons_of_neg (by simpa using hb 0 z (by omega) rfl)]
      exact ih (i:=i) (by simpa using hx) fun q y hq hy=>hb (q+1) y (by omega) (by simpa using hy)
 rw [this];rfl
theorem zKj {l:List zM} {num:Int} (hb:∀ (q:Nat) (y:zM),l[q]?=some y→y.1≠num):zDI l num=none:=by
 unfold zDI
 rw [List.find?_eq_none.2]
 · rfl
 · intro x hx
   obtain ⟨i,hi⟩:=List.getElem?_of_mem hx
   simpa using hb i x hi
end Go.Mem
namespace Go.Proofs.YtbbojbdigiibbaaGreatDoor
open Go Go.RowKit Go.Mem Gf Lea
set_option linter.unusedVariables false
attribute [local go_sem ↓] Go.wp_at_zero Go.wp_at_succ
attribute [local irreducible] zW
def FindP (w:World) (l:List zM) (num:Int) (e:Ending) (w':World):Prop :=
 ∃ v ok,e=.returned (.tuple #[v,.bool ok])∧Below w.heap.size w w'∧((∃ bs,zDI l num=some bs∧ok=true∧zCx w' (fun _=>False) v bs)∨(zDI l num=none∧ok=false∧v=.slice none 0 0))
set_option maxRecDepth 100000 in
set_option maxHeartbeats 1000000 in
theorem zF4 (w:World) (is:Bool) (k:List Value) (u:Value) (l:List zM) (num:Int) (hk:k.length=16) (ho:∀ v∈k,v.oneCell'=true) (h:zAW w (fun _=>False) u l) :
  Calls Tryz.prog 185 #[.agg (zW is k u).toArray,.int .i64 num] w (FindP w l num):=by
 obtain ⟨a,c,rfl,hc1,hc2,hrow⟩:=id h
 obtain ⟨n,hn⟩:∃ n,n=l.length:=⟨_,rfl⟩
 rw [← hn] at hc1 hrow ⊢
 unfold maxLen at hc2
 have hu:=zBF is hk (.slice a n c)
 have hcl:=zAO is hk (.slice a n c)
 obtain ⟨cc,hcc⟩:∃ cc,cc=zW is k (.slice a n c):=⟨_,rfl⟩
 rw [← hcc] at hu hcl ⊢
 have hkC:Blk (w.alloc (.cells cc.toArray 205)) w.heap.size cc.toArray 205:=Blk.new _ _ _
 have hbC:Below w.heap.size w (w.alloc (.cells cc.toArray 205)):=(Below.refl _ _).alloc (Nat.le_refl _) _
 have c17:(w.alloc (.cells cc.toArray 205)).cell? ⟨w.heap.size,17,none⟩=some (.slice a n c):=by rw [hkC.cell 17];simpa using hu
 have k1:zCi cc.toArray 0 18=cc:=zFI hcl
 have H:=Lib.hid (And.intro h (And.intro hn (And.intro hrow hbC)))
 clear h hn hrow hcc hbC
 go_enter Tryz.func185,Tryz.ntmps185
 go_upto_region 2 with fail
 go_loopw [11] (fun vi wr=>∃ i:Nat,i≤n∧vi=.int .i64 i∧Hid ((∀ q y,q < i→l[q]?=some y→y.1≠num)∧Below w.heap.size w wr)) (fun vi _=>n - (intOf vi).toNat)
 case atStart=>exact ⟨0,Nat.zero_le _,rfl,(fun q y h=>by omega),H.out.2.2.2⟩
 case round =>
  obtain ⟨i,hi0,rfl,G⟩:=hrel
  by_cases hin:i < n
  · obtain ⟨b,off,rfl,hb,hnb,hcells⟩:=H.out.2.2.1 (by omega)
    have hx:l[i]?=some (l[i]'(by have:=H.out.2.1;omega)):=by simp
    generalize l[i]'(by have:=H.out.2.1;omega)=x at hx
    obtain ⟨c1,a',c',c2,hd⟩:=hcells i x hx
    have hbc:=fun o=>G.out.2.cell (p:=⟨b,o,none⟩) hb
    rw [← hbc] at c1 c2
    have i0:(0:Int)≤(i:Int):=by omega
    have i1:(i:Int) < (n:Int):=by omega
    obtain ⟨z,hz⟩:∃ z,z=x.1:=⟨_,rfl⟩
    obtain ⟨xl,hxl⟩:∃ z,z=x.2.length:=⟨_,rfl⟩
    rw [← hz] at c1
    rw [← hxl] at c2 hd
    have hbA:=G.out.2.alloc G.out.2.size (.cells #[.int .i64 z,.slice a' xl c'] 53)
    have HX:=Lib.hid (And.intro hx (And.intro hz (And.intro hxl (And.intro hbA (hd.chg (S:=fun _=>False) (Chg.of_below hbA) (fun _ h=>h.elim))))))
    clear hx hz hxl hd hbA hb hcells hbc
    by_cases hzz:z=num
    · have HF:=Lib.hid (zKk HX.out.1 (by rw [← HX.out.2.1];exact hzz) G.out.1)
      have t1:(z == num)=true:=by simpa using hzz
      replace hzz:=Lib.hid hzz
      go_wp2_with fail
      go_ret2
      exact ⟨_,true,rfl,HX.out.2.2.2.1,.inl ⟨_,HF.out,rfl,HX.out.2.2.2.2⟩⟩
    · have t1:(z == num)=false:=by simpa using hzz
      have HNE:=Lib.hid hzz
      clear hzz
      go_wp2_with fail
      exact ⟨⟨i+1,by omega,by simp,fun q y' hq hy'=>by
       rcases Nat.lt_or_ge q i with h | h
       · exact G.out.1 q y' h hy'
       · have:q=i:=by omega
         subst this
         rw [HX.out.1] at hy'
         cases hy'
         rw [← HX.out.2.1];exact HNE.out,HX.out.2.2.2.1⟩,by show n - ((i:Int)+1).toNat < n - (i:Int).toNat;omega⟩
  · obtain rfl:i=n:=by omega
    have HF:=Lib.hid (zKj (l:=l) (num:=num) fun q y hy=>G.out.1 q y (by have:=zq hy;have:=H.out.2.1;omega) hy)
    go_wp2_with fail
    go_ret2
    exact ⟨_,false,rfl,G.out.2,.inr ⟨HF.out,rfl,rfl⟩⟩
end Go.Proofs.YtbbojbdigiibbaaGreatDoor
end
section
namespace Go.Proofs.YtbbojbdigiibbaaGreatDoor
open Go Go.RowKit Go.Mem Gf Lea Go.Lib Go.Shelf
set_option linter.unusedVariables false
abbrev BP:=Int × Option Addr × Nat × Nat
def eP (x:BP):List Value:=[.int .i64 x.1,.slice x.2.1 x.2.2.1 x.2.2.2]
def WfP (_:BP):Prop:=True
theorem ecP:zEb eP WfP 2:=⟨fun x h=>rfl,fun x v hv=>by
 unfold eP at hv
 simp only [List.mem_cons,List.not_mem_nil,or_false] at hv
 rcases hv with rfl | rfl <;> rfl,by decide⟩
def ltP (a b:BP):Bool:=decide (a.1 < b.1)
theorem ordP:Srt.Ord ltP:=by
 refine ⟨fun a b h=>?_,fun a b c h1 h2=>?_⟩
 · unfold ltP at *
   simp only [decide_eq_true_eq,decide_eq_false_iff_not] at *
   omega
 · unfold ltP at *
   simp only [decide_eq_false_iff_not] at *
   omega
instance:Inhabited {k:BP // WfP k}:=⟨⟨(0,none,0,0),trivial⟩⟩
theorem swoP:Go.Sort.SWO (fun a b:{k:BP // WfP k}=>ltP a.1 b.1):=by
 refine ⟨fun x=>?_,fun x y z h1 h2=>?_,fun x y z h1 h2=>?_⟩
 · show ltP x.1 x.1=false
   unfold ltP;simp
 · show ltP x.1 z.1=true
   have h1:ltP x.1 y.1=true:=h1
   have h2:ltP y.1 z.1=true:=h2
   unfold ltP at *
   simp only [decide_eq_true_eq] at *
   omega
 · exact ordP.trans z.1 y.1 x.1 h2 h1
attribute [local go_sem ↓] Go.wp_at_zero Go.wp_at_succ
set_option maxRecDepth 100000 in
set_option maxHeartbeats 1000000 in
theorem zHO (w:World) (bx base g n cap:Nat) (l:List BP) (h:zAq eP WfP 2 53 w base g n cap l) (hb:w.cell? ⟨bx,17,none⟩=some (.slice (some ⟨g,0,none⟩) n cap)) (i j:Nat) (x y:BP) (hx:l[i]?=some x) (hy:l[j]?=some y) :
  Calls Tryz.prog 187 #[.int .i64 i,.int .i64 j,.pointer (some ⟨bx,0,none⟩)] w fun e w'=>e=.returned (.bool (ltP x y))∧∃ q,w'=w.drewN q:=by
 have hi:i < n:=by rw [h.len];exact zq hx
 have hj:j < n:=by rw [h.len];exact zq hy
 have i0:(0:Int)≤(i:Int):=by omega
 have i1:(i:Int) < (n:Int):=by omega
 have j0:(0:Int)≤(j:Int):=by omega
 have j1:(j:Int) < (n:Int):=by omega
 have t1:=h.range ecP hx 0 (.int .i64 x.1) rfl
 have t2:=h.range ecP hy 0 (.int .i64 y.1) rfl
 simp only [Nat.add_zero] at t1 t2
 obtain ⟨xn,hxn⟩:∃ z,z=x.1:=⟨_,rfl⟩
 obtain ⟨yn,hyn⟩:∃ z,z=y.1:=⟨_,rfl⟩
 rw [← hxn] at t1
 rw [← hyn] at t2
 have HXY:=Lib.hid (And.intro hxn hyn)
 clear h hx hy hxn hyn
 go_enter Tryz.func187,Tryz.ntmps187
 go_wp2_with fail
 go_region
 go_wp2
 go_ret
 exact ⟨by unfold ltP;rw [← HXY.out.1,← HXY.out.2];rfl,_,rfl⟩
theorem zDs:∀ args w,(callFunc 187 args).run Tryz.prog w=.ok (.enter 187 args) w:=enters_of Tryz.func187 (by kernel_rfl) rfl
noncomputable def psT:TypeInfo:=(Tryz.prog.info? 41).get (by kernel_rfl)
noncomputable def psE:TypeInfo:=(Tryz.prog.info? 53).get (by kernel_rfl)
theorem psK9 (n:Nat) (h2:2≤n):Lib.swapperK n psE 25=9:=by
 have a:psE.hasPointers=true:=by kernel_rfl
 have b:psE.bytes=32:=by kernel_rfl
 have c:(n == 0)=false:=by simp;omega
 have d:(n == 1)=false:=by simp;omega
 simp [Lib.swapperK,a,b,c,d]
theorem zJy (w:World) (p:Option Addr) (n c:Nat) (hn:n≤1) (bx:Nat) :
  Calls Tryz.prog 114 #[.iface 41 (.slice p n c),.func (.func 187) #[] #[.pointer (some ⟨bx,0,none⟩)]] w fun e w'=>e=.returned (.tuple #[])∧Chg (fun _=>False) w w':=by
 obtain ⟨l,hl⟩:∃ l:List BP,l.length=n:=⟨List.replicate n (0,none,0,0),by simp⟩
 obtain ⟨f, hf⟩ : ∃ f, Tryz.prog.funcs.findIdx? (·.name == "internal/reflectlite" ++ ".Swapper$" ++ toString (swapperK n psE 25)) = some f := by
  rcases (by omega:n=0∨n=1) with rfl | rfl
  · exact ⟨192,by kernel_rfl⟩
  · exact ⟨193,by kernel_rfl⟩
 have hb:sliceBound Tryz.prog 53 psE 25 p n c=#[]:=by
  unfold sliceBound swapperK
  rcases (by omega:n=0∨n=1) with rfl | rfl <;> simp
 have hw:Chg (fun _=>False) w (sliceWorld Tryz.prog Tryz.laysGg6_ren 41 p n c w):=Chg.of_below (((Below.refl _ _).alloc (Nat.le_refl _) _).alloc (by simp) _)
 refine Any.sort_Slice_of_pdq Tryz.laysGg6 41 53 psT psE (by kernel_rfl) (by kernel_rfl) (by kernel_rfl) (by kernel_rfl) 25 (fun _=>by kernel_rfl) p n c (by omega) f hf _ _ _ w _ ?_
 rw [hb]
 refine (zEV (zE5 ltP ordP 187 f #[.pointer (some ⟨bx,0,none⟩)] #[] zDs) l n _ hl (by omega) _ (by omega)).mono ?_
 rintro e w' ⟨rfl,_,_,_,_,hc⟩
 exact ⟨rfl,hw.trans hc⟩
theorem zMY (w:World) (bx base g n cap:Nat) (l:List BP) (cc:Array Value) (h:zAq eP WfP 2 53 w base g n cap l) (hb:Blk w bx cc 205) (hu:cc[17]?=some (.slice (some ⟨g,0,none⟩) n cap)) (hne:bx≠g) (h2:2≤n) (hn:n≤1000000) :
  Calls Tryz.prog 114 #[.iface 41 (.slice (some ⟨g,0,none⟩) n cap),.func (.func 187) #[] #[.pointer (some ⟨bx,0,none⟩)]] w fun e w' =>
   e=.returned (.tuple #[])∧∃ l',zAq eP WfP 2 53 w' base g n cap l'∧l'.Perm l∧(l'.Pairwise fun a b=>ltP b a=false)∧Chg (fun k=>k=g) w w':=by
 obtain ⟨d,hd⟩:=toS h.wf
 have hdn:d.size=n:=by rw [h.len,← hd];simp
 have hH:=h.holds ecP d hd
 have hless:Go.Proofs.LessReadsK Tryz.prog 187 #[.pointer (some ⟨bx,0,none⟩)] (zC8 eP WfP) 2 (fun a b:{k:BP // WfP k}=>ltP a.1 b.1) g 0 d.size w:=by
  intro m os dk hs i j hi hj
  have hp:=h.put ecP m os dk (by omega)
  have hx:(dk.toList.map (·.1))[i]?=some (dk[i]!).1:=by
   rw [List.getElem?_map,Array.getElem?_toList,getElem!_pos dk i (by omega),Array.getElem?_eq_getElem (by omega)];rfl
  have hy:(dk.toList.map (·.1))[j]?=some (dk[j]!).1:=by
   rw [List.getElem?_map,Array.getElem?_toList,getElem!_pos dk j (by omega),Array.getElem?_eq_getElem (by omega)];rfl
  exact zHO _ bx base g n cap _ hp.1 (by rw [(hp.2.blk hb hne).cell 17];exact hu) i j _ _ hx hy
 have hf : Tryz.prog.funcs.findIdx? (·.name == "internal/reflectlite" ++ ".Swapper$" ++ toString (swapperK d.size psE 25)) = some 200 := by
  rw [psK9 _ (by omega)];kernel_rfl
 have:=Go.Proofs.Any.sort_Slice_cells_sorted Tryz.laysGg6 41 53 psT psE (by kernel_rfl) (by kernel_rfl) (by kernel_rfl) (by kernel_rfl) 25 (fun _=>by kernel_rfl) (zC8 eP WfP) 2 (fun x=>ecP.len x.1 x.2) (by kernel_rfl) (fun _=>by kernel_rfl)
  (fun x=>ecP.one x.1) (fun a b:{k:BP // WfP k}=>ltP a.1 b.1) swoP 187 #[.pointer (some ⟨bx,0,none⟩)] zDs g 0 cap d (by omega) (by omega) 200 hf false
  (fun args W=>run_callFunc_extern Tryz.func200 (by kernel_rfl) (by kernel_rfl) (by kernel_rfl) (e:=Extern.ReflectliteSwapper.swap false) (by kernel_rfl) args W) w hless hH (by obtain ⟨cur,hh,_⟩:=h.block;exact lt_of_block hh)
 rw [hdn] at this
 refine this.mono ?_
 rintro e w' ⟨rfl,d',m,os,hp,hs,rfl⟩
 rw [← hdn] at hp
 have hd':d'.size=n:=by rw [hp.1,hdn]
 have hput:=h.put ecP m os d' hd'
 exact ⟨rfl,_,hput.1,by rw [← hd];exact zGC hp,zC2 hd' hs,hput.2⟩
theorem zJx (w:World) (bx base:Nat) (a:Option Addr) (n c:Nat) (l:List BP) (cc:Array Value) (h:zAh eP WfP 2 53 w base (.slice a n c) l) (hb:Blk w bx cc 205) (hu:cc[17]?=some (.slice a n c)) (hne:(Value.slice a n c).ownBlock≠some bx) (hn:l.length≤1000000) :
  Calls Tryz.prog 114 #[.iface 41 (.slice a n c),.func (.func 187) #[] #[.pointer (some ⟨bx,0,none⟩)]] w fun e w' =>
   e=.returned (.tuple #[])∧∃ l',zAh eP WfP 2 53 w' base (.slice a n c) l'∧l'.Perm l∧(l'.Pairwise fun a b=>ltP b a=false)∧Chg (fun k=>(Value.slice a n c).ownBlock=some k) w w':=by
 have hlen:n=l.length:=by
  obtain ⟨_,_,e⟩:=h.slice
  injection e
 by_cases h2:2≤n
 · obtain ⟨g,cap,e,hr⟩:=h.ex (by omega)
   injection e with ea en ec
   subst ea
   subst ec
   rw [← hlen] at hr
   refine (zMY w bx base g n c l cc hr hb hu (fun e=>hne (by rw [e];rfl)) h2 (by omega)).mono ?_
   rintro e w' ⟨rfl,l',h1,h3,h4,h5⟩
   exact ⟨rfl,l',h1.to,h3,h4,h5.mono (fun k hk=>by rw [hk];rfl)⟩
 · refine (zJy w a n c (by omega) bx).mono ?_
   rintro e w' ⟨rfl,h5⟩
   refine ⟨rfl,l,h.chg h5 (fun _ _ h=>h),List.Perm.refl _,?_,h5.mono (fun _ h=>h.elim)⟩
   rw [List.pairwise_iff_getElem]
   intro p q hp hq hpq
   omega
end Go.Proofs.YtbbojbdigiibbaaGreatDoor
end
section
namespace Go.Mem
open Go Go.RowKit Gf Lea Go.Proofs.YtbbojbdigiibbaaGreatDoor
set_option linter.unusedVariables false
theorem zH0 {α β:Type}:∀ (p:List α) {q:List (α × β)},p.Perm (q.map (·.1))→∃ q':List (α × β),q'.Perm q∧q'.map (·.1)=p
 | [],q,h=>by
   have:=h.length_eq
   simp at this
   have:q=[]:=List.eq_nil_of_length_eq_zero (by simpa using this.symm)
   exact ⟨[],by rw [this],rfl⟩
 | a::t,q,h=>by
   obtain ⟨z,hz,rfl⟩:=List.mem_map.1 (h.mem_iff.1 (List.mem_cons_self))
   obtain ⟨s,t2,rfl⟩:=List.append_of_mem hz
   have h1:((s++z::t2).map (·.1)).Perm (z.1::(s++t2).map (·.1)):=by
    rw [List.map_append,List.map_cons,List.map_append]
    exact List.perm_middle
   obtain ⟨q',h2,h3⟩:=zH0 t (h.trans h1).cons_inv
   exact ⟨z::q',(h2.cons z).trans List.perm_middle.symm,by rw [List.map_cons,h3]⟩
def slP (p:BP):Value:=.slice p.2.1 p.2.2.1 p.2.2.2
def BPs (w:World) (N:Nat→Prop) (ps:List BP) (l:List zM):Prop :=
 ∃ q:List (BP × zM),q.map (·.1)=ps∧q.map (·.2)=l∧∀ z∈q,z.1.1=z.2.1∧z.1.2.2.1=z.2.2.length∧zCx w N (slP z.1) z.2.2
theorem BPs.nil (w:World) (N:Nat→Prop):BPs w N [] []:=⟨[],rfl,rfl,fun z h=>by cases h⟩
theorem BPs.len {w:World} {N:Nat→Prop} {ps:List BP} {l:List zM} (h:BPs w N ps l):ps.length=l.length:=by
 obtain ⟨q,rfl,rfl,_⟩:=h
 rw [List.length_map,List.length_map]
theorem BPs.chg {S N:Nat→Prop} {w w':World} {ps:List BP} {l:List zM} (h:BPs w N ps l) (hc:Chg S w w') (hs:∀ b,S b→b < w.heap.size→N b):BPs w' N ps l:=by
 obtain ⟨q,h1,h2,h3⟩:=h
 exact ⟨q,h1,h2,fun z hz=>⟨(h3 z hz).1,(h3 z hz).2.1,(h3 z hz).2.2.chg hc hs⟩⟩
theorem BPs.app {w:World} {N:Nat→Prop} {ps ps':List BP} {l l':List zM} (h:BPs w N ps l) (h':BPs w N ps' l'):BPs w N (ps++ps') (l++l'):=by
 obtain ⟨q,h1,h2,h3⟩:=h
 obtain ⟨q',h1',h2',h3'⟩:=h'
 refine ⟨q++q',by rw [List.map_append,h1,h1'],by rw [List.map_append,h2,h2'],fun z hz=>?_⟩
 rcases List.mem_append.1 hz with hz | hz
 · exact h3 z hz
 · exact h3' z hz
theorem BPs.one {w:World} {N:Nat→Prop} {p:BP} {x:zM} (h1:p.1=x.1) (h2:p.2.2.1=x.2.length) (h3:zCx w N (slP p) x.2):BPs w N [p] [x] :=
 ⟨[(p,x)],rfl,rfl,fun z hz=>by rw [List.mem_singleton.1 hz];exact ⟨h1,h2,h3⟩⟩
theorem BPs.perm {w:World} {N:Nat→Prop} {ps ps':List BP} {l:List zM} (h:BPs w N ps l) (hp:ps'.Perm ps) (hs:ps'.Pairwise fun a b=>ltP b a=false):∃ l',BPs w N ps' l'∧l'.Perm l∧l'.Pairwise fun a b:zM=>a.1≤b.1:=by
 obtain ⟨q,rfl,rfl,h3⟩:=h
 obtain ⟨q',h4,rfl⟩:=zH0 ps' hp
 refine ⟨q'.map (·.2),⟨q',rfl,rfl,fun z hz=>h3 z (h4.mem_iff.1 hz)⟩,h4.map _,?_⟩
 rw [List.pairwise_map] at hs ⊢
 refine hs.imp_of_mem fun {a b} ha hb hab=>?_
 have e1:=(h3 a (h4.mem_iff.1 ha)).1
 have e2:=(h3 b (h4.mem_iff.1 hb)).1
 unfold ltP at hab
 simp only [decide_eq_false_iff_not] at hab
 omega
theorem zAW.pairs {w:World} {N:Nat→Prop} {u:Value} {l:List zM} (h:zAW w N u l):∃ a c ps,u=.slice a l.length c∧BPs w N ps l∧(0 < l.length→∃ b off,a=some ⟨b,off,none⟩∧b < w.heap.size∧¬ N b∧∀ (i:Nat) (p:BP),ps[i]?=some p→w.cell? ⟨b,off+i*2,none⟩=some (.int .i64 p.1)∧w.cell? ⟨b,off+i*2+1,none⟩=some (slP p)):=by
 obtain ⟨a,c,rfl,h1,h2,h3⟩:=h
 rcases Nat.eq_zero_or_pos l.length with h0 | h0
 · have:l=[]:=List.eq_nil_of_length_eq_zero h0
   subst this
   exact ⟨a,c,[],rfl,BPs.nil _ _,fun h=>by simp at h⟩
 · obtain ⟨b,off,rfl,hb,hn,h4⟩:=h3 h0
   have key:∀ k,k≤l.length→∃ ps,ps.length=k∧BPs w N ps (l.take k)∧∀ (i:Nat) (p:BP),ps[i]?=some p→w.cell? ⟨b,off+i*2,none⟩=some (.int .i64 p.1)∧w.cell? ⟨b,off+i*2+1,none⟩=some (slP p):=by
    intro k
    induction k with
    | zero=>exact fun _=>⟨[],rfl,by rw [List.take_zero];exact BPs.nil _ _,fun i p h=>by simp at h⟩
    | succ k ih =>
      intro hk
      obtain ⟨ps,e1,e2,e3⟩:=ih (by omega)
      have hx:l[k]?=some (l[k]'(by omega)):=by simp
      generalize l[k]'(by omega)=x at hx
      obtain ⟨c1,a',c',c2,hd⟩:=h4 k x hx
      refine ⟨ps++[(x.1,a',x.2.length,c')],by simp [e1],?_,fun i p hp=>?_⟩
      · rw [List.take_add_one,hx]
        exact e2.app (BPs.one rfl rfl hd)
      · rcases Nat.lt_or_ge i k with hi | hi
        · rw [List.getElem?_append_left (by omega)] at hp
          exact e3 i p hp
        · rw [List.getElem?_append_right (by omega),e1] at hp
          have:i=k:=by
           have:=zq hp
           simp at this
           omega
          subst this
          simp at hp
          subst hp
          exact ⟨c1,c2⟩
   obtain ⟨ps,e1,e2,e3⟩:=key l.length (Nat.le_refl _)
   rw [List.take_length] at e2
   exact ⟨_,c,ps,rfl,e2,fun _=>⟨b,off,rfl,hb,hn,e3⟩⟩
end Go.Mem
end
section
namespace Go.Mem
open Go Go.RowKit Gf
section
variable {P:Program} {w:World} {ops:Array Oper} {rest:List Oper} {o:Oper} {a:Act} {Q:Exit→Act→World→Prop}
theorem zI3 {α:Type} {enc:α→List Value} {Wf:α→Prop} {t e:TypeId} {z:Value} {size bytes:Nat} (E:zDD P t e z size bytes) (EC:zEb enc Wf size) (hgd:o.guard=none) (s x:Operand) (ho:o.op=.call { callee:=.builtin .append,args:=#[s,x],argTypes:=#[t,t] })
  (hs:a.eval s=.slice none 0 0) {L off n cap:Nat} {l:List α} (hw:∀ x∈l,Wf x) (hx:a.eval x=.slice (some ⟨L,off,none⟩) n cap) (hl:l.length=n) (hnews:∀ j u,(zB3 enc l)[j]?=some u→w.cell? ⟨L,off+j,none⟩=some u)
  (hn:n≤maxLen) (hby:n*bytes≤140737488355328)
  (h:∀ v' w',zAh enc Wf size e w' w.heap.size v' l→Below w.heap.size w w'→wpList P ops Q rest (a.put o.dst v') w'):wpList P ops Q (o::rest) a w:=by
 obtain ⟨i,hi,hz,hsz,hb⟩:=info_parts E.info
 refine wpList_plain hgd fun K hK=>wp_append_own w s x t ho w.heap.size e i z size bytes E.under hi hz hsz hb E.zsize E.pos (.slice none 0 0) 0 [] hs (World.ownsRow_nil _ _ _ _) ⟨L,off,none⟩ n cap (zB3 enc l) hx (by rw [zCh EC l hw,hl])
  (fun j y hj=>by
   rw [show (⟨L,off,none⟩:Addr).add j=⟨L,off+j,none⟩ from by
    unfold Addr.add
    split
    · subst_vars;rfl
    · rfl]
   exact hnews j y hj) (zHg EC l) (by omega) (by rw [Nat.zero_add];exact hby) (Nat.le_refl _) (fun v' w' h2 h3 _=>hK _ _ ?_)
 rw [Nat.zero_add,List.nil_append] at h2
 exact h v' w' ⟨by rw [hl];exact h2,hw⟩ (zAj h3 rfl)
end
end Go.Mem
end
