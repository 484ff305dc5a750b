/- Texts of this proof,packed: RefSum. -/
import Derived.Test.YtdlkghdfkjdajaaGreatDoorPkP06
import Derived.Test.YtdlkghdfkjdajaaGreatDoorPkP13
import Derived.Test.YtdlkghdfkjdajaaGreatDoorPkP07
section
namespace Go.Proofs.YtdlkghdfkjdajaaGreatDoor
open Go Go.RowKit Go.Mem Gf Sha
set_option linter.unusedVariables false
set_option linter.unusedSimpArgs false
attribute [local go_sem ↓] Go.wp_at_zero Go.wp_at_succ
attribute [local go_sem ↓] zEg zDw zJZ zJr zHK zY zU
attribute [local go_sem] isW_eq
attribute [local go_sem] ptrB_eq ptrO_eq ptrIs_eq aggL_eq aggIs_eq zS zV zD zF zB zB4
attribute [local irreducible] kL
set_option maxRecDepth 100000 in
theorem zEe (w:World):Calls Tryz.prog 55 #[] w fun e w'=>e=.returned (.agg kL.toArray)∧Below w.heap.size w w':=by
 have hka:=zIv
 have hkl:=zBP
 go_enter Tryz.func55,Tryz.ntmps55
 go_upto_region 1 with fail
 obtain ⟨w0,hw0⟩:∃ q,q=w.alloc (.cells #[Value.int IntKind.u32 0,.int .u32 0,.int .u32 0,.int .u32 0,.int .u32 0,.int .u32 0,.int .u32 0,.int .u32 0,.int .u32 0,.int .u32 0,.int .u32 0,.int .u32 0,.int .u32 0,.int .u32 0,.int .u32 0,.int .u32 0,.int .u32 0,.int .u32 0,.int .u32 0,.int .u32 0,.int .u32 0,.int .u32 0,.int .u32 0,.int .u32 0,.int .u32 0,.int .u32 0,.int .u32 0,.int .u32 0,.int .u32 0,.int .u32 0,.int .u32 0,.int .u32 0,.int .u32 0,.int .u32 0,.int .u32 0,.int .u32 0,.int .u32 0,.int .u32 0,.int .u32 0,.int .u32 0,.int .u32 0,.int .u32 0,.int .u32 0,.int .u32 0,.int .u32 0,.int .u32 0,.int .u32 0,.int .u32 0,.int .u32 0,.int .u32 0,.int .u32 0,.int .u32 0,.int .u32 0,.int .u32 0,.int .u32 0,.int .u32 0,.int .u32 0,.int .u32 0,.int .u32 0,.int .u32 0,.int .u32 0,.int .u32 0,.int .u32 0,.int .u32 0] 115):=⟨_,rfl⟩
 have h0:zi 64 w0 w.heap.size 0:=by
  rw [hw0];exact zHd (by simp) _ _
 have hb:Below w.heap.size w w0:=by
  rw [hw0];exact (Below.refl _ _).alloc (Nat.le_refl _) _
 rw [← hw0]
 clear hw0
 have HLD:=Lib.hid (zHj h0 hka)
 have HB:=Lib.hid hb
 clear hb
 go_wp2_with fail
 refine bodyPost_ret (v:=.agg kL.toArray) (by simp [results,Tryz.results55,asAddr,HLD.out]) rfl ⟨rfl,?_⟩
 exact (Chg.setCells (S:=fun b=>b=w.heap.size) (L:=w.heap.size) rfl _ _ _ (Chg.of_below HB.out)).below (Nat.le_refl _) (fun k hk=>by rw [hk];exact Nat.le_refl _)
attribute [local go_sem] zJU zEl zJy zLj zLi wz_or zJV zJ0 zJW zD3 zHA zJz zIa zIZ zJ1 zJ2 zIb
set_option maxRecDepth 100000 in
theorem zJT (x:UInt32) (n:Int) (k:Nat) (hn:n=(k:Int)) (hk:1≤k∧k≤31) (w:World) :
  Calls Tryz.prog 56 #[.int .u32 (wz x),.int .u64 n] w fun e w'=>e=.returned (.int .u32 (wz (ror x k)))∧w=w':=by
 subst hn
 obtain ⟨m,hm⟩:∃ m,m=32 - k:=⟨_,rfl⟩
 have h2:IntKind.u64.wrap (32 - (k:Int))=(m:Int):=by
  rw [IntKind.wrap_u64];omega
 have h3:min m 32=m:=by omega
 have h4:min k 32=k:=by omega
 have m0:(0:Int)≤(m:Int):=by omega
 have k0:(0:Int)≤(k:Int):=by omega
 have HM:=Lib.hid hm
 clear hm
 go_enter Tryz.func56,Tryz.ntmps56
 go_wp2
 go_ret
 refine ⟨?_,rfl⟩
 rw [← zLT,← HM.out]
 rfl
theorem zBD (x:UInt32) (n:Int) (h1:1≤n) (h2:n≤31) (w:World) :
  Calls Tryz.prog 56 #[.int .u32 (wz x),.int .u64 n] w fun e w'=>e=.returned (.int .u32 (wz (ror x n.toNat)))∧w=w' :=
 zJT x n n.toNat (by omega) (by omega) w
theorem toN2:(2:Int).toNat=2:=rfl
theorem toN6:(6:Int).toNat=6:=rfl
theorem toN7:(7:Int).toNat=7:=rfl
theorem toN11:(11:Int).toNat=11:=rfl
theorem toN13:(13:Int).toNat=13:=rfl
theorem toN17:(17:Int).toNat=17:=rfl
theorem toN18:(18:Int).toNat=18:=rfl
theorem toN19:(19:Int).toNat=19:=rfl
theorem toN22:(22:Int).toNat=22:=rfl
theorem toN25:(25:Int).toNat=25:=rfl
attribute [local go_sem] toN2 toN6 toN7 toN11 toN13 toN17 toN18 toN19 toN22 toN25
structure zBq (w wr:World) (p2 p3 p4 B:Nat) (P:List UInt8) (h:H8) (v:Value):Prop where
 k2:Blk wr p2 (bV (List.replicate 32 0)).toArray 34
 k3:Blk wr p3 kL.toArray 115
 k4:Blk wr p4 (hV h).toArray 117
 v:zP 5 wr B v P
 bel:Below w.heap.size w wr
 sz:B≤wr.heap.size
theorem zBq.app {w wr w1 w':World} {p2 p3 p4 B:Nat} {L L':List UInt8} {h:H8} {v v':Value} (G:zBq w wr p2 p3 p4 B L h v) (hp:p2 < B∧p3 < B∧p4 < B) (hge:w.heap.size≤B) (h1:Below wr.heap.size wr w1) (ho:zP 5 w' B v' L') (hg:w1.grownBy w' v.ownBlock):zBq w w' p2 p3 p4 B L' h v':=by
 have hl:=G.v.lt
 have hcc:Chg (fun k=>v.ownBlock=some k) wr w':=Chg.grown (S:=fun k=>v.ownBlock=some k) (Chg.of_below h1) hg (fun _ hq=>.inl hq)
 have hn:∀ q,q < B→¬ v.ownBlock=some q:=fun q hq e=>by have:=(hl q e).1;omega
 exact ⟨hcc.blk G.k2 (hn _ hp.1),hcc.blk G.k3 (hn _ hp.2.1),hcc.blk G.k4 (hn _ hp.2.2),ho,zN (G.bel.trans (h1.mono G.bel.size)) hg (fun k hk=>by have:=(hl k hk).1;omega),Nat.le_trans G.sz hcc.size⟩
theorem zBq.below {w wr w':World} {p2 p3 p4 B:Nat} {L:List UInt8} {h:H8} {v:Value} (G:zBq w wr p2 p3 p4 B L h v) (hb:Below wr.heap.size wr w'):zBq w w' p2 p3 p4 B L h v :=
 ⟨G.k2.kept hb,G.k3.kept hb,G.k4.kept hb,G.v.below hb,G.bel.trans (hb.mono G.bel.size),Nat.le_trans G.sz hb.size⟩
theorem zBq.set {w wr:World} {p2 p3 p4 B p7:Nat} {L:List UInt8} {h:H8} {v:Value} (G:zBq w wr p2 p3 p4 B L h v) (h2:p2≠p7∧p3≠p7∧p4≠p7) (hv:∀ g,v.ownBlock=some g→g≠p7) (hge:w.heap.size≤p7) (i:Nat) (x:Value):zBq w (wr.setCell ⟨p7,i,none⟩ x) p2 p3 p4 B L h v:=by
 have hcc:=chg1 wr p7 i x
 exact ⟨hcc.blk G.k2 h2.1,hcc.blk G.k3 h2.2.1,hcc.blk G.k4 h2.2.2,G.v.chg hcc hv,G.bel.setCell hge _,Nat.le_trans G.sz hcc.size⟩
theorem zBq.sums {w wr wr':World} {p2 p3 p4 B:Nat} {L:List UInt8} {h h':H8} {v:Value} (G:zBq w wr p2 p3 p4 B L h v) (hne:p2≠p4∧p3≠p4) (hv:∀ g,v.ownBlock=some g→g≠p4) (hge:w.heap.size≤p4) (hc:Chg (fun b=>b=p4) wr wr') (k4:Blk wr' p4 (hV h').toArray 117):zBq w wr' p2 p3 p4 B L h' v :=
 ⟨hc.blk G.k2 hne.1,hc.blk G.k3 hne.2,k4,G.v.chg hc hv,((Chg.of_below (S:=fun b=>b=p4) G.bel).trans hc).below (Nat.le_refl _) (fun k hk=>by rw [hk];exact hge),Nat.le_trans G.sz hc.size⟩
theorem byte3 (x:UInt32):wz x / 16777216 % 256=((UInt8.ofNat (x.toNat / 256 ^ 3)).toNat:Int):=by
 rw [UInt8.toNat_ofNat',show (256:Nat) ^ 3=16777216 from rfl];unfold wz;omega
theorem byte2 (x:UInt32):wz x / 65536 % 256=((UInt8.ofNat (x.toNat / 256 ^ 2)).toNat:Int):=by
 rw [UInt8.toNat_ofNat',show (256:Nat) ^ 2=65536 from rfl];unfold wz;omega
theorem byte1 (x:UInt32):wz x / 256 % 256=((UInt8.ofNat (x.toNat / 256 ^ 1)).toNat:Int):=by
 rw [UInt8.toNat_ofNat',show (256:Nat) ^ 1=256 from rfl];unfold wz;omega
theorem byte0 (x:UInt32):wz x % 256=((UInt8.ofNat (x.toNat / 256 ^ 0)).toNat:Int):=by
 rw [UInt8.toNat_ofNat',show (256:Nat) ^ 0=1 from rfl];unfold wz;omega
theorem zLL (H:H8) {i:Nat} (hi:i < 8):((((bV (zBS H i)).toArray.setIfInBounds (4*i) (.int .u8 ((UInt8.ofNat ((H.l.getD i 0).toNat / 256 ^ 3)).toNat:Int))).setIfInBounds (4*i+1) (.int .u8 ((UInt8.ofNat ((H.l.getD i 0).toNat / 256 ^ 2)).toNat:Int))).setIfInBounds (4*i+2) (.int .u8 ((UInt8.ofNat ((H.l.getD i 0).toNat / 256 ^ 1)).toNat:Int))).setIfInBounds (4*i+3) (.int .u8 ((UInt8.ofNat ((H.l.getD i 0).toNat / 256 ^ 0)).toNat:Int))=(bV (zBS H (i+1))).toArray:=by
 have hl:=zA2 H (show i≤8 by omega)
 have hl2:=zA2 H (show i+1≤8 by omega)
 apply Array.ext_getElem?
 intro j
 rcases Nat.lt_or_ge j 32 with hj | hj
 · simp only [Array.getElem?_setIfInBounds,List.getElem?_toArray,List.size_toArray,Array.size_setIfInBounds,zG,hl,zAd]
   rw [zHv H hi j hj]
   by_cases c0:j=4*i
   · subst c0
     rw [if_neg (by omega),if_neg (by omega),if_neg (by omega),if_pos rfl,if_pos (by omega),if_pos (by omega),Nat.sub_self,Cod.zD5 4 _ 0 (by omega)];rfl
   by_cases c1:j=4*i+1
   · subst c1
     rw [if_neg (by omega),if_neg (by omega),if_pos rfl,if_pos (by omega),if_pos (by omega),show 4*i+1 - 4*i=1 from by omega,Cod.zD5 4 _ 1 (by omega)];rfl
   by_cases c2:j=4*i+2
   · subst c2
     rw [if_neg (by omega),if_pos rfl,if_pos (by omega),if_pos (by omega),show 4*i+2 - 4*i=2 from by omega,Cod.zD5 4 _ 2 (by omega)];rfl
   by_cases c3:j=4*i+3
   · subst c3
     rw [if_pos rfl,if_pos (by omega),if_pos (by omega),show 4*i+3 - 4*i=3 from by omega,Cod.zD5 4 _ 3 (by omega)];rfl
   rw [if_neg (by omega),if_neg (by omega),if_neg (by omega),if_neg (by omega),if_neg (by omega)]
 · rw [Array.getElem?_eq_none (by simp [zG,hl];omega),Array.getElem?_eq_none (by simp [zG,hl2];omega)]
theorem zKS (H:H8) {i:Nat} (hi:i < 8):((((bV (zBS H i)).set (4*i) (.int .u8 ((UInt8.ofNat ((H.l.getD i 0).toNat / 256 ^ 3)).toNat:Int))).set (4*i+1) (.int .u8 ((UInt8.ofNat ((H.l.getD i 0).toNat / 256 ^ 2)).toNat:Int))).set (4*i+2) (.int .u8 ((UInt8.ofNat ((H.l.getD i 0).toNat / 256 ^ 1)).toNat:Int))).set (4*i+3) (.int .u8 ((UInt8.ofNat ((H.l.getD i 0).toNat / 256 ^ 0)).toNat:Int))=bV (zBS H (i+1)):=by
 have h:=zLL H hi
 rw [List.setIfInBounds_toArray,List.setIfInBounds_toArray,List.setIfInBounds_toArray,List.setIfInBounds_toArray] at h
 exact List.toArray_inj h
set_option maxRecDepth 100000 in
set_option maxHeartbeats 100000000 in
theorem zBI (v:Value) (bs:List UInt8) (w:World) (hb:Bys w v bs) (hl:bs.length≤1000000) :
  Calls Tryz.prog 31 #[v] w fun e w'=>e=.returned (.agg (bV (Sha.sum bs)).toArray)∧Below w.heap.size w w':=by
 obtain ⟨va,vc,rfl⟩:=hb.eq_slice
 obtain ⟨m,hm⟩:∃ q,q=bs.length:=⟨_,rfl⟩
 rw [← hm] at hb hl ⊢
 obtain ⟨P,hP⟩:∃ P,P=pad bs bs.length:=⟨_,rfl⟩
 have HP:=Lib.hid (And.intro hP hm)
 have HI:=Lib.hid hb
 have hka:=zIv
 have hkl:=zBP
 clear hb hP hm
 go_enter Tryz.func31,Tryz.ntmps31
 go_upto_region 1 with fail
 have hbz:Below w.heap.size w (w.alloc (.cells #[Value.int IntKind.u8 0,.int .u8 0,.int .u8 0,.int .u8 0,.int .u8 0,.int .u8 0,.int .u8 0,.int .u8 0,.int .u8 0,.int .u8 0,.int .u8 0,.int .u8 0,.int .u8 0,.int .u8 0,.int .u8 0,.int .u8 0,.int .u8 0,.int .u8 0,.int .u8 0,.int .u8 0,.int .u8 0,.int .u8 0,.int .u8 0,.int .u8 0,.int .u8 0,.int .u8 0,.int .u8 0,.int .u8 0,.int .u8 0,.int .u8 0,.int .u8 0,.int .u8 0] 34)):=(Below.refl _ _).alloc (Nat.le_refl _) _
 have hk2:Blk (w.alloc (.cells #[Value.int IntKind.u8 0,.int .u8 0,.int .u8 0,.int .u8 0,.int .u8 0,.int .u8 0,.int .u8 0,.int .u8 0,.int .u8 0,.int .u8 0,.int .u8 0,.int .u8 0,.int .u8 0,.int .u8 0,.int .u8 0,.int .u8 0,.int .u8 0,.int .u8 0,.int .u8 0,.int .u8 0,.int .u8 0,.int .u8 0,.int .u8 0,.int .u8 0,.int .u8 0,.int .u8 0,.int .u8 0,.int .u8 0,.int .u8 0,.int .u8 0,.int .u8 0,.int .u8 0] 34)) w.heap.size (bV (List.replicate 32 0)).toArray 34:=Blk.new w #[Value.int IntKind.u8 0,.int .u8 0,.int .u8 0,.int .u8 0,.int .u8 0,.int .u8 0,.int .u8 0,.int .u8 0,.int .u8 0,.int .u8 0,.int .u8 0,.int .u8 0,.int .u8 0,.int .u8 0,.int .u8 0,.int .u8 0,.int .u8 0,.int .u8 0,.int .u8 0,.int .u8 0,.int .u8 0,.int .u8 0,.int .u8 0,.int .u8 0,.int .u8 0,.int .u8 0,.int .u8 0,.int .u8 0,.int .u8 0,.int .u8 0,.int .u8 0,.int .u8 0] _
 obtain ⟨w1,hw1⟩:∃ q,q=w.alloc (.cells #[Value.int IntKind.u8 0,.int .u8 0,.int .u8 0,.int .u8 0,.int .u8 0,.int .u8 0,.int .u8 0,.int .u8 0,.int .u8 0,.int .u8 0,.int .u8 0,.int .u8 0,.int .u8 0,.int .u8 0,.int .u8 0,.int .u8 0,.int .u8 0,.int .u8 0,.int .u8 0,.int .u8 0,.int .u8 0,.int .u8 0,.int .u8 0,.int .u8 0,.int .u8 0,.int .u8 0,.int .u8 0,.int .u8 0,.int .u8 0,.int .u8 0,.int .u8 0,.int .u8 0] 34):=⟨_,rfl⟩
 rw [← hw1] at hbz hk2 ⊢
 obtain ⟨p2,hp2⟩:∃ q,q=w.heap.size:=⟨_,rfl⟩
 have hz1:w1.heap.size=p2+1:=by rw [hw1,hp2];simp
 have hge2:w.heap.size≤p2:=by omega
 rw [← hp2] at hk2 ⊢
 have H1:=Lib.hid (And.intro hbz (And.intro hk2 hz1))
 clear hbz hk2 hw1 hz1
 go_wp2_with fail
 refine (zEe w1).mono ?_
 rintro e w2 ⟨rfl,hb2⟩
 go_upto_region 3 with fail
 rw [show #[Value.int IntKind.u32 1779033703,.int .u32 3144134277,.int .u32 1013904242,.int .u32 2773480762,.int .u32 1359893119,.int .u32 2600822924,.int .u32 528734635,.int .u32 1541459225]=(hV h0).toArray from rfl]
 have hb3:Below w2.heap.size w2 ((w2.alloc (.cells kL.toArray 115)).alloc (.cells (hV h0).toArray 117)):=by
  have h1:=(Below.refl w2.heap.size w2).alloc (Nat.le_refl _) (.cells kL.toArray 115)
  exact h1.alloc h1.size _
 have hk3:Blk ((w2.alloc (.cells kL.toArray 115)).alloc (.cells (hV h0).toArray 117)) w2.heap.size kL.toArray 115:=(Blk.new w2 kL.toArray _).alloc _
 have hk4:Blk ((w2.alloc (.cells kL.toArray 115)).alloc (.cells (hV h0).toArray 117)) (w2.heap.size+1) (hV h0).toArray 117:=Blk.new_at _ _ _ _ (by simp)
 obtain ⟨w3,hw3⟩:∃ q,q=(w2.alloc (.cells kL.toArray 115)).alloc (.cells (hV h0).toArray 117):=⟨_,rfl⟩
 rw [← hw3] at hb3 hk3 hk4 ⊢
 obtain ⟨p3,hp3⟩:∃ q,q=w2.heap.size:=⟨_,rfl⟩
 obtain ⟨p4,hp4⟩:∃ q,q=w2.heap.size+1:=⟨_,rfl⟩
 have hz3:w3.heap.size=p4+1:=by rw [hw3,hp4];simp
 have hz2:=hb2.size
 have hk2':=(H1.out.2.1.kept hb2).kept hb3
 have hbb:=(H1.out.1.trans (hb2.mono (by rw [H1.out.2.2];omega))).trans (hb3.mono (by have:=H1.out.2.2;omega))
 have hpp:p2 < p3∧p3 < p4:=by have:=H1.out.2.2;omega
 rw [← hp4] at hk4 ⊢
 rw [← hp3] at hk3 ⊢
 have hv3:=HI.out.below hbb
 have H3:=Lib.hid (And.intro hk2' (And.intro hk3 (And.intro hk4 (And.intro hbb (And.intro hz3 hv3)))))
 clear hb2 hb3 hk3 hk4 hw3 hp3 hp4 hz3 hz2 hk2' hbb hv3 H1 HI
 go_wp2_with (at_builtin;refine zBL E8c rfl _ _ rfl (base:=p4+1) (bs:=[]) (news:=bs) rfl rfl (zP.nil _ _ _) H3.out.2.2.2.2.2 ?q1 ?q2 ?_)
 case q1=>have:=HP.out.2;simp;omega
 case q2=>have:=H3.out.2.2.2.2.1;omega
 intro v4 w4 ho4 hg4
 have ho4:zP 5 w4 (p4+1) v4 bs:=ho4
 have hb4:Below w3.heap.size w3 w4:=zAE hg4 rfl
 have hz4:=hb4.size
 have hR4:zBq w w4 p2 p3 p4 (p4+1) bs h0 v4:=⟨H3.out.1.kept hb4,H3.out.2.1.kept hb4,H3.out.2.2.1.kept hb4,ho4,H3.out.2.2.2.1.trans (hb4.mono H3.out.2.2.2.1.size),by have:=H3.out.2.2.2.2.1;omega⟩
 have hp:p2 < p4+1∧p3 < p4+1∧p4 < p4+1:=by omega
 have hge:w.heap.size≤p4+1:=by omega
 clear hg4 hb4 hz4 H3
 go_wp2_with (at_builtin;refine zBL E8c rfl _ _ rfl (base:=p4+1) (bs:=bs) (news:=[128]) rfl rfl (ho4.alloc _) (zAv _ 128 _ rfl _) ?q3 ?q4 ?_)
 case q3=>have:=HP.out.2;simp;omega
 case q4=>have:=hR4.sz;simp;omega
 intro v5 w5 ho5 hg5
 have hR5:zBq w w5 p2 p3 p4 (p4+1) (bs++[128]) h0 v5:=hR4.app hp hge ((Below.refl _ _).alloc (Nat.le_refl _) _) ho5 hg5
 have H5:=Lib.hid hR5
 clear hR4 hR5 ho4 ho5 hg5
 obtain ⟨zz,hzz⟩:∃ z,z=zeros bs.length:=⟨_,rfl⟩
 have HZ:=Lib.hid hzz
 clear hzz
 go_upto_region 4 with fail
 go_loopw [5] (fun v wr=>∃ j:Nat,j≤zz∧Hid (zBq w wr p2 p3 p4 (p4+1) (bs++128::List.replicate j 0) h0 v)) (fun v _=>300 - (zJo v - m))
 case atStart=>exact ⟨0,Nat.zero_le _,H5.out⟩
 case round =>
  obtain ⟨j,hj0,G⟩:=hrel
  obtain ⟨va,vc,ev⟩:=G.out.v.eq_slice
  obtain ⟨k,hk⟩:∃ k,k=m+1+j:=⟨_,rfl⟩
  have hkl:(bs++128::List.replicate j (0:UInt8)).length=k:=by
   rw [List.length_append,List.length_cons,List.length_replicate,← HP.out.2];omega
  rw [hkl] at ev
  subst ev
  have hzm:=zDA bs.length
  rw [← HZ.out,← HP.out.2] at hzm
  have hmod:=zJg k
  by_cases hin:j < zz
  · have hne:k % 64≠56:=by
     have:=zEZ (n:=bs.length) (i:=j) (by rw [← HZ.out];exact hin)
     rw [← HP.out.2] at this
     rw [hk];exact this
    have t1:((k:Int) % 64 != 56)=true:=by simp;omega
    have HK:=Lib.hid (And.intro hk (And.intro hkl hzm))
    clear hk hkl hzm hne
    go_wp2_with (at_builtin;refine zBL E8c rfl _ _ rfl (base:=p4+1) (bs:=bs++128::List.replicate j 0) (news:=[0]) rfl rfl (G.out.v.alloc _) (zAv _ 0 _ rfl _) ?c1 ?c2 ?_)
    case c1=>rw [HK.out.2.1];show k+1≤_;have:=HK.out.1;have:=HK.out.2.2;omega
    case c2=>have:=G.out.sz;simp;omega
    intro v4 w4 ho4 hg4
    have hR:=G.out.app hp hge ((Below.refl _ _).alloc (Nat.le_refl _) _) ho4 hg4
    have hR:zBq w w4 p2 p3 p4 (p4+1) (bs++128::List.replicate (j+1) 0) h0 v4:=by
     rw [List.replicate_succ']
     exact hR
    obtain ⟨va4,vc4,ev4⟩:=hR.v.eq_slice
    have hl4:(bs++128::List.replicate (j+1) (0:UInt8)).length=k+1:=by
     have:=HK.out.2.1
     rw [List.length_append,List.length_cons,List.length_replicate] at this ⊢
     omega
    rw [hl4] at ev4
    have H4:=Lib.hid hR
    clear ho4 hg4 hR hl4
    subst ev4
    go_wp2_with fail
    exact ⟨⟨j+1,by omega,H4.out⟩,by
     show 300 - (k+1 - m) < 300 - (k - m)
     have:=HK.out.1
     have:=HK.out.2.2
     omega⟩
  · obtain rfl:j=zz:=by omega
    have t1:((k:Int) % 64 != 56)=false:=by
     rw [hk];simp;omega
    have h8:IntKind.i64.wrap (8*(m:Int))=((8*m:Nat):Int):=by rw [IntKind.wrap_i64];omega
    obtain ⟨L8,hL8⟩:∃ x,x=8*m:=⟨_,rfl⟩
    rw [← hL8] at h8
    have hL9:L8≤9223372036854775807:=by omega
    have HK:=Lib.hid (And.intro hk (And.intro hkl (And.intro hzm hL8)))
    clear hk hkl hzm hL8 hmod
    go_wp2_with fail
    refine (zEC L8 8 hL9 (by decide) (by decide) wr).mono ?_
    rintro e w4 ⟨vp,rfl,hop,hb4⟩
    go_wp2_with (at_builtin;refine zBL E8c rfl _ _ rfl (base:=p4+1) (bs:=bs++128::List.replicate j 0) (news:=Cod.be 8 L8) rfl rfl (G.out.v.below hb4) hop.bys ?d1 ?d2 ?_)
    case d1=>rw [HK.out.2.1,Cod.zt];have:=HK.out.1;have:=HK.out.2.2.1;omega
    case d2=>have:=G.out.sz;have:=hb4.size;omega
    intro v5 w5 ho5 hg5
    have hR:=G.out.app hp hge hb4 ho5 hg5
    have he:bs++128::(List.replicate j (0:UInt8)++Cod.be 8 L8)=P:=by
     rw [HP.out.1,HZ.out,HK.out.2.2.2,HP.out.2]
     rfl
    have hR:zBq w w5 p2 p3 p4 (p4+1) P h0 v5:=by
     rw [← he]
     exact hR
    have H6:=Lib.hid hR
    clear hop hb4 ho5 hg5 hR he G H5
    obtain ⟨PL,hPL⟩:∃ k,k=P.length:=⟨_,rfl⟩
    obtain ⟨Q,hQ⟩:∃ Q,PL=64*Q:=⟨PL / 64,by have:=(zDl bs bs.length).1;rw [← HP.out.1,← hPL] at this;omega⟩
    have hPL2:PL≤2000000:=by have:=(zDl bs bs.length).2;rw [← HP.out.1,← hPL] at this;have:=(zDA bs.length).2;have:=HP.out.2;omega
    have HQ:=Lib.hid (And.intro hPL hQ)
    clear hQ
    obtain ⟨xa,xc,ex⟩:=H6.out.v.eq_slice
    rw [← hPL] at ex
    subst ex
    clear hPL
    go_upto_region 8 with fail
    go_loopw [6] (fun vi wr=>∃ q:Nat,q≤Q∧vi=.int .i64 ((64*q:Nat):Int)∧Hid (zBq w wr p2 p3 p4 (p4+1) P (zAl q h0 P) (.slice xa PL xc))) (fun vi _=>PL - (intOf vi).toNat)
    case atStart=>exact ⟨0,Nat.zero_le _,rfl,H6.out⟩
    case round =>
     obtain ⟨q,hq0,rfl,G⟩:=hrel
     obtain ⟨at_,hat⟩:∃ x,x=64*q:=⟨_,rfl⟩
     rw [← hat]
     by_cases hin:q < Q
     ·   skip
         have a1:(at_:Int) < (PL:Int):=by have:=HQ.out.2;omega
         have a2:at_+64≤PL:=by have:=HQ.out.2;omega
         have hbys:=G.out.v.bys
         obtain ⟨g,hg1,hg2,hg3⟩:∃ g,xa=some ⟨g,0,none⟩∧PL≤xc∧xc≤maxLen:=by
          rcases G.out.v with ⟨_,e0⟩ | ⟨g,cap,arr,fz,e,_,_,_,h5,h6,_⟩
          · rw [e0] at HQ;have:=HQ.out.1;rw [List.length_nil] at this;omega
          · injection e with e1 e2 e3
            exact ⟨g,e1,by omega,by omega⟩
         subst hg1
         have hcel:∀ (wx:World),Bys wx (.slice (some ⟨g,0,none⟩) PL xc) P→∀ j,j < PL→wx.cell? ⟨g,j,none⟩=some (.int .u8 ((P.getD j 0).toNat:Int)):=fun wx hb j hj=>by
          obtain ⟨a',c',e,_,_,h3⟩:=hb
          injection e with e1 e2 e3
          obtain ⟨b',o',e',hc⟩:=h3 (by omega)
          rw [← e1] at e'
          injection e' with e'
          injection e' with e4 e5
          subst e4 e5
          have hjl:j < P.length:=by omega
          have:=hc j (P[j]'hjl) (by simp)
          rw [Nat.zero_add] at this
          rw [this,List.getD_eq_getElem?_getD,List.getElem?_eq_getElem hjl];rfl
         have hgl:∀ k,(Value.slice (some ⟨g,0,none⟩) PL xc).ownBlock=some k→p4+1≤k∧k < wr.heap.size:=G.out.v.lt
         have hg4:p4+1≤g∧g < wr.heap.size:=hgl g rfl
         obtain ⟨bb,hbb⟩:∃ b,b=(P.drop (64*q)).take 64:=⟨_,rfl⟩
         have hbl:bb.length=64:=by rw [hbb,List.length_take,List.length_drop,← HQ.out.1];omega
         have hbg:∀ j,j < 64→bb.getD j 0=P.getD (at_+j) 0:=fun j hj=>by
          rw [List.getD_eq_getElem?_getD,List.getD_eq_getElem?_getD,hbb,List.getElem?_take,if_pos hj,List.getElem?_drop,hat]
         have HB:=Lib.hid (And.intro hbb (And.intro hat (And.intro hbl hbg)))
         have HC:=Lib.hid hcel
         clear hbb hbys hgl hbl hbg hcel hat
         go_upto_region 12 with fail
         have hwB:Below wr.heap.size wr (wr.alloc (.cells #[Value.int IntKind.u32 0,.int .u32 0,.int .u32 0,.int .u32 0,.int .u32 0,.int .u32 0,.int .u32 0,.int .u32 0,.int .u32 0,.int .u32 0,.int .u32 0,.int .u32 0,.int .u32 0,.int .u32 0,.int .u32 0,.int .u32 0,.int .u32 0,.int .u32 0,.int .u32 0,.int .u32 0,.int .u32 0,.int .u32 0,.int .u32 0,.int .u32 0,.int .u32 0,.int .u32 0,.int .u32 0,.int .u32 0,.int .u32 0,.int .u32 0,.int .u32 0,.int .u32 0,.int .u32 0,.int .u32 0,.int .u32 0,.int .u32 0,.int .u32 0,.int .u32 0,.int .u32 0,.int .u32 0,.int .u32 0,.int .u32 0,.int .u32 0,.int .u32 0,.int .u32 0,.int .u32 0,.int .u32 0,.int .u32 0,.int .u32 0,.int .u32 0,.int .u32 0,.int .u32 0,.int .u32 0,.int .u32 0,.int .u32 0,.int .u32 0,.int .u32 0,.int .u32 0,.int .u32 0,.int .u32 0,.int .u32 0,.int .u32 0,.int .u32 0,.int .u32 0] 115)):=(Below.refl _ _).alloc (Nat.le_refl _) _
         have hk7:Blk (wr.alloc (.cells #[Value.int IntKind.u32 0,.int .u32 0,.int .u32 0,.int .u32 0,.int .u32 0,.int .u32 0,.int .u32 0,.int .u32 0,.int .u32 0,.int .u32 0,.int .u32 0,.int .u32 0,.int .u32 0,.int .u32 0,.int .u32 0,.int .u32 0,.int .u32 0,.int .u32 0,.int .u32 0,.int .u32 0,.int .u32 0,.int .u32 0,.int .u32 0,.int .u32 0,.int .u32 0,.int .u32 0,.int .u32 0,.int .u32 0,.int .u32 0,.int .u32 0,.int .u32 0,.int .u32 0,.int .u32 0,.int .u32 0,.int .u32 0,.int .u32 0,.int .u32 0,.int .u32 0,.int .u32 0,.int .u32 0,.int .u32 0,.int .u32 0,.int .u32 0,.int .u32 0,.int .u32 0,.int .u32 0,.int .u32 0,.int .u32 0,.int .u32 0,.int .u32 0,.int .u32 0,.int .u32 0,.int .u32 0,.int .u32 0,.int .u32 0,.int .u32 0,.int .u32 0,.int .u32 0,.int .u32 0,.int .u32 0,.int .u32 0,.int .u32 0,.int .u32 0,.int .u32 0] 115)) wr.heap.size (zCw bb 0) 115:=Blk.new wr #[Value.int IntKind.u32 0,.int .u32 0,.int .u32 0,.int .u32 0,.int .u32 0,.int .u32 0,.int .u32 0,.int .u32 0,.int .u32 0,.int .u32 0,.int .u32 0,.int .u32 0,.int .u32 0,.int .u32 0,.int .u32 0,.int .u32 0,.int .u32 0,.int .u32 0,.int .u32 0,.int .u32 0,.int .u32 0,.int .u32 0,.int .u32 0,.int .u32 0,.int .u32 0,.int .u32 0,.int .u32 0,.int .u32 0,.int .u32 0,.int .u32 0,.int .u32 0,.int .u32 0,.int .u32 0,.int .u32 0,.int .u32 0,.int .u32 0,.int .u32 0,.int .u32 0,.int .u32 0,.int .u32 0,.int .u32 0,.int .u32 0,.int .u32 0,.int .u32 0,.int .u32 0,.int .u32 0,.int .u32 0,.int .u32 0,.int .u32 0,.int .u32 0,.int .u32 0,.int .u32 0,.int .u32 0,.int .u32 0,.int .u32 0,.int .u32 0,.int .u32 0,.int .u32 0,.int .u32 0,.int .u32 0,.int .u32 0,.int .u32 0,.int .u32 0,.int .u32 0] _
         obtain ⟨wB,hwBe⟩:∃ q,q=wr.alloc (.cells #[Value.int IntKind.u32 0,.int .u32 0,.int .u32 0,.int .u32 0,.int .u32 0,.int .u32 0,.int .u32 0,.int .u32 0,.int .u32 0,.int .u32 0,.int .u32 0,.int .u32 0,.int .u32 0,.int .u32 0,.int .u32 0,.int .u32 0,.int .u32 0,.int .u32 0,.int .u32 0,.int .u32 0,.int .u32 0,.int .u32 0,.int .u32 0,.int .u32 0,.int .u32 0,.int .u32 0,.int .u32 0,.int .u32 0,.int .u32 0,.int .u32 0,.int .u32 0,.int .u32 0,.int .u32 0,.int .u32 0,.int .u32 0,.int .u32 0,.int .u32 0,.int .u32 0,.int .u32 0,.int .u32 0,.int .u32 0,.int .u32 0,.int .u32 0,.int .u32 0,.int .u32 0,.int .u32 0,.int .u32 0,.int .u32 0,.int .u32 0,.int .u32 0,.int .u32 0,.int .u32 0,.int .u32 0,.int .u32 0,.int .u32 0,.int .u32 0,.int .u32 0,.int .u32 0,.int .u32 0,.int .u32 0,.int .u32 0,.int .u32 0,.int .u32 0,.int .u32 0] 115):=⟨_,rfl⟩
         rw [← hwBe] at hwB hk7 ⊢
         have hRB:=G.out.below hwB
         have hsz:=G.out.sz
         have hbel:=G.out.bel.size
         obtain ⟨p7,hp7⟩:∃ q,q=wr.heap.size:=⟨_,rfl⟩
         rw [← hp7] at hk7 hsz hbel ⊢
         have hg7:g < p7:=by omega
         have hne7:p2≠p7∧p3≠p7∧p4≠p7:=by omega
         have hv7:∀ k,(Value.slice (some ⟨g,0,none⟩) PL xc).ownBlock=some k→k≠p7:=fun k e=>by
          have:g=k:=by injection e
          omega
         have HR:=Lib.hid (And.intro hRB (And.intro hk7 (And.intro hne7 hv7)))
         clear hwB hwBe hRB hk7 hp7 G hne7 hv7
         go_loopw [8] (fun vi wr=>∃ i:Nat,i≤16∧vi=.int .i64 i∧Hid (zBq w wr p2 p3 p4 (p4+1) P (zAl q h0 P) (.slice (some ⟨g,0,none⟩) PL xc)∧Blk wr p7 (zCw bb i) 115)) (fun vi _=>16 - (intOf vi).toNat)
         case atStart=>exact ⟨0,Nat.zero_le _,rfl,HR.out.1,HR.out.2.1⟩
         case round =>
          obtain ⟨i,hi0,rfl,G⟩:=hrel
          by_cases hin2:i < 16
          · as_aux_lemma =>
            have i0:(0:Int)≤(i:Int):=by omega
            have i1:(i:Int) < 16:=by omega
            obtain ⟨q4,hq4⟩:∃ x,x=4*i:=⟨_,rfl⟩
            have e4:IntKind.i64.wrap (4*(i:Int))=(q4:Int):=by rw [IntKind.wrap_i64];omega
            obtain ⟨k,hk⟩:∃ x,x=at_+q4:=⟨_,rfl⟩
            have ek:IntKind.i64.wrap ((at_:Int)+(q4:Int))=(k:Int):=by rw [IntKind.wrap_i64];unfold maxLen at hg3;omega
            have k4:k+4≤PL:=by omega
            have hkx:(xc=k)=False:=by apply eq_false;omega
            have hk7:=G.out.2
            have cl:=HC.out wr G.out.1.v.bys
            have g0:=cl (k+0) (by omega)
            obtain ⟨x0,hx0⟩:∃ b,b=P.getD (k+0) 0:=⟨_,rfl⟩
            have g1:=cl (k+1) (by omega)
            obtain ⟨x1,hx1⟩:∃ b,b=P.getD (k+1) 0:=⟨_,rfl⟩
            have g2:=cl (k+2) (by omega)
            obtain ⟨x2,hx2⟩:∃ b,b=P.getD (k+2) 0:=⟨_,rfl⟩
            have g3:=cl (k+3) (by omega)
            obtain ⟨x3,hx3⟩:∃ b,b=P.getD (k+3) 0:=⟨_,rfl⟩
            rw [← hx0] at g0
            rw [← hx1] at g1
            rw [← hx2] at g2
            rw [← hx3] at g3
            rw [Nat.add_zero] at g0
            have HW:Hid (word bb i=shl x0.toUInt32 24 ||| shl x1.toUInt32 16 ||| shl x2.toUInt32 8 ||| x3.toUInt32):=by
             show word bb i=_
             have hb:=HB.out.2.2.2
             unfold word
             rw [hx0,hx1,hx2,hx3,hk,hq4,hb (4*i) (by omega),hb (4*i+1) (by omega),hb (4*i+2) (by omega),hb (4*i+3) (by omega)]
             simp only [Nat.add_assoc,Nat.add_zero]
            obtain ⟨z,hz⟩:=zDs bb (i:=i) (j:=i) (by omega) (by omega)
            have c7:wr.cell? ⟨p7,i,none⟩=some (.int .u32 z):=(hk7.cell i).trans hz
            have f7:=hk7.free i
            obtain ⟨n2,hn2⟩:∃ x,x=PL - k:=⟨_,rfl⟩
            have n24:4≤n2:=by omega
            have HKk:=Lib.hid (And.intro hk hq4)
            clear hx0 hx1 hx2 hx3 cl hk7 hz hk
            go_upto_region 15 with fail
            rw [show at_+4*i=k from by have:=HKk.out;omega]
            rw [← hn2]
            generalize xc - k=xck
            refine Tail.zAK 24 (fun w'=>∃ n,w'=wr.drewN n) (by kernel_rfl) (by kernel_rfl) ⟨1,rfl⟩ ?_
            simp only [List.take_succ_cons,List.take_zero,List.drop_succ_cons,List.drop_zero]
            repeat (first
             | go_big_quiet_step (fail)
             | quiet_step (fail))
            refine wpQuiet_nil ?_
            intro _ hw'
            obtain ⟨d5,hw''⟩:=hw'
            subst hw''
            go_wp2_with fail
            refine ⟨⟨i+1,by omega,by simp,(G.out.1.below (below_drewN (Below.refl _ _) d5)).set HR.out.2.2.1 HR.out.2.2.2 hbel _ _,?_⟩,by show 16 - ((i:Int)+1).toNat < 16 - (i:Int).toNat;omega⟩
            have:=(G.out.2.drewN d5).set i (.int .u32 (wz (word bb i)))
            rw [zDt bb (by omega) _ (zLV bb hin2),HW.out] at this
            exact this
          · obtain rfl:i=16:=by omega
            have HG:=Lib.hid G.out
            clear G hi0 hin2
            obtain ⟨w5,hw5⟩:∃ q,q=wr:=⟨_,rfl⟩
            rw [← hw5] at HG ⊢
            clear hw5
            go_upto_region 17 with fail
            go_loopw [10] (fun vi wr=>∃ i:Nat,16≤i∧i≤64∧vi=.int .i64 i∧Hid (zBq w wr p2 p3 p4 (p4+1) P (zAl q h0 P) (.slice (some ⟨g,0,none⟩) PL xc)∧Blk wr p7 (zCw bb i) 115)) (fun vi _=>64 - (intOf vi).toNat)
            case atStart=>exact ⟨16,Nat.le_refl _,by decide,rfl,HG.out⟩
            case round =>
             obtain ⟨i,hi0,hi64,rfl,G⟩:=hrel
             by_cases hin2:i < 64
             · as_aux_lemma =>
               have i0:(0:Int)≤(i:Int):=by omega
               have i1:(i:Int) < 64:=by omega
               obtain ⟨j16,hj16⟩:∃ j,j=i - 16:=⟨_,rfl⟩
               have e16:(i:Int) - 16=(j16:Int):=by omega
               have b16:j16 < 64:=by omega
               have c16:wr.cell? ⟨p7,j16,none⟩=some (.int .u32 (wz ((sch bb i).getD j16 0))):=(G.out.2.cell j16).trans (zAs bb (by omega))
               obtain ⟨y16,hy16⟩:∃ b,b=(sch bb i).getD j16 0:=⟨_,rfl⟩
               rw [← hy16] at c16
               obtain ⟨j15,hj15⟩:∃ j,j=i - 15:=⟨_,rfl⟩
               have e15:(i:Int) - 15=(j15:Int):=by omega
               have b15:j15 < 64:=by omega
               have c15:wr.cell? ⟨p7,j15,none⟩=some (.int .u32 (wz ((sch bb i).getD j15 0))):=(G.out.2.cell j15).trans (zAs bb (by omega))
               obtain ⟨y15,hy15⟩:∃ b,b=(sch bb i).getD j15 0:=⟨_,rfl⟩
               rw [← hy15] at c15
               obtain ⟨j7,hj7⟩:∃ j,j=i - 7:=⟨_,rfl⟩
               have e7:(i:Int) - 7=(j7:Int):=by omega
               have b7:j7 < 64:=by omega
               have c7:wr.cell? ⟨p7,j7,none⟩=some (.int .u32 (wz ((sch bb i).getD j7 0))):=(G.out.2.cell j7).trans (zAs bb (by omega))
               obtain ⟨y7,hy7⟩:∃ b,b=(sch bb i).getD j7 0:=⟨_,rfl⟩
               rw [← hy7] at c7
               obtain ⟨j2,hj2⟩:∃ j,j=i - 2:=⟨_,rfl⟩
               have e2:(i:Int) - 2=(j2:Int):=by omega
               have b2:j2 < 64:=by omega
               have c2:wr.cell? ⟨p7,j2,none⟩=some (.int .u32 (wz ((sch bb i).getD j2 0))):=(G.out.2.cell j2).trans (zAs bb (by omega))
               obtain ⟨y2,hy2⟩:∃ b,b=(sch bb i).getD j2 0:=⟨_,rfl⟩
               rw [← hy2] at c2
               have HN:Hid (next (sch bb i)=y16+(ror y15 7 ^^^ ror y15 18 ^^^ shr y15 3)+y7+(ror y2 17 ^^^ ror y2 19 ^^^ shr y2 10)):=by
                show next (sch bb i)=_
                rw [hy16,hy15,hy7,hy2,hj16,hj15,hj7,hj2]
                unfold next
                rw [zCU];rfl
               obtain ⟨z,hz⟩:=zDs bb (i:=i) (j:=i) (by omega) (by omega)
               have c7i:wr.cell? ⟨p7,i,none⟩=some (.int .u32 z):=(G.out.2.cell i).trans hz
               have f7:=G.out.2.free i
               clear hy16 hy15 hy7 hy2 hj16 hj15 hj7 hj2 hz
               go_upto_region 19 with fail
               go_quiet (fail)
               go_upto_region 20 with fail
               have G2:Hid (zBq w (wr.drewN nq) p2 p3 p4 (p4+1) P (zAl q h0 P) (.slice (some ⟨g,0,none⟩) PL xc)∧Blk (wr.drewN nq) p7 (zCw bb i) 115):=⟨G.out.1.below (below_drewN (Below.refl _ _) nq),G.out.2.drewN nq⟩
               have c16:(wr.drewN nq).cell? ⟨p7,j16,none⟩=some (.int .u32 (wz y16)):=c16
               have c7:(wr.drewN nq).cell? ⟨p7,j7,none⟩=some (.int .u32 (wz y7)):=c7
               have c7i:(wr.drewN nq).cell? ⟨p7,i,none⟩=some (.int .u32 z):=c7i
               have f7:(wr.drewN nq).frozen? ⟨p7,i,none⟩=false:=f7
               clear G
               generalize wr.drewN nq=wq at *
               refine Tail.zAK 29 (fun w'=>∃ n,w'=wq.drewN n) (by kernel_rfl) (by kernel_rfl) ⟨1,rfl⟩ ?_
               simp only [List.take_succ_cons,List.take_zero,List.drop_succ_cons,List.drop_zero]
               repeat (first
                | go_big_quiet_step ((go_at_call 56;exact zFL (zBD _ _ (by decide) (by decide) _)))
                | quiet_step ((go_at_call 56;exact zFL (zBD _ _ (by decide) (by decide) _))))
               refine wpQuiet_nil ?_
               intro _ hw'
               obtain ⟨d5,hw''⟩:=hw'
               subst hw''
               go_wp2_with fail
               go_roundw
               case rel =>
                refine ⟨i+1,by omega,by omega,by simp,(G2.out.1.below (below_drewN (Below.refl _ _) d5)).set HR.out.2.2.1 HR.out.2.2.2 hbel _ _,?_⟩
                have:=(G2.out.2.drewN d5).set i (.int .u32 (wz (next (sch bb i))))
                rw [zDt bb (by omega) _ (zLU bb hi0),HN.out] at this
                exact this
               case measure =>
                show 64 - ((i:Int)+1).toNat < 64 - (i:Int).toNat
                omega
             · obtain rfl:i=64:=by omega
               have HG:=Lib.hid G.out
               clear G hi0 hi64 hin2
               obtain ⟨wc,hwc⟩:∃ q,q=wr:=⟨_,rfl⟩
               rw [← hwc] at HG ⊢
               clear hwc
               obtain ⟨hv,hhv⟩:∃ x,x=zAl q h0 P:=⟨_,rfl⟩
               rw [← hhv] at HG
               have HH:=Lib.hid hhv
               clear hhv
               have k4:=HG.out.1.k4
               obtain ⟨ha,hb,hc,hd,he,hf,hg,hh⟩:=hv
               have d0:wc.cell? ⟨p4,0,none⟩=some (.int .u32 (wz ha)):=k4.cell 0
               have d1:wc.cell? ⟨p4,1,none⟩=some (.int .u32 (wz hb)):=k4.cell 1
               have d2:wc.cell? ⟨p4,2,none⟩=some (.int .u32 (wz hc)):=k4.cell 2
               have d3:wc.cell? ⟨p4,3,none⟩=some (.int .u32 (wz hd)):=k4.cell 3
               have d4:wc.cell? ⟨p4,4,none⟩=some (.int .u32 (wz he)):=k4.cell 4
               have d5:wc.cell? ⟨p4,5,none⟩=some (.int .u32 (wz hf)):=k4.cell 5
               have d6:wc.cell? ⟨p4,6,none⟩=some (.int .u32 (wz hg)):=k4.cell 6
               have d7:wc.cell? ⟨p4,7,none⟩=some (.int .u32 (wz hh)):=k4.cell 7
               clear k4
               go_upto_region 21 with fail
               go_quiet (fail)
               go_upto_region 23 with fail
               have HG5:Hid (zBq w (wc.drewN nq) p2 p3 p4 (p4+1) P ⟨ha,hb,hc,hd,he,hf,hg,hh⟩ (.slice (some ⟨g,0,none⟩) PL xc)∧Blk (wc.drewN nq) p7 (zCw bb 64) 115):=⟨HG.out.1.below (below_drewN (Below.refl _ _) nq),HG.out.2.drewN nq⟩
               obtain ⟨wd,hwd⟩:∃ x,x=wc.drewN nq:=⟨_,rfl⟩
               rw [← hwd] at HG5 ⊢
               clear hwd HG d0 d1 d2 d3 d4 d5 d6 d7
               obtain ⟨V,hV'⟩:∃ V:H8,V=⟨ha,hb,hc,hd,he,hf,hg,hh⟩:=⟨_,rfl⟩
               have HVV:=Lib.hid hV'
               have hst:ha=(zA3 bb V 0).a∧hb=(zA3 bb V 0).b∧hc=(zA3 bb V 0).c∧hd=(zA3 bb V 0).d∧he=(zA3 bb V 0).e∧hf=(zA3 bb V 0).f∧hg=(zA3 bb V 0).g∧hh=(zA3 bb V 0).h:=by
                rw [hV'];exact ⟨rfl,rfl,rfl,rfl,rfl,rfl,rfl,rfl⟩
               rw [← hV'] at HG5 HH
               clear hV'
               go_loopw [13,14,15,16,17,18,19,20,21] (fun va vb vc vd ve vf vg vh vi wr=>∃ i:Nat,i≤64∧vi=.int .i64 i∧va=.int .u32 (wz (zA3 bb V i).a)∧vb=.int .u32 (wz (zA3 bb V i).b)∧vc=.int .u32 (wz (zA3 bb V i).c)∧vd=.int .u32 (wz (zA3 bb V i).d)∧ve=.int .u32 (wz (zA3 bb V i).e)∧vf=.int .u32 (wz (zA3 bb V i).f)∧vg=.int .u32 (wz (zA3 bb V i).g)∧vh=.int .u32 (wz (zA3 bb V i).h)∧Hid (zBq w wr p2 p3 p4 (p4+1) P V (.slice (some ⟨g,0,none⟩) PL xc)∧Blk wr p7 (zCw bb 64) 115)) (fun _ _ _ _ _ _ _ _ vi _=>64 - (intOf vi).toNat)
               case atStart =>
                obtain ⟨s1,s2,s3,s4,s5,s6,s7,s8⟩:=hst
                exact ⟨0,Nat.zero_le _,rfl,by rw [← s1],by rw [← s2],by rw [← s3],by rw [← s4],by rw [← s5],by rw [← s6],by rw [← s7],by rw [← s8],HG5.out⟩
               case round =>
                obtain ⟨i,hi0,rfl,rfl,rfl,rfl,rfl,rfl,rfl,rfl,rfl,G⟩:=hrel
                clear hst
                by_cases hin2:i < 64
                · as_aux_lemma =>
                  have i0:(0:Int)≤(i:Int):=by omega
                  have i1:(i:Int) < 64:=by omega
                  obtain ⟨kk,hkk⟩:∃ q,q=kT.getD i 0:=⟨_,rfl⟩
                  obtain ⟨ww,hww⟩:∃ q,q=(sch bb 64).getD i 0:=⟨_,rfl⟩
                  have ck:wr.cell? ⟨p3,i,none⟩=some (.int .u32 (wz kk)):=by rw [G.out.1.k3.cell,List.getElem?_toArray,zK6 hin2,← hkk]
                  have c7:wr.cell? ⟨p7,i,none⟩=some (.int .u32 (wz ww)):=by rw [G.out.2.cell,zAs bb hin2,← hww]
                  have hv:Hid (zA3 bb V (i+1)=rnd (zA3 bb V i) kk ww):=by
                   show zA3 bb V (i+1)=_
                   rw [zA3,← hkk,← hww]
                  obtain ⟨vv,hvv⟩:∃ q,q=zA3 bb V i:=⟨_,rfl⟩
                  rw [← hvv] at hv ⊢
                  clear hvv hkk hww
                  obtain ⟨xa,xb,xc',xd,xe,xf,xg,xh⟩:=vv
                  go_upto_region 25 with fail
                  go_quiet ((go_at_call 56;exact zFL (zBD _ _ (by decide) (by decide) _)))
                  go_wp2_with fail
                  refine (zBD xa 2 (by decide) (by decide) _).mono ?_
                  rintro e w' ⟨rfl,rfl⟩
                  go_wp2_with fail
                  refine (zBD xa 13 (by decide) (by decide) _).mono ?_
                  rintro e w' ⟨rfl,rfl⟩
                  go_wp2_with fail
                  refine (zBD xa 22 (by decide) (by decide) _).mono ?_
                  rintro e w' ⟨rfl,rfl⟩
                  go_wp2_with fail
                  go_roundw
                  case rel =>
                   repeat apply Exists.intro
                   refine ⟨⟨i+1,by omega,by simp,?_,?_,?_,?_,?_,?_,?_,?_,G.out.1.below (below_drewN (Below.refl _ _) _),G.out.2.drewN _⟩,rfl⟩
                   · rw [hv.out]
                     show Value.int .u32 (wz _)=Value.int .u32 (wz (tw ⟨xa,xb,xc',xd,xe,xf,xg,xh⟩ kk ww+big0 xa+maj ⟨xa,xb,xc',xd,xe,xf,xg,xh⟩))
                     refine congrArg (fun x=>Value.int .u32 (wz x)) ?_
                     unfold Sha.tw maj big0 big1
                     simp only [UInt32.add_assoc]
                   · rw [hv.out];rfl
                   · rw [hv.out];rfl
                   · rw [hv.out];rfl
                   · rw [hv.out];rfl
                   · rw [hv.out];rfl
                   · rw [hv.out];rfl
                   · rw [hv.out];rfl
                  case measure =>
                   show 64 - ((i:Int)+1).toNat < 64 - (i:Int).toNat
                   omega
                · obtain rfl:i=64:=by omega
                  obtain ⟨vv,hvv⟩:∃ q,q=zA3 bb V 64:=⟨_,rfl⟩
                  rw [← hvv]
                  have HVv:=Lib.hid hvv
                  have k4:=G.out.1.k4
                  clear hvv hin2 hi0
                  obtain ⟨ya,yb,yc,yd,ye,yf,yg,yh⟩:=vv
                  obtain ⟨va,vb,vc',vd,ve,vf,vg,vh⟩:=V
                  have d0:wr.cell? ⟨p4,0,none⟩=some (.int .u32 (wz va)):=k4.cell 0
                  have d1:wr.cell? ⟨p4,1,none⟩=some (.int .u32 (wz vb)):=k4.cell 1
                  have d2:wr.cell? ⟨p4,2,none⟩=some (.int .u32 (wz vc')):=k4.cell 2
                  have d3:wr.cell? ⟨p4,3,none⟩=some (.int .u32 (wz vd)):=k4.cell 3
                  have d4:wr.cell? ⟨p4,4,none⟩=some (.int .u32 (wz ve)):=k4.cell 4
                  have d5:wr.cell? ⟨p4,5,none⟩=some (.int .u32 (wz vf)):=k4.cell 5
                  have d6:wr.cell? ⟨p4,6,none⟩=some (.int .u32 (wz vg)):=k4.cell 6
                  have d7:wr.cell? ⟨p4,7,none⟩=some (.int .u32 (wz vh)):=k4.cell 7
                  have f0:wr.frozen? ⟨p4,0,none⟩=false:=k4.free 0
                  have f1:wr.frozen? ⟨p4,1,none⟩=false:=k4.free 1
                  have f2:wr.frozen? ⟨p4,2,none⟩=false:=k4.free 2
                  have f3:wr.frozen? ⟨p4,3,none⟩=false:=k4.free 3
                  have f4:wr.frozen? ⟨p4,4,none⟩=false:=k4.free 4
                  have f5:wr.frozen? ⟨p4,5,none⟩=false:=k4.free 5
                  have f6:wr.frozen? ⟨p4,6,none⟩=false:=k4.free 6
                  have f7:wr.frozen? ⟨p4,7,none⟩=false:=k4.free 7
                  have K4:=Lib.hid k4
                  clear k4
                  go_wp2_with fail
                  obtain ⟨wf,hwf⟩:∃ x,x=(((((((wr.setCell ⟨p4,0,none⟩ (.int .u32 (wz (va+ya)))).setCell ⟨p4,1,none⟩ (.int .u32 (wz (vb+yb)))).setCell ⟨p4,2,none⟩ (.int .u32 (wz (vc'+yc)))).setCell ⟨p4,3,none⟩ (.int .u32 (wz (vd+yd)))).setCell ⟨p4,4,none⟩ (.int .u32 (wz (ve+ye)))).setCell ⟨p4,5,none⟩ (.int .u32 (wz (vf+yf)))).setCell ⟨p4,6,none⟩ (.int .u32 (wz (vg+yg)))).setCell ⟨p4,7,none⟩ (.int .u32 (wz (vh+yh))):=⟨_,rfl⟩
                  rw [← hwf]
                  have hcf:Chg (fun b=>b=p4) wr wf:=by
                   rw [hwf]
                   exact Chg.set (S:=fun b=>b=p4) (a:=⟨p4,7,none⟩) (Chg.set (S:=fun b=>b=p4) (a:=⟨p4,6,none⟩) (Chg.set (S:=fun b=>b=p4) (a:=⟨p4,5,none⟩) (Chg.set (S:=fun b=>b=p4) (a:=⟨p4,4,none⟩) (Chg.set (S:=fun b=>b=p4) (a:=⟨p4,3,none⟩) (Chg.set (S:=fun b=>b=p4) (a:=⟨p4,2,none⟩) (Chg.set (S:=fun b=>b=p4) (a:=⟨p4,1,none⟩) (Chg.set (S:=fun b=>b=p4) (a:=⟨p4,0,none⟩) (Chg.refl _ wr) rfl _) rfl _) rfl _) rfl _) rfl _) rfl _) rfl _) rfl _
                  have k4f:Blk wf p4 (hV (zAl (q+1) h0 P)).toArray 117:=by
                   have e:zAl (q+1) h0 P=zFf ⟨va,vb,vc',vd,ve,vf,vg,vh⟩ ⟨ya,yb,yc,yd,ye,yf,yg,yh⟩:=by
                    rw [zD9,← HB.out.1,← HH.out,HVv.out];rfl
                   rw [e,hwf]
                   exact (((((((K4.out.set 0 _).set 1 _).set 2 _).set 3 _).set 4 _).set 5 _).set 6 _).set 7 _
                  have hRf:=G.out.1.sums (h':=zAl (q+1) h0 P) (by omega) (fun k e=>by
                   have:g=k:=by injection e
                   omega) (by omega) hcf k4f
                  have hRF:=Lib.hid hRf
                  have hat2:=HB.out.2.1
                  clear hwf hcf k4f hRf K4 G HVv HH HVV
                  exact ⟨⟨q+1,by omega,by congr 1;push_cast;omega,hRF.out⟩,by
                   show PL - ((at_:Int)+64).toNat < PL - (at_:Int).toNat
                   omega⟩
     · as_aux_lemma =>
       obtain rfl:q=Q:=by omega
       have HZ2:=Lib.hid G.out
       have hsm:Hid (Sha.sum bs=zFD (zAl q h0 P)):=by
        show Sha.sum bs=_
        unfold Sha.sum
        rw [← HP.out.1,← HQ.out.1,HQ.out.2,Nat.mul_div_cancel_left _ (by decide)]
       obtain ⟨F,hF⟩:∃ F,F=zAl q h0 P:=⟨_,rfl⟩
       rw [← hF] at HZ2 hsm
       have a1:¬ ((at_:Int) < (PL:Int)):=by have:=HQ.out.2;omega
       clear hF G hin
       have hb38:Below wr.heap.size wr (wr.alloc (.cells #[Value.int IntKind.u8 0,.int .u8 0,.int .u8 0,.int .u8 0,.int .u8 0,.int .u8 0,.int .u8 0,.int .u8 0,.int .u8 0,.int .u8 0,.int .u8 0,.int .u8 0,.int .u8 0,.int .u8 0,.int .u8 0,.int .u8 0,.int .u8 0,.int .u8 0,.int .u8 0,.int .u8 0,.int .u8 0,.int .u8 0,.int .u8 0,.int .u8 0,.int .u8 0,.int .u8 0,.int .u8 0,.int .u8 0,.int .u8 0,.int .u8 0,.int .u8 0,.int .u8 0] 34)):=(Below.refl _ _).alloc (Nat.le_refl _) _
       have hk24:Blk (wr.alloc (.cells #[Value.int IntKind.u8 0,.int .u8 0,.int .u8 0,.int .u8 0,.int .u8 0,.int .u8 0,.int .u8 0,.int .u8 0,.int .u8 0,.int .u8 0,.int .u8 0,.int .u8 0,.int .u8 0,.int .u8 0,.int .u8 0,.int .u8 0,.int .u8 0,.int .u8 0,.int .u8 0,.int .u8 0,.int .u8 0,.int .u8 0,.int .u8 0,.int .u8 0,.int .u8 0,.int .u8 0,.int .u8 0,.int .u8 0,.int .u8 0,.int .u8 0,.int .u8 0,.int .u8 0] 34)) wr.heap.size (bV (zBS F 0)).toArray 34:=Blk.new wr #[Value.int IntKind.u8 0,.int .u8 0,.int .u8 0,.int .u8 0,.int .u8 0,.int .u8 0,.int .u8 0,.int .u8 0,.int .u8 0,.int .u8 0,.int .u8 0,.int .u8 0,.int .u8 0,.int .u8 0,.int .u8 0,.int .u8 0,.int .u8 0,.int .u8 0,.int .u8 0,.int .u8 0,.int .u8 0,.int .u8 0,.int .u8 0,.int .u8 0,.int .u8 0,.int .u8 0,.int .u8 0,.int .u8 0,.int .u8 0,.int .u8 0,.int .u8 0,.int .u8 0] _
       go_upto_region 38 with fail
       obtain ⟨wo,hwo⟩:∃ x,x=wr.alloc (.cells #[Value.int IntKind.u8 0,.int .u8 0,.int .u8 0,.int .u8 0,.int .u8 0,.int .u8 0,.int .u8 0,.int .u8 0,.int .u8 0,.int .u8 0,.int .u8 0,.int .u8 0,.int .u8 0,.int .u8 0,.int .u8 0,.int .u8 0,.int .u8 0,.int .u8 0,.int .u8 0,.int .u8 0,.int .u8 0,.int .u8 0,.int .u8 0,.int .u8 0,.int .u8 0,.int .u8 0,.int .u8 0,.int .u8 0,.int .u8 0,.int .u8 0,.int .u8 0,.int .u8 0] 34):=⟨_,rfl⟩
       rw [← hwo] at hb38 hk24 ⊢
       have hRo:=HZ2.out.below hb38
       have hszo:=HZ2.out.sz
       obtain ⟨p24,hp24⟩:∃ x,x=wr.heap.size:=⟨_,rfl⟩
       rw [← hp24] at hk24 hszo ⊢
       have hne:p2≠p24∧p4≠p24:=by omega
       have hg24:w.heap.size≤p24:=by omega
       have HO:=Lib.hid (And.intro hRo.k2 (And.intro hRo.k4 (And.intro hk24 hRo.bel)))
       clear hb38 hwo hRo hk24 hszo hp24 HZ2
       go_loopw [25] (fun vi wr=>∃ i:Nat,i≤8∧vi=.int .i64 i∧Hid (Blk wr p2 (bV (List.replicate 32 0)).toArray 34∧Blk wr p4 (hV F).toArray 117∧Blk wr p24 (bV (zBS F i)).toArray 34∧Below w.heap.size w wr)) (fun vi _=>8 - (intOf vi).toNat)
       case atStart=>exact ⟨0,Nat.zero_le _,rfl,HO.out⟩
       case round =>
        obtain ⟨i,hi0,rfl,G⟩:=hrel
        by_cases hin:i < 8
        · have i0:(0:Int)≤(i:Int):=by omega
          have i1:(i:Int) < 8:=by omega
          obtain ⟨q4,hq4⟩:∃ x,x=4*i:=⟨_,rfl⟩
          have e4:IntKind.i64.wrap (4*(i:Int))=(q4:Int):=by rw [IntKind.wrap_i64];omega
          have e5:IntKind.i64.wrap ((q4:Int)+1)=((q4+1:Nat):Int):=by rw [IntKind.wrap_i64];omega
          have e6:IntKind.i64.wrap ((q4:Int)+2)=((q4+2:Nat):Int):=by rw [IntKind.wrap_i64];omega
          have e7:IntKind.i64.wrap ((q4:Int)+3)=((q4+3:Nat):Int):=by rw [IntKind.wrap_i64];omega
          have q32:q4+3 < 32:=by omega
          obtain ⟨x,hx⟩:∃ x,x=F.l.getD i 0:=⟨_,rfl⟩
          have c4:wr.cell? ⟨p4,i,none⟩=some (.int .u32 (wz x)):=by rw [G.out.2.1.cell,List.getElem?_toArray,zGZ F hin,← hx];rfl
          have hb0:=byte0 x
          have hb1:=byte1 x
          have hb2:=byte2 x
          have hb3:=byte3 x
          obtain ⟨y0,hy0⟩:∃ y:Int,y=((UInt8.ofNat (x.toNat / 256 ^ 0)).toNat:Int):=⟨_,rfl⟩
          obtain ⟨y1,hy1⟩:∃ y:Int,y=((UInt8.ofNat (x.toNat / 256 ^ 1)).toNat:Int):=⟨_,rfl⟩
          obtain ⟨y2,hy2⟩:∃ y:Int,y=((UInt8.ofNat (x.toNat / 256 ^ 2)).toNat:Int):=⟨_,rfl⟩
          obtain ⟨y3,hy3⟩:∃ y:Int,y=((UInt8.ofNat (x.toNat / 256 ^ 3)).toNat:Int):=⟨_,rfl⟩
          rw [← hy0] at hb0
          rw [← hy1] at hb1
          rw [← hy2] at hb2
          rw [← hy3] at hb3
          have k24:=G.out.2.2.1
          have hs24:(bV (zBS F i)).toArray.size=32:=by simp [zG,zA2 F hi0]
          have hc:∀ j,j < 32→∃ v,wr.cell? ⟨p24,j,none⟩=some v:=fun j hj=>by
           rw [k24.cell]
           exact ⟨_,Array.getElem?_eq_getElem (by omega)⟩
          obtain ⟨o0,c0⟩:=hc q4 (by omega)
          obtain ⟨o1,c1⟩:=hc (q4+1) (by omega)
          obtain ⟨o2,c2⟩:=hc (q4+2) (by omega)
          obtain ⟨o3,c3⟩:=hc (q4+3) (by omega)
          have f0:=k24.free q4
          have f1:=k24.free (q4+1)
          have f2:=k24.free (q4+2)
          have f3:=k24.free (q4+3)
          have w0:IntKind.u8.wrap (wz x)=y0:=by rw [IntKind.wrap_u8];exact hb0
          have w1:IntKind.u8.wrap (wz x / 256)=y1:=by rw [IntKind.wrap_u8];exact hb1
          have w2:IntKind.u8.wrap (wz x / 65536)=y2:=by rw [IntKind.wrap_u8];exact hb2
          have w3:IntKind.u8.wrap (wz x / 16777216)=y3:=by rw [IntKind.wrap_u8];exact hb3
          have r0:(q4:Int) < 32:=by omega
          have r1:(q4:Int)+1 < 32:=by omega
          have r2:(q4:Int)+2 < 32:=by omega
          have r3:(q4:Int)+3 < 32:=by omega
          have n1:((q4:Int)+1).toNat=q4+1:=by omega
          have n2:((q4:Int)+2).toNat=q4+2:=by omega
          have n3:((q4:Int)+3).toNat=q4+3:=by omega
          have s1:(0:Int)≤(q4:Int)+1:=by omega
          have s2:(0:Int)≤(q4:Int)+2:=by omega
          have s3:(0:Int)≤(q4:Int)+3:=by omega
          have HX:=Lib.hid (And.intro hx (And.intro hy0 (And.intro hy1 (And.intro hy2 (And.intro hy3 (And.intro hq4 k24))))))
          clear hx hy0 hy1 hy2 hy3 k24 hs24 hc hq4
          go_upto_region 40 with fail
          have hJ4:∀ w':World,Blk w' p4 (hV F).toArray 117→w'.cell? ⟨p4,i,none⟩=some (.int .u32 (wz x)):=fun w' hb=>by rw [hb.cell,List.getElem?_toArray,zGZ F hin,← HX.out.1];rfl
          have HGG:=Lib.hid G.out
          clear c0 c1 c2 c3 f0 f1 f2 f3 c4 G
          refine Tail.zT 36 (fun k=>k == 31 || k == 33 || k == 35) (fun k=>none)
           (fun D z w'=>Blk w' p2 (bV (List.replicate 32 0)).toArray 34∧Blk w' p4 (hV F).toArray 117∧Below w.heap.size w w'∧(D 31=false→Blk w' p24 (bV (zBS F i)).toArray 34)∧(D 31=true→D 33=false→Blk w' p24 ((bV (zBS F i)).set (q4) (.int .u8 y3)).toArray 34)∧(D 33=true→D 35=false→Blk w' p24 (((bV (zBS F i)).set (q4) (.int .u8 y3)).set (q4+1) (.int .u8 y2)).toArray 34)∧(D 35=true→Blk w' p24 ((((bV (zBS F i)).set (q4) (.int .u8 y3)).set (q4+1) (.int .u8 y2)).set (q4+2) (.int .u8 y1)).toArray 34))
           (by kernel_rfl) (by kernel_rfl) (fun k hk=>by simp at hk;omega) (fun D z z' w' hz h=>h)
           ⟨HGG.out.1.drew,HGG.out.2.1.drew,HGG.out.2.2.2.drew,fun _=>HGG.out.2.2.1.drew,(fun h=>by cases h),(fun h=>by cases h),(fun h=>by cases h)⟩ (fun z=>?_)
          simp only [List.take_succ_cons,List.take_zero,List.drop_succ_cons,List.drop_zero]
          refine Tail.zI (by rfl) (by rfl) ?_
          apply Exists.intro
          refine ⟨fun w=>?_,?_⟩
          · go_simp <;> with_reducible rfl
          simp only [Act.put,List.setIfInBounds_toArray,List.set_cons_zero,List.set_cons_succ,Nat.reduceAdd,Nat.reduceEqDiff,reduceIte,Option.getD_some,Option.getD_none]
          refine Tail.zI (by rfl) (by rfl) ?_
          apply Exists.intro
          refine ⟨fun w=>?_,?_⟩
          · go_simp <;> with_reducible rfl
          simp only [Act.put,List.setIfInBounds_toArray,List.set_cons_zero,List.set_cons_succ,Nat.reduceAdd,Nat.reduceEqDiff,reduceIte,Option.getD_some,Option.getD_none]
          refine Tail.zI (by rfl) (by rfl) ?_
          apply Exists.intro
          refine ⟨fun w=>?_,?_⟩
          · go_simp <;> with_reducible rfl
          simp only [Act.put,List.setIfInBounds_toArray,List.set_cons_zero,List.set_cons_succ,Nat.reduceAdd,Nat.reduceEqDiff,reduceIte,Option.getD_some,Option.getD_none]
          refine Tail.zI (by rfl) (by rfl) ?_
          apply Exists.intro
          refine ⟨fun w=>?_,?_⟩
          · go_simp <;> with_reducible rfl
          simp only [Act.put,List.setIfInBounds_toArray,List.set_cons_zero,List.set_cons_succ,Nat.reduceAdd,Nat.reduceEqDiff,reduceIte,Option.getD_some,Option.getD_none]
          refine Tail.zI (by rfl) (by rfl) ?_
          apply Exists.intro
          refine ⟨fun w=>?_,?_⟩
          · go_simp <;> with_reducible rfl
          simp only [Act.put,List.setIfInBounds_toArray,List.set_cons_zero,List.set_cons_succ,Nat.reduceAdd,Nat.reduceEqDiff,reduceIte,Option.getD_some,Option.getD_none]
          refine Tail.zI (by rfl) (by rfl) ?_
          apply Exists.intro
          refine ⟨fun w=>?_,?_⟩
          · go_simp <;> with_reducible rfl
          simp only [Act.put,List.setIfInBounds_toArray,List.set_cons_zero,List.set_cons_succ,Nat.reduceAdd,Nat.reduceEqDiff,reduceIte,Option.getD_some,Option.getD_none]
          refine Tail.zI (by rfl) (by rfl) ?_
          apply Exists.intro
          refine ⟨fun w=>?_,?_⟩
          · go_simp <;> with_reducible rfl
          simp only [Act.put,List.setIfInBounds_toArray,List.set_cons_zero,List.set_cons_succ,Nat.reduceAdd,Nat.reduceEqDiff,reduceIte,Option.getD_some,Option.getD_none]
          refine Tail.zI (by rfl) (by rfl) ?_
          apply Exists.intro
          refine ⟨fun w=>?_,?_⟩
          · go_simp <;> with_reducible rfl
          simp only [Act.put,List.setIfInBounds_toArray,List.set_cons_zero,List.set_cons_succ,Nat.reduceAdd,Nat.reduceEqDiff,reduceIte,Option.getD_some,Option.getD_none]
          refine Tail.zI (by rfl) (by rfl) ?_
          apply Exists.intro
          refine ⟨fun w=>?_,?_⟩
          · go_simp <;> with_reducible rfl
          simp only [Act.put,List.setIfInBounds_toArray,List.set_cons_zero,List.set_cons_succ,Nat.reduceAdd,Nat.reduceEqDiff,reduceIte,Option.getD_some,Option.getD_none]
          refine Tail.zI (by rfl) (by rfl) ?_
          apply Exists.intro
          refine ⟨fun w=>?_,?_⟩
          · go_simp <;> with_reducible rfl
          simp only [Act.put,List.setIfInBounds_toArray,List.set_cons_zero,List.set_cons_succ,Nat.reduceAdd,Nat.reduceEqDiff,reduceIte,Option.getD_some,Option.getD_none]
          refine Tail.zI (by rfl) (by rfl) ?_
          apply Exists.intro
          refine ⟨fun w=>?_,?_⟩
          · go_simp <;> with_reducible rfl
          simp only [Act.put,List.setIfInBounds_toArray,List.set_cons_zero,List.set_cons_succ,Nat.reduceAdd,Nat.reduceEqDiff,reduceIte,Option.getD_some,Option.getD_none]
          refine Tail.zI (by rfl) (by rfl) ?_
          apply Exists.intro
          refine ⟨fun w=>?_,?_⟩
          · go_simp <;> with_reducible rfl
          simp only [Act.put,List.setIfInBounds_toArray,List.set_cons_zero,List.set_cons_succ,Nat.reduceAdd,Nat.reduceEqDiff,reduceIte,Option.getD_some,Option.getD_none]
          refine Tail.zI (by rfl) (by rfl) ?_
          apply Exists.intro
          refine ⟨fun w=>?_,?_⟩
          · go_simp <;> with_reducible rfl
          simp only [Act.put,List.setIfInBounds_toArray,List.set_cons_zero,List.set_cons_succ,Nat.reduceAdd,Nat.reduceEqDiff,reduceIte,Option.getD_some,Option.getD_none]
          refine Tail.zA0 (by rfl) (by rfl) ?_
          apply Exists.intro
          refine ⟨fun D w' hd hp hJ=>?_,?_⟩
          · have cc:w'.cell? ⟨p4,i,none⟩=some (.int .u32 (wz x)):=hJ4 w' hJ.2.1
            go_simp <;> with_reducible rfl
          simp only [Act.put,List.setIfInBounds_toArray,List.set_cons_zero,List.set_cons_succ,Nat.reduceAdd,Nat.reduceEqDiff,reduceIte,Option.getD_some,Option.getD_none]
          refine Tail.zI (by rfl) (by rfl) ?_
          apply Exists.intro
          refine ⟨fun w=>?_,?_⟩
          · go_simp <;> with_reducible rfl
          simp only [Act.put,List.setIfInBounds_toArray,List.set_cons_zero,List.set_cons_succ,Nat.reduceAdd,Nat.reduceEqDiff,reduceIte,Option.getD_some,Option.getD_none]
          refine Tail.zI (by rfl) (by rfl) ?_
          apply Exists.intro
          refine ⟨fun w=>?_,?_⟩
          · go_simp <;> with_reducible rfl
          simp only [Act.put,List.setIfInBounds_toArray,List.set_cons_zero,List.set_cons_succ,Nat.reduceAdd,Nat.reduceEqDiff,reduceIte,Option.getD_some,Option.getD_none]
          refine Tail.zI (by rfl) (by rfl) ?_
          apply Exists.intro
          refine ⟨fun w=>?_,?_⟩
          · go_simp <;> with_reducible rfl
          simp only [Act.put,List.setIfInBounds_toArray,List.set_cons_zero,List.set_cons_succ,Nat.reduceAdd,Nat.reduceEqDiff,reduceIte,Option.getD_some,Option.getD_none]
          refine Tail.zI (by rfl) (by rfl) ?_
          apply Exists.intro
          refine ⟨fun w=>?_,?_⟩
          · go_simp <;> with_reducible rfl
          simp only [Act.put,List.setIfInBounds_toArray,List.set_cons_zero,List.set_cons_succ,Nat.reduceAdd,Nat.reduceEqDiff,reduceIte,Option.getD_some,Option.getD_none]
          refine Tail.zA0 (by rfl) (by rfl) ?_
          apply Exists.intro
          refine ⟨fun D w' hd hp hJ=>?_,?_⟩
          · have cc:w'.cell? ⟨p4,i,none⟩=some (.int .u32 (wz x)):=hJ4 w' hJ.2.1
            go_simp <;> with_reducible rfl
          simp only [Act.put,List.setIfInBounds_toArray,List.set_cons_zero,List.set_cons_succ,Nat.reduceAdd,Nat.reduceEqDiff,reduceIte,Option.getD_some,Option.getD_none]
          refine Tail.zI (by rfl) (by rfl) ?_
          apply Exists.intro
          refine ⟨fun w=>?_,?_⟩
          · go_simp <;> with_reducible rfl
          simp only [Act.put,List.setIfInBounds_toArray,List.set_cons_zero,List.set_cons_succ,Nat.reduceAdd,Nat.reduceEqDiff,reduceIte,Option.getD_some,Option.getD_none]
          refine Tail.zI (by rfl) (by rfl) ?_
          apply Exists.intro
          refine ⟨fun w=>?_,?_⟩
          · go_simp <;> with_reducible rfl
          simp only [Act.put,List.setIfInBounds_toArray,List.set_cons_zero,List.set_cons_succ,Nat.reduceAdd,Nat.reduceEqDiff,reduceIte,Option.getD_some,Option.getD_none]
          refine Tail.zI (by rfl) (by rfl) ?_
          apply Exists.intro
          refine ⟨fun w=>?_,?_⟩
          · go_simp <;> with_reducible rfl
          simp only [Act.put,List.setIfInBounds_toArray,List.set_cons_zero,List.set_cons_succ,Nat.reduceAdd,Nat.reduceEqDiff,reduceIte,Option.getD_some,Option.getD_none]
          refine Tail.zI (by rfl) (by rfl) ?_
          apply Exists.intro
          refine ⟨fun w=>?_,?_⟩
          · go_simp <;> with_reducible rfl
          simp only [Act.put,List.setIfInBounds_toArray,List.set_cons_zero,List.set_cons_succ,Nat.reduceAdd,Nat.reduceEqDiff,reduceIte,Option.getD_some,Option.getD_none]
          refine Tail.zA0 (by rfl) (by rfl) ?_
          apply Exists.intro
          refine ⟨fun D w' hd hp hJ=>?_,?_⟩
          · have cc:w'.cell? ⟨p4,i,none⟩=some (.int .u32 (wz x)):=hJ4 w' hJ.2.1
            go_simp <;> with_reducible rfl
          simp only [Act.put,List.setIfInBounds_toArray,List.set_cons_zero,List.set_cons_succ,Nat.reduceAdd,Nat.reduceEqDiff,reduceIte,Option.getD_some,Option.getD_none]
          refine Tail.zI (by rfl) (by rfl) ?_
          apply Exists.intro
          refine ⟨fun w=>?_,?_⟩
          · go_simp <;> with_reducible rfl
          simp only [Act.put,List.setIfInBounds_toArray,List.set_cons_zero,List.set_cons_succ,Nat.reduceAdd,Nat.reduceEqDiff,reduceIte,Option.getD_some,Option.getD_none]
          refine Tail.zI (by rfl) (by rfl) ?_
          apply Exists.intro
          refine ⟨fun w=>?_,?_⟩
          · go_simp <;> with_reducible rfl
          simp only [Act.put,List.setIfInBounds_toArray,List.set_cons_zero,List.set_cons_succ,Nat.reduceAdd,Nat.reduceEqDiff,reduceIte,Option.getD_some,Option.getD_none]
          refine Tail.zI (by rfl) (by rfl) ?_
          apply Exists.intro
          refine ⟨fun w=>?_,?_⟩
          · go_simp <;> with_reducible rfl
          simp only [Act.put,List.setIfInBounds_toArray,List.set_cons_zero,List.set_cons_succ,Nat.reduceAdd,Nat.reduceEqDiff,reduceIte,Option.getD_some,Option.getD_none]
          refine Tail.zI (by rfl) (by rfl) ?_
          apply Exists.intro
          refine ⟨fun w=>?_,?_⟩
          · go_simp <;> with_reducible rfl
          simp only [Act.put,List.setIfInBounds_toArray,List.set_cons_zero,List.set_cons_succ,Nat.reduceAdd,Nat.reduceEqDiff,reduceIte,Option.getD_some,Option.getD_none]
          refine Tail.zA0 (by rfl) (by rfl) ?_
          apply Exists.intro
          refine ⟨fun D w' hd hp hJ=>?_,?_⟩
          · have cc:w'.cell? ⟨p4,i,none⟩=some (.int .u32 (wz x)):=hJ4 w' hJ.2.1
            go_simp <;> with_reducible rfl
          simp only [Act.put,List.setIfInBounds_toArray,List.set_cons_zero,List.set_cons_succ,Nat.reduceAdd,Nat.reduceEqDiff,reduceIte,Option.getD_some,Option.getD_none]
          refine Tail.zI (by rfl) (by rfl) ?_
          apply Exists.intro
          refine ⟨fun w=>?_,?_⟩
          · go_simp <;> with_reducible rfl
          simp only [Act.put,List.setIfInBounds_toArray,List.set_cons_zero,List.set_cons_succ,Nat.reduceAdd,Nat.reduceEqDiff,reduceIte,Option.getD_some,Option.getD_none]
          refine Tail.zI (by rfl) (by rfl) ?_
          apply Exists.intro
          refine ⟨fun w=>?_,?_⟩
          · go_simp <;> with_reducible rfl
          simp only [Act.put,List.setIfInBounds_toArray,List.set_cons_zero,List.set_cons_succ,Nat.reduceAdd,Nat.reduceEqDiff,reduceIte,Option.getD_some,Option.getD_none]
          refine Tail.zKl (by rfl) (by rfl) ?_ ?_
          · intro D z' w' hD hz hd hp hJ
            obtain ⟨j2,j4,jb,j5,j6,j7,j8⟩:=hJ
            have d33:D 33=false:=hp 33 (by kernel_rfl)
            have d35:D 35=false:=hp 35 (by kernel_rfl)
            have k24:=j5 hD
            have hs24:(bV (zBS F i)).length=32:=by simp [zG,zA2 F hi0]
            obtain ⟨o0,c0⟩:∃ v,w'.cell? ⟨p24,q4,none⟩=some v:=by
             rw [k24.cell,List.getElem?_toArray]
             exact ⟨_,List.getElem?_eq_getElem (by omega)⟩
            have f0:=k24.free (q4)
            refine ⟨w'.setCell ⟨p24,q4,none⟩ (.int .u8 y3),?_,fun c hc=>by simp at hc,?_⟩
            · go_simp <;> with_reducible rfl
            · refine ⟨j2.set_other (a:=⟨p24,q4,none⟩) (fun e=>hne.1 e.symm) _,j4.set_other (a:=⟨p24,q4,none⟩) (fun e=>hne.2 e.symm) _,jb.setCell hg24 _,fun h=>?_,fun h h'=>?_,fun h h'=>?_,fun h=>?_⟩
              · rw [show Tail.zAp D 31 31=true from rfl] at h;cases h
              · have h2:=k24.set (q4) (.int .u8 y3)
                rw [List.setIfInBounds_toArray] at h2
                exact h2
              · rw [show Tail.zAp D 31 33=D 33 from rfl,d33] at h;cases h
              · rw [show Tail.zAp D 31 35=D 35 from rfl,d35] at h;cases h
          simp only [Act.put,List.setIfInBounds_toArray,List.set_cons_zero,List.set_cons_succ,Nat.reduceAdd,Nat.reduceEqDiff,reduceIte,Option.getD_some,Option.getD_none]
          refine Tail.zI (by rfl) (by rfl) ?_
          apply Exists.intro
          refine ⟨fun w=>?_,?_⟩
          · go_simp <;> with_reducible rfl
          simp only [Act.put,List.setIfInBounds_toArray,List.set_cons_zero,List.set_cons_succ,Nat.reduceAdd,Nat.reduceEqDiff,reduceIte,Option.getD_some,Option.getD_none]
          refine Tail.zKl (by rfl) (by rfl) ?_ ?_
          · intro D z' w' hD hz hd hp hJ
            obtain ⟨j2,j4,jb,j5,j6,j7,j8⟩:=hJ
            have d31:D 31=true:=hd 31 (by kernel_rfl)
            have d35:D 35=false:=hp 35 (by kernel_rfl)
            have k24:=j6 d31 hD
            have hs24:((bV (zBS F i)).set (q4) (.int .u8 y3)).length=32:=by simp [zG,zA2 F hi0]
            obtain ⟨o0,c0⟩:∃ v,w'.cell? ⟨p24,q4+1,none⟩=some v:=by
             rw [k24.cell,List.getElem?_toArray]
             exact ⟨_,List.getElem?_eq_getElem (by omega)⟩
            have f0:=k24.free (q4+1)
            refine ⟨w'.setCell ⟨p24,q4+1,none⟩ (.int .u8 y2),?_,fun c hc=>by simp at hc,?_⟩
            · go_simp <;> with_reducible rfl
            · refine ⟨j2.set_other (a:=⟨p24,q4+1,none⟩) (fun e=>hne.1 e.symm) _,j4.set_other (a:=⟨p24,q4+1,none⟩) (fun e=>hne.2 e.symm) _,jb.setCell hg24 _,fun h=>?_,fun h h'=>?_,fun h h'=>?_,fun h=>?_⟩
              · rw [show Tail.zAp D 33 31=D 31 from rfl,d31] at h;cases h
              · rw [show Tail.zAp D 33 33=true from rfl] at h';cases h'
              · have h2:=k24.set (q4+1) (.int .u8 y2)
                rw [List.setIfInBounds_toArray] at h2
                exact h2
              · rw [show Tail.zAp D 33 35=D 35 from rfl,d35] at h;cases h
          simp only [Act.put,List.setIfInBounds_toArray,List.set_cons_zero,List.set_cons_succ,Nat.reduceAdd,Nat.reduceEqDiff,reduceIte,Option.getD_some,Option.getD_none]
          refine Tail.zI (by rfl) (by rfl) ?_
          apply Exists.intro
          refine ⟨fun w=>?_,?_⟩
          · go_simp <;> with_reducible rfl
          simp only [Act.put,List.setIfInBounds_toArray,List.set_cons_zero,List.set_cons_succ,Nat.reduceAdd,Nat.reduceEqDiff,reduceIte,Option.getD_some,Option.getD_none]
          refine Tail.zKl (by rfl) (by rfl) ?_ ?_
          · intro D z' w' hD hz hd hp hJ
            obtain ⟨j2,j4,jb,j5,j6,j7,j8⟩:=hJ
            have d31:D 31=true:=hd 31 (by kernel_rfl)
            have d33:D 33=true:=hd 33 (by kernel_rfl)
            have k24:=j7 d33 hD
            have hs24:(((bV (zBS F i)).set (q4) (.int .u8 y3)).set (q4+1) (.int .u8 y2)).length=32:=by simp [zG,zA2 F hi0]
            obtain ⟨o0,c0⟩:∃ v,w'.cell? ⟨p24,q4+2,none⟩=some v:=by
             rw [k24.cell,List.getElem?_toArray]
             exact ⟨_,List.getElem?_eq_getElem (by omega)⟩
            have f0:=k24.free (q4+2)
            refine ⟨w'.setCell ⟨p24,q4+2,none⟩ (.int .u8 y1),?_,fun c hc=>by simp at hc,?_⟩
            · go_simp <;> with_reducible rfl
            · refine ⟨j2.set_other (a:=⟨p24,q4+2,none⟩) (fun e=>hne.1 e.symm) _,j4.set_other (a:=⟨p24,q4+2,none⟩) (fun e=>hne.2 e.symm) _,jb.setCell hg24 _,fun h=>?_,fun h h'=>?_,fun h h'=>?_,fun h=>?_⟩
              · rw [show Tail.zAp D 35 31=D 31 from rfl,d31] at h;cases h
              · rw [show Tail.zAp D 35 33=D 33 from rfl,d33] at h';cases h'
              · rw [show Tail.zAp D 35 35=true from rfl] at h';cases h'
              · have h2:=k24.set (q4+2) (.int .u8 y1)
                rw [List.setIfInBounds_toArray] at h2
                exact h2
          simp only [Act.put,List.setIfInBounds_toArray,List.set_cons_zero,List.set_cons_succ,Nat.reduceAdd,Nat.reduceEqDiff,reduceIte,Option.getD_some,Option.getD_none]
          intro w' hJ
          obtain ⟨j2,j4,jb,_,_,_,j24⟩:=hJ
          have k24:=j24 (by rfl)
          have hs24:((((bV (zBS F i)).set q4 (.int .u8 y3)).set (q4+1) (.int .u8 y2)).set (q4+2) (.int .u8 y1)).length=32:=by simp [zG,zA2 F hi0]
          obtain ⟨o3,c3⟩:∃ v,w'.cell? ⟨p24,q4+3,none⟩=some v:=by
           rw [k24.cell,List.getElem?_toArray]
           exact ⟨_,List.getElem?_eq_getElem (by omega)⟩
          have f3:=k24.free (q4+3)
          have HJ:=Lib.hid (And.intro j2 (And.intro j4 (And.intro jb k24)))
          clear j2 j4 jb j24 k24 hs24
          go_wp2_with fail
          obtain ⟨z0,z1,z2,z3,z4,z5,_⟩:=HX.out
          refine ⟨⟨i+1,by omega,by simp,HJ.out.1.set_other (a:=⟨p24,q4+3,none⟩) (fun e=>hne.1 e.symm) _,HJ.out.2.1.set_other (a:=⟨p24,q4+3,none⟩) (fun e=>hne.2 e.symm) _,?_,HJ.out.2.2.1.setCell hg24 _⟩,by show 8 - ((i:Int)+1).toNat < 8 - (i:Int).toNat;omega⟩
          have h:=HJ.out.2.2.2.set (q4+3) (.int .u8 y0)
          have e:=zKS F hin
          rw [← z0,← z1,← z2,← z3,← z4,← z5] at e
          rw [List.setIfInBounds_toArray,e] at h
          exact h
        · obtain rfl:i=8:=by omega
          subst hp2
          have hk5:=G.out.2.2.1
          rw [zLK] at hk5
          obtain ⟨co,hco⟩:∃ q,q=bV (zFD F):=⟨_,rfl⟩
          have hcol:co.length=32:=by rw [hco,zG,zFE]
          have hca2:zAS 32 co:=⟨hcol,fun v hv=>by rw [hco] at hv;exact zAQ _ v hv⟩
          rw [← hco] at hk5
          have r5:zh 32 wr p24 0=co:=zBO hk5 hcol
          have q5:zi 32 wr p24 0:=zQ hk5 (by simp [hcol])
          have q2:zi 32 wr w.heap.size 0:=zQ G.out.1 (by simp [zG])
          have HLD:=Lib.hid (zBy q2 hca2)
          have HM:=Lib.hid (And.intro hco G.out)
          have hp2':∀ k,k=w.heap.size→w.heap.size≤k:=fun k hk=>by rw [hk];exact Nat.le_refl _
          clear hk5 hco G
          go_wp2_with fail
          refine bodyPost_ret (v:=.agg co.toArray) (by simp [results,Tryz.results31,asAddr,HLD.out]) rfl ⟨by rw [HM.out.1,hsm.out],?_⟩
          exact (Chg.setCells (S:=fun b=>b=w.heap.size) (L:=w.heap.size) rfl _ _ _ (Chg.of_below HM.out.2.2.2.2)).below (Nat.le_refl _) hp2'
end Go.Proofs.YtdlkghdfkjdajaaGreatDoor
end
