/- Texts of this proof,packed: RPrint,Some,KeyMore,RSign,Ref10Mem. -/
import Derived.Test.YtdlkghdfkjdajaaGreatDoorPkP15
import Derived.Test.YtdlkghdfkjdajaaGreatDoorPkP09
import Derived.Test.YtdlkghdfkjdajaaGreatDoorPkP01
import Derived.Test.YtdlkghdfkjdajaaGreatDoorPkP12
import Derived.Test.YtdlkghdfkjdajaaGreatDoorPkP03
import Derived.Test.YtdlkghdfkjdajaaGreatDoorPkP07
import Derived.Test.YtdlkghdfkjdajaaGreatDoorPkP06
section
namespace Go.Proofs.YtdlkghdfkjdajaaGreatDoor
open Go Go.RowKit Go.Mem Gf
set_option linter.unusedVariables false
set_option linter.unusedSimpArgs false
attribute [local go_sem ↓] Go.wp_at_zero Go.wp_at_succ
attribute [local go_sem ↓] zY zU zm zf
attribute [local go_sem] ptrB_eq ptrO_eq ptrIs_eq aggL_eq aggIs_eq zS zV zD zF zJ zK zB
set_option maxRecDepth 20000 in
set_option maxHeartbeats 4000000 in
theorem zGa (sd:List UInt8) (leaf:Nat) (w:World) (hT:Tab w) (hs:sd.length=16) (h1:leaf≤1000000) :
  Calls Tryz.prog 92 #[.agg (bV sd).toArray,.int .i64 leaf] w fun e w'=>∃ v',e=.returned v'∧zL bV WfH 32 34 w' w.heap.size v' (Wot.ends sd leaf 67)∧Below w.heap.size w w':=by
 have HT:=Lib.hid hT
 clear hT
 obtain ⟨cs,hcs⟩:∃ c,c=bV sd:=⟨_,rfl⟩
 have hcl:cs.length=16:=by rw [hcs,zG];exact hs
 have HCS:=Lib.hid hcs
 rw [← hcs]
 clear hcs
 go_enter Tryz.func92,Tryz.ntmps92
 go_upto_region 1 with fail
 obtain ⟨w1,hw1⟩:∃ q,q=w.alloc (.cells cs.toArray 23):=⟨_,rfl⟩
 obtain ⟨p1,hp1⟩:∃ q,q=w.heap.size:=⟨_,rfl⟩
 have hb1:Below w.heap.size w w1:=by rw [hw1];exact (Below.refl _ _).alloc (Nat.le_refl _) _
 have hk1:Blk w1 p1 cs.toArray 23:=by rw [hw1,hp1];exact Blk.new _ _ _
 have hs01:=hb1.size
 rw [← hw1,← hp1]
 have H1:=Lib.hid (And.intro hb1 hk1)
 clear hw1 hp1 hb1 hk1
 go_wp2_with fail
 go_loopw [6,5] (fun vi vo wr=>∃ i:Nat,i≤67∧vi=.int .i64 i∧Hid (zL bV WfH 32 34 wr w1.heap.size vo (Wot.ends sd leaf i)∧Below w1.heap.size w1 wr)) (fun vi _ _=>67 - (intOf vi).toNat)
 case atStart=>exact ⟨0,by omega,rfl,zL.nil _ _ _ _ _ _,Below.refl _ _⟩
 case round =>
  obtain ⟨i,hi,rfl,G⟩:=hrel
  by_cases h0:i < 67
  · have i1:(i:Int) < 67:=by omega
    have hk:=H1.out.2.kept G.out.2
    have k1:zh 16 wr p1 0=cs:=zn hk hcl (fun k _=>by simp)
    have k2:zi 16 wr p1 0:=zQ hk (by simp [hcl])
    have hbw:=H1.out.1.trans (G.out.2.mono hs01)
    have hst:=zDg sd leaf i wr (HT.out.below hbw) hs h1 (by omega)
    rw [← HCS.out] at hst
    have HST:=Lib.hid (And.intro hst hbw)
    clear hst hk hbw
    go_wp2_with fail
    refine HST.out.1.mono ?_
    rintro e w3 ⟨rfl,hb3⟩
    have hb13:=G.out.2.trans (hb3.mono G.out.2.size)
    have H3:=Lib.hid (And.intro hb13 (G.out.1.chg (S:=fun _=>False) (Chg.of_below hb3) (fun _ _=>id)))
    clear hb3 hb13 k1 k2
    go_wp2_with fail
    refine (zDe (Wot.start sd leaf i) 15 w3 (HT.out.below (H1.out.1.trans (H3.out.1.mono hs01))) (Wot.start_len _ _ _) (by decide)).mono ?_
    rintro e w4 ⟨rfl,hb4⟩
    obtain ⟨x,hx⟩:∃ x,x=Wot.along (Wot.start sd leaf i) 15:=⟨_,rfl⟩
    rw [← hx]
    have hxl:x.length=32:=by rw [hx];exact Wot.along_len (Wot.start_len _ _ _) 15
    obtain ⟨co,hco⟩:∃ q,q=bV x:=⟨_,rfl⟩
    rw [← hco]
    have hcol:co.length=32:=by rw [hco,zG];exact hxl
    have hca:zAS 32 co:=⟨hcol,fun v hv=>by rw [hco] at hv;exact zAQ _ v hv⟩
    have hb14:=H3.out.1.trans (hb4.mono H3.out.1.size)
    have H4:=Lib.hid (And.intro hb14 (And.intro (H3.out.2.chg (S:=fun _=>False) (Chg.of_below hb4) (fun _ _=>id)) (And.intro hx hco)))
    have hs14:=hb14.size
    clear hb4 hb14 hx hco
    go_wp2_with (at_builtin;refine zAZ EKh ecH rfl _ _ rfl (base:=w1.heap.size) x hxl rfl rfl (by rw [← H4.out.2.2.2];exact Blk.new _ _ _) (H4.out.2.1.chg (S:=fun _=>False) (Chg.of_below ((Below.refl _ _).alloc (Nat.le_refl _) _)) (fun _ _=>id)) ?d1 (by decide) ?d2 ?_)
    case d1=>unfold Wot.ends;rw [List.length_map,List.length_range];omega
    case d2=>simp;omega
    intro v5 w5 h5 hg5 hx5
    have hb5:=zN (H4.out.1.alloc hs14 _) hg5 (fun k hk=>H4.out.2.1.ge hk)
    have H5:=Lib.hid (And.intro h5 hb5)
    clear h5 hb5 hg5 hx5
    go_wp2
    refine ⟨⟨i+1,by omega,by go_num,?_,H5.out.2⟩,by simp [intOf];omega⟩
    rw [Wot.ends_snoc,← H4.out.2.2.1]
    exact H5.out.1
  · have i1:¬ (i:Int) < 67:=by omega
    obtain rfl:i=67:=by omega
    go_wp2_with fail
    go_ret
    exact ⟨_,rfl,G.out.1.lower hs01,H1.out.1.trans (G.out.2.mono hs01)⟩
set_option maxRecDepth 20000 in
set_option maxHeartbeats 4000000 in
theorem zFh (sd:List UInt8) (leaf:Nat) (w:World) (hT:Tab w) (hs:sd.length=16) (h1:leaf≤1000000) :
  Calls Tryz.prog 60 #[.agg (bV sd).toArray,.int .i64 leaf] w fun e w'=>e=.returned (.agg (bV (Wot.pub sd leaf)).toArray)∧Below w.heap.size w w':=by
 have hen:=fun w1 (hb:Below w.heap.size w w1)=>zGa sd leaf w1 (hT.below hb) hs h1
 have HT:=Lib.hid hT
 clear hT
 obtain ⟨cs,hcs⟩:∃ c,c=bV sd:=⟨_,rfl⟩
 have hcl:cs.length=16:=by rw [hcs,zG];exact hs
 rw [← hcs] at hen ⊢
 have HE:=Lib.hid hen
 clear hcs hen
 go_enter Tryz.func60,Tryz.ntmps60
 go_upto_region 1 with fail
 obtain ⟨w1,hw1⟩:∃ q,q=(w.alloc (.cells cs.toArray 23)).alloc (.cells #[Value.int IntKind.u8 0,.int .u8 0,.int .u8 0,.int .u8 0,.int .u8 0,.int .u8 0,.int .u8 0,.int .u8 0,.int .u8 0,.int .u8 0,.int .u8 0,.int .u8 0,.int .u8 0,.int .u8 0,.int .u8 0,.int .u8 0,.int .u8 0,.int .u8 0,.int .u8 0,.int .u8 0,.int .u8 0,.int .u8 0,.int .u8 0,.int .u8 0,.int .u8 0,.int .u8 0,.int .u8 0,.int .u8 0,.int .u8 0,.int .u8 0,.int .u8 0,.int .u8 0] 34):=⟨_,rfl⟩
 obtain ⟨p1,hp1⟩:∃ q,q=w.heap.size:=⟨_,rfl⟩
 obtain ⟨p2,hp2⟩:∃ q,q=w.heap.size+1:=⟨_,rfl⟩
 have hb1:Below w.heap.size w w1:=by rw [hw1];exact ((Below.refl _ _).alloc (Nat.le_refl _) _).alloc (by simp) _
 have hk1:Blk w1 p1 cs.toArray 23:=by rw [hw1,hp1];exact (Blk.new _ _ _).alloc _
 have hk2:Blk w1 p2 zH 34:=by rw [hw1,hp2];exact Blk.new_at _ _ _ _ (by simp)
 rw [← hw1,← hp2,← hp1]
 have H1:=Lib.hid (And.intro hb1 (And.intro hk2 (And.intro (show w.heap.size≤p2 by omega) (And.intro (show p1≠p2 by omega) (show w.heap.size≤p1 by omega)))))
 have HK:=Lib.hid hk1
 have hpge:=H1.out.2.2.1
 clear hw1 hp1 hp2 hb1 hk1 hk2
 have k1:zh 16 w1 p1 0=cs:=zn HK.out hcl (fun k _=>by simp)
 have k2:zi 16 w1 p1 0:=zQ HK.out (by simp [hcl])
 have hs01:=H1.out.1.size
 go_wp2_with fail
 refine (HE.out w1 H1.out.1).mono ?_
 rintro e w2 ⟨v2,rfl,h2,hb2⟩
 have hpt:=zE2 v2 _ w1.heap.size w2 (HT.out.below (H1.out.1.trans (hb2.mono hs01))) h2 (by unfold Wot.ends;rw [List.length_map,List.length_range];decide)
 have hLl0:(Wot.ends sd leaf 67).length=67:=by unfold Wot.ends;rw [List.length_map,List.length_range]
 obtain ⟨L,hL⟩:∃ L,L=Wot.ends sd leaf 67:=⟨_,rfl⟩
 rw [← hL] at h2 hpt hLl0
 obtain ⟨a2,c2,e2⟩:=h2.slice
 rw [hLl0] at e2
 subst e2
 have HPT:=Lib.hid (And.intro hpt (And.intro hb2 (And.intro hLl0 (And.intro h2.wf hL))))
 clear h2 hpt hb2 hL hLl0 k1 k2
 go_wp2_with fail
 refine HPT.out.1.mono ?_
 rintro e w3 ⟨v3,rfl,h3,hb3⟩
 have H3:=Lib.hid (And.intro h3 hb3)
 have hln:(Wot.text Wot.tPublic L).length≤1000000:=by
  unfold Wot.text
  rw [List.length_append]
  have h1:(Cod.net Wot.tPublic).length≤100:=by
   rw [Cod.zAL,show Wot.tPublic.length=6 from rfl,Lib.nDigits_small (by decide)]
   decide
  have h2:=zBR L (fun r hr=>by have:r.length=32:=HPT.out.2.2.2.1 r hr;omega) (by have:=HPT.out.2.2.1;omega)
  omega
 clear h3 hb3
 go_wp2_with fail
 refine (zBI v3 _ w3 H3.out.1.bys hln).mono ?_
 rintro e w4 ⟨rfl,hb4⟩
 rw [show Sha.sum (Wot.text Wot.tPublic L)=Wot.pub sd leaf from by rw [HPT.out.2.2.2.2];rfl]
 have hb24:Below w2.heap.size w2 w4:=H3.out.2.trans (hb4.mono H3.out.2.size)
 have hb14:Below w1.heap.size w1 w4:=HPT.out.2.1.trans (hb24.mono HPT.out.2.1.size)
 have hb04:=H1.out.1.trans (hb14.mono H1.out.1.size)
 have kz:=H1.out.2.1.kept hb14
 have hlen:(Wot.pub sd leaf).length=32:=Wot.tagged_len _ _
 obtain ⟨hq1,hq2,hq3⟩:=zAP (p:=p2) (h:=Wot.pub sd leaf) hlen kz
 obtain ⟨co,hco⟩:∃ q,q=bV (Wot.pub sd leaf):=⟨_,rfl⟩
 rw [← hco] at hq2 hq3
 try rw [← hco]
 have hcol:co.length=32:=hq2.1
 have HLD:=Lib.hid hq3
 have HM:=Lib.hid (And.intro hco (zAI co hb04 hpge))
 clear hco hq3
 go_wp2_with fail
 refine bodyPost_ret (v:=.agg co.toArray) (by simp [results,Tryz.results60,asAddr,HLD.out]) rfl ⟨by rw [HM.out.1],HM.out.2⟩
set_option maxRecDepth 20000 in
set_option maxHeartbeats 4000000 in
theorem zDH (sd:List UInt8) (h:Nat) (w:World) (hT:Tab w) (hs:sd.length=16) (hh:h≤4) :
  Calls Tryz.prog 34 #[.agg (bV sd).toArray,.int .i64 h] w fun e w'=>∃ v',e=.returned v'∧zL bV WfH 32 34 w' w.heap.size v' (Wot.leaves sd (2 ^ h))∧Below w.heap.size w w':=by
 have HT:=Lib.hid hT
 clear hT
 obtain ⟨cs,hcs⟩:∃ c,c=bV sd:=⟨_,rfl⟩
 have hcl:cs.length=16:=by rw [hcs,zG];exact hs
 have HCS:=Lib.hid hcs
 rw [← hcs]
 clear hcs
 obtain ⟨n,hn⟩:∃ n,n=2 ^ h:=⟨_,rfl⟩
 have hnb:n≤16:=by rw [hn];exact Nat.pow_le_pow_right (by decide) hh
 have HN:=Lib.hid hn
 rw [← hn]
 have hsh:IntKind.i64.wrap (2 ^ h)=(n:Int):=by
  rw [hn]
  have:((2:Int) ^ h)=((2 ^ h:Nat):Int):=by simp
  rw [this]
  exact IntWalk.i64_in _ (by rw [← hn];omega)
 clear hn
 go_enter Tryz.func34,Tryz.ntmps34
 go_upto_region 1 with fail
 obtain ⟨w1,hw1⟩:∃ q,q=w.alloc (.cells cs.toArray 23):=⟨_,rfl⟩
 obtain ⟨p1,hp1⟩:∃ q,q=w.heap.size:=⟨_,rfl⟩
 have hb1:Below w.heap.size w w1:=by rw [hw1];exact (Below.refl _ _).alloc (Nat.le_refl _) _
 have hk1:Blk w1 p1 cs.toArray 23:=by rw [hw1,hp1];exact Blk.new _ _ _
 have hs01:=hb1.size
 rw [← hw1,← hp1]
 have H1:=Lib.hid (And.intro hb1 hk1)
 clear hw1 hp1 hb1 hk1
 go_wp2_with fail
 go_loopw [6,5] (fun vi vo wr=>∃ i:Nat,i≤n∧vi=.int .i64 i∧Hid (zL bV WfH 32 34 wr w1.heap.size vo (Wot.leaves sd i)∧Below w1.heap.size w1 wr)) (fun vi _ _=>n - (intOf vi).toNat)
 case atStart=>exact ⟨0,by omega,rfl,zL.nil _ _ _ _ _ _,Below.refl _ _⟩
 case round =>
  obtain ⟨i,hi,rfl,G⟩:=hrel
  by_cases h0:i < n
  · have i1:(i:Int) < (n:Int):=by omega
    have hk:=H1.out.2.kept G.out.2
    have k1:zh 16 wr p1 0=cs:=zn hk hcl (fun k _=>by simp)
    have k2:zi 16 wr p1 0:=zQ hk (by simp [hcl])
    have hbw:=H1.out.1.trans (G.out.2.mono hs01)
    have hst:=zFh sd i wr (HT.out.below hbw) hs (by omega)
    rw [← HCS.out] at hst
    have HST:=Lib.hid (And.intro hst hbw)
    clear hst hk hbw
    go_wp2_with fail
    refine HST.out.1.mono ?_
    rintro e w4 ⟨rfl,hb4⟩
    obtain ⟨x,hx⟩:∃ x,x=Wot.pub sd i:=⟨_,rfl⟩
    rw [← hx]
    have hxl:x.length=32:=by rw [hx];exact Wot.tagged_len _ _
    obtain ⟨co,hco⟩:∃ q,q=bV x:=⟨_,rfl⟩
    rw [← hco]
    have hcol:co.length=32:=by rw [hco,zG];exact hxl
    have hca:zAS 32 co:=⟨hcol,fun v hv=>by rw [hco] at hv;exact zAQ _ v hv⟩
    have hb14:=G.out.2.trans (hb4.mono G.out.2.size)
    have H4:=Lib.hid (And.intro hb14 (And.intro (G.out.1.chg (S:=fun _=>False) (Chg.of_below hb4) (fun _ _=>id)) (And.intro hx hco)))
    have hs14:=hb14.size
    clear hb4 hb14 hx hco k1 k2
    go_wp2_with (at_builtin;refine zAZ EKh ecH rfl _ _ rfl (base:=w1.heap.size) x hxl rfl rfl (by rw [← H4.out.2.2.2];exact Blk.new _ _ _) (H4.out.2.1.chg (S:=fun _=>False) (Chg.of_below ((Below.refl _ _).alloc (Nat.le_refl _) _)) (fun _ _=>id)) ?d1 (by decide) ?d2 ?_)
    case d1=>rw [Wot.leaves_len];omega
    case d2=>simp;omega
    intro v5 w5 h5 hg5 hx5
    have hb5:=zN (H4.out.1.alloc hs14 _) hg5 (fun k hk=>H4.out.2.1.ge hk)
    have H5:=Lib.hid (And.intro h5 hb5)
    clear h5 hb5 hg5 hx5
    go_wp2
    refine ⟨⟨i+1,by omega,by go_num,?_,H5.out.2⟩,by simp [intOf];omega⟩
    rw [Wot.leaves_snoc,← H4.out.2.2.1]
    exact H5.out.1
  · have i1:¬ (i:Int) < (n:Int):=by omega
    obtain rfl:n=i:=by omega
    go_wp2_with fail
    go_ret
    exact ⟨_,rfl,G.out.1.lower hs01,H1.out.1.trans (G.out.2.mono hs01)⟩
set_option maxRecDepth 20000 in
set_option maxHeartbeats 4000000 in
theorem zE3 (v:Value) (l:List (List UInt8)) (base h:Nat) (w:World) (hT:Tab w) (hv:zL bV WfH 32 34 w base v l) (hl:l.length=2 ^ h) (hh:h≤4) :
  Calls Tryz.prog 58 #[v] w fun e w'=>∃ v',e=.returned v'∧zL bV WfH 32 34 w' w.heap.size v' l∧Below w.heap.size w w':=by
 obtain ⟨n,hn⟩:∃ n,n=l.length:=⟨_,rfl⟩
 have hn1:1≤n:=by rw [hn,hl];exact Nat.pow_pos (by decide)
 have hn16:n≤16:=by rw [hn,hl];exact Nat.pow_le_pow_right (by decide) hh
 obtain ⟨g,cap,rfl,hrow⟩:=hv.ex (by omega)
 rw [← hn] at hrow hv ⊢
 have hpad:=fun w1=>zIs h (by omega) w1
 rw [← hl,← hn] at hpad
 have H:=Lib.hid (And.intro hT (And.intro hrow (And.intro hn (And.intro hpad hl))))
 clear hT hv hrow hn hpad hl
 go_enter Tryz.func58,Tryz.ntmps58
 go_wp2_with (at_builtin;refine zHH EKh ecH rfl _ _ rfl rfl (l:=l) H.out.2.1.wf rfl H.out.2.2.1.symm (fun j u hu=>by rw [Nat.zero_add,H.out.2.1.cell (by have:=zBW hu;rw [zCh ecH l H.out.2.1.wf,← H.out.2.2.1] at this;exact this)];exact hu) (zAC (by omega)) (by omega) ?_)
 intro v1 w1 h1 hb1
 obtain ⟨a1,c1,rfl⟩:=h1.slice
 rw [← H.out.2.2.1] at h1 ⊢
 have H1:=Lib.hid (And.intro h1 hb1)
 clear h1 hb1
 go_wp2_with fail
 go_loopw [3] (fun u wr=>u=.slice a1 n c1∧w1=wr) (fun _ _=>0)
 case atStart=>exact ⟨rfl,rfl⟩
 case round =>
  obtain ⟨rfl,rfl⟩:=hrel
  have i1:¬ (n:Int) < (n:Int):=by omega
  go_wp2_with fail
  refine (H.out.2.2.2.1 w1).mono ?_
  rintro e _ ⟨rfl,rfl⟩
  go_wp2_with fail
  go_ret
  exact ⟨_,rfl,H1.out.1,H1.out.2⟩
set_option maxRecDepth 20000 in
set_option maxHeartbeats 4000000 in
theorem zF2 (v:Value) (l:List (List UInt8)) (base q:Nat) (w:World) (hT:Tab w) (hv:zL bV WfH 32 34 w base v l) (hl:l.length=2*q) (hq1:1≤q) (hq:q≤8) :
  Calls Tryz.prog 59 #[v] w fun e w'=>∃ v',e=.returned v'∧zL bV WfH 32 34 w' w.heap.size v' (Wot.up l)∧Below w.heap.size w w':=by
 obtain ⟨m,hm⟩:∃ m,m=l.length:=⟨_,rfl⟩
 obtain ⟨g',cap,rfl,hrow⟩:=hv.ex (by omega)
 rw [← hm] at hrow ⊢
 have hul:=Wot.up_len q l hl
 have HU:=Lib.hid (And.intro hrow (And.intro hm.symm (And.intro hul (And.intro (show m=2*q from hm.trans hl) hT))))
 clear hv hrow hm hul hT hl
 go_enter Tryz.func59,Tryz.ntmps59
 go_wp2_with fail
 go_loopw [4,3] (fun vi vo wr=>∃ i ii:Nat,Hid (i≤q∧ii=2*i)∧vi=.int .i64 ii∧Hid (zL bV WfH 32 34 wr w.heap.size vo ((Wot.up l).take i)∧Below w.heap.size w wr)) (fun vi _ _=>2*q - (intOf vi).toNat)
 case atStart=>exact ⟨0,0,⟨by omega,rfl⟩,rfl,zL.nil _ _ _ _ _ _,Below.refl _ _⟩
 case round =>
  obtain ⟨i,ii,hii,rfl,K⟩:=hrel
  by_cases hiq:i < q
  · have t0:(0:Int)≤(ii:Int):=by omega
    have t1:(ii:Int) < (m:Int):=by have:=hii.out;have:=HU.out.2.2.2.1;omega
    have t2:(ii:Int)+1 < (m:Int):=by have:=hii.out;have:=HU.out.2.2.2.1;omega
    have t3:(0:Int)≤(ii:Int)+1:=by omega
    have q1:IntKind.i64.wrap ((ii:Int)+1)=(ii:Int)+1:=IntWalk.i64_in _ (by have:=hii.out;omega)
    have q2:IntKind.i64.wrap ((ii:Int)+2)=(ii:Int)+2:=IntWalk.i64_in _ (by have:=hii.out;omega)
    have hrw:=HU.out.1.chg (S:=fun _=>False) (Chg.of_below K.out.2) id
    obtain ⟨x,hx⟩:∃ x,l[ii]?=some x:=⟨_,List.getElem?_eq_getElem (by have:=HU.out.2.1;omega)⟩
    obtain ⟨y,hy⟩:∃ y,l[ii+1]?=some y:=⟨_,List.getElem?_eq_getElem (by have:=HU.out.2.1;omega)⟩
    have hxl:x.length=32:=hrw.wf x (List.mem_of_getElem? hx)
    have hyl:y.length=32:=hrw.wf y (List.mem_of_getElem? hy)
    obtain ⟨cx,hcx⟩:∃ c,c=bV x:=⟨_,rfl⟩
    obtain ⟨cy,hcy⟩:∃ c,c=bV y:=⟨_,rfl⟩
    have cxl:cx.length=32:=by rw [hcx,zG];exact hxl
    have cyl:cy.length=32:=by rw [hcy,zG];exact hyl
    have hnd:=fun w' (hb:Below wr.heap.size wr w')=>zHe x y w' (HU.out.2.2.2.2.below (K.out.2.trans (hb.mono K.out.2.size))) hxl hyl
    obtain ⟨nd,hndd⟩:∃ nd,nd=Wot.node x y:=⟨_,rfl⟩
    obtain ⟨co,hco⟩:∃ c,c=bV nd:=⟨_,rfl⟩
    rw [← hcx,← hcy,← hndd,← hco] at hnd
    have hndl:nd.length=32:=by rw [hndd];exact Wot.tagged_len _ _
    have hcol2:co.length=32:=by rw [hco,zG];exact hndl
    have hca2:zAS 32 co:=⟨hcol2,fun v hv=>by rw [hco] at hv;exact zAQ _ v hv⟩
    have HX:=Lib.hid (And.intro hrw (And.intro hx (And.intro hy (And.intro hcx (And.intro hcy hnd)))))
    have HCO:=Lib.hid hco
    have HND:=Lib.hid (And.intro hndd hndl)
    clear hx hy hxl hyl hcx hcy hnd hrw hco hndd hndl
    go_upto_region 5 with fail
    refine Tail.zT 12 (fun k=>k == 10 || k == 11) (fun k=>if k=10 then some (.agg co.toArray) else none)
     (fun D z w'=>Below wr.heap.size wr w'∧(D 11=true→∃ mb,z 11=.slice (some ⟨mb,0,none⟩) 1 1∧Blk w' mb (bV nd).toArray 34))
     (by kernel_rfl) (by kernel_rfl) (fun k hk=>by simp at hk;omega) (fun D z z' w' hz h=>⟨h.1,fun d=>by rw [← hz 11 d];exact h.2 d⟩)
     (⟨(Below.refl _ _).drew,(fun h=>by cases h)⟩) (fun z=>?_)
    simp only [List.take_succ_cons,List.take_zero,List.drop_succ_cons,List.drop_zero]
    refine Tail.zI (by rfl) (by rfl) ?_
    apply Exists.intro
    refine ⟨fun w=>?_,?_⟩
    · go_simp <;> with_reducible rfl
    simp only [Act.put,List.setIfInBounds_toArray,List.set_cons_zero,List.set_cons_succ,Nat.reduceAdd,Nat.reduceEqDiff,reduceIte,Option.getD_some,Option.getD_none]
    refine Tail.zI (by rfl) (by rfl) ?_
    apply Exists.intro
    refine ⟨fun w=>?_,?_⟩
    · go_simp <;> with_reducible rfl
    simp only [Act.put,List.setIfInBounds_toArray,List.set_cons_zero,List.set_cons_succ,Nat.reduceAdd,Nat.reduceEqDiff,reduceIte,Option.getD_some,Option.getD_none]
    refine Tail.zI (by rfl) (by rfl) ?_
    apply Exists.intro
    refine ⟨fun w=>?_,?_⟩
    · go_simp <;> with_reducible rfl
    simp only [Act.put,List.setIfInBounds_toArray,List.set_cons_zero,List.set_cons_succ,Nat.reduceAdd,Nat.reduceEqDiff,reduceIte,Option.getD_some,Option.getD_none]
    refine Tail.zI (by rfl) (by rfl) ?_
    apply Exists.intro
    refine ⟨fun w=>?_,?_⟩
    · go_simp <;> with_reducible rfl
    simp only [Act.put,List.setIfInBounds_toArray,List.set_cons_zero,List.set_cons_succ,Nat.reduceAdd,Nat.reduceEqDiff,reduceIte,Option.getD_some,Option.getD_none]
    refine Tail.zBc (by rfl) (by rfl) _ _ rfl g' (ii*32) (by rfl) cx (fun D w' _ _ hJ=>by rw [HX.out.2.2.2.1];exact (HX.out.1.chg (S:=fun _=>False) (Chg.of_below hJ.1) id).range ecH HX.out.2.1) Tryz.underlying34 rfl (by rw [cxl];exact zGe) ?_
    simp only [Act.put,List.setIfInBounds_toArray,List.set_cons_zero,List.set_cons_succ,Nat.reduceAdd,Nat.reduceEqDiff,reduceIte,Option.getD_some,Option.getD_none]
    refine Tail.zI (by rfl) (by rfl) ?_
    apply Exists.intro
    refine ⟨fun w=>?_,?_⟩
    · go_simp <;> with_reducible rfl
    simp only [Act.put,List.setIfInBounds_toArray,List.set_cons_zero,List.set_cons_succ,Nat.reduceAdd,Nat.reduceEqDiff,reduceIte,Option.getD_some,Option.getD_none]
    refine Tail.zI (by rfl) (by rfl) ?_
    apply Exists.intro
    refine ⟨fun w=>?_,?_⟩
    · go_simp <;> with_reducible rfl
    simp only [Act.put,List.setIfInBounds_toArray,List.set_cons_zero,List.set_cons_succ,Nat.reduceAdd,Nat.reduceEqDiff,reduceIte,Option.getD_some,Option.getD_none]
    refine Tail.zI (by rfl) (by rfl) ?_
    apply Exists.intro
    refine ⟨fun w=>?_,?_⟩
    · go_simp <;> with_reducible rfl
    simp only [Act.put,List.setIfInBounds_toArray,List.set_cons_zero,List.set_cons_succ,Nat.reduceAdd,Nat.reduceEqDiff,reduceIte,Option.getD_some,Option.getD_none]
    refine Tail.zI (by rfl) (by rfl) ?_
    apply Exists.intro
    refine ⟨fun w=>?_,?_⟩
    · go_simp <;> with_reducible rfl
    simp only [Act.put,List.setIfInBounds_toArray,List.set_cons_zero,List.set_cons_succ,Nat.reduceAdd,Nat.reduceEqDiff,reduceIte,Option.getD_some,Option.getD_none]
    refine Tail.zBc (by rfl) (by rfl) _ _ rfl g' ((ii+1)*32) (by rfl) cy (fun D w' _ _ hJ=>by rw [HX.out.2.2.2.2.1];exact (HX.out.1.chg (S:=fun _=>False) (Chg.of_below hJ.1) id).range ecH HX.out.2.2.1) Tryz.underlying34 rfl (by rw [cyl];exact zGe) ?_
    simp only [Act.put,List.setIfInBounds_toArray,List.set_cons_zero,List.set_cons_succ,Nat.reduceAdd,Nat.reduceEqDiff,reduceIte,Option.getD_some,Option.getD_none]
    refine Tail.zAT (by rfl) (by rfl) ?_ ?_
    · apply Exists.intro
      apply Exists.intro
      refine ⟨fun w'=>?_,?_⟩
      · go_simp <;> exact ⟨rfl,rfl⟩
      intro D z' w' hD hz hd hp hJ
      have h11:D 11=false:=hp 11 (by kernel_rfl)
      refine (HX.out.2.2.2.2.2 w' hJ.1).mono ?_
      rintro e w'' ⟨rfl,hb⟩
      refine ⟨_,rfl,fun c hc=>by simp at hc;rw [← hc],hJ.1.trans (hb.mono hJ.1.size),fun h=>?_⟩
      simp [Tail.zAp,h11] at h
    simp only [Act.put,List.setIfInBounds_toArray,List.set_cons_zero,List.set_cons_succ,Nat.reduceAdd,Nat.reduceEqDiff,reduceIte,Option.getD_some,Option.getD_none]
    refine Tail.zFt (by rfl) (by rfl) (fun D z' w' hD hz hd hp hJ=>?_) ?_
    · refine ⟨_,_,zEG Tryz.underlying46 (n:=32) (by kernel_rfl) (by decide) (by decide) w' _ rfl co (by rfl) hca2,fun c hc=>by simp at hc,hJ.1.alloc hJ.1.size _,fun _=>⟨w'.heap.size,by simp [Tail.zAb],?_⟩⟩
      rw [← HCO.out]
      exact Blk.new _ _ _
    simp only [Act.put,List.setIfInBounds_toArray,List.set_cons_zero,List.set_cons_succ,Nat.reduceAdd,Nat.reduceEqDiff,reduceIte,Option.getD_some,Option.getD_none]
    intro w5 hJ
    have hb5:=hJ.1
    obtain ⟨mb,hz11,hkm⟩:=hJ.2 rfl
    rw [hz11]
    clear hJ hz11 z
    have hbo5:=K.out.2.trans (hb5.mono K.out.2.size)
    have hso5:=hbo5.size
    have H5:=Lib.hid (And.intro hkm (And.intro (K.out.1.chg (S:=fun _=>False) (Chg.of_below hb5) (fun _ _=>id)) hbo5))
    clear hkm hb5 hbo5
    go_wp2_with (at_builtin;refine zAZ EKh ecH rfl _ _ rfl (base:=w.heap.size) nd HND.out.2 rfl rfl H5.out.1 H5.out.2.1 ?d1 (by decide) ?d2 ?_)
    case d1=>have:=HU.out.2.2.2.1;rw [List.length_take];omega
    case d2=>omega
    intro v6 w6 h6 hg6 hx6
    have hb6:=zN H5.out.2.2 hg6 (fun k hk=>H5.out.2.1.ge hk)
    have H6:=Lib.hid (And.intro h6 hb6)
    clear h6 hb6 hg6 hx6
    go_wp2
    refine ⟨⟨i+1,ii+2,⟨by omega,by have:=hii.out;omega⟩,by go_num,?_,H6.out.2⟩,by have:=hii.out;have:=HU.out.2.2.2.1;simp [intOf];omega⟩
    have hii2:=hii.out.2
    have hug:=Wot.up_get i l (by have:=HU.out.2.1;have:=HU.out.2.2.2.1;omega)
    rw [← hii2,List.getD_eq_getElem?_getD,HX.out.2.1,List.getD_eq_getElem?_getD,HX.out.2.2.1,Option.getD_some,Option.getD_some,← HND.out.1] at hug
    rw [List.take_add_one,hug]
    exact H6.out.1
  · have q1:IntKind.i64.wrap ((ii:Int)+1)=(ii:Int)+1:=IntWalk.i64_in _ (by have:=hii.out;omega)
    have t1:¬ (ii:Int)+1 < (m:Int):=by have:=hii.out;have:=HU.out.2.2.2.1;omega
    obtain rfl:i=q:=by have:=hii.out;omega
    have htk:(Wot.up l).take i=Wot.up l:=List.take_of_length_le (by have:=HU.out.2.2.1;omega)
    rw [htk] at K
    go_wp2_with fail
    go_ret
    exact ⟨_,rfl,K.out.1,K.out.2⟩
set_option maxRecDepth 20000 in
set_option maxHeartbeats 4000000 in
theorem zHf (v:Value) (l:List (List UInt8)) (base h:Nat) (w:World) (hT:Tab w) (hv:zL bV WfH 32 34 w base v l) (hl:l.length=2 ^ h) (hh:h≤4) :
  Calls Tryz.prog 33 #[v] w fun e w'=>e=.returned (.agg (bV (Wot.root h l)).toArray)∧Below w.heap.size w w':=by
 have hrw:=fun w1 (hb:Below w.heap.size w w1)=>zE3 v l base h w1 (hT.below hb) (hv.chg (S:=fun _=>False) (Chg.of_below hb) (fun _ _=>id)) hl hh
 have hwf:=hv.wf
 obtain ⟨va,vc,rfl⟩:=hv.slice
 obtain ⟨n,hn⟩:∃ n,n=l.length:=⟨_,rfl⟩
 rw [← hn] at hrw ⊢
 have hll:=fun j (hj:j≤h)=>Wot.lvl_len hl j hj
 have H:=Lib.hid (And.intro hT (And.intro hrw (And.intro hll hwf)))
 clear hT hrw hll hn hv hwf hl
 go_enter Tryz.func33,Tryz.ntmps33
 go_upto_region 1 with fail
 obtain ⟨w1,hw1⟩:∃ q,q=w.alloc (.cells #[Value.int IntKind.u8 0,.int .u8 0,.int .u8 0,.int .u8 0,.int .u8 0,.int .u8 0,.int .u8 0,.int .u8 0,.int .u8 0,.int .u8 0,.int .u8 0,.int .u8 0,.int .u8 0,.int .u8 0,.int .u8 0,.int .u8 0,.int .u8 0,.int .u8 0,.int .u8 0,.int .u8 0,.int .u8 0,.int .u8 0,.int .u8 0,.int .u8 0,.int .u8 0,.int .u8 0,.int .u8 0,.int .u8 0,.int .u8 0,.int .u8 0,.int .u8 0,.int .u8 0] 34):=⟨_,rfl⟩
 obtain ⟨p2,hp2⟩:∃ q,q=w.heap.size:=⟨_,rfl⟩
 have hb1:Below w.heap.size w w1:=by rw [hw1];exact (Below.refl _ _).alloc (Nat.le_refl _) _
 have hk1:Blk w1 p2 zH 34:=by rw [hw1,hp2];exact Blk.new _ _ _
 rw [← hw1,← hp2]
 have H1:=Lib.hid (And.intro hb1 (And.intro hk1 (show w.heap.size≤p2 from Nat.le_of_eq hp2.symm)))
 clear hw1 hp2 hb1 hk1
 go_wp2_with fail
 refine (H.out.2.1 w1 H1.out.1).mono ?_
 rintro e w2 ⟨v2,rfl,h2,hb2⟩
 have H2:=Lib.hid (And.intro h2 hb2)
 clear h2 hb2
 go_wp2_with fail
 go_loopw [3] (fun vr wr=>∃ j:Nat,j≤h∧Hid (zL bV WfH 32 34 wr w1.heap.size vr (Wot.lvl j l)∧Below w1.heap.size w1 wr)) (fun vr _=>zJn vr)
 case atStart=>exact ⟨0,Nat.zero_le _,H2.out.1,H2.out.2⟩
 case round =>
  obtain ⟨j,hj,G⟩:=hrel
  have hlj:=H.out.2.2.1 j hj
  obtain ⟨m,hm⟩:∃ m,m=(Wot.lvl j l).length:=⟨_,rfl⟩
  rw [← hm] at hlj
  by_cases h0:j < h
  · obtain ⟨q,hq⟩:∃ q,q=2 ^ (h - (j+1)):=⟨_,rfl⟩
    have hmq:m=2*q:=by rw [hlj,hq,show h - j=(h - (j+1))+1 from by omega,Nat.pow_succ,Nat.mul_comm]
    have hq1:1≤q:=by rw [hq];exact Nat.one_le_two_pow
    have hq8:q≤8:=by rw [hq];exact Nat.pow_le_pow_right (n:=2) (by decide) (show h - (j+1)≤3 by omega)
    have i1:(1:Int) < (m:Int):=by omega
    have hup:=zF2 u3 (Wot.lvl j l) w1.heap.size q wr (H.out.1.below (H1.out.1.trans (G.out.2.mono H1.out.1.size))) G.out.1 (by rw [← hm];exact hmq) hq1 hq8
    obtain ⟨a3,c3,e3⟩:=G.out.1.slice
    rw [← hm] at e3
    subst e3
    have hql:(Wot.lvl (j+1) l).length=q:=by rw [H.out.2.2.1 (j+1) h0,hq]
    have HUP:=Lib.hid (And.intro hup (And.intro hql (show q < m by omega)))
    clear hup hm hlj hq hmq hq1 hq8 hql
    go_wp2_with fail
    refine HUP.out.1.mono ?_
    rintro e w4 ⟨v4,rfl,h4,hb4⟩
    have hb14:=G.out.2.trans (hb4.mono G.out.2.size)
    have hge:=h4.lower (b:=w1.heap.size) G.out.2.size
    obtain ⟨a4,c4,e4⟩:=h4.slice
    rw [show (Wot.up (Wot.lvl j l)).length=q from HUP.out.2.1] at e4
    subst e4
    have H4:=Lib.hid (And.intro hge hb14)
    clear h4 hge hb4 hb14
    go_wp2
    refine ⟨⟨j+1,by omega,H4.out.1,H4.out.2⟩,?_⟩
    have:=HUP.out.2.2
    show q < m
    exact this
  · obtain rfl:h=j:=by omega
    have hm1:m=1:=by rw [hlj,Nat.sub_self]
    have i1:¬ (1:Int) < 1:=by omega
    obtain ⟨g3,c3,e3,hr3⟩:=G.out.1.ex (by omega)
    rw [← hm,hm1] at e3 hr3
    subst e3
    obtain ⟨x,hx⟩:∃ x,(Wot.lvl h l)[0]?=some x:=⟨_,List.getElem?_eq_getElem (by omega)⟩
    have hxr:x=Wot.root h l:=by rw [Wot.root_lvl,List.getD_eq_getElem?_getD,hx];rfl
    have hxl:x.length=32:=hr3.wf x (List.mem_of_getElem? hx)
    have k1:=hr3.read ecH hx
    have k2:zi 32 wr g3 (0*32):=hr3.there (by omega)
    rw [Nat.zero_mul] at k1 k2
    have hb04:=H1.out.1.trans (G.out.2.mono H1.out.1.size)
    have kz:=H1.out.2.1.kept G.out.2
    have hpge:=H1.out.2.2
    have hlen:(Wot.root h l).length=32:=by rw [← hxr];exact hxl
    rw [hxr] at k1
    clear hm hm1 hlj hxr hr3 hx hxl
    obtain ⟨hq1,hq2,hq3⟩:=zAP (p:=p2) (h:=Wot.root h l) hlen kz
    obtain ⟨co,hco⟩:∃ q,q=bV (Wot.root h l):=⟨_,rfl⟩
    rw [← hco] at hq2 hq3 k1
    try rw [← hco]
    have hcol:co.length=32:=hq2.1
    have HLD:=Lib.hid hq3
    have HM:=Lib.hid (And.intro hco (zAI co hb04 hpge))
    clear hco hq3
    go_wp2_with fail
    refine bodyPost_ret (v:=.agg co.toArray) (by simp [results,Tryz.results33,asAddr,HLD.out]) rfl ⟨by rw [HM.out.1],HM.out.2⟩
set_option maxRecDepth 20000 in
set_option maxHeartbeats 4000000 in
theorem zGc (sd:List UInt8) (h:Nat) (w:World) (hT:Tab w) (hs:sd.length=16) (hh:h≤4) :
  Calls Tryz.prog 8 #[.agg (bV sd).toArray,.int .i64 h] w fun e w'=>e=.returned (.agg (bV (Wot.print sd h)).toArray)∧Below w.heap.size w w':=by
 have HT:=Lib.hid hT
 clear hT
 have hlv:=fun w1 (hb:Below w.heap.size w w1)=>zDH sd h w1 (HT.out.below hb) hs hh
 obtain ⟨cs,hcs⟩:∃ c,c=bV sd:=⟨_,rfl⟩
 have hcl:cs.length=16:=by rw [hcs,zG];exact hs
 rw [← hcs] at hlv ⊢
 have HLV:=Lib.hid hlv
 clear hcs hlv
 go_enter Tryz.func8,Tryz.ntmps8
 go_upto_region 1 with fail
 obtain ⟨w1,hw1⟩:∃ q,q=(w.alloc (.cells cs.toArray 23)).alloc (.cells #[Value.int IntKind.u8 0,.int .u8 0,.int .u8 0,.int .u8 0,.int .u8 0,.int .u8 0,.int .u8 0,.int .u8 0,.int .u8 0,.int .u8 0,.int .u8 0,.int .u8 0,.int .u8 0,.int .u8 0,.int .u8 0,.int .u8 0,.int .u8 0,.int .u8 0,.int .u8 0,.int .u8 0,.int .u8 0,.int .u8 0,.int .u8 0,.int .u8 0,.int .u8 0,.int .u8 0,.int .u8 0,.int .u8 0,.int .u8 0,.int .u8 0,.int .u8 0,.int .u8 0] 34):=⟨_,rfl⟩
 obtain ⟨p1,hp1⟩:∃ q,q=w.heap.size:=⟨_,rfl⟩
 obtain ⟨p2,hp2⟩:∃ q,q=w.heap.size+1:=⟨_,rfl⟩
 have hb1:Below w.heap.size w w1:=by rw [hw1];exact ((Below.refl _ _).alloc (Nat.le_refl _) _).alloc (by simp) _
 have hk1:Blk w1 p1 cs.toArray 23:=by rw [hw1,hp1];exact (Blk.new _ _ _).alloc _
 have hk2:Blk w1 p2 zH 34:=by rw [hw1,hp2];exact Blk.new_at _ _ _ _ (by simp)
 rw [← hw1,← hp2,← hp1]
 have H1:=Lib.hid (And.intro hb1 (And.intro hk2 (And.intro (show w.heap.size≤p2 by omega) (And.intro (show p1≠p2 by omega) (show w.heap.size≤p1 by omega)))))
 have HK:=Lib.hid hk1
 have hpge:=H1.out.2.2.1
 clear hw1 hp1 hp2 hb1 hk1 hk2
 have hs01:=H1.out.1.size
 have k1:zh 16 w1 p1 0=cs:=zn HK.out hcl (fun k _=>by simp)
 have k2:zi 16 w1 p1 0:=zQ HK.out (by simp [hcl])
 go_wp2_with fail
 refine (HLV.out w1 H1.out.1).mono ?_
 rintro e w2 ⟨lv,rfl,hlv,hb2⟩
 have hl0:=Wot.leaves_len sd (2 ^ h)
 have hw0:=zDi sd (2 ^ h)
 have hp0:Wot.print sd h=Wot.tagged Wot.tPrint [Cod.be 1 h,Wot.root h (Wot.leaves sd (2 ^ h))]:=rfl
 obtain ⟨ls,hls⟩:∃ ls,ls=Wot.leaves sd (2 ^ h):=⟨_,rfl⟩
 rw [← hls] at hl0 hw0 hp0 hlv
 have HL:=Lib.hid (And.intro hl0 (And.intro hw0 hp0))
 have hb02:=H1.out.1.trans (hb2.mono hs01)
 have hrt:=zHf lv _ _ h w2 (HT.out.below hb02) hlv hl0 hh
 obtain ⟨la,lc,rfl⟩:=hlv.slice
 obtain ⟨ln,hln⟩:∃ ln,ln=ls.length:=⟨_,rfl⟩
 rw [← hln] at hrt ⊢
 obtain ⟨r,hr⟩:∃ r,r=Wot.root h ls:=⟨_,rfl⟩
 rw [← hr] at hrt
 have hrl:r.length=32:=by rw [hr];exact zFS h ls hl0 hw0
 have HR:=Lib.hid hr
 have HRT:=Lib.hid (And.intro hrt hb2)
 clear hlv hrt hb2 hb02 k1 k2 hl0 hw0 hp0 hls hln hr
 go_wp2_with fail
 refine HRT.out.1.mono ?_
 rintro e w3 ⟨rfl,hb3⟩
 have hb13:=HRT.out.2.trans (hb3.mono HRT.out.2.size)
 have HB3:=Lib.hid hb13
 clear hb13
 go_wp2_with fail
 refine (zE1 h r w3 (HT.out.below (H1.out.1.trans (HB3.out.mono hs01))) hh hrl).mono ?_
 rintro e w4 ⟨v4,rfl,h4,hb4⟩
 have H4:=Lib.hid (And.intro h4 (HB3.out.trans (hb4.mono HB3.out.size)))
 have hln:(Wot.text Wot.tPrint [Cod.be 1 h,r]).length≤1000000:=by
  unfold Wot.text
  rw [List.length_append]
  have h1:(Cod.net Wot.tPrint).length≤100:=by
   rw [Cod.zAL,show Wot.tPrint.length=5 from rfl,Lib.nDigits_small (by decide)]
   decide
  have h2:=zBR [Cod.be 1 h,r] (fun x hx=>by
   simp only [List.mem_cons,List.not_mem_nil,or_false] at hx
   rcases hx with rfl | rfl
   · rw [Cod.zt];decide
   · omega) (show 2≤100 by decide)
  omega
 clear h4 hb4
 go_wp2_with fail
 refine (zBI v4 _ w4 H4.out.1.bys hln).mono ?_
 rintro e w5 ⟨rfl,hb5⟩
 have hpq:Sha.sum (Wot.text Wot.tPrint [Cod.be 1 h,r])=Wot.print sd h:=by
  rw [HL.out.2.2,← HR.out]
  rfl
 rw [hpq]
 have hb15:Below w1.heap.size w1 w5:=H4.out.2.trans (hb5.mono H4.out.2.size)
 have hb05:=H1.out.1.trans (hb15.mono hs01)
 have kz:=H1.out.2.1.kept hb15
 have hlen:(Wot.print sd h).length=32:=Wot.tagged_len _ _
 obtain ⟨hq1,hq2,hq3⟩:=zAP (p:=p2) (h:=Wot.print sd h) hlen kz
 obtain ⟨co,hco⟩:∃ q,q=bV (Wot.print sd h):=⟨_,rfl⟩
 rw [← hco] at hq2 hq3
 try rw [← hco]
 have hcol:co.length=32:=hq2.1
 have HLD:=Lib.hid hq3
 have HM:=Lib.hid (And.intro hco (zAI co hb05 hpge))
 clear hco hq3
 go_wp2_with fail
 refine bodyPost_ret (v:=.agg co.toArray) (by simp [results,Tryz.results8,asAddr,HLD.out]) rfl ⟨by rw [HM.out.1],HM.out.2⟩
end Go.Proofs.YtdlkghdfkjdajaaGreatDoor
end
section
namespace Go.Mem
open Go Go.RowKit Gf
def zHC (n:Nat) (w:World) (g o:Nat):Prop:=∀ j,j < n→(w.cell? ⟨g,o+j,none⟩).isSome=true
theorem zLa {n:Nat} {w:World} {g o:Nat} {cs:List Value} (h:w.rangeAt g o cs) (hn:cs.length=n):zHC n w g o:=fun j hj=>by
 rw [h j (cs[j]'(by omega)) (List.getElem?_eq_getElem (by omega))];rfl
theorem zH4 {n:Nat} {w:World} {g o:Nat} (h:zHC n w g o):w.rangeAt g o (zh n w g o):=fun j v hj=>by
 have hjn:j < n:=by
  rcases Nat.lt_or_ge j n with h | h
  · exact h
  · rw [List.getElem?_eq_none (by rw [zC4];exact h)] at hj;cases hj
 obtain ⟨u,hu⟩:=Option.isSome_iff_exists.1 (h j hjn)
 rw [hu]
 unfold zh at hj
 rw [List.getElem?_map,List.getElem?_range hjn] at hj
 simp only [Option.map_some,hu,Option.getD_some] at hj
 exact hj
theorem zLh {P:Program} {n:Nat} {t:TypeId} {d:TypeDesc} (hu:P.underlying t=some d) (hd:d.isRow=true) (hi:(P.info? t).map (·.size)=some n) (dst:Option Tmp) (x:Operand) (ty:TypeId) (pos:String) (af:Array Edge) (gd:Option (Tmp × Bool)) (a:Act) (w:World) (K:Act→World→Prop) (Q:Exit→Act→World→Prop)
  (hp:zBe (a.eval x)=true) (ht:zHC n w (zAy (a.eval x)) (zAz (a.eval x))) :
  Oper.wp P ⟨dst,.load t x,ty,pos,af,gd⟩ a w K Q=K (a.put dst (.agg (zh n w (zAy (a.eval x)) (zAz (a.eval x))).toArray)) w:=by
 unfold Oper.wp execOp
 have e:=zI7 hp
 have hl:=run_loadVar_mid (P:=P) w (zAy (a.eval x)) (zAz (a.eval x)) t (zh n w (zAy (a.eval x)) (zAz (a.eval x))) d (zH4 ht) hu hd (by rw [hi,zC4])
 simp only
 rw [e]
 simp only [ptrB_eq,ptrO_eq,Instr.loadAt,Instr.sureAddr,Sem.run_bind,Sem.run_pure,Result.andThen_ok,hl]
 rfl
end Go.Mem
end
section
namespace Go.Proofs.YtdlkghdfkjdajaaGreatDoor
open Go Go.RowKit Go.Mem Gf
set_option linter.unusedVariables false
set_option linter.unusedSimpArgs false
structure StoX (w0 w:World) (N X:Nat→Prop) (sb lb d L:Nat) (s:St):Prop where
 st:zO w N sb lb d L s
 bel:Below w0.heap.size w0 w
 far:∀ b,N b→w0.heap.size≤b
 away:∀ b,X b→N b∧¬ zAe sb lb d L b
section
variable {w0 w w':World} {N X:Nat→Prop} {k0 k1 sb lb d L h x0 x1:Nat} {s:St} {n0 n1:ByteArray} {d0 d1:List UInt8}
end
end Go.Proofs.YtdlkghdfkjdajaaGreatDoor
end
section
namespace Go.Proofs.YtdlkghdfkjdajaaGreatDoor
open Go Go.RowKit Go.Mem Gf
set_option linter.unusedVariables false
set_option linter.unusedSimpArgs false
attribute [local go_sem ↓] Go.wp_at_zero Go.wp_at_succ
attribute [local go_sem ↓] zY zU zm zf zBC
attribute [local go_sem] ptrB_eq ptrO_eq ptrIs_eq aggL_eq aggIs_eq zS zV zD zF zJ zK zB
set_option maxRecDepth 20000 in
set_option maxHeartbeats 4000000 in
theorem zE4 (sd:List UInt8) (leaf:Nat) (v:Value) (m:List UInt8) (w:World) (hT:Tab w) (hs:sd.length=16) (h1:leaf≤1000000) (hv:Bys w v m) (hl:m.length≤1000) :
  Calls Tryz.prog 85 #[.agg (bV sd).toArray,.int .i64 leaf,v] w fun e w'=>∃ v',e=.returned v'∧zL bV WfH 32 34 w' w.heap.size v' (Wot.signO sd leaf m)∧Below w.heap.size w w':=by
 have HT:=Lib.hid (And.intro hT hv)
 have hdg:=fun w1 (hb:Below w.heap.size w w1)=>zFi v m w1 (hT.below hb) (hv.below hb) hl
 obtain ⟨va,vc,rfl⟩:=hv.eq_slice
 obtain ⟨mn,hmn⟩:∃ n,n=m.length:=⟨_,rfl⟩
 rw [← hmn] at HT hdg ⊢
 have HDG:=Lib.hid hdg
 clear hT hv hmn hdg
 obtain ⟨cs,hcs⟩:∃ c,c=bV sd:=⟨_,rfl⟩
 have hcl:cs.length=16:=by rw [hcs,zG];exact hs
 have HCS:=Lib.hid hcs
 rw [← hcs]
 clear hcs
 go_enter Tryz.func85,Tryz.ntmps85
 go_upto_region 1 with fail
 obtain ⟨w1,hw1⟩:∃ q,q=w.alloc (.cells cs.toArray 23):=⟨_,rfl⟩
 obtain ⟨p1,hp1⟩:∃ q,q=w.heap.size:=⟨_,rfl⟩
 have hb1:Below w.heap.size w w1:=by rw [hw1];exact (Below.refl _ _).alloc (Nat.le_refl _) _
 have hk1:Blk w1 p1 cs.toArray 23:=by rw [hw1,hp1];exact Blk.new _ _ _
 have hs01:=hb1.size
 rw [← hw1,← hp1]
 have H1:=Lib.hid (And.intro hb1 hk1)
 clear hw1 hp1 hb1 hk1
 go_wp2_with fail
 refine (HDG.out w1 H1.out.1).mono ?_
 rintro e w2 ⟨dv,rfl,hdv,hb2⟩
 obtain ⟨ds,hds⟩:∃ ds,ds=Wot.digits m:=⟨_,rfl⟩
 rw [← hds] at hdv
 have hdl:ds.length=67:=by rw [hds];exact Wot.digits_len m
 obtain ⟨g,cap,rfl,hrow⟩:=hdv.ex (by omega)
 rw [hdl] at hrow ⊢
 have hdle:∀ d∈ds,d≤15:=by rw [hds];exact Wot.digits_le m
 have HD:=Lib.hid (And.intro hds (And.intro hrow (And.intro hdl hdle)))
 have hb02:=H1.out.1.trans (hb2.mono hs01)
 have H2:=Lib.hid (And.intro hb02 (H1.out.2.kept hb2))
 have hs02:=hb02.size
 clear hdv hb2 hds hrow hdl hdle hb02
 go_wp2_with fail
 go_loopw [9,8] (fun vi vo wr=>∃ i:Nat,i≤67∧vi=.int .i64 i∧Hid (zL bV WfH 32 34 wr w2.heap.size vo (zFc sd leaf ds i)∧Below w2.heap.size w2 wr)) (fun vi _ _=>67 - (intOf vi).toNat)
 case atStart=>exact ⟨0,by omega,rfl,zL.nil _ _ _ _ _ _,Below.refl _ _⟩
 case round =>
  obtain ⟨i,hi,rfl,G⟩:=hrel
  by_cases h0:i < 67
  · have i0:(0:Int)≤(i:Int):=by omega
    have i1:(i:Int) < 67:=by omega
    obtain ⟨d,hd⟩:∃ d,ds[i]?=some d:=⟨_,List.getElem?_eq_getElem (by have:=HD.out.2.2.1;omega)⟩
    have hdb:d≤15:=HD.out.2.2.2 d (List.mem_of_getElem? hd)
    have hrw:=HD.out.2.1.chg (S:=fun _=>False) (Chg.of_below G.out.2) id
    have cd:∀ w',Below wr.heap.size wr w'→w'.cell? ⟨g,i,none⟩=some (.int .i64 d):=fun w' hb=>by
     have:=(hrw.chg (S:=fun _=>False) (Chg.of_below hb) id).cell (j:=i) (by omega)
     rw [this]
     have h2:=zCC ecN ds (fun _ _=>trivial) i d hd 0 (by decide)
     rw [Nat.mul_one,Nat.add_zero] at h2
     rw [h2]
     rfl
    have hbw:=H2.out.1.trans (G.out.2.mono hs02)
    have hst:=fun w' (hb:Below wr.heap.size wr w')=>zDg sd leaf i w' (HT.out.1.below (hbw.trans (hb.mono hbw.size))) hs h1 (by omega)
    have hal:=fun w' (hb:Below wr.heap.size wr w')=>zDe (Wot.start sd leaf i) d w' (HT.out.1.below (hbw.trans (hb.mono hbw.size))) (Wot.start_len _ _ _) hdb
    obtain ⟨cst,hcst⟩:∃ c,c=bV (Wot.start sd leaf i):=⟨_,rfl⟩
    have cstl:cst.length=32:=by rw [hcst,zG];exact Wot.start_len _ _ _
    obtain ⟨nd,hndd⟩:∃ nd,nd=Wot.along (Wot.start sd leaf i) d:=⟨_,rfl⟩
    obtain ⟨co,hco⟩:∃ c,c=bV nd:=⟨_,rfl⟩
    rw [← HCS.out,← hcst] at hst
    rw [← hcst,← hndd,← hco] at hal
    have hndl:nd.length=32:=by rw [hndd];exact Wot.along_len (Wot.start_len _ _ _) d
    have hcol2:co.length=32:=by rw [hco,zG];exact hndl
    have hca2:zAS 32 co:=⟨hcol2,fun v hv=>by rw [hco] at hv;exact zAQ _ v hv⟩
    have HX:=Lib.hid (And.intro (H2.out.2.kept G.out.2) (And.intro cd (And.intro hst hal)))
    have HCO:=Lib.hid hco
    have HND:=Lib.hid (And.intro hndd (And.intro hndl hd))
    clear hcst hst hal hrw hco hndd hndl hd cd hdb hbw
    go_upto_region 6 with fail
    refine Tail.zT 11 (fun k=>k == 4 || k == 9 || k == 10) (fun k=>if k=4 then some (.agg cst.toArray) else if k=9 then some (.agg co.toArray) else none)
     (fun D z w'=>Below wr.heap.size wr w'∧(D 10=true→∃ mb,z 10=.slice (some ⟨mb,0,none⟩) 1 1∧Blk w' mb (bV nd).toArray 34))
     (by kernel_rfl) (by kernel_rfl) (fun k hk=>by simp at hk;omega) (fun D z z' w' hz h=>⟨h.1,fun d=>by rw [← hz 10 d];exact h.2 d⟩)
     (⟨(Below.refl _ _).drew,(fun h=>by cases h)⟩) (fun z=>?_)
    simp only [List.take_succ_cons,List.take_zero,List.drop_succ_cons,List.drop_zero]
    refine Tail.zI (by rfl) (by rfl) ?_
    apply Exists.intro
    refine ⟨fun w=>?_,?_⟩
    · go_simp <;> with_reducible rfl
    simp only [Act.put,List.setIfInBounds_toArray,List.set_cons_zero,List.set_cons_succ,Nat.reduceAdd,Nat.reduceEqDiff,reduceIte,Option.getD_some,Option.getD_none]
    refine Tail.zBc (by rfl) (by rfl) _ _ rfl p1 0 (by rfl) cs (fun D w' _ _ hJ=>zC0 (HX.out.1.kept hJ.1)) Tryz.underlying23 rfl (by rw [hcl];exact zIt) ?_
    simp only [Act.put,List.setIfInBounds_toArray,List.set_cons_zero,List.set_cons_succ,Nat.reduceAdd,Nat.reduceEqDiff,reduceIte,Option.getD_some,Option.getD_none]
    refine Tail.zI (by rfl) (by rfl) ?_
    apply Exists.intro
    refine ⟨fun w=>?_,?_⟩
    · go_simp <;> with_reducible rfl
    simp only [Act.put,List.setIfInBounds_toArray,List.set_cons_zero,List.set_cons_succ,Nat.reduceAdd,Nat.reduceEqDiff,reduceIte,Option.getD_some,Option.getD_none]
    refine Tail.zI (by rfl) (by rfl) ?_
    apply Exists.intro
    refine ⟨fun w=>?_,?_⟩
    · go_simp <;> with_reducible rfl
    simp only [Act.put,List.setIfInBounds_toArray,List.set_cons_zero,List.set_cons_succ,Nat.reduceAdd,Nat.reduceEqDiff,reduceIte,Option.getD_some,Option.getD_none]
    refine Tail.zAT (by rfl) (by rfl) ?_ ?_
    · apply Exists.intro
      apply Exists.intro
      refine ⟨fun w'=>?_,?_⟩
      · go_simp <;> exact ⟨rfl,rfl⟩
      intro D z' w' hD hz hd hp hJ
      have h10:D 10=false:=hp 10 (by kernel_rfl)
      refine (HX.out.2.2.1 w' hJ.1).mono ?_
      rintro e w'' ⟨rfl,hb⟩
      refine ⟨_,rfl,fun c hc=>by simp at hc;rw [← hc],hJ.1.trans (hb.mono hJ.1.size),fun h=>?_⟩
      simp [Tail.zAp,h10] at h
    simp only [Act.put,List.setIfInBounds_toArray,List.set_cons_zero,List.set_cons_succ,Nat.reduceAdd,Nat.reduceEqDiff,reduceIte,Option.getD_some,Option.getD_none]
    refine Tail.zI (by rfl) (by rfl) ?_
    apply Exists.intro
    refine ⟨fun w=>?_,?_⟩
    · go_simp <;> with_reducible rfl
    simp only [Act.put,List.setIfInBounds_toArray,List.set_cons_zero,List.set_cons_succ,Nat.reduceAdd,Nat.reduceEqDiff,reduceIte,Option.getD_some,Option.getD_none]
    refine Tail.zI (by rfl) (by rfl) ?_
    apply Exists.intro
    refine ⟨fun w=>?_,?_⟩
    · go_simp <;> with_reducible rfl
    simp only [Act.put,List.setIfInBounds_toArray,List.set_cons_zero,List.set_cons_succ,Nat.reduceAdd,Nat.reduceEqDiff,reduceIte,Option.getD_some,Option.getD_none]
    refine Tail.zI (by rfl) (by rfl) ?_
    apply Exists.intro
    refine ⟨fun w=>?_,?_⟩
    · go_simp <;> with_reducible rfl
    simp only [Act.put,List.setIfInBounds_toArray,List.set_cons_zero,List.set_cons_succ,Nat.reduceAdd,Nat.reduceEqDiff,reduceIte,Option.getD_some,Option.getD_none]
    refine Tail.zA0 (by rfl) (by rfl) ?_
    apply Exists.intro
    refine ⟨fun D w' hd hp hJ=>?_,?_⟩
    · have cc:=HX.out.2.1 w' hJ.1
      go_simp <;> with_reducible rfl
    simp only [Act.put,List.setIfInBounds_toArray,List.set_cons_zero,List.set_cons_succ,Nat.reduceAdd,Nat.reduceEqDiff,reduceIte,Option.getD_some,Option.getD_none]
    refine Tail.zAT (by rfl) (by rfl) ?_ ?_
    · apply Exists.intro
      apply Exists.intro
      refine ⟨fun w'=>?_,?_⟩
      · go_simp <;> exact ⟨rfl,rfl⟩
      intro D z' w' hD hz hd hp hJ
      have h10:D 10=false:=hp 10 (by kernel_rfl)
      refine (HX.out.2.2.2 w' hJ.1).mono ?_
      rintro e w'' ⟨rfl,hb⟩
      refine ⟨_,rfl,fun c hc=>by simp at hc;rw [← hc],hJ.1.trans (hb.mono hJ.1.size),fun h=>?_⟩
      simp [Tail.zAp,h10] at h
    simp only [Act.put,List.setIfInBounds_toArray,List.set_cons_zero,List.set_cons_succ,Nat.reduceAdd,Nat.reduceEqDiff,reduceIte,Option.getD_some,Option.getD_none]
    refine Tail.zFt (by rfl) (by rfl) (fun D z' w' hD hz hd hp hJ=>?_) ?_
    · refine ⟨_,_,zEG Tryz.underlying46 (n:=32) (by kernel_rfl) (by decide) (by decide) w' _ rfl co (by rfl) hca2,fun c hc=>by simp at hc,hJ.1.alloc hJ.1.size _,fun _=>⟨w'.heap.size,by simp [Tail.zAb],?_⟩⟩
      rw [← HCO.out]
      exact Blk.new _ _ _
    simp only [Act.put,List.setIfInBounds_toArray,List.set_cons_zero,List.set_cons_succ,Nat.reduceAdd,Nat.reduceEqDiff,reduceIte,Option.getD_some,Option.getD_none]
    intro w5 hJ
    have hb5:=hJ.1
    obtain ⟨mb,hz10,hkm⟩:=hJ.2 rfl
    rw [hz10]
    clear hJ hz10 z
    have hbo5:=G.out.2.trans (hb5.mono G.out.2.size)
    have hso5:=hbo5.size
    have H5:=Lib.hid (And.intro hkm (And.intro (G.out.1.chg (S:=fun _=>False) (Chg.of_below hb5) (fun _ _=>id)) hbo5))
    clear hkm hb5 hbo5
    go_wp2_with (at_builtin;refine zAZ EKh ecH rfl _ _ rfl (base:=w2.heap.size) nd HND.out.2.1 rfl rfl H5.out.1 H5.out.2.1 ?d1 (by decide) ?d2 ?_)
    case d1=>rw [zIS];omega
    case d2=>omega
    intro v6 w6 h6 hg6 hx6
    have hb6:=zN H5.out.2.2 hg6 (fun k hk=>H5.out.2.1.ge hk)
    have H6:=Lib.hid (And.intro h6 hb6)
    clear h6 hb6 hg6 hx6
    go_wp2
    refine ⟨⟨i+1,by omega,by go_num,?_,H6.out.2⟩,by simp [intOf];omega⟩
    rw [zGP,List.getD_eq_getElem?_getD,HND.out.2.2,Option.getD_some,← HND.out.1]
    exact H6.out.1
  · have i1:¬ (i:Int) < 67:=by omega
    obtain rfl:i=67:=by omega
    go_wp2_with fail
    go_ret
    refine ⟨_,rfl,?_,H2.out.1.trans (G.out.2.mono hs02)⟩
    have e:Wot.signO sd leaf m=zFc sd leaf ds 67:=by
     unfold Wot.signO Wot.vals zFc
     rw [← HD.out.1,HD.out.2.2.1]
    rw [e]
    exact G.out.1.lower hs02
set_option maxRecDepth 20000 in
set_option maxHeartbeats 4000000 in
theorem zGd (v:Value) (l:List (List UInt8)) (base h i:Nat) (w:World) (hT:Tab w) (hv:zL bV WfH 32 34 w base v l) (hl:l.length=2 ^ h) (hh:h≤4) (hi:i < 2 ^ h) :
  Calls Tryz.prog 86 #[.int .i64 i,v] w fun e w'=>∃ v',e=.returned v'∧zL bV WfH 32 34 w' w.heap.size v' (Wot.proof h i l)∧Below w.heap.size w w':=by
 have hr:=zE3 v l base h w hT hv hl hh
 have h16:(2:Nat) ^ h≤16:=Nat.pow_le_pow_right (by decide) hh
 have hib:i < 16:=by omega
 obtain ⟨va,vc,rfl⟩:=hv.slice
 obtain ⟨n,hn⟩:∃ n,n=l.length:=⟨_,rfl⟩
 rw [← hn] at hr ⊢
 have hll:=fun j (hj:j≤h)=>Wot.lvl_len hl j hj
 have H:=Lib.hid (And.intro hT (And.intro hr (And.intro hll hi)))
 clear hT hr hll hn hv hl hi h16
 go_enter Tryz.func86,Tryz.ntmps86
 go_wp2_with fail
 refine H.out.2.1.mono ?_
 rintro e w2 ⟨v2,rfl,h2,hb2⟩
 have H2:=Lib.hid (And.intro h2 hb2)
 clear h2 hb2
 go_wp2_with fail
 go_loopw [6,5,0] (fun vr vo v0 wr=>∃ j:Nat,j≤h∧v0=.int .i64 ((i / 2 ^ j:Nat):Int)∧Hid (zL bV WfH 32 34 wr w.heap.size vr (Wot.lvl j l)∧zL bV WfH 32 34 wr w.heap.size vo (zI6 l i j)∧(∀ q,vr.ownBlock=some q→vo.ownBlock≠some q)∧Below w.heap.size w wr)) (fun vr _ _ _=>zJn vr)
 case atStart=>exact ⟨0,Nat.zero_le _,by rw [Nat.pow_zero,Nat.div_one],H2.out.1,zL.nil _ _ _ _ _ _,fun q _ e=>by simp [Value.ownBlock] at e,H2.out.2⟩
 case round =>
  obtain ⟨j,hj,rfl,G⟩:=hrel
  have hlj:=H.out.2.2.1 j hj
  obtain ⟨m,hm⟩:∃ m,m=(Wot.lvl j l).length:=⟨_,rfl⟩
  rw [← hm] at hlj
  obtain ⟨p,hp⟩:∃ p,p=i / 2 ^ j:=⟨_,rfl⟩
  have hp16:p < 16:=by rw [hp];exact Nat.lt_of_le_of_lt (Nat.div_le_self _ _) hib
  rw [← hp]
  by_cases h0:j < h
  · obtain ⟨q,hq⟩:∃ q,q=2 ^ (h - (j+1)):=⟨_,rfl⟩
    have hmq:m=2*q:=by rw [hlj,hq,show h - j=(h - (j+1))+1 from by omega,Nat.pow_succ,Nat.mul_comm]
    have hq1:1≤q:=by rw [hq];exact Nat.one_le_two_pow
    have hq8:q≤8:=by rw [hq];exact Nat.pow_le_pow_right (n:=2) (by decide) (show h - (j+1)≤3 by omega)
    have i1:(1:Int) < (m:Int):=by omega
    have hpm:p < m:=by
     rw [hlj,hp,Nat.div_lt_iff_lt_mul (Nat.pow_pos (by decide)),← Nat.pow_add,show h - j+j=h from by omega]
     exact H.out.2.2.2
    have ht:Wot.twin p < m:=by unfold Wot.twin;split <;> omega
    have htb:=zGN p (by omega)
    obtain ⟨t,hq'⟩:∃ q,q=Wot.twin p:=⟨_,rfl⟩
    rw [← hq'] at ht htb
    have tq0:(0:Int)≤(t:Int):=by omega
    have tq1:(t:Int) < (m:Int):=by omega
    obtain ⟨g3,c3,e3,hr3⟩:=G.out.1.ex (by omega)
    rw [← hm] at e3 hr3
    have hup:=fun w1 (hb:zL bV WfH 32 34 w1 w.heap.size u6 (Wot.lvl j l)) (hT1:Tab w1)=>zF2 u6 (Wot.lvl j l) w.heap.size q w1 hT1 hb (by rw [← hm];exact hmq) hq1 hq8
    obtain ⟨x,hx⟩:∃ x,(Wot.lvl j l)[t]?=some x:=⟨_,List.getElem?_eq_getElem (by omega)⟩
    have hxl:x.length=32:=hr3.wf x (List.mem_of_getElem? hx)
    obtain ⟨cx,hcx⟩:∃ c,c=bV x:=⟨_,rfl⟩
    have k1:=hr3.read ecH hx
    have k2:zi 32 wr g3 (t*32):=hr3.there ht
    rw [← hcx] at k1
    have hcl:cx.length=32:=by rw [hcx,zG];exact hxl
    have hca:zAS 32 cx:=⟨hcl,fun v hv=>by rw [hcx] at hv;exact zAQ _ v hv⟩
    obtain ⟨ph,hph⟩:∃ x,x=p / 2:=⟨_,rfl⟩
    have hd2:(p:Int).tdiv 2=(ph:Int):=by rw [Int.tdiv_eq_ediv_of_nonneg (by omega)];omega
    have q2:IntKind.i64.wrap (ph:Int)=(ph:Int):=IntWalk.i64_in _ (by omega)
    have hql:(Wot.lvl (j+1) l).length=q:=by rw [H.out.2.2.1 (j+1) h0,hq]
    have HPH:=Lib.hid (And.intro hph (And.intro hql (show q < m by omega)))
    have HX:=Lib.hid (And.intro hx (And.intro hcx (And.intro hq' (And.intro hp hxl))))
    have HUP:=Lib.hid hup
    have hsw:=G.out.2.2.2.size
    have HS:=Lib.hid G.out
    subst e3
    clear hx hcx hq hp hr3 hlj hm hmq hpm hq' hph hql hup hq1 hq8 G
    go_wp2_with (at_builtin;refine zAZ EKh ecH rfl _ _ rfl (base:=w.heap.size) x HX.out.2.2.2.2 rfl rfl (by rw [← HX.out.2.1];exact Blk.new _ _ _) (HS.out.2.1.chg (S:=fun _=>False) (Chg.of_below ((Below.refl _ _).alloc (Nat.le_refl _) _)) (fun _ _=>id)) ?d1 (by decide) ?d2 ?_)
    case d1=>rw [zHy];omega
    case d2=>simp;omega
    intro v5 w5 h5 hg5 hx5
    have hba:Below wr.heap.size wr (wr.alloc (.cells cx.toArray 34)):=(Below.refl _ _).alloc (Nat.le_refl _) _
    have hb5:=zN (HS.out.2.2.2.alloc hsw _) hg5 (fun k hk=>HS.out.2.1.ge hk)
    have hr5:=(HS.out.1.chg (S:=fun _=>False) (Chg.of_below hba) (fun _ _=>id)).grown hg5 (fun g hg=>HS.out.2.2.1 g hg)
    have H5:=Lib.hid (And.intro h5 (And.intro hb5 hr5))
    clear h5 hb5 hg5 hx5 hba hr5 k1 k2
    go_wp2_with fail
    refine (HUP.out w5 H5.out.2.2 (H.out.1.below H5.out.2.1)).mono ?_
    rintro e w7 ⟨v7,rfl,h7,hb7⟩
    have h5lt:∀ g,v5.ownBlock=some g→g < w5.heap.size:=fun g hg=>by
     rcases H5.out.1.own.2 with ⟨e,_⟩ | ⟨g',c',r',e,_,hh,_⟩
     · rw [e] at hg;cases hg
     · rw [e] at hg
       have:g'=g:=by simpa [Value.ownBlock] using hg
       rw [← this]
       exact lt_of_block hh
    have hap:∀ q,v7.ownBlock=some q→v5.ownBlock≠some q:=fun q hq e=>by
     have a1:=h7.ge hq
     have a2:=h5lt q e
     omega
    have hge:=h7.lower (b:=w.heap.size) H5.out.2.1.size
    obtain ⟨a4,c4,e4⟩:=h7.slice
    rw [show (Wot.up (Wot.lvl j l)).length=q from HPH.out.2.1] at e4
    subst e4
    have H7:=Lib.hid (And.intro hge (And.intro (H5.out.1.chg (S:=fun _=>False) (Chg.of_below hb7) (fun _ _=>id)) (And.intro hap (H5.out.2.1.trans (hb7.mono H5.out.2.1.size)))))
    clear h7 hge hb7 hap h5lt
    go_wp2
    refine ⟨⟨j+1,by omega,?_,H7.out.1,?_,H7.out.2.2.1,H7.out.2.2.2⟩,?_⟩
    · rw [HPH.out.1,HX.out.2.2.2.1,Nat.pow_succ,Nat.div_div_eq_div_mul]
    · rw [zGE,← HX.out.2.2.2.1,← HX.out.2.2.1,List.getD_eq_getElem?_getD,HX.out.1,Option.getD_some]
      exact H7.out.2.1
    · have:=HPH.out.2.2
      show q < m
      exact this
  · obtain rfl:h=j:=by omega
    have hm1:m=1:=by rw [hlj,Nat.sub_self]
    have i1:¬ (1:Int) < 1:=by omega
    obtain ⟨a3,c3,e3⟩:=G.out.1.slice
    rw [← hm,hm1] at e3
    subst e3
    have HG:=Lib.hid G.out
    clear hm hm1 hlj hp G
    go_wp2_with fail
    go_ret
    refine ⟨_,rfl,?_,HG.out.2.2.2⟩
    rw [Wot.proof_lvl]
    exact HG.out.2.1
set_option maxRecDepth 20000 in
set_option maxHeartbeats 4000000 in
theorem zHg (sd:List UInt8) (h leaf:Nat) (v:Value) (m:List UInt8) (w:World) (hT:Tab w) (hs:sd.length=16) (hh:h≤4) (hlf:leaf < 2 ^ h) (hv:Bys w v m) (hm:m.length≤1000) :
  Calls Tryz.prog 50 #[.agg (bV sd).toArray,.int .i64 h,.int .i64 leaf,v] w fun e w'=>∃ vv pv,e=.returned (.agg #[.int .i64 h,.int .i64 leaf,vv,pv])∧zL bV WfH 32 34 w' w.heap.size vv (Wot.signO sd leaf m)∧zL bV WfH 32 34 w' w.heap.size pv (Wot.proof h leaf (Wot.leaves sd (2 ^ h)))∧Below w.heap.size w w':=by
 have h16:(2:Nat) ^ h≤16:=Nat.pow_le_pow_right (by decide) hh
 obtain ⟨cs,hcs⟩:∃ c,c=bV sd:=⟨_,rfl⟩
 have hcl:cs.length=16:=by rw [hcs,zG];exact hs
 have HT:=Lib.hid (And.intro hT hv)
 obtain ⟨va,vc,rfl⟩:=hv.eq_slice
 obtain ⟨mn,hmn⟩:∃ n,n=m.length:=⟨_,rfl⟩
 rw [← hmn] at HT ⊢
 rw [← hcs]
 have HCS:=Lib.hid hcs
 have hlb:leaf≤1000000:=by omega
 clear hT hv hcs hmn h16
 go_enter Tryz.func50,Tryz.ntmps50
 go_upto_region 1 with fail
 obtain ⟨w1,hw1⟩:∃ q,q=(w.alloc (.cells cs.toArray 23)).alloc (.cells #[.int .i64 0,.int .i64 0,.slice none 0 0,.slice none 0 0] 48):=⟨_,rfl⟩
 obtain ⟨p1,hp1⟩:∃ q,q=w.heap.size:=⟨_,rfl⟩
 obtain ⟨p2,hp2⟩:∃ q,q=w.heap.size+1:=⟨_,rfl⟩
 have hb1:Below w.heap.size w w1:=by rw [hw1];exact ((Below.refl _ _).alloc (Nat.le_refl _) _).alloc (by simp) _
 have hk1:Blk w1 p1 cs.toArray 23:=by rw [hw1,hp1];exact (Blk.new _ _ _).alloc _
 have hk2:Blk w1 p2 #[.int .i64 0,.int .i64 0,.slice none 0 0,.slice none 0 0] 48:=by rw [hw1,hp2];exact Blk.new_at _ _ _ _ (by simp)
 have hs01:=hb1.size
 have hpge:w.heap.size≤p2:=by omega
 rw [← hw1,← hp2,← hp1]
 have hp2lt:p2 < w1.heap.size:=Blk.lt hk2
 have H1:=Lib.hid (And.intro hb1 (And.intro hk1 hk2))
 have hC:(∀ w',Below w1.heap.size w1 w'→Calls Tryz.prog 85 #[.agg cs.toArray,.int .i64 leaf,.slice va mn vc] w' fun e w''=>∃ v',e=.returned v'∧zL bV WfH 32 34 w'' w'.heap.size v' (Wot.signO sd leaf m)∧Below w'.heap.size w' w'') ∧
   (∀ w',Below w1.heap.size w1 w'→Calls Tryz.prog 34 #[.agg cs.toArray,.int .i64 h] w' fun e w''=>∃ v',e=.returned v'∧zL bV WfH 32 34 w'' w'.heap.size v' (Wot.leaves sd (2 ^ h))∧Below w'.heap.size w' w'') ∧
   (∀ w' v,Below w1.heap.size w1 w'→zL bV WfH 32 34 w' w1.heap.size v (Wot.leaves sd (2 ^ h))→Calls Tryz.prog 86 #[.int .i64 leaf,v] w' fun e w''=>∃ v',e=.returned v'∧zL bV WfH 32 34 w'' w'.heap.size v' (Wot.proof h leaf (Wot.leaves sd (2 ^ h)))∧Below w'.heap.size w' w''):=by
  rw [HCS.out]
  exact ⟨fun w' hb=>zE4 sd leaf _ m w' (HT.out.1.below (hb1.trans (hb.mono hs01))) hs hlb (HT.out.2.below (hb1.trans (hb.mono hs01))) hm,
   fun w' hb=>zDH sd h w' (HT.out.1.below (hb1.trans (hb.mono hs01))) hs hh,
   fun w' v hb hv=>zGd v _ _ h leaf w' (HT.out.1.below (hb1.trans (hb.mono hs01))) hv (Wot.leaves_len _ _) hh hlf⟩
 have HC:=Lib.hid hC
 clear hw1 hp1 hp2 hb1 hk1 hk2 hC
 refine Tail.zT 11 (fun k=>k == 5 || k == 9 || k == 10) (fun k=>none)
  (fun D z w'=>Below w1.heap.size w1 w'∧(D 5=true→zL bV WfH 32 34 w' w1.heap.size (z 5) (Wot.signO sd leaf m))∧(D 9=true→zL bV WfH 32 34 w' w1.heap.size (z 9) (Wot.leaves sd (2 ^ h)))∧(D 10=true→zL bV WfH 32 34 w' w1.heap.size (z 10) (Wot.proof h leaf (Wot.leaves sd (2 ^ h)))))
  (by kernel_rfl) (by kernel_rfl) (fun k hk=>by simp at hk;omega) (fun D z z' w' hz h=>⟨h.1,fun d=>by rw [← hz 5 d];exact h.2.1 d,fun d=>by rw [← hz 9 d];exact h.2.2.1 d,fun d=>by rw [← hz 10 d];exact h.2.2.2 d⟩)
  (⟨(Below.refl _ _).drew,(fun h=>by cases h),(fun h=>by cases h),(fun h=>by cases h)⟩) (fun z=>?_)
 simp only [List.take_succ_cons,List.take_zero,List.drop_succ_cons,List.drop_zero]
 refine Tail.zI (by rfl) (by rfl) ?_
 apply Exists.intro
 refine ⟨fun w=>?_,?_⟩
 · go_simp <;> with_reducible rfl
 simp only [Act.put,List.setIfInBounds_toArray,List.set_cons_zero,List.set_cons_succ,Nat.reduceAdd,Nat.reduceEqDiff,reduceIte,Option.getD_some,Option.getD_none]
 refine Tail.zI (by rfl) (by rfl) ?_
 apply Exists.intro
 refine ⟨fun w=>?_,?_⟩
 · go_simp <;> with_reducible rfl
 simp only [Act.put,List.setIfInBounds_toArray,List.set_cons_zero,List.set_cons_succ,Nat.reduceAdd,Nat.reduceEqDiff,reduceIte,Option.getD_some,Option.getD_none]
 refine Tail.zBc (by rfl) (by rfl) _ _ rfl p1 0 (by rfl) cs (fun D w' _ _ hJ=>zC0 (H1.out.2.1.kept hJ.1)) Tryz.underlying23 rfl (by rw [hcl];exact zIt) ?_
 simp only [Act.put,List.setIfInBounds_toArray,List.set_cons_zero,List.set_cons_succ,Nat.reduceAdd,Nat.reduceEqDiff,reduceIte,Option.getD_some,Option.getD_none]
 refine Tail.zI (by rfl) (by rfl) ?_
 apply Exists.intro
 refine ⟨fun w=>?_,?_⟩
 · go_simp <;> with_reducible rfl
 simp only [Act.put,List.setIfInBounds_toArray,List.set_cons_zero,List.set_cons_succ,Nat.reduceAdd,Nat.reduceEqDiff,reduceIte,Option.getD_some,Option.getD_none]
 refine Tail.zI (by rfl) (by rfl) ?_
 apply Exists.intro
 refine ⟨fun w=>?_,?_⟩
 · go_simp <;> with_reducible rfl
 simp only [Act.put,List.setIfInBounds_toArray,List.set_cons_zero,List.set_cons_succ,Nat.reduceAdd,Nat.reduceEqDiff,reduceIte,Option.getD_some,Option.getD_none]
 refine Tail.zAT (by rfl) (by rfl) ?_ ?_
 · apply Exists.intro
   apply Exists.intro
   refine ⟨fun w'=>?_,?_⟩
   · go_simp <;> exact ⟨rfl,rfl⟩
   intro D z' w' hD hz hd hp hJ
   refine (HC.out.1 w' hJ.1).mono ?_
   rintro e w'' ⟨v5,rfl,hv5,hb⟩
   refine ⟨v5,rfl,fun c hc=>by simp at hc,hJ.1.trans (hb.mono hJ.1.size),fun _=>?_,fun h=>?_,fun h=>?_⟩
   · simpa [Tail.zAb] using hv5.lower hJ.1.size
   · have h9:D 9=true:=by simpa [Tail.zAp] using h
     simpa [Tail.zAb] using (hJ.2.2.1 h9).chg (S:=fun _=>False) (Chg.of_below hb) (fun _ _=>id)
   · have h10:D 10=true:=by simpa [Tail.zAp] using h
     simpa [Tail.zAb] using (hJ.2.2.2 h10).chg (S:=fun _=>False) (Chg.of_below hb) (fun _ _=>id)
 simp only [Act.put,List.setIfInBounds_toArray,List.set_cons_zero,List.set_cons_succ,Nat.reduceAdd,Nat.reduceEqDiff,reduceIte,Option.getD_some,Option.getD_none]
 refine Tail.zI (by rfl) (by rfl) ?_
 apply Exists.intro
 refine ⟨fun w=>?_,?_⟩
 · go_simp <;> with_reducible rfl
 simp only [Act.put,List.setIfInBounds_toArray,List.set_cons_zero,List.set_cons_succ,Nat.reduceAdd,Nat.reduceEqDiff,reduceIte,Option.getD_some,Option.getD_none]
 refine Tail.zBc (by rfl) (by rfl) _ _ rfl p1 0 (by rfl) cs (fun D w' _ _ hJ=>zC0 (H1.out.2.1.kept hJ.1)) Tryz.underlying23 rfl (by rw [hcl];exact zIt) ?_
 simp only [Act.put,List.setIfInBounds_toArray,List.set_cons_zero,List.set_cons_succ,Nat.reduceAdd,Nat.reduceEqDiff,reduceIte,Option.getD_some,Option.getD_none]
 refine Tail.zI (by rfl) (by rfl) ?_
 apply Exists.intro
 refine ⟨fun w=>?_,?_⟩
 · go_simp <;> with_reducible rfl
 simp only [Act.put,List.setIfInBounds_toArray,List.set_cons_zero,List.set_cons_succ,Nat.reduceAdd,Nat.reduceEqDiff,reduceIte,Option.getD_some,Option.getD_none]
 refine Tail.zAT (by rfl) (by rfl) ?_ ?_
 · apply Exists.intro
   apply Exists.intro
   refine ⟨fun w'=>?_,?_⟩
   · go_simp <;> exact ⟨rfl,rfl⟩
   intro D z' w' hD hz hd hp hJ
   have h10:D 10=false:=hp 10 (by kernel_rfl)
   refine (HC.out.2.1 w' hJ.1).mono ?_
   rintro e w'' ⟨v9,rfl,hv9,hb⟩
   refine ⟨v9,rfl,fun c hc=>by simp at hc,hJ.1.trans (hb.mono hJ.1.size),fun h=>?_,fun _=>?_,fun h=>?_⟩
   · have h5:D 5=true:=by simpa [Tail.zAp] using h
     simpa [Tail.zAb] using (hJ.2.1 h5).chg (S:=fun _=>False) (Chg.of_below hb) (fun _ _=>id)
   · simpa [Tail.zAb] using hv9.lower hJ.1.size
   · simp [Tail.zAp,h10] at h
 simp only [Act.put,List.setIfInBounds_toArray,List.set_cons_zero,List.set_cons_succ,Nat.reduceAdd,Nat.reduceEqDiff,reduceIte,Option.getD_some,Option.getD_none]
 refine Tail.zAT (by rfl) (by rfl) ?_ ?_
 · apply Exists.intro
   apply Exists.intro
   refine ⟨fun w'=>?_,?_⟩
   · go_simp <;> exact ⟨rfl,rfl⟩
   intro D z' w' hD hz hd hp hJ
   have h9:D 9=true:=hd 9 (by kernel_rfl)
   have hz9:=hJ.2.2.1 h9
   rw [← hz 9 h9] at hz9
   refine (HC.out.2.2 w' (z 9) hJ.1 hz9).mono ?_
   rintro e w'' ⟨v10,rfl,hv10,hb⟩
   refine ⟨v10,rfl,fun c hc=>by simp at hc,hJ.1.trans (hb.mono hJ.1.size),fun h=>?_,fun _=>?_,fun _=>?_⟩
   · have h5:D 5=true:=by simpa [Tail.zAp] using h
     simpa [Tail.zAb] using (hJ.2.1 h5).chg (S:=fun _=>False) (Chg.of_below hb) (fun _ _=>id)
   · simpa [Tail.zAb] using (hJ.2.2.1 h9).chg (S:=fun _=>False) (Chg.of_below hb) (fun _ _=>id)
   · simpa [Tail.zAb] using hv10.lower hJ.1.size
 simp only [Act.put,List.setIfInBounds_toArray,List.set_cons_zero,List.set_cons_succ,Nat.reduceAdd,Nat.reduceEqDiff,reduceIte,Option.getD_some,Option.getD_none]
 intro w4 hJ
 have H4:=Lib.hid (And.intro (hJ.2.1 rfl) (And.intro (hJ.2.2.2 rfl) (And.intro (H1.out.1.trans (hJ.1.mono hs01)) (H1.out.2.2.kept hJ.1))))
 clear hJ
 generalize z 5=sv at H4 ⊢
 generalize z 10=pv at H4 ⊢
 obtain ⟨sa,sc,e4⟩:=H4.out.1.slice
 subst e4
 obtain ⟨sn,hsn⟩:∃ sn,sn=(Wot.signO sd leaf m).length:=⟨_,rfl⟩
 rw [← hsn] at H4 ⊢
 obtain ⟨pa,pc,e5⟩:=H4.out.2.1.slice
 subst e5
 obtain ⟨pn,hpn⟩:∃ sn,sn=(Wot.proof h leaf (Wot.leaves sd (2 ^ h))).length:=⟨_,rfl⟩
 rw [← hpn] at H4 ⊢
 clear hsn hpn
 have q2:zi 4 w4 p2 0:=zQ H4.out.2.2.2 (by decide)
 have hca4:zAS 4 [Value.int .i64 h,.int .i64 leaf,.slice sa sn sc,.slice pa pn pc]:=⟨rfl,fun v hv=>by
  simp only [List.mem_cons,List.not_mem_nil,or_false] at hv
  rcases hv with rfl | rfl | rfl | rfl <;> rfl⟩
 have HLD:=Lib.hid (zAt q2 hca4)
 have hpge2:∀ k,k=p2→w.heap.size≤k:=fun k hk=>by omega
 go_wp2_with fail
 refine bodyPost_ret (v:=.agg #[.int .i64 h,.int .i64 leaf,.slice sa sn sc,.slice pa pn pc]) (by simp [results,Tryz.results50,asAddr,HLD.out]) rfl ?_
 have hch:Chg (fun b=>b=p2) w4 (w4.setCells p2 0 [Value.int .i64 h,.int .i64 leaf,.slice sa sn sc,.slice pa pn pc]):=Chg.setCells (S:=fun b=>b=p2) (L:=p2) rfl _ _ _ (Chg.refl _ _)
 refine ⟨_,_,rfl,(H4.out.1.chg hch (fun g hg e=>by have:=H4.out.1.ge hg;omega)).lower hs01,(H4.out.2.1.chg hch (fun g hg e=>by have:=H4.out.2.1.ge hg;omega)).lower hs01,H4.out.2.2.1.trans (hch.below H4.out.2.2.1.size hpge2)⟩
end Go.Proofs.YtdlkghdfkjdajaaGreatDoor
end
section
namespace Go.Mem
open Go Go.RowKit Gf Go.Proofs.YtdlkghdfkjdajaaGreatDoor
set_option linter.unusedVariables false
structure zR where
 name:ByteArray
 num:Nat
 data:List UInt8
 slot:Nat
structure RP where
 name:ByteArray
 num:Nat
 a:Option Addr
 l:Nat
 c:Nat
 slot:Nat
def eR (p:RP):List Value:=[.string p.name,.int .i64 p.num,.slice p.a p.l p.c,.int .i64 p.slot]
def WfR (_:RP):Prop:=True
theorem ecR:zEa eR WfR 4:=⟨fun _ _=>rfl,fun x u hu=>by
 simp only [eR,List.mem_cons,List.not_mem_nil,or_false] at hu
 rcases hu with rfl | rfl | rfl | rfl <;> rfl,by decide⟩
def RPs (w:World) (N:Nat→Prop) (ps:List RP) (l:List zR):Prop:=∃ q:List (RP × zR),ps=q.map (·.1)∧l=q.map (·.2) ∧
 ∀ z∈q,z.1.name=z.2.name∧z.1.num=z.2.num∧z.1.slot=z.2.slot∧z.1.l=z.2.data.length∧zA1 w N (.slice z.1.a z.1.l z.1.c) z.2.data
section
variable {w w':World} {N S:Nat→Prop} {ps ps':List RP} {l l':List zR}
theorem RPs.nil (w:World) (N:Nat→Prop):RPs w N [] []:=⟨[],rfl,rfl,fun _ h=>by cases h⟩
theorem RPs.len (h:RPs w N ps l):ps.length=l.length:=by
 obtain ⟨q,rfl,rfl,_⟩:=h
 rw [List.length_map,List.length_map]
theorem RPs.chg (h:RPs w N ps l) (hc:Chg S w w') (hs:∀ b,S b→b < w.heap.size→N b):RPs w' N ps l:=by
 obtain ⟨q,h1,h2,h3⟩:=h
 exact ⟨q,h1,h2,fun z hz=>⟨(h3 z hz).1,(h3 z hz).2.1,(h3 z hz).2.2.1,(h3 z hz).2.2.2.1,(h3 z hz).2.2.2.2.chg hc hs⟩⟩
theorem RPs.mono {M:Nat→Prop} (h:RPs w N ps l) (hM:∀ b,M b→N b∨w.heap.size≤b):RPs w M ps l:=by
 obtain ⟨q,h1,h2,h3⟩:=h
 exact ⟨q,h1,h2,fun z hz=>⟨(h3 z hz).1,(h3 z hz).2.1,(h3 z hz).2.2.1,(h3 z hz).2.2.2.1,(h3 z hz).2.2.2.2.mono hM⟩⟩
theorem RPs.app (h:RPs w N ps l) (h':RPs w N ps' l'):RPs w N (ps++ps') (l++l'):=by
 obtain ⟨q,h1,h2,h3⟩:=h
 obtain ⟨q',h1',h2',h3'⟩:=h'
 refine ⟨q++q',by rw [List.map_append,h1,h1'],by rw [List.map_append,h2,h2'],fun z hz=>?_⟩
 rcases List.mem_append.1 hz with hz | hz
 · exact h3 z hz
 · exact h3' z hz
theorem RPs.one {p:RP} {x:zR} (h1:p.name=x.name) (h2:p.num=x.num) (h3:p.slot=x.slot) (h4:p.l=x.data.length) (h5:zA1 w N (.slice p.a p.l p.c) x.data):RPs w N [p] [x] :=
 ⟨[(p,x)],rfl,rfl,fun z hz=>by rw [List.mem_singleton.1 hz];exact ⟨h1,h2,h3,h4,h5⟩⟩
theorem RPs.at (h:RPs w N ps l) {i:Nat} {x:zR} (hx:l[i]?=some x):∃ p,ps[i]?=some p∧p.name=x.name∧p.num=x.num∧p.slot=x.slot∧p.l=x.data.length∧zA1 w N (.slice p.a p.l p.c) x.data:=by
 obtain ⟨q,rfl,rfl,h3⟩:=h
 rw [List.getElem?_map] at hx
 cases hq:q[i]? with
 | none=>rw [hq] at hx;cases hx
 | some z =>
   rw [hq] at hx
   injection hx with hx
   have:=h3 z (List.mem_of_getElem? hq)
   subst hx
   exact ⟨z.1,by rw [List.getElem?_map,hq];rfl,this⟩
end
def zB3 (w:World) (N:Nat→Prop) (v:Value) (ps:List RP):Prop:=∃ a c,v=.slice a ps.length c∧ps.length≤c∧c≤maxLen ∧
 (0 < ps.length→∃ b off,a=some ⟨b,off,none⟩∧b < w.heap.size∧¬ N b∧∀ (i:Nat) (p:RP),ps[i]?=some p→∀ (k:Nat) (x:Value),(eR p)[k]?=some x→w.cell? ⟨b,off+i*4+k,none⟩=some x)
theorem zB3.nil (w:World) (N:Nat→Prop):zB3 w N (.slice none 0 0) []:=⟨none,0,rfl,Nat.le_refl _,Nat.zero_le _,fun h=>by simp at h⟩
theorem zB3.chg {w w':World} {N S:Nat→Prop} {v:Value} {ps:List RP} (h:zB3 w N v ps) (hc:Chg S w w') (hs:∀ b,S b→b < w.heap.size→N b):zB3 w' N v ps:=by
 obtain ⟨a,c,rfl,h1,h2,h3⟩:=h
 refine ⟨a,c,rfl,h1,h2,fun h0=>?_⟩
 obtain ⟨b,off,rfl,h4,h5,h6⟩:=h3 h0
 have hk:∀ o,w'.cell? ⟨b,o,none⟩=w.cell? ⟨b,o,none⟩:=fun o=>by
  unfold World.cell?
  rw [hc.block b h4 (fun hS=>h5 (hs b hS h4))]
 exact ⟨b,off,rfl,Nat.lt_of_lt_of_le h4 hc.size,h5,fun i p hp k x hx=>by rw [hk];exact h6 i p hp k x hx⟩
theorem zB3.mono {w:World} {N M:Nat→Prop} {v:Value} {ps:List RP} (h:zB3 w N v ps) (hM:∀ b,M b→N b∨w.heap.size≤b):zB3 w M v ps:=by
 obtain ⟨a,c,rfl,h1,h2,h3⟩:=h
 refine ⟨a,c,rfl,h1,h2,fun h0=>?_⟩
 obtain ⟨b,off,rfl,h4,h5,h6⟩:=h3 h0
 exact ⟨b,off,rfl,h4,fun hb=>(hM b hb).elim h5 (fun h=>by omega),h6⟩
theorem zB3.own {w:World} {N:Nat→Prop} {v:Value} {ps:List RP} {base:Nat} (h:zL eR WfR 4 101 w base v ps) (hN:∀ g,v.ownBlock=some g→¬ N g):zB3 w N v ps:=by
 rcases Nat.eq_zero_or_pos ps.length with h0 | h0
 · have hn:ps=[]:=List.eq_nil_of_length_eq_zero h0
   obtain ⟨p,c,rfl⟩:=h.empty hn
   have hm:c≤maxLen:=by
    rcases h.own.2 with ⟨e,_⟩ | ⟨g,cap,cur,e,_,_,_,hm,_⟩
    · injection e with _ _ e;rw [e];exact Nat.zero_le _
    · injection e with _ _ e;rw [e];exact hm
   subst hn
   exact ⟨p,c,rfl,Nat.zero_le _,hm,fun h=>by simp at h⟩
 · obtain ⟨g,cap,rfl,hr⟩:=h.ex h0
   obtain ⟨cur,hh,hb,k1,k2,k3,k4⟩:=hr.block
   refine ⟨_,cap,rfl,k1,k2,fun _=>⟨g,0,rfl,hr.lt,hN g rfl,fun i p hp k x hx=>?_⟩⟩
   have hk:k < 4:=(List.getElem?_eq_some_iff.1 hx).1
   have hi:=zBW hp
   rw [Nat.zero_add,hr.cell (zIu hi hk),zCC ecR ps h.wf i p hp k hk]
   exact hx
structure zAA (w:World) (N:Nat→Prop) (q r B:Nat) (lv:Value) (ps:List RP) (D:zA) (slots room:Nat) (L:List zR) (died:Bool):Prop where
 blk:Blk w q #[.pointer (some ⟨r,0,none⟩),.int .i64 slots,.int .i64 room,lv,.bool died] 99
 disk:zZ w r B D
 row:zB3 w N lv ps
 recs:RPs w N ps L
 nq:N q
 nr:N r
 nB:N B
 qr:q≠r
 qB:q≠B
 n:D.n=slots*(room+1)
 s1:1≤slots∧slots≤1024
 r1:1≤room∧room≤1024
 few:L.length≤slots
 small:∀ x∈L,x.data.length≤1000000∧x.num < 1000000000000∧x.slot < slots
def zAr (L:List zR) (name:ByteArray):Nat→Option Nat
 | 0=>none
 | k+1=>match zAr L name k with
   | some j=>some j
   | none=>match L[k]? with
     | none=>none
     | some r=>if (r.name.toList == name.toList)=true then some k else none
end Go.Mem
namespace Go.Proofs.YtdlkghdfkjdajaaGreatDoor
open Go Go.RowKit Go.Mem Gf
set_option linter.unusedVariables false
attribute [local go_sem ↓] Go.wp_at_zero Go.wp_at_succ
set_option maxRecDepth 20000 in
set_option maxHeartbeats 1000000 in
theorem zEP (w:World) (N:Nat→Prop) (q r B:Nat) (lv:Value) (ps:List RP) (D:zA) (slots room:Nat) (L:List zR) (died:Bool) (h:zAA w N q r B lv ps D slots room L died) (name:ByteArray) :
  Calls Tryz.prog 82 #[.pointer (some ⟨q,0,none⟩),.string name] w fun e w'=>e=.returned (.int .i64 (zBg (zAr L name L.length)))∧w=w':=by
 have c3:w.cell? ⟨q,3,none⟩=some lv:=h.blk.cell 3
 obtain ⟨a,c,rfl,h1,h2,h3⟩:=id h.row
 obtain ⟨n,hn⟩:∃ n,n=ps.length:=⟨_,rfl⟩
 have hL:L.length=n:=by rw [hn,h.recs.len]
 have hfew:=h.few
 have hs1:=h.s1
 rw [hL]
 rw [← hn] at c3 h1 h3
 have hnb:n≤1024:=by omega
 have H:=Lib.hid (And.intro h (And.intro hL (And.intro h3 hn)))
 clear h hn hL h3 h1 h2 hfew hs1
 go_enter Tryz.func82,Tryz.ntmps82
 go_wp2_with fail
 go_loopw [11] (fun v wr=>∃ i:Nat,i≤n∧v=.int .i64 i∧Hid (zAr L name i=none)∧w=wr) (fun v _=>n - (intOf v).toNat)
 case atStart=>exact ⟨0,Nat.zero_le _,rfl,rfl,rfl⟩
 case round =>
  obtain ⟨i,hi,rfl,hf,rfl⟩:=hrel
  by_cases h0:i < n
  · obtain ⟨x,hx⟩:∃ x,L[i]?=some x:=⟨L[i]'(by have:=H.out.2.1;omega),by simp⟩
    obtain ⟨p,hp,e1,_⟩:=H.out.1.recs.at hx
    obtain ⟨b,off,ha,_,_,hc⟩:=H.out.2.2.1 (by omega)
    have cx:=hc i p hp 0 (.string p.name) rfl
    rw [e1,Nat.add_zero] at cx
    subst ha
    have i0:(0:Int)≤(i:Int):=by omega
    have i1:(i:Int) < (n:Int):=by omega
    have hst:zAr L name (i+1)=if (x.name.toList == name.toList)=true then some i else none:=by rw [zAr,hf.out];simp only [hx]
    have hlast:∀ k,i+1≤k→(x.name.toList == name.toList)=true→zAr L name k=some i:=fun k hk he=>by
     induction k with
     | zero=>omega
     | succ k ih =>
       rcases Nat.lt_or_ge i k with h' | h'
       · rw [zAr,ih (by omega)]
       · obtain rfl:i=k:=by omega
         rw [hst,if_pos he]
    have HX:=Lib.hid (And.intro hst hlast)
    have HF:=hf
    clear hst hlast hx hp hc hf e1
    by_cases k2:(x.name.toList == name.toList)=true
    · have HQ:=Lib.hid (HX.out.2 n (by omega) k2)
      go_wp2_with fail
      go_ret
      exact ⟨by rw [HQ.out];rfl,rfl⟩
    · have HQ:=Lib.hid (show zAr L name (i+1)=none from by rw [HX.out.1,if_neg k2])
      have k2:(x.name.toList == name.toList)=false:=by simpa using k2
      go_wp2_with fail
      exact ⟨⟨i+1,by omega,by go_num,HQ,trivial⟩,by simp [intOf] <;> omega⟩
  · obtain rfl:n=i:=by omega
    clear h0 hi
    go_wp2_with fail
    go_ret
    exact ⟨by rw [hf.out];rfl,rfl⟩
end Go.Proofs.YtdlkghdfkjdajaaGreatDoor
end
