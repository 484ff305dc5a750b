/- Texts of this proof,packed: SrvWith,SrvBytes,ShaWord,ShaMath. -/
import Derived.Test.YtbbojbdigiibbaaGreatDoorPa14
import Derived.Test.YtbbojbdigiibbaaGreatDoorPa00
import Derived.Laws.BitsLemmas
section
namespace Go.Mem
open Go Go.RowKit Gf Lea
def zAo:List zM→List zM→List zM
 | out,[]=>out
 | out,b::r=>if zDI out b.1=none then zAo (out++[b]) r else zAo out r
theorem zDl (b:zM):∀ (r out:List zM),zAo out (r++[b])=if zDI (zAo out r) b.1=none then zAo out r++[b] else zAo out r
 | [],out=>rfl
 | x::r,out=>by
   rw [List.cons_append,zAo,zAo]
   split
   · exact zDl b r _
   · exact zDl b r _
theorem zFx:∀ (r out:List zM),(zAo out r).length≤out.length+r.length
 | [],out=>by simp [zAo]
 | x::r,out=>by
   rw [zAo]
   split
   · have:=zFx r (out++[x]);simp at this ⊢;omega
   · have:=zFx r out;simp;omega
theorem BPs.blAt {w:World} {N:Nat→Prop} {a:Option Addr} {n c base:Nat} {ps:List Go.Proofs.YtbbojbdigiibbaaGreatDoor.BP} {l:List zM} (h:BPs w N ps l) (ho:zAh Go.Proofs.YtbbojbdigiibbaaGreatDoor.eP Go.Proofs.YtbbojbdigiibbaaGreatDoor.WfP 2 53 w base (.slice a n c) ps) (hN:∀ g,(Value.slice a n c).ownBlock=some g→¬ N g):zAW w N (.slice a n c) l:=by
 have hl:=h.len
 obtain ⟨a1,c1,e1⟩:=ho.slice
 have hn:n=l.length:=by injection e1 with _ e _;omega
 rcases Nat.eq_zero_or_pos l.length with h0 | h0
 · have hm:c≤maxLen:=by
    rcases ho.own.2 with ⟨e,_⟩ | ⟨g,cap,cur,e,_,_,_,hm,_⟩
    · injection e with _ _ e;rw [e];exact Nat.zero_le _
    · injection e with _ _ e;rw [e];exact hm
   exact ⟨a,c,by rw [hn],by rw [h0];exact Nat.zero_le _,hm,fun h=>by omega⟩
 · obtain ⟨g,cap,e,hr⟩:=ho.ex (by omega)
   obtain ⟨cur,hh,hb,k1,k2,k3,k4⟩:=hr.block
   injection e with e2 e3 e4
   subst e2
   subst e4
   refine ⟨_,c,by rw [hn],by omega,k2,fun _=>⟨g,0,rfl,hr.lt,hN g rfl,fun i x hx=>?_⟩⟩
   have hi:=zq hx
   obtain ⟨q,hq1,hq2,hq3⟩:=h
   obtain ⟨z,hz⟩:∃ z,q[i]?=some z:=⟨_,List.getElem?_eq_getElem (by rw [← hq2,List.length_map] at hi;exact hi)⟩
   have hz2:z.2=x:=by
    rw [← hq2,List.getElem?_map,hz] at hx
    simpa using hx
   have hz1:ps[i]?=some z.1:=by rw [← hq1,List.getElem?_map,hz];rfl
   obtain ⟨f1,f2,f3⟩:=hq3 z (List.mem_of_getElem? hz)
   have g0:=hr.cell (j:=i*2) (by rw [hl];omega)
   have g1:=hr.cell (j:=i*2+1) (by rw [hl];omega)
   have t0:=zBI Go.Proofs.YtbbojbdigiibbaaGreatDoor.ecP ps (fun _ _=>trivial) i _ hz1 0 (by decide)
   have t1:=zBI Go.Proofs.YtbbojbdigiibbaaGreatDoor.ecP ps (fun _ _=>trivial) i _ hz1 1 (by decide)
   rw [Nat.add_zero] at t0
   refine ⟨by rw [Nat.zero_add,g0,t0,← hz2,← f1];rfl,z.1.2.1,z.1.2.2.2,by rw [Nat.zero_add,g1,t1,← hz2,← f2];rfl,?_⟩
   have f4:=f3
   unfold slP at f4
   rw [f2,hz2] at f4
   exact f4
end Go.Mem
namespace Go.Proofs.YtbbojbdigiibbaaGreatDoor
open Go Go.RowKit Go.Mem Gf Lea
set_option linter.unusedVariables false
attribute [local go_sem ↓] Go.wp_at_zero Go.wp_at_succ
attribute [local go_sem ↓] zAK zBl zEP zE6 zGi zF3
attribute [local go_sem] zCD ptrB_eq ptrO_eq ptrIs_eq aggL_eq aggIs_eq zS ze zCA zC zF zX zZ zV zH zJ zDB
attribute [local irreducible] zW zAu
theorem _root_.Go.Mem.BPs.weak {w:World} {N:Nat→Prop} {ps:List BP} {l:List zM} (h:BPs w N ps l):BPs w (fun _=>False) ps l:=by
 obtain ⟨q,h1,h2,h3⟩:=h
 exact ⟨q,h1,h2,fun z hz=>⟨(h3 z hz).1,(h3 z hz).2.1,(h3 z hz).2.2.mono fun _ h=>h.elim⟩⟩
theorem _root_.Go.Mem.BPs.mono {w:World} {N M:Nat→Prop} {ps:List BP} {l:List zM} (h:BPs w N ps l) (hM:∀ b,M b→N b∨w.heap.size≤b):BPs w M ps l:=by
 obtain ⟨q,h1,h2,h3⟩:=h
 exact ⟨q,h1,h2,fun z hz=>⟨(h3 z hz).1,(h3 z hz).2.1,(h3 z hz).2.2.mono hM⟩⟩
theorem zL4 {w:World} {p:Nat} {b:Bool} {k k':List Value} {u:Value} {t:TypeId} (h:Blk w p (zW b k u).toArray t) (hk:k.length=16) (hk':k'.length=16):Blk (w.setCells p 1 k') p (zW b k' u).toArray t:=by
 obtain ⟨arr,g1,g2,g3⟩:=Blk.setCells k' 1 _ _ h
 have hs:(zW b k u).toArray.size=18:=by simp [zAO b hk]
 have e:arr=(zW b k' u).toArray:=by
  apply Array.ext_getElem?
  intro j
  rcases Nat.lt_or_ge j 18 with hj | hj
  · rw [g3 j (by omega),List.getElem?_toArray,List.getElem?_toArray]
    rcases (by omega:j=0∨(1≤j∧j < 17)∨j=17) with rfl | h1 | rfl
    · rw [if_neg (by omega),zGV,zGV]
    · rw [if_pos (by omega)]
      have:=zEO b k' u (i:=j - 1) (by omega)
      rw [show j - 1+1=j from by omega] at this
      exact this.symm
    · rw [if_neg (by omega),zBF b hk,zBF b hk']
  · rw [Array.getElem?_eq_none (by omega),Array.getElem?_eq_none (by simp [zAO b hk'];omega)]
 rw [← e];exact g1
def WithP (w:World) (is:Bool) (k en:Key) (l lv:List zM) (e:Ending) (w':World):Prop :=
 ∃ u l',e=.returned (.agg (zW true (bV (if is then k else en)) u).toArray)∧zAW w' (fun _=>False) u l'∧l'.Perm (zAo lv l)∧(l'.Pairwise fun a b:zM=>a.1≤b.1)∧Below w.heap.size w w'
set_option maxRecDepth 100000 in
set_option maxHeartbeats 1000000 in
theorem zLT (N:Nat→Prop) (w:World) (is:Bool) (k:Key) (u v:Value) (l lv:List zM) (en:Key) (hk:k.length=16) (he:en.length=16) (h:zAW w (fun _=>False) u l) (hv:zAW w N v lv) (hv0:0 < lv.length) (hv1:lv.length≤16) (hl16:l.length≤16) :
  Calls Tryz.prog 146 #[.agg (zW is (bV k) u).toArray,.agg (bV en).toArray,v] w (WithP w is k en l lv):=by
 have hkl:(bV k).length=16:=by rw [zB];exact hk
 have hu:=zBF is hkl u
 have hcl:=zAO is hkl u
 have hc0:=zGV is (bV k) u
 obtain ⟨cc,hcc⟩:∃ cc,cc=zW is (bV k) u:=⟨_,rfl⟩
 obtain ⟨ce,hce⟩:∃ ce,ce=bV en:=⟨_,rfl⟩
 have hel:ce.length=16:=by rw [hce,zB];exact he
 rw [← hcc] at hu hcl hc0 ⊢
 rw [← hce]
 have k1:zCi ce.toArray 0 16=ce:=zFI hel
 have ha1:∀ v∈ce,v.oneCell'=true:=fun v hv=>by rw [hce] at hv;exact zAH _ v hv
 have hqa:zAQ 16 ce:=⟨hel,ha1⟩
 have hca:zAQ 18 (zW true ce (.slice none 0 0)):=⟨zAO true hel _,zBg _ ha1 _ rfl⟩
 have k2:zCi (zW true ce (.slice none 0 0)).toArray 0 18=zW true ce (.slice none 0 0):=zFI hca.1
 have hcl2:=hca.1
 obtain ⟨va,vc,ps,rfl,hps,hvc⟩:=hv.pairs
 obtain ⟨vb,vo,rfl,hvl,hvn,hcells⟩:=hvc hv0
 have hpl:=hps.len
 obtain ⟨n,hn⟩:∃ n,n=lv.length:=⟨_,rfl⟩
 rw [← hn] at hv0 hv1 hpl ⊢
 have halll:(zB3 eP ps).length=n*2:=by rw [zCh ecP ps (fun _ _=>trivial),hpl]
 have hnews:∀ j x,(zB3 eP ps)[j]?=some x→w.cell? ⟨vb,vo+j,none⟩=some x:=fun j x hj=>by
  have hlt:=zq hj
  rw [halll] at hlt
  have hi:j / 2 < ps.length:=by omega
  have hp:ps[j / 2]?=some ps[j / 2]:=List.getElem?_eq_getElem hi
  obtain ⟨c1,c2⟩:=hcells _ _ hp
  have e:=zBI ecP ps (fun _ _=>trivial) _ _ hp (j % 2) (by omega)
  rw [show j / 2*2+j % 2=j from by omega,hj] at e
  rcases (by omega:j % 2=0∨j % 2=1) with h0 | h0
  · rw [h0] at e
    rw [show vo+j=vo+j / 2*2 from by omega,c1,e];rfl
  · rw [h0] at e
    rw [show vo+j=vo+j / 2*2+1 from by omega,c2,e];rfl
 have hall1:∀ x∈zB3 eP ps,x.oneCell'=true:=zHg ecP ps
 have H:=Lib.hid (And.intro h (And.intro hv (And.intro hcc (And.intro hce hn))))
 have HV:=Lib.hid (And.intro hps (And.intro hpl (And.intro hnews (And.intro hvl (And.intro hall1 halll)))))
 clear h hv hcc hce hn hps hpl hcells hnews hvl hall1 halll
 go_enter Tryz.func146,Tryz.ntmps146
 go_upto_region 2 with fail
 obtain ⟨wz,hwz⟩:∃ q,q=((w.alloc (.cells cc.toArray 205)).alloc (.cells ce.toArray 39)).alloc (.cells #[Value.bool false,.int .u8 0,.int .u8 0,.int .u8 0,.int .u8 0,.int .u8 0,.int .u8 0,.int .u8 0,.int .u8 0,.int .u8 0,.int .u8 0,.int .u8 0,.int .u8 0,.int .u8 0,.int .u8 0,.int .u8 0,.int .u8 0,.slice none 0 0] 205):=⟨_,rfl⟩
 have hwzs:wz.heap.size=w.heap.size+1+1+1:=by rw [hwz];simp
 have hbz:Below w.heap.size w wz:=by
  rw [hwz]
  have h1:Below w.heap.size w (w.alloc (.cells cc.toArray 205)):=(Below.refl _ _).alloc (Nat.le_refl _) _
  have h2:=h1.alloc h1.size (.cells ce.toArray 39)
  exact h2.alloc h2.size _
 have hk3:Blk wz w.heap.size cc.toArray 205:=by
  rw [hwz];exact ((Blk.new w cc.toArray 205).alloc (.cells ce.toArray 39)).alloc _
 have hk6:Blk wz (w.heap.size+1+1) zAu.toArray 205:=by
  rw [hwz,← zeroC];exact Blk.new_at _ _ _ _ (by simp)
 rw [← hwz]
 have hk7:Blk (wz.alloc (.cells (zW true ce (.slice none 0 0)).toArray 205)) (w.heap.size+1+1+1) (zW true ce (.slice none 0 0)).toArray 205:=Blk.new_at _ _ _ _ hwzs.symm
 have hk3a:=hk3.alloc (.cells (zW true ce (.slice none 0 0)).toArray 205)
 have hk6a:=hk6.alloc (.cells (zW true ce (.slice none 0 0)).toArray 205)
 have hba:=hbz.alloc hbz.size (.cells (zW true ce (.slice none 0 0)).toArray 205)
 obtain ⟨wa,hwa⟩:∃ q,q=wz.alloc (.cells (zW true ce (.slice none 0 0)).toArray 205):=⟨_,rfl⟩
 rw [← hwa] at hk7 hk3a hk6a hba ⊢
 obtain ⟨p3,hp3⟩:∃ q,q=w.heap.size:=⟨_,rfl⟩
 obtain ⟨p6,hp6⟩:∃ q,q=w.heap.size+1+1:=⟨_,rfl⟩
 obtain ⟨p7,hp7⟩:∃ q,q=w.heap.size+1+1+1:=⟨_,rfl⟩
 have hge:w.heap.size≤p3∧p3 < p6∧p6 < p7:=by omega
 rw [← hp7] at hk7 ⊢
 rw [← hp6] at hk6a ⊢
 rw [← hp3] at hk3a ⊢
 have c30:wa.cell? ⟨p3,0,none⟩=some (.bool is):=by rw [hk3a.cell 0];simpa using hc0
 have c317:wa.cell? ⟨p3,17,none⟩=some u:=by rw [hk3a.cell 17];simpa using hu
 have HB:=Lib.hid (And.intro hk3a (And.intro hk6a (And.intro hk7 (And.intro hba hge))))
 have HC:=Lib.hid (And.intro hu (And.intro hcl (And.intro hc0 hqa)))
 clear hwz hwzs hbz hk3 hk6 hk7 hk3a hk6a hba hwa hp3 hp6 hp7 hge k1 k2 hcl2 hca hu hcl hc0 hqa ha1
 obtain ⟨cb,hcb⟩:∃ c,c=bV k:=⟨_,rfl⟩
 have hbl:cb.length=16:=by rw [hcb];exact hkl
 have hb1:zAQ 16 cb:=⟨hbl,fun v hv=>by rw [hcb] at hv;exact zAH _ v hv⟩
 have r3:zN 16 wa p3 1=cb:=zCE HB.out.1 hbl fun j hj=>by
  rw [H.out.2.2.1,← hcb,Nat.add_comm]
  simpa using zEO is cb u (by omega)
 have g3:zY 16 wa p3 1:=zL HB.out.1 (by simp [HC.out.2.1])
 have g7:zY 16 wa p7 1:=zL HB.out.2.2.1 (by simp [zAO true HC.out.2.2.2.1])
 have HCB:=Lib.hid hcb
 clear hcb
 obtain ⟨ek,hek⟩:∃ q,q=(if is then cb else ce):=⟨_,rfl⟩
 have hea:zAQ 16 ek:=by
  rw [hek]
  split
  · exact hb1
  · exact HC.out.2.2.2
 have HEK:=Lib.hid hek
 clear hek
 go_upto_if 15 with fail
 go_cut [] (fun wx=>Hid (Blk wx p3 cc.toArray 205∧Blk wx p6 zAu.toArray 205∧Blk wx p7 (zW true ek (.slice none 0 0)).toArray 205∧Below w.heap.size w wx))
 case first =>
  cases is with
  | false =>
    have e:ek=ce:=HEK.out
    subst e
    go_wp2_with fail
    go_meet
    exact ⟨HB.out.1,HB.out.2.1,HB.out.2.2.1,HB.out.2.2.2.1⟩
  | true =>
    have e:ek=cb:=HEK.out
    subst e
    go_wp2_with fail
    go_meet
    exact ⟨Blk.setCells_other (fun e=>by have:=HB.out.2.2.2.2;omega) _ _ _ HB.out.1,Blk.setCells_other (fun e=>by have:=HB.out.2.2.2.2;omega) _ _ _ HB.out.2.1,zL4 HB.out.2.2.1 HC.out.2.2.2.1 hb1.1,
     (Chg.setCells (S:=fun b=>b=p7) (L:=p7) rfl _ _ _ (Chg.of_below HB.out.2.2.2.1)).below (Nat.le_refl _) (fun k hk=>by rw [hk];have:=HB.out.2.2.2.2;omega)⟩
 case rest =>
 have HW:=Lib.hid hcut
 have HGE:=Lib.hid HB.out.2.2.2.2
 clear hcut HB c30 c317 r3 g3 g7
 obtain ⟨wx,hwx⟩:∃ q,q=wc:=⟨_,rfl⟩
 rw [← hwx] at HW ⊢
 clear hwx
 have c7:wx.cell? ⟨p7,17,none⟩=some (.slice none 0 0):=by rw [HW.out.2.2.1.cell 17];simpa using zBF true hea.1 (.slice none 0 0)
 have f7:=HW.out.2.2.1.free 17
 have l7:=HW.out.2.2.1.lt
 go_upto_region 4 with fail
 go_wp2_with (at_builtin;refine zI3 EKb ecP rfl _ _ rfl rfl (L:=vb) (off:=vo) (n:=n) (cap:=vc) (l:=ps) (fun _ _=>trivial) rfl HV.out.2.1 ?q1 (zAf (by omega)) (by omega) ?_)
 case q1 =>
  intro j x hj
  have:=HV.out.2.2.1 j x hj
  rw [HW.out.2.2.2.cell (p:=⟨vb,vo+j,none⟩) HV.out.2.2.2.1];exact this
 intro v1 w1 ho1 hb1'
 have hbps1:BPs w1 (fun b=>w.heap.size≤b) ps lv:=(HV.out.1.mono (M:=fun b=>w.heap.size≤b) (fun b hb=>.inr hb)).chg (Chg.of_below (S:=fun _=>False) (HW.out.2.2.2.trans (hb1'.mono HW.out.2.2.2.size))) (fun _ h=>h.elim)
 obtain ⟨a1,d1,e1⟩:=ho1.slice
 rw [HV.out.2.1] at e1
 subst e1
 have hz1:=hb1'.size
 have hnp:∀ g,(Value.slice a1 n d1).ownBlock=some g→p7 < g:=fun g hg=>by have:=ho1.ge hg;omega
 have k7':=HW.out.2.2.1.kept hb1'
 have hbw1:=HW.out.2.2.2.trans (hb1'.mono HW.out.2.2.2.size)
 have f7:=k7'.free 17
 have c7b:w1.cell? ⟨p7,17,none⟩=some (.slice none 0 0):=by rw [k7'.cell 17];simpa using zBF true hea.1 (.slice none 0 0)
 have hg7:w.heap.size≤p7:=by have:=HGE.out;omega
 have k72:Blk (w1.setCell ⟨p7,17,none⟩ (.slice a1 n d1)) p7 (zW true ek (.slice a1 n d1)).toArray 205:=by
  have:=k7'.set 17 (.slice a1 n d1)
  rwa [zFj true hea.1] at this
 have k62:=(HW.out.2.1.kept hb1').set_other (a:=⟨p7,17,none⟩) (fun e=>by have e':p7=p6:=e;have:=HGE.out;omega) (.slice a1 n d1)
 have k32:=(HW.out.1.kept hb1').set_other (a:=⟨p7,17,none⟩) (fun e=>by have e':p7=p3:=e;have:=HGE.out;omega) (.slice a1 n d1)
 have hb2:Below w.heap.size w (w1.setCell ⟨p7,17,none⟩ (.slice a1 n d1)):=hbw1.setCell hg7 _
 have hcc:Chg (fun b=>b=p7) w1 (w1.setCell ⟨p7,17,none⟩ (.slice a1 n d1)):=Chg.set (S:=fun b=>b=p7) (a:=⟨p7,17,none⟩) (Chg.refl _ _) rfl _
 have ho2:=(ho1.lower (b:=p7+1) (by omega)).chg hcc (fun g hg e=>by have:=hnp g hg;have e':g=p7:=e;omega)
 have hbp2:=hbps1.chg hcc (fun b hb _=>by rw [hb];exact hg7)
 obtain ⟨w2,hw2⟩:∃ q,q=w1.setCell ⟨p7,17,none⟩ (.slice a1 n d1):=⟨_,rfl⟩
 have HW2:=Lib.hid hw2
 rw [← hw2] at k72 k62 k32 hb2 ho2 hbp2
 have c37:w2.cell? ⟨p3,17,none⟩=some u:=by rw [k32.cell 17];simpa using HC.out.1
 have H2:=Lib.hid (And.intro ho2 (And.intro hbp2 (And.intro k72 (And.intro k62 (And.intro hb2 k32)))))
 clear hbps1 k7' hb1' ho1 hcc hw2 k72 k62 k32 hb2 ho2 hbp2 c7
 obtain ⟨ua,uc,rfl,huc1,huc2,hrow⟩:=id H.out.1
 obtain ⟨m,hm⟩:∃ m,m=l.length:=⟨_,rfl⟩
 rw [← hm] at c37 huc1 hrow
 have hm16:m≤16:=by omega
 have HM:=Lib.hid (And.intro hm hrow)
 clear hm hrow
 go_upto_region 5 with fail
 rw [← HW2.out]
 clear c7b f7
 go_upto_region 6 with fail
 go_loopw [27] (fun vi wr=>∃ (i:Nat) (a:Option Addr) (q d:Nat) (ps':List BP),i≤m∧vi=.int .i64 i∧q≤16+i∧Hid (zAh eP WfP 2 53 wr (p7+1) (.slice a q d) ps'∧BPs wr (fun b=>w.heap.size≤b) ps' (zAo lv (l.take i))∧Blk wr p7 (zW true ek (.slice a q d)).toArray 205∧Blk wr p6 zAu.toArray 205∧Below w.heap.size w wr)) (fun vi _=>m - (intOf vi).toNat)
 case atStart=>exact ⟨0,a1,n,d1,ps,Nat.zero_le _,rfl,hv1,H2.out.1,H2.out.2.1,H2.out.2.2.1,H2.out.2.2.2.1,H2.out.2.2.2.2.1⟩
 case round =>
  obtain ⟨i,a,q,d,ps',hi0,rfl,hq0,G⟩:=hrel
  by_cases hin:i < m
  · obtain ⟨ub,uo,rfl,hub,_,hcells⟩:=HM.out.2 (by omega)
    have hx:l[i]?=some (l[i]'(by have:=HM.out.1;omega)):=by simp
    generalize l[i]'(by have:=HM.out.1;omega)=x at hx
    obtain ⟨c1,a',c',c2,hd⟩:=hcells i x hx
    have hbc:=fun o=>G.out.2.2.2.2.cell (p:=⟨ub,o,none⟩) hub
    rw [← hbc] at c1 c2
    have i0:(0:Int)≤(i:Int):=by omega
    have i1:(i:Int) < (m:Int):=by omega
    obtain ⟨z,hz⟩:∃ z,z=x.1:=⟨_,rfl⟩
    obtain ⟨xl,hxl⟩:∃ z,z=x.2.length:=⟨_,rfl⟩
    rw [← hz] at c1
    rw [← hxl] at c2 hd
    have HX:=Lib.hid (And.intro hx (And.intro hz (And.intro hxl hd)))
    clear hx hz hxl hd hcells hbc
    go_upto_region 8 with fail
    have hk9:Blk (wr.alloc (.cells #[.int .i64 z,.slice a' xl c'] 53)) wr.heap.size #[.int .i64 z,.slice a' xl c'] 53:=Blk.new _ _ _
    have hb9:Below wr.heap.size wr (wr.alloc (.cells #[.int .i64 z,.slice a' xl c'] 53)):=(Below.refl _ _).alloc (Nat.le_refl _) _
    have lz:=G.out.2.2.1.lt
    obtain ⟨w3,hw3⟩:∃ q,q=wr.alloc (.cells #[.int .i64 z,.slice a' xl c'] 53):=⟨_,rfl⟩
    obtain ⟨p9,hp9⟩:∃ q,q=wr.heap.size:=⟨_,rfl⟩
    rw [← hw3] at hk9 hb9 ⊢
    rw [← hp9] at hk9 lz ⊢
    have k73:=G.out.2.2.1.kept hb9
    have hal:zAQ 18 (zW true ek (.slice a q d)):=⟨zAO true hea.1 _,zBg _ hea.2 _ rfl⟩
    have r7:zN 18 w3 p7 0=zW true ek (.slice a q d):=zP k73 hal.1
    have h7:zY 18 w3 p7 0:=zL k73 (by simp [hal.1])
    have hbl:zAW w3 (fun _=>False) (.slice a q d) (zAo lv (l.take i)):=((G.out.2.1.chg (Chg.of_below (S:=fun _=>False) hb9) (fun _ h=>h.elim)).weak).blAt (G.out.1.chg (Chg.of_below (S:=fun _=>False) hb9) (fun _ _ h=>h)) (fun _ _ h=>h)
    have c90:w3.cell? ⟨p9,0,none⟩=some (.int .i64 z):=hk9.cell 0
    have H3:=Lib.hid (And.intro hk9 (And.intro hb9 (And.intro k73 hbl)))
    clear hk9 hb9 k73 hbl hw3 c1 c2 hal hp9
    go_wp2_with fail
    refine (zF4 w3 true ek (.slice a q d) (zAo lv (l.take i)) z hea.1 hea.2 H3.out.2.2.2).mono ?_
    rintro e w4 ⟨fv,ok,rfl,hb4,hf⟩
    have hk94:=H3.out.1.kept hb4
    have k74:=H3.out.2.2.1.kept hb4
    have hb34:=H3.out.2.1.trans (hb4.mono H3.out.2.1.size)
    have c90:w4.cell? ⟨p9,0,none⟩=some (.int .i64 z):=hk94.cell 0
    have c91:w4.cell? ⟨p9,1,none⟩=some (.slice a' xl c'):=hk94.cell 1
    have c77:w4.cell? ⟨p7,17,none⟩=some (.slice a q d):=by rw [k74.cell 17];simpa using zBF true hea.1 (.slice a q d)
    have f77:=k74.free 17
    have l94:=hk94.lt
    have hown4:=G.out.1.chg (Chg.of_below (S:=fun _=>False) hb34) (fun _ _ h=>h)
    have hbp4:=G.out.2.1.chg (Chg.of_below (S:=fun _=>False) hb34) (fun _ h=>h.elim)
    have hbw4:=G.out.2.2.2.2.trans (hb34.mono G.out.2.2.2.2.size)
    have H4:=Lib.hid (And.intro hf (And.intro k74 (And.intro (G.out.2.2.2.1.kept hb34) (And.intro hown4 (And.intro hbp4 hbw4)))))
    have htk:l.take (i+1)=l.take i++[x]:=by rw [List.take_add_one,HX.out.1];rfl
    have HT:=Lib.hid htk
    clear hf k74 hk94 hb34 hown4 hbp4 hbw4 hb4 r7 h7 htk
    cases ok with
    | true =>
      have hw:zAo lv (l.take (i+1))=zAo lv (l.take i):=by
       rw [HT.out,zDl,← HX.out.2.1]
       rcases H4.out.1 with ⟨bs,h1,_⟩ | ⟨_,h2,_⟩
       · rw [h1,if_neg (by simp)]
       · cases h2
      have HWA:=Lib.hid hw
      clear hw
      go_wp2_with fail
      refine ⟨⟨i+1,a,q,d,ps',by omega,by simp,by omega,H4.out.2.2.2.1,?_,H4.out.2.1,H4.out.2.2.1,H4.out.2.2.2.2.2⟩,by show m - ((i:Int)+1).toNat < m - (i:Int).toNat;omega⟩
      rw [HWA.out]
      exact H4.out.2.2.2.2.1
    | false =>
      have hw:zAo lv (l.take (i+1))=zAo lv (l.take i)++[x]:=by
       rw [HT.out,zDl,← HX.out.2.1]
       rcases H4.out.1 with ⟨bs,_,h2,_⟩ | ⟨h1,_,_⟩
       · cases h2
       · rw [h1,if_pos rfl]
      have HWA:=Lib.hid hw
      clear hw
      have hplen:ps'.length=q:=by
       obtain ⟨_,_,e⟩:=H4.out.2.2.2.1.slice
       injection e with _ e _
       exact e.symm
      have HPL:=Lib.hid hplen
      clear hplen
      go_wp2_with (at_builtin;refine zBV EKb ecP rfl _ _ rfl (base:=p7+1) (l:=ps') (z,a',xl,c') trivial rfl (mb:=w4.heap.size) (cx:=1) rfl (show Blk _ _ (eP (z,a',xl,c')).toArray _ from Blk.new _ _ _) (H4.out.2.2.2.1.chg (Chg.of_below (S:=fun _=>False) ((Below.refl _ _).alloc (Nat.le_refl _) _)) (fun _ _ h=>h)) ?z1 (by decide) ?z2 ?_)
      case z1=>rw [HPL.out];omega
      case z2=>simp;omega
      intro v5 w5 ho5 hg5 hn5
      obtain ⟨a5,d5,e5⟩:=ho5.slice
      rw [List.length_append,HPL.out] at e5
      have hg9:w.heap.size≤w4.heap.size:=H4.out.2.2.2.2.2.size
      have hlo:=fun g hg=>(H4.out.2.2.2.1.ge (g:=g) hg)
      have hcc:Chg (fun b=>(Value.slice a q d).ownBlock=some b) w4 w5:=Chg.grown (S:=fun b=>(Value.slice a q d).ownBlock=some b) (Chg.of_below ((Below.refl _ _).alloc (Nat.le_refl _) _)) hg5 (fun _ hq=>.inl hq)
      have k75:Blk w5 p7 (zW true ek (.slice a q d)).toArray 205:=hcc.blk H4.out.2.1 (fun e=>by have:=hlo p7 e;omega)
      have k65:Blk w5 p6 zAu.toArray 205:=hcc.blk H4.out.2.2.1 (fun e=>by have:=hlo p6 e;have:=HGE.out;omega)
      have hb5:Below w.heap.size w w5:=((Chg.of_below (S:=fun k=>w.heap.size≤k) H4.out.2.2.2.2.2).mix hcc (fun k hk=>.inl (by have:=hlo k hk;have:=HGE.out;omega))).below (Nat.le_refl _) (fun _ h=>h)
      have hbp5:BPs w5 (fun b=>w.heap.size≤b) (ps'++[(z,a',xl,c')]) (zAo lv (l.take (i+1))):=by
       rw [HWA.out]
       refine (H4.out.2.2.2.2.1.chg hcc (fun b hb _=>by have:=hlo b hb;have:=HGE.out;omega)).app (BPs.one (by rw [← HX.out.2.1]) HX.out.2.2.1 ?_)
       exact (HX.out.2.2.2.mono (M:=fun b=>w.heap.size≤b) (fun b hb=>.inr hb)).chg (Chg.of_below (S:=fun _=>False) hb5) (fun _ h=>h.elim)
      have f75:=k75.free 17
      have c75:w5.cell? ⟨p7,17,none⟩=some (.slice a q d):=by rw [k75.cell 17];simpa using zBF true hea.1 (.slice a q d)
      have H5:=Lib.hid (And.intro ho5 (And.intro k75 (And.intro k65 (And.intro hb5 hbp5))))
      clear ho5 hg5 hn5 hlo hcc k75 k65 hb5 hbp5
      subst e5
      go_wp2_with fail
      have hcs:Chg (fun b=>b=p7) w5 (w5.setCell ⟨p7,17,none⟩ (.slice a5 (q+1) d5)):=Chg.set (S:=fun b=>b=p7) (a:=⟨p7,17,none⟩) (Chg.refl _ _) rfl _
      refine ⟨⟨i+1,a5,q+1,d5,_,by omega,by simp,by omega,H5.out.1.chg hcs (fun g hg e=>by have:=H5.out.1.ge hg;have e':g=p7:=e;omega),H5.out.2.2.2.2.chg hcs (fun b hb _=>by rw [hb];have:=HGE.out;omega),?_,H5.out.2.2.1.set_other (fun e=>by have e':p7=p6:=e;have:=HGE.out;omega) _,H5.out.2.2.2.1.setCell hg7 _⟩,by show m - ((i:Int)+1).toNat < m - (i:Int).toNat;omega⟩
      have:=H5.out.2.1.set 17 (.slice a5 (q+1) d5)
      rwa [zFj true hea.1] at this
  · obtain rfl:i=m:=by omega
    have hfull:l.take i=l:=List.take_of_length_le (by have:=HM.out.1;omega)
    have k7r:=G.out.2.2.1
    have c7r:wr.cell? ⟨p7,17,none⟩=some (.slice a q d):=by rw [k7r.cell 17];simpa using zBF true hea.1 (.slice a q d)
    have hplen:ps'.length=q:=by
     obtain ⟨_,_,e⟩:=G.out.1.slice
     injection e with _ e _
     exact e.symm
    have hps:=zJx wr p7 (p7+1) a q d ps' (zW true ek (.slice a q d)).toArray G.out.1 k7r (by simpa using zBF true hea.1 (.slice a q d)) (fun e=>by have:=G.out.1.ge e;omega) (by omega)
    have HPS:=Lib.hid (And.intro hps hfull)
    clear hps hfull hplen k7r
    go_wp2_with fail
    refine HPS.out.1.mono ?_
    rintro e w6 ⟨rfl,pl,ho6,hperm,hsort,hc6⟩
    have hlo:=fun g hg=>G.out.1.ge (g:=g) hg
    have hbp6:=G.out.2.1.chg hc6 (fun b hb _=>by have:=hlo b hb;have:=HGE.out;omega)
    rw [HPS.out.2] at hbp6
    obtain ⟨lr,hbr,hpr,hsr⟩:=hbp6.perm hperm hsort
    have k76:=hc6.blk G.out.2.2.1 (fun e=>by have:=hlo p7 e;omega)
    have k66:=hc6.blk G.out.2.2.2.1 (fun e=>by have:=hlo p6 e;have:=HGE.out;omega)
    have hb6:Below w.heap.size w w6:=((Chg.of_below (S:=fun k=>w.heap.size≤k) G.out.2.2.2.2).mix hc6 (fun k hk=>.inl (by have:=hlo k hk;have:=HGE.out;omega))).below (Nat.le_refl _) (fun _ h=>h)
    have hal:zAQ 18 (zW true ek (.slice a q d)):=⟨zAO true hea.1 _,zBg _ hea.2 _ rfl⟩
    have r7:zN 18 w6 p7 0=zW true ek (.slice a q d):=zP k76 hal.1
    have h7:zY 18 w6 p7 0:=zL k76 (by simp [hal.1])
    have h6:zY 18 w6 p6 0:=zL k66 (by simp [zIG.1])
    have HLD:=Lib.hid (zD6 h6 hal)
    have H6:=Lib.hid (And.intro ho6 (And.intro hbr (And.intro hpr (And.intro hsr (And.intro hb6 hal)))))
    clear ho6 hperm hsort hc6 hlo hbp6 hbr hpr hsr k76 k66 hb6
    go_wp2_with fail
    have hc7:Chg (fun b=>b=p6) w6 (w6.setCells p6 0 (zW true ek (.slice a q d))):=Chg.setCells (S:=fun b=>b=p6) (L:=p6) rfl _ _ _ (Chg.refl _ _)
    refine bodyPost_ret (v:=.agg (zW true ek (.slice a q d)).toArray) (by simp [results,Tryz.results146,asAddr,HLD.out]) rfl ⟨.slice a q d,lr,?_,?_,H6.out.2.2.1,H6.out.2.2.2.1,?_⟩
    · rw [HEK.out,HCB.out,H.out.2.2.2.1]
      cases is <;> rfl
    · exact (H6.out.2.1.chg hc7 (fun b hb _=>by rw [hb];have:=HGE.out;omega)).weak.blAt (H6.out.1.chg hc7 (fun g hg e=>by have:=H6.out.1.ge hg;have e':g=p6:=e;have:=HGE.out;omega)) (fun _ _ h=>h)
    · exact ((Chg.of_below (S:=fun k=>w.heap.size≤k) H6.out.2.2.2.2.1).mix hc7 (fun k hk=>.inl (by rw [hk];have:=HGE.out;omega))).below (Nat.le_refl _) (fun _ h=>h)
end Go.Proofs.YtbbojbdigiibbaaGreatDoor
end
section
namespace Go.Proofs.YtbbojbdigiibbaaGreatDoor
open Go Go.RowKit Go.Mem Gf Lea
set_option linter.unusedVariables false
theorem rws1 {w:World} {g:Nat} {t:TypeId} {v1:Value} {b1:List UInt8} (h:Blk w g #[v1] t) (h1:Bys w v1 b1):Rws w (.slice (some ⟨g,0,none⟩) 1 1) [b1]:=by
 refine ⟨_,1,rfl,by simp,by decide,fun _=>⟨g,0,rfl,fun k r hk=>?_⟩⟩
 rw [Nat.zero_add]
 match k,hk with
 | 0,hk=>simp at hk;subst hk;exact ⟨v1,by rw [h.cell];rfl,h1⟩
 | k+1,hk=>simp at hk
theorem zHj (k:Key):zAA k []=Cod.zA9 [k]:=by simp [zAA,blB,Cod.zA9]
theorem zKc (k:Key) (l:List zM) (x:zM):zAA k (l++[x])=zAA k l++Cod.zA9 [Cod.be 1 x.1.toNat,x.2]:=by
 unfold zAA
 rw [zOB,zLZ,List.append_assoc]
theorem zFi (k:Key) (hk:k.length=16) (l:List zM) (h:zDy l):(zAA k l).length≤27+l.length*16420:=by
 have h1:=zDd k (by omega)
 have h2:=zIM l h
 unfold zAA
 rw [List.length_append]
 omega
attribute [local go_sem ↓] Go.wp_at_zero Go.wp_at_succ
attribute [local irreducible] zW
set_option maxRecDepth 100000 in
set_option maxHeartbeats 2000000 in
theorem zGN (w:World) (is:Bool) (k:Key) (u:Value) (l:List zM) (hk:k.length=16) (h:zAW w (fun _=>False) u l) (hT:Tab w) (hl:l.length≤32) (hok:zDy l) :
  Calls Tryz.prog 147 #[.agg (zW is (bV k) u).toArray] w fun e w'=>∃ vo,e=.returned vo∧zl 5 w' w.heap.size vo (zAA k l)∧Below w.heap.size w w':=by
 obtain ⟨a,c,rfl,hc1,hc2,hrow⟩:=id h
 obtain ⟨n,hn⟩:∃ n,n=l.length:=⟨_,rfl⟩
 rw [← hn] at hc1 hrow hl ⊢
 have hkl:(bV k).length=16:=by rw [zB];exact hk
 have hu:=zBF is hkl (.slice a n c)
 have hck:∀ i,i < 16→(zW is (bV k) (.slice a n c))[i+1]?=(bV k)[i]?:=fun i hi=>zEO is _ _ (by omega)
 obtain ⟨cc,hcc⟩:∃ cc,cc=zW is (bV k) (.slice a n c):=⟨_,rfl⟩
 rw [← hcc] at hu hck ⊢
 have hkC:Blk (w.alloc (.cells cc.toArray 205)) w.heap.size cc.toArray 205:=Blk.new _ _ _
 have hbC:Below w.heap.size w (w.alloc (.cells cc.toArray 205)):=(Below.refl _ _).alloc (Nat.le_refl _) _
 have H:=Lib.hid (And.intro hn (And.intro hrow (And.intro hT hok)))
 clear h hn hrow hT hok hcc
 go_enter Tryz.func147,Tryz.ntmps147
 go_upto_region 1 with fail
 obtain ⟨w1,hw1⟩:∃ q,q=w.alloc (.cells cc.toArray 205):=⟨_,rfl⟩
 obtain ⟨p1,hp1⟩:∃ q,q=w.heap.size:=⟨_,rfl⟩
 rw [← hw1] at hkC hbC ⊢
 have HP:=Lib.hid hp1
 rw [← hp1] at hkC ⊢
 have hby:Bys w1 (.slice (some ⟨p1,1,none⟩) 16 16) k:=⟨_,16,by rw [hk],by omega,by decide,fun _=>⟨p1,1,rfl,fun i v hi=>by
  have h16:i < 16:=by have:=zq hi;omega
  rw [hkC.cell,List.getElem?_toArray,Nat.add_comm,hck i h16,zAr,hi];rfl⟩⟩
 have c17:w1.cell? ⟨p1,17,none⟩=some (.slice a n c):=by rw [hkC.cell 17];simpa using hu
 have HB:=Lib.hid (And.intro hkC (And.intro hbC hby))
 clear hkC hbC hby hw1 hp1 hck hu
 go_wp2_with fail
 have hba:Below w1.heap.size w1 (w1.alloc (.cells #[.slice (some ⟨p1,1,none⟩) 16 16] 51)):=(Below.refl _ _).alloc (Nat.le_refl _) _
 have hnl:(Cod.zA9 [k]).length≤100000000:=by
  have:=zFi k hk [] ⟨fun _ h=>(by cases h),fun _ h=>(by cases h)⟩
  rw [zHj] at this
  simp at this
  omega
 refine (zDe _ [k] _ (H.out.2.2.1.below (HB.out.2.1.trans (hba.mono HB.out.2.1.size))) (rws1 (Blk.new _ _ _) (HB.out.2.2.below hba)) hnl).mono ?_
 rintro e w2 ⟨v2,rfl,ho2,hb2⟩
 have hz2:=hb2.size
 have hb02:Below w.heap.size w w2:=(HB.out.2.1.trans (hba.mono HB.out.2.1.size)).trans (hb2.mono (Nat.le_trans HB.out.2.1.size hba.size))
 have k12:Blk w2 p1 cc.toArray 205:=(HB.out.1.kept hba).kept hb2
 have c17:w2.cell? ⟨p1,17,none⟩=some (.slice a n c):=by rw [k12.cell 17,← HB.out.1.cell 17];exact c17
 have ho2':=ho2.mono (base':=w.heap.size) (by have:=hba.size;have:=HB.out.2.1.size;omega)
 rw [← zHj] at ho2'
 have H2:=Lib.hid (And.intro ho2' hb02)
 clear ho2 hb2 hb02 k12 ho2' hba hnl hz2
 go_upto_region 3 with fail
 go_loopw [3,13] (fun v3 vi wr=>∃ i:Nat,i≤n∧vi=.int .i64 i∧Hid (zl 5 wr w.heap.size v3 (zAA k (l.take i))∧Below w.heap.size w wr)) (fun _ vi _=>n - (intOf vi).toNat)
 case atStart=>exact ⟨0,Nat.zero_le _,rfl,H2.out.1,H2.out.2⟩
 case round =>
  obtain ⟨i,hi0,rfl,G⟩:=hrel
  by_cases hin:i < n
  · obtain ⟨b,off,rfl,hb,_,hcells⟩:=H.out.2.1 (by omega)
    have hx:l[i]?=some (l[i]'(by have:=H.out.1;omega)):=by simp
    generalize l[i]'(by have:=H.out.1;omega)=x at hx
    obtain ⟨c1,a',c',c2,hd⟩:=hcells i x hx
    have hbc:=fun o=>G.out.2.cell (p:=⟨b,o,none⟩) hb
    rw [← hbc] at c1 c2
    have i0:(0:Int)≤(i:Int):=by omega
    have i1:(i:Int) < (n:Int):=by omega
    obtain ⟨xl,hxl⟩:∃ z,z=x.2.length:=⟨_,rfl⟩
    have hxn:=H.out.2.2.2.num x (List.mem_of_getElem? hx)
    have hxd:=H.out.2.2.2.len x (List.mem_of_getElem? hx)
    obtain ⟨m,hm⟩:∃ m:Nat,m=x.1.toNat:=⟨_,rfl⟩
    have hm2:x.1=(m:Int):=by omega
    have hm16:m < 16:=by omega
    rw [hm2] at c1
    rw [← hxl] at c2 hd
    have hp1:zAA k (l.take (i+1))=zAA k (l.take i)++Cod.zA9 [Cod.be 1 m,x.2]:=by rw [List.take_add_one,hx,Option.toList_some,zKc,hm]
    have hpl:(zAA k (l.take i)).length≤1000000:=by
     have h1:=zFi k hk (l.take i) (H.out.2.2.2.sub fun y hy=>List.mem_of_mem_take hy)
     have h2:(l.take i).length≤32:=by rw [List.length_take];have:=H.out.1;omega
     have:(l.take i).length*16420≤32*16420:=Nat.mul_le_mul_right _ h2
     omega
    have hn2:(Cod.zA9 [Cod.be 1 m,x.2]).length≤100000:=by
     have h1:=zDd (Cod.be 1 m) (by rw [Cod.zAR];omega)
     have h2:=zDd x.2 hxd
     rw [Cod.zAR] at h1
     simp only [Cod.zA9,List.length_append,List.length_nil]
     omega
    have HX:=Lib.hid (And.intro hp1 (And.intro hpl (And.intro hn2 (And.intro hd.1 hxl))))
    clear hx hxl hd hcells hbc hxn hxd hm hm2 hp1 hpl hn2
    go_upto_region 5 with fail
    have hW1:Blk (wr.alloc (.cells #[.int .i64 m,.slice a' xl c'] 53)) wr.heap.size #[.int .i64 m,.slice a' xl c'] 53:=Blk.new _ _ _
    have hB1:Below wr.heap.size wr (wr.alloc (.cells #[.int .i64 m,.slice a' xl c'] 53)):=(Below.refl _ _).alloc (Nat.le_refl _) _
    obtain ⟨W1,hw1⟩:∃ W,W=wr.alloc (.cells #[.int .i64 m,.slice a' xl c'] 53):=⟨_,rfl⟩
    obtain ⟨p5,hp5⟩:∃ q,q=wr.heap.size:=⟨_,rfl⟩
    rw [← hw1] at hW1 hB1 ⊢
    rw [← hp5] at hW1 ⊢
    have HW:=Lib.hid (And.intro hW1 (And.intro hB1 hp5))
    clear hw1 hp5 hW1 hB1
    have c50:W1.cell? ⟨p5,0,none⟩=some (.int .i64 m):=HW.out.1.cell 0
    have c51:W1.cell? ⟨p5,1,none⟩=some (.slice a' xl c'):=HW.out.1.cell 1
    go_region_law
     (first
      | (refine zHK E8c (by rfl) _ _ (by rfl) (base:=w.heap.size) (v:=u3) (xv:=v3) (bs:=zAA k (l.take i)) (news:=Cod.zA9 [Cod.be 1 m,x.2]) (by rfl) (by rfl) (HY.out.1.below HZ.out.2) HZ.out.1.bys (by have:=HX.out.2.1;have:=HX.out.2.2.1;omega) (Nat.le_trans G.out.2.size (Nat.le_trans HY.out.2.2.2.2.size HZ.out.2.size)) ?_
         intro v4 x4 hv4 hg4
         have HV:=Lib.hid (And.intro hv4 hg4)
         clear hv4 hg4)
      | (go_simp
         go_at_call 159
         refine (zJ0 m 1 (by omega) (by decide) (by decide) W1.drew).mono ?_
         rintro e w' ⟨vo,rfl,h2,h3⟩
         obtain ⟨pa,pc,rfl⟩:=h2.eq_slice
         have h3':Below W1.heap.size W1 w':=⟨h3.os,h3.tape,h3.output,h3.size,h3.block⟩
         have hbW:Below wr.heap.size wr w':=HW.out.2.1.trans (h3'.mono HW.out.2.1.size)
         have hO':=G.out.1.below hbW
         have hT':=H.out.2.2.1.below (G.out.2.trans (hbW.mono G.out.2.size))
         have hby1:Bys w' (.slice a' xl c') x.2:=HX.out.2.2.2.1.below (G.out.2.trans (hbW.mono G.out.2.size))
         have HY:=Lib.hid (And.intro hO' (And.intro hT' (And.intro hby1 (And.intro h2.bys hbW))))
         rw [Cod.zAR] at HY ⊢
         have d51:w'.cell? ⟨p5,1,none⟩=some (.slice a' xl c'):=(HW.out.1.kept h3').cell 1
         clear h2 h3 h3' hO' hT' hby1 hbW)
      | (go_simp
         go_at_call 158
         refine (zDe _ [Cod.be 1 m,x.2] _ (HY.out.2.1.below ((Below.refl w'.heap.size w').alloc (Nat.le_refl _) _)) (rws2 (Blk.new _ _ _) (HY.out.2.2.2.1.below ((Below.refl w'.heap.size w').alloc (Nat.le_refl _) _)) (HY.out.2.2.1.below ((Below.refl w'.heap.size w').alloc (Nat.le_refl _) _))) (by have:=HX.out.2.2.1;omega)).mono ?_
         rintro e w3 ⟨v3,rfl,h3,hb3⟩
         have hb4:Below w'.heap.size w' w3:=((Below.refl w'.heap.size w').alloc (Nat.le_refl _) _).trans (hb3.mono (by simp))
         have HZ:=Lib.hid (And.intro h3 hb4)
         clear h3 hb3 hb4))
    all_goals
     go_wp2_with fail
     have hb5:Below w.heap.size w w3:=(G.out.2.trans (HY.out.2.2.2.2.mono G.out.2.size)).trans (HZ.out.2.mono (Nat.le_trans G.out.2.size HY.out.2.2.2.2.size))
     exact ⟨⟨i+1,by omega,by simp,by rw [HX.out.1];exact HV.out.1,(Chg.grown (S:=fun k=>w.heap.size≤k) (Chg.of_below hb5) HV.out.2 (fun q hq=>.inl (G.out.1.lt _ hq).1)).below (Nat.le_refl _) (fun _ h=>h)⟩,by show n - ((i:Int)+1).toNat < n - (i:Int).toNat;omega⟩
  · have:=G.out.1
    rw [List.take_of_length_le (by have:=H.out.1;omega)] at this
    have HF:=Lib.hid this
    clear this
    go_wp2_with fail
    go_ret
    exact ⟨_,rfl,HF.out,G.out.2⟩
end Go.Proofs.YtbbojbdigiibbaaGreatDoor
end
section
namespace Go.Mem
open Go Go.RowKit
def wz (x:UInt32):Int:=(x.toNat:Int)
theorem wz_of (n:Nat):wz (UInt32.ofNat n)=((n % 4294967296:Nat):Int):=by
 unfold wz
 rw [UInt32.toNat_ofNat']
theorem zLp (n:Nat):IntKind.u32.wrap (n:Int)=wz (UInt32.ofNat n):=by
 rw [wz_of,IntKind.wrap_u32];omega
theorem zNy (x y:UInt32):IntKind.u32.wrap (wz x+wz y)=wz (x+y):=by
 unfold wz
 rw [IntKind.wrap_u32,UInt32.toNat_add];omega
theorem zIv (x y:UInt32):(wz x+wz y) % 4294967296=wz (x+y):=by rw [← zNy,IntKind.wrap_u32]
theorem zOn (x y z:UInt32):(wz x+wz y+wz z) % 4294967296=wz (x+y+z):=by
 rw [← zIv,← zIv];omega
theorem zKb (x:UInt32):BitVec.ofInt 32 (wz x)=x.toBitVec:=by
 apply BitVec.eq_of_toNat_eq
 have:=UInt32.toNat_lt x
 rw [BitVec.toNat_ofInt]
 unfold wz
 show ((x.toNat:Int) % 4294967296).toNat=x.toNat
 omega
theorem zDm (b:BitVec 32):IntKind.u32.wrap (b.toNat:Int)=wz ⟨b⟩:=by
 rw [IntKind.wrap_u32]
 have:=b.isLt
 show _=((b.toNat:Nat):Int)
 omega
theorem wz_xor (x y:UInt32):bits .xor .u32 (wz x) (wz y)=wz (x ^^^ y):=by
 show IntKind.u32.wrap ((BitVec.ofInt 32 (wz x) ^^^ BitVec.ofInt 32 (wz y)).toNat:Int)=_
 rw [zKb,zKb,zDm];rfl
theorem wz_and (x y:UInt32):bits .and .u32 (wz x) (wz y)=wz (x &&& y):=by
 show IntKind.u32.wrap ((BitVec.ofInt 32 (wz x) &&& BitVec.ofInt 32 (wz y)).toNat:Int)=_
 rw [zKb,zKb,zDm];rfl
theorem wz_or (x y:UInt32):bits .or .u32 (wz x) (wz y)=wz (x ||| y):=by
 show IntKind.u32.wrap ((BitVec.ofInt 32 (wz x) ||| BitVec.ofInt 32 (wz y)).toNat:Int)=_
 rw [zKb,zKb,zDm];rfl
theorem zNz (x:UInt32):bits .xor .u32 4294967295 (wz x)=wz (~~~x):=by
 show IntKind.u32.wrap ((BitVec.ofInt 32 4294967295 ^^^ BitVec.ofInt 32 (wz x)).toNat:Int)=_
 rw [zKb,zDm]
 refine congrArg wz ?_
 apply UInt32.toBitVec_inj.1
 show BitVec.ofInt 32 4294967295 ^^^ x.toBitVec = ~~~x.toBitVec
 have:BitVec.ofInt 32 4294967295=BitVec.allOnes 32:=by decide
 rw [this,BitVec.allOnes_xor]
theorem zOp (x:UInt32):bits .xor .u32 IntKind.u32.max (wz x)=wz (~~~x):=zNz x
def shl (x:UInt32) (n:Nat):UInt32:=⟨x.toBitVec <<< n⟩
def shr (x:UInt32) (n:Nat):UInt32:=⟨x.toBitVec >>> n⟩
theorem zN0 (x:UInt32) (n:Nat):IntKind.u32.wrap (wz x*2 ^ n)=wz (shl x n):=by
 have e:wz x*2 ^ n=((x.toNat*2 ^ n:Nat):Int):=by unfold wz;push_cast;rfl
 rw [e,zLp]
 refine congrArg wz (UInt32.toNat_inj.1 ?_)
 rw [UInt32.toNat_ofNat']
 show _=(x.toBitVec <<< n).toNat
 rw [BitVec.toNat_shiftLeft,Nat.shiftLeft_eq];rfl
theorem zGa (x:UInt32) (n:Nat):wz x*2 ^ n % 4294967296=wz (shl x n):=by rw [← zN0,IntKind.wrap_u32]
theorem zN2 (x:UInt32):wz x*16777216 % 4294967296=wz (shl x 24):=zGa x 24
theorem zN1 (x:UInt32):wz x*65536 % 4294967296=wz (shl x 16):=zGa x 16
theorem zOq (x:UInt32):wz x*256 % 4294967296=wz (shl x 8):=zGa x 8
theorem zLU (x:UInt32) (n:Nat):wz x / 2 ^ n=wz (shr x n):=by
 have e:wz x / 2 ^ n=((x.toNat / 2 ^ n:Nat):Int):=by unfold wz;push_cast;rfl
 rw [e]
 show _=(((x.toBitVec >>> n).toNat:Nat):Int)
 rw [BitVec.toNat_ushiftRight,Nat.shiftRight_eq_div_pow];rfl
theorem zOr (x:UInt32):wz x / 8=wz (shr x 3):=zLU x 3
theorem zN3 (x:UInt32):wz x / 1024=wz (shr x 10):=zLU x 10
def ror (x:UInt32) (n:Nat):UInt32:=shl x (32 - n) ||| shr x n
theorem zOo (b:UInt8):IntKind.u32.wrap ((b.toNat:Nat):Int)=wz b.toUInt32:=by
 rw [zLp]
 refine congrArg wz (UInt32.toNat_inj.1 ?_)
 have:=UInt8.toNat_lt b
 rw [UInt32.toNat_ofNat',UInt8.toNat_toUInt32]
 omega
end Go.Mem
end
section
namespace Sha
open Go.Mem
structure H8 where
 a:UInt32
 b:UInt32
 c:UInt32
 d:UInt32
 e:UInt32
 f:UInt32
 g:UInt32
 h:UInt32
def H8.l (v:H8):List UInt32:=[v.a,v.b,v.c,v.d,v.e,v.f,v.g,v.h]
def word (b:List UInt8) (i:Nat):UInt32 :=
 shl (b.getD (4*i) 0).toUInt32 24 ||| shl (b.getD (4*i+1) 0).toUInt32 16 ||| shl (b.getD (4*i+2) 0).toUInt32 8 ||| (b.getD (4*i+3) 0).toUInt32
def s0 (x:UInt32):UInt32:=ror x 7 ^^^ ror x 18 ^^^ shr x 3
def s1 (x:UInt32):UInt32:=ror x 17 ^^^ ror x 19 ^^^ shr x 10
def next (l:List UInt32):UInt32:=l.getD (l.length - 16) 0+s0 (l.getD (l.length - 15) 0)+l.getD (l.length - 7) 0+s1 (l.getD (l.length - 2) 0)
def sch (b:List UInt8):Nat→List UInt32
 | 0=>[]
 | n+1=>sch b n++[if n < 16 then word b n else next (sch b n)]
theorem zEX (b:List UInt8):∀ n,(sch b n).length=n
 | 0=>rfl
 | n+1=>by rw [sch,List.length_append,zEX b n];rfl
theorem sch_lo (b:List UInt8) {n:Nat} (h:n < 16):sch b (n+1)=sch b n++[word b n]:=by rw [sch,if_pos h]
theorem sch_hi (b:List UInt8) {n:Nat} (h:16≤n):sch b (n+1)=sch b n++[next (sch b n)]:=by rw [sch,if_neg (by omega)]
def kT:List UInt32:=[
 0x428a2f98,0x71374491,0xb5c0fbcf,0xe9b5dba5,0x3956c25b,0x59f111f1,0x923f82a4,0xab1c5ed5,
 0xd807aa98,0x12835b01,0x243185be,0x550c7dc3,0x72be5d74,0x80deb1fe,0x9bdc06a7,0xc19bf174,
 0xe49b69c1,0xefbe4786,0x0fc19dc6,0x240ca1cc,0x2de92c6f,0x4a7484aa,0x5cb0a9dc,0x76f988da,
 0x983e5152,0xa831c66d,0xb00327c8,0xbf597fc7,0xc6e00bf3,0xd5a79147,0x06ca6351,0x14292967,
 0x27b70a85,0x2e1b2138,0x4d2c6dfc,0x53380d13,0x650a7354,0x766a0abb,0x81c2c92e,0x92722c85,
 0xa2bfe8a1,0xa81a664b,0xc24b8b70,0xc76c51a3,0xd192e819,0xd6990624,0xf40e3585,0x106aa070,
 0x19a4c116,0x1e376c08,0x2748774c,0x34b0bcb5,0x391c0cb3,0x4ed8aa4a,0x5b9cca4f,0x682e6ff3,
 0x748f82ee,0x78a5636f,0x84c87814,0x8cc70208,0x90befffa,0xa4506ceb,0xbef9a3f7,0xc67178f2]
def h0:H8:=⟨0x6a09e667,0xbb67ae85,0x3c6ef372,0xa54ff53a,0x510e527f,0x9b05688c,0x1f83d9ab,0x5be0cd19⟩
def big1 (e:UInt32):UInt32:=ror e 6 ^^^ ror e 11 ^^^ ror e 25
def big0 (a:UInt32):UInt32:=ror a 2 ^^^ ror a 13 ^^^ ror a 22
def tw (v:H8) (k w:UInt32):UInt32:=v.h+big1 v.e+(v.e &&& v.f ^^^ ~~~v.e &&& v.g)+k+w
def maj (v:H8):UInt32:=v.a &&& v.b ^^^ v.a &&& v.c ^^^ v.b &&& v.c
def rnd (v:H8) (k w:UInt32):H8:=⟨tw v k w+big0 v.a+maj v,v.a,v.b,v.c,v.d+tw v k w,v.e,v.f,v.g⟩
def zHa (b:List UInt8) (h:H8):Nat→H8
 | 0=>h
 | n+1=>rnd (zHa b h n) (kT.getD n 0) ((sch b 64).getD n 0)
def zIK (h v:H8):H8:=⟨h.a+v.a,h.b+v.b,h.c+v.c,h.d+v.d,h.e+v.e,h.f+v.f,h.g+v.g,h.h+v.h⟩
def zHT (h v:H8) (i:Nat):List UInt32:=(zIK h v).l.take i++h.l.drop i
theorem zMs (h v:H8) {i:Nat} (hi:i < 8):(zHT h v i)[i]?=some (h.l.getD i 0):=by
 unfold zHT
 have hl:h.l.length=8:=rfl
 have hl2:(zIK h v).l.length=8:=rfl
 rw [List.getElem?_append_right (by rw [List.length_take];omega),List.length_take,List.getElem?_drop,show i+(i - min i (zIK h v).l.length)=i from by omega,List.getD_eq_getElem?_getD,List.getElem?_eq_getElem (by omega)]
 rfl
theorem zMu (h v:H8) {i:Nat} (hi:i < 8):(zIK h v).l.getD i 0=h.l.getD i 0+v.l.getD i 0:=by
 rcases (by omega:i=0∨i=1∨i=2∨i=3∨i=4∨i=5∨i=6∨i=7) with rfl | rfl | rfl | rfl | rfl | rfl | rfl | rfl <;> rfl
theorem zMt (h v:H8) {i:Nat} (hi:i < 8):(zHT h v i).set i (h.l.getD i 0+v.l.getD i 0)=zHT h v (i+1):=by
 rw [← zMu h v hi]
 unfold zHT
 have hl:h.l.length=8:=rfl
 have hl2:(zIK h v).l.length=8:=rfl
 rw [List.set_append_right _ _ (by rw [List.length_take];omega),List.length_take,show i - min i (zIK h v).l.length=0 from by omega,List.drop_eq_getElem_cons (by omega),List.set_cons_zero,List.take_add_one,List.getElem?_eq_getElem (by omega),List.append_assoc,List.getD_eq_getElem?_getD,List.getElem?_eq_getElem (by omega)]
 rfl
theorem addL_8 (h v:H8):zHT h v 8=(zIK h v).l:=by
 unfold zHT
 rw [List.take_of_length_le (by show 8≤8;omega),List.drop_of_length_le (by show 8≤8;omega),List.append_nil]
def mix (h:H8) (b:List UInt8):H8:=zIK h (zHa b h 64)
def zBt:Nat→H8→List UInt8→H8
 | 0,h,_=>h
 | n+1,h,l=>zBt n (mix h (l.take 64)) (l.drop 64)
theorem zG2 (m:Nat):∀ (n:Nat) (h:H8) (l:List UInt8),zBt (n+m) h l=zBt m (zBt n h l) (l.drop (64*n))
 | 0,h,l=>by rw [Nat.zero_add,Nat.mul_zero,List.drop_zero];rfl
 | n+1,h,l=>by
   rw [show n+1+m=(n+m)+1 from by omega]
   show zBt (n+m) (mix h (l.take 64)) (l.drop 64)=zBt m (zBt n (mix h (l.take 64)) (l.drop 64)) _
   rw [zG2 m n,List.drop_drop,show 64+64*n=64*(n+1) from by omega]
theorem zJl (r:List UInt8):∀ (n:Nat) (h:H8) (l:List UInt8),64*n≤l.length→zBt n h (l++r)=zBt n h l
 | 0,_,_,_=>rfl
 | n+1,h,l,hl=>by
   show zBt n (mix h ((l++r).take 64)) ((l++r).drop 64)=zBt n (mix h (l.take 64)) (l.drop 64)
   rw [List.take_append_of_le_length (by omega),List.drop_append_of_le_length (by omega)]
   exact zJl r n _ _ (by rw [List.length_drop];omega)
theorem zHu (n:Nat) (h:H8) (l:List UInt8):zBt (n+1) h l=mix (zBt n h l) ((l.drop (64*n)).take 64):=by
 rw [zG2 1 n];rfl
def zeros (n:Nat):Nat:=(119 - n % 64) % 64
theorem zII (n:Nat):(n+1+zeros n) % 64=56∧zeros n < 64:=by unfold zeros;omega
theorem zKR {n i:Nat} (h:i < zeros n):(n+1+i) % 64≠56:=by unfold zeros at h;omega
def pad (bs:List UInt8) (n:Nat):List UInt8:=bs++128::(List.replicate (zeros bs.length) 0++Cod.be 8 (8*n))
theorem zIg (bs:List UInt8) (n:Nat):(pad bs n).length % 64=0∧(pad bs n).length=bs.length+9+zeros bs.length:=by
 have e:(pad bs n).length=bs.length+9+zeros bs.length:=by
  unfold pad
  rw [List.length_append,List.length_cons,List.length_append,List.length_replicate,Cod.zAR];omega
 refine ⟨?_,e⟩
 rw [e]
 have:=zII bs.length
 omega
def zIe (v:H8):List UInt8:=v.l.flatMap fun x=>Cod.be 4 x.toNat
theorem zJu (v:H8):(zIe v).length=32:=by
 unfold zIe H8.l
 simp [Cod.zAR]
def sum (bs:List UInt8):List UInt8:=zIe (zBt ((pad bs bs.length).length / 64) h0 (pad bs bs.length))
theorem zLk (bs:List UInt8):(sum bs).length=32:=zJu _
theorem zOi (bs:List UInt8):sum bs=zIe (zBt ((pad (bs.drop (64*(bs.length / 64))) bs.length).length / 64) (zBt (bs.length / 64) h0 bs) (pad (bs.drop (64*(bs.length / 64))) bs.length)):=by
 unfold sum
 obtain ⟨q,hq⟩:∃ q,q=bs.length / 64:=⟨_,rfl⟩
 rw [← hq]
 have hz:zeros (bs.length - 64*q)=zeros bs.length:=by unfold zeros;omega
 have e1:(pad bs bs.length).drop (64*q)=pad (bs.drop (64*q)) bs.length:=by
  unfold pad
  rw [List.drop_append_of_le_length (by omega),List.length_drop,hz]
 have e2:(pad bs bs.length).length / 64=q+(pad (bs.drop (64*q)) bs.length).length / 64:=by
  rw [(zIg _ _).2,(zIg _ _).2,List.length_drop,hz]
  omega
 rw [e2,zG2,e1]
 refine congrArg zIe (congrArg (fun h=>zBt _ h _) ?_)
 unfold pad
 rw [zJl _ q h0 bs (by omega)]
end Sha
end
