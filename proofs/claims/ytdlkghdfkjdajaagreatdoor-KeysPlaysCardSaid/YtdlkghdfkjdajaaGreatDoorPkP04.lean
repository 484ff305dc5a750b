/- Texts of this proof,packed: StoreRead,StoreFree,StoreMem. -/
import Derived.Test.YtdlkghdfkjdajaaGreatDoorPkP03
import Derived.Test.YtdlkghdfkjdajaaGreatDoorPkP02
import Derived.Test.YtdlkghdfkjdajaaGreatDoorPkP00
import Derived.Laws.BytesArg
import Derived.Test.YtdlkghdfkjdajaaGreatDoorPkP01
import Derived.Deep.RegionLaw
section
namespace Go.Proofs.YtdlkghdfkjdajaaGreatDoor
open Go Go.RowKit Go.Mem Gf
attribute [local go_sem ↓] Go.wp_at_zero Go.wp_at_succ
theorem chg4 (w:World) (g:Nat) (u0 u1 u2 u3:Value):Chg (fun b=>b=g) w ((((w.setCell ⟨g,0,none⟩ u0).setCell ⟨g,1,none⟩ u1).setCell ⟨g,2,none⟩ u2).setCell ⟨g,3,none⟩ u3):=by
 refine Chg.set (S:=fun b=>b=g) ?_ (a:=⟨g,3,none⟩) rfl u3
 refine Chg.set (S:=fun b=>b=g) ?_ (a:=⟨g,2,none⟩) rfl u2
 refine Chg.set (S:=fun b=>b=g) ?_ (a:=⟨g,1,none⟩) rfl u1
 exact Chg.set (S:=fun b=>b=g) (Chg.refl _ _) (a:=⟨g,0,none⟩) rfl u0
theorem zEy {α:Type} (xs:List α) (x d:α) {j:Nat} (h:j < xs.length):(xs++[x]).getD j d=xs.getD j d:=by
 rw [List.getD_eq_getElem?_getD,List.getD_eq_getElem?_getD,List.getElem?_append_left h]
theorem zEx {α:Type} (xs:List α) (x d:α) {j:Nat} (h:j=xs.length):(xs++[x]).getD j d=x:=by
 subst h;rw [List.getD_eq_getElem?_getD,List.getElem?_append_right (Nat.le_refl _)];simp
def zLl (v:Value):Prop:=∃ (b:Bool) (s:ByteArray) (z:Int) (dv:Value),v=.tuple #[.agg #[.bool b,.string s,.int .i64 z,dv],.bool false]∧∃ a l c,dv=.slice a l c
set_option maxRecDepth 20000 in
set_option maxHeartbeats 2000000 in
theorem zHx (v:Value) (bs:List UInt8) (w:World) (h:Bys w v bs) (hl:bs.length≤1000000) :
  Calls Tryz.prog 53 #[v] w fun e w'=>Below w.heap.size w w'∧((∃ r,Sto.parse bs=some r∧∃ dv,e=.returned (.tuple #[.agg #[.bool true,.string r.name,.int .i64 r.num,dv],.bool true])∧zP 5 w' w.heap.size dv r.data)∨(Sto.parse bs=none∧∃ v,e=.returned v∧zLl v)):=by
 obtain ⟨a,c,rfl⟩:=h.eq_slice
 go_enter Tryz.func53,Tryz.ntmps53
 have h1:Bys ((w.alloc (.cells #[.bool false,.string { data:=#[] },.int .i64 0,.slice none 0 0] 75)).alloc (.cells #[.slice none 0 0,.slice none 0 0,.slice none 0 0] 141)) (.slice a bs.length c) bs:=h.below (((Below.refl _ _).alloc (Nat.le_refl _) _).alloc (by simp) _)
 have hA0:=Blk.new_at (w.alloc (.cells #[.bool false,.string { data:=#[] },.int .i64 0,.slice none 0 0] 75)) #[.slice none 0 0,.slice none 0 0,.slice none 0 0] 141 (w.heap.size+1) (by simp)
 have hR0:=(Blk.new w #[.bool false,.string { data:=#[] },.int .i64 0,.slice none 0 0] 75).alloc (.cells #[.slice none 0 0,.slice none 0 0,.slice none 0 0] 141)
 have hb0:Below w.heap.size w ((w.alloc (.cells #[.bool false,.string { data:=#[] },.int .i64 0,.slice none 0 0] 75)).alloc (.cells #[.slice none 0 0,.slice none 0 0,.slice none 0 0] 141)):=((Below.refl _ _).alloc (Nat.le_refl _) _).alloc (by simp) _
 go_wp2_with fail
 go_loopw [0,9] (fun u v wr=>∃ (k:Nat) (xs:List (List UInt8)) (r:List UInt8) (v0 v1 v2:Value),k≤3∧v=.int .i64 k∧Hid (Sto.takeN k bs=some (xs,r))∧Bys wr u r∧r.length≤1000000∧Blk wr (w.heap.size+1) #[v0,v1,v2] 141∧Blk wr w.heap.size #[.bool false,.string { data:=#[] },.int .i64 0,.slice none 0 0] 75 ∧
  Hid (0 < k→zP 5 wr (w.heap.size+2) v0 (xs.getD 0 []))∧Hid (1 < k→zP 5 wr (w.heap.size+2) v1 (xs.getD 1 []))∧Hid (2 < k→zP 5 wr (w.heap.size+2) v2 (xs.getD 2 []))∧Below w.heap.size w wr∧w.heap.size+2≤wr.heap.size) (fun _ v _=>3 - (intOf v).toNat)
 case atStart=>exact ⟨0,[],bs,_,_,_,by omega,rfl,rfl,h1,hl,hA0,hR0,fun h=>by omega,fun h=>by omega,fun h=>by omega,hb0,by simp⟩
 case round =>
  clear h1 hA0 hR0 hb0 h
  obtain ⟨k,xs,r,v0,v1,v2,hk,rfl,Hk,hr,hrl,hA,hR,h0,h1,h2,hb,hs⟩:=hrel
  by_cases hk3:k < 3
  · obtain ⟨va,vc,rfl⟩:=hr.eq_slice
    have Hr:=Lib.hid hR;have Ha:=Lib.hid hA
    cases ht:Cod.zy r with
    | none =>
      have Hp:=Lib.hid (show Sto.parse bs=none from by
       have h3:∀ j,k < j→Sto.takeN j bs=none:=by
        intro j hj
        induction j with
        | zero=>omega
        | succ j ih =>
          rw [Sto.takeN]
          by_cases e:j=k
          · subst e;rw [Hk.out];simp only [ht]
          · rw [ih (by omega)]
       unfold Sto.parse;rw [h3 3 hk3])
      have Ht:=Lib.hid ht
      clear ht
      go_wp2_with fail
      refine (zIO _ r wr hr (by omega) Ht.out).mono ?_
      rintro e w2 ⟨rfl,rfl⟩
      have d0:wr.cell? ⟨w.heap.size,0,none⟩=some (.bool false):=by rw [Hr.out.cell];rfl
      have d1:wr.cell? ⟨w.heap.size,1,none⟩=some (.string { data:=#[] }):=by rw [Hr.out.cell];rfl
      have d2:wr.cell? ⟨w.heap.size,2,none⟩=some (.int .i64 0):=by rw [Hr.out.cell];rfl
      have d3:wr.cell? ⟨w.heap.size,3,none⟩=some (.slice none 0 0):=by rw [Hr.out.cell];rfl
      have f0:=Hr.out.free 0;have f1:=Hr.out.free 1;have f2:=Hr.out.free 2;have f3:=Hr.out.free 3
      have c0:wr.cell? ⟨w.heap.size+1,0,none⟩=some v0:=by rw [Ha.out.cell];rfl
      have c1:wr.cell? ⟨w.heap.size+1,1,none⟩=some v1:=by rw [Ha.out.cell];rfl
      have c2:wr.cell? ⟨w.heap.size+1,2,none⟩=some v2:=by rw [Ha.out.cell];rfl
      have g0:=Ha.out.free 0;have g1:=Ha.out.free 1;have g2:=Ha.out.free 2
      clear hA hR hr Ht
      rcases (show k=0∨k=1∨k=2 from by omega) with rfl | rfl | rfl
      all_goals
       go_wp2
       refine bodyPost_ret (v:=.tuple #[.agg #[.bool false,.string { data:=#[] },.int .i64 0,.slice none 0 0],.bool false]) (by simp [results,Tryz.results53,go_sem,d0,d1,d2,d3]) rfl ⟨?_,.inr ⟨Hp.out,_,rfl,false,_,0,_,rfl,_,_,_,rfl⟩⟩
       exact ((((hb.setCell (by simp) _).setCell (by simp) _).setCell (by simp) _).setCell (by simp) _).setCell (by simp) _
    | some q =>
      obtain ⟨x,y⟩:=q
      have Ht:=Lib.hid ht
      clear ht
      go_wp2_with fail
      refine (zJO _ r x y wr hr (by omega) Ht.out).mono ?_
      rintro e w2 ⟨vx,vy,rfl,hx,hy,hb2⟩
      have hA2:=hA.kept hb2
      have hR2:=hR.kept hb2
      have hxl:x.length≤1000000∧y.length≤1000000:=by
       obtain ⟨_,_,_,h4,_,_,h7,h8⟩:=zBj Ht.out
       exact ⟨by rw [h7];simp;omega,by rw [h8];simp;omega⟩
      have Hn:=Lib.hid (show Sto.takeN (k+1) bs=some (xs++[x],y) from by rw [Sto.takeN,Hk.out];simp only [Ht.out])
      have Hl:=Lib.hid (Sto.zGL _ _ _ _ Hk.out)
      have c0:w2.cell? ⟨w.heap.size+1,0,none⟩=some v0:=by rw [hA2.cell];rfl
      have c1:w2.cell? ⟨w.heap.size+1,1,none⟩=some v1:=by rw [hA2.cell];rfl
      have c2:w2.cell? ⟨w.heap.size+1,2,none⟩=some v2:=by rw [hA2.cell];rfl
      have g0:=hA2.free 0;have g1:=hA2.free 1;have g2:=hA2.free 2
      obtain ⟨xa,xc,rfl⟩:=hx.eq_slice
      have Hx:=Lib.hid hx;have Hy:=Lib.hid hy;have HA2:=Lib.hid hA2;have HR2:=Lib.hid hR2;have Hb2:=Lib.hid hb2;have Hr':=Lib.hid hr
      clear hA hR hx hy hA2 hR2 hb2 hr
      have hs2:=Hb2.out.size
      have hC:∀ j v,Chg (fun b=>b=w.heap.size+1) wr (w2.setCell ⟨w.heap.size+1,j,none⟩ v):=fun j v=>Chg.set (S:=fun b=>b=w.heap.size+1) (Chg.of_below Hb2.out) (a:=⟨w.heap.size+1,j,none⟩) rfl v
      have hC2:∀ j v,Chg (fun b=>b=w.heap.size+1) w2 (w2.setCell ⟨w.heap.size+1,j,none⟩ v):=fun j v=>Chg.set (S:=fun b=>b=w.heap.size+1) (Chg.refl _ _) (a:=⟨w.heap.size+1,j,none⟩) rfl v
      have HC:=Lib.hid hC;have HC2:=Lib.hid hC2
      have hap:∀ (v:Value) (bs:List UInt8) (w':World),zP 5 w' (w.heap.size+2) v bs→∀ g,v.ownBlock=some g→¬ g=w.heap.size+1:=fun v bs w' ho g hg=>by have:=(ho.lt g hg).1;omega
      have Hap:=Lib.hid hap
      have HX:=Lib.hid (fun j v=>(Hx.out.mono hs).chg (hC2 j v) (hap _ _ _ (Hx.out.mono hs)))
      have HY:=Lib.hid (fun j v=>((Hy.out.mono hs).chg (hC2 j v) (hap _ _ _ (Hy.out.mono hs))).bys)
      have HB:=Lib.hid (fun j v=>(show Below w.heap.size w (w2.setCell ⟨w.heap.size+1,j,none⟩ v) from (hb.trans (Hb2.out.mono hb.size)).setCell (show w.heap.size≤w.heap.size+1 by omega) v))
      have HR3:=Lib.hid (fun j v=>HR2.out.set_other (a:=⟨w.heap.size+1,j,none⟩) (show w.heap.size+1≠w.heap.size by omega) v)
      have HA3:=Lib.hid (fun j v=>HA2.out.set j v)
      have Hge:=Lib.hid (show w.heap.size+2≤w2.heap.size by omega)
      clear hC hC2 hap
      rcases (show k=0∨k=1∨k=2 from by omega) with rfl | rfl | rfl
      · go_wp2
        exact ⟨⟨1,xs++[x],y,_,v1,v2,by decide,rfl,Hn.out,HY.out 0 _,hxl.2,by simpa using HA3.out 0 _,HR3.out 0 _,(fun _=>by rw [zEx _ _ _ Hl.out.symm];exact HX.out 0 _),(fun h=>by omega),(fun h=>by omega),HB.out 0 _,by simpa using Hge.out⟩,by simp [intOf]⟩
      · go_wp2
        exact ⟨⟨2,xs++[x],y,v0,_,v2,by decide,rfl,Hn.out,HY.out 1 _,hxl.2,by simpa using HA3.out 1 _,HR3.out 1 _,(fun _=>by rw [zEy _ _ _ (by rw [Hl.out];decide)];exact (h0.out (by decide)).chg (HC.out 1 _) (Hap.out _ _ _ (h0.out (by decide)))),(fun _=>by rw [zEx _ _ _ Hl.out.symm];exact HX.out 1 _),(fun h=>by omega),HB.out 1 _,by simpa using Hge.out⟩,by simp [intOf]⟩
      · go_wp2
        exact ⟨⟨3,xs++[x],y,v0,v1,_,by decide,rfl,Hn.out,HY.out 2 _,hxl.2,by simpa using HA3.out 2 _,HR3.out 2 _,(fun _=>by rw [zEy _ _ _ (by rw [Hl.out];decide)];exact (h0.out (by decide)).chg (HC.out 2 _) (Hap.out _ _ _ (h0.out (by decide)))),(fun _=>by rw [zEy _ _ _ (by rw [Hl.out];decide)];exact (h1.out (by decide)).chg (HC.out 2 _) (Hap.out _ _ _ (h1.out (by decide)))),(fun _=>by rw [zEx _ _ _ Hl.out.symm];exact HX.out 2 _),HB.out 2 _,by simpa using Hge.out⟩,by simp [intOf]⟩
  · obtain rfl:k=3:=by omega
    have o0:=h0.out (by decide)
    have o1:=h1.out (by decide)
    have o2:=h2.out (by decide)
    obtain ⟨x0,hx0⟩:∃ x,x=xs.getD 0 []:=⟨_,rfl⟩
    obtain ⟨x1,hx1⟩:∃ x,x=xs.getD 1 []:=⟨_,rfl⟩
    obtain ⟨x2,hx2⟩:∃ x,x=xs.getD 2 []:=⟨_,rfl⟩
    have HP:=Lib.hid (show Sto.parse bs=if x1.length=4 then some ⟨true,⟨x0.toArray⟩,Cod.zAh x1,x2⟩ else none from by
     unfold Sto.parse;rw [Hk.out,hx0,hx1,hx2])
    rw [← hx0] at o0;rw [← hx1] at o1;rw [← hx2] at o2
    clear hx0 hx1 hx2 h0 h1 h2 hr
    have d0:wr.cell? ⟨w.heap.size,0,none⟩=some (.bool false):=by rw [hR.cell];rfl
    have d1:wr.cell? ⟨w.heap.size,1,none⟩=some (.string { data:=#[] }):=by rw [hR.cell];rfl
    have d2:wr.cell? ⟨w.heap.size,2,none⟩=some (.int .i64 0):=by rw [hR.cell];rfl
    have d3:wr.cell? ⟨w.heap.size,3,none⟩=some (.slice none 0 0):=by rw [hR.cell];rfl
    have f0:=hR.free 0;have f1:=hR.free 1;have f2:=hR.free 2;have f3:=hR.free 3
    have c0:wr.cell? ⟨w.heap.size+1,0,none⟩=some v0:=by rw [hA.cell];rfl
    have c1:wr.cell? ⟨w.heap.size+1,1,none⟩=some v1:=by rw [hA.cell];rfl
    have c2:wr.cell? ⟨w.heap.size+1,2,none⟩=some v2:=by rw [hA.cell];rfl
    obtain ⟨z,hz⟩:∃ z:Nat × Bool,(x1.length≤7→z.1=Cod.zAh x1)∧Calls Tryz.prog 67 #[v1] wr fun e w'=>e=.returned (.tuple #[.int .i64 (z.1:Nat),.bool z.2])∧wr=w':=by
     by_cases h7:x1.length≤7
     · exact ⟨(Cod.zAh x1,true),fun _=>rfl,zF1 _ _ _ o1.bys h7⟩
     · exact ⟨(0,false),fun h=>absurd h h7,zLu _ _ _ o1.bys (by omega)⟩
    obtain ⟨z,zb⟩:=z
    obtain ⟨hz1,hz2⟩:=hz
    have HZ1:=Lib.hid hz1;have HZ2:=Lib.hid hz2
    have HO2:=Lib.hid o2;have HR:=Lib.hid hR;have HA:=Lib.hid hA
    obtain ⟨a1,b1,rfl⟩:=o1.eq_slice
    obtain ⟨a0,b0,rfl⟩:=o0.eq_slice
    have HO0:=Lib.hid o0
    obtain ⟨a2,b2,rfl⟩:=o2.eq_slice
    clear hz1 hz2 o0 o1 o2 hR hA
    go_wp2_with fail
    refine HZ2.out.mono ?_
    rintro e w2 ⟨rfl,rfl⟩
    go_wp2_with fail
    have hcv1:Bys wr.drew (.slice a0 x0.length b0) x0:=HO0.out.drew.bys
    have hs0:wr.drew.cell? ⟨w.heap.size+1,0,none⟩=some (.slice a0 x0.length b0):=c0
    have hs1:wr.drew.cell? ⟨w.heap.size+1,1,none⟩=some (.slice a1 x1.length b1):=c1
    have hs2:wr.drew.cell? ⟨w.heap.size+1,2,none⟩=some (.slice a2 x2.length b2):=c2
    have H0:=Lib.hid (And.intro hs0 (And.intro hs1 (And.intro hs2 hcv1)))
    have hcvr:∀ w',Bys w' (.slice a0 x0.length b0) x0→(convert 41 9 (.slice a0 x0.length b0)).run Tryz.prog w'=.ok (.string ⟨x0.toArray⟩) w':=fun w' hB=>zCl hB
    clear hs0 hs1 hs2 hcv1 c0 c1 c2
    have hO1:∀ u0 u1 u2 u3,Bys ((((wr.setCell ⟨w.heap.size,0,none⟩ u0).setCell ⟨w.heap.size,1,none⟩ u1).setCell ⟨w.heap.size,2,none⟩ u2).setCell ⟨w.heap.size,3,none⟩ u3).drew (.slice a0 x0.length b0) x0:=fun u0 u1 u2 u3=>by
     have h1:=chg4 wr w.heap.size u0 u1 u2 u3
     have h2:=HO0.out.chg h1 (fun g hg e=>by have:=(HO0.out.lt g hg).1;omega)
     exact h2.bys
    have HO1:=Lib.hid hO1
    clear hO1
    have HS:∀ u0 u1 u2 u3,Hid (((((wr.setCell ⟨w.heap.size,0,none⟩ u0).setCell ⟨w.heap.size,1,none⟩ u1).setCell ⟨w.heap.size,2,none⟩ u2).setCell ⟨w.heap.size,3,none⟩ u3).drew.cell? ⟨w.heap.size+1,0,none⟩=some (.slice a0 x0.length b0)∧((((wr.setCell ⟨w.heap.size,0,none⟩ u0).setCell ⟨w.heap.size,1,none⟩ u1).setCell ⟨w.heap.size,2,none⟩ u2).setCell ⟨w.heap.size,3,none⟩ u3).drew.cell? ⟨w.heap.size+1,1,none⟩=some (.slice a1 x1.length b1) ∧
      ((((wr.setCell ⟨w.heap.size,0,none⟩ u0).setCell ⟨w.heap.size,1,none⟩ u1).setCell ⟨w.heap.size,2,none⟩ u2).setCell ⟨w.heap.size,3,none⟩ u3).drew.cell? ⟨w.heap.size+1,2,none⟩=some (.slice a2 x2.length b2) ∧
      Bys ((((wr.setCell ⟨w.heap.size,0,none⟩ u0).setCell ⟨w.heap.size,1,none⟩ u1).setCell ⟨w.heap.size,2,none⟩ u2).setCell ⟨w.heap.size,3,none⟩ u3).drew (.slice a0 x0.length b0) x0):=fun u0 u1 u2 u3=>by
     have hA':=(((HA.out.set_other (a:=⟨w.heap.size,0,none⟩) (show w.heap.size≠w.heap.size+1 by omega) u0).set_other (a:=⟨w.heap.size,1,none⟩) (show w.heap.size≠w.heap.size+1 by omega) u1).set_other (a:=⟨w.heap.size,2,none⟩) (show w.heap.size≠w.heap.size+1 by omega) u2).set_other (a:=⟨w.heap.size,3,none⟩) (show w.heap.size≠w.heap.size+1 by omega) u3
     exact ⟨hA'.cell 0,hA'.cell 1,hA'.cell 2,HO1.out u0 u1 u2 u3⟩
    go_region_held3 (fun w'=>w'.cell? ⟨w.heap.size+1,0,none⟩=some (.slice a0 x0.length b0)∧w'.cell? ⟨w.heap.size+1,1,none⟩=some (.slice a1 x1.length b1)∧w'.cell? ⟨w.heap.size+1,2,none⟩=some (.slice a2 x2.length b2)∧Bys w' (.slice a0 x0.length b0) x0) (first | with_reducible exact H0.out | with_reducible exact (HS _ _ _ _).out) (fail)
    have hbel:∀ u0 u1 u2 u3,Below w.heap.size w ((((wr.setCell ⟨w.heap.size,0,none⟩ u0).setCell ⟨w.heap.size,1,none⟩ u1).setCell ⟨w.heap.size,2,none⟩ u2).setCell ⟨w.heap.size,3,none⟩ u3):=fun u0 u1 u2 u3=>(((hb.setCell (Nat.le_refl _) _).setCell (Nat.le_refl _) _).setCell (Nat.le_refl _) _).setCell (Nat.le_refl _) _
    have hown:∀ u0 u1 u2 u3,zP 5 ((((wr.setCell ⟨w.heap.size,0,none⟩ u0).setCell ⟨w.heap.size,1,none⟩ u1).setCell ⟨w.heap.size,2,none⟩ u2).setCell ⟨w.heap.size,3,none⟩ u3) w.heap.size (.slice a2 x2.length b2) x2:=fun u0 u1 u2 u3=>(HO2.out.chg (chg4 wr w.heap.size u0 u1 u2 u3) (fun g hg e=>by have:=(HO2.out.lt g hg).1;omega)).mono (by omega)
    have HBEL:=Lib.hid hbel;have HOWN:=Lib.hid hown
    clear hbel hown HS
    go_wp2
    refine bodyPost_ret (v:=.tuple #[.agg #[.bool true,.string ⟨x0.toArray⟩,.int .i64 (z:Int),.slice a2 x2.length b2],.bool ((x1.length:Int) == 4)]) (by simp [results,Tryz.results53,go_sem,d0,d1,d2,d3]) rfl ⟨below_drewN (HBEL.out _ _ _ _) 1,?_⟩
    by_cases h4:x1.length=4
    · have e1:((x1.length:Int) == 4)=true:=by simp;omega
      rw [e1]
      have:=HZ1.out (by omega)
      subst this
      exact .inl ⟨_,by rw [HP.out,if_pos h4],_,rfl,(HOWN.out _ _ _ _).drew⟩
    · have e1:((x1.length:Int) == 4)=false:=by simp;omega
      rw [e1]
      exact .inr ⟨by rw [HP.out,if_neg h4],_,rfl,_,_,_,_,rfl,_,_,_,rfl⟩
end Go.Proofs.YtdlkghdfkjdajaaGreatDoor
end
section
namespace Go.Mem
open Go Go.RowKit Gf
def Tri (sb d L:Nat) (b:Nat):Prop:=b=sb∨b=d∨b=L
theorem Blk.chg4 {w:World} {b g:Nat} {arr:Array Value} {t:TypeId} (h:Blk w b arr t) (hg:b≠g) (u0 u1 u2 u3:Value):Blk ((((w.setCell ⟨g,0,none⟩ u0).setCell ⟨g,1,none⟩ u1).setCell ⟨g,2,none⟩ u2).setCell ⟨g,3,none⟩ u3) b arr t :=
 (((h.set_other (a:=⟨g,0,none⟩) (fun e=>hg e.symm) u0).set_other (a:=⟨g,1,none⟩) (fun e=>hg e.symm) u1).set_other (a:=⟨g,2,none⟩) (fun e=>hg e.symm) u2).set_other (a:=⟨g,3,none⟩) (fun e=>hg e.symm) u3
theorem zCE {S T:Nat→Prop} {w w' w'':World} (h:Chg S w w') (h':Chg T w' w'') (hT:∀ k,T k→w.heap.size≤k):Chg S w w'' :=
 ⟨h'.os.trans h.os,h'.tape.trans h.tape,h'.output.trans h.output,Nat.le_trans h.size h'.size,fun k hk hs=>(h'.block k (Nat.lt_of_lt_of_le hk h.size) fun ht=>by have:=hT k ht;omega).trans (h.block k hk hs)⟩
end Go.Mem
namespace Go.Proofs.YtdlkghdfkjdajaaGreatDoor
open Go Go.RowKit Go.Mem Gf
attribute [local go_sem ↓] Go.wp_at_zero Go.wp_at_succ
theorem chg1 (w:World) (g i:Nat) (v:Value):Chg (fun b=>b=g) w (w.setCell ⟨g,i,none⟩ v):=Chg.set (S:=fun b=>b=g) (Chg.refl _ _) (a:=⟨g,i,none⟩) rfl v
def stV (d room:Nat) (la:Option Addr) (n lc:Nat) (dead:Bool):Array Value:=#[.pointer (some ⟨d,0,none⟩),.int .i64 room,.slice la n lc,.bool dead]
set_option maxRecDepth 20000 in
set_option maxHeartbeats 2000000 in
theorem zK0 (sb d L room n lc i:Nat) (la:Option Addr) (dead:Bool) (D:zA) (w:World) (hS:Blk w sb (stV d room la n lc dead) 73) (hD:zM w d L D) (hne:sb≠d∧sb≠L) (hi:n≤i) (hi2:i≤1024) (hr:room≤1024) (hw:D.writes < 4611686018427387904) :
  Calls Tryz.prog 30 #[.pointer (some ⟨sb,0,none⟩),.int .i64 i] w fun e w'=>e=.returned (.int .i64 (D.wres (i*(room+1):Nat) 1))∧Blk w' sb (stV d room la n lc (dead || (D.wres (i*(room+1):Nat) 1 != 0))) 73∧zM w' d L (D.wr (i*(room+1):Nat) [0])∧Chg (Tri sb d L) w w':=by
 obtain ⟨z,hz⟩:∃ z,z=D.wres (i*(room+1):Nat) 1:=⟨_,rfl⟩
 have c0:w.cell? ⟨sb,0,none⟩=some (.pointer (some ⟨d,0,none⟩)):=by rw [hS.cell];rfl
 have c1:w.cell? ⟨sb,1,none⟩=some (.int .i64 room):=by rw [hS.cell];rfl
 have d0:(w.alloc (.cells #[.int .u8 0] 5)).cell? ⟨sb,0,none⟩=some (.pointer (some ⟨d,0,none⟩)):=by rw [(hS.alloc _).cell];rfl
 have d1:(w.alloc (.cells #[.int .u8 0] 5)).cell? ⟨sb,1,none⟩=some (.int .i64 room):=by rw [(hS.alloc _).cell];rfl
 have hb0:Below w.heap.size w (w.alloc (.cells #[.int .u8 0] 5)).drew:=below_drewN ((Below.refl _ _).alloc (Nat.le_refl _) _) 1
 have q1:IntKind.i64.wrap ((room:Int)+1)=(room:Int)+1:=IntWalk.i64_in _ (by omega)
 have hm:i*(room+1)≤1024*1025:=Nat.mul_le_mul hi2 (by omega)
 have e2:(i:Int)*((room:Int)+1)=((i*(room+1):Nat):Int):=by push_cast;rfl
 have q2:IntKind.i64.wrap ((i:Int)*((room:Int)+1))=(i:Int)*((room:Int)+1):=IntWalk.i64_in _ (by rw [e2];omega)
 rw [← hz]
 have HS:=Lib.hid hS;have HD:=Lib.hid hD;have Hz:=Lib.hid hz;have E2:=Lib.hid e2;have Hb0:=Lib.hid hb0
 clear hS hD hz e2 hm hb0
 go_enter Tryz.func30,Tryz.ntmps30
 go_wp2_with fail
 go_region_held3 (fun w'=>w'.cell? ⟨sb,0,none⟩=some (.pointer (some ⟨d,0,none⟩))∧w'.cell? ⟨sb,1,none⟩=some (.int .i64 room)) (first | exact ⟨c0,c1⟩ | exact ⟨d0,d1⟩ | assumption)
  (first
   | (go_at_call 54
      rw [E2.out]
      refine (zDO d L D (i*(room+1):Nat) _ [0] _ (HD.out.below Hb0.out) (Bys.drewN (zAv w 0 (.int .u8 0) rfl 5) 1) hw).mono ?_
      rintro e w2 ⟨rfl,hD2,hc2⟩
      have hS2:=hc2.blk (HS.out.kept Hb0.out) (fun h=>by rcases h with h | h;exact hne.1 h;exact hne.2 h)
      have hh:w2.cell? ⟨sb,0,none⟩=some (.pointer (some ⟨d,0,none⟩))∧w2.cell? ⟨sb,1,none⟩=some (.int .i64 room):=⟨hS2.cell 0,hS2.cell 1⟩
      rw [show ([0]:List UInt8).length=1 from rfl,← Hz.out]))
 have HS2:=Lib.hid hS2;have HD2:=Lib.hid hD2
 have HC2:=Lib.hid (show Chg (Tri sb d L) w w2 from (Chg.of_below Hb0.out).trans (hc2.mono fun b h=>.inr h))
 have g2:w2.cell? ⟨sb,2,none⟩=some (.slice la n lc):=hS2.cell 2
 have g3:w2.cell? ⟨sb,3,none⟩=some (.bool dead):=hS2.cell 3
 have f3:=hS2.free 3
 clear hS2 hD2 hc2 hh q1 q2 c0 c1 d0 d1
 by_cases h0:z=0
 · subst h0
   go_wp2
   go_ret
   exact ⟨rfl,by simpa using HS2.out,HD2.out,HC2.out⟩
 · have t0:(z != 0)=true:=by simpa using h0
   clear h0
   go_wp2
   go_ret
   refine ⟨rfl,?_,HD2.out.chg (chg1 _ _ _ _) (fun e=>hne.1 e.symm) (fun e=>hne.2 e.symm),HC2.out.set (.inl rfl) _⟩
   rw [t0,Bool.or_true]
   exact HS2.out.set 3 (.bool true)
def zA5 (D:zA) (room i:Nat):Nat→List UInt8
 | 0=>[]
 | k+1=>zA5 D room i k++D.sector (i*(room+1)+1+k)
theorem zBn (D:zA) (room i k:Nat):(zA5 D room i k).length=k*32:=by
 induction k with
 | zero=>rfl
 | succ k ih=>rw [zA5,List.length_append,ih,zCV];omega
def readR (D:zA) (room i:Nat):Sto.Rec × Int × Bool :=
 if D.dead=true then (Sto.Rec.free,8,false)
 else if D.f (i*(room+1)*32)≠1 then (Sto.Rec.free,0,false)
 else match Sto.parse (zA5 D room i room) with
  | some r=>(r,0,false)
  | none=>(Sto.Rec.free,D.wres (i*(room+1):Nat) 1,true)
def zH5 (r:Sto.Rec) (dv:Value):Array Value:=#[.bool r.is,.string r.name,.int .i64 r.num,dv]
def zCB (sb d L room n lc i:Nat) (la:Option Addr) (dead:Bool) (D:zA) (w:World) (e:Ending) (w':World):Prop :=
 ∃ dv,e=.returned (.tuple #[.agg (zH5 (readR D room i).1 dv),.int .i64 (readR D room i).2.1])∧zP 5 w' w.heap.size dv (readR D room i).1.data ∧
  Blk w' sb (stV d room la n lc (dead || ((readR D room i).2.2 && ((readR D room i).2.1 != 0)))) 73∧zM w' d L (if (readR D room i).2.2=true then D.wr (i*(room+1):Nat) [0] else D)∧Chg (Tri sb d L) w w'
set_option maxRecDepth 20000 in
set_option maxHeartbeats 4000000 in
theorem zJB (sb d L room n lc i:Nat) (la:Option Addr) (dead:Bool) (D:zA) (w:World) (hS:Blk w sb (stV d room la n lc dead) 73) (hD:zM w d L D) (hne:sb≠d∧sb≠L) (hi:n≤i) (hi2:i≤1024) (hr:room≤1024) (hr1:1≤room) (hin:(i+1)*(room+1)≤D.n) (hw:D.writes < 4611686018427387904) :
  Calls Tryz.prog 28 #[.pointer (some ⟨sb,0,none⟩),.int .i64 i] w (zCB sb d L room n lc i la dead D w):=by
 have c0:w.cell? ⟨sb,0,none⟩=some (.pointer (some ⟨d,0,none⟩)):=by rw [hS.cell];rfl
 have c1:w.cell? ⟨sb,1,none⟩=some (.int .i64 room):=by rw [hS.cell];rfl
 have hmul:(i+1)*(room+1)=i*(room+1)+(room+1):=by rw [Nat.add_mul,Nat.one_mul]
 have hn2:D.n≤4096:=by obtain ⟨_,_,_,_,_,_,_,_,_,h,_⟩:=hD;exact h
 obtain ⟨m,hm⟩:∃ m,m=i*(room+1):=⟨_,rfl⟩
 have e2:(i:Int)*((room:Int)+1)=(m:Int):=by rw [hm];push_cast;rfl
 rw [hmul,← hm] at hin
 have hb0:Below w.heap.size w ((w.alloc (.cells #[.bool false,.string { data:=#[] },.int .i64 0,.slice none 0 0] 75)).drew):=below_drewN ((Below.refl _ _).alloc (Nat.le_refl _) _) 1
 have hR0:=Blk.new w #[.bool false,.string { data:=#[] },.int .i64 0,.slice none 0 0] 75
 have d0:(w.alloc (.cells #[.bool false,.string { data:=#[] },.int .i64 0,.slice none 0 0] 75)).cell? ⟨sb,0,none⟩=some (.pointer (some ⟨d,0,none⟩)):=by rw [(hS.alloc _).cell];rfl
 have d1:(w.alloc (.cells #[.bool false,.string { data:=#[] },.int .i64 0,.slice none 0 0] 75)).cell? ⟨sb,1,none⟩=some (.int .i64 room):=by rw [(hS.alloc _).cell];rfl
 have q1:IntKind.i64.wrap ((room:Int)+1)=(room:Int)+1:=IntWalk.i64_in _ (by omega)
 have q2:IntKind.i64.wrap ((i:Int)*((room:Int)+1))=(i:Int)*((room:Int)+1):=IntWalk.i64_in _ (by rw [e2];omega)
 have HS:=Lib.hid hS;have HD:=Lib.hid hD;have Hb0:=Lib.hid hb0;have E2:=Lib.hid e2;have Hm:=Lib.hid hm;have HR0:=Lib.hid hR0
 clear hS hD hb0 e2 hm hR0 hmul
 go_enter Tryz.func28,Tryz.ntmps28
 go_wp2_with fail
 go_region_held3 (fun w'=>w'.cell? ⟨sb,0,none⟩=some (.pointer (some ⟨d,0,none⟩))∧w'.cell? ⟨sb,1,none⟩=some (.int .i64 room)) (first | exact ⟨d0,d1⟩ | assumption)
  (first
   | (go_at_call 52
      rw [E2.out]
      refine (zF0 d L D (m:Nat) _ (HD.out.below Hb0.out)).mono ?_
      rintro e w2 ⟨rv,rfl,hrv,hb2⟩
      have hbox2:=HR0.out.drew.below hb2 (by simp)
      have hb2:Below w.heap.size w w2:=Hb0.out.trans (hb2.mono (by simp))
      have hS2:=HS.out.kept hb2
      have hh:w2.cell? ⟨sb,0,none⟩=some (.pointer (some ⟨d,0,none⟩))∧w2.cell? ⟨sb,1,none⟩=some (.int .i64 room):=⟨hS2.cell 0,hS2.cell 1⟩))
 have hR2:Blk w2 w.heap.size #[.bool false,.string { data:=#[] },.int .i64 0,.slice none 0 0] 75:=hbox2
 have HRV:=Lib.hid hrv;have HS2:=Lib.hid hS2;have HB2:=Lib.hid hb2;have HR2:=Lib.hid hR2
 have d0:w2.cell? ⟨w.heap.size,0,none⟩=some (.bool false):=hR2.cell 0
 have d1:w2.cell? ⟨w.heap.size,1,none⟩=some (.string { data:=#[] }):=hR2.cell 1
 have d2:w2.cell? ⟨w.heap.size,2,none⟩=some (.int .i64 0):=hR2.cell 2
 have d3:w2.cell? ⟨w.heap.size,3,none⟩=some (.slice none 0 0):=hR2.cell 3
 have f0:=hR2.free 0;have f1:=hR2.free 1;have f2:=hR2.free 2;have f3:=hR2.free 3
 clear hrv hS2 hb2 hR2 hh hbox2 c0 c1 q1 q2
 have HF:=Lib.hid (chg4 w2 w.heap.size)
 by_cases hdead:D.dead=true
 · have Hrr:=Lib.hid (show D.rres (m:Nat)=8 from by unfold zA.rres;rw [if_pos (zA.may_yes (by omega)),if_pos hdead])
   have HRD:=Lib.hid (show readR D room i=(Sto.Rec.free,8,false) from by unfold readR;rw [if_pos hdead])
   clear hdead
   rw [Hrr.out]
   go_wp2
   refine bodyPost_ret (v:=.tuple #[.agg #[.bool false,.string { data:=#[] },.int .i64 0,.slice none 0 0],.int .i64 8]) (by simp [results,Tryz.results28,go_sem,d0,d1,d2,d3]) rfl ?_
   unfold zCB
   rw [HRD.out]
   exact ⟨_,rfl,zP.nil _ _ _,by simpa using (HS2.out.chg4 (show sb≠w.heap.size from Nat.ne_of_lt HS.out.lt) _ _ _ _),zM.chg (HD.out.below HB2.out) (HF.out _ _ _ _) (fun e=>by have:=HD.out.lt.1;omega) (fun e=>by have:=HD.out.lt.2;omega),zCE (Chg.of_below HB2.out) (HF.out _ _ _ _) (fun k hk=>by omega)⟩
 · have hdead:D.dead=false:=by simpa using hdead
   have Hrr:=Lib.hid (show D.rres (m:Nat)=0 from by unfold zA.rres;rw [if_pos (zA.may_yes (by omega)),if_neg (by rw [hdead];decide)])
   have Hrd:=Lib.hid (show D.rd (m:Nat)=D.sector m from by unfold zA.rd;rw [if_pos ⟨zA.may_yes (by omega),hdead⟩];simp)
   have hrv:=HRV.out
   rw [Hrd.out] at hrv
   obtain ⟨ra,rc,rfl⟩:=hrv.bys.eq_slice
   obtain ⟨b1,o1,e1,g0⟩:=Bys.byte hrv.bys 0 (by rw [zCV];decide)
   subst e1
   have g0:w2.cell? ⟨b1,o1,none⟩=some (.int .u8 ((D.f (m*32)).toNat:Nat)):=by
    have e:(D.sector m).getD 0 0=D.f (m*32):=by rw [List.getD_eq_getElem?_getD,zFV _ _ _ (by decide)];rfl
    rw [← e];exact g0
   rw [zCV,Hrr.out]
   have Hdead:=Lib.hid hdead
   clear hrv hdead
   by_cases h1:D.f (m*32)=1
   · rw [h1] at g0
     have g0:w2.cell? ⟨b1,o1,none⟩=some (.int .u8 1):=g0
     have H1:=Lib.hid h1
     clear h1
     go_wp2_with fail
     have Q1:=Lib.hid (show IntKind.i64.wrap ((room:Int)+1)=(room:Int)+1 from IntWalk.i64_in _ (by omega))
     have Q2:=Lib.hid (show IntKind.i64.wrap ((i:Int)*((room:Int)+1))=(i:Int)*((room:Int)+1) from IntWalk.i64_in _ (by rw [E2.out];omega))
     have Q3:=Lib.hid (show IntKind.i64.wrap ((i:Int)*((room:Int)+1)+1)=(i:Int)*((room:Int)+1)+1 from IntWalk.i64_in _ (by rw [E2.out];omega))
     have Q4:=Lib.hid (fun (k:Nat) (hk:k < room)=>(show IntKind.i64.wrap ((i:Int)*((room:Int)+1)+1+(k:Int))=(i:Int)*((room:Int)+1)+1+(k:Int) from IntWalk.i64_in _ (by rw [E2.out];omega)))
     have hs2:=HB2.out.size
     have hlt2:=HR2.out.lt
     have hltD:=HD.out.lt
     have hltS:=HS.out.lt
     go_loopw [8,43] (fun u v wr=>∃ k:Nat,k≤room∧v=.int .i64 k∧zP 5 wr w2.heap.size u (zA5 D room i k)∧Below w2.heap.size w2 wr) (fun _ v _=>room - (intOf v).toNat)
     case atStart=>exact ⟨0,by omega,rfl,zP.nil _ _ _,Below.refl _ _⟩
     case round =>
      clear d0 d1 d2 d3 f0 f1 f2 f3 g0
      obtain ⟨k,hk,rfl,ho,hb⟩:=hrel
      have hSr:=HS2.out.kept hb
      by_cases hkr:k < room
      · have a0:wr.cell? ⟨sb,0,none⟩=some (.pointer (some ⟨d,0,none⟩)):=hSr.cell 0
        have a1:wr.cell? ⟨sb,1,none⟩=some (.int .i64 room):=hSr.cell 1
        have q1:=Q1.out;have q2:=Q2.out;have q3:=Q3.out;have q4:=Q4.out k hkr
        have HSr:=Lib.hid hSr;have Hbr:=Lib.hid hb;have HO:=Lib.hid ho
        have hrr:=Lib.hid (show D.rres ((m+1+k:Nat):Int)=0 from by unfold zA.rres;rw [if_pos (zA.may_yes (by omega)),if_neg (by rw [Hdead.out];decide)])
        have hrd:=Lib.hid (show D.rd ((m+1+k:Nat):Int)=D.sector (m+1+k) from by unfold zA.rd;rw [if_pos ⟨zA.may_yes (by omega),Hdead.out⟩,Int.toNat_natCast])
        have E3:=Lib.hid (show (i:Int)*((room:Int)+1)+1+(k:Int)=((m+1+k:Nat):Int) from by rw [E2.out];push_cast;rfl)
        clear hSr hb ho
        go_wp2_with fail
        go_region_held3 (fun w'=>w'.cell? ⟨sb,0,none⟩=some (.pointer (some ⟨d,0,none⟩))∧w'.cell? ⟨sb,1,none⟩=some (.int .i64 room)) (first | exact ⟨a0,a1⟩ | assumption)
         (first
          | (go_at_call 52
             rw [E3.out]
             refine (zF0 d L D ((m+1+k:Nat):Int) _ ((HD.out.below (HB2.out.trans (Hbr.out.mono hs2))).drewN 1)).mono ?_
             rintro e w4 ⟨rv,rfl,hrv,hb4⟩
             have hb4:Below wr.heap.size wr w4:=zCN hb4
             have hS4:=HSr.out.kept hb4
             have hh:w4.cell? ⟨sb,0,none⟩=some (.pointer (some ⟨d,0,none⟩))∧w4.cell? ⟨sb,1,none⟩=some (.int .i64 room):=⟨hS4.cell 0,hS4.cell 1⟩
             rw [hrd.out] at hrv
             rw [hrr.out]))
        have HS4:=Lib.hid hS4;have HB4:=Lib.hid hb4;have HRV4:=Lib.hid hrv.bys
        have hsr:=Hbr.out.size
        have hs4:=HB4.out.size
        have hlt8:=HO.out.lt
        have hln:=zBn D room i k
        have Hfin:=Lib.hid (show zA5 D room i (k+1)=zA5 D room i k++D.sector (m+1+k) from by rw [zA5,Hm.out])
        clear hS4 hb4 hrv hh q1 q2 q3 q4 a0 a1
        go_wp2_with (at_builtin;refine zBL E8c rfl _ _ rfl (base:=w2.heap.size) (news:=D.sector (m+1+k)) rfl rfl (HO.out.below HB4.out) HRV4.out ?z1 ?z2 ?_)
        case z1 =>
         have hm2:k*32≤1024*32:=Nat.mul_le_mul (by omega) (Nat.le_refl _)
         rw [hln,zCV];omega
        case z2=>omega
        intro v5 w5 ho5 hg5
        have hb5:=zN (Hbr.out.trans (HB4.out.mono hsr)) hg5 (fun q hq=>(hlt8 q hq).1)
        rw [← Hfin.out] at ho5
        clear hg5 hln
        go_wp2
        exact ⟨⟨k+1,by omega,by go_num,ho5,hb5⟩,by simp [intOf] <;> omega⟩
      · obtain rfl:k=room:=by omega
        have hbox:=HR2.out.kept hb
        have hDr:=HD.out.below (HB2.out.trans (hb.mono hs2))
        have hBr:=HB2.out.trans (hb.mono hs2)
        have hlen:=zBn D k i k
        have HBX:=Lib.hid hbox;have HDR:=Lib.hid hDr;have HBR:=Lib.hid hBr;have HO:=Lib.hid ho;have HSR:=Lib.hid hSr
        have hsr:=hb.size
        clear hbox hDr hBr hSr hb
        go_wp2_with fail
        refine (zHx _ _ wr HO.out.bys (by
         have hm2:k*32≤1024*32:=Nat.mul_le_mul (by omega) (Nat.le_refl _)
         rw [hlen];omega)).mono ?_
        rintro e w6 ⟨hb6,⟨r,hp,dv,rfl,hdv⟩ | ⟨hp,v,rfl,hv⟩⟩
        · have HRD:=Lib.hid (show readR D k i=(r,0,false) from by unfold readR;rw [if_neg (by rw [Hdead.out];decide),← Hm.out,if_neg (by rw [H1.out];decide),hp])
          have hri:r.is=true:=by
           unfold Sto.parse at hp
           split at hp
           · cases hp
           · split at hp
             · injection hp with hp;rw [← hp]
             · cases hp
          obtain ⟨da,dc,rfl⟩:=hdv.eq_slice
          have hbox6:=HBX.out.kept hb6
          have HB6:=Lib.hid (HBR.out.trans (hb6.mono (Nat.le_trans hs2 hsr)))
          have h6s:=hb6.size
          have x0:w6.cell? ⟨w.heap.size,0,none⟩=some (.bool false):=hbox6.cell 0
          have x1:w6.cell? ⟨w.heap.size,1,none⟩=some (.string { data:=#[] }):=hbox6.cell 1
          have x2:w6.cell? ⟨w.heap.size,2,none⟩=some (.int .i64 0):=hbox6.cell 2
          have x3:w6.cell? ⟨w.heap.size,3,none⟩=some (.slice none 0 0):=hbox6.cell 3
          have y0:∀ o,(w6.alloc o).cell? ⟨w.heap.size,0,none⟩=some (.bool false):=fun o=>(hbox6.alloc o).cell 0
          have y1:∀ o,(w6.alloc o).cell? ⟨w.heap.size,1,none⟩=some (.string { data:=#[] }):=fun o=>(hbox6.alloc o).cell 1
          have y2:∀ o,(w6.alloc o).cell? ⟨w.heap.size,2,none⟩=some (.int .i64 0):=fun o=>(hbox6.alloc o).cell 2
          have y3:∀ o,(w6.alloc o).cell? ⟨w.heap.size,3,none⟩=some (.slice none 0 0):=fun o=>(hbox6.alloc o).cell 3
          have z0:∀ o,(w6.alloc o).frozen? ⟨w.heap.size,0,none⟩=false:=fun o=>(hbox6.alloc o).free 0
          have z1:∀ o,(w6.alloc o).frozen? ⟨w.heap.size,1,none⟩=false:=fun o=>(hbox6.alloc o).free 1
          have z2:∀ o,(w6.alloc o).frozen? ⟨w.heap.size,2,none⟩=false:=fun o=>(hbox6.alloc o).free 2
          have z3:∀ o,(w6.alloc o).frozen? ⟨w.heap.size,3,none⟩=false:=fun o=>(hbox6.alloc o).free 3
          have HF6:=Lib.hid (fun (o:Obj)=>chg4 (w6.alloc o) w.heap.size)
          have HS6:=Lib.hid (fun (o:Obj)=>(HS.out.kept HB6.out).alloc o)
          have HD6:=Lib.hid (fun (o:Obj)=>(HD.out.below HB6.out).below ((Below.refl _ _).alloc (Nat.le_refl _) o))
          have HDV:=Lib.hid (fun (o:Obj)=>hdv.alloc o)
          have HP:=Lib.hid hp;have HRI:=Lib.hid hri
          clear hp hri hbox6 hb6 hdv
          go_wp2
          refine bodyPost_ret (v:=.tuple #[.agg #[.bool true,.string r.name,.int .i64 (r.num:Int),.slice da r.data.length dc],.int .i64 0]) (by simp [results,Tryz.results28,go_sem,y0,y1,y2,y3]) rfl ?_
          unfold zCB
          rw [HRD.out]
          refine ⟨.slice da r.data.length dc,by rw [zH5,HRI.out],?_,by simpa using ((HS6.out _).chg4 (show sb≠w.heap.size from Nat.ne_of_lt hltS) _ _ _ _),zM.chg (HD6.out _) (HF6.out _ _ _ _ _) (fun e=>by omega) (fun e=>by omega),zCE (Chg.of_below (HB6.out.alloc HB6.out.size _)) (HF6.out _ _ _ _ _) (fun k hk=>by omega)⟩
          exact ((HDV.out _).chg (HF6.out _ _ _ _ _) (fun g hg e=>by have:=((HDV.out (.cells #[] 0)).lt g hg).1;omega)).mono (by omega)
        · obtain ⟨vb,vs,vz,vd,rfl,da,dl,dc,rfl⟩:=hv
          have HRD:=Lib.hid (show readR D k i=(Sto.Rec.free,D.wres (i*(k+1):Nat) 1,true) from by unfold readR;rw [if_neg (by rw [Hdead.out];decide),← Hm.out,if_neg (by rw [H1.out];decide),hp])
          have hbox6:=HBX.out.kept hb6
          have hal:∀ o,Below w6.heap.size w6 (w6.alloc o):=fun o=>(Below.refl _ _).alloc (Nat.le_refl _) o
          have HB6:=Lib.hid (HBR.out.trans (hb6.mono (Nat.le_trans hs2 hsr)))
          have h6s:=hb6.size
          have HF6:=Lib.hid (fun (o:Obj)=>zK0 sb d L k n lc i la dead D (w6.alloc o) ((HS.out.kept HB6.out).alloc o) ((HD.out.below HB6.out).below (hal o)) hne hi hi2 hr hw)
          have HX6:=Lib.hid (fun (o:Obj)=>hbox6.alloc o)
          have HAL:=Lib.hid hal
          clear hp hbox6 hb6 hal
          go_wp2_with fail
          refine (HF6.out _).mono ?_
          rintro e w7 ⟨rfl,hS7,hD7,hc7⟩
          have hdn:¬ Tri sb d L w.heap.size:=fun e=>by rcases e with e | e | e <;> omega
          have hbox7:=hc7.blk (HX6.out _) hdn
          have x0:w7.cell? ⟨w.heap.size,0,none⟩=some (.bool false):=hbox7.cell 0
          have x1:w7.cell? ⟨w.heap.size,1,none⟩=some (.string { data:=#[] }):=hbox7.cell 1
          have x2:w7.cell? ⟨w.heap.size,2,none⟩=some (.int .i64 0):=hbox7.cell 2
          have x3:w7.cell? ⟨w.heap.size,3,none⟩=some (.slice none 0 0):=hbox7.cell 3
          have z0:=hbox7.free 0;have z1:=hbox7.free 1;have z2:=hbox7.free 2;have z3:=hbox7.free 3
          obtain ⟨z,hz⟩:∃ z,z=D.wres (i*(k+1):Nat) 1:=⟨_,rfl⟩
          rw [← hz] at hS7 ⊢
          have Hz:=Lib.hid hz;have HS7:=Lib.hid hS7;have HD7:=Lib.hid hD7
          have HC7:=Lib.hid (show Chg (Tri sb d L) w w7 from (Chg.of_below (HB6.out.alloc HB6.out.size _)).trans hc7)
          have HF7:=Lib.hid (chg4 w7 w.heap.size)
          clear hz hS7 hD7 hc7 hbox7
          go_wp2
          refine bodyPost_ret (v:=.tuple #[.agg #[.bool false,.string { data:=#[] },.int .i64 0,.slice none 0 0],.int .i64 z]) (by simp [results,Tryz.results28,go_sem,x0,x1,x2,x3]) rfl ?_
          unfold zCB
          rw [HRD.out,← Hz.out]
          exact ⟨_,rfl,zP.nil _ _ _,by simpa using (HS7.out.chg4 (show sb≠w.heap.size from Nat.ne_of_lt hltS) _ _ _ _),zM.chg HD7.out (HF7.out _ _ _ _) (fun e=>by omega) (fun e=>by omega),zCE HC7.out (HF7.out _ _ _ _) (fun k hk=>by omega)⟩
   · have HRD:=Lib.hid (show readR D room i=(Sto.Rec.free,0,false) from by unfold readR;rw [if_neg (by rw [Hdead.out];decide),← Hm.out,if_pos h1])
     obtain ⟨u1,hu1⟩:∃ u1,u1=D.f (m*32):=⟨_,rfl⟩
     rw [← hu1] at g0 h1
     have t1:(((u1.toNat:Nat):Int) != 1)=true:=zDS (k:=1) (by decide) h1
     clear hu1 h1
     go_wp2
     refine bodyPost_ret (v:=.tuple #[.agg #[.bool false,.string { data:=#[] },.int .i64 0,.slice none 0 0],.int .i64 0]) (by simp [results,Tryz.results28,go_sem,d0,d1,d2,d3]) rfl ?_
     unfold zCB
     rw [HRD.out]
     exact ⟨_,rfl,zP.nil _ _ _,by simpa using (HS2.out.chg4 (show sb≠w.heap.size from Nat.ne_of_lt HS.out.lt) _ _ _ _),zM.chg (HD.out.below HB2.out) (HF.out _ _ _ _) (fun e=>by have:=HD.out.lt.1;omega) (fun e=>by have:=HD.out.lt.2;omega),zCE (Chg.of_below HB2.out) (HF.out _ _ _ _) (fun k hk=>by omega)⟩
end Go.Proofs.YtdlkghdfkjdajaaGreatDoor
end
section
namespace Go.Mem
open Go Go.RowKit Gf
def zAo (w:World) (N:Nat→Prop) (v:Value) (bs:List UInt8):Prop :=
 Bys w v bs∧∃ a c,v=.slice a bs.length c∧∀ b,a=some b→b.block < w.heap.size∧¬ N b.block
theorem zAo.nil (w:World) (N:Nat→Prop):zAo w N (.slice none 0 0) []:=⟨Bys.nil _,none,0,rfl,fun b h=>by cases h⟩
theorem Bys.chg {S:Nat→Prop} {w w':World} {v:Value} {bs:List UInt8} (h:Bys w v bs) (hc:Chg S w w') (hs:∀ a l c,v=.slice (some a) l c→¬ S a.block):Bys w' v bs:=by
 obtain ⟨a,cap,rfl,h1,h2,h3⟩:=h
 refine ⟨a,cap,rfl,h1,h2,fun hp=>?_⟩
 obtain ⟨b,off,rfl,hcell⟩:=h3 hp
 refine ⟨b,off,rfl,fun i u hi=>?_⟩
 have hx:=hcell i u hi
 have hlt:b < w.heap.size:=World.block_lt_of_cell? w ⟨b,off+i,none⟩ hx
 have hb:=hc.block b hlt (hs _ _ _ rfl)
 unfold World.cell? at hx ⊢
 rw [hb];exact hx
theorem zAo.chg {S N:Nat→Prop} {w w':World} {v:Value} {bs:List UInt8} (h:zAo w N v bs) (hc:Chg S w w') (hs:∀ b,S b→b < w.heap.size→N b):zAo w' N v bs:=by
 obtain ⟨h1,a,c,rfl,h2⟩:=h
 refine ⟨h1.chg hc (fun a' l c' e hS=>?_),a,c,rfl,fun b hb=>⟨Nat.lt_of_lt_of_le (h2 b hb).1 hc.size,(h2 b hb).2⟩⟩
 injection e with e1 _ _
 obtain ⟨hb1,hb2⟩:=h2 a' e1
 exact hb2 (hs _ hS hb1)
theorem zAo.mono {N M:Nat→Prop} {w:World} {v:Value} {bs:List UInt8} (h:zAo w N v bs) (hM:∀ b,M b→N b∨w.heap.size≤b):zAo w M v bs:=by
 obtain ⟨h1,a,c,rfl,h2⟩:=h
 refine ⟨h1,a,c,rfl,fun b hb=>⟨(h2 b hb).1,fun hm=>?_⟩⟩
 rcases hM _ hm with h | h
 · exact (h2 b hb).2 h
 · have:=(h2 b hb).1;omega
theorem zP.data {t8:TypeId} {w:World} {base:Nat} {v:Value} {bs:List UInt8} {N:Nat→Prop} (h:zP t8 w base v bs) (hN:∀ b,base≤b→b < w.heap.size→¬ N b):zAo w N v bs:=by
 refine ⟨h.bys,?_⟩
 rcases h with ⟨rfl,rfl⟩ | ⟨g,cap,arr,fz,rfl,h2,h3,_⟩
 · exact ⟨none,0,rfl,fun b h=>by cases h⟩
 · exact ⟨_,cap,rfl,fun b hb=>by cases hb;exact ⟨lt_of_block h3,hN _ h2 (lt_of_block h3)⟩⟩
def zAm:List Sto.Rec→List Value→List Value
 | r::l,v::vs=>[.bool r.is,.string r.name,.int .i64 r.num,v]++zAm l vs
 | _,_=>[]
theorem zGI:∀ (l:List Sto.Rec) (vs:List Value),vs.length=l.length→(zAm l vs).length=l.length*4
 | [],[],_=>rfl
 | r::l,v::vs,h=>by
   simp only [zAm,List.length_append,List.length_cons,List.length_nil]
   have:=zGI l vs (by simpa using h)
   omega
theorem zFM:∀ (l:List Sto.Rec) (vs:List Value) (r:Sto.Rec) (v:Value),vs.length=l.length→zAm (l++[r]) (vs++[v])=zAm l vs++[.bool r.is,.string r.name,.int .i64 r.num,v]
 | [],[],r,v,_=>rfl
 | r'::l,v'::vs,r,v,h=>by
   simp only [List.cons_append,zAm,List.append_assoc]
   rw [zFM l vs r v (by simpa using h)]
theorem zGH:∀ (l:List Sto.Rec) (vs:List Value) (i:Nat) (r:Sto.Rec) (v:Value),l[i]?=some r→vs[i]?=some v →
  (zAm l vs)[i*4]?=some (.bool r.is)∧(zAm l vs)[i*4+1]?=some (.string r.name)∧(zAm l vs)[i*4+2]?=some (.int .i64 r.num)∧(zAm l vs)[i*4+3]?=some v
 | r::l,v::vs,0,r',v',h1,h2=>by
   simp at h1 h2
   subst h1 h2
   exact ⟨rfl,rfl,rfl,rfl⟩
 | r::l,v::vs,i+1,r',v',h1,h2=>by
   have:=zGH l vs i r' v' (by simpa using h1) (by simpa using h2)
   have e:∀ j,(zAm (r::l) (v::vs))[(i+1)*4+j]?=(zAm l vs)[i*4+j]?:=fun j=>by
    rw [zAm,List.getElem?_append_right (by simp;omega)]
    congr 1
    simp;omega
   exact ⟨by rw [show (i+1)*4=(i+1)*4+0 from rfl,e];exact this.1,by rw [e];exact this.2.1,by rw [e];exact this.2.2.1,by rw [e];exact this.2.2.2⟩
 | [],_,i,r,v,h1,_=>by simp at h1
 | _::_,[],i,r,v,_,h2=>by simp at h2
def zAk (t:TypeId) (w:World) (N:Nat→Prop) (lb:Nat) (l:List Sto.Rec):Prop :=
 ∃ (arr:Array Value) (vs:List Value),Blk w lb arr t∧l.length*4≤arr.size∧vs.length=l.length∧(∀ j,j < l.length*4→arr[j]?=(zAm l vs)[j]?)∧∀ (i:Nat) (r:Sto.Rec) (v:Value),l[i]?=some r→vs[i]?=some v→zAo w N v r.data
section
variable {t:TypeId} {w w':World} {N S:Nat→Prop} {lb:Nat} {l:List Sto.Rec}
theorem zAk.lt (h:zAk t w N lb l):lb < w.heap.size:=by obtain ⟨_,_,h,_⟩:=h;exact h.lt
theorem zAk.chg (h:zAk t w N lb l) (hc:Chg S w w') (h1:¬ S lb) (hs:∀ b,S b→b < w.heap.size→N b):zAk t w' N lb l:=by
 obtain ⟨arr,vs,hB,a,b,c,d⟩:=h
 exact ⟨arr,vs,hc.blk hB h1,a,b,c,fun i r v hr hv=>(d i r v hr hv).chg hc hs⟩
theorem zAk.below (h:zAk t w N lb l) (hb:Below w.heap.size w w'):zAk t w' N lb l:=h.chg (S:=fun _=>False) (Chg.of_below hb) id (fun _ h=>h.elim)
theorem zAk.mono {M:Nat→Prop} (h:zAk t w N lb l) (hM:∀ b,M b→N b∨w.heap.size≤b):zAk t w M lb l:=by
 obtain ⟨arr,vs,hB,a,b,c,d⟩:=h
 exact ⟨arr,vs,hB,a,b,c,fun i r v hr hv=>(d i r v hr hv).mono hM⟩
theorem zAk.at (h:zAk t w N lb l) {i:Nat} {r:Sto.Rec} (hr:l[i]?=some r):∃ a c,w.cell? ⟨lb,i*4,none⟩=some (.bool r.is)∧w.cell? ⟨lb,i*4+1,none⟩=some (.string r.name)∧w.cell? ⟨lb,i*4+2,none⟩=some (.int .i64 r.num)∧w.cell? ⟨lb,i*4+3,none⟩=some (.slice a r.data.length c) ∧
  zAo w N (.slice a r.data.length c) r.data∧(∀ j,w.frozen? ⟨lb,j,none⟩=false):=by
 obtain ⟨arr,vs,hB,h1,h2,h3,h4⟩:=h
 have hi:i < l.length:=by
  rcases Nat.lt_or_ge i l.length with h | h
  · exact h
  · rw [List.getElem?_eq_none h] at hr;cases hr
 have hd:=h4 i r vs[i] hr (by simp [h2,hi])
 obtain ⟨a,c,e,_⟩:=id hd.2
 obtain ⟨g0,g1,g2,g3⟩:=zGH l vs i r vs[i] hr (by simp [h2,hi])
 rw [e] at g3 hd
 exact ⟨a,c,by rw [hB.cell,h3 _ (by omega)];exact g0,by rw [hB.cell,h3 _ (by omega)];exact g1,by rw [hB.cell,h3 _ (by omega)];exact g2,by rw [hB.cell,h3 _ (by omega)];exact g3,hd,fun j=>hB.free j⟩
theorem zGJ:∀ (l:List Sto.Rec) (vs:List Value) (i:Nat) (r:Sto.Rec) (v:Value),vs.length=l.length→i < l.length →
  zAm (l.set i r) (vs.set i v)=((((zAm l vs).set (i*4) (.bool r.is)).set (i*4+1) (.string r.name)).set (i*4+2) (.int .i64 r.num)).set (i*4+3) v
 | r'::l,v'::vs,0,r,v,h,_=>by simp [zAm]
 | r'::l,v'::vs,i+1,r,v,h,hi=>by
   simp only [List.set_cons_succ,zAm]
   rw [zGJ l vs i r v (by simpa using h) (by simpa using hi)]
   have e:∀ (j:Nat) (L:List Value) (x:Value),([.bool r'.is,.string r'.name,.int .i64 r'.num,v']++L).set ((i+1)*4+j) x=[.bool r'.is,.string r'.name,.int .i64 r'.num,v']++L.set (i*4+j) x:=fun j L x=>by
    rw [List.set_append_right _ _ (by simp;omega)]
    congr 2
    simp;omega
   rw [show (i+1)*4=(i+1)*4+0 from rfl,e 0,e 1,e 2,e 3]
   rfl
theorem zAk.set (h:zAk t w N lb l) {i:Nat} (hi:i < l.length) (r:Sto.Rec) (v:Value) (hN:N lb) (hd:zAo w N v r.data) :
  zAk t ((((w.setCell ⟨lb,i*4,none⟩ (.bool r.is)).setCell ⟨lb,i*4+1,none⟩ (.string r.name)).setCell ⟨lb,i*4+2,none⟩ (.int .i64 r.num)).setCell ⟨lb,i*4+3,none⟩ v) N lb (l.set i r):=by
 obtain ⟨arr,vs,hB,h1,h2,h3,h4⟩:=h
 have hc:Chg (fun b=>b=lb) w ((((w.setCell ⟨lb,i*4,none⟩ (.bool r.is)).setCell ⟨lb,i*4+1,none⟩ (.string r.name)).setCell ⟨lb,i*4+2,none⟩ (.int .i64 r.num)).setCell ⟨lb,i*4+3,none⟩ v):=by
  refine Chg.set (S:=fun b=>b=lb) ?_ (a:=⟨lb,i*4+3,none⟩) rfl _
  refine Chg.set (S:=fun b=>b=lb) ?_ (a:=⟨lb,i*4+2,none⟩) rfl _
  refine Chg.set (S:=fun b=>b=lb) ?_ (a:=⟨lb,i*4+1,none⟩) rfl _
  exact Chg.set (S:=fun b=>b=lb) (Chg.refl _ _) (a:=⟨lb,i*4,none⟩) rfl _
 refine ⟨_,vs.set i v,(((hB.set (i*4) (.bool r.is)).set (i*4+1) (.string r.name)).set (i*4+2) (.int .i64 r.num)).set (i*4+3) v,by simpa using h1,by simp [h2],fun j hj=>?_,fun k r' v' hr' hv'=>?_⟩
 · rw [zGJ l vs i r v h2 hi]
   have hl:=zGI l vs h2
   simp only [List.length_set] at hj
   simp only [Array.getElem?_setIfInBounds,List.getElem?_set,Array.size_setIfInBounds,List.length_set,hl,h3 j hj]
   have e1:(i*4 < arr.size)=(i*4 < l.length*4):=by simp;omega
   have e2:(i*4+1 < arr.size)=(i*4+1 < l.length*4):=by simp;omega
   have e3:(i*4+2 < arr.size)=(i*4+2 < l.length*4):=by simp;omega
   have e4:(i*4+3 < arr.size)=(i*4+3 < l.length*4):=by simp;omega
   simp only [e1,e2,e3,e4]
 · rw [List.getElem?_set] at hr' hv'
   by_cases e:i=k
   · subst e
     simp [hi,h2] at hr' hv'
     subst hr' hv'
     exact hd.chg hc (fun b hb _=>by rw [hb];exact hN)
   · rw [if_neg e] at hr' hv'
     exact (h4 k r' v' hr' hv').chg hc (fun b hb _=>by rw [hb];exact hN)
end
structure St where
 room:Nat
 recs:List Sto.Rec
 dead:Bool
 disk:zA
structure St.Ok (s:St):Prop where
 room1:1≤s.room
 room2:s.room≤1024
 len1:1≤s.recs.length
 len2:s.recs.length≤1024
 size:s.disk.n=s.recs.length*(s.room+1)
 each:∀ r∈s.recs,r.name.size≤1000000∧r.data.length≤1000000∧r.num≤72057594037927936+s.disk.writes
 few:s.disk.writes≤72057594037927936
end Go.Mem
namespace Go.Proofs.YtdlkghdfkjdajaaGreatDoor
open Go Go.RowKit Go.Mem Gf
def zAe (sb lb d L:Nat) (b:Nat):Prop:=b=sb∨b=lb∨b=d∨b=L
structure zO (w:World) (N:Nat→Prop) (sb lb d L:Nat) (s:St):Prop where
 blk:∃ cap,Blk w sb (stV d s.room (some ⟨lb,0,none⟩) s.recs.length cap s.dead) 73∧s.recs.length≤cap∧cap≤9223372036854775807
 recs:zAk 75 w N lb s.recs
 disk:zM w d L s.disk
 tab:Tab w
 ntab:¬ N gT
 foot:∀ b,zAe sb lb d L b→N b
 ne:sb≠lb∧sb≠d∧sb≠L∧lb≠d∧lb≠L
 ok:s.Ok
 old:∀ b,N b→b < w.heap.size
theorem zO.chg {w w':World} {N S:Nat→Prop} {sb lb d L:Nat} {s:St} (h:zO w N sb lb d L s) (hc:Chg S w w') (h1:∀ b,zAe sb lb d L b→¬ S b) (hs:∀ b,S b→b < w.heap.size→N b):zO w' N sb lb d L s:=by
 obtain ⟨cap,hB,a,b⟩:=h.blk
 exact ⟨⟨cap,hc.blk hB (h1 _ (.inl rfl)),a,b⟩,h.recs.chg hc (h1 _ (.inr (.inl rfl))) hs,h.disk.chg hc (h1 _ (.inr (.inr (.inl rfl)))) (h1 _ (.inr (.inr (.inr rfl)))),h.tab.chg hc (fun hS=>h.ntab (hs _ hS h.tab.lt)),h.ntab,h.foot,h.ne,h.ok,fun b hb=>Nat.lt_of_lt_of_le (h.old b hb) hc.size⟩
theorem zO.below {w w':World} {N:Nat→Prop} {sb lb d L:Nat} {s:St} (h:zO w N sb lb d L s) (hb:Below w.heap.size w w'):zO w' N sb lb d L s:=h.chg (S:=fun _=>False) (Chg.of_below hb) (fun _ _=>id) (fun _ h=>h.elim)
theorem zO.lt {w:World} {N:Nat→Prop} {sb lb d L:Nat} {s:St} (h:zO w N sb lb d L s):∀ b,zAe sb lb d L b→b < w.heap.size:=by
 intro b hb
 obtain ⟨cap,hB,_⟩:=h.blk
 rcases hb with rfl | rfl | rfl | rfl
 · exact hB.lt
 · exact h.recs.lt
 · exact h.disk.lt.1
 · exact h.disk.lt.2
theorem zO.grow {w w':World} {N M S:Nat→Prop} {sb lb d L:Nat} {s:St} (h:zO w N sb lb d L s) (hc:Chg S w w') (h1:∀ b,zAe sb lb d L b→¬ S b) (hs:∀ b,S b→b < w.heap.size→N b) (hM:∀ b,M b→N b∨w.heap.size≤b) (hNM:∀ b,N b→M b) (hold:∀ b,M b→b < w'.heap.size):zO w' M sb lb d L s:=by
 obtain ⟨cap,hB,a,b⟩:=h.blk
 have hg:¬ M gT:=fun hg=>by
  rcases hM _ hg with h' | h'
  · exact h.ntab h'
  · have:=h.tab.lt;omega
 exact ⟨⟨cap,hc.blk hB (h1 _ (.inl rfl)),a,b⟩,(h.recs.mono hM).chg hc (h1 _ (.inr (.inl rfl))) (fun b hb hlt=>hNM _ (hs b hb hlt)),h.disk.chg hc (h1 _ (.inr (.inr (.inl rfl)))) (h1 _ (.inr (.inr (.inr rfl)))),h.tab.chg hc (fun hS=>h.ntab (hs _ hS h.tab.lt)),hg,fun b hb=>hNM _ (h.foot b hb),h.ne,h.ok,hold⟩
def zBg:Option Nat→Int
 | none=>-1
 | some k=>k
end Go.Proofs.YtdlkghdfkjdajaaGreatDoor
end
