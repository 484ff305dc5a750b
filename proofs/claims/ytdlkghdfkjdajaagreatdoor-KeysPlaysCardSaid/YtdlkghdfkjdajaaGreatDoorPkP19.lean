/- Texts of this proof,packed: Ref10Read. -/
import Derived.Test.YtdlkghdfkjdajaaGreatDoorPkP18
import Derived.Test.YtdlkghdfkjdajaaGreatDoorPkP02
import Derived.Test.YtdlkghdfkjdajaaGreatDoorPkP03
section
namespace Go.Mem
open Go Go.RowKit Gf Go.Proofs.YtdlkghdfkjdajaaGreatDoor
theorem zCP (b:List UInt8):Sto.parse b=match Cod.zy b with
  | none=>none
  | some (x0,r0)=>match Cod.zy r0 with
    | none=>none
    | some (x1,r1)=>if x1.length=4 then (match Cod.zy r1 with
      | none=>none
      | some (x2,_)=>some ⟨true,⟨x0.toArray⟩,Cod.zAh x1,x2⟩) else none:=by
 unfold Sto.parse
 simp only [Sto.takeN]
 cases h0:Cod.zy b with
 | none=>simp
 | some p0 =>
   obtain ⟨x0,r0⟩:=p0
   cases h1:Cod.zy r0 with
   | none=>simp [h1]
   | some p1 =>
     obtain ⟨x1,r1⟩:=p1
     cases h2:Cod.zy r1 with
     | none=>simp [h1,h2]
     | some p2 =>
       obtain ⟨x2,r2⟩:=p2
       simp [h1,h2]
theorem zEj {bs x y:List UInt8} (h:Cod.zy bs=some (x,y)):y.length≤bs.length:=by
 obtain ⟨_,_,_,_,_,_,_,e⟩:=zBj h
 rw [e,List.length_drop]
 omega
theorem zJt {bs x y:List UInt8} (h:Cod.zy bs=some (x,y)):x.length≤bs.length:=by
 obtain ⟨_,_,_,_,_,_,e,_⟩:=zBj h
 rw [e,List.length_take,List.length_drop]
 omega
end Go.Mem
namespace Go.Proofs.YtdlkghdfkjdajaaGreatDoor
open Go Go.RowKit Go.Mem Gf
set_option linter.unusedVariables false
set_option linter.unusedSimpArgs false
attribute [local go_sem ↓] Go.wp_at_zero Go.wp_at_succ
set_option maxRecDepth 20000 in
set_option maxHeartbeats 2000000 in
theorem zFn (v:Value) (bs:List UInt8) (slot:Nat) (w:World) (h:Bys w v bs) (hl:bs.length≤1000000) :
  Calls Tryz.prog 44 #[v,.int .i64 slot] w fun e w'=>Below w.heap.size w w'∧((Sto.parse bs=none∧e=.returned (.tuple #[.agg #[.string { data:=#[] },.int .i64 0,.slice none 0 0,.int .i64 0],.bool false])) ∨
   ∃ x,Sto.parse bs=some x∧∃ a c,e=.returned (.tuple #[.agg #[.string x.name,.int .i64 x.num,.slice a x.data.length c,.int .i64 slot],.bool true])∧zP 5 w' w.heap.size (.slice a x.data.length c) x.data):=by
 obtain ⟨a,c,rfl⟩:=h.eq_slice
 obtain ⟨m,hm⟩:∃ m,m=bs.length:=⟨_,rfl⟩
 rw [← hm] at h hl ⊢
 have hp:=zCP bs
 have H:=Lib.hid (And.intro h (And.intro hp hm))
 clear h hp hm
 go_enter Tryz.func44,Tryz.ntmps44
 go_upto_region 1 with fail
 obtain ⟨p4,hp4⟩:∃ q,q=w.heap.size:=⟨_,rfl⟩
 rw [← hp4]
 obtain ⟨w1,hw1⟩:∃ q,q=w.alloc (.cells #[.string { data:=#[] },.int .i64 0,.slice none 0 0,.int .i64 0] 101):=⟨_,rfl⟩
 rw [← hw1]
 have hk1:Blk w1 p4 #[.string { data:=#[] },.int .i64 0,.slice none 0 0,.int .i64 0] 101:=by rw [hw1,hp4];exact Blk.new _ _ _
 have hb1:Below w.heap.size w w1:=by rw [hw1];exact (Below.refl _ _).alloc (Nat.le_refl _) _
 have H1:=Lib.hid (And.intro hk1 (And.intro hb1 hp4))
 have hv1:=H.out.1.below hb1
 have HV1:=Lib.hid hv1
 clear hk1 hb1 hp4 hw1 hv1
 have hset:∀ w',Below w1.heap.size w1 w'→∀ u0 u1 u2 u3,Below w.heap.size w (((((w').setCell ⟨p4,0,none⟩ u0).setCell ⟨p4,1,none⟩ u1).setCell ⟨p4,2,none⟩ u2).setCell ⟨p4,3,none⟩ u3):=fun w' hb u0 u1 u2 u3=>by
  have hc:Chg (fun b=>b=p4) w (((((w').setCell ⟨p4,0,none⟩ u0).setCell ⟨p4,1,none⟩ u1).setCell ⟨p4,2,none⟩ u2).setCell ⟨p4,3,none⟩ u3) :=
   Chg.set (S:=fun b=>b=p4) (a:=⟨p4,3,none⟩) (Chg.set (S:=fun b=>b=p4) (a:=⟨p4,2,none⟩) (Chg.set (S:=fun b=>b=p4) (a:=⟨p4,1,none⟩) (Chg.set (S:=fun b=>b=p4) (a:=⟨p4,0,none⟩) (Chg.of_below (H1.out.2.1.trans (hb.mono H1.out.2.1.size))) rfl _) rfl _) rfl _) rfl _
  exact hc.below (Nat.le_refl _) (fun k hk=>by rw [hk,H1.out.2.2];exact Nat.le_refl _)
 have HSET:=Lib.hid hset
 clear hset
 have hblk:∀ w',Below w1.heap.size w1 w'→∀ u0 u1 u2 u3,Blk (((((w').setCell ⟨p4,0,none⟩ u0).setCell ⟨p4,1,none⟩ u1).setCell ⟨p4,2,none⟩ u2).setCell ⟨p4,3,none⟩ u3) p4 #[u0,u1,u2,u3] 101:=fun w' hb u0 u1 u2 u3=>by
  have h1:=((((H1.out.1.kept hb).set 0 u0).set 1 u1).set 2 u2).set 3 u3
  simpa using h1
 have HBLK:=Lib.hid hblk
 clear hblk
 have hcel:∀ w',Below w1.heap.size w1 w'→∀ k,w'.cell? ⟨p4,k,none⟩=#[Value.string { data:=#[] },.int .i64 0,.slice none 0 0,.int .i64 0][k]?:=fun w' hb k=>(H1.out.1.kept hb).cell k
 have hfre:∀ w',Below w1.heap.size w1 w'→∀ k,w'.frozen? ⟨p4,k,none⟩=false:=fun w' hb k=>(H1.out.1.kept hb).free k
 have HCF:=Lib.hid (And.intro hcel hfre)
 clear hcel hfre
 go_wp2_with fail
 refine (zCv _ bs w1 HV1.out (by have:=H.out.2.2;omega)).mono ?_
 rintro e w2 ⟨vx,vy,d,rfl,ht⟩
 rcases ht with ⟨hn,rfl,rfl,rfl⟩ | ⟨x0,r0,hs0,rfl,hbx,hby⟩
 · have HQ:=Lib.hid (show Sto.parse bs=none from by rw [H.out.2.1,hn])
   have c0:=HCF.out.1 (w1.drewN d) (below_drewN (Below.refl _ _) _) 0
   have f0:=HCF.out.2 (w1.drewN d) (below_drewN (Below.refl _ _) _) 0
   have c1:=HCF.out.1 (w1.drewN d) (below_drewN (Below.refl _ _) _) 1
   have f1:=HCF.out.2 (w1.drewN d) (below_drewN (Below.refl _ _) _) 1
   have c2:=HCF.out.1 (w1.drewN d) (below_drewN (Below.refl _ _) _) 2
   have f2:=HCF.out.2 (w1.drewN d) (below_drewN (Below.refl _ _) _) 2
   have c3:=HCF.out.1 (w1.drewN d) (below_drewN (Below.refl _ _) _) 3
   have f3:=HCF.out.2 (w1.drewN d) (below_drewN (Below.refl _ _) _) 3
   clear hn
   go_wp2_with fail
   obtain ⟨wE,hwE⟩:∃ q,q=((((((w1.drewN d)).setCell ⟨p4,0,none⟩ (.string { data:=#[] })).setCell ⟨p4,1,none⟩ (.int .i64 0)).setCell ⟨p4,2,none⟩ (.slice none 0 0)).setCell ⟨p4,3,none⟩ (.int .i64 0)):=⟨_,rfl⟩
   have hE:=HSET.out (w1.drewN d) (below_drewN (Below.refl _ _) _) (.string { data:=#[] }) (.int .i64 0) (.slice none 0 0) (.int .i64 0)
   have hB:=HBLK.out (w1.drewN d) (below_drewN (Below.refl _ _) _) (.string { data:=#[] }) (.int .i64 0) (.slice none 0 0) (.int .i64 0)
   rw [← hwE] at hE hB
   rw [show ((((((w1.drewN d)).setCell ⟨p4,0,none⟩ (.string { data:=#[] })).setCell ⟨p4,1,none⟩ (.int .i64 0)).setCell ⟨p4,2,none⟩ (.slice none 0 0)).setCell ⟨p4,3,none⟩ (.int .i64 0))=wE from hwE.symm]
   have e0:wE.cell? ⟨p4,0,none⟩=some (.string { data:=#[] }):=hB.cell 0
   have e1:wE.cell? ⟨p4,1,none⟩=some (.int .i64 0):=hB.cell 1
   have e2:wE.cell? ⟨p4,2,none⟩=some (.slice none 0 0):=hB.cell 2
   have e3:wE.cell? ⟨p4,3,none⟩=some (.int .i64 0):=hB.cell 3
   exact bodyPost_ret (v:=.tuple #[.agg #[.string { data:=#[] },.int .i64 0,.slice none 0 0,.int .i64 0],.bool false]) (by simp [results,Tryz.results44,go_sem,e0,e1,e2,e3]) rfl ⟨hE,.inl ⟨HQ.out,rfl⟩⟩
 · obtain ⟨xa,xc,rfl⟩:=hbx.eq_slice
   obtain ⟨ya,yc,rfl⟩:=hby.eq_slice
   have hl0:r0.length≤bs.length:=zEj hs0
   obtain ⟨n0,hn0⟩:∃ n,n=x0.length:=⟨_,rfl⟩
   obtain ⟨m0,hm0⟩:∃ n,n=r0.length:=⟨_,rfl⟩
   rw [← hn0] at hbx
   rw [← hm0] at hby
   rw [← hn0,← hm0]
   have h2:=hby
   have H2:=Lib.hid (And.intro hbx (And.intro hby (And.intro hs0 (And.intro hl0 (And.intro hn0 hm0)))))
   clear hbx hby hs0 hl0 hn0 hm0 h2
   go_wp2_with fail
   refine (zCv _ r0 (w1.drewN d) H2.out.2.1 (by have:=H2.out.2.2.2.1;have:=H.out.2.2;omega)).mono ?_
   rintro e w3 ⟨vx1,vy1,d2,rfl,ht⟩
   rcases ht with ⟨hn,rfl,rfl,rfl⟩ | ⟨x1,r1,hs1,rfl,hbx,hby⟩
   · have HQ:=Lib.hid (show Sto.parse bs=none from by rw [H.out.2.1,H2.out.2.2.1];simp only [];rw [hn])
     have c0:=HCF.out.1 (w1.drewN (d+d2)) (below_drewN (Below.refl _ _) _) 0
     have f0:=HCF.out.2 (w1.drewN (d+d2)) (below_drewN (Below.refl _ _) _) 0
     have c1:=HCF.out.1 (w1.drewN (d+d2)) (below_drewN (Below.refl _ _) _) 1
     have f1:=HCF.out.2 (w1.drewN (d+d2)) (below_drewN (Below.refl _ _) _) 1
     have c2:=HCF.out.1 (w1.drewN (d+d2)) (below_drewN (Below.refl _ _) _) 2
     have f2:=HCF.out.2 (w1.drewN (d+d2)) (below_drewN (Below.refl _ _) _) 2
     have c3:=HCF.out.1 (w1.drewN (d+d2)) (below_drewN (Below.refl _ _) _) 3
     have f3:=HCF.out.2 (w1.drewN (d+d2)) (below_drewN (Below.refl _ _) _) 3
     clear hn
     go_wp2_with fail
     obtain ⟨wE,hwE⟩:∃ q,q=((((((w1.drewN (d+d2))).setCell ⟨p4,0,none⟩ (.string { data:=#[] })).setCell ⟨p4,1,none⟩ (.int .i64 0)).setCell ⟨p4,2,none⟩ (.slice none 0 0)).setCell ⟨p4,3,none⟩ (.int .i64 0)):=⟨_,rfl⟩
     have hE:=HSET.out (w1.drewN (d+d2)) (below_drewN (Below.refl _ _) _) (.string { data:=#[] }) (.int .i64 0) (.slice none 0 0) (.int .i64 0)
     have hB:=HBLK.out (w1.drewN (d+d2)) (below_drewN (Below.refl _ _) _) (.string { data:=#[] }) (.int .i64 0) (.slice none 0 0) (.int .i64 0)
     rw [← hwE] at hE hB
     rw [show ((((((w1.drewN (d+d2))).setCell ⟨p4,0,none⟩ (.string { data:=#[] })).setCell ⟨p4,1,none⟩ (.int .i64 0)).setCell ⟨p4,2,none⟩ (.slice none 0 0)).setCell ⟨p4,3,none⟩ (.int .i64 0))=wE from hwE.symm]
     have e0:wE.cell? ⟨p4,0,none⟩=some (.string { data:=#[] }):=hB.cell 0
     have e1:wE.cell? ⟨p4,1,none⟩=some (.int .i64 0):=hB.cell 1
     have e2:wE.cell? ⟨p4,2,none⟩=some (.slice none 0 0):=hB.cell 2
     have e3:wE.cell? ⟨p4,3,none⟩=some (.int .i64 0):=hB.cell 3
     exact bodyPost_ret (v:=.tuple #[.agg #[.string { data:=#[] },.int .i64 0,.slice none 0 0,.int .i64 0],.bool false]) (by simp [results,Tryz.results44,go_sem,e0,e1,e2,e3]) rfl ⟨hE,.inl ⟨HQ.out,rfl⟩⟩
   · obtain ⟨xa1,xc1,rfl⟩:=hbx.eq_slice
     obtain ⟨ya1,yc1,rfl⟩:=hby.eq_slice
     have hl1:r1.length≤r0.length:=zEj hs1
     obtain ⟨n1,hn1⟩:∃ n,n=x1.length:=⟨_,rfl⟩
     obtain ⟨m1,hm1⟩:∃ n,n=r1.length:=⟨_,rfl⟩
     rw [← hn1] at hbx
     rw [← hm1] at hby
     rw [← hn1,← hm1]
     have H3:=Lib.hid (And.intro hbx (And.intro hby (And.intro hs1 (And.intro hl1 (And.intro hn1 hm1)))))
     clear hbx hby hs1 hl1 hn1 hm1
     by_cases h4:n1=4
     · subst h4
       have t4:((4:Int) != 4)=false:=by decide
       go_wp2_with fail
       refine (zCv _ r1 (w1.drewN (d+d2)) H3.out.2.1 (by have:=H2.out.2.2.2.1;have:=H3.out.2.2.2.1;have:=H.out.2.2;omega)).mono ?_
       rintro e w4 ⟨vx2,vy2,d3,rfl,ht⟩
       rcases ht with ⟨hn,rfl,rfl,rfl⟩ | ⟨x2,r2,hs2,rfl,hbx,hby⟩
       · have HQ:=Lib.hid (show Sto.parse bs=none from by rw [H.out.2.1,H2.out.2.2.1];simp only [];rw [H3.out.2.2.1];simp only [];rw [if_pos H3.out.2.2.2.2.1.symm,hn])
         have c0:=HCF.out.1 (w1.drewN (d+d2+d3)) (below_drewN (Below.refl _ _) _) 0
         have f0:=HCF.out.2 (w1.drewN (d+d2+d3)) (below_drewN (Below.refl _ _) _) 0
         have c1:=HCF.out.1 (w1.drewN (d+d2+d3)) (below_drewN (Below.refl _ _) _) 1
         have f1:=HCF.out.2 (w1.drewN (d+d2+d3)) (below_drewN (Below.refl _ _) _) 1
         have c2:=HCF.out.1 (w1.drewN (d+d2+d3)) (below_drewN (Below.refl _ _) _) 2
         have f2:=HCF.out.2 (w1.drewN (d+d2+d3)) (below_drewN (Below.refl _ _) _) 2
         have c3:=HCF.out.1 (w1.drewN (d+d2+d3)) (below_drewN (Below.refl _ _) _) 3
         have f3:=HCF.out.2 (w1.drewN (d+d2+d3)) (below_drewN (Below.refl _ _) _) 3
         clear hn
         go_wp2_with fail
         obtain ⟨wE,hwE⟩:∃ q,q=((((((w1.drewN (d+d2+d3))).setCell ⟨p4,0,none⟩ (.string { data:=#[] })).setCell ⟨p4,1,none⟩ (.int .i64 0)).setCell ⟨p4,2,none⟩ (.slice none 0 0)).setCell ⟨p4,3,none⟩ (.int .i64 0)):=⟨_,rfl⟩
         have hE:=HSET.out (w1.drewN (d+d2+d3)) (below_drewN (Below.refl _ _) _) (.string { data:=#[] }) (.int .i64 0) (.slice none 0 0) (.int .i64 0)
         have hB:=HBLK.out (w1.drewN (d+d2+d3)) (below_drewN (Below.refl _ _) _) (.string { data:=#[] }) (.int .i64 0) (.slice none 0 0) (.int .i64 0)
         rw [← hwE] at hE hB
         rw [show ((((((w1.drewN (d+d2+d3))).setCell ⟨p4,0,none⟩ (.string { data:=#[] })).setCell ⟨p4,1,none⟩ (.int .i64 0)).setCell ⟨p4,2,none⟩ (.slice none 0 0)).setCell ⟨p4,3,none⟩ (.int .i64 0))=wE from hwE.symm]
         have e0:wE.cell? ⟨p4,0,none⟩=some (.string { data:=#[] }):=hB.cell 0
         have e1:wE.cell? ⟨p4,1,none⟩=some (.int .i64 0):=hB.cell 1
         have e2:wE.cell? ⟨p4,2,none⟩=some (.slice none 0 0):=hB.cell 2
         have e3:wE.cell? ⟨p4,3,none⟩=some (.int .i64 0):=hB.cell 3
         exact bodyPost_ret (v:=.tuple #[.agg #[.string { data:=#[] },.int .i64 0,.slice none 0 0,.int .i64 0],.bool false]) (by simp [results,Tryz.results44,go_sem,e0,e1,e2,e3]) rfl ⟨hE,.inl ⟨HQ.out,rfl⟩⟩
       · obtain ⟨xa2,xc2,rfl⟩:=hbx.eq_slice
         obtain ⟨ya2,yc2,rfl⟩:=hby.eq_slice
         have HQ:=Lib.hid (show Sto.parse bs=some ⟨true,⟨x0.toArray⟩,Cod.zAh x1,x2⟩ from by rw [H.out.2.1,H2.out.2.2.1];simp only [];rw [H3.out.2.2.1];simp only [];rw [if_pos H3.out.2.2.2.2.1.symm,hs2])
         have hl2:x2.length≤1000000:=by
          have h1:=zJt hs2
          have:=H2.out.2.2.2.1
          have:=H3.out.2.2.2.1
          have:=H.out.2.2
          omega
         obtain ⟨n2,hn2⟩:∃ n,n=x2.length:=⟨_,rfl⟩
         obtain ⟨m2,hm2⟩:∃ n,n=r2.length:=⟨_,rfl⟩
         rw [← hn2] at hbx
         rw [← hm2] at hby
         rw [← hn2,← hm2]
         have H4:=Lib.hid (And.intro hbx hby)
         have HN2:=Lib.hid hn2
         clear hbx hby hs2 hn2 hm2
         go_wp2_with fail
         refine (zFP _ x1 (w1.drewN (d+d2+d3)) H3.out.1 (by have:=H3.out.2.2.2.2.1;omega)).mono ?_
         rintro e w5' ⟨rfl,rfl⟩
         go_upto_region 11 with fail
         obtain ⟨w5,hw5⟩:∃ q,q=w1.drewN (d+d2+d3):=⟨_,rfl⟩
         rw [← hw5]
         have hb5:Below w1.heap.size w1 w5:=by rw [hw5];exact below_drewN (Below.refl _ _) _
         have hN1:∀ w',Below w5.heap.size w5 w'→Bys w' (.slice xa n0 xc) x0:=fun w' hb=>(show Bys w5 (.slice xa n0 xc) x0 from by rw [hw5];exact H2.out.1).below hb
         have hN2:∀ w',Below w5.heap.size w5 w'→Bys w' (.slice xa2 n2 xc2) x2:=fun w' hb=>(show Bys w5 (.slice xa2 n2 xc2) x2 from by rw [hw5];exact H4.out.1).below hb
         have hz5:w1.heap.size≤w5.heap.size:=hb5.size
         have HN:=Lib.hid (And.intro hN1 (And.intro hN2 hz5))
         have HB5:=Lib.hid hb5
         clear hw5 hN1 hN2 hz5 hb5
         refine Tail.zT 7 (fun k=>k == 4) (fun k=>none)
          (fun D z w'=>Below w5.heap.size w5 w'∧(D 4=true→∃ a c,z 4=.slice a x2.length c∧zP 5 w' w1.heap.size (z 4) x2))
          (by kernel_rfl) (by kernel_rfl) (fun k hk=>by simp at hk;omega) (fun D z z' w' hz h=>⟨h.1,fun d=>by rw [← hz 4 d];exact h.2 d⟩)
          ⟨(Below.refl _ _).drew,(fun h=>by cases h)⟩ (fun z=>?_)
         simp only [List.take_succ_cons,List.take_zero,List.drop_succ_cons,List.drop_zero]
         refine Tail.zI (by rfl) (by rfl) ?_
         apply Exists.intro
         refine ⟨fun w=>?_,?_⟩
         · go_simp <;> with_reducible rfl
         simp only [Act.put,List.setIfInBounds_toArray,List.set_cons_zero,List.set_cons_succ,Nat.reduceAdd,Nat.reduceEqDiff,reduceIte,Option.getD_some,Option.getD_none]
         refine Tail.zA0 (by rfl) (by rfl) ?_
         apply Exists.intro
         refine ⟨fun D w' hd hp hJ=>?_,?_⟩
         · have cv:=zCl (HN.out.1 w' hJ.1)
           go_simp <;> with_reducible rfl
         simp only [Act.put,List.setIfInBounds_toArray,List.set_cons_zero,List.set_cons_succ,Nat.reduceAdd,Nat.reduceEqDiff,reduceIte,Option.getD_some,Option.getD_none]
         refine Tail.zI (by rfl) (by rfl) ?_
         apply Exists.intro
         refine ⟨fun w=>?_,?_⟩
         · go_simp <;> with_reducible rfl
         simp only [Act.put,List.setIfInBounds_toArray,List.set_cons_zero,List.set_cons_succ,Nat.reduceAdd,Nat.reduceEqDiff,reduceIte,Option.getD_some,Option.getD_none]
         refine Tail.zI (by rfl) (by rfl) ?_
         apply Exists.intro
         refine ⟨fun w=>?_,?_⟩
         · go_simp <;> with_reducible rfl
         simp only [Act.put,List.setIfInBounds_toArray,List.set_cons_zero,List.set_cons_succ,Nat.reduceAdd,Nat.reduceEqDiff,reduceIte,Option.getD_some,Option.getD_none]
         refine Tail.zFt (by rfl) (by rfl) (fun D z' w' hD hz hd hp hJ=>?_) ?_
         · refine zJY (P:=Tryz.prog) E8c _ _ rfl (base:=w1.heap.size) (v:=.slice none 0 0) (bs:=[]) (news:=x2) rfl rfl (zP.nil _ _ _) (HN.out.2.1 w' hJ.1) (by simp;omega) (Nat.le_trans HN.out.2.2 hJ.1.size) ?_
           intro v' wx ho2 hg2
           have hbx:Below w'.heap.size w' wx:=zAE hg2 rfl
           have ho2:zP 5 wx w1.heap.size v' x2:=ho2
           refine ⟨fun c hc=>by simp at hc,hJ.1.trans (hbx.mono hJ.1.size),fun _=>?_⟩
           obtain ⟨a',c',e'⟩:=ho2.eq_slice
           exact ⟨a',c',by simpa [Tail.zAb] using e',by simpa [Tail.zAb] using ho2⟩
         simp only [Act.put,List.setIfInBounds_toArray,List.set_cons_zero,List.set_cons_succ,Nat.reduceAdd,Nat.reduceEqDiff,reduceIte,Option.getD_some,Option.getD_none]
         refine Tail.zI (by rfl) (by rfl) ?_
         apply Exists.intro
         refine ⟨fun w=>?_,?_⟩
         · go_simp <;> with_reducible rfl
         simp only [Act.put,List.setIfInBounds_toArray,List.set_cons_zero,List.set_cons_succ,Nat.reduceAdd,Nat.reduceEqDiff,reduceIte,Option.getD_some,Option.getD_none]
         refine Tail.zA0 (by rfl) (by rfl) ?_
         refine ⟨.agg #[.string ⟨x0.toArray⟩,.int .i64 (Cod.zAh x1:Nat),z 4,.int .i64 slot],fun D w' hd hp hJ=>?_,?_⟩
         · have h8:D 4=true:=hd 4 (by kernel_rfl)
           obtain ⟨a',c',e',_⟩:=hJ.2 h8
           generalize z 4=z8 at e' ⊢
           subst e'
           go_simp <;> with_reducible rfl
         simp only [Act.put,List.setIfInBounds_toArray,List.set_cons_zero,List.set_cons_succ,Nat.reduceAdd,Nat.reduceEqDiff,reduceIte,Option.getD_some,Option.getD_none]
         intro w6 hJ
         obtain ⟨a9,c9,e9,ho9⟩:=hJ.2 rfl
         have hb6:=hJ.1
         clear hJ
         generalize z 4=v9 at e9 ho9 ⊢
         subst e9
         rw [← HN2.out] at ho9 ⊢
         have hb16:Below w1.heap.size w1 w6:=HB5.out.trans (hb6.mono HB5.out.size)
         have c0:=HCF.out.1 w6 hb16 0
         have f0:=HCF.out.2 w6 hb16 0
         have c1:=HCF.out.1 w6 hb16 1
         have f1:=HCF.out.2 w6 hb16 1
         have c2:=HCF.out.1 w6 hb16 2
         have f2:=HCF.out.2 w6 hb16 2
         have c3:=HCF.out.1 w6 hb16 3
         have f3:=HCF.out.2 w6 hb16 3
         have HO:=Lib.hid (And.intro ho9 hb16)
         clear ho9 hb6 hb16
         go_wp2_with fail
         obtain ⟨wE,hwE⟩:∃ q,q=(((((w6).setCell ⟨p4,0,none⟩ (.string ⟨x0.toArray⟩)).setCell ⟨p4,1,none⟩ (.int .i64 (Cod.zAh x1:Nat))).setCell ⟨p4,2,none⟩ (.slice a9 n2 c9)).setCell ⟨p4,3,none⟩ (.int .i64 slot)):=⟨_,rfl⟩
         have hE:=HSET.out w6 HO.out.2 (.string ⟨x0.toArray⟩) (.int .i64 (Cod.zAh x1:Nat)) (.slice a9 n2 c9) (.int .i64 slot)
         have hB:=HBLK.out w6 HO.out.2 (.string ⟨x0.toArray⟩) (.int .i64 (Cod.zAh x1:Nat)) (.slice a9 n2 c9) (.int .i64 slot)
         have hO:zP 5 (((((w6).setCell ⟨p4,0,none⟩ (.string ⟨x0.toArray⟩)).setCell ⟨p4,1,none⟩ (.int .i64 (Cod.zAh x1:Nat))).setCell ⟨p4,2,none⟩ (.slice a9 n2 c9)).setCell ⟨p4,3,none⟩ (.int .i64 slot)) w1.heap.size (.slice a9 n2 c9) x2:=by
          have hc:Chg (fun b=>b=p4) w6 (((((w6).setCell ⟨p4,0,none⟩ (.string ⟨x0.toArray⟩)).setCell ⟨p4,1,none⟩ (.int .i64 (Cod.zAh x1:Nat))).setCell ⟨p4,2,none⟩ (.slice a9 n2 c9)).setCell ⟨p4,3,none⟩ (.int .i64 slot)):=Chg.set (S:=fun b=>b=p4) (a:=⟨p4,3,none⟩) (Chg.set (S:=fun b=>b=p4) (a:=⟨p4,2,none⟩) (Chg.set (S:=fun b=>b=p4) (a:=⟨p4,1,none⟩) (Chg.set (S:=fun b=>b=p4) (a:=⟨p4,0,none⟩) (Chg.refl _ _) rfl _) rfl _) rfl _) rfl _
          exact HO.out.1.chg hc (fun g hg e=>by have h1:=(HO.out.1.lt g hg).1;have h2:=H1.out.1.lt;omega)
         rw [← hwE] at hE hB hO
         rw [show (((((w6).setCell ⟨p4,0,none⟩ (.string ⟨x0.toArray⟩)).setCell ⟨p4,1,none⟩ (.int .i64 (Cod.zAh x1:Nat))).setCell ⟨p4,2,none⟩ (.slice a9 n2 c9)).setCell ⟨p4,3,none⟩ (.int .i64 slot))=wE from hwE.symm]
         have e0:wE.cell? ⟨p4,0,none⟩=some (.string ⟨x0.toArray⟩):=hB.cell 0
         have e1:wE.cell? ⟨p4,1,none⟩=some (.int .i64 (Cod.zAh x1:Nat)):=hB.cell 1
         have e2:wE.cell? ⟨p4,2,none⟩=some (.slice a9 n2 c9):=hB.cell 2
         have e3:wE.cell? ⟨p4,3,none⟩=some (.int .i64 slot):=hB.cell 3
         rw [HN2.out] at e2 hO
         exact bodyPost_ret (v:=.tuple #[.agg #[.string ⟨x0.toArray⟩,.int .i64 (Cod.zAh x1:Nat),.slice a9 x2.length c9,.int .i64 slot],.bool true]) (by simp [results,Tryz.results44,go_sem,e0,e1,e2,e3]) rfl ⟨hE,.inr ⟨_,HQ.out,a9,c9,rfl,hO.mono H1.out.2.1.size⟩⟩
     · have HQ:=Lib.hid (show Sto.parse bs=none from by rw [H.out.2.1,H2.out.2.2.1];simp only [];rw [H3.out.2.2.1];simp only [];rw [if_neg (by rw [← H3.out.2.2.2.2.1];exact h4)])
       have t4:((n1:Int) != 4)=true:=by simp;omega
       have t4':((n1:Int) == 4)=false:=by simp;omega
       have c0:=HCF.out.1 (w1.drewN (d+d2)) (below_drewN (Below.refl _ _) _) 0
       have f0:=HCF.out.2 (w1.drewN (d+d2)) (below_drewN (Below.refl _ _) _) 0
       have c1:=HCF.out.1 (w1.drewN (d+d2)) (below_drewN (Below.refl _ _) _) 1
       have f1:=HCF.out.2 (w1.drewN (d+d2)) (below_drewN (Below.refl _ _) _) 1
       have c2:=HCF.out.1 (w1.drewN (d+d2)) (below_drewN (Below.refl _ _) _) 2
       have f2:=HCF.out.2 (w1.drewN (d+d2)) (below_drewN (Below.refl _ _) _) 2
       have c3:=HCF.out.1 (w1.drewN (d+d2)) (below_drewN (Below.refl _ _) _) 3
       have f3:=HCF.out.2 (w1.drewN (d+d2)) (below_drewN (Below.refl _ _) _) 3
       clear h4
       go_wp2_with fail
       obtain ⟨wE,hwE⟩:∃ q,q=((((((w1.drewN (d+d2))).setCell ⟨p4,0,none⟩ (.string { data:=#[] })).setCell ⟨p4,1,none⟩ (.int .i64 0)).setCell ⟨p4,2,none⟩ (.slice none 0 0)).setCell ⟨p4,3,none⟩ (.int .i64 0)):=⟨_,rfl⟩
       have hE:=HSET.out (w1.drewN (d+d2)) (below_drewN (Below.refl _ _) _) (.string { data:=#[] }) (.int .i64 0) (.slice none 0 0) (.int .i64 0)
       have hB:=HBLK.out (w1.drewN (d+d2)) (below_drewN (Below.refl _ _) _) (.string { data:=#[] }) (.int .i64 0) (.slice none 0 0) (.int .i64 0)
       rw [← hwE] at hE hB
       rw [show ((((((w1.drewN (d+d2))).setCell ⟨p4,0,none⟩ (.string { data:=#[] })).setCell ⟨p4,1,none⟩ (.int .i64 0)).setCell ⟨p4,2,none⟩ (.slice none 0 0)).setCell ⟨p4,3,none⟩ (.int .i64 0))=wE from hwE.symm]
       have e0:wE.cell? ⟨p4,0,none⟩=some (.string { data:=#[] }):=hB.cell 0
       have e1:wE.cell? ⟨p4,1,none⟩=some (.int .i64 0):=hB.cell 1
       have e2:wE.cell? ⟨p4,2,none⟩=some (.slice none 0 0):=hB.cell 2
       have e3:wE.cell? ⟨p4,3,none⟩=some (.int .i64 0):=hB.cell 3
       exact bodyPost_ret (v:=.tuple #[.agg #[.string { data:=#[] },.int .i64 0,.slice none 0 0,.int .i64 0],.bool false]) (by simp [results,Tryz.results44,go_sem,e0,e1,e2,e3]) rfl ⟨hE,.inl ⟨HQ.out,rfl⟩⟩
end Go.Proofs.YtdlkghdfkjdajaaGreatDoor
end
