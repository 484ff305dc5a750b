/- Texts of this proof,packed: StoreOpenW,StoreLaw2,Strs,StoreLab,KeysMade,KeysWakes,KeyKeep,KeyTwo,Ints,Open,OpenS,KeyActs. -/
import Derived.Test.YtdlkghdfkjdajaaGreatDoorPkP04
import Derived.Test.YtdlkghdfkjdajaaGreatDoorPkP11
import Derived.Test.YtdlkghdfkjdajaaGreatDoorPkP01
import Derived.Sort.OwnSorted
import Derived.Test.YtdlkghdfkjdajaaGreatDoorPkP00
import Derived.WalkKit
import Derived.ProofKit
import Derived.ChangeOld
import Derived.Deep.SlicePairs
import Derived.OpenShut
section
namespace Go.Mem
open Go Go.RowKit Gf
def zAj (t8 tr:TypeId) (w:World) (base:Nat) (u:Value) (l:List Sto.Rec):Prop :=
 ∃ vs:List Value,vs.length=l.length∧w.ownsRow base tr 4 u l.length (zAm l vs)∧∀ (j:Nat) (r:Sto.Rec) (v:Value),l[j]?=some r→vs[j]?=some v→zP t8 w base v r.data
theorem zAj.nil (t8 tr:TypeId) (w:World) (base:Nat):zAj t8 tr w base (.slice none 0 0) [] :=
 ⟨[],rfl,World.ownsRow_nil _ _ _ _,fun j r v h=>by simp at h⟩
theorem zAj.chg {S:Nat→Prop} {t8 tr:TypeId} {w w':World} {base:Nat} {u:Value} {l:List Sto.Rec} (h:zAj t8 tr w base u l) (hc:Chg S w w') (hs:∀ g,base≤g→¬ S g):zAj t8 tr w' base u l:=by
 obtain ⟨vs,h1,h2,h3⟩:=h
 exact ⟨vs,h1,zDj h2 hc (fun g hg=>hs g (h2.lt g hg).1),fun j r v hr hv=>(h3 j r v hr hv).chg hc (fun g hg=>hs g ((h3 j r v hr hv).lt g hg).1)⟩
theorem zFG {t8 tr:TypeId} {w w':World} {b1 b2 s2 n2:Nat} {v1 v2:Value} {bs:List UInt8} {x2:List Value} (h1:zP t8 w b1 v1 bs) (h2:w.ownsRow b2 tr s2 v2 n2 x2) (hne:t8≠tr) (hg:w.grownBy w' v2.ownBlock):zP t8 w' b1 v1 bs:=by
 rcases h1 with h | ⟨g,cap,arr,fz,rfl,hb,hh,rest⟩
 · exact .inl h
 · refine .inr ⟨g,cap,arr,fz,rfl,hb,?_,rest⟩
   rw [← hh]
   refine hg.block g (lt_of_block hh) ?_
   intro e
   rcases h2.2 with ⟨rfl,_⟩ | ⟨g2,cap2,cur2,rfl,_,hh2,_⟩
   · simp [Value.ownBlock] at e
   · simp only [Value.ownBlock,Option.some.injEq] at e
     subst e
     rw [hh] at hh2
     simp at hh2
     exact hne hh2.2.1
theorem zAj.push {t8 tr:TypeId} {w w':World} {base:Nat} {u u' v:Value} {l:List Sto.Rec} {r:Sto.Rec} {vs:List Value} (hne:t8≠tr) (h1:vs.length=l.length) (h2:w.ownsRow base tr 4 u l.length (zAm l vs))
  (h3:∀ (j:Nat) (r:Sto.Rec) (v:Value),l[j]?=some r→vs[j]?=some v→zP t8 w base v r.data) (hr:zP t8 w base v r.data)
  (hown:w'.ownsRow base tr 4 u' (l.length+1) (zAm l vs++[.bool r.is,.string r.name,.int .i64 r.num,v])) (hg:w.grownBy w' u.ownBlock):zAj t8 tr w' base u' (l++[r]):=by
 refine ⟨vs++[v],by simp [h1],by rw [zFM l vs r v h1,List.length_append];exact hown,fun j r' v' hr' hv'=>?_⟩
 rcases Nat.lt_or_ge j l.length with hj | hj
 · rw [List.getElem?_append_left hj] at hr'
   rw [List.getElem?_append_left (by omega)] at hv'
   exact zFG (h3 j r' v' hr' hv') h2 hne hg
 · rw [List.getElem?_append_right hj] at hr'
   rw [List.getElem?_append_right (by omega),h1] at hv'
   have hj0:j - l.length=0:=by
    rcases Nat.eq_zero_or_pos (j - l.length) with h | h
    · exact h
    · rw [List.getElem?_eq_none (by simp;omega)] at hr';cases hr'
   rw [hj0] at hr' hv'
   simp at hr' hv'
   subst hr' hv'
   exact zFG hr h2 hne hg
theorem zL1 {t8 tr:TypeId} {w3 w' x1:World} {base:Nat} {u u' v:Value} {l:List Sto.Rec} {r:Sto.Rec} {vs:List Value} (hne:t8≠tr) (h1:vs.length=l.length) (h2:w3.ownsRow base tr 4 u l.length (zAm l vs))
  (h3:∀ (j:Nat) (r:Sto.Rec) (v:Value),l[j]?=some r→vs[j]?=some v→zP t8 w3 base v r.data) (hr:zP t8 w3 base v r.data) (hb:Below w3.heap.size w3 w')
  (hown:x1.ownsRow base tr 4 u' (l.length+1) (zAm l vs++[.bool r.is,.string r.name,.int .i64 r.num,v])) (hg:w'.grownBy x1 u.ownBlock):zAj t8 tr x1 base u' (l++[r]) :=
 have hc:Chg (fun _=>False) w3 w':=Chg.of_below hb
 zAj.push hne h1 (zDj h2 hc (fun _ _ h=>h)) (fun j r v hr hv=>(h3 j r v hr hv).chg hc (fun _ _ h=>h)) (hr.chg hc (fun _ _ h=>h)) hown hg
theorem zP.data' {t8:TypeId} {w:World} {base:Nat} {v:Value} {bs:List UInt8} {N:Nat→Prop} (h:zP t8 w base v bs) (hN:∀ b arr fz,base≤b→w.heap[b]?=some (.cells arr t8 fz)→¬ N b):zAo w N v bs:=by
 refine ⟨h.bys,?_⟩
 rcases h with ⟨rfl,rfl⟩ | ⟨g,cap,arr,fz,rfl,h2,h3,_⟩
 · exact ⟨none,0,rfl,fun b h=>by cases h⟩
 · exact ⟨_,cap,rfl,fun b hb=>by cases hb;exact ⟨lt_of_block h3,hN _ _ _ h2 h3⟩⟩
theorem zAj.recsAt {t8 tr:TypeId} {w:World} {base:Nat} {u:Value} {l:List Sto.Rec} (h:zAj t8 tr w base u l) (hl:0 < l.length) (hne:t8≠tr) (N1:Nat→Prop) (hN:∀ b,N1 b→b < base) :
  ∃ lb cap,u=.slice (some ⟨lb,0,none⟩) l.length cap∧l.length≤cap∧cap≤maxLen∧base≤lb∧zAk tr w (fun b=>N1 b∨b=lb) lb l:=by
 obtain ⟨vs,h1,h2,h3⟩:=h
 rcases h2.2 with ⟨_,h0⟩ | ⟨g,cap,cur,rfl,hb,hh,hn,hc,hs,ht⟩
 · omega
 · refine ⟨g,cap,rfl,hn,hc,hb,cur,vs,hh,by rw [hs];exact Nat.mul_le_mul_right _ hn,h1,fun j hj=>?_,fun i r v hr hv=>(h3 i r v hr hv).data' fun b arr fz hb1 hb2 hN'=>?_⟩
   · rw [← ht,List.getElem?_take,if_pos hj,Array.getElem?_toList]
   · rcases hN' with hN' | rfl
     · have:=hN b hN';omega
     · rw [hh] at hb2
       simp at hb2
       exact hne hb2.2.1.symm
end Go.Mem
namespace Go.Proofs.YtdlkghdfkjdajaaGreatDoor
open Go Go.RowKit Go.Mem Gf
attribute [local go_sem ↓] Go.wp_at_zero Go.wp_at_succ
theorem EKr:zCf Tryz.prog 71 75 (.agg #[.bool false,.string ByteArray.empty,.int .i64 0,.slice none 0 0]) 4 56:=⟨Tryz.underlying71,by kernel_rfl,rfl,by decide⟩
def zKm (N0:Nat→Prop) (d L:Nat) (D:zA) (slots room:Nat) (w:World) (e:Ending) (w':World):Prop :=
 ∃ p,e=.returned (.tuple #[p,.int .i64 (zu D slots room).1])∧Chg (fun b=>b=d∨b=L) w w'∧zM w' d L (zu D slots room).2.1 ∧
   (((zu D slots room).2.2=none∧p=.pointer none)∨∃ s lb,(zu D slots room).2.2=some s∧p=.pointer (some ⟨w.heap.size,0,none⟩)∧w.heap.size < lb∧zO w' (fun b=>N0 b∨b=w.heap.size∨b=lb) w.heap.size lb d L s)
set_option maxRecDepth 20000 in
set_option maxHeartbeats 2000000 in
theorem zFC (N0:Nat→Prop) (d L:Nat) (D:zA) (slots room:Nat) (w:World) (hT:Tab w) (hN0:¬ N0 gT∧N0 d∧N0 L∧∀ b,N0 b→b < w.heap.size) (hD:zM w d L D) (h1:decide ((1:Int)≤slots∧(slots:Int)≤1024)=true) (h2:decide ((1:Int)≤room∧(room:Int)≤1024)=true) (h:D.n=slots*(room+1)) (hfew:D.writes < 72057594037920000) :
  Calls Tryz.prog 7 #[.pointer (some ⟨d,0,none⟩),.int .i64 slots,.int .i64 room] w (zKm N0 d L D slots room w):=by
 have hs:=of_decide_eq_true h1
 have hr:=of_decide_eq_true h2
 have hm:slots*(room+1)≤1024*1025:=Nat.mul_le_mul (by omega) (by omega)
 obtain ⟨m,hmm⟩:∃ m,m=slots*(room+1):=⟨_,rfl⟩
 have q1:IntKind.i64.wrap ((room:Int)+1)=(room:Int)+1:=IntWalk.i64_in _ (by omega)
 have q2:IntKind.i64.wrap ((slots:Int)*((room:Int)+1))=(m:Int):=by
  have e2:(slots:Int)*((room:Int)+1)=(m:Int):=by rw [hmm];push_cast;rfl
  rw [e2]
  exact IntWalk.i64_in _ (by omega)
 rw [← hmm] at h
 have hne:(D.n:Int)=(m:Int):=by omega
 have HR:=Lib.hid hr
 have HM:=Lib.hid hmm
 clear hr hm hmm h
 go_enter Tryz.func7,Tryz.ntmps7
 go_wp2_with fail
 refine (zHi slots true w h1).mono ?_
 rintro e w1 ⟨rfl,rfl⟩
 go_wp2_with fail
 refine (zHi room true w h2).mono ?_
 rintro e w1 ⟨rfl,rfl⟩
 go_wp2_with fail
 refine (zIm d L D w hD).mono ?_
 rintro e w1 ⟨rfl,rfl⟩
 have hN:=Blk.new w (stV d room none 0 0 false) 73
 unfold stV at hN
 go_wp2_with fail
 have Hsl:=Lib.hid hs
 have HDD:=Lib.hid hD
 have HN:=Lib.hid hN;have HT:=Lib.hid hT;have HN0:=Lib.hid hN0
 clear hs hD hN q1 q2 h1 h2 hT hN0
 go_loopw [38] (fun v wr=>∃ i:Nat,i≤slots∧v=.int .i64 i∧(readAll room D i).2.1=0∧(∃ la lc,Blk wr w.heap.size (stV d room la i lc false) 73∧zAj 5 75 wr (w.heap.size+1) (.slice la i lc) (readAll room D i).1)∧zM wr d L (readAll room D i).2.2∧w.heap.size+1≤wr.heap.size∧(readAll room D i).2.2.writes≤D.writes+i∧(readAll room D i).2.2.n=D.n∧Chg (fun b=>b=d∨b=L) w wr) (fun v _=>slots - (intOf v).toNat)
 case atStart=>exact ⟨0,by omega,rfl,rfl,⟨none,0,HN.out,zAj.nil _ _ _ _⟩,HDD.out.below ((Below.refl _ _).alloc (Nat.le_refl _) _),by simp,by simp [readAll],rfl,Chg.of_below ((Below.refl _ _).alloc (Nat.le_refl _) _)⟩
 case round=>as_aux_lemma =>
  obtain ⟨i,hi,rfl,h0,⟨la,lc,hB,hO⟩,hDi,hsz,hw,hn,hcw⟩:=hrel
  by_cases hlt:i < slots
  · have i0:(0:Int)≤(i:Int):=by omega
    have i1:(i:Int) < (slots:Int):=by omega
    have hin:(i+1)*(room+1)≤(readAll room D i).2.2.n:=by
     rw [hn,show D.n=slots*(room+1) from by have:=HM.out;omega]
     exact Nat.mul_le_mul_right _ hlt
    have hlD:=HDD.out.lt
    have hr2:=HR.out
    have hs2:=Hsl.out
    have hlen:=zBZ room D i h0
    have HO:=Lib.hid hO;have HCW:=Lib.hid hcw;have HLEN:=Lib.hid hlen
    have RC:=zJB w.heap.size d L room i lc i la false (readAll room D i).2.2 wr hB hDi ⟨by omega,by omega⟩ (Nat.le_refl _) (by omega) (by omega) (by omega) hin (by omega)
    obtain ⟨q,hq⟩:∃ q,q=readR (readAll room D i).2.2 room i:=⟨_,rfl⟩
    unfold zCB zH5 at RC
    rw [← hq] at RC
    obtain ⟨⟨qis,qname,qnum,qdata⟩,qe,qw⟩:=q
    simp only at RC
    have HQ:=Lib.hid hq
    have Hw:=Lib.hid hw;have Hn:=Lib.hid hn;have Hlt:=Lib.hid hlD
    clear hin hr2 hs2 hlD hq hO hcw hw hn hlen
    go_wp2_with fail
    refine RC.mono ?_
    clear RC
    rintro e w3 ⟨dv,rfl,hod,hB3,hD3,hc3⟩
    obtain ⟨da,dc,rfl⟩:=hod.eq_slice
    have HC:=Lib.hid hc3
    have HB3:=Lib.hid hB3;have HD3:=Lib.hid hD3;have HO3:=Lib.hid hod
    by_cases he:qe=0
    · as_aux_lemma =>
      subst he
      clear hc3 hB3 hD3 hod
      go_wp2_with fail
      have hs3:wr.heap.size≤w3.heap.size:=HC.out.size
      have hnext:readAll room D (i+1)=((readAll room D i).1++[⟨qis,qname,qnum,qdata⟩],0,if qw=true then (readAll room D i).2.2.wr ((i*(room+1):Nat):Int) [0] else (readAll room D i).2.2):=by
       rw [readAll]
       simp only [h0,ne_eq,not_true_eq_false,if_false]
       rw [← HQ.out]
       rfl
      have HNX:=Lib.hid hnext
      have hO3:=HO.out.chg HC.out (fun g hg hS=>by
       have:=Hlt.out
       unfold Tri at hS
       omega)
      obtain ⟨vs,hv1,hv2,hv3⟩:=hO3
      have HV1:=Lib.hid hv1;have HV2:=Lib.hid hv2;have HV3:=Lib.hid hv3
      obtain ⟨rb,hrb⟩:∃ b,b=w3.heap.size:=⟨_,rfl⟩
      obtain ⟨wa,hwa⟩:∃ wa,wa=w3.alloc (.cells #[.bool qis,.string qname,.int .i64 (qnum:Int),.slice da qdata.length dc] 75):=⟨_,rfl⟩
      have hRB:Blk wa rb #[.bool qis,.string qname,.int .i64 (qnum:Int),.slice da qdata.length dc] 75:=by rw [hwa,hrb];exact Blk.new _ _ _
      have hSB:Blk wa w.heap.size (stV d room la i lc false) 73:=by
       rw [hwa]
       have:=HB3.out.alloc (.cells #[.bool qis,.string qname,.int .i64 (qnum:Int),.slice da qdata.length dc] 75)
       simpa using this
      have hba:Below w3.heap.size w3 wa:=by rw [hwa];exact (Below.refl _ _).alloc (Nat.le_refl _) _
      have hca:Chg (fun b=>w.heap.size≤b) w3 wa:=Chg.of_below hba
      have hvi:vs.length=i:=hv1.trans HLEN.out
      have hva:wa.ownsRow (w.heap.size+1) 75 4 (.slice la i lc) i (zAm (readAll room D i).1 vs):=by
       have:=zDj hv2 (Chg.of_below hba (S:=fun _=>False)) (fun _ _ h=>h)
       rw [HLEN.out] at this
       exact this
      have hlt:∀ q,(Value.slice la i lc).ownBlock=some q→w.heap.size+1≤q∧q < w3.heap.size:=fun q hq=>hv2.lt q hq
      have hn1:(Value.slice la i lc).ownBlock≠some w.heap.size:=fun e=>by have:=hlt _ e;omega
      have hn2:(Value.slice la i lc).ownBlock≠some rb:=fun e=>by have:=hlt _ e;omega
      have hbase:w.heap.size+1≤wa.heap.size:=by have:=hba.size;omega
      have hod2:zP 5 w3 (w.heap.size+1) (.slice da qdata.length dc) qdata:=HO3.out.mono hsz
      have Hlt2:=Lib.hid hlt;have Hn1:=Lib.hid hn1;have Hn2:=Lib.hid hn2;have HOD:=Lib.hid hod2;have HRB:=Lib.hid hRB;have HSB:=Lib.hid hSB;have HBA:=Lib.hid hba;have HCA:=Lib.hid hca;have HVA:=Lib.hid hva
      have s2:wa.cell? ⟨w.heap.size,2,none⟩=some (.slice la i lc):=hSB.cell 2
      have s2':∀ o,(wa.alloc o).cell? ⟨w.heap.size,2,none⟩=some (.slice la i lc):=fun o=>(hSB.alloc o).cell 2
      have r0:wa.cell? ⟨rb,0,none⟩=some (.bool qis):=hRB.cell 0
      have r1:wa.cell? ⟨rb,1,none⟩=some (.string qname):=hRB.cell 1
      have r2:wa.cell? ⟨rb,2,none⟩=some (.int .i64 (qnum:Int)):=hRB.cell 2
      have r3:wa.cell? ⟨rb,3,none⟩=some (.slice da qdata.length dc):=hRB.cell 3
      have hh0:wa.cell? ⟨w.heap.size,2,none⟩=some (.slice la i lc)∧wa.cell? ⟨rb,0,none⟩=some (.bool qis)∧wa.cell? ⟨rb,1,none⟩=some (.string qname)∧wa.cell? ⟨rb,2,none⟩=some (.int .i64 (qnum:Int))∧wa.cell? ⟨rb,3,none⟩=some (.slice da qdata.length dc):=⟨s2,r0,r1,r2,r3⟩
      have hone:∀ u∈[Value.bool qis,.string qname,.int .i64 (qnum:Int),.slice da qdata.length dc],u.oneCell'=true:=by simp [Value.oneCell']
      have hi32:i+1≤4294967296:=by have:=Hsl.out;omega
      rw [← hrb,← hwa]
      clear hwa hRB hSB hba hca hva hlt hn1 hn2 hod2 hrb hv1 hv2 hv3 hnext
      go_region_law
       (first
        | (refine zLb EKr (by rfl) _ _ (by rfl) (base:=w.heap.size+1) (v:=.slice la i lc) (n:=i) (xs:=zAm (readAll room D i).1 vs) [.bool qis,.string qname,.int .i64 (qnum:Int),.slice da qdata.length dc] (by rfl) (by rfl) (by rfl) (by exact zLD rfl) hone (by exact HVA.out.alloc _) hi32 (by decide) (by simp <;> omega) ?_
           intro v1 x1 hv1' hg1
           obtain ⟨a1,cp1,rfl,_⟩:=zDk hv1'
           have hB1:Blk x1 w.heap.size (stV d room la i lc false) 73:=Blk.grown' (by exact HSB.out.alloc _) hg1 Hn1.out
           have hR1:Blk x1 rb #[.bool qis,.string qname,.int .i64 (qnum:Int),.slice da qdata.length dc] 75:=Blk.grown' (by exact HRB.out.alloc _) hg1 Hn2.out
           have hh:x1.cell? ⟨w.heap.size,2,none⟩=some (.slice la i lc)∧x1.cell? ⟨rb,0,none⟩=some (.bool qis)∧x1.cell? ⟨rb,1,none⟩=some (.string qname)∧x1.cell? ⟨rb,2,none⟩=some (.int .i64 (qnum:Int))∧x1.cell? ⟨rb,3,none⟩=some (.slice da qdata.length dc):=⟨hB1.cell 2,hR1.cell 0,hR1.cell 1,hR1.cell 2,hR1.cell 3⟩
           have f2:x1.frozen? ⟨w.heap.size,2,none⟩=false:=hB1.free 2
           have hxc:Chg (fun b=>w.heap.size≤b) w3 x1:=Chg.grown (HCA.out.trans (Chg.of_below ((Below.refl _ _).drew.alloc (by exact Nat.le_refl _) _))) hg1 (fun q hq=>.inl (by have:=Hlt2.out q hq;omega))
           have hpu:zAj 5 75 x1 (w.heap.size+1) (.slice a1 (i+1) cp1) ((readAll room D i).1++[⟨qis,qname,qnum,qdata⟩]):=zL1 (by decide) HV1.out HV2.out HV3.out HOD.out (HBA.out.trans (((Below.refl _ _).drew.alloc (by exact Nat.le_refl _) _).mono HBA.out.size)) (by rw [HLEN.out];exact hv1') hg1))
      all_goals
       go_wp2_with fail
       have hfin:Chg (fun b=>w.heap.size≤b) w3 (x1.setCell ⟨w.heap.size,2,none⟩ (.slice a1 (i+1) cp1)):=hxc.set (a:=⟨w.heap.size,2,none⟩) (Nat.le_refl _) _
       refine ⟨⟨i+1,by omega,by go_num,by rw [HNX.out],⟨a1,cp1,hB1.set 2 (.slice a1 (i+1) cp1),by rw [HNX.out];exact hpu.chg (S:=fun b=>b=w.heap.size) (chg1 _ _ _ _) (fun g hg e=>by omega)⟩,
        by rw [HNX.out];exact HD3.out.chg hfin (fun h=>by have:=Hlt.out;omega) (fun h=>by have:=Hlt.out;omega),by have:=hfin.size;omega,by have:=zBH room D (i+1);omega,zBm room D (i+1),
        (HCW.out.mix HC.out (fun k hk=>by unfold Tri at hk;omega)).mix hfin (fun k hk=>.inr hk)⟩,by simp [intOf] <;> omega⟩
    · as_aux_lemma =>
      have HE:=Lib.hid (show zu D slots room=(qe,if qw=true then (readAll room D i).2.2.wr ((i*(room+1):Nat):Int) [0] else (readAll room D i).2.2,none) from by
       have hst:readAll room D (i+1)=((readAll room D i).1,qe,if qw=true then (readAll room D i).2.2.wr ((i*(room+1):Nat):Int) [0] else (readAll room D i).2.2):=by
        rw [readAll]
        simp only [h0,ne_eq,not_true_eq_false,if_false]
        rw [← HQ.out]
        simp only [he,not_false_eq_true,if_true]
       have hall:readAll room D slots=readAll room D (i+1):=by
        have:=zCs room D (k:=i+1) (by rw [hst];exact he) (slots - (i+1))
        rw [← this]
        congr 1
        omega
       unfold zu
       rw [hall,hst]
       simp only [ne_eq,he,not_false_eq_true,if_true])
      have HSZ:=Lib.hid hsz
      go_wp2_with fail
      go_ret2
      refine ⟨_,by rw [HE.out] <;> rfl,?_,?_,.inl ⟨by rw [HE.out],rfl⟩⟩
      · exact (HCW.out.mix HC.out (fun k hk=>by unfold Tri at hk;have:=HSZ.out;omega)).mix (T:=fun _=>False) (Chg.of_below ((Below.refl _ _).alloc (Nat.le_refl _) _)) (fun _ h=>h.elim)
      · rw [HE.out]
        exact HD3.out.below ((Below.refl _ _).alloc (Nat.le_refl _) _)
  · as_aux_lemma =>
    obtain rfl:slots=i:=by omega
    have hlen:=zBZ room D slots h0
    have hsm:=zDK room D slots
    have hwr:=zBH room D slots
    have hsl:=Hsl.out;have hrm:=HR.out;have hl3:=HDD.out.lt;have hn0:=HN0.out
    obtain ⟨l,hl⟩:∃ l,l=(readAll room D slots).1:=⟨_,rfl⟩
    obtain ⟨D1,hD1⟩:∃ E,E=(readAll room D slots).2.2:=⟨_,rfl⟩
    rw [← hl] at hO hlen hsm
    rw [← hD1] at hDi hw hn hwr
    have hpos:0 < l.length:=by omega
    obtain ⟨lb,cap,e,hc1,hc2,hlb,hRA⟩:=zAj.recsAt (l:=l) hO hpos (by decide) (fun b=>N0 b∨b=w.heap.size) (fun b hb=>by
     rcases hb with hb | hb
     · have:=hn0.2.2.2 b hb;omega
     · omega)
    injection e with e1 e2 e3
    subst e1 e3
    have hgT:gT < w.heap.size:=HT.out.lt
    have hmx:lc≤9223372036854775807:=by unfold maxLen at hc2;omega
    have hI:zO wr (fun b=>N0 b∨b=w.heap.size∨b=lb) w.heap.size lb d L ⟨room,l,false,D1⟩ :=
     { blk:=⟨lc,by rw [hlen];exact hB,hc1,hmx⟩
       recs:=hRA.mono fun b hb=>.inl (by rcases hb with h | h | h;exact .inl (.inl h);exact .inl (.inr h);exact .inr h)
       disk:=hDi
       tab:=HT.out.chg hcw (fun h=>by rcases h with h | h;exact hn0.1 (h ▸ hn0.2.1);exact hn0.1 (h ▸ hn0.2.2.1))
       ntab:=fun h=>by rcases h with h | h | h;exact hn0.1 h;omega;omega
       foot:=fun b hb=>by rcases hb with h | h | h | h;exact .inr (.inl h);exact .inr (.inr h);exact .inl (h ▸ hn0.2.1);exact .inl (h ▸ hn0.2.2.1)
       ne:=⟨by omega,by omega,by omega,by omega,by omega⟩
       ok:=⟨by show 1≤room;omega,by show room≤1024;omega,hpos,by show l.length≤1024;omega,by show D1.n=l.length*(room+1);rw [hn,hlen];have:=HM.out;omega,fun r hr=>by have:=hsm r hr;unfold Small at this;simp only;omega,by show D1.writes≤72057594037927936;omega⟩
       old:=fun b hb=>by
        have:=hcw.size
        rcases hb with h | h | h
        · have:=hn0.2.2.2 b h;omega
        · rw [h];omega
        · rw [h];exact hRA.lt }
    have hw1:D1.writes < 72057594037920000+1024:=by omega
    obtain ⟨s0,hs0⟩:∃ s0:St,s0=⟨room,l,false,D1⟩:=⟨_,rfl⟩
    rw [← hs0] at hI
    have hopen:zu D slots room=if (zC s0 slots).1≠0 then ((zC s0 slots).1,(zC s0 slots).2.disk,none) else (0,(zC s0 slots).2.disk,some (zC s0 slots).2):=by
     unfold zu
     simp only [h0,ne_eq,not_true_eq_false,if_false]
     rw [hs0,hl,hD1]
    have hsz0:s0.recs.length=slots:=by rw [hs0];exact hlen
    have hsw:s0.disk.writes < 72057594037920000+1024:=by rw [hs0];exact hw1
    have c2:wr.cell? ⟨w.heap.size,2,none⟩=some (.slice (some ⟨lb,0,none⟩) slots lc):=hB.cell 2
    have HI:=Lib.hid hI;have HOP:=Lib.hid hopen;have HSZ:=Lib.hid hsz0;have HSW:=Lib.hid hsw;have HCW:=Lib.hid hcw;have HLB:=Lib.hid (show w.heap.size < lb from hlb)
    have HL3:=Lib.hid hl3
    clear hI hopen hsz0 hsw hcw hlb hw1 hs0 hD1 hl hRA hc1 hc2 hmx hgT hO hB hDi hw hn hlen hsm hwr hsl hrm hl3 hn0 hpos h0 e2 hsz
    go_wp2_with fail
    go_loopw [66] (fun v wx=>∃ k:Nat,k≤slots∧v=.int .i64 k∧(zC s0 k).1=0∧zO wx (fun b=>N0 b∨b=w.heap.size∨b=lb) w.heap.size lb d L (zC s0 k).2∧Chg (fun b=>b=d∨b=L) w wx) (fun v _=>slots - (intOf v).toNat)
    case atStart=>exact ⟨0,by omega,rfl,rfl,HI.out,HCW.out⟩
    case round=>as_aux_lemma =>
     obtain ⟨k,hk,rfl,hk0,hIk,hck⟩:=hrel
     by_cases hlt:k < slots
     · have hkl:(zC s0 k).2.recs.length=slots:=(zBf s0 k).1.trans HSZ.out
       have hkw:=zCo s0 k
       obtain ⟨s,hs⟩:∃ s,s=(zC s0 k).2:=⟨_,rfl⟩
       rw [← hs] at hIk hkl hkw
       obtain ⟨r,hr⟩:∃ r,s.recs[k]?=some r:=⟨s.recs[k]'(by omega),by simp⟩
       obtain ⟨a,c,c3,c4,c5,c6,_,_⟩:=hIk.recs.at hr
       have i0:(0:Int)≤(k:Int):=by omega
       have i1:(k:Int) < (slots:Int):=by omega
       have hk32:k+1≤4294967296:=by have:=Hsl.out;omega
       have HIK:=Lib.hid hIk;have HCK:=Lib.hid hck;have HR':=Lib.hid hr;have HS:=Lib.hid hs;have HKL:=Lib.hid hkl;have HKW:=Lib.hid hkw
       clear hIk hck hr hs hkl hkw
       go_wp2_with fail
       obtain ⟨wb,hwb⟩:∃ wb,wb=wr.alloc (.cells (zH5 r (.slice a r.data.length c)) 75):=⟨_,rfl⟩
       obtain ⟨bx,hbxe⟩:∃ bx,bx=wr.heap.size:=⟨_,rfl⟩
       have hbx:Blk wb bx (zH5 r (.slice a r.data.length c)) 75:=by rw [hwb,hbxe];exact Blk.new _ _ _
       have hbb:Below wr.heap.size wr wb:=by rw [hwb];exact (Below.refl _ _).alloc (Nat.le_refl _) _
       rw [show (wr.alloc (.cells #[.bool r.is,.string r.name,.int .i64 (r.num:Int),.slice a r.data.length c] 75))=wb from hwb.symm,← hbxe]
       have hIb:=HIK.out.below hbb
       obtain ⟨cp,hBb,hcp1,hcp2⟩:=hIb.blk
       have hck2:Chg (fun b=>b=d∨b=L) w wb:=HCK.out.mix (T:=fun _=>False) (Chg.of_below hbb) (fun _ h=>h.elim)
       have HIB:=Lib.hid hIb;have HCB:=Lib.hid hck2
       clear hwb hbb hck2 hbxe
       refine (zDM _ w.heap.size lb d s.recs.length cp s.room s.dead s.recs r.name wb hBb hIb.recs rfl (by have:=hIb.ok.len2;omega) hcp1 hcp2 (fun r' h'=>by have:=hIb.ok.each r' h';have:=hIb.ok.few;omega)).mono ?_
       clear hIb hBb hcp1 hcp2
       rintro e w4 ⟨rfl,hb4⟩
       have hI4:=HIB.out.below hb4
       have d0:w4.cell? ⟨bx,0,none⟩=some (.bool r.is):=(hbx.kept hb4).cell 0
       have hc4:Chg (fun b=>b=d∨b=L) w w4:=HCB.out.mix (T:=fun _=>False) (Chg.of_below hb4) (fun _ h=>h.elim)
       obtain ⟨o,ho⟩:∃ o,o=Sto.best s.recs r.name s.recs.length:=⟨_,rfl⟩
       have hkb:zC s0 (k+1)=if r.is=true∧o≠some k then (s.freeE k,s.freeS k) else zC s0 k:=by
        rw [zC]
        simp only [hk0,ne_eq,not_true_eq_false,if_false]
        rw [← HS.out,HR'.out]
        simp only
        rw [← ho]
       rw [← ho]
       have HI4:=Lib.hid hI4;have HC4:=Lib.hid hc4;have HKB:=Lib.hid hkb
       clear hI4 hc4 hkb hbx hb4 c3 c4 c5 c6 ho
       obtain ⟨z,hz⟩:∃ z,z=zBg o:=⟨_,rfl⟩
       rw [← hz]
       by_cases his:r.is=true
       · by_cases hok:o=some k
         · as_aux_lemma =>
           have t1:(z == (k:Int))=true:=by rw [hz,hok];simp [zBg]
           have hnx:zC s0 (k+1)=zC s0 k:=by rw [HKB.out,if_neg (fun h=>h.2 hok)]
           have HNX:=Lib.hid hnx
           rw [his] at d0
           clear his hok hz hnx
           go_wp2
           exact ⟨⟨k+1,by omega,by go_num,by rw [HNX.out];exact hk0,by rw [HNX.out,← HS.out];exact HI4.out,HC4.out⟩,by simp [intOf] <;> omega⟩
         · as_aux_lemma =>
           have t1:(z == (k:Int))=false:=by
            rw [hz]
            cases o with
            | none=>simp [zBg] <;> omega
            | some q=>simp [zBg];intro e;exact hok (by rw [Int.ofNat.inj e])
           have hnx:zC s0 (k+1)=(s.freeE k,s.freeS k):=by rw [HKB.out,if_pos ⟨his,hok⟩]
           have HNX:=Lib.hid hnx
           rw [his] at d0
           clear his hok hz hnx
           go_wp2_with fail
           refine (free_at _ w.heap.size lb d L k s w4 HI4.out (by have:=HKL.out;omega) (by have:=HKW.out;have:=HSW.out;have:=Hsl.out;omega)).mono ?_
           rintro e w5 ⟨rfl,hI5,hc5⟩
           have hc5':Chg (fun b=>b=d∨b=L) w w5:=HC4.out.mix hc5 (fun q hq=>by have:=HLB.out;unfold zAe at hq;omega)
           have HI5:=Lib.hid hI5;have HC5:=Lib.hid hc5'
           clear hI5 hc5 hc5'
           obtain ⟨fe,hfe⟩:∃ x,x=s.freeE k:=⟨_,rfl⟩
           rw [← hfe]
           have HFE:=Lib.hid hfe
           clear hfe
           by_cases hE:fe=0
           · subst hE
             go_wp2
             exact ⟨⟨k+1,by omega,by go_num,by rw [HNX.out];exact HFE.out.symm,by rw [HNX.out];exact HI5.out,HC5.out⟩,by simp [intOf] <;> omega⟩
           · have HE:=Lib.hid (show zu D slots room=(fe,(s.freeS k).disk,none) from by
              have hall:zC s0 slots=(fe,s.freeS k):=by
               have:=zCK s0 (k:=k+1) (by rw [HNX.out];simpa [← HFE.out] using hE) (slots - (k+1))
               rw [show k+1+(slots - (k+1))=slots from by omega] at this
               rw [this,HNX.out,HFE.out]
              rw [HOP.out,hall,if_pos hE])
             go_wp2_with fail
             go_ret2
             exact ⟨_,by rw [HE.out] <;> rfl,HC5.out,by rw [HE.out];exact HI5.out.disk,.inl ⟨by rw [HE.out],rfl⟩⟩
       · as_aux_lemma =>
         have his:r.is=false:=by simpa using his
         have hnx:zC s0 (k+1)=zC s0 k:=by rw [HKB.out,if_neg (fun h=>by rw [his] at h;exact absurd h.1 (by decide))]
         have HNX:=Lib.hid hnx
         rw [his] at d0
         clear his hz hnx
         go_wp2
         exact ⟨⟨k+1,by omega,by go_num,by rw [HNX.out];exact hk0,by rw [HNX.out,← HS.out];exact HI4.out,HC4.out⟩,by simp [intOf] <;> omega⟩
     · as_aux_lemma =>
       obtain rfl:slots=k:=by omega
       have HE:=Lib.hid (show zu D slots room=(0,(zC s0 slots).2.disk,some (zC s0 slots).2) from by rw [HOP.out,hk0];rfl)
       go_wp2
       go_ret2
       exact ⟨_,by rw [HE.out] <;> rfl,hck,by rw [HE.out];exact hIk.disk,.inr ⟨_,lb,by rw [HE.out],rfl,HLB.out,hIk⟩⟩
end Go.Proofs.YtdlkghdfkjdajaaGreatDoor
end
section
namespace Go.Mem
open Go Go.RowKit Gf Go.Proofs.YtdlkghdfkjdajaaGreatDoor
theorem zF8 {u:Nat} (h:u < 1000):Lib.nDigits u≤3:=by
 by_cases h1:u < 10
 · rw [Lib.nDigits_small h1];omega
 · rw [Lib.nDigits_big h1]
   by_cases h2:u / 10 < 10
   · rw [Lib.nDigits_small h2];omega
   · rw [Lib.nDigits_big h2,Lib.nDigits_small (by omega)];omega
theorem zL6 {name:ByteArray} {num:Nat} {data:List UInt8} (h1:name.size < 1000) (h2:data.length < 1000):(Sto.text name num data).length≤name.size+data.length+17:=by
 have e1:name.data.toList.length=name.size:=Array.length_toList
 have d1:=zF8 (u:=name.size) h1
 have d2:=zF8 h2
 have d3:Lib.nDigits 4=1:=Lib.nDigits_small (by decide)
 simp only [Sto.text,Cod.zAU,List.length_append,Cod.zAL,Cod.zt,List.length_nil,e1,d3]
 omega
theorem zJb {room:Nat} {name:ByteArray} {data:List UInt8} (h1:name.size < 1000) (h2:data.length < 1000) (h:name.size+data.length+17≤room*32):zAH room name data=true:=by
 have:=zL6 (num:=0) h1 h2
 unfold zAH
 simp only [Bool.and_eq_true,decide_eq_true_eq]
 omega
def zF6 (l:List Sto.Rec):Nat:=l.countP fun r=>r.is
theorem zG5 {l:List Sto.Rec} (h:zF6 l < l.length):Sto.slot l < l.length:=by
 unfold Sto.slot
 rw [List.findIdx_lt_length]
 exact Classical.byContradiction fun hn=>by
  have:zF6 l=l.length:=by
   unfold zF6
   rw [List.countP_eq_length]
   intro a ha
   exact Classical.byContradiction fun h'=>hn ⟨a,ha,by simpa using h'⟩
  omega
theorem zKJ (n:Nat):zF6 (List.replicate n Sto.Rec.free)=0:=by
 unfold zF6
 rw [List.countP_eq_zero]
 intro a ha
 rw [(List.mem_replicate.1 ha).2];simp [Sto.Rec.free]
end Go.Mem
namespace Go.Mem
open Go Go.RowKit Gf
end Go.Mem
end
section
namespace Go.Proofs.YtdlkghdfkjdajaaGreatDoor
open Go Go.RowKit Go.Mem Gf Go.Sort
section
variable {w w':World} {v:Value} {ss:List (List UInt8)}
end
attribute [local go_sem ↓] Go.wp_at_zero Go.wp_at_succ
end Go.Proofs.YtdlkghdfkjdajaaGreatDoor
end
section
namespace Go.Mem
open Go Go.RowKit Gf Go.Proofs.YtdlkghdfkjdajaaGreatDoor
theorem St.get_look {s:St} (h:s.dead=false) (name:ByteArray):s.get name=Sto.look s.recs name:=by
 unfold St.get Sto.look
 rw [if_neg (by simp [h])]
structure zCa (m:Nat) (s:St):Prop where
 holds:Holds s.disk s.room s.recs
 uniq:Sto.Uniq s.recs
 disk:s.disk.dead=false
 dead:s.dead=false
 bnd:Bnd m s.recs
 writes:s.disk.writes≤2000*m
 stops:s.disk.stops=false
 room:1≤s.room∧s.room≤1000
theorem zCa.fresh (slots room:Nat) (h:1≤room∧room≤1000):zCa 0 ⟨room,List.replicate slots Sto.Rec.free,false,.fresh (slots*(room+1))⟩ :=
 ⟨Holds.fresh slots room,zGO slots,rfl,rfl,zKu slots,Nat.le_refl _,rfl,h⟩
theorem zCa.put {m:Nat} {s:St} (h:zCa m s) (hm:m < 1000000) {name:ByteArray} {data:List UInt8} (hf:zAH s.room name data=true) (ht:Sto.slot s.recs < s.recs.length) :
  (zk s name data).1=0∧zCa (m+1) (zk s name data).2∧(zk s name data).2.recs=zEd s.recs name data∧(zk s name data).2.room=s.room:=by
 have hr:=h.room
 rcases zJh h.holds h.disk h.dead h.bnd (by omega) name data with ⟨h1,_⟩ | ⟨_,h1,_⟩ | ⟨_,_,h1,h2,h3⟩
 · rw [hf] at h1;cases h1
 · omega
 · rcases h3 with ⟨a1,a2,a3,a4,a5⟩ | ⟨_,a2,_⟩
   · refine ⟨a1,⟨by rw [h1,a4];exact a5,by rw [a4];exact zGF h.uniq ht name data,a3,a2,?_,?_,h2.trans h.stops,by rw [h1];exact hr⟩,a4,h1⟩
     · rw [a4]
       have hl:Bnd (m+1) (zDC s.recs name data):=h.bnd.set (by omega) _ (h.bnd.next name)
       exact hl.thin (zC3 ht name data)
     · have:=zDU s name data
       have:=h.writes
       omega
   · rw [h.stops] at a2;cases a2
theorem zHb {m:Nat} {D:zA} {room:Nat} {l:List Sto.Rec} (h:Holds D room l) (hm:Bnd m l) (hw:D.writes≤2000*m) (hl:l.length≤500) (hr:1≤room∧room≤1000) :
  ∃ l' D',Sto.zAq l l'∧zu D.start l.length room=(0,D',some ⟨room,l',false,D'⟩)∧zCa (m+1) ⟨room,l',false,D'⟩:=by
 obtain ⟨l',a1,a2,a3,a4⟩:=zLI h.start rfl
 have hw2:=zEM D.start l.length room
 have hw3:D.start.writes=D.writes:=rfl
 rcases a4 with ⟨b1,b2,b3,b4⟩ | ⟨_,b2,_⟩
 · refine ⟨l',(zu D.start l.length room).2.1,a1,by rw [← b3,← b1],⟨a2,b4,b2,rfl,?_,by show (zu D.start l.length room).2.1.writes≤_;omega,a3,hr⟩⟩
   have:=hm.thin a1
   exact fun r hr=>Nat.le_succ_of_le (this r hr)
 · exact absurd b2 (by simp [zA.start])
end Go.Mem
namespace Go.Proofs.YtdlkghdfkjdajaaGreatDoor
open Go Go.RowKit Go.Mem Gf
def DL (d L:Nat) (b:Nat):Prop:=b=d∨b=L
structure Lab (w0 w:World) (d L:Nat) (D:zA):Prop where
 disk:zM w d L D
 bel:Below w0.heap.size w0 w
 d1:w0.heap.size≤d
 l1:w0.heap.size≤L
 tab:Tab w
structure LabS (w0 w:World) (sb lb d L:Nat) (s:St):Prop where
 st:zO w (fun b=>DL d L b∨b=sb∨b=lb) sb lb d L s
 bel:Below w0.heap.size w0 w
 d1:w0.heap.size≤d
 l1:w0.heap.size≤L
 s1:w0.heap.size≤sb
 b1:w0.heap.size≤lb
theorem Chg.far {S:Nat→Prop} {B:Nat} {w0 w w':World} (h:Below B w0 w) (hc:Chg S w w') (hB:B≤w.heap.size) (hs:∀ k,S k→B≤k):Below B w0 w':=h.trans (hc.below hB hs)
theorem zO.redisk {w w':World} {N:Nat→Prop} {sb lb d L:Nat} {s:St} {D:zA} (h:zO w N sb lb d L s) (hc:Chg (DL d L) w w') (hD:zM w' d L D) (hn:D.n=s.disk.n) (hw:s.disk.writes≤D.writes) (hw2:D.writes≤72057594037927936):zO w' N sb lb d L { s with disk:=D }:=by
 obtain ⟨cap,hB,a,b⟩:=h.blk
 have hne:=h.ne
 have hs:∀ k,DL d L k→k < w.heap.size→N k:=fun k hk _=>by
  rcases hk with rfl | rfl
  · exact h.foot _ (.inr (.inr (.inl rfl)))
  · exact h.foot _ (.inr (.inr (.inr rfl)))
 exact ⟨⟨cap,hc.blk hB (fun hk=>by rcases hk with e | e;exact hne.2.1 e;exact hne.2.2.1 e),a,b⟩,h.recs.chg hc (fun hk=>by rcases hk with e | e;exact hne.2.2.2.1 e;exact hne.2.2.2.2 e) hs,hD,
  h.tab.chg hc (fun hk=>h.ntab (hs _ hk h.tab.lt)),h.ntab,h.foot,h.ne,⟨h.ok.room1,h.ok.room2,h.ok.len1,h.ok.len2,hn.trans h.ok.size,fun r hr=>by have:=h.ok.each r hr;simp only;omega,hw2⟩,fun b hb=>Nat.lt_of_lt_of_le (h.old b hb) hc.size⟩
theorem Lab.chg {w0 w w':World} {d L:Nat} {D D':zA} (h:Lab w0 w d L D) (ht:gT≠d∧gT≠L) (hc:Chg (DL d L) w w') (hD:zM w' d L D'):Lab w0 w' d L D' :=
 ⟨hD,Chg.far h.bel hc h.bel.size (fun k hk=>by rcases hk with rfl | rfl;exact h.d1;exact h.l1),h.d1,h.l1,h.tab.chg hc (fun hk=>by rcases hk with e | e;exact ht.1 e;exact ht.2 e)⟩
theorem zLx (n:Nat) (w0 w:World) (hT0:Tab w0) (hb:Below w0.heap.size w0 w) (h1:1≤n) (h2:n≤4096) :
  Calls Tryz.prog 6 #[.int .i64 n] w fun e w'=>∃ d L,e=.returned (.tuple #[.pointer (some ⟨d,0,none⟩),.int .i64 0])∧Lab w0 w' d L (.fresh n)∧(gT≠d∧gT≠L)∧Below w.heap.size w w':=by
 refine (zEv n w h1 h2).mono ?_
 rintro e w1 ⟨d,L,rfl,hD,hd1,hd2,hb1⟩
 have hs:=hb.size
 have:=hT0.lt
 exact ⟨d,L,rfl,⟨hD,hb.trans (hb1.mono hs),by omega,by omega,(hT0.below hb).below hb1⟩,⟨by omega,by omega⟩,hb1⟩
theorem zK9 {w0 w:World} {d L:Nat} {D:zA} (h:Lab w0 w d L D) (ht:gT≠d∧gT≠L) (slots room:Nat) (h1:1≤slots∧slots≤1024) (h2:1≤room∧room≤1024) (hn:D.n=slots*(room+1)) (hfew:D.writes < 72057594037920000) :
  Calls Tryz.prog 7 #[.pointer (some ⟨d,0,none⟩),.int .i64 slots,.int .i64 room] w fun e w'=>∃ p,e=.returned (.tuple #[p,.int .i64 (zu D slots room).1])∧Chg (DL d L) w w'∧Lab w0 w' d L (zu D slots room).2.1 ∧
   (((zu D slots room).2.2=none∧p=.pointer none)∨∃ s sb lb,(zu D slots room).2.2=some s∧p=.pointer (some ⟨sb,0,none⟩)∧LabS w0 w' sb lb d L s):=by
 have hs:=h.bel.size
 have hd:=h.disk.lt
 refine (zFC (DL d L) d L D slots room w h.tab ⟨fun hk=>by rcases hk with e | e;exact ht.1 e;exact ht.2 e,.inl rfl,.inr rfl,fun b hb=>by rcases hb with rfl | rfl;exact hd.1;exact hd.2⟩ h.disk (by simp;omega) (by simp;omega) hn hfew).mono ?_
 rintro e w1 ⟨p,rfl,hc,hD,hp⟩
 have hl:=h.chg ht hc hD
 refine ⟨p,rfl,hc,hl,?_⟩
 rcases hp with hp | ⟨s,lb,e1,e2,e3,e4⟩
 · exact .inl hp
 · exact .inr ⟨s,w.heap.size,lb,e1,e2,⟨e4,hl.bel,h.d1,h.l1,hs,by omega⟩⟩
theorem zFj {w0 w:World} {d L:Nat} {D:zA} (h:Lab w0 w d L D) (ht:gT≠d∧gT≠L) {slots room:Nat} {l:List Sto.Rec} (h1:1≤slots∧slots≤1024) (h2:1≤room∧room≤1024) (hfew:D.writes < 72057594037920000) (hl:l.length=slots) (hh:Holds D room l) (hd:D.dead=false) (hu:Sto.Uniq l) :
  Calls Tryz.prog 7 #[.pointer (some ⟨d,0,none⟩),.int .i64 slots,.int .i64 room] w fun e w'=>∃ sb lb,e=.returned (.tuple #[.pointer (some ⟨sb,0,none⟩),.int .i64 0])∧LabS w0 w' sb lb d L ⟨room,l,false,D⟩∧Chg (DL d L) w w':=by
 have ho:=zKO hh hd hu
 rw [hl] at ho
 refine (zK9 h ht slots room h1 h2 (by rw [← hl];exact hh.1) hfew).mono ?_
 rintro e w1 ⟨p,rfl,hc,_,hp⟩
 rw [ho] at hp ⊢
 rcases hp with ⟨h,_⟩ | ⟨s,sb,lb,e1,rfl,e3⟩
 · cases h
 · cases e1
   exact ⟨sb,lb,rfl,e3,hc⟩
end Go.Proofs.YtdlkghdfkjdajaaGreatDoor
namespace Go.Mem
open Go Go.RowKit Gf Go.Proofs.YtdlkghdfkjdajaaGreatDoor
theorem zKV {l:List Sto.Rec} (ht:Sto.slot l < l.length) (name:ByteArray) (data:List UInt8) (nm:ByteArray):Sto.look (zEd l name data) nm=if nm=name then some data else Sto.look l nm:=by
 rw [(zC3 ht _ _).look,zEB ht]
end Go.Mem
namespace Go.Proofs.YtdlkghdfkjdajaaGreatDoor
open Go Go.RowKit Go.Mem Gf
attribute [local go_sem ↓] Go.wp_at_zero Go.wp_at_succ
set_option maxRecDepth 100000 in
set_option maxHeartbeats 1000000 in
theorem zKx (v:Value) (bs:List UInt8) (n:Nat) (w0 w:World) (h0:Bys w0 v bs) (h:Bys w v bs) :
  Calls Tryz.prog 10 #[v,.int .i64 n] w fun e w'=>(∃ v',e=.returned v'∧Bys w0 v' (bs.take n))∧w=w':=by
 have hl:=h.len
 obtain ⟨a,cap,rfl,h1,h2,h3⟩:=id h
 obtain ⟨l,hl'⟩:∃ l,l=bs.length:=⟨_,rfl⟩
 rw [← hl'] at hl h h1 h0 ⊢
 have Hl:=Lib.hid hl';have H3:=Lib.hid h3;have H2:=Lib.hid h2;have H0:=Lib.hid h0;clear hl' h3 h2 h0
 by_cases hlt:n < l
 · go_enter Tryz.func10,Tryz.ntmps10
   go_wp2
   go_ret
   refine ⟨⟨_,rfl,?_⟩,rfl⟩
   show Bys w0 (.slice a (min (l:Int) (n:Int)).toNat cap) _
   rw [show (min (l:Int) (n:Int)).toNat=n from by omega]
   exact H0.out.take n (by have:=Hl.out;omega)
 · go_enter Tryz.func10,Tryz.ntmps10
   go_wp2
   go_ret
   refine ⟨⟨_,rfl,?_⟩,rfl⟩
   show Bys w0 (.slice a (min (l:Int) (n:Int)).toNat cap) _
   rw [show (min (l:Int) (n:Int)).toNat=l from by omega,List.take_of_length_le (by have:=Hl.out;omega)]
   exact H0.out
end Go.Proofs.YtdlkghdfkjdajaaGreatDoor
namespace Go.Mem
open Go Go.RowKit Gf Go.Proofs.YtdlkghdfkjdajaaGreatDoor
theorem zGT {l:List Sto.Rec} {nm:ByteArray} (h:Sto.look l nm=none):Sto.best l nm l.length=none:=by
 unfold Sto.look at h
 simpa using h
end Go.Mem
namespace Go.Proofs.YtdlkghdfkjdajaaGreatDoor
open Go Go.RowKit Go.Mem Gf
end Go.Proofs.YtdlkghdfkjdajaaGreatDoor
end
section
namespace Go.Proofs.YtdlkghdfkjdajaaGreatDoor
open Go Go.RowKit Go.Mem Gf
set_option linter.unusedVariables false
set_option linter.unusedSimpArgs false
attribute [local go_sem ↓] Go.wp_at_zero Go.wp_at_succ
set_option maxRecDepth 100000 in
theorem zI0 (w:World) (hT:Tab w):Calls Tryz.prog 42 #[] w fun e w'=>∃ sb lb d L,e=.returned (.pointer (some ⟨sb,0,none⟩))∧LabS w w' sb lb d L ⟨3,List.replicate 4 Sto.Rec.free,false,.fresh (4*(3+1))⟩:=by
 have HT:=Lib.hid hT
 clear hT
 go_enter Tryz.func42,Tryz.ntmps42
 go_wp2_with fail
 refine (zLx 16 w w HT.out (Below.refl _ _) (by omega) (by omega)).mono ?_
 rintro e w1 ⟨d,L,rfl,hl1,ht,_⟩
 have Ht:=Lib.hid ht;have H1:=Lib.hid hl1
 clear ht hl1
 go_wp2_with fail
 refine (zFj H1.out Ht.out (slots:=4) (room:=3) (by omega) (by omega) (by decide) (l:=List.replicate 4 Sto.Rec.free) rfl (Holds.fresh 4 3) rfl (zGO 4)).mono ?_
 rintro e w2 ⟨sb,lb,rfl,hs2,_⟩
 go_wp2
 go_ret
 exact ⟨sb,lb,d,L,rfl,hs2⟩
theorem zFx {w:World} {kb sb lb d Ld:Nat} (c:UInt8) (z:Int) (hz:z=(c.toNat:Int)) (hk:kb < w.heap.size) (hf:∀ b,zAe sb lb d Ld b→b < w.heap.size):∀ w',Chg (KF kb sb lb d Ld) (w.alloc (.cells #[.int .u8 z] 5)) w'→Bys w' (.slice (some ⟨w.heap.size,0,none⟩) 1 1) [c]:=fun w' hc=>by
 subst hz
 have hb:Blk (w.alloc (.cells #[.int .u8 (c.toNat:Int)] 5)) w.heap.size #[.int .u8 (c.toNat:Int)] 5:=Blk.new _ _ _
 have hb':=hc.blk hb (fun e=>by
  rcases e with e | e
  · omega
  · have:=hf _ e;omega)
 exact hb'.bys (bs:=[c]) (cap:=1) (Nat.le_refl 1) (zAC (by decide)) (fun i x hi=>by
  cases i with
  | zero=>simp at hi;subst hi;rfl
  | succ i=>simp at hi)
end Go.Proofs.YtdlkghdfkjdajaaGreatDoor
end
section
namespace Go.Proofs.YtdlkghdfkjdajaaGreatDoor
open Go Go.RowKit Go.Mem Gf
set_option linter.unusedVariables false
set_option linter.unusedSimpArgs false
structure zB9 (w0 w:World) (N:Nat→Prop) (kb sb lb d L:Nat) (s:St) (m:Nat) (name:ByteArray) (sd:List UInt8) (h next:Nat) (pr:List UInt8):Prop where
 st:zO w N sb lb d L s
 good:zCa m s
 ks:ze w kb sb name sd h next pr
 nk:N kb
 nf:¬ zAe sb lb d L kb
 bel:Below w0.heap.size w0 w
 far:∀ b,N b→w0.heap.size≤b
section
variable {w0 w w':World} {N:Nat→Prop} {kb sb lb d L h next m:Nat} {s:St} {name:ByteArray} {sd pr:List UInt8}
theorem zB9.step (g:zB9 w0 w N kb sb lb d L s m name sd h next pr) (hb:Below w.heap.size w w'):zB9 w0 w' N kb sb lb d L s m name sd h next pr :=
 { g with st:=g.st.below hb,ks:=Blk.kept g.ks hb,bel:=g.bel.trans (hb.mono g.bel.size) }
theorem zB9.kfar (g:zB9 w0 w N kb sb lb d L s m name sd h next pr):∀ b,KF kb sb lb d L b→w0.heap.size≤b:=fun b hb=>by
 rcases hb with rfl | hb
 · exact g.far _ g.nk
 · exact g.far _ (g.st.foot _ hb)
theorem zB9.lt (g:zB9 w0 w N kb sb lb d L s m name sd h next pr):kb < w.heap.size∧∀ b,zAe sb lb d L b→b < w.heap.size:=⟨Blk.lt g.ks,g.st.lt⟩
theorem zB9.of (g:zB9 w0 w N kb sb lb d L s m name sd h next pr) {s':St} {m' next':Nat} (hk:ze w' kb sb name sd h next' pr) (hs:StN w N sb lb d L s' w') (hc:Chg (KF kb sb lb d L) w w') (hg:zCa m' s'):∃ N',zB9 w0 w' N' kb sb lb d L s' m' name sd h next' pr:=by
 obtain ⟨N',h1,h2,h3⟩:=hs
 exact ⟨N',h3,hg,hk,h1 _ g.nk,g.nf,Chg.far g.bel hc g.bel.size g.kfar,fun b hb=>(h2 b hb).elim (g.far b) (fun e=>Nat.le_trans g.bel.size e)⟩
theorem zB9.left (g:zB9 w0 w N kb sb lb d L s m name sd h next pr) (hk:ze w' kb sb name sd h (zX s name next) pr) (hs:zO w' N sb lb d L s) (hc:Chg (fun b=>b=kb) w w'):zB9 w0 w' N kb sb lb d L s m name sd h (zX s name next) pr :=
 { g with st:=hs,ks:=hk,bel:=Chg.far g.bel hc g.bel.size (fun b (e:b=kb)=>by subst e;exact g.far _ g.nk) }
theorem zB9.sign (g:zB9 w0 w N kb sb lb d L s m name sd h next pr) {mm:List UInt8} {e:Ending} (hp:zHB w N kb sb lb d L s name sd h next pr mm e w') (hm:m < 1000000) (hlt:zX s name next < 2 ^ h) (hf:zAH s.room name (Cod.be 4 (zX s name next+1))=true) (ht:Sto.slot s.recs < s.recs.length) :
  ∃ vv pv N',e=.returned (.tuple #[.agg #[.int .i64 h,.int .i64 (zX s name next),vv,pv],.int .i64 0])∧zL bV WfH 32 34 w' w.heap.size vv (Wot.signO sd (zX s name next) mm)∧zL bV WfH 32 34 w' w.heap.size pv (Wot.proof h (zX s name next) (Wot.leaves sd (2 ^ h))) ∧
    zB9 w0 w' N' kb sb lb d L (zk s name (Cod.be 4 (zX s name next+1))).2 (m+1) name sd h (zX s name next+1) pr:=by
 obtain ⟨p1,g1,_,_⟩:=g.good.put hm hf ht
 rcases hp with ⟨hle,_⟩ | ⟨_,hne,_⟩ | ⟨_,_,vv,pv,he,h1,h2,hk,hs,hc⟩
 · omega
 · exact absurd p1 hne
 · obtain ⟨N',hg⟩:=g.of hk hs hc g1
   exact ⟨vv,pv,N',he,h1,h2,hg⟩
theorem zB9.none (g:zB9 w0 w N kb sb lb d L s m name sd h next pr) {mm:List UInt8} {e:Ending} (hp:zHB w N kb sb lb d L s name sd h next pr mm e w') (hlt:2 ^ h≤zX s name next) :
  e=.returned (.tuple #[zCe,.int .i64 9])∧∃ N',zB9 w0 w' N' kb sb lb d L s m name sd h (zX s name next) pr:=by
 rcases hp with ⟨_,he,hk,hs,hc⟩ | ⟨hl,_⟩ | ⟨hl,_⟩
 · exact ⟨he,g.of hk hs hc g.good⟩
 · omega
 · omega
end
theorem zKL {s:St} {m:Nat} (hg:zCa m s) (hm:m < 1000000) {name:ByteArray} {k:Nat} (hk:k < 4294967296) (hf:zAH s.room name (Cod.be 4 k)=true) (ht:Sto.slot s.recs < s.recs.length) (next:Nat):(zk s name (Cod.be 4 k)).2.get name=some (Cod.be 4 k)∧zX (zk s name (Cod.be 4 k)).2 name next=max next k:=by
 obtain ⟨_,g1,r1,_⟩:=hg.put hm hf ht
 have h1:(zk s name (Cod.be 4 k)).2.get name=some (Cod.be 4 k):=by
  rw [St.get_look g1.dead,r1,zKV ht,if_pos rfl]
 refine ⟨h1,?_⟩
 unfold zX
 rw [h1]
 show max next (Cod.zAh (Cod.be 4 k))=_
 rw [Cod.zGY 4 k hk]
def st0:St:=⟨3,List.replicate 4 Sto.Rec.free,false,.fresh (4*(3+1))⟩
theorem zFb:zCa 0 st0:=zCa.fresh 4 3 (by omega)
theorem zEi (name:ByteArray):st0.get name=none:=by
 rw [St.get_look rfl]
 exact zD8 4 name
theorem zIJ:Sto.slot st0.recs < st0.recs.length:=zG5 (l:=st0.recs) (by rw [show zF6 st0.recs=0 from zKJ 4];show 0 < 4;decide)
attribute [local go_sem ↓] Go.wp_at_zero Go.wp_at_succ
attribute [local go_sem ↓] zBC
attribute [local go_sem] ptrB_eq ptrO_eq ptrIs_eq aggL_eq aggIs_eq zS zV zD zF zJ zK zB
set_option maxRecDepth 20000 in
set_option maxHeartbeats 2000000 in
theorem zFq (w:World) (hT:Tab w):Calls Tryz.prog 15 #[] w fun e w'=>e=.returned (.bool true)∧Below w.heap.size w w':=by
 have HT:=Lib.hid hT
 clear hT
 go_enter Tryz.func15,Tryz.ntmps15
 go_wp2_with fail
 refine (zI0 w HT.out).mono ?_
 rintro e w1 ⟨sb,lb,d,L,rfl,hs1⟩
 have H1:=Lib.hid hs1
 clear hs1
 obtain ⟨z,hz⟩:∃ z:List UInt8,z=List.replicate 16 0:=⟨_,rfl⟩
 have hzl:z.length=16:=by rw [hz];rfl
 have hop:=zEK w1 _ sb lb d L st0 ⟨#[107]⟩ z 0 H1.out.st hzl (by decide) (fun b hb=>by rw [zEi] at hb;cases hb)
 rw [show zX st0 ⟨#[107]⟩ 0=0 from by unfold zX;rw [zEi]] at hop
 rw [show (bV z).toArray=#[Value.int .u8 0,.int .u8 0,.int .u8 0,.int .u8 0,.int .u8 0,.int .u8 0,.int .u8 0,.int .u8 0,.int .u8 0,.int .u8 0,.int .u8 0,.int .u8 0,.int .u8 0,.int .u8 0,.int .u8 0,.int .u8 0] from by rw [hz];rfl] at hop
 have HOP:=Lib.hid hop
 clear hop hz
 go_wp2_with fail
 refine HOP.out.mono ?_
 rintro e w2 ⟨kb,rfl,hkb,hks,hst,hb2⟩
 have hG2:zB9 w w2 (fun b=>(DL d L b∨b=sb∨b=lb)∨b=kb) kb sb lb d L st0 0 ⟨#[107]⟩ z 0 0 (Wot.print z 0) :=
  ⟨hst,zFb,hks,.inr rfl,fun hf=>by have:=H1.out.st.lt kb hf;omega,H1.out.bel.trans (hb2.mono H1.out.bel.size),fun b hb=>by
   have h1:=H1.out
   have hs:=h1.bel.size
   rcases hb with (hb | hb | hb) | hb
   · rcases hb with rfl | rfl
     · exact h1.d1
     · exact h1.l1
   · rw [hb];exact h1.s1
   · rw [hb];exact h1.b1
   · omega⟩
 have H2:=Lib.hid hG2
 clear hkb hks hst hb2 hG2
 go_wp2_with fail
 have hl0:zX st0 ⟨#[107]⟩ 0=0:=by unfold zX;rw [zEi]
 have hf0:zAH st0.room ⟨#[107]⟩ (Cod.be 4 (zX st0 ⟨#[107]⟩ 0+1))=true:=by
  rw [hl0]
  exact zJb (show 1 < 1000 by decide) (by rw [Cod.zt];decide) (by rw [Cod.zt];show 1+4+17≤3*32;decide)
 have hg3:=H2.out.step (w':=w2.alloc (.cells #[.int .u8 1] 5)) ((Below.refl _ _).alloc (Nat.le_refl _) _)
 have H3:=Lib.hid hg3
 refine (zCq _ _ kb sb lb d L st0 ⟨#[107]⟩ z 0 0 _ _ [1] hg3.ks hg3.st hzl hg3.nk hg3.nf (fun b hb=>by rw [zEi] at hb;cases hb) (by decide) (by decide) (zFx 1 1 rfl H2.out.lt.1 H2.out.lt.2) (by decide) (by decide) (by decide)).mono ?_
 clear hg3
 rintro e w4 hp
 obtain ⟨vv,pv,N4,rfl,h1,h2,hg4⟩:=H3.out.sign hp (by decide) (by rw [hl0];decide) hf0 zIJ
 have hlk:=zKL (next:=1) zFb (by decide) (k:=1) (by decide) (by rw [hl0] at hf0;exact hf0) zIJ
 rw [hl0] at h1 h2 hg4 ⊢
 obtain ⟨s1,hs1⟩:∃ s,s=(zk st0 ⟨#[107]⟩ (Cod.be 4 1)).2:=⟨_,rfl⟩
 rw [show (0:Nat)+1=1 from rfl,← hs1] at hg4
 rw [← hs1] at hlk
 have H4:=Lib.hid hg4
 have HLK:=Lib.hid hlk
 obtain ⟨a1,c1,e1⟩:=h1.slice
 obtain ⟨a2,c2,e2⟩:=h2.slice
 subst e1 e2
 obtain ⟨n1,hn1⟩:∃ x,x=(Wot.signO z 0 [1]).length:=⟨_,rfl⟩
 obtain ⟨n2,hn2⟩:∃ x,x=(Wot.proof 0 0 (Wot.leaves z (2 ^ 0))).length:=⟨_,rfl⟩
 rw [← hn1,← hn2]
 clear hp h1 h2 hg4 hlk hf0 hl0 hn1 hn2 hs1
 have hca4:zAS 4 [Value.int .i64 0,.int .i64 0,.slice a1 n1 c1,.slice a2 n2 c2]:=⟨rfl,fun v hv=>by
  simp only [List.mem_cons,List.not_mem_nil,or_false] at hv
  rcases hv with rfl | rfl | rfl | rfl <;> rfl⟩
 go_upto_region 8 with fail
 have hb5:Below w4.heap.size w4 (w4.alloc (.cells #[Value.int .i64 0,.int .i64 0,.slice a1 n1 c1,.slice a2 n2 c2] 48)):=(Below.refl _ _).alloc (Nat.le_refl _) _
 obtain ⟨w5,hw5⟩:∃ q,q=w4.alloc (.cells #[Value.int .i64 0,.int .i64 0,.slice a1 n1 c1,.slice a2 n2 c2] 48):=⟨_,rfl⟩
 rw [← hw5] at hb5 ⊢
 have hg5:=H4.out.step hb5
 have H5:=Lib.hid hg5
 have hg6:=hg5.step (w':=w5.alloc (.cells #[.int .u8 2] 5)) ((Below.refl _ _).alloc (Nat.le_refl _) _)
 have H6:=Lib.hid hg6
 have h47:∀ b,s1.get ⟨#[107]⟩=some b→b.length≤7:=fun b hb=>by
  rw [HLK.out.1] at hb
  cases hb
  rw [Cod.zt]
  decide
 have H47:=Lib.hid h47
 have hfew:s1.disk.writes < 72057594037920000:=by have:=H5.out.good.writes;omega
 clear hw5 hb5 hca4
 go_wp2_with fail
 refine (zCq _ _ kb sb lb d L s1 ⟨#[107]⟩ z 0 1 _ _ [2] hg6.ks hg6.st hzl hg6.nk hg6.nf h47 (by decide) (by decide) (zFx 2 2 rfl hg5.lt.1 hg5.lt.2) (by decide) (by decide) hfew).mono ?_
 clear hg5 hg6 h47
 rintro e w7 hp
 obtain ⟨rfl,N7,hg7⟩:=H6.out.none hp (by rw [HLK.out.2];decide)
 rw [HLK.out.2] at hg7
 have H7:=Lib.hid hg7
 clear hp hg7
 unfold zCe
 go_upto_region 9 with fail
 obtain ⟨w8,hw8⟩:∃ q,q=w7.alloc (.cells #[Value.int .i64 0,.int .i64 0,.slice none 0 0,.slice none 0 0] 48):=⟨_,rfl⟩
 have hb8:Below w7.heap.size w7 w8:=by rw [hw8];exact (Below.refl _ _).alloc (Nat.le_refl _) _
 rw [← hw8]
 have hg8:=H7.out.step hb8
 have H8:=Lib.hid hg8
 have hlf:=zCp w8 N7 kb sb lb d L s1 ⟨#[107]⟩ z 0 (max 1 1) _ hg8.ks hg8.st hzl hg8.nk hg8.nf H47.out (by decide) (by decide)
 rw [show (2:Nat) ^ 0 - zX s1 ⟨#[107]⟩ (max 1 1)=0 from by
  have:zX s1 ⟨#[107]⟩ (max 1 1)=1:=HLK.out.2
  rw [this]] at hlf
 have HLF:=Lib.hid hlf
 clear hw8 hb8 hg8 hlf
 go_wp2_with fail
 refine HLF.out.mono ?_
 rintro e w9 ⟨rfl,hk9,hs9,hc9⟩
 have hg9:=H8.out.left hk9 hs9 hc9
 have H9:=Lib.hid hg9.bel
 clear hk9 hs9 hc9 hg9
 go_wp2
 go_ret
 exact ⟨rfl,H9.out⟩
end Go.Proofs.YtdlkghdfkjdajaaGreatDoor
end
section
namespace Go.Mem
open Go Go.RowKit Gf Go.Proofs.YtdlkghdfkjdajaaGreatDoor
set_option linter.unusedVariables false
structure zCb (l:List Sto.Rec) (name:ByteArray) (c:Nat):Prop where
 len:l.length=4
 only:∀ nm,nm≠name→Sto.look l nm=none
 is:(c=0∧Sto.look l name=none)∨Sto.look l name=some (Cod.be 4 c)
structure zBo (m:Nat) (s:St) (name:ByteArray) (c:Nat):Prop where
 holds:Holds s.disk s.room s.recs
 uniq:Sto.Uniq s.recs
 disk:s.disk.dead=false
 dead:s.dead=false
 bnd:Bnd m s.recs
 writes:s.disk.writes≤2000*m
 room:s.room=3
 tells:zCb s.recs name c
structure zDa (m:Nat) (s:St) (name:ByteArray) (c:Nat):Prop where
 dead:s.dead=true
 room:s.room=3
 writes:s.disk.writes≤2000*m
 held:∃ l,Holds s.disk 3 l∧Bnd m l∧zCb l name c
def zB8 (m:Nat) (s:St) (name:ByteArray) (c:Nat):Prop:=zBo m s name c∨zDa m s name c
theorem zCb.thin {l l':List Sto.Rec} {name:ByteArray} {c:Nat} (h:zCb l name c) (ht:Sto.zAq l l'):zCb l' name c :=
 ⟨ht.1.trans h.len,fun nm hn=>by rw [ht.look];exact h.only nm hn,by rw [ht.look];exact h.is⟩
theorem zCb.slot {l:List Sto.Rec} {name:ByteArray} {c:Nat} (h:zCb l name c) (hu:Sto.Uniq l):Sto.slot l < l.length:=by
 refine zC9 fun he=>?_
 have hat:∀ i,i < 4→∃ r,Sto.At l name i r:=fun i hi=>by
  have hl:=h.len
  obtain ⟨r,hr⟩:∃ r,l[i]?=some r:=⟨_,List.getElem?_eq_getElem (by omega)⟩
  have his:=zJp (l:=l) (i:=i) (by omega) hr
  by_cases hn:r.name=name
  · exact ⟨r,hr,his,hn⟩
  · have hb:=zGT (h.only _ hn)
    exact absurd ⟨hr,his,rfl⟩ ((Sto.zAB l r.name l.length).2 hb i r (by omega))
 obtain ⟨r,hr⟩:=hat 0 (by omega)
 obtain ⟨r',hr'⟩:=hat 1 (by omega)
 exact absurd (hu name 0 1 r r' hr hr') (by decide)
theorem zBo.look {m:Nat} {s:St} {name:ByteArray} {c:Nat} (h:zBo m s name c) (hc:c < 4294967296) (next:Nat):zX s name next=max next c:=by
 unfold zX
 rw [St.get_look h.dead]
 rcases h.tells.is with ⟨e,hl⟩ | hl
 · rw [hl,e];exact (Nat.max_zero next).symm
 · rw [hl]
   show max next (Cod.zAh (Cod.be 4 c))=_
   rw [Cod.zGY 4 c hc]
theorem zDa.get {m:Nat} {s:St} {name:ByteArray} {c:Nat} (h:zDa m s name c) (nm:ByteArray):s.get nm=none:=by
 unfold St.get
 rw [if_pos h.dead]
theorem zDa.look {m:Nat} {s:St} {name:ByteArray} {c:Nat} (h:zDa m s name c) (next:Nat):zX s name next=next:=by
 unfold zX
 rw [h.get]
theorem zDa.put {m:Nat} {s:St} {name:ByteArray} {c:Nat} (h:zDa m s name c) (nm:ByteArray) (data:List UInt8):zk s nm data=(8,s):=by
 unfold zk
 rw [if_pos h.dead]
theorem zB8.short {m:Nat} {s:St} {name:ByteArray} {c:Nat} (h:zB8 m s name c):∀ b,s.get name=some b→b.length≤7:=fun b hb=>by
 rcases h with h | h
 · rw [St.get_look h.dead] at hb
   rcases h.tells.is with ⟨_,hl⟩ | hl
   · rw [hl] at hb;cases hb
   · rw [hl] at hb
     cases hb
     rw [Cod.zt]
     decide
 · rw [h.get] at hb;cases hb
theorem zB8.writes {m:Nat} {s:St} {name:ByteArray} {c:Nat} (h:zB8 m s name c):s.disk.writes≤2000*m:=by
 rcases h with h | h
 · exact h.writes
 · exact h.writes
theorem zB8.up {m:Nat} {s:St} {name:ByteArray} {c:Nat} (h:zB8 m s name c):zB8 (m+1) s name c:=by
 rcases h with h | h
 · exact .inl { h with bnd:=fun r hr=>Nat.le_succ_of_le (h.bnd r hr),writes:=Nat.le_trans h.writes (by omega) }
 · obtain ⟨l,h1,h2,h3⟩:=h.held
   exact .inr { h with writes:=Nat.le_trans h.writes (by omega),held:=⟨l,h1,fun r hr=>Nat.le_succ_of_le (h2 r hr),h3⟩ }
theorem zB8.stop {m:Nat} {s:St} {name:ByteArray} {c:Nat} (h:zB8 m s name c) (a k:Int):zB8 m { s with disk:=s.disk.stop a k } name c:=by
 rcases h with h | h
 · exact .inl { h with holds:=h.holds.stop a k,disk:=h.disk,writes:=h.writes }
 · obtain ⟨l,h1,h2,h3⟩:=h.held
   exact .inr { h with writes:=h.writes,held:=⟨l,h1.stop a k,h2,h3⟩ }
theorem zBo.put {m:Nat} {s:St} {name:ByteArray} {c:Nat} (h:zBo m s name c) (hm:m < 1000000) (hn:name.size≤3) (k:Nat) :
  ((zk s name (Cod.be 4 k)).1=0∧zBo (m+1) (zk s name (Cod.be 4 k)).2 name k) ∨
  ((zk s name (Cod.be 4 k)).1=8∧(zDa (m+1) (zk s name (Cod.be 4 k)).2 name c∨zDa (m+1) (zk s name (Cod.be 4 k)).2 name k)):=by
 have ht:=h.tells.slot h.uniq
 have hf:zAH s.room name (Cod.be 4 k)=true:=by
  rw [h.room]
  exact zJb (by omega) (by rw [Cod.zt];decide) (by rw [Cod.zt];omega)
 have hb:Bnd (m+1) (zDC s.recs name (Cod.be 4 k)):=h.bnd.set (by omega) _ (h.bnd.next name)
 have hlen:(zDC s.recs name (Cod.be 4 k)).length=4:=by unfold zDC;rw [List.length_set];exact h.tells.len
 have hth:=zC3 ht name (Cod.be 4 k)
 have hw:(zk s name (Cod.be 4 k)).2.disk.writes≤2000*(m+1):=by
  have:=zDU s name (Cod.be 4 k)
  have:=h.writes
  have:=h.room
  omega
 have htl:zCb (zDC s.recs name (Cod.be 4 k)) name k:=⟨hlen,fun nm hnm=>by rw [zEB ht,if_neg hnm];exact h.tells.only nm hnm,.inr (by rw [zEB ht,if_pos rfl])⟩
 rcases zJh h.holds h.disk h.dead h.bnd (by omega) name (Cod.be 4 k) with ⟨h1,_⟩ | ⟨_,h1,_⟩ | ⟨_,_,h1,h2,h3⟩
 · rw [hf] at h1;cases h1
 · omega
 · rcases h3 with ⟨a1,a2,a3,a4,a5⟩ | ⟨a1,_,a2,a3,l,a4,a5⟩
   · exact .inl ⟨a1,⟨by rw [h1,a4];exact a5,by rw [a4];exact zGF h.uniq ht name _,a3,a2,by rw [a4];exact hb.thin hth,hw,h1.trans h.room,by rw [a4];exact htl.thin hth⟩⟩
   · refine .inr ⟨a1,?_⟩
     rw [h.room] at a4
     rcases a5 with rfl | a5
     · exact .inl ⟨a2,h1.trans h.room,hw,_,a4,fun r hr=>Nat.le_succ_of_le (h.bnd r hr),h.tells⟩
     · exact .inr ⟨a2,h1.trans h.room,hw,_,a4,hb.thin a5,htl.thin a5⟩
theorem zB8.held {m:Nat} {s:St} {name:ByteArray} {c:Nat} (h:zB8 m s name c):∃ l,Holds s.disk 3 l∧Bnd m l∧zCb l name c:=by
 rcases h with h | h
 · exact ⟨s.recs,by have:=h.holds;rw [h.room] at this;exact this,h.bnd,h.tells⟩
 · exact h.held
theorem zBo.opened {m:Nat} {s:St} {l:List Sto.Rec} {name:ByteArray} {c:Nat} (hg:zCa m s) (ht:Sto.zAq l s.recs) (h:zCb l name c) (hr:s.room=3):zBo m s name c :=
 ⟨hg.holds,hg.uniq,hg.disk,hg.dead,hg.bnd,hg.writes,hr,h.thin ht⟩
end Go.Mem
end
section
namespace Go.Proofs.YtdlkghdfkjdajaaGreatDoor
open Go Go.RowKit Go.Mem Gf
set_option linter.unusedVariables false
set_option linter.unusedSimpArgs false
section
variable {w0 w w':World} {N X:Nat→Prop} {k0 k1 sb lb d L h x0 x1:Nat} {s:St} {n0 n1:ByteArray} {d0 d1:List UInt8}
end
section
variable {w0 w w':World} {N X:Nat→Prop} {k0 k1 sb lb d L h x0 x1:Nat} {s:St} {n0 n1:ByteArray} {d0 d1:List UInt8}
end
theorem ze.rngP {w:World} {kb sb h next:Nat} {name:ByteArray} {sd pr:List UInt8} (k:ze w kb sb name sd h next pr) (hs:sd.length=16):w.rangeAt kb 20 (bV pr):=fun j v hv=>by
 rw [Blk.cell k,List.getElem?_toArray]
 have h1:([Value.pointer (some ⟨sb,0,none⟩),Value.string name]++bV sd++[Value.int .i64 h,Value.int .i64 next]).length=20:=by simp [zG,hs]
 unfold zDh
 rw [List.getElem?_append_right (by omega),h1,Nat.add_sub_cancel_left]
 exact hv
theorem ze.hasP {w:World} {kb sb h next:Nat} {name:ByteArray} {sd pr:List UInt8} (k:ze w kb sb name sd h next pr) (hs:sd.length=16) (hp:pr.length=32):zi 32 w kb 20:=zQ k (by unfold zDh;simp [zG,hs,hp])
attribute [local go_sem ↓] Go.wp_at_zero Go.wp_at_succ
attribute [local go_sem ↓] zY zU
attribute [local go_sem] ptrB_eq ptrO_eq ptrIs_eq aggL_eq aggIs_eq zS zV zD zF zJ zK zB
set_option maxRecDepth 20000 in
set_option maxHeartbeats 1000000 in
theorem zGf (w:World) (kb sb:Nat) (name:ByteArray) (sd:List UInt8) (h next:Nat) (pr:List UInt8) (hk:ze w kb sb name sd h next pr) (hs:sd.length=16) (hp:pr.length=32) :
  Calls Tryz.prog 19 #[.pointer (some ⟨kb,0,none⟩)] w fun e w'=>e=.returned (.agg (bV pr).toArray)∧Below w.heap.size w w':=by
 obtain ⟨co,hco⟩:∃ c,c=bV pr:=⟨_,rfl⟩
 have hcol:co.length=32:=by rw [hco,zG];exact hp
 have hlt:=Blk.lt hk
 have HK:=Lib.hid (And.intro (fun w' (hb:Below w.heap.size w w')=>(ze.rngP (Blk.kept hk hb) hs)) (fun w' (hb:Below w.heap.size w w')=>(ze.hasP (Blk.kept hk hb) hs hp)))
 have HCO:=Lib.hid hco
 rw [← hco]
 clear hk hco
 go_enter Tryz.func19,Tryz.ntmps19
 go_upto_region 1 with fail
 obtain ⟨w1,hw1⟩:∃ q,q=w.alloc (.cells #[Value.int IntKind.u8 0,.int .u8 0,.int .u8 0,.int .u8 0,.int .u8 0,.int .u8 0,.int .u8 0,.int .u8 0,.int .u8 0,.int .u8 0,.int .u8 0,.int .u8 0,.int .u8 0,.int .u8 0,.int .u8 0,.int .u8 0,.int .u8 0,.int .u8 0,.int .u8 0,.int .u8 0,.int .u8 0,.int .u8 0,.int .u8 0,.int .u8 0,.int .u8 0,.int .u8 0,.int .u8 0,.int .u8 0,.int .u8 0,.int .u8 0,.int .u8 0,.int .u8 0] 34):=⟨_,rfl⟩
 obtain ⟨p2,hp2⟩:∃ q,q=w.heap.size:=⟨_,rfl⟩
 have hb1:Below w.heap.size w w1:=by rw [hw1];exact (Below.refl _ _).alloc (Nat.le_refl _) _
 have hk1:Blk w1 p2 zH 34:=by rw [hw1,hp2];exact Blk.new _ _ _
 rw [← hw1,← hp2]
 have k1:zh 32 w1 kb 20=co:=by rw [HCO.out];exact zCG (HK.out.1 w1 hb1) (by rw [zG];exact hp)
 have k2:zi 32 w1 kb 20:=HK.out.2 w1 hb1
 have hpge:w.heap.size≤p2:=Nat.le_of_eq hp2.symm
 have kz:=hk1
 obtain ⟨hq1,hq2,hq3⟩:=zAP (p:=p2) (h:=pr) hp kz
 rw [← HCO.out] at hq2 hq3
 have HLD:=Lib.hid hq3
 have HM:=Lib.hid (zAI co hb1 hpge)
 clear hw1 hp2 hb1 hk1 kz hq3
 go_wp2_with fail
 refine bodyPost_ret (v:=.agg co.toArray) (by simp [results,Tryz.results19,asAddr,HLD.out]) rfl ⟨rfl,HM.out⟩
end Go.Proofs.YtdlkghdfkjdajaaGreatDoor
end
section
namespace Go.Mem
open Go Go.RowKit
section
variable {w w':World} {v:Value} {xs:List Int}
end
end Go.Mem
end
section
namespace Go.Mem
open Go Go.ChangeShapes Go.WideShapes Go.ChangeAt Go.RowKit
theorem byte_of_wf {x:Int} (h:(Lit.int .u8 x).wf=true):∃ n:Nat,n < 256∧x=(n:Int):=by
 simp [Lit.wf,IntKind.min,IntKind.max,IntKind.signed,IntKind.bits] at h
 exact ⟨x.toNat,by omega,by omega⟩
theorem zF3 {x:Int} (h:(Lit.int .i64 x).wf=true):-9223372036854775808≤x∧x≤9223372036854775807:=by
 simp [Lit.wf,IntKind.min,IntKind.max,IntKind.signed,IntKind.bits] at h
 exact ⟨by omega,by omega⟩
theorem zFu {w:World} {a:Addr} {v:Value} (h:w.cell? a=some v):a=⟨a.block,a.off,none⟩:=by
 obtain ⟨b,o,s⟩:=a
 unfold World.cell? at h
 cases s with
 | none=>rfl
 | some n =>
   split at h
   · simp at h
   · cases h
theorem add_plain (b off i:Nat):(⟨b,off,none⟩:Addr).add i=⟨b,off+i,none⟩:=by
 unfold Addr.add
 split
 · subst_vars;rfl
 · rfl
section
variable {P:Program} {H:Type} {enc:TypeId × Value→H} {W:World} {base:Nat}
theorem zLF {t e:TypeId} {v:Value} {x:DataW H × List MemPlace} {spare:Nat→Bool} {held:Bool} (ht:P.underlying t=some (.slice e)) (he:P.underlying e=some (.int .u8)) (hc:P.cellsOf e=1)
  (hs:∃ a len cap,v=.slice a len cap) (h:∃ fuel,DataW.trod enc P W base spare held fuel t v.cells.toList=some x):∃ bs,Bys W v bs:=by
 obtain ⟨a,len,cap,rfl⟩:=hs
 obtain ⟨fuel,hf⟩:=h
 rcases open_ints ht he hc hf with ⟨hcs,_⟩ | ⟨a',len',cap',zs,hcs,_,hl,hm,hz,_,hcell,hwz⟩
 · simp [Value.cells] at hcs
   obtain ⟨rfl,rfl,rfl⟩:=hcs
   exact ⟨[],Bys.nil W⟩
 · simp [Value.cells] at hcs
   obtain ⟨rfl,rfl,rfl⟩:=hcs
   have hzl:len≤zs.length:=by rw [hz];split <;> omega
   have hlen:((zs.take len).map fun z=>UInt8.ofNat z.toNat).length=len:=by simp;omega
   refine ⟨(zs.take len).map fun z=>UInt8.ofNat z.toNat,some a',cap,by rw [hlen],by rw [hlen];exact hl,hm,fun hp=>?_⟩
   rw [hlen] at hp
   have h0:=hcell 0 (by omega)
   have ha:a'=⟨a'.block,a'.off,none⟩:=zFu (a:=a') (by simpa [Addr.add] using h0)
   refine ⟨a'.block,a'.off,by rw [← ha],fun i u hi=>?_⟩
   have hil:i < len:=by
    rcases Nat.lt_or_ge i len with h | h
    · exact h
    · rw [List.getElem?_eq_none (by rw [hlen];exact h)] at hi;cases hi
   have hci:=hcell i (by omega)
   rw [ha,add_plain] at hci
   rw [hci]
   have hzi:zs[i]?=some zs[i]:=List.getElem?_eq_getElem (by omega)
   have hu:u=UInt8.ofNat zs[i].toNat:=by
    simp only [List.getElem?_map,List.getElem?_take,hil,if_true,hzi,Option.map_some,Option.some.injEq] at hi
    exact hi.symm
   have hw:=hwz zs[i] (List.getElem_mem _)
   obtain ⟨n,hn,hx⟩:=byte_of_wf hw
   rw [List.getD_eq_getElem?_getD,hzi,hu,hx]
   simp [UInt8.toNat_ofNat']
   omega
end
end Go.Mem
end
section
namespace Go.Mem
open Go Go.ChangeShapes Go.WideShapes Go.ChangeAt Go.RowKit Gf
def zCA (P:Program) (t:TypeId) {α:Type} (R:World→List Value→α→Prop):Prop :=
 ∀ {H:Type} {enc:TypeId × Value→H} {W:World} {base:Nat} {spare:Nat→Bool} {held:Bool} {fuel:Nat} {cs:List Value} {x:DataW H × List MemPlace},DataW.trod enc P W base spare held fuel t cs=some x→∃ d:α,R W cs d
section
variable {P:Program}
theorem zGA {t:TypeId} {k:IntKind} (ht:P.underlying t=some (.int k)):zCA P t (fun _ cs (z:Int)=>cs=[.int k z]∧(Lit.int k z).wf=true):=fun h=>by
 obtain ⟨z,h1,_,h2⟩:=DataW.trod_int ht h
 exact ⟨z,h1,h2⟩
theorem zEA {t:TypeId} (ht:P.underlying t=some (.int .i64)):zCA P t (fun _ cs (z:Int)=>cs=[.int .i64 z]∧-9223372036854775808≤z∧z≤9223372036854775807):=fun h=>by
 obtain ⟨z,h1,h2⟩:=zGA ht h
 exact ⟨z,h1,zF3 h2⟩
theorem zLJ {t:TypeId} (ht:P.underlying t=some (.int .u8)):zCA P t (fun _ cs (u:UInt8)=>cs=[.int .u8 (u.toNat:Int)]):=fun h=>by
 obtain ⟨z,h1,h2⟩:=zGA ht h
 obtain ⟨n,hn,rfl⟩:=byte_of_wf h2
 exact ⟨UInt8.ofNat n,by show _=_;rw [h1,Gf.zLd _ hn]⟩
theorem zHt {t t8:TypeId} (ht:P.underlying t=some (.slice t8)) (h8:P.underlying t8=some (.int .u8)) (c8:P.cellsOf t8=1):zCA P t (fun W cs (bs:List UInt8)=>∃ v,cs=[v]∧Bys W v bs):=fun {_ _ W _ _ _ _ cs x} h=>by
 have hsl:∃ a len cap,cs=[.slice a len cap]:=by
  rcases open_ints ht h8 c8 h with ⟨h9,_⟩ | ⟨a2,l2,cp2,_,h9,_⟩
  · exact ⟨_,_,_,h9⟩
  · exact ⟨_,_,_,h9⟩
 obtain ⟨a,l,c,rfl⟩:=hsl
 obtain ⟨bs,hbs⟩:=zLF (v:=.slice a l c) ht h8 c8 ⟨_,_,_,rfl⟩ ⟨_,h⟩
 exact ⟨bs,_,rfl,hbs⟩
theorem zCL {α:Type} {p:Nat→α→Prop}:∀ (n:Nat),(∀ i,i < n→∃ d,p i d)→∃ l:List α,l.length=n∧∀ i d,l[i]?=some d→p i d
 | 0,_=>⟨[],rfl,fun i d h=>by simp at h⟩
 | n+1,h=>by
   obtain ⟨l,h1,h2⟩:=zCL n fun i hi=>h i (by omega)
   obtain ⟨d,hd⟩:=h n (by omega)
   refine ⟨l++[d],by simp [h1],fun i d' hi=>?_⟩
   by_cases e:i < l.length
   · rw [List.getElem?_append_left e] at hi;exact h2 i d' hi
   · rw [List.getElem?_append_right (by omega)] at hi
     by_cases e2:i=l.length
     · subst e2;rw [Nat.sub_self] at hi;cases hi;rw [h1];exact hd
     · rw [List.getElem?_eq_none (by simp;omega)] at hi;cases hi
theorem zHs {t e:TypeId} {n c:Nat} {α:Type} {R:World→List Value→α→Prop} (ht:P.underlying t=some (.array n e)) (hc:P.cellsOf e=c) (hR:zCA P e R) :
  zCA P t (fun W cs (l:List α)=>l.length=n∧cs.length=P.cellsOf t∧∀ i d,l[i]?=some d→R W ((cs.drop (i*c)).take c) d):=fun {_ _ W _ _ _ _ cs x} h=>by
 obtain ⟨xs,m,_,_,hl,hx,hel⟩:=DataW.trod_array ht h
 rw [hc] at hel
 obtain ⟨l,h1,h2⟩:=zCL (p:=fun i d=>R W ((cs.drop (i*c)).take c) d) n fun i hi=>by
  have:=hel i hi
  rw [List.getElem?_eq_getElem (by omega)] at this
  exact hR this
 exact ⟨l,h1,hl,h2⟩
theorem zKQ {t t8:TypeId} {n:Nat} (ht:P.underlying t=some (.array n t8)) (h8:P.underlying t8=some (.int .u8)) (c8:P.cellsOf t8=1) (ct:P.cellsOf t=n):zCA P t (fun _ cs (k:List UInt8)=>k.length=n∧cs=bV k):=fun {_ _ W _ _ _ _ cs x} h=>by
 obtain ⟨l,h1,h2,h3⟩:=zHs ht c8 (zLJ h8) h
 refine ⟨l,h1,?_⟩
 apply List.ext_getElem?
 intro i
 rw [zAd]
 by_cases hi:i < n
 · have:=h3 i l[i] (List.getElem?_eq_getElem (by omega))
   rw [Nat.mul_one] at this
   have h4:=congrArg (fun l=>l[0]?) this
   simp only [List.getElem?_take,List.getElem?_drop] at h4
   simp at h4
   rw [List.getElem?_eq_getElem (show i < l.length by omega)]
   simpa using h4
 · rw [List.getElem?_eq_none (by omega),List.getElem?_eq_none (by omega)];rfl
theorem zB0 {t:TypeId} {fs:Array Field} (ht:P.underlying t=some (.struct fs)) {H:Type} {enc:TypeId × Value→H} {W:World} {base:Nat} {spare:Nat→Bool} {held:Bool} {fuel:Nat} {cs:List Value} {x:DataW H × List MemPlace}
  (h:DataW.trod enc P W base spare held fuel t cs=some x) {α:Type} {R:World→List Value→α→Prop} (i:Nat) (f:Field) (hf:fs[i]?=some f) (hR:zCA P f.type R):∃ d,R W ((cs.drop f.offset).take (P.cellsOf f.type)) d:=by
 obtain ⟨xs,n,_,_,_,hl,hx⟩:=DataW.trod_struct ht h
 have hi:i < fs.size:=by
  rcases Nat.lt_or_ge i fs.size with h | h
  · exact h
  · rw [Array.getElem?_eq_none h] at hf;cases hf
 have:=hx i f hf
 rw [List.getElem?_eq_getElem (by omega)] at this
 exact hR this
theorem zI3 {t:TypeId} {fs:Array Field} (ht:P.underlying t=some (.struct fs)) {H:Type} {enc:TypeId × Value→H} {W:World} {base:Nat} {spare:Nat→Bool} {held:Bool} {fuel:Nat} {cs:List Value} {x:DataW H × List MemPlace}
  (h:DataW.trod enc P W base spare held fuel t cs=some x):cs.length=P.cellsOf t:=by
 obtain ⟨xs,n,_,_,hl,_,_⟩:=DataW.trod_struct ht h
 exact hl
def Sls (c:Nat) {α:Type} (R:World→List Value→α→Prop) (W:World) (v:Value) (l:List α):Prop :=
 ∃ a cap,v=.slice a l.length cap∧l.length≤cap∧cap≤maxLen ∧
   (0 < l.length→∃ b off,a=some ⟨b,off,none⟩∧∀ i d,l[i]?=some d→∃ cs:List Value,cs.length=c∧(∀ j v,cs[j]?=some v→W.cell? ⟨b,off+i*c+j,none⟩=some v)∧R W cs d)
theorem zHu {t e:TypeId} {c:Nat} {α:Type} {R:World→List Value→α→Prop} (ht:P.underlying t=some (.slice e)) (hc:P.cellsOf e=c) (h0:0 < c) (hR:zCA P e R) :
  zCA P t (fun W cs (l:List α)=>∃ v,cs=[v]∧Sls c R W v l):=fun {_ _ W _ _ _ _ cs x} h=>by
 rcases Deep.open_slice ht h with ⟨hcs,_⟩ | ⟨a',len',cap',m,n,D,Pl,hcs,_,hl,hm,hmm,_,hx⟩
 · exact ⟨[],_,hcs,none,0,rfl,Nat.le_refl _,Nat.zero_le _,fun h=>by simp at h⟩
 · have hlm:len'≤m:=by rw [hmm];split <;> omega
   rw [hc] at hx
   obtain ⟨l,h1,h2⟩:=zCL (p:=fun i d=>∃ cs:List Value,cs.length=c∧(∀ j,j < c→W.cell? ((a'.add (i*c)).add j)=cs[j]?)∧R W cs d) len' fun i hi=>by
    obtain ⟨cs',k1,k2⟩:=hx i (by omega)
    obtain ⟨_,k3,k4⟩:=World.cells?_some k1
    obtain ⟨d,hd⟩:=hR k2
    exact ⟨d,cs',k3,k4,hd⟩
   refine ⟨l,_,hcs,some a',cap',by rw [h1],by rw [h1];exact hl,hm,fun hp=>?_⟩
   obtain ⟨cs0,k3,k4,_⟩:=h2 0 l[0] (List.getElem?_eq_getElem hp)
   have ha:a'=⟨a'.block,a'.off,none⟩:=by
    have:=k4 0 h0
    rw [List.getElem?_eq_getElem (by omega)] at this
    exact zFu (a:=a') (by simpa [Addr.add] using this)
   refine ⟨a'.block,a'.off,by rw [← ha],fun i d hi=>?_⟩
   obtain ⟨cs',k5,k6,k7⟩:=h2 i d hi
   refine ⟨cs',k5,fun j v hj=>?_,k7⟩
   have hjc:j < c:=by
    rcases Nat.lt_or_ge j c with h | h
    · exact h
    · rw [List.getElem?_eq_none (by omega)] at hj;cases hj
   have:=k6 j hjc
   rw [ha,add_plain,add_plain,hj] at this
   exact this
theorem zKP {t:TypeId} {α:Type} {R:World→Value→α→Prop} (hO:zCA P t (fun W cs d=>∃ v,cs=[v]∧R W v d)) {H:Type} {enc:TypeId × Value→H} {W:World} {base:Nat} {spare:Nat→Bool} {held:Bool} {v:Value} {x:DataW H × List MemPlace}
  (hv:∃ a len cap,v=.slice a len cap) (h:∃ fuel,DataW.trod enc P W base spare held fuel t v.cells.toList=some x):∃ d,R W v d:=by
 obtain ⟨a,len,cap,rfl⟩:=hv
 obtain ⟨fuel,hf⟩:=h
 obtain ⟨d,v',e,hr⟩:=hO hf
 simp [Value.cells] at e
 subst e
 exact ⟨d,hr⟩
theorem Sls.len {c:Nat} {α:Type} {R:World→List Value→α→Prop} {W:World} {v:Value} {l:List α} (h:Sls c R W v l):l.length≤9223372036854775807:=by
 obtain ⟨a,cap,_,h1,h2,_⟩:=h
 unfold maxLen at h2;omega
theorem Sls.at {c:Nat} {α:Type} {R:World→List Value→α→Prop} {w:World} {a:Option Addr} {n cap:Nat} {l:List α} (h:Sls c R w (.slice a n cap) l) (i:Nat) (hi:i < l.length) :
  ∃ b off d cs,a=some ⟨b,off,none⟩∧Hid (l[i]?=some d)∧cs.length=c∧(∀ j v,cs[j]?=some v→w.cell? ⟨b,off+i*c+j,none⟩=some v)∧R w cs d:=by
 obtain ⟨a',cap',e,h1,h2,h3⟩:=h
 obtain ⟨b,off,e',h4⟩:=h3 (by omega)
 injection e with e1 e2 e3
 obtain ⟨cs,h5,h6,h7⟩:=h4 i l[i] (List.getElem?_eq_getElem hi)
 exact ⟨b,off,l[i],cs,e1.trans e',by show l[i]?=_;simp [hi],h5,h6,h7⟩
theorem Sls.eq_slice {c:Nat} {α:Type} {R:World→List Value→α→Prop} {w:World} {v:Value} {l:List α} (h:Sls c R w v l):∃ a cap,v=.slice a l.length cap:=by
 obtain ⟨a,cap,e,_⟩:=h;exact ⟨a,cap,e⟩
end
end Go.Mem
end
section
namespace Go.Mem
open Go Go.ChangeShapes Go.WideShapes Go.ChangeAt Go.RowKit Gf
structure ActK where
 op:Int
 at_:Int
 keep:Int
 bs:List UInt8
def zKk (W:World) (cs:List Value) (a:ActK):Prop :=
 ∃ v,cs=[.int .i64 a.op,.int .i64 a.at_,.int .i64 a.keep,v]∧Bys W v a.bs
theorem zI2 {P:Program} {t ti tb t8:TypeId} {f0 f1 f2 f3:Field} (ht:P.underlying t=some (.struct #[f0,f1,f2,f3])) (hi:P.underlying ti=some (.int .i64)) (hb:P.underlying tb=some (.slice t8)) (h8:P.underlying t8=some (.int .u8))
  (e0:f0.type=ti) (e1:f1.type=ti) (e2:f2.type=ti) (e3:f3.type=tb) (o0:f0.offset=0) (o1:f1.offset=1) (o2:f2.offset=2) (o3:f3.offset=3)
  (ct:P.cellsOf t=4) (ci:P.cellsOf ti=1) (cb:P.cellsOf tb=1) (c8:P.cellsOf t8=1):zCA P t zKk:=fun {_ _ W _ _ _ _ cs x} h=>by
 have hl:=zI3 ht h
 obtain ⟨z0,r0,_⟩:=zB0 ht h 0 f0 rfl (by rw [e0];exact zEA hi)
 obtain ⟨z1,r1,_⟩:=zB0 ht h 1 f1 rfl (by rw [e1];exact zEA hi)
 obtain ⟨z2,r2,_⟩:=zB0 ht h 2 f2 rfl (by rw [e2];exact zEA hi)
 obtain ⟨bs,v,r3,hv⟩:=zB0 ht h 3 f3 rfl (by rw [e3];exact zHt hb h8 c8)
 rw [ct] at hl
 rw [e0,ci,o0] at r0;rw [e1,ci,o1] at r1;rw [e2,ci,o2] at r2;rw [e3,cb,o3] at r3
 match cs,hl,r0,r1,r2,r3 with
 | [a,b,c,d],_,r0,r1,r2,r3 =>
   simp at r0 r1 r2 r3
   obtain ⟨rfl⟩:=r0;obtain ⟨rfl⟩:=r1;obtain ⟨rfl⟩:=r2;obtain ⟨rfl⟩:=r3
   exact ⟨⟨z0,z1,z2,bs⟩,_,rfl,hv⟩
end Go.Mem
namespace Go.Proofs.YtdlkghdfkjdajaaGreatDoor
open Go Go.RowKit Go.Mem Gf
theorem zHD:zCA Tryz.prog 24 (fun W cs (l:List ActK)=>∃ v,cs=[v]∧Sls 4 zKk W v l) :=
 zHu Tryz.underlying24 (by kernel_rfl) (by decide)
  (zI2 Tryz.underlying43 Tryz.underlying3 Tryz.underlying41 Tryz.underlying5 rfl rfl rfl rfl rfl rfl rfl rfl (by kernel_rfl) (by kernel_rfl) (by kernel_rfl) (by kernel_rfl))
end Go.Proofs.YtdlkghdfkjdajaaGreatDoor
end
