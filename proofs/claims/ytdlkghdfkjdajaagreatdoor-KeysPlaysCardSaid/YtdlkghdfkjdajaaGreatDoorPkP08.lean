/- Texts of this proof,packed: Wots,Digits,WotsP,WotsS,Tree,zBr. -/
import Derived.Test.YtdlkghdfkjdajaaGreatDoorPkP07
section
namespace Go.Proofs.YtdlkghdfkjdajaaGreatDoor
open Go Go.RowKit Go.Mem Gf
set_option linter.unusedVariables false
set_option linter.unusedSimpArgs false
attribute [local go_sem ↓] Go.wp_at_zero Go.wp_at_succ
attribute [local go_sem ↓] zY zU zm
attribute [local go_sem] ptrB_eq ptrO_eq ptrIs_eq aggL_eq aggIs_eq zS zV zD zF zJ zK zB
theorem zGv {w:World} {g:Nat} {t:TypeId} {v1:Value} {b1:List UInt8} (h:Blk w g #[v1] t) (h1:Bys w v1 b1):Rws w (.slice (some ⟨g,0,none⟩) 1 1) [b1]:=by
 refine ⟨_,1,rfl,by simp,by decide,fun _=>⟨g,0,rfl,fun k r hk=>?_⟩⟩
 rw [Nat.zero_add]
 match k,hk with
 | 0,hk=>simp at hk;subst hk;exact ⟨v1,by rw [h.cell];rfl,h1⟩
theorem zGw {w:World} {g:Nat} {t:TypeId} {v1 v2:Value} {b1 b2:List UInt8} (h:Blk w g #[v1,v2] t) (h1:Bys w v1 b1) (h2:Bys w v2 b2):Rws w (.slice (some ⟨g,0,none⟩) 2 2) [b1,b2]:=by
 refine ⟨_,2,rfl,by simp,by decide,fun _=>⟨g,0,rfl,fun k r hk=>?_⟩⟩
 rw [Nat.zero_add]
 match k,hk with
 | 0,hk=>simp at hk;subst hk;exact ⟨v1,by rw [h.cell];rfl,h1⟩
 | 1,hk=>simp at hk;subst hk;exact ⟨v2,by rw [h.cell];rfl,h2⟩
theorem zAa (rows:List (List UInt8)) (h:∀ r∈rows,r.length≤1000) (hn:rows.length≤100):(Cod.zAU rows).length≤10000000:=by
 have:∀ (rows:List (List UInt8)),(∀ r∈rows,r.length≤1000)→(Cod.zAU rows).length≤1011*rows.length:=by
  intro rows
  induction rows with
  | nil=>exact fun _=>Nat.zero_le _
  | cons r rows ih =>
    intro h
    have h1:=ih (fun x hx=>h x (List.mem_cons_of_mem _ hx))
    have h2:=h r List.mem_cons_self
    have h3:Lib.nDigits r.length≤9:=by have:=zAw r.length (by omega);rw [Lib.itoa_nonneg,Lib.decDigits_length] at this;exact this
    have h4:Cod.zAU (r::rows)=Cod.net r++Cod.zAU rows:=rfl
    rw [h4,List.length_append,Cod.zAL,List.length_cons]
    omega
 have:=this rows h
 omega
set_option maxRecDepth 20000 in
set_option maxHeartbeats 4000000 in
theorem zD2 (sd:List UInt8) (leaf chain:Nat) (w:World) (hT:Tab w) (hs:sd.length=16) (h1:leaf≤1000000) (h2:chain≤1000) :
  Calls Tryz.prog 102 #[.agg (bV sd).toArray,.int .i64 leaf,.int .i64 chain] w fun e w'=>e=.returned (.agg (bV (Wot.start sd leaf chain)).toArray)∧Below w.heap.size w w':=by
 have HT:=Lib.hid hT
 clear hT
 obtain ⟨cs,hcs⟩:∃ c,c=bV sd:=⟨_,rfl⟩
 have hcl:cs.length=16:=by rw [hcs,zG];exact hs
 have HCS:=Lib.hid hcs
 rw [← hcs]
 clear hcs
 go_enter Tryz.func102,Tryz.ntmps102
 go_upto_region 1 with fail
 obtain ⟨w1,hw1⟩:∃ q,q=(w.alloc (.cells cs.toArray 23)).alloc (.cells #[Value.int IntKind.u8 0,.int .u8 0,.int .u8 0,.int .u8 0,.int .u8 0,.int .u8 0,.int .u8 0,.int .u8 0,.int .u8 0,.int .u8 0,.int .u8 0,.int .u8 0,.int .u8 0,.int .u8 0,.int .u8 0,.int .u8 0,.int .u8 0,.int .u8 0,.int .u8 0,.int .u8 0,.int .u8 0,.int .u8 0,.int .u8 0,.int .u8 0,.int .u8 0,.int .u8 0,.int .u8 0,.int .u8 0,.int .u8 0,.int .u8 0,.int .u8 0,.int .u8 0] 34):=⟨_,rfl⟩
 obtain ⟨p1,hp1⟩:∃ q,q=w.heap.size:=⟨_,rfl⟩
 obtain ⟨p2,hp2⟩:∃ q,q=w.heap.size+1:=⟨_,rfl⟩
 have hb1:Below w.heap.size w w1:=by rw [hw1];exact ((Below.refl _ _).alloc (Nat.le_refl _) _).alloc (by simp) _
 have hk1:Blk w1 p1 cs.toArray 23:=by rw [hw1,hp1];exact (Blk.new _ _ _).alloc _
 have hk2:Blk w1 p2 zH 34:=by rw [hw1,hp2];exact Blk.new_at _ _ _ _ (by simp)
 rw [← hw1,← hp2,← hp1]
 have H1:=Lib.hid (And.intro hb1 (And.intro hk2 (And.intro (show w.heap.size≤p2 by omega) (And.intro (show p1≠p2 by omega) (show w.heap.size≤p1 by omega)))))
 have HK:=Lib.hid hk1
 have hpge:=H1.out.2.2.1
 clear hw1 hp1 hp2 hb1 hk1 hk2
 refine Tail.zT 5 (fun k=>k == 2 || k == 4) (fun k=>none)
  (fun D z w'=>Below w1.heap.size w1 w'∧(D 2=true→zP 5 w' w1.heap.size (z 2) (Cod.be 4 leaf))∧(D 4=true→zP 5 w' w1.heap.size (z 4) (Cod.be 4 chain)))
  (by kernel_rfl) (by kernel_rfl) (fun k hk=>by simp at hk;omega) (fun D z z' w' hz h=>⟨h.1,fun d=>by rw [← hz 2 d];exact h.2.1 d,fun d=>by rw [← hz 4 d];exact h.2.2 d⟩)
  (⟨(Below.refl _ _).drew,(fun h=>by cases h),(fun h=>by cases h)⟩) (fun z=>?_)
 simp only [List.take_succ_cons,List.take_zero,List.drop_succ_cons,List.drop_zero]
 refine Tail.zI (by rfl) (by rfl) ?_
 apply Exists.intro
 refine ⟨fun w=>?_,?_⟩
 · go_simp <;> with_reducible rfl
 simp only [Act.put,List.setIfInBounds_toArray,List.set_cons_zero,List.set_cons_succ,Nat.reduceAdd,Nat.reduceEqDiff,reduceIte,Option.getD_some,Option.getD_none]
 refine Tail.zI (by rfl) (by rfl) ?_
 apply Exists.intro
 refine ⟨fun w=>?_,?_⟩
 · go_simp <;> with_reducible rfl
 simp only [Act.put,List.setIfInBounds_toArray,List.set_cons_zero,List.set_cons_succ,Nat.reduceAdd,Nat.reduceEqDiff,reduceIte,Option.getD_some,Option.getD_none]
 refine Tail.zAT (by rfl) (by rfl) ?_ ?_
 · apply Exists.intro
   apply Exists.intro
   refine ⟨fun w'=>?_,?_⟩
   · go_simp <;> exact ⟨rfl,rfl⟩
   intro D z' w' hD hz hd hp hJ
   have h4:D 4=false:=hp 4 (by kernel_rfl)
   refine (zFK leaf 4 (by omega) (by decide) (by decide) w').mono ?_
   rintro e w'' ⟨v,rfl,hv,hb⟩
   refine ⟨v,rfl,fun c hc=>by simp at hc,hJ.1.trans (hb.mono hJ.1.size),fun _=>?_,fun h=>?_⟩
   · simpa [Tail.zAb] using hv.mono hJ.1.size
   · simp [Tail.zAp,h4] at h
 simp only [Act.put,List.setIfInBounds_toArray,List.set_cons_zero,List.set_cons_succ,Nat.reduceAdd,Nat.reduceEqDiff,reduceIte,Option.getD_some,Option.getD_none]
 refine Tail.zI (by rfl) (by rfl) ?_
 apply Exists.intro
 refine ⟨fun w=>?_,?_⟩
 · go_simp <;> with_reducible rfl
 simp only [Act.put,List.setIfInBounds_toArray,List.set_cons_zero,List.set_cons_succ,Nat.reduceAdd,Nat.reduceEqDiff,reduceIte,Option.getD_some,Option.getD_none]
 refine Tail.zAT (by rfl) (by rfl) ?_ ?_
 · apply Exists.intro
   apply Exists.intro
   refine ⟨fun w'=>?_,?_⟩
   · go_simp <;> exact ⟨rfl,rfl⟩
   intro D z' w' hD hz hd hp hJ
   have h2:D 2=true:=hd 2 (by kernel_rfl)
   refine (zFK chain 4 (by omega) (by decide) (by decide) w').mono ?_
   rintro e w'' ⟨v,rfl,hv,hb⟩
   refine ⟨v,rfl,fun c hc=>by simp at hc,hJ.1.trans (hb.mono hJ.1.size),fun _=>?_,fun _=>?_⟩
   · simpa [Tail.zAb] using (hJ.2.1 h2).below hb
   · simpa [Tail.zAb] using hv.mono hJ.1.size
 simp only [Act.put,List.setIfInBounds_toArray,List.set_cons_zero,List.set_cons_succ,Nat.reduceAdd,Nat.reduceEqDiff,reduceIte,Option.getD_some,Option.getD_none]
 intro w3 hJ
 have h2:=hJ.2.1 rfl
 have h4:=hJ.2.2 rfl
 have HB3:=Lib.hid hJ.1
 clear hJ
 generalize z 2=v2 at h2 ⊢
 generalize z 4=v4 at h4 ⊢
 clear z
 obtain ⟨a2,c2,rfl⟩:=h2.eq_slice
 obtain ⟨a4,c4,rfl⟩:=h4.eq_slice
 rw [Cod.zt] at h2 h4 ⊢
 have H24:=Lib.hid (And.intro h2 h4)
 clear h2 h4
 have hal:=fun (o:Obj)=>(Below.refl w3.heap.size w3).alloc (Nat.le_refl _) o
 have hbs:Bys w3 (.slice (some ⟨p1,0,none⟩) 16 16) sd:=by
  have hk:=HK.out.kept HB3.out
  rw [HCS.out] at hk
  exact zAg hk hs (by decide)
 have hT3:=HT.out.below (H1.out.1.trans (HB3.out.mono H1.out.1.size))
 have HAL:=Lib.hid (And.intro hbs (And.intro hT3 hal))
 clear hbs hT3 hal
 go_wp2_with fail
 refine (zBJ _ _ [sd,Cod.be 4 leaf,Cod.be 4 chain] _ (HAL.out.2.1.below (HAL.out.2.2 _)) (rws3 (Blk.new _ _ _) (HAL.out.1.below (HAL.out.2.2 _)) ((H24.out.1.bys).below (HAL.out.2.2 _)) ((H24.out.2.bys).below (HAL.out.2.2 _))) (by decide) ?_).mono ?_
 · exact zAa _ (fun r hr=>by
  simp only [List.mem_cons,List.not_mem_nil,or_false] at hr
  rcases hr with rfl | rfl | rfl
  · omega
  · rw [Cod.zt];decide
  · rw [Cod.zt];decide) (show 3≤100 by decide)
 rintro e w4 ⟨rfl,hb4⟩
 rw [show Wot.tagged (ByteArray.mk #[115,116,97,114,116]).data.toList [sd,Cod.be 4 leaf,Cod.be 4 chain]=Wot.start sd leaf chain from rfl]
 have hb14:Below w1.heap.size w1 w4:=(HB3.out.alloc HB3.out.size _).trans (hb4.mono (by have:=HB3.out.size;simp;omega))
 have hb04:=H1.out.1.trans (hb14.mono H1.out.1.size)
 have kz:=H1.out.2.1.kept hb14
 have hlen:=Wot.start_len sd leaf chain
 obtain ⟨hq1,hq2,hq3⟩:=zAP (p:=p2) (h:=Wot.start sd leaf chain) hlen kz
 obtain ⟨co,hco⟩:∃ q,q=bV (Wot.start sd leaf chain):=⟨_,rfl⟩
 rw [← hco] at hq2 hq3
 try rw [← hco]
 have hcol:co.length=32:=hq2.1
 have HLD:=Lib.hid hq3
 have HM:=Lib.hid (And.intro hco (zAI co hb04 hpge))
 clear hco hq3
 go_wp2_with fail
 refine bodyPost_ret (v:=.agg co.toArray) (by simp [results,Tryz.results102,asAddr,HLD.out]) rfl ⟨by rw [HM.out.1],HM.out.2⟩
set_option maxRecDepth 20000 in
set_option maxHeartbeats 2000000 in
theorem zIY (h:List UInt8) (w:World) (hT:Tab w) (hl:h.length=32) :
  Calls Tryz.prog 117 #[.agg (bV h).toArray] w fun e w'=>e=.returned (.agg (bV (Wot.step h)).toArray)∧Below w.heap.size w w':=by
 have HT:=Lib.hid hT
 clear hT
 obtain ⟨cs,hcs⟩:∃ c,c=bV h:=⟨_,rfl⟩
 have hcl:cs.length=32:=by rw [hcs,zG];exact hl
 have HCS:=Lib.hid hcs
 rw [← hcs]
 clear hcs
 go_enter Tryz.func117,Tryz.ntmps117
 go_upto_region 1 with fail
 obtain ⟨w1,hw1⟩:∃ q,q=(w.alloc (.cells cs.toArray 34)).alloc (.cells #[Value.int IntKind.u8 0,.int .u8 0,.int .u8 0,.int .u8 0,.int .u8 0,.int .u8 0,.int .u8 0,.int .u8 0,.int .u8 0,.int .u8 0,.int .u8 0,.int .u8 0,.int .u8 0,.int .u8 0,.int .u8 0,.int .u8 0,.int .u8 0,.int .u8 0,.int .u8 0,.int .u8 0,.int .u8 0,.int .u8 0,.int .u8 0,.int .u8 0,.int .u8 0,.int .u8 0,.int .u8 0,.int .u8 0,.int .u8 0,.int .u8 0,.int .u8 0,.int .u8 0] 34):=⟨_,rfl⟩
 obtain ⟨p1,hp1⟩:∃ q,q=w.heap.size:=⟨_,rfl⟩
 obtain ⟨p2,hp2⟩:∃ q,q=w.heap.size+1:=⟨_,rfl⟩
 have hb1:Below w.heap.size w w1:=by rw [hw1];exact ((Below.refl _ _).alloc (Nat.le_refl _) _).alloc (by simp) _
 have hk1:Blk w1 p1 cs.toArray 34:=by rw [hw1,hp1];exact (Blk.new _ _ _).alloc _
 have hk2:Blk w1 p2 zH 34:=by rw [hw1,hp2];exact Blk.new_at _ _ _ _ (by simp)
 rw [← hw1,← hp2,← hp1]
 have H1:=Lib.hid (And.intro hb1 (And.intro hk2 (And.intro (show w.heap.size≤p2 by omega) (And.intro (show p1≠p2 by omega) (show w.heap.size≤p1 by omega)))))
 have HK:=Lib.hid hk1
 have hpge:=H1.out.2.2.1
 clear hw1 hp1 hp2 hb1 hk1 hk2
 have hal:=fun (o:Obj)=>(Below.refl w1.heap.size w1).alloc (Nat.le_refl _) o
 have hbs:Bys w1 (.slice (some ⟨p1,0,none⟩) 32 32) h:=by
  have hk:=HK.out
  rw [HCS.out] at hk
  exact zAg hk hl (by decide)
 have HAL:=Lib.hid (And.intro hbs (And.intro (HT.out.below H1.out.1) hal))
 clear hbs hal
 go_wp2_with fail
 refine (zBJ _ _ [h] _ (HAL.out.2.1.below (HAL.out.2.2 _)) (zGv (Blk.new _ _ _) (HAL.out.1.below (HAL.out.2.2 _))) (by decide) ?_).mono ?_
 · exact zAa _ (fun r hr=>by
  rw [List.mem_singleton.1 hr]
  omega) (show 1≤100 by decide)
 rintro e w3 ⟨rfl,hb3⟩
 rw [show Wot.tagged (ByteArray.mk #[115,116,101,112]).data.toList [h]=Wot.step h from rfl]
 have hb13:Below w1.heap.size w1 w3:=((Below.refl _ _).alloc (Nat.le_refl _) _).trans (hb3.mono (by simp))
 have hb03:=H1.out.1.trans (hb13.mono H1.out.1.size)
 have kz:=H1.out.2.1.kept hb13
 have hlen:(Wot.step h).length=32:=Wot.tagged_len _ _
 obtain ⟨hq1,hq2,hq3⟩:=zAP (p:=p2) (h:=Wot.step h) hlen kz
 obtain ⟨co,hco⟩:∃ q,q=bV (Wot.step h):=⟨_,rfl⟩
 rw [← hco] at hq2 hq3
 try rw [← hco]
 have hcol:co.length=32:=hq2.1
 have HLD:=Lib.hid hq3
 have HM:=Lib.hid (And.intro hco (zAI co hb03 hpge))
 clear hco hq3
 go_wp2_with fail
 refine bodyPost_ret (v:=.agg co.toArray) (by simp [results,Tryz.results117,asAddr,HLD.out]) rfl ⟨by rw [HM.out.1],HM.out.2⟩
set_option maxRecDepth 20000 in
set_option maxHeartbeats 2000000 in
theorem zDz (h:List UInt8) (n:Nat) (w:World) (hT:Tab w) (hl:h.length=32) (hn:n≤15) :
  Calls Tryz.prog 101 #[.agg (bV h).toArray,.int .i64 n] w fun e w'=>e=.returned (.agg (bV (Wot.along h n)).toArray)∧Below w.heap.size w w':=by
 have HT:=Lib.hid hT
 clear hT
 obtain ⟨cs,hcs⟩:∃ c,c=bV h:=⟨_,rfl⟩
 have hcl:cs.length=32:=by rw [hcs,zG];exact hl
 have HCS:=Lib.hid hcs
 rw [← hcs]
 clear hcs
 go_enter Tryz.func101,Tryz.ntmps101
 go_upto_region 1 with fail
 obtain ⟨w1,hw1⟩:∃ q,q=(w.alloc (.cells cs.toArray 34)).alloc (.cells #[Value.int IntKind.u8 0,.int .u8 0,.int .u8 0,.int .u8 0,.int .u8 0,.int .u8 0,.int .u8 0,.int .u8 0,.int .u8 0,.int .u8 0,.int .u8 0,.int .u8 0,.int .u8 0,.int .u8 0,.int .u8 0,.int .u8 0,.int .u8 0,.int .u8 0,.int .u8 0,.int .u8 0,.int .u8 0,.int .u8 0,.int .u8 0,.int .u8 0,.int .u8 0,.int .u8 0,.int .u8 0,.int .u8 0,.int .u8 0,.int .u8 0,.int .u8 0,.int .u8 0] 34):=⟨_,rfl⟩
 obtain ⟨p1,hp1⟩:∃ q,q=w.heap.size:=⟨_,rfl⟩
 obtain ⟨p2,hp2⟩:∃ q,q=w.heap.size+1:=⟨_,rfl⟩
 have hb1:Below w.heap.size w w1:=by rw [hw1];exact ((Below.refl _ _).alloc (Nat.le_refl _) _).alloc (by simp) _
 have hk1:Blk w1 p1 cs.toArray 34:=by rw [hw1,hp1];exact (Blk.new _ _ _).alloc _
 have hk2:Blk w1 p2 zH 34:=by rw [hw1,hp2];exact Blk.new_at _ _ _ _ (by simp)
 rw [← hw1,← hp2,← hp1]
 have H1:=Lib.hid (And.intro hb1 (And.intro hk2 (And.intro (show w.heap.size≤p2 by omega) (And.intro (show p1≠p2 by omega) (show w.heap.size≤p1 by omega)))))
 have HK:=Lib.hid hk1
 have hpge:=H1.out.2.2.1
 clear hw1 hp1 hp2 hb1 hk1 hk2
 have hm1:min (n:Int) 15=(n:Int):=by omega
 have hm2:max 0 (n:Int)=(n:Int):=by omega
 go_wp2_with fail
 go_loopw [8] (fun u wr=>∃ i:Nat,i≤n∧u=.int .i64 i∧Hid (Below w.heap.size w wr∧Blk wr p1 (bV (Wot.along h i)).toArray 34∧Blk wr p2 zH 34)) (fun u _=>n - (intOf u).toNat)
 case atStart=>exact ⟨0,by omega,rfl,H1.out.1,(by have:=HK.out;rw [HCS.out] at this;exact this),H1.out.2.1⟩
 case round =>
  obtain ⟨i,hi,rfl,G⟩:=hrel
  obtain ⟨ci,hci⟩:∃ c,c=bV (Wot.along h i):=⟨_,rfl⟩
  have hcil:ci.length=32:=by rw [hci,zG];exact Wot.along_len hl i
  have HCI:=Lib.hid hci
  have hk:=G.out.2.1
  rw [← hci] at hk
  have k1:zh 32 wr p1 0=ci:=zn hk hcil (fun k _=>by simp)
  have k2:zi 32 wr p1 0:=zQ hk (by simp [hcil])
  have HKI:=Lib.hid hk
  clear hci hk
  by_cases h0:i < n
  · have i1:(i:Int) < (n:Int):=by omega
    have hst:=zIY (Wot.along h i) wr (HT.out.below G.out.1) (Wot.along_len hl i)
    rw [← HCI.out] at hst
    have HST:=Lib.hid hst
    clear hst
    go_wp2_with fail
    refine HST.out.mono ?_
    rintro e w4 ⟨rfl,hb4⟩
    rw [show Wot.step (Wot.along h i)=Wot.along h (i+1) from rfl]
    obtain ⟨co,hco⟩:∃ q,q=bV (Wot.along h (i+1)):=⟨_,rfl⟩
    rw [← hco]
    have hcol:co.length=32:=by rw [hco,zG];exact Wot.along_len hl (i+1)
    have hca:zAS 32 co:=⟨hcol,fun v hv=>by rw [hco] at hv;exact zAQ _ v hv⟩
    have HCO:=Lib.hid hco
    clear hco
    have hk4:=HKI.out.kept hb4
    have q2:zi 32 w4 p1 0:=zQ hk4 (by simp [hcil])
    have HB4:=Lib.hid (And.intro hb4 (And.intro (zEq hk4 hcil hcol) (Blk.setCells_other (fun e=>H1.out.2.2.2.1 e.symm) co 0 _ (G.out.2.2.kept hb4))))
    clear hb4 hk4
    go_wp2
    refine ⟨⟨i+1,by omega,by go_num,?_⟩,by simp [intOf];omega⟩
    exact ⟨zAI co (G.out.1.trans (HB4.out.1.mono G.out.1.size)) H1.out.2.2.2.2,by rw [← HCO.out];exact HB4.out.2.1,HB4.out.2.2⟩
  · have i1:¬ (i:Int) < (n:Int):=by omega
    obtain rfl:n=i:=by omega
    have hb04:=G.out.1
    have kz:=G.out.2.2
    have hlen:=Wot.along_len hl n
    rw [HCI.out] at k1
    clear HCI
    obtain ⟨hq1,hq2,hq3⟩:=zAP (p:=p2) (h:=Wot.along h n) hlen kz
    obtain ⟨co,hco⟩:∃ q,q=bV (Wot.along h n):=⟨_,rfl⟩
    rw [← hco] at hq2 hq3 k1
    try rw [← hco]
    have hcol:co.length=32:=hq2.1
    have HLD:=Lib.hid hq3
    have HM:=Lib.hid (And.intro hco (zAI co hb04 hpge))
    clear hco hq3
    go_wp2_with fail
    refine bodyPost_ret (v:=.agg co.toArray) (by simp [results,Tryz.results101,asAddr,HLD.out]) rfl ⟨by rw [HM.out.1],HM.out.2⟩
end Go.Proofs.YtdlkghdfkjdajaaGreatDoor
end
section
namespace Go.Proofs.YtdlkghdfkjdajaaGreatDoor
open Go Go.RowKit Go.Mem Gf
set_option linter.unusedVariables false
set_option linter.unusedSimpArgs false
def eN (d:Nat):List Value:=[.int .i64 d]
def WfN (_:Nat):Prop:=True
theorem ecN:zEa eN WfN 1:=⟨fun _ _=>rfl,fun x u hu=>by
 simp only [eN,List.mem_singleton] at hu
 subst hu
 rfl,by decide⟩
theorem EKn:zCf Tryz.prog 151 3 (.int .i64 0) 1 8:=⟨Tryz.underlying151,by kernel_rfl,rfl,by decide⟩
theorem zDL {p:Nat→Bool} (h:(List.range 256).all p=true) (n:Nat) (hn:n < 256):p n=true:=by
 rw [List.all_eq_true] at h
 exact h n (List.mem_range.2 hn)
theorem zKs (n:Nat) (h:n < 256):bits .and .u8 n 15=((n % 16:Nat):Int):=by
 have:=zDL (p:=fun n=>bits .and .u8 n 15 == ((n % 16:Nat):Int)) (by decide +kernel) n h
 simpa using this
theorem zD4 (n:Nat) (h:n < 1024):bits .and .i64 n 15=((n % 16:Nat):Int):=by
 have h0:((List.range 1024).all fun n=>bits .and .i64 n 15 == ((n % 16:Nat):Int))=true:=by decide +kernel
 rw [List.all_eq_true] at h0
 have:=h0 n (List.mem_range.2 h)
 simpa using this
attribute [local go_sem ↓] Go.wp_at_zero Go.wp_at_succ
set_option maxRecDepth 20000 in
set_option maxHeartbeats 4000000 in
theorem zFr (v:Value) (m:List UInt8) (w:World) (hT:Tab w) (hv:Bys w v m) (hl:m.length≤1000) :
  Calls Tryz.prog 100 #[v] w fun e w'=>∃ v',e=.returned v'∧zL eN WfN 1 3 w' w.heap.size v' (Wot.digits m)∧Below w.heap.size w w':=by
 obtain ⟨va,vc,rfl⟩:=hv.eq_slice
 obtain ⟨n,hn⟩:∃ n,n=m.length:=⟨_,rfl⟩
 rw [← hn] at hv ⊢
 have hal:=fun (o:Obj)=>(Below.refl w.heap.size w).alloc (Nat.le_refl _) o
 have HAL:=Lib.hid (And.intro hT (And.intro hv hal))
 clear hT hv hal hn
 go_enter Tryz.func100,Tryz.ntmps100
 go_wp2_with fail
 refine (zBJ _ _ [m] _ (HAL.out.1.below (HAL.out.2.2 _)) (zGv (Blk.new _ _ _) (HAL.out.2.1.below (HAL.out.2.2 _))) (by decide) ?_).mono ?_
 · exact zAa _ (fun r hr=>by
  rw [List.mem_singleton.1 hr]
  omega) (show 1≤100 by decide)
 rintro e w1 ⟨rfl,hb1⟩
 obtain ⟨H,hH⟩:∃ H,H=Wot.tagged Wot.tMsg [m]:=⟨_,rfl⟩
 rw [show Wot.tagged (ByteArray.mk #[109,115,103]).data.toList [m]=H from by rw [hH];rfl]
 have hHl:H.length=32:=by rw [hH];exact Wot.tagged_len _ _
 obtain ⟨co,hco⟩:∃ q,q=bV H:=⟨_,rfl⟩
 rw [← hco]
 have HB1:=Lib.hid (show Below w.heap.size w w1 from ((Below.refl _ _).alloc (Nat.le_refl _) _).trans (hb1.mono (by simp)))
 have HH:=Lib.hid (And.intro hH hco)
 clear hb1 hH hco
 go_wp2_with fail
 go_loopw [10,3,4] (fun vi vo vs wr=>∃ i:Nat,i≤32∧vi=.int .i64 i∧vs=.int .i64 ((Wot.chk (H.take i):Nat):Int)∧Hid (zL eN WfN 1 3 wr w.heap.size vo (Wot.nib (H.take i))∧Below w.heap.size w wr)) (fun vi _ _ _=>32 - (intOf vi).toNat)
 case atStart=>exact ⟨0,by omega,rfl,by rfl,zL.nil _ _ _ _ _ _,HB1.out⟩
 case round =>
  obtain ⟨i,hi,rfl,rfl,G⟩:=hrel
  by_cases h0:i < 32
  · have i1:(i:Int) < 32:=by omega
    obtain ⟨c,hc⟩:∃ c,H[i]?=some c:=⟨_,List.getElem?_eq_getElem (by omega)⟩
    have hix:=zK5 wr i h0 co (.int .u8 (c.toNat:Int)) (by rw [HH.out.2,zAd,hc];rfl)
    have hcl:c.toNat < 256:=c.toNat_lt
    have ha:=zKs c.toNat hcl
    have htk:H.take (i+1)=H.take i++[c]:=by rw [List.take_add_one,hc];rfl
    have hnl:=Wot.nib_len (H.take i)
    have hcl2:=Wot.chk_le (H.take i)
    rw [List.length_take] at hnl hcl2
    obtain ⟨q,hq⟩:∃ q,q=Wot.chk (H.take i):=⟨_,rfl⟩
    rw [← hq] at hcl2 ⊢
    have HQ:=Lib.hid (And.intro htk (And.intro hq hnl))
    have hqb:q≤960:=by omega
    clear htk hq hnl hcl2 hc
    obtain ⟨d1,hd1⟩:∃ d,d=c.toNat / 16:=⟨_,rfl⟩
    obtain ⟨d2,hd2⟩:∃ d,d=c.toNat % 16:=⟨_,rfl⟩
    have e1:(c.toNat:Int) / 16=(d1:Int):=by omega
    rw [← hd2] at ha
    have hdd:d1≤15∧d2≤15:=by omega
    have HD:=Lib.hid (And.intro hd1 hd2)
    clear hd1 hd2
    have q1:IntKind.i64.wrap ((q:Int)+30)=(q:Int)+30:=IntWalk.i64_in _ (by omega)
    have q2:IntKind.i64.wrap ((q:Int)+30 - (d1:Int))=(q:Int)+30 - (d1:Int):=IntWalk.i64_in _ (by omega)
    have q3:IntKind.i64.wrap ((q:Int)+30 - (d1:Int) - (d2:Int))=(q:Int)+30 - (d1:Int) - (d2:Int):=IntWalk.i64_in _ (by omega)
    have q4:IntKind.i64.wrap (d1:Int)=(d1:Int):=IntWalk.i64_in _ (by omega)
    have q5:IntKind.i64.wrap (d2:Int)=(d2:Int):=IntWalk.i64_in _ (by omega)
    clear hcl hqb
    go_wp2_with (at_builtin;refine zCz EKn ecN rfl _ _ rfl (base:=w.heap.size) [d1,d2] (fun _ _=>trivial) rfl rfl rfl (Blk.new _ _ _) (G.out.1.chg (S:=fun _=>False) (Chg.of_below ((Below.refl _ _).alloc (Nat.le_refl _) _)) (fun _ _=>id)) ?d1 (by decide) ?d2 ?_)
    case d1=>have:=HQ.out.2.2;omega
    case d2=>have:=G.out.2.size;simp;omega
    intro v4 w4 h4 hg4 hx4
    have hb4:=zN (G.out.2.alloc G.out.2.size _) hg4 (fun k hk=>G.out.1.ge hk)
    have H4:=Lib.hid (And.intro h4 hb4)
    clear h4 hb4 hg4 hx4
    go_wp2
    refine ⟨⟨i+1,by omega,by go_num,?_,?_⟩,by simp [intOf];omega⟩
    · rw [HQ.out.1,Wot.chk_snoc,← HQ.out.2.1,← HD.out.1,← HD.out.2]
      congr 1
      omega
    · refine ⟨?_,H4.out.2⟩
      rw [HQ.out.1,Wot.nib_snoc,← HD.out.1,← HD.out.2]
      exact H4.out.1
  · have i1:¬ (i:Int) < 32:=by omega
    obtain rfl:i=32:=by omega
    have htk:H.take 32=H:=List.take_of_length_le (by omega)
    rw [htk] at G ⊢
    have hnl:=Wot.nib_len H
    have hcb:=Wot.chk_le H
    obtain ⟨q,hq⟩:∃ q,q=Wot.chk H:=⟨_,rfl⟩
    rw [← hq] at hcb ⊢
    have hqb:q≤960:=by omega
    obtain ⟨a1,ha1⟩:∃ a,a=q / 256:=⟨_,rfl⟩
    obtain ⟨a2,ha2⟩:∃ a,a=q / 16:=⟨_,rfl⟩
    have f1:(q:Int) / 256=(a1:Int):=by omega
    have f2:(q:Int) / 16=(a2:Int):=by omega
    have g1:=zD4 a1 (by omega)
    have g2:=zD4 a2 (by omega)
    have g3:=zD4 q (by omega)
    rw [show a1 % 16=a1 by omega] at g1
    obtain ⟨x2,hx2⟩:∃ x,x=a2 % 16:=⟨_,rfl⟩
    obtain ⟨x3,hx3⟩:∃ x,x=q % 16:=⟨_,rfl⟩
    rw [← hx2] at g2
    rw [← hx3] at g3
    have HQ:=Lib.hid (And.intro hq (And.intro ha1 (And.intro ha2 (And.intro hx2 (And.intro hx3 hnl)))))
    clear htk hq ha1 ha2 hx2 hx3 hnl hcb
    go_wp2_with (at_builtin;refine zCz EKn ecN rfl _ _ rfl (base:=w.heap.size) [a1,x2,x3] (fun _ _=>trivial) rfl rfl rfl (Blk.new _ _ _) (G.out.1.chg (S:=fun _=>False) (Chg.of_below ((Below.refl _ _).alloc (Nat.le_refl _) _)) (fun _ _=>id)) ?e1 (by decide) ?e2 ?_)
    case e1=>have:=HQ.out.2.2.2.2.2;omega
    case e2=>have:=G.out.2.size;simp;omega
    intro v4 w4 h4 hg4 hx4
    have hb4:=zN (G.out.2.alloc G.out.2.size _) hg4 (fun k hk=>G.out.1.ge hk)
    go_wp2
    go_ret
    refine ⟨v4,rfl,?_,hb4⟩
    have e:Wot.digits m=Wot.nib H++[a1,x2,x3]:=by
     unfold Wot.digits Wot.digitsOf
     rw [← HH.out.1,← HQ.out.1,← HQ.out.2.1,HQ.out.2.2.2.1,HQ.out.2.2.2.2.1,HQ.out.2.2.1]
    rw [e]
    exact h4
end Go.Proofs.YtdlkghdfkjdajaaGreatDoor
end
section
namespace Go.Proofs.YtdlkghdfkjdajaaGreatDoor
open Go Go.RowKit Go.Mem Gf
set_option linter.unusedVariables false
set_option linter.unusedSimpArgs false
theorem ERk:Elem Tryz.prog 142 41 (.slice none 0 0) 24:=⟨Tryz.underlying142,by kernel_rfl,rfl⟩
attribute [local go_sem ↓] Go.wp_at_zero Go.wp_at_succ
theorem zIt:(Tryz.prog.info? 23).map (·.size)=some 16:=by kernel_rfl
theorem zf (dst:Option Tmp) (x:Operand) (ty:TypeId) (pos:String) (af:Array Edge) (gd:Option (Tmp × Bool)) (a:Act) (w:World) (K:Act→World→Prop) (Q:Exit→Act→World→Prop)
  (hp:zBe (a.eval x)=true) (ht:zi 16 w (zAy (a.eval x)) (zAz (a.eval x))) :
  Oper.wp Tryz.prog ⟨dst,.load 23 x,ty,pos,af,gd⟩ a w K Q=K (a.put dst (.agg (zh 16 w (zAy (a.eval x)) (zAz (a.eval x))).toArray)) w :=
 zD1 Tryz.underlying23 rfl zIt dst x ty pos af gd a w K Q hp ht
attribute [local go_sem ↓] zY zU zm zf
attribute [local go_sem] ptrB_eq ptrO_eq ptrIs_eq aggL_eq aggIs_eq zS zV zD zF zJ zK zB
set_option maxRecDepth 20000 in
set_option maxHeartbeats 4000000 in
theorem zFs (v:Value) (l:List (List UInt8)) (base:Nat) (w:World) (hT:Tab w) (h:zL bV WfH 32 34 w base v l) (hl:l.length≤67) :
  Calls Tryz.prog 116 #[v] w fun e w'=>e=.returned (.agg (bV (Wot.publicOf l)).toArray)∧Below w.heap.size w w':=by
 obtain ⟨va,vc,rfl⟩:=h.slice
 obtain ⟨n,hn⟩:∃ n,n=l.length:=⟨_,rfl⟩
 rw [← hn] at h hl ⊢
 have H:=Lib.hid (And.intro h (And.intro hT hn))
 clear h hT hn
 go_enter Tryz.func116,Tryz.ntmps116
 go_upto_region 1 with fail
 obtain ⟨w1,hw1⟩:∃ q,q=w.alloc (.cells #[Value.int IntKind.u8 0,.int .u8 0,.int .u8 0,.int .u8 0,.int .u8 0,.int .u8 0,.int .u8 0,.int .u8 0,.int .u8 0,.int .u8 0,.int .u8 0,.int .u8 0,.int .u8 0,.int .u8 0,.int .u8 0,.int .u8 0,.int .u8 0,.int .u8 0,.int .u8 0,.int .u8 0,.int .u8 0,.int .u8 0,.int .u8 0,.int .u8 0,.int .u8 0,.int .u8 0,.int .u8 0,.int .u8 0,.int .u8 0,.int .u8 0,.int .u8 0,.int .u8 0] 34):=⟨_,rfl⟩
 obtain ⟨p2,hp2⟩:∃ q,q=w.heap.size:=⟨_,rfl⟩
 have hb1:Below w.heap.size w w1:=by rw [hw1];exact (Below.refl _ _).alloc (Nat.le_refl _) _
 have hk1:Blk w1 p2 zH 34:=by rw [hw1,hp2];exact Blk.new _ _ _
 rw [← hw1,← hp2]
 have H1:=Lib.hid (And.intro hb1 (And.intro hk1 (show w.heap.size≤p2 from Nat.le_of_eq hp2.symm)))
 clear hw1 hp2 hb1 hk1
 go_wp2_with fail
 go_loopw [8,3] (fun vi vo wr=>∃ i:Nat,i≤n∧vi=.int .i64 i∧Hid (OwnRows 5 41 wr w1.heap.size vo (l.take i)∧Below w1.heap.size w1 wr)) (fun vi _ _=>n - (intOf vi).toNat)
 case atStart=>exact ⟨0,by omega,rfl,OwnRows.nil _ _ _ _,Below.refl _ _⟩
 case round =>
  obtain ⟨i,hi,rfl,G⟩:=hrel
  by_cases h0:i < n
  · have i0:(0:Int)≤(i:Int):=by omega
    have i1:(i:Int) < (n:Int):=by omega
    obtain ⟨x,hx⟩:∃ x,l[i]?=some x:=⟨_,List.getElem?_eq_getElem (by have:=H.out.2.2;omega)⟩
    have how:=H.out.1.chg (S:=fun _=>False) (Chg.of_below (H1.out.1.trans (G.out.2.mono H1.out.1.size))) (fun _ _=>id)
    obtain ⟨g,cap,e,hrow⟩:=how.ex (by have:=H.out.2.2;omega)
    rw [← H.out.2.2] at e hrow
    injection e with e1 e2 e3
    subst e1 e3
    have hxl:x.length=32:=hrow.wf x (List.mem_of_getElem? hx)
    obtain ⟨cx,hcx⟩:∃ c,c=bV x:=⟨_,rfl⟩
    have k1:=hrow.read ecH hx
    have k2:zi 32 wr g (i*32):=hrow.there h0
    rw [← hcx] at k1
    have hcl:cx.length=32:=by rw [hcx,zG];exact hxl
    have hca:zAS 32 cx:=⟨hcl,fun v hv=>by rw [hcx] at hv;exact zAQ _ v hv⟩
    have HX:=Lib.hid (And.intro hx (And.intro hcx hxl))
    clear hx hcx hxl hrow how
    go_upto_region 5 with fail
    obtain ⟨wb,hwb⟩:∃ q,q=wr.alloc (.cells cx.toArray 34):=⟨_,rfl⟩
    obtain ⟨p5,hp5⟩:∃ q,q=wr.heap.size:=⟨_,rfl⟩
    have hkb:Blk wb p5 (bV x).toArray 34:=by rw [hwb,hp5,← HX.out.2.1];exact Blk.new _ _ _
    have hbb:Below wr.heap.size wr wb:=by rw [hwb];exact (Below.refl _ _).alloc (Nat.le_refl _) _
    have hb1b:=G.out.2.trans (hbb.mono G.out.2.size)
    have hsb:w1.heap.size≤wb.heap.size:=hb1b.size
    have HB:=Lib.hid (And.intro (zAg hkb HX.out.2.2 (by decide)) (And.intro hb1b (G.out.1.below hbb)))
    rw [← hwb,← hp5]
    clear hwb hp5 hkb hbb hb1b k1 k2
    go_wp2_with (at_builtin;refine zJ5 E8 rfl _ _ rfl (base:=w1.heap.size) (v:=.slice none 0 0) (bs:=[]) (news:=x) rfl rfl (zBp.nil _ _ _) HB.out.1 (by have:=HX.out.2.2;simp;omega) hsb ?_)
    intro v4 w4 h4 hg4
    have hb4:Below wb.heap.size wb w4:=zAE hg4 rfl
    have hs4:=hb4.size
    obtain ⟨a4,c4,rfl⟩:=h4.eq_slice
    have H4:=Lib.hid (And.intro h4 (And.intro (HB.out.2.2.below hb4) (HB.out.2.1.trans (hb4.mono hsb))))
    clear h4 hb4 hg4
    go_wp2_with (at_builtin;refine zLo ERk rfl _ _ rfl rfl rfl rfl H4.out.2.1 H4.out.1 (by decide) ?d1 ?d2 ?_)
    case d1=>rw [List.length_take];omega
    case d2=>omega
    intro v5 w5 h5 hg5
    have hs14:=H4.out.2.2.size
    have hb5:=zN H4.out.2.2 hg5 (fun k hk=>(H4.out.2.1.lt k hk).1)
    have H5:=Lib.hid (And.intro h5 hb5)
    clear h5 hb5 hg5
    go_wp2
    refine ⟨⟨i+1,by omega,by go_num,?_,H5.out.2⟩,by simp [intOf];omega⟩
    rw [List.take_add_one,HX.out.1]
    exact H5.out.1
  · have i1:¬ (i:Int) < (n:Int):=by omega
    obtain rfl:n=i:=by omega
    have htk:l.take n=l:=List.take_of_length_le (by have:=H.out.2.2;omega)
    rw [htk] at G
    have hrw:=G.out.1.rws
    obtain ⟨a3,c3,rfl⟩:=hrw.eq_slice
    rw [← H.out.2.2] at hrw ⊢
    have HR:=Lib.hid hrw
    clear hrw
    go_wp2_with fail
    refine (zBJ _ _ l wr (H.out.2.1.below (H1.out.1.trans (G.out.2.mono H1.out.1.size))) HR.out (by decide) ?_).mono ?_
    · exact zAa _ (fun r hr=>by have:r.length=32:=H.out.1.wf r hr;omega) (by have:=H.out.2.2;omega)
    rintro e w4 ⟨rfl,hb4⟩
    rw [show Wot.tagged (ByteArray.mk #[112,117,98,108,105,99]).data.toList l=Wot.publicOf l from rfl]
    have hb14:Below w1.heap.size w1 w4:=G.out.2.trans (hb4.mono G.out.2.size)
    have hb04:=H1.out.1.trans (hb14.mono H1.out.1.size)
    have kz:=H1.out.2.1.kept hb14
    have hpge:=H1.out.2.2
    have hlen:(Wot.publicOf l).length=32:=Wot.tagged_len _ _
    obtain ⟨hq1,hq2,hq3⟩:=zAP (p:=p2) (h:=Wot.publicOf l) hlen kz
    obtain ⟨co,hco⟩:∃ q,q=bV (Wot.publicOf l):=⟨_,rfl⟩
    rw [← hco] at hq2 hq3
    try rw [← hco]
    have hcol:co.length=32:=hq2.1
    have HLD:=Lib.hid hq3
    have HM:=Lib.hid (And.intro hco (zAI co hb04 hpge))
    clear hco hq3
    go_wp2_with fail
    refine bodyPost_ret (v:=.agg co.toArray) (by simp [results,Tryz.results116,asAddr,HLD.out]) rfl ⟨by rw [HM.out.1],HM.out.2⟩
set_option maxRecDepth 20000 in
set_option maxHeartbeats 4000000 in
theorem zFp (sd:List UInt8) (leaf:Nat) (w:World) (hT:Tab w) (hs:sd.length=16) (h1:leaf≤1000000) :
  Calls Tryz.prog 98 #[.agg (bV sd).toArray,.int .i64 leaf] w fun e w'=>e=.returned (.agg (bV (Wot.pub sd leaf)).toArray)∧Below w.heap.size w w':=by
 have HT:=Lib.hid hT
 clear hT
 obtain ⟨cs,hcs⟩:∃ c,c=bV sd:=⟨_,rfl⟩
 have hcl:cs.length=16:=by rw [hcs,zG];exact hs
 have HCS:=Lib.hid hcs
 rw [← hcs]
 clear hcs
 go_enter Tryz.func98,Tryz.ntmps98
 go_upto_region 1 with fail
 obtain ⟨w1,hw1⟩:∃ q,q=(w.alloc (.cells cs.toArray 23)).alloc (.cells #[Value.int IntKind.u8 0,.int .u8 0,.int .u8 0,.int .u8 0,.int .u8 0,.int .u8 0,.int .u8 0,.int .u8 0,.int .u8 0,.int .u8 0,.int .u8 0,.int .u8 0,.int .u8 0,.int .u8 0,.int .u8 0,.int .u8 0,.int .u8 0,.int .u8 0,.int .u8 0,.int .u8 0,.int .u8 0,.int .u8 0,.int .u8 0,.int .u8 0,.int .u8 0,.int .u8 0,.int .u8 0,.int .u8 0,.int .u8 0,.int .u8 0,.int .u8 0,.int .u8 0] 34):=⟨_,rfl⟩
 obtain ⟨p1,hp1⟩:∃ q,q=w.heap.size:=⟨_,rfl⟩
 obtain ⟨p2,hp2⟩:∃ q,q=w.heap.size+1:=⟨_,rfl⟩
 have hb1:Below w.heap.size w w1:=by rw [hw1];exact ((Below.refl _ _).alloc (Nat.le_refl _) _).alloc (by simp) _
 have hk1:Blk w1 p1 cs.toArray 23:=by rw [hw1,hp1];exact (Blk.new _ _ _).alloc _
 have hk2:Blk w1 p2 zH 34:=by rw [hw1,hp2];exact Blk.new_at _ _ _ _ (by simp)
 rw [← hw1,← hp2,← hp1]
 have H1:=Lib.hid (And.intro hb1 (And.intro hk2 (And.intro (show w.heap.size≤p2 by omega) (And.intro (show p1≠p2 by omega) (show w.heap.size≤p1 by omega)))))
 have HK:=Lib.hid hk1
 have hpge:=H1.out.2.2.1
 clear hw1 hp1 hp2 hb1 hk1 hk2
 have hk16:=HK.out
 have hs1:=H1.out.1.size
 go_wp2_with fail
 go_loopw [7,5] (fun vi vo wr=>∃ i:Nat,i≤67∧vi=.int .i64 i∧Hid (zL bV WfH 32 34 wr w1.heap.size vo (Wot.ends sd leaf i)∧Below w1.heap.size w1 wr)) (fun vi _ _=>67 - (intOf vi).toNat)
 case atStart=>exact ⟨0,by omega,rfl,zL.nil _ _ _ _ _ _,Below.refl _ _⟩
 case round =>
  obtain ⟨i,hi,rfl,G⟩:=hrel
  by_cases h0:i < 67
  · have i1:(i:Int) < 67:=by omega
    have hk:=HK.out.kept G.out.2
    have k1:zh 16 wr p1 0=cs:=zn hk hcl (fun k _=>by simp)
    have k2:zi 16 wr p1 0:=zQ hk (by simp [hcl])
    have hbw:=H1.out.1.trans (G.out.2.mono hs1)
    have hst:=zD2 sd leaf i wr (HT.out.below hbw) hs h1 (by omega)
    rw [← HCS.out] at hst
    have HST:=Lib.hid (And.intro hst hbw)
    clear hst hk hbw hk16
    go_wp2_with fail
    refine HST.out.1.mono ?_
    rintro e w3 ⟨rfl,hb3⟩
    have hb13:=G.out.2.trans (hb3.mono G.out.2.size)
    have H3:=Lib.hid (And.intro hb13 (G.out.1.chg (S:=fun _=>False) (Chg.of_below hb3) (fun _ _=>id)))
    clear hb3 hb13 k1 k2
    go_wp2_with fail
    refine (zDz (Wot.start sd leaf i) 15 w3 (HT.out.below (H1.out.1.trans (H3.out.1.mono hs1))) (Wot.start_len _ _ _) (by decide)).mono ?_
    rintro e w4 ⟨rfl,hb4⟩
    obtain ⟨x,hx⟩:∃ x,x=Wot.along (Wot.start sd leaf i) 15:=⟨_,rfl⟩
    rw [← hx]
    have hxl:x.length=32:=by rw [hx];exact Wot.along_len (Wot.start_len _ _ _) 15
    obtain ⟨co,hco⟩:∃ q,q=bV x:=⟨_,rfl⟩
    rw [← hco]
    have hcol:co.length=32:=by rw [hco,zG];exact hxl
    have hca:zAS 32 co:=⟨hcol,fun v hv=>by rw [hco] at hv;exact zAQ _ v hv⟩
    have hb14:=H3.out.1.trans (hb4.mono H3.out.1.size)
    have H4:=Lib.hid (And.intro hb14 (And.intro (H3.out.2.chg (S:=fun _=>False) (Chg.of_below hb4) (fun _ _=>id)) (And.intro hx hco)))
    have hs14:=hb14.size
    clear hb4 hb14 hx hco
    go_wp2_with (at_builtin;refine zAZ EKh ecH rfl _ _ rfl (base:=w1.heap.size) x hxl rfl rfl (by rw [← H4.out.2.2.2];exact Blk.new _ _ _) (H4.out.2.1.chg (S:=fun _=>False) (Chg.of_below ((Below.refl _ _).alloc (Nat.le_refl _) _)) (fun _ _=>id)) ?d1 (by decide) ?d2 ?_)
    case d1=>unfold Wot.ends;rw [List.length_map,List.length_range];omega
    case d2=>simp;omega
    intro v5 w5 h5 hg5 hx5
    have hb5:=zN (H4.out.1.alloc hs14 _) hg5 (fun k hk=>H4.out.2.1.ge hk)
    have H5:=Lib.hid (And.intro h5 hb5)
    clear h5 hb5 hg5 hx5
    go_wp2
    refine ⟨⟨i+1,by omega,by go_num,?_,H5.out.2⟩,by simp [intOf];omega⟩
    rw [Wot.ends_snoc,← H4.out.2.2.1]
    exact H5.out.1
  · have i1:¬ (i:Int) < 67:=by omega
    obtain rfl:i=67:=by omega
    obtain ⟨a3,c3,rfl⟩:=G.out.1.slice
    have hpb:=zFs _ (Wot.ends sd leaf 67) w1.heap.size wr (HT.out.below (H1.out.1.trans (G.out.2.mono hs1))) G.out.1 (by unfold Wot.ends;rw [List.length_map,List.length_range];omega)
    have hel:(Wot.ends sd leaf 67).length=67:=by unfold Wot.ends;rw [List.length_map,List.length_range]
    rw [hel] at hpb ⊢
    have HPB:=Lib.hid hpb
    clear hpb hel
    go_wp2_with fail
    refine HPB.out.mono ?_
    rintro e w4 ⟨rfl,hb4⟩
    rw [show Wot.publicOf (Wot.ends sd leaf 67)=Wot.pub sd leaf from rfl]
    have hb14:Below w1.heap.size w1 w4:=G.out.2.trans (hb4.mono G.out.2.size)
    have hb04:=H1.out.1.trans (hb14.mono H1.out.1.size)
    have kz:=H1.out.2.1.kept hb14
    have hlen:(Wot.pub sd leaf).length=32:=Wot.tagged_len _ _
    obtain ⟨hq1,hq2,hq3⟩:=zAP (p:=p2) (h:=Wot.pub sd leaf) hlen kz
    obtain ⟨co,hco⟩:∃ q,q=bV (Wot.pub sd leaf):=⟨_,rfl⟩
    rw [← hco] at hq2 hq3
    try rw [← hco]
    have hcol:co.length=32:=hq2.1
    have HLD:=Lib.hid hq3
    have HM:=Lib.hid (And.intro hco (zAI co hb04 hpge))
    clear hco hq3
    go_wp2_with fail
    refine bodyPost_ret (v:=.agg co.toArray) (by simp [results,Tryz.results98,asAddr,HLD.out]) rfl ⟨by rw [HM.out.1],HM.out.2⟩
end Go.Proofs.YtdlkghdfkjdajaaGreatDoor
end
section
namespace Go.Proofs.YtdlkghdfkjdajaaGreatDoor
open Go Go.RowKit Go.Mem Gf
set_option linter.unusedVariables false
set_option linter.unusedSimpArgs false
attribute [local go_sem ↓] Go.wp_at_zero Go.wp_at_succ
attribute [local go_sem ↓] zY zU zm zf
attribute [local go_sem] ptrB_eq ptrO_eq ptrIs_eq aggL_eq aggIs_eq zS zV zD zF zJ zK zB
def zFc (sd:List UInt8) (leaf:Nat) (ds:List Nat) (n:Nat):List (List UInt8):=(List.range n).map fun c=>Wot.along (Wot.start sd leaf c) (ds.getD c 0)
theorem zGP (sd:List UInt8) (leaf:Nat) (ds:List Nat) (n:Nat):zFc sd leaf ds (n+1)=zFc sd leaf ds n++[Wot.along (Wot.start sd leaf n) (ds.getD n 0)]:=by
 unfold zFc
 rw [List.range_succ,List.map_append]
 rfl
theorem zIS (sd:List UInt8) (leaf:Nat) (ds:List Nat) (n:Nat):(zFc sd leaf ds n).length=n:=by unfold zFc;rw [List.length_map,List.length_range]
set_option maxRecDepth 20000 in
set_option maxHeartbeats 4000000 in
theorem zIX (sd:List UInt8) (leaf:Nat) (v:Value) (m:List UInt8) (w:World) (hT:Tab w) (hs:sd.length=16) (h1:leaf≤1000000) (hv:Bys w v m) (hl:m.length≤1000) :
  Calls Tryz.prog 72 #[.agg (bV sd).toArray,.int .i64 leaf,v] w fun e w'=>∃ v',e=.returned v'∧zL bV WfH 32 34 w' w.heap.size v' (Wot.signO sd leaf m)∧Below w.heap.size w w':=by
 have HT:=Lib.hid (And.intro hT hv)
 obtain ⟨va,vc,rfl⟩:=hv.eq_slice
 obtain ⟨mn,hmn⟩:∃ n,n=m.length:=⟨_,rfl⟩
 rw [← hmn] at HT ⊢
 clear hT hv hmn
 obtain ⟨cs,hcs⟩:∃ c,c=bV sd:=⟨_,rfl⟩
 have hcl:cs.length=16:=by rw [hcs,zG];exact hs
 have HCS:=Lib.hid hcs
 rw [← hcs]
 clear hcs
 go_enter Tryz.func72,Tryz.ntmps72
 go_upto_region 1 with fail
 obtain ⟨w1,hw1⟩:∃ q,q=w.alloc (.cells cs.toArray 23):=⟨_,rfl⟩
 obtain ⟨p1,hp1⟩:∃ q,q=w.heap.size:=⟨_,rfl⟩
 have hb1:Below w.heap.size w w1:=by rw [hw1];exact (Below.refl _ _).alloc (Nat.le_refl _) _
 have hk1:Blk w1 p1 cs.toArray 23:=by rw [hw1,hp1];exact Blk.new _ _ _
 have hs01:=hb1.size
 rw [← hw1,← hp1]
 have H1:=Lib.hid (And.intro hb1 hk1)
 clear hw1 hp1 hb1 hk1
 go_wp2_with fail
 refine (zFr _ m w1 (HT.out.1.below H1.out.1) (HT.out.2.below H1.out.1) hl).mono ?_
 rintro e w2 ⟨dv,rfl,hdv,hb2⟩
 obtain ⟨ds,hds⟩:∃ ds,ds=Wot.digits m:=⟨_,rfl⟩
 rw [← hds] at hdv
 have hdl:ds.length=67:=by rw [hds];exact Wot.digits_len m
 obtain ⟨g,cap,rfl,hrow⟩:=hdv.ex (by omega)
 rw [hdl] at hrow ⊢
 have hdle:∀ d∈ds,d≤15:=by rw [hds];exact Wot.digits_le m
 have HD:=Lib.hid (And.intro hds (And.intro hrow (And.intro hdl hdle)))
 have hb02:=H1.out.1.trans (hb2.mono hs01)
 have H2:=Lib.hid (And.intro hb02 (H1.out.2.kept hb2))
 have hs02:=hb02.size
 clear hdv hb2 hds hrow hdl hdle hb02
 go_wp2_with fail
 go_loopw [13,7] (fun vi vo wr=>∃ i:Nat,i≤67∧vi=.int .i64 i∧Hid (zL bV WfH 32 34 wr w2.heap.size vo (zFc sd leaf ds i)∧Below w2.heap.size w2 wr)) (fun vi _ _=>67 - (intOf vi).toNat)
 case atStart=>exact ⟨0,by omega,rfl,zL.nil _ _ _ _ _ _,Below.refl _ _⟩
 case round =>
  obtain ⟨i,hi,rfl,G⟩:=hrel
  by_cases h0:i < 67
  · have i0:(0:Int)≤(i:Int):=by omega
    have i1:(i:Int) < 67:=by omega
    obtain ⟨d,hd⟩:∃ d,ds[i]?=some d:=⟨_,List.getElem?_eq_getElem (by have:=HD.out.2.2.1;omega)⟩
    have hdb:d≤15:=HD.out.2.2.2 d (List.mem_of_getElem? hd)
    have hrw:=HD.out.2.1.chg (S:=fun _=>False) (Chg.of_below G.out.2) id
    have cd:wr.cell? ⟨g,i,none⟩=some (.int .i64 d):=by
     have:=hrw.cell (j:=i) (by omega)
     rw [this]
     have h2:=zCC ecN ds (fun _ _=>trivial) i d hd 0 (by decide)
     rw [Nat.mul_one,Nat.add_zero] at h2
     rw [h2]
     rfl
    have hk:=H2.out.2.kept G.out.2
    have k1:zh 16 wr p1 0=cs:=zn hk hcl (fun k _=>by simp)
    have k2:zi 16 wr p1 0:=zQ hk (by simp [hcl])
    have hbw:=H2.out.1.trans (G.out.2.mono hs02)
    have hst:=zD2 sd leaf i wr (HT.out.1.below hbw) hs h1 (by omega)
    rw [← HCS.out] at hst
    have HST:=Lib.hid (And.intro hst (And.intro hbw hd))
    clear hst hk hbw hrw hd
    go_wp2_with fail
    refine HST.out.1.mono ?_
    rintro e w3 ⟨rfl,hb3⟩
    have hb13:=G.out.2.trans (hb3.mono G.out.2.size)
    have H3:=Lib.hid (And.intro hb13 (G.out.1.chg (S:=fun _=>False) (Chg.of_below hb3) (fun _ _=>id)))
    clear hb3 hb13 k1 k2 cd
    go_wp2_with fail
    refine (zDz (Wot.start sd leaf i) d w3 (HT.out.1.below (H2.out.1.trans (H3.out.1.mono hs02))) (Wot.start_len _ _ _) hdb).mono ?_
    rintro e w4 ⟨rfl,hb4⟩
    obtain ⟨x,hx⟩:∃ x,x=Wot.along (Wot.start sd leaf i) d:=⟨_,rfl⟩
    rw [← hx]
    have hxl:x.length=32:=by rw [hx];exact Wot.along_len (Wot.start_len _ _ _) d
    obtain ⟨co,hco⟩:∃ q,q=bV x:=⟨_,rfl⟩
    rw [← hco]
    have hcol:co.length=32:=by rw [hco,zG];exact hxl
    have hca:zAS 32 co:=⟨hcol,fun v hv=>by rw [hco] at hv;exact zAQ _ v hv⟩
    have hb14:=H3.out.1.trans (hb4.mono H3.out.1.size)
    have H4:=Lib.hid (And.intro hb14 (And.intro (H3.out.2.chg (S:=fun _=>False) (Chg.of_below hb4) (fun _ _=>id)) (And.intro hx hco)))
    have hs14:=hb14.size
    clear hb4 hb14 hx hco
    go_wp2_with (at_builtin;refine zAZ EKh ecH rfl _ _ rfl (base:=w2.heap.size) x hxl rfl rfl (by rw [← H4.out.2.2.2];exact Blk.new _ _ _) (H4.out.2.1.chg (S:=fun _=>False) (Chg.of_below ((Below.refl _ _).alloc (Nat.le_refl _) _)) (fun _ _=>id)) ?d1 (by decide) ?d2 ?_)
    case d1=>rw [zIS];omega
    case d2=>simp;omega
    intro v5 w5 h5 hg5 hx5
    have hb5:=zN (H4.out.1.alloc hs14 _) hg5 (fun k hk=>H4.out.2.1.ge hk)
    have H5:=Lib.hid (And.intro h5 hb5)
    clear h5 hb5 hg5 hx5
    go_wp2
    refine ⟨⟨i+1,by omega,by go_num,?_,H5.out.2⟩,by simp [intOf];omega⟩
    rw [zGP,List.getD_eq_getElem?_getD,HST.out.2.2,Option.getD_some,← H4.out.2.2.1]
    exact H5.out.1
  · have i1:¬ (i:Int) < 67:=by omega
    obtain rfl:i=67:=by omega
    go_wp2_with fail
    go_ret
    refine ⟨_,rfl,?_,H2.out.1.trans (G.out.2.mono hs02)⟩
    have e:Wot.signO sd leaf m=zFc sd leaf ds 67:=by
     unfold Wot.signO Wot.vals zFc
     rw [← HD.out.1,HD.out.2.2.1]
    rw [e]
    exact G.out.1.lower hs02
set_option maxRecDepth 100000 in
set_option maxHeartbeats 1000000 in
theorem zDR (h:Nat) (w:World) (hh:h≤4):Calls Tryz.prog 61 #[.int .i64 h] w fun e w'=>e=.returned (.bool true)∧w=w':=by
 have h1:(0:Int)≤(h:Int):=by omega
 have h2:(h:Int)≤4:=by omega
 go_enter Tryz.func61,Tryz.ntmps61
 go_wp2
 go_ret
 exact ⟨rfl,rfl⟩
end Go.Proofs.YtdlkghdfkjdajaaGreatDoor
end
section
namespace Go.Proofs.YtdlkghdfkjdajaaGreatDoor
open Go Go.RowKit Go.Mem Gf
set_option linter.unusedVariables false
set_option linter.unusedSimpArgs false
attribute [local go_sem ↓] Go.wp_at_zero Go.wp_at_succ
attribute [local go_sem ↓] zY zU zm zf
attribute [local go_sem] ptrB_eq ptrO_eq ptrIs_eq aggL_eq aggIs_eq zS zV zD zF zJ zK zB
set_option maxRecDepth 20000 in
set_option maxHeartbeats 4000000 in
theorem zIR (a b:List UInt8) (w:World) (hT:Tab w) (ha:a.length=32) (hb:b.length=32) :
  Calls Tryz.prog 121 #[.agg (bV a).toArray,.agg (bV b).toArray] w fun e w'=>∃ v',e=.returned v'∧zP 5 w' w.heap.size v' (Wot.text Wot.tNode [a,b])∧Below w.heap.size w w':=by
 have HT:=Lib.hid hT
 clear hT
 obtain ⟨ca,hca⟩:∃ c,c=bV a:=⟨_,rfl⟩
 obtain ⟨cb,hcb⟩:∃ c,c=bV b:=⟨_,rfl⟩
 have hal:ca.length=32:=by rw [hca,zG];exact ha
 have hbl:cb.length=32:=by rw [hcb,zG];exact hb
 have HC:=Lib.hid (And.intro hca hcb)
 rw [← hca,← hcb]
 clear hca hcb
 go_enter Tryz.func121,Tryz.ntmps121
 go_upto_region 1 with fail
 obtain ⟨w1,hw1⟩:∃ q,q=(w.alloc (.cells ca.toArray 34)).alloc (.cells cb.toArray 34):=⟨_,rfl⟩
 obtain ⟨p1,hp1⟩:∃ q,q=w.heap.size:=⟨_,rfl⟩
 obtain ⟨p2,hp2⟩:∃ q,q=w.heap.size+1:=⟨_,rfl⟩
 have hb1:Below w.heap.size w w1:=by rw [hw1];exact ((Below.refl _ _).alloc (Nat.le_refl _) _).alloc (by simp) _
 have hk1:Blk w1 p1 ca.toArray 34:=by rw [hw1,hp1];exact (Blk.new _ _ _).alloc _
 have hk2:Blk w1 p2 cb.toArray 34:=by rw [hw1,hp2];exact Blk.new_at _ _ _ _ (by simp)
 rw [← hw1,← hp2,← hp1]
 have hs1:=hb1.size
 have H1:=Lib.hid (And.intro hb1 (And.intro (show Blk w1 p1 (bV a).toArray 34 from by rw [← HC.out.1];exact hk1) (show Blk w1 p2 (bV b).toArray 34 from by rw [← HC.out.2];exact hk2)))
 clear hw1 hp1 hp2 hb1 hk1 hk2
 refine Tail.zT 2 (fun k=>false) (fun k=>none)
  (fun D z w'=>Below w1.heap.size w1 w')
  (by kernel_rfl) (by kernel_rfl) (fun k hk=>by cases hk) (fun D z z' w' hz h=>h)
  ((Below.refl _ _).drew) (fun z=>?_)
 simp only [List.take_succ_cons,List.take_zero,List.drop_succ_cons,List.drop_zero]
 refine Tail.zI (by rfl) (by rfl) ?_
 apply Exists.intro
 refine ⟨fun w=>?_,?_⟩
 · go_simp <;> with_reducible rfl
 simp only [Act.put,List.setIfInBounds_toArray,List.set_cons_zero,List.set_cons_succ,Nat.reduceAdd,Nat.reduceEqDiff,reduceIte,Option.getD_some,Option.getD_none]
 refine Tail.zI (by rfl) (by rfl) ?_
 apply Exists.intro
 refine ⟨fun w=>?_,?_⟩
 · go_simp <;> with_reducible rfl
 simp only [Act.put,List.setIfInBounds_toArray,List.set_cons_zero,List.set_cons_succ,Nat.reduceAdd,Nat.reduceEqDiff,reduceIte,Option.getD_some,Option.getD_none]
 intro w3 hb3
 have h13:=H1.out.1.trans (hb3.mono hs1)
 have hal:=fun (o:Obj)=>(Below.refl w3.heap.size w3).alloc (Nat.le_refl _) o
 have HAL:=Lib.hid (And.intro (zAg (H1.out.2.1.kept hb3) ha (by decide)) (And.intro (zAg (H1.out.2.2.kept hb3) hb (by decide)) (And.intro (HT.out.below h13) (And.intro hal h13))))
 have hs3:=h13.size
 clear hal hb3 h13 z
 go_wp2_with fail
 refine (zB7 _ _ [a,b] _ (HAL.out.2.2.1.below (HAL.out.2.2.2.1 _)) (zGw (Blk.new _ _ _) (HAL.out.1.below (HAL.out.2.2.2.1 _)) (HAL.out.2.1.below (HAL.out.2.2.2.1 _))) (by decide) ?_).mono ?_
 · exact zAa _ (fun r hr=>by
  simp only [List.mem_cons,List.not_mem_nil,or_false] at hr
  rcases hr with rfl | rfl <;> omega) (show 2≤100 by decide)
 rintro e w4 ⟨v4,rfl,h4,hb4⟩
 go_wp2_with fail
 go_ret
 exact ⟨v4,rfl,h4.mono (by simp;omega),(HAL.out.2.2.2.2.alloc hs3 _).trans (hb4.mono (by simp;omega))⟩
set_option maxRecDepth 20000 in
set_option maxHeartbeats 4000000 in
theorem zIP (a b:List UInt8) (w:World) (hT:Tab w) (ha:a.length=32) (hb:b.length=32) :
  Calls Tryz.prog 115 #[.agg (bV a).toArray,.agg (bV b).toArray] w fun e w'=>e=.returned (.agg (bV (Wot.node a b)).toArray)∧Below w.heap.size w w':=by
 have hx:=fun w1 (hbw:Below w.heap.size w w1)=>zIR a b w1 (hT.below hbw) ha hb
 obtain ⟨ca,hca⟩:∃ c,c=bV a:=⟨_,rfl⟩
 obtain ⟨cb,hcb⟩:∃ c,c=bV b:=⟨_,rfl⟩
 have hal:ca.length=32:=by rw [hca,zG];exact ha
 have hbl:cb.length=32:=by rw [hcb,zG];exact hb
 rw [← hca,← hcb] at hx ⊢
 have HX:=Lib.hid hx
 clear hca hcb hx hT
 go_enter Tryz.func115,Tryz.ntmps115
 go_upto_region 1 with fail
 obtain ⟨w1,hw1⟩:∃ q,q=((w.alloc (.cells ca.toArray 34)).alloc (.cells cb.toArray 34)).alloc (.cells #[Value.int IntKind.u8 0,.int .u8 0,.int .u8 0,.int .u8 0,.int .u8 0,.int .u8 0,.int .u8 0,.int .u8 0,.int .u8 0,.int .u8 0,.int .u8 0,.int .u8 0,.int .u8 0,.int .u8 0,.int .u8 0,.int .u8 0,.int .u8 0,.int .u8 0,.int .u8 0,.int .u8 0,.int .u8 0,.int .u8 0,.int .u8 0,.int .u8 0,.int .u8 0,.int .u8 0,.int .u8 0,.int .u8 0,.int .u8 0,.int .u8 0,.int .u8 0,.int .u8 0] 34):=⟨_,rfl⟩
 obtain ⟨p1,hp1⟩:∃ q,q=w.heap.size:=⟨_,rfl⟩
 obtain ⟨p3,hp3⟩:∃ q,q=w.heap.size+1:=⟨_,rfl⟩
 obtain ⟨p2,hp2⟩:∃ q,q=w.heap.size+1+1:=⟨_,rfl⟩
 have hb1:Below w.heap.size w w1:=by rw [hw1];exact (((Below.refl _ _).alloc (Nat.le_refl _) _).alloc (by simp) _).alloc (by simp;omega) _
 have hk1:Blk w1 p1 ca.toArray 34:=by rw [hw1,hp1];exact ((Blk.new _ _ _).alloc _).alloc _
 have hk3:Blk w1 p3 cb.toArray 34:=by rw [hw1,hp3];exact (Blk.new_at _ _ _ _ (by simp)).alloc _
 have hk2:Blk w1 p2 zH 34:=by rw [hw1,hp2];exact Blk.new_at _ _ _ _ (by simp)
 rw [← hw1,← hp2,← hp3,← hp1]
 have k1:zh 32 w1 p1 0=ca:=zn hk1 hal (fun k _=>by simp)
 have k1':zi 32 w1 p1 0:=zQ hk1 (by simp [hal])
 have k2:zh 32 w1 p3 0=cb:=zn hk3 hbl (fun k _=>by simp)
 have k2':zi 32 w1 p3 0:=zQ hk3 (by simp [hbl])
 have H1:=Lib.hid (And.intro hb1 (And.intro hk2 (show w.heap.size≤p2 by omega)))
 have hpge:=H1.out.2.2
 clear hw1 hp1 hp2 hp3 hb1 hk1 hk2 hk3
 go_wp2_with fail
 refine (HX.out w1 H1.out.1).mono ?_
 rintro e w3 ⟨v3,rfl,h3,hb3⟩
 have H3:=Lib.hid (And.intro h3 hb3)
 have hln:(Wot.text Wot.tNode [a,b]).length≤100000000:=by
  unfold Wot.text
  rw [List.length_append]
  have h1:(Cod.net Wot.tNode).length≤100:=by
   rw [Cod.zAL,show Wot.tNode.length=4 from rfl,Lib.nDigits_small (by decide)]
   decide
  have h2:=zAa [a,b] (fun r hr=>by
   simp only [List.mem_cons,List.not_mem_nil,or_false] at hr
   rcases hr with rfl | rfl <;> omega) (show 2≤100 by decide)
  omega
 clear h3 hb3 k1 k1' k2 k2'
 go_wp2_with fail
 refine (zEE v3 _ w3 H3.out.1.bys hln).mono ?_
 rintro e w4 ⟨rfl,hb4⟩
 rw [show Sha.sum (Wot.text Wot.tNode [a,b])=Wot.node a b from rfl]
 have hb14:Below w1.heap.size w1 w4:=H3.out.2.trans (hb4.mono H3.out.2.size)
 have hb04:=H1.out.1.trans (hb14.mono H1.out.1.size)
 have kz:=H1.out.2.1.kept hb14
 have hlen:(Wot.node a b).length=32:=Wot.tagged_len _ _
 obtain ⟨hq1,hq2,hq3⟩:=zAP (p:=p2) (h:=Wot.node a b) hlen kz
 obtain ⟨co,hco⟩:∃ q,q=bV (Wot.node a b):=⟨_,rfl⟩
 rw [← hco] at hq2 hq3
 try rw [← hco]
 have hcol:co.length=32:=hq2.1
 have HLD:=Lib.hid hq3
 have HM:=Lib.hid (And.intro hco (zAI co hb04 hpge))
 clear hco hq3
 go_wp2_with fail
 refine bodyPost_ret (v:=.agg co.toArray) (by simp [results,Tryz.results115,asAddr,HLD.out]) rfl ⟨by rw [HM.out.1],HM.out.2⟩
set_option maxRecDepth 20000 in
set_option maxHeartbeats 4000000 in
theorem zFA (h:Nat) (r:List UInt8) (w:World) (hT:Tab w) (hh:h≤4) (hr:r.length=32) :
  Calls Tryz.prog 63 #[.int .i64 h,.agg (bV r).toArray] w fun e w'=>∃ v',e=.returned v'∧zP 5 w' w.heap.size v' (Wot.text Wot.tPrint [Cod.be 1 h,r])∧Below w.heap.size w w':=by
 have HT:=Lib.hid hT
 clear hT
 obtain ⟨ca,hca⟩:∃ c,c=bV r:=⟨_,rfl⟩
 have hal:ca.length=32:=by rw [hca,zG];exact hr
 have HC:=Lib.hid hca
 rw [← hca]
 clear hca
 go_enter Tryz.func63,Tryz.ntmps63
 go_upto_region 1 with fail
 obtain ⟨w1,hw1⟩:∃ q,q=w.alloc (.cells ca.toArray 34):=⟨_,rfl⟩
 obtain ⟨p1,hp1⟩:∃ q,q=w.heap.size:=⟨_,rfl⟩
 have hb1:Below w.heap.size w w1:=by rw [hw1];exact (Below.refl _ _).alloc (Nat.le_refl _) _
 have hk1:Blk w1 p1 (bV r).toArray 34:=by rw [hw1,hp1,← HC.out];exact Blk.new _ _ _
 have hs1:=hb1.size
 rw [← hw1,← hp1]
 have H1:=Lib.hid (And.intro hb1 hk1)
 clear hw1 hp1 hb1 hk1
 refine Tail.zT 3 (fun k=>k == 1) (fun k=>none)
  (fun D z w'=>Below w1.heap.size w1 w'∧(D 1=true→zP 5 w' w1.heap.size (z 1) (Cod.be 1 h)))
  (by kernel_rfl) (by kernel_rfl) (fun k hk=>by simp at hk;omega) (fun D z z' w' hz h=>⟨h.1,fun d=>by rw [← hz 1 d];exact h.2 d⟩)
  (⟨(Below.refl _ _).drew,(fun h=>by cases h)⟩) (fun z=>?_)
 simp only [List.take_succ_cons,List.take_zero,List.drop_succ_cons,List.drop_zero]
 refine Tail.zI (by rfl) (by rfl) ?_
 apply Exists.intro
 refine ⟨fun w=>?_,?_⟩
 · go_simp <;> with_reducible rfl
 simp only [Act.put,List.setIfInBounds_toArray,List.set_cons_zero,List.set_cons_succ,Nat.reduceAdd,Nat.reduceEqDiff,reduceIte,Option.getD_some,Option.getD_none]
 refine Tail.zAT (by rfl) (by rfl) ?_ ?_
 · apply Exists.intro
   apply Exists.intro
   refine ⟨fun w'=>?_,?_⟩
   · go_simp <;> exact ⟨rfl,rfl⟩
   intro D z' w' hD hz hd hp hJ
   refine (zFK h 1 (by omega) (by decide) (by decide) w').mono ?_
   rintro e w'' ⟨v,rfl,hv,hb⟩
   refine ⟨v,rfl,fun c hc=>by simp at hc,hJ.1.trans (hb.mono hJ.1.size),fun _=>?_⟩
   simpa [Tail.zAb] using hv.mono hJ.1.size
 simp only [Act.put,List.setIfInBounds_toArray,List.set_cons_zero,List.set_cons_succ,Nat.reduceAdd,Nat.reduceEqDiff,reduceIte,Option.getD_some,Option.getD_none]
 refine Tail.zI (by rfl) (by rfl) ?_
 apply Exists.intro
 refine ⟨fun w=>?_,?_⟩
 · go_simp <;> with_reducible rfl
 simp only [Act.put,List.setIfInBounds_toArray,List.set_cons_zero,List.set_cons_succ,Nat.reduceAdd,Nat.reduceEqDiff,reduceIte,Option.getD_some,Option.getD_none]
 intro w3 hJ
 have h1:=hJ.2 rfl
 have hb3:=hJ.1
 clear hJ
 generalize z 1=v1 at h1 ⊢
 clear z
 obtain ⟨a1,c1,rfl⟩:=h1.eq_slice
 rw [Cod.zt] at h1 ⊢
 have h13:=H1.out.1.trans (hb3.mono hs1)
 have hal:=fun (o:Obj)=>(Below.refl w3.heap.size w3).alloc (Nat.le_refl _) o
 have HAL:=Lib.hid (And.intro h1.bys (And.intro (zAg (H1.out.2.kept hb3) hr (by decide)) (And.intro (HT.out.below h13) (And.intro hal h13))))
 have hs3:=h13.size
 clear hal hb3 h13 h1
 go_wp2_with fail
 refine (zB7 _ _ [Cod.be 1 h,r] _ (HAL.out.2.2.1.below (HAL.out.2.2.2.1 _)) (zGw (Blk.new _ _ _) (HAL.out.1.below (HAL.out.2.2.2.1 _)) (HAL.out.2.1.below (HAL.out.2.2.2.1 _))) (by decide) ?_).mono ?_
 · exact zAa _ (fun r' hr'=>by
  simp only [List.mem_cons,List.not_mem_nil,or_false] at hr'
  rcases hr' with rfl | rfl
  · rw [Cod.zt];decide
  · omega) (show 2≤100 by decide)
 rintro e w4 ⟨v4,rfl,h4,hb4⟩
 go_wp2_with fail
 go_ret
 exact ⟨v4,rfl,h4.mono (by simp;omega),(HAL.out.2.2.2.2.alloc hs3 _).trans (hb4.mono (by simp;omega))⟩
end Go.Proofs.YtdlkghdfkjdajaaGreatDoor
end
section
namespace Go.Mem
open Go Go.RowKit Gf
structure SlV where
 a:Option Addr
 n:Nat
 c:Nat
def SlV.v (s:SlV):Value:=.slice s.a s.n s.c
def eS (s:SlV):List Value:=[s.v]
def WfS (_:SlV):Prop:=True
theorem ecS:zEa eS WfS 1:=⟨fun _ _=>rfl,fun x u hu=>by
 simp only [eS,List.mem_singleton] at hu
 subst hu
 rfl,by decide⟩
theorem zLZ {P:Program} {n:Nat} {t e:TypeId} (hu:P.underlying t=some (.slice e)) (hi:(P.info? e).map (fun i=>(i.size,(i.zero.map (·.cells.size))))=some (n,some n)) (hn:0 < n) (hn2:n≤1000) {o:Oper} {a:Act} (w:World) (x:Operand) (ho:o.op=.buildSlice t 1 #[(0,x)])
  (hy:zBX (a.eval x)=true) (hc:zAS n (zAu (a.eval x))):(execOp a.eval o).run P w=.ok (.value (.slice (some ⟨w.heap.size,0,none⟩) 1 1)) (w.alloc (.cells (zAu (a.eval x)).toArray e)):=by
 cases hie:P.info? e with
 | none=>rw [hie] at hi;cases hi
 | some ie =>
   rw [hie] at hi
   simp only [Option.map_some,Option.some.injEq,Prod.mk.injEq] at hi
   obtain ⟨h1,h2⟩:=hi
   cases hz:ie.zero with
   | none=>rw [hz] at h2;cases h2
   | some z =>
     have hcs:=zFv hy
     have hsz:(a.eval x).cells.size=n:=by rw [hcs];simpa using hc.1
     have hf:=Great.fill_whole (s:=n) hn [a.eval x] ((Array.range (1*n)).map (z.cells[· % z.cells.size]!)) (fun v hv=>by rw [List.mem_singleton.1 hv];exact hsz) (by simp)
     unfold execOp
     have hr:=run_buildSlice (P:=P) w t e 1 #[(0,a.eval x)] (([a.eval x].flatMap fun v=>v.cells.toList).toArray) ie z hu hie hz (by rw [h1];omega) (by rw [h1];omega) (by rw [h1];exact hf)
     simp only [ho,List.map_toArray,List.map_cons,List.map_nil,Sem.run_bind,hr,Result.andThen_ok]
     simp only [List.flatMap_cons,List.flatMap_nil,List.append_nil,hcs]
     rfl
theorem zEG {P:Program} {n:Nat} {t e:TypeId} (hu:P.underlying t=some (.slice e)) (hi:(P.info? e).map (fun i=>(i.size,(i.zero.map (·.cells.size))))=some (n,some n)) (hn:0 < n) (hn2:n≤1000) {o:Oper} {a:Act} (w:World) (x:Operand) (ho:o.op=.buildSlice t 1 #[(0,x)])
  (cs:List Value) (hx:a.eval x=.agg cs.toArray) (hc:zAS n cs):(execOp a.eval o).run P w=.ok (.value (.slice (some ⟨w.heap.size,0,none⟩) 1 1)) (w.alloc (.cells cs.toArray e)):=by
 have e1:zAu (a.eval x)=cs:=by rw [hx];simp [zAu]
 have:=zLZ hu hi hn hn2 (o:=o) (a:=a) w x ho (by rw [hx];rfl) (by rw [e1];exact hc)
 rw [e1] at this
 exact this
theorem zFF {α β:Type} {e1:α→List Value} {W1:α→Prop} {k1:Nat} {t1:TypeId} {e2:β→List Value} {W2:β→Prop} {k2:Nat} {t2:TypeId} {w:World} {b1 b2:Nat} {v1 v2:Value} {l1:List α} {l2:List β} (h1:zL e1 W1 k1 t1 w b1 v1 l1) (h2:zL e2 W2 k2 t2 w b2 v2 l2) (hne:t1≠t2) {g:Nat} (hg:v1.ownBlock=some g):v2.ownBlock≠some g:=fun hg2=>by
 rcases h1.own.2 with ⟨e,_⟩ | ⟨g1,c1,r1,e,_,hh1,_⟩
 · rw [e] at hg;cases hg
 · rcases h2.own.2 with ⟨e',_⟩ | ⟨g2,c2,r2,e',_,hh2,_⟩
   · rw [e'] at hg2;cases hg2
   · rw [e] at hg
     rw [e'] at hg2
     injection hg with hg
     injection hg2 with hg2
     have a1:g1=g:=hg
     have a2:g2=g:=hg2
     rw [a1] at hh1
     rw [a2,hh1] at hh2
     injection hh2 with hh2
     injection hh2 with _ hh2
     exact hne hh2
theorem zLM {α:Type} {enc:α→List Value} {Wf:α→Prop} {t:TypeId} {w:World} {base:Nat} (x:α) (u:Value) (he:enc x=[u]) (hx:Wf x) (hb:base≤w.heap.size):zL enc Wf 1 t (w.alloc (.cells #[u] t)) base (.slice (some ⟨w.heap.size,0,none⟩) 1 1) [x] :=
 ⟨⟨by rw [show zBd enc [x]=enc x from by simp [zBd],he];rfl,.inr ⟨w.heap.size,1,#[u],rfl,hb,heap_alloc_new w _,Nat.le_refl _,by decide,rfl,by rw [show zBd enc [x]=enc x from by simp [zBd],he];rfl⟩⟩,fun y hy=>by rw [List.mem_singleton.1 hy];exact hx⟩
end Go.Mem
namespace Go.Proofs.YtdlkghdfkjdajaaGreatDoor
open Go Go.RowKit Go.Mem Gf
set_option linter.unusedVariables false
set_option linter.unusedSimpArgs false
theorem EKs:zCf Tryz.prog 149 46 (.slice none 0 0) 1 24:=⟨Tryz.underlying149,by kernel_rfl,rfl,by decide⟩
def zBr (w:World) (base:Nat) (v:Value) (ls:List (List (List UInt8))):Prop:=∃ ss:List SlV,zL eS WfS 1 46 w base v ss∧ss.length=ls.length∧∀ (j:Nat) (s:SlV) (l:List (List UInt8)),ss[j]?=some s→ls[j]?=some l→zL bV WfH 32 34 w base s.v l
theorem zBr.below {w w':World} {base:Nat} {v:Value} {ls:List (List (List UInt8))} (h:zBr w base v ls) (hb:Below w.heap.size w w'):zBr w' base v ls:=by
 obtain ⟨ss,h1,h2,h3⟩:=h
 exact ⟨ss,h1.chg (S:=fun _=>False) (Chg.of_below hb) (fun _ _=>id),h2,fun j s l hs hl=>(h3 j s l hs hl).chg (S:=fun _=>False) (Chg.of_below hb) (fun _ _=>id)⟩
theorem zBr.at {w:World} {base:Nat} {v:Value} {ls:List (List (List UInt8))} (h:zBr w base v ls) {j:Nat} {l:List (List UInt8)} (hl:ls[j]?=some l):∃ g cap u,v=.slice (some ⟨g,0,none⟩) ls.length cap∧w.cell? ⟨g,j,none⟩=some u∧zL bV WfH 32 34 w base u l:=by
 obtain ⟨ss,h1,h2,h3⟩:=h
 have hj:=zBW hl
 obtain ⟨s,hs⟩:∃ s,ss[j]?=some s:=⟨_,List.getElem?_eq_getElem (by omega)⟩
 obtain ⟨g,cap,e,hr⟩:=h1.ex (by omega)
 refine ⟨g,cap,s.v,by rw [← h2];exact e,?_,h3 j s l hs hl⟩
 have:=hr.cell (j:=j) (by omega)
 rw [this]
 have h4:=zCC ecS ss (fun _ _=>trivial) j s hs 0 (by decide)
 rw [Nat.mul_one,Nat.add_zero] at h4
 rw [h4]
 rfl
theorem zBr.push {w w':World} {base:Nat} {v v':Value} {ls:List (List (List UInt8))} {ss:List SlV} {s:SlV} {l:List (List UInt8)} (ho:zL eS WfS 1 46 w base v ss) (h2:ss.length=ls.length) (h3:∀ (j:Nat) (s:SlV) (l:List (List UInt8)),ss[j]?=some s→ls[j]?=some l→zL bV WfH 32 34 w base s.v l)
  (hs:zL bV WfH 32 34 w base s.v l) (h1:zL eS WfS 1 46 w' base v' (ss++[s])) (hg:w.grownBy w' v.ownBlock):zBr w' base v' (ls++[l]):=by
 refine ⟨ss++[s],h1,by rw [List.length_append,List.length_append,h2];rfl,fun j s' l' hs' hl'=>?_⟩
 have key:zL bV WfH 32 34 w base s'.v l':=by
  rcases Nat.lt_or_ge j ss.length with hj | hj
  · rw [List.getElem?_append_left hj] at hs'
    rw [List.getElem?_append_left (by omega)] at hl'
    exact h3 j s' l' hs' hl'
  · rw [List.getElem?_append_right hj] at hs'
    rw [List.getElem?_append_right (by omega)] at hl'
    have e:j - ss.length=j - ls.length:=by omega
    rw [e] at hs'
    cases hq:j - ls.length with
    | zero =>
      rw [hq] at hs' hl'
      simp at hs' hl'
      subst hs' hl'
      exact hs
    | succ q=>rw [hq] at hs';simp at hs'
 exact key.grown hg (fun g hg'=>zFF key ho (by decide) hg')
theorem zBr.one {w:World} {base:Nat} {a:Option Addr} {n c:Nat} {l:List (List UInt8)} (h:zL bV WfH 32 34 w base (.slice a n c) l) (hb:base≤w.heap.size):zBr (w.alloc (.cells #[.slice a n c] 46)) base (.slice (some ⟨w.heap.size,0,none⟩) 1 1) [l] :=
 ⟨[⟨a,n,c⟩],zLM _ _ rfl trivial hb,rfl,fun j s l' hs hl=>by
   cases j with
   | zero =>
     simp at hs hl
     subst hs hl
     exact h.chg (S:=fun _=>False) (Chg.of_below ((Below.refl _ _).alloc (Nat.le_refl _) _)) (fun _ _=>id)
   | succ j=>simp at hs⟩
attribute [local go_sem ↓] Go.wp_at_zero Go.wp_at_succ
attribute [local go_sem ↓] zY zU zm zf
attribute [local go_sem] ptrB_eq ptrO_eq ptrIs_eq aggL_eq aggIs_eq zS zV zD zF zJ zK zB
set_option maxRecDepth 20000 in
set_option maxHeartbeats 1000000 in
theorem zJS (k:Nat) (w:World) (hk:k≤4) :
  Calls Tryz.prog 114 #[.int .i64 ((2 ^ k:Nat):Int)] w fun e w'=>e=.returned (.int .i64 ((2 ^ k:Nat):Int))∧w=w':=by
 obtain ⟨n,hn⟩:∃ n,n=2 ^ k:=⟨_,rfl⟩
 rw [← hn]
 have hnb:n≤16:=by rw [hn];exact Nat.pow_le_pow_right (by decide) hk
 have HN:=Lib.hid hn
 clear hn
 go_enter Tryz.func114,Tryz.ntmps114
 go_wp2_with fail
 go_loopw [3] (fun u wr=>∃ i:Nat,i≤k∧u=.int .i64 ((2 ^ i:Nat):Int)∧w=wr) (fun u _=>16 - (intOf u).toNat)
 case atStart=>exact ⟨0,Nat.zero_le _,rfl,rfl⟩
 case round =>
  obtain ⟨i,hi,rfl,rfl⟩:=hrel
  obtain ⟨p,hp⟩:∃ p,p=2 ^ i:=⟨_,rfl⟩
  rw [← hp]
  by_cases h0:i < k
  · have hlt:p < n:=by rw [hp,HN.out];exact Nat.pow_lt_pow_right (by decide) h0
    have hp1:0 < p:=by rw [hp];exact Nat.pow_pos (by decide)
    have HP:=Lib.hid hp
    have i1:(p:Int) < (n:Int):=by omega
    have i2:(p:Int) < 4611686018427387904:=by omega
    have q1:IntKind.i64.wrap (2*(p:Int))=((2*p:Nat):Int):=by rw [IntWalk.i64_in _ (by omega)];omega
    clear hp
    go_wp2
    exact ⟨⟨i+1,by omega,by rw [Nat.pow_succ,← HP.out];congr 1;omega,by trivial⟩,by simp [intOf];omega⟩
  · obtain rfl:i=k:=by omega
    rw [← HN.out] at hp
    subst hp
    have i1:¬ (p:Int) < (p:Int):=by omega
    go_wp2
    go_ret
    exact ⟨rfl,rfl⟩
end Go.Proofs.YtdlkghdfkjdajaaGreatDoor
end
