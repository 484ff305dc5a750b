/- Texts of this proof,packed: RTag,RWots,RDigits,REnds,RClimb,RVerify,KeyVer. -/
import Derived.Test.YtdlkghdfkjdajaaGreatDoorPkP08
import Derived.Test.YtdlkghdfkjdajaaGreatDoorPkP14
import Derived.Test.YtdlkghdfkjdajaaGreatDoorPkP13
import Derived.Test.YtdlkghdfkjdajaaGreatDoorPkP09
import Derived.Lib.SlBytesConst
import Derived.Test.YtdlkghdfkjdajaaGreatDoorPkP12
section
namespace Go.Proofs.YtdlkghdfkjdajaaGreatDoor
open Go Go.RowKit Go.Mem Gf
set_option linter.unusedVariables false
set_option linter.unusedSimpArgs false
attribute [local go_sem ↓] Go.wp_at_zero Go.wp_at_succ
attribute [local go_sem ↓] zY zU zm zf
attribute [local go_sem] ptrB_eq ptrO_eq ptrIs_eq aggL_eq aggIs_eq zS zV zD zF zJ zK zB
set_option maxRecDepth 20000 in
set_option maxHeartbeats 2000000 in
theorem zBz (tag:ByteArray) (v:Value) (rows:List (List UInt8)) (w:World) (hT:Tab w) (h:Rws w v rows) (hn:tag.size≤1000) (hl:(Cod.zAU rows).length≤10000000) :
  Calls Tryz.prog 57 #[.string tag,v] w fun e w'=>∃ v',e=.returned v'∧zP 5 w' w.heap.size v' (Wot.text tag.data.toList rows)∧Below w.heap.size w w':=by
 have hconv:=Lib.run_convert_string_bytes (P:=Tryz.prog) w 9 41 5 tag Tryz.underlying9 Tryz.underlying41 Tryz.underlying5
 obtain ⟨ho,hb1⟩:=zBl w 5 tag (zAC (by omega))
 obtain ⟨w1,hw1⟩:∃ w1,w1=Lib.bytesWorld w 5 tag:=⟨_,rfl⟩
 rw [← hw1] at ho hb1 hconv
 obtain ⟨va,vc,rfl⟩:=h.eq_slice
 obtain ⟨n,hnn⟩:∃ n,n=rows.length:=⟨_,rfl⟩
 rw [← hnn] at h ⊢
 have hdl:tag.data.toList.length≤1000:=by rw [Array.length_toList];exact hn
 have HO:=Lib.hid ho;have HB1:=Lib.hid hb1;have HR:=Lib.hid (And.intro h (And.intro hT hl))
 have hs1:=hb1.size
 clear hw1 ho hb1 h hT hnn
 go_enter Tryz.func57,Tryz.ntmps57
 go_wp2_with fail
 refine (zCT _ tag.data.toList w1 HO.out.bys (by omega)).mono ?_
 rintro e w2 ⟨nv,rfl,hnv,hb2⟩
 have hb12:=HB1.out.trans (hb2.mono hs1)
 have hs2:=hb12.size
 have hs12:=hb2.size
 have HN:=Lib.hid hnv;have HB12:=Lib.hid hb12
 obtain ⟨na,nc,rfl⟩:=hnv.eq_slice
 clear hconv hb2 hb12 hnv
 go_wp2_with fail
 refine (zEQ _ rows w2 (HR.out.1.below HB12.out) (by omega)).mono ?_
 rintro e w3 ⟨sv,rfl,hsv,hb3⟩
 have HS:=Lib.hid (And.intro hsv hb3)
 have hln:(Cod.net tag.data.toList).length≤2000:=by
  rw [Cod.zAL]
  have h3:Lib.nDigits tag.data.toList.length≤9:=by have:=zAw tag.data.toList.length (by omega);rw [Lib.itoa_nonneg,Lib.decDigits_length] at this;exact this
  omega
 have hls:=HR.out.2.2
 have hs23:=hb3.size
 clear hsv hb3
 go_wp2_with (at_builtin;refine zBL E8 rfl _ _ rfl (base:=w1.heap.size) (bs:=Cod.net tag.data.toList) (news:=Cod.zAU rows) rfl rfl (HN.out.below HS.out.2) HS.out.1.bys (by omega) (by omega) ?_)
 intro v4 w4 h4 hg4
 go_wp2
 go_ret
 have hg:=Chg.grown (S:=fun b=>(w1.heap.size≤b)) (Chg.refl _ w3) hg4 (fun b hb=>.inl ((HN.out.below HS.out.2).lt b hb).1)
 exact ⟨_,rfl,h4.mono hs1,(HB12.out.trans (HS.out.2.mono hs2)).trans (hg.below (by omega) (fun k (hk:w1.heap.size≤k)=>by omega))⟩
set_option maxRecDepth 20000 in
set_option maxHeartbeats 2000000 in
theorem zDI (tag:ByteArray) (v:Value) (rows:List (List UInt8)) (w:World) (hT:Tab w) (h:Rws w v rows) (hn:tag.size≤1000) (hl:(Cod.zAU rows).length≤900000) :
  Calls Tryz.prog 91 #[.string tag,v] w fun e w'=>e=.returned (.agg (bV (Wot.tagged tag.data.toList rows)).toArray)∧Below w.heap.size w w':=by
 have hx:=fun w1 (hb:Below w.heap.size w w1)=>zBz tag v rows w1 (hT.below hb) (h.below hb) hn (by omega)
 obtain ⟨va,vc,rfl⟩:=h.eq_slice
 have hdl:tag.data.toList.length≤1000:=by rw [Array.length_toList];exact hn
 have hln:(Wot.text tag.data.toList rows).length≤1000000:=by
  unfold Wot.text
  rw [List.length_append,Cod.zAL]
  have h3:Lib.nDigits tag.data.toList.length≤9:=by have:=zAw tag.data.toList.length (by omega);rw [Lib.itoa_nonneg,Lib.decDigits_length] at this;exact this
  omega
 obtain ⟨n,hnn⟩:∃ n,n=rows.length:=⟨_,rfl⟩
 rw [← hnn] at hx ⊢
 have HX:=Lib.hid hx
 clear hnn h hT hn hl hdl hx
 go_enter Tryz.func91,Tryz.ntmps91
 go_upto_region 1 with fail
 obtain ⟨w1,hw1⟩:∃ q,q=w.alloc (.cells #[Value.int IntKind.u8 0,.int .u8 0,.int .u8 0,.int .u8 0,.int .u8 0,.int .u8 0,.int .u8 0,.int .u8 0,.int .u8 0,.int .u8 0,.int .u8 0,.int .u8 0,.int .u8 0,.int .u8 0,.int .u8 0,.int .u8 0,.int .u8 0,.int .u8 0,.int .u8 0,.int .u8 0,.int .u8 0,.int .u8 0,.int .u8 0,.int .u8 0,.int .u8 0,.int .u8 0,.int .u8 0,.int .u8 0,.int .u8 0,.int .u8 0,.int .u8 0,.int .u8 0] 34):=⟨_,rfl⟩
 obtain ⟨p2,hp2⟩:∃ q,q=w.heap.size:=⟨_,rfl⟩
 have hb1:Below w.heap.size w w1:=by rw [hw1];exact (Below.refl _ _).alloc (Nat.le_refl _) _
 have hk1:Blk w1 p2 zH 34:=by rw [hw1,hp2];exact Blk.new _ _ _
 rw [← hw1,← hp2]
 have H1:=Lib.hid (And.intro hb1 (And.intro hk1 (show w.heap.size≤p2 from Nat.le_of_eq hp2.symm)))
 clear hw1 hp2 hb1 hk1
 go_wp2_with fail
 refine (HX.out w1 H1.out.1).mono ?_
 rintro e w2 ⟨v1,rfl,h1,hb2⟩
 have H2:=Lib.hid (And.intro h1 hb2)
 clear h1 hb2
 go_wp2_with fail
 refine (zBI v1 _ w2 H2.out.1.bys hln).mono ?_
 rintro e w3 ⟨rfl,hb3⟩
 have hb13:=H2.out.2.trans (hb3.mono H2.out.2.size)
 have hb03:=H1.out.1.trans (hb13.mono H1.out.1.size)
 have kz:=H1.out.2.1.kept hb13
 have hpge:=H1.out.2.2
 have hlen:=Wot.tagged_len tag.data.toList rows
 rw [show Sha.sum (Wot.text tag.data.toList rows)=Wot.tagged tag.data.toList rows from rfl]
 obtain ⟨hq1,hq2,hq3⟩:=zAP (p:=p2) (h:=Wot.tagged tag.data.toList rows) hlen kz
 obtain ⟨co,hco⟩:∃ q,q=bV (Wot.tagged tag.data.toList rows):=⟨_,rfl⟩
 rw [← hco] at hq2 hq3 ⊢
 have hcol:co.length=32:=hq2.1
 have HLD:=Lib.hid hq3
 have HM:=Lib.hid (And.intro hco (zAI co hb03 hpge))
 clear hco hq3
 go_wp2_with fail
 refine bodyPost_ret (v:=.agg co.toArray) (by simp [results,Tryz.results91,asAddr,HLD.out]) rfl ⟨by rw [HM.out.1],HM.out.2⟩
theorem zBR (rows:List (List UInt8)) (h:∀ r∈rows,r.length≤1000) (hn:rows.length≤100):(Cod.zAU rows).length≤900000:=by
 have:∀ (rows:List (List UInt8)),(∀ r∈rows,r.length≤1000)→(Cod.zAU rows).length≤1011*rows.length:=by
  intro rows
  induction rows with
  | nil=>exact fun _=>Nat.zero_le _
  | cons r rows ih =>
    intro h
    have h1:=ih (fun x hx=>h x (List.mem_cons_of_mem _ hx))
    have h2:=h r List.mem_cons_self
    have h3:Lib.nDigits r.length≤9:=by have:=zAw r.length (by omega);rw [Lib.itoa_nonneg,Lib.decDigits_length] at this;exact this
    have h4:Cod.zAU (r::rows)=Cod.net r++Cod.zAU rows:=rfl
    rw [h4,List.length_append,Cod.zAL,List.length_cons]
    omega
 have:=this rows h
 omega
set_option maxRecDepth 20000 in
set_option maxHeartbeats 4000000 in
theorem zGb (a b:List UInt8) (w:World) (hT:Tab w) (ha:a.length=32) (hb:b.length=32) :
  Calls Tryz.prog 105 #[.agg (bV a).toArray,.agg (bV b).toArray] w fun e w'=>∃ v',e=.returned v'∧zP 5 w' w.heap.size v' (Wot.text Wot.tNode [a,b])∧Below w.heap.size w w':=by
 have HT:=Lib.hid hT
 clear hT
 obtain ⟨ca,hca⟩:∃ c,c=bV a:=⟨_,rfl⟩
 obtain ⟨cb,hcb⟩:∃ c,c=bV b:=⟨_,rfl⟩
 have hal:ca.length=32:=by rw [hca,zG];exact ha
 have hbl:cb.length=32:=by rw [hcb,zG];exact hb
 have HC:=Lib.hid (And.intro hca hcb)
 rw [← hca,← hcb]
 clear hca hcb
 go_enter Tryz.func105,Tryz.ntmps105
 go_upto_region 1 with fail
 obtain ⟨w1,hw1⟩:∃ q,q=(w.alloc (.cells ca.toArray 34)).alloc (.cells cb.toArray 34):=⟨_,rfl⟩
 obtain ⟨p1,hp1⟩:∃ q,q=w.heap.size:=⟨_,rfl⟩
 obtain ⟨p2,hp2⟩:∃ q,q=w.heap.size+1:=⟨_,rfl⟩
 have hb1:Below w.heap.size w w1:=by rw [hw1];exact ((Below.refl _ _).alloc (Nat.le_refl _) _).alloc (by simp) _
 have hk1:Blk w1 p1 ca.toArray 34:=by rw [hw1,hp1];exact (Blk.new _ _ _).alloc _
 have hk2:Blk w1 p2 cb.toArray 34:=by rw [hw1,hp2];exact Blk.new_at _ _ _ _ (by simp)
 rw [← hw1,← hp2,← hp1]
 have hs1:=hb1.size
 have H1:=Lib.hid (And.intro hb1 (And.intro (show Blk w1 p1 (bV a).toArray 34 from by rw [← HC.out.1];exact hk1) (show Blk w1 p2 (bV b).toArray 34 from by rw [← HC.out.2];exact hk2)))
 clear hw1 hp1 hp2 hb1 hk1 hk2
 refine Tail.zT 2 (fun k=>false) (fun k=>none)
  (fun D z w'=>Below w1.heap.size w1 w')
  (by kernel_rfl) (by kernel_rfl) (fun k hk=>by cases hk) (fun D z z' w' hz h=>h)
  ((Below.refl _ _).drew) (fun z=>?_)
 simp only [List.take_succ_cons,List.take_zero,List.drop_succ_cons,List.drop_zero]
 refine Tail.zI (by rfl) (by rfl) ?_
 apply Exists.intro
 refine ⟨fun w=>?_,?_⟩
 · go_simp <;> with_reducible rfl
 simp only [Act.put,List.setIfInBounds_toArray,List.set_cons_zero,List.set_cons_succ,Nat.reduceAdd,Nat.reduceEqDiff,reduceIte,Option.getD_some,Option.getD_none]
 refine Tail.zI (by rfl) (by rfl) ?_
 apply Exists.intro
 refine ⟨fun w=>?_,?_⟩
 · go_simp <;> with_reducible rfl
 simp only [Act.put,List.setIfInBounds_toArray,List.set_cons_zero,List.set_cons_succ,Nat.reduceAdd,Nat.reduceEqDiff,reduceIte,Option.getD_some,Option.getD_none]
 intro w3 hb3
 have h13:=H1.out.1.trans (hb3.mono hs1)
 have hal:=fun (o:Obj)=>(Below.refl w3.heap.size w3).alloc (Nat.le_refl _) o
 have HAL:=Lib.hid (And.intro (zAg (H1.out.2.1.kept hb3) ha (by decide)) (And.intro (zAg (H1.out.2.2.kept hb3) hb (by decide)) (And.intro (HT.out.below h13) (And.intro hal h13))))
 have hs3:=h13.size
 clear hal hb3 h13 z
 go_wp2_with fail
 refine (zBz _ _ [a,b] _ (HAL.out.2.2.1.below (HAL.out.2.2.2.1 _)) (zGw (Blk.new _ _ _) (HAL.out.1.below (HAL.out.2.2.2.1 _)) (HAL.out.2.1.below (HAL.out.2.2.2.1 _))) (by decide) ?_).mono ?_
 · exact zAa _ (fun r hr=>by
  simp only [List.mem_cons,List.not_mem_nil,or_false] at hr
  rcases hr with rfl | rfl <;> omega) (show 2≤100 by decide)
 rintro e w4 ⟨v4,rfl,h4,hb4⟩
 go_wp2_with fail
 go_ret
 exact ⟨v4,rfl,h4.mono (by simp;omega),(HAL.out.2.2.2.2.alloc hs3 _).trans (hb4.mono (by simp;omega))⟩
set_option maxRecDepth 20000 in
set_option maxHeartbeats 4000000 in
theorem zHe (a b:List UInt8) (w:World) (hT:Tab w) (ha:a.length=32) (hb:b.length=32) :
  Calls Tryz.prog 76 #[.agg (bV a).toArray,.agg (bV b).toArray] w fun e w'=>e=.returned (.agg (bV (Wot.node a b)).toArray)∧Below w.heap.size w w':=by
 have hx:=fun w1 (hbw:Below w.heap.size w w1)=>zGb a b w1 (hT.below hbw) ha hb
 obtain ⟨ca,hca⟩:∃ c,c=bV a:=⟨_,rfl⟩
 obtain ⟨cb,hcb⟩:∃ c,c=bV b:=⟨_,rfl⟩
 have hal:ca.length=32:=by rw [hca,zG];exact ha
 have hbl:cb.length=32:=by rw [hcb,zG];exact hb
 rw [← hca,← hcb] at hx ⊢
 have HX:=Lib.hid hx
 clear hca hcb hx hT
 go_enter Tryz.func76,Tryz.ntmps76
 go_upto_region 1 with fail
 obtain ⟨w1,hw1⟩:∃ q,q=((w.alloc (.cells ca.toArray 34)).alloc (.cells cb.toArray 34)).alloc (.cells #[Value.int IntKind.u8 0,.int .u8 0,.int .u8 0,.int .u8 0,.int .u8 0,.int .u8 0,.int .u8 0,.int .u8 0,.int .u8 0,.int .u8 0,.int .u8 0,.int .u8 0,.int .u8 0,.int .u8 0,.int .u8 0,.int .u8 0,.int .u8 0,.int .u8 0,.int .u8 0,.int .u8 0,.int .u8 0,.int .u8 0,.int .u8 0,.int .u8 0,.int .u8 0,.int .u8 0,.int .u8 0,.int .u8 0,.int .u8 0,.int .u8 0,.int .u8 0,.int .u8 0] 34):=⟨_,rfl⟩
 obtain ⟨p1,hp1⟩:∃ q,q=w.heap.size:=⟨_,rfl⟩
 obtain ⟨p3,hp3⟩:∃ q,q=w.heap.size+1:=⟨_,rfl⟩
 obtain ⟨p2,hp2⟩:∃ q,q=w.heap.size+1+1:=⟨_,rfl⟩
 have hb1:Below w.heap.size w w1:=by rw [hw1];exact (((Below.refl _ _).alloc (Nat.le_refl _) _).alloc (by simp) _).alloc (by simp;omega) _
 have hk1:Blk w1 p1 ca.toArray 34:=by rw [hw1,hp1];exact ((Blk.new _ _ _).alloc _).alloc _
 have hk3:Blk w1 p3 cb.toArray 34:=by rw [hw1,hp3];exact (Blk.new_at _ _ _ _ (by simp)).alloc _
 have hk2:Blk w1 p2 zH 34:=by rw [hw1,hp2];exact Blk.new_at _ _ _ _ (by simp)
 rw [← hw1,← hp2,← hp3,← hp1]
 have k1:zh 32 w1 p1 0=ca:=zn hk1 hal (fun k _=>by simp)
 have k1':zi 32 w1 p1 0:=zQ hk1 (by simp [hal])
 have k2:zh 32 w1 p3 0=cb:=zn hk3 hbl (fun k _=>by simp)
 have k2':zi 32 w1 p3 0:=zQ hk3 (by simp [hbl])
 have H1:=Lib.hid (And.intro hb1 (And.intro hk2 (show w.heap.size≤p2 by omega)))
 have hpge:=H1.out.2.2
 clear hw1 hp1 hp2 hp3 hb1 hk1 hk2 hk3
 go_wp2_with fail
 refine (HX.out w1 H1.out.1).mono ?_
 rintro e w3 ⟨v3,rfl,h3,hb3⟩
 have H3:=Lib.hid (And.intro h3 hb3)
 have hln:(Wot.text Wot.tNode [a,b]).length≤1000000:=by
  unfold Wot.text
  rw [List.length_append]
  have h1:(Cod.net Wot.tNode).length≤100:=by
   rw [Cod.zAL,show Wot.tNode.length=4 from rfl,Lib.nDigits_small (by decide)]
   decide
  have h2:=zBR [a,b] (fun r hr=>by
   simp only [List.mem_cons,List.not_mem_nil,or_false] at hr
   rcases hr with rfl | rfl <;> omega) (show 2≤100 by decide)
  omega
 clear h3 hb3 k1 k1' k2 k2'
 go_wp2_with fail
 refine (zBI v3 _ w3 H3.out.1.bys hln).mono ?_
 rintro e w4 ⟨rfl,hb4⟩
 rw [show Sha.sum (Wot.text Wot.tNode [a,b])=Wot.node a b from rfl]
 have hb14:Below w1.heap.size w1 w4:=H3.out.2.trans (hb4.mono H3.out.2.size)
 have hb04:=H1.out.1.trans (hb14.mono H1.out.1.size)
 have kz:=H1.out.2.1.kept hb14
 have hlen:(Wot.node a b).length=32:=Wot.tagged_len _ _
 obtain ⟨hq1,hq2,hq3⟩:=zAP (p:=p2) (h:=Wot.node a b) hlen kz
 obtain ⟨co,hco⟩:∃ q,q=bV (Wot.node a b):=⟨_,rfl⟩
 rw [← hco] at hq2 hq3
 try rw [← hco]
 have hcol:co.length=32:=hq2.1
 have HLD:=Lib.hid hq3
 have HM:=Lib.hid (And.intro hco (zAI co hb04 hpge))
 clear hco hq3
 go_wp2_with fail
 refine bodyPost_ret (v:=.agg co.toArray) (by simp [results,Tryz.results76,asAddr,HLD.out]) rfl ⟨by rw [HM.out.1],HM.out.2⟩
set_option maxRecDepth 20000 in
set_option maxHeartbeats 4000000 in
theorem zE1 (h:Nat) (r:List UInt8) (w:World) (hT:Tab w) (hh:h≤4) (hr:r.length=32) :
  Calls Tryz.prog 32 #[.int .i64 h,.agg (bV r).toArray] w fun e w'=>∃ v',e=.returned v'∧zP 5 w' w.heap.size v' (Wot.text Wot.tPrint [Cod.be 1 h,r])∧Below w.heap.size w w':=by
 have HT:=Lib.hid hT
 clear hT
 obtain ⟨ca,hca⟩:∃ c,c=bV r:=⟨_,rfl⟩
 have hal:ca.length=32:=by rw [hca,zG];exact hr
 have HC:=Lib.hid hca
 rw [← hca]
 clear hca
 go_enter Tryz.func32,Tryz.ntmps32
 go_upto_region 1 with fail
 obtain ⟨w1,hw1⟩:∃ q,q=w.alloc (.cells ca.toArray 34):=⟨_,rfl⟩
 obtain ⟨p1,hp1⟩:∃ q,q=w.heap.size:=⟨_,rfl⟩
 have hb1:Below w.heap.size w w1:=by rw [hw1];exact (Below.refl _ _).alloc (Nat.le_refl _) _
 have hk1:Blk w1 p1 (bV r).toArray 34:=by rw [hw1,hp1,← HC.out];exact Blk.new _ _ _
 have hs1:=hb1.size
 rw [← hw1,← hp1]
 have H1:=Lib.hid (And.intro hb1 hk1)
 clear hw1 hp1 hb1 hk1
 refine Tail.zT 3 (fun k=>k == 1) (fun k=>none)
  (fun D z w'=>Below w1.heap.size w1 w'∧(D 1=true→zP 5 w' w1.heap.size (z 1) (Cod.be 1 h)))
  (by kernel_rfl) (by kernel_rfl) (fun k hk=>by simp at hk;omega) (fun D z z' w' hz h=>⟨h.1,fun d=>by rw [← hz 1 d];exact h.2 d⟩)
  (⟨(Below.refl _ _).drew,(fun h=>by cases h)⟩) (fun z=>?_)
 simp only [List.take_succ_cons,List.take_zero,List.drop_succ_cons,List.drop_zero]
 refine Tail.zI (by rfl) (by rfl) ?_
 apply Exists.intro
 refine ⟨fun w=>?_,?_⟩
 · go_simp <;> with_reducible rfl
 simp only [Act.put,List.setIfInBounds_toArray,List.set_cons_zero,List.set_cons_succ,Nat.reduceAdd,Nat.reduceEqDiff,reduceIte,Option.getD_some,Option.getD_none]
 refine Tail.zAT (by rfl) (by rfl) ?_ ?_
 · apply Exists.intro
   apply Exists.intro
   refine ⟨fun w'=>?_,?_⟩
   · go_simp <;> exact ⟨rfl,rfl⟩
   intro D z' w' hD hz hd hp hJ
   refine (zEC h 1 (by omega) (by decide) (by decide) w').mono ?_
   rintro e w'' ⟨v,rfl,hv,hb⟩
   refine ⟨v,rfl,fun c hc=>by simp at hc,hJ.1.trans (hb.mono hJ.1.size),fun _=>?_⟩
   simpa [Tail.zAb] using hv.mono hJ.1.size
 simp only [Act.put,List.setIfInBounds_toArray,List.set_cons_zero,List.set_cons_succ,Nat.reduceAdd,Nat.reduceEqDiff,reduceIte,Option.getD_some,Option.getD_none]
 refine Tail.zI (by rfl) (by rfl) ?_
 apply Exists.intro
 refine ⟨fun w=>?_,?_⟩
 · go_simp <;> with_reducible rfl
 simp only [Act.put,List.setIfInBounds_toArray,List.set_cons_zero,List.set_cons_succ,Nat.reduceAdd,Nat.reduceEqDiff,reduceIte,Option.getD_some,Option.getD_none]
 intro w3 hJ
 have h1:=hJ.2 rfl
 have hb3:=hJ.1
 clear hJ
 generalize z 1=v1 at h1 ⊢
 clear z
 obtain ⟨a1,c1,rfl⟩:=h1.eq_slice
 rw [Cod.zt] at h1 ⊢
 have h13:=H1.out.1.trans (hb3.mono hs1)
 have hal:=fun (o:Obj)=>(Below.refl w3.heap.size w3).alloc (Nat.le_refl _) o
 have HAL:=Lib.hid (And.intro h1.bys (And.intro (zAg (H1.out.2.kept hb3) hr (by decide)) (And.intro (HT.out.below h13) (And.intro hal h13))))
 have hs3:=h13.size
 clear hal hb3 h13 h1
 go_wp2_with fail
 refine (zBz _ _ [Cod.be 1 h,r] _ (HAL.out.2.2.1.below (HAL.out.2.2.2.1 _)) (zGw (Blk.new _ _ _) (HAL.out.1.below (HAL.out.2.2.2.1 _)) (HAL.out.2.1.below (HAL.out.2.2.2.1 _))) (by decide) ?_).mono ?_
 · exact zAa _ (fun r' hr'=>by
  simp only [List.mem_cons,List.not_mem_nil,or_false] at hr'
  rcases hr' with rfl | rfl
  · rw [Cod.zt];decide
  · omega) (show 2≤100 by decide)
 rintro e w4 ⟨v4,rfl,h4,hb4⟩
 go_wp2_with fail
 go_ret
 exact ⟨v4,rfl,h4.mono (by simp;omega),(HAL.out.2.2.2.2.alloc hs3 _).trans (hb4.mono (by simp;omega))⟩
set_option maxRecDepth 20000 in
set_option maxHeartbeats 4000000 in
theorem zDg (sd:List UInt8) (leaf chain:Nat) (w:World) (hT:Tab w) (hs:sd.length=16) (h1:leaf≤1000000) (h2:chain≤1000) :
  Calls Tryz.prog 106 #[.agg (bV sd).toArray,.int .i64 leaf,.int .i64 chain] w fun e w'=>e=.returned (.agg (bV (Wot.start sd leaf chain)).toArray)∧Below w.heap.size w w':=by
 have HT:=Lib.hid hT
 clear hT
 obtain ⟨cs,hcs⟩:∃ c,c=bV sd:=⟨_,rfl⟩
 have hcl:cs.length=16:=by rw [hcs,zG];exact hs
 have HCS:=Lib.hid hcs
 rw [← hcs]
 clear hcs
 go_enter Tryz.func106,Tryz.ntmps106
 go_upto_region 1 with fail
 obtain ⟨w1,hw1⟩:∃ q,q=(w.alloc (.cells cs.toArray 23)).alloc (.cells #[Value.int IntKind.u8 0,.int .u8 0,.int .u8 0,.int .u8 0,.int .u8 0,.int .u8 0,.int .u8 0,.int .u8 0,.int .u8 0,.int .u8 0,.int .u8 0,.int .u8 0,.int .u8 0,.int .u8 0,.int .u8 0,.int .u8 0,.int .u8 0,.int .u8 0,.int .u8 0,.int .u8 0,.int .u8 0,.int .u8 0,.int .u8 0,.int .u8 0,.int .u8 0,.int .u8 0,.int .u8 0,.int .u8 0,.int .u8 0,.int .u8 0,.int .u8 0,.int .u8 0] 34):=⟨_,rfl⟩
 obtain ⟨p1,hp1⟩:∃ q,q=w.heap.size:=⟨_,rfl⟩
 obtain ⟨p2,hp2⟩:∃ q,q=w.heap.size+1:=⟨_,rfl⟩
 have hb1:Below w.heap.size w w1:=by rw [hw1];exact ((Below.refl _ _).alloc (Nat.le_refl _) _).alloc (by simp) _
 have hk1:Blk w1 p1 cs.toArray 23:=by rw [hw1,hp1];exact (Blk.new _ _ _).alloc _
 have hk2:Blk w1 p2 zH 34:=by rw [hw1,hp2];exact Blk.new_at _ _ _ _ (by simp)
 rw [← hw1,← hp2,← hp1]
 have H1:=Lib.hid (And.intro hb1 (And.intro hk2 (And.intro (show w.heap.size≤p2 by omega) (And.intro (show p1≠p2 by omega) (show w.heap.size≤p1 by omega)))))
 have HK:=Lib.hid hk1
 have hpge:=H1.out.2.2.1
 clear hw1 hp1 hp2 hb1 hk1 hk2
 refine Tail.zT 5 (fun k=>k == 2 || k == 4) (fun k=>none)
  (fun D z w'=>Below w1.heap.size w1 w'∧(D 2=true→zP 5 w' w1.heap.size (z 2) (Cod.be 4 leaf))∧(D 4=true→zP 5 w' w1.heap.size (z 4) (Cod.be 4 chain)))
  (by kernel_rfl) (by kernel_rfl) (fun k hk=>by simp at hk;omega) (fun D z z' w' hz h=>⟨h.1,fun d=>by rw [← hz 2 d];exact h.2.1 d,fun d=>by rw [← hz 4 d];exact h.2.2 d⟩)
  (⟨(Below.refl _ _).drew,(fun h=>by cases h),(fun h=>by cases h)⟩) (fun z=>?_)
 simp only [List.take_succ_cons,List.take_zero,List.drop_succ_cons,List.drop_zero]
 refine Tail.zI (by rfl) (by rfl) ?_
 apply Exists.intro
 refine ⟨fun w=>?_,?_⟩
 · go_simp <;> with_reducible rfl
 simp only [Act.put,List.setIfInBounds_toArray,List.set_cons_zero,List.set_cons_succ,Nat.reduceAdd,Nat.reduceEqDiff,reduceIte,Option.getD_some,Option.getD_none]
 refine Tail.zI (by rfl) (by rfl) ?_
 apply Exists.intro
 refine ⟨fun w=>?_,?_⟩
 · go_simp <;> with_reducible rfl
 simp only [Act.put,List.setIfInBounds_toArray,List.set_cons_zero,List.set_cons_succ,Nat.reduceAdd,Nat.reduceEqDiff,reduceIte,Option.getD_some,Option.getD_none]
 refine Tail.zAT (by rfl) (by rfl) ?_ ?_
 · apply Exists.intro
   apply Exists.intro
   refine ⟨fun w'=>?_,?_⟩
   · go_simp <;> exact ⟨rfl,rfl⟩
   intro D z' w' hD hz hd hp hJ
   have h4:D 4=false:=hp 4 (by kernel_rfl)
   refine (zEC leaf 4 (by omega) (by decide) (by decide) w').mono ?_
   rintro e w'' ⟨v,rfl,hv,hb⟩
   refine ⟨v,rfl,fun c hc=>by simp at hc,hJ.1.trans (hb.mono hJ.1.size),fun _=>?_,fun h=>?_⟩
   · simpa [Tail.zAb] using hv.mono hJ.1.size
   · simp [Tail.zAp,h4] at h
 simp only [Act.put,List.setIfInBounds_toArray,List.set_cons_zero,List.set_cons_succ,Nat.reduceAdd,Nat.reduceEqDiff,reduceIte,Option.getD_some,Option.getD_none]
 refine Tail.zI (by rfl) (by rfl) ?_
 apply Exists.intro
 refine ⟨fun w=>?_,?_⟩
 · go_simp <;> with_reducible rfl
 simp only [Act.put,List.setIfInBounds_toArray,List.set_cons_zero,List.set_cons_succ,Nat.reduceAdd,Nat.reduceEqDiff,reduceIte,Option.getD_some,Option.getD_none]
 refine Tail.zAT (by rfl) (by rfl) ?_ ?_
 · apply Exists.intro
   apply Exists.intro
   refine ⟨fun w'=>?_,?_⟩
   · go_simp <;> exact ⟨rfl,rfl⟩
   intro D z' w' hD hz hd hp hJ
   have h2:D 2=true:=hd 2 (by kernel_rfl)
   refine (zEC chain 4 (by omega) (by decide) (by decide) w').mono ?_
   rintro e w'' ⟨v,rfl,hv,hb⟩
   refine ⟨v,rfl,fun c hc=>by simp at hc,hJ.1.trans (hb.mono hJ.1.size),fun _=>?_,fun _=>?_⟩
   · simpa [Tail.zAb] using (hJ.2.1 h2).below hb
   · simpa [Tail.zAb] using hv.mono hJ.1.size
 simp only [Act.put,List.setIfInBounds_toArray,List.set_cons_zero,List.set_cons_succ,Nat.reduceAdd,Nat.reduceEqDiff,reduceIte,Option.getD_some,Option.getD_none]
 intro w3 hJ
 have h2:=hJ.2.1 rfl
 have h4:=hJ.2.2 rfl
 have HB3:=Lib.hid hJ.1
 clear hJ
 generalize z 2=v2 at h2 ⊢
 generalize z 4=v4 at h4 ⊢
 clear z
 obtain ⟨a2,c2,rfl⟩:=h2.eq_slice
 obtain ⟨a4,c4,rfl⟩:=h4.eq_slice
 rw [Cod.zt] at h2 h4 ⊢
 have H24:=Lib.hid (And.intro h2 h4)
 clear h2 h4
 have hal:=fun (o:Obj)=>(Below.refl w3.heap.size w3).alloc (Nat.le_refl _) o
 have hbs:Bys w3 (.slice (some ⟨p1,0,none⟩) 16 16) sd:=by
  have hk:=HK.out.kept HB3.out
  rw [HCS.out] at hk
  exact zAg hk hs (by decide)
 have hT3:=HT.out.below (H1.out.1.trans (HB3.out.mono H1.out.1.size))
 have HAL:=Lib.hid (And.intro hbs (And.intro hT3 hal))
 clear hbs hT3 hal
 go_wp2_with fail
 refine (zDI _ _ [sd,Cod.be 4 leaf,Cod.be 4 chain] _ (HAL.out.2.1.below (HAL.out.2.2 _)) (rws3 (Blk.new _ _ _) (HAL.out.1.below (HAL.out.2.2 _)) ((H24.out.1.bys).below (HAL.out.2.2 _)) ((H24.out.2.bys).below (HAL.out.2.2 _))) (by decide) ?_).mono ?_
 · exact zBR _ (fun r hr=>by
  simp only [List.mem_cons,List.not_mem_nil,or_false] at hr
  rcases hr with rfl | rfl | rfl
  · omega
  · rw [Cod.zt];decide
  · rw [Cod.zt];decide) (show 3≤100 by decide)
 rintro e w4 ⟨rfl,hb4⟩
 rw [show Wot.tagged (ByteArray.mk #[115,116,97,114,116]).data.toList [sd,Cod.be 4 leaf,Cod.be 4 chain]=Wot.start sd leaf chain from rfl]
 have hb14:Below w1.heap.size w1 w4:=(HB3.out.alloc HB3.out.size _).trans (hb4.mono (by have:=HB3.out.size;simp;omega))
 have hb04:=H1.out.1.trans (hb14.mono H1.out.1.size)
 have kz:=H1.out.2.1.kept hb14
 have hlen:=Wot.start_len sd leaf chain
 obtain ⟨hq1,hq2,hq3⟩:=zAP (p:=p2) (h:=Wot.start sd leaf chain) hlen kz
 obtain ⟨co,hco⟩:∃ q,q=bV (Wot.start sd leaf chain):=⟨_,rfl⟩
 rw [← hco] at hq2 hq3
 try rw [← hco]
 have hcol:co.length=32:=hq2.1
 have HLD:=Lib.hid hq3
 have HM:=Lib.hid (And.intro hco (zAI co hb04 hpge))
 clear hco hq3
 go_wp2_with fail
 refine bodyPost_ret (v:=.agg co.toArray) (by simp [results,Tryz.results106,asAddr,HLD.out]) rfl ⟨by rw [HM.out.1],HM.out.2⟩
end Go.Proofs.YtdlkghdfkjdajaaGreatDoor
end
section
namespace Go.Proofs.YtdlkghdfkjdajaaGreatDoor
open Go Go.RowKit Go.Mem Gf
set_option linter.unusedVariables false
set_option linter.unusedSimpArgs false
attribute [local go_sem ↓] Go.wp_at_zero Go.wp_at_succ
attribute [local go_sem ↓] zY zU zm zf
attribute [local go_sem] ptrB_eq ptrO_eq ptrIs_eq aggL_eq aggIs_eq zS zV zD zF zJ zK zB
set_option maxRecDepth 20000 in
set_option maxHeartbeats 2000000 in
theorem zEb (h:List UInt8) (w:World) (hT:Tab w) (hl:h.length=32) :
  Calls Tryz.prog 122 #[.agg (bV h).toArray] w fun e w'=>∃ v',e=.returned v'∧zP 5 w' w.heap.size v' (Wot.text Wot.tStep [h])∧Below w.heap.size w w':=by
 have HT:=Lib.hid hT
 clear hT
 obtain ⟨cs,hcs⟩:∃ c,c=bV h:=⟨_,rfl⟩
 have hcl:cs.length=32:=by rw [hcs,zG];exact hl
 have HCS:=Lib.hid hcs
 rw [← hcs]
 clear hcs
 go_enter Tryz.func122,Tryz.ntmps122
 go_upto_region 1 with fail
 obtain ⟨w1,hw1⟩:∃ q,q=w.alloc (.cells cs.toArray 34):=⟨_,rfl⟩
 obtain ⟨p1,hp1⟩:∃ q,q=w.heap.size:=⟨_,rfl⟩
 have hb1:Below w.heap.size w w1:=by rw [hw1];exact (Below.refl _ _).alloc (Nat.le_refl _) _
 have hk1:Blk w1 p1 (bV h).toArray 34:=by rw [hw1,hp1,← HCS.out];exact Blk.new _ _ _
 have hs1:=hb1.size
 rw [← hw1,← hp1]
 have hal:=fun (o:Obj)=>(Below.refl w1.heap.size w1).alloc (Nat.le_refl _) o
 have HAL:=Lib.hid (And.intro (zAg hk1 hl (by decide)) (And.intro (HT.out.below hb1) (And.intro hal hb1)))
 clear hw1 hp1 hb1 hk1 hal
 go_wp2_with fail
 refine (zBz _ _ [h] _ (HAL.out.2.1.below (HAL.out.2.2.1 _)) (zGv (Blk.new _ _ _) (HAL.out.1.below (HAL.out.2.2.1 _))) (by decide) ?_).mono ?_
 · exact zAa _ (fun r hr=>by
  rw [List.mem_singleton.1 hr]
  omega) (show 1≤100 by decide)
 rintro e w4 ⟨v4,rfl,h4,hb4⟩
 go_wp2_with fail
 go_ret
 exact ⟨v4,rfl,h4.mono (by simp;omega),(HAL.out.2.2.2.alloc hs1 _).trans (hb4.mono (by simp;omega))⟩
set_option maxRecDepth 20000 in
set_option maxHeartbeats 2000000 in
theorem zHh (h:List UInt8) (w:World) (hT:Tab w) (hl:h.length=32) :
  Calls Tryz.prog 118 #[.agg (bV h).toArray] w fun e w'=>e=.returned (.agg (bV (Wot.step h)).toArray)∧Below w.heap.size w w':=by
 have hx:=fun w1 (hbw:Below w.heap.size w w1)=>zEb h w1 (hT.below hbw) hl
 obtain ⟨cs,hcs⟩:∃ c,c=bV h:=⟨_,rfl⟩
 have hcl:cs.length=32:=by rw [hcs,zG];exact hl
 rw [← hcs] at hx ⊢
 have HX:=Lib.hid hx
 clear hcs hx hT
 go_enter Tryz.func118,Tryz.ntmps118
 go_upto_region 1 with fail
 obtain ⟨w1,hw1⟩:∃ q,q=(w.alloc (.cells cs.toArray 34)).alloc (.cells #[Value.int IntKind.u8 0,.int .u8 0,.int .u8 0,.int .u8 0,.int .u8 0,.int .u8 0,.int .u8 0,.int .u8 0,.int .u8 0,.int .u8 0,.int .u8 0,.int .u8 0,.int .u8 0,.int .u8 0,.int .u8 0,.int .u8 0,.int .u8 0,.int .u8 0,.int .u8 0,.int .u8 0,.int .u8 0,.int .u8 0,.int .u8 0,.int .u8 0,.int .u8 0,.int .u8 0,.int .u8 0,.int .u8 0,.int .u8 0,.int .u8 0,.int .u8 0,.int .u8 0] 34):=⟨_,rfl⟩
 obtain ⟨p1,hp1⟩:∃ q,q=w.heap.size:=⟨_,rfl⟩
 obtain ⟨p2,hp2⟩:∃ q,q=w.heap.size+1:=⟨_,rfl⟩
 have hb1:Below w.heap.size w w1:=by rw [hw1];exact ((Below.refl _ _).alloc (Nat.le_refl _) _).alloc (by simp) _
 have hk1:Blk w1 p1 cs.toArray 34:=by rw [hw1,hp1];exact (Blk.new _ _ _).alloc _
 have hk2:Blk w1 p2 zH 34:=by rw [hw1,hp2];exact Blk.new_at _ _ _ _ (by simp)
 rw [← hw1,← hp2,← hp1]
 have H1:=Lib.hid (And.intro hb1 (And.intro hk2 (And.intro (show w.heap.size≤p2 by omega) (And.intro (show p1≠p2 by omega) (show w.heap.size≤p1 by omega)))))
 have HK:=Lib.hid hk1
 have hpge:=H1.out.2.2.1
 clear hw1 hp1 hp2 hb1 hk1 hk2
 have k1:zh 32 w1 p1 0=cs:=zn HK.out hcl (fun k _=>by simp)
 have k1':zi 32 w1 p1 0:=zQ HK.out (by simp [hcl])
 go_wp2_with fail
 refine (HX.out w1 H1.out.1).mono ?_
 rintro e w3 ⟨v3,rfl,h3,hb3⟩
 have H3:=Lib.hid (And.intro h3 hb3)
 have hln:(Wot.text Wot.tStep [h]).length≤1000000:=by
  unfold Wot.text
  rw [List.length_append]
  have h1:(Cod.net Wot.tStep).length≤100:=by
   rw [Cod.zAL,show Wot.tStep.length=4 from rfl,Lib.nDigits_small (by decide)]
   decide
  have h2:=zBR [h] (fun r hr=>by
   rw [List.mem_singleton.1 hr]
   omega) (show 1≤100 by decide)
  omega
 clear h3 hb3 k1 k1'
 go_wp2_with fail
 refine (zBI v3 _ w3 H3.out.1.bys hln).mono ?_
 rintro e w4 ⟨rfl,hb4⟩
 rw [show Sha.sum (Wot.text Wot.tStep [h])=Wot.step h from rfl]
 have hb14:Below w1.heap.size w1 w4:=H3.out.2.trans (hb4.mono H3.out.2.size)
 have hb04:=H1.out.1.trans (hb14.mono H1.out.1.size)
 have kz:=H1.out.2.1.kept hb14
 have hlen:(Wot.step h).length=32:=Wot.tagged_len _ _
 obtain ⟨hq1,hq2,hq3⟩:=zAP (p:=p2) (h:=Wot.step h) hlen kz
 obtain ⟨co,hco⟩:∃ q,q=bV (Wot.step h):=⟨_,rfl⟩
 rw [← hco] at hq2 hq3
 try rw [← hco]
 have hcol:co.length=32:=hq2.1
 have HLD:=Lib.hid hq3
 have HM:=Lib.hid (And.intro hco (zAI co hb04 hpge))
 clear hco hq3
 go_wp2_with fail
 refine bodyPost_ret (v:=.agg co.toArray) (by simp [results,Tryz.results118,asAddr,HLD.out]) rfl ⟨by rw [HM.out.1],HM.out.2⟩
set_option maxRecDepth 20000 in
set_option maxHeartbeats 2000000 in
theorem zDe (h:List UInt8) (n:Nat) (w:World) (hT:Tab w) (hl:h.length=32) (hn:n≤15) :
  Calls Tryz.prog 104 #[.agg (bV h).toArray,.int .i64 n] w fun e w'=>e=.returned (.agg (bV (Wot.along h n)).toArray)∧Below w.heap.size w w':=by
 have HT:=Lib.hid hT
 clear hT
 obtain ⟨cs,hcs⟩:∃ c,c=bV h:=⟨_,rfl⟩
 have hcl:cs.length=32:=by rw [hcs,zG];exact hl
 have HCS:=Lib.hid hcs
 rw [← hcs]
 clear hcs
 go_enter Tryz.func104,Tryz.ntmps104
 go_upto_region 1 with fail
 obtain ⟨w1,hw1⟩:∃ q,q=(w.alloc (.cells cs.toArray 34)).alloc (.cells #[Value.int IntKind.u8 0,.int .u8 0,.int .u8 0,.int .u8 0,.int .u8 0,.int .u8 0,.int .u8 0,.int .u8 0,.int .u8 0,.int .u8 0,.int .u8 0,.int .u8 0,.int .u8 0,.int .u8 0,.int .u8 0,.int .u8 0,.int .u8 0,.int .u8 0,.int .u8 0,.int .u8 0,.int .u8 0,.int .u8 0,.int .u8 0,.int .u8 0,.int .u8 0,.int .u8 0,.int .u8 0,.int .u8 0,.int .u8 0,.int .u8 0,.int .u8 0,.int .u8 0] 34):=⟨_,rfl⟩
 obtain ⟨p1,hp1⟩:∃ q,q=w.heap.size:=⟨_,rfl⟩
 obtain ⟨p2,hp2⟩:∃ q,q=w.heap.size+1:=⟨_,rfl⟩
 have hb1:Below w.heap.size w w1:=by rw [hw1];exact ((Below.refl _ _).alloc (Nat.le_refl _) _).alloc (by simp) _
 have hk1:Blk w1 p1 cs.toArray 34:=by rw [hw1,hp1];exact (Blk.new _ _ _).alloc _
 have hk2:Blk w1 p2 zH 34:=by rw [hw1,hp2];exact Blk.new_at _ _ _ _ (by simp)
 rw [← hw1,← hp2,← hp1]
 have H1:=Lib.hid (And.intro hb1 (And.intro hk2 (And.intro (show w.heap.size≤p2 by omega) (And.intro (show p1≠p2 by omega) (show w.heap.size≤p1 by omega)))))
 have HK:=Lib.hid hk1
 have hpge:=H1.out.2.2.1
 clear hw1 hp1 hp2 hb1 hk1 hk2
 go_wp2_with fail
 go_loopw [5] (fun u wr=>∃ i:Nat,i≤n∧u=.int .i64 i∧Hid (Below w.heap.size w wr∧Blk wr p1 (bV (Wot.along h i)).toArray 34∧Blk wr p2 zH 34)) (fun u _=>n - (intOf u).toNat)
 case atStart=>exact ⟨0,by omega,rfl,H1.out.1,(by have:=HK.out;rw [HCS.out] at this;exact this),H1.out.2.1⟩
 case round =>
  obtain ⟨i,hi,rfl,G⟩:=hrel
  obtain ⟨ci,hci⟩:∃ c,c=bV (Wot.along h i):=⟨_,rfl⟩
  have hcil:ci.length=32:=by rw [hci,zG];exact Wot.along_len hl i
  have HCI:=Lib.hid hci
  have hk:=G.out.2.1
  rw [← hci] at hk
  have k1:zh 32 wr p1 0=ci:=zn hk hcil (fun k _=>by simp)
  have k2:zi 32 wr p1 0:=zQ hk (by simp [hcil])
  have HKI:=Lib.hid hk
  clear hci hk
  by_cases h0:i < n
  · have i1:(i:Int) < (n:Int):=by omega
    have i2:(i:Int) < 15:=by omega
    have hst:=zHh (Wot.along h i) wr (HT.out.below G.out.1) (Wot.along_len hl i)
    rw [← HCI.out] at hst
    have HST:=Lib.hid hst
    clear hst
    go_wp2_with fail
    refine HST.out.mono ?_
    rintro e w4 ⟨rfl,hb4⟩
    rw [show Wot.step (Wot.along h i)=Wot.along h (i+1) from rfl]
    obtain ⟨co,hco⟩:∃ q,q=bV (Wot.along h (i+1)):=⟨_,rfl⟩
    rw [← hco]
    have hcol:co.length=32:=by rw [hco,zG];exact Wot.along_len hl (i+1)
    have hca:zAS 32 co:=⟨hcol,fun v hv=>by rw [hco] at hv;exact zAQ _ v hv⟩
    have HCO:=Lib.hid hco
    clear hco
    have hk4:=HKI.out.kept hb4
    have q2:zi 32 w4 p1 0:=zQ hk4 (by simp [hcil])
    have HB4:=Lib.hid (And.intro hb4 (And.intro (zEq hk4 hcil hcol) (Blk.setCells_other (fun e=>H1.out.2.2.2.1 e.symm) co 0 _ (G.out.2.2.kept hb4))))
    clear hb4 hk4
    go_wp2
    refine ⟨⟨i+1,by omega,by go_num,?_⟩,by simp [intOf];omega⟩
    exact ⟨zAI co (G.out.1.trans (HB4.out.1.mono G.out.1.size)) H1.out.2.2.2.2,by rw [← HCO.out];exact HB4.out.2.1,HB4.out.2.2⟩
  · have i1:¬ (i:Int) < (n:Int):=by omega
    obtain rfl:n=i:=by omega
    have hb04:=G.out.1
    have kz:=G.out.2.2
    have hlen:=Wot.along_len hl n
    rw [HCI.out] at k1
    clear HCI
    obtain ⟨hq1,hq2,hq3⟩:=zAP (p:=p2) (h:=Wot.along h n) hlen kz
    obtain ⟨co,hco⟩:∃ q,q=bV (Wot.along h n):=⟨_,rfl⟩
    rw [← hco] at hq2 hq3 k1
    try rw [← hco]
    have hcol:co.length=32:=hq2.1
    have HLD:=Lib.hid hq3
    have HM:=Lib.hid (And.intro hco (zAI co hb04 hpge))
    clear hco hq3
    go_wp2_with fail
    refine bodyPost_ret (v:=.agg co.toArray) (by simp [results,Tryz.results104,asAddr,HLD.out]) rfl ⟨by rw [HM.out.1],HM.out.2⟩
set_option maxRecDepth 20000 in
set_option maxHeartbeats 2000000 in
theorem zIs (h:Nat) (hh:h≤8) (w:World):Calls Tryz.prog 75 #[.int .i64 ((2 ^ h:Nat):Int)] w fun e w'=>e=.returned (.int .i64 ((2 ^ h:Nat):Int))∧w=w':=by
 have hmono:∀ k,k < h→2*2 ^ k≤2 ^ h:=fun k hk=>by
  have:=Nat.pow_le_pow_right (n:=2) (by decide) (show k+1≤h from hk)
  rwa [Nat.pow_succ,Nat.mul_comm] at this
 have hlt:∀ k,k < h→2 ^ k < 2 ^ h:=fun k hk=>Nat.pow_lt_pow_right (by decide) hk
 have hb:2 ^ h≤256:=Nat.pow_le_pow_right (n:=2) (by decide) hh
 obtain ⟨n,hn⟩:∃ n,n=2 ^ h:=⟨_,rfl⟩
 rw [← hn] at hmono hlt hb ⊢
 have HN:=Lib.hid hn
 clear hn
 go_enter Tryz.func75,Tryz.ntmps75
 go_wp2_with fail
 go_loopw [3] (fun u wr=>∃ k p:Nat,k≤h∧p=2 ^ k∧u=.int .i64 p∧w=wr) (fun u _=>n - (intOf u).toNat)
 case atStart=>exact ⟨0,1,by omega,rfl,rfl,rfl⟩
 case round =>
  obtain ⟨k,p,hk,hp,rfl,rfl⟩:=hrel
  have hp1:1≤p:=by rw [hp];exact Nat.one_le_two_pow
  by_cases h0:k < h
  · have h1:=hlt k h0
    have h2:=hmono k h0
    rw [← hp] at h1 h2
    have i1:(p:Int) < (n:Int):=by omega
    have i2:(p:Int) < 2305843009213693952:=by omega
    have i3:IntKind.i64.wrap (2*(p:Int))=((2*p:Nat):Int):=by rw [IntWalk.i64_in _ (by omega)];omega
    have hp2:2*p=2 ^ (k+1):=by rw [hp,Nat.pow_succ,Nat.mul_comm]
    clear hp h1
    have i4:n - 2*p < n - p:=by omega
    obtain ⟨p2,hp2'⟩:∃ q,q=2*p:=⟨_,rfl⟩
    rw [← hp2'] at i3 hp2 i4
    have HP:=Lib.hid (And.intro hp2 (And.intro i4 h0))
    clear hmono hlt hb h2 hp2 hp2' i4 h0
    go_wp2
    exact ⟨⟨k+1,p2,HP.out.2.2,HP.out.1,rfl,trivial⟩,by simp only [intOf];have:=HP.out.2.1;omega⟩
  · obtain rfl:h=k:=by omega
    obtain rfl:n=p:=by rw [hp];exact HN.out
    have i1:¬ (n:Int) < (n:Int):=by omega
    clear hp hmono hlt
    go_wp2
    go_ret
    exact ⟨rfl,rfl⟩
end Go.Proofs.YtdlkghdfkjdajaaGreatDoor
end
section
namespace Go.Proofs.YtdlkghdfkjdajaaGreatDoor
open Go Go.RowKit Go.Mem Gf
set_option linter.unusedVariables false
set_option linter.unusedSimpArgs false
attribute [local go_sem ↓] Go.wp_at_zero Go.wp_at_succ
attribute [local go_sem ↓] zY zU zm zf
attribute [local go_sem] ptrB_eq ptrO_eq ptrIs_eq aggL_eq aggIs_eq zS zV zD zF zJ zK zB
set_option maxRecDepth 20000 in
set_option maxHeartbeats 4000000 in
theorem zFi (v:Value) (m:List UInt8) (w:World) (hT:Tab w) (hv:Bys w v m) (hl:m.length≤1000) :
  Calls Tryz.prog 103 #[v] w fun e w'=>∃ v',e=.returned v'∧zL eN WfN 1 3 w' w.heap.size v' (Wot.digits m)∧Below w.heap.size w w':=by
 obtain ⟨va,vc,rfl⟩:=hv.eq_slice
 obtain ⟨n,hn⟩:∃ n,n=m.length:=⟨_,rfl⟩
 rw [← hn] at hv ⊢
 have hal:=fun (o:Obj)=>(Below.refl w.heap.size w).alloc (Nat.le_refl _) o
 have HAL:=Lib.hid (And.intro hT (And.intro hv hal))
 clear hT hv hal hn
 go_enter Tryz.func103,Tryz.ntmps103
 go_wp2_with fail
 refine (zDI _ _ [m] _ (HAL.out.1.below (HAL.out.2.2 _)) (zGv (Blk.new _ _ _) (HAL.out.2.1.below (HAL.out.2.2 _))) (by decide) ?_).mono ?_
 · exact zBR _ (fun r hr=>by
  rw [List.mem_singleton.1 hr]
  omega) (show 1≤100 by decide)
 rintro e w1 ⟨rfl,hb1⟩
 obtain ⟨H,hH⟩:∃ H,H=Wot.tagged Wot.tMsg [m]:=⟨_,rfl⟩
 rw [show Wot.tagged (ByteArray.mk #[109,115,103]).data.toList [m]=H from by rw [hH];rfl]
 have hHl:H.length=32:=by rw [hH];exact Wot.tagged_len _ _
 obtain ⟨co,hco⟩:∃ q,q=bV H:=⟨_,rfl⟩
 rw [← hco]
 have hcol:co.length=32:=by rw [hco,zG];exact hHl
 have hca:zAS 32 co:=⟨hcol,fun v hv=>by rw [hco] at hv;exact zAQ _ v hv⟩
 have HB1:=Lib.hid (show Below w.heap.size w w1 from ((Below.refl _ _).alloc (Nat.le_refl _) _).trans (hb1.mono (by simp)))
 have HH:=Lib.hid (And.intro hH hco)
 clear hb1 hH hco
 go_upto_region 4 with fail
 obtain ⟨w2,hw2⟩:∃ q,q=w1.alloc (.cells co.toArray 34):=⟨_,rfl⟩
 obtain ⟨p3,hp3⟩:∃ q,q=w1.heap.size:=⟨_,rfl⟩
 have hk2:Blk w2 p3 co.toArray 34:=by rw [hw2,hp3];exact Blk.new _ _ _
 have hb2:Below w1.heap.size w1 w2:=by rw [hw2];exact (Below.refl _ _).alloc (Nat.le_refl _) _
 rw [← hw2,← hp3]
 have H2:=Lib.hid (And.intro hk2 (HB1.out.trans (hb2.mono HB1.out.size)))
 have hs2:=H2.out.2.size
 clear hw2 hp3 hk2 hb2
 go_wp2_with fail
 go_loopw [10,4,5] (fun vi vo vs wr=>∃ i:Nat,i≤32∧vi=.int .i64 i∧vs=.int .i64 ((Wot.chk (H.take i):Nat):Int)∧Hid (zL eN WfN 1 3 wr w2.heap.size vo (Wot.nib (H.take i))∧Below w2.heap.size w2 wr)) (fun vi _ _ _=>32 - (intOf vi).toNat)
 case atStart=>exact ⟨0,by omega,rfl,by rfl,zL.nil _ _ _ _ _ _,Below.refl _ _⟩
 case round =>
  obtain ⟨i,hi,rfl,rfl,G⟩:=hrel
  by_cases h0:i < 32
  · have i0:(0:Int)≤(i:Int):=by omega
    have i1:(i:Int) < 32:=by omega
    obtain ⟨c,hc⟩:∃ c,H[i]?=some c:=⟨_,List.getElem?_eq_getElem (by omega)⟩
    have hcell:∀ w',Below w2.heap.size w2 w'→w'.cell? ⟨p3,i,none⟩=some (.int .u8 (c.toNat:Int)):=fun w' hb=>by
     rw [(H2.out.1.kept hb).cell,List.getElem?_toArray,HH.out.2,zAd,hc]
     rfl
    have hcl:c.toNat < 256:=c.toNat_lt
    have htk:H.take (i+1)=H.take i++[c]:=by rw [List.take_add_one,hc];rfl
    have hnl:=Wot.nib_len (H.take i)
    have hcl2:=Wot.chk_le (H.take i)
    rw [List.length_take] at hnl hcl2
    obtain ⟨q,hq⟩:∃ q,q=Wot.chk (H.take i):=⟨_,rfl⟩
    rw [← hq] at hcl2 ⊢
    have HQ:=Lib.hid (And.intro htk (And.intro hq hnl))
    have hqb:q≤960:=by omega
    clear htk hq hnl hcl2 hc
    obtain ⟨d1,hd1⟩:∃ d,d=c.toNat / 16:=⟨_,rfl⟩
    obtain ⟨d2,hd2⟩:∃ d,d=c.toNat % 16:=⟨_,rfl⟩
    have e1:(c.toNat:Int).tdiv 16=(d1:Int):=by rw [Int.tdiv_eq_ediv_of_nonneg (by omega)];omega
    have e2:(c.toNat:Int).tmod 16=(d2:Int):=by rw [Int.tmod_eq_emod_of_nonneg (by omega)];omega
    have e3:(c.toNat:Int) / 16=(d1:Int):=by omega
    have e4:(c.toNat:Int) % 16=(d2:Int):=by omega
    have hdd:d1≤15∧d2≤15:=by omega
    have HD:=Lib.hid (And.intro hd1 hd2)
    clear hd1 hd2
    have u1:IntKind.u8.wrap (d1:Int)=(d1:Int):=IntWalk.u8_in _ (by omega)
    have u2:IntKind.u8.wrap (d2:Int)=(d2:Int):=IntWalk.u8_in _ (by omega)
    have q1:IntKind.i64.wrap (30 - (d1:Int))=30 - (d1:Int):=IntWalk.i64_in _ (by omega)
    have q2:IntKind.i64.wrap (30 - (d1:Int) - (d2:Int))=30 - (d1:Int) - (d2:Int):=IntWalk.i64_in _ (by omega)
    have q3:IntKind.i64.wrap ((q:Int)+(30 - (d1:Int) - (d2:Int)))=(q:Int)+(30 - (d1:Int) - (d2:Int)):=IntWalk.i64_in _ (by omega)
    have q4:IntKind.i64.wrap (d1:Int)=(d1:Int):=IntWalk.i64_in _ (by omega)
    have q5:IntKind.i64.wrap (d2:Int)=(d2:Int):=IntWalk.i64_in _ (by omega)
    have HC:=Lib.hid hcell
    have HDD:=Lib.hid hdd
    clear hcl hqb hcell hdd
    go_upto_region 7 with fail
    refine Tail.zT 12 (fun k=>k == 11) (fun k=>none)
     (fun D z w'=>Below wr.heap.size wr w'∧(D 11=true→∃ mb,z 11=.slice (some ⟨mb,0,none⟩) 2 2∧Blk w' mb #[.int .i64 (d1:Int),.int .i64 (d2:Int)] 3))
     (by kernel_rfl) (by kernel_rfl) (fun k hk=>by simp at hk;omega) (fun D z z' w' hz h=>⟨h.1,fun d=>by rw [← hz 11 d];exact h.2 d⟩)
     (⟨(Below.refl _ _).drew,(fun h=>by cases h)⟩) (fun z=>?_)
    simp only [List.take_succ_cons,List.take_zero,List.drop_succ_cons,List.drop_zero]
    refine Tail.zI (by rfl) (by rfl) ?_
    apply Exists.intro
    refine ⟨fun w=>?_,?_⟩
    · go_simp <;> with_reducible rfl
    simp only [Act.put,List.setIfInBounds_toArray,List.set_cons_zero,List.set_cons_succ,Nat.reduceAdd,Nat.reduceEqDiff,reduceIte,Option.getD_some,Option.getD_none]
    refine Tail.zI (by rfl) (by rfl) ?_
    apply Exists.intro
    refine ⟨fun w=>?_,?_⟩
    · go_simp <;> with_reducible rfl
    simp only [Act.put,List.setIfInBounds_toArray,List.set_cons_zero,List.set_cons_succ,Nat.reduceAdd,Nat.reduceEqDiff,reduceIte,Option.getD_some,Option.getD_none]
    refine Tail.zI (by rfl) (by rfl) ?_
    apply Exists.intro
    refine ⟨fun w=>?_,?_⟩
    · go_simp <;> with_reducible rfl
    simp only [Act.put,List.setIfInBounds_toArray,List.set_cons_zero,List.set_cons_succ,Nat.reduceAdd,Nat.reduceEqDiff,reduceIte,Option.getD_some,Option.getD_none]
    refine Tail.zA0 (by rfl) (by rfl) ?_
    apply Exists.intro
    refine ⟨fun D w' hd hp hJ=>?_,?_⟩
    · have cc:=HC.out w' (G.out.2.trans (hJ.1.mono G.out.2.size))
      go_simp <;> with_reducible rfl
    simp only [Act.put,List.setIfInBounds_toArray,List.set_cons_zero,List.set_cons_succ,Nat.reduceAdd,Nat.reduceEqDiff,reduceIte,Option.getD_some,Option.getD_none]
    refine Tail.zI (by rfl) (by rfl) ?_
    apply Exists.intro
    refine ⟨fun w=>?_,?_⟩
    · go_simp <;> with_reducible rfl
    simp only [Act.put,List.setIfInBounds_toArray,List.set_cons_zero,List.set_cons_succ,Nat.reduceAdd,Nat.reduceEqDiff,reduceIte,Option.getD_some,Option.getD_none]
    refine Tail.zI (by rfl) (by rfl) ?_
    apply Exists.intro
    refine ⟨fun w=>?_,?_⟩
    · go_simp <;> with_reducible rfl
    simp only [Act.put,List.setIfInBounds_toArray,List.set_cons_zero,List.set_cons_succ,Nat.reduceAdd,Nat.reduceEqDiff,reduceIte,Option.getD_some,Option.getD_none]
    refine Tail.zI (by rfl) (by rfl) ?_
    apply Exists.intro
    refine ⟨fun w=>?_,?_⟩
    · go_simp <;> with_reducible rfl
    simp only [Act.put,List.setIfInBounds_toArray,List.set_cons_zero,List.set_cons_succ,Nat.reduceAdd,Nat.reduceEqDiff,reduceIte,Option.getD_some,Option.getD_none]
    refine Tail.zI (by rfl) (by rfl) ?_
    apply Exists.intro
    refine ⟨fun w=>?_,?_⟩
    · go_simp <;> with_reducible rfl
    simp only [Act.put,List.setIfInBounds_toArray,List.set_cons_zero,List.set_cons_succ,Nat.reduceAdd,Nat.reduceEqDiff,reduceIte,Option.getD_some,Option.getD_none]
    refine Tail.zA0 (by rfl) (by rfl) ?_
    apply Exists.intro
    refine ⟨fun D w' hd hp hJ=>?_,?_⟩
    · have cc:=HC.out w' (G.out.2.trans (hJ.1.mono G.out.2.size))
      go_simp <;> with_reducible rfl
    simp only [Act.put,List.setIfInBounds_toArray,List.set_cons_zero,List.set_cons_succ,Nat.reduceAdd,Nat.reduceEqDiff,reduceIte,Option.getD_some,Option.getD_none]
    refine Tail.zI (by rfl) (by rfl) ?_
    apply Exists.intro
    refine ⟨fun w=>?_,?_⟩
    · go_simp <;> with_reducible rfl
    simp only [Act.put,List.setIfInBounds_toArray,List.set_cons_zero,List.set_cons_succ,Nat.reduceAdd,Nat.reduceEqDiff,reduceIte,Option.getD_some,Option.getD_none]
    refine Tail.zI (by rfl) (by rfl) ?_
    apply Exists.intro
    refine ⟨fun w=>?_,?_⟩
    · go_simp <;> with_reducible rfl
    simp only [Act.put,List.setIfInBounds_toArray,List.set_cons_zero,List.set_cons_succ,Nat.reduceAdd,Nat.reduceEqDiff,reduceIte,Option.getD_some,Option.getD_none]
    refine Tail.zFt (by rfl) (by rfl) (fun D z' w' hD hz hd hp hJ=>?_) ?_
    · refine ⟨.slice (some ⟨w'.heap.size,0,none⟩) 2 2,w'.alloc (.cells #[.int .i64 (d1:Int),.int .i64 (d2:Int)] 3),?_,fun c hc=>by simp at hc,hJ.1.alloc hJ.1.size _,fun _=>⟨w'.heap.size,by simp [Tail.zAb],Blk.new _ _ _⟩⟩
      go_simp <;> with_reducible rfl
    simp only [Act.put,List.setIfInBounds_toArray,List.set_cons_zero,List.set_cons_succ,Nat.reduceAdd,Nat.reduceEqDiff,reduceIte,Option.getD_some,Option.getD_none]
    intro w5 hJ
    have hb5:=hJ.1
    obtain ⟨mb,hz11,hkm⟩:=hJ.2 rfl
    rw [hz11]
    clear hJ hz11 z
    have H5:=Lib.hid (And.intro hkm (And.intro (G.out.1.chg (S:=fun _=>False) (Chg.of_below hb5) (fun _ _=>id)) (G.out.2.trans (hb5.mono G.out.2.size))))
    have hs5:=H5.out.2.2.size
    clear hkm hb5
    go_wp2_with (at_builtin;refine zCz EKn ecN rfl _ _ rfl (base:=w2.heap.size) [d1,d2] (fun _ _=>trivial) rfl rfl rfl H5.out.1 H5.out.2.1 ?d1 (by decide) hs5 ?_)
    case d1=>have:=HQ.out.2.2;omega
    intro v6 w6 h6 hg6 hx6
    have hb6:=zN H5.out.2.2 hg6 (fun k hk=>H5.out.2.1.ge hk)
    have cc:w6.cell? ⟨p3,i,none⟩=some (.int .u8 (c.toNat:Int)):=HC.out w6 hb6
    have H6:=Lib.hid (And.intro h6 hb6)
    clear h6 hb6 hg6 hx6
    go_upto_region 8 with fail
    go_quiet (fail)
    go_wp2
    refine ⟨⟨i+1,by omega,by go_num,?_,?_⟩,by simp [intOf];omega⟩
    · rw [HQ.out.1,Wot.chk_snoc,← HQ.out.2.1,← HD.out.1,← HD.out.2]
      have:=HDD.out
      congr 1
      omega
    · refine ⟨?_,below_drewN H6.out.2 _⟩
      rw [HQ.out.1,Wot.nib_snoc,← HD.out.1,← HD.out.2]
      exact H6.out.1.drewN _
  · have i1:¬ (i:Int) < 32:=by omega
    obtain rfl:i=32:=by omega
    have htk:H.take 32=H:=List.take_of_length_le (by omega)
    rw [htk] at G ⊢
    have hnl:=Wot.nib_len H
    have hcb:=Wot.chk_le H
    obtain ⟨q,hq⟩:∃ q,q=Wot.chk H:=⟨_,rfl⟩
    rw [← hq] at hcb ⊢
    have hqb:q≤960:=by omega
    obtain ⟨a1,ha1⟩:∃ a,a=q / 256:=⟨_,rfl⟩
    obtain ⟨a2,ha2⟩:∃ a,a=q / 16:=⟨_,rfl⟩
    obtain ⟨x2,hx2⟩:∃ x,x=a2 % 16:=⟨_,rfl⟩
    obtain ⟨x3,hx3⟩:∃ x,x=q % 16:=⟨_,rfl⟩
    have f1:(q:Int).tdiv 256=(a1:Int):=by rw [Int.tdiv_eq_ediv_of_nonneg (by omega)];omega
    have f2:(q:Int).tdiv 16=(a2:Int):=by rw [Int.tdiv_eq_ediv_of_nonneg (by omega)];omega
    have f3:(a2:Int).tmod 16=(x2:Int):=by rw [Int.tmod_eq_emod_of_nonneg (by omega)];omega
    have f4:(q:Int).tmod 16=(x3:Int):=by rw [Int.tmod_eq_emod_of_nonneg (by omega)];omega
    have w1':IntKind.i64.wrap (a1:Int)=(a1:Int):=IntWalk.i64_in _ (by omega)
    have w2':IntKind.i64.wrap (a2:Int)=(a2:Int):=IntWalk.i64_in _ (by omega)
    have w3':IntKind.i64.wrap (x2:Int)=(x2:Int):=IntWalk.i64_in _ (by omega)
    have w4':IntKind.i64.wrap (x3:Int)=(x3:Int):=IntWalk.i64_in _ (by omega)
    have HQ:=Lib.hid (And.intro hq (And.intro ha1 (And.intro ha2 (And.intro hx2 (And.intro hx3 hnl)))))
    clear htk hq ha1 ha2 hx2 hx3 hnl hcb hqb
    go_wp2_with (at_builtin;refine zCz EKn ecN rfl _ _ rfl (base:=w2.heap.size) [a1,x2,x3] (fun _ _=>trivial) rfl rfl rfl (Blk.new _ _ _) (G.out.1.chg (S:=fun _=>False) (Chg.of_below ((Below.refl _ _).alloc (Nat.le_refl _) _)) (fun _ _=>id)) ?e1 (by decide) ?e2 ?_)
    case e1=>have:=HQ.out.2.2.2.2.2;omega
    case e2=>have:=G.out.2.size;simp;omega
    intro v4 w4 h4 hg4 hx4
    have hb4:=zN (G.out.2.alloc G.out.2.size _) hg4 (fun k hk=>G.out.1.ge hk)
    go_wp2
    go_ret
    refine ⟨v4,rfl,?_,H2.out.2.trans (hb4.mono hs2)⟩
    have e:Wot.digits m=Wot.nib H++[a1,x2,x3]:=by
     unfold Wot.digits Wot.digitsOf
     rw [← HH.out.1,← HQ.out.1,← HQ.out.2.1,HQ.out.2.2.2.1,HQ.out.2.2.2.2.1,HQ.out.2.2.1]
    rw [e]
    exact h4.lower hs2
end Go.Proofs.YtdlkghdfkjdajaaGreatDoor
end
section
namespace Go.Proofs.YtdlkghdfkjdajaaGreatDoor
open Go Go.RowKit Go.Mem Gf
set_option linter.unusedVariables false
set_option linter.unusedSimpArgs false
attribute [local go_sem ↓] Go.wp_at_zero Go.wp_at_succ
attribute [local go_sem ↓] zY zU zm zf
attribute [local go_sem] ptrB_eq ptrO_eq ptrIs_eq aggL_eq aggIs_eq zS zV zD zF zJ zK zB
theorem zC0 {w:World} {b:Nat} {cs:List Value} {t:TypeId} (h:Blk w b cs.toArray t):w.rangeAt b 0 cs:=fun j v hv=>by
 rw [h.cell,List.getElem?_toArray,Nat.zero_add]
 exact hv
theorem zKA {w:World} {b off:Nat} {x:List UInt8} (h:w.rangeAt b off (bV x)) {n:Nat} (hn:x.length=n) (hl:n≤1000):Bys w (.slice (some ⟨b,off,none⟩) n n) x:=by
 subst hn
 refine ⟨_,x.length,rfl,Nat.le_refl _,zAC (by omega),fun _=>⟨b,off,rfl,fun i u hi=>?_⟩⟩
 exact h i _ (by rw [zAd,hi];rfl)
theorem zJ9 {w:World} {t:TypeId} {bs:List UInt8} (arr:Array Value) (fz:Nat × Nat) (h:arr=(bV bs).toArray) (hl:bs.length≤1000) (n:Nat) (hn:n=bs.length):Bys (w.alloc (.cells arr t fz)) (.slice (some ⟨w.heap.size,0,none⟩) n n) bs:=by
 subst hn
 refine ⟨_,bs.length,rfl,Nat.le_refl _,zAC (by omega),fun _=>⟨w.heap.size,0,rfl,fun i u hi=>?_⟩⟩
 have e:(w.alloc (.cells arr t fz)).heap[w.heap.size]?=some (.cells arr t fz):=by
  show (w.heap.push _)[w.heap.size]?=_
  simp
 unfold World.cell?
 simp only [e,Nat.zero_add]
 rw [h,List.getElem?_toArray,zAd,hi]
 rfl
set_option maxRecDepth 20000 in
set_option maxHeartbeats 4000000 in
theorem zE2 (v:Value) (l:List (List UInt8)) (base:Nat) (w:World) (hT:Tab w) (h:zL bV WfH 32 34 w base v l) (hl:l.length≤67) :
  Calls Tryz.prog 74 #[v] w fun e w'=>∃ v',e=.returned v'∧zP 5 w' w.heap.size v' (Wot.text Wot.tPublic l)∧Below w.heap.size w w':=by
 obtain ⟨va,vc,rfl⟩:=h.slice
 obtain ⟨n,hn⟩:∃ n,n=l.length:=⟨_,rfl⟩
 rw [← hn] at h hl ⊢
 have hb0:Below w.heap.size w (w.alloc (.cells #[.int .u8 112,.int .u8 117,.int .u8 98,.int .u8 108,.int .u8 105,.int .u8 99] 5 (6,7))):=(Below.refl _ _).alloc (Nat.le_refl _) _
 have H:=Lib.hid (And.intro h (And.intro hT (And.intro hn hb0)))
 have hcv:=Lib.run_convert_bytes_const (P:=Tryz.prog) w 41 5 #[.int .u8 112,.int .u8 117,.int .u8 98,.int .u8 108,.int .u8 105,.int .u8 99] 6 6 Tryz.underlying41 Tryz.underlying5
 clear h hT hn hb0
 go_enter Tryz.func74,Tryz.ntmps74
 go_wp2_with fail
 refine (zCT _ Wot.tPublic _ (zJ9 #[.int .u8 112,.int .u8 117,.int .u8 98,.int .u8 108,.int .u8 105,.int .u8 99] (6,7) rfl (by decide) 6 rfl) (by decide)).mono ?_
 rintro e w1 ⟨v1,rfl,h1,hb1⟩
 have hb01:=H.out.2.2.2.trans (hb1.mono H.out.2.2.2.size)
 have H1:=Lib.hid (And.intro (h1.mono H.out.2.2.2.size) hb01)
 clear h1 hb1 hb01 hcv
 go_wp2_with fail
 go_loopw [10,3] (fun vi vo wr=>∃ i:Nat,i≤n∧vi=.int .i64 i∧Hid (zP 5 wr w.heap.size vo (Cod.net Wot.tPublic++Cod.zAU (l.take i))∧Below w.heap.size w wr)) (fun vi _ _=>n - (intOf vi).toNat)
 case atStart=>exact ⟨0,by omega,rfl,by rw [List.take_zero,show Cod.zAU []=[] from rfl,List.append_nil];exact H1.out.1,H1.out.2⟩
 case round =>
  obtain ⟨i,hi,rfl,G⟩:=hrel
  by_cases h0:i < n
  · have i0:(0:Int)≤(i:Int):=by omega
    have i1:(i:Int) < (n:Int):=by omega
    obtain ⟨x,hx⟩:∃ x,l[i]?=some x:=⟨_,List.getElem?_eq_getElem (by have:=H.out.2.2.1;omega)⟩
    have how:=H.out.1.chg (S:=fun _=>False) (Chg.of_below G.out.2) (fun _ _=>id)
    obtain ⟨g,cap,e,hrow⟩:=how.ex (by have:=H.out.2.2.1;omega)
    rw [← H.out.2.2.1] at e hrow
    injection e with e1 e2 e3
    subst e1 e3
    have hxl:x.length=32:=hrow.wf x (List.mem_of_getElem? hx)
    have hbx:=zKA (hrow.range ecH hx) hxl (by decide)
    have htw:=hrow.there h0
    have HX:=Lib.hid (And.intro hx (And.intro hxl (And.intro hbx htw)))
    clear hx hxl hrow how hbx htw
    go_wp2_with fail
    refine (zCT _ x wr HX.out.2.2.1 (by have:=HX.out.2.1;omega)).mono ?_
    rintro e w4 ⟨v4,rfl,h4,hb4⟩
    obtain ⟨a4,c4,e4⟩:=h4.eq_slice
    subst e4
    have hG4:=G.out.1.below hb4
    have hb04:=G.out.2.trans (hb4.mono G.out.2.size)
    have hs4:=hb04.size
    have hnl:(Cod.zAU (l.take i)).length≤1000000:=by
     have:=zBR (l.take i) (fun r hr=>by have:r.length=32:=H.out.1.wf r (List.mem_of_mem_take hr);omega) (by rw [List.length_take];omega)
     omega
    have hnx:(Cod.net x).length≤100:=by
     have h9:Lib.nDigits x.length≤9:=by have:=zAw x.length (by have:=HX.out.2.1;omega);rw [Lib.itoa_nonneg,Lib.decDigits_length] at this;exact this
     rw [Cod.zAL]
     have:=HX.out.2.1
     omega
    have H4:=Lib.hid (And.intro h4 (And.intro hG4 (And.intro hb04 (And.intro hnl hnx))))
    clear h4 hb4 hG4 hb04 hnl hnx
    go_wp2_with (at_builtin;refine zBL E8 rfl _ _ rfl (base:=w.heap.size) (bs:=Cod.net Wot.tPublic++Cod.zAU (l.take i)) (news:=Cod.net x) rfl rfl H4.out.2.1 H4.out.1.bys ?d1 hs4 ?_)
    case d1 =>
     have h1:(Cod.net Wot.tPublic).length≤100:=by
      rw [Cod.zAL,show Wot.tPublic.length=6 from rfl,Lib.nDigits_small (by decide)]
      decide
     have:=H4.out.2.2.2.1
     have:=H4.out.2.2.2.2
     rw [List.length_append]
     omega
    intro v5 w5 h5 hg5
    have hb5:=zN H4.out.2.2.1 hg5 (fun k hk=>(H4.out.2.1.lt k hk).1)
    have H5:=Lib.hid (And.intro h5 hb5)
    clear h5 hb5 hg5
    go_wp2
    refine ⟨⟨i+1,by omega,by go_num,?_,H5.out.2⟩,by simp [intOf];omega⟩
    rw [List.take_add_one,HX.out.1,Option.toList_some,Cod.zC2,← List.append_assoc]
    simpa only [List.append_assoc] using H5.out.1
  · have i1:¬ (i:Int) < (n:Int):=by omega
    obtain rfl:n=i:=by omega
    have htk:l.take n=l:=List.take_of_length_le (by have:=H.out.2.2.1;omega)
    rw [htk] at G
    go_wp2_with fail
    go_ret
    exact ⟨_,rfl,G.out.1,G.out.2⟩
end Go.Proofs.YtdlkghdfkjdajaaGreatDoor
end
section
namespace Go.Proofs.YtdlkghdfkjdajaaGreatDoor
open Go Go.RowKit Go.Mem Gf
set_option linter.unusedVariables false
set_option linter.unusedSimpArgs false
attribute [local go_sem ↓] Go.wp_at_zero Go.wp_at_succ
attribute [local go_sem ↓] zY zU zm zf
attribute [local go_sem] ptrB_eq ptrO_eq ptrIs_eq aggL_eq aggIs_eq zS zV zD zF zJ zK zB
end Go.Proofs.YtdlkghdfkjdajaaGreatDoor
end
section
namespace Go.Proofs.YtdlkghdfkjdajaaGreatDoor
open Go Go.RowKit Go.Mem Gf
set_option linter.unusedVariables false
set_option linter.unusedSimpArgs false
attribute [local go_sem ↓] Go.wp_at_zero Go.wp_at_succ
attribute [local go_sem ↓] zY zU zm zf zBC
attribute [local go_sem] ptrB_eq ptrO_eq ptrIs_eq aggL_eq aggIs_eq zS zV zD zF zJ zK zB
theorem zKC (xs:List UInt8) (w:World) (hx:xs.length=32):(Op.equalIn 10000 34 (.agg (bV xs).toArray) (.agg (bV xs).toArray)).run Tryz.prog w=.ok true w:=by
 have:=zDr (P:=Tryz.prog) w 9998 32 Tryz.underlying34 (Option.some_get (by kernel_rfl)).symm (by kernel_rfl) (by kernel_rfl) xs xs hx hx
 rw [decide_eq_true rfl] at this
 exact this
theorem zC8 {w:World} {b:Nat} {x0 x1 x2 x3:Value} {t:TypeId} (h:Blk w b #[x0,x1,x2,x3] t):w.cell? ⟨b,0,none⟩=some x0∧w.cell? ⟨b,1,none⟩=some x1∧w.cell? ⟨b,2,none⟩=some x2∧w.cell? ⟨b,3,none⟩=some x3 :=
 ⟨by rw [h.cell];rfl,by rw [h.cell];rfl,by rw [h.cell];rfl,by rw [h.cell];rfl⟩
end Go.Proofs.YtdlkghdfkjdajaaGreatDoor
end
section
namespace Go.Proofs.YtdlkghdfkjdajaaGreatDoor
open Go Go.RowKit Go.Mem Gf
set_option linter.unusedVariables false
end Go.Proofs.YtdlkghdfkjdajaaGreatDoor
end
