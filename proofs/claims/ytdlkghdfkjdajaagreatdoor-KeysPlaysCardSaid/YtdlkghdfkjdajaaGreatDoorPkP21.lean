/- Texts of this proof,packed: RKeys,RKeyOpen. -/
import Derived.Test.YtdlkghdfkjdajaaGreatDoorPkP16
import Derived.Test.YtdlkghdfkjdajaaGreatDoorPkP10
import Derived.Test.YtdlkghdfkjdajaaGreatDoorPkP11
import Derived.Test.YtdlkghdfkjdajaaGreatDoorPkP18
import Derived.Test.YtdlkghdfkjdajaaGreatDoorPkP20
import Derived.Test.YtdlkghdfkjdajaaGreatDoorPkP12
section
namespace Go.Proofs.YtdlkghdfkjdajaaGreatDoor
open Go Go.RowKit Go.Mem Gf
set_option linter.unusedVariables false
set_option linter.unusedSimpArgs false
attribute [local go_sem ↓] Go.wp_at_zero Go.wp_at_succ
attribute [local go_sem ↓] zY zU zm zf zBC
attribute [local go_sem] ptrB_eq ptrO_eq ptrIs_eq aggL_eq aggIs_eq zS zV zD zF zJ zK zB
def RSt (w:World) (N:Nat→Prop) (q r B slots room:Nat) (D:zA) (L:List zR) (died:Bool):Prop:=∃ lv ps,zAA w N q r B lv ps D slots room L died
section
variable {w w':World} {N M S:Nat→Prop} {q r B slots room:Nat} {D:zA} {L:List zR} {died:Bool}
theorem RSt.foot (h:RSt w N q r B slots room D L died):∀ b,zAY q r B b→N b:=by
 obtain ⟨lv,ps,h⟩:=h
 exact h.foot
theorem RSt.chg (h:RSt w N q r B slots room D L died) (hc:Chg S w w') (hs:∀ b,S b→b < w.heap.size→N b) (hf:∀ b,zAY q r B b→¬ S b):RSt w' N q r B slots room D L died:=by
 obtain ⟨lv,ps,h⟩:=h
 exact ⟨lv,ps,h.chg hc hs hf⟩
theorem RSt.below (h:RSt w N q r B slots room D L died) (hb:Below w.heap.size w w'):RSt w' N q r B slots room D L died:=by
 obtain ⟨lv,ps,h⟩:=h
 exact ⟨lv,ps,h.below hb⟩
theorem RSt.mono (h:RSt w N q r B slots room D L died) (hM:∀ b,M b→N b∨w.heap.size≤b) (hNM:∀ b,N b→M b):RSt w M q r B slots room D L died:=by
 obtain ⟨lv,ps,h⟩:=h
 exact ⟨lv,ps,{ h with row:=h.row.mono hM,recs:=h.recs.mono hM,nq:=hNM _ h.nq,nr:=hNM _ h.nr,nB:=hNM _ h.nB }⟩
theorem RSt.lt (h:RSt w N q r B slots room D L died):∀ b,zAY q r B b→b < w.heap.size:=by
 obtain ⟨lv,ps,h⟩:=h
 intro b hb
 rcases hb with rfl | rfl | rfl
 · exact h.blk.lt
 · exact h.disk.lt.1
 · exact h.disk.lt.2
end
def zDV (q:Nat) (name:ByteArray) (sd:List UInt8) (h next:Nat):List Value :=
 [.pointer (some ⟨q,0,none⟩),.string name]++bV sd++[.int .i64 h,.int .i64 next]
def zg (w:World) (kb q:Nat) (name:ByteArray) (sd:List UInt8) (h next:Nat):Prop:=Blk w kb (zDV q name sd h next).toArray 107
section
variable {w:World} {kb q h next:Nat} {name:ByteArray} {sd:List UInt8}
theorem zg.c0 (k:zg w kb q name sd h next):w.cell? ⟨kb,0,none⟩=some (.pointer (some ⟨q,0,none⟩)):=by rw [Blk.cell k];rfl
theorem zg.c1 (k:zg w kb q name sd h next):w.cell? ⟨kb,1,none⟩=some (.string name):=by rw [Blk.cell k];rfl
theorem zFQ (hs:sd.length=16) (i:Nat) (x y:Value):([x,y]++bV sd++[Value.int .i64 h,.int .i64 next])[18+i]?=([Value.int .i64 h,.int .i64 next]:List Value)[i]?:=by
 have h1:([x,y]++bV sd).length=18:=by simp [zG,hs]
 rw [List.getElem?_append_right (by omega),h1,Nat.add_sub_cancel_left]
theorem zg.c18 (k:zg w kb q name sd h next) (hs:sd.length=16):w.cell? ⟨kb,18,none⟩=some (.int .i64 h):=by
 rw [Blk.cell k,List.getElem?_toArray]
 exact zFQ hs 0 _ _
theorem zg.c19 (k:zg w kb q name sd h next) (hs:sd.length=16):w.cell? ⟨kb,19,none⟩=some (.int .i64 next):=by
 rw [Blk.cell k,List.getElem?_toArray]
 exact zFQ hs 1 _ _
theorem zg.set (k:zg w kb q name sd h next) (hs:sd.length=16) (n:Nat):zg (w.setCell ⟨kb,19,none⟩ (.int .i64 n)) kb q name sd h n:=by
 have h2:=Blk.set k 19 (.int .i64 n)
 have e:(zDV q name sd h next).toArray.setIfInBounds 19 (.int .i64 n)=(zDV q name sd h n).toArray:=by
  have h1:([Value.pointer (some ⟨q,0,none⟩),.string name]++bV sd).length=18:=by simp [zG,hs]
  unfold zDV
  rw [List.setIfInBounds_toArray,List.set_append_right _ _ (by omega),h1]
  rfl
 rw [e] at h2
 exact h2
theorem zg.rng (k:zg w kb q name sd h next):w.rangeAt kb 2 (bV sd):=fun j v hv=>by
 rw [Blk.cell k,List.getElem?_toArray]
 have hj:=zBW hv
 unfold zDV
 rw [List.append_assoc,List.getElem?_append_right (by simp),List.getElem?_append_left (by simp;exact hj)]
 rw [show 2+j - [Value.pointer (some ⟨q,0,none⟩),Value.string name].length=j from by simp]
 exact hv
end
def zCc (o:Option (List UInt8)) (next:Nat):Nat:=match o with
 | none=>next
 | some b=>max next (Cod.zAh b)
theorem zKa (w:World) (dn:Nat) (N:Nat→Prop) (q r B slots room:Nat) (D:zA) (L:List zR) (died:Bool) (h:RSt w N q r B slots room D L died) (name:ByteArray) :
  Calls Tryz.prog 79 #[.pointer (some ⟨q,0,none⟩),.string name] (w.drewN dn) fun e w'=>∃ x y,e=.returned (.tuple #[x,y])∧(Bys w' x ((zAc L died name).getD [])∧Below w.heap.size w w'):=by
 have hb:=below_drewN (Below.refl w.heap.size w) dn
 obtain ⟨lv,ps,h⟩:=h
 refine (zGq (w.drewN dn) N q r B lv ps D slots room L died (h.below hb) name).mono ?_
 rintro e w1 ⟨⟨h0,rfl⟩ | ⟨v,bs,h0,rfl,hv⟩,hb1⟩
 · exact ⟨_,_,rfl,by rw [h0];exact Bys.nil _,hb.trans hb1⟩
 · exact ⟨_,_,rfl,by rw [h0];exact hv.bys,hb.trans hb1⟩
set_option maxRecDepth 20000 in
set_option maxHeartbeats 2000000 in
theorem zDq (w:World) (N:Nat→Prop) (kb q r B slots room:Nat) (Ds:zA) (L:List zR) (died:Bool) (name:ByteArray) (sd:List UInt8) (h next:Nat) (hk:zg w kb q name sd h next) (hst:RSt w N q r B slots room Ds L died) (hs:sd.length=16) (hN:N kb) (hf:¬ zAY q r B kb) (h4:∀ b,zAc L died name=some b→b.length≤7) (hnx:next≤4611686018427387904) :
  Calls Tryz.prog 47 #[.pointer (some ⟨kb,0,none⟩)] w fun e w'=>e=.returned (.tuple #[])∧zg w' kb q name sd h (zCc (zAc L died name) next)∧RSt w' N q r B slots room Ds L died∧Chg (fun b=>b=kb) w w':=by
 have HC:=Lib.hid (show (∀ w',Below w.heap.size w w'→w'.cell? ⟨kb,0,none⟩=some (.pointer (some ⟨q,0,none⟩)))∧(∀ w',Below w.heap.size w w'→w'.cell? ⟨kb,1,none⟩=some (.string name)) from
  ⟨fun w' hb=>zg.c0 (Blk.kept hk hb),fun w' hb=>zg.c1 (Blk.kept hk hb)⟩)
 have H:=Lib.hid (And.intro hk (And.intro hst (And.intro hN (And.intro hf h4))))
 clear hk hst hN hf h4
 go_enter Tryz.func47,Tryz.ntmps47
 go_upto_region 0 with fail
 refine Tail.zT 13 (fun k=>k == 8) (fun k=>none)
  (fun D z w'=>(D 8=false→∃ n,w'=World.drewN w n)∧(D 8=true→∃ x_ y,z 8=.tuple #[x_,y]∧(Bys w' x_ ((zAc L died name).getD [])∧Below w.heap.size w w')))
  (by kernel_rfl) (by kernel_rfl) (fun k hk=>by simp at hk;omega) (fun D z z' w' hz h=>⟨h.1,fun d=>by rw [← hz 8 d];exact h.2 d⟩)
  (⟨fun _=>⟨1,rfl⟩,(fun h=>by cases h)⟩) (fun z=>?_)
 simp only [List.take_succ_cons,List.take_zero,List.drop_succ_cons,List.drop_zero]
 refine Tail.zI (by rfl) (by rfl) ?_
 apply Exists.intro
 refine ⟨fun w=>?_,?_⟩
 · go_simp <;> with_reducible rfl
 simp only [Act.put,List.setIfInBounds_toArray,List.set_cons_zero,List.set_cons_succ,Nat.reduceAdd,Nat.reduceEqDiff,reduceIte,Option.getD_some,Option.getD_none]
 refine Tail.zI (by rfl) (by rfl) ?_
 apply Exists.intro
 refine ⟨fun w=>?_,?_⟩
 · go_simp <;> with_reducible rfl
 simp only [Act.put,List.setIfInBounds_toArray,List.set_cons_zero,List.set_cons_succ,Nat.reduceAdd,Nat.reduceEqDiff,reduceIte,Option.getD_some,Option.getD_none]
 refine Tail.zI (by rfl) (by rfl) ?_
 apply Exists.intro
 refine ⟨fun w=>?_,?_⟩
 · go_simp <;> with_reducible rfl
 simp only [Act.put,List.setIfInBounds_toArray,List.set_cons_zero,List.set_cons_succ,Nat.reduceAdd,Nat.reduceEqDiff,reduceIte,Option.getD_some,Option.getD_none]
 refine Tail.zA0 (by rfl) (by rfl) ?_
 apply Exists.intro
 refine ⟨fun D w' hd hp hJ=>?_,?_⟩
 · obtain ⟨dn,hdn⟩:=hJ.1 (hp 8 (by kernel_rfl))
   have cc:=HC.out.1 w' (by rw [hdn];exact below_drewN (Below.refl _ _) dn)
   clear hdn dn
   go_simp <;> with_reducible rfl
 simp only [Act.put,List.setIfInBounds_toArray,List.set_cons_zero,List.set_cons_succ,Nat.reduceAdd,Nat.reduceEqDiff,reduceIte,Option.getD_some,Option.getD_none]
 refine Tail.zI (by rfl) (by rfl) ?_
 apply Exists.intro
 refine ⟨fun w=>?_,?_⟩
 · go_simp <;> with_reducible rfl
 simp only [Act.put,List.setIfInBounds_toArray,List.set_cons_zero,List.set_cons_succ,Nat.reduceAdd,Nat.reduceEqDiff,reduceIte,Option.getD_some,Option.getD_none]
 refine Tail.zI (by rfl) (by rfl) ?_
 apply Exists.intro
 refine ⟨fun w=>?_,?_⟩
 · go_simp <;> with_reducible rfl
 simp only [Act.put,List.setIfInBounds_toArray,List.set_cons_zero,List.set_cons_succ,Nat.reduceAdd,Nat.reduceEqDiff,reduceIte,Option.getD_some,Option.getD_none]
 refine Tail.zI (by rfl) (by rfl) ?_
 apply Exists.intro
 refine ⟨fun w=>?_,?_⟩
 · go_simp <;> with_reducible rfl
 simp only [Act.put,List.setIfInBounds_toArray,List.set_cons_zero,List.set_cons_succ,Nat.reduceAdd,Nat.reduceEqDiff,reduceIte,Option.getD_some,Option.getD_none]
 refine Tail.zA0 (by rfl) (by rfl) ?_
 apply Exists.intro
 refine ⟨fun D w' hd hp hJ=>?_,?_⟩
 · obtain ⟨dn,hdn⟩:=hJ.1 (hp 8 (by kernel_rfl))
   have cc:=HC.out.2 w' (by rw [hdn];exact below_drewN (Below.refl _ _) dn)
   clear hdn dn
   go_simp <;> with_reducible rfl
 simp only [Act.put,List.setIfInBounds_toArray,List.set_cons_zero,List.set_cons_succ,Nat.reduceAdd,Nat.reduceEqDiff,reduceIte,Option.getD_some,Option.getD_none]
 refine Tail.zAT (by rfl) (by rfl) ?_ ?_
 · apply Exists.intro
   apply Exists.intro
   refine ⟨fun w'=>?_,?_⟩
   · go_simp <;> exact ⟨rfl,rfl⟩
   intro D z' w' hD hz hd hp hJ
   obtain ⟨dn,hdn⟩:=hJ.1 hD
   subst hdn
   refine (zKa w dn N q r B slots room Ds L died H.out.2.1 name).mono ?_
   rintro e w'' ⟨x',y,rfl,hxy⟩
   refine ⟨_,rfl,fun c hc=>by simp at hc,fun h=>?_,fun _=>?_⟩
   · simp [Tail.zAp] at h
   · exact ⟨x',y,by simp [Tail.zAb],hxy⟩
 simp only [Act.put,List.setIfInBounds_toArray,List.set_cons_zero,List.set_cons_succ,Nat.reduceAdd,Nat.reduceEqDiff,reduceIte,Option.getD_some,Option.getD_none]
 refine Tail.zI (by rfl) (by rfl) ?_
 apply Exists.intro
 refine ⟨fun w=>?_,?_⟩
 · go_simp <;> with_reducible rfl
 simp only [Act.put,List.setIfInBounds_toArray,List.set_cons_zero,List.set_cons_succ,Nat.reduceAdd,Nat.reduceEqDiff,reduceIte,Option.getD_some,Option.getD_none]
 refine Tail.zA0 (by rfl) (by rfl) ?_
 refine ⟨zBM (z 8) 0,fun D w' hd hp hJ=>?_,?_⟩
 · obtain ⟨x',y,e,_⟩:=hJ.2 (hd 8 (by kernel_rfl))
   rw [show zBM (z 8) 0=x' from by rw [e];rfl]
   simp only [e]
   go_simp <;> with_reducible rfl
 simp only [Act.put,List.setIfInBounds_toArray,List.set_cons_zero,List.set_cons_succ,Nat.reduceAdd,Nat.reduceEqDiff,reduceIte,Option.getD_some,Option.getD_none]
 refine Tail.zA0 (by rfl) (by rfl) ?_
 refine ⟨zBM (z 8) 1,fun D w' hd hp hJ=>?_,?_⟩
 · obtain ⟨x',y,e,_⟩:=hJ.2 (hd 8 (by kernel_rfl))
   rw [show zBM (z 8) 1=y from by rw [e];rfl]
   simp only [e]
   go_simp <;> with_reducible rfl
 simp only [Act.put,List.setIfInBounds_toArray,List.set_cons_zero,List.set_cons_succ,Nat.reduceAdd,Nat.reduceEqDiff,reduceIte,Option.getD_some,Option.getD_none]
 refine Tail.zI (by rfl) (by rfl) ?_
 apply Exists.intro
 refine ⟨fun w=>?_,?_⟩
 · go_simp <;> with_reducible rfl
 simp only [Act.put,List.setIfInBounds_toArray,List.set_cons_zero,List.set_cons_succ,Nat.reduceAdd,Nat.reduceEqDiff,reduceIte,Option.getD_some,Option.getD_none]
 intro w1 hJ
 obtain ⟨a1,e1,hz,hxy⟩:=hJ.2 rfl
 rw [show zBM (z 8) 0=a1 from by rw [hz];rfl,show zBM (z 8) 1=e1 from by rw [hz];rfl,hz]
 clear hJ hz z
 obtain ⟨hv1,hb1⟩:=hxy
 have hk1:zg w1 kb q name sd h next:=Blk.kept H.out.1 hb1
 have H1:=Lib.hid (And.intro hk1 (And.intro (H.out.2.1.below hb1) (Chg.of_below (S:=fun b=>b=kb) hb1)))
 obtain ⟨ob,hob⟩:∃ o,o=zAc L died name:=⟨_,rfl⟩
 have h4:=H.out.2.2.2.2
 rw [← hob] at hv1 h4
 have HO:=Lib.hid hob
 clear hk1 hob hb1
 have hbl:(ob.getD []).length≤7:=by
  cases ob with
  | none=>decide
  | some b=>exact h4 b rfl
 have hlk:zCc ob next=max next (Cod.zAh (ob.getD [])):=by
  cases ob with
  | none=>exact (Nat.max_zero next).symm
  | some b=>rfl
 have hget:=zFP a1 (ob.getD []) w1 hv1 hbl
 have hgb:=Cod.zBV (ob.getD []) hbl
 obtain ⟨g,hg⟩:∃ g,g=Cod.zAh (ob.getD []):=⟨_,rfl⟩
 rw [← hg] at hget hgb hlk
 have HG:=Lib.hid (And.intro hget hlk)
 have c19:=H1.out.1.c19 hs
 have f19:=Blk.free H1.out.1 19
 clear hget hg hv1 h4 hbl hlk
 go_wp2_with fail
 refine HG.out.1.mono ?_
 rintro e _ ⟨rfl,rfl⟩
 go_wp2_with fail
 go_end0
 rw [← HO.out,HG.out.2,show max (next:Int) (g:Int)=((max next g:Nat):Int) by omega]
 have hc:Chg (fun b=>b=kb) w1 (w1.setCell ⟨kb,19,none⟩ (.int .i64 (max next g:Nat))):=Chg.set (S:=fun b=>b=kb) (a:=⟨kb,19,none⟩) (Chg.refl _ _) rfl _
 exact ⟨rfl,H1.out.1.set hs _,H1.out.2.1.chg hc (fun b e _=>by subst e;exact H.out.2.2.1) (fun b hb e=>by subst e;exact H.out.2.2.2.1 hb),H1.out.2.2.trans hc⟩
set_option maxRecDepth 20000 in
set_option maxHeartbeats 2000000 in
theorem zDp (w:World) (N:Nat→Prop) (kb q r B slots room:Nat) (Ds:zA) (L:List zR) (died:Bool) (name:ByteArray) (sd:List UInt8) (h next:Nat) (hk:zg w kb q name sd h next) (hst:RSt w N q r B slots room Ds L died) (hs:sd.length=16) (hN:N kb) (hf:¬ zAY q r B kb) (h4:∀ b,zAc L died name=some b→b.length≤7) (hnx:next≤1000000) (hh:h≤4) :
  Calls Tryz.prog 25 #[.pointer (some ⟨kb,0,none⟩)] w fun e w'=>e=.returned (.int .i64 ((2 ^ h - zCc (zAc L died name) next:Nat):Int))∧zg w' kb q name sd h (zCc (zAc L died name) next)∧RSt w' N q r B slots room Ds L died∧Chg (fun b=>b=kb) w w':=by
 have hlk:=zDq w N kb q r B slots room Ds L died name sd h next hk hst hs hN hf h4 (by omega)
 have hnx2:zCc (zAc L died name) next < 72057594037927936:=by
  unfold zCc
  cases hg:zAc L died name with
  | none=>simp only;omega
  | some b =>
    have:=Cod.zBV b (h4 b hg)
    simp only
    omega
 obtain ⟨nx,hnxx⟩:∃ n,n=zCc (zAc L died name) next:=⟨_,rfl⟩
 rw [← hnxx] at hlk hnx2 ⊢
 obtain ⟨n,hn⟩:∃ n,n=2 ^ h:=⟨_,rfl⟩
 have hnb:n≤16:=by rw [hn];exact Nat.pow_le_pow_right (by decide) hh
 have hsh:IntKind.i64.wrap (2 ^ h)=(n:Int):=by
  rw [hn]
  have:((2:Int) ^ h)=((2 ^ h:Nat):Int):=by simp
  rw [this]
  exact IntWalk.i64_in _ (by rw [← hn];omega)
 have hsh2:IntKind.i64.wrap (2 ^ min (IntKind.u64.wrap (h:Int)).toNat 64)=(n:Int):=by
  rw [show IntKind.u64.wrap (h:Int)=(h:Int) from by rw [IntKind.wrap_u64];omega,Int.toNat_natCast,Nat.min_eq_left (by omega)]
  exact hsh
 rw [← hn]
 have q1:IntKind.i64.wrap ((n:Int) - (nx:Int))=(n:Int) - (nx:Int):=IntWalk.i64_in _ (by omega)
 have q2:max ((n:Int) - (nx:Int)) 0=((n - nx:Nat):Int):=by omega
 have HL:=Lib.hid hlk
 clear hlk hk hst hN hf h4 hnxx hn
 go_enter Tryz.func25,Tryz.ntmps25
 go_wp2_with fail
 refine HL.out.mono ?_
 rintro e w1 ⟨rfl,hk1,hst1,hc1⟩
 have HK1:=Lib.hid (And.intro (hk1.c18 hs) (hk1.c19 hs))
 have H1:=Lib.hid (And.intro hk1 (And.intro hst1 hc1))
 clear hk1 hst1 hc1
 go_upto_region 2 with fail
 refine Tail.zT 12 (fun k=>false) (fun k=>none)
  (fun D z w'=>∃ n,w'=w1.drewN n)
  (by kernel_rfl) (by kernel_rfl) (fun k hk=>by cases hk) (fun D z z' w' hz h=>h)
  (⟨1,rfl⟩) (fun z=>?_)
 simp only [List.take_succ_cons,List.take_zero,List.drop_succ_cons,List.drop_zero]
 refine Tail.zI (by rfl) (by rfl) ?_
 apply Exists.intro
 refine ⟨fun w=>?_,?_⟩
 · go_simp <;> with_reducible rfl
 simp only [Act.put,List.setIfInBounds_toArray,List.set_cons_zero,List.set_cons_succ,Nat.reduceAdd,Nat.reduceEqDiff,reduceIte,Option.getD_some,Option.getD_none]
 refine Tail.zI (by rfl) (by rfl) ?_
 apply Exists.intro
 refine ⟨fun w=>?_,?_⟩
 · go_simp <;> with_reducible rfl
 simp only [Act.put,List.setIfInBounds_toArray,List.set_cons_zero,List.set_cons_succ,Nat.reduceAdd,Nat.reduceEqDiff,reduceIte,Option.getD_some,Option.getD_none]
 refine Tail.zI (by rfl) (by rfl) ?_
 apply Exists.intro
 refine ⟨fun w=>?_,?_⟩
 · go_simp <;> with_reducible rfl
 simp only [Act.put,List.setIfInBounds_toArray,List.set_cons_zero,List.set_cons_succ,Nat.reduceAdd,Nat.reduceEqDiff,reduceIte,Option.getD_some,Option.getD_none]
 refine Tail.zA0 (by rfl) (by rfl) ?_
 apply Exists.intro
 refine ⟨fun D w' hd hp hJ=>?_,?_⟩
 · have cc:=(show w'.cell? ⟨kb,18,none⟩=some (.int .i64 h) from by obtain ⟨n,rfl⟩:=hJ;exact HK1.out.1)
   clear hJ
   go_simp <;> with_reducible rfl
 simp only [Act.put,List.setIfInBounds_toArray,List.set_cons_zero,List.set_cons_succ,Nat.reduceAdd,Nat.reduceEqDiff,reduceIte,Option.getD_some,Option.getD_none]
 refine Tail.zI (by rfl) (by rfl) ?_
 apply Exists.intro
 refine ⟨fun w=>?_,?_⟩
 · go_simp <;> with_reducible rfl
 simp only [Act.put,List.setIfInBounds_toArray,List.set_cons_zero,List.set_cons_succ,Nat.reduceAdd,Nat.reduceEqDiff,reduceIte,Option.getD_some,Option.getD_none]
 refine Tail.zI (by rfl) (by rfl) ?_
 apply Exists.intro
 refine ⟨fun w=>?_,?_⟩
 · go_simp <;> with_reducible rfl
 simp only [Act.put,List.setIfInBounds_toArray,List.set_cons_zero,List.set_cons_succ,Nat.reduceAdd,Nat.reduceEqDiff,reduceIte,Option.getD_some,Option.getD_none]
 refine Tail.zI (by rfl) (by rfl) ?_
 apply Exists.intro
 refine ⟨fun w=>?_,?_⟩
 · go_simp <;> with_reducible rfl
 simp only [Act.put,List.setIfInBounds_toArray,List.set_cons_zero,List.set_cons_succ,Nat.reduceAdd,Nat.reduceEqDiff,reduceIte,Option.getD_some,Option.getD_none]
 refine Tail.zI (by rfl) (by rfl) ?_
 apply Exists.intro
 refine ⟨fun w=>?_,?_⟩
 · go_simp <;> with_reducible rfl
 simp only [Act.put,List.setIfInBounds_toArray,List.set_cons_zero,List.set_cons_succ,Nat.reduceAdd,Nat.reduceEqDiff,reduceIte,Option.getD_some,Option.getD_none]
 refine Tail.zI (by rfl) (by rfl) ?_
 apply Exists.intro
 refine ⟨fun w=>?_,?_⟩
 · go_simp <;> with_reducible rfl
 simp only [Act.put,List.setIfInBounds_toArray,List.set_cons_zero,List.set_cons_succ,Nat.reduceAdd,Nat.reduceEqDiff,reduceIte,Option.getD_some,Option.getD_none]
 refine Tail.zA0 (by rfl) (by rfl) ?_
 apply Exists.intro
 refine ⟨fun D w' hd hp hJ=>?_,?_⟩
 · have cc:=(show w'.cell? ⟨kb,19,none⟩=some (.int .i64 nx) from by obtain ⟨n,rfl⟩:=hJ;exact HK1.out.2)
   clear hJ
   go_simp <;> with_reducible rfl
 simp only [Act.put,List.setIfInBounds_toArray,List.set_cons_zero,List.set_cons_succ,Nat.reduceAdd,Nat.reduceEqDiff,reduceIte,Option.getD_some,Option.getD_none]
 refine Tail.zI (by rfl) (by rfl) ?_
 apply Exists.intro
 refine ⟨fun w=>?_,?_⟩
 · go_simp <;> with_reducible rfl
 simp only [Act.put,List.setIfInBounds_toArray,List.set_cons_zero,List.set_cons_succ,Nat.reduceAdd,Nat.reduceEqDiff,reduceIte,Option.getD_some,Option.getD_none]
 refine Tail.zI (by rfl) (by rfl) ?_
 apply Exists.intro
 refine ⟨fun w=>?_,?_⟩
 · go_simp <;> with_reducible rfl
 simp only [Act.put,List.setIfInBounds_toArray,List.set_cons_zero,List.set_cons_succ,Nat.reduceAdd,Nat.reduceEqDiff,reduceIte,Option.getD_some,Option.getD_none]
 intro w2 hJ
 obtain ⟨dn,rfl⟩:=hJ
 clear z
 go_wp2
 go_ret
 exact ⟨rfl,H1.out.1,H1.out.2.1.below (below_drewN (Below.refl _ _) dn),H1.out.2.2.trans (Chg.of_below (below_drewN (Below.refl _ _) dn))⟩
structure RJ (w2:World) (N:Nat→Prop) (kb q r B slots room:Nat) (Ds:zA) (L:List zR) (died:Bool) (name:ByteArray) (sd:List UInt8) (h next:Nat) (R:Int × zA × List zR × Bool) (n:Nat) (zv:Value) (b1 b2:Bool) (w':World):Prop where
 ks:zg w' kb q name sd h next
 nf:¬ zAY q r B kb
 base:RSt w2 N q r B slots room Ds L died
 old:∀ b,N b→b < w2.heap.size
 now:(b2=false∧Below w2.heap.size w2 w'∧(b1=true→zP 5 w' w2.heap.size zv (Cod.be 4 n)))∨(b2=true∧RSt w' N q r B slots room R.2.1 R.2.2.1 R.2.2.2∧Chg (zAY q r B) w2 w')
section
variable {w2 w' w'':World} {N:Nat→Prop} {kb q r B slots room h next n:Nat} {Ds:zA} {L:List zR} {died:Bool} {R:Int × zA × List zR × Bool} {name:ByteArray} {sd:List UInt8} {zv v:Value} {b1 b2:Bool}
theorem RJ.start (hk:zg w2 kb q name sd h next) (hs:RSt w2 N q r B slots room Ds L died) (hf:¬ zAY q r B kb) (ho:∀ b,N b→b < w2.heap.size):RJ w2 N kb q r B slots room Ds L died name sd h next R n zv false false w2.drew :=
 ⟨hk,hf,hs,ho,.inl ⟨rfl,(Below.refl _ _).drew,fun e=>by cases e⟩⟩
theorem RJ.swap (j:RJ w2 N kb q r B slots room Ds L died name sd h next R n zv false b2 w') (v:Value):RJ w2 N kb q r B slots room Ds L died name sd h next R n v false b2 w' :=
 ⟨j.ks,j.nf,j.base,j.old,by
  rcases j.now with ⟨a,b,_⟩ | c
  · exact .inl ⟨a,b,fun e=>by cases e⟩
  · exact .inr c⟩
theorem RJ.made (j:RJ w2 N kb q r B slots room Ds L died name sd h next R n zv false false w') (hv:zP 5 w'' w'.heap.size v (Cod.be 4 n)) (hb:Below w'.heap.size w' w''):RJ w2 N kb q r B slots room Ds L died name sd h next R n v true false w'':=by
 rcases j.now with ⟨_,b,_⟩ | ⟨e,_⟩
 · exact ⟨Blk.kept j.ks hb,j.nf,j.base,j.old,.inl ⟨rfl,b.trans (hb.mono b.size),fun _=>hv.mono b.size⟩⟩
 · cases e
theorem RJ.mid (j:RJ w2 N kb q r B slots room Ds L died name sd h next R n zv true false w'):Below w2.heap.size w2 w'∧zP 5 w' w2.heap.size zv (Cod.be 4 n):=by
 rcases j.now with ⟨_,b,c⟩ | ⟨e,_⟩
 · exact ⟨b,c rfl⟩
 · cases e
theorem RJ.st (j:RJ w2 N kb q r B slots room Ds L died name sd h next R n zv true false w'):RSt w' N q r B slots room Ds L died:=j.base.below j.mid.1
theorem RJ.z (j:RJ w2 N kb q r B slots room Ds L died name sd h next R n zv true false w'):zA1 w' N zv (Cod.be 4 n) :=
 (j.mid.2.data (fun b hb _ hn=>by have:=j.old b hn;omega)).z
theorem RJ.lt (j:RJ w2 N kb q r B slots room Ds L died name sd h next R n zv true false w'):∀ b,N b→b < w'.heap.size:=fun b hb=>Nat.lt_of_lt_of_le (j.old b hb) j.mid.1.size
theorem RJ.put (j:RJ w2 N kb q r B slots room Ds L died name sd h next R n zv true false w') (hs:RSt w'' N q r B slots room R.2.1 R.2.2.1 R.2.2.2) (hc:Chg (zAY q r B) w' w'') (v:Value):RJ w2 N kb q r B slots room Ds L died name sd h next R n v true true w'' :=
 ⟨hc.blk j.ks j.nf,j.nf,j.base,j.old,.inr ⟨rfl,hs,(Chg.of_below j.mid.1).trans hc⟩⟩
theorem RJ.fin (j:RJ w2 N kb q r B slots room Ds L died name sd h next R n zv true true w'):zg w' kb q name sd h next∧RSt w' N q r B slots room R.2.1 R.2.2.1 R.2.2.2∧Chg (zAY q r B) w2 w':=by
 rcases j.now with ⟨e,_⟩ | ⟨_,a,b⟩
 · cases e
 · exact ⟨j.ks,a,b⟩
end
def KR (kb q r B:Nat) (b:Nat):Prop:=b=kb∨zAY q r B b
def RStN (w:World) (N:Nat→Prop) (q r B slots room:Nat) (D:zA) (L:List zR) (died:Bool) (w':World):Prop:=∃ N':Nat→Prop,(∀ b,N b→N' b)∧(∀ b,N' b→N b∨w.heap.size≤b)∧(∀ b,N' b→b < w'.heap.size)∧RSt w' N' q r B slots room D L died
def zIe (w:World) (N:Nat→Prop) (kb q r B slots room:Nat) (Ds:zA) (L:List zR) (died:Bool) (name:ByteArray) (sd:List UInt8) (h nx:Nat) (R:Int × zA × List zR × Bool) (m:List UInt8) (e:Ending) (w':World):Prop :=
 (2 ^ h≤nx∧e=.returned (.tuple #[zCe,.int .i64 9])∧zg w' kb q name sd h nx∧RStN w N q r B slots room Ds L died w'∧Chg (KR kb q r B) w w') ∨
 (nx < 2 ^ h∧R.1≠0∧e=.returned (.tuple #[zCe,.int .i64 R.1])∧zg w' kb q name sd h nx∧RStN w N q r B slots room R.2.1 R.2.2.1 R.2.2.2 w'∧Chg (KR kb q r B) w w') ∨
 (nx < 2 ^ h∧R.1=0∧∃ vv pv,e=.returned (.tuple #[.agg #[.int .i64 h,.int .i64 nx,vv,pv],.int .i64 0]) ∧
  zL bV WfH 32 34 w' w.heap.size vv (Wot.signO sd nx m)∧zL bV WfH 32 34 w' w.heap.size pv (Wot.proof h nx (Wot.leaves sd (2 ^ h))) ∧
  zg w' kb q name sd h (nx+1)∧RStN w N q r B slots room R.2.1 R.2.2.1 R.2.2.2 w'∧Chg (KR kb q r B) w w')
set_option maxRecDepth 20000 in
set_option maxHeartbeats 2000000 in
theorem zGu (w:World) (N:Nat→Prop) (kb q r B slots room:Nat) (Ds:zA) (L:List zR) (died:Bool) (name:ByteArray) (sd:List UInt8) (h next:Nat) (v:Value) (m:List UInt8) (hk:zg w kb q name sd h next) (hst:RSt w N q r B slots room Ds L died) (hold:∀ b,N b→b < w.heap.size) (hs:sd.length=16) (hN:N kb) (hf:¬ zAY q r B kb) (h4:∀ b,zAc L died name=some b→b.length≤7) (hnx:next≤1000000) (hh:h≤4)
  (hT:∀ w',Chg (KR kb q r B) w w'→Tab w') (hv:∀ w',Chg (KR kb q r B) w w'→Bys w' v m) (hm:m.length≤1000) (hnm:name.size≤1000000) (hfew:Ds.writes < 4611686018427000000)
  (nx:Nat) (hnxx:nx=zCc (zAc L died name) next) (R:Int × zA × List zR × Bool) (hR:R=zAX slots room Ds L died name (Cod.be 4 (nx+1))) (hlen:∀ sl,zAJ L slots slots=some sl→(zAf zR.name L ⟨name,zBa L name,Cod.be 4 (nx+1),sl⟩).length≤slots) (hnum:zBa L name < 1000000000000) :
  Calls Tryz.prog 22 #[.pointer (some ⟨kb,0,none⟩),v] w (zIe w N kb q r B slots room Ds L died name sd h nx R m):=by
 obtain ⟨va,vc,hvv⟩:=(hv w (Chg.refl _ _)).eq_slice
 subst hvv
 obtain ⟨mn,hmn⟩:∃ n,n=m.length:=⟨_,rfl⟩
 rw [← hmn] at hv ⊢
 have hlf:=fun w1 (hb:Below w.heap.size w w1) (N1:Nat→Prop) (hst1:RSt w1 N1 q r B slots room Ds L died) (hN1:N1 kb)=>zDp w1 N1 kb q r B slots room Ds L died name sd h next (Blk.kept hk hb) hst1 hs hN1 hf h4 hnx hh
 have hnxb:nx≤72057594037927936:=by
  rw [hnxx]
  unfold zCc
  cases hg:zAc L died name with
  | none=>simp only;omega
  | some b =>
    have:=Cod.zBV b (h4 b hg)
    simp only
    omega
 rw [← hnxx] at hlf
 unfold zIe
 obtain ⟨n,hn⟩:∃ n,n=2 ^ h:=⟨_,rfl⟩
 have hnb:n≤16:=by rw [hn];exact Nat.pow_le_pow_right (by decide) hh
 rw [← hn] at hlf ⊢
 have H:=Lib.hid (And.intro hk (And.intro hst (And.intro hlf (And.intro hT (And.intro hv hn)))))
 have HP:=Lib.hid (And.intro hlen (And.intro hnum hR))
 have hkl:kb < w.heap.size:=Blk.lt hk
 clear hk hst hlf hT hv hn hnxx hmn hlen hnum hR h4 hnx
 go_enter Tryz.func22,Tryz.ntmps22
 go_upto_region 1 with fail
 obtain ⟨w1,hw1⟩:∃ q,q=w.alloc (.cells #[.int .i64 0,.int .i64 0,.slice none 0 0,.slice none 0 0] 48):=⟨_,rfl⟩
 obtain ⟨p2,hp2⟩:∃ q,q=w.heap.size:=⟨_,rfl⟩
 have hb1:Below w.heap.size w w1:=by rw [hw1];exact (Below.refl _ _).alloc (Nat.le_refl _) _
 have hk1:Blk w1 p2 #[.int .i64 0,.int .i64 0,.slice none 0 0,.slice none 0 0] 48:=by rw [hw1,hp2];exact Blk.new _ _ _
 have hs01:w1.heap.size=w.heap.size+1:=by rw [hw1];simp
 rw [← hw1,← hp2]
 have hfl:∀ b,zAY q r B b→b < w.heap.size:=H.out.2.1.lt
 obtain ⟨N1,hN1⟩:∃ N1:Nat→Prop,N1=fun b=>N b∨b=p2:=⟨_,rfl⟩
 have hst1:RSt w1 N1 q r B slots room Ds L died:=by
  rw [hN1]
  exact (H.out.2.1.mono (fun b hb=>hb.elim .inl (fun e=>.inr (by omega))) (fun b hb=>.inl hb)).below hb1
 have hNk:N1 kb:=by rw [hN1];exact .inl hN
 have HNN:=Lib.hid (show (∀ b,N b→N1 b)∧(∀ b,N1 b→N b∨w.heap.size≤b)∧N1 p2∧(∀ b,N1 b→b < w1.heap.size) from by
  rw [hN1]
  exact ⟨fun b hb=>.inl hb,fun b hb=>hb.elim .inl (fun e=>.inr (by omega)),.inr rfl,fun b hb=>hb.elim (fun hb=>by have:=hold b hb;omega) (fun e=>by omega)⟩)
 have H1:=Lib.hid (And.intro hb1 (And.intro hk1 (And.intro hp2 (And.intro hkl (And.intro hfl hst1)))))
 clear hw1 hp2 hb1 hk1 hkl hfl hN1 hN hst1 hold
 go_wp2_with fail
 refine (H.out.2.2.1 w1 H1.out.1 N1 H1.out.2.2.2.2.2 hNk).mono ?_
 rintro e w2 ⟨rfl,hk2,hst2,hc2⟩
 have hkf:∀ b,b=kb→KR kb q r B b:=fun b hb=>.inl hb
 have hc02:Chg (KR kb q r B) w w2:=(Chg.of_below H1.out.1).trans (hc2.mono hkf)
 have hsg2:Blk w2 p2 #[.int .i64 0,.int .i64 0,.slice none 0 0,.slice none 0 0] 48:=hc2.blk H1.out.2.1 (fun e=>by have:=H1.out.2.2.1;have:=H1.out.2.2.2.1;have e:p2=kb:=e;omega)
 have hf2:=hf
 have H2:=Lib.hid (And.intro hk2 (And.intro hst2 (And.intro (And.intro hc02 hsg2) (fun (b:Nat) (hb:N1 b)=>Nat.lt_of_lt_of_le (HNN.out.2.2.2 b hb) hc2.size))))
 clear hk2 hst2 hc2 hc02 hsg2 hf hkf
 have hfin:∀ (w3:World) (D3:zA) (L3:List zR) (dd:Bool) (nn:Nat) (cs:List Value),RSt w3 N1 q r B slots room D3 L3 dd→zg w3 kb q name sd h nn→Chg (KR kb q r B) w w3→w2.heap.size≤w3.heap.size→zg (w3.setCells p2 0 cs) kb q name sd h nn∧RStN w N q r B slots room D3 L3 dd (w3.setCells p2 0 cs)∧Chg (KR kb q r B) w (w3.setCells p2 0 cs):=fun w3 D3 L3 dd nn cs i1 i2 i3 i4=>by
  have hc:Chg (fun b=>b=p2) w3 (w3.setCells p2 0 cs):=Chg.setCells (S:=fun b=>b=p2) (L:=p2) rfl _ _ _ (Chg.refl _ _)
  have hne:kb≠p2:=by have:=H1.out.2.2.1;have:=H1.out.2.2.2.1;omega
  refine ⟨Blk.setCells_other hne cs 0 _ i2,⟨N1,HNN.out.1,HNN.out.2.1,fun b hb=>by have:=H2.out.2.2.2 b hb;have:=hc.size;omega,i1.chg hc (fun b e _=>by subst e;exact HNN.out.2.2.1) (fun b hb e=>by have:=H1.out.2.2.1;have:=H1.out.2.2.2.2.1 b hb;omega)⟩,zCE i3 hc (fun k e=>by have:=H1.out.2.2.1;omega)⟩
 have HFIN:=Lib.hid hfin
 clear hfin
 by_cases h0:n≤nx
 · have e0:n - nx=0:=by omega
   rw [e0]
   have q4:zi 4 w2 p2 0:=zQ H2.out.2.2.1.2 (by decide)
   have hca4:zAS 4 [Value.int .i64 0,.int .i64 0,.slice none 0 0,.slice none 0 0]:=⟨rfl,fun v hv=>by
    simp only [List.mem_cons,List.not_mem_nil,or_false] at hv
    rcases hv with rfl | rfl | rfl | rfl <;> rfl⟩
   have HLD:=Lib.hid (zAt q4 hca4)
   clear e0
   go_wp2_with fail
   obtain ⟨r1,r2,r3⟩:=HFIN.out w2 Ds L died nx [Value.int .i64 0,.int .i64 0,.slice none 0 0,.slice none 0 0] H2.out.2.1 H2.out.1 H2.out.2.2.1.1 (Nat.le_refl _)
   exact bodyPost_ret (v:=.tuple #[zCe,.int .i64 9]) (by simp [results,Tryz.results22,asAddr,HLD.out,zCe]) rfl (.inl ⟨h0,rfl,r1,r2,r3⟩)
 · have e0:((n - nx:Nat):Int)≠0:=by omega
   have eb:(((n - nx:Nat):Int) == 0)=false:=by simp;omega
   have c19:=H2.out.1.c19 hs
   obtain ⟨lf,hlf⟩:∃ z,z=n - nx:=⟨_,rfl⟩
   rw [← hlf] at e0 eb ⊢
   have q1:IntKind.i64.wrap ((nx:Int)+1)=((nx+1:Nat):Int):=by rw [IntWalk.i64_in _ (by omega)];omega
   clear hlf
   go_upto_region 4 with fail
   refine Tail.zT 12 (fun k=>k == 10 || k == 11) (fun k=>if k=11 then some (.int .i64 R.1) else none)
    (fun D z w'=>RJ w2 N1 kb q r B slots room Ds L died name sd h nx R (nx+1) (z 10) (D 10) (D 11) w')
    (by kernel_rfl) (by kernel_rfl) (fun k hk=>by simp at hk;omega) (fun D z z' w' hz hh=>by cases hd:D 10 with | true=>(rw [hd] at hh;rw [← hz 10 hd];exact hh) | false=>(rw [hd] at hh;exact hh.swap _))
    (RJ.start H2.out.1 H2.out.2.1 hf2 H2.out.2.2.2) (fun z=>?_)
   simp only [List.take_succ_cons,List.take_zero,List.drop_succ_cons,List.drop_zero]
   refine Tail.zI (by rfl) (by rfl) ?_
   apply Exists.intro
   refine ⟨fun w=>?_,?_⟩
   · go_simp <;> with_reducible rfl
   simp only [Act.put,List.setIfInBounds_toArray,List.set_cons_zero,List.set_cons_succ,Nat.reduceAdd,Nat.reduceEqDiff,reduceIte,Option.getD_some,Option.getD_none]
   refine Tail.zI (by rfl) (by rfl) ?_
   apply Exists.intro
   refine ⟨fun w=>?_,?_⟩
   · go_simp <;> with_reducible rfl
   simp only [Act.put,List.setIfInBounds_toArray,List.set_cons_zero,List.set_cons_succ,Nat.reduceAdd,Nat.reduceEqDiff,reduceIte,Option.getD_some,Option.getD_none]
   refine Tail.zI (by rfl) (by rfl) ?_
   apply Exists.intro
   refine ⟨fun w=>?_,?_⟩
   · go_simp <;> with_reducible rfl
   simp only [Act.put,List.setIfInBounds_toArray,List.set_cons_zero,List.set_cons_succ,Nat.reduceAdd,Nat.reduceEqDiff,reduceIte,Option.getD_some,Option.getD_none]
   refine Tail.zA0 (by rfl) (by rfl) ?_
   apply Exists.intro
   refine ⟨fun D w' hd hp hJ=>?_,?_⟩
   · have cc:=hJ.ks.c0
     clear hJ
     go_simp <;> with_reducible rfl
   simp only [Act.put,List.setIfInBounds_toArray,List.set_cons_zero,List.set_cons_succ,Nat.reduceAdd,Nat.reduceEqDiff,reduceIte,Option.getD_some,Option.getD_none]
   refine Tail.zI (by rfl) (by rfl) ?_
   apply Exists.intro
   refine ⟨fun w=>?_,?_⟩
   · go_simp <;> with_reducible rfl
   simp only [Act.put,List.setIfInBounds_toArray,List.set_cons_zero,List.set_cons_succ,Nat.reduceAdd,Nat.reduceEqDiff,reduceIte,Option.getD_some,Option.getD_none]
   refine Tail.zI (by rfl) (by rfl) ?_
   apply Exists.intro
   refine ⟨fun w=>?_,?_⟩
   · go_simp <;> with_reducible rfl
   simp only [Act.put,List.setIfInBounds_toArray,List.set_cons_zero,List.set_cons_succ,Nat.reduceAdd,Nat.reduceEqDiff,reduceIte,Option.getD_some,Option.getD_none]
   refine Tail.zI (by rfl) (by rfl) ?_
   apply Exists.intro
   refine ⟨fun w=>?_,?_⟩
   · go_simp <;> with_reducible rfl
   simp only [Act.put,List.setIfInBounds_toArray,List.set_cons_zero,List.set_cons_succ,Nat.reduceAdd,Nat.reduceEqDiff,reduceIte,Option.getD_some,Option.getD_none]
   refine Tail.zA0 (by rfl) (by rfl) ?_
   apply Exists.intro
   refine ⟨fun D w' hd hp hJ=>?_,?_⟩
   · have cc:=hJ.ks.c1
     clear hJ
     go_simp <;> with_reducible rfl
   simp only [Act.put,List.setIfInBounds_toArray,List.set_cons_zero,List.set_cons_succ,Nat.reduceAdd,Nat.reduceEqDiff,reduceIte,Option.getD_some,Option.getD_none]
   refine Tail.zI (by rfl) (by rfl) ?_
   apply Exists.intro
   refine ⟨fun w=>?_,?_⟩
   · go_simp <;> with_reducible rfl
   simp only [Act.put,List.setIfInBounds_toArray,List.set_cons_zero,List.set_cons_succ,Nat.reduceAdd,Nat.reduceEqDiff,reduceIte,Option.getD_some,Option.getD_none]
   refine Tail.zI (by rfl) (by rfl) ?_
   apply Exists.intro
   refine ⟨fun w=>?_,?_⟩
   · go_simp <;> with_reducible rfl
   simp only [Act.put,List.setIfInBounds_toArray,List.set_cons_zero,List.set_cons_succ,Nat.reduceAdd,Nat.reduceEqDiff,reduceIte,Option.getD_some,Option.getD_none]
   refine Tail.zAT (by rfl) (by rfl) ?_ ?_
   · apply Exists.intro
     apply Exists.intro
     refine ⟨fun w'=>?_,?_⟩
     · go_simp <;> exact ⟨rfl,rfl⟩
     intro D z' w' hD hz hd hp hJ
     have h11:D 11=false:=hp 11 (by kernel_rfl)
     rw [hD,h11] at hJ
     refine (zEC (nx+1) 4 (by omega) (by decide) (by decide) w').mono ?_
     rintro e w'' ⟨v,rfl,hv,hb⟩
     refine ⟨v,rfl,fun c hc=>by simp at hc,?_⟩
     simp [Tail.zAp,Tail.zAb,h11]
     exact hJ.made hv hb
   simp only [Act.put,List.setIfInBounds_toArray,List.set_cons_zero,List.set_cons_succ,Nat.reduceAdd,Nat.reduceEqDiff,reduceIte,Option.getD_some,Option.getD_none]
   refine Tail.zAT (by rfl) (by rfl) ?_ ?_
   · apply Exists.intro
     apply Exists.intro
     refine ⟨fun w'=>?_,?_⟩
     · go_simp <;> exact ⟨rfl,rfl⟩
     intro D z' w' hD hz hd hp hJ
     have h10:D 10=true:=hd 10 (by kernel_rfl)
     rw [hD,h10,← hz 10 h10] at hJ
     obtain ⟨lv,ps,hst'⟩:=hJ.st
     refine (zIB w' N1 q r B lv ps Ds slots room L died hst' name (z 10) (Cod.be 4 (nx+1)) hJ.z hnm hJ.lt hfew (HP.out.1) HP.out.2.1).mono ?_
     rintro e w'' ⟨lv',ps',rfl,hs,hc⟩
     rw [← HP.out.2.2] at hs ⊢
     refine ⟨_,rfl,fun c hc=>by simp at hc;rw [← hc],?_⟩
     simp [Tail.zAp,Tail.zAb,h10]
     exact hJ.put ⟨lv',ps',hs⟩ hc _
   simp only [Act.put,List.setIfInBounds_toArray,List.set_cons_zero,List.set_cons_succ,Nat.reduceAdd,Nat.reduceEqDiff,reduceIte,Option.getD_some,Option.getD_none]
   intro w3 hJ
   obtain ⟨hk3,hst3,hc3⟩:=hJ.fin
   clear hJ
   obtain ⟨er,her⟩:∃ z,z=R.1:=⟨_,rfl⟩
   rw [← her]
   have H3:=Lib.hid (And.intro hk3 (And.intro hst3 (And.intro hc3 her)))
   have hsg3:=hc3.blk H2.out.2.2.1.2 (fun e=>by have:=H1.out.2.2.1;have:=H1.out.2.2.2.2.1 _ e;omega)
   have hc19:=hk3.c19 hs
   have hf19:=Blk.free hk3 19
   clear hk3 hst3 hc3 her
   by_cases hz:er=0
   · subst hz
     have hc4:Chg (fun b=>b=kb) w3 (w3.setCell ⟨kb,19,none⟩ (.int .i64 ((nx:Int)+1))):=Chg.set (S:=fun b=>b=kb) (a:=⟨kb,19,none⟩) (Chg.refl _ _) rfl _
     have hk4:zg (w3.setCell ⟨kb,19,none⟩ (.int .i64 ((nx:Int)+1))) kb q name sd h (nx+1):=H3.out.1.set hs (nx+1)
     have hst4:=H3.out.2.1.chg hc4 (fun b e _=>by subst e;exact hNk) (fun b hb e=>by subst e;exact hf2 hb)
     have hne:p2≠kb:=by have:=H1.out.2.2.1;have:=H1.out.2.2.2.1;omega
     have hsg4:=hc4.blk hsg3 hne
     have hc04:Chg (KR kb q r B) w (w3.setCell ⟨kb,19,none⟩ (.int .i64 ((nx:Int)+1))):=(H2.out.2.2.1.1.trans (H3.out.2.2.1.mono fun b hb=>.inr hb)).trans (hc4.mono fun b hb=>.inl hb)
     have hs24:w2.heap.size≤(w3.setCell ⟨kb,19,none⟩ (.int .i64 ((nx:Int)+1))).heap.size:=Nat.le_trans H3.out.2.2.1.size hc4.size
     go_upto_region 8 with fail
     obtain ⟨w4,hw4⟩:∃ q,q=w3.setCell ⟨kb,19,none⟩ (.int .i64 ((nx:Int)+1)):=⟨_,rfl⟩
     rw [← hw4] at hk4 hst4 hsg4 hc04 hs24 ⊢
     have hs04:=hc04.size
     have hps:=hsg4.lt
     have H4:=Lib.hid (And.intro hk4 (And.intro hst4 (And.intro hsg4 hc04)))
     clear hc4 hk4 hst4 hsg4 hc04 hw4 hsg3 hc19 hf19 hne
     refine Tail.zT 11 (fun k=>k == 10) (fun k=>none)
      (fun D z w'=>Below w4.heap.size w4 w'∧(D 10=true→∃ vv pv,z 10=.agg #[.int .i64 h,.int .i64 nx,vv,pv]∧zL bV WfH 32 34 w' w4.heap.size vv (Wot.signO sd nx m)∧zL bV WfH 32 34 w' w4.heap.size pv (Wot.proof h nx (Wot.leaves sd (2 ^ h)))))
      (by kernel_rfl) (by kernel_rfl) (fun k hk=>by simp at hk;omega) (fun D z z' w' hz hh=>⟨hh.1,fun d=>by rw [← hz 10 d];exact hh.2 d⟩)
      (⟨(Below.refl _ _).drew,(fun h=>by cases h)⟩) (fun z=>?_)
     simp only [List.take_succ_cons,List.take_zero,List.drop_succ_cons,List.drop_zero]
     refine Tail.zI (by rfl) (by rfl) ?_
     apply Exists.intro
     refine ⟨fun w=>?_,?_⟩
     · go_simp <;> with_reducible rfl
     simp only [Act.put,List.setIfInBounds_toArray,List.set_cons_zero,List.set_cons_succ,Nat.reduceAdd,Nat.reduceEqDiff,reduceIte,Option.getD_some,Option.getD_none]
     refine Tail.zI (by rfl) (by rfl) ?_
     apply Exists.intro
     refine ⟨fun w=>?_,?_⟩
     · go_simp <;> with_reducible rfl
     simp only [Act.put,List.setIfInBounds_toArray,List.set_cons_zero,List.set_cons_succ,Nat.reduceAdd,Nat.reduceEqDiff,reduceIte,Option.getD_some,Option.getD_none]
     refine Tail.zI (by rfl) (by rfl) ?_
     apply Exists.intro
     refine ⟨fun w=>?_,?_⟩
     · go_simp <;> with_reducible rfl
     simp only [Act.put,List.setIfInBounds_toArray,List.set_cons_zero,List.set_cons_succ,Nat.reduceAdd,Nat.reduceEqDiff,reduceIte,Option.getD_some,Option.getD_none]
     refine Tail.zBc (by rfl) (by rfl) _ _ rfl kb 2 (by rfl) (bV sd) (fun D w' _ _ hJ=>zg.rng (Blk.kept H4.out.1 hJ.1)) Tryz.underlying23 rfl (by rw [zG,hs];exact zIt) ?_
     simp only [Act.put,List.setIfInBounds_toArray,List.set_cons_zero,List.set_cons_succ,Nat.reduceAdd,Nat.reduceEqDiff,reduceIte,Option.getD_some,Option.getD_none]
     refine Tail.zI (by rfl) (by rfl) ?_
     apply Exists.intro
     refine ⟨fun w=>?_,?_⟩
     · go_simp <;> with_reducible rfl
     simp only [Act.put,List.setIfInBounds_toArray,List.set_cons_zero,List.set_cons_succ,Nat.reduceAdd,Nat.reduceEqDiff,reduceIte,Option.getD_some,Option.getD_none]
     refine Tail.zI (by rfl) (by rfl) ?_
     apply Exists.intro
     refine ⟨fun w=>?_,?_⟩
     · go_simp <;> with_reducible rfl
     simp only [Act.put,List.setIfInBounds_toArray,List.set_cons_zero,List.set_cons_succ,Nat.reduceAdd,Nat.reduceEqDiff,reduceIte,Option.getD_some,Option.getD_none]
     refine Tail.zI (by rfl) (by rfl) ?_
     apply Exists.intro
     refine ⟨fun w=>?_,?_⟩
     · go_simp <;> with_reducible rfl
     simp only [Act.put,List.setIfInBounds_toArray,List.set_cons_zero,List.set_cons_succ,Nat.reduceAdd,Nat.reduceEqDiff,reduceIte,Option.getD_some,Option.getD_none]
     refine Tail.zA0 (by rfl) (by rfl) ?_
     apply Exists.intro
     refine ⟨fun D w' hd hp hJ=>?_,?_⟩
     · have cc:=(show w'.cell? ⟨kb,18,none⟩=some (.int .i64 h) from zg.c18 (Blk.kept H4.out.1 hJ.1) hs)
       clear hJ
       go_simp <;> with_reducible rfl
     simp only [Act.put,List.setIfInBounds_toArray,List.set_cons_zero,List.set_cons_succ,Nat.reduceAdd,Nat.reduceEqDiff,reduceIte,Option.getD_some,Option.getD_none]
     refine Tail.zI (by rfl) (by rfl) ?_
     apply Exists.intro
     refine ⟨fun w=>?_,?_⟩
     · go_simp <;> with_reducible rfl
     simp only [Act.put,List.setIfInBounds_toArray,List.set_cons_zero,List.set_cons_succ,Nat.reduceAdd,Nat.reduceEqDiff,reduceIte,Option.getD_some,Option.getD_none]
     refine Tail.zI (by rfl) (by rfl) ?_
     apply Exists.intro
     refine ⟨fun w=>?_,?_⟩
     · go_simp <;> with_reducible rfl
     simp only [Act.put,List.setIfInBounds_toArray,List.set_cons_zero,List.set_cons_succ,Nat.reduceAdd,Nat.reduceEqDiff,reduceIte,Option.getD_some,Option.getD_none]
     refine Tail.zAT (by rfl) (by rfl) ?_ ?_
     · apply Exists.intro
       apply Exists.intro
       refine ⟨fun w'=>?_,?_⟩
       · go_simp <;> exact ⟨rfl,rfl⟩
       intro D z' w' hD hz hd hp hJ
       refine (zHg sd h nx _ m w' (H.out.2.2.2.1 w' (H4.out.2.2.2.trans (Chg.of_below hJ.1))) hs hh (by have:=H.out.2.2.2.2.2;omega) (H.out.2.2.2.2.1 w' (H4.out.2.2.2.trans (Chg.of_below hJ.1))) hm).mono ?_
       rintro e w'' ⟨vv,pv,rfl,hh1,hh2,hb⟩
       refine ⟨_,rfl,fun c hc=>by simp at hc,hJ.1.trans (hb.mono hJ.1.size),fun _=>⟨vv,pv,by simp [Tail.zAb],hh1.lower hJ.1.size,hh2.lower hJ.1.size⟩⟩
     simp only [Act.put,List.setIfInBounds_toArray,List.set_cons_zero,List.set_cons_succ,Nat.reduceAdd,Nat.reduceEqDiff,reduceIte,Option.getD_some,Option.getD_none]
     intro w5 hJ
     obtain ⟨vv,pv,hz,ho1,ho2⟩:=hJ.2 rfl
     have hb5:=hJ.1
     rw [hz]
     clear hJ hz
     have hsg5:=H4.out.2.2.1.kept hb5
     have q4:zi 4 w5 p2 0:=zQ hsg5 (by decide)
     obtain ⟨va1,vc1,e1⟩:=ho1.slice
     obtain ⟨va2,vc2,e2⟩:=ho2.slice
     subst e1 e2
     obtain ⟨n1,hn1⟩:∃ x,x=(Wot.signO sd nx m).length:=⟨_,rfl⟩
     obtain ⟨n2,hn2⟩:∃ x,x=(Wot.proof h nx (Wot.leaves sd (2 ^ h))).length:=⟨_,rfl⟩
     rw [← hn1] at ho1 ⊢
     rw [← hn2] at ho2 ⊢
     have hca4:zAS 4 [Value.int .i64 h,.int .i64 nx,.slice va1 n1 vc1,.slice va2 n2 vc2]:=⟨rfl,fun v hv=>by
      simp only [List.mem_cons,List.not_mem_nil,or_false] at hv
      rcases hv with rfl | rfl | rfl | rfl <;> rfl⟩
     have HLD:=Lib.hid (zAt q4 hca4)
     have H5:=Lib.hid (And.intro hb5 (And.intro ho1 ho2))
     clear hb5 ho1 ho2 hn1 hn2 hsg5
     go_wp2_with fail
     obtain ⟨r1,r2,r3⟩:=HFIN.out w5 _ _ _ (nx+1) [Value.int .i64 h,.int .i64 nx,.slice va1 n1 vc1,.slice va2 n2 vc2] (H4.out.2.1.below H5.out.1) (Blk.kept H4.out.1 H5.out.1) (H4.out.2.2.2.trans (Chg.of_below H5.out.1)) (Nat.le_trans hs24 H5.out.1.size)
     have hcp:Chg (fun b=>b=p2) w5 (w5.setCells p2 0 [Value.int .i64 h,.int .i64 nx,.slice va1 n1 vc1,.slice va2 n2 vc2]):=Chg.setCells (S:=fun b=>b=p2) (L:=p2) rfl _ _ _ (Chg.refl _ _)
     have hrow:∀ (v:Value) (l:List (List UInt8)),zL bV WfH 32 34 w5 w4.heap.size v l→zL bV WfH 32 34 (w5.setCells p2 0 [Value.int .i64 h,.int .i64 nx,.slice va1 n1 vc1,.slice va2 n2 vc2]) w.heap.size v l:=fun v l ho=>(ho.chg hcp (fun g hg e=>by have:=ho.ge hg;omega)).lower hs04
     exact bodyPost_ret (v:=.tuple #[.agg #[.int .i64 h,.int .i64 nx,.slice va1 n1 vc1,.slice va2 n2 vc2],.int .i64 0]) (by simp [results,Tryz.results22,asAddr,HLD.out]) rfl (.inr (.inr ⟨by omega,H3.out.2.2.2.symm,_,_,rfl,hrow _ _ H5.out.2.1,(by have:=hrow _ _ H5.out.2.2;rw [← H.out.2.2.2.2.2] at this;exact this),r1,r2,r3⟩))
   · have hzb:(er != 0)=true:=by simp [hz]
     have q4:zi 4 w3 p2 0:=zQ hsg3 (by decide)
     have hca4:zAS 4 [Value.int .i64 0,.int .i64 0,.slice none 0 0,.slice none 0 0]:=⟨rfl,fun v hv=>by
      simp only [List.mem_cons,List.not_mem_nil,or_false] at hv
      rcases hv with rfl | rfl | rfl | rfl <;> rfl⟩
     have HLD:=Lib.hid (zAt q4 hca4)
     clear hsg3 hc19 hf19
     go_wp2_with fail
     obtain ⟨r1,r2,r3⟩:=HFIN.out w3 _ _ _ nx [Value.int .i64 0,.int .i64 0,.slice none 0 0,.slice none 0 0] H3.out.2.1 H3.out.1 (H2.out.2.2.1.1.trans (H3.out.2.2.1.mono fun b hb=>.inr hb)) H3.out.2.2.1.size
     exact bodyPost_ret (v:=.tuple #[zCe,.int .i64 er]) (by simp [results,Tryz.results22,asAddr,HLD.out,zCe]) rfl (.inr (.inl ⟨by omega,by rw [← H3.out.2.2.2];exact hz,by rw [← H3.out.2.2.2],r1,r2,r3⟩))
end Go.Proofs.YtdlkghdfkjdajaaGreatDoor
end
section
namespace Go.Proofs.YtdlkghdfkjdajaaGreatDoor
open Go Go.RowKit Go.Mem Gf
set_option linter.unusedVariables false
set_option linter.unusedSimpArgs false
attribute [local go_sem ↓] Go.wp_at_zero Go.wp_at_succ
def rkeyPl:List (Nat × Nat):=[(0,1),(1,1),(2,16),(18,1),(19,1)]
def zGs:List Value:=[Value.pointer none,.string ByteArray.empty]++(z8 16++[Value.int .i64 0,.int .i64 0])
theorem zHM (x0 x1 x3:Value) (cs:List Value) (h0:x0.oneCell'=true) (h1:x1.oneCell'=true) (h3:x3.oneCell'=true) (hc:cs.length=16) :
  Tryz.prog.built 107 [(0,x0),(1,x1),(2,.agg cs.toArray),(3,x3)]=some ([x0,x1]++cs++[x3,.int .i64 0]).toArray:=by
 have hz:Tryz.prog.built 107 [(0,x0),(1,x1),(2,.agg cs.toArray),(3,x3)]=Instr.fill (rkeyPl.toArray[·]?) zGs.toArray [(0,x0),(1,x1),(2,.agg cs.toArray),(3,x3)]:=by
  unfold Program.built
  kernel_rfl
 have l16:=zJX 16
 rw [hz,zBF [x0] (off:=0) (n:=1) rfl (zBQ h0) rfl (by unfold zGs;simp)]
 rw [show zGs.take 0++[x0]++zGs.drop (0+1)=[x0]++([Value.string ByteArray.empty]++(z8 16++[Value.int .i64 0,.int .i64 0])) from rfl]
 rw [zBF [x1] (off:=1) (n:=1) rfl (zBQ h1) rfl (by simp),zBt (n:=1) (m:=1) (a:=[x0]) (b:=[Value.string ByteArray.empty]) rfl rfl]
 rw [show [x0]++([x1]++(z8 16++[Value.int .i64 0,.int .i64 0]))=[x0,x1]++(z8 16++[Value.int .i64 0,.int .i64 0]) from rfl]
 rw [zBF cs (off:=2) (n:=16) rfl (zDP rfl) hc (by simp [l16]),zBt (n:=2) (m:=16) (a:=[x0,x1]) rfl l16]
 rw [show [x0,x1]++(cs++[Value.int .i64 0,.int .i64 0])=([x0,x1]++cs)++([Value.int .i64 0]++[Value.int .i64 0]) from by simp]
 rw [zBF [x3] (off:=18) (n:=1) rfl (zBQ h3) rfl (by simp [hc]),zBt (n:=18) (m:=1) (a:=[x0,x1]++cs) (b:=[Value.int .i64 0]) (by simp [hc]) rfl]
 rw [show ([x0,x1]++cs)++([x3]++[Value.int .i64 0])=[x0,x1]++cs++[x3,Value.int .i64 0] from by simp]
 rfl
def zGr (v0 v1 v2 v3:Value):Bool:=v0.oneCell' && v1.oneCell' && zBX v2 && v3.oneCell' && decide ((zAu v2).length=16)
theorem zHL (dst:Option Tmp) (x0 x1 x2 x3:Operand) (ty:TypeId) (pos:String) (af:Array Edge) (gd:Option (Tmp × Bool)) (a:Act) (w:World) (K:Act→World→Prop) (Q:Exit→Act→World→Prop)
  (h:zGr (a.eval x0) (a.eval x1) (a.eval x2) (a.eval x3)=true) :
  Oper.wp Tryz.prog ⟨dst,.build 107 #[(0,x0),(1,x1),(2,x2),(3,x3)],ty,pos,af,gd⟩ a w K Q=K (a.put dst (.agg ([a.eval x0,a.eval x1]++zAu (a.eval x2)++[a.eval x3,.int .i64 0]).toArray)) w:=by
 unfold zGr at h
 simp only [Bool.and_eq_true,decide_eq_true_eq] at h
 obtain ⟨⟨⟨⟨h0,h1⟩,h2⟩,h3⟩,l2⟩:=h
 have e2:=zEm h2
 have hb:=zHM (a.eval x0) (a.eval x1) (a.eval x3) (zAu (a.eval x2)) h0 h1 h3 l2
 rw [← e2] at hb
 have hr:=run_build (P:=Tryz.prog) w 107 #[(0,a.eval x0),(1,a.eval x1),(2,a.eval x2),(3,a.eval x3)] _ hb
 unfold Oper.wp execOp
 simp only [Sem.run_bind,List.map_toArray,List.map_cons,List.map_nil,hr,Result.andThen_ok]
 rfl
attribute [local go_sem ↓] zY zU zf zBC zHL
attribute [local go_sem] zGr Value.oneCell' ptrB_eq ptrO_eq ptrIs_eq aggL_eq aggIs_eq zS zV zD zF zJ zK zB
set_option maxRecDepth 20000 in
set_option maxHeartbeats 2000000 in
theorem zGt (w:World) (N:Nat→Prop) (q r B slots room:Nat) (Ds:zA) (L:List zR) (died:Bool) (name:ByteArray) (sd:List UInt8) (h:Nat) (hst:RSt w N q r B slots room Ds L died) (hold:∀ b,N b→b < w.heap.size) (hs:sd.length=16) (hh:h≤4) (h4:∀ b,zAc L died name=some b→b.length≤7) :
  Calls Tryz.prog 18 #[.pointer (some ⟨q,0,none⟩),.string name,.agg (bV sd).toArray,.int .i64 h] w fun e w'=>∃ kb,e=.returned (.tuple #[.pointer (some ⟨kb,0,none⟩),.bool true])∧w.heap.size≤kb∧zg w' kb q name sd h (zCc (zAc L died name) 0)∧RSt w' (fun b=>N b∨b=kb) q r B slots room Ds L died∧Below w.heap.size w w':=by
 obtain ⟨cs,hcs⟩:∃ c,c=bV sd:=⟨_,rfl⟩
 have hcl:cs.length=16:=by rw [hcs,zG];exact hs
 rw [← hcs]
 have H:=Lib.hid (And.intro hst (And.intro hold (And.intro hcs h4)))
 have h0':¬ (h:Int) < 0:=by omega
 have h1':¬ 4 < (h:Int):=by omega
 clear hst hold hcs h4
 go_enter Tryz.func18,Tryz.ntmps18
 go_upto_region 1 with fail
 obtain ⟨w1,hw1⟩:∃ q,q=w.alloc (.cells cs.toArray 23):=⟨_,rfl⟩
 obtain ⟨p1,hp1⟩:∃ q,q=w.heap.size:=⟨_,rfl⟩
 have hb1:Below w.heap.size w w1:=by rw [hw1];exact (Below.refl _ _).alloc (Nat.le_refl _) _
 have hk1:Blk w1 p1 cs.toArray 23:=by rw [hw1,hp1];exact Blk.new _ _ _
 have hs01:=hb1.size
 rw [← hw1,← hp1]
 have k1:zh 16 w1 p1 0=cs:=zn hk1 hcl (fun k _=>by simp)
 have k2:zi 16 w1 p1 0:=zQ hk1 (by simp [hcl])
 have H1:=Lib.hid (And.intro hb1 hk1)
 clear hw1 hp1 hb1 hk1
 go_upto_region 4 with fail
 obtain ⟨cv,hcv⟩:∃ c:List Value,c=Value.pointer (some ⟨q,0,none⟩)::Value.string name::(cs++[Value.int .i64 h,Value.int .i64 0]):=⟨_,rfl⟩
 have hkv:cv=zDV q name sd h 0:=by
  unfold zDV
  rw [hcv,← H.out.2.2.1]
  simp
 obtain ⟨wk,hwk⟩:∃ q,q=w1.alloc (.cells cv.toArray 107):=⟨_,rfl⟩
 obtain ⟨kb,hkb⟩:∃ q,q=w1.heap.size:=⟨_,rfl⟩
 have hbk:Below w1.heap.size w1 wk:=by rw [hwk];exact (Below.refl _ _).alloc (Nat.le_refl _) _
 have hks:zg wk kb q name sd h 0:=by
  unfold zg
  rw [← hkv,hwk,hkb]
  exact Blk.new _ _ _
 rw [← hcv,← hwk,← hkb]
 have hb0k:=H1.out.1.trans (hbk.mono hs01)
 have hkge:w.heap.size≤kb:=by omega
 have hstk:RSt wk (fun b=>N b∨b=kb) q r B slots room Ds L died:=(H.out.1.mono (fun b hb=>hb.elim .inl (fun e=>.inr (by omega))) (fun b hb=>.inl hb)).below hb0k
 have hfk:¬ zAY q r B kb:=fun hf=>by have:=H.out.1.lt kb hf;omega
 have HK:=Lib.hid (And.intro hks (And.intro hstk (And.intro hfk hb0k)))
 clear hcv hkv hwk hkb hbk hks hb0k hstk hfk k1 k2 H1
 as_aux_lemma =>
 go_wp2_with fail
 refine (zDq wk (fun b=>N b∨b=kb) kb q r B slots room Ds L died name sd h 0 HK.out.1 HK.out.2.1 hs (.inr rfl) HK.out.2.2.1 H.out.2.2.2 (Nat.zero_le _)).mono ?_
 rintro e w4 ⟨rfl,hk4,hst4,hc4⟩
 have HF:=Lib.hid (And.intro hk4 (And.intro hst4 (HK.out.2.2.2.trans (hc4.below (Nat.le_trans hkge (Nat.le_of_lt (Blk.lt HK.out.1))) (fun b (e:b=kb)=>by rw [e];exact hkge)))))
 clear hk4 hst4 hc4
 go_wp2
 go_ret2
 exact ⟨kb,rfl,hkge,HF.out.1,HF.out.2.1,HF.out.2.2⟩
theorem zKD (xs:List UInt8) (w:World) (hx:xs.length=32):(Op.equalIn 10000 34 (.agg (bV xs).toArray) (.agg (bV xs).toArray)).run Tryz.prog w=.ok true w:=by
 have:=zDr (P:=Tryz.prog) w 9998 32 Tryz.underlying34 (Option.some_get (by kernel_rfl)).symm (by kernel_rfl) (by kernel_rfl) xs xs hx hx
 rw [decide_eq_true rfl] at this
 exact this
set_option maxRecDepth 20000 in
set_option maxHeartbeats 2000000 in
theorem zET (v1 v2:Value) (l:List (List UInt8)) (b1 b2:Nat) (w:World) (h1:zL bV WfH 32 34 w b1 v1 l) (h2:zL bV WfH 32 34 w b2 v2 l) (hll:l.length≤1000) :
  Calls Tryz.prog 51 #[v1,v2] w fun e w'=>e=.returned (.bool true)∧Below w.heap.size w w':=by
 obtain ⟨a1,c1,rfl⟩:=h1.slice
 obtain ⟨a2,c2,rfl⟩:=h2.slice
 obtain ⟨n,hn⟩:∃ n,n=l.length:=⟨_,rfl⟩
 rw [← hn] at h1 h2 hll ⊢
 have g0:((n:Int) != (n:Int))=false:=by simp
 have g1:(n != n)=false:=by simp
 have H:=Lib.hid (And.intro h1 (And.intro h2 hn))
 clear h1 h2 hn
 go_enter Tryz.func51,Tryz.ntmps51
 go_wp2_with fail
 go_loopw [5] (fun vi wr=>∃ i:Nat,i≤n∧vi=.int .i64 i∧Below w.heap.size w wr) (fun vi _=>n - (intOf vi).toNat)
 case atStart=>exact ⟨0,by omega,rfl,Below.refl _ _⟩
 case round =>
  obtain ⟨i,hi,rfl,hG⟩:=hrel
  have G:=Lib.hid hG
  clear hG
  by_cases h0:i < n
  · have i0:(0:Int)≤(i:Int):=by omega
    have i1:(i:Int) < (n:Int):=by omega
    obtain ⟨x,hx⟩:∃ x,l[i]?=some x:=⟨_,List.getElem?_eq_getElem (by have:=H.out.2.2;omega)⟩
    have ho1:=H.out.1.chg (S:=fun _=>False) (Chg.of_below G.out) (fun _ _=>id)
    have ho2:=H.out.2.1.chg (S:=fun _=>False) (Chg.of_below G.out) (fun _ _=>id)
    obtain ⟨g1,d1,e1,hr1⟩:=ho1.ex (by have:=H.out.2.2;omega)
    obtain ⟨g2,d2,e2,hr2⟩:=ho2.ex (by have:=H.out.2.2;omega)
    rw [← H.out.2.2] at e1 hr1 e2 hr2
    injection e1 with e1 _ e3
    injection e2 with e2 _ e4
    subst e1 e2 e3 e4
    have hxl:x.length=32:=hr1.wf x (List.mem_of_getElem? hx)
    obtain ⟨cx,hcx⟩:∃ c,c=bV x:=⟨_,rfl⟩
    have cxl:cx.length=32:=by rw [hcx,zG];exact hxl
    have heq:=fun w1=>zKD x w1 hxl
    rw [← hcx] at heq
    have HX:=Lib.hid (And.intro hr1 (And.intro hr2 (And.intro hx hcx)))
    clear hx hxl hcx hr1 hr2 ho1 ho2
    go_upto_region 6 with fail
    refine Tail.zT 8 (fun k=>false) (fun k=>none)
     (fun D z w'=>Below wr.heap.size wr w')
     (by kernel_rfl) (by kernel_rfl) (fun k hk=>by cases hk) (fun D z z' w' hz h=>h)
     ((Below.refl _ _).drew) (fun z=>?_)
    simp only [List.take_succ_cons,List.take_zero,List.drop_succ_cons,List.drop_zero]
    refine Tail.zI (by rfl) (by rfl) ?_
    apply Exists.intro
    refine ⟨fun w=>?_,?_⟩
    · go_simp <;> with_reducible rfl
    simp only [Act.put,List.setIfInBounds_toArray,List.set_cons_zero,List.set_cons_succ,Nat.reduceAdd,Nat.reduceEqDiff,reduceIte,Option.getD_some,Option.getD_none]
    refine Tail.zI (by rfl) (by rfl) ?_
    apply Exists.intro
    refine ⟨fun w=>?_,?_⟩
    · go_simp <;> with_reducible rfl
    simp only [Act.put,List.setIfInBounds_toArray,List.set_cons_zero,List.set_cons_succ,Nat.reduceAdd,Nat.reduceEqDiff,reduceIte,Option.getD_some,Option.getD_none]
    refine Tail.zI (by rfl) (by rfl) ?_
    apply Exists.intro
    refine ⟨fun w=>?_,?_⟩
    · go_simp <;> with_reducible rfl
    simp only [Act.put,List.setIfInBounds_toArray,List.set_cons_zero,List.set_cons_succ,Nat.reduceAdd,Nat.reduceEqDiff,reduceIte,Option.getD_some,Option.getD_none]
    refine Tail.zBc (by rfl) (by rfl) _ _ rfl g1 (i*32) (by rfl) cx (fun D w' _ _ hJ=>by rw [HX.out.2.2.2];exact (HX.out.1.chg (S:=fun _=>False) (Chg.of_below hJ) id).range ecH HX.out.2.2.1) Tryz.underlying34 rfl (by rw [cxl];exact zGe) ?_
    simp only [Act.put,List.setIfInBounds_toArray,List.set_cons_zero,List.set_cons_succ,Nat.reduceAdd,Nat.reduceEqDiff,reduceIte,Option.getD_some,Option.getD_none]
    refine Tail.zI (by rfl) (by rfl) ?_
    apply Exists.intro
    refine ⟨fun w=>?_,?_⟩
    · go_simp <;> with_reducible rfl
    simp only [Act.put,List.setIfInBounds_toArray,List.set_cons_zero,List.set_cons_succ,Nat.reduceAdd,Nat.reduceEqDiff,reduceIte,Option.getD_some,Option.getD_none]
    refine Tail.zI (by rfl) (by rfl) ?_
    apply Exists.intro
    refine ⟨fun w=>?_,?_⟩
    · go_simp <;> with_reducible rfl
    simp only [Act.put,List.setIfInBounds_toArray,List.set_cons_zero,List.set_cons_succ,Nat.reduceAdd,Nat.reduceEqDiff,reduceIte,Option.getD_some,Option.getD_none]
    refine Tail.zI (by rfl) (by rfl) ?_
    apply Exists.intro
    refine ⟨fun w=>?_,?_⟩
    · go_simp <;> with_reducible rfl
    simp only [Act.put,List.setIfInBounds_toArray,List.set_cons_zero,List.set_cons_succ,Nat.reduceAdd,Nat.reduceEqDiff,reduceIte,Option.getD_some,Option.getD_none]
    refine Tail.zBc (by rfl) (by rfl) _ _ rfl g2 (i*32) (by rfl) cx (fun D w' _ _ hJ=>by rw [HX.out.2.2.2];exact (HX.out.2.1.chg (S:=fun _=>False) (Chg.of_below hJ) id).range ecH HX.out.2.2.1) Tryz.underlying34 rfl (by rw [cxl];exact zGe) ?_
    simp only [Act.put,List.setIfInBounds_toArray,List.set_cons_zero,List.set_cons_succ,Nat.reduceAdd,Nat.reduceEqDiff,reduceIte,Option.getD_some,Option.getD_none]
    intro w5 hb5
    have H5:=Lib.hid (G.out.trans (hb5.mono G.out.size))
    clear hb5 z
    go_wp2
    exact ⟨⟨i+1,by omega,by go_num,H5.out⟩,by simp [intOf];omega⟩
  · have i1:¬ (i:Int) < (n:Int):=by omega
    obtain rfl:n=i:=by omega
    go_wp2_with fail
    go_ret
    exact ⟨rfl,G.out⟩
set_option maxRecDepth 20000 in
set_option maxHeartbeats 2000000 in
theorem zKe (h leaf:Nat) (v1 v2 p1 p2:Value) (vl pl:List (List UInt8)) (b1 b2 b3 b4:Nat) (w:World) (h1:zL bV WfH 32 34 w b1 v1 vl) (h2:zL bV WfH 32 34 w b2 v2 vl) (h3:zL bV WfH 32 34 w b3 p1 pl) (h4:zL bV WfH 32 34 w b4 p2 pl) (hvl:vl.length≤1000) (hpl:pl.length≤1000) :
  Calls Tryz.prog 23 #[.agg #[.int .i64 h,.int .i64 leaf,v1,p1],.agg #[.int .i64 h,.int .i64 leaf,v2,p2]] w fun e w'=>e=.returned (.bool true)∧Below w.heap.size w w':=by
 have hS1:=fun w1 (hb:Below w.heap.size w w1)=>zET v1 v2 vl b1 b2 w1 (h1.chg (S:=fun _=>False) (Chg.of_below hb) (fun _ _=>id)) (h2.chg (S:=fun _=>False) (Chg.of_below hb) (fun _ _=>id)) hvl
 have hS2:=fun w1 (hb:Below w.heap.size w w1)=>zET p1 p2 pl b3 b4 w1 (h3.chg (S:=fun _=>False) (Chg.of_below hb) (fun _ _=>id)) (h4.chg (S:=fun _=>False) (Chg.of_below hb) (fun _ _=>id)) hpl
 obtain ⟨a1,c1,rfl⟩:=h1.slice
 obtain ⟨a2,c2,rfl⟩:=h2.slice
 obtain ⟨a3,c3,rfl⟩:=h3.slice
 obtain ⟨a4,c4,rfl⟩:=h4.slice
 obtain ⟨n,hn⟩:∃ n,n=vl.length:=⟨_,rfl⟩
 obtain ⟨m,hm⟩:∃ n,n=pl.length:=⟨_,rfl⟩
 rw [← hn] at hS1 ⊢
 rw [← hm] at hS2 ⊢
 have H:=Lib.hid (And.intro hS1 hS2)
 clear hS1 hS2 h1 h2 h3 h4 hn hm
 go_enter Tryz.func23,Tryz.ntmps23
 go_upto_region 1 with fail
 obtain ⟨w1,hw1⟩:∃ q,q=(w.alloc (.cells #[.int .i64 h,.int .i64 leaf,.slice a1 n c1,.slice a3 m c3] 48)).alloc (.cells #[.int .i64 h,.int .i64 leaf,.slice a2 n c2,.slice a4 m c4] 48):=⟨_,rfl⟩
 obtain ⟨q1,hq1⟩:∃ q,q=w.heap.size:=⟨_,rfl⟩
 obtain ⟨q2,hq2⟩:∃ q,q=w.heap.size+1:=⟨_,rfl⟩
 have hb1:Below w.heap.size w w1:=by rw [hw1];exact ((Below.refl _ _).alloc (Nat.le_refl _) _).alloc (by simp) _
 have hk1:Blk w1 q1 #[.int .i64 h,.int .i64 leaf,.slice a1 n c1,.slice a3 m c3] 48:=by rw [hw1,hq1];exact (Blk.new _ _ _).alloc _
 have hk2:Blk w1 q2 #[.int .i64 h,.int .i64 leaf,.slice a2 n c2,.slice a4 m c4] 48:=by rw [hw1,hq2];exact Blk.new_at _ _ _ _ (by simp)
 rw [← hw1,← hq2,← hq1]
 have HB:=Lib.hid (And.intro hb1 (And.intro hk1 hk2))
 have c10:w1.cell? ⟨q1,0,none⟩=some (.int .i64 h):=by rw [hk1.cell];rfl
 have c11:w1.cell? ⟨q1,1,none⟩=some (.int .i64 leaf):=by rw [hk1.cell];rfl
 have c12:w1.cell? ⟨q1,2,none⟩=some (.slice a1 n c1):=by rw [hk1.cell];rfl
 have c20:w1.cell? ⟨q2,0,none⟩=some (.int .i64 h):=by rw [hk2.cell];rfl
 have c21:w1.cell? ⟨q2,1,none⟩=some (.int .i64 leaf):=by rw [hk2.cell];rfl
 have c22:w1.cell? ⟨q2,2,none⟩=some (.slice a2 n c2):=by rw [hk2.cell];rfl
 clear hw1 hq1 hq2 hb1 hk1 hk2
 go_wp2_with fail
 refine (H.out.1 w1 HB.out.1).mono ?_
 rintro e w2 ⟨rfl,hb2⟩
 have hb02:=HB.out.1.trans (hb2.mono HB.out.1.size)
 have c13:w2.cell? ⟨q1,3,none⟩=some (.slice a3 m c3):=by rw [(HB.out.2.1.kept hb2).cell];rfl
 have c23:w2.cell? ⟨q2,3,none⟩=some (.slice a4 m c4):=by rw [(HB.out.2.2.kept hb2).cell];rfl
 have H2:=Lib.hid hb02
 clear hb2 hb02 c10 c11 c12 c20 c21 c22
 go_wp2_with fail
 refine (H.out.2 w2 H2.out).mono ?_
 rintro e w3 ⟨rfl,hb3⟩
 have H3:=Lib.hid (H2.out.trans (hb3.mono H2.out.size))
 clear hb3
 go_wp2
 go_ret
 exact ⟨rfl,H3.out⟩
end Go.Proofs.YtdlkghdfkjdajaaGreatDoor
end
