/- Texts of this proof,packed: KeyPlay,KeyPlayS,KeysPlaysWalk,OpenKey,TabOf. -/
import Derived.Test.YtdlkghdfkjdajaaGreatDoorPkP16
import Derived.Test.YtdlkghdfkjdajaaGreatDoorPkP21
import Derived.Test.YtdlkghdfkjdajaaGreatDoorPkP22
import Derived.Test.YtdlkghdfkjdajaaGreatDoorPkP12
import Derived.Test.YtdlkghdfkjdajaaGreatDoorPkP15
import Derived.Test.YtdlkghdfkjdajaaGreatDoorRows
import Derived.Test.YtdlkghdfkjdajaaGreatDoorPkP02
import Derived.Lib.LaidTab
import Derived.LaidMore
section
namespace Go.Proofs.YtdlkghdfkjdajaaGreatDoor
open Go Go.RowKit Go.Mem Gf
set_option linter.unusedVariables false
set_option linter.unusedSimpArgs false
def big:Nat:=4294967296
structure SS (w0 w:World) (N:Nat→Prop) (sb lb d L q r B:Nat) (s:St) (LL:List zR) (nm:ByteArray) (m c:Nat):Prop where
 st:zO w N sb lb d L s
 rs:RSt w N q r B 4 3 s.disk LL s.dead
 dup:Dup (big+m) 4 s LL
 has:zB8 m s nm c
 bel:Below w0.heap.size w0 w
 far:∀ b,N b→w0.heap.size≤b
 dj:∀ b,zAe sb lb d L b→¬ zAY q r B b
structure KP (w0 w:World) (N:Nat→Prop) (kb kr sb lb d L q r B:Nat) (s1 s:St) (LL:List zR) (nm:ByteArray) (sd:List UInt8) (h x1 x:Nat):Prop where
 st:zO w N sb lb d L s1
 rs:RSt w N q r B 4 3 s.disk LL s.dead
 ka:ze w kb sb nm sd h x1 (Wot.print sd h)
 kq:zg w kr q nm sd h x
 na:N kb
 nr:N kr
 fa:¬ zAe sb lb d L kb
 fr:¬ zAY q r B kr
 dj:∀ b,KF kb sb lb d L b→¬ KR kr q r B b
 bel:Below w0.heap.size w0 w
 far:∀ b,N b→w0.heap.size≤b
section
variable {w0 w w':World} {N:Nat→Prop} {kb kr sb lb d L q r B h x1 x m c:Nat} {s1 s:St} {LL:List zR} {nm:ByteArray} {sd:List UInt8}
theorem KP.step (g:KP w0 w N kb kr sb lb d L q r B s1 s LL nm sd h x1 x) (hb:Below w.heap.size w w'):KP w0 w' N kb kr sb lb d L q r B s1 s LL nm sd h x1 x :=
 { g with st:=g.st.below hb,rs:=g.rs.below hb,ka:=Blk.kept g.ka hb,kq:=Blk.kept g.kq hb,bel:=g.bel.trans (hb.mono g.bel.size) }
theorem KP.kf (g:KP w0 w N kb kr sb lb d L q r B s1 s LL nm sd h x1 x):∀ b,KF kb sb lb d L b→N b:=fun b hb=>by
 rcases hb with rfl | hb
 · exact g.na
 · exact g.st.foot _ hb
theorem KP.krf (g:KP w0 w N kb kr sb lb d L q r B s1 s LL nm sd h x1 x):∀ b,KR kr q r B b→N b:=fun b hb=>by
 rcases hb with rfl | hb
 · exact g.nr
 · exact g.rs.foot _ hb
theorem _root_.Go.Mem.Dup.look (g:Dup m 4 s LL) (next:Nat):zCc (zAc LL s.dead nm) next=zX s nm next:=by
 unfold zCc zX
 rw [g.get nm]
 cases zAc LL s.dead nm with
 | none=>rfl
 | some b=>rfl
theorem _root_.Go.Mem.Dup.short (g:Dup m 4 s LL) (h4:∀ b,s.get nm=some b→b.length≤7):∀ b,zAc LL s.dead nm=some b→b.length≤7:=fun b hb=>h4 b (by rw [g.get nm];exact hb)
theorem zJq (g:SS w0 w N sb lb d L q r B s LL nm m c) (hs:sd.length=16) (hh:h≤4) :
  Calls Tryz.prog 9 #[.pointer (some ⟨sb,0,none⟩),.string nm,.agg (bV sd).toArray,.int .i64 h] w fun e w'=>∃ kb N',e=.returned (.tuple #[.pointer (some ⟨kb,0,none⟩),.int .i64 0])∧SS w0 w' N' sb lb d L q r B s LL nm m c∧ze w' kb sb nm sd h (zX s nm 0) (Wot.print sd h)∧N' kb∧¬ zAe sb lb d L kb∧¬ zAY q r B kb∧Below w.heap.size w w':=by
 refine (zEK w N sb lb d L s nm sd h g.st hs hh g.has.short).mono ?_
 rintro e w' ⟨kb,rfl,h1,h2,h3,h5⟩
 refine ⟨kb,_,rfl,⟨h3,(g.rs.mono (M:=fun b=>N b∨b=kb) (fun b hb=>hb.elim .inl (fun e=>.inr (by omega))) (fun b hb=>.inl hb)).below h5,g.dup,g.has,g.bel.trans (h5.mono g.bel.size),fun b hb=>?_,g.dj⟩,h2,.inr rfl,fun hf=>by have:=g.st.lt kb hf;omega,fun hf=>by have:=g.rs.lt kb hf;omega,h5⟩
 have:=g.bel.size
 rcases hb with hb | hb
 · exact g.far b hb
 · omega
theorem zII (g:SS w0 w N sb lb d L q r B s LL nm m c) (hk:ze w kb sb nm sd h x1 (Wot.print sd h)) (hN:N kb) (hf:¬ zAe sb lb d L kb) (hfr:¬ zAY q r B kb) (hs:sd.length=16) (hh:h≤4) :
  Calls Tryz.prog 18 #[.pointer (some ⟨q,0,none⟩),.string nm,.agg (bV sd).toArray,.int .i64 h] w fun e w'=>∃ kr N',e=.returned (.tuple #[.pointer (some ⟨kr,0,none⟩),.bool true])∧KP w0 w' N' kb kr sb lb d L q r B s s LL nm sd h x1 (zX s nm 0)∧Below w.heap.size w w':=by
 refine (zGt w N q r B 4 3 s.disk LL s.dead nm sd h g.rs g.st.old hs hh (g.dup.short g.has.short)).mono ?_
 rintro e w' ⟨kr,rfl,h1,h2,h3,h5⟩
 rw [g.dup.look] at h2
 have hkl:=Blk.lt hk
 have hsz:=g.bel.size
 refine ⟨kr,_,rfl,⟨g.st.grow (S:=fun _=>False) (Chg.of_below h5) (fun _ _=>id) (fun _ h=>h.elim) (fun b hb=>hb.elim .inl (fun e=>.inr (by omega))) (fun b hb=>.inl hb) (fun b hb=>hb.elim (fun hb=>Nat.lt_of_lt_of_le (g.st.old b hb) h5.size) (fun e=>by have:=Blk.lt h2;omega)),h3,Blk.kept hk h5,h2,.inl hN,.inr rfl,hf,fun hf=>by have:=g.rs.lt kr hf;omega,fun b hb hb'=>?_,g.bel.trans (h5.mono hsz),fun b hb=>?_⟩,h5⟩
 · rcases hb with hb | hb
   · rcases hb' with hb' | hb'
     · omega
     · rw [hb] at hb';exact hfr hb'
   · rcases hb' with hb' | hb'
     · have:=g.st.lt b hb;omega
     · exact g.dj b hb hb'
 · rcases hb with hb | hb
   · exact g.far b hb
   · omega
theorem zJf (g:KP w0 w N kb kr sb lb d L q r B s s LL nm sd h x x) (hs:sd.length=16) (h4:∀ b,s.get nm=some b→b.length≤7) (hx:x≤1000000) (hh:h≤4) :
  Calls Tryz.prog 24 #[.pointer (some ⟨kb,0,none⟩)] w fun e w'=>e=.returned (.int .i64 ((2 ^ h - zX s nm x:Nat):Int))∧KP w0 w' N kb kr sb lb d L q r B s s LL nm sd h (zX s nm x) x:=by
 refine (zCp w N kb sb lb d L s nm sd h x _ g.ka g.st hs g.na g.fa h4 hx hh).mono ?_
 rintro e w' ⟨rfl,hk,hs',hc⟩
 have hne:∀ b,b=kb→¬ KR kr q r B b:=fun b e=>by subst e;exact g.dj _ (.inl rfl)
 exact ⟨rfl,{ g with
  st:=hs'
  ka:=hk
  rs:=g.rs.chg hc (fun b e _=>by subst e;exact g.na) (fun b hb e=>hne b e (.inr hb))
  kq:=hc.blk g.kq (fun e=>hne _ e (.inl rfl))
  bel:=Chg.far g.bel hc g.bel.size (fun b (e:b=kb)=>by subst e;exact g.far _ g.na) }⟩
theorem zHo (g:KP w0 w N kb kr sb lb d L q r B s s LL nm sd h x1 x) {M:Nat} (hd:Dup M 4 s LL) (hs:sd.length=16) (h4:∀ b,s.get nm=some b→b.length≤7) (hx:x≤1000000) (hh:h≤4) :
  Calls Tryz.prog 25 #[.pointer (some ⟨kr,0,none⟩)] w fun e w'=>e=.returned (.int .i64 ((2 ^ h - zX s nm x:Nat):Int))∧KP w0 w' N kb kr sb lb d L q r B s s LL nm sd h x1 (zX s nm x):=by
 have hl:=zDp w N kr q r B 4 3 s.disk LL s.dead nm sd h x g.kq g.rs hs g.nr g.fr (hd.short h4) hx hh
 rw [hd.look] at hl
 refine hl.mono ?_
 rintro e w' ⟨rfl,hk,hs',hc⟩
 have hne:∀ b,b=kr→¬ KF kb sb lb d L b:=fun b e hb=>g.dj b hb (by subst e;exact .inl rfl)
 exact ⟨rfl,{ g with
  rs:=hs'
  kq:=hk
  st:=g.st.chg hc (fun b hb e=>hne b e (.inr hb)) (fun b e _=>by subst e;exact g.nr)
  ka:=hc.blk g.ka (fun e=>hne _ e (.inl rfl))
  bel:=Chg.far g.bel hc g.bel.size (fun b (e:b=kr)=>by subst e;exact g.far _ g.nr) }⟩
end
def zKn (w0 w:World) (kb kr sb lb d L q r B:Nat) (s:St) (LL:List zR) (nm:ByteArray) (sd:List UInt8) (h y x:Nat) (E:Int × St) (m:List UInt8) (e:Ending) (w':World):Prop :=
 Chg (KF kb sb lb d L) w w' ∧
 ((2 ^ h≤y∧e=.returned (.tuple #[zCe,.int .i64 9])∧∃ N',KP w0 w' N' kb kr sb lb d L q r B s s LL nm sd h y x) ∨
  (y < 2 ^ h∧E.1≠0∧e=.returned (.tuple #[zCe,.int .i64 E.1])∧∃ N',KP w0 w' N' kb kr sb lb d L q r B E.2 s LL nm sd h y x) ∨
  (y < 2 ^ h∧E.1=0∧∃ vv pv,e=.returned (.tuple #[.agg #[.int .i64 h,.int .i64 y,vv,pv],.int .i64 0]) ∧
   zL bV WfH 32 34 w' w.heap.size vv (Wot.signO sd y m)∧zL bV WfH 32 34 w' w.heap.size pv (Wot.proof h y (Wot.leaves sd (2 ^ h))) ∧
   ∃ N',KP w0 w' N' kb kr sb lb d L q r B E.2 s LL nm sd h (y+1) x))
section
variable {w0 w w':World} {N:Nat→Prop} {kb kr sb lb d L q r B h x1 x m c:Nat} {s1 s:St} {LL:List zR} {nm:ByteArray} {sd:List UInt8}
theorem KP.after (g:KP w0 w N kb kr sb lb d L q r B s s LL nm sd h x x) {s':St} {x':Nat} (hk:ze w' kb sb nm sd h x' (Wot.print sd h)) (hs:StN w N sb lb d L s' w') (hc:Chg (KF kb sb lb d L) w w') :
  ∃ N',KP w0 w' N' kb kr sb lb d L q r B s' s LL nm sd h x' x:=by
 obtain ⟨N',h1,h2,h3⟩:=hs
 exact ⟨N',h3,(g.rs.mono h2 h1).chg hc (fun b hb _=>h1 _ (g.kf b hb)) (fun b hb hb'=>g.dj b hb' (.inr hb)),hk,hc.blk g.kq (fun e=>g.dj _ e (.inl rfl)),h1 _ g.na,h1 _ g.nr,g.fa,g.fr,g.dj,Chg.far g.bel hc g.bel.size (fun b hb=>g.far b (g.kf b hb)),fun b hb=>(h2 b hb).elim (g.far b) (fun e=>Nat.le_trans g.bel.size e)⟩
theorem zLw (g:KP w0 w N kb kr sb lb d L q r B s s LL nm sd h x x) (v:Value) (mm:List UInt8) (hs:sd.length=16) (h4:∀ b,s.get nm=some b→b.length≤7) (hx:x≤1000000) (hh:h≤4) (hv:∀ w',Chg (KF kb sb lb d L) w w'→Bys w' v mm) (hm:mm.length≤1000) (hnm:nm.size≤1000000) (hfew:s.disk.writes < 72057594037920000) (y:Nat) (hy:y=zX s nm x) (E:Int × St) (hE:E=zk s nm (Cod.be 4 (y+1))) :
  Calls Tryz.prog 13 #[.pointer (some ⟨kb,0,none⟩),v] w (zKn w0 w kb kr sb lb d L q r B s LL nm sd h y x E mm):=by
 refine (zCq w N kb sb lb d L s nm sd h x _ v mm g.ka g.st hs g.na g.fa h4 hx hh hv hm hnm hfew).mono ?_
 unfold zHB zKn
 rw [← hy,← hE]
 rintro e w' (⟨h1,h2,hk,hst,hc⟩ | ⟨h1,h2,h3,hk,hst,hc⟩ | ⟨h1,h2,vv,pv,h3,h5,h6,hk,hst,hc⟩)
 · exact ⟨hc,.inl ⟨h1,h2,g.after hk hst hc⟩⟩
 · exact ⟨hc,.inr (.inl ⟨h1,h2,h3,g.after hk hst hc⟩)⟩
 · exact ⟨hc,.inr (.inr ⟨h1,h2,vv,pv,h3,h5,h6,g.after hk hst hc⟩)⟩
theorem KP.rafter (g:KP w0 w N kb kr sb lb d L q r B s1 s LL nm sd h x1 x) {D':zA} {L':List zR} {dd:Bool} {s2:St} {x':Nat} (hk:zg w' kr q nm sd h x') (hs:RStN w N q r B 4 3 D' L' dd w') (hc:Chg (KR kr q r B) w w') (e1:D'=s2.disk) (e2:dd=s2.dead) :
  ∃ N',KP w0 w' N' kb kr sb lb d L q r B s1 s2 L' nm sd h x1 x':=by
 subst e1 e2
 obtain ⟨N',h1,h2,h4,h3⟩:=hs
 have hne:∀ b,KF kb sb lb d L b→¬ KR kr q r B b:=g.dj
 exact ⟨N',g.st.grow hc (fun b hb e=>hne b (.inr hb) e) (fun b hb _=>g.krf b hb) h2 h1 h4,h3,hc.blk g.ka (hne _ (.inl rfl)),hk,h1 _ g.na,h1 _ g.nr,g.fa,g.fr,g.dj,Chg.far g.bel hc g.bel.size (fun b hb=>g.far b (g.krf b hb)),fun b hb=>(h2 b hb).elim (g.far b) (fun e=>Nat.le_trans g.bel.size e)⟩
end
def zId (w0 w:World) (kb kr sb lb d L q r B:Nat) (s1 s:St) (LL:List zR) (M:Nat) (nm:ByteArray) (sd:List UInt8) (h y x1:Nat) (E:Int × St) (m:List UInt8) (e:Ending) (w':World):Prop :=
 Chg (KR kr q r B) w w' ∧
 ((2 ^ h≤y∧e=.returned (.tuple #[zCe,.int .i64 9])∧∃ N',KP w0 w' N' kb kr sb lb d L q r B s1 s LL nm sd h x1 y) ∨
  (y < 2 ^ h∧E.1≠0∧e=.returned (.tuple #[zCe,.int .i64 E.1])∧∃ N' LL',KP w0 w' N' kb kr sb lb d L q r B s1 E.2 LL' nm sd h x1 y∧Dup (M+1) 4 E.2 LL') ∨
  (y < 2 ^ h∧E.1=0∧∃ vv pv,e=.returned (.tuple #[.agg #[.int .i64 h,.int .i64 y,vv,pv],.int .i64 0]) ∧
   zL bV WfH 32 34 w' w.heap.size vv (Wot.signO sd y m)∧zL bV WfH 32 34 w' w.heap.size pv (Wot.proof h y (Wot.leaves sd (2 ^ h))) ∧
   ∃ N' LL',KP w0 w' N' kb kr sb lb d L q r B s1 E.2 LL' nm sd h x1 (y+1)∧Dup (M+1) 4 E.2 LL'))
section
variable {w0 w w':World} {N:Nat→Prop} {kb kr sb lb d L q r B h x1 x M:Nat} {s1 s:St} {LL:List zR} {nm:ByteArray} {sd:List UInt8}
theorem zK8 (g:KP w0 w N kb kr sb lb d L q r B s1 s LL nm sd h x1 x) (hd:Dup M 4 s LL) (hok:s.Ok) (hro:s.room=3) (hM:M≤5000000000) (v:Value) (mm:List UInt8) (hs:sd.length=16) (h4:∀ b,s.get nm=some b→b.length≤7) (hx:x≤1000000) (hh:h≤4) (hv:∀ w',Chg (KR kr q r B) w w'→Bys w' v mm) (hm:mm.length≤1000) (hnm:nm.size≤1000000) (hfew:s.disk.writes < 4611686018427000000) (y:Nat) (hy:y=zX s nm x) (E:Int × St) (hE:E=zk s nm (Cod.be 4 (y+1))) :
  Calls Tryz.prog 22 #[.pointer (some ⟨kr,0,none⟩),v] w (zId w0 w kb kr sb lb d L q r B s1 s LL M nm sd h y x1 E mm):=by
 obtain ⟨p1,p2,p3,_,p5⟩:=hd.put hok (by omega) nm (Cod.be 4 (y+1))
 rw [hro] at p1 p2 p3 p5
 rw [← hE] at p1 p2 p3 p5
 obtain ⟨R,hR⟩:∃ R,R=zAX 4 3 s.disk LL s.dead nm (Cod.be 4 (y+1)):=⟨_,rfl⟩
 rw [← hR] at p1 p2 p3 p5
 refine (zGu w N kr q r B 4 3 s.disk LL s.dead nm sd h x v mm g.kq g.rs g.st.old hs g.nr g.fr (hd.short h4) hx hh (fun w' hc=>g.st.tab.chg hc (fun e=>g.st.ntab (g.krf _ e))) hv hm hnm hfew y (by rw [hd.look];exact hy) R hR (fun sl hsl=>hd.put_len nm _ sl hsl) (by have:=zJi hd.num nm;omega)).mono ?_
 unfold zIe zId
 rw [p1]
 rintro e w' (⟨h1,h2,hk,hst,hc⟩ | ⟨h1,h2,h3,hk,hst,hc⟩ | ⟨h1,h2,vv,pv,h3,h5,h6,hk,hst,hc⟩)
 · exact ⟨hc,.inl ⟨h1,h2,g.rafter hk hst hc rfl rfl⟩⟩
 · obtain ⟨N',hg⟩:=g.rafter hk hst hc p2 p3
   exact ⟨hc,.inr (.inl ⟨h1,h2,h3,N',_,hg,p5⟩)⟩
 · obtain ⟨N',hg⟩:=g.rafter hk hst hc p2 p3
   exact ⟨hc,.inr (.inr ⟨h1,h2,vv,pv,h3,h5,h6,N',_,hg,p5⟩)⟩
theorem KP.redisk (g:KP w0 w N kb kr sb lb d L q r B s s LL nm sd h x1 x) {D:zA} {w2:World} (hc:Chg (fun b=>b=d) w w') (hD:zM w' d L D) (hc2:Chg (fun b=>b=r) w' w2) (hR:zZ w2 r B D) (hn:D.n=s.disk.n) (hw:s.disk.writes≤D.writes) (hw2:D.writes≤72057594037927936):KP w0 w2 N kb kr sb lb d L q r B { s with disk:=D } { s with disk:=D } LL nm sd h x1 x:=by
 have hfd:∀ b,b=d→KF kb sb lb d L b:=fun b e=>by subst e;exact .inr (.inr (.inr (.inl rfl)))
 have hfr:∀ b,b=r→KR kr q r B b:=fun b e=>by subst e;exact .inr (.inr (.inl rfl))
 have hne:∀ b,KF kb sb lb d L b→¬ KR kr q r B b:=g.dj
 have hst:=(g.st.redisk (hc.mono (fun b e=>.inl e)) hD hn hw hw2).chg hc2 (fun b hb e=>hne b (.inr hb) (hfr b e)) (fun b e _=>g.krf b (hfr b e))
 obtain ⟨lv,ps,hr⟩:=g.rs
 have hr1:zAA w' N q r B lv ps s.disk 4 3 LL s.dead:=hr.chg hc (fun b e _=>g.kf b (hfd b e)) (fun b hb e=>hne b (hfd b e) (.inr hb))
 exact ⟨hst,⟨lv,ps,hr1.redisk (hc2.mono (fun b e=>.inl e)) hR hn⟩,hc2.blk (hc.blk g.ka (fun e=>g.fa (.inr (.inr (.inl e))))) (fun e=>hne _ (.inl rfl) (hfr _ e)),hc2.blk (hc.blk g.kq (fun e=>hne _ (hfd _ e) (.inl rfl))) (fun e=>g.fr (.inr (.inl e))),g.na,g.nr,g.fa,g.fr,g.dj,
  Chg.far (Chg.far g.bel hc g.bel.size (fun b e=>g.far b (g.kf b (hfd b e)))) hc2 (Nat.le_trans g.bel.size hc.size) (fun b e=>g.far b (g.krf b (hfr b e))),g.far⟩
end
theorem zGD {w0 w:World} {d L r B:Nat} {D:zA} {m c:Nat} {nm:ByteArray} {l:List Sto.Rec} (hT:Tab w) (hb:Below w0.heap.size w0 w) (hT0:Tab w0) (hfar:w0.heap.size≤d∧w0.heap.size≤L∧w0.heap.size≤r∧w0.heap.size≤B) (hne:d≠r∧d≠B∧L≠r∧L≠B) (hD:zM w d L D.start) (hR:zZ w r B D.start) (hh:Holds D 3 l) (hm:Bnd m l) (hm1:m < 1000000) (hw:D.writes≤2000*m) (htl:zCb l nm c) :
  Calls Tryz.prog 7 #[.pointer (some ⟨d,0,none⟩),.int .i64 4,.int .i64 3] w fun e w'=>∃ s sb lb N,e=.returned (.tuple #[.pointer (some ⟨sb,0,none⟩),.int .i64 0])∧StoX w0 w' N (fun b=>b=r∨b=B) sb lb d L s∧zBo (m+1) s nm c∧zu D.start 4 3=(0,s.disk,some s)∧zZ w' r B D.start:=by
 have h0:=hT0.lt
 obtain ⟨l',D',t1,t2,t3⟩:=zHb hh hm hw (by rw [htl.len];decide) (by omega)
 rw [htl.len] at t2
 have hs:=hb.size
 have hdl:=hD.lt
 have hrl:=hR.lt
 refine (zFC (fun b=>DL d L b∨(b=r∨b=B)) d L D.start 4 3 w hT ⟨fun hk=>by rcases hk with (e | e) | e | e <;> omega,.inl (.inl rfl),.inl (.inr rfl),fun b hb=>by rcases hb with (rfl | rfl) | rfl | rfl;exact hdl.1;exact hdl.2;exact hrl.1;exact hrl.2⟩ hD (by decide) (by decide) (by rw [← htl.len];exact hh.1) (by show D.writes < _;omega)).mono ?_
 rintro e w1 ⟨p,rfl,hc,hD',hp⟩
 rw [t2] at hp ⊢
 rcases hp with ⟨h,_⟩ | ⟨s,lb,e1,rfl,e3,e4⟩
 · cases h
 · cases e1
   refine ⟨_,w.heap.size,lb,_,rfl,⟨e4,Chg.far hb hc hb.size (fun b e=>e.elim (fun e=>by omega) (fun e=>by omega)),fun b hb=>?_,fun b hx=>⟨.inl (.inr hx),fun hf=>?_⟩⟩,zBo.opened t3 t1 htl rfl,rfl,hR.chg hc (fun e=>by rcases e with e | e;exact hne.1 e.symm;exact hne.2.2.1 e.symm) (fun e=>by rcases e with e | e;exact hne.2.1 e.symm;exact hne.2.2.2 e.symm)⟩
   · rcases hb with ((hb | hb) | hb | hb) | hb | hb <;> omega
   · rcases hf with e | e | e | e <;> rcases hx with e' | e' <;> omega
theorem zFH {w0 w:World} {N:Nat→Prop} {sb lb d L r B:Nat} {D:zA} {s:St} {m c:Nat} {nm:ByteArray} (g:StoX w0 w N (fun b=>b=r∨b=B) sb lb d L s) (hk:zBo (m+1) s nm c) (ho:zu D.start 4 3=(0,s.disk,some s)) (hR:zZ w r B D.start) (hn:D.n=16) (hw:D.writes≤2000*m) (hm1:m < 1000000) :
  Calls Tryz.prog 17 #[.pointer (some ⟨r,0,none⟩),.int .i64 4,.int .i64 3] w fun e w'=>∃ q N' LL,e=.returned (.tuple #[.pointer (some ⟨q,0,none⟩),.int .i64 0])∧SS w0 w' N' sb lb d L q r B s LL nm (m+1) c:=by
 have hd:=zLG (m:=big+m) D.start 4 3 hn (by decide) (by decide) (by unfold big;omega) (by show D.writes≤_;unfold big;omega)
 rw [ho] at hd
 obtain ⟨d1,d2,_,_,d5⟩:=hd
 obtain ⟨s',e1,dup,hdead,hroom,hdisk⟩:∃ s':St,some s=some s'∧Dup (big+m+1) 4 s' (zAV D.start 4 3).2.2∧s'.dead=false∧s'.room=3∧s'.disk=s.disk:=by
  rcases d5 with ⟨_,h⟩ | ⟨h,_⟩
  · exact h
  · exact absurd (show (0:Int)=8 from h) (by decide)
 cases e1
 have nr:=(g.away r (.inl rfl)).1
 have nB:=(g.away B (.inr rfl)).1
 refine (zIA r B D.start 4 3 w hR hn (by decide) (by decide) N g.st.old nr nB (by show D.writes < _;omega)).mono ?_
 rintro e w' (⟨_,q,lv,ps,rfl,hq,hst,hc⟩ | ⟨h,_⟩)
 · rw [d2] at hst
   have hX:∀ b,(b=r∨b=B)→N b∧¬ zAe sb lb d L b:=g.away
   have hqf:¬ zAe sb lb d L q:=fun hf=>by have:=g.st.lt q hf;omega
   refine ⟨q,(fun b=>N b∨b=q),_,rfl,⟨g.st.grow hc (fun b hb e=>(hX b e).2 hb) (fun b e _=>(hX b e).1) (fun b hb=>hb.elim .inl (fun e=>.inr (by omega))) (fun b hb=>.inl hb) (fun b hb=>hb.elim (fun hb=>Nat.lt_of_lt_of_le (g.st.old b hb) hc.size) (fun e=>by rw [e];exact hst.blk.lt)),⟨lv,ps,by rw [hdead];exact hst⟩,dup,.inl hk,Chg.far g.bel hc g.bel.size (fun b e=>g.far b (hX b e).1),fun b hb=>?_,fun b hb hb'=>?_⟩⟩
   · have:=g.bel.size
     rcases hb with hb | hb
     · exact g.far b hb
     · omega
   · rcases hb' with hb' | hb' | hb'
     · rw [hb'] at hb;exact hqf hb
     · exact (hX b (.inl hb')).2 hb
     · exact (hX b (.inr hb')).2 hb
 · rw [d1] at h
   exact absurd (show (0:Int)=8 from h) (by decide)
end Go.Proofs.YtdlkghdfkjdajaaGreatDoor
end
section
namespace Go.Proofs.YtdlkghdfkjdajaaGreatDoor
open Go Go.RowKit Go.Mem Gf
set_option linter.unusedVariables false
set_option linter.unusedSimpArgs false
def SgR (sd:List UInt8) (h y:Nat) (E:Int × St) (s:St) (m:List UInt8) (A b:Nat) (er:Int) (vl pl:List (List UInt8)) (s':St) (x':Nat):Prop :=
 (2 ^ h≤y∧A=0∧b=0∧er=9∧vl=[]∧pl=[]∧s'=s∧x'=y) ∨
 (y < 2 ^ h∧E.1≠0∧A=0∧b=0∧er=E.1∧vl=[]∧pl=[]∧s'=E.2∧x'=y) ∨
 (y < 2 ^ h∧E.1=0∧A=h∧b=y∧er=0∧vl=Wot.signO sd y m∧pl=Wot.proof h y (Wot.leaves sd (2 ^ h))∧s'=E.2∧x'=y+1)
section
variable {w0 w w':World} {kb kr sb lb d L q r B h x1 x y M:Nat} {s1 s:St} {LL:List zR} {nm:ByteArray} {sd mm:List UInt8} {E:Int × St} {e:Ending}
theorem zKU (hp:zKn w0 w kb kr sb lb d L q r B s LL nm sd h y x E mm e w'):∃ A b er vl pl s' x' vv pv N',SgR sd h y E s mm A b er vl pl s' x'∧e=.returned (.tuple #[.agg #[.int .i64 (A:Int),.int .i64 (b:Int),vv,pv],.int .i64 er]) ∧
  zL bV WfH 32 34 w' w.heap.size vv vl∧zL bV WfH 32 34 w' w.heap.size pv pl∧KP w0 w' N' kb kr sb lb d L q r B s' s LL nm sd h x' x∧Chg (KF kb sb lb d L) w w':=by
 obtain ⟨hc,⟨h1,h2,N',h3⟩ | ⟨h1,h2,h3,N',h4⟩ | ⟨h1,h2,vv,pv,h3,h4,h5,N',h6⟩⟩:=hp
 · exact ⟨0,0,9,[],[],s,y,_,_,N',.inl ⟨h1,rfl,rfl,rfl,rfl,rfl,rfl,rfl⟩,h2,zL.nil _ _ _ _ _ _,zL.nil _ _ _ _ _ _,h3,hc⟩
 · exact ⟨0,0,_,[],[],_,y,_,_,N',.inr (.inl ⟨h1,h2,rfl,rfl,rfl,rfl,rfl,rfl,rfl⟩),h3,zL.nil _ _ _ _ _ _,zL.nil _ _ _ _ _ _,h4,hc⟩
 · exact ⟨h,y,0,_,_,_,y+1,vv,pv,N',.inr (.inr ⟨h1,h2,rfl,rfl,rfl,rfl,rfl,rfl,rfl⟩),h3,h4,h5,h6,hc⟩
theorem zJE {A b:Nat} {er:Int} {vl pl:List (List UInt8)} {s':St} {x':Nat} (hp:zId w0 w kb kr sb lb d L q r B s1 s LL M nm sd h y x1 E mm e w') (hr:SgR sd h y E s mm A b er vl pl s' x') (hd:Dup M 4 s LL):∃ vv pv N' LL',e=.returned (.tuple #[.agg #[.int .i64 (A:Int),.int .i64 (b:Int),vv,pv],.int .i64 er]) ∧
  zL bV WfH 32 34 w' w.heap.size vv vl∧zL bV WfH 32 34 w' w.heap.size pv pl∧KP w0 w' N' kb kr sb lb d L q r B s1 s' LL' nm sd h x1 x'∧Dup (M+1) 4 s' LL'∧Chg (KR kr q r B) w w':=by
 obtain ⟨hc,hp⟩:=hp
 rcases hr with ⟨a1,rfl,rfl,rfl,rfl,rfl,rfl,rfl⟩ | ⟨a1,a2,rfl,rfl,rfl,rfl,rfl,rfl,rfl⟩ | ⟨a1,a2,rfl,rfl,rfl,rfl,rfl,rfl,rfl⟩
 · rcases hp with ⟨h1,h2,N',h3⟩ | ⟨h1,h2,h3,N',LL',h4,h5⟩ | ⟨h1,h2,vv,pv,h3,h4,h5,N',LL',h6,h7⟩
   · exact ⟨_,_,N',LL,h2,zL.nil _ _ _ _ _ _,zL.nil _ _ _ _ _ _,h3,hd.mono (Nat.le_succ _),hc⟩
   · omega
   · omega
 · rcases hp with ⟨h1,h2,N',h3⟩ | ⟨h1,h2,h3,N',LL',h4,h5⟩ | ⟨h1,h2,vv,pv,h3,h4,h5,N',LL',h6,h7⟩
   · omega
   · exact ⟨_,_,N',LL',h3,zL.nil _ _ _ _ _ _,zL.nil _ _ _ _ _ _,h4,h5,hc⟩
   · exact absurd h2 a2
 · rcases hp with ⟨h1,h2,N',h3⟩ | ⟨h1,h2,h3,N',LL',h4,h5⟩ | ⟨h1,h2,vv,pv,h3,h4,h5,N',LL',h6,h7⟩
   · omega
   · exact absurd a2 h2
   · exact ⟨vv,pv,N',LL',h3,h4,h5,h6,h7,hc⟩
end
theorem zCm {m c h x:Nat} {s:St} {nm:ByteArray} (hk:zB8 m s nm c) (hh:h≤4) (hc:c≤2 ^ h) (hx:x≤2 ^ h):zX s nm x≤2 ^ h:=by
 have h16:2 ^ h≤16:=Nat.pow_le_pow_right (n:=2) (by decide) hh
 rcases hk with ha | hg
 · rw [ha.look (by omega) x];exact Nat.max_le.2 ⟨hx,hc⟩
 · rw [hg.look x];exact hx
theorem zK3 {m c:Nat} {s:St} {nm:ByteArray} (hk:zB8 m s nm c):s.room=3:=by
 rcases hk with ha | hg
 · exact ha.room
 · exact hg.room
theorem has_n {m c:Nat} {s:St} {nm:ByteArray} (hk:zB8 m s nm c):s.disk.n=16:=by
 obtain ⟨l,h1,_,h3⟩:=hk.held
 have:=h1.1
 rw [h3.len] at this
 exact this
theorem zL3 {sd mm:List UInt8} {h y m c x:Nat} {E:Int × St} {s:St} {nm:ByteArray} {A b:Nat} {er:Int} {vl pl:List (List UInt8)} {s':St} {x':Nat} (hr:SgR sd h y E s mm A b er vl pl s' x') (hk:zB8 m s nm c) (hm:m < 1000000) (hn:nm.size≤3) (hy:y=zX s nm x) (hE:E=zk s nm (Cod.be 4 (y+1))) (hh:h≤4) (hc:c≤2 ^ h) (hx:x≤2 ^ h) :
  ∃ c',zB8 (m+1) s' nm c'∧c'≤2 ^ h∧x'≤2 ^ h∧vl.length≤1000∧pl.length≤1000:=by
 have hyl:y≤2 ^ h:=by rw [hy];exact zCm hk hh hc hx
 rcases hr with ⟨a1,rfl,rfl,rfl,rfl,rfl,rfl,rfl⟩ | ⟨a1,a2,rfl,rfl,rfl,rfl,rfl,rfl,rfl⟩ | ⟨a1,a2,rfl,rfl,rfl,rfl,rfl,rfl,rfl⟩
 · exact ⟨c,hk.up,hc,hyl,by decide,by decide⟩
 · subst hE
   rcases hk with ha | hg
   · rcases ha.put hm hn (x'+1) with ⟨p1,_⟩ | ⟨p1,p2 | p2⟩
     · exact absurd p1 a2
     · exact ⟨c,.inr p2,hc,hyl,by decide,by decide⟩
     · exact ⟨x'+1,.inr p2,a1,hyl,by decide,by decide⟩
   · rw [hg.put]
     exact ⟨c,zB8.up (.inr hg),hc,hyl,by decide,by decide⟩
 · subst hE
   refine ⟨b+1,?_,a1,a1,by rw [Wot.signO_len];decide,by rw [Wot.proof_len];omega⟩
   rcases hk with ha | hg
   · rcases ha.put hm hn (b+1) with ⟨_,p2⟩ | ⟨p1,_⟩
     · exact .inl p2
     · rw [p1] at a2;exact absurd a2 (by decide)
   · rw [hg.put] at a2;exact absurd (show (8:Int)=0 from a2) (by decide)
end Go.Proofs.YtdlkghdfkjdajaaGreatDoor
end
section
namespace Go.Proofs.YtdlkghdfkjdajaaGreatDoor
open Go Go.RowKit Go.Mem Gf
set_option linter.unusedVariables false
set_option linter.unusedSimpArgs false
attribute [local go_sem ↓] Go.wp_at_zero Go.wp_at_succ
theorem i4a:(Tryz.prog.info? 43).map (·.size)=some 4:=by kernel_rfl
theorem zKK (dst:Option Tmp) (x:Operand) (ty:TypeId) (pos:String) (af:Array Edge) (gd:Option (Tmp × Bool)) (a:Act) (w:World) (K:Act→World→Prop) (Q:Exit→Act→World→Prop)
  (hp:zBe (a.eval x)=true) (ht:zHC 4 w (zAy (a.eval x)) (zAz (a.eval x))) :
  Oper.wp Tryz.prog ⟨dst,.load 43 x,ty,pos,af,gd⟩ a w K Q=K (a.put dst (.agg (zh 4 w (zAy (a.eval x)) (zAz (a.eval x))).toArray)) w :=
 zLh Tryz.underlying43 rfl i4a dst x ty pos af gd a w K Q hp ht
theorem zJM (dst:Option Tmp) (x y:Operand) (ty:TypeId) (pos:String) (af:Array Edge) (a:Act) (w:World) (K:Act→World→Prop) (Q:Exit→Act→World→Prop)
  (hp:zBe (a.eval x)=true) (hy:zBX (a.eval y)=true) (ht:zi 4 w (zAy (a.eval x)) (zAz (a.eval x))) (hc:zAS 4 (zAu (a.eval y))) :
  Oper.wp Tryz.prog ⟨dst,.store 43 x y,ty,pos,af,none⟩ a w K Q=K (a.put dst undef) (w.setCells (zAy (a.eval x)) (zAz (a.eval x)) (zAu (a.eval y))) :=
 zCI i4a dst x y ty pos af a w K Q hp hy ht hc
theorem zLA (dst:Option Tmp) (x:Operand) (ty:TypeId) (pos:String) (af:Array Edge) (gd:Option (Tmp × Bool)) (a:Act) (w:World) (K:Act→World→Prop) (Q:Exit→Act→World→Prop)
  (hp:zBe (a.eval x)=true) (ht:zi 4 w (zAy (a.eval x)) (zAz (a.eval x))) :
  Oper.wp Tryz.prog ⟨dst,.load 48 x,ty,pos,af,gd⟩ a w K Q=K (a.put dst (.agg (zh 4 w (zAy (a.eval x)) (zAz (a.eval x))).toArray)) w :=
 zD1 Tryz.underlying48 rfl i4s dst x ty pos af gd a w K Q hp ht
def nK:ByteArray:=⟨#[107]⟩
structure Pls (w0 w:World) (N:Nat→Prop) (kb kr sb lb d L q r B:Nat) (s:St) (LL:List zR) (sd:List UInt8) (h x c m:Nat):Prop where
 two:KP w0 w N kb kr sb lb d L q r B s s LL nK sd h x x
 has:zB8 m s nK c
 dup:Dup (big+m) 4 s LL
 le:c≤2 ^ h∧x≤2 ^ h
theorem Pls.step {w0 w w':World} {N:Nat→Prop} {kb kr sb lb d L q r B h x c m:Nat} {s:St} {LL:List zR} {sd:List UInt8} (g:Pls w0 w N kb kr sb lb d L q r B s LL sd h x c m) (hb:Below w.heap.size w w'):Pls w0 w' N kb kr sb lb d L q r B s LL sd h x c m:={ g with two:=g.two.step hb }
theorem zHZ:zCb (List.replicate 4 Sto.Rec.free) nK 0:=⟨rfl,fun nm _=>zD8 4 nm,.inl ⟨rfl,zD8 4 _⟩⟩
theorem zHY:Holds (.fresh 16) 3 (List.replicate 4 Sto.Rec.free):=Holds.fresh 4 3
theorem zKE:Bnd 0 (List.replicate 4 Sto.Rec.free):=zFb.bnd
theorem zGx {w:World} {N:Nat→Prop} {q r B:Nat} {D:zA} {L:List zR} {died:Bool} (h:RSt w N q r B 4 3 D L died):zZ w r B D:=by
 obtain ⟨lv,ps,h⟩:=h
 exact h.disk
attribute [local go_sem ↓] zBC zLA zKK zJM zf zY zU
attribute [local go_sem] ptrB_eq ptrO_eq ptrIs_eq aggL_eq aggIs_eq zS zV zD zF zJ zK zB
set_option maxRecDepth 20000 in
set_option maxHeartbeats 8000000 in
theorem zE5 (w:World) (hT:Tab w) (sd:List UInt8) (hs:sd.length=16) (h0:Int) (_hh:-9223372036854775808≤h0∧h0≤9223372036854775807) (va:Value) (la:List ActK) (ha:Sls 4 zKk w va la) :
  Calls Tryz.prog 4 #[.agg (bV sd).toArray,.int .i64 h0,va] w fun e w'=>e=.returned (.bool true)∧Below w.heap.size w w':=by
 have HT:=Lib.hid hT
 have hla:=ha.len
 obtain ⟨aa,ac,rfl⟩:=ha.eq_slice
 obtain ⟨n,hn⟩:∃ n,n=la.length:=⟨_,rfl⟩
 rw [← hn] at ha hla ⊢
 have HA:=Lib.hid (And.intro ha hn)
 clear hT ha hn _hh
 obtain ⟨cs,hcs⟩:∃ c,c=bV sd:=⟨_,rfl⟩
 have hcl:cs.length=16:=by rw [hcs,zG];exact hs
 rw [← hcs]
 have HCS:=Lib.hid hcs
 clear hcs
 go_enter Tryz.func4,Tryz.ntmps4
 go_upto_region 1 with fail
 obtain ⟨w1,hw1⟩:∃ q,q=w.alloc (.cells cs.toArray 23):=⟨_,rfl⟩
 obtain ⟨p3,hp3⟩:∃ q,q=w.heap.size:=⟨_,rfl⟩
 have hb1:Below w.heap.size w w1:=by rw [hw1];exact (Below.refl _ _).alloc (Nat.le_refl _) _
 have hk1:Blk w1 p3 cs.toArray 23:=by rw [hw1,hp3];exact Blk.new _ _ _
 rw [← hw1,← hp3]
 have HP3:=Lib.hid (And.intro hb1 hk1)
 clear hw1 hp3 hb1 hk1
 go_wp2_with fail
 refine (zCX h0 3 (by decide) (by decide) _).mono ?_
 rintro e _ ⟨rfl,rfl⟩
 obtain ⟨hn1,hn2⟩:=zD0 h0 3 (by decide)
 obtain ⟨h,hz⟩:∃ h:Nat,within h0 3=h:=⟨(within h0 3).toNat,by omega⟩
 rw [hz] at hn1 hn2 ⊢
 have hh4:h≤4:=by omega
 clear hz hn1 hn2
 go_wp2_with fail
 refine (zEv 16 w1 (by omega) (by omega)).mono ?_
 rintro e w2 ⟨d,L,rfl,hD,hd1,hd2,hb2⟩
 have H2:=Lib.hid (And.intro hD (And.intro hd1 (And.intro hd2 hb2)))
 clear hD hd1 hd2 hb2
 go_wp2_with fail
 refine (zJC 16 w2 (by omega) (by omega)).mono ?_
 rintro e w3 ⟨r,B,rfl,hR,hr1,hr2,hb3⟩
 have hbw:Below w1.heap.size w1 w3:=H2.out.2.2.2.trans (hb3.mono H2.out.2.2.2.size)
 have hz2:=H2.out.2.2.2.size
 have hdl:=H2.out.1.lt
 have hdd1:=H2.out.2.1
 have hdd2:=H2.out.2.2.1
 have hop:=zGD (w0:=w1) (D:=.fresh 16) (m:=0) (HT.out.below (HP3.out.1.trans (hbw.mono HP3.out.1.size))) hbw (HT.out.below HP3.out.1) ⟨hdd1,hdd2,by omega,by omega⟩ ⟨by omega,by omega,by omega,by omega⟩ (H2.out.1.below hb3) hR zHY zKE (by decide) (by decide) zHZ
 have HOP:=Lib.hid hop
 clear hR hr1 hr2 hb3 hbw hz2 hdl hdd1 hdd2 hop H2
 go_wp2_with fail
 refine HOP.out.mono ?_
 rintro e w4 ⟨s,sb,lb,N,rfl,hg4,hal,hor,hR4⟩
 have hro:=zFH hg4 hal hor hR4 rfl (by decide) (by decide)
 have HRO:=Lib.hid hro
 clear hg4 hal hor hR4 hro HOP
 go_wp2_with fail
 refine HRO.out.mono ?_
 rintro e w5 ⟨q,N,LL,rfl,hS⟩
 have hk3:=HP3.out.2.kept hS.bel
 have k3:zh 16 w5 p3 0=cs:=zn hk3 hcl (fun k _=>by simp)
 have k3':zi 16 w5 p3 0:=zQ hk3 (by simp [hcl])
 have hop:=zJq hS hs hh4
 rw [← HCS.out] at hop
 have HOK:=Lib.hid (And.intro hop hS)
 clear hS hk3 hop HRO
 go_wp2_with fail
 refine HOK.out.1.mono ?_
 rintro e w6 ⟨kb,N,rfl,hS,hka,hna,hfa,hfr,hb6⟩
 have hk3:=HP3.out.2.kept hS.bel
 have hro:=zII hS hka hna hfa hfr hs hh4
 rw [← HCS.out] at hro
 have HRK:=Lib.hid (And.intro hro hS)
 have k3:zh 16 w6 p3 0=cs:=zn hk3 hcl (fun k _=>by simp)
 have k3':zi 16 w6 p3 0:=zQ hk3 (by simp [hcl])
 clear hk3 hS hro hb6 hka hna hfa hfr HOK
 go_wp2_with fail
 refine HRK.out.1.mono ?_
 rintro e w5 ⟨kr,N,rfl,hG,hb⟩
 have hlk:=zCm (x:=0) HRK.out.2.has hh4 (Nat.zero_le _) (Nat.zero_le _)
 obtain ⟨x0,hx0⟩:∃ x0,x0=zX s nK 0:=⟨_,rfl⟩
 rw [← hx0] at hG hlk
 have hk3:=HP3.out.2.kept hG.bel
 have HG:=Lib.hid (And.intro hG hk3)
 have HI:=Lib.hid (And.intro HRK.out.2.has (And.intro HRK.out.2.dup hlk))
 obtain ⟨cpr,hcpr⟩:∃ c,c=bV (Wot.print sd h):=⟨_,rfl⟩
 have hprl:cpr.length=32:=by rw [hcpr,zG];exact Wot.tagged_len _ _
 have heq:=fun w1=>zKC (Wot.print sd h) w1 (Wot.tagged_len _ _)
 rw [← hcpr] at heq
 have HCP:=Lib.hid hcpr
 clear hG hk3 hb hx0 hlk hcpr HRK k3 k3'
 go_upto_region 12 with fail
 refine Tail.zT 13 (fun k=>k == 8 || k == 11) (fun k=>if k=8 then some (.agg cpr.toArray) else if k=11 then some (.agg cpr.toArray) else none)
  (fun D z w'=>Below w5.heap.size w5 w')
  (by kernel_rfl) (by kernel_rfl) (fun k hk=>by simp at hk;omega) (fun D z z' w' hz h=>h)
  ((Below.refl _ _).drew) (fun z=>?_)
 simp only [List.take_succ_cons,List.take_zero,List.drop_succ_cons,List.drop_zero]
 refine Tail.zI (by rfl) (by rfl) ?_
 apply Exists.intro
 refine ⟨fun w=>?_,?_⟩
 · go_simp <;> with_reducible rfl
 simp only [Act.put,List.setIfInBounds_toArray,List.set_cons_zero,List.set_cons_succ,Nat.reduceAdd,Nat.reduceEqDiff,reduceIte,Option.getD_some,Option.getD_none]
 refine Tail.zI (by rfl) (by rfl) ?_
 apply Exists.intro
 refine ⟨fun w=>?_,?_⟩
 · go_simp <;> with_reducible rfl
 simp only [Act.put,List.setIfInBounds_toArray,List.set_cons_zero,List.set_cons_succ,Nat.reduceAdd,Nat.reduceEqDiff,reduceIte,Option.getD_some,Option.getD_none]
 refine Tail.zI (by rfl) (by rfl) ?_
 apply Exists.intro
 refine ⟨fun w=>?_,?_⟩
 · go_simp <;> with_reducible rfl
 simp only [Act.put,List.setIfInBounds_toArray,List.set_cons_zero,List.set_cons_succ,Nat.reduceAdd,Nat.reduceEqDiff,reduceIte,Option.getD_some,Option.getD_none]
 refine Tail.zI (by rfl) (by rfl) ?_
 apply Exists.intro
 refine ⟨fun w=>?_,?_⟩
 · go_simp <;> with_reducible rfl
 simp only [Act.put,List.setIfInBounds_toArray,List.set_cons_zero,List.set_cons_succ,Nat.reduceAdd,Nat.reduceEqDiff,reduceIte,Option.getD_some,Option.getD_none]
 refine Tail.zI (by rfl) (by rfl) ?_
 apply Exists.intro
 refine ⟨fun w=>?_,?_⟩
 · go_simp <;> with_reducible rfl
 simp only [Act.put,List.setIfInBounds_toArray,List.set_cons_zero,List.set_cons_succ,Nat.reduceAdd,Nat.reduceEqDiff,reduceIte,Option.getD_some,Option.getD_none]
 refine Tail.zI (by rfl) (by rfl) ?_
 apply Exists.intro
 refine ⟨fun w=>?_,?_⟩
 · go_simp <;> with_reducible rfl
 simp only [Act.put,List.setIfInBounds_toArray,List.set_cons_zero,List.set_cons_succ,Nat.reduceAdd,Nat.reduceEqDiff,reduceIte,Option.getD_some,Option.getD_none]
 refine Tail.zI (by rfl) (by rfl) ?_
 apply Exists.intro
 refine ⟨fun w=>?_,?_⟩
 · go_simp <;> with_reducible rfl
 simp only [Act.put,List.setIfInBounds_toArray,List.set_cons_zero,List.set_cons_succ,Nat.reduceAdd,Nat.reduceEqDiff,reduceIte,Option.getD_some,Option.getD_none]
 refine Tail.zI (by rfl) (by rfl) ?_
 apply Exists.intro
 refine ⟨fun w=>?_,?_⟩
 · go_simp <;> with_reducible rfl
 simp only [Act.put,List.setIfInBounds_toArray,List.set_cons_zero,List.set_cons_succ,Nat.reduceAdd,Nat.reduceEqDiff,reduceIte,Option.getD_some,Option.getD_none]
 refine Tail.zAT (by rfl) (by rfl) ?_ ?_
 · apply Exists.intro
   apply Exists.intro
   refine ⟨fun w'=>?_,?_⟩
   · go_simp <;> exact ⟨rfl,rfl⟩
   intro D z' w' hD hz hd hp hJ
   refine (zGf w' kb sb nK sd h _ _ (Blk.kept HG.out.1.ka hJ) hs (Wot.tagged_len _ _)).mono ?_
   rintro e w'' ⟨rfl,hb⟩
   exact ⟨_,rfl,fun c hc=>by simp at hc;rw [← hc,HCP.out],hJ.trans (hb.mono hJ.size)⟩
 simp only [Act.put,List.setIfInBounds_toArray,List.set_cons_zero,List.set_cons_succ,Nat.reduceAdd,Nat.reduceEqDiff,reduceIte,Option.getD_some,Option.getD_none]
 refine Tail.zBc (by rfl) (by rfl) _ _ rfl p3 0 (by rfl) cs (fun D w' _ _ hJ=>zC0 (HG.out.2.kept hJ)) Tryz.underlying23 rfl (by rw [hcl];exact zIt) ?_
 simp only [Act.put,List.setIfInBounds_toArray,List.set_cons_zero,List.set_cons_succ,Nat.reduceAdd,Nat.reduceEqDiff,reduceIte,Option.getD_some,Option.getD_none]
 refine Tail.zI (by rfl) (by rfl) ?_
 apply Exists.intro
 refine ⟨fun w=>?_,?_⟩
 · go_simp <;> with_reducible rfl
 simp only [Act.put,List.setIfInBounds_toArray,List.set_cons_zero,List.set_cons_succ,Nat.reduceAdd,Nat.reduceEqDiff,reduceIte,Option.getD_some,Option.getD_none]
 refine Tail.zAT (by rfl) (by rfl) ?_ ?_
 · apply Exists.intro
   apply Exists.intro
   refine ⟨fun w'=>?_,?_⟩
   · go_simp <;> exact ⟨rfl,rfl⟩
   intro D z' w' hD hz hd hp hJ
   have hpr:=zGc sd h w' (HG.out.1.st.tab.below hJ) hs hh4
   rw [← HCS.out,← HCP.out] at hpr
   refine hpr.mono ?_
   rintro e w'' ⟨rfl,hb⟩
   exact ⟨_,rfl,fun c hc=>by simp at hc;rw [← hc],hJ.trans (hb.mono hJ.size)⟩
 simp only [Act.put,List.setIfInBounds_toArray,List.set_cons_zero,List.set_cons_succ,Nat.reduceAdd,Nat.reduceEqDiff,reduceIte,Option.getD_some,Option.getD_none]
 refine Tail.zI (by rfl) (by rfl) ?_
 apply Exists.intro
 refine ⟨fun w=>?_,?_⟩
 · go_simp <;> with_reducible rfl
 simp only [Act.put,List.setIfInBounds_toArray,List.set_cons_zero,List.set_cons_succ,Nat.reduceAdd,Nat.reduceEqDiff,reduceIte,Option.getD_some,Option.getD_none]
 intro w6 hJ
 have HG6:=Lib.hid (HG.out.1.step hJ)
 clear z hJ HG heq
 go_wp2_with fail
 go_loopw [19,11,13,15,17] (fun v vs vt vk vx wr=>∃ (i:Nat) (N:Nat→Prop) (kb kr sb lb q:Nat) (s:St) (LL:List zR) (x c:Nat),i≤n∧i≤9∧v=.int .i64 i∧vs=.pointer (some ⟨sb,0,none⟩)∧vt=.pointer (some ⟨q,0,none⟩)∧vk=.pointer (some ⟨kb,0,none⟩)∧vx=.pointer (some ⟨kr,0,none⟩)∧Pls w1 wr N kb kr sb lb d L q r B s LL sd h x c (i+1)) (fun v _ _ _ _ _=>9 - (intOf v).toNat)
 case atStart=>exact ⟨0,N,kb,kr,sb,lb,q,s,LL,x0,0,by omega,by omega,rfl,rfl,rfl,rfl,rfl,HG6.out,HI.out.1,HI.out.2.1,Nat.zero_le _,HI.out.2.2⟩
 case round=>as_aux_lemma =>
  clear HG6 HI
  obtain ⟨i,N,kb,kr,sb,lb,q,s,LL,x,c,hin,hi9,rfl,rfl,rfl,rfl,rfl,hP⟩:=hrel
  have H:=Lib.hid hP
  clear hP
  by_cases hik:i < n∧i < 9
  · obtain ⟨hx1,hx2⟩:=hik
    obtain ⟨ba,oa,act,xcs,rfl,Hac,hxl,hxc,v,rfl,hbs⟩:=HA.out.1.at i (by have:=HA.out.2;omega)
    have i0:(0:Int)≤(i:Int):=by omega
    have i1:(i:Int) < (n:Int):=by omega
    have i2:(i:Int) < 9:=by omega
    obtain ⟨ac0,ac1,ac2,ac3⟩:=act
    simp only at hbs
    have hbw:=HP3.out.1.trans (H.out.two.bel.mono HP3.out.1.size)
    have hrg:wr.rangeAt ba (oa+i*4) [Value.int .i64 ac0,.int .i64 ac1,.int .i64 ac2,v]:=fun j u hj=>(hbw.cell (p:=⟨ba,oa+i*4+j,none⟩) (World.block_lt_of_cell? w _ (hxc j u hj))).trans (hxc j u hj)
    have r4:zh 4 wr ba (oa+i*4)=[Value.int .i64 ac0,.int .i64 ac1,.int .i64 ac2,v]:=zCG hrg rfl
    have s4:zHC 4 wr ba (oa+i*4):=zLa hrg rfl
    obtain ⟨av,cv,rfl⟩:=hbs.eq_slice
    obtain ⟨bn,hbn⟩:∃ n,n=ac3.length:=⟨_,rfl⟩
    rw [← hbn] at hbs r4 hrg
    have hca4:zAS 4 [Value.int .i64 ac0,.int .i64 ac1,.int .i64 ac2,.slice av bn cv]:=⟨rfl,fun v hv=>by
     simp only [List.mem_cons,List.not_mem_nil,or_false] at hv
     rcases hv with rfl | rfl | rfl | rfl <;> rfl⟩
    have HBS:=Lib.hid hbs
    have HBW:=Lib.hid hbw
    clear hbs hbw hrg hxc hxl Hac hbn
    go_upto_region 18 with fail
    obtain ⟨wa,hwa⟩:∃ q,q=wr.alloc (.cells #[Value.int .i64 ac0,.int .i64 ac1,.int .i64 ac2,.slice av bn cv] 43):=⟨_,rfl⟩
    obtain ⟨p20,hp20⟩:∃ q,q=wr.heap.size:=⟨_,rfl⟩
    have hba:Below wr.heap.size wr wa:=by rw [hwa];exact (Below.refl _ _).alloc (Nat.le_refl _) _
    have hka:Blk wa p20 #[Value.int .i64 ac0,.int .i64 ac1,.int .i64 ac2,.slice av bn cv] 43:=by rw [hwa,hp20];exact Blk.new _ _ _
    rw [← hwa,← hp20]
    obtain ⟨e0,e1,e2,e3⟩:=zC8 hka
    have HW:=Lib.hid (And.intro hba (And.intro hka hp20))
    clear hwa hp20 hba hka r4 s4 hca4
    go_wp2_with fail
    refine (zKx _ ac3 40 w _ HBS.out (HBS.out.below (HBW.out.trans (HW.out.1.mono HBW.out.size)))).mono ?_
    rintro e _ ⟨⟨v',rfl,hv'⟩,rfl⟩
    obtain ⟨av',cv',ev'⟩:=hv'.eq_slice
    subst ev'
    have hml:(ac3.take 40).length≤1000:=by rw [List.length_take];omega
    obtain ⟨mm,hmm⟩:∃ b,b=ac3.take 40:=⟨_,rfl⟩
    rw [← hmm] at hv' hml ⊢
    obtain ⟨ml,hml'⟩:∃ x,x=mm.length:=⟨_,rfl⟩
    rw [← hml'] at hv' ⊢
    have fb3:wa.frozen? ⟨p20,3,none⟩=false:=HW.out.2.1.free 3
    have HV:=Lib.hid (And.intro hv' hml)
    clear hv' hml hmm hml'
    go_upto_region 19 with fail
    obtain ⟨wc,hwc⟩:∃ q,q=wa.setCell ⟨p20,3,none⟩ (.slice av' ml cv'):=⟨_,rfl⟩
    have hkc:Blk wc p20 #[Value.int .i64 ac0,.int .i64 ac1,.int .i64 ac2,.slice av' ml cv'] 43:=by rw [hwc];exact HW.out.2.1.set 3 _
    have hbc:Below wr.heap.size wr wc:=by rw [hwc];exact HW.out.1.setCell (by show wr.heap.size≤p20;rw [HW.out.2.2];exact Nat.le_refl _) _
    rw [← hwc]
    have hold:=H.out.two.st.old
    have HC:=Lib.hid (And.intro (H.out.step hbc) (And.intro hkc (And.intro (HBW.out.trans (hbc.mono HBW.out.size)) (fun b hb=>show b≠p20 from by have:=hold b hb;have:=HW.out.2.2;omega))))
    clear hwc hkc hbc hold e0 e1 e2 e3 fb3 HW
    obtain ⟨e0,e1,e2,e3⟩:=zC8 HC.out.2.1
    go_wp2_with fail
    refine (zCX ac0 7 (by decide) (by decide) _).mono ?_
    rintro e _ ⟨rfl,rfl⟩
    obtain ⟨g,hg⟩:∃ g,g=within ac0 7:=⟨_,rfl⟩
    rw [← hg]
    clear hg
    by_cases g5:g=5
    · subst g5
      go_wp2_with fail
      refine (zCX ac1 5 (by decide) (by decide) _).mono ?_
      rintro e _ ⟨rfl,rfl⟩
      have hwr:=zD0 ac1 5 (by decide)
      obtain ⟨y,hy⟩:∃ y,y=within ac1 5:=⟨_,rfl⟩
      rw [← hy] at hwr ⊢
      clear hy
      go_wp2_with fail
      refine (zHT d L s.disk y ac2 wc HC.out.1.two.st.disk (by omega)).mono ?_
      rintro e wd ⟨rfl,hD,hc⟩
      have hdd:∀ b,b=d→KF kb sb lb d L b:=fun b e=>by subst e;exact .inr (.inr (.inr (.inl rfl)))
      have hkd:=hc.blk HC.out.2.1 (fun e=>HC.out.2.2.2 _ (HC.out.1.two.kf _ (hdd _ e)) rfl)
      have hRd:=(zGx HC.out.1.two.rs).chg hc (fun e=>HC.out.1.two.dj _ (hdd _ e) (.inr (.inr (.inl rfl)))) (fun e=>HC.out.1.two.dj _ (hdd _ e) (.inr (.inr (.inr rfl))))
      clear e0 e1 e2 e3
      obtain ⟨e0,e1,e2,e3⟩:=zC8 hkd
      have HD:=Lib.hid (And.intro hD (And.intro hc hRd))
      clear hD hc hdd hkd hRd
      go_wp2_with fail
      refine (zIC r B s.disk y ac2 wd HD.out.2.2 (by omega)).mono ?_
      rintro e we ⟨rfl,hR,hc2⟩
      have HE:=Lib.hid (HC.out.1.two.redisk HD.out.2.1 HD.out.1 hc2 hR rfl (Nat.le_refl _) HC.out.1.two.st.ok.few)
      clear hR hc2 e0 e1 e2 e3
      go_wp2
      exact ⟨⟨i+1,N,kb,kr,sb,lb,q,_,LL,x,c,by omega,by omega,by go_num,rfl,rfl,rfl,rfl,HE.out,(H.out.has.stop y ac2).up,(H.out.dup.redisk (s.disk.stop y ac2) rfl).mono (Nat.le_succ _),H.out.le⟩,by simp [intOf];omega⟩
    · have t5:(g == 5)=false:=by simp;exact g5
      by_cases g6:g=6
      · subst g6
        clear e0 e1 e2 e3
        go_wp2_with fail
        refine (zGV d L s.disk wc HC.out.1.two.st.disk).mono ?_
        rintro e wd ⟨rfl,hD,hc⟩
        have hdd:∀ b,b=d→KF kb sb lb d L b:=fun b e=>by subst e;exact .inr (.inr (.inr (.inl rfl)))
        have hRd:=(zGx HC.out.1.two.rs).chg hc (fun e=>HC.out.1.two.dj _ (hdd _ e) (.inr (.inr (.inl rfl)))) (fun e=>HC.out.1.two.dj _ (hdd _ e) (.inr (.inr (.inr rfl))))
        have HD:=Lib.hid (And.intro hD (And.intro hc hRd))
        clear hD hc hRd hdd
        go_wp2_with fail
        refine (zGy r B s.disk wd HD.out.2.2).mono ?_
        rintro e we ⟨rfl,hR,hc2⟩
        have hg:=HC.out.1.two.redisk HD.out.2.1 HD.out.1 hc2 hR rfl (Nat.le_refl _) HC.out.1.two.st.ok.few
        obtain ⟨l,hl1,hl2,hl3⟩:=H.out.has.held
        have fd:KF kb sb lb d L d:=.inr (.inr (.inr (.inl rfl)))
        have fl:KF kb sb lb d L L:=.inr (.inr (.inr (.inr rfl)))
        have fr:KR kr q r B r:=.inr (.inr (.inl rfl))
        have fB:KR kr q r B B:=.inr (.inr (.inr rfl))
        have hop:=zGD (m:=i+1) hg.st.tab hg.bel (HT.out.below HP3.out.1) ⟨hg.far _ (hg.kf _ fd),hg.far _ (hg.kf _ fl),hg.far _ (hg.krf _ fr),hg.far _ (hg.krf _ fB)⟩ ⟨fun e=>hg.dj _ fd (by rw [e];exact fr),fun e=>hg.dj _ fd (by rw [e];exact fB),fun e=>hg.dj _ fl (by rw [e];exact fr),fun e=>hg.dj _ fl (by rw [e];exact fB)⟩ hg.st.disk (zGx hg.rs) hl1 hl2 (by omega) H.out.has.writes hl3
        have HOP:=Lib.hid (And.intro hop (And.intro (has_n H.out.has) (And.intro H.out.has.writes H.out.le)))
        clear hR hc2 hg hl1 hl2 hl3 fd fl fr fB hop HD HC H HBW HBS HV
        go_wp2_with fail
        refine HOP.out.1.mono ?_
        rintro e w4 ⟨s2,sb2,lb2,N2,rfl,hg4,hal,hor,hR4⟩
        have hro:=zFH hg4 hal hor hR4 HOP.out.2.1 HOP.out.2.2.1 (by omega)
        have HRO:=Lib.hid hro
        clear hg4 hal hor hR4 hro
        go_wp2_with fail
        refine HRO.out.mono ?_
        rintro e w5 ⟨q2,N3,LL2,rfl,hS⟩
        have hk3:=HP3.out.2.kept hS.bel
        have k3:zh 16 w5 p3 0=cs:=zn hk3 hcl (fun k _=>by simp)
        have k3':zi 16 w5 p3 0:=zQ hk3 (by simp [hcl])
        have hop:=zJq hS hs hh4
        rw [← HCS.out] at hop
        have HOK:=Lib.hid (And.intro hop hS)
        clear hS hk3 hop HRO
        go_wp2_with fail
        refine HOK.out.1.mono ?_
        rintro e w6 ⟨kb2,N4,rfl,hS,hka,hna,hfa,hfr,hb6⟩
        have hk3:=HP3.out.2.kept hS.bel
        have hro:=zII hS hka hna hfa hfr hs hh4
        rw [← HCS.out] at hro
        have HRK:=Lib.hid (And.intro hro hS)
        have k3:zh 16 w6 p3 0=cs:=zn hk3 hcl (fun k _=>by simp)
        have k3':zi 16 w6 p3 0:=zQ hk3 (by simp [hcl])
        clear hk3 hS hro hb6 hka hna hfa hfr HOK
        go_wp2_with fail
        refine HRK.out.1.mono ?_
        rintro e w7 ⟨kr2,N5,rfl,hG,hb⟩
        have HQ:=Lib.hid (show Pls w1 w7 N5 kb2 kr2 sb2 lb2 d L q2 r B s2 LL2 sd h (zX s2 nK 0) c (i+2) from ⟨hG,HRK.out.2.has,HRK.out.2.dup,HOP.out.2.2.2.1,zCm HRK.out.2.has hh4 HOP.out.2.2.2.1 (Nat.zero_le _)⟩)
        clear hG hb k3 k3' HRK HOP
        go_upto_region 39 with fail
        have hxl:=HQ.out.le.2
        have h16:2 ^ h≤16:=Nat.pow_le_pow_right (n:=2) (by decide) hh4
        have hl:=zCm HQ.out.has hh4 HQ.out.le.1 HQ.out.le.2
        have hlf:=zJf HQ.out.two hs HQ.out.has.short (by omega) hh4
        obtain ⟨xl,hxl'⟩:∃ z,z=zX s2 nK (zX s2 nK 0):=⟨_,rfl⟩
        rw [← hxl'] at hlf hl
        obtain ⟨lf,hlf'⟩:∃ z,z=2 ^ h - xl:=⟨_,rfl⟩
        rw [← hlf'] at hlf
        have HLF:=Lib.hid (And.intro hlf (And.intro hxl' (And.intro hlf' hl)))
        clear hlf hxl' hlf' hl hxl h16
        go_wp2_with fail
        refine HLF.out.1.mono ?_
        rintro e wf ⟨rfl,hg⟩
        have hxl:=HQ.out.le.2
        have h16:2 ^ h≤16:=Nat.pow_le_pow_right (n:=2) (by decide) hh4
        have hrf:=zHo hg HQ.out.dup hs HQ.out.has.short (by omega) hh4
        rw [← HLF.out.2.1,← HLF.out.2.2.1] at hrf
        have HRF:=Lib.hid hrf
        clear hg hrf hxl h16
        go_wp2_with fail
        refine HRF.out.mono ?_
        rintro e wg ⟨rfl,hg⟩
        have HZ:=Lib.hid (show Pls w1 wg N5 kb2 kr2 sb2 lb2 d L q2 r B s2 LL2 sd h xl c (i+2) from ⟨hg,HQ.out.has,HQ.out.dup,HQ.out.le.1,HLF.out.2.2.2⟩)
        clear hg HRF HLF HQ
        go_wp2
        exact ⟨⟨i+1,N5,kb2,kr2,sb2,lb2,q2,s2,LL2,xl,c,by omega,by omega,by go_num,rfl,rfl,rfl,rfl,HZ.out⟩,by simp [intOf];omega⟩
      · have t6:(g == 6)=false:=by simp;exact g6
        have h16:2 ^ h≤16:=Nat.pow_le_pow_right (n:=2) (by decide) hh4
        have hxl:=H.out.le.2
        obtain ⟨y,hy⟩:∃ y,y=zX s nK x:=⟨_,rfl⟩
        obtain ⟨E,hE⟩:∃ E,E=zk s nK (Cod.be 4 (y+1)):=⟨_,rfl⟩
        have hgw:=HC.out.2.2.1
        have hsg:=zLw HC.out.1.two (.slice av' ml cv') mm hs H.out.has.short (by omega) hh4 (fun w' hc=>HV.out.1.below (Chg.far hgw hc hgw.size (fun b hb=>Nat.le_trans HP3.out.1.size (HC.out.1.two.far b (HC.out.1.two.kf b hb))))) HV.out.2 (by decide) (by have:=H.out.has.writes;omega) y hy E hE
        have HSG:=Lib.hid (And.intro hsg (And.intro hy hE))
        clear hy hE hgw hsg hxl h16
        go_wp2_with fail
        refine HSG.out.1.mono ?_
        rintro e w6 hp
        obtain ⟨A,b,er,vl,pl,s',x',vv,pv,N',hsr,rfl,hvv,hpv,hg',hc6⟩:=zKU hp
        obtain ⟨a1,c1,ea1⟩:=hvv.slice
        obtain ⟨a2,c2,ea2⟩:=hpv.slice
        subst ea1 ea2
        obtain ⟨n1,hn1⟩:∃ x,x=vl.length:=⟨_,rfl⟩
        obtain ⟨n2,hn2⟩:∃ x,x=pl.length:=⟨_,rfl⟩
        rw [← hn1] at hvv
        rw [← hn2] at hpv
        rw [← hn1,← hn2]
        have hcaA:zAS 4 [Value.int .i64 A,.int .i64 b,.slice a1 n1 c1,.slice a2 n2 c2]:=⟨rfl,fun v hv=>by
         simp only [List.mem_cons,List.not_mem_nil,or_false] at hv
         rcases hv with rfl | rfl | rfl | rfl <;> rfl⟩
        have hk6:=hc6.blk HC.out.2.1 (fun e=>HC.out.2.2.2 _ (HC.out.1.two.kf _ e) rfl)
        have H6:=Lib.hid (And.intro hsr (And.intro hvv (And.intro hpv (And.intro hg' (And.intro hk6 (And.intro hn1 hn2))))))
        clear hp hsr hvv hpv hg' hc6 hk6 hn1 hn2 e0 e1 e2 e3
        go_upto_region 21 with fail
        obtain ⟨w7,hw7⟩:∃ q,q=w6.alloc (.cells #[Value.int .i64 A,.int .i64 b,.slice a1 n1 c1,.slice a2 n2 c2] 48):=⟨_,rfl⟩
        obtain ⟨p22,hp22⟩:∃ q,q=w6.heap.size:=⟨_,rfl⟩
        have hb7:Below w6.heap.size w6 w7:=by rw [hw7];exact (Below.refl _ _).alloc (Nat.le_refl _) _
        have hk7:Blk w7 p22 #[Value.int .i64 A,.int .i64 b,.slice a1 n1 c1,.slice a2 n2 c2] 48:=by rw [hw7,hp22];exact Blk.new _ _ _
        rw [← hw7,← hp22]
        have hg7:=H6.out.2.2.2.1.step hb7
        have hgw:Below w.heap.size w w7:=HP3.out.1.trans (hg7.bel.mono HP3.out.1.size)
        have h16:2 ^ h≤16:=Nat.pow_le_pow_right (n:=2) (by decide) hh4
        have hxl:=H.out.le.2
        have hrs:=zK8 hg7 H.out.dup HC.out.1.two.st.ok (zK3 H.out.has) (by unfold big;omega) (.slice av' ml cv') mm hs H.out.has.short (by omega) hh4 (fun w' hc=>HV.out.1.below (Chg.far hgw hc hgw.size (fun b hb=>Nat.le_trans HP3.out.1.size (hg7.far b (hg7.krf b hb))))) HV.out.2 (by decide) (by have:=H.out.has.writes;omega) y HSG.out.2.1 E HSG.out.2.2
        have HRS:=Lib.hid (And.intro hrs (And.intro hg7 (And.intro hk7 (And.intro hb7 hp22))))
        obtain ⟨e0,e1,e2,e3⟩:=zC8 (H6.out.2.2.2.2.1.kept hb7)
        clear hw7 hp22 hb7 hk7 hg7 hgw hrs hxl h16
        go_wp2_with fail
        refine HRS.out.1.mono ?_
        rintro e w8 hp
        obtain ⟨vv,pv,N2,LL2,rfl,hvv,hpv,hg8,hd8,hc8⟩:=zJE hp H6.out.1 H.out.dup
        obtain ⟨a3,c3,ea3⟩:=hvv.slice
        obtain ⟨a4,c4,ea4⟩:=hpv.slice
        subst ea3 ea4
        rw [← H6.out.2.2.2.2.2.1] at hvv
        rw [← H6.out.2.2.2.2.2.2] at hpv
        rw [← H6.out.2.2.2.2.2.1,← H6.out.2.2.2.2.2.2]
        have hcaB:zAS 4 [Value.int .i64 A,.int .i64 b,.slice a3 n1 c3,.slice a4 n2 c4]:=⟨rfl,fun v hv=>by
         simp only [List.mem_cons,List.not_mem_nil,or_false] at hv
         rcases hv with rfl | rfl | rfl | rfl <;> rfl⟩
        have hk8:=hc8.blk HRS.out.2.2.1 (fun e=>by have:=H6.out.2.2.2.1.st.old _ (H6.out.2.2.2.1.krf _ e);have:=HRS.out.2.2.2.2;omega)
        have hfar8:∀ g,wc.heap.size≤g→¬ KR kr q r B g:=fun g hg e=>by have:=HC.out.1.two.st.old _ (HC.out.1.two.krf _ e);omega
        have hv8:=(H6.out.2.1.chg (S:=fun _=>False) (Chg.of_below HRS.out.2.2.2.1) (fun _ _=>id)).chg hc8 (fun g hg=>hfar8 g (H6.out.2.1.ge hg))
        have hp8:=(H6.out.2.2.1.chg (S:=fun _=>False) (Chg.of_below HRS.out.2.2.2.1) (fun _ _=>id)).chg hc8 (fun g hg=>hfar8 g (H6.out.2.2.1.ge hg))
        have H8:=Lib.hid (And.intro hg8 (And.intro hd8 (And.intro hk8 (And.intro hv8 (And.intro hp8 (And.intro hvv hpv))))))
        clear hp hvv hpv hg8 hd8 hc8 hk8 hfar8 hv8 hp8 e0 e1 e2 e3
        go_upto_region 22 with fail
        obtain ⟨w9,hw9⟩:∃ q,q=w8.alloc (.cells #[Value.int .i64 A,.int .i64 b,.slice a3 n1 c3,.slice a4 n2 c4] 48):=⟨_,rfl⟩
        obtain ⟨p24,hp24⟩:∃ q,q=w8.heap.size:=⟨_,rfl⟩
        have hb9:Below w8.heap.size w8 w9:=by rw [hw9];exact (Below.refl _ _).alloc (Nat.le_refl _) _
        have hk9:Blk w9 p24 #[Value.int .i64 A,.int .i64 b,.slice a3 n1 c3,.slice a4 n2 c4] 48:=by rw [hw9,hp24];exact Blk.new _ _ _
        rw [← hw9,← hp24]
        have hk9':=H8.out.2.2.1.kept hb9
        have ks22:zh 4 w9 p22 0=[Value.int .i64 A,.int .i64 b,.slice a1 n1 c1,.slice a2 n2 c2]:=zn hk9' rfl (fun k _=>by simp)
        have ks22':zi 4 w9 p22 0:=zQ hk9' (by simp)
        have ks24:zh 4 w9 p24 0=[Value.int .i64 A,.int .i64 b,.slice a3 n1 c3,.slice a4 n2 c4]:=zn hk9 rfl (fun k _=>by simp)
        have ks24':zi 4 w9 p24 0:=zQ hk9 (by simp)
        obtain ⟨c',hh',hc',hx',hvl,hpl⟩:=zL3 H6.out.1 H.out.has (by omega) (by decide) HSG.out.2.1 HSG.out.2.2 hh4 H.out.le.1 H.out.le.2
        have of:=fun (v:Value) (l:List (List UInt8)) (b:Nat) (h:zL bV WfH 32 34 w8 b v l)=>h.chg (S:=fun _=>False) (Chg.of_below hb9) (fun _ _=>id)
        have hsc:=zKe A b _ _ _ _ vl pl _ _ _ _ w9 (of _ _ _ H8.out.2.2.2.1) (of _ _ _ H8.out.2.2.2.2.2.1) (of _ _ _ H8.out.2.2.2.2.1) (of _ _ _ H8.out.2.2.2.2.2.2) hvl hpl
        have H9:=Lib.hid (And.intro hsc (show Pls w1 w9 N2 kb kr sb lb d L q r B s' LL2 sd h x' c' (i+2) from ⟨H8.out.1.step hb9,hh',H8.out.2.1,hc',hx'⟩))
        clear hw9 hp24 hb9 hk9 hk9' hh' hc' hx' hvl hpl of hsc H8 HRS H6 HSG
        go_wp2_with fail
        refine H9.out.1.mono ?_
        rintro e w10 ⟨rfl,hb10⟩
        have HQ:=Lib.hid (H9.out.2.step hb10)
        clear hb10 H9 ks22 ks22' ks24 ks24'
        go_upto_region 39 with fail
        have hxl:=HQ.out.le.2
        have h16:2 ^ h≤16:=Nat.pow_le_pow_right (n:=2) (by decide) hh4
        have hl:=zCm HQ.out.has hh4 HQ.out.le.1 HQ.out.le.2
        have hlf:=zJf HQ.out.two hs HQ.out.has.short (by omega) hh4
        obtain ⟨xl,hxl'⟩:∃ z,z=zX s' nK x':=⟨_,rfl⟩
        rw [← hxl'] at hlf hl
        obtain ⟨lf,hlf'⟩:∃ z,z=2 ^ h - xl:=⟨_,rfl⟩
        rw [← hlf'] at hlf
        have HLF:=Lib.hid (And.intro hlf (And.intro hxl' (And.intro hlf' hl)))
        clear hlf hxl' hlf' hl hxl h16
        go_wp2_with fail
        refine HLF.out.1.mono ?_
        rintro e wf ⟨rfl,hg⟩
        have hxl:=HQ.out.le.2
        have h16:2 ^ h≤16:=Nat.pow_le_pow_right (n:=2) (by decide) hh4
        have hrf:=zHo hg HQ.out.dup hs HQ.out.has.short (by omega) hh4
        rw [← HLF.out.2.1,← HLF.out.2.2.1] at hrf
        have HRF:=Lib.hid hrf
        clear hg hrf hxl h16
        go_wp2_with fail
        refine HRF.out.mono ?_
        rintro e wg ⟨rfl,hg⟩
        have HZ:=Lib.hid (show Pls w1 wg N2 kb kr sb lb d L q r B s' LL2 sd h xl c' (i+2) from ⟨hg,HQ.out.has,HQ.out.dup,HQ.out.le.1,HLF.out.2.2.2⟩)
        clear hg HRF HLF HQ
        go_wp2
        exact ⟨⟨i+1,N2,kb,kr,sb,lb,q,s',LL2,xl,c',by omega,by omega,by go_num,rfl,rfl,rfl,rfl,HZ.out⟩,by simp [intOf];omega⟩
  · have hex:¬ i < n∨(i < n∧¬ i < 9):=by omega
    clear hik
    rcases hex with hx | ⟨hx,hx2⟩
    all_goals
     go_wp2_with fail
     refine (zFq wr H.out.two.st.tab).mono ?_
     rintro e w9 ⟨rfl,hb9⟩
     have H9:=Lib.hid (HP3.out.1.trans ((H.out.two.bel.trans (hb9.mono H.out.two.bel.size)).mono HP3.out.1.size))
     clear hb9
     go_wp2
     go_ret
     exact ⟨rfl,H9.out⟩
end Go.Proofs.YtdlkghdfkjdajaaGreatDoor
end
section
namespace Go.Mem
open Go Go.ChangeShapes Go.WideShapes Go.ChangeAt Go.RowKit Gf
theorem zGl {P:Program} {w:World} {r:Reach} {base:Nat} {t e:TypeId} {n:Nat} {v:Value} (ht:P.underlying t=some (.array n e)) (h:Value.okWide P w r base t v):∃ cs,v=.agg cs∧cs.size=P.cellsOf t:=by
 simp only [Value.okWide,ht] at h
 obtain ⟨cs,h1,h2,_⟩:=h
 exact ⟨cs,h1,h2⟩
theorem zLH {P:Program} {t t8:TypeId} {n:Nat} (ht:P.underlying t=some (.array n t8)) (h8:P.underlying t8=some (.int .u8)) (c8:P.cellsOf t8=1) (ct:P.cellsOf t=n) {H:Type} {enc:TypeId × Value→H} {W:World} {base:Nat} {spare:Nat→Bool} {held:Bool} {v:Value} {x:DataW H × List MemPlace}
  (hv:∃ cs,v=.agg cs∧cs.size=P.cellsOf t) (h:∃ fuel,DataW.trod enc P W base spare held fuel t v.cells.toList=some x):∃ k:List UInt8,k.length=n∧v=.agg (bV k).toArray:=by
 obtain ⟨cs,rfl,_⟩:=hv
 obtain ⟨fuel,hf⟩:=h
 obtain ⟨k,h1,h2⟩:=zKQ ht h8 c8 ct hf
 refine ⟨k,h1,?_⟩
 rw [← h2]
 simp [Value.cells]
end Go.Mem
end
section
namespace Go.Proofs.YtdlkghdfkjdajaaGreatDoor
open Go Go.RowKit Go.Mem
theorem tabT:(Tryz.prog.globals[gT]?).map (·.type)=some 174:=by kernel_rfl
theorem zIL {W : World} (h : laidMetH Tryz.prog [("math/bits.deBruijn32tab", Rows.laid_math_bits_deBruijn32tab), ("math/bits.deBruijn64tab", Rows.laid_math_bits_deBruijn64tab), ("internal/strconv.uint64pow10", Rows.laid_internal_strconv_uint64pow10)] W) : Tab W := by
 rw [MakeChecks.laidMetH_plain _ _ _ (by kernel_rfl)] at h
 obtain ⟨ps,⟨g0,t0,cs0,f0,p0,q0,hg0,ht0,hv0,hd0,⟨g1,t1,cs1,f1,p1,q1,hg1,ht1,hv1,hd1,⟨g2,t2,cs2,f2,p2,q2,hg2,ht2,hv2,hd2,_,_⟩,_⟩,_⟩,_,_⟩:=h
 obtain rfl:=Option.some.inj (zK1.symm.trans hg2)
 obtain rfl:=Option.some.inj (tabT.symm.trans ht2)
 have hd:DataW.trod (fun _=>()) Tryz.prog W 0 (fun _=>true) false f2 174 cs2.toList=some (Lib.tabData .u64 Lib.pow10Tab,p2):=hd2.trans (by rw [show (Rows.laid_internal_strconv_uint64pow10:DataW Unit)=Lib.tabData .u64 Lib.pow10Tab from rfl])
 unfold Tab Lib.TabIs
 rw [hv2,← Lib.cells_of_tab Tryz.underlying174 Tryz.underlying128 (by kernel_rfl) (by kernel_rfl) hd]
end Go.Proofs.YtdlkghdfkjdajaaGreatDoor
end
