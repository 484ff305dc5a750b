/- Texts of this proof,packed: LeaPop,LeaRemove,SortMath,SortIns,zAq,Keys,LeaRow,LeaSpec,Far,LeaFind. -/
import Derived.Test.YtbbojbdigiibbaaGreatDoorPa06
import Derived.Lib.Hide
import Derived.Test.YtbbojbdigiibbaaGreatDoorPa02
import Derived.Test.YtbbojbdigiibbaaGreatDoorPa00
import Derived.Deep.RegionHeld3
import Derived.Handy
import Derived.ChangeKeysEq
import Derived.Lib.BytesEntry
import Derived.Lib.Bytealg
section
namespace Go.Proofs.YtbbojbdigiibbaaGreatDoor
open Go Go.RowKit Go.Mem Gf Lea
attribute [local go_sem ↓] Go.wp_at_zero Go.wp_at_succ zBL zBA zE3
attribute [local go_sem] zDJ zDL zEA zDK zEB ptrB_eq ptrO_eq ptrIs_eq aggL_eq aggIs_eq zGU
set_option maxRecDepth 100000 in
theorem zDW (w:World) (tb g cap:Nat) (l:List Les) (x:Les) (n:Nat) (hn:l.length=n+1) (h:LTab w tb (.slice (some ⟨g,0,none⟩) (n+1) cap) l) (hx:l[n]?=some x) (hl:n+1≤1000000) :
  Calls Tryz.prog 277 #[.pointer (some ⟨tb,0,none⟩)] w fun e w'=>e=.returned (.iface 175 (.agg (zi x).toArray))∧LTab w' tb (.slice (some ⟨g,0,none⟩) n cap) (l.take n)∧Chg (fun b=>b=tb) w w':=by
 have hc:w.cell? ⟨tb,0,none⟩=some (.slice (some ⟨g,0,none⟩) (n+1) cap):=by simpa using h.cell.cell 0
 have hf:=h.cell.free 0
 have hwx:=h.wf x (List.mem_of_getElem? hx)
 have hrow:=h.theRow hn
 have rx:zN 33 w g (n*33)=zi x:=zA3 (hrow.range hx) (zAL hwx)
 have t1:zY 33 w g (n*33):=hrow.there (by omega)
 have hk:=zBa hwx
 obtain ⟨cur,hB,_,hnc,hcm,_,_⟩:=hrow.block
 have H:=Lib.hid h
 clear h hrow hx hB
 go_enter Tryz.func277,Tryz.ntmps277
 obtain ⟨w1,hw1⟩:∃ w1,w1=(w.alloc (.cells #[Value.int .u8 0,Value.int .u8 0,Value.int .u8 0,Value.int .u8 0,Value.int .u8 0,Value.int .u8 0,Value.int .u8 0,Value.int .u8 0,Value.int .u8 0,Value.int .u8 0,Value.int .u8 0,Value.int .u8 0,Value.int .u8 0,Value.int .u8 0,Value.int .u8 0,Value.int .u8 0,Value.int .u8 0,Value.int .u8 0,Value.int .u8 0,Value.int .u8 0,Value.int .u8 0,Value.int .u8 0,Value.int .u8 0,Value.int .u8 0,Value.int .u8 0,Value.int .u8 0,Value.int .u8 0,Value.int .u8 0,Value.int .u8 0,Value.int .u8 0,Value.int .u8 0,Value.int .u8 0,Value.int .i64 0] 175)).setCells w.heap.size 0 (zi x):=⟨_,rfl⟩
 have t2:zY 33 (w.alloc (.cells #[Value.int .u8 0,Value.int .u8 0,Value.int .u8 0,Value.int .u8 0,Value.int .u8 0,Value.int .u8 0,Value.int .u8 0,Value.int .u8 0,Value.int .u8 0,Value.int .u8 0,Value.int .u8 0,Value.int .u8 0,Value.int .u8 0,Value.int .u8 0,Value.int .u8 0,Value.int .u8 0,Value.int .u8 0,Value.int .u8 0,Value.int .u8 0,Value.int .u8 0,Value.int .u8 0,Value.int .u8 0,Value.int .u8 0,Value.int .u8 0,Value.int .u8 0,Value.int .u8 0,Value.int .u8 0,Value.int .u8 0,Value.int .u8 0,Value.int .u8 0,Value.int .u8 0,Value.int .u8 0,Value.int .i64 0] 175)) w.heap.size 0:=zJW (by decide) w _
 have t3:zY 33 w1 w.heap.size 0:=by rw [hw1];exact zCl t2 _ _ _
 have r3:zN 33 w1 w.heap.size 0=zi x:=by rw [hw1];exact zCa t2 hk
 have hlt:tb < w.heap.size:=H.out.cell.lt
 have hne:tb≠w.heap.size:=by omega
 have hB1:Blk w1 tb #[.slice (some ⟨g,0,none⟩) (n+1) cap] 156:=by rw [hw1];exact Blk.setCells_other hne _ _ _ (H.out.cell.alloc _)
 have hc1:Chg (fun b=>b=tb) w w1:=by
  have h0:Below w.heap.size w w1:=by
   have:=Chg.setCells (S:=fun b=>b=w.heap.size) (L:=w.heap.size) rfl (zi x) 0 _ (Chg.of_below ((Below.refl w.heap.size w).alloc (Nat.le_refl _) (.cells #[Value.int .u8 0,Value.int .u8 0,Value.int .u8 0,Value.int .u8 0,Value.int .u8 0,Value.int .u8 0,Value.int .u8 0,Value.int .u8 0,Value.int .u8 0,Value.int .u8 0,Value.int .u8 0,Value.int .u8 0,Value.int .u8 0,Value.int .u8 0,Value.int .u8 0,Value.int .u8 0,Value.int .u8 0,Value.int .u8 0,Value.int .u8 0,Value.int .u8 0,Value.int .u8 0,Value.int .u8 0,Value.int .u8 0,Value.int .u8 0,Value.int .u8 0,Value.int .u8 0,Value.int .u8 0,Value.int .u8 0,Value.int .u8 0,Value.int .u8 0,Value.int .u8 0,Value.int .u8 0,Value.int .i64 0] 175)))
   rw [hw1]
   exact this.below (Nat.le_refl _) (fun k hk=>by rw [hk];exact Nat.le_refl _)
  exact Chg.of_below h0
 have HB1:=Lib.hid hB1;have HC1:=Lib.hid hc1
 have c1:w1.cell? ⟨tb,0,none⟩=some (.slice (some ⟨g,0,none⟩) (n+1) cap):=by simpa using hB1.cell 0
 have f1:w1.frozen? ⟨tb,0,none⟩=false:=hB1.free 0
 have HW1:=Lib.hid hw1
 clear hB1 hc1 hw1
 go_upto_region 3 with fail
 rw [← HW1.out]
 have t4:zY 33 (w1.setCell ⟨tb,0,none⟩ (.slice (some ⟨g,0,none⟩) n cap)) w.heap.size 0:=zCl t3 tb 0 [.slice (some ⟨g,0,none⟩) n cap]
 have r4:zN 33 (w1.setCell ⟨tb,0,none⟩ (.slice (some ⟨g,0,none⟩) n cap)) w.heap.size 0=zi x:=by
  have h1:=zAB t3
  rw [r3] at h1
  exact zA3 (World.rangeAt_setCells_apart h1 tb 0 [.slice (some ⟨g,0,none⟩) n cap] (.inl (by omega))) hk.1
 go_wp2_with fail
 go_ret
 have ha:=H.out.apart
 refine ⟨rfl,⟨HB1.out.set 0 _,?_,fun y hy=>H.out.wf y (List.mem_of_mem_take hy),ha⟩,HC1.out.trans (zD4 w1 tb 0 _)⟩
 have hR1:Row 175 (w1.setCell ⟨tb,0,none⟩ (.slice (some ⟨g,0,none⟩) n cap)) 0 g (n+1) cap l:=by
  refine ⟨?_,hn.symm,H.out.wf⟩
  have ho:=H.out.own
  rw [hn] at ho
  exact zAg ho (HC1.out.trans (zD4 w1 tb 0 _)) (fun q hq e=>ha (by rw [hq,e]))
 have h9:=(hR1.take (k:=n) (by omega)).own
 rw [show (l.take n).length=n from by rw [List.length_take];omega] at h9 ⊢
 exact h9
theorem zAt.then {tb g n c n' c':Nat} {v:Value} {w w' w'':World} (h:zAt tb v (.slice (some ⟨g,0,none⟩) n c) w w') (h':Chg (fun b=>b=g) w' w''):zAt tb v (.slice (some ⟨g,0,none⟩) n' c') w w'' :=
 ⟨h.1.mix h' (fun k hk=>by rcases h.2 k (by rw [hk];rfl) with h | h;exact .inl (.inr h);exact .inr h),fun k hk=>h.2 k hk⟩
theorem zAt.of {tb g n c n' c':Nat} {w w':World} (h:Chg (fun b=>b=g) w w'):zAt tb (.slice (some ⟨g,0,none⟩) n c) (.slice (some ⟨g,0,none⟩) n' c') w w' :=
 ⟨h.mono (fun _ hk=>.inr (by rw [hk];rfl)),fun _ hk=>.inl hk⟩
theorem zAt.trans {tb:Nat} {v v1 v2:Value} {w w1 w2:World} (h:zAt tb v v1 w w1) (h':zAt tb v1 v2 w1 w2):zAt tb v v2 w w2 :=
 ⟨h.1.mix h'.1 (fun k hk=>by
  rcases hk with hk | hk
  · exact .inl (.inl hk)
  · rcases h.2 k hk with h | h
    · exact .inl (.inr h)
    · exact .inr h),fun k hk=>by
  rcases h'.2 k hk with h1 | h1
  · exact h.2 k h1
  · exact .inr (Nat.le_trans h.1.size h1)⟩
theorem zAt.cell {tb g n c n' c':Nat} {w w':World} (h:Chg (fun b=>b=tb) w w'):zAt tb (.slice (some ⟨g,0,none⟩) n c) (.slice (some ⟨g,0,none⟩) n' c') w w' :=
 ⟨h.mono (fun _ hk=>.inl hk),fun _ hk=>.inl hk⟩
structure Heap (w:World) (tb:Nat) (v:Value) (l:List Les):Prop where
 tab:LTab w tb v l
 heap:zBo l l.length
set_option maxRecDepth 100000 in
set_option maxHeartbeats 1000000 in
theorem zJY (w:World) (tb:Nat) (v:Value) (l:List Les) (x:Les) (h:Heap w tb v l) (hx:Wf x) (hl:l.length≤100000) :
  Calls Tryz.prog 153 #[hv tb,.iface 175 (.agg (zi x).toArray)] w fun e w'=>e=.returned (.tuple #[])∧∃ v' l',Heap w' tb v' l'∧l'.Perm (l++[x])∧zAt tb v v' w w':=by
 have H:=Lib.hid h
 clear h
 unfold hv
 go_enter Tryz.func153,Tryz.ntmps153
 go_wp2_with fail
 refine (zJN w tb v l x l.length rfl H.out.tab hx (by omega)).mono ?_
 rintro e w1 ⟨rfl,v1,hT,hC⟩
 have hl1:(l++[x]).length=l.length+1:=by simp
 obtain ⟨g,cap,rfl,hrow⟩:=hT.ex (by omega)
 have hT1:=Lib.hid hT
 have hc1:w1.cell? ⟨tb,0,none⟩=some (.slice (some ⟨g,0,none⟩) (l++[x]).length cap):=by simpa using hT.cell.cell 0
 rw [hl1] at hc1
 have HC:=Lib.hid hC
 clear hT hC hrow
 go_wp2_with fail
 refine (zCj _ _ _ _).mono ?_
 rintro e w2 ⟨rfl,rfl⟩
 obtain ⟨n,hn⟩:∃ n,n=l.length:=⟨_,rfl⟩
 have hp:=zNf H.out.heap x
 rw [← hn] at hc1 hl hl1 hp ⊢
 rw [hl1] at hT1 HC
 have HP:=Lib.hid hp;have HL1:=Lib.hid hl1
 have e1:((n+1:Nat):Int) - 1=(n:Int):=by omega
 clear hp hl1 hn
 go_wp2_with fail
 refine (zHN w1 tb g cap (l++[x]) n (n+1) (n+1) HL1.out hT1.out (by omega) (Nat.le_refl _) (by omega) HP.out.1 HP.out.2).mono ?_
 rintro e w2 ⟨rfl,l',h1,h2,h3,h4,h5⟩
 go_wp2_with fail
 go_end0
 exact ⟨rfl,_,l',⟨h1,by rw [h2.length_eq,HL1.out];exact h3⟩,h2,HC.out.then h5⟩
set_option maxRecDepth 100000 in
set_option maxHeartbeats 1000000 in
theorem zKs (w:World) (tb:Nat) (v:Value) (l:List Les) (k n:Nat) (hn:l.length=n) (h:LTab w tb v l) (hl:n≤100000) (hk:k < n)
  (hinv:∀ c,0 < c→c < n→(c - 1) / 2≠k→c≠k→Rim l c) (hg:zCf l k n) :
  Calls Tryz.prog 154 #[hv tb,.int .i64 k] w fun e w'=>e=.returned (.tuple #[])∧∃ l',Heap w' tb v l'∧l'.Perm l∧zAt tb v v w w':=by
 obtain ⟨g,cap,rfl,hrow⟩:=h.ex (by omega)
 have hc:w.cell? ⟨tb,0,none⟩=some (.slice (some ⟨g,0,none⟩) l.length cap):=by simpa using h.cell.cell 0
 rw [hn] at hc h ⊢
 have H:=Lib.hid (And.intro h (And.intro hinv hg))
 have HN:=Lib.hid hn
 clear hn h hinv hg hrow
 unfold hv
 go_enter Tryz.func154,Tryz.ntmps154
 go_wp2_with fail
 refine (zCj _ _ _ _).mono ?_
 rintro e w2 ⟨rfl,rfl⟩
 go_wp2_with fail
 refine (down_calls w tb g cap l k n n HN.out H.out.1 (by omega) (Nat.le_refl _) hk H.out.2.1 H.out.2.2).mono ?_
 rintro e w1 ⟨b,rfl,l1,h1,h2,h3,h4,h5,h6⟩
 have HL:=Lib.hid h2.length_eq
 have H1:=Lib.hid (And.intro h1 (And.intro h2 (And.intro h4 (And.intro h5 h6))))
 clear h1 h2 h3 h4 h5 h6
 cases b
 · go_wp2_with fail
   obtain ⟨e6,h6⟩:=H1.out.2.2.2.2 (by first | rfl | trivial)
   refine (zHN w1 tb g cap l k n n HN.out (by have:=H1.out.1;rwa [e6] at this) (by omega) (Nat.le_refl _) hk h6 H.out.2.2).mono ?_
   rintro e w2 ⟨rfl,l',g1,g2,g3,g4,g5⟩
   go_wp2_with fail
   go_end0
   exact ⟨rfl,l',⟨g1,by rw [g2.length_eq,HN.out];exact g3⟩,g2,zAt.of (H1.out.2.2.1.trans g5)⟩
 · go_wp2_with fail
   go_end0
   exact ⟨rfl,l1,⟨H1.out.1,by rw [HL.out,HN.out];exact H1.out.2.2.2.1 (by first | rfl | trivial)⟩,H1.out.2.1,zAt.of H1.out.2.2.1⟩
set_option maxRecDepth 100000 in
set_option maxHeartbeats 1000000 in
theorem zKt (w:World) (tb:Nat) (v:Value) (l:List Les) (x:Les) (h:Heap w tb v l) (hx:l[0]?=some x) (hl:l.length≤100000) :
  Calls Tryz.prog 104 #[hv tb] w fun e w'=>e=.returned (.iface 175 (.agg (zi x).toArray))∧∃ v' l',Heap w' tb v' l'∧(x::l').Perm l∧zAt tb v v' w w':=by
 have h0:0 < l.length:=by
  rcases Nat.eq_zero_or_pos l.length with e | e
  · rw [List.eq_nil_of_length_eq_zero e] at hx;cases hx
  · exact e
 obtain ⟨g,cap,rfl,hrow⟩:=h.tab.ex h0
 obtain ⟨n,hn⟩:∃ n,n+1=l.length:=⟨l.length - 1,by omega⟩
 have hc:w.cell? ⟨tb,0,none⟩=some (.slice (some ⟨g,0,none⟩) l.length cap):=by simpa using h.tab.cell.cell 0
 have hy:l[n]?=some (l[n]'(by omega)):=by simp
 generalize l[n]'(by omega)=y at hy
 have hlt:=zMm (by rw [hn];exact h.heap) hn
 rw [← hn] at hc h hl ⊢
 have H:=Lib.hid (And.intro h.tab (And.intro hx (And.intro hy hlt)))
 have HN:=Lib.hid hn.symm
 have e1:((n+1:Nat):Int) - 1=(n:Int):=by omega
 have hr:=Lib.hid (h.tab.theRow hn.symm)
 clear hn h hx hy hlt hrow h0
 unfold hv
 go_enter Tryz.func104,Tryz.ntmps104
 go_wp2_with fail
 refine (zCj _ _ _ _).mono ?_
 rintro e w2 ⟨rfl,rfl⟩
 go_wp2_with fail
 refine (zBh 0 g (n+1) cap l 0 n x y w hr.out H.out.2.1 H.out.2.2.1).mono ?_
 rintro e w1 ⟨rfl,hrow,hchg⟩
 have hT1:=H.out.1.row' HN.out hrow hchg
 have c1:w1.cell? ⟨tb,0,none⟩=some (.slice (some ⟨g,0,none⟩) (n+1) cap):=by simpa using hT1.cell.cell 0
 have HT1:=Lib.hid hT1;have HC1:=Lib.hid hchg
 have HL1:Hid ((swap l 0 n).length=n+1):=by rw [swap_len];exact HN.out
 clear hT1 hrow hchg
 go_wp2_with fail
 refine (down_calls w1 tb g cap (swap l 0 n) 0 n (n+1) HL1.out HT1.out (by omega) (by omega) (by omega) H.out.2.2.2.1 H.out.2.2.2.2).mono ?_
 rintro e w2 ⟨b,rfl,l1,h1,h2,h3,h4,h5,h6⟩
 have hh:zBo l1 n:=by
  cases b
  · obtain ⟨e6,h6'⟩:=h6 rfl
    rw [e6]
    exact fun c g1 g2=>h6' c g1 g2 (by omega)
  · exact h5 rfl
 have hxn:l1[n]?=some x:=by rw [h3 n (Nat.le_refl _),zBx H.out.2.1 H.out.2.2.1,if_pos rfl]
 have hL2:l1.length=n+1:=by rw [h2.length_eq];exact HL1.out
 have HX:=Lib.hid (And.intro hh (And.intro hxn (And.intro hL2 (And.intro h1 (And.intro h2 h4)))))
 have c2:w2.cell? ⟨tb,0,none⟩=some (.slice (some ⟨g,0,none⟩) (n+1) cap):=by simpa using h1.cell.cell 0
 clear h1 h2 h3 h4 h5 h6 hh hxn hL2
 go_wp2_with fail
 refine (zDW w2 tb g cap l1 x n HX.out.2.2.1 HX.out.2.2.2.1 HX.out.2.1 (by omega)).mono ?_
 rintro e w3 ⟨rfl,g1,g2⟩
 go_wp2_with fail
 go_ret
 refine ⟨rfl,_,l1.take n,⟨g1,?_⟩,?_,?_⟩
 · rw [List.length_take,HX.out.2.2.1,Nat.min_eq_left (by omega)]
   exact HX.out.1.take
 · exact (zEZ HX.out.2.1 HX.out.2.2.1).trans (HX.out.2.2.2.2.1.trans (swap_perm l 0 n))
 · exact ((zAt.of (n':=n+1) (c':=cap) (HC1.out.trans HX.out.2.2.2.2.2)).trans (zAt.cell g2))
end Go.Proofs.YtbbojbdigiibbaaGreatDoor
end
section
namespace Go.Proofs.YtbbojbdigiibbaaGreatDoor
open Go Go.RowKit Go.Mem Gf Lea
attribute [local go_sem ↓] Go.wp_at_zero Go.wp_at_succ zBL zBA zE3
attribute [local go_sem] zDJ zDL zEA zDK zEB ptrB_eq ptrO_eq ptrIs_eq aggL_eq aggIs_eq zGU
set_option maxRecDepth 100000 in
set_option maxHeartbeats 1000000 in
theorem zHV (w:World) (tb:Nat) (v:Value) (l:List Les) (k:Nat) (x:Les) (h:Heap w tb v l) (hx:l[k]?=some x) (hl:l.length≤100000) :
  Calls Tryz.prog 155 #[hv tb,.int .i64 k] w fun e w'=>e=.returned (.iface 175 (.agg (zi x).toArray))∧∃ v' l',Heap w' tb v' l'∧(x::l').Perm l∧zAt tb v v' w w':=by
 have hk:k < l.length:=by
  rcases Nat.lt_or_ge k l.length with h | h
  · exact h
  · rw [List.getElem?_eq_none h] at hx;cases hx
 obtain ⟨g,cap,rfl,hrow⟩:=h.tab.ex (by omega)
 obtain ⟨n,hn⟩:∃ n,n+1=l.length:=⟨l.length - 1,by omega⟩
 have hc:w.cell? ⟨tb,0,none⟩=some (.slice (some ⟨g,0,none⟩) l.length cap):=by simpa using h.tab.cell.cell 0
 have hy:l[n]?=some (l[n]'(by omega)):=by simp
 generalize l[n]'(by omega)=y at hy
 have hlt:k < n→(∀ c,0 < c→c < n→(c - 1) / 2≠k→c≠k→Rim (swap l k n) c)∧zCf (swap l k n) k n:=fun hkn=>zKM (by rw [hn];exact h.heap) hkn (by omega)
 have hhp:zBo l (n+1):=by rw [hn];exact h.heap
 rw [← hn] at hc h hl hk ⊢
 have H:=Lib.hid (And.intro h.tab (And.intro hx (And.intro hy (And.intro hlt hhp))))
 have HN:=Lib.hid hn.symm
 have e1:((n+1:Nat):Int) - 1=(n:Int):=by omega
 have hr:=Lib.hid (h.tab.theRow hn.symm)
 clear hn h hx hy hlt hrow hhp
 unfold hv
 by_cases hkn:k=n
 · subst hkn
   go_enter Tryz.func155,Tryz.ntmps155
   go_wp2_with fail
   refine (zCj _ _ _ _).mono ?_
   rintro e w2 ⟨rfl,rfl⟩
   go_wp2_with fail
   refine (zDW w tb g cap l x k HN.out H.out.1 H.out.2.1 (by omega)).mono ?_
   rintro e w3 ⟨rfl,g1,g2⟩
   go_wp2_with fail
   go_ret
   refine ⟨rfl,_,l.take k,⟨g1,?_⟩,zEZ H.out.2.1 HN.out,zAt.cell g2⟩
   rw [List.length_take,HN.out,Nat.min_eq_left (by omega)]
   exact zBo.take (fun c h1 h2=>H.out.2.2.2.2 c h1 (by omega))
 · have hkl:k < n:=by omega
   have ne1:((n:Int) != (k:Int))=true:=by simp;omega
   have ne2:¬ ((n:Int)=(k:Int)):=by omega
   go_enter Tryz.func155,Tryz.ntmps155
   go_wp2_with fail
   refine (zCj _ _ _ _).mono ?_
   rintro e w2 ⟨rfl,rfl⟩
   go_wp2_with fail
   refine (zBh 0 g (n+1) cap l k n x y w hr.out H.out.2.1 H.out.2.2.1).mono ?_
   rintro e w1 ⟨rfl,hrow,hchg⟩
   have hT1:=H.out.1.row' HN.out hrow hchg
   have c1:w1.cell? ⟨tb,0,none⟩=some (.slice (some ⟨g,0,none⟩) (n+1) cap):=by simpa using hT1.cell.cell 0
   have HT1:=Lib.hid hT1;have HC1:=Lib.hid hchg
   have HL1:Hid ((swap l k n).length=n+1):=by rw [swap_len];exact HN.out
   have HXN:Hid ((swap l k n)[n]?=some x):=by rw [zBx H.out.2.1 H.out.2.2.1,if_pos rfl];rfl
   have HPR:=Lib.hid (H.out.2.2.2.1 hkl)
   clear hT1 hrow hchg
   go_wp2_with fail
   refine (down_calls w1 tb g cap (swap l k n) k n (n+1) HL1.out HT1.out (by omega) (by omega) (by omega) HPR.out.1 HPR.out.2).mono ?_
   rintro e w2 ⟨b,rfl,l1,h1,h2,h3,h4,h5,h6⟩
   cases b
   · obtain ⟨e6,h6'⟩:=h6 rfl
     rw [e6] at h1
     have H2:=Lib.hid (And.intro h1 (And.intro h4 h6'))
     have c2:w2.cell? ⟨tb,0,none⟩=some (.slice (some ⟨g,0,none⟩) (n+1) cap):=by simpa using h1.cell.cell 0
     clear h1 h2 h3 h4 h5 h6 e6 h6'
     go_wp2_with fail
     refine (zHN w2 tb g cap (swap l k n) k n (n+1) HL1.out H2.out.1 (by omega) (by omega) hkl H2.out.2.2 HPR.out.2).mono ?_
     rintro e w3 ⟨rfl,l2,p1,p2,p3,p4,p5⟩
     have hxn:l2[n]?=some x:=by rw [p4 n (Nat.le_refl _)];exact HXN.out
     have hL2:l2.length=n+1:=by rw [p2.length_eq];exact HL1.out
     have HX:=Lib.hid (And.intro p3 (And.intro hxn (And.intro hL2 (And.intro p1 (And.intro p2 p5)))))
     have c3:w3.cell? ⟨tb,0,none⟩=some (.slice (some ⟨g,0,none⟩) (n+1) cap):=by simpa using p1.cell.cell 0
     clear p1 p2 p3 p4 p5 hxn hL2
     go_wp2_with fail
     refine (zDW w3 tb g cap l2 x n HX.out.2.2.1 HX.out.2.2.2.1 HX.out.2.1 (by omega)).mono ?_
     rintro e w4 ⟨rfl,g1,g2⟩
     go_wp2_with fail
     go_ret
     refine ⟨rfl,_,l2.take n,⟨g1,?_⟩,?_,?_⟩
     · rw [List.length_take,HX.out.2.2.1,Nat.min_eq_left (by omega)]
       exact HX.out.1.take
     · exact (zEZ HX.out.2.1 HX.out.2.2.1).trans (HX.out.2.2.2.2.1.trans (swap_perm l k n))
     · exact (zAt.of (n':=n+1) (c':=cap) ((HC1.out.trans H2.out.2.1).trans HX.out.2.2.2.2.2)).trans (zAt.cell g2)
   · have hh:zBo l1 n:=h5 rfl
     have hxn:l1[n]?=some x:=by rw [h3 n (Nat.le_refl _)];exact HXN.out
     have hL2:l1.length=n+1:=by rw [h2.length_eq];exact HL1.out
     have HX:=Lib.hid (And.intro hh (And.intro hxn (And.intro hL2 (And.intro h1 (And.intro h2 h4)))))
     have c2:w2.cell? ⟨tb,0,none⟩=some (.slice (some ⟨g,0,none⟩) (n+1) cap):=by simpa using h1.cell.cell 0
     clear h1 h2 h3 h4 h5 h6 hh hxn hL2
     go_wp2_with fail
     refine (zDW w2 tb g cap l1 x n HX.out.2.2.1 HX.out.2.2.2.1 HX.out.2.1 (by omega)).mono ?_
     rintro e w3 ⟨rfl,g1,g2⟩
     go_wp2_with fail
     go_ret
     refine ⟨rfl,_,l1.take n,⟨g1,?_⟩,?_,?_⟩
     · rw [List.length_take,HX.out.2.2.1,Nat.min_eq_left (by omega)]
       exact HX.out.1.take
     · exact (zEZ HX.out.2.1 HX.out.2.2.1).trans (HX.out.2.2.2.2.1.trans (swap_perm l k n))
     · exact (zAt.of (n':=n+1) (c':=cap) (HC1.out.trans HX.out.2.2.2.2.2)).trans (zAt.cell g2)
end Go.Proofs.YtbbojbdigiibbaaGreatDoor
end
section
namespace Srt
variable {α:Type}
def swap (l:List α) (i j:Nat):List α:=match l[i]?,l[j]? with
 | some x,some y=>(l.set i y).set j x
 | _,_=>l
theorem lt_of_some {l:List α} {i:Nat} {x:α} (hx:l[i]?=some x):i < l.length:=by
 rcases Nat.lt_or_ge i l.length with h | h
 · exact h
 · rw [List.getElem?_eq_none h] at hx;cases hx
theorem zIr {l:List α} {i j:Nat} {x y:α} (hx:l[i]?=some x) (hy:l[j]?=some y):swap l i j=(l.set i y).set j x:=by
 unfold swap;rw [hx,hy]
theorem zBx {l:List α} {i j:Nat} {x y:α} (hx:l[i]?=some x) (hy:l[j]?=some y) (k:Nat):(swap l i j)[k]?=if k=j then some x else if k=i then some y else l[k]?:=by
 have hi:=lt_of_some hx
 have hj:=lt_of_some hy
 rw [zIr hx hy]
 simp only [List.getElem?_set,List.length_set]
 by_cases h1:k=j
 · subst h1;simp [hj]
 · have h1':¬ j=k:=fun h=>h1 h.symm
   by_cases h2:k=i
   · subst h2;simp [h1,h1',hi]
   · have h2':¬ i=k:=fun h=>h2 h.symm
     simp [h1,h1',h2,h2']
theorem swap_len {l:List α} {i j:Nat} {x y:α} (hx:l[i]?=some x) (hy:l[j]?=some y):(swap l i j).length=l.length:=by
 rw [zIr hx hy];simp
theorem swap_perm {l:List α} {i j:Nat} {x y:α} (hx:l[i]?=some x) (hy:l[j]?=some y):(swap l i j).Perm l:=by
 have hi:=lt_of_some hx
 have hj:=lt_of_some hy
 rw [zIr hx hy]
 rw [List.getElem?_eq_getElem hi] at hx
 rw [List.getElem?_eq_getElem hj] at hy
 cases hx;cases hy
 exact List.set_set_perm hi hj
structure Ord (lt:α→α→Bool):Prop where
 asymm:∀ a b,lt a b=true→lt b a=false
 trans:∀ a b c,lt b a=false→lt c b=false→lt c a=false
def Upto (lt:α→α→Bool) (l:List α) (n:Nat):Prop:=∀ p q x y,p < q→q < n→l[p]?=some x→l[q]?=some y→lt y x=false
def Ins (lt:α→α→Bool) (l:List α) (j i:Nat):Prop :=
 (∀ p q x y,p < q→q≤i→p≠j→q≠j→l[p]?=some x→l[q]?=some y→lt y x=false)∧∀ q x y,j < q→q≤i→l[j]?=some x→l[q]?=some y→lt y x=false
variable {lt:α→α→Bool} {l:List α} {i j:Nat}
theorem ins_start (h:Upto lt l i):Ins lt l i i :=
 ⟨fun p q x y h1 h2 _ h4 hx hy=>h p q x y h1 (by omega) hx hy,fun q x y h1 h2=>by omega⟩
theorem ins_step (hO:Ord lt) (h:Ins lt l j i) (h0:0 < j) (hj:j≤i) {x y:α} (hx:l[j]?=some x) (hy:l[j - 1]?=some y) (hlt:lt x y=true):Ins lt (swap l j (j - 1)) (j - 1) i:=by
 have hg:=zBx hx hy
 refine ⟨fun p q a b h1 h2 h3 h4 ha hb=>?_,fun q a b h1 h2 ha hb=>?_⟩
 · rw [hg,if_neg h3] at ha
   rw [hg,if_neg h4] at hb
   by_cases e1:p=j
   · rw [if_pos e1] at ha
     cases ha
     rw [if_neg (by omega)] at hb
     exact h.1 (j - 1) q y b (by omega) h2 (by omega) (by omega) hy hb
   · rw [if_neg e1] at ha
     by_cases e2:q=j
     · rw [if_pos e2] at hb
       cases hb
       exact h.1 p (j - 1) a y (by omega) (by omega) e1 (by omega) ha hy
     · rw [if_neg e2] at hb
       exact h.1 p q a b h1 h2 e1 e2 ha hb
 · rw [hg,if_pos rfl] at ha
   cases ha
   rw [hg,if_neg (by omega)] at hb
   by_cases e2:q=j
   · rw [if_pos e2] at hb
     cases hb
     exact hO.asymm x y hlt
   · rw [if_neg e2] at hb
     exact h.2 q x b (by omega) h2 hx hb
theorem ins_stop (hO:Ord lt) (h:Ins lt l j i) (hj:j≤i) (hs:j=0∨∃ x y,l[j]?=some x∧l[j - 1]?=some y∧lt x y=false):Upto lt l (i+1):=by
 intro p q a b h1 h2 ha hb
 by_cases e1:p=j
 · subst e1
   exact h.2 q a b h1 (by omega) ha hb
 · by_cases e2:q=j
   · subst e2
     rcases hs with e | ⟨x,y,hx,hy,hxy⟩
     · omega
     · rw [hx] at hb
       cases hb
       by_cases e3:p=q - 1
       · subst e3
         rw [hy] at ha
         cases ha
         exact hxy
       · exact hO.trans a y _ (h.1 p (q - 1) a y (by omega) (by omega) e1 (by omega) ha hy) hxy
   · exact h.1 p q a b h1 (by omega) e1 e2 ha hb
theorem zEp {lt:α→α→Bool} (l:List α) (h:Upto lt l l.length):l.Pairwise (fun x y=>lt y x=false):=by
 rw [List.pairwise_iff_getElem]
 intro p q hp hq hpq
 exact h p q _ _ hpq hq (by simp) (by simp)
end Srt
end
section
namespace Go.Proofs.YtbbojbdigiibbaaGreatDoor
open Go Go.RowKit Go.Mem Gf
attribute [local go_sem ↓] Go.wp_at_zero Go.wp_at_succ
structure zIJ {α:Type} (St:World→List α→Prop) (N:Nat→Prop) (lt:α→α→Bool) (g sf:Nat) (lb sb:Array Value):Prop where
 new:∀ W l,St W l→∀ k,N k→k < W.heap.size
 alloc:∀ W l o,St W l→St (W.alloc o) l
 less:∀ W l (i j:Nat) x y,j < i→St W l→l[i]?=some x→l[j]?=some y→Calls Tryz.prog g (#[.int .i64 i,.int .i64 j]++lb) W fun e W'=>e=.returned (.bool (lt x y))∧St W' l∧Chg N W W'
 swap:∀ W l (i j:Nat) x y,j < i→St W l→l[i]?=some x→l[j]?=some y→∃ W',(callFunc sf (#[.int .i64 i,.int .i64 j]++sb)).run Tryz.prog W=.ok (.value (.tuple #[])) W'∧St W' (Srt.swap l i j)∧Chg N W W'
 enters:∀ args w,(callFunc g args).run Tryz.prog w=.ok (.enter g args) w
 ord:Srt.Ord lt
theorem zLb {N:Nat→Prop} {w wr:World} {o:Obj} (h:Chg N (w.alloc o) wr):Chg N w wr:=(Chg.of_below ((Below.refl _ _).alloc (Nat.le_refl _) o)).trans h
set_option maxHeartbeats 2000000 in
set_option maxRecDepth 100000 in
theorem zMD {α:Type} {St:World→List α→Prop} {N:Nat→Prop} {lt:α→α→Bool} {g sf:Nat} {lb sb:Array Value} (S:zIJ St N lt g sf lb sb) (l:List α) (n:Nat) (hn:l.length=n) (hl:n≤1000) (w:World) (h:St w l) :
  Calls Tryz.prog 203 #[.agg #[.func (.func g) #[] lb,.func (.func sf) #[] sb],.int .i64 0,.int .i64 n] w fun e w'=>e=.returned (.tuple #[])∧∃ l',St w' l'∧l'.Perm l∧Srt.Upto lt l' n∧Chg N w w':=by
 have eg:=S.enters
 have SS:=Lib.hid S
 have H0:Hid (St (w.alloc (.cells #[.func (.func g) #[] lb,.func (.func sf) #[] sb] 228)) l):=S.alloc _ _ _ h
 have HN:Hid (¬ N w.heap.size):=fun e=>Nat.lt_irrefl _ (S.new _ _ h _ e)
 have HB:=Lib.hid (Blk.new w #[.func (.func g) #[] lb,.func (.func sf) #[] sb] 228)
 obtain ⟨bx,hbx⟩:∃ b,b=w.heap.size:=⟨_,rfl⟩
 obtain ⟨w0,hw0⟩:∃ x,x=w.alloc (.cells #[.func (.func g) #[] lb,.func (.func sf) #[] sb] 228):=⟨_,rfl⟩
 have HW0:=Lib.hid hw0;have HBX:=Lib.hid hbx
 rw [← hw0] at H0
 rw [← hbx] at HN
 rw [← hbx,← hw0] at HB
 have HL:=Lib.hid hn
 clear hw0 hbx h S hn
 go_enter Tryz.func203,Tryz.ntmps203
 go_upto_region 1 with fail
 rw [← HW0.out,← HBX.out]
 go_wp2_with fail
 go_loopw [6] (fun vi wr=>∃ (i:Nat) (m:List α),0 < i∧i≤n+1∧vi=.int .i64 i∧Hid (m.length=n∧St wr m∧m.Perm l∧Srt.Upto lt m (min i n)∧Chg N w0 wr)) (fun vi _=>n+1 - (intOf vi).toNat)
 case atStart=>exact ⟨1,l,by omega,by omega,rfl,HL.out,H0.out,List.Perm.refl _,fun p q _ _ h1 h2=>by omega,Chg.refl _ _⟩
 case round =>
  obtain ⟨i,m,hi0,hi1,rfl,H⟩:=hrel
  by_cases hin:i < n
  · go_wp2_with fail
    go_loopw [7] (fun vj wj=>∃ (j:Nat) (q:List α),j≤i∧vj=.int .i64 j∧Hid (q.length=n∧St wj q∧q.Perm l∧Srt.Ins lt q j i∧Chg N w0 wj)) (fun vj _=>(intOf vj).toNat)
    case atStart=>exact ⟨i,m,Nat.le_refl _,rfl,H.out.1,H.out.2.1,H.out.2.2.1,Srt.ins_start (by have:=H.out.2.2.2.1;rw [Nat.min_eq_left (by omega)] at this;exact this),H.out.2.2.2.2⟩
    case round =>
     obtain ⟨j,q,hji,rfl,G⟩:=hrel
     have HBJ:=Lib.hid (G.out.2.2.2.2.blk HB.out HN.out)
     have c0:wr.cell? ⟨bx,0,none⟩=some (.func (.func g) #[] lb):=HBJ.out.cell 0
     by_cases hj0:0 < j
     · have hx:q[j]?=some (q[j]'(by have:=G.out.1;omega)):=by simp
       have hy:q[j - 1]?=some (q[j - 1]'(by have:=G.out.1;omega)):=by simp
       generalize q[j]'(by have:=G.out.1;omega)=x at hx
       generalize q[j - 1]'(by have:=G.out.1;omega)=y at hy
       have hless:=SS.out.less wr q j (j - 1) x y (by omega) G.out.2.1 hx hy
       rw [show (((j - 1:Nat):Int))=(j:Int) - 1 by omega] at hless
       have HXY:=Lib.hid (And.intro hx hy)
       have HLESS:=Lib.hid hless
       clear hx hy hless
       go_wp2_with fail
       refine (HLESS.out).mono ?_
       rintro e w1 ⟨rfl,hS1,hC1⟩
       have HS1:=Lib.hid hS1;have HC1:=Lib.hid (G.out.2.2.2.2.trans hC1)
       have HB1:=Lib.hid (hC1.blk HBJ.out HN.out)
       have c1:w1.cell? ⟨bx,1,none⟩=some (.func (.func sf) #[] sb):=HB1.out.cell 1
       clear hS1 hC1
       cases hlt:lt x y with
       | true =>
         obtain ⟨w2,hsw,hS2,hC2⟩:=SS.out.swap w1 q j (j - 1) x y (by omega) HS1.out HXY.out.1 HXY.out.2
         rw [show (((j - 1:Nat):Int))=(j:Int) - 1 by omega] at hsw
         have HF:Hid ((Srt.swap q j (j - 1)).length=n∧St w2 (Srt.swap q j (j - 1))∧(Srt.swap q j (j - 1)).Perm l∧Srt.Ins lt (Srt.swap q j (j - 1)) (j - 1) i∧Chg N w0 w2) :=
          ⟨by rw [Srt.swap_len HXY.out.1 HXY.out.2];exact G.out.1,hS2,(Srt.swap_perm HXY.out.1 HXY.out.2).trans G.out.2.2.1,Srt.ins_step SS.out.ord G.out.2.2.2.1 hj0 hji HXY.out.1 HXY.out.2 hlt,HC1.out.trans hC2⟩
         have HSW:=Lib.hid hsw
         clear hS2 hC2 hsw
         go_wp2_with fail
         rw [HSW.out,Oper.upon_value]
         go_wp2_with fail
         exact ⟨⟨j - 1,_,by omega,by congr 1;omega,HF.out⟩,by simp [intOf];omega⟩
       | false =>
         have HF:=Lib.hid (Srt.ins_stop SS.out.ord G.out.2.2.2.1 hji (.inr ⟨x,y,HXY.out.1,HXY.out.2,hlt⟩))
         go_wp2_with fail
         exact ⟨⟨i+1,q,by omega,by omega,by go_num,G.out.1,HS1.out,G.out.2.2.1,by rw [Nat.min_eq_left (by omega)];exact HF.out,HC1.out⟩,by simp [intOf];omega⟩
     · have HF:=Lib.hid (Srt.ins_stop SS.out.ord G.out.2.2.2.1 hji (.inl (by omega)))
       go_wp2_with fail
       exact ⟨⟨i+1,q,by omega,by omega,by go_num,G.out.1,G.out.2.1,G.out.2.2.1,by rw [Nat.min_eq_left (by omega)];exact HF.out,G.out.2.2.2.2⟩,by simp [intOf];omega⟩
  · go_wp2_with fail
    go_end0
    refine ⟨rfl,m,H.out.2.1,H.out.2.2.1,?_,?_⟩
    · have:=H.out.2.2.2.1
      rw [Nat.min_eq_right (by omega)] at this
      exact this
    · have:=H.out.2.2.2.2
      rw [HW0.out] at this
      exact zLb this
set_option maxHeartbeats 2000000 in
set_option maxRecDepth 100000 in
theorem zEV {α:Type} {St:World→List α→Prop} {N:Nat→Prop} {lt:α→α→Bool} {g sf:Nat} {lb sb:Array Value} (S:zIJ St N lt g sf lb sb) (l:List α) (n:Nat) (lim:Int) (hn:l.length=n) (hl:n≤12) (w:World) (h:St w l) :
  Calls Tryz.prog 164 #[.agg #[.func (.func g) #[] lb,.func (.func sf) #[] sb],.int .i64 0,.int .i64 n,.int .i64 lim] w fun e w'=>e=.returned (.tuple #[])∧∃ l',St w' l'∧l'.Perm l∧Srt.Upto lt l' n∧Chg N w w':=by
 have H0:Hid (St (w.alloc (.cells #[.func (.func g) #[] lb,.func (.func sf) #[] sb] 228)) l):=S.alloc _ _ _ h
 have SS:=Lib.hid S
 have HB:=Lib.hid (Blk.new w #[.func (.func g) #[] lb,.func (.func sf) #[] sb] 228)
 obtain ⟨bx,hbx⟩:∃ b,b=w.heap.size:=⟨_,rfl⟩
 obtain ⟨w0,hw0⟩:∃ x,x=w.alloc (.cells #[.func (.func g) #[] lb,.func (.func sf) #[] sb] 228):=⟨_,rfl⟩
 have HW0:=Lib.hid hw0;have HBX:=Lib.hid hbx
 rw [← hw0] at H0
 rw [← hbx,← hw0] at HB
 have HL:=Lib.hid hn
 have c0:w0.cell? ⟨bx,0,none⟩=some (.func (.func g) #[] lb):=HB.out.cell 0
 have c1:w0.cell? ⟨bx,1,none⟩=some (.func (.func sf) #[] sb):=HB.out.cell 1
 clear hw0 hbx h S hn
 go_enter Tryz.func164,Tryz.ntmps164
 go_upto_region 1 with fail
 rw [← HW0.out,← HBX.out]
 go_wp2_with fail
 go_loopw [1,2] (fun a b wr=>wr=w0∧a=.int .i64 0∧b=.int .i64 n) (fun _ _ _=>0)
 case atStart=>exact ⟨rfl,rfl,rfl⟩
 case round =>
  obtain ⟨rfl,rfl,rfl⟩:=hrel
  go_wp2_with fail
  refine (zMD SS.out l n HL.out (by omega) _ H0.out).mono ?_
  rintro e w1 ⟨rfl,l',h1,h2,h3,h4⟩
  go_wp2_with fail
  go_returns
  rw [HW0.out] at h4
  exact ⟨rfl,l',h1,h2,h3,zLb h4⟩
end Go.Proofs.YtbbojbdigiibbaaGreatDoor
end
section
namespace Go.Mem
open Go Go.RowKit Gf
structure zEb {α:Type} (enc:α→List Value) (Wf:α→Prop) (k:Nat):Prop where
 len:∀ x,Wf x→(enc x).length=k
 one:∀ x v,v∈enc x→v.oneCell'=true
 pos:0 < k
def zB3 {α:Type} (enc:α→List Value) (l:List α):List Value:=l.flatMap enc
section
variable {α:Type} {enc:α→List Value} {Wf:α→Prop} {k:Nat}
theorem zCh (E:zEb enc Wf k):∀ (l:List α),(∀ x∈l,Wf x)→(zB3 enc l).length=l.length*k
 | [],_=>by simp [zB3]
 | x::l,h=>by
   have:=zCh E l (fun y hy=>h y (by simp [hy]))
   unfold zB3 at this ⊢
   rw [List.flatMap_cons,List.length_append,E.len x (h x (by simp)),this,List.length_cons,Nat.add_mul];omega
theorem zBI (E:zEb enc Wf k):∀ (l:List α),(∀ x∈l,Wf x)→∀ (i:Nat) (x:α),l[i]?=some x→∀ c,c < k→(zB3 enc l)[i*k+c]?=(enc x)[c]?
 | y::l,h,0,x,hx,c,hc=>by
   simp at hx
   subst hx
   unfold zB3
   rw [List.flatMap_cons,Nat.zero_mul,Nat.zero_add,List.getElem?_append_left (by rw [E.len y (h y (by simp))];exact hc)]
 | y::l,h,i+1,x,hx,c,hc=>by
   have ih:=zBI E l (fun z hz=>h z (by simp [hz])) i x (by simpa using hx) c hc
   have hl:=E.len y (h y (by simp))
   unfold zB3 at ih ⊢
   have e:(i+1)*k+c=k+(i*k+c):=by rw [Nat.add_mul];omega
   rw [List.flatMap_cons,List.getElem?_append_right (by rw [hl];omega),hl,e,Nat.add_sub_cancel_left]
   exact ih
theorem zMv (l m:List α):zB3 enc (l++m)=zB3 enc l++zB3 enc m:=by unfold zB3;rw [List.flatMap_append]
theorem zMw (x:α):zB3 enc [x]=enc x:=by simp [zB3]
theorem zHg (E:zEb enc Wf k) (l:List α):∀ u∈zB3 enc l,u.oneCell'=true:=fun u hu=>by
 obtain ⟨x,_,hx⟩:=List.mem_flatMap.1 hu
 exact E.one x u hx
theorem zFd {l:List α} (h:∀ x∈l,Wf x) {i:Nat} {y:α} (hy:Wf y):∀ x∈l.set i y,Wf x:=fun x hx=>by
 rcases List.mem_or_eq_of_mem_set hx with h' | rfl
 · exact h x h'
 · exact hy
theorem zMz {i j k:Nat} (hk:0 < k):(i*k≤j∧j < i*k+k)↔j / k=i:=by
 have e:=Nat.div_add_mod' j k
 have hr:=Nat.mod_lt j hk
 constructor
 · rintro ⟨h1,h2⟩
   exact Nat.div_eq_of_lt_le h1 (by rw [Nat.add_mul];omega)
 · intro h
   subst h
   omega
theorem zMx (E:zEb enc Wf k) (l:List α) (h:∀ x∈l,Wf x) {i:Nat} {y:α} (hy:Wf y) (hi:i < l.length) (j:Nat) (hj:j < l.length*k) :
  (zB3 enc (l.set i y))[j]?=if i*k≤j∧j < i*k+k then (enc y)[j - i*k]? else (zB3 enc l)[j]?:=by
 have e:=Nat.div_add_mod' j k
 have hr:=Nat.mod_lt j E.pos
 have hq:j / k < l.length:=Nat.div_lt_of_lt_mul (by rw [Nat.mul_comm];exact hj)
 have hx:l[j / k]?=some l[j / k]:=by simp
 by_cases c:i*k≤j∧j < i*k+k
 · rw [if_pos c]
   have hji:=(zMz E.pos).1 c
   have:=zBI E _ (zFd h hy) i y (by rw [List.getElem?_set_self hi]) (j % k) hr
   rw [← hji,e] at this
   rw [← hji,this]
   congr 1
   omega
 · rw [if_neg c]
   have hji:i≠j / k:=fun h'=>c ((zMz E.pos).2 h'.symm)
   have h1:=zBI E _ (zFd h hy) (j / k) _ (by rw [List.getElem?_set_ne hji];exact hx) (j % k) hr
   have h2:=zBI E l h (j / k) _ hx (j % k) hr
   rw [e] at h1 h2
   rw [h1,h2]
end
structure zAh {α:Type} (enc:α→List Value) (Wf:α→Prop) (k:Nat) (ti:TypeId) (w:World) (base:Nat) (v:Value) (l:List α):Prop where
 own:w.ownsRow base ti k v l.length (zB3 enc l)
 wf:∀ x∈l,Wf x
structure zAq {α:Type} (enc:α→List Value) (Wf:α→Prop) (k:Nat) (ti:TypeId) (w:World) (base g n cap:Nat) (l:List α):Prop where
 own:w.ownsRow base ti k (.slice (some ⟨g,0,none⟩) n cap) n (zB3 enc l)
 len:n=l.length
 wf:∀ x∈l,Wf x
section
variable {α:Type} {enc:α→List Value} {Wf:α→Prop} {k:Nat} {ti:TypeId} {w:World} {base g n cap:Nat} {l:List α} {v:Value}
theorem zAh.nil (enc:α→List Value) (Wf:α→Prop) (k:Nat) (ti:TypeId) (w:World) (base:Nat):zAh enc Wf k ti w base (.slice none 0 0) ([]:List α) :=
 ⟨World.ownsRow_nil w base ti k,fun _ h=>by cases h⟩
theorem zAh.ex (h:zAh enc Wf k ti w base v l) (h0:0 < l.length):∃ g cap,v=.slice (some ⟨g,0,none⟩) l.length cap∧zAq enc Wf k ti w base g l.length cap l:=by
 rcases h.own.2 with ⟨_,e⟩ | ⟨g,cap,cur,e,_⟩
 · omega
 · exact ⟨g,cap,e,by rw [← e];exact h.own,rfl,h.wf⟩
theorem zAh.slice (h:zAh enc Wf k ti w base v l):∃ p c,v=.slice p l.length c:=by
 obtain ⟨a,c,e,_⟩:=zAE h.own
 exact ⟨a,c,e⟩
theorem zAh.chg {S:Nat→Prop} {w':World} (h:zAh enc Wf k ti w base v l) (hc:Chg S w w') (hs:∀ g,v.ownBlock=some g→¬ S g):zAh enc Wf k ti w' base v l:=⟨zAg h.own hc hs,h.wf⟩
theorem zAh.lower {b:Nat} (h:zAh enc Wf k ti w base v l) (hb:b≤base):zAh enc Wf k ti w b v l:=by
 refine ⟨⟨h.own.1,?_⟩,h.wf⟩
 rcases h.own.2 with e | ⟨g,cap,cur,e,h1,h2⟩
 · exact .inl e
 · exact .inr ⟨g,cap,cur,e,by omega,h2⟩
theorem zAq.to (h:zAq enc Wf k ti w base g n cap l):zAh enc Wf k ti w base (.slice (some ⟨g,0,none⟩) n cap) l:=⟨by rw [← h.len];exact h.own,h.wf⟩
theorem zAq.block (h:zAq enc Wf k ti w base g n cap l):∃ cur:Array Value,w.heap[g]?=some (.cells cur ti (0,0))∧base≤g∧n≤cap∧cap≤maxLen∧cur.size=cap*k∧∀ j,j < n*k→cur[j]?=(zB3 enc l)[j]?:=by
 rcases h.own.2 with ⟨e,_⟩ | ⟨g',cap',cur,e,hb,hh,h1,h2,h3,h4⟩
 · cases e
 · cases e
   refine ⟨cur,hh,hb,h1,h2,h3,fun j hj=>?_⟩
   rw [← h4,List.getElem?_take,if_pos hj,Array.getElem?_toList]
theorem zAq.cell (h:zAq enc Wf k ti w base g n cap l) {j:Nat} (hj:j < n*k):w.cell? ⟨g,j,none⟩=(zB3 enc l)[j]?:=by
 obtain ⟨cur,hh,_,_,_,_,hc⟩:=h.block
 rw [← hc j hj]
 have hB:Blk w g cur ti:=hh
 exact hB.cell j
theorem zq {l:List α} {i:Nat} {x:α} (hx:l[i]?=some x):i < l.length:=by
 rcases Nat.lt_or_ge i l.length with h | h
 · exact h
 · rw [List.getElem?_eq_none h] at hx;cases hx
theorem zNR {i n k c:Nat} (hi:i < n) (hc:c < k):i*k+c < n*k:=by
 have:=Nat.mul_le_mul_right k (show i+1≤n from hi)
 rw [Nat.add_mul,Nat.one_mul] at this
 omega
theorem zAq.range (E:zEb enc Wf k) (h:zAq enc Wf k ti w base g n cap l) {i:Nat} {x:α} (hx:l[i]?=some x):w.rangeAt g (i*k) (enc x):=fun j v hv=>by
 have hi:=zq hx
 have hj:j < k:=by
  have:=zq hv
  rwa [E.len x (h.wf x (List.mem_of_getElem? hx))] at this
 rw [h.cell (zNR (by rw [h.len];exact hi) hj),zBI E l h.wf i x hx j hj]
 exact hv
theorem zAq.there (h:zAq enc Wf k ti w base g n cap l) {i:Nat} (hi:i < n):w.there g (i*k) k:=fun j hj=>by
 obtain ⟨cur,hh,_,h1,_,h3,_⟩:=h.block
 have hB:Blk w g cur ti:=hh
 have:=zNR (k:=k) hi hj
 have:=Nat.mul_le_mul_right k h1
 exact ⟨by rw [hB.cell];simp;omega,hB.free _⟩
theorem zAq.read (E:zEb enc Wf k) (h:zAq enc Wf k ti w base g n cap l) {i:Nat} {x:α} (hx:l[i]?=some x):zN k w g (i*k)=enc x:=zA3 (h.range E hx) (E.len x (h.wf x (List.mem_of_getElem? hx)))
theorem zAq.set (E:zEb enc Wf k) (h:zAq enc Wf k ti w base g n cap l) {i:Nat} (hi:i < n) {y:α} (hy:Wf y):zAq enc Wf k ti (w.setCells g (i*k) (enc y)) base g n cap (l.set i y):=by
 obtain ⟨cur,hh,hb,h1,h2,h3,h4⟩:=h.block
 have hB:Blk w g cur ti:=hh
 obtain ⟨cur',b1,b2,b3⟩:=Blk.setCells (enc y) (i*k) w cur hB
 have hll:=h.len
 have hm:n*k≤cap*k:=Nat.mul_le_mul_right _ h1
 refine ⟨⟨?_,.inr ⟨g,cap,cur',rfl,hb,b1,h1,h2,by rw [b2,h3],?_⟩⟩,by rw [List.length_set];exact hll,zFd h.wf hy⟩
 · rw [zCh E _ (zFd h.wf hy),List.length_set,hll]
 · apply List.ext_getElem?
   intro j
   have hlen:=zCh E _ (zFd h.wf hy (i:=i))
   rw [List.length_set,← hll] at hlen
   rw [List.getElem?_take,Array.getElem?_toList]
   by_cases hj:j < n*k
   · rw [if_pos hj,b3 j (by omega),zMx E l h.wf hy (by omega) j (by rw [← hll];exact hj),E.len y hy,h4 j hj]
   · rw [if_neg hj,List.getElem?_eq_none (by omega)]
theorem zAq.chg {S:Nat→Prop} {w':World} (h:zAq enc Wf k ti w base g n cap l) (hc:Chg S w w') (hs:¬ S g):zAq enc Wf k ti w' base g n cap l:=⟨zAg h.own hc (fun q hq=>by cases hq;exact hs),h.len,h.wf⟩
theorem zAq.lt (h:zAq enc Wf k ti w base g n cap l):g < w.heap.size:=by
 obtain ⟨cur,hh,_⟩:=h.block
 exact lt_of_block hh
end
end Go.Mem
end
section
namespace Go.Mem
open Go Go.RowKit Gf
section
variable {w:World} {b:Nat} {arr:Array Value} {t:TypeId}
theorem zL {n o:Nat} (h:Blk w b arr t) (hn:o+n≤arr.size):zY n w b o:=fun j hj=>by
 exact ⟨by rw [h.cell];simp;omega,h.free _⟩
theorem zCE {n o:Nat} (h:Blk w b arr t) {cs:List Value} (hn:cs.length=n) (hc:∀ k,k < n→arr[o+k]?=cs[k]?):zN n w b o=cs:=by
 refine zA3 (fun k v hv=>?_) hn
 rw [h.cell,hc k (by rw [← hn];exact (List.getElem?_eq_some_iff.1 hv).1)]
 exact hv
theorem zP {n:Nat} {cs:List Value} (h:Blk w b cs.toArray t) (hn:cs.length=n):zN n w b 0=cs:=zCE h hn (fun k _=>by rw [Nat.zero_add];simp)
end
theorem zEg {P:Program} (w:World) (d:Nat) {e:TypeId} (he:P.underlying e=some (.int .u8)) (hc:P.cellsOf e=1) (xs ys:List UInt8):∀ is:List Nat,(∀ i∈is,i < xs.length∧i < ys.length) →
  (Op.eqItems (d+1) e (P.cellsOf e) (bV xs).toArray (bV ys).toArray is).run P w=.ok (decide (∀ i∈is,xs[i]?=ys[i]?)) w
 | [],_=>by simp [Op.eqItems]
 | i::is,h=>by
   obtain ⟨h1,h2⟩:=h i (by simp)
   have hp:P.plainKey e=true:=by simp [Program.plainKey,he]
   have hx:xs[i]?=some xs[i]:=by simp
   have hy:ys[i]?=some ys[i]:=by simp
   generalize xs[i]=a at hx
   generalize ys[i]=b at hy
   have p1:=run_part_plain (P:=P) w hp (xs:=(bV xs).toArray) (off:=i*P.cellsOf e) (v:=.int .u8 (a.toNat:Int)) (by rw [hc,Nat.mul_one];simp [bV,hx])
   have p2:=run_part_plain (P:=P) w hp (xs:=(bV ys).toArray) (off:=i*P.cellsOf e) (v:=.int .u8 (b.toNat:Int)) (by rw [hc,Nat.mul_one];simp [bV,hy])
   have ih:=zEg w d he hc xs ys is (fun j hj=>h j (by simp [hj]))
   simp only [Op.eqItems,Sem.run_bind,p1,p2,run_equalIn_int w d e .u8 .u8 _ _ he,Result.andThen_ok]
   by_cases hab:a=b
   · subst hab
     simp only [beq_self_eq_true,Bool.not_true,Bool.false_eq_true,if_false,ih]
     congr 1
     simp [hx,hy]
   · have hn:((a.toNat:Int) == (b.toNat:Int))=false:=by
      have:a.toNat≠b.toNat:=fun e=>hab (Gf.ext e)
      simp;omega
     simp only [hn,Bool.not_false,if_true,Sem.run_pure]
     congr 1
     rw [eq_comm,decide_eq_false_iff_not]
     intro hall
     have:=hall i (by simp)
     rw [hx,hy] at this
     exact hab (Option.some.inj this)
theorem zFX {P:Program} (w:World) (d n:Nat) {t e:TypeId} {i:TypeInfo} (hu:P.underlying t=some (.array n e)) (hi:P.info? e=some i) (he:P.underlying e=some (.int .u8)) (hc:P.cellsOf e=1) (xs ys:List UInt8) (hx:xs.length=n) (hy:ys.length=n) :
  (Op.equalIn (d+2) t (.agg (bV xs).toArray) (.agg (bV ys).toArray)).run P w=.ok (decide (xs=ys)) w:=by
 rw [show d+2=(d+1)+1 from rfl,run_equalIn_array w (d+1) _ _ hu hi,zEg w d he hc xs ys (List.range n) (fun i hi=>by rw [List.mem_range] at hi;omega)]
 congr 1
 refine decide_eq_decide.2 ⟨?_,?_⟩
 · intro h
   apply List.ext_getElem?
   intro k
   rcases Nat.lt_or_ge k n with hk | hk
   · exact h k (List.mem_range.2 hk)
   · rw [List.getElem?_eq_none (by omega),List.getElem?_eq_none (by omega)]
 · intro h k _
   rw [h]
theorem zDH:∀ a:List UInt8,Go.Lib.compareBytes a a=0
 | []=>rfl
 | x::a=>by
   unfold Go.Lib.compareBytes
   rw [if_neg (fun h=>by exact absurd h (by simp)),if_neg (fun h=>by exact absurd h (by simp))]
   exact zDH a
theorem zEo (a b:UInt8):a < b↔a.toNat < b.toNat:=UInt8.lt_iff_toNat_lt
theorem zA0:∀ a b:List UInt8,Go.Lib.compareBytes b a=- Go.Lib.compareBytes a b
 | [],[]=>rfl
 | [],_::_=>rfl
 | _::_,[]=>rfl
 | x::a,y::b=>by
   unfold Go.Lib.compareBytes
   have h1:=zEo x y
   have h2:=zEo y x
   by_cases c1:x < y
   · have c2:¬ y < x:=by rw [h2];rw [h1] at c1;omega
     rw [if_neg c2,if_pos c1,if_pos c1];rfl
   · by_cases c2:y < x
     · rw [if_pos c2,if_neg c1,if_pos c2]
     · rw [if_neg c2,if_neg c1,if_neg c1,if_neg c2];exact zA0 a b
theorem zCX:∀ a b c:List UInt8,Go.Lib.compareBytes a b≤0→Go.Lib.compareBytes b c≤0→Go.Lib.compareBytes a c≤0
 | [],_,[],_,_=>by decide
 | [],_,_::_,_,_=>by show (-1:Int)≤0;decide
 | _::_,[],_,h,_=>by exact absurd (show (1:Int)≤0 from h) (by decide)
 | _::_,_::_,[],_,h=>by exact absurd (show (1:Int)≤0 from h) (by decide)
 | x::a,y::b,z::c,h1,h2=>by
   unfold Go.Lib.compareBytes at h1 h2 ⊢
   have e1:=zEo x y;have e2:=zEo y x;have e3:=zEo y z;have e4:=zEo z y;have e5:=zEo x z;have e6:=zEo z x
   by_cases c5:x < z
   · rw [if_pos c5];decide
   · rw [if_neg c5]
     have d2:¬ y < x:=fun c=>by
      have:¬ x < y:=by rw [e1];rw [e2] at c;omega
      rw [if_neg this,if_pos c] at h1
      exact absurd h1 (by decide)
     have d4:¬ z < y:=fun c=>by
      have:¬ y < z:=by rw [e3];rw [e4] at c;omega
      rw [if_neg this,if_pos c] at h2
      exact absurd h2 (by decide)
     have e:¬ z < x:=by rw [e6];rw [e2] at d2;rw [e4] at d4;omega
     rw [if_neg e]
     have d1:¬ x < y:=by rw [e1];rw [e5] at c5;rw [e2] at d2;rw [e4] at d4;omega
     have d3:¬ y < z:=by rw [e3];rw [e5] at c5;rw [e2] at d2;rw [e4] at d4;omega
     rw [if_neg d1,if_neg d2] at h1
     rw [if_neg d3,if_neg d4] at h2
     exact zCX a b c h1 h2
theorem zFG:∀ a b:List UInt8,Go.Lib.compareBytes a b=0→a=b
 | [],[],_=>rfl
 | [],_::_,h=>by exact absurd (show (-1:Int)=0 from h) (by decide)
 | _::_,[],h=>by exact absurd (show (1:Int)=0 from h) (by decide)
 | x::a,y::b,h=>by
   unfold Go.Lib.compareBytes at h
   have e1:=zEo x y;have e2:=zEo y x
   by_cases c1:x < y
   · rw [if_pos c1] at h;exact absurd h (by decide)
   · rw [if_neg c1] at h
     by_cases c2:y < x
     · rw [if_pos c2] at h;exact absurd h (by decide)
     · rw [if_neg c2] at h
       have:x=y:=Gf.ext (by rw [e1] at c1;rw [e2] at c2;omega)
       rw [this,zFG a b h]
end Go.Mem
namespace Go.Proofs.YtbbojbdigiibbaaGreatDoor
open Go Go.RowKit Go.Mem Gf
theorem zIO (bs:List UInt8):Lib.bytesOf (bs.map fun u=>(u.toNat:Int))=bs:=by
 unfold Lib.bytesOf
 rw [List.map_map]
 conv=>rhs;rw [← List.map_id bs]
 apply List.map_congr_left
 intro u _
 simp
theorem zDr {P:Program} {w:World} {v:Value} {bs:List UInt8} (h:Bys w v bs):(Extern.Bytes.bytesOf v).run P w=.ok ⟨bs.toArray⟩ w:=by
 obtain ⟨a,cap,rfl,h1,h2,h3⟩:=h
 cases a with
 | none =>
   have:bs=[]:=by
    rcases Nat.eq_zero_or_pos bs.length with e | e
    · exact List.eq_nil_of_length_eq_zero e
    · obtain ⟨b,off,e2,_⟩:=h3 e;cases e2
   subst this
   simp [Extern.Bytes.bytesOf]
   rfl
 | some a =>
   have hl:=Lib.run_loadBytesX (P:=P) w (bs.map fun u=>(u.toNat:Int)) a .empty (fun j x hj=>by
    rw [List.getElem?_map] at hj
    obtain ⟨u,hu,rfl⟩:=Option.map_eq_some_iff.1 hj
    have hp:0 < bs.length:=by have:=(List.getElem?_eq_some_iff.1 hu).1;omega
    obtain ⟨b,off,e,hc⟩:=h3 hp
    cases e
    have e2:(⟨b,off,none⟩:Addr).add j=⟨b,off+j,none⟩:=by unfold Addr.add;split <;> simp_all
    rw [e2]
    exact hc j u hu)
   rw [List.length_map,zIO] at hl
   show (Extern.Bytes.loadBytes a bs.length .empty).run P w=_
   rw [hl,show ByteArray.empty.data++bs.toArray=bs.toArray from Array.empty_append ..]
set_option maxRecDepth 100000 in
noncomputable def cmpFn:Func:=(Tryz.prog.funcs[165]?).get (by kernel_rfl)
set_option maxRecDepth 100000 in
theorem zNA:Tryz.prog.funcs[165]?=some cmpFn:=(Option.some_get _).symm
set_option maxRecDepth 100000 in
theorem zF1 (va vb:Value) (xs ys:List UInt8) (w:World) (ha:Bys w va xs) (hb:Bys w vb ys) :
  Calls Tryz.prog 116 #[va,vb] w fun e w'=>e=.returned (.int .i64 (Go.Lib.compareBytes xs ys))∧w'=w:=by
 have h1:=zDr (P:=Tryz.prog) ha
 have h2:=zDr (P:=Tryz.prog) hb
 have hx:(callFunc 165 #[va,vb]).run Tryz.prog w=.ok (.value (.int .i64 (Go.Lib.compareBytes xs ys))) w:=by
  rw [run_callFunc_extern zNA (by kernel_rfl) (by kernel_rfl) (by kernel_rfl) (e:=Extern.BytealgCompare.compare) (by kernel_rfl)]
  change ((do pure (goInt (Extern.BytealgCompare.cmp (← Extern.Bytes.bytesOf va) (← Extern.Bytes.bytesOf vb))):Sem Value).run Tryz.prog w).andThen _=_
  simp only [Sem.run_bind,h1,h2,Sem.run_pure,Result.andThen_ok]
  rw [Lib.cmp_eq]
  rfl
 clear ha hb h1 h2
 go_enter Tryz.func116,Tryz.ntmps116
 go_wp2_with fail
 go_ret
 exact ⟨rfl,rfl⟩
end Go.Proofs.YtbbojbdigiibbaaGreatDoor
end
section
namespace Lea
open Go Go.RowKit Go.Mem Gf
abbrev Sec:=List UInt8 × Int
def zAv (x:Sec):List Value:=bV x.1++[.int .i64 x.2]
def WfL (x:Sec):Prop:=x.1.length=16
theorem ecL:zEb zAv WfL 17:=by
 refine ⟨fun x h=>?_,fun x v hv=>?_,by decide⟩
 · unfold zAv
   rw [List.length_append,zB,h,List.length_singleton]
 · unfold zAv at hv
   rcases List.mem_append.1 hv with hv | hv
   · exact zAH _ v hv
   · rw [List.mem_singleton.1 hv];rfl
theorem zFK {x:Sec} (h:WfL x):(zAv x)[16]?=some (.int .i64 x.2):=by
 unfold zAv
 rw [List.getElem?_append_right (by rw [zB,h];omega),zB,h]
 rfl
theorem zGq {x:Sec} {k:Nat} {u:UInt8} (h:x.1[k]?=some u):(zAv x)[k]?=some (.int .u8 u.toNat):=by
 unfold zAv
 rw [List.getElem?_append_left (by rw [zB];exact (List.getElem?_eq_some_iff.1 h).1)]
 simp [bV,h]
theorem allL {x:Sec} (h:WfL x):zAQ 17 (zAv x):=⟨ecL.len x h,ecL.one x⟩
def ltL (a b:Sec):Bool:=decide (a.2 < b.2) || (decide (a.2=b.2) && decide (Go.Lib.compareBytes a.1 b.1 < 0))
theorem zFo {a b:Sec}:ltL a b=false↔b.2 < a.2∨(a.2=b.2∧0≤Go.Lib.compareBytes a.1 b.1):=by
 unfold ltL
 simp only [Bool.or_eq_false_iff,decide_eq_false_iff_not,Bool.and_eq_false_iff]
 omega
theorem ordL:Srt.Ord ltL:=by
 refine ⟨fun a b h=>?_,fun a b c h1 h2=>?_⟩
 · rw [zFo]
   unfold ltL at h
   simp only [Bool.or_eq_true,decide_eq_true_eq,Bool.and_eq_true] at h
   have:=zA0 a.1 b.1
   omega
 · rw [zFo] at *
   have e1:=zA0 a.1 b.1
   have e2:=zA0 b.1 c.1
   have e3:=zA0 a.1 c.1
   rcases h1 with h1 | h1
   · rcases h2 with h2 | h2 <;> (left;omega)
   · rcases h2 with h2 | h2
     · left;omega
     · right
       have:=zCX a.1 b.1 c.1 (by omega) (by omega)
       omega
theorem zNY {a b:Sec} (h1:ltL a b=false) (h2:ltL b a=false):a=b:=by
 rw [zFo] at *
 have:=zA0 a.1 b.1
 have e:a.2=b.2:=by omega
 have:Go.Lib.compareBytes a.1 b.1=0:=by omega
 exact Prod.ext (zFG _ _ this) e
theorem zIB {α:Type} {R:α→α→Prop} (hanti:∀ a b,R a b→R b a→a=b):∀ (l m:List α),l.Pairwise R→m.Pairwise R→l.Perm m→l=m
 | [],m,_,_,h=>h.nil_eq
 | a::l,[],_,_,h=>by exact absurd h.length_eq (by simp)
 | a::l,b::m,hl,hm,h=>by
   have hl':=List.pairwise_cons.1 hl
   have hm':=List.pairwise_cons.1 hm
   have e:a=b:=by
    rcases List.mem_cons.1 (h.mem_iff.1 (List.mem_cons_self:a∈a::l)) with e | ha
    · exact e
    · rcases List.mem_cons.1 (h.mem_iff.2 (List.mem_cons_self:b∈b::m)) with e | hb
      · exact e.symm
      · exact hanti _ _ (hl'.1 b hb) (hm'.1 a ha)
   subst e
   rw [zIB hanti l m hl'.2 hm'.2 ((List.perm_cons a).1 h)]
end Lea
namespace Go.Proofs.YtbbojbdigiibbaaGreatDoor
open Go Go.RowKit Go.Mem Gf Lea
attribute [local go_sem ↓] Go.wp_at_zero Go.wp_at_succ
theorem i17:(Tryz.prog.info? 165).map (·.size)=some 17:=by kernel_rfl
theorem zBJ (dst:Option Tmp) (x:Operand) (ty:TypeId) (pos:String) (af:Array Edge) (a:Act) (w:World) (K:Act→World→Prop) (Q:Exit→Act→World→Prop)
  (hp:zAz (a.eval x)=true) (ht:zY 17 w (zAM (a.eval x)) (zAN (a.eval x))) :
  Oper.wp Tryz.prog ⟨dst,.load 165 x,ty,pos,af,none⟩ a w K Q=K (a.put dst (.agg (zN 17 w (zAM (a.eval x)) (zAN (a.eval x))).toArray)) w :=
 zKQ Tryz.underlying165 rfl i17 dst x ty pos af a w K Q hp ht
theorem zCJ (dst:Option Tmp) (x y:Operand) (ty:TypeId) (pos:String) (af:Array Edge) (a:Act) (w:World) (K:Act→World→Prop) (Q:Exit→Act→World→Prop)
  (hp:zAz (a.eval x)=true) (hy:zA5 (a.eval y)=true) (ht:zY 17 w (zAM (a.eval x)) (zAN (a.eval x))) (hc:zAQ 17 (zAn (a.eval y))) :
  Oper.wp Tryz.prog ⟨dst,.store 165 x y,ty,pos,af,none⟩ a w K Q=K (a.put dst undef) (w.setCells (zAM (a.eval x)) (zAN (a.eval x)) (zAn (a.eval y))) :=
 zBP i17 dst x y ty pos af a w K Q hp hy ht hc
attribute [local go_sem ↓] zBJ zCJ
attribute [local go_sem] ptrB_eq ptrO_eq ptrIs_eq aggL_eq aggIs_eq
end Go.Proofs.YtbbojbdigiibbaaGreatDoor
end
section
namespace Lea
abbrev Key:=List UInt8
def kOf (x:Les):Key × Key:=(x.ix,x.sec)
def ofL (l:List Les) (ix:Key):List Sec:=(l.filter fun x=>decide (x.ix=ix)).map fun x=>(x.sec,x.e)
def zE8 (l:List Les) (ix sec:Key):Prop:=∀ x∈l,¬ (x.ix=ix∧x.sec=sec)
def May (e:Int):Prop:=1≤e∧e≤1048576
instance (e:Int):Decidable (May e):=by unfold May;infer_instance
structure Good (l:List Les):Prop where
 ends:∀ x∈l,May x.e
 uniq:(l.map kOf).Nodup
 few:∀ ix,(ofL l ix).length≤8
theorem zJp (l:List Les) (ix:Key):(ofL l ix).length=((l.map kOf).filter fun k=>decide (k.1=ix)).length:=by
 unfold ofL
 rw [List.length_map,List.filter_map,List.length_map]
 rfl
theorem zDM {l l':List Les} (h:l'.Perm l) (ix:Key):(ofL l' ix).Perm (ofL l ix):=(h.filter _).map _
theorem Good.perm {l l':List Les} (h:l'.Perm l) (g:Good l):Good l' :=
 ⟨fun x hx=>g.ends x (h.mem_iff.1 hx),(h.map kOf).nodup_iff.2 g.uniq,fun ix=>by rw [(zDM h ix).length_eq];exact g.few ix⟩
theorem Good.nil:Good []:=⟨(fun _ h=>by cases h),List.nodup_nil,(fun _=>by simp [ofL])⟩
theorem Good.sub {l l':List Les} (h:l'.Sublist l) (g:Good l):Good l' :=
 ⟨fun x hx=>g.ends x (h.subset hx),g.uniq.sublist (h.map kOf),fun ix=>Nat.le_trans (by
  unfold ofL
  rw [List.length_map,List.length_map]
  exact (h.filter _).length_le) (g.few ix)⟩
theorem Good.tail {x:Les} {l l':List Les} (h:(x::l').Perm l) (g:Good l):Good l':=(g.perm h).sub (List.sublist_cons_self x l')
theorem zGY (l m:List Les) (ix:Key):ofL (l++m) ix=ofL l ix++ofL m ix:=by unfold ofL;rw [List.filter_append,List.map_append]
theorem Good.push {l:List Les} (g:Good l) (x:Les) (hx:May x.e) (hk:zE8 l x.ix x.sec) (h8:(ofL l x.ix).length < 8):Good (l++[x]):=by
 refine ⟨fun y hy=>?_,?_,fun ix=>?_⟩
 · rcases List.mem_append.1 hy with hy | hy
   · exact g.ends y hy
   · rw [List.mem_singleton.1 hy];exact hx
 · rw [List.map_append,List.nodup_append]
   refine ⟨g.uniq,by simp,fun a ha b hb=>?_⟩
   obtain ⟨y,hy,rfl⟩:=List.mem_map.1 ha
   simp at hb
   subst hb
   intro e
   exact hk y hy ⟨congrArg Prod.fst e,congrArg Prod.snd e⟩
 · rw [zGY,List.length_append]
   by_cases c:x.ix=ix
   · subst c
     have:(ofL [x] x.ix).length≤1:=by unfold ofL;rw [List.length_map];exact List.length_filter_le _ [x]
     omega
   · have:(ofL [x] ix)=[]:=by simp [ofL,c]
     rw [this]
     have:=g.few ix
     simpa using this
theorem zF9 {l:List Les} {k:Nat} {x y:Les} (hx:l[k]?=some x) (hy:kOf y=kOf x):(l.set k y).map kOf=l.map kOf:=by
 rw [List.map_set]
 apply List.ext_getElem?
 intro j
 by_cases c:k=j
 · subst c
   have hk:=Go.Mem.zq hx
   rw [List.getElem?_set_self (by simpa using hk),List.getElem?_map,hx,hy];rfl
 · rw [List.getElem?_set_ne c]
theorem Good.set {l:List Les} (g:Good l) {k:Nat} {x y:Les} (hx:l[k]?=some x) (hy:kOf y=kOf x) (he:May y.e):Good (l.set k y):=by
 refine ⟨fun z hz=>?_,by rw [zF9 hx hy];exact g.uniq,fun ix=>by rw [zJp,zF9 hx hy,← zJp];exact g.few ix⟩
 rcases List.mem_or_eq_of_mem_set hz with hz | rfl
 · exact g.ends z hz
 · exact he
inductive zBK (l:List Les) (ix sec:Key) (e:Int):Bool→List Les→Prop
 | no (h:¬ May e∨(zE8 l ix sec∧8≤(ofL l ix).length)):zBK l ix sec e false l
 | more (k:Nat) (x:Les) (l':List Les) (he:May e) (hx:l[k]?=some x) (h1:x.ix=ix) (h2:x.sec=sec) (hp:l'.Perm (l.set k ⟨ix,sec,max x.e e⟩)):zBK l ix sec e true l'
 | new (l':List Les) (he:May e) (hk:zE8 l ix sec) (h8:(ofL l ix).length < 8) (hp:l'.Perm (l++[⟨ix,sec,e⟩])):zBK l ix sec e true l'
theorem zBK.good {l l':List Les} {ix sec:Key} {e:Int} {b:Bool} (h:zBK l ix sec e b l') (g:Good l):Good l':=by
 cases h with
 | no h=>exact g
 | more k x l' he hx h1 h2 hp =>
   have hm:=g.ends x (List.mem_of_getElem? hx)
   refine (g.set hx (y:=⟨ix,sec,max x.e e⟩) (by unfold kOf;rw [h1,h2]) ?_).perm hp
   unfold May at *
   simp only
   omega
 | new l' he hk h8 hp=>exact (g.push ⟨ix,sec,e⟩ he hk h8).perm hp
theorem zBK.len {l l':List Les} {ix sec:Key} {e:Int} {b:Bool} (h:zBK l ix sec e b l'):l'.length≤l.length+1:=by
 cases h with
 | no h=>omega
 | more k x l' he hx h1 h2 hp=>rw [hp.length_eq,List.length_set];omega
 | new l' he hk h8 hp=>rw [hp.length_eq];simp
def FindR (l:List Les) (ix sec:Key) (r:Int):Prop:=(r=-1∧zE8 l ix sec)∨∃ (k:Nat) (x:Les),r=k∧l[k]?=some x∧x.ix=ix∧x.sec=sec
inductive CancelR (l:List Les) (ix sec:Key):Bool→List Les→Prop
 | no (h:zE8 l ix sec):CancelR l ix sec false l
 | gone (x:Les) (l':List Les) (h1:x.ix=ix) (h2:x.sec=sec) (hp:(x::l').Perm l):CancelR l ix sec true l'
theorem CancelR.good {l l':List Les} {ix sec:Key} {b:Bool} (h:CancelR l ix sec b l') (g:Good l):Good l':=by
 cases h with
 | no h=>exact g
 | gone x l' h1 h2 hp=>exact g.tail hp
structure OfR (l:List Les) (ix:Key) (out:List Sec):Prop where
 perm:out.Perm (ofL l ix)
 up:out.Pairwise fun a b=>ltL b a=false
theorem OfR.eq {l l':List Les} {ix:Key} {a b:List Sec} (ha:OfR l ix a) (hb:OfR l' ix b) (h:l.Perm l'):a=b :=
 zIB (fun _ _ h1 h2=>zNY h2 h1) a b ha.up hb.up (ha.perm.trans ((zDM h ix).trans hb.perm.symm))
theorem zBs {l:List Les} {ix:Key} {s:Sec}:s∈ofL l ix↔∃ x∈l,x.ix=ix∧(x.sec,x.e)=s:=by
 unfold ofL
 constructor
 · intro h
   obtain ⟨x,hx,e⟩:=List.mem_map.1 h
   have:=List.mem_filter.1 hx
   exact ⟨x,this.1,by simpa using this.2,e⟩
 · rintro ⟨x,hx,e,e2⟩
   exact List.mem_map.2 ⟨x,List.mem_filter.2 ⟨hx,by simpa using e⟩,e2⟩
theorem zFT {l:List Les} {ix:Key}:ofL l ix=[]↔∀ x∈l,x.ix≠ix:=by
 constructor
 · intro h x hx e
   have:(x.sec,x.e)∈ofL l ix:=zBs.2 ⟨x,hx,e,rfl⟩
   rw [h] at this
   cases this
 · intro h
   rw [List.eq_nil_iff_forall_not_mem]
   intro s hs
   obtain ⟨x,hx,e,_⟩:=zBs.1 hs
   exact h x hx e
def left (l:List Les) (now:Int):List Les:=l.filter fun x=>decide (now < x.e)
structure zGb (l:List Les) (now:Int) (l':List Les) (R:List Key):Prop where
 perm:l'.Perm (left l now)
 up:R.Pairwise fun a b=>Go.Lib.compareBytes a b < 0
 mem:∀ k,k∈R↔(∃ x∈l,x.ix=k∧x.e≤now)∧∀ x∈l',x.ix≠k
end Lea
end
section
namespace Go.Mem
open Go Go.RowKit Gf
section
variable {w:World}
theorem zS (n:Nat) (w:World) (g o:Nat):zN n w.drew g o=zN n w g o:=rfl
theorem ze (n:Nat) (w:World) (g o:Nat):zY n w.drew g o=zY n w g o:=rfl
theorem zV (w:World) (g:Nat):∀ (cs:List Value) (o:Nat),w.drew.setCells g o cs=(w.setCells g o cs).drew:=fun cs o=>by
 induction cs generalizing o w with
 | nil=>rfl
 | cons v vs ih=>exact ih (w.setCell ⟨g,o,none⟩ v) (o+1)
theorem zC (o':Obj) (n g o:Nat) (hn:g < w.heap.size):zN n (w.alloc o') g o=zN n w g o:=by
 unfold zN
 apply List.map_congr_left
 intro k _
 rw [World.cell?_alloc_past _ _ _ hn]
theorem zF (o':Obj) (n g o:Nat) (hn:g < w.heap.size):zY n (w.alloc o') g o=zY n w g o:=by
 unfold zY World.there
 apply propext
 constructor
 · intro h j hj
   have:=h j hj
   rw [World.cell?_alloc_past _ _ _ hn,World.frozen?_alloc_past _ _ _ hn] at this
   exact this
 · intro h j hj
   rw [World.cell?_alloc_past _ _ _ hn,World.frozen?_alloc_past _ _ _ hn]
   exact h j hj
def zCi (c:Array Value) (o n:Nat):List Value:=(c.toList.drop o).take n
theorem zX (c:Array Value) (t:TypeId) (n g o:Nat) (hn:g=w.heap.size) (hc:o+n≤c.size):zN n (w.alloc (.cells c t)) g o=zCi c o n:=by
 subst hn
 have hb:=Blk.new w c t
 unfold zCi
 have hl:((c.toList.drop o).take n).length=n:=by
  rw [List.length_take,List.length_drop,Array.length_toList];omega
 refine zA3 (fun k v hv=>?_) hl
 have hk:k < n:=by have:=zq hv;omega
 rw [hb.cell]
 rw [List.getElem?_take,if_pos hk,List.getElem?_drop,Array.getElem?_toList] at hv
 exact hv
theorem zZ (c:Array Value) (t:TypeId) (n g o:Nat) (hn:g=w.heap.size) (hc:o+n≤c.size):zY n (w.alloc (.cells c t)) g o:=by
 subst hn
 intro j hj
 have hb:=Blk.new w c t
 exact ⟨by rw [hb.cell];simp;omega,hb.free _⟩
theorem zCB (c:Array Value) (t:TypeId) (n g:Nat) (hn:g=w.heap.size) (hc:n≤c.size):zY n (w.alloc (.cells c t)) g 0:=by
 subst hn
 intro j hj
 have hb:=Blk.new w c t
 exact ⟨by rw [hb.cell];simp;omega,hb.free _⟩
theorem zH (o':Obj) (n:Nat) (hn:n < w.heap.size) (cs:List Value) (o:Nat):(w.alloc o').setCells n o cs=(w.setCells n o cs).alloc o':=by
 induction cs generalizing o w with
 | nil=>rfl
 | cons v vs ih =>
   show ((w.alloc o').setCell ⟨n,o,none⟩ v).setCells n (o+1) vs=_
   rw [World.setCell_alloc_past _ _ _ _ hn]
   exact ih (by simpa using hn) (o+1)
theorem zEd (c:Array Value) (t:TypeId) (n:Nat) (hn:n=w.heap.size) (cs:List Value) (o:Nat):∃ c':Array Value,(w.alloc (.cells c t)).setCells n o cs=w.alloc (.cells c' t):=by
 induction cs generalizing o c with
 | nil=>exact ⟨c,rfl⟩
 | cons v vs ih =>
   show ∃ c':Array Value,((w.alloc (.cells c t)).setCell ⟨n,o,none⟩ v).setCells n (o+1) vs=_
   rw [World.setCell_alloc_at _ _ _ _ _ hn]
   exact ih _ (o+1)
theorem zJ (c:Array Value) (t:TypeId) (n:Nat) (cs:List Value) (hn:n=w.heap.size) (hc:c.size=cs.length):(w.alloc (.cells c t)).setCells n 0 cs=w.alloc (.cells cs.toArray t):=by
 subst hn
 obtain ⟨c',e⟩:=zEd c t w.heap.size rfl cs 0
 obtain ⟨arr,h1,h2,h3⟩:=Blk.setCells cs 0 _ _ (Blk.new w c t)
 rw [e] at h1 ⊢
 have h4:=Blk.new w c' t
 have e2:c'=arr:=by
  unfold Blk at h1 h4
  rw [h1] at h4
  simpa using h4.symm
 have e3:arr=cs.toArray:=by
  apply Array.ext_getElem?
  intro k
  rcases Nat.lt_or_ge k c.size with hk | hk
  · rw [h3 k hk,if_pos ⟨Nat.zero_le _,by omega⟩,Nat.sub_zero];simp
  · rw [Array.getElem?_eq_none (by omega),Array.getElem?_eq_none (by simp;omega)]
 rw [e2,e3]
end
theorem zJ1 {P:Program} {n:Nat} {t:TypeId} {d:TypeDesc} (hu:P.underlying t=some d) (hd:d.isRow=true) (hi:(P.info? t).map (·.size)=some n) (dst:Option Tmp) (x:Operand) (ty:TypeId) (pos:String) (af:Array Edge) (gd:Option (Tmp × Bool)) (a:Act) (W:World) (K:Act→Prop)
  (hp:zAz (a.eval x)=true) (ht:zY n W (zAM (a.eval x)) (zAN (a.eval x))) :
  Oper.quiet P ⟨dst,.load t x,ty,pos,af,gd⟩ a (fun w'=>∃ n,w'=W.drewN n) K=K (a.put dst (.agg (zN n W (zAM (a.eval x)) (zAN (a.eval x))).toArray)):=by
 have e:=zG9 hp
 have hl:∀ w',(∃ n,w'=W.drewN n)→∀ v,Oper.quietAt P ⟨dst,.load t x,ty,pos,af,gd⟩ a (fun w'=>∃ n,w'=W.drewN n) w' v↔.agg (zN n W (zAM (a.eval x)) (zAN (a.eval x))).toArray=v:=fun w' ⟨m,hm⟩ v=>by
  subst hm
  have hr:=run_loadVar_mid (P:=P) (W.drewN m) (zAM (a.eval x)) (zAN (a.eval x)) t (zN n W (zAM (a.eval x)) (zAN (a.eval x))) d (zAB ht) hu hd (by rw [hi,zCZ])
  unfold Oper.quietAt execOp
  simp only
  rw [e]
  simp only [ptrB_eq,ptrO_eq,Instr.loadAt,Instr.sureAddr,Sem.run_bind,Sem.run_pure,Result.andThen_ok,hr,Oper.quietUpon,true_and]
 unfold Oper.quiet
 apply propext
 constructor
 · rintro ⟨v,h1,h2⟩
   rw [(hl W ⟨0,rfl⟩ v).1 (h1 W ⟨0,rfl⟩)]
   exact h2
 · intro h
   exact ⟨_,fun w hw=>(hl w hw _).2 rfl,h⟩
theorem zEK {P:Program} {n:Nat} {t:TypeId} {d:TypeDesc} (hu:P.underlying t=some d) (hd:d.isRow=true) (hi:(P.info? t).map (·.size)=some n) (dst:Option Tmp) (x:Operand) (ty:TypeId) (pos:String) (af:Array Edge) (gd:Option (Tmp × Bool)) (a:Act) (w:World) (K:Act→World→Prop) (Q:Exit→Act→World→Prop)
  (hp:zAz (a.eval x)=true) (ht:zY n w (zAM (a.eval x)) (zAN (a.eval x))) :
  Oper.wp P ⟨dst,.load t x,ty,pos,af,gd⟩ a w K Q=K (a.put dst (.agg (zN n w (zAM (a.eval x)) (zAN (a.eval x))).toArray)) w:=by
 unfold Oper.wp execOp
 have e:=zG9 hp
 have hl:=run_loadVar_mid (P:=P) w (zAM (a.eval x)) (zAN (a.eval x)) t (zN n w (zAM (a.eval x)) (zAN (a.eval x))) d (zAB ht) hu hd (by rw [hi,zCZ])
 simp only
 rw [e]
 simp only [ptrB_eq,ptrO_eq,Instr.loadAt,Instr.sureAddr,Sem.run_bind,Sem.run_pure,Result.andThen_ok,hl]
 rfl
end Go.Mem
end
section
namespace Go.Proofs.YtbbojbdigiibbaaGreatDoor
open Go Go.RowKit Go.Mem Gf Lea
theorem i16:(Tryz.prog.info? 39).map (·.size)=some 16:=by kernel_rfl
theorem zAK (dst:Option Tmp) (x:Operand) (ty:TypeId) (pos:String) (af:Array Edge) (gd:Option (Tmp × Bool)) (a:Act) (w:World) (K:Act→World→Prop) (Q:Exit→Act→World→Prop)
  (hp:zAz (a.eval x)=true) (ht:zY 16 w (zAM (a.eval x)) (zAN (a.eval x))) :
  Oper.wp Tryz.prog ⟨dst,.load 39 x,ty,pos,af,gd⟩ a w K Q=K (a.put dst (.agg (zN 16 w (zAM (a.eval x)) (zAN (a.eval x))).toArray)) w :=
 zEK Tryz.underlying39 rfl i16 dst x ty pos af gd a w K Q hp ht
theorem zGr (xs ys:List UInt8) (hx:xs.length=16) (hy:ys.length=16) (w:World):(Op.equalIn 10000 39 (.agg (bV xs).toArray) (.agg (bV ys).toArray)).run Tryz.prog w=.ok (decide (xs=ys)) w :=
 zFX (P:=Tryz.prog) w 9998 16 Tryz.underlying39 (Option.some_get (by kernel_rfl)).symm (by kernel_rfl) (by kernel_rfl) xs ys hx hy
theorem zGX {x:Les} (h:Wf x):zCi (zi x).toArray 0 16=bV x.ix∧zCi (zi x).toArray 16 16=bV x.sec:=by
 have h1:(bV x.ix).length=16:=by rw [zB];exact h.1
 have h2:(bV x.sec).length=16:=by rw [zB];exact h.2
 unfold zCi zi
 constructor
 · simp [h1]
 · rw [List.toList_toArray,List.append_assoc,List.drop_append_of_le_length (by omega),List.drop_of_length_le (by omega),List.nil_append,List.take_append_of_le_length (by omega),List.take_of_length_le (by omega)]
theorem _root_.Lea.Row.below {ti:TypeId} {w w':World} {base g n cap:Nat} {l:List Les} (h:Row ti w base g n cap l) (hb:Below w.heap.size w w'):Row ti w' base g n cap l:=⟨zAg (S:=fun _=>False) h.own (Chg.of_below hb) (fun _ _ h=>h),h.len,h.wf⟩
theorem _root_.Lea.Row.lt {ti:TypeId} {w:World} {base g n cap:Nat} {l:List Les} (h:Row ti w base g n cap l):g < w.heap.size:=by
 obtain ⟨cur,hh,_⟩:=h.block
 exact lt_of_block hh
theorem LTab.row {w:World} {tb g n cap:Nat} {v:Value} {l:List Les} (h:LTab w tb v l) (hn:l.length=n) (hv:v=.slice (some ⟨g,0,none⟩) n cap):Row 175 w 0 g n cap l:=by
 subst hv
 exact h.theRow hn
theorem zK1 {l:List Les} {i:Nat} {x:Les} {ix sec:Key} (h:zE8 (l.take i) ix sec) (hx:l[i]?=some x) (hn:¬ (x.ix=ix∧x.sec=sec)):zE8 (l.take (i+1)) ix sec:=by
 intro y hy
 rw [List.take_add_one,hx] at hy
 rcases List.mem_append.1 hy with hy | hy
 · exact h y hy
 · simp at hy
   rw [hy];exact hn
attribute [local go_sem ↓] Go.wp_at_zero Go.wp_at_succ
attribute [local go_sem ↓] zAK zBL zBA
attribute [local go_sem] ptrB_eq ptrO_eq ptrIs_eq aggL_eq aggIs_eq zS ze zC zF zX zZ zV zH zJ
set_option maxRecDepth 100000 in
set_option maxHeartbeats 1000000 in
theorem zGs (w:World) (tb:Nat) (v:Value) (l:List Les) (ix sec:Key) (h:LTab w tb v l) (hl:l.length≤100000) (hix:ix.length=16) (hsec:sec.length=16) :
  Calls Tryz.prog 100 #[.pointer (some ⟨tb,0,none⟩),.agg (bV ix).toArray,.agg (bV sec).toArray] w fun e w'=>∃ r,e=.returned (.int .i64 r)∧FindR l ix sec r∧Below w.heap.size w w':=by
 have hcell:w.cell? ⟨tb,0,none⟩=some v:=by simpa using h.cell.cell 0
 have htb:=h.cell.lt
 have htb1:tb < w.heap.size+1:=by omega
 obtain ⟨a0,c0,hv,hg⟩:=zAE h.own
 obtain ⟨n,hn⟩:∃ n,n=l.length:=⟨_,rfl⟩
 rw [← hn] at hl
 have H:=Lib.hid (And.intro h (And.intro hn (And.intro hv hg)))
 rw [hv,← hn] at hcell
 clear h hn hv hg
 go_enter Tryz.func100,Tryz.ntmps100
 go_upto_region 2 with fail
 have hB0:Below w.heap.size w ((w.alloc (.cells (bV ix).toArray 39)).alloc (.cells (bV sec).toArray 39)):=((Below.refl _ _).alloc (Nat.le_refl _) _).alloc (by simp) _
 have hk1:Blk ((w.alloc (.cells (bV ix).toArray 39)).alloc (.cells (bV sec).toArray 39)) w.heap.size (bV ix).toArray 39:=(Blk.new _ _ _).alloc _
 have hk2:Blk ((w.alloc (.cells (bV ix).toArray 39)).alloc (.cells (bV sec).toArray 39)) (w.heap.size+1) (bV sec).toArray 39:=Blk.new_at _ _ _ _ (by simp)
 obtain ⟨w0,hw0⟩:∃ x,x=(w.alloc (.cells (bV ix).toArray 39)).alloc (.cells (bV sec).toArray 39):=⟨_,rfl⟩
 rw [← hw0] at hB0 hk1 hk2 ⊢
 clear hw0
 obtain ⟨p4,hp4⟩:∃ p,p=w.heap.size:=⟨_,rfl⟩
 obtain ⟨p5,hp5⟩:∃ p,p=w.heap.size+1:=⟨_,rfl⟩
 rw [← hp5] at hk2 ⊢
 rw [← hp4] at hk1 ⊢
 have HB0:=Lib.hid hB0
 clear hp4 hp5 hB0
 go_loopw [14] (fun vi wr=>∃ i:Nat,i≤n∧vi=.int .i64 i∧Hid (zE8 (l.take i) ix sec∧Blk wr p4 (bV ix).toArray 39∧Blk wr p5 (bV sec).toArray 39∧Below w.heap.size w wr)) (fun vi _=>n - (intOf vi).toNat)
 case atStart=>exact ⟨0,Nat.zero_le _,rfl,fun x hx=>by simp at hx,hk1,hk2,HB0.out⟩
 case round =>
  obtain ⟨i,hi0,rfl,G⟩:=hrel
  by_cases hin:i < n
  · obtain ⟨g,rfl⟩:=H.out.2.2.2 (by have:=H.out.2.1;omega)
    have hrow:=(H.out.1.row H.out.2.1.symm (by rw [H.out.2.1];exact H.out.2.2.1)).below G.out.2.2.2
    have hx:l[i]?=some (l[i]'(by have:=H.out.2.1;omega)):=by simp
    generalize l[i]'(by have:=H.out.2.1;omega)=x at hx
    have hwx:=hrow.wf x (List.mem_of_getElem? hx)
    have rx:zN 33 wr g (i*33)=zi x:=zA3 (hrow.range hx) (zAL hwx)
    have t1:zY 33 wr g (i*33):=hrow.there hin
    have ax:=zBa hwx
    have lx:=zAL hwx
    have k1:=(zGX hwx).1
    have k2:=(zGX hwx).2
    have gl:g < wr.heap.size:=hrow.lt
    have r4:zN 16 wr p4 0=bV ix:=zP G.out.2.1 (by rw [zB,hix])
    have r5:zN 16 wr p5 0=bV sec:=zP G.out.2.2.1 (by rw [zB,hsec])
    have h4:zY 16 wr p4 0:=zL G.out.2.1 (by simp [zB,hix])
    have h5:zY 16 wr p5 0:=zL G.out.2.2.1 (by simp [zB,hsec])
    have l4:=G.out.2.1.lt
    have l5:=G.out.2.2.1.lt
    have e1:=zGr x.ix ix hwx.1 hix
    have e2:=zGr x.sec sec hwx.2 hsec
    have i0:(0:Int)≤(i:Int):=by omega
    have i1:(i:Int) < (n:Int):=by omega
    have HX:=Lib.hid hx
    obtain ⟨cx,hcx⟩:∃ c,c=zi x:=⟨_,rfl⟩
    rw [← hcx] at rx ax lx k1 k2
    clear hrow hx hcx
    have hend:Below w.heap.size w (wr.alloc (.cells cx.toArray 175)):=G.out.2.2.2.alloc (G.out.2.2.2.size) _
    have HE:=Lib.hid hend
    have hmore:¬ (x.ix=ix∧x.sec=sec)→zE8 (l.take (i+1)) ix sec:=fun hn=>zK1 G.out.1 HX.out hn
    clear hend
    by_cases c1:x.ix=ix
    · have d1:decide (x.ix=ix)=true:=by simpa using c1
      replace c1:=Lib.hid c1
      by_cases c2:x.sec=sec
      · have d2:decide (x.sec=sec)=true:=by simpa using c2
        replace c2:=Lib.hid c2
        go_wp2_with fail
        go_ret
        exact ⟨i,rfl,.inr ⟨i,x,rfl,HX.out,c1.out,c2.out⟩,HE.out⟩
      · have d2:decide (x.sec=sec)=false:=by simpa using c2
        have hm:=Lib.hid (hmore fun h=>c2 h.2)
        clear c2 hmore
        go_wp2_with fail
        exact ⟨⟨i+1,by omega,by simp,hm.out,G.out.2.1.alloc _,G.out.2.2.1.alloc _,HE.out⟩,by show n - ((i:Int)+1).toNat < n - (i:Int).toNat;omega⟩
    · have d1:decide (x.ix=ix)=false:=by simpa using c1
      have hm:=Lib.hid (hmore fun h=>c1 h.1)
      clear c1 hmore
      go_wp2_with fail
      exact ⟨⟨i+1,by omega,by simp,hm.out,G.out.2.1.alloc _,G.out.2.2.1.alloc _,HE.out⟩,by show n - ((i:Int)+1).toNat < n - (i:Int).toNat;omega⟩
  · go_wp2_with fail
    go_ret
    refine ⟨-1,rfl,.inl ⟨rfl,?_⟩,G.out.2.2.2⟩
    have:=G.out.1
    rwa [List.take_of_length_le (by have:=H.out.2.1;omega)] at this
end Go.Proofs.YtbbojbdigiibbaaGreatDoor
end
