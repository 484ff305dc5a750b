/- Texts of this proof,packed: LeaHeap,LeaUp,LeaDown,LeaPush,LeaPop,LeaRemove,SortMath,SortIns,zAt,Keys. -/
import Derived.Test.YtbbojbdigiibbaaGreatDoorPb06
import Derived.Deep.RegionHeld3
import Derived.Handy
import Derived.Test.YtbbojbdigiibbaaGreatDoorPb02
import Derived.Lib.Hide
import Derived.Test.YtbbojbdigiibbaaGreatDoorPb00
import Derived.ChangeKeysEq
import Derived.Lib.BytesEntry
import Derived.Lib.Bytealg
section
namespace Go.Proofs.YtbbojbdigiibbaaGreatDoor
open Go Go.RowKit Go.Mem Gf Lea
attribute [local go_sem ↓] Go.wp_at_zero Go.wp_at_succ
set_option maxRecDepth 100000 in
theorem zCz (a:Option Addr) (n cap:Nat) (w:World):Calls Tryz.prog 274 #[.slice a n cap] w fun e w'=>e=.returned (.int .i64 n)∧w=w':=by
 go_enter Tryz.func274,Tryz.ntmps274
 go_wp2
 go_ret
 exact ⟨rfl,rfl⟩
set_option maxRecDepth 100000 in
theorem zCW (base g n cap:Nat) (l:List Les) (i j:Nat) (x y:Les) (w:World) (h:Row 175 w base g n cap l) (hx:l[i]?=some x) (hy:l[j]?=some y) :
  Calls Tryz.prog 275 #[.slice (some ⟨g,0,none⟩) n cap,.int .i64 i,.int .i64 j] w fun e w'=>e=.returned (.bool (decide (x.e < y.e)))∧∃ d,w'=w.drewN d:=by
 have hi:i < n:=by
  rw [h.len]
  rcases Nat.lt_or_ge i l.length with h | h
  · exact h
  · rw [List.getElem?_eq_none h] at hx;cases hx
 have hj:j < n:=by
  rw [h.len]
  rcases Nat.lt_or_ge j l.length with h | h
  · exact h
  · rw [List.getElem?_eq_none h] at hy;cases hy
 have c1:=h.ends hx
 have c2:=h.ends hy
 have i0:(0:Int)≤(i:Int):=by omega
 have i1:(i:Int) < (n:Int):=by omega
 have j0:(0:Int)≤(j:Int):=by omega
 have j1:(j:Int) < (n:Int):=by omega
 clear h hx hy
 go_enter Tryz.func275,Tryz.ntmps275
 go_wp2_with fail
 go_quiet (fail)
 go_wp2
 go_ret
 exact ⟨rfl,_,rfl⟩
theorem i33:(Tryz.prog.info? 175).map (·.size)=some 33:=by kernel_rfl
theorem zBb (dst:Option Tmp) (x:Operand) (ty:TypeId) (pos:String) (af:Array Edge) (a:Act) (w:World) (K:Act→World→Prop) (Q:Exit→Act→World→Prop)
  (hp:zAs (a.eval x)=true) (ht:zW 33 w (zAB (a.eval x)) (zAC (a.eval x))) :
  Oper.wp Tryz.prog ⟨dst,.load 175 x,ty,pos,af,none⟩ a w K Q=K (a.put dst (.agg (zN 33 w (zAB (a.eval x)) (zAC (a.eval x))).toArray)) w :=
 zKu Tryz.underlying175 rfl i33 dst x ty pos af a w K Q hp ht
theorem zBI (dst:Option Tmp) (x y:Operand) (ty:TypeId) (pos:String) (af:Array Edge) (a:Act) (w:World) (K:Act→World→Prop) (Q:Exit→Act→World→Prop)
  (hp:zAs (a.eval x)=true) (hy:zBD (a.eval y)=true) (ht:zW 33 w (zAB (a.eval x)) (zAC (a.eval x))) (hc:zAP 33 (zAi (a.eval y))) :
  Oper.wp Tryz.prog ⟨dst,.store 175 x y,ty,pos,af,none⟩ a w K Q=K (a.put dst undef) (w.setCells (zAB (a.eval x)) (zAC (a.eval x)) (zAi (a.eval y))) :=
 zBN i33 dst x y ty pos af a w K Q hp hy ht hc
attribute [local go_sem ↓] zBb zBI
attribute [local go_sem] ptrB_eq ptrO_eq ptrIs_eq aggL_eq aggIs_eq
theorem zBq {x:Les} (h:Wf x):zAP 33 (zq x):=⟨zAR h,zFD x⟩
set_option maxRecDepth 100000 in
set_option maxHeartbeats 1000000 in
theorem zBx (base g n cap:Nat) (l:List Les) (i j:Nat) (x y:Les) (w:World) (h:Row 175 w base g n cap l) (hx:l[i]?=some x) (hy:l[j]?=some y) :
  Calls Tryz.prog 276 #[.slice (some ⟨g,0,none⟩) n cap,.int .i64 i,.int .i64 j] w fun e w'=>e=.returned (.tuple #[])∧Row 175 w' base g n cap (swap l i j)∧Chg (fun b=>b=g) w w':=by
 have hi:i < n:=by
  rw [h.len]
  rcases Nat.lt_or_ge i l.length with h | h
  · exact h
  · rw [List.getElem?_eq_none h] at hx;cases hx
 have hj:j < n:=by
  rw [h.len]
  rcases Nat.lt_or_ge j l.length with h | h
  · exact h
  · rw [List.getElem?_eq_none h] at hy;cases hy
 have hwx:=h.wf x (List.mem_of_getElem? hx)
 have hwy:=h.wf y (List.mem_of_getElem? hy)
 have i0:(0:Int)≤(i:Int):=by omega
 have i1:(i:Int) < (n:Int):=by omega
 have j0:(0:Int)≤(j:Int):=by omega
 have j1:(j:Int) < (n:Int):=by omega
 obtain ⟨wd,hwd⟩:∃ wd,wd=w.drew:=⟨_,rfl⟩
 have h0:Row 175 wd base g n cap l:=by rw [hwd];exact h.drew
 have rx:zN 33 w.drew g (i*33)=zq x:=zA3 (h.drew.range hx) (zAR hwx)
 have ry:zN 33 w.drew g (j*33)=zq y:=zA3 (h.drew.range hy) (zAR hwy)
 have t1:zW 33 w.drew g (i*33):=h.drew.there hi
 have t1':zW 33 w.drew g (j*33):=h.drew.there hj
 have h1:=h.drew.set hi hwy
 have ax:=zBq hwx
 have ay:=zBq hwy
 have h2:=Zh (h1.set hj hwx)
 have hsw:swap l i j=(l.set i y).set j x:=by unfold swap;rw [hx,hy]
 have hc:Chg (fun b=>b=g) w ((w.drew.setCells g (i*33) (zq y)).setCells g (j*33) (zq x)):=Chg.setCells (S:=fun b=>b=g) (L:=g) rfl _ _ _ (Chg.setCells (S:=fun b=>b=g) (L:=g) rfl _ _ _ (Chg.drew (Chg.refl _ _)))
 have HC:=Zh hc;have HSW:=Zh hsw
 obtain ⟨cx,hcx⟩:∃ c,c=zq x:=⟨_,rfl⟩
 obtain ⟨cy,hcy⟩:∃ c,c=zq y:=⟨_,rfl⟩
 have t2:zW 33 (w.drew.setCells g (i*33) cy) g (j*33):=by rw [hcy];exact h1.there hj
 have ex:zq x=cx:=hcx.symm
 have ey:zq y=cy:=hcy.symm
 rw [← hcx] at rx ax
 rw [← hcy] at ry ay
 rw [ex,ey] at h2 HC
 clear h h1 hx hy hwx hwy hc hsw hcx hcy ex ey h0 hwd
 go_enter Tryz.func276,Tryz.ntmps276
 go_wp2_with fail
 go_region
 all_goals
  go_wp2
  go_end0
  rw [HSW.o]
  exact ⟨rfl,h2.o,HC.o⟩
structure LTab (w:World) (tb:Nat) (v:Value) (l:List Les):Prop where
 cell:Blk w tb #[v] 156
 own:w.ownsRow 0 175 33 v l.length (zAg l)
 wf:∀ x∈l,Wf x
 apart:v.ownBlock≠some tb
theorem LTab.ex {w:World} {tb:Nat} {v:Value} {l:List Les} (h:LTab w tb v l) (h0:0 < l.length):∃ g cap,v=.slice (some ⟨g,0,none⟩) l.length cap∧Row 175 w 0 g l.length cap l:=by
 rcases h.own.2 with ⟨e,e2⟩ | ⟨g,cap,cur,e,hr⟩
 · exact absurd e2 (by simp at e2;omega)
 · exact ⟨g,cap,e,⟨by rw [← e];exact h.own,rfl,h.wf⟩⟩
end Go.Proofs.YtbbojbdigiibbaaGreatDoor
end
section
namespace Go.Proofs.YtbbojbdigiibbaaGreatDoor
open Go Go.RowKit Go.Mem Gf Lea
attribute [local go_sem ↓] Go.wp_at_zero Go.wp_at_succ
def hv (tb:Nat):Value:=.iface 177 (.pointer (some ⟨tb,0,none⟩))
theorem zDa (n : Nat) (tb : Nat) (w : World) : (method (n + 1) 177 (.pointer (some ⟨tb, 0, none⟩)) "Less").run Tryz.prog w = (loadVar 154 ⟨tb, 0, none⟩ >>= fun v => pure (275, v)).run Tryz.prog w := by kernel_rfl
theorem zDc (n : Nat) (tb : Nat) (w : World) : (method (n + 1) 177 (.pointer (some ⟨tb, 0, none⟩)) "Swap").run Tryz.prog w = (loadVar 154 ⟨tb, 0, none⟩ >>= fun v => pure (276, v)).run Tryz.prog w := by kernel_rfl
theorem zEP (n : Nat) (tb : Nat) (w : World) : (method (n + 1) 177 (.pointer (some ⟨tb, 0, none⟩)) "Len").run Tryz.prog w = (loadVar 154 ⟨tb, 0, none⟩ >>= fun v => pure (274, v)).run Tryz.prog w := by kernel_rfl
theorem zDb (n : Nat) (tb : Nat) (w : World) : (method (n + 1) 177 (.pointer (some ⟨tb, 0, none⟩)) "Push").run Tryz.prog w = .ok (278, .pointer (some ⟨tb, 0, none⟩)) w := by kernel_rfl
theorem zEQ (n : Nat) (tb : Nat) (w : World) : (method (n + 1) 177 (.pointer (some ⟨tb, 0, none⟩)) "Pop").run Tryz.prog w = .ok (277, .pointer (some ⟨tb, 0, none⟩)) w := by kernel_rfl
attribute [local go_sem] zDa zDc zEP zDb zEQ
theorem LTab.drewN {w:World} {tb:Nat} {v:Value} {l:List Les} (h:LTab w tb v l) (d:Nat):LTab (w.drewN d) tb v l:=⟨h.cell,h.own,h.wf,h.apart⟩
theorem LTab.theRow {w:World} {tb g n cap:Nat} {l:List Les} (h:LTab w tb (.slice (some ⟨g,0,none⟩) n cap) l) (hn:l.length=n):Row 175 w 0 g n cap l:=by
 subst hn
 exact ⟨h.own,rfl,h.wf⟩
theorem LTab.row' {w w':World} {tb g n cap:Nat} {l l':List Les} (h:LTab w tb (.slice (some ⟨g,0,none⟩) n cap) l) (_:l.length=n) (hr:Row 175 w' 0 g n cap l') (hc:Chg (fun b=>b=g) w w'):LTab w' tb (.slice (some ⟨g,0,none⟩) n cap) l':=by
 have hl:=hr.len
 refine ⟨hc.blk h.cell (fun e=>h.apart (by rw [e];rfl)),?_,hr.wf,h.apart⟩
 rw [← hl]
 exact hr.own
set_option maxRecDepth 100000 in
set_option maxHeartbeats 1000000 in
theorem zHk (w:World) (tb g cap:Nat) (l:List Les) (j n n0:Nat) (hn:l.length=n0) (h:LTab w tb (.slice (some ⟨g,0,none⟩) n0 cap) l) (hl:n0≤1000000) (hnn:n≤n0) (hj:j < n)
  (hinv:∀ c,0 < c→c < n→c≠j→Rim l c) (hg:zCw l j n) :
  Calls Tryz.prog 190 #[hv tb,.int .i64 j] w fun e w'=>e=.returned (.tuple #[])∧∃ l',LTab w' tb (.slice (some ⟨g,0,none⟩) n0 cap) l'∧l'.Perm l∧zB4 l' n∧(∀ q,n≤q→l'[q]?=l[q]?)∧Chg (fun b=>b=g) w w':=by
 have H0:=Zh (Zi hn (Zi h (Zi hinv hg)))
 clear h hinv hg hn
 unfold hv
 go_enter Tryz.func190,Tryz.ntmps190
 go_wp2_with fail
 go_loopw [1] (fun v wr=>∃ (k:Nat) (m:List Les),k < n∧v=.int .i64 k∧Hid (m.length=n0∧LTab wr tb (.slice (some ⟨g,0,none⟩) n0 cap) m∧m.Perm l∧(∀ c,0 < c→c < n→c≠k→Rim m c)∧zCw m k n∧(∀ q,n≤q→m[q]?=l[q]?)∧Chg (fun b=>b=g) w wr)) (fun v _=>(intOf v).toNat)
 case atStart=>exact ⟨j,l,hj,rfl,H0.o.1,H0.o.2.1,List.Perm.refl _,H0.o.2.2.1,H0.o.2.2.2,fun _ _=>rfl,Chg.refl _ _⟩
 case round =>
  obtain ⟨k,m,hk,rfl,H⟩:=hrel
  rename_i wr
  have hc:wr.cell? ⟨tb,0,none⟩=some (.slice (some ⟨g,0,none⟩) n0 cap):=by simpa using H.o.2.1.cell.cell 0
  by_cases hk0:k=0
  · subst hk0
    have HE:Hid (zB4 m n):=zOT H.o.2.2.2.1 (fun x y h=>by omega)
    go_wp2_with fail
    go_wp2
    go_end0
    exact ⟨rfl,m,H.o.2.1,H.o.2.2.1,HE.o,H.o.2.2.2.2.2.1,H.o.2.2.2.2.2.2⟩
  · obtain ⟨i,hi⟩:∃ i,i=(k - 1) / 2:=⟨_,rfl⟩
    have hik:i < k:=by omega
    have e1:((k:Int) - 1).tdiv 2=(i:Int):=by
     rw [show ((k:Int) - 1)=((k - 1:Nat):Int) from by omega,hi]
     exact (Int.ofNat_tdiv _ _).symm
    have e2:((i:Int) == (k:Int))=false:=by simp;omega
    have e3:¬ ((i:Int)=(k:Int)):=by omega
    have hx:m[i]?=some (m[i]'(by have:=H.o.1;omega)):=by simp
    have hy:m[k]?=some (m[k]'(by have:=H.o.1;omega)):=by simp
    generalize m[i]'(by have:=H.o.1;omega)=x at hx
    generalize m[k]'(by have:=H.o.1;omega)=y at hy
    have HX:=Zh (Zi hx hy)
    have HI:=Zh hi
    clear hx hy hi
    go_wp2_with fail
    refine (zCW 0 g n0 cap m k i y x wr (LTab.theRow H.o.2.1 H.o.1) HX.o.2 HX.o.1).mono ?_
    rintro e w' ⟨rfl,d,rfl⟩
    by_cases hlt:y.e < x.e
    · rw [decide_eq_true hlt]
      go_wp2_with fail
      refine (zBx 0 g n0 cap m i k x y (wr.drewN d) (LTab.theRow (H.o.2.1.drewN d) H.o.1) HX.o.1 HX.o.2).mono ?_
      rintro e w' ⟨rfl,hrow,hchg⟩
      have HN:Hid ((swap m i k).length=n0∧LTab w' tb (.slice (some ⟨g,0,none⟩) n0 cap) (swap m i k)∧(swap m i k).Perm l∧(∀ c,0 < c→c < n→c≠i→Rim (swap m i k) c)∧zCw (swap m i k) i n∧(∀ q,n≤q→(swap m i k)[q]?=l[q]?)∧Chg (fun b=>b=g) w w'):=by
       have hs:=zPK (by omega) hk HI.o HX.o.1 HX.o.2 hlt H.o.2.2.2.1 H.o.2.2.2.2.1
       have hl2:(swap m i k).length=n0:=by rw [swap_len];exact H.o.1
       exact ⟨hl2,(H.o.2.1.drewN d).row' H.o.1 hrow hchg,(swap_perm m i k).trans H.o.2.2.1,hs.1,hs.2,fun q hq=>by rw [zCE HX.o.1 HX.o.2,if_neg (by omega),if_neg (by omega)];exact H.o.2.2.2.2.2.1 q hq,(H.o.2.2.2.2.2.2.drewN d).trans hchg⟩
      clear hrow hchg H hc
      go_wp2_with fail
      exact ⟨⟨i,swap m i k,by omega,rfl,HN⟩,by simp [intOf];omega⟩
    · rw [decide_eq_false hlt]
      have HE:Hid (zB4 m n):=zOT H.o.2.2.2.1 (fun a b h0 h1 ha hb=>by
       rw [← HI.o,HX.o.1] at ha;rw [HX.o.2] at hb
       cases ha;cases hb
       omega)
      go_wp2_with fail
      go_end0
      exact ⟨rfl,m,H.o.2.1.drewN d,H.o.2.2.1,HE.o,H.o.2.2.2.2.2.1,H.o.2.2.2.2.2.2.drewN d⟩
end Go.Proofs.YtbbojbdigiibbaaGreatDoor
end
section
namespace Go.Proofs.YtbbojbdigiibbaaGreatDoor
open Go Go.RowKit Go.Mem Gf Lea
attribute [local go_sem ↓] Go.wp_at_zero Go.wp_at_succ
attribute [local go_sem] zDa zDc zEP zDb zEQ
theorem LTab.rd {w w':World} {tb:Nat} {v:Value} {l:List Les} (h:LTab w tb v l) (hd:∃ d,w'=w.drewN d):LTab w' tb v l:=by
 obtain ⟨d,rfl⟩:=hd
 exact h.drewN d
theorem zIm {S:Nat→Prop} {w w' w'':World} (h:Chg S w w') (hd:∃ d,w''=w'.drewN d):Chg S w w'':=by
 obtain ⟨d,rfl⟩:=hd
 exact h.drewN d
set_option maxRecDepth 100000 in
set_option maxHeartbeats 4000000 in
theorem down_calls (w:World) (tb g cap:Nat) (l:List Les) (i0 n n0:Nat) (hlen:l.length=n0) (h:LTab w tb (.slice (some ⟨g,0,none⟩) n0 cap) l) (hl:n0≤1000000) (hn:n≤n0) (hi:i0 < n0)
  (hinv:∀ c,0 < c→c < n→(c - 1) / 2≠i0→c≠i0→Rim l c) (hg:zCw l i0 n) :
  Calls Tryz.prog 156 #[hv tb,.int .i64 i0,.int .i64 n] w fun e w'=>∃ b:Bool,e=.returned (.bool b)∧∃ l',LTab w' tb (.slice (some ⟨g,0,none⟩) n0 cap) l'∧l'.Perm l∧(∀ q,n≤q→l'[q]?=l[q]?)∧Chg (fun b=>b=g) w w' ∧
   (b=true→zB4 l' n)∧(b=false→l'=l∧∀ c,0 < c→c < n→c≠i0→Rim l c):=by
 have H0:Hid (zHo n0 n i0 l l i0∧LTab w tb (.slice (some ⟨g,0,none⟩) n0 cap) l):=⟨⟨hlen,List.Perm.refl _,fun _ _=>rfl,fun c h1 h2 h3 h4=>hinv c h1 h2 h3 (by omega),hg,Nat.le_refl _,fun _=>rfl⟩,h⟩
 clear h hinv hg hlen
 unfold hv
 go_enter Tryz.func156,Tryz.ntmps156
 go_wp2_with fail
 go_loopw [7] (fun v wr=>∃ (k:Nat) (m:List Les),k < n0∧v=.int .i64 k∧Hid (zHo n0 n i0 l m k∧LTab wr tb (.slice (some ⟨g,0,none⟩) n0 cap) m∧Chg (fun b=>b=g) w wr)) (fun v _=>n0 - (intOf v).toNat)
 case atStart=>exact ⟨i0,l,hi,rfl,H0.o.1,H0.o.2,Chg.refl _ _⟩
 case round =>
  obtain ⟨k,m,hk,rfl,H⟩:=hrel
  rename_i wr
  have hc:wr.cell? ⟨tb,0,none⟩=some (.slice (some ⟨g,0,none⟩) n0 cap):=by simpa using H.o.2.1.cell.cell 0
  have HX0:Hid (m[k]?=some (m[k]'(by have:=H.o.1.len;omega))):=by have:=H.o.1.len;exact (by simp:m[k]?=some m[k])
  generalize m[k]'(by have:=H.o.1.len;omega)=x at HX0
  have HX:=HX0
  obtain ⟨j1,hj1'⟩:∃ j,j=2*k+1:=⟨_,rfl⟩
  obtain ⟨j2,hj2'⟩:∃ j,j=2*k+2:=⟨_,rfl⟩
  have HJ1:=Zh hj1'
  have HJ2:=Zh hj2'
  have c1:(2:Int)*(k:Int)+1=(j1:Int):=by omega
  have c2:(j1:Int)+1=(j2:Int):=by omega
  have b1:k < j1:=by omega
  have b2:j1 < j2:=by omega
  clear hj1' hj2'
  by_cases hj1:n≤j1
  · have HE:=Zh (H.o.1.stop HX.o (fun c z h1 h2 h3 h4=>by have:=HJ1.o;omega))
    have d1:decide ((n:Int)≤(j1:Int))=true:=by simp;omega
    go_wp2_with fail
    go_ret
    exact ⟨decide (i0 < k),rfl,m,H.o.2.1,H.o.1.perm,H.o.1.tail,H.o.2.2,fun e=>HE.o.1 (of_decide_eq_true e),fun e=>HE.o.2 (of_decide_eq_false e)⟩
  · have hjn:j1 < n:=by omega
    have HA:Hid (m[j1]?=some (m[j1]'(by have:=H.o.1.len;omega))):=by have:=H.o.1.len;exact (by simp:m[j1]?=some m[j1])
    generalize m[j1]'(by have:=H.o.1.len;omega)=a at HA
    clear hj1 HX0
    by_cases hj2:j2 < n
    · have hb1:m[j2]?=some (m[j2]'(by have:=H.o.1.len;omega)):=by have:=H.o.1.len;exact (by simp:m[j2]?=some m[j2])
      generalize m[j2]'(by have:=H.o.1.len;omega)=b at hb1
      have HB:=Zh hb1
      clear hb1
      go_wp2_with fail
      refine (zCW 0 g n0 cap m j2 j1 b a wr (LTab.theRow H.o.2.1 H.o.1.len) HB.o HA.o).mono ?_
      rintro e w1 ⟨rfl,hd1⟩
      have T1:=Zh (H.o.2.1.rd hd1)
      have C1:=Zh (zIm H.o.2.2 hd1)
      have hc1:w1.cell? ⟨tb,0,none⟩=some (.slice (some ⟨g,0,none⟩) n0 cap):=by simpa using T1.o.cell.cell 0
      clear hd1
      by_cases hba:b.e < a.e
      · rw [decide_eq_true hba]
        have HM:Hid (∀ c z,0 < c→c < n→(c - 1) / 2=k→m[c]?=some z→b.e≤z.e):=zMq (a:=a) (by rw [← HJ1.o];exact HA.o) (by rw [← HJ2.o];exact HB.o) hba
        have HY:=HB
        generalize hbb:b=y at *
        have hj:Hid (j2=2*k+1∨j2=2*k+2):=.inr HJ2.o
        go_wp2_with fail
        refine (zCW 0 g n0 cap m j2 k y x w1 (LTab.theRow T1.o H.o.1.len) HY.o HX.o).mono ?_
        rintro e w2 ⟨rfl,hd2⟩
        have T2:=Zh (LTab.rd T1.o hd2)
        have C2:=Zh (zIm C1.o hd2)
        have hc2:w2.cell? ⟨tb,0,none⟩=some (.slice (some ⟨g,0,none⟩) n0 cap):=by simpa using T2.o.cell.cell 0
        clear hd2
        by_cases hlt:y.e < x.e
        · rw [decide_eq_true hlt]
          go_wp2_with fail
          refine (zBx 0 g n0 cap m k j2 x y _ (LTab.theRow T2.o H.o.1.len) HX.o HY.o).mono ?_
          rintro e w' ⟨rfl,hrow,hchg⟩
          have HN:Hid (zHo n0 n i0 l (swap m k j2) j2∧LTab w' tb (.slice (some ⟨g,0,none⟩) n0 cap) (swap m k j2)∧Chg (fun b=>b=g) w w') :=
           ⟨H.o.1.step hj.o (by omega) HX.o HY.o hlt HM.o,T2.o.row' H.o.1.len hrow hchg,C2.o.trans hchg⟩
          clear hrow hchg H
          go_wp2_with fail
          exact ⟨⟨j2,swap m k j2,by omega,rfl,HN⟩,by simp [intOf];omega⟩
        · rw [decide_eq_false hlt]
          have HE:=Zh (H.o.1.stop HX.o (fun c z h1 h2 h3 h4=>by have:=HM.o c z h1 h2 h3 h4;omega))
          go_wp2_with fail
          go_ret
          exact ⟨decide (i0 < k),rfl,m,T2.o,H.o.1.perm,H.o.1.tail,C2.o,fun e=>HE.o.1 (of_decide_eq_true e),fun e=>HE.o.2 (of_decide_eq_false e)⟩
      · rw [decide_eq_false hba]
        have HM:Hid (∀ c z,0 < c→c < n→(c - 1) / 2=k→m[c]?=some z→a.e≤z.e):=zKD (by rw [← HJ1.o];exact HA.o) (fun b' _ hb'=>by rw [← HJ2.o,HB.o] at hb';cases hb';exact hba)
        have HY:=HA
        generalize hbb:a=y at *
        have hj:Hid (j1=2*k+1∨j1=2*k+2):=.inl HJ1.o
        go_wp2_with fail
        refine (zCW 0 g n0 cap m j1 k y x w1 (LTab.theRow T1.o H.o.1.len) HY.o HX.o).mono ?_
        rintro e w2 ⟨rfl,hd2⟩
        have T2:=Zh (LTab.rd T1.o hd2)
        have C2:=Zh (zIm C1.o hd2)
        have hc2:w2.cell? ⟨tb,0,none⟩=some (.slice (some ⟨g,0,none⟩) n0 cap):=by simpa using T2.o.cell.cell 0
        clear hd2
        by_cases hlt:y.e < x.e
        · rw [decide_eq_true hlt]
          go_wp2_with fail
          refine (zBx 0 g n0 cap m k j1 x y _ (LTab.theRow T2.o H.o.1.len) HX.o HY.o).mono ?_
          rintro e w' ⟨rfl,hrow,hchg⟩
          have HN:Hid (zHo n0 n i0 l (swap m k j1) j1∧LTab w' tb (.slice (some ⟨g,0,none⟩) n0 cap) (swap m k j1)∧Chg (fun b=>b=g) w w') :=
           ⟨H.o.1.step hj.o (by omega) HX.o HY.o hlt HM.o,T2.o.row' H.o.1.len hrow hchg,C2.o.trans hchg⟩
          clear hrow hchg H
          go_wp2_with fail
          exact ⟨⟨j1,swap m k j1,by omega,rfl,HN⟩,by simp [intOf];omega⟩
        · rw [decide_eq_false hlt]
          have HE:=Zh (H.o.1.stop HX.o (fun c z h1 h2 h3 h4=>by have:=HM.o c z h1 h2 h3 h4;omega))
          go_wp2_with fail
          go_ret
          exact ⟨decide (i0 < k),rfl,m,T2.o,H.o.1.perm,H.o.1.tail,C2.o,fun e=>HE.o.1 (of_decide_eq_true e),fun e=>HE.o.2 (of_decide_eq_false e)⟩
    · have HM:Hid (∀ c z,0 < c→c < n→(c - 1) / 2=k→m[c]?=some z→a.e≤z.e):=zKD (by rw [← HJ1.o];exact HA.o) (fun b' h _=>by have:=HJ2.o;omega)
      have HY:=HA
      generalize hbb:a=y at *
      have hj:Hid (j1=2*k+1∨j1=2*k+2):=.inl HJ1.o
      go_wp2_with fail
      refine (zCW 0 g n0 cap m j1 k y x wr (LTab.theRow H.o.2.1 H.o.1.len) HY.o HX.o).mono ?_
      rintro e w2 ⟨rfl,hd2⟩
      have T2:=Zh (LTab.rd H.o.2.1 hd2)
      have C2:=Zh (zIm H.o.2.2 hd2)
      have hc2:w2.cell? ⟨tb,0,none⟩=some (.slice (some ⟨g,0,none⟩) n0 cap):=by simpa using T2.o.cell.cell 0
      clear hd2
      by_cases hlt:y.e < x.e
      · rw [decide_eq_true hlt]
        go_wp2_with fail
        refine (zBx 0 g n0 cap m k j1 x y _ (LTab.theRow T2.o H.o.1.len) HX.o HY.o).mono ?_
        rintro e w' ⟨rfl,hrow,hchg⟩
        have HN:Hid (zHo n0 n i0 l (swap m k j1) j1∧LTab w' tb (.slice (some ⟨g,0,none⟩) n0 cap) (swap m k j1)∧Chg (fun b=>b=g) w w') :=
         ⟨H.o.1.step hj.o (by omega) HX.o HY.o hlt HM.o,T2.o.row' H.o.1.len hrow hchg,C2.o.trans hchg⟩
        clear hrow hchg H
        go_wp2_with fail
        exact ⟨⟨j1,swap m k j1,by omega,rfl,HN⟩,by simp [intOf];omega⟩
      · rw [decide_eq_false hlt]
        have HE:=Zh (H.o.1.stop HX.o (fun c z h1 h2 h3 h4=>by have:=HM.o c z h1 h2 h3 h4;omega))
        go_wp2_with fail
        go_ret
        exact ⟨decide (i0 < k),rfl,m,T2.o,H.o.1.perm,H.o.1.tail,C2.o,fun e=>HE.o.1 (of_decide_eq_true e),fun e=>HE.o.2 (of_decide_eq_false e)⟩
end Go.Proofs.YtbbojbdigiibbaaGreatDoor
end
section
namespace Go.Proofs.YtbbojbdigiibbaaGreatDoor
open Go Go.RowKit Go.Mem Gf Lea
attribute [local go_sem ↓] Go.wp_at_zero Go.wp_at_succ zBb zBI
attribute [local go_sem] zDa zDc zEP zDb zEQ ptrB_eq ptrO_eq ptrIs_eq aggL_eq aggIs_eq
theorem EKi:zDV Tryz.prog 154 175 (.agg ((List.replicate 32 (Value.int .u8 0))++[Value.int .i64 0]).toArray) 33 40:=⟨Tryz.underlying154,by kernel_rfl,rfl,by decide⟩
theorem zGm (v:Value) (w:World):(Instr.typeAssert (.iface 175 v) 20 175 false).run Tryz.prog w=.ok v w:=by kernel_rfl
attribute [local go_sem] zGm
theorem zFI (dst:Option Tmp) (x:Operand) (ty:TypeId) (pos:String) (af:Array Edge) (a:Act) (w:World) (K:Act→World→Prop) (Q:Exit→Act→World→Prop) (hy:zBD (a.eval x)=true) (hc:zAP 33 (zAi (a.eval x))) :
  Oper.wp Tryz.prog ⟨dst,.buildSlice 154 1 #[(0,x)],ty,pos,af,none⟩ a w K Q=K (a.put dst (.slice (some ⟨w.heap.size,0,none⟩) 1 1)) (w.alloc (.cells (zAi (a.eval x)).toArray 175)) :=
 zGI Tryz.underlying154 (by kernel_rfl) (by decide) (by decide) dst x ty pos af a w K Q hy hc
attribute [local go_sem ↓] zFI
def zAr (tb:Nat) (v v':Value) (w w':World):Prop:=Chg (fun b=>b=tb∨v.ownBlock=some b) w w'∧∀ k,v'.ownBlock=some k→v.ownBlock=some k∨w.heap.size≤k
theorem zEF (w:World) (g i:Nat) (v:Value):Chg (fun b=>b=g) w (w.setCell ⟨g,i,none⟩ v):=Chg.set (S:=fun b=>b=g) (Chg.refl _ _) (a:=⟨g,i,none⟩) rfl v
set_option maxRecDepth 100000 in
theorem zJm (w:World) (tb:Nat) (v:Value) (l:List Les) (x:Les) (n:Nat) (hn:l.length=n) (h:LTab w tb v l) (hx:Wf x) (hl:n≤1000000) :
  Calls Tryz.prog 278 #[.pointer (some ⟨tb,0,none⟩),.iface 175 (.agg (zq x).toArray)] w fun e w'=>e=.returned (.tuple #[])∧∃ v',LTab w' tb v' (l++[x])∧zAr tb v v' w w':=by
 have hc:w.cell? ⟨tb,0,none⟩=some v:=by simpa using h.cell.cell 0
 have hf:=h.cell.free 0
 have H:=Zh h
 have hn32:n+1≤4294967296:=by omega
 have hk:=zBq hx
 clear h
 go_enter Tryz.func278,Tryz.ntmps278
 go_wp2_with fail
 have hlt:tb < w.heap.size:=H.o.cell.lt
 go_region_law
  (first
   | (refine zKl EKi (by rfl) _ _ (by rfl) (base:=0) (v:=v) (n:=n) (m:=1) (xs:=zAg l) (zq x) (by rfl) (by rfl) (by rw [zAR hx]) (by exact zER rfl) (zFD x) (by have ho:=H.o.own;rw [hn] at ho;exact (show w.drew.ownsRow _ _ _ _ _ _ from ho).alloc _) hn32 (by decide) (by omega) ?_
      intro v1 x1 hv1 hg1 hs1
      obtain ⟨a1,cp1,rfl,_⟩:=zAG hv1
      have hB1:Blk x1 tb #[v] 156:=Blk.grown' (by exact (show Blk w.drew _ _ _ from H.o.cell).alloc _) hg1 H.o.apart
      have hh:x1.cell? ⟨tb,0,none⟩=some v:=by simpa using hB1.cell 0
      have f2:x1.frozen? ⟨tb,0,none⟩=false:=hB1.free 0
      have hxc:Chg (fun b=>b=tb∨v.ownBlock=some b) w x1:=Chg.grown (Chg.of_below ((Below.refl _ _).drew.alloc (by exact Nat.le_refl _) _)) hg1 (fun q hq=>.inl (.inr hq))))
 all_goals
  go_wp2_with fail
  go_end0
  refine ⟨rfl,.slice a1 (n+1) cp1,⟨hB1.set 0 _,?_,?_,?_⟩,hxc.set (a:=⟨tb,0,none⟩) (.inl rfl) _,?_⟩
  · have hne:(Value.slice a1 (n+1) cp1).ownBlock≠some tb:=fun e=>by
     rcases hs1 tb e with e1 | e1
     · exact H.o.apart e1
     · simp at e1;omega
    rw [zHF,show zAg [x]=zq x from by simp [zAg],List.length_append,hn]
    exact zAl hv1 (zEF x1 tb 0 _) (fun g hg e=>hne (by rw [hg,e]))
  · intro y hy
    rcases List.mem_append.1 hy with hy | hy
    · exact H.o.wf y hy
    · rw [List.mem_singleton.1 hy];exact hx
  · intro e
    rcases hs1 tb e with e1 | e1
    · exact H.o.apart e1
    · simp at e1;omega
  · intro k hk
    rcases hs1 k hk with e1 | e1
    · exact .inl e1
    · right;simp at e1;omega
end Go.Proofs.YtbbojbdigiibbaaGreatDoor
end
section
namespace Go.Proofs.YtbbojbdigiibbaaGreatDoor
open Go Go.RowKit Go.Mem Gf Lea
attribute [local go_sem ↓] Go.wp_at_zero Go.wp_at_succ zBb zBI zFI
attribute [local go_sem] zDa zDc zEP zDb zEQ ptrB_eq ptrO_eq ptrIs_eq aggL_eq aggIs_eq zGm
set_option maxRecDepth 100000 in
theorem zDo (w:World) (tb g cap:Nat) (l:List Les) (x:Les) (n:Nat) (hn:l.length=n+1) (h:LTab w tb (.slice (some ⟨g,0,none⟩) (n+1) cap) l) (hx:l[n]?=some x) (hl:n+1≤1000000) :
  Calls Tryz.prog 277 #[.pointer (some ⟨tb,0,none⟩)] w fun e w'=>e=.returned (.iface 175 (.agg (zq x).toArray))∧LTab w' tb (.slice (some ⟨g,0,none⟩) n cap) (l.take n)∧Chg (fun b=>b=tb) w w':=by
 have hc:w.cell? ⟨tb,0,none⟩=some (.slice (some ⟨g,0,none⟩) (n+1) cap):=by simpa using h.cell.cell 0
 have hf:=h.cell.free 0
 have hwx:=h.wf x (List.mem_of_getElem? hx)
 have hrow:=h.theRow hn
 have rx:zN 33 w g (n*33)=zq x:=zA3 (hrow.range hx) (zAR hwx)
 have t1:zW 33 w g (n*33):=hrow.there (by omega)
 have hk:=zBq hwx
 obtain ⟨cur,hB,_,hnc,hcm,_,_⟩:=hrow.block
 have H:=Zh h
 clear h hrow hx hB
 go_enter Tryz.func277,Tryz.ntmps277
 obtain ⟨w1,hw1⟩:∃ w1,w1=(w.alloc (.cells #[Value.int .u8 0,Value.int .u8 0,Value.int .u8 0,Value.int .u8 0,Value.int .u8 0,Value.int .u8 0,Value.int .u8 0,Value.int .u8 0,Value.int .u8 0,Value.int .u8 0,Value.int .u8 0,Value.int .u8 0,Value.int .u8 0,Value.int .u8 0,Value.int .u8 0,Value.int .u8 0,Value.int .u8 0,Value.int .u8 0,Value.int .u8 0,Value.int .u8 0,Value.int .u8 0,Value.int .u8 0,Value.int .u8 0,Value.int .u8 0,Value.int .u8 0,Value.int .u8 0,Value.int .u8 0,Value.int .u8 0,Value.int .u8 0,Value.int .u8 0,Value.int .u8 0,Value.int .u8 0,Value.int .i64 0] 175)).setCells w.heap.size 0 (zq x):=⟨_,rfl⟩
 have t2:zW 33 (w.alloc (.cells #[Value.int .u8 0,Value.int .u8 0,Value.int .u8 0,Value.int .u8 0,Value.int .u8 0,Value.int .u8 0,Value.int .u8 0,Value.int .u8 0,Value.int .u8 0,Value.int .u8 0,Value.int .u8 0,Value.int .u8 0,Value.int .u8 0,Value.int .u8 0,Value.int .u8 0,Value.int .u8 0,Value.int .u8 0,Value.int .u8 0,Value.int .u8 0,Value.int .u8 0,Value.int .u8 0,Value.int .u8 0,Value.int .u8 0,Value.int .u8 0,Value.int .u8 0,Value.int .u8 0,Value.int .u8 0,Value.int .u8 0,Value.int .u8 0,Value.int .u8 0,Value.int .u8 0,Value.int .u8 0,Value.int .i64 0] 175)) w.heap.size 0:=zJv (by decide) w _
 have t3:zW 33 w1 w.heap.size 0:=by rw [hw1];exact zC2 t2 _ _ _
 have r3:zN 33 w1 w.heap.size 0=zq x:=by rw [hw1];exact zCq t2 hk
 have hlt:tb < w.heap.size:=H.o.cell.lt
 have hne:tb≠w.heap.size:=by omega
 have hB1:Blk w1 tb #[.slice (some ⟨g,0,none⟩) (n+1) cap] 156:=by rw [hw1];exact Blk.setCells_other hne _ _ _ (H.o.cell.alloc _)
 have hc1:Chg (fun b=>b=tb) w w1:=by
  have h0:Below w.heap.size w w1:=by
   have:=Chg.setCells (S:=fun b=>b=w.heap.size) (L:=w.heap.size) rfl (zq x) 0 _ (Chg.of_below ((Below.refl w.heap.size w).alloc (Nat.le_refl _) (.cells #[Value.int .u8 0,Value.int .u8 0,Value.int .u8 0,Value.int .u8 0,Value.int .u8 0,Value.int .u8 0,Value.int .u8 0,Value.int .u8 0,Value.int .u8 0,Value.int .u8 0,Value.int .u8 0,Value.int .u8 0,Value.int .u8 0,Value.int .u8 0,Value.int .u8 0,Value.int .u8 0,Value.int .u8 0,Value.int .u8 0,Value.int .u8 0,Value.int .u8 0,Value.int .u8 0,Value.int .u8 0,Value.int .u8 0,Value.int .u8 0,Value.int .u8 0,Value.int .u8 0,Value.int .u8 0,Value.int .u8 0,Value.int .u8 0,Value.int .u8 0,Value.int .u8 0,Value.int .u8 0,Value.int .i64 0] 175)))
   rw [hw1]
   exact this.below (Nat.le_refl _) (fun k hk=>by rw [hk];exact Nat.le_refl _)
  exact Chg.of_below h0
 have HB1:=Zh hB1;have HC1:=Zh hc1
 have c1:w1.cell? ⟨tb,0,none⟩=some (.slice (some ⟨g,0,none⟩) (n+1) cap):=by simpa using hB1.cell 0
 have f1:w1.frozen? ⟨tb,0,none⟩=false:=hB1.free 0
 have HW1:=Zh hw1
 clear hB1 hc1 hw1
 go_upto_region 3 with fail
 rw [← HW1.o]
 have t4:zW 33 (w1.setCell ⟨tb,0,none⟩ (.slice (some ⟨g,0,none⟩) n cap)) w.heap.size 0:=zC2 t3 tb 0 [.slice (some ⟨g,0,none⟩) n cap]
 have r4:zN 33 (w1.setCell ⟨tb,0,none⟩ (.slice (some ⟨g,0,none⟩) n cap)) w.heap.size 0=zq x:=by
  have h1:=zAD t3
  rw [r3] at h1
  exact zA3 (World.rangeAt_setCells_apart h1 tb 0 [.slice (some ⟨g,0,none⟩) n cap] (.inl (by omega))) hk.1
 go_wp2_with fail
 go_ret
 have ha:=H.o.apart
 refine ⟨rfl,⟨HB1.o.set 0 _,?_,fun y hy=>H.o.wf y (List.mem_of_mem_take hy),ha⟩,HC1.o.trans (zEF w1 tb 0 _)⟩
 have hR1:Row 175 (w1.setCell ⟨tb,0,none⟩ (.slice (some ⟨g,0,none⟩) n cap)) 0 g (n+1) cap l:=by
  refine ⟨?_,hn.symm,H.o.wf⟩
  have ho:=H.o.own
  rw [hn] at ho
  exact zAl ho (HC1.o.trans (zEF w1 tb 0 _)) (fun q hq e=>ha (by rw [hq,e]))
 have h9:=(hR1.take (k:=n) (by omega)).own
 rw [show (l.take n).length=n from by rw [List.length_take];omega] at h9 ⊢
 exact h9
theorem zAr.then {tb g n c n' c':Nat} {v:Value} {w w' w'':World} (h:zAr tb v (.slice (some ⟨g,0,none⟩) n c) w w') (h':Chg (fun b=>b=g) w' w''):zAr tb v (.slice (some ⟨g,0,none⟩) n' c') w w'' :=
 ⟨h.1.mix h' (fun k hk=>by rcases h.2 k (by rw [hk];rfl) with h | h;exact .inl (.inr h);exact .inr h),fun k hk=>h.2 k hk⟩
theorem zAr.of {tb g n c n' c':Nat} {w w':World} (h:Chg (fun b=>b=g) w w'):zAr tb (.slice (some ⟨g,0,none⟩) n c) (.slice (some ⟨g,0,none⟩) n' c') w w' :=
 ⟨h.mono (fun _ hk=>.inr (by rw [hk];rfl)),fun _ hk=>.inl hk⟩
theorem zAr.trans {tb:Nat} {v v1 v2:Value} {w w1 w2:World} (h:zAr tb v v1 w w1) (h':zAr tb v1 v2 w1 w2):zAr tb v v2 w w2 :=
 ⟨h.1.mix h'.1 (fun k hk=>by
  rcases hk with hk | hk
  · exact .inl (.inl hk)
  · rcases h.2 k hk with h | h
    · exact .inl (.inr h)
    · exact .inr h),fun k hk=>by
  rcases h'.2 k hk with h1 | h1
  · exact h.2 k h1
  · exact .inr (Nat.le_trans h.1.size h1)⟩
theorem zAr.cell {tb g n c n' c':Nat} {w w':World} (h:Chg (fun b=>b=tb) w w'):zAr tb (.slice (some ⟨g,0,none⟩) n c) (.slice (some ⟨g,0,none⟩) n' c') w w' :=
 ⟨h.mono (fun _ hk=>.inl hk),fun _ hk=>.inl hk⟩
structure Heap (w:World) (tb:Nat) (v:Value) (l:List Les):Prop where
 tab:LTab w tb v l
 heap:zB4 l l.length
set_option maxRecDepth 100000 in
set_option maxHeartbeats 1000000 in
theorem zJx (w:World) (tb:Nat) (v:Value) (l:List Les) (x:Les) (h:Heap w tb v l) (hx:Wf x) (hl:l.length≤100000) :
  Calls Tryz.prog 153 #[hv tb,.iface 175 (.agg (zq x).toArray)] w fun e w'=>e=.returned (.tuple #[])∧∃ v' l',Heap w' tb v' l'∧l'.Perm (l++[x])∧zAr tb v v' w w':=by
 have H:=Zh h
 clear h
 unfold hv
 go_enter Tryz.func153,Tryz.ntmps153
 go_wp2_with fail
 refine (zJm w tb v l x l.length rfl H.o.tab hx (by omega)).mono ?_
 rintro e w1 ⟨rfl,v1,hT,hC⟩
 have hl1:(l++[x]).length=l.length+1:=by simp
 obtain ⟨g,cap,rfl,hrow⟩:=hT.ex (by omega)
 have hT1:=Zh hT
 have hc1:w1.cell? ⟨tb,0,none⟩=some (.slice (some ⟨g,0,none⟩) (l++[x]).length cap):=by simpa using hT.cell.cell 0
 rw [hl1] at hc1
 have HC:=Zh hC
 clear hT hC hrow
 go_wp2_with fail
 refine (zCz _ _ _ _).mono ?_
 rintro e w2 ⟨rfl,rfl⟩
 obtain ⟨n,hn⟩:∃ n,n=l.length:=⟨_,rfl⟩
 have hp:=zOB H.o.heap x
 rw [← hn] at hc1 hl hl1 hp ⊢
 rw [hl1] at hT1 HC
 have HP:=Zh hp;have HL1:=Zh hl1
 have e1:((n+1:Nat):Int) - 1=(n:Int):=by omega
 clear hp hl1 hn
 go_wp2_with fail
 refine (zHk w1 tb g cap (l++[x]) n (n+1) (n+1) HL1.o hT1.o (by omega) (Nat.le_refl _) (by omega) HP.o.1 HP.o.2).mono ?_
 rintro e w2 ⟨rfl,l',h1,h2,h3,h4,h5⟩
 go_wp2_with fail
 go_end0
 exact ⟨rfl,_,l',⟨h1,by rw [h2.length_eq,HL1.o];exact h3⟩,h2,HC.o.then h5⟩
set_option maxRecDepth 100000 in
set_option maxHeartbeats 1000000 in
theorem zLL (w:World) (tb:Nat) (v:Value) (l:List Les) (k n:Nat) (hn:l.length=n) (h:LTab w tb v l) (hl:n≤100000) (hk:k < n)
  (hinv:∀ c,0 < c→c < n→(c - 1) / 2≠k→c≠k→Rim l c) (hg:zCw l k n) :
  Calls Tryz.prog 154 #[hv tb,.int .i64 k] w fun e w'=>e=.returned (.tuple #[])∧∃ l',Heap w' tb v l'∧l'.Perm l∧zAr tb v v w w':=by
 obtain ⟨g,cap,rfl,hrow⟩:=h.ex (by omega)
 have hc:w.cell? ⟨tb,0,none⟩=some (.slice (some ⟨g,0,none⟩) l.length cap):=by simpa using h.cell.cell 0
 rw [hn] at hc h ⊢
 have H:=Zh (Zi h (Zi hinv hg))
 have HN:=Zh hn
 clear hn h hinv hg hrow
 unfold hv
 go_enter Tryz.func154,Tryz.ntmps154
 go_wp2_with fail
 refine (zCz _ _ _ _).mono ?_
 rintro e w2 ⟨rfl,rfl⟩
 go_wp2_with fail
 refine (down_calls w tb g cap l k n n HN.o H.o.1 (by omega) (Nat.le_refl _) hk H.o.2.1 H.o.2.2).mono ?_
 rintro e w1 ⟨b,rfl,l1,h1,h2,h3,h4,h5,h6⟩
 have HL:=Zh h2.length_eq
 have H1:=Zh (Zi h1 (Zi h2 (Zi h4 (Zi h5 h6))))
 clear h1 h2 h3 h4 h5 h6
 cases b
 · go_wp2_with fail
   obtain ⟨e6,h6⟩:=H1.o.2.2.2.2 (by first | rfl | trivial)
   refine (zHk w1 tb g cap l k n n HN.o (by have:=H1.o.1;rwa [e6] at this) (by omega) (Nat.le_refl _) hk h6 H.o.2.2).mono ?_
   rintro e w2 ⟨rfl,l',g1,g2,g3,g4,g5⟩
   go_wp2_with fail
   go_end0
   exact ⟨rfl,l',⟨g1,by rw [g2.length_eq,HN.o];exact g3⟩,g2,zAr.of (H1.o.2.2.1.trans g5)⟩
 · go_wp2_with fail
   go_end0
   exact ⟨rfl,l1,⟨H1.o.1,by rw [HL.o,HN.o];exact H1.o.2.2.2.1 (by first | rfl | trivial)⟩,H1.o.2.1,zAr.of H1.o.2.2.1⟩
set_option maxRecDepth 100000 in
set_option maxHeartbeats 1000000 in
theorem zLM (w:World) (tb:Nat) (v:Value) (l:List Les) (x:Les) (h:Heap w tb v l) (hx:l[0]?=some x) (hl:l.length≤100000) :
  Calls Tryz.prog 104 #[hv tb] w fun e w'=>e=.returned (.iface 175 (.agg (zq x).toArray))∧∃ v' l',Heap w' tb v' l'∧(x::l').Perm l∧zAr tb v v' w w':=by
 have h0:0 < l.length:=by
  rcases Nat.eq_zero_or_pos l.length with e | e
  · rw [List.eq_nil_of_length_eq_zero e] at hx;cases hx
  · exact e
 obtain ⟨g,cap,rfl,hrow⟩:=h.tab.ex h0
 obtain ⟨n,hn⟩:∃ n,n+1=l.length:=⟨l.length - 1,by omega⟩
 have hc:w.cell? ⟨tb,0,none⟩=some (.slice (some ⟨g,0,none⟩) l.length cap):=by simpa using h.tab.cell.cell 0
 have hy:l[n]?=some (l[n]'(by omega)):=by simp
 generalize l[n]'(by omega)=y at hy
 have hlt:=zNH (by rw [hn];exact h.heap) hn
 rw [← hn] at hc h hl ⊢
 have H:=Zh (Zi h.tab (Zi hx (Zi hy hlt)))
 have HN:=Zh hn.symm
 have e1:((n+1:Nat):Int) - 1=(n:Int):=by omega
 have hr:=Zh (h.tab.theRow hn.symm)
 clear hn h hx hy hlt hrow h0
 unfold hv
 go_enter Tryz.func104,Tryz.ntmps104
 go_wp2_with fail
 refine (zCz _ _ _ _).mono ?_
 rintro e w2 ⟨rfl,rfl⟩
 go_wp2_with fail
 refine (zBx 0 g (n+1) cap l 0 n x y w hr.o H.o.2.1 H.o.2.2.1).mono ?_
 rintro e w1 ⟨rfl,hrow,hchg⟩
 have hT1:=H.o.1.row' HN.o hrow hchg
 have c1:w1.cell? ⟨tb,0,none⟩=some (.slice (some ⟨g,0,none⟩) (n+1) cap):=by simpa using hT1.cell.cell 0
 have HT1:=Zh hT1;have HC1:=Zh hchg
 have HL1:Hid ((swap l 0 n).length=n+1):=by rw [swap_len];exact HN.o
 clear hT1 hrow hchg
 go_wp2_with fail
 refine (down_calls w1 tb g cap (swap l 0 n) 0 n (n+1) HL1.o HT1.o (by omega) (by omega) (by omega) H.o.2.2.2.1 H.o.2.2.2.2).mono ?_
 rintro e w2 ⟨b,rfl,l1,h1,h2,h3,h4,h5,h6⟩
 have hh:zB4 l1 n:=by
  cases b
  · obtain ⟨e6,h6'⟩:=h6 rfl
    rw [e6]
    exact fun c g1 g2=>h6' c g1 g2 (by omega)
  · exact h5 rfl
 have hxn:l1[n]?=some x:=by rw [h3 n (Nat.le_refl _),zCE H.o.2.1 H.o.2.2.1,if_pos rfl]
 have hL2:l1.length=n+1:=by rw [h2.length_eq];exact HL1.o
 have HX:=Zh (Zi hh (Zi hxn (Zi hL2 (Zi h1 (Zi h2 h4)))))
 have c2:w2.cell? ⟨tb,0,none⟩=some (.slice (some ⟨g,0,none⟩) (n+1) cap):=by simpa using h1.cell.cell 0
 clear h1 h2 h3 h4 h5 h6 hh hxn hL2
 go_wp2_with fail
 refine (zDo w2 tb g cap l1 x n HX.o.2.2.1 HX.o.2.2.2.1 HX.o.2.1 (by omega)).mono ?_
 rintro e w3 ⟨rfl,g1,g2⟩
 go_wp2_with fail
 go_ret
 refine ⟨rfl,_,l1.take n,⟨g1,?_⟩,?_,?_⟩
 · rw [List.length_take,HX.o.2.2.1,Nat.min_eq_left (by omega)]
   exact HX.o.1.take
 · exact (zEo HX.o.2.1 HX.o.2.2.1).trans (HX.o.2.2.2.2.1.trans (swap_perm l 0 n))
 · exact ((zAr.of (n':=n+1) (c':=cap) (HC1.o.trans HX.o.2.2.2.2.2)).trans (zAr.cell g2))
end Go.Proofs.YtbbojbdigiibbaaGreatDoor
end
section
namespace Go.Proofs.YtbbojbdigiibbaaGreatDoor
open Go Go.RowKit Go.Mem Gf Lea
attribute [local go_sem ↓] Go.wp_at_zero Go.wp_at_succ zBb zBI zFI
attribute [local go_sem] zDa zDc zEP zDb zEQ ptrB_eq ptrO_eq ptrIs_eq aggL_eq aggIs_eq zGm
set_option maxRecDepth 100000 in
set_option maxHeartbeats 1000000 in
theorem zHs (w:World) (tb:Nat) (v:Value) (l:List Les) (k:Nat) (x:Les) (h:Heap w tb v l) (hx:l[k]?=some x) (hl:l.length≤100000) :
  Calls Tryz.prog 155 #[hv tb,.int .i64 k] w fun e w'=>e=.returned (.iface 175 (.agg (zq x).toArray))∧∃ v' l',Heap w' tb v' l'∧(x::l').Perm l∧zAr tb v v' w w':=by
 have hk:k < l.length:=by
  rcases Nat.lt_or_ge k l.length with h | h
  · exact h
  · rw [List.getElem?_eq_none h] at hx;cases hx
 obtain ⟨g,cap,rfl,hrow⟩:=h.tab.ex (by omega)
 obtain ⟨n,hn⟩:∃ n,n+1=l.length:=⟨l.length - 1,by omega⟩
 have hc:w.cell? ⟨tb,0,none⟩=some (.slice (some ⟨g,0,none⟩) l.length cap):=by simpa using h.tab.cell.cell 0
 have hy:l[n]?=some (l[n]'(by omega)):=by simp
 generalize l[n]'(by omega)=y at hy
 have hlt:k < n→(∀ c,0 < c→c < n→(c - 1) / 2≠k→c≠k→Rim (swap l k n) c)∧zCw (swap l k n) k n:=fun hkn=>zKr (by rw [hn];exact h.heap) hkn (by omega)
 have hhp:zB4 l (n+1):=by rw [hn];exact h.heap
 rw [← hn] at hc h hl hk ⊢
 have H:=Zh (Zi h.tab (Zi hx (Zi hy (Zi hlt hhp))))
 have HN:=Zh hn.symm
 have e1:((n+1:Nat):Int) - 1=(n:Int):=by omega
 have hr:=Zh (h.tab.theRow hn.symm)
 clear hn h hx hy hlt hrow hhp
 unfold hv
 by_cases hkn:k=n
 · subst hkn
   go_enter Tryz.func155,Tryz.ntmps155
   go_wp2_with fail
   refine (zCz _ _ _ _).mono ?_
   rintro e w2 ⟨rfl,rfl⟩
   go_wp2_with fail
   refine (zDo w tb g cap l x k HN.o H.o.1 H.o.2.1 (by omega)).mono ?_
   rintro e w3 ⟨rfl,g1,g2⟩
   go_wp2_with fail
   go_ret
   refine ⟨rfl,_,l.take k,⟨g1,?_⟩,zEo H.o.2.1 HN.o,zAr.cell g2⟩
   rw [List.length_take,HN.o,Nat.min_eq_left (by omega)]
   exact zB4.take (fun c h1 h2=>H.o.2.2.2.2 c h1 (by omega))
 · have hkl:k < n:=by omega
   have ne1:((n:Int) != (k:Int))=true:=by simp;omega
   have ne2:¬ ((n:Int)=(k:Int)):=by omega
   go_enter Tryz.func155,Tryz.ntmps155
   go_wp2_with fail
   refine (zCz _ _ _ _).mono ?_
   rintro e w2 ⟨rfl,rfl⟩
   go_wp2_with fail
   refine (zBx 0 g (n+1) cap l k n x y w hr.o H.o.2.1 H.o.2.2.1).mono ?_
   rintro e w1 ⟨rfl,hrow,hchg⟩
   have hT1:=H.o.1.row' HN.o hrow hchg
   have c1:w1.cell? ⟨tb,0,none⟩=some (.slice (some ⟨g,0,none⟩) (n+1) cap):=by simpa using hT1.cell.cell 0
   have HT1:=Zh hT1;have HC1:=Zh hchg
   have HL1:Hid ((swap l k n).length=n+1):=by rw [swap_len];exact HN.o
   have HXN:Hid ((swap l k n)[n]?=some x):=by rw [zCE H.o.2.1 H.o.2.2.1,if_pos rfl];rfl
   have HPR:=Zh (H.o.2.2.2.1 hkl)
   clear hT1 hrow hchg
   go_wp2_with fail
   refine (down_calls w1 tb g cap (swap l k n) k n (n+1) HL1.o HT1.o (by omega) (by omega) (by omega) HPR.o.1 HPR.o.2).mono ?_
   rintro e w2 ⟨b,rfl,l1,h1,h2,h3,h4,h5,h6⟩
   cases b
   · obtain ⟨e6,h6'⟩:=h6 rfl
     rw [e6] at h1
     have H2:=Zh (Zi h1 (Zi h4 h6'))
     have c2:w2.cell? ⟨tb,0,none⟩=some (.slice (some ⟨g,0,none⟩) (n+1) cap):=by simpa using h1.cell.cell 0
     clear h1 h2 h3 h4 h5 h6 e6 h6'
     go_wp2_with fail
     refine (zHk w2 tb g cap (swap l k n) k n (n+1) HL1.o H2.o.1 (by omega) (by omega) hkl H2.o.2.2 HPR.o.2).mono ?_
     rintro e w3 ⟨rfl,l2,p1,p2,p3,p4,p5⟩
     have hxn:l2[n]?=some x:=by rw [p4 n (Nat.le_refl _)];exact HXN.o
     have hL2:l2.length=n+1:=by rw [p2.length_eq];exact HL1.o
     have HX:=Zh (Zi p3 (Zi hxn (Zi hL2 (Zi p1 (Zi p2 p5)))))
     have c3:w3.cell? ⟨tb,0,none⟩=some (.slice (some ⟨g,0,none⟩) (n+1) cap):=by simpa using p1.cell.cell 0
     clear p1 p2 p3 p4 p5 hxn hL2
     go_wp2_with fail
     refine (zDo w3 tb g cap l2 x n HX.o.2.2.1 HX.o.2.2.2.1 HX.o.2.1 (by omega)).mono ?_
     rintro e w4 ⟨rfl,g1,g2⟩
     go_wp2_with fail
     go_ret
     refine ⟨rfl,_,l2.take n,⟨g1,?_⟩,?_,?_⟩
     · rw [List.length_take,HX.o.2.2.1,Nat.min_eq_left (by omega)]
       exact HX.o.1.take
     · exact (zEo HX.o.2.1 HX.o.2.2.1).trans (HX.o.2.2.2.2.1.trans (swap_perm l k n))
     · exact (zAr.of (n':=n+1) (c':=cap) ((HC1.o.trans H2.o.2.1).trans HX.o.2.2.2.2.2)).trans (zAr.cell g2)
   · have hh:zB4 l1 n:=h5 rfl
     have hxn:l1[n]?=some x:=by rw [h3 n (Nat.le_refl _)];exact HXN.o
     have hL2:l1.length=n+1:=by rw [h2.length_eq];exact HL1.o
     have HX:=Zh (Zi hh (Zi hxn (Zi hL2 (Zi h1 (Zi h2 h4)))))
     have c2:w2.cell? ⟨tb,0,none⟩=some (.slice (some ⟨g,0,none⟩) (n+1) cap):=by simpa using h1.cell.cell 0
     clear h1 h2 h3 h4 h5 h6 hh hxn hL2
     go_wp2_with fail
     refine (zDo w2 tb g cap l1 x n HX.o.2.2.1 HX.o.2.2.2.1 HX.o.2.1 (by omega)).mono ?_
     rintro e w3 ⟨rfl,g1,g2⟩
     go_wp2_with fail
     go_ret
     refine ⟨rfl,_,l1.take n,⟨g1,?_⟩,?_,?_⟩
     · rw [List.length_take,HX.o.2.2.1,Nat.min_eq_left (by omega)]
       exact HX.o.1.take
     · exact (zEo HX.o.2.1 HX.o.2.2.1).trans (HX.o.2.2.2.2.1.trans (swap_perm l k n))
     · exact (zAr.of (n':=n+1) (c':=cap) (HC1.o.trans HX.o.2.2.2.2.2)).trans (zAr.cell g2)
end Go.Proofs.YtbbojbdigiibbaaGreatDoor
end
section
namespace Srt
variable {α:Type}
def swap (l:List α) (i j:Nat):List α:=match l[i]?,l[j]? with
 | some x,some y=>(l.set i y).set j x
 | _,_=>l
theorem lt_of_some {l:List α} {i:Nat} {x:α} (hx:l[i]?=some x):i < l.length:=by
 rcases Nat.lt_or_ge i l.length with h | h
 · exact h
 · rw [List.getElem?_eq_none h] at hx;cases hx
theorem zJF {l:List α} {i j:Nat} {x y:α} (hx:l[i]?=some x) (hy:l[j]?=some y):swap l i j=(l.set i y).set j x:=by
 unfold swap;rw [hx,hy]
theorem zCE {l:List α} {i j:Nat} {x y:α} (hx:l[i]?=some x) (hy:l[j]?=some y) (k:Nat):(swap l i j)[k]?=if k=j then some x else if k=i then some y else l[k]?:=by
 have hi:=lt_of_some hx
 have hj:=lt_of_some hy
 rw [zJF hx hy]
 simp only [List.getElem?_set,List.length_set]
 by_cases h1:k=j
 · subst h1;simp [hj]
 · have h1':¬ j=k:=fun h=>h1 h.symm
   by_cases h2:k=i
   · subst h2;simp [h1,h1',hi]
   · have h2':¬ i=k:=fun h=>h2 h.symm
     simp [h1,h1',h2,h2']
theorem swap_len {l:List α} {i j:Nat} {x y:α} (hx:l[i]?=some x) (hy:l[j]?=some y):(swap l i j).length=l.length:=by
 rw [zJF hx hy];simp
theorem swap_perm {l:List α} {i j:Nat} {x y:α} (hx:l[i]?=some x) (hy:l[j]?=some y):(swap l i j).Perm l:=by
 have hi:=lt_of_some hx
 have hj:=lt_of_some hy
 rw [zJF hx hy]
 rw [List.getElem?_eq_getElem hi] at hx
 rw [List.getElem?_eq_getElem hj] at hy
 cases hx;cases hy
 exact List.set_set_perm hi hj
structure Ord (lt:α→α→Bool):Prop where
 asymm:∀ a b,lt a b=true→lt b a=false
 trans:∀ a b c,lt b a=false→lt c b=false→lt c a=false
def Upto (lt:α→α→Bool) (l:List α) (n:Nat):Prop:=∀ p q x y,p < q→q < n→l[p]?=some x→l[q]?=some y→lt y x=false
def Ins (lt:α→α→Bool) (l:List α) (j i:Nat):Prop :=
 (∀ p q x y,p < q→q≤i→p≠j→q≠j→l[p]?=some x→l[q]?=some y→lt y x=false)∧∀ q x y,j < q→q≤i→l[j]?=some x→l[q]?=some y→lt y x=false
variable {lt:α→α→Bool} {l:List α} {i j:Nat}
theorem ins_start (h:Upto lt l i):Ins lt l i i :=
 ⟨fun p q x y h1 h2 _ h4 hx hy=>h p q x y h1 (by omega) hx hy,fun q x y h1 h2=>by omega⟩
theorem ins_step (hO:Ord lt) (h:Ins lt l j i) (h0:0 < j) (hj:j≤i) {x y:α} (hx:l[j]?=some x) (hy:l[j - 1]?=some y) (hlt:lt x y=true):Ins lt (swap l j (j - 1)) (j - 1) i:=by
 have hg:=zCE hx hy
 refine ⟨fun p q a b h1 h2 h3 h4 ha hb=>?_,fun q a b h1 h2 ha hb=>?_⟩
 · rw [hg,if_neg h3] at ha
   rw [hg,if_neg h4] at hb
   by_cases e1:p=j
   · rw [if_pos e1] at ha
     cases ha
     rw [if_neg (by omega)] at hb
     exact h.1 (j - 1) q y b (by omega) h2 (by omega) (by omega) hy hb
   · rw [if_neg e1] at ha
     by_cases e2:q=j
     · rw [if_pos e2] at hb
       cases hb
       exact h.1 p (j - 1) a y (by omega) (by omega) e1 (by omega) ha hy
     · rw [if_neg e2] at hb
       exact h.1 p q a b h1 h2 e1 e2 ha hb
 · rw [hg,if_pos rfl] at ha
   cases ha
   rw [hg,if_neg (by omega)] at hb
   by_cases e2:q=j
   · rw [if_pos e2] at hb
     cases hb
     exact hO.asymm x y hlt
   · rw [if_neg e2] at hb
     exact h.2 q x b (by omega) h2 hx hb
theorem ins_stop (hO:Ord lt) (h:Ins lt l j i) (hj:j≤i) (hs:j=0∨∃ x y,l[j]?=some x∧l[j - 1]?=some y∧lt x y=false):Upto lt l (i+1):=by
 intro p q a b h1 h2 ha hb
 by_cases e1:p=j
 · subst e1
   exact h.2 q a b h1 (by omega) ha hb
 · by_cases e2:q=j
   · subst e2
     rcases hs with e | ⟨x,y,hx,hy,hxy⟩
     · omega
     · rw [hx] at hb
       cases hb
       by_cases e3:p=q - 1
       · subst e3
         rw [hy] at ha
         cases ha
         exact hxy
       · exact hO.trans a y _ (h.1 p (q - 1) a y (by omega) (by omega) e1 (by omega) ha hy) hxy
   · exact h.1 p q a b h1 (by omega) e1 e2 ha hb
theorem zE4 {lt:α→α→Bool} (l:List α) (h:Upto lt l l.length):l.Pairwise (fun x y=>lt y x=false):=by
 rw [List.pairwise_iff_getElem]
 intro p q hp hq hpq
 exact h p q _ _ hpq hq (by simp) (by simp)
end Srt
end
section
namespace Go.Proofs.YtbbojbdigiibbaaGreatDoor
open Go Go.RowKit Go.Mem Gf
attribute [local go_sem ↓] Go.wp_at_zero Go.wp_at_succ
structure zIe {α:Type} (St:World→List α→Prop) (N:Nat→Prop) (lt:α→α→Bool) (g sf:Nat) (lb sb:Array Value):Prop where
 new:∀ W l,St W l→∀ k,N k→k < W.heap.size
 alloc:∀ W l o,St W l→St (W.alloc o) l
 less:∀ W l (i j:Nat) x y,j < i→St W l→l[i]?=some x→l[j]?=some y→Calls Tryz.prog g (#[.int .i64 i,.int .i64 j]++lb) W fun e W'=>e=.returned (.bool (lt x y))∧St W' l∧Chg N W W'
 swap:∀ W l (i j:Nat) x y,j < i→St W l→l[i]?=some x→l[j]?=some y→∃ W',(callFunc sf (#[.int .i64 i,.int .i64 j]++sb)).run Tryz.prog W=.ok (.value (.tuple #[])) W'∧St W' (Srt.swap l i j)∧Chg N W W'
 enters:∀ args w,(callFunc g args).run Tryz.prog w=.ok (.enter g args) w
 ord:Srt.Ord lt
theorem zL2 {N:Nat→Prop} {w wr:World} {o:Obj} (h:Chg N (w.alloc o) wr):Chg N w wr:=(Chg.of_below ((Below.refl _ _).alloc (Nat.le_refl _) o)).trans h
set_option maxHeartbeats 2000000 in
set_option maxRecDepth 100000 in
theorem zMf {α:Type} {St:World→List α→Prop} {N:Nat→Prop} {lt:α→α→Bool} {g sf:Nat} {lb sb:Array Value} (S:zIe St N lt g sf lb sb) (l:List α) (n:Nat) (hn:l.length=n) (hl:n≤1000) (w:World) (h:St w l) :
  Calls Tryz.prog 203 #[.agg #[.func (.func g) #[] lb,.func (.func sf) #[] sb],.int .i64 0,.int .i64 n] w fun e w'=>e=.returned (.tuple #[])∧∃ l',St w' l'∧l'.Perm l∧Srt.Upto lt l' n∧Chg N w w':=by
 have eg:=S.enters
 have SS:=Zh S
 have H0:Hid (St (w.alloc (.cells #[.func (.func g) #[] lb,.func (.func sf) #[] sb] 228)) l):=S.alloc _ _ _ h
 have HN:Hid (¬ N w.heap.size):=fun e=>Nat.lt_irrefl _ (S.new _ _ h _ e)
 have HB:=Zh (Blk.new w #[.func (.func g) #[] lb,.func (.func sf) #[] sb] 228)
 obtain ⟨bx,hbx⟩:∃ b,b=w.heap.size:=⟨_,rfl⟩
 obtain ⟨w0,hw0⟩:∃ x,x=w.alloc (.cells #[.func (.func g) #[] lb,.func (.func sf) #[] sb] 228):=⟨_,rfl⟩
 have HW0:=Zh hw0;have HBX:=Zh hbx
 rw [← hw0] at H0
 rw [← hbx] at HN
 rw [← hbx,← hw0] at HB
 have HL:=Zh hn
 clear hw0 hbx h S hn
 go_enter Tryz.func203,Tryz.ntmps203
 go_upto_region 1 with fail
 rw [← HW0.o,← HBX.o]
 go_wp2_with fail
 go_loopw [6] (fun vi wr=>∃ (i:Nat) (m:List α),0 < i∧i≤n+1∧vi=.int .i64 i∧Hid (m.length=n∧St wr m∧m.Perm l∧Srt.Upto lt m (min i n)∧Chg N w0 wr)) (fun vi _=>n+1 - (intOf vi).toNat)
 case atStart=>exact ⟨1,l,by omega,by omega,rfl,HL.o,H0.o,List.Perm.refl _,fun p q _ _ h1 h2=>by omega,Chg.refl _ _⟩
 case round =>
  obtain ⟨i,m,hi0,hi1,rfl,H⟩:=hrel
  by_cases hin:i < n
  · go_wp2_with fail
    go_loopw [7] (fun vj wj=>∃ (j:Nat) (q:List α),j≤i∧vj=.int .i64 j∧Hid (q.length=n∧St wj q∧q.Perm l∧Srt.Ins lt q j i∧Chg N w0 wj)) (fun vj _=>(intOf vj).toNat)
    case atStart=>exact ⟨i,m,Nat.le_refl _,rfl,H.o.1,H.o.2.1,H.o.2.2.1,Srt.ins_start (by have:=H.o.2.2.2.1;rw [Nat.min_eq_left (by omega)] at this;exact this),H.o.2.2.2.2⟩
    case round =>
     obtain ⟨j,q,hji,rfl,G⟩:=hrel
     have HBJ:=Zh (G.o.2.2.2.2.blk HB.o HN.o)
     have c0:wr.cell? ⟨bx,0,none⟩=some (.func (.func g) #[] lb):=HBJ.o.cell 0
     by_cases hj0:0 < j
     · have hx:q[j]?=some (q[j]'(by have:=G.o.1;omega)):=by simp
       have hy:q[j - 1]?=some (q[j - 1]'(by have:=G.o.1;omega)):=by simp
       generalize q[j]'(by have:=G.o.1;omega)=x at hx
       generalize q[j - 1]'(by have:=G.o.1;omega)=y at hy
       have hless:=SS.o.less wr q j (j - 1) x y (by omega) G.o.2.1 hx hy
       rw [show (((j - 1:Nat):Int))=(j:Int) - 1 by omega] at hless
       have HXY:=Zh (Zi hx hy)
       have HLESS:=Zh hless
       clear hx hy hless
       go_wp2_with fail
       refine (HLESS.o).mono ?_
       rintro e w1 ⟨rfl,hS1,hC1⟩
       have HS1:=Zh hS1;have HC1:=Zh (G.o.2.2.2.2.trans hC1)
       have HB1:=Zh (hC1.blk HBJ.o HN.o)
       have c1:w1.cell? ⟨bx,1,none⟩=some (.func (.func sf) #[] sb):=HB1.o.cell 1
       clear hS1 hC1
       cases hlt:lt x y with
       | true =>
         obtain ⟨w2,hsw,hS2,hC2⟩:=SS.o.swap w1 q j (j - 1) x y (by omega) HS1.o HXY.o.1 HXY.o.2
         rw [show (((j - 1:Nat):Int))=(j:Int) - 1 by omega] at hsw
         have HF:Hid ((Srt.swap q j (j - 1)).length=n∧St w2 (Srt.swap q j (j - 1))∧(Srt.swap q j (j - 1)).Perm l∧Srt.Ins lt (Srt.swap q j (j - 1)) (j - 1) i∧Chg N w0 w2) :=
          ⟨by rw [Srt.swap_len HXY.o.1 HXY.o.2];exact G.o.1,hS2,(Srt.swap_perm HXY.o.1 HXY.o.2).trans G.o.2.2.1,Srt.ins_step SS.o.ord G.o.2.2.2.1 hj0 hji HXY.o.1 HXY.o.2 hlt,HC1.o.trans hC2⟩
         have HSW:=Zh hsw
         clear hS2 hC2 hsw
         go_wp2_with fail
         rw [HSW.o,Oper.upon_value]
         go_wp2_with fail
         exact ⟨⟨j - 1,_,by omega,by congr 1;omega,HF.o⟩,by simp [intOf];omega⟩
       | false =>
         have HF:=Zh (Srt.ins_stop SS.o.ord G.o.2.2.2.1 hji (.inr ⟨x,y,HXY.o.1,HXY.o.2,hlt⟩))
         go_wp2_with fail
         exact ⟨⟨i+1,q,by omega,by omega,by go_num,G.o.1,HS1.o,G.o.2.2.1,by rw [Nat.min_eq_left (by omega)];exact HF.o,HC1.o⟩,by simp [intOf];omega⟩
     · have HF:=Zh (Srt.ins_stop SS.o.ord G.o.2.2.2.1 hji (.inl (by omega)))
       go_wp2_with fail
       exact ⟨⟨i+1,q,by omega,by omega,by go_num,G.o.1,G.o.2.1,G.o.2.2.1,by rw [Nat.min_eq_left (by omega)];exact HF.o,G.o.2.2.2.2⟩,by simp [intOf];omega⟩
  · go_wp2_with fail
    go_end0
    refine ⟨rfl,m,H.o.2.1,H.o.2.2.1,?_,?_⟩
    · have:=H.o.2.2.2.1
      rw [Nat.min_eq_right (by omega)] at this
      exact this
    · have:=H.o.2.2.2.2
      rw [HW0.o] at this
      exact zL2 this
set_option maxHeartbeats 2000000 in
set_option maxRecDepth 100000 in
theorem zEk {α:Type} {St:World→List α→Prop} {N:Nat→Prop} {lt:α→α→Bool} {g sf:Nat} {lb sb:Array Value} (S:zIe St N lt g sf lb sb) (l:List α) (n:Nat) (lim:Int) (hn:l.length=n) (hl:n≤12) (w:World) (h:St w l) :
  Calls Tryz.prog 164 #[.agg #[.func (.func g) #[] lb,.func (.func sf) #[] sb],.int .i64 0,.int .i64 n,.int .i64 lim] w fun e w'=>e=.returned (.tuple #[])∧∃ l',St w' l'∧l'.Perm l∧Srt.Upto lt l' n∧Chg N w w':=by
 have H0:Hid (St (w.alloc (.cells #[.func (.func g) #[] lb,.func (.func sf) #[] sb] 228)) l):=S.alloc _ _ _ h
 have SS:=Zh S
 have HB:=Zh (Blk.new w #[.func (.func g) #[] lb,.func (.func sf) #[] sb] 228)
 obtain ⟨bx,hbx⟩:∃ b,b=w.heap.size:=⟨_,rfl⟩
 obtain ⟨w0,hw0⟩:∃ x,x=w.alloc (.cells #[.func (.func g) #[] lb,.func (.func sf) #[] sb] 228):=⟨_,rfl⟩
 have HW0:=Zh hw0;have HBX:=Zh hbx
 rw [← hw0] at H0
 rw [← hbx,← hw0] at HB
 have HL:=Zh hn
 have c0:w0.cell? ⟨bx,0,none⟩=some (.func (.func g) #[] lb):=HB.o.cell 0
 have c1:w0.cell? ⟨bx,1,none⟩=some (.func (.func sf) #[] sb):=HB.o.cell 1
 clear hw0 hbx h S hn
 go_enter Tryz.func164,Tryz.ntmps164
 go_upto_region 1 with fail
 rw [← HW0.o,← HBX.o]
 go_wp2_with fail
 go_loopw [1,2] (fun a b wr=>wr=w0∧a=.int .i64 0∧b=.int .i64 n) (fun _ _ _=>0)
 case atStart=>exact ⟨rfl,rfl,rfl⟩
 case round =>
  obtain ⟨rfl,rfl,rfl⟩:=hrel
  go_wp2_with fail
  refine (zMf SS.o l n HL.o (by omega) _ H0.o).mono ?_
  rintro e w1 ⟨rfl,l',h1,h2,h3,h4⟩
  go_wp2_with fail
  go_returns
  rw [HW0.o] at h4
  exact ⟨rfl,l',h1,h2,h3,zL2 h4⟩
end Go.Proofs.YtbbojbdigiibbaaGreatDoor
end
section
namespace Go.Mem
open Go Go.RowKit Gf
structure zEq {α:Type} (enc:α→List Value) (Wf:α→Prop) (k:Nat):Prop where
 len:∀ x,Wf x→(enc x).length=k
 one:∀ x v,v∈enc x→v.oneCell'=true
 pos:0 < k
def zCG {α:Type} (enc:α→List Value) (l:List α):List Value:=l.flatMap enc
section
variable {α:Type} {enc:α→List Value} {Wf:α→Prop} {k:Nat}
theorem zCx (E:zEq enc Wf k):∀ (l:List α),(∀ x∈l,Wf x)→(zCG enc l).length=l.length*k
 | [],_=>by simp [zCG]
 | x::l,h=>by
   have:=zCx E l (fun y hy=>h y (by simp [hy]))
   unfold zCG at this ⊢
   rw [List.flatMap_cons,List.length_append,E.len x (h x (by simp)),this,List.length_cons,Nat.add_mul];omega
theorem zBV (E:zEq enc Wf k):∀ (l:List α),(∀ x∈l,Wf x)→∀ (i:Nat) (x:α),l[i]?=some x→∀ c,c < k→(zCG enc l)[i*k+c]?=(enc x)[c]?
 | y::l,h,0,x,hx,c,hc=>by
   simp at hx
   subst hx
   unfold zCG
   rw [List.flatMap_cons,Nat.zero_mul,Nat.zero_add,List.getElem?_append_left (by rw [E.len y (h y (by simp))];exact hc)]
 | y::l,h,i+1,x,hx,c,hc=>by
   have ih:=zBV E l (fun z hz=>h z (by simp [hz])) i x (by simpa using hx) c hc
   have hl:=E.len y (h y (by simp))
   unfold zCG at ih ⊢
   have e:(i+1)*k+c=k+(i*k+c):=by rw [Nat.add_mul];omega
   rw [List.flatMap_cons,List.getElem?_append_right (by rw [hl];omega),hl,e,Nat.add_sub_cancel_left]
   exact ih
theorem zNQ (l m:List α):zCG enc (l++m)=zCG enc l++zCG enc m:=by unfold zCG;rw [List.flatMap_append]
theorem zNR (x:α):zCG enc [x]=enc x:=by simp [zCG]
theorem zH5 (E:zEq enc Wf k) (l:List α):∀ u∈zCG enc l,u.oneCell'=true:=fun u hu=>by
 obtain ⟨x,_,hx⟩:=List.mem_flatMap.1 hu
 exact E.one x u hx
theorem zFq {l:List α} (h:∀ x∈l,Wf x) {i:Nat} {y:α} (hy:Wf y):∀ x∈l.set i y,Wf x:=fun x hx=>by
 rcases List.mem_or_eq_of_mem_set hx with h' | rfl
 · exact h x h'
 · exact hy
theorem zNU {i j k:Nat} (hk:0 < k):(i*k≤j∧j < i*k+k)↔j / k=i:=by
 have e:=Nat.div_add_mod' j k
 have hr:=Nat.mod_lt j hk
 constructor
 · rintro ⟨h1,h2⟩
   exact Nat.div_eq_of_lt_le h1 (by rw [Nat.add_mul];omega)
 · intro h
   subst h
   omega
theorem zNS (E:zEq enc Wf k) (l:List α) (h:∀ x∈l,Wf x) {i:Nat} {y:α} (hy:Wf y) (hi:i < l.length) (j:Nat) (hj:j < l.length*k) :
  (zCG enc (l.set i y))[j]?=if i*k≤j∧j < i*k+k then (enc y)[j - i*k]? else (zCG enc l)[j]?:=by
 have e:=Nat.div_add_mod' j k
 have hr:=Nat.mod_lt j E.pos
 have hq:j / k < l.length:=Nat.div_lt_of_lt_mul (by rw [Nat.mul_comm];exact hj)
 have hx:l[j / k]?=some l[j / k]:=by simp
 by_cases c:i*k≤j∧j < i*k+k
 · rw [if_pos c]
   have hji:=(zNU E.pos).1 c
   have:=zBV E _ (zFq h hy) i y (by rw [List.getElem?_set_self hi]) (j % k) hr
   rw [← hji,e] at this
   rw [← hji,this]
   congr 1
   omega
 · rw [if_neg c]
   have hji:i≠j / k:=fun h'=>c ((zNU E.pos).2 h'.symm)
   have h1:=zBV E _ (zFq h hy) (j / k) _ (by rw [List.getElem?_set_ne hji];exact hx) (j % k) hr
   have h2:=zBV E l h (j / k) _ hx (j % k) hr
   rw [e] at h1 h2
   rw [h1,h2]
end
structure zAb {α:Type} (enc:α→List Value) (Wf:α→Prop) (k:Nat) (ti:TypeId) (w:World) (base:Nat) (v:Value) (l:List α):Prop where
 own:w.ownsRow base ti k v l.length (zCG enc l)
 wf:∀ x∈l,Wf x
structure zAt {α:Type} (enc:α→List Value) (Wf:α→Prop) (k:Nat) (ti:TypeId) (w:World) (base g n cap:Nat) (l:List α):Prop where
 own:w.ownsRow base ti k (.slice (some ⟨g,0,none⟩) n cap) n (zCG enc l)
 len:n=l.length
 wf:∀ x∈l,Wf x
section
variable {α:Type} {enc:α→List Value} {Wf:α→Prop} {k:Nat} {ti:TypeId} {w:World} {base g n cap:Nat} {l:List α} {v:Value}
theorem zAb.nil (enc:α→List Value) (Wf:α→Prop) (k:Nat) (ti:TypeId) (w:World) (base:Nat):zAb enc Wf k ti w base (.slice none 0 0) ([]:List α) :=
 ⟨World.ownsRow_nil w base ti k,fun _ h=>by cases h⟩
theorem zAb.ex (h:zAb enc Wf k ti w base v l) (h0:0 < l.length):∃ g cap,v=.slice (some ⟨g,0,none⟩) l.length cap∧zAt enc Wf k ti w base g l.length cap l:=by
 rcases h.own.2 with ⟨_,e⟩ | ⟨g,cap,cur,e,_⟩
 · omega
 · exact ⟨g,cap,e,by rw [← e];exact h.own,rfl,h.wf⟩
theorem zAb.slice (h:zAb enc Wf k ti w base v l):∃ p c,v=.slice p l.length c:=by
 obtain ⟨a,c,e,_⟩:=zAG h.own
 exact ⟨a,c,e⟩
theorem zAb.chg {S:Nat→Prop} {w':World} (h:zAb enc Wf k ti w base v l) (hc:Chg S w w') (hs:∀ g,v.ownBlock=some g→¬ S g):zAb enc Wf k ti w' base v l:=⟨zAl h.own hc hs,h.wf⟩
theorem zAb.lower {b:Nat} (h:zAb enc Wf k ti w base v l) (hb:b≤base):zAb enc Wf k ti w b v l:=by
 refine ⟨⟨h.own.1,?_⟩,h.wf⟩
 rcases h.own.2 with e | ⟨g,cap,cur,e,h1,h2⟩
 · exact .inl e
 · exact .inr ⟨g,cap,cur,e,by omega,h2⟩
theorem zAt.to (h:zAt enc Wf k ti w base g n cap l):zAb enc Wf k ti w base (.slice (some ⟨g,0,none⟩) n cap) l:=⟨by rw [← h.len];exact h.own,h.wf⟩
theorem zAt.block (h:zAt enc Wf k ti w base g n cap l):∃ cur:Array Value,w.heap[g]?=some (.cells cur ti (0,0))∧base≤g∧n≤cap∧cap≤maxLen∧cur.size=cap*k∧∀ j,j < n*k→cur[j]?=(zCG enc l)[j]?:=by
 rcases h.own.2 with ⟨e,_⟩ | ⟨g',cap',cur,e,hb,hh,h1,h2,h3,h4⟩
 · cases e
 · cases e
   refine ⟨cur,hh,hb,h1,h2,h3,fun j hj=>?_⟩
   rw [← h4,List.getElem?_take,if_pos hj,Array.getElem?_toList]
theorem zAt.cell (h:zAt enc Wf k ti w base g n cap l) {j:Nat} (hj:j < n*k):w.cell? ⟨g,j,none⟩=(zCG enc l)[j]?:=by
 obtain ⟨cur,hh,_,_,_,_,hc⟩:=h.block
 rw [← hc j hj]
 have hB:Blk w g cur ti:=hh
 exact hB.cell j
theorem zh {l:List α} {i:Nat} {x:α} (hx:l[i]?=some x):i < l.length:=by
 rcases Nat.lt_or_ge i l.length with h | h
 · exact h
 · rw [List.getElem?_eq_none h] at hx;cases hx
theorem zNx {i n k c:Nat} (hi:i < n) (hc:c < k):i*k+c < n*k:=by
 have:=Nat.mul_le_mul_right k (show i+1≤n from hi)
 rw [Nat.add_mul,Nat.one_mul] at this
 omega
theorem zAt.range (E:zEq enc Wf k) (h:zAt enc Wf k ti w base g n cap l) {i:Nat} {x:α} (hx:l[i]?=some x):w.rangeAt g (i*k) (enc x):=fun j v hv=>by
 have hi:=zh hx
 have hj:j < k:=by
  have:=zh hv
  rwa [E.len x (h.wf x (List.mem_of_getElem? hx))] at this
 rw [h.cell (zNx (by rw [h.len];exact hi) hj),zBV E l h.wf i x hx j hj]
 exact hv
theorem zAt.there (h:zAt enc Wf k ti w base g n cap l) {i:Nat} (hi:i < n):w.there g (i*k) k:=fun j hj=>by
 obtain ⟨cur,hh,_,h1,_,h3,_⟩:=h.block
 have hB:Blk w g cur ti:=hh
 have:=zNx (k:=k) hi hj
 have:=Nat.mul_le_mul_right k h1
 exact ⟨by rw [hB.cell];simp;omega,hB.free _⟩
theorem zAt.read (E:zEq enc Wf k) (h:zAt enc Wf k ti w base g n cap l) {i:Nat} {x:α} (hx:l[i]?=some x):zN k w g (i*k)=enc x:=zA3 (h.range E hx) (E.len x (h.wf x (List.mem_of_getElem? hx)))
theorem zAt.set (E:zEq enc Wf k) (h:zAt enc Wf k ti w base g n cap l) {i:Nat} (hi:i < n) {y:α} (hy:Wf y):zAt enc Wf k ti (w.setCells g (i*k) (enc y)) base g n cap (l.set i y):=by
 obtain ⟨cur,hh,hb,h1,h2,h3,h4⟩:=h.block
 have hB:Blk w g cur ti:=hh
 obtain ⟨cur',b1,b2,b3⟩:=Blk.setCells (enc y) (i*k) w cur hB
 have hll:=h.len
 have hm:n*k≤cap*k:=Nat.mul_le_mul_right _ h1
 refine ⟨⟨?_,.inr ⟨g,cap,cur',rfl,hb,b1,h1,h2,by rw [b2,h3],?_⟩⟩,by rw [List.length_set];exact hll,zFq h.wf hy⟩
 · rw [zCx E _ (zFq h.wf hy),List.length_set,hll]
 · apply List.ext_getElem?
   intro j
   have hlen:=zCx E _ (zFq h.wf hy (i:=i))
   rw [List.length_set,← hll] at hlen
   rw [List.getElem?_take,Array.getElem?_toList]
   by_cases hj:j < n*k
   · rw [if_pos hj,b3 j (by omega),zNS E l h.wf hy (by omega) j (by rw [← hll];exact hj),E.len y hy,h4 j hj]
   · rw [if_neg hj,List.getElem?_eq_none (by omega)]
theorem zAt.chg {S:Nat→Prop} {w':World} (h:zAt enc Wf k ti w base g n cap l) (hc:Chg S w w') (hs:¬ S g):zAt enc Wf k ti w' base g n cap l:=⟨zAl h.own hc (fun q hq=>by cases hq;exact hs),h.len,h.wf⟩
theorem zAt.lt (h:zAt enc Wf k ti w base g n cap l):g < w.heap.size:=by
 obtain ⟨cur,hh,_⟩:=h.block
 exact lt_of_block hh
end
end Go.Mem
end
section
namespace Go.Mem
open Go Go.RowKit Gf
section
variable {w:World} {b:Nat} {arr:Array Value} {t:TypeId}
theorem zO {n o:Nat} (h:Blk w b arr t) (hn:o+n≤arr.size):zW n w b o:=fun j hj=>by
 exact ⟨by rw [h.cell];simp;omega,h.free _⟩
theorem zCV {n o:Nat} (h:Blk w b arr t) {cs:List Value} (hn:cs.length=n) (hc:∀ k,k < n→arr[o+k]?=cs[k]?):zN n w b o=cs:=by
 refine zA3 (fun k v hv=>?_) hn
 rw [h.cell,hc k (by rw [← hn];exact (List.getElem?_eq_some_iff.1 hv).1)]
 exact hv
theorem zS {n:Nat} {cs:List Value} (h:Blk w b cs.toArray t) (hn:cs.length=n):zN n w b 0=cs:=zCV h hn (fun k _=>by rw [Nat.zero_add];simp)
end
theorem zEx {P:Program} (w:World) (d:Nat) {e:TypeId} (he:P.underlying e=some (.int .u8)) (hc:P.cellsOf e=1) (xs ys:List UInt8):∀ is:List Nat,(∀ i∈is,i < xs.length∧i < ys.length) →
  (Op.eqItems (d+1) e (P.cellsOf e) (bV xs).toArray (bV ys).toArray is).run P w=.ok (decide (∀ i∈is,xs[i]?=ys[i]?)) w
 | [],_=>by simp [Op.eqItems]
 | i::is,h=>by
   obtain ⟨h1,h2⟩:=h i (by simp)
   have hp:P.plainKey e=true:=by simp [Program.plainKey,he]
   have hx:xs[i]?=some xs[i]:=by simp
   have hy:ys[i]?=some ys[i]:=by simp
   generalize xs[i]=a at hx
   generalize ys[i]=b at hy
   have p1:=run_part_plain (P:=P) w hp (xs:=(bV xs).toArray) (off:=i*P.cellsOf e) (v:=.int .u8 (a.toNat:Int)) (by rw [hc,Nat.mul_one];simp [bV,hx])
   have p2:=run_part_plain (P:=P) w hp (xs:=(bV ys).toArray) (off:=i*P.cellsOf e) (v:=.int .u8 (b.toNat:Int)) (by rw [hc,Nat.mul_one];simp [bV,hy])
   have ih:=zEx w d he hc xs ys is (fun j hj=>h j (by simp [hj]))
   simp only [Op.eqItems,Sem.run_bind,p1,p2,run_equalIn_int w d e .u8 .u8 _ _ he,Result.andThen_ok]
   by_cases hab:a=b
   · subst hab
     simp only [beq_self_eq_true,Bool.not_true,Bool.false_eq_true,if_false,ih]
     congr 1
     simp [hx,hy]
   · have hn:((a.toNat:Int) == (b.toNat:Int))=false:=by
      have:a.toNat≠b.toNat:=fun e=>hab (Gf.ext e)
      simp;omega
     simp only [hn,Bool.not_false,if_true,Sem.run_pure]
     congr 1
     rw [eq_comm,decide_eq_false_iff_not]
     intro hall
     have:=hall i (by simp)
     rw [hx,hy] at this
     exact hab (Option.some.inj this)
theorem zFk {P:Program} (w:World) (d n:Nat) {t e:TypeId} {i:TypeInfo} (hu:P.underlying t=some (.array n e)) (hi:P.info? e=some i) (he:P.underlying e=some (.int .u8)) (hc:P.cellsOf e=1) (xs ys:List UInt8) (hx:xs.length=n) (hy:ys.length=n) :
  (Op.equalIn (d+2) t (.agg (bV xs).toArray) (.agg (bV ys).toArray)).run P w=.ok (decide (xs=ys)) w:=by
 rw [show d+2=(d+1)+1 from rfl,run_equalIn_array w (d+1) _ _ hu hi,zEx w d he hc xs ys (List.range n) (fun i hi=>by rw [List.mem_range] at hi;omega)]
 congr 1
 refine decide_eq_decide.2 ⟨?_,?_⟩
 · intro h
   apply List.ext_getElem?
   intro k
   rcases Nat.lt_or_ge k n with hk | hk
   · exact h k (List.mem_range.2 hk)
   · rw [List.getElem?_eq_none (by omega),List.getElem?_eq_none (by omega)]
 · intro h k _
   rw [h]
theorem zCy:∀ a:List UInt8,Go.Lib.compareBytes a a=0
 | []=>rfl
 | x::a=>by
   unfold Go.Lib.compareBytes
   rw [if_neg (fun h=>by exact absurd h (by simp)),if_neg (fun h=>by exact absurd h (by simp))]
   exact zCy a
theorem zE3 (a b:UInt8):a < b↔a.toNat < b.toNat:=UInt8.lt_iff_toNat_lt
theorem zA9:∀ a b:List UInt8,Go.Lib.compareBytes b a=- Go.Lib.compareBytes a b
 | [],[]=>rfl
 | [],_::_=>rfl
 | _::_,[]=>rfl
 | x::a,y::b=>by
   unfold Go.Lib.compareBytes
   have h1:=zE3 x y
   have h2:=zE3 y x
   by_cases c1:x < y
   · have c2:¬ y < x:=by rw [h2];rw [h1] at c1;omega
     rw [if_neg c2,if_pos c1,if_pos c1];rfl
   · by_cases c2:y < x
     · rw [if_pos c2,if_neg c1,if_pos c2]
     · rw [if_neg c2,if_neg c1,if_neg c1,if_neg c2];exact zA9 a b
theorem zCn:∀ a b c:List UInt8,Go.Lib.compareBytes a b≤0→Go.Lib.compareBytes b c≤0→Go.Lib.compareBytes a c≤0
 | [],_,[],_,_=>by decide
 | [],_,_::_,_,_=>by show (-1:Int)≤0;decide
 | _::_,[],_,h,_=>by exact absurd (show (1:Int)≤0 from h) (by decide)
 | _::_,_::_,[],_,h=>by exact absurd (show (1:Int)≤0 from h) (by decide)
 | x::a,y::b,z::c,h1,h2=>by
   unfold Go.Lib.compareBytes at h1 h2 ⊢
   have e1:=zE3 x y;have e2:=zE3 y x;have e3:=zE3 y z;have e4:=zE3 z y;have e5:=zE3 x z;have e6:=zE3 z x
   by_cases c5:x < z
   · rw [if_pos c5];decide
   · rw [if_neg c5]
     have d2:¬ y < x:=fun c=>by
      have:¬ x < y:=by rw [e1];rw [e2] at c;omega
      rw [if_neg this,if_pos c] at h1
      exact absurd h1 (by decide)
     have d4:¬ z < y:=fun c=>by
      have:¬ y < z:=by rw [e3];rw [e4] at c;omega
      rw [if_neg this,if_pos c] at h2
      exact absurd h2 (by decide)
     have e:¬ z < x:=by rw [e6];rw [e2] at d2;rw [e4] at d4;omega
     rw [if_neg e]
     have d1:¬ x < y:=by rw [e1];rw [e5] at c5;rw [e2] at d2;rw [e4] at d4;omega
     have d3:¬ y < z:=by rw [e3];rw [e5] at c5;rw [e2] at d2;rw [e4] at d4;omega
     rw [if_neg d1,if_neg d2] at h1
     rw [if_neg d3,if_neg d4] at h2
     exact zCn a b c h1 h2
theorem zFW:∀ a b:List UInt8,Go.Lib.compareBytes a b=0→a=b
 | [],[],_=>rfl
 | [],_::_,h=>by exact absurd (show (-1:Int)=0 from h) (by decide)
 | _::_,[],h=>by exact absurd (show (1:Int)=0 from h) (by decide)
 | x::a,y::b,h=>by
   unfold Go.Lib.compareBytes at h
   have e1:=zE3 x y;have e2:=zE3 y x
   by_cases c1:x < y
   · rw [if_pos c1] at h;exact absurd h (by decide)
   · rw [if_neg c1] at h
     by_cases c2:y < x
     · rw [if_pos c2] at h;exact absurd h (by decide)
     · rw [if_neg c2] at h
       have:x=y:=Gf.ext (by rw [e1] at c1;rw [e2] at c2;omega)
       rw [this,zFW a b h]
end Go.Mem
namespace Go.Proofs.YtbbojbdigiibbaaGreatDoor
open Go Go.RowKit Go.Mem Gf
theorem zIk (bs:List UInt8):Lib.bytesOf (bs.map fun u=>(u.toNat:Int))=bs:=by
 unfold Lib.bytesOf
 rw [List.map_map]
 conv=>rhs;rw [← List.map_id bs]
 apply List.map_congr_left
 intro u _
 simp
theorem zD4 {P:Program} {w:World} {v:Value} {bs:List UInt8} (h:Bys w v bs):(Extern.Bytes.bytesOf v).run P w=.ok ⟨bs.toArray⟩ w:=by
 obtain ⟨a,cap,rfl,h1,h2,h3⟩:=h
 cases a with
 | none =>
   have:bs=[]:=by
    rcases Nat.eq_zero_or_pos bs.length with e | e
    · exact List.eq_nil_of_length_eq_zero e
    · obtain ⟨b,off,e2,_⟩:=h3 e;cases e2
   subst this
   simp [Extern.Bytes.bytesOf]
   rfl
 | some a =>
   have hl:=Lib.run_loadBytesX (P:=P) w (bs.map fun u=>(u.toNat:Int)) a .empty (fun j x hj=>by
    rw [List.getElem?_map] at hj
    obtain ⟨u,hu,rfl⟩:=Option.map_eq_some_iff.1 hj
    have hp:0 < bs.length:=by have:=(List.getElem?_eq_some_iff.1 hu).1;omega
    obtain ⟨b,off,e,hc⟩:=h3 hp
    cases e
    have e2:(⟨b,off,none⟩:Addr).add j=⟨b,off+j,none⟩:=by unfold Addr.add;split <;> simp_all
    rw [e2]
    exact hc j u hu)
   rw [List.length_map,zIk] at hl
   show (Extern.Bytes.loadBytes a bs.length .empty).run P w=_
   rw [hl,show ByteArray.empty.data++bs.toArray=bs.toArray from Array.empty_append ..]
set_option maxRecDepth 100000 in
noncomputable def cmpFn:Func:=(Tryz.prog.funcs[165]?).get (by kernel_rfl)
set_option maxRecDepth 100000 in
theorem zNf:Tryz.prog.funcs[165]?=some cmpFn:=(Option.some_get _).symm
set_option maxRecDepth 100000 in
theorem zGJ (va vb:Value) (xs ys:List UInt8) (w:World) (ha:Bys w va xs) (hb:Bys w vb ys) :
  Calls Tryz.prog 116 #[va,vb] w fun e w'=>e=.returned (.int .i64 (Go.Lib.compareBytes xs ys))∧w'=w:=by
 have h1:=zD4 (P:=Tryz.prog) ha
 have h2:=zD4 (P:=Tryz.prog) hb
 have hx:(callFunc 165 #[va,vb]).run Tryz.prog w=.ok (.value (.int .i64 (Go.Lib.compareBytes xs ys))) w:=by
  rw [run_callFunc_extern zNf (by kernel_rfl) (by kernel_rfl) (by kernel_rfl) (e:=Extern.BytealgCompare.compare) (by kernel_rfl)]
  change ((do pure (goInt (Extern.BytealgCompare.cmp (← Extern.Bytes.bytesOf va) (← Extern.Bytes.bytesOf vb))):Sem Value).run Tryz.prog w).andThen _=_
  simp only [Sem.run_bind,h1,h2,Sem.run_pure,Result.andThen_ok]
  rw [Lib.cmp_eq]
  rfl
 clear ha hb h1 h2
 go_enter Tryz.func116,Tryz.ntmps116
 go_wp2_with fail
 go_ret
 exact ⟨rfl,rfl⟩
end Go.Proofs.YtbbojbdigiibbaaGreatDoor
end
