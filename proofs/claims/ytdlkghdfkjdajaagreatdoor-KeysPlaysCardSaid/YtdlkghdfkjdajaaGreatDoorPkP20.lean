/- Texts of this proof,packed: Ref10Open. -/
import Derived.Test.YtdlkghdfkjdajaaGreatDoorPkP19
section
namespace Go.Mem
open Go Go.RowKit Gf Go.Proofs.YtdlkghdfkjdajaaGreatDoor
set_option linter.unusedVariables false
def zBT (D:zA) (room i:Nat):List UInt8:=zBw (room*32) fun k=>D.f (i*(room+1)*32+32+k)
def ro1 (D0:zA) (room:Nat):Nat→Bool × zA × List zR
 | 0=>(true,D0,[])
 | i+1 =>
   if (ro1 D0 room i).1=false then ro1 D0 room i else
   if (ro1 D0 room i).2.1.f (i*(room+1)*32)≠1 then ro1 D0 room i else
   match Sto.parse (zBT (ro1 D0 room i).2.1 room i) with
   | some x=>(true,(ro1 D0 room i).2.1,(ro1 D0 room i).2.2++[⟨x.name,x.num,x.data,i⟩])
   | none=>(decide ((ro1 D0 room i).2.1.wres ((i*(room+1):Nat):Int) 0=0),(ro1 D0 room i).2.1.wr ((i*(room+1):Nat):Int) [],(ro1 D0 room i).2.2)
theorem zJJ (D:zA) (room i:Nat):(zBT D room i).length=room*32:=by unfold zBT;simp [zBw]
theorem zZ.cellB {w:World} {r B:Nat} {s:zA} (h:zZ w r B s) {j:Nat} (hj:j < s.n*32):w.cell? ⟨B,j,none⟩=some (.int .u8 ((s.f j).toNat:Int)):=by
 obtain ⟨cap,atv,arr,hd,a,b,hL,r1,r2,_⟩:=h
 rw [hL.cell]
 exact r2 j hj
theorem zZ.head {w:World} {r B:Nat} {s:zA} (h:zZ w r B s):∃ cap,s.n*32≤cap∧cap≤9223372036854775807∧w.cell? ⟨r,0,none⟩=some (.slice (some ⟨B,0,none⟩) (s.n*32) cap)∧w.cell? ⟨r,1,none⟩=some (.bool s.dead)∧(∀ o m c',m≤c'→c'≤maxLen→o+m≤s.n*32→Bys w (.slice (some ⟨B,o,none⟩) m c') (zBw m fun k=>s.f (o+k)))∧s.n≤4096:=by
 obtain ⟨cap,atv,arr,hd,a,b,hL,r1,r2,r3,r4,_⟩:=h
 exact ⟨cap,a,b,hd.cell 0,hd.cell 1,fun o m c' hc hm ho=>hL.mid_bys hc hm fun k hk=>r2 _ (by omega),r4⟩
theorem zLR (D0:zA) (room:Nat):∀ i,(ro1 D0 room i).2.1.n=D0.n
 | 0=>rfl
 | i+1=>by
   have ih:=zLR D0 room i
   rw [ro1]
   split
   · exact ih
   · split
     · exact ih
     · split
       · exact ih
       · exact (zA.wr_n _ _ _).trans ih
theorem zFR (D0:zA) (room:Nat):∀ i,(ro1 D0 room i).2.1.writes≤D0.writes+i
 | 0=>Nat.le_refl _
 | i+1=>by
   have ih:=zFR D0 room i
   rw [ro1]
   split
   · omega
   · split
     · omega
     · split
       · show (ro1 D0 room i).2.1.writes≤_;omega
       · have:∀ (s:zA) (j:Int) (bs:List UInt8),(s.wr j bs).writes≤s.writes+1:=fun s j bs=>by
          unfold zA.wr zA.write
          split
          · split
            · exact Nat.le_succ _
            · exact Nat.le_refl _
          · exact Nat.le_succ _
         exact Nat.le_trans (this _ _ _) (by omega)
theorem zJj (D0:zA) (room:Nat):∀ i,(ro1 D0 room i).2.2.length≤i∧∀ x∈(ro1 D0 room i).2.2,x.data.length≤room*32∧x.num < 1000000000000∧x.slot < i
 | 0=>⟨Nat.le_refl _,fun _ h=>by cases h⟩
 | i+1=>by
   have ih:=zJj D0 room i
   rw [ro1]
   split
   · exact ⟨by omega,fun x hx=>⟨(ih.2 x hx).1,(ih.2 x hx).2.1,by have:=(ih.2 x hx).2.2;omega⟩⟩
   · split
     · exact ⟨by omega,fun x hx=>⟨(ih.2 x hx).1,(ih.2 x hx).2.1,by have:=(ih.2 x hx).2.2;omega⟩⟩
     · split
       · rename_i y hy
         have hb:y.data.length≤room*32∧y.num < 4294967296:=by
          rw [zCP] at hy
          split at hy
          · cases hy
          · rename_i x0 r0 h0
            split at hy
            · cases hy
            · rename_i x1 r1 h1
              split at hy
              · rename_i h4
                split at hy
                · cases hy
                · rename_i x2 r2 h2
                  injection hy with hy
                  subst hy
                  have e1:=zEj h0
                  have e2:=zEj h1
                  have e3:=zJt h2
                  have e4:(zBT (ro1 D0 room i).2.1 room i).length=room*32:=by unfold zBT;simp [zBw]
                  refine ⟨by show x2.length≤_;omega,?_⟩
                  show Cod.zAh x1 < _
                  have:=Cod.zDd x1 0
                  rw [h4] at this
                  unfold Cod.zAh
                  omega
              · cases hy
         refine ⟨by simp only [List.length_append,List.length_singleton];omega,fun x hx=>?_⟩
         rcases List.mem_append.1 hx with hx | hx
         · exact ⟨(ih.2 x hx).1,(ih.2 x hx).2.1,by have:=(ih.2 x hx).2.2;omega⟩
         · rw [List.mem_singleton.1 hx];exact ⟨hb.1,by show y.num < _;omega,Nat.lt_succ_self _⟩
       · exact ⟨by show (ro1 D0 room i).2.2.length≤_;omega,fun x hx=>⟨(ih.2 x hx).1,(ih.2 x hx).2.1,by have:=(ih.2 x hx).2.2;omega⟩⟩
def zBU (all:List zR) (x:zR) (i k:Nat):Bool:=match all[k]? with
 | none=>false
 | some y=>(y.name.toList == x.name.toList) && (decide (x.num < y.num) || (decide (y.num=x.num) && decide (k < i)))
def zBN (all:List zR) (x:zR) (i:Nat):Nat→Bool
 | 0=>true
 | k+1=>zBN all x i k && !zBU all x i k
def ro2 (room:Nat) (all:List zR) (D1:zA):Nat→Bool × zA × List zR
 | 0=>(true,D1,[])
 | i+1 =>
   if (ro2 room all D1 i).1=false then ro2 room all D1 i else
   match all[i]? with
   | none=>ro2 room all D1 i
   | some x =>
     if zBN all x i all.length=true then (true,(ro2 room all D1 i).2.1,zAf zR.name (ro2 room all D1 i).2.2 x)
     else (decide ((ro2 room all D1 i).2.1.wres ((x.slot*(room+1):Nat):Int) 0=0),(ro2 room all D1 i).2.1.wr ((x.slot*(room+1):Nat):Int) [],(ro2 room all D1 i).2.2)
def zAV (D0:zA) (slots room:Nat):Int × zA × List zR :=
 if D0.dead=true then (8,D0,[]) else
 if (ro1 D0 room slots).1=false then (8,(ro1 D0 room slots).2.1,[]) else
 if (ro2 room (ro1 D0 room slots).2.2 (ro1 D0 room slots).2.1 (ro1 D0 room slots).2.2.length).1=false then (8,(ro2 room (ro1 D0 room slots).2.2 (ro1 D0 room slots).2.1 (ro1 D0 room slots).2.2.length).2.1,[]) else
 (0,(ro2 room (ro1 D0 room slots).2.2 (ro1 D0 room slots).2.1 (ro1 D0 room slots).2.2.length).2.1,(ro2 room (ro1 D0 room slots).2.2 (ro1 D0 room slots).2.1 (ro1 D0 room slots).2.2.length).2.2)
theorem zI8 {α:Type} (nm:α→ByteArray) (r:α) (l:List α) (s:List α × Bool):(l.foldl (zAF nm r) s).1.length+(if (l.foldl (zAF nm r) s).2=true then 0 else 1)≤s.1.length+(if s.2=true then 0 else 1)+l.length:=by
 induction l generalizing s with
 | nil=>exact Nat.le_refl _
 | cons x l ih =>
   rw [List.foldl_cons,List.length_cons]
   refine Nat.le_trans (ih _) ?_
   obtain ⟨s1,s2⟩:=s
   unfold zAF
   cases s2 <;> simp only [] <;> split <;> split <;> simp_all <;> omega
theorem zL2 {α:Type} (nm:α→ByteArray) (l:List α) (r:α):(zAf nm l r).length≤l.length+1:=by
 have h:=zI8 nm r l ([],false)
 unfold zAf zAM
 simp only [List.length_nil] at h
 split
 · rename_i h1
   rw [if_pos h1] at h
   simp at h
   omega
 · rename_i h1
   rw [if_neg h1] at h
   rw [List.length_append,List.length_singleton]
   simp at h
   omega
theorem zC6 (room:Nat) (all:List zR) (D1:zA):∀ i,(ro2 room all D1 i).2.2.length≤i∧(∀ x∈(ro2 room all D1 i).2.2,x∈all)∧(ro2 room all D1 i).2.1.n=D1.n∧(ro2 room all D1 i).2.1.writes≤D1.writes+i
 | 0=>⟨Nat.le_refl _,(fun _ h=>by cases h),rfl,Nat.le_refl _⟩
 | i+1=>by
   obtain ⟨h1,h2,h3,h4⟩:=zC6 room all D1 i
   rw [ro2]
   split
   · exact ⟨by omega,h2,h3,by omega⟩
   · split
     · exact ⟨by omega,h2,h3,by omega⟩
     · rename_i x hx
       split
       · refine ⟨?_,fun y hy=>?_,h3,by show (ro2 room all D1 i).2.1.writes≤_;omega⟩
         · have:=zL2 zR.name (ro2 room all D1 i).2.2 x
           show (zAf zR.name (ro2 room all D1 i).2.2 x).length≤i+1
           omega
         · rcases zFI _ _ _ y hy with h | h
           · exact h2 y h
           · rw [h];exact List.mem_of_getElem? hx
       · refine ⟨by show (ro2 room all D1 i).2.2.length≤_;omega,h2,(zA.wr_n _ _ _).trans h3,?_⟩
         have:∀ (s:zA) (j:Int) (bs:List UInt8),(s.wr j bs).writes≤s.writes+1:=fun s j bs=>by
          unfold zA.wr zA.write
          split
          · split
            · exact Nat.le_succ _
            · exact Nat.le_refl _
          · exact Nat.le_succ _
         exact Nat.le_trans (this _ _ _) (by omega)
theorem zH9 (room:Nat) (all:List zR) (D1:zA) {i n:Nat} (hi:i≤n) (h:(ro2 room all D1 i).1=false):ro2 room all D1 n=ro2 room all D1 i:=by
 induction n with
 | zero=>obtain rfl:i=0:=by omega
         rfl
 | succ n ih =>
   rcases Nat.lt_or_ge i (n+1) with h' | h'
   · have:=ih (by omega)
     rw [ro2,if_pos (by rw [this];exact h),this]
   · obtain rfl:i=n+1:=by omega
     rfl
theorem zLS (D0:zA) (room:Nat) {i n:Nat} (hi:i≤n) (h:(ro1 D0 room i).1=false):ro1 D0 room n=ro1 D0 room i:=by
 induction n with
 | zero=>obtain rfl:i=0:=by omega
         rfl
 | succ n ih =>
   rcases Nat.lt_or_ge i (n+1) with h' | h'
   · have:=ih (by omega)
     rw [ro1,if_pos (by rw [this];exact h),this]
   · obtain rfl:i=n+1:=by omega
     rfl
end Go.Mem
namespace Go.Proofs.YtdlkghdfkjdajaaGreatDoor
open Go Go.RowKit Go.Mem Gf
set_option linter.unusedVariables false
set_option linter.unusedSimpArgs false
attribute [local go_sem ↓] Go.wp_at_zero Go.wp_at_succ
def OpenR (D0:zA) (slots room:Nat) (N:Nat→Prop) (r B:Nat) (w:World) (e:Ending) (w':World):Prop :=
 ((zAV D0 slots room).1=0∧∃ q lv ps,e=.returned (.tuple #[.pointer (some ⟨q,0,none⟩),.int .i64 0])∧w.heap.size≤q∧zAA w' (fun b=>N b∨b=q) q r B lv ps (zAV D0 slots room).2.1 slots room (zAV D0 slots room).2.2 false∧Chg (fun b=>b=r∨b=B) w w') ∨
 ((zAV D0 slots room).1=8∧e=.returned (.tuple #[.pointer none,.int .i64 8])∧zZ w' r B (zAV D0 slots room).2.1∧Chg (fun b=>b=r∨b=B) w w')
set_option maxRecDepth 20000 in
set_option maxHeartbeats 8000000 in
theorem zIA (r B:Nat) (D0:zA) (slots room:Nat) (w:World) (h:zZ w r B D0) (hn:D0.n=slots*(room+1)) (h1:1≤slots∧slots≤1024) (h2:1≤room∧room≤1024) (N:Nat→Prop) (hN:∀ b,N b→b < w.heap.size) (nr:N r) (nB:N B) (hfew:D0.writes < 4611686018427000000) :
  Calls Tryz.prog 17 #[.pointer (some ⟨r,0,none⟩),.int .i64 slots,.int .i64 room] w (OpenR D0 slots room N r B w):=by
 obtain ⟨n,hnn⟩:∃ n,n=D0.n:=⟨_,rfl⟩
 obtain ⟨cap,hc1,hc2,c0,c1,hby,hn2⟩:=Go.Mem.zZ.head h
 rw [← hnn] at hn2 c0 hc1 hby hn
 have HA:=Lib.hid (And.intro hn (And.intro h1 (And.intro h2 hn2)))
 have HR:=Lib.hid (And.intro h (And.intro hnn (And.intro hN (And.intro nr (And.intro nB hfew)))))
 have q1:IntKind.i64.wrap ((room:Int)+1)=(room:Int)+1:=IntWalk.i64_in _ (by omega)
 have q2:IntKind.i64.wrap ((slots:Int)*((room:Int)+1))=(n:Int):=by
  have e2:(slots:Int)*((room:Int)+1)=(n:Int):=by rw [hn];push_cast;rfl
  rw [e2]
  exact IntWalk.i64_in _ (by omega)
 have i1:decide ((slots:Int) < 1)=false:=by simp;omega
 have i2:decide ((room:Int) < 1)=false:=by simp;omega
 have i3:decide (1024 < (slots:Int))=false:=by simp;omega
 have i4:decide (1024 < (room:Int))=false:=by simp;omega
 have i1':decide (slots < 1)=false:=by simp;omega
 have i2':decide (room < 1)=false:=by simp;omega
 have i3':decide (1024 < slots)=false:=by simp;omega
 have i4':decide (1024 < room)=false:=by simp;omega
 have hlen:Calls Tryz.prog 43 #[.pointer (some ⟨r,0,none⟩)] w fun e w'=>e=.returned (.int .i64 (n:Int))∧w=w':=by rw [hnn];exact zBA r B _ w h
 have HLN:=Lib.hid hlen
 obtain ⟨dd,hdd⟩:∃ d,d=D0.dead:=⟨_,rfl⟩
 rw [← hdd] at c1
 have HDD:=Lib.hid hdd
 have hs2:=h1.2
 have hr2:=h2.2
 have hr1:=h2.1
 clear h hn h1 h2 hN nr nB hfew hnn hby hn2 hlen hdd
 go_enter Tryz.func17,Tryz.ntmps17
 go_wp2_with fail
 refine HLN.out.mono ?_
 rintro e w1 ⟨rfl,rfl⟩
 cases dd with
 | true =>
   have HQ:=Lib.hid (show zAV D0 slots room=(8,D0,[]) from by unfold zAV;rw [if_pos HDD.out.symm])
   go_wp2_with fail
   go_ret2
   exact .inr ⟨by rw [HQ.out],rfl,by rw [HQ.out];exact HR.out.1,Chg.refl _ _⟩
 | false =>
   go_wp2_with fail
   obtain ⟨w1,hw1⟩:∃ q,q=w.alloc (.cells #[.pointer (some ⟨r,0,none⟩),.int .i64 slots,.int .i64 room,.slice none 0 0,.bool false] 99):=⟨_,rfl⟩
   rw [← hw1]
   obtain ⟨q,hq⟩:∃ q,q=w.heap.size:=⟨_,rfl⟩
   rw [← hq]
   have hb1:Below w.heap.size w w1:=by rw [hw1];exact (Below.refl _ _).alloc (Nat.le_refl _) _
   have hk1:Blk w1 q #[.pointer (some ⟨r,0,none⟩),.int .i64 slots,.int .i64 room,.slice none 0 0,.bool false] 99:=by rw [hw1,hq];exact Blk.new _ _ _
   have hz1:w1.heap.size=q+1:=by rw [hw1,hq];simp
   have HB:=Lib.hid (And.intro hb1 (And.intro hk1 (And.intro hz1 hq)))
   clear hw1 hb1 hk1 hz1 hq c0 c1 hc1 hc2
   go_loopw [9,10] (fun u v wr=>∃ (i:Nat),i≤slots∧v=.int .i64 i∧Hid (∃ ps,(ro1 D0 room i).1=true∧zZ wr r B (ro1 D0 room i).2.1∧zL eR WfR 4 101 wr (q+1) u ps∧RPs wr (fun b=>b≤q∨u.ownBlock=some b) ps (ro1 D0 room i).2.2∧Chg (fun b=>b=r∨b=B) w1 wr)) (fun _ v _=>slots - (intOf v).toNat)
   case atStart=>exact ⟨0,Nat.zero_le _,rfl,[],rfl,HR.out.1.below HB.out.1,zL.nil _ _ _ _ _ _,RPs.nil _ _,Chg.refl _ _⟩
   case round =>
    obtain ⟨i,hi,rfl,G⟩:=hrel
    obtain ⟨ps,hok,hD,ho,hp,hc⟩:=G.out
    clear G
    obtain ⟨D,hDe⟩:∃ D,D=(ro1 D0 room i).2.1:=⟨_,rfl⟩
    obtain ⟨L,hLe⟩:∃ L,L=(ro1 D0 room i).2.2:=⟨_,rfl⟩
    rw [← hDe] at hD
    rw [← hLe] at hp
    have hDn:D.n=n:=by rw [hDe,zLR];exact HR.out.2.1.symm
    have hDw:=zFR D0 room i
    have hLl:=zJj D0 room i
    rw [← hDe] at hDw
    rw [← hLe] at hLl
    obtain ⟨v9,hv9⟩:∃ z,z=u9:=⟨_,rfl⟩
    subst hv9
    have G:=Lib.hid (And.intro hok (And.intro hD (And.intro ho (And.intro hp (And.intro hc (And.intro hDe (And.intro hLe (And.intro hDn (And.intro hDw hLl)))))))))
    clear hok hD ho hp hc hDe hLe hDn hDw hLl
    by_cases h0:i < slots
    · obtain ⟨m,hm⟩:∃ m,m=i*(room+1):=⟨_,rfl⟩
      have hmn:m+(room+1)≤n:=by
       rw [hm,HA.out.1,show i*(room+1)+(room+1)=(i+1)*(room+1) from by rw [Nat.add_mul,Nat.one_mul]]
       exact Nat.mul_le_mul h0 (Nat.le_refl _)
      have hn4:=HA.out.2.2.2
      obtain ⟨cap,hc1,hc2,c0,c1,hby,_⟩:=Go.Mem.zZ.head G.out.2.1
      rw [G.out.2.2.2.2.2.2.2.1] at c0 hc1 hby
      obtain ⟨x,hx⟩:∃ x,x=m*32:=⟨_,rfl⟩
      obtain ⟨y,hy⟩:∃ y,y=x+32+room*32:=⟨_,rfl⟩
      obtain ⟨nn,hnn⟩:∃ z,z=n*32:=⟨_,rfl⟩
      rw [← hnn] at c0 hc1 hby
      have s1:IntKind.i64.wrap ((i:Int)*((room:Int)+1))=(m:Int):=by
       have e2:(i:Int)*((room:Int)+1)=(m:Int):=by rw [hm];push_cast;rfl
       rw [e2]
       exact IntWalk.i64_in _ (by omega)
      have s2:IntKind.i64.wrap ((m:Int)*32)=(x:Int):=by
       rw [show (m:Int)*32=(x:Int) from by omega]
       exact IntWalk.i64_in _ (by omega)
      have s3:IntKind.i64.wrap ((i:Int)+1)=(i:Int)+1:=IntWalk.i64_in _ (by omega)
      have s4:IntKind.i64.wrap ((x:Int)+32)=(x:Int)+32:=IntWalk.i64_in _ (by omega)
      have s5:IntKind.i64.wrap (((room:Int)+1)*32)=((room:Int)+1)*32:=IntWalk.i64_in _ (by omega)
      have s6:IntKind.i64.wrap ((x:Int)+((room:Int)+1)*32)=(y:Int):=by
       rw [show (x:Int)+((room:Int)+1)*32=(y:Int) from by omega]
       exact IntWalk.i64_in _ (by omega)
      have cB:wr.cell? ⟨B,x,none⟩=some (.int .u8 ((D.f x).toNat:Int)):=Go.Mem.zZ.cellB G.out.2.1 (by rw [G.out.2.2.2.2.2.2.2.1];omega)
      have x0:(0:Int)≤(x:Int):=by omega
      have x1:(x:Int) < (nn:Int):=by omega
      have x2:x < nn:=by omega
      have y1:(x:Int)+32≤(y:Int):=by omega
      have y2:(y:Int)≤(cap:Int):=by omega
      have y3:y≤cap:=by omega
      have y4:x+32≤y:=by omega
      have y5:¬ (cap=x+32):=by omega
      have y6:¬ (x+32=cap):=by omega
      have x3:(0:Int)≤(x:Int)+32:=by omega
      have i0:decide ((i:Int) < (slots:Int))=true:=by simp;omega
      have i0':decide (i < slots)=true:=by simp;omega
      have hbs:Bys wr (.slice (some ⟨B,x+32,none⟩) (y - (x+32)) (cap - (x+32))) (zBT D room i):=by
       rw [show y - (x+32)=room*32 from by omega]
       have:=hby (x+32) (room*32) (cap - (x+32)) (by omega) (by unfold maxLen;omega) (by omega)
       unfold zBT
       rw [← hm,← hx]
       exact this
      have HM:=Lib.hid (And.intro hm (And.intro hx (And.intro hbs (And.intro h0 hmn))))
      have hpos:x+32+room*32=y:=hy.symm
      clear hm hx hby hbs hmn hy hnn h0 c1 hpos
      by_cases hf:D.f x=1
      · have t1:(((D.f x).toNat:Int) != 1)=false:=by rw [hf];rfl
        go_wp2_with fail
        refine (zFn _ (zBT D room i) i wr HM.out.2.2.1 (by rw [zJJ];omega)).mono ?_
        rintro e w3 ⟨hb3,⟨hpa,rfl⟩ | ⟨z,hpa,a9,c9,rfl,ho9⟩⟩
        · have hD3:=G.out.2.1.below hb3
          have HN:=Lib.hid (And.intro hpa (And.intro hb3 hD3))
          clear hpa hb3 hD3
          go_wp2_with fail
          have hbz:Below w3.heap.size w3 (w3.alloc (.cells #[.string { data:=#[] },.int .i64 0,.slice none 0 0,.int .i64 0] 101)):=(Below.refl _ _).alloc (Nat.le_refl _) _
          refine (zDX r B D (m:Int) _ [] _ (HN.out.2.2.below hbz) (zBk _) (fun w' _=>zBk _) (by have:=G.out.2.2.2.2.2.2.2.2.1;have:=HR.out.2.2.2.2.2;omega)).mono ?_
          rintro e w5 ⟨rfl,hD5,hc5⟩
          obtain ⟨er,her⟩:∃ z,z=D.wres (m:Int) ([]:List UInt8).length:=⟨_,rfl⟩
          rw [← her]
          have hst:ro1 D0 room (i+1)=(decide (er=0),D.wr (m:Int) [],L):=by
           rw [ro1,if_neg (by rw [G.out.1];decide),if_neg (by rw [← G.out.2.2.2.2.2.1,← HM.out.1,← HM.out.2.1];exact fun e=>e hf),← G.out.2.2.2.2.2.1,HN.out.1,← HM.out.1,her,← G.out.2.2.2.2.2.2.1]
           rfl
          have hcw:Chg (fun b=>b=r∨b=B) wr w5:=((Chg.of_below (HN.out.2.1.trans (hbz.mono HN.out.2.1.size))).trans hc5)
          have hrq:r < q∧B < q:=by rw [HB.out.2.2.2];exact ⟨HR.out.2.2.1 r HR.out.2.2.2.1,HR.out.2.2.1 B HR.out.2.2.2.2.1⟩
          have ho5:=G.out.2.2.1.chg hcw (fun g hg e=>by have:=G.out.2.2.1.ge hg;omega)
          have hp5:=G.out.2.2.2.1.chg hcw (fun b hb _=>.inl (by omega))
          have H5:=Lib.hid (And.intro hD5 (And.intro ho5 (And.intro hp5 (And.intro (G.out.2.2.2.2.1.trans hcw) (And.intro hst her)))))
          clear hD5 hc5 her hst hcw ho5 hp5 hbz
          by_cases he:er=0
          · subst he
            have HST:=Lib.hid (show ro1 D0 room (i+1)=(true,D.wr (m:Int) [],L) from by rw [H5.out.2.2.2.2.1];rfl)
            go_wp2_with fail
            refine ⟨⟨i+1,by have:=HM.out.2.2.2.1;omega,by go_num,ps,?_⟩,by have:=HM.out.2.2.2.1;simp [intOf];omega⟩
            rw [HST.out]
            exact ⟨rfl,H5.out.1,H5.out.2.1,H5.out.2.2.1,H5.out.2.2.2.1⟩
          · have t5:(er != 0)=true:=by simp [he]
            have t6:(er == 0)=false:=by simp [he]
            have HST:=Lib.hid (show ro1 D0 room (i+1)=(false,D.wr (m:Int) [],L) from by rw [H5.out.2.2.2.2.1,decide_eq_false he])
            have HQ:=Lib.hid (show zAV D0 slots room=(8,D.wr (m:Int) [],[]) from by
             have hs:=zLS D0 room (i:=i+1) (n:=slots) (by have:=HM.out.2.2.2.1;omega) (by rw [HST.out])
             unfold zAV
             rw [if_neg (by rw [← HDD.out];decide),if_pos (by rw [hs,HST.out]),hs,HST.out])
            clear he
            go_wp2_with fail
            go_ret2
            exact .inr ⟨by rw [HQ.out],rfl,by rw [HQ.out];exact H5.out.1,(Chg.of_below HB.out.1).trans H5.out.2.2.2.1⟩
        · have hD3:=G.out.2.1.below hb3
          have HN:=Lib.hid (And.intro hpa (And.intro hb3 (And.intro hD3 ho9)))
          obtain ⟨dl,hdl⟩:∃ l,l=z.data.length:=⟨_,rfl⟩
          rw [← hdl]
          have HDL:=Lib.hid hdl
          clear hpa hb3 hD3 ho9 hdl
          go_upto_region 16 with fail
          obtain ⟨w4,hw4⟩:∃ wz,wz=w3.alloc (.cells #[.string z.name,.int .i64 z.num,.slice a9 dl c9,.int .i64 i] 101):=⟨_,rfl⟩
          rw [← hw4]
          have hk4:Blk w4 w3.heap.size (eR ⟨z.name,z.num,a9,dl,c9,i⟩).toArray 101:=by rw [hw4];exact Blk.new _ _ _
          have hb4:Below wr.heap.size wr w4:=by rw [hw4];exact HN.out.2.1.alloc HN.out.2.1.size _
          have hb34:Below w3.heap.size w3 w4:=by rw [hw4];exact (Below.refl _ _).alloc (Nat.le_refl _) _
          have p0:w4.cell? ⟨w3.heap.size,0,none⟩=some (.string z.name):=hk4.cell 0
          have p1:w4.cell? ⟨w3.heap.size,1,none⟩=some (.int .i64 z.num):=hk4.cell 1
          have p2:w4.cell? ⟨w3.heap.size,2,none⟩=some (.slice a9 dl c9):=hk4.cell 2
          have p3:w4.cell? ⟨w3.heap.size,3,none⟩=some (.int .i64 i):=hk4.cell 3
          have hzw:=G.out.2.2.2.2.1.size
          have hz1:=HB.out.2.2.1
          have hpl:ps.length≤1024:=by have:=G.out.2.2.2.1.len;have:=G.out.2.2.2.2.2.2.2.2.2.1;have:=HM.out.2.2.2.1;omega
          have hz4:=hb4.size
          have H4:=Lib.hid (And.intro hk4 (And.intro hb4 hb34))
          clear hk4 hb4 hb34 hw4
          go_wp2_with (at_builtin;refine zAZ EK10 ecR rfl _ _ rfl (base:=q+1) (l:=ps) (⟨z.name,z.num,a9,dl,c9,i⟩:RP) trivial rfl (mb:=w4.heap.size) (cx:=1) rfl (show Blk _ _ (eR ⟨z.name,z.num,a9,dl,c9,i⟩).toArray 101 from Blk.new _ _ _) ((G.out.2.2.1.chg (Chg.of_below (S:=fun _=>False) H4.out.2.1) (fun _ _ h=>h)).chg (Chg.of_below (S:=fun _=>False) ((Below.refl _ _).alloc (Nat.le_refl _) _)) (fun _ _ h=>h)) (by omega) (by decide) ?z1 ?_)
          case z1=>first | omega | (simp;omega)
          intro v5 w5 ho5 hg5 hn5
          obtain ⟨wq,hwq⟩:∃ wz,wz=w4.alloc (.cells #[.string z.name,.int .i64 z.num,.slice a9 dl c9,.int .i64 i] 101):=⟨_,rfl⟩
          rw [← hwq] at hg5
          have hzq:wq.heap.size=w4.heap.size+1:=by rw [hwq];simp
          have hn5:∀ k,v5.ownBlock=some k→v9.ownBlock=some k∨wq.heap.size≤k:=fun k hk=>by
           rcases hn5 k hk with h | h
           · exact .inl h
           · right;rw [hzq];exact h
          have hbq:Below w4.heap.size w4 wq:=by rw [hwq];exact (Below.refl _ _).alloc (Nat.le_refl _) _
          have hbwq:Below wr.heap.size wr wq:=H4.out.2.1.trans (hbq.mono hz4)
          have hbq3:Below w3.heap.size w3 wq:=H4.out.2.2.trans (hbq.mono H4.out.2.2.size)
          have hcc:Chg (fun b=>v9.ownBlock=some b) wq w5:=Chg.grown (S:=fun b=>v9.ownBlock=some b) (Chg.refl _ _) hg5 (fun _ hq=>.inl hq)
          have hov:∀ g,v9.ownBlock=some g→q+1≤g∧g < wr.heap.size:=fun g hg=>⟨G.out.2.2.1.ge hg,by
           rcases G.out.2.2.1.own.2 with ⟨e1,_⟩ | ⟨g',cap',cur,e1,_,hgg,_⟩
           · rw [e1] at hg;cases hg
           · rw [e1] at hg
             injection hg with hg
             subst hg
             rcases Nat.lt_or_ge g' wr.heap.size with h' | h'
             · exact h'
             · rw [Array.getElem?_eq_none h'] at hgg;cases hgg⟩
          -- the records that were there
          have hp5:RPs w5 (fun b=>b≤q∨v5.ownBlock=some b) ps L:=by
           have e1:=(G.out.2.2.2.1.chg (S:=fun _=>False) (Chg.of_below hbwq) (fun _ h=>h.elim)).mono (M:=fun b=>(b≤q∨v9.ownBlock=some b)∨v5.ownBlock=some b) (fun b hb=>hb.elim .inl (fun h=>(hn5 b h).elim (fun h'=>.inl (.inr h')) .inr))
           exact (e1.chg hcc (fun b hb _=>.inl (.inr hb))).mono (fun b hb=>.inl (hb.elim (fun h=>.inl (.inl h)) .inr))
          have hd5:zA1 w5 (fun b=>b≤q∨v5.ownBlock=some b) (.slice a9 z.data.length c9) z.data:=by
           have e0:=(HN.out.2.2.2.data (N:=fun b=>b < wr.heap.size) (fun b h1 _ h2=>by have h2:b < wr.heap.size:=h2;omega)).z
           have e1:=(e0.chg (S:=fun _=>False) (Chg.of_below hbq3) (fun _ h=>h.elim)).mono (M:=fun b=>b < wr.heap.size∨v5.ownBlock=some b) (fun b hb=>hb.elim .inl (fun h=>(hn5 b h).elim (fun h'=>.inl (hov b h').2) .inr))
           exact (e1.chg hcc (fun b hb _=>.inl (hov b hb).2)).mono (fun b hb=>.inl (hb.elim (fun h=>.inl (by omega)) .inr))
          rw [← HDL.out] at hd5
          have hrec:RPs w5 (fun b=>b≤q∨v5.ownBlock=some b) (ps++[⟨z.name,z.num,a9,dl,c9,i⟩]) (L++[⟨z.name,z.num,z.data,i⟩]):=hp5.app (RPs.one rfl rfl rfl HDL.out hd5)
          have hrq:r < q∧B < q:=by rw [HB.out.2.2.2];exact ⟨HR.out.2.2.1 r HR.out.2.2.2.1,HR.out.2.2.1 B HR.out.2.2.2.2.1⟩
          have hD5:zZ w5 r B D:=(G.out.2.1.below hbwq).chg hcc (fun e=>by have:=(hov r e).1;omega) (fun e=>by have:=(hov B e).1;omega)
          have hcw:Chg (fun b=>b=r∨b=B) w1 w5:=by
           have e1:Chg (fun b=>(b=r∨b=B)∨w1.heap.size≤b) w1 w5:=((G.out.2.2.2.2.1.trans (Chg.of_below hbwq)).mono (fun b h=>.inl h)).trans (hcc.mono fun b hb=>.inr (by have:=(hov b hb).1;omega))
           exact ⟨e1.os,e1.tape,e1.output,e1.size,fun k hk hs=>e1.block k hk (fun h=>h.elim hs (fun h=>by omega))⟩
          have hst:ro1 D0 room (i+1)=(true,D,L++[⟨z.name,z.num,z.data,i⟩]):=by
           rw [ro1,if_neg (by rw [G.out.1];decide),if_neg (by rw [← G.out.2.2.2.2.2.1,← HM.out.1,← HM.out.2.1];exact fun e=>e hf),← G.out.2.2.2.2.2.1,HN.out.1,← G.out.2.2.2.2.2.2.1]
          obtain ⟨a5,c5,e5⟩:=ho5.slice
          have H5:=Lib.hid (And.intro hD5 (And.intro ho5 (And.intro hrec (And.intro hcw hst))))
          clear hD5 ho5 hrec hcw hst hd5 hp5 hcc hov hg5 hn5 hwq hbq hbwq hbq3 p0 p1 p2 p3
          go_wp2_with fail
          refine ⟨⟨i+1,by have:=HM.out.2.2.2.1;omega,by go_num,ps++[⟨z.name,z.num,a9,dl,c9,i⟩],?_⟩,by have:=HM.out.2.2.2.1;simp [intOf];omega⟩
          rw [H5.out.2.2.2.2]
          exact ⟨rfl,H5.out.1,H5.out.2.1,H5.out.2.2.1,H5.out.2.2.2.1⟩
      · have t1:(((D.f x).toNat:Int) != 1)=true:=by
         have:(D.f x).toNat≠1:=fun e=>hf (by rw [← UInt8.toNat_inj];exact e)
         simp;omega
        have t2:(((D.f x).toNat:Int) == 1)=false:=by
         have:(D.f x).toNat≠1:=fun e=>hf (by rw [← UInt8.toNat_inj];exact e)
         simp;omega
        have hst:ro1 D0 room (i+1)=ro1 D0 room i:=by
         rw [ro1,if_neg (by rw [G.out.1];decide),if_pos (by rw [← G.out.2.2.2.2.2.1,← HM.out.1,← HM.out.2.1];exact hf)]
        have HST:=Lib.hid hst
        clear hst hf
        go_wp2_with fail
        refine ⟨⟨i+1,by have:=HM.out.2.2.2.1;omega,by go_num,ps,?_⟩,by have:=HM.out.2.2.2.1;simp [intOf];omega⟩
        rw [HST.out]
        exact ⟨G.out.1,by rw [← G.out.2.2.2.2.2.1];exact G.out.2.1,G.out.2.2.1,by rw [← G.out.2.2.2.2.2.2.1];exact G.out.2.2.2.1,G.out.2.2.2.2.1⟩
    · obtain rfl:slots=i:=by omega
      obtain ⟨wA,hwA⟩:∃ z,z=wr:=⟨_,rfl⟩
      subst hwA
      have hpl:ps.length≤1024:=by have:=G.out.2.2.2.1.len;have:=G.out.2.2.2.2.2.2.2.2.2.1;omega
      have hrow:zB3 wA (fun b=>b≤q) v9 ps:=zB3.own G.out.2.2.1 (fun g hg h=>by have:=G.out.2.2.1.ge hg;have h:g≤q:=h;omega)
      have hrec:=G.out.2.2.2.1.mono (M:=fun b=>b≤q) (fun b hb=>.inl (.inl hb))
      obtain ⟨va,vc,rfl,hv1,hv2,hv3⟩:=id hrow
      obtain ⟨nA,hnA⟩:∃ n,n=ps.length:=⟨_,rfl⟩
      have hLA:L.length=nA:=by rw [hnA,hrec.len]
      have hrq:r < q∧B < q:=by rw [HB.out.2.2.2];exact ⟨HR.out.2.2.1 r HR.out.2.2.2.1,HR.out.2.2.1 B HR.out.2.2.2.2.1⟩
      have hkq:=G.out.2.2.2.2.1.blk HB.out.2.1 (fun e=>by omega)
      have i0:decide ((slots:Int) < (slots:Int))=false:=by simp
      have i0':decide (slots < slots)=false:=by simp
      rw [← hnA] at hrow hpl hv1
      rw [← hnA]
      have H2:=Lib.hid (And.intro hrow (And.intro hrec (And.intro hnA (And.intro hLA (And.intro hrq hkq)))))
      have hs1:∀ x∈L,x.data.length≤room*32∧x.num < 1000000000000∧x.slot < slots:=G.out.2.2.2.2.2.2.2.2.2.2
      have HS:=Lib.hid hs1
      clear hi h0 hrow hrec hnA hLA hv1 hv2 hv3 hkq hs1 hrq
      go_wp2_with fail
      go_loopw [99] (fun v wr2=>∃ (i:Nat),i≤nA∧v=.int .i64 i∧Hid (∃ lv ps2,(ro2 room L D i).1=true∧zZ wr2 r B (ro2 room L D i).2.1∧Blk wr2 q #[.pointer (some ⟨r,0,none⟩),.int .i64 slots,.int .i64 room,lv,.bool false] 99∧zB3 wr2 (fun b=>b≤q) lv ps2∧RPs wr2 (fun b=>b≤q) ps2 (ro2 room L D i).2.2∧Chg (fun b=>b=r∨b=B∨b=q) wA wr2)) (fun v _=>nA - (intOf v).toNat)
      case atStart=>exact ⟨0,Nat.zero_le _,rfl,.slice none 0 0,[],rfl,G.out.2.1,H2.out.2.2.2.2.2,zB3.nil _ _,RPs.nil _ _,Chg.refl _ _⟩
      case round =>
       obtain ⟨i,hi,rfl,G2⟩:=hrel
       obtain ⟨wr2,hwr2⟩:∃ z,z=wr:=⟨_,rfl⟩
       subst hwr2
       obtain ⟨lv,ps2,hok,hD2,hk2,hrow2,hrec2,hc2⟩:=G2.out
       clear G2
       have hA2:=H2.out.1.chg hc2 (fun b hb _=>by have:=H2.out.2.2.2.2.1;show b≤q;omega)
       have hAr:=H2.out.2.1.chg hc2 (fun b hb _=>by have:=H2.out.2.2.2.2.1;show b≤q;omega)
       have J2:=Lib.hid (And.intro hok (And.intro hD2 (And.intro hk2 (And.intro hrow2 (And.intro hrec2 (And.intro hc2 (And.intro hA2 hAr)))))))
       clear hok hD2 hk2 hrow2 hrec2 hc2 hA2 hAr
       by_cases h0:i < nA
       · obtain ⟨x,hx⟩:∃ x,L[i]?=some x:=⟨L[i]'(by have:=H2.out.2.2.2.1;omega),by simp⟩
         obtain ⟨px,hpx,ex1,ex2,ex3,ex4,exd⟩:=J2.out.2.2.2.2.2.2.2.at hx
         obtain ⟨va',vc',ev,_,_,h3⟩:=J2.out.2.2.2.2.2.2.1
         obtain ⟨b,off,ha,hbl,hbN,hc⟩:=h3 (by have:=H2.out.2.2.1;omega)
         injection ev with ev1 ev2 ev3
         rw [← ev1] at ha
         subst ha
         have hcel:∀ d (j:Nat) (y:zR) (py:RP),ps[j]?=some py→py.name=y.name→py.num=y.num→py.slot=y.slot→(wr2.drewN d).cell? ⟨b,off+j*4,none⟩=some (.string y.name)∧(wr2.drewN d).cell? ⟨b,off+j*4+1,none⟩=some (.int .i64 y.num)∧(wr2.drewN d).cell? ⟨b,off+j*4+3,none⟩=some (.int .i64 y.slot):=fun d j y py hj e1 e2 e3=>by
          refine ⟨?_,?_,?_⟩
          · have:=hc j py hj 0 (.string py.name) rfl
            rw [e1] at this
            exact this
          · have:=hc j py hj 1 (.int .i64 py.num) rfl
            rw [e2] at this
            exact this
          · have:=hc j py hj 3 (.int .i64 py.slot) rfl
            rw [e3] at this
            exact this
         have HC:=Lib.hid (And.intro hcel (And.intro hpx (And.intro ex1 (And.intro ex2 (And.intro ex3 (And.intro ex4 (And.intro exd (And.intro hx (And.intro hc h0)))))))))
         have z0:(0:Int)≤(i:Int):=by omega
         have z1:(i:Int) < (nA:Int):=by omega
         clear hcel hpx ex1 ex2 ex3 ex4 exd hx hc h0 h3 ev1 ev2 ev3 hbl hbN
         go_upto_region 22 with fail
         go_loopw [15,104] (fun bv kv wx=>∃ (k:Nat),k≤nA∧kv=.int .i64 k∧bv=.bool (zBN L x i k)∧Hid (∃ d,wx=wr2.drewN d)) (fun _ v _=>nA - (intOf v).toNat)
         case atStart=>exact ⟨0,Nat.zero_le _,rfl,rfl,0,rfl⟩
         case round =>
          obtain ⟨k,hk,rfl,rfl,G3⟩:=hrel
          obtain ⟨d,hd⟩:=G3.out
          clear G3
          by_cases h0:k < nA
          · obtain ⟨y,hy⟩:∃ y,L[k]?=some y:=⟨L[k]'(by have:=H2.out.2.2.2.1;omega),by simp⟩
            obtain ⟨py,hpy,ey1,ey2,ey3,_⟩:=J2.out.2.2.2.2.2.2.2.at hy
            have cy:=HC.out.1 d k y py hpy ey1 ey2 ey3
            have cx:=HC.out.1 d i x px HC.out.2.1 HC.out.2.2.1 HC.out.2.2.2.1 HC.out.2.2.2.2.1
            rw [← hd] at cy cx
            obtain ⟨cy0,cy1,_⟩:=cy
            obtain ⟨cx0,cx1,_⟩:=cx
            have HW:=Lib.hid (show zBU L x i k=((y.name.toList == x.name.toList) && (decide (x.num < y.num) || (decide (y.num=x.num) && decide (k < i)))) from by unfold zBU;rw [hy])
            have k0:(0:Int)≤(k:Int):=by omega
            have k1:(k:Int) < (nA:Int):=by omega
            have HK:=Lib.hid h0
            have HD:=Lib.hid hd
            clear hy hpy ey1 ey2 ey3 h0 hd
            go_upto_region 24 with fail
            go_cut [148] (fun vb wx=>vb=.bool (zBU L x i k)∧Hid (∃ d',wx=wr.drewN d'))
            case first =>
             by_cases e:(y.name.toList == x.name.toList)=true
             · by_cases g:x.num < y.num
               · have HV:=Lib.hid (show zBU L x i k=true from by rw [HW.out,e,decide_eq_true g];rfl)
                 have t1:decide ((x.num:Int) < (y.num:Int))=true:=by simp;omega
                 have t1':decide (x.num < y.num)=true:=by simp;omega
                 clear g
                 go_quiet (fail)
                 go_wp2_with fail
                 go_meet
                 exact ⟨by rw [HV.out],_,rfl⟩
               · have t1:decide ((x.num:Int) < (y.num:Int))=false:=by simp;omega
                 have t1':decide (x.num < y.num)=false:=by simp;omega
                 by_cases e2:y.num=x.num
                 · have t2:((y.num:Int) == (x.num:Int))=true:=by simp;omega
                   have t2':(y.num == x.num)=true:=by simp;omega
                   by_cases l:k < i
                   · have HV:=Lib.hid (show zBU L x i k=true from by rw [HW.out,e,decide_eq_true e2,decide_eq_true l];simp)
                     have t3:decide ((k:Int) < (i:Int))=true:=by simp;omega
                     have t3':decide (k < i)=true:=by simp;omega
                     clear g e2 l
                     go_quiet (fail)
                     go_wp2_with fail
                     go_meet
                     exact ⟨by rw [HV.out],_,rfl⟩
                   · have HV:=Lib.hid (show zBU L x i k=false from by rw [HW.out,e,decide_eq_false g,decide_eq_true e2,decide_eq_false l];rfl)
                     have t3:decide ((k:Int) < (i:Int))=false:=by simp;omega
                     have t3':decide (k < i)=false:=by simp;omega
                     clear g e2 l
                     go_quiet (fail)
                     go_wp2_with fail
                     go_meet
                     exact ⟨by rw [HV.out],_,rfl⟩
                 · have HV:=Lib.hid (show zBU L x i k=false from by rw [HW.out,e,decide_eq_false g,decide_eq_false e2];rfl)
                   have t2:((y.num:Int) == (x.num:Int))=false:=by simp;omega
                   have t2':(y.num == x.num)=false:=by simp;omega
                   clear g e2
                   go_quiet (fail)
                   go_wp2_with fail
                   go_meet
                   exact ⟨by rw [HV.out],_,rfl⟩
             · have e:(y.name.toList == x.name.toList)=false:=by simpa using e
               have HV:=Lib.hid (show zBU L x i k=false from by rw [HW.out,e];rfl)
               go_quiet (fail)
               go_wp2_with fail
               go_meet
               exact ⟨by rw [HV.out],_,rfl⟩
            case rest =>
            obtain ⟨rfl,hG⟩:=hcut
            obtain ⟨w24,hw24⟩:∃ z,z=wc:=⟨_,rfl⟩
            subst hw24
            obtain ⟨d',hd'⟩:=hG.out
            have HDD2:=Lib.hid (show w24=wr2.drewN (d+d') from by rw [hd',HD.out];unfold World.drewN;simp [Nat.add_assoc])
            obtain ⟨wb,hwb⟩:∃ z,z=zBU L x i k:=⟨_,rfl⟩
            rw [← hwb]
            have HWB:=Lib.hid hwb
            clear hG hd' hwb cy0 cy1 cx0 cx1
            cases wb with
            | true =>
              have HV:=Lib.hid (show zBN L x i (k+1)=false from by rw [zBN,← HWB.out];simp)
              go_wp2_with fail
              exact ⟨⟨k+1,by have:=HK.out;omega,by go_num,by rw [HV.out],_,HDD2.out⟩,by have:=HK.out;simp [intOf];omega⟩
            | false =>
              have HV:=Lib.hid (show zBN L x i (k+1)=zBN L x i k from by rw [zBN,← HWB.out];simp)
              go_wp2_with fail
              exact ⟨⟨k+1,by have:=HK.out;omega,by go_num,by rw [HV.out],_,HDD2.out⟩,by have:=HK.out;simp [intOf];omega⟩
          · obtain rfl:nA=k:=by omega
            obtain ⟨bt,hbt⟩:∃ z,z=zBN L x i nA:=⟨_,rfl⟩
            rw [← hbt]
            have HBT:=Lib.hid hbt
            obtain ⟨wB,hwB⟩:∃ z,z=wr:=⟨_,rfl⟩
            subst hwB
            have hb2:Below wr2.heap.size wr2 wB:=by rw [hd];exact below_drewN (Below.refl _ _) _
            have HWB2:=Lib.hid hb2
            have hzq:q < wB.heap.size:=by
             have:=(J2.out.2.2.1.kept hb2).lt
             exact this
            have hps2:ps2.length≤1024:=by
             have h1:=J2.out.2.2.2.2.1.len
             have h2:=(zC6 room L D i).1
             omega
            have HE:=Lib.hid (And.intro (HC.out.2.2.2.2.2.2.1.chg (S:=fun _=>False) (Chg.of_below hb2) (fun _ h=>h.elim)) (And.intro (J2.out.2.1.below hb2) (And.intro (J2.out.2.2.1.kept hb2) (And.intro (J2.out.2.2.2.1.chg (S:=fun _=>False) (Chg.of_below hb2) (fun _ h=>h.elim)) (And.intro (J2.out.2.2.2.2.1.chg (S:=fun _=>False) (Chg.of_below hb2) (fun _ h=>h.elim)) (And.intro hzq hps2))))))
            have hpxc:∀ w',Below wB.heap.size wB w'→∀ k y,(eR px)[k]?=some y→w'.cell? ⟨b,off+i*4+k,none⟩=some y:=fun w' hb k y hy=>by
             have h1:=HC.out.2.2.2.2.2.2.2.2.1 i px HC.out.2.1 k y hy
             have hbl:=World.block_lt_of_cell? _ _ h1
             have:w'.cell? ⟨b,off+i*4+k,none⟩=wr2.cell? ⟨b,off+i*4+k,none⟩:=by
              unfold World.cell?
              rw [(hb2.trans (hb.mono hb2.size)).block b hbl]
             rw [this];exact h1
            have HPX:=Lib.hid hpxc
            have k0:decide ((nA:Int) < (nA:Int))=false:=by simp
            have k0':decide (nA < nA)=false:=by simp
            clear hbt hd hb2 hzq hps2 hpxc h0 hk
            cases bt with
            | true =>
              go_upto_region 28 with fail
              refine Tail.zT 12 (fun k=>k == 9) (fun k=>none)
               (fun D z w'=>Below wB.heap.size wB w'∧(D 9=true→zL eR WfR 4 101 w' wB.heap.size (z 9) (zAf RP.name ps2 px)))
               (by kernel_rfl) (by kernel_rfl) (fun k hk=>by simp at hk;omega) (fun D z z' w' hz h=>⟨h.1,fun d=>by rw [← hz 9 d];exact h.2 d⟩)
               ⟨(Below.refl _ _).drew,(fun h=>by cases h)⟩ (fun z=>?_)
              simp only [List.take_succ_cons,List.take_zero,List.drop_succ_cons,List.drop_zero]
              refine Tail.zI (by rfl) (by rfl) ?_
              apply Exists.intro
              refine ⟨fun w=>?_,?_⟩
              · go_simp <;> with_reducible rfl
              simp only [Act.put,List.setIfInBounds_toArray,List.set_cons_zero,List.set_cons_succ,Nat.reduceAdd,Nat.reduceEqDiff,reduceIte,Option.getD_some,Option.getD_none]
              refine Tail.zI (by rfl) (by rfl) ?_
              apply Exists.intro
              refine ⟨fun w=>?_,?_⟩
              · go_simp <;> with_reducible rfl
              simp only [Act.put,List.setIfInBounds_toArray,List.set_cons_zero,List.set_cons_succ,Nat.reduceAdd,Nat.reduceEqDiff,reduceIte,Option.getD_some,Option.getD_none]
              refine Tail.zI (by rfl) (by rfl) ?_
              apply Exists.intro
              refine ⟨fun w=>?_,?_⟩
              · go_simp <;> with_reducible rfl
              simp only [Act.put,List.setIfInBounds_toArray,List.set_cons_zero,List.set_cons_succ,Nat.reduceAdd,Nat.reduceEqDiff,reduceIte,Option.getD_some,Option.getD_none]
              refine Tail.zI (by rfl) (by rfl) ?_
              apply Exists.intro
              refine ⟨fun w=>?_,?_⟩
              · go_simp <;> with_reducible rfl
              simp only [Act.put,List.setIfInBounds_toArray,List.set_cons_zero,List.set_cons_succ,Nat.reduceAdd,Nat.reduceEqDiff,reduceIte,Option.getD_some,Option.getD_none]
              refine Tail.zA0 (by rfl) (by rfl) ?_
              apply Exists.intro
              refine ⟨fun D w' hd hp hJ=>?_,?_⟩
              · have cc:w'.cell? ⟨q,3,none⟩=some lv:=(HE.out.2.2.1.kept hJ.1).cell 3
                go_simp <;> with_reducible rfl
              simp only [Act.put,List.setIfInBounds_toArray,List.set_cons_zero,List.set_cons_succ,Nat.reduceAdd,Nat.reduceEqDiff,reduceIte,Option.getD_some,Option.getD_none]
              refine Tail.zI (by rfl) (by rfl) ?_
              apply Exists.intro
              refine ⟨fun w=>?_,?_⟩
              · go_simp <;> with_reducible rfl
              simp only [Act.put,List.setIfInBounds_toArray,List.set_cons_zero,List.set_cons_succ,Nat.reduceAdd,Nat.reduceEqDiff,reduceIte,Option.getD_some,Option.getD_none]
              refine Tail.zI (by rfl) (by rfl) ?_
              apply Exists.intro
              refine ⟨fun w=>?_,?_⟩
              · go_simp <;> with_reducible rfl
              simp only [Act.put,List.setIfInBounds_toArray,List.set_cons_zero,List.set_cons_succ,Nat.reduceAdd,Nat.reduceEqDiff,reduceIte,Option.getD_some,Option.getD_none]
              refine Tail.zI (by rfl) (by rfl) ?_
              apply Exists.intro
              refine ⟨fun w=>?_,?_⟩
              · go_simp <;> with_reducible rfl
              simp only [Act.put,List.setIfInBounds_toArray,List.set_cons_zero,List.set_cons_succ,Nat.reduceAdd,Nat.reduceEqDiff,reduceIte,Option.getD_some,Option.getD_none]
              refine Tail.zA0 (by rfl) (by rfl) ?_
              refine ⟨.agg #[.string px.name,.int .i64 px.num,.slice px.a px.l px.c,.int .i64 px.slot],fun D w' hd hp hJ=>?_,?_⟩
              · have e0:w'.cell? ⟨b,off+i*4,none⟩=some (.string px.name):=HPX.out w' hJ.1 0 _ rfl
                have e1:w'.cell? ⟨b,off+i*4+1,none⟩=some (.int .i64 px.num):=HPX.out w' hJ.1 1 _ rfl
                have e2:w'.cell? ⟨b,off+i*4+2,none⟩=some (.slice px.a px.l px.c):=HPX.out w' hJ.1 2 _ rfl
                have e3:w'.cell? ⟨b,off+i*4+3,none⟩=some (.int .i64 px.slot):=HPX.out w' hJ.1 3 _ rfl
                go_simp <;> with_reducible rfl
              simp only [Act.put,List.setIfInBounds_toArray,List.set_cons_zero,List.set_cons_succ,Nat.reduceAdd,Nat.reduceEqDiff,reduceIte,Option.getD_some,Option.getD_none]
              refine Tail.zAT (by rfl) (by rfl) ?_ ?_
              · apply Exists.intro
                apply Exists.intro
                refine ⟨fun w'=>?_,?_⟩
                · go_simp <;> exact ⟨rfl,rfl⟩
                intro D z' w' hD hz hd hp hJ
                refine (zER w' lv ps2 px (((HE.out.2.2.2.1.chg (S:=fun _=>False) (Chg.of_below hJ.1) (fun _ h=>h.elim))).mono (fun b h=>h.elim)) HE.out.2.2.2.2.2.2).mono ?_
                rintro e w'' ⟨v8,rfl,ho8,hb8⟩
                refine ⟨v8,rfl,fun c hc=>by simp at hc,hJ.1.trans (hb8.mono hJ.1.size),fun _=>?_⟩
                have:=ho8.lower hJ.1.size
                simpa [Tail.zAb] using this
              simp only [Act.put,List.setIfInBounds_toArray,List.set_cons_zero,List.set_cons_succ,Nat.reduceAdd,Nat.reduceEqDiff,reduceIte,Option.getD_some,Option.getD_none]
              refine Tail.zI (by rfl) (by rfl) ?_
              apply Exists.intro
              refine ⟨fun w=>?_,?_⟩
              · go_simp <;> with_reducible rfl
              simp only [Act.put,List.setIfInBounds_toArray,List.set_cons_zero,List.set_cons_succ,Nat.reduceAdd,Nat.reduceEqDiff,reduceIte,Option.getD_some,Option.getD_none]
              refine Tail.zI (by rfl) (by rfl) ?_
              apply Exists.intro
              refine ⟨fun w=>?_,?_⟩
              · go_simp <;> with_reducible rfl
              simp only [Act.put,List.setIfInBounds_toArray,List.set_cons_zero,List.set_cons_succ,Nat.reduceAdd,Nat.reduceEqDiff,reduceIte,Option.getD_some,Option.getD_none]
              intro w8 hJ
              have ho8:=hJ.2 rfl
              have hb8:=hJ.1
              clear hJ
              generalize z 9=v8 at ho8 ⊢
              have c3':w8.cell? ⟨q,3,none⟩=some lv:=(HE.out.2.2.1.kept hb8).cell 3
              have f3':=(HE.out.2.2.1.kept hb8).free 3
              obtain ⟨a8,c8,e8⟩:=ho8.slice
              obtain ⟨l8,hl8⟩:∃ n,n=(zAf RP.name ps2 px).length:=⟨_,rfl⟩
              rw [← hl8] at e8
              subst e8
              have hcs:Chg (fun b=>b=q) w8 (w8.setCell ⟨q,3,none⟩ (.slice a8 l8 c8)):=Chg.set (S:=fun b=>b=q) (a:=⟨q,3,none⟩) (Chg.refl _ _) rfl _
              have hrow9:zB3 w8 (fun b=>b≤q) (.slice a8 l8 c8) (zAf RP.name ps2 px):=zB3.own ho8 (fun g hg h=>by have:=ho8.ge hg;have h:g≤q:=h;have:=HE.out.2.2.2.2.2.1;omega)
              have hrec9:=RPs.put (x:=x) (HE.out.2.2.2.2.1.chg (S:=fun _=>False) (Chg.of_below hb8) (fun _ h=>h.elim)) HC.out.2.2.1 HC.out.2.2.2.1 HC.out.2.2.2.2.1 HC.out.2.2.2.2.2.1 ((HE.out.1.chg (S:=fun _=>False) (Chg.of_below hb8) (fun _ h=>h.elim)))
              have hst:ro2 room L D (i+1)=(true,(ro2 room L D i).2.1,zAf zR.name (ro2 room L D i).2.2 x):=by
               rw [ro2,if_neg (by rw [J2.out.1];decide),HC.out.2.2.2.2.2.2.2.1]
               simp only []
               rw [if_pos (by rw [H2.out.2.2.2.1];exact HBT.out.symm)]
              have hrq:=H2.out.2.2.2.2.1
              have hD9:zZ (w8.setCell ⟨q,3,none⟩ (.slice a8 l8 c8)) r B (ro2 room L D i).2.1:=(HE.out.2.1.below hb8).chg hcs (fun e=>by have e:r=q:=e;omega) (fun e=>by have e:B=q:=e;omega)
              have hk9:=(HE.out.2.2.1.kept hb8).set 3 (.slice a8 l8 c8)
              have H9:=Lib.hid (And.intro hD9 (And.intro (show Blk (w8.setCell ⟨q,3,none⟩ (.slice a8 l8 c8)) q #[.pointer (some ⟨r,0,none⟩),.int .i64 slots,.int .i64 room,.slice a8 l8 c8,.bool false] 99 from hk9) (And.intro (hrow9.chg hcs (fun b hb _=>by have hb:b=q:=hb;show b≤q;omega)) (And.intro (hrec9.chg hcs (fun b hb _=>by have hb:b=q:=hb;show b≤q;omega)) (And.intro ((((J2.out.2.2.2.2.2.1.trans (Chg.of_below HWB2.out)).trans (Chg.of_below hb8)).trans (hcs.mono fun b hb=>.inr (.inr hb)))) hst)))))
              clear hcs hrow9 hrec9 hst hD9 hk9 ho8 hb8 hl8
              go_wp2_with fail
              refine ⟨⟨i+1,by have:=HC.out.2.2.2.2.2.2.2.2.2;omega,by go_num,.slice a8 l8 c8,zAf RP.name ps2 px,?_⟩,by have:=HC.out.2.2.2.2.2.2.2.2.2;simp [intOf];omega⟩
              rw [H9.out.2.2.2.2.2]
              exact ⟨rfl,H9.out.1,H9.out.2.1,H9.out.2.2.1,H9.out.2.2.2.1,H9.out.2.2.2.2.1⟩
            | false =>
              have cs:=HPX.out wB (Below.refl _ _) 3 _ rfl
              rw [HC.out.2.2.2.2.1] at cs
              have hxs:=(HS.out x (List.mem_of_getElem? HC.out.2.2.2.2.2.2.2.1)).2.2
              obtain ⟨A2,hA2'⟩:∃ n,n=x.slot*(room+1):=⟨_,rfl⟩
              have hA22:A2≤1024*1025:=by
               rw [hA2']
               exact Nat.mul_le_mul (by omega) (by omega)
              have q8:IntKind.i64.wrap ((x.slot:Int)*((room:Int)+1))=(A2:Int):=by
               have e2:(x.slot:Int)*((room:Int)+1)=(A2:Int):=by rw [hA2'];push_cast;rfl
               rw [e2]
               exact IntWalk.i64_in _ (by omega)
              have HA2:=Lib.hid hA2'
              clear hA2' hxs
              go_wp2_with fail
              have hwb:=(zC6 room L D i).2.2.2
              have hDw:=G.out.2.2.2.2.2.2.2.2.1
              refine (zDX r B (ro2 room L D i).2.1 (A2:Int) _ [] _ HE.out.2.1 (zBk _) (fun w' _=>zBk _) (by have:=HR.out.2.2.2.2.2;have:=HC.out.2.2.2.2.2.2.2.2.2;omega)).mono ?_
              rintro e w8 ⟨rfl,hD8,hc8⟩
              obtain ⟨er,her⟩:∃ z,z=(ro2 room L D i).2.1.wres (A2:Int) ([]:List UInt8).length:=⟨_,rfl⟩
              rw [← her]
              have hst:ro2 room L D (i+1)=(decide (er=0),(ro2 room L D i).2.1.wr (A2:Int) [],(ro2 room L D i).2.2):=by
               rw [ro2,if_neg (by rw [J2.out.1];decide),HC.out.2.2.2.2.2.2.2.1]
               simp only []
               rw [if_neg (by rw [H2.out.2.2.2.1,← HBT.out];decide),← HA2.out,her]
               rfl
              have hrq:=H2.out.2.2.2.2.1
              have hcq:∀ b,(b=r∨b=B)→b≤q:=fun b hb=>by omega
              have H9:=Lib.hid (And.intro hD8 (And.intro (hc8.blk HE.out.2.2.1 (fun e=>by omega)) (And.intro (HE.out.2.2.2.1.chg hc8 (fun b hb _=>hcq b hb)) (And.intro (HE.out.2.2.2.2.1.chg hc8 (fun b hb _=>hcq b hb)) (And.intro (((J2.out.2.2.2.2.2.1.trans (Chg.of_below HWB2.out)).trans (hc8.mono fun b hb=>hb.elim .inl (fun h=>.inr (.inl h))))) (And.intro hst hc8))))))
              clear hD8 hc8 hst her hcq hwb hDw cs
              by_cases he:er=0
              · subst he
                have HST:=Lib.hid (show ro2 room L D (i+1)=(true,(ro2 room L D i).2.1.wr (A2:Int) [],(ro2 room L D i).2.2) from by rw [H9.out.2.2.2.2.2.1];rfl)
                go_wp2_with fail
                refine ⟨⟨i+1,by have:=HC.out.2.2.2.2.2.2.2.2.2;omega,by go_num,lv,ps2,?_⟩,by have:=HC.out.2.2.2.2.2.2.2.2.2;simp [intOf];omega⟩
                rw [HST.out]
                exact ⟨rfl,H9.out.1,H9.out.2.1,H9.out.2.2.1,H9.out.2.2.2.1,H9.out.2.2.2.2.1⟩
              · have t5:(er != 0)=true:=by simp [he]
                have t6:(er == 0)=false:=by simp [he]
                have HST:=Lib.hid (show ro2 room L D (i+1)=(false,(ro2 room L D i).2.1.wr (A2:Int) [],(ro2 room L D i).2.2) from by rw [H9.out.2.2.2.2.2.1,decide_eq_false he])
                have HQ:=Lib.hid (show zAV D0 slots room=(8,(ro2 room L D i).2.1.wr (A2:Int) [],[]) from by
                 have hs:=zH9 room L D (i:=i+1) (n:=L.length) (by have:=HC.out.2.2.2.2.2.2.2.2.2;have:=H2.out.2.2.2.1;omega) (by rw [HST.out])
                 unfold zAV
                 rw [if_neg (by rw [← HDD.out];decide),if_neg (by rw [G.out.1];decide),← G.out.2.2.2.2.2.1,← G.out.2.2.2.2.2.2.1,if_pos (by rw [hs,HST.out]),hs,HST.out])
                have hcf:Chg (fun b=>b=r∨b=B) w w8:=by
                 have e1:Chg (fun b=>b=r∨b=B∨b=q) w w8:=((Chg.of_below HB.out.1).trans ((G.out.2.2.2.2.1.mono fun b hb=>hb.elim .inl (fun h=>.inr (.inl h))))).trans H9.out.2.2.2.2.1
                 exact ⟨e1.os,e1.tape,e1.output,e1.size,fun k hk hs=>e1.block k hk (fun h=>by
                  have:=HB.out.2.2.2
                  rcases h with h | h | h
                  · exact hs (.inl h)
                  · exact hs (.inr h)
                  · omega)⟩
                have HCF:=Lib.hid hcf
                clear he hcf
                go_wp2_with fail
                go_ret2
                exact .inr ⟨by rw [HQ.out],rfl,by rw [HQ.out];exact H9.out.1,HCF.out⟩
       · obtain rfl:nA=i:=by omega
         have k0:decide ((nA:Int) < (nA:Int))=false:=by simp
         have k0':decide (nA < nA)=false:=by simp
         have hln:=zC6 room L D nA
         have HQ:=Lib.hid (show zAV D0 slots room=(0,(ro2 room L D nA).2.1,(ro2 room L D nA).2.2) from by
          unfold zAV
          rw [if_neg (by rw [← HDD.out];decide),if_neg (by rw [G.out.1];decide),← G.out.2.2.2.2.2.1,← G.out.2.2.2.2.2.2.1,H2.out.2.2.2.1,if_neg (by rw [J2.out.1];decide)])
         have hrq:=H2.out.2.2.2.2.1
         have hNq:∀ b,(N b∨b=q)→b≤q:=fun b hb=>by
          have:=HB.out.2.2.2
          rcases hb with h | h
          · have:=HR.out.2.2.1 b h;omega
          · omega
         have hst:zAA wr2 (fun b=>N b∨b=q) q r B lv ps2 (ro2 room L D nA).2.1 slots room (ro2 room L D nA).2.2 false :=
          ⟨J2.out.2.2.1,J2.out.2.1,J2.out.2.2.2.1.mono (fun b hb=>.inl (hNq b hb)),J2.out.2.2.2.2.1.mono (fun b hb=>.inl (hNq b hb)),.inr rfl,.inl HR.out.2.2.2.1,.inl HR.out.2.2.2.2.1,(fun e=>by omega),(fun e=>by omega),by rw [hln.2.2.1,G.out.2.2.2.2.2.2.2.1];exact HA.out.1,HA.out.2.1,HA.out.2.2.1,by have:=H2.out.2.2.2.1;have:=G.out.2.2.2.2.2.2.2.2.2.1;omega,fun x hx=>by
           have:=HS.out x (hln.2.1 x hx)
           exact ⟨by omega,this.2.1,this.2.2⟩⟩
         have hcf:Chg (fun b=>b=r∨b=B) w wr2:=by
          have e1:Chg (fun b=>b=r∨b=B∨b=q) w wr2:=((Chg.of_below HB.out.1).trans ((G.out.2.2.2.2.1.mono fun b hb=>hb.elim .inl (fun h=>.inr (.inl h))))).trans J2.out.2.2.2.2.2.1
          exact ⟨e1.os,e1.tape,e1.output,e1.size,fun k hk hs=>e1.block k hk (fun h=>by
           have:=HB.out.2.2.2
           rcases h with h | h | h
           · exact hs (.inl h)
           · exact hs (.inr h)
           · omega)⟩
         have HF:=Lib.hid (And.intro hst hcf)
         clear hln hrq hNq hst hcf h0 hi
         go_wp2_with fail
         go_ret2
         exact .inl ⟨by rw [HQ.out],q,lv,ps2,rfl,Nat.le_of_eq HB.out.2.2.2.symm,by rw [HQ.out];exact HF.out.1,HF.out.2⟩
end Go.Proofs.YtdlkghdfkjdajaaGreatDoor
end
