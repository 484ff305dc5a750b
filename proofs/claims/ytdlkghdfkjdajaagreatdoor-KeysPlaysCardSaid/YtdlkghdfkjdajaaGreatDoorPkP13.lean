/- Texts of this proof,packed: RefMath,Ref01. -/
import Derived.Test.YtdlkghdfkjdajaaGreatDoorPkP00
import Derived.Test.YtdlkghdfkjdajaaGreatDoorPkP02
import Derived.Deep.RegionHeld3
section
namespace Cod
open Go.Lib
def zAG:List UInt8→Nat→Nat→Nat × Nat
 | [],n,d=>(n,d)
 | c::r,n,d=>if 48≤c.toNat∧c.toNat≤57∧d < 6 then zAG r (10*n+(c.toNat - 48)) (d+1) else (n,d)
def zx (b:List UInt8):Nat × Nat:=zAG b 0 0
theorem zG3 {l:List UInt8} {n d:Nat} {c:UInt8} {r:List UInt8} (hl:l=c::r) (h:48≤c.toNat∧c.toNat≤57∧d < 6):zAG l n d=zAG r (10*n+(c.toNat - 48)) (d+1):=by
 subst hl;rw [zAG,if_pos h]
theorem zG4 {l:List UInt8} {n d:Nat} (h:∀ c r,l=c::r→¬ (48≤c.toNat∧c.toNat≤57∧d < 6)):zAG l n d=(n,d):=by
 cases l with
 | nil=>rfl
 | cons c r=>rw [zAG,if_neg (h c r rfl)]
theorem zDY:∀ (l:List UInt8) (n d:Nat),d≤6→n < 10 ^ d→(zAG l n d).1 < 10 ^ (zAG l n d).2∧(zAG l n d).2≤6∧d≤(zAG l n d).2∧n≤(zAG l n d).1∧(zAG l n d).2≤d+l.length
 | [],n,d,h,h2=>by simp [zAG];omega
 | c::r,n,d,h,h2=>by
   rw [zAG]
   by_cases hc:48≤c.toNat∧c.toNat≤57∧d < 6
   · rw [if_pos hc]
     have:=zDY r (10*n+(c.toNat - 48)) (d+1) (by omega) (by rw [Nat.pow_succ];omega)
     simp only [List.length_cons]
     omega
   · rw [if_neg hc];simp only [List.length_cons];omega
theorem zLX (b:List UInt8):(zx b).1 < 1000000∧(zx b).2≤6∧(zx b).2≤b.length:=by
 have:=zDY b 0 0 (by omega) (by decide)
 unfold zx
 have h2:10 ^ (zAG b 0 0).2≤10 ^ 6:=Nat.pow_le_pow_right (by decide) this.2.1
 omega
theorem zDu:∀ (l:List UInt8) (n d:Nat),(zAD l n d).1≤16384→(zAD l n d).2≤6→zAG l n d=zAD l n d
 | [],n,d,_,_=>rfl
 | c::r,n,d,h1,h2=>by
   rw [zAD] at h1 h2 ⊢
   rw [zAG]
   by_cases hc:48≤c.toNat∧c.toNat≤57∧n≤16384
   · rw [if_pos hc] at h1 h2 ⊢
     have hs:=zEF r (10*n+(c.toNat - 48)) (d+1) (by omega)
     rw [if_pos ⟨hc.1,hc.2.1,by omega⟩]
     exact zDu r _ _ h1 h2
   · rw [if_neg hc] at h1 h2 ⊢
     simp only at h1 h2
     rw [if_neg (by omega)]
theorem zFZ:∀ (l:List UInt8) (n d:Nat),n*10 ^ ((zAD l n d).2 - d)≤(zAD l n d).1∧d≤(zAD l n d).2
 | [],n,d=>by simp [zAD]
 | c::r,n,d=>by
   rw [zAD]
   by_cases hc:48≤c.toNat∧c.toNat≤57∧n≤16384
   · rw [if_pos hc]
     have ih:=zFZ r (10*n+(c.toNat - 48)) (d+1)
     generalize (zAD r (10*n+(c.toNat - 48)) (d+1))=p at ih
     refine ⟨?_,by omega⟩
     have e:p.2 - d=(p.2 - (d+1))+1:=by omega
     rw [e,Nat.pow_succ]
     refine Nat.le_trans ?_ ih.1
     rw [Nat.mul_comm (10 ^ _) 10,← Nat.mul_assoc]
     exact Nat.mul_le_mul_right _ (by omega)
   · rw [if_neg hc];simp
theorem zEV:∀ (l:List UInt8) (n d:Nat),(zAG l n d).1≤16384→(∀ c,l[(zAG l n d).2 - d]?=some c→¬ (48≤c.toNat∧c.toNat≤57))→d≤6→n < 10 ^ d→zAD l n d=zAG l n d
 | [],n,d,_,_,_,_=>rfl
 | c::r,n,d,h1,h2,h3,h4=>by
   rw [zAG] at h1 h2 ⊢
   rw [zAD]
   by_cases hc:48≤c.toNat∧c.toNat≤57∧d < 6
   · rw [if_pos hc] at h1 h2 ⊢
     have hn:10*n+(c.toNat - 48) < 10 ^ (d+1):=by rw [Nat.pow_succ];omega
     have hs:=zDY r (10*n+(c.toNat - 48)) (d+1) (by omega) hn
     rw [if_pos ⟨hc.1,hc.2.1,by omega⟩]
     refine zEV r _ _ h1 (fun c' hc'=>h2 c' ?_) (by omega) hn
     rw [show (zAG r (10*n+(c.toNat - 48)) (d+1)).2 - d=((zAG r (10*n+(c.toNat - 48)) (d+1)).2 - (d+1))+1 from by omega,List.getElem?_cons_succ]
     exact hc'
   · rw [if_neg hc] at h1 h2 ⊢
     have:=h2 c (by simp)
     rw [if_neg (by omega)]
theorem zKf {b:List UInt8} (h1:1≤(size b).2) (h2:¬ (1 < (size b).2∧b.getD 0 0=48)) (h3:(size b).1≤16384):zx b=size b:=by
 refine zDu b 0 0 h3 ?_
 have hp:=h2
 show (size b).2≤6
 rcases Nat.lt_or_ge 1 (size b).2 with h | h
 · cases b with
   | nil=>simp [size,zAD] at h
   | cons c r =>
     have hc:c≠48:=fun e=>hp ⟨h,by rw [e];rfl⟩
     have hd:48≤c.toNat∧c.toNat≤57∧0≤16384:=by
      refine Classical.byContradiction fun hn=>?_
      rw [size,zAD,if_neg hn] at h
      exact absurd h (by decide)
     have e:size (c::r)=zAD r (10*0+(c.toNat - 48)) (0+1):=by rw [size,zAD,if_pos hd]
     have hg:=zFZ r (10*0+(c.toNat - 48)) (0+1)
     rw [← e] at hg
     have hc1:1≤10*0+(c.toNat - 48):=by
      have:c.toNat≠48:=fun e=>hc (by rw [← UInt8.toNat_inj];exact e)
      omega
     have h5:10 ^ ((size (c::r)).2 - (0+1))≤16384:=by
      refine Nat.le_trans ?_ (Nat.le_trans hg.1 h3)
      exact Nat.le_mul_of_pos_left _ hc1
     refine Classical.byContradiction fun hn=>?_
     have:10 ^ 6≤10 ^ ((size (c::r)).2 - (0+1)):=Nat.pow_le_pow_right (by decide) (by omega)
     omega
 · omega
def zDB (b:List UInt8):Prop:=(zx b).2=0∨b.length≤(zx b).2∨b.getD (zx b).2 0≠58∨(b.getD 0 0=48∧1 < (zx b).2)∨16384 < (zx b).1∨b.length < (zx b).2+(zx b).1+2∨b.getD ((zx b).2+1+(zx b).1) 0≠44
theorem zGM {b:List UInt8} (h:¬ zDB b):zx b=size b∧zy b=some ((b.drop ((zx b).2+1)).take (zx b).1,b.drop ((zx b).2+(zx b).1+2)):=by
 unfold zDB at h
 simp only [not_or,not_and,Nat.not_lt,Nat.not_le,ne_eq,Decidable.not_not] at h
 obtain ⟨h1,h2,h3,h4,h5,h6,h7⟩:=h
 have e:size b=zx b:=zEV b 0 0 h5 (fun c hc=>by
  have hc2:b[(zx b).2]?=some c:=hc
  rw [List.getD_eq_getElem?_getD,hc2] at h3
  have:c=58:=h3
  subst this
  decide) (by omega) (by decide)
 refine ⟨e.symm,?_⟩
 unfold zy zGQ zGR
 rw [e]
 have a1:((zx b).2 == 0)=false:=by simpa using h1
 have a2:(decide (1 < (zx b).2) && (b.getD 0 0 == 48))=false:=by
  by_cases hz:b.getD 0 0=48
  · have:=h4 hz
    rw [decide_eq_false (by omega)];rfl
  · have:(b.getD 0 0 == 48)=false:=by simpa using hz
    rw [this,Bool.and_false]
 have a3:decide (16384 < (zx b).1)=false:=by simpa using h5
 have a4:decide (b.length < (zx b).2+(zx b).1+2)=false:=by simpa using h6
 have a5:(b.getD (zx b).2 0 != 58)=false:=by simpa using h3
 have a6:(b.getD ((zx b).2+1+(zx b).1) 0 != 44)=false:=by simpa using h7
 rw [a1,a2,a3,a4,a5,a6]
 rfl
theorem zKg {b x y:List UInt8} (h:zy b=some (x,y)):¬ zDB b∧x=(b.drop ((zx b).2+1)).take (zx b).1∧y=b.drop ((zx b).2+(zx b).1+2):=by
 have hb:zGQ b=false∧zGR b=false:=by
  unfold zy at h
  cases e1:zGQ b with
  | true=>rw [e1] at h;cases h
  | false =>
    rw [e1] at h
    cases e2:zGR b with
    | true=>rw [e2] at h;cases h
    | false=>exact ⟨rfl,rfl⟩
 have h1:=hb.1
 have h2:=hb.2
 unfold zGQ at h1
 unfold zGR at h2
 simp only [Bool.or_eq_false_iff,beq_eq_false_iff_ne,ne_eq,Bool.and_eq_false_iff,decide_eq_false_iff_not,Nat.not_lt,bne_eq_false_iff_eq] at h1 h2
 have e:zx b=size b:=zKf (by omega) (by
  rintro ⟨c1,c2⟩
  rcases h1.1.2 with h | h
  · omega
  · exact h c2) h1.2
 have hn:¬ zDB b:=by
  unfold zDB
  rw [e]
  rintro (c | c | c | c | c | c | c)
  · exact h1.1.1 c
  · omega
  · exact c h2.1.2
  · rcases h1.1.2 with h | h
    · omega
    · exact h c.1
  · omega
  · omega
  · exact c h2.2
 refine ⟨hn,?_⟩
 have:=(zGM hn).2
 rw [h] at this
 injection this with this
 injection this with t1 t2
 exact ⟨t1,t2⟩
end Cod
end
section
namespace Go.Proofs.YtdlkghdfkjdajaaGreatDoor
open Go Go.RowKit Go.Mem Gf
attribute [local go_sem ↓] Go.wp_at_zero Go.wp_at_succ
set_option maxRecDepth 20000 in
set_option maxHeartbeats 1000000 in
theorem zJF (n:Nat) (m:Nat) (hn:n≤9223372036854775807) (h1:1≤m) (hm:m≤8) (w:World) :
  Calls Tryz.prog 49 #[.int .i64 n,.int .i64 m] w fun e w'=>∃ v,e=.returned v∧zBv 5 w' w.heap.size v (Cod.be m n)∧Below w.heap.size w w':=by
 have hmk:∀ w,(Instr.makeSlice 41 (.int .i64 (m:Int)) (.int .i64 (m:Int))).run Tryz.prog w=.ok (.slice (some ⟨w.heap.size,0,none⟩) m m) (w.alloc (.cells (zW m fun _=>0) 5)):=fun w=>by
  have:=zDQ (P:=Tryz.prog) 41 5 Tryz.underlying41 E8k m (by omega) w
  rw [zB1] at this
  exact this
 have hmx:min (m:Int) 8=m:=by omega
 have n0:decide ((n:Int) < 0)=false:=by simp
 have hB0:Blk (w.alloc (.cells (zW m fun _=>0) 5)) w.heap.size (zW m fun _=>0) 5:=Blk.new _ _ _
 go_enter Tryz.func49,Tryz.ntmps49
 go_wp2_with fail
 go_loopw [0,6] (fun u v wr=>∃ (k j:Nat),k+j=m∧u=.int .i64 ((n / 256 ^ k:Nat):Int)∧v=.int .i64 ((j:Int) - 1)∧Blk wr w.heap.size (zW m fun x=>if j≤x then UInt8.ofNat (n / 256 ^ (m - 1 - x)) else 0) 5∧Below w.heap.size w wr) (fun _ v _=>(intOf v+1).toNat)
 case atStart=>exact ⟨0,m,by omega,by simp,rfl,by rw [zBh (m:=m) (f:=fun x=>if m≤x then UInt8.ofNat (n / 256 ^ (m - 1 - x)) else 0) (g:=fun _=>0) (fun x hx=>if_neg (by omega))];exact hB0,(Below.refl _ _).alloc (Nat.le_refl _) _⟩
 case round =>
  clear hB0 hmk
  obtain ⟨k,j,hkj,rfl,rfl,hB,hb⟩:=hrel
  by_cases h0:1≤j
  · obtain ⟨i,rfl⟩:∃ i,j=i+1:=⟨j - 1,by omega⟩
    have e1:((i+1:Nat):Int) - 1=(i:Int):=by omega
    rw [e1]
    have c1:wr.cell? ⟨w.heap.size,i,none⟩=some (.int .u8 0):=by rw [hB.cell,zAN _ _ _ (by omega),if_neg (by omega)];rfl
    have f1:=hB.free i
    obtain ⟨q,hq⟩:∃ q,q=n / 256 ^ k:=⟨_,rfl⟩
    have hq1:q≤9223372036854775807:=by rw [hq];exact Nat.le_trans (Nat.div_le_self _ _) hn
    rw [← hq]
    have Hq:=Lib.hid hq;have HB:=Lib.hid hB
    have q8:((UInt8.ofNat q).toNat:Int)=(q:Int) % 256:=by rw [UInt8.toNat_ofNat'];rfl
    have HQ8:=Lib.hid q8
    clear hq hB q8
    go_wp2
    refine ⟨⟨k+1,i,by omega,?_,rfl,?_,hb.setCell (Nat.le_refl _) _⟩,by simp [intOf] <;> omega⟩
    · rw [Nat.pow_succ,← Nat.div_div_eq_div_mul,← Hq.out];congr 1
    · have:=HB.out.set i (.int .u8 (((UInt8.ofNat q).toNat:Nat):Int))
      rw [zFT] at this
      rw [show ((q:Int) % 256)=(((UInt8.ofNat q).toNat:Nat):Int) from HQ8.out.symm]
      rw [← zBh (m:=m) (f:=fun x=>if x=i then UInt8.ofNat q else if i+1≤x then UInt8.ofNat (n / 256 ^ (m - 1 - x)) else 0) (fun x hx=>?_)]
      · exact this
      · by_cases e:x=i
        · subst e;rw [if_pos rfl,if_pos (Nat.le_refl _),Hq.out,show m - 1 - x=k from by omega]
        · rw [if_neg e]
          by_cases e2:i+1≤x
          · rw [if_pos e2,if_pos (by omega)]
          · rw [if_neg e2,if_neg (by omega)]
  · obtain rfl:j=0:=by omega
    go_wp2
    go_ret
    refine ⟨_,rfl,?_,hb⟩
    have:=zHw (base:=w.heap.size) hB (Nat.le_refl _) (by omega)
    rw [← zJl,zFU (g:=fun x=>if 0≤x then UInt8.ofNat (n / 256 ^ (m - 1 - x)) else 0) (fun x hx=>(if_pos (Nat.zero_le _)).symm)]
    exact this
theorem zEC (n:Nat) (m:Nat) (hn:n≤9223372036854775807) (h1:1≤m) (hm:m≤8) (w:World) :
  Calls Tryz.prog 49 #[.int .i64 n,.int .i64 m] w fun e w'=>∃ v,e=.returned v∧zP 5 w' w.heap.size v (Cod.be m n)∧Below w.heap.size w w' :=
 (zJF n m hn h1 hm w).mono fun _ _ ⟨v,he,h2,h3⟩=>⟨v,he,h2.x,h3⟩
set_option maxRecDepth 100000 in
set_option maxHeartbeats 1000000 in
theorem zFP (v:Value) (bs:List UInt8) (w:World) (h:Bys w v bs) (hl:bs.length≤7) :
  Calls Tryz.prog 78 #[v] w fun e w'=>e=.returned (.tuple #[.int .i64 (Cod.zAh bs:Nat),.bool true])∧w=w':=by
 obtain ⟨a,c,rfl⟩:=h.eq_slice
 obtain ⟨l,hl'⟩:∃ l,l=bs.length:=⟨_,rfl⟩
 rw [← hl'] at hl h ⊢
 have Hl:=Lib.hid hl'
 clear hl'
 go_enter Tryz.func78,Tryz.ntmps78
 have t7:decide ((7:Int) < (l:Int))=false:=by simp;omega
 go_wp2
 go_loop [4,11] (fun u v=>∃ i:Nat,i≤l∧u=.int .i64 (Cod.zAh (bs.take i):Nat)∧v=.int .i64 i) (fun _ v=>l - (intOf v).toNat)
 case atStart=>exact ⟨0,by omega,rfl,rfl⟩
 case round =>
  obtain ⟨i,hi,rfl,rfl⟩:=hrel
  by_cases h0:i < l
  · obtain ⟨b,o,u,rfl,Hu,c1,hu⟩:=h.at i (by have:=Hl.out;omega)
    have i0:(0:Int)≤(i:Int):=by omega
    have i1:(i:Int) < (l:Int):=by omega
    have Hs:=Lib.hid (show Cod.zAh (bs.take (i+1))=Cod.zAh (bs.take i)*256+u.toNat from by
     rw [List.take_add_one,Hu.out];exact Cod.zE0 _ _ _)
    have hg:=Cod.zBV (bs.take i) (by rw [List.length_take];omega)
    have hg2:=Cod.zBV (bs.take (i+1)) (by rw [List.length_take];omega)
    rw [Hs.out] at hg2
    obtain ⟨g,hgg⟩:∃ g,g=Cod.zAh (bs.take i):=⟨_,rfl⟩
    rw [← hgg] at hg hg2 ⊢
    have Hg:=Lib.hid hgg
    clear hgg
    go_wp2
    exact ⟨⟨i+1,by omega,by rw [Hs.out,← Hg.out];exact congrArg (Value.int .i64) (by push_cast;omega),by go_num⟩,by simp [intOf];omega⟩
  · obtain rfl:i=l:=by omega
    have e:bs.take i=bs:=List.take_of_length_le (by have:=Hl.out;omega)
    rw [e]
    clear e
    go_wp2
    go_ret2
    exact ⟨rfl,rfl⟩
def zD6 (n:Nat):ByteArray:=⟨(Lib.decDigits n).toArray⟩
theorem zIl (n:Nat) (h:n < 10):zD6 n=⟨#[UInt8.ofNat (48+n)]⟩:=by
 unfold zD6;rw [Lib.decDigits,dif_pos h]
theorem zKz (n:Nat) (h:¬ n < 10):zD6 n=zD6 (n / 10)++⟨#[UInt8.ofNat (48+n % 10)]⟩:=by
 apply ByteArray.ext
 show (Lib.decDigits n).toArray=(zD6 (n / 10)++_).data
 rw [Lib.decDigits,dif_neg h,ByteArray.data_append]
 simp [zD6]
theorem zHQ (u:UInt8) (w:World) (g:Nat) (h:w.cell? ⟨g,0,none⟩=some (.int .u8 ((u.toNat:Nat):Int))):(convert 41 9 (.slice (some ⟨g,0,none⟩) 1 1)).run Tryz.prog w=.ok (.string ⟨#[u]⟩) w:=by
 refine zCl (bs:=[u]) ⟨_,1,rfl,by simp,zAC (by decide),fun _=>⟨g,0,rfl,fun i v hi=>?_⟩⟩
 cases i with
 | zero=>simp at hi;subst hi;exact h
 | succ i=>simp at hi
theorem bcell {W w1:World} (hb:Below W.heap.size W w1):(∀ b o,b < W.heap.size→w1.cell? ⟨b,o,none⟩=W.cell? ⟨b,o,none⟩) :=
 fun b o h=>hb.cell (p:=⟨b,o,none⟩) h
theorem zFz (n:Nat) (h:n≤100000000):(zD6 n).size≤9:=by
 have:=zAw n h
 rw [Lib.itoa_nonneg] at this
 simpa [zD6,ByteArray.size] using this
set_option maxRecDepth 100000 in
set_option maxHeartbeats 1000000 in
theorem zI9 (n:Nat):n≤100000000→∀ w,Calls Tryz.prog 108 #[.int .i64 n] w fun e w'=>e=.returned (.string (zD6 n))∧Below w.heap.size w w':=by
 induction n using Nat.strongRecOn with
 | _ n ih =>
   intro hn w
   by_cases h:n < 10
   · have hs:=zIl n h
     have d0:decide ((n:Int) < 10)=true:=by simp;omega
     have hu:((UInt8.ofNat (48+n)).toNat:Int)=48+(n:Int):=by rw [Cod.zBY h];omega
     have hc:=zHQ (UInt8.ofNat (48+n))
     rw [← hs,hu] at hc
     clear hs hu ih
     go_enter Tryz.func108,Tryz.ntmps108
     go_wp2_with fail
     go_ret
     exact ⟨rfl,(Below.refl _ _).alloc (Nat.le_refl _) _⟩
   · have hs:=zKz n h
     obtain ⟨q,hq⟩:∃ q,q=n / 10:=⟨_,rfl⟩
     obtain ⟨r,hr⟩:∃ r,r=n % 10:=⟨_,rfl⟩
     have d0:decide ((n:Int) < 10)=false:=by simp;omega
     have hr10:r < 10:=by omega
     obtain ⟨u,hue⟩:∃ u,u=UInt8.ofNat (48+r):=⟨_,rfl⟩
     have hu:((u.toNat:Nat):Int)=48+(r:Int):=by rw [hue,Cod.zBY hr10];omega
     have hc:=zHQ u
     have e1:(n:Int) / 10=(q:Int):=by omega
     have e2:(n:Int) % 10=(r:Int):=by omega
     have t1:(n:Int).tdiv 10=(q:Int):=by rw [Int.tdiv_eq_ediv_of_nonneg (by omega)];omega
     have t2:(n:Int).tmod 10=(r:Int):=by rw [Int.tmod_eq_emod_of_nonneg (by omega)];omega
     have w1:IntKind.i64.wrap (q:Int)=(q:Int):=IntWalk.i64_in _ (by omega)
     have w2:IntKind.i64.wrap (r:Int)=(r:Int):=IntWalk.i64_in _ (by omega)
     have w3:IntKind.i64.wrap (48+(r:Int))=48+(r:Int):=IntWalk.i64_in _ (by omega)
     have w4:IntKind.u8.wrap (48+(r:Int))=48+(r:Int):=by unfold IntKind.wrap;simp [IntKind.bits,IntKind.signed];omega
     rw [hu] at hc
     rw [← hq,← hr,← hue] at hs
     have IH:=Lib.hid (ih q (by omega) (by omega))
     have hz:=zFz q (by omega)
     have hz2:(zD6 q).size+1≤maxLen:=zAC (by omega)
     have HS:=Lib.hid hs
     clear hs hu ih hq hr hue
     go_enter Tryz.func108,Tryz.ntmps108
     go_wp2_with fail
     go_region_with
      (go_at_call 108
       refine (IH.out _).mono ?_
       rintro e w2 ⟨rfl,hb2⟩
       have hk:=bcell hb2
       have hz:=hb2.size)
     all_goals
      go_wp2_with fail
      go_ret
      refine ⟨by rw [HS.out];rfl,?_⟩
     · exact (zCN hb2).alloc (Nat.le_of_lt_succ (Nat.lt_succ_of_le hz)) _
     all_goals exact ((Below.refl w.heap.size w).alloc (Nat.le_refl _) _).trans ((zCN hb2).mono (by simp))
set_option maxRecDepth 100000 in
set_option maxHeartbeats 1000000 in
theorem zCT (v:Value) (bs:List UInt8) (w:World) (h:Bys w v bs) (hl:bs.length≤100000000) :
  Calls Tryz.prog 89 #[v] w fun e w'=>∃ v',e=.returned v'∧zP 5 w' w.heap.size v' (Cod.net bs)∧Below w.heap.size w w':=by
 obtain ⟨a,c,rfl⟩:=h.eq_slice
 obtain ⟨l,hl'⟩:∃ l,l=bs.length:=⟨_,rfl⟩
 have Hn:=Lib.hid (show Cod.net bs=(zD6 bs.length).data.toList++[58]++bs++[44] from by rw [Cod.zGj];simp [zD6])
 rw [← hl'] at hl h Hn ⊢
 have Hl:=Lib.hid hl'
 clear hl'
 go_enter Tryz.func89,Tryz.ntmps89
 go_wp2_with fail
 refine (zI9 l hl w).mono ?_
 rintro e w1 ⟨rfl,hb1⟩
 have hss:=zFz l hl
 obtain ⟨s,hs⟩:∃ s:ByteArray,s=zD6 l:=⟨_,rfl⟩
 rw [← hs] at hss Hn ⊢
 have hsl:s.data.toList.length≤9:=by rw [Array.length_toList];exact hss
 have hconv:=Lib.run_convert_string_bytes (P:=Tryz.prog) w1 9 41 5 s Tryz.underlying9 Tryz.underlying41 Tryz.underlying5
 obtain ⟨ho,hb2⟩:=zBl w1 5 s (zAC (by omega))
 obtain ⟨w2,hw2⟩:∃ w2,w2=Lib.bytesWorld w1 5 s:=⟨_,rfl⟩
 rw [← hw2] at ho hb2 hconv
 have hbw2:Below w.heap.size w w2:=hb1.trans (hb2.mono hb1.size)
 obtain ⟨dl,hdl⟩:∃ d,d=s.data.toList:=⟨_,rfl⟩
 rw [← hdl] at ho Hn hsl
 have Hs:=Lib.hid hs;have Hsl:=Lib.hid hdl
 have hs1:=hb1.size
 have hs2:=hb2.size
 clear hs hdl hw2
 go_wp2_with (at_builtin;refine zBL E8c rfl _ _ rfl (base:=w.heap.size) (bs:=dl) (news:=[58]) rfl rfl ((ho.mono hs1).alloc _) (zAv _ 58 _ rfl _) ?q1 ?q2 ?_)
 case q1=>rw [List.length_singleton];omega
 case q2=>simp;omega
 intro v3 w3 ho3 hg3
 have hb3:=zN (hbw2.alloc hbw2.size _) hg3 (fun k hk=>by simp [Value.ownBlock] at hk;omega)
 have hs3:=hb3.size
 have hlt3:=ho3.lt
 clear hconv ho hb2 hg3 hbw2
 go_wp2_with (at_builtin;refine zBL E8c rfl _ _ rfl (base:=w.heap.size) (news:=bs) rfl rfl ho3 (h.below hb3) ?q3 ?q4 ?_)
 case q3=>have:=Hl.out;simp;omega
 case q4=>exact hs3
 intro v4 w4 ho4 hg4
 have hb4:=zN hb3 hg4 (fun k hk=>(hlt3 k hk).1)
 have hs4:=hb4.size
 have hlt4:=ho4.lt
 clear hg4 ho3 hb3
 go_wp2_with (at_builtin;refine zBL E8c rfl _ _ rfl (base:=w.heap.size) (news:=[44]) rfl rfl (ho4.alloc _) (zAv _ 44 _ rfl _) ?q5 ?q6 ?_)
 case q5=>have:=Hl.out;simp;omega
 case q6=>simp;omega
 intro v5 w5 ho5 hg5
 have hb5:=zN (hb4.alloc hs4 _) hg5 (fun k hk=>(hlt4 k hk).1)
 clear hg5 ho4 hb4
 go_wp2
 go_ret
 exact ⟨v5,rfl,by rw [Hn.out];simpa using ho5,hb5⟩
set_option maxRecDepth 100000 in
set_option maxHeartbeats 1000000 in
theorem zEQ (v:Value) (rows:List (List UInt8)) (w:World) (h:Rws w v rows) (hl:(Cod.zAU rows).length≤100000000) :
  Calls Tryz.prog 90 #[v] w fun e w'=>∃ v',e=.returned v'∧zP 5 w' w.heap.size v' (Cod.zAU rows)∧Below w.heap.size w w':=by
 have hrl:=h.len
 obtain ⟨a,c,rfl⟩:=h.eq_slice
 obtain ⟨n,hn⟩:∃ n,n=rows.length:=⟨_,rfl⟩
 rw [← hn] at h hrl ⊢
 have Hn:=Lib.hid hn
 clear hn
 go_enter Tryz.func90,Tryz.ntmps90
 go_wp2_with fail
 go_loopw [3,7] (fun u v wr=>∃ i:Nat,i≤n∧v=.int .i64 i∧zP 5 wr w.heap.size u (Cod.zAU (rows.take i))∧Below w.heap.size w wr) (fun _ v _=>n - (intOf v).toNat)
 case atStart=>exact ⟨0,by omega,rfl,zP.nil _ _ _,Below.refl _ _⟩
 case round =>
  obtain ⟨i,hi,rfl,ho,hb⟩:=hrel
  by_cases h0:i < n
  · obtain ⟨b,o,bs,va,rfl,hr,c1,hrow⟩:=(h.below hb).at i (by have:=Hn.out;omega)
    have i0:(0:Int)≤(i:Int):=by omega
    have i1:(i:Int) < (n:Int):=by omega
    have hle:=zEL hr.out
    have hnl:=Cod.zAL bs
    have hs:=hb.size
    have hlt:=ho.lt
    have Hfin:=Lib.hid (show Cod.zAU (rows.take (i+1))=Cod.zAU (rows.take i)++Cod.net bs from by rw [List.take_add_one,hr.out];exact Cod.zC2 _ _)
    go_wp2_with fail
    refine (zCT va bs wr hrow (by omega)).mono ?_
    rintro e w2 ⟨v2,rfl,ho2,hb2⟩
    go_wp2_with (at_builtin;refine zBL E8c rfl _ _ rfl (base:=w.heap.size) (news:=Cod.net bs) rfl rfl (ho.below hb2) ho2.bys ?q1 ?q2 ?_)
    case q1=>omega
    case q2=>have:=hb2.size;omega
    intro v3 w3 ho3 hg3
    have hb3:=zN (hb.trans (hb2.mono hs)) hg3 (fun k hk=>(hlt k hk).1)
    rw [← Hfin.out] at ho3
    clear hg3 ho2 hb2 hle hnl
    go_wp2
    exact ⟨⟨i+1,by omega,by go_num,ho3,hb3⟩,by simp [intOf] <;> omega⟩
  · obtain rfl:i=n:=by omega
    have e:rows.take i=rows:=List.take_of_length_le (by have:=Hn.out;omega)
    rw [e] at ho
    go_wp2
    go_ret
    exact ⟨_,rfl,ho,hb⟩
end Go.Proofs.YtdlkghdfkjdajaaGreatDoor
end
