/- Texts of this proof,packed: Mem,ShaWord,CodeMath,ShaMath,Tail,Mem2,GfMath,MatMath,MatMem,App,MatChg,CopySet,LongOp,AppCells. -/
import Derived.WalkKit
import Derived.WalkSmall
import Derived.Deep.Draws
import Derived.Laws.BitsLemmas
import Derived.Lib.ItoaMem
import Derived.StillTail
import Derived.Deep.Quiet
import Derived.Deep.QuietTactic
import Derived.Laws.AppendOwnNone
import Derived.Laws.IdiomCopy
import Derived.Laws.CopyOwn
import Derived.Deep.MidRow
import Derived.Great.BuildSlice
section
namespace Go.Mem
open Go Go.RowKit
def Blk (w:World) (b:Nat) (arr:Array Value) (t:TypeId):Prop:=w.heap[b]?=some (.cells arr t (0,0))
section
variable {w w':World} {b B:Nat} {arr:Array Value} {t:TypeId}
theorem Blk.cell (h:Blk w b arr t) (i:Nat):w.cell? ⟨b,i,none⟩=arr[i]?:=by
 unfold Blk at h;simp [World.cell?,h]
theorem Blk.free (h:Blk w b arr t) (i:Nat):w.frozen? ⟨b,i,none⟩=false:=by
 unfold Blk at h;simp [World.frozen?,h]
theorem Blk.lt (h:Blk w b arr t):b < w.heap.size:=lt_of_block h
theorem Blk.new (w:World) (arr:Array Value) (t:TypeId):Blk (w.alloc (.cells arr t)) w.heap.size arr t:=by
 show (w.heap.push _)[w.heap.size]?=_
 simp
theorem Blk.new_at (w:World) (arr:Array Value) (t:TypeId) (n:Nat) (h:n=w.heap.size):Blk (w.alloc (.cells arr t)) n arr t:=by
 subst h;exact Blk.new w arr t
theorem Blk.alloc (h:Blk w b arr t) (o:Obj):Blk (w.alloc o) b arr t:=by
 unfold Blk at *;rw [Below.heap_alloc _ _ _ (lt_of_block h)];exact h
theorem Blk.drew (h:Blk w b arr t):Blk w.drew b arr t:=h
theorem Blk.drewN (h:Blk w b arr t) (n:Nat):Blk (w.drewN n) b arr t:=h
theorem Blk.set (h:Blk w b arr t) (i:Nat) (v:Value):Blk (w.setCell ⟨b,i,none⟩ v) b (arr.setIfInBounds i v) t:=by
 have hlt:=h.lt
 unfold Blk at *
 have h':w.heap[b]=.cells arr t (0,0):=by simpa [Array.getElem?_eq_getElem hlt] using h
 show (w.heap.modify b _)[b]?=_
 rw [Array.getElem?_eq_getElem (by simpa using hlt),Array.getElem_modify_self,h']
 rfl
theorem Blk.set_other (h:Blk w b arr t) {a:Addr} (ha:a.block≠b) (v:Value):Blk (w.setCell a v) b arr t:=by
 unfold Blk at *;rw [Below.heap_setCell _ _ _ _ (fun e=>ha e.symm)];exact h
theorem Blk.below (h:Blk w b arr t) (hb:Below B w w') (hB:b < B):Blk w' b arr t:=by
 unfold Blk at *;rw [hb.block b hB];exact h
theorem Blk.kept (h:Blk w b arr t) (hb:Below w.heap.size w w'):Blk w' b arr t:=h.below hb h.lt
end
def Bys (w:World) (v:Value) (bs:List UInt8):Prop :=
 ∃ a cap,v=.slice a bs.length cap∧bs.length≤cap∧cap≤maxLen ∧
   (0 < bs.length→∃ b off,a=some ⟨b,off,none⟩∧∀ i u,bs[i]?=some u→w.cell? ⟨b,off+i,none⟩=some (.int .u8 (u.toNat:Int)))
theorem Bys.nil (w:World):Bys w (.slice none 0 0) []:=⟨none,0,rfl,Nat.le_refl _,Nat.zero_le _,fun h=>by simp at h⟩
theorem Bys.len {w:World} {v:Value} {bs:List UInt8} (h:Bys w v bs):bs.length≤9223372036854775807:=by
 obtain ⟨a,cap,_,h1,h2,_⟩:=h
 unfold maxLen at h2;omega
theorem Bys.drewN {w:World} {v:Value} {bs:List UInt8} (h:Bys w v bs) (n:Nat):Bys (w.drewN n) v bs:=h
theorem Bys.below {w w':World} {v:Value} {bs:List UInt8} (h:Bys w v bs) (hb:Below w.heap.size w w'):Bys w' v bs:=by
 obtain ⟨a,cap,h0,h1,h2,h3⟩:=h
 refine ⟨a,cap,h0,h1,h2,fun hp=>?_⟩
 obtain ⟨b,off,e,hc⟩:=h3 hp
 refine ⟨b,off,e,fun i u hi=>?_⟩
 have:=hc i u hi
 rw [hb.cell (p:=⟨b,off+i,none⟩) (World.block_lt_of_cell? w _ this)]
 exact this
theorem u_lt (u:UInt8):u.toNat < 256:=u.toNat_lt
theorem Bys.at {w:World} {a:Option Addr} {n cap:Nat} {bs:List UInt8} (h:Bys w (.slice a n cap) bs) (k:Nat) (hk:k < bs.length) :
  ∃ b off u,a=some ⟨b,off,none⟩∧Hid (bs[k]?=some u)∧w.cell? ⟨b,off+k,none⟩=some (.int .u8 (u.toNat:Int))∧u.toNat < 256:=by
 obtain ⟨a',cap',e,h1,h2,h3⟩:=h
 obtain ⟨b,off,e',hc⟩:=h3 (by omega)
 injection e with e1 e2 e3
 refine ⟨b,off,bs[k],e1.trans e',by show bs[k]?=_;simp [hk],hc k _ (by simp [hk]),u_lt _⟩
theorem Bys.take {w:World} {a:Option Addr} {len cap:Nat} {bs:List UInt8} (h:Bys w (.slice a len cap) bs) (n:Nat) (hn:n≤bs.length):Bys w (.slice a n cap) (bs.take n):=by
 obtain ⟨a',cap',e,h1,h2,h3⟩:=h
 injection e with e1 e2 e3
 have hlen:(bs.take n).length=n:=by simp;omega
 refine ⟨a,cap,by rw [hlen],by rw [hlen];omega,by omega,fun hp=>?_⟩
 rw [hlen] at hp
 obtain ⟨b,off,e',hc⟩:=h3 (by omega)
 refine ⟨b,off,e1.trans e',fun i u hi=>hc i u ?_⟩
 rw [List.getElem?_take] at hi
 split at hi
 · exact hi
 · cases hi
end Go.Mem
end
section
namespace Go.Mem
open Go Go.RowKit
def wz (x:UInt32):Int:=(x.toNat:Int)
theorem wz_of (n:Nat):wz (UInt32.ofNat n)=((n % 4294967296:Nat):Int):=by
 unfold wz
 rw [UInt32.toNat_ofNat']
theorem zJx (n:Nat):IntKind.u32.wrap (n:Int)=wz (UInt32.ofNat n):=by
 rw [wz_of,IntKind.wrap_u32];omega
theorem zJU (x y:UInt32):IntKind.u32.wrap (wz x+wz y)=wz (x+y):=by
 unfold wz
 rw [IntKind.wrap_u32,UInt32.toNat_add];omega
theorem zEl (x y:UInt32):(wz x+wz y) % 4294967296=wz (x+y):=by rw [← zJU,IntKind.wrap_u32]
theorem zJy (x y z:UInt32):(wz x+wz y+wz z) % 4294967296=wz (x+y+z):=by
 rw [← zEl,← zEl];omega
theorem zIk (x:UInt32):BitVec.ofInt 32 (wz x)=x.toBitVec:=by
 apply BitVec.eq_of_toNat_eq
 have:=UInt32.toNat_lt x
 rw [BitVec.toNat_ofInt]
 unfold wz
 show ((x.toNat:Int) % 4294967296).toNat=x.toNat
 omega
theorem zCY (b:BitVec 32):IntKind.u32.wrap (b.toNat:Int)=wz ⟨b⟩:=by
 rw [IntKind.wrap_u32]
 have:=b.isLt
 show _=((b.toNat:Nat):Int)
 omega
theorem zLj (x y:UInt32):bits .xor .u32 (wz x) (wz y)=wz (x ^^^ y):=by
 show IntKind.u32.wrap ((BitVec.ofInt 32 (wz x) ^^^ BitVec.ofInt 32 (wz y)).toNat:Int)=_
 rw [zIk,zIk,zCY];rfl
theorem zLi (x y:UInt32):bits .and .u32 (wz x) (wz y)=wz (x &&& y):=by
 show IntKind.u32.wrap ((BitVec.ofInt 32 (wz x) &&& BitVec.ofInt 32 (wz y)).toNat:Int)=_
 rw [zIk,zIk,zCY];rfl
theorem wz_or (x y:UInt32):bits .or .u32 (wz x) (wz y)=wz (x ||| y):=by
 show IntKind.u32.wrap ((BitVec.ofInt 32 (wz x) ||| BitVec.ofInt 32 (wz y)).toNat:Int)=_
 rw [zIk,zIk,zCY];rfl
theorem zJV (x:UInt32):bits .xor .u32 4294967295 (wz x)=wz (~~~x):=by
 show IntKind.u32.wrap ((BitVec.ofInt 32 4294967295 ^^^ BitVec.ofInt 32 (wz x)).toNat:Int)=_
 rw [zIk,zCY]
 refine congrArg wz ?_
 apply UInt32.toBitVec_inj.1
 show BitVec.ofInt 32 4294967295 ^^^ x.toBitVec = ~~~x.toBitVec
 have:BitVec.ofInt 32 4294967295=BitVec.allOnes 32:=by decide
 rw [this,BitVec.allOnes_xor]
theorem zJ0 (x:UInt32):bits .xor .u32 IntKind.u32.max (wz x)=wz (~~~x):=zJV x
def shl (x:UInt32) (n:Nat):UInt32:=⟨x.toBitVec <<< n⟩
def shr (x:UInt32) (n:Nat):UInt32:=⟨x.toBitVec >>> n⟩
theorem zJW (x:UInt32) (n:Nat):IntKind.u32.wrap (wz x*2 ^ n)=wz (shl x n):=by
 have e:wz x*2 ^ n=((x.toNat*2 ^ n:Nat):Int):=by unfold wz;push_cast;rfl
 rw [e,zJx]
 refine congrArg wz (UInt32.toNat_inj.1 ?_)
 rw [UInt32.toNat_ofNat']
 show _=(x.toBitVec <<< n).toNat
 rw [BitVec.toNat_shiftLeft,Nat.shiftLeft_eq];rfl
theorem zD3 (x:UInt32) (n:Nat):wz x*2 ^ n % 4294967296=wz (shl x n):=by rw [← zJW,IntKind.wrap_u32]
theorem zIa (x:UInt32):wz x*16777216 % 4294967296=wz (shl x 24):=zD3 x 24
theorem zIZ (x:UInt32):wz x*65536 % 4294967296=wz (shl x 16):=zD3 x 16
theorem zJ1 (x:UInt32):wz x*256 % 4294967296=wz (shl x 8):=zD3 x 8
theorem zHA (x:UInt32) (n:Nat):wz x / 2 ^ n=wz (shr x n):=by
 have e:wz x / 2 ^ n=((x.toNat / 2 ^ n:Nat):Int):=by unfold wz;push_cast;rfl
 rw [e]
 show _=(((x.toBitVec >>> n).toNat:Nat):Int)
 rw [BitVec.toNat_ushiftRight,Nat.shiftRight_eq_div_pow];rfl
theorem zJ2 (x:UInt32):wz x / 8=wz (shr x 3):=zHA x 3
theorem zIb (x:UInt32):wz x / 1024=wz (shr x 10):=zHA x 10
def ror (x:UInt32) (n:Nat):UInt32:=shl x (32 - n) ||| shr x n
theorem zLT (x:UInt32) (n:Nat):shr x n ||| shl x (32 - n)=ror x n:=UInt32.or_comm _ _
theorem zJz (b:UInt8):IntKind.u32.wrap ((b.toNat:Nat):Int)=wz b.toUInt32:=by
 rw [zJx]
 refine congrArg wz (UInt32.toNat_inj.1 ?_)
 have:=UInt8.toNat_lt b
 rw [UInt32.toNat_ofNat',UInt8.toNat_toUInt32]
 omega
end Go.Mem
end
section
namespace Cod
open Go.Lib
def be:Nat→Nat→List UInt8
 | 0,_=>[]
 | w+1,n=>UInt8.ofNat (n / 256 ^ w)::be w n
theorem zt:∀ w n,(be w n).length=w
 | 0,_=>rfl
 | w+1,n=>by rw [be,List.length_cons,zt w n]
theorem zD5:∀ (w n i:Nat),i < w→(be w n)[i]?=some (UInt8.ofNat (n / 256 ^ (w - 1 - i)))
 | w+1,n,0,_=>by rw [be];simp
 | w+1,n,i+1,h=>by
   rw [be,List.getElem?_cons_succ,zD5 w n i (by omega),show w - 1 - i=w+1 - 1 - (i+1) from by omega]
def zDG (a:Nat) (bs:List UInt8):Nat:=bs.foldl (fun a c=>a*256+c.toNat) a
def zAh (bs:List UInt8):Nat:=zDG 0 bs
theorem zEz (a:Nat) (c:UInt8) (r:List UInt8):zDG a (c::r)=zDG (a*256+c.toNat) r:=rfl
theorem zE0 (a:Nat) (c:UInt8) (r:List UInt8):zDG a (r++[c])=zDG a r*256+c.toNat:=by simp [zDG]
theorem zHa:∀ (w n a:Nat),zDG a (be w n)=a*256 ^ w+n % 256 ^ w
 | 0,n,a=>by simp [be,zDG,Nat.mod_one]
 | w+1,n,a=>by
   have e1:(UInt8.ofNat (n / 256 ^ w)).toNat=n / 256 ^ w % 256:=by rw [UInt8.toNat_ofNat']
   have e2:n % 256 ^ (w+1)=n % 256 ^ w+256 ^ w*(n / 256 ^ w % 256):=by rw [Nat.pow_succ,Nat.mod_mul]
   rw [be,zEz,zHa w n,e1,e2,Nat.pow_succ,Nat.add_mul,Nat.mul_assoc,Nat.mul_comm 256 (256 ^ w),Nat.mul_comm (n / 256 ^ w % 256)]
   omega
theorem zGY (w n:Nat) (h:n < 256 ^ w):zAh (be w n)=n:=by
 unfold zAh;rw [zHa,Nat.mod_eq_of_lt h];omega
theorem zDd:∀ (bs:List UInt8) (a:Nat),zDG a bs < (a+1)*256 ^ bs.length
 | [],a=>by simp [zDG]
 | c::r,a=>by
   rw [zEz,List.length_cons,Nat.pow_succ]
   have h1:=zDd r (a*256+c.toNat)
   have h2:=c.toNat_lt
   have h3:(a*256+c.toNat+1)*256 ^ r.length≤((a+1)*256)*256 ^ r.length:=Nat.mul_le_mul_right _ (by omega)
   rw [Nat.mul_comm (256 ^ r.length) 256,← Nat.mul_assoc]
   omega
theorem zBV (bs:List UInt8) (h:bs.length≤7):zAh bs < 72057594037927936:=by
 have h1:=zDd bs 0
 have h2:256 ^ bs.length≤256 ^ 7:=Nat.pow_le_pow_right (by decide) h
 unfold zAh
 simp at h1
 omega
def net (b:List UInt8):List UInt8:=itoa b.length++[58]++b++[44]
def zAU:List (List UInt8)→List UInt8
 | []=>[]
 | b::r=>net b++zAU r
theorem zC2 (l:List (List UInt8)) (b:List UInt8):zAU (l++[b])=zAU l++net b:=by
 induction l with
 | nil=>simp [zAU]
 | cons a l ih=>simp [zAU,ih,List.append_assoc]
def zAD:List UInt8→Nat→Nat→Nat × Nat
 | [],n,d=>(n,d)
 | c::r,n,d=>if 48≤c.toNat∧c.toNat≤57∧n≤16384 then zAD r (10*n+(c.toNat - 48)) (d+1) else (n,d)
def size (b:List UInt8):Nat × Nat:=zAD b 0 0
theorem zEF:∀ (l:List UInt8) (n d:Nat),n≤163849→(zAD l n d).1≤163849∧d≤(zAD l n d).2∧(zAD l n d).2≤d+l.length
 | [],n,d,h=>by simp [zAD];exact h
 | c::r,n,d,h=>by
   rw [zAD]
   by_cases hc:48≤c.toNat∧c.toNat≤57∧n≤16384
   · rw [if_pos hc]
     have:=zEF r (10*n+(c.toNat - 48)) (d+1) (by omega)
     simp only [List.length_cons]
     omega
   · rw [if_neg hc];simp only [List.length_cons];exact ⟨h,by omega,by omega⟩
theorem size_le (b:List UInt8):(size b).1≤163849∧(size b).2≤b.length:=by
 have:=zEF b 0 0 (by omega)
 unfold size;omega
theorem zIG {l:List UInt8} {n d:Nat} {c:UInt8} {r:List UInt8} (hl:l=c::r) (h:48≤c.toNat∧c.toNat≤57∧n≤16384):zAD l n d=zAD r (10*n+(c.toNat - 48)) (d+1):=by
 subst hl;rw [zAD,if_pos h]
theorem zEU {l:List UInt8} {n d:Nat} (h:∀ c r,l=c::r→¬ (48≤c.toNat∧c.toNat≤57∧n≤16384)):zAD l n d=(n,d):=by
 cases l with
 | nil=>rfl
 | cons c r=>rw [zAD,if_neg (h c r rfl)]
def zGQ (b:List UInt8):Bool:=((size b).2 == 0) || (decide (1 < (size b).2) && (b.getD 0 0 == 48)) || decide (16384 < (size b).1)
def zGR (b:List UInt8):Bool:=decide (b.length < (size b).2+(size b).1+2) || (b.getD (size b).2 0 != 58) || (b.getD ((size b).2+1+(size b).1) 0 != 44)
def zy (b:List UInt8):Option (List UInt8 × List UInt8) :=
 if zGQ b=true then none else if zGR b=true then none else some ((b.drop ((size b).2+1)).take (size b).1,b.drop ((size b).2+(size b).1+2))
theorem zBY {k:Nat} (h:k < 10):(UInt8.ofNat (48+k)).toNat=48+k:=by rw [UInt8.toNat_ofNat'];omega
theorem zJI (u:Nat):∀ (r:List UInt8),u≤163849→zAD (decDigits u++r) 0 0=zAD r u (nDigits u):=by
 induction u using Nat.strongRecOn with
 | _ u ih =>
   intro r hu
   by_cases h:u < 10
   · rw [decDigits,dif_pos h,nDigits_small h,List.cons_append,List.nil_append,zAD,zBY h,if_pos (by omega)]
     congr 1;omega
   · rw [decDigits,dif_neg h,nDigits_big h,List.append_assoc,ih (u / 10) (by omega) _ (by omega),List.cons_append,List.nil_append,zAD,zBY (by omega:u % 10 < 10),if_pos (by omega)]
     congr 1;omega
theorem zKy (u:Nat):1 < nDigits u→∀ r,(decDigits u++r).getD 0 0≠48:=by
 induction u using Nat.strongRecOn with
 | _ u ih =>
   intro hn r
   by_cases h:u < 10
   · rw [nDigits_small h] at hn;omega
   · rw [decDigits,dif_neg h,List.append_assoc]
     by_cases h2:u / 10 < 10
     · rw [decDigits,dif_pos h2,List.cons_append]
       intro e
       have:=congrArg UInt8.toNat e
       simp only [List.getD_cons_zero] at this
       rw [zBY h2] at this
       have:48+u / 10=48:=this
       omega
     · exact ih (u / 10) (by omega) (by rw [nDigits_big h2];have:=nDigits_pos (u / 10 / 10);omega) _
theorem zGj (b:List UInt8):net b=decDigits b.length++(58::(b++[44])):=by
 unfold net;rw [itoa_nonneg];simp [List.append_assoc]
theorem zLY (b r:List UInt8) (h:b.length≤16384):size (net b++r)=(b.length,nDigits b.length):=by
 unfold size
 rw [zGj,List.append_assoc,zJI _ _ (by omega)]
 exact zEU fun c s e=>by
  injection e with e _
  subst e
  intro h
  exact absurd h.2.1 (by decide)
theorem zBs {α:Type} (a b:List α) (i:Nat) (d:α) (h:a.length≤i):(a++b).getD i d=b.getD (i - a.length) d:=by
 rw [List.getD_eq_getElem?_getD,List.getD_eq_getElem?_getD,List.getElem?_append_right h]
theorem zAL (b:List UInt8):(net b).length=nDigits b.length+b.length+2:=by
 rw [zGj];simp [decDigits_length];omega
theorem zCx (b r:List UInt8) (h:b.length≤16384):zy (net b++r)=some (b,r):=by
 have hs:=zLY b r h
 have hp:=nDigits_pos b.length
 have hl:=decDigits_length b.length
 have e:net b++r=decDigits b.length++(58::(b++44::r)):=by rw [zGj];simp [List.append_assoc]
 have b1:zGQ (net b++r)=false:=by
  unfold zGQ
  rw [hs]
  have h0:((nDigits b.length) == 0)=false:=by simp;omega
  have h2:decide (16384 < b.length)=false:=by simp;omega
  have h1:(decide (1 < nDigits b.length) && ((net b++r).getD 0 0 == 48))=false:=by
   by_cases hd:1 < nDigits b.length
   · have:=zKy b.length hd (58::(b++44::r))
     rw [e]
     simp only [Bool.and_eq_false_iff]
     exact .inr (by simpa using this)
   · simp [hd]
  rw [h0,h1,h2];rfl
 have b2:zGR (net b++r)=false:=by
  unfold zGR
  rw [hs]
  have h0:decide ((net b++r).length < nDigits b.length+b.length+2)=false:=by
   rw [List.length_append,zAL];simp
  have h1:((net b++r).getD (nDigits b.length) 0 != 58)=false:=by
   rw [e,zBs _ _ _ _ (by omega),hl,Nat.sub_self];rfl
  have h2:((net b++r).getD (nDigits b.length+1+b.length) 0 != 44)=false:=by
   rw [e,zBs _ _ _ _ (by omega),hl,show nDigits b.length+1+b.length - nDigits b.length=b.length+1 from by omega,List.getD_cons_succ,zBs _ _ _ _ (Nat.le_refl _),Nat.sub_self];rfl
  show (decide ((net b++r).length < nDigits b.length+b.length+2) || _ || _)=false
  rw [h0,h1,h2];rfl
 unfold zy
 rw [b1,b2,hs]
 simp only [Bool.false_eq_true,if_false]
 rw [e,show nDigits b.length+1=(decDigits b.length).length+1 from by rw [hl],show nDigits b.length+b.length+2=(decDigits b.length).length+(1+(b.length+1)) from by rw [hl];omega]
 rw [← List.drop_drop,← List.drop_drop,List.drop_left,← List.drop_drop]
 simp
end Cod
end
section
namespace Sha
open Go.Mem
structure H8 where
 a:UInt32
 b:UInt32
 c:UInt32
 d:UInt32
 e:UInt32
 f:UInt32
 g:UInt32
 h:UInt32
def H8.l (v:H8):List UInt32:=[v.a,v.b,v.c,v.d,v.e,v.f,v.g,v.h]
def word (b:List UInt8) (i:Nat):UInt32 :=
 shl (b.getD (4*i) 0).toUInt32 24 ||| shl (b.getD (4*i+1) 0).toUInt32 16 ||| shl (b.getD (4*i+2) 0).toUInt32 8 ||| (b.getD (4*i+3) 0).toUInt32
def s0 (x:UInt32):UInt32:=ror x 7 ^^^ ror x 18 ^^^ shr x 3
def s1 (x:UInt32):UInt32:=ror x 17 ^^^ ror x 19 ^^^ shr x 10
def next (l:List UInt32):UInt32:=l.getD (l.length - 16) 0+s0 (l.getD (l.length - 15) 0)+l.getD (l.length - 7) 0+s1 (l.getD (l.length - 2) 0)
def sch (b:List UInt8):Nat→List UInt32
 | 0=>[]
 | n+1=>sch b n++[if n < 16 then word b n else next (sch b n)]
theorem zCU (b:List UInt8):∀ n,(sch b n).length=n
 | 0=>rfl
 | n+1=>by rw [sch,List.length_append,zCU b n];rfl
theorem zLV (b:List UInt8) {n:Nat} (h:n < 16):sch b (n+1)=sch b n++[word b n]:=by rw [sch,if_pos h]
theorem zLU (b:List UInt8) {n:Nat} (h:16≤n):sch b (n+1)=sch b n++[next (sch b n)]:=by rw [sch,if_neg (by omega)]
def kT:List UInt32:=[
 0x428a2f98,0x71374491,0xb5c0fbcf,0xe9b5dba5,0x3956c25b,0x59f111f1,0x923f82a4,0xab1c5ed5,
 0xd807aa98,0x12835b01,0x243185be,0x550c7dc3,0x72be5d74,0x80deb1fe,0x9bdc06a7,0xc19bf174,
 0xe49b69c1,0xefbe4786,0x0fc19dc6,0x240ca1cc,0x2de92c6f,0x4a7484aa,0x5cb0a9dc,0x76f988da,
 0x983e5152,0xa831c66d,0xb00327c8,0xbf597fc7,0xc6e00bf3,0xd5a79147,0x06ca6351,0x14292967,
 0x27b70a85,0x2e1b2138,0x4d2c6dfc,0x53380d13,0x650a7354,0x766a0abb,0x81c2c92e,0x92722c85,
 0xa2bfe8a1,0xa81a664b,0xc24b8b70,0xc76c51a3,0xd192e819,0xd6990624,0xf40e3585,0x106aa070,
 0x19a4c116,0x1e376c08,0x2748774c,0x34b0bcb5,0x391c0cb3,0x4ed8aa4a,0x5b9cca4f,0x682e6ff3,
 0x748f82ee,0x78a5636f,0x84c87814,0x8cc70208,0x90befffa,0xa4506ceb,0xbef9a3f7,0xc67178f2]
def h0:H8:=⟨0x6a09e667,0xbb67ae85,0x3c6ef372,0xa54ff53a,0x510e527f,0x9b05688c,0x1f83d9ab,0x5be0cd19⟩
def big1 (e:UInt32):UInt32:=ror e 6 ^^^ ror e 11 ^^^ ror e 25
def big0 (a:UInt32):UInt32:=ror a 2 ^^^ ror a 13 ^^^ ror a 22
def tw (v:H8) (k w:UInt32):UInt32:=v.h+big1 v.e+(v.e &&& v.f ^^^ ~~~v.e &&& v.g)+k+w
def maj (v:H8):UInt32:=v.a &&& v.b ^^^ v.a &&& v.c ^^^ v.b &&& v.c
def rnd (v:H8) (k w:UInt32):H8:=⟨tw v k w+big0 v.a+maj v,v.a,v.b,v.c,v.d+tw v k w,v.e,v.f,v.g⟩
def zA3 (b:List UInt8) (h:H8):Nat→H8
 | 0=>h
 | n+1=>rnd (zA3 b h n) (kT.getD n 0) ((sch b 64).getD n 0)
def zFf (h v:H8):H8:=⟨h.a+v.a,h.b+v.b,h.c+v.c,h.d+v.d,h.e+v.e,h.f+v.f,h.g+v.g,h.h+v.h⟩
def zFg (h v:H8) (i:Nat):List UInt32:=(zFf h v).l.take i++h.l.drop i
theorem zKo (h v:H8) {i:Nat} (hi:i < 8):(zFg h v i)[i]?=some (h.l.getD i 0):=by
 unfold zFg
 have hl:h.l.length=8:=rfl
 have hl2:(zFf h v).l.length=8:=rfl
 rw [List.getElem?_append_right (by rw [List.length_take];omega),List.length_take,List.getElem?_drop,show i+(i - min i (zFf h v).l.length)=i from by omega,List.getD_eq_getElem?_getD,List.getElem?_eq_getElem (by omega)]
 rfl
theorem zKq (h v:H8) {i:Nat} (hi:i < 8):(zFf h v).l.getD i 0=h.l.getD i 0+v.l.getD i 0:=by
 rcases (by omega:i=0∨i=1∨i=2∨i=3∨i=4∨i=5∨i=6∨i=7) with rfl | rfl | rfl | rfl | rfl | rfl | rfl | rfl <;> rfl
theorem zKp (h v:H8) {i:Nat} (hi:i < 8):(zFg h v i).set i (h.l.getD i 0+v.l.getD i 0)=zFg h v (i+1):=by
 rw [← zKq h v hi]
 unfold zFg
 have hl:h.l.length=8:=rfl
 have hl2:(zFf h v).l.length=8:=rfl
 rw [List.set_append_right _ _ (by rw [List.length_take];omega),List.length_take,show i - min i (zFf h v).l.length=0 from by omega,List.drop_eq_getElem_cons (by omega),List.set_cons_zero,List.take_add_one,List.getElem?_eq_getElem (by omega),List.append_assoc,List.getD_eq_getElem?_getD,List.getElem?_eq_getElem (by omega)]
 rfl
theorem addL_8 (h v:H8):zFg h v 8=(zFf h v).l:=by
 unfold zFg
 rw [List.take_of_length_le (by show 8≤8;omega),List.drop_of_length_le (by show 8≤8;omega),List.append_nil]
def mix (h:H8) (b:List UInt8):H8:=zFf h (zA3 b h 64)
def zAl:Nat→H8→List UInt8→H8
 | 0,h,_=>h
 | n+1,h,l=>zAl n (mix h (l.take 64)) (l.drop 64)
theorem zE9 (m:Nat):∀ (n:Nat) (h:H8) (l:List UInt8),zAl (n+m) h l=zAl m (zAl n h l) (l.drop (64*n))
 | 0,h,l=>by rw [Nat.zero_add,Nat.mul_zero,List.drop_zero];rfl
 | n+1,h,l=>by
   rw [show n+1+m=(n+m)+1 from by omega]
   show zAl (n+m) (mix h (l.take 64)) (l.drop 64)=zAl m (zAl n (mix h (l.take 64)) (l.drop 64)) _
   rw [zE9 m n,List.drop_drop,show 64+64*n=64*(n+1) from by omega]
theorem zHq (r:List UInt8):∀ (n:Nat) (h:H8) (l:List UInt8),64*n≤l.length→zAl n h (l++r)=zAl n h l
 | 0,_,_,_=>rfl
 | n+1,h,l,hl=>by
   show zAl n (mix h ((l++r).take 64)) ((l++r).drop 64)=zAl n (mix h (l.take 64)) (l.drop 64)
   rw [List.take_append_of_le_length (by omega),List.drop_append_of_le_length (by omega)]
   exact zHq r n _ _ (by rw [List.length_drop];omega)
theorem zD9 (n:Nat) (h:H8) (l:List UInt8):zAl (n+1) h l=mix (zAl n h l) ((l.drop (64*n)).take 64):=by
 rw [zE9 1 n];rfl
def zeros (n:Nat):Nat:=(119 - n % 64) % 64
theorem zDA (n:Nat):(n+1+zeros n) % 64=56∧zeros n < 64:=by unfold zeros;omega
theorem zEZ {n i:Nat} (h:i < zeros n):(n+1+i) % 64≠56:=by unfold zeros at h;omega
def pad (bs:List UInt8) (n:Nat):List UInt8:=bs++128::(List.replicate (zeros bs.length) 0++Cod.be 8 (8*n))
theorem zDl (bs:List UInt8) (n:Nat):(pad bs n).length % 64=0∧(pad bs n).length=bs.length+9+zeros bs.length:=by
 have e:(pad bs n).length=bs.length+9+zeros bs.length:=by
  unfold pad
  rw [List.length_append,List.length_cons,List.length_append,List.length_replicate,Cod.zt];omega
 refine ⟨?_,e⟩
 rw [e]
 have:=zDA bs.length
 omega
def zFD (v:H8):List UInt8:=v.l.flatMap fun x=>Cod.be 4 x.toNat
theorem zFE (v:H8):(zFD v).length=32:=by
 unfold zFD H8.l
 simp [Cod.zt]
def sum (bs:List UInt8):List UInt8:=zFD (zAl ((pad bs bs.length).length / 64) h0 (pad bs bs.length))
theorem zJs (bs:List UInt8):(sum bs).length=32:=zFE _
theorem zL4 (bs:List UInt8):sum bs=zFD (zAl ((pad (bs.drop (64*(bs.length / 64))) bs.length).length / 64) (zAl (bs.length / 64) h0 bs) (pad (bs.drop (64*(bs.length / 64))) bs.length)):=by
 unfold sum
 obtain ⟨q,hq⟩:∃ q,q=bs.length / 64:=⟨_,rfl⟩
 rw [← hq]
 have hz:zeros (bs.length - 64*q)=zeros bs.length:=by unfold zeros;omega
 have e1:(pad bs bs.length).drop (64*q)=pad (bs.drop (64*q)) bs.length:=by
  unfold pad
  rw [List.drop_append_of_le_length (by omega),List.length_drop,hz]
 have e2:(pad bs bs.length).length / 64=q+(pad (bs.drop (64*q)) bs.length).length / 64:=by
  rw [(zDl _ _).2,(zDl _ _).2,List.length_drop,hz]
  omega
 rw [e2,zE9,e1]
 refine congrArg zFD (congrArg (fun h=>zAl _ h _) ?_)
 unfold pad
 rw [zHq _ q h0 bs (by omega)]
end Sha
end
section
namespace Go.Tail
open Go
section
variable {P:Program} {ops:Array Oper} {md:Region.Mode} {C:World→Prop}
def Head (P:Program) (md:Region.Mode) (ops:Array Oper) (C:World→Prop) (n:Nat) (L:Array Bool→Act→Prop):Nat→Array Bool→Act→Prop
 | 0,listed,a=>L listed a
 | f+1,listed,a=>Region.ready md ops listed≠[]∧∀ i,i∈Region.ready md ops listed→i < n∧qOp P ops C i (Head P md ops C n L f (listed.setIfInBounds i true)) a
theorem zHG {n g:Nat} {L:Array Bool→Act→Prop} {Q:Exit→Act→World→Prop} (hL:∀ listed a w,C w→L listed a→wpAny P md ops Q g listed a w) :
  ∀ (f:Nat) (listed:Array Bool) (a:Act) (w:World),C w→Head P md ops C n L f listed a→wpAny P md ops Q (f+g) listed a w:=by
 intro f
 induction f with
 | zero=>intro listed a w hw h;rw [Nat.zero_add];exact hL _ _ _ hw h
 | succ f ih =>
   intro listed a w hw h
   rw [show f+1+g=(f+g)+1 from by omega]
   exact ⟨fun h0=>absurd h0 h.1,fun i hi=>wpOp_of_qOp hw (fun a' w' hw' h'=>ih _ a' w' hw' h') (h.2 i hi).2⟩
theorem zJP {n i:Nat} {oi:Oper} {v:Value} {L:Array Bool→Act→Prop} (hi:ops[i]?=some oi) (hsel:∀ (j:Nat) (o:Oper) cs b,ops[j]?=some o→o.op≠.select cs b)
  (hs:Region.sinkB md ops n=true) (hc:Region.chainB md ops n=true) (hn:n < ops.size) (hin:i < n) (hdone:∀ listed a,L listed a→∀ j,j∈Region.ready md ops listed→n≤j) :
  ∀ (f:Nat) (listed:Array Bool) (a:Act),HeadInv md ops n listed →
    (∀ j oj,ops[j]?=some oj→j≠i→listed.getD j true=false→(∀ e∈oj.after,Region.binds md e=true→e.on≠i)→oi.apart ops oj=true) →
    i∈Region.ready md ops listed→YieldsIn P ops C oi v a →
    Head P md ops C n L f (listed.setIfInBounds i true) (a.put oi.dst v)→Head P md ops C n L (f+1) listed a:=by
 intro f
 induction f with
 | zero =>
   intro listed a inv _ hr hy H
   have hun:=(mem_ready.1 hr).1
   refine ⟨fun h=>(by rw [h] at hr;cases hr),fun j hj=>?_⟩
   have hjn:j < n:=Nat.lt_of_not_le fun h=>tail_waits hs hc hn inv _ i rfl hin hun j h hj
   by_cases e:j=i
   · subst e;exact ⟨hjn,hy.qOp hi H⟩
   · have:=hdone _ _ H j (ready_mono hj e)
     omega
 | succ f ih =>
   intro listed a inv hfree hr hy H
   have hun:=(mem_ready.1 hr).1
   refine ⟨fun h=>(by rw [h] at hr;cases hr),fun j hj=>?_⟩
   have hjn:j < n:=Nat.lt_of_not_le fun h=>tail_waits hs hc hn inv _ i rfl hin hun j h hj
   refine ⟨hjn,?_⟩
   by_cases e:j=i
   · subst e;exact hy.qOp hi H
   · obtain ⟨hjun,oj,hoj,hall⟩:=mem_ready.1 hj
     have hnot:∀ e∈oj.after,Region.binds md e=true→e.on≠i:=fun e' he hb heq=>by
      have h1:=hall e' he hb
      rw [heq,getD_both hun] at h1
      cases h1
     have h2:=qOp_put hoj (hfree j oj hoj e hjun hnot) (fun cs b=>hsel i oi cs b hi) (fun cs b=>hsel j oj cs b hoj) hy (H.2 j (ready_mono hj e)).2
     have hfree':∀ k ok,ops[k]?=some ok→k≠i→(listed.setIfInBounds j true).getD k true=false →
       (∀ e∈ok.after,Region.binds md e=true→e.on≠i)→oi.apart ops ok=true:=fun k ok hk hki hun' hno=>by
      refine hfree k ok hk hki ?_ hno
      by_cases hjk:j=k
      · subst hjk;exact hjun
      · rw [getD_set_ne true hjk] at hun';exact hun'
     refine qOp_mono (fun a' h3=>ih (listed.setIfInBounds j true) a' (inv.set hj hjn) hfree' (ready_mono hr (Ne.symm e)) h3.1 ?_) h2
     rw [Array.setIfInBounds_comm _ _ e]
     exact h3.2
theorem zK4 {n g:Nat} {Lq:Act→Prop} (hsel:Region.noSelect ops=true) (hs:Region.sinkB md ops n=true) (hc:Region.chainB md ops n=true) (hn:n < ops.size) :
  ∀ (l:List Oper) (k:Nat) (listed:Array Bool) (a:Act),(∀ j,j < l.length→l[j]?=ops[k+j]?)→k+l.length=n→HeadInv md ops n listed →
  Region.lexHead md ops g l.length k listed=true→wpQuiet P ops C Lq l a →
  Head P md ops C n (fun listed' a'=>Region.seqB md ops g n listed'=true∧Lq a') l.length listed a:=by
 intro l
 induction l with
 | nil =>
   intro k listed a _ hk _ hB h
   have:k=n:=by simpa using hk
   subst this
   exact ⟨by simpa [Region.lexHead] using hB,h⟩
 | cons o l ih =>
   intro k listed a hl hk inv hB h
   have h0:ops[k]?=some o:=by simpa using (hl 0 (by simp)).symm
   simp only [List.length_cons,Region.lexHead,Bool.and_eq_true] at hB
   obtain ⟨⟨hr,hf⟩,hB'⟩:=hB
   have hkn:k < n:=by simp only [List.length_cons] at hk;omega
   have hr':k∈Region.ready md ops listed:=by simpa using hr
   have hst:qOp P ops C k (wpQuiet P ops C Lq l) a:=by unfold qOp;simp only [h0];exact h
   obtain ⟨v,hy,hK⟩:=yieldsIn_of_qOp h0 hst
   exact zJP h0 (Region.noSelect_spec hsel) hs hc hn hkn (fun listed' a' hL=>seqB_ready hL.1) l.length listed a inv (Region.free_spec h0 hf) hr' hy
    (ih (k+1) _ _ (fun j hj=>by have:=hl (j+1) (by simp;omega);simpa [Nat.add_assoc,Nat.add_comm 1 j] using this) (by simp only [List.length_cons] at hk;omega) (inv.set hr' hkn) hB' hK)
theorem zAK {id:Nat} {Q:Exit→Act→World→Prop} {a:Act} {w:World} {l:List Oper} (n:Nat) (C:World→Prop) (hm:P.follows .mixedOrders=true) (hB:Region.lexTailB .any l.toArray n=true)
  (hC:C w.drew) (h:wpQuiet P l.toArray C (fun a'=>∀ w',C w'→wpList P l.toArray Q (l.drop n) a' w') (l.take n) a):(Code.region id l.toArray true).wp P Q a w:=by
 simp only [Region.lexTailB,Bool.and_eq_true,decide_eq_true_eq] at hB
 obtain ⟨⟨⟨⟨hsel,hn⟩,hs⟩,hc⟩,hlex⟩:=hB
 have hn':n < l.length:=by simpa using hn
 have htl:(l.take n).length=n:=by simp;omega
 have inv0:HeadInv .any l.toArray n (Array.replicate l.toArray.size false) :=
  ⟨by simp,fun j oj _ hl=>(by rw [getD_replicate_false] at hl;cases hl),fun t _ ht=>getD_in (by simpa using ht) (getD_replicate_false _ _)⟩
 have H:=zK4 (md:=.any) (C:=C) (g:=l.toArray.size - n) hsel hs hc hn (l.take n) 0 _ a (fun j hj=>by
  have hj':j < n:=by rw [htl] at hj;exact hj
  simp [hj']) (by simpa using htl) inv0 (by rw [htl];exact hlex) h
 refine wp_region_any hm ?_
 have:=zHG (Q:=Q) (g:=l.toArray.size - n) (fun listed a' w' hw' hL=>by
  have e:l.toArray.size - n=(l.drop n).length:=by simp
  rw [e]
  exact wpAny_of_seq (l.drop n) n listed a' w' (fun j=>by simp) (by rw [← e];exact hL.1) (hL.2 w' hw')) _ _ a w.drew hC H
 rw [htl,show n+(l.toArray.size - n)=l.toArray.size from by omega] at this
 exact this
end
end Go.Tail
end
section
namespace Go.Mem
open Go Go.RowKit
theorem zEc (k:Nat):madeCells #[.int .u8 0] k=Array.replicate k (.int .u8 0):=by
 apply Array.ext
 · simp [madeCells]
 · intro i h1 h2
   simp [madeCells,Nat.mod_one]
theorem zDQ {P:Program} (t e:TypeId) (ht:P.underlying t=some (.slice e)) (hi:(P.info? e).map (fun i=>(i.zero,i.size,i.bytes))=some (some (.int .u8 0),1,1))
  (k:Nat) (hk:k≤140737488355328) (w:World) :
  (Instr.makeSlice t (.int .i64 (k:Int)) (.int .i64 (k:Int))).run P w=.ok (.slice (some ⟨w.heap.size,0,none⟩) k k) (w.alloc (.cells (Array.replicate k (.int .u8 0)) e)):=by
 obtain ⟨i,hi,hz,hs,hb⟩:=info_parts hi
 have:=run_make (P:=P) w t e i (.int .u8 0) ht hi hz .i64 .i64 k k (by omega) (Int.le_refl _) (by rw [hb];omega) (by omega)
 rw [hs] at this
 simp only [Int.toNat_natCast,Nat.mul_one,Value.cells,zEc] at this
 exact this
theorem Blk.bys {w:World} {b:Nat} {arr:Array Value} {t:TypeId} (h:Blk w b arr t) {bs:List UInt8} {cap:Nat} (hc:bs.length≤cap) (hm:cap≤maxLen)
  (ha:∀ (i:Nat) (u:UInt8),bs[i]?=some u→arr[i]?=some (Value.int .u8 (u.toNat:Int))):Bys w (.slice (some ⟨b,0,none⟩) bs.length cap) bs :=
 ⟨_,cap,rfl,hc,hm,fun _=>⟨b,0,rfl,fun i u hi=>by rw [Nat.zero_add,h.cell];exact ha i u hi⟩⟩
theorem zAC {n:Nat} (h:n≤9223372036854775807):n≤maxLen:=by unfold maxLen;exact h
end Go.Mem
end
section
namespace Gf
def tw (a:Nat):Nat:=(a*2) ^^^ (a / 128*285)
def zBG:Nat→Nat→Nat→Nat→Nat
 | 0,_,_,out=>out
 | n+1,a,b,out=>zBG n (tw a) (b/2) (out ^^^ (b % 2*a))
def mul (a b:Nat):Nat:=zBG 8 a b 0
theorem zDL {p:Nat→Bool} (h:(List.range 256).all p=true) (a:Nat) (ha:a < 256):p a=true:=List.all_eq_true.1 h a (List.mem_range.2 ha)
theorem zLe (a:Nat) (h:a < 256):tw a < 256:=by
 have:=zDL (p:=fun a=>decide (tw a < 256)) (by decide +kernel) a h
 simpa using this
theorem xor_lt (a b:Nat) (h:a < 256) (h':b < 256):a ^^^ b < 256:=Nat.xor_lt_two_pow (n:=8) h h'
theorem tw_xor (a b:Nat) (ha:a < 256) (hb:b < 256):tw (a ^^^ b)=tw a ^^^ tw b:=by
 have:=zDL (p:=fun a=>(List.range 256).all fun b=>tw (a ^^^ b) == tw a ^^^ tw b) (by decide +kernel) a ha
 simpa using zDL this b hb
theorem bit_lt (b a:Nat) (h:a < 256):b % 2*a < 256:=by
 rcases Nat.mod_two_eq_zero_or_one b with h' | h' <;> rw [h'] <;> omega
theorem zI1 (n:Nat):∀ a b o,a < 256→o < 256→zBG n a b o < 256:=by
 induction n with
 | zero=>intro a b o _ h;exact h
 | succ n ih=>intro a b o ha ho;exact ih _ _ _ (zLe a ha) (xor_lt _ _ ho (bit_lt _ _ ha))
theorem zLk (b c:Nat):(b ^^^ c) / 2=b / 2 ^^^ c / 2:=by
 have:=Nat.shiftRight_xor_distrib (a:=b) (b:=c) (i:=1)
 simpa [Nat.shiftRight_succ] using this
theorem zL8 (b c a:Nat):(b ^^^ c) % 2*a=(b % 2*a) ^^^ (c % 2*a):=by
 have h:(b ^^^ c) % 2=(b % 2) ^^^ (c % 2):=by
  have:=Nat.xor_mod_two_pow (a:=b) (b:=c) (n:=1);simpa using this
 rw [h]
 rcases Nat.mod_two_eq_zero_or_one b with h' | h' <;> rcases Nat.mod_two_eq_zero_or_one c with h'' | h'' <;> rw [h',h''] <;> simp
theorem zFl (n:Nat):∀ a b c o p,zBG n a (b ^^^ c) (o ^^^ p)=zBG n a b o ^^^ zBG n a c p:=by
 induction n with
 | zero=>intros;rfl
 | succ n ih =>
   intro a b c o p
   simp only [zBG]
   rw [← ih,zLk,zL8]
   congr 1
   rw [Nat.xor_assoc,Nat.xor_assoc];congr 1
   rw [← Nat.xor_assoc,← Nat.xor_assoc,Nat.xor_comm p]
theorem zLp (b a c:Nat):b % 2*(a ^^^ c)=(b % 2*a) ^^^ (b % 2*c):=by
 rcases Nat.mod_two_eq_zero_or_one b with h' | h' <;> rw [h'] <;> simp
theorem zGh (n:Nat):∀ a c b o p,a < 256→c < 256→zBG n (a ^^^ c) b (o ^^^ p)=zBG n a b o ^^^ zBG n c b p:=by
 induction n with
 | zero=>intros;rfl
 | succ n ih =>
   intro a c b o p ha hc
   simp only [zBG]
   rw [← ih _ _ _ _ _ (zLe a ha) (zLe c hc),tw_xor a c ha hc,zLp]
   congr 1
   rw [Nat.xor_assoc,Nat.xor_assoc];congr 1
   rw [← Nat.xor_assoc,← Nat.xor_assoc,Nat.xor_comm p]
theorem mul_lt (a b:Nat) (ha:a < 256):mul a b < 256:=zI1 8 a b 0 ha (by decide)
theorem zCM (a b c:Nat):mul a (b ^^^ c)=mul a b ^^^ mul a c:=by
 have:=zFl 8 a b c 0 0;simpa [mul] using this
theorem zCZ (a c b:Nat) (ha:a < 256) (hc:c < 256):mul (a ^^^ c) b=mul a b ^^^ mul c b:=by
 have:=zGh 8 a c b 0 0 ha hc;simpa [mul] using this
theorem lin (f g:Nat→Nat) (hf:∀ a b,a < 256→b < 256→f (a ^^^ b)=f a ^^^ f b) (hg:∀ a b,a < 256→b < 256→g (a ^^^ b)=g a ^^^ g b)
  (h:(List.range 8).all (fun i=>f (2 ^ i) == g (2 ^ i))=true):∀ a,a < 256→f a=g a:=by
 have key:∀ k,k≤8→∀ x,x < 2 ^ k→f x=g x:=by
  intro k
  induction k with
  | zero =>
    intro _ x hx
    have hx:x=0:=by simpa using hx
    subst hx
    have h1:=hf 0 0 (by decide) (by decide);have h2:=hg 0 0 (by decide) (by decide)
    simp only [Nat.xor_self] at h1 h2
    rw [h1,h2]
  | succ k ih =>
    intro hk x hx
    by_cases hlt:x < 2 ^ k
    · exact ih (by omega) x hlt
    · have hp:2 ^ k < 256:=Nat.lt_of_lt_of_le (Nat.pow_lt_pow_right (by decide) (show k < 8 by omega)) (by decide)
      have hy:x - 2 ^ k < 2 ^ k:=by rw [Nat.pow_succ] at hx;omega
      have e:x=2 ^ k ^^^ (x - 2 ^ k):=by
       have e1:x=2 ^ k+(x - 2 ^ k):=by omega
       have e2:=Nat.two_pow_add_eq_or_of_lt hy 1
       have e3:2 ^ k ^^^ (x - 2 ^ k)=2 ^ k ||| (x - 2 ^ k):=by
        apply Nat.eq_of_testBit_eq
        intro i
        simp only [Nat.testBit_xor,Nat.testBit_or,Nat.testBit_two_pow]
        by_cases hi:k=i
        · subst hi
          simp [Nat.testBit_lt_two_pow hy]
        · simp [hi]
       rw [e3];simp only [Nat.mul_one] at e2;omega
      rw [e,hf _ _ hp (by omega),hg _ _ hp (by omega),ih (by omega) _ hy]
      have:=List.all_eq_true.1 h k (List.mem_range.2 (by omega))
      rw [beq_iff_eq.1 this]
 exact fun a ha=>key 8 (Nat.le_refl _) a ha
theorem mul_comm (a b:Nat) (ha:a < 256) (hb:b < 256):mul a b=mul b a:=by
 have h1:∀ b,b < 256→∀ i,i < 8→mul (2 ^ i) b=mul b (2 ^ i):=by
  intro b hb i hi
  have:=zDL (p:=fun b=>(List.range 8).all fun i=>mul (2 ^ i) b == mul b (2 ^ i)) (by decide +kernel) b hb
  simpa using List.all_eq_true.1 this i (List.mem_range.2 hi)
 refine lin (fun a=>mul a b) (fun a=>mul b a) (fun a c ha hc=>zCZ _ _ _ ha hc) (fun a c _ _=>zCM _ _ _) ?_ a ha
 exact List.all_eq_true.2 fun i hi=>beq_iff_eq.2 (h1 b hb i (List.mem_range.1 hi))
theorem mul_assoc (a b c:Nat) (ha:a < 256) (hb:b < 256) (hc:c < 256):mul a (mul b c)=mul (mul a b) c:=by
 have h0:(List.range 8).all (fun i=>(List.range 8).all fun j=>(List.range 8).all fun k=>mul (2 ^ i) (mul (2 ^ j) (2 ^ k)) == mul (mul (2 ^ i) (2 ^ j)) (2 ^ k))=true:=by decide +kernel
 have p:∀ i,i < 8→2 ^ i < 256:=fun i hi=>Nat.lt_of_lt_of_le (Nat.pow_lt_pow_right (by decide) hi) (by decide)
 have h1:∀ i j,i < 8→j < 8→∀ c,c < 256→mul (2 ^ i) (mul (2 ^ j) c)=mul (mul (2 ^ i) (2 ^ j)) c:=by
  intro i j hi hj
  refine lin (fun c=>mul (2 ^ i) (mul (2 ^ j) c)) (fun c=>mul (mul (2 ^ i) (2 ^ j)) c) (fun a c ha hc=>?_) (fun a c _ _=>zCM _ _ _) ?_
  · show mul (2 ^ i) (mul (2 ^ j) (a ^^^ c))=_
    rw [zCM,zCM]
  · exact List.all_eq_true.1 (List.all_eq_true.1 h0 i (List.mem_range.2 hi)) j (List.mem_range.2 hj)
 have h2:∀ i,i < 8→∀ b,b < 256→mul (2 ^ i) (mul b c)=mul (mul (2 ^ i) b) c:=by
  intro i hi
  refine lin (fun b=>mul (2 ^ i) (mul b c)) (fun b=>mul (mul (2 ^ i) b) c) (fun a d ha hd=>?_) (fun a d ha hd=>?_) ?_
  · show mul (2 ^ i) (mul (a ^^^ d) c)=_
    rw [zCZ _ _ _ ha hd,zCM]
  · show mul (mul (2 ^ i) (a ^^^ d)) c=_
    rw [zCM,zCZ _ _ _ (mul_lt _ _ (p i hi)) (mul_lt _ _ (p i hi))]
  · exact List.all_eq_true.2 fun j hj=>beq_iff_eq.2 (h1 i j hi (List.mem_range.1 hj) c hc)
 refine lin (fun a=>mul a (mul b c)) (fun a=>mul (mul a b) c) (fun a d ha hd=>zCZ _ _ _ ha hd) (fun a d ha hd=>?_) ?_ a ha
 · show mul (mul (a ^^^ d) b) c=_
   rw [zCZ _ _ _ ha hd,zCZ _ _ _ (mul_lt _ _ ha) (mul_lt _ _ hd)]
 · exact List.all_eq_true.2 fun i hi=>beq_iff_eq.2 (h2 i (List.mem_range.1 hi) b hb)
theorem mul_one (a:Nat) (ha:a < 256):mul a 1=a:=by
 have:=zDL (p:=fun a=>mul a 1 == a) (by decide +kernel) a ha
 simpa using this
theorem one_mul (a:Nat) (ha:a < 256):mul 1 a=a:=by rw [mul_comm _ _ (by decide) ha,mul_one a ha]
theorem mul_zero (a:Nat):mul a 0=0:=by
 have:=zCM a 0 0
 simpa using this
theorem zero_mul (a:Nat):mul 0 a=0:=by
 have:=zCZ 0 0 a (by decide) (by decide)
 simpa using this
def ex:Nat→Nat
 | 0=>1
 | n+1=>tw (ex n)
theorem zLd (n:Nat) (h:n < 256):(UInt8.ofNat n).toNat=n:=by simp [UInt8.toNat_ofNat'];omega
theorem ext {a b:UInt8} (h:a.toNat=b.toNat):a=b:=UInt8.toNat_inj.1 h
end Gf
end
section
namespace Gf
abbrev Mx:=Nat→Nat→UInt8
end Gf
end
section
namespace Go.Mem
open Go Go.RowKit Gf
def Rws (w:World) (v:Value) (rs:List (List UInt8)):Prop :=
 ∃ a cap,v=.slice a rs.length cap∧rs.length≤cap∧cap≤maxLen ∧
   (0 < rs.length→∃ b off,a=some ⟨b,off,none⟩∧∀ (i:Nat) (r:List UInt8),rs[i]?=some r→∃ v',w.cell? ⟨b,off+i,none⟩=some v'∧Bys w v' r)
theorem Rws.nil (w:World):Rws w (.slice none 0 0) []:=⟨none,0,rfl,Nat.le_refl _,Nat.zero_le _,fun h=>by simp at h⟩
theorem Rws.len {w:World} {v:Value} {rs:List (List UInt8)} (h:Rws w v rs):rs.length≤9223372036854775807:=by
 obtain ⟨a,cap,_,h1,h2,_⟩:=h
 unfold maxLen at h2;omega
theorem Rws.below {w w':World} {v:Value} {rs:List (List UInt8)} (h:Rws w v rs) (hb:Below w.heap.size w w'):Rws w' v rs:=by
 obtain ⟨a,cap,h0,h1,h2,h3⟩:=h
 refine ⟨a,cap,h0,h1,h2,fun hp=>?_⟩
 obtain ⟨b,off,e,hc⟩:=h3 hp
 refine ⟨b,off,e,fun i r hi=>?_⟩
 obtain ⟨v',hv,hr⟩:=hc i r hi
 exact ⟨v',by rw [hb.cell (p:=⟨b,off+i,none⟩) (World.block_lt_of_cell? w _ hv)];exact hv,hr.below hb⟩
theorem Rws.at {w:World} {a:Option Addr} {n cap:Nat} {rs:List (List UInt8)} (h:Rws w (.slice a n cap) rs) (k:Nat) (hk:k < rs.length) :
  ∃ b off r v',a=some ⟨b,off,none⟩∧Hid (rs[k]?=some r)∧w.cell? ⟨b,off+k,none⟩=some v'∧Bys w v' r:=by
 obtain ⟨a',cap',e,h1,h2,h3⟩:=h
 obtain ⟨b,off,e',hc⟩:=h3 (by omega)
 injection e with e1 e2 e3
 obtain ⟨v',hv,hr⟩:=hc k rs[k] (by simp [hk])
 exact ⟨b,off,rs[k],v',e1.trans e',by show rs[k]?=_;simp [hk],hv,hr⟩
def zW (m:Nat) (f:Nat→UInt8):Array Value:=(Array.range m).map fun k=>.int .u8 ((f k).toNat:Int)
theorem zq (m:Nat) (f:Nat→UInt8):(zW m f).size=m:=by simp [zW]
theorem zAN (m:Nat) (f:Nat→UInt8) (k:Nat) (hk:k < m):(zW m f)[k]?=some (.int .u8 ((f k).toNat:Int)):=by
 simp [zW,hk]
theorem zFT (m:Nat) (f:Nat→UInt8) (k:Nat) (u:UInt8):(zW m f).setIfInBounds k (.int .u8 (u.toNat:Int))=zW m (fun j=>if j=k then u else f j):=by
 apply Array.ext_getElem?
 intro i
 rw [Array.getElem?_setIfInBounds]
 by_cases hi:i < m
 · rw [zAN m (fun j=>if j=k then u else f j) _ hi]
   by_cases e:k=i
   · subst e;simp [zq,hi]
   · rw [if_neg e,zAN _ _ _ hi,if_neg (fun e'=>e e'.symm)]
 · have h1:(zW m (fun j=>if j=k then u else f j))[i]?=none:=Array.getElem?_eq_none (by rw [zq];omega)
   have h2:(zW m f)[i]?=none:=Array.getElem?_eq_none (by rw [zq];omega)
   rw [h1,h2]
   split
   · rename_i e;subst e;rw [if_neg (by rw [zq];exact hi)]
   · rfl
theorem zBh {m:Nat} {f g:Nat→UInt8} (h:∀ k,k < m→f k=g k):zW m f=zW m g:=by
 apply Array.ext
 · simp [zq]
 · intro i h1 h2
   rw [zq] at h1
   simp only [zW,Array.getElem_map,Array.getElem_range]
   rw [h i h1]
theorem zB1 (m:Nat):Array.replicate m (Value.int .u8 0)=zW m (fun _=>0):=by
 apply Array.ext
 · simp [zq]
 · intro i h1 h2
   simp [zW]
def zBw (m:Nat) (f:Nat→UInt8):List UInt8:=(List.range m).map f
theorem zA4 (m:Nat) (f:Nat→UInt8):(zBw m f).length=m:=by simp [zBw]
theorem zBb (m:Nat) (f:Nat→UInt8) (k:Nat) (hk:k < m):(zBw m f)[k]?=some (f k):=by simp [zBw,hk]
theorem zFU {m:Nat} {f g:Nat→UInt8} (h:∀ k,k < m→f k=g k):zBw m f=zBw m g:=by
 unfold zBw;exact List.map_congr_left fun k hk=>h k (List.mem_range.1 hk)
section
variable {t8 tr:TypeId} {w w':World} {base X n m:Nat} {ids:Nat→Nat} {F G:Mx}
end
section
variable {t8 tr:TypeId} {w w':World} {base X n i m:Nat} {ids:Nat→Nat} {F G:Mx}
end
theorem Bys.eq_slice {w:World} {v:Value} {bs:List UInt8} (h:Bys w v bs):∃ a cap,v=.slice a bs.length cap:=by
 obtain ⟨a,cap,e,_⟩:=h;exact ⟨a,cap,e⟩
theorem Rws.eq_slice {w:World} {v:Value} {rs:List (List UInt8)} (h:Rws w v rs):∃ a cap,v=.slice a rs.length cap:=by
 obtain ⟨a,cap,e,_⟩:=h;exact ⟨a,cap,e⟩
end Go.Mem
end
section
namespace Go.Mem
open Go Go.RowKit Gf
def bV (bs:List UInt8):List Value:=bs.map fun u=>.int .u8 (u.toNat:Int)
theorem zG (bs:List UInt8):(bV bs).length=bs.length:=by simp [bV]
theorem zIh (a b:List UInt8):bV (a++b)=bV a++bV b:=by simp [bV]
theorem zAd (bs:List UInt8) (i:Nat):(bV bs)[i]?=(bs[i]?).map fun u=>.int .u8 (u.toNat:Int):=by simp [bV]
theorem zAQ (bs:List UInt8):∀ u∈bV bs,u.oneCell'=true:=by
 intro u hu
 simp only [bV,List.mem_map] at hu
 obtain ⟨x,_,rfl⟩:=hu
 rfl
structure Elem (P:Program) (t e:TypeId) (z:Value) (bytes:Nat):Prop where
 under:P.underlying t=some (.slice e)
 info:(P.info? e).map (fun i=>(i.zero,i.size,i.bytes))=some (some z,1,bytes)
 one:z.cells.size=1
def zBp (t8:TypeId) (w:World) (base:Nat) (v:Value) (bs:List UInt8):Prop:=w.ownsRow base t8 1 v bs.length (bV bs)
section
variable {t8 tr:TypeId} {w w':World} {base:Nat} {v:Value} {bs:List UInt8}
theorem zHc {o:Obj} {row:Option Nat} (h:(w.alloc o).grownBy w' row):w.grownBy w' row :=
 ⟨h.os.trans rfl,h.tape.trans rfl,h.output.trans rfl,Nat.le_trans (by simp) h.size,fun k hk hr=>(h.block k (by simp;omega) hr).trans (Below.heap_alloc _ _ _ hk)⟩
theorem zAE {row:Option Nat} (h:w.grownBy w' row) (hr:row=none):Below w.heap.size w w' :=
 ⟨h.os,h.tape,h.output,h.size,fun k hk=>h.block k hk (by rw [hr];exact fun e=>by cases e)⟩
theorem zBp.nil (t8:TypeId) (w:World) (base:Nat):zBp t8 w base (.slice none 0 0) []:=World.ownsRow_nil _ _ _ _
theorem zBp.eq_slice (h:zBp t8 w base v bs):∃ a cap,v=.slice a bs.length cap:=by
 obtain ⟨_,h2⟩:=h
 rcases h2 with ⟨rfl,h0⟩ | ⟨g,cap,cur,rfl,_⟩
 · exact ⟨none,0,by rw [h0]⟩
 · exact ⟨_,cap,rfl⟩
theorem zBp.below (h:zBp t8 w base v bs) (hb:Below w.heap.size w w'):zBp t8 w' base v bs:=by
 obtain ⟨h1,h2⟩:=h
 refine ⟨h1,?_⟩
 rcases h2 with h2 | ⟨g,cap,cur,hv,hg,hh,r⟩
 · exact .inl h2
 · exact .inr ⟨g,cap,cur,hv,hg,by rw [hb.block g (lt_of_block hh)];exact hh,r⟩
theorem zBp.bys (h:zBp t8 w base v bs):Bys w v bs:=by
 obtain ⟨hlen,h2⟩:=h
 rcases h2 with ⟨rfl,h0⟩ | ⟨g,cap,cur,rfl,_,hg,hnc,hcm,hcs,htake⟩
 · have:bs=[]:=List.eq_nil_of_length_eq_zero h0
   subst this
   exact Bys.nil w
 · refine ⟨_,cap,rfl,hnc,hcm,fun _=>⟨g,0,rfl,fun i u hi=>?_⟩⟩
   have hil:i < bs.length:=by
    rcases Nat.lt_or_ge i bs.length with h | h
    · exact h
    · rw [List.getElem?_eq_none h] at hi;cases hi
   have hv:(bV bs)[i]?=some (.int .u8 (u.toNat:Int)):=by rw [zAd,hi];rfl
   rw [Nat.zero_add]
   rw [← htake,List.getElem?_take,if_pos (by omega)] at hv
   simp only [World.cell?,hg]
   simpa using hv
theorem Blk.own {b m:Nat} {f:Nat→UInt8} (h:Blk w b (zW m f) t8) (hb:base≤b) (hm:m≤9223372036854775807):zBp t8 w base (.slice (some ⟨b,0,none⟩) m m) (zBw m f):=by
 refine ⟨by rw [zG];simp,.inr ⟨b,m,zW m f,by rw [zA4],hb,h,by rw [zA4];exact Nat.le_refl _,zAC hm,by rw [zq];simp,?_⟩⟩
 apply List.ext_getElem?
 intro i
 rw [List.getElem?_take,zAd]
 simp only [zA4,Nat.mul_one]
 split
 · rename_i hi
   rw [zBb _ _ _ hi]
   simpa using zAN m f i hi
 · rename_i hi
   rw [List.getElem?_eq_none (by rw [zA4];omega)];rfl
theorem zGC {e1 e2:TypeId} {s1 s2 n1 n2 b1 b2:Nat} {v1 v2:Value} {x1 x2:List Value} (h1:w.ownsRow b1 e1 s1 v1 n1 x1) (h2:w.ownsRow b2 e2 s2 v2 n2 x2) (hne:e1≠e2) (hg:w.grownBy w' v2.ownBlock) :
  w'.ownsRow b1 e1 s1 v1 n1 x1:=by
 refine World.ownsRow.kept h1 hg ?_
 rcases h1.2 with ⟨rfl,_⟩ | ⟨g,cap,cur,rfl,_,hh,_⟩
 · exact .inl rfl
 · refine .inr ?_
   rcases h2.2 with ⟨rfl,_⟩ | ⟨g2,cap2,cur2,rfl,_,hh2,_⟩
   · intro e;simp [Value.ownBlock] at e
   · intro e
     simp only [Value.ownBlock,Option.some.injEq] at e
     subst e
     rw [hh] at hh2
     simp at hh2
     exact hne hh2.2
def OwnRows (t8 tr:TypeId) (w:World) (base:Nat) (v:Value) (rows:List (List UInt8)):Prop :=
 ∃ xs,w.ownsRow base tr 1 v rows.length xs∧∀ (j:Nat) (bs:List UInt8),rows[j]?=some bs→∃ rv,xs[j]?=some rv∧zBp t8 w base rv bs
theorem OwnRows.nil (t8 tr:TypeId) (w:World) (base:Nat):OwnRows t8 tr w base (.slice none 0 0) []:=⟨[],World.ownsRow_nil _ _ _ _,fun j bs hj=>by simp at hj⟩
theorem OwnRows.below {rows:List (List UInt8)} (h:OwnRows t8 tr w base v rows) (hb:Below w.heap.size w w'):OwnRows t8 tr w' base v rows:=by
 obtain ⟨xs,h1,h2⟩:=h
 refine ⟨xs,?_,fun j bs hj=>?_⟩
 · obtain ⟨h1,h3⟩:=h1
   refine ⟨h1,?_⟩
   rcases h3 with h3 | ⟨g,cap,cur,hv,hg,hh,r⟩
   · exact .inl h3
   · exact .inr ⟨g,cap,cur,hv,hg,by rw [hb.block g (lt_of_block hh)];exact hh,r⟩
 · obtain ⟨rv,h3,h4⟩:=h2 j bs hj
   exact ⟨rv,h3,h4.below hb⟩
theorem OwnRows.lt {rows:List (List UInt8)} (h:OwnRows t8 tr w base v rows):∀ k,v.ownBlock=some k→base≤k∧k < w.heap.size:=by
 obtain ⟨xs,h1,_⟩:=h;exact World.ownsRow.lt h1
theorem OwnRows.rws {rows:List (List UInt8)} (h:OwnRows t8 tr w base v rows):Rws w v rows:=by
 obtain ⟨xs,⟨hlen,h2⟩,hx⟩:=h
 rcases h2 with ⟨rfl,h0⟩ | ⟨g,cap,cur,rfl,_,hg,hnc,hcm,hcs,htake⟩
 · have:rows=[]:=List.eq_nil_of_length_eq_zero h0
   subst this
   exact Rws.nil w
 · refine ⟨_,cap,rfl,hnc,hcm,fun _=>⟨g,0,rfl,fun i r hi=>?_⟩⟩
   obtain ⟨rv,hv,hb⟩:=hx i r hi
   refine ⟨rv,?_,hb.bys⟩
   rw [Nat.zero_add]
   have hil:i < rows.length:=by
    rcases Nat.lt_or_ge i rows.length with h | h
    · exact h
    · rw [List.getElem?_eq_none h] at hi;cases hi
   rw [← htake,List.getElem?_take,if_pos (by omega)] at hv
   simp only [World.cell?,hg]
   simpa using hv
theorem OwnRows.push {rows:List (List UInt8)} {xs:List Value} {rv v':Value} (hne:t8≠tr) (h1:w.ownsRow base tr 1 v rows.length xs) (h2:∀ (j:Nat) (bs:List UInt8),rows[j]?=some bs→∃ rv,xs[j]?=some rv∧zBp t8 w base rv bs)
  (hr:zBp t8 w base rv bs) (hown:w'.ownsRow base tr 1 v' (rows.length+1) (xs++[rv])) (hg:w.grownBy w' v.ownBlock):OwnRows t8 tr w' base v' (rows++[bs]):=by
 have hl:xs.length=rows.length:=by have:=h1.1;omega
 refine ⟨xs++[rv],by rw [List.length_append];exact hown,fun j b hj=>?_⟩
 rcases Nat.lt_or_ge j rows.length with hjl | hjl
 · rw [List.getElem?_append_left hjl] at hj
   obtain ⟨rv',h3,h4⟩:=h2 j b hj
   exact ⟨rv',by rw [List.getElem?_append_left (by omega)];exact h3,zGC h4 h1 hne hg⟩
 · rw [List.getElem?_append_right hjl] at hj
   have hj0:j - rows.length=0:=by
    rcases Nat.eq_zero_or_pos (j - rows.length) with h | h
    · exact h
    · rw [List.getElem?_eq_none (by simp;omega)] at hj;cases hj
   rw [hj0] at hj
   simp at hj
   subst hj
   exact ⟨rv,by rw [List.getElem?_append_right (by omega),hl,hj0];rfl,zGC hr h1 hne hg⟩
end
section
theorem zCd {P:Program} {w:World} (base:Nat) (t ty e:TypeId) (i:TypeInfo) (size cap:Nat) (ht:P.underlying t=some (.slice e)) (hi:P.info? e=some i)
  (v:Value) (n:Nat) (xs:List Value) (hown:w.ownsRow base e size v n xs) :
  (Builtin.append_ #[t,t] ty #[v,.slice none 0 cap]).run P w=.ok v w:=by
 rcases hown.2 with ⟨rfl,rfl⟩ | ⟨g,cp,cur,rfl,_,_,hnc,_⟩
 · simp [Builtin.append_,run_underlying ht,sizeOf,typeInfo,hi,Builtin.lenOf,Builtin.firstCells]
 · simp [Builtin.append_,run_underlying ht,sizeOf,typeInfo,hi,Builtin.lenOf,Builtin.firstCells,hnc,storeCells]
end
section
variable {P:Program} {w:World} {ops:Array Oper} {rest:List Oper} {o:Oper} {a:Act} {Q:Exit→Act→World→Prop} {K:Act→World→Prop} {E0:Prop}
theorem zCW (hgd:o.guard=none) {R:Value→World→Prop} (h0:∀ K:Act→World→Prop,(∀ v' w',R v' w'→K (a.put o.dst v') w')→o.wp P a w K Q)
  (h:∀ v' w',R v' w'→wpList P ops Q rest (a.put o.dst v') w'):wpList P ops Q (o::rest) a w :=
 wpList_plain hgd fun K hK=>h0 K fun v' w' hr=>hK _ _ (h v' w' hr)
theorem zG7 (hgd:o.guard=none) {R:Value→World→Prop} (h0:∀ K:Act→World→Prop,(∀ v' w',R v' w'→K (a.put o.dst v') w')→o.wp P a w K Q)
  (h:∀ v' w',R v' w'→K (a.put o.dst v') w'):if Region.wanted o (yielded ops a.tmps)=true then Oper.wp P o a w K Q else E0:=by
 have hw:Region.wanted o (yielded ops a.tmps)=true:=by simp [Region.wanted,hgd]
 rw [if_pos hw]
 exact h0 K h
theorem zKi {t e:TypeId} {z:Value} {bytes:Nat} (E:Elem P t e z bytes) (s x:Operand) (ho:o.op=.call { callee:=.builtin .append,args:=#[s,x],argTypes:=#[t,t] })
  {base:Nat} {v:Value} {n:Nat} {xs:List Value} (u:Value) (hs:a.eval s=v) {mb:Nat} (hx:a.eval x=.slice (some ⟨mb,0,none⟩) 1 1) (hc:w.cell? ⟨mb,0,none⟩=some u) (h1:u.oneCell'=true)
  (hown:w.ownsRow base e 1 v n xs) (hn:n+1≤4294967296) (hby:bytes≤4096) (hbase:base≤w.heap.size)
  (h:∀ v' w',w'.ownsRow base e 1 v' (n+1) (xs++[u])∧w.grownBy w' v.ownBlock→K (a.put o.dst v') w'):o.wp P a w K Q:=by
 obtain ⟨i,hi,hz,hsz,hb⟩:=info_parts E.info
 have hm:(n+1)*bytes≤4294967296*4096:=Nat.mul_le_mul hn hby
 exact wp_append_own w s x t ho base e i z 1 bytes E.under hi hz hsz hb E.one (by decide) v n xs hs hown ⟨mb,0,none⟩ 1 1 [u] hx rfl
  (fun j y hj=>by
   cases j with
   | zero=>simp at hj;subst hj;simpa [Addr.add] using hc
   | succ j=>simp at hj)
  (fun y hy=>by simp at hy;subst hy;exact h1) (by unfold maxLen;omega) (by omega) hbase
  (fun v' w' h2 h3 _=>h v' w' ⟨h2,h3⟩)
theorem zIU {t e:TypeId} (E:Elem P t e (.int .u8 0) 1) (s x:Operand) (ho:o.op=.call { callee:=.builtin .append,args:=#[s,x],argTypes:=#[t,t] })
  {base:Nat} {v xv:Value} {bs news:List UInt8} (hs:a.eval s=v) (hx:a.eval x=xv)
  (hown:zBp e w base v bs) (hb:Bys w xv news) (hn:bs.length+news.length≤140737488355328) (hbase:base≤w.heap.size)
  (h:∀ v' w',zBp e w' base v' (bs++news)∧w.grownBy w' v.ownBlock→K (a.put o.dst v') w'):o.wp P a w K Q:=by
 obtain ⟨i,hi,hz,hsz,hby⟩:=info_parts E.info
 obtain ⟨ad,cap,rfl,hc1,hc2,hcell⟩:=hb
 cases ad with
 | some ad =>
   have hlen:(bV news).length=news.length*1:=by rw [zG];omega
   refine wp_append_own w s x t ho base e i (.int .u8 0) 1 1 E.under hi hz hsz hby rfl (by decide) v bs.length (bV bs) hs hown ad news.length cap (bV news) hx hlen
    (fun j y hj=>?_) (zAQ _) (by unfold maxLen;omega) (by omega) hbase (fun v' w' h2 h3 _=>h v' w' ⟨by unfold zBp;rw [List.length_append,zIh];exact h2,h3⟩)
   rw [zAd] at hj
   cases hu:news[j]? with
   | none=>rw [hu] at hj;cases hj
   | some u =>
     rw [hu] at hj
     have hjl:j < news.length:=by
      rcases Nat.lt_or_ge j news.length with h' | h'
      · exact h'
      · rw [List.getElem?_eq_none h'] at hu;cases hu
     obtain ⟨b,off,e,hc⟩:=hcell (by omega)
     cases e
     rw [show (⟨b,off,none⟩:Addr).add j=⟨b,off+j,none⟩ from by
      unfold Addr.add
      split
      · subst_vars;rfl
      · rfl]
     rw [hc j u hu]
     simpa using hj
 | none =>
   have hl:news=[]:=by
    rcases Nat.eq_zero_or_pos news.length with h0 | h0
    · exact List.eq_nil_of_length_eq_zero h0
    · obtain ⟨b,off,e,_⟩:=hcell h0;cases e
   subst hl
   have hrun:=zCd (P:=P) (w:=w) base t o.type e i 1 cap E.under hi v bs.length (bV bs) hown
   unfold Oper.wp
   simp [execOp,ho,resolve,invoke,builtin,hs,hx,hrun,Result.andThen]
   exact h v w ⟨by rw [List.append_nil];exact hown,⟨rfl,rfl,rfl,Nat.le_refl _,fun _ _ _=>rfl⟩⟩
theorem zLn {t e:TypeId} {z:Value} {bytes:Nat} (E:Elem P t e z bytes) (hgd:o.guard=none) (s x:Operand) (ho:o.op=.call { callee:=.builtin .append,args:=#[s,x],argTypes:=#[t,t] })
  {base:Nat} {v:Value} {n:Nat} {xs:List Value} (u:Value) (hs:a.eval s=v) {mb:Nat} (hx:a.eval x=.slice (some ⟨mb,0,none⟩) 1 1) (hmb:mb=w.heap.size) (h1:u.oneCell'=true)
  (hown:w.ownsRow base e 1 v n xs) (hn:n+1≤4294967296) (hby:bytes≤4096) (hbase:base≤w.heap.size)
  (h:∀ v' w',w'.ownsRow base e 1 v' (n+1) (xs++[u])→w.grownBy w' v.ownBlock→wpList P ops Q rest (a.put o.dst v') w') :
  wpList P ops Q (o::rest) a (w.alloc (.cells #[u] e)) :=
 zCW hgd (fun _ hK=>zKi E s x ho u hs hx (by subst hmb;simp) h1 (hown.alloc _) hn hby (by simp;omega) hK) fun v' w' h2=>h v' w' h2.1 (zHc h2.2)
theorem zLo {t tr t8:TypeId} (E:Elem P t tr (.slice none 0 0) 24) (hgd:o.guard=none) (s x:Operand) (ho:o.op=.call { callee:=.builtin .append,args:=#[s,x],argTypes:=#[t,t] })
  {base:Nat} {v:Value} {rows:List (List UInt8)} {rv:Value} {bs:List UInt8} (hs:a.eval s=v) {mb:Nat} (hx:a.eval x=.slice (some ⟨mb,0,none⟩) 1 1) (hmb:mb=w.heap.size)
  (hown:OwnRows t8 tr w base v rows) (hr:zBp t8 w base rv bs) (hne:t8≠tr) (hn:rows.length+1≤4294967296) (hbase:base≤w.heap.size)
  (h:∀ v' w',OwnRows t8 tr w' base v' (rows++[bs])→w.grownBy w' v.ownBlock→wpList P ops Q rest (a.put o.dst v') w') :
  wpList P ops Q (o::rest) a (w.alloc (.cells #[rv] tr)):=by
 obtain ⟨xs,h1,h2⟩:=hown
 obtain ⟨ra,rc,hrv⟩:=hr.eq_slice
 exact zLn E hgd s x ho rv hs hx hmb (by rw [hrv];rfl) h1 hn (by decide) hbase fun v' w' h3 h4=>h v' w' (OwnRows.push hne h1 h2 hr h3 h4) h4
theorem zJ5 {t e:TypeId} (E:Elem P t e (.int .u8 0) 1) (hgd:o.guard=none) (s x:Operand) (ho:o.op=.call { callee:=.builtin .append,args:=#[s,x],argTypes:=#[t,t] })
  {base:Nat} {v xv:Value} {bs news:List UInt8} (hs:a.eval s=v) (hx:a.eval x=xv)
  (hown:zBp e w base v bs) (hb:Bys w xv news) (hn:bs.length+news.length≤140737488355328) (hbase:base≤w.heap.size)
  (h:∀ v' w',zBp e w' base v' (bs++news)→w.grownBy w' v.ownBlock→wpList P ops Q rest (a.put o.dst v') w') :
  wpList P ops Q (o::rest) a w :=
 zCW hgd (fun _ hK=>zIU E s x ho hs hx hown hb hn hbase hK) fun v' w' h2=>h v' w' h2.1 h2.2
theorem zCN {B:Nat} {w w':World} (h:Below B w.drew w'):Below B w w':=⟨h.os,h.tape,h.output,h.size,h.block⟩
theorem zCO {B:Nat} {w w':World} (h:Below w.drew.heap.size w.drew w') (hB:B=w.heap.size):Below B w w':=by subst hB;exact ⟨h.os,h.tape,h.output,h.size,h.block⟩
end
end Go.Mem
end
section
namespace Go.Mem
open Go Go.RowKit Gf
structure Chg (S:Nat→Prop) (w w':World):Prop where
 os:w'.os=w.os
 tape:w'.tape=w.tape
 output:w'.output=w.output
 size:w.heap.size≤w'.heap.size
 block:∀ k,k < w.heap.size→¬ S k→w'.heap[k]?=w.heap[k]?
section
variable {S T:Nat→Prop} {w w' w'':World}
theorem Chg.refl (S:Nat→Prop) (w:World):Chg S w w:=⟨rfl,rfl,rfl,Nat.le_refl _,fun _ _ _=>rfl⟩
theorem Chg.trans (h:Chg S w w') (h':Chg S w' w''):Chg S w w'' :=
 ⟨h'.os.trans h.os,h'.tape.trans h.tape,h'.output.trans h.output,Nat.le_trans h.size h'.size,fun k hk hs=>(h'.block k (Nat.lt_of_lt_of_le hk h.size) hs).trans (h.block k hk hs)⟩
theorem Chg.mono (h:Chg S w w') (hs:∀ k,S k→T k):Chg T w w':=⟨h.os,h.tape,h.output,h.size,fun k hk ht=>h.block k hk fun hS=>ht (hs k hS)⟩
theorem Chg.of_below (h:Below w.heap.size w w'):Chg S w w':=⟨h.os,h.tape,h.output,h.size,fun k hk _=>h.block k hk⟩
theorem Chg.drew (h:Chg S w w'):Chg S w w'.drew:=⟨h.os,h.tape,h.output,h.size,h.block⟩
theorem Chg.set (h:Chg S w w') {a:Addr} (ha:S a.block) (v:Value):Chg S w (w'.setCell a v) :=
 ⟨h.os,h.tape,h.output,by simp [World.setCell];exact h.size,fun k hk hs=>by
  rw [Below.heap_setCell _ _ _ _ (fun e=>hs (by rw [e];exact ha))];exact h.block k hk hs⟩
theorem Chg.below {B:Nat} (h:Chg S w w') (hB:B≤w.heap.size) (hs:∀ k,S k→B≤k):Below B w w' :=
 ⟨h.os,h.tape,h.output,h.size,fun k hk=>h.block k (by omega) fun hS=>by have:=hs k hS;omega⟩
theorem Chg.blk {b:Nat} {arr:Array Value} {t:TypeId} (h:Chg S w w') (hb:Blk w b arr t) (hs:¬ S b):Blk w' b arr t:=by
 unfold Blk at *;rw [h.block b (lt_of_block hb) hs];exact hb
end
section
variable {t8 tr:TypeId} {w w':World} {base X n m:Nat} {ids:Nat→Nat} {F G:Mx} {S:Nat→Prop}
end
end Go.Mem
end
section
namespace Go.Mem
open Go Go.RowKit Gf
section
variable {P:Program} {w:World} {ops:Array Oper} {rest:List Oper} {o:Oper} {a:Act} {Q:Exit→Act→World→Prop} {K:Act→World→Prop} {E0:Prop}
theorem zEY (d s:Operand) (dT sT elem:TypeId) (ho:o.op=.call { callee:=.builtin .copy,args:=#[d,s],argTypes:=#[dT,sT] }) (hu:P.underlying dT=some (.slice elem)) (hsz:(P.info? elem).map (·.size)=some 1)
  {b off dl dc sl sc:Nat} {sa:Addr} (cs:List Value) (hd:a.eval d=.slice (some ⟨b,off,none⟩) dl dc) (hs:a.eval s=.slice (some sa) sl sc) (hn:cs.length=Nat.min sl dl)
  (hsrc:∀ j v,cs[j]?=some v→w.cell? (sa.add j)=some v) (ht:w.there b off cs.length) (h1:∀ v∈cs,v.oneCell'=true)
  (h:K (a.put o.dst (goInt cs.length)) (w.setCells b off cs)):o.wp P a w K Q:=by
 have hrun:=run_copy_cells (P:=P) w dT sT o.type elem b off dl dc sa sl sc cs hu hsz hn hsrc (fun j hj=>(ht j hj).1) (fun j hj=>(ht j hj).2) h1
 unfold Oper.wp
 simp [execOp,ho,resolve,invoke,builtin,hd,hs,hrun,Result.andThen]
 exact h
theorem zKw (hgd:o.guard=none) (d s:Operand) (dT sT elem:TypeId) (ho:o.op=.call { callee:=.builtin .copy,args:=#[d,s],argTypes:=#[dT,sT] }) (hu:P.underlying dT=some (.slice elem)) (hsz:(P.info? elem).map (·.size)=some 1)
  {b off dl dc sl sc:Nat} {sa:Addr} (cs:List Value) (hd:a.eval d=.slice (some ⟨b,off,none⟩) dl dc) (hs:a.eval s=.slice (some sa) sl sc) (hn:cs.length=Nat.min sl dl)
  (hsrc:∀ j v,cs[j]?=some v→w.cell? (sa.add j)=some v) (ht:w.there b off cs.length) (h1:∀ v∈cs,v.oneCell'=true)
  (h:wpList P ops Q rest (a.put o.dst (goInt cs.length)) (w.setCells b off cs)):wpList P ops Q (o::rest) a w :=
 zCW hgd (R:=fun v' w'=>v'=goInt cs.length∧w'=w.setCells b off cs) (fun _ hK=>zEY d s dT sT elem ho hu hsz cs hd hs hn hsrc ht h1 (hK _ _ ⟨rfl,rfl⟩)) fun v' w' h2=>by
  obtain ⟨rfl,rfl⟩:=h2;exact h
theorem zFo (hgd:o.guard=none) (d s:Operand) (dT sT elem:TypeId) (ho:o.op=.call { callee:=.builtin .copy,args:=#[d,s],argTypes:=#[dT,sT] }) (hu:P.underlying dT=some (.slice elem)) (hsz:(P.info? elem).map (·.size)=some 1)
  {b off dl dc sl sc:Nat} {sa:Addr} (cs:List Value) (hd:a.eval d=.slice (some ⟨b,off,none⟩) dl dc) (hs:a.eval s=.slice (some sa) sl sc) (hn:cs.length=Nat.min sl dl)
  (hsrc:∀ j v,cs[j]?=some v→w.cell? (sa.add j)=some v) (ht:w.there b off cs.length) (h1:∀ v∈cs,v.oneCell'=true)
  (h:K (a.put o.dst (goInt cs.length)) (w.setCells b off cs)):if Region.wanted o (yielded ops a.tmps)=true then Oper.wp P o a w K Q else E0 :=
 zG7 hgd (R:=fun v' w'=>v'=goInt cs.length∧w'=w.setCells b off cs) (fun _ hK=>zEY d s dT sT elem ho hu hsz cs hd hs hn hsrc ht h1 (hK _ _ ⟨rfl,rfl⟩)) fun v' w' h2=>by
  obtain ⟨rfl,rfl⟩:=h2;exact h
end
theorem Blk.setCells_other {b L:Nat} {arr:Array Value} {t:TypeId} (hne:b≠L):∀ (vs:List Value) (o:Nat) (w:World),Blk w b arr t→Blk (w.setCells L o vs) b arr t
 | [],_,_,h=>h
 | _::r,o,_,h=>Blk.setCells_other hne r (o+1) _ (h.set_other (fun e=>hne e.symm) _)
theorem Blk.setCells {L:Nat} {t:TypeId}:∀ (vs:List Value) (o:Nat) (w:World) (arr:Array Value),Blk w L arr t →
  ∃ arr',Blk (w.setCells L o vs) L arr' t∧arr'.size=arr.size∧∀ j,j < arr.size→arr'[j]?=if o≤j∧j < o+vs.length then vs[j - o]? else arr[j]?
 | [],_,_,arr,h=>⟨arr,h,rfl,fun j _=>by rw [if_neg (by simp)]⟩
 | v::r,o,_,arr,h=>by
   obtain ⟨arr',h1,h2,h3⟩:=Blk.setCells r (o+1) _ _ (h.set o v)
   rw [Array.size_setIfInBounds] at h2 h3
   refine ⟨arr',h1,h2,fun j hj=>?_⟩
   rw [h3 j hj]
   simp only [List.length_cons]
   by_cases e:j=o
   · subst e
     rw [if_neg (by omega),if_pos (by omega),Array.getElem?_setIfInBounds,if_pos rfl,if_pos hj];simp
   · by_cases e2:o+1≤j∧j < o+1+r.length
     · rw [if_pos e2,if_pos (by omega),show j - o=(j - (o+1))+1 from by omega,List.getElem?_cons_succ]
     · rw [if_neg e2,if_neg (by omega),Array.getElem?_setIfInBounds,if_neg (fun e'=>e e'.symm)]
theorem Chg.setCells {S:Nat→Prop} {L:Nat} (hS:S L) {w:World}:∀ (vs:List Value) (o:Nat) (w':World),Chg S w w'→Chg S w (w'.setCells L o vs)
 | [],_,_,h=>h
 | _::r,o,_,h=>Chg.setCells hS r (o+1) _ (h.set (a:=⟨L,o,none⟩) hS _)
theorem zHm {w:World} {d L t o o' n:Nat} {x:Option Value} {cs vs:List Value} (h1:d≠L) (h2:t≠L) (c:w.cell? ⟨d,0,none⟩=x) (hr:w.rangeAt t 0 cs) (ht:w.there L o' n) :
  (w.drew.setCells L o vs).cell? ⟨d,0,none⟩=x∧(w.drew.setCells L o vs).rangeAt t 0 cs∧(w.drew.setCells L o vs).there L o' n :=
 ⟨by rw [World.cell?_setCells_out _ _ _ _ _ (fun e=>absurd e h1)];exact c,World.rangeAt_setCells_apart (by rw [World.rangeAt_drew];exact hr) _ _ _ (.inl h2),World.there_setCells (by rw [World.there_drew];exact ht) _ _ _⟩
theorem Blk.mid_bys {w:World} {b:Nat} {arr:Array Value} {t:TypeId} (h:Blk w b arr t) {o m c:Nat} {f:Nat→UInt8} (hc:m≤c) (hm:c≤maxLen)
  (ha:∀ k,k < m→arr[o+k]?=some (Value.int .u8 ((f k).toNat:Int))):Bys w (.slice (some ⟨b,o,none⟩) m c) (zBw m f):=by
 refine ⟨_,c,by rw [zA4],by rw [zA4];exact hc,hm,fun _=>⟨b,o,rfl,fun i u hi=>?_⟩⟩
 have hlt:i < m:=by
  rcases Nat.lt_or_ge i m with h' | h'
  · exact h'
  · rw [List.getElem?_eq_none (by rw [zA4];exact h')] at hi;cases hi
 rw [zBb _ _ _ hlt] at hi;cases hi
 rw [h.cell];exact ha i hlt
end Go.Mem
end
section
namespace Go.Mem
open Go
def zAy:Value→Nat
 | .pointer (some ⟨b,_,_⟩)=>b
 | _=>0
def zAz:Value→Nat
 | .pointer (some ⟨_,o,_⟩)=>o
 | _=>0
def zBe:Value→Bool
 | .pointer (some ⟨_,_,none⟩)=>true
 | _=>false
def zAu:Value→List Value
 | .agg cs=>cs.toList
 | _=>[]
def zBX:Value→Bool
 | .agg _=>true
 | _=>false
@[simp] theorem ptrB_eq (b o:Nat):zAy (.pointer (some ⟨b,o,none⟩))=b:=rfl
@[simp] theorem ptrO_eq (b o:Nat):zAz (.pointer (some ⟨b,o,none⟩))=o:=rfl
@[simp] theorem ptrIs_eq (b o:Nat):zBe (.pointer (some ⟨b,o,none⟩))=true:=rfl
@[simp] theorem aggL_eq (cs:Array Value):zAu (.agg cs)=cs.toList:=rfl
@[simp] theorem aggIs_eq (cs:Array Value):zBX (.agg cs)=true:=rfl
theorem zI7 {v:Value} (h:zBe v=true):v=.pointer (some ⟨zAy v,zAz v,none⟩):=by
 unfold zBe at h
 split at h
 · rfl
 · cases h
theorem zEm {v:Value} (h:zBX v=true):v=.agg (zAu v).toArray:=by
 unfold zBX at h
 split at h
 · simp
 · cases h
def zh (n:Nat) (w:World) (g o:Nat):List Value:=(List.range n).map fun k=>(w.cell? ⟨g,o+k,none⟩).getD undef
def zi (n:Nat) (w:World) (g o:Nat):Prop:=w.there g o n
def zAS (n:Nat) (cs:List Value):Prop:=cs.length=n∧∀ v∈cs,v.oneCell'=true
theorem zC4 (n:Nat) (w:World) (g o:Nat):(zh n w g o).length=n:=by simp [zh]
theorem zCG {n:Nat} {w:World} {g o:Nat} {cs:List Value} (h:w.rangeAt g o cs) (hl:cs.length=n):zh n w g o=cs:=by
 apply List.ext_getElem?
 intro k
 unfold zh
 rw [List.getElem?_map]
 rcases Nat.lt_or_ge k n with hk | hk
 · rw [List.getElem?_range hk]
   have hc:k < cs.length:=by omega
   rw [Option.map_some,h k cs[k] (by simp),Option.getD_some,List.getElem?_eq_getElem hc]
 · rw [List.getElem?_eq_none (by simpa using hk),List.getElem?_eq_none (by omega)];rfl
theorem zAi {n:Nat} {w:World} {g o:Nat} (h:zi n w g o):w.rangeAt g o (zh n w g o):=fun j v hj=>by
 have hjn:j < n:=by
  rcases Nat.lt_or_ge j n with h | h
  · exact h
  · rw [List.getElem?_eq_none (by rw [zC4];exact h)] at hj;cases hj
 obtain ⟨u,hu⟩:=Option.isSome_iff_exists.1 (h j hjn).1
 rw [hu]
 unfold zh at hj
 rw [List.getElem?_map,List.getElem?_range hjn] at hj
 simp only [Option.map_some,hu,Option.getD_some] at hj
 exact hj
theorem zCI {P:Program} {n:Nat} {t:TypeId} (hi:(P.info? t).map (·.size)=some n) (dst:Option Tmp) (x y:Operand) (ty:TypeId) (pos:String) (af:Array Edge) (a:Act) (w:World) (K:Act→World→Prop) (Q:Exit→Act→World→Prop)
  (hp:zBe (a.eval x)=true) (hy:zBX (a.eval y)=true) (ht:zi n w (zAy (a.eval x)) (zAz (a.eval x))) (hc:zAS n (zAu (a.eval y))) :
  Oper.wp P ⟨dst,.store t x y,ty,pos,af,none⟩ a w K Q=K (a.put dst undef) (w.setCells (zAy (a.eval x)) (zAz (a.eval x)) (zAu (a.eval y))):=by
 unfold Oper.wp execOp
 have e:=zI7 hp
 have e2:=zEm hy
 have hl:=run_storeVar_mid (P:=P) w (zAy (a.eval x)) (zAz (a.eval x)) t (zAu (a.eval y)).toArray (by simpa [hc.1] using (show w.there (zAy (a.eval x)) (zAz (a.eval x)) n from ht)) (by simpa [hc.1] using hi) (Array.all_eq_true_iff_forall_mem.2 fun v hv=>hc.2 v (by simpa using hv))
 simp only
 rw [e,e2]
 simp only [ptrB_eq,ptrO_eq,aggL_eq,Instr.storeAt,Instr.sureAddr,Sem.run_bind,Sem.run_pure,Result.andThen_ok,hl]
 rfl
theorem zFv {v:Value} (h:zBX v=true):v.cells=(zAu v).toArray:=by
 rw [zEm h];rfl
theorem zKj {P:Program} {n:Nat} {t e:TypeId} (hu:P.underlying t=some (.slice e)) (hi:(P.info? e).map (fun i=>(i.size,(i.zero.map (·.cells.size))))=some (n,some n)) (hn:0 < n) (hn2:n≤1000)
  (dst:Option Tmp) (x:Operand) (ty:TypeId) (pos:String) (af:Array Edge) (a:Act) (w:World) (K:Act→World→Prop) (Q:Exit→Act→World→Prop)
  (hy:zBX (a.eval x)=true) (hc:zAS n (zAu (a.eval x))) :
  Oper.wp P ⟨dst,.buildSlice t 1 #[(0,x)],ty,pos,af,none⟩ a w K Q=K (a.put dst (.slice (some ⟨w.heap.size,0,none⟩) 1 1)) (w.alloc (.cells (zAu (a.eval x)).toArray e)):=by
 cases hie:P.info? e with
 | none=>rw [hie] at hi;cases hi
 | some ie =>
   rw [hie] at hi
   simp only [Option.map_some,Option.some.injEq,Prod.mk.injEq] at hi
   obtain ⟨h1,h2⟩:=hi
   cases hz:ie.zero with
   | none=>rw [hz] at h2;cases h2
   | some z =>
     have hcs:=zFv hy
     have hsz:(a.eval x).cells.size=n:=by rw [hcs];simpa using hc.1
     have hf:=Great.fill_whole (s:=n) hn [a.eval x] ((Array.range (1*n)).map (z.cells[· % z.cells.size]!)) (fun v hv=>by rw [List.mem_singleton.1 hv];exact hsz) (by simp)
     unfold Oper.wp execOp
     have hr:=run_buildSlice (P:=P) w t e 1 #[(0,a.eval x)] (([a.eval x].flatMap fun v=>v.cells.toList).toArray) ie z hu hie hz (by rw [h1];omega) (by rw [h1];omega) (by rw [h1];exact hf)
     simp only [List.map_toArray,List.map_cons,List.map_nil,Sem.run_bind,hr,Result.andThen_ok]
     simp only [List.flatMap_cons,List.flatMap_nil,List.append_nil,hcs]
     rfl
theorem zHd {n:Nat} {arr:Array Value} (h:n≤arr.size) (w:World) (t:TypeId):zi n (w.alloc (.cells arr t)) w.heap.size 0:=fun j hj=>by
 have hb:=Blk.new w arr t
 exact ⟨by rw [hb.cell];simp;omega,hb.free _⟩
theorem zDf {n:Nat} {w:World} {b o:Nat} (h:zi n w b o) (g p:Nat) (cs:List Value):zi n (w.setCells g p cs) b o:=World.there_setCells h _ _ _
theorem zC5 {n:Nat} {w:World} {b o:Nat} {cs:List Value} (h:zi n w b o) (hc:zAS n cs):zh n (w.setCells b o cs) b o=cs:=by
 refine zCG (World.rangeAt_setCells_same _ _ _ _ ?_) hc.1
 rw [hc.1];exact h
end Go.Mem
end
section
namespace Go.Mem
open Go Go.RowKit Gf
section
variable {P:Program} {w:World} {ops:Array Oper} {rest:List Oper} {o:Oper} {a:Act} {Q:Exit→Act→World→Prop} {K:Act→World→Prop} {E0:Prop}
structure zCf (P:Program) (t e:TypeId) (z:Value) (size bytes:Nat):Prop where
 under:P.underlying t=some (.slice e)
 info:(P.info? e).map (fun i=>(i.zero,i.size,i.bytes))=some (some z,size,bytes)
 zsize:z.cells.size=size
 pos:0 < size
end
end Go.Mem
end
