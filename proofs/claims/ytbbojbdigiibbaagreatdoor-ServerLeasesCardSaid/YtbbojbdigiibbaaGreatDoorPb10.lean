/- Texts of this proof,packed: SrvBlobs,LeaSet,SrvCont. -/
import Derived.Test.YtbbojbdigiibbaaGreatDoorPb09
import Derived.Test.YtbbojbdigiibbaaGreatDoorPb02
section
namespace Go.Mem
open Go Go.RowKit Gf
abbrev zP:=Int × List UInt8
def blV:List zP→List Value→List Value
 | x::l,v::vs=>[.int .i64 x.1,v]++blV l vs
 | _,_=>[]
theorem zJV:∀ (l:List zP) (vs:List Value) (x:zP) (v:Value),vs.length=l.length→blV (l++[x]) (vs++[v])=blV l vs++[.int .i64 x.1,v]
 | [],[],x,v,_=>rfl
 | x'::l,v'::vs,x,v,h=>by
   simp only [List.cons_append,blV,List.append_assoc]
   rw [zJV l vs x v (by simpa using h)]
theorem zL1:∀ (l:List zP) (vs:List Value) (i:Nat) (x:zP) (v:Value),l[i]?=some x→vs[i]?=some v→(blV l vs)[i*2]?=some (.int .i64 x.1)∧(blV l vs)[i*2+1]?=some v
 | x::l,v::vs,0,x',v',h1,h2=>by
   simp at h1 h2
   subst h1 h2
   exact ⟨rfl,rfl⟩
 | x::l,v::vs,i+1,x',v',h1,h2=>by
   have:=zL1 l vs i x' v' (by simpa using h1) (by simpa using h2)
   have e:∀ j,(blV (x::l) (v::vs))[(i+1)*2+j]?=(blV l vs)[i*2+j]?:=fun j=>by
    rw [blV,List.getElem?_append_right (by simp;omega)]
    congr 1
    simp;omega
   exact ⟨by rw [show (i+1)*2=(i+1)*2+0 from rfl,e];exact this.1,by rw [e];exact this.2⟩
 | [],_,i,x,v,h1,_=>by simp at h1
 | _::_,[],i,x,v,_,h2=>by simp at h2
def zAH (tr:TypeId) (w:World) (base:Nat) (N:Nat→Prop) (u:Value) (l:List zP):Prop :=
 ∃ vs:List Value,vs.length=l.length∧w.ownsRow base tr 2 u l.length (blV l vs)∧(∀ (j:Nat) (x:zP) (v:Value),l[j]?=some x→vs[j]?=some v→zAY w N v x.2)∧∀ v∈vs,∀ a n c,v=.slice (some a) n c→u.ownBlock≠some a.block
section
variable {tr:TypeId} {w w':World} {base:Nat} {N S:Nat→Prop} {u u' v:Value} {l:List zP} {x:zP}
theorem zAH.nil (tr:TypeId) (w:World) (base:Nat) (N:Nat→Prop):zAH tr w base N (.slice none 0 0) [] :=
 ⟨[],rfl,World.ownsRow_nil _ _ _ _,(fun j r v h=>by simp at h),fun v h=>by cases h⟩
theorem zAH.slice (h:zAH tr w base N u l):∃ a c,u=.slice a l.length c∧(0 < l.length→∃ g,a=some ⟨g,0,none⟩):=by
 obtain ⟨vs,_,h2,_⟩:=h
 exact zAG h2
theorem zAH.lt (h:zAH tr w base N u l):∀ g,u.ownBlock=some g→base≤g∧g < w.heap.size:=by
 obtain ⟨vs,_,h2,_⟩:=h
 exact h2.lt
theorem zAH.chg (h:zAH tr w base N u l) (hc:Chg S w w') (h1:∀ g,u.ownBlock=some g→¬ S g) (h2:∀ b,S b→b < w.heap.size→N b):zAH tr w' base N u l:=by
 obtain ⟨vs,a1,a2,a3,a4⟩:=h
 exact ⟨vs,a1,zAl a2 hc h1,fun j x v hx hv=>(a3 j x v hx hv).chg hc h2,a4⟩
theorem zAH.below (h:zAH tr w base N u l) (hb:Below w.heap.size w w'):zAH tr w' base N u l:=h.chg (S:=fun _=>False) (Chg.of_below hb) (fun _ _ h=>h) (fun _ h=>h.elim)
theorem zAH.mono {M:Nat→Prop} (h:zAH tr w base N u l) (hM:∀ b,M b→N b∨w.heap.size≤b):zAH tr w base M u l:=by
 obtain ⟨vs,a1,a2,a3,a4⟩:=h
 exact ⟨vs,a1,a2,fun j x v hx hv=>(a3 j x v hx hv).mono hM,a4⟩
theorem zAH.lower {b:Nat} (h:zAH tr w base N u l) (hb:b≤base):zAH tr w b N u l:=by
 obtain ⟨vs,a1,⟨a2,a2'⟩,a3,a4⟩:=h
 refine ⟨vs,a1,⟨a2,?_⟩,a3,a4⟩
 rcases a2' with h | ⟨g,cap,cur,e,h1,h2⟩
 · exact .inl h
 · exact .inr ⟨g,cap,cur,e,Nat.le_trans hb h1,h2⟩
theorem zAH.push {vs:List Value} (h1:vs.length=l.length) (h3:∀ (j:Nat) (x:zP) (v:Value),l[j]?=some x→vs[j]?=some v→zAY w N v x.2) (h4:∀ v∈vs,∀ a n c,v=.slice (some a) n c→u.ownBlock≠some a.block)
  (hx:zAY w N v x.2) (hne:∀ a n c,v=.slice (some a) n c→u.ownBlock≠some a.block) (hown:w'.ownsRow base tr 2 u' (l.length+1) (blV l vs++[.int .i64 x.1,v])) (hg:w.grownBy w' u.ownBlock) (hs:∀ k,u'.ownBlock=some k→u.ownBlock=some k∨w.heap.size≤k):zAH tr w' base N u' (l++[x]):=by
 have hd:∀ (v:Value) (bs:List UInt8),zAY w N v bs→(∀ a n c,v=.slice (some a) n c→u.ownBlock≠some a.block)→zAY w' N v bs:=by
  intro v bs hd hn
  obtain ⟨d1,a,c,rfl,d2⟩:=hd
  refine ⟨?_,a,c,rfl,fun b hb=>⟨Nat.lt_of_lt_of_le (d2 b hb).1 hg.size,(d2 b hb).2⟩⟩
  exact d1.chg (S:=fun q=>u.ownBlock=some q) (Chg.grown (Chg.refl _ _) hg (fun _ hq=>.inl hq)) (fun a' n' c' e=>by
   have:=hn a' n' c' e
   exact this)
 have hlt:∀ (v:Value) (bs:List UInt8),zAY w N v bs→∀ a n c,v=.slice (some a) n c→a.block < w.heap.size:=by
  intro v bs hd a n c e
  obtain ⟨_,a',c',rfl,d2⟩:=hd
  injection e with e1 _ _
  exact (d2 a e1).1
 refine ⟨vs++[v],by simp [h1],by rw [zJV l vs x v h1,List.length_append];exact hown,fun j x' v' hx' hv'=>?_,fun v' hv' a n c e e2=>?_⟩
 · rcases Nat.lt_or_ge j l.length with hj | hj
   · rw [List.getElem?_append_left hj] at hx'
     rw [List.getElem?_append_left (by omega)] at hv'
     exact hd _ _ (h3 j x' v' hx' hv') (h4 v' (List.mem_of_getElem? hv'))
   · rw [List.getElem?_append_right hj] at hx'
     rw [List.getElem?_append_right (by omega),h1] at hv'
     have hj0:j - l.length=0:=by
      rcases Nat.eq_zero_or_pos (j - l.length) with h | h
      · exact h
      · rw [List.getElem?_eq_none (by simp;omega)] at hx';cases hx'
     rw [hj0] at hx' hv'
     simp at hx' hv'
     subst hx' hv'
     exact hd _ _ hx hne
 · rcases List.mem_append.1 hv' with hv' | hv'
   · obtain ⟨j,hj⟩:=List.mem_iff_getElem?.1 hv'
     have hjl:j < l.length:=by have:=(List.getElem?_eq_some_iff.1 hj).1;omega
     have hq:=hlt _ _ (h3 j l[j] v' (by simp) hj) a n c e
     rcases hs _ e2 with h | h
     · exact h4 v' hv' a n c e h
     · omega
   · rw [List.mem_singleton.1 hv'] at e
     have hq:=hlt _ _ hx a n c e
     rcases hs _ e2 with h | h
     · exact hne a n c e h
     · omega
end
end Go.Mem
namespace Go.Proofs.YtbbojbdigiibbaaGreatDoor
open Go Go.RowKit Go.Mem Gf Lea
theorem one2 (i:Int) (va:Option Addr) (n:Nat) {c:Nat}:∀ u∈[Value.int .i64 i,.slice va n c],u.oneCell'=true:=by
 intro u hu
 simp at hu
 rcases hu with rfl | rfl <;> rfl
theorem EKb:zDV Tryz.prog 41 53 (.agg #[.int .i64 0,.slice none 0 0]) 2 32:=⟨Tryz.underlying41,by kernel_rfl,rfl,by decide⟩
end Go.Proofs.YtbbojbdigiibbaaGreatDoor
namespace Go.Mem
def zF.sharesK (s:zF) (ix:Lea.Key) (k:Nat):List zP:=(List.range k).filterMap fun n=>(s.st.get (zJ ix n)).map fun b=>((n:Int),b)
theorem zF.sharesK_succ (s:zF) (ix:Lea.Key) (k:Nat):s.sharesK ix (k+1)=s.sharesK ix k++((s.st.get (zJ ix k)).map fun b=>((k:Int),b)).toList:=by
 unfold zF.sharesK
 rw [List.range_succ,List.filterMap_append]
 cases h:s.st.get (zJ ix k) <;> simp [h]
def zF.shares (s:zF) (ix:Lea.Key):List zP:=s.sharesK ix 16
theorem zF.sharesK_len (s:zF) (ix:Lea.Key):∀ k,(s.sharesK ix k).length≤k
 | 0=>by simp [zF.sharesK]
 | k+1=>by
   rw [zF.sharesK_succ,List.length_append]
   have:=zF.sharesK_len s ix k
   cases s.st.get (zJ ix k) <;> simp <;> omega
end Go.Mem
namespace Go.Proofs.YtbbojbdigiibbaaGreatDoor
open Go Go.RowKit Go.Mem Gf Lea
attribute [local go_sem ↓] Go.wp_at_zero Go.wp_at_succ
set_option maxRecDepth 100000 in
set_option maxHeartbeats 1000000 in
theorem zDu (C X:Nat→Prop) (pb:Nat) (s:zF) (ix:Key) (hix:ix.length=16) (w:World) (h:zR w C X pb s) :
  Calls Tryz.prog 106 #[.pointer (some ⟨pb,0,none⟩),.agg (bV ix).toArray] w fun e w'=>∃ u,e=.returned u∧zAH 53 w' w.heap.size (fun b=>b < w.heap.size) u (s.shares ix)∧Below w.heap.size w w':=by
 obtain ⟨sb,lb,d,L,tb,v,h⟩:=h
 have H:=Zh h
 have hl:(bV ix).length=16:=by rw [zB];exact hix
 have HB:=Zh ((Below.refl w.heap.size w).alloc (Nat.le_refl _) (.cells (bV ix).toArray 39))
 have HK:=Zh (Blk.new w (bV ix).toArray 39)
 have HX:=Zh hix
 obtain ⟨ck,hck⟩:∃ c,c=bV ix:=⟨_,rfl⟩
 have HCK:=Zh hck
 rw [← hck] at hl HB HK ⊢
 have hu16:=Tryz.underlying39
 have hi16:(Tryz.prog.info? 39).map (·.size)=some ck.length:=by rw [hl];exact i16
 clear h hix hck
 go_enter Tryz.func106,Tryz.ntmps106
 go_upto_region 3 with fail
 obtain ⟨p3,hp3⟩:∃ p,p=w.heap.size:=⟨_,rfl⟩
 rw [← hp3] at HK ⊢
 have HP:=Zh hp3
 clear hp3
 go_loopw [5,9] (fun u vi wr=>∃ i:Nat,i≤16∧vi=.int .i64 i∧Hid (zAH 53 wr (w.heap.size+1) (fun b=>b < w.heap.size) u (s.sharesK ix i)∧Below w.heap.size w wr∧Blk wr p3 ck.toArray 39)) (fun _ vi _=>16 - (intOf vi).toNat)
 case atStart=>exact ⟨0,by omega,rfl,zAH.nil _ _ _ _,HB.o,HK.o⟩
 case round =>
  obtain ⟨i,hi,rfl,G⟩:=hrel
  by_cases h0:i < 16
  · have c3:wr.drew.cell? ⟨pb,3,none⟩=some (.pointer (some ⟨sb,0,none⟩)):=(H.o.below G.o.2.1).blk.cell 3
    have r3:wr.drew.rangeAt p3 0 ck:=fun j v hj=>by
     rw [(G.o.2.2.drew).cell,Nat.zero_add]
     simpa using hj
    go_upto_region 5 with fail
    go_region_held3 (fun w'=>w'.cell? ⟨pb,3,none⟩=some (.pointer (some ⟨sb,0,none⟩))∧w'.rangeAt p3 0 ck) (first | exact ⟨c3,r3⟩ | with_reducible assumption)
     (first
      | (go_at_call 107
         refine (show Calls _ _ _ _ _ from (by rw [HCK.o];exact zEU ix HX.o i h0 wr.drew)).mono ?_
         rintro e w2 ⟨rfl,hb2⟩
         have hb2:Below wr.heap.size wr w2:=zA2 hb2
         have hh:w2.cell? ⟨pb,3,none⟩=some (.pointer (some ⟨sb,0,none⟩))∧w2.rangeAt p3 0 ck:=⟨((H.o.below G.o.2.1).below hb2).blk.cell 3,fun j v hj=>by
          rw [(G.o.2.2.kept hb2).cell,Nat.zero_add]
          simpa using hj⟩
         have HB2:=Zh hb2
         clear hb2)
      | (go_at_call 57
         refine (zCM _ sb lb d L s.st (zJ ix i) w2 ((H.o.below G.o.2.1).below HB2.o).st).mono ?_
         rintro e w4 ⟨hb4,vg,rfl,hvg⟩
         have HG:=Zh (Zi hb4 hvg)
         have hh:w4.cell? ⟨pb,3,none⟩=some (.pointer (some ⟨sb,0,none⟩))∧w4.rangeAt p3 0 ck:=⟨(((H.o.below G.o.2.1).below HB2.o).below hb4).blk.cell 3,fun j v hj=>by
          rw [((G.o.2.2.kept HB2.o).kept hb4).cell,Nat.zero_add]
          simpa using hj⟩
         clear hb4 hvg))
    have hsucc:=s.sharesK_succ ix i
    have hlen:=s.sharesK_len ix i
    have hb24:Below w.heap.size w w4:=(G.o.2.1.trans (HB2.o.mono G.o.2.1.size)).trans (HG.o.1.mono (Nat.le_trans G.o.2.1.size HB2.o.size))
    have hk4:=(G.o.2.2.kept HB2.o).kept HG.o.1
    have hO4:=(G.o.1.below HB2.o).below HG.o.1
    cases hget:s.st.get (zJ ix i) with
    | none =>
      rw [hget,Option.map_none,Option.toList_none,List.append_nil] at hsucc
      have HS:=Zh (Zi hsucc (Zi hb24 (Zi hk4 hO4)))
      clear hsucc hlen hb24 hk4 hO4 hget c3 r3 hh
      rw [Option.isSome_none]
      go_wp2_with fail
      exact ⟨⟨i+1,by omega,by simp,by rw [HS.o.1];exact HS.o.2.2.2,HS.o.2.1,HS.o.2.2.1⟩,by show 16 - ((i:Int)+1).toNat < 16 - (i:Int).toNat;omega⟩
    | some bs =>
      have hvg:=HG.o.2
      rw [hget,Option.getD_some] at hvg
      rw [hget,Option.map_some,Option.toList_some] at hsucc
      obtain ⟨va,vc,rfl⟩:=hvg.eq_slice
      have hd:zAY w4 (fun b=>b < w.heap.size) (.slice va bs.length vc) bs:=hvg.data fun b hb _=>by have:=Nat.le_trans G.o.2.1.size HB2.o.size;omega
      have hdn:∀ a n c,Value.slice va bs.length vc=.slice (some a) n c→u5.ownBlock≠some a.block:=fun a n c e e2=>by
       injection e with e1 _ _
       have h1:=(hvg.lt a.block (by rw [e1];simp [Value.ownBlock])).1
       have h2:=(G.o.1.lt _ e2).2
       have:=HB2.o.size
       omega
      obtain ⟨ua,uc,rfl,_⟩:=hO4.slice
      have HS:=Zh (Zi hsucc (Zi hb24 (Zi hk4 (Zi hO4 (Zi hd hdn)))))
      clear hsucc hb24 hk4 hO4 hget hvg hd hdn c3 r3 hh
      rw [Option.isSome_some]
      have hz4:w.heap.size≤w4.heap.size:=HS.o.2.1.size
      have HZ:=Zh (show w.heap.size+1≤w4.heap.size from by have:=HS.o.2.2.1.lt;have:=HP.o;omega)
      obtain ⟨vs,g1,g2,g3,g4⟩:=(HS.o.2.2.2.1.below ((Below.refl w4.heap.size w4).alloc (Nat.le_refl _) (.cells #[.int .i64 i,.slice va bs.length vc] 53)))
      have HV:=Zh (Zi g1 (Zi g2 (Zi g3 g4)))
      clear g1 g2 g3 g4
      go_wp2_with
       (first
        | (refine zCl (by rfl) (fun _ hK=>zJK EKb _ _ (by rfl) (base:=w.heap.size+1) [.int .i64 i,.slice va bs.length vc] (by rfl) (by rfl) (by rfl) (zER (by rfl)) (one2 _ _ _) HV.o.2.1 (by omega) (by decide) (by have:=HZ.o;simp;omega) hK) ?_
           intro x1 w6 hx1
           have H6:=Zh hx1
           clear hx1)
        | fail)
      have hrow:=zAH.push (x:=((i:Int),bs)) HV.o.1 HV.o.2.2.1 HV.o.2.2.2 (HS.o.2.2.2.2.1.chg (S:=fun _=>False) (Chg.of_below ((Below.refl w4.heap.size w4).alloc (Nat.le_refl _) _)) (fun _ h=>h.elim)) HS.o.2.2.2.2.2 H6.o.1 H6.o.2.1 H6.o.2.2
      have hb6:=zl (HS.o.2.1.alloc hz4 (.cells #[.int .i64 i,.slice va bs.length vc] 53)) H6.o.2.1 (fun k hk=>by have:=(G.o.1.lt k hk).1;omega)
      have hk6:=Blk.grown' (HS.o.2.2.1.alloc (.cells #[.int .i64 i,.slice va bs.length vc] 53)) H6.o.2.1 (fun e=>by have:=G.o.1.lt _ e;have:=HP.o;omega)
      exact ⟨⟨i+1,by omega,by simp,by rw [HS.o.1];exact hrow,hb6,hk6⟩,by show 16 - ((i:Int)+1).toNat < 16 - (i:Int).toNat;omega⟩
  · have hsh:s.sharesK ix i=s.shares ix:=by unfold zF.shares;congr 1;omega
    have HSH:=Zh hsh
    clear hsh
    go_wp2_with fail
    go_ret
    exact ⟨_,rfl,by rw [← HSH.o];exact G.o.1.lower (by omega),G.o.2.1⟩
end Go.Proofs.YtbbojbdigiibbaaGreatDoor
end
section
namespace Lea
open Go
def zf (l:List Sec):List UInt8:=l.flatMap fun s=>Cod.zBE [s.1,Cod.be 4 s.2.toNat]
theorem zM0 (l:List Sec) (s:Sec):zf (l++[s])=zf l++Cod.zBE [s.1,Cod.be 4 s.2.toNat]:=by
 unfold zf
 rw [List.flatMap_append,List.flatMap_cons,List.flatMap_nil,List.append_nil]
end Lea
namespace Go.Proofs.YtbbojbdigiibbaaGreatDoor
open Go Go.RowKit Go.Mem Gf Lea
theorem zHN (k:Key) (h:k.length=16) (n:Nat):(Cod.zBE [k,Cod.be 4 n]).length≤48:=by
 have h1:Lib.nDigits 16≤9:=by have:=dec_len 16 (by omega);rw [Lib.itoa_nonneg,Lib.decDigits_length] at this;exact this
 have h2:Lib.nDigits 4≤9:=by have:=dec_len 4 (by omega);rw [Lib.itoa_nonneg,Lib.decDigits_length] at this;exact this
 simp only [Cod.zBE,List.length_append,Cod.zCT,Cod.zAV,List.length_nil,h]
 omega
theorem zDf (l:List Sec) (h:∀ s∈l,s.1.length=16):(zf l).length≤48*l.length:=by
 induction l with
 | nil=>simp [zf]
 | cons s l ih =>
   have h1:=ih (fun x hx=>h x (by simp [hx]))
   have h2:=zHN s.1 (h s (by simp)) s.2.toNat
   unfold zf at *
   rw [List.flatMap_cons,List.length_append,List.length_cons]
   omega
theorem rws2 {w:World} {g:Nat} {t:TypeId} {v1 v2:Value} {b1 b2:List UInt8} (h:Blk w g #[v1,v2] t) (h1:Bys w v1 b1) (h2:Bys w v2 b2):Rws w (.slice (some ⟨g,0,none⟩) 2 2) [b1,b2]:=by
 refine ⟨_,2,rfl,by simp,by decide,fun _=>⟨g,0,rfl,fun k r hk=>?_⟩⟩
 rw [Nat.zero_add]
 match k,hk with
 | 0,hk=>simp at hk;subst hk;exact ⟨v1,by rw [h.cell];rfl,h1⟩
 | 1,hk=>simp at hk;subst hk;exact ⟨v2,by rw [h.cell];rfl,h2⟩
 | k+2,hk=>simp at hk
attribute [local go_sem ↓] Go.wp_at_zero Go.wp_at_succ
attribute [local go_sem ↓] zBZ zCZ
attribute [local go_sem] ptrB_eq ptrO_eq ptrIs_eq aggL_eq aggIs_eq zT zg zC zG zZ ze zX zH zK
set_option maxRecDepth 100000 in
set_option maxHeartbeats 1000000 in
theorem zLX (w:World) (base:Nat) (v:Value) (l:List Sec) (h:zAb zAn WfL 17 165 w base v l) (he:∀ s∈l,0≤s.2∧s.2≤1048576) (hl:l.length≤1000) (hT:Tab w) :
  Calls Tryz.prog 110 #[v] w fun e w'=>∃ vo,e=.returned vo∧zBj 5 w' w.heap.size vo (zf l)∧Below w.heap.size w w':=by
 obtain ⟨p,c,rfl⟩:=h.slice
 obtain ⟨n,hn⟩:∃ n,n=l.length:=⟨_,rfl⟩
 have hrow:0 < n→∃ g,p=some ⟨g,0,none⟩∧zAt zAn WfL 17 165 w base g n c l:=fun h0=>by
  obtain ⟨g,cap,e,hr⟩:=h.ex (by omega)
  injection e with ea en ec
  rw [← ec,← hn] at hr
  exact ⟨g,ea,hr⟩
 rw [← hn] at hl ⊢
 have H:=Zh (Zi hrow (Zi hn (Zi he hT)))
 clear h hrow hn he hT
 go_enter Tryz.func110,Tryz.ntmps110
 go_upto_region 3 with fail
 go_loopw [3,8] (fun v3 vi wr=>∃ i:Nat,i≤n∧vi=.int .i64 i∧Hid (zBj 5 wr w.heap.size v3 (zf (l.take i))∧Below w.heap.size w wr)) (fun _ vi _=>n - (intOf vi).toNat)
 case atStart=>exact ⟨0,Nat.zero_le _,rfl,World.ownsRow_nil _ _ _ _,Below.refl _ _⟩
 case round =>
  obtain ⟨i,hi0,rfl,G⟩:=hrel
  by_cases hin:i < n
  · obtain ⟨g,rfl,hr0⟩:=H.o.1 (by omega)
    have hr:=hr0.chg (S:=fun _=>False) (Chg.of_below G.o.2) (fun h=>h)
    have hx:l[i]?=some (l[i]'(by have:=H.o.2.1;omega)):=by simp
    generalize l[i]'(by have:=H.o.2.1;omega)=x at hx
    have wx:=hr.wf x (List.mem_of_getElem? hx)
    have hxe:=H.o.2.2.1 x (List.mem_of_getElem? hx)
    have rx:=hr.read ecL hx
    have t1:zW 17 wr g (i*17):=hr.there hin
    have ax:=zJP wx
    have lx:=ecL.len x wx
    have gl:g < wr.heap.size:=hr.lt
    have i0:(0:Int)≤(i:Int):=by omega
    have i1:(i:Int) < (n:Int):=by omega
    obtain ⟨m,hm⟩:∃ m:Nat,m=x.2.toNat:=⟨_,rfl⟩
    have hm2:x.2=(m:Int):=by omega
    have ce:=zJ6 wx
    rw [hm2] at ce
    have hsec:=fun (k:Nat) (u:UInt8) (hk:x.1[k]?=some u)=>zG6 hk
    have hp1:zf (l.take (i+1))=zf (l.take i)++Cod.zBE [x.1,Cod.be 4 m]:=by rw [List.take_add_one,hx,Option.toList_some,zM0,hm]
    have hpl:(zf (l.take i)).length≤48000:=by
     have:=zDf (l.take i) (fun s hs=>hr.wf s (List.mem_of_mem_take hs))
     rw [List.length_take] at this
     omega
    obtain ⟨cl,hcl⟩:∃ c,c=zAn x:=⟨_,rfl⟩
    rw [← hcl] at rx ax lx ce
    have hmb:m≤1048576:=by omega
    have HX:=Zh (Zi wx (Zi hcl (Zi hsec (Zi hp1 hpl))))
    clear hr0 hr hx hxe hm hm2 hcl hsec hp1 hpl wx
    go_upto_region 5 with fail
    have hW1:Blk (wr.alloc (.cells cl.toArray 165)) wr.heap.size cl.toArray 165:=Blk.new _ _ _
    have hB1:Below wr.heap.size wr (wr.alloc (.cells cl.toArray 165)):=(Below.refl _ _).alloc (Nat.le_refl _) _
    obtain ⟨W1,hw1⟩:∃ W,W=wr.alloc (.cells cl.toArray 165):=⟨_,rfl⟩
    obtain ⟨p5,hp5⟩:∃ q,q=wr.heap.size:=⟨_,rfl⟩
    rw [← hw1] at hW1 hB1 ⊢
    rw [← hp5] at hW1 ⊢
    have HW:=Zh (Zi hW1 (Zi hB1 hp5))
    clear hw1 hp5 hW1 hB1
    have c16:W1.cell? ⟨p5,16,none⟩=some (.int .i64 m):=by rw [HW.o.1.cell 16];exact ce
    go_region_law
     (first
      | (refine zHz E8c (by rfl) _ _ (by rfl) (base:=w.heap.size) (v:=u3) (xv:=v3) (bs:=zf (l.take i)) (news:=Cod.zBE [x.1,Cod.be 4 m]) (by rfl) (by rfl) (zAl (S:=fun _=>False) HY.o.1 (Chg.of_below HZ.o.2) (fun _ _ h=>h)) HZ.o.1.bys (by have:=zHN x.1 HX.o.1 m;have:=HX.o.2.2.2.2;omega) (Nat.le_trans G.o.2.size (Nat.le_trans HY.o.2.2.2.2.size HZ.o.2.size)) ?_
         intro v4 x4 hv4 hg4
         have HV:=Zh (Zi hv4 hg4)
         clear hv4 hg4)
      | (go_simp
         go_at_call 159
         refine (zKT m 4 (by omega) (by decide) (by decide) W1.drew).mono ?_
         rintro e w' ⟨vo,rfl,h2,h3⟩
         obtain ⟨pa,pc,rfl⟩:=h2.eq_slice
         have h3':Below W1.heap.size W1 w':=⟨h3.os,h3.tape,h3.output,h3.size,h3.block⟩
         have hbW:Below wr.heap.size wr w':=HW.o.2.1.trans (h3'.mono HW.o.2.1.size)
         have hO':=zAl (S:=fun _=>False) G.o.1 (Chg.of_below hbW) (fun _ _ h=>h)
         have hT':=H.o.2.2.2.below (G.o.2.trans (hbW.mono G.o.2.size))
         have hby1:Bys w' (.slice (some ⟨p5,0,none⟩) 16 16) x.1:=by
          have:=Blk.bys (HW.o.1.kept h3') (bs:=x.1) (cap:=16) (by rw [HX.o.1];omega) (by decide) (fun k u hk=>by rw [HX.o.2.1];simpa using HX.o.2.2.1 k u hk)
          rwa [HX.o.1] at this
         have HY:=Zh (Zi hO' (Zi hT' (Zi hby1 (Zi h2.bys hbW))))
         rw [Cod.zAV] at HY ⊢
         clear h2 h3 h3' hO' hT' hby1 hbW)
      | (go_simp
         go_at_call 158
         refine (zDs _ [x.1,Cod.be 4 m] _ (HY.o.2.1.below ((Below.refl w'.heap.size w').alloc (Nat.le_refl _) _)) (rws2 (Blk.new _ _ _) (HY.o.2.2.1.below ((Below.refl w'.heap.size w').alloc (Nat.le_refl _) _)) (HY.o.2.2.2.1.below ((Below.refl w'.heap.size w').alloc (Nat.le_refl _) _))) (by have:=zHN x.1 HX.o.1 m;omega)).mono ?_
         rintro e w3 ⟨v3,rfl,h3,hb3⟩
         have hb4:Below w'.heap.size w' w3:=((Below.refl w'.heap.size w').alloc (Nat.le_refl _) _).trans (hb3.mono (by simp))
         have HZ:=Zh (Zi h3 hb4)
         clear h3 hb3 hb4))
    all_goals go_wp2_with fail
    refine ⟨⟨i+1,by omega,by simp,by rw [HX.o.2.2.2.1];exact HV.o.1,?_⟩,by show n - ((i:Int)+1).toNat < n - (i:Int).toNat;omega⟩
    have hb5:Below w.heap.size w w3:=(G.o.2.trans (HY.o.2.2.2.2.mono G.o.2.size)).trans (HZ.o.2.mono (Nat.le_trans G.o.2.size HY.o.2.2.2.2.size))
    exact (Chg.grown (S:=fun k=>w.heap.size≤k) (Chg.of_below hb5) HV.o.2 (fun q hq=>.inl (G.o.1.lt _ hq).1)).below (Nat.le_refl _) (fun _ h=>h)
  · go_wp2_with fail
    go_ret
    have:=G.o.1
    rw [List.take_of_length_le (by have:=H.o.2.1;omega)] at this
    exact ⟨_,rfl,this,G.o.2⟩
end Go.Proofs.YtbbojbdigiibbaaGreatDoor
namespace Go.Proofs.YtbbojbdigiibbaaGreatDoor
open Go Go.RowKit Go.Mem Gf Lea
theorem zN2 (a b r:List UInt8):Cod.zBE [a,b]++r=Cod.net a++(Cod.net b++r):=by simp [Cod.zBE]
theorem zLW (s:Sec) (l:List Sec):zf (s::l)=Cod.net s.1++(Cod.net (Cod.be 4 s.2.toNat)++zf l):=by
 unfold zf
 rw [List.flatMap_cons,zN2]
theorem zFt {w:World} {b o n c:Nat} {bs:List UInt8} (h:Bys w (.slice (some ⟨b,o,none⟩) n c) bs):w.rangeAt b o (bV bs):=fun j v hv=>by
 rw [zA0] at hv
 cases hu:bs[j]? with
 | none=>rw [hu] at hv;cases hv
 | some u =>
   rw [hu] at hv
   obtain ⟨a',c',e,_,_,h3⟩:=h
   injection e with e1 _ _
   obtain ⟨b',o',e',hc⟩:=h3 (by have:=zh hu;omega)
   rw [← e1] at e'
   injection e' with e'
   injection e' with e1 e2
   subst e1
   subst e2
   rw [hc j u hu]
   simpa using hv
theorem zCU (b o c:Nat) (w:World):(Instr.arrayAt 39 (.slice (some ⟨b,o,none⟩) 16 c)).run Tryz.prog w=.ok (.pointer (some ⟨b,o,none⟩)) w:=by kernel_rfl
def zL9:Value→Nat
 | .slice _ n _=>n
 | _=>0
attribute [local go_sem ↓] Go.wp_at_zero Go.wp_at_succ
attribute [local go_sem ↓] zEf zED zDG
attribute [local go_sem] zCU ptrB_eq ptrO_eq ptrIs_eq aggL_eq aggIs_eq zT zCP zC
set_option maxRecDepth 100000 in
set_option maxHeartbeats 1000000 in
theorem zJJ (w:World) (v:Value) (l:List Sec) (h:Bys w v (zf l)) (hw:∀ s∈l,WfL s∧0≤s.2∧s.2≤1048576) (hl:l.length≤1000) :
  Calls Tryz.prog 99 #[v] w fun e w'=>∃ vo,e=.returned (.tuple #[vo,.bool true])∧zAb zAn WfL 17 165 w' w.heap.size vo l∧Below w.heap.size w w':=by
 obtain ⟨va,vc,e0⟩:=h.eq_slice
 obtain ⟨n,hn⟩:∃ n,n=l.length:=⟨_,rfl⟩
 have H:=Zh (Zi h (Zi hn hw))
 rw [← hn] at hl
 have E0:=Zh e0
 clear h hn hw e0
 go_enter Tryz.func99,Tryz.ntmps99
 go_upto_region 2 with fail
 go_loopw [0,4] (fun v0 v4 wr=>∃ i:Nat,i≤n∧Hid (Bys wr v0 (zf (l.drop i))∧zAb zAn WfL 17 165 wr w.heap.size v4 (l.take i)∧Below w.heap.size w wr∧zL9 v4=i)) (fun _ v4 _=>n - zL9 v4)
 case atStart=>exact ⟨0,Nat.zero_le _,H.o.1,zAb.nil _ _ _ _ _ _,Below.refl _ _,rfl⟩
 case round =>
  obtain ⟨i,hi0,G⟩:=hrel
  obtain ⟨ba,bc,eb⟩:=G.o.1.eq_slice
  by_cases hin:i < n
  · have hx:l[i]?=some (l[i]'(by have:=H.o.2.1;omega)):=by simp
    generalize l[i]'(by have:=H.o.2.1;omega)=x at hx
    have hwx:=H.o.2.2 x (List.mem_of_getElem? hx)
    obtain ⟨m,hm⟩:∃ m:Nat,m=x.2.toNat:=⟨_,rfl⟩
    have hm2:x.2=(m:Int):=by omega
    have hmb:m≤1048576:=by omega
    have hpk:zf (l.drop i)=Cod.net x.1++(Cod.net (Cod.be 4 m)++zf (l.drop (i+1))):=by
     have:l.drop i=x::l.drop (i+1):=by
      have hi:=zh hx
      rw [List.drop_eq_getElem_cons hi]
      rw [List.getElem?_eq_getElem hi] at hx
      cases hx;rfl
     rw [this,zLW,hm]
    have hlen:(zf (l.drop i)).length≤48000:=by
     have:=zDf (l.drop i) (fun s hs=>(H.o.2.2 s (List.mem_of_mem_drop hs)).1)
     rw [List.length_drop] at this
     have:=H.o.2.1
     omega
    have hpos:0 < (zf (l.drop i)).length:=by
     rw [hpk,List.length_append,Cod.zCT]
     omega
    obtain ⟨k,hk⟩:∃ k,k=(zf (l.drop i)).length:=⟨_,rfl⟩
    rw [← hk] at eb hlen hpos
    have HX:=Zh (Zi hx (Zi hwx (Zi hm2 (Zi hpk hk))))
    have d0:decide ((0:Int) < (k:Int))=true:=by simp;omega
    have d0':decide (0 < k)=true:=by simp;omega
    subst eb
    clear hx hwx hm hm2 hpk hk hpos
    go_wp2_with fail
    have h1:=zCQ _ (zf (l.drop i)) x.1 (Cod.net (Cod.be 4 m)++zf (l.drop (i+1))) wr G.o.1 (by rw [← HX.o.2.2.2.2];omega) (by rw [HX.o.2.2.2.1];exact Cod.zBF _ _ (by rw [HX.o.2.1.1];omega))
    refine h1.mono ?_
    rintro r w3 ⟨vx,vy,rfl,hX,hY,hB3⟩
    obtain ⟨xa,xc,rfl⟩:=hX.eq_slice
    obtain ⟨ya,yc,rfl⟩:=hY.eq_slice
    have HX3:=Zh (Zi hX.bys (Zi hY.bys hB3))
    rw [HX.o.2.1.1] at HX3 ⊢
    clear h1 hX hY hB3
    obtain ⟨q,hq⟩:∃ q,q=(Cod.net (Cod.be 4 m)++zf (l.drop (i+1))).length:=⟨_,rfl⟩
    rw [← hq] at HX3 ⊢
    have HQ:=Zh hq
    clear hq
    obtain ⟨xb,xo,rfl⟩:∃ b o,xa=some ⟨b,o,none⟩:=by
     obtain ⟨a',c',e,_,_,h3⟩:=HX3.o.1
     obtain ⟨b,o,e',_⟩:=h3 (by rw [HX.o.2.1.1];omega)
     injection e with e1 _ _
     exact ⟨b,o,by rw [e1,e']⟩
    go_wp2_with fail
    have hqn:q≤60000:=by
     rw [HQ.o]
     have:=HX.o.2.2.2.1
     have h2:=HX.o.2.2.2.2
     rw [this,List.length_append] at h2
     omega
    refine (zCQ _ _ (Cod.be 4 m) (zf (l.drop (i+1))) w3 HX3.o.2.1 (by rw [← HQ.o];omega) (Cod.zBF _ _ (by rw [Cod.zAV];omega))).mono ?_
    rintro r w4 ⟨vx,vy,rfl,hX,hY,hB4⟩
    obtain ⟨aa,ac,rfl⟩:=hX.eq_slice
    obtain ⟨ra,rc,rfl⟩:=hY.eq_slice
    rw [Cod.zAV] at hX ⊢
    obtain ⟨k2,hk2⟩:∃ q,q=(zf (l.drop (i+1))).length:=⟨_,rfl⟩
    rw [← hk2] at hY ⊢
    have hrng:=zFt (HX3.o.1.below hB4)
    have hlb:(bV x.1).length=16:=by rw [zB];exact HX.o.2.1.1
    have s4:zBh 16 w4 xb xo:=zC8 hrng hlb
    have r4:zN 16 w4 xb xo=bV x.1:=zA3 hrng hlb
    have HX4:=Zh (Zi hX.bys (Zi hY (HX3.o.2.2.trans (hB4.mono HX3.o.2.2.size))))
    clear hX hY hB4 hrng hk2
    go_wp2_with fail
    refine (zF0 _ (Cod.be 4 m) w4 HX4.o.1 (by rw [Cod.zAV];omega)).mono ?_
    rintro r w5 ⟨rfl,rfl⟩
    rw [Cod.zIt 4 m (by omega)]
    have wy:WfL (x.1,(m:Int)):=HX.o.2.1.1
    have ay:=zJP wy
    obtain ⟨cy,hcy⟩:∃ c,c=zAn (x.1,(m:Int)):=⟨_,rfl⟩
    have f1:(bV x.1).toArray.push (.int .i64 (m:Int))=cy.toArray:=by rw [hcy];unfold zAn;simp
    have f2:(bV x.1).toArray++#[.int .i64 (m:Int)]=cy.toArray:=by rw [hcy];unfold zAn;simp
    have f3:bV x.1++[.int .i64 (m:Int)]=cy:=by rw [hcy];rfl
    rw [← hcy] at ay
    have HCY:=Zh hcy
    clear hcy
    have HO4:=Zh (G.o.2.1.chg (S:=fun _=>False) (Chg.of_below HX4.o.2.2) (fun _ _ h=>h))
    go_wp2_with
     (first
      | (refine zBW EKl ecL (by rfl) _ _ (by rfl) (base:=w.heap.size) (l:=l.take i) (cx:=1) (e':=165) (x.1,(m:Int)) wy (by rfl) (by rfl) (by rw [← HCY.o];exact Blk.new_at _ _ _ _ (by simp)) (HO4.o.chg (S:=fun _=>False) (Chg.of_below ((Below.refl _ _).alloc (Nat.le_refl _) _)) (fun _ _ h=>h)) (by rw [List.length_take];omega) (by decide) (by have:=G.o.2.2.1.size;have:=HX4.o.2.2.size;simp;omega) ?_
         intro v1 x1 hv1 hg1 hs1
         have HV1:=Zh (Zi hv1 hg1)
         clear hv1 hg1 hs1)
      | fail)
    have hBW:Below w4.heap.size w4 (w4.alloc (.cells cy.toArray 165)):=(Below.refl _ _).alloc (Nat.le_refl _) _
    have hu:∀ g,u4.ownBlock=some g→w.heap.size≤g∧g < w3.heap.size:=fun g e=>by
     have h1:=G.o.2.1.own.lt _ e
     have h2:=HX3.o.2.2.size
     omega
    have hCW:Chg (fun b=>u4.ownBlock=some b) w4 x1:=Chg.grown (Chg.of_below hBW) HV1.o.2 (fun q hq=>.inl hq)
    have hxm:(x.1,(m:Int))=x:=by rw [← HX.o.2.2.1]
    have hlv:zL9 v1=i+1:=by
     obtain ⟨_,_,e⟩:=HV1.o.1.slice
     rw [e]
     show (l.take i++[(x.1,(m:Int))]).length=i+1
     rw [List.length_append,List.length_take,List.length_singleton]
     have:=H.o.2.1
     omega
    refine ⟨⟨i+1,by omega,(HX4.o.2.1.chg hCW (fun g e1 e2=>?_)).bys,?_,?_,hlv⟩,?_⟩
    · have h1:=(HX4.o.2.1.lt _ e1).1
      have h2:=(hu g e2).2
      omega
    · have:=HV1.o.1
      rw [hxm] at this
      rw [List.take_add_one,HX.o.1]
      exact this
    · have h4:Below w.heap.size w w4:=G.o.2.2.1.trans (HX4.o.2.2.mono G.o.2.2.1.size)
      exact ((Chg.of_below (S:=fun k=>w.heap.size≤k) h4).mix hCW (fun k hk=>.inl (hu k hk).1)).below (Nat.le_refl _) (fun _ h=>h)
    · rw [hlv,G.o.2.2.2]
      omega
  · have hfull:l.take i=l:=List.take_of_length_le (by have:=H.o.2.1;omega)
    have hnil:zf (l.drop i)=[]:=by rw [List.drop_of_length_le (by have:=H.o.2.1;omega)];rfl
    rw [hnil] at eb
    have HF:=Zh hfull
    clear hfull hnil
    subst eb
    go_wp2_with fail
    go_ret2
    exact ⟨_,rfl,by rw [← HF.o];exact G.o.2.1,G.o.2.2.1⟩
end Go.Proofs.YtbbojbdigiibbaaGreatDoor
namespace Go.Proofs.YtbbojbdigiibbaaGreatDoor
open Go Go.RowKit Go.Mem Gf Lea
theorem zIg (v1 v2:Value) (bs:List UInt8) (w:World) (h1:Bys w v1 bs) (h2:Bys w v2 bs):Calls Tryz.prog 102 #[v1,v2] w fun e w'=>e=.returned (.bool true)∧w'=w:=by
 refine (Tryz.bytes_Equal_strs v1 v2 ⟨bs.toArray⟩ ⟨bs.toArray⟩ w (zBX h1) (zBX h2)).mono ?_
 rintro e w' ⟨rfl,rfl⟩
 exact ⟨by simp,rfl⟩
attribute [local go_sem ↓] Go.wp_at_zero Go.wp_at_succ
attribute [local go_sem ↓] zJ9 zAN zBZ zCZ
attribute [local go_sem] ptrB_eq ptrO_eq ptrIs_eq aggL_eq aggIs_eq zT zg zC zG zZ ze zX zH zK
set_option maxRecDepth 100000 in
set_option maxHeartbeats 1000000 in
theorem zDK (w:World) (tb:Nat) (v:Value) (l:List Les) (ix:Key) (h:LTab w tb v l) (hl:l.length≤90000) (hix:ix.length=16) (h8:(ofL l ix).length≤12) (hg:∀ x∈l,May x.e) (hT:Tab w) :
  Calls Tryz.prog 63 #[.pointer (some ⟨tb,0,none⟩),.agg (bV ix).toArray] w fun e w'=>∃ vo out,e=.returned vo∧zBj 5 w' w.heap.size vo (zf out)∧OfR l ix out∧Below w.heap.size w w':=by
 have H:=Zh (Zi h (Zi hg hT))
 have k1:=(zAS hix).1
 have k2:=(zAS hix).2
 have HB:Hid (Below w.heap.size w (w.alloc (.cells (bV ix).toArray 39))):=(Below.refl _ _).alloc (Nat.le_refl _) _
 clear h hg hT
 go_enter Tryz.func63,Tryz.ntmps63
 go_wp2_with fail
 refine (zCY _ tb v l ix (H.o.1.below HB.o) (by omega) hix h8).mono ?_
 rintro r w1 ⟨vo,out,rfl,hO,hR,hB1⟩
 have hb1:=HB.o.trans (hB1.mono HB.o.size)
 have hlen:out.length≤12:=by rw [hR.perm.length_eq];exact h8
 have HO:=Zh (Zi hO (Zi hR hb1))
 clear hO hR hB1 hb1
 go_wp2_with fail
 refine (zLX w1 _ vo out HO.o.1 (fun s hs=>?_) (by omega) (H.o.2.2.below HO.o.2.2)).mono ?_
 · obtain ⟨x,hx,_,e⟩:=zCS.1 (HO.o.2.1.perm.mem_iff.1 hs)
   have:=H.o.2.1 x hx
   rw [← e]
   unfold May at this
   simp only
   omega
 rintro r w2 ⟨vb,rfl,hb,hB2⟩
 have HP:=Zh (Zi hb hB2)
 clear hb hB2
 go_wp2_with fail
 go_ret
 have hlo:=HP.o.1
 refine ⟨vb,out,rfl,⟨hlo.1,?_⟩,HO.o.2.1,HO.o.2.2.trans (HP.o.2.mono HO.o.2.2.size)⟩
 rcases hlo.2 with e | ⟨g,cap,cur,e1,h1,h2⟩
 · exact .inl e
 · exact .inr ⟨g,cap,cur,e1,Nat.le_trans HO.o.2.2.size h1,h2⟩
def zBY (ix:Key) (l:List Sec):List Les:=l.map fun s=>⟨ix,s.1,s.2⟩
theorem zF7 (lt:List Les) (ix:Key) (l:List Sec) (hlt:∀ y∈lt,y.ix≠ix):ofL (lt++zBY ix l) ix=l:=by
 rw [zEi,zBe.2 hlt,List.nil_append]
 unfold ofL zBY
 rw [List.filter_eq_self.2 (fun x hx=>by
  obtain ⟨s,_,rfl⟩:=List.mem_map.1 hx
  simp),List.map_map]
 exact (List.map_congr_left (fun s _=>rfl)).trans (List.map_id l)
theorem zOJ {L lt:List Les} {ix:Key} {l:List Sec} {i:Nat} {x:Sec} (hL:L.Perm (lt++zBY ix (l.take i))) (hlt:∀ y∈lt,y.ix≠ix) (hx:l[i]?=some x) (hnd:(l.map (·.1)).Nodup):zEA L ix x.1:=fun y hy ⟨e1,e2⟩=>by
 have hi:=zh hx
 rcases List.mem_append.1 (hL.mem_iff.1 hy) with hy | hy
 · exact hlt y hy e1
 · obtain ⟨s,hs,rfl⟩:=List.mem_map.1 hy
   obtain ⟨j,hj⟩:=List.mem_iff_getElem?.1 hs
   rw [List.getElem?_take] at hj
   split at hj
   · rename_i hji
     have e:(l.map (·.1))[j]?=(l.map (·.1))[i]?:=by
      rw [List.getElem?_map,List.getElem?_map,hj,hx]
      simpa using e2
     have:=(List.getElem?_inj (by rw [List.length_map];omega) hnd).1 e
     omega
   · cases hj
theorem zMA {L l' lt:List Les} {ix:Key} {l:List Sec} {i:Nat} {x:Sec} {b:Bool} (hL:L.Perm (lt++zBY ix (l.take i))) (hlt:∀ y∈lt,y.ix≠ix) (hx:l[i]?=some x) (hnd:(l.map (·.1)).Nodup) (hl8:l.length≤8) (hm:May x.2) (h:zBk L ix x.1 x.2 b l') :
  b=true∧l'.Perm (lt++zBY ix (l.take (i+1))):=by
 have hi:=zh hx
 have hk:zEA L ix x.1:=zOJ hL hlt hx hnd
 have hc:(ofL L ix).length < 8:=by
  rw [(zBl hL ix).length_eq,zF7 _ _ _ hlt,List.length_take]
  omega
 cases h with
 | no h=>exact absurd h (by rintro (h | ⟨_,h⟩);exact h hm;omega)
 | more k y _ _ hy h1 h2 _=>exact absurd ⟨h1,h2⟩ (hk y (List.mem_of_getElem? hy))
 | new _ _ _ _ hp =>
   refine ⟨rfl,hp.trans ?_⟩
   rw [List.take_add_one,hx]
   unfold zBY
   rw [Option.toList_some,List.map_append,← List.append_assoc]
   exact hL.append_right _
set_option maxRecDepth 100000 in
set_option maxHeartbeats 1000000 in
theorem zM9 (w:World) (tb:Nat) (v:Value) (lt:List Les) (ix:Key) (vb:Value) (l:List Sec) (h:Heap w tb v lt) (hg:Lea.Good lt) (hll:lt.length≤1000) (hlt:∀ y∈lt,y.ix≠ix) (hb:Bys w vb (zf l)) (hw:∀ s∈l,WfL s∧May s.2) (hl:l.length≤8) (hnd:(l.map (·.1)).Nodup) (hs:l.Pairwise fun a b=>ltL b a=false) (hix:ix.length=16) (hT:Tab w) :
  Calls Tryz.prog 59 #[.pointer (some ⟨tb,0,none⟩),.agg (bV ix).toArray,vb] w fun r w'=>∃ v' l',r=.returned (.bool true)∧Heap w' tb v' l'∧Lea.Good l'∧l'.Perm (lt++zBY ix l)∧zAr tb v v' w w':=by
 have H:=Zh (Zi h (Zi hg (Zi hlt (Zi hb (Zi hw (Zi hnd (Zi hs hT)))))))
 obtain ⟨ba,bc,eb⟩:=hb.eq_slice
 have EB:=Zh eb
 have k1:=(zAS hix).1
 have k2:=(zAS hix).2
 have htb:=h.tab.cell.lt
 clear h hg hlt hb hw hnd hs hT eb
 go_enter Tryz.func59,Tryz.ntmps59
 have HB1:Hid (Below w.heap.size w (w.alloc (.cells (bV ix).toArray 39))):=(Below.refl _ _).alloc (Nat.le_refl _) _
 have HK1:Hid (Blk (w.alloc (.cells (bV ix).toArray 39)) w.heap.size (bV ix).toArray 39):=Blk.new _ _ _
 obtain ⟨w1,hw1⟩:∃ x,x=w.alloc (.cells (bV ix).toArray 39):=⟨_,rfl⟩
 obtain ⟨p4,hp4⟩:∃ p,p=w.heap.size:=⟨_,rfl⟩
 have HW1:=Zh (Zi hw1 hp4)
 go_upto_region 1 with fail
 rw [← hw1] at HB1 HK1 ⊢
 rw [← hp4] at HK1 ⊢
 have hz1:w1.heap.size=p4+1:=by rw [hw1,hp4];simp
 have HZ1:=Zh hz1
 clear hw1 hp4 hz1
 go_wp2_with fail
 refine (zJJ w1 vb l (H.o.2.2.2.1.below HB1.o) (fun s hs=>⟨(H.o.2.2.2.2.1 s hs).1,by have:=(H.o.2.2.2.2.1 s hs).2;unfold May at this;omega⟩) (by omega)).mono ?_
 rintro r w2 ⟨vo,rfl,hO,hB2⟩
 obtain ⟨oa,oc,rfl⟩:=hO.slice
 obtain ⟨n,hn⟩:∃ n,n=l.length:=⟨_,rfl⟩
 rw [← hn] at hl ⊢
 have HN:=Zh hn
 have H2:=Zh (Zi hO (Zi (HK1.o.kept hB2) (HB1.o.trans (hB2.mono HB1.o.size))))
 have hz2:=hB2.size
 clear hO hB2 hn
 go_wp2_with fail
 refine (zF6 w2).mono ?_
 rintro r w3 ⟨t1,rfl,f1,f2,f3⟩
 have HE3:=Zh (zFN.new f1 f2 f3)
 clear f1 f2 f3
 go_upto_region 6 with fail
 go_loopw [26] (fun vi wr=>∃ (i:Nat) (v1:Value) (l1:List Les),i≤n∧vi=.int .i64 i∧Hid (zFN w2 wr t1 v1 l1∧l1.Perm ([]++zBY ix (l.take i)))) (fun vi _=>n - (intOf vi).toNat)
 case atStart=>exact ⟨0,_,[],Nat.zero_le _,rfl,HE3.o,List.Perm.refl _⟩
 case round =>
  obtain ⟨i,v1,l1,hi0,rfl,G⟩:=hrel
  by_cases hin:i < n
  · have hB:=G.o.1.bel
    obtain ⟨g,cap,e0,hr0⟩:=H2.o.1.ex (by rw [← HN.o];omega)
    injection e0 with ea en ec
    subst ea
    rw [← ec,← HN.o] at hr0
    have hr:=hr0.chg (S:=fun _=>False) (Chg.of_below hB) (fun h=>h)
    have hx:l[i]?=some (l[i]'(by have:=HN.o;omega)):=by simp
    generalize l[i]'(by have:=HN.o;omega)=x at hx
    have hwx:=H.o.2.2.2.2.1 x (List.mem_of_getElem? hx)
    have wx:=hwx.1
    have rx:=hr.read ecL hx
    have t1':zW 17 wr g (i*17):=hr.there hin
    have ax:=zJP wx
    have lx:=ecL.len x wx
    have gl:g < wr.heap.size:=hr.lt
    have hkb:=H2.o.2.1.kept hB
    have r4:zN 16 wr p4 0=bV ix:=zS hkb (by rw [zB];exact hix)
    have h4:zW 16 wr p4 0:=zO hkb (by simp [zB,hix])
    have l4:=hkb.lt
    have ks:=zJ7 wx
    have i0:(0:Int)≤(i:Int):=by omega
    have i1:(i:Int) < (n:Int):=by omega
    obtain ⟨cl,hcl⟩:∃ c,c=zAn x:=⟨_,rfl⟩
    rw [← hcl] at rx ax lx ks
    have kl:zCH cl.toArray 0 17=cl:=by unfold zCH;rw [List.toList_toArray,List.drop_zero,List.take_of_length_le (by omega)]
    have HX:=Zh (Zi hx (Zi hwx hcl))
    clear hr0 hr hx hwx wx hcl hkb en ec
    have hl1:l1.length≤1000:=by
     rw [G.o.2.length_eq]
     unfold zBY
     simp
     omega
    have hfind:Calls Tryz.prog 100 #[.pointer (some ⟨t1,0,none⟩),.agg (bV ix).toArray,.agg (bV x.1).toArray] (wr.alloc (.cells cl.toArray 165)) fun r w'=>r=.returned (.int .i64 (-1))∧Below wr.heap.size wr w'∧zN 17 w' wr.heap.size 0=cl∧zW 17 w' wr.heap.size 0:=by
     have hW:Below wr.heap.size wr (wr.alloc (.cells cl.toArray 165)):=(Below.refl _ _).alloc (Nat.le_refl _) _
     have hE:=G.o.1.below hW
     refine (zE9 _ t1 v1 l1 ix x.1 hE.heap.tab (by omega) hix HX.o.2.1.1).mono ?_
     rintro r w' ⟨k,rfl,hF,hB'⟩
     have hbk:=(Blk.new wr cl.toArray 165).kept hB'
     refine ⟨?_,hW.trans (hB'.mono hW.size),zS hbk lx,zO hbk (by simp [lx])⟩
     rcases hF with ⟨rfl,_⟩ | ⟨kk,y,rfl,hy,e1,e2⟩
     · rfl
     · exact absurd ⟨e1,e2⟩ (zOJ G.o.2 (fun _ h=>by cases h) HX.o.1 H.o.2.2.2.2.2.1 y (List.mem_of_getElem? hy))
    have HFI:=Zh hfind
    have HBB:=Zh hB
    clear hfind hB
    go_wp2_with
     (first
      | (go_at_call 100
         refine HFI.o.mono ?_
         rintro r w4 ⟨rfl,hB4,r17,h17⟩
         have hk4:=H2.o.2.1.kept (HBB.o.trans (hB4.mono HBB.o.size))
         have r44:zN 16 w4 p4 0=bV ix:=zS hk4 (by rw [zB];exact hix)
         have h44:zW 16 w4 p4 0:=zO hk4 (by simp [zB,hix])
         have s17:=h17.some
         have HB4:=Zh hB4
         clear hB4 hk4)
      | (go_at_call 101
         refine (show Calls _ _ _ _ _ from (by
          rw [HX.o.2.2]
          exact (zEZ w4 t1 v1 l1 ix x.1 x.2 (G.o.1.below HB4.o).heap G.o.1.good (by omega) hix HX.o.2.1.1))).mono ?_
         rintro r w5 ⟨b5,v5,l5,rfl,hr5,hh5,hc5⟩
         have h5:=zMA G.o.2 (fun _ h=>by cases h) HX.o.1 H.o.2.2.2.2.2.1 (by rw [← HN.o];exact hl) HX.o.2.1.2 hr5
         obtain ⟨rfl,hp5⟩:=h5
         have HE5:=Zh (Zi ((G.o.1.below HB4.o).tchg hc5 hh5 (hr5.good G.o.1.good)) hp5)
         clear hr5 hh5 hc5 hp5)
      | fail)
    exact ⟨⟨i+1,v5,l5,by omega,by simp,HE5.o.1,HE5.o.2⟩,by show n - ((i:Int)+1).toNat < n - (i:Int).toNat;omega⟩
  · have hB:=G.o.1.bel
    have hkb:=H2.o.2.1.kept hB
    have r4:zN 16 wr p4 0=bV ix:=zS hkb (by rw [zB];exact hix)
    have h4:zW 16 wr p4 0:=zO hkb (by simp [zB,hix])
    have hfull:l.take i=l:=List.take_of_length_le (by have:=HN.o;omega)
    have hp1:=G.o.2
    rw [hfull,List.nil_append] at hp1
    have hl1:l1.length≤1000:=by
     rw [hp1.length_eq]
     unfold zBY
     rw [List.length_map,← HN.o]
     omega
    have hBw:Below w.heap.size w wr:=H2.o.2.2.trans (hB.mono H2.o.2.2.size)
    have HQ:=Zh (Zi hp1 (Zi hB hBw))
    clear hfull hp1 hB hBw hkb
    go_wp2_with fail
    refine (zDK wr t1 v1 l1 ix G.o.1.heap.tab (by omega) hix (G.o.1.few ix) G.o.1.good.ends (H.o.2.2.2.2.2.2.2.below HQ.o.2.2)).mono ?_
    rintro r w5 ⟨vp,out,rfl,hP,hR,hB5⟩
    have hout:out=l:=zGF (fun _ _ h1 h2=>zKC h2 h1) out l hR.up H.o.2.2.2.2.2.2.1 (hR.perm.trans (by
     have h1:=zBl HQ.o.1 ix
     have h2:=zF7 [] ix l (fun _ h=>by cases h)
     rw [List.nil_append] at h2
     rw [h2] at h1
     exact h1))
    rw [hout] at hP
    have HP:=Zh (Zi hP (Zi hB5 (HQ.o.2.2.trans (hB5.mono HQ.o.2.2.size))))
    clear hP hR hB5 hout
    go_wp2_with fail
    refine (zIg vp vb (zf l) w5 HP.o.1.bys (H.o.2.2.2.1.below HP.o.2.2)).mono ?_
    rintro r w6 ⟨rfl,rfl⟩
    have hk5:=(H2.o.2.1.kept HQ.o.2.1).kept HP.o.2.1
    have r45:zN 16 w6 p4 0=bV ix:=zS hk5 (by rw [zB];exact hix)
    have h45:zW 16 w6 p4 0:=zO hk5 (by simp [zB,hix])
    have l45:=hk5.lt
    clear hk5
    go_wp2_with fail
    refine (zCY w6 tb v lt ix (H.o.1.below HP.o.2.2).tab (by omega) hix (by have:=H.o.2.1.few ix;omega)).mono ?_
    rintro r w7 ⟨v7,out7,rfl,hO7,hR7,hB7⟩
    obtain ⟨a7,c7,rfl⟩:=hO7.slice
    have h70:out7.length=0:=by rw [hR7.perm.length_eq,zBe.2 H.o.2.2.1];rfl
    rw [h70]
    have HB7:=Zh hB7
    clear hO7 hR7 hB7 h70
    go_upto_region 14 with fail
    go_loopw [54] (fun v54 wx=>v54=.int .i64 0∧w7=wx) (fun _ _=>0)
    case atStart=>exact ⟨rfl,rfl⟩
    case round =>
     obtain ⟨rfl,rfl⟩:=hrel
     go_wp2_with fail
     have hB27:Below w2.heap.size w2 w7:=(HQ.o.2.1.trans (HP.o.2.1.mono HQ.o.2.1.size)).trans (HB7.o.mono (Nat.le_trans HQ.o.2.1.size HP.o.2.1.size))
     have hBw7:Below w.heap.size w w7:=HP.o.2.2.trans (HB7.o.mono HP.o.2.2.size)
     have HH:=Zh (Zi hB27 hBw7)
     clear hB27 hBw7
     go_upto_region 19 with fail
     go_loopw [66] (fun vi wr=>∃ (i:Nat) (v':Value) (L:List Les),i≤n∧vi=.int .i64 i∧Hid (Heap wr tb v' L∧Lea.Good L∧L.Perm (lt++zBY ix (l.take i))∧zAr tb v v' w7 wr)) (fun vi _=>n - (intOf vi).toNat)
     case atStart=>exact ⟨0,v,lt,Nat.zero_le _,rfl,H.o.1.below HH.o.2,H.o.2.1,by simp [zBY],zAr.same (Below.refl _ _)⟩
     case round =>
      obtain ⟨i,v',L,hi0,rfl,G3⟩:=hrel
      by_cases hin:i < n
      · obtain ⟨g,cap,e0,hr0⟩:=H2.o.1.ex (by rw [← HN.o];omega)
        injection e0 with ea en ec
        subst ea
        rw [← ec,← HN.o] at hr0
        have hge:w1.heap.size≤g:=H2.o.1.ge (g:=g) rfl
        have hno:∀ q,w.heap.size≤q→¬ (q=tb∨v.ownBlock=some q):=fun q hq e=>by
         rcases e with e | e
         · omega
         · have:=(H.o.1.tab.own.lt _ e).2
           omega
        have hr7:=hr0.chg (S:=fun _=>False) (Chg.of_below HH.o.1) (fun h=>h)
        have hr:=hr7.chg G3.o.2.2.2.1 (hno g (Nat.le_trans HB1.o.size hge))
        have hx:l[i]?=some (l[i]'(by have:=HN.o;omega)):=by simp
        generalize l[i]'(by have:=HN.o;omega)=x at hx
        have hwx:=H.o.2.2.2.2.1 x (List.mem_of_getElem? hx)
        have wx:=hwx.1
        have rx:=hr.read ecL hx
        have t1':zW 17 wr g (i*17):=hr.there hin
        have ax:=zJP wx
        have lx:=ecL.len x wx
        have gl:g < wr.heap.size:=hr.lt
        have hkb:=G3.o.2.2.2.1.blk (H2.o.2.1.kept HH.o.1) (hno p4 (by rw [HW1.o.2];exact Nat.le_refl _))
        have r4:zN 16 wr p4 0=bV ix:=zS hkb (by rw [zB];exact hix)
        have h4:zW 16 wr p4 0:=zO hkb (by simp [zB,hix])
        have l4:=hkb.lt
        have i0:(0:Int)≤(i:Int):=by omega
        have i1:(i:Int) < (n:Int):=by omega
        have hLl:L.length≤2000:=by
         rw [G3.o.2.2.1.length_eq,List.length_append]
         unfold zBY
         rw [List.length_map,List.length_take]
         omega
        obtain ⟨cl,hcl⟩:∃ c,c=zAn x:=⟨_,rfl⟩
        rw [← hcl] at rx ax lx
        have kl:zCH cl.toArray 0 17=cl:=by unfold zCH;rw [List.toList_toArray,List.drop_zero,List.take_of_length_le (by omega)]
        have HX:=Zh (Zi hx (Zi hwx hcl))
        clear hr0 hr7 hr hx hwx wx hcl hkb en ec hge hno
        go_wp2_with
         (first
          | (go_at_call 101
             have hW:Below wr.heap.size wr (wr.alloc (.cells cl.toArray 165)):=(Below.refl _ _).alloc (Nat.le_refl _) _
             refine (show Calls _ _ _ _ _ from (by
              rw [HX.o.2.2]
              exact (zEZ (wr.alloc (.cells (zAn x).toArray 165)) tb v' L ix x.1 x.2 (G3.o.1.below ((Below.refl _ _).alloc (Nat.le_refl _) _)) G3.o.2.1 (by omega) hix HX.o.2.1.1))).mono ?_
             rintro r w9 ⟨b9,v9,l9,rfl,hr9,hh9,hc9⟩
             obtain ⟨_,hp9⟩:=zMA G3.o.2.2.1 H.o.2.2.1 HX.o.1 H.o.2.2.2.2.2.1 (by rw [← HN.o];exact hl) HX.o.2.1.2 hr9
             have HE9:=Zh (Zi hh9 (Zi (hr9.good G3.o.2.1) (Zi hp9 (G3.o.2.2.2.trans (zAr.pre (by rw [← HX.o.2.2];exact hW) hc9)))))
             clear hr9 hh9 hc9 hp9 hW)
          | fail)
        exact ⟨⟨i+1,v9,l9,by omega,by simp,HE9.o.1,HE9.o.2.1,HE9.o.2.2.1,HE9.o.2.2.2⟩,by show n - ((i:Int)+1).toNat < n - (i:Int).toNat;omega⟩
      · have hfull:l.take i=l:=List.take_of_length_le (by have:=HN.o;omega)
        have hp:=G3.o.2.2.1
        rw [hfull] at hp
        have HPF:=Zh hp
        clear hfull hp
        go_wp2_with fail
        go_ret
        exact ⟨v',L,rfl,G3.o.1,G3.o.2.1,HPF.o,zAr.pre HH.o.2 G3.o.2.2.2⟩
end Go.Proofs.YtbbojbdigiibbaaGreatDoor
end
section
namespace Go.Mem
open Go Go.RowKit Gf
def blB (l:List zP):List UInt8:=l.flatMap fun x=>Cod.zBE [Cod.be 1 x.1.toNat,x.2]
theorem zFT (x:zP) (l:List zP):blB (x::l)=Cod.net (Cod.be 1 x.1.toNat)++(Cod.net x.2++blB l):=by
 unfold blB
 rw [List.flatMap_cons]
 simp [Cod.zBE]
theorem zOj (l m:List zP):blB (l++m)=blB l++blB m:=by unfold blB;rw [List.flatMap_append]
theorem zOk (x:zP):blB [x]=Cod.zBE [Cod.be 1 x.1.toNat,x.2]:=by unfold blB;simp
def zAj (k:Lea.Key) (l:List zP):List UInt8:=Cod.net k++blB l
structure zEp (l:List zP):Prop where
 num:∀ x∈l,0≤x.1∧x.1 < 16
 len:∀ x∈l,x.2.length≤16384
theorem zEp.sub {l m:List zP} (h:zEp l) (hs:∀ x∈m,x∈l):zEp m:=⟨fun x hx=>h.num x (hs x hx),fun x hx=>h.len x (hs x hx)⟩
theorem zF5 (b:List UInt8) (h:b.length≤16384):(Cod.net b).length≤b.length+11:=by
 rw [Cod.zCT]
 have:Lib.nDigits b.length≤9:=by
  have:=Go.Proofs.YtbbojbdigiibbaaGreatDoor.dec_len b.length (by omega)
  rw [Lib.itoa_nonneg,Lib.decDigits_length] at this
  exact this
 omega
theorem zIi (l:List zP) (h:zEp l):(blB l).length≤l.length*16420:=by
 induction l with
 | nil=>simp [blB]
 | cons x l ih =>
   have h1:=ih (h.sub fun y hy=>List.mem_cons_of_mem _ hy)
   have h2:=zF5 (Cod.be 1 x.1.toNat) (by rw [Cod.zAV];omega)
   have h3:=zF5 x.2 (h.len x (by simp))
   have h4:=h.len x (by simp)
   rw [Cod.zAV] at h2
   rw [zFT,List.length_append,List.length_append,List.length_cons]
   omega
def zY (is:Bool) (k:List Value) (u:Value):List Value:=.bool is::(k++[u])
theorem zAT (is:Bool) {k:List Value} (h:k.length=16) (u:Value):(zY is k u).length=18:=by simp [zY,h]
theorem zGn (is:Bool) (k:List Value) (u:Value):(zY is k u)[0]?=some (.bool is):=rfl
theorem zEc (is:Bool) (k:List Value) (u:Value) {i:Nat} (hi:i < k.length):(zY is k u)[i+1]?=k[i]?:=by
 unfold zY
 rw [List.getElem?_cons_succ,List.getElem?_append_left hi]
theorem zBR (is:Bool) {k:List Value} (h:k.length=16) (u:Value):(zY is k u)[17]?=some u:=by
 unfold zY
 rw [List.getElem?_cons_succ,List.getElem?_append_right (by omega),h];rfl
theorem zFw (is:Bool) {k:List Value} (h:k.length=16) (u v:Value):(zY is k u).toArray.setIfInBounds 17 v=(zY is k v).toArray:=by
 apply Array.ext_getElem?
 intro i
 have h1:=zAT is h u
 have h2:=zAT is h v
 rw [Array.getElem?_setIfInBounds]
 simp only [List.size_toArray,List.getElem?_toArray,h1]
 by_cases c:17=i
 · subst c
   rw [if_pos rfl,if_pos (by omega),zBR is h]
 · rw [if_neg c]
   rcases Nat.lt_or_ge i 17 with hi | hi
   · cases i with
     | zero=>rfl
     | succ i=>rw [zEc is k u (by omega),zEc is k v (by omega)]
   · rw [List.getElem?_eq_none (by omega),List.getElem?_eq_none (by omega)]
theorem zBw (is:Bool) {k:List Value} (h:∀ v∈k,v.oneCell'=true) (u:Value) (hu:u.oneCell'=true):∀ v∈zY is k u,v.oneCell'=true:=by
 intro v hv
 unfold zY at hv
 rcases List.mem_cons.1 hv with rfl | hv
 · rfl
 · rcases List.mem_append.1 hv with hv | hv
   · exact h v hv
   · rw [List.mem_singleton.1 hv];exact hu
end Go.Mem
namespace Go.Proofs.YtbbojbdigiibbaaGreatDoor
open Go Go.RowKit Go.Mem Gf Lea
theorem i18:(Tryz.prog.info? 205).map (·.size)=some 18:=by kernel_rfl
theorem zEe (dst:Option Tmp) (x:Operand) (ty:TypeId) (pos:String) (af:Array Edge) (gd:Option (Tmp × Bool)) (a:Act) (w:World) (K:Act→World→Prop) (Q:Exit→Act→World→Prop)
  (hp:zAs (a.eval x)=true) (ht:zW 18 w (zAB (a.eval x)) (zAC (a.eval x))) :
  Oper.wp Tryz.prog ⟨dst,.load 205 x,ty,pos,af,gd⟩ a w K Q=K (a.put dst (.agg (zN 18 w (zAB (a.eval x)) (zAC (a.eval x))).toArray)) w :=
 zEW Tryz.underlying205 rfl i18 dst x ty pos af gd a w K Q hp ht
theorem zFL (dst:Option Tmp) (x y:Operand) (ty:TypeId) (pos:String) (af:Array Edge) (a:Act) (w:World) (K:Act→World→Prop) (Q:Exit→Act→World→Prop)
  (hp:zAs (a.eval x)=true) (hy:zBD (a.eval y)=true) (ht:zW 18 w (zAB (a.eval x)) (zAC (a.eval x))) (hc:zAP 18 (zAi (a.eval y))) :
  Oper.wp Tryz.prog ⟨dst,.store 205 x y,ty,pos,af,none⟩ a w K Q=K (a.put dst undef) (w.setCells (zAB (a.eval x)) (zAC (a.eval x)) (zAi (a.eval y))) :=
 zBN i18 dst x y ty pos af a w K Q hp hy ht hc
theorem zK3 (b:Bool):∀ (k:List Value),k.length=16→Tryz.prog.built 205 [(0,.bool b),(1,.agg k.toArray)]=some (zY b k (.slice none 0 0)).toArray
 | [k0,k1,k2,k3,k4,k5,k6,k7,k8,k9,k10,k11,k12,k13,k14,k15],_=>by kernel_rfl
def zA4:List Value:=zY false (bV z16) (.slice none 0 0)
theorem zJW:Tryz.prog.built 205 []=some zA4.toArray:=by kernel_rfl
theorem zGz (dst:Option Tmp) (b:Bool) (y:Operand) (ty:TypeId) (pos:String) (af:Array Edge) (gd:Option (Tmp × Bool)) (a:Act) (w:World) (K:Act→World→Prop) (Q:Exit→Act→World→Prop)
  (h2:zBD (a.eval y)=true) (h3:zAP 16 (zAi (a.eval y))) :
  Oper.wp Tryz.prog ⟨dst,.build 205 #[(0,.const (.bool b)),(1,y)],ty,pos,af,gd⟩ a w K Q=K (a.put dst (.agg (zY b (zAi (a.eval y)) (.slice none 0 0)).toArray)) w:=by
 unfold Oper.wp execOp
 have e:a.eval (.const (.bool b))=.bool b:=rfl
 have hr:=run_build (P:=Tryz.prog) w 205 #[(0,a.eval (.const (.bool b))),(1,a.eval y)] _ (by rw [e,zKy h2];exact zK3 _ _ h3.1)
 simp only [List.map_toArray,List.map_cons,List.map_nil,Sem.run_bind,hr,Result.andThen_ok]
 rfl
theorem zGL (dst:Option Tmp) (ty:TypeId) (pos:String) (af:Array Edge) (gd:Option (Tmp × Bool)) (a:Act) (w:World) (K:Act→World→Prop) (Q:Exit→Act→World→Prop) :
  Oper.wp Tryz.prog ⟨dst,.build 205 #[],ty,pos,af,gd⟩ a w K Q=K (a.put dst (.agg zA4.toArray)) w:=by
 unfold Oper.wp execOp
 have hr:=run_build (P:=Tryz.prog) w 205 #[] _ zJW
 simp only [List.map_toArray,List.map_nil,Sem.run_bind,hr,Result.andThen_ok]
 rfl
def zA5 (s:zF) (ix:Key) (o:Option (Key × List zP)):Prop:=match o with
 | none=>s.st.get (zAM ix)=none
 | some (k,l)=>s.st.get (zAM ix)=some (zAj k l)∧k.length=16∧zEp l∧l.length≤16
def zw:Option (Key × List zP)→List zP
 | none=>[]
 | some (_,l)=>l
def zBv:Option (Key × List zP)→Key
 | none=>z16
 | some (k,_)=>k
theorem zeroC:(#[Value.bool false,.int .u8 0,.int .u8 0,.int .u8 0,.int .u8 0,.int .u8 0,.int .u8 0,.int .u8 0,.int .u8 0,.int .u8 0,.int .u8 0,.int .u8 0,.int .u8 0,.int .u8 0,.int .u8 0,.int .u8 0,.int .u8 0,.slice none 0 0]:Array Value)=zA4.toArray:=rfl
theorem zDR (w:World) (cs:List Value) (h:zAP 18 cs):(w.alloc (.cells #[Value.bool false,.int .u8 0,.int .u8 0,.int .u8 0,.int .u8 0,.int .u8 0,.int .u8 0,.int .u8 0,.int .u8 0,.int .u8 0,.int .u8 0,.int .u8 0,.int .u8 0,.int .u8 0,.int .u8 0,.int .u8 0,.int .u8 0,.slice none 0 0] 205)).setCells w.heap.size 0 cs=w.alloc (.cells cs.toArray 205):=zK _ _ _ _ rfl (by rw [h.1];rfl)
theorem zEI {w:World} {b:Nat} {cs:List Value} (h:zW 18 w b 0) (hc:zAP 18 cs):(loadVar 205 ⟨b,0,none⟩).run Tryz.prog (w.setCells b 0 cs)=.ok (.agg cs.toArray) (w.setCells b 0 cs):=by
 have h2:=zC2 h b 0 cs
 refine run_loadVar_mid _ b 0 _ cs _ ?_ Tryz.underlying205 rfl (by rw [hc.1];exact i18)
 have:=zAD h2
 rwa [zCq h hc] at this
theorem zIa:zAP 18 zA4:=⟨zAT _ (by rw [zB];exact zMI) _,zBw _ (fun v hv=>zAJ _ v hv) _ rfl⟩
theorem takeBl (l:List zP) (h:zEp l) (x:zP) (r:List zP) (e:l=x::r):Cod.zBS (blB l)=some (Cod.be 1 x.1.toNat,Cod.net x.2++blB r)∧Cod.zBS (Cod.net x.2++blB r)=some (x.2,blB r):=by
 subst e
 rw [zFT]
 exact ⟨Cod.zBF _ _ (by rw [Cod.zAV];omega),Cod.zBF _ _ (h.len x (by simp))⟩
attribute [local irreducible] zA4 zY
attribute [local go_sem ↓] Go.wp_at_zero Go.wp_at_succ
attribute [local go_sem ↓] zEf zEe zFL zGz zGL
attribute [local go_sem] zCU ptrB_eq ptrO_eq ptrIs_eq aggL_eq aggIs_eq zT zg zCP zC zG zZ ze zX zH zK zDR
set_option maxRecDepth 100000 in
set_option maxHeartbeats 2000000 in
theorem zCc (C X:Nat→Prop) (pb:Nat) (s:zF) (ix:Key) (hix:ix.length=16) (o:Option (Key × List zP)) (w:World) (h:zR w C X pb s) (ho:zA5 s ix o) :
  Calls Tryz.prog 144 #[.pointer (some ⟨pb,0,none⟩),.agg (bV ix).toArray] w fun e w'=>∃ u,e=.returned (.agg (zY o.isSome (bV (zBv o)) u).toArray)∧zAH 53 w' w.heap.size (fun b=>b < w.heap.size) u (zw o)∧Below w.heap.size w w':=by
 obtain ⟨sb,lb,d,L,tb,v,h⟩:=h
 have H:=Zh h
 have HO:=Zh ho
 have hl:(bV ix).length=16:=by rw [zB];exact hix
 obtain ⟨cz,hcz⟩:∃ c,c=zA4:=⟨_,rfl⟩
 have HZ:=Zh hcz
 have hzl:cz.length=18:=by rw [hcz];exact zIa.1
 have hza:zAP 18 cz:=by rw [hcz];exact zIa
 obtain ⟨ck,hck⟩:∃ c,c=bV ix:=⟨_,rfl⟩
 have HCK:=Zh (Zi hck hix)
 rw [← hck] at hl ⊢
 have hu16:=Tryz.underlying39
 have hi16:(Tryz.prog.info? 39).map (·.size)=some ck.length:=by rw [hl];exact i16
 clear h hix hck ho hcz
 go_enter Tryz.func144,Tryz.ntmps144
 go_upto_region 1 with fail
 rw [zeroC]
 rw [← HZ.o]
 have hB0:Below w.heap.size w ((w.alloc (.cells ck.toArray 39)).alloc (.cells cz.toArray 205)):=((Below.refl _ _).alloc (Nat.le_refl _) _).alloc (by simp) _
 have hk3:Blk ((w.alloc (.cells ck.toArray 39)).alloc (.cells cz.toArray 205)) w.heap.size ck.toArray 39:=(Blk.new _ _ _).alloc _
 have hk4:Blk ((w.alloc (.cells ck.toArray 39)).alloc (.cells cz.toArray 205)) (w.heap.size+1) cz.toArray 205:=Blk.new_at _ _ _ _ (by simp)
 obtain ⟨w0,hw0⟩:∃ x,x=(w.alloc (.cells ck.toArray 39)).alloc (.cells cz.toArray 205):=⟨_,rfl⟩
 have hz0:w0.heap.size=w.heap.size+2:=by rw [hw0];simp
 rw [← hw0] at hB0 hk3 hk4 ⊢
 obtain ⟨p3,hp3⟩:∃ p,p=w.heap.size:=⟨_,rfl⟩
 obtain ⟨p4,hp4⟩:∃ p,p=w.heap.size+1:=⟨_,rfl⟩
 rw [← hp3] at hk3
 rw [← hp4] at hk4
 rw [← hp4,← hp3]
 have HB0:=Zh (Zi hB0 (Zi hk3 (Zi hk4 (Zi hp3 (Zi hp4 hz0)))))
 clear hw0 hB0 hk3 hk4 hp3 hp4 hz0
 have c3:w0.drew.cell? ⟨pb,3,none⟩=some (.pointer (some ⟨sb,0,none⟩)):=(H.o.below HB0.o.1).blk.cell 3
 have r3:w0.drew.rangeAt p3 0 ck:=fun j v hj=>by
  rw [(HB0.o.2.1.drew).cell,Nat.zero_add]
  simpa using hj
 go_region_held3 (fun w'=>w'.cell? ⟨pb,3,none⟩=some (.pointer (some ⟨sb,0,none⟩))∧w'.rangeAt p3 0 ck) (first | exact ⟨c3,r3⟩ | with_reducible assumption)
  (first
   | (go_at_call 108
      refine (show Calls _ _ _ _ _ from (by rw [HCK.o.1];exact zDv ix HCK.o.2 w0.drew)).mono ?_
      rintro e w2 ⟨rfl,hb2⟩
      have hb2:Below w0.heap.size w0 w2:=zA2 hb2
      have hh:w2.cell? ⟨pb,3,none⟩=some (.pointer (some ⟨sb,0,none⟩))∧w2.rangeAt p3 0 ck:=⟨((H.o.below HB0.o.1).below hb2).blk.cell 3,fun j v hj=>by
       rw [(HB0.o.2.1.kept hb2).cell,Nat.zero_add]
       simpa using hj⟩
      have HB2:=Zh hb2
      clear hb2)
   | (go_at_call 57
      refine (zCM _ sb lb d L s.st (zAM ix) w2 ((H.o.below HB0.o.1).below HB2.o).st).mono ?_
      rintro e w4 ⟨hb4,vg,rfl,hvg⟩
      have HG:=Zh (Zi (HB2.o.trans (hb4.mono HB2.o.size)) hvg)
      have hh:w4.cell? ⟨pb,3,none⟩=some (.pointer (some ⟨sb,0,none⟩))∧w4.rangeAt p3 0 ck:=⟨(((H.o.below HB0.o.1).below HB2.o).below hb4).blk.cell 3,fun j v hj=>by
       rw [((HB0.o.2.1.kept HB2.o).kept hb4).cell,Nat.zero_add]
       simpa using hj⟩
      clear hb4 hvg))
 have hk4:=HB0.o.2.2.1.kept HG.o.1
 have l4:=hk4.lt
 have h4:zW 18 w4 p4 0:=zO hk4 (by simp [hzl])
 have hb04:Below w.heap.size w w4:=HB0.o.1.trans (HG.o.1.mono HB0.o.1.size)
 have HB4:=Zh hb04
 clear c3 r3 hh hb04
 cases o with
 | none =>
   have hget:s.st.get (zAM ix)=none:=HO.o
   rw [hget,Option.isSome_none]
   have HGET:=Zh hget
   clear hget
   have hza2:=zIa
   have HLD:=Zh (Zi (zEI h4 zIa) hk4)
   have hzl2:=zIa.1
   clear hk4
   go_wp2_with fail
   exact bodyPost_ret (v:=.agg zA4.toArray) (by simp [results,Tryz.results144,asAddr,HLD.o.1]) rfl ⟨.slice none 0 0,by unfold zA4;rfl,zAH.nil _ _ _ _,(Chg.setCells (S:=fun b=>b=p4) (L:=p4) rfl _ _ _ (Chg.of_below HB4.o)).below (Nat.le_refl _) (fun k hk=>by rw [hk,HB0.o.2.2.2.2.1];omega)⟩
 | some kl =>
   obtain ⟨k,l⟩:=kl
   obtain ⟨hget,hk16,hbl,hl16⟩:=HO.o
   have hvg:=HG.o.2
   rw [hget,Option.getD_some] at hvg
   rw [hget,Option.isSome_some]
   have hlen:=zIi l hbl
   have hnk:=zF5 k (by omega)
   obtain ⟨va,vc,rfl⟩:=hvg.eq_slice
   have htk:=zCQ _ (zAj k l) k (blB l) w4 hvg.bys (by unfold zAj;rw [List.length_append];omega) (by unfold zAj;exact Cod.zBF _ _ (by omega))
   obtain ⟨n0,hn0⟩:∃ n,n=(zAj k l).length:=⟨_,rfl⟩
   rw [← hn0] at htk ⊢
   obtain ⟨n,hn⟩:∃ n,n=l.length:=⟨_,rfl⟩
   have HT:=Zh htk
   have HL:=Zh (Zi hk16 (Zi hbl (Zi hn (Zi hk4 hl16))))
   clear htk hvg hget hn0 hn hlen hnk hk16 hbl hk4 h4 hl16
   go_wp2_with fail
   refine HT.o.mono ?_
   rintro r w5 ⟨vx,vy,rfl,hX,hY,hB5⟩
   obtain ⟨xa,xc,rfl⟩:=hX.eq_slice
   have hX2:=hX.bys
   rw [HL.o.1] at hX2 ⊢
   obtain ⟨xb,xo,rfl⟩:∃ b o,xa=some ⟨b,o,none⟩:=by
    obtain ⟨a',c',e,_,_,h3⟩:=hX2
    obtain ⟨b,o,e',_⟩:=h3 (by rw [HL.o.1];omega)
    injection e with e1 _ _
    exact ⟨b,o,by rw [e1,e']⟩
   have hrng:=zFt hX2
   obtain ⟨cq,hcq⟩:∃ c,c=bV k:=⟨_,rfl⟩
   rw [← hcq] at hrng
   have hlb:cq.length=16:=by rw [hcq,zB];exact HL.o.1
   have s5:zBh 16 w5 xb xo:=zC8 hrng hlb
   have r5:zN 16 w5 xb xo=cq:=zA3 hrng hlb
   have hqa:zAP 16 cq:=⟨hlb,fun v hv=>by rw [hcq] at hv;exact zAJ _ v hv⟩
   have hcl:=zAT true hlb (.slice none 0 0)
   have hca:zAP 18 (zY true cq (.slice none 0 0)):=⟨hcl,zBw _ (fun v hv=>by rw [hcq] at hv;exact zAJ _ v hv) _ rfl⟩
   have HX:=Zh (Zi hY.bys (Zi (HB4.o.trans (hB5.mono HB4.o.size)) (Zi (HL.o.2.2.2.1.kept hB5) hcq)))
   clear hX hX2 hY hB5 hrng hcq
   go_upto_region 8 with fail
   have hk8:Blk (w5.alloc (.cells (zY true cq (.slice none 0 0)).toArray 205)) w5.heap.size (zY true cq (.slice none 0 0)).toArray 205:=Blk.new _ _ _
   have hbW:Below w5.heap.size w5 (w5.alloc (.cells (zY true cq (.slice none 0 0)).toArray 205)):=(Below.refl _ _).alloc (Nat.le_refl _) _
   obtain ⟨w6,hw6⟩:∃ x,x=w5.alloc (.cells (zY true cq (.slice none 0 0)).toArray 205):=⟨_,rfl⟩
   obtain ⟨p8,hp8⟩:∃ x,x=w5.heap.size:=⟨_,rfl⟩
   have hz6:w6.heap.size=p8+1:=by rw [hw6,hp8];simp
   rw [← hw6] at hk8 hbW ⊢
   rw [← hp8] at hk8 ⊢
   have H6:=Zh (Zi hk8 (Zi (HX.o.1.below hbW) (Zi (HX.o.2.1.trans (hbW.mono HX.o.2.1.size)) (Zi (HX.o.2.2.1.kept hbW) (Zi hp8 hz6)))))
   have hw8:w.heap.size≤p8:=by rw [hp8];exact HX.o.2.1.size
   have hp48:p4 < p8:=by rw [hp8];exact HX.o.2.2.1.lt
   clear hw6 hp8 hz6 hk8 hbW s5 r5 hcl hca
   go_loopw [5] (fun v5 wr=>∃ (i:Nat) (u:Value),i≤n∧Hid (Bys wr v5 (blB (l.drop i))∧Blk wr p8 (zY true cq u).toArray 205∧Blk wr p4 cz.toArray 205∧zAH 53 wr (p8+1) (fun b=>b < p8+1) u (l.take i)∧Below w.heap.size w wr∧p8+1≤wr.heap.size)) (fun v5 _=>zL9 v5)
   case atStart=>exact ⟨0,.slice none 0 0,Nat.zero_le _,H6.o.2.1,H6.o.1,H6.o.2.2.2.1,zAH.nil _ _ _ _,H6.o.2.2.1,by rw [H6.o.2.2.2.2.2];exact Nat.le_refl _⟩
   case round =>
    obtain ⟨i,u,hi0,G⟩:=hrel
    obtain ⟨ba,bc,eb⟩:=G.o.1.eq_slice
    by_cases hin:i < n
    · have hx:l[i]?=some (l[i]'(by have:=HL.o.2.2.1;omega)):=by simp
      generalize l[i]'(by have:=HL.o.2.2.1;omega)=x at hx
      have hdrop:l.drop i=x::l.drop (i+1):=by
       have hi:=(List.getElem?_eq_some_iff.1 hx).1
       rw [List.drop_eq_getElem_cons hi]
       rw [List.getElem?_eq_getElem hi] at hx
       cases hx;rfl
      have hbo:zEp (l.drop i):=HL.o.2.1.sub fun y hy=>List.mem_of_mem_drop hy
      have hlen:=zIi (l.drop i) hbo
      rw [List.length_drop] at hlen
      have hl16:=HL.o.2.2.2.2
      obtain ⟨t1,t2⟩:=takeBl (l.drop i) hbo x (l.drop (i+1)) hdrop
      have hxn:=HL.o.2.1.num x (List.mem_of_getElem? hx)
      obtain ⟨m,hm⟩:∃ m:Nat,m=x.1.toNat:=⟨_,rfl⟩
      have hm2:x.1=(m:Int):=by omega
      have hmb:m < 16:=by omega
      rw [← hm] at t1
      have hpos:0 < (blB (l.drop i)).length:=by rw [hdrop,zFT,List.length_append,Cod.zCT];omega
      have hq:(Cod.net x.2++blB (l.drop (i+1))).length < (blB (l.drop i)).length∧(blB (l.drop (i+1))).length < (blB (l.drop i)).length:=by
       rw [hdrop,zFT]
       simp only [List.length_append,Cod.zCT]
       omega
      have hT1:=zCQ _ (blB (l.drop i)) _ _ wr G.o.1 (by omega) t1
      obtain ⟨q,hqq⟩:∃ k,k=(blB (l.drop i)).length:=⟨_,rfl⟩
      rw [← hqq] at eb hpos hq
      have HT1:=Zh (Zi hT1 (Zi t2 (Zi hx (Zi hm2 (Zi hq hqq)))))
      have d0:decide ((0:Int) < (q:Int))=true:=by simp;omega
      have d0':decide (0 < q)=true:=by simp;omega
      have hq6:q≤1000000:=by omega
      subst eb
      clear hT1 t1 t2 hx hdrop hbo hlen hxn hm hm2 hq hqq hl16 hpos
      go_wp2_with fail
      refine HT1.o.1.mono ?_
      rintro r w7 ⟨vx,vy,rfl,hX,hY,hB7⟩
      obtain ⟨xa,xc,rfl⟩:=hX.eq_slice
      obtain ⟨ya,yc,rfl⟩:=hY.eq_slice
      obtain ⟨q2,hq2⟩:∃ k,k=(Cod.net x.2++blB (l.drop (i+1))).length:=⟨_,rfl⟩
      have H7:=Zh (Zi hX.bys (Zi hY.bys (Zi hB7 hq2)))
      have hT2:=zCQ _ _ _ _ w7 hY.bys (by have:=HT1.o.2.2.2.2.1.1;omega) HT1.o.2.1
      rw [← hq2] at hT2 ⊢
      rw [Cod.zAV]
      have HT2:=Zh hT2
      clear hX hY hB7 hq2 hT2
      go_wp2_with fail
      refine HT2.o.mono ?_
      rintro r w8 ⟨vx2,vy2,rfl,hX,hY,hB8⟩
      obtain ⟨za,zc,rfl⟩:=hX.eq_slice
      obtain ⟨ra,rc,rfl⟩:=hY.eq_slice
      have hg:=zF0 _ (Cod.be 1 m) w8 (H7.o.1.below hB8) (by rw [Cod.zAV];omega)
      rw [Cod.zIt 1 m (by omega),Cod.zAV] at hg
      obtain ⟨q3,hq3⟩:∃ k,k=(blB (l.drop (i+1))).length:=⟨_,rfl⟩
      obtain ⟨q4,hq4⟩:∃ k,k=x.2.length:=⟨_,rfl⟩
      have H8:=Zh (Zi hX (Zi hY (Zi hB8 (Zi hg (Zi hq3 hq4)))))
      rw [← hq3,← hq4]
      clear hX hY hB8 hg hq3 hq4
      go_wp2_with fail
      refine H8.o.2.2.2.1.mono ?_
      rintro r w9 ⟨rfl,rfl⟩
      have hb8:=H7.o.2.2.1.trans (H8.o.2.2.1.mono H7.o.2.2.1.size)
      have hk8:=G.o.2.1.kept hb8
      have c17:w8.cell? ⟨p8,17,none⟩=some u:=by rw [hk8.cell];have:=zBR true hlb u;simpa using this
      have f17:=hk8.free 17
      have H9:=Zh (Zi hb8 (Zi hk8 ((G.o.2.2.2.1).below hb8)))
      obtain ⟨ua,uc,hu,_⟩:=H9.o.2.2.slice
      have hti:(l.take i).length=i:=by rw [List.length_take];have:=HL.o.2.2.1;omega
      rw [hti] at hu
      have HTI:=Zh hti
      subst hu
      have hX8:=H8.o.1
      have hl16:=HL.o.2.2.2.2
      have hd:zAY w8 (fun b=>b < p8+1) (.slice za q4 zc) x.2:=by
       have hz7:=G.o.2.2.2.2.2
       have hz8:=H7.o.2.2.1.size
       have:=hX8.data (N:=fun b=>b < p8+1) fun b hb _=>by omega
       rw [← H8.o.2.2.2.2.2] at this
       exact this
      have hdn:∀ a n c,Value.slice za q4 zc=.slice (some a) n c→(Value.slice ua i uc).ownBlock≠some a.block:=fun a n c e e2=>by
       injection e with e1 _ _
       have h1:=(hX8.lt a.block (by rw [e1];simp [Value.ownBlock])).1
       have h2:=(G.o.2.2.2.1.lt _ e2).2
       have h3:=H7.o.2.2.1.size
       omega
      have hz9:p8+1≤w8.heap.size:=Nat.le_trans G.o.2.2.2.2.2 H9.o.1.size
      obtain ⟨vs,g1,g2,g3,g4⟩:=H9.o.2.2.below ((Below.refl w8.heap.size w8).alloc (Nat.le_refl _) (.cells #[.int .i64 m,.slice za q4 zc] 53))
      rw [HTI.o] at g2
      have HV:=Zh (Zi g1 (Zi g2 (Zi g3 (Zi g4 (Zi hd hdn)))))
      clear hb8 hk8 hti hX8 hd hdn g1 g2 g3 g4
      have hi16:i < 16:=by have:=HL.o.2.2.1;omega
      go_wp2_with
       (first
        | (refine zCl (by rfl) (fun _ hK=>zJK EKb _ _ (by rfl) (base:=p8+1) [.int .i64 m,.slice za q4 zc] (by rfl) (by rfl) (by rfl) (zER (by rfl)) (one2 _ _ _) HV.o.2.1 (by omega) (by decide) (by simp;omega) hK) ?_
           intro x1 w11 hx1
           obtain ⟨y1,yc1,rfl,_⟩:=zAG hx1.1
           have h88:Blk w11 p8 (zY true cq (.slice ua i uc)).toArray 205:=Blk.grown' (H9.o.2.1.alloc (.cells #[.int .i64 m,.slice za q4 zc] 53)) hx1.2.1 (fun e=>by have:=(G.o.2.2.2.1.lt _ e).1;omega)
           have f88:=h88.free 17
           have c88:w11.cell? ⟨p8,17,none⟩=some (.slice ua i uc):=by rw [h88.cell];have:=zBR true hlb (.slice ua i uc);simpa using this
           have H11:=Zh (Zi hx1 h88)
           clear hx1 h88)
        | fail)
      have hrow:=zAH.push (x:=x) HV.o.1 HV.o.2.2.1 HV.o.2.2.2.1 (HV.o.2.2.2.2.1.chg (S:=fun _=>False) (Chg.of_below ((Below.refl w8.heap.size w8).alloc (Nat.le_refl _) _)) (fun _ h=>h.elim)) HV.o.2.2.2.2.2 (by rw [HTI.o,HT1.o.2.2.2.1];exact H11.o.1.1) H11.o.1.2.1 H11.o.1.2.2
      have htk:l.take (i+1)=l.take i++[x]:=by rw [List.take_add_one,HT1.o.2.2.1];rfl
      have hbw:Below w.heap.size w w11:=zl ((G.o.2.2.2.2.1.trans (H9.o.1.mono G.o.2.2.2.2.1.size)).alloc (by omega) (.cells #[.int .i64 m,.slice za q4 zc] 53)) H11.o.1.2.1 (fun k hk=>by have:=(G.o.2.2.2.1.lt k hk).1;omega)
      have hk4:Blk w11 p4 cz.toArray 205:=Blk.grown' ((G.o.2.2.1.kept H9.o.1).alloc _) H11.o.1.2.1 (fun e=>by have:=(G.o.2.2.2.1.lt _ e).1;omega)
      have hcs:Chg (fun b=>(Value.slice ua i uc).ownBlock=some b∨b=p8) w8 (w11.setCell ⟨p8,17,none⟩ (.slice y1 (i+1) yc1)):=Chg.set (S:=fun b=>(Value.slice ua i uc).ownBlock=some b∨b=p8) (a:=⟨p8,17,none⟩) (Chg.grown (Chg.of_below ((Below.refl w8.heap.size w8).alloc (Nat.le_refl _) _)) H11.o.1.2.1 (fun q hq=>.inl (.inl hq))) (.inr rfl) _
      have hz7:=H7.o.2.2.1.size
      have hrest:=H8.o.2.1.chg hcs (fun g hg hS=>by
       have h1:=(H8.o.2.1.lt g hg).1
       rcases hS with hS | hS
       · have:=(G.o.2.2.2.1.lt _ hS).2;omega
       · have:=G.o.2.2.2.2.2;omega)
      have hq3:q3 < q:=by rw [H8.o.2.2.2.2.1];exact HT1.o.2.2.2.2.1.2
      refine ⟨⟨i+1,.slice y1 (i+1) yc1,by omega,?_,?_,?_,?_,?_,?_⟩,?_⟩
      · have:=hrest.bys
        rwa [← H8.o.2.2.2.2.1] at this
      · have:=H11.o.2.set 17 (.slice y1 (i+1) yc1)
        rwa [zFw true hlb] at this
      · exact hk4.set_other (fun e=>by have e':p8=p4:=e;omega) _
      · rw [htk]
        refine hrow.chg (S:=fun b=>b=p8) (Chg.set (S:=fun b=>b=p8) (a:=⟨p8,17,none⟩) (Chg.refl _ _) rfl _) (fun g hg e=>?_) (fun b hb _=>?_)
        · have h1:=(hrow.lt g hg).1
          omega
        · rw [hb];omega
      · exact hbw.setCell hw8 _
      · have:=H11.o.1.2.1.size
        simp at this ⊢
        omega
      · show q3 < q
        exact hq3
    · have hfull:l.take i=l:=List.take_of_length_le (by have:=HL.o.2.2.1;omega)
      have hnil:blB (l.drop i)=[]:=by rw [List.drop_of_length_le (by have:=HL.o.2.2.1;omega)];rfl
      rw [hnil] at eb
      have HF:=Zh hfull
      have hk8:=G.o.2.1
      have r8:zN 18 wr p8 0=zY true cq u:=zS hk8 (zAT true hlb u)
      have h8:zW 18 wr p8 0:=zO hk8 (by simp [zAT true hlb u])
      have h4:zW 18 wr p4 0:=zO G.o.2.2.1 (by simp [hzl])
      have ha8:zAP 18 (zY true cq u):=⟨zAT true hlb u,zBw _ hqa.2 _ (by obtain ⟨a,c,e,_⟩:=G.o.2.2.2.1.slice;rw [e];rfl)⟩
      have HLD:=Zh (zEI h4 ha8)
      clear hfull hnil hk8
      subst eb
      go_wp2_with fail
      have hset:Chg (fun b=>b=p4) wr (wr.setCells p4 0 (zY true cq u)):=Chg.setCells (S:=fun b=>b=p4) (L:=p4) rfl _ _ _ (Chg.refl _ _)
      refine bodyPost_ret (v:=.agg (zY true cq u).toArray) (by simp [results,Tryz.results144,asAddr,HLD.o]) rfl ⟨u,by rw [HX.o.2.2.2];rfl,?_,?_⟩
      · have hO:=G.o.2.2.2.1
        rw [HF.o] at hO
        refine ((hO.chg hset (fun g hg e=>?_) (fun b hb _=>?_)).lower (by omega)).mono (fun b hb=>.inl (by omega))
        · have h1:=(hO.lt g hg).1
          omega
        · rw [hb];omega
      · exact ((Chg.of_below (S:=fun k=>w.heap.size≤k) G.o.2.2.2.2.1).mix hset (fun k hk=>.inl (by rw [hk,HB0.o.2.2.2.2.1];omega))).below (Nat.le_refl _) (fun _ h=>h)
end Go.Proofs.YtbbojbdigiibbaaGreatDoor
end
