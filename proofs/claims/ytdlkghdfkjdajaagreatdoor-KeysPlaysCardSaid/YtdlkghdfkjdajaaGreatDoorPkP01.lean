/- Texts of this proof,packed: AppK,BKeep,zCg,Far,Keys,ShaMix,zBv. -/
import Derived.Test.YtdlkghdfkjdajaaGreatDoorPkP00
import Derived.Deep.RegionLaw
import Derived.Test.YtdlkghdfkjdajaaGreatDoorProg
import Derived.Outline
import Derived.Deep.QuietTactic
import Derived.BigQuiet
import Derived.Lib.Hide
import Derived.Laws.CopyOwn
import Derived.Deep.AppendLies
import Derived.Deep.RegionHeld3
import Derived.Deep.DrawnRows
import Derived.RegionTactic
import Derived.Deep.DeepCutAuto
import Derived.Deep.CutBlock
import Derived.ChangeAlike
import Derived.WalkLawsBesides
import Derived.ChangeKeysEq
import Derived.Lib.BytesEntry
import Derived.Lib.Bytealg
section
namespace Go.Mem
open Go Go.RowKit Gf
section
variable {P:Program} {w:World} {ops:Array Oper} {rest:List Oper} {o:Oper} {a:Act} {Q:Exit→Act→World→Prop} {K:Act→World→Prop} {E0:Prop}
theorem wpAppK {t e:TypeId} {z:Value} {size bytes:Nat} (E:zCf P t e z size bytes) (s x:Operand) (ho:o.op=.call { callee:=.builtin .append,args:=#[s,x],argTypes:=#[t,t] })
  {base:Nat} {v:Value} {n:Nat} {xs:List Value} (news:List Value) (hs:a.eval s=v) {mb:Nat} (hx:a.eval x=.slice (some ⟨mb,0,none⟩) 1 1) (hl:news.length=size) (hnews:∀ j u,news[j]?=some u→w.cell? ⟨mb,j,none⟩=some u) (h1:∀ u∈news,u.oneCell'=true)
  (hown:w.ownsRow base e size v n xs) (hn:n+1≤4294967296) (hby:bytes≤4096) (hbase:base≤w.heap.size)
  (h:∀ v' w',w'.ownsRow base e size v' (n+1) (xs++news)∧w.grownBy w' v.ownBlock→K (a.put o.dst v') w'):o.wp P a w K Q:=by
 obtain ⟨i,hi,hz,hsz,hb⟩:=info_parts E.info
 have hm:(n+1)*bytes≤4294967296*4096:=Nat.mul_le_mul hn hby
 exact wp_append_own w s x t ho base e i z size bytes E.under hi hz hsz hb E.zsize E.pos v n xs hs hown ⟨mb,0,none⟩ 1 1 news hx (by omega)
  (fun j y hj=>by
   rw [show (⟨mb,0,none⟩:Addr).add j=⟨mb,j,none⟩ from by unfold Addr.add;split <;> simp_all]
   exact hnews j y hj)
  h1 (by unfold maxLen;omega) (by omega) hbase (fun v' w' h2 h3 _=>h v' w' ⟨h2,h3⟩)
theorem zLb {t e:TypeId} {z:Value} {size bytes:Nat} (E:zCf P t e z size bytes) (hgd:o.guard=none) (s x:Operand) (ho:o.op=.call { callee:=.builtin .append,args:=#[s,x],argTypes:=#[t,t] })
  {base:Nat} {v:Value} {n:Nat} {xs:List Value} (news:List Value) (hs:a.eval s=v) {mb:Nat} (hx:a.eval x=.slice (some ⟨mb,0,none⟩) 1 1) (hl:news.length=size) (hnews:∀ j u,news[j]?=some u→w.cell? ⟨mb,j,none⟩=some u) (h1:∀ u∈news,u.oneCell'=true)
  (hown:w.ownsRow base e size v n xs) (hn:n+1≤4294967296) (hby:bytes≤4096) (hbase:base≤w.heap.size)
  (h:∀ v' w',w'.ownsRow base e size v' (n+1) (xs++news)→w.grownBy w' v.ownBlock→K (a.put o.dst v') w'):if Region.wanted o (yielded ops a.tmps)=true then Oper.wp P o a w K Q else E0 :=
 zG7 hgd (fun _ hK=>wpAppK E s x ho news hs hx hl hnews h1 hown hn hby hbase hK) fun v' w' h2=>h v' w' h2.1 h2.2
end
theorem zDj {S:Nat→Prop} {w w':World} {base:Nat} {e:TypeId} {size n:Nat} {v:Value} {xs:List Value} (h:w.ownsRow base e size v n xs) (hc:Chg S w w') (hs:∀ g,v.ownBlock=some g→¬ S g):w'.ownsRow base e size v n xs:=by
 refine ⟨h.1,?_⟩
 rcases h.2 with hn | ⟨g,cap,cur,rfl,hb,hg,rest⟩
 · exact .inl hn
 · exact .inr ⟨g,cap,cur,rfl,hb,(hc.block g (lt_of_block hg) (hs g rfl)).trans hg,rest⟩
theorem zDk {w:World} {base:Nat} {e:TypeId} {size n:Nat} {v:Value} {xs:List Value} (h:w.ownsRow base e size v n xs):∃ a c,v=.slice a n c∧(0 < n→∃ g,a=some ⟨g,0,none⟩):=by
 rcases h.2 with ⟨rfl,rfl⟩ | ⟨g,cap,cur,rfl,_⟩
 · exact ⟨none,0,rfl,fun h=>by omega⟩
 · exact ⟨_,cap,rfl,fun _=>⟨g,rfl⟩⟩
theorem Chg.grown {S:Nat→Prop} {w w' w'':World} {row:Option Nat} (h:Chg S w w') (hg:w'.grownBy w'' row) (hr:∀ q,row=some q→S q∨w.heap.size≤q):Chg S w w'' :=
 ⟨hg.os.trans h.os,hg.tape.trans h.tape,hg.output.trans h.output,Nat.le_trans h.size hg.size,fun k hk hs=>(hg.block k (Nat.lt_of_lt_of_le hk h.size) (fun e=>by rcases hr k e.symm with h | h;exact hs h;omega)).trans (h.block k hk hs)⟩
theorem Chg.mix {S T:Nat→Prop} {w w' w'':World} (h:Chg S w w') (h':Chg T w' w'') (hT:∀ k,T k→S k∨w.heap.size≤k):Chg S w w'' :=
 ⟨h'.os.trans h.os,h'.tape.trans h.tape,h'.output.trans h.output,Nat.le_trans h.size h'.size,fun k hk hs=>(h'.block k (Nat.lt_of_lt_of_le hk h.size) (fun ht=>by rcases hT k ht with h | h;exact hs h;omega)).trans (h.block k hk hs)⟩
theorem Blk.grown' {w w':World} {b:Nat} {arr:Array Value} {t:TypeId} {row:Option Nat} (hb:Blk w b arr t) (hg:w.grownBy w' row) (hr:row≠some b):Blk w' b arr t:=by
 unfold Blk at *
 rw [hg.block b (lt_of_block hb) (fun e=>hr e.symm)]
 exact hb
theorem zLD {w:World} {arr:Array Value} {t:TypeId} {news:List Value} (h:arr=news.toArray):∀ j u,news[j]?=some u→(w.alloc (.cells arr t)).cell? ⟨w.heap.size,j,none⟩=some u:=fun j u hu=>by
 rw [(Blk.new w arr t).cell,h]
 simpa using hu
theorem zDW {P:Program} (w:World) (base:Nat) (t ty e:TypeId) (i:TypeInfo) (z:Value) (size bytes:Nat) (ht:P.underlying t=some (.slice e)) (hi:P.info? e=some i) (hz:i.zero=some z)
  (hsize:i.size=size) (hby:i.bytes=bytes) (hzs:z.cells.size=size) (hsz:0 < size)
  (v:Value) (n:Nat) (xs:List Value) (hown:w.ownsRow base e size v n xs)
  (a:Addr) (m c:Nat) (news:List Value) (hl:news.length=m*size) (hnews:∀ j u,news[j]?=some u→w.cell? (a.add j)=some u) (h1:∀ u∈news,u.oneCell'=true)
  (h63:n+m≤maxLen) (hbytes:(n+m)*bytes≤140737488355328) (hbase:base≤w.heap.size) :
  ∃ v' w',(Builtin.append_ #[t,t] ty #[v,.slice (some a) m c]).run P w=.ok v' w'∧w'.ownsRow base e size v' (n+m) (xs++news)∧w.grownBy w' v.ownBlock ∧
    (∀ k,v'.ownBlock=some k→v.ownBlock=some k∨w.heap.size≤k):=by
 obtain ⟨v',w',hr,h2,h3,_⟩:=run_append_own (P:=P) w base t ty e i z size bytes ht hi hz hsize hby hzs hsz v n xs hown a m c news hl hnews h1 h63 hbytes hbase
 refine ⟨v',w',hr,h2,h3,fun k hk=>?_⟩
 have hsmall:n+m≤9223372036854775807:=by simp only [maxLen] at h63;omega
 have hown0:=hown
 rcases hown.2 with ⟨rfl,rfl⟩ | ⟨g,cap,cur,rfl,hbg,hg,hnc,hcm,hcs,htake⟩
 · right
   have hx:xs=[]:=List.eq_nil_of_length_eq_zero (by simpa using hown.1)
   subst hx
   obtain ⟨v2,w2,hr2,h22,_,_⟩:=run_append_own (P:=P) w w.heap.size t ty e i z size bytes ht hi hz hsize hby hzs hsz _ 0 [] (World.ownsRow_nil w w.heap.size e size) a m c news hl hnews h1 h63 hbytes (Nat.le_refl _)
   rw [hr] at hr2
   injection hr2 with e1 e2
   subst e1
   exact (h22.lt k hk).1
 · subst hsize
   subst hby
   by_cases hroom:n+m≤cap
   · left
     have hfit:n*i.size+news.length≤cur.size:=by rw [hl,hcs,← Nat.add_mul];exact Nat.mul_le_mul_right _ hroom
     have hr3:=run_append_room (P:=P) w t ty e i ht hi g n cap cur hg a m c news hl hnews h1 hroom hfit
     rw [hr] at hr3
     injection hr3 with e1 e2
     subst e1
     exact hk
   · right
     have holds:∀ j u,xs[j]?=some u→w.cell? ((⟨g,0,none⟩:Addr).add j)=some u:=hown0.cells (g:=g) rfl
     have hr3:=run_append_grow (P:=P) w t ty e i z ht hi hz ⟨g,0,none⟩ n cap xs hown0.1 holds a m c news hl hnews (by omega) (by omega) (growslice_fits (by omega) hbytes)
     rw [hr] at hr3
     injection hr3 with e1 e2
     subst e1
     have hk2:w.heap.size=k:=by simpa [Value.ownBlock] using hk
     omega
section
variable {P:Program} {w:World} {ops:Array Oper} {rest:List Oper} {o:Oper} {a:Act} {Q:Exit→Act→World→Prop} {K:Act→World→Prop} {E0:Prop}
end
end Go.Mem
end
section
namespace Go.Mem
open Go Go.RowKit Gf
theorem zEu {P:Program} {w:World} {ops:Array Oper} {rest:List Oper} {o:Oper} {a:Act} {Q:Exit→Act→World→Prop} (hgd:o.guard=none) (d s:Operand) (dT sT:TypeId)
  (ho:o.op=.call { callee:=.builtin .copy,args:=#[d,s],argTypes:=#[dT,sT] }) (elem:TypeId) (hu:P.underlying dT=some (.slice elem)) (hsz:(P.info? elem).map (·.size)=some 1)
  {g N dl dc:Nat} {f:Nat→UInt8} {t:TypeId} {sv:Value} {bs:List UInt8} (hd:a.eval d=.slice (some ⟨g,0,none⟩) dl dc) (hs:a.eval s=sv) (hB:Blk w g (zW N f) t) (hb:Bys w sv bs) (h1:bs.length≤dl) (h2:dl≤N)
  (h:∀ w',Blk w' g (zW N fun i=>if i < bs.length then bs.getD i 0 else f i) t→Below g w w'→wpList P ops Q rest (a.put o.dst (goInt bs.length)) w'):wpList P ops Q (o::rest) a w:=by
 obtain ⟨sp,sc,rfl,hc1,hc2,hcell⟩:=hb
 have hlen:(bV bs).length=bs.length:=zG bs
 have hN:(zW N f).toList.length=N:=by simp [zq]
 refine wpList_copy_splice hgd d s dT sT ho elem hu hsz (some ⟨g,0,none⟩) sp dl dc bs.length sc hd hs g 0 (zW N f).toList t hB (bV bs) (by rw [hlen];exact (Nat.min_eq_left h1).symm)
  (fun hp=>⟨rfl,?_⟩) (by rw [hlen,hN];omega) (zAQ bs) g w (Below.refl _ _) (Nat.le_refl _) fun w' hg hbel=>?_
 · rw [hlen] at hp
   obtain ⟨b,off,e,hc⟩:=hcell hp
   refine ⟨_,e,fun j v hj=>?_⟩
   rw [zAd] at hj
   cases hu':bs[j]? with
   | none=>rw [hu'] at hj;cases hj
   | some u =>
     rw [hu'] at hj
     rw [show (⟨b,off,none⟩:Addr).add j=⟨b,off+j,none⟩ from by
      unfold Addr.add
      split
      · subst_vars;rfl
      · rfl]
     rw [hc j u hu']
     simpa using hj
 · rw [hlen]
   refine h w' ?_ hbel
   have e:(splice (zW N f).toList 0 (bV bs)).toArray=zW N fun i=>if i < bs.length then bs.getD i 0 else f i:=by
    apply Array.ext_getElem?
    intro i
    simp only [splice,List.take_zero,List.nil_append,Nat.zero_add,hlen,List.getElem?_toArray]
    rcases Nat.lt_or_ge i bs.length with hi | hi
    · rw [List.getElem?_append_left (by rw [hlen];exact hi),zAd,zAN _ _ _ (by omega)]
      simp [hi,List.getD_eq_getElem?_getD]
    · rw [List.getElem?_append_right (by rw [hlen];exact hi),hlen,List.getElem?_drop,show bs.length+(i - bs.length)=i from by omega]
      rcases Nat.lt_or_ge i N with hiN | hiN
      · rw [zAN _ _ _ hiN]
        have:=zAN N f i hiN
        simp only [if_neg (Nat.not_lt.2 hi)]
        simpa using this
      · rw [Array.getElem?_eq_none (by rw [zq];exact hiN)]
        exact List.getElem?_eq_none (by rw [hN];exact hiN)
   have hg':=hg.out
   rw [e] at hg'
   exact hg'
end Go.Mem
namespace Go.Proofs.YtdlkghdfkjdajaaGreatDoor
open Go Go.RowKit Go.Mem Gf
theorem zGp {k:IntKind} {a b:Int} (h:a=b):Ending.returned (.int k a)=.returned (.int k b):=by rw [h]
theorem zFL {P:Program} {f:FuncId} {args:Array Value} {w:World} {n:Nat} {v:Value}
  (h:Calls P f args (w.drewN n) fun e w'=>e=.returned v∧w.drewN n=w'):Calls P f args (w.drewN n) fun e w''=>e=.returned v∧∃ m,w''=w.drewN m :=
 h.mono fun _ _ ⟨he,hm⟩=>⟨he,n,hm.symm⟩
def within (v n:Int):Int:=if n < 1 then 0 else v % n
theorem zD0 (v n:Int) (h:1≤n):0≤within v n∧within v n < n:=by
 rw [within,if_neg (by omega)]
 exact ⟨Int.emod_nonneg _ (by omega),Int.emod_lt_of_pos _ (by omega)⟩
theorem zIT (v n:Int) (h:1≤n):within v n=if v.tmod n < 0 then v.tmod n+n else v.tmod n:=by
 rw [within,if_neg (by omega),Int.tmod_eq_emod]
 have h1:=Int.emod_nonneg v (show n≠0 by omega)
 have h2:=Int.emod_lt_of_pos v (show 0 < n by omega)
 split <;> split <;> omega
set_option maxRecDepth 100000 in
set_option maxHeartbeats 400000 in
theorem zCX (v n:Int) (h:1≤n) (hn:n≤9223372036854775807) (w:World) :
  Calls Tryz.prog 5 #[.int .i64 v,.int .i64 n] w fun e w'=>e=.returned (.int .i64 (within v n))∧w=w':=by
 have h1:v.tmod n < n:=Int.tmod_lt_of_pos v (by omega)
 have h2:-n < v.tmod n:=Int.lt_tmod_of_pos v (by omega)
 have h0:n≠0:=by omega
 have t0:(n == 0)=false:=by simp;omega
 have H:=Lib.hid (zIT v n h)
 by_cases hneg:v.tmod n < 0
 · go_enter Tryz.func5,Tryz.ntmps5
   go_wp2
   go_ret
   exact ⟨zGp (by rw [H.out,if_pos hneg]),rfl⟩
 · go_enter Tryz.func5,Tryz.ntmps5
   go_wp2
   go_ret
   exact ⟨zGp (by rw [H.out,if_neg (by omega)]),rfl⟩
theorem E8k:(Tryz.prog.info? 5).map (fun i=>(i.zero,i.size,i.bytes))=some (some (.int .u8 0),1,1):=by kernel_rfl
theorem E8s:(Tryz.prog.info? 5).map (·.size)=some 1:=by kernel_rfl
end Go.Proofs.YtdlkghdfkjdajaaGreatDoor
end
section
namespace Go.Mem
open Go Go.RowKit Gf
structure zEa {α:Type} (enc:α→List Value) (Wf:α→Prop) (k:Nat):Prop where
 len:∀ x,Wf x→(enc x).length=k
 one:∀ x v,v∈enc x→v.oneCell'=true
 pos:0 < k
def zBd {α:Type} (enc:α→List Value) (l:List α):List Value:=l.flatMap enc
section
variable {α:Type} {enc:α→List Value} {Wf:α→Prop} {k:Nat}
theorem zCh (E:zEa enc Wf k):∀ (l:List α),(∀ x∈l,Wf x)→(zBd enc l).length=l.length*k
 | [],_=>by simp [zBd]
 | x::l,h=>by
   have:=zCh E l (fun y hy=>h y (by simp [hy]))
   unfold zBd at this ⊢
   rw [List.flatMap_cons,List.length_append,E.len x (h x (by simp)),this,List.length_cons,Nat.add_mul];omega
theorem zCC (E:zEa enc Wf k):∀ (l:List α),(∀ x∈l,Wf x)→∀ (i:Nat) (x:α),l[i]?=some x→∀ c,c < k→(zBd enc l)[i*k+c]?=(enc x)[c]?
 | y::l,h,0,x,hx,c,hc=>by
   simp at hx
   subst hx
   unfold zBd
   rw [List.flatMap_cons,Nat.zero_mul,Nat.zero_add,List.getElem?_append_left (by rw [E.len y (h y (by simp))];exact hc)]
 | y::l,h,i+1,x,hx,c,hc=>by
   have ih:=zCC E l (fun z hz=>h z (by simp [hz])) i x (by simpa using hx) c hc
   have hl:=E.len y (h y (by simp))
   unfold zBd at ih ⊢
   have e:(i+1)*k+c=k+(i*k+c):=by rw [Nat.add_mul];omega
   rw [List.flatMap_cons,List.getElem?_append_right (by rw [hl];omega),hl,e,Nat.add_sub_cancel_left]
   exact ih
theorem zHE (l m:List α):zBd enc (l++m)=zBd enc l++zBd enc m:=by unfold zBd;rw [List.flatMap_append]
theorem zKr (x:α):zBd enc [x]=enc x:=by simp [zBd]
theorem zFw (E:zEa enc Wf k) (l:List α):∀ u∈zBd enc l,u.oneCell'=true:=fun u hu=>by
 obtain ⟨x,_,hx⟩:=List.mem_flatMap.1 hu
 exact E.one x u hx
end
structure zL {α:Type} (enc:α→List Value) (Wf:α→Prop) (k:Nat) (ti:TypeId) (w:World) (base:Nat) (v:Value) (l:List α):Prop where
 own:w.ownsRow base ti k v l.length (zBd enc l)
 wf:∀ x∈l,Wf x
structure zCg {α:Type} (enc:α→List Value) (Wf:α→Prop) (k:Nat) (ti:TypeId) (w:World) (base g n cap:Nat) (l:List α):Prop where
 own:w.ownsRow base ti k (.slice (some ⟨g,0,none⟩) n cap) n (zBd enc l)
 len:n=l.length
 wf:∀ x∈l,Wf x
section
variable {α:Type} {enc:α→List Value} {Wf:α→Prop} {k:Nat} {ti:TypeId} {w:World} {base g n cap:Nat} {l:List α} {v:Value}
theorem zL.nil (enc:α→List Value) (Wf:α→Prop) (k:Nat) (ti:TypeId) (w:World) (base:Nat):zL enc Wf k ti w base (.slice none 0 0) ([]:List α) :=
 ⟨World.ownsRow_nil w base ti k,fun _ h=>by cases h⟩
theorem zL.empty (h:zL enc Wf k ti w base v l) (h0:l=[]):∃ p c,v=.slice p 0 c:=by
 subst h0
 rcases h.own.2 with ⟨e,_⟩ | ⟨g,cap,_,e,_⟩
 · exact ⟨_,_,e⟩
 · exact ⟨_,_,e⟩
theorem zL.ex (h:zL enc Wf k ti w base v l) (h0:0 < l.length):∃ g cap,v=.slice (some ⟨g,0,none⟩) l.length cap∧zCg enc Wf k ti w base g l.length cap l:=by
 rcases h.own.2 with ⟨_,e⟩ | ⟨g,cap,cur,e,_⟩
 · omega
 · exact ⟨g,cap,e,by rw [← e];exact h.own,rfl,h.wf⟩
theorem zL.slice (h:zL enc Wf k ti w base v l):∃ p c,v=.slice p l.length c:=by
 obtain ⟨a,c,e,_⟩:=zDk h.own
 exact ⟨a,c,e⟩
theorem zL.chg {S:Nat→Prop} {w':World} (h:zL enc Wf k ti w base v l) (hc:Chg S w w') (hs:∀ g,v.ownBlock=some g→¬ S g):zL enc Wf k ti w' base v l:=⟨zDj h.own hc hs,h.wf⟩
theorem zL.drewN (h:zL enc Wf k ti w base v l) (d:Nat):zL enc Wf k ti (w.drewN d) base v l:=⟨h.own,h.wf⟩
theorem zL.lower {b:Nat} (h:zL enc Wf k ti w base v l) (hb:b≤base):zL enc Wf k ti w b v l:=by
 refine ⟨⟨h.own.1,?_⟩,h.wf⟩
 rcases h.own.2 with e | ⟨g,cap,cur,e,h1,h2⟩
 · exact .inl e
 · exact .inr ⟨g,cap,cur,e,by omega,h2⟩
theorem zCg.block (h:zCg enc Wf k ti w base g n cap l):∃ cur:Array Value,w.heap[g]?=some (.cells cur ti (0,0))∧base≤g∧n≤cap∧cap≤maxLen∧cur.size=cap*k∧∀ j,j < n*k→cur[j]?=(zBd enc l)[j]?:=by
 rcases h.own.2 with ⟨e,_⟩ | ⟨g',cap',cur,e,hb,hh,h1,h2,h3,h4⟩
 · cases e
 · cases e
   refine ⟨cur,hh,hb,h1,h2,h3,fun j hj=>?_⟩
   rw [← h4,List.getElem?_take,if_pos hj,Array.getElem?_toList]
theorem zCg.cell (h:zCg enc Wf k ti w base g n cap l) {j:Nat} (hj:j < n*k):w.cell? ⟨g,j,none⟩=(zBd enc l)[j]?:=by
 obtain ⟨cur,hh,_,_,_,_,hc⟩:=h.block
 rw [← hc j hj]
 have hB:Blk w g cur ti:=hh
 exact hB.cell j
theorem zBW {l:List α} {i:Nat} {x:α} (hx:l[i]?=some x):i < l.length:=by
 rcases Nat.lt_or_ge i l.length with h | h
 · exact h
 · rw [List.getElem?_eq_none h] at hx;cases hx
theorem zIu {i n k c:Nat} (hi:i < n) (hc:c < k):i*k+c < n*k:=by
 have:=Nat.mul_le_mul_right k (show i+1≤n from hi)
 rw [Nat.add_mul,Nat.one_mul] at this
 omega
theorem zCg.range (E:zEa enc Wf k) (h:zCg enc Wf k ti w base g n cap l) {i:Nat} {x:α} (hx:l[i]?=some x):w.rangeAt g (i*k) (enc x):=fun j v hv=>by
 have hi:=zBW hx
 have hj:j < k:=by
  have:=zBW hv
  rwa [E.len x (h.wf x (List.mem_of_getElem? hx))] at this
 rw [h.cell (zIu (by rw [h.len];exact hi) hj),zCC E l h.wf i x hx j hj]
 exact hv
theorem zCg.there (h:zCg enc Wf k ti w base g n cap l) {i:Nat} (hi:i < n):w.there g (i*k) k:=fun j hj=>by
 obtain ⟨cur,hh,_,h1,_,h3,_⟩:=h.block
 have hB:Blk w g cur ti:=hh
 have:=zIu (k:=k) hi hj
 have:=Nat.mul_le_mul_right k h1
 exact ⟨by rw [hB.cell];simp;omega,hB.free _⟩
theorem zCg.read (E:zEa enc Wf k) (h:zCg enc Wf k ti w base g n cap l) {i:Nat} {x:α} (hx:l[i]?=some x):zh k w g (i*k)=enc x:=zCG (h.range E hx) (E.len x (h.wf x (List.mem_of_getElem? hx)))
theorem zCg.chg {S:Nat→Prop} {w':World} (h:zCg enc Wf k ti w base g n cap l) (hc:Chg S w w') (hs:¬ S g):zCg enc Wf k ti w' base g n cap l:=⟨zDj h.own hc (fun q hq=>by cases hq;exact hs),h.len,h.wf⟩
theorem zCg.lt (h:zCg enc Wf k ti w base g n cap l):g < w.heap.size:=by
 obtain ⟨cur,hh,_⟩:=h.block
 exact lt_of_block hh
end
end Go.Mem
end
section
namespace Go.Mem
open Go Go.RowKit Gf
section
variable {w:World}
theorem zS (n:Nat) (w:World) (g o:Nat):zh n w.drew g o=zh n w g o:=rfl
theorem zV (n:Nat) (w:World) (g o:Nat):zi n w.drew g o=zi n w g o:=rfl
theorem zD (o':Obj) (n g o:Nat) (hn:g < w.heap.size):zh n (w.alloc o') g o=zh n w g o:=by
 unfold zh
 apply List.map_congr_left
 intro k _
 rw [World.cell?_alloc_past _ _ _ hn]
theorem zF (o':Obj) (n g o:Nat) (hn:g < w.heap.size):zi n (w.alloc o') g o=zi n w g o:=by
 unfold zi World.there
 apply propext
 constructor
 · intro h j hj
   have:=h j hj
   rw [World.cell?_alloc_past _ _ _ hn,World.frozen?_alloc_past _ _ _ hn] at this
   exact this
 · intro h j hj
   rw [World.cell?_alloc_past _ _ _ hn,World.frozen?_alloc_past _ _ _ hn]
   exact h j hj
def cutC (c:Array Value) (o n:Nat):List Value:=(c.toList.drop o).take n
theorem zJ (c:Array Value) (t:TypeId) (n g o:Nat) (hn:g=w.heap.size) (hc:o+n≤c.size):zh n (w.alloc (.cells c t)) g o=cutC c o n:=by
 subst hn
 have hb:=Blk.new w c t
 unfold cutC
 have hl:((c.toList.drop o).take n).length=n:=by
  rw [List.length_take,List.length_drop,Array.length_toList];omega
 refine zCG (fun k v hv=>?_) hl
 have hk:k < n:=by have:=zBW hv;omega
 rw [hb.cell]
 rw [List.getElem?_take,if_pos hk,List.getElem?_drop,Array.getElem?_toList] at hv
 exact hv
theorem zK (c:Array Value) (t:TypeId) (n g o:Nat) (hn:g=w.heap.size) (hc:o+n≤c.size):zi n (w.alloc (.cells c t)) g o:=by
 subst hn
 intro j hj
 have hb:=Blk.new w c t
 exact ⟨by rw [hb.cell];simp;omega,hb.free _⟩
theorem zB4 (c:Array Value) (t:TypeId) (n g:Nat) (hn:g=w.heap.size) (hc:n≤c.size):zi n (w.alloc (.cells c t)) g 0:=by
 subst hn
 intro j hj
 have hb:=Blk.new w c t
 exact ⟨by rw [hb.cell];simp;omega,hb.free _⟩
theorem zDD (c:Array Value) (t:TypeId) (n:Nat) (hn:n=w.heap.size) (cs:List Value) (o:Nat):∃ c':Array Value,(w.alloc (.cells c t)).setCells n o cs=w.alloc (.cells c' t):=by
 induction cs generalizing o c with
 | nil=>exact ⟨c,rfl⟩
 | cons v vs ih =>
   show ∃ c':Array Value,((w.alloc (.cells c t)).setCell ⟨n,o,none⟩ v).setCells n (o+1) vs=_
   rw [World.setCell_alloc_at _ _ _ _ _ hn]
   exact ih _ (o+1)
theorem zB (c:Array Value) (t:TypeId) (n:Nat) (cs:List Value) (hn:n=w.heap.size) (hc:c.size=cs.length):(w.alloc (.cells c t)).setCells n 0 cs=w.alloc (.cells cs.toArray t):=by
 subst hn
 obtain ⟨c',e⟩:=zDD c t w.heap.size rfl cs 0
 obtain ⟨arr,h1,h2,h3⟩:=Blk.setCells cs 0 _ _ (Blk.new w c t)
 rw [e] at h1 ⊢
 have h4:=Blk.new w c' t
 have e2:c'=arr:=by
  unfold Blk at h1 h4
  rw [h1] at h4
  simpa using h4.symm
 have e3:arr=cs.toArray:=by
  apply Array.ext_getElem?
  intro k
  rcases Nat.lt_or_ge k c.size with hk | hk
  · rw [h3 k hk,if_pos ⟨Nat.zero_le _,by omega⟩,Nat.sub_zero];simp
  · rw [Array.getElem?_eq_none (by omega),Array.getElem?_eq_none (by simp;omega)]
 rw [e2,e3]
end
theorem zD1 {P:Program} {n:Nat} {t:TypeId} {d:TypeDesc} (hu:P.underlying t=some d) (hd:d.isRow=true) (hi:(P.info? t).map (·.size)=some n) (dst:Option Tmp) (x:Operand) (ty:TypeId) (pos:String) (af:Array Edge) (gd:Option (Tmp × Bool)) (a:Act) (w:World) (K:Act→World→Prop) (Q:Exit→Act→World→Prop)
  (hp:zBe (a.eval x)=true) (ht:zi n w (zAy (a.eval x)) (zAz (a.eval x))) :
  Oper.wp P ⟨dst,.load t x,ty,pos,af,gd⟩ a w K Q=K (a.put dst (.agg (zh n w (zAy (a.eval x)) (zAz (a.eval x))).toArray)) w:=by
 unfold Oper.wp execOp
 have e:=zI7 hp
 have hl:=run_loadVar_mid (P:=P) w (zAy (a.eval x)) (zAz (a.eval x)) t (zh n w (zAy (a.eval x)) (zAz (a.eval x))) d (zAi ht) hu hd (by rw [hi,zC4])
 simp only
 rw [e]
 simp only [ptrB_eq,ptrO_eq,Instr.loadAt,Instr.sureAddr,Sem.run_bind,Sem.run_pure,Result.andThen_ok,hl]
 rfl
end Go.Mem
end
section
namespace Go.Mem
open Go Go.RowKit Gf
section
variable {w:World} {b:Nat} {arr:Array Value} {t:TypeId}
theorem zQ {n o:Nat} (h:Blk w b arr t) (hn:o+n≤arr.size):zi n w b o:=fun j hj=>by
 exact ⟨by rw [h.cell];simp;omega,h.free _⟩
theorem zn {n o:Nat} (h:Blk w b arr t) {cs:List Value} (hn:cs.length=n) (hc:∀ k,k < n→arr[o+k]?=cs[k]?):zh n w b o=cs:=by
 refine zCG (fun k v hv=>?_) hn
 rw [h.cell,hc k (by rw [← hn];exact (List.getElem?_eq_some_iff.1 hv).1)]
 exact hv
theorem zBO {n:Nat} {cs:List Value} (h:Blk w b cs.toArray t) (hn:cs.length=n):zh n w b 0=cs:=zn h hn (fun k _=>by rw [Nat.zero_add];simp)
end
theorem zDF {P:Program} (w:World) (d:Nat) {e:TypeId} (he:P.underlying e=some (.int .u8)) (hc:P.cellsOf e=1) (xs ys:List UInt8):∀ is:List Nat,(∀ i∈is,i < xs.length∧i < ys.length) →
  (Op.eqItems (d+1) e (P.cellsOf e) (bV xs).toArray (bV ys).toArray is).run P w=.ok (decide (∀ i∈is,xs[i]?=ys[i]?)) w
 | [],_=>by simp [Op.eqItems]
 | i::is,h=>by
   obtain ⟨h1,h2⟩:=h i (by simp)
   have hp:P.plainKey e=true:=by simp [Program.plainKey,he]
   have hx:xs[i]?=some xs[i]:=by simp
   have hy:ys[i]?=some ys[i]:=by simp
   generalize xs[i]=a at hx
   generalize ys[i]=b at hy
   have p1:=run_part_plain (P:=P) w hp (xs:=(bV xs).toArray) (off:=i*P.cellsOf e) (v:=.int .u8 (a.toNat:Int)) (by rw [hc,Nat.mul_one];simp [bV,hx])
   have p2:=run_part_plain (P:=P) w hp (xs:=(bV ys).toArray) (off:=i*P.cellsOf e) (v:=.int .u8 (b.toNat:Int)) (by rw [hc,Nat.mul_one];simp [bV,hy])
   have ih:=zDF w d he hc xs ys is (fun j hj=>h j (by simp [hj]))
   simp only [Op.eqItems,Sem.run_bind,p1,p2,run_equalIn_int w d e .u8 .u8 _ _ he,Result.andThen_ok]
   by_cases hab:a=b
   · subst hab
     simp only [beq_self_eq_true,Bool.not_true,Bool.false_eq_true,if_false,ih]
     congr 1
     simp [hx,hy]
   · have hn:((a.toNat:Int) == (b.toNat:Int))=false:=by
      have:a.toNat≠b.toNat:=fun e=>hab (Gf.ext e)
      simp;omega
     simp only [hn,Bool.not_false,if_true,Sem.run_pure]
     congr 1
     rw [eq_comm,decide_eq_false_iff_not]
     intro hall
     have:=hall i (by simp)
     rw [hx,hy] at this
     exact hab (Option.some.inj this)
theorem zDr {P:Program} (w:World) (d n:Nat) {t e:TypeId} {i:TypeInfo} (hu:P.underlying t=some (.array n e)) (hi:P.info? e=some i) (he:P.underlying e=some (.int .u8)) (hc:P.cellsOf e=1) (xs ys:List UInt8) (hx:xs.length=n) (hy:ys.length=n) :
  (Op.equalIn (d+2) t (.agg (bV xs).toArray) (.agg (bV ys).toArray)).run P w=.ok (decide (xs=ys)) w:=by
 rw [show d+2=(d+1)+1 from rfl,run_equalIn_array w (d+1) _ _ hu hi,zDF w d he hc xs ys (List.range n) (fun i hi=>by rw [List.mem_range] at hi;omega)]
 congr 1
 refine decide_eq_decide.2 ⟨?_,?_⟩
 · intro h
   apply List.ext_getElem?
   intro k
   rcases Nat.lt_or_ge k n with hk | hk
   · exact h k (List.mem_range.2 hk)
   · rw [List.getElem?_eq_none (by omega),List.getElem?_eq_none (by omega)]
 · intro h k _
   rw [h]
end Go.Mem
namespace Go.Proofs.YtdlkghdfkjdajaaGreatDoor
open Go Go.RowKit Go.Mem Gf
end Go.Proofs.YtdlkghdfkjdajaaGreatDoor
end
section
namespace Go.Mem
open Go Go.RowKit Gf Sha
def wv (x:UInt32):Value:=.int .u32 (wz x)
theorem wv_eq (x:UInt32):wv x=.int .u32 (wz x):=rfl
def zCw (b:List UInt8) (i:Nat):Array Value:=((sch b i).map wv++List.replicate (64 - i) (Value.int .u32 0)).toArray
theorem zAs (b:List UInt8) {i j:Nat} (h:j < i):(zCw b i)[j]?=some (.int .u32 (wz ((sch b i).getD j 0))):=by
 have hl:=zCU b i
 unfold zCw
 rw [List.getElem?_toArray,List.getElem?_append_left (by rw [List.length_map];omega),List.getElem?_map,List.getElem?_eq_getElem (by omega),List.getD_eq_getElem?_getD,List.getElem?_eq_getElem (by omega)];rfl
theorem zDs (b:List UInt8) {i j:Nat} (h:j < 64) (hi:i≤64):∃ z,(zCw b i)[j]?=some (.int .u32 z):=by
 rcases Nat.lt_or_ge j i with h1 | h1
 · exact ⟨_,zAs b h1⟩
 · refine ⟨0,?_⟩
   unfold zCw
   rw [List.getElem?_toArray,List.getElem?_append_right (by rw [List.length_map,zCU];exact h1),List.length_map,zCU,List.getElem?_replicate,if_pos (by omega)]
theorem zDt (b:List UInt8) {i:Nat} (h:i < 64) (x:UInt32) (hx:sch b (i+1)=sch b i++[x]):(zCw b i).setIfInBounds i (.int .u32 (wz x))=zCw b (i+1):=by
 have hl:=zCU b i
 have hm:((sch b i).map wv).length=i:=by rw [List.length_map,hl]
 unfold zCw
 rw [List.setIfInBounds_toArray,hx,List.map_append,List.set_append_right _ _ (by omega),hm,Nat.sub_self,show 64 - i=(64 - (i+1))+1 from by omega,List.replicate_succ,List.set_cons_zero,List.append_assoc]
 rfl
end Go.Mem
namespace Go.Proofs.YtdlkghdfkjdajaaGreatDoor
open Go Go.RowKit Go.Mem Gf Sha
set_option linter.unusedVariables false
theorem i8h:(Tryz.prog.info? 117).map (·.size)=some 8:=by kernel_rfl
theorem zEg (dst:Option Tmp) (x:Operand) (ty:TypeId) (pos:String) (af:Array Edge) (gd:Option (Tmp × Bool)) (a:Act) (w:World) (K:Act→World→Prop) (Q:Exit→Act→World→Prop)
  (hp:zBe (a.eval x)=true) (ht:zi 8 w (zAy (a.eval x)) (zAz (a.eval x))) :
  Oper.wp Tryz.prog ⟨dst,.load 117 x,ty,pos,af,gd⟩ a w K Q=K (a.put dst (.agg (zh 8 w (zAy (a.eval x)) (zAz (a.eval x))).toArray)) w :=
 zD1 Tryz.underlying117 rfl i8h dst x ty pos af gd a w K Q hp ht
theorem zDw (dst:Option Tmp) (x y:Operand) (ty:TypeId) (pos:String) (af:Array Edge) (a:Act) (w:World) (K:Act→World→Prop) (Q:Exit→Act→World→Prop)
  (hp:zBe (a.eval x)=true) (hy:zBX (a.eval y)=true) (ht:zi 8 w (zAy (a.eval x)) (zAz (a.eval x))) (hc:zAS 8 (zAu (a.eval y))) :
  Oper.wp Tryz.prog ⟨dst,.store 117 x y,ty,pos,af,none⟩ a w K Q=K (a.put dst undef) (w.setCells (zAy (a.eval x)) (zAz (a.eval x)) (zAu (a.eval y))) :=
 zCI i8h dst x y ty pos af a w K Q hp hy ht hc
theorem zKF {w:World} {b:Nat} {cs:List Value} (h:zi 8 w b 0) (hc:zAS 8 cs):(loadVar 117 ⟨b,0,none⟩).run Tryz.prog (w.setCells b 0 cs)=.ok (.agg cs.toArray) (w.setCells b 0 cs):=by
 have hr:(w.setCells b 0 cs).rangeAt b 0 cs:=by
  have:=zAi (zDf h b 0 cs)
  rwa [zC5 h hc] at this
 exact run_loadVar_mid (P:=Tryz.prog) _ b 0 117 cs _ hr Tryz.underlying117 rfl (by rw [i8h,hc.1])
def isW:Value→Bool
 | .int .u32 _=>true
 | _=>false
@[simp] theorem isW_eq (z:Int):isW (.int .u32 z)=true:=rfl
theorem zCn {v:Value} (h:isW v=true):∃ z,v=.int .u32 z:=by
 unfold isW at h
 split at h
 · exact ⟨_,rfl⟩
 · cases h
theorem zKv (z0 z1 z2 z3 z4 z5 z6 z7:Int):Tryz.prog.built 117 [(0,.int .u32 z0),(1,.int .u32 z1),(2,.int .u32 z2),(3,.int .u32 z3),(4,.int .u32 z4),(5,.int .u32 z5),(6,.int .u32 z6),(7,.int .u32 z7)]=some #[Value.int .u32 z0,Value.int .u32 z1,Value.int .u32 z2,Value.int .u32 z3,Value.int .u32 z4,Value.int .u32 z5,Value.int .u32 z6,Value.int .u32 z7]:=by kernel_rfl
theorem zHK (dst:Option Tmp) (x0 x1 x2 x3 x4 x5 x6 x7:Operand) (ty:TypeId) (pos:String) (af:Array Edge) (gd:Option (Tmp × Bool)) (a:Act) (w:World) (K:Act→World→Prop) (Q:Exit→Act→World→Prop)
  (h:(isW (a.eval x0) && isW (a.eval x1) && isW (a.eval x2) && isW (a.eval x3) && isW (a.eval x4) && isW (a.eval x5) && isW (a.eval x6) && isW (a.eval x7))=true) :
  Oper.wp Tryz.prog ⟨dst,.build 117 #[(0,x0),(1,x1),(2,x2),(3,x3),(4,x4),(5,x5),(6,x6),(7,x7)],ty,pos,af,gd⟩ a w K Q=K (a.put dst (.agg #[a.eval x0,a.eval x1,a.eval x2,a.eval x3,a.eval x4,a.eval x5,a.eval x6,a.eval x7])) w:=by
 simp only [Bool.and_eq_true] at h
 obtain ⟨⟨⟨⟨⟨⟨⟨h0,h1⟩,h2⟩,h3⟩,h4⟩,h5⟩,h6⟩,h7⟩:=h
 obtain ⟨z0,e0⟩:=zCn h0
 obtain ⟨z1,e1⟩:=zCn h1
 obtain ⟨z2,e2⟩:=zCn h2
 obtain ⟨z3,e3⟩:=zCn h3
 obtain ⟨z4,e4⟩:=zCn h4
 obtain ⟨z5,e5⟩:=zCn h5
 obtain ⟨z6,e6⟩:=zCn h6
 obtain ⟨z7,e7⟩:=zCn h7
 unfold Oper.wp execOp
 have hr:=run_build (P:=Tryz.prog) w 117 #[(0,a.eval x0),(1,a.eval x1),(2,a.eval x2),(3,a.eval x3),(4,a.eval x4),(5,a.eval x5),(6,a.eval x6),(7,a.eval x7)] _ (by
  rw [e0,e1,e2,e3,e4,e5,e6,e7]
  exact zKv z0 z1 z2 z3 z4 z5 z6 z7)
 simp only [List.map_toArray,List.map_cons,List.map_nil,Sem.run_bind,hr,Result.andThen_ok]
 rw [e0,e1,e2,e3,e4,e5,e6,e7]
 rfl
attribute [local go_sem ↓] Go.wp_at_zero Go.wp_at_succ
attribute [local go_sem ↓] zEg zDw zHK
attribute [local go_sem] isW_eq
attribute [local go_sem] ptrB_eq ptrO_eq ptrIs_eq aggL_eq aggIs_eq zS zV zD zF zB zB4
attribute [local go_sem] zJU zEl zJy zLj zLi wz_or zJV zJ0 zJW zD3 zHA zJz zIa zIZ zJ1 zJ2 zIb
set_option maxRecDepth 100000 in
theorem zAn (x:UInt32) (n:Int) (k:Nat) (hn:n=-(k:Int)) (hk:1≤k∧k≤31) (w:World) :
  Calls Tryz.prog 119 #[.int .u32 (wz x),.int .i64 n] w fun e w'=>e=.returned (.int .u32 (wz (ror x k)))∧w=w':=by
 obtain ⟨m,hm⟩:∃ m,m=32 - k:=⟨_,rfl⟩
 have h1:bits .and .u64 (IntKind.u64.wrap n) 31=(m:Int):=by
  subst hn;subst hm
  have:∀ k:Fin 32,1≤k.1→bits .and .u64 (IntKind.u64.wrap (-(k.1:Int))) 31=((32 - k.1:Nat):Int):=by decide
  exact this ⟨k,by omega⟩ hk.1
 have h2:IntKind.u64.wrap (32 - (m:Int))=(k:Int):=by
  rw [IntKind.wrap_u64];omega
 have h3:min m 32=m:=by omega
 have h4:min k 32=k:=by omega
 have m0:(0:Int)≤(m:Int):=by omega
 have k0:(0:Int)≤(k:Int):=by omega
 have HM:=Lib.hid hm
 clear hm hn
 go_enter Tryz.func119,Tryz.ntmps119
 go_wp2
 go_ret
 refine ⟨?_,rfl⟩
 rw [HM.out]
 rfl
def KAt (w:World) (kb ko:Nat):Prop:=kb < w.heap.size∧∀ i,i < 64→w.cell? ⟨kb,ko+i,none⟩=some (.int .u32 (wz (kT.getD i 0)))
def hV (v:H8):List Value:=v.l.map wv
theorem zGZ (v:H8) {i:Nat} (hi:i < 8):(hV v)[i]?=some (wv (v.l.getD i 0)):=by
 have hl:v.l.length=8:=rfl
 unfold hV
 rw [List.getElem?_map,List.getD_eq_getElem?_getD,List.getElem?_eq_getElem (by omega)];rfl
set_option maxRecDepth 100000 in
set_option maxHeartbeats 16000000 in
theorem zF7 (h:H8) (kb ko:Nat) (v:Value) (bs:List UInt8) (w:World) (hk:KAt w kb ko) (hb:Bys w v bs) (hl:bs.length=64) :
  Calls Tryz.prog 111 #[.agg (hV h).toArray,.pointer (some ⟨kb,ko,none⟩),v] w fun e w'=>e=.returned (.agg (hV (mix h bs)).toArray)∧Below w.heap.size w w':=by
 obtain ⟨va,vc,rfl,hc1,hc2,hrow⟩:=hb
 obtain ⟨bb,off,rfl,hcells⟩:=hrow (by omega)
 have hcell:∀ j,j < 64→w.cell? ⟨bb,off+j,none⟩=some (.int .u8 ((bs.getD j 0).toNat:Int)):=fun j hj=>by
  have:=hcells j (bs[j]'(by omega)) (by simp)
  rw [this,List.getD_eq_getElem?_getD,List.getElem?_eq_getElem (by omega)];rfl
 have hbl:bb < w.heap.size:=World.block_lt_of_cell? w _ (hcell 0 (by decide))
 have H:=Lib.hid (And.intro hk (And.intro hcell (And.intro hbl hl)))
 rw [hl] at *
 clear hk hcell hbl hc1 hc2 hrow hcells
 obtain ⟨ch,hch⟩:∃ q,q=hV h:=⟨_,rfl⟩
 have hchl:ch.length=8:=by rw [hch];rfl
 have HCH:=Lib.hid hch
 rw [← hch]
 clear hch hl
 go_enter Tryz.func111,Tryz.ntmps111
 go_upto_region 3 with fail
 obtain ⟨w0,hw0⟩:∃ q,q=((w.alloc (.cells ch.toArray 117)).alloc (.cells #[Value.int IntKind.u32 0,.int .u32 0,.int .u32 0,.int .u32 0,.int .u32 0,.int .u32 0,.int .u32 0,.int .u32 0] 117)).alloc (.cells #[Value.int IntKind.u32 0,.int .u32 0,.int .u32 0,.int .u32 0,.int .u32 0,.int .u32 0,.int .u32 0,.int .u32 0,.int .u32 0,.int .u32 0,.int .u32 0,.int .u32 0,.int .u32 0,.int .u32 0,.int .u32 0,.int .u32 0,.int .u32 0,.int .u32 0,.int .u32 0,.int .u32 0,.int .u32 0,.int .u32 0,.int .u32 0,.int .u32 0,.int .u32 0,.int .u32 0,.int .u32 0,.int .u32 0,.int .u32 0,.int .u32 0,.int .u32 0,.int .u32 0,.int .u32 0,.int .u32 0,.int .u32 0,.int .u32 0,.int .u32 0,.int .u32 0,.int .u32 0,.int .u32 0,.int .u32 0,.int .u32 0,.int .u32 0,.int .u32 0,.int .u32 0,.int .u32 0,.int .u32 0,.int .u32 0,.int .u32 0,.int .u32 0,.int .u32 0,.int .u32 0,.int .u32 0,.int .u32 0,.int .u32 0,.int .u32 0,.int .u32 0,.int .u32 0,.int .u32 0,.int .u32 0,.int .u32 0,.int .u32 0,.int .u32 0,.int .u32 0] 115):=⟨_,rfl⟩
 rw [← hw0]
 have hk3:Blk w0 w.heap.size ch.toArray 117:=by
  rw [hw0];exact ((Blk.new w ch.toArray 117).alloc (.cells #[Value.int IntKind.u32 0,.int .u32 0,.int .u32 0,.int .u32 0,.int .u32 0,.int .u32 0,.int .u32 0,.int .u32 0] 117)).alloc _
 have hk6:Blk w0 (w.heap.size+1) #[Value.int IntKind.u32 0,.int .u32 0,.int .u32 0,.int .u32 0,.int .u32 0,.int .u32 0,.int .u32 0,.int .u32 0] 117:=by
  rw [hw0];exact (Blk.new_at _ _ _ _ (by simp)).alloc _
 have hk7:Blk w0 (w.heap.size+1+1) (zCw bs 0) 115:=by
  rw [hw0];exact Blk.new_at _ _ _ _ (by simp)
 have hb0:Below w.heap.size w w0:=by
  rw [hw0]
  have h1:Below w.heap.size w (w.alloc (.cells ch.toArray 117)):=(Below.refl _ _).alloc (Nat.le_refl _) _
  have h2:=h1.alloc h1.size (.cells #[Value.int IntKind.u32 0,.int .u32 0,.int .u32 0,.int .u32 0,.int .u32 0,.int .u32 0,.int .u32 0,.int .u32 0] 117)
  exact h2.alloc h2.size _
 obtain ⟨p3,hp3⟩:∃ q,q=w.heap.size:=⟨_,rfl⟩
 obtain ⟨p6,hp6⟩:∃ q,q=w.heap.size+1:=⟨_,rfl⟩
 obtain ⟨p7,hp7⟩:∃ q,q=w.heap.size+1+1:=⟨_,rfl⟩
 have HP:=Lib.hid (And.intro hp3 (And.intro hp6 hp7))
 rw [← hp7] at hk7 ⊢
 rw [← hp6] at hk6 ⊢
 rw [← hp3] at hk3 ⊢
 have HB:=Lib.hid (And.intro hk3 (And.intro hk6 (And.intro hk7 hb0)))
 have hp:p3 < p6∧p6 < p7:=by omega
 have hge:w.heap.size≤p3∧w.heap.size≤p7:=by omega
 clear hw0 hk3 hk6 hk7 hb0 hp3 hp6 hp7
 go_loopw [23] (fun vi wr=>∃ i:Nat,i≤16∧vi=.int .i64 i∧Hid (Blk wr p3 ch.toArray 117∧Blk wr p6 #[Value.int IntKind.u32 0,.int .u32 0,.int .u32 0,.int .u32 0,.int .u32 0,.int .u32 0,.int .u32 0,.int .u32 0] 117∧Blk wr p7 (zCw bs i) 115∧Below w.heap.size w wr)) (fun vi _=>16 - (intOf vi).toNat)
 case atStart=>exact ⟨0,Nat.zero_le _,rfl,HB.out⟩
 case round =>
  obtain ⟨i,hi0,rfl,G⟩:=hrel
  by_cases hin:i < 16
  · have i0:(0:Int)≤(i:Int):=by omega
    have i1:(i:Int) < 16:=by omega
    obtain ⟨q,hq⟩:∃ q,q=4*i:=⟨_,rfl⟩
    have e0:IntKind.i64.wrap (4*(i:Int))=(q:Int):=by rw [IntKind.wrap_i64];omega
    have hq1:q≤60:=by omega
    have g0:=(G.out.2.2.2.cell (p:=⟨bb,off+(q+0),none⟩) H.out.2.2.1).trans (H.out.2.1 (q+0) (by omega))
    obtain ⟨x0,hx0⟩:∃ b,b=bs.getD (q+0) 0:=⟨_,rfl⟩
    rw [← hx0] at g0
    have g1:=(G.out.2.2.2.cell (p:=⟨bb,off+(q+1),none⟩) H.out.2.2.1).trans (H.out.2.1 (q+1) (by omega))
    obtain ⟨x1,hx1⟩:∃ b,b=bs.getD (q+1) 0:=⟨_,rfl⟩
    rw [← hx1] at g1
    have g2:=(G.out.2.2.2.cell (p:=⟨bb,off+(q+2),none⟩) H.out.2.2.1).trans (H.out.2.1 (q+2) (by omega))
    obtain ⟨x2,hx2⟩:∃ b,b=bs.getD (q+2) 0:=⟨_,rfl⟩
    rw [← hx2] at g2
    have g3:=(G.out.2.2.2.cell (p:=⟨bb,off+(q+3),none⟩) H.out.2.2.1).trans (H.out.2.1 (q+3) (by omega))
    obtain ⟨x3,hx3⟩:∃ b,b=bs.getD (q+3) 0:=⟨_,rfl⟩
    rw [← hx3] at g3
    rw [Nat.add_zero] at g0
    have HW:Hid (word bs i=shl x0.toUInt32 24 ||| shl x1.toUInt32 16 ||| shl x2.toUInt32 8 ||| x3.toUInt32):=by
     show word bs i=_
     rw [hx0,hx1,hx2,hx3,hq];rfl
    clear hx0 hx1 hx2 hx3
    obtain ⟨z,hz⟩:=zDs bs (i:=i) (j:=i) (by omega) (by omega)
    have c7:wr.cell? ⟨p7,i,none⟩=some (.int .u32 z):=(G.out.2.2.1.cell i).trans hz
    have f7:=G.out.2.2.1.free i
    have HQ:=Lib.hid (And.intro hq hz)
    clear hq hz
    go_upto_region 5 with fail
    refine Tail.zAK 35 (fun w'=>∃ n,w'=wr.drewN n) (by kernel_rfl) (by kernel_rfl) ⟨1,rfl⟩ ?_
    simp only [List.take_succ_cons,List.take_zero,List.drop_succ_cons,List.drop_zero]
    repeat (first
     | go_big_quiet_step (fail)
     | quiet_step (fail))
    refine wpQuiet_nil ?_
    intro _ hw'
    obtain ⟨d5,hw''⟩:=hw'
    subst hw''
    go_wp2_with fail
    refine ⟨⟨i+1,by omega,by simp,?_,?_,?_,?_⟩,by show 16 - ((i:Int)+1).toNat < 16 - (i:Int).toNat;omega⟩
    · exact (G.out.1.drewN d5).set_other (fun e=>by have e':p7=p3:=e;omega) _
    · exact (G.out.2.1.drewN d5).set_other (fun e=>by have e':p7=p6:=e;omega) _
    · have:=(G.out.2.2.1.drewN d5).set i (.int .u32 (wz (word bs i)))
      rw [zDt bs (by omega) _ (zLV bs hin),HW.out] at this
      exact this
    · exact (below_drewN G.out.2.2.2 d5).setCell hge.2 _
  · obtain rfl:i=16:=by omega
    have HG:=Lib.hid G.out
    obtain ⟨w1,hw1⟩:∃ q,q=wr:=⟨_,rfl⟩
    rw [← hw1] at HG ⊢
    clear hw1 G hi0 hin
    go_upto_region 8 with fail
    go_loopw [9] (fun vi wr=>∃ i:Nat,16≤i∧i≤64∧vi=.int .i64 i∧Hid (Blk wr p3 ch.toArray 117∧Blk wr p6 #[Value.int IntKind.u32 0,.int .u32 0,.int .u32 0,.int .u32 0,.int .u32 0,.int .u32 0,.int .u32 0,.int .u32 0] 117∧Blk wr p7 (zCw bs i) 115∧Below w.heap.size w wr)) (fun vi _=>64 - (intOf vi).toNat)
    case atStart=>exact ⟨16,Nat.le_refl _,by decide,rfl,HG.out⟩
    case round =>
     obtain ⟨i,hi0,hi64,rfl,G⟩:=hrel
     by_cases hin:i < 64
     · have i0:(0:Int)≤(i:Int):=by omega
       have i1:(i:Int) < 64:=by omega
       obtain ⟨j16,hj16⟩:∃ j,j=i - 16:=⟨_,rfl⟩
       have e16:(i:Int) - 16=(j16:Int):=by omega
       have b16:j16 < 64:=by omega
       have c16:wr.cell? ⟨p7,j16,none⟩=some (.int .u32 (wz ((sch bs i).getD j16 0))):=(G.out.2.2.1.cell j16).trans (zAs bs (by omega))
       obtain ⟨y16,hy16⟩:∃ b,b=(sch bs i).getD j16 0:=⟨_,rfl⟩
       rw [← hy16] at c16
       obtain ⟨j15,hj15⟩:∃ j,j=i - 15:=⟨_,rfl⟩
       have e15:(i:Int) - 15=(j15:Int):=by omega
       have b15:j15 < 64:=by omega
       have c15:wr.cell? ⟨p7,j15,none⟩=some (.int .u32 (wz ((sch bs i).getD j15 0))):=(G.out.2.2.1.cell j15).trans (zAs bs (by omega))
       obtain ⟨y15,hy15⟩:∃ b,b=(sch bs i).getD j15 0:=⟨_,rfl⟩
       rw [← hy15] at c15
       obtain ⟨j7,hj7⟩:∃ j,j=i - 7:=⟨_,rfl⟩
       have e7:(i:Int) - 7=(j7:Int):=by omega
       have b7:j7 < 64:=by omega
       have c7:wr.cell? ⟨p7,j7,none⟩=some (.int .u32 (wz ((sch bs i).getD j7 0))):=(G.out.2.2.1.cell j7).trans (zAs bs (by omega))
       obtain ⟨y7,hy7⟩:∃ b,b=(sch bs i).getD j7 0:=⟨_,rfl⟩
       rw [← hy7] at c7
       obtain ⟨j2,hj2⟩:∃ j,j=i - 2:=⟨_,rfl⟩
       have e2:(i:Int) - 2=(j2:Int):=by omega
       have b2:j2 < 64:=by omega
       have c2:wr.cell? ⟨p7,j2,none⟩=some (.int .u32 (wz ((sch bs i).getD j2 0))):=(G.out.2.2.1.cell j2).trans (zAs bs (by omega))
       obtain ⟨y2,hy2⟩:∃ b,b=(sch bs i).getD j2 0:=⟨_,rfl⟩
       rw [← hy2] at c2
       have HN:Hid (next (sch bs i)=y16+(ror y15 7 ^^^ ror y15 18 ^^^ shr y15 3)+y7+(ror y2 17 ^^^ ror y2 19 ^^^ shr y2 10)):=by
        show next (sch bs i)=_
        rw [hy16,hy15,hy7,hy2,hj16,hj15,hj7,hj2]
        unfold next
        rw [zCU];rfl
       obtain ⟨z,hz⟩:=zDs bs (i:=i) (j:=i) (by omega) (by omega)
       have c7:wr.cell? ⟨p7,i,none⟩=some (.int .u32 z):=(G.out.2.2.1.cell i).trans hz
       have f7:=G.out.2.2.1.free i
       clear hy16 hy15 hy7 hy2 hj16 hj15 hj7 hj2 hz
       go_upto_region 10 with fail
       go_quiet (fail)
       go_wp2_with fail
       refine (zAn y15 (-7) 7 rfl (by decide) _).mono ?_
       rintro e w' ⟨rfl,rfl⟩
       go_wp2_with fail
       refine (zAn y15 (-18) 18 rfl (by decide) _).mono ?_
       rintro e w' ⟨rfl,rfl⟩
       go_wp2_with fail
       refine (zAn y2 (-17) 17 rfl (by decide) _).mono ?_
       rintro e w' ⟨rfl,rfl⟩
       go_wp2_with fail
       refine (zAn y2 (-19) 19 rfl (by decide) _).mono ?_
       rintro e w' ⟨rfl,rfl⟩
       go_upto_region 13 with fail
       refine Tail.zAK 15 (fun w'=>∃ n,w'=(wr.drewN nq).drewN n) (by kernel_rfl) (by kernel_rfl) ⟨1,rfl⟩ ?_
       simp only [List.take_succ_cons,List.take_zero,List.drop_succ_cons,List.drop_zero]
       repeat (first
        | go_big_quiet_step (fail)
        | quiet_step (fail))
       refine wpQuiet_nil ?_
       intro _ hw'
       obtain ⟨d5,hw''⟩:=hw'
       subst hw''
       rw [World.drewN_drewN]
       generalize nq+d5=d6
       go_wp2_with fail
       go_roundw
       case rel =>
        repeat apply Exists.intro
        refine ⟨⟨i+1,by omega,by omega,by simp,?_,?_,?_,?_⟩,rfl⟩
        · exact (G.out.1.drewN d6).set_other (fun e=>by have e':p7=p3:=e;omega) _
        · exact (G.out.2.1.drewN d6).set_other (fun e=>by have e':p7=p6:=e;omega) _
        · have:=(G.out.2.2.1.drewN d6).set i (.int .u32 (wz (next (sch bs i))))
          rw [zDt bs (by omega) _ (zLU bs hi0),HN.out] at this
          exact this
        · exact (below_drewN G.out.2.2.2 d6).setCell hge.2 _
       case measure =>
        show 64 - ((i:Int)+1).toNat < 64 - (i:Int).toNat
        omega
     · obtain rfl:i=64:=by omega
       have HG:=Lib.hid G.out
       have r3:zh 8 wr p3 0=ch:=zBO G.out.1 hchl
       have h3:zi 8 wr p3 0:=zQ G.out.1 (by simp [hchl])
       have l3:=G.out.1.lt
       have hca:zAS 8 ch:=⟨hchl,fun v hv=>by
        rw [HCH.out] at hv
        unfold hV at hv
        obtain ⟨x,_,rfl⟩:=List.mem_map.1 hv
        rfl⟩
       clear G hi0 hi64 hin
       go_upto_region 16 with fail
       have hk14:Blk (wr.alloc (.cells ch.toArray 117)) wr.heap.size ch.toArray 117:=Blk.new _ _ _
       have h3a:=HG.out.1.alloc (.cells ch.toArray 117)
       have h6a:=HG.out.2.1.alloc (.cells ch.toArray 117)
       have h7a:=HG.out.2.2.1.alloc (.cells ch.toArray 117)
       have hba:=HG.out.2.2.2.alloc HG.out.2.2.2.size (.cells ch.toArray 117)
       have l7:=HG.out.2.2.1.lt
       have l0:=HG.out.2.2.2.size
       obtain ⟨w2,hw2⟩:∃ q,q=wr.alloc (.cells ch.toArray 117):=⟨_,rfl⟩
       obtain ⟨p14,hp14⟩:∃ q,q=wr.heap.size:=⟨_,rfl⟩
       rw [← hw2] at hk14 h3a h6a h7a hba ⊢
       rw [← hp14] at hk14 l7 l0 ⊢
       have HD:=Lib.hid (And.intro h3a (And.intro h6a (And.intro h7a (And.intro hk14 hba))))
       have hp2:p7 < p14:=l7
       have l14:w.heap.size≤p14:=l0
       clear hk14 h3a h6a h7a hba hw2 hp14 r3 h3 l3 HG
       go_loopw [106] (fun vi wr=>∃ i:Nat,i≤64∧vi=.int .i64 i∧Hid (Blk wr p3 ch.toArray 117∧Blk wr p6 #[Value.int IntKind.u32 0,.int .u32 0,.int .u32 0,.int .u32 0,.int .u32 0,.int .u32 0,.int .u32 0,.int .u32 0] 117∧Blk wr p7 (zCw bs 64) 115∧Blk wr p14 (hV (zA3 bs h i)).toArray 117∧Below w.heap.size w wr)) (fun vi _=>64 - (intOf vi).toNat)
       case atStart=>exact ⟨0,Nat.zero_le _,rfl,HD.out.1,HD.out.2.1,HD.out.2.2.1,by rw [zA3,← HCH.out];exact HD.out.2.2.2.1,HD.out.2.2.2.2⟩
       case round =>
        obtain ⟨i,hi0,rfl,G⟩:=hrel
        by_cases hin:i < 64
        · have i0:(0:Int)≤(i:Int):=by omega
          have i1:(i:Int) < 64:=by omega
          obtain ⟨kk,hkk⟩:∃ q,q=kT.getD i 0:=⟨_,rfl⟩
          obtain ⟨ww,hww⟩:∃ q,q=(sch bs 64).getD i 0:=⟨_,rfl⟩
          have ck:=(G.out.2.2.2.2.cell (p:=⟨kb,ko+i,none⟩) H.out.1.1).trans (H.out.1.2 i hin)
          have c7:=(G.out.2.2.1.cell i).trans (zAs bs hin)
          rw [← hkk] at ck
          rw [← hww] at c7
          have hk14:=G.out.2.2.2.1
          have hv:Hid (zA3 bs h (i+1)=rnd (zA3 bs h i) kk ww):=by
           show zA3 bs h (i+1)=_
           rw [zA3,← hkk,← hww]
          obtain ⟨vv,hvv⟩:∃ q,q=zA3 bs h i:=⟨_,rfl⟩
          rw [← hvv] at hk14 hv
          clear hvv hkk hww
          obtain ⟨xa,xb,xc,xd,xe,xf,xg,xh⟩:=vv
          have d0:wr.cell? ⟨p14,0,none⟩=some (.int .u32 (wz xa)):=hk14.cell 0
          have d1:wr.cell? ⟨p14,1,none⟩=some (.int .u32 (wz xb)):=hk14.cell 1
          have d2:wr.cell? ⟨p14,2,none⟩=some (.int .u32 (wz xc)):=hk14.cell 2
          have d3:wr.cell? ⟨p14,3,none⟩=some (.int .u32 (wz xd)):=hk14.cell 3
          have d4:wr.cell? ⟨p14,4,none⟩=some (.int .u32 (wz xe)):=hk14.cell 4
          have d5:wr.cell? ⟨p14,5,none⟩=some (.int .u32 (wz xf)):=hk14.cell 5
          have d6:wr.cell? ⟨p14,6,none⟩=some (.int .u32 (wz xg)):=hk14.cell 6
          have d7:wr.cell? ⟨p14,7,none⟩=some (.int .u32 (wz xh)):=hk14.cell 7
          have f0:wr.frozen? ⟨p14,0,none⟩=false:=hk14.free 0
          have f1:wr.frozen? ⟨p14,1,none⟩=false:=hk14.free 1
          have f2:wr.frozen? ⟨p14,2,none⟩=false:=hk14.free 2
          have f3:wr.frozen? ⟨p14,3,none⟩=false:=hk14.free 3
          have f4:wr.frozen? ⟨p14,4,none⟩=false:=hk14.free 4
          have f5:wr.frozen? ⟨p14,5,none⟩=false:=hk14.free 5
          have f6:wr.frozen? ⟨p14,6,none⟩=false:=hk14.free 6
          have f7:wr.frozen? ⟨p14,7,none⟩=false:=hk14.free 7
          have h14:zi 8 wr p14 0:=zQ hk14 (by simp [hV,H8.l])
          have HK:=Lib.hid hk14
          clear hk14
          go_upto_region 18 with fail
          go_quiet (fail)
          go_wp2_with fail
          refine (zAn xe (-6) 6 rfl (by decide) _).mono ?_
          rintro e w' ⟨rfl,rfl⟩
          go_wp2_with fail
          refine (zAn xe (-11) 11 rfl (by decide) _).mono ?_
          rintro e w' ⟨rfl,rfl⟩
          go_wp2_with fail
          refine (zAn xe (-25) 25 rfl (by decide) _).mono ?_
          rintro e w' ⟨rfl,rfl⟩
          go_upto_region 20 with fail
          go_quiet (fail)
          go_wp2_with fail
          refine (zAn xa (-2) 2 rfl (by decide) _).mono ?_
          rintro e w' ⟨rfl,rfl⟩
          go_wp2_with fail
          refine (zAn xa (-13) 13 rfl (by decide) _).mono ?_
          rintro e w' ⟨rfl,rfl⟩
          go_wp2_with fail
          refine (zAn xa (-22) 22 rfl (by decide) _).mono ?_
          rintro e w' ⟨rfl,rfl⟩
          go_wp2_with fail
          go_roundw
          case rel =>
           repeat apply Exists.intro
           refine ⟨⟨i+1,by omega,by simp,?_,?_,?_,?_,?_⟩,rfl⟩
           · exact ((((((((G.out.1.drewN _).set_other (fun e=>by have e':p14=p3:=e;omega) _).set_other (fun e=>by have e':p14=p3:=e;omega) _).set_other (fun e=>by have e':p14=p3:=e;omega) _).set_other (fun e=>by have e':p14=p3:=e;omega) _).set_other (fun e=>by have e':p14=p3:=e;omega) _).set_other (fun e=>by have e':p14=p3:=e;omega) _).set_other (fun e=>by have e':p14=p3:=e;omega) _).set_other (fun e=>by have e':p14=p3:=e;omega) _
           · exact ((((((((G.out.2.1.drewN _).set_other (fun e=>by have e':p14=p6:=e;omega) _).set_other (fun e=>by have e':p14=p6:=e;omega) _).set_other (fun e=>by have e':p14=p6:=e;omega) _).set_other (fun e=>by have e':p14=p6:=e;omega) _).set_other (fun e=>by have e':p14=p6:=e;omega) _).set_other (fun e=>by have e':p14=p6:=e;omega) _).set_other (fun e=>by have e':p14=p6:=e;omega) _).set_other (fun e=>by have e':p14=p6:=e;omega) _
           · exact ((((((((G.out.2.2.1.drewN _).set_other (fun e=>by have e':p14=p7:=e;omega) _).set_other (fun e=>by have e':p14=p7:=e;omega) _).set_other (fun e=>by have e':p14=p7:=e;omega) _).set_other (fun e=>by have e':p14=p7:=e;omega) _).set_other (fun e=>by have e':p14=p7:=e;omega) _).set_other (fun e=>by have e':p14=p7:=e;omega) _).set_other (fun e=>by have e':p14=p7:=e;omega) _).set_other (fun e=>by have e':p14=p7:=e;omega) _
           · rw [hv.out]
             exact ((((((((HK.out.drewN _).set 0 _).set 1 _).set 2 _).set 3 _).set 4 _).set 5 _).set 6 _).set 7 _
           · exact ((((((((below_drewN G.out.2.2.2.2 _).setCell l14 _).setCell l14 _).setCell l14 _).setCell l14 _).setCell l14 _).setCell l14 _).setCell l14 _).setCell l14 _
          case measure =>
           show 64 - ((i:Int)+1).toNat < 64 - (i:Int).toNat
           omega
        · obtain rfl:i=64:=by omega
          have HG:=Lib.hid G.out
          clear G hi0 hin
          go_upto_region 26 with fail
          obtain ⟨vv,hvv⟩:∃ q,q=zA3 bs h 64:=⟨_,rfl⟩
          have HV:=Lib.hid hvv
          have hg4:=HG.out.2.2.2.1
          have hg3:=HG.out.1
          rw [← hvv] at hg4
          rw [HCH.out] at hg3
          have HG2:=Lib.hid (And.intro hg3 (And.intro HG.out.2.1 (And.intro hg4 HG.out.2.2.2.2)))
          clear hvv hg4 hg3 HG
          go_loopw [190] (fun vi wr=>∃ i:Nat,i≤8∧vi=.int .i64 i∧Hid (Blk wr p3 ((zFg h vv i).map wv).toArray 117∧Blk wr p6 #[Value.int IntKind.u32 0,.int .u32 0,.int .u32 0,.int .u32 0,.int .u32 0,.int .u32 0,.int .u32 0,.int .u32 0] 117∧Blk wr p14 (hV vv).toArray 117∧Below w.heap.size w wr)) (fun vi _=>8 - (intOf vi).toNat)
          case atStart=>exact ⟨0,Nat.zero_le _,rfl,HG2.out⟩
          case round =>
           obtain ⟨i,hi0,rfl,G⟩:=hrel
           by_cases hin:i < 8
           · have i0:(0:Int)≤(i:Int):=by omega
             have i1:(i:Int) < 8:=by omega
             obtain ⟨x,hx⟩:∃ x,x=h.l.getD i 0:=⟨_,rfl⟩
             obtain ⟨y,hy⟩:∃ x,x=vv.l.getD i 0:=⟨_,rfl⟩
             have c3:wr.cell? ⟨p3,i,none⟩=some (.int .u32 (wz x)):=by
              rw [G.out.1.cell,List.getElem?_toArray,List.getElem?_map,zKo h vv hin,← hx];rfl
             have c14:wr.cell? ⟨p14,i,none⟩=some (.int .u32 (wz y)):=by
              rw [G.out.2.2.1.cell,List.getElem?_toArray,zGZ vv hin,hy];rfl
             have f3:=G.out.1.free i
             have hs:Hid ((zFg h vv i).set i (x+y)=zFg h vv (i+1)):=by
              show _=_
              rw [hx,hy];exact zKp h vv hin
             clear hx hy
             go_upto_region 28 with fail
             refine Tail.zAK 9 (fun w'=>∃ n,w'=wr.drewN n) (by kernel_rfl) (by kernel_rfl) ⟨1,rfl⟩ ?_
             simp only [List.take_succ_cons,List.take_zero,List.drop_succ_cons,List.drop_zero]
             repeat (first
              | go_big_quiet_step (fail)
              | quiet_step (fail))
             refine wpQuiet_nil ?_
             intro _ hw'
             obtain ⟨d5,hw''⟩:=hw'
             subst hw''
             go_wp2_with fail
             refine ⟨⟨i+1,by omega,by simp,?_,?_,?_,?_⟩,by show 8 - ((i:Int)+1).toNat < 8 - (i:Int).toNat;omega⟩
             · have:=(G.out.1.drewN d5).set i (.int .u32 (wz (x+y)))
               rw [← wv_eq,List.setIfInBounds_toArray,← List.map_set,hs.out] at this
               exact this
             · exact (G.out.2.1.drewN d5).set_other (fun e=>by have e':p3=p6:=e;omega) _
             · exact (G.out.2.2.1.drewN d5).set_other (fun e=>by have e':p3=p14:=e;omega) _
             · exact (below_drewN G.out.2.2.2 d5).setCell hge.1 _
           · obtain rfl:i=8:=by omega
             have hg:=G.out.1
             rw [addL_8] at hg
             have hq:zFf h vv=mix h bs:=by unfold mix;rw [HV.out]
             rw [hq] at hg
             obtain ⟨cm,hcm⟩:∃ q,q=hV (mix h bs):=⟨_,rfl⟩
             have hg':Blk wr p3 cm.toArray 117:=by rw [hcm];exact hg
             have hcml:cm.length=8:=by rw [hcm];rfl
             have hca2:zAS 8 cm:=⟨hcml,fun v hv=>by
              rw [hcm] at hv
              unfold hV at hv
              obtain ⟨x,_,rfl⟩:=List.mem_map.1 hv
              rfl⟩
             have r3:zh 8 wr p3 0=cm:=zBO hg' hcml
             have h3:zi 8 wr p3 0:=zQ hg' (by simp [hcml])
             have h6:zi 8 wr p6 0:=zQ G.out.2.1 (by simp)
             have HLD:=Lib.hid (zKF h6 hca2)
             have HM:=Lib.hid (And.intro hcm G.out)
             clear hg hg' hq hcm G
             go_wp2_with fail
             refine bodyPost_ret (v:=.agg cm.toArray) (by simp [results,Tryz.results111,asAddr,HLD.out]) rfl ⟨by rw [HM.out.1],?_⟩
             exact (Chg.setCells (S:=fun b=>b=p6) (L:=p6) rfl _ _ _ (Chg.of_below HM.out.2.2.2.2)).below (Nat.le_refl _) (fun k hk=>by rw [hk,HP.out.2.1];omega)
end Go.Proofs.YtdlkghdfkjdajaaGreatDoor
end
section
namespace Go.Mem
open Go Go.RowKit Gf
def Byt (arr:Array Value):Prop:=∀ j,j < arr.size→∃ u:UInt8,arr[j]?=some (.int .u8 (u.toNat:Int))
theorem zLs (m:Nat) (f:Nat→UInt8):Byt (zW m f):=fun j hj=>⟨f j,zAN _ _ _ (by rwa [zq] at hj)⟩
theorem zBx {arr:Array Value}:Byt arr↔∀ v∈arr.toList,∃ u:UInt8,v=.int .u8 (u.toNat:Int):=by
 constructor
 · intro h v hv
   obtain ⟨j,hj,rfl⟩:=List.mem_iff_getElem.1 hv
   have hj':j < arr.size:=by simpa using hj
   obtain ⟨u,hu⟩:=h j hj'
   refine ⟨u,?_⟩
   rw [Array.getElem?_eq_getElem hj'] at hu
   simpa using hu
 · intro h j hj
   obtain ⟨u,hu⟩:=h arr[j] (by simp)
   exact ⟨u,by rw [Array.getElem?_eq_getElem hj,hu]⟩
theorem zDN (bs:List UInt8):∀ v∈bV bs,∃ u:UInt8,v=.int .u8 (u.toNat:Int):=fun v hv=>by
 simp only [bV,List.mem_map] at hv
 obtain ⟨x,_,rfl⟩:=hv
 exact ⟨x,rfl⟩
theorem zEr (k:Nat):∀ v∈(Builtin.zeroCells #[.int .u8 0] k).toList,∃ u:UInt8,v=.int .u8 (u.toNat:Int):=fun v hv=>by
 simp only [Builtin.zeroCells,Array.toList_map,List.mem_map] at hv
 obtain ⟨x,_,rfl⟩:=hv
 exact ⟨0,by simp [Nat.mod_one]⟩
def zBv (t8:TypeId) (w:World) (base:Nat) (v:Value) (bs:List UInt8):Prop :=
 zBp t8 w base v bs∧∀ g,v.ownBlock=some g→∃ arr,Blk w g arr t8∧Byt arr
section
variable {t8:TypeId} {w w':World} {base:Nat} {v:Value} {bs:List UInt8}
theorem zBv.nil (t8:TypeId) (w:World) (base:Nat):zBv t8 w base (.slice none 0 0) []:=⟨zBp.nil _ _ _,fun g h=>by simp [Value.ownBlock] at h⟩
theorem zBv.bys (h:zBv t8 w base v bs):Bys w v bs:=h.1.bys
end
section
variable {P:Program} {w:World} {ops:Array Oper} {rest:List Oper} {o:Oper} {a:Act} {Q:Exit→Act→World→Prop} {K:Act→World→Prop} {E0:Prop}
theorem zID {t e:TypeId} (E:Elem P t e (.int .u8 0) 1) (ty:TypeId) {base:Nat} {v xv:Value} {bs news:List UInt8} (hown:zBv e w base v bs) (hb:Bys w xv news) (hn:bs.length+news.length≤140737488355328) (hbase:base≤w.heap.size) :
  ∃ v' w',(Builtin.append_ #[t,t] ty #[v,xv]).run P w=.ok v' w'∧zBv e w' base v' (bs++news)∧w.grownBy w' v.ownBlock:=by
 obtain ⟨i,hi,hz,hsz,hby⟩:=info_parts E.info
 obtain ⟨hown,hall⟩:=hown
 obtain ⟨ad,cap,rfl,hc1,hc2,hcell⟩:=hb
 cases ad with
 | none =>
   have hl:news=[]:=by
    rcases Nat.eq_zero_or_pos news.length with h0 | h0
    · exact List.eq_nil_of_length_eq_zero h0
    · obtain ⟨b,off,e,_⟩:=hcell h0;cases e
   subst hl
   have hrun:=zCd (P:=P) (w:=w) base t ty e i 1 cap E.under hi v bs.length (bV bs) hown
   refine ⟨v,w,hrun,by rw [List.append_nil];exact ⟨hown,hall⟩,⟨rfl,rfl,rfl,Nat.le_refl _,fun _ _ _=>rfl⟩⟩
 | some ad =>
   have hlen:(bV news).length=news.length*i.size:=by rw [zG,hsz];omega
   have hnews:∀ j y,(bV news)[j]?=some y→w.cell? (ad.add j)=some y:=fun j y hj=>by
    rw [zAd] at hj
    cases hu:news[j]? with
    | none=>rw [hu] at hj;cases hj
    | some u =>
      rw [hu] at hj
      have hjl:j < news.length:=by
       rcases Nat.lt_or_ge j news.length with h' | h'
       · exact h'
       · rw [List.getElem?_eq_none h'] at hu;cases hu
      obtain ⟨b,off,e,hc⟩:=hcell (by omega)
      cases e
      rw [show (⟨b,off,none⟩:Addr).add j=⟨b,off+j,none⟩ from by
       unfold Addr.add
       split
       · subst_vars;rfl
       · rfl]
      rw [hc j u hu]
      simpa using hj
   obtain ⟨v',w',hr,h2,h3,h4⟩:=run_append_own (P:=P) w base t ty e i (.int .u8 0) i.size 1 E.under hi hz rfl hby (by rw [hsz];rfl) (by rw [hsz];decide) v bs.length (bV bs) (by rw [hsz];exact hown) ad news.length cap (bV news) hlen hnews (zAQ _) (by unfold maxLen;omega) (by omega) hbase
   refine ⟨v',w',hr,⟨by unfold zBp;rw [List.length_append,zIh];rw [hsz] at h2;exact h2,fun g hg=>?_⟩,h3⟩
   obtain ⟨hl1,hown2⟩:=id hown
   rcases hown2 with ⟨rfl,hz0⟩ | ⟨g0,cap0,cur,rfl,hbg,hh,hnc,hcm,hcs,htake⟩
   · by_cases hm:news.length=0
     · rw [h4.2 ⟨rfl,hm⟩] at hg;simp [Value.ownBlock] at hg
     · have hr2:=run_append_nil (P:=P) w t ty e i (.int .u8 0) E.under hi hz ad news.length cap (bV news) hlen hnews (by omega) (by omega) (by rw [hby];omega)
       have he:=hr.symm.trans hr2
       injection he with e1 e2
       subst e1 e2
       simp only [Value.ownBlock,Option.some.injEq] at hg
       subst hg
       refine ⟨_,heap_alloc_new w.drew _,zBx.2 fun y hy=>?_⟩
       simp only [Array.toList_append,List.mem_append] at hy
       rcases hy with hy | hy
       · exact zDN _ y (by simpa using hy)
       · exact zEr _ y hy
   · obtain ⟨arr,h5,h6⟩:=hall g0 rfl
     have e:cur=arr:=by
      have:=(show Blk w g0 cur e from hh).symm.trans h5
      injection this with this
      injection this with this
     subst e
     have h6:=zBx.1 h6
     by_cases hroom:bs.length+news.length≤cap0
     · have hr2:=run_append_room (P:=P) w t ty e i E.under hi g0 bs.length cap0 cur hh ad news.length cap (bV news) hlen hnews (zAQ _) hroom (by rw [hlen,hsz];omega)
       have he:=hr.symm.trans hr2
       injection he with e1 e2
       subst e1 e2
       simp only [Value.ownBlock,Option.some.injEq] at hg
       subst hg
       refine ⟨_,setRow_heap w g0 cur _ e _ hh,zBx.2 fun y hy=>?_⟩
       simp only [List.mem_append] at hy
       rcases hy with (hy | hy) | hy
       · exact h6 y (List.mem_of_mem_take hy)
       · exact zDN _ y hy
       · exact h6 y (List.mem_of_mem_drop hy)
     · have hr2:=run_append_grow (P:=P) w t ty e i (.int .u8 0) E.under hi hz ⟨g0,0,none⟩ bs.length cap0 (bV bs) (by rw [hl1,hsz]) (World.ownsRow.cells hown rfl) ad news.length cap (bV news) hlen hnews (by omega) (by omega) (growslice_fits (by omega) (by rw [hby];omega))
       have he:=hr.symm.trans hr2
       injection he with e1 e2
       subst e1 e2
       simp only [Value.ownBlock,Option.some.injEq] at hg
       subst hg
       refine ⟨_,heap_alloc_new w.drew _,zBx.2 fun y hy=>?_⟩
       simp only [Array.toList_append,List.mem_append] at hy
       rcases hy with (hy | hy) | hy
       · exact zDN _ y (by simpa using hy)
       · exact zDN _ y (by simpa using hy)
       · exact zEr _ y hy
theorem wpAppF {t e:TypeId} (E:Elem P t e (.int .u8 0) 1) (s x:Operand) (ho:o.op=.call { callee:=.builtin .append,args:=#[s,x],argTypes:=#[t,t] })
  {base:Nat} {v xv:Value} {bs news:List UInt8} (hs:a.eval s=v) (hx:a.eval x=xv) (hown:zBv e w base v bs) (hb:Bys w xv news) (hn:bs.length+news.length≤140737488355328) (hbase:base≤w.heap.size)
  (h:∀ v' w',zBv e w' base v' (bs++news)∧w.grownBy w' v.ownBlock→K (a.put o.dst v') w'):o.wp P a w K Q:=by
 obtain ⟨v',w',hr,h2,h3⟩:=zID E o.type hown hb hn hbase
 unfold Oper.wp execOp
 simp only [ho,resolve,invoke,builtin,Sem.run_bind,Sem.run_pure,Result.andThen_ok,List.map_toArray,List.map_cons,List.map_nil,hs,hx,hr]
 exact h v' w' ⟨h2,h3⟩
theorem appF {t e:TypeId} (E:Elem P t e (.int .u8 0) 1) (hgd:o.guard=none) (s x:Operand) (ho:o.op=.call { callee:=.builtin .append,args:=#[s,x],argTypes:=#[t,t] })
  {base:Nat} {v xv:Value} {bs news:List UInt8} (hs:a.eval s=v) (hx:a.eval x=xv) (hown:zBv e w base v bs) (hb:Bys w xv news) (hn:bs.length+news.length≤140737488355328) (hbase:base≤w.heap.size)
  (h:∀ v' w',zBv e w' base v' (bs++news)→w.grownBy w' v.ownBlock→wpList P ops Q rest (a.put o.dst v') w'):wpList P ops Q (o::rest) a w :=
 zCW hgd (fun _ hK=>wpAppF E s x ho hs hx hown hb hn hbase hK) fun v' w' h2=>h v' w' h2.1 h2.2
end
end Go.Mem
end
