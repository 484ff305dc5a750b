/- Texts of this proof,packed: SrvNew,SortG,LeaKeys,LeaBare,SrvIdx,SrvRest,SrvReqB. -/
import Derived.Test.YtbbojbdigiibbaaGreatDoorPa12
import Derived.Test.YtbbojbdigiibbaaGreatDoorPa07
import Derived.Shelf.GgSortFunc.InsertionK
import Derived.Test.YtbbojbdigiibbaaGreatDoorPa08
import Derived.Test.YtbbojbdigiibbaaGreatDoorPa02
import Derived.Great.FillDense
section
namespace Go.Mem
open Go Go.RowKit Gf Lea Go.Proofs.YtbbojbdigiibbaaGreatDoor
def zC9 (slots room:Nat):zG:=⟨slots,room,⟨room,List.replicate slots Sto.Rec.free,false,.fresh (slots*(room+1))⟩,[],false⟩
theorem zF5 (slots room:Nat) (h:1≤room∧room≤1000) (h2:slots≤120):zBU 0 (zC9 slots room)∧(∀ nm,Sto.look (zC9 slots room).st.recs nm=none)∧(zC9 slots room).st.disk.stops=false :=
 ⟨⟨zA4.fresh slots room h,Lea.Good.nil,(fun _ h=>by cases h),fun ix _=>.inl ⟨zHs _ _,rfl⟩,rfl,by show slots=(List.replicate slots Sto.Rec.free).length;rw [List.length_replicate],rfl,h2⟩,fun nm=>zHs _ _,rfl⟩
end Go.Mem
namespace Go.Proofs.YtbbojbdigiibbaaGreatDoor
open Go Go.RowKit Go.Mem Gf Lea
attribute [local go_sem ↓] Go.wp_at_zero Go.wp_at_succ
theorem zMl {w w2 w3 w4:World} {sb lb d L tb:Nat} {slots room:Nat} (hS:LabS w w2 sb lb d L ⟨room,List.replicate slots Sto.Rec.free,false,.fresh (slots*(room+1))⟩) (h1:w2.heap.size≤tb) (h2:Heap w3 tb (.slice none 0 0) []) (hb:Below w2.heap.size w2 w3)
  (hw:w4=w3.alloc (.cells (srvV slots room d sb tb false) 95)) :
  ∃ C,zT w4 C (fun _=>False) w3.heap.size (zC9 slots room)∧(∀ b,C b→w.heap.size≤b)∧Below w.heap.size w w4:=by
 have hs2:=hS.bel.size
 have hs3:=hb.size
 have hlt:=hS.st.lt
 have htl:=h2.tab.cell.lt
 have hb4:Below w3.heap.size w3 w4:=by rw [hw];exact (Below.refl _ _).alloc (Nat.le_refl _) _
 have hb24:Below w2.heap.size w2 w4:=hb.trans (hb4.mono hs3)
 have h4:w4.heap.size=w3.heap.size+1:=by rw [hw];simp
 refine ⟨fun b=>(DL d L b∨b=sb∨b=lb)∨b=tb∨b=w3.heap.size,⟨sb,lb,d,L,tb,.slice none 0 0,?_,?_,h2.below hb4,Lea.Good.nil,?_,(fun _ h=>h.elim),?_,?_,(fun g hg=>by cases hg)⟩,?_,hS.bel.trans (hb24.mono hs2)⟩
 · rw [hw];exact Blk.new _ _ _
 · refine hS.st.grow (S:=fun _=>False) (Chg.of_below hb24) (fun _ _ h=>h) (fun _ h=>h.elim) (fun b hM=>?_) (fun b hN=>.inl (.inl hN)) (fun b hM=>?_)
   · rcases hM with (hM | rfl | rfl) | hM
     · exact .inl hM
     · exact .inr h1
     · exact .inr hs3
     · exact hM.elim
   · rcases hM with (hM | rfl | rfl) | hM
     · have:=hS.st.old b hM;omega
     · omega
     · omega
     · exact hM.elim
 · rintro b (hf | rfl | rfl | hv)
   · left
     rcases hf with rfl | rfl | rfl | rfl
     · exact .inr (.inl rfl)
     · exact .inr (.inr rfl)
     · exact .inl (.inl rfl)
     · exact .inl (.inr rfl)
   · exact .inr (.inr rfl)
   · exact .inr (.inl rfl)
   · cases hv
 · intro hf
   have:=hlt _ hf;omega
 · exact ⟨fun hf=>by have:=hlt _ hf;omega,by omega⟩
 · rintro b ((hM | rfl | rfl) | rfl | rfl)
   · rcases hM with rfl | rfl
     · exact hS.d1
     · exact hS.l1
   · exact hS.s1
   · exact hS.b1
   · omega
   · omega
set_option maxRecDepth 100000 in
set_option maxHeartbeats 1000000 in
theorem zFZ (slots room:Nat) (w:World) (hT:Tab w) (h1:1≤slots∧slots≤1024) (h2:1≤room∧room≤1024) (h3:slots*(room+1)≤4096) :
  Calls Tryz.prog 14 #[.int .i64 slots,.int .i64 room] w fun e w'=>∃ pb C,e=.returned (.tuple #[.pointer (some ⟨pb,0,none⟩),.int .i64 0])∧zT w' C (fun _=>False) pb (zC9 slots room)∧(∀ b,C b→w.heap.size≤b)∧Below w.heap.size w w':=by
 obtain ⟨m,hmm⟩:∃ m,m=slots*(room+1):=⟨_,rfl⟩
 have q1:IntKind.i64.wrap ((room:Int)+1)=(room:Int)+1:=IntWalk.i64_in _ (by omega)
 have q2:IntKind.i64.wrap ((slots:Int)*((room:Int)+1))=(m:Int):=by
  have e2:(slots:Int)*((room:Int)+1)=(m:Int):=by rw [hmm];push_cast;rfl
  rw [e2]
  exact IntWalk.i64_in _ (by omega)
 have hm1:1≤m:=by rw [hmm];exact Nat.mul_pos (by omega) (by omega)
 rw [← hmm] at h3
 have i1:decide ((slots:Int) < 1)=false:=by simp;omega
 have i2:decide ((room:Int) < 1)=false:=by simp;omega
 have i3:decide (4096 < (slots:Int))=false:=by simp;omega
 have i4:decide (4096 < (room:Int))=false:=by simp;omega
 have i1':decide (slots < 1)=false:=by simp;omega
 have i2':decide (room < 1)=false:=by simp;omega
 have i3':decide (4096 < slots)=false:=by simp;omega
 have i4':decide (4096 < room)=false:=by simp;omega
 have HM:=Lib.hid hmm
 have HT:=Lib.hid hT
 have HA:=Lib.hid (And.intro h1 (And.intro h2 (And.intro h3 hm1)))
 clear hmm hT h1 h2 h3 hm1
 go_enter Tryz.func14,Tryz.ntmps14
 go_wp2_with fail
 refine (zOX m w w HT.out (Below.refl _ _) HA.out.2.2.2 HA.out.2.2.1).mono ?_
 rintro e w1 ⟨d,L,rfl,hl1,ht,_⟩
 have H1:=Lib.hid (And.intro ht hl1)
 clear ht hl1
 go_wp2_with fail
 refine (zHW H1.out.2 H1.out.1 (slots:=slots) (room:=room) HA.out.1 HA.out.2.1 (by show 0 < _;omega) (l:=List.replicate slots Sto.Rec.free) List.length_replicate (by rw [HM.out];exact Holds.fresh slots room) rfl (zIE slots)).mono ?_
 rintro e w2 ⟨sb,lb,rfl,hs2,_⟩
 have H2:=Lib.hid hs2
 clear hs2
 go_wp2_with fail
 refine (zMP w2).mono ?_
 rintro e w3 ⟨tb,rfl,hn1,hn2,hn3⟩
 have H3:=Lib.hid (And.intro hn1 (And.intro hn2 hn3))
 clear hn1 hn2 hn3
 go_wp2_with fail
 go_ret2
 obtain ⟨C,a1,a2,a3⟩:=zMl (by have:=H2.out;rw [HM.out] at this;exact this) H3.out.1 H3.out.2.1 H3.out.2.2 rfl
 exact ⟨w3.heap.size,C,rfl,a1,a2,a3⟩
end Go.Proofs.YtbbojbdigiibbaaGreatDoor
end
section
namespace Go.Mem
open Go Go.RowKit Gf Go.Sort
section
variable {α:Type} {enc:α→List Value} {Wf:α→Prop} {k:Nat} {ti:TypeId} {w:World} {base g n cap:Nat} {l:List α} [Inhabited {x:α // Wf x}]
omit [Inhabited {x:α // Wf x}] in
theorem toS (hwf:∀ x∈l,Wf x):∃ d:Array {x:α // Wf x},d.toList.map (·.1)=l:=by
 refine ⟨(l.pmap Subtype.mk hwf).toArray,?_⟩
 rw [List.toList_toArray,List.map_pmap]
 simp
def zC8 (enc:α→List Value) (Wf:α→Prop) (x:{x:α // Wf x}):List Value:=enc x.1
theorem zJR (E:zEb enc Wf k) (d:Array {x:α // Wf x}) {j:Nat} (hj:j < d.size*k):(zB3 enc (d.toList.map (·.1)))[j]?=some (flatK (zC8 enc Wf) k d)[j]! := by
 have e:=Nat.div_add_mod' j k
 have hr:=Nat.mod_lt j E.pos
 have hq:j / k < d.size:=Nat.div_lt_of_lt_mul (by rw [Nat.mul_comm];exact hj)
 have hx:(d.toList.map (·.1))[j / k]?=some (d[j / k]!).1:=by
  rw [List.getElem?_map,Array.getElem?_toList,getElem!_pos d _ hq,Array.getElem?_eq_getElem hq];rfl
 have hwf:∀ x∈d.toList.map (·.1),Wf x:=fun x hx=>by
  obtain ⟨y,_,rfl⟩:=List.mem_map.1 hx
  exact y.2
 have:=zBI E _ hwf (j / k) _ hx (j % k) hr
 rw [e] at this
 rw [this,get_flatK _ _ _ _ hj]
 have hl:=E.len _ (d[j / k]!).2
 unfold zC8
 generalize d[j / k]! = y at *
 have hl':j % k < (enc y.1).length:=by omega
 rw [getElem!_pos (enc y.1) (j % k) hl',List.getElem?_eq_getElem hl']
theorem zAq.holds (E:zEb enc Wf k) (h:zAq enc Wf k ti w base g n cap l) (d:Array {x:α // Wf x}) (hd:d.toList.map (·.1)=l):HoldsK (zC8 enc Wf) k w g 0 d:=by
 have hn:d.size=n:=by rw [h.len,← hd];simp
 intro j hj
 rw [size_flatK] at hj
 rw [Nat.zero_add]
 refine ⟨?_,?_⟩
 · rw [h.cell (by rw [← hn];exact hj),← hd,zJR E d hj];rfl
 · obtain ⟨cur,hh,_⟩:=h.block
   have hB:Blk w g cur ti:=hh
   exact hB.free _
theorem zAq.put (E:zEb enc Wf k) (h:zAq enc Wf k ti w base g n cap l) (m:Nat) (os:Array Obj) (d:Array {x:α // Wf x}) (hd:d.size=n) :
  zAq enc Wf k ti (grow (putRowK (zC8 enc Wf) k (Sort.ahead w m) g 0 d) os) base g n cap (d.toList.map (·.1))∧Chg (fun b=>b=g) w (grow (putRowK (zC8 enc Wf) k (Sort.ahead w m) g 0 d) os):=by
 obtain ⟨cur,hh,hb,h1,h2,h3,h4⟩:=h.block
 have hg:g < w.heap.size:=lt_of_block hh
 have hlen:(d.toList.map (·.1)).length=n:=by simp [hd]
 have hwf:∀ x∈d.toList.map (·.1),Wf x:=fun x hx=>by
  obtain ⟨y,_,rfl⟩:=List.mem_map.1 hx
  exact y.2
 have hal:=zCh E _ hwf
 rw [hlen] at hal
 have hm:n*k≤cap*k:=Nat.mul_le_mul_right _ h1
 refine ⟨⟨⟨hal,.inr ⟨g,cap,putCells id 0 (flatK (zC8 enc Wf) k d) cur,rfl,hb,?_,h1,h2,by rw [← h3];simp [putCells],?_⟩⟩,hlen.symm,hwf⟩,⟨rfl,rfl,rfl,?_,fun b hbs hne=>?_⟩⟩
 · rw [heap_grow_old _ _ (by unfold putRowK;rw [size_putRow];exact hg)]
   show ((w.heap).modify g (onCells _))[g]?=_
   rw [Array.getElem?_modify,if_pos rfl,hh];rfl
 · apply List.ext_getElem?
   intro j
   rw [List.getElem?_take,Array.getElem?_toList]
   by_cases hj:j < n*k
   · rw [if_pos hj,zJR E d (by rw [hd];exact hj)]
     have hjc:j < cur.size:=by omega
     unfold putCells
     rw [Array.getElem?_mapIdx,Array.getElem?_eq_getElem hjc,Option.map_some,if_pos ⟨Nat.zero_le _,by rw [size_flatK,hd];omega⟩]
     rfl
   · rw [if_neg hj,List.getElem?_eq_none (by omega)]
 · rw [size_grow]
   unfold putRowK
   rw [size_putRow]
   exact Nat.le_add_right _ _
 · rw [heap_grow_old _ _ (by unfold putRowK;rw [size_putRow];exact hbs)]
   show ((w.heap).modify g (onCells _))[b]?=_
   rw [Array.getElem?_modify,if_neg (fun e=>hne e.symm)]
theorem zGC {d d':Array {x:α // Wf x}} (h:PermIn 0 d.size d d'):(d'.toList.map (·.1)).Perm (d.toList.map (·.1)):=by
 have h2:=h.2.2
 have e1:d.extract 0 d.size=d:=by simp
 have e2:d'.extract 0 d.size=d':=by rw [← h.1];simp
 rw [e1,e2] at h2
 exact h2.map _
theorem zC2 {lt:α→α→Bool} {d:Array {x:α // Wf x}} {m:Nat} (hm:d.size=m) (h:SortedIn (fun a b=>lt a.1 b.1) 0 m d):(d.toList.map (·.1)).Pairwise fun a b=>lt b a=false:=by
 rw [List.pairwise_iff_getElem]
 intro i j hi hj hij
 simp at hi hj
 have:=h i j (Nat.zero_le _) hij (by omega)
 rw [getElem!_pos d i hi,getElem!_pos d j hj] at this
 simpa using this
end
end Go.Mem
end
section
namespace Go.Proofs.YtbbojbdigiibbaaGreatDoor
open Go Go.RowKit Go.Mem Gf Lea Go.Lib Go.Shelf
def WfK (k:Key):Prop:=k.length=16
theorem ecK:zEb bV WfK 16:=⟨fun x h=>by rw [zB];exact h,zAH,by decide⟩
def ltK (a b:Key):Bool:=decide (Go.Lib.compareBytes a b < 0)
theorem ordK:Srt.Ord ltK:=by
 refine ⟨fun a b h=>?_,fun a b c h1 h2=>?_⟩
 · have:=zA0 a b
   unfold ltK at *
   simp only [decide_eq_true_eq,decide_eq_false_iff_not] at *
   omega
 · have e1:=zA0 a b
   have e2:=zA0 b c
   have e3:=zA0 a c
   have:=zCX a b c
   unfold ltK at *
   simp only [decide_eq_false_iff_not] at *
   omega
instance:Inhabited {k:Key // WfK k}:=⟨⟨List.replicate 16 0,by unfold WfK;simp⟩⟩
theorem swoK:Go.Sort.SWO (fun a b:{k:Key // WfK k}=>ltK a.1 b.1):=by
 refine ⟨fun x=>?_,fun x y z h1 h2=>?_,fun x y z h1 h2=>?_⟩
 · show ltK x.1 x.1=false
   unfold ltK;rw [zDH];rfl
 · show ltK x.1 z.1=true
   have h1:ltK x.1 y.1=true:=h1
   have h2:ltK y.1 z.1=true:=h2
   have e:=zA0 x.1 z.1
   have e3:=zA0 x.1 y.1
   have t:=zCX z.1 x.1 y.1
   have t2:=zCX x.1 y.1 z.1
   have e2:=zA0 y.1 z.1
   unfold ltK at *
   simp only [decide_eq_true_eq] at *
   have:=zFG x.1 z.1
   rcases Int.lt_or_le (compareBytes x.1 z.1) 0 with c | c
   · exact c
   · have hz:compareBytes z.1 x.1≤0:=by omega
     have:=zCX y.1 z.1 x.1 (by omega) hz
     omega
 · exact ordK.trans z.1 y.1 x.1 h2 h1
theorem zH8 {w:World} {base g n cap:Nat} {l:List Key} (h:zAq bV WfK 16 39 w base g n cap l) {i:Nat} {x:Key} (hx:l[i]?=some x):Bys w (.slice (some ⟨g,i*16,none⟩) 16 16) x:=by
 have hw:x.length=16:=h.wf x (List.mem_of_getElem? hx)
 refine ⟨_,16,by rw [hw],by omega,by decide,fun _=>⟨g,i*16,rfl,fun j u hj=>?_⟩⟩
 refine h.range ecK hx j _ ?_
 rw [zAr,hj];rfl
attribute [local go_sem ↓] Go.wp_at_zero Go.wp_at_succ
set_option maxRecDepth 100000 in
set_option maxHeartbeats 1000000 in
theorem zGh (w:World) (bx base g n cap:Nat) (l:List Key) (h:zAq bV WfK 16 39 w base g n cap l) (hb:w.cell? ⟨bx,0,none⟩=some (.slice (some ⟨g,0,none⟩) n cap)) (i j:Nat) (x y:Key) (hx:l[i]?=some x) (hy:l[j]?=some y) :
  Calls Tryz.prog 157 #[.int .i64 i,.int .i64 j,.pointer (some ⟨bx,0,none⟩)] w fun e w'=>e=.returned (.bool (ltK x y))∧∃ q,w'=w.drewN q:=by
 have hi:i < n:=by rw [h.len];exact zq hx
 have hj:j < n:=by rw [h.len];exact zq hy
 have i0:(0:Int)≤(i:Int):=by omega
 have i1:(i:Int) < (n:Int):=by omega
 have j0:(0:Int)≤(j:Int):=by omega
 have j1:(j:Int) < (n:Int):=by omega
 have HL:=Lib.hid (And.intro (zH8 h hx) (zH8 h hy))
 have t1:=h.there hi 0 (by decide)
 have t2:=h.there hj 0 (by decide)
 clear h hx hy
 go_enter Tryz.func157,Tryz.ntmps157
 go_wp2_with fail
 go_quiet (exact Calls.quiet_of_same (zF1 _ _ x y _ (HL.out.1.drewN _) (HL.out.2.drewN _)))
 go_wp2
 go_ret
 exact ⟨rfl,nq,rfl⟩
theorem zDo:∀ args w,(callFunc 157 args).run Tryz.prog w=.ok (.enter 157 args) w:=enters_of Tryz.func157 (by kernel_rfl) rfl
noncomputable def ksT:TypeInfo:=(Tryz.prog.info? 73).get (by kernel_rfl)
noncomputable def ksE:TypeInfo:=(Tryz.prog.info? 39).get (by kernel_rfl)
theorem ksK9 (n:Nat) (h2:2≤n):Lib.swapperK n ksE 17=9:=by
 have a:ksE.hasPointers=false:=by kernel_rfl
 have b:ksE.bytes=16:=by kernel_rfl
 have c:(n == 0)=false:=by simp;omega
 have d:(n == 1)=false:=by simp;omega
 simp [Lib.swapperK,a,b,c,d]
theorem zJd (w:World) (p:Option Addr) (n c:Nat) (hn:n≤1) (bx:Nat) :
  Calls Tryz.prog 114 #[.iface 73 (.slice p n c),.func (.func 157) #[] #[.pointer (some ⟨bx,0,none⟩)]] w fun e w'=>e=.returned (.tuple #[])∧Chg (fun _=>False) w w':=by
 obtain ⟨l,hl⟩:∃ l:List Key,l.length=n:=⟨List.replicate n [],by simp⟩
 obtain ⟨f, hf⟩ : ∃ f, Tryz.prog.funcs.findIdx? (·.name == "internal/reflectlite" ++ ".Swapper$" ++ toString (swapperK n ksE 17)) = some f := by
  rcases (by omega:n=0∨n=1) with rfl | rfl
  · exact ⟨192,by kernel_rfl⟩
  · exact ⟨193,by kernel_rfl⟩
 have hb:sliceBound Tryz.prog 39 ksE 17 p n c=#[]:=by
  unfold sliceBound swapperK
  rcases (by omega:n=0∨n=1) with rfl | rfl <;> simp
 have hw:Chg (fun _=>False) w (sliceWorld Tryz.prog Tryz.laysGg6_ren 73 p n c w):=Chg.of_below (((Below.refl _ _).alloc (Nat.le_refl _) _).alloc (by simp) _)
 refine Any.sort_Slice_of_pdq Tryz.laysGg6 73 39 ksT ksE (by kernel_rfl) (by kernel_rfl) (by kernel_rfl) (by kernel_rfl) 17 (fun _=>by kernel_rfl) p n c (by omega) f hf _ _ _ w _ ?_
 rw [hb]
 refine (zEV (zE5 ltK ordK 157 f #[.pointer (some ⟨bx,0,none⟩)] #[] zDo) l n _ hl (by omega) _ (by omega)).mono ?_
 rintro e w' ⟨rfl,_,_,_,_,hc⟩
 exact ⟨rfl,hw.trans hc⟩
theorem zMG (w:World) (bx base g n cap:Nat) (l:List Key) (h:zAq bV WfK 16 39 w base g n cap l) (hb:Blk w bx #[.slice (some ⟨g,0,none⟩) n cap] 73) (hne:bx≠g) (h2:2≤n) (hn:n≤1000000) :
  Calls Tryz.prog 114 #[.iface 73 (.slice (some ⟨g,0,none⟩) n cap),.func (.func 157) #[] #[.pointer (some ⟨bx,0,none⟩)]] w fun e w' =>
   e=.returned (.tuple #[])∧∃ l',zAq bV WfK 16 39 w' base g n cap l'∧l'.Perm l∧(l'.Pairwise fun a b=>ltK b a=false)∧Chg (fun k=>k=g) w w':=by
 obtain ⟨d,hd⟩:=toS h.wf
 have hdn:d.size=n:=by rw [h.len,← hd];simp
 have hH:=h.holds ecK d hd
 have hless:Go.Proofs.LessReadsK Tryz.prog 157 #[.pointer (some ⟨bx,0,none⟩)] (zC8 bV WfK) 16 (fun a b:{k:Key // WfK k}=>ltK a.1 b.1) g 0 d.size w:=by
  intro m os dk hs i j hi hj
  have hp:=h.put ecK m os dk (by omega)
  have hx:(dk.toList.map (·.1))[i]?=some (dk[i]!).1:=by
   rw [List.getElem?_map,Array.getElem?_toList,getElem!_pos dk i (by omega),Array.getElem?_eq_getElem (by omega)];rfl
  have hy:(dk.toList.map (·.1))[j]?=some (dk[j]!).1:=by
   rw [List.getElem?_map,Array.getElem?_toList,getElem!_pos dk j (by omega),Array.getElem?_eq_getElem (by omega)];rfl
  exact zGh _ bx base g n cap _ hp.1 (by simpa using (hp.2.blk hb hne).cell 0) i j _ _ hx hy
 have hf : Tryz.prog.funcs.findIdx? (·.name == "internal/reflectlite" ++ ".Swapper$" ++ toString (swapperK d.size ksE 17)) = some 200 := by
  rw [ksK9 _ (by omega)];kernel_rfl
 have:=Go.Proofs.Any.sort_Slice_cells_sorted Tryz.laysGg6 73 39 ksT ksE (by kernel_rfl) (by kernel_rfl) (by kernel_rfl) (by kernel_rfl) 17 (fun _=>by kernel_rfl) (zC8 bV WfK) 16 (fun x=>ecK.len x.1 x.2) (by kernel_rfl) (fun _=>by kernel_rfl)
  (fun x=>ecK.one x.1) (fun a b:{k:Key // WfK k}=>ltK a.1 b.1) swoK 157 #[.pointer (some ⟨bx,0,none⟩)] zDo g 0 cap d (by omega) (by omega) 200 hf false
  (fun args W=>run_callFunc_extern Tryz.func200 (by kernel_rfl) (by kernel_rfl) (by kernel_rfl) (e:=Extern.ReflectliteSwapper.swap false) (by kernel_rfl) args W) w hless hH (by obtain ⟨cur,hh,_⟩:=h.block;exact lt_of_block hh)
 rw [hdn] at this
 refine this.mono ?_
 rintro e w' ⟨rfl,d',m,os,hp,hs,rfl⟩
 rw [← hdn] at hp
 have hd':d'.size=n:=by rw [hp.1,hdn]
 have hput:=h.put ecK m os d' hd'
 exact ⟨rfl,_,hput.1,by rw [← hd];exact zGC hp,zC2 hd' hs,hput.2⟩
theorem zJc (w:World) (bx base:Nat) (a:Option Addr) (n c:Nat) (l:List Key) (h:zAh bV WfK 16 39 w base (.slice a n c) l) (hb:Blk w bx #[.slice a n c] 73) (hne:(Value.slice a n c).ownBlock≠some bx) (hn:l.length≤1000000) :
  Calls Tryz.prog 114 #[.iface 73 (.slice a n c),.func (.func 157) #[] #[.pointer (some ⟨bx,0,none⟩)]] w fun e w' =>
   e=.returned (.tuple #[])∧∃ l',zAh bV WfK 16 39 w' base (.slice a n c) l'∧l'.Perm l∧(l'.Pairwise fun a b=>ltK b a=false)∧Chg (fun k=>(Value.slice a n c).ownBlock=some k) w w':=by
 have hlen:n=l.length:=by
  obtain ⟨_,_,e⟩:=h.slice
  injection e
 by_cases h2:2≤n
 · obtain ⟨g,cap,e,hr⟩:=h.ex (by omega)
   injection e with ea en ec
   subst ea
   subst ec
   rw [← hlen] at hr
   refine (zMG w bx base g n c l hr hb (fun e=>hne (by rw [e];rfl)) h2 (by omega)).mono ?_
   rintro e w' ⟨rfl,l',h1,h3,h4,h5⟩
   exact ⟨rfl,l',h1.to,h3,h4,h5.mono (fun k hk=>by rw [hk];rfl)⟩
 · refine (zJd w a n c (by omega) bx).mono ?_
   rintro e w' ⟨rfl,h5⟩
   refine ⟨rfl,l,h.chg h5 (fun _ _ h=>h),List.Perm.refl _,?_,h5.mono (fun _ h=>h.elim)⟩
   rw [List.pairwise_iff_getElem]
   intro p q hp hq hpq
   omega
end Go.Proofs.YtbbojbdigiibbaaGreatDoor
end
section
namespace Go.Proofs.YtbbojbdigiibbaaGreatDoor
open Go Go.RowKit Go.Mem Gf Lea
structure zDx (l:List Les) (ks:List Key) (i:Nat) (R:List Key):Prop where
 up:R.Pairwise fun a b=>Go.Lib.compareBytes a b < 0
 mem:∀ k,k∈R↔k∈ks.take i∧∀ x∈l,x.ix≠k
theorem zHh (l:List Les) (ks:List Key):zDx l ks 0 []:=⟨List.Pairwise.nil,fun k=>by simp⟩
section
variable {l:List Les} {ks R:List Key} {i:Nat} {x:Key}
theorem zDA (hx:ks[i]?=some x) (k:Key):k∈ks.take (i+1)↔k∈ks.take i∨k=x:=by
 rw [List.take_add_one,hx,Option.toList_some,List.mem_append,List.mem_singleton]
theorem zI5 (h:zDx l ks i R) (hx:ks[i]?=some x) (hh:¬ ∀ z∈l,z.ix≠x):zDx l ks (i+1) R:=by
 refine ⟨h.up,fun k=>?_⟩
 rw [h.mem,zDA hx]
 constructor
 · rintro ⟨h1,h2⟩;exact ⟨.inl h1,h2⟩
 · rintro ⟨h1 | h1,h2⟩
   · exact ⟨h1,h2⟩
   · subst h1;exact absurd h2 hh
theorem zI4 (h:zDx l ks i R) (hx:ks[i]?=some x) (h0:0 < i) (hd:ks[i - 1]?=some x):zDx l ks (i+1) R:=by
 refine ⟨h.up,fun k=>?_⟩
 have hin:x∈ks.take i:=List.mem_iff_getElem?.2 ⟨i - 1,by rw [List.getElem?_take,if_pos (by omega)];exact hd⟩
 rw [h.mem,zDA hx]
 constructor
 · rintro ⟨h1,h2⟩;exact ⟨.inl h1,h2⟩
 · rintro ⟨h1 | h1,h2⟩
   · exact ⟨h1,h2⟩
   · subst h1;exact ⟨hin,h2⟩
theorem zFA (h:zDx l ks i R) (hs:ks.Pairwise fun a b=>ltK b a=false) (hx:ks[i]?=some x) (hd:∀ y,0 < i→ks[i - 1]?=some y→y≠x) (hn:∀ z∈l,z.ix≠x):zDx l ks (i+1) (R++[x]):=by
 have hle:∀ {p q:Nat} {a b:Key},p < q→ks[p]?=some a→ks[q]?=some b→Go.Lib.compareBytes a b≤0:=fun {p q a b} hpq ha hb=>by
  rw [List.pairwise_iff_getElem] at hs
  have hp:=zq ha
  have hq:=zq hb
  have:=hs p q hp hq hpq
  rw [List.getElem?_eq_getElem hp] at ha
  rw [List.getElem?_eq_getElem hq] at hb
  cases ha;cases hb
  have e:=zA0 ks[p] ks[q]
  unfold ltK at this
  simp only [decide_eq_false_iff_not] at this
  omega
 refine ⟨?_,fun k=>?_⟩
 · rw [List.pairwise_append]
   refine ⟨h.up,List.pairwise_singleton _ _,fun a ha b hb=>?_⟩
   rw [List.mem_singleton.1 hb]
   obtain ⟨j,hj⟩:=List.mem_iff_getElem?.1 ((h.mem a).1 ha).1
   rw [List.getElem?_take] at hj
   by_cases hji:j < i
   · rw [if_pos hji] at hj
     have h1:=hle hji hj hx
     by_cases e:Go.Lib.compareBytes a x=0
     · have hax:=zFG _ _ e
       subst hax
       have hy:ks[i - 1]?=some (ks[i - 1]'(by have:=zq hx;omega)):=by simp
       generalize ks[i - 1]'(by have:=zq hx;omega)=y at hy
       have h3:=hle (by omega:i - 1 < i) hy hx
       have h4:Go.Lib.compareBytes a y≤0:=by
        rcases Nat.lt_or_ge j (i - 1) with c | c
        · exact hle c hj hy
        · have:j=i - 1:=by omega
          subst this
          rw [hj] at hy;cases hy
          rw [zDH];omega
       have e2:=zA0 a y
       have:=zFG y a (by omega)
       exact absurd this (hd y (by omega) hy)
     · omega
   · rw [if_neg hji] at hj;cases hj
 · rw [List.mem_append,List.mem_singleton,h.mem,zDA hx]
   constructor
   · rintro (⟨h1,h2⟩ | rfl)
     · exact ⟨.inl h1,h2⟩
     · exact ⟨.inr rfl,hn⟩
   · rintro ⟨h1 | h1,h2⟩
     · exact .inl ⟨h1,h2⟩
     · exact .inr h1
end
theorem EKk:zDD Tryz.prog 73 39 (.agg (List.replicate 16 (Value.int .u8 0)).toArray) 16 16:=⟨Tryz.underlying73,by kernel_rfl,rfl,by decide⟩
theorem zCb (dst:Option Tmp) (x:Operand) (ty:TypeId) (pos:String) (af:Array Edge) (a:Act) (w:World) (K:Act→World→Prop) (Q:Exit→Act→World→Prop) (hy:zA5 (a.eval x)=true) (hc:zAQ 16 (zAn (a.eval x))) :
  Oper.wp Tryz.prog ⟨dst,.buildSlice 73 1 #[(0,x)],ty,pos,af,none⟩ a w K Q=K (a.put dst (.slice (some ⟨w.heap.size,0,none⟩) 1 1)) (w.alloc (.cells (zAn (a.eval x)).toArray 39)) :=
 zFz Tryz.underlying73 (by kernel_rfl) (by decide) (by decide) dst x ty pos af a w K Q hy hc
theorem zBl (dst:Option Tmp) (x y:Operand) (ty:TypeId) (pos:String) (af:Array Edge) (a:Act) (w:World) (K:Act→World→Prop) (Q:Exit→Act→World→Prop)
  (hp:zAz (a.eval x)=true) (hy:zA5 (a.eval y)=true) (ht:zY 16 w (zAM (a.eval x)) (zAN (a.eval x))) (hc:zAQ 16 (zAn (a.eval y))) :
  Oper.wp Tryz.prog ⟨dst,.store 39 x y,ty,pos,af,none⟩ a w K Q=K (a.put dst undef) (w.setCells (zAM (a.eval x)) (zAN (a.eval x)) (zAn (a.eval y))) :=
 zBP i16 dst x y ty pos af a w K Q hp hy ht hc
attribute [local go_sem ↓] Go.wp_at_zero Go.wp_at_succ
theorem zH2 (dst:Option Tmp) (x:Operand) (ty:TypeId) (pos:String) (af:Array Edge) (gd:Option (Tmp × Bool)) (a:Act) (W:World) (K:Act→Prop)
  (hp:zAz (a.eval x)=true) (ht:zY 16 W (zAM (a.eval x)) (zAN (a.eval x))) :
  Oper.quiet Tryz.prog ⟨dst,.load 39 x,ty,pos,af,gd⟩ a (fun w'=>∃ n,w'=W.drewN n) K=K (a.put dst (.agg (zN 16 W (zAM (a.eval x)) (zAN (a.eval x))).toArray)) :=
 zJ1 Tryz.underlying39 rfl i16 dst x ty pos af gd a W K hp ht
attribute [local go_sem ↓] zAK zBl zCb zH2
attribute [local go_sem] ptrB_eq ptrO_eq ptrIs_eq aggL_eq aggIs_eq zS ze zC zF zX zZ zV zH zJ
set_option maxRecDepth 100000 in
set_option maxHeartbeats 1000000 in
theorem zKZ (w:World) (tb:Nat) (v:Value) (l:List Les) (base:Nat) (a:Option Addr) (n c:Nat) (ks:List Key) (h:LTab w tb v l) (hl:l.length≤90000) (h8:∀ ix,(ofL l ix).length≤12)
  (hk:zAh bV WfK 16 39 w base (.slice a n c) ks) (hkn:ks.length≤1000000) (hsep:∀ g,(Value.slice a n c).ownBlock=some g→g≠tb∧v.ownBlock≠some g) :
  Calls Tryz.prog 105 #[.pointer (some ⟨tb,0,none⟩),.slice a n c] w fun e w'=>∃ vo R,e=.returned vo∧zAh bV WfK 16 39 w' w.heap.size vo R∧zDx l ks ks.length R∧Chg (fun b=>(Value.slice a n c).ownBlock=some b) w w':=by
 have hlen:n=ks.length:=by
  obtain ⟨_,_,e⟩:=hk.slice
  injection e
 have hlt:(Value.slice a n c).ownBlock≠some w.heap.size:=fun e=>by
  have:=hk.own.lt _ e
  omega
 have hnn:n≤1000000:=by omega
 have H:=Lib.hid (And.intro h (And.intro h8 (And.intro hk (And.intro hsep (And.intro hlen hlt)))))
 have HB:Hid (Below w.heap.size w (w.alloc (.cells #[.slice a n c] 73))):=(Below.refl _ _).alloc (Nat.le_refl _) _
 clear h h8 hk hsep hlen hlt
 go_enter Tryz.func105,Tryz.ntmps105
 have HP:Hid (Blk (w.alloc (.cells #[.slice a n c] 73)) w.heap.size #[.slice a n c] 73):=Blk.new _ _ _
 obtain ⟨p3,hp3⟩:∃ p,p=w.heap.size:=⟨_,rfl⟩
 obtain ⟨w0,hw0⟩:∃ x,x=w.alloc (.cells #[.slice a n c] 73):=⟨_,rfl⟩
 have HP3:=Lib.hid hp3
 have HW0:=Lib.hid hw0
 go_upto_region 1 with fail
 rw [← hw0] at HB HP ⊢
 rw [← hp3] at HP ⊢
 have q3:w0.cell? ⟨p3,0,none⟩=some (.slice a n c):=by simpa using HP.out.cell 0
 clear hp3 hw0
 go_wp2_with fail
 refine (zJc w0 p3 base a n c ks (H.out.2.2.1.chg (S:=fun _=>False) (Chg.of_below HB.out) (fun _ _ h=>h)) HP.out (by rw [HP3.out];exact H.out.2.2.2.2.2) hkn).mono ?_
 rintro r w2 ⟨rfl,ks',hk2,hp2,hs2,hc2⟩
 have hb2:=hc2.blk HP.out (by rw [HP3.out];exact H.out.2.2.2.2.2)
 have hT2:=(H.out.1.below HB.out).chg hc2 (fun e=>(H.out.2.2.2.1 _ e).1 rfl) (fun g hg e=>(H.out.2.2.2.1 g e).2 hg)
 have q3:w2.cell? ⟨p3,0,none⟩=some (.slice a n c):=by simpa using hb2.cell 0
 have hcw:Chg (fun b=>(Value.slice a n c).ownBlock=some b) w w2:=(Chg.of_below HB.out).trans hc2
 have hn2:n=ks'.length:=by rw [hp2.length_eq];exact H.out.2.2.2.2.1
 have hg2:0 < n→∃ g,a=some ⟨g,0,none⟩∧zAq bV WfK 16 39 w2 base g n c ks':=fun h0=>by
  obtain ⟨g,cap,e,hr⟩:=hk2.ex (by omega)
  injection e with ea en ec
  rw [← ec,← hn2] at hr
  exact ⟨g,ea,hr⟩
 have l3:=hb2.lt
 have H2:=Lib.hid (And.intro hb2 (And.intro hT2 (And.intro hcw (And.intro hn2 (And.intro hg2 (And.intro hp2 hs2))))))
 clear hb2 hT2 hcw hn2 hg2 hp2 hs2 hc2 hk2
 go_upto_region 4 with fail
 go_loopw [5,14] (fun v5 vi wr=>∃ (i:Nat) (R:List Key),i≤n∧vi=.int .i64 i∧Hid (zAh bV WfK 16 39 wr w2.heap.size v5 R∧zDx l ks' i R∧Chg (fun k=>w2.heap.size≤k) w2 wr∧R.length≤i)) (fun _ vi _=>n - (intOf vi).toNat)
 case atStart=>exact ⟨0,[],Nat.zero_le _,rfl,zAh.nil _ _ _ _ _ _,zHh _ _,Chg.refl _ _,Nat.le_refl _⟩
 case round =>
  obtain ⟨i,R,hi0,rfl,G⟩:=hrel
  by_cases hin:i < n
  · obtain ⟨g,rfl,hr0⟩:=H2.out.2.2.2.2.1 (by omega)
    have hB:Below w2.heap.size w2 wr:=G.out.2.2.1.below (Nat.le_refl _) (fun _ h=>h)
    have hrow:=hr0.chg (S:=fun _=>False) (Chg.of_below hB) (fun h=>h)
    have hx:ks'[i]?=some (ks'[i]'(by have:=H2.out.2.2.2.1;omega)):=by simp
    generalize ks'[i]'(by have:=H2.out.2.2.2.1;omega)=x at hx
    have wx:x.length=16:=hrow.wf x (List.mem_of_getElem? hx)
    have rx:=hrow.read ecK hx
    have t1:zY 16 wr g (i*16):=hrow.there hin
    have ax:zAQ 16 (bV x):=⟨(zAT wx).2,zAH x⟩
    have k1:=(zAT wx).1
    have k2:=(zAT wx).2
    have gl:g < wr.heap.size:=hrow.lt
    have gl1:g < wr.heap.size+1:=by omega
    have hb3:=H2.out.1.kept hB
    have q3:wr.cell? ⟨p3,0,none⟩=some (.slice (some ⟨g,0,none⟩) n c):=by simpa using hb3.cell 0
    have l3:=hb3.lt
    have i0:(0:Int)≤(i:Int):=by omega
    have i1:(i:Int) < (n:Int):=by omega
    have HX:=Lib.hid (And.intro hx (And.intro hrow hb3))
    have hT:=H2.out.2.1.below hB
    obtain ⟨m,hm⟩:∃ m,m=(ofL l x).length:=⟨_,rfl⟩
    have hof:∀ W (d:Nat),W=(wr.alloc (.cells (bV x).toArray 39)).drewN d→Calls Tryz.prog 65 #[.pointer (some ⟨tb,0,none⟩),.agg (bV x).toArray] W fun r w'=>∃ a c,r=.returned (.slice a m c)∧Below wr.heap.size wr w'∧zN 16 w' wr.heap.size 0=bV x∧zY 16 w' wr.heap.size 0:=fun W d hW=>by
     have h0:Below wr.heap.size wr W:=by rw [hW];exact below_drewN ((Below.refl _ _).alloc (Nat.le_refl _) _) d
     have hb0:Blk W wr.heap.size (bV x).toArray 39:=by rw [hW];exact (Blk.new _ _ _).drewN d
     refine (zCo W tb v l x (hT.below h0) (by omega) wx (H.out.2.1 x)).mono ?_
     rintro r w' ⟨vo,out,rfl,hO,hR,hB'⟩
     obtain ⟨a,c,rfl⟩:=hO.slice
     have hb':=hb0.kept hB'
     exact ⟨a,c,by rw [hR.perm.length_eq,hm],h0.trans (hB'.mono h0.size),zP hb' (by rw [zB];exact wx),zL hb' (by simp [zB,wx])⟩
    have hm2:(m=0→∀ z∈l,z.ix≠x)∧(m≠0→¬ ∀ z∈l,z.ix≠x):=by
     constructor
     · intro e
       exact zFT.1 (List.eq_nil_of_length_eq_zero (by omega))
     · intro e h
       exact e (by rw [hm,zFT.2 h];rfl)
    have HOF:=Lib.hid hof
    have HM:=Lib.hid hm2
    clear hx hrow hb3 hT hof hm hm2 hr0 hB
    by_cases c0:i=0
    · have d0:decide ((i:Int)=0)=true:=by simp;omega
      have d0':((i:Int) == 0)=true:=by simp;omega
      have C0:=Lib.hid c0
      clear c0
      by_cases cm:m=0
      · subst cm
        have HN:=Lib.hid (HM.out.1 rfl)
        go_upto_region 6 with fail
        refine Tail.zAG 14 (fun w'=>∃ n,w'=(wr.alloc (.cells (bV x).toArray 39)).drewN n) (by kernel_rfl) (by kernel_rfl) ⟨1,rfl⟩ ?_
        simp only [List.take_succ_cons,List.take_zero,List.drop_succ_cons,List.drop_zero]
        repeat (first
         | go_big_quiet_step (fail)
         | quiet_step (fail))
        refine wpQuiet_nil ?_
        intro _ hw'
        obtain ⟨d5,hw''⟩:=hw'
        subst hw''
        go_wp2_with
         (first
          | (refine (HOF.out _ d5 rfl).mono ?_
             rintro r w3 ⟨a3,c3,rfl,hB3,r7,h7⟩
             have HO3:=Lib.hid (G.out.1.chg (S:=fun _=>False) (Chg.of_below hB3) (fun _ _ h=>h))
             have HC3:=Lib.hid (G.out.2.2.1.trans_below hB3)
             have hz3:w2.heap.size≤w3.heap.size:=Nat.le_trans G.out.2.2.1.size hB3.size
             clear hB3)
          | (refine zBV EKk ecK (by rfl) _ _ (by rfl) (base:=w2.heap.size) (l:=R) (cx:=1) (e':=39) x wx (by rfl) (by rfl) (Blk.new_at _ _ _ _ (by simp)) (HO3.out.chg (S:=fun _=>False) (Chg.of_below ((Below.refl _ _).alloc (Nat.le_refl _) _)) (fun _ _ h=>h)) (by have:=G.out.2.2.2;have:=H.out.2.2.2.2.1;omega) (by decide) (by simp;omega) ?_
             intro v1 x1 hv1 hg1 hs1
             have HV1:=Lib.hid hv1
             have HC1:=Lib.hid ((HC3.out.trans_below ((Below.refl _ _).alloc (Nat.le_refl _) _)).grown hg1 (fun q hq=>.inl (HO3.out.ge hq)))
             clear hv1 hg1 hs1)
          | fail)
        exact ⟨⟨i+1,R++[x],by omega,by simp,HV1.out,zFA G.out.2.1 H2.out.2.2.2.2.2.2 HX.out.1 (fun _ h0 _=>absurd C0.out (by omega)) HN.out,HC1.out,by have:=G.out.2.2.2;simp;omega⟩,by show n - ((i:Int)+1).toNat < n - (i:Int).toNat;omega⟩
      · have HN:=Lib.hid (HM.out.2 cm)
        have dm:decide ((m:Int)=0)=false:=by simp;omega
        have dm':((m:Int) == 0)=false:=by simp;omega
        replace cm:=Lib.hid cm
        go_upto_region 6 with fail
        refine Tail.zAG 14 (fun w'=>∃ n,w'=(wr.alloc (.cells (bV x).toArray 39)).drewN n) (by kernel_rfl) (by kernel_rfl) ⟨1,rfl⟩ ?_
        simp only [List.take_succ_cons,List.take_zero,List.drop_succ_cons,List.drop_zero]
        repeat (first
         | go_big_quiet_step (fail)
         | quiet_step (fail))
        refine wpQuiet_nil ?_
        intro _ hw'
        obtain ⟨d5,hw''⟩:=hw'
        subst hw''
        go_wp2_with
         (first
          | (refine (HOF.out _ d5 rfl).mono ?_
             rintro r w3 ⟨a3,c3,rfl,hB3,r7,h7⟩
             have HO3:=Lib.hid (G.out.1.chg (S:=fun _=>False) (Chg.of_below hB3) (fun _ _ h=>h))
             have HC3:=Lib.hid (G.out.2.2.1.trans_below hB3)
             have hz3:w2.heap.size≤w3.heap.size:=Nat.le_trans G.out.2.2.1.size hB3.size
             clear hB3)
          | fail)
        exact ⟨⟨i+1,R,by omega,by simp,HO3.out,zI5 G.out.2.1 HX.out.1 HN.out,HC3.out,by have:=G.out.2.2.2;omega⟩,by show n - ((i:Int)+1).toNat < n - (i:Int).toNat;omega⟩
    · have d0:decide ((i:Int)=0)=false:=by simp;omega
      have d0':((i:Int) == 0)=false:=by simp;omega
      obtain ⟨y,hy⟩:∃ y,ks'[i - 1]?=some y:=⟨_,List.getElem?_eq_getElem (by have:=H2.out.2.2.2.1;omega)⟩
      have wy:y.length=16:=HX.out.2.1.wf y (List.mem_of_getElem? hy)
      have ry:=HX.out.2.1.read ecK hy
      have t2:zY 16 wr g ((i - 1)*16):=HX.out.2.1.there (by omega)
      have eyx:=zGr y x wy wx
      obtain ⟨j,hj⟩:∃ j,j=i - 1:=⟨_,rfl⟩
      have ej:(i:Int) - 1=(j:Int):=by omega
      have j0:(0:Int)≤(j:Int):=by omega
      have j1:(j:Int) < (n:Int):=by omega
      rw [← hj] at hy ry t2
      have C0:=Lib.hid (And.intro hj (And.intro c0 hy))
      clear hj c0 hy
      by_cases ce:y=x
      · have d1:decide (y=x)=true:=by simpa using ce
        replace ce:=Lib.hid ce
        go_upto_region 6 with fail
        go_quiet (fail)
        go_wp2_with fail
        have hB4:Below wr.heap.size wr ((wr.alloc (.cells (bV x).toArray 39)).drewN nq):=below_drewN ((Below.refl _ _).alloc (Nat.le_refl _) _) nq
        exact ⟨⟨i+1,R,by omega,by simp,G.out.1.chg (S:=fun _=>False) (Chg.of_below hB4) (fun _ _ h=>h),zI4 G.out.2.1 HX.out.1 (by have:=C0.out.2.1;omega) (by rw [← C0.out.1,C0.out.2.2,ce.out]),G.out.2.2.1.trans_below hB4,by have:=G.out.2.2.2;omega⟩,by show n - ((i:Int)+1).toNat < n - (i:Int).toNat;omega⟩
      · have d1:decide (y=x)=false:=by simpa using ce
        replace ce:=Lib.hid ce
        by_cases cm:m=0
        · subst cm
          have HN:=Lib.hid (HM.out.1 rfl)
          go_upto_region 6 with fail
          refine Tail.zAG 14 (fun w'=>∃ n,w'=(wr.alloc (.cells (bV x).toArray 39)).drewN n) (by kernel_rfl) (by kernel_rfl) ⟨1,rfl⟩ ?_
          simp only [List.take_succ_cons,List.take_zero,List.drop_succ_cons,List.drop_zero]
          repeat (first
           | go_big_quiet_step (fail)
           | quiet_step (fail))
          refine wpQuiet_nil ?_
          intro _ hw'
          obtain ⟨d5,hw''⟩:=hw'
          subst hw''
          go_wp2_with
           (first
            | (refine (HOF.out _ d5 rfl).mono ?_
               rintro r w3 ⟨a3,c3,rfl,hB3,r7,h7⟩
               have HO3:=Lib.hid (G.out.1.chg (S:=fun _=>False) (Chg.of_below hB3) (fun _ _ h=>h))
               have HC3:=Lib.hid (G.out.2.2.1.trans_below hB3)
               have hz3:w2.heap.size≤w3.heap.size:=Nat.le_trans G.out.2.2.1.size hB3.size
               clear hB3)
            | (refine zBV EKk ecK (by rfl) _ _ (by rfl) (base:=w2.heap.size) (l:=R) (cx:=1) (e':=39) x wx (by rfl) (by rfl) (Blk.new_at _ _ _ _ (by simp)) (HO3.out.chg (S:=fun _=>False) (Chg.of_below ((Below.refl _ _).alloc (Nat.le_refl _) _)) (fun _ _ h=>h)) (by have:=G.out.2.2.2;have:=H.out.2.2.2.2.1;omega) (by decide) (by simp;omega) ?_
               intro v1 x1 hv1 hg1 hs1
               have HV1:=Lib.hid hv1
               have HC1:=Lib.hid ((HC3.out.trans_below ((Below.refl _ _).alloc (Nat.le_refl _) _)).grown hg1 (fun q hq=>.inl (HO3.out.ge hq)))
               clear hv1 hg1 hs1)
            | fail)
          exact ⟨⟨i+1,R++[x],by omega,by simp,HV1.out,zFA G.out.2.1 H2.out.2.2.2.2.2.2 HX.out.1 (fun z h0 hz e=>ce.out (by have h1:=C0.out.2.2;rw [C0.out.1,hz] at h1;cases h1;exact e)) HN.out,HC1.out,by have:=G.out.2.2.2;simp;omega⟩,by show n - ((i:Int)+1).toNat < n - (i:Int).toNat;omega⟩
        · have HN:=Lib.hid (HM.out.2 cm)
          have dm:decide ((m:Int)=0)=false:=by simp;omega
          have dm':((m:Int) == 0)=false:=by simp;omega
          replace cm:=Lib.hid cm
          go_upto_region 6 with fail
          refine Tail.zAG 14 (fun w'=>∃ n,w'=(wr.alloc (.cells (bV x).toArray 39)).drewN n) (by kernel_rfl) (by kernel_rfl) ⟨1,rfl⟩ ?_
          simp only [List.take_succ_cons,List.take_zero,List.drop_succ_cons,List.drop_zero]
          repeat (first
           | go_big_quiet_step (fail)
           | quiet_step (fail))
          refine wpQuiet_nil ?_
          intro _ hw'
          obtain ⟨d5,hw''⟩:=hw'
          subst hw''
          go_wp2_with
           (first
            | (refine (HOF.out _ d5 rfl).mono ?_
               rintro r w3 ⟨a3,c3,rfl,hB3,r7,h7⟩
               have HO3:=Lib.hid (G.out.1.chg (S:=fun _=>False) (Chg.of_below hB3) (fun _ _ h=>h))
               have HC3:=Lib.hid (G.out.2.2.1.trans_below hB3)
               have hz3:w2.heap.size≤w3.heap.size:=Nat.le_trans G.out.2.2.1.size hB3.size
               clear hB3)
            | fail)
          exact ⟨⟨i+1,R,by omega,by simp,HO3.out,zI5 G.out.2.1 HX.out.1 HN.out,HC3.out,by have:=G.out.2.2.2;omega⟩,by show n - ((i:Int)+1).toNat < n - (i:Int).toNat;omega⟩
  · go_wp2_with fail
    go_ret
    have hfull:ks'.take i=ks':=List.take_of_length_le (by have:=H2.out.2.2.2.1;omega)
    refine ⟨u5,R,rfl,G.out.1.lower H2.out.2.2.1.size,⟨G.out.2.1.up,fun k=>?_⟩,H2.out.2.2.1.mix G.out.2.2.1 (fun k hk=>.inr (Nat.le_trans H2.out.2.2.1.size hk))⟩
    rw [G.out.2.1.mem,hfull,List.take_of_length_le (Nat.le_refl _),H2.out.2.2.2.2.2.1.mem_iff]
end Go.Proofs.YtbbojbdigiibbaaGreatDoor
end
section
namespace Go.Mem
open Go Go.RowKit Gf Lea Go.Proofs.YtbbojbdigiibbaaGreatDoor
theorem zNB:∀ a b:List UInt8,a≤b→Go.Lib.compareBytes a b≤0
 | [],[],_=>by simp [Go.Lib.compareBytes]
 | [],_::_,_=>by simp [Go.Lib.compareBytes]
 | x::a,[],h=>by simp at h
 | x::a,y::b,h=>by
   rw [List.cons_le_cons_iff] at h
   simp only [Go.Lib.compareBytes]
   rcases h with h | ⟨rfl,h⟩
   · rw [if_pos h];omega
   · have:=zNB a b h
     rw [if_neg (UInt8.lt_irrefl x),if_neg (UInt8.lt_irrefl x)]
     exact this
structure zIz (st:St) (R:List Key):Prop where
 up:R.Pairwise fun a b=>Go.Lib.compareBytes a b < 0
 mem:∀ k,k∈R↔st.dead=false∧∃ r∈st.recs,r.is=true∧zDt r.name=k
theorem zIz.nodup {st:St} {R:List Key} (h:zIz st R):R.Nodup:=h.up.imp fun {a b} h e=>by rw [e,zDH] at h;omega
theorem zEv {st:St} {x:List UInt8}:x∈st.names↔st.dead=false∧∃ r∈st.recs,r.is=true∧r.name.data.toList=x:=by
 unfold St.names
 cases st.dead with
 | true=>simp
 | false =>
   simp only [Bool.false_eq_true,if_false,true_and]
   rw [zG1]
   constructor
   · rintro ⟨i,r,_,h1,h2,h3⟩
     exact ⟨r,List.mem_of_getElem? h1,h2,h3⟩
   · rintro ⟨r,h1,h2,h3⟩
     obtain ⟨i,hi⟩:=List.getElem?_of_mem h1
     exact ⟨i,r,zq hi,hi,h2,h3⟩
def zKd (x:List UInt8):Key:=(x.drop 1).take 16
end Go.Mem
namespace Go.Proofs.YtbbojbdigiibbaaGreatDoor
open Go Go.RowKit Go.Mem Gf Lea Go.Sort
theorem zFq {w:World} {base n g c:Nat} {t:TypeId} {L:List (List UInt8)} (h:w.ownsRow base t 1 (.slice (some ⟨g,0,none⟩) n c) n (L.map encStr)) {i:Nat} {x:List UInt8} (hx:L[i]?=some x):w.cell? ⟨g,i,none⟩=some (.string ⟨x.toArray⟩):=by
 have:=h.cells (g:=g) rfl i (encStr x) (by rw [List.getElem?_map,hx];rfl)
 rw [show (⟨g,0,none⟩:Addr).add i=⟨g,i,none⟩ from by unfold Addr.add;split <;> simp_all] at this
 exact this
attribute [local go_sem ↓] Go.wp_at_zero Go.wp_at_succ
attribute [local go_sem ↓] zEQ zCb
attribute [local go_sem] ptrB_eq ptrO_eq ptrIs_eq aggL_eq aggIs_eq zS zCA zC
theorem zNC (w:World) (nm:ByteArray) (x:Key) (hn:nm=⟨x.toArray⟩) (hx:x.length=16):∃ cg w',(convert 9 51 (.string nm)).run Tryz.prog w=.ok (.slice (some ⟨w.heap.size,0,none⟩) 16 cg) w'∧zBp 16 w' w.heap.size 0∧zN 16 w' w.heap.size 0=bV x∧Below w.heap.size w w':=by
 have hsz:nm.size=16:=by rw [hn];show x.toArray.size=16;simpa using hx
 have hd:nm.data.toList=x:=by rw [hn]
 have hconv:=Lib.run_convert_string_bytes (P:=Tryz.prog) w 9 51 5 nm Tryz.underlying9 Tryz.underlying51 Tryz.underlying5
 obtain ⟨ho,hb⟩:=zFk w 5 nm (zAf (by omega))
 rw [hd] at ho
 have hX2:=ho.bys
 rw [hsz] at hX2 hconv
 have hrng:=zHi hX2
 exact ⟨_,_,hconv,zFY hrng (by rw [zB];exact hx),zA3 hrng (by rw [zB];exact hx),hb⟩
theorem zHJ {w0 wr:World} {u:Value} {n:Nat} {K:List (List UInt8)} (h:wr.ownsRow w0.heap.size 9 1 u n (K.map encStr)) (hl:K.length=n) (hn:n≤1000000) (hb:Below w0.heap.size w0 wr) :
  Calls Tryz.prog 98 #[u] wr fun e w'=>e=.returned (.tuple #[])∧w'.ownsRow w0.heap.size 9 1 u n ((K.mergeSort fun x y=>decide (x≤y)).map encStr)∧Below w0.heap.size w0 w':=by
 subst hl
 rcases h.2 with ⟨rfl,h0l⟩ | ⟨g,cap,cur,rfl,hg,hgg,g1,g2,g3,g4⟩
 · have hz0:K=[]:=List.eq_nil_of_length_eq_zero h0l
   subst hz0
   refine (Tryz.sort_Strings_none none 0 wr).mono ?_
   rintro e w3 ⟨rfl,rfl⟩
   exact ⟨rfl,by simpa using h,hb⟩
 · have hH:Sort.Holds encStr wr g 0 K.toArray:=holds_of_block hgg (by simpa using g4)
   have hgl:g < wr.heap.size:=(Array.getElem?_eq_some_iff.1 hgg).1
   refine (Tryz.sort_Strings g 0 cap K wr hH hgl (by omega)).mono ?_
   rintro e w3 ⟨rfl,m,os,rfl⟩
   exact ⟨rfl,ownsRow_sorted (n:=m) (os:=os) (ss:=K) (ts:=K.mergeSort fun x y=>decide (x≤y)) (by simp) hg hgg g1 g2 g3,zg hb (grownBy_sorted _) (fun k hk=>by cases hk;exact hg)⟩
set_option maxRecDepth 20000 in
set_option maxHeartbeats 2000000 in
theorem zEi (C X:Nat→Prop) (pb:Nat) (s:zG) (w:World) (h:zT w C X pb s) (hn:∀ r∈s.st.recs,r.is=true→17≤r.name.size) :
  Calls Tryz.prog 56 #[.pointer (some ⟨pb,0,none⟩)] w fun e w'=>∃ vo R,e=.returned vo∧zAh bV WfK 16 39 w' w.heap.size vo R∧zIz s.st R∧Below w.heap.size w w':=by
 obtain ⟨sb,lb,d,L,tb,v,h⟩:=h
 have c3:w.cell? ⟨pb,3,none⟩=some (.pointer (some ⟨sb,0,none⟩)):=h.blk.cell 3
 have H:=Lib.hid (And.intro h hn)
 clear h hn
 go_enter Tryz.func56,Tryz.ntmps56
 go_wp2_with fail
 refine (zIp _ sb lb d L s.st w H.out.1.st).mono ?_
 rintro e w1 ⟨vn,rfl,hvn,hb1⟩
 obtain ⟨NS,hNS⟩:∃ N,N=s.st.names.mergeSort fun x y=>decide (x≤y):=⟨_,rfl⟩
 obtain ⟨n,hnn⟩:∃ n,n=s.st.names.length:=⟨_,rfl⟩
 rw [← hNS,← hnn] at hvn
 have hnl:NS.length=n:=by rw [hNS,hnn];exact (List.mergeSort_perm _ _).length_eq
 have hn4:n≤1024:=by
  have h1:=H.out.1.st.ok.len2
  have h2:=zES s.st.recs s.st.recs.length
  rw [hnn]
  unfold St.names
  split
  · simp
  · omega
 have hcut:∀ x∈NS,17≤x.length:=fun x hx=>by
  rw [hNS] at hx
  obtain ⟨_,r,h1,h2,h3⟩:=zEv.1 ((List.mergeSort_perm _ _).mem_iff.1 hx)
  have:=H.out.2 r h1 h2
  rw [← h3]
  simpa using this
 obtain ⟨va,vc,rfl,hva⟩:=zAE hvn
 have H1:=Lib.hid (And.intro hvn (And.intro hb1 (And.intro hNS (And.intro hnl (And.intro hva hcut)))))
 clear hvn hb1 hNS hnl hva hcut hnn c3
 go_upto_region 3 with fail
 go_loopw [3,15] (fun u v wr=>∃ i:Nat,i≤n∧v=.int .i64 i∧Hid (wr.ownsRow w1.heap.size 9 1 u i (((NS.take i).map zKd).map encStr)∧Below w1.heap.size w1 wr)) (fun _ v _=>n - (intOf v).toNat)
 case atStart=>exact ⟨0,by omega,rfl,World.ownsRow_nil _ _ _ _,Below.refl _ _⟩
 case round =>
  obtain ⟨i,hi,rfl,G⟩:=hrel
  by_cases h0:i < n
  · obtain ⟨g,rfl⟩:=H1.out.2.2.2.2.1 (by omega)
    obtain ⟨x,hx⟩:∃ x,NS[i]?=some x:=⟨NS[i]'(by have:=H1.out.2.2.2.1;omega),by simp⟩
    have hB:=G.out.2
    have hrow:=zAg (S:=fun _=>False) H1.out.1 (Chg.of_below hB) (fun _ _ h=>h)
    have cx:=zFq hrow hx
    have hsz:=H1.out.2.2.2.2.2 x (List.mem_of_getElem? hx)
    obtain ⟨nm,hnm⟩:∃ nm:ByteArray,nm=⟨x.toArray⟩:=⟨_,rfl⟩
    have hs17:17≤nm.size:=by rw [hnm];show 17≤x.toArray.size;simpa using hsz
    have hs17':(17:Int)≤(nm.size:Int):=by omega
    have hex:nm.extract 1 17=⟨(zKd x).toArray⟩:=by rw [hnm,ByteArray.extract_mk];rfl
    rw [← hnm] at cx
    have gl:g < wr.heap.size:=World.block_lt_of_cell? wr ⟨g,i,none⟩ cx 
    have i0:(0:Int)≤(i:Int):=by omega
    have i1:(i:Int) < (n:Int):=by omega
    obtain ⟨xs,hxs⟩:∃ l,l=((NS.take i).map zKd).map encStr:=⟨_,rfl⟩
    have G1:=G.out.1
    rw [← hxs] at G1
    have HX:=Lib.hid (And.intro hx (And.intro hex (And.intro hnm hxs)))
    have G1:=Lib.hid G1
    clear hB hrow hx hsz hex hnm hxs
    go_wp2_with (at_builtin;refine zGf ESc rfl _ _ rfl (base:=w1.heap.size) (n:=i) (xs:=xs) (.string (nm.extract 1 17)) rfl rfl ?cc rfl (G1.out.alloc _) ?q1 ?q2 ?q3 ?_)
    case cc=>exact zG5 _ _ _ _ (by simp)
    case q1=>omega
    case q2=>omega
    case q3=>have:=G.out.2.size;simp;omega
    intro v4 w4 ho4 hg4
    have hb4:=zg (G.out.2.alloc G.out.2.size _) hg4 (fun k hk=>(G1.out.lt k hk).1)
    have HO4:=Lib.hid (And.intro ho4 hb4)
    clear ho4 hg4 hb4
    go_wp2
    refine ⟨⟨i+1,by omega,by go_num,?_,HO4.out.2⟩,by simp [intOf] <;> omega⟩
    have:((NS.take (i+1)).map zKd).map encStr=xs++[.string (nm.extract 1 17)]:=by
     rw [List.take_add_one,HX.out.1,HX.out.2.1,HX.out.2.2.2,Option.toList_some,List.map_append,List.map_append]
     rfl
    rw [this]
    exact HO4.out.1
  · obtain rfl:n=i:=by omega
    have hfull:NS.take n=NS:=List.take_of_length_le (by have:=H1.out.2.2.2.1;omega)
    obtain ⟨K0,hK0⟩:∃ K,K=NS.map zKd:=⟨_,rfl⟩
    have hown:=G.out.1
    rw [hfull,← hK0] at hown
    have hKl:K0.length=n:=by rw [hK0,List.length_map];exact H1.out.2.2.2.1
    obtain ⟨KS,hKS⟩:∃ K,K=K0.mergeSort fun x y=>decide (x≤y):=⟨_,rfl⟩
    have hKSl:KS.length=n:=by rw [hKS,(List.mergeSort_perm _ _).length_eq];exact hKl
    have hKw:∀ x∈KS,x.length=16:=fun x hx=>by
     rw [hKS,(List.mergeSort_perm _ _).mem_iff,hK0] at hx
     obtain ⟨y,hy,rfl⟩:=List.mem_map.1 hx
     have:=H1.out.2.2.2.2.2 y hy
     unfold zKd
     rw [List.length_take,List.length_drop];omega
    have hKp:KS.Pairwise fun a b=>ltK b a=false:=by
     have hp:=List.pairwise_mergeSort (le:=fun x y:List UInt8=>decide (x≤y)) (fun a b c h1 h2=>by simp only [decide_eq_true_eq] at *;exact List.le_trans h1 h2) (fun a b=>by simp only [Bool.or_eq_true,decide_eq_true_eq];exact List.le_total a b) K0
     rw [← hKS] at hp
     refine hp.imp fun {a b} h=>?_
     unfold ltK
     have h1:=zNB a b (by simpa using h)
     have h2:=zA0 a b
     simp only [decide_eq_false_iff_not]
     omega
    have hKm:∀ k,k∈KS↔s.st.dead=false∧∃ r∈s.st.recs,r.is=true∧zDt r.name=k:=fun k=>by
     rw [hKS,(List.mergeSort_perm _ _).mem_iff,hK0,List.mem_map,H1.out.2.2.1]
     constructor
     · rintro ⟨y,hy,rfl⟩
       obtain ⟨h1,r,h2,h3,h4⟩:=zEv.1 ((List.mergeSort_perm _ _).mem_iff.1 hy)
       exact ⟨h1,r,h2,h3,by unfold zDt zKd;rw [h4]⟩
     · rintro ⟨h1,r,h2,h3,h4⟩
       exact ⟨_,(List.mergeSort_perm _ _).mem_iff.2 (zEv.2 ⟨h1,r,h2,h3,rfl⟩),h4⟩
    have hB1:=G.out.2
    have HK:=Lib.hid (And.intro hKS (And.intro hKSl (And.intro hKw (And.intro hKp hKm))))
    have HG:=Lib.hid (And.intro hown (And.intro hB1 hKl))
    clear hfull hK0 hown hKl hKS hKSl hKw hKp hKm hB1 G
    go_wp2_with fail
    refine (zHJ HG.out.1 HG.out.2.2 (by omega) HG.out.2.1).mono ?_
    rintro e w2 ⟨rfl,ho2,hb2⟩
    rw [← HK.out.1] at ho2
    obtain ⟨sa,sc,rfl,hsa⟩:=zAE ho2
    have H2:=Lib.hid (And.intro ho2 (And.intro hb2 hsa))
    clear ho2 hb2 hsa HG
    go_upto_region 10 with fail
    go_loopw [6,29] (fun u v wr=>∃ (i:Nat) (R:List Key),i≤n∧v=.int .i64 i∧Hid (zAh bV WfK 16 39 wr w2.heap.size u R∧zDx [] KS i R∧Below w2.heap.size w2 wr∧R.length≤i)) (fun _ v _=>n - (intOf v).toNat)
    case atStart=>exact ⟨0,[],Nat.zero_le _,rfl,zAh.nil _ _ _ _ _ _,zHh _ _,Below.refl _ _,Nat.le_refl _⟩
    case round =>
     obtain ⟨i,R,hi0,rfl,G⟩:=hrel
     by_cases hin:i < n
     · obtain ⟨g,rfl⟩:=H2.out.2.2 (by omega)
       obtain ⟨x,hx⟩:∃ x,KS[i]?=some x:=⟨KS[i]'(by have:=HK.out.2.1;omega),by simp⟩
       have hrow:=zAg (S:=fun _=>False) H2.out.1 (Chg.of_below G.out.2.2.1) (fun _ _ h=>h)
       have cx:=zFq hrow hx
       have wx:x.length=16:=HK.out.2.2.1 x (List.mem_of_getElem? hx)
       obtain ⟨nm,hnm⟩:∃ nm:ByteArray,nm=⟨x.toArray⟩:=⟨_,rfl⟩
       have hns:nm.size=16:=by rw [hnm];show x.toArray.size=16;simpa using wx
       have hnd:nm.data.toList=x:=by rw [hnm]
       rw [← hnm] at cx
       have gl:g < wr.heap.size:=World.block_lt_of_cell? wr ⟨g,i,none⟩ cx
       have i0:(0:Int)≤(i:Int):=by omega
       have i1:(i:Int) < (n:Int):=by omega
       have HX:=Lib.hid (And.intro hx (And.intro wx (And.intro hnm (And.intro hrow hnd))))
       clear hx wx hnm hrow hnd
       obtain ⟨cg,w3,hcv,hs3,hr3,hb3⟩:=zNC wr nm x HX.out.2.2.1 HX.out.2.1
       have har:=zCD wr.heap.size 0 cg w3
       have ax:zAQ 16 (bV x):=⟨(zAT HX.out.2.1).2,zAH x⟩
       have k1:=(zAT HX.out.2.1).1
       have k2:=(zAT HX.out.2.1).2
       have HO3:=Lib.hid (G.out.1.chg (S:=fun _=>False) (Chg.of_below hb3) (fun _ _ h=>h))
       have HB3:=Lib.hid (And.intro G.out.2.2.1 hb3)
       clear hb3
       by_cases c0:i=0
       · have d0:decide ((i:Int)=0)=true:=by simp;omega
         have d0':((i:Int) == 0)=true:=by simp;omega
         have C0:=Lib.hid c0
         clear c0
         go_upto_region 13 with fail
         go_wp2_with
          (first
           | (refine zBV EKk ecK (by rfl) _ _ (by rfl) (base:=w2.heap.size) (l:=R) (cx:=1) (e':=39) x HX.out.2.1 (by rfl) (by rfl) (Blk.new_at _ _ _ _ (by simp)) (HO3.out.chg (S:=fun _=>False) (Chg.of_below ((Below.refl _ _).alloc (Nat.le_refl _) _)) (fun _ _ h=>h)) (by have:=G.out.2.2.2;omega) (by decide) (by have:=HB3.out.1.size;have:=HB3.out.2.size;simp;omega) ?_
              intro v1 x1 hv1 hg1 hs1
              have HV1:=Lib.hid hv1
              have HC1:=Lib.hid (zg ((HB3.out.1.trans (HB3.out.2.mono HB3.out.1.size)).alloc (Nat.le_trans HB3.out.1.size HB3.out.2.size) _) hg1 (fun q hq=>HO3.out.ge hq))
              clear hv1 hg1 hs1)
           | fail)
         exact ⟨⟨i+1,R++[x],by omega,by simp,HV1.out,zFA G.out.2.1 HK.out.2.2.2.1 HX.out.1 (fun _ h0 _=>absurd C0.out (by omega)) (fun _ h=>by cases h),HC1.out,by have:=G.out.2.2.2;simp;omega⟩,by show n - ((i:Int)+1).toNat < n - (i:Int).toNat;omega⟩
       · have d0:decide ((i:Int)=0)=false:=by simp;omega
         have d0':((i:Int) == 0)=false:=by simp;omega
         obtain ⟨y,hy⟩:∃ y,KS[i - 1]?=some y:=⟨_,List.getElem?_eq_getElem (by have:=HK.out.2.1;omega)⟩
         obtain ⟨j,hj⟩:∃ j,j=i - 1:=⟨_,rfl⟩
         have ej:(i:Int) - 1=(j:Int):=by omega
         have j0:(0:Int)≤(j:Int):=by omega
         have j1:(j:Int) < (n:Int):=by omega
         rw [← hj] at hy
         have cy:=zFq HX.out.2.2.2.1 hy
         obtain ⟨ny,hny⟩:∃ nm:ByteArray,nm=⟨y.toArray⟩:=⟨_,rfl⟩
         rw [← hny] at cy
         have C0:=Lib.hid (And.intro hj (And.intro c0 (And.intro hy hny)))
         clear hj c0 hy hny
         by_cases ce:y=x
         · have d1:(ny.toList == nm.toList)=true:=Sto.zB8.2 (by rw [C0.out.2.2.2,HX.out.2.2.1,ce])
           have CE:=Lib.hid ce
           clear ce
           go_upto_region 14 with fail
           go_wp2_with fail
           exact ⟨⟨i+1,R,by omega,by simp,G.out.1,zI4 G.out.2.1 HX.out.1 (by have:=C0.out.2.1;omega) (by rw [← C0.out.1,C0.out.2.2.1,CE.out]),G.out.2.2.1,by have:=G.out.2.2.2;omega⟩,by show n - ((i:Int)+1).toNat < n - (i:Int).toNat;omega⟩
         · have d1:(ny.toList == nm.toList)=false:=by
            rw [← Bool.not_eq_true,Sto.zB8,C0.out.2.2.2,HX.out.2.2.1]
            exact fun e=>ce (zB7 e)
           have CE:=Lib.hid ce
           clear ce
           go_upto_region 13 with fail
           go_wp2_with
           (first
            | (refine zBV EKk ecK (by rfl) _ _ (by rfl) (base:=w2.heap.size) (l:=R) (cx:=1) (e':=39) x HX.out.2.1 (by rfl) (by rfl) (Blk.new_at _ _ _ _ (by simp)) (HO3.out.chg (S:=fun _=>False) (Chg.of_below ((Below.refl _ _).alloc (Nat.le_refl _) _)) (fun _ _ h=>h)) (by have:=G.out.2.2.2;omega) (by decide) (by have:=HB3.out.1.size;have:=HB3.out.2.size;simp;omega) ?_
               intro v1 x1 hv1 hg1 hs1
               have HV1:=Lib.hid hv1
               have HC1:=Lib.hid (zg ((HB3.out.1.trans (HB3.out.2.mono HB3.out.1.size)).alloc (Nat.le_trans HB3.out.1.size HB3.out.2.size) _) hg1 (fun q hq=>HO3.out.ge hq))
               clear hv1 hg1 hs1)
            | fail)
           exact ⟨⟨i+1,R++[x],by omega,by simp,HV1.out,zFA G.out.2.1 HK.out.2.2.2.1 HX.out.1 (fun z h0 hz e=>CE.out (by have h1:=C0.out.2.2.1;rw [C0.out.1,hz] at h1;cases h1;exact e)) (fun _ h=>by cases h),HC1.out,by have:=G.out.2.2.2;simp;omega⟩,by show n - ((i:Int)+1).toNat < n - (i:Int).toNat;omega⟩
     · go_wp2_with fail
       go_ret
       have hfull:KS.take i=KS:=List.take_of_length_le (by have:=HK.out.2.1;omega)
       refine ⟨u6,R,rfl,G.out.1.lower (Nat.le_trans H1.out.2.1.size H2.out.2.1.size),⟨G.out.2.1.up,fun k=>?_⟩,H1.out.2.1.trans ((H2.out.2.1.trans (G.out.2.2.1.mono H2.out.2.1.size)).mono H1.out.2.1.size)⟩
       rw [G.out.2.1.mem,hfull,HK.out.2.2.2.2]
       simp
end Go.Proofs.YtbbojbdigiibbaaGreatDoor
end
section
namespace Go.Mem
open Go Go.RowKit Gf Lea Go.Proofs.YtbbojbdigiibbaaGreatDoor
end Go.Mem
namespace Go.Proofs.YtbbojbdigiibbaaGreatDoor
open Go Go.RowKit Go.Mem Gf Lea
theorem zAp.tchg {w w':World} {C X:Nat→Prop} {pb sb lb d L tb:Nat} {v v':Value} {s:zG} {l':List Les} (h:zAp w C X pb sb lb d L tb v s) (hc:zAt tb v v' w w') (hh:Heap w' tb v' l') (hg:Lea.Good l') :
  zAp w' (fun b=>C b∨v'.ownBlock=some b) X pb sb lb d L tb v' { s with tab:=l' }∧zAS C (fun b=>C b∨v'.ownBlock=some b) w w':=by
 have hct:C tb:=h.core tb (.inr (.inr (.inl rfl)))
 have hcv:∀ g,v.ownBlock=some g→C g:=fun g hg=>h.core g (.inr (.inr (.inr hg)))
 have hs:=hc.1.size
 have hnew:∀ g,v'.ownBlock=some g→C g∨w.heap.size≤g:=fun g hg=>(hc.2 g hg).imp (hcv g) id
 have hold:∀ g,v'.ownBlock=some g→g < w'.heap.size:=fun g hg=>(hh.tab.own.lt g hg).2
 have hS:∀ b,(b=tb∨v.ownBlock=some b)→¬ zBZ sb lb d L b∧b≠pb:=fun b hb=>by
  rcases hb with rfl | hb
  · exact h.ntb
  · exact h.nown b hb
 refine ⟨⟨hc.1.blk h.blk (fun e=>(hS pb e).2 rfl),?_,hh,hg,?_,?_,h.npb,h.ntb,fun g hg=>?_⟩,hc.1.mono (fun b hb=>by rcases hb with rfl | hb;exact hct;exact hcv b hb),fun b hb=>?_⟩
 · refine h.st.grow hc.1 (fun b hb e=>(hS b e).1 hb) (fun b hb _=>.inl (by rcases hb with rfl | hb;exact hct;exact hcv b hb)) (fun b hM=>?_) (fun b hN=>?_) (fun b hM=>?_)
   · rcases hM with (hM | hM) | hM
     · exact .inl (.inl hM)
     · exact (hnew b hM).imp .inl id
     · exact .inl (.inr hM)
   · exact hN.imp .inl id
   · rcases hM with (hM | hM) | hM
     · exact Nat.lt_of_lt_of_le (h.lt (.inl hM)) hs
     · exact hold b hM
     · exact Nat.lt_of_lt_of_le (h.lt (.inr hM)) hs
 · rintro b (hb | hb | hb | hb)
   · exact .inl (h.core b (.inl hb))
   · exact .inl (h.core b (.inr (.inl hb)))
   · exact .inl (h.core b (.inr (.inr (.inl hb))))
   · exact .inr hb
 · rintro b hX (hC | hC)
   · exact h.xc b hX hC
   · rcases hnew b hC with h1 | h1
     · exact h.xc b hX h1
     · have:=h.lt (.inr hX);omega
 · rcases hc.2 g hg with h1 | h1
   · exact h.nown g h1
   · exact ⟨fun hf=>by have:=h.lt (.inl (h.foot g hf));omega,fun e=>by have:=h.pb_lt;omega⟩
 · rcases hb with hb | hb
   · exact .inl hb
   · exact hnew b hb
attribute [local go_sem ↓] Go.wp_at_zero Go.wp_at_succ
attribute [local go_sem ↓] zAK zBl zCb zH2
attribute [local go_sem] ptrB_eq ptrO_eq ptrIs_eq aggL_eq aggIs_eq zS ze zC zF zX zZ zV zH zJ
end Go.Proofs.YtbbojbdigiibbaaGreatDoor
end
section
namespace Go.Mem
open Go Go.RowKit Gf Lea
structure RF where
 kind:Value
 ix:List Value
 sec:List Value
 ends:Value
 en:List Value
 vt:Value
 vb:Value
def RF.V (f:RF):List Value:=f.kind::(f.ix++(f.sec++(f.ends::(f.en++[f.vt,f.vb]))))
def zk:List Value:=bV z16
theorem zk_eq:zk=bV z16:=rfl
def RF.zero:RF:=⟨.int .i64 0,zk,zk,.int .i64 0,zk,.slice none 0 0,.slice none 0 0⟩
def RF.set (f:RF):Nat→Value→RF
 | 0,v=>{ f with kind:=v }
 | 1,v=>{ f with ix:=zAn v }
 | 2,v=>{ f with sec:=zAn v }
 | 3,v=>{ f with ends:=v }
 | 4,v=>{ f with en:=zAn v }
 | 5,v=>{ f with vt:=v }
 | 6,v=>{ f with vb:=v }
 | _,_=>f
def zDu:Nat→Value→Bool
 | 0,v=>v.oneCell'
 | 1,v=>zA5 v && decide ((zAn v).length=16)
 | 2,v=>zA5 v && decide ((zAn v).length=16)
 | 3,v=>v.oneCell'
 | 4,v=>zA5 v && decide ((zAn v).length=16)
 | 5,v=>v.oneCell'
 | 6,v=>v.oneCell'
 | _,_=>false
structure RF.Ok (f:RF):Prop where
 ix:f.ix.length=16
 sec:f.sec.length=16
 en:f.en.length=16
theorem zLV:zk.length=16:=by rw [zk_eq,zB];rfl
theorem RF.zero_ok:RF.zero.Ok:=⟨zLV,zLV,zLV⟩
theorem RF.Ok.set {f:RF} (h:f.Ok) {i:Nat} {v:Value} (hv:zDu i v=true):(f.set i v).Ok:=by
 match i,hv with
 | 0,_=>exact ⟨h.ix,h.sec,h.en⟩
 | 1,hv=>simp [zDu] at hv;exact ⟨hv.2,h.sec,h.en⟩
 | 2,hv=>simp [zDu] at hv;exact ⟨h.ix,hv.2,h.en⟩
 | 3,_=>exact ⟨h.ix,h.sec,h.en⟩
 | 4,hv=>simp [zDu] at hv;exact ⟨h.ix,h.sec,hv.2⟩
 | 5,_=>exact ⟨h.ix,h.sec,h.en⟩
 | 6,_=>exact ⟨h.ix,h.sec,h.en⟩
theorem RF.Ok.len {f:RF} (h:f.Ok):f.V.length=52:=by
 unfold RF.V
 simp [h.ix,h.sec,h.en]
theorem cells_one {v:Value} (h:v.oneCell'=true):v.cells=#[v]:=by
 cases v <;> first | rfl | cases h
theorem zFh {v:Value} (h:zA5 v=true):v.cells=(zAn v).toArray:=by
 cases v <;> first | rfl | cases h
theorem zKm (off:Nat) (q c:Array Value) (h:off+q.size≤c.size):q.zipIdx.foldl (fun cs (x:Value × Nat)=>cs.setIfInBounds (off+x.2) x.1) c=(c.toList.take off++q.toList++c.toList.drop (off+q.size)).toArray:=by
 have e:q.zipIdx.foldl (fun cs (x:Value × Nat)=>cs.setIfInBounds (off+x.2) x.1) c=(q.toList.zipIdx 0).foldl (fun cs (x:Value × Nat)=>cs.setIfInBounds (off+x.2) x.1) c:=by
  rw [← Array.foldl_toList,Array.toList_zipIdx]
 obtain ⟨h1,h2⟩:=Great.foldl_set off q.toList 0 c
 rw [e]
 apply Array.ext_getElem?
 intro k
 rw [h2]
 simp only [Nat.add_zero,Array.length_toList,List.getElem?_toArray]
 by_cases hk:k < off
 · rw [if_neg (by omega),List.getElem?_append_left (by simp;omega),List.getElem?_append_left (by simp;omega),List.getElem?_take,if_pos hk,Array.getElem?_toList]
 · by_cases hk2:k < off+q.size
   · rw [if_pos (by omega),List.getElem?_append_left (by simp;omega),List.getElem?_append_right (by simp;omega)]
     simp only [List.length_take,Array.length_toList,Array.getElem?_toList]
     congr 1
     omega
   · rw [if_neg (by omega),List.getElem?_append_right (by simp;omega)]
     simp only [List.length_append,List.length_take,Array.length_toList,List.getElem?_drop]
     rw [← Array.getElem?_toList]
     congr 1
     omega
def zHC:List (Nat × Nat):=[(0,1),(1,16),(17,16),(33,1),(34,16),(50,1),(51,1)]
theorem zNr {a b:List Value} {n:Nat} (h:a.length=n):(a++b).take n=a:=by rw [List.take_append_of_le_length (by omega),List.take_of_length_le (by omega)]
theorem zNI {a b:List Value} {n:Nat} (h:a.length=n):(a++b).drop n=b:=by rw [List.drop_append_of_le_length (by omega),List.drop_of_length_le (by omega),List.nil_append]
theorem set_mid {a b c d:List Value} {n m:Nat} (h1:a.length=n) (h2:b.length=m):((a++(b++c)).take n++d++(a++(b++c)).drop (n+m))=a++(d++c):=by
 rw [zNr h1,← List.append_assoc a b c,zNI (by rw [List.length_append];omega),List.append_assoc]
theorem zL7 {f:RF} (h:f.Ok) {i:Nat} {v:Value} (hv:zDu i v=true) (rest:List (Nat × Value)):Instr.fill (zHC.toArray[·]?) f.V.toArray ((i,v)::rest)=Instr.fill (zHC.toArray[·]?) (f.set i v).V.toArray rest:=by
 have hl:=h.len
 obtain ⟨k,ix,sec,e,en,vt,vb⟩:=f
 obtain ⟨h1,h2,h3⟩:=h
 simp only at h1 h2 h3
 have key:∀ (off n:Nat) (q:List Value),zHC.toArray[i]?=some (off,n)→v.cells=q.toArray→q.length=n→off+n≤52 →
   Instr.fill (zHC.toArray[·]?) (RF.V ⟨k,ix,sec,e,en,vt,vb⟩).toArray ((i,v)::rest)=Instr.fill (zHC.toArray[·]?) ((RF.V ⟨k,ix,sec,e,en,vt,vb⟩).take off++q++(RF.V ⟨k,ix,sec,e,en,vt,vb⟩).drop (off+n)).toArray rest:=fun off n q e1 e2 e3 e4=>by
  rw [Instr.fill]
  simp only [e1,e2]
  rw [if_neg (by simp [hl,e3];omega),zKm _ _ _ (by simp [hl];omega)]
  simp [e3]
 match i,hv with
 | 0,hv=>rw [key 0 1 [v] rfl (cells_one hv) rfl (by decide)];rfl
 | 1,hv =>
   simp only [zDu,Bool.and_eq_true,decide_eq_true_eq] at hv
   rw [key 1 16 (zAn v) rfl (zFh hv.1) hv.2 (by decide)]
   exact congrArg (fun l=>Instr.fill _ (List.toArray l) rest) (set_mid (a:=[k]) (b:=ix) rfl h1)
 | 2,hv =>
   simp only [zDu,Bool.and_eq_true,decide_eq_true_eq] at hv
   rw [key 17 16 (zAn v) rfl (zFh hv.1) hv.2 (by decide)]
   have:RF.V ⟨k,ix,sec,e,en,vt,vb⟩=(k::ix)++(sec++(e::(en++[vt,vb]))):=by simp [RF.V]
   rw [this,set_mid (by simp;omega) h2]
   simp [RF.V,RF.set]
 | 3,hv =>
   rw [key 33 1 [v] rfl (cells_one hv) rfl (by decide)]
   have:RF.V ⟨k,ix,sec,e,en,vt,vb⟩=(k::(ix++sec))++([e]++(en++[vt,vb])):=by simp [RF.V]
   rw [this,set_mid (m:=1) (by simp;omega) rfl]
   simp [RF.V,RF.set]
 | 4,hv =>
   simp only [zDu,Bool.and_eq_true,decide_eq_true_eq] at hv
   rw [key 34 16 (zAn v) rfl (zFh hv.1) hv.2 (by decide)]
   have:RF.V ⟨k,ix,sec,e,en,vt,vb⟩=(k::(ix++(sec++[e])))++(en++[vt,vb]):=by simp [RF.V]
   rw [this,set_mid (by simp;omega) h3]
   simp [RF.V,RF.set]
 | 5,hv =>
   rw [key 50 1 [v] rfl (cells_one hv) rfl (by decide)]
   have:RF.V ⟨k,ix,sec,e,en,vt,vb⟩=(k::(ix++(sec++(e::en))))++([vt]++[vb]):=by simp [RF.V]
   rw [this,set_mid (m:=1) (by simp;omega) rfl]
   simp [RF.V,RF.set]
 | 6,hv =>
   rw [key 51 1 [v] rfl (cells_one hv) rfl (by decide)]
   have:RF.V ⟨k,ix,sec,e,en,vt,vb⟩=(k::(ix++(sec++(e::(en++[vt])))))++([vb]++[]):=by simp [RF.V]
   rw [this,set_mid (m:=1) (by simp;omega) rfl]
   simp [RF.V,RF.set]
theorem zJO:∀ (l:List (Nat × Value)) (f:RF),f.Ok→(∀ p∈l,zDu p.1 p.2=true)→Instr.fill (zHC.toArray[·]?) f.V.toArray l=some (l.foldl (fun f p=>f.set p.1 p.2) f).V.toArray
 | [],f,_,_=>rfl
 | (i,v)::l,f,h,hl=>by
   rw [zL7 h (hl (i,v) (by simp)),zJO l _ (h.set (hl (i,v) (by simp))) (fun p hp=>hl p (List.mem_cons_of_mem _ hp))]
   rfl
section
variable (k e vt vb v:Value) (ix sec en:List Value)
theorem rfs0:RF.set ⟨k,ix,sec,e,en,vt,vb⟩ 0 v=⟨v,ix,sec,e,en,vt,vb⟩:=rfl
theorem rfs1:RF.set ⟨k,ix,sec,e,en,vt,vb⟩ 1 v=⟨k,zAn v,sec,e,en,vt,vb⟩:=rfl
theorem rfs2:RF.set ⟨k,ix,sec,e,en,vt,vb⟩ 2 v=⟨k,ix,zAn v,e,en,vt,vb⟩:=rfl
theorem rfs3:RF.set ⟨k,ix,sec,e,en,vt,vb⟩ 3 v=⟨k,ix,sec,v,en,vt,vb⟩:=rfl
theorem rfs4:RF.set ⟨k,ix,sec,e,en,vt,vb⟩ 4 v=⟨k,ix,sec,e,zAn v,vt,vb⟩:=rfl
theorem rfs5:RF.set ⟨k,ix,sec,e,en,vt,vb⟩ 5 v=⟨k,ix,sec,e,en,v,vb⟩:=rfl
theorem rfs6:RF.set ⟨k,ix,sec,e,en,vt,vb⟩ 6 v=⟨k,ix,sec,e,en,vt,v⟩:=rfl
theorem rfz:RF.zero=⟨.int .i64 0,zk,zk,.int .i64 0,zk,.slice none 0 0,.slice none 0 0⟩:=rfl
theorem ok0:zDu 0 v=v.oneCell':=rfl
theorem ok1:zDu 1 v=(zA5 v && decide ((zAn v).length=16)):=rfl
theorem ok2:zDu 2 v=(zA5 v && decide ((zAn v).length=16)):=rfl
theorem ok3:zDu 3 v=v.oneCell':=rfl
theorem ok4:zDu 4 v=(zA5 v && decide ((zAn v).length=16)):=rfl
theorem ok5:zDu 5 v=v.oneCell':=rfl
theorem ok6:zDu 6 v=v.oneCell':=rfl
end
end Go.Mem
namespace Go.Proofs.YtbbojbdigiibbaaGreatDoor
open Go Go.RowKit Go.Mem Gf Lea
theorem zLz (l:List (Nat × Value)) (h:∀ p∈l,zDu p.1 p.2=true):Tryz.prog.built 47 l=some (l.foldl (fun f p=>f.set p.1 p.2) RF.zero).V.toArray:=by
 have h0:Tryz.prog.built 47 l=Instr.fill (zHC.toArray[·]?) RF.zero.V.toArray l:=by
  unfold Program.built
  kernel_rfl
 rw [h0,zJO l _ RF.zero_ok h]
def zEn (a:Act) (l:List (Nat × Operand)):RF:=l.foldl (fun f p=>f.set p.1 (a.eval p.2)) RF.zero
def zE1 (a:Act) (l:List (Nat × Operand)):Bool:=l.all fun p=>zDu p.1 (a.eval p.2)
theorem zFg (dst:Option Tmp) (l:List (Nat × Operand)) (ty:TypeId) (pos:String) (af:Array Edge) (gd:Option (Tmp × Bool)) (a:Act) (w:World) (K:Act→World→Prop) (Q:Exit→Act→World→Prop) (h:zE1 a l=true) :
  Oper.wp Tryz.prog ⟨dst,.build 47 l.toArray,ty,pos,af,gd⟩ a w K Q=K (a.put dst (.agg (zEn a l).V.toArray)) w:=by
 have hb:=zLz (l.map fun p=>(p.1,a.eval p.2)) (fun p hp=>by
  obtain ⟨q,hq,rfl⟩:=List.mem_map.1 hp
  exact List.all_eq_true.1 h q hq)
 have e:(l.map fun p=>(p.1,a.eval p.2)).foldl (fun (f:RF) p=>f.set p.1 p.2) RF.zero=zEn a l:=by
  unfold zEn
  rw [List.foldl_map]
 rw [e] at hb
 unfold Oper.wp execOp
 have hr:=run_build (P:=Tryz.prog) w 47 (l.map fun p=>(p.1,a.eval p.2)).toArray (zEn a l).V.toArray (by exact hb)
 have em:l.toArray.map (fun p=>(p.1,a.eval p.2))=(l.map fun p=>(p.1,a.eval p.2)).toArray:=by simp
 simp only [Sem.run_bind]
 first
  | (rw [show (Array.map (fun x=>(x.1,a.eval x.2)) l.toArray)=(l.map fun p=>(p.1,a.eval p.2)).toArray from em];simp only [hr,Result.andThen_ok];rfl)
  | (simp only [em,hr,Result.andThen_ok];rfl)
theorem zIN (dst:Option Tmp) (i0:Nat) (c0:Value) (i1:Nat) (x1:Operand) (ty:TypeId) (pos:String) (af:Array Edge) (gd:Option (Tmp × Bool)) (a:Act) (w:World) (K:Act→World→Prop) (Q:Exit→Act→World→Prop) (h:zE1 a [(i0,.const c0),(i1,x1)]=true) :
 Oper.wp Tryz.prog ⟨dst,.build 47 #[(i0,.const c0),(i1,x1)],ty,pos,af,gd⟩ a w K Q=K (a.put dst (.agg (zEn a [(i0,.const c0),(i1,x1)]).V.toArray)) w:=zFg dst [(i0,.const c0),(i1,x1)] ty pos af gd a w K Q h
theorem zHU (dst:Option Tmp) (i0:Nat) (c0:Value) (i1:Nat) (c1:Value) (i2:Nat) (x2:Operand) (ty:TypeId) (pos:String) (af:Array Edge) (gd:Option (Tmp × Bool)) (a:Act) (w:World) (K:Act→World→Prop) (Q:Exit→Act→World→Prop) (h:zE1 a [(i0,.const c0),(i1,.const c1),(i2,x2)]=true) :
 Oper.wp Tryz.prog ⟨dst,.build 47 #[(i0,.const c0),(i1,.const c1),(i2,x2)],ty,pos,af,gd⟩ a w K Q=K (a.put dst (.agg (zEn a [(i0,.const c0),(i1,.const c1),(i2,x2)]).V.toArray)) w:=zFg dst [(i0,.const c0),(i1,.const c1),(i2,x2)] ty pos af gd a w K Q h
theorem zGl (dst:Option Tmp) (i0:Nat) (c0:Value) (i1:Nat) (x1:Operand) (i2:Nat) (c2:Value) (i3:Nat) (x3:Operand) (ty:TypeId) (pos:String) (af:Array Edge) (gd:Option (Tmp × Bool)) (a:Act) (w:World) (K:Act→World→Prop) (Q:Exit→Act→World→Prop) (h:zE1 a [(i0,.const c0),(i1,x1),(i2,.const c2),(i3,x3)]=true) :
 Oper.wp Tryz.prog ⟨dst,.build 47 #[(i0,.const c0),(i1,x1),(i2,.const c2),(i3,x3)],ty,pos,af,gd⟩ a w K Q=K (a.put dst (.agg (zEn a [(i0,.const c0),(i1,x1),(i2,.const c2),(i3,x3)]).V.toArray)) w:=zFg dst [(i0,.const c0),(i1,x1),(i2,.const c2),(i3,x3)] ty pos af gd a w K Q h
end Go.Proofs.YtbbojbdigiibbaaGreatDoor
end
