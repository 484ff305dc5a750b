/- Texts of this proof,packed: Disk,Disk2,DiskLaw,DiskRef,DiskClone,DiskAny,StoreMath. -/
import Derived.Test.YtdlkghdfkjdajaaGreatDoorPkP01
import Derived.Laws.MakeOwn
import Derived.Deep.MidRow
import Derived.Test.YtdlkghdfkjdajaaGreatDoorPkP00
section
namespace Go.Mem
open Go Go.RowKit Gf
structure zA where
 n:Nat
 f:Nat→UInt8
 dead:Bool
 stops:Bool
 cnt:Nat
 keep:Nat
 writes:Nat
def zA.fresh (n:Nat):zA:=⟨n,fun _=>0,false,false,0,0,0⟩
def zA.may (s:zA) (i:Int):Bool:=decide (0≤i) && decide (i < s.n)
def zA.stop (s:zA) (a k:Int):zA:={ s with stops:=true,cnt:=(max 0 a).toNat,keep:=(max 0 (min k 32)).toNat }
def zA.start (s:zA):zA:={ s with dead:=false,stops:=false }
def zA.sector (s:zA) (i:Nat):List UInt8:=zBw 32 fun k=>s.f (i*32+k)
def zA.lay (s:zA) (i:Nat) (bs:List UInt8) (m:Nat):Nat→UInt8:=fun j=>if i*32≤j∧j < i*32+m then bs.getD (j - i*32) 0 else s.f j
def zA.write (s:zA) (i:Nat) (bs:List UInt8):zA :=
 if s.stops=true∧s.cnt=0 then { s with f:=s.lay i bs s.keep,dead:=true }
 else { s with f:=s.lay i bs 32,cnt:=if s.stops then s.cnt - 1 else s.cnt,writes:=s.writes+1 }
theorem zFk (m k:Nat) (hm0:0 < m):madeCells (zW m fun _=>0) k=zW k fun _=>0:=by
 apply Array.ext
 · simp [madeCells,zq]
 · intro i h1 h2
   have hm:i % m < m:=Nat.mod_lt _ hm0
   simp only [madeCells,Array.getElem_map,Array.getElem_range,zq]
   simp [zW,hm]
end Go.Mem
namespace Go.Proofs.YtdlkghdfkjdajaaGreatDoor
open Go Go.RowKit Go.Mem Gf
attribute [local go_sem ↓] Go.wp_at_zero Go.wp_at_succ
def zM (w:World) (d L:Nat) (s:zA):Prop :=
 ∃ cap arr,Blk w d #[.slice (some ⟨L,0,none⟩) s.n cap,.bool s.dead,.bool s.stops,.int .i64 s.cnt,.int .i64 s.keep,.int .i64 s.writes] 69∧s.n≤cap∧cap≤9223372036854775807∧Blk w L arr 33∧s.n*32≤arr.size ∧
   (∀ j,j < s.n*32→arr[j]?=some (.int .u8 ((s.f j).toNat:Int)))∧1≤s.n∧s.n≤4096∧s.keep≤32∧d≠L∧s.cnt≤9223372036854775807∧s.writes≤4611686018427387904
theorem zM.chg {w w':World} {d L:Nat} {s:zA} {S:Nat→Prop} (h:zM w d L s) (hc:Chg S w w') (h1:¬ S d) (h2:¬ S L):zM w' d L s:=by
 obtain ⟨cap,arr,hd,a,b,hL,r⟩:=h
 exact ⟨cap,arr,hc.blk hd h1,a,b,hc.blk hL h2,r⟩
theorem zM.below {w w':World} {d L:Nat} {s:zA} (h:zM w d L s) (hc:Below w.heap.size w w'):zM w' d L s:=h.chg (S:=fun _=>False) (Chg.of_below hc) id id
theorem zM.drewN {w:World} {d L:Nat} {s:zA} (h:zM w d L s) (m:Nat):zM (w.drewN m) d L s:=h
theorem zM.lt {w:World} {d L:Nat} {s:zA} (h:zM w d L s):d < w.heap.size∧L < w.heap.size:=by
 obtain ⟨cap,arr,hd,a,b,hL,r⟩:=h
 exact ⟨hd.lt,hL.lt⟩
set_option maxRecDepth 100000 in
set_option maxHeartbeats 1000000 in
theorem zAx (d L:Nat) (s:zA) (i:Int) (w:World) (h:zM w d L s) (b:Bool) (hb:s.may i=b) :
  Calls Tryz.prog 87 #[.pointer (some ⟨d,0,none⟩),.int .i64 i] w fun e w'=>e=.returned (.bool b)∧w=w':=by
 have Hb:=Lib.hid hb
 clear hb
 obtain ⟨cap,arr,hd,a,b,hL,_,_,hn1,hn2,_⟩:=h
 have c0:w.cell? ⟨d,0,none⟩=some (.slice (some ⟨L,0,none⟩) s.n cap):=by rw [hd.cell];rfl
 by_cases h1:0≤i
 · have t1:decide (0≤i)=true:=by simp;omega
   have Hm:=Lib.hid (show s.may i=decide (i < s.n) from by simp [zA.may,h1])
   go_enter Tryz.func87,Tryz.ntmps87
   go_wp2
   go_ret
   exact ⟨by rw [← Hb.out,Hm.out];rfl,rfl⟩
 · have t1:decide (0≤i)=false:=by simp;omega
   have Hm:=Lib.hid (show s.may i=false from by simp [zA.may];omega)
   go_enter Tryz.func87,Tryz.ntmps87
   go_wp2
   go_ret
   exact ⟨by rw [← Hb.out,Hm.out];rfl,rfl⟩
set_option maxRecDepth 100000 in
set_option maxHeartbeats 1000000 in
theorem zIm (d L:Nat) (s:zA) (w:World) (h:zM w d L s) :
  Calls Tryz.prog 27 #[.pointer (some ⟨d,0,none⟩)] w fun e w'=>e=.returned (.int .i64 (s.n:Int))∧w=w':=by
 obtain ⟨cap,arr,hd,a,b,hL,_,_,hn1,hn2,_⟩:=h
 have c0:w.cell? ⟨d,0,none⟩=some (.slice (some ⟨L,0,none⟩) s.n cap):=by rw [hd.cell];rfl
 go_enter Tryz.func27,Tryz.ntmps27
 go_wp2
 go_ret
 exact ⟨rfl,rfl⟩
set_option maxRecDepth 100000 in
set_option maxHeartbeats 1000000 in
theorem zGV (d L:Nat) (s:zA) (w:World) (h:zM w d L s) :
  Calls Tryz.prog 12 #[.pointer (some ⟨d,0,none⟩)] w fun e w'=>e=.returned (.tuple #[])∧zM w' d L s.start∧Chg (fun b=>b=d) w w':=by
 obtain ⟨cap,arr,hd,a,b,hL,r1,r2,r3,r4,r5,hne,r6⟩:=h
 have c1:w.cell? ⟨d,1,none⟩=some (.bool s.dead):=by rw [hd.cell];rfl
 have c2:w.cell? ⟨d,2,none⟩=some (.bool s.stops):=by rw [hd.cell];rfl
 have f1:=hd.free 1
 have f2:=hd.free 2
 go_enter Tryz.func12,Tryz.ntmps12
 go_wp2
 go_end0
 exact ⟨rfl,⟨cap,arr,(hd.set 1 (.bool false)).set 2 (.bool false),a,b,(hL.set_other hne _).set_other hne _,r1,r2,r3,r4,r5,hne,r6⟩,((Chg.refl (fun b=>b=d) _).set rfl _).set rfl _⟩
theorem zM.stopped {d L:Nat} {s:zA} {x y X Y:Int} {w:World} (h:zM w d L s) (hx:x≤9223372036854775807) (hX:((max 0 x).toNat:Int)=X) (hY:((max 0 (min y 32)).toNat:Int)=Y) :
  zM (((w.setCell ⟨d,2,none⟩ (.bool true)).setCell ⟨d,3,none⟩ (.int .i64 X)).setCell ⟨d,4,none⟩ (.int .i64 Y)) d L (s.stop x y):=by
 obtain ⟨cap,arr,hd,a,b,hL,r1,r2,r3,r4,r5,hne,r6,r7⟩:=h
 subst hX hY
 exact ⟨cap,arr,((hd.set 2 _).set 3 _).set 4 _,a,b,((hL.set_other hne _).set_other hne _).set_other hne _,r1,r2,r3,r4,by show (max 0 (min y 32)).toNat≤32;omega,hne,by show (max 0 x).toNat≤9223372036854775807;omega,r7⟩
set_option maxRecDepth 100000 in
set_option maxHeartbeats 1000000 in
theorem zHT (d L:Nat) (s:zA) (x y:Int) (w:World) (hD:zM w d L s) (hx:x≤9223372036854775807) :
  Calls Tryz.prog 11 #[.pointer (some ⟨d,0,none⟩),.int .i64 x,.int .i64 y] w fun e w'=>e=.returned (.tuple #[])∧zM w' d L (s.stop x y)∧Chg (fun b=>b=d) w w':=by
 obtain ⟨cap,arr,hd,a,b,hL,r1,r2,r3,r4,r5,hne,r6,r7⟩:=id hD
 have c1:w.cell? ⟨d,2,none⟩=some (.bool s.stops):=by rw [hd.cell];rfl
 have c2:w.cell? ⟨d,3,none⟩=some (.int .i64 s.cnt):=by rw [hd.cell];rfl
 have c3:w.cell? ⟨d,4,none⟩=some (.int .i64 s.keep):=by rw [hd.cell];rfl
 have f1:=hd.free 2
 have f2:=hd.free 3
 have f3:=hd.free 4
 go_enter Tryz.func11,Tryz.ntmps11
 go_wp2
 all_goals
  go_end0
  exact ⟨rfl,hD.stopped hx (by omega) (by omega),(((Chg.refl (fun b=>b=d) _).set rfl _).set rfl _).set rfl _⟩
theorem zLC:(Tryz.prog.info? 33).map (fun i=>(i.zero,i.size,i.bytes))=some (some (.agg (zW 32 fun _=>0)),32,32):=by kernel_rfl
set_option maxRecDepth 100000 in
set_option maxHeartbeats 1000000 in
theorem zEv (n:Nat) (w:World) (h1:1≤n) (h2:n≤4096) :
  Calls Tryz.prog 6 #[.int .i64 n] w fun e w'=>∃ d L,e=.returned (.tuple #[.pointer (some ⟨d,0,none⟩),.int .i64 0])∧zM w' d L (.fresh n)∧w.heap.size≤d∧w.heap.size≤L∧Below w.heap.size w w':=by
 have hmk:∀ w,(Instr.makeSlice 67 (.int .i64 (n:Int)) (.int .i64 (n:Int))).run Tryz.prog w=.ok (.slice (some ⟨w.heap.size,0,none⟩) n n) (w.alloc (.cells (zW (n*32) fun _=>0) 33)):=fun w=>by
  obtain ⟨i,hi,hz,hs,hb⟩:=info_parts zLC
  have:=run_make (P:=Tryz.prog) w 67 33 i _ Tryz.underlying67 hi hz .i64 .i64 n n (by omega) (Int.le_refl _) (by rw [hb];omega) (by omega)
  rw [hs] at this
  simp only [Int.toNat_natCast,Value.cells,zFk _ _ (show 0 < 32 by decide)] at this
  simpa using this
 have t1:decide ((n:Int) < 1)=false:=by simp;omega
 have t2:decide ((4096:Int) < (n:Int))=false:=by simp;omega
 go_enter Tryz.func6,Tryz.ntmps6
 go_wp2
 go_ret2
 have hL:Blk (w.alloc (.cells (zW (n*32) fun _=>0) 33)) w.heap.size (zW (n*32) fun _=>0) 33:=Blk.new _ _ _
 exact ⟨_,_,rfl,⟨n,zW (n*32) fun _=>0,Blk.new_at _ _ _ _ (by simp),Nat.le_refl _,by omega,hL.alloc _,by rw [zq];exact Nat.le_refl _,fun j hj=>zAN _ _ _ hj,h1,h2,Nat.zero_le _,by omega,Nat.zero_le _,Nat.zero_le _⟩,by omega,Nat.le_refl _,
  ((Below.refl _ _).alloc (Nat.le_refl _) _).alloc (by simp) _⟩
end Go.Proofs.YtdlkghdfkjdajaaGreatDoor
end
section
namespace Go.Proofs.YtdlkghdfkjdajaaGreatDoor
open Go Go.RowKit Go.Mem Gf
attribute [local go_sem ↓] Go.wp_at_zero Go.wp_at_succ
theorem E8:Elem Tryz.prog 41 5 (.int .u8 0) 1:=⟨Tryz.underlying41,by kernel_rfl,rfl⟩
theorem zA.may_yes {s:zA} {i:Nat} (h:i < s.n):s.may (i:Int)=true:=by simp [zA.may,h]
theorem zA.may_no {s:zA} {i:Int} (h:i < 0∨(s.n:Int)≤i):s.may i=false:=by simp [zA.may];omega
set_option maxRecDepth 100000 in
set_option maxHeartbeats 1000000 in
theorem zKB (d L:Nat) (s:zA) (i:Int) (w:World) (h:zM w d L s) (hi:i < 0∨(s.n:Int)≤i) :
  Calls Tryz.prog 52 #[.pointer (some ⟨d,0,none⟩),.int .i64 i] w fun e w'=>e=.returned (.tuple #[.slice none 0 0,.int .i64 1])∧w=w':=by
 go_enter Tryz.func52,Tryz.ntmps52
 go_wp2_with fail
 refine (zAx d L s i w h false (zA.may_no hi)).mono ?_
 rintro e w1 ⟨rfl,rfl⟩
 go_wp2
 go_ret2
 exact ⟨rfl,rfl⟩
set_option maxRecDepth 100000 in
set_option maxHeartbeats 1000000 in
theorem zIn (d L:Nat) (s:zA) (i:Nat) (w:World) (h:zM w d L s) (hi:i < s.n) (hdead:s.dead=true) :
  Calls Tryz.prog 52 #[.pointer (some ⟨d,0,none⟩),.int .i64 i] w fun e w'=>e=.returned (.tuple #[.slice none 0 0,.int .i64 8])∧w=w':=by
 obtain ⟨cap,arr,hd,_⟩:=id h
 have c1:w.cell? ⟨d,1,none⟩=some (.bool true):=by rw [hd.cell,hdead];rfl
 clear hdead
 go_enter Tryz.func52,Tryz.ntmps52
 go_wp2_with fail
 refine (zAx d L s i w h true (zA.may_yes hi)).mono ?_
 rintro e w1 ⟨rfl,rfl⟩
 go_wp2
 go_ret2
 exact ⟨rfl,rfl⟩
theorem zM.sector {w:World} {d L:Nat} {s:zA} (h:zM w d L s) (i:Nat) (hi:i < s.n):Bys w (.slice (some ⟨L,i*32,none⟩) 32 32) (s.sector i):=by
 obtain ⟨cap,arr,hd,a,b,hL,r1,r2,r3,r4,r5,hne,r6,r7⟩:=h
 exact hL.mid_bys (Nat.le_refl _) (zAC (by decide)) fun k hk=>r2 _ (by omega)
set_option maxRecDepth 100000 in
set_option maxHeartbeats 1000000 in
theorem zHS (d L:Nat) (s:zA) (i:Nat) (w:World) (h:zM w d L s) (hi:i < s.n) (hdead:s.dead=false) :
  Calls Tryz.prog 52 #[.pointer (some ⟨d,0,none⟩),.int .i64 i] w fun e w'=>∃ v,e=.returned (.tuple #[v,.int .i64 0])∧zBv 5 w' w.heap.size v (s.sector i)∧Below w.heap.size w w':=by
 obtain ⟨cap,arr,hd,_,hcap,_⟩:=id h
 have c0:w.cell? ⟨d,0,none⟩=some (.slice (some ⟨L,0,none⟩) s.n cap):=by rw [hd.cell];rfl
 have c1:w.cell? ⟨d,1,none⟩=some (.bool false):=by rw [hd.cell,hdead];rfl
 have hsec:=h.sector i hi
 have i1:(0:Int)≤(i:Int):=by omega
 have i2:(i:Int) < (s.n:Int):=by omega
 clear hdead
 go_enter Tryz.func52,Tryz.ntmps52
 go_wp2_with fail
 refine (zAx d L s i w h true (zA.may_yes hi)).mono ?_
 rintro e w1 ⟨rfl,rfl⟩
 go_wp2_with (at_builtin;refine appF E8 rfl _ _ rfl (base:=w.heap.size) (bs:=[]) (news:=s.sector i) rfl rfl (zBv.nil _ _ _) hsec ?q1 ?q2 ?_)
 case q1=>simp [zA.sector,zA4]
 case q2=>exact Nat.le_refl _
 intro v' w' hown hg
 go_wp2
 go_ret2
 exact ⟨_,rfl,hown,zAE hg rfl⟩
set_option maxRecDepth 100000 in
set_option maxHeartbeats 1000000 in
theorem zIo (d L:Nat) (s:zA) (i:Int) (v:Value) (bs:List UInt8) (w:World) (h:zM w d L s) (hb:Bys w v bs) (hi:(i < 0∨(s.n:Int)≤i)∨32 < bs.length) :
  Calls Tryz.prog 54 #[.pointer (some ⟨d,0,none⟩),.int .i64 i,v] w fun e w'=>e=.returned (.int .i64 1)∧w=w':=by
 obtain ⟨a,c,rfl⟩:=hb.eq_slice
 obtain ⟨l,hl⟩:∃ l,l=bs.length:=⟨_,rfl⟩
 rw [← hl] at hi ⊢
 clear hl
 by_cases hm:i < 0∨(s.n:Int)≤i
 · clear hi
   go_enter Tryz.func54,Tryz.ntmps54
   go_wp2_with fail
   refine (zAx d L s i w h false (zA.may_no hm)).mono ?_
   rintro e w1 ⟨rfl,rfl⟩
   go_wp2
   go_ret
   exact ⟨rfl,rfl⟩
 · have hl:32 < l:=by omega
   obtain ⟨i,rfl⟩:∃ j:Nat,i=j:=⟨i.toNat,by omega⟩
   clear hi
   go_enter Tryz.func54,Tryz.ntmps54
   go_wp2_with fail
   refine (zAx d L s i w h true (zA.may_yes (by omega))).mono ?_
   rintro e w1 ⟨rfl,rfl⟩
   go_wp2
   go_ret
   exact ⟨rfl,rfl⟩
set_option maxRecDepth 100000 in
set_option maxHeartbeats 1000000 in
theorem zHU (d L:Nat) (s:zA) (i:Nat) (v:Value) (bs:List UInt8) (w:World) (h:zM w d L s) (hb:Bys w v bs) (hi:i < s.n) (hl:bs.length≤32) (hdead:s.dead=true) :
  Calls Tryz.prog 54 #[.pointer (some ⟨d,0,none⟩),.int .i64 i,v] w fun e w'=>e=.returned (.int .i64 8)∧w=w':=by
 obtain ⟨a,c,rfl⟩:=hb.eq_slice
 obtain ⟨l,hl'⟩:∃ l,l=bs.length:=⟨_,rfl⟩
 rw [← hl'] at hl ⊢
 clear hl'
 obtain ⟨cap,arr,hd,_⟩:=id h
 have c1:w.cell? ⟨d,1,none⟩=some (.bool true):=by rw [hd.cell,hdead];rfl
 clear hdead
 go_enter Tryz.func54,Tryz.ntmps54
 go_wp2_with fail
 refine (zAx d L s i w h true (zA.may_yes hi)).mono ?_
 rintro e w1 ⟨rfl,rfl⟩
 go_wp2
 go_ret
 exact ⟨rfl,rfl⟩
def zI4 (bs:List UInt8):Nat→UInt8:=fun k=>if k < bs.length then bs.getD k 0 else 0
theorem zLz (bs:List UInt8) (k:Nat):zI4 bs k=bs.getD k 0:=by
 unfold zI4
 split
 · rfl
 · rw [List.getD_eq_getElem?_getD,List.getElem?_eq_none (by omega)];rfl
theorem zJR (w:World):Blk (w.alloc (.cells #[.int .u8 0,.int .u8 0,.int .u8 0,.int .u8 0,.int .u8 0,.int .u8 0,.int .u8 0,.int .u8 0,.int .u8 0,.int .u8 0,.int .u8 0,.int .u8 0,.int .u8 0,.int .u8 0,.int .u8 0,.int .u8 0,.int .u8 0,.int .u8 0,.int .u8 0,.int .u8 0,.int .u8 0,.int .u8 0,.int .u8 0,.int .u8 0,.int .u8 0,.int .u8 0,.int .u8 0,.int .u8 0,.int .u8 0,.int .u8 0,.int .u8 0,.int .u8 0] 33)) w.heap.size (zW 32 fun _=>0) 33:=by
 rw [show zW 32 (fun _=>0)=#[.int .u8 0,.int .u8 0,.int .u8 0,.int .u8 0,.int .u8 0,.int .u8 0,.int .u8 0,.int .u8 0,.int .u8 0,.int .u8 0,.int .u8 0,.int .u8 0,.int .u8 0,.int .u8 0,.int .u8 0,.int .u8 0,.int .u8 0,.int .u8 0,.int .u8 0,.int .u8 0,.int .u8 0,.int .u8 0,.int .u8 0,.int .u8 0,.int .u8 0,.int .u8 0,.int .u8 0,.int .u8 0,.int .u8 0,.int .u8 0,.int .u8 0,.int .u8 0] from by rw [← zB1];rfl]
 exact Blk.new _ _ _
theorem i32:(Tryz.prog.info? 33).map (·.size)=some 32:=by kernel_rfl
theorem zM.laid {d L:Nat} {s:zA} {w:World} (h:zM w d L s) {i:Nat} (_hi:i < s.n) (bs:List UInt8) {m:Nat} (_hm:m≤32) {cs:List Value} (hcs:cs=(zW m (zI4 bs)).toList) (dr:Nat) :
  zM ((w.drewN dr).setCells L (i*32) cs) d L { s with f:=s.lay i bs m }:=by
 obtain ⟨cap,arr,hd,a,b,hL,r1,r2,r3,r4,r5,hne,r6,r7⟩:=h
 obtain ⟨arr',h1,h2,h3⟩:=Blk.setCells cs (i*32) (w.drewN dr) arr hL
 refine ⟨cap,arr',Blk.setCells_other hne _ _ _ hd,a,b,h1,by rw [h2];exact r1,fun j hj=>?_,r3,r4,r5,hne,r6,r7⟩
 have hj:j < s.n*32:=hj
 have hl:cs.length=m:=by rw [hcs];simp [zq]
 rw [h3 j (by omega),hl]
 show _=some (Value.int .u8 ((s.lay i bs m j).toNat:Int))
 unfold zA.lay
 by_cases e:i*32≤j∧j < i*32+m
 · rw [if_pos e,if_pos e,hcs,← zLz]
   have:=zAN m (zI4 bs) (j - i*32) (by omega)
   simpa using this
 · rw [if_neg e,if_neg e];exact r2 j hj
theorem zM.count {d L:Nat} {s:zA} {w:World} (h:zM w d L s) (hw:s.writes < 4611686018427387904):zM (w.setCell ⟨d,5,none⟩ (.int .i64 ((s.writes:Int)+1))) d L { s with writes:=s.writes+1 }:=by
 obtain ⟨cap,arr,hd,a,b,hL,r1,r2,r3,r4,r5,hne,r6,r7⟩:=h
 have:=hd.set 5 (.int .i64 ((s.writes:Int)+1))
 exact ⟨cap,arr,by simpa using this,a,b,hL.set_other hne _,r1,r2,r3,r4,r5,hne,r6,by show s.writes+1≤_;omega⟩
theorem zM.tick {d L:Nat} {s:zA} {w:World} (h:zM w d L s) (hc:0 < s.cnt):zM (w.setCell ⟨d,3,none⟩ (.int .i64 ((s.cnt:Int) - 1))) d L { s with cnt:=s.cnt - 1 }:=by
 obtain ⟨cap,arr,hd,a,b,hL,r1,r2,r3,r4,r5,hne,r6,r7⟩:=h
 have:=hd.set 3 (.int .i64 ((s.cnt:Int) - 1))
 rw [show ((s.cnt:Int) - 1)=((s.cnt - 1:Nat):Int) from by omega] at this ⊢
 exact ⟨cap,arr,this,a,b,hL.set_other hne _,r1,r2,r3,r4,r5,hne,by show s.cnt - 1≤_;omega,r7⟩
theorem zM.die {d L:Nat} {s:zA} {w:World} (h:zM w d L s):zM (w.setCell ⟨d,1,none⟩ (.bool true)) d L { s with dead:=true }:=by
 obtain ⟨cap,arr,hd,a,b,hL,r1,r2,r3,r4,r5,hne,r6,r7⟩:=h
 exact ⟨cap,arr,hd.set 1 (.bool true),a,b,hL.set_other hne _,r1,r2,r3,r4,r5,hne,r6,r7⟩
theorem zJD (m:Nat) (f:Nat→UInt8):∀ v∈(zW m f).toList,v.oneCell'=true:=by
 intro v hv
 simp [zW] at hv
 obtain ⟨k,_,rfl⟩:=hv
 rfl
theorem zCy {d L:Nat} {s:zA} {w w1:World} {i:Nat} {bs:List UInt8} (h:zM w1 d L s) (hi:i < s.n) (ht:Blk w1 w.heap.size (zW 32 fun k=>if k < bs.length then bs.getD k 0 else 0) 33) (m:Nat) (hm:m≤32) :
  ∃ cs,Hid (cs=(zW m (zI4 bs)).toList)∧cs.length=m∧(∀ v∈cs,v.oneCell'=true)∧w1.rangeAt w.heap.size 0 cs∧w1.there L (i*32) 32∧(∀ j v,cs[j]?=some v→w1.cell? ((⟨w.heap.size,0,none⟩:Addr).add j)=some v):=by
 obtain ⟨cap,arr,hd,a,b,hL,r1,r2,r3,r4,r5,hne,r6,r7⟩:=h
 have hr:w1.rangeAt w.heap.size 0 (zW m (zI4 bs)).toList:=fun j v hj=>by
  rw [Nat.zero_add,ht.cell]
  have hj:(zW m (zI4 bs))[j]?=some v:=by simpa using hj
  have hjm:j < m:=by
   rcases Nat.lt_or_ge j m with h' | h'
   · exact h'
   · rw [Array.getElem?_eq_none (by rw [zq];exact h')] at hj;cases hj
  rw [zAN _ _ _ hjm] at hj
  rw [zAN _ _ _ (by omega)]
  exact hj
 refine ⟨_,rfl,by simp [zq],zJD _ _,hr,fun j hj=>⟨by rw [hL.cell];simp;omega,hL.free _⟩,fun j v hj=>?_⟩
 have:=hr j v hj
 rw [Nat.zero_add] at this
 rw [show (⟨w.heap.size,0,none⟩:Addr).add j=⟨w.heap.size,j,none⟩ from by
  unfold Addr.add
  split
  · subst_vars;rfl
  · simp]
 exact this
set_option maxRecDepth 100000 in
set_option maxHeartbeats 2000000 in
theorem zGX (d L:Nat) (s:zA) (i:Nat) (v:Value) (bs:List UInt8) (w:World) (h:zM w d L s) (hb:Bys w v bs) (hi:i < s.n) (hl:bs.length≤32) (hdead:s.dead=false) (hst:s.stops=false) (hw:s.writes < 4611686018427387904) :
  Calls Tryz.prog 54 #[.pointer (some ⟨d,0,none⟩),.int .i64 i,v] w fun e w'=>e=.returned (.int .i64 0)∧zM w' d L (s.write i bs)∧Chg (fun b=>b=d∨b=L) w w':=by
 obtain ⟨cap,arr,hd,hc1,hcap,hL,r1,r2,r3,r4,r5,hne,r6,r7⟩:=id h
 have c1:w.cell? ⟨d,1,none⟩=some (.bool false):=by rw [hd.cell,hdead];rfl
 obtain ⟨a,c,rfl⟩:=hb.eq_slice
 have HW:=Lib.hid (show s.write i bs={ s with f:=s.lay i bs 32,writes:=s.writes+1 } from by simp [zA.write,hst])
 obtain ⟨l,hl'⟩:∃ l,l=bs.length:=⟨_,rfl⟩
 rw [← hl'] at hl hb ⊢
 have Hl:=Lib.hid hl';have Hst:=Lib.hid hst
 have i1:(0:Int)≤(i:Int):=by omega
 have i2:(i:Int) < (s.n:Int):=by omega
 clear hdead hst hl'
 go_enter Tryz.func54,Tryz.ntmps54
 go_wp2_with fail
 refine (zAx d L s i w h true (zA.may_yes hi)).mono ?_
 rintro e w1 ⟨rfl,rfl⟩
 go_wp2_with (refine zEu (o:=⟨some 25,_,_,_,_,_⟩) rfl (.tmp 23) (.tmp 24) 41 41 rfl 5 Tryz.underlying41 E8s rfl rfl (zJR _) (hb.below ((Below.refl _ _).alloc (Nat.le_refl _) _)) ?c1 ?c2 ?_)
 case c1=>have:=Hl.out;omega
 case c2=>omega
 intro w1 hB1 hb1
 have hb1:Below w.heap.size w w1:=((Below.refl _ _).alloc (Nat.le_refl _) _).trans hb1
 have h1:=h.below hb1
 have hd1:=hd.kept hb1
 have c0:w1.cell? ⟨d,0,none⟩=some (.slice (some ⟨L,0,none⟩) s.n cap):=by rw [hd1.cell];rfl
 have c2:w1.cell? ⟨d,2,none⟩=some (.bool false):=by rw [hd1.cell,Hst.out];rfl
 obtain ⟨cs,Hcs,hcl,hone,hr1,ht1,_⟩:=zCy (i:=i) h1 hi hB1 32 (Nat.le_refl _)
 have hu:=Tryz.underlying33
 have hi32:(Tryz.prog.info? 33).map (·.size)=some cs.length:=by rw [hcl];exact i32
 have hD:=h1.laid hi bs (Nat.le_refl 32) Hcs.out 1
 have hC:=Chg.setCells (S:=fun b=>b=d∨b=L) (L:=L) (.inr rfl) cs (i*32) _ (Chg.drew (Chg.of_below (S:=fun b=>b=d∨b=L) hb1))
 have hD:zM (w1.drew.setCells L (i*32) cs) d L { s with f:=s.lay i bs 32 }:=hD
 obtain ⟨cap',arr',hd2,_⟩:=id hD
 have c5:(w1.drew.setCells L (i*32) cs).cell? ⟨d,5,none⟩=some (.int .i64 (s.writes:Int)):=by rw [hd2.cell];rfl
 have f5:=hd2.free 5
 have HD:=Lib.hid hD;have HC:=Lib.hid hC;have HB1:=Lib.hid hB1;have Hb1:=Lib.hid hb1;have Hd1:=Lib.hid hd1;have H1:=Lib.hid h1;have Hd2:=Lib.hid hd2
 clear hD hC hB1 hb1 hd1 h1 hd2 c1
 go_wp2_with fail
 go_region_held3 (fun w'=>w'.cell? ⟨d,0,none⟩=some (.slice (some ⟨L,0,none⟩) s.n cap)∧w'.rangeAt w.heap.size 0 cs∧w'.there L (i*32) 32) (first | exact ⟨c0,hr1,ht1⟩ | exact zHm hne (Nat.ne_of_gt hL.lt) c0 hr1 ht1) (fail)
 go_wp2
 go_ret
 exact ⟨rfl,by rw [HW.out];exact HD.out.count hw,HC.out.set (.inl rfl) _⟩
set_option maxRecDepth 100000 in
set_option maxHeartbeats 2000000 in
theorem zHW (d L:Nat) (s:zA) (i:Nat) (v:Value) (bs:List UInt8) (w:World) (h:zM w d L s) (hb:Bys w v bs) (hi:i < s.n) (hl:bs.length≤32) (hdead:s.dead=false) (hst:s.stops=true) (hcnt:0 < s.cnt) (hw:s.writes < 4611686018427387904) :
  Calls Tryz.prog 54 #[.pointer (some ⟨d,0,none⟩),.int .i64 i,v] w fun e w'=>e=.returned (.int .i64 0)∧zM w' d L (s.write i bs)∧Chg (fun b=>b=d∨b=L) w w':=by
 obtain ⟨cap,arr,hd,hc1,hcap,hL,r1,r2,r3,r4,r5,hne,r6,r7⟩:=id h
 have c1:w.cell? ⟨d,1,none⟩=some (.bool false):=by rw [hd.cell,hdead];rfl
 obtain ⟨a,c,rfl⟩:=hb.eq_slice
 have HW:=Lib.hid (show s.write i bs={ s with cnt:=s.cnt - 1,f:=s.lay i bs 32,writes:=s.writes+1 } from by simp [zA.write,hst,Nat.ne_of_gt hcnt])
 obtain ⟨l,hl'⟩:∃ l,l=bs.length:=⟨_,rfl⟩
 rw [← hl'] at hl hb ⊢
 have Hl:=Lib.hid hl';have Hst:=Lib.hid hst
 have i1:(0:Int)≤(i:Int):=by omega
 have i2:(i:Int) < (s.n:Int):=by omega
 have t1:((s.cnt:Int) == 0)=false:=by simp;omega
 have t2:(0:Int) < (s.cnt:Int):=by omega
 clear hdead hst hl'
 go_enter Tryz.func54,Tryz.ntmps54
 go_wp2_with fail
 refine (zAx d L s i w h true (zA.may_yes hi)).mono ?_
 rintro e w1 ⟨rfl,rfl⟩
 go_wp2_with (refine zEu (o:=⟨some 25,_,_,_,_,_⟩) rfl (.tmp 23) (.tmp 24) 41 41 rfl 5 Tryz.underlying41 E8s rfl rfl (zJR _) (hb.below ((Below.refl _ _).alloc (Nat.le_refl _) _)) ?c1 ?c2 ?_)
 case c1=>have:=Hl.out;omega
 case c2=>omega
 intro w1 hB1 hb1
 have hb1:Below w.heap.size w w1:=((Below.refl _ _).alloc (Nat.le_refl _) _).trans hb1
 have h0:=h.below hb1
 have hd1:=hd.kept hb1
 have c2:w1.cell? ⟨d,2,none⟩=some (.bool true):=by rw [hd1.cell,Hst.out];rfl
 have c3:w1.cell? ⟨d,3,none⟩=some (.int .i64 (s.cnt:Int)):=by rw [hd1.cell];rfl
 have f3:=hd1.free 3
 have h1:=h0.tick hcnt
 have hd1':=hd1
 obtain ⟨w2,hw2⟩:∃ w2,w2=w1.setCell ⟨d,3,none⟩ (.int .i64 ((s.cnt:Int) - 1)):=⟨_,rfl⟩
 rw [← hw2] at h1
 have hlt:d < w.heap.size:=hd.lt
 have hB2:Blk w2 w.heap.size (zW 32 fun k=>if k < bs.length then bs.getD k 0 else 0) 33:=by rw [hw2];exact hB1.set_other (show d≠w.heap.size by omega) _
 have hch2:Chg (fun b=>b=d∨b=L) w w2:=by rw [hw2];exact (Chg.of_below hb1).set (.inl rfl) _
 have c0:w2.cell? ⟨d,0,none⟩=some (.slice (some ⟨L,0,none⟩) s.n cap):=by rw [hw2,(hd1.set 3 _).cell];rfl
 have HB1:=Lib.hid hB1;have Hb1:=Lib.hid hb1;have Hd1:=Lib.hid hd1;have H0:=Lib.hid h0;have Hw2:=Lib.hid hw2
 clear hB1 hb1 hd1 h0 c1 hd1' hw2
 obtain ⟨cs,Hcs,hcl,hone,hr1,ht1,_⟩:=zCy (i:=i) h1 hi hB2 32 (Nat.le_refl _)
 have hu:=Tryz.underlying33
 have hi32:(Tryz.prog.info? 33).map (·.size)=some cs.length:=by rw [hcl];exact i32
 have hD:=h1.laid (show i < _ from hi) bs (Nat.le_refl 32) Hcs.out 1
 have hC:=Chg.setCells (S:=fun b=>b=d∨b=L) (L:=L) (.inr rfl) cs (i*32) _ hch2.drew
 have hD:zM (w2.drew.setCells L (i*32) cs) d L { s with cnt:=s.cnt - 1,f:=s.lay i bs 32 }:=hD
 obtain ⟨cap',arr',hd2,_⟩:=id hD
 have c5:(w2.drew.setCells L (i*32) cs).cell? ⟨d,5,none⟩=some (.int .i64 (s.writes:Int)):=by rw [hd2.cell];rfl
 have f5:=hd2.free 5
 have HD:=Lib.hid hD;have HC:=Lib.hid hC;have HB2:=Lib.hid hB2;have H1:=Lib.hid h1;have Hd2:=Lib.hid hd2;have Hch:=Lib.hid hch2
 clear hD hC hB2 h1 hd2 hch2
 go_upto_region 13 with fail
 rw [← Hw2.out]
 go_region_held3 (fun w'=>w'.cell? ⟨d,0,none⟩=some (.slice (some ⟨L,0,none⟩) s.n cap)∧w'.rangeAt w.heap.size 0 cs∧w'.there L (i*32) 32) (first | exact ⟨c0,hr1,ht1⟩ | exact zHm hne (Nat.ne_of_gt hL.lt) c0 hr1 ht1) (fail)
 go_wp2
 go_ret
 exact ⟨rfl,by rw [HW.out];exact HD.out.count hw,HC.out.set (.inl rfl) _⟩
set_option maxRecDepth 100000 in
set_option maxHeartbeats 2000000 in
theorem zHV (d L:Nat) (s:zA) (i:Nat) (v:Value) (bs:List UInt8) (w:World) (h:zM w d L s) (hb:Bys w v bs) (hi:i < s.n) (hl:bs.length≤32) (hdead:s.dead=false) (hst:s.stops=true) (hcnt:s.cnt=0) :
  Calls Tryz.prog 54 #[.pointer (some ⟨d,0,none⟩),.int .i64 i,v] w fun e w'=>e=.returned (.int .i64 8)∧zM w' d L (s.write i bs)∧Chg (fun b=>b=d∨b=L) w w':=by
 obtain ⟨cap,arr,hd,hc1,hcap,hL,r1,r2,r3,r4,r5,hne,r6,r7⟩:=id h
 have c1:w.cell? ⟨d,1,none⟩=some (.bool false):=by rw [hd.cell,hdead];rfl
 obtain ⟨a,c,rfl⟩:=hb.eq_slice
 have HW:=Lib.hid (show s.write i bs={ s with f:=s.lay i bs s.keep,dead:=true } from by simp [zA.write,hst,hcnt])
 obtain ⟨l,hl'⟩:∃ l,l=bs.length:=⟨_,rfl⟩
 rw [← hl'] at hl hb ⊢
 have Hl:=Lib.hid hl';have Hst:=Lib.hid hst;have Hcnt:=Lib.hid hcnt
 have i1:(0:Int)≤(i:Int):=by omega
 have i2:(i:Int) < (s.n:Int):=by omega
 have k1:(0:Int)≤(s.keep:Int):=by omega
 have k2:(s.keep:Int)≤32:=by omega
 clear hdead hst hl' hcnt
 go_enter Tryz.func54,Tryz.ntmps54
 go_wp2_with fail
 refine (zAx d L s i w h true (zA.may_yes hi)).mono ?_
 rintro e w1 ⟨rfl,rfl⟩
 go_wp2_with (refine zEu (o:=⟨some 25,_,_,_,_,_⟩) rfl (.tmp 23) (.tmp 24) 41 41 rfl 5 Tryz.underlying41 E8s rfl rfl (zJR _) (hb.below ((Below.refl _ _).alloc (Nat.le_refl _) _)) ?c1 ?c2 ?_)
 case c1=>have:=Hl.out;omega
 case c2=>omega
 intro w1 hB1 hb1
 have hb1:Below w.heap.size w w1:=((Below.refl _ _).alloc (Nat.le_refl _) _).trans hb1
 have h1:=h.below hb1
 have hd1:=hd.kept hb1
 have c0:w1.cell? ⟨d,0,none⟩=some (.slice (some ⟨L,0,none⟩) s.n cap):=by rw [hd1.cell];rfl
 have c2:w1.cell? ⟨d,2,none⟩=some (.bool true):=by rw [hd1.cell,Hst.out];rfl
 have c3:w1.cell? ⟨d,3,none⟩=some (.int .i64 0):=by rw [hd1.cell,Hcnt.out];rfl
 have c4:w1.cell? ⟨d,4,none⟩=some (.int .i64 (s.keep:Int)):=by rw [hd1.cell];rfl
 obtain ⟨cs,Hcs,hcl,hone,hr1,ht1,hsrc⟩:=zCy (i:=i) h1 hi hB1 s.keep r5
 have ht1:w1.there L (i*32) cs.length:=fun j hj=>ht1 j (by rw [hcl] at hj;omega)
 have hD:=h1.laid hi bs r5 Hcs.out 1
 have hC:=Chg.setCells (S:=fun b=>b=d∨b=L) (L:=L) (.inr rfl) cs (i*32) _ (Chg.drew (Chg.of_below (S:=fun b=>b=d∨b=L) hb1))
 have hD:zM (w1.drew.setCells L (i*32) cs) d L { s with f:=s.lay i bs s.keep }:=hD
 obtain ⟨cap',arr',hd2,_⟩:=id hD
 have c5:(w1.drew.setCells L (i*32) cs).cell? ⟨d,1,none⟩=some (.bool s.dead):=by rw [hd2.cell];rfl
 have f5:=hd2.free 1
 have HD:=Lib.hid hD;have HC:=Lib.hid hC;have HB1:=Lib.hid hB1;have Hb1:=Lib.hid hb1;have Hd1:=Lib.hid hd1;have H1:=Lib.hid h1;have Hd2:=Lib.hid hd2;have Hcl:=Lib.hid hcl;have Hsrc:=Lib.hid hsrc;have Hone:=Lib.hid hone;have Ht:=Lib.hid ht1
 clear hD hC hB1 hb1 hd1 h1 hd2 c1 hcl hsrc hr1 hone ht1
 go_wp2_with fail
 go_region_held3 (fun w'=>w'.cell? ⟨d,0,none⟩=some (.slice (some ⟨L,0,none⟩) s.n cap)∧w'.cell? ⟨d,4,none⟩=some (.int .i64 (s.keep:Int))) (first | exact ⟨c0,c4⟩ | assumption | exact ⟨by rw [World.cell?_setCells_out _ _ _ _ _ (fun e=>absurd e hne)];exact c0,by rw [World.cell?_setCells_out _ _ _ _ _ (fun e=>absurd e hne)];exact c4⟩)
  (first
   | (refine zFo (by rfl) _ _ _ _ 5 (by rfl) Tryz.underlying41 E8s (b:=L) (off:=i*32) (sa:=⟨w.heap.size,0,none⟩) cs (by rfl) (by rfl) (by rw [Hcl.out];exact (Nat.min_self _).symm) Hsrc.out Ht.out Hone.out ?_))
 go_wp2
 go_ret
 exact ⟨rfl,by rw [HW.out];exact HD.out.die,HC.out.set (.inl rfl) _⟩
theorem zGW (d L:Nat) (s:zA) (i:Nat) (v:Value) (bs:List UInt8) (w:World) (h:zM w d L s) (hb:Bys w v bs) (hi:i < s.n) (hl:bs.length≤32) (hdead:s.dead=false) (hw:s.writes < 4611686018427387904) :
  Calls Tryz.prog 54 #[.pointer (some ⟨d,0,none⟩),.int .i64 i,v] w fun e w'=>e=.returned (.int .i64 (if s.stops=true∧s.cnt=0 then 8 else 0))∧zM w' d L (s.write i bs)∧Chg (fun b=>b=d∨b=L) w w':=by
 by_cases hs:s.stops=true
 · by_cases hc:s.cnt=0
   · rw [if_pos ⟨hs,hc⟩];exact zHV d L s i v bs w h hb hi hl hdead hs hc
   · rw [if_neg (fun e=>hc e.2)];exact zHW d L s i v bs w h hb hi hl hdead hs (by omega) hw
 · rw [if_neg (fun e=>hs e.1)];exact zGX d L s i v bs w h hb hi hl hdead (by simpa using hs) hw
end Go.Proofs.YtdlkghdfkjdajaaGreatDoor
end
section
namespace Go.Mem
open Go Go.RowKit Gf
theorem zHp (s:zA) (i:Nat) (bs:List UInt8) (m k:Nat):s.lay i bs m (i*32+k)=if k < m then bs.getD k 0 else s.f (i*32+k):=by
 unfold zA.lay
 by_cases h:k < m
 · rw [if_pos (by omega),if_pos h,show i*32+k - i*32=k from by omega]
 · rw [if_neg (by omega),if_neg h]
theorem zFV (s:zA) (i k:Nat) (hk:k < 32):(s.sector i)[k]?=some (s.f (i*32+k)):=zBb _ _ _ hk
theorem zCV (s:zA) (i:Nat):(s.sector i).length=32:=zA4 _ _
end Go.Mem
namespace Go.Proofs.YtdlkghdfkjdajaaGreatDoor
open Go Go.RowKit Go.Mem Gf
attribute [local go_sem ↓] Go.wp_at_zero Go.wp_at_succ
end Go.Proofs.YtdlkghdfkjdajaaGreatDoor
end
section
namespace Go.Proofs.YtdlkghdfkjdajaaGreatDoor
open Go Go.RowKit Go.Mem Gf
attribute [local go_sem ↓] Go.wp_at_zero Go.wp_at_succ
def zZ (w:World) (r B:Nat) (s:zA):Prop :=
 ∃ (cap:Nat) (atv:Int) (arr:Array Value),Blk w r #[.slice (some ⟨B,0,none⟩) (s.n*32) cap,.bool s.dead,.bool s.stops,.int .i64 atv,.int .i64 s.keep,.int .i64 s.writes] 96∧s.n*32≤cap∧cap≤9223372036854775807∧Blk w B arr 5∧s.n*32≤arr.size ∧
   (∀ j,j < s.n*32→arr[j]?=some (.int .u8 ((s.f j).toNat:Int)))∧1≤s.n∧s.n≤4096∧s.keep≤32∧r≠B∧(s.stops=true→atv=s.cnt)∧-(s.writes:Int)≤atv∧atv≤9223372036854775807∧s.writes≤4611686018427387904
theorem zZ.chg {w w':World} {r B:Nat} {s:zA} {S:Nat→Prop} (h:zZ w r B s) (hc:Chg S w w') (h1:¬ S r) (h2:¬ S B):zZ w' r B s:=by
 obtain ⟨cap,atv,arr,hd,a,b,hL,r⟩:=h
 exact ⟨cap,atv,arr,hc.blk hd h1,a,b,hc.blk hL h2,r⟩
theorem zZ.below {w w':World} {r B:Nat} {s:zA} (h:zZ w r B s) (hc:Below w.heap.size w w'):zZ w' r B s:=h.chg (S:=fun _=>False) (Chg.of_below hc) id id
theorem zZ.lt {w:World} {r B:Nat} {s:zA} (h:zZ w r B s):r < w.heap.size∧B < w.heap.size:=by
 obtain ⟨cap,atv,arr,hd,a,b,hL,_⟩:=h
 exact ⟨hd.lt,hL.lt⟩
theorem zZ.set {w:World} {r B:Nat} {s:zA} (h:zZ w r B s) (x:Nat) (u:UInt8):zZ (w.setCell ⟨B,x,none⟩ (.int .u8 (u.toNat:Int))) r B { s with f:=fun j=>if j=x then u else s.f j }:=by
 obtain ⟨cap,atv,arr,hd,a,b,hL,r1,r2,r3,r4,r5,hne,r6⟩:=h
 refine ⟨cap,atv,_,hd.set_other (fun e=>hne e.symm) _,a,b,hL.set x _,by rw [Array.size_setIfInBounds];exact r1,fun j hj=>?_,r3,r4,r5,hne,r6⟩
 have hj:j < s.n*32:=hj
 rw [Array.getElem?_setIfInBounds]
 by_cases e:x=j
 · subst e;simp;omega
 · rw [if_neg e,r2 j hj]
   show some (Value.int .u8 ((s.f j).toNat:Int))=some (Value.int .u8 ((if j=x then u else s.f j).toNat:Int))
   rw [if_neg (fun e'=>e e'.symm)]
set_option maxRecDepth 100000 in
set_option maxHeartbeats 1000000 in
theorem zBA (r B:Nat) (s:zA) (w:World) (h:zZ w r B s) :
  Calls Tryz.prog 43 #[.pointer (some ⟨r,0,none⟩)] w fun e w'=>e=.returned (.int .i64 (s.n:Int))∧w=w':=by
 obtain ⟨cap,atv,arr,hd,a,b,hL,_,_,hn1,hn2,_⟩:=h
 have c0:w.cell? ⟨r,0,none⟩=some (.slice (some ⟨B,0,none⟩) (s.n*32) cap):=by rw [hd.cell];rfl
 go_enter Tryz.func43,Tryz.ntmps43
 go_wp2
 go_ret
 refine ⟨zGp ?_,rfl⟩
 first | omega | (simp;omega) | (push_cast;omega)
set_option maxRecDepth 100000 in
set_option maxHeartbeats 1000000 in
theorem zGy (r B:Nat) (s:zA) (w:World) (h:zZ w r B s) :
  Calls Tryz.prog 21 #[.pointer (some ⟨r,0,none⟩)] w fun e w'=>e=.returned (.tuple #[])∧zZ w' r B s.start∧Chg (fun b=>b=r) w w':=by
 obtain ⟨cap,atv,arr,hd,a,b,hL,r1,r2,r3,r4,r5,hne,r6,r7,r8,r9⟩:=h
 have c1:w.cell? ⟨r,1,none⟩=some (.bool s.dead):=by rw [hd.cell];rfl
 have c2:w.cell? ⟨r,2,none⟩=some (.bool s.stops):=by rw [hd.cell];rfl
 have c3:w.cell? ⟨r,3,none⟩=some (.int .i64 atv):=by rw [hd.cell];rfl
 have f1:=hd.free 1
 have f2:=hd.free 2
 have f3:=hd.free 3
 clear r6
 go_enter Tryz.func21,Tryz.ntmps21
 go_wp2
 go_end0
 exact ⟨rfl,⟨cap,0,arr,((hd.set 1 (.bool false)).set 2 (.bool false)).set 3 (.int .i64 0),a,b,((hL.set_other hne _).set_other hne _).set_other hne _,r1,r2,r3,r4,r5,hne,(fun h=>by cases h),by show -(s.writes:Int)≤0;omega,by omega,r9⟩,(((Chg.refl (fun b=>b=r) _).set rfl _).set rfl _).set rfl _⟩
theorem zZ.stopped {r B:Nat} {s:zA} {x y X Y:Int} {w:World} (h:zZ w r B s) (hx:x≤9223372036854775807) (hX:((max 0 x).toNat:Int)=X) (hY:((max 0 (min y 32)).toNat:Int)=Y) :
  zZ (((w.setCell ⟨r,2,none⟩ (.bool true)).setCell ⟨r,3,none⟩ (.int .i64 X)).setCell ⟨r,4,none⟩ (.int .i64 Y)) r B (s.stop x y):=by
 obtain ⟨cap,atv,arr,hd,a,b,hL,r1,r2,r3,r4,r5,hne,r6,r7,r8,r9⟩:=h
 subst hX hY
 exact ⟨cap,_,arr,((hd.set 2 _).set 3 _).set 4 _,a,b,((hL.set_other hne _).set_other hne _).set_other hne _,r1,r2,r3,r4,by show (max 0 (min y 32)).toNat≤32;omega,hne,fun _=>rfl,by show -(s.writes:Int)≤_;omega,by omega,r9⟩
set_option maxRecDepth 100000 in
set_option maxHeartbeats 1000000 in
theorem zIC (r B:Nat) (s:zA) (x y:Int) (w:World) (hD:zZ w r B s) (hx:x≤9223372036854775807) :
  Calls Tryz.prog 20 #[.pointer (some ⟨r,0,none⟩),.int .i64 x,.int .i64 y] w fun e w'=>e=.returned (.tuple #[])∧zZ w' r B (s.stop x y)∧Chg (fun b=>b=r) w w':=by
 obtain ⟨cap,atv,arr,hd,_⟩:=id hD
 have c1:w.cell? ⟨r,2,none⟩=some (.bool s.stops):=by rw [hd.cell];rfl
 have c2:w.cell? ⟨r,3,none⟩=some (.int .i64 atv):=by rw [hd.cell];rfl
 have c3:w.cell? ⟨r,4,none⟩=some (.int .i64 s.keep):=by rw [hd.cell];rfl
 have f1:=hd.free 2
 have f2:=hd.free 3
 have f3:=hd.free 4
 go_enter Tryz.func20,Tryz.ntmps20
 go_wp2
 all_goals
  go_end0
  exact ⟨rfl,hD.stopped hx (by omega) (by omega),(((Chg.refl (fun b=>b=r) _).set rfl _).set rfl _).set rfl _⟩
set_option maxRecDepth 100000 in
set_option maxHeartbeats 1000000 in
theorem zJC (n:Nat) (w:World) (h1:1≤n) (h2:n≤4096) :
  Calls Tryz.prog 16 #[.int .i64 n] w fun e w'=>∃ r B,e=.returned (.tuple #[.pointer (some ⟨r,0,none⟩),.bool true])∧zZ w' r B (.fresh n)∧w.heap.size≤r∧w.heap.size≤B∧Below w.heap.size w w':=by
 have hmk:∀ w,(Instr.makeSlice 41 (.int .i64 ((n:Int)*32)) (.int .i64 ((n:Int)*32))).run Tryz.prog w=.ok (.slice (some ⟨w.heap.size,0,none⟩) (n*32) (n*32)) (w.alloc (.cells (zW (n*32) fun _=>0) 5)):=fun w=>by
  have:=zDQ (P:=Tryz.prog) 41 5 Tryz.underlying41 E8k (n*32) (by omega) w
  rw [zB1] at this
  simpa using this
 have t1:decide ((n:Int) < 1)=false:=by simp;omega
 have t2:decide ((4096:Int) < (n:Int))=false:=by simp;omega
 go_enter Tryz.func16,Tryz.ntmps16
 go_wp2
 go_ret2
 have hL:Blk (w.alloc (.cells (zW (n*32) fun _=>0) 5)) w.heap.size (zW (n*32) fun _=>0) 5:=Blk.new _ _ _
 exact ⟨_,_,rfl,⟨n*32,0,zW (n*32) fun _=>0,Blk.new_at _ _ _ _ (by simp),Nat.le_refl _,by omega,hL.alloc _,by rw [zq];exact Nat.le_refl _,fun j hj=>zAN _ _ _ hj,h1,h2,Nat.zero_le _,by omega,(fun h=>by cases h),by show -((0:Nat):Int)≤0;decide,by decide,Nat.zero_le _⟩,by omega,Nat.le_refl _,
  ((Below.refl _ _).alloc (Nat.le_refl _) _).alloc (by simp) _⟩
theorem zZ.die {r B:Nat} {s:zA} {w:World} (h:zZ w r B s):zZ (w.setCell ⟨r,1,none⟩ (.bool true)) r B { s with dead:=true }:=by
 obtain ⟨cap,atv,arr,hd,a,b,hL,r1,r2,r3,r4,r5,hne,r6⟩:=h
 exact ⟨cap,atv,arr,hd.set 1 (.bool true),a,b,hL.set_other hne _,r1,r2,r3,r4,r5,hne,r6⟩
theorem zCF (s:zA) (i:Nat) (bs:List UInt8) (m:Nat):s.lay i bs (m+1)=fun j=>if j=i*32+m then bs.getD m 0 else s.lay i bs m j:=by
 funext j
 unfold zA.lay
 by_cases e:j=i*32+m
 · subst e;rw [if_pos (by omega),if_pos rfl,show i*32+m - i*32=m from by omega]
 · rw [if_neg e]
   by_cases e2:i*32≤j∧j < i*32+m
   · rw [if_pos e2,if_pos (by omega)]
   · rw [if_neg e2,if_neg (by omega)]
theorem zE6 (s:zA) (i:Nat) (bs:List UInt8):s.lay i bs 0=s.f:=by
 funext j;unfold zA.lay;rw [if_neg (by omega)]
set_option maxRecDepth 100000 in
set_option maxHeartbeats 1000000 in
theorem zJG (r B:Nat) (s:zA) (i:Int) (v:Value) (bs:List UInt8) (w:World) (h:zZ w r B s) (hb:Bys w v bs) (hi:(i < 0∨(s.n:Int)≤i)∨32 < bs.length) :
  Calls Tryz.prog 45 #[.pointer (some ⟨r,0,none⟩),.int .i64 i,v] w fun e w'=>e=.returned (.int .i64 1)∧w=w':=by
 obtain ⟨a,c,rfl⟩:=hb.eq_slice
 obtain ⟨l,hl⟩:∃ l,l=bs.length:=⟨_,rfl⟩
 rw [← hl] at hi ⊢
 clear hl
 by_cases h0:i < 0
 · go_enter Tryz.func45,Tryz.ntmps45
   go_wp2
   go_ret
   exact ⟨rfl,rfl⟩
 · by_cases hm:(s.n:Int)≤i
   · clear hi
     go_enter Tryz.func45,Tryz.ntmps45
     go_wp2_with fail
     refine (zBA r B s _ h).mono ?_
     rintro e w1 ⟨rfl,rfl⟩
     go_wp2
     go_ret
     exact ⟨rfl,rfl⟩
   · have hl:32 < l:=by omega
     clear hi
     go_enter Tryz.func45,Tryz.ntmps45
     go_wp2_with fail
     refine (zBA r B s _ h).mono ?_
     rintro e w1 ⟨rfl,rfl⟩
     go_wp2
     go_ret
     exact ⟨rfl,rfl⟩
set_option maxRecDepth 100000 in
set_option maxHeartbeats 1000000 in
theorem zIF (r B:Nat) (s:zA) (i:Nat) (v:Value) (bs:List UInt8) (w:World) (h:zZ w r B s) (hb:Bys w v bs) (hi:i < s.n) (hl:bs.length≤32) (hdead:s.dead=true) :
  Calls Tryz.prog 45 #[.pointer (some ⟨r,0,none⟩),.int .i64 i,v] w fun e w'=>e=.returned (.int .i64 8)∧w=w':=by
 obtain ⟨a,c,rfl⟩:=hb.eq_slice
 obtain ⟨l,hl'⟩:∃ l,l=bs.length:=⟨_,rfl⟩
 rw [← hl'] at hl ⊢
 clear hl'
 obtain ⟨cap,atv,arr,hd,_⟩:=id h
 have c1:w.cell? ⟨r,1,none⟩=some (.bool true):=by rw [hd.cell,hdead];rfl
 clear hdead
 go_enter Tryz.func45,Tryz.ntmps45
 go_wp2_with fail
 refine (zBA r B s _ h).mono ?_
 rintro e w1 ⟨rfl,rfl⟩
 go_wp2
 go_ret
 exact ⟨rfl,rfl⟩
theorem zZ.more {r B:Nat} {s:zA} {w:World} {cap:Nat} {atv:Int} (hd:Blk w r #[.slice (some ⟨B,0,none⟩) (s.n*32) cap,.bool s.dead,.bool s.stops,.int .i64 atv,.int .i64 s.keep,.int .i64 s.writes] 96) (h:zZ w r B s) (hw:s.writes < 4611686018427387904) (hc:s.stops=true→0 < s.cnt) :
  zZ ((w.setCell ⟨r,3,none⟩ (.int .i64 (atv - 1))).setCell ⟨r,5,none⟩ (.int .i64 ((s.writes:Int)+1))) r B { s with cnt:=if s.stops then s.cnt - 1 else s.cnt,writes:=s.writes+1 }:=by
 obtain ⟨cap',atv',arr',hd',a,b,hL,r1,r2,r3,r4,r5,hne,r6,r7,r8,r9⟩:=h
 have e:=hd.symm.trans hd'
 injection e with e
 injection e with e1 e2
 simp at e1
 obtain ⟨rfl,rfl⟩:=e1
 refine ⟨cap,atv - 1,arr',?_,a,b,(hL.set_other hne _).set_other hne _,r1,r2,r3,r4,r5,hne,fun hs=>?_,by show -((s.writes+1:Nat):Int)≤_;omega,by omega,by show s.writes+1≤_;omega⟩
 · have:=(hd.set 3 (.int .i64 (atv - 1))).set 5 (.int .i64 ((s.writes:Int)+1))
   simpa using this
 · have hs:s.stops=true:=hs
   have:=r6 hs
   have:=hc hs
   show atv - 1=((if s.stops=true then s.cnt - 1 else s.cnt:Nat):Int)
   rw [if_pos hs];omega
set_option maxRecDepth 20000 in
set_option maxHeartbeats 4000000 in
theorem zGz (r B:Nat) (s:zA) (i:Nat) (v:Value) (bs:List UInt8) (w:World) (h:zZ w r B s) (hb:Bys w v bs) (hkeep:∀ w',Chg (fun b=>b=B) w w'→Bys w' v bs) (hi:i < s.n) (hl:bs.length≤32) (hdead:s.dead=false) (hw:s.writes < 4611686018427387904) :
  Calls Tryz.prog 45 #[.pointer (some ⟨r,0,none⟩),.int .i64 i,v] w fun e w'=>e=.returned (.int .i64 (if s.stops=true∧s.cnt=0 then 8 else 0))∧zZ w' r B (s.write i bs)∧Chg (fun b=>b=r∨b=B) w w':=by
 obtain ⟨a,c,rfl⟩:=hb.eq_slice
 obtain ⟨cap,atv,arr,hd,hc1,hc2,hB,_,_,hn1,hn2,hk,hne,hat,hlo,hhi,_⟩:=id h
 obtain ⟨l,hl'⟩:∃ l,l=bs.length:=⟨_,rfl⟩
 rw [← hl'] at hl hb hkeep ⊢
 have Hl:=Lib.hid hl';have Hkeep:=Lib.hid hkeep;have Hat:=Lib.hid hat
 clear hl' hkeep hat
 have c1:w.cell? ⟨r,1,none⟩=some (.bool false):=by rw [hd.cell,hdead];rfl
 have c2:w.cell? ⟨r,2,none⟩=some (.bool s.stops):=by rw [hd.cell];rfl
 have c3:w.cell? ⟨r,3,none⟩=some (.int .i64 atv):=by rw [hd.cell];rfl
 have c4:w.cell? ⟨r,4,none⟩=some (.int .i64 (s.keep:Int)):=by rw [hd.cell];rfl
 have Hdead:=Lib.hid hdead
 clear hdead
 have hcase:(s.stops=true∧s.cnt=0∧atv=0)∨(s.stops=true∧0 < s.cnt∧(atv == 0)=false)∨s.stops=false:=by
  by_cases h1:s.stops=true
  · have:=Hat.out h1
    by_cases h2:s.cnt=0
    · exact .inl ⟨h1,h2,by omega⟩
    · exact .inr (.inl ⟨h1,by omega,by simp;omega⟩)
  · exact .inr (.inr (by simpa using h1))
 rcases hcase with ⟨hs,hcn,rfl⟩ | ⟨hs,hcn,hz⟩ | hs
 · rw [hs] at c2
   have Hr:=Lib.hid (show s.write i bs={ s with f:=s.lay i bs s.keep,dead:=true } from by unfold zA.write;rw [if_pos ⟨hs,hcn⟩])
   rw [if_pos ⟨hs,hcn⟩]
   have Hs:=Lib.hid hs
   obtain ⟨m,hm⟩:∃ m,m=s.keep:=⟨_,rfl⟩
   rw [← hm] at c4 hk
   have Hm:=Lib.hid hm
   clear hs hcn hm
   go_enter Tryz.func45,Tryz.ntmps45
   go_wp2_with fail
   refine (zBA r B s _ h).mono ?_
   rintro e w1 ⟨rfl,rfl⟩
   go_wp2_with fail
   go_loopw [8] (fun v wr=>∃ k:Nat,k≤m∧v=.int .i64 k∧zZ wr r B { s with f:=s.lay i bs k }∧Chg (fun b=>b=B) w wr) (fun v _=>m - (intOf v).toNat)
   case atStart=>exact ⟨0,by omega,rfl,by rw [zE6];exact h,Chg.refl _ _⟩
   case round =>
    obtain ⟨k,hk',rfl,hR,hch⟩:=hrel
    have hdr:=hch.blk hd (fun e=>hne e)
    have d0:wr.cell? ⟨r,0,none⟩=some (.slice (some ⟨B,0,none⟩) (s.n*32) cap):=by rw [hdr.cell];rfl
    by_cases h0:k < m
    · have hx:i*32+k < s.n*32:=by omega
      obtain ⟨cap2,atv2,arr2,_,_,_,hB2,_,hf2,_⟩:=id hR
      have c5:wr.cell? ⟨B,i*32+k,none⟩=some (.int .u8 ((s.lay i bs k (i*32+k)).toNat:Int)):=by rw [hB2.cell];exact hf2 _ hx
      have f5:=hB2.free (i*32+k)
      have hR1:=hR.set (i*32+k) 0
      have i1:(0:Int)≤(i:Int)*32+(k:Int):=by omega
      have i2:(i:Int)*32+(k:Int) < (s.n:Int)*32:=by omega
      obtain ⟨ws,hws⟩:∃ ws,ws=wr.setCell ⟨B,i*32+k,none⟩ (.int .u8 0):=⟨_,rfl⟩
      have hchs:Chg (fun b=>b=B) w ws:=by rw [hws];exact hch.set rfl _
      have hR1:zZ ws r B { s with f:=fun j=>if j=i*32+k then 0 else s.lay i bs k j }:=by rw [hws];exact hR1
      have hdr2:=hchs.blk hd (fun e=>hne e)
      by_cases hkl:k < l
      · obtain ⟨bx,ox,u,rfl,hu,c6,_⟩:=(Hkeep.out ws hchs).at k (by have:=Hl.out;omega)
        have d0':ws.cell? ⟨r,0,none⟩=some (.slice (some ⟨B,0,none⟩) (s.n*32) cap):=by rw [hdr2.cell];rfl
        obtain ⟨cap3,atv3,arr3,_,_,_,hB3,_,hf3,_⟩:=id hR1
        have c5':ws.cell? ⟨B,i*32+k,none⟩=some (.int .u8 0):=by rw [hB3.cell,hf3 _ hx];simp
        have f5':=hB3.free (i*32+k)
        have i3:(0:Int)≤(k:Int):=by omega
        have i4:(k:Int) < (l:Int):=by omega
        have Hfin:=Lib.hid (show zZ (ws.setCell ⟨B,i*32+k,none⟩ (.int .u8 (u.toNat:Int))) r B { s with f:=s.lay i bs (k+1) } from by
         have h3:=hR1.set (i*32+k) u
         have e:s.lay i bs (k+1)=fun j=>if j=i*32+k then u else (if j=i*32+k then 0 else s.lay i bs k j):=by
          rw [zCF];funext j
          by_cases e:j=i*32+k
          · rw [if_pos e,if_pos e,List.getD_eq_getElem?_getD,hu.out];rfl
          · rw [if_neg e,if_neg e,if_neg e]
         rw [e];exact h3)
        have hset:=Chg.drew (hchs.set (a:=⟨B,i*32+k,none⟩) rfl (.int .u8 (u.toNat:Int)))
        have e1:(ws.setCell ⟨B,i*32+k,none⟩ (.int .u8 (u.toNat:Int))).drew.cell? ⟨r,0,none⟩=some (.slice (some ⟨B,0,none⟩) (s.n*32) cap):=by rw [(hset.blk hd (fun e=>hne e)).cell];rfl
        have e2:(ws.setCell ⟨B,i*32+k,none⟩ (.int .u8 (u.toNat:Int))).drew.cell? ⟨bx,ox+k,none⟩=some (.int .u8 (u.toNat:Int)):=by
         obtain ⟨b',o',u',e,hu',c',_⟩:=(Hkeep.out _ hset).at k (by have:=Hl.out;omega)
         cases e
         have:=hu.out.symm.trans hu'.out
         cases this
         exact c'
        have Hset:=Lib.hid hset
        have Hws:=Lib.hid hws
        have E12:=Lib.hid (And.intro e1 e2)
        clear hws hB2 hf2 hB3 hf3 hR1 hR hB hset e1 e2
        go_upto_region 13 with fail
        rw [← Hws.out]
        clear c5 f5 d0
        have q1:IntKind.i64.wrap ((i:Int)*32)=(i:Int)*32:=IntWalk.i64_in _ (by omega)
        have q2:IntKind.i64.wrap ((i:Int)*32+(k:Int))=(i:Int)*32+(k:Int):=IntWalk.i64_in _ (by omega)
        have q3:((i:Int)*32+(k:Int)).toNat=i*32+k:=by omega
        go_region_held3 (fun w'=>w'.cell? ⟨r,0,none⟩=some (.slice (some ⟨B,0,none⟩) (s.n*32) cap)∧w'.cell? ⟨bx,ox+k,none⟩=some (.int .u8 (u.toNat:Int))) (first | exact ⟨d0',c6⟩ | exact E12.out) (fail)
        clear q1 q2 q3
        go_wp2
        exact ⟨⟨k+1,by omega,by go_num,Hfin.out,Hset.out⟩,by simp [intOf];omega⟩
      · have Hfin:=Lib.hid (show zZ ws r B { s with f:=s.lay i bs (k+1) } from by
         have e:s.lay i bs (k+1)=fun j=>if j=i*32+k then 0 else s.lay i bs k j:=by
          rw [zCF];funext j
          by_cases e:j=i*32+k
          · rw [if_pos e,if_pos e,List.getD_eq_getElem?_getD,List.getElem?_eq_none (by have:=Hl.out;omega)];rfl
          · rw [if_neg e,if_neg e]
         rw [e];exact hR1)
        have Hws:=Lib.hid hws
        clear hws hB2 hf2 hR1 hR hB
        go_wp2
        exact ⟨⟨k+1,by omega,by go_num,by rw [← Hws.out];exact Hfin.out,by rw [← Hws.out];exact hchs⟩,by simp [intOf];omega⟩
    · obtain rfl:m=k:=by omega
      have d1:wr.cell? ⟨r,1,none⟩=some (.bool false):=by rw [hdr.cell,Hdead.out];rfl
      have d2:wr.cell? ⟨r,2,none⟩=some (.bool true):=by rw [hdr.cell,Hs.out];rfl
      have d3:wr.cell? ⟨r,3,none⟩=some (.int .i64 0):=by rw [hdr.cell];rfl
      have f1:=hdr.free 1
      go_wp2
      go_ret
      exact ⟨rfl,by rw [Hr.out,show s.lay i bs s.keep=s.lay i bs m from by rw [Hm.out]];exact hR.die,(hch.mono fun _ h=>.inr h).set (.inl rfl) _⟩
 · rw [hs] at c2
   have Hr:=Lib.hid (show s.write i bs={ s with f:=s.lay i bs 32,cnt:=if s.stops then s.cnt - 1 else s.cnt,writes:=s.writes+1 } from by unfold zA.write;rw [if_neg (by omega)])
   rw [if_neg (by omega)]
   have Hs:=Lib.hid hs;have Hcn:=Lib.hid hcn
   clear hs hcn
   go_enter Tryz.func45,Tryz.ntmps45
   go_wp2_with fail
   refine (zBA r B s _ h).mono ?_
   rintro e w1 ⟨rfl,rfl⟩
   go_wp2_with fail
   go_loopw [8] (fun v wr=>∃ k:Nat,k≤32∧v=.int .i64 k∧zZ wr r B { s with f:=s.lay i bs k }∧Chg (fun b=>b=B) w wr) (fun v _=>32 - (intOf v).toNat)
   case atStart=>exact ⟨0,by omega,rfl,by rw [zE6];exact h,Chg.refl _ _⟩
   case round =>
    obtain ⟨k,hk',rfl,hR,hch⟩:=hrel
    have hdr:=hch.blk hd (fun e=>hne e)
    have d0:wr.cell? ⟨r,0,none⟩=some (.slice (some ⟨B,0,none⟩) (s.n*32) cap):=by rw [hdr.cell];rfl
    by_cases h0:k < 32
    · have hx:i*32+k < s.n*32:=by omega
      obtain ⟨cap2,atv2,arr2,_,_,_,hB2,_,hf2,_⟩:=id hR
      have c5:wr.cell? ⟨B,i*32+k,none⟩=some (.int .u8 ((s.lay i bs k (i*32+k)).toNat:Int)):=by rw [hB2.cell];exact hf2 _ hx
      have f5:=hB2.free (i*32+k)
      have hR1:=hR.set (i*32+k) 0
      have i1:(0:Int)≤(i:Int)*32+(k:Int):=by omega
      have i2:(i:Int)*32+(k:Int) < (s.n:Int)*32:=by omega
      obtain ⟨ws,hws⟩:∃ ws,ws=wr.setCell ⟨B,i*32+k,none⟩ (.int .u8 0):=⟨_,rfl⟩
      have hchs:Chg (fun b=>b=B) w ws:=by rw [hws];exact hch.set rfl _
      have hR1:zZ ws r B { s with f:=fun j=>if j=i*32+k then 0 else s.lay i bs k j }:=by rw [hws];exact hR1
      have hdr2:=hchs.blk hd (fun e=>hne e)
      by_cases hkl:k < l
      · obtain ⟨bx,ox,u,rfl,hu,c6,_⟩:=(Hkeep.out ws hchs).at k (by have:=Hl.out;omega)
        have d0':ws.cell? ⟨r,0,none⟩=some (.slice (some ⟨B,0,none⟩) (s.n*32) cap):=by rw [hdr2.cell];rfl
        obtain ⟨cap3,atv3,arr3,_,_,_,hB3,_,hf3,_⟩:=id hR1
        have c5':ws.cell? ⟨B,i*32+k,none⟩=some (.int .u8 0):=by rw [hB3.cell,hf3 _ hx];simp
        have f5':=hB3.free (i*32+k)
        have i3:(0:Int)≤(k:Int):=by omega
        have i4:(k:Int) < (l:Int):=by omega
        have Hfin:=Lib.hid (show zZ (ws.setCell ⟨B,i*32+k,none⟩ (.int .u8 (u.toNat:Int))) r B { s with f:=s.lay i bs (k+1) } from by
         have h3:=hR1.set (i*32+k) u
         have e:s.lay i bs (k+1)=fun j=>if j=i*32+k then u else (if j=i*32+k then 0 else s.lay i bs k j):=by
          rw [zCF];funext j
          by_cases e:j=i*32+k
          · rw [if_pos e,if_pos e,List.getD_eq_getElem?_getD,hu.out];rfl
          · rw [if_neg e,if_neg e,if_neg e]
         rw [e];exact h3)
        have hset:=Chg.drew (hchs.set (a:=⟨B,i*32+k,none⟩) rfl (.int .u8 (u.toNat:Int)))
        have e1:(ws.setCell ⟨B,i*32+k,none⟩ (.int .u8 (u.toNat:Int))).drew.cell? ⟨r,0,none⟩=some (.slice (some ⟨B,0,none⟩) (s.n*32) cap):=by rw [(hset.blk hd (fun e=>hne e)).cell];rfl
        have e2:(ws.setCell ⟨B,i*32+k,none⟩ (.int .u8 (u.toNat:Int))).drew.cell? ⟨bx,ox+k,none⟩=some (.int .u8 (u.toNat:Int)):=by
         obtain ⟨b',o',u',e,hu',c',_⟩:=(Hkeep.out _ hset).at k (by have:=Hl.out;omega)
         cases e
         have:=hu.out.symm.trans hu'.out
         cases this
         exact c'
        have Hset:=Lib.hid hset
        have Hws:=Lib.hid hws
        have E12:=Lib.hid (And.intro e1 e2)
        clear hws hB2 hf2 hB3 hf3 hR1 hR hB hset e1 e2
        go_upto_region 13 with fail
        rw [← Hws.out]
        clear c5 f5 d0
        have q1:IntKind.i64.wrap ((i:Int)*32)=(i:Int)*32:=IntWalk.i64_in _ (by omega)
        have q2:IntKind.i64.wrap ((i:Int)*32+(k:Int))=(i:Int)*32+(k:Int):=IntWalk.i64_in _ (by omega)
        have q3:((i:Int)*32+(k:Int)).toNat=i*32+k:=by omega
        go_region_held3 (fun w'=>w'.cell? ⟨r,0,none⟩=some (.slice (some ⟨B,0,none⟩) (s.n*32) cap)∧w'.cell? ⟨bx,ox+k,none⟩=some (.int .u8 (u.toNat:Int))) (first | exact ⟨d0',c6⟩ | exact E12.out) (fail)
        clear q1 q2 q3
        go_wp2
        exact ⟨⟨k+1,by omega,by go_num,Hfin.out,Hset.out⟩,by simp [intOf];omega⟩
      · have Hfin:=Lib.hid (show zZ ws r B { s with f:=s.lay i bs (k+1) } from by
         have e:s.lay i bs (k+1)=fun j=>if j=i*32+k then 0 else s.lay i bs k j:=by
          rw [zCF];funext j
          by_cases e:j=i*32+k
          · rw [if_pos e,if_pos e,List.getD_eq_getElem?_getD,List.getElem?_eq_none (by have:=Hl.out;omega)];rfl
          · rw [if_neg e,if_neg e]
         rw [e];exact hR1)
        have Hws:=Lib.hid hws
        clear hws hB2 hf2 hR1 hR hB
        go_wp2
        exact ⟨⟨k+1,by omega,by go_num,by rw [← Hws.out];exact Hfin.out,by rw [← Hws.out];exact hchs⟩,by simp [intOf];omega⟩
    · obtain rfl:k=32:=by omega
      have d1:wr.cell? ⟨r,1,none⟩=some (.bool false):=by rw [hdr.cell,Hdead.out];rfl
      have d2:wr.cell? ⟨r,2,none⟩=some (.bool true):=by rw [hdr.cell,Hs.out];rfl
      have d3:wr.cell? ⟨r,3,none⟩=some (.int .i64 atv):=by rw [hdr.cell];rfl
      have d5:wr.cell? ⟨r,5,none⟩=some (.int .i64 (s.writes:Int)):=by rw [hdr.cell];rfl
      have f3:=hdr.free 3
      have f5:=hdr.free 5
      go_wp2
      go_ret
      exact ⟨rfl,by rw [Hr.out];exact zZ.more (s:={ s with f:=s.lay i bs 32 }) hdr hR hw (fun _=>Hcn.out),((hch.mono fun _ h=>.inr h).set (.inl rfl) _).set (.inl rfl) _⟩
 · rw [hs] at c2
   have Hr:=Lib.hid (show s.write i bs={ s with f:=s.lay i bs 32,cnt:=if s.stops then s.cnt - 1 else s.cnt,writes:=s.writes+1 } from by unfold zA.write;rw [if_neg (by rw [hs];simp)])
   rw [if_neg (by rw [hs];simp)]
   have Hs:=Lib.hid hs
   clear hs
   go_enter Tryz.func45,Tryz.ntmps45
   go_wp2_with fail
   refine (zBA r B s _ h).mono ?_
   rintro e w1 ⟨rfl,rfl⟩
   go_wp2_with fail
   go_loopw [8] (fun v wr=>∃ k:Nat,k≤32∧v=.int .i64 k∧zZ wr r B { s with f:=s.lay i bs k }∧Chg (fun b=>b=B) w wr) (fun v _=>32 - (intOf v).toNat)
   case atStart=>exact ⟨0,by omega,rfl,by rw [zE6];exact h,Chg.refl _ _⟩
   case round =>
    obtain ⟨k,hk',rfl,hR,hch⟩:=hrel
    have hdr:=hch.blk hd (fun e=>hne e)
    have d0:wr.cell? ⟨r,0,none⟩=some (.slice (some ⟨B,0,none⟩) (s.n*32) cap):=by rw [hdr.cell];rfl
    by_cases h0:k < 32
    · have hx:i*32+k < s.n*32:=by omega
      obtain ⟨cap2,atv2,arr2,_,_,_,hB2,_,hf2,_⟩:=id hR
      have c5:wr.cell? ⟨B,i*32+k,none⟩=some (.int .u8 ((s.lay i bs k (i*32+k)).toNat:Int)):=by rw [hB2.cell];exact hf2 _ hx
      have f5:=hB2.free (i*32+k)
      have hR1:=hR.set (i*32+k) 0
      have i1:(0:Int)≤(i:Int)*32+(k:Int):=by omega
      have i2:(i:Int)*32+(k:Int) < (s.n:Int)*32:=by omega
      obtain ⟨ws,hws⟩:∃ ws,ws=wr.setCell ⟨B,i*32+k,none⟩ (.int .u8 0):=⟨_,rfl⟩
      have hchs:Chg (fun b=>b=B) w ws:=by rw [hws];exact hch.set rfl _
      have hR1:zZ ws r B { s with f:=fun j=>if j=i*32+k then 0 else s.lay i bs k j }:=by rw [hws];exact hR1
      have hdr2:=hchs.blk hd (fun e=>hne e)
      by_cases hkl:k < l
      · obtain ⟨bx,ox,u,rfl,hu,c6,_⟩:=(Hkeep.out ws hchs).at k (by have:=Hl.out;omega)
        have d0':ws.cell? ⟨r,0,none⟩=some (.slice (some ⟨B,0,none⟩) (s.n*32) cap):=by rw [hdr2.cell];rfl
        obtain ⟨cap3,atv3,arr3,_,_,_,hB3,_,hf3,_⟩:=id hR1
        have c5':ws.cell? ⟨B,i*32+k,none⟩=some (.int .u8 0):=by rw [hB3.cell,hf3 _ hx];simp
        have f5':=hB3.free (i*32+k)
        have i3:(0:Int)≤(k:Int):=by omega
        have i4:(k:Int) < (l:Int):=by omega
        have Hfin:=Lib.hid (show zZ (ws.setCell ⟨B,i*32+k,none⟩ (.int .u8 (u.toNat:Int))) r B { s with f:=s.lay i bs (k+1) } from by
         have h3:=hR1.set (i*32+k) u
         have e:s.lay i bs (k+1)=fun j=>if j=i*32+k then u else (if j=i*32+k then 0 else s.lay i bs k j):=by
          rw [zCF];funext j
          by_cases e:j=i*32+k
          · rw [if_pos e,if_pos e,List.getD_eq_getElem?_getD,hu.out];rfl
          · rw [if_neg e,if_neg e,if_neg e]
         rw [e];exact h3)
        have hset:=Chg.drew (hchs.set (a:=⟨B,i*32+k,none⟩) rfl (.int .u8 (u.toNat:Int)))
        have e1:(ws.setCell ⟨B,i*32+k,none⟩ (.int .u8 (u.toNat:Int))).drew.cell? ⟨r,0,none⟩=some (.slice (some ⟨B,0,none⟩) (s.n*32) cap):=by rw [(hset.blk hd (fun e=>hne e)).cell];rfl
        have e2:(ws.setCell ⟨B,i*32+k,none⟩ (.int .u8 (u.toNat:Int))).drew.cell? ⟨bx,ox+k,none⟩=some (.int .u8 (u.toNat:Int)):=by
         obtain ⟨b',o',u',e,hu',c',_⟩:=(Hkeep.out _ hset).at k (by have:=Hl.out;omega)
         cases e
         have:=hu.out.symm.trans hu'.out
         cases this
         exact c'
        have Hset:=Lib.hid hset
        have Hws:=Lib.hid hws
        have E12:=Lib.hid (And.intro e1 e2)
        clear hws hB2 hf2 hB3 hf3 hR1 hR hB hset e1 e2
        go_upto_region 13 with fail
        rw [← Hws.out]
        clear c5 f5 d0
        have q1:IntKind.i64.wrap ((i:Int)*32)=(i:Int)*32:=IntWalk.i64_in _ (by omega)
        have q2:IntKind.i64.wrap ((i:Int)*32+(k:Int))=(i:Int)*32+(k:Int):=IntWalk.i64_in _ (by omega)
        have q3:((i:Int)*32+(k:Int)).toNat=i*32+k:=by omega
        go_region_held3 (fun w'=>w'.cell? ⟨r,0,none⟩=some (.slice (some ⟨B,0,none⟩) (s.n*32) cap)∧w'.cell? ⟨bx,ox+k,none⟩=some (.int .u8 (u.toNat:Int))) (first | exact ⟨d0',c6⟩ | exact E12.out) (fail)
        clear q1 q2 q3
        go_wp2
        exact ⟨⟨k+1,by omega,by go_num,Hfin.out,Hset.out⟩,by simp [intOf];omega⟩
      · have Hfin:=Lib.hid (show zZ ws r B { s with f:=s.lay i bs (k+1) } from by
         have e:s.lay i bs (k+1)=fun j=>if j=i*32+k then 0 else s.lay i bs k j:=by
          rw [zCF];funext j
          by_cases e:j=i*32+k
          · rw [if_pos e,if_pos e,List.getD_eq_getElem?_getD,List.getElem?_eq_none (by have:=Hl.out;omega)];rfl
          · rw [if_neg e,if_neg e]
         rw [e];exact hR1)
        have Hws:=Lib.hid hws
        clear hws hB2 hf2 hR1 hR hB
        go_wp2
        exact ⟨⟨k+1,by omega,by go_num,by rw [← Hws.out];exact Hfin.out,by rw [← Hws.out];exact hchs⟩,by simp [intOf];omega⟩
    · obtain rfl:k=32:=by omega
      have d1:wr.cell? ⟨r,1,none⟩=some (.bool false):=by rw [hdr.cell,Hdead.out];rfl
      have d2:wr.cell? ⟨r,2,none⟩=some (.bool false):=by rw [hdr.cell,Hs.out];rfl
      have d3:wr.cell? ⟨r,3,none⟩=some (.int .i64 atv):=by rw [hdr.cell];rfl
      have d5:wr.cell? ⟨r,5,none⟩=some (.int .i64 (s.writes:Int)):=by rw [hdr.cell];rfl
      have f3:=hdr.free 3
      have f5:=hdr.free 5
      go_wp2
      go_ret
      exact ⟨rfl,by rw [Hr.out];exact zZ.more (s:={ s with f:=s.lay i bs 32 }) hdr hR hw (fun h=>by rw [Hs.out] at h;cases h),((hch.mono fun _ h=>.inr h).set (.inl rfl) _).set (.inl rfl) _⟩
end Go.Proofs.YtdlkghdfkjdajaaGreatDoor
end
section
namespace Go.Mem
open Go Go.RowKit Gf
end Go.Mem
namespace Go.Proofs.YtdlkghdfkjdajaaGreatDoor
open Go Go.RowKit Go.Mem Gf
attribute [local go_sem ↓] Go.wp_at_zero Go.wp_at_succ
end Go.Proofs.YtdlkghdfkjdajaaGreatDoor
end
section
namespace Go.Mem
open Go Go.RowKit Gf
def zA.rres (s:zA) (i:Int):Int:=if s.may i=true then (if s.dead=true then 8 else 0) else 1
def zA.rd (s:zA) (i:Int):List UInt8:=if s.may i=true∧s.dead=false then s.sector i.toNat else []
def zA.wres (s:zA) (i:Int) (n:Nat):Int:=if s.may i=true∧n≤32 then (if s.dead=true then 8 else if s.stops=true∧s.cnt=0 then 8 else 0) else 1
def zA.wr (s:zA) (i:Int) (bs:List UInt8):zA:=if (s.may i=true∧bs.length≤32)∧s.dead=false then s.write i.toNat bs else s
theorem zA.may_out {s:zA} {i:Int} (h:s.may i=true):∃ j:Nat,i=j∧j < s.n:=by
 simp [zA.may] at h
 exact ⟨i.toNat,by omega,by omega⟩
theorem zA.may_bad {s:zA} {i:Int} (h:¬ s.may i=true):i < 0∨(s.n:Int)≤i:=by
 simp [zA.may] at h
 omega
theorem zA.wr_n (s:zA) (i:Int) (bs:List UInt8):(s.wr i bs).n=s.n:=by
 unfold zA.wr zA.write;split
 · split <;> rfl
 · rfl
theorem zA.wr_writes (s:zA) (i:Int) (bs:List UInt8):(s.wr i bs).writes≤s.writes+1:=by
 unfold zA.wr zA.write;split
 · split
   · exact Nat.le_succ _
   · exact Nat.le_refl _
 · exact Nat.le_succ _
end Go.Mem
namespace Go.Proofs.YtdlkghdfkjdajaaGreatDoor
open Go Go.RowKit Go.Mem Gf
theorem zF0 (d L:Nat) (s:zA) (i:Int) (w:World) (h:zM w d L s) :
  Calls Tryz.prog 52 #[.pointer (some ⟨d,0,none⟩),.int .i64 i] w fun e w'=>∃ v,e=.returned (.tuple #[v,.int .i64 (s.rres i)])∧zBv 5 w' w.heap.size v (s.rd i)∧Below w.heap.size w w':=by
 by_cases hm:s.may i=true
 · obtain ⟨j,rfl,hj⟩:=zA.may_out hm
   by_cases hd:s.dead=true
   · refine (zIn d L s j w h hj hd).mono ?_
     rintro e w1 ⟨rfl,rfl⟩
     exact ⟨.slice none 0 0,by simp [zA.rres,hm,hd],by simp [zA.rd,hd];exact zBv.nil _ _ _,Below.refl _ _⟩
   · have hd:s.dead=false:=by simpa using hd
     refine (zHS d L s j w h hj hd).mono ?_
     rintro e w1 ⟨v,rfl,h1,h2⟩
     exact ⟨v,by simp [zA.rres,hm,hd],by simp [zA.rd,hm,hd];exact h1,h2⟩
 · refine (zKB d L s i w h (zA.may_bad hm)).mono ?_
   rintro e w1 ⟨rfl,rfl⟩
   exact ⟨.slice none 0 0,by simp [zA.rres,hm],by simp [zA.rd,hm];exact zBv.nil _ _ _,Below.refl _ _⟩
theorem zDO (d L:Nat) (s:zA) (i:Int) (v:Value) (bs:List UInt8) (w:World) (h:zM w d L s) (hb:Bys w v bs) (hw:s.writes < 4611686018427387904) :
  Calls Tryz.prog 54 #[.pointer (some ⟨d,0,none⟩),.int .i64 i,v] w fun e w'=>e=.returned (.int .i64 (s.wres i bs.length))∧zM w' d L (s.wr i bs)∧Chg (fun b=>b=d∨b=L) w w':=by
 by_cases hm:s.may i=true∧bs.length≤32
 · obtain ⟨j,rfl,hj⟩:=zA.may_out hm.1
   by_cases hd:s.dead=true
   · refine (zHU d L s j v bs w h hb hj hm.2 hd).mono ?_
     rintro e w1 ⟨rfl,rfl⟩
     exact ⟨by rw [zA.wres,if_pos hm,if_pos hd],by rw [zA.wr,if_neg (by simp [hd])];exact h,Chg.refl _ _⟩
   · have hd:s.dead=false:=by simpa using hd
     refine (zGW d L s j v bs w h hb hj hm.2 hd hw).mono ?_
     rintro e w1 ⟨rfl,h1,h2⟩
     exact ⟨by rw [zA.wres,if_pos hm,if_neg (show ¬ s.dead=true by simp [hd])],by rw [zA.wr,if_pos ⟨hm,hd⟩];exact h1,h2⟩
 · refine (zIo d L s i v bs w h hb ?_).mono ?_
   · rcases Nat.lt_or_ge 32 bs.length with hl | hl
     · exact .inr hl
     · exact .inl (zA.may_bad fun e=>hm ⟨e,hl⟩)
   rintro e w1 ⟨rfl,rfl⟩
   exact ⟨by rw [zA.wres,if_neg hm],by rw [zA.wr,if_neg (fun e=>hm e.1)];exact h,Chg.refl _ _⟩
theorem zDX (r B:Nat) (s:zA) (i:Int) (v:Value) (bs:List UInt8) (w:World) (h:zZ w r B s) (hb:Bys w v bs) (hkeep:∀ w',Chg (fun b=>b=B) w w'→Bys w' v bs) (hw:s.writes < 4611686018427387904) :
  Calls Tryz.prog 45 #[.pointer (some ⟨r,0,none⟩),.int .i64 i,v] w fun e w'=>e=.returned (.int .i64 (s.wres i bs.length))∧zZ w' r B (s.wr i bs)∧Chg (fun b=>b=r∨b=B) w w':=by
 by_cases hm:s.may i=true∧bs.length≤32
 · obtain ⟨j,rfl,hj⟩:=zA.may_out hm.1
   by_cases hd:s.dead=true
   · refine (zIF r B s j v bs w h hb hj hm.2 hd).mono ?_
     rintro e w1 ⟨rfl,rfl⟩
     exact ⟨by rw [zA.wres,if_pos hm,if_pos hd],by rw [zA.wr,if_neg (by simp [hd])];exact h,Chg.refl _ _⟩
   · have hd:s.dead=false:=by simpa using hd
     refine (zGz r B s j v bs w h hb hkeep hj hm.2 hd hw).mono ?_
     rintro e w1 ⟨rfl,h1,h2⟩
     exact ⟨by rw [zA.wres,if_pos hm,if_neg (show ¬ s.dead=true by simp [hd])],by rw [zA.wr,if_pos ⟨hm,hd⟩];exact h1,h2⟩
 · refine (zJG r B s i v bs w h hb ?_).mono ?_
   · rcases Nat.lt_or_ge 32 bs.length with hl | hl
     · exact .inr hl
     · exact .inl (zA.may_bad fun e=>hm ⟨e,hl⟩)
   rintro e w1 ⟨rfl,rfl⟩
   exact ⟨by rw [zA.wres,if_neg hm],by rw [zA.wr,if_neg (fun e=>hm e.1)];exact h,Chg.refl _ _⟩
end Go.Proofs.YtdlkghdfkjdajaaGreatDoor
end
section
namespace Sto
open Go.Mem
structure Rec where
 is:Bool
 name:ByteArray
 num:Nat
 data:List UInt8
def Rec.free:Rec:=⟨false,ByteArray.empty,0,[]⟩
def takeN:Nat→List UInt8→Option (List (List UInt8) × List UInt8)
 | 0,b=>some ([],b)
 | k+1,b=>match takeN k b with
   | none=>none
   | some (xs,r)=>match Cod.zy r with
     | none=>none
     | some (x,r')=>some (xs++[x],r')
theorem zGL:∀ (k:Nat) (b:List UInt8) (xs:List (List UInt8)) (r:List UInt8),takeN k b=some (xs,r)→xs.length=k
 | 0,b,xs,r,h=>by simp [takeN] at h;rw [h.1];rfl
 | k+1,b,xs,r,h=>by
   simp only [takeN] at h
   split at h
   · cases h
   · rename_i xs' r' h'
     split at h
     · cases h
     · injection h with h
       injection h with h1 h2
       subst h1
       rw [List.length_append,zGL k b xs' r' h'];rfl
def parse (b:List UInt8):Option Rec :=
 match takeN 3 b with
 | none=>none
 | some (xs,_)=>if (xs.getD 1 []).length=4 then some ⟨true,⟨(xs.getD 0 []).toArray⟩,Cod.zAh (xs.getD 1 []),xs.getD 2 []⟩ else none
def text (name:ByteArray) (num:Nat) (data:List UInt8):List UInt8:=Cod.zAU [name.data.toList,Cod.be 4 num,data]
def best (l:List Rec) (name:ByteArray):Nat→Option Nat
 | 0=>none
 | k+1=>match l[k]? with
   | none=>best l name k
   | some r=>if r.is=true∧(r.name.toList == name.toList)=true∧(∀ j,best l name k=some j→(l.getD j Rec.free).num < r.num) then some k else best l name k
end Sto
end
