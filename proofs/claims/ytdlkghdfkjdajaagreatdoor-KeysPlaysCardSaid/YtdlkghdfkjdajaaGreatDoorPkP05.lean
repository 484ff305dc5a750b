/- Texts of this proof,packed: ShaSum. -/
import Derived.Test.YtdlkghdfkjdajaaGreatDoorPkP01
import Derived.Test.YtdlkghdfkjdajaaGreatDoorPkP02
import Derived.Test.YtdlkghdfkjdajaaGreatDoorPkP04
section
namespace Go.Proofs.YtdlkghdfkjdajaaGreatDoor
open Go Go.RowKit Go.Mem Gf Sha
set_option linter.unusedVariables false
def kL:List Value:=kT.map wv
theorem zBP:kL.length=64:=rfl
theorem zIv:zAS 64 kL:=⟨rfl,fun v hv=>by
 unfold kL at hv
 obtain ⟨x,_,rfl⟩:=List.mem_map.1 hv
 rfl⟩
theorem zK6 {i:Nat} (h:i < 64):kL[i]?=some (.int .u32 (wz (kT.getD i 0))):=by
 have hl:kT.length=64:=rfl
 unfold kL
 rw [List.getElem?_map,List.getD_eq_getElem?_getD,List.getElem?_eq_getElem (by omega)];rfl
theorem zIr (v:H8):zAS 8 (hV v):=⟨rfl,fun x hx=>by
 unfold hV at hx
 obtain ⟨y,_,rfl⟩:=List.mem_map.1 hx
 rfl⟩
theorem zLq:Tryz.prog.built 115 #[(0,Value.int IntKind.u32 1116352408),(1,Value.int IntKind.u32 1899447441),(2,Value.int IntKind.u32 3049323471),(3,Value.int IntKind.u32 3921009573),(4,Value.int IntKind.u32 961987163),(5,Value.int IntKind.u32 1508970993),(6,Value.int IntKind.u32 2453635748),(7,Value.int IntKind.u32 2870763221),(8,Value.int IntKind.u32 3624381080),(9,Value.int IntKind.u32 310598401),(10,Value.int IntKind.u32 607225278),(11,Value.int IntKind.u32 1426881987),(12,Value.int IntKind.u32 1925078388),(13,Value.int IntKind.u32 2162078206),(14,Value.int IntKind.u32 2614888103),(15,Value.int IntKind.u32 3248222580),(16,Value.int IntKind.u32 3835390401),(17,Value.int IntKind.u32 4022224774),(18,Value.int IntKind.u32 264347078),(19,Value.int IntKind.u32 604807628),(20,Value.int IntKind.u32 770255983),(21,Value.int IntKind.u32 1249150122),(22,Value.int IntKind.u32 1555081692),(23,Value.int IntKind.u32 1996064986),(24,Value.int IntKind.u32 2554220882),(25,Value.int IntKind.u32 2821834349),(26,Value.int IntKind.u32 2952996808),(27,Value.int IntKind.u32 3210313671),(28,Value.int IntKind.u32 3336571891),(29,Value.int IntKind.u32 3584528711),(30,Value.int IntKind.u32 113926993),(31,Value.int IntKind.u32 338241895),(32,Value.int IntKind.u32 666307205),(33,Value.int IntKind.u32 773529912),(34,Value.int IntKind.u32 1294757372),(35,Value.int IntKind.u32 1396182291),(36,Value.int IntKind.u32 1695183700),(37,Value.int IntKind.u32 1986661051),(38,Value.int IntKind.u32 2177026350),(39,Value.int IntKind.u32 2456956037),(40,Value.int IntKind.u32 2730485921),(41,Value.int IntKind.u32 2820302411),(42,Value.int IntKind.u32 3259730800),(43,Value.int IntKind.u32 3345764771),(44,Value.int IntKind.u32 3516065817),(45,Value.int IntKind.u32 3600352804),(46,Value.int IntKind.u32 4094571909),(47,Value.int IntKind.u32 275423344),(48,Value.int IntKind.u32 430227734),(49,Value.int IntKind.u32 506948616),(50,Value.int IntKind.u32 659060556),(51,Value.int IntKind.u32 883997877),(52,Value.int IntKind.u32 958139571),(53,Value.int IntKind.u32 1322822218),(54,Value.int IntKind.u32 1537002063),(55,Value.int IntKind.u32 1747873779),(56,Value.int IntKind.u32 1955562222),(57,Value.int IntKind.u32 2024104815),(58,Value.int IntKind.u32 2227730452),(59,Value.int IntKind.u32 2361852424),(60,Value.int IntKind.u32 2428436474),(61,Value.int IntKind.u32 2756734187),(62,Value.int IntKind.u32 3204031479),(63,Value.int IntKind.u32 3329325298)].toList=some kL.toArray:=by kernel_rfl
set_option maxRecDepth 20000 in
theorem zJZ (dst:Option Tmp) (ty:TypeId) (pos:String) (af:Array Edge) (gd:Option (Tmp × Bool)) (a:Act) (w:World) (K:Act→World→Prop) (Q:Exit→Act→World→Prop) :
  Oper.wp Tryz.prog ⟨dst,.build 115 #[(0,Operand.const (Value.int IntKind.u32 1116352408)),(1,Operand.const (Value.int IntKind.u32 1899447441)),(2,Operand.const (Value.int IntKind.u32 3049323471)),(3,Operand.const (Value.int IntKind.u32 3921009573)),(4,Operand.const (Value.int IntKind.u32 961987163)),(5,Operand.const (Value.int IntKind.u32 1508970993)),(6,Operand.const (Value.int IntKind.u32 2453635748)),(7,Operand.const (Value.int IntKind.u32 2870763221)),(8,Operand.const (Value.int IntKind.u32 3624381080)),(9,Operand.const (Value.int IntKind.u32 310598401)),(10,Operand.const (Value.int IntKind.u32 607225278)),(11,Operand.const (Value.int IntKind.u32 1426881987)),(12,Operand.const (Value.int IntKind.u32 1925078388)),(13,Operand.const (Value.int IntKind.u32 2162078206)),(14,Operand.const (Value.int IntKind.u32 2614888103)),(15,Operand.const (Value.int IntKind.u32 3248222580)),(16,Operand.const (Value.int IntKind.u32 3835390401)),(17,Operand.const (Value.int IntKind.u32 4022224774)),(18,Operand.const (Value.int IntKind.u32 264347078)),(19,Operand.const (Value.int IntKind.u32 604807628)),(20,Operand.const (Value.int IntKind.u32 770255983)),(21,Operand.const (Value.int IntKind.u32 1249150122)),(22,Operand.const (Value.int IntKind.u32 1555081692)),(23,Operand.const (Value.int IntKind.u32 1996064986)),(24,Operand.const (Value.int IntKind.u32 2554220882)),(25,Operand.const (Value.int IntKind.u32 2821834349)),(26,Operand.const (Value.int IntKind.u32 2952996808)),(27,Operand.const (Value.int IntKind.u32 3210313671)),(28,Operand.const (Value.int IntKind.u32 3336571891)),(29,Operand.const (Value.int IntKind.u32 3584528711)),(30,Operand.const (Value.int IntKind.u32 113926993)),(31,Operand.const (Value.int IntKind.u32 338241895)),(32,Operand.const (Value.int IntKind.u32 666307205)),(33,Operand.const (Value.int IntKind.u32 773529912)),(34,Operand.const (Value.int IntKind.u32 1294757372)),(35,Operand.const (Value.int IntKind.u32 1396182291)),(36,Operand.const (Value.int IntKind.u32 1695183700)),(37,Operand.const (Value.int IntKind.u32 1986661051)),(38,Operand.const (Value.int IntKind.u32 2177026350)),(39,Operand.const (Value.int IntKind.u32 2456956037)),(40,Operand.const (Value.int IntKind.u32 2730485921)),(41,Operand.const (Value.int IntKind.u32 2820302411)),(42,Operand.const (Value.int IntKind.u32 3259730800)),(43,Operand.const (Value.int IntKind.u32 3345764771)),(44,Operand.const (Value.int IntKind.u32 3516065817)),(45,Operand.const (Value.int IntKind.u32 3600352804)),(46,Operand.const (Value.int IntKind.u32 4094571909)),(47,Operand.const (Value.int IntKind.u32 275423344)),(48,Operand.const (Value.int IntKind.u32 430227734)),(49,Operand.const (Value.int IntKind.u32 506948616)),(50,Operand.const (Value.int IntKind.u32 659060556)),(51,Operand.const (Value.int IntKind.u32 883997877)),(52,Operand.const (Value.int IntKind.u32 958139571)),(53,Operand.const (Value.int IntKind.u32 1322822218)),(54,Operand.const (Value.int IntKind.u32 1537002063)),(55,Operand.const (Value.int IntKind.u32 1747873779)),(56,Operand.const (Value.int IntKind.u32 1955562222)),(57,Operand.const (Value.int IntKind.u32 2024104815)),(58,Operand.const (Value.int IntKind.u32 2227730452)),(59,Operand.const (Value.int IntKind.u32 2361852424)),(60,Operand.const (Value.int IntKind.u32 2428436474)),(61,Operand.const (Value.int IntKind.u32 2756734187)),(62,Operand.const (Value.int IntKind.u32 3204031479)),(63,Operand.const (Value.int IntKind.u32 3329325298))],ty,pos,af,gd⟩ a w K Q=K (a.put dst (.agg kL.toArray)) w:=by
 unfold Oper.wp execOp
 have hr:=run_build (P:=Tryz.prog) w 115 #[(0,a.eval (Operand.const (Value.int IntKind.u32 1116352408))),(1,a.eval (Operand.const (Value.int IntKind.u32 1899447441))),(2,a.eval (Operand.const (Value.int IntKind.u32 3049323471))),(3,a.eval (Operand.const (Value.int IntKind.u32 3921009573))),(4,a.eval (Operand.const (Value.int IntKind.u32 961987163))),(5,a.eval (Operand.const (Value.int IntKind.u32 1508970993))),(6,a.eval (Operand.const (Value.int IntKind.u32 2453635748))),(7,a.eval (Operand.const (Value.int IntKind.u32 2870763221))),(8,a.eval (Operand.const (Value.int IntKind.u32 3624381080))),(9,a.eval (Operand.const (Value.int IntKind.u32 310598401))),(10,a.eval (Operand.const (Value.int IntKind.u32 607225278))),(11,a.eval (Operand.const (Value.int IntKind.u32 1426881987))),(12,a.eval (Operand.const (Value.int IntKind.u32 1925078388))),(13,a.eval (Operand.const (Value.int IntKind.u32 2162078206))),(14,a.eval (Operand.const (Value.int IntKind.u32 2614888103))),(15,a.eval (Operand.const (Value.int IntKind.u32 3248222580))),(16,a.eval (Operand.const (Value.int IntKind.u32 3835390401))),(17,a.eval (Operand.const (Value.int IntKind.u32 4022224774))),(18,a.eval (Operand.const (Value.int IntKind.u32 264347078))),(19,a.eval (Operand.const (Value.int IntKind.u32 604807628))),(20,a.eval (Operand.const (Value.int IntKind.u32 770255983))),(21,a.eval (Operand.const (Value.int IntKind.u32 1249150122))),(22,a.eval (Operand.const (Value.int IntKind.u32 1555081692))),(23,a.eval (Operand.const (Value.int IntKind.u32 1996064986))),(24,a.eval (Operand.const (Value.int IntKind.u32 2554220882))),(25,a.eval (Operand.const (Value.int IntKind.u32 2821834349))),(26,a.eval (Operand.const (Value.int IntKind.u32 2952996808))),(27,a.eval (Operand.const (Value.int IntKind.u32 3210313671))),(28,a.eval (Operand.const (Value.int IntKind.u32 3336571891))),(29,a.eval (Operand.const (Value.int IntKind.u32 3584528711))),(30,a.eval (Operand.const (Value.int IntKind.u32 113926993))),(31,a.eval (Operand.const (Value.int IntKind.u32 338241895))),(32,a.eval (Operand.const (Value.int IntKind.u32 666307205))),(33,a.eval (Operand.const (Value.int IntKind.u32 773529912))),(34,a.eval (Operand.const (Value.int IntKind.u32 1294757372))),(35,a.eval (Operand.const (Value.int IntKind.u32 1396182291))),(36,a.eval (Operand.const (Value.int IntKind.u32 1695183700))),(37,a.eval (Operand.const (Value.int IntKind.u32 1986661051))),(38,a.eval (Operand.const (Value.int IntKind.u32 2177026350))),(39,a.eval (Operand.const (Value.int IntKind.u32 2456956037))),(40,a.eval (Operand.const (Value.int IntKind.u32 2730485921))),(41,a.eval (Operand.const (Value.int IntKind.u32 2820302411))),(42,a.eval (Operand.const (Value.int IntKind.u32 3259730800))),(43,a.eval (Operand.const (Value.int IntKind.u32 3345764771))),(44,a.eval (Operand.const (Value.int IntKind.u32 3516065817))),(45,a.eval (Operand.const (Value.int IntKind.u32 3600352804))),(46,a.eval (Operand.const (Value.int IntKind.u32 4094571909))),(47,a.eval (Operand.const (Value.int IntKind.u32 275423344))),(48,a.eval (Operand.const (Value.int IntKind.u32 430227734))),(49,a.eval (Operand.const (Value.int IntKind.u32 506948616))),(50,a.eval (Operand.const (Value.int IntKind.u32 659060556))),(51,a.eval (Operand.const (Value.int IntKind.u32 883997877))),(52,a.eval (Operand.const (Value.int IntKind.u32 958139571))),(53,a.eval (Operand.const (Value.int IntKind.u32 1322822218))),(54,a.eval (Operand.const (Value.int IntKind.u32 1537002063))),(55,a.eval (Operand.const (Value.int IntKind.u32 1747873779))),(56,a.eval (Operand.const (Value.int IntKind.u32 1955562222))),(57,a.eval (Operand.const (Value.int IntKind.u32 2024104815))),(58,a.eval (Operand.const (Value.int IntKind.u32 2227730452))),(59,a.eval (Operand.const (Value.int IntKind.u32 2361852424))),(60,a.eval (Operand.const (Value.int IntKind.u32 2428436474))),(61,a.eval (Operand.const (Value.int IntKind.u32 2756734187))),(62,a.eval (Operand.const (Value.int IntKind.u32 3204031479))),(63,a.eval (Operand.const (Value.int IntKind.u32 3329325298)))] _ zLq
 simp only [List.map_toArray,List.map_cons,List.map_nil,Sem.run_bind,hr,Result.andThen_ok]
 rfl
theorem i64k:(Tryz.prog.info? 115).map (·.size)=some 64:=by kernel_rfl
theorem zJr (dst:Option Tmp) (x y:Operand) (ty:TypeId) (pos:String) (af:Array Edge) (a:Act) (w:World) (K:Act→World→Prop) (Q:Exit→Act→World→Prop)
  (hp:zBe (a.eval x)=true) (hy:zBX (a.eval y)=true) (ht:zi 64 w (zAy (a.eval x)) (zAz (a.eval x))) (hc:zAS 64 (zAu (a.eval y))) :
  Oper.wp Tryz.prog ⟨dst,.store 115 x y,ty,pos,af,none⟩ a w K Q=K (a.put dst undef) (w.setCells (zAy (a.eval x)) (zAz (a.eval x)) (zAu (a.eval y))) :=
 zCI i64k dst x y ty pos af a w K Q hp hy ht hc
theorem zHj {w:World} {b:Nat} {cs:List Value} (h:zi 64 w b 0) (hc:zAS 64 cs):(loadVar 115 ⟨b,0,none⟩).run Tryz.prog (w.setCells b 0 cs)=.ok (.agg cs.toArray) (w.setCells b 0 cs):=by
 have h2:=zDf h b 0 cs
 refine run_loadVar_mid _ b 0 _ cs _ ?_ Tryz.underlying115 rfl (by rw [hc.1];exact i64k)
 have:=zAi h2
 rwa [zC5 h hc] at this
attribute [local go_sem ↓] Go.wp_at_zero Go.wp_at_succ
attribute [local go_sem ↓] zEg zDw zJZ zJr
attribute [local go_sem] ptrB_eq ptrO_eq ptrIs_eq aggL_eq aggIs_eq
attribute [local irreducible] kL
set_option maxRecDepth 100000 in
theorem zHI (w:World):Calls Tryz.prog 109 #[] w fun e w'=>e=.returned (.agg (hV h0).toArray)∧Below w.heap.size w w':=by
 go_enter Tryz.func109,Tryz.ntmps109
 go_wp2_with fail
 rw [show #[Value.int IntKind.u32 1779033703,.int .u32 3144134277,.int .u32 1013904242,.int .u32 2773480762,.int .u32 1359893119,.int .u32 2600822924,.int .u32 528734635,.int .u32 1541459225]=(hV h0).toArray from rfl]
 have hr:(w.alloc (.cells (hV h0).toArray 117)).rangeAt w.heap.size 0 (hV h0):=fun j v hj=>by
  rw [(Blk.new w (hV h0).toArray 117).cell,Nat.zero_add,List.getElem?_toArray];exact hj
 have hl:=run_loadVar_mid (P:=Tryz.prog) (w.alloc (.cells (hV h0).toArray 117)) w.heap.size 0 117 (hV h0) _ hr Tryz.underlying117 rfl (by rw [i8h];rfl)
 exact bodyPost_ret (v:=.agg (hV h0).toArray) (by simp [results,Tryz.results109,asAddr,hl]) rfl ⟨rfl,(Below.refl _ _).alloc (Nat.le_refl _) _⟩
set_option maxRecDepth 100000 in
theorem zIM (w:World):Calls Tryz.prog 110 #[] w fun e w'=>e=.returned (.agg kL.toArray)∧Below w.heap.size w w':=by
 have hka:=zIv
 have hkl:=zBP
 go_enter Tryz.func110,Tryz.ntmps110
 go_upto_region 1 with fail
 obtain ⟨w0,hw0⟩:∃ q,q=w.alloc (.cells #[Value.int IntKind.u32 0,.int .u32 0,.int .u32 0,.int .u32 0,.int .u32 0,.int .u32 0,.int .u32 0,.int .u32 0,.int .u32 0,.int .u32 0,.int .u32 0,.int .u32 0,.int .u32 0,.int .u32 0,.int .u32 0,.int .u32 0,.int .u32 0,.int .u32 0,.int .u32 0,.int .u32 0,.int .u32 0,.int .u32 0,.int .u32 0,.int .u32 0,.int .u32 0,.int .u32 0,.int .u32 0,.int .u32 0,.int .u32 0,.int .u32 0,.int .u32 0,.int .u32 0,.int .u32 0,.int .u32 0,.int .u32 0,.int .u32 0,.int .u32 0,.int .u32 0,.int .u32 0,.int .u32 0,.int .u32 0,.int .u32 0,.int .u32 0,.int .u32 0,.int .u32 0,.int .u32 0,.int .u32 0,.int .u32 0,.int .u32 0,.int .u32 0,.int .u32 0,.int .u32 0,.int .u32 0,.int .u32 0,.int .u32 0,.int .u32 0,.int .u32 0,.int .u32 0,.int .u32 0,.int .u32 0,.int .u32 0,.int .u32 0,.int .u32 0,.int .u32 0] 115):=⟨_,rfl⟩
 have h0:zi 64 w0 w.heap.size 0:=by
  rw [hw0];exact zHd (by simp) _ _
 have hb:Below w.heap.size w w0:=by
  rw [hw0];exact (Below.refl _ _).alloc (Nat.le_refl _) _
 rw [← hw0]
 clear hw0
 have HLD:=Lib.hid (zHj h0 hka)
 have HB:=Lib.hid hb
 clear hb
 go_wp2_with fail
 refine bodyPost_ret (v:=.agg kL.toArray) (by simp [results,Tryz.results110,asAddr,HLD.out]) rfl ⟨rfl,?_⟩
 exact (Chg.setCells (S:=fun b=>b=w.heap.size) (L:=w.heap.size) rfl _ _ _ (Chg.of_below HB.out)).below (Nat.le_refl _) (fun k hk=>by rw [hk];exact Nat.le_refl _)
def zJo:Value→Nat
 | .slice _ n _=>n
 | _=>0
def zBi (h:H8) (u:Value) (n:Int):List Value:=hV h++(kL++[u,.int .i64 n])
theorem zFW (h:H8) (u:Value) (n:Int):(zBi h u n).length=74:=by
 unfold zBi
 rw [List.length_append,List.length_append,zBP];rfl
theorem zLW (h:H8) (u:Value) (n:Int) {i:Nat} (hi:i < 8):(zBi h u n)[i]?=(hV h)[i]?:=by
 unfold zBi
 rw [List.getElem?_append_left hi]
theorem shaV_k (h:H8) (u:Value) (n:Int) {i:Nat} (hi:i < 64):(zBi h u n)[8+i]?=some (.int .u32 (wz (kT.getD i 0))):=by
 have hl:(hV h).length=8:=rfl
 unfold zBi
 rw [List.getElem?_append_right (by omega),hl,show 8+i - 8=i from by omega,List.getElem?_append_left (by rw [zBP];exact hi),zK6 hi]
theorem shaV_u (h:H8) (u:Value) (n:Int):(zBi h u n)[72]?=some u:=by
 have hl:(hV h).length=8:=rfl
 unfold zBi
 rw [List.getElem?_append_right (by omega),hl,List.getElem?_append_right (by rw [zBP];omega),zBP];rfl
theorem shaV_n (h:H8) (u:Value) (n:Int):(zBi h u n)[73]?=some (.int .i64 n):=by
 have hl:(hV h).length=8:=rfl
 unfold zBi
 rw [List.getElem?_append_right (by omega),hl,List.getElem?_append_right (by rw [zBP];omega),zBP];rfl
theorem zKd (h:H8) (u v:Value) (n:Int):(zBi h u n).toArray.setIfInBounds 72 v=(zBi h v n).toArray:=by
 have hl:(hV h).length=8:=rfl
 unfold zBi
 rw [List.setIfInBounds_toArray,List.set_append_right _ _ (by omega),hl,List.set_append_right _ _ (by rw [zBP];omega),zBP];rfl
theorem zKc (h:H8) (u:Value) (n m:Int):(zBi h u n).toArray.setIfInBounds 73 (.int .i64 m)=(zBi h u m).toArray:=by
 have hl:(hV h).length=8:=rfl
 unfold zBi
 rw [List.setIfInBounds_toArray,List.set_append_right _ _ (by omega),hl,List.set_append_right _ _ (by rw [zBP];omega),zBP];rfl
def zAO (w:World) (b:Nat) (h:H8) (u:Value) (n:Int):Prop:=Blk w b (zBi h u n).toArray 161
section
variable {w w':World} {b:Nat} {h:H8} {u:Value} {n:Int}
theorem zAO.read (s:zAO w b h u n):zh 8 w b 0=hV h:=zn s rfl fun k hk=>by
 rw [Nat.zero_add,List.getElem?_toArray,zLW h u n hk]
theorem zAO.has (s:zAO w b h u n):zi 8 w b 0:=zQ s (by simp [zFW])
theorem zAO.range (s:zAO w b h u n):w.rangeAt b 0 (hV h):=by
 have:=zAi s.has
 rwa [s.read] at this
theorem zAO.ck (s:zAO w b h u n):KAt w b 8:=⟨Blk.lt s,fun i hi=>by rw [Blk.cell s,List.getElem?_toArray,shaV_k h u n hi]⟩
theorem zAO.cu (s:zAO w b h u n):w.cell? ⟨b,72,none⟩=some u:=by rw [Blk.cell s,List.getElem?_toArray,shaV_u]
theorem zAO.cn (s:zAO w b h u n):w.cell? ⟨b,73,none⟩=some (.int .i64 n):=by rw [Blk.cell s,List.getElem?_toArray,shaV_n]
theorem zAO.setu (s:zAO w b h u n) (v:Value):zAO (w.setCell ⟨b,72,none⟩ v) b h v n:=by
 have:=Blk.set s 72 v
 rwa [zKd] at this
theorem zAO.setn (s:zAO w b h u n) (m:Int):zAO (w.setCell ⟨b,73,none⟩ (.int .i64 m)) b h u m:=by
 have:=Blk.set s 73 (.int .i64 m)
 rwa [zKc] at this
theorem zAO.seth (s:zAO w b h u n) (h':H8):zAO (w.setCells b 0 (hV h')) b h' u n:=by
 obtain ⟨arr,h1,h2,h3⟩:=Blk.setCells (hV h') 0 _ _ s
 have e:arr=(zBi h' u n).toArray:=by
  apply Array.ext_getElem?
  intro k
  have hl:(hV h').length=8:=rfl
  have hl2:(zBi h u n).toArray.size=74:=by simp [zFW]
  rcases Nat.lt_or_ge k 74 with hk | hk
  · rw [h3 k (by omega)]
    rcases Nat.lt_or_ge k 8 with h8 | h8
    · rw [if_pos ⟨Nat.zero_le _,by omega⟩,Nat.sub_zero,List.getElem?_toArray,zLW h' u n h8]
    · rw [if_neg (by omega),List.getElem?_toArray,List.getElem?_toArray]
      unfold zBi
      have a1:(hV h').length≤k:=h8
      have a2:(hV h).length≤k:=h8
      rw [List.getElem?_append_right a1,List.getElem?_append_right a2];rfl
  · rw [Array.getElem?_eq_none (by omega),Array.getElem?_eq_none (by simp [zFW];omega)]
 rw [e] at h1
 exact h1
theorem zAO.below (s:zAO w b h u n) (hb:Below w.heap.size w w'):zAO w' b h u n:=Blk.kept s hb
end
attribute [local irreducible] zBi
theorem zJ8:Tryz.prog.built 161 [(0,.agg (hV h0).toArray),(1,.agg kL.toArray)]=some (zBi h0 (.slice none 0 0) 0).toArray:=by kernel_rfl
theorem zJ7 (dst:Option Tmp) (x y:Operand) (ty:TypeId) (pos:String) (af:Array Edge) (gd:Option (Tmp × Bool)) (a:Act) (w:World) (K:Act→World→Prop) (Q:Exit→Act→World→Prop)
  (h1:a.eval x=.agg (hV h0).toArray) (h2:a.eval y=.agg kL.toArray) :
  Oper.wp Tryz.prog ⟨dst,.build 161 #[(0,x),(1,y)],ty,pos,af,gd⟩ a w K Q=K (a.put dst (.agg (zBi h0 (.slice none 0 0) 0).toArray)) w:=by
 unfold Oper.wp execOp
 have hr:=run_build (P:=Tryz.prog) w 161 #[(0,a.eval x),(1,a.eval y)] _ (by rw [h1,h2];exact zJ8)
 simp only [List.map_toArray,List.map_cons,List.map_nil,Sem.run_bind,hr,Result.andThen_ok]
 rfl
attribute [local go_sem ↓] zJ7
set_option maxRecDepth 100000 in
theorem zG1 (w:World):Calls Tryz.prog 93 #[] w fun e w'=>∃ b,e=.returned (.pointer (some ⟨b,0,none⟩))∧zAO w' b h0 (.slice none 0 0) 0∧w.heap.size≤b∧Below w.heap.size w w':=by
 go_enter Tryz.func93,Tryz.ntmps93
 go_wp2_with fail
 refine (zHI w).mono ?_
 rintro e w1 ⟨rfl,hb1⟩
 obtain ⟨c0,hc0⟩:∃ q,q=(hV h0).toArray:=⟨_,rfl⟩
 have HC:=Lib.hid hc0
 rw [← hc0]
 clear hc0
 go_wp2_with fail
 refine (zIM w1).mono ?_
 rintro e w2 ⟨rfl,hb2⟩
 have e0:c0=(hV h0).toArray:=HC.out
 subst e0
 have HB:=Lib.hid (hb1.trans (hb2.mono hb1.size))
 clear hb1 hb2
 go_wp2_with fail
 go_ret
 exact ⟨_,rfl,Blk.new _ _ _,HB.out.size,HB.out.alloc HB.out.size _⟩
theorem zHN {w:World} {ub uo m uc:Nat} {bs:List UInt8} (h:Bys w (.slice (some ⟨ub,uo,none⟩) m uc) bs) (k:Nat) (hk:0 < k) (hkl:k≤bs.length):Bys w (.slice (if uc=k then some ⟨ub,uo,none⟩ else some ⟨ub,uo+k,none⟩) (m - k) (uc - k)) (bs.drop k):=by
 obtain ⟨a',c',e,g1,g2,g3⟩:=h
 injection e with e1 e2 e3
 obtain ⟨b',o',e4,g4⟩:=g3 (by omega)
 rw [← e1] at e4
 injection e4 with e4
 injection e4 with e5 e6
 subst e2
 subst e3
 refine ⟨_,uc - k,by rw [List.length_drop],by rw [List.length_drop];omega,by omega,fun hp=>?_⟩
 rw [List.length_drop] at hp
 rw [if_neg (by omega)]
 refine ⟨_,_,rfl,fun i u hi=>?_⟩
 rw [List.getElem?_drop] at hi
 rw [Nat.add_assoc,e5,e6]
 exact g4 _ _ hi
def Past (b:Nat) (v:Value):Prop:=∀ a n c,v=.slice (some a) n c→b < a.block
set_option maxRecDepth 100000 in
set_option maxHeartbeats 4000000 in
theorem zFX (w0 w:World) (b:Nat) (v:Value) (bs:List UInt8) (hs:zAO w b h0 (.slice none 0 0) 0) (hb0:Below w0.heap.size w0 w) (hge:w0.heap.size≤b) (hv:Bys w0 v bs) (hl:bs.length≤100000000) :
  Calls Tryz.prog 94 #[.pointer (some ⟨b,0,none⟩),v] w fun e w'=>e=.returned (.int .i64 (bs.length:Nat))∧∃ u,zAO w' b (zAl (bs.length / 64) h0 bs) u (bs.length:Nat)∧Bys w' u (bs.drop (64*(bs.length / 64)))∧Past b u∧Below w0.heap.size w0 w':=by
 obtain ⟨va,vc,rfl⟩:=hv.eq_slice
 obtain ⟨l,hll⟩:∃ l,l=bs.length:=⟨_,rfl⟩
 rw [← hll] at hv hl ⊢
 obtain ⟨q,hq⟩:∃ q,q=l / 64:=⟨_,rfl⟩
 rw [← hq]
 have c73:=hs.cn
 have f73:=Blk.free hs 73
 have f72:=Blk.free hs 72
 have hlt:=Blk.lt hs
 have H:=Lib.hid (And.intro hv (And.intro hb0 (And.intro hs hll)))
 clear hv hb0 hs hll
 go_enter Tryz.func94,Tryz.ntmps94
 go_upto_region 2 with fail
 have hs1:=H.out.2.2.1.setn (l:Int)
 have hb1:Below w0.heap.size w0 (w.setCell ⟨b,73,none⟩ (.int .i64 (l:Int))):=H.out.2.1.setCell hge _
 have hz1:(w.setCell ⟨b,73,none⟩ (.int .i64 (l:Int))).heap.size=w.heap.size:=by simp
 obtain ⟨w1,hw1⟩:∃ q,q=w.setCell ⟨b,73,none⟩ (.int .i64 (l:Int)):=⟨_,rfl⟩
 rw [← hw1] at hs1 hb1 hz1 ⊢
 have c72:=hs1.cu
 have H1:=Lib.hid (And.intro hs1 hb1)
 clear hs1 hb1 hw1 c73 f73
 go_wp2_with (at_builtin;refine zBL E8c rfl _ _ rfl (base:=b+1) (bs:=[]) (news:=[]) rfl rfl (zP.nil _ _ _) (Bys.nil _) ?q1 ?q2 ?_)
 case q1=>simp
 case q2=>omega
 intro v2 w2 ho2 hg2
 have hb2:Below w1.heap.size w1 w2:=zAE hg2 rfl
 have H2:=Lib.hid (And.intro (H1.out.1.below hb2) (And.intro (H1.out.2.trans (hb2.mono H1.out.2.size)) hb2.size))
 have hl2:=ho2.lt
 clear hg2 hb2
 go_wp2_with (at_builtin;refine zBL E8c rfl _ _ rfl (base:=b+1) (bs:=[]) (news:=bs) rfl rfl ho2 (H.out.1.below H2.out.2.1) ?q3 ?q4 ?_)
 case q3=>have:=H.out.2.2.2;simp;omega
 case q4=>have:=H2.out.2.2;omega
 intro v3 w3 ho3 hg3
 have hb3:=zN H2.out.2.1 hg3 (fun k hk=>by have:=(hl2 k hk).1;omega)
 have hs3:zAO w3 b h0 (.slice none 0 0) (l:Int):=(Chg.grown (S:=fun k=>v2.ownBlock=some k) (Chg.refl _ _) hg3 (fun _ hq=>.inl hq)).blk H2.out.1 (fun e=>by have:=(hl2 b e).1;omega)
 have hp3:Past b v3:=fun a n c e=>(ho3.lt a.block (by rw [e];rfl)).1
 have H3:=Lib.hid (And.intro ho3.bys (And.intro hp3 (And.intro hs3 hb3)))
 clear ho2 hl2 hg3 ho3 hp3 hs3 hb3
 go_upto_region 3 with fail
 go_loopw [5] (fun v5 wr=>∃ i:Nat,i≤q∧Hid (Bys wr v5 (bs.drop (64*i))∧Past b v5∧zAO wr b (zAl i h0 bs) (.slice none 0 0) (l:Int)∧Below w0.heap.size w0 wr)) (fun v5 _=>zJo v5)
 case atStart=>exact ⟨0,Nat.zero_le _,H3.out⟩
 case round =>
  obtain ⟨i,hi0,G⟩:=hrel
  obtain ⟨ua,uc,eu⟩:=G.out.1.eq_slice
  obtain ⟨m,hm⟩:∃ m,m=(bs.drop (64*i)).length:=⟨_,rfl⟩
  have hm2:m=l - 64*i:=by rw [hm,List.length_drop,← H.out.2.2.2]
  rw [← hm] at eu
  subst eu
  by_cases hin:i < q
  · have m1:(64:Int)≤(m:Int):=by omega
    have m2:decide ((64:Int)≤(m:Int))=true:=by simpa using m1
    have m3:64≤m:=by omega
    obtain ⟨ub,uo,rfl,hmc,hcm⟩:∃ ub uo,ua=some ⟨ub,uo,none⟩∧m≤uc∧uc≤maxLen:=by
     obtain ⟨a',c',e,g1,g2,g3⟩:=G.out.1
     obtain ⟨b',o',e',_⟩:=g3 (by omega)
     injection e with e1 e2 e3
     exact ⟨b',o',by rw [e1,e'],by omega,by omega⟩
    unfold maxLen at hcm
    have hby:=(G.out.1.take 64 (by omega))
    have hbd:(bs.drop (64*i)).take 64=(bs.drop (64*i)).take 64:=rfl
    have m4:(64:Int)≤(uc:Int):=by omega
    have m5:64≤uc:=by omega
    have m6:(m:Int)≤(uc:Int):=by omega
    have HM:=Lib.hid (And.intro hm (And.intro hm2 hby))
    clear hm hm2 hby hbd
    obtain ⟨hc,hhc⟩:∃ x,x=zAl i h0 bs:=⟨_,rfl⟩
    have hmx:=G.out.2.2.1
    rw [← hhc] at hmx
    have hnx:Hid (zAl (i+1) h0 bs=mix hc ((bs.drop (64*i)).take 64)):=by
     show _=_
     rw [zD9,hhc]
    have hcall:∀ w',w'=wr.drew→Calls Tryz.prog 111 #[.agg (hV hc).toArray,.pointer (some ⟨b,8,none⟩),.slice (some ⟨ub,uo,none⟩) 64 uc] w' fun e w''=>∃ v',e=.returned v'∧(v'=.agg (hV (mix hc ((bs.drop (64*i)).take 64))).toArray∧Below wr.heap.size wr w''):=fun w' e=>by
     subst e
     refine (zF7 hc b 8 _ ((bs.drop (64*i)).take 64) wr.drew (by exact hmx.ck) HM.out.2.2 (by rw [List.length_take];have:=HM.out.1;omega)).mono ?_
     rintro e w'' ⟨rfl,hb⟩
     exact ⟨_,rfl,rfl,zCO hb rfl⟩
    obtain ⟨ch,hch⟩:∃ q,q=hV hc:=⟨_,rfl⟩
    have hchl:ch.length=8:=by rw [hch];rfl
    have hr0:wr.rangeAt b 0 ch:=by rw [hch];exact hmx.range
    obtain ⟨cm,hcm2⟩:∃ q,q=hV (mix hc ((bs.drop (64*i)).take 64)):=⟨_,rfl⟩
    rw [← hch,← hcm2] at hcall
    have hca:=zIr (mix hc ((bs.drop (64*i)).take 64))
    rw [← hcm2] at hca
    have hRr:∀ w',Below wr.heap.size wr w'→w'.rangeAt b 0 ch:=fun w' hb=>by rw [hch];exact (hmx.below hb).range
    have HMX:=Lib.hid (And.intro hmx (And.intro hhc hcm2))
    clear hmx hhc hch hcm2
    go_upto_region 4 with fail
    refine Tail.zBB 13 10 (fun w'=>w'=wr.drew) (fun vo w'=>vo=.agg cm.toArray∧Below wr.heap.size wr w') (by kernel_rfl) (by kernel_rfl) (by decide) rfl ?_ (fun z hz=>?_)
    · obtain ⟨e,w',fr,⟨vo,rfl,h⟩,_⟩:=hcall wr.drew rfl []
      exact ⟨vo,w',h⟩
    simp only [List.take_succ_cons,List.take_zero,List.drop_succ_cons,List.drop_zero]
    clear hz
    iterate 4
     refine Tail.zEo (by decide) (by rfl) ?_
     apply Exists.intro
     refine ⟨fun w=>?_,?_⟩
     · go_simp <;> with_reducible rfl
     simp only [Act.put,List.setIfInBounds_toArray,List.set_cons_zero,List.set_cons_succ]
    refine Tail.zHF (by decide) (by rfl) _ _ rfl b 0 rfl ch (fun w h=>by rw [h];exact hr0) (fun w h=>hRr w h.2) Tryz.underlying117 rfl (by rw [i8h,hchl]) ?_
    simp only [Act.put,List.setIfInBounds_toArray,List.set_cons_zero,List.set_cons_succ]
    iterate 5
     refine Tail.zEo (by decide) (by rfl) ?_
     apply Exists.intro
     refine ⟨fun w=>?_,?_⟩
     · go_simp <;> with_reducible rfl
     simp only [Act.put,List.setIfInBounds_toArray,List.set_cons_zero,List.set_cons_succ]
    refine Tail.zEn (by rfl) (fun w hw=>?_) ?_
    · apply Exists.intro
      apply Exists.intro
      refine ⟨?_,hcall w hw⟩
      go_simp <;> with_reducible rfl
    simp only [Act.put,List.setIfInBounds_toArray,List.set_cons_zero,List.set_cons_succ]
    iterate 2
     refine Tail.zEo (by decide) (by rfl) ?_
     apply Exists.intro
     refine ⟨fun w=>?_,?_⟩
     · go_simp <;> with_reducible rfl
     simp only [Act.put,List.setIfInBounds_toArray,List.set_cons_zero,List.set_cons_succ]
    intro w' hw'
    obtain ⟨rfl,hbw⟩:=hw'
    have hs':zAO w' b hc (.slice none 0 0) (l:Int):=HMX.out.1.below hbw
    have h8:zi 8 w' b 0:=hs'.has
    have HS:=Lib.hid (And.intro hs' (And.intro (G.out.2.2.2.trans (hbw.mono G.out.2.2.2.size)) (G.out.1.below hbw)))
    clear hs' hbw hcall hr0 hRr
    go_wp2_with fail
    refine ⟨⟨i+1,by omega,?_,?_,?_,?_⟩,?_⟩
    · have h1:=zHN HS.out.2.2 64 (by omega) (by rw [← HM.out.1];exact m3)
      rw [List.drop_drop,show 64*i+64=64*(i+1) from by omega] at h1
      exact h1.chg (Chg.setCells (S:=fun k=>k=b) (L:=b) rfl _ _ _ (Chg.refl _ _)) (fun a n c e hS=>by
       have hS':a.block=b:=hS
       have hp:b < ub:=G.out.2.1 _ _ _ rfl
       injection e with e1 _ _
       split at e1 <;> (injection e1 with e1;rw [← e1] at hS';have e2:ub=b:=hS';omega))
    · intro a n c e
      have hp:b < ub:=G.out.2.1 _ _ _ rfl
      injection e with e1 _ _
      split at e1 <;> (injection e1 with e1;rw [← e1];exact hp)
    · rw [hnx.out,HMX.out.2.2]
      exact HS.out.1.seth _
    · exact (Chg.setCells (S:=fun k=>k=b) (L:=b) rfl _ _ _ (Chg.of_below HS.out.2.1)).below (Nat.le_refl _) (fun k hk=>by rw [hk];exact hge)
    · show m - 64 < m
      omega
  · obtain rfl:i=q:=by omega
    have m1:¬ (64:Int)≤(m:Int):=by omega
    have m2:decide ((64:Int)≤(m:Int))=false:=by simpa using m1
    have c73:=G.out.2.2.1.cn
    have c72:=G.out.2.2.1.cu
    have f72:=Blk.free G.out.2.2.1 72
    clear hm hm2
    go_wp2_with fail
    go_ret
    rw [← hq]
    refine ⟨rfl,.slice ua m uc,G.out.2.2.1.setu _,?_,G.out.2.1,G.out.2.2.2.setCell hge _⟩
    exact G.out.1.chg (S:=fun k=>k=b) (Chg.set (S:=fun k=>k=b) (a:=⟨b,72,none⟩) (Chg.refl _ _) rfl _) (fun a n c e hS=>by
     have hS':a.block=b:=hS
     have:=G.out.2.1 a n c e
     omega)
end Go.Proofs.YtdlkghdfkjdajaaGreatDoor
end
