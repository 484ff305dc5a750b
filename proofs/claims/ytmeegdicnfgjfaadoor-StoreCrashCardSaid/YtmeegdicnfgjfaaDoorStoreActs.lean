/- The acts of chapter 11 as they come in; texts that are cut. -/
import Derived.Test.YtmeegdicnfgjfaaDoorStoreLab
import Derived.Test.YtmeegdicnfgjfaaDoorOpenS
namespace Go.Mem
open Go Go.ChangeShapes Go.WideShapes Go.ChangeAt Go.RowKit Gf
/-- an act as it lies in memory: three numbers, a name, data -/
structure ActS where
  op : Int
  at_ : Int
  keep : Int
  name : ByteArray
  bs : List UInt8
def ActSR (W : World) (cs : List Value) (a : ActS) : Prop :=
  ∃ v, cs = [.int .i64 a.op, .int .i64 a.at_, .int .i64 a.keep, .string a.name, v] ∧ Bys W v a.bs ∧ a.at_ ≤ 9223372036854775807 ∧ a.name.size ≤ maxLen
theorem ActSR.below {w w' : World} {cs : List Value} {a : ActS} (hb : Below w.heap.size w w') (h : ActSR w cs a) : ActSR w' cs a := by
  obtain ⟨v, h1, h2, h3⟩ := h
  exact ⟨v, h1, h2.below hb, h3⟩
theorem opens_acts {P : Program} {t ti ts tb t8 : TypeId} {f0 f1 f2 f3 f4 : Field} (ht : P.underlying t = some (.struct #[f0, f1, f2, f3, f4])) (hi : P.underlying ti = some (.int .i64)) (hs : P.underlying ts = some .string) (hb : P.underlying tb = some (.slice t8)) (h8 : P.underlying t8 = some (.int .u8))
    (e0 : f0.type = ti) (e1 : f1.type = ti) (e2 : f2.type = ti) (e3 : f3.type = ts) (e4 : f4.type = tb) (o0 : f0.offset = 0) (o1 : f1.offset = 1) (o2 : f2.offset = 2) (o3 : f3.offset = 3) (o4 : f4.offset = 4)
    (ct : P.cellsOf t = 5) (ci : P.cellsOf ti = 1) (cs' : P.cellsOf ts = 1) (cb : P.cellsOf tb = 1) (c8 : P.cellsOf t8 = 1) : Opens P t ActSR := fun {_ _ W _ _ _ _ cs x} h => by
  have hl := opens_size ht h
  obtain ⟨z0, r0, _⟩ := opens_field ht h 0 f0 rfl (by rw [e0]; exact opens_i64 hi)
  obtain ⟨z1, r1, b1⟩ := opens_field ht h 1 f1 rfl (by rw [e1]; exact opens_i64 hi)
  obtain ⟨z2, r2, _⟩ := opens_field ht h 2 f2 rfl (by rw [e2]; exact opens_i64 hi)
  obtain ⟨z3, r3, b3⟩ := opens_field ht h 3 f3 rfl (by rw [e3]; exact opens_string hs)
  obtain ⟨bs, v, r4, hv⟩ := opens_field ht h 4 f4 rfl (by rw [e4]; exact opens_bytes hb h8 c8)
  rw [ct] at hl
  rw [e0, ci, o0] at r0; rw [e1, ci, o1] at r1; rw [e2, ci, o2] at r2; rw [e3, cs', o3] at r3; rw [e4, cb, o4] at r4
  match cs, hl, r0, r1, r2, r3, r4 with
  | [a, b, c, d, e], _, r0, r1, r2, r3, r4 =>
    simp at r0 r1 r2 r3 r4
    obtain ⟨rfl⟩ := r0; obtain ⟨rfl⟩ := r1; obtain ⟨rfl⟩ := r2; obtain ⟨rfl⟩ := r3; obtain ⟨rfl⟩ := r4
    exact ⟨⟨z0, z1, z2, z3, bs⟩, _, rfl, hv, b1.2, b3⟩
end Go.Mem
namespace Go.Proofs.YtmeegdicnfgjfaaDoor
open Go Go.RowKit Go.Mem Gf
attribute [local go_sem ↓] Go.wp_at_zero Go.wp_at_succ
theorem acts11_open : Opens Tryd.prog 59 (fun W cs (l : List ActS) => ∃ v, cs = [v] ∧ Sls 5 ActSR W v l) :=
  opens_slice Tryd.underlying59 (by kernel_rfl) (by decide)
    (opens_acts Tryd.underlying61 Tryd.underlying3 Tryd.underlying9 Tryd.underlying24 Tryd.underlying5 rfl rfl rfl rfl rfl rfl rfl rfl rfl rfl (by kernel_rfl) (by kernel_rfl) (by kernel_rfl) (by kernel_rfl) (by kernel_rfl))
theorem _root_.Go.Mem.SGood.mono {m m' : Nat} {s : St} (h : SGood m s) (hm : m ≤ m') : SGood m' s := ⟨h.holds, h.uniq, h.disk, h.dead, fun r hr => Nat.le_trans (h.bnd r hr) hm, by have := h.writes; omega, h.stops, h.room⟩
/-- another store was opened on the same disk -/
theorem LabS.other {w0 w w' : World} {sb lb sb2 lb2 d L : Nat} {s t : St} (h : LabS w0 w sb lb d L s) (ht : LabS w0 w' sb2 lb2 d L t) (hc : Chg (DL d L) w w') (he : t.disk = s.disk) : LabS w0 w' sb lb d L s := by
  have hD := ht.st.disk
  rw [he] at hD
  have := h.redisk hc hD rfl (Nat.le_refl _) h.st.ok.few
  exact this
/-- its names, rising, in a row of their own -/
theorem lab_names_new {w0 w : World} {sb lb d L : Nat} {s : St} (h : LabS w0 w sb lb d L s) :
    Calls Tryd.prog 19 #[.pointer (some ⟨sb, 0, none⟩)] w fun e w' => ∃ v, e = .returned v ∧ Strs w' v (s.names.mergeSort fun x y => decide (x ≤ y)) ∧ Below w.heap.size w w' ∧ ∀ a l c, v = .slice (some a) l c → w.heap.size ≤ a.block := by
  refine (snames_calls _ sb lb d L s w h.st).mono ?_
  rintro e w1 ⟨v, rfl, hv, hb⟩
  exact ⟨v, rfl, strs_of_own hv (by simp), hb, fun a l c e => by subst e; exact (hv.lt a.block rfl).1⟩
/-- a dead store -/
theorem dead_put {s : St} (h : s.dead = true) (name : ByteArray) (data : List UInt8) : putR s name data = (8, s) := by unfold putR; rw [if_pos h]
theorem dead_drop {s : St} (h : s.dead = true) (name : ByteArray) : dropR s name = (8, s) := by unfold dropR; rw [if_pos h]
theorem dead_names {s : St} (h : s.dead = true) : s.names = [] := by unfold St.names; rw [if_pos h]
theorem dead_free {s : St} (h : s.dead = true) : s.freeN = 0 := by unfold St.freeN; rw [if_pos h]
/-- at most n bytes of a text -/
def cutS (s : ByteArray) (n : Nat) : ByteArray := s.extract 0 (min (s.size : Int) (n : Int)).toNat
theorem cutS_size (s : ByteArray) (n : Nat) : (cutS s n).size ≤ n := by
  unfold cutS
  rw [ByteArray.size_extract]
  omega
set_option maxRecDepth 100000 in
set_option maxHeartbeats 1000000 in
theorem cutText_calls (s : ByteArray) (n : Nat) (hs : s.size ≤ maxLen) (w : World) :
    Calls Tryd.prog 11 #[.string s, .int .i64 n] w fun e w' => e = .returned (.string (cutS s n)) ∧ w = w' := by
  have hm : s.size ≤ 9223372036854775807 := by unfold maxLen at hs; omega
  clear hs
  go_enter Tryd.func11, Tryd.ntmps11
  go_wp2
  go_ret
  exact ⟨rfl, rfl⟩
theorem bys_cut {w : World} {a : Option Addr} {l cap : Nat} {bs : List UInt8} (h : Bys w (.slice a l cap) bs) (n : Nat) : Bys w (.slice a (min (l : Int) (n : Int)).toNat cap) (bs.take n) := by
  have hl : l = bs.length := by obtain ⟨a', c', e, _⟩ := h; injection e
  by_cases hlt : n < l
  · rw [show (min (l : Int) (n : Int)).toNat = n from by omega]
    exact h.take n (by omega)
  · rw [show (min (l : Int) (n : Int)).toNat = l from by omega, List.take_of_length_le (by omega)]
    exact h
set_option maxRecDepth 100000 in
set_option maxHeartbeats 1000000 in
theorem cut8_val {a : Option Addr} {l cap : Nat} {bs : List UInt8} (n : Nat) (w : World) (h : Bys w (.slice a l cap) bs) :
    Calls Tryd.prog 12 #[.slice a l cap, .int .i64 n] w fun e w' => e = .returned (.slice a (min (l : Int) (n : Int)).toNat cap) ∧ w = w' := by
  have hl := h.len
  obtain ⟨a', c', e, h1, h2, h3⟩ := id h
  injection e with e1 e2 e3
  subst e1 e3
  rw [← e2] at hl h1
  clear e2 h3 h
  by_cases hlt : n < l
  · go_enter Tryd.func12, Tryd.ntmps12
    go_wp2
    go_ret
    exact ⟨rfl, rfl⟩
  · go_enter Tryd.func12, Tryd.ntmps12
    go_wp2
    go_ret
    exact ⟨rfl, rfl⟩
end Go.Proofs.YtmeegdicnfgjfaaDoor
