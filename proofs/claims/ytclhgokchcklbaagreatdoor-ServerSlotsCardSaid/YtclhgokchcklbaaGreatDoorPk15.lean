/- Texts of this proof, packed: SrvBytes, ShaWord, ShaMath, ShaMix. -/
import Derived.Test.YtclhgokchcklbaaGreatDoorPk14
import Derived.Test.YtclhgokchcklbaaGreatDoorPk00
import Derived.Laws.BitsLemmas
import Derived.Test.YtclhgokchcklbaaGreatDoorPk07
import Derived.BigQuiet
section
namespace Go.Proofs.YtclhgokchcklbaaGreatDoor
open Go Go.RowKit Go.Mem Gf Lea
set_option linter.unusedVariables false
theorem rws1 {w : World} {g : Nat} {t : TypeId} {v1 : Value} {b1 : List UInt8} (h : Blk w g #[v1] t) (h1 : Bys w v1 b1) : Rws w (.slice (some ⟨g, 0, none⟩) 1 1) [b1] := by
  refine ⟨_, 1, rfl, by simp, by decide, fun _ => ⟨g, 0, rfl, fun k r hk => ?_⟩⟩
  rw [Nat.zero_add]
  match k, hk with
  | 0, hk => simp at hk; subst hk; exact ⟨v1, by rw [h.cell]; rfl, h1⟩
  | k + 1, hk => simp at hk
theorem contB_one (k : Key) : contB k [] = Cod.nets [k] := by simp [contB, blB, Cod.nets]
theorem contB_snoc (k : Key) (l : List Blob) (x : Blob) : contB k (l ++ [x]) = contB k l ++ Cod.nets [Cod.be 1 x.1.toNat, x.2] := by
  unfold contB
  rw [blB_app, blB_one, List.append_assoc]
theorem contB_len (k : Key) (hk : k.length = 16) (l : List Blob) (h : BlOk l) : (contB k l).length ≤ 27 + l.length * 16420 := by
  have h1 := net_le k (by omega)
  have h2 := blB_len l h
  unfold contB
  rw [List.length_append]
  omega
attribute [local go_sem ↓] Go.wp_at_zero Go.wp_at_succ
attribute [local irreducible] contV
set_option maxRecDepth 100000 in
set_option maxHeartbeats 2000000 in
theorem contbytes_calls (w : World) (is : Bool) (k : Key) (u : Value) (l : List Blob) (hk : k.length = 16) (h : BlAt w (fun _ => False) u l) (hT : Tab w) (hl : l.length ≤ 32) (hok : BlOk l) :
    Calls Tryz.prog 129 #[.agg (contV is (bV k) u).toArray] w fun e w' => ∃ vo, e = .returned vo ∧ OwnX 5 w' w.heap.size vo (contB k l) ∧ Below w.heap.size w w' := by
  obtain ⟨a, c, rfl, hc1, hc2, hrow⟩ := id h
  obtain ⟨n, hn⟩ : ∃ n, n = l.length := ⟨_, rfl⟩
  rw [← hn] at hc1 hrow hl ⊢
  have hkl : (bV k).length = 16 := by rw [bV_len]; exact hk
  have hu := contV_u is hkl (.slice a n c)
  have hck : ∀ i, i < 16 → (contV is (bV k) (.slice a n c))[i + 1]? = (bV k)[i]? := fun i hi => contV_k is _ _ (by omega)
  obtain ⟨cc, hcc⟩ : ∃ cc, cc = contV is (bV k) (.slice a n c) := ⟨_, rfl⟩
  rw [← hcc] at hu hck ⊢
  have hkC : Blk (w.alloc (.cells cc.toArray 184)) w.heap.size cc.toArray 184 := Blk.new _ _ _
  have hbC : Below w.heap.size w (w.alloc (.cells cc.toArray 184)) := (Below.refl _ _).alloc (Nat.le_refl _) _
  have H := Lib.hid (And.intro hn (And.intro hrow (And.intro hT hok)))
  clear h hn hrow hT hok hcc
  go_enter Tryz.func129, Tryz.ntmps129
  go_upto_region 1 with fail
  obtain ⟨w1, hw1⟩ : ∃ q, q = w.alloc (.cells cc.toArray 184) := ⟨_, rfl⟩
  obtain ⟨p1, hp1⟩ : ∃ q, q = w.heap.size := ⟨_, rfl⟩
  rw [← hw1] at hkC hbC ⊢
  have HP := Lib.hid hp1
  rw [← hp1] at hkC ⊢
  have hby : Bys w1 (.slice (some ⟨p1, 1, none⟩) 16 16) k := ⟨_, 16, by rw [hk], by omega, by decide, fun _ => ⟨p1, 1, rfl, fun i v hi => by
    have h16 : i < 16 := by have := some_lt hi; omega
    rw [hkC.cell, List.getElem?_toArray, Nat.add_comm, hck i h16, bV_get, hi]; rfl⟩⟩
  have c17 : w1.cell? ⟨p1, 17, none⟩ = some (.slice a n c) := by rw [hkC.cell 17]; simpa using hu
  have HB := Lib.hid (And.intro hkC (And.intro hbC hby))
  clear hkC hbC hby hw1 hp1 hck hu
  go_wp2_with fail
  have hba : Below w1.heap.size w1 (w1.alloc (.cells #[.slice (some ⟨p1, 1, none⟩) 16 16] 38)) := (Below.refl _ _).alloc (Nat.le_refl _) _
  have hnl : (Cod.nets [k]).length ≤ 100000000 := by
    have := contB_len k hk [] ⟨fun _ h => (by cases h), fun _ h => (by cases h)⟩
    rw [contB_one] at this
    simp at this
    omega
  refine (nets_calls _ [k] _ (H.out.2.2.1.below (HB.out.2.1.trans (hba.mono HB.out.2.1.size))) (rws1 (Blk.new _ _ _) (HB.out.2.2.below hba)) hnl).mono ?_
  rintro e w2 ⟨v2, rfl, ho2, hb2⟩
  have hz2 := hb2.size
  have hb02 : Below w.heap.size w w2 := (HB.out.2.1.trans (hba.mono HB.out.2.1.size)).trans (hb2.mono (Nat.le_trans HB.out.2.1.size hba.size))
  have k12 : Blk w2 p1 cc.toArray 184 := (HB.out.1.kept hba).kept hb2
  have c17 : w2.cell? ⟨p1, 17, none⟩ = some (.slice a n c) := by rw [k12.cell 17, ← HB.out.1.cell 17]; exact c17
  have ho2' := ho2.mono (base' := w.heap.size) (by have := hba.size; have := HB.out.2.1.size; omega)
  rw [← contB_one] at ho2'
  have H2 := Lib.hid (And.intro ho2' hb02)
  clear ho2 hb2 hb02 k12 ho2' hba hnl hz2
  go_upto_region 3 with fail
  go_loopw [3, 13] (fun v3 vi wr => ∃ i : Nat, i ≤ n ∧ vi = .int .i64 i ∧ Hid (OwnX 5 wr w.heap.size v3 (contB k (l.take i)) ∧ Below w.heap.size w wr)) (fun _ vi _ => n - (intOf vi).toNat)
  case atStart => exact ⟨0, Nat.zero_le _, rfl, H2.out.1, H2.out.2⟩
  case round =>
    obtain ⟨i, hi0, rfl, G⟩ := hrel
    by_cases hin : i < n
    · obtain ⟨b, off, rfl, hb, _, hcells⟩ := H.out.2.1 (by omega)
      have hx : l[i]? = some (l[i]'(by have := H.out.1; omega)) := by simp
      generalize l[i]'(by have := H.out.1; omega) = x at hx
      obtain ⟨c1, a', c', c2, hd⟩ := hcells i x hx
      have hbc := fun o => G.out.2.cell (p := ⟨b, o, none⟩) hb
      rw [← hbc] at c1 c2
      have i0 : (0 : Int) ≤ (i : Int) := by omega
      have i1 : (i : Int) < (n : Int) := by omega
      obtain ⟨xl, hxl⟩ : ∃ z, z = x.2.length := ⟨_, rfl⟩
      have hxn := H.out.2.2.2.num x (List.mem_of_getElem? hx)
      have hxd := H.out.2.2.2.len x (List.mem_of_getElem? hx)
      obtain ⟨m, hm⟩ : ∃ m : Nat, m = x.1.toNat := ⟨_, rfl⟩
      have hm2 : x.1 = (m : Int) := by omega
      have hm16 : m < 16 := by omega
      rw [hm2] at c1
      rw [← hxl] at c2 hd
      have hp1 : contB k (l.take (i + 1)) = contB k (l.take i) ++ Cod.nets [Cod.be 1 m, x.2] := by rw [List.take_add_one, hx, Option.toList_some, contB_snoc, hm]
      have hpl : (contB k (l.take i)).length ≤ 1000000 := by
        have h1 := contB_len k hk (l.take i) (H.out.2.2.2.sub fun y hy => List.mem_of_mem_take hy)
        have h2 : (l.take i).length ≤ 32 := by rw [List.length_take]; have := H.out.1; omega
        have : (l.take i).length * 16420 ≤ 32 * 16420 := Nat.mul_le_mul_right _ h2
        omega
      have hn2 : (Cod.nets [Cod.be 1 m, x.2]).length ≤ 100000 := by
        have h1 := net_le (Cod.be 1 m) (by rw [Cod.be_len]; omega)
        have h2 := net_le x.2 hxd
        rw [Cod.be_len] at h1
        simp only [Cod.nets, List.length_append, List.length_nil]
        omega
      have HX := Lib.hid (And.intro hp1 (And.intro hpl (And.intro hn2 (And.intro hd.1 hxl))))
      clear hx hxl hd hcells hbc hxn hxd hm hm2 hp1 hpl hn2
      go_upto_region 5 with fail
      have hW1 : Blk (wr.alloc (.cells #[.int .i64 m, .slice a' xl c'] 41)) wr.heap.size #[.int .i64 m, .slice a' xl c'] 41 := Blk.new _ _ _
      have hB1 : Below wr.heap.size wr (wr.alloc (.cells #[.int .i64 m, .slice a' xl c'] 41)) := (Below.refl _ _).alloc (Nat.le_refl _) _
      obtain ⟨W1, hw1⟩ : ∃ W, W = wr.alloc (.cells #[.int .i64 m, .slice a' xl c'] 41) := ⟨_, rfl⟩
      obtain ⟨p5, hp5⟩ : ∃ q, q = wr.heap.size := ⟨_, rfl⟩
      rw [← hw1] at hW1 hB1 ⊢
      rw [← hp5] at hW1 ⊢
      have HW := Lib.hid (And.intro hW1 (And.intro hB1 hp5))
      clear hw1 hp5 hW1 hB1
      have c50 : W1.cell? ⟨p5, 0, none⟩ = some (.int .i64 m) := HW.out.1.cell 0
      have c51 : W1.cell? ⟨p5, 1, none⟩ = some (.slice a' xl c') := HW.out.1.cell 1
      go_region_law
        (first
          | (refine stepAppX E8c (by rfl) _ _ (by rfl) (base := w.heap.size) (v := u3) (xv := v3) (bs := contB k (l.take i)) (news := Cod.nets [Cod.be 1 m, x.2]) (by rfl) (by rfl) (HY.out.1.below HZ.out.2) HZ.out.1.bys (by have := HX.out.2.1; have := HX.out.2.2.1; omega) (Nat.le_trans G.out.2.size (Nat.le_trans HY.out.2.2.2.2.size HZ.out.2.size)) ?_
             intro v4 x4 hv4 hg4
             have HV := Lib.hid (And.intro hv4 hg4)
             clear hv4 hg4)
          | (go_simp
             go_at_call 172
             refine (put_x m 1 (by omega) (by decide) (by decide) W1.drew).mono ?_
             rintro e w' ⟨vo, rfl, h2, h3⟩
             obtain ⟨pa, pc, rfl⟩ := h2.eq_slice
             have h3' : Below W1.heap.size W1 w' := ⟨h3.os, h3.tape, h3.output, h3.size, h3.block⟩
             have hbW : Below wr.heap.size wr w' := HW.out.2.1.trans (h3'.mono HW.out.2.1.size)
             have hO' := G.out.1.below hbW
             have hT' := H.out.2.2.1.below (G.out.2.trans (hbW.mono G.out.2.size))
             have hby1 : Bys w' (.slice a' xl c') x.2 := HX.out.2.2.2.1.below (G.out.2.trans (hbW.mono G.out.2.size))
             have HY := Lib.hid (And.intro hO' (And.intro hT' (And.intro hby1 (And.intro h2.bys hbW))))
             rw [Cod.be_len] at HY ⊢
             have d51 : w'.cell? ⟨p5, 1, none⟩ = some (.slice a' xl c') := (HW.out.1.kept h3').cell 1
             clear h2 h3 h3' hO' hT' hby1 hbW)
          | (go_simp
             go_at_call 171
             refine (nets_calls _ [Cod.be 1 m, x.2] _ (HY.out.2.1.below ((Below.refl w'.heap.size w').alloc (Nat.le_refl _) _)) (rws2 (Blk.new _ _ _) (HY.out.2.2.2.1.below ((Below.refl w'.heap.size w').alloc (Nat.le_refl _) _)) (HY.out.2.2.1.below ((Below.refl w'.heap.size w').alloc (Nat.le_refl _) _))) (by have := HX.out.2.2.1; omega)).mono ?_
             rintro e w3 ⟨v3, rfl, h3, hb3⟩
             have hb4 : Below w'.heap.size w' w3 := ((Below.refl w'.heap.size w').alloc (Nat.le_refl _) _).trans (hb3.mono (by simp))
             have HZ := Lib.hid (And.intro h3 hb4)
             clear h3 hb3 hb4))
      all_goals
        go_wp2_with fail
        have hb5 : Below w.heap.size w w3 := (G.out.2.trans (HY.out.2.2.2.2.mono G.out.2.size)).trans (HZ.out.2.mono (Nat.le_trans G.out.2.size HY.out.2.2.2.2.size))
        exact ⟨⟨i + 1, by omega, by simp, by rw [HX.out.1]; exact HV.out.1, (Chg.grown (S := fun k => w.heap.size ≤ k) (Chg.of_below hb5) HV.out.2 (fun q hq => .inl (G.out.1.lt _ hq).1)).below (Nat.le_refl _) (fun _ h => h)⟩, by show n - ((i : Int) + 1).toNat < n - (i : Int).toNat; omega⟩
    · have := G.out.1
      rw [List.take_of_length_le (by have := H.out.1; omega)] at this
      have HF := Lib.hid this
      clear this
      go_wp2_with fail
      go_ret
      exact ⟨_, rfl, HF.out, G.out.2⟩
end Go.Proofs.YtclhgokchcklbaaGreatDoor
end
section
namespace Go.Mem
open Go Go.RowKit
def wz (x : UInt32) : Int := (x.toNat : Int)
theorem wz_of (n : Nat) : wz (UInt32.ofNat n) = ((n % 4294967296 : Nat) : Int) := by
  unfold wz
  rw [UInt32.toNat_ofNat']
theorem wrap_wz (n : Nat) : IntKind.u32.wrap (n : Int) = wz (UInt32.ofNat n) := by
  rw [wz_of, IntKind.wrap_u32]; omega
theorem wz_add (x y : UInt32) : IntKind.u32.wrap (wz x + wz y) = wz (x + y) := by
  unfold wz
  rw [IntKind.wrap_u32, UInt32.toNat_add]; omega
theorem wz_addm (x y : UInt32) : (wz x + wz y) % 4294967296 = wz (x + y) := by rw [← wz_add, IntKind.wrap_u32]
theorem wz_add3 (x y z : UInt32) : (wz x + wz y + wz z) % 4294967296 = wz (x + y + z) := by
  rw [← wz_addm, ← wz_addm]; omega
theorem bv32 (x : UInt32) : BitVec.ofInt 32 (wz x) = x.toBitVec := by
  apply BitVec.eq_of_toNat_eq
  have := UInt32.toNat_lt x
  rw [BitVec.toNat_ofInt]
  unfold wz
  show ((x.toNat : Int) % 4294967296).toNat = x.toNat
  omega
theorem wrap_toNat (b : BitVec 32) : IntKind.u32.wrap (b.toNat : Int) = wz ⟨b⟩ := by
  rw [IntKind.wrap_u32]
  have := b.isLt
  show _ = ((b.toNat : Nat) : Int)
  omega
theorem wz_xor (x y : UInt32) : bits .xor .u32 (wz x) (wz y) = wz (x ^^^ y) := by
  show IntKind.u32.wrap ((BitVec.ofInt 32 (wz x) ^^^ BitVec.ofInt 32 (wz y)).toNat : Int) = _
  rw [bv32, bv32, wrap_toNat]; rfl
theorem wz_and (x y : UInt32) : bits .and .u32 (wz x) (wz y) = wz (x &&& y) := by
  show IntKind.u32.wrap ((BitVec.ofInt 32 (wz x) &&& BitVec.ofInt 32 (wz y)).toNat : Int) = _
  rw [bv32, bv32, wrap_toNat]; rfl
theorem wz_or (x y : UInt32) : bits .or .u32 (wz x) (wz y) = wz (x ||| y) := by
  show IntKind.u32.wrap ((BitVec.ofInt 32 (wz x) ||| BitVec.ofInt 32 (wz y)).toNat : Int) = _
  rw [bv32, bv32, wrap_toNat]; rfl
theorem wz_not (x : UInt32) : bits .xor .u32 4294967295 (wz x) = wz (~~~x) := by
  show IntKind.u32.wrap ((BitVec.ofInt 32 4294967295 ^^^ BitVec.ofInt 32 (wz x)).toNat : Int) = _
  rw [bv32, wrap_toNat]
  refine congrArg wz ?_
  apply UInt32.toBitVec_inj.1
  show BitVec.ofInt 32 4294967295 ^^^ x.toBitVec = ~~~x.toBitVec
  have : BitVec.ofInt 32 4294967295 = BitVec.allOnes 32 := by decide
  rw [this, BitVec.allOnes_xor]
theorem wz_notm (x : UInt32) : bits .xor .u32 IntKind.u32.max (wz x) = wz (~~~x) := wz_not x
def shl (x : UInt32) (n : Nat) : UInt32 := ⟨x.toBitVec <<< n⟩
def shr (x : UInt32) (n : Nat) : UInt32 := ⟨x.toBitVec >>> n⟩
theorem wz_shl (x : UInt32) (n : Nat) : IntKind.u32.wrap (wz x * 2 ^ n) = wz (shl x n) := by
  have e : wz x * 2 ^ n = ((x.toNat * 2 ^ n : Nat) : Int) := by unfold wz; push_cast; rfl
  rw [e, wrap_wz]
  refine congrArg wz (UInt32.toNat_inj.1 ?_)
  rw [UInt32.toNat_ofNat']
  show _ = (x.toBitVec <<< n).toNat
  rw [BitVec.toNat_shiftLeft, Nat.shiftLeft_eq]; rfl
theorem wz_shlm (x : UInt32) (n : Nat) : wz x * 2 ^ n % 4294967296 = wz (shl x n) := by rw [← wz_shl, IntKind.wrap_u32]
theorem wz_shl24 (x : UInt32) : wz x * 16777216 % 4294967296 = wz (shl x 24) := wz_shlm x 24
theorem wz_shl16 (x : UInt32) : wz x * 65536 % 4294967296 = wz (shl x 16) := wz_shlm x 16
theorem wz_shl8 (x : UInt32) : wz x * 256 % 4294967296 = wz (shl x 8) := wz_shlm x 8
theorem wz_shr (x : UInt32) (n : Nat) : wz x / 2 ^ n = wz (shr x n) := by
  have e : wz x / 2 ^ n = ((x.toNat / 2 ^ n : Nat) : Int) := by unfold wz; push_cast; rfl
  rw [e]
  show _ = (((x.toBitVec >>> n).toNat : Nat) : Int)
  rw [BitVec.toNat_ushiftRight, Nat.shiftRight_eq_div_pow]; rfl
theorem wz_shr3 (x : UInt32) : wz x / 8 = wz (shr x 3) := wz_shr x 3
theorem wz_shr10 (x : UInt32) : wz x / 1024 = wz (shr x 10) := wz_shr x 10
def ror (x : UInt32) (n : Nat) : UInt32 := shl x (32 - n) ||| shr x n
theorem ror_comm (x : UInt32) (n : Nat) : shr x n ||| shl x (32 - n) = ror x n := UInt32.or_comm _ _
theorem wz_byte (b : UInt8) : IntKind.u32.wrap ((b.toNat : Nat) : Int) = wz b.toUInt32 := by
  rw [wrap_wz]
  refine congrArg wz (UInt32.toNat_inj.1 ?_)
  have := UInt8.toNat_lt b
  rw [UInt32.toNat_ofNat', UInt8.toNat_toUInt32]
  omega
end Go.Mem
end
section
namespace Sha
open Go.Mem
structure H8 where
  a : UInt32
  b : UInt32
  c : UInt32
  d : UInt32
  e : UInt32
  f : UInt32
  g : UInt32
  h : UInt32
def H8.l (v : H8) : List UInt32 := [v.a, v.b, v.c, v.d, v.e, v.f, v.g, v.h]
def word (b : List UInt8) (i : Nat) : UInt32 :=
  shl (b.getD (4 * i) 0).toUInt32 24 ||| shl (b.getD (4 * i + 1) 0).toUInt32 16 ||| shl (b.getD (4 * i + 2) 0).toUInt32 8 ||| (b.getD (4 * i + 3) 0).toUInt32
def s0 (x : UInt32) : UInt32 := ror x 7 ^^^ ror x 18 ^^^ shr x 3
def s1 (x : UInt32) : UInt32 := ror x 17 ^^^ ror x 19 ^^^ shr x 10
def next (l : List UInt32) : UInt32 := l.getD (l.length - 16) 0 + s0 (l.getD (l.length - 15) 0) + l.getD (l.length - 7) 0 + s1 (l.getD (l.length - 2) 0)
def sch (b : List UInt8) : Nat → List UInt32
  | 0 => []
  | n + 1 => sch b n ++ [if n < 16 then word b n else next (sch b n)]
theorem sch_len (b : List UInt8) : ∀ n, (sch b n).length = n
  | 0 => rfl
  | n + 1 => by rw [sch, List.length_append, sch_len b n]; rfl
theorem sch_lo (b : List UInt8) {n : Nat} (h : n < 16) : sch b (n + 1) = sch b n ++ [word b n] := by rw [sch, if_pos h]
theorem sch_hi (b : List UInt8) {n : Nat} (h : 16 ≤ n) : sch b (n + 1) = sch b n ++ [next (sch b n)] := by rw [sch, if_neg (by omega)]
def kT : List UInt32 := [
  0x428a2f98, 0x71374491, 0xb5c0fbcf, 0xe9b5dba5, 0x3956c25b, 0x59f111f1, 0x923f82a4, 0xab1c5ed5,
  0xd807aa98, 0x12835b01, 0x243185be, 0x550c7dc3, 0x72be5d74, 0x80deb1fe, 0x9bdc06a7, 0xc19bf174,
  0xe49b69c1, 0xefbe4786, 0x0fc19dc6, 0x240ca1cc, 0x2de92c6f, 0x4a7484aa, 0x5cb0a9dc, 0x76f988da,
  0x983e5152, 0xa831c66d, 0xb00327c8, 0xbf597fc7, 0xc6e00bf3, 0xd5a79147, 0x06ca6351, 0x14292967,
  0x27b70a85, 0x2e1b2138, 0x4d2c6dfc, 0x53380d13, 0x650a7354, 0x766a0abb, 0x81c2c92e, 0x92722c85,
  0xa2bfe8a1, 0xa81a664b, 0xc24b8b70, 0xc76c51a3, 0xd192e819, 0xd6990624, 0xf40e3585, 0x106aa070,
  0x19a4c116, 0x1e376c08, 0x2748774c, 0x34b0bcb5, 0x391c0cb3, 0x4ed8aa4a, 0x5b9cca4f, 0x682e6ff3,
  0x748f82ee, 0x78a5636f, 0x84c87814, 0x8cc70208, 0x90befffa, 0xa4506ceb, 0xbef9a3f7, 0xc67178f2]
def h0 : H8 := ⟨0x6a09e667, 0xbb67ae85, 0x3c6ef372, 0xa54ff53a, 0x510e527f, 0x9b05688c, 0x1f83d9ab, 0x5be0cd19⟩
def big1 (e : UInt32) : UInt32 := ror e 6 ^^^ ror e 11 ^^^ ror e 25
def big0 (a : UInt32) : UInt32 := ror a 2 ^^^ ror a 13 ^^^ ror a 22
def tw (v : H8) (k w : UInt32) : UInt32 := v.h + big1 v.e + (v.e &&& v.f ^^^ ~~~v.e &&& v.g) + k + w
def maj (v : H8) : UInt32 := v.a &&& v.b ^^^ v.a &&& v.c ^^^ v.b &&& v.c
def rnd (v : H8) (k w : UInt32) : H8 := ⟨tw v k w + big0 v.a + maj v, v.a, v.b, v.c, v.d + tw v k w, v.e, v.f, v.g⟩
def rnds (b : List UInt8) (h : H8) : Nat → H8
  | 0 => h
  | n + 1 => rnd (rnds b h n) (kT.getD n 0) ((sch b 64).getD n 0)
def addH (h v : H8) : H8 := ⟨h.a + v.a, h.b + v.b, h.c + v.c, h.d + v.d, h.e + v.e, h.f + v.f, h.g + v.g, h.h + v.h⟩
def addL (h v : H8) (i : Nat) : List UInt32 := (addH h v).l.take i ++ h.l.drop i
theorem addL_get (h v : H8) {i : Nat} (hi : i < 8) : (addL h v i)[i]? = some (h.l.getD i 0) := by
  unfold addL
  have hl : h.l.length = 8 := rfl
  have hl2 : (addH h v).l.length = 8 := rfl
  rw [List.getElem?_append_right (by rw [List.length_take]; omega), List.length_take, List.getElem?_drop, show i + (i - min i (addH h v).l.length) = i from by omega, List.getD_eq_getElem?_getD, List.getElem?_eq_getElem (by omega)]
  rfl
theorem addL_sum (h v : H8) {i : Nat} (hi : i < 8) : (addH h v).l.getD i 0 = h.l.getD i 0 + v.l.getD i 0 := by
  rcases (by omega : i = 0 ∨ i = 1 ∨ i = 2 ∨ i = 3 ∨ i = 4 ∨ i = 5 ∨ i = 6 ∨ i = 7) with rfl | rfl | rfl | rfl | rfl | rfl | rfl | rfl <;> rfl
theorem addL_set (h v : H8) {i : Nat} (hi : i < 8) : (addL h v i).set i (h.l.getD i 0 + v.l.getD i 0) = addL h v (i + 1) := by
  rw [← addL_sum h v hi]
  unfold addL
  have hl : h.l.length = 8 := rfl
  have hl2 : (addH h v).l.length = 8 := rfl
  rw [List.set_append_right _ _ (by rw [List.length_take]; omega), List.length_take, show i - min i (addH h v).l.length = 0 from by omega, List.drop_eq_getElem_cons (by omega), List.set_cons_zero, List.take_add_one, List.getElem?_eq_getElem (by omega), List.append_assoc, List.getD_eq_getElem?_getD, List.getElem?_eq_getElem (by omega)]
  rfl
theorem addL_8 (h v : H8) : addL h v 8 = (addH h v).l := by
  unfold addL
  rw [List.take_of_length_le (by show 8 ≤ 8; omega), List.drop_of_length_le (by show 8 ≤ 8; omega), List.append_nil]
def mix (h : H8) (b : List UInt8) : H8 := addH h (rnds b h 64)
def mixN : Nat → H8 → List UInt8 → H8
  | 0, h, _ => h
  | n + 1, h, l => mixN n (mix h (l.take 64)) (l.drop 64)
theorem mixN_add (m : Nat) : ∀ (n : Nat) (h : H8) (l : List UInt8), mixN (n + m) h l = mixN m (mixN n h l) (l.drop (64 * n))
  | 0, h, l => by rw [Nat.zero_add, Nat.mul_zero, List.drop_zero]; rfl
  | n + 1, h, l => by
    rw [show n + 1 + m = (n + m) + 1 from by omega]
    show mixN (n + m) (mix h (l.take 64)) (l.drop 64) = mixN m (mixN n (mix h (l.take 64)) (l.drop 64)) _
    rw [mixN_add m n, List.drop_drop, show 64 + 64 * n = 64 * (n + 1) from by omega]
theorem mixN_app (r : List UInt8) : ∀ (n : Nat) (h : H8) (l : List UInt8), 64 * n ≤ l.length → mixN n h (l ++ r) = mixN n h l
  | 0, _, _, _ => rfl
  | n + 1, h, l, hl => by
    show mixN n (mix h ((l ++ r).take 64)) ((l ++ r).drop 64) = mixN n (mix h (l.take 64)) (l.drop 64)
    rw [List.take_append_of_le_length (by omega), List.drop_append_of_le_length (by omega)]
    exact mixN_app r n _ _ (by rw [List.length_drop]; omega)
theorem mixN_succ (n : Nat) (h : H8) (l : List UInt8) : mixN (n + 1) h l = mix (mixN n h l) ((l.drop (64 * n)).take 64) := by
  rw [mixN_add 1 n]; rfl
def zeros (n : Nat) : Nat := (119 - n % 64) % 64
theorem zeros_mod (n : Nat) : (n + 1 + zeros n) % 64 = 56 ∧ zeros n < 64 := by unfold zeros; omega
theorem zeros_least {n i : Nat} (h : i < zeros n) : (n + 1 + i) % 64 ≠ 56 := by unfold zeros at h; omega
def pad (bs : List UInt8) (n : Nat) : List UInt8 := bs ++ 128 :: (List.replicate (zeros bs.length) 0 ++ Cod.be 8 (8 * n))
theorem pad_len (bs : List UInt8) (n : Nat) : (pad bs n).length % 64 = 0 ∧ (pad bs n).length = bs.length + 9 + zeros bs.length := by
  have e : (pad bs n).length = bs.length + 9 + zeros bs.length := by
    unfold pad
    rw [List.length_append, List.length_cons, List.length_append, List.length_replicate, Cod.be_len]; omega
  refine ⟨?_, e⟩
  rw [e]
  have := zeros_mod bs.length
  omega
def outH (v : H8) : List UInt8 := v.l.flatMap fun x => Cod.be 4 x.toNat
theorem outH_len (v : H8) : (outH v).length = 32 := by
  unfold outH H8.l
  simp [Cod.be_len]
def sum (bs : List UInt8) : List UInt8 := outH (mixN ((pad bs bs.length).length / 64) h0 (pad bs bs.length))
theorem sum_len (bs : List UInt8) : (sum bs).length = 32 := outH_len _
theorem sum_two (bs : List UInt8) : sum bs = outH (mixN ((pad (bs.drop (64 * (bs.length / 64))) bs.length).length / 64) (mixN (bs.length / 64) h0 bs) (pad (bs.drop (64 * (bs.length / 64))) bs.length)) := by
  unfold sum
  obtain ⟨q, hq⟩ : ∃ q, q = bs.length / 64 := ⟨_, rfl⟩
  rw [← hq]
  have hz : zeros (bs.length - 64 * q) = zeros bs.length := by unfold zeros; omega
  have e1 : (pad bs bs.length).drop (64 * q) = pad (bs.drop (64 * q)) bs.length := by
    unfold pad
    rw [List.drop_append_of_le_length (by omega), List.length_drop, hz]
  have e2 : (pad bs bs.length).length / 64 = q + (pad (bs.drop (64 * q)) bs.length).length / 64 := by
    rw [(pad_len _ _).2, (pad_len _ _).2, List.length_drop, hz]
    omega
  rw [e2, mixN_add, e1]
  refine congrArg outH (congrArg (fun h => mixN _ h _) ?_)
  unfold pad
  rw [mixN_app _ q h0 bs (by omega)]
end Sha
end
section
namespace Go.Mem
open Go Go.RowKit Gf Sha
def wv (x : UInt32) : Value := .int .u32 (wz x)
theorem wv_eq (x : UInt32) : wv x = .int .u32 (wz x) := rfl
def schA (b : List UInt8) (i : Nat) : Array Value := ((sch b i).map wv ++ List.replicate (64 - i) (Value.int .u32 0)).toArray
theorem schA_get (b : List UInt8) {i j : Nat} (h : j < i) : (schA b i)[j]? = some (.int .u32 (wz ((sch b i).getD j 0))) := by
  have hl := sch_len b i
  unfold schA
  rw [List.getElem?_toArray, List.getElem?_append_left (by rw [List.length_map]; omega), List.getElem?_map, List.getElem?_eq_getElem (by omega), List.getD_eq_getElem?_getD, List.getElem?_eq_getElem (by omega)]; rfl
theorem schA_has (b : List UInt8) {i j : Nat} (h : j < 64) (hi : i ≤ 64) : ∃ z, (schA b i)[j]? = some (.int .u32 z) := by
  rcases Nat.lt_or_ge j i with h1 | h1
  · exact ⟨_, schA_get b h1⟩
  · refine ⟨0, ?_⟩
    unfold schA
    rw [List.getElem?_toArray, List.getElem?_append_right (by rw [List.length_map, sch_len]; exact h1), List.length_map, sch_len, List.getElem?_replicate, if_pos (by omega)]
theorem schA_set (b : List UInt8) {i : Nat} (h : i < 64) (x : UInt32) (hx : sch b (i + 1) = sch b i ++ [x]) : (schA b i).setIfInBounds i (.int .u32 (wz x)) = schA b (i + 1) := by
  have hl := sch_len b i
  have hm : ((sch b i).map wv).length = i := by rw [List.length_map, hl]
  unfold schA
  rw [List.setIfInBounds_toArray, hx, List.map_append, List.set_append_right _ _ (by omega), hm, Nat.sub_self, show 64 - i = (64 - (i + 1)) + 1 from by omega, List.replicate_succ, List.set_cons_zero, List.append_assoc]
  rfl
end Go.Mem
namespace Go.Proofs.YtclhgokchcklbaaGreatDoor
open Go Go.RowKit Go.Mem Gf Sha
set_option linter.unusedVariables false
theorem i8h : (Tryz.prog.info? 99).map (·.size) = some 8 := by kernel_rfl
theorem load_h8 (dst : Option Tmp) (x : Operand) (ty : TypeId) (pos : String) (af : Array Edge) (gd : Option (Tmp × Bool)) (a : Act) (w : World) (K : Act → World → Prop) (Q : Exit → Act → World → Prop)
    (hp : ptrIs (a.eval x) = true) (ht : HasK 8 w (ptrB (a.eval x)) (ptrO (a.eval x))) :
    Oper.wp Tryz.prog ⟨dst, .load 99 x, ty, pos, af, gd⟩ a w K Q = K (a.put dst (.agg (readK 8 w (ptrB (a.eval x)) (ptrO (a.eval x))).toArray)) w :=
  wp_loadG Tryz.underlying99 rfl i8h dst x ty pos af gd a w K Q hp ht
theorem store_h8 (dst : Option Tmp) (x y : Operand) (ty : TypeId) (pos : String) (af : Array Edge) (a : Act) (w : World) (K : Act → World → Prop) (Q : Exit → Act → World → Prop)
    (hp : ptrIs (a.eval x) = true) (hy : aggIs (a.eval y) = true) (ht : HasK 8 w (ptrB (a.eval x)) (ptrO (a.eval x))) (hc : AllK 8 (aggL (a.eval y))) :
    Oper.wp Tryz.prog ⟨dst, .store 99 x y, ty, pos, af, none⟩ a w K Q = K (a.put dst undef) (w.setCells (ptrB (a.eval x)) (ptrO (a.eval x)) (aggL (a.eval y))) :=
  wp_storeK i8h dst x y ty pos af a w K Q hp hy ht hc
theorem h8_stored {w : World} {b : Nat} {cs : List Value} (h : HasK 8 w b 0) (hc : AllK 8 cs) : (loadVar 99 ⟨b, 0, none⟩).run Tryz.prog (w.setCells b 0 cs) = .ok (.agg cs.toArray) (w.setCells b 0 cs) := by
  have hr : (w.setCells b 0 cs).rangeAt b 0 cs := by
    have := readK_range (hasK_set h b 0 cs)
    rwa [readK_set h hc] at this
  exact run_loadVar_mid (P := Tryz.prog) _ b 0 99 cs _ hr Tryz.underlying99 rfl (by rw [i8h, hc.1])
def isW : Value → Bool
  | .int .u32 _ => true
  | _ => false
@[simp] theorem isW_eq (z : Int) : isW (.int .u32 z) = true := rfl
theorem isW_of {v : Value} (h : isW v = true) : ∃ z, v = .int .u32 z := by
  unfold isW at h
  split at h
  · exact ⟨_, rfl⟩
  · cases h
theorem built_h8 (z0 z1 z2 z3 z4 z5 z6 z7 : Int) : Tryz.prog.built 99 [(0, .int .u32 z0), (1, .int .u32 z1), (2, .int .u32 z2), (3, .int .u32 z3), (4, .int .u32 z4), (5, .int .u32 z5), (6, .int .u32 z6), (7, .int .u32 z7)] = some #[Value.int .u32 z0, Value.int .u32 z1, Value.int .u32 z2, Value.int .u32 z3, Value.int .u32 z4, Value.int .u32 z5, Value.int .u32 z6, Value.int .u32 z7] := by kernel_rfl
theorem build_h8 (dst : Option Tmp) (x0 x1 x2 x3 x4 x5 x6 x7 : Operand) (ty : TypeId) (pos : String) (af : Array Edge) (gd : Option (Tmp × Bool)) (a : Act) (w : World) (K : Act → World → Prop) (Q : Exit → Act → World → Prop)
    (h : (isW (a.eval x0) && isW (a.eval x1) && isW (a.eval x2) && isW (a.eval x3) && isW (a.eval x4) && isW (a.eval x5) && isW (a.eval x6) && isW (a.eval x7)) = true) :
    Oper.wp Tryz.prog ⟨dst, .build 99 #[(0, x0), (1, x1), (2, x2), (3, x3), (4, x4), (5, x5), (6, x6), (7, x7)], ty, pos, af, gd⟩ a w K Q = K (a.put dst (.agg #[a.eval x0, a.eval x1, a.eval x2, a.eval x3, a.eval x4, a.eval x5, a.eval x6, a.eval x7])) w := by
  simp only [Bool.and_eq_true] at h
  obtain ⟨⟨⟨⟨⟨⟨⟨h0, h1⟩, h2⟩, h3⟩, h4⟩, h5⟩, h6⟩, h7⟩ := h
  obtain ⟨z0, e0⟩ := isW_of h0
  obtain ⟨z1, e1⟩ := isW_of h1
  obtain ⟨z2, e2⟩ := isW_of h2
  obtain ⟨z3, e3⟩ := isW_of h3
  obtain ⟨z4, e4⟩ := isW_of h4
  obtain ⟨z5, e5⟩ := isW_of h5
  obtain ⟨z6, e6⟩ := isW_of h6
  obtain ⟨z7, e7⟩ := isW_of h7
  unfold Oper.wp execOp
  have hr := run_build (P := Tryz.prog) w 99 #[(0, a.eval x0), (1, a.eval x1), (2, a.eval x2), (3, a.eval x3), (4, a.eval x4), (5, a.eval x5), (6, a.eval x6), (7, a.eval x7)] _ (by
    rw [e0, e1, e2, e3, e4, e5, e6, e7]
    exact built_h8 z0 z1 z2 z3 z4 z5 z6 z7)
  simp only [List.map_toArray, List.map_cons, List.map_nil, Sem.run_bind, hr, Result.andThen_ok]
  rw [e0, e1, e2, e3, e4, e5, e6, e7]
  rfl
attribute [local go_sem ↓] Go.wp_at_zero Go.wp_at_succ
attribute [local go_sem ↓] load_h8 store_h8 build_h8
attribute [local go_sem] isW_eq
attribute [local go_sem] ptrB_eq ptrO_eq ptrIs_eq aggL_eq aggIs_eq readK_drew hasK_drew readK_alloc_past hasK_alloc_past setCells_drew setCells_alloc_past setCells_alloc_at hasK_alloc_at
attribute [local go_sem] wz_add wz_addm wz_add3 wz_xor wz_and wz_or wz_not wz_notm wz_shl wz_shlm wz_shr wz_byte wz_shl24 wz_shl16 wz_shl8 wz_shr3 wz_shr10
set_option maxRecDepth 100000 in
theorem rot_calls (x : UInt32) (n : Int) (k : Nat) (hn : n = -(k : Int)) (hk : 1 ≤ k ∧ k ≤ 31) (w : World) :
    Calls Tryz.prog 234 #[.int .u32 (wz x), .int .i64 n] w fun e w' => e = .returned (.int .u32 (wz (ror x k))) ∧ w = w' := by
  obtain ⟨m, hm⟩ : ∃ m, m = 32 - k := ⟨_, rfl⟩
  have h1 : bits .and .u64 (IntKind.u64.wrap n) 31 = (m : Int) := by
    subst hn; subst hm
    have : ∀ k : Fin 32, 1 ≤ k.1 → bits .and .u64 (IntKind.u64.wrap (-(k.1 : Int))) 31 = ((32 - k.1 : Nat) : Int) := by decide
    exact this ⟨k, by omega⟩ hk.1
  have h2 : IntKind.u64.wrap (32 - (m : Int)) = (k : Int) := by
    rw [IntKind.wrap_u64]; omega
  have h3 : min m 32 = m := by omega
  have h4 : min k 32 = k := by omega
  have m0 : (0 : Int) ≤ (m : Int) := by omega
  have k0 : (0 : Int) ≤ (k : Int) := by omega
  have HM := Lib.hid hm
  clear hm hn
  go_enter Tryz.func234, Tryz.ntmps234
  go_wp2
  go_ret
  refine ⟨?_, rfl⟩
  rw [HM.out]
  rfl
def KAt (w : World) (kb ko : Nat) : Prop := kb < w.heap.size ∧ ∀ i, i < 64 → w.cell? ⟨kb, ko + i, none⟩ = some (.int .u32 (wz (kT.getD i 0)))
def hV (v : H8) : List Value := v.l.map wv
theorem hV_get (v : H8) {i : Nat} (hi : i < 8) : (hV v)[i]? = some (wv (v.l.getD i 0)) := by
  have hl : v.l.length = 8 := rfl
  unfold hV
  rw [List.getElem?_map, List.getD_eq_getElem?_getD, List.getElem?_eq_getElem (by omega)]; rfl
set_option maxRecDepth 100000 in
set_option maxHeartbeats 16000000 in
theorem mix_calls (h : H8) (kb ko : Nat) (v : Value) (bs : List UInt8) (w : World) (hk : KAt w kb ko) (hb : Bys w v bs) (hl : bs.length = 64) :
    Calls Tryz.prog 221 #[.agg (hV h).toArray, .pointer (some ⟨kb, ko, none⟩), v] w fun e w' => e = .returned (.agg (hV (mix h bs)).toArray) ∧ Below w.heap.size w w' := by
  obtain ⟨va, vc, rfl, hc1, hc2, hrow⟩ := hb
  obtain ⟨bb, off, rfl, hcells⟩ := hrow (by omega)
  have hcell : ∀ j, j < 64 → w.cell? ⟨bb, off + j, none⟩ = some (.int .u8 ((bs.getD j 0).toNat : Int)) := fun j hj => by
    have := hcells j (bs[j]'(by omega)) (by simp)
    rw [this, List.getD_eq_getElem?_getD, List.getElem?_eq_getElem (by omega)]; rfl
  have hbl : bb < w.heap.size := World.block_lt_of_cell? w _ (hcell 0 (by decide))
  have H := Lib.hid (And.intro hk (And.intro hcell (And.intro hbl hl)))
  rw [hl] at *
  clear hk hcell hbl hc1 hc2 hrow hcells
  obtain ⟨ch, hch⟩ : ∃ q, q = hV h := ⟨_, rfl⟩
  have hchl : ch.length = 8 := by rw [hch]; rfl
  have HCH := Lib.hid hch
  rw [← hch]
  clear hch hl
  go_enter Tryz.func221, Tryz.ntmps221
  go_upto_region 3 with fail
  obtain ⟨w0, hw0⟩ : ∃ q, q = ((w.alloc (.cells ch.toArray 99)).alloc (.cells #[Value.int IntKind.u32 0, Value.int IntKind.u32 0, Value.int IntKind.u32 0, Value.int IntKind.u32 0, Value.int IntKind.u32 0, Value.int IntKind.u32 0, Value.int IntKind.u32 0, Value.int IntKind.u32 0] 99)).alloc (.cells #[Value.int IntKind.u32 0, Value.int IntKind.u32 0, Value.int IntKind.u32 0, Value.int IntKind.u32 0, Value.int IntKind.u32 0, Value.int IntKind.u32 0, Value.int IntKind.u32 0, Value.int IntKind.u32 0, Value.int IntKind.u32 0, Value.int IntKind.u32 0, Value.int IntKind.u32 0, Value.int IntKind.u32 0, Value.int IntKind.u32 0, Value.int IntKind.u32 0, Value.int IntKind.u32 0, Value.int IntKind.u32 0, Value.int IntKind.u32 0, Value.int IntKind.u32 0, Value.int IntKind.u32 0, Value.int IntKind.u32 0, Value.int IntKind.u32 0, Value.int IntKind.u32 0, Value.int IntKind.u32 0, Value.int IntKind.u32 0, Value.int IntKind.u32 0, Value.int IntKind.u32 0, Value.int IntKind.u32 0, Value.int IntKind.u32 0, Value.int IntKind.u32 0, Value.int IntKind.u32 0, Value.int IntKind.u32 0, Value.int IntKind.u32 0, Value.int IntKind.u32 0, Value.int IntKind.u32 0, Value.int IntKind.u32 0, Value.int IntKind.u32 0, Value.int IntKind.u32 0, Value.int IntKind.u32 0, Value.int IntKind.u32 0, Value.int IntKind.u32 0, Value.int IntKind.u32 0, Value.int IntKind.u32 0, Value.int IntKind.u32 0, Value.int IntKind.u32 0, Value.int IntKind.u32 0, Value.int IntKind.u32 0, Value.int IntKind.u32 0, Value.int IntKind.u32 0, Value.int IntKind.u32 0, Value.int IntKind.u32 0, Value.int IntKind.u32 0, Value.int IntKind.u32 0, Value.int IntKind.u32 0, Value.int IntKind.u32 0, Value.int IntKind.u32 0, Value.int IntKind.u32 0, Value.int IntKind.u32 0, Value.int IntKind.u32 0, Value.int IntKind.u32 0, Value.int IntKind.u32 0, Value.int IntKind.u32 0, Value.int IntKind.u32 0, Value.int IntKind.u32 0, Value.int IntKind.u32 0] 97) := ⟨_, rfl⟩
  rw [← hw0]
  have hk3 : Blk w0 w.heap.size ch.toArray 99 := by
    rw [hw0]; exact ((Blk.new w ch.toArray 99).alloc (.cells #[Value.int IntKind.u32 0, Value.int IntKind.u32 0, Value.int IntKind.u32 0, Value.int IntKind.u32 0, Value.int IntKind.u32 0, Value.int IntKind.u32 0, Value.int IntKind.u32 0, Value.int IntKind.u32 0] 99)).alloc _
  have hk6 : Blk w0 (w.heap.size + 1) #[Value.int IntKind.u32 0, Value.int IntKind.u32 0, Value.int IntKind.u32 0, Value.int IntKind.u32 0, Value.int IntKind.u32 0, Value.int IntKind.u32 0, Value.int IntKind.u32 0, Value.int IntKind.u32 0] 99 := by
    rw [hw0]; exact (Blk.new_at _ _ _ _ (by simp)).alloc _
  have hk7 : Blk w0 (w.heap.size + 1 + 1) (schA bs 0) 97 := by
    rw [hw0]; exact Blk.new_at _ _ _ _ (by simp)
  have hb0 : Below w.heap.size w w0 := by
    rw [hw0]
    have h1 : Below w.heap.size w (w.alloc (.cells ch.toArray 99)) := (Below.refl _ _).alloc (Nat.le_refl _) _
    have h2 := h1.alloc h1.size (.cells #[Value.int IntKind.u32 0, Value.int IntKind.u32 0, Value.int IntKind.u32 0, Value.int IntKind.u32 0, Value.int IntKind.u32 0, Value.int IntKind.u32 0, Value.int IntKind.u32 0, Value.int IntKind.u32 0] 99)
    exact h2.alloc h2.size _
  obtain ⟨p3, hp3⟩ : ∃ q, q = w.heap.size := ⟨_, rfl⟩
  obtain ⟨p6, hp6⟩ : ∃ q, q = w.heap.size + 1 := ⟨_, rfl⟩
  obtain ⟨p7, hp7⟩ : ∃ q, q = w.heap.size + 1 + 1 := ⟨_, rfl⟩
  have HP := Lib.hid (And.intro hp3 (And.intro hp6 hp7))
  rw [← hp7] at hk7 ⊢
  rw [← hp6] at hk6 ⊢
  rw [← hp3] at hk3 ⊢
  have HB := Lib.hid (And.intro hk3 (And.intro hk6 (And.intro hk7 hb0)))
  have hp : p3 < p6 ∧ p6 < p7 := by omega
  have hge : w.heap.size ≤ p3 ∧ w.heap.size ≤ p7 := by omega
  clear hw0 hk3 hk6 hk7 hb0 hp3 hp6 hp7
  go_loopw [23] (fun vi wr => ∃ i : Nat, i ≤ 16 ∧ vi = .int .i64 i ∧ Hid (Blk wr p3 ch.toArray 99 ∧ Blk wr p6 #[Value.int IntKind.u32 0, Value.int IntKind.u32 0, Value.int IntKind.u32 0, Value.int IntKind.u32 0, Value.int IntKind.u32 0, Value.int IntKind.u32 0, Value.int IntKind.u32 0, Value.int IntKind.u32 0] 99 ∧ Blk wr p7 (schA bs i) 97 ∧ Below w.heap.size w wr)) (fun vi _ => 16 - (intOf vi).toNat)
  case atStart => exact ⟨0, Nat.zero_le _, rfl, HB.out⟩
  case round =>
    obtain ⟨i, hi0, rfl, G⟩ := hrel
    by_cases hin : i < 16
    · have i0 : (0 : Int) ≤ (i : Int) := by omega
      have i1 : (i : Int) < 16 := by omega
      obtain ⟨q, hq⟩ : ∃ q, q = 4 * i := ⟨_, rfl⟩
      have e0 : IntKind.i64.wrap (4 * (i : Int)) = (q : Int) := by rw [IntKind.wrap_i64]; omega
      have hq1 : q ≤ 60 := by omega
      have g0 := (G.out.2.2.2.cell (p := ⟨bb, off + (q + 0), none⟩) H.out.2.2.1).trans (H.out.2.1 (q + 0) (by omega))
      obtain ⟨x0, hx0⟩ : ∃ b, b = bs.getD (q + 0) 0 := ⟨_, rfl⟩
      rw [← hx0] at g0
      have g1 := (G.out.2.2.2.cell (p := ⟨bb, off + (q + 1), none⟩) H.out.2.2.1).trans (H.out.2.1 (q + 1) (by omega))
      obtain ⟨x1, hx1⟩ : ∃ b, b = bs.getD (q + 1) 0 := ⟨_, rfl⟩
      rw [← hx1] at g1
      have g2 := (G.out.2.2.2.cell (p := ⟨bb, off + (q + 2), none⟩) H.out.2.2.1).trans (H.out.2.1 (q + 2) (by omega))
      obtain ⟨x2, hx2⟩ : ∃ b, b = bs.getD (q + 2) 0 := ⟨_, rfl⟩
      rw [← hx2] at g2
      have g3 := (G.out.2.2.2.cell (p := ⟨bb, off + (q + 3), none⟩) H.out.2.2.1).trans (H.out.2.1 (q + 3) (by omega))
      obtain ⟨x3, hx3⟩ : ∃ b, b = bs.getD (q + 3) 0 := ⟨_, rfl⟩
      rw [← hx3] at g3
      rw [Nat.add_zero] at g0
      have HW : Hid (word bs i = shl x0.toUInt32 24 ||| shl x1.toUInt32 16 ||| shl x2.toUInt32 8 ||| x3.toUInt32) := by
        show word bs i = _
        rw [hx0, hx1, hx2, hx3, hq]; rfl
      clear hx0 hx1 hx2 hx3
      obtain ⟨z, hz⟩ := schA_has bs (i := i) (j := i) (by omega) (by omega)
      have c7 : wr.cell? ⟨p7, i, none⟩ = some (.int .u32 z) := (G.out.2.2.1.cell i).trans hz
      have f7 := G.out.2.2.1.free i
      have HQ := Lib.hid (And.intro hq hz)
      clear hq hz
      go_upto_region 5 with fail
      refine Tail.wp_region_quiet_tail 35 (fun w' => ∃ n, w' = wr.drewN n) (by kernel_rfl) (by kernel_rfl) ⟨1, rfl⟩ ?_
      simp only [List.take_succ_cons, List.take_zero, List.drop_succ_cons, List.drop_zero]
      repeat (first
        | go_big_quiet_step (fail)
        | quiet_step (fail))
      refine wpQuiet_nil ?_
      intro _ hw'
      obtain ⟨d5, hw''⟩ := hw'
      subst hw''
      go_wp2_with fail
      refine ⟨⟨i + 1, by omega, by simp, ?_, ?_, ?_, ?_⟩, by show 16 - ((i : Int) + 1).toNat < 16 - (i : Int).toNat; omega⟩
      · exact (G.out.1.drewN d5).set_other (fun e => by have e' : p7 = p3 := e; omega) _
      · exact (G.out.2.1.drewN d5).set_other (fun e => by have e' : p7 = p6 := e; omega) _
      · have := (G.out.2.2.1.drewN d5).set i (.int .u32 (wz (word bs i)))
        rw [schA_set bs (by omega) _ (sch_lo bs hin), HW.out] at this
        exact this
      · exact (below_drewN G.out.2.2.2 d5).setCell hge.2 _
    · obtain rfl : i = 16 := by omega
      have HG := Lib.hid G.out
      obtain ⟨w1, hw1⟩ : ∃ q, q = wr := ⟨_, rfl⟩
      rw [← hw1] at HG ⊢
      clear hw1 G hi0 hin
      go_upto_region 8 with fail
      go_loopw [9] (fun vi wr => ∃ i : Nat, 16 ≤ i ∧ i ≤ 64 ∧ vi = .int .i64 i ∧ Hid (Blk wr p3 ch.toArray 99 ∧ Blk wr p6 #[Value.int IntKind.u32 0, Value.int IntKind.u32 0, Value.int IntKind.u32 0, Value.int IntKind.u32 0, Value.int IntKind.u32 0, Value.int IntKind.u32 0, Value.int IntKind.u32 0, Value.int IntKind.u32 0] 99 ∧ Blk wr p7 (schA bs i) 97 ∧ Below w.heap.size w wr)) (fun vi _ => 64 - (intOf vi).toNat)
      case atStart => exact ⟨16, Nat.le_refl _, by decide, rfl, HG.out⟩
      case round =>
        obtain ⟨i, hi0, hi64, rfl, G⟩ := hrel
        by_cases hin : i < 64
        · have i0 : (0 : Int) ≤ (i : Int) := by omega
          have i1 : (i : Int) < 64 := by omega
          obtain ⟨j16, hj16⟩ : ∃ j, j = i - 16 := ⟨_, rfl⟩
          have e16 : (i : Int) - 16 = (j16 : Int) := by omega
          have b16 : j16 < 64 := by omega
          have c16 : wr.cell? ⟨p7, j16, none⟩ = some (.int .u32 (wz ((sch bs i).getD j16 0))) := (G.out.2.2.1.cell j16).trans (schA_get bs (by omega))
          obtain ⟨y16, hy16⟩ : ∃ b, b = (sch bs i).getD j16 0 := ⟨_, rfl⟩
          rw [← hy16] at c16
          obtain ⟨j15, hj15⟩ : ∃ j, j = i - 15 := ⟨_, rfl⟩
          have e15 : (i : Int) - 15 = (j15 : Int) := by omega
          have b15 : j15 < 64 := by omega
          have c15 : wr.cell? ⟨p7, j15, none⟩ = some (.int .u32 (wz ((sch bs i).getD j15 0))) := (G.out.2.2.1.cell j15).trans (schA_get bs (by omega))
          obtain ⟨y15, hy15⟩ : ∃ b, b = (sch bs i).getD j15 0 := ⟨_, rfl⟩
          rw [← hy15] at c15
          obtain ⟨j7, hj7⟩ : ∃ j, j = i - 7 := ⟨_, rfl⟩
          have e7 : (i : Int) - 7 = (j7 : Int) := by omega
          have b7 : j7 < 64 := by omega
          have c7 : wr.cell? ⟨p7, j7, none⟩ = some (.int .u32 (wz ((sch bs i).getD j7 0))) := (G.out.2.2.1.cell j7).trans (schA_get bs (by omega))
          obtain ⟨y7, hy7⟩ : ∃ b, b = (sch bs i).getD j7 0 := ⟨_, rfl⟩
          rw [← hy7] at c7
          obtain ⟨j2, hj2⟩ : ∃ j, j = i - 2 := ⟨_, rfl⟩
          have e2 : (i : Int) - 2 = (j2 : Int) := by omega
          have b2 : j2 < 64 := by omega
          have c2 : wr.cell? ⟨p7, j2, none⟩ = some (.int .u32 (wz ((sch bs i).getD j2 0))) := (G.out.2.2.1.cell j2).trans (schA_get bs (by omega))
          obtain ⟨y2, hy2⟩ : ∃ b, b = (sch bs i).getD j2 0 := ⟨_, rfl⟩
          rw [← hy2] at c2
          have HN : Hid (next (sch bs i) = y16 + (ror y15 7 ^^^ ror y15 18 ^^^ shr y15 3) + y7 + (ror y2 17 ^^^ ror y2 19 ^^^ shr y2 10)) := by
            show next (sch bs i) = _
            rw [hy16, hy15, hy7, hy2, hj16, hj15, hj7, hj2]
            unfold next
            rw [sch_len]; rfl
          obtain ⟨z, hz⟩ := schA_has bs (i := i) (j := i) (by omega) (by omega)
          have c7 : wr.cell? ⟨p7, i, none⟩ = some (.int .u32 z) := (G.out.2.2.1.cell i).trans hz
          have f7 := G.out.2.2.1.free i
          clear hy16 hy15 hy7 hy2 hj16 hj15 hj7 hj2 hz
          go_upto_region 10 with fail
          go_quiet (fail)
          go_wp2_with fail
          refine (rot_calls y15 (-7) 7 rfl (by decide) _).mono ?_
          rintro e w' ⟨rfl, rfl⟩
          go_wp2_with fail
          refine (rot_calls y15 (-18) 18 rfl (by decide) _).mono ?_
          rintro e w' ⟨rfl, rfl⟩
          go_wp2_with fail
          refine (rot_calls y2 (-17) 17 rfl (by decide) _).mono ?_
          rintro e w' ⟨rfl, rfl⟩
          go_wp2_with fail
          refine (rot_calls y2 (-19) 19 rfl (by decide) _).mono ?_
          rintro e w' ⟨rfl, rfl⟩
          go_upto_region 13 with fail
          refine Tail.wp_region_quiet_tail 15 (fun w' => ∃ n, w' = (wr.drewN nq).drewN n) (by kernel_rfl) (by kernel_rfl) ⟨1, rfl⟩ ?_
          simp only [List.take_succ_cons, List.take_zero, List.drop_succ_cons, List.drop_zero]
          repeat (first
            | go_big_quiet_step (fail)
            | quiet_step (fail))
          refine wpQuiet_nil ?_
          intro _ hw'
          obtain ⟨d5, hw''⟩ := hw'
          subst hw''
          rw [World.drewN_drewN]
          generalize nq + d5 = d6
          go_wp2_with fail
          go_roundw
          case rel =>
            repeat apply Exists.intro
            refine ⟨⟨i + 1, by omega, by omega, by simp, ?_, ?_, ?_, ?_⟩, rfl⟩
            · exact (G.out.1.drewN d6).set_other (fun e => by have e' : p7 = p3 := e; omega) _
            · exact (G.out.2.1.drewN d6).set_other (fun e => by have e' : p7 = p6 := e; omega) _
            · have := (G.out.2.2.1.drewN d6).set i (.int .u32 (wz (next (sch bs i))))
              rw [schA_set bs (by omega) _ (sch_hi bs hi0), HN.out] at this
              exact this
            · exact (below_drewN G.out.2.2.2 d6).setCell hge.2 _
          case measure =>
            show 64 - ((i : Int) + 1).toNat < 64 - (i : Int).toNat
            omega
        · obtain rfl : i = 64 := by omega
          have HG := Lib.hid G.out
          have r3 : readK 8 wr p3 0 = ch := blk_read0 G.out.1 hchl
          have h3 : HasK 8 wr p3 0 := blk_has G.out.1 (by simp [hchl])
          have l3 := G.out.1.lt
          have hca : AllK 8 ch := ⟨hchl, fun v hv => by
            rw [HCH.out] at hv
            unfold hV at hv
            obtain ⟨x, _, rfl⟩ := List.mem_map.1 hv
            rfl⟩
          clear G hi0 hi64 hin
          go_upto_region 16 with fail
          have hk14 : Blk (wr.alloc (.cells ch.toArray 99)) wr.heap.size ch.toArray 99 := Blk.new _ _ _
          have h3a := HG.out.1.alloc (.cells ch.toArray 99)
          have h6a := HG.out.2.1.alloc (.cells ch.toArray 99)
          have h7a := HG.out.2.2.1.alloc (.cells ch.toArray 99)
          have hba := HG.out.2.2.2.alloc HG.out.2.2.2.size (.cells ch.toArray 99)
          have l7 := HG.out.2.2.1.lt
          have l0 := HG.out.2.2.2.size
          obtain ⟨w2, hw2⟩ : ∃ q, q = wr.alloc (.cells ch.toArray 99) := ⟨_, rfl⟩
          obtain ⟨p14, hp14⟩ : ∃ q, q = wr.heap.size := ⟨_, rfl⟩
          rw [← hw2] at hk14 h3a h6a h7a hba ⊢
          rw [← hp14] at hk14 l7 l0 ⊢
          have HD := Lib.hid (And.intro h3a (And.intro h6a (And.intro h7a (And.intro hk14 hba))))
          have hp2 : p7 < p14 := l7
          have l14 : w.heap.size ≤ p14 := l0
          clear hk14 h3a h6a h7a hba hw2 hp14 r3 h3 l3 HG
          go_loopw [106] (fun vi wr => ∃ i : Nat, i ≤ 64 ∧ vi = .int .i64 i ∧ Hid (Blk wr p3 ch.toArray 99 ∧ Blk wr p6 #[Value.int IntKind.u32 0, Value.int IntKind.u32 0, Value.int IntKind.u32 0, Value.int IntKind.u32 0, Value.int IntKind.u32 0, Value.int IntKind.u32 0, Value.int IntKind.u32 0, Value.int IntKind.u32 0] 99 ∧ Blk wr p7 (schA bs 64) 97 ∧ Blk wr p14 (hV (rnds bs h i)).toArray 99 ∧ Below w.heap.size w wr)) (fun vi _ => 64 - (intOf vi).toNat)
          case atStart => exact ⟨0, Nat.zero_le _, rfl, HD.out.1, HD.out.2.1, HD.out.2.2.1, by rw [rnds, ← HCH.out]; exact HD.out.2.2.2.1, HD.out.2.2.2.2⟩
          case round =>
            obtain ⟨i, hi0, rfl, G⟩ := hrel
            by_cases hin : i < 64
            · have i0 : (0 : Int) ≤ (i : Int) := by omega
              have i1 : (i : Int) < 64 := by omega
              obtain ⟨kk, hkk⟩ : ∃ q, q = kT.getD i 0 := ⟨_, rfl⟩
              obtain ⟨ww, hww⟩ : ∃ q, q = (sch bs 64).getD i 0 := ⟨_, rfl⟩
              have ck := (G.out.2.2.2.2.cell (p := ⟨kb, ko + i, none⟩) H.out.1.1).trans (H.out.1.2 i hin)
              have c7 := (G.out.2.2.1.cell i).trans (schA_get bs hin)
              rw [← hkk] at ck
              rw [← hww] at c7
              have hk14 := G.out.2.2.2.1
              have hv : Hid (rnds bs h (i + 1) = rnd (rnds bs h i) kk ww) := by
                show rnds bs h (i + 1) = _
                rw [rnds, ← hkk, ← hww]
              obtain ⟨vv, hvv⟩ : ∃ q, q = rnds bs h i := ⟨_, rfl⟩
              rw [← hvv] at hk14 hv
              clear hvv hkk hww
              obtain ⟨xa, xb, xc, xd, xe, xf, xg, xh⟩ := vv
              have d0 : wr.cell? ⟨p14, 0, none⟩ = some (.int .u32 (wz xa)) := hk14.cell 0
              have d1 : wr.cell? ⟨p14, 1, none⟩ = some (.int .u32 (wz xb)) := hk14.cell 1
              have d2 : wr.cell? ⟨p14, 2, none⟩ = some (.int .u32 (wz xc)) := hk14.cell 2
              have d3 : wr.cell? ⟨p14, 3, none⟩ = some (.int .u32 (wz xd)) := hk14.cell 3
              have d4 : wr.cell? ⟨p14, 4, none⟩ = some (.int .u32 (wz xe)) := hk14.cell 4
              have d5 : wr.cell? ⟨p14, 5, none⟩ = some (.int .u32 (wz xf)) := hk14.cell 5
              have d6 : wr.cell? ⟨p14, 6, none⟩ = some (.int .u32 (wz xg)) := hk14.cell 6
              have d7 : wr.cell? ⟨p14, 7, none⟩ = some (.int .u32 (wz xh)) := hk14.cell 7
              have f0 : wr.frozen? ⟨p14, 0, none⟩ = false := hk14.free 0
              have f1 : wr.frozen? ⟨p14, 1, none⟩ = false := hk14.free 1
              have f2 : wr.frozen? ⟨p14, 2, none⟩ = false := hk14.free 2
              have f3 : wr.frozen? ⟨p14, 3, none⟩ = false := hk14.free 3
              have f4 : wr.frozen? ⟨p14, 4, none⟩ = false := hk14.free 4
              have f5 : wr.frozen? ⟨p14, 5, none⟩ = false := hk14.free 5
              have f6 : wr.frozen? ⟨p14, 6, none⟩ = false := hk14.free 6
              have f7 : wr.frozen? ⟨p14, 7, none⟩ = false := hk14.free 7
              have h14 : HasK 8 wr p14 0 := blk_has hk14 (by simp [hV, H8.l])
              have HK := Lib.hid hk14
              clear hk14
              go_upto_region 18 with fail
              go_quiet (fail)
              go_wp2_with fail
              refine (rot_calls xe (-6) 6 rfl (by decide) _).mono ?_
              rintro e w' ⟨rfl, rfl⟩
              go_wp2_with fail
              refine (rot_calls xe (-11) 11 rfl (by decide) _).mono ?_
              rintro e w' ⟨rfl, rfl⟩
              go_wp2_with fail
              refine (rot_calls xe (-25) 25 rfl (by decide) _).mono ?_
              rintro e w' ⟨rfl, rfl⟩
              go_upto_region 20 with fail
              go_quiet (fail)
              go_wp2_with fail
              refine (rot_calls xa (-2) 2 rfl (by decide) _).mono ?_
              rintro e w' ⟨rfl, rfl⟩
              go_wp2_with fail
              refine (rot_calls xa (-13) 13 rfl (by decide) _).mono ?_
              rintro e w' ⟨rfl, rfl⟩
              go_wp2_with fail
              refine (rot_calls xa (-22) 22 rfl (by decide) _).mono ?_
              rintro e w' ⟨rfl, rfl⟩
              go_wp2_with fail
              go_roundw
              case rel =>
                repeat apply Exists.intro
                refine ⟨⟨i + 1, by omega, by simp, ?_, ?_, ?_, ?_, ?_⟩, rfl⟩
                · exact ((((((((G.out.1.drewN _).set_other (fun e => by have e' : p14 = p3 := e; omega) _).set_other (fun e => by have e' : p14 = p3 := e; omega) _).set_other (fun e => by have e' : p14 = p3 := e; omega) _).set_other (fun e => by have e' : p14 = p3 := e; omega) _).set_other (fun e => by have e' : p14 = p3 := e; omega) _).set_other (fun e => by have e' : p14 = p3 := e; omega) _).set_other (fun e => by have e' : p14 = p3 := e; omega) _).set_other (fun e => by have e' : p14 = p3 := e; omega) _
                · exact ((((((((G.out.2.1.drewN _).set_other (fun e => by have e' : p14 = p6 := e; omega) _).set_other (fun e => by have e' : p14 = p6 := e; omega) _).set_other (fun e => by have e' : p14 = p6 := e; omega) _).set_other (fun e => by have e' : p14 = p6 := e; omega) _).set_other (fun e => by have e' : p14 = p6 := e; omega) _).set_other (fun e => by have e' : p14 = p6 := e; omega) _).set_other (fun e => by have e' : p14 = p6 := e; omega) _).set_other (fun e => by have e' : p14 = p6 := e; omega) _
                · exact ((((((((G.out.2.2.1.drewN _).set_other (fun e => by have e' : p14 = p7 := e; omega) _).set_other (fun e => by have e' : p14 = p7 := e; omega) _).set_other (fun e => by have e' : p14 = p7 := e; omega) _).set_other (fun e => by have e' : p14 = p7 := e; omega) _).set_other (fun e => by have e' : p14 = p7 := e; omega) _).set_other (fun e => by have e' : p14 = p7 := e; omega) _).set_other (fun e => by have e' : p14 = p7 := e; omega) _).set_other (fun e => by have e' : p14 = p7 := e; omega) _
                · rw [hv.out]
                  exact ((((((((HK.out.drewN _).set 0 _).set 1 _).set 2 _).set 3 _).set 4 _).set 5 _).set 6 _).set 7 _
                · exact ((((((((below_drewN G.out.2.2.2.2 _).setCell l14 _).setCell l14 _).setCell l14 _).setCell l14 _).setCell l14 _).setCell l14 _).setCell l14 _).setCell l14 _
              case measure =>
                show 64 - ((i : Int) + 1).toNat < 64 - (i : Int).toNat
                omega
            · obtain rfl : i = 64 := by omega
              have HG := Lib.hid G.out
              clear G hi0 hin
              go_upto_region 26 with fail
              obtain ⟨vv, hvv⟩ : ∃ q, q = rnds bs h 64 := ⟨_, rfl⟩
              have HV := Lib.hid hvv
              have hg4 := HG.out.2.2.2.1
              have hg3 := HG.out.1
              rw [← hvv] at hg4
              rw [HCH.out] at hg3
              have HG2 := Lib.hid (And.intro hg3 (And.intro HG.out.2.1 (And.intro hg4 HG.out.2.2.2.2)))
              clear hvv hg4 hg3 HG
              go_loopw [190] (fun vi wr => ∃ i : Nat, i ≤ 8 ∧ vi = .int .i64 i ∧ Hid (Blk wr p3 ((addL h vv i).map wv).toArray 99 ∧ Blk wr p6 #[Value.int IntKind.u32 0, Value.int IntKind.u32 0, Value.int IntKind.u32 0, Value.int IntKind.u32 0, Value.int IntKind.u32 0, Value.int IntKind.u32 0, Value.int IntKind.u32 0, Value.int IntKind.u32 0] 99 ∧ Blk wr p14 (hV vv).toArray 99 ∧ Below w.heap.size w wr)) (fun vi _ => 8 - (intOf vi).toNat)
              case atStart => exact ⟨0, Nat.zero_le _, rfl, HG2.out⟩
              case round =>
                obtain ⟨i, hi0, rfl, G⟩ := hrel
                by_cases hin : i < 8
                · have i0 : (0 : Int) ≤ (i : Int) := by omega
                  have i1 : (i : Int) < 8 := by omega
                  obtain ⟨x, hx⟩ : ∃ x, x = h.l.getD i 0 := ⟨_, rfl⟩
                  obtain ⟨y, hy⟩ : ∃ x, x = vv.l.getD i 0 := ⟨_, rfl⟩
                  have c3 : wr.cell? ⟨p3, i, none⟩ = some (.int .u32 (wz x)) := by
                    rw [G.out.1.cell, List.getElem?_toArray, List.getElem?_map, addL_get h vv hin, ← hx]; rfl
                  have c14 : wr.cell? ⟨p14, i, none⟩ = some (.int .u32 (wz y)) := by
                    rw [G.out.2.2.1.cell, List.getElem?_toArray, hV_get vv hin, hy]; rfl
                  have f3 := G.out.1.free i
                  have hs : Hid ((addL h vv i).set i (x + y) = addL h vv (i + 1)) := by
                    show _ = _
                    rw [hx, hy]; exact addL_set h vv hin
                  clear hx hy
                  go_upto_region 28 with fail
                  refine Tail.wp_region_quiet_tail 9 (fun w' => ∃ n, w' = wr.drewN n) (by kernel_rfl) (by kernel_rfl) ⟨1, rfl⟩ ?_
                  simp only [List.take_succ_cons, List.take_zero, List.drop_succ_cons, List.drop_zero]
                  repeat (first
                    | go_big_quiet_step (fail)
                    | quiet_step (fail))
                  refine wpQuiet_nil ?_
                  intro _ hw'
                  obtain ⟨d5, hw''⟩ := hw'
                  subst hw''
                  go_wp2_with fail
                  refine ⟨⟨i + 1, by omega, by simp, ?_, ?_, ?_, ?_⟩, by show 8 - ((i : Int) + 1).toNat < 8 - (i : Int).toNat; omega⟩
                  · have := (G.out.1.drewN d5).set i (.int .u32 (wz (x + y)))
                    rw [← wv_eq, List.setIfInBounds_toArray, ← List.map_set, hs.out] at this
                    exact this
                  · exact (G.out.2.1.drewN d5).set_other (fun e => by have e' : p3 = p6 := e; omega) _
                  · exact (G.out.2.2.1.drewN d5).set_other (fun e => by have e' : p3 = p14 := e; omega) _
                  · exact (below_drewN G.out.2.2.2 d5).setCell hge.1 _
                · obtain rfl : i = 8 := by omega
                  have hg := G.out.1
                  rw [addL_8] at hg
                  have hq : addH h vv = mix h bs := by unfold mix; rw [HV.out]
                  rw [hq] at hg
                  obtain ⟨cm, hcm⟩ : ∃ q, q = hV (mix h bs) := ⟨_, rfl⟩
                  have hg' : Blk wr p3 cm.toArray 99 := by rw [hcm]; exact hg
                  have hcml : cm.length = 8 := by rw [hcm]; rfl
                  have hca2 : AllK 8 cm := ⟨hcml, fun v hv => by
                    rw [hcm] at hv
                    unfold hV at hv
                    obtain ⟨x, _, rfl⟩ := List.mem_map.1 hv
                    rfl⟩
                  have r3 : readK 8 wr p3 0 = cm := blk_read0 hg' hcml
                  have h3 : HasK 8 wr p3 0 := blk_has hg' (by simp [hcml])
                  have h6 : HasK 8 wr p6 0 := blk_has G.out.2.1 (by simp)
                  have HLD := Lib.hid (h8_stored h6 hca2)
                  have HM := Lib.hid (And.intro hcm G.out)
                  clear hg hg' hq hcm G
                  go_wp2_with fail
                  refine bodyPost_ret (v := .agg cm.toArray) (by simp [results, Tryz.results221, asAddr, HLD.out]) rfl ⟨by rw [HM.out.1], ?_⟩
                  exact (Chg.setCells (S := fun b => b = p6) (L := p6) rfl _ _ _ (Chg.of_below HM.out.2.2.2.2)).below (Nat.le_refl _) (fun k hk => by rw [hk, HP.out.2.1]; omega)
end Go.Proofs.YtclhgokchcklbaaGreatDoor
end
