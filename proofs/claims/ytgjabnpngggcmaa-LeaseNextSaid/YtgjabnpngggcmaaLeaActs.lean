/- The acts of chapter 15 as they come in. -/
import Derived.Test.YtgjabnpngggcmaaLeaEnv
import Derived.Test.YtgjabnpngggcmaaSome
namespace Go.Mem
open Go Go.ChangeShapes Go.WideShapes Go.ChangeAt Go.RowKit Gf Lea
/-- an act as it lies in memory -/
structure ActL where
  op : Int
  ix : List UInt8
  sec : List UInt8
  e : Int
  oth : List UInt8
  bs : List UInt8
structure ActLR (W : World) (cs : List Value) (a : ActL) : Prop where
  op : cs[0]? = some (.int .i64 a.op)
  opr : -9223372036854775808 ≤ a.op ∧ a.op ≤ 9223372036854775807
  ix : (cs.drop 1).take 16 = bV a.ix
  ixl : a.ix.length = 16
  l : (cs.drop 17).take 17 = encL (a.sec, a.e)
  secl : a.sec.length = 16
  er : -9223372036854775808 ≤ a.e ∧ a.e ≤ 9223372036854775807
  oth : (cs.drop 34).take 16 = bV a.oth
  othl : a.oth.length = 16
  bs : ∃ v, cs[50]? = some v ∧ Bys W v a.bs
theorem ActLR.below {w w' : World} {cs : List Value} {a : ActL} (hb : Below w.heap.size w w') (h : ActLR w cs a) : ActLR w' cs a :=
  ⟨h.op, h.opr, h.ix, h.ixl, h.l, h.secl, h.er, h.oth, h.othl, by obtain ⟨v, h1, h2⟩ := h.bs; exact ⟨v, h1, h2.below hb⟩⟩
theorem opens_lease {P : Program} {t tk ti : TypeId} {f0 f1 : Field} (ht : P.underlying t = some (.struct #[f0, f1])) {t8 : TypeId} (hk : P.underlying tk = some (.array 16 t8)) (h8 : P.underlying t8 = some (.int .u8)) (c8 : P.cellsOf t8 = 1) (ck : P.cellsOf tk = 16) (hi : P.underlying ti = some (.int .i64)) (ci : P.cellsOf ti = 1)
    (e0 : f0.type = tk) (e1 : f1.type = ti) (o0 : f0.offset = 0) (o1 : f1.offset = 16) (ct : P.cellsOf t = 17) : Opens P t (fun _ cs (s : Sec) => cs = encL s ∧ s.1.length = 16 ∧ -9223372036854775808 ≤ s.2 ∧ s.2 ≤ 9223372036854775807) := fun {_ _ W _ _ _ _ cs x} h => by
  have hl := opens_size ht h
  obtain ⟨k, r0⟩ := opens_field ht h 0 f0 rfl (by rw [e0]; exact opens_key hk h8 c8 ck)
  obtain ⟨z, r1, hr⟩ := opens_field ht h 1 f1 rfl (by rw [e1]; exact opens_i64 hi)
  rw [e0, ck, o0] at r0
  rw [e1, ci, o1] at r1
  rw [ct] at hl
  refine ⟨(k, z), ?_, r0.1, hr⟩
  have h1 : cs = cs.take 16 ++ cs.drop 16 := (List.take_append_drop 16 cs).symm
  have h2 : cs.drop 16 = [.int .i64 z] := by
    rw [← r1, List.take_of_length_le (by rw [List.length_drop]; omega)]
  unfold encL
  rw [h1, h2, ← r0.2]
  simp
theorem opens_actl {P : Program} {t tk tl ti tb t8 : TypeId} {f0 f1 f2 f3 f4 : Field} (ht : P.underlying t = some (.struct #[f0, f1, f2, f3, f4])) (hi : P.underlying ti = some (.int .i64)) (hk : P.underlying tk = some (.array 16 t8)) (h8 : P.underlying t8 = some (.int .u8)) (hb : P.underlying tb = some (.slice t8))
    (hL : Opens P tl (fun _ cs (s : Sec) => cs = encL s ∧ s.1.length = 16 ∧ -9223372036854775808 ≤ s.2 ∧ s.2 ≤ 9223372036854775807))
    (e0 : f0.type = ti) (e1 : f1.type = tk) (e2 : f2.type = tl) (e3 : f3.type = tk) (e4 : f4.type = tb) (o0 : f0.offset = 0) (o1 : f1.offset = 1) (o2 : f2.offset = 17) (o3 : f3.offset = 34) (o4 : f4.offset = 50)
    (ci : P.cellsOf ti = 1) (ck : P.cellsOf tk = 16) (cl : P.cellsOf tl = 17) (cb : P.cellsOf tb = 1) (c8 : P.cellsOf t8 = 1) : Opens P t ActLR := fun {_ _ W _ _ _ _ cs x} h => by
  obtain ⟨z0, r0, b0⟩ := opens_field ht h 0 f0 rfl (by rw [e0]; exact opens_i64 hi)
  obtain ⟨k1, l1, r1⟩ := opens_field ht h 1 f1 rfl (by rw [e1]; exact opens_key hk h8 c8 ck)
  obtain ⟨s2, r2, l2, b2⟩ := opens_field ht h 2 f2 rfl (by rw [e2]; exact hL)
  obtain ⟨k3, l3, r3⟩ := opens_field ht h 3 f3 rfl (by rw [e3]; exact opens_key hk h8 c8 ck)
  obtain ⟨bs, v, r4, hv⟩ := opens_field ht h 4 f4 rfl (by rw [e4]; exact opens_bytes hb h8 c8)
  rw [e0, ci, o0] at r0; rw [e1, ck, o1] at r1; rw [e2, cl, o2] at r2; rw [e3, ck, o3] at r3; rw [e4, cb, o4] at r4
  refine ⟨⟨z0, k1, s2.1, s2.2, k3, bs⟩, ⟨?_, b0, r1, l1, r2, l2, b2, r3, l3, v, ?_, hv⟩⟩
  · have := congrArg (fun l => l[0]?) r0
    simpa [List.getElem?_take, List.getElem?_drop] using this
  · have := congrArg (fun l => l[0]?) r4
    simpa [List.getElem?_take, List.getElem?_drop] using this
theorem ActLR.key_at {W : World} {cs : List Value} {a : ActL} {b o : Nat} (h : ActLR W cs a) (hc : ∀ j v, cs[j]? = some v → W.cell? ⟨b, o + j, none⟩ = some v) : W.rangeAt b (o + 1) (bV a.ix) := fun j v hv => by
  rw [← h.ix, List.getElem?_take] at hv
  split at hv
  · rw [List.getElem?_drop] at hv
    rw [Nat.add_assoc]
    exact hc _ _ hv
  · cases hv
theorem ActLR.lease_at {W : World} {cs : List Value} {a : ActL} {b o : Nat} (h : ActLR W cs a) (hc : ∀ j v, cs[j]? = some v → W.cell? ⟨b, o + j, none⟩ = some v) : W.rangeAt b (o + 17) (encL (a.sec, a.e)) := fun j v hv => by
  rw [← h.l, List.getElem?_take] at hv
  split at hv
  · rw [List.getElem?_drop] at hv
    rw [Nat.add_assoc]
    exact hc _ _ hv
  · cases hv
end Go.Mem
namespace Go.Proofs.Ytgjabnpngggcmaa
open Go Go.RowKit Go.Mem Gf
theorem lease_open : Opens Try.prog 28 (fun _ cs (s : Lea.Sec) => cs = Lea.encL s ∧ s.1.length = 16 ∧ -9223372036854775808 ≤ s.2 ∧ s.2 ≤ 9223372036854775807) :=
  opens_lease Try.underlying28 Try.underlying26 Try.underlying5 (by kernel_rfl) (by kernel_rfl) Try.underlying3 (by kernel_rfl) rfl rfl rfl rfl (by kernel_rfl)
theorem acts15_open : Opens Try.prog 22 (fun W cs (l : List ActL) => ∃ v, cs = [v] ∧ Sls 51 ActLR W v l) :=
  opens_slice Try.underlying22 (by kernel_rfl) (by decide)
    (opens_actl Try.underlying31 Try.underlying3 Try.underlying26 Try.underlying5 Try.underlying29 lease_open rfl rfl rfl rfl rfl rfl rfl rfl rfl rfl (by kernel_rfl) (by kernel_rfl) (by kernel_rfl) (by kernel_rfl) (by kernel_rfl))
end Go.Proofs.Ytgjabnpngggcmaa
