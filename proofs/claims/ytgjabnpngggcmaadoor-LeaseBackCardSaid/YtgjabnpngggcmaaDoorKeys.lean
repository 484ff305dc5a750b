/- Keys: arrays of bytes: their comparison, their order; blocks read in one step. -/
import Derived.Test.YtgjabnpngggcmaaDoorLongOp
import Derived.Test.YtgjabnpngggcmaaDoorAppK
import Derived.Test.YtgjabnpngggcmaaDoorBKeep
import Derived.ChangeKeysEq
import Derived.Lib.BytesEntry
import Derived.Lib.Bytealg
namespace Go.Mem
open Go Go.RowKit Gf
/-! ### blocks -/
section
variable {w : World} {b : Nat} {arr : Array Value} {t : TypeId}
theorem blk_has {n o : Nat} (h : Blk w b arr t) (hn : o + n ≤ arr.size) : HasK n w b o := fun j hj => by
  exact ⟨by rw [h.cell]; simp; omega, h.free _⟩
theorem blk_read {n o : Nat} (h : Blk w b arr t) {cs : List Value} (hn : cs.length = n) (hc : ∀ k, k < n → arr[o + k]? = cs[k]?) : readK n w b o = cs := by
  refine readK_eq (fun k v hv => ?_) hn
  rw [h.cell, hc k (by rw [← hn]; exact (List.getElem?_eq_some_iff.1 hv).1)]
  exact hv
theorem blk_read0 {n : Nat} {cs : List Value} (h : Blk w b cs.toArray t) (hn : cs.length = n) : readK n w b 0 = cs := blk_read h hn (fun k _ => by rw [Nat.zero_add]; simp)
/-- a new block, stored into -/
theorem fresh_stored (w : World) (arr : Array Value) (t : TypeId) (cs : List Value) (h : arr.size = cs.length) :
    Blk ((w.alloc (.cells arr t)).setCells w.heap.size 0 cs) w.heap.size cs.toArray t ∧ Below w.heap.size w ((w.alloc (.cells arr t)).setCells w.heap.size 0 cs) := by
  constructor
  · obtain ⟨arr', h1, h2, h3⟩ := Blk.setCells cs 0 _ _ (Blk.new w arr t)
    have e : arr' = cs.toArray := by
      apply Array.ext_getElem?
      intro k
      rcases Nat.lt_or_ge k arr.size with hk | hk
      · rw [h3 k hk, if_pos ⟨Nat.zero_le _, by omega⟩, Nat.sub_zero]; simp
      · rw [Array.getElem?_eq_none (by omega), Array.getElem?_eq_none (by simp; omega)]
    rw [← e]
    exact h1
  · exact (Chg.setCells (S := fun b => b = w.heap.size) (L := w.heap.size) rfl cs 0 _ (Chg.of_below ((Below.refl w.heap.size w).alloc (Nat.le_refl _) (.cells arr t)))).below (Nat.le_refl _) (fun k hk => by rw [hk]; exact Nat.le_refl _)
end
/-! ### comparison -/
theorem eqItems_bytes {P : Program} (w : World) (d : Nat) {e : TypeId} (he : P.underlying e = some (.int .u8)) (hc : P.cellsOf e = 1) (xs ys : List UInt8) : ∀ is : List Nat, (∀ i ∈ is, i < xs.length ∧ i < ys.length) →
    (Op.eqItems (d + 1) e (P.cellsOf e) (bV xs).toArray (bV ys).toArray is).run P w = .ok (decide (∀ i ∈ is, xs[i]? = ys[i]?)) w
  | [], _ => by simp [Op.eqItems]
  | i :: is, h => by
    obtain ⟨h1, h2⟩ := h i (by simp)
    have hp : P.plainKey e = true := by simp [Program.plainKey, he]
    have hx : xs[i]? = some xs[i] := by simp
    have hy : ys[i]? = some ys[i] := by simp
    generalize xs[i] = a at hx
    generalize ys[i] = b at hy
    have p1 := run_part_plain (P := P) w hp (xs := (bV xs).toArray) (off := i * P.cellsOf e) (v := .int .u8 (a.toNat : Int)) (by rw [hc, Nat.mul_one]; simp [bV, hx])
    have p2 := run_part_plain (P := P) w hp (xs := (bV ys).toArray) (off := i * P.cellsOf e) (v := .int .u8 (b.toNat : Int)) (by rw [hc, Nat.mul_one]; simp [bV, hy])
    have ih := eqItems_bytes w d he hc xs ys is (fun j hj => h j (by simp [hj]))
    simp only [Op.eqItems, Sem.run_bind, p1, p2, run_equalIn_int w d e .u8 .u8 _ _ he, Result.andThen_ok]
    by_cases hab : a = b
    · subst hab
      simp only [beq_self_eq_true, Bool.not_true, Bool.false_eq_true, if_false, ih]
      congr 1
      simp [hx, hy]
    · have hn : ((a.toNat : Int) == (b.toNat : Int)) = false := by
        have : a.toNat ≠ b.toNat := fun e => hab (Gf.ext e)
        simp; omega
      simp only [hn, Bool.not_false, if_true, Sem.run_pure]
      congr 1
      rw [eq_comm, decide_eq_false_iff_not]
      intro hall
      have := hall i (by simp)
      rw [hx, hy] at this
      exact hab (Option.some.inj this)
theorem run_eq_bytes {P : Program} (w : World) (d n : Nat) {t e : TypeId} {i : TypeInfo} (hu : P.underlying t = some (.array n e)) (hi : P.info? e = some i) (he : P.underlying e = some (.int .u8)) (hc : P.cellsOf e = 1) (xs ys : List UInt8) (hx : xs.length = n) (hy : ys.length = n) :
    (Op.equalIn (d + 2) t (.agg (bV xs).toArray) (.agg (bV ys).toArray)).run P w = .ok (decide (xs = ys)) w := by
  rw [show d + 2 = (d + 1) + 1 from rfl, run_equalIn_array w (d + 1) _ _ hu hi, eqItems_bytes w d he hc xs ys (List.range n) (fun i hi => by rw [List.mem_range] at hi; omega)]
  congr 1
  refine decide_eq_decide.2 ⟨?_, ?_⟩
  · intro h
    apply List.ext_getElem?
    intro k
    rcases Nat.lt_or_ge k n with hk | hk
    · exact h k (List.mem_range.2 hk)
    · rw [List.getElem?_eq_none (by omega), List.getElem?_eq_none (by omega)]
  · intro h k _
    rw [h]
/-! ### order -/
theorem cmp_refl : ∀ a : List UInt8, Go.Lib.compareBytes a a = 0
  | [] => rfl
  | x :: a => by
    unfold Go.Lib.compareBytes
    rw [if_neg (fun h => by exact absurd h (by simp)), if_neg (fun h => by exact absurd h (by simp))]
    exact cmp_refl a
theorem u8_lt (a b : UInt8) : a < b ↔ a.toNat < b.toNat := UInt8.lt_iff_toNat_lt
theorem cmp_neg : ∀ a b : List UInt8, Go.Lib.compareBytes b a = - Go.Lib.compareBytes a b
  | [], [] => rfl
  | [], _ :: _ => rfl
  | _ :: _, [] => rfl
  | x :: a, y :: b => by
    unfold Go.Lib.compareBytes
    have h1 := u8_lt x y
    have h2 := u8_lt y x
    by_cases c1 : x < y
    · have c2 : ¬ y < x := by rw [h2]; rw [h1] at c1; omega
      rw [if_neg c2, if_pos c1, if_pos c1]; rfl
    · by_cases c2 : y < x
      · rw [if_pos c2, if_neg c1, if_pos c2]
      · rw [if_neg c2, if_neg c1, if_neg c1, if_neg c2]; exact cmp_neg a b
theorem cmp_trans : ∀ a b c : List UInt8, Go.Lib.compareBytes a b ≤ 0 → Go.Lib.compareBytes b c ≤ 0 → Go.Lib.compareBytes a c ≤ 0
  | [], _, [], _, _ => by decide
  | [], _, _ :: _, _, _ => by show (-1 : Int) ≤ 0; decide
  | _ :: _, [], _, h, _ => by exact absurd (show (1 : Int) ≤ 0 from h) (by decide)
  | _ :: _, _ :: _, [], _, h => by exact absurd (show (1 : Int) ≤ 0 from h) (by decide)
  | x :: a, y :: b, z :: c, h1, h2 => by
    unfold Go.Lib.compareBytes at h1 h2 ⊢
    have e1 := u8_lt x y; have e2 := u8_lt y x; have e3 := u8_lt y z; have e4 := u8_lt z y; have e5 := u8_lt x z; have e6 := u8_lt z x
    by_cases c5 : x < z
    · rw [if_pos c5]; decide
    · rw [if_neg c5]
      have d2 : ¬ y < x := fun c => by
        have : ¬ x < y := by rw [e1]; rw [e2] at c; omega
        rw [if_neg this, if_pos c] at h1
        exact absurd h1 (by decide)
      have d4 : ¬ z < y := fun c => by
        have : ¬ y < z := by rw [e3]; rw [e4] at c; omega
        rw [if_neg this, if_pos c] at h2
        exact absurd h2 (by decide)
      have e : ¬ z < x := by rw [e6]; rw [e2] at d2; rw [e4] at d4; omega
      rw [if_neg e]
      have d1 : ¬ x < y := by rw [e1]; rw [e5] at c5; rw [e2] at d2; rw [e4] at d4; omega
      have d3 : ¬ y < z := by rw [e3]; rw [e5] at c5; rw [e2] at d2; rw [e4] at d4; omega
      rw [if_neg d1, if_neg d2] at h1
      rw [if_neg d3, if_neg d4] at h2
      exact cmp_trans a b c h1 h2
theorem cmp_eq0 : ∀ a b : List UInt8, Go.Lib.compareBytes a b = 0 → a = b
  | [], [], _ => rfl
  | [], _ :: _, h => by exact absurd (show (-1 : Int) = 0 from h) (by decide)
  | _ :: _, [], h => by exact absurd (show (1 : Int) = 0 from h) (by decide)
  | x :: a, y :: b, h => by
    unfold Go.Lib.compareBytes at h
    have e1 := u8_lt x y; have e2 := u8_lt y x
    by_cases c1 : x < y
    · rw [if_pos c1] at h; exact absurd h (by decide)
    · rw [if_neg c1] at h
      by_cases c2 : y < x
      · rw [if_pos c2] at h; exact absurd h (by decide)
      · rw [if_neg c2] at h
        have : x = y := Gf.ext (by rw [e1] at c1; rw [e2] at c2; omega)
        rw [this, cmp_eq0 a b h]
end Go.Mem
namespace Go.Proofs.YtgjabnpngggcmaaDoor
open Go Go.RowKit Go.Mem Gf
theorem bytesOf_back (bs : List UInt8) : Lib.bytesOf (bs.map fun u => (u.toNat : Int)) = bs := by
  unfold Lib.bytesOf
  rw [List.map_map]
  conv => rhs; rw [← List.map_id bs]
  apply List.map_congr_left
  intro u _
  simp
theorem run_bytesOf_bys {P : Program} {w : World} {v : Value} {bs : List UInt8} (h : Bys w v bs) : (Extern.Bytes.bytesOf v).run P w = .ok ⟨bs.toArray⟩ w := by
  obtain ⟨a, cap, rfl, h1, h2, h3⟩ := h
  cases a with
  | none =>
    have : bs = [] := by
      rcases Nat.eq_zero_or_pos bs.length with e | e
      · exact List.eq_nil_of_length_eq_zero e
      · obtain ⟨b, off, e2, _⟩ := h3 e; cases e2
    subst this
    simp [Extern.Bytes.bytesOf]
    rfl
  | some a =>
    have hl := Lib.run_loadBytesX (P := P) w (bs.map fun u => (u.toNat : Int)) a .empty (fun j x hj => by
      rw [List.getElem?_map] at hj
      obtain ⟨u, hu, rfl⟩ := Option.map_eq_some_iff.1 hj
      have hp : 0 < bs.length := by have := (List.getElem?_eq_some_iff.1 hu).1; omega
      obtain ⟨b, off, e, hc⟩ := h3 hp
      cases e
      have e2 : (⟨b, off, none⟩ : Addr).add j = ⟨b, off + j, none⟩ := by unfold Addr.add; split <;> simp_all
      rw [e2]
      exact hc j u hu)
    rw [List.length_map, bytesOf_back] at hl
    show (Extern.Bytes.loadBytes a bs.length .empty).run P w = _
    rw [hl, show ByteArray.empty.data ++ bs.toArray = bs.toArray from Array.empty_append ..]
noncomputable def cmpFn : Func := (Tryd.prog.funcs[34]?).get (by kernel_rfl)
theorem cmpFn_is : Tryd.prog.funcs[34]? = some cmpFn := (Option.some_get _).symm
set_option maxRecDepth 100000 in
/-- bytes.Compare -/
theorem bcomp_calls (va vb : Value) (xs ys : List UInt8) (w : World) (ha : Bys w va xs) (hb : Bys w vb ys) :
    Calls Tryd.prog 21 #[va, vb] w fun e w' => e = .returned (.int .i64 (Go.Lib.compareBytes xs ys)) ∧ w' = w := by
  have h1 := run_bytesOf_bys (P := Tryd.prog) ha
  have h2 := run_bytesOf_bys (P := Tryd.prog) hb
  have hx : (callFunc 34 #[va, vb]).run Tryd.prog w = .ok (.value (.int .i64 (Go.Lib.compareBytes xs ys))) w := by
    rw [run_callFunc_extern cmpFn_is (by kernel_rfl) (by kernel_rfl) (by kernel_rfl) (e := Extern.BytealgCompare.compare) (by kernel_rfl)]
    change ((do pure (goInt (Extern.BytealgCompare.cmp (← Extern.Bytes.bytesOf va) (← Extern.Bytes.bytesOf vb))) : Sem Value).run Tryd.prog w).andThen _ = _
    simp only [Sem.run_bind, h1, h2, Sem.run_pure, Result.andThen_ok]
    rw [Lib.cmp_eq]
    rfl
  clear ha hb h1 h2
  go_enter Tryd.func21, Tryd.ntmps21
  go_wp2_with fail
  go_ret
  exact ⟨rfl, rfl⟩
end Go.Proofs.YtgjabnpngggcmaaDoor
