/- Walks of the helps of the statements: numbers within, bytes that are cut, compared, lent, spoilt, looked at. -/
import Derived.Test.YtgjabnpngggcmaaDoorProg
import Derived.Test.YtgjabnpngggcmaaDoorApp
import Derived.Test.YtgjabnpngggcmaaDoorMatChg
import Derived.Outline
import Derived.Deep.QuietTactic
import Derived.BigQuiet
import Derived.Lib.Hide
import Derived.Laws.CopyOwn
import Derived.Deep.AppendLies
import Derived.Deep.RegionHeld3
import Derived.Deep.DrawnRows
import Derived.RegionTactic
import Derived.Deep.DeepCutAuto
import Derived.Deep.CutBlock
import Derived.ChangeAlike
import Derived.WalkLawsBesides
namespace Go.Mem
open Go Go.RowKit Gf
theorem make_bytes2 {P : Program} (t e : TypeId) (ht : P.underlying t = some (.slice e)) (hi : (P.info? e).map (fun i => (i.zero, i.size, i.bytes)) = some (some (.int .u8 0), 1, 1))
    (n c : Nat) (z : Int) (hz : z = (c : Int)) (hn : n ≤ c) (hc : c ≤ 140737488355328) (w : World) :
    (Instr.makeSlice t (.int .i64 (n : Int)) (.int .i64 z)).run P w = .ok (.slice (some ⟨w.heap.size, 0, none⟩) n c) (w.alloc (.cells (Array.replicate c (.int .u8 0)) e)) := by
  subst hz
  obtain ⟨i, hi, hz, hs, hb⟩ := info_parts hi
  have := run_make (P := P) w t e i (.int .u8 0) ht hi hz .i64 .i64 n c (by omega) (by omega) (by rw [hb]; omega) (by omega)
  rw [hs] at this
  simp only [Int.toNat_natCast, Nat.mul_one, Value.cells, madeCells_bytes] at this
  exact this
/-- bytes are copied over the first ones of a row that is known whole -/
theorem copy_row {P : Program} {w : World} {ops : Array Oper} {rest : List Oper} {o : Oper} {a : Act} {Q : Exit → Act → World → Prop} (hgd : o.guard = none) (d s : Operand) (dT sT : TypeId)
    (ho : o.op = .call { callee := .builtin .copy, args := #[d, s], argTypes := #[dT, sT] }) (elem : TypeId) (hu : P.underlying dT = some (.slice elem)) (hsz : (P.info? elem).map (·.size) = some 1)
    {g N dl dc : Nat} {f : Nat → UInt8} {t : TypeId} {sv : Value} {bs : List UInt8} (hd : a.eval d = .slice (some ⟨g, 0, none⟩) dl dc) (hs : a.eval s = sv) (hB : Blk w g (rowArr N f) t) (hb : Bys w sv bs) (h1 : bs.length ≤ dl) (h2 : dl ≤ N)
    (h : ∀ w', Blk w' g (rowArr N fun i => if i < bs.length then bs.getD i 0 else f i) t → Below g w w' → wpList P ops Q rest (a.put o.dst (goInt bs.length)) w') : wpList P ops Q (o :: rest) a w := by
  obtain ⟨sp, sc, rfl, hc1, hc2, hcell⟩ := hb
  have hlen : (bV bs).length = bs.length := bV_len bs
  have hN : (rowArr N f).toList.length = N := by simp [rowArr_size]
  refine wpList_copy_splice hgd d s dT sT ho elem hu hsz (some ⟨g, 0, none⟩) sp dl dc bs.length sc hd hs g 0 (rowArr N f).toList t hB (bV bs) (by rw [hlen]; exact (Nat.min_eq_left h1).symm)
    (fun hp => ⟨rfl, ?_⟩) (by rw [hlen, hN]; omega) (bV_one bs) g w (Below.refl _ _) (Nat.le_refl _) fun w' hg hbel => ?_
  · rw [hlen] at hp
    obtain ⟨b, off, e, hc⟩ := hcell hp
    refine ⟨_, e, fun j v hj => ?_⟩
    rw [bV_get] at hj
    cases hu' : bs[j]? with
    | none => rw [hu'] at hj; cases hj
    | some u =>
      rw [hu'] at hj
      rw [show (⟨b, off, none⟩ : Addr).add j = ⟨b, off + j, none⟩ from by
        unfold Addr.add
        split
        · subst_vars; rfl
        · rfl]
      rw [hc j u hu']
      simpa using hj
  · rw [hlen]
    refine h w' ?_ hbel
    have e : (splice (rowArr N f).toList 0 (bV bs)).toArray = rowArr N fun i => if i < bs.length then bs.getD i 0 else f i := by
      apply Array.ext_getElem?
      intro i
      simp only [splice, List.take_zero, List.nil_append, Nat.zero_add, hlen, List.getElem?_toArray]
      rcases Nat.lt_or_ge i bs.length with hi | hi
      · rw [List.getElem?_append_left (by rw [hlen]; exact hi), bV_get, rowArr_get _ _ _ (by omega)]
        simp [hi, List.getD_eq_getElem?_getD]
      · rw [List.getElem?_append_right (by rw [hlen]; exact hi), hlen, List.getElem?_drop, show bs.length + (i - bs.length) = i from by omega]
        rcases Nat.lt_or_ge i N with hiN | hiN
        · rw [rowArr_get _ _ _ hiN]
          have := rowArr_get N f i hiN
          simp only [if_neg (Nat.not_lt.2 hi)]
          simpa using this
        · rw [Array.getElem?_eq_none (by rw [rowArr_size]; exact hiN)]
          exact List.getElem?_eq_none (by rw [hN]; exact hiN)
    have hg' := hg.out
    rw [e] at hg'
    exact hg'
theorem list_rowZ (r : List UInt8) : r = rowL r.length (fun k => r.getD k 0) := by
  apply List.ext_getElem?
  intro i
  by_cases h : i < r.length
  · rw [rowL_get _ _ _ h, List.getD_eq_getElem?_getD, List.getElem?_eq_getElem h]; rfl
  · rw [List.getElem?_eq_none (by omega), List.getElem?_eq_none (by rw [rowL_len]; omega)]
/-- worlds that follow each other, each leaving all that there was -/
def Aft (w w' : World) : Prop := Below w.heap.size w w'
theorem Aft.refl (w : World) : Aft w w := Below.refl _ _
theorem Aft.trans {w w' w'' : World} (h : Aft w w') (h' : Aft w' w'') : Aft w w'' :=
  Below.trans h (Below.mono h' (Below.size h))
theorem Aft.drewN {w w' : World} (h : Aft w w') (n : Nat) : Aft w (w'.drewN n) := below_drewN h n
end Go.Mem
namespace Go.Proofs.YtgjabnpngggcmaaDoor
open Go Go.RowKit Go.Mem Gf
theorem bits_xor_u8 (a b : Nat) (ha : a < 256) (hb : b < 256) : bits .xor .u8 a b = ((a ^^^ b : Nat) : Int) := by
  have h1 : a % 2 ^ IntKind.bits .u8 = a := Nat.mod_eq_of_lt ha
  have h2 : b % 2 ^ IntKind.bits .u8 = b := Nat.mod_eq_of_lt hb
  simp only [bits, BitVec.ofInt_natCast, BitVec.toNat_xor, BitVec.toNat_ofNat, h1, h2]
  exact wraps_u8 _ (Int.natCast_nonneg _) (by have := xor_lt a b ha hb; omega)
theorem ret_int {k : IntKind} {a b : Int} (h : a = b) : Ending.returned (.int k a) = .returned (.int k b) := by rw [h]
theorem quiet_eq {P : Program} {f : FuncId} {args : Array Value} {w : World} {n : Nat} {v : Value}
    (h : Calls P f args (w.drewN n) fun e w' => e = .returned v ∧ w.drewN n = w') : Calls P f args (w.drewN n) fun e w'' => e = .returned v ∧ ∃ m, w'' = w.drewN m :=
  h.mono fun _ _ ⟨he, hm⟩ => ⟨he, n, hm.symm⟩

/-- what Within answers -/
def within (v n : Int) : Int := if n < 1 then 0 else v % n
theorem within_range (v n : Int) (h : 1 ≤ n) : 0 ≤ within v n ∧ within v n < n := by
  rw [within, if_neg (by omega)]
  exact ⟨Int.emod_nonneg _ (by omega), Int.emod_lt_of_pos _ (by omega)⟩
theorem within_tmod (v n : Int) (h : 1 ≤ n) : within v n = if v.tmod n < 0 then v.tmod n + n else v.tmod n := by
  rw [within, if_neg (by omega), Int.tmod_eq_emod]
  have h1 := Int.emod_nonneg v (show n ≠ 0 by omega)
  have h2 := Int.emod_lt_of_pos v (show 0 < n by omega)
  split <;> split <;> omega

theorem take_snoc_eq {α : Type} {xs ys : List α} {i : Nat} {u v : α} (h : xs.take i = ys.take i) (hu : xs[i]? = some u) (hv : ys[i]? = some v) (e : u = v) : xs.take (i + 1) = ys.take (i + 1) := by
  rw [List.take_add_one, List.take_add_one, h, hu, hv, e]

theorem E8k : (Tryd.prog.info? 5).map (fun i => (i.zero, i.size, i.bytes)) = some (some (.int .u8 0), 1, 1) := by kernel_rfl
theorem E8s : (Tryd.prog.info? 5).map (·.size) = some 1 := by kernel_rfl
/-- what lies in lent bytes, and behind them -/
def lendF (bs : List UInt8) : Nat → UInt8 := fun i => if i < bs.length then bs.getD i 0 else 85
/-- lent bytes lie in block g -/
def Lent (w : World) (g : Nat) (bs : List UInt8) : Prop := Blk w g (rowArr (bs.length + 3) (lendF bs)) 5
theorem Lent.bys {w : World} {g : Nat} {bs : List UInt8} (h : Lent w g bs) (hl : bs.length ≤ 1000000) : Bys w (.slice (some ⟨g, 0, none⟩) bs.length (bs.length + 3)) bs :=
  ⟨_, bs.length + 3, rfl, by omega, by unfold maxLen; omega, fun _ => ⟨g, 0, rfl, fun i u hi => by
    have hil : i < bs.length := by
      rcases Nat.lt_or_ge i bs.length with h | h
      · exact h
      · rw [List.getElem?_eq_none h] at hi; cases hi
    rw [Nat.zero_add, (show Blk w g _ _ from h).cell, rowArr_get _ _ _ (by omega)]
    have e : lendF bs i = u := by unfold lendF; rw [if_pos hil, List.getD_eq_getElem?_getD, hi]; rfl
    rw [e]⟩⟩

end Go.Proofs.YtgjabnpngggcmaaDoor
