/- Walks of the helps of the statements: numbers within, bytes that are cut, compared, lent, spoilt, looked at. -/
import Derived.Test.YtofhbmdhenjmeaaProg
import Derived.Test.YtofhbmdhenjmeaaApp
import Derived.Test.YtofhbmdhenjmeaaMatChg
import Derived.Outline
import Derived.Deep.QuietTactic
import Derived.BigQuiet
import Derived.Lib.Hide
import Derived.Laws.CopyOwn
import Derived.Deep.AppendLies
import Derived.Deep.RegionHeld3
import Derived.Deep.DrawnRows
import Derived.RegionTactic
import Derived.Deep.DeepCutAuto
import Derived.Deep.CutBlock
import Derived.ChangeAlike
import Derived.WalkLawsBesides
namespace Go.Mem
open Go Go.RowKit Gf
theorem make_bytes2 {P : Program} (t e : TypeId) (ht : P.underlying t = some (.slice e)) (hi : (P.info? e).map (fun i => (i.zero, i.size, i.bytes)) = some (some (.int .u8 0), 1, 1))
    (n c : Nat) (z : Int) (hz : z = (c : Int)) (hn : n ≤ c) (hc : c ≤ 140737488355328) (w : World) :
    (Instr.makeSlice t (.int .i64 (n : Int)) (.int .i64 z)).run P w = .ok (.slice (some ⟨w.heap.size, 0, none⟩) n c) (w.alloc (.cells (Array.replicate c (.int .u8 0)) e)) := by
  subst hz
  obtain ⟨i, hi, hz, hs, hb⟩ := info_parts hi
  have := run_make (P := P) w t e i (.int .u8 0) ht hi hz .i64 .i64 n c (by omega) (by omega) (by rw [hb]; omega) (by omega)
  rw [hs] at this
  simp only [Int.toNat_natCast, Nat.mul_one, Value.cells, madeCells_bytes] at this
  exact this
/-- bytes are copied over the first ones of a row that is known whole -/
theorem copy_row {P : Program} {w : World} {ops : Array Oper} {rest : List Oper} {o : Oper} {a : Act} {Q : Exit → Act → World → Prop} (hgd : o.guard = none) (d s : Operand) (dT sT : TypeId)
    (ho : o.op = .call { callee := .builtin .copy, args := #[d, s], argTypes := #[dT, sT] }) (elem : TypeId) (hu : P.underlying dT = some (.slice elem)) (hsz : (P.info? elem).map (·.size) = some 1)
    {g N dl dc : Nat} {f : Nat → UInt8} {t : TypeId} {sv : Value} {bs : List UInt8} (hd : a.eval d = .slice (some ⟨g, 0, none⟩) dl dc) (hs : a.eval s = sv) (hB : Blk w g (rowArr N f) t) (hb : Bys w sv bs) (h1 : bs.length ≤ dl) (h2 : dl ≤ N)
    (h : ∀ w', Blk w' g (rowArr N fun i => if i < bs.length then bs.getD i 0 else f i) t → Below g w w' → wpList P ops Q rest (a.put o.dst (goInt bs.length)) w') : wpList P ops Q (o :: rest) a w := by
  obtain ⟨sp, sc, rfl, hc1, hc2, hcell⟩ := hb
  have hlen : (bV bs).length = bs.length := bV_len bs
  have hN : (rowArr N f).toList.length = N := by simp [rowArr_size]
  refine wpList_copy_splice hgd d s dT sT ho elem hu hsz (some ⟨g, 0, none⟩) sp dl dc bs.length sc hd hs g 0 (rowArr N f).toList t hB (bV bs) (by rw [hlen]; exact (Nat.min_eq_left h1).symm)
    (fun hp => ⟨rfl, ?_⟩) (by rw [hlen, hN]; omega) (bV_one bs) g w (Below.refl _ _) (Nat.le_refl _) fun w' hg hbel => ?_
  · rw [hlen] at hp
    obtain ⟨b, off, e, hc⟩ := hcell hp
    refine ⟨_, e, fun j v hj => ?_⟩
    rw [bV_get] at hj
    cases hu' : bs[j]? with
    | none => rw [hu'] at hj; cases hj
    | some u =>
      rw [hu'] at hj
      rw [show (⟨b, off, none⟩ : Addr).add j = ⟨b, off + j, none⟩ from by
        unfold Addr.add
        split
        · subst_vars; rfl
        · rfl]
      rw [hc j u hu']
      simpa using hj
  · rw [hlen]
    refine h w' ?_ hbel
    have e : (splice (rowArr N f).toList 0 (bV bs)).toArray = rowArr N fun i => if i < bs.length then bs.getD i 0 else f i := by
      apply Array.ext_getElem?
      intro i
      simp only [splice, List.take_zero, List.nil_append, Nat.zero_add, hlen, List.getElem?_toArray]
      rcases Nat.lt_or_ge i bs.length with hi | hi
      · rw [List.getElem?_append_left (by rw [hlen]; exact hi), bV_get, rowArr_get _ _ _ (by omega)]
        simp [hi, List.getD_eq_getElem?_getD]
      · rw [List.getElem?_append_right (by rw [hlen]; exact hi), hlen, List.getElem?_drop, show bs.length + (i - bs.length) = i from by omega]
        rcases Nat.lt_or_ge i N with hiN | hiN
        · rw [rowArr_get _ _ _ hiN]
          have := rowArr_get N f i hiN
          simp only [if_neg (Nat.not_lt.2 hi)]
          simpa using this
        · rw [Array.getElem?_eq_none (by rw [rowArr_size]; exact hiN)]
          exact List.getElem?_eq_none (by rw [hN]; exact hiN)
    have hg' := hg.out
    rw [e] at hg'
    exact hg'
theorem list_rowZ (r : List UInt8) : r = rowL r.length (fun k => r.getD k 0) := by
  apply List.ext_getElem?
  intro i
  by_cases h : i < r.length
  · rw [rowL_get _ _ _ h, List.getD_eq_getElem?_getD, List.getElem?_eq_getElem h]; rfl
  · rw [List.getElem?_eq_none (by omega), List.getElem?_eq_none (by rw [rowL_len]; omega)]
/-- worlds that follow each other, each leaving all that there was -/
def Aft (w w' : World) : Prop := Below w.heap.size w w'
theorem Aft.refl (w : World) : Aft w w := Below.refl _ _
theorem Aft.trans {w w' w'' : World} (h : Aft w w') (h' : Aft w' w'') : Aft w w'' :=
  Below.trans h (Below.mono h' (Below.size h))
theorem Aft.drewN {w w' : World} (h : Aft w w') (n : Nat) : Aft w (w'.drewN n) := below_drewN h n
end Go.Mem
namespace Go.Proofs.Ytofhbmdhenjmeaa
open Go Go.RowKit Go.Mem Gf
theorem bits_xor_u8 (a b : Nat) (ha : a < 256) (hb : b < 256) : bits .xor .u8 a b = ((a ^^^ b : Nat) : Int) := by
  have h1 : a % 2 ^ IntKind.bits .u8 = a := Nat.mod_eq_of_lt ha
  have h2 : b % 2 ^ IntKind.bits .u8 = b := Nat.mod_eq_of_lt hb
  simp only [bits, BitVec.ofInt_natCast, BitVec.toNat_xor, BitVec.toNat_ofNat, h1, h2]
  exact wraps_u8 _ (Int.natCast_nonneg _) (by have := xor_lt a b ha hb; omega)
theorem ret_int {k : IntKind} {a b : Int} (h : a = b) : Ending.returned (.int k a) = .returned (.int k b) := by rw [h]
theorem quiet_eq {P : Program} {f : FuncId} {args : Array Value} {w : World} {n : Nat} {v : Value}
    (h : Calls P f args (w.drewN n) fun e w' => e = .returned v ∧ w.drewN n = w') : Calls P f args (w.drewN n) fun e w'' => e = .returned v ∧ ∃ m, w'' = w.drewN m :=
  h.mono fun _ _ ⟨he, hm⟩ => ⟨he, n, hm.symm⟩

/-- what Within answers -/
def within (v n : Int) : Int := if n < 1 then 0 else v % n
theorem within_range (v n : Int) (h : 1 ≤ n) : 0 ≤ within v n ∧ within v n < n := by
  rw [within, if_neg (by omega)]
  exact ⟨Int.emod_nonneg _ (by omega), Int.emod_lt_of_pos _ (by omega)⟩
theorem within_tmod (v n : Int) (h : 1 ≤ n) : within v n = if v.tmod n < 0 then v.tmod n + n else v.tmod n := by
  rw [within, if_neg (by omega), Int.tmod_eq_emod]
  have h1 := Int.emod_nonneg v (show n ≠ 0 by omega)
  have h2 := Int.emod_lt_of_pos v (show 0 < n by omega)
  split <;> split <;> omega

set_option maxHeartbeats 400000 in
theorem within_calls (v n : Int) (h : 1 ≤ n) (hn : n ≤ 9223372036854775807) (w : World) :
    Calls Try.prog 6 #[.int .i64 v, .int .i64 n] w fun e w' => e = .returned (.int .i64 (within v n)) ∧ w = w' := by
  have h1 : v.tmod n < n := Int.tmod_lt_of_pos v (by omega)
  have h2 : -n < v.tmod n := Int.lt_tmod_of_pos v (by omega)
  have h0 : n ≠ 0 := by omega
  have t0 : (n == 0) = false := by simp; omega
  have H := Lib.hid (within_tmod v n h)
  by_cases hneg : v.tmod n < 0
  · go_enter Try.func6, Try.ntmps6
    go_wp2
    go_ret
    exact ⟨ret_int (by rw [H.out, if_pos hneg]), rfl⟩
  · go_enter Try.func6, Try.ntmps6
    go_wp2
    go_ret
    exact ⟨ret_int (by rw [H.out, if_neg (by omega)]), rfl⟩
set_option maxHeartbeats 1000000 in
theorem cut8_at (a : Option Addr) (l cap n m : Nat) (w : World) (h1 : l ≤ cap) (h2 : cap ≤ maxLen) (hm : m = min l n) :
    Calls Try.prog 15 #[.slice a l cap, .int .i64 n] w fun e w' => e = .returned (.slice a m cap) ∧ w = w' := by
  have hl : l ≤ 9223372036854775807 := by unfold maxLen at h2; omega
  have H2 := Lib.hid h2; clear h2
  by_cases hlt : n < l
  · obtain rfl : m = n := by omega
    clear hm
    go_enter Try.func15, Try.ntmps15
    go_wp2
    go_ret
    exact ⟨rfl, rfl⟩
  · obtain rfl : m = l := by omega
    clear hm
    go_enter Try.func15, Try.ntmps15
    go_wp2
    go_ret
    exact ⟨rfl, rfl⟩

set_option maxHeartbeats 1000000 in
theorem cut8_calls (v : Value) (bs : List UInt8) (n : Nat) (w : World) (h : Bys w v bs) :
    Calls Try.prog 15 #[v, .int .i64 n] w fun e w' => (∃ v', e = .returned v' ∧ Bys w v' (bs.take n)) ∧ w = w' := by
  have hl := h.len
  obtain ⟨a, cap, rfl, h1, h2, h3⟩ := id h
  obtain ⟨l, hl'⟩ : ∃ l, l = bs.length := ⟨_, rfl⟩
  rw [← hl'] at hl h h1 ⊢
  have Hl := Lib.hid hl'; have H3 := Lib.hid h3; have H2 := Lib.hid h2; clear hl' h3 h2
  by_cases hlt : n < l
  · go_enter Try.func15, Try.ntmps15
    go_wp2
    go_ret
    exact ⟨⟨_, rfl, h.take n (by have := Hl.out; omega)⟩, rfl⟩
  · go_enter Try.func15, Try.ntmps15
    go_wp2
    go_ret
    exact ⟨⟨_, rfl, by rw [List.take_of_length_le (by have := Hl.out; omega)]; exact h⟩, rfl⟩
theorem take_snoc_eq {α : Type} {xs ys : List α} {i : Nat} {u v : α} (h : xs.take i = ys.take i) (hu : xs[i]? = some u) (hv : ys[i]? = some v) (e : u = v) : xs.take (i + 1) = ys.take (i + 1) := by
  rw [List.take_add_one, List.take_add_one, h, hu, hv, e]

set_option maxRecDepth 20000 in
set_option maxHeartbeats 1000000 in
theorem same8_calls (va vb : Value) (xs ys : List UInt8) (w : World) (ha : Bys w va xs) (hb : Bys w vb ys) :
    Calls Try.prog 16 #[va, vb] w fun e w' => e = .returned (.bool (decide (xs = ys))) ∧ ∃ n, w' = w.drewN n := by
  have hla := ha.len
  have hlb := hb.len
  obtain ⟨aa, ca, rfl, hx⟩ := id ha
  clear hx
  obtain ⟨ab, cb, rfl, hx⟩ := id hb
  clear hx
  obtain ⟨la, hla'⟩ : ∃ n, n = xs.length := ⟨_, rfl⟩
  obtain ⟨lb, hlb'⟩ : ∃ n, n = ys.length := ⟨_, rfl⟩
  rw [← hla'] at hla ha ⊢
  rw [← hlb'] at hlb hb ⊢
  have Hla := Lib.hid hla'; have Hlb := Lib.hid hlb'; clear hla' hlb'
  by_cases hl : la = lb
  · subst hl
    go_enter Try.func16, Try.ntmps16
    go_wp2_with fail
    go_loopw [5] (fun v wr => ∃ i : Nat, i ≤ la ∧ v = .int .i64 i ∧ Rd w wr ∧ xs.take i = ys.take i) (fun v _ => la - (intOf v).toNat)
    case atStart => exact ⟨0, by omega, rfl, Rd.refl _, rfl⟩
    case round =>
      obtain ⟨i, hi, rfl, hrd, ht⟩ := hrel
      have Ht := Lib.hid ht; clear ht
      by_cases h0 : i < la
      · obtain ⟨b1, o1, u, rfl, Hu, c1, hu⟩ := (hrd.bys ha).at i (by have := Hla.out; omega)
        obtain ⟨b2, o2, v, rfl, Hv, c2, hv⟩ := (hrd.bys hb).at i (by have := Hlb.out; omega)
        by_cases huv : u = v
        · have t : (((u.toNat : Nat) : Int) != ((v.toNat : Nat) : Int)) = false := by rw [huv]; simp
          have Hs := Lib.hid (take_snoc_eq Ht.out Hu.out Hv.out huv); clear huv
          go_wp2_with fail
          go_quiet (fail)
          go_wp2
          exact ⟨⟨i + 1, by omega, by go_num, hrd.more _, Hs.out⟩, by simp [intOf]; omega⟩
        · have t : (((u.toNat : Nat) : Int) != ((v.toNat : Nat) : Int)) = true := by
            have : u.toNat ≠ v.toNat := fun e => huv (Gf.ext e)
            simp; omega
          have Hs : Hid (xs ≠ ys) := fun e => huv (by have h1 := Hu.out; have h2 := Hv.out; rw [e, h2] at h1; exact (Option.some.inj h1).symm)
          clear huv
          go_wp2_with fail
          go_quiet (fail)
          go_wp2
          go_ret
          exact ⟨by rw [decide_eq_false Hs.out]; rfl, hrd.more _⟩
      · obtain rfl : i = la := by omega
        have He : Hid (xs = ys) := by
          have h1 := Ht.out; have h2 := Hla.out; have h3 := Hlb.out
          rw [List.take_of_length_le (by omega), List.take_of_length_le (by omega)] at h1
          exact h1
        go_wp2
        go_ret
        exact ⟨by rw [decide_eq_true He.out]; rfl, hrd⟩
  · have t : ((la : Int) != (lb : Int)) = true := by simp; omega
    have t2 : (la != lb) = true := by simp; omega
    have He : Hid (xs ≠ ys) := fun e => hl (by rw [Hla.out, Hlb.out, e])
    clear hl
    go_enter Try.func16, Try.ntmps16
    go_wp2
    go_ret
    exact ⟨by rw [decide_eq_false He.out]; rfl, 0, rfl⟩

theorem same8_yes (va vb : Value) (xs ys : List UInt8) (w : World) (ha : Bys w va xs) (hb : Bys w vb ys) (h : xs = ys) :
    Calls Try.prog 16 #[va, vb] w fun e w' => e = .returned (.bool true) ∧ ∃ n, w' = w.drewN n := by
  have := same8_calls va vb xs ys w ha hb
  rw [decide_eq_true h] at this; exact this
theorem E8k : (Try.prog.info? 5).map (fun i => (i.zero, i.size, i.bytes)) = some (some (.int .u8 0), 1, 1) := by kernel_rfl
theorem E8s : (Try.prog.info? 5).map (·.size) = some 1 := by kernel_rfl
/-- what lies in lent bytes, and behind them -/
def lendF (bs : List UInt8) : Nat → UInt8 := fun i => if i < bs.length then bs.getD i 0 else 85
/-- lent bytes lie in block g -/
def Lent (w : World) (g : Nat) (bs : List UInt8) : Prop := Blk w g (rowArr (bs.length + 3) (lendF bs)) 5
theorem Lent.bys {w : World} {g : Nat} {bs : List UInt8} (h : Lent w g bs) (hl : bs.length ≤ 1000000) : Bys w (.slice (some ⟨g, 0, none⟩) bs.length (bs.length + 3)) bs :=
  ⟨_, bs.length + 3, rfl, by omega, by unfold maxLen; omega, fun _ => ⟨g, 0, rfl, fun i u hi => by
    have hil : i < bs.length := by
      rcases Nat.lt_or_ge i bs.length with h | h
      · exact h
      · rw [List.getElem?_eq_none h] at hi; cases hi
    rw [Nat.zero_add, (show Blk w g _ _ from h).cell, rowArr_get _ _ _ (by omega)]
    have e : lendF bs i = u := by unfold lendF; rw [if_pos hil, List.getD_eq_getElem?_getD, hi]; rfl
    rw [e]⟩⟩

set_option maxRecDepth 20000 in
set_option maxHeartbeats 1000000 in
theorem lend_calls (v : Value) (bs : List UInt8) (w : World) (h : Bys w v bs) (hl : bs.length ≤ 1000000) :
    Calls Try.prog 28 #[v] w fun e w' => ∃ g, e = .returned (.slice (some ⟨g, 0, none⟩) bs.length (bs.length + 3)) ∧ w.heap.size ≤ g ∧ Lent w' g bs ∧ Below w.heap.size w w' := by
  obtain ⟨a, cap, rfl⟩ := h.eq_slice
  have hmk := fun (w : World) => make_bytes2 (P := Try.prog) 27 5 Try.underlying27 E8k bs.length (bs.length + 3) ((bs.length : Int) + 3) (by simp) (by omega) (by omega) w
  obtain ⟨n, hn⟩ : ∃ n, n = bs.length := ⟨_, rfl⟩
  rw [← hn] at hmk hl ⊢
  have h' := h
  rw [← hn] at h'
  have Hn := Lib.hid hn
  clear hn
  have hB0 : Blk (w.alloc (.cells (Array.replicate (n + 3) (.int .u8 0)) 5)) w.heap.size (rowArr (n + 3) fun _ => 0) 5 := by rw [← rowArr_zero]; exact Blk.new _ _ _
  have HB0 := Lib.hid hB0
  have hb0 : Below w.heap.size w (w.alloc (.cells (Array.replicate (n + 3) (.int .u8 0)) 5)) := (Below.refl _ _).alloc (Nat.le_refl _) _
  have hs := h'.below hb0
  clear hB0 h h'
  go_enter Try.func28, Try.ntmps28
  go_wp2_with (refine copy_row (o := ⟨some 14, _, _, _, _, _⟩) rfl (.tmp 12) (.tmp 13) 27 27 rfl 5 Try.underlying27 E8s rfl rfl HB0.out hs ?c1 ?c2 ?_)
  case c1 => have := Hn.out; omega
  case c2 => omega
  intro w1 hB1 hb1
  have hb1 : Below w.heap.size w w1 := hb0.trans hb1
  go_wp2_with fail
  go_loopw [5] (fun v wr => ∃ i : Nat, n ≤ i ∧ i ≤ n + 3 ∧ v = .int .i64 i ∧ Blk wr w.heap.size (rowArr (n + 3) fun j => if j < i then lendF bs j else 0) 5 ∧ Below w.heap.size w wr) (fun v _ => n + 3 - (intOf v).toNat)
  case atStart => exact ⟨n, by omega, by omega, rfl, by
    rw [← rowArr_congr (m := n + 3) (f := fun i => if i < bs.length then bs.getD i 0 else 0) (fun j _ => by rw [← Hn.out]; by_cases e : j < n <;> simp [e, lendF, ← Hn.out])]
    exact hB1, hb1⟩
  case round =>
    clear hB1 hb1
    obtain ⟨i, hi1, hi2, rfl, hx, hbel⟩ := hrel
    by_cases h0 : i < n + 3
    · have c3 : wr.cell? ⟨w.heap.size, i, none⟩ = some (.int .u8 0) := by rw [hx.cell, rowArr_get _ _ _ h0]; simp
      have f3 := hx.free i
      go_wp2
      refine ⟨⟨i + 1, by omega, by omega, by go_num, ?_, hbel.setCell (Nat.le_refl _) _⟩, by simp [intOf]; omega⟩
      have := hx.set i (.int .u8 ((85 : UInt8).toNat : Int))
      rw [rowArr_set] at this
      rw [← rowArr_congr (m := n + 3) (f := fun j => if j = i then 85 else if j < i then lendF bs j else 0) (fun j _ => ?_)]
      · exact this
      · by_cases e : j = i
        · subst e; have := Hn.out; simp [lendF]; intro h; omega
        · have : (j < i + 1) = (j < i) := by simp; omega
          simp [e, this]
    · obtain rfl : i = n + 3 := by omega
      go_wp2
      go_ret
      refine ⟨_, rfl, Nat.le_refl _, ?_, hbel⟩
      unfold Lent
      rw [← Hn.out, ← rowArr_congr (m := n + 3) (f := fun j => if j < n + 3 then lendF bs j else 0) (fun j hj => by simp [hj])]
      exact hx

set_option maxRecDepth 20000 in
set_option maxHeartbeats 1000000 in
theorem spoil_calls (g l : Nat) (f : Nat → UInt8) (w : World) (hB : Blk w g (rowArr l f) 5) (hl : l ≤ 1000000) :
    Calls Try.prog 25 #[.slice (some ⟨g, 0, none⟩) l l] w fun e w' => e = .returned (.tuple #[]) ∧ (∃ f', Blk w' g (rowArr l f') 5) ∧ Chg (fun b => b = g) w w' := by
  go_enter Try.func25, Try.ntmps25
  go_wp2_with fail
  go_loopw [10] (fun v wr => ∃ (i : Nat) (f' : Nat → UInt8), i ≤ l ∧ v = .int .i64 i ∧ Blk wr g (rowArr l f') 5 ∧ Chg (fun b => b = g) w wr) (fun v _ => l - (intOf v).toNat)
  case atStart => exact ⟨0, f, by omega, rfl, hB, Chg.refl _ _⟩
  case round =>
    clear hB
    obtain ⟨i, f', hi, rfl, hx, hch⟩ := hrel
    by_cases h0 : i < l
    · have c3 : wr.cell? ⟨g, i, none⟩ = some (.int .u8 ((f' i).toNat : Int)) := by rw [hx.cell, rowArr_get _ _ _ h0]
      have f3 := hx.free i
      have hu := u_lt (f' i)
      have hxor := bits_xor_u8 (f' i).toNat 119 hu (by decide)
      have hu2 : (((f' i).toNat ^^^ 119 : Nat) : Int) = ((f' i ^^^ 119).toNat : Int) := by rw [UInt8.toNat_xor]; rfl
      have hxor2 : bits .xor .u8 ((f' i).toNat : Int) 119 = ((f' i ^^^ 119).toNat : Int) := by rw [← hu2]; exact hxor
      clear hxor hu2
      go_wp2
      refine ⟨⟨i + 1, fun j => if j = i then f' i ^^^ 119 else f' j, by omega, by go_num, ?_, hch.set rfl _⟩, by simp [intOf]; omega⟩
      have := hx.set i (.int .u8 ((f' i ^^^ 119).toNat : Int))
      rw [rowArr_set, UInt8.toNat_xor] at this
      exact this
    · obtain rfl : i = l := by omega
      go_wp2
      go_end0
      exact ⟨rfl, ⟨_, hx⟩, hch⟩

set_option maxRecDepth 20000 in
set_option maxHeartbeats 4000000 in
theorem intact_calls (g : Nat) (v : Value) (bs : List UInt8) (w : World) (hL : Lent w g bs) (h : Bys w v bs) (hl : bs.length ≤ 1000000) :
    Calls Try.prog 30 #[.slice (some ⟨g, 0, none⟩) bs.length (bs.length + 3), v] w fun e w' => e = .returned (.bool true) ∧ ∃ d, w' = w.drewN d := by
  obtain ⟨a, cap, rfl⟩ := h.eq_slice
  have hc : ∀ i, i < bs.length + 3 → w.cell? ⟨g, i, none⟩ = some (.int .u8 ((lendF bs i).toNat : Int)) := fun i hi => by rw [(show Blk w g _ _ from hL).cell, rowArr_get _ _ _ hi]
  have Hc := Lib.hid hc
  obtain ⟨n, hn⟩ : ∃ n, n = bs.length := ⟨_, rfl⟩
  rw [← hn] at hl h ⊢
  have Hn := Lib.hid hn
  clear hn hc hL
  have tn : ((n : Int) != (n : Int)) = false := by simp
  have tn3 : ((n : Int) + 3 != (n : Int) + 3) = false := by simp
  go_enter Try.func30, Try.ntmps30
  go_wp2_with fail
  go_loopw [27] (fun v wr => ∃ i : Nat, i ≤ n + 3 ∧ v = .int .i64 i ∧ Rd w wr) (fun v _ => n + 3 - (intOf v).toNat)
  case atStart => exact ⟨0, by omega, rfl, Rd.refl _⟩
  case round =>
    obtain ⟨i, hi, rfl, hrd⟩ := hrel
    by_cases h0 : i < n + 3
    · have c1 : wr.cell? ⟨g, i, none⟩ = some (.int .u8 ((lendF bs i).toNat : Int)) := by
        obtain ⟨d, rfl⟩ := hrd
        exact Hc.out i (by have := Hn.out; omega)
      have i1 : (0 : Int) ≤ (i : Int) := by omega
      have i2 : (i : Int) < (n : Int) + 3 := by omega
      by_cases h1 : i < n
      · obtain ⟨b2, o2, u, rfl, Hu, c2, hu⟩ := (hrd.bys h).at i (by have := Hn.out; omega)
        have hv : lendF bs i = u := by
          have := Hn.out
          unfold lendF; rw [if_pos (by omega), List.getD_eq_getElem?_getD, Hu.out]; rfl
        rw [hv] at c1
        have t1 : decide ((i : Int) < (n : Int)) = true := by simp; omega
        have t2 : ((u.toNat : Int) != (u.toNat : Int)) = false := by simp
        have t3 : decide ((n : Int) ≤ (i : Int)) = false := by simp; omega
        have t4 : decide (i < n) = true := by simp; omega
        have t5 : decide (n ≤ i) = false := by simp; omega
        have i3 : (i : Int) < (n : Int) := by omega
        clear hv
        go_wp2_with fail
        go_quiet (fail)
        go_wp2
        exact ⟨⟨i + 1, by omega, by go_num, hrd.more _⟩, by simp [intOf]; omega⟩
      · have hv : lendF bs i = 85 := by
          have := Hn.out
          unfold lendF; rw [if_neg (by omega)]
        rw [hv] at c1
        have c2 : wr.cell? ⟨g, i, none⟩ = some (.int .u8 85) := c1
        have t1 : decide ((i : Int) < (n : Int)) = false := by simp; omega
        have t3 : decide ((n : Int) ≤ (i : Int)) = true := by simp; omega
        have t4 : decide (i < n) = false := by simp; omega
        have t5 : decide (n ≤ i) = true := by simp; omega
        clear hv c1
        go_wp2_with fail
        go_quiet (fail)
        go_wp2
        exact ⟨⟨i + 1, by omega, by go_num, hrd.more _⟩, by simp [intOf]; omega⟩
    · obtain rfl : i = n + 3 := by omega
      go_wp2
      go_ret
      exact ⟨rfl, hrd⟩
end Go.Proofs.Ytofhbmdhenjmeaa
