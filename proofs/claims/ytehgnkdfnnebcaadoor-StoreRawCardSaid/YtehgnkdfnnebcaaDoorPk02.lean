/- Texts of this proof, packed: Code, CodeTake, Tail, StoreRead, StoreFree. -/
import Derived.Test.YtehgnkdfnnebcaaDoorPk01
import Derived.Test.YtehgnkdfnnebcaaDoorPk00
import Derived.Test.YtehgnkdfnnebcaaDoorPkS
import Derived.Laws.BytesArg
import Derived.Laws.MakeOwn
import Derived.IntWalk
import Derived.StillTail
import Derived.Deep.Quiet
import Derived.Deep.QuietTactic
section
namespace Go.Proofs.YtehgnkdfnnebcaaDoor
open Go Go.RowKit Go.Mem Gf
attribute [local go_sem ↓] Go.wp_at_zero Go.wp_at_succ
set_option maxRecDepth 20000 in
theorem or_byte (g u : Nat) (hg : g * 256 + u < 72057594037927936) (hu : u < 256) : bits .or .i64 ((g : Int) * 256) (u : Int) = ((g * 256 + u : Nat) : Int) := by
  have h0 : ((g : Int) * 256) = ((g * 256 : Nat) : Int) := by omega
  have h1 : g * 256 % 2 ^ IntKind.bits .i64 = g * 256 := Nat.mod_eq_of_lt (show g * 256 < 18446744073709551616 by omega)
  have h2 : u % 2 ^ IntKind.bits .i64 = u := Nat.mod_eq_of_lt (show u < 18446744073709551616 by omega)
  rw [h0]
  simp only [bits, BitVec.ofInt_natCast, BitVec.toNat_or, BitVec.toNat_ofNat, h1, h2]
  have e : g * 256 ||| u = g * 256 + u := by
    have := Nat.two_pow_add_eq_or_of_lt (i := 8) hu g
    rw [Nat.mul_comm g 256]; exact this.symm
  rw [e]
  exact IntWalk.i64_in _ (by omega)
theorem E8c : Elem Tryd.prog 31 5 (.int .u8 0) 1 := ⟨Tryd.underlying31, by kernel_rfl, rfl⟩
theorem conv_string {w : World} {v : Value} {bs : List UInt8} (h : Bys w v bs) : (convert 31 9 v).run Tryd.prog w = .ok (.string ⟨bs.toArray⟩) w := by
  obtain ⟨a, cap, rfl, h1, h2, h3⟩ := h
  rcases Nat.eq_zero_or_pos bs.length with h0 | h0
  · rw [h0, List.eq_nil_of_length_eq_zero h0]
    rw [run_convert_bytes_string w 31 9 5 _ 0 cap Tryd.underlying31 Tryd.underlying5 Tryd.underlying9]
    cases a <;> simp [Conv.bytesToString, loadCells]
    all_goals rfl
  · obtain ⟨b, off, rfl, hc⟩ := h3 h0
    have := run_convert_bytes_arg (P := Tryd.prog) w 31 5 Tryd.underlying31 Tryd.underlying5 b off bs.length cap (bs.map fun u => ((u.toNat : Nat) : Int)) (by simp) (fun i hi => by
      rw [hc i bs[i] (by simp [hi])]
      simp [List.getD, hi]) 9 Tryd.underlying9
    have e : (bs.map fun u : UInt8 => ((u.toNat : Nat) : Int)).map (fun n => UInt8.ofNat n.toNat) = bs := by
      rw [List.map_map]
      exact (List.map_congr_left (fun u _ => by simp)).trans (List.map_id bs)
    rw [this]
    unfold strOfNums
    rw [e]
theorem ownF_row {w : World} {base b m : Nat} {f : Nat → UInt8} (h : Blk w b (rowArr m f) 5) (hb : base ≤ b) (hm : m ≤ 9223372036854775807) : OwnF 5 w base (.slice (some ⟨b, 0, none⟩) m m) (rowL m f) :=
  ⟨Blk.own h hb hm, fun g hg => by simp [Value.ownBlock] at hg; subst hg; exact ⟨_, h, byt_row _ _⟩⟩
def Tab (w : World) : Prop := Lib.TabIs Tryd.prog w "internal/strconv.uint64pow10" .u64 Lib.pow10Tab
noncomputable def gT : Nat := (Tryd.prog.globalNamed "internal/strconv.uint64pow10").getD 0
theorem gT_eq : Tryd.prog.globalNamed "internal/strconv.uint64pow10" = some gT := by kernel_rfl
theorem Tab.lt {w : World} (h : Tab w) : gT < w.heap.size := by
  unfold Tab Lib.TabIs World.var? at h
  rw [gT_eq] at h
  rcases Nat.lt_or_ge gT w.heap.size with h' | h'
  · exact h'
  · simp [Array.getElem?_eq_none h'] at h
theorem Tab.kept {w w' : World} (h : Tab w) (hk : w'.heap[gT]? = w.heap[gT]?) : Tab w' := by
  unfold Tab Lib.TabIs World.var? at *
  rw [gT_eq] at *
  simp only [Option.bind_some] at *
  rw [hk]; exact h
theorem Tab.chg {S : Nat → Prop} {w w' : World} (h : Tab w) (hc : Chg S w w') (hs : ¬ S gT) : Tab w' := h.kept (hc.block _ h.lt hs)
theorem Tab.below {w w' : World} (h : Tab w) (hb : Below w.heap.size w w') : Tab w' := h.kept (hb.block _ h.lt)
theorem Tab.drewN {w : World} (h : Tab w) (n : Nat) : Tab (w.drewN n) := h
theorem rowL_be (w n : Nat) : rowL w (fun j => UInt8.ofNat (n / 256 ^ (w - 1 - j))) = Cod.be w n := by
  apply List.ext_getElem?
  intro i
  by_cases h : i < w
  · rw [rowL_get _ _ _ h, Cod.be_get _ _ _ h]
  · rw [List.getElem?_eq_none (by rw [rowL_len]; omega), List.getElem?_eq_none (by rw [Cod.be_len]; omega)]
set_option maxRecDepth 20000 in
set_option maxHeartbeats 1000000 in
theorem put_calls (n : Nat) (m : Nat) (hn : n ≤ 9223372036854775807) (h1 : 1 ≤ m) (hm : m ≤ 8) (w : World) :
    Calls Tryd.prog 49 #[.int .i64 n, .int .i64 m] w fun e w' => ∃ v, e = .returned v ∧ OwnF 5 w' w.heap.size v (Cod.be m n) ∧ Below w.heap.size w w' := by
  have hmk : ∀ w, (Instr.makeSlice 31 (.int .i64 (m : Int)) (.int .i64 (m : Int))).run Tryd.prog w = .ok (.slice (some ⟨w.heap.size, 0, none⟩) m m) (w.alloc (.cells (rowArr m fun _ => 0) 5)) := fun w => by
    have := make_bytes (P := Tryd.prog) 31 5 Tryd.underlying31 E8k m (by omega) w
    rw [rowArr_zero] at this
    exact this
  have hmx : max 0 (min (m : Int) 8) = m := by omega
  have hB0 : Blk (w.alloc (.cells (rowArr m fun _ => 0) 5)) w.heap.size (rowArr m fun _ => 0) 5 := Blk.new _ _ _
  go_enter Tryd.func49, Tryd.ntmps49
  go_wp2_with fail
  go_loopw [6, 7] (fun u v wr => ∃ (k j : Nat), k + j = m ∧ u = .int .u64 ((n / 256 ^ k : Nat) : Int) ∧ v = .int .i64 ((j : Int) - 1) ∧ Blk wr w.heap.size (rowArr m fun x => if j ≤ x then UInt8.ofNat (n / 256 ^ (m - 1 - x)) else 0) 5 ∧ Below w.heap.size w wr) (fun _ v _ => (intOf v + 1).toNat)
  case atStart => exact ⟨0, m, by omega, by simp, rfl, by rw [rowArr_congr (m := m) (f := fun x => if m ≤ x then UInt8.ofNat (n / 256 ^ (m - 1 - x)) else 0) (g := fun _ => 0) (fun x hx => if_neg (by omega))]; exact hB0, (Below.refl _ _).alloc (Nat.le_refl _) _⟩
  case round =>
    clear hB0 hmk
    obtain ⟨k, j, hkj, rfl, rfl, hB, hb⟩ := hrel
    by_cases h0 : 1 ≤ j
    · obtain ⟨i, rfl⟩ : ∃ i, j = i + 1 := ⟨j - 1, by omega⟩
      have e1 : ((i + 1 : Nat) : Int) - 1 = (i : Int) := by omega
      rw [e1]
      have c1 : wr.cell? ⟨w.heap.size, i, none⟩ = some (.int .u8 0) := by rw [hB.cell, rowArr_get _ _ _ (by omega), if_neg (by omega)]; rfl
      have f1 := hB.free i
      obtain ⟨q, hq⟩ : ∃ q, q = n / 256 ^ k := ⟨_, rfl⟩
      have hq1 : q ≤ 9223372036854775807 := by rw [hq]; exact Nat.le_trans (Nat.div_le_self _ _) hn
      rw [← hq]
      have Hq := Lib.hid hq; have HB := Lib.hid hB
      clear hq hB
      go_wp2
      refine ⟨⟨k + 1, i, by omega, ?_, rfl, ?_, hb.setCell (Nat.le_refl _) _⟩, by simp [intOf] <;> omega⟩
      · rw [Nat.pow_succ, ← Nat.div_div_eq_div_mul, ← Hq.out]; congr 1
      · have := HB.out.set i (.int .u8 (((UInt8.ofNat q).toNat : Nat) : Int))
        rw [rowArr_set] at this
        rw [show ((q : Int) % 256) = (((UInt8.ofNat q).toNat : Nat) : Int) from by rw [UInt8.toNat_ofNat']; rfl]
        rw [← rowArr_congr (m := m) (f := fun x => if x = i then UInt8.ofNat q else if i + 1 ≤ x then UInt8.ofNat (n / 256 ^ (m - 1 - x)) else 0) (fun x hx => ?_)]
        · exact this
        · by_cases e : x = i
          · subst e; rw [if_pos rfl, if_pos (Nat.le_refl _), Hq.out, show m - 1 - x = k from by omega]
          · rw [if_neg e]
            by_cases e2 : i + 1 ≤ x
            · rw [if_pos e2, if_pos (by omega)]
            · rw [if_neg e2, if_neg (by omega)]
    · obtain rfl : j = 0 := by omega
      go_wp2
      go_ret
      refine ⟨_, rfl, ?_, hb⟩
      have := ownF_row (base := w.heap.size) hB (Nat.le_refl _) (by omega)
      rw [← rowL_be, rowL_congr (g := fun x => if 0 ≤ x then UInt8.ofNat (n / 256 ^ (m - 1 - x)) else 0) (fun x hx => (if_pos (Nat.zero_le _)).symm)]
      exact this
theorem put_x (n : Nat) (m : Nat) (hn : n ≤ 9223372036854775807) (h1 : 1 ≤ m) (hm : m ≤ 8) (w : World) :
    Calls Tryd.prog 49 #[.int .i64 n, .int .i64 m] w fun e w' => ∃ v, e = .returned v ∧ OwnX 5 w' w.heap.size v (Cod.be m n) ∧ Below w.heap.size w w' :=
  (put_calls n m hn h1 hm w).mono fun _ _ ⟨v, he, h2, h3⟩ => ⟨v, he, h2.x, h3⟩
set_option maxRecDepth 100000 in
set_option maxHeartbeats 1000000 in
theorem get_bad (v : Value) (bs : List UInt8) (w : World) (h : Bys w v bs) (hl : 7 < bs.length) :
    Calls Tryd.prog 51 #[v] w fun e w' => e = .returned (.tuple #[.int .i64 0, .bool false]) ∧ w = w' := by
  have hm := h.len
  obtain ⟨a, c, rfl⟩ := h.eq_slice
  obtain ⟨l, hl'⟩ : ∃ l, l = bs.length := ⟨_, rfl⟩
  rw [← hl'] at hl hm ⊢
  clear hl' h
  go_enter Tryd.func51, Tryd.ntmps51
  go_wp2
  go_ret2
  exact ⟨rfl, rfl⟩
set_option maxRecDepth 100000 in
set_option maxHeartbeats 1000000 in
theorem get_calls (v : Value) (bs : List UInt8) (w : World) (h : Bys w v bs) (hl : bs.length ≤ 7) :
    Calls Tryd.prog 51 #[v] w fun e w' => e = .returned (.tuple #[.int .i64 (Cod.getN bs : Nat), .bool true]) ∧ w = w' := by
  obtain ⟨a, c, rfl⟩ := h.eq_slice
  obtain ⟨l, hl'⟩ : ∃ l, l = bs.length := ⟨_, rfl⟩
  rw [← hl'] at hl h ⊢
  have Hl := Lib.hid hl'
  clear hl'
  go_enter Tryd.func51, Tryd.ntmps51
  have t7 : decide ((7 : Int) < (l : Int)) = false := by simp; omega
  go_wp2
  go_loop [4, 12] (fun u v => ∃ i : Nat, i ≤ l ∧ u = .int .i64 (Cod.getN (bs.take i) : Nat) ∧ v = .int .i64 i) (fun _ v => l - (intOf v).toNat)
  case atStart => exact ⟨0, by omega, rfl, rfl⟩
  case round =>
    obtain ⟨i, hi, rfl, rfl⟩ := hrel
    by_cases h0 : i < l
    · obtain ⟨b, o, u, rfl, Hu, c1, hu⟩ := h.at i (by have := Hl.out; omega)
      have i0 : (0 : Int) ≤ (i : Int) := by omega
      have i1 : (i : Int) < (l : Int) := by omega
      have Hs := Lib.hid (show Cod.getN (bs.take (i + 1)) = Cod.getN (bs.take i) * 256 + u.toNat from by
        rw [List.take_add_one, Hu.out]; exact Cod.getGo_snoc _ _ _)
      have hg := Cod.getN_lt (bs.take i) (by rw [List.length_take]; omega)
      have hg2 := Cod.getN_lt (bs.take (i + 1)) (by rw [List.length_take]; omega)
      rw [Hs.out] at hg2
      obtain ⟨g, hgg⟩ : ∃ g, g = Cod.getN (bs.take i) := ⟨_, rfl⟩
      rw [← hgg] at hg hg2 ⊢
      have Hg := Lib.hid hgg
      clear hgg
      have ho := or_byte g u.toNat hg2 hu
      go_wp2
      exact ⟨⟨i + 1, by omega, by rw [Hs.out, ← Hg.out]; exact congrArg (Value.int .i64) (by push_cast; rfl), by go_num⟩, by simp [intOf]; omega⟩
    · obtain rfl : i = l := by omega
      have e : bs.take i = bs := List.take_of_length_le (by have := Hl.out; omega)
      rw [e]
      clear e
      go_wp2
      go_ret2
      exact ⟨rfl, rfl⟩
theorem grow_below (w : World) (k : Nat) (os : Array Obj) : Below w.heap.size w (Sort.grow (w.drewN k) os) :=
  ⟨rfl, rfl, rfl, by show w.heap.size ≤ (w.heap ++ os).size; simp, fun j hj => by show (w.heap ++ os)[j]? = _; rw [Array.getElem?_append_left hj]⟩
theorem bys_one (w : World) (u : UInt8) (x : Value) (hx : x = .int .u8 ((u.toNat : Nat) : Int)) (t : TypeId) : Bys (w.alloc (.cells #[x] t)) (.slice (some ⟨w.heap.size, 0, none⟩) 1 1) [u] :=
  (Blk.new w #[x] t).bys (bs := [u]) (Nat.le_refl _) (maxLen_ge (by decide)) fun i v hi => by
    cases i with
    | zero => simp at hi; subst hi; rw [hx]; rfl
    | succ i => simp at hi
theorem dec_len (l : Nat) (h : l ≤ 100000000) : (Lib.itoa (l : Int)).length ≤ 9 := by
  rw [Lib.itoa_nonneg, Lib.decDigits_length]
  have : ∀ k u, u < 10 ^ (k + 1) → Lib.nDigits u ≤ k + 1 := by
    intro k
    induction k with
    | zero => intro u hu; rw [Lib.nDigits_small (by simpa using hu)]; exact Nat.le_refl _
    | succ k ih =>
      intro u hu
      by_cases h : u < 10
      · rw [Lib.nDigits_small h]; omega
      · rw [Lib.nDigits_big h]
        have := ih (u / 10) (by rw [Nat.pow_succ] at hu; omega)
        omega
  exact this 8 l (by omega)
set_option maxRecDepth 100000 in
set_option maxHeartbeats 1000000 in
theorem net_calls (v : Value) (bs : List UInt8) (w : World) (hT : Tab w) (h : Bys w v bs) (hl : bs.length ≤ 100000000) :
    Calls Tryd.prog 54 #[v] w fun e w' => ∃ v', e = .returned v' ∧ OwnX 5 w' w.heap.size v' (Cod.net bs) ∧ Below w.heap.size w w' := by
  obtain ⟨a, c, rfl⟩ := h.eq_slice
  obtain ⟨l, hl'⟩ : ∃ l, l = bs.length := ⟨_, rfl⟩
  have hd := dec_len bs.length hl
  have Hn := Lib.hid (show Cod.net bs = Lib.itoa (bs.length : Nat) ++ [58] ++ bs ++ [44] from rfl)
  rw [← hl'] at hl h hd Hn ⊢
  have Hl := Lib.hid hl'
  clear hl'
  go_enter Tryd.func54, Tryd.ntmps54
  go_wp2_with fail
  refine (Tryd.strconv_Itoa l (by omega) (by omega) w hT).mono ?_
  rintro e w1 ⟨rfl, k, os, hw1⟩
  have hb1 : Below w.heap.size w w1 := by rw [hw1]; exact grow_below _ _ _
  clear hw1 hT
  obtain ⟨s, hs⟩ : ∃ s : ByteArray, s = ⟨(Lib.itoa (l : Int)).toArray⟩ := ⟨_, rfl⟩
  have hsl : s.data.toList = Lib.itoa (l : Int) := by rw [hs]
  have hss : s.size ≤ 9 := by rw [hs]; simpa [ByteArray.size] using hd
  rw [← hs]
  have hconv := Lib.run_convert_string_bytes (P := Tryd.prog) w1 9 31 5 s Tryd.underlying9 Tryd.underlying31 Tryd.underlying5
  obtain ⟨ho, hb2⟩ := conv_ownX w1 5 s (maxLen_ge (by omega))
  obtain ⟨w2, hw2⟩ : ∃ w2, w2 = Lib.bytesWorld w1 5 s := ⟨_, rfl⟩
  rw [← hw2] at ho hb2 hconv
  rw [hsl] at ho
  have hbw2 : Below w.heap.size w w2 := hb1.trans (hb2.mono hb1.size)
  have Hs := Lib.hid hs; have Hsl := Lib.hid hsl
  have hs1 := hb1.size
  have hs2 := hb2.size
  clear hs hsl hw2
  have hlen : (Lib.itoa (l : Int)).length ≤ 9 := hd
  go_wp2_with (at_builtin; refine appX E8c rfl _ _ rfl (base := w.heap.size) (bs := Lib.itoa (l : Int)) (news := [58]) rfl rfl ((ho.mono hs1).alloc _) (bys_one _ 58 _ rfl _) ?q1 ?q2 ?_)
  case q1 => simp; omega
  case q2 => simp; omega
  intro v3 w3 ho3 hg3
  have hb3 := grown_below (hbw2.alloc hbw2.size _) hg3 (fun k hk => by simp [Value.ownBlock] at hk; omega)
  have hs3 := hb3.size
  have hlt3 := ho3.lt
  clear hconv ho hb2 hg3 hbw2
  go_wp2_with (at_builtin; refine appX E8c rfl _ _ rfl (base := w.heap.size) (news := bs) rfl rfl ho3 (h.below hb3) ?q3 ?q4 ?_)
  case q3 => have := Hl.out; simp; omega
  case q4 => exact hs3
  intro v4 w4 ho4 hg4
  have hb4 := grown_below hb3 hg4 (fun k hk => (hlt3 k hk).1)
  have hs4 := hb4.size
  have hlt4 := ho4.lt
  clear hg4 ho3 hb3
  go_wp2_with (at_builtin; refine appX E8c rfl _ _ rfl (base := w.heap.size) (news := [44]) rfl rfl (ho4.alloc _) (bys_one _ 44 _ rfl _) ?q5 ?q6 ?_)
  case q5 => have := Hl.out; simp; omega
  case q6 => simp; omega
  intro v5 w5 ho5 hg5
  have hb5 := grown_below (hb4.alloc hs4 _) hg5 (fun k hk => (hlt4 k hk).1)
  clear hg5 ho4 hb4
  go_wp2
  go_ret
  exact ⟨v5, rfl, by rw [Hn.out]; simpa using ho5, hb5⟩
theorem nets_take_le (rows : List (List UInt8)) : ∀ i, (Cod.nets (rows.take i)).length ≤ (Cod.nets rows).length := by
  induction rows with
  | nil => intro i; simp
  | cons a l ih =>
    intro i
    cases i with
    | zero => simp [Cod.nets]
    | succ i => simp only [List.take_succ_cons, Cod.nets, List.length_append]; have := ih i; omega
theorem nets_row_le {rows : List (List UInt8)} {i : Nat} {b : List UInt8} (h : rows[i]? = some b) : (Cod.nets (rows.take i)).length + (Cod.net b).length ≤ (Cod.nets rows).length := by
  have := nets_take_le rows (i + 1)
  rw [List.take_add_one, h] at this
  simp only [Option.toList_some] at this
  rw [Cod.nets_snoc, List.length_append] at this
  exact this
set_option maxRecDepth 100000 in
set_option maxHeartbeats 1000000 in
theorem nets_calls (v : Value) (rows : List (List UInt8)) (w : World) (hT : Tab w) (h : Rws w v rows) (hl : (Cod.nets rows).length ≤ 100000000) :
    Calls Tryd.prog 48 #[v] w fun e w' => ∃ v', e = .returned v' ∧ OwnX 5 w' w.heap.size v' (Cod.nets rows) ∧ Below w.heap.size w w' := by
  have hrl := h.len
  obtain ⟨a, c, rfl⟩ := h.eq_slice
  obtain ⟨n, hn⟩ : ∃ n, n = rows.length := ⟨_, rfl⟩
  rw [← hn] at h hrl ⊢
  have Hn := Lib.hid hn
  clear hn
  go_enter Tryd.func48, Tryd.ntmps48
  go_wp2_with fail
  go_loopw [3, 8] (fun u v wr => ∃ i : Nat, i ≤ n ∧ v = .int .i64 i ∧ OwnX 5 wr w.heap.size u (Cod.nets (rows.take i)) ∧ Below w.heap.size w wr) (fun _ v _ => n - (intOf v).toNat)
  case atStart => exact ⟨0, by omega, rfl, OwnX.nil _ _ _, Below.refl _ _⟩
  case round =>
    obtain ⟨i, hi, rfl, ho, hb⟩ := hrel
    by_cases h0 : i < n
    · obtain ⟨b, o, bs, va, rfl, hr, c1, hrow⟩ := (h.below hb).at i (by have := Hn.out; omega)
      have i0 : (0 : Int) ≤ (i : Int) := by omega
      have i1 : (i : Int) < (n : Int) := by omega
      have hle := nets_row_le hr.out
      have hnl := Cod.net_len bs
      have hs := hb.size
      have hlt := ho.lt
      have Hfin := Lib.hid (show Cod.nets (rows.take (i + 1)) = Cod.nets (rows.take i) ++ Cod.net bs from by rw [List.take_add_one, hr.out]; exact Cod.nets_snoc _ _)
      go_wp2_with fail
      refine (net_calls va bs wr (hT.below hb) hrow (by omega)).mono ?_
      rintro e w2 ⟨v2, rfl, ho2, hb2⟩
      go_wp2_with (at_builtin; refine appX E8c rfl _ _ rfl (base := w.heap.size) (news := Cod.net bs) rfl rfl (ho.below hb2) ho2.bys ?q1 ?q2 ?_)
      case q1 => omega
      case q2 => have := hb2.size; omega
      intro v3 w3 ho3 hg3
      have hb3 := grown_below (hb.trans (hb2.mono hs)) hg3 (fun k hk => (hlt k hk).1)
      rw [← Hfin.out] at ho3
      clear hg3 ho2 hb2 hle hnl
      go_wp2
      exact ⟨⟨i + 1, by omega, by go_num, ho3, hb3⟩, by simp [intOf] <;> omega⟩
    · obtain rfl : i = n := by omega
      have e : rows.take i = rows := List.take_of_length_le (by have := Hn.out; omega)
      rw [e] at ho
      go_wp2
      go_ret
      exact ⟨_, rfl, ho, hb⟩
theorem drop_cons {bs : List UInt8} {d : Nat} {u : UInt8} (h : bs[d]? = some u) : bs.drop d = u :: bs.drop (d + 1) := by
  have hd : d < bs.length := by
    rcases Nat.lt_or_ge d bs.length with h' | h'
    · exact h'
    · rw [List.getElem?_eq_none h'] at h; cases h
  rw [List.drop_eq_getElem_cons hd]
  rw [List.getElem?_eq_getElem hd] at h
  cases h; rfl
set_option maxRecDepth 20000 in
set_option maxHeartbeats 1000000 in
theorem size_calls (v : Value) (bs : List UInt8) (w : World) (h : Bys w v bs) :
    Calls Tryd.prog 55 #[v] w fun e w' => e = .returned (.tuple #[.int .i64 ((Cod.size bs).1 : Nat), .int .i64 ((Cod.size bs).2 : Nat)]) ∧ w = w' := by
  have hrl := h.len
  obtain ⟨a, c, rfl⟩ := h.eq_slice
  obtain ⟨l, hl'⟩ : ∃ l, l = bs.length := ⟨_, rfl⟩
  rw [← hl'] at h hrl ⊢
  have Hl := Lib.hid hl'
  clear hl'
  go_enter Tryd.func55, Tryd.ntmps55
  go_wp2
  go_loop [2, 3] (fun u v => ∃ n d : Nat, d ≤ l ∧ n ≤ 163849 ∧ u = .int .i64 n ∧ v = .int .i64 d ∧ Hid (Cod.size bs = Cod.sizeGo (bs.drop d) n d)) (fun _ v => l - (intOf v).toNat)
  case atStart => exact ⟨0, 0, by omega, by omega, rfl, rfl, rfl⟩
  case round =>
    obtain ⟨n, d, hd, hn, rfl, rfl, Hz⟩ := hrel
    by_cases h0 : d < l
    · obtain ⟨b, o, u, rfl, Hu, c1, hu⟩ := h.at d (by have := Hl.out; omega)
      have i0 : (0 : Int) ≤ (d : Int) := by omega
      have i1 : (d : Int) < (l : Int) := by omega
      by_cases hc : 48 ≤ u.toNat ∧ u.toNat ≤ 57 ∧ n ≤ 16384
      · obtain ⟨h1, h2, h3⟩ := hc
        have Hfin := Lib.hid (show Cod.size bs = Cod.sizeGo (bs.drop (d + 1)) (10 * n + (u.toNat - 48)) (d + 1) from by rw [Hz.out]; exact Cod.sizeGo_step (drop_cons Hu.out) ⟨h1, h2, h3⟩)
        go_wp2
        exact ⟨⟨10 * n + (u.toNat - 48), d + 1, by omega, by omega, congrArg (Value.int .i64) (by omega), by go_num, Hfin.out⟩, by simp [intOf] <;> omega⟩
      · have Hfin := Lib.hid (show Cod.size bs = (n, d) from by rw [Hz.out]; exact Cod.sizeGo_stop fun c r e => by rw [drop_cons Hu.out] at e; injection e with e _; subst e; exact hc)
        have h1 : (u.toNat < 48) ∨ (48 ≤ u.toNat ∧ 57 < u.toNat) ∨ (48 ≤ u.toNat ∧ u.toNat ≤ 57 ∧ 16384 < n) := by omega
        clear hc
        rcases h1 with h1 | ⟨h1, h2⟩ | ⟨h1, h2, h3⟩
        all_goals
          go_wp2
          go_ret2
          exact ⟨by rw [Hfin.out]; rfl, rfl⟩
    · obtain rfl : d = l := by omega
      go_wp2
      go_ret2
      have e := Hz.out
      rw [List.drop_eq_nil_of_le (by have := Hl.out; omega)] at e
      exact ⟨by rw [e]; rfl, rfl⟩
theorem bys_drop {w : World} {b o n c : Nat} {bs : List UInt8} (h : Bys w (.slice (some ⟨b, o, none⟩) n c) bs) (k m c' : Nat) (hk : k + m ≤ bs.length) (hc : m ≤ c') (hm : c' ≤ maxLen) : Bys w (.slice (some ⟨b, o + k, none⟩) m c') ((bs.drop k).take m) := by
  obtain ⟨a, cap, e, h1, h2, h3⟩ := h
  injection e with e1 e2 e3
  have hl : ((bs.drop k).take m).length = m := by simp; omega
  refine ⟨_, c', by rw [hl], by rw [hl]; exact hc, hm, fun hp => ?_⟩
  rw [hl] at hp
  obtain ⟨b', o', e', hc'⟩ := h3 (by omega)
  rw [← e1] at e'
  cases e'
  refine ⟨b, o + k, rfl, fun i u hi => ?_⟩
  have him : i < m := by
    rcases Nat.lt_or_ge i m with h' | h'
    · exact h'
    · rw [List.getElem?_eq_none (by rw [hl]; exact h')] at hi; cases hi
  rw [List.getElem?_take, if_pos him, List.getElem?_drop] at hi
  rw [Nat.add_assoc]
  exact hc' _ u hi
end Go.Proofs.YtehgnkdfnnebcaaDoor
end
section
namespace Go.Proofs.YtehgnkdfnnebcaaDoor
open Go Go.RowKit Go.Mem Gf
attribute [local go_sem ↓] Go.wp_at_zero Go.wp_at_succ
theorem takeNet_none {bs : List UInt8} (h : Cod.takeNet bs = none) : ((Cod.size bs).2 = 0) ∨ (1 < (Cod.size bs).2 ∧ bs.getD 0 0 = 48) ∨ (1 ≤ (Cod.size bs).2 ∧ ¬ (1 < (Cod.size bs).2 ∧ bs.getD 0 0 = 48) ∧ (16384 < (Cod.size bs).1 ∨ ((Cod.size bs).1 ≤ 16384 ∧
    (bs.length < (Cod.size bs).2 + (Cod.size bs).1 + 2 ∨ ((Cod.size bs).2 + (Cod.size bs).1 + 2 ≤ bs.length ∧ (bs.getD (Cod.size bs).2 0 ≠ 58 ∨ (bs.getD (Cod.size bs).2 0 = 58 ∧ bs.getD ((Cod.size bs).2 + 1 + (Cod.size bs).1) 0 ≠ 44))))))) := by
  generalize hd : (Cod.size bs).2 = d at *
  generalize hn : (Cod.size bs).1 = n at *
  unfold Cod.takeNet Cod.bad1 Cod.bad2 at h
  rw [hd, hn] at h
  by_cases h0 : d = 0
  · exact .inl h0
  by_cases h1 : 1 < d ∧ bs.getD 0 0 = 48
  · exact .inr (.inl h1)
  refine .inr (.inr ⟨by omega, h1, ?_⟩)
  by_cases h2 : 16384 < n
  · exact .inl h2
  refine .inr ⟨by omega, ?_⟩
  by_cases h3 : bs.length < d + n + 2
  · exact .inl h3
  refine .inr ⟨by omega, ?_⟩
  by_cases h4 : bs.getD d 0 = 58
  · by_cases h5 : bs.getD (d + 1 + n) 0 = 44
    · exfalso
      have e1 : (d == 0 || decide (1 < d) && bs.getD 0 0 == 48 || decide (16384 < n)) = false := by
        have : ¬ (1 < d ∧ (bs.getD 0 0 == 48) = true) := fun ⟨a, b⟩ => h1 ⟨a, by simpa using b⟩
        by_cases hd1 : 1 < d
        · have : (bs.getD 0 0 == 48) = false := by
            rcases hb : (bs.getD 0 0 == 48) with _ | _
            · rfl
            · exact absurd ⟨hd1, hb⟩ this
          rw [this]; simp; omega
        · simp; omega
      rw [e1, h4, h5] at h
      simp [h3] at h
    · exact .inr ⟨h4, h5⟩
  · exact .inl h4
theorem takeNet_some {bs x y : List UInt8} (h : Cod.takeNet bs = some (x, y)) : 1 ≤ (Cod.size bs).2 ∧ ¬ (1 < (Cod.size bs).2 ∧ bs.getD 0 0 = 48) ∧ (Cod.size bs).1 ≤ 16384 ∧ (Cod.size bs).2 + (Cod.size bs).1 + 2 ≤ bs.length ∧ bs.getD (Cod.size bs).2 0 = 58 ∧ bs.getD ((Cod.size bs).2 + 1 + (Cod.size bs).1) 0 = 44 ∧
    x = (bs.drop ((Cod.size bs).2 + 1)).take (Cod.size bs).1 ∧ y = bs.drop ((Cod.size bs).2 + (Cod.size bs).1 + 2) := by
  generalize hd : (Cod.size bs).2 = d at *
  generalize hn : (Cod.size bs).1 = n at *
  unfold Cod.takeNet Cod.bad1 Cod.bad2 at h
  rw [hd, hn] at h
  split at h
  · cases h
  rename_i h1
  split at h
  · cases h
  rename_i h2
  simp only [Option.some.injEq, Prod.mk.injEq] at h
  simp only [Bool.or_eq_true, beq_iff_eq, Bool.and_eq_true, decide_eq_true_eq, not_or, bne_iff_ne, ne_eq, Decidable.not_not] at h1 h2
  exact ⟨by omega, h1.1.2, by omega, by omega, h2.1.2, h2.2, h.1.symm, h.2.symm⟩
theorem Bys.byte {w : World} {a : Option Addr} {n c : Nat} {bs : List UInt8} (h : Bys w (.slice a n c) bs) (k : Nat) (hk : k < bs.length) :
    ∃ b o, a = some ⟨b, o, none⟩ ∧ w.cell? ⟨b, o + k, none⟩ = some (.int .u8 ((bs.getD k 0).toNat : Nat)) := by
  obtain ⟨b, o, u, e, hu, hc, _⟩ := h.at k hk
  have hu := hu.out
  exact ⟨b, o, e, by rw [hc, List.getD_eq_getElem?_getD, hu]; rfl⟩
theorem eq_u8 {u : UInt8} {k : Nat} (_hk : k < 256) (h : u ≠ UInt8.ofNat k) : (((u.toNat : Nat) : Int) == (k : Int)) = false := by
  have : u.toNat ≠ k := fun e => h (by rw [← e]; simp)
  simp; omega
theorem neq_u8 {u : UInt8} {k : Nat} (_hk : k < 256) (h : u ≠ UInt8.ofNat k) : (((u.toNat : Nat) : Int) != (k : Int)) = true := by
  have : u.toNat ≠ k := fun e => h (by rw [← e]; simp)
  simp; omega
set_option maxRecDepth 20000 in
set_option maxHeartbeats 1000000 in
theorem takeNet_bad (v : Value) (bs : List UInt8) (w : World) (h : Bys w v bs) (hrl : bs.length ≤ 1000000000000) (ht : Cod.takeNet bs = none) :
    Calls Tryd.prog 50 #[v] w fun e w' => e = .returned (.tuple #[.slice none 0 0, .slice none 0 0, .bool false]) ∧ w = w' := by
  obtain ⟨a, c, rfl⟩ := h.eq_slice
  have hsz := Cod.size_le bs
  have hB := takeNet_none ht
  clear ht
  have hS := size_calls _ bs w h
  obtain ⟨d, hd⟩ : ∃ d, d = (Cod.size bs).2 := ⟨_, rfl⟩
  obtain ⟨n, hn⟩ : ∃ n, n = (Cod.size bs).1 := ⟨_, rfl⟩
  rw [← hd, ← hn] at hsz hB hS
  clear hd hn
  obtain ⟨hsz1, hsz2⟩ := hsz
  have HS := Lib.hid hS
  clear hS
  have hby := fun k hk => Bys.byte h (k := k) hk
  clear h
  have HB := Lib.hid hby
  clear hby
  obtain ⟨l, hl'⟩ : ∃ l, l = bs.length := ⟨_, rfl⟩
  rw [← hl'] at hrl HS hsz2 hB ⊢
  have Hl := Lib.hid hl'
  clear hl'
  rcases hB with hB | ⟨h1, h2⟩ | ⟨h1, h2, hB⟩
  · subst hB
    go_enter Tryd.func50, Tryd.ntmps50
    go_wp2_with fail
    refine HS.out.mono ?_
    rintro e w1 ⟨rfl, rfl⟩
    go_wp2
    go_ret3
    exact ⟨rfl, rfl⟩
  · obtain ⟨b, o, rfl, c0⟩ := HB.out 0 (by have := Hl.out; omega)
    rw [h2] at c0
    have c0 : w.cell? ⟨b, o, none⟩ = some (.int .u8 48) := c0
    have t0 : ((d : Int) == 0) = false := by simp; omega
    have t1 : decide ((1 : Int) < (d : Int)) = true := by simp; omega
    have i1 : (0 : Int) < (l : Int) := by omega
    have i2 : 0 < l := by omega
    clear h2
    go_enter Tryd.func50, Tryd.ntmps50
    go_wp2_with fail
    refine HS.out.mono ?_
    rintro e w1 ⟨rfl, rfl⟩
    go_wp2
    go_ret3
    exact ⟨rfl, rfl⟩
  · obtain ⟨b, o, rfl, c0⟩ := HB.out 0 (by have := Hl.out; omega)
    have i1 : (0 : Int) < (l : Int) := by omega --x
    have i2 : 0 < l := by omega
    have c0 : w.cell? ⟨b, o, none⟩ = some (.int .u8 ((bs.getD 0 0).toNat : Nat)) := c0
    have t0 : ((d : Int) == 0) = false := by simp; omega
    obtain ⟨u0, hu0⟩ : ∃ u0, u0 = bs.getD 0 0 := ⟨_, rfl⟩
    rw [← hu0] at c0 h2
    have HB' := Lib.hid (fun (k : Nat) (hk : k < l) => (show w.cell? ⟨b, o + k, none⟩ = some (.int .u8 ((bs.getD k 0).toNat : Nat)) from by
      obtain ⟨b', o', e, hc⟩ := HB.out k (by have := Hl.out; omega)
      cases e; exact hc))
    clear HB hu0
    rcases (show d ≤ 1 ∨ (1 < d ∧ u0 ≠ 48) from by
      rcases Nat.lt_or_ge 1 d with h | h
      · exact .inr ⟨h, fun e => h2 ⟨h, e⟩⟩
      · exact .inl (by omega)) with hd | ⟨hd, hu⟩
    · have t1 : decide ((1 : Int) < (d : Int)) = false := by simp; omega
      clear h2 hd
      rcases hB with hB | ⟨h3, hB | ⟨h4, hB | ⟨h5, hB⟩⟩⟩
      · have t2 : decide ((16384 : Int) < (n : Int)) = true := by simp; omega
        go_enter Tryd.func50, Tryd.ntmps50
        go_wp2_with fail
        refine HS.out.mono ?_
        rintro e w1 ⟨rfl, rfl⟩
        go_wp2
        go_ret3
        exact ⟨rfl, rfl⟩
      · have t2 : decide ((16384 : Int) < (n : Int)) = false := by simp; omega
        have t3 : decide ((l : Int) < (d : Int) + (n : Int) + 2) = true := by simp; omega
        have t6 : (l : Int) < (d : Int) + (n : Int) + 2 := by omega
        go_enter Tryd.func50, Tryd.ntmps50
        go_wp2_with fail
        refine HS.out.mono ?_
        rintro e w1 ⟨rfl, rfl⟩
        go_wp2
        go_ret3
        exact ⟨rfl, rfl⟩
      · have t2 : decide ((16384 : Int) < (n : Int)) = false := by simp; omega
        have t3 : decide ((l : Int) < (d : Int) + (n : Int) + 2) = false := by simp; omega
        have c1 := HB'.out d (by omega)
        obtain ⟨u1, hu1⟩ : ∃ u1, u1 = bs.getD d 0 := ⟨_, rfl⟩
        rw [← hu1] at c1 hB
        have t4 : (((u1.toNat : Nat) : Int) != 58) = true := neq_u8 (k := 58) (by decide) hB
        have i3 : (d : Int) < (l : Int) := by omega
        have i4 : d < l := by omega
        clear hu1 hB
        go_enter Tryd.func50, Tryd.ntmps50
        go_wp2_with fail
        refine HS.out.mono ?_
        rintro e w1 ⟨rfl, rfl⟩
        go_wp2
        go_ret3
        exact ⟨rfl, rfl⟩
      · have t2 : decide ((16384 : Int) < (n : Int)) = false := by simp; omega
        have t3 : decide ((l : Int) < (d : Int) + (n : Int) + 2) = false := by simp; omega
        have c1 := HB'.out d (by omega)
        rw [h5] at c1
        have c1 : w.cell? ⟨b, o + d, none⟩ = some (.int .u8 58) := c1
        have c2 := HB'.out (d + 1 + n) (by omega)
        obtain ⟨u1, hu1⟩ : ∃ u1, u1 = bs.getD (d + 1 + n) 0 := ⟨_, rfl⟩
        rw [← hu1] at c2 hB
        have t4 : (((u1.toNat : Nat) : Int) != 44) = true := neq_u8 (k := 44) (by decide) hB
        have i3 : (d : Int) < (l : Int) := by omega
        have i4 : d < l := by omega
        have i5 : (d : Int) + 1 + (n : Int) < (l : Int) := by omega
        have i6 : (0 : Int) ≤ (d : Int) + 1 + (n : Int) := by omega
        have q1 : ((d : Int) + 1 + (n : Int)).toNat = d + 1 + n := by omega
        clear hu1 hB h5
        go_enter Tryd.func50, Tryd.ntmps50
        go_wp2_with fail
        refine HS.out.mono ?_
        rintro e w1 ⟨rfl, rfl⟩
        go_wp2
        go_ret3
        exact ⟨rfl, rfl⟩
    · have t1 : decide ((1 : Int) < (d : Int)) = true := by simp; omega
      have t5 : (((u0.toNat : Nat) : Int) == 48) = false := eq_u8 (k := 48) (by decide) hu
      clear h2 hu
      rcases hB with hB | ⟨h3, hB | ⟨h4, hB | ⟨h5, hB⟩⟩⟩
      · have t2 : decide ((16384 : Int) < (n : Int)) = true := by simp; omega
        go_enter Tryd.func50, Tryd.ntmps50
        go_wp2_with fail
        refine HS.out.mono ?_
        rintro e w1 ⟨rfl, rfl⟩
        go_wp2
        go_ret3
        exact ⟨rfl, rfl⟩
      · have t2 : decide ((16384 : Int) < (n : Int)) = false := by simp; omega
        have t3 : decide ((l : Int) < (d : Int) + (n : Int) + 2) = true := by simp; omega
        have t6 : (l : Int) < (d : Int) + (n : Int) + 2 := by omega
        go_enter Tryd.func50, Tryd.ntmps50
        go_wp2_with fail
        refine HS.out.mono ?_
        rintro e w1 ⟨rfl, rfl⟩
        go_wp2
        go_ret3
        exact ⟨rfl, rfl⟩
      · have t2 : decide ((16384 : Int) < (n : Int)) = false := by simp; omega
        have t3 : decide ((l : Int) < (d : Int) + (n : Int) + 2) = false := by simp; omega
        have c1 := HB'.out d (by omega)
        obtain ⟨u1, hu1⟩ : ∃ u1, u1 = bs.getD d 0 := ⟨_, rfl⟩
        rw [← hu1] at c1 hB
        have t4 : (((u1.toNat : Nat) : Int) != 58) = true := neq_u8 (k := 58) (by decide) hB
        have i3 : (d : Int) < (l : Int) := by omega
        have i4 : d < l := by omega
        clear hu1 hB
        go_enter Tryd.func50, Tryd.ntmps50
        go_wp2_with fail
        refine HS.out.mono ?_
        rintro e w1 ⟨rfl, rfl⟩
        go_wp2
        go_ret3
        exact ⟨rfl, rfl⟩
      · have t2 : decide ((16384 : Int) < (n : Int)) = false := by simp; omega
        have t3 : decide ((l : Int) < (d : Int) + (n : Int) + 2) = false := by simp; omega
        have c1 := HB'.out d (by omega)
        rw [h5] at c1
        have c1 : w.cell? ⟨b, o + d, none⟩ = some (.int .u8 58) := c1
        have c2 := HB'.out (d + 1 + n) (by omega)
        obtain ⟨u1, hu1⟩ : ∃ u1, u1 = bs.getD (d + 1 + n) 0 := ⟨_, rfl⟩
        rw [← hu1] at c2 hB
        have t4 : (((u1.toNat : Nat) : Int) != 44) = true := neq_u8 (k := 44) (by decide) hB
        have i3 : (d : Int) < (l : Int) := by omega
        have i4 : d < l := by omega
        have i5 : (d : Int) + 1 + (n : Int) < (l : Int) := by omega
        have i6 : (0 : Int) ≤ (d : Int) + 1 + (n : Int) := by omega
        have q1 : ((d : Int) + 1 + (n : Int)).toNat = d + 1 + n := by omega
        clear hu1 hB h5
        go_enter Tryd.func50, Tryd.ntmps50
        go_wp2_with fail
        refine HS.out.mono ?_
        rintro e w1 ⟨rfl, rfl⟩
        go_wp2
        go_ret3
        exact ⟨rfl, rfl⟩
set_option maxRecDepth 20000 in
set_option maxHeartbeats 1000000 in
theorem takeNet_ok (v : Value) (bs x y : List UInt8) (w : World) (h : Bys w v bs) (hrl : bs.length ≤ 1000000000000) (ht : Cod.takeNet bs = some (x, y)) :
    Calls Tryd.prog 50 #[v] w fun e w' => ∃ vx vy, e = .returned (.tuple #[vx, vy, .bool true]) ∧ OwnX 5 w' w.heap.size vx x ∧ OwnX 5 w' w.heap.size vy y ∧ Below w.heap.size w w' := by
  obtain ⟨a, c, rfl⟩ := h.eq_slice
  have hsz := Cod.size_le bs
  obtain ⟨h1, h2, h3, h4, h5, h6, hx, hy⟩ := takeNet_some ht
  clear ht
  have hS := size_calls _ bs w h
  obtain ⟨d, hd⟩ : ∃ d, d = (Cod.size bs).2 := ⟨_, rfl⟩
  obtain ⟨n, hn⟩ : ∃ n, n = (Cod.size bs).1 := ⟨_, rfl⟩
  rw [← hd] at hsz h1 h2 h4 h5 h6 hx hy hS
  rw [← hn] at hsz h3 h4 h6 hx hy hS
  clear hd hn
  obtain ⟨hsz1, hsz2⟩ := hsz
  have HS := Lib.hid hS
  clear hS
  obtain ⟨b, o, rfl, c0⟩ := Bys.byte h 0 (by omega)
  have hcap : bs.length ≤ c ∧ c ≤ maxLen := by
    obtain ⟨_, _, e, k1, k2, _⟩ := id h
    injection e with e1 e2 e3
    subst e3
    exact ⟨k1, k2⟩
  have hm2 : c ≤ 9223372036854775807 := by unfold maxLen at hcap; omega
  have hX : Bys w (.slice (some ⟨b, o + (d + 1), none⟩) n (c - (d + 1))) x := by rw [hx]; exact bys_drop h (d + 1) n _ (by omega) (by omega) (by omega)
  have hY : Bys w (.slice (if c = d + n + 2 then some ⟨b, o, none⟩ else some ⟨b, o + (d + n + 2), none⟩) (bs.length - (d + n + 2)) (c - (d + n + 2))) y := by
    rw [hy]
    split
    · have e : bs.length = d + n + 2 := by omega
      rw [List.drop_eq_nil_of_le (by omega), e, Nat.sub_self]
      exact ⟨some ⟨b, o, none⟩, c - (d + n + 2), rfl, Nat.zero_le _, by omega, fun h => by simp at h⟩
    · have := bys_drop h (d + n + 2) (bs.length - (d + n + 2)) (c - (d + n + 2)) (by omega) (by omega) (by omega)
      rwa [List.take_of_length_le (by simp)] at this
  have hxl : x.length = n := by rw [hx]; simp; omega
  have hyl : y.length ≤ bs.length := by rw [hy]; simp
  have c1 : w.cell? ⟨b, o + d, none⟩ = some (.int .u8 58) := by
    obtain ⟨b', o', e, hc⟩ := Bys.byte h d (by omega)
    cases e; rw [hc, h5]; rfl
  have c2 : w.cell? ⟨b, o + (d + 1 + n), none⟩ = some (.int .u8 44) := by
    obtain ⟨b', o', e, hc⟩ := Bys.byte h (d + 1 + n) (by omega)
    cases e; rw [hc, h6]; rfl
  have c0 : w.cell? ⟨b, o, none⟩ = some (.int .u8 ((bs.getD 0 0).toNat : Nat)) := c0
  obtain ⟨u0, hu0⟩ : ∃ u0, u0 = bs.getD 0 0 := ⟨_, rfl⟩
  rw [← hu0] at c0 h2
  obtain ⟨l, hl'⟩ : ∃ l, l = bs.length := ⟨_, rfl⟩
  rw [← hl'] at hrl HS hsz2 h4 hcap hY hyl ⊢
  have Hxl := Lib.hid hxl
  obtain ⟨hc1, hc2⟩ := hcap
  have Hc2 := Lib.hid hc2
  clear hl' h hu0 hx hy h5 h6 hxl hc2
  have t0 : ((d : Int) == 0) = false := by simp; omega
  have t2 : decide ((16384 : Int) < (n : Int)) = false := by simp; omega
  have t3 : decide ((l : Int) < (d : Int) + (n : Int) + 2) = false := by simp; omega
  have i1 : (0 : Int) < (l : Int) := by omega
  have i2 : 0 < l := by omega
  have i3 : (d : Int) < (l : Int) := by omega
  have i4 : d < l := by omega
  have i5 : (d : Int) + 1 + (n : Int) < (l : Int) := by omega
  have i6 : (0 : Int) ≤ (d : Int) + 1 + (n : Int) := by omega
  have i7 : (d : Int) + 1 + (n : Int) ≤ (c : Int) := by omega
  have i8 : (d : Int) + (n : Int) + 2 ≤ (l : Int) := by omega
  have i9 : (d : Int) + 1 ≤ (d : Int) + 1 + (n : Int) := by omega
  have i10 : ¬ (c = d + 1) := by omega
  have q1 : ((d : Int) + 1 + (n : Int)).toNat = d + 1 + n := by omega
  rcases (show d ≤ 1 ∨ (1 < d ∧ u0 ≠ 48) from by
      rcases Nat.lt_or_ge 1 d with h | h
      · exact .inr ⟨h, fun e => h2 ⟨h, e⟩⟩
      · exact .inl (by omega)) with hd | ⟨hd, hu⟩
  · have t1 : decide ((1 : Int) < (d : Int)) = false := by simp; omega
    clear h2 hd
    go_enter Tryd.func50, Tryd.ntmps50
    go_wp2_with fail
    refine HS.out.mono ?_
    rintro e w1 ⟨rfl, rfl⟩
    go_wp2_with (at_builtin; refine appX E8c rfl _ _ rfl (base := w.heap.size) (bs := []) (news := x) rfl rfl (OwnX.nil _ _ _) hX ?q1 ?q2 ?_)
    case q1 => have := Hxl.out; simp; omega
    case q2 => exact Nat.le_refl _
    intro v2 w2 ho2 hg2
    have hb2 := grown_none hg2 rfl
    clear hg2 c0 c1 c2
    go_wp2_with (at_builtin; refine appX E8c rfl _ _ rfl (base := w.heap.size) (bs := []) (news := y) rfl rfl (OwnX.nil _ _ _) (hY.below hb2) ?q3 ?q4 ?_)
    case q3 => simp; omega
    case q4 => exact hb2.size
    all_goals
      intro v3 w3 ho3 hg3
      have hb3 := grown_none hg3 rfl
      clear hg3
      go_wp2
      go_ret3
      exact ⟨_, _, rfl, ho2.below hb3, ho3, hb2.trans (hb3.mono hb2.size)⟩
  · have t1 : decide ((1 : Int) < (d : Int)) = true := by simp; omega
    have t5 : (((u0.toNat : Nat) : Int) == 48) = false := eq_u8 (k := 48) (by decide) hu
    clear h2 hu
    go_enter Tryd.func50, Tryd.ntmps50
    go_wp2_with fail
    refine HS.out.mono ?_
    rintro e w1 ⟨rfl, rfl⟩
    go_wp2_with (at_builtin; refine appX E8c rfl _ _ rfl (base := w.heap.size) (bs := []) (news := x) rfl rfl (OwnX.nil _ _ _) hX ?q5 ?q6 ?_)
    case q5 => have := Hxl.out; simp; omega
    case q6 => exact Nat.le_refl _
    intro v2 w2 ho2 hg2
    have hb2 := grown_none hg2 rfl
    clear hg2 c0 c1 c2
    go_wp2_with (at_builtin; refine appX E8c rfl _ _ rfl (base := w.heap.size) (bs := []) (news := y) rfl rfl (OwnX.nil _ _ _) (hY.below hb2) ?q7 ?q8 ?_)
    case q7 => simp; omega
    case q8 => exact hb2.size
    all_goals
      intro v3 w3 ho3 hg3
      have hb3 := grown_none hg3 rfl
      clear hg3
      go_wp2
      go_ret3
      exact ⟨_, _, rfl, ho2.below hb3, ho3, hb2.trans (hb3.mono hb2.size)⟩
end Go.Proofs.YtehgnkdfnnebcaaDoor
end
section
namespace Go.Tail
open Go
section
variable {P : Program} {ops : Array Oper} {md : Region.Mode} {C : World → Prop}
end
end Go.Tail
end
section
namespace Go.Proofs.YtehgnkdfnnebcaaDoor
open Go Go.RowKit Go.Mem Gf
attribute [local go_sem ↓] Go.wp_at_zero Go.wp_at_succ
theorem chg4 (w : World) (g : Nat) (u0 u1 u2 u3 : Value) : Chg (fun b => b = g) w ((((w.setCell ⟨g, 0, none⟩ u0).setCell ⟨g, 1, none⟩ u1).setCell ⟨g, 2, none⟩ u2).setCell ⟨g, 3, none⟩ u3) := by
  refine Chg.set (S := fun b => b = g) ?_ (a := ⟨g, 3, none⟩) rfl u3
  refine Chg.set (S := fun b => b = g) ?_ (a := ⟨g, 2, none⟩) rfl u2
  refine Chg.set (S := fun b => b = g) ?_ (a := ⟨g, 1, none⟩) rfl u1
  exact Chg.set (S := fun b => b = g) (Chg.refl _ _) (a := ⟨g, 0, none⟩) rfl u0
theorem getD_old {α : Type} (xs : List α) (x d : α) {j : Nat} (h : j < xs.length) : (xs ++ [x]).getD j d = xs.getD j d := by
  rw [List.getD_eq_getElem?_getD, List.getD_eq_getElem?_getD, List.getElem?_append_left h]
theorem getD_new {α : Type} (xs : List α) (x d : α) {j : Nat} (h : j = xs.length) : (xs ++ [x]).getD j d = x := by
  subst h; rw [List.getD_eq_getElem?_getD, List.getElem?_append_right (Nat.le_refl _)]; simp
def SomeRec (v : Value) : Prop := ∃ (b : Bool) (s : ByteArray) (z : Int) (dv : Value), v = .tuple #[.agg #[.bool b, .string s, .int .i64 z, dv], .bool false] ∧ ∃ a l c, dv = .slice a l c
set_option maxRecDepth 20000 in
set_option maxHeartbeats 2000000 in
theorem parse_calls (v : Value) (bs : List UInt8) (w : World) (h : Bys w v bs) (hl : bs.length ≤ 1000000) :
    Calls Tryd.prog 44 #[v] w fun e w' => Below w.heap.size w w' ∧ ((∃ r, Sto.parse bs = some r ∧ ∃ dv, e = .returned (.tuple #[.agg #[.bool true, .string r.name, .int .i64 r.num, dv], .bool true]) ∧ OwnX 5 w' w.heap.size dv r.data) ∨ (Sto.parse bs = none ∧ ∃ v, e = .returned v ∧ SomeRec v)) := by
  obtain ⟨a, c, rfl⟩ := h.eq_slice
  go_enter Tryd.func44, Tryd.ntmps44
  have h1 : Bys ((w.alloc (.cells #[.bool false, .string { data := #[] }, .int .i64 0, .slice none 0 0] 67)).alloc (.cells #[.slice none 0 0, .slice none 0 0, .slice none 0 0] 91)) (.slice a bs.length c) bs := h.below (((Below.refl _ _).alloc (Nat.le_refl _) _).alloc (by simp) _)
  have hA0 := Blk.new_at (w.alloc (.cells #[.bool false, .string { data := #[] }, .int .i64 0, .slice none 0 0] 67)) #[.slice none 0 0, .slice none 0 0, .slice none 0 0] 91 (w.heap.size + 1) (by simp)
  have hR0 := (Blk.new w #[.bool false, .string { data := #[] }, .int .i64 0, .slice none 0 0] 67).alloc (.cells #[.slice none 0 0, .slice none 0 0, .slice none 0 0] 91)
  have hb0 : Below w.heap.size w ((w.alloc (.cells #[.bool false, .string { data := #[] }, .int .i64 0, .slice none 0 0] 67)).alloc (.cells #[.slice none 0 0, .slice none 0 0, .slice none 0 0] 91)) := ((Below.refl _ _).alloc (Nat.le_refl _) _).alloc (by simp) _
  go_wp2_with fail
  go_loopw [0, 9] (fun u v wr => ∃ (k : Nat) (xs : List (List UInt8)) (r : List UInt8) (v0 v1 v2 : Value), k ≤ 3 ∧ v = .int .i64 k ∧ Hid (Sto.takeN k bs = some (xs, r)) ∧ Bys wr u r ∧ r.length ≤ 1000000 ∧ Blk wr (w.heap.size + 1) #[v0, v1, v2] 91 ∧ Blk wr w.heap.size #[.bool false, .string { data := #[] }, .int .i64 0, .slice none 0 0] 67 ∧
      Hid (0 < k → OwnX 5 wr (w.heap.size + 2) v0 (xs.getD 0 [])) ∧ Hid (1 < k → OwnX 5 wr (w.heap.size + 2) v1 (xs.getD 1 [])) ∧ Hid (2 < k → OwnX 5 wr (w.heap.size + 2) v2 (xs.getD 2 [])) ∧ Below w.heap.size w wr ∧ w.heap.size + 2 ≤ wr.heap.size) (fun _ v _ => 3 - (intOf v).toNat)
  case atStart => exact ⟨0, [], bs, _, _, _, by omega, rfl, rfl, h1, hl, hA0, hR0, fun h => by omega, fun h => by omega, fun h => by omega, hb0, by simp⟩
  case round =>
    clear h1 hA0 hR0 hb0 h
    obtain ⟨k, xs, r, v0, v1, v2, hk, rfl, Hk, hr, hrl, hA, hR, h0, h1, h2, hb, hs⟩ := hrel
    by_cases hk3 : k < 3
    · obtain ⟨va, vc, rfl⟩ := hr.eq_slice
      have Hr := Lib.hid hR; have Ha := Lib.hid hA
      cases ht : Cod.takeNet r with
      | none =>
        have Hp := Lib.hid (show Sto.parse bs = none from by
          have h3 : ∀ j, k < j → Sto.takeN j bs = none := by
            intro j hj
            induction j with
            | zero => omega
            | succ j ih =>
              rw [Sto.takeN]
              by_cases e : j = k
              · subst e; rw [Hk.out]; simp only [ht]
              · rw [ih (by omega)]
          unfold Sto.parse; rw [h3 3 hk3])
        have Ht := Lib.hid ht
        clear ht
        go_wp2_with fail
        refine (takeNet_bad _ r wr hr (by omega) Ht.out).mono ?_
        rintro e w2 ⟨rfl, rfl⟩
        have d0 : wr.cell? ⟨w.heap.size, 0, none⟩ = some (.bool false) := by rw [Hr.out.cell]; rfl
        have d1 : wr.cell? ⟨w.heap.size, 1, none⟩ = some (.string { data := #[] }) := by rw [Hr.out.cell]; rfl
        have d2 : wr.cell? ⟨w.heap.size, 2, none⟩ = some (.int .i64 0) := by rw [Hr.out.cell]; rfl
        have d3 : wr.cell? ⟨w.heap.size, 3, none⟩ = some (.slice none 0 0) := by rw [Hr.out.cell]; rfl
        have f0 := Hr.out.free 0; have f1 := Hr.out.free 1; have f2 := Hr.out.free 2; have f3 := Hr.out.free 3
        have c0 : wr.cell? ⟨w.heap.size + 1, 0, none⟩ = some v0 := by rw [Ha.out.cell]; rfl
        have c1 : wr.cell? ⟨w.heap.size + 1, 1, none⟩ = some v1 := by rw [Ha.out.cell]; rfl
        have c2 : wr.cell? ⟨w.heap.size + 1, 2, none⟩ = some v2 := by rw [Ha.out.cell]; rfl
        have g0 := Ha.out.free 0; have g1 := Ha.out.free 1; have g2 := Ha.out.free 2
        clear hA hR hr Ht
        rcases (show k = 0 ∨ k = 1 ∨ k = 2 from by omega) with rfl | rfl | rfl
        all_goals
          go_wp2
          refine bodyPost_ret (v := .tuple #[.agg #[.bool false, .string { data := #[] }, .int .i64 0, .slice none 0 0], .bool false]) (by simp [results, Tryd.results44, go_sem, d0, d1, d2, d3]) rfl ⟨?_, .inr ⟨Hp.out, _, rfl, false, _, 0, _, rfl, _, _, _, rfl⟩⟩
          exact ((((hb.setCell (by simp) _).setCell (by simp) _).setCell (by simp) _).setCell (by simp) _).setCell (by simp) _
      | some q =>
        obtain ⟨x, y⟩ := q
        have Ht := Lib.hid ht
        clear ht
        go_wp2_with fail
        refine (takeNet_ok _ r x y wr hr (by omega) Ht.out).mono ?_
        rintro e w2 ⟨vx, vy, rfl, hx, hy, hb2⟩
        have hA2 := hA.kept hb2
        have hR2 := hR.kept hb2
        have hxl : x.length ≤ 1000000 ∧ y.length ≤ 1000000 := by
          obtain ⟨_, _, _, h4, _, _, h7, h8⟩ := takeNet_some Ht.out
          exact ⟨by rw [h7]; simp; omega, by rw [h8]; simp; omega⟩
        have Hn := Lib.hid (show Sto.takeN (k + 1) bs = some (xs ++ [x], y) from by rw [Sto.takeN, Hk.out]; simp only [Ht.out])
        have Hl := Lib.hid (Sto.takeN_len _ _ _ _ Hk.out)
        have c0 : w2.cell? ⟨w.heap.size + 1, 0, none⟩ = some v0 := by rw [hA2.cell]; rfl
        have c1 : w2.cell? ⟨w.heap.size + 1, 1, none⟩ = some v1 := by rw [hA2.cell]; rfl
        have c2 : w2.cell? ⟨w.heap.size + 1, 2, none⟩ = some v2 := by rw [hA2.cell]; rfl
        have g0 := hA2.free 0; have g1 := hA2.free 1; have g2 := hA2.free 2
        obtain ⟨xa, xc, rfl⟩ := hx.eq_slice
        have Hx := Lib.hid hx; have Hy := Lib.hid hy; have HA2 := Lib.hid hA2; have HR2 := Lib.hid hR2; have Hb2 := Lib.hid hb2; have Hr' := Lib.hid hr
        clear hA hR hx hy hA2 hR2 hb2 hr
        have hs2 := Hb2.out.size
        have hC : ∀ j v, Chg (fun b => b = w.heap.size + 1) wr (w2.setCell ⟨w.heap.size + 1, j, none⟩ v) := fun j v => Chg.set (S := fun b => b = w.heap.size + 1) (Chg.of_below Hb2.out) (a := ⟨w.heap.size + 1, j, none⟩) rfl v
        have hC2 : ∀ j v, Chg (fun b => b = w.heap.size + 1) w2 (w2.setCell ⟨w.heap.size + 1, j, none⟩ v) := fun j v => Chg.set (S := fun b => b = w.heap.size + 1) (Chg.refl _ _) (a := ⟨w.heap.size + 1, j, none⟩) rfl v
        have HC := Lib.hid hC; have HC2 := Lib.hid hC2
        have hap : ∀ (v : Value) (bs : List UInt8) (w' : World), OwnX 5 w' (w.heap.size + 2) v bs → ∀ g, v.ownBlock = some g → ¬ g = w.heap.size + 1 := fun v bs w' ho g hg => by have := (ho.lt g hg).1; omega
        have Hap := Lib.hid hap
        have HX := Lib.hid (fun j v => (Hx.out.mono hs).chg (hC2 j v) (hap _ _ _ (Hx.out.mono hs)))
        have HY := Lib.hid (fun j v => ((Hy.out.mono hs).chg (hC2 j v) (hap _ _ _ (Hy.out.mono hs))).bys)
        have HB := Lib.hid (fun j v => (show Below w.heap.size w (w2.setCell ⟨w.heap.size + 1, j, none⟩ v) from (hb.trans (Hb2.out.mono hb.size)).setCell (show w.heap.size ≤ w.heap.size + 1 by omega) v))
        have HR3 := Lib.hid (fun j v => HR2.out.set_other (a := ⟨w.heap.size + 1, j, none⟩) (show w.heap.size + 1 ≠ w.heap.size by omega) v)
        have HA3 := Lib.hid (fun j v => HA2.out.set j v)
        have Hge := Lib.hid (show w.heap.size + 2 ≤ w2.heap.size by omega)
        clear hC hC2 hap
        rcases (show k = 0 ∨ k = 1 ∨ k = 2 from by omega) with rfl | rfl | rfl
        · go_wp2
          exact ⟨⟨1, xs ++ [x], y, _, v1, v2, by decide, rfl, Hn.out, HY.out 0 _, hxl.2, by simpa using HA3.out 0 _, HR3.out 0 _, (fun _ => by rw [getD_new _ _ _ Hl.out.symm]; exact HX.out 0 _), (fun h => by omega), (fun h => by omega), HB.out 0 _, by simpa using Hge.out⟩, by simp [intOf]⟩
        · go_wp2
          exact ⟨⟨2, xs ++ [x], y, v0, _, v2, by decide, rfl, Hn.out, HY.out 1 _, hxl.2, by simpa using HA3.out 1 _, HR3.out 1 _, (fun _ => by rw [getD_old _ _ _ (by rw [Hl.out]; decide)]; exact (h0.out (by decide)).chg (HC.out 1 _) (Hap.out _ _ _ (h0.out (by decide)))), (fun _ => by rw [getD_new _ _ _ Hl.out.symm]; exact HX.out 1 _), (fun h => by omega), HB.out 1 _, by simpa using Hge.out⟩, by simp [intOf]⟩
        · go_wp2
          exact ⟨⟨3, xs ++ [x], y, v0, v1, _, by decide, rfl, Hn.out, HY.out 2 _, hxl.2, by simpa using HA3.out 2 _, HR3.out 2 _, (fun _ => by rw [getD_old _ _ _ (by rw [Hl.out]; decide)]; exact (h0.out (by decide)).chg (HC.out 2 _) (Hap.out _ _ _ (h0.out (by decide)))), (fun _ => by rw [getD_old _ _ _ (by rw [Hl.out]; decide)]; exact (h1.out (by decide)).chg (HC.out 2 _) (Hap.out _ _ _ (h1.out (by decide)))), (fun _ => by rw [getD_new _ _ _ Hl.out.symm]; exact HX.out 2 _), HB.out 2 _, by simpa using Hge.out⟩, by simp [intOf]⟩
    · obtain rfl : k = 3 := by omega
      have o0 := h0.out (by decide)
      have o1 := h1.out (by decide)
      have o2 := h2.out (by decide)
      obtain ⟨x0, hx0⟩ : ∃ x, x = xs.getD 0 [] := ⟨_, rfl⟩
      obtain ⟨x1, hx1⟩ : ∃ x, x = xs.getD 1 [] := ⟨_, rfl⟩
      obtain ⟨x2, hx2⟩ : ∃ x, x = xs.getD 2 [] := ⟨_, rfl⟩
      have HP := Lib.hid (show Sto.parse bs = if x1.length = 4 then some ⟨true, ⟨x0.toArray⟩, Cod.getN x1, x2⟩ else none from by
        unfold Sto.parse; rw [Hk.out, hx0, hx1, hx2])
      rw [← hx0] at o0; rw [← hx1] at o1; rw [← hx2] at o2
      clear hx0 hx1 hx2 h0 h1 h2 hr
      have d0 : wr.cell? ⟨w.heap.size, 0, none⟩ = some (.bool false) := by rw [hR.cell]; rfl
      have d1 : wr.cell? ⟨w.heap.size, 1, none⟩ = some (.string { data := #[] }) := by rw [hR.cell]; rfl
      have d2 : wr.cell? ⟨w.heap.size, 2, none⟩ = some (.int .i64 0) := by rw [hR.cell]; rfl
      have d3 : wr.cell? ⟨w.heap.size, 3, none⟩ = some (.slice none 0 0) := by rw [hR.cell]; rfl
      have f0 := hR.free 0; have f1 := hR.free 1; have f2 := hR.free 2; have f3 := hR.free 3
      have c0 : wr.cell? ⟨w.heap.size + 1, 0, none⟩ = some v0 := by rw [hA.cell]; rfl
      have c1 : wr.cell? ⟨w.heap.size + 1, 1, none⟩ = some v1 := by rw [hA.cell]; rfl
      have c2 : wr.cell? ⟨w.heap.size + 1, 2, none⟩ = some v2 := by rw [hA.cell]; rfl
      obtain ⟨z, hz⟩ : ∃ z : Nat × Bool, (x1.length ≤ 7 → z.1 = Cod.getN x1) ∧ Calls Tryd.prog 51 #[v1] wr fun e w' => e = .returned (.tuple #[.int .i64 (z.1 : Nat), .bool z.2]) ∧ wr = w' := by
        by_cases h7 : x1.length ≤ 7
        · exact ⟨(Cod.getN x1, true), fun _ => rfl, get_calls _ _ _ o1.bys h7⟩
        · exact ⟨(0, false), fun h => absurd h h7, get_bad _ _ _ o1.bys (by omega)⟩
      obtain ⟨z, zb⟩ := z
      obtain ⟨hz1, hz2⟩ := hz
      have HZ1 := Lib.hid hz1; have HZ2 := Lib.hid hz2
      have HO2 := Lib.hid o2; have HR := Lib.hid hR; have HA := Lib.hid hA
      obtain ⟨a1, b1, rfl⟩ := o1.eq_slice
      obtain ⟨a0, b0, rfl⟩ := o0.eq_slice
      have HO0 := Lib.hid o0
      obtain ⟨a2, b2, rfl⟩ := o2.eq_slice
      clear hz1 hz2 o0 o1 o2 hR hA
      go_wp2_with fail
      refine HZ2.out.mono ?_
      rintro e w2 ⟨rfl, rfl⟩
      go_wp2_with fail
      have hcv1 : Bys wr.drew (.slice a0 x0.length b0) x0 := HO0.out.drew.bys
      have hs0 : wr.drew.cell? ⟨w.heap.size + 1, 0, none⟩ = some (.slice a0 x0.length b0) := c0
      have hs1 : wr.drew.cell? ⟨w.heap.size + 1, 1, none⟩ = some (.slice a1 x1.length b1) := c1
      have hs2 : wr.drew.cell? ⟨w.heap.size + 1, 2, none⟩ = some (.slice a2 x2.length b2) := c2
      have H0 := Lib.hid (And.intro hs0 (And.intro hs1 (And.intro hs2 hcv1)))
      have hcvr : ∀ w', Bys w' (.slice a0 x0.length b0) x0 → (convert 31 9 (.slice a0 x0.length b0)).run Tryd.prog w' = .ok (.string ⟨x0.toArray⟩) w' := fun w' hB => conv_string hB
      clear hs0 hs1 hs2 hcv1 c0 c1 c2
      have hO1 : ∀ u0 u1 u2 u3, Bys ((((wr.setCell ⟨w.heap.size, 0, none⟩ u0).setCell ⟨w.heap.size, 1, none⟩ u1).setCell ⟨w.heap.size, 2, none⟩ u2).setCell ⟨w.heap.size, 3, none⟩ u3).drew (.slice a0 x0.length b0) x0 := fun u0 u1 u2 u3 => by
        have h1 := chg4 wr w.heap.size u0 u1 u2 u3
        have h2 := HO0.out.chg h1 (fun g hg e => by have := (HO0.out.lt g hg).1; omega)
        exact h2.bys
      have HO1 := Lib.hid hO1
      clear hO1
      have HS : ∀ u0 u1 u2 u3, Hid (((((wr.setCell ⟨w.heap.size, 0, none⟩ u0).setCell ⟨w.heap.size, 1, none⟩ u1).setCell ⟨w.heap.size, 2, none⟩ u2).setCell ⟨w.heap.size, 3, none⟩ u3).drew.cell? ⟨w.heap.size + 1, 0, none⟩ = some (.slice a0 x0.length b0) ∧ ((((wr.setCell ⟨w.heap.size, 0, none⟩ u0).setCell ⟨w.heap.size, 1, none⟩ u1).setCell ⟨w.heap.size, 2, none⟩ u2).setCell ⟨w.heap.size, 3, none⟩ u3).drew.cell? ⟨w.heap.size + 1, 1, none⟩ = some (.slice a1 x1.length b1) ∧
          ((((wr.setCell ⟨w.heap.size, 0, none⟩ u0).setCell ⟨w.heap.size, 1, none⟩ u1).setCell ⟨w.heap.size, 2, none⟩ u2).setCell ⟨w.heap.size, 3, none⟩ u3).drew.cell? ⟨w.heap.size + 1, 2, none⟩ = some (.slice a2 x2.length b2) ∧
          Bys ((((wr.setCell ⟨w.heap.size, 0, none⟩ u0).setCell ⟨w.heap.size, 1, none⟩ u1).setCell ⟨w.heap.size, 2, none⟩ u2).setCell ⟨w.heap.size, 3, none⟩ u3).drew (.slice a0 x0.length b0) x0) := fun u0 u1 u2 u3 => by
        have hA' := (((HA.out.set_other (a := ⟨w.heap.size, 0, none⟩) (show w.heap.size ≠ w.heap.size + 1 by omega) u0).set_other (a := ⟨w.heap.size, 1, none⟩) (show w.heap.size ≠ w.heap.size + 1 by omega) u1).set_other (a := ⟨w.heap.size, 2, none⟩) (show w.heap.size ≠ w.heap.size + 1 by omega) u2).set_other (a := ⟨w.heap.size, 3, none⟩) (show w.heap.size ≠ w.heap.size + 1 by omega) u3
        exact ⟨hA'.cell 0, hA'.cell 1, hA'.cell 2, HO1.out u0 u1 u2 u3⟩
      go_region_held3 (fun w' => w'.cell? ⟨w.heap.size + 1, 0, none⟩ = some (.slice a0 x0.length b0) ∧ w'.cell? ⟨w.heap.size + 1, 1, none⟩ = some (.slice a1 x1.length b1) ∧ w'.cell? ⟨w.heap.size + 1, 2, none⟩ = some (.slice a2 x2.length b2) ∧ Bys w' (.slice a0 x0.length b0) x0) (first | with_reducible exact H0.out | with_reducible exact (HS _ _ _ _).out) (fail)
      have hbel : ∀ u0 u1 u2 u3, Below w.heap.size w ((((wr.setCell ⟨w.heap.size, 0, none⟩ u0).setCell ⟨w.heap.size, 1, none⟩ u1).setCell ⟨w.heap.size, 2, none⟩ u2).setCell ⟨w.heap.size, 3, none⟩ u3) := fun u0 u1 u2 u3 => (((hb.setCell (Nat.le_refl _) _).setCell (Nat.le_refl _) _).setCell (Nat.le_refl _) _).setCell (Nat.le_refl _) _
      have hown : ∀ u0 u1 u2 u3, OwnX 5 ((((wr.setCell ⟨w.heap.size, 0, none⟩ u0).setCell ⟨w.heap.size, 1, none⟩ u1).setCell ⟨w.heap.size, 2, none⟩ u2).setCell ⟨w.heap.size, 3, none⟩ u3) w.heap.size (.slice a2 x2.length b2) x2 := fun u0 u1 u2 u3 => (HO2.out.chg (chg4 wr w.heap.size u0 u1 u2 u3) (fun g hg e => by have := (HO2.out.lt g hg).1; omega)).mono (by omega)
      have HBEL := Lib.hid hbel; have HOWN := Lib.hid hown
      clear hbel hown HS
      go_wp2
      refine bodyPost_ret (v := .tuple #[.agg #[.bool true, .string ⟨x0.toArray⟩, .int .i64 (z : Int), .slice a2 x2.length b2], .bool ((x1.length : Int) == 4)]) (by simp [results, Tryd.results44, go_sem, d0, d1, d2, d3]) rfl ⟨below_drewN (HBEL.out _ _ _ _) 1, ?_⟩
      by_cases h4 : x1.length = 4
      · have e1 : ((x1.length : Int) == 4) = true := by simp; omega
        rw [e1]
        have := HZ1.out (by omega)
        subst this
        exact .inl ⟨_, by rw [HP.out, if_pos h4], _, rfl, (HOWN.out _ _ _ _).drew⟩
      · have e1 : ((x1.length : Int) == 4) = false := by simp; omega
        rw [e1]
        exact .inr ⟨by rw [HP.out, if_neg h4], _, rfl, _, _, _, _, rfl, _, _, _, rfl⟩
end Go.Proofs.YtehgnkdfnnebcaaDoor
end
section
namespace Go.Mem
open Go Go.RowKit Gf
def Tri (sb d L : Nat) (b : Nat) : Prop := b = sb ∨ b = d ∨ b = L
theorem Blk.chg4 {w : World} {b g : Nat} {arr : Array Value} {t : TypeId} (h : Blk w b arr t) (hg : b ≠ g) (u0 u1 u2 u3 : Value) : Blk ((((w.setCell ⟨g, 0, none⟩ u0).setCell ⟨g, 1, none⟩ u1).setCell ⟨g, 2, none⟩ u2).setCell ⟨g, 3, none⟩ u3) b arr t :=
  (((h.set_other (a := ⟨g, 0, none⟩) (fun e => hg e.symm) u0).set_other (a := ⟨g, 1, none⟩) (fun e => hg e.symm) u1).set_other (a := ⟨g, 2, none⟩) (fun e => hg e.symm) u2).set_other (a := ⟨g, 3, none⟩) (fun e => hg e.symm) u3
theorem chg_new2 {S T : Nat → Prop} {w w' w'' : World} (h : Chg S w w') (h' : Chg T w' w'') (hT : ∀ k, T k → w.heap.size ≤ k) : Chg S w w'' :=
  ⟨h'.os.trans h.os, h'.tape.trans h.tape, h'.output.trans h.output, Nat.le_trans h.size h'.size, fun k hk hs => (h'.block k (Nat.lt_of_lt_of_le hk h.size) fun ht => by have := hT k ht; omega).trans (h.block k hk hs)⟩
end Go.Mem
namespace Go.Proofs.YtehgnkdfnnebcaaDoor
open Go Go.RowKit Go.Mem Gf
attribute [local go_sem ↓] Go.wp_at_zero Go.wp_at_succ
theorem chg1 (w : World) (g i : Nat) (v : Value) : Chg (fun b => b = g) w (w.setCell ⟨g, i, none⟩ v) := Chg.set (S := fun b => b = g) (Chg.refl _ _) (a := ⟨g, i, none⟩) rfl v
def stV (d room : Nat) (la : Option Addr) (n lc : Nat) (dead : Bool) : Array Value := #[.pointer (some ⟨d, 0, none⟩), .int .i64 room, .slice la n lc, .bool dead]
set_option maxRecDepth 20000 in
set_option maxHeartbeats 2000000 in
theorem free_new (sb d L room n lc i : Nat) (la : Option Addr) (dead : Bool) (D : DiskS) (w : World) (hS : Blk w sb (stV d room la n lc dead) 65) (hD : IsDisk w d L D) (hne : sb ≠ d ∧ sb ≠ L) (hi : n ≤ i) (hi2 : i ≤ 1024) (hr : room ≤ 1024) (hw : D.writes < 4611686018427387904) :
    Calls Tryd.prog 36 #[.pointer (some ⟨sb, 0, none⟩), .int .i64 i] w fun e w' => e = .returned (.int .i64 (D.wres (i * (room + 1) : Nat) 1)) ∧ Blk w' sb (stV d room la n lc (dead || (D.wres (i * (room + 1) : Nat) 1 != 0))) 65 ∧ IsDisk w' d L (D.wr (i * (room + 1) : Nat) [0]) ∧ Chg (Tri sb d L) w w' := by
  obtain ⟨z, hz⟩ : ∃ z, z = D.wres (i * (room + 1) : Nat) 1 := ⟨_, rfl⟩
  have c0 : w.cell? ⟨sb, 0, none⟩ = some (.pointer (some ⟨d, 0, none⟩)) := by rw [hS.cell]; rfl
  have c1 : w.cell? ⟨sb, 1, none⟩ = some (.int .i64 room) := by rw [hS.cell]; rfl
  have d0 : (w.alloc (.cells #[.int .u8 0] 5)).cell? ⟨sb, 0, none⟩ = some (.pointer (some ⟨d, 0, none⟩)) := by rw [(hS.alloc _).cell]; rfl
  have d1 : (w.alloc (.cells #[.int .u8 0] 5)).cell? ⟨sb, 1, none⟩ = some (.int .i64 room) := by rw [(hS.alloc _).cell]; rfl
  have hb0 : Below w.heap.size w (w.alloc (.cells #[.int .u8 0] 5)).drew := below_drewN ((Below.refl _ _).alloc (Nat.le_refl _) _) 1
  have q1 : IntKind.i64.wrap ((room : Int) + 1) = (room : Int) + 1 := IntWalk.i64_in _ (by omega)
  have hm : i * (room + 1) ≤ 1024 * 1025 := Nat.mul_le_mul hi2 (by omega)
  have e2 : (i : Int) * ((room : Int) + 1) = ((i * (room + 1) : Nat) : Int) := by push_cast; rfl
  have q2 : IntKind.i64.wrap ((i : Int) * ((room : Int) + 1)) = (i : Int) * ((room : Int) + 1) := IntWalk.i64_in _ (by rw [e2]; omega)
  rw [← hz]
  have HS := Lib.hid hS; have HD := Lib.hid hD; have Hz := Lib.hid hz; have E2 := Lib.hid e2; have Hb0 := Lib.hid hb0
  clear hS hD hz e2 hm hb0
  go_enter Tryd.func36, Tryd.ntmps36
  go_wp2_with fail
  go_region_held3 (fun w' => w'.cell? ⟨sb, 0, none⟩ = some (.pointer (some ⟨d, 0, none⟩)) ∧ w'.cell? ⟨sb, 1, none⟩ = some (.int .i64 room)) (first | exact ⟨c0, c1⟩ | exact ⟨d0, d1⟩ | assumption)
    (first
      | (go_at_call 7
         rw [E2.out]
         refine (dwrite_any d L D (i * (room + 1) : Nat) _ [0] _ (HD.out.below Hb0.out) (Bys.drewN (bys_one w 0 (.int .u8 0) rfl 5) 1) hw).mono ?_
         rintro e w2 ⟨rfl, hD2, hc2⟩
         have hS2 := hc2.blk (HS.out.kept Hb0.out) (fun h => by rcases h with h | h; exact hne.1 h; exact hne.2 h)
         have hh : w2.cell? ⟨sb, 0, none⟩ = some (.pointer (some ⟨d, 0, none⟩)) ∧ w2.cell? ⟨sb, 1, none⟩ = some (.int .i64 room) := ⟨hS2.cell 0, hS2.cell 1⟩
         rw [show ([0] : List UInt8).length = 1 from rfl, ← Hz.out]))
  have HS2 := Lib.hid hS2; have HD2 := Lib.hid hD2
  have HC2 := Lib.hid (show Chg (Tri sb d L) w w2 from (Chg.of_below Hb0.out).trans (hc2.mono fun b h => .inr h))
  have g2 : w2.cell? ⟨sb, 2, none⟩ = some (.slice la n lc) := hS2.cell 2
  have g3 : w2.cell? ⟨sb, 3, none⟩ = some (.bool dead) := hS2.cell 3
  have f3 := hS2.free 3
  clear hS2 hD2 hc2 hh q1 q2 c0 c1 d0 d1
  by_cases h0 : z = 0
  · subst h0
    go_wp2
    go_ret
    exact ⟨rfl, by simpa using HS2.out, HD2.out, HC2.out⟩
  · have t0 : (z != 0) = true := by simpa using h0
    clear h0
    go_wp2
    go_ret
    refine ⟨rfl, ?_, HD2.out.chg (chg1 _ _ _ _) (fun e => hne.1 e.symm) (fun e => hne.2 e.symm), HC2.out.set (.inl rfl) _⟩
    rw [t0, Bool.or_true]
    exact HS2.out.set 3 (.bool true)
def slotB (D : DiskS) (room i : Nat) : Nat → List UInt8
  | 0 => []
  | k + 1 => slotB D room i k ++ D.sector (i * (room + 1) + 1 + k)
theorem slotB_len (D : DiskS) (room i k : Nat) : (slotB D room i k).length = k * 32 := by
  induction k with
  | zero => rfl
  | succ k ih => rw [slotB, List.length_append, ih, sector_len]; omega
def readR (D : DiskS) (room i : Nat) : Sto.Rec × Int × Bool :=
  if D.dead = true then (Sto.Rec.free, 8, false)
  else if D.f (i * (room + 1) * 32) ≠ 1 then (Sto.Rec.free, 0, false)
  else match Sto.parse (slotB D room i room) with
    | some r => (r, 0, false)
    | none => (Sto.Rec.free, D.wres (i * (room + 1) : Nat) 1, true)
def recV (r : Sto.Rec) (dv : Value) : Array Value := #[.bool r.is, .string r.name, .int .i64 r.num, dv]
def ReadPost (sb d L room n lc i : Nat) (la : Option Addr) (dead : Bool) (D : DiskS) (w : World) (e : Ending) (w' : World) : Prop :=
  ∃ dv, e = .returned (.tuple #[.agg (recV (readR D room i).1 dv), .int .i64 (readR D room i).2.1]) ∧ OwnX 5 w' w.heap.size dv (readR D room i).1.data ∧
      Blk w' sb (stV d room la n lc (dead || ((readR D room i).2.2 && ((readR D room i).2.1 != 0)))) 65 ∧ IsDisk w' d L (if (readR D room i).2.2 = true then D.wr (i * (room + 1) : Nat) [0] else D) ∧ Chg (Tri sb d L) w w'
set_option maxRecDepth 20000 in
set_option maxHeartbeats 4000000 in
theorem read_calls (sb d L room n lc i : Nat) (la : Option Addr) (dead : Bool) (D : DiskS) (w : World) (hS : Blk w sb (stV d room la n lc dead) 65) (hD : IsDisk w d L D) (hne : sb ≠ d ∧ sb ≠ L) (hi : n ≤ i) (hi2 : i ≤ 1024) (hr : room ≤ 1024) (hr1 : 1 ≤ room) (hin : (i + 1) * (room + 1) ≤ D.n) (hw : D.writes < 4611686018427387904) :
    Calls Tryd.prog 34 #[.pointer (some ⟨sb, 0, none⟩), .int .i64 i] w (ReadPost sb d L room n lc i la dead D w) := by
  have c0 : w.cell? ⟨sb, 0, none⟩ = some (.pointer (some ⟨d, 0, none⟩)) := by rw [hS.cell]; rfl
  have c1 : w.cell? ⟨sb, 1, none⟩ = some (.int .i64 room) := by rw [hS.cell]; rfl
  have hmul : (i + 1) * (room + 1) = i * (room + 1) + (room + 1) := by rw [Nat.add_mul, Nat.one_mul]
  have hn2 : D.n ≤ 4096 := by obtain ⟨_, _, _, _, _, _, _, _, _, h, _⟩ := hD; exact h
  obtain ⟨m, hm⟩ : ∃ m, m = i * (room + 1) := ⟨_, rfl⟩
  have e2 : (i : Int) * ((room : Int) + 1) = (m : Int) := by rw [hm]; push_cast; rfl
  rw [hmul, ← hm] at hin
  have hb0 : Below w.heap.size w ((w.alloc (.cells #[.bool false, .string { data := #[] }, .int .i64 0, .slice none 0 0] 67)).drew) := below_drewN ((Below.refl _ _).alloc (Nat.le_refl _) _) 1
  have hR0 := Blk.new w #[.bool false, .string { data := #[] }, .int .i64 0, .slice none 0 0] 67
  have d0 : (w.alloc (.cells #[.bool false, .string { data := #[] }, .int .i64 0, .slice none 0 0] 67)).cell? ⟨sb, 0, none⟩ = some (.pointer (some ⟨d, 0, none⟩)) := by rw [(hS.alloc _).cell]; rfl
  have d1 : (w.alloc (.cells #[.bool false, .string { data := #[] }, .int .i64 0, .slice none 0 0] 67)).cell? ⟨sb, 1, none⟩ = some (.int .i64 room) := by rw [(hS.alloc _).cell]; rfl
  have q1 : IntKind.i64.wrap ((room : Int) + 1) = (room : Int) + 1 := IntWalk.i64_in _ (by omega)
  have q2 : IntKind.i64.wrap ((i : Int) * ((room : Int) + 1)) = (i : Int) * ((room : Int) + 1) := IntWalk.i64_in _ (by rw [e2]; omega)
  have HS := Lib.hid hS; have HD := Lib.hid hD; have Hb0 := Lib.hid hb0; have E2 := Lib.hid e2; have Hm := Lib.hid hm; have HR0 := Lib.hid hR0
  clear hS hD hb0 e2 hm hR0 hmul
  go_enter Tryd.func34, Tryd.ntmps34
  go_wp2_with fail
  go_region_held3 (fun w' => w'.cell? ⟨sb, 0, none⟩ = some (.pointer (some ⟨d, 0, none⟩)) ∧ w'.cell? ⟨sb, 1, none⟩ = some (.int .i64 room)) (first | exact ⟨d0, d1⟩ | assumption)
    (first
      | (go_at_call 26
         rw [E2.out]
         refine (dread_any d L D (m : Nat) _ (HD.out.below Hb0.out)).mono ?_
         rintro e w2 ⟨rv, rfl, hrv, hb2⟩
         have hbox2 := HR0.out.drew.below hb2 (by simp)
         have hb2 : Below w.heap.size w w2 := Hb0.out.trans (hb2.mono (by simp))
         have hS2 := HS.out.kept hb2
         have hh : w2.cell? ⟨sb, 0, none⟩ = some (.pointer (some ⟨d, 0, none⟩)) ∧ w2.cell? ⟨sb, 1, none⟩ = some (.int .i64 room) := ⟨hS2.cell 0, hS2.cell 1⟩))
  have hR2 : Blk w2 w.heap.size #[.bool false, .string { data := #[] }, .int .i64 0, .slice none 0 0] 67 := hbox2
  have HRV := Lib.hid hrv; have HS2 := Lib.hid hS2; have HB2 := Lib.hid hb2; have HR2 := Lib.hid hR2
  have d0 : w2.cell? ⟨w.heap.size, 0, none⟩ = some (.bool false) := hR2.cell 0
  have d1 : w2.cell? ⟨w.heap.size, 1, none⟩ = some (.string { data := #[] }) := hR2.cell 1
  have d2 : w2.cell? ⟨w.heap.size, 2, none⟩ = some (.int .i64 0) := hR2.cell 2
  have d3 : w2.cell? ⟨w.heap.size, 3, none⟩ = some (.slice none 0 0) := hR2.cell 3
  have f0 := hR2.free 0; have f1 := hR2.free 1; have f2 := hR2.free 2; have f3 := hR2.free 3
  clear hrv hS2 hb2 hR2 hh hbox2 c0 c1 q1 q2
  have HF := Lib.hid (chg4 w2 w.heap.size)
  by_cases hdead : D.dead = true
  · have Hrr := Lib.hid (show D.rres (m : Nat) = 8 from by unfold DiskS.rres; rw [if_pos (DiskS.may_yes (by omega)), if_pos hdead])
    have HRD := Lib.hid (show readR D room i = (Sto.Rec.free, 8, false) from by unfold readR; rw [if_pos hdead])
    clear hdead
    rw [Hrr.out]
    go_wp2
    refine bodyPost_ret (v := .tuple #[.agg #[.bool false, .string { data := #[] }, .int .i64 0, .slice none 0 0], .int .i64 8]) (by simp [results, Tryd.results34, go_sem, d0, d1, d2, d3]) rfl ?_
    unfold ReadPost
    rw [HRD.out]
    exact ⟨_, rfl, OwnX.nil _ _ _, by simpa using (HS2.out.chg4 (show sb ≠ w.heap.size from Nat.ne_of_lt HS.out.lt) _ _ _ _), IsDisk.chg (HD.out.below HB2.out) (HF.out _ _ _ _) (fun e => by have := HD.out.lt.1; omega) (fun e => by have := HD.out.lt.2; omega), chg_new2 (Chg.of_below HB2.out) (HF.out _ _ _ _) (fun k hk => by omega)⟩
  · have hdead : D.dead = false := by simpa using hdead
    have Hrr := Lib.hid (show D.rres (m : Nat) = 0 from by unfold DiskS.rres; rw [if_pos (DiskS.may_yes (by omega)), if_neg (by rw [hdead]; decide)])
    have Hrd := Lib.hid (show D.rd (m : Nat) = D.sector m from by unfold DiskS.rd; rw [if_pos ⟨DiskS.may_yes (by omega), hdead⟩]; simp)
    have hrv := HRV.out
    rw [Hrd.out] at hrv
    obtain ⟨ra, rc, rfl⟩ := hrv.bys.eq_slice
    obtain ⟨b1, o1, e1, g0⟩ := Bys.byte hrv.bys 0 (by rw [sector_len]; decide)
    subst e1
    have g0 : w2.cell? ⟨b1, o1, none⟩ = some (.int .u8 ((D.f (m * 32)).toNat : Nat)) := by
      have e : (D.sector m).getD 0 0 = D.f (m * 32) := by rw [List.getD_eq_getElem?_getD, sector_get _ _ _ (by decide)]; rfl
      rw [← e]; exact g0
    rw [sector_len, Hrr.out]
    have Hdead := Lib.hid hdead
    clear hrv hdead
    by_cases h1 : D.f (m * 32) = 1
    · rw [h1] at g0
      have g0 : w2.cell? ⟨b1, o1, none⟩ = some (.int .u8 1) := g0
      have H1 := Lib.hid h1
      clear h1
      go_wp2_with fail
      have Q1 := Lib.hid (show IntKind.i64.wrap ((room : Int) + 1) = (room : Int) + 1 from IntWalk.i64_in _ (by omega))
      have Q2 := Lib.hid (show IntKind.i64.wrap ((i : Int) * ((room : Int) + 1)) = (i : Int) * ((room : Int) + 1) from IntWalk.i64_in _ (by rw [E2.out]; omega))
      have Q3 := Lib.hid (show IntKind.i64.wrap ((i : Int) * ((room : Int) + 1) + 1) = (i : Int) * ((room : Int) + 1) + 1 from IntWalk.i64_in _ (by rw [E2.out]; omega))
      have Q4 := Lib.hid (fun (k : Nat) (hk : k < room) => (show IntKind.i64.wrap ((i : Int) * ((room : Int) + 1) + 1 + (k : Int)) = (i : Int) * ((room : Int) + 1) + 1 + (k : Int) from IntWalk.i64_in _ (by rw [E2.out]; omega)))
      have hs2 := HB2.out.size
      have hlt2 := HR2.out.lt
      have hltD := HD.out.lt
      have hltS := HS.out.lt
      go_loopw [8, 43] (fun u v wr => ∃ k : Nat, k ≤ room ∧ v = .int .i64 k ∧ OwnX 5 wr w2.heap.size u (slotB D room i k) ∧ Below w2.heap.size w2 wr) (fun _ v _ => room - (intOf v).toNat)
      case atStart => exact ⟨0, by omega, rfl, OwnX.nil _ _ _, Below.refl _ _⟩
      case round =>
        clear d0 d1 d2 d3 f0 f1 f2 f3 g0
        obtain ⟨k, hk, rfl, ho, hb⟩ := hrel
        have hSr := HS2.out.kept hb
        by_cases hkr : k < room
        · have a0 : wr.cell? ⟨sb, 0, none⟩ = some (.pointer (some ⟨d, 0, none⟩)) := hSr.cell 0
          have a1 : wr.cell? ⟨sb, 1, none⟩ = some (.int .i64 room) := hSr.cell 1
          have q1 := Q1.out; have q2 := Q2.out; have q3 := Q3.out; have q4 := Q4.out k hkr
          have HSr := Lib.hid hSr; have Hbr := Lib.hid hb; have HO := Lib.hid ho
          have hrr := Lib.hid (show D.rres ((m + 1 + k : Nat) : Int) = 0 from by unfold DiskS.rres; rw [if_pos (DiskS.may_yes (by omega)), if_neg (by rw [Hdead.out]; decide)])
          have hrd := Lib.hid (show D.rd ((m + 1 + k : Nat) : Int) = D.sector (m + 1 + k) from by unfold DiskS.rd; rw [if_pos ⟨DiskS.may_yes (by omega), Hdead.out⟩, Int.toNat_natCast])
          have E3 := Lib.hid (show (i : Int) * ((room : Int) + 1) + 1 + (k : Int) = ((m + 1 + k : Nat) : Int) from by rw [E2.out]; push_cast; rfl)
          clear hSr hb ho
          go_wp2_with fail
          go_region_held3 (fun w' => w'.cell? ⟨sb, 0, none⟩ = some (.pointer (some ⟨d, 0, none⟩)) ∧ w'.cell? ⟨sb, 1, none⟩ = some (.int .i64 room)) (first | exact ⟨a0, a1⟩ | assumption)
            (first
              | (go_at_call 26
                 rw [E3.out]
                 refine (dread_any d L D ((m + 1 + k : Nat) : Int) _ ((HD.out.below (HB2.out.trans (Hbr.out.mono hs2))).drewN 1)).mono ?_
                 rintro e w4 ⟨rv, rfl, hrv, hb4⟩
                 have hb4 : Below wr.heap.size wr w4 := of_drew hb4
                 have hS4 := HSr.out.kept hb4
                 have hh : w4.cell? ⟨sb, 0, none⟩ = some (.pointer (some ⟨d, 0, none⟩)) ∧ w4.cell? ⟨sb, 1, none⟩ = some (.int .i64 room) := ⟨hS4.cell 0, hS4.cell 1⟩
                 rw [hrd.out] at hrv
                 rw [hrr.out]))
          have HS4 := Lib.hid hS4; have HB4 := Lib.hid hb4; have HRV4 := Lib.hid hrv.bys
          have hsr := Hbr.out.size
          have hs4 := HB4.out.size
          have hlt8 := HO.out.lt
          have hln := slotB_len D room i k
          have Hfin := Lib.hid (show slotB D room i (k + 1) = slotB D room i k ++ D.sector (m + 1 + k) from by rw [slotB, Hm.out])
          clear hS4 hb4 hrv hh q1 q2 q3 q4 a0 a1
          go_wp2_with (at_builtin; refine appX E8c rfl _ _ rfl (base := w2.heap.size) (news := D.sector (m + 1 + k)) rfl rfl (HO.out.below HB4.out) HRV4.out ?z1 ?z2 ?_)
          case z1 =>
            have hm2 : k * 32 ≤ 1024 * 32 := Nat.mul_le_mul (by omega) (Nat.le_refl _)
            rw [hln, sector_len]; omega
          case z2 => omega
          intro v5 w5 ho5 hg5
          have hb5 := grown_below (Hbr.out.trans (HB4.out.mono hsr)) hg5 (fun q hq => (hlt8 q hq).1)
          rw [← Hfin.out] at ho5
          clear hg5 hln
          go_wp2
          exact ⟨⟨k + 1, by omega, by go_num, ho5, hb5⟩, by simp [intOf] <;> omega⟩
        · obtain rfl : k = room := by omega
          have hbox := HR2.out.kept hb
          have hDr := HD.out.below (HB2.out.trans (hb.mono hs2))
          have hBr := HB2.out.trans (hb.mono hs2)
          have hlen := slotB_len D k i k
          have HBX := Lib.hid hbox; have HDR := Lib.hid hDr; have HBR := Lib.hid hBr; have HO := Lib.hid ho; have HSR := Lib.hid hSr
          have hsr := hb.size
          clear hbox hDr hBr hSr hb
          go_wp2_with fail
          refine (parse_calls _ _ wr HO.out.bys (by
            have hm2 : k * 32 ≤ 1024 * 32 := Nat.mul_le_mul (by omega) (Nat.le_refl _)
            rw [hlen]; omega)).mono ?_
          rintro e w6 ⟨hb6, ⟨r, hp, dv, rfl, hdv⟩ | ⟨hp, v, rfl, hv⟩⟩
          · have HRD := Lib.hid (show readR D k i = (r, 0, false) from by unfold readR; rw [if_neg (by rw [Hdead.out]; decide), ← Hm.out, if_neg (by rw [H1.out]; decide), hp])
            have hri : r.is = true := by
              unfold Sto.parse at hp
              split at hp
              · cases hp
              · split at hp
                · injection hp with hp; rw [← hp]
                · cases hp
            obtain ⟨da, dc, rfl⟩ := hdv.eq_slice
            have hbox6 := HBX.out.kept hb6
            have HB6 := Lib.hid (HBR.out.trans (hb6.mono (Nat.le_trans hs2 hsr)))
            have h6s := hb6.size
            have x0 : w6.cell? ⟨w.heap.size, 0, none⟩ = some (.bool false) := hbox6.cell 0
            have x1 : w6.cell? ⟨w.heap.size, 1, none⟩ = some (.string { data := #[] }) := hbox6.cell 1
            have x2 : w6.cell? ⟨w.heap.size, 2, none⟩ = some (.int .i64 0) := hbox6.cell 2
            have x3 : w6.cell? ⟨w.heap.size, 3, none⟩ = some (.slice none 0 0) := hbox6.cell 3
            have y0 : ∀ o, (w6.alloc o).cell? ⟨w.heap.size, 0, none⟩ = some (.bool false) := fun o => (hbox6.alloc o).cell 0
            have y1 : ∀ o, (w6.alloc o).cell? ⟨w.heap.size, 1, none⟩ = some (.string { data := #[] }) := fun o => (hbox6.alloc o).cell 1
            have y2 : ∀ o, (w6.alloc o).cell? ⟨w.heap.size, 2, none⟩ = some (.int .i64 0) := fun o => (hbox6.alloc o).cell 2
            have y3 : ∀ o, (w6.alloc o).cell? ⟨w.heap.size, 3, none⟩ = some (.slice none 0 0) := fun o => (hbox6.alloc o).cell 3
            have z0 : ∀ o, (w6.alloc o).frozen? ⟨w.heap.size, 0, none⟩ = false := fun o => (hbox6.alloc o).free 0
            have z1 : ∀ o, (w6.alloc o).frozen? ⟨w.heap.size, 1, none⟩ = false := fun o => (hbox6.alloc o).free 1
            have z2 : ∀ o, (w6.alloc o).frozen? ⟨w.heap.size, 2, none⟩ = false := fun o => (hbox6.alloc o).free 2
            have z3 : ∀ o, (w6.alloc o).frozen? ⟨w.heap.size, 3, none⟩ = false := fun o => (hbox6.alloc o).free 3
            have HF6 := Lib.hid (fun (o : Obj) => chg4 (w6.alloc o) w.heap.size)
            have HS6 := Lib.hid (fun (o : Obj) => (HS.out.kept HB6.out).alloc o)
            have HD6 := Lib.hid (fun (o : Obj) => (HD.out.below HB6.out).below ((Below.refl _ _).alloc (Nat.le_refl _) o))
            have HDV := Lib.hid (fun (o : Obj) => hdv.alloc o)
            have HP := Lib.hid hp; have HRI := Lib.hid hri
            clear hp hri hbox6 hb6 hdv
            go_wp2
            refine bodyPost_ret (v := .tuple #[.agg #[.bool true, .string r.name, .int .i64 (r.num : Int), .slice da r.data.length dc], .int .i64 0]) (by simp [results, Tryd.results34, go_sem, y0, y1, y2, y3]) rfl ?_
            unfold ReadPost
            rw [HRD.out]
            refine ⟨.slice da r.data.length dc, by rw [recV, HRI.out], ?_, by simpa using ((HS6.out _).chg4 (show sb ≠ w.heap.size from Nat.ne_of_lt hltS) _ _ _ _), IsDisk.chg (HD6.out _) (HF6.out _ _ _ _ _) (fun e => by omega) (fun e => by omega), chg_new2 (Chg.of_below (HB6.out.alloc HB6.out.size _)) (HF6.out _ _ _ _ _) (fun k hk => by omega)⟩
            exact ((HDV.out _).chg (HF6.out _ _ _ _ _) (fun g hg e => by have := ((HDV.out (.cells #[] 0)).lt g hg).1; omega)).mono (by omega)
          · obtain ⟨vb, vs, vz, vd, rfl, da, dl, dc, rfl⟩ := hv
            have HRD := Lib.hid (show readR D k i = (Sto.Rec.free, D.wres (i * (k + 1) : Nat) 1, true) from by unfold readR; rw [if_neg (by rw [Hdead.out]; decide), ← Hm.out, if_neg (by rw [H1.out]; decide), hp])
            have hbox6 := HBX.out.kept hb6
            have hal : ∀ o, Below w6.heap.size w6 (w6.alloc o) := fun o => (Below.refl _ _).alloc (Nat.le_refl _) o
            have HB6 := Lib.hid (HBR.out.trans (hb6.mono (Nat.le_trans hs2 hsr)))
            have h6s := hb6.size
            have HF6 := Lib.hid (fun (o : Obj) => free_new sb d L k n lc i la dead D (w6.alloc o) ((HS.out.kept HB6.out).alloc o) ((HD.out.below HB6.out).below (hal o)) hne hi hi2 hr hw)
            have HX6 := Lib.hid (fun (o : Obj) => hbox6.alloc o)
            have HAL := Lib.hid hal
            clear hp hbox6 hb6 hal
            go_wp2_with fail
            refine (HF6.out _).mono ?_
            rintro e w7 ⟨rfl, hS7, hD7, hc7⟩
            have hdn : ¬ Tri sb d L w.heap.size := fun e => by rcases e with e | e | e <;> omega
            have hbox7 := hc7.blk (HX6.out _) hdn
            have x0 : w7.cell? ⟨w.heap.size, 0, none⟩ = some (.bool false) := hbox7.cell 0
            have x1 : w7.cell? ⟨w.heap.size, 1, none⟩ = some (.string { data := #[] }) := hbox7.cell 1
            have x2 : w7.cell? ⟨w.heap.size, 2, none⟩ = some (.int .i64 0) := hbox7.cell 2
            have x3 : w7.cell? ⟨w.heap.size, 3, none⟩ = some (.slice none 0 0) := hbox7.cell 3
            have z0 := hbox7.free 0; have z1 := hbox7.free 1; have z2 := hbox7.free 2; have z3 := hbox7.free 3
            obtain ⟨z, hz⟩ : ∃ z, z = D.wres (i * (k + 1) : Nat) 1 := ⟨_, rfl⟩
            rw [← hz] at hS7 ⊢
            have Hz := Lib.hid hz; have HS7 := Lib.hid hS7; have HD7 := Lib.hid hD7
            have HC7 := Lib.hid (show Chg (Tri sb d L) w w7 from (Chg.of_below (HB6.out.alloc HB6.out.size _)).trans hc7)
            have HF7 := Lib.hid (chg4 w7 w.heap.size)
            clear hz hS7 hD7 hc7 hbox7
            go_wp2
            refine bodyPost_ret (v := .tuple #[.agg #[.bool false, .string { data := #[] }, .int .i64 0, .slice none 0 0], .int .i64 z]) (by simp [results, Tryd.results34, go_sem, x0, x1, x2, x3]) rfl ?_
            unfold ReadPost
            rw [HRD.out, ← Hz.out]
            exact ⟨_, rfl, OwnX.nil _ _ _, by simpa using (HS7.out.chg4 (show sb ≠ w.heap.size from Nat.ne_of_lt hltS) _ _ _ _), IsDisk.chg HD7.out (HF7.out _ _ _ _) (fun e => by omega) (fun e => by omega), chg_new2 HC7.out (HF7.out _ _ _ _) (fun k hk => by omega)⟩
    · have HRD := Lib.hid (show readR D room i = (Sto.Rec.free, 0, false) from by unfold readR; rw [if_neg (by rw [Hdead.out]; decide), ← Hm.out, if_pos h1])
      obtain ⟨u1, hu1⟩ : ∃ u1, u1 = D.f (m * 32) := ⟨_, rfl⟩
      rw [← hu1] at g0 h1
      have t1 : (((u1.toNat : Nat) : Int) != 1) = true := neq_u8 (k := 1) (by decide) h1
      clear hu1 h1
      go_wp2
      refine bodyPost_ret (v := .tuple #[.agg #[.bool false, .string { data := #[] }, .int .i64 0, .slice none 0 0], .int .i64 0]) (by simp [results, Tryd.results34, go_sem, d0, d1, d2, d3]) rfl ?_
      unfold ReadPost
      rw [HRD.out]
      exact ⟨_, rfl, OwnX.nil _ _ _, by simpa using (HS2.out.chg4 (show sb ≠ w.heap.size from Nat.ne_of_lt HS.out.lt) _ _ _ _), IsDisk.chg (HD.out.below HB2.out) (HF.out _ _ _ _) (fun e => by have := HD.out.lt.1; omega) (fun e => by have := HD.out.lt.2; omega), chg_new2 (Chg.of_below HB2.out) (HF.out _ _ _ _) (fun k hk => by omega)⟩
end Go.Proofs.YtehgnkdfnnebcaaDoor
end
