/- The walk of the statement RsDecodes. -/
import Derived.Test.YtdciakbichgddaaRsRDec
import Derived.Test.YtdciakbichgddaaOpenBlobs
import Derived.Test.YtdciakbichgddaaRsWakes
import Derived.RegionTactic
import Derived.ChangeAlike
namespace Go.Mem
open Go Go.RowKit Gf
/-- the cells of k blobs, their numbers any -/
def blobZ : Nat → (Nat → Int) → (Nat → Value) → List Value
  | 0, _, _ => []
  | k + 1, z, dv => blobZ k z dv ++ [.int .i64 (z k), dv k]
theorem blobZ_succ (k : Nat) (z : Nat → Int) (dv : Nat → Value) : blobZ (k + 1) z dv = blobZ k z dv ++ [.int .i64 (z k), dv k] := rfl
theorem blobZ_congr {k : Nat} {z : Nat → Int} {dv dv' : Nat → Value} (h : ∀ j, j < k → dv j = dv' j) : blobZ k z dv = blobZ k z dv' := by
  induction k with
  | zero => rfl
  | succ k ih => rw [blobZ_succ, blobZ_succ, ih fun j hj => h j (by omega), h k (by omega)]
theorem blobZ_len (k : Nat) (z : Nat → Int) (dv : Nat → Value) : (blobZ k z dv).length = k * 2 := by
  induction k with
  | zero => rfl
  | succ k ih => rw [blobZ_succ, List.length_append, ih]; simp; omega
theorem blobZ_get (z : Nat → Int) (dv : Nat → Value) : ∀ (k j : Nat), j < k → (blobZ k z dv)[j * 2]? = some (.int .i64 (z j)) ∧ (blobZ k z dv)[j * 2 + 1]? = some (dv j) := by
  intro k
  induction k with
  | zero => intro j hj; omega
  | succ k ih =>
    intro j hj
    rw [blobZ_succ]
    by_cases e : j = k
    · subst e
      rw [List.getElem?_append_right (by rw [blobZ_len]; omega), List.getElem?_append_right (by rw [blobZ_len]; omega), blobZ_len]
      simp
    · obtain ⟨h1, h2⟩ := ih j (by omega)
      rw [List.getElem?_append_left (by rw [blobZ_len]; omega), List.getElem?_append_left (by rw [blobZ_len]; omega)]
      exact ⟨h1, h2⟩
/-- k blobs lie from an address on: numbers, bytes -/
def Blz (w : World) (bb ob k : Nat) (z : Nat → Int) (ln : Nat → Nat) (R : Mx) : Prop :=
  ∀ i, i < k → w.cell? ⟨bb, ob + i * 2, none⟩ = some (.int .i64 (z i)) ∧ ∃ a c, w.cell? ⟨bb, ob + i * 2 + 1, none⟩ = some (.slice a (ln i) c) ∧ Bys w (.slice a (ln i) c) (rowL (ln i) (R i))
theorem Blz.below {w w' : World} {bb ob k : Nat} {z : Nat → Int} {ln : Nat → Nat} {R : Mx} (h : Blz w bb ob k z ln R) (hb : Below w.heap.size w w') : Blz w' bb ob k z ln R := fun i hi => by
  obtain ⟨c1, a, c, c2, hd⟩ := h i hi
  exact ⟨(hb.cell (p := ⟨bb, ob + i * 2, none⟩) (World.block_lt_of_cell? w _ c1)).trans c1, a, c, (hb.cell (p := ⟨bb, ob + i * 2 + 1, none⟩) (World.block_lt_of_cell? w _ c2)).trans c2, hd.below hb⟩
theorem blz_of_own {w : World} {base : Nat} {t : TypeId} {v : Value} {k : Nat} {z : Nat → Int} {ln : Nat → Nat} {dv : Nat → Value} {R : Mx} (h : w.ownsRow base t 2 v k (blobZ k z dv))
    (hd : ∀ j, j < k → (∃ a c, dv j = .slice a (ln j) c) ∧ Bys w (dv j) (rowL (ln j) (R j))) : ∃ a cap, v = .slice a k cap ∧ (0 < k → ∃ g, a = some ⟨g, 0, none⟩ ∧ k ≤ cap ∧ cap ≤ maxLen ∧ Blz w g 0 k z ln R) := by
  obtain ⟨hlen, h2⟩ := h
  rcases h2 with ⟨rfl, rfl⟩ | ⟨g, cap, cur, rfl, _, hg, hnc, hcm, hcs, htake⟩
  · exact ⟨_, _, rfl, fun h => by omega⟩
  · refine ⟨_, cap, rfl, fun _ => ⟨g, rfl, hnc, hcm, fun i hi => ?_⟩⟩
    obtain ⟨c1, c2⟩ := blobZ_get z dv k i hi
    obtain ⟨⟨a, c, e⟩, hb⟩ := hd i hi
    rw [← htake, List.getElem?_take, if_pos (by omega)] at c1 c2
    refine ⟨?_, a, c, ?_, by rw [← e]; exact hb⟩
    · simp only [World.cell?, hg, Nat.zero_add]
      simpa using c1
    · simp only [World.cell?, hg, Nat.zero_add]
      rw [← e]
      simpa using c2
theorem list_rowZ (r : List UInt8) : r = rowL r.length (fun k => r.getD k 0) := by
  apply List.ext_getElem?
  intro i
  by_cases h : i < r.length
  · rw [rowL_get _ _ _ h, List.getD_eq_getElem?_getD, List.getElem?_eq_getElem h]; rfl
  · rw [List.getElem?_eq_none (by omega), List.getElem?_eq_none (by rw [rowL_len]; omega)]
end Go.Mem
namespace Go.Proofs.Ytdciakbichgddaa
open Go Go.RowKit Go.Mem Gf
attribute [local go_sem ↓] Go.wp_at_zero Go.wp_at_succ

set_option maxHeartbeats 1000000 in
theorem rdecode_short (k n : Nat) (a : Option Addr) (len cap : Nat) (w : World) (h : len ≠ k) :
    Calls Try.prog 71 #[.slice a len cap, .int .i64 k, .int .i64 n] w fun e w' => e = .returned (.tuple #[.slice none 0 0, .bool false]) ∧ w = w' := by
  have t1 : ((len : Int) != (k : Int)) = true := by simp; omega
  have t2 : (len != k) = true := by simp; omega
  clear h
  go_enter Try.func71, Try.ntmps71
  go_wp2
  go_ret2
  exact ⟨rfl, rfl⟩

set_option maxHeartbeats 1000000 in
theorem cut8_at (a : Option Addr) (l cap n m : Nat) (w : World) (h1 : l ≤ cap) (h2 : cap ≤ maxLen) (hm : m = min l n) :
    Calls Try.prog 30 #[.slice a l cap, .int .i64 n] w fun e w' => e = .returned (.slice a m cap) ∧ w = w' := by
  have hl : l ≤ 9223372036854775807 := by unfold maxLen at h2; omega
  have H2 := Lib.hid h2; clear h2
  by_cases hlt : n < l
  · obtain rfl : m = n := by omega
    clear hm
    go_enter Try.func30, Try.ntmps30
    go_wp2
    go_ret
    exact ⟨rfl, rfl⟩
  · obtain rfl : m = l := by omega
    clear hm
    go_enter Try.func30, Try.ntmps30
    go_wp2
    go_ret
    exact ⟨rfl, rfl⟩

set_option maxRecDepth 100000 in
set_option maxHeartbeats 8000000 in
theorem rsDecodes_walk (w : World) (vl : Value) (lst : List (Int × List UInt8)) (hl : Bls w vl lst) (_hlb : ∀ z bs, (z, bs) ∈ lst → -9223372036854775808 ≤ z ∧ z ≤ 9223372036854775807)
    (k : Int) (_hk : -9223372036854775808 ≤ k ∧ k ≤ 9223372036854775807) (n : Int) (_hn : -9223372036854775808 ≤ n ∧ n ≤ 9223372036854775807) :
    Calls Try.prog 22 #[vl, .int .i64 k, .int .i64 n] w fun e w' => e = .returned (.bool true) ∧ Below w.heap.size w w' := by
  clear _hk _hn _hlb
  obtain ⟨al, cl, rfl, hl1, hl2, hl3⟩ := hl
  obtain ⟨lo, hlo⟩ : ∃ l, l = lst.length := ⟨_, rfl⟩
  rw [← hlo] at hl1 hl3 ⊢
  obtain ⟨z, hz⟩ : ∃ z : Nat → Int, ∀ i x bs, lst[i]? = some (x, bs) → z i = x := ⟨fun i => (lst.getD i (0, [])).1, fun i x bs h => by simp [h]⟩
  obtain ⟨D, hD⟩ : ∃ D : Nat → List UInt8, ∀ i x bs, lst[i]? = some (x, bs) → D i = bs := ⟨fun i => (lst.getD i (0, [])).2, fun i x bs h => by simp [h]⟩
  have hget : ∀ i, i < lo → ∃ b off, al = some ⟨b, off, none⟩ ∧ w.cell? ⟨b, off + i * 2, none⟩ = some (.int .i64 (z i)) ∧ ∃ v1, w.cell? ⟨b, off + i * 2 + 1, none⟩ = some v1 ∧ Bys w v1 (D i) := fun i hi => by
    obtain ⟨b, off, e, h⟩ := hl3 (by omega)
    have hi' : lst[i]? = some lst[i] := List.getElem?_eq_getElem (by omega)
    obtain ⟨⟨x, bs⟩, hx⟩ : ∃ p, lst[i]'(by omega) = p := ⟨_, rfl⟩
    rw [hx] at hi'
    have h' := h i x bs hi'
    rw [← hz i x bs hi', ← hD i x bs hi'] at h'
    exact ⟨b, off, e, h'⟩
  have Hget := Lib.hid hget
  have hlm : lo ≤ 9223372036854775807 := by unfold maxLen at hl2; omega
  have hcm : cl ≤ 9223372036854775807 := by unfold maxLen at hl2; omega
  obtain ⟨ln, hln⟩ : ∃ ln : Nat → Nat, ln = fun i => ((D i).take 20).length := ⟨_, rfl⟩
  obtain ⟨R, hR⟩ : ∃ R : Mx, R = fun i x => ((D i).take 20).getD x 0 := ⟨_, rfl⟩
  have Hrow := Lib.hid (show ∀ i, (D i).take 20 = rowL (ln i) (R i) from fun i => by rw [hln, hR]; exact list_rowZ _)
  have Hln := Lib.hid (show ∀ i, ln i ≤ 20 from fun i => by rw [hln]; simp; omega)
  have Hll := Lib.hid (show ∀ i, ((D i).take 20).length = ln i from fun i => by rw [hln])
  clear hl3 hget hz hD hln hR hl2
  clear hlo
  obtain ⟨q, hq⟩ : ∃ q, q = min lo 7 := ⟨_, rfl⟩
  have q1 : q ≤ lo := by omega
  have q2 : q ≤ 7 := by omega
  have Hq := Lib.hid hq
  clear hq
  go_enter Try.func22, Try.ntmps22
  go_wp2_with fail
  refine (within_calls n 6 (by decide) (by decide) _).mono ?_
  rintro e w1 ⟨rfl, rfl⟩
  obtain ⟨hn1, hn2⟩ := within_range n 6 (by decide)
  go_wp2_with fail
  generalize hq : 1 + within n 6 = q' at *
  obtain ⟨n', rfl⟩ : ∃ k : Nat, q' = k := ⟨q'.toNat, by omega⟩
  have n1 : 1 ≤ n' := by omega
  have n2 : n' ≤ 6 := by omega
  clear hq hn1 hn2
  refine (within_calls k n' (by omega) (by omega) _).mono ?_
  rintro e w1 ⟨rfl, rfl⟩
  obtain ⟨hn1, hn2⟩ := within_range k n' (by omega)
  go_wp2_with fail
  generalize hq : 1 + within k n' = q' at *
  obtain ⟨k', rfl⟩ : ∃ k : Nat, q' = k := ⟨q'.toNat, by omega⟩
  have k1 : 1 ≤ k' := by omega
  have k2 : k' ≤ n' := by omega
  clear hq hn1 hn2
  go_loopw [7, 8] (fun o v wi => ∃ (i : Nat) (dv : Nat → Value), i ≤ q ∧ v = .int .i64 i ∧ wi.ownsRow w.heap.size 80 2 o i (blobZ i z dv) ∧
      (∀ j, j < i → (∃ a c, dv j = .slice a (ln j) c) ∧ Bys w (dv j) (rowL (ln j) (R j))) ∧ Below w.heap.size w wi) (fun _ v _ => q - (intOf v).toNat)
  case atStart => exact ⟨0, fun _ => .slice none 0 0, by omega, rfl, World.ownsRow_nil _ _ _ _, fun j hj => by omega, Below.refl _ _⟩
  case round =>
    obtain ⟨i, dv, hi, rfl, hown, hdv, hbel⟩ := hrel
    have Hdv := Lib.hid hdv
    clear hdv
    have hs := hbel.size
    by_cases h0 : i < q
    · obtain ⟨bl, ol, e, e1, v1, e2, hD⟩ := Hget.out i (by omega)
      subst e
      obtain ⟨a1, cc1, rfl, hd1, hd2, _⟩ := id hD
      have hT : Bys w (.slice a1 (ln i) cc1) (rowL (ln i) (R i)) := by
        have := hD.take (min (D i).length 20) (by omega)
        rw [show (D i).take (min (D i).length 20) = (D i).take 20 from by rw [Nat.min_comm, ← List.take_take]; simp, Hrow.out i] at this
        rw [show ln i = min (D i).length 20 from by rw [← Hll.out i]; simp; omega] at this ⊢
        exact this
      have hcut := fun w => cut8_at a1 (D i).length cc1 20 (ln i) w hd1 hd2 (by rw [← Hll.out i]; simp; omega)
      have Hcut := Lib.hid hcut
      have HT := Lib.hid hT
      obtain ⟨l1, hl1⟩ : ∃ l1, l1 = (D i).length := ⟨_, rfl⟩
      rw [← hl1] at Hcut e2
      clear hl1 hd1 hd2 hD hT hcut
      have h1 : i < lo := by omega
      have h2 : i < 7 := by omega
      have HSS := Lib.hid (show ∀ x, Below w.heap.size w x → x.cell? ⟨bl, ol + i * 2, none⟩ = some (.int .i64 (z i)) ∧ x.cell? ⟨bl, ol + i * 2 + 1, none⟩ = some (.slice a1 l1 cc1) from fun x hx =>
        ⟨(hx.cell (p := ⟨bl, ol + i * 2, none⟩) (World.block_lt_of_cell? w _ e1)).trans e1, (hx.cell (p := ⟨bl, ol + i * 2 + 1, none⟩) (World.block_lt_of_cell? w _ e2)).trans e2⟩)
      obtain ⟨c1, c2⟩ := HSS.out wr hbel
      have i1 : (0 : Int) ≤ (i : Int) := by omega
      have i2 : (i : Int) < (lo : Int) := by omega
      clear e1 e2
      go_wp2_with fail
      go_region_held3 (fun w' => w'.cell? ⟨bl, ol + i * 2, none⟩ = some (.int .i64 (z i)) ∧ w'.cell? ⟨bl, ol + i * 2 + 1, none⟩ = some (.slice a1 l1 cc1)) (first | exact ⟨c1, c2⟩ | assumption | go_keep)
        (first
          | (go_at_call 30
             refine (Hcut.out _).mono ?_
             rintro e x0 ⟨rfl, rfl⟩)
          | (refine stepApp_blob Try.underlying78 EBi rfl (by rfl) _ _ (by rfl) (base := w.heap.size) (n := i) (xs := blobZ i z dv) (.int .i64 (z i)) (.slice a1 (ln i) cc1) (by rfl) (by rfl) (by simp) (by simp) rfl rfl (hown.alloc _) (by omega) (by decide) (by simp <;> omega) ?_
             intro v3 x1 hv1 hg1
             have hx1 : Below w.heap.size w x1 := Below.grown (by first | exact (hbel.drew.alloc (by exact hs) _) | exact (hbel.alloc hs _).drew) hg1 (by simp <;> omega) (fun q hq => (hown.lt q hq).1)
             have hh := HSS.out x1 hx1))
      go_wp2_with fail
      refine ⟨⟨i + 1, fun j => if j = i then .slice a1 (ln i) cc1 else dv j, by omega, by go_num, ?_, fun j hj => ?_, hx1⟩, by simp [intOf]; omega⟩
      · have e : blobZ i z (fun j => if j = i then .slice a1 (ln i) cc1 else dv j) = blobZ i z dv := blobZ_congr fun j hj => by rw [if_neg (by omega)]
        rw [blobZ_succ, e]
        simp only [if_true]
        exact hv1
      · by_cases e : j = i
        · subst e
          simp only [if_true]
          exact ⟨⟨a1, cc1, rfl⟩, HT.out⟩
        · simp only [if_neg e]
          exact Hdv.out j (by omega)
    · obtain rfl : q = i := by omega
      have hbz := blz_of_own (ln := ln) (R := R) hown fun j hj => ⟨(Hdv.out j hj).1, (Hdv.out j hj).2.below hbel⟩
      obtain ⟨ao, co, rfl, hbz⟩ := hbz
      have Hbz := Lib.hid hbz
      have W : Aft w wr := hbel
      clear hown hbel h0 hbz hi
      have hout : lo ≤ q ∨ (q < lo ∧ 7 ≤ q) := by have := Hq.out; omega
      rcases hout with hx | ⟨hx, hx'⟩
      all_goals
        go_wp2_with fail
        refine (rsnew_calls k' n' k1 k2 (by omega) wr).mono ?_
        rintro e w2 ⟨b, rfl, hb0, hc, hb1⟩
        have W := W.trans hb1
        go_wp2_with fail
        by_cases hqk : q = k'
        · obtain ⟨g, e, hg1, hg2, hbz⟩ := Hbz.out (by omega)
          subst e
          subst hqk
          have hbz := hbz.below hb1
          clear hb1
          by_cases hgd : GoodB q n' z ln
          · have hz : ∀ i, i < q → z i = (((z i).toNat : Nat) : Int) := fun i hi => by have := (hgd i hi).1; omega
            have hB : Blbs w2 (.slice (some ⟨g, 0, none⟩) q co) q (ln 0) (fun i => (z i).toNat) R := ⟨g, 0, co, rfl, hg1, hg2, fun i hi => by
              obtain ⟨c1, a, c, c2, hd⟩ := hbz i hi
              rw [(hgd i hi).2.2.1] at c2 hd
              rw [hz i hi] at c1
              exact ⟨c1, a, c, c2, hd⟩⟩
            have HG := Lib.hid hgd
            have Hz := Lib.hid hz
            clear hgd hz
            refine (decode_calls b _ q n' (ln 0) (fun i => (z i).toNat) R w2 hc hB (by have := Hln.out 0; omega) k1 k2 (by omega) (fun i hi => by have := HG.out i hi; omega) (fun i j hi hj e => by
              have a := HG.out i hi
              have b := HG.out j hj
              rcases Nat.lt_trichotomy i j with h | h | h
              · have := b.2.2.2 i h; omega
              · exact h
              · have := a.2.2.2 j h; omega)).mono ?_
            rintro e w3 ⟨vx, Y, rfl, hI, hx, hb3⟩
            have hbz := hbz.below hb3
            have W := W.trans hb3
            have hx := hx.bys
            clear hB hc hb3
            go_wp2_with fail
            refine (rdecode_calls g 0 co q n' z ln R w3 hg1 k1 k2 (by omega) (by have := Hln.out 0; omega) hbz).mono ?_
            rintro e w4 (⟨h, _⟩ | ⟨_, vy, Y', rfl, hI', hy, hb4⟩)
            · exact absurd HG.out h
            · have hx := hx.below hb4
              have hy := hy.bys
              have W := W.trans hb4
              have hsame : flatR q (ln 0) (MM q Y R) = flatR q (ln 0) (MM q Y' R) := flatR_congr (MM_congr (hI.unique hI') (EqM.refl _ _ _))
              have Hsame := Lib.hid hsame
              clear hsame hb4 hbz
              go_wp2_with fail
              refine (same8_yes _ _ _ _ _ hx hy Hsame.out).mono ?_
              rintro e x2 ⟨rfl, d, rfl⟩
              go_wp2_with fail
              refine (wakes06_calls _).mono ?_
              rintro e x4 ⟨rfl, hx4⟩
              go_wp2
              go_ret
              exact ⟨rfl, (W.drewN d).trans hx4⟩
          · have HG := Lib.hid hgd
            clear hgd
            refine (decode_bad b g 0 co q n' z ln w2 hc hg1 hg2 k1 k2 (by omega) (fun i hi => by
              obtain ⟨c1, a, c, c2, _⟩ := hbz i hi
              exact ⟨c1, a, c, c2⟩) HG.out).mono ?_
            rintro e w3 ⟨rfl, hb3⟩
            have hbz := hbz.below hb3
            have W := W.trans hb3
            clear hc hb3
            go_wp2_with fail
            refine (rdecode_calls g 0 co q n' z ln R w3 hg1 k1 k2 (by omega) (by have := Hln.out 0; omega) hbz).mono ?_
            rintro e w4 (⟨_, rfl, hb4⟩ | ⟨h, _⟩)
            · have W := W.trans hb4
              clear hb4 hbz
              go_wp2_with fail
              refine (wakes06_calls _).mono ?_
              rintro e x4 ⟨rfl, hx4⟩
              go_wp2
              go_ret
              exact ⟨rfl, W.trans hx4⟩
            · exact absurd h HG.out
        · refine (decode_short b k' n' ao q co w2 hc hqk).mono ?_
          rintro e w3 ⟨rfl, rfl⟩
          go_wp2_with fail
          refine (rdecode_short k' n' ao q co w2 hqk).mono ?_
          rintro e w4 ⟨rfl, rfl⟩
          go_wp2_with fail
          refine (wakes06_calls _).mono ?_
          rintro e x4 ⟨rfl, hx4⟩
          go_wp2
          go_ret
          exact ⟨rfl, W.trans hx4⟩
end Go.Proofs.Ytdciakbichgddaa
