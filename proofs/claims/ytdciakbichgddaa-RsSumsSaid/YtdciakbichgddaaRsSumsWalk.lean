/- The walk of the statement RsSums. -/
import Derived.Test.YtdciakbichgddaaRsRef
import Derived.Test.YtdciakbichgddaaTail
import Derived.WalkLawsBesides
namespace Go.Proofs.Ytdciakbichgddaa
open Go Go.RowKit Go.Mem Gf

/-- the sum of two lists, as far as n goes -/
def xorL (n : Nat) (as' bs : List UInt8) : List UInt8 := rowL n fun i => as'.getD i 0 ^^^ bs.getD i 0
theorem padL_get (bs : List UInt8) (k q : Nat) : (padL bs k).getD q 0 = bs.getD q 0 := by
  unfold padL
  simp only [List.getD_eq_getElem?_getD]
  rcases Nat.lt_or_ge q bs.length with h | h
  · rw [List.getElem?_append_left h]
  · rw [List.getElem?_append_right h, List.getElem?_eq_none h]
    rcases Nat.lt_or_ge (q - bs.length) (padN bs.length k - bs.length) with h2 | h2
    · rw [List.getElem?_eq_getElem (by simpa using h2)]; simp
    · rw [List.getElem?_eq_none (by simpa using h2)]
theorem xorL_get (n q : Nat) (as' bs : List UInt8) (ha : as'.length = n) (hb : bs.length = n) : (xorL n as' bs).getD q 0 = as'.getD q 0 ^^^ bs.getD q 0 := by
  rcases Nat.lt_or_ge q n with h | h
  · rw [xorL, List.getD_eq_getElem?_getD, rowL_get _ _ _ h]; rfl
  · rw [List.getD_eq_getElem?_getD, List.getElem?_eq_none (by rw [xorL, rowL_len]; exact h), List.getD_eq_getElem?_getD, List.getElem?_eq_none (by omega), List.getD_eq_getElem?_getD, List.getElem?_eq_none (by omega)]
    simp
theorem share_sum (n k : Nat) (as' bs : List UInt8) (ha : as'.length = n) (hb : bs.length = n) (i x : Nat) :
    MM k (CM k) (pieceF (xorL n as' bs) k) i x = MM k (CM k) (pieceF as' k) i x ^^^ MM k (CM k) (pieceF bs k) i x := by
  have hl : (xorL n as' bs).length = n := rowL_len _ _
  have hp : pieceN (xorL n as' bs) k = pieceN as' k := by unfold pieceN; rw [hl, ha]
  have hp2 : pieceN bs k = pieceN as' k := by unfold pieceN; rw [hb, ha]
  show dotf k _ _ = dotf k _ _ ^^^ dotf k _ _
  rw [← dotf_xor_right]
  refine dotf_congr (fun _ _ => rfl) fun j _ => ?_
  show (padL _ k).getD _ 0 = (padL _ k).getD _ 0 ^^^ (padL _ k).getD _ 0
  rw [hp, hp2, padL_get, padL_get, padL_get, xorL_get n _ _ _ ha hb]

set_option maxRecDepth 20000 in
set_option maxHeartbeats 4000000 in
theorem rsSums_walk (w : World) (va : Value) (xs : List UInt8) (ha : Bys w va xs) (vb : Value) (ys : List UInt8) (hb : Bys w vb ys) (k : Int) (_hk : -9223372036854775808 ≤ k ∧ k ≤ 9223372036854775807) (n : Int) (_hn : -9223372036854775808 ≤ n ∧ n ≤ 9223372036854775807) :
    Calls Try.prog 16 #[va, vb, .int .i64 k, .int .i64 n] w fun e w' => e = .returned (.bool true) ∧ Below w.heap.size w w' := by
  clear _hk _hn
  have hla := ha.len
  have hlb := hb.len
  obtain ⟨aa, ca, rfl⟩ := ha.eq_slice
  obtain ⟨ab, cb, rfl⟩ := hb.eq_slice
  obtain ⟨la, hla'⟩ : ∃ l, l = xs.length := ⟨_, rfl⟩
  obtain ⟨lb, hlb'⟩ : ∃ l, l = ys.length := ⟨_, rfl⟩
  rw [← hla'] at hla ha ⊢
  rw [← hlb'] at hlb hb ⊢
  obtain ⟨z, hz⟩ : ∃ z : Nat, z = min (min la lb) 50 := ⟨_, rfl⟩
  have z1 : z ≤ la := by omega
  have z2 : z ≤ lb := by omega
  have z3 : z ≤ 50 := by omega
  have ra : la ≤ ca := by
    obtain ⟨a', c', e, h1, _⟩ := ha
    injection e with e1 e2 e3; omega
  have rb : lb ≤ cb := by
    obtain ⟨a', c', e, h1, _⟩ := hb
    injection e with e1 e2 e3; omega
  have hmin : (if (if lb < la then (lb : Int) else (la : Int)) < 50 then (if lb < la then (lb : Int) else (la : Int)) else (50 : Int)) = (z : Int) := by
    split <;> split <;> omega
  have hmin2 : (if (50 : Int) < (if lb < la then (lb : Int) else (la : Int)) then (50 : Int) else (if lb < la then (lb : Int) else (la : Int))) = (z : Int) := by
    split <;> split <;> omega
  have hta := ha.take z (by omega)
  have htb := hb.take z (by omega)
  have ea : (xs.take z).length = z := by simp; omega
  have eb : (ys.take z).length = z := by simp; omega
  generalize xs.take z = as' at *
  generalize ys.take z = bs at *
  have Ea := Lib.hid ea; have Eb := Lib.hid eb
  clear ea eb hla' hlb' ha hb hz
  have hmk := fun (w : World) => make_bytes (P := Try.prog) 31 5 Try.underlying31 info8' z (by omega) w
  go_enter Try.func16, Try.ntmps16
  go_wp2_with fail
  refine (within_calls n 8 (by decide) (by decide) _).mono ?_
  rintro e w1 ⟨rfl, rfl⟩
  obtain ⟨hn1, hn2⟩ := within_range n 8 (by decide)
  go_wp2_with fail
  generalize hq : 1 + within n 8 = q at *
  obtain ⟨n', rfl⟩ : ∃ k : Nat, q = k := ⟨q.toNat, by omega⟩
  have n1 : 1 ≤ n' := by omega
  have n2 : n' ≤ 8 := by omega
  clear hq hn1 hn2
  refine (within_calls k n' (by omega) (by omega) _).mono ?_
  rintro e w1 ⟨rfl, rfl⟩
  obtain ⟨hn1, hn2⟩ := within_range k n' (by omega)
  go_wp2_with fail
  generalize hq : 1 + within k n' = q at *
  obtain ⟨k', rfl⟩ : ∃ k : Nat, q = k := ⟨q.toNat, by omega⟩
  have k1 : 1 ≤ k' := by omega
  have k2 : k' ≤ n' := by omega
  clear hq hn1 hn2
  go_wp2_with fail
  have i1 : (0 : Int) ≤ (z : Int) := by omega
  have i2 : (z : Int) ≤ (ca : Int) := by omega
  have i3 : (z : Int) ≤ (cb : Int) := by omega
  have i4 : z ≤ ca := by omega
  have i5 : z ≤ cb := by omega
  clear hmin hmin2
  go_quiet (fail)
  have hta := hta.drewN nq
  have htb := htb.drewN nq
  have W : Aft w (w.drewN nq) := (Aft.refl w).drewN nq
  generalize w.drewN nq = w1 at *
  go_wp2_with fail
  go_loopw [41] (fun v wr => ∃ i : Nat, i ≤ z ∧ v = .int .i64 i ∧ Blk wr w1.heap.size (rowArr z fun j => if j < i then as'.getD j 0 ^^^ bs.getD j 0 else 0) 5 ∧ Below w1.heap.size w1 wr) (fun v _ => z - (intOf v).toNat)
  case atStart => exact ⟨0, by omega, rfl, by simp only [Nat.not_lt_zero, if_false]; rw [← rowArr_zero]; exact Blk.new _ _ _, (Below.refl _ _).alloc (Nat.le_refl _) _⟩
  case round =>
    obtain ⟨i, hi, rfl, hx, hbel⟩ := hrel
    by_cases h0 : i < z
    · obtain ⟨b1, o1, u, rfl, Hu, c1, hu⟩ := (hta.below hbel).at i (by have := Ea.out; omega)
      obtain ⟨b2, o2, v, rfl, Hv, c2, hv⟩ := (htb.below hbel).at i (by have := Eb.out; omega)
      have c3 : wr.cell? ⟨w1.heap.size, i, none⟩ = some (.int .u8 0) := by rw [hx.cell, rowArr_get _ _ _ h0]; simp
      have f3 := hx.free i
      have hxor := bits_xor_u8 u.toNat v.toNat hu hv
      have j1 : (0 : Int) ≤ (i : Int) := by omega
      have j2 : (i : Int) < (z : Int) := by omega
      go_wp2_with fail
      refine Tail.wp_region_quiet_tail 11 (fun w' => ∃ n, w' = wr.drewN n) (by kernel_rfl) (by kernel_rfl) ⟨1, rfl⟩ ?_
      simp only [List.take_succ_cons, List.take_zero, List.drop_succ_cons, List.drop_zero]
      repeat (first
        | go_big_quiet_step (fail)
        | quiet_step (fail))
      refine wpQuiet_nil ?_
      intro _ hw'
      obtain ⟨d5, hw''⟩ := hw'
      subst hw''
      rw [← UInt8.toNat_xor]
      go_wp2
      refine ⟨⟨i + 1, by omega, by go_num, ?_, (below_drewN hbel d5).setCell (Nat.le_refl _) _⟩, by simp [intOf]; omega⟩
      have := (hx.drewN d5).set i (.int .u8 ((u ^^^ v).toNat : Int))
      rw [rowArr_set] at this
      rw [← rowArr_congr (m := z) (f := fun j => if j = i then u ^^^ v else if j < i then as'.getD j 0 ^^^ bs.getD j 0 else 0) (fun j _ => ?_)]
      · exact this
      · by_cases e : j = i
        · subst e
          rw [if_pos rfl, if_pos (by omega), List.getD_eq_getElem?_getD, Hu.out, List.getD_eq_getElem?_getD, Hv.out]; rfl
        · have : (j < i + 1) = (j < i) := by simp; omega
          simp [e, this]
    · obtain rfl : z = i := by omega
      have hs : Bys wr (.slice (some ⟨w1.heap.size, 0, none⟩) z z) (xorL z as' bs) := by
        have := hx.row (by omega)
        rw [rowL_congr (m := z) (g := fun j => as'.getD j 0 ^^^ bs.getD j 0) (fun j hj => by simp [hj])] at this
        exact this
      have hta := hta.below hbel
      have htb := htb.below hbel
      have W := W.trans hbel
      have els : (xorL z as' bs).length = z := rowL_len _ _
      have hshare := fun i x => share_sum z k' as' bs Ea.out Eb.out i x
      have hp1 : pieceN (xorL z as' bs) k' = pieceN as' k' := by unfold pieceN; rw [els, Ea.out]
      have hp2 : pieceN bs k' = pieceN as' k' := by unfold pieceN; rw [Eb.out, Ea.out]
      have hpl : pieceN as' k' ≤ 1000 := by
        have h1 := pieceN_mul as' k' k1
        have h2 := (padN_facts as'.length k' k1).2.1
        have h3 : pieceN as' k' ≤ pieceN as' k' * k' := Nat.le_mul_of_pos_right _ (by omega)
        have := Ea.out
        omega
      have Hsh := Lib.hid hshare; have Hp1 := Lib.hid hp1; have Hp2 := Lib.hid hp2; have Els := Lib.hid els
      clear hshare hp1 hp2 els hx hbel h0 hi hmk
      go_wp2_with fail
      refine (rsnew_calls k' n' k1 k2 (by omega) wr).mono ?_
      rintro e w2 ⟨b, rfl, hb0, hc, hb2⟩
      have hta := hta.below hb2
      have htb := htb.below hb2
      have hs := hs.below hb2
      have W := W.trans hb2
      clear hb2 hb0
      go_wp2_with fail
      refine (encode_calls b _ as' k' n' w2 hc hta (by have := Ea.out; omega) k1 k2 (by omega)).mono ?_
      rintro e w3 ⟨X, ix, rfl, hX, hb3⟩
      have hX := hX.rws (by omega) (by omega)
      have hc := hc.below hb3
      have htb := htb.below hb3
      have hs := hs.below hb3
      have W := W.trans hb3
      clear hb3
      go_wp2_with fail
      refine (encode_calls b _ bs k' n' w3 hc htb (by have := Eb.out; omega) k1 k2 (by omega)).mono ?_
      rintro e w4 ⟨Y, iy, rfl, hY, hb3⟩
      rw [Hp2.out] at hY
      have hY := hY.rws (by omega) (by omega)
      have hX := hX.below hb3
      have hc := hc.below hb3
      have hs := hs.below hb3
      have W := W.trans hb3
      clear hb3
      go_wp2_with fail
      refine (encode_calls b _ (xorL z as' bs) k' n' w4 hc hs (by have := Els.out; omega) k1 k2 (by omega)).mono ?_
      rintro e w5 ⟨Z, iz, rfl, hZ, hb3⟩
      rw [Hp1.out] at hZ
      have hZ := hZ.rws (by omega) (by omega)
      have hX := hX.below hb3
      have hY := hY.below hb3
      have W := W.trans hb3
      clear hb3 hc hs hta htb
      generalize pieceN as' k' = l at *
      generalize MM k' (CM k') (pieceF as' k') = FX at *
      generalize MM k' (CM k') (pieceF bs k') = FY at *
      generalize MM k' (CM k') (pieceF (xorL z as' bs) k') = FZ at *
      have tn : ((n' : Int) != (n' : Int)) = false := by simp
      have tl : ((l : Int) != (l : Int)) = false := by simp
      have tl2 : (l != l) = false := by simp
      go_wp2_with fail
      go_loopw [96] (fun v wi => ∃ i : Nat, i ≤ n' ∧ v = .int .i64 i ∧ Rd w5 wi) (fun v _ => n' - (intOf v).toNat)
      case atStart => exact ⟨0, by omega, rfl, Rd.refl _⟩
      case round =>
        obtain ⟨i, hi, rfl, hrd⟩ := hrel
        by_cases h0 : i < n'
        · obtain ⟨bx, ox, rx, cx, ex, c1, hrx⟩ := (hrd.rws hX).row i h0
          obtain ⟨by', oy, ry, cy, ey, c2, hry⟩ := (hrd.rws hY).row i h0
          obtain ⟨bz, oz, rz, cz, ez, c3, hrz⟩ := (hrd.rws hZ).row i h0
          injection ex with ex
          injection ex with e1 e2
          subst e1 e2
          injection ey with ey
          injection ey with e1 e2
          subst e1 e2
          injection ez with ez
          injection ez with e1 e2
          subst e1 e2
          simp only [Nat.zero_add] at c1 c2 c3
          have j1 : (0 : Int) ≤ (i : Int) := by omega
          have j2 : (i : Int) < (n' : Int) := by omega
          go_wp2_with fail
          go_quiet (fail)
          go_wp2_with fail
          obtain ⟨wo, hwo⟩ : ∃ wo, wo = wr.drewN nq := ⟨_, rfl⟩
          have hrd2 : Rd w5 wo := by rw [hwo]; exact hrd.more _
          have hrx : Bys wo (.slice rx l cx) (rowL l (FX i)) := by rw [hwo]; exact hrx.drewN _
          have hry : Bys wo (.slice ry l cy) (rowL l (FY i)) := by rw [hwo]; exact hry.drewN _
          have hrz : Bys wo (.slice rz l cz) (rowL l (FZ i)) := by rw [hwo]; exact hrz.drewN _
          have c1 : wo.cell? ⟨X, i, none⟩ = some (.slice rx l cx) := by rw [hwo]; exact c1
          have c2 : wo.cell? ⟨Y, i, none⟩ = some (.slice ry l cy) := by rw [hwo]; exact c2
          have c3 : wo.cell? ⟨Z, i, none⟩ = some (.slice rz l cz) := by rw [hwo]; exact c3
          rw [← hwo]
          clear hwo hrd
          go_loopw [128] (fun v wi => ∃ j : Nat, j ≤ l ∧ v = .int .i64 j ∧ Rd wo wi) (fun v _ => l - (intOf v).toNat)
          case atStart => exact ⟨0, by omega, rfl, Rd.refl _⟩
          case round =>
            obtain ⟨j, hj, rfl, hrd⟩ := hrel
            have hcells : ∀ p, wr.cell? p = wo.cell? p := fun p => by obtain ⟨d, rfl⟩ := hrd; rfl
            have c1' := (hcells ⟨X, i, none⟩).trans c1
            have c2' := (hcells ⟨Y, i, none⟩).trans c2
            have c3' := (hcells ⟨Z, i, none⟩).trans c3
            by_cases h1 : j < l
            · obtain ⟨p1, q1, rfl, d1⟩ := (hrd.bys hrx).elem j h1
              obtain ⟨p2, q2, rfl, d2⟩ := (hrd.bys hry).elem j h1
              obtain ⟨p3, q3, rfl, d3⟩ := (hrd.bys hrz).elem j h1
              have l1 := lt256 (FX i j)
              have l2 := lt256 (FY i j)
              have hxor := bits_xor_u8 (FX i j).toNat (FY i j).toNat l1 l2
              have hz : FZ i j = FX i j ^^^ FY i j := Hsh.out i j
              have t1 : (((FZ i j).toNat : Int) != (((FX i j).toNat ^^^ (FY i j).toNat : Nat) : Int)) = false := by rw [hz, UInt8.toNat_xor]; simp
              have k1' : (0 : Int) ≤ (j : Int) := by omega
              have k2' : (j : Int) < (l : Int) := by omega
              clear hz hcells
              go_wp2_with fail
              go_quiet (fail)
              go_wp2
              exact ⟨⟨j + 1, by omega, by go_num, hrd.more _⟩, by simp [intOf]; omega⟩
            · obtain rfl : l = j := by omega
              go_wp2
              exact ⟨⟨i + 1, by omega, by go_num, hrd2.trans hrd⟩, by simp [intOf]; omega⟩
        · obtain rfl : n' = i := by omega
          go_wp2_with fail
          refine (wakes06_calls _).mono ?_
          rintro e w6 ⟨rfl, hb6⟩
          go_wp2
          go_ret
          obtain ⟨d, rfl⟩ := hrd
          exact ⟨rfl, (W.drewN d).trans hb6⟩
end Go.Proofs.Ytdciakbichgddaa
