/- The walk of the statement RsEncodes. -/
import Derived.Test.YtdciakbichgddaaRsREnc
import Derived.Test.YtdciakbichgddaaKeep2
namespace Go.Proofs.Ytdciakbichgddaa
open Go Go.RowKit Go.Mem Gf

set_option maxRecDepth 20000 in
set_option maxHeartbeats 4000000 in
theorem rsEncodes_walk (w : World) (vb : Value) (xs : List UInt8) (hb : Bys w vb xs) (k : Int) (_hk : -9223372036854775808 ≤ k ∧ k ≤ 9223372036854775807) (n : Int) (_hn : -9223372036854775808 ≤ n ∧ n ≤ 9223372036854775807)
    (size : Int) (hsz : -9223372036854775808 ≤ size ∧ size ≤ 9223372036854775807) :
    Calls Try.prog 17 #[vb, .int .i64 k, .int .i64 n, .int .i64 size] w fun e w' => e = .returned (.bool true) ∧ Below w.heap.size w w' := by
  clear _hk _hn
  obtain ⟨sz1, sz2⟩ := hsz
  go_enter Try.func17, Try.ntmps17
  go_wp2_with fail
  refine (cut8_calls vb xs 60 w hb).mono ?_
  rintro e w1 ⟨⟨vb', rfl, hb⟩, rfl⟩
  generalize hbs : xs.take 60 = bs at *
  have lbs : bs.length ≤ 60 := by rw [← hbs]; simp; omega
  clear hbs
  go_wp2_with fail
  refine (within_calls n 8 (by decide) (by decide) _).mono ?_
  rintro e w1 ⟨rfl, rfl⟩
  obtain ⟨hn1, hn2⟩ := within_range n 8 (by decide)
  go_wp2_with fail
  generalize hq : 1 + within n 8 = q at *
  obtain ⟨n', rfl⟩ : ∃ k : Nat, q = k := ⟨q.toNat, by omega⟩
  have n1 : 1 ≤ n' := by omega
  have n2 : n' ≤ 8 := by omega
  clear hq hn1 hn2
  refine (within_calls k n' (by omega) (by omega) _).mono ?_
  rintro e w1 ⟨rfl, rfl⟩
  obtain ⟨hn1, hn2⟩ := within_range k n' (by omega)
  go_wp2_with fail
  generalize hq : 1 + within k n' = q at *
  obtain ⟨k', rfl⟩ : ∃ k : Nat, q = k := ⟨q.toNat, by omega⟩
  have k1 : 1 ≤ k' := by omega
  have k2 : k' ≤ n' := by omega
  clear hq hn1 hn2
  refine (rsnew_calls k' n' k1 k2 (by omega) w).mono ?_
  rintro e w1 ⟨b, rfl, hb0, hc, hb1⟩
  have hb := hb.below hb1
  have W : Aft w w1 := hb1
  clear hb1 hb0
  go_wp2_with fail
  refine (lend_calls vb' bs w1 hb (by omega)).mono ?_
  rintro e w2 ⟨g, rfl, hg0, hL, hb2⟩
  have hb := hb.below hb2
  have hc := hc.below hb2
  have W := W.trans hb2
  have hgl : g < w2.heap.size := (show Blk w2 g _ _ from hL).lt
  clear hb2 hg0
  go_wp2_with fail
  refine (encode_calls b _ bs k' n' w2 hc (hL.bys (by omega)) (by omega) k1 k2 (by omega)).mono ?_
  rintro e w3 ⟨X, ids, rfl, hO, hb3⟩
  have hpl : pieceN bs k' ≤ 1000 := by
    have h1 := pieceN_mul bs k' k1
    have h2 := (padN_facts bs.length k' k1).2.1
    have h3 : pieceN bs k' ≤ pieceN bs k' * k' := Nat.le_mul_of_pos_right _ (by omega)
    omega
  have hB : Below w2.heap.size w2 w3 := hb3
  have hR := hO.rws (by omega) (by omega)
  go_wp2_with fail
  refine (rencode_calls vb' bs k' n' w3 (hb.below hb3) (by omega) k1 k2 (by omega)).mono ?_
  rintro e w4 ⟨vr, rfl, hr, hb4⟩
  have hO := hO.below hb4
  have hR := hR.below hb4
  have hB := hB.trans (hb4.mono hB.size)
  go_wp2_with fail
  refine (rows8_yes _ _ _ _ _ hR hr rfl).mono ?_
  rintro e w5 ⟨rfl, d, rfl⟩
  have hO := hO.drewN d
  have hB := below_drewN hB d
  generalize w4.drewN d = w5 at *
  go_wp2_with fail
  refine (length_calls b k' n' size k1 (by omega) sz2 w5 (hc.below hB)).mono ?_
  rintro e w6 ⟨rfl, rfl⟩
  go_wp2_with fail
  refine (rlength_calls size k' k1 (by omega) sz2 w5).mono ?_
  rintro e w6 ⟨rfl, rfl⟩
  have tl : (lengthN size k' == lengthN size k') = true := by simp
  clear hR hr hb3 hb4
  generalize pieceN bs k' = l at *
  generalize MM k' (CM k') (pieceF bs k') = F0 at *
  generalize lengthN size k' = len at *
  go_wp2_with fail
  go_loopw [58] (fun v wr => ∃ (i : Nat) (F : Mx), i ≤ n' ∧ v = .int .i64 i ∧ OwnM 5 31 wr w2.heap.size X ids n' l F ∧ Below w2.heap.size w2 wr) (fun v _ => n' - (intOf v).toNat)
  case atStart => exact ⟨0, F0, by omega, rfl, hO, hB⟩
  case round =>
    clear hO hB
    obtain ⟨i, F, hi, rfl, hO, hB⟩ := hrel
    by_cases h0 : i < n'
    · have c1 := hO.ptr i h0
      have hlow := hO.low.2 i h0
      go_wp2_with fail
      refine (spoil_calls (ids i) l (F i) wr (hO.rows i h0) (by omega)).mono ?_
      rintro e w6 ⟨rfl, ⟨f', hf'⟩, hch⟩
      have hO2 := hO.row h0 (f := f') (fun c hc hcx => hch.block c (by
        rcases hcx with rfl | ⟨j, hj, rfl⟩
        · exact hO.lt.1
        · exact hO.lt.2 j hj) (fun e => hc e)) hf'
      go_wp2
      exact ⟨⟨i + 1, _, by omega, by go_num, hO2, hB.trans (hch.below hB.size (fun c hc => by rw [hc]; exact hlow))⟩, by simp [intOf]; omega⟩
    · obtain rfl : n' = i := by omega
      have hL2 : Lent wr g bs := (show Blk w2 g _ _ from hL).below hB hgl
      have hb2 := hb.below hB
      have W2 := W.trans hB
      have hbnd : -20 < size.tmod 20 ∧ size.tmod 20 < 20 := by
        constructor
        · exact Int.lt_tmod_of_pos size (by decide)
        · exact Int.tmod_lt_of_pos size (by decide)
      obtain ⟨i0, hi0⟩ : ∃ i0 : Nat, (size.tmod 20 = i0 ∧ 1 ≤ i0 ∧ i0 ≤ 4096) ∨ (size.tmod 20 < 1 ∧ i0 = 1) := by
        by_cases h : size.tmod 20 < 1
        · exact ⟨1, .inr ⟨h, rfl⟩⟩
        · exact ⟨(size.tmod 20).toNat, .inl ⟨by omega, by omega, by omega⟩⟩
      have q1 : 1 ≤ i0 := by omega
      have q2 : i0 ≤ 4096 := by omega
      have q3 : size.tmod 20 = i0 ∨ (size.tmod 20 < 1 ∧ i0 = 1) := by omega
      have Q3 := Lib.hid q3
      clear hO hB hL hb W hi0 hbnd q3 h0 hi
      go_wp2_with fail
      refine (intact_calls g vb' bs wr hL2 hb2 (by omega)).mono ?_
      rintro e w6 ⟨rfl, d1, rfl⟩
      go_wp2_with fail
      refine (pad_calls vb' bs i0 _ (hb2.drewN d1) (by omega) q1 q2 _ Q3.out).mono ?_
      rintro e w7 ⟨v1, rfl, ho1, hb7⟩
      have hy1 := ho1.bys
      go_wp2_with fail
      refine (rpad_calls vb' bs i0 _ ((hb2.drewN d1).below hb7) (by omega) q1 q2 _ Q3.out).mono ?_
      rintro e w8 ⟨v2, rfl, ho2, hb8⟩
      have hy1 := hy1.below hb8
      go_wp2_with fail
      refine (same8_yes _ _ _ _ _ hy1 ho2.bys rfl).mono ?_
      rintro e w9 ⟨rfl, d2, rfl⟩
      go_wp2_with fail
      refine (wakes06_calls _).mono ?_
      rintro e w10 ⟨rfl, hb10⟩
      go_wp2
      go_ret
      exact ⟨rfl, (((W2.drewN d1).trans hb7).trans hb8 |>.drewN d2).trans hb10⟩
end Go.Proofs.Ytdciakbichgddaa
