/- The walk of the statement RsFirst. -/
import Derived.Test.YtdciakbichgddaaRsRef
namespace Go.Proofs.Ytdciakbichgddaa
open Go Go.RowKit Go.Mem Gf

theorem share_first (bs : List UInt8) (k : Nat) (hk : k ≤ 256) (i : Nat) (hi : i < k) (x : Nat) : MM k (CM k) (pieceF bs k) i x = pieceF bs k i x := by
  show dotf k (CM k i) (fun j => pieceF bs k j x) = _
  rw [dotf_congr (u' := Idm i) (fun j hj => CM_top k hk i hi j hj) (fun _ _ => rfl)]
  exact dotf_Idm_left k i hi _
theorem pieces_snoc (ps : List UInt8) (l i : Nat) (h : l * i + l ≤ ps.length) : ps.take (l * i) ++ rowL l (fun x => ps.getD (l * i + x) 0) = ps.take (l * (i + 1)) := by
  rw [Nat.mul_add, Nat.mul_one, List.take_add]
  congr 1
  apply List.ext_getElem
  · simp [rowL]; omega
  · intro j h1 h2
    simp only [rowL_len] at h1
    simp [rowL]
    rw [List.getElem?_eq_getElem (by omega)]; rfl

set_option maxRecDepth 20000 in
set_option maxHeartbeats 4000000 in
theorem rsFirst_walk (w : World) (vb : Value) (xs : List UInt8) (hb : Bys w vb xs) (k : Int) (_hk : -9223372036854775808 ≤ k ∧ k ≤ 9223372036854775807) (n : Int) (_hn : -9223372036854775808 ≤ n ∧ n ≤ 9223372036854775807) :
    Calls Try.prog 19 #[vb, .int .i64 k, .int .i64 n] w fun e w' => e = .returned (.bool true) ∧ Below w.heap.size w w' := by
  clear _hk _hn
  go_enter Try.func19, Try.ntmps19
  go_wp2_with fail
  refine (cut8_calls vb xs 70 w hb).mono ?_
  rintro e w1 ⟨⟨vb', rfl, hb⟩, rfl⟩
  generalize hbs : xs.take 70 = bs at *
  have lbs : bs.length ≤ 70 := by rw [← hbs]; simp; omega
  clear hbs
  go_wp2_with fail
  refine (within_calls n 10 (by decide) (by decide) _).mono ?_
  rintro e w1 ⟨rfl, rfl⟩
  obtain ⟨hn1, hn2⟩ := within_range n 10 (by decide)
  go_wp2_with fail
  generalize hq : 1 + within n 10 = q at *
  obtain ⟨n', rfl⟩ : ∃ k : Nat, q = k := ⟨q.toNat, by omega⟩
  have n1 : 1 ≤ n' := by omega
  have n2 : n' ≤ 10 := by omega
  clear hq hn1 hn2
  refine (within_calls k n' (by omega) (by omega) _).mono ?_
  rintro e w1 ⟨rfl, rfl⟩
  obtain ⟨hn1, hn2⟩ := within_range k n' (by omega)
  go_wp2_with fail
  generalize hq : 1 + within k n' = q at *
  obtain ⟨k', rfl⟩ : ∃ k : Nat, q = k := ⟨q.toNat, by omega⟩
  have k1 : 1 ≤ k' := by omega
  have k2 : k' ≤ n' := by omega
  clear hq hn1 hn2
  refine (rsnew_calls k' n' k1 k2 (by omega) w).mono ?_
  rintro e w1 ⟨b, rfl, hb0, hc, hb1⟩
  have hb := hb.below hb1
  have W : Aft w w1 := hb1
  clear hb1
  go_wp2_with fail
  refine (encode_calls b vb' bs k' n' w1 hc hb (by omega) k1 k2 (by omega)).mono ?_
  rintro e w2 ⟨X, ids, rfl, hO, hb2⟩
  have hb := hb.below hb2
  have hc := hc.below hb2
  have W := W.trans hb2
  clear hb2
  obtain ⟨p1, p2, p3⟩ := padN_facts bs.length k' k1
  have hml := pieceN_mul bs k' k1
  have hpl := padL_len bs k' k1
  have hS : ∀ i, i < k' → rowL (pieceN bs k') (MM k' (CM k') (pieceF bs k') i) = rowL (pieceN bs k') (fun x => (padL bs k').getD (pieceN bs k' * i + x) 0) := fun i hi =>
    rowL_congr fun x _ => share_first bs k' (by omega) i hi x
  obtain ⟨l, hl⟩ : ∃ l, l = pieceN bs k' := ⟨_, rfl⟩
  rw [← hl] at hml hO hS
  generalize padN bs.length k' = L at *
  generalize hps : padL bs k' = ps at *
  have Hml := Lib.hid hml; have Hpl := Lib.hid hpl; have HS := Lib.hid hS; have Hps := Lib.hid hps
  have hl1 : l ≤ L := by rw [← hml]; exact Nat.le_mul_of_pos_right l (by omega)
  clear hml hpl hS hps hl p3
  generalize MM k' (CM k') (pieceF bs k') = G at *
  have hR := hO.rws (by omega) (by omega)
  clear hO
  go_wp2_with fail
  go_loopw [10, 11] (fun o v wr => ∃ i : Nat, i ≤ k' ∧ v = .int .i64 i ∧ OwnB 5 wr w2.heap.size o (ps.take (l * i)) ∧ Below w2.heap.size w2 wr) (fun _ v _ => k' - (intOf v).toNat)
  case atStart => exact ⟨0, by omega, rfl, by rw [Nat.mul_zero]; exact OwnB.nil _ _ _, Below.refl _ _⟩
  case round =>
    obtain ⟨i, hi, rfl, hown, hbel⟩ := hrel
    have hs := hbel.size
    by_cases h0 : i < k'
    · have h0' : i < n' := by omega
      obtain ⟨bx, ox, rx, cx, e, c1, hrow⟩ := (hR.below hbel).row i h0'
      injection e with e
      injection e with e1 e2
      subst e1 e2
      simp only [Nat.zero_add] at c1
      rw [HS.out i h0] at hrow
      have hle : l * i + l ≤ ps.length := by
        have h1 := Hml.out; have h2 := Hpl.out
        have h3 : l * (i + 1) ≤ l * k' := Nat.mul_le_mul_left l h0
        rw [Nat.mul_add, Nat.mul_one] at h3
        omega
      have Hsn := Lib.hid (pieces_snoc ps l i hle)
      have Hle := Lib.hid hle
      clear hle
      go_wp2_with (at_builtin; refine app_bytes E8 rfl _ _ rfl rfl rfl hown hrow ?c1 hs ?_)
      case c1 => have := Hpl.out; simp [rowL_len]; omega
      intro v' w3 hown' hgrow
      go_wp2_with fail
      exact ⟨⟨i + 1, by omega, by go_num, by rw [← Hsn.out]; exact hown', Below.grown hbel hgrow hs (fun b hb => (hown.lt b hb).1)⟩, by simp [intOf]; omega⟩
    · obtain rfl : k' = i := by omega
      have he : ps.take (l * k') = ps := List.take_of_length_le (by have h1 := Hml.out; have h2 := Hpl.out; omega)
      rw [he] at hown
      have hf := hown.bys
      obtain ⟨af, cf, rfl⟩ := hown.eq_slice
      generalize hlps : ps.length = lps at *
      have hb := hb.below hbel
      have hc := hc.below hbel
      have W := W.trans hbel
      clear he hown hbel hR hlps HS Hml hs h0 hi
      go_wp2_with fail
      refine (matrix_calls b k' n' wr hc (by omega) (by omega)).mono ?_
      rintro e w3 ⟨vm, rfl, hm, hb3⟩
      have hm := hm.rws
      have hb := hb.below hb3
      have hf := hf.below hb3
      have W := W.trans hb3
      clear hb3
      obtain ⟨am, cm, rfl⟩ := hm.mat
      have tn : ((n' : Int) != (n' : Int)) = false := by simp
      go_wp2_with fail
      refine (pad_calls vb' bs k' w3 hb (by omega) k1 (by omega) k' (.inl rfl)).mono ?_
      rintro e w4 ⟨vp, rfl, hp, hb4⟩
      have hp := hp.bys
      rw [Hps.out] at hp
      have hm := hm.below hb4
      have hf := hf.below hb4
      have W := W.trans hb4
      clear hb4
      go_wp2_with fail
      refine (same8_yes _ _ _ _ _ hf hp rfl).mono ?_
      rintro e w5 ⟨rfl, d, rfl⟩
      have hm := hm.drewN d
      have W := W.drewN d
      clear hf hp hb
      generalize w4.drewN d = w5 at *
      go_wp2_with fail
      go_loop [13] (fun v => ∃ i : Nat, i ≤ k' ∧ v = .int .i64 i) (fun v => k' - (intOf v).toNat)
      case atStart => exact ⟨0, by omega, rfl⟩
      case round =>
        obtain ⟨i, hi, rfl⟩ := hrel
        by_cases h0 : i < k'
        · have h0' : i < n' := by omega
          obtain ⟨bx, ox, rx, cx, rfl, c1, hrow⟩ := hm.row i h0'
          go_wp2_with fail
          go_loop [80] (fun v => ∃ j : Nat, j ≤ k' ∧ v = .int .i64 j) (fun v => k' - (intOf v).toNat)
          case atStart => exact ⟨0, by omega, rfl⟩
          case round =>
            obtain ⟨j, hj, rfl⟩ := hrel
            by_cases h1 : j < k'
            · obtain ⟨by', oy, rfl, c2⟩ := hrow.elem j h1
              have hv : CM k' i j = Idm i j := CM_top k' (by omega) i h0 j h1
              rw [hv] at c2
              by_cases hij : i = j
              · have hv2 : Idm i j = 1 := by rw [Idm, if_pos hij]
                rw [hv2] at c2
                have c3 : w5.cell? ⟨by', oy + j, none⟩ = some (.int .u8 1) := c2
                have t1 : ((i : Int) == (j : Int)) = true := by rw [hij]; simp
                have t2 : (i == j) = true := by rw [hij]; simp
                clear hv hv2 c2 hij
                go_wp2
                exact ⟨⟨j + 1, by omega, by go_num⟩, by simp [intOf]; omega⟩
              · have hv2 : Idm i j = 0 := by rw [Idm, if_neg hij]
                rw [hv2] at c2
                have c3 : w5.cell? ⟨by', oy + j, none⟩ = some (.int .u8 0) := c2
                have t1 : ((i : Int) == (j : Int)) = false := by simp; omega
                have t2 : (i == j) = false := by simp; omega
                clear hv hv2 c2 hij
                go_wp2
                exact ⟨⟨j + 1, by omega, by go_num⟩, by simp [intOf]; omega⟩
            · obtain rfl : k' = j := by omega
              go_wp2
              exact ⟨⟨i + 1, by omega, by go_num⟩, by simp [intOf]; omega⟩
        · obtain rfl : k' = i := by omega
          go_wp2_with fail
          refine (wakes06_calls _).mono ?_
          rintro e w6 ⟨rfl, hb6⟩
          go_wp2
          go_ret
          exact ⟨rfl, W.trans hb6⟩
end Go.Proofs.Ytdciakbichgddaa
