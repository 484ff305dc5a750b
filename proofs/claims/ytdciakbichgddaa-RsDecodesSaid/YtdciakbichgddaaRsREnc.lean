/- Walks of the document's own Encode and of both Lengths. -/
import Derived.Test.YtdciakbichgddaaRsRef
import Derived.Test.YtdciakbichgddaaTail
namespace Go.Proofs.Ytdciakbichgddaa
open Go Go.RowKit Go.Mem Gf

def lengthN (size : Int) (k : Nat) : Int := if size < 1 then 0 else (size - 1) / k + 1
set_option maxHeartbeats 1000000 in
theorem rlength_calls (size : Int) (k : Nat) (k1 : 1 ≤ k) (k2 : k ≤ 4096) (hs : size ≤ 9223372036854775807) (w : World) :
    Calls Try.prog 62 #[.int .i64 size, .int .i64 k] w fun e w' => e = .returned (.int .i64 (lengthN size k)) ∧ w = w' := by
  by_cases h : size < 1
  · have hr : lengthN size k = 0 := if_pos h
    have Hr := Lib.hid hr
    clear hr
    go_enter Try.func62, Try.ntmps62
    go_wp2
    go_ret
    exact ⟨by rw [Hr.out]; rfl, rfl⟩
  · have hr : lengthN size k = (size - 1) / k + 1 := if_neg h
    have h0 : 0 ≤ size - 1 := by omega
    have hd0 : 0 ≤ (size - 1) / (k : Int) := Int.ediv_nonneg h0 (by omega)
    have hd1 : (size - 1) / (k : Int) ≤ size - 1 := Int.ediv_le_self _ h0
    have Hr := Lib.hid hr
    clear hr
    go_enter Try.func62, Try.ntmps62
    go_wp2
    go_ret
    exact ⟨by rw [Hr.out]; rfl, rfl⟩
set_option maxHeartbeats 1000000 in
theorem length_calls (b k n : Nat) (size : Int) (k1 : 1 ≤ k) (k2 : k ≤ 4096) (hs : size ≤ 9223372036854775807) (w : World) (hc : IsCode w b k n) :
    Calls Try.prog 61 #[.pointer (some ⟨b, 0, none⟩), .int .i64 size] w fun e w' => e = .returned (.int .i64 (lengthN size k)) ∧ w = w' := by
  obtain ⟨am, cm, hB, _⟩ := hc
  have c0 : w.cell? ⟨b, 0, none⟩ = some (.int .i64 k) := by rw [hB.cell]; rfl
  by_cases h : size < 1
  · have hr : lengthN size k = 0 := if_pos h
    have h' : size ≤ 0 := by omega
    have Hr := Lib.hid hr
    clear hr
    go_enter Try.func61, Try.ntmps61
    go_wp2
    go_ret
    exact ⟨by rw [Hr.out]; rfl, rfl⟩
  · have hr : lengthN size k = (size - 1) / k + 1 := if_neg h
    have h' : ¬ size ≤ 0 := by omega
    have h0 : 0 ≤ size - 1 := by omega
    have hd0 : 0 ≤ (size - 1) / (k : Int) := Int.ediv_nonneg h0 (by omega)
    have hd1 : (size - 1) / (k : Int) ≤ size - 1 := Int.ediv_le_self _ h0
    have Hr := Lib.hid hr
    clear hr
    go_enter Try.func61, Try.ntmps61
    go_wp2
    go_ret
    exact ⟨by rw [Hr.out]; rfl, rfl⟩

set_option maxRecDepth 20000 in
set_option maxHeartbeats 4000000 in
theorem rencode_calls (v : Value) (bs : List UInt8) (k n : Nat) (w : World) (h : Bys w v bs) (hl : bs.length ≤ 1000) (k1 : 1 ≤ k) (hkn : k ≤ n) (n2 : n ≤ 16) :
    Calls Try.prog 60 #[v, .int .i64 k, .int .i64 n] w fun e w' => ∃ v', e = .returned v' ∧ Rws w' v' (rowsL n (pieceN bs k) (MM k (CM k) (pieceF bs k))) ∧ Below w.heap.size w w' := by
  obtain ⟨p1, p2, p3⟩ := padN_facts bs.length k k1
  have hml := pieceN_mul bs k k1
  have hpl := padL_len bs k k1
  obtain ⟨l, hll⟩ : ∃ l, l = pieceN bs k := ⟨_, rfl⟩
  have hP : ∀ i x, pieceF bs k i x = (padL bs k).getD (l * i + x) 0 := fun i x => by rw [hll]; rfl
  rw [← hll] at hml ⊢
  generalize padN bs.length k = L at *
  go_enter Try.func60, Try.ntmps60
  have HP := Lib.hid hP; have Hml := Lib.hid hml; have Hpl := Lib.hid hpl
  clear hP hml hpl hll p3
  go_wp2_with fail
  refine (rpad_calls v bs k w h (by omega) k1 (by omega) k (.inl rfl)).mono ?_
  rintro e w1 ⟨v1, rfl, hown, hb1⟩
  have hp := hown.bys
  generalize hps : padL bs k = ps at *
  have hps2 : ps.length = L := by have := Hpl.out; exact this
  obtain ⟨a1, c1, e1⟩ := hp.eq_slice
  rw [hps2] at e1
  subst e1
  have hdiv : (L : Int) / (k : Int) = (l : Int) := by
    have := Hml.out
    rw [← this, Int.natCast_mul]
    exact Int.mul_ediv_cancel _ (by omega)
  have Hps := Lib.hid hps2
  have hlL : l ≤ L := by have := Hml.out; rw [← this]; exact Nat.le_mul_of_pos_right l (by omega)
  clear hps hps2 h hown
  go_wp2_with fail
  refine (rmatrix_calls k n k1 hkn n2 w1).mono ?_
  rintro e w2 ⟨vm, rfl, hm, hb2⟩
  have hp := hp.below hb2
  have W := Aft.trans hb1 hb2
  obtain ⟨am, cm, rfl⟩ := hm.mat
  have hmk := fun (w : World) => make_bytes (P := Try.prog) 31 5 Try.underlying31 info8' l (by omega) w
  clear hb1 hb2 hdiv
  generalize hM : CM k = M at *
  have HM := Lib.hid hM
  clear hM
  generalize hQ : pieceF bs k = Q at *
  have HQQ := Lib.hid hQ
  clear hQ
  go_wp2_with fail
  go_loopw [10, 11] (fun o v wr => ∃ i : Nat, i ≤ n ∧ v = .int .i64 i ∧ OwnRows 5 31 wr w2.heap.size o (rowsL i l (MM k M Q)) ∧ Below w2.heap.size w2 wr) (fun _ v _ => n - (intOf v).toNat)
  case atStart => exact ⟨0, by omega, rfl, OwnRows.nil _ _ _ _, Below.refl _ _⟩
  case round =>
    obtain ⟨i, hi, rfl, hro, hbel⟩ := hrel
    have hs := hbel.size
    by_cases h0 : i < n
    · go_wp2_with fail
      obtain ⟨wo, hwo⟩ : ∃ wo, wo = wr := ⟨_, rfl⟩
      rw [← hwo] at hro hbel hs ⊢
      clear hwo
      go_loopw [13] (fun v wi => ∃ j : Nat, j ≤ k ∧ v = .int .i64 j ∧ Blk wi wo.heap.size (rowArr l fun x => gsum j fun t => gm (M i t) (Q t x)) 5 ∧ Below wo.heap.size wo wi) (fun v _ => k - (intOf v).toNat)
      case atStart => exact ⟨0, by omega, rfl, by simp only [gsum]; rw [← rowArr_zero]; exact Blk.new _ _ _, (Below.refl _ _).alloc (Nat.le_refl _) _⟩
      case round =>
        obtain ⟨j, hj, rfl, hx, hbi⟩ := hrel
        by_cases h1 : j < k
        · go_wp2_with fail
          obtain ⟨wq, hwq⟩ : ∃ wq, wq = wr := ⟨_, rfl⟩
          rw [← hwq] at hx hbi ⊢
          clear hwq
          go_loopw [14] (fun v wi => ∃ x : Nat, x ≤ l ∧ v = .int .i64 x ∧ Blk wi wo.heap.size (rowArr l fun y => if y < x then gsum (j + 1) fun t => gm (M i t) (Q t y) else gsum j fun t => gm (M i t) (Q t y)) 5 ∧ Below wo.heap.size wo wi) (fun v _ => l - (intOf v).toNat)
          case atStart => exact ⟨0, by omega, rfl, by simp only [Nat.not_lt_zero, if_false]; exact hx, hbi⟩
          case round =>
            clear hx hbi
            obtain ⟨x, hxl, rfl, hx, hbi⟩ := hrel
            by_cases h2 : x < l
            · have c3 : wr.cell? ⟨wo.heap.size, x, none⟩ = some (.int .u8 ((gsum j fun t => gm (M i t) (Q t x)).toNat : Int)) := by rw [hx.cell, rowArr_get _ _ _ h2]; simp
              have f3 := hx.free x
              have hbw := Aft.trans hbel hbi
              obtain ⟨bm, om, bm', om', cm', rfl, d1, d2⟩ := (hm.below hbw).elem i j h0 h1
              obtain ⟨q, hq⟩ : ∃ q, q = l * j := ⟨_, rfl⟩
              have hq2 : q + l ≤ L := by
                have e1 := Hml.out
                have e2 : l * (j + 1) ≤ l * k := Nat.mul_le_mul_left l h1
                rw [Nat.mul_add, Nat.mul_one] at e2
                omega
              obtain ⟨bp, op, u, rfl, Hu, d3, hu⟩ := (hp.below hbw).at (q + x) (by rw [Hps.out]; omega)
              have hQu : Q j x = u := by rw [HP.out, ← hq, List.getD_eq_getElem?_getD, Hu.out]; rfl
              have hm1 := lt256 (M i j)
              have hg1 := lt256 (gsum j fun t => gm (M i t) (Q t x))
              have hg2 := lt256 (gm (M i j) u)
              have hxor := bits_xor_u8 (gsum j fun t => gm (M i t) (Q t x)).toNat (gm (M i j) u).toNat hg1 hg2
              have hw1 : IntKind.i64.wrap ((j : Int) * (l : Int)) = (q : Int) := by rw [← Int.natCast_mul, Nat.mul_comm, ← hq]; exact IntWalk.i64_in _ (by omega)
              have hw2 : IntKind.i64.wrap ((q : Int) + (x : Int)) = (q : Int) + (x : Int) := IntWalk.i64_in _ (by omega)
              have hw3 : ((q : Int) + (x : Int)).toNat = q + x := by omega
              have hw4 : (0 : Int) ≤ (q : Int) + (x : Int) := by omega
              have hw5 : (q : Int) + (x : Int) < (L : Int) := by omega
              have i1 : (0 : Int) ≤ (i : Int) := by omega
              have i2 : (i : Int) < (n : Int) := by omega
              have j1 : (0 : Int) ≤ (j : Int) := by omega
              have j2 : (j : Int) < (k : Int) := by omega
              have x1 : (0 : Int) ≤ (x : Int) := by omega
              have x2 : (x : Int) < (l : Int) := by omega
              have hc1 : ∀ e, Calls Try.prog 33 #[.int .u8 ((M i j).toNat : Int), .int .u8 (u.toNat : Int)] (wr.drewN e) fun e' w' => e' = .returned (.int .u8 ((gm (M i j) u).toNat : Int)) ∧ ∃ m, w' = wr.drewN m := fun e => by
                rw [toNat_gm]
                exact quiet_eq (rmul_calls _ _ hm1 hu (wr.drewN e))
              have Hc1 := Lib.hid hc1
              have HQ := Lib.hid hQu
              clear hc1 hQu hq hq2
              go_wp2_with fail
              refine Tail.wp_region_quiet_tail 21 (fun w' => ∃ n, w' = wr.drewN n) (by kernel_rfl) (by kernel_rfl) ⟨1, rfl⟩ ?_
              simp only [List.take_succ_cons, List.take_zero, List.drop_succ_cons, List.drop_zero]
              repeat (first
                | go_big_quiet_step ((go_at_call 33; exact Hc1.out _))
                | quiet_step ((go_at_call 33; exact Hc1.out _)))
              refine wpQuiet_nil ?_
              intro _ hw'
              obtain ⟨d5, hw''⟩ := hw'
              subst hw''
              rw [← UInt8.toNat_xor]
              go_wp2
              refine ⟨⟨x + 1, by omega, by go_num, ?_, (below_drewN hbi d5).setCell (Nat.le_refl _) _⟩, by simp [intOf]; omega⟩
              have := (hx.drewN d5).set x (.int .u8 (((gsum j fun t => gm (M i t) (Q t x)) ^^^ gm (M i j) u).toNat : Int))
              rw [rowArr_set] at this
              rw [← rowArr_congr (m := l) (f := fun y => if y = x then (gsum j fun t => gm (M i t) (Q t x)) ^^^ gm (M i j) u else if y < x then gsum (j + 1) fun t => gm (M i t) (Q t y) else gsum j fun t => gm (M i t) (Q t y)) (fun y _ => ?_)]
              · exact this
              · by_cases e : y = x
                · subst e; rw [if_pos rfl, if_pos (by omega)]; simp only [gsum]; rw [HQ.out]
                · have : (y < x + 1) = (y < x) := by simp; omega
                  simp [e, this]
            · obtain rfl : l = x := by omega
              go_wp2
              exact ⟨⟨j + 1, by omega, by go_num, by rw [← rowArr_congr (m := l) (f := fun y => if y < l then gsum (j + 1) fun t => gm (M i t) (Q t y) else gsum j fun t => gm (M i t) (Q t y)) (fun y hy => by simp [hy])]; exact hx, hbi⟩, by simp [intOf]; omega⟩
        · obtain rfl : k = j := by omega
          have hrow : OwnB 5 wr w2.heap.size (.slice (some ⟨wo.heap.size, 0, none⟩) l l) (rowL l (MM k M Q i)) := Blk.own (f := MM k M Q i) hx hs (by omega)
          have hro2 := hro.below hbi
          have hbel2 := Aft.trans hbel hbi
          have hs2 := hbel2.size
          go_wp2_with (at_builtin; refine app_row ER rfl _ _ rfl rfl rfl ?d1 hro2 hrow (by decide) ?d2 ?d3 ?_)
          case d1 => rfl
          case d2 => rw [rowsL_len]; omega
          case d3 => exact hs2
          intro v' w3 hown' hgrow
          go_wp2_with fail
          exact ⟨⟨i + 1, by omega, by go_num, by rw [rowsL_succ]; exact hown', Below.grown hbel2 hgrow hs2 (fun b hb => (hro2.lt b hb).1)⟩, by simp [intOf]; omega⟩
    · obtain rfl : n = i := by omega
      go_wp2
      go_ret
      exact ⟨_, rfl, by rw [HM.out, HQQ.out]; exact hro.rws, Aft.trans W hbel⟩
end Go.Proofs.Ytdciakbichgddaa
