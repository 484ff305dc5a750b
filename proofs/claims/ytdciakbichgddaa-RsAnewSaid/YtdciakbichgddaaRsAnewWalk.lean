/- The walk of the statement RsAnew. -/
import Derived.Test.YtdciakbichgddaaRsBlob
namespace Go.Proofs.Ytdciakbichgddaa
open Go Go.RowKit Go.Mem Gf

set_option maxRecDepth 20000 in
set_option maxHeartbeats 4000000 in
theorem rsAnew_walk (w : World) (vb : Value) (xs : List UInt8) (hb : Bys w vb xs) (k : Int) (_hk : -9223372036854775808 ≤ k ∧ k ≤ 9223372036854775807) (n : Int) (_hn : -9223372036854775808 ≤ n ∧ n ≤ 9223372036854775807)
    (from' : Int) (_hf : -9223372036854775808 ≤ from' ∧ from' ≤ 9223372036854775807) :
    Calls Try.prog 20 #[vb, .int .i64 k, .int .i64 n, .int .i64 from'] w fun e w' => e = .returned (.bool true) ∧ Below w.heap.size w w' := by
  clear _hk _hn _hf
  go_enter Try.func20, Try.ntmps20
  go_wp2_with fail
  refine (cut8_calls vb xs 60 w hb).mono ?_
  rintro e w1 ⟨⟨vb', rfl, hb⟩, rfl⟩
  generalize hbs : xs.take 60 = bs at *
  have lbs : bs.length ≤ 60 := by rw [← hbs]; simp; omega
  clear hbs
  go_wp2_with fail
  refine (within_calls n 8 (by decide) (by decide) _).mono ?_
  rintro e w1 ⟨rfl, rfl⟩
  obtain ⟨hn1, hn2⟩ := within_range n 8 (by decide)
  go_wp2_with fail
  generalize hq : 1 + within n 8 = q at *
  obtain ⟨n', rfl⟩ : ∃ k : Nat, q = k := ⟨q.toNat, by omega⟩
  have n1 : 1 ≤ n' := by omega
  have n2 : n' ≤ 8 := by omega
  clear hq hn1 hn2
  refine (within_calls k n' (by omega) (by omega) _).mono ?_
  rintro e w1 ⟨rfl, rfl⟩
  obtain ⟨hn1, hn2⟩ := within_range k n' (by omega)
  go_wp2_with fail
  generalize hq : 1 + within k n' = q at *
  obtain ⟨k', rfl⟩ : ∃ k : Nat, q = k := ⟨q.toNat, by omega⟩
  have k1 : 1 ≤ k' := by omega
  have k2 : k' ≤ n' := by omega
  clear hq hn1 hn2
  refine (rsnew_calls k' n' k1 k2 (by omega) w).mono ?_
  rintro e w1 ⟨b, rfl, hb0, hc, hb1⟩
  have hb := hb.below hb1
  have W : Aft w w1 := hb1
  clear hb1 hb0
  go_wp2_with fail
  refine (encode_calls b vb' bs k' n' w1 hc hb (by omega) k1 k2 (by omega)).mono ?_
  rintro e w2 ⟨X, ids, rfl, hO, hb2⟩
  have hc := hc.below hb2
  have W := W.trans hb2
  clear hb2 hb
  have hpl : pieceN bs k' ≤ 1000 := by
    have h1 := pieceN_mul bs k' k1
    have h2 := (padN_facts bs.length k' k1).2.1
    have h3 : pieceN bs k' ≤ pieceN bs k' * k' := Nat.le_mul_of_pos_right _ (by omega)
    omega
  have hR := hO.rws (by omega) (by omega)
  have tn : ((n' : Int) != (n' : Int)) = false := by simp
  go_wp2_with fail
  have hm0 : (0 : Int) ≤ (n' : Int) - (k' : Int) := by omega
  refine (within_calls from' ((n' : Int) - (k' : Int) + 1) (by omega) (by omega) _).mono ?_
  rintro e w3 ⟨rfl, rfl⟩
  obtain ⟨hn1, hn2⟩ := within_range from' ((n' : Int) - (k' : Int) + 1) (by omega)
  generalize hq : within from' ((n' : Int) - (k' : Int) + 1) = q at *
  obtain ⟨f, rfl⟩ : ∃ k : Nat, q = k := ⟨q.toNat, by omega⟩
  have f1 : f + k' ≤ n' := by omega
  clear hq hn1 hn2 hm0
  go_wp2_with fail
  obtain ⟨l, hl⟩ : ∃ l, l = pieceN bs k' := ⟨_, rfl⟩
  obtain ⟨S, hS⟩ : ∃ S, S = MM k' (CM k') (pieceF bs k') := ⟨_, rfl⟩
  rw [← hl, ← hS] at hR
  rw [← hl] at hpl
  have Hl := Lib.hid hl; have HS := Lib.hid hS
  clear hl hS hO
  go_loopw [12, 13] (fun o v wr => ∃ (p : Nat) (dv : Nat → Value), f ≤ p ∧ p ≤ f + k' ∧ v = .int .i64 (p : Int) ∧ wr.ownsRow w2.heap.size 80 2 o (p - f) (blobC (p - f) (fun j => f + j) dv) ∧
      (∀ j, j < p - f → (∃ a c, dv j = .slice a l c) ∧ Bys w2 (dv j) (rowL l (S (f + j)))) ∧ Below w2.heap.size w2 wr) (fun _ v _ => f + k' - (intOf v).toNat)
  case atStart => exact ⟨f, fun _ => .slice none 0 0, Nat.le_refl _, by omega, rfl, by rw [Nat.sub_self]; exact World.ownsRow_nil _ _ _ _, fun j hj => by omega, Below.refl _ _⟩
  case round =>
    obtain ⟨p, dv, hp1, hp2, rfl, hown, hdv, hbel⟩ := hrel
    have Hdv := Lib.hid hdv
    clear hdv
    have hs := hbel.size
    obtain ⟨i, hi⟩ : ∃ i, i = p - f := ⟨_, rfl⟩
    rw [← hi] at hown
    have Hi := Lib.hid hi
    clear hi
    by_cases h0 : p < f + k'
    · obtain ⟨bx, ox, rx, cx, e, c1, hrow⟩ := hR.row p (by omega)
      injection e with e
      injection e with e1 e2
      subst e1 e2
      simp only [Nat.zero_add] at c1
      have c1' : wr.cell? ⟨X, p, none⟩ = some (.slice rx l cx) := (hbel.cell (p := ⟨X, p, none⟩) (World.block_lt_of_cell? w2 _ c1)).trans c1
      clear c1
      go_wp2_with (at_builtin; refine app_blob Try.underlying78 EBi rfl rfl _ _ rfl (.int .i64 (p : Int)) (.slice rx l cx) rfl rfl ?c1 rfl rfl hown ?c2 (by decide) ?c3 ?_)
      case c1 => rfl
      case c2 => have := Hi.out; omega
      intro v' w4 hown' hgrow
      go_wp2_with fail
      refine ⟨⟨p + 1, fun j => if j = i then .slice rx l cx else dv j, by omega, by omega, by go_num, ?_, fun j hj => ?_, Below.grown hbel hgrow hs (fun b hb => (hown.lt b hb).1)⟩, by simp [intOf]; omega⟩
      · have h1 := Hi.out
        rw [show p + 1 - f = i + 1 from by omega, blobC_succ, show f + i = p from by omega]
        have e : blobC i (fun j => f + j) (fun j => if j = i then .slice rx l cx else dv j) = blobC i (fun j => f + j) dv := blobC_congr fun j hj => by rw [if_neg (by omega)]
        rw [e, if_pos rfl]
        exact hown'
      · have h1 := Hi.out
        by_cases e : j = i
        · subst e
          simp only [if_true]
          rw [show f + j = p from by omega]
          exact ⟨⟨rx, cx, rfl⟩, hrow⟩
        · simp only [if_neg e]
          exact Hdv.out j (by omega)
    · obtain rfl : p = f + k' := by omega
      obtain rfl : i = k' := by have := Hi.out; omega
      have hbl : Blbs wr u12 i l (fun j => f + j) (fun j => S (f + j)) := (blbs_of_own hown (by omega) fun j hj => by
        obtain ⟨h1, h2⟩ := Hdv.out j (by have := Hi.out; omega)
        exact ⟨h1, h2.below hbel⟩)
      have hc := hc.below hbel
      have hR := hR.below hbel
      have W := W.trans hbel
      clear hown hbel h0
      go_wp2_with fail
      refine (decode_calls b u12 i n' l (fun j => f + j) (fun j => S (f + j)) wr hc hbl (by omega) k1 k2 (by omega) (fun j hj => by omega) (fun j j' _ _ e => by omega)).mono ?_
      rintro e w3 ⟨vx, Y, rfl, hI, hx, hb3⟩
      have hc := hc.below hb3
      have hR := hR.below hb3
      have W := W.trans hb3
      have hxy := hx.bys
      have hfl : flatR i l (MM i Y fun j => S (f + j)) = padL bs i := by
        rw [flatR_congr (dec_same (P := pieceF bs i) hI (fun a ha b hb => by rw [HS.out]; rfl)), Hl.out]
        exact flat_pieces bs i k1
      rw [hfl] at hxy
      have hpl2 : (padL bs i).length ≤ 1000 := by
        have := (padN_facts bs.length i k1).2.1
        rw [padL_len bs i k1]; omega
      have Hpl2 := Lib.hid hpl2
      have Hpf := Lib.hid (pieceF_pad bs i k1)
      have Hpn := Lib.hid (pieceN_pad bs i k1)
      clear hfl hpl2 hb3 hx hbl
      go_wp2_with fail
      refine (encode_calls b vx (padL bs i) i n' w3 hc hxy Hpl2.out k1 k2 (by omega)).mono ?_
      rintro e w4 ⟨Z, iz, rfl, hZ, hb4⟩
      rw [Hpf.out, Hpn.out, ← Hl.out, ← HS.out] at hZ
      have hZ := hZ.rws (by omega) (by omega)
      have hR := hR.below hb4
      have W := W.trans hb4
      clear hb4
      go_wp2_with fail
      refine (rows8_yes _ _ _ _ _ hZ hR rfl).mono ?_
      rintro e w5 ⟨rfl, d, rfl⟩
      go_wp2_with fail
      refine (wakes06_calls _).mono ?_
      rintro e w6 ⟨rfl, hb6⟩
      go_wp2
      go_ret
      exact ⟨rfl, (W.drewN d).trans hb6⟩
end Go.Proofs.Ytdciakbichgddaa
