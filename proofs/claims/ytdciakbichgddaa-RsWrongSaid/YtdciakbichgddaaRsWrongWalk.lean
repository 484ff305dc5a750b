/- The walk of the statement RsWrong. -/
import Derived.Test.YtdciakbichgddaaRsWrongMem
import Derived.RegionTactic
namespace Go.Proofs.Ytdciakbichgddaa
open Go Go.RowKit Go.Mem Gf
attribute [local go_sem ↓] Go.wp_at_zero Go.wp_at_succ

set_option maxRecDepth 100000 in
set_option maxHeartbeats 8000000 in
theorem rsWrong_walk (w : World) (vb : Value) (xs : List UInt8) (hb : Bys w vb xs) (k : Int) (_hk : -9223372036854775808 ≤ k ∧ k ≤ 9223372036854775807) (n : Int) (_hn : -9223372036854775808 ≤ n ∧ n ≤ 9223372036854775807)
    (i : Int) (_hi : -9223372036854775808 ≤ i ∧ i ≤ 9223372036854775807) (at' : Int) (_ha : -9223372036854775808 ≤ at' ∧ at' ≤ 9223372036854775807) (c : Nat) (hc8 : c < 256) :
    Calls Try.prog 21 #[vb, .int .i64 k, .int .i64 n, .int .i64 i, .int .i64 at', .int .u8 c] w fun e w' => e = .returned (.bool true) ∧ Below w.heap.size w w' := by
  clear _hk _hn _hi _ha
  obtain ⟨c, rfl⟩ : ∃ q : UInt8, c = q.toNat := ⟨.ofNat c, by simp; omega⟩
  clear hc8
  go_enter Try.func21, Try.ntmps21
  go_wp2_with fail
  refine (cut8_calls vb xs 50 _ (hb.below ((Below.refl w.heap.size _).alloc (Nat.le_refl _) _))).mono ?_
  rintro e w1 ⟨⟨vb', rfl, hb⟩, rfl⟩
  generalize hbs : xs.take 50 = bs at *
  have lbs : bs.length ≤ 50 := by rw [← hbs]; simp; omega
  clear hbs
  have hlit : OwnB 5 (w.alloc (.cells #[.int .u8 1] 5)) w.heap.size (.slice (some ⟨w.heap.size, 0, none⟩) 1 1) [1] :=
    ⟨by simp [bV_len], .inr ⟨w.heap.size, 1, #[.int .u8 1], rfl, Nat.le_refl _, Blk.new w _ _, Nat.le_refl _, by decide, rfl, rfl⟩⟩
  go_wp2_with (at_builtin; refine app_bytes E8 rfl _ _ rfl (base := w.heap.size) (v := .slice (some ⟨w.heap.size, 0, none⟩) 1 1) (bs := [1]) (news := bs) rfl rfl hlit hb (by simp; omega) (by simp) ?_)
  intro v' w1 hown hg
  have W : Aft w w1 := (Below.grown ((Below.refl w.heap.size _).alloc (Nat.le_refl _) _) hg (by simp) (fun q hq => (hlit.lt q hq).1))
  have hb := hown.bys
  clear hown hg hlit
  obtain ⟨bs', hbs'⟩ : ∃ q, q = 1 :: bs := ⟨_, rfl⟩
  rw [← hbs'] at hb
  have lbs' : 1 ≤ bs'.length ∧ bs'.length ≤ 51 := by rw [hbs']; simp; omega
  clear hbs' lbs
  go_wp2_with fail
  refine (within_calls n 8 (by decide) (by decide) _).mono ?_
  rintro e w2 ⟨rfl, rfl⟩
  obtain ⟨hn1, hn2⟩ := within_range n 8 (by decide)
  go_wp2_with fail
  generalize hq : 1 + within n 8 = q at *
  obtain ⟨n', rfl⟩ : ∃ k : Nat, q = k := ⟨q.toNat, by omega⟩
  have n1 : 1 ≤ n' := by omega
  have n2 : n' ≤ 8 := by omega
  clear hq hn1 hn2
  refine (within_calls k n' (by omega) (by omega) _).mono ?_
  rintro e w2 ⟨rfl, rfl⟩
  obtain ⟨hn1, hn2⟩ := within_range k n' (by omega)
  go_wp2_with fail
  generalize hq : 1 + within k n' = q at *
  obtain ⟨k', rfl⟩ : ∃ k : Nat, q = k := ⟨q.toNat, by omega⟩
  have k1 : 1 ≤ k' := by omega
  have k2 : k' ≤ n' := by omega
  clear hq hn1 hn2
  refine (rsnew_calls k' n' k1 k2 (by omega) w1).mono ?_
  rintro e w2 ⟨b, rfl, hb0, hc, hb1⟩
  have hb := hb.below hb1
  have W := W.trans hb1
  clear hb1 hb0
  by_cases hz : c = 0
  · have t0 : (((c.toNat : Nat) : Int) == 0) = true := by subst hz; rfl
    go_wp2_with fail
    refine (wakes06_calls _).mono ?_
    rintro e w3 ⟨rfl, hb6⟩
    go_wp2
    go_ret
    exact ⟨rfl, W.trans hb6⟩
  · have t0 : (((c.toNat : Nat) : Int) == 0) = false := by
      have : c.toNat ≠ 0 := fun e => hz (UInt8.toNat_inj.1 (by simpa using e))
      simp; omega
    have t0' : (c.toNat == 0) = false := by
      have : c.toNat ≠ 0 := fun e => hz (UInt8.toNat_inj.1 (by simpa using e))
      simpa using this
    have Hz := Lib.hid hz
    clear hz
    go_wp2_with fail
    refine (encode_calls b v' bs' k' n' w2 hc hb (by omega) k1 k2 (by omega)).mono ?_
    rintro e w3 ⟨X, ids, rfl, hO, hb2⟩
    have hc := hc.below hb2
    have hb := hb.below hb2
    have W := W.trans hb2
    clear hb2
    have hml := pieceN_mul bs' k' k1
    have hpf := padN_facts bs'.length k' k1
    have hpl : pieceN bs' k' ≤ 1000 := by
      have h2 := hpf.2.1
      have h3 : pieceN bs' k' ≤ pieceN bs' k' * k' := Nat.le_mul_of_pos_right _ (by omega)
      omega
    have hpl1 : 1 ≤ pieceN bs' k' := by
      rcases Nat.eq_zero_or_pos (pieceN bs' k') with h | h
      · rw [h] at hml; omega
      · exact h
    have Hml := Lib.hid hml
    clear hpf hml
    have hR := hO.rws (by omega) (by omega)
    have tn : ((n' : Int) != (n' : Int)) = false := by simp
    obtain ⟨l, hl⟩ : ∃ l, l = pieceN bs' k' := ⟨_, rfl⟩
    obtain ⟨S, hS⟩ : ∃ S, S = MM k' (CM k') (pieceF bs' k') := ⟨_, rfl⟩
    rw [← hl, ← hS] at hR
    rw [← hl] at hpl hpl1
    have Hl := Lib.hid hl; have HS := Lib.hid hS
    clear hl hS hO
    obtain ⟨d, rfl⟩ : ∃ d, n' = d + k' := ⟨n' - k', by omega⟩
    go_wp2_with fail
    obtain ⟨wo, hwo⟩ : ∃ wo, wo = w3 := ⟨_, rfl⟩
    rw [← hwo] at hc hb hR W ⊢
    clear hwo
    go_loopw [16, 17] (fun o v wi => ∃ (i : Nat) (g cp : Nat → Nat), i ≤ k' ∧ v = .int .i64 ((d + i : Nat) : Int) ∧ wi.ownsRow wo.heap.size 80 2 o i (blobC i (fun j => d + j) fun j => .slice (some ⟨g j, 0, none⟩) l (cp j)) ∧
        (∀ j, j < i → OwnB 5 wi wo.heap.size (.slice (some ⟨g j, 0, none⟩) l (cp j)) (rowL l (S (d + j))) ∧ ∀ q, q < j → g q < g j) ∧ Below wo.heap.size wo wi) (fun _ v _ => d + k' - (intOf v).toNat)
    case atStart => exact ⟨0, fun _ => 0, fun _ => 0, by omega, by go_num, World.ownsRow_nil _ _ _ _, fun j hj => by omega, Below.refl _ _⟩
    case round =>
      obtain ⟨p, g, cp, hp, rfl, hown, hdv, hbel⟩ := hrel
      have Hdv := Lib.hid hdv
      clear hdv
      have hs := hbel.size
      by_cases h0 : p < k'
      · obtain ⟨bx, ox, rx, cx, e, c1, hrow⟩ := hR.row (d + p) (by omega)
        injection e with e
        injection e with e1 e2
        subst e1 e2
        simp only [Nat.zero_add] at c1
        have c1' : wr.cell? ⟨X, d + p, none⟩ = some (.slice rx l cx) := (hbel.cell (p := ⟨X, d + p, none⟩) (World.block_lt_of_cell? wo _ c1)).trans c1
        have hrow := hrow.below hbel
        clear c1
        go_wp2_with fail
        refine (copy8_calls _ (rowL l (S (d + p))) wr hrow (by rw [rowL_len]; omega)).mono ?_
        rintro e w4 ⟨v4, rfl, hv4, hb4⟩
        obtain ⟨g0, c0, e, hg1, hg2⟩ := World.ownsRow.form hv4 (by rw [rowL_len]; omega)
        rw [rowL_len] at e
        subst e
        have hown4 := own_below hown hb4
        have hbel4 : Aft wo w4 := Aft.trans hbel hb4
        go_wp2_with (at_builtin; refine app_blob Try.underlying78 EBi rfl rfl _ _ rfl (.int .i64 ((d + p : Nat) : Int)) (.slice (some ⟨g0, 0, none⟩) l c0) rfl rfl ?c1 rfl rfl hown4 ?c2 (by decide) ?c3 ?_)
        case c1 => rfl
        case c2 => omega
        case c3 => exact hbel4.size
        intro v5 w5 hown5 hgrow
        go_wp2_with fail
        refine ⟨⟨p + 1, fun j => if j = p then g0 else g j, fun j => if j = p then c0 else cp j, by omega, by go_num, ?_, fun j hj => ?_, Below.grown hbel4 hgrow hbel4.size (fun b hb => (hown4.lt b hb).1)⟩, by simp [intOf]; omega⟩
        · rw [blobC_succ]
          have e : blobC p (fun j => d + j) (fun j => .slice (some ⟨if j = p then g0 else g j, 0, none⟩) l (if j = p then c0 else cp j)) = blobC p (fun j => d + j) fun j => .slice (some ⟨g j, 0, none⟩) l (cp j) :=
            blobC_congr fun j hj => by rw [if_neg (by omega), if_neg (by omega)]
          rw [e]
          first | exact hown5 | (simp only [if_true]; exact hown5)
        · by_cases e : j = p
          · subst e
            simp only [if_true]
            refine ⟨own_grown (OwnB.mono hv4 hs) hown4 (by decide) hgrow, fun q hq => ?_⟩
            rw [if_neg (by omega)]
            have := (Hdv.out q hq).1.lt (g q) rfl
            omega
          · simp only [if_neg e]
            obtain ⟨h1, h2⟩ := Hdv.out j (by omega)
            refine ⟨own_grown (OwnB.below h1 hb4) hown4 (by decide) hgrow, fun q hq => ?_⟩
            rw [if_neg (by omega)]
            exact h2 q hq
      · obtain rfl : k' = p := by omega
        obtain ⟨gb, cb, e16, hgb1, hgb2⟩ := World.ownsRow.form hown (by omega)
        subst e16
        go_wp2_with fail
        refine (within_calls i k' (by omega) (by omega) _).mono ?_
        rintro e w4 ⟨rfl, rfl⟩
        obtain ⟨hj1, hj2⟩ := within_range i k' (by omega)
        generalize within i k' = q at *
        obtain ⟨r, rfl⟩ : ∃ k : Nat, q = k := ⟨q.toNat, by omega⟩
        have hr : r < k' := by omega
        have c2 : wr.cell? ⟨gb, r * 2 + 1, none⟩ = some (.slice (some ⟨g r, 0, none⟩) l (cp r)) := own_cell2 hown (blobC_get _ _ k' r hr).2
        have tl : ((l : Int) == 0) = false := by simp; omega
        have tl' : (l == 0) = false := by simp; omega
        have r3 : (r : Int) < (k' : Int) := by omega
        go_wp2_with fail
        refine (within_calls at' l (by omega) (by omega) _).mono ?_
        rintro e w4 ⟨rfl, rfl⟩
        obtain ⟨ht1, ht2⟩ := within_range at' l (by omega)
        generalize within at' l = q at *
        obtain ⟨t, rfl⟩ : ∃ k : Nat, q = k := ⟨q.toNat, by omega⟩
        have ht : t < l := by omega
        have hdr := (Hdv.out r hr).1
        have c3 : wr.cell? ⟨g r, t, none⟩ = some (.int .u8 ((S (d + r) t).toNat : Int)) := own_cell2 hdr (by rw [bV_get, rowL_get _ _ _ ht]; rfl)
        have f3 : wr.frozen? ⟨g r, t, none⟩ = false := own_free2 hdr rfl t
        have hxr : bits .xor .u8 ((S (d + r) t).toNat : Int) (c.toNat : Int) = ((S (d + r) t ^^^ c).toNat : Int) := by
          rw [UInt8.toNat_xor]; exact bits_xor_u8 _ _ (UInt8.toNat_lt _) (UInt8.toNat_lt _)
        obtain ⟨wq, hwq⟩ : ∃ wq, wq = wr.setCell ⟨g r, t, none⟩ (.int .u8 ((S (d + r) t ^^^ c).toNat : Int)) := ⟨_, rfl⟩
        have hwq2 : wq = wr.setCell ⟨g r, t, none⟩ (.int .u8 (((S (d + r) t).toNat ^^^ c.toNat : Nat) : Int)) := by rw [hwq, UInt8.toNat_xor]
        have hbq : Below wo.heap.size wo wq := by rw [hwq]; exact hbel.setCell (hdr.lt (g r) rfl).1 _
        have hblq : Blbs wq (.slice (some ⟨gb, 0, none⟩) k' cb) k' l (fun j => d + j) (badR (fun j => S (d + j)) r t c) := by
          rw [hwq]
          refine blbs_of_own (own_set_other (a := ⟨g r, t, none⟩) hown (own_ne hown hdr (by decide) rfl) _) k1 fun j hj => ⟨⟨_, _, rfl⟩, ?_⟩
          obtain ⟨h1, h2⟩ := Hdv.out j hj
          by_cases e : j = r
          · subst e
            have h3 := (own_set_at hdr ht (S (d + j) t ^^^ c)).bys
            rw [rowL_congr (g := badR (fun j => S (d + j)) j t c j) (fun x _ => by unfold badR; by_cases e2 : x = t <;> simp [e2])] at h3
            exact h3
          · have hne : g j ≠ g r := by
              rcases Nat.lt_or_ge j r with h | h
              · have := (Hdv.out r hr).2 j h; omega
              · have := h2 r (by omega); omega
            have h3 : OwnB 5 (wr.setCell ⟨g r, t, none⟩ (.int .u8 ((S (d + r) t ^^^ c).toNat : Int))) wo.heap.size (.slice (some ⟨g j, 0, none⟩) l (cp j)) (rowL l (S (d + j))) :=
              own_set_other h1 (by simp [Value.ownBlock]; exact hne) _
            have h4 := h3.bys
            rw [rowL_congr (g := badR (fun j => S (d + j)) r t c j) (fun x _ => by unfold badR; simp [e])] at h4
            exact h4
        have hc := hc.below hbq
        have hb := hb.below hbq
        have W := W.trans hbq
        clear hown hdr hbq
        go_wp2_with fail
        rw [← hwq2]
        refine (decode_calls b _ k' (d + k') l (fun j => d + j) _ wq hc hblq (by omega) k1 k2 (by omega) (fun j hj => by omega) (fun j j' _ _ e => by omega)).mono ?_
        rintro e w5 ⟨vx, Y, rfl, hI, hx, hb5⟩
        have hb := hb.below hb5
        have W := W.trans hb5
        have hD : EqM k' l (MM k' Y (badR (fun j => S (d + j)) r t c)) (badD (pieceF bs' k') Y r t c) := dec_wrong hr (dec_same hI (fun a ha b hb => by rw [HS.out]; rfl))
        rw [flatR_congr hD] at hx
        have hxy := hx.bys
        clear hblq hc hx hwq hwq2 c3 f3 c2 hb5
        go_wp2_with fail
        refine (pad_calls v' bs' k' w5 hb (by omega) k1 (by omega) k' (.inl rfl)).mono ?_
        rintro e w6 ⟨vp, rfl, hvp, hb6⟩
        have hvp := hvp.bys
        have hxy := hxy.below hb6
        have W := W.trans hb6
        rw [← flat_pieces bs' k' k1, ← Hl.out] at hvp
        have hne := flat_wrong (P := pieceF bs' k') hI hr ht Hz.out
        have Hdf := Lib.hid fun j (hj : j < k' * l) => flat_diff (k := k') (l := l) (Y := Y) (P := pieceF bs' k') (i := r) (at' := t) (c := c) hpl1 j hj
        have hlx := flatR_len k' l (badD (pieceF bs' k') Y r t c)
        have hlp := flatR_len k' l (pieceF bs' k')
        generalize flatR k' l (badD (pieceF bs' k') Y r t c) = Dx at *
        generalize flatR k' l (pieceF bs' k') = Dp at *
        have hne' : decide (Dx = Dp) = false := decide_eq_false hne
        obtain ⟨ax, cx, e⟩ := hxy.eq_slice
        rw [hlx] at e; subst e
        obtain ⟨ap, cq, e⟩ := hvp.eq_slice
        rw [hlp] at e; subst e
        have hNk : k' * l / k' = l := Nat.mul_div_cancel_left _ (by omega)
        obtain ⟨N, hN⟩ : ∃ N, N = k' * l := ⟨_, rfl⟩
        rw [← hN] at hxy hvp hNk ⊢
        have HN := Lib.hid hN
        rw [← hN] at hlx hlp
        have Hlx := Lib.hid hlx; have Hlp := Lib.hid hlp
        have hdiv2 : (N : Int).tdiv (k' : Int) = (l : Int) := by rw [Int.tdiv_eq_ediv_of_nonneg (by omega)]; rw [← Int.natCast_ediv]; exact congrArg _ hNk
        have tk : ((k' : Int) == 0) = false := by simp; omega
        have tk' : (k' == 0) = false := by simp; omega
        clear hN hlx hlp hne
        have tN : ((N : Int) != (N : Int)) = false := by simp
        have tN' : (N != N) = false := by simp
        have hS8 := fun (w : World) (h1 : Bys w _ Dx) (h2 : Bys w _ Dp) => same8_calls (.slice ax N cx) (.slice ap N cq) Dx Dp w h1 h2
        rw [hne'] at hS8
        go_wp2_with fail
        refine (hS8 w6 hxy hvp).mono ?_
        rintro e w7 ⟨rfl, d7, rfl⟩
        go_wp2_with fail
        have hNb : N ≤ 9223372036854775807 := by have := hxy.len; rw [Hlx.out] at this; exact this
        go_loopw [142] (fun v wr => ∃ j : Nat, j ≤ N ∧ v = .int .i64 j ∧ ∃ dr, wr = w6.drewN dr) (fun v _ => N - (intOf v).toNat)
        case atStart => exact ⟨0, by omega, rfl, d7, rfl⟩
        case round => as_aux_lemma =>
          obtain ⟨j, hj, rfl, dr, rfl⟩ := hrel
          by_cases h0 : j < N
          · have Hj := Lib.hid h0
            obtain ⟨u, v, hu, hv, huv⟩ := Hdf.out j (by rw [← HN.out]; exact h0)
            obtain ⟨b1, o1, u1, e1, Hu, c1, _⟩ := hxy.at j (by rw [Hlx.out]; exact h0)
            obtain ⟨b2, o2, u2, e2, Hv, c2, _⟩ := hvp.at j (by rw [Hlp.out]; exact h0)
            subst e1 e2
            obtain rfl : u = u1 := by have := Hu.out; rw [hu] at this; injection this
            obtain rfl : v = u2 := by have := Hv.out; rw [hv] at this; injection this
            have i1 : (0 : Int) ≤ (j : Int) := by omega
            have i2 : (j : Int) < (N : Int) := by omega
            have c1' : (w6.drewN dr).cell? ⟨b1, o1 + j, none⟩ = some (.int .u8 (u.toNat : Int)) := c1
            have c2' : (w6.drewN dr).cell? ⟨b2, o2 + j, none⟩ = some (.int .u8 (v.toNat : Int)) := c2
            clear Hu Hv hu hv
            by_cases e : u = v
            · subst e
              have t1 : ((u.toNat : Int) != (u.toNat : Int)) = false := by simp
              have t2 : (u.toNat != u.toNat) = false := by simp
              clear huv
              go_wp2_with fail
              go_quiet (fail)
              go_wp2
              exact ⟨⟨j + 1, Nat.succ_le_of_lt Hj.out, by go_num, _, rfl⟩, by have := Hj.out; simp [intOf]; omega⟩
            · have hm : j % l = t := Classical.byContradiction fun h => e (huv h)
              have hun : u.toNat ≠ v.toNat := fun h => e (UInt8.toNat_inj.1 h)
              have t1 : ((u.toNat : Int) != (v.toNat : Int)) = true := by simp; omega
              have t2 : (u.toNat != v.toNat) = true := by simp; exact hun
              have hm2 : (j : Int).tmod (l : Int) = (t : Int) := by rw [Int.tmod_eq_emod_of_nonneg (by omega), ← Int.natCast_emod]; exact congrArg _ hm
              have t3 : ((t : Int) != (t : Int)) = false := by simp
              have t4 : (t != t) = false := by simp
              clear huv e hm hun
              go_wp2_with fail
              go_quiet (fail)
              go_wp2
              exact ⟨⟨j + 1, Nat.succ_le_of_lt Hj.out, by go_num, _, rfl⟩, by have := Hj.out; simp [intOf]; omega⟩
          · obtain rfl : N = j := by omega
            go_wp2_with fail
            refine (wakes06_calls _).mono ?_
            rintro e w8 ⟨rfl, hb8⟩
            go_wp2
            go_ret
            exact ⟨rfl, (Aft.trans (W.drewN dr) hb8)⟩
end Go.Proofs.Ytdciakbichgddaa
