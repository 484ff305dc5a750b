/- Walks of package rs: Encode, the matrix in new memory. -/
import Derived.Test.YtdciakbichgddaaRsCode
import Derived.Deep.AppendLies
namespace Go.Proofs.Ytdciakbichgddaa
open Go Go.RowKit Go.Mem Gf

theorem bys_sub {w : World} {g off L cap : Nat} {bs : List UInt8} (h : Bys w (.slice (some ⟨g, off, none⟩) L cap) bs) (q l : Nat) (hq : q + l ≤ bs.length) :
    Bys w (.slice (some ⟨g, off + q, none⟩) l (cap - q)) (rowL l fun x => bs.getD (q + x) 0) := by
  obtain ⟨a', cap', e, h1, h2, h3⟩ := h
  injection e with e1 e2 e3
  subst e3
  refine ⟨_, cap - q, by rw [rowL_len], by rw [rowL_len]; omega, by omega, fun hp => ⟨g, off + q, rfl, fun i u hi => ?_⟩⟩
  rw [rowL_len] at hp
  obtain ⟨b, o, e, hc⟩ := h3 (by omega)
  rw [← e1] at e
  injection e with e
  injection e with e4 e5
  subst e4 e5
  have hil : i < l := by
    rcases Nat.lt_or_ge i l with h' | h'
    · exact h'
    · rw [List.getElem?_eq_none (by rw [rowL_len]; exact h')] at hi; cases hi
  rw [rowL_get _ _ _ hil] at hi
  cases hi
  have := hc (q + i) (bs.getD (q + i) 0) (by rw [List.getD_eq_getElem?_getD, List.getElem?_eq_getElem (by omega)]; rfl)
  rw [Nat.add_assoc]; exact this
theorem rowL_zero (f : Nat → UInt8) : rowL 0 f = [] := rfl

set_option maxRecDepth 20000 in
set_option maxHeartbeats 2000000 in
theorem encode_calls (b : Nat) (v : Value) (bs : List UInt8) (k n : Nat) (w : World) (hc : IsCode w b k n) (h : Bys w v bs) (hl : bs.length ≤ 1000) (k1 : 1 ≤ k) (hkn : k ≤ n) (n2 : n ≤ 16) :
    Calls Try.prog 57 #[.pointer (some ⟨b, 0, none⟩), v] w fun e w' => ∃ X ids, e = .returned (.slice (some ⟨X, 0, none⟩) n n) ∧
      OwnM 5 31 w' w.heap.size X ids n (pieceN bs k) (MM k (CM k) (pieceF bs k)) ∧ Below w.heap.size w w' := by
  obtain ⟨am, cm, hB, hM⟩ := hc
  have lb := hB.lt
  have hF := fun (x : World) (hx : Below w.heap.size w x) => (show x.cell? ⟨b, 0, none⟩ = some (.int .i64 k) ∧ x.cell? ⟨b, 2, none⟩ = some (.slice am n cm) from ⟨by rw [(hB.kept hx).cell]; rfl, by rw [(hB.kept hx).cell]; rfl⟩)
  have HF := Lib.hid hF
  clear hF
  obtain ⟨p1, p2, p3⟩ := padN_facts bs.length k k1
  have hml := pieceN_mul bs k k1
  have hpl := padL_len bs k k1
  obtain ⟨l, hll⟩ : ∃ l, l = pieceN bs k := ⟨_, rfl⟩
  have hP : ∀ i x, pieceF bs k i x = (padL bs k).getD (l * i + x) 0 := fun i x => by rw [hll]; rfl
  rw [← hll] at hml ⊢
  generalize padN bs.length k = L at *
  have c0 := (HF.out w (Below.refl _ _)).1
  go_enter Try.func57, Try.ntmps57
  have HP := Lib.hid hP; have Hml := Lib.hid hml; have Hpl := Lib.hid hpl
  clear hP hml hpl hll p3
  go_wp2_with fail
  refine (pad_calls v bs k w h (by omega) k1 (by omega) k (.inl rfl)).mono ?_
  rintro e w1 ⟨v1, rfl, hown, hb1⟩
  generalize hps : padL bs k = ps at *
  have hps2 : ps.length = L := by have := Hpl.out; exact this
  obtain ⟨a1, c1, e1⟩ := hown.eq_slice
  rw [hps2] at e1
  subst e1
  have c0 := (HF.out w1 hb1).1
  have hdiv : (L : Int) / (k : Int) = (l : Int) := by
    have := Hml.out
    rw [← this, Int.natCast_mul]
    exact Int.mul_ediv_cancel _ (by omega)
  have hdiv2 : (L : Int).tdiv (k : Int) = (l : Int) := by rw [Int.tdiv_eq_ediv_of_nonneg (by omega)]; exact hdiv
  have Hps := Lib.hid hps2
  have hlL : l ≤ L := by have := Hml.out; rw [← this]; exact Nat.le_mul_of_pos_right l (by omega)
  clear hps hps2 h
  by_cases hl0 : l = 0
  · have hL0 : L = 0 := by have := Hml.out; rw [← this, hl0, Nat.zero_mul]
    subst hl0 hL0
    go_wp2_with fail
    go_loopw [7, 26] (fun o v wi => ∃ (i : Nat) (vs : List Value), i ≤ k ∧ v = .int .i64 i ∧ wi.ownsRow w1.heap.size 31 1 o i vs ∧
        (∀ (j : Nat) (x : List UInt8), (rowsL i 0 (pieceF bs k))[j]? = some x → ∃ v', vs[j]? = some v' ∧ Bys w1 v' x) ∧ Below w1.heap.size w1 wi) (fun _ v _ => k - (intOf v).toNat)
    case atStart => exact ⟨0, [], by omega, rfl, World.ownsRow_nil _ _ _ _, fun j x hj => by simp [rowsL] at hj, Below.refl _ _⟩
    case round =>
      obtain ⟨i, vs, hi, rfl, hvo, hvs, hbi⟩ := hrel
      have Hvs := Lib.hid hvs
      clear hvs
      have hsi := hbi.size
      have hroom : 0 ≤ c1 := by
        obtain ⟨a', cap', e, h1, _⟩ := hown.bys
        injection e with e1 e2 e3
        have := Hps.out; omega
      by_cases h0 : i < k
      · have hnext : ∀ (rv : Value), Bys w1 rv (rowL 0 (pieceF bs k i)) → ∀ (j : Nat) (x : List UInt8), (rowsL (i + 1) 0 (pieceF bs k))[j]? = some x → ∃ v', (vs ++ [rv])[j]? = some v' ∧ Bys w1 v' x := fun rv hrv j x hj => by
          have hvl : vs.length = i := by have := hvo.1; omega
          rw [rowsL_succ] at hj
          rcases Nat.lt_or_ge j i with hji | hji
          · rw [List.getElem?_append_left (by rw [rowsL_len]; exact hji)] at hj
            obtain ⟨v', h1, h2⟩ := Hvs.out j x hj
            exact ⟨v', by rw [List.getElem?_append_left (by omega)]; exact h1, h2⟩
          · rw [List.getElem?_append_right (by rw [rowsL_len]; exact hji), rowsL_len] at hj
            have hj0 : j - i = 0 := by
              rcases Nat.eq_zero_or_pos (j - i) with h | h
              · exact h
              · rw [List.getElem?_eq_none (by simp; omega)] at hj; cases hj
            rw [hj0] at hj
            simp at hj
            subst hj
            exact ⟨rv, by rw [List.getElem?_append_right (by omega), hvl, hj0]; rfl, hrv⟩
        have Hnext := Lib.hid hnext
        clear hnext
        have hbz : Bys w1 (.slice a1 0 c1) (rowL 0 (pieceF bs k i)) := by
          obtain ⟨a', cap', e, h1, h2, h3⟩ := hown.bys
          injection e with e1 e2 e3
          exact ⟨a1, c1, rfl, Nat.zero_le _, by rw [e3]; exact h2, fun hp => by simp [rowL] at hp⟩
        have Hbz := Lib.hid hbz
        clear hbz
        go_wp2_with (at_builtin; refine app_one ER rfl _ _ rfl (.slice a1 0 c1) rfl rfl ?c1 rfl hvo ?c2 (by decide) ?c3 ?_)
        case c1 => rfl
        case c2 => omega
        case c3 => exact hsi
        intro v' w3 hown' hgrow
        go_wp2_with fail
        exact ⟨⟨i + 1, _, by omega, by go_num, hown', Hnext.out _ Hbz.out, Below.grown hbi hgrow hsi (fun b hb => (hvo.lt b hb).1)⟩, by simp [intOf]; omega⟩
      · obtain rfl : k = i := by omega
        have hrw : Rws wr _ (rowsL k 0 (pieceF bs k)) := rws_of_own hvo (rowsL_len _ _ _) fun j x hj => by
          obtain ⟨v', h1, h2⟩ := Hvs.out j x hj
          exact ⟨v', h1, h2.below hbi⟩
        have W := Aft.trans hb1 hbi
        have c2 := (HF.out wr W).2
        have hM2 := hM.below W
        go_wp2_with fail
        refine (work_calls _ _ n k 0 (CM k) (pieceF bs k) wr hM2 hrw (by omega) k1 (by omega) (by omega)).mono ?_
        rintro e w4 ⟨X, ids, rfl, hO, hb4⟩
        go_wp2
        go_ret
        exact ⟨X, ids, rfl, hO.mono W.size, W.trans hb4⟩
  · have hL0 : 0 < L := by omega
    go_wp2_with fail
    go_loopw [7, 26] (fun o v wi => ∃ (i : Nat) (vs : List Value), i ≤ k ∧ v = .int .i64 i ∧ wi.ownsRow w1.heap.size 31 1 o i vs ∧
        (∀ (j : Nat) (x : List UInt8), (rowsL i l (pieceF bs k))[j]? = some x → ∃ v', vs[j]? = some v' ∧ Bys w1 v' x) ∧ Below w1.heap.size w1 wi) (fun _ v _ => k - (intOf v).toNat)
    case atStart => exact ⟨0, [], by omega, rfl, World.ownsRow_nil _ _ _ _, fun j x hj => by simp [rowsL] at hj, Below.refl _ _⟩
    case round =>
      obtain ⟨i, vs, hi, rfl, hvo, hvs, hbi⟩ := hrel
      have Hvs := Lib.hid hvs
      clear hvs
      have hsi := hbi.size
      have hroom : L ≤ c1 := by
        obtain ⟨a', cap', e, h1, _⟩ := hown.bys
        injection e with e1 e2 e3
        have := Hps.out; omega
      by_cases h0 : i < k
      · have hnext : ∀ (rv : Value), Bys w1 rv (rowL l (pieceF bs k i)) → ∀ (j : Nat) (x : List UInt8), (rowsL (i + 1) l (pieceF bs k))[j]? = some x → ∃ v', (vs ++ [rv])[j]? = some v' ∧ Bys w1 v' x := fun rv hrv j x hj => by
          have hvl : vs.length = i := by have := hvo.1; omega
          rw [rowsL_succ] at hj
          rcases Nat.lt_or_ge j i with hji | hji
          · rw [List.getElem?_append_left (by rw [rowsL_len]; exact hji)] at hj
            obtain ⟨v', h1, h2⟩ := Hvs.out j x hj
            exact ⟨v', by rw [List.getElem?_append_left (by omega)]; exact h1, h2⟩
          · rw [List.getElem?_append_right (by rw [rowsL_len]; exact hji), rowsL_len] at hj
            have hj0 : j - i = 0 := by
              rcases Nat.eq_zero_or_pos (j - i) with h | h
              · exact h
              · rw [List.getElem?_eq_none (by simp; omega)] at hj; cases hj
            rw [hj0] at hj
            simp at hj
            subst hj
            exact ⟨rv, by rw [List.getElem?_append_right (by omega), hvl, hj0]; rfl, hrv⟩
        have Hnext := Lib.hid hnext
        clear hnext
        obtain ⟨q, hq⟩ : ∃ q, q = l * i := ⟨_, rfl⟩
        have hq2 : q + l ≤ L := by
          have h1 := Hml.out
          have h2 : l * (i + 1) ≤ l * k := Nat.mul_le_mul_left l h0
          rw [Nat.mul_add, Nat.mul_one] at h2
          omega
        have hown9 : w1.ownsRow w.heap.size 5 1 (.slice a1 L c1) L (bV ps) := by have := hown; unfold OwnB at this; rw [Hps.out] at this; exact this
        obtain ⟨g, c', e, hg1, hg2⟩ := hown9.form hL0
        clear hown9
        injection e with e1 e2 e3
        subst e1 e3
        have hbz : Bys w1 (.slice (some ⟨g, q, none⟩) l (c1 - q)) (rowL l (pieceF bs k i)) := by
          have h1 := bys_sub hown.bys q l (by rw [Hps.out]; exact hq2)
          rw [rowL_congr (g := pieceF bs k i) (fun x _ => by rw [HP.out, hq])] at h1
          rw [Nat.zero_add] at h1; exact h1
        have Hbz := Lib.hid hbz
        clear hbz
        have hw1 : IntKind.i64.wrap ((l : Int) * (i : Int)) = (q : Int) := by rw [← Int.natCast_mul, ← hq]; exact IntWalk.i64_in _ (by omega)
        have he : (l : Int) * ((i : Int) + 1) = ((q + l : Nat) : Int) := by rw [hq, Int.mul_add, Int.mul_one]; simp
        have hw3 : IntKind.i64.wrap ((l : Int) * ((i : Int) + 1)) = ((q + l : Nat) : Int) := by rw [he]; exact IntWalk.i64_in _ (by omega)
        have Hq := Lib.hid hq
        clear hq he
        go_wp2_with (at_builtin; refine app_one ER rfl _ _ rfl (.slice (some ⟨g, q, none⟩) l (c1 - q)) rfl rfl ?d1 rfl hvo ?d2 (by decide) ?d3 ?_)
        case d1 => rfl
        case d2 => omega
        intro v' w3 hown' hgrow
        go_wp2_with fail
        exact ⟨⟨i + 1, _, by omega, by go_num, hown', Hnext.out _ Hbz.out, Below.grown hbi hgrow hsi (fun b hb => (hvo.lt b hb).1)⟩, by simp [intOf]; omega⟩
      · obtain rfl : k = i := by omega
        have hrw : Rws wr _ (rowsL k l (pieceF bs k)) := rws_of_own hvo (rowsL_len _ _ _) fun j x hj => by
          obtain ⟨v', h1, h2⟩ := Hvs.out j x hj
          exact ⟨v', h1, h2.below hbi⟩
        have W := Aft.trans hb1 hbi
        have c2 := (HF.out wr W).2
        have hM2 := hM.below W
        go_wp2_with fail
        refine (work_calls _ _ n k l (CM k) (pieceF bs k) wr hM2 hrw (by omega) k1 (by omega) (by omega)).mono ?_
        rintro e w4 ⟨X, ids, rfl, hO, hb4⟩
        go_wp2
        go_ret
        exact ⟨X, ids, rfl, hO.mono W.size, W.trans hb4⟩

set_option maxRecDepth 20000 in
set_option maxHeartbeats 2000000 in
theorem fresh_calls (v : Value) (n m : Nat) (F : Mx) (w : World) (h : Rws w v (rowsL n m F)) (hn : n ≤ 4096) (hm : m ≤ 1000000) :
    Calls Try.prog 87 #[v] w fun e w' => ∃ v', e = .returned v' ∧ OwnRows 5 31 w' w.heap.size v' (rowsL n m F) ∧ Below w.heap.size w w' := by
  obtain ⟨a, cap, rfl⟩ := h.mat
  go_enter Try.func87, Try.ntmps87
  go_wp2_with fail
  go_loopw [3, 8] (fun o v wr => ∃ i : Nat, i ≤ n ∧ v = .int .i64 i ∧ OwnRows 5 31 wr w.heap.size o (rowsL i m F) ∧ Below w.heap.size w wr)
    (fun _ v _ => n - (intOf v).toNat)
  case atStart => exact ⟨0, by omega, rfl, OwnRows.nil _ _ _ _, Below.refl _ _⟩
  case round =>
    obtain ⟨i, hi, rfl, hown, hbel⟩ := hrel
    have hs := hbel.size
    by_cases h0 : i < n
    · obtain ⟨b, off, ra, ca, rfl, c1, hra⟩ := (h.below hbel).row i h0
      go_wp2_with (at_builtin; refine app_bytes E8 rfl _ _ rfl (base := wr.heap.size) (v := .slice none 0 0) (bs := []) (news := rowL m (F i)) rfl rfl (OwnB.nil _ _ _) hra ?c1 (Nat.le_refl _) ?_)
      case c1 => simp [rowL_len]; omega
      intro v1 w1 hv1 hg1
      have hb1 : Below wr.heap.size wr w1 := grown_none hg1 rfl
      have hs1 : w.heap.size ≤ w1.heap.size := Nat.le_trans hs hb1.size
      have hown2 := hown.below hb1
      have hv2 := hv1.mono hs
      have hbel1 := Aft.trans hbel hb1
      obtain ⟨r7, c7, e7⟩ := hv1.eq_slice
      rw [rowL_len] at e7
      subst e7
      clear hg1
      go_wp2_with (at_builtin; refine app_row ER rfl _ _ rfl rfl rfl ?d1 hown2 hv2 (by decide) ?d2 ?d3 ?_)
      case d1 => rfl
      case d2 => rw [rowsL_len]; omega
      case d3 => exact hs1
      intro v' w2 hown' hgrow
      go_wp2_with fail
      exact ⟨⟨i + 1, by omega, by go_num, by rw [rowsL_succ]; exact hown', Below.grown hbel1 hgrow hs1 (fun b hb => (hown2.lt b hb).1)⟩, by simp [intOf]; omega⟩
    · obtain rfl : i = n := by omega
      go_wp2
      go_ret
      exact ⟨_, rfl, hown, hbel⟩

set_option maxHeartbeats 1000000 in
theorem matrix_calls (b k n : Nat) (w : World) (hc : IsCode w b k n) (k2 : k ≤ 4096) (n2 : n ≤ 16) :
    Calls Try.prog 67 #[.pointer (some ⟨b, 0, none⟩)] w fun e w' => ∃ v', e = .returned v' ∧ OwnRows 5 31 w' w.heap.size v' (rowsL n k (CM k)) ∧ Below w.heap.size w w' := by
  obtain ⟨am, cm, hB, hM⟩ := hc
  have c2 : w.cell? ⟨b, 2, none⟩ = some (.slice am n cm) := by rw [hB.cell]; rfl
  go_enter Try.func67, Try.ntmps67
  go_wp2_with fail
  refine (fresh_calls _ n k (CM k) w hM (by omega) (by omega)).mono ?_
  rintro e w1 ⟨v', rfl, hO, hb⟩
  go_wp2
  go_ret
  exact ⟨v', rfl, hO, hb⟩
end Go.Proofs.Ytdciakbichgddaa
