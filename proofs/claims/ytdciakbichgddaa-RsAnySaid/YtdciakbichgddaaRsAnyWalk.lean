/- The walk of the statement RsAny. -/
import Derived.Test.YtdciakbichgddaaRsNums
import Derived.RegionTactic
import Derived.ChangeAlike
namespace Go.Proofs.Ytdciakbichgddaa
open Go Go.RowKit Go.Mem Gf
attribute [local go_sem ↓] Go.wp_at_zero Go.wp_at_succ

set_option maxRecDepth 100000 in
set_option maxHeartbeats 8000000 in
theorem rsAny_walk (w : World) (vb : Value) (xs : List UInt8) (hb : Bys w vb xs) (k : Int) (_hk : -9223372036854775808 ≤ k ∧ k ≤ 9223372036854775807) (n : Int) (_hn : -9223372036854775808 ≤ n ∧ n ≤ 9223372036854775807)
    (vo : Value) (os : List Int) (hor : Nms w vo os) (_hob : ∀ z, z ∈ os → -9223372036854775808 ≤ z ∧ z ≤ 9223372036854775807) :
    Calls Try.prog 23 #[vb, .int .i64 k, .int .i64 n, vo] w fun e w' => e = .returned (.bool true) ∧ Below w.heap.size w w' := by
  clear _hk _hn _hob
  have hlo := hor.len
  obtain ⟨ao, co, rfl⟩ := hor.eq_slice
  obtain ⟨lo, hlo'⟩ : ∃ l, l = os.length := ⟨_, rfl⟩
  rw [← hlo'] at hlo hor ⊢
  have Hlo := Lib.hid hlo'
  clear hlo'
  go_enter Try.func23, Try.ntmps23
  go_wp2_with fail
  refine (cut8_calls vb xs 70 w hb).mono ?_
  rintro e w1 ⟨⟨vb', rfl, hb⟩, rfl⟩
  generalize hbs : xs.take 70 = bs at *
  have lbs : bs.length ≤ 70 := by rw [← hbs]; simp; omega
  clear hbs
  go_wp2_with fail
  refine (within_calls n 10 (by decide) (by decide) _).mono ?_
  rintro e w1 ⟨rfl, rfl⟩
  obtain ⟨hn1, hn2⟩ := within_range n 10 (by decide)
  go_wp2_with fail
  generalize hq : 1 + within n 10 = q at *
  obtain ⟨n', rfl⟩ : ∃ k : Nat, q = k := ⟨q.toNat, by omega⟩
  have n1 : 1 ≤ n' := by omega
  have n2 : n' ≤ 10 := by omega
  clear hq hn1 hn2
  refine (within_calls k n' (by omega) (by omega) _).mono ?_
  rintro e w1 ⟨rfl, rfl⟩
  obtain ⟨hn1, hn2⟩ := within_range k n' (by omega)
  go_wp2_with fail
  generalize hq : 1 + within k n' = q at *
  obtain ⟨k', rfl⟩ : ∃ k : Nat, q = k := ⟨q.toNat, by omega⟩
  have k1 : 1 ≤ k' := by omega
  have k2 : k' ≤ n' := by omega
  clear hq hn1 hn2
  refine (rsnew_calls k' n' k1 k2 (by omega) w).mono ?_
  rintro e w1 ⟨b, rfl, hb0, hc, hb1⟩
  have hb := hb.below hb1
  have hor := hor.below hb1
  have W : Aft w w1 := hb1
  clear hb1 hb0
  go_wp2_with fail
  refine (encode_calls b vb' bs k' n' w1 hc hb (by omega) k1 k2 (by omega)).mono ?_
  rintro e w2 ⟨X, ids, rfl, hO, hb2⟩
  have hc := hc.below hb2
  have hb := hb.below hb2
  have hor := hor.below hb2
  have W := W.trans hb2
  clear hb2
  have hpl : pieceN bs k' ≤ 1000 := by
    have h1 := pieceN_mul bs k' k1
    have h2 := (padN_facts bs.length k' k1).2.1
    have h3 : pieceN bs k' ≤ pieceN bs k' * k' := Nat.le_mul_of_pos_right _ (by omega)
    omega
  have hR := hO.rws (by omega) (by omega)
  have tn : ((n' : Int) != (n' : Int)) = false := by simp
  have hmk := fun (w : World) => make_nums (P := Try.prog) 57 3 Try.underlying57 EI.info n' (by omega) w
  obtain ⟨l, hl⟩ : ∃ l, l = pieceN bs k' := ⟨_, rfl⟩
  obtain ⟨S, hS⟩ : ∃ S, S = MM k' (CM k') (pieceF bs k') := ⟨_, rfl⟩
  rw [← hl, ← hS] at hR
  rw [← hl] at hpl
  have Hl := Lib.hid hl; have HS := Lib.hid hS
  clear hl hS hO
  go_wp2_with fail
  go_loopw [54] (fun v wr => ∃ i : Nat, i ≤ n' ∧ v = .int .i64 i ∧ Blk wr w2.heap.size (numArr n' fun j => if j < i then j else 0) 3 ∧ Below w2.heap.size w2 wr) (fun v _ => n' - (intOf v).toNat)
  case atStart => exact ⟨0, by omega, rfl, by simp only [Nat.not_lt_zero, if_false]; exact Blk.new _ _ _, (Below.refl _ _).alloc (Nat.le_refl _) _⟩
  case round =>
    obtain ⟨i, hi, rfl, hx, hbel⟩ := hrel
    by_cases h0 : i < n'
    · have c3 : wr.cell? ⟨w2.heap.size, i, none⟩ = some (.int .i64 0) := by rw [hx.cell, numArr_get _ _ _ h0]; simp
      have f3 := hx.free i
      go_wp2
      refine ⟨⟨i + 1, by omega, by go_num, ?_, hbel.setCell (Nat.le_refl _) _⟩, by simp [intOf]; omega⟩
      have := hx.set i (.int .i64 (i : Int))
      rw [numArr_set] at this
      rw [← numArr_congr (n := n') (p := fun j => if j = i then i else if j < i then j else 0) (fun j _ => ?_)]
      · exact this
      · by_cases e : j = i
        · subst e; simp
        · have : (j < i + 1) = (j < i) := by simp; omega
          simp [e, this]
    · obtain rfl : n' = i := by omega
      have hx : Blk wr w2.heap.size (numArr n' fun j => j) 3 := by
        rw [← numArr_congr (n := n') (p := fun j => if j < n' then j else 0) (fun j hj => by simp [hj])]; exact hx
      clear hmk h0 hi
      go_wp2_with fail
      go_loopw [64] (fun v wr => ∃ (i : Nat) (p : Nat → Nat), i ≤ n' ∧ v = .int .i64 i ∧ Blk wr w2.heap.size (numArr n' p) 3 ∧ Ord n' p ∧ Below w2.heap.size w2 wr) (fun v _ => n' - (intOf v).toNat)
      case atStart => exact ⟨0, _, by omega, rfl, hx, Ord.id n', hbel⟩
      case round =>
        clear hx hbel
        obtain ⟨i, p, hi, rfl, hx, hp, hbel⟩ := hrel
        have Hp := Lib.hid hp
        clear hp
        by_cases h0 : i < n'
        · have hswap : ∀ j, j < n' → Blk (((wr.setCell ⟨w2.heap.size, i, none⟩ (.int .i64 (p j : Int))).setCell ⟨w2.heap.size, j, none⟩ (.int .i64 (p i : Int)))) w2.heap.size (numArr n' fun q => p (sw i j q)) 3 := fun j hj => by
            have h1 := (hx.set i (.int .i64 (p j : Int))).set j (.int .i64 (p i : Int))
            rw [numArr_set, numArr_set] at h1
            rw [← numArr_congr (n := n') (p := fun q => if q = j then p i else if q = i then p j else p q) (fun q _ => ?_)]
            · exact h1
            · by_cases e1 : q = i
              · subst e1
                by_cases e2 : q = j
                · subst e2; simp [sw]
                · simp [sw, e2]
              · by_cases e2 : q = j
                · subst e2; simp [sw, e1]
                · simp [sw, e1, e2]
          have Hsw := Lib.hid hswap
          clear hswap
          have cell : ∀ j, j < n' → wr.cell? ⟨w2.heap.size, j, none⟩ = some (.int .i64 (p j : Int)) := fun j hj => by rw [hx.cell, numArr_get _ _ _ hj]
          have Hcell := Lib.hid cell
          clear cell
          have ci := Hcell.out i h0
          have fi := hx.free i
          have i1 : (0 : Int) ≤ (i : Int) := by omega
          have i2 : (i : Int) < (n' : Int) := by omega
          by_cases h1 : i < lo
          · obtain ⟨bo, oo, x, rfl, Hx, c1⟩ := (hor.below hbel).at i (by have := Hlo.out; omega)
            go_wp2_with fail
            refine (within_calls x n' (by omega) (by omega) _).mono ?_
            rintro e w3 ⟨rfl, rfl⟩
            obtain ⟨hj1, hj2⟩ := within_range x n' (by omega)
            generalize within x n' = q at *
            obtain ⟨j, rfl⟩ : ∃ k : Nat, q = k := ⟨q.toNat, by omega⟩
            have hj : j < n' := by omega
            have cj := Hcell.out j hj
            have fj := hx.free j
            clear c1
            by_cases hij : i = j
            · subst hij
              go_wp2_with fail
              go_region
              all_goals
                go_wp2_with fail
                exact ⟨⟨i + 1, _, by omega, by go_num, (Hsw.out i h0).drew, Hp.out.swap h0 h0, ((hbel.setCell (Nat.le_refl _) _).setCell (Nat.le_refl _) _).drew⟩, by simp [intOf]; omega⟩
            · have hne : (⟨w2.heap.size, i, none⟩ : Addr) ≠ ⟨w2.heap.size, j, none⟩ := fun e => by injection e with _ e; exact hij e
              go_wp2_with fail
              go_region
              all_goals
                go_wp2_with fail
                exact ⟨⟨i + 1, _, by omega, by go_num, (Hsw.out j hj).drew, Hp.out.swap h0 hj, ((hbel.setCell (Nat.le_refl _) _).setCell (Nat.le_refl _) _).drew⟩, by simp [intOf]; omega⟩
          · go_wp2_with fail
            go_region
            all_goals
              go_wp2_with fail
              exact ⟨⟨i + 1, _, by omega, by go_num, (Hsw.out i h0).drew, Hp.out.swap h0 h0, ((hbel.setCell (Nat.le_refl _) _).setCell (Nat.le_refl _) _).drew⟩, by simp [intOf]; omega⟩
        · obtain rfl : n' = i := by omega
          have hb := hb.below hbel
          have hc := hc.below hbel
          have hR := hR.below hbel
          have W := W.trans hbel
          clear hbel hor
          have hnb := hx.lt
          obtain ⟨B, hB⟩ : ∃ B, B = w2.heap.size := ⟨_, rfl⟩
          rw [← hB] at hx hnb ⊢
          clear hB
          go_wp2_with fail
          obtain ⟨wo, hwo⟩ : ∃ wo, wo = wr := ⟨_, rfl⟩
          rw [← hwo] at hx hnb hb hc hR W ⊢
          clear hwo
          go_loopw [16, 17] (fun o v wi => ∃ (i : Nat) (dv : Nat → Value), i ≤ k' ∧ v = .int .i64 i ∧ wi.ownsRow wo.heap.size 80 2 o i (blobC i p dv) ∧
              (∀ j, j < i → (∃ a c, dv j = .slice a l c) ∧ Bys wo (dv j) (rowL l (S (p j)))) ∧ Below wo.heap.size wo wi) (fun _ v _ => k' - (intOf v).toNat)
          case atStart => exact ⟨0, fun _ => .slice none 0 0, by omega, rfl, World.ownsRow_nil _ _ _ _, fun j hj => by omega, Below.refl _ _⟩
          case round =>
            obtain ⟨i, dv, hi, rfl, hown, hdv, hbel⟩ := hrel
            have Hdv := Lib.hid hdv
            clear hdv
            have hs := hbel.size
            by_cases h0 : i < k'
            · have hpi := Hp.out.1 i (by omega)
              obtain ⟨bx, ox, rx, cx, e, c1, hrow⟩ := hR.row (p i) hpi
              injection e with e
              injection e with e1 e2
              subst e1 e2
              simp only [Nat.zero_add] at c1
              have lx := World.block_lt_of_cell? wo _ c1
              dsimp only at lx
              have HSS := Lib.hid (show ∀ x, Below wo.heap.size wo x → x.cell? ⟨X, p i, none⟩ = some (.slice rx l cx) ∧ x.cell? ⟨B, i, none⟩ = some (.int .i64 (p i : Int)) from fun x hxx =>
                ⟨(hxx.cell (p := ⟨X, p i, none⟩) lx).trans c1, by rw [(hx.kept hxx).cell, numArr_get _ _ _ (by omega)]⟩)
              obtain ⟨c2, c3⟩ := HSS.out wr hbel
              have i1 : (0 : Int) ≤ (i : Int) := by omega
              have i2 : (i : Int) < (n' : Int) := by omega
              have i3 : (0 : Int) ≤ (p i : Int) := by omega
              have i4 : (p i : Int) < (n' : Int) := by omega
              clear c1
              go_wp2_with fail
              go_region_held3 (fun w' => w'.cell? ⟨X, p i, none⟩ = some (.slice rx l cx) ∧ w'.cell? ⟨B, i, none⟩ = some (.int .i64 (p i : Int))) (first | exact ⟨c2, c3⟩ | assumption | go_keep)
                (first
                  | (refine stepApp_blob Try.underlying78 EBi rfl (by rfl) _ _ (by rfl) (base := wo.heap.size) (n := i) (xs := blobC i p dv) (.int .i64 (p i : Int)) (.slice rx l cx) (by rfl) (by rfl) (by simp) (by simp) rfl rfl (hown.alloc _) (by omega) (by decide) (by simp <;> omega) ?_
                     intro v1 x1 hv1 hg1
                     have hx1 : Below wo.heap.size wo x1 := Below.grown (by first | exact (hbel.drew.alloc (by exact hs) _) | exact (hbel.alloc hs _).drew) hg1 (by simp <;> omega) (fun q hq => (hown.lt q hq).1)
                     have hh := HSS.out x1 hx1))
              go_wp2_with fail
              refine ⟨⟨i + 1, fun j => if j = i then .slice rx l cx else dv j, by omega, by go_num, ?_, fun j hj => ?_, hx1⟩, by simp [intOf]; omega⟩
              · have e : blobC i p (fun j => if j = i then .slice rx l cx else dv j) = blobC i p dv := blobC_congr fun j hj => by rw [if_neg (by omega)]
                rw [blobC_succ, e]
                simp only [if_true]
                exact hv1
              · by_cases e : j = i
                · subst e
                  simp only [if_true]
                  exact ⟨⟨rx, cx, rfl⟩, hrow⟩
                · simp only [if_neg e]
                  exact Hdv.out j (by omega)
            · obtain rfl : k' = i := by omega
              have hbl : Blbs wr u16 k' l p (fun j => S (p j)) := blbs_of_own hown (by omega) fun j hj => by
                obtain ⟨h1, h2⟩ := Hdv.out j hj
                exact ⟨h1, h2.below hbel⟩
              have hc := hc.below hbel
              have hR := hR.below hbel
              have hb := hb.below hbel
              have W := W.trans hbel
              obtain ⟨b16, o16, c16, e16, hk16, _⟩ := id hbl
              subst e16
              clear hown hbel h0 hx hnb
              go_wp2_with fail
              refine (decode_calls b _ k' n' l p (fun j => S (p j)) wr hc hbl (by omega) k1 k2 (by omega) (fun j hj => Hp.out.1 j (by omega)) (fun j j' hj hj' e => Hp.out.2 j j' (by omega) (by omega) e)).mono ?_
              rintro e w3 ⟨vx, Y, rfl, hI, hx, hb3⟩
              have hc := hc.below hb3
              have hR := hR.below hb3
              have hb := hb.below hb3
              have W := W.trans hb3
              have hxy := hx.bys
              have hfl : flatR k' l (MM k' Y fun j => S (p j)) = padL bs k' := by
                rw [flatR_congr (dec_same (P := pieceF bs k') hI (fun a ha b hb => by rw [HS.out]; rfl)), Hl.out]
                exact flat_pieces bs k' k1
              rw [hfl] at hxy
              have k0 : (1 : Int) ≤ (k' : Int) := by omega
              have k3 : (k' : Int) - 1 ≤ (c16 : Int) := by omega
              clear hfl hb3 hx hbl
              obtain ⟨ab, cbv, e⟩ := hb.eq_slice
              subst e
              go_wp2_with fail
              refine (decode_short b k' n' _ (k' - 1) c16 w3 hc (by omega)).mono ?_
              rintro e w4 ⟨rfl, rfl⟩
              obtain ⟨bx, ox, rx, cx, e, c1, _⟩ := hR.row 0 (by omega)
              injection e with e
              injection e with e1 e2
              subst e1 e2
              have c1' : w3.cell? ⟨X, 0, none⟩ = some (.slice rx l cx) := c1
              have lx := World.block_lt_of_cell? w3 _ c1'
              dsimp only at lx
              have hlen : lengthN (bs.length : Int) k' = (l : Int) := by rw [length_piece bs k' k1, Hl.out]
              have Hlen := Lib.hid hlen
              have n0 : (0 : Int) < (n' : Int) := by omega
              have n0n : 0 < n' := by omega
              have tl : ((l : Int) == (l : Int)) = true := by simp
              have tl2 : (l == l) = true := by simp
              clear hlen c1
              go_wp2_with fail
              go_region_held3 (fun w' => w'.cell? ⟨X, 0, none⟩ = some (.slice rx l cx)) (first | exact c1' | assumption | go_keep)
                (first
                  | (go_at_call 65
                     refine (pad_calls _ bs k' _ (hb.drewN 1) (by omega) k1 (by omega) k' (.inl rfl)).mono ?_
                     rintro e x1 ⟨vp, rfl, hvp, hx1⟩
                     have hx1 : Below w3.heap.size w3 x1 := of_drew_base hx1 rfl
                     have hvp := hvp.bys
                     have hx2 := hxy.below hx1
                     have hc2 := hc.below hx1
                     have hh : x1.cell? ⟨X, 0, none⟩ = some (.slice rx l cx) := (hx1.cell (p := ⟨X, 0, none⟩) lx).trans c1')
                  | (go_at_call 51
                     refine (same8_yes _ _ _ _ _ hx2 hvp rfl).mono ?_
                     rintro e x2 ⟨rfl, d, rfl⟩)
                  | (go_at_call 61
                     refine (length_calls b k' n' (bs.length : Int) k1 (by omega) (by omega) _ (by exact hc2)).mono ?_
                     rintro e x3 ⟨rfl, rfl⟩
                     rw [Hlen.out])
                  | (go_at_call 58
                     refine (wakes06_calls _).mono ?_
                     rintro e x4 ⟨rfl, hx4⟩
                     have hh4 : x4.cell? ⟨X, 0, none⟩ = some (.slice rx l cx) := (hx4.cell (p := ⟨X, 0, none⟩) (World.block_lt_of_cell? _ _ hh)).trans hh))
              all_goals
                go_wp2
                go_ret
                exact ⟨rfl, ((W.trans hx1).drewN d).trans hx4⟩
end Go.Proofs.Ytdciakbichgddaa
