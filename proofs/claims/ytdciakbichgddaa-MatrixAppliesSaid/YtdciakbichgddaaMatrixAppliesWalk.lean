/- The walk of the statement MatrixApplies. -/
import Derived.Test.YtdciakbichgddaaMatApply
import Derived.Test.YtdciakbichgddaaMatRows
namespace Go.Proofs.Ytdciakbichgddaa
open Go Go.RowKit Go.Mem Gf

/-- the first k of some bytes, noughts behind -/
def padF (zs : List UInt8) : Nat → UInt8 := fun j => zs.getD j 0

theorem nms_one (w : World) (x : Int) (t : TypeId) : Nms (w.alloc (.cells #[.int .i64 x] t)) (.slice (some ⟨w.heap.size, 0, none⟩) 1 1) [x] :=
  ⟨_, 1, rfl, Nat.le_refl _, by decide, fun _ => ⟨w.heap.size, 0, rfl, fun i y hi => by
    cases i with
    | zero => simp at hi; subst hi; rw [(Blk.new w _ _).cell]; rfl
    | succ i => simp at hi⟩⟩
theorem one_in {p k : Nat} (h : p < k) : ∀ (i : Nat) (x : Int), [(p : Int)][i]? = some x → 0 ≤ x ∧ x < k := fun i x hx => by
  cases i with
  | zero => simp at hx; subst hx; omega
  | succ i => simp at hx

set_option maxRecDepth 20000 in
set_option maxHeartbeats 4000000 in
theorem matrixApplies_walk (w : World) (va : Value) (xs : List UInt8) (ha : Bys w va xs) (vb : Value) (ys : List UInt8) (hb : Bys w vb ys) (vc : Value) (zs : List UInt8) (hc : Bys w vc zs)
    (n : Int) (_hn : -9223372036854775808 ≤ n ∧ n ≤ 9223372036854775807) (i : Int) (_hi : -9223372036854775808 ≤ i ∧ i ≤ 9223372036854775807) :
    Calls Try.prog 14 #[va, vb, vc, .int .i64 n, .int .i64 i] w fun e w' => e = .returned (.bool true) ∧ Below w.heap.size w w' := by
  clear _hn _hi
  go_enter Try.func14, Try.ntmps14
  go_wp2_with fail
  refine (within_calls n 5 (by decide) (by decide) _).mono ?_
  rintro e w1 ⟨rfl, rfl⟩
  obtain ⟨hn1, hn2⟩ := within_range n 5 (by decide)
  go_wp2_with fail
  generalize hq : 1 + within n 5 = q at *
  obtain ⟨k, rfl⟩ : ∃ k : Nat, q = k := ⟨q.toNat, by omega⟩
  have k1 : 1 ≤ k := by omega
  have k2 : k ≤ 5 := by omega
  clear hq hn1 hn2
  refine (within_calls i k (by omega) (by omega) _).mono ?_
  rintro e w1 ⟨rfl, rfl⟩
  obtain ⟨hi1, hi2⟩ := within_range i k (by omega)
  go_wp2_with fail
  generalize hq : within i k = q at *
  obtain ⟨p, rfl⟩ : ∃ k : Nat, q = k := ⟨q.toNat, by omega⟩
  have hp : p < k := by omega
  clear hq hi1 hi2
  refine (square_calls va xs k k _ ha (by omega) (by omega)).mono ?_
  rintro e w1 ⟨vx, rfl, hx, hb1⟩
  have hb := hb.below hb1
  have hc := hc.below hb1
  go_wp2_with fail
  refine (square_calls vb ys k k _ hb (by omega) (by omega)).mono ?_
  rintro e w3 ⟨vy, rfl, hy, hb2⟩
  have hc := hc.below hb2
  have G := ((Gd.nil w3).cons hy).cons (hx.below hb2)
  have W := Aft.trans hb1 hb2
  clear hx hy hb1 hb2 ha hb
  generalize Sq xs k = A at *
  generalize Sq ys k = B at *
  have hmk := fun (w : World) => make_bytes (P := Try.prog) 31 5 Try.underlying31 info8' k (by omega) w
  have hl := hc.len
  obtain ⟨a, cap, rfl⟩ := hc.eq_slice
  obtain ⟨l, hl'⟩ : ∃ l, l = zs.length := ⟨_, rfl⟩
  rw [← hl'] at hl hc ⊢
  have Hl := Lib.hid hl'; clear hl'
  go_wp2_with fail
  go_loopw [47] (fun v wr => ∃ i : Nat, i ≤ k ∧ v = .int .i64 i ∧ Blk wr w3.heap.size (rowArr k (fun j => if j < i then padF zs j else 0)) 5 ∧ Below w3.heap.size w3 wr)
    (fun v _ => k - (intOf v).toNat)
  case atStart => exact ⟨0, by omega, rfl, by simp only [Nat.not_lt_zero, if_false]; rw [← rowArr_zero]; exact Blk.new _ _ _, (Below.refl _ _).alloc (Nat.le_refl _) _⟩
  case round =>
    obtain ⟨i, hi, rfl, hx, hbel⟩ := hrel
    by_cases h0 : i < k
    · have c3 : wr.cell? ⟨w3.heap.size, i, none⟩ = some (.int .u8 0) := by rw [hx.cell, rowArr_get _ _ _ h0]; simp
      have f3 := hx.free i
      have hset : ∀ u : UInt8, u = padF zs i → Blk (wr.setCell ⟨w3.heap.size, i, none⟩ (.int .u8 (u.toNat : Int))) w3.heap.size (rowArr k fun b => if b < i + 1 then padF zs b else 0) 5 := fun u hu => by
        have := hx.set i (.int .u8 (u.toNat : Int))
        rw [rowArr_set] at this
        rw [← rowArr_congr (m := k) (f := fun j => if j = i then u else if j < i then padF zs j else 0) (fun j _ => ?_)]
        · exact this
        · by_cases e : j = i
          · subst e; simp [hu]
          · have : (j < i + 1) = (j < i) := by simp; omega
            simp [e, this]
      by_cases hlt : i < l
      · obtain ⟨b, off, u, rfl, Hu, c1, hu⟩ := (hc.below hbel).at i (by have := Hl.out; omega)
        have Hset := Lib.hid (hset u (by
          have h1 := Hu.out
          show u = zs.getD i 0
          rw [List.getD_eq_getElem?_getD, h1]; rfl)); clear hset
        go_wp2
        exact ⟨⟨i + 1, by omega, by go_num, Hset.out, hbel.setCell (Nat.le_refl _) _⟩, by simp [intOf]; omega⟩
      · have hz : padF zs i = 0 := by
          have h3 := Hl.out
          show zs.getD i 0 = 0
          rw [List.getD_eq_getElem?_getD, List.getElem?_eq_none (by omega)]; rfl
        have hx2 : Blk wr w3.heap.size (rowArr k fun b => if b < i + 1 then padF zs b else 0) 5 := by
          rw [← rowArr_congr (m := k) (f := fun b => if b < i then padF zs b else 0) (fun j _ => ?_)]
          · exact hx
          · by_cases e : j = i
            · subst e; simp [hz]
            · have : (j < i + 1) = (j < i) := by simp; omega
              simp [this]
        clear hset hz
        go_wp2
        exact ⟨⟨i + 1, by omega, by go_num, hx2, hbel⟩, by simp [intOf]; omega⟩
    · obtain rfl : i = k := by omega
      have hw : Bys wr (.slice (some ⟨w3.heap.size, 0, none⟩) i i) (rowL i (padF zs)) := by
        have := hx.row (by omega)
        rw [rowL_congr (m := i) (g := padF zs) (fun j hj => by simp [hj])] at this
        exact this
      have G := G.below hbel
      have W := W.trans hbel
      clear hx hbel hc hmk h0
      generalize padF zs = f at *
      go_wp2_with fail
      refine (mmul_calls vx vy i i i A B wr (G.get (by simp)) (G.get (by simp)) k1 (by omega) k1 (by omega) k1 (by omega)).mono ?_
      rintro e w4 ⟨P, ip, rfl, hP, hb4⟩
      have G := (G.below hb4).cons (hP.rws (by omega) (by omega))
      have W := W.trans hb4
      have hw := hw.below hb4
      clear hP hb4
      go_wp2_with fail
      refine (apply_calls _ _ i i (MM i A B) f _ (G.get (v := .slice (some ⟨P, 0, none⟩) i i) (by simp)) hw k1 (by omega) k1 (by omega)).mono ?_
      rintro e w5 ⟨S, rfl, hs, hb4⟩
      have G := G.below hb4
      have W := W.trans hb4
      have hw := hw.below hb4
      clear hb4
      go_wp2_with fail
      refine (apply_calls _ _ i i B f _ (G.get (v := vy) (by simp)) hw k1 (by omega) k1 (by omega)).mono ?_
      rintro e w6 ⟨T, rfl, ht, hb4⟩
      have G := G.below hb4
      have W := W.trans hb4
      have hs := hs.below hb4
      clear hb4 hw
      go_wp2_with fail
      refine (apply_calls _ _ i i A (MV i B f) _ (G.get (v := vx) (by simp)) ht k1 (by omega) k1 (by omega)).mono ?_
      rintro e w7 ⟨U, rfl, hu, hb4⟩
      have G := G.below hb4
      have W := W.trans hb4
      have hs := hs.below hb4
      clear hb4 ht
      go_wp2_with fail
      refine (unit_calls i k1 (by omega) _).mono ?_
      rintro e w8 ⟨N, iu, rfl, hP, hb4⟩
      have G := (G.below hb4).cons (hP.rws (by omega) (by omega))
      have W := W.trans hb4
      have hs := hs.below hb4
      have hu := hu.below hb4
      clear hP hb4
      go_wp2_with fail
      have hb4 : Below w8.heap.size w8 (w8.alloc (.cells #[.int .i64 (p : Int)] 3)) := (Below.refl _ _).alloc (Nat.le_refl _) _
      have hN : Nms (w8.alloc (.cells #[.int .i64 (p : Int)] 3)) (.slice (some ⟨w8.heap.size, 0, none⟩) 1 1) [(p : Int)] := nms_one _ _ _
      have G := G.below hb4
      have W := W.trans hb4
      have hs := hs.below hb4
      have hu := hu.below hb4
      clear hb4
      refine (mrows_calls _ _ i i Idm [(p : Int)] _ (G.get (v := .slice (some ⟨N, 0, none⟩) i i) (by simp)) hN k1 (by omega) k1 (by omega) (by simp) (by simp) (one_in hp)).mono ?_
      rintro e w9 ⟨R, ir, rfl, hP, hb4⟩
      have G := (G.below hb4).cons (hP.rws (by simp) (by omega))
      have W := W.trans hb4
      have hs := hs.below hb4
      have hu := hu.below hb4
      clear hP hb4 hN
      go_wp2_with fail
      refine (mmul_calls _ vx 1 i i (fun a b => Idm ([(p : Int)].getD a 0).toNat b) A w9 (G.get (v := .slice (some ⟨R, 0, none⟩) 1 1) (List.Mem.head _)) (G.get (v := vx) (by simp)) (by decide) (by decide) k1 (by omega) k1 (by omega)).mono ?_
      rintro e w10 ⟨Q, iq, rfl, hP, hb4⟩
      have G := (G.below hb4).cons (hP.rws (by simp) (by omega))
      have W := W.trans hb4
      have hs := hs.below hb4
      have hu := hu.below hb4
      clear hP hb4
      go_wp2_with fail
      have hb4 : Below w10.heap.size w10 (w10.alloc (.cells #[.int .i64 (p : Int)] 3)) := (Below.refl _ _).alloc (Nat.le_refl _) _
      have hN : Nms (w10.alloc (.cells #[.int .i64 (p : Int)] 3)) (.slice (some ⟨w10.heap.size, 0, none⟩) 1 1) [(p : Int)] := nms_one _ _ _
      have G := G.below hb4
      have W := W.trans hb4
      have hs := hs.below hb4
      have hu := hu.below hb4
      clear hb4
      refine (mrows_calls _ _ i i A [(p : Int)] _ (G.get (v := vx) (by simp)) hN k1 (by omega) k1 (by omega) (by simp) (by simp) (one_in hp)).mono ?_
      rintro e w11 ⟨O, io, rfl, hP, hb4⟩
      have G := (G.below hb4).cons (hP.rws (by simp) (by omega))
      have W := W.trans hb4
      have hs := hs.below hb4
      have hu := hu.below hb4
      clear hP hb4 hN
      have E1 : Hid (rowL i (MV i (MM i A B) f) = rowL i (MV i A (MV i B f))) := Lib.hid (rowL_congr fun j _ => MV_MM i i A B f j)
      have E2 : Hid (rowsL 1 i (MM i (fun a b => Idm ([(p : Int)].getD a 0).toNat b) A) = rowsL 1 i (fun a b => A ([(p : Int)].getD a 0).toNat b)) := Lib.hid (rowsL_congr fun a ha b _ => by
        obtain rfl : a = 0 := by omega
        exact dotf_Idm_left i p hp (fun j => A j b))
      go_wp2_with fail
      refine (same8_yes _ _ _ _ _ hs hu E1.out).mono ?_
      rintro e w12 ⟨rfl, d1, rfl⟩
      go_wp2_with fail
      refine (rows8_yes _ _ _ _ _ ((G.rd d1).get (v := .slice (some ⟨Q, 0, none⟩) 1 1) (List.Mem.tail _ (List.Mem.head _))) ((G.rd d1).get (v := .slice (some ⟨O, 0, none⟩) 1 1) (List.Mem.head _)) E2.out).mono ?_
      rintro e w12 ⟨rfl, d2, rfl⟩
      have W := W.drewN (d1 + d2)
      go_wp2_with fail
      refine (wakes05_calls _).mono ?_
      rintro e w13 ⟨rfl, hb4⟩
      go_wp2
      go_ret
      exact ⟨rfl, W.trans hb4⟩
end Go.Proofs.Ytdciakbichgddaa
