/- The walk of Decode, on blobs that may be. -/
import Derived.Test.YtdciakbichgddaaRsRef
import Derived.Test.YtdciakbichgddaaMatRows
import Derived.Test.YtdciakbichgddaaRsEnc
import Derived.Test.YtdciakbichgddaaMatApp
import Derived.Deep.AppendLies
import Derived.Deep.RegionHeld3
import Derived.Deep.DrawnRows
namespace Go.Mem
open Go Go.RowKit Gf
/-- k blobs: numbers and bytes -/
def Blbs (w : World) (v : Value) (k m : Nat) (num : Nat → Nat) (R : Mx) : Prop :=
  ∃ b off cap, v = .slice (some ⟨b, off, none⟩) k cap ∧ k ≤ cap ∧ cap ≤ maxLen ∧ ∀ i, i < k →
    w.cell? ⟨b, off + i * 2, none⟩ = some (.int .i64 (num i : Int)) ∧ ∃ a c, w.cell? ⟨b, off + i * 2 + 1, none⟩ = some (.slice a m c) ∧ Bys w (.slice a m c) (rowL m (R i))
theorem Blbs.below {w w' : World} {v : Value} {k m : Nat} {num : Nat → Nat} {R : Mx} (h : Blbs w v k m num R) (hb : Below w.heap.size w w') : Blbs w' v k m num R := by
  obtain ⟨b, off, cap, h1, h2, h3, h4⟩ := h
  refine ⟨b, off, cap, h1, h2, h3, fun i hi => ?_⟩
  obtain ⟨c1, a, c, c2, hd⟩ := h4 i hi
  exact ⟨(hb.cell (p := ⟨b, off + i * 2, none⟩) (World.block_lt_of_cell? w _ c1)).trans c1, a, c, (hb.cell (p := ⟨b, off + i * 2 + 1, none⟩) (World.block_lt_of_cell? w _ c2)).trans c2, hd.below hb⟩
theorem Blbs.drewN {w : World} {v : Value} {k m : Nat} {num : Nat → Nat} {R : Mx} (h : Blbs w v k m num R) (d : Nat) : Blbs (w.drewN d) v k m num R := h
end Go.Mem
namespace Go.Proofs.Ytdciakbichgddaa
open Go Go.RowKit Go.Mem Gf
attribute [local go_sem ↓] Go.wp_at_zero Go.wp_at_succ

/-- the rows, one behind the other -/
def flatR : Nat → Nat → Mx → List UInt8
  | 0, _, _ => []
  | k + 1, m, F => flatR k m F ++ rowL m (F k)
theorem flatR_succ (k m : Nat) (F : Mx) : flatR (k + 1) m F = flatR k m F ++ rowL m (F k) := rfl
theorem flatR_len (k m : Nat) (F : Mx) : (flatR k m F).length = k * m := by
  induction k with
  | zero => simp [flatR]
  | succ k ih => rw [flatR_succ, List.length_append, ih, rowL_len, Nat.succ_mul]
theorem flatR_congr {k m : Nat} {F G : Mx} (h : EqM k m F G) : flatR k m F = flatR k m G := by
  induction k with
  | zero => rfl
  | succ k ih => rw [flatR_succ, flatR_succ, ih fun i hi => h i (by omega), rowL_congr fun j hj => h k (by omega) j hj]
theorem pick_inv (k : Nat) (num : Nat → Nat) (n : Nat) (hk : k ≤ 256) (hn : n ≤ 256) (hnum : ∀ i, i < k → num i < n) (hinj : ∀ i j, i < k → j < k → num i = num j → i = j) : ¬ Sing k (fun i j => CM k (num i) j) := by
  rintro ⟨v, hv, j, hj, hne⟩
  have h1 : ∀ i, i < k → MV k (fun i j => gpow (.ofNat (num i)) j) (MV k (TI k) v) i = 0 := fun i hi => by
    have := hv i hi
    rw [show MV k (fun i j => CM k (num i) j) v i = MV k (MM k (fun i j => gpow (.ofNat (num i)) j) (TI k)) v i from rfl, MV_MM] at this
    exact this
  have h2 : ∀ i, i < k → MV k (TI k) v i = 0 := fun i hi => Classical.byContradiction fun hc =>
    vand_not_sing k (fun i => .ofNat (num i)) (fun i j hi hj e => hinj i j hi hj (by
      have e' := congrArg UInt8.toNat e
      have := hnum i hi
      have := hnum j hj
      rw [toNat_of _ (by omega), toNat_of _ (by omega)] at e'
      exact e')) ⟨_, h1, i, hi, hc⟩
  exact hne ((TI_inv k hk).symm.inj h2 j hj)
theorem EI : Elem Try.prog 57 3 (.int .i64 0) 8 := ⟨Try.underlying57, by kernel_rfl, rfl⟩
set_option maxRecDepth 20000 in
set_option maxHeartbeats 4000000 in
theorem decode_calls (b : Nat) (v : Value) (k n m : Nat) (num : Nat → Nat) (R : Mx) (w : World) (hc : IsCode w b k n) (h : Blbs w v k m num R) (hm : m ≤ 1000) (k1 : 1 ≤ k) (hkn : k ≤ n) (n2 : n ≤ 16)
    (hnum : ∀ i, i < k → num i < n) (hinj : ∀ i j, i < k → j < k → num i = num j → i = j) :
    Calls Try.prog 69 #[.pointer (some ⟨b, 0, none⟩), v] w fun e w' => ∃ v' Y, e = .returned (.tuple #[v', .int .i64 0]) ∧ IsInv k (fun i j => CM k (num i) j) Y ∧
      OwnB 5 w' w.heap.size v' (flatR k m (MM k Y R)) ∧ Below w.heap.size w w' := by
  obtain ⟨bb, ob, cb, rfl, hcb1, hcb2, hel⟩ := id h
  obtain ⟨am, cm, hB, hM⟩ := id hc
  have c0 : w.cell? ⟨b, 0, none⟩ = some (.int .i64 k) := by rw [hB.cell]; rfl
  have Hel := Lib.hid hel; have Hnum := Lib.hid hnum; have Hinj := Lib.hid hinj
  clear hel hnum hinj
  have tk : ((k : Int) != (k : Int)) = false := by simp
  go_enter Try.func69, Try.ntmps69
  go_wp2_with fail
  go_loopw [6, 7, 28] (fun o1 o2 v wr => ∃ (i : Nat) (vs : List Value), i ≤ k ∧ v = .int .i64 i ∧ wr.ownsRow w.heap.size 3 1 o1 i ((List.range i).map fun j => .int .i64 (num j)) ∧ wr.ownsRow w.heap.size 31 1 o2 i vs ∧
      (∀ j, j < i → ∃ a c, vs[j]? = some (.slice a m c) ∧ Bys w (.slice a m c) (rowL m (R j))) ∧ Below w.heap.size w wr) (fun _ _ v _ => k - (intOf v).toNat)
  case atStart => exact ⟨0, [], by omega, rfl, World.ownsRow_nil _ _ _ _, World.ownsRow_nil _ _ _ _, fun j hj => by omega, Below.refl _ _⟩
  case round =>
    obtain ⟨i, vs, hi, rfl, ho1, ho2, hvs, hbel⟩ := hrel
    have Hvs := Lib.hid hvs
    clear hvs
    by_cases h0 : i < k
    · obtain ⟨e1, a, c, e2, hd⟩ := Hel.out i h0
      have c1 : wr.cell? ⟨bb, ob + i * 2, none⟩ = some (.int .i64 (num i : Int)) := (hbel.cell (p := ⟨bb, ob + i * 2, none⟩) (World.block_lt_of_cell? w _ e1)).trans e1
      have c2 : wr.cell? ⟨bb, ob + i * 2 + 1, none⟩ = some (.slice a m c) := (hbel.cell (p := ⟨bb, ob + i * 2 + 1, none⟩) (World.block_lt_of_cell? w _ e2)).trans e2
      obtain ⟨e3, a0, cc0, e4, _⟩ := Hel.out 0 (by omega)
      have c3 : wr.cell? ⟨bb, ob + 1, none⟩ = some (.slice a0 m cc0) := (hbel.cell (p := ⟨bb, ob + 1, none⟩) (World.block_lt_of_cell? w ⟨bb, ob + 1, none⟩ (by simpa using e4))).trans (by simpa using e4)
      have c4 : wr.cell? ⟨b, 1, none⟩ = some (.int .i64 (n : Int)) := by
        have := hB.below hbel hB.lt
        rw [this.cell]; rfl
      have hni := Hnum.out i h0
      have t1 : decide ((num i : Int) < 0) = false := by simp
      have t2 : decide (n ≤ num i) = false := by simp; omega
      have t3 : decide ((n : Int) ≤ (num i : Int)) = false := by simp; omega
      have t4 : ((m : Int) != (m : Int)) = false := by simp
      have i1 : (0 : Int) < (k : Int) := by omega
      have i2 : (0 : Int) ≤ (i : Int) := by omega
      have i3 : (i : Int) ≤ (cb : Int) := by omega
      have lw := hbel.size
      clear e1 e2 e3 e4
      go_wp2_with fail
      obtain ⟨wq, hwq⟩ : ∃ wq, wq = wr.alloc (.cells #[.int .i64 (num i : Int), .slice a m c] 80) := ⟨_, rfl⟩
      have hsB : Blk wq wr.heap.size #[.int .i64 (num i : Int), .slice a m c] 80 := by rw [hwq]; exact Blk.new _ _ _
      have hwb : Below wr.heap.size wr wq := by rw [hwq]; exact (Below.refl _ _).alloc (Nat.le_refl _) _
      rw [← hwq]
      clear hwq
      have c3 : wq.cell? ⟨bb, ob + 1, none⟩ = some (.slice a0 m cc0) := (hwb.cell (p := ⟨bb, ob + 1, none⟩) (World.block_lt_of_cell? wr _ c3)).trans c3
      have c4 : wq.cell? ⟨b, 1, none⟩ = some (.int .i64 (n : Int)) := (hwb.cell (p := ⟨b, 1, none⟩) (World.block_lt_of_cell? wr _ c4)).trans c4
      have c5 : wq.cell? ⟨wr.heap.size, 0, none⟩ = some (.int .i64 (num i : Int)) := by rw [hsB.cell]; rfl
      have c6 : wq.cell? ⟨wr.heap.size, 1, none⟩ = some (.slice a m c) := by rw [hsB.cell]; rfl
      go_quiet (fail)
      go_wp2_with fail
      obtain ⟨wo, hwo⟩ : ∃ wo, wo = wq.drewN nq := ⟨_, rfl⟩
      have hsB : Blk wo wr.heap.size #[.int .i64 (num i : Int), .slice a m c] 80 := by rw [hwo]; exact hsB
      have hwb : Below wr.heap.size wr wo := by rw [hwo]; exact below_drewN hwb _
      rw [← hwo]
      clear hwo c1 c2 c3 c4 c5 c6
      have ho1 := own_below ho1 hwb
      have ho2 := own_below ho2 hwb
      have hbel := Aft.trans hbel hwb
      obtain ⟨sb, hsb⟩ : ∃ sb, sb = wr.heap.size := ⟨_, rfl⟩
      rw [← hsb] at hsB ⊢
      clear hsb hwb
      have lws := hbel.size
      have lsb := hsB.lt
      go_loopw [60] (fun v wi => ∃ j : Nat, j ≤ i ∧ v = .int .i64 j ∧ Below wo.heap.size wo wi) (fun v _ => i - (intOf v).toNat)
      case atStart => exact ⟨0, by omega, rfl, Below.refl _ _⟩
      case round =>
        obtain ⟨j, hj, rfl, hbi⟩ := hrel
        have hsB2 := hsB.kept hbi
        have c5 : wr.cell? ⟨sb, 0, none⟩ = some (.int .i64 (num i : Int)) := by rw [hsB2.cell]; rfl
        have c6 : wr.cell? ⟨sb, 1, none⟩ = some (.slice a m c) := by rw [hsB2.cell]; rfl
        have hsz := hbi.size
        by_cases hji : j < i
        · obtain ⟨e1, a2, ca2, e2, _⟩ := Hel.out j (by omega)
          have hbw := Aft.trans hbel hbi
          have c1 : wr.cell? ⟨bb, ob + j * 2, none⟩ = some (.int .i64 (num j : Int)) := (hbw.cell (p := ⟨bb, ob + j * 2, none⟩) (World.block_lt_of_cell? w _ e1)).trans e1
          have c2 : wr.cell? ⟨bb, ob + j * 2 + 1, none⟩ = some (.slice a2 m ca2) := (hbw.cell (p := ⟨bb, ob + j * 2 + 1, none⟩) (World.block_lt_of_cell? w _ e2)).trans e2
          have hne : num j ≠ num i := fun e => by have := Hinj.out j i (by omega) h0 e; omega
          have t5 : ((num j : Int) == (num i : Int)) = false := by simp; omega
          have t6 : (num j == num i) = false := by simp; omega
          clear e1 e2 hne hbw
          go_upto_region 13 with fail
          obtain ⟨wz, hwz⟩ : ∃ wz, wz = wr.alloc (.cells #[.int .i64 (num j : Int), .slice a2 m ca2] 80) := ⟨_, rfl⟩
          have hzb : Below wr.heap.size wr wz := by rw [hwz]; exact (Below.refl _ _).alloc (Nat.le_refl _) _
          have hzB : Blk wz wr.heap.size #[.int .i64 (num j : Int), .slice a2 m ca2] 80 := by rw [hwz]; exact Blk.new _ _ _
          have c5 : wz.cell? ⟨sb, 0, none⟩ = some (.int .i64 (num i : Int)) := (hzb.cell (p := ⟨sb, 0, none⟩) (World.block_lt_of_cell? wr _ c5)).trans c5
          have c7 : wz.cell? ⟨wr.heap.size, 0, none⟩ = some (.int .i64 (num j : Int)) := by rw [hzB.cell]; rfl
          rw [← hwz]
          clear hwz c1 c2 c6 hzB
          go_wp2
          exact ⟨⟨j + 1, by omega, by go_num, Aft.trans hbi hzb⟩, by simp [intOf]; omega⟩
        · obtain rfl : i = j := by omega
          have ho1w := own_below ho1 hbi
          have ho2w := own_below ho2 hbi
          have hbw := Aft.trans hbel hbi
          have hlt1 : ∀ q, u6.ownBlock = some q → w.heap.size ≤ q ∧ q < wr.heap.size := ho1w.lt
          have hlt2 : ∀ q, u7.ownBlock = some q → w.heap.size ≤ q ∧ q < wr.heap.size := ho2w.lt
          have hn1 : u6.ownBlock ≠ some sb := ownBlock_ne ho1w (by decide) hsB2
          have hn2 : u7.ownBlock ≠ some sb := ownBlock_ne ho2w (by decide) hsB2
          have Hlt1 := Lib.hid hlt1; have Hlt2 := Lib.hid hlt2; have Hn1 := Lib.hid hn1; have Hn2 := Lib.hid hn2
          have lsr : sb < wr.heap.size := hsB2.lt
          have lww : w.heap.size ≤ wr.heap.size := hbw.size
          clear hlt1 hlt2 hn1 hn2
          go_wp2_with fail
          go_region_held3 (fun w' => w'.cell? ⟨sb, 0, none⟩ = some (.int .i64 (num i : Int)) ∧ w'.cell? ⟨sb, 1, none⟩ = some (.slice a m c)) (first | exact ⟨c5, c6⟩ | assumption | go_keep)
            (first
              | (refine stepApp_one EI (by rfl) _ _ (by rfl) (base := w.heap.size) (n := i) (xs := (List.range i).map fun j => .int .i64 (num j : Int)) (.int .i64 (num i : Int)) (by rfl) (by rfl) (by simp) rfl (by first | exact ho1w.alloc _ | exact (ho1w.alloc _).alloc _) (by omega) (by decide) (by simp <;> omega) ?_
                 intro v1 x1 hv1 hg1
                 have hB1 : Blk x1 sb #[.int .i64 (num i : Int), .slice a m c] 80 := Blk.grown (by first | exact hsB2.alloc _ | exact (hsB2.alloc _).alloc _) hg1 Hn1.out
                 have hh : x1.cell? ⟨sb, 0, none⟩ = some (.int .i64 (num i : Int)) ∧ x1.cell? ⟨sb, 1, none⟩ = some (.slice a m c) := ⟨by rw [hB1.cell]; rfl, by rw [hB1.cell]; rfl⟩
                 have hx1s : wr.heap.size ≤ x1.heap.size := Nat.le_trans (by simp <;> omega) hg1.size
                 have ho2x : x1.ownsRow w.heap.size 31 1 u7 i vs := own_grown (by first | exact ho2w.alloc _ | exact (ho2w.alloc _).alloc _) (by first | exact ho1w.alloc _ | exact (ho1w.alloc _).alloc _) (by decide) hg1
                 have hfar := fun (p : Addr) (h1 : wr.heap.size ≤ p.block) h2 => hg1.cell_far p h2 (fun e => by have := (Hlt1.out _ e.symm).2; omega)
                 have hbx1 : Below w.heap.size w x1 := Below.grown (by first | exact (hbw.drew.alloc (by exact lww) _) | exact ((hbw.drew.alloc (by exact lww) _).alloc (by simp <;> omega) _)) hg1 (by simp <;> omega) (fun q hq => (Hlt1.out q hq).1))
              | (refine stepApp_one ER (by rfl) _ _ (by rfl) (base := w.heap.size) (n := i) (xs := vs) (.slice a m c) (by rfl) (by rfl) (by first | (simp; done) | exact (hfar ⟨wr.heap.size, 0, none⟩ (by simp) (by simp <;> omega)).trans (by simp) | exact (hfar ⟨wr.heap.size + 1, 0, none⟩ (by simp) (by simp <;> omega)).trans (by simp)) rfl (by first | exact ho2x.alloc _ | exact ho2x) (by omega) (by decide) (by first | exact hbx1.size | (have := hbx1.size; simp <;> omega)) ?_
                 intro v2 x2 hv2 hg2
                 have hB2 : Blk x2 sb #[.int .i64 (num i : Int), .slice a m c] 80 := Blk.grown (by first | exact hB1.alloc _ | exact hB1) hg2 Hn2.out
                 have hh2 : x2.cell? ⟨sb, 0, none⟩ = some (.int .i64 (num i : Int)) ∧ x2.cell? ⟨sb, 1, none⟩ = some (.slice a m c) := ⟨by rw [hB2.cell]; rfl, by rw [hB2.cell]; rfl⟩
                 have hv1x : x2.ownsRow w.heap.size 3 1 v1 (i + 1) ((List.range i).map (fun j => .int .i64 (num j : Int)) ++ [.int .i64 (num i : Int)]) := own_grown (by first | exact hv1.alloc _ | exact hv1) (by first | exact ho2x.alloc _ | exact ho2x) (by decide) hg2
                 have hbx2 : Below w.heap.size w x2 := Below.grown (by first | exact hbx1 | exact hbx1.alloc hbx1.size _) hg2 (by first | exact hbx1.size | (have := hbx1.size; simp <;> omega)) (fun q hq => (Hlt2.out q hq).1)))
          all_goals
            go_wp2_with fail
            refine ⟨⟨i + 1, vs ++ [.slice a m c], by omega, by go_num, by rw [List.range_succ, List.map_append]; exact hv1x, hv2, fun j hj => ?_, hbx2⟩, by simp [intOf]; omega⟩
            have hvl : vs.length = i := by have := ho2.1; omega
            rcases Nat.lt_or_ge j i with hji | hji
            · obtain ⟨a', c', h1, h2⟩ := Hvs.out j hji
              exact ⟨a', c', by rw [List.getElem?_append_left (by omega)]; exact h1, h2⟩
            · obtain rfl : i = j := by omega
              exact ⟨a, c, by rw [List.getElem?_append_right (by omega), hvl, Nat.sub_self]; rfl, hd⟩
    · obtain rfl : k = i := by omega
      have hws : Nms wr u6 ((List.range k).map fun j => (num j : Int)) := nms_of_own (n := k) (by rw [List.map_map]; exact ho1) (by simp)
      have hrows : Rws wr u7 (rowsL k m R) := rws_of_own ho2 (rowsL_len _ _ _) fun j x hj => by
        have hjk : j < k := by
          rcases Nat.lt_or_ge j k with h | h
          · exact h
          · rw [List.getElem?_eq_none (by rw [rowsL_len]; exact h)] at hj; cases hj
        rw [rowsL_get _ _ _ _ hjk] at hj
        cases hj
        obtain ⟨a', c', h1, h2⟩ := Hvs.out j hjk
        exact ⟨_, h1, h2.below hbel⟩
      have c2 : wr.cell? ⟨b, 2, none⟩ = some (.slice am n cm) := by
        have := hB.below hbel hB.lt
        rw [this.cell]; rfl
      have hM2 := hM.below hbel
      have hwl : ((List.range k).map fun j => (num j : Int)).length = k := by simp
      have hwg : ∀ i, i < k → ((List.range k).map fun j => (num j : Int)).getD i 0 = (num i : Int) := fun i hi => by simp [List.getD_eq_getElem?_getD, hi]
      have hrw := mrows_calls (.slice am n cm) u6 n k (CM k) ((List.range k).map fun j => (num j : Int)) wr hM2 hws (by omega) n2 k1 (by omega) (by omega) (by omega) (fun i x hx => by
        have hik : i < k := by
          rcases Nat.lt_or_ge i k with h | h
          · exact h
          · rw [List.getElem?_eq_none (by rw [hwl]; exact h)] at hx; cases hx
        rw [List.getElem?_map, List.getElem?_range hik] at hx
        simp at hx
        have := Hnum.out i hik
        omega)
      rw [hwl] at hrw
      have Hrw := Lib.hid hrw
      have Hwg := Lib.hid hwg
      obtain ⟨a6, c6, e6⟩ := hws.eq_slice
      rw [hwl] at e6
      subst e6
      obtain ⟨a7, c7, rfl⟩ := hrows.mat
      have hns := pick_inv k num n (by omega) (by omega) Hnum.out Hinj.out
      have Hns := Lib.hid hns
      clear hrw hwl hwg hns ho1 ho2 hws h0 hi
      go_wp2_with fail
      refine Hrw.out.mono ?_
      rintro e w2 ⟨X, ix, rfl, hX, hb2⟩
      have hX := (hX.congr (G := fun i j => CM k (num i) j) (fun i hi j _ => by rw [Hwg.out i hi]; simp)).rws (by omega) (by omega)
      have hrows := hrows.below hb2
      have W := Aft.trans hbel hb2
      clear hb2 hbel
      go_wp2_with fail
      refine (inverse_calls _ k (fun i j => CM k (num i) j) w2 hX k1 (by omega)).mono ?_
      rintro e w3 (⟨Z, iz, Y, rfl, hZ, hI, hb3⟩ | ⟨rfl, hS, hb3⟩)
      · have hZ := hZ.rws (by omega) (by omega)
        have hrows := hrows.below hb3
        have W := W.trans hb3
        clear hb3
        go_wp2_with fail
        refine (work_calls _ _ k k m Y R w3 hZ hrows (by omega) k1 (by omega) (by omega)).mono ?_
        rintro e w4 ⟨Q, iq, rfl, hQ, hb4⟩
        have hQ := hQ.rws (by omega) (by omega)
        have W := W.trans hb4
        have lw4 := W.size
        clear hb4
        go_wp2_with fail
        go_loopw [16, 102] (fun o v wi => ∃ j : Nat, j ≤ k ∧ v = .int .i64 j ∧ OwnB 5 wi w4.heap.size o (flatR j m (MM k Y R)) ∧ Below w4.heap.size w4 wi) (fun _ v _ => k - (intOf v).toNat)
        case atStart => exact ⟨0, by omega, rfl, OwnB.nil _ _ _, Below.refl _ _⟩
        case round =>
          obtain ⟨j, hj, rfl, hown, hbi⟩ := hrel
          have hsi := hbi.size
          by_cases hjk : j < k
          · obtain ⟨bx, ox, rx, cx, e, d1, hrow⟩ := (hQ.below hbi).row j hjk
            injection e with e
            injection e with e1 e2
            subst e1 e2
            simp only [Nat.zero_add] at d1
            have hfl := flatR_len j m (MM k Y R)
            have hjm : j * m ≤ 16 * 1000 := Nat.mul_le_mul (by omega) hm
            have Hfs := Lib.hid (flatR_succ j m (MM k Y R))
            have Hfl := Lib.hid hfl
            clear hfl
            go_wp2_with (at_builtin; refine app_bytes E8 rfl _ _ rfl rfl rfl hown hrow ?z1 hsi ?_)
            case z1 => have := Hfl.out; simp [rowL_len]; omega
            intro v' w5 hown' hgrow
            go_wp2_with fail
            exact ⟨⟨j + 1, by omega, by go_num, by rw [Hfs.out]; exact hown', Below.grown hbi hgrow hsi (fun b hb => (hown.lt b hb).1)⟩, by simp [intOf]; omega⟩
          · obtain rfl : k = j := by omega
            go_wp2
            go_ret2
            exact ⟨_, Y, rfl, hI, hown.mono lw4, W.trans hbi⟩
      · exact absurd hS Hns.out
end Go.Proofs.Ytdciakbichgddaa
