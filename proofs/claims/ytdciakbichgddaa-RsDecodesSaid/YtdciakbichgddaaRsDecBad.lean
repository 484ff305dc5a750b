/- Decode on blobs that are bad. -/
import Derived.Test.YtdciakbichgddaaRsNums
namespace Go.Proofs.Ytdciakbichgddaa
open Go Go.RowKit Go.Mem Gf
attribute [local go_sem ↓] Go.wp_at_zero Go.wp_at_succ

set_option maxRecDepth 20000 in
set_option maxHeartbeats 4000000 in
theorem decode_bad (b bb ob cb k n : Nat) (z : Nat → Int) (ln : Nat → Nat) (w : World) (hc : IsCode w b k n) (hcb1 : k ≤ cb) (_hcb2 : cb ≤ maxLen) (k1 : 1 ≤ k) (hkn : k ≤ n) (n2 : n ≤ 16)
    (hel : ∀ i, i < k → w.cell? ⟨bb, ob + i * 2, none⟩ = some (.int .i64 (z i)) ∧ ∃ a c, w.cell? ⟨bb, ob + i * 2 + 1, none⟩ = some (.slice a (ln i) c))
    (hbad : ¬ ∀ i, i < k → 0 ≤ z i ∧ z i < n ∧ ln i = ln 0 ∧ ∀ q, q < i → z q ≠ z i) :
    Calls Try.prog 69 #[.pointer (some ⟨b, 0, none⟩), .slice (some ⟨bb, ob, none⟩) k cb] w fun e w' => e = .returned (.tuple #[.slice none 0 0, .int .i64 1]) ∧ Below w.heap.size w w' := by
  obtain ⟨am, cm, hB, hM⟩ := id hc
  have c0 : w.cell? ⟨b, 0, none⟩ = some (.int .i64 k) := by rw [hB.cell]; rfl
  have Hel := Lib.hid hel; have Hbad := Lib.hid hbad
  clear hel hbad
  have tk : ((k : Int) != (k : Int)) = false := by simp
  go_enter Try.func69, Try.ntmps69
  go_wp2_with fail
  go_loopw [6, 7, 28] (fun o1 o2 v wr => ∃ (i : Nat) (vs : List Value), i ≤ k ∧ v = .int .i64 i ∧ wr.ownsRow w.heap.size 3 1 o1 i ((List.range i).map fun j => .int .i64 (z j)) ∧ wr.ownsRow w.heap.size 31 1 o2 i vs ∧
      (∀ j, j < i → 0 ≤ z j ∧ z j < n ∧ ln j = ln 0 ∧ ∀ q, q < j → z q ≠ z j) ∧ Below w.heap.size w wr) (fun _ _ v _ => k - (intOf v).toNat)
  case atStart => exact ⟨0, [], by omega, rfl, World.ownsRow_nil _ _ _ _, World.ownsRow_nil _ _ _ _, fun j hj => by omega, Below.refl _ _⟩
  case round =>
    obtain ⟨i, vs, hi, rfl, ho1, ho2, hvs, hbel⟩ := hrel
    have Hvs := Lib.hid hvs
    clear hvs
    by_cases h0 : i < k
    · obtain ⟨e1, a, c, e2⟩ := Hel.out i h0
      have c1 : wr.cell? ⟨bb, ob + i * 2, none⟩ = some (.int .i64 (z i)) := (hbel.cell (p := ⟨bb, ob + i * 2, none⟩) (World.block_lt_of_cell? w _ e1)).trans e1
      have c2 : wr.cell? ⟨bb, ob + i * 2 + 1, none⟩ = some (.slice a (ln i) c) := (hbel.cell (p := ⟨bb, ob + i * 2 + 1, none⟩) (World.block_lt_of_cell? w _ e2)).trans e2
      obtain ⟨e3, a0, cc0, e4⟩ := Hel.out 0 (by omega)
      have c3 : wr.cell? ⟨bb, ob + 1, none⟩ = some (.slice a0 (ln 0) cc0) := (hbel.cell (p := ⟨bb, ob + 1, none⟩) (World.block_lt_of_cell? w ⟨bb, ob + 1, none⟩ (by simpa using e4))).trans (by simpa using e4)
      have c4 : wr.cell? ⟨b, 1, none⟩ = some (.int .i64 (n : Int)) := by
        have := hB.below hbel hB.lt
        rw [this.cell]; rfl
      have i1 : (0 : Int) < (k : Int) := by omega
      have i2 : (0 : Int) ≤ (i : Int) := by omega
      have i3 : (i : Int) ≤ (cb : Int) := by omega
      have lw := hbel.size
      clear e1 e2 e3 e4
      by_cases g1 : z i < 0
      · have t1 : decide (z i < 0) = true := by simp; omega
        clear g1
        go_wp2_with fail
        obtain ⟨wq, hwq⟩ : ∃ wq, wq = wr.alloc (.cells #[.int .i64 (z i), .slice a (ln i) c] 80) := ⟨_, rfl⟩
        have hsB : Blk wq wr.heap.size #[.int .i64 (z i), .slice a (ln i) c] 80 := by rw [hwq]; exact Blk.new _ _ _
        have hwb : Below wr.heap.size wr wq := by rw [hwq]; exact (Below.refl _ _).alloc (Nat.le_refl _) _
        rw [← hwq]
        clear hwq
        have c3 : wq.cell? ⟨bb, ob + 1, none⟩ = some (.slice a0 (ln 0) cc0) := (hwb.cell (p := ⟨bb, ob + 1, none⟩) (World.block_lt_of_cell? wr _ c3)).trans c3
        have c4 : wq.cell? ⟨b, 1, none⟩ = some (.int .i64 (n : Int)) := (hwb.cell (p := ⟨b, 1, none⟩) (World.block_lt_of_cell? wr _ c4)).trans c4
        have c5 : wq.cell? ⟨wr.heap.size, 0, none⟩ = some (.int .i64 (z i)) := by rw [hsB.cell]; rfl
        have c6 : wq.cell? ⟨wr.heap.size, 1, none⟩ = some (.slice a (ln i) c) := by rw [hsB.cell]; rfl
        go_quiet (fail)
        go_wp2
        go_ret2
        exact ⟨rfl, below_drewN (Aft.trans hbel hwb) _⟩
      · have t1 : decide (z i < 0) = false := by simp; omega
        by_cases g2 : (n : Int) ≤ z i
        · have t3 : decide ((n : Int) ≤ z i) = true := by simp; omega
          clear g1 g2
          go_wp2_with fail
          obtain ⟨wq, hwq⟩ : ∃ wq, wq = wr.alloc (.cells #[.int .i64 (z i), .slice a (ln i) c] 80) := ⟨_, rfl⟩
          have hsB : Blk wq wr.heap.size #[.int .i64 (z i), .slice a (ln i) c] 80 := by rw [hwq]; exact Blk.new _ _ _
          have hwb : Below wr.heap.size wr wq := by rw [hwq]; exact (Below.refl _ _).alloc (Nat.le_refl _) _
          rw [← hwq]
          clear hwq
          have c3 : wq.cell? ⟨bb, ob + 1, none⟩ = some (.slice a0 (ln 0) cc0) := (hwb.cell (p := ⟨bb, ob + 1, none⟩) (World.block_lt_of_cell? wr _ c3)).trans c3
          have c4 : wq.cell? ⟨b, 1, none⟩ = some (.int .i64 (n : Int)) := (hwb.cell (p := ⟨b, 1, none⟩) (World.block_lt_of_cell? wr _ c4)).trans c4
          have c5 : wq.cell? ⟨wr.heap.size, 0, none⟩ = some (.int .i64 (z i)) := by rw [hsB.cell]; rfl
          have c6 : wq.cell? ⟨wr.heap.size, 1, none⟩ = some (.slice a (ln i) c) := by rw [hsB.cell]; rfl
          go_quiet (fail)
          go_wp2
          go_ret2
          exact ⟨rfl, below_drewN (Aft.trans hbel hwb) _⟩
        · have t3 : decide ((n : Int) ≤ z i) = false := by simp; omega
          by_cases g3 : ln i = ln 0
          · have t4 : ((ln i : Int) != (ln 0 : Int)) = false := by simp [g3]
            have t5 : (ln i != ln 0) = false := by simp [g3]
            have Hg1 := Lib.hid (show 0 ≤ z i by omega); have Hg2 := Lib.hid (show z i < n by omega); have Hg3 := Lib.hid g3
            clear g1 g2 g3
            go_wp2_with fail
            obtain ⟨wq, hwq⟩ : ∃ wq, wq = wr.alloc (.cells #[.int .i64 (z i), .slice a (ln i) c] 80) := ⟨_, rfl⟩
            have hsB : Blk wq wr.heap.size #[.int .i64 (z i), .slice a (ln i) c] 80 := by rw [hwq]; exact Blk.new _ _ _
            have hwb : Below wr.heap.size wr wq := by rw [hwq]; exact (Below.refl _ _).alloc (Nat.le_refl _) _
            rw [← hwq]
            clear hwq
            have c3 : wq.cell? ⟨bb, ob + 1, none⟩ = some (.slice a0 (ln 0) cc0) := (hwb.cell (p := ⟨bb, ob + 1, none⟩) (World.block_lt_of_cell? wr _ c3)).trans c3
            have c4 : wq.cell? ⟨b, 1, none⟩ = some (.int .i64 (n : Int)) := (hwb.cell (p := ⟨b, 1, none⟩) (World.block_lt_of_cell? wr _ c4)).trans c4
            have c5 : wq.cell? ⟨wr.heap.size, 0, none⟩ = some (.int .i64 (z i)) := by rw [hsB.cell]; rfl
            have c6 : wq.cell? ⟨wr.heap.size, 1, none⟩ = some (.slice a (ln i) c) := by rw [hsB.cell]; rfl
            go_quiet (fail)
            go_wp2_with fail
            obtain ⟨wo, hwo⟩ : ∃ wo, wo = wq.drewN nq := ⟨_, rfl⟩
            have hsB : Blk wo wr.heap.size #[.int .i64 (z i), .slice a (ln i) c] 80 := by rw [hwo]; exact hsB
            have hwb : Below wr.heap.size wr wo := by rw [hwo]; exact below_drewN hwb _
            rw [← hwo]
            clear hwo c1 c2 c3 c4 c5 c6
            have ho1 := own_below ho1 hwb
            have ho2 := own_below ho2 hwb
            have hbel := Aft.trans hbel hwb
            obtain ⟨sb, hsb⟩ : ∃ sb, sb = wr.heap.size := ⟨_, rfl⟩
            rw [← hsb] at hsB ⊢
            clear hsb hwb
            have lws := hbel.size
            have lsb := hsB.lt
            go_loopw [60] (fun v wi => ∃ j : Nat, j ≤ i ∧ v = .int .i64 j ∧ (∀ q, q < j → z q ≠ z i) ∧ Below wo.heap.size wo wi) (fun v _ => i - (intOf v).toNat)
            case atStart => exact ⟨0, by omega, rfl, fun q hq => by omega, Below.refl _ _⟩
            case round =>
              obtain ⟨j, hj, rfl, hdj, hbi⟩ := hrel
              have Hdj := Lib.hid hdj
              clear hdj
              have hsB2 := hsB.kept hbi
              have c5 : wr.cell? ⟨sb, 0, none⟩ = some (.int .i64 (z i)) := by rw [hsB2.cell]; rfl
              have c6 : wr.cell? ⟨sb, 1, none⟩ = some (.slice a (ln i) c) := by rw [hsB2.cell]; rfl
              have hsz := hbi.size
              by_cases hji : j < i
              · obtain ⟨e1, a2, ca2, e2⟩ := Hel.out j (by omega)
                have hbw := Aft.trans hbel hbi
                have c1 : wr.cell? ⟨bb, ob + j * 2, none⟩ = some (.int .i64 (z j)) := (hbw.cell (p := ⟨bb, ob + j * 2, none⟩) (World.block_lt_of_cell? w _ e1)).trans e1
                have c2 : wr.cell? ⟨bb, ob + j * 2 + 1, none⟩ = some (.slice a2 (ln j) ca2) := (hbw.cell (p := ⟨bb, ob + j * 2 + 1, none⟩) (World.block_lt_of_cell? w _ e2)).trans e2
                have hbw2 := hbw
                clear e1 e2 hbw
                go_upto_region 13 with fail
                obtain ⟨wz, hwz⟩ : ∃ wz, wz = wr.alloc (.cells #[.int .i64 (z j), .slice a2 (ln j) ca2] 80) := ⟨_, rfl⟩
                have hzb : Below wr.heap.size wr wz := by rw [hwz]; exact (Below.refl _ _).alloc (Nat.le_refl _) _
                have hzB : Blk wz wr.heap.size #[.int .i64 (z j), .slice a2 (ln j) ca2] 80 := by rw [hwz]; exact Blk.new _ _ _
                have c5 : wz.cell? ⟨sb, 0, none⟩ = some (.int .i64 (z i)) := (hzb.cell (p := ⟨sb, 0, none⟩) (World.block_lt_of_cell? wr _ c5)).trans c5
                have c7 : wz.cell? ⟨wr.heap.size, 0, none⟩ = some (.int .i64 (z j)) := by rw [hzB.cell]; rfl
                rw [← hwz]
                clear hwz c1 c2 c6 hzB
                by_cases hzz : z j = z i
                · have t5 : (z j == z i) = true := by simp [hzz]
                  have t5' : ((z i) == (z i)) = true := by simp
                  clear hzz
                  go_wp2
                  go_ret2
                  exact ⟨rfl, Aft.trans hbw2 hzb⟩
                · have t5 : (z j == z i) = false := by simp; exact hzz
                  have Hzz := Lib.hid hzz
                  clear hzz
                  go_wp2
                  exact ⟨⟨j + 1, by omega, by go_num, fun q hq => by
                    by_cases e : q = j
                    · subst e; exact Hzz.out
                    · exact Hdj.out q (by omega), Aft.trans hbi hzb⟩, by simp [intOf]; omega⟩
              · obtain rfl : i = j := by omega
                have ho1w := own_below ho1 hbi
                have ho2w := own_below ho2 hbi
                have hbw := Aft.trans hbel hbi
                have hlt1 : ∀ q, u6.ownBlock = some q → w.heap.size ≤ q ∧ q < wr.heap.size := ho1w.lt
                have hlt2 : ∀ q, u7.ownBlock = some q → w.heap.size ≤ q ∧ q < wr.heap.size := ho2w.lt
                have hn1 : u6.ownBlock ≠ some sb := ownBlock_ne ho1w (by decide) hsB2
                have hn2 : u7.ownBlock ≠ some sb := ownBlock_ne ho2w (by decide) hsB2
                have Hlt1 := Lib.hid hlt1; have Hlt2 := Lib.hid hlt2; have Hn1 := Lib.hid hn1; have Hn2 := Lib.hid hn2
                have lsr : sb < wr.heap.size := hsB2.lt
                have lww : w.heap.size ≤ wr.heap.size := hbw.size
                clear hlt1 hlt2 hn1 hn2
                go_wp2_with fail
                have HG := Lib.hid (show 0 ≤ z i ∧ z i < n ∧ ln i = ln 0 ∧ ∀ q, q < i → z q ≠ z i from ⟨Hg1.out, Hg2.out, Hg3.out, Hdj.out⟩)
                go_region_held3 (fun w' => w'.cell? ⟨sb, 0, none⟩ = some (.int .i64 (z i)) ∧ w'.cell? ⟨sb, 1, none⟩ = some (.slice a (ln i) c)) (first | exact ⟨c5, c6⟩ | assumption | go_keep)
                  (first
                    | (refine stepApp_one EI (by rfl) _ _ (by rfl) (base := w.heap.size) (n := i) (xs := (List.range i).map fun j => .int .i64 (z j)) (.int .i64 (z i)) (by rfl) (by rfl) (by simp) rfl (by first | exact ho1w.alloc _ | exact (ho1w.alloc _).alloc _) (by omega) (by decide) (by simp <;> omega) ?_
                       intro v1 x1 hv1 hg1
                       have hB1 : Blk x1 sb #[.int .i64 (z i), .slice a (ln i) c] 80 := Blk.grown (by first | exact hsB2.alloc _ | exact (hsB2.alloc _).alloc _) hg1 Hn1.out
                       have hh : x1.cell? ⟨sb, 0, none⟩ = some (.int .i64 (z i)) ∧ x1.cell? ⟨sb, 1, none⟩ = some (.slice a (ln i) c) := ⟨by rw [hB1.cell]; rfl, by rw [hB1.cell]; rfl⟩
                       have hx1s : wr.heap.size ≤ x1.heap.size := Nat.le_trans (by simp <;> omega) hg1.size
                       have ho2x : x1.ownsRow w.heap.size 31 1 u7 i vs := own_grown (by first | exact ho2w.alloc _ | exact (ho2w.alloc _).alloc _) (by first | exact ho1w.alloc _ | exact (ho1w.alloc _).alloc _) (by decide) hg1
                       have hfar := fun (p : Addr) (h1 : wr.heap.size ≤ p.block) h2 => hg1.cell_far p h2 (fun e => by have := (Hlt1.out _ e.symm).2; omega)
                       have hbx1 : Below w.heap.size w x1 := Below.grown (by first | exact (hbw.drew.alloc (by exact lww) _) | exact ((hbw.drew.alloc (by exact lww) _).alloc (by simp <;> omega) _)) hg1 (by simp <;> omega) (fun q hq => (Hlt1.out q hq).1))
                    | (refine stepApp_one ER (by rfl) _ _ (by rfl) (base := w.heap.size) (n := i) (xs := vs) (.slice a (ln i) c) (by rfl) (by rfl) (by first | (simp; done) | exact (hfar ⟨wr.heap.size, 0, none⟩ (by simp) (by simp <;> omega)).trans (by simp) | exact (hfar ⟨wr.heap.size + 1, 0, none⟩ (by simp) (by simp <;> omega)).trans (by simp)) rfl (by first | exact ho2x.alloc _ | exact ho2x) (by omega) (by decide) (by first | exact hbx1.size | (have := hbx1.size; simp <;> omega)) ?_
                       intro v2 x2 hv2 hg2
                       have hB2 : Blk x2 sb #[.int .i64 (z i), .slice a (ln i) c] 80 := Blk.grown (by first | exact hB1.alloc _ | exact hB1) hg2 Hn2.out
                       have hh2 : x2.cell? ⟨sb, 0, none⟩ = some (.int .i64 (z i)) ∧ x2.cell? ⟨sb, 1, none⟩ = some (.slice a (ln i) c) := ⟨by rw [hB2.cell]; rfl, by rw [hB2.cell]; rfl⟩
                       have hv1x : x2.ownsRow w.heap.size 3 1 v1 (i + 1) ((List.range i).map (fun j => .int .i64 (z j)) ++ [.int .i64 (z i)]) := own_grown (by first | exact hv1.alloc _ | exact hv1) (by first | exact ho2x.alloc _ | exact ho2x) (by decide) hg2
                       have hbx2 : Below w.heap.size w x2 := Below.grown (by first | exact hbx1 | exact hbx1.alloc hbx1.size _) hg2 (by first | exact hbx1.size | (have := hbx1.size; simp <;> omega)) (fun q hq => (Hlt2.out q hq).1)))
                all_goals
                  go_wp2_with fail
                  refine ⟨⟨i + 1, vs ++ [.slice a (ln i) c], by omega, by go_num, by rw [List.range_succ, List.map_append]; exact hv1x, hv2, fun j hj => ?_, hbx2⟩, by simp [intOf]; omega⟩
                  by_cases e : j = i
                  · subst e; exact HG.out
                  · exact Hvs.out j (by omega)
          · have t4 : ((ln i : Int) != (ln 0 : Int)) = true := by simp; omega
            have t5 : (ln i != ln 0) = true := by simp; exact g3
            clear g1 g2 g3
            go_wp2_with fail
            obtain ⟨wq, hwq⟩ : ∃ wq, wq = wr.alloc (.cells #[.int .i64 (z i), .slice a (ln i) c] 80) := ⟨_, rfl⟩
            have hsB : Blk wq wr.heap.size #[.int .i64 (z i), .slice a (ln i) c] 80 := by rw [hwq]; exact Blk.new _ _ _
            have hwb : Below wr.heap.size wr wq := by rw [hwq]; exact (Below.refl _ _).alloc (Nat.le_refl _) _
            rw [← hwq]
            clear hwq
            have c3 : wq.cell? ⟨bb, ob + 1, none⟩ = some (.slice a0 (ln 0) cc0) := (hwb.cell (p := ⟨bb, ob + 1, none⟩) (World.block_lt_of_cell? wr _ c3)).trans c3
            have c4 : wq.cell? ⟨b, 1, none⟩ = some (.int .i64 (n : Int)) := (hwb.cell (p := ⟨b, 1, none⟩) (World.block_lt_of_cell? wr _ c4)).trans c4
            have c5 : wq.cell? ⟨wr.heap.size, 0, none⟩ = some (.int .i64 (z i)) := by rw [hsB.cell]; rfl
            have c6 : wq.cell? ⟨wr.heap.size, 1, none⟩ = some (.slice a (ln i) c) := by rw [hsB.cell]; rfl
            go_quiet (fail)
            go_wp2
            go_ret2
            exact ⟨rfl, below_drewN (Aft.trans hbel hwb) _⟩
    · obtain rfl : k = i := by omega
      exact absurd Hvs.out Hbad.out
end Go.Proofs.Ytdciakbichgddaa
