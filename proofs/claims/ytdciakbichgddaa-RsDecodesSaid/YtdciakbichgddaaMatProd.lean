/- The walk of the document's own product. -/
import Derived.Test.YtdciakbichgddaaMatRef
import Derived.Deep.RegionHeld3
import Derived.Deep.DrawnRows
namespace Go.Proofs.Ytdciakbichgddaa
open Go Go.RowKit Go.Mem Gf
attribute [local go_sem ↓] Go.wp_at_zero Go.wp_at_succ

set_option maxRecDepth 20000 in
set_option maxHeartbeats 2000000 in
theorem rproduct_calls (va vb : Value) (n m p : Nat) (A B : Mx) (w : World) (ha : Rws w va (rowsL n m A)) (hb : Rws w vb (rowsL m p B))
    (n2 : n ≤ 16) (m1 : 1 ≤ m) (m2 : m ≤ 16) (p2 : p ≤ 16) :
    Calls Try.prog 55 #[va, vb] w fun e w' => ∃ v, e = .returned v ∧ Rws w' v (rowsL n p (MM m A B)) ∧ Below w.heap.size w w' := by
  obtain ⟨aa, capa, rfl⟩ := ha.mat
  obtain ⟨ab, capb, rfl⟩ := hb.mat
  obtain ⟨bb, ob, b0, cb0, rfl, d0, _⟩ := hb.row 0 (by omega)
  have lb := World.block_lt_of_cell? w _ d0
  dsimp only at lb
  have m0 : 0 < m := by omega
  have m0' : (0 : Int) < (m : Int) := by omega
  go_enter Try.func55, Try.ntmps55
  go_wp2_with fail
  go_loopw [5, 11] (fun o v wr => ∃ i : Nat, i ≤ n ∧ v = .int .i64 i ∧ OwnRows 5 31 wr w.heap.size o (rowsL i p (MM m A B)) ∧ Below w.heap.size w wr)
    (fun _ v _ => n - (intOf v).toNat)
  case atStart => exact ⟨0, by omega, rfl, OwnRows.nil _ _ _ _, Below.refl _ _⟩
  case round =>
    obtain ⟨i, hi, rfl, hown, hbel⟩ := hrel
    by_cases h0 : i < n
    · have hs := hbel.size
      have d0' : wr.cell? ⟨bb, ob, none⟩ = some (.slice b0 p cb0) := (hbel.cell (p := ⟨bb, ob, none⟩) lb).trans d0
      obtain ⟨ba, oa, ra, ca, rfl, c1, hra⟩ := (ha.below hbel).row i h0
      have la := World.block_lt_of_cell? wr _ c1
      dsimp only at la
      go_wp2_with fail
      obtain ⟨wo, hwo⟩ : ∃ wo, wo = wr := ⟨_, rfl⟩
      rw [← hwo] at hown hbel hs c1 hra la ⊢
      clear hwo d0'
      have hb2 := hb.below hbel
      go_loopw [7, 18] (fun r v wi => ∃ k : Nat, k ≤ p ∧ v = .int .i64 k ∧ OwnB 5 wi wo.heap.size r (rowL k (MM m A B i)) ∧ Below wo.heap.size wo wi) (fun _ v _ => p - (intOf v).toNat)
      case atStart => exact ⟨0, by omega, rfl, OwnB.nil _ _ _, Below.refl _ _⟩
      case round =>
        obtain ⟨k, hk, rfl, hr, hbi⟩ := hrel
        have hsi := hbi.size
        by_cases hkp : k < p
        · have HS := Lib.hid (show ∀ x, Below wo.heap.size wo x → x.cell? ⟨ba, oa + i, none⟩ = some (.slice ra m ca) from fun x hx => (hx.cell (p := ⟨ba, oa + i, none⟩) la).trans c1)
          have c1w := HS.out wr hbi
          have hra2 := hra.below hbi
          have hb3 := hb2.below hbi
          have i1 : (0 : Int) ≤ (i : Int) := by omega
          have i2 : (i : Int) < (n : Int) := by omega
          have hu := u_lt (MM m A B i k)
          obtain ⟨r7, c7, e7⟩ := hr.eq_slice
          rw [rowL_len] at e7
          subst e7
          clear c1
          go_wp2_with fail
          go_region_held3 (fun w' => w'.cell? ⟨ba, oa + i, none⟩ = some (.slice ra m ca)) (first | exact c1w | assumption | go_keep)
            (first
              | (go_at_call 85
                 refine (rcolumn_calls _ m p k B _ hb3.drew (by omega) hkp).mono ?_
                 rintro e x1 ⟨vc, rfl, hvc, hx1⟩
                 have hx1 : Below wr.heap.size wr x1 := of_drew_base hx1 rfl
                 have hx1o := hbi.trans (hx1.mono hsi)
                 have hh := HS.out x1 hx1o)
              | (go_at_call 32
                 refine (rdot_calls _ _ _ _ _ (hra2.below hx1) hvc).mono ?_
                 rintro e x2 ⟨rfl, d, rfl⟩
                 rw [gdot_rowL, show dotf m (A i) (fun j => B j k) = MM m A B i k from rfl])
              | (refine stepApp_byte E8 (by rfl) _ _ (by rfl) (base := wo.heap.size) (bs := rowL k (MM m A B i)) (MM m A B i k) (by rfl) (by rfl) (by exact new_cell _ _ _ _ rfl) (((hr.below hx1).below (Rd.below ⟨d, rfl⟩)).below ((Below.refl _ _).alloc (Nat.le_refl _) _)) (by rw [rowL_len]; omega) (by simp; have := hx1o.size; omega) ?_
                 intro v' x3 hown' hgrow
                 have hx3 : Below wo.heap.size wo x3 := Below.grown ((below_drewN hx1o d).alloc hx1o.size _) hgrow (by simp; have := hx1o.size; omega) (fun b hb => (hr.lt b hb).1)
                 have hh := HS.out x3 hx3))
          go_wp2_with fail
          exact ⟨⟨k + 1, by omega, by go_num, by rw [rowL_succ]; exact hown', hx3⟩, by simp [intOf]; omega⟩
        · obtain rfl : k = p := by omega
          have hown := hown.below hbi
          have hbel2 := Aft.trans hbel hbi
          have hs2 := hbel2.size
          have hr2 := hr.mono hs
          obtain ⟨ra, rc, rfl⟩ := hr.eq_slice
          go_wp2_with (at_builtin; refine app_row ER rfl _ _ rfl rfl rfl ?d1 hown hr2 (by decide) ?d2 ?d3 ?_)
          case d1 => rfl
          case d2 => rw [rowsL_len]; omega
          case d3 => exact hs2
          intro v' w1 hown' hgrow
          go_wp2_with fail
          exact ⟨⟨i + 1, by omega, by go_num, by rw [rowsL_succ]; exact hown', Below.grown hbel2 hgrow hs2 (fun b hb => (hown.lt b hb).1)⟩, by simp [intOf]; omega⟩
    · obtain rfl : i = n := by omega
      go_wp2
      go_ret
      exact ⟨_, rfl, hown.rws, hbel⟩
end Go.Proofs.Ytdciakbichgddaa
