/- The order of an index's leases, as the program tells it. -/
import Derived.Test.YtgjabnpngggcmaaDoorLeaRow
import Derived.Test.YtgjabnpngggcmaaDoorFar
namespace Go.Proofs.YtgjabnpngggcmaaDoor
open Go Go.RowKit Go.Mem Gf Lea
attribute [local go_sem ↓] Go.wp_at_zero Go.wp_at_succ
attribute [local go_sem ↓] load_lease store_lease
attribute [local go_sem] ptrB_eq ptrO_eq ptrIs_eq aggL_eq aggIs_eq readK_drew hasK_drew readK_alloc_past hasK_alloc_past readK_alloc_at hasK_alloc_at setCells_drew setCells_alloc_past setCells_alloc_at
theorem below_drewN {B : Nat} {w w' : World} (h : Below B w w') (n : Nat) : Below B w (w'.drewN n) := ⟨h.os, h.tape, h.output, h.size, h.block⟩
set_option maxRecDepth 100000 in
set_option maxHeartbeats 1000000 in
/-- Of's order -/
theorem ofless_calls (w : World) (bx base g n cap : Nat) (l : List Sec) (h : RowG encL WfL 17 29 w base g n cap l) (hb : Blk w bx #[.slice (some ⟨g, 0, none⟩) n cap] 22) (i j : Nat) (x y : Sec) (hx : l[i]? = some x) (hy : l[j]? = some y) :
    Calls Tryd.prog 20 #[.int .i64 i, .int .i64 j, .pointer (some ⟨bx, 0, none⟩)] w fun e w' => e = .returned (.bool (ltL x y)) ∧ Below w.heap.size w w' := by
  have hi : i < n := by rw [h.len]; exact some_lt hx
  have hj : j < n := by rw [h.len]; exact some_lt hy
  have i0 : (0 : Int) ≤ (i : Int) := by omega
  have i1 : (i : Int) < (n : Int) := by omega
  have j0 : (0 : Int) ≤ (j : Int) := by omega
  have j1 : (j : Int) < (n : Int) := by omega
  have c0 : w.cell? ⟨bx, 0, none⟩ = some (.slice (some ⟨g, 0, none⟩) n cap) := by simpa using hb.cell 0
  have hwx := h.wf x (List.mem_of_getElem? hx)
  have hwy := h.wf y (List.mem_of_getElem? hy)
  go_enter Tryd.func20, Tryd.ntmps20
  have rx := h.read ecL hx
  have ry := h.read ecL hy
  have t1 : HasK 17 w g (i * 17) := h.there hi
  have t1' : HasK 17 w g (j * 17) := h.there hj
  have ax := allL hwx
  have ay := allL hwy
  have lx := ecL.len x hwx
  have ly := ecL.len y hwy
  have hgl : g < w.heap.size := by
    obtain ⟨cur, hh, _⟩ := h.block
    exact lt_of_block hh
  have hbl := hb.lt
  have hgl1 : g < w.heap.size + 1 := by omega
  go_upto_region 1 with fail
  go_cut [6, 7] (fun a b wx => ∃ p q, p ≠ q ∧ a = .pointer (some ⟨p, 0, none⟩) ∧ b = .pointer (some ⟨q, 0, none⟩) ∧ Blk wx p (encL x).toArray 29 ∧ Blk wx q (encL y).toArray 29 ∧ Below w.heap.size w wx)
  case first =>
    go_region
    all_goals go_wp2_with fail
    all_goals go_meet
    · exact ⟨_, _, by omega, rfl, rfl, (Blk.new _ _ _).alloc _, Blk.new_at _ _ _ _ (by simp), (((Below.refl _ _).alloc (Nat.le_refl _) _).alloc (by simp) _).drew⟩
    · exact ⟨_, _, by omega, rfl, rfl, Blk.new_at _ _ _ _ (by simp), (Blk.new _ _ _).alloc _, (((Below.refl _ _).alloc (Nat.le_refl _) _).alloc (by simp) _).drew⟩
  case rest =>
    obtain ⟨p, q, hpq, rfl, rfl, hp, hq, hB⟩ := hcut
    have cp : wc.cell? ⟨p, 16, none⟩ = some (.int .i64 x.2) := by rw [hp.cell]; simpa using encL_end hwx
    have cq : wc.cell? ⟨q, 16, none⟩ = some (.int .i64 y.2) := by rw [hq.cell]; simpa using encL_end hwy
    have bp : Bys wc (.slice (some ⟨p, 0, none⟩) 16 16) x.1 := by
      have := Blk.bys hp (bs := x.1) (cap := 16) (by rw [hwx]; omega) (by decide) (fun k u hu => by simpa using encL_sec hu)
      rwa [hwx] at this
    have bq : Bys wc (.slice (some ⟨q, 0, none⟩) 16 16) y.1 := by
      have := Blk.bys hq (bs := y.1) (cap := 16) (by rw [hwy]; omega) (by decide) (fun k u hu => by simpa using encL_sec hu)
      rwa [hwy] at this
    have HL := Lib.hid (And.intro hB (And.intro bp bq))
    clear hB bp bq hp hq h hb hx hy rx ry t1 t1' ax ay lx ly
    go_upto_region 2 with fail
    by_cases c1 : x.2 < y.2
    · have d1 : decide (x.2 < y.2) = true := by simpa using c1
      have hr : ltL x y = true := by unfold ltL; simp [c1]
      go_quiet (fail)
      go_wp2
      go_ret
      exact ⟨by first | rfl | (rw [hr]; rfl), below_drewN HL.out.1 _⟩
    · have d1 : decide (x.2 < y.2) = false := by simpa using c1
      by_cases c2 : x.2 = y.2
      · have hr : ltL x y = decide (Go.Lib.compareBytes x.1 y.1 < 0) := by unfold ltL; simp [c2]
        have d2 : decide (x.2 = y.2) = true := by simpa using c2
        have d3 : (x.2 == y.2) = true := by simpa using c2
        go_quiet (exact Calls.quiet_of_same (bcomp_calls _ _ x.1 y.1 _ (HL.out.2.1.drewN _) (HL.out.2.2.drewN _)))
        go_wp2
        go_ret
        exact ⟨by first | rfl | (rw [hr]; rfl), below_drewN HL.out.1 _⟩
      · have hr : ltL x y = false := by unfold ltL; simp [c1, c2]
        have d2 : decide (x.2 = y.2) = false := by simpa using c2
        have d3 : (x.2 == y.2) = false := by simpa using c2
        go_quiet (fail)
        go_wp2
        go_ret
        exact ⟨by first | rfl | (rw [hr]; rfl), below_drewN HL.out.1 _⟩
end Go.Proofs.YtgjabnpngggcmaaDoor
