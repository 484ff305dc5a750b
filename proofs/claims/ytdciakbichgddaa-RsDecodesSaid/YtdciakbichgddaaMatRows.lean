/- Walks of package matrix: some rows of a matrix; images. -/
import Derived.Test.YtdciakbichgddaaMatMul
import Derived.Test.YtdciakbichgddaaInts
namespace Go.Proofs.Ytdciakbichgddaa
open Go Go.RowKit Go.Mem Gf

theorem rows_at {ws : List Int} {n : Nat} (h : ∀ (i : Nat) (x : Int), ws[i]? = some x → 0 ≤ x ∧ x < n) (i : Nat) (hi : i < ws.length) : ws[i]? = some (((ws.getD i 0).toNat : Nat) : Int) ∧ (ws.getD i 0).toNat < n := by
  have e : ws[i]? = some ws[i] := List.getElem?_eq_getElem hi
  have h1 := h i ws[i] e
  rw [List.getD_eq_getElem?_getD, e]
  simp only [Option.getD_some]
  exact ⟨by congr 1; omega, by omega⟩
set_option maxHeartbeats 1000000 in
theorem rows1_calls (i k n m ba bw : Nat) (va vw : Value) (A : Mx) (ws : List Int) (x : Nat) (w : World) (hi : ws[i]? = some (x : Int)) (hx : x < n) (hk : k < m)
    (hca : w.cell? ⟨ba, 0, none⟩ = some va) (hcw : w.cell? ⟨bw, 0, none⟩ = some vw) (ha : Rws w va (rowsL n m A)) (hw : Nms w vw ws) :
    Calls Try.prog 84 #[.int .i64 i, .int .i64 k, .pointer (some ⟨ba, 0, none⟩), .pointer (some ⟨bw, 0, none⟩)] w fun e w' => e = .returned (.int .u8 ((A x k).toNat : Int)) ∧ ∃ d, w' = w.drewN d := by
  have hil : i < ws.length := by
    rcases Nat.lt_or_ge i ws.length with h | h
    · exact h
    · rw [List.getElem?_eq_none h] at hi; cases hi
  obtain ⟨aa, capa, rfl⟩ := ha.mat
  obtain ⟨aw, capw, rfl⟩ := hw.eq_slice
  obtain ⟨b, off, b', off', cap', rfl, c1, c2⟩ := ha.elem x k hx hk
  obtain ⟨b2, off2, y, rfl, hy, c3⟩ := hw.at i hil
  obtain rfl : y = (x : Int) := by have h1 := hy.out; rw [hi] at h1; exact (Option.some.inj h1).symm
  clear hi hy
  obtain ⟨l, hl⟩ : ∃ l, l = ws.length := ⟨_, rfl⟩
  rw [← hl] at hcw hil
  clear hl
  go_enter Try.func84, Try.ntmps84
  go_wp2_with fail
  go_quiet (fail)
  go_wp2
  go_ret
  exact ⟨rfl, _, rfl⟩

set_option maxRecDepth 20000 in
set_option maxHeartbeats 2000000 in
theorem mrows_calls (va vw : Value) (n m : Nat) (A : Mx) (ws : List Int) (w : World) (ha : Rws w va (rowsL n m A)) (hw : Nms w vw ws)
    (n1 : 1 ≤ n) (n2 : n ≤ 16) (m1 : 1 ≤ m) (m2 : m ≤ 16) (l1 : 1 ≤ ws.length) (l2 : ws.length ≤ 16) (hin : ∀ (i : Nat) (x : Int), ws[i]? = some x → 0 ≤ x ∧ x < n) :
    Calls Try.prog 49 #[va, vw] w fun e w' => ∃ X ids, e = .returned (.tuple #[.slice (some ⟨X, 0, none⟩) ws.length ws.length, .int .i64 0]) ∧
      OwnM 5 31 w' w.heap.size X ids ws.length m (fun i k => A (ws.getD i 0).toNat k) ∧ Below w.heap.size w w' := by
  obtain ⟨aa, capa, rfl⟩ := ha.mat
  obtain ⟨aw, capw, rfl⟩ := hw.eq_slice
  obtain ⟨ba, oa, a0, ca0, rfl, c0, _⟩ := ha.row 0 (by omega)
  have c0' : w.cell? ⟨ba, oa, none⟩ = some (.slice a0 m ca0) := c0
  have la := World.block_lt_of_cell? w _ c0'
  dsimp only at la
  clear c0
  obtain ⟨l, hl⟩ : ∃ l, l = ws.length := ⟨_, rfl⟩
  rw [← hl] at hw l1 l2 ⊢
  have Hl := Lib.hid hl; clear hl
  have Hin := Lib.hid hin; clear hin
  have n0 : 0 < n := by omega
  have n0' : (0 : Int) < (n : Int) := by omega
  go_enter Try.func49, Try.ntmps49
  go_wp2_with fail
  have ca : ((w.alloc (.cells #[.slice (some ⟨ba, oa, none⟩) n capa] 43)).alloc (.cells #[.slice aw l capw] 57)).cell? ⟨w.heap.size, 0, none⟩ = some (.slice (some ⟨ba, oa, none⟩) n capa) := by
    rw [World.cell?_alloc_past _ _ _ (by simp), World.cell?_alloc_new]; rfl
  have cb : ((w.alloc (.cells #[.slice (some ⟨ba, oa, none⟩) n capa] 43)).alloc (.cells #[.slice aw l capw] 57)).cell? ⟨w.heap.size + 1, 0, none⟩ = some (.slice aw l capw) := by
    rw [World.cell?_alloc_at _ _ _ _ (by simp)]; rfl
  have hbel : Below w.heap.size w ((w.alloc (.cells #[.slice (some ⟨ba, oa, none⟩) n capa] 43)).alloc (.cells #[.slice aw l capw] 57)) :=
    ((Below.refl _ _).alloc (Nat.le_refl _) _).alloc (by simp) _
  generalize hw1 : (w.alloc (.cells #[.slice (some ⟨ba, oa, none⟩) n capa] 43)).alloc (.cells #[.slice aw l capw] 57) = w1 at *
  clear hw1
  have ha1 := ha.below hbel
  have hw1 := hw.below hbel
  have c0 : w1.cell? ⟨ba, oa, none⟩ = some (.slice a0 m ca0) := (hbel.cell (p := ⟨ba, oa, none⟩) la).trans c0'
  clear c0'
  refine (may_yes _ n m A _ ha1 n1 n2 m1 m2).mono ?_
  rintro e w2 ⟨rfl, rfl⟩
  go_wp2_with fail
  go_loop [23] (fun v => ∃ i : Nat, i ≤ l ∧ v = .int .i64 i) (fun v => l - (intOf v).toNat)
  case atStart => exact ⟨0, by omega, rfl⟩
  case round =>
    obtain ⟨i, hi, rfl⟩ := hrel
    by_cases h0 : i < l
    · obtain ⟨b2, o2, x, rfl, hx, c3⟩ := hw1.at i (by have := Hl.out; omega)
      obtain ⟨x1, x2⟩ := Hin.out i x hx.out
      go_wp2
      exact ⟨⟨i + 1, by omega, by go_num⟩, by simp [intOf]; omega⟩
    · go_wp2_with fail
      have hsz := hbel.size
      go_region_held3 (fun w' => w'.cell? ⟨w.heap.size, 0, none⟩ = some (.slice (some ⟨ba, oa, none⟩) n capa) ∧ w'.cell? ⟨w.heap.size + 1, 0, none⟩ = some (.slice aw l capw) ∧ w'.cell? ⟨ba, oa, none⟩ = some (.slice a0 m ca0))
        (first | exact ⟨ca, cb, c0⟩ | assumption)
        (first
          | (go_at_call 75
             refine (made_calls l m (by omega) (by omega) 84 #[.pointer (some ⟨w.heap.size, 0, none⟩), .pointer (some ⟨w.heap.size + 1, 0, none⟩)] (fun i k => A (ws.getD i 0).toNat k) w1.drew (fun _ _ => by kernel_rfl)
               (fun i k w' hi hk hbb => (rows1_calls i k n m w.heap.size (w.heap.size + 1) _ _ A ws (ws.getD i 0).toNat w' (rows_at Hin.out i (by have := Hl.out; omega)).1 (rows_at Hin.out i (by have := Hl.out; omega)).2 hk
                 ((hbb.cell (p := ⟨w.heap.size, 0, none⟩) (World.block_lt_of_cell? w1 _ ca)).trans ca) ((hbb.cell (p := ⟨w.heap.size + 1, 0, none⟩) (World.block_lt_of_cell? w1 _ cb)).trans cb)
                 (ha1.drew.below hbb) (hw1.drew.below hbb)).mono fun e w'' ⟨he, d, hd⟩ => ⟨he, hd ▸ below_drewN (Below.refl _ _) d⟩)).mono ?_
             rintro e w4 ⟨X, ids, rfl, hO, hb4⟩
             have hh : w4.cell? ⟨w.heap.size, 0, none⟩ = some (.slice (some ⟨ba, oa, none⟩) n capa) ∧ w4.cell? ⟨w.heap.size + 1, 0, none⟩ = some (.slice aw l capw) ∧ w4.cell? ⟨ba, oa, none⟩ = some (.slice a0 m ca0) :=
               ⟨(hb4.cell (p := ⟨w.heap.size, 0, none⟩) (World.block_lt_of_cell? w1 _ ca)).trans ca, (hb4.cell (p := ⟨w.heap.size + 1, 0, none⟩) (World.block_lt_of_cell? w1 _ cb)).trans cb, (hb4.cell (p := ⟨ba, oa, none⟩) (World.block_lt_of_cell? w1 _ c0)).trans c0⟩))
      all_goals
        go_wp2
        go_ret2
        exact ⟨X, ids, rfl, hO.mono hsz, hbel.drew.trans (hb4.mono hsz)⟩
end Go.Proofs.Ytdciakbichgddaa
