/- Walks of package matrix: which are matrices; products. -/
import Derived.Test.YtdciakbichgddaaMatUnit
namespace Go.Proofs.Ytdciakbichgddaa
open Go Go.RowKit Go.Mem Gf

set_option maxRecDepth 20000 in
set_option maxHeartbeats 1000000 in
theorem may_yes (v : Value) (n m : Nat) (F : Mx) (w : World) (h : Rws w v (rowsL n m F)) (h1 : 1 ≤ n) (h2 : n ≤ 16) (m1 : 1 ≤ m) (m2 : m ≤ 16) :
    Calls Try.prog 74 #[v] w fun e w' => e = .returned (.bool true) ∧ w = w' := by
  obtain ⟨a, cap, rfl⟩ := h.mat
  obtain ⟨b, off, a0, cap0, rfl, c0, _⟩ := h.row 0 (by omega)
  have c0' : w.cell? ⟨b, off, none⟩ = some (.slice a0 m cap0) := c0
  clear c0
  go_enter Try.func74, Try.ntmps74
  go_wp2_with fail
  go_loop [29] (fun v => ∃ i : Nat, i ≤ n ∧ v = .int .i64 i) (fun v => n - (intOf v).toNat)
  case atStart => exact ⟨0, by omega, rfl⟩
  case round =>
    obtain ⟨i, hi, rfl⟩ := hrel
    by_cases h0 : i < n
    · obtain ⟨b', off', a1, cap1, e, c1, _⟩ := h.row i h0
      injection e with e
      injection e with e1 e2
      subst e1 e2
      go_wp2
      exact ⟨⟨i + 1, by omega, by go_num⟩, by simp [intOf]; omega⟩
    · go_wp2
      go_ret
      exact ⟨rfl, rfl⟩

set_option maxHeartbeats 1000000 in
theorem mul1_calls (i k n m p fb bd ba bb : Nat) (va vb : Value) (A B : Mx) (w : World) (hi : i < n) (hk : k < p) (hm : m ≤ 4096)
    (hd : w.cell? ⟨bd, 0, none⟩ = some (.func (.func 31) #[.pointer (some ⟨fb, 0, none⟩)] #[])) (hf : IsField w fb)
    (hca : w.cell? ⟨ba, 0, none⟩ = some va) (hcb : w.cell? ⟨bb, 0, none⟩ = some vb) (ha : Rws w va (rowsL n m A)) (hb : Rws w vb (rowsL m p B)) :
    Calls Try.prog 82 #[.int .i64 i, .int .i64 k, .pointer (some ⟨bd, 0, none⟩), .pointer (some ⟨ba, 0, none⟩), .pointer (some ⟨bb, 0, none⟩)] w fun e w' =>
      e = .returned (.int .u8 ((MM m A B i k).toNat : Int)) ∧ Below w.heap.size w w' := by
  obtain ⟨aa, capa, rfl⟩ := ha.mat
  obtain ⟨b, off, a', cap', rfl, c1, hrow⟩ := ha.row i hi
  have Hf := fun (w' : World) (h : Below w.drew.heap.size w.drew w') => (show IsField w.drew fb from hf).below h hf.lt
  go_enter Try.func82, Try.ntmps82
  go_wp2_with fail
  go_region_held3 (fun w' => w'.cell? ⟨bd, 0, none⟩ = some (.func (.func 31) #[.pointer (some ⟨fb, 0, none⟩)] #[]) ∧ w'.cell? ⟨ba, 0, none⟩ = some (.slice (some ⟨b, off, none⟩) n capa) ∧
      w'.cell? ⟨bb, 0, none⟩ = some vb ∧ w'.cell? ⟨b, off + i, none⟩ = some (.slice a' m cap')) (first | exact ⟨hd, hca, hcb, c1⟩ | assumption)
    (first
      | (go_at_call 83
         refine (column_calls vb m p k B _ hb.drew (by omega) hk).mono ?_
         rintro e w2 ⟨vc, rfl, hvc, hb2⟩
         have hrow2 := (show Bys w.drew _ _ from hrow).below hb2
         have hf2 := Hf w2 hb2
         have hd := (hb2.cell (p := ⟨bd, 0, none⟩) (World.block_lt_of_cell? w _ hd)).trans hd
         have hca := (hb2.cell (p := ⟨ba, 0, none⟩) (World.block_lt_of_cell? w _ hca)).trans hca
         have hcb := (hb2.cell (p := ⟨bb, 0, none⟩) (World.block_lt_of_cell? w _ hcb)).trans hcb
         have c1 := (hb2.cell (p := ⟨b, off + i, none⟩) (World.block_lt_of_cell? w _ c1)).trans c1
         have hh : w2.cell? ⟨bd, 0, none⟩ = some (.func (.func 31) #[.pointer (some ⟨fb, 0, none⟩)] #[]) ∧ w2.cell? ⟨ba, 0, none⟩ = some (.slice (some ⟨b, off, none⟩) n capa) ∧
            w2.cell? ⟨bb, 0, none⟩ = some vb ∧ w2.cell? ⟨b, off + i, none⟩ = some (.slice a' m cap') := ⟨hd, hca, hcb, c1⟩)
      | (go_at_call 31
         refine (fdot_calls fb _ _ _ _ _ hf2 hrow2 hvc).mono ?_
         rintro e w3 ⟨rfl, d, rfl⟩))
  go_wp2
  go_ret
  exact ⟨ret_int (by rw [gdot_rowL]; rfl), below_drewN ((Below.refl _ w).drew.trans hb2) _⟩

set_option maxRecDepth 20000 in
set_option maxHeartbeats 2000000 in
theorem mmul_calls (va vb : Value) (n m p : Nat) (A B : Mx) (w : World) (ha : Rws w va (rowsL n m A)) (hb : Rws w vb (rowsL m p B))
    (n1 : 1 ≤ n) (n2 : n ≤ 16) (m1 : 1 ≤ m) (m2 : m ≤ 16) (p1 : 1 ≤ p) (p2 : p ≤ 16) :
    Calls Try.prog 48 #[va, vb] w fun e w' => ∃ X ids, e = .returned (.tuple #[.slice (some ⟨X, 0, none⟩) n n, .int .i64 0]) ∧
      OwnM 5 31 w' w.heap.size X ids n p (MM m A B) ∧ Below w.heap.size w w' := by
  obtain ⟨aa, capa, rfl⟩ := ha.mat
  obtain ⟨ab, capb, rfl⟩ := hb.mat
  obtain ⟨ba, oa, a0, ca0, rfl, c0, _⟩ := ha.row 0 (by omega)
  have c0' : w.cell? ⟨ba, oa, none⟩ = some (.slice a0 m ca0) := c0
  obtain ⟨bb, ob, b0, cb0, rfl, d0, _⟩ := hb.row 0 (by omega)
  have d0' : w.cell? ⟨bb, ob, none⟩ = some (.slice b0 p cb0) := d0
  have la := World.block_lt_of_cell? w _ c0'
  have lb := World.block_lt_of_cell? w _ d0'
  dsimp only at la lb
  clear c0 d0
  go_enter Try.func48, Try.ntmps48
  go_wp2_with fail
  have ca : ((w.alloc (.cells #[.slice (some ⟨ba, oa, none⟩) n capa] 43)).alloc (.cells #[.slice (some ⟨bb, ob, none⟩) m capb] 43)).cell? ⟨w.heap.size, 0, none⟩ = some (.slice (some ⟨ba, oa, none⟩) n capa) := by
    rw [World.cell?_alloc_past _ _ _ (by simp), World.cell?_alloc_new]; rfl
  have cb : ((w.alloc (.cells #[.slice (some ⟨ba, oa, none⟩) n capa] 43)).alloc (.cells #[.slice (some ⟨bb, ob, none⟩) m capb] 43)).cell? ⟨w.heap.size + 1, 0, none⟩ = some (.slice (some ⟨bb, ob, none⟩) m capb) := by
    rw [World.cell?_alloc_at _ _ _ _ (by simp)]; rfl
  have hbel : Below w.heap.size w ((w.alloc (.cells #[.slice (some ⟨ba, oa, none⟩) n capa] 43)).alloc (.cells #[.slice (some ⟨bb, ob, none⟩) m capb] 43)) :=
    ((Below.refl _ _).alloc (Nat.le_refl _) _).alloc (by simp) _
  have hsz : ((w.alloc (.cells #[.slice (some ⟨ba, oa, none⟩) n capa] 43)).alloc (.cells #[.slice (some ⟨bb, ob, none⟩) m capb] 43)).heap.size = w.heap.size + 2 := by simp
  generalize hw1 : (w.alloc (.cells #[.slice (some ⟨ba, oa, none⟩) n capa] 43)).alloc (.cells #[.slice (some ⟨bb, ob, none⟩) m capb] 43) = w1 at *
  clear hw1
  have ha1 := ha.below hbel
  have hb1 := hb.below hbel
  have c0 : w1.cell? ⟨ba, oa, none⟩ = some (.slice a0 m ca0) := (hbel.cell (p := ⟨ba, oa, none⟩) la).trans c0'
  have d0 : w1.cell? ⟨bb, ob, none⟩ = some (.slice b0 p cb0) := (hbel.cell (p := ⟨bb, ob, none⟩) lb).trans d0'
  clear c0' d0'
  have Hsz := Lib.hid hsz; clear hsz
  go_quiet ((go_at_call 74; first
    | exact quiet_eq (may_yes _ n m A _ (ha1.drewN _) n1 n2 m1 m2)
    | exact quiet_eq (may_yes _ m p B _ (hb1.drewN _) m1 m2 p1 p2)))
  go_wp2_with fail
  refine (new_calls _).mono ?_
  rintro e w2 ⟨rfl, hf, hb2⟩
  have ca := (hb2.cell (p := ⟨w.heap.size, 0, none⟩) (World.block_lt_of_cell? w1 _ ca)).trans ca
  have cb := (hb2.cell (p := ⟨w.heap.size + 1, 0, none⟩) (World.block_lt_of_cell? w1 _ cb)).trans cb
  have c0 := (hb2.cell (p := ⟨ba, oa, none⟩) (World.block_lt_of_cell? w1 _ c0)).trans c0
  have d0 := (hb2.cell (p := ⟨bb, ob, none⟩) (World.block_lt_of_cell? w1 _ d0)).trans d0
  have ha2 := (ha1.drewN nq).below hb2
  have hb2' := (hb1.drewN nq).below hb2
  go_wp2_with fail
  have hb3 : Below w2.heap.size w2 (w2.alloc (.cells #[.func (.func 31) #[.pointer (some ⟨w1.heap.size, 0, none⟩)] #[]] 33)) := (Below.refl _ _).alloc (Nat.le_refl _) _
  have cd : (w2.alloc (.cells #[.func (.func 31) #[.pointer (some ⟨w1.heap.size, 0, none⟩)] #[]] 33)).cell? ⟨w2.heap.size, 0, none⟩ = some (.func (.func 31) #[.pointer (some ⟨w1.heap.size, 0, none⟩)] #[]) := by simp
  generalize hw3 : w2.alloc (.cells #[.func (.func 31) #[.pointer (some ⟨w1.heap.size, 0, none⟩)] #[]] 33) = w3 at *
  clear hw3
  have ca := (hb3.cell (p := ⟨w.heap.size, 0, none⟩) (World.block_lt_of_cell? w2 _ ca)).trans ca
  have cb := (hb3.cell (p := ⟨w.heap.size + 1, 0, none⟩) (World.block_lt_of_cell? w2 _ cb)).trans cb
  have c0 := (hb3.cell (p := ⟨ba, oa, none⟩) (World.block_lt_of_cell? w2 _ c0)).trans c0
  have d0 := (hb3.cell (p := ⟨bb, ob, none⟩) (World.block_lt_of_cell? w2 _ d0)).trans d0
  have ha3 := ha2.below hb3
  have hb3' := hb2'.below hb3
  have hf3 := hf.below hb3 hf.lt
  have hbw : Below w.heap.size w w3 := by
    have s1 := hbel.size
    have s2 : w1.heap.size ≤ w2.heap.size := hb2.size
    exact (hbel.trans ((below_drewN (Below.refl _ w1) nq).mono s1)).trans ((hb2.mono s1).trans (hb3.mono (Nat.le_trans s1 s2)))
  have hsz3 : w.heap.size ≤ w3.heap.size := hbw.size
  have m0 : 0 < m := by omega
  have m0' : (0 : Int) < (m : Int) := by omega
  go_region_held3 (fun w' => w'.cell? ⟨w.heap.size, 0, none⟩ = some (.slice (some ⟨ba, oa, none⟩) n capa) ∧ w'.cell? ⟨w.heap.size + 1, 0, none⟩ = some (.slice (some ⟨bb, ob, none⟩) m capb) ∧ w'.cell? ⟨bb, ob, none⟩ = some (.slice b0 p cb0))
    (first | exact ⟨ca, cb, d0⟩ | assumption)
    (first
      | (go_at_call 75
         refine (made_calls n p (by omega) (by omega) 82 #[.pointer (some ⟨w2.heap.size, 0, none⟩), .pointer (some ⟨w.heap.size, 0, none⟩), .pointer (some ⟨w.heap.size + 1, 0, none⟩)] (MM m A B) w3.drew (fun _ _ => by kernel_rfl)
           (fun i k w' hi hk hbb => mul1_calls i k n m p w1.heap.size w2.heap.size w.heap.size (w.heap.size + 1) _ _ A B w' hi hk (by omega)
             ((hbb.cell (p := ⟨w2.heap.size, 0, none⟩) (World.block_lt_of_cell? w3 _ cd)).trans cd) ((show IsField w3.drew _ from hf3).below hbb hf3.lt)
             ((hbb.cell (p := ⟨w.heap.size, 0, none⟩) (World.block_lt_of_cell? w3 _ ca)).trans ca) ((hbb.cell (p := ⟨w.heap.size + 1, 0, none⟩) (World.block_lt_of_cell? w3 _ cb)).trans cb)
             (ha3.drew.below hbb) (hb3'.drew.below hbb))).mono ?_
         rintro e w4 ⟨X, ids, rfl, hO, hb4⟩
         have hh : w4.cell? ⟨w.heap.size, 0, none⟩ = some (.slice (some ⟨ba, oa, none⟩) n capa) ∧ w4.cell? ⟨w.heap.size + 1, 0, none⟩ = some (.slice (some ⟨bb, ob, none⟩) m capb) ∧ w4.cell? ⟨bb, ob, none⟩ = some (.slice b0 p cb0) :=
           ⟨(hb4.cell (p := ⟨w.heap.size, 0, none⟩) (World.block_lt_of_cell? w3 _ ca)).trans ca, (hb4.cell (p := ⟨w.heap.size + 1, 0, none⟩) (World.block_lt_of_cell? w3 _ cb)).trans cb, (hb4.cell (p := ⟨bb, ob, none⟩) (World.block_lt_of_cell? w3 _ d0)).trans d0⟩))
  all_goals
    go_wp2
    go_ret2
    exact ⟨X, ids, rfl, hO.mono hsz3, hbw.drew.trans (hb4.mono hsz3)⟩
end Go.Proofs.Ytdciakbichgddaa
