/- Walks of package rs: New, the pieces' columns, work, Encode, the matrix. -/
import Derived.Test.YtdciakbichgddaaRsPad
import Derived.Test.YtdciakbichgddaaMatMul
import Derived.Test.YtdciakbichgddaaMatInv
import Derived.Test.YtdciakbichgddaaMatWakes
import Derived.Deep.RegionHeld3
import Derived.Deep.DrawnRows
import Derived.Outline
namespace Go.Proofs.Ytdciakbichgddaa
open Go Go.RowKit Go.Mem Gf
attribute [local go_sem ↓] Go.wp_at_zero Go.wp_at_succ

/-- block b is a code: k of n -/
def IsCode (w : World) (b k n : Nat) : Prop := ∃ a c, Blk w b #[.int .i64 k, .int .i64 n, .slice a n c] 99 ∧ Rws w (.slice a n c) (rowsL n k (CM k))
theorem IsCode.below {w w' : World} {b k n : Nat} (h : IsCode w b k n) (hb : Below w.heap.size w w') : IsCode w' b k n := by
  obtain ⟨a, c, h1, h2⟩ := h; exact ⟨a, c, h1.kept hb, h2.below hb⟩
theorem IsCode.drewN {w : World} {b k n : Nat} (h : IsCode w b k n) (d : Nat) : IsCode (w.drewN d) b k n := h
theorem IsCode.lt {w : World} {b k n : Nat} (h : IsCode w b k n) : b < w.heap.size := by obtain ⟨a, c, h1, _⟩ := h; exact h1.lt
theorem rws_take {w : World} {a : Option Addr} {n m cap k : Nat} {F : Mx} (h : Rws w (.slice a n cap) (rowsL n m F)) (hk : k ≤ n) : Rws w (.slice a k cap) (rowsL k m F) := by
  obtain ⟨a', cap', e, h1, h2, h3⟩ := h
  rw [rowsL_len] at e h1 h3
  injection e with e1 e2 e3
  subst e1 e3
  refine ⟨a, cap, by rw [rowsL_len], by rw [rowsL_len]; omega, h2, fun hp => ?_⟩
  rw [rowsL_len] at hp
  obtain ⟨b, off, e, hc⟩ := h3 (by omega)
  refine ⟨b, off, e, fun i r hi => ?_⟩
  have hik : i < k := by
    rcases Nat.lt_or_ge i k with h | h
    · exact h
    · rw [List.getElem?_eq_none (by rw [rowsL_len]; exact h)] at hi; cases hi
  rw [rowsL_get _ _ _ _ hik] at hi
  exact hc i r (by rw [rowsL_get _ _ _ _ (by omega)]; exact hi)

set_option maxRecDepth 20000 in
set_option maxHeartbeats 1000000 in
theorem rsnew_bad (k n : Int) (h : k < 1 ∨ n < k ∨ 16 < n) (w : World) :
    Calls Try.prog 56 #[.int .i64 k, .int .i64 n] w fun e w' => e = .returned (.tuple #[.pointer none, .int .i64 1]) ∧ w = w' := by
  by_cases h1 : k < 1
  · go_enter Try.func56, Try.ntmps56
    go_wp2
    go_ret2
    exact ⟨rfl, rfl⟩
  by_cases h2 : n < k
  · go_enter Try.func56, Try.ntmps56
    go_wp2
    go_ret2
    exact ⟨rfl, rfl⟩
  · have h3 : 16 < n := by omega
    clear h
    go_enter Try.func56, Try.ntmps56
    go_wp2
    go_ret2
    exact ⟨rfl, rfl⟩

set_option maxRecDepth 20000 in
set_option maxHeartbeats 2000000 in
theorem rsnew_calls (k n : Nat) (k1 : 1 ≤ k) (hkn : k ≤ n) (n2 : n ≤ 16) (w : World) :
    Calls Try.prog 56 #[.int .i64 k, .int .i64 n] w fun e w' => ∃ b, e = .returned (.tuple #[.pointer (some ⟨b, 0, none⟩), .int .i64 0]) ∧ w.heap.size ≤ b ∧ IsCode w' b k n ∧ Below w.heap.size w w' := by
  go_enter Try.func56, Try.ntmps56
  go_wp2_with fail
  refine (vand_calls n k (by omega) n2 k1 (by omega) w).mono ?_
  rintro e w1 ⟨X, ids, rfl, hX, hb1⟩
  have hv := hX.rws (by omega) (by omega)
  have ht := rws_take hv hkn
  clear hX
  go_wp2_with fail
  refine (inverse_calls _ k Vand w1 ht k1 (by omega)).mono ?_
  rintro e w2 (⟨T, it, Y, rfl, hT, hI, hb2⟩ | ⟨rfl, hS, hb2⟩)
  · have hv := hv.below hb2
    have hy := hT.rws (by omega) (by omega)
    clear hT
    go_wp2_with fail
    refine (mmul_calls _ _ n k k Vand Y w2 hv hy (by omega) n2 k1 (by omega) k1 (by omega)).mono ?_
    rintro e w3 ⟨M, im, rfl, hM, hb3⟩
    have hm := (hM.congr (CM_of k n (by omega) hI)).rws (by omega) (by omega)
    clear hM
    have W := (Aft.trans hb1 hb2).trans hb3
    have hs := W.size
    go_wp2_with fail
    have hb4 : Below w3.heap.size w3 (w3.alloc (.cells #[.int .i64 k, .int .i64 n, .slice (some ⟨M, 0, none⟩) n n] 99)) := (Below.refl _ _).alloc (Nat.le_refl _) _
    go_ret2
    exact ⟨w3.heap.size, rfl, hs, ⟨_, _, Blk.new w3 _ _, hm.below hb4⟩, W.trans hb4⟩
  · exact absurd hS (by obtain ⟨Y, hY⟩ := vand_inv k (by omega); exact (show IsInv k Vand Y from hY).not_sing)

set_option maxRecDepth 20000 in
set_option maxHeartbeats 1000000 in
theorem rscolumn_calls (v : Value) (n m k : Nat) (F : Mx) (w : World) (h : Rws w v (rowsL n m F)) (hn : n ≤ 4096) (hk : k < m) :
    Calls Try.prog 88 #[v, .int .i64 k] w fun e w' => ∃ v', e = .returned v' ∧ Bys w' v' (rowL n (fun j => F j k)) ∧ Below w.heap.size w w' := by
  obtain ⟨a, cap, rfl⟩ := h.mat
  have hmk := fun (w : World) => make_bytes (P := Try.prog) 31 5 Try.underlying31 info8' n (by omega) w
  go_enter Try.func88, Try.ntmps88
  go_wp2_with fail
  go_loopw [13] (fun v wr => ∃ i : Nat, i ≤ n ∧ v = .int .i64 i ∧ Blk wr w.heap.size (rowArr n (fun j => if j < i then F j k else 0)) 5 ∧ Below w.heap.size w wr)
    (fun v _ => n - (intOf v).toNat)
  case atStart => exact ⟨0, by omega, rfl, by simp only [Nat.not_lt_zero, if_false]; rw [← rowArr_zero]; exact Blk.new _ _ _, (Below.refl _ _).alloc (Nat.le_refl _) _⟩
  case round =>
    obtain ⟨i, hi, rfl, hx, hbel⟩ := hrel
    by_cases h0 : i < n
    · obtain ⟨b, off, b', off', cap', rfl, c1, c2⟩ := (h.below hbel).elem i k h0 hk
      have c3 : wr.cell? ⟨w.heap.size, i, none⟩ = some (.int .u8 0) := by rw [hx.cell, rowArr_get _ _ _ h0]; simp
      have f3 := hx.free i
      go_wp2
      refine ⟨⟨i + 1, by omega, by go_num, ?_, hbel.setCell (Nat.le_refl _) _⟩, by simp [intOf]; omega⟩
      have := hx.set i (.int .u8 ((F i k).toNat : Int))
      rw [rowArr_set] at this
      rw [← rowArr_congr (m := n) (f := fun j => if j = i then F i k else if j < i then F j k else 0) (fun j _ => ?_)]
      · exact this
      · by_cases e : j = i
        · subst e; simp
        · have : (j < i + 1) = (j < i) := by simp; omega
          simp [e, this]
    · obtain rfl : i = n := by omega
      go_wp2
      go_ret
      refine ⟨_, rfl, ?_, hbel⟩
      have := hx.row (by omega)
      rw [rowL_congr (m := i) (g := fun j => F j k) (fun j hj => by simp [hj])] at this
      exact this

set_option maxRecDepth 20000 in
set_option maxHeartbeats 2000000 in
theorem work_calls (va vb : Value) (n k l : Nat) (A B : Mx) (w : World) (ha : Rws w va (rowsL n k A)) (hb : Rws w vb (rowsL k l B)) (hn : n ≤ 4096) (k1 : 1 ≤ k) (k2 : k ≤ 4096) (l2 : l ≤ 1000000) :
    Calls Try.prog 86 #[va, vb] w fun e w' => ∃ X ids, e = .returned (.slice (some ⟨X, 0, none⟩) n n) ∧ OwnM 5 31 w' w.heap.size X ids n l (MM k A B) ∧ Below w.heap.size w w' := by
  obtain ⟨aa, capa, rfl⟩ := ha.mat
  obtain ⟨ab, capb, rfl⟩ := hb.mat
  obtain ⟨bb, ob, b0, cb0, rfl, d0, _⟩ := hb.row 0 (by omega)
  have d0' : w.cell? ⟨bb, ob, none⟩ = some (.slice b0 l cb0) := d0
  have lb := World.block_lt_of_cell? w _ d0'
  dsimp only at lb
  clear d0
  have hmo := fun (w : World) => make_rows (P := Try.prog) 43 31 Try.underlying43 infoR n (by omega) w
  have hmk := fun (w : World) => make_bytes (P := Try.prog) 31 5 Try.underlying31 info8' l (by omega) w
  have k0 : 0 < k := by omega
  have k0' : (0 : Int) < (k : Int) := by omega
  go_enter Try.func86, Try.ntmps86
  go_wp2_with fail
  refine (new_calls _).mono ?_
  rintro e w1 ⟨rfl, hf, hb1⟩
  have ha := ha.below hb1
  have hb := hb.below hb1
  have d0 : w1.cell? ⟨bb, ob, none⟩ = some (.slice b0 l cb0) := (hb1.cell (p := ⟨bb, ob, none⟩) lb).trans d0'
  have lb := World.block_lt_of_cell? w1 _ d0
  dsimp only at lb
  have hs1 : w.heap.size ≤ w1.heap.size := hb1.size
  clear d0'
  go_wp2_with fail
  go_loopw [17] (fun v wr => ∃ (i : Nat) (ids : Nat → Nat), i ≤ n ∧ v = .int .i64 i ∧ OwnP 5 31 wr w1.heap.size w1.heap.size ids n i l (MM k A B) ∧ Below w1.heap.size w1 wr)
    (fun v _ => n - (intOf v).toNat)
  case atStart => exact ⟨0, _, by omega, rfl, OwnP.start w1 n l _ _ _, (Below.refl _ _).alloc (Nat.le_refl _) _⟩
  case round =>
    obtain ⟨i, ids, hi, rfl, hP, hbel⟩ := hrel
    by_cases h0 : i < n
    · have c0 : wr.cell? ⟨w1.heap.size, i, none⟩ = some (.slice none 0 0) := hP.nilAt i (Nat.le_refl _) h0
      have f0 : wr.frozen? ⟨w1.heap.size, i, none⟩ = false := hP.freeX i
      have hlt := hP.lt.1
      have d1 : wr.cell? ⟨bb, ob, none⟩ = some (.slice b0 l cb0) := (hbel.cell (p := ⟨bb, ob, none⟩) lb).trans d0
      obtain ⟨ba, oa, ai, cai, rfl, c1w, hrow⟩ := ha.row i h0
      have c1 : wr.cell? ⟨ba, oa + i, none⟩ = some (.slice ai k cai) := (hbel.cell (p := ⟨ba, oa + i, none⟩) (World.block_lt_of_cell? w1 _ c1w)).trans c1w
      go_wp2_with fail
      obtain ⟨wo, hwo⟩ : ∃ wo, wo = wr := ⟨_, rfl⟩
      rw [← hwo] at hP hbel hlt c0 f0 c1 ⊢
      clear hwo d1
      have hP1 := hP.push' h0 (fun _ => 0)
      rw [← rowArr_zero] at hP1
      have hb1' : Below w1.heap.size w1 ((wo.setCell ⟨w1.heap.size, i, none⟩ (rowV l wo.heap.size)).alloc (.cells (Array.replicate l (.int .u8 0)) 5)) :=
        (hbel.setCell (Nat.le_refl _) _).alloc (by simp; omega) _
      unfold rowV at hP1 hb1'
      clear c1 c1w c0 f0
      go_loopw [35] (fun v wi => ∃ x : Nat, x ≤ l ∧ v = .int .i64 x ∧ OwnP 5 31 wi w1.heap.size w1.heap.size (fun j => if j = i then wo.heap.size else ids j) n (i + 1) l (fun a b => if a = i then (if b < x then MM k A B i b else 0) else MM k A B a b) ∧ Below w1.heap.size w1 wi)
        (fun v _ => l - (intOf v).toNat)
      case atStart => exact ⟨0, by omega, rfl, hP1.congr (fun a _ b _ => by by_cases e : a = i <;> simp [e]), hb1'⟩
      case round =>
        clear hP1 hb1'
        obtain ⟨x, hx, rfl, hPi, hbi⟩ := hrel
        have c1 := hPi.ptr i (by omega)
        simp only [if_true] at c1
        by_cases hxl : x < l
        · have hR0 : w1.heap.size ≤ wo.heap.size := by omega
          have hne : (⟨wo.heap.size, x, none⟩ : Addr) ≠ ⟨w1.heap.size, i, none⟩ := fun e => by injection e with e1; omega
          have hb3 := hb.below hbi
          have hrow3 := hrow.below hbi
          have hf3 := hf.below hbi hf.lt
          have Hsz := hbi.size
          go_wp2_with fail
          go_region_held3 (fun w' => w'.cell? ⟨w1.heap.size, i, none⟩ = some (.slice (some ⟨wo.heap.size, 0, none⟩) l l)) (first | exact c1 | assumption | (rw [World.cell?_setCell_other _ _ _ _ hne]; assumption))
            (first
              | (go_at_call 88
                 refine (rscolumn_calls _ k l x B _ hb3.drew (by omega) hxl).mono ?_
                 rintro e x1 ⟨vc, rfl, hvc, hx1⟩
                 have hx1 : Below wr.heap.size wr x1 := of_drew_base hx1 rfl
                 have hP2 := hPi.below hx1
                 have hrow4 := hrow3.below hx1
                 have hf4 := hf3.below hx1 hf3.lt
                 have c1 := hP2.ptr i (by omega)
                 simp only [if_true] at c1
                 have c3 := hP2.cell i x (by omega) hxl
                 simp only [if_true] at c3
                 have f3 := hP2.free i x (by omega)
                 simp only [if_true] at f3)
              | (go_at_call 31
                 refine (fdot_calls _ _ _ _ _ _ hf4 hrow4 hvc).mono ?_
                 rintro e x2 ⟨rfl, d, rfl⟩
                 rw [gdot_rowL, show dotf k (A i) (fun j => B j x) = MM k A B i x from rfl]))
          go_wp2
          refine ⟨⟨x + 1, by omega, by go_num, ?_, ?_⟩, by simp [intOf]; omega⟩
          · have h3 := (hP2.drewN d).set (j := i) (k := x) (by omega) (MM k A B i x)
            simp only [if_true] at h3
            refine h3.congr fun a _ b _ => ?_
            by_cases e1 : a = i
            · subst e1
              by_cases e2 : b = x
              · subst e2; simp
              · have : (b < x + 1) = (b < x) := by simp; omega
                simp [e2, this]
            · simp [e1]
          · exact (below_drewN (hbi.trans (hx1.mono Hsz)) d).setCell hR0 _
        · obtain rfl : x = l := by omega
          go_wp2
          refine ⟨⟨i + 1, _, by omega, by go_num, hPi.congr fun a ha b hb => ?_, hbi⟩, by simp [intOf]; omega⟩
          by_cases e1 : a = i
          · subst e1; simp [hb]
          · simp [e1]
    · obtain rfl : i = n := by omega
      go_wp2
      go_ret
      exact ⟨_, _, rfl, hP.done.mono hs1, Aft.trans hb1 hbel⟩
end Go.Proofs.Ytdciakbichgddaa
