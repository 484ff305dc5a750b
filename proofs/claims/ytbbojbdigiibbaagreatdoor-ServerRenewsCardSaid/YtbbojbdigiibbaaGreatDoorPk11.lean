/- Texts of this proof, packed: LeaHeap, LeaUp, LeaDown, LeaPush, LeaPop, LeaRemove, SortMath. -/
import Derived.Test.YtbbojbdigiibbaaGreatDoorPk10
import Derived.Deep.RegionHeld3
import Derived.Handy
import Derived.Test.YtbbojbdigiibbaaGreatDoorPk04
import Derived.Lib.Hide
section
namespace Go.Proofs.YtbbojbdigiibbaaGreatDoor
open Go Go.RowKit Go.Mem Gf Lea
attribute [local go_sem ↓] Go.wp_at_zero Go.wp_at_succ
set_option maxRecDepth 100000 in
theorem elen_calls (a : Option Addr) (n cap : Nat) (w : World) : Calls Tryz.prog 274 #[.slice a n cap] w fun e w' => e = .returned (.int .i64 n) ∧ w = w' := by
  go_enter Tryz.func274, Tryz.ntmps274
  go_wp2
  go_ret
  exact ⟨rfl, rfl⟩
set_option maxRecDepth 100000 in
theorem eless_calls (base g n cap : Nat) (l : List Les) (i j : Nat) (x y : Les) (w : World) (h : Row 175 w base g n cap l) (hx : l[i]? = some x) (hy : l[j]? = some y) :
    Calls Tryz.prog 275 #[.slice (some ⟨g, 0, none⟩) n cap, .int .i64 i, .int .i64 j] w fun e w' => e = .returned (.bool (decide (x.e < y.e))) ∧ ∃ d, w' = w.drewN d := by
  have hi : i < n := by
    rw [h.len]
    rcases Nat.lt_or_ge i l.length with h | h
    · exact h
    · rw [List.getElem?_eq_none h] at hx; cases hx
  have hj : j < n := by
    rw [h.len]
    rcases Nat.lt_or_ge j l.length with h | h
    · exact h
    · rw [List.getElem?_eq_none h] at hy; cases hy
  have c1 := h.ends hx
  have c2 := h.ends hy
  have i0 : (0 : Int) ≤ (i : Int) := by omega
  have i1 : (i : Int) < (n : Int) := by omega
  have j0 : (0 : Int) ≤ (j : Int) := by omega
  have j1 : (j : Int) < (n : Int) := by omega
  clear h hx hy
  go_enter Tryz.func275, Tryz.ntmps275
  go_wp2_with fail
  go_quiet (fail)
  go_wp2
  go_ret
  exact ⟨rfl, _, rfl⟩
theorem i33 : (Tryz.prog.info? 175).map (·.size) = some 33 := by kernel_rfl
theorem load_item (dst : Option Tmp) (x : Operand) (ty : TypeId) (pos : String) (af : Array Edge) (a : Act) (w : World) (K : Act → World → Prop) (Q : Exit → Act → World → Prop)
    (hp : ptrIs (a.eval x) = true) (ht : HasK 33 w (ptrB (a.eval x)) (ptrO (a.eval x))) :
    Oper.wp Tryz.prog ⟨dst, .load 175 x, ty, pos, af, none⟩ a w K Q = K (a.put dst (.agg (readK 33 w (ptrB (a.eval x)) (ptrO (a.eval x))).toArray)) w :=
  wp_loadK Tryz.underlying175 rfl i33 dst x ty pos af a w K Q hp ht
theorem store_item (dst : Option Tmp) (x y : Operand) (ty : TypeId) (pos : String) (af : Array Edge) (a : Act) (w : World) (K : Act → World → Prop) (Q : Exit → Act → World → Prop)
    (hp : ptrIs (a.eval x) = true) (hy : aggIs (a.eval y) = true) (ht : HasK 33 w (ptrB (a.eval x)) (ptrO (a.eval x))) (hc : AllK 33 (aggL (a.eval y))) :
    Oper.wp Tryz.prog ⟨dst, .store 175 x y, ty, pos, af, none⟩ a w K Q = K (a.put dst undef) (w.setCells (ptrB (a.eval x)) (ptrO (a.eval x)) (aggL (a.eval y))) :=
  wp_storeK i33 dst x y ty pos af a w K Q hp hy ht hc
attribute [local go_sem ↓] load_item store_item
attribute [local go_sem] ptrB_eq ptrO_eq ptrIs_eq aggL_eq aggIs_eq
theorem allI_cells {x : Les} (h : Wf x) : AllK 33 (cellsI x) := ⟨cellsI_len h, one_cellsI x⟩
set_option maxRecDepth 100000 in
set_option maxHeartbeats 1000000 in
theorem eswap_calls (base g n cap : Nat) (l : List Les) (i j : Nat) (x y : Les) (w : World) (h : Row 175 w base g n cap l) (hx : l[i]? = some x) (hy : l[j]? = some y) :
    Calls Tryz.prog 276 #[.slice (some ⟨g, 0, none⟩) n cap, .int .i64 i, .int .i64 j] w fun e w' => e = .returned (.tuple #[]) ∧ Row 175 w' base g n cap (swap l i j) ∧ Chg (fun b => b = g) w w' := by
  have hi : i < n := by
    rw [h.len]
    rcases Nat.lt_or_ge i l.length with h | h
    · exact h
    · rw [List.getElem?_eq_none h] at hx; cases hx
  have hj : j < n := by
    rw [h.len]
    rcases Nat.lt_or_ge j l.length with h | h
    · exact h
    · rw [List.getElem?_eq_none h] at hy; cases hy
  have hwx := h.wf x (List.mem_of_getElem? hx)
  have hwy := h.wf y (List.mem_of_getElem? hy)
  have i0 : (0 : Int) ≤ (i : Int) := by omega
  have i1 : (i : Int) < (n : Int) := by omega
  have j0 : (0 : Int) ≤ (j : Int) := by omega
  have j1 : (j : Int) < (n : Int) := by omega
  obtain ⟨wd, hwd⟩ : ∃ wd, wd = w.drew := ⟨_, rfl⟩
  have h0 : Row 175 wd base g n cap l := by rw [hwd]; exact h.drew
  have rx : readK 33 w.drew g (i * 33) = cellsI x := readK_eq (h.drew.range hx) (cellsI_len hwx)
  have ry : readK 33 w.drew g (j * 33) = cellsI y := readK_eq (h.drew.range hy) (cellsI_len hwy)
  have t1 : HasK 33 w.drew g (i * 33) := h.drew.there hi
  have t1' : HasK 33 w.drew g (j * 33) := h.drew.there hj
  have h1 := h.drew.set hi hwy
  have ax := allI_cells hwx
  have ay := allI_cells hwy
  have h2 := Lib.hid (h1.set hj hwx)
  have hsw : swap l i j = (l.set i y).set j x := by unfold swap; rw [hx, hy]
  have hc : Chg (fun b => b = g) w ((w.drew.setCells g (i * 33) (cellsI y)).setCells g (j * 33) (cellsI x)) := Chg.setCells (S := fun b => b = g) (L := g) rfl _ _ _ (Chg.setCells (S := fun b => b = g) (L := g) rfl _ _ _ (Chg.drew (Chg.refl _ _)))
  have HC := Lib.hid hc; have HSW := Lib.hid hsw
  obtain ⟨cx, hcx⟩ : ∃ c, c = cellsI x := ⟨_, rfl⟩
  obtain ⟨cy, hcy⟩ : ∃ c, c = cellsI y := ⟨_, rfl⟩
  have t2 : HasK 33 (w.drew.setCells g (i * 33) cy) g (j * 33) := by rw [hcy]; exact h1.there hj
  have ex : cellsI x = cx := hcx.symm
  have ey : cellsI y = cy := hcy.symm
  rw [← hcx] at rx ax
  rw [← hcy] at ry ay
  rw [ex, ey] at h2 HC
  clear h h1 hx hy hwx hwy hc hsw hcx hcy ex ey h0 hwd
  go_enter Tryz.func276, Tryz.ntmps276
  go_wp2_with fail
  go_region
  all_goals
    go_wp2
    go_end0
    rw [HSW.out]
    exact ⟨rfl, h2.out, HC.out⟩
structure LTab (w : World) (tb : Nat) (v : Value) (l : List Les) : Prop where
  cell : Blk w tb #[v] 156
  own : w.ownsRow 0 175 33 v l.length (itemsV l)
  wf : ∀ x ∈ l, Wf x
  apart : v.ownBlock ≠ some tb
theorem LTab.ex {w : World} {tb : Nat} {v : Value} {l : List Les} (h : LTab w tb v l) (h0 : 0 < l.length) : ∃ g cap, v = .slice (some ⟨g, 0, none⟩) l.length cap ∧ Row 175 w 0 g l.length cap l := by
  rcases h.own.2 with ⟨e, e2⟩ | ⟨g, cap, cur, e, hr⟩
  · exact absurd e2 (by simp at e2; omega)
  · exact ⟨g, cap, e, ⟨by rw [← e]; exact h.own, rfl, h.wf⟩⟩
end Go.Proofs.YtbbojbdigiibbaaGreatDoor
end
section
namespace Go.Proofs.YtbbojbdigiibbaaGreatDoor
open Go Go.RowKit Go.Mem Gf Lea
attribute [local go_sem ↓] Go.wp_at_zero Go.wp_at_succ
def hv (tb : Nat) : Value := .iface 177 (.pointer (some ⟨tb, 0, none⟩))
theorem meth_less (n : Nat) (tb : Nat) (w : World) : (method (n + 1) 177 (.pointer (some ⟨tb, 0, none⟩)) "Less").run Tryz.prog w = (loadVar 154 ⟨tb, 0, none⟩ >>= fun v => pure (275, v)).run Tryz.prog w := by kernel_rfl
theorem meth_swap (n : Nat) (tb : Nat) (w : World) : (method (n + 1) 177 (.pointer (some ⟨tb, 0, none⟩)) "Swap").run Tryz.prog w = (loadVar 154 ⟨tb, 0, none⟩ >>= fun v => pure (276, v)).run Tryz.prog w := by kernel_rfl
theorem meth_len (n : Nat) (tb : Nat) (w : World) : (method (n + 1) 177 (.pointer (some ⟨tb, 0, none⟩)) "Len").run Tryz.prog w = (loadVar 154 ⟨tb, 0, none⟩ >>= fun v => pure (274, v)).run Tryz.prog w := by kernel_rfl
theorem meth_push (n : Nat) (tb : Nat) (w : World) : (method (n + 1) 177 (.pointer (some ⟨tb, 0, none⟩)) "Push").run Tryz.prog w = .ok (278, .pointer (some ⟨tb, 0, none⟩)) w := by kernel_rfl
theorem meth_pop (n : Nat) (tb : Nat) (w : World) : (method (n + 1) 177 (.pointer (some ⟨tb, 0, none⟩)) "Pop").run Tryz.prog w = .ok (277, .pointer (some ⟨tb, 0, none⟩)) w := by kernel_rfl
attribute [local go_sem] meth_less meth_swap meth_len meth_push meth_pop
theorem LTab.drewN {w : World} {tb : Nat} {v : Value} {l : List Les} (h : LTab w tb v l) (d : Nat) : LTab (w.drewN d) tb v l := ⟨h.cell, h.own, h.wf, h.apart⟩
theorem LTab.theRow {w : World} {tb g n cap : Nat} {l : List Les} (h : LTab w tb (.slice (some ⟨g, 0, none⟩) n cap) l) (hn : l.length = n) : Row 175 w 0 g n cap l := by
  subst hn
  exact ⟨h.own, rfl, h.wf⟩
theorem LTab.row' {w w' : World} {tb g n cap : Nat} {l l' : List Les} (h : LTab w tb (.slice (some ⟨g, 0, none⟩) n cap) l) (_ : l.length = n) (hr : Row 175 w' 0 g n cap l') (hc : Chg (fun b => b = g) w w') : LTab w' tb (.slice (some ⟨g, 0, none⟩) n cap) l' := by
  have hl := hr.len
  refine ⟨hc.blk h.cell (fun e => h.apart (by rw [e]; rfl)), ?_, hr.wf, h.apart⟩
  rw [← hl]
  exact hr.own
set_option maxRecDepth 100000 in
set_option maxHeartbeats 1000000 in
theorem up_calls (w : World) (tb g cap : Nat) (l : List Les) (j n n0 : Nat) (hn : l.length = n0) (h : LTab w tb (.slice (some ⟨g, 0, none⟩) n0 cap) l) (hl : n0 ≤ 1000000) (hnn : n ≤ n0) (hj : j < n)
    (hinv : ∀ c, 0 < c → c < n → c ≠ j → Rim l c) (hg : Grand l j n) :
    Calls Tryz.prog 190 #[hv tb, .int .i64 j] w fun e w' => e = .returned (.tuple #[]) ∧ ∃ l', LTab w' tb (.slice (some ⟨g, 0, none⟩) n0 cap) l' ∧ l'.Perm l ∧ HeapN l' n ∧ (∀ q, n ≤ q → l'[q]? = l[q]?) ∧ Chg (fun b => b = g) w w' := by
  have H0 := Lib.hid (And.intro hn (And.intro h (And.intro hinv hg)))
  clear h hinv hg hn
  unfold hv
  go_enter Tryz.func190, Tryz.ntmps190
  go_wp2_with fail
  go_loopw [1] (fun v wr => ∃ (k : Nat) (m : List Les), k < n ∧ v = .int .i64 k ∧ Hid (m.length = n0 ∧ LTab wr tb (.slice (some ⟨g, 0, none⟩) n0 cap) m ∧ m.Perm l ∧ (∀ c, 0 < c → c < n → c ≠ k → Rim m c) ∧ Grand m k n ∧ (∀ q, n ≤ q → m[q]? = l[q]?) ∧ Chg (fun b => b = g) w wr)) (fun v _ => (intOf v).toNat)
  case atStart => exact ⟨j, l, hj, rfl, H0.out.1, H0.out.2.1, List.Perm.refl _, H0.out.2.2.1, H0.out.2.2.2, fun _ _ => rfl, Chg.refl _ _⟩
  case round =>
    obtain ⟨k, m, hk, rfl, H⟩ := hrel
    rename_i wr
    have hc : wr.cell? ⟨tb, 0, none⟩ = some (.slice (some ⟨g, 0, none⟩) n0 cap) := by simpa using H.out.2.1.cell.cell 0
    by_cases hk0 : k = 0
    · subst hk0
      have HE : Hid (HeapN m n) := up_end H.out.2.2.2.1 (fun x y h => by omega)
      go_wp2_with fail
      go_wp2
      go_end0
      exact ⟨rfl, m, H.out.2.1, H.out.2.2.1, HE.out, H.out.2.2.2.2.2.1, H.out.2.2.2.2.2.2⟩
    · obtain ⟨i, hi⟩ : ∃ i, i = (k - 1) / 2 := ⟨_, rfl⟩
      have hik : i < k := by omega
      have e1 : ((k : Int) - 1).tdiv 2 = (i : Int) := by
        rw [show ((k : Int) - 1) = ((k - 1 : Nat) : Int) from by omega, hi]
        exact (Int.ofNat_tdiv _ _).symm
      have e2 : ((i : Int) == (k : Int)) = false := by simp; omega
      have e3 : ¬ ((i : Int) = (k : Int)) := by omega
      have hx : m[i]? = some (m[i]'(by have := H.out.1; omega)) := by simp
      have hy : m[k]? = some (m[k]'(by have := H.out.1; omega)) := by simp
      generalize m[i]'(by have := H.out.1; omega) = x at hx
      generalize m[k]'(by have := H.out.1; omega) = y at hy
      have HX := Lib.hid (And.intro hx hy)
      have HI := Lib.hid hi
      clear hx hy hi
      go_wp2_with fail
      refine (eless_calls 0 g n0 cap m k i y x wr (LTab.theRow H.out.2.1 H.out.1) HX.out.2 HX.out.1).mono ?_
      rintro e w' ⟨rfl, d, rfl⟩
      by_cases hlt : y.e < x.e
      · rw [decide_eq_true hlt]
        go_wp2_with fail
        refine (eswap_calls 0 g n0 cap m i k x y (wr.drewN d) (LTab.theRow (H.out.2.1.drewN d) H.out.1) HX.out.1 HX.out.2).mono ?_
        rintro e w' ⟨rfl, hrow, hchg⟩
        have HN : Hid ((swap m i k).length = n0 ∧ LTab w' tb (.slice (some ⟨g, 0, none⟩) n0 cap) (swap m i k) ∧ (swap m i k).Perm l ∧ (∀ c, 0 < c → c < n → c ≠ i → Rim (swap m i k) c) ∧ Grand (swap m i k) i n ∧ (∀ q, n ≤ q → (swap m i k)[q]? = l[q]?) ∧ Chg (fun b => b = g) w w') := by
          have hs := up_step (by omega) hk HI.out HX.out.1 HX.out.2 hlt H.out.2.2.2.1 H.out.2.2.2.2.1
          have hl2 : (swap m i k).length = n0 := by rw [swap_len]; exact H.out.1
          exact ⟨hl2, (H.out.2.1.drewN d).row' H.out.1 hrow hchg, (swap_perm m i k).trans H.out.2.2.1, hs.1, hs.2, fun q hq => by rw [swap_get HX.out.1 HX.out.2, if_neg (by omega), if_neg (by omega)]; exact H.out.2.2.2.2.2.1 q hq, (H.out.2.2.2.2.2.2.drewN d).trans hchg⟩
        clear hrow hchg H hc
        go_wp2_with fail
        exact ⟨⟨i, swap m i k, by omega, rfl, HN⟩, by simp [intOf]; omega⟩
      · rw [decide_eq_false hlt]
        have HE : Hid (HeapN m n) := up_end H.out.2.2.2.1 (fun a b h0 h1 ha hb => by
          rw [← HI.out, HX.out.1] at ha; rw [HX.out.2] at hb
          cases ha; cases hb
          omega)
        go_wp2_with fail
        go_end0
        exact ⟨rfl, m, H.out.2.1.drewN d, H.out.2.2.1, HE.out, H.out.2.2.2.2.2.1, H.out.2.2.2.2.2.2.drewN d⟩
end Go.Proofs.YtbbojbdigiibbaaGreatDoor
end
section
namespace Go.Proofs.YtbbojbdigiibbaaGreatDoor
open Go Go.RowKit Go.Mem Gf Lea
attribute [local go_sem ↓] Go.wp_at_zero Go.wp_at_succ
attribute [local go_sem] meth_less meth_swap meth_len meth_push meth_pop
theorem LTab.rd {w w' : World} {tb : Nat} {v : Value} {l : List Les} (h : LTab w tb v l) (hd : ∃ d, w' = w.drewN d) : LTab w' tb v l := by
  obtain ⟨d, rfl⟩ := hd
  exact h.drewN d
theorem chg_rd {S : Nat → Prop} {w w' w'' : World} (h : Chg S w w') (hd : ∃ d, w'' = w'.drewN d) : Chg S w w'' := by
  obtain ⟨d, rfl⟩ := hd
  exact h.drewN d
set_option maxRecDepth 100000 in
set_option maxHeartbeats 4000000 in
theorem down_calls (w : World) (tb g cap : Nat) (l : List Les) (i0 n n0 : Nat) (hlen : l.length = n0) (h : LTab w tb (.slice (some ⟨g, 0, none⟩) n0 cap) l) (hl : n0 ≤ 1000000) (hn : n ≤ n0) (hi : i0 < n0)
    (hinv : ∀ c, 0 < c → c < n → (c - 1) / 2 ≠ i0 → c ≠ i0 → Rim l c) (hg : Grand l i0 n) :
    Calls Tryz.prog 156 #[hv tb, .int .i64 i0, .int .i64 n] w fun e w' => ∃ b : Bool, e = .returned (.bool b) ∧ ∃ l', LTab w' tb (.slice (some ⟨g, 0, none⟩) n0 cap) l' ∧ l'.Perm l ∧ (∀ q, n ≤ q → l'[q]? = l[q]?) ∧ Chg (fun b => b = g) w w' ∧
      (b = true → HeapN l' n) ∧ (b = false → l' = l ∧ ∀ c, 0 < c → c < n → c ≠ i0 → Rim l c) := by
  have H0 : Hid (DInv n0 n i0 l l i0 ∧ LTab w tb (.slice (some ⟨g, 0, none⟩) n0 cap) l) := ⟨⟨hlen, List.Perm.refl _, fun _ _ => rfl, fun c h1 h2 h3 h4 => hinv c h1 h2 h3 (by omega), hg, Nat.le_refl _, fun _ => rfl⟩, h⟩
  clear h hinv hg hlen
  unfold hv
  go_enter Tryz.func156, Tryz.ntmps156
  go_wp2_with fail
  go_loopw [7] (fun v wr => ∃ (k : Nat) (m : List Les), k < n0 ∧ v = .int .i64 k ∧ Hid (DInv n0 n i0 l m k ∧ LTab wr tb (.slice (some ⟨g, 0, none⟩) n0 cap) m ∧ Chg (fun b => b = g) w wr)) (fun v _ => n0 - (intOf v).toNat)
  case atStart => exact ⟨i0, l, hi, rfl, H0.out.1, H0.out.2, Chg.refl _ _⟩
  case round =>
    obtain ⟨k, m, hk, rfl, H⟩ := hrel
    rename_i wr
    have hc : wr.cell? ⟨tb, 0, none⟩ = some (.slice (some ⟨g, 0, none⟩) n0 cap) := by simpa using H.out.2.1.cell.cell 0
    have HX0 : Hid (m[k]? = some (m[k]'(by have := H.out.1.len; omega))) := by have := H.out.1.len; exact (by simp : m[k]? = some m[k])
    generalize m[k]'(by have := H.out.1.len; omega) = x at HX0
    have HX := HX0
    obtain ⟨j1, hj1'⟩ : ∃ j, j = 2 * k + 1 := ⟨_, rfl⟩
    obtain ⟨j2, hj2'⟩ : ∃ j, j = 2 * k + 2 := ⟨_, rfl⟩
    have HJ1 := Lib.hid hj1'
    have HJ2 := Lib.hid hj2'
    have c1 : (2 : Int) * (k : Int) + 1 = (j1 : Int) := by omega
    have c2 : (j1 : Int) + 1 = (j2 : Int) := by omega
    have b1 : k < j1 := by omega
    have b2 : j1 < j2 := by omega
    clear hj1' hj2'
    by_cases hj1 : n ≤ j1
    · have HE := Lib.hid (H.out.1.stop HX.out (fun c z h1 h2 h3 h4 => by have := HJ1.out; omega))
      have d1 : decide ((n : Int) ≤ (j1 : Int)) = true := by simp; omega
      go_wp2_with fail
      go_ret
      exact ⟨decide (i0 < k), rfl, m, H.out.2.1, H.out.1.perm, H.out.1.tail, H.out.2.2, fun e => HE.out.1 (of_decide_eq_true e), fun e => HE.out.2 (of_decide_eq_false e)⟩
    · have hjn : j1 < n := by omega
      have HA : Hid (m[j1]? = some (m[j1]'(by have := H.out.1.len; omega))) := by have := H.out.1.len; exact (by simp : m[j1]? = some m[j1])
      generalize m[j1]'(by have := H.out.1.len; omega) = a at HA
      clear hj1 HX0
      by_cases hj2 : j2 < n
      · have hb1 : m[j2]? = some (m[j2]'(by have := H.out.1.len; omega)) := by have := H.out.1.len; exact (by simp : m[j2]? = some m[j2])
        generalize m[j2]'(by have := H.out.1.len; omega) = b at hb1
        have HB := Lib.hid hb1
        clear hb1
        go_wp2_with fail
        refine (eless_calls 0 g n0 cap m j2 j1 b a wr (LTab.theRow H.out.2.1 H.out.1.len) HB.out HA.out).mono ?_
        rintro e w1 ⟨rfl, hd1⟩
        have T1 := Lib.hid (H.out.2.1.rd hd1)
        have C1 := Lib.hid (chg_rd H.out.2.2 hd1)
        have hc1 : w1.cell? ⟨tb, 0, none⟩ = some (.slice (some ⟨g, 0, none⟩) n0 cap) := by simpa using T1.out.cell.cell 0
        clear hd1
        by_cases hba : b.e < a.e
        · rw [decide_eq_true hba]
          have HM : Hid (∀ c z, 0 < c → c < n → (c - 1) / 2 = k → m[c]? = some z → b.e ≤ z.e) := min_right (a := a) (by rw [← HJ1.out]; exact HA.out) (by rw [← HJ2.out]; exact HB.out) hba
          have HY := HB
          generalize hbb : b = y at *
          have hj : Hid (j2 = 2 * k + 1 ∨ j2 = 2 * k + 2) := .inr HJ2.out
          go_wp2_with fail
          refine (eless_calls 0 g n0 cap m j2 k y x w1 (LTab.theRow T1.out H.out.1.len) HY.out HX.out).mono ?_
          rintro e w2 ⟨rfl, hd2⟩
          have T2 := Lib.hid (LTab.rd T1.out hd2)
          have C2 := Lib.hid (chg_rd C1.out hd2)
          have hc2 : w2.cell? ⟨tb, 0, none⟩ = some (.slice (some ⟨g, 0, none⟩) n0 cap) := by simpa using T2.out.cell.cell 0
          clear hd2
          by_cases hlt : y.e < x.e
          · rw [decide_eq_true hlt]
            go_wp2_with fail
            refine (eswap_calls 0 g n0 cap m k j2 x y _ (LTab.theRow T2.out H.out.1.len) HX.out HY.out).mono ?_
            rintro e w' ⟨rfl, hrow, hchg⟩
            have HN : Hid (DInv n0 n i0 l (swap m k j2) j2 ∧ LTab w' tb (.slice (some ⟨g, 0, none⟩) n0 cap) (swap m k j2) ∧ Chg (fun b => b = g) w w') :=
              ⟨H.out.1.step hj.out (by omega) HX.out HY.out hlt HM.out, T2.out.row' H.out.1.len hrow hchg, C2.out.trans hchg⟩
            clear hrow hchg H
            go_wp2_with fail
            exact ⟨⟨j2, swap m k j2, by omega, rfl, HN⟩, by simp [intOf]; omega⟩
          · rw [decide_eq_false hlt]
            have HE := Lib.hid (H.out.1.stop HX.out (fun c z h1 h2 h3 h4 => by have := HM.out c z h1 h2 h3 h4; omega))
            go_wp2_with fail
            go_ret
            exact ⟨decide (i0 < k), rfl, m, T2.out, H.out.1.perm, H.out.1.tail, C2.out, fun e => HE.out.1 (of_decide_eq_true e), fun e => HE.out.2 (of_decide_eq_false e)⟩
        · rw [decide_eq_false hba]
          have HM : Hid (∀ c z, 0 < c → c < n → (c - 1) / 2 = k → m[c]? = some z → a.e ≤ z.e) := min_left (by rw [← HJ1.out]; exact HA.out) (fun b' _ hb' => by rw [← HJ2.out, HB.out] at hb'; cases hb'; exact hba)
          have HY := HA
          generalize hbb : a = y at *
          have hj : Hid (j1 = 2 * k + 1 ∨ j1 = 2 * k + 2) := .inl HJ1.out
          go_wp2_with fail
          refine (eless_calls 0 g n0 cap m j1 k y x w1 (LTab.theRow T1.out H.out.1.len) HY.out HX.out).mono ?_
          rintro e w2 ⟨rfl, hd2⟩
          have T2 := Lib.hid (LTab.rd T1.out hd2)
          have C2 := Lib.hid (chg_rd C1.out hd2)
          have hc2 : w2.cell? ⟨tb, 0, none⟩ = some (.slice (some ⟨g, 0, none⟩) n0 cap) := by simpa using T2.out.cell.cell 0
          clear hd2
          by_cases hlt : y.e < x.e
          · rw [decide_eq_true hlt]
            go_wp2_with fail
            refine (eswap_calls 0 g n0 cap m k j1 x y _ (LTab.theRow T2.out H.out.1.len) HX.out HY.out).mono ?_
            rintro e w' ⟨rfl, hrow, hchg⟩
            have HN : Hid (DInv n0 n i0 l (swap m k j1) j1 ∧ LTab w' tb (.slice (some ⟨g, 0, none⟩) n0 cap) (swap m k j1) ∧ Chg (fun b => b = g) w w') :=
              ⟨H.out.1.step hj.out (by omega) HX.out HY.out hlt HM.out, T2.out.row' H.out.1.len hrow hchg, C2.out.trans hchg⟩
            clear hrow hchg H
            go_wp2_with fail
            exact ⟨⟨j1, swap m k j1, by omega, rfl, HN⟩, by simp [intOf]; omega⟩
          · rw [decide_eq_false hlt]
            have HE := Lib.hid (H.out.1.stop HX.out (fun c z h1 h2 h3 h4 => by have := HM.out c z h1 h2 h3 h4; omega))
            go_wp2_with fail
            go_ret
            exact ⟨decide (i0 < k), rfl, m, T2.out, H.out.1.perm, H.out.1.tail, C2.out, fun e => HE.out.1 (of_decide_eq_true e), fun e => HE.out.2 (of_decide_eq_false e)⟩
      · have HM : Hid (∀ c z, 0 < c → c < n → (c - 1) / 2 = k → m[c]? = some z → a.e ≤ z.e) := min_left (by rw [← HJ1.out]; exact HA.out) (fun b' h _ => by have := HJ2.out; omega)
        have HY := HA
        generalize hbb : a = y at *
        have hj : Hid (j1 = 2 * k + 1 ∨ j1 = 2 * k + 2) := .inl HJ1.out
        go_wp2_with fail
        refine (eless_calls 0 g n0 cap m j1 k y x wr (LTab.theRow H.out.2.1 H.out.1.len) HY.out HX.out).mono ?_
        rintro e w2 ⟨rfl, hd2⟩
        have T2 := Lib.hid (LTab.rd H.out.2.1 hd2)
        have C2 := Lib.hid (chg_rd H.out.2.2 hd2)
        have hc2 : w2.cell? ⟨tb, 0, none⟩ = some (.slice (some ⟨g, 0, none⟩) n0 cap) := by simpa using T2.out.cell.cell 0
        clear hd2
        by_cases hlt : y.e < x.e
        · rw [decide_eq_true hlt]
          go_wp2_with fail
          refine (eswap_calls 0 g n0 cap m k j1 x y _ (LTab.theRow T2.out H.out.1.len) HX.out HY.out).mono ?_
          rintro e w' ⟨rfl, hrow, hchg⟩
          have HN : Hid (DInv n0 n i0 l (swap m k j1) j1 ∧ LTab w' tb (.slice (some ⟨g, 0, none⟩) n0 cap) (swap m k j1) ∧ Chg (fun b => b = g) w w') :=
            ⟨H.out.1.step hj.out (by omega) HX.out HY.out hlt HM.out, T2.out.row' H.out.1.len hrow hchg, C2.out.trans hchg⟩
          clear hrow hchg H
          go_wp2_with fail
          exact ⟨⟨j1, swap m k j1, by omega, rfl, HN⟩, by simp [intOf]; omega⟩
        · rw [decide_eq_false hlt]
          have HE := Lib.hid (H.out.1.stop HX.out (fun c z h1 h2 h3 h4 => by have := HM.out c z h1 h2 h3 h4; omega))
          go_wp2_with fail
          go_ret
          exact ⟨decide (i0 < k), rfl, m, T2.out, H.out.1.perm, H.out.1.tail, C2.out, fun e => HE.out.1 (of_decide_eq_true e), fun e => HE.out.2 (of_decide_eq_false e)⟩
end Go.Proofs.YtbbojbdigiibbaaGreatDoor
end
section
namespace Go.Proofs.YtbbojbdigiibbaaGreatDoor
open Go Go.RowKit Go.Mem Gf Lea
attribute [local go_sem ↓] Go.wp_at_zero Go.wp_at_succ load_item store_item
attribute [local go_sem] meth_less meth_swap meth_len meth_push meth_pop ptrB_eq ptrO_eq ptrIs_eq aggL_eq aggIs_eq
theorem EKi : ElemK Tryz.prog 154 175 (.agg ((List.replicate 32 (Value.int .u8 0)) ++ [Value.int .i64 0]).toArray) 33 40 := ⟨Tryz.underlying154, by kernel_rfl, rfl, by decide⟩
theorem as_item (v : Value) (w : World) : (Instr.typeAssert (.iface 175 v) 20 175 false).run Tryz.prog w = .ok v w := by kernel_rfl
attribute [local go_sem] as_item
theorem slice_item (dst : Option Tmp) (x : Operand) (ty : TypeId) (pos : String) (af : Array Edge) (a : Act) (w : World) (K : Act → World → Prop) (Q : Exit → Act → World → Prop) (hy : aggIs (a.eval x) = true) (hc : AllK 33 (aggL (a.eval x))) :
    Oper.wp Tryz.prog ⟨dst, .buildSlice 154 1 #[(0, x)], ty, pos, af, none⟩ a w K Q = K (a.put dst (.slice (some ⟨w.heap.size, 0, none⟩) 1 1)) (w.alloc (.cells (aggL (a.eval x)).toArray 175)) :=
  wp_sliceK Tryz.underlying154 (by kernel_rfl) (by decide) (by decide) dst x ty pos af a w K Q hy hc
attribute [local go_sem ↓] slice_item
def TChg (tb : Nat) (v v' : Value) (w w' : World) : Prop := Chg (fun b => b = tb ∨ v.ownBlock = some b) w w' ∧ ∀ k, v'.ownBlock = some k → v.ownBlock = some k ∨ w.heap.size ≤ k
theorem chg_cell (w : World) (g i : Nat) (v : Value) : Chg (fun b => b = g) w (w.setCell ⟨g, i, none⟩ v) := Chg.set (S := fun b => b = g) (Chg.refl _ _) (a := ⟨g, i, none⟩) rfl v
set_option maxRecDepth 100000 in
theorem epush_calls (w : World) (tb : Nat) (v : Value) (l : List Les) (x : Les) (n : Nat) (hn : l.length = n) (h : LTab w tb v l) (hx : Wf x) (hl : n ≤ 1000000) :
    Calls Tryz.prog 278 #[.pointer (some ⟨tb, 0, none⟩), .iface 175 (.agg (cellsI x).toArray)] w fun e w' => e = .returned (.tuple #[]) ∧ ∃ v', LTab w' tb v' (l ++ [x]) ∧ TChg tb v v' w w' := by
  have hc : w.cell? ⟨tb, 0, none⟩ = some v := by simpa using h.cell.cell 0
  have hf := h.cell.free 0
  have H := Lib.hid h
  have hn32 : n + 1 ≤ 4294967296 := by omega
  have hk := allI_cells hx
  clear h
  go_enter Tryz.func278, Tryz.ntmps278
  go_wp2_with fail
  have hlt : tb < w.heap.size := H.out.cell.lt
  go_region_law
    (first
      | (refine stepAppN EKi (by rfl) _ _ (by rfl) (base := 0) (v := v) (n := n) (m := 1) (xs := itemsV l) (cellsI x) (by rfl) (by rfl) (by rw [cellsI_len hx]) (by exact new_news rfl) (one_cellsI x) (by have ho := H.out.own; rw [hn] at ho; exact (show w.drew.ownsRow _ _ _ _ _ _ from ho).alloc _) hn32 (by decide) (by omega) ?_
         intro v1 x1 hv1 hg1 hs1
         obtain ⟨a1, cp1, rfl, _⟩ := own_eq_slice hv1
         have hB1 : Blk x1 tb #[v] 156 := Blk.grown' (by exact (show Blk w.drew _ _ _ from H.out.cell).alloc _) hg1 H.out.apart
         have hh : x1.cell? ⟨tb, 0, none⟩ = some v := by simpa using hB1.cell 0
         have f2 : x1.frozen? ⟨tb, 0, none⟩ = false := hB1.free 0
         have hxc : Chg (fun b => b = tb ∨ v.ownBlock = some b) w x1 := Chg.grown (Chg.of_below ((Below.refl _ _).drew.alloc (by exact Nat.le_refl _) _)) hg1 (fun q hq => .inl (.inr hq))))
  all_goals
    go_wp2_with fail
    go_end0
    refine ⟨rfl, .slice a1 (n + 1) cp1, ⟨hB1.set 0 _, ?_, ?_, ?_⟩, hxc.set (a := ⟨tb, 0, none⟩) (.inl rfl) _, ?_⟩
    · have hne : (Value.slice a1 (n + 1) cp1).ownBlock ≠ some tb := fun e => by
        rcases hs1 tb e with e1 | e1
        · exact H.out.apart e1
        · simp at e1; omega
      rw [itemsV_app, show itemsV [x] = cellsI x from by simp [itemsV], List.length_append, hn]
      exact own_chg hv1 (chg_cell x1 tb 0 _) (fun g hg e => hne (by rw [hg, e]))
    · intro y hy
      rcases List.mem_append.1 hy with hy | hy
      · exact H.out.wf y hy
      · rw [List.mem_singleton.1 hy]; exact hx
    · intro e
      rcases hs1 tb e with e1 | e1
      · exact H.out.apart e1
      · simp at e1; omega
    · intro k hk
      rcases hs1 k hk with e1 | e1
      · exact .inl e1
      · right; simp at e1; omega
end Go.Proofs.YtbbojbdigiibbaaGreatDoor
end
section
namespace Go.Proofs.YtbbojbdigiibbaaGreatDoor
open Go Go.RowKit Go.Mem Gf Lea
attribute [local go_sem ↓] Go.wp_at_zero Go.wp_at_succ load_item store_item slice_item
attribute [local go_sem] meth_less meth_swap meth_len meth_push meth_pop ptrB_eq ptrO_eq ptrIs_eq aggL_eq aggIs_eq as_item
set_option maxRecDepth 100000 in
theorem epop_calls (w : World) (tb g cap : Nat) (l : List Les) (x : Les) (n : Nat) (hn : l.length = n + 1) (h : LTab w tb (.slice (some ⟨g, 0, none⟩) (n + 1) cap) l) (hx : l[n]? = some x) (hl : n + 1 ≤ 1000000) :
    Calls Tryz.prog 277 #[.pointer (some ⟨tb, 0, none⟩)] w fun e w' => e = .returned (.iface 175 (.agg (cellsI x).toArray)) ∧ LTab w' tb (.slice (some ⟨g, 0, none⟩) n cap) (l.take n) ∧ Chg (fun b => b = tb) w w' := by
  have hc : w.cell? ⟨tb, 0, none⟩ = some (.slice (some ⟨g, 0, none⟩) (n + 1) cap) := by simpa using h.cell.cell 0
  have hf := h.cell.free 0
  have hwx := h.wf x (List.mem_of_getElem? hx)
  have hrow := h.theRow hn
  have rx : readK 33 w g (n * 33) = cellsI x := readK_eq (hrow.range hx) (cellsI_len hwx)
  have t1 : HasK 33 w g (n * 33) := hrow.there (by omega)
  have hk := allI_cells hwx
  obtain ⟨cur, hB, _, hnc, hcm, _, _⟩ := hrow.block
  have H := Lib.hid h
  clear h hrow hx hB
  go_enter Tryz.func277, Tryz.ntmps277
  obtain ⟨w1, hw1⟩ : ∃ w1, w1 = (w.alloc (.cells #[Value.int .u8 0, Value.int .u8 0, Value.int .u8 0, Value.int .u8 0, Value.int .u8 0, Value.int .u8 0, Value.int .u8 0, Value.int .u8 0, Value.int .u8 0, Value.int .u8 0, Value.int .u8 0, Value.int .u8 0, Value.int .u8 0, Value.int .u8 0, Value.int .u8 0, Value.int .u8 0, Value.int .u8 0, Value.int .u8 0, Value.int .u8 0, Value.int .u8 0, Value.int .u8 0, Value.int .u8 0, Value.int .u8 0, Value.int .u8 0, Value.int .u8 0, Value.int .u8 0, Value.int .u8 0, Value.int .u8 0, Value.int .u8 0, Value.int .u8 0, Value.int .u8 0, Value.int .u8 0, Value.int .i64 0] 175)).setCells w.heap.size 0 (cellsI x) := ⟨_, rfl⟩
  have t2 : HasK 33 (w.alloc (.cells #[Value.int .u8 0, Value.int .u8 0, Value.int .u8 0, Value.int .u8 0, Value.int .u8 0, Value.int .u8 0, Value.int .u8 0, Value.int .u8 0, Value.int .u8 0, Value.int .u8 0, Value.int .u8 0, Value.int .u8 0, Value.int .u8 0, Value.int .u8 0, Value.int .u8 0, Value.int .u8 0, Value.int .u8 0, Value.int .u8 0, Value.int .u8 0, Value.int .u8 0, Value.int .u8 0, Value.int .u8 0, Value.int .u8 0, Value.int .u8 0, Value.int .u8 0, Value.int .u8 0, Value.int .u8 0, Value.int .u8 0, Value.int .u8 0, Value.int .u8 0, Value.int .u8 0, Value.int .u8 0, Value.int .i64 0] 175)) w.heap.size 0 := hasK_new (by decide) w _
  have t3 : HasK 33 w1 w.heap.size 0 := by rw [hw1]; exact hasK_set t2 _ _ _
  have r3 : readK 33 w1 w.heap.size 0 = cellsI x := by rw [hw1]; exact readK_set t2 hk
  have hlt : tb < w.heap.size := H.out.cell.lt
  have hne : tb ≠ w.heap.size := by omega
  have hB1 : Blk w1 tb #[.slice (some ⟨g, 0, none⟩) (n + 1) cap] 156 := by rw [hw1]; exact Blk.setCells_other hne _ _ _ (H.out.cell.alloc _)
  have hc1 : Chg (fun b => b = tb) w w1 := by
    have h0 : Below w.heap.size w w1 := by
      have := Chg.setCells (S := fun b => b = w.heap.size) (L := w.heap.size) rfl (cellsI x) 0 _ (Chg.of_below ((Below.refl w.heap.size w).alloc (Nat.le_refl _) (.cells #[Value.int .u8 0, Value.int .u8 0, Value.int .u8 0, Value.int .u8 0, Value.int .u8 0, Value.int .u8 0, Value.int .u8 0, Value.int .u8 0, Value.int .u8 0, Value.int .u8 0, Value.int .u8 0, Value.int .u8 0, Value.int .u8 0, Value.int .u8 0, Value.int .u8 0, Value.int .u8 0, Value.int .u8 0, Value.int .u8 0, Value.int .u8 0, Value.int .u8 0, Value.int .u8 0, Value.int .u8 0, Value.int .u8 0, Value.int .u8 0, Value.int .u8 0, Value.int .u8 0, Value.int .u8 0, Value.int .u8 0, Value.int .u8 0, Value.int .u8 0, Value.int .u8 0, Value.int .u8 0, Value.int .i64 0] 175)))
      rw [hw1]
      exact this.below (Nat.le_refl _) (fun k hk => by rw [hk]; exact Nat.le_refl _)
    exact Chg.of_below h0
  have HB1 := Lib.hid hB1; have HC1 := Lib.hid hc1
  have c1 : w1.cell? ⟨tb, 0, none⟩ = some (.slice (some ⟨g, 0, none⟩) (n + 1) cap) := by simpa using hB1.cell 0
  have f1 : w1.frozen? ⟨tb, 0, none⟩ = false := hB1.free 0
  have HW1 := Lib.hid hw1
  clear hB1 hc1 hw1
  go_upto_region 3 with fail
  rw [← HW1.out]
  have t4 : HasK 33 (w1.setCell ⟨tb, 0, none⟩ (.slice (some ⟨g, 0, none⟩) n cap)) w.heap.size 0 := hasK_set t3 tb 0 [.slice (some ⟨g, 0, none⟩) n cap]
  have r4 : readK 33 (w1.setCell ⟨tb, 0, none⟩ (.slice (some ⟨g, 0, none⟩) n cap)) w.heap.size 0 = cellsI x := by
    have h1 := readK_range t3
    rw [r3] at h1
    exact readK_eq (World.rangeAt_setCells_apart h1 tb 0 [.slice (some ⟨g, 0, none⟩) n cap] (.inl (by omega))) hk.1
  go_wp2_with fail
  go_ret
  have ha := H.out.apart
  refine ⟨rfl, ⟨HB1.out.set 0 _, ?_, fun y hy => H.out.wf y (List.mem_of_mem_take hy), ha⟩, HC1.out.trans (chg_cell w1 tb 0 _)⟩
  have hR1 : Row 175 (w1.setCell ⟨tb, 0, none⟩ (.slice (some ⟨g, 0, none⟩) n cap)) 0 g (n + 1) cap l := by
    refine ⟨?_, hn.symm, H.out.wf⟩
    have ho := H.out.own
    rw [hn] at ho
    exact own_chg ho (HC1.out.trans (chg_cell w1 tb 0 _)) (fun q hq e => ha (by rw [hq, e]))
  have h9 := (hR1.take (k := n) (by omega)).own
  rw [show (l.take n).length = n from by rw [List.length_take]; omega] at h9 ⊢
  exact h9
theorem TChg.then {tb g n c n' c' : Nat} {v : Value} {w w' w'' : World} (h : TChg tb v (.slice (some ⟨g, 0, none⟩) n c) w w') (h' : Chg (fun b => b = g) w' w'') : TChg tb v (.slice (some ⟨g, 0, none⟩) n' c') w w'' :=
  ⟨h.1.mix h' (fun k hk => by rcases h.2 k (by rw [hk]; rfl) with h | h; exact .inl (.inr h); exact .inr h), fun k hk => h.2 k hk⟩
theorem TChg.of {tb g n c n' c' : Nat} {w w' : World} (h : Chg (fun b => b = g) w w') : TChg tb (.slice (some ⟨g, 0, none⟩) n c) (.slice (some ⟨g, 0, none⟩) n' c') w w' :=
  ⟨h.mono (fun _ hk => .inr (by rw [hk]; rfl)), fun _ hk => .inl hk⟩
theorem TChg.trans {tb : Nat} {v v1 v2 : Value} {w w1 w2 : World} (h : TChg tb v v1 w w1) (h' : TChg tb v1 v2 w1 w2) : TChg tb v v2 w w2 :=
  ⟨h.1.mix h'.1 (fun k hk => by
    rcases hk with hk | hk
    · exact .inl (.inl hk)
    · rcases h.2 k hk with h | h
      · exact .inl (.inr h)
      · exact .inr h), fun k hk => by
    rcases h'.2 k hk with h1 | h1
    · exact h.2 k h1
    · exact .inr (Nat.le_trans h.1.size h1)⟩
theorem TChg.cell {tb g n c n' c' : Nat} {w w' : World} (h : Chg (fun b => b = tb) w w') : TChg tb (.slice (some ⟨g, 0, none⟩) n c) (.slice (some ⟨g, 0, none⟩) n' c') w w' :=
  ⟨h.mono (fun _ hk => .inl hk), fun _ hk => .inl hk⟩
structure Heap (w : World) (tb : Nat) (v : Value) (l : List Les) : Prop where
  tab : LTab w tb v l
  heap : HeapN l l.length
set_option maxRecDepth 100000 in
set_option maxHeartbeats 1000000 in
theorem hpush_calls (w : World) (tb : Nat) (v : Value) (l : List Les) (x : Les) (h : Heap w tb v l) (hx : Wf x) (hl : l.length ≤ 100000) :
    Calls Tryz.prog 153 #[hv tb, .iface 175 (.agg (cellsI x).toArray)] w fun e w' => e = .returned (.tuple #[]) ∧ ∃ v' l', Heap w' tb v' l' ∧ l'.Perm (l ++ [x]) ∧ TChg tb v v' w w' := by
  have H := Lib.hid h
  clear h
  unfold hv
  go_enter Tryz.func153, Tryz.ntmps153
  go_wp2_with fail
  refine (epush_calls w tb v l x l.length rfl H.out.tab hx (by omega)).mono ?_
  rintro e w1 ⟨rfl, v1, hT, hC⟩
  have hl1 : (l ++ [x]).length = l.length + 1 := by simp
  obtain ⟨g, cap, rfl, hrow⟩ := hT.ex (by omega)
  have hT1 := Lib.hid hT
  have hc1 : w1.cell? ⟨tb, 0, none⟩ = some (.slice (some ⟨g, 0, none⟩) (l ++ [x]).length cap) := by simpa using hT.cell.cell 0
  rw [hl1] at hc1
  have HC := Lib.hid hC
  clear hT hC hrow
  go_wp2_with fail
  refine (elen_calls _ _ _ _).mono ?_
  rintro e w2 ⟨rfl, rfl⟩
  obtain ⟨n, hn⟩ : ∃ n, n = l.length := ⟨_, rfl⟩
  have hp := push_pre H.out.heap x
  rw [← hn] at hc1 hl hl1 hp ⊢
  rw [hl1] at hT1 HC
  have HP := Lib.hid hp; have HL1 := Lib.hid hl1
  have e1 : ((n + 1 : Nat) : Int) - 1 = (n : Int) := by omega
  clear hp hl1 hn
  go_wp2_with fail
  refine (up_calls w1 tb g cap (l ++ [x]) n (n + 1) (n + 1) HL1.out hT1.out (by omega) (Nat.le_refl _) (by omega) HP.out.1 HP.out.2).mono ?_
  rintro e w2 ⟨rfl, l', h1, h2, h3, h4, h5⟩
  go_wp2_with fail
  go_end0
  exact ⟨rfl, _, l', ⟨h1, by rw [h2.length_eq, HL1.out]; exact h3⟩, h2, HC.out.then h5⟩
set_option maxRecDepth 100000 in
set_option maxHeartbeats 1000000 in
theorem hfix_calls (w : World) (tb : Nat) (v : Value) (l : List Les) (k n : Nat) (hn : l.length = n) (h : LTab w tb v l) (hl : n ≤ 100000) (hk : k < n)
    (hinv : ∀ c, 0 < c → c < n → (c - 1) / 2 ≠ k → c ≠ k → Rim l c) (hg : Grand l k n) :
    Calls Tryz.prog 154 #[hv tb, .int .i64 k] w fun e w' => e = .returned (.tuple #[]) ∧ ∃ l', Heap w' tb v l' ∧ l'.Perm l ∧ TChg tb v v w w' := by
  obtain ⟨g, cap, rfl, hrow⟩ := h.ex (by omega)
  have hc : w.cell? ⟨tb, 0, none⟩ = some (.slice (some ⟨g, 0, none⟩) l.length cap) := by simpa using h.cell.cell 0
  rw [hn] at hc h ⊢
  have H := Lib.hid (And.intro h (And.intro hinv hg))
  have HN := Lib.hid hn
  clear hn h hinv hg hrow
  unfold hv
  go_enter Tryz.func154, Tryz.ntmps154
  go_wp2_with fail
  refine (elen_calls _ _ _ _).mono ?_
  rintro e w2 ⟨rfl, rfl⟩
  go_wp2_with fail
  refine (down_calls w tb g cap l k n n HN.out H.out.1 (by omega) (Nat.le_refl _) hk H.out.2.1 H.out.2.2).mono ?_
  rintro e w1 ⟨b, rfl, l1, h1, h2, h3, h4, h5, h6⟩
  have HL := Lib.hid h2.length_eq
  have H1 := Lib.hid (And.intro h1 (And.intro h2 (And.intro h4 (And.intro h5 h6))))
  clear h1 h2 h3 h4 h5 h6
  cases b
  · go_wp2_with fail
    obtain ⟨e6, h6⟩ := H1.out.2.2.2.2 (by first | rfl | trivial)
    refine (up_calls w1 tb g cap l k n n HN.out (by have := H1.out.1; rwa [e6] at this) (by omega) (Nat.le_refl _) hk h6 H.out.2.2).mono ?_
    rintro e w2 ⟨rfl, l', g1, g2, g3, g4, g5⟩
    go_wp2_with fail
    go_end0
    exact ⟨rfl, l', ⟨g1, by rw [g2.length_eq, HN.out]; exact g3⟩, g2, TChg.of (H1.out.2.2.1.trans g5)⟩
  · go_wp2_with fail
    go_end0
    exact ⟨rfl, l1, ⟨H1.out.1, by rw [HL.out, HN.out]; exact H1.out.2.2.2.1 (by first | rfl | trivial)⟩, H1.out.2.1, TChg.of H1.out.2.2.1⟩
set_option maxRecDepth 100000 in
set_option maxHeartbeats 1000000 in
theorem hpop_calls (w : World) (tb : Nat) (v : Value) (l : List Les) (x : Les) (h : Heap w tb v l) (hx : l[0]? = some x) (hl : l.length ≤ 100000) :
    Calls Tryz.prog 104 #[hv tb] w fun e w' => e = .returned (.iface 175 (.agg (cellsI x).toArray)) ∧ ∃ v' l', Heap w' tb v' l' ∧ (x :: l').Perm l ∧ TChg tb v v' w w' := by
  have h0 : 0 < l.length := by
    rcases Nat.eq_zero_or_pos l.length with e | e
    · rw [List.eq_nil_of_length_eq_zero e] at hx; cases hx
    · exact e
  obtain ⟨g, cap, rfl, hrow⟩ := h.tab.ex h0
  obtain ⟨n, hn⟩ : ∃ n, n + 1 = l.length := ⟨l.length - 1, by omega⟩
  have hc : w.cell? ⟨tb, 0, none⟩ = some (.slice (some ⟨g, 0, none⟩) l.length cap) := by simpa using h.tab.cell.cell 0
  have hy : l[n]? = some (l[n]'(by omega)) := by simp
  generalize l[n]'(by omega) = y at hy
  have hlt := take_pre' (by rw [hn]; exact h.heap) hn
  rw [← hn] at hc h hl ⊢
  have H := Lib.hid (And.intro h.tab (And.intro hx (And.intro hy hlt)))
  have HN := Lib.hid hn.symm
  have e1 : ((n + 1 : Nat) : Int) - 1 = (n : Int) := by omega
  have hr := Lib.hid (h.tab.theRow hn.symm)
  clear hn h hx hy hlt hrow h0
  unfold hv
  go_enter Tryz.func104, Tryz.ntmps104
  go_wp2_with fail
  refine (elen_calls _ _ _ _).mono ?_
  rintro e w2 ⟨rfl, rfl⟩
  go_wp2_with fail
  refine (eswap_calls 0 g (n + 1) cap l 0 n x y w hr.out H.out.2.1 H.out.2.2.1).mono ?_
  rintro e w1 ⟨rfl, hrow, hchg⟩
  have hT1 := H.out.1.row' HN.out hrow hchg
  have c1 : w1.cell? ⟨tb, 0, none⟩ = some (.slice (some ⟨g, 0, none⟩) (n + 1) cap) := by simpa using hT1.cell.cell 0
  have HT1 := Lib.hid hT1; have HC1 := Lib.hid hchg
  have HL1 : Hid ((swap l 0 n).length = n + 1) := by rw [swap_len]; exact HN.out
  clear hT1 hrow hchg
  go_wp2_with fail
  refine (down_calls w1 tb g cap (swap l 0 n) 0 n (n + 1) HL1.out HT1.out (by omega) (by omega) (by omega) H.out.2.2.2.1 H.out.2.2.2.2).mono ?_
  rintro e w2 ⟨b, rfl, l1, h1, h2, h3, h4, h5, h6⟩
  have hh : HeapN l1 n := by
    cases b
    · obtain ⟨e6, h6'⟩ := h6 rfl
      rw [e6]
      exact fun c g1 g2 => h6' c g1 g2 (by omega)
    · exact h5 rfl
  have hxn : l1[n]? = some x := by rw [h3 n (Nat.le_refl _), swap_get H.out.2.1 H.out.2.2.1, if_pos rfl]
  have hL2 : l1.length = n + 1 := by rw [h2.length_eq]; exact HL1.out
  have HX := Lib.hid (And.intro hh (And.intro hxn (And.intro hL2 (And.intro h1 (And.intro h2 h4)))))
  have c2 : w2.cell? ⟨tb, 0, none⟩ = some (.slice (some ⟨g, 0, none⟩) (n + 1) cap) := by simpa using h1.cell.cell 0
  clear h1 h2 h3 h4 h5 h6 hh hxn hL2
  go_wp2_with fail
  refine (epop_calls w2 tb g cap l1 x n HX.out.2.2.1 HX.out.2.2.2.1 HX.out.2.1 (by omega)).mono ?_
  rintro e w3 ⟨rfl, g1, g2⟩
  go_wp2_with fail
  go_ret
  refine ⟨rfl, _, l1.take n, ⟨g1, ?_⟩, ?_, ?_⟩
  · rw [List.length_take, HX.out.2.2.1, Nat.min_eq_left (by omega)]
    exact HX.out.1.take
  · exact (take_last HX.out.2.1 HX.out.2.2.1).trans (HX.out.2.2.2.2.1.trans (swap_perm l 0 n))
  · exact ((TChg.of (n' := n + 1) (c' := cap) (HC1.out.trans HX.out.2.2.2.2.2)).trans (TChg.cell g2))
end Go.Proofs.YtbbojbdigiibbaaGreatDoor
end
section
namespace Go.Proofs.YtbbojbdigiibbaaGreatDoor
open Go Go.RowKit Go.Mem Gf Lea
attribute [local go_sem ↓] Go.wp_at_zero Go.wp_at_succ load_item store_item slice_item
attribute [local go_sem] meth_less meth_swap meth_len meth_push meth_pop ptrB_eq ptrO_eq ptrIs_eq aggL_eq aggIs_eq as_item
set_option maxRecDepth 100000 in
set_option maxHeartbeats 1000000 in
theorem hremove_calls (w : World) (tb : Nat) (v : Value) (l : List Les) (k : Nat) (x : Les) (h : Heap w tb v l) (hx : l[k]? = some x) (hl : l.length ≤ 100000) :
    Calls Tryz.prog 155 #[hv tb, .int .i64 k] w fun e w' => e = .returned (.iface 175 (.agg (cellsI x).toArray)) ∧ ∃ v' l', Heap w' tb v' l' ∧ (x :: l').Perm l ∧ TChg tb v v' w w' := by
  have hk : k < l.length := by
    rcases Nat.lt_or_ge k l.length with h | h
    · exact h
    · rw [List.getElem?_eq_none h] at hx; cases hx
  obtain ⟨g, cap, rfl, hrow⟩ := h.tab.ex (by omega)
  obtain ⟨n, hn⟩ : ∃ n, n + 1 = l.length := ⟨l.length - 1, by omega⟩
  have hc : w.cell? ⟨tb, 0, none⟩ = some (.slice (some ⟨g, 0, none⟩) l.length cap) := by simpa using h.tab.cell.cell 0
  have hy : l[n]? = some (l[n]'(by omega)) := by simp
  generalize l[n]'(by omega) = y at hy
  have hlt : k < n → (∀ c, 0 < c → c < n → (c - 1) / 2 ≠ k → c ≠ k → Rim (swap l k n) c) ∧ Grand (swap l k n) k n := fun hkn => take_pre (by rw [hn]; exact h.heap) hkn (by omega)
  have hhp : HeapN l (n + 1) := by rw [hn]; exact h.heap
  rw [← hn] at hc h hl hk ⊢
  have H := Lib.hid (And.intro h.tab (And.intro hx (And.intro hy (And.intro hlt hhp))))
  have HN := Lib.hid hn.symm
  have e1 : ((n + 1 : Nat) : Int) - 1 = (n : Int) := by omega
  have hr := Lib.hid (h.tab.theRow hn.symm)
  clear hn h hx hy hlt hrow hhp
  unfold hv
  by_cases hkn : k = n
  · subst hkn
    go_enter Tryz.func155, Tryz.ntmps155
    go_wp2_with fail
    refine (elen_calls _ _ _ _).mono ?_
    rintro e w2 ⟨rfl, rfl⟩
    go_wp2_with fail
    refine (epop_calls w tb g cap l x k HN.out H.out.1 H.out.2.1 (by omega)).mono ?_
    rintro e w3 ⟨rfl, g1, g2⟩
    go_wp2_with fail
    go_ret
    refine ⟨rfl, _, l.take k, ⟨g1, ?_⟩, take_last H.out.2.1 HN.out, TChg.cell g2⟩
    rw [List.length_take, HN.out, Nat.min_eq_left (by omega)]
    exact HeapN.take (fun c h1 h2 => H.out.2.2.2.2 c h1 (by omega))
  · have hkl : k < n := by omega
    have ne1 : ((n : Int) != (k : Int)) = true := by simp; omega
    have ne2 : ¬ ((n : Int) = (k : Int)) := by omega
    go_enter Tryz.func155, Tryz.ntmps155
    go_wp2_with fail
    refine (elen_calls _ _ _ _).mono ?_
    rintro e w2 ⟨rfl, rfl⟩
    go_wp2_with fail
    refine (eswap_calls 0 g (n + 1) cap l k n x y w hr.out H.out.2.1 H.out.2.2.1).mono ?_
    rintro e w1 ⟨rfl, hrow, hchg⟩
    have hT1 := H.out.1.row' HN.out hrow hchg
    have c1 : w1.cell? ⟨tb, 0, none⟩ = some (.slice (some ⟨g, 0, none⟩) (n + 1) cap) := by simpa using hT1.cell.cell 0
    have HT1 := Lib.hid hT1; have HC1 := Lib.hid hchg
    have HL1 : Hid ((swap l k n).length = n + 1) := by rw [swap_len]; exact HN.out
    have HXN : Hid ((swap l k n)[n]? = some x) := by rw [swap_get H.out.2.1 H.out.2.2.1, if_pos rfl]; rfl
    have HPR := Lib.hid (H.out.2.2.2.1 hkl)
    clear hT1 hrow hchg
    go_wp2_with fail
    refine (down_calls w1 tb g cap (swap l k n) k n (n + 1) HL1.out HT1.out (by omega) (by omega) (by omega) HPR.out.1 HPR.out.2).mono ?_
    rintro e w2 ⟨b, rfl, l1, h1, h2, h3, h4, h5, h6⟩
    cases b
    · obtain ⟨e6, h6'⟩ := h6 rfl
      rw [e6] at h1
      have H2 := Lib.hid (And.intro h1 (And.intro h4 h6'))
      have c2 : w2.cell? ⟨tb, 0, none⟩ = some (.slice (some ⟨g, 0, none⟩) (n + 1) cap) := by simpa using h1.cell.cell 0
      clear h1 h2 h3 h4 h5 h6 e6 h6'
      go_wp2_with fail
      refine (up_calls w2 tb g cap (swap l k n) k n (n + 1) HL1.out H2.out.1 (by omega) (by omega) hkl H2.out.2.2 HPR.out.2).mono ?_
      rintro e w3 ⟨rfl, l2, p1, p2, p3, p4, p5⟩
      have hxn : l2[n]? = some x := by rw [p4 n (Nat.le_refl _)]; exact HXN.out
      have hL2 : l2.length = n + 1 := by rw [p2.length_eq]; exact HL1.out
      have HX := Lib.hid (And.intro p3 (And.intro hxn (And.intro hL2 (And.intro p1 (And.intro p2 p5)))))
      have c3 : w3.cell? ⟨tb, 0, none⟩ = some (.slice (some ⟨g, 0, none⟩) (n + 1) cap) := by simpa using p1.cell.cell 0
      clear p1 p2 p3 p4 p5 hxn hL2
      go_wp2_with fail
      refine (epop_calls w3 tb g cap l2 x n HX.out.2.2.1 HX.out.2.2.2.1 HX.out.2.1 (by omega)).mono ?_
      rintro e w4 ⟨rfl, g1, g2⟩
      go_wp2_with fail
      go_ret
      refine ⟨rfl, _, l2.take n, ⟨g1, ?_⟩, ?_, ?_⟩
      · rw [List.length_take, HX.out.2.2.1, Nat.min_eq_left (by omega)]
        exact HX.out.1.take
      · exact (take_last HX.out.2.1 HX.out.2.2.1).trans (HX.out.2.2.2.2.1.trans (swap_perm l k n))
      · exact (TChg.of (n' := n + 1) (c' := cap) ((HC1.out.trans H2.out.2.1).trans HX.out.2.2.2.2.2)).trans (TChg.cell g2)
    · have hh : HeapN l1 n := h5 rfl
      have hxn : l1[n]? = some x := by rw [h3 n (Nat.le_refl _)]; exact HXN.out
      have hL2 : l1.length = n + 1 := by rw [h2.length_eq]; exact HL1.out
      have HX := Lib.hid (And.intro hh (And.intro hxn (And.intro hL2 (And.intro h1 (And.intro h2 h4)))))
      have c2 : w2.cell? ⟨tb, 0, none⟩ = some (.slice (some ⟨g, 0, none⟩) (n + 1) cap) := by simpa using h1.cell.cell 0
      clear h1 h2 h3 h4 h5 h6 hh hxn hL2
      go_wp2_with fail
      refine (epop_calls w2 tb g cap l1 x n HX.out.2.2.1 HX.out.2.2.2.1 HX.out.2.1 (by omega)).mono ?_
      rintro e w3 ⟨rfl, g1, g2⟩
      go_wp2_with fail
      go_ret
      refine ⟨rfl, _, l1.take n, ⟨g1, ?_⟩, ?_, ?_⟩
      · rw [List.length_take, HX.out.2.2.1, Nat.min_eq_left (by omega)]
        exact HX.out.1.take
      · exact (take_last HX.out.2.1 HX.out.2.2.1).trans (HX.out.2.2.2.2.1.trans (swap_perm l k n))
      · exact (TChg.of (n' := n + 1) (c' := cap) (HC1.out.trans HX.out.2.2.2.2.2)).trans (TChg.cell g2)
end Go.Proofs.YtbbojbdigiibbaaGreatDoor
end
section
namespace Srt
variable {α : Type}
def swap (l : List α) (i j : Nat) : List α := match l[i]?, l[j]? with
  | some x, some y => (l.set i y).set j x
  | _, _ => l
theorem lt_of_some {l : List α} {i : Nat} {x : α} (hx : l[i]? = some x) : i < l.length := by
  rcases Nat.lt_or_ge i l.length with h | h
  · exact h
  · rw [List.getElem?_eq_none h] at hx; cases hx
theorem swap_eq {l : List α} {i j : Nat} {x y : α} (hx : l[i]? = some x) (hy : l[j]? = some y) : swap l i j = (l.set i y).set j x := by
  unfold swap; rw [hx, hy]
theorem swap_get {l : List α} {i j : Nat} {x y : α} (hx : l[i]? = some x) (hy : l[j]? = some y) (k : Nat) : (swap l i j)[k]? = if k = j then some x else if k = i then some y else l[k]? := by
  have hi := lt_of_some hx
  have hj := lt_of_some hy
  rw [swap_eq hx hy]
  simp only [List.getElem?_set, List.length_set]
  by_cases h1 : k = j
  · subst h1; simp [hj]
  · have h1' : ¬ j = k := fun h => h1 h.symm
    by_cases h2 : k = i
    · subst h2; simp [h1, h1', hi]
    · have h2' : ¬ i = k := fun h => h2 h.symm
      simp [h1, h1', h2, h2']
theorem swap_len {l : List α} {i j : Nat} {x y : α} (hx : l[i]? = some x) (hy : l[j]? = some y) : (swap l i j).length = l.length := by
  rw [swap_eq hx hy]; simp
theorem swap_perm {l : List α} {i j : Nat} {x y : α} (hx : l[i]? = some x) (hy : l[j]? = some y) : (swap l i j).Perm l := by
  have hi := lt_of_some hx
  have hj := lt_of_some hy
  rw [swap_eq hx hy]
  rw [List.getElem?_eq_getElem hi] at hx
  rw [List.getElem?_eq_getElem hj] at hy
  cases hx; cases hy
  exact List.set_set_perm hi hj
structure Ord (lt : α → α → Bool) : Prop where
  asymm : ∀ a b, lt a b = true → lt b a = false
  trans : ∀ a b c, lt b a = false → lt c b = false → lt c a = false
def Upto (lt : α → α → Bool) (l : List α) (n : Nat) : Prop := ∀ p q x y, p < q → q < n → l[p]? = some x → l[q]? = some y → lt y x = false
def Ins (lt : α → α → Bool) (l : List α) (j i : Nat) : Prop :=
  (∀ p q x y, p < q → q ≤ i → p ≠ j → q ≠ j → l[p]? = some x → l[q]? = some y → lt y x = false) ∧ ∀ q x y, j < q → q ≤ i → l[j]? = some x → l[q]? = some y → lt y x = false
variable {lt : α → α → Bool} {l : List α} {i j : Nat}
theorem ins_start (h : Upto lt l i) : Ins lt l i i :=
  ⟨fun p q x y h1 h2 _ h4 hx hy => h p q x y h1 (by omega) hx hy, fun q x y h1 h2 => by omega⟩
theorem ins_step (hO : Ord lt) (h : Ins lt l j i) (h0 : 0 < j) (hj : j ≤ i) {x y : α} (hx : l[j]? = some x) (hy : l[j - 1]? = some y) (hlt : lt x y = true) : Ins lt (swap l j (j - 1)) (j - 1) i := by
  have hg := swap_get hx hy
  refine ⟨fun p q a b h1 h2 h3 h4 ha hb => ?_, fun q a b h1 h2 ha hb => ?_⟩
  · rw [hg, if_neg h3] at ha
    rw [hg, if_neg h4] at hb
    by_cases e1 : p = j
    · rw [if_pos e1] at ha
      cases ha
      rw [if_neg (by omega)] at hb
      exact h.1 (j - 1) q y b (by omega) h2 (by omega) (by omega) hy hb
    · rw [if_neg e1] at ha
      by_cases e2 : q = j
      · rw [if_pos e2] at hb
        cases hb
        exact h.1 p (j - 1) a y (by omega) (by omega) e1 (by omega) ha hy
      · rw [if_neg e2] at hb
        exact h.1 p q a b h1 h2 e1 e2 ha hb
  · rw [hg, if_pos rfl] at ha
    cases ha
    rw [hg, if_neg (by omega)] at hb
    by_cases e2 : q = j
    · rw [if_pos e2] at hb
      cases hb
      exact hO.asymm x y hlt
    · rw [if_neg e2] at hb
      exact h.2 q x b (by omega) h2 hx hb
theorem ins_stop (hO : Ord lt) (h : Ins lt l j i) (hj : j ≤ i) (hs : j = 0 ∨ ∃ x y, l[j]? = some x ∧ l[j - 1]? = some y ∧ lt x y = false) : Upto lt l (i + 1) := by
  intro p q a b h1 h2 ha hb
  by_cases e1 : p = j
  · subst e1
    exact h.2 q a b h1 (by omega) ha hb
  · by_cases e2 : q = j
    · subst e2
      rcases hs with e | ⟨x, y, hx, hy, hxy⟩
      · omega
      · rw [hx] at hb
        cases hb
        by_cases e3 : p = q - 1
        · subst e3
          rw [hy] at ha
          cases ha
          exact hxy
        · exact hO.trans a y _ (h.1 p (q - 1) a y (by omega) (by omega) e1 (by omega) ha hy) hxy
    · exact h.1 p q a b h1 (by omega) e1 e2 ha hb
theorem upto_pairwise {lt : α → α → Bool} (l : List α) (h : Upto lt l l.length) : l.Pairwise (fun x y => lt y x = false) := by
  rw [List.pairwise_iff_getElem]
  intro p q hp hq hpq
  exact h p q _ _ hpq hq (by simp) (by simp)
end Srt
end
