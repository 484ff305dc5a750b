/- Texts of this proof, packed: LeaUp, LeaDown, LeaPush, LeaPop, LeaRemove, SortMath, SortIns, RowG, Keys, LeaRow, LeaSpec, Far. -/
import Derived.Test.YtclhgokchcklbaaGreatDoorPk06
import Derived.Handy
import Derived.Test.YtclhgokchcklbaaGreatDoorPk02
import Derived.Lib.Hide
import Derived.Test.YtclhgokchcklbaaGreatDoorPk00
import Derived.Deep.RegionHeld3
import Derived.ChangeKeysEq
import Derived.Lib.BytesEntry
import Derived.Lib.Bytealg
section
namespace Go.Proofs.YtclhgokchcklbaaGreatDoor
open Go Go.RowKit Go.Mem Gf Lea
attribute [local go_sem ↓] Go.wp_at_zero Go.wp_at_succ
def hv (tb : Nat) : Value := .iface 193 (.pointer (some ⟨tb, 0, none⟩))
theorem meth_less (n : Nat) (tb : Nat) (w : World) : (method (n + 1) 193 (.pointer (some ⟨tb, 0, none⟩)) "Less").run Tryz.prog w = (loadVar 135 ⟨tb, 0, none⟩ >>= fun v => pure (268, v)).run Tryz.prog w := by kernel_rfl
theorem meth_swap (n : Nat) (tb : Nat) (w : World) : (method (n + 1) 193 (.pointer (some ⟨tb, 0, none⟩)) "Swap").run Tryz.prog w = (loadVar 135 ⟨tb, 0, none⟩ >>= fun v => pure (269, v)).run Tryz.prog w := by kernel_rfl
theorem meth_len (n : Nat) (tb : Nat) (w : World) : (method (n + 1) 193 (.pointer (some ⟨tb, 0, none⟩)) "Len").run Tryz.prog w = (loadVar 135 ⟨tb, 0, none⟩ >>= fun v => pure (267, v)).run Tryz.prog w := by kernel_rfl
theorem meth_push (n : Nat) (tb : Nat) (w : World) : (method (n + 1) 193 (.pointer (some ⟨tb, 0, none⟩)) "Push").run Tryz.prog w = .ok (271, .pointer (some ⟨tb, 0, none⟩)) w := by kernel_rfl
theorem meth_pop (n : Nat) (tb : Nat) (w : World) : (method (n + 1) 193 (.pointer (some ⟨tb, 0, none⟩)) "Pop").run Tryz.prog w = .ok (270, .pointer (some ⟨tb, 0, none⟩)) w := by kernel_rfl
attribute [local go_sem] meth_less meth_swap meth_len meth_push meth_pop
theorem LTab.drewN {w : World} {tb : Nat} {v : Value} {l : List Les} (h : LTab w tb v l) (d : Nat) : LTab (w.drewN d) tb v l := ⟨h.cell, h.own, h.wf, h.apart⟩
theorem LTab.theRow {w : World} {tb g n cap : Nat} {l : List Les} (h : LTab w tb (.slice (some ⟨g, 0, none⟩) n cap) l) (hn : l.length = n) : Row 191 w 0 g n cap l := by
  subst hn
  exact ⟨h.own, rfl, h.wf⟩
theorem LTab.row' {w w' : World} {tb g n cap : Nat} {l l' : List Les} (h : LTab w tb (.slice (some ⟨g, 0, none⟩) n cap) l) (_ : l.length = n) (hr : Row 191 w' 0 g n cap l') (hc : Chg (fun b => b = g) w w') : LTab w' tb (.slice (some ⟨g, 0, none⟩) n cap) l' := by
  have hl := hr.len
  refine ⟨hc.blk h.cell (fun e => h.apart (by rw [e]; rfl)), ?_, hr.wf, h.apart⟩
  rw [← hl]
  exact hr.own
set_option maxRecDepth 100000 in
set_option maxHeartbeats 1000000 in
theorem up_calls (w : World) (tb g cap : Nat) (l : List Les) (j n n0 : Nat) (hn : l.length = n0) (h : LTab w tb (.slice (some ⟨g, 0, none⟩) n0 cap) l) (hl : n0 ≤ 1000000) (hnn : n ≤ n0) (hj : j < n)
    (hinv : ∀ c, 0 < c → c < n → c ≠ j → Rim l c) (hg : Grand l j n) :
    Calls Tryz.prog 176 #[hv tb, .int .i64 j] w fun e w' => e = .returned (.tuple #[]) ∧ ∃ l', LTab w' tb (.slice (some ⟨g, 0, none⟩) n0 cap) l' ∧ l'.Perm l ∧ HeapN l' n ∧ (∀ q, n ≤ q → l'[q]? = l[q]?) ∧ Chg (fun b => b = g) w w' := by
  have H0 := Lib.hid (And.intro hn (And.intro h (And.intro hinv hg)))
  clear h hinv hg hn
  unfold hv
  go_enter Tryz.func176, Tryz.ntmps176
  go_wp2_with fail
  go_loopw [1] (fun v wr => ∃ (k : Nat) (m : List Les), k < n ∧ v = .int .i64 k ∧ Hid (m.length = n0 ∧ LTab wr tb (.slice (some ⟨g, 0, none⟩) n0 cap) m ∧ m.Perm l ∧ (∀ c, 0 < c → c < n → c ≠ k → Rim m c) ∧ Grand m k n ∧ (∀ q, n ≤ q → m[q]? = l[q]?) ∧ Chg (fun b => b = g) w wr)) (fun v _ => (intOf v).toNat)
  case atStart => exact ⟨j, l, hj, rfl, H0.out.1, H0.out.2.1, List.Perm.refl _, H0.out.2.2.1, H0.out.2.2.2, fun _ _ => rfl, Chg.refl _ _⟩
  case round =>
    obtain ⟨k, m, hk, rfl, H⟩ := hrel
    rename_i wr
    have hc : wr.cell? ⟨tb, 0, none⟩ = some (.slice (some ⟨g, 0, none⟩) n0 cap) := by simpa using H.out.2.1.cell.cell 0
    by_cases hk0 : k = 0
    · subst hk0
      have HE : Hid (HeapN m n) := up_end H.out.2.2.2.1 (fun x y h => by omega)
      go_wp2_with fail
      go_wp2
      go_end0
      exact ⟨rfl, m, H.out.2.1, H.out.2.2.1, HE.out, H.out.2.2.2.2.2.1, H.out.2.2.2.2.2.2⟩
    · obtain ⟨i, hi⟩ : ∃ i, i = (k - 1) / 2 := ⟨_, rfl⟩
      have hik : i < k := by omega
      have e1 : ((k : Int) - 1).tdiv 2 = (i : Int) := by
        rw [show ((k : Int) - 1) = ((k - 1 : Nat) : Int) from by omega, hi]
        exact (Int.ofNat_tdiv _ _).symm
      have e2 : ((i : Int) == (k : Int)) = false := by simp; omega
      have e3 : ¬ ((i : Int) = (k : Int)) := by omega
      have hx : m[i]? = some (m[i]'(by have := H.out.1; omega)) := by simp
      have hy : m[k]? = some (m[k]'(by have := H.out.1; omega)) := by simp
      generalize m[i]'(by have := H.out.1; omega) = x at hx
      generalize m[k]'(by have := H.out.1; omega) = y at hy
      have HX := Lib.hid (And.intro hx hy)
      have HI := Lib.hid hi
      clear hx hy hi
      go_wp2_with fail
      refine (eless_calls 0 g n0 cap m k i y x wr (LTab.theRow H.out.2.1 H.out.1) HX.out.2 HX.out.1).mono ?_
      rintro e w' ⟨rfl, d, rfl⟩
      by_cases hlt : y.e < x.e
      · rw [decide_eq_true hlt]
        go_wp2_with fail
        refine (eswap_calls 0 g n0 cap m i k x y (wr.drewN d) (LTab.theRow (H.out.2.1.drewN d) H.out.1) HX.out.1 HX.out.2).mono ?_
        rintro e w' ⟨rfl, hrow, hchg⟩
        have HN : Hid ((swap m i k).length = n0 ∧ LTab w' tb (.slice (some ⟨g, 0, none⟩) n0 cap) (swap m i k) ∧ (swap m i k).Perm l ∧ (∀ c, 0 < c → c < n → c ≠ i → Rim (swap m i k) c) ∧ Grand (swap m i k) i n ∧ (∀ q, n ≤ q → (swap m i k)[q]? = l[q]?) ∧ Chg (fun b => b = g) w w') := by
          have hs := up_step (by omega) hk HI.out HX.out.1 HX.out.2 hlt H.out.2.2.2.1 H.out.2.2.2.2.1
          have hl2 : (swap m i k).length = n0 := by rw [swap_len]; exact H.out.1
          exact ⟨hl2, (H.out.2.1.drewN d).row' H.out.1 hrow hchg, (swap_perm m i k).trans H.out.2.2.1, hs.1, hs.2, fun q hq => by rw [swap_get HX.out.1 HX.out.2, if_neg (by omega), if_neg (by omega)]; exact H.out.2.2.2.2.2.1 q hq, (H.out.2.2.2.2.2.2.drewN d).trans hchg⟩
        clear hrow hchg H hc
        go_wp2_with fail
        exact ⟨⟨i, swap m i k, by omega, rfl, HN⟩, by simp [intOf]; omega⟩
      · rw [decide_eq_false hlt]
        have HE : Hid (HeapN m n) := up_end H.out.2.2.2.1 (fun a b h0 h1 ha hb => by
          rw [← HI.out, HX.out.1] at ha; rw [HX.out.2] at hb
          cases ha; cases hb
          omega)
        go_wp2_with fail
        go_end0
        exact ⟨rfl, m, H.out.2.1.drewN d, H.out.2.2.1, HE.out, H.out.2.2.2.2.2.1, H.out.2.2.2.2.2.2.drewN d⟩
end Go.Proofs.YtclhgokchcklbaaGreatDoor
end
section
namespace Go.Proofs.YtclhgokchcklbaaGreatDoor
open Go Go.RowKit Go.Mem Gf Lea
attribute [local go_sem ↓] Go.wp_at_zero Go.wp_at_succ
attribute [local go_sem] meth_less meth_swap meth_len meth_push meth_pop
theorem LTab.rd {w w' : World} {tb : Nat} {v : Value} {l : List Les} (h : LTab w tb v l) (hd : ∃ d, w' = w.drewN d) : LTab w' tb v l := by
  obtain ⟨d, rfl⟩ := hd
  exact h.drewN d
theorem chg_rd {S : Nat → Prop} {w w' w'' : World} (h : Chg S w w') (hd : ∃ d, w'' = w'.drewN d) : Chg S w w'' := by
  obtain ⟨d, rfl⟩ := hd
  exact h.drewN d
set_option maxRecDepth 100000 in
set_option maxHeartbeats 4000000 in
theorem down_calls (w : World) (tb g cap : Nat) (l : List Les) (i0 n n0 : Nat) (hlen : l.length = n0) (h : LTab w tb (.slice (some ⟨g, 0, none⟩) n0 cap) l) (hl : n0 ≤ 1000000) (hn : n ≤ n0) (hi : i0 < n0)
    (hinv : ∀ c, 0 < c → c < n → (c - 1) / 2 ≠ i0 → c ≠ i0 → Rim l c) (hg : Grand l i0 n) :
    Calls Tryz.prog 177 #[hv tb, .int .i64 i0, .int .i64 n] w fun e w' => ∃ b : Bool, e = .returned (.bool b) ∧ ∃ l', LTab w' tb (.slice (some ⟨g, 0, none⟩) n0 cap) l' ∧ l'.Perm l ∧ (∀ q, n ≤ q → l'[q]? = l[q]?) ∧ Chg (fun b => b = g) w w' ∧
      (b = true → HeapN l' n) ∧ (b = false → l' = l ∧ ∀ c, 0 < c → c < n → c ≠ i0 → Rim l c) := by
  have H0 : Hid (DInv n0 n i0 l l i0 ∧ LTab w tb (.slice (some ⟨g, 0, none⟩) n0 cap) l) := ⟨⟨hlen, List.Perm.refl _, fun _ _ => rfl, fun c h1 h2 h3 h4 => hinv c h1 h2 h3 (by omega), hg, Nat.le_refl _, fun _ => rfl⟩, h⟩
  clear h hinv hg hlen
  unfold hv
  go_enter Tryz.func177, Tryz.ntmps177
  go_wp2_with fail
  go_loopw [7] (fun v wr => ∃ (k : Nat) (m : List Les), k < n0 ∧ v = .int .i64 k ∧ Hid (DInv n0 n i0 l m k ∧ LTab wr tb (.slice (some ⟨g, 0, none⟩) n0 cap) m ∧ Chg (fun b => b = g) w wr)) (fun v _ => n0 - (intOf v).toNat)
  case atStart => exact ⟨i0, l, hi, rfl, H0.out.1, H0.out.2, Chg.refl _ _⟩
  case round =>
    obtain ⟨k, m, hk, rfl, H⟩ := hrel
    rename_i wr
    have hc : wr.cell? ⟨tb, 0, none⟩ = some (.slice (some ⟨g, 0, none⟩) n0 cap) := by simpa using H.out.2.1.cell.cell 0
    have HX0 : Hid (m[k]? = some (m[k]'(by have := H.out.1.len; omega))) := by have := H.out.1.len; exact (by simp : m[k]? = some m[k])
    generalize m[k]'(by have := H.out.1.len; omega) = x at HX0
    have HX := HX0
    obtain ⟨j1, hj1'⟩ : ∃ j, j = 2 * k + 1 := ⟨_, rfl⟩
    obtain ⟨j2, hj2'⟩ : ∃ j, j = 2 * k + 2 := ⟨_, rfl⟩
    have HJ1 := Lib.hid hj1'
    have HJ2 := Lib.hid hj2'
    have c1 : (2 : Int) * (k : Int) + 1 = (j1 : Int) := by omega
    have c2 : (j1 : Int) + 1 = (j2 : Int) := by omega
    have b1 : k < j1 := by omega
    have b2 : j1 < j2 := by omega
    clear hj1' hj2'
    by_cases hj1 : n ≤ j1
    · have HE := Lib.hid (H.out.1.stop HX.out (fun c z h1 h2 h3 h4 => by have := HJ1.out; omega))
      have d1 : decide ((n : Int) ≤ (j1 : Int)) = true := by simp; omega
      go_wp2_with fail
      go_ret
      exact ⟨decide (i0 < k), rfl, m, H.out.2.1, H.out.1.perm, H.out.1.tail, H.out.2.2, fun e => HE.out.1 (of_decide_eq_true e), fun e => HE.out.2 (of_decide_eq_false e)⟩
    · have hjn : j1 < n := by omega
      have HA : Hid (m[j1]? = some (m[j1]'(by have := H.out.1.len; omega))) := by have := H.out.1.len; exact (by simp : m[j1]? = some m[j1])
      generalize m[j1]'(by have := H.out.1.len; omega) = a at HA
      clear hj1 HX0
      by_cases hj2 : j2 < n
      · have hb1 : m[j2]? = some (m[j2]'(by have := H.out.1.len; omega)) := by have := H.out.1.len; exact (by simp : m[j2]? = some m[j2])
        generalize m[j2]'(by have := H.out.1.len; omega) = b at hb1
        have HB := Lib.hid hb1
        clear hb1
        go_wp2_with fail
        refine (eless_calls 0 g n0 cap m j2 j1 b a wr (LTab.theRow H.out.2.1 H.out.1.len) HB.out HA.out).mono ?_
        rintro e w1 ⟨rfl, hd1⟩
        have T1 := Lib.hid (H.out.2.1.rd hd1)
        have C1 := Lib.hid (chg_rd H.out.2.2 hd1)
        have hc1 : w1.cell? ⟨tb, 0, none⟩ = some (.slice (some ⟨g, 0, none⟩) n0 cap) := by simpa using T1.out.cell.cell 0
        clear hd1
        by_cases hba : b.e < a.e
        · rw [decide_eq_true hba]
          have HM : Hid (∀ c z, 0 < c → c < n → (c - 1) / 2 = k → m[c]? = some z → b.e ≤ z.e) := min_right (a := a) (by rw [← HJ1.out]; exact HA.out) (by rw [← HJ2.out]; exact HB.out) hba
          have HY := HB
          generalize hbb : b = y at *
          have hj : Hid (j2 = 2 * k + 1 ∨ j2 = 2 * k + 2) := .inr HJ2.out
          go_wp2_with fail
          refine (eless_calls 0 g n0 cap m j2 k y x w1 (LTab.theRow T1.out H.out.1.len) HY.out HX.out).mono ?_
          rintro e w2 ⟨rfl, hd2⟩
          have T2 := Lib.hid (LTab.rd T1.out hd2)
          have C2 := Lib.hid (chg_rd C1.out hd2)
          have hc2 : w2.cell? ⟨tb, 0, none⟩ = some (.slice (some ⟨g, 0, none⟩) n0 cap) := by simpa using T2.out.cell.cell 0
          clear hd2
          by_cases hlt : y.e < x.e
          · rw [decide_eq_true hlt]
            go_wp2_with fail
            refine (eswap_calls 0 g n0 cap m k j2 x y _ (LTab.theRow T2.out H.out.1.len) HX.out HY.out).mono ?_
            rintro e w' ⟨rfl, hrow, hchg⟩
            have HN : Hid (DInv n0 n i0 l (swap m k j2) j2 ∧ LTab w' tb (.slice (some ⟨g, 0, none⟩) n0 cap) (swap m k j2) ∧ Chg (fun b => b = g) w w') :=
              ⟨H.out.1.step hj.out (by omega) HX.out HY.out hlt HM.out, T2.out.row' H.out.1.len hrow hchg, C2.out.trans hchg⟩
            clear hrow hchg H
            go_wp2_with fail
            exact ⟨⟨j2, swap m k j2, by omega, rfl, HN⟩, by simp [intOf]; omega⟩
          · rw [decide_eq_false hlt]
            have HE := Lib.hid (H.out.1.stop HX.out (fun c z h1 h2 h3 h4 => by have := HM.out c z h1 h2 h3 h4; omega))
            go_wp2_with fail
            go_ret
            exact ⟨decide (i0 < k), rfl, m, T2.out, H.out.1.perm, H.out.1.tail, C2.out, fun e => HE.out.1 (of_decide_eq_true e), fun e => HE.out.2 (of_decide_eq_false e)⟩
        · rw [decide_eq_false hba]
          have HM : Hid (∀ c z, 0 < c → c < n → (c - 1) / 2 = k → m[c]? = some z → a.e ≤ z.e) := min_left (by rw [← HJ1.out]; exact HA.out) (fun b' _ hb' => by rw [← HJ2.out, HB.out] at hb'; cases hb'; exact hba)
          have HY := HA
          generalize hbb : a = y at *
          have hj : Hid (j1 = 2 * k + 1 ∨ j1 = 2 * k + 2) := .inl HJ1.out
          go_wp2_with fail
          refine (eless_calls 0 g n0 cap m j1 k y x w1 (LTab.theRow T1.out H.out.1.len) HY.out HX.out).mono ?_
          rintro e w2 ⟨rfl, hd2⟩
          have T2 := Lib.hid (LTab.rd T1.out hd2)
          have C2 := Lib.hid (chg_rd C1.out hd2)
          have hc2 : w2.cell? ⟨tb, 0, none⟩ = some (.slice (some ⟨g, 0, none⟩) n0 cap) := by simpa using T2.out.cell.cell 0
          clear hd2
          by_cases hlt : y.e < x.e
          · rw [decide_eq_true hlt]
            go_wp2_with fail
            refine (eswap_calls 0 g n0 cap m k j1 x y _ (LTab.theRow T2.out H.out.1.len) HX.out HY.out).mono ?_
            rintro e w' ⟨rfl, hrow, hchg⟩
            have HN : Hid (DInv n0 n i0 l (swap m k j1) j1 ∧ LTab w' tb (.slice (some ⟨g, 0, none⟩) n0 cap) (swap m k j1) ∧ Chg (fun b => b = g) w w') :=
              ⟨H.out.1.step hj.out (by omega) HX.out HY.out hlt HM.out, T2.out.row' H.out.1.len hrow hchg, C2.out.trans hchg⟩
            clear hrow hchg H
            go_wp2_with fail
            exact ⟨⟨j1, swap m k j1, by omega, rfl, HN⟩, by simp [intOf]; omega⟩
          · rw [decide_eq_false hlt]
            have HE := Lib.hid (H.out.1.stop HX.out (fun c z h1 h2 h3 h4 => by have := HM.out c z h1 h2 h3 h4; omega))
            go_wp2_with fail
            go_ret
            exact ⟨decide (i0 < k), rfl, m, T2.out, H.out.1.perm, H.out.1.tail, C2.out, fun e => HE.out.1 (of_decide_eq_true e), fun e => HE.out.2 (of_decide_eq_false e)⟩
      · have HM : Hid (∀ c z, 0 < c → c < n → (c - 1) / 2 = k → m[c]? = some z → a.e ≤ z.e) := min_left (by rw [← HJ1.out]; exact HA.out) (fun b' h _ => by have := HJ2.out; omega)
        have HY := HA
        generalize hbb : a = y at *
        have hj : Hid (j1 = 2 * k + 1 ∨ j1 = 2 * k + 2) := .inl HJ1.out
        go_wp2_with fail
        refine (eless_calls 0 g n0 cap m j1 k y x wr (LTab.theRow H.out.2.1 H.out.1.len) HY.out HX.out).mono ?_
        rintro e w2 ⟨rfl, hd2⟩
        have T2 := Lib.hid (LTab.rd H.out.2.1 hd2)
        have C2 := Lib.hid (chg_rd H.out.2.2 hd2)
        have hc2 : w2.cell? ⟨tb, 0, none⟩ = some (.slice (some ⟨g, 0, none⟩) n0 cap) := by simpa using T2.out.cell.cell 0
        clear hd2
        by_cases hlt : y.e < x.e
        · rw [decide_eq_true hlt]
          go_wp2_with fail
          refine (eswap_calls 0 g n0 cap m k j1 x y _ (LTab.theRow T2.out H.out.1.len) HX.out HY.out).mono ?_
          rintro e w' ⟨rfl, hrow, hchg⟩
          have HN : Hid (DInv n0 n i0 l (swap m k j1) j1 ∧ LTab w' tb (.slice (some ⟨g, 0, none⟩) n0 cap) (swap m k j1) ∧ Chg (fun b => b = g) w w') :=
            ⟨H.out.1.step hj.out (by omega) HX.out HY.out hlt HM.out, T2.out.row' H.out.1.len hrow hchg, C2.out.trans hchg⟩
          clear hrow hchg H
          go_wp2_with fail
          exact ⟨⟨j1, swap m k j1, by omega, rfl, HN⟩, by simp [intOf]; omega⟩
        · rw [decide_eq_false hlt]
          have HE := Lib.hid (H.out.1.stop HX.out (fun c z h1 h2 h3 h4 => by have := HM.out c z h1 h2 h3 h4; omega))
          go_wp2_with fail
          go_ret
          exact ⟨decide (i0 < k), rfl, m, T2.out, H.out.1.perm, H.out.1.tail, C2.out, fun e => HE.out.1 (of_decide_eq_true e), fun e => HE.out.2 (of_decide_eq_false e)⟩
end Go.Proofs.YtclhgokchcklbaaGreatDoor
end
section
namespace Go.Proofs.YtclhgokchcklbaaGreatDoor
open Go Go.RowKit Go.Mem Gf Lea
attribute [local go_sem ↓] Go.wp_at_zero Go.wp_at_succ load_item store_item
attribute [local go_sem] meth_less meth_swap meth_len meth_push meth_pop ptrB_eq ptrO_eq ptrIs_eq aggL_eq aggIs_eq
theorem EKi : ElemK Tryz.prog 135 191 (.agg ((List.replicate 32 (Value.int .u8 0)) ++ [Value.int .i64 0]).toArray) 33 40 := ⟨Tryz.underlying135, by kernel_rfl, rfl, by decide⟩
theorem as_item (v : Value) (w : World) : (Instr.typeAssert (.iface 191 v) 20 191 false).run Tryz.prog w = .ok v w := by kernel_rfl
attribute [local go_sem] as_item
theorem slice_item (dst : Option Tmp) (x : Operand) (ty : TypeId) (pos : String) (af : Array Edge) (a : Act) (w : World) (K : Act → World → Prop) (Q : Exit → Act → World → Prop) (hy : aggIs (a.eval x) = true) (hc : AllK 33 (aggL (a.eval x))) :
    Oper.wp Tryz.prog ⟨dst, .buildSlice 135 1 #[(0, x)], ty, pos, af, none⟩ a w K Q = K (a.put dst (.slice (some ⟨w.heap.size, 0, none⟩) 1 1)) (w.alloc (.cells (aggL (a.eval x)).toArray 191)) :=
  wp_sliceK Tryz.underlying135 (by kernel_rfl) (by decide) (by decide) dst x ty pos af a w K Q hy hc
attribute [local go_sem ↓] slice_item
def TChg (tb : Nat) (v v' : Value) (w w' : World) : Prop := Chg (fun b => b = tb ∨ v.ownBlock = some b) w w' ∧ ∀ k, v'.ownBlock = some k → v.ownBlock = some k ∨ w.heap.size ≤ k
theorem chg_cell (w : World) (g i : Nat) (v : Value) : Chg (fun b => b = g) w (w.setCell ⟨g, i, none⟩ v) := Chg.set (S := fun b => b = g) (Chg.refl _ _) (a := ⟨g, i, none⟩) rfl v
set_option maxRecDepth 100000 in
theorem epush_calls (w : World) (tb : Nat) (v : Value) (l : List Les) (x : Les) (n : Nat) (hn : l.length = n) (h : LTab w tb v l) (hx : Wf x) (hl : n ≤ 1000000) :
    Calls Tryz.prog 271 #[.pointer (some ⟨tb, 0, none⟩), .iface 191 (.agg (cellsI x).toArray)] w fun e w' => e = .returned (.tuple #[]) ∧ ∃ v', LTab w' tb v' (l ++ [x]) ∧ TChg tb v v' w w' := by
  have hc : w.cell? ⟨tb, 0, none⟩ = some v := by simpa using h.cell.cell 0
  have hf := h.cell.free 0
  have H := Lib.hid h
  have hn32 : n + 1 ≤ 4294967296 := by omega
  have hk := allI_cells hx
  clear h
  go_enter Tryz.func271, Tryz.ntmps271
  go_wp2_with fail
  have hlt : tb < w.heap.size := H.out.cell.lt
  go_region_law
    (first
      | (refine stepAppN EKi (by rfl) _ _ (by rfl) (base := 0) (v := v) (n := n) (m := 1) (xs := itemsV l) (cellsI x) (by rfl) (by rfl) (by rw [cellsI_len hx]) (by exact new_news rfl) (one_cellsI x) (by have ho := H.out.own; rw [hn] at ho; exact (show w.drew.ownsRow _ _ _ _ _ _ from ho).alloc _) hn32 (by decide) (by omega) ?_
         intro v1 x1 hv1 hg1 hs1
         obtain ⟨a1, cp1, rfl, _⟩ := own_eq_slice hv1
         have hB1 : Blk x1 tb #[v] 137 := Blk.grown' (by exact (show Blk w.drew _ _ _ from H.out.cell).alloc _) hg1 H.out.apart
         have hh : x1.cell? ⟨tb, 0, none⟩ = some v := by simpa using hB1.cell 0
         have f2 : x1.frozen? ⟨tb, 0, none⟩ = false := hB1.free 0
         have hxc : Chg (fun b => b = tb ∨ v.ownBlock = some b) w x1 := Chg.grown (Chg.of_below ((Below.refl _ _).drew.alloc (by exact Nat.le_refl _) _)) hg1 (fun q hq => .inl (.inr hq))))
  all_goals
    go_wp2_with fail
    go_end0
    refine ⟨rfl, .slice a1 (n + 1) cp1, ⟨hB1.set 0 _, ?_, ?_, ?_⟩, hxc.set (a := ⟨tb, 0, none⟩) (.inl rfl) _, ?_⟩
    · have hne : (Value.slice a1 (n + 1) cp1).ownBlock ≠ some tb := fun e => by
        rcases hs1 tb e with e1 | e1
        · exact H.out.apart e1
        · simp at e1; omega
      rw [itemsV_app, show itemsV [x] = cellsI x from by simp [itemsV], List.length_append, hn]
      exact own_chg hv1 (chg_cell x1 tb 0 _) (fun g hg e => hne (by rw [hg, e]))
    · intro y hy
      rcases List.mem_append.1 hy with hy | hy
      · exact H.out.wf y hy
      · rw [List.mem_singleton.1 hy]; exact hx
    · intro e
      rcases hs1 tb e with e1 | e1
      · exact H.out.apart e1
      · simp at e1; omega
    · intro k hk
      rcases hs1 k hk with e1 | e1
      · exact .inl e1
      · right; simp at e1; omega
end Go.Proofs.YtclhgokchcklbaaGreatDoor
end
section
namespace Go.Proofs.YtclhgokchcklbaaGreatDoor
open Go Go.RowKit Go.Mem Gf Lea
attribute [local go_sem ↓] Go.wp_at_zero Go.wp_at_succ load_item store_item slice_item
attribute [local go_sem] meth_less meth_swap meth_len meth_push meth_pop ptrB_eq ptrO_eq ptrIs_eq aggL_eq aggIs_eq as_item
theorem TChg.then {tb g n c n' c' : Nat} {v : Value} {w w' w'' : World} (h : TChg tb v (.slice (some ⟨g, 0, none⟩) n c) w w') (h' : Chg (fun b => b = g) w' w'') : TChg tb v (.slice (some ⟨g, 0, none⟩) n' c') w w'' :=
  ⟨h.1.mix h' (fun k hk => by rcases h.2 k (by rw [hk]; rfl) with h | h; exact .inl (.inr h); exact .inr h), fun k hk => h.2 k hk⟩
theorem TChg.of {tb g n c n' c' : Nat} {w w' : World} (h : Chg (fun b => b = g) w w') : TChg tb (.slice (some ⟨g, 0, none⟩) n c) (.slice (some ⟨g, 0, none⟩) n' c') w w' :=
  ⟨h.mono (fun _ hk => .inr (by rw [hk]; rfl)), fun _ hk => .inl hk⟩
theorem TChg.trans {tb : Nat} {v v1 v2 : Value} {w w1 w2 : World} (h : TChg tb v v1 w w1) (h' : TChg tb v1 v2 w1 w2) : TChg tb v v2 w w2 :=
  ⟨h.1.mix h'.1 (fun k hk => by
    rcases hk with hk | hk
    · exact .inl (.inl hk)
    · rcases h.2 k hk with h | h
      · exact .inl (.inr h)
      · exact .inr h), fun k hk => by
    rcases h'.2 k hk with h1 | h1
    · exact h.2 k h1
    · exact .inr (Nat.le_trans h.1.size h1)⟩
structure Heap (w : World) (tb : Nat) (v : Value) (l : List Les) : Prop where
  tab : LTab w tb v l
  heap : HeapN l l.length
set_option maxRecDepth 100000 in
set_option maxHeartbeats 1000000 in
theorem hpush_calls (w : World) (tb : Nat) (v : Value) (l : List Les) (x : Les) (h : Heap w tb v l) (hx : Wf x) (hl : l.length ≤ 100000) :
    Calls Tryz.prog 136 #[hv tb, .iface 191 (.agg (cellsI x).toArray)] w fun e w' => e = .returned (.tuple #[]) ∧ ∃ v' l', Heap w' tb v' l' ∧ l'.Perm (l ++ [x]) ∧ TChg tb v v' w w' := by
  have H := Lib.hid h
  clear h
  unfold hv
  go_enter Tryz.func136, Tryz.ntmps136
  go_wp2_with fail
  refine (epush_calls w tb v l x l.length rfl H.out.tab hx (by omega)).mono ?_
  rintro e w1 ⟨rfl, v1, hT, hC⟩
  have hl1 : (l ++ [x]).length = l.length + 1 := by simp
  obtain ⟨g, cap, rfl, hrow⟩ := hT.ex (by omega)
  have hT1 := Lib.hid hT
  have hc1 : w1.cell? ⟨tb, 0, none⟩ = some (.slice (some ⟨g, 0, none⟩) (l ++ [x]).length cap) := by simpa using hT.cell.cell 0
  rw [hl1] at hc1
  have HC := Lib.hid hC
  clear hT hC hrow
  go_wp2_with fail
  refine (elen_calls _ _ _ _).mono ?_
  rintro e w2 ⟨rfl, rfl⟩
  obtain ⟨n, hn⟩ : ∃ n, n = l.length := ⟨_, rfl⟩
  have hp := push_pre H.out.heap x
  rw [← hn] at hc1 hl hl1 hp ⊢
  rw [hl1] at hT1 HC
  have HP := Lib.hid hp; have HL1 := Lib.hid hl1
  have e1 : ((n + 1 : Nat) : Int) - 1 = (n : Int) := by omega
  clear hp hl1 hn
  go_wp2_with fail
  refine (up_calls w1 tb g cap (l ++ [x]) n (n + 1) (n + 1) HL1.out hT1.out (by omega) (Nat.le_refl _) (by omega) HP.out.1 HP.out.2).mono ?_
  rintro e w2 ⟨rfl, l', h1, h2, h3, h4, h5⟩
  go_wp2_with fail
  go_end0
  exact ⟨rfl, _, l', ⟨h1, by rw [h2.length_eq, HL1.out]; exact h3⟩, h2, HC.out.then h5⟩
set_option maxRecDepth 100000 in
set_option maxHeartbeats 1000000 in
theorem hfix_calls (w : World) (tb : Nat) (v : Value) (l : List Les) (k n : Nat) (hn : l.length = n) (h : LTab w tb v l) (hl : n ≤ 100000) (hk : k < n)
    (hinv : ∀ c, 0 < c → c < n → (c - 1) / 2 ≠ k → c ≠ k → Rim l c) (hg : Grand l k n) :
    Calls Tryz.prog 137 #[hv tb, .int .i64 k] w fun e w' => e = .returned (.tuple #[]) ∧ ∃ l', Heap w' tb v l' ∧ l'.Perm l ∧ TChg tb v v w w' := by
  obtain ⟨g, cap, rfl, hrow⟩ := h.ex (by omega)
  have hc : w.cell? ⟨tb, 0, none⟩ = some (.slice (some ⟨g, 0, none⟩) l.length cap) := by simpa using h.cell.cell 0
  rw [hn] at hc h ⊢
  have H := Lib.hid (And.intro h (And.intro hinv hg))
  have HN := Lib.hid hn
  clear hn h hinv hg hrow
  unfold hv
  go_enter Tryz.func137, Tryz.ntmps137
  go_wp2_with fail
  refine (elen_calls _ _ _ _).mono ?_
  rintro e w2 ⟨rfl, rfl⟩
  go_wp2_with fail
  refine (down_calls w tb g cap l k n n HN.out H.out.1 (by omega) (Nat.le_refl _) hk H.out.2.1 H.out.2.2).mono ?_
  rintro e w1 ⟨b, rfl, l1, h1, h2, h3, h4, h5, h6⟩
  have HL := Lib.hid h2.length_eq
  have H1 := Lib.hid (And.intro h1 (And.intro h2 (And.intro h4 (And.intro h5 h6))))
  clear h1 h2 h3 h4 h5 h6
  cases b
  · go_wp2_with fail
    obtain ⟨e6, h6⟩ := H1.out.2.2.2.2 (by first | rfl | trivial)
    refine (up_calls w1 tb g cap l k n n HN.out (by have := H1.out.1; rwa [e6] at this) (by omega) (Nat.le_refl _) hk h6 H.out.2.2).mono ?_
    rintro e w2 ⟨rfl, l', g1, g2, g3, g4, g5⟩
    go_wp2_with fail
    go_end0
    exact ⟨rfl, l', ⟨g1, by rw [g2.length_eq, HN.out]; exact g3⟩, g2, TChg.of (H1.out.2.2.1.trans g5)⟩
  · go_wp2_with fail
    go_end0
    exact ⟨rfl, l1, ⟨H1.out.1, by rw [HL.out, HN.out]; exact H1.out.2.2.2.1 (by first | rfl | trivial)⟩, H1.out.2.1, TChg.of H1.out.2.2.1⟩
end Go.Proofs.YtclhgokchcklbaaGreatDoor
end
section
namespace Go.Proofs.YtclhgokchcklbaaGreatDoor
open Go Go.RowKit Go.Mem Gf Lea
attribute [local go_sem ↓] Go.wp_at_zero Go.wp_at_succ load_item store_item slice_item
attribute [local go_sem] meth_less meth_swap meth_len meth_push meth_pop ptrB_eq ptrO_eq ptrIs_eq aggL_eq aggIs_eq as_item
end Go.Proofs.YtclhgokchcklbaaGreatDoor
end
section
namespace Srt
variable {α : Type}
def swap (l : List α) (i j : Nat) : List α := match l[i]?, l[j]? with
  | some x, some y => (l.set i y).set j x
  | _, _ => l
theorem lt_of_some {l : List α} {i : Nat} {x : α} (hx : l[i]? = some x) : i < l.length := by
  rcases Nat.lt_or_ge i l.length with h | h
  · exact h
  · rw [List.getElem?_eq_none h] at hx; cases hx
theorem swap_eq {l : List α} {i j : Nat} {x y : α} (hx : l[i]? = some x) (hy : l[j]? = some y) : swap l i j = (l.set i y).set j x := by
  unfold swap; rw [hx, hy]
theorem swap_get {l : List α} {i j : Nat} {x y : α} (hx : l[i]? = some x) (hy : l[j]? = some y) (k : Nat) : (swap l i j)[k]? = if k = j then some x else if k = i then some y else l[k]? := by
  have hi := lt_of_some hx
  have hj := lt_of_some hy
  rw [swap_eq hx hy]
  simp only [List.getElem?_set, List.length_set]
  by_cases h1 : k = j
  · subst h1; simp [hj]
  · have h1' : ¬ j = k := fun h => h1 h.symm
    by_cases h2 : k = i
    · subst h2; simp [h1, h1', hi]
    · have h2' : ¬ i = k := fun h => h2 h.symm
      simp [h1, h1', h2, h2']
theorem swap_len {l : List α} {i j : Nat} {x y : α} (hx : l[i]? = some x) (hy : l[j]? = some y) : (swap l i j).length = l.length := by
  rw [swap_eq hx hy]; simp
theorem swap_perm {l : List α} {i j : Nat} {x y : α} (hx : l[i]? = some x) (hy : l[j]? = some y) : (swap l i j).Perm l := by
  have hi := lt_of_some hx
  have hj := lt_of_some hy
  rw [swap_eq hx hy]
  rw [List.getElem?_eq_getElem hi] at hx
  rw [List.getElem?_eq_getElem hj] at hy
  cases hx; cases hy
  exact List.set_set_perm hi hj
structure Ord (lt : α → α → Bool) : Prop where
  asymm : ∀ a b, lt a b = true → lt b a = false
  trans : ∀ a b c, lt b a = false → lt c b = false → lt c a = false
def Upto (lt : α → α → Bool) (l : List α) (n : Nat) : Prop := ∀ p q x y, p < q → q < n → l[p]? = some x → l[q]? = some y → lt y x = false
def Ins (lt : α → α → Bool) (l : List α) (j i : Nat) : Prop :=
  (∀ p q x y, p < q → q ≤ i → p ≠ j → q ≠ j → l[p]? = some x → l[q]? = some y → lt y x = false) ∧ ∀ q x y, j < q → q ≤ i → l[j]? = some x → l[q]? = some y → lt y x = false
variable {lt : α → α → Bool} {l : List α} {i j : Nat}
theorem ins_start (h : Upto lt l i) : Ins lt l i i :=
  ⟨fun p q x y h1 h2 _ h4 hx hy => h p q x y h1 (by omega) hx hy, fun q x y h1 h2 => by omega⟩
theorem ins_step (hO : Ord lt) (h : Ins lt l j i) (h0 : 0 < j) (hj : j ≤ i) {x y : α} (hx : l[j]? = some x) (hy : l[j - 1]? = some y) (hlt : lt x y = true) : Ins lt (swap l j (j - 1)) (j - 1) i := by
  have hg := swap_get hx hy
  refine ⟨fun p q a b h1 h2 h3 h4 ha hb => ?_, fun q a b h1 h2 ha hb => ?_⟩
  · rw [hg, if_neg h3] at ha
    rw [hg, if_neg h4] at hb
    by_cases e1 : p = j
    · rw [if_pos e1] at ha
      cases ha
      rw [if_neg (by omega)] at hb
      exact h.1 (j - 1) q y b (by omega) h2 (by omega) (by omega) hy hb
    · rw [if_neg e1] at ha
      by_cases e2 : q = j
      · rw [if_pos e2] at hb
        cases hb
        exact h.1 p (j - 1) a y (by omega) (by omega) e1 (by omega) ha hy
      · rw [if_neg e2] at hb
        exact h.1 p q a b h1 h2 e1 e2 ha hb
  · rw [hg, if_pos rfl] at ha
    cases ha
    rw [hg, if_neg (by omega)] at hb
    by_cases e2 : q = j
    · rw [if_pos e2] at hb
      cases hb
      exact hO.asymm x y hlt
    · rw [if_neg e2] at hb
      exact h.2 q x b (by omega) h2 hx hb
theorem ins_stop (hO : Ord lt) (h : Ins lt l j i) (hj : j ≤ i) (hs : j = 0 ∨ ∃ x y, l[j]? = some x ∧ l[j - 1]? = some y ∧ lt x y = false) : Upto lt l (i + 1) := by
  intro p q a b h1 h2 ha hb
  by_cases e1 : p = j
  · subst e1
    exact h.2 q a b h1 (by omega) ha hb
  · by_cases e2 : q = j
    · subst e2
      rcases hs with e | ⟨x, y, hx, hy, hxy⟩
      · omega
      · rw [hx] at hb
        cases hb
        by_cases e3 : p = q - 1
        · subst e3
          rw [hy] at ha
          cases ha
          exact hxy
        · exact hO.trans a y _ (h.1 p (q - 1) a y (by omega) (by omega) e1 (by omega) ha hy) hxy
    · exact h.1 p q a b h1 (by omega) e1 e2 ha hb
theorem upto_pairwise {lt : α → α → Bool} (l : List α) (h : Upto lt l l.length) : l.Pairwise (fun x y => lt y x = false) := by
  rw [List.pairwise_iff_getElem]
  intro p q hp hq hpq
  exact h p q _ _ hpq hq (by simp) (by simp)
end Srt
end
section
namespace Go.Proofs.YtclhgokchcklbaaGreatDoor
open Go Go.RowKit Go.Mem Gf
attribute [local go_sem ↓] Go.wp_at_zero Go.wp_at_succ
structure Sorter {α : Type} (St : World → List α → Prop) (N : Nat → Prop) (lt : α → α → Bool) (g sf : Nat) (lb sb : Array Value) : Prop where
  new : ∀ W l, St W l → ∀ k, N k → k < W.heap.size
  alloc : ∀ W l o, St W l → St (W.alloc o) l
  less : ∀ W l (i j : Nat) x y, j < i → St W l → l[i]? = some x → l[j]? = some y → Calls Tryz.prog g (#[.int .i64 i, .int .i64 j] ++ lb) W fun e W' => e = .returned (.bool (lt x y)) ∧ St W' l ∧ Chg N W W'
  swap : ∀ W l (i j : Nat) x y, j < i → St W l → l[i]? = some x → l[j]? = some y → ∃ W', (callFunc sf (#[.int .i64 i, .int .i64 j] ++ sb)).run Tryz.prog W = .ok (.value (.tuple #[])) W' ∧ St W' (Srt.swap l i j) ∧ Chg N W W'
  enters : ∀ args w, (callFunc g args).run Tryz.prog w = .ok (.enter g args) w
  ord : Srt.Ord lt
theorem chg_box {N : Nat → Prop} {w wr : World} {o : Obj} (h : Chg N (w.alloc o) wr) : Chg N w wr := (Chg.of_below ((Below.refl _ _).alloc (Nat.le_refl _) o)).trans h
set_option maxHeartbeats 2000000 in
set_option maxRecDepth 100000 in
theorem ins_calls {α : Type} {St : World → List α → Prop} {N : Nat → Prop} {lt : α → α → Bool} {g sf : Nat} {lb sb : Array Value} (S : Sorter St N lt g sf lb sb) (l : List α) (n : Nat) (hn : l.length = n) (hl : n ≤ 1000) (w : World) (h : St w l) :
    Calls Tryz.prog 211 #[.agg #[.func (.func g) #[] lb, .func (.func sf) #[] sb], .int .i64 0, .int .i64 n] w fun e w' => e = .returned (.tuple #[]) ∧ ∃ l', St w' l' ∧ l'.Perm l ∧ Srt.Upto lt l' n ∧ Chg N w w' := by
  have eg := S.enters
  have SS := Lib.hid S
  have H0 : Hid (St (w.alloc (.cells #[.func (.func g) #[] lb, .func (.func sf) #[] sb] 228)) l) := S.alloc _ _ _ h
  have HN : Hid (¬ N w.heap.size) := fun e => Nat.lt_irrefl _ (S.new _ _ h _ e)
  have HB := Lib.hid (Blk.new w #[.func (.func g) #[] lb, .func (.func sf) #[] sb] 228)
  obtain ⟨bx, hbx⟩ : ∃ b, b = w.heap.size := ⟨_, rfl⟩
  obtain ⟨w0, hw0⟩ : ∃ x, x = w.alloc (.cells #[.func (.func g) #[] lb, .func (.func sf) #[] sb] 228) := ⟨_, rfl⟩
  have HW0 := Lib.hid hw0; have HBX := Lib.hid hbx
  rw [← hw0] at H0
  rw [← hbx] at HN
  rw [← hbx, ← hw0] at HB
  have HL := Lib.hid hn
  clear hw0 hbx h S hn
  go_enter Tryz.func211, Tryz.ntmps211
  go_upto_region 1 with fail
  rw [← HW0.out, ← HBX.out]
  go_wp2_with fail
  go_loopw [6] (fun vi wr => ∃ (i : Nat) (m : List α), 0 < i ∧ i ≤ n + 1 ∧ vi = .int .i64 i ∧ Hid (m.length = n ∧ St wr m ∧ m.Perm l ∧ Srt.Upto lt m (min i n) ∧ Chg N w0 wr)) (fun vi _ => n + 1 - (intOf vi).toNat)
  case atStart => exact ⟨1, l, by omega, by omega, rfl, HL.out, H0.out, List.Perm.refl _, fun p q _ _ h1 h2 => by omega, Chg.refl _ _⟩
  case round =>
    obtain ⟨i, m, hi0, hi1, rfl, H⟩ := hrel
    by_cases hin : i < n
    · go_wp2_with fail
      go_loopw [7] (fun vj wj => ∃ (j : Nat) (q : List α), j ≤ i ∧ vj = .int .i64 j ∧ Hid (q.length = n ∧ St wj q ∧ q.Perm l ∧ Srt.Ins lt q j i ∧ Chg N w0 wj)) (fun vj _ => (intOf vj).toNat)
      case atStart => exact ⟨i, m, Nat.le_refl _, rfl, H.out.1, H.out.2.1, H.out.2.2.1, Srt.ins_start (by have := H.out.2.2.2.1; rw [Nat.min_eq_left (by omega)] at this; exact this), H.out.2.2.2.2⟩
      case round =>
        obtain ⟨j, q, hji, rfl, G⟩ := hrel
        have HBJ := Lib.hid (G.out.2.2.2.2.blk HB.out HN.out)
        have c0 : wr.cell? ⟨bx, 0, none⟩ = some (.func (.func g) #[] lb) := HBJ.out.cell 0
        by_cases hj0 : 0 < j
        · have hx : q[j]? = some (q[j]'(by have := G.out.1; omega)) := by simp
          have hy : q[j - 1]? = some (q[j - 1]'(by have := G.out.1; omega)) := by simp
          generalize q[j]'(by have := G.out.1; omega) = x at hx
          generalize q[j - 1]'(by have := G.out.1; omega) = y at hy
          have hless := SS.out.less wr q j (j - 1) x y (by omega) G.out.2.1 hx hy
          rw [show (((j - 1 : Nat) : Int)) = (j : Int) - 1 by omega] at hless
          have HXY := Lib.hid (And.intro hx hy)
          have HLESS := Lib.hid hless
          clear hx hy hless
          go_wp2_with fail
          refine (HLESS.out).mono ?_
          rintro e w1 ⟨rfl, hS1, hC1⟩
          have HS1 := Lib.hid hS1; have HC1 := Lib.hid (G.out.2.2.2.2.trans hC1)
          have HB1 := Lib.hid (hC1.blk HBJ.out HN.out)
          have c1 : w1.cell? ⟨bx, 1, none⟩ = some (.func (.func sf) #[] sb) := HB1.out.cell 1
          clear hS1 hC1
          cases hlt : lt x y with
          | true =>
            obtain ⟨w2, hsw, hS2, hC2⟩ := SS.out.swap w1 q j (j - 1) x y (by omega) HS1.out HXY.out.1 HXY.out.2
            rw [show (((j - 1 : Nat) : Int)) = (j : Int) - 1 by omega] at hsw
            have HF : Hid ((Srt.swap q j (j - 1)).length = n ∧ St w2 (Srt.swap q j (j - 1)) ∧ (Srt.swap q j (j - 1)).Perm l ∧ Srt.Ins lt (Srt.swap q j (j - 1)) (j - 1) i ∧ Chg N w0 w2) :=
              ⟨by rw [Srt.swap_len HXY.out.1 HXY.out.2]; exact G.out.1, hS2, (Srt.swap_perm HXY.out.1 HXY.out.2).trans G.out.2.2.1, Srt.ins_step SS.out.ord G.out.2.2.2.1 hj0 hji HXY.out.1 HXY.out.2 hlt, HC1.out.trans hC2⟩
            have HSW := Lib.hid hsw
            clear hS2 hC2 hsw
            go_wp2_with fail
            rw [HSW.out, Oper.upon_value]
            go_wp2_with fail
            exact ⟨⟨j - 1, _, by omega, by congr 1; omega, HF.out⟩, by simp [intOf]; omega⟩
          | false =>
            have HF := Lib.hid (Srt.ins_stop SS.out.ord G.out.2.2.2.1 hji (.inr ⟨x, y, HXY.out.1, HXY.out.2, hlt⟩))
            go_wp2_with fail
            exact ⟨⟨i + 1, q, by omega, by omega, by go_num, G.out.1, HS1.out, G.out.2.2.1, by rw [Nat.min_eq_left (by omega)]; exact HF.out, HC1.out⟩, by simp [intOf]; omega⟩
        · have HF := Lib.hid (Srt.ins_stop SS.out.ord G.out.2.2.2.1 hji (.inl (by omega)))
          go_wp2_with fail
          exact ⟨⟨i + 1, q, by omega, by omega, by go_num, G.out.1, G.out.2.1, G.out.2.2.1, by rw [Nat.min_eq_left (by omega)]; exact HF.out, G.out.2.2.2.2⟩, by simp [intOf]; omega⟩
    · go_wp2_with fail
      go_end0
      refine ⟨rfl, m, H.out.2.1, H.out.2.2.1, ?_, ?_⟩
      · have := H.out.2.2.2.1
        rw [Nat.min_eq_right (by omega)] at this
        exact this
      · have := H.out.2.2.2.2
        rw [HW0.out] at this
        exact chg_box this
set_option maxHeartbeats 2000000 in
set_option maxRecDepth 100000 in
theorem pdq_calls {α : Type} {St : World → List α → Prop} {N : Nat → Prop} {lt : α → α → Bool} {g sf : Nat} {lb sb : Array Value} (S : Sorter St N lt g sf lb sb) (l : List α) (n : Nat) (lim : Int) (hn : l.length = n) (hl : n ≤ 12) (w : World) (h : St w l) :
    Calls Tryz.prog 181 #[.agg #[.func (.func g) #[] lb, .func (.func sf) #[] sb], .int .i64 0, .int .i64 n, .int .i64 lim] w fun e w' => e = .returned (.tuple #[]) ∧ ∃ l', St w' l' ∧ l'.Perm l ∧ Srt.Upto lt l' n ∧ Chg N w w' := by
  have H0 : Hid (St (w.alloc (.cells #[.func (.func g) #[] lb, .func (.func sf) #[] sb] 228)) l) := S.alloc _ _ _ h
  have SS := Lib.hid S
  have HB := Lib.hid (Blk.new w #[.func (.func g) #[] lb, .func (.func sf) #[] sb] 228)
  obtain ⟨bx, hbx⟩ : ∃ b, b = w.heap.size := ⟨_, rfl⟩
  obtain ⟨w0, hw0⟩ : ∃ x, x = w.alloc (.cells #[.func (.func g) #[] lb, .func (.func sf) #[] sb] 228) := ⟨_, rfl⟩
  have HW0 := Lib.hid hw0; have HBX := Lib.hid hbx
  rw [← hw0] at H0
  rw [← hbx, ← hw0] at HB
  have HL := Lib.hid hn
  have c0 : w0.cell? ⟨bx, 0, none⟩ = some (.func (.func g) #[] lb) := HB.out.cell 0
  have c1 : w0.cell? ⟨bx, 1, none⟩ = some (.func (.func sf) #[] sb) := HB.out.cell 1
  clear hw0 hbx h S hn
  go_enter Tryz.func181, Tryz.ntmps181
  go_upto_region 1 with fail
  rw [← HW0.out, ← HBX.out]
  go_wp2_with fail
  go_loopw [1, 2] (fun a b wr => wr = w0 ∧ a = .int .i64 0 ∧ b = .int .i64 n) (fun _ _ _ => 0)
  case atStart => exact ⟨rfl, rfl, rfl⟩
  case round =>
    obtain ⟨rfl, rfl, rfl⟩ := hrel
    go_wp2_with fail
    refine (ins_calls SS.out l n HL.out (by omega) _ H0.out).mono ?_
    rintro e w1 ⟨rfl, l', h1, h2, h3, h4⟩
    go_wp2_with fail
    go_returns
    rw [HW0.out] at h4
    exact ⟨rfl, l', h1, h2, h3, chg_box h4⟩
end Go.Proofs.YtclhgokchcklbaaGreatDoor
end
section
namespace Go.Mem
open Go Go.RowKit Gf
structure EncK {α : Type} (enc : α → List Value) (Wf : α → Prop) (k : Nat) : Prop where
  len : ∀ x, Wf x → (enc x).length = k
  one : ∀ x v, v ∈ enc x → v.oneCell' = true
  pos : 0 < k
def allV {α : Type} (enc : α → List Value) (l : List α) : List Value := l.flatMap enc
section
variable {α : Type} {enc : α → List Value} {Wf : α → Prop} {k : Nat}
theorem allV_len (E : EncK enc Wf k) : ∀ (l : List α), (∀ x ∈ l, Wf x) → (allV enc l).length = l.length * k
  | [], _ => by simp [allV]
  | x :: l, h => by
    have := allV_len E l (fun y hy => h y (by simp [hy]))
    unfold allV at this ⊢
    rw [List.flatMap_cons, List.length_append, E.len x (h x (by simp)), this, List.length_cons, Nat.add_mul]; omega
theorem allV_get (E : EncK enc Wf k) : ∀ (l : List α), (∀ x ∈ l, Wf x) → ∀ (i : Nat) (x : α), l[i]? = some x → ∀ c, c < k → (allV enc l)[i * k + c]? = (enc x)[c]?
  | y :: l, h, 0, x, hx, c, hc => by
    simp at hx
    subst hx
    unfold allV
    rw [List.flatMap_cons, Nat.zero_mul, Nat.zero_add, List.getElem?_append_left (by rw [E.len y (h y (by simp))]; exact hc)]
  | y :: l, h, i + 1, x, hx, c, hc => by
    have ih := allV_get E l (fun z hz => h z (by simp [hz])) i x (by simpa using hx) c hc
    have hl := E.len y (h y (by simp))
    unfold allV at ih ⊢
    have e : (i + 1) * k + c = k + (i * k + c) := by rw [Nat.add_mul]; omega
    rw [List.flatMap_cons, List.getElem?_append_right (by rw [hl]; omega), hl, e, Nat.add_sub_cancel_left]
    exact ih
theorem allV_app (l m : List α) : allV enc (l ++ m) = allV enc l ++ allV enc m := by unfold allV; rw [List.flatMap_append]
theorem allV_one (x : α) : allV enc [x] = enc x := by simp [allV]
theorem allV_news (E : EncK enc Wf k) (l : List α) : ∀ u ∈ allV enc l, u.oneCell' = true := fun u hu => by
  obtain ⟨x, _, hx⟩ := List.mem_flatMap.1 hu
  exact E.one x u hx
theorem wfG_set {l : List α} (h : ∀ x ∈ l, Wf x) {i : Nat} {y : α} (hy : Wf y) : ∀ x ∈ l.set i y, Wf x := fun x hx => by
  rcases List.mem_or_eq_of_mem_set hx with h' | rfl
  · exact h x h'
  · exact hy
theorem at_div {i j k : Nat} (hk : 0 < k) : (i * k ≤ j ∧ j < i * k + k) ↔ j / k = i := by
  have e := Nat.div_add_mod' j k
  have hr := Nat.mod_lt j hk
  constructor
  · rintro ⟨h1, h2⟩
    exact Nat.div_eq_of_lt_le h1 (by rw [Nat.add_mul]; omega)
  · intro h
    subst h
    omega
theorem allV_set (E : EncK enc Wf k) (l : List α) (h : ∀ x ∈ l, Wf x) {i : Nat} {y : α} (hy : Wf y) (hi : i < l.length) (j : Nat) (hj : j < l.length * k) :
    (allV enc (l.set i y))[j]? = if i * k ≤ j ∧ j < i * k + k then (enc y)[j - i * k]? else (allV enc l)[j]? := by
  have e := Nat.div_add_mod' j k
  have hr := Nat.mod_lt j E.pos
  have hq : j / k < l.length := Nat.div_lt_of_lt_mul (by rw [Nat.mul_comm]; exact hj)
  have hx : l[j / k]? = some l[j / k] := by simp
  by_cases c : i * k ≤ j ∧ j < i * k + k
  · rw [if_pos c]
    have hji := (at_div E.pos).1 c
    have := allV_get E _ (wfG_set h hy) i y (by rw [List.getElem?_set_self hi]) (j % k) hr
    rw [← hji, e] at this
    rw [← hji, this]
    congr 1
    omega
  · rw [if_neg c]
    have hji : i ≠ j / k := fun h' => c ((at_div E.pos).2 h'.symm)
    have h1 := allV_get E _ (wfG_set h hy) (j / k) _ (by rw [List.getElem?_set_ne hji]; exact hx) (j % k) hr
    have h2 := allV_get E l h (j / k) _ hx (j % k) hr
    rw [e] at h1 h2
    rw [h1, h2]
end
structure OwnG {α : Type} (enc : α → List Value) (Wf : α → Prop) (k : Nat) (ti : TypeId) (w : World) (base : Nat) (v : Value) (l : List α) : Prop where
  own : w.ownsRow base ti k v l.length (allV enc l)
  wf : ∀ x ∈ l, Wf x
structure RowG {α : Type} (enc : α → List Value) (Wf : α → Prop) (k : Nat) (ti : TypeId) (w : World) (base g n cap : Nat) (l : List α) : Prop where
  own : w.ownsRow base ti k (.slice (some ⟨g, 0, none⟩) n cap) n (allV enc l)
  len : n = l.length
  wf : ∀ x ∈ l, Wf x
section
variable {α : Type} {enc : α → List Value} {Wf : α → Prop} {k : Nat} {ti : TypeId} {w : World} {base g n cap : Nat} {l : List α} {v : Value}
theorem OwnG.nil (enc : α → List Value) (Wf : α → Prop) (k : Nat) (ti : TypeId) (w : World) (base : Nat) : OwnG enc Wf k ti w base (.slice none 0 0) ([] : List α) :=
  ⟨World.ownsRow_nil w base ti k, fun _ h => by cases h⟩
theorem OwnG.ex (h : OwnG enc Wf k ti w base v l) (h0 : 0 < l.length) : ∃ g cap, v = .slice (some ⟨g, 0, none⟩) l.length cap ∧ RowG enc Wf k ti w base g l.length cap l := by
  rcases h.own.2 with ⟨_, e⟩ | ⟨g, cap, cur, e, _⟩
  · omega
  · exact ⟨g, cap, e, by rw [← e]; exact h.own, rfl, h.wf⟩
theorem OwnG.slice (h : OwnG enc Wf k ti w base v l) : ∃ p c, v = .slice p l.length c := by
  obtain ⟨a, c, e, _⟩ := own_eq_slice h.own
  exact ⟨a, c, e⟩
theorem OwnG.chg {S : Nat → Prop} {w' : World} (h : OwnG enc Wf k ti w base v l) (hc : Chg S w w') (hs : ∀ g, v.ownBlock = some g → ¬ S g) : OwnG enc Wf k ti w' base v l := ⟨own_chg h.own hc hs, h.wf⟩
theorem OwnG.lower {b : Nat} (h : OwnG enc Wf k ti w base v l) (hb : b ≤ base) : OwnG enc Wf k ti w b v l := by
  refine ⟨⟨h.own.1, ?_⟩, h.wf⟩
  rcases h.own.2 with e | ⟨g, cap, cur, e, h1, h2⟩
  · exact .inl e
  · exact .inr ⟨g, cap, cur, e, by omega, h2⟩
theorem RowG.to (h : RowG enc Wf k ti w base g n cap l) : OwnG enc Wf k ti w base (.slice (some ⟨g, 0, none⟩) n cap) l := ⟨by rw [← h.len]; exact h.own, h.wf⟩
theorem RowG.block (h : RowG enc Wf k ti w base g n cap l) : ∃ cur : Array Value, w.heap[g]? = some (.cells cur ti (0, 0)) ∧ base ≤ g ∧ n ≤ cap ∧ cap ≤ maxLen ∧ cur.size = cap * k ∧ ∀ j, j < n * k → cur[j]? = (allV enc l)[j]? := by
  rcases h.own.2 with ⟨e, _⟩ | ⟨g', cap', cur, e, hb, hh, h1, h2, h3, h4⟩
  · cases e
  · cases e
    refine ⟨cur, hh, hb, h1, h2, h3, fun j hj => ?_⟩
    rw [← h4, List.getElem?_take, if_pos hj, Array.getElem?_toList]
theorem RowG.cell (h : RowG enc Wf k ti w base g n cap l) {j : Nat} (hj : j < n * k) : w.cell? ⟨g, j, none⟩ = (allV enc l)[j]? := by
  obtain ⟨cur, hh, _, _, _, _, hc⟩ := h.block
  rw [← hc j hj]
  have hB : Blk w g cur ti := hh
  exact hB.cell j
theorem some_lt {l : List α} {i : Nat} {x : α} (hx : l[i]? = some x) : i < l.length := by
  rcases Nat.lt_or_ge i l.length with h | h
  · exact h
  · rw [List.getElem?_eq_none h] at hx; cases hx
theorem in_row {i n k c : Nat} (hi : i < n) (hc : c < k) : i * k + c < n * k := by
  have := Nat.mul_le_mul_right k (show i + 1 ≤ n from hi)
  rw [Nat.add_mul, Nat.one_mul] at this
  omega
theorem RowG.range (E : EncK enc Wf k) (h : RowG enc Wf k ti w base g n cap l) {i : Nat} {x : α} (hx : l[i]? = some x) : w.rangeAt g (i * k) (enc x) := fun j v hv => by
  have hi := some_lt hx
  have hj : j < k := by
    have := some_lt hv
    rwa [E.len x (h.wf x (List.mem_of_getElem? hx))] at this
  rw [h.cell (in_row (by rw [h.len]; exact hi) hj), allV_get E l h.wf i x hx j hj]
  exact hv
theorem RowG.there (h : RowG enc Wf k ti w base g n cap l) {i : Nat} (hi : i < n) : w.there g (i * k) k := fun j hj => by
  obtain ⟨cur, hh, _, h1, _, h3, _⟩ := h.block
  have hB : Blk w g cur ti := hh
  have := in_row (k := k) hi hj
  have := Nat.mul_le_mul_right k h1
  exact ⟨by rw [hB.cell]; simp; omega, hB.free _⟩
theorem RowG.read (E : EncK enc Wf k) (h : RowG enc Wf k ti w base g n cap l) {i : Nat} {x : α} (hx : l[i]? = some x) : readK k w g (i * k) = enc x := readK_eq (h.range E hx) (E.len x (h.wf x (List.mem_of_getElem? hx)))
theorem RowG.set (E : EncK enc Wf k) (h : RowG enc Wf k ti w base g n cap l) {i : Nat} (hi : i < n) {y : α} (hy : Wf y) : RowG enc Wf k ti (w.setCells g (i * k) (enc y)) base g n cap (l.set i y) := by
  obtain ⟨cur, hh, hb, h1, h2, h3, h4⟩ := h.block
  have hB : Blk w g cur ti := hh
  obtain ⟨cur', b1, b2, b3⟩ := Blk.setCells (enc y) (i * k) w cur hB
  have hll := h.len
  have hm : n * k ≤ cap * k := Nat.mul_le_mul_right _ h1
  refine ⟨⟨?_, .inr ⟨g, cap, cur', rfl, hb, b1, h1, h2, by rw [b2, h3], ?_⟩⟩, by rw [List.length_set]; exact hll, wfG_set h.wf hy⟩
  · rw [allV_len E _ (wfG_set h.wf hy), List.length_set, hll]
  · apply List.ext_getElem?
    intro j
    have hlen := allV_len E _ (wfG_set h.wf hy (i := i))
    rw [List.length_set, ← hll] at hlen
    rw [List.getElem?_take, Array.getElem?_toList]
    by_cases hj : j < n * k
    · rw [if_pos hj, b3 j (by omega), allV_set E l h.wf hy (by omega) j (by rw [← hll]; exact hj), E.len y hy, h4 j hj]
    · rw [if_neg hj, List.getElem?_eq_none (by omega)]
theorem RowG.chg {S : Nat → Prop} {w' : World} (h : RowG enc Wf k ti w base g n cap l) (hc : Chg S w w') (hs : ¬ S g) : RowG enc Wf k ti w' base g n cap l := ⟨own_chg h.own hc (fun q hq => by cases hq; exact hs), h.len, h.wf⟩
theorem RowG.lt (h : RowG enc Wf k ti w base g n cap l) : g < w.heap.size := by
  obtain ⟨cur, hh, _⟩ := h.block
  exact lt_of_block hh
end
end Go.Mem
end
section
namespace Go.Mem
open Go Go.RowKit Gf
section
variable {w : World} {b : Nat} {arr : Array Value} {t : TypeId}
theorem blk_has {n o : Nat} (h : Blk w b arr t) (hn : o + n ≤ arr.size) : HasK n w b o := fun j hj => by
  exact ⟨by rw [h.cell]; simp; omega, h.free _⟩
theorem blk_read {n o : Nat} (h : Blk w b arr t) {cs : List Value} (hn : cs.length = n) (hc : ∀ k, k < n → arr[o + k]? = cs[k]?) : readK n w b o = cs := by
  refine readK_eq (fun k v hv => ?_) hn
  rw [h.cell, hc k (by rw [← hn]; exact (List.getElem?_eq_some_iff.1 hv).1)]
  exact hv
theorem blk_read0 {n : Nat} {cs : List Value} (h : Blk w b cs.toArray t) (hn : cs.length = n) : readK n w b 0 = cs := blk_read h hn (fun k _ => by rw [Nat.zero_add]; simp)
end
theorem eqItems_bytes {P : Program} (w : World) (d : Nat) {e : TypeId} (he : P.underlying e = some (.int .u8)) (hc : P.cellsOf e = 1) (xs ys : List UInt8) : ∀ is : List Nat, (∀ i ∈ is, i < xs.length ∧ i < ys.length) →
    (Op.eqItems (d + 1) e (P.cellsOf e) (bV xs).toArray (bV ys).toArray is).run P w = .ok (decide (∀ i ∈ is, xs[i]? = ys[i]?)) w
  | [], _ => by simp [Op.eqItems]
  | i :: is, h => by
    obtain ⟨h1, h2⟩ := h i (by simp)
    have hp : P.plainKey e = true := by simp [Program.plainKey, he]
    have hx : xs[i]? = some xs[i] := by simp
    have hy : ys[i]? = some ys[i] := by simp
    generalize xs[i] = a at hx
    generalize ys[i] = b at hy
    have p1 := run_part_plain (P := P) w hp (xs := (bV xs).toArray) (off := i * P.cellsOf e) (v := .int .u8 (a.toNat : Int)) (by rw [hc, Nat.mul_one]; simp [bV, hx])
    have p2 := run_part_plain (P := P) w hp (xs := (bV ys).toArray) (off := i * P.cellsOf e) (v := .int .u8 (b.toNat : Int)) (by rw [hc, Nat.mul_one]; simp [bV, hy])
    have ih := eqItems_bytes w d he hc xs ys is (fun j hj => h j (by simp [hj]))
    simp only [Op.eqItems, Sem.run_bind, p1, p2, run_equalIn_int w d e .u8 .u8 _ _ he, Result.andThen_ok]
    by_cases hab : a = b
    · subst hab
      simp only [beq_self_eq_true, Bool.not_true, Bool.false_eq_true, if_false, ih]
      congr 1
      simp [hx, hy]
    · have hn : ((a.toNat : Int) == (b.toNat : Int)) = false := by
        have : a.toNat ≠ b.toNat := fun e => hab (Gf.ext e)
        simp; omega
      simp only [hn, Bool.not_false, if_true, Sem.run_pure]
      congr 1
      rw [eq_comm, decide_eq_false_iff_not]
      intro hall
      have := hall i (by simp)
      rw [hx, hy] at this
      exact hab (Option.some.inj this)
theorem run_eq_bytes {P : Program} (w : World) (d n : Nat) {t e : TypeId} {i : TypeInfo} (hu : P.underlying t = some (.array n e)) (hi : P.info? e = some i) (he : P.underlying e = some (.int .u8)) (hc : P.cellsOf e = 1) (xs ys : List UInt8) (hx : xs.length = n) (hy : ys.length = n) :
    (Op.equalIn (d + 2) t (.agg (bV xs).toArray) (.agg (bV ys).toArray)).run P w = .ok (decide (xs = ys)) w := by
  rw [show d + 2 = (d + 1) + 1 from rfl, run_equalIn_array w (d + 1) _ _ hu hi, eqItems_bytes w d he hc xs ys (List.range n) (fun i hi => by rw [List.mem_range] at hi; omega)]
  congr 1
  refine decide_eq_decide.2 ⟨?_, ?_⟩
  · intro h
    apply List.ext_getElem?
    intro k
    rcases Nat.lt_or_ge k n with hk | hk
    · exact h k (List.mem_range.2 hk)
    · rw [List.getElem?_eq_none (by omega), List.getElem?_eq_none (by omega)]
  · intro h k _
    rw [h]
theorem cmp_refl : ∀ a : List UInt8, Go.Lib.compareBytes a a = 0
  | [] => rfl
  | x :: a => by
    unfold Go.Lib.compareBytes
    rw [if_neg (fun h => by exact absurd h (by simp)), if_neg (fun h => by exact absurd h (by simp))]
    exact cmp_refl a
theorem u8_lt (a b : UInt8) : a < b ↔ a.toNat < b.toNat := UInt8.lt_iff_toNat_lt
theorem cmp_neg : ∀ a b : List UInt8, Go.Lib.compareBytes b a = - Go.Lib.compareBytes a b
  | [], [] => rfl
  | [], _ :: _ => rfl
  | _ :: _, [] => rfl
  | x :: a, y :: b => by
    unfold Go.Lib.compareBytes
    have h1 := u8_lt x y
    have h2 := u8_lt y x
    by_cases c1 : x < y
    · have c2 : ¬ y < x := by rw [h2]; rw [h1] at c1; omega
      rw [if_neg c2, if_pos c1, if_pos c1]; rfl
    · by_cases c2 : y < x
      · rw [if_pos c2, if_neg c1, if_pos c2]
      · rw [if_neg c2, if_neg c1, if_neg c1, if_neg c2]; exact cmp_neg a b
theorem cmp_trans : ∀ a b c : List UInt8, Go.Lib.compareBytes a b ≤ 0 → Go.Lib.compareBytes b c ≤ 0 → Go.Lib.compareBytes a c ≤ 0
  | [], _, [], _, _ => by decide
  | [], _, _ :: _, _, _ => by show (-1 : Int) ≤ 0; decide
  | _ :: _, [], _, h, _ => by exact absurd (show (1 : Int) ≤ 0 from h) (by decide)
  | _ :: _, _ :: _, [], _, h => by exact absurd (show (1 : Int) ≤ 0 from h) (by decide)
  | x :: a, y :: b, z :: c, h1, h2 => by
    unfold Go.Lib.compareBytes at h1 h2 ⊢
    have e1 := u8_lt x y; have e2 := u8_lt y x; have e3 := u8_lt y z; have e4 := u8_lt z y; have e5 := u8_lt x z; have e6 := u8_lt z x
    by_cases c5 : x < z
    · rw [if_pos c5]; decide
    · rw [if_neg c5]
      have d2 : ¬ y < x := fun c => by
        have : ¬ x < y := by rw [e1]; rw [e2] at c; omega
        rw [if_neg this, if_pos c] at h1
        exact absurd h1 (by decide)
      have d4 : ¬ z < y := fun c => by
        have : ¬ y < z := by rw [e3]; rw [e4] at c; omega
        rw [if_neg this, if_pos c] at h2
        exact absurd h2 (by decide)
      have e : ¬ z < x := by rw [e6]; rw [e2] at d2; rw [e4] at d4; omega
      rw [if_neg e]
      have d1 : ¬ x < y := by rw [e1]; rw [e5] at c5; rw [e2] at d2; rw [e4] at d4; omega
      have d3 : ¬ y < z := by rw [e3]; rw [e5] at c5; rw [e2] at d2; rw [e4] at d4; omega
      rw [if_neg d1, if_neg d2] at h1
      rw [if_neg d3, if_neg d4] at h2
      exact cmp_trans a b c h1 h2
theorem cmp_eq0 : ∀ a b : List UInt8, Go.Lib.compareBytes a b = 0 → a = b
  | [], [], _ => rfl
  | [], _ :: _, h => by exact absurd (show (-1 : Int) = 0 from h) (by decide)
  | _ :: _, [], h => by exact absurd (show (1 : Int) = 0 from h) (by decide)
  | x :: a, y :: b, h => by
    unfold Go.Lib.compareBytes at h
    have e1 := u8_lt x y; have e2 := u8_lt y x
    by_cases c1 : x < y
    · rw [if_pos c1] at h; exact absurd h (by decide)
    · rw [if_neg c1] at h
      by_cases c2 : y < x
      · rw [if_pos c2] at h; exact absurd h (by decide)
      · rw [if_neg c2] at h
        have : x = y := Gf.ext (by rw [e1] at c1; rw [e2] at c2; omega)
        rw [this, cmp_eq0 a b h]
end Go.Mem
namespace Go.Proofs.YtclhgokchcklbaaGreatDoor
open Go Go.RowKit Go.Mem Gf
theorem bytesOf_back (bs : List UInt8) : Lib.bytesOf (bs.map fun u => (u.toNat : Int)) = bs := by
  unfold Lib.bytesOf
  rw [List.map_map]
  conv => rhs; rw [← List.map_id bs]
  apply List.map_congr_left
  intro u _
  simp
theorem run_bytesOf_bys {P : Program} {w : World} {v : Value} {bs : List UInt8} (h : Bys w v bs) : (Extern.Bytes.bytesOf v).run P w = .ok ⟨bs.toArray⟩ w := by
  obtain ⟨a, cap, rfl, h1, h2, h3⟩ := h
  cases a with
  | none =>
    have : bs = [] := by
      rcases Nat.eq_zero_or_pos bs.length with e | e
      · exact List.eq_nil_of_length_eq_zero e
      · obtain ⟨b, off, e2, _⟩ := h3 e; cases e2
    subst this
    simp [Extern.Bytes.bytesOf]
    rfl
  | some a =>
    have hl := Lib.run_loadBytesX (P := P) w (bs.map fun u => (u.toNat : Int)) a .empty (fun j x hj => by
      rw [List.getElem?_map] at hj
      obtain ⟨u, hu, rfl⟩ := Option.map_eq_some_iff.1 hj
      have hp : 0 < bs.length := by have := (List.getElem?_eq_some_iff.1 hu).1; omega
      obtain ⟨b, off, e, hc⟩ := h3 hp
      cases e
      have e2 : (⟨b, off, none⟩ : Addr).add j = ⟨b, off + j, none⟩ := by unfold Addr.add; split <;> simp_all
      rw [e2]
      exact hc j u hu)
    rw [List.length_map, bytesOf_back] at hl
    show (Extern.Bytes.loadBytes a bs.length .empty).run P w = _
    rw [hl, show ByteArray.empty.data ++ bs.toArray = bs.toArray from Array.empty_append ..]
set_option maxRecDepth 100000 in
noncomputable def cmpFn : Func := (Tryz.prog.funcs[182]?).get (by kernel_rfl)
set_option maxRecDepth 100000 in
theorem cmpFn_is : Tryz.prog.funcs[182]? = some cmpFn := (Option.some_get _).symm
set_option maxRecDepth 100000 in
theorem bcomp_calls (va vb : Value) (xs ys : List UInt8) (w : World) (ha : Bys w va xs) (hb : Bys w vb ys) :
    Calls Tryz.prog 141 #[va, vb] w fun e w' => e = .returned (.int .i64 (Go.Lib.compareBytes xs ys)) ∧ w' = w := by
  have h1 := run_bytesOf_bys (P := Tryz.prog) ha
  have h2 := run_bytesOf_bys (P := Tryz.prog) hb
  have hx : (callFunc 182 #[va, vb]).run Tryz.prog w = .ok (.value (.int .i64 (Go.Lib.compareBytes xs ys))) w := by
    rw [run_callFunc_extern cmpFn_is (by kernel_rfl) (by kernel_rfl) (by kernel_rfl) (e := Extern.BytealgCompare.compare) (by kernel_rfl)]
    change ((do pure (goInt (Extern.BytealgCompare.cmp (← Extern.Bytes.bytesOf va) (← Extern.Bytes.bytesOf vb))) : Sem Value).run Tryz.prog w).andThen _ = _
    simp only [Sem.run_bind, h1, h2, Sem.run_pure, Result.andThen_ok]
    rw [Lib.cmp_eq]
    rfl
  clear ha hb h1 h2
  go_enter Tryz.func141, Tryz.ntmps141
  go_wp2_with fail
  go_ret
  exact ⟨rfl, rfl⟩
end Go.Proofs.YtclhgokchcklbaaGreatDoor
end
section
namespace Lea
open Go Go.RowKit Go.Mem Gf
abbrev Sec := List UInt8 × Int
def encL (x : Sec) : List Value := bV x.1 ++ [.int .i64 x.2]
def WfL (x : Sec) : Prop := x.1.length = 16
theorem ecL : EncK encL WfL 17 := by
  refine ⟨fun x h => ?_, fun x v hv => ?_, by decide⟩
  · unfold encL
    rw [List.length_append, bV_len, h, List.length_singleton]
  · unfold encL at hv
    rcases List.mem_append.1 hv with hv | hv
    · exact bV_one _ v hv
    · rw [List.mem_singleton.1 hv]; rfl
theorem encL_end {x : Sec} (h : WfL x) : (encL x)[16]? = some (.int .i64 x.2) := by
  unfold encL
  rw [List.getElem?_append_right (by rw [bV_len, h]; omega), bV_len, h]
  rfl
theorem encL_sec {x : Sec} {k : Nat} {u : UInt8} (h : x.1[k]? = some u) : (encL x)[k]? = some (.int .u8 u.toNat) := by
  unfold encL
  rw [List.getElem?_append_left (by rw [bV_len]; exact (List.getElem?_eq_some_iff.1 h).1)]
  simp [bV, h]
theorem allL {x : Sec} (h : WfL x) : AllK 17 (encL x) := ⟨ecL.len x h, ecL.one x⟩
def ltL (a b : Sec) : Bool := decide (a.2 < b.2) || (decide (a.2 = b.2) && decide (Go.Lib.compareBytes a.1 b.1 < 0))
theorem ltL_false {a b : Sec} : ltL a b = false ↔ b.2 < a.2 ∨ (a.2 = b.2 ∧ 0 ≤ Go.Lib.compareBytes a.1 b.1) := by
  unfold ltL
  simp only [Bool.or_eq_false_iff, decide_eq_false_iff_not, Bool.and_eq_false_iff]
  omega
theorem ordL : Srt.Ord ltL := by
  refine ⟨fun a b h => ?_, fun a b c h1 h2 => ?_⟩
  · rw [ltL_false]
    unfold ltL at h
    simp only [Bool.or_eq_true, decide_eq_true_eq, Bool.and_eq_true] at h
    have := cmp_neg a.1 b.1
    omega
  · rw [ltL_false] at *
    have e1 := cmp_neg a.1 b.1
    have e2 := cmp_neg b.1 c.1
    have e3 := cmp_neg a.1 c.1
    rcases h1 with h1 | h1
    · rcases h2 with h2 | h2 <;> (left; omega)
    · rcases h2 with h2 | h2
      · left; omega
      · right
        have := cmp_trans a.1 b.1 c.1 (by omega) (by omega)
        omega
theorem ltL_anti {a b : Sec} (h1 : ltL a b = false) (h2 : ltL b a = false) : a = b := by
  rw [ltL_false] at *
  have := cmp_neg a.1 b.1
  have e : a.2 = b.2 := by omega
  have : Go.Lib.compareBytes a.1 b.1 = 0 := by omega
  exact Prod.ext (cmp_eq0 _ _ this) e
theorem sorted_eq {α : Type} {R : α → α → Prop} (hanti : ∀ a b, R a b → R b a → a = b) : ∀ (l m : List α), l.Pairwise R → m.Pairwise R → l.Perm m → l = m
  | [], m, _, _, h => h.nil_eq
  | a :: l, [], _, _, h => by exact absurd h.length_eq (by simp)
  | a :: l, b :: m, hl, hm, h => by
    have hl' := List.pairwise_cons.1 hl
    have hm' := List.pairwise_cons.1 hm
    have e : a = b := by
      rcases List.mem_cons.1 (h.mem_iff.1 (List.mem_cons_self : a ∈ a :: l)) with e | ha
      · exact e
      · rcases List.mem_cons.1 (h.mem_iff.2 (List.mem_cons_self : b ∈ b :: m)) with e | hb
        · exact e.symm
        · exact hanti _ _ (hl'.1 b hb) (hm'.1 a ha)
    subst e
    rw [sorted_eq hanti l m hl'.2 hm'.2 ((List.perm_cons a).1 h)]
end Lea
namespace Go.Proofs.YtclhgokchcklbaaGreatDoor
open Go Go.RowKit Go.Mem Gf Lea
attribute [local go_sem ↓] Go.wp_at_zero Go.wp_at_succ
theorem i17 : (Tryz.prog.info? 153).map (·.size) = some 17 := by kernel_rfl
theorem load_lease (dst : Option Tmp) (x : Operand) (ty : TypeId) (pos : String) (af : Array Edge) (a : Act) (w : World) (K : Act → World → Prop) (Q : Exit → Act → World → Prop)
    (hp : ptrIs (a.eval x) = true) (ht : HasK 17 w (ptrB (a.eval x)) (ptrO (a.eval x))) :
    Oper.wp Tryz.prog ⟨dst, .load 153 x, ty, pos, af, none⟩ a w K Q = K (a.put dst (.agg (readK 17 w (ptrB (a.eval x)) (ptrO (a.eval x))).toArray)) w :=
  wp_loadK Tryz.underlying153 rfl i17 dst x ty pos af a w K Q hp ht
theorem store_lease (dst : Option Tmp) (x y : Operand) (ty : TypeId) (pos : String) (af : Array Edge) (a : Act) (w : World) (K : Act → World → Prop) (Q : Exit → Act → World → Prop)
    (hp : ptrIs (a.eval x) = true) (hy : aggIs (a.eval y) = true) (ht : HasK 17 w (ptrB (a.eval x)) (ptrO (a.eval x))) (hc : AllK 17 (aggL (a.eval y))) :
    Oper.wp Tryz.prog ⟨dst, .store 153 x y, ty, pos, af, none⟩ a w K Q = K (a.put dst undef) (w.setCells (ptrB (a.eval x)) (ptrO (a.eval x)) (aggL (a.eval y))) :=
  wp_storeK i17 dst x y ty pos af a w K Q hp hy ht hc
attribute [local go_sem ↓] load_lease store_lease
attribute [local go_sem] ptrB_eq ptrO_eq ptrIs_eq aggL_eq aggIs_eq
end Go.Proofs.YtclhgokchcklbaaGreatDoor
end
section
namespace Lea
abbrev Key := List UInt8
def kOf (x : Les) : Key × Key := (x.ix, x.sec)
def ofL (l : List Les) (ix : Key) : List Sec := (l.filter fun x => decide (x.ix = ix)).map fun x => (x.sec, x.e)
def NoKey (l : List Les) (ix sec : Key) : Prop := ∀ x ∈ l, ¬ (x.ix = ix ∧ x.sec = sec)
def May (e : Int) : Prop := 1 ≤ e ∧ e ≤ 1048576
instance (e : Int) : Decidable (May e) := by unfold May; infer_instance
structure Good (l : List Les) : Prop where
  ends : ∀ x ∈ l, May x.e
  uniq : (l.map kOf).Nodup
  few : ∀ ix, (ofL l ix).length ≤ 8
theorem ofL_keys (l : List Les) (ix : Key) : (ofL l ix).length = ((l.map kOf).filter fun k => decide (k.1 = ix)).length := by
  unfold ofL
  rw [List.length_map, List.filter_map, List.length_map]
  rfl
theorem ofL_perm {l l' : List Les} (h : l'.Perm l) (ix : Key) : (ofL l' ix).Perm (ofL l ix) := (h.filter _).map _
theorem Good.perm {l l' : List Les} (h : l'.Perm l) (g : Good l) : Good l' :=
  ⟨fun x hx => g.ends x (h.mem_iff.1 hx), (h.map kOf).nodup_iff.2 g.uniq, fun ix => by rw [(ofL_perm h ix).length_eq]; exact g.few ix⟩
theorem Good.nil : Good [] := ⟨(fun _ h => by cases h), List.nodup_nil, (fun _ => by simp [ofL])⟩
theorem Good.sub {l l' : List Les} (h : l'.Sublist l) (g : Good l) : Good l' :=
  ⟨fun x hx => g.ends x (h.subset hx), g.uniq.sublist (h.map kOf), fun ix => Nat.le_trans (by
    unfold ofL
    rw [List.length_map, List.length_map]
    exact (h.filter _).length_le) (g.few ix)⟩
theorem ofL_app (l m : List Les) (ix : Key) : ofL (l ++ m) ix = ofL l ix ++ ofL m ix := by unfold ofL; rw [List.filter_append, List.map_append]
theorem Good.push {l : List Les} (g : Good l) (x : Les) (hx : May x.e) (hk : NoKey l x.ix x.sec) (h8 : (ofL l x.ix).length < 8) : Good (l ++ [x]) := by
  refine ⟨fun y hy => ?_, ?_, fun ix => ?_⟩
  · rcases List.mem_append.1 hy with hy | hy
    · exact g.ends y hy
    · rw [List.mem_singleton.1 hy]; exact hx
  · rw [List.map_append, List.nodup_append]
    refine ⟨g.uniq, by simp, fun a ha b hb => ?_⟩
    obtain ⟨y, hy, rfl⟩ := List.mem_map.1 ha
    simp at hb
    subst hb
    intro e
    exact hk y hy ⟨congrArg Prod.fst e, congrArg Prod.snd e⟩
  · rw [ofL_app, List.length_append]
    by_cases c : x.ix = ix
    · subst c
      have : (ofL [x] x.ix).length ≤ 1 := by unfold ofL; rw [List.length_map]; exact List.length_filter_le _ [x]
      omega
    · have : (ofL [x] ix) = [] := by simp [ofL, c]
      rw [this]
      have := g.few ix
      simpa using this
theorem map_set_key {l : List Les} {k : Nat} {x y : Les} (hx : l[k]? = some x) (hy : kOf y = kOf x) : (l.set k y).map kOf = l.map kOf := by
  rw [List.map_set]
  apply List.ext_getElem?
  intro j
  by_cases c : k = j
  · subst c
    have hk := Go.Mem.some_lt hx
    rw [List.getElem?_set_self (by simpa using hk), List.getElem?_map, hx, hy]; rfl
  · rw [List.getElem?_set_ne c]
theorem Good.set {l : List Les} (g : Good l) {k : Nat} {x y : Les} (hx : l[k]? = some x) (hy : kOf y = kOf x) (he : May y.e) : Good (l.set k y) := by
  refine ⟨fun z hz => ?_, by rw [map_set_key hx hy]; exact g.uniq, fun ix => by rw [ofL_keys, map_set_key hx hy, ← ofL_keys]; exact g.few ix⟩
  rcases List.mem_or_eq_of_mem_set hz with hz | rfl
  · exact g.ends z hz
  · exact he
inductive AddR (l : List Les) (ix sec : Key) (e : Int) : Bool → List Les → Prop
  | no (h : ¬ May e ∨ (NoKey l ix sec ∧ 8 ≤ (ofL l ix).length)) : AddR l ix sec e false l
  | more (k : Nat) (x : Les) (l' : List Les) (he : May e) (hx : l[k]? = some x) (h1 : x.ix = ix) (h2 : x.sec = sec) (hp : l'.Perm (l.set k ⟨ix, sec, max x.e e⟩)) : AddR l ix sec e true l'
  | new (l' : List Les) (he : May e) (hk : NoKey l ix sec) (h8 : (ofL l ix).length < 8) (hp : l'.Perm (l ++ [⟨ix, sec, e⟩])) : AddR l ix sec e true l'
theorem AddR.good {l l' : List Les} {ix sec : Key} {e : Int} {b : Bool} (h : AddR l ix sec e b l') (g : Good l) : Good l' := by
  cases h with
  | no h => exact g
  | more k x l' he hx h1 h2 hp =>
    have hm := g.ends x (List.mem_of_getElem? hx)
    refine (g.set hx (y := ⟨ix, sec, max x.e e⟩) (by unfold kOf; rw [h1, h2]) ?_).perm hp
    unfold May at *
    simp only
    omega
  | new l' he hk h8 hp => exact (g.push ⟨ix, sec, e⟩ he hk h8).perm hp
theorem AddR.len {l l' : List Les} {ix sec : Key} {e : Int} {b : Bool} (h : AddR l ix sec e b l') : l'.length ≤ l.length + 1 := by
  cases h with
  | no h => omega
  | more k x l' he hx h1 h2 hp => rw [hp.length_eq, List.length_set]; omega
  | new l' he hk h8 hp => rw [hp.length_eq]; simp
def FindR (l : List Les) (ix sec : Key) (r : Int) : Prop := (r = -1 ∧ NoKey l ix sec) ∨ ∃ (k : Nat) (x : Les), r = k ∧ l[k]? = some x ∧ x.ix = ix ∧ x.sec = sec
structure OfR (l : List Les) (ix : Key) (out : List Sec) : Prop where
  perm : out.Perm (ofL l ix)
  up : out.Pairwise fun a b => ltL b a = false
theorem OfR.eq {l l' : List Les} {ix : Key} {a b : List Sec} (ha : OfR l ix a) (hb : OfR l' ix b) (h : l.Perm l') : a = b :=
  sorted_eq (fun _ _ h1 h2 => ltL_anti h2 h1) a b ha.up hb.up (ha.perm.trans ((ofL_perm h ix).trans hb.perm.symm))
theorem mem_ofL {l : List Les} {ix : Key} {s : Sec} : s ∈ ofL l ix ↔ ∃ x ∈ l, x.ix = ix ∧ (x.sec, x.e) = s := by
  unfold ofL
  constructor
  · intro h
    obtain ⟨x, hx, e⟩ := List.mem_map.1 h
    have := List.mem_filter.1 hx
    exact ⟨x, this.1, by simpa using this.2, e⟩
  · rintro ⟨x, hx, e, e2⟩
    exact List.mem_map.2 ⟨x, List.mem_filter.2 ⟨hx, by simpa using e⟩, e2⟩
theorem ofL_nil {l : List Les} {ix : Key} : ofL l ix = [] ↔ ∀ x ∈ l, x.ix ≠ ix := by
  constructor
  · intro h x hx e
    have : (x.sec, x.e) ∈ ofL l ix := mem_ofL.2 ⟨x, hx, e, rfl⟩
    rw [h] at this
    cases this
  · intro h
    rw [List.eq_nil_iff_forall_not_mem]
    intro s hs
    obtain ⟨x, hx, e, _⟩ := mem_ofL.1 hs
    exact h x hx e
def left (l : List Les) (now : Int) : List Les := l.filter fun x => decide (now < x.e)
end Lea
end
section
namespace Go.Mem
open Go Go.RowKit Gf
section
variable {w : World}
theorem readK_drew (n : Nat) (w : World) (g o : Nat) : readK n w.drew g o = readK n w g o := rfl
theorem hasK_drew (n : Nat) (w : World) (g o : Nat) : HasK n w.drew g o = HasK n w g o := rfl
theorem setCells_drew (w : World) (g : Nat) : ∀ (cs : List Value) (o : Nat), w.drew.setCells g o cs = (w.setCells g o cs).drew := fun cs o => by
  induction cs generalizing o w with
  | nil => rfl
  | cons v vs ih => exact ih (w.setCell ⟨g, o, none⟩ v) (o + 1)
theorem readK_alloc_past (o' : Obj) (n g o : Nat) (hn : g < w.heap.size) : readK n (w.alloc o') g o = readK n w g o := by
  unfold readK
  apply List.map_congr_left
  intro k _
  rw [World.cell?_alloc_past _ _ _ hn]
theorem hasK_alloc_past (o' : Obj) (n g o : Nat) (hn : g < w.heap.size) : HasK n (w.alloc o') g o = HasK n w g o := by
  unfold HasK World.there
  apply propext
  constructor
  · intro h j hj
    have := h j hj
    rw [World.cell?_alloc_past _ _ _ hn, World.frozen?_alloc_past _ _ _ hn] at this
    exact this
  · intro h j hj
    rw [World.cell?_alloc_past _ _ _ hn, World.frozen?_alloc_past _ _ _ hn]
    exact h j hj
def cutC (c : Array Value) (o n : Nat) : List Value := (c.toList.drop o).take n
theorem readK_alloc_in (c : Array Value) (t : TypeId) (n g o : Nat) (hn : g = w.heap.size) (hc : o + n ≤ c.size) : readK n (w.alloc (.cells c t)) g o = cutC c o n := by
  subst hn
  have hb := Blk.new w c t
  unfold cutC
  have hl : ((c.toList.drop o).take n).length = n := by
    rw [List.length_take, List.length_drop, Array.length_toList]; omega
  refine readK_eq (fun k v hv => ?_) hl
  have hk : k < n := by have := some_lt hv; omega
  rw [hb.cell]
  rw [List.getElem?_take, if_pos hk, List.getElem?_drop, Array.getElem?_toList] at hv
  exact hv
theorem hasK_alloc_in (c : Array Value) (t : TypeId) (n g o : Nat) (hn : g = w.heap.size) (hc : o + n ≤ c.size) : HasK n (w.alloc (.cells c t)) g o := by
  subst hn
  intro j hj
  have hb := Blk.new w c t
  exact ⟨by rw [hb.cell]; simp; omega, hb.free _⟩
theorem hasK_alloc_at (c : Array Value) (t : TypeId) (n g : Nat) (hn : g = w.heap.size) (hc : n ≤ c.size) : HasK n (w.alloc (.cells c t)) g 0 := by
  subst hn
  intro j hj
  have hb := Blk.new w c t
  exact ⟨by rw [hb.cell]; simp; omega, hb.free _⟩
theorem setCells_alloc_past (o' : Obj) (n : Nat) (hn : n < w.heap.size) (cs : List Value) (o : Nat) : (w.alloc o').setCells n o cs = (w.setCells n o cs).alloc o' := by
  induction cs generalizing o w with
  | nil => rfl
  | cons v vs ih =>
    show ((w.alloc o').setCell ⟨n, o, none⟩ v).setCells n (o + 1) vs = _
    rw [World.setCell_alloc_past _ _ _ _ hn]
    exact ih (by simpa using hn) (o + 1)
theorem setCells_alloc_some (c : Array Value) (t : TypeId) (n : Nat) (hn : n = w.heap.size) (cs : List Value) (o : Nat) : ∃ c' : Array Value, (w.alloc (.cells c t)).setCells n o cs = w.alloc (.cells c' t) := by
  induction cs generalizing o c with
  | nil => exact ⟨c, rfl⟩
  | cons v vs ih =>
    show ∃ c' : Array Value, ((w.alloc (.cells c t)).setCell ⟨n, o, none⟩ v).setCells n (o + 1) vs = _
    rw [World.setCell_alloc_at _ _ _ _ _ hn]
    exact ih _ (o + 1)
theorem setCells_alloc_at (c : Array Value) (t : TypeId) (n : Nat) (cs : List Value) (hn : n = w.heap.size) (hc : c.size = cs.length) : (w.alloc (.cells c t)).setCells n 0 cs = w.alloc (.cells cs.toArray t) := by
  subst hn
  obtain ⟨c', e⟩ := setCells_alloc_some c t w.heap.size rfl cs 0
  obtain ⟨arr, h1, h2, h3⟩ := Blk.setCells cs 0 _ _ (Blk.new w c t)
  rw [e] at h1 ⊢
  have h4 := Blk.new w c' t
  have e2 : c' = arr := by
    unfold Blk at h1 h4
    rw [h1] at h4
    simpa using h4.symm
  have e3 : arr = cs.toArray := by
    apply Array.ext_getElem?
    intro k
    rcases Nat.lt_or_ge k c.size with hk | hk
    · rw [h3 k hk, if_pos ⟨Nat.zero_le _, by omega⟩, Nat.sub_zero]; simp
    · rw [Array.getElem?_eq_none (by omega), Array.getElem?_eq_none (by simp; omega)]
  rw [e2, e3]
end
theorem wp_loadG {P : Program} {n : Nat} {t : TypeId} {d : TypeDesc} (hu : P.underlying t = some d) (hd : d.isRow = true) (hi : (P.info? t).map (·.size) = some n) (dst : Option Tmp) (x : Operand) (ty : TypeId) (pos : String) (af : Array Edge) (gd : Option (Tmp × Bool)) (a : Act) (w : World) (K : Act → World → Prop) (Q : Exit → Act → World → Prop)
    (hp : ptrIs (a.eval x) = true) (ht : HasK n w (ptrB (a.eval x)) (ptrO (a.eval x))) :
    Oper.wp P ⟨dst, .load t x, ty, pos, af, gd⟩ a w K Q = K (a.put dst (.agg (readK n w (ptrB (a.eval x)) (ptrO (a.eval x))).toArray)) w := by
  unfold Oper.wp execOp
  have e := ptr_of hp
  have hl := run_loadVar_mid (P := P) w (ptrB (a.eval x)) (ptrO (a.eval x)) t (readK n w (ptrB (a.eval x)) (ptrO (a.eval x))) d (readK_range ht) hu hd (by rw [hi, readK_len])
  simp only
  rw [e]
  simp only [ptrB_eq, ptrO_eq, Instr.loadAt, Instr.sureAddr, Sem.run_bind, Sem.run_pure, Result.andThen_ok, hl]
  rfl
end Go.Mem
end
