/- The walk of the heap's way down. -/
import Derived.Test.YtgjabnpngggcmaaDoorLeaUp
namespace Go.Proofs.YtgjabnpngggcmaaDoor
open Go Go.RowKit Go.Mem Gf Lea
attribute [local go_sem ↓] Go.wp_at_zero Go.wp_at_succ
attribute [local go_sem] meth_less meth_swap meth_len meth_push meth_pop
theorem LTab.rd {w w' : World} {tb : Nat} {v : Value} {l : List Les} (h : LTab w tb v l) (hd : ∃ d, w' = w.drewN d) : LTab w' tb v l := by
  obtain ⟨d, rfl⟩ := hd
  exact h.drewN d
theorem chg_rd {S : Nat → Prop} {w w' w'' : World} (h : Chg S w w') (hd : ∃ d, w'' = w'.drewN d) : Chg S w w'' := by
  obtain ⟨d, rfl⟩ := hd
  exact h.drewN d
set_option maxRecDepth 100000 in
set_option maxHeartbeats 4000000 in
/-- the way down -/
theorem down_calls (w : World) (tb g cap : Nat) (l : List Les) (i0 n n0 : Nat) (hlen : l.length = n0) (h : LTab w tb (.slice (some ⟨g, 0, none⟩) n0 cap) l) (hl : n0 ≤ 1000000) (hn : n ≤ n0) (hi : i0 < n0)
    (hinv : ∀ c, 0 < c → c < n → (c - 1) / 2 ≠ i0 → c ≠ i0 → Rim l c) (hg : Grand l i0 n) :
    Calls Tryd.prog 23 #[hv tb, .int .i64 i0, .int .i64 n] w fun e w' => ∃ b : Bool, e = .returned (.bool b) ∧ ∃ l', LTab w' tb (.slice (some ⟨g, 0, none⟩) n0 cap) l' ∧ l'.Perm l ∧ (∀ q, n ≤ q → l'[q]? = l[q]?) ∧ Chg (fun b => b = g) w w' ∧
      (b = true → HeapN l' n) ∧ (b = false → l' = l ∧ ∀ c, 0 < c → c < n → c ≠ i0 → Rim l c) := by
  have H0 : Hid (DInv n0 n i0 l l i0 ∧ LTab w tb (.slice (some ⟨g, 0, none⟩) n0 cap) l) := ⟨⟨hlen, List.Perm.refl _, fun _ _ => rfl, fun c h1 h2 h3 h4 => hinv c h1 h2 h3 (by omega), hg, Nat.le_refl _, fun _ => rfl⟩, h⟩
  clear h hinv hg hlen
  unfold hv
  go_enter Tryd.func23, Tryd.ntmps23
  go_wp2_with fail
  go_loopw [7] (fun v wr => ∃ (k : Nat) (m : List Les), k < n0 ∧ v = .int .i64 k ∧ Hid (DInv n0 n i0 l m k ∧ LTab wr tb (.slice (some ⟨g, 0, none⟩) n0 cap) m ∧ Chg (fun b => b = g) w wr)) (fun v _ => n0 - (intOf v).toNat)
  case atStart => exact ⟨i0, l, hi, rfl, H0.out.1, H0.out.2, Chg.refl _ _⟩
  case round =>
    obtain ⟨k, m, hk, rfl, H⟩ := hrel
    rename_i wr
    have hc : wr.cell? ⟨tb, 0, none⟩ = some (.slice (some ⟨g, 0, none⟩) n0 cap) := by simpa using H.out.2.1.cell.cell 0
    have HX0 : Hid (m[k]? = some (m[k]'(by have := H.out.1.len; omega))) := by have := H.out.1.len; exact (by simp : m[k]? = some m[k])
    generalize m[k]'(by have := H.out.1.len; omega) = x at HX0
    have HX := HX0
    obtain ⟨j1, hj1'⟩ : ∃ j, j = 2 * k + 1 := ⟨_, rfl⟩
    obtain ⟨j2, hj2'⟩ : ∃ j, j = 2 * k + 2 := ⟨_, rfl⟩
    have HJ1 := Lib.hid hj1'
    have HJ2 := Lib.hid hj2'
    have c1 : (2 : Int) * (k : Int) + 1 = (j1 : Int) := by omega
    have c2 : (j1 : Int) + 1 = (j2 : Int) := by omega
    have b1 : k < j1 := by omega
    have b2 : j1 < j2 := by omega
    clear hj1' hj2'
    by_cases hj1 : n ≤ j1
    · have HE := Lib.hid (H.out.1.stop HX.out (fun c z h1 h2 h3 h4 => by have := HJ1.out; omega))
      have d1 : decide ((n : Int) ≤ (j1 : Int)) = true := by simp; omega
      go_wp2_with fail
      go_ret
      exact ⟨decide (i0 < k), rfl, m, H.out.2.1, H.out.1.perm, H.out.1.tail, H.out.2.2, fun e => HE.out.1 (of_decide_eq_true e), fun e => HE.out.2 (of_decide_eq_false e)⟩
    · have hjn : j1 < n := by omega
      have HA : Hid (m[j1]? = some (m[j1]'(by have := H.out.1.len; omega))) := by have := H.out.1.len; exact (by simp : m[j1]? = some m[j1])
      generalize m[j1]'(by have := H.out.1.len; omega) = a at HA
      clear hj1 HX0
      by_cases hj2 : j2 < n
      · have hb1 : m[j2]? = some (m[j2]'(by have := H.out.1.len; omega)) := by have := H.out.1.len; exact (by simp : m[j2]? = some m[j2])
        generalize m[j2]'(by have := H.out.1.len; omega) = b at hb1
        have HB := Lib.hid hb1
        clear hb1
        go_wp2_with fail
        refine (eless_calls 0 g n0 cap m j2 j1 b a wr (LTab.theRow H.out.2.1 H.out.1.len) HB.out HA.out).mono ?_
        rintro e w1 ⟨rfl, hd1⟩
        have T1 := Lib.hid (H.out.2.1.rd hd1)
        have C1 := Lib.hid (chg_rd H.out.2.2 hd1)
        have hc1 : w1.cell? ⟨tb, 0, none⟩ = some (.slice (some ⟨g, 0, none⟩) n0 cap) := by simpa using T1.out.cell.cell 0
        clear hd1
        by_cases hba : b.e < a.e
        · rw [decide_eq_true hba]
          have HM : Hid (∀ c z, 0 < c → c < n → (c - 1) / 2 = k → m[c]? = some z → b.e ≤ z.e) := min_right (a := a) (by rw [← HJ1.out]; exact HA.out) (by rw [← HJ2.out]; exact HB.out) hba
          have HY := HB
          generalize hbb : b = y at *
          have hj : Hid (j2 = 2 * k + 1 ∨ j2 = 2 * k + 2) := .inr HJ2.out
          go_wp2_with fail
          refine (eless_calls 0 g n0 cap m j2 k y x w1 (LTab.theRow T1.out H.out.1.len) HY.out HX.out).mono ?_
          rintro e w2 ⟨rfl, hd2⟩
          have T2 := Lib.hid (LTab.rd T1.out hd2)
          have C2 := Lib.hid (chg_rd C1.out hd2)
          have hc2 : w2.cell? ⟨tb, 0, none⟩ = some (.slice (some ⟨g, 0, none⟩) n0 cap) := by simpa using T2.out.cell.cell 0
          clear hd2
          by_cases hlt : y.e < x.e
          · rw [decide_eq_true hlt]
            go_wp2_with fail
            refine (eswap_calls 0 g n0 cap m k j2 x y _ (LTab.theRow T2.out H.out.1.len) HX.out HY.out).mono ?_
            rintro e w' ⟨rfl, hrow, hchg⟩
            have HN : Hid (DInv n0 n i0 l (swap m k j2) j2 ∧ LTab w' tb (.slice (some ⟨g, 0, none⟩) n0 cap) (swap m k j2) ∧ Chg (fun b => b = g) w w') :=
              ⟨H.out.1.step hj.out (by omega) HX.out HY.out hlt HM.out, T2.out.row' H.out.1.len hrow hchg, C2.out.trans hchg⟩
            clear hrow hchg H
            go_wp2_with fail
            exact ⟨⟨j2, swap m k j2, by omega, rfl, HN⟩, by simp [intOf]; omega⟩
          · rw [decide_eq_false hlt]
            have HE := Lib.hid (H.out.1.stop HX.out (fun c z h1 h2 h3 h4 => by have := HM.out c z h1 h2 h3 h4; omega))
            go_wp2_with fail
            go_ret
            exact ⟨decide (i0 < k), rfl, m, T2.out, H.out.1.perm, H.out.1.tail, C2.out, fun e => HE.out.1 (of_decide_eq_true e), fun e => HE.out.2 (of_decide_eq_false e)⟩
        · rw [decide_eq_false hba]
          have HM : Hid (∀ c z, 0 < c → c < n → (c - 1) / 2 = k → m[c]? = some z → a.e ≤ z.e) := min_left (by rw [← HJ1.out]; exact HA.out) (fun b' _ hb' => by rw [← HJ2.out, HB.out] at hb'; cases hb'; exact hba)
          have HY := HA
          generalize hbb : a = y at *
          have hj : Hid (j1 = 2 * k + 1 ∨ j1 = 2 * k + 2) := .inl HJ1.out
          go_wp2_with fail
          refine (eless_calls 0 g n0 cap m j1 k y x w1 (LTab.theRow T1.out H.out.1.len) HY.out HX.out).mono ?_
          rintro e w2 ⟨rfl, hd2⟩
          have T2 := Lib.hid (LTab.rd T1.out hd2)
          have C2 := Lib.hid (chg_rd C1.out hd2)
          have hc2 : w2.cell? ⟨tb, 0, none⟩ = some (.slice (some ⟨g, 0, none⟩) n0 cap) := by simpa using T2.out.cell.cell 0
          clear hd2
          by_cases hlt : y.e < x.e
          · rw [decide_eq_true hlt]
            go_wp2_with fail
            refine (eswap_calls 0 g n0 cap m k j1 x y _ (LTab.theRow T2.out H.out.1.len) HX.out HY.out).mono ?_
            rintro e w' ⟨rfl, hrow, hchg⟩
            have HN : Hid (DInv n0 n i0 l (swap m k j1) j1 ∧ LTab w' tb (.slice (some ⟨g, 0, none⟩) n0 cap) (swap m k j1) ∧ Chg (fun b => b = g) w w') :=
              ⟨H.out.1.step hj.out (by omega) HX.out HY.out hlt HM.out, T2.out.row' H.out.1.len hrow hchg, C2.out.trans hchg⟩
            clear hrow hchg H
            go_wp2_with fail
            exact ⟨⟨j1, swap m k j1, by omega, rfl, HN⟩, by simp [intOf]; omega⟩
          · rw [decide_eq_false hlt]
            have HE := Lib.hid (H.out.1.stop HX.out (fun c z h1 h2 h3 h4 => by have := HM.out c z h1 h2 h3 h4; omega))
            go_wp2_with fail
            go_ret
            exact ⟨decide (i0 < k), rfl, m, T2.out, H.out.1.perm, H.out.1.tail, C2.out, fun e => HE.out.1 (of_decide_eq_true e), fun e => HE.out.2 (of_decide_eq_false e)⟩
      · have HM : Hid (∀ c z, 0 < c → c < n → (c - 1) / 2 = k → m[c]? = some z → a.e ≤ z.e) := min_left (by rw [← HJ1.out]; exact HA.out) (fun b' h _ => by have := HJ2.out; omega)
        have HY := HA
        generalize hbb : a = y at *
        have hj : Hid (j1 = 2 * k + 1 ∨ j1 = 2 * k + 2) := .inl HJ1.out
        go_wp2_with fail
        refine (eless_calls 0 g n0 cap m j1 k y x wr (LTab.theRow H.out.2.1 H.out.1.len) HY.out HX.out).mono ?_
        rintro e w2 ⟨rfl, hd2⟩
        have T2 := Lib.hid (LTab.rd H.out.2.1 hd2)
        have C2 := Lib.hid (chg_rd H.out.2.2 hd2)
        have hc2 : w2.cell? ⟨tb, 0, none⟩ = some (.slice (some ⟨g, 0, none⟩) n0 cap) := by simpa using T2.out.cell.cell 0
        clear hd2
        by_cases hlt : y.e < x.e
        · rw [decide_eq_true hlt]
          go_wp2_with fail
          refine (eswap_calls 0 g n0 cap m k j1 x y _ (LTab.theRow T2.out H.out.1.len) HX.out HY.out).mono ?_
          rintro e w' ⟨rfl, hrow, hchg⟩
          have HN : Hid (DInv n0 n i0 l (swap m k j1) j1 ∧ LTab w' tb (.slice (some ⟨g, 0, none⟩) n0 cap) (swap m k j1) ∧ Chg (fun b => b = g) w w') :=
            ⟨H.out.1.step hj.out (by omega) HX.out HY.out hlt HM.out, T2.out.row' H.out.1.len hrow hchg, C2.out.trans hchg⟩
          clear hrow hchg H
          go_wp2_with fail
          exact ⟨⟨j1, swap m k j1, by omega, rfl, HN⟩, by simp [intOf]; omega⟩
        · rw [decide_eq_false hlt]
          have HE := Lib.hid (H.out.1.stop HX.out (fun c z h1 h2 h3 h4 => by have := HM.out c z h1 h2 h3 h4; omega))
          go_wp2_with fail
          go_ret
          exact ⟨decide (i0 < k), rfl, m, T2.out, H.out.1.perm, H.out.1.tail, C2.out, fun e => HE.out.1 (of_decide_eq_true e), fun e => HE.out.2 (of_decide_eq_false e)⟩
end Go.Proofs.YtgjabnpngggcmaaDoor
