/- Walks of the heap's way up and down. -/
import Derived.Test.YtgjabnpngggcmaaDoorLeaHeap
import Derived.Handy
namespace Go.Proofs.YtgjabnpngggcmaaDoor
open Go Go.RowKit Go.Mem Gf Lea
attribute [local go_sem ↓] Go.wp_at_zero Go.wp_at_succ
/-- the heap, as container/heap sees it -/
def hv (tb : Nat) : Value := .iface 44 (.pointer (some ⟨tb, 0, none⟩))
theorem meth_less (n : Nat) (tb : Nat) (w : World) : (method (n + 1) 44 (.pointer (some ⟨tb, 0, none⟩)) "Less").run Tryd.prog w = (loadVar 38 ⟨tb, 0, none⟩ >>= fun v => pure (93, v)).run Tryd.prog w := by kernel_rfl
theorem meth_swap (n : Nat) (tb : Nat) (w : World) : (method (n + 1) 44 (.pointer (some ⟨tb, 0, none⟩)) "Swap").run Tryd.prog w = (loadVar 38 ⟨tb, 0, none⟩ >>= fun v => pure (94, v)).run Tryd.prog w := by kernel_rfl
theorem meth_len (n : Nat) (tb : Nat) (w : World) : (method (n + 1) 44 (.pointer (some ⟨tb, 0, none⟩)) "Len").run Tryd.prog w = (loadVar 38 ⟨tb, 0, none⟩ >>= fun v => pure (92, v)).run Tryd.prog w := by kernel_rfl
theorem meth_push (n : Nat) (tb : Nat) (w : World) : (method (n + 1) 44 (.pointer (some ⟨tb, 0, none⟩)) "Push").run Tryd.prog w = .ok (96, .pointer (some ⟨tb, 0, none⟩)) w := by kernel_rfl
theorem meth_pop (n : Nat) (tb : Nat) (w : World) : (method (n + 1) 44 (.pointer (some ⟨tb, 0, none⟩)) "Pop").run Tryd.prog w = .ok (95, .pointer (some ⟨tb, 0, none⟩)) w := by kernel_rfl
attribute [local go_sem] meth_less meth_swap meth_len meth_push meth_pop
theorem LTab.drewN {w : World} {tb : Nat} {v : Value} {l : List Les} (h : LTab w tb v l) (d : Nat) : LTab (w.drewN d) tb v l := ⟨h.cell, h.own, h.wf, h.apart⟩
theorem LTab.theRow {w : World} {tb g n cap : Nat} {l : List Les} (h : LTab w tb (.slice (some ⟨g, 0, none⟩) n cap) l) (hn : l.length = n) : Row 46 w 0 g n cap l := by
  subst hn
  exact ⟨h.own, rfl, h.wf⟩
theorem LTab.row' {w w' : World} {tb g n cap : Nat} {l l' : List Les} (h : LTab w tb (.slice (some ⟨g, 0, none⟩) n cap) l) (_ : l.length = n) (hr : Row 46 w' 0 g n cap l') (hc : Chg (fun b => b = g) w w') : LTab w' tb (.slice (some ⟨g, 0, none⟩) n cap) l' := by
  have hl := hr.len
  refine ⟨hc.blk h.cell (fun e => h.apart (by rw [e]; rfl)), ?_, hr.wf, h.apart⟩
  rw [← hl]
  exact hr.own
set_option maxRecDepth 100000 in
set_option maxHeartbeats 1000000 in
/-- the way up -/
theorem up_calls (w : World) (tb g cap : Nat) (l : List Les) (j n n0 : Nat) (hn : l.length = n0) (h : LTab w tb (.slice (some ⟨g, 0, none⟩) n0 cap) l) (hl : n0 ≤ 1000000) (hnn : n ≤ n0) (hj : j < n)
    (hinv : ∀ c, 0 < c → c < n → c ≠ j → Rim l c) (hg : Grand l j n) :
    Calls Tryd.prog 22 #[hv tb, .int .i64 j] w fun e w' => e = .returned (.tuple #[]) ∧ ∃ l', LTab w' tb (.slice (some ⟨g, 0, none⟩) n0 cap) l' ∧ l'.Perm l ∧ HeapN l' n ∧ (∀ q, n ≤ q → l'[q]? = l[q]?) ∧ Chg (fun b => b = g) w w' := by
  have H0 := Lib.hid (And.intro hn (And.intro h (And.intro hinv hg)))
  clear h hinv hg hn
  unfold hv
  go_enter Tryd.func22, Tryd.ntmps22
  go_wp2_with fail
  go_loopw [1] (fun v wr => ∃ (k : Nat) (m : List Les), k < n ∧ v = .int .i64 k ∧ Hid (m.length = n0 ∧ LTab wr tb (.slice (some ⟨g, 0, none⟩) n0 cap) m ∧ m.Perm l ∧ (∀ c, 0 < c → c < n → c ≠ k → Rim m c) ∧ Grand m k n ∧ (∀ q, n ≤ q → m[q]? = l[q]?) ∧ Chg (fun b => b = g) w wr)) (fun v _ => (intOf v).toNat)
  case atStart => exact ⟨j, l, hj, rfl, H0.out.1, H0.out.2.1, List.Perm.refl _, H0.out.2.2.1, H0.out.2.2.2, fun _ _ => rfl, Chg.refl _ _⟩
  case round =>
    obtain ⟨k, m, hk, rfl, H⟩ := hrel
    rename_i wr
    have hc : wr.cell? ⟨tb, 0, none⟩ = some (.slice (some ⟨g, 0, none⟩) n0 cap) := by simpa using H.out.2.1.cell.cell 0
    by_cases hk0 : k = 0
    · subst hk0
      have HE : Hid (HeapN m n) := up_end H.out.2.2.2.1 (fun x y h => by omega)
      go_wp2_with fail
      go_wp2
      go_end0
      exact ⟨rfl, m, H.out.2.1, H.out.2.2.1, HE.out, H.out.2.2.2.2.2.1, H.out.2.2.2.2.2.2⟩
    · obtain ⟨i, hi⟩ : ∃ i, i = (k - 1) / 2 := ⟨_, rfl⟩
      have hik : i < k := by omega
      have e1 : ((k : Int) - 1).tdiv 2 = (i : Int) := by
        rw [show ((k : Int) - 1) = ((k - 1 : Nat) : Int) from by omega, hi]
        exact (Int.ofNat_tdiv _ _).symm
      have e2 : ((i : Int) == (k : Int)) = false := by simp; omega
      have e3 : ¬ ((i : Int) = (k : Int)) := by omega
      have hx : m[i]? = some (m[i]'(by have := H.out.1; omega)) := by simp
      have hy : m[k]? = some (m[k]'(by have := H.out.1; omega)) := by simp
      generalize m[i]'(by have := H.out.1; omega) = x at hx
      generalize m[k]'(by have := H.out.1; omega) = y at hy
      have HX := Lib.hid (And.intro hx hy)
      have HI := Lib.hid hi
      clear hx hy hi
      go_wp2_with fail
      refine (eless_calls 0 g n0 cap m k i y x wr (LTab.theRow H.out.2.1 H.out.1) HX.out.2 HX.out.1).mono ?_
      rintro e w' ⟨rfl, d, rfl⟩
      by_cases hlt : y.e < x.e
      · rw [decide_eq_true hlt]
        go_wp2_with fail
        refine (eswap_calls 0 g n0 cap m i k x y (wr.drewN d) (LTab.theRow (H.out.2.1.drewN d) H.out.1) HX.out.1 HX.out.2).mono ?_
        rintro e w' ⟨rfl, hrow, hchg⟩
        have HN : Hid ((swap m i k).length = n0 ∧ LTab w' tb (.slice (some ⟨g, 0, none⟩) n0 cap) (swap m i k) ∧ (swap m i k).Perm l ∧ (∀ c, 0 < c → c < n → c ≠ i → Rim (swap m i k) c) ∧ Grand (swap m i k) i n ∧ (∀ q, n ≤ q → (swap m i k)[q]? = l[q]?) ∧ Chg (fun b => b = g) w w') := by
          have hs := up_step (by omega) hk HI.out HX.out.1 HX.out.2 hlt H.out.2.2.2.1 H.out.2.2.2.2.1
          have hl2 : (swap m i k).length = n0 := by rw [swap_len]; exact H.out.1
          exact ⟨hl2, (H.out.2.1.drewN d).row' H.out.1 hrow hchg, (swap_perm m i k).trans H.out.2.2.1, hs.1, hs.2, fun q hq => by rw [swap_get HX.out.1 HX.out.2, if_neg (by omega), if_neg (by omega)]; exact H.out.2.2.2.2.2.1 q hq, (H.out.2.2.2.2.2.2.drewN d).trans hchg⟩
        clear hrow hchg H hc
        go_wp2_with fail
        exact ⟨⟨i, swap m i k, by omega, rfl, HN⟩, by simp [intOf]; omega⟩
      · rw [decide_eq_false hlt]
        have HE : Hid (HeapN m n) := up_end H.out.2.2.2.1 (fun a b h0 h1 ha hb => by
          rw [← HI.out, HX.out.1] at ha; rw [HX.out.2] at hb
          cases ha; cases hb
          omega)
        go_wp2_with fail
        go_end0
        exact ⟨rfl, m, H.out.2.1.drewN d, H.out.2.2.1, HE.out, H.out.2.2.2.2.2.1, H.out.2.2.2.2.2.2.drewN d⟩
end Go.Proofs.YtgjabnpngggcmaaDoor
