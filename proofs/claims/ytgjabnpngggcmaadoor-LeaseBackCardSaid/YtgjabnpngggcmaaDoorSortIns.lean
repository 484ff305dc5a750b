/- The walk of sort's way for short rows, with a closure that may lay new blocks. -/
import Derived.Test.YtgjabnpngggcmaaDoorSortMath
import Derived.Test.YtgjabnpngggcmaaDoorAppK
import Derived.Test.YtgjabnpngggcmaaDoorBKeep
import Derived.Deep.RegionHeld3
import Derived.Handy
namespace Go.Proofs.YtgjabnpngggcmaaDoor
open Go Go.RowKit Go.Mem Gf
attribute [local go_sem ↓] Go.wp_at_zero Go.wp_at_succ
/-- what a row's two closures do -/
structure Sorter {α : Type} (St : World → List α → Prop) (N : Nat → Prop) (lt : α → α → Bool) (g sf : Nat) (lb sb : Array Value) : Prop where
  new : ∀ W l, St W l → ∀ k, N k → k < W.heap.size
  alloc : ∀ W l o, St W l → St (W.alloc o) l
  less : ∀ W l (i j : Nat) x y, j < i → St W l → l[i]? = some x → l[j]? = some y → Calls Tryd.prog g (#[.int .i64 i, .int .i64 j] ++ lb) W fun e W' => e = .returned (.bool (lt x y)) ∧ St W' l ∧ Chg N W W'
  swap : ∀ W l (i j : Nat) x y, j < i → St W l → l[i]? = some x → l[j]? = some y → ∃ W', (callFunc sf (#[.int .i64 i, .int .i64 j] ++ sb)).run Tryd.prog W = .ok (.value (.tuple #[])) W' ∧ St W' (Srt.swap l i j) ∧ Chg N W W'
  enters : ∀ args w, (callFunc g args).run Tryd.prog w = .ok (.enter g args) w
  ord : Srt.Ord lt
theorem chg_box {N : Nat → Prop} {w wr : World} {o : Obj} (h : Chg N (w.alloc o) wr) : Chg N w wr := (Chg.of_below ((Below.refl _ _).alloc (Nat.le_refl _) o)).trans h
set_option maxHeartbeats 2000000 in
set_option maxRecDepth 100000 in
theorem ins_calls {α : Type} {St : World → List α → Prop} {N : Nat → Prop} {lt : α → α → Bool} {g sf : Nat} {lb sb : Array Value} (S : Sorter St N lt g sf lb sb) (l : List α) (n : Nat) (hn : l.length = n) (hl : n ≤ 1000) (w : World) (h : St w l) :
    Calls Tryd.prog 48 #[.agg #[.func (.func g) #[] lb, .func (.func sf) #[] sb], .int .i64 0, .int .i64 n] w fun e w' => e = .returned (.tuple #[]) ∧ ∃ l', St w' l' ∧ l'.Perm l ∧ Srt.Upto lt l' n ∧ Chg N w w' := by
  have eg := S.enters
  have SS := Lib.hid S
  have H0 : Hid (St (w.alloc (.cells #[.func (.func g) #[] lb, .func (.func sf) #[] sb] 79)) l) := S.alloc _ _ _ h
  have HN : Hid (¬ N w.heap.size) := fun e => Nat.lt_irrefl _ (S.new _ _ h _ e)
  have HB := Lib.hid (Blk.new w #[.func (.func g) #[] lb, .func (.func sf) #[] sb] 79)
  obtain ⟨bx, hbx⟩ : ∃ b, b = w.heap.size := ⟨_, rfl⟩
  obtain ⟨w0, hw0⟩ : ∃ x, x = w.alloc (.cells #[.func (.func g) #[] lb, .func (.func sf) #[] sb] 79) := ⟨_, rfl⟩
  have HW0 := Lib.hid hw0; have HBX := Lib.hid hbx
  rw [← hw0] at H0
  rw [← hbx] at HN
  rw [← hbx, ← hw0] at HB
  have HL := Lib.hid hn
  clear hw0 hbx h S hn
  go_enter Tryd.func48, Tryd.ntmps48
  go_upto_region 1 with fail
  rw [← HW0.out, ← HBX.out]
  go_wp2_with fail
  go_loopw [6] (fun vi wr => ∃ (i : Nat) (m : List α), 0 < i ∧ i ≤ n + 1 ∧ vi = .int .i64 i ∧ Hid (m.length = n ∧ St wr m ∧ m.Perm l ∧ Srt.Upto lt m (min i n) ∧ Chg N w0 wr)) (fun vi _ => n + 1 - (intOf vi).toNat)
  case atStart => exact ⟨1, l, by omega, by omega, rfl, HL.out, H0.out, List.Perm.refl _, fun p q _ _ h1 h2 => by omega, Chg.refl _ _⟩
  case round =>
    obtain ⟨i, m, hi0, hi1, rfl, H⟩ := hrel
    by_cases hin : i < n
    · go_wp2_with fail
      go_loopw [7] (fun vj wj => ∃ (j : Nat) (q : List α), j ≤ i ∧ vj = .int .i64 j ∧ Hid (q.length = n ∧ St wj q ∧ q.Perm l ∧ Srt.Ins lt q j i ∧ Chg N w0 wj)) (fun vj _ => (intOf vj).toNat)
      case atStart => exact ⟨i, m, Nat.le_refl _, rfl, H.out.1, H.out.2.1, H.out.2.2.1, Srt.ins_start (by have := H.out.2.2.2.1; rw [Nat.min_eq_left (by omega)] at this; exact this), H.out.2.2.2.2⟩
      case round =>
        obtain ⟨j, q, hji, rfl, G⟩ := hrel
        have HBJ := Lib.hid (G.out.2.2.2.2.blk HB.out HN.out)
        have c0 : wr.cell? ⟨bx, 0, none⟩ = some (.func (.func g) #[] lb) := HBJ.out.cell 0
        by_cases hj0 : 0 < j
        · have hx : q[j]? = some (q[j]'(by have := G.out.1; omega)) := by simp
          have hy : q[j - 1]? = some (q[j - 1]'(by have := G.out.1; omega)) := by simp
          generalize q[j]'(by have := G.out.1; omega) = x at hx
          generalize q[j - 1]'(by have := G.out.1; omega) = y at hy
          have hless := SS.out.less wr q j (j - 1) x y (by omega) G.out.2.1 hx hy
          rw [show (((j - 1 : Nat) : Int)) = (j : Int) - 1 by omega] at hless
          have HXY := Lib.hid (And.intro hx hy)
          have HLESS := Lib.hid hless
          clear hx hy hless
          go_wp2_with fail
          refine (HLESS.out).mono ?_
          rintro e w1 ⟨rfl, hS1, hC1⟩
          have HS1 := Lib.hid hS1; have HC1 := Lib.hid (G.out.2.2.2.2.trans hC1)
          have HB1 := Lib.hid (hC1.blk HBJ.out HN.out)
          have c1 : w1.cell? ⟨bx, 1, none⟩ = some (.func (.func sf) #[] sb) := HB1.out.cell 1
          clear hS1 hC1
          cases hlt : lt x y with
          | true =>
            obtain ⟨w2, hsw, hS2, hC2⟩ := SS.out.swap w1 q j (j - 1) x y (by omega) HS1.out HXY.out.1 HXY.out.2
            rw [show (((j - 1 : Nat) : Int)) = (j : Int) - 1 by omega] at hsw
            have HF : Hid ((Srt.swap q j (j - 1)).length = n ∧ St w2 (Srt.swap q j (j - 1)) ∧ (Srt.swap q j (j - 1)).Perm l ∧ Srt.Ins lt (Srt.swap q j (j - 1)) (j - 1) i ∧ Chg N w0 w2) :=
              ⟨by rw [Srt.swap_len HXY.out.1 HXY.out.2]; exact G.out.1, hS2, (Srt.swap_perm HXY.out.1 HXY.out.2).trans G.out.2.2.1, Srt.ins_step SS.out.ord G.out.2.2.2.1 hj0 hji HXY.out.1 HXY.out.2 hlt, HC1.out.trans hC2⟩
            have HSW := Lib.hid hsw
            clear hS2 hC2 hsw
            go_wp2_with fail
            rw [HSW.out, Oper.upon_value]
            go_wp2_with fail
            exact ⟨⟨j - 1, _, by omega, by congr 1; omega, HF.out⟩, by simp [intOf]; omega⟩
          | false =>
            have HF := Lib.hid (Srt.ins_stop SS.out.ord G.out.2.2.2.1 hji (.inr ⟨x, y, HXY.out.1, HXY.out.2, hlt⟩))
            go_wp2_with fail
            exact ⟨⟨i + 1, q, by omega, by omega, by go_num, G.out.1, HS1.out, G.out.2.2.1, by rw [Nat.min_eq_left (by omega)]; exact HF.out, HC1.out⟩, by simp [intOf]; omega⟩
        · have HF := Lib.hid (Srt.ins_stop SS.out.ord G.out.2.2.2.1 hji (.inl (by omega)))
          go_wp2_with fail
          exact ⟨⟨i + 1, q, by omega, by omega, by go_num, G.out.1, G.out.2.1, G.out.2.2.1, by rw [Nat.min_eq_left (by omega)]; exact HF.out, G.out.2.2.2.2⟩, by simp [intOf]; omega⟩
    · go_wp2_with fail
      go_end0
      refine ⟨rfl, m, H.out.2.1, H.out.2.2.1, ?_, ?_⟩
      · have := H.out.2.2.2.1
        rw [Nat.min_eq_right (by omega)] at this
        exact this
      · have := H.out.2.2.2.2
        rw [HW0.out] at this
        exact chg_box this
set_option maxHeartbeats 2000000 in
set_option maxRecDepth 100000 in
theorem pdq_calls {α : Type} {St : World → List α → Prop} {N : Nat → Prop} {lt : α → α → Bool} {g sf : Nat} {lb sb : Array Value} (S : Sorter St N lt g sf lb sb) (l : List α) (n : Nat) (lim : Int) (hn : l.length = n) (hl : n ≤ 12) (w : World) (h : St w l) :
    Calls Tryd.prog 33 #[.agg #[.func (.func g) #[] lb, .func (.func sf) #[] sb], .int .i64 0, .int .i64 n, .int .i64 lim] w fun e w' => e = .returned (.tuple #[]) ∧ ∃ l', St w' l' ∧ l'.Perm l ∧ Srt.Upto lt l' n ∧ Chg N w w' := by
  have H0 : Hid (St (w.alloc (.cells #[.func (.func g) #[] lb, .func (.func sf) #[] sb] 79)) l) := S.alloc _ _ _ h
  have SS := Lib.hid S
  have HB := Lib.hid (Blk.new w #[.func (.func g) #[] lb, .func (.func sf) #[] sb] 79)
  obtain ⟨bx, hbx⟩ : ∃ b, b = w.heap.size := ⟨_, rfl⟩
  obtain ⟨w0, hw0⟩ : ∃ x, x = w.alloc (.cells #[.func (.func g) #[] lb, .func (.func sf) #[] sb] 79) := ⟨_, rfl⟩
  have HW0 := Lib.hid hw0; have HBX := Lib.hid hbx
  rw [← hw0] at H0
  rw [← hbx, ← hw0] at HB
  have HL := Lib.hid hn
  have c0 : w0.cell? ⟨bx, 0, none⟩ = some (.func (.func g) #[] lb) := HB.out.cell 0
  have c1 : w0.cell? ⟨bx, 1, none⟩ = some (.func (.func sf) #[] sb) := HB.out.cell 1
  clear hw0 hbx h S hn
  go_enter Tryd.func33, Tryd.ntmps33
  go_upto_region 1 with fail
  rw [← HW0.out, ← HBX.out]
  go_wp2_with fail
  go_loopw [1, 2] (fun a b wr => wr = w0 ∧ a = .int .i64 0 ∧ b = .int .i64 n) (fun _ _ _ => 0)
  case atStart => exact ⟨rfl, rfl, rfl⟩
  case round =>
    obtain ⟨rfl, rfl, rfl⟩ := hrel
    go_wp2_with fail
    refine (ins_calls SS.out l n HL.out (by omega) _ H0.out).mono ?_
    rintro e w1 ⟨rfl, l', h1, h2, h3, h4⟩
    go_wp2_with fail
    go_returns
    rw [HW0.out] at h4
    exact ⟨rfl, l', h1, h2, h3, chg_box h4⟩
end Go.Proofs.YtgjabnpngggcmaaDoor
