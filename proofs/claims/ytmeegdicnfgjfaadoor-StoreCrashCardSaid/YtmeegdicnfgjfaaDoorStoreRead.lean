/- Walks of the store: a record's bytes are read. -/
import Derived.Test.YtmeegdicnfgjfaaDoorStoreMath
import Derived.Test.YtmeegdicnfgjfaaDoorCodeTake
import Derived.Test.YtmeegdicnfgjfaaDoorTail
import Derived.Laws.BytesArg
namespace Go.Proofs.YtmeegdicnfgjfaaDoor
open Go Go.RowKit Go.Mem Gf
attribute [local go_sem ↓] Go.wp_at_zero Go.wp_at_succ
/-- bytes as a string -/
theorem conv_string {w : World} {v : Value} {bs : List UInt8} (h : Bys w v bs) : (convert 24 9 v).run Tryd.prog w = .ok (.string ⟨bs.toArray⟩) w := by
  obtain ⟨a, cap, rfl, h1, h2, h3⟩ := h
  rcases Nat.eq_zero_or_pos bs.length with h0 | h0
  · rw [h0, List.eq_nil_of_length_eq_zero h0]
    rw [run_convert_bytes_string w 24 9 5 _ 0 cap Tryd.underlying24 Tryd.underlying5 Tryd.underlying9]
    cases a <;> simp [Conv.bytesToString, loadCells]
    all_goals rfl
  · obtain ⟨b, off, rfl, hc⟩ := h3 h0
    have := run_convert_bytes_arg (P := Tryd.prog) w 24 5 Tryd.underlying24 Tryd.underlying5 b off bs.length cap (bs.map fun u => ((u.toNat : Nat) : Int)) (by simp) (fun i hi => by
      rw [hc i bs[i] (by simp [hi])]
      simp [List.getD, hi]) 9 Tryd.underlying9
    have e : (bs.map fun u : UInt8 => ((u.toNat : Nat) : Int)).map (fun n => UInt8.ofNat n.toNat) = bs := by
      rw [List.map_map]
      exact (List.map_congr_left (fun u _ => by simp)).trans (List.map_id bs)
    rw [this]
    unfold strOfNums
    rw [e]
/-- four cells of a block are written -/
theorem chg4 (w : World) (g : Nat) (u0 u1 u2 u3 : Value) : Chg (fun b => b = g) w ((((w.setCell ⟨g, 0, none⟩ u0).setCell ⟨g, 1, none⟩ u1).setCell ⟨g, 2, none⟩ u2).setCell ⟨g, 3, none⟩ u3) := by
  refine Chg.set (S := fun b => b = g) ?_ (a := ⟨g, 3, none⟩) rfl u3
  refine Chg.set (S := fun b => b = g) ?_ (a := ⟨g, 2, none⟩) rfl u2
  refine Chg.set (S := fun b => b = g) ?_ (a := ⟨g, 1, none⟩) rfl u1
  exact Chg.set (S := fun b => b = g) (Chg.refl _ _) (a := ⟨g, 0, none⟩) rfl u0
theorem getD_old {α : Type} (xs : List α) (x d : α) {j : Nat} (h : j < xs.length) : (xs ++ [x]).getD j d = xs.getD j d := by
  rw [List.getD_eq_getElem?_getD, List.getD_eq_getElem?_getD, List.getElem?_append_left h]
theorem getD_new {α : Type} (xs : List α) (x d : α) {j : Nat} (h : j = xs.length) : (xs ++ [x]).getD j d = x := by
  subst h; rw [List.getD_eq_getElem?_getD, List.getElem?_append_right (Nat.le_refl _)]; simp
/-- what a parse that fails leaves: some record, and false -/
def SomeRec (v : Value) : Prop := ∃ (b : Bool) (s : ByteArray) (z : Int) (dv : Value), v = .tuple #[.agg #[.bool b, .string s, .int .i64 z, dv], .bool false] ∧ ∃ a l c, dv = .slice a l c
set_option maxRecDepth 20000 in
set_option maxHeartbeats 2000000 in
theorem parse_calls (v : Value) (bs : List UInt8) (w : World) (h : Bys w v bs) (hl : bs.length ≤ 1000000) :
    Calls Tryd.prog 50 #[v] w fun e w' => Below w.heap.size w w' ∧ ((∃ r, Sto.parse bs = some r ∧ ∃ dv, e = .returned (.tuple #[.agg #[.bool true, .string r.name, .int .i64 r.num, dv], .bool true]) ∧ OwnX 5 w' w.heap.size dv r.data) ∨ (Sto.parse bs = none ∧ ∃ v, e = .returned v ∧ SomeRec v)) := by
  obtain ⟨a, c, rfl⟩ := h.eq_slice
  go_enter Tryd.func50, Tryd.ntmps50
  have h1 : Bys ((w.alloc (.cells #[.bool false, .string { data := #[] }, .int .i64 0, .slice none 0 0] 74)).alloc (.cells #[.slice none 0 0, .slice none 0 0, .slice none 0 0] 101)) (.slice a bs.length c) bs := h.below (((Below.refl _ _).alloc (Nat.le_refl _) _).alloc (by simp) _)
  have hA0 := Blk.new_at (w.alloc (.cells #[.bool false, .string { data := #[] }, .int .i64 0, .slice none 0 0] 74)) #[.slice none 0 0, .slice none 0 0, .slice none 0 0] 101 (w.heap.size + 1) (by simp)
  have hR0 := (Blk.new w #[.bool false, .string { data := #[] }, .int .i64 0, .slice none 0 0] 74).alloc (.cells #[.slice none 0 0, .slice none 0 0, .slice none 0 0] 101)
  have hb0 : Below w.heap.size w ((w.alloc (.cells #[.bool false, .string { data := #[] }, .int .i64 0, .slice none 0 0] 74)).alloc (.cells #[.slice none 0 0, .slice none 0 0, .slice none 0 0] 101)) := ((Below.refl _ _).alloc (Nat.le_refl _) _).alloc (by simp) _
  go_wp2_with fail
  go_loopw [0, 9] (fun u v wr => ∃ (k : Nat) (xs : List (List UInt8)) (r : List UInt8) (v0 v1 v2 : Value), k ≤ 3 ∧ v = .int .i64 k ∧ Hid (Sto.takeN k bs = some (xs, r)) ∧ Bys wr u r ∧ r.length ≤ 1000000 ∧ Blk wr (w.heap.size + 1) #[v0, v1, v2] 101 ∧ Blk wr w.heap.size #[.bool false, .string { data := #[] }, .int .i64 0, .slice none 0 0] 74 ∧
      Hid (0 < k → OwnX 5 wr (w.heap.size + 2) v0 (xs.getD 0 [])) ∧ Hid (1 < k → OwnX 5 wr (w.heap.size + 2) v1 (xs.getD 1 [])) ∧ Hid (2 < k → OwnX 5 wr (w.heap.size + 2) v2 (xs.getD 2 [])) ∧ Below w.heap.size w wr ∧ w.heap.size + 2 ≤ wr.heap.size) (fun _ v _ => 3 - (intOf v).toNat)
  case atStart => exact ⟨0, [], bs, _, _, _, by omega, rfl, rfl, h1, hl, hA0, hR0, fun h => by omega, fun h => by omega, fun h => by omega, hb0, by simp⟩
  case round =>
    clear h1 hA0 hR0 hb0 h
    obtain ⟨k, xs, r, v0, v1, v2, hk, rfl, Hk, hr, hrl, hA, hR, h0, h1, h2, hb, hs⟩ := hrel
    by_cases hk3 : k < 3
    · obtain ⟨va, vc, rfl⟩ := hr.eq_slice
      have Hr := Lib.hid hR; have Ha := Lib.hid hA
      cases ht : Cod.takeNet r with
      | none =>
        have Hp := Lib.hid (show Sto.parse bs = none from by
          have h3 : ∀ j, k < j → Sto.takeN j bs = none := by
            intro j hj
            induction j with
            | zero => omega
            | succ j ih =>
              rw [Sto.takeN]
              by_cases e : j = k
              · subst e; rw [Hk.out]; simp only [ht]
              · rw [ih (by omega)]
          unfold Sto.parse; rw [h3 3 hk3])
        have Ht := Lib.hid ht
        clear ht
        go_wp2_with fail
        refine (takeNet_bad _ r wr hr (by omega) Ht.out).mono ?_
        rintro e w2 ⟨rfl, rfl⟩
        have d0 : wr.cell? ⟨w.heap.size, 0, none⟩ = some (.bool false) := by rw [Hr.out.cell]; rfl
        have d1 : wr.cell? ⟨w.heap.size, 1, none⟩ = some (.string { data := #[] }) := by rw [Hr.out.cell]; rfl
        have d2 : wr.cell? ⟨w.heap.size, 2, none⟩ = some (.int .i64 0) := by rw [Hr.out.cell]; rfl
        have d3 : wr.cell? ⟨w.heap.size, 3, none⟩ = some (.slice none 0 0) := by rw [Hr.out.cell]; rfl
        have f0 := Hr.out.free 0; have f1 := Hr.out.free 1; have f2 := Hr.out.free 2; have f3 := Hr.out.free 3
        have c0 : wr.cell? ⟨w.heap.size + 1, 0, none⟩ = some v0 := by rw [Ha.out.cell]; rfl
        have c1 : wr.cell? ⟨w.heap.size + 1, 1, none⟩ = some v1 := by rw [Ha.out.cell]; rfl
        have c2 : wr.cell? ⟨w.heap.size + 1, 2, none⟩ = some v2 := by rw [Ha.out.cell]; rfl
        have g0 := Ha.out.free 0; have g1 := Ha.out.free 1; have g2 := Ha.out.free 2
        clear hA hR hr Ht
        rcases (show k = 0 ∨ k = 1 ∨ k = 2 from by omega) with rfl | rfl | rfl
        all_goals
          go_wp2
          refine bodyPost_ret (v := .tuple #[.agg #[.bool false, .string { data := #[] }, .int .i64 0, .slice none 0 0], .bool false]) (by simp [results, Tryd.results50, go_sem, d0, d1, d2, d3]) rfl ⟨?_, .inr ⟨Hp.out, _, rfl, false, _, 0, _, rfl, _, _, _, rfl⟩⟩
          exact ((((hb.setCell (by simp) _).setCell (by simp) _).setCell (by simp) _).setCell (by simp) _).setCell (by simp) _
      | some q =>
        obtain ⟨x, y⟩ := q
        have Ht := Lib.hid ht
        clear ht
        go_wp2_with fail
        refine (takeNet_ok _ r x y wr hr (by omega) Ht.out).mono ?_
        rintro e w2 ⟨vx, vy, rfl, hx, hy, hb2⟩
        have hA2 := hA.kept hb2
        have hR2 := hR.kept hb2
        have hxl : x.length ≤ 1000000 ∧ y.length ≤ 1000000 := by
          obtain ⟨_, _, _, h4, _, _, h7, h8⟩ := takeNet_some Ht.out
          exact ⟨by rw [h7]; simp; omega, by rw [h8]; simp; omega⟩
        have Hn := Lib.hid (show Sto.takeN (k + 1) bs = some (xs ++ [x], y) from by rw [Sto.takeN, Hk.out]; simp only [Ht.out])
        have Hl := Lib.hid (Sto.takeN_len _ _ _ _ Hk.out)
        have c0 : w2.cell? ⟨w.heap.size + 1, 0, none⟩ = some v0 := by rw [hA2.cell]; rfl
        have c1 : w2.cell? ⟨w.heap.size + 1, 1, none⟩ = some v1 := by rw [hA2.cell]; rfl
        have c2 : w2.cell? ⟨w.heap.size + 1, 2, none⟩ = some v2 := by rw [hA2.cell]; rfl
        have g0 := hA2.free 0; have g1 := hA2.free 1; have g2 := hA2.free 2
        obtain ⟨xa, xc, rfl⟩ := hx.eq_slice
        have Hx := Lib.hid hx; have Hy := Lib.hid hy; have HA2 := Lib.hid hA2; have HR2 := Lib.hid hR2; have Hb2 := Lib.hid hb2; have Hr' := Lib.hid hr
        clear hA hR hx hy hA2 hR2 hb2 hr
        have hs2 := Hb2.out.size
        have hC : ∀ j v, Chg (fun b => b = w.heap.size + 1) wr (w2.setCell ⟨w.heap.size + 1, j, none⟩ v) := fun j v => Chg.set (S := fun b => b = w.heap.size + 1) (Chg.of_below Hb2.out) (a := ⟨w.heap.size + 1, j, none⟩) rfl v
        have hC2 : ∀ j v, Chg (fun b => b = w.heap.size + 1) w2 (w2.setCell ⟨w.heap.size + 1, j, none⟩ v) := fun j v => Chg.set (S := fun b => b = w.heap.size + 1) (Chg.refl _ _) (a := ⟨w.heap.size + 1, j, none⟩) rfl v
        have HC := Lib.hid hC; have HC2 := Lib.hid hC2
        have hap : ∀ (v : Value) (bs : List UInt8) (w' : World), OwnX 5 w' (w.heap.size + 2) v bs → ∀ g, v.ownBlock = some g → ¬ g = w.heap.size + 1 := fun v bs w' ho g hg => by have := (ho.lt g hg).1; omega
        have Hap := Lib.hid hap
        have HX := Lib.hid (fun j v => (Hx.out.mono hs).chg (hC2 j v) (hap _ _ _ (Hx.out.mono hs)))
        have HY := Lib.hid (fun j v => ((Hy.out.mono hs).chg (hC2 j v) (hap _ _ _ (Hy.out.mono hs))).bys)
        have HB := Lib.hid (fun j v => (show Below w.heap.size w (w2.setCell ⟨w.heap.size + 1, j, none⟩ v) from (hb.trans (Hb2.out.mono hb.size)).setCell (show w.heap.size ≤ w.heap.size + 1 by omega) v))
        have HR3 := Lib.hid (fun j v => HR2.out.set_other (a := ⟨w.heap.size + 1, j, none⟩) (show w.heap.size + 1 ≠ w.heap.size by omega) v)
        have HA3 := Lib.hid (fun j v => HA2.out.set j v)
        have Hge := Lib.hid (show w.heap.size + 2 ≤ w2.heap.size by omega)
        clear hC hC2 hap
        rcases (show k = 0 ∨ k = 1 ∨ k = 2 from by omega) with rfl | rfl | rfl
        · go_wp2
          exact ⟨⟨1, xs ++ [x], y, _, v1, v2, by decide, rfl, Hn.out, HY.out 0 _, hxl.2, by simpa using HA3.out 0 _, HR3.out 0 _, (fun _ => by rw [getD_new _ _ _ Hl.out.symm]; exact HX.out 0 _), (fun h => by omega), (fun h => by omega), HB.out 0 _, by simpa using Hge.out⟩, by simp [intOf]⟩
        · go_wp2
          exact ⟨⟨2, xs ++ [x], y, v0, _, v2, by decide, rfl, Hn.out, HY.out 1 _, hxl.2, by simpa using HA3.out 1 _, HR3.out 1 _, (fun _ => by rw [getD_old _ _ _ (by rw [Hl.out]; decide)]; exact (h0.out (by decide)).chg (HC.out 1 _) (Hap.out _ _ _ (h0.out (by decide)))), (fun _ => by rw [getD_new _ _ _ Hl.out.symm]; exact HX.out 1 _), (fun h => by omega), HB.out 1 _, by simpa using Hge.out⟩, by simp [intOf]⟩
        · go_wp2
          exact ⟨⟨3, xs ++ [x], y, v0, v1, _, by decide, rfl, Hn.out, HY.out 2 _, hxl.2, by simpa using HA3.out 2 _, HR3.out 2 _, (fun _ => by rw [getD_old _ _ _ (by rw [Hl.out]; decide)]; exact (h0.out (by decide)).chg (HC.out 2 _) (Hap.out _ _ _ (h0.out (by decide)))), (fun _ => by rw [getD_old _ _ _ (by rw [Hl.out]; decide)]; exact (h1.out (by decide)).chg (HC.out 2 _) (Hap.out _ _ _ (h1.out (by decide)))), (fun _ => by rw [getD_new _ _ _ Hl.out.symm]; exact HX.out 2 _), HB.out 2 _, by simpa using Hge.out⟩, by simp [intOf]⟩
    · obtain rfl : k = 3 := by omega
      have o0 := h0.out (by decide)
      have o1 := h1.out (by decide)
      have o2 := h2.out (by decide)
      obtain ⟨x0, hx0⟩ : ∃ x, x = xs.getD 0 [] := ⟨_, rfl⟩
      obtain ⟨x1, hx1⟩ : ∃ x, x = xs.getD 1 [] := ⟨_, rfl⟩
      obtain ⟨x2, hx2⟩ : ∃ x, x = xs.getD 2 [] := ⟨_, rfl⟩
      have HP := Lib.hid (show Sto.parse bs = if x1.length = 4 then some ⟨true, ⟨x0.toArray⟩, Cod.getN x1, x2⟩ else none from by
        unfold Sto.parse; rw [Hk.out, hx0, hx1, hx2])
      rw [← hx0] at o0; rw [← hx1] at o1; rw [← hx2] at o2
      clear hx0 hx1 hx2 h0 h1 h2 hr
      have d0 : wr.cell? ⟨w.heap.size, 0, none⟩ = some (.bool false) := by rw [hR.cell]; rfl
      have d1 : wr.cell? ⟨w.heap.size, 1, none⟩ = some (.string { data := #[] }) := by rw [hR.cell]; rfl
      have d2 : wr.cell? ⟨w.heap.size, 2, none⟩ = some (.int .i64 0) := by rw [hR.cell]; rfl
      have d3 : wr.cell? ⟨w.heap.size, 3, none⟩ = some (.slice none 0 0) := by rw [hR.cell]; rfl
      have f0 := hR.free 0; have f1 := hR.free 1; have f2 := hR.free 2; have f3 := hR.free 3
      have c0 : wr.cell? ⟨w.heap.size + 1, 0, none⟩ = some v0 := by rw [hA.cell]; rfl
      have c1 : wr.cell? ⟨w.heap.size + 1, 1, none⟩ = some v1 := by rw [hA.cell]; rfl
      have c2 : wr.cell? ⟨w.heap.size + 1, 2, none⟩ = some v2 := by rw [hA.cell]; rfl
      obtain ⟨z, hz⟩ : ∃ z : Nat × Bool, (x1.length ≤ 7 → z.1 = Cod.getN x1) ∧ Calls Tryd.prog 58 #[v1] wr fun e w' => e = .returned (.tuple #[.int .i64 (z.1 : Nat), .bool z.2]) ∧ wr = w' := by
        by_cases h7 : x1.length ≤ 7
        · exact ⟨(Cod.getN x1, true), fun _ => rfl, get_calls _ _ _ o1.bys h7⟩
        · exact ⟨(0, false), fun h => absurd h h7, get_bad _ _ _ o1.bys (by omega)⟩
      obtain ⟨z, zb⟩ := z
      obtain ⟨hz1, hz2⟩ := hz
      have HZ1 := Lib.hid hz1; have HZ2 := Lib.hid hz2
      have HO2 := Lib.hid o2; have HR := Lib.hid hR; have HA := Lib.hid hA
      obtain ⟨a1, b1, rfl⟩ := o1.eq_slice
      obtain ⟨a0, b0, rfl⟩ := o0.eq_slice
      have HO0 := Lib.hid o0
      obtain ⟨a2, b2, rfl⟩ := o2.eq_slice
      clear hz1 hz2 o0 o1 o2 hR hA
      go_wp2_with fail
      refine HZ2.out.mono ?_
      rintro e w2 ⟨rfl, rfl⟩
      go_wp2_with fail
      have hcv1 : Bys wr.drew (.slice a0 x0.length b0) x0 := HO0.out.drew.bys
      have hs0 : wr.drew.cell? ⟨w.heap.size + 1, 0, none⟩ = some (.slice a0 x0.length b0) := c0
      have hs1 : wr.drew.cell? ⟨w.heap.size + 1, 1, none⟩ = some (.slice a1 x1.length b1) := c1
      have hs2 : wr.drew.cell? ⟨w.heap.size + 1, 2, none⟩ = some (.slice a2 x2.length b2) := c2
      have H0 := Lib.hid (And.intro hs0 (And.intro hs1 (And.intro hs2 hcv1)))
      have hcvr : ∀ w', Bys w' (.slice a0 x0.length b0) x0 → (convert 24 9 (.slice a0 x0.length b0)).run Tryd.prog w' = .ok (.string ⟨x0.toArray⟩) w' := fun w' hB => conv_string hB
      clear hs0 hs1 hs2 hcv1 c0 c1 c2
      have hO1 : ∀ u0 u1 u2 u3, Bys ((((wr.setCell ⟨w.heap.size, 0, none⟩ u0).setCell ⟨w.heap.size, 1, none⟩ u1).setCell ⟨w.heap.size, 2, none⟩ u2).setCell ⟨w.heap.size, 3, none⟩ u3).drew (.slice a0 x0.length b0) x0 := fun u0 u1 u2 u3 => by
        have h1 := chg4 wr w.heap.size u0 u1 u2 u3
        have h2 := HO0.out.chg h1 (fun g hg e => by have := (HO0.out.lt g hg).1; omega)
        exact h2.bys
      have HO1 := Lib.hid hO1
      clear hO1
      have HS : ∀ u0 u1 u2 u3, Hid (((((wr.setCell ⟨w.heap.size, 0, none⟩ u0).setCell ⟨w.heap.size, 1, none⟩ u1).setCell ⟨w.heap.size, 2, none⟩ u2).setCell ⟨w.heap.size, 3, none⟩ u3).drew.cell? ⟨w.heap.size + 1, 0, none⟩ = some (.slice a0 x0.length b0) ∧ ((((wr.setCell ⟨w.heap.size, 0, none⟩ u0).setCell ⟨w.heap.size, 1, none⟩ u1).setCell ⟨w.heap.size, 2, none⟩ u2).setCell ⟨w.heap.size, 3, none⟩ u3).drew.cell? ⟨w.heap.size + 1, 1, none⟩ = some (.slice a1 x1.length b1) ∧
          ((((wr.setCell ⟨w.heap.size, 0, none⟩ u0).setCell ⟨w.heap.size, 1, none⟩ u1).setCell ⟨w.heap.size, 2, none⟩ u2).setCell ⟨w.heap.size, 3, none⟩ u3).drew.cell? ⟨w.heap.size + 1, 2, none⟩ = some (.slice a2 x2.length b2) ∧
          Bys ((((wr.setCell ⟨w.heap.size, 0, none⟩ u0).setCell ⟨w.heap.size, 1, none⟩ u1).setCell ⟨w.heap.size, 2, none⟩ u2).setCell ⟨w.heap.size, 3, none⟩ u3).drew (.slice a0 x0.length b0) x0) := fun u0 u1 u2 u3 => by
        have hA' := (((HA.out.set_other (a := ⟨w.heap.size, 0, none⟩) (show w.heap.size ≠ w.heap.size + 1 by omega) u0).set_other (a := ⟨w.heap.size, 1, none⟩) (show w.heap.size ≠ w.heap.size + 1 by omega) u1).set_other (a := ⟨w.heap.size, 2, none⟩) (show w.heap.size ≠ w.heap.size + 1 by omega) u2).set_other (a := ⟨w.heap.size, 3, none⟩) (show w.heap.size ≠ w.heap.size + 1 by omega) u3
        exact ⟨hA'.cell 0, hA'.cell 1, hA'.cell 2, HO1.out u0 u1 u2 u3⟩
      go_region_held3 (fun w' => w'.cell? ⟨w.heap.size + 1, 0, none⟩ = some (.slice a0 x0.length b0) ∧ w'.cell? ⟨w.heap.size + 1, 1, none⟩ = some (.slice a1 x1.length b1) ∧ w'.cell? ⟨w.heap.size + 1, 2, none⟩ = some (.slice a2 x2.length b2) ∧ Bys w' (.slice a0 x0.length b0) x0) (first | with_reducible exact H0.out | with_reducible exact (HS _ _ _ _).out) (fail)
      have hbel : ∀ u0 u1 u2 u3, Below w.heap.size w ((((wr.setCell ⟨w.heap.size, 0, none⟩ u0).setCell ⟨w.heap.size, 1, none⟩ u1).setCell ⟨w.heap.size, 2, none⟩ u2).setCell ⟨w.heap.size, 3, none⟩ u3) := fun u0 u1 u2 u3 => (((hb.setCell (Nat.le_refl _) _).setCell (Nat.le_refl _) _).setCell (Nat.le_refl _) _).setCell (Nat.le_refl _) _
      have hown : ∀ u0 u1 u2 u3, OwnX 5 ((((wr.setCell ⟨w.heap.size, 0, none⟩ u0).setCell ⟨w.heap.size, 1, none⟩ u1).setCell ⟨w.heap.size, 2, none⟩ u2).setCell ⟨w.heap.size, 3, none⟩ u3) w.heap.size (.slice a2 x2.length b2) x2 := fun u0 u1 u2 u3 => (HO2.out.chg (chg4 wr w.heap.size u0 u1 u2 u3) (fun g hg e => by have := (HO2.out.lt g hg).1; omega)).mono (by omega)
      have HBEL := Lib.hid hbel; have HOWN := Lib.hid hown
      clear hbel hown HS
      go_wp2
      refine bodyPost_ret (v := .tuple #[.agg #[.bool true, .string ⟨x0.toArray⟩, .int .i64 (z : Int), .slice a2 x2.length b2], .bool ((x1.length : Int) == 4)]) (by simp [results, Tryd.results50, go_sem, d0, d1, d2, d3]) rfl ⟨below_drewN (HBEL.out _ _ _ _) 1, ?_⟩
      by_cases h4 : x1.length = 4
      · have e1 : ((x1.length : Int) == 4) = true := by simp; omega
        rw [e1]
        have := HZ1.out (by omega)
        subst this
        exact .inl ⟨_, by rw [HP.out, if_pos h4], _, rfl, (HOWN.out _ _ _ _).drew⟩
      · have e1 : ((x1.length : Int) == 4) = false := by simp; omega
        rw [e1]
        exact .inr ⟨by rw [HP.out, if_neg h4], _, rfl, _, _, _, _, rfl, _, _, _, rfl⟩
end Go.Proofs.YtmeegdicnfgjfaaDoor
