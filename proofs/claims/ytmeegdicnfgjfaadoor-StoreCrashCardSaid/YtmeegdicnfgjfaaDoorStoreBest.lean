/- Walks of the store: the slot of a name's record. -/
import Derived.Test.YtmeegdicnfgjfaaDoorStoreMem
namespace Go.Proofs.YtmeegdicnfgjfaaDoor
open Go Go.RowKit Go.Mem Gf
attribute [local go_sem ↓] Go.wp_at_zero Go.wp_at_succ
theorem best_lt (l : List Sto.Rec) (name : ByteArray) : ∀ k j, Sto.best l name k = some j → j < k ∧ ∃ r, l[j]? = some r ∧ r.is = true ∧ (r.name.toList == name.toList) = true
  | 0, j, h => by simp [Sto.best] at h
  | k + 1, j, h => by
    simp only [Sto.best] at h
    split at h
    · have := best_lt l name k j h; exact ⟨by omega, this.2⟩
    · rename_i r hr
      split at h
      · rename_i hc
        cases h
        exact ⟨by omega, r, hr, hc.1, hc.2.1⟩
      · have := best_lt l name k j h; exact ⟨by omega, this.2⟩
theorem best_step {l : List Sto.Rec} {name : ByteArray} {i : Nat} {r : Sto.Rec} (h : l[i]? = some r) : Sto.best l name (i + 1) = if r.is = true ∧ (r.name.toList == name.toList) = true ∧ (∀ j, Sto.best l name i = some j → (l.getD j Sto.Rec.free).num < r.num) then some i else Sto.best l name i := by
  rw [Sto.best, h]
set_option maxRecDepth 20000 in
set_option maxHeartbeats 1000000 in
theorem best_calls (N : Nat → Prop) (sb lb d n cap room : Nat) (dead : Bool) (l : List Sto.Rec) (name : ByteArray) (w : World) (hB : Blk w sb (stV d room (some ⟨lb, 0, none⟩) n cap dead) 72) (hR : RecsAt 74 w N lb l) (hn : n = l.length) (hn2 : n ≤ 1000000) (hnc : n ≤ cap) (hcm : cap ≤ 9223372036854775807) (hnum : ∀ r ∈ l, r.num ≤ 4611686018427387904) :
    Calls Tryd.prog 35 #[.pointer (some ⟨sb, 0, none⟩), .string name] w fun e w' => e = .returned (.int .i64 (optI (Sto.best l name n))) ∧ Below w.heap.size w w' := by
  have c2 : w.cell? ⟨sb, 2, none⟩ = some (.slice (some ⟨lb, 0, none⟩) n cap) := hB.cell 2
  have Hn := Lib.hid hn; have HB := Lib.hid hB; have HR := Lib.hid hR; have Hnum := Lib.hid hnum
  clear hn hB hR hnum
  go_enter Tryd.func35, Tryd.ntmps35
  go_wp2_with fail
  go_loopw [5, 13] (fun u v wr => ∃ i : Nat, i ≤ n ∧ v = .int .i64 i ∧ u = .int .i64 (optI (Sto.best l name i)) ∧ Below w.heap.size w wr) (fun _ v _ => n - (intOf v).toNat)
  case atStart => exact ⟨0, by omega, rfl, rfl, Below.refl _ _⟩
  case round =>
    obtain ⟨i, hi, rfl, rfl, hb⟩ := hrel
    by_cases h0 : i < n
    · obtain ⟨r, hr⟩ : ∃ r, l[i]? = some r := ⟨l[i]'(by have := Hn.out; omega), by simp⟩
      have hRr := HR.out.below hb
      obtain ⟨a, c, c3, c4, c5, c6, _, _⟩ := hRr.at hr
      have i0 : (0 : Int) ≤ (i : Int) := by omega
      have i1 : (i : Int) < (n : Int) := by omega
      have Hr := Lib.hid hr; have HRr := Lib.hid hRr
      have hBr := HB.out.kept hb
      have HBr := Lib.hid hBr
      have hbx := Blk.new wr (recV r (.slice a r.data.length c)) 74
      have hbb : Below wr.heap.size wr (wr.alloc (.cells (recV r (.slice a r.data.length c)) 74)) := (Below.refl _ _).alloc (Nat.le_refl _) _
      obtain ⟨wb, hwb⟩ : ∃ wb, wb = wr.alloc (.cells (recV r (.slice a r.data.length c)) 74) := ⟨_, rfl⟩
      obtain ⟨bx, hbxe⟩ : ∃ bx, bx = wr.heap.size := ⟨_, rfl⟩
      have Hstep := Lib.hid (best_step (name := name) hr)
      clear hr hRr hBr
      go_upto_region 5 with fail
      rw [show (wr.alloc (.cells #[.bool r.is, .string r.name, .int .i64 (r.num : Int), .slice a r.data.length c] 74)) = wb from hwb.symm, ← hbxe]
      rw [← hwb, ← hbxe] at hbx
      rw [← hwb] at hbb
      have b0 : wb.cell? ⟨bx, 0, none⟩ = some (.bool r.is) := hbx.cell 0
      have b1 : wb.cell? ⟨bx, 1, none⟩ = some (.string r.name) := hbx.cell 1
      have b2 : wb.cell? ⟨bx, 2, none⟩ = some (.int .i64 (r.num : Int)) := hbx.cell 2
      have hbw := Lib.hid (hb.trans (hbb.mono hb.size))
      have Hbb := Lib.hid hbb
      clear hwb hbxe hbx hbb c3 c4 c5 c6
      by_cases k1 : r.is = true
      · by_cases k2 : (r.name.toList == name.toList) = true
        · cases hbest : Sto.best l name i with
          | none =>
            have Hfin := Lib.hid (show Sto.best l name (i + 1) = some i from by rw [Hstep.out, if_pos ⟨k1, k2, fun j h => by rw [hbest] at h; cases h⟩])
            rw [k1] at b0
            clear k1 hbest
            simp only [optI]
            go_quiet (fail)
            go_wp2
            exact ⟨⟨i + 1, by omega, by go_num, by rw [Hfin.out]; rfl, below_drewN hbw.out _⟩, by simp [intOf] <;> omega⟩
          | some j =>
            obtain ⟨hj, rj, hrj, _⟩ := best_lt l name i j hbest
            obtain ⟨a2, c2', _, _, e5, _⟩ := (HRr.out.below Hbb.out).at hrj
            have s2 : wb.cell? ⟨sb, 2, none⟩ = some (.slice (some ⟨lb, 0, none⟩) n cap) := (HBr.out.kept Hbb.out).cell 2
            have j0 : (0 : Int) ≤ (j : Int) := by omega
            have j1 : (j : Int) < (n : Int) := by omega
            have j2 : decide ((j : Int) < 0) = false := by simp <;> omega
            have j3 : j < n := by omega
            have n1 := Hnum.out rj (List.mem_of_getElem? hrj)
            have n2 := Hnum.out r (List.mem_of_getElem? Hr.out)
            have hgd : l.getD j Sto.Rec.free = rj := by rw [List.getD_eq_getElem?_getD, hrj]; rfl
            by_cases k3 : rj.num < r.num
            · have Hfin := Lib.hid (show Sto.best l name (i + 1) = some i from by rw [Hstep.out, if_pos ⟨k1, k2, fun j' h => by rw [hbest] at h; cases h; rw [hgd]; exact k3⟩])
              have t3 : decide ((rj.num : Int) < (r.num : Int)) = true := by simp; omega
              have t4 : decide (rj.num < r.num) = true := by simp; omega
              rw [k1] at b0
              clear k1 hbest hgd hrj
              simp only [optI]
              go_quiet (fail)
              go_wp2
              exact ⟨⟨i + 1, by omega, by go_num, by rw [Hfin.out]; rfl, below_drewN hbw.out _⟩, by simp [intOf] <;> omega⟩
            · have Hfin := Lib.hid (show Sto.best l name (i + 1) = some j from by rw [Hstep.out, if_neg (fun h => k3 (by have := h.2.2 j hbest; rw [hgd] at this; exact this)), hbest])
              have t3 : decide ((rj.num : Int) < (r.num : Int)) = false := by simp; omega
              have t4 : decide (rj.num < r.num) = false := by simp; omega
              rw [k1] at b0
              clear k1 hbest hgd hrj
              simp only [optI]
              go_quiet (fail)
              go_wp2
              exact ⟨⟨i + 1, by omega, by go_num, by rw [Hfin.out]; rfl, below_drewN hbw.out _⟩, by simp [intOf] <;> omega⟩
        · have Hfin := Lib.hid (show Sto.best l name (i + 1) = Sto.best l name i from by rw [Hstep.out, if_neg (fun h => k2 h.2.1)])
          have k2 : (r.name.toList == name.toList) = false := by simpa using k2
          rw [k1] at b0
          clear k1
          go_quiet (fail)
          go_wp2
          exact ⟨⟨i + 1, by omega, by go_num, by rw [Hfin.out], below_drewN hbw.out _⟩, by simp [intOf] <;> omega⟩
      · have Hfin := Lib.hid (show Sto.best l name (i + 1) = Sto.best l name i from by rw [Hstep.out, if_neg (fun h => k1 h.1)])
        have k1 : r.is = false := by simpa using k1
        rw [k1] at b0
        clear k1
        go_quiet (fail)
        go_wp2
        exact ⟨⟨i + 1, by omega, by go_num, by rw [Hfin.out], below_drewN hbw.out _⟩, by simp [intOf] <;> omega⟩
    · obtain rfl : n = i := by omega
      go_wp2
      go_ret
      exact ⟨rfl, hb⟩
end Go.Proofs.YtmeegdicnfgjfaaDoor
