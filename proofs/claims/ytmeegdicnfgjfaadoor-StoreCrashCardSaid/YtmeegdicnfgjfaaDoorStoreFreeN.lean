/- Walks of the store: how many slots are free; which numbers of slots there are. -/
import Derived.Test.YtmeegdicnfgjfaaDoorStoreOps
namespace Go.Mem
open Go Go.RowKit Gf
/-- free slots among the first k -/
def freeK (l : List Sto.Rec) : Nat → Nat
  | 0 => 0
  | k + 1 => match l[k]? with
    | none => freeK l k
    | some r => if r.is = false then freeK l k + 1 else freeK l k
theorem freeK_le (l : List Sto.Rec) : ∀ k, freeK l k ≤ k
  | 0 => Nat.le_refl _
  | k + 1 => by
    have := freeK_le l k
    simp only [freeK]
    split
    · omega
    · split <;> omega
def St.freeN (s : St) : Nat := if s.dead = true then 0 else freeK s.recs s.recs.length
end Go.Mem
namespace Go.Proofs.YtmeegdicnfgjfaaDoor
open Go Go.RowKit Go.Mem Gf
attribute [local go_sem ↓] Go.wp_at_zero Go.wp_at_succ
set_option maxRecDepth 100000 in
theorem in_calls (n : Int) (b : Bool) (w : World) (hb : decide (1 ≤ n ∧ n ≤ 1024) = b) :
    Calls Tryd.prog 32 #[.int .i64 n] w fun e w' => e = .returned (.bool b) ∧ w = w' := by
  have H := Lib.hid hb
  clear hb
  by_cases h1 : 1 ≤ n
  · by_cases h2 : n ≤ 1024
    · obtain rfl : b = true := by rw [← H.out]; exact decide_eq_true ⟨h1, h2⟩
      clear H
      go_enter Tryd.func32, Tryd.ntmps32
      go_wp2
      go_ret
      exact ⟨rfl, rfl⟩
    · obtain rfl : b = false := by rw [← H.out]; exact decide_eq_false (fun h => h2 h.2)
      clear H
      go_enter Tryd.func32, Tryd.ntmps32
      go_wp2
      go_ret
      exact ⟨rfl, rfl⟩
  · obtain rfl : b = false := by rw [← H.out]; exact decide_eq_false (fun h => h1 h.1)
    clear H
    go_enter Tryd.func32, Tryd.ntmps32
    go_wp2
    go_ret
    exact ⟨rfl, rfl⟩
set_option maxRecDepth 20000 in
set_option maxHeartbeats 2000000 in
theorem sfree_calls (N : Nat → Prop) (sb lb d L : Nat) (s : St) (w : World) (h : IsStore w N sb lb d L s) :
    Calls Tryd.prog 22 #[.pointer (some ⟨sb, 0, none⟩)] w fun e w' => e = .returned (.int .i64 (s.freeN : Nat)) ∧ Below w.heap.size w w' := by
  obtain ⟨lc, hS, hlc1, hlc2⟩ := h.blk
  have hl2 := h.ok.len2
  have H := Lib.hid h; have HS := Lib.hid hS
  obtain ⟨n, hnn⟩ : ∃ n, n = s.recs.length := ⟨_, rfl⟩
  have c2 : w.cell? ⟨sb, 2, none⟩ = some (.slice (some ⟨lb, 0, none⟩) n lc) := by rw [hnn]; exact hS.cell 2
  rw [← hnn] at hlc1 hl2
  have Hn := Lib.hid hnn
  obtain ⟨dead, hdd⟩ : ∃ x, x = s.dead := ⟨_, rfl⟩
  have Hdd := Lib.hid hdd
  have HF := Lib.hid (show s.freeN = if dead = true then 0 else freeK s.recs n from by unfold St.freeN; rw [hdd, hnn])
  obtain ⟨m, hm⟩ : ∃ m, m = s.freeN := ⟨_, rfl⟩
  rw [← hm] at HF ⊢
  clear h hS hnn hdd hm
  go_enter Tryd.func22, Tryd.ntmps22
  go_wp2_with fail
  go_loopw [3, 11] (fun u v wr => ∃ i : Nat, i ≤ n ∧ v = .int .i64 i ∧ u = .int .i64 ((if dead = true then 0 else freeK s.recs i : Nat) : Int) ∧ Below w.heap.size w wr) (fun _ v _ => n - (intOf v).toNat)
  case atStart => exact ⟨0, by omega, rfl, by cases dead <;> rfl, Below.refl _ _⟩
  case round =>
    obtain ⟨i, hi, rfl, rfl, hb⟩ := hrel
    by_cases h0 : i < n
    · obtain ⟨r, hr⟩ : ∃ r, s.recs[i]? = some r := ⟨s.recs[i]'(by have := Hn.out; omega), by simp⟩
      obtain ⟨a, c, c3, c4, c5, c6, _, _⟩ := (H.out.recs.below hb).at hr
      have i0 : (0 : Int) ≤ (i : Int) := by omega
      have i1 : (i : Int) < (n : Int) := by omega
      have hle := freeK_le s.recs i
      have Hst := Lib.hid (show freeK s.recs (i + 1) = if r.is = false then freeK s.recs i + 1 else freeK s.recs i from by rw [freeK, hr])
      obtain ⟨q, hq⟩ : ∃ q, q = freeK s.recs i := ⟨_, rfl⟩
      rw [← hq] at hle ⊢
      have Hq := Lib.hid hq
      have d3 : ∀ o, (wr.alloc o).cell? ⟨sb, 3, none⟩ = some (.bool dead) := fun o => by rw [Hdd.out]; exact ((HS.out.kept hb).alloc o).cell 3
      have hbo : ∀ o, Below w.heap.size w (wr.alloc o) := fun o => hb.alloc hb.size o
      have HBO := Lib.hid hbo
      clear hr hq hbo
      cases dead with
      | true =>
        simp only [if_true]
        by_cases k1 : r.is = true
        · rw [k1] at c3
          go_wp2
          exact ⟨⟨i + 1, by omega, by go_num, rfl, HBO.out _⟩, by simp [intOf] <;> omega⟩
        · have k1 : r.is = false := by simpa using k1
          rw [k1] at c3
          go_wp2
          exact ⟨⟨i + 1, by omega, by go_num, rfl, HBO.out _⟩, by simp [intOf] <;> omega⟩
      | false =>
        simp only [Bool.false_eq_true, if_false]
        by_cases k1 : r.is = true
        · have Hs2 := Lib.hid (show freeK s.recs (i + 1) = q from by rw [Hst.out, if_neg (by rw [k1]; decide), Hq.out])
          rw [k1] at c3
          clear k1
          go_wp2
          exact ⟨⟨i + 1, by omega, by go_num, by rw [Hs2.out] <;> rfl, HBO.out _⟩, by simp [intOf] <;> omega⟩
        · have k1 : r.is = false := by simpa using k1
          have Hs2 := Lib.hid (show freeK s.recs (i + 1) = q + 1 from by rw [Hst.out, if_pos k1, Hq.out])
          rw [k1] at c3
          clear k1
          go_wp2
          exact ⟨⟨i + 1, by omega, by go_num, by rw [Hs2.out] <;> rfl, HBO.out _⟩, by simp [intOf] <;> omega⟩
    · obtain rfl : n = i := by omega
      have HF2 := Lib.hid (show (((if dead = true then 0 else freeK s.recs n : Nat)) : Int) = (m : Int) from by rw [HF.out])
      have HB := Lib.hid hb
      obtain ⟨z, hz⟩ : ∃ z : Int, z = (((if dead = true then 0 else freeK s.recs n : Nat)) : Int) := ⟨_, rfl⟩
      rw [← hz] at HF2 ⊢
      clear hz hb
      go_wp2
      go_ret
      exact ⟨by rw [HF2.out] <;> rfl, HB.out⟩
end Go.Proofs.YtmeegdicnfgjfaaDoor
