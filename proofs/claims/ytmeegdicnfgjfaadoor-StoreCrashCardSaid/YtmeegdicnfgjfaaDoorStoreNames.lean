/- Walk of the store: its names, rising. -/
import Derived.Test.YtmeegdicnfgjfaaDoorStoreFreeN
import Derived.Sort.OwnSorted
namespace Go.Mem
open Go Go.RowKit Gf
/-- the names among the first k slots -/
def namesK (l : List Sto.Rec) : Nat → List (List UInt8)
  | 0 => []
  | k + 1 => match l[k]? with
    | none => namesK l k
    | some r => if r.is = true then namesK l k ++ [r.name.data.toList] else namesK l k
theorem namesK_le (l : List Sto.Rec) : ∀ k, (namesK l k).length ≤ k
  | 0 => Nat.le_refl _
  | k + 1 => by
    have := namesK_le l k
    simp only [namesK]
    split
    · omega
    · split
      · simp; omega
      · omega
def St.names (s : St) : List (List UInt8) := if s.dead = true then [] else namesK s.recs s.recs.length
end Go.Mem
namespace Go.Proofs.YtmeegdicnfgjfaaDoor
open Go Go.RowKit Go.Mem Gf Go.Sort
attribute [local go_sem ↓] Go.wp_at_zero Go.wp_at_succ
theorem ESc : Elem Tryd.prog 22 9 (.string ByteArray.empty) 16 := ⟨Tryd.underlying22, by kernel_rfl, rfl⟩
def NamesPost (s : St) (w : World) (e : Ending) (w' : World) : Prop :=
  ∃ v, e = .returned v ∧ w'.ownsRow w.heap.size 9 1 v s.names.length ((s.names.mergeSort fun x y => decide (x ≤ y)).map encStr) ∧ Below w.heap.size w w'
set_option maxRecDepth 20000 in
set_option maxHeartbeats 2000000 in
theorem snames_calls (N : Nat → Prop) (sb lb d L : Nat) (s : St) (w : World) (h : IsStore w N sb lb d L s) :
    Calls Tryd.prog 19 #[.pointer (some ⟨sb, 0, none⟩)] w (NamesPost s w) := by
  obtain ⟨lc, hS, hlc1, hlc2⟩ := h.blk
  have hl2 := h.ok.len2
  have H := Lib.hid h; have HS := Lib.hid hS
  obtain ⟨n, hnn⟩ : ∃ n, n = s.recs.length := ⟨_, rfl⟩
  have c2 : w.cell? ⟨sb, 2, none⟩ = some (.slice (some ⟨lb, 0, none⟩) n lc) := by rw [hnn]; exact hS.cell 2
  rw [← hnn] at hlc1 hl2
  have Hn := Lib.hid hnn
  obtain ⟨dead, hdd⟩ : ∃ x, x = s.dead := ⟨_, rfl⟩
  have Hdd := Lib.hid hdd
  have HF := Lib.hid (show s.names = if dead = true then [] else namesK s.recs n from by unfold St.names; rw [hdd, hnn])
  clear h hS hnn hdd
  go_enter Tryd.func19, Tryd.ntmps19
  go_wp2_with fail
  go_loopw [3, 11] (fun u v wr => ∃ i : Nat, i ≤ n ∧ v = .int .i64 i ∧ wr.ownsRow w.heap.size 9 1 u (if dead = true then [] else namesK s.recs i).length ((if dead = true then [] else namesK s.recs i).map encStr) ∧ Below w.heap.size w wr) (fun _ v _ => n - (intOf v).toNat)
  case atStart => exact ⟨0, by omega, rfl, by cases dead <;> exact World.ownsRow_nil _ _ _ _, Below.refl _ _⟩
  case round =>
    obtain ⟨i, hi, rfl, hown, hb⟩ := hrel
    by_cases h0 : i < n
    · obtain ⟨r, hr⟩ : ∃ r, s.recs[i]? = some r := ⟨s.recs[i]'(by have := Hn.out; omega), by simp⟩
      obtain ⟨a, c, c3, c4, c5, c6, _, _⟩ := (H.out.recs.below hb).at hr
      have i0 : (0 : Int) ≤ (i : Int) := by omega
      have i1 : (i : Int) < (n : Int) := by omega
      have hle := namesK_le s.recs i
      have Hst := Lib.hid (show namesK s.recs (i + 1) = if r.is = true then namesK s.recs i ++ [r.name.data.toList] else namesK s.recs i from by rw [namesK, hr])
      obtain ⟨q, hq⟩ : ∃ q, q = namesK s.recs i := ⟨_, rfl⟩
      rw [← hq] at hle hown
      have Hq := Lib.hid hq
      have d3 : ∀ o, (wr.alloc o).cell? ⟨sb, 3, none⟩ = some (.bool dead) := fun o => by rw [Hdd.out]; exact ((HS.out.kept hb).alloc o).cell 3
      have hbo : ∀ o, Below w.heap.size w (wr.alloc o) := fun o => hb.alloc hb.size o
      have HBO := Lib.hid hbo
      have hsz := hb.size
      have HO := Lib.hid hown
      clear hr hq hbo hown
      cases dead with
      | true =>
        by_cases k1 : r.is = true
        · rw [k1] at c3
          go_wp2
          exact ⟨⟨i + 1, by omega, by go_num, HO.out.alloc _, HBO.out _⟩, by simp [intOf] <;> omega⟩
        · have k1 : r.is = false := by simpa using k1
          rw [k1] at c3
          go_wp2
          exact ⟨⟨i + 1, by omega, by go_num, HO.out.alloc _, HBO.out _⟩, by simp [intOf] <;> omega⟩
      | false =>
        have HO2 := Lib.hid (show wr.ownsRow w.heap.size 9 1 u3 q.length (q.map encStr) from HO.out)
        by_cases k1 : r.is = true
        · have Hs2 := Lib.hid (show namesK s.recs (i + 1) = q ++ [r.name.data.toList] from by rw [Hst.out, if_pos k1, Hq.out])
          rw [k1] at c3
          clear k1
          go_wp2_with (at_builtin; refine appG_one ESc rfl _ _ rfl (base := w.heap.size) (n := q.length) (xs := q.map encStr) (.string r.name) rfl rfl ?cc rfl ((HO2.out.alloc _).alloc _) ?q1 ?q2 ?q3 ?_)
          case cc => exact new_cell _ _ _ _ (by simp)
          case q1 => omega
          case q2 => omega
          case q3 => simp; omega
          intro v4 w4 ho4 hg4
          have hb4 := grown_below ((HBO.out _).alloc (HBO.out _).size _) hg4 (fun k hk => (HO2.out.lt k hk).1)
          have HO4 := Lib.hid ho4
          have HB4 := Lib.hid hb4
          clear ho4 hg4 hb4
          go_wp2
          refine ⟨⟨i + 1, by omega, by go_num, ?_, HB4.out⟩, by simp [intOf] <;> omega⟩
          rw [if_neg (by decide), Hs2.out, List.length_append, List.map_append]
          exact HO4.out
        · have k1 : r.is = false := by simpa using k1
          have Hs2 := Lib.hid (show namesK s.recs (i + 1) = q from by rw [Hst.out, if_neg (by rw [k1]; decide), Hq.out])
          rw [k1] at c3
          clear k1
          go_wp2
          refine ⟨⟨i + 1, by omega, by go_num, ?_, HBO.out _⟩, by simp [intOf] <;> omega⟩
          rw [if_neg (by decide), Hs2.out]
          exact HO2.out.alloc _
    · obtain rfl : n = i := by omega
      have hown2 : wr.ownsRow w.heap.size 9 1 u3 s.names.length (s.names.map encStr) := by rw [HF.out]; exact hown
      have hzl : s.names.length ≤ n := by
        rw [HF.out]
        cases dead
        · exact namesK_le _ _
        · simp
      obtain ⟨z, hz⟩ : ∃ z, z = s.names := ⟨_, rfl⟩
      rw [← hz] at hown2 hzl
      have HZ := Lib.hid hz
      have HB := Lib.hid hb
      clear hown hz hb HF
      have HO := Lib.hid hown2
      rcases hown2.2 with ⟨rfl, h0l⟩ | ⟨g, cap, cur, rfl, hg, hgg, g1, g2, g3, g4⟩
      · have hz0 : z = [] := by simpa using h0l
        subst hz0
        clear hown2
        go_wp2_with fail
        refine (Tryd.sort_Strings_none none 0 wr).mono ?_
        rintro e w3 ⟨rfl, rfl⟩
        go_wp2
        go_ret
        exact ⟨_, rfl, by rw [← HZ.out]; simpa using HO.out, HB.out⟩
      · have hH : Holds encStr wr g 0 z.toArray := holds_of_block hgg (by simpa using g4)
        have hgl : g < wr.heap.size := (Array.getElem?_eq_some_iff.1 hgg).1
        have HS2 := Lib.hid (fun n os => ownsRow_sorted (n := n) (os := os) (ss := z) (ts := z.mergeSort fun x y => decide (x ≤ y)) (by simp) hg hgg g1 g2 g3)
        have HG := Lib.hid hg
        clear hown2 hgg g4
        go_wp2_with fail
        refine (Tryd.sort_Strings g 0 cap z wr hH hgl (by omega)).mono ?_
        rintro e w3 ⟨rfl, m, os, rfl⟩
        have hgr : Below w.heap.size w (grow (putRow encStr (Sort.ahead wr m) g 0 (z.mergeSort fun x y => decide (x ≤ y)).toArray) os) := grown_below HB.out (grownBy_sorted _) (fun k hk => by cases hk; exact HG.out)
        obtain ⟨w4, hw4⟩ : ∃ w4, w4 = grow (putRow encStr (Sort.ahead wr m) g 0 (z.mergeSort fun x y => decide (x ≤ y)).toArray) os := ⟨_, rfl⟩
        rw [← hw4] at hgr ⊢
        have HW := Lib.hid hw4
        have HGR := Lib.hid hgr
        clear hgr hw4
        go_wp2
        go_ret
        exact ⟨_, rfl, by rw [HW.out, ← HZ.out]; exact HS2.out _ _, HGR.out⟩
end Go.Proofs.YtmeegdicnfgjfaaDoor
