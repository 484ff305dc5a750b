/- The walk of aumbrylaw05.square: rows of any bytes. -/
import Derived.Test.YtdciakbichgddaaMatApp
import Derived.Test.YtdciakbichgddaaMatMade
namespace Go.Proofs.Ytdciakbichgddaa
open Go Go.RowKit Go.Mem Gf

theorem infoR' : (Try.prog.info? 31).map (fun i => (i.zero, i.size, i.bytes)) = some (some (.slice none 0 0), 1, 24) := by kernel_rfl
/-- the matrix of the bytes, one row behind the other -/
def Sq (bs : List UInt8) (m : Nat) : Mx := fun i k => bs.getD (m * i + k) 0

set_option maxRecDepth 20000 in
set_option maxHeartbeats 2000000 in
theorem square_calls (v : Value) (bs : List UInt8) (n m : Nat) (w : World) (h : Bys w v bs) (hn : n ≤ 64) (hm : m ≤ 64) :
    Calls Try.prog 39 #[v, .int .i64 n, .int .i64 m] w fun e w' => ∃ v', e = .returned v' ∧ Rws w' v' (rowsL n m (Sq bs m)) ∧ Below w.heap.size w w' := by
  have hl := h.len
  obtain ⟨a, cap, rfl⟩ := h.eq_slice
  obtain ⟨l, hl'⟩ : ∃ l, l = bs.length := ⟨_, rfl⟩
  rw [← hl'] at hl h ⊢
  have Hl := Lib.hid hl'; clear hl'
  have hmk := fun (w : World) => make_bytes (P := Try.prog) 31 5 Try.underlying31 info8' m (by omega) w
  obtain ⟨i0, hi, hz0, hz1, hz2⟩ := info_parts infoR'
  go_enter Try.func39, Try.ntmps39
  go_wp2_with fail
  go_loopw [7, 8] (fun o v wr => ∃ (i : Nat) (ids : Nat → Nat), i ≤ n ∧ v = .int .i64 i ∧ wr.ownsRow w.heap.size 31 1 o i ((List.range i).map fun j => rowV m (ids j)) ∧
      (∀ j, j < i → Blk wr (ids j) (rowArr m (Sq bs m j)) 5) ∧ Below w.heap.size w wr)
    (fun _ v _ => n - (intOf v).toNat)
  case atStart => exact ⟨0, fun _ => 0, by omega, rfl, World.ownsRow_nil _ _ _ _, fun j hj => by omega, Below.refl _ _⟩
  case round =>
    obtain ⟨i, ids, hin, rfl, hown, hrows, hbel⟩ := hrel
    by_cases h0 : i < n
    · obtain ⟨q, hq⟩ : ∃ q, q = m * i := ⟨_, rfl⟩
      have hq2 : q ≤ 64 * 64 := by rw [hq]; exact Nat.mul_le_mul hm (by omega)
      have hw1 : IntKind.i64.wrap ((m : Int) * (i : Int)) = (q : Int) := by rw [← Int.natCast_mul, ← hq]; exact IntWalk.i64_in _ (by omega)
      have hw2 : wrap64 ((m : Int) * (i : Int)) = (q : Int) := by rw [← Int.natCast_mul, ← hq]; exact IntWalk.wrap64_in _ (by omega)
      have Hq := Lib.hid hq; clear hq
      have Hrows := Lib.hid hrows; clear hrows
      have hs := hbel.size
      go_wp2_with fail
      obtain ⟨wo, hwo⟩ : ∃ wo, wo = wr := ⟨_, rfl⟩
      rw [← hwo] at hown Hrows hbel hs ⊢
      clear hwo
      go_loopw [20] (fun v wi => ∃ k : Nat, k ≤ m ∧ v = .int .i64 k ∧ Blk wi wo.heap.size (rowArr m fun b => if b < k then Sq bs m i b else 0) 5 ∧ Below wo.heap.size wo wi)
        (fun v _ => m - (intOf v).toNat)
      case atStart => exact ⟨0, by omega, rfl, by simp only [Nat.not_lt_zero, if_false]; rw [← rowArr_zero]; exact Blk.new _ _ _, (Below.refl _ _).alloc (Nat.le_refl _) _⟩
      case round =>
        obtain ⟨k, hk, rfl, hx, hbi⟩ := hrel
        by_cases hkm : k < m
        · have c3 : wr.cell? ⟨wo.heap.size, k, none⟩ = some (.int .u8 0) := by rw [hx.cell, rowArr_get _ _ _ hkm]; simp
          have f3 := hx.free k
          have hset : ∀ u : UInt8, u = Sq bs m i k → Blk (wr.setCell ⟨wo.heap.size, k, none⟩ (.int .u8 (u.toNat : Int))) wo.heap.size (rowArr m fun b => if b < k + 1 then Sq bs m i b else 0) 5 := fun u hu => by
            have := hx.set k (.int .u8 (u.toNat : Int))
            rw [rowArr_set] at this
            rw [← rowArr_congr (m := m) (f := fun j => if j = k then u else if j < k then Sq bs m i j else 0) (fun j _ => ?_)]
            · exact this
            · by_cases e : j = k
              · subst e; simp [hu]
              · have : (j < k + 1) = (j < k) := by simp; omega
                simp [e, this]
          by_cases hlt : q + k < l
          · obtain ⟨b, off, u, rfl, Hu, c1, hu⟩ := ((h.below hbel).below hbi).at (q + k) (by have := Hl.out; omega)
            have Hset := Lib.hid (hset u (by
              have h1 := Hu.out; have h2 := Hq.out
              show u = bs.getD (m * i + k) 0
              rw [← h2, List.getD_eq_getElem?_getD, h1]; rfl)); clear hset
            go_wp2
            exact ⟨⟨k + 1, by omega, by go_num, Hset.out, hbi.setCell (Nat.le_refl _) _⟩, by simp [intOf]; omega⟩
          · have hz : Sq bs m i k = 0 := by
              have h2 := Hq.out; have h3 := Hl.out
              show bs.getD (m * i + k) 0 = 0
              rw [← h2, List.getD_eq_getElem?_getD, List.getElem?_eq_none (by omega)]; rfl
            have hx2 : Blk wr wo.heap.size (rowArr m fun b => if b < k + 1 then Sq bs m i b else 0) 5 := by
              rw [← rowArr_congr (m := m) (f := fun b => if b < k then Sq bs m i b else 0) (fun j _ => ?_)]
              · exact hx
              · by_cases e : j = k
                · subst e; simp [hz]
                · have : (j < k + 1) = (j < k) := by simp; omega
                  simp [this]
            clear hset hz
            go_wp2
            exact ⟨⟨k + 1, by omega, by go_num, hx2, hbi⟩, by simp [intOf]; omega⟩
        · obtain rfl : k = m := by omega
          have hx2 : Blk wr wo.heap.size (rowArr k (Sq bs k i)) 5 := by
            rw [← rowArr_congr (m := k) (f := fun b => if b < k then Sq bs k i b else 0) (fun j hj => by simp [hj])]; exact hx
          have hown2 := own_below hown hbi
          have hrow2 : Hid (∀ j, j < i → Blk wr (ids j) (rowArr k (Sq bs k j)) 5) := fun j hj => (Hrows.out j hj).kept hbi
          have hs2 := hbi.size
          have hlt := hx.lt
          go_wp2_with (at_builtin; refine wpList_append_own _ rfl _ _ 43 rfl w.heap.size 31 i0 (.slice none 0 0) 1 24 Try.underlying43 hi hz0 hz1 hz2 rfl (by decide) _ i _ rfl (hown2.alloc _) ⟨wr.heap.size, 0, none⟩ 1 1 [.slice (some ⟨wo.heap.size, 0, none⟩) k k] rfl rfl ?c1 ?c2 ?c3 ?c4 ?c5 ?_)
          case c1 => intro j u hj; cases j with
            | zero => simp at hj; subst hj; simp [Addr.add]
            | succ j => simp at hj
          case c2 => intro u hu; simp at hu; subst hu; rfl
          case c3 => unfold maxLen; omega
          case c4 => omega
          case c5 => simp; omega
          intro v' w1 hown' hgrow _
          go_wp2_with fail
          have hne : ∀ (b : Nat) (arr : Array Value), Blk wr b arr 5 → u7.ownBlock ≠ some b := fun b arr hb => ownBlock_ne hown2 (by decide) hb
          refine ⟨⟨i + 1, fun j => if j = i then wo.heap.size else ids j, by omega, by go_num, ?_, fun j hj => ?_, ?_⟩, by simp [intOf]; omega⟩
          · have e : (List.range (i + 1)).map (fun j => rowV k (if j = i then wo.heap.size else ids j)) = (List.range i).map (fun j => rowV k (ids j)) ++ [.slice (some ⟨wo.heap.size, 0, none⟩) k k] := by
              rw [List.range_succ, List.map_append]
              congr 1
              · exact List.map_congr_left fun j hj => by rw [if_neg (by have := List.mem_range.1 hj; omega)]
              · simp [rowV]
            rw [e]; exact hown'
          · by_cases e : j = i
            · subst e; simp only [if_true]
              exact (hx2.alloc _).grown hgrow (hne _ _ hx2)
            · simp only [if_neg e]
              have hb := hrow2.out j (by omega)
              exact (hb.alloc _).grown hgrow (hne _ _ hb)
          · refine Below.grown ((hbel.trans (hbi.mono hs)).alloc (by omega) _) hgrow (by simp; omega) (fun b hb => ?_)
            exact (hown2.lt b hb).1
    · obtain rfl : i = n := by omega
      go_wp2
      go_ret
      refine ⟨_, rfl, rws_of_own hown (rowsL_len _ _ _) (fun j r hj => ?_), hbel⟩
      have hlt : j < i := by
        rcases Nat.lt_or_ge j i with h | h
        · exact h
        · rw [List.getElem?_eq_none (by rw [rowsL_len]; exact h)] at hj; cases hj
      rw [rowsL_get _ _ _ _ hlt] at hj
      cases hj
      exact ⟨rowV m (ids j), by simp [hlt], (hrows j hlt).row (by omega)⟩
end Go.Proofs.Ytdciakbichgddaa
