/- The walks of the document's own answers of chapter 5: Unit, Vandermonde, column, Product. -/
import Derived.Test.YtdciakbichgddaaApp
import Derived.Test.YtdciakbichgddaaMatWakes
namespace Go.Proofs.Ytdciakbichgddaa
open Go Go.RowKit Go.Mem Gf

theorem E8 : Elem Try.prog 31 5 (.int .u8 0) 1 := ⟨Try.underlying31, info8', rfl⟩
theorem ER : Elem Try.prog 43 31 (.slice none 0 0) 24 := ⟨Try.underlying43, infoR', rfl⟩
theorem rowsL_succ (i m : Nat) (F : Mx) : rowsL (i + 1) m F = rowsL i m F ++ [rowL m (F i)] := by simp [rowsL, List.range_succ]
theorem rowL_succ (k : Nat) (f : Nat → UInt8) : rowL (k + 1) f = rowL k f ++ [f k] := by simp [rowL, List.range_succ]

set_option maxRecDepth 20000 in
set_option maxHeartbeats 2000000 in
theorem runit_calls (n : Nat) (h : n ≤ 16) (w : World) :
    Calls Try.prog 45 #[.int .i64 n] w fun e w' => ∃ v, e = .returned v ∧ Rws w' v (rowsL n n Idm) ∧ Below w.heap.size w w' := by
  have hmk := fun (w : World) => make_bytes (P := Try.prog) 31 5 Try.underlying31 info8' n (by omega) w
  go_enter Try.func45, Try.ntmps45
  go_wp2_with fail
  go_loopw [3, 4] (fun o v wr => ∃ i : Nat, i ≤ n ∧ v = .int .i64 i ∧ OwnRows 5 31 wr w.heap.size o (rowsL i n Idm) ∧ Below w.heap.size w wr)
    (fun _ v _ => n - (intOf v).toNat)
  case atStart => exact ⟨0, by omega, rfl, OwnRows.nil _ _ _ _, Below.refl _ _⟩
  case round =>
    obtain ⟨i, hi, rfl, hown, hbel⟩ := hrel
    by_cases h0 : i < n
    · have hs := hbel.size
      have hx : Blk (wr.alloc (.cells (Array.replicate n (.int .u8 0)) 5)) wr.heap.size (rowArr n fun _ => 0) 5 := by rw [← rowArr_zero]; exact Blk.new _ _ _
      have c3 := hx.cell i
      rw [rowArr_get _ _ _ h0] at c3
      have f3 := hx.free i
      have earr : (Array.replicate n (Value.int .u8 0)).setIfInBounds i (.int .u8 1) = rowArr n (Idm i) := by
        rw [rowArr_zero]
        have := rowArr_set n (fun _ => 0) i 1
        rw [show ((1 : UInt8).toNat : Int) = 1 from rfl] at this
        rw [this]
        exact rowArr_congr fun k _ => by
          by_cases e : k = i
          · subst e; simp [Idm]
          · simp [Idm, e, Ne.symm e]
      have hb2 : Below wr.heap.size wr (wr.alloc (.cells ((Array.replicate n (Value.int .u8 0)).setIfInBounds i (.int .u8 1)) 5)) := (Below.refl _ _).alloc (Nat.le_refl _) _
      have hrow : OwnB 5 (wr.alloc (.cells ((Array.replicate n (Value.int .u8 0)).setIfInBounds i (.int .u8 1)) 5)) w.heap.size (.slice (some ⟨wr.heap.size, 0, none⟩) n n) (rowL n (Idm i)) :=
        Blk.own (by rw [earr]; exact Blk.new _ _ _) hs (by omega)
      have Earr := Lib.hid earr
      clear earr
      go_wp2_with (at_builtin; refine app_row ER rfl _ _ rfl rfl rfl ?c1 (hown.below hb2) hrow (by decide) ?c2 ?c3 ?_)
      case c1 => simp
      case c2 => rw [rowsL_len]; omega
      case c3 => simp; omega
      intro v' w1 hown' hgrow
      go_wp2_with fail
      exact ⟨⟨i + 1, by omega, by go_num, by rw [rowsL_succ]; exact hown', Below.grown (Aft.trans hbel hb2) hgrow (by simp; omega) (fun b hb => (hown.lt b hb).1)⟩, by simp [intOf]; omega⟩
    · obtain rfl : i = n := by omega
      go_wp2
      go_ret
      exact ⟨_, rfl, hown.rws, hbel⟩

set_option maxRecDepth 20000 in
set_option maxHeartbeats 1000000 in
theorem runit_none (n : Int) (h : n < 1 ∨ 16 < n) (w : World) :
    Calls Try.prog 45 #[.int .i64 n] w fun e w' => e = .returned (.slice none 0 0) ∧ w = w' := by
  rcases h with h | h
  · go_enter Try.func45, Try.ntmps45
    go_wp2_with fail
    refine wp_loop_rounds 1 ?_
    rw [rounds_succ]
    have : ¬ (0 : Int) < n := by omega
    go_wp2
    go_ret
    exact ⟨rfl, rfl⟩
  · have h0 : (0 : Int) < n := by omega
    have h1 : ¬ n ≤ 16 := by omega
    go_enter Try.func45, Try.ntmps45
    go_wp2_with fail
    refine wp_loop_rounds 1 ?_
    rw [rounds_succ]
    go_wp2
    go_ret
    exact ⟨rfl, rfl⟩

theorem vand_byte (i j : Nat) : (powN i j : Int) = ((Vand i j).toNat : Int) := by
  simp [powN, Vand]
set_option maxRecDepth 20000 in
set_option maxHeartbeats 2000000 in
theorem rvand_calls (n k : Nat) (n1 : 1 ≤ n) (n2 : n ≤ 16) (k1 : 1 ≤ k) (k2 : k ≤ 16) (w : World) :
    Calls Try.prog 47 #[.int .i64 n, .int .i64 k] w fun e w' => ∃ v, e = .returned v ∧ Rws w' v (rowsL n k Vand) ∧ Below w.heap.size w w' := by
  go_enter Try.func47, Try.ntmps47
  go_wp2_with fail
  go_loopw [5, 6] (fun o v wr => ∃ i : Nat, i ≤ n ∧ v = .int .i64 i ∧ OwnRows 5 31 wr w.heap.size o (rowsL i k Vand) ∧ Below w.heap.size w wr)
    (fun _ v _ => n - (intOf v).toNat)
  case atStart => exact ⟨0, by omega, rfl, OwnRows.nil _ _ _ _, Below.refl _ _⟩
  case round =>
    obtain ⟨i, hi, rfl, hown, hbel⟩ := hrel
    by_cases h0 : i < n
    · have hs := hbel.size
      go_wp2_with fail
      obtain ⟨wo, hwo⟩ : ∃ wo, wo = wr := ⟨_, rfl⟩
      rw [← hwo] at hown hbel hs ⊢
      clear hwo
      go_loopw [7, 8] (fun r v wi => ∃ j : Nat, j ≤ k ∧ v = .int .i64 j ∧ OwnB 5 wi wo.heap.size r (rowL j (Vand i)) ∧ Below wo.heap.size wo wi) (fun _ v _ => k - (intOf v).toNat)
      case atStart => exact ⟨0, by omega, rfl, OwnB.nil _ _ _, Below.refl _ _⟩
      case round =>
        obtain ⟨j, hj, rfl, hr, hbi⟩ := hrel
        have hsi := hbi.size
        by_cases hjk : j < k
        · obtain ⟨ra, rc, rfl⟩ := hr.eq_slice
          go_wp2_with fail
          refine (rpow_calls i j (by omega) _).mono ?_
          rintro e w2 ⟨rfl, rfl⟩
          rw [vand_byte i j]
          have hu := u_lt (Vand i j)
          go_wp2_with (at_builtin; refine app_byte E8 rfl _ _ rfl (Vand i j) rfl rfl ?c1 hr ?c2 ?c3 ?_)
          case c1 => rfl
          case c2 => rw [rowL_len]; omega
          case c3 => omega
          intro v' w1 hown' hgrow
          go_wp2_with fail
          exact ⟨⟨j + 1, by omega, by go_num, by rw [rowL_succ]; exact hown', Below.grown hbi hgrow hsi (fun b hb => (hr.lt b hb).1)⟩, by simp [intOf]; omega⟩
        · obtain rfl : j = k := by omega
          have hown := hown.below hbi
          have hbel2 := Aft.trans hbel hbi
          have hs2 := hbel2.size
          have hr2 := hr.mono hs
          obtain ⟨ra, rc, rfl⟩ := hr.eq_slice
          go_wp2_with (at_builtin; refine app_row ER rfl _ _ rfl rfl rfl ?d1 hown hr2 (by decide) ?d2 ?d3 ?_)
          case d1 => rfl
          case d2 => rw [rowsL_len]; omega
          case d3 => exact hs2
          intro v' w1 hown' hgrow
          go_wp2_with fail
          exact ⟨⟨i + 1, by omega, by go_num, by rw [rowsL_succ]; exact hown', Below.grown hbel2 hgrow hs2 (fun b hb => (hown.lt b hb).1)⟩, by simp [intOf]; omega⟩
    · obtain rfl : i = n := by omega
      go_wp2
      go_ret
      exact ⟨_, rfl, hown.rws, hbel⟩

set_option maxHeartbeats 1000000 in
theorem rvand_none (n k : Int) (h : n < 1 ∨ 16 < n ∨ k < 1 ∨ 16 < k) (w : World) :
    Calls Try.prog 47 #[.int .i64 n, .int .i64 k] w fun e w' => e = .returned (.slice none 0 0) ∧ w = w' := by
  by_cases h1 : n < 1
  · go_enter Try.func47, Try.ntmps47
    go_wp2
    go_ret
    exact ⟨rfl, rfl⟩
  by_cases h2 : 16 < n
  · go_enter Try.func47, Try.ntmps47
    go_wp2
    go_ret
    exact ⟨rfl, rfl⟩
  by_cases h3 : k < 1
  · go_enter Try.func47, Try.ntmps47
    go_wp2
    go_ret
    exact ⟨rfl, rfl⟩
  · have h4 : 16 < k := by omega
    clear h
    go_enter Try.func47, Try.ntmps47
    go_wp2
    go_ret
    exact ⟨rfl, rfl⟩

set_option maxRecDepth 20000 in
set_option maxHeartbeats 1000000 in
theorem rcolumn_calls (v : Value) (n m k : Nat) (F : Mx) (w : World) (h : Rws w v (rowsL n m F)) (hn : n ≤ 4096) (hk : k < m) :
    Calls Try.prog 85 #[v, .int .i64 k] w fun e w' => ∃ v', e = .returned v' ∧ Bys w' v' (rowL n (fun j => F j k)) ∧ Below w.heap.size w w' := by
  obtain ⟨a, cap, rfl⟩ := h.mat
  go_enter Try.func85, Try.ntmps85
  go_wp2_with fail
  go_loopw [5, 9] (fun r v wi => ∃ j : Nat, j ≤ n ∧ v = .int .i64 j ∧ OwnB 5 wi w.heap.size r (rowL j (fun j => F j k)) ∧ Below w.heap.size w wi) (fun _ v _ => n - (intOf v).toNat)
  case atStart => exact ⟨0, by omega, rfl, OwnB.nil _ _ _, Below.refl _ _⟩
  case round =>
    obtain ⟨j, hj, rfl, hr, hbi⟩ := hrel
    have hsi := hbi.size
    by_cases hjk : j < n
    · obtain ⟨ra, rc, rfl⟩ := hr.eq_slice
      obtain ⟨b, off, b', off', cap', rfl, c1, c2⟩ := (h.below hbi).elem j k hjk hk
      have hu := u_lt (F j k)
      go_wp2_with (at_builtin; refine app_byte E8 rfl _ _ rfl (F j k) rfl rfl ?c1 hr ?c2 ?c3 ?_)
      case c1 => rfl
      case c2 => rw [rowL_len]; omega
      case c3 => omega
      intro v' w1 hown' hgrow
      go_wp2_with fail
      exact ⟨⟨j + 1, by omega, by go_num, by rw [rowL_succ]; exact hown', Below.grown hbi hgrow hsi (fun b hb => (hr.lt b hb).1)⟩, by simp [intOf]; omega⟩
    · obtain rfl : j = n := by omega
      go_wp2
      go_ret
      exact ⟨_, rfl, hr.bys, hbi⟩
end Go.Proofs.Ytdciakbichgddaa
