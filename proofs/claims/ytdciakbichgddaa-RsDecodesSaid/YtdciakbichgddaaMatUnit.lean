/- Walks of package matrix: which matrices there are from the first; which are matrices; columns. -/
import Derived.Test.YtdciakbichgddaaMatMade
import Derived.Laws.EntriesVeiled
namespace Go.Proofs.Ytdciakbichgddaa
open Go Go.RowKit Go.Mem Gf

set_option maxHeartbeats 400000 in
theorem in_calls (n : Int) (w : World) :
    Calls Try.prog 79 #[.int .i64 n] w fun e w' => e = .returned (.bool (decide (1 ≤ n) && decide (n ≤ 16))) ∧ w = w' := by
  by_cases h : 1 ≤ n
  · by_cases h' : n ≤ 16
    all_goals
      go_enter Try.func79, Try.ntmps79
      go_wp2
      go_ret
      exact ⟨by simp [*], rfl⟩
  · go_enter Try.func79, Try.ntmps79
    go_wp2
    go_ret
    exact ⟨by simp [*]; omega, rfl⟩

set_option maxHeartbeats 400000 in
theorem unit1_calls (i k : Nat) (w : World) :
    Calls Try.prog 80 #[.int .i64 i, .int .i64 k] w fun e w' => e = .returned (.int .u8 ((Idm i k).toNat : Int)) ∧ w = w' := by
  by_cases h : i = k
  · subst h
    go_enter Try.func80, Try.ntmps80
    go_wp2
    go_ret
    exact ⟨by simp [Idm], rfl⟩
  · have t : ((i : Int) == (k : Int)) = false := by simp; omega
    have t2 : (i == k) = false := by simp; omega
    have H := Lib.hid h; clear h
    go_enter Try.func80, Try.ntmps80
    go_wp2
    go_ret
    exact ⟨by simp [Idm, H.out], rfl⟩

set_option maxHeartbeats 400000 in
theorem unit_calls (n : Nat) (h1 : 1 ≤ n) (h2 : n ≤ 16) (w : World) :
    Calls Try.prog 44 #[.int .i64 n] w fun e w' => ∃ X ids, e = .returned (.slice (some ⟨X, 0, none⟩) n n) ∧ OwnM 5 31 w' w.heap.size X ids n n Idm ∧ Below w.heap.size w w' := by
  have t : (decide (1 ≤ (n : Int)) && decide ((n : Int) ≤ 16)) = true := by simp; omega
  have hin : Calls Try.prog 79 #[.int .i64 n] w fun e w' => e = .returned (.bool true) ∧ w = w' := by
    have := in_calls n w; rw [t] at this; exact this
  clear t
  go_enter Try.func44, Try.ntmps44
  go_wp2_with fail
  refine hin.mono ?_
  rintro e w1 ⟨rfl, rfl⟩
  go_wp2_with fail
  refine (made_calls n n (by omega) (by omega) 80 #[] Idm w (fun _ _ => by kernel_rfl)
    (fun i k w' _ _ _ => (unit1_calls i k w').mono fun e w'' ⟨he, hw⟩ => ⟨he, hw ▸ Below.refl _ _⟩)).mono ?_
  rintro e w1 ⟨X, ids, rfl, hO, hb⟩
  go_wp2
  go_ret
  exact ⟨X, ids, rfl, hO, hb⟩

set_option maxHeartbeats 400000 in
theorem unit_none (n : Int) (h : n < 1 ∨ 16 < n) (w : World) :
    Calls Try.prog 44 #[.int .i64 n] w fun e w' => e = .returned (.slice none 0 0) ∧ w = w' := by
  have t : (decide (1 ≤ n) && decide (n ≤ 16)) = false := by simp; omega
  have hin : Calls Try.prog 79 #[.int .i64 n] w fun e w' => e = .returned (.bool false) ∧ w = w' := by
    have := in_calls n w; rw [t] at this; exact this
  clear t h
  go_enter Try.func44, Try.ntmps44
  go_wp2_with fail
  refine hin.mono ?_
  rintro e w1 ⟨rfl, rfl⟩
  go_wp2
  go_ret
  exact ⟨rfl, rfl⟩

/-- the matrix of powers: row i: powers of the byte i -/
def Vand : Mx := fun i j => gpow (.ofNat i) j

set_option maxHeartbeats 400000 in
theorem vand1_calls (i j bp fb : Nat) (hi : i < 256) (w : World) (hc : w.cell? ⟨bp, 0, none⟩ = some (.func (.func 25) #[.pointer (some ⟨fb, 0, none⟩)] #[])) (hf : IsField w fb) :
    Calls Try.prog 81 #[.int .i64 i, .int .i64 j, .pointer (some ⟨bp, 0, none⟩)] w fun e w' => e = .returned (.int .u8 ((Vand i j).toNat : Int)) ∧ ∃ n, w' = w.drewN n := by
  go_enter Try.func81, Try.ntmps81
  go_wp2_with fail
  refine (fpow_calls fb i j hi _ hf).mono ?_
  rintro e w1 ⟨rfl, n, rfl⟩
  go_wp2
  go_ret
  exact ⟨ret_int (by rw [powN, Int.toNat_natCast]; rfl), n, rfl⟩

set_option maxHeartbeats 1000000 in
theorem vand_calls (n k : Nat) (h1 : 1 ≤ n) (h2 : n ≤ 16) (k1 : 1 ≤ k) (k2 : k ≤ 16) (w : World) :
    Calls Try.prog 46 #[.int .i64 n, .int .i64 k] w fun e w' => ∃ X ids, e = .returned (.slice (some ⟨X, 0, none⟩) n n) ∧ OwnM 5 31 w' w.heap.size X ids n k Vand ∧ Below w.heap.size w w' := by
  have hin : ∀ m : Nat, 1 ≤ m → m ≤ 16 → Calls Try.prog 79 #[.int .i64 m] w fun e w' => e = .returned (.bool true) ∧ w = w' := fun m a b => by
    have t : (decide (1 ≤ (m : Int)) && decide ((m : Int) ≤ 16)) = true := by simp; omega
    have := in_calls m w; rw [t] at this; exact this
  have hn := hin n h1 h2
  have hk := hin k k1 k2
  clear hin
  go_enter Try.func46, Try.ntmps46
  go_wp2_with fail
  refine hn.mono ?_
  rintro e w1 ⟨rfl, rfl⟩
  go_wp2_with fail
  refine hk.mono ?_
  rintro e w1 ⟨rfl, rfl⟩
  go_wp2_with fail
  refine (new_calls _).mono ?_
  rintro e w1 ⟨rfl, hf, hbl⟩
  go_wp2_with fail
  have hc : (w1.alloc (.cells #[.func (.func 25) #[.pointer (some ⟨w.heap.size, 0, none⟩)] #[]] 24)).cell? ⟨w1.heap.size, 0, none⟩ = some (.func (.func 25) #[.pointer (some ⟨w.heap.size, 0, none⟩)] #[]) := by simp
  have hf2 : IsField (w1.alloc (.cells #[.func (.func 25) #[.pointer (some ⟨w.heap.size, 0, none⟩)] #[]] 24)) w.heap.size := hf.below ((Below.refl _ _).alloc (Nat.le_refl _) _) hf.lt
  have hb2 : Below w.heap.size w (w1.alloc (.cells #[.func (.func 25) #[.pointer (some ⟨w.heap.size, 0, none⟩)] #[]] 24)) := hbl.alloc hbl.size _
  have hs := hbl.size
  have hsz : (w1.alloc (.cells #[.func (.func 25) #[.pointer (some ⟨w.heap.size, 0, none⟩)] #[]] 24)).heap.size = w1.heap.size + 1 := by simp
  generalize hw2 : w1.alloc (.cells #[.func (.func 25) #[.pointer (some ⟨w.heap.size, 0, none⟩)] #[]] 24) = w2 at *
  clear hw2
  refine (made_calls n k (by omega) (by omega) 81 #[.pointer (some ⟨w1.heap.size, 0, none⟩)] Vand w2 (fun _ _ => by kernel_rfl)
    (fun i j w' hi _ hb => (vand1_calls i j w1.heap.size w.heap.size (by omega) w' (by rw [hb.cell (p := ⟨w1.heap.size, 0, none⟩) (by show w1.heap.size < _; omega)]; exact hc) (hf2.below hb hf2.lt)).mono
      fun e w'' ⟨he, m, hw⟩ => ⟨he, hw ▸ below_drewN (Below.refl _ _) m⟩)).mono ?_
  rintro e w3 ⟨X, ids, rfl, hO, hb⟩
  go_wp2
  go_ret
  exact ⟨X, ids, rfl, hO.mono (by omega), hb2.trans (hb.mono (by omega))⟩

set_option maxHeartbeats 400000 in
theorem vand_none (n k : Int) (h : n < 1 ∨ 16 < n ∨ k < 1 ∨ 16 < k) (w : World) :
    Calls Try.prog 46 #[.int .i64 n, .int .i64 k] w fun e w' => e = .returned (.slice none 0 0) ∧ w = w' := by
  by_cases h0 : 1 ≤ n ∧ n ≤ 16
  · have t : (decide (1 ≤ n) && decide (n ≤ 16)) = true := by simp; omega
    have t2 : (decide (1 ≤ k) && decide (k ≤ 16)) = false := by simp; omega
    have hn : Calls Try.prog 79 #[.int .i64 n] w fun e w' => e = .returned (.bool true) ∧ w = w' := by
      have := in_calls n w; rw [t] at this; exact this
    have hk : Calls Try.prog 79 #[.int .i64 k] w fun e w' => e = .returned (.bool false) ∧ w = w' := by
      have := in_calls k w; rw [t2] at this; exact this
    clear t t2 h h0
    go_enter Try.func46, Try.ntmps46
    go_wp2_with fail
    refine hn.mono ?_
    rintro e w1 ⟨rfl, rfl⟩
    go_wp2_with fail
    refine hk.mono ?_
    rintro e w1 ⟨rfl, rfl⟩
    go_wp2
    go_ret
    exact ⟨rfl, rfl⟩
  · have t : (decide (1 ≤ n) && decide (n ≤ 16)) = false := by simp; omega
    have hn : Calls Try.prog 79 #[.int .i64 n] w fun e w' => e = .returned (.bool false) ∧ w = w' := by
      have := in_calls n w; rw [t] at this; exact this
    clear t h h0
    go_enter Try.func46, Try.ntmps46
    go_wp2_with fail
    refine hn.mono ?_
    rintro e w1 ⟨rfl, rfl⟩
    go_wp2
    go_ret
    exact ⟨rfl, rfl⟩

set_option maxRecDepth 20000 in
set_option maxHeartbeats 1000000 in
theorem column_calls (v : Value) (n m k : Nat) (F : Mx) (w : World) (h : Rws w v (rowsL n m F)) (hn : n ≤ 4096) (hk : k < m) :
    Calls Try.prog 83 #[v, .int .i64 k] w fun e w' => ∃ v', e = .returned v' ∧ Bys w' v' (rowL n (fun j => F j k)) ∧ Below w.heap.size w w' := by
  obtain ⟨a, cap, rfl⟩ := h.mat
  have hmk := fun (w : World) => make_bytes (P := Try.prog) 31 5 Try.underlying31 info8' n (by omega) w
  go_enter Try.func83, Try.ntmps83
  go_wp2_with fail
  go_loopw [13] (fun v wr => ∃ i : Nat, i ≤ n ∧ v = .int .i64 i ∧ Blk wr w.heap.size (rowArr n (fun j => if j < i then F j k else 0)) 5 ∧ Below w.heap.size w wr)
    (fun v _ => n - (intOf v).toNat)
  case atStart => exact ⟨0, by omega, rfl, by simp only [Nat.not_lt_zero, if_false]; rw [← rowArr_zero]; exact Blk.new _ _ _, (Below.refl _ _).alloc (Nat.le_refl _) _⟩
  case round =>
    obtain ⟨i, hi, rfl, hx, hbel⟩ := hrel
    by_cases h0 : i < n
    · obtain ⟨b, off, b', off', cap', rfl, c1, c2⟩ := (h.below hbel).elem i k h0 hk
      have c3 : wr.cell? ⟨w.heap.size, i, none⟩ = some (.int .u8 0) := by rw [hx.cell, rowArr_get _ _ _ h0]; simp
      have f3 := hx.free i
      go_wp2
      refine ⟨⟨i + 1, by omega, by go_num, ?_, hbel.setCell (Nat.le_refl _) _⟩, by simp [intOf]; omega⟩
      have := hx.set i (.int .u8 ((F i k).toNat : Int))
      rw [rowArr_set] at this
      rw [← rowArr_congr (m := n) (f := fun j => if j = i then F i k else if j < i then F j k else 0) (fun j _ => ?_)]
      · exact this
      · by_cases e : j = i
        · subst e; simp
        · have : (j < i + 1) = (j < i) := by simp; omega
          simp [e, this]
    · obtain rfl : i = n := by omega
      go_wp2
      go_ret
      refine ⟨_, rfl, ?_, hbel⟩
      have := hx.row (by omega)
      rw [rowL_congr (m := i) (g := fun j => F j k) (fun j hj => by simp [hj])] at this
      exact this
end Go.Proofs.Ytdciakbichgddaa
