/- The walks of package gf: a field is made; its methods. -/
import Derived.Test.YtdciakbichgddaaGfWalk
namespace Go.Proofs.Ytdciakbichgddaa
open Go Go.RowKit Go.Mem Gf

set_option maxRecDepth 100000 in
set_option maxHeartbeats 1000000 in
theorem new_calls (w : World) :
    Calls Try.prog 24 #[] w fun e w' => e = .returned (.pointer (some ⟨w.heap.size, 0, none⟩)) ∧ IsField w' w.heap.size ∧ Below w.heap.size w w' := by
  go_enter Try.func24, Try.ntmps24
  go_wp2
  go_loopw [2, 6] (fun x i wr => ∃ (k : Nat) (arr : Array Value), k ≤ 255 ∧ i = .int .i64 k ∧ x = .int .u8 (ex k) ∧ Blk wr w.heap.size arr 90 ∧ Laid arr k ∧ Below w.heap.size w wr)
    (fun _ i _ => 255 - (intOf i).toNat)
  case atStart => exact ⟨0, _, by omega, rfl, rfl, Blk.new _ _ _, laid_zero, (Below.refl _ _).alloc (Nat.le_refl _) _⟩
  case round =>
    obtain ⟨k, arr, hk, rfl, rfl, hblk, hl, hbel⟩ := hrel
    by_cases hlt : k < 255
    · obtain ⟨n0, h0⟩ := hl.2.2.1 k (by omega)
      obtain ⟨n1, h1⟩ := hl.2.2.1 (k + 255) (by omega)
      obtain ⟨n2, h2⟩ := hl.2.2.2.1 (ex k) (ex_lt k)
      have hx := ex_lt k
      have c0 : wr.cell? ⟨w.heap.size, k, none⟩ = some (.int .u8 n0) := by rw [hblk.cell]; exact h0
      have c1 : wr.cell? ⟨w.heap.size, k + 255, none⟩ = some (.int .u8 n1) := by rw [hblk.cell]; exact h1
      have c2 : wr.cell? ⟨w.heap.size, 510 + ex k, none⟩ = some (.int .i64 n2) := by rw [hblk.cell]; exact h2
      have f0 : ∀ i, wr.frozen? ⟨w.heap.size, i, none⟩ = false := hblk.free
      clear h0 h1 h2
      have Hl := Lib.hid hl; clear hl
      go_wp2
      go_region
      go_wp2_with (go_at_call 72; refine (twice_calls _ (by assumption) _).mono ?_; rintro e w' ⟨rfl, rfl⟩)
      exact ⟨⟨k + 1, _, by omega, by go_num, rfl, (((hblk.set _ _).set _ _).set _ _).drew, laid_step Hl.out hlt,
        (((hbel.setCell (Nat.le_refl _) _).setCell (Nat.le_refl _) _).setCell (Nat.le_refl _) _).drew⟩, by simp [intOf]; omega⟩
    · obtain rfl : k = 255 := by omega
      go_wp2
      go_ret
      exact ⟨rfl, ⟨arr, hblk, hl⟩, hbel⟩

set_option maxHeartbeats 1000000 in
theorem fmul_calls (b x y : Nat) (hx : x < 256) (hy : y < 256) (w : World) (hf : IsField w b) :
    Calls Try.prog 28 #[.pointer (some ⟨b, 0, none⟩), .int .u8 x, .int .u8 y] w fun e w' => e = .returned (.int .u8 (mul x y)) ∧ ∃ n, w' = w.drewN n := by
  by_cases h1 : x = 0
  · subst h1
    go_enter Try.func28, Try.ntmps28
    go_wp2
    go_ret
    exact ⟨ret_int (by rw [zero_mul]; rfl), 0, rfl⟩
  · by_cases h2 : y = 0
    · subst h2
      have t1 : ((x : Int) == 0) = false := by simp; omega
      go_enter Try.func28, Try.ntmps28
      go_wp2
      go_ret
      exact ⟨ret_int (by rw [mul_zero]; rfl), 0, rfl⟩
    · have t1 : ((x : Int) == 0) = false := by simp; omega
      have t2 : ((y : Int) == 0) = false := by simp; omega
      have c1 := hf.log x hx
      have c2 := hf.log y hy
      have l1 := lg_lt x hx
      have l2 := lg_lt y hy
      have c3 := hf.power (lg x + lg y) (by omega)
      have H := Lib.hid (mul_lg x y hx hy h1 h2)
      go_enter Try.func28, Try.ntmps28
      go_wp2
      go_quiet (fail)
      go_wp2
      go_ret
      exact ⟨ret_int (by rw [H.out]), _, rfl⟩

/-- what Inv answers, as a number -/
def invN (a : Nat) : Nat := (ginv (.ofNat a)).toNat
theorem invN_lt (a : Nat) : invN a < 256 := lt256 _
theorem invN_lg (a : Nat) (ha : a < 256) (h : a ≠ 0) : invN a = ex (255 - lg a) := by
  have e : (UInt8.ofNat a).toNat = a := toNat_of a ha
  have h' : UInt8.ofNat a ≠ 0 := fun e' => h (by rw [← e, e']; rfl)
  rw [invN, ginv, if_neg h', toNat_exB, e]

set_option maxHeartbeats 1000000 in
theorem finv_calls (b x : Nat) (hx : x < 256) (w : World) (hf : IsField w b) :
    Calls Try.prog 37 #[.pointer (some ⟨b, 0, none⟩), .int .u8 x] w fun e w' => e = .returned (.int .u8 (invN x)) ∧ ∃ n, w' = w.drewN n := by
  by_cases h1 : x = 0
  · subst h1
    go_enter Try.func37, Try.ntmps37
    go_wp2
    go_ret
    exact ⟨ret_int (by rfl), 0, rfl⟩
  · have t1 : ((x : Int) == 0) = false := by simp; omega
    have c1 := hf.log x hx
    have l1 := lg_lt x hx
    have c3 := hf.power (255 - lg x) (by omega)
    have H := Lib.hid (invN_lg x hx h1)
    go_enter Try.func37, Try.ntmps37
    go_wp2
    go_quiet (fail)
    go_wp2
    go_ret
    exact ⟨ret_int (by rw [H.out]), _, rfl⟩

set_option maxHeartbeats 1000000 in
theorem fdiv_zero_calls (b x : Nat) (w : World) :
    Calls Try.prog 34 #[.pointer (some ⟨b, 0, none⟩), .int .u8 x, .int .u8 0] w fun e w' => e = .returned (.tuple #[.int .u8 0, .int .i64 1]) ∧ ∃ n, w' = w.drewN n := by
  go_enter Try.func34, Try.ntmps34
  go_wp2
  go_ret2
  exact ⟨rfl, 0, rfl⟩

set_option maxHeartbeats 1000000 in
theorem fdiv_calls (b x y : Nat) (hx : x < 256) (hy : y < 256) (h0 : y ≠ 0) (w : World) (hf : IsField w b) :
    Calls Try.prog 34 #[.pointer (some ⟨b, 0, none⟩), .int .u8 x, .int .u8 y] w fun e w' => e = .returned (.tuple #[.int .u8 (mul x (invN y)), .int .i64 0]) ∧ ∃ n, w' = w.drewN n := by
  have t1 : ((y : Int) == 0) = false := by simp; omega
  have hi := invN_lt y
  go_enter Try.func34, Try.ntmps34
  go_wp2_with (first
    | (go_at_call 37; refine (finv_calls _ _ hy _ hf).mono ?_; rintro e w' ⟨rfl, n, rfl⟩)
    | (go_at_call 28; refine (fmul_calls _ _ _ hx hi _ (hf.drewN _)).mono ?_; rintro e w' ⟨rfl, n, rfl⟩))
  go_ret2
  exact ⟨rfl, _, rfl⟩

/-- what Pow answers, as a number: a to the n (n below 0 is 0) -/
def powN (a : Nat) (n : Int) : Nat := (gpow (.ofNat a) n.toNat).toNat
theorem powN_lt (a : Nat) (n : Int) : powN a n < 256 := lt256 _
theorem powN_neg (a : Nat) (n : Int) (h : n ≤ 0) : powN a n = 1 := by
  rw [powN, show n.toNat = 0 from by omega]; rfl
theorem powN_zero (n : Int) (h : 0 < n) : powN 0 n = 0 := by
  rw [powN, show n.toNat = (n.toNat - 1) + 1 from by omega]
  show (gpow 0 _).toNat = 0
  rw [gpow_zero]; rfl
theorem powN_lg (a : Nat) (n : Nat) (ha : a < 256) (h : a ≠ 0) : powN a n = ex (lg a * (n % 255) % 255) := by
  have e : (UInt8.ofNat a).toNat = a := toNat_of a ha
  have h' : UInt8.ofNat a ≠ 0 := fun e' => h (by rw [← e, e']; rfl)
  rw [powN, Int.toNat_natCast, gpow_code _ h', e]

set_option maxHeartbeats 1000000 in
theorem fpow_calls (b x : Nat) (n : Int) (hx : x < 256) (w : World) (hf : IsField w b) :
    Calls Try.prog 25 #[.pointer (some ⟨b, 0, none⟩), .int .u8 x, .int .i64 n] w fun e w' => e = .returned (.int .u8 (powN x n)) ∧ ∃ n, w' = w.drewN n := by
  by_cases hn : n ≤ 0
  · have H := Lib.hid (powN_neg x n hn)
    go_enter Try.func25, Try.ntmps25
    go_wp2
    go_ret
    exact ⟨ret_int (by rw [H.out]; rfl), 0, rfl⟩
  · obtain ⟨n, rfl⟩ := Int.eq_ofNat_of_zero_le (show 0 ≤ n by omega)
    by_cases h1 : x = 0
    · subst h1
      have H := Lib.hid (powN_zero n (by omega))
      go_enter Try.func25, Try.ntmps25
      go_wp2
      go_ret
      exact ⟨ret_int (by rw [H.out]; rfl), 0, rfl⟩
    · have t1 : ((x : Int) == 0) = false := by simp; omega
      have c1 := hf.log x hx
      have l1 := lg_lt x hx
      obtain ⟨r, hr⟩ : ∃ r, r = n % 255 := ⟨_, rfl⟩
      obtain ⟨m, hm⟩ : ∃ m, m = lg x * r := ⟨_, rfl⟩
      obtain ⟨k, hk⟩ : ∃ k, k = m % 255 := ⟨_, rfl⟩
      have hm2 : m ≤ 254 * 254 := by rw [hm]; exact Nat.mul_le_mul (by omega) (by omega)
      have e1 : (n : Int).tmod 255 = (r : Int) := by rw [hr]; exact (Int.ofNat_tmod n 255).symm
      have e2 : IntKind.i64.wrap ((lg x : Int) * (r : Int)) = (m : Int) := by
        rw [← Int.natCast_mul, ← hm]; exact IntWalk.i64_in _ (by omega)
      have e3 : (m : Int).tmod 255 = (k : Int) := by rw [hk]; exact (Int.ofNat_tmod m 255).symm
      have hk5 : k < 255 := by omega
      have c3 := hf.power k (by omega)
      have H : Hid (powN x n = ex k) := by rw [hk, hm, hr]; exact Lib.hid (powN_lg x n hx h1)
      clear hk hm hr hm2
      go_enter Try.func25, Try.ntmps25
      go_wp2
      go_quiet (fail)
      go_wp2
      go_ret
      exact ⟨ret_int (by rw [H.out]), _, rfl⟩
end Go.Proofs.Ytdciakbichgddaa
