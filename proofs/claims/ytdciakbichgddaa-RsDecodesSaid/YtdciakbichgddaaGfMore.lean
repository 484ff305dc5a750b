/- More walks of chapter 4: powers, inverses, sums of products, the helps of the statements. -/
import Derived.Test.YtdciakbichgddaaGfRef
namespace Go.Proofs.Ytdciakbichgddaa
open Go Go.RowKit Go.Mem Gf

theorem ofNat_toNat (a : UInt8) : UInt8.ofNat a.toNat = a := ext (toNat_of _ (lt256 a))
theorem gpow_succN (a k : Nat) (ha : a < 256) : (gpow (.ofNat a) (k + 1)).toNat = mul (gpow (.ofNat a) k).toNat a := by
  rw [gpow, toNat_gm, toNat_of a ha]
theorem powN_succ (a k : Nat) (ha : a < 256) : powN a ((k : Int) + 1) = mul (powN a k) a := by
  have := gpow_succN a k ha
  rw [powN, powN, show ((k : Int) + 1).toNat = k + 1 from by omega, Int.toNat_natCast, this]
theorem powN_big (a n : Nat) (hn : 255 < n) : powN a (255 + (n : Int) % 255) = powN a n := by
  rw [powN, powN, show (255 + (n : Int) % 255).toNat = 255 + n % 255 from by omega, Int.toNat_natCast, gpow_big _ _ hn]

set_option maxHeartbeats 400000 in
/-- the loop of Pow, behind what has been cut of the exponent -/
theorem rpow_calls (a : Nat) (n : Int) (ha : a < 256) (w : World) :
    Calls Try.prog 26 #[.int .u8 a, .int .i64 n] w fun e w' => e = .returned (.int .u8 (powN a n)) ∧ w = w' := by
  by_cases hn : 255 < n
  · obtain ⟨n, rfl⟩ := Int.eq_ofNat_of_zero_le (show 0 ≤ n by omega)
    have H := Lib.hid (powN_big a n (by omega))
    go_enter Try.func26, Try.ntmps26
    go_wp2
    go_loop [5, 6] (fun o v => ∃ k : Nat, (k : Int) ≤ 255 + (n : Int) % 255 ∧ v = .int .i64 k ∧ o = .int .u8 (powN a k))
      (fun _ v => (255 + (n : Int) % 255 - intOf v).toNat)
    case atStart => exact ⟨0, by omega, rfl, rfl⟩
    case round =>
      obtain ⟨k, hk, rfl, rfl⟩ := hrel
      have hp := powN_lt a k
      have Hs := Lib.hid (powN_succ a k ha)
      by_cases h0 : (k : Int) < 255 + (n : Int) % 255
      · go_wp2_with (go_at_call 33; refine (rmul_calls _ _ hp ha _).mono ?_; rintro e w' ⟨rfl, rfl⟩)
        go_round
        case rel => exact ⟨k + 1, by omega, by go_num, by rw [← Hs.out]; rfl⟩
        case measure => simp [intOf]; omega
      · go_wp2
        go_ret
        exact ⟨ret_int (by rw [← H.out, show (k : Int) = 255 + (n : Int) % 255 from by omega]), rfl⟩
  · by_cases hneg : n ≤ 0
    · have H := Lib.hid (powN_neg a n hneg)
      go_enter Try.func26, Try.ntmps26
      go_wp2
      go_loop [5, 6] (fun o v => v = .int .i64 0 ∧ o = .int .u8 1) (fun _ v => 0)
      case atStart => exact ⟨rfl, rfl⟩
      case round =>
        obtain ⟨rfl, rfl⟩ := hrel
        go_wp2
        go_ret
        exact ⟨ret_int (by rw [H.out]; rfl), rfl⟩
    · go_enter Try.func26, Try.ntmps26
      go_wp2
      go_loop [5, 6] (fun o v => ∃ k : Nat, (k : Int) ≤ n ∧ v = .int .i64 k ∧ o = .int .u8 (powN a k))
        (fun _ v => (n - intOf v).toNat)
      case atStart => exact ⟨0, by omega, rfl, rfl⟩
      case round =>
        obtain ⟨k, hk, rfl, rfl⟩ := hrel
        have hp := powN_lt a k
        have Hs := Lib.hid (powN_succ a k ha)
        by_cases h0 : (k : Int) < n
        · go_wp2_with (go_at_call 33; refine (rmul_calls _ _ hp ha _).mono ?_; rintro e w' ⟨rfl, rfl⟩)
          go_round
          case rel => exact ⟨k + 1, by omega, by go_num, by rw [← Hs.out]; rfl⟩
          case measure => simp [intOf]; omega
        · go_wp2
          go_ret
          exact ⟨ret_int (by rw [show (k : Int) = n from by omega]), rfl⟩

theorem invN_facts (a k : Nat) (ha : a < 256) (hk : k < 256) (h : mul a k = 1) : (k : Int) = invN a := by
  have e : gm (.ofNat a) (.ofNat k) = 1 := ext (by rw [toNat_gm, toNat_of a ha, toNat_of k hk, h]; rfl)
  have := ginv_unique e
  rw [invN, ← this, toNat_of k hk]
theorem invN_mul (a : Nat) (ha : a < 256) (h : a ≠ 0) : mul a (invN a) = 1 := by
  have e : (UInt8.ofNat a).toNat = a := toNat_of a ha
  have h' : UInt8.ofNat a ≠ 0 := fun e' => h (by rw [← e, e']; rfl)
  have := congrArg UInt8.toNat (gm_ginv h')
  rw [toNat_gm, e] at this
  exact this
theorem invN_ne (a : Nat) (ha : a < 256) (h : a ≠ 0) : invN a ≠ 0 := fun e => by
  have := invN_mul a ha h
  rw [e, mul_zero] at this
  exact absurd this (by decide)

set_option maxRecDepth 20000 in
set_option maxHeartbeats 1000000 in
theorem rinv_calls (a : Nat) (ha : a < 256) (w : World) :
    Calls Try.prog 38 #[.int .u8 a] w fun e w' => e = .returned (.int .u8 (invN a)) ∧ w = w' := by
  go_enter Try.func38, Try.ntmps38
  go_wp2
  go_loop [3] (fun v => ∃ k : Nat, 1 ≤ k ∧ k ≤ 256 ∧ v = .int .i64 k ∧ ∀ j, 1 ≤ j → j < k → mul a j ≠ 1) (fun v => (256 - intOf v).toNat)
  case atStart => exact ⟨1, by omega, by omega, rfl, fun j h1 h2 => by omega⟩
  case round =>
    obtain ⟨k, hk1, hk, rfl, hall⟩ := hrel
    have Hall := Lib.hid hall; clear hall
    by_cases h0 : k < 256
    · by_cases h1 : mul a k = 1
      · have ht : ((mul a k : Int) == 1) = true := by rw [h1]; rfl
        have H := Lib.hid (invN_facts a k ha h0 h1); clear h1
        go_wp2_with (go_at_call 33; refine (rmul_calls _ _ ha h0 _).mono ?_; rintro e w' ⟨rfl, rfl⟩)
        go_ret
        exact ⟨ret_int (by rw [← H.out]), rfl⟩
      · have ht : ((mul a k : Int) == 1) = false := by simp; omega
        have H1 := Lib.hid h1; clear h1
        go_wp2_with (go_at_call 33; refine (rmul_calls _ _ ha h0 _).mono ?_; rintro e w' ⟨rfl, rfl⟩)
        go_round
        case rel =>
          refine ⟨k + 1, by omega, by omega, by go_num, fun j h1 h2 => ?_⟩
          by_cases e : j = k
          · rw [e]; exact H1.out
          · exact Hall.out j h1 (by omega)
        case measure => simp [intOf]; omega
    · have H : Hid (invN a = 0) := by
        by_cases h : a = 0
        · rw [h]; rfl
        · have := invN_lt a
          have hz := invN_ne a ha h
          exact absurd (invN_mul a ha h) (Hall.out _ (by omega) (by omega))
      go_wp2
      go_ret
      exact ⟨ret_int (by rw [H.out]; rfl), rfl⟩

/-- what Within answers -/
def within (v n : Int) : Int := if n < 1 then 0 else v % n
theorem within_range (v n : Int) (h : 1 ≤ n) : 0 ≤ within v n ∧ within v n < n := by
  rw [within, if_neg (by omega)]
  exact ⟨Int.emod_nonneg _ (by omega), Int.emod_lt_of_pos _ (by omega)⟩
theorem within_tmod (v n : Int) (h : 1 ≤ n) : within v n = if v.tmod n < 0 then v.tmod n + n else v.tmod n := by
  rw [within, if_neg (by omega), Int.tmod_eq_emod]
  have h1 := Int.emod_nonneg v (show n ≠ 0 by omega)
  have h2 := Int.emod_lt_of_pos v (show 0 < n by omega)
  split <;> split <;> omega

set_option maxHeartbeats 400000 in
theorem within_calls (v n : Int) (h : 1 ≤ n) (hn : n ≤ 9223372036854775807) (w : World) :
    Calls Try.prog 29 #[.int .i64 v, .int .i64 n] w fun e w' => e = .returned (.int .i64 (within v n)) ∧ w = w' := by
  have h1 : v.tmod n < n := Int.tmod_lt_of_pos v (by omega)
  have h2 : -n < v.tmod n := Int.lt_tmod_of_pos v (by omega)
  have h0 : n ≠ 0 := by omega
  have t0 : (n == 0) = false := by simp; omega
  have H := Lib.hid (within_tmod v n h)
  by_cases hneg : v.tmod n < 0
  · go_enter Try.func29, Try.ntmps29
    go_wp2
    go_ret
    exact ⟨ret_int (by rw [H.out, if_pos hneg]), rfl⟩
  · go_enter Try.func29, Try.ntmps29
    go_wp2
    go_ret
    exact ⟨ret_int (by rw [H.out, if_neg (by omega)]), rfl⟩
end Go.Proofs.Ytdciakbichgddaa
