/- Walks of chapter 4: sums of products; cuts. -/
import Derived.Test.YtdciakbichgddaaGfMore
namespace Go.Proofs.Ytdciakbichgddaa
open Go Go.RowKit Go.Mem Gf

theorem quiet_eq {P : Program} {f : FuncId} {args : Array Value} {w : World} {n : Nat} {v : Value}
    (h : Calls P f args (w.drewN n) fun e w' => e = .returned v ∧ w.drewN n = w') : Calls P f args (w.drewN n) fun e w'' => e = .returned v ∧ ∃ m, w'' = w.drewN m :=
  h.mono fun _ _ ⟨he, hm⟩ => ⟨he, n, hm.symm⟩

theorem IsField.rd {w w' : World} {b : Nat} (h : IsField w b) (hr : Rd w w') : IsField w' b := by
  obtain ⟨m, rfl⟩ := hr; exact h
set_option maxRecDepth 20000 in
set_option maxHeartbeats 1000000 in
theorem sum_calls (fb : Nat) (va vb : Value) (xs ys : List UInt8) (w : World) (hf : IsField w fb) (ha : Bys w va xs) (hb : Bys w vb ys) :
    Calls Try.prog 73 #[.func (.func 28) #[.pointer (some ⟨fb, 0, none⟩)] #[], va, vb] w fun e w' => e = .returned (.int .u8 (gdot xs ys).toNat) ∧ ∃ n, w' = w.drewN n := by
  have hla := ha.len
  have hlb := hb.len
  obtain ⟨aa, ca, rfl, hx⟩ := id ha
  clear hx
  obtain ⟨ab, cb, rfl, hx⟩ := id hb
  clear hx
  obtain ⟨la, hla'⟩ : ∃ n, n = xs.length := ⟨_, rfl⟩
  obtain ⟨lb, hlb'⟩ : ∃ n, n = ys.length := ⟨_, rfl⟩
  rw [← hla'] at hla ha ⊢
  rw [← hlb'] at hlb hb ⊢
  have Hla := Lib.hid hla'; have Hlb := Lib.hid hlb'; clear hla' hlb'
  by_cases hmin : lb < la
  all_goals
    go_enter Try.func73, Try.ntmps73
    go_wp2
    go_loopw [7, 14] (fun o v wr => ∃ k : Nat, k ≤ la ∧ k ≤ lb ∧ v = .int .i64 k ∧ Rd w wr ∧ o = .int .u8 (gdot (xs.take k) (ys.take k)).toNat) (fun _ v _ => la - (intOf v).toNat)
    case atStart => exact ⟨0, by omega, by omega, rfl, Rd.refl _, rfl⟩
    case round =>
      obtain ⟨k, hk1, hk2, rfl, hrd, rfl⟩ := hrel
      by_cases h0 : k < la ∧ k < lb
      · obtain ⟨h1, h2⟩ := h0
        obtain ⟨ba, oa, u, rfl, Hu, c1, hu⟩ := (hrd.bys ha).at k (by have := Hla.out; omega)
        obtain ⟨bb, ob, v, rfl, Hv, c2, hv⟩ := (hrd.bys hb).at k (by have := Hlb.out; omega)
        have Hs := Lib.hid (gdot_snoc xs ys k u v Hu.out Hv.out)
        have hm : mul u.toNat v.toNat < 256 := mul_lt _ _ hu
        have hg := lt256 (gdot (xs.take k) (ys.take k))
        go_wp2
        go_quiet ((first
          | (go_at_call 28; exact Calls.quiet_of (fmul_calls fb _ _ hu hv _ ((hf.rd hrd).drewN _)))
          | (go_at_call 35; exact quiet_eq (add_calls _ _ hg hm _))))
        go_wp2
        refine ⟨⟨k + 1, by omega, by omega, by go_num, hrd.more _, ?_⟩, by simp [intOf]; omega⟩
        rw [Hs.out, UInt8.toNat_xor, toNat_gm]
      · have H : Hid (gdot (xs.take k) (ys.take k) = gdot xs ys) := gdot_take xs ys k (by have := Hla.out; have := Hlb.out; omega)
        go_wp2
        go_ret
        exact ⟨ret_int (by rw [H.out]), hrd⟩

set_option maxHeartbeats 400000 in
theorem fdot_calls (fb : Nat) (va vb : Value) (xs ys : List UInt8) (w : World) (hf : IsField w fb) (ha : Bys w va xs) (hb : Bys w vb ys) :
    Calls Try.prog 31 #[.pointer (some ⟨fb, 0, none⟩), va, vb] w fun e w' => e = .returned (.int .u8 (gdot xs ys).toNat) ∧ ∃ n, w' = w.drewN n := by
  go_enter Try.func31, Try.ntmps31
  go_wp2_with (go_at_call 73; refine (sum_calls fb _ _ xs ys _ hf ha hb).mono ?_; rintro e w' ⟨rfl, n, rfl⟩)
  go_ret
  exact ⟨rfl, n, rfl⟩

set_option maxRecDepth 20000 in
set_option maxHeartbeats 1000000 in
theorem rdot_calls (va vb : Value) (xs ys : List UInt8) (w : World) (ha : Bys w va xs) (hb : Bys w vb ys) :
    Calls Try.prog 32 #[va, vb] w fun e w' => e = .returned (.int .u8 (gdot xs ys).toNat) ∧ ∃ n, w' = w.drewN n := by
  have hla := ha.len
  have hlb := hb.len
  obtain ⟨aa, ca, rfl, hx⟩ := id ha
  clear hx
  obtain ⟨ab, cb, rfl, hx⟩ := id hb
  clear hx
  obtain ⟨la, hla'⟩ : ∃ n, n = xs.length := ⟨_, rfl⟩
  obtain ⟨lb, hlb'⟩ : ∃ n, n = ys.length := ⟨_, rfl⟩
  rw [← hla'] at hla ha ⊢
  rw [← hlb'] at hlb hb ⊢
  have Hla := Lib.hid hla'; have Hlb := Lib.hid hlb'; clear hla' hlb'
  go_enter Try.func32, Try.ntmps32
  go_wp2
  go_loopw [5, 6] (fun o v wr => ∃ k : Nat, k ≤ la ∧ k ≤ lb ∧ v = .int .i64 k ∧ Rd w wr ∧ o = .int .u8 (gdot (xs.take k) (ys.take k)).toNat) (fun _ v _ => la - (intOf v).toNat)
  case atStart => exact ⟨0, by omega, by omega, rfl, Rd.refl _, rfl⟩
  case round =>
    obtain ⟨k, hk1, hk2, rfl, hrd, rfl⟩ := hrel
    by_cases h1 : k < la
    · by_cases h2 : k < lb
      · obtain ⟨ba, oa, u, rfl, Hu, c1, hu⟩ := (hrd.bys ha).at k (by have := Hla.out; omega)
        obtain ⟨bb, ob, v, rfl, Hv, c2, hv⟩ := (hrd.bys hb).at k (by have := Hlb.out; omega)
        have Hs := Lib.hid (gdot_snoc xs ys k u v Hu.out Hv.out)
        have hm : mul u.toNat v.toNat < 256 := mul_lt _ _ hu
        have hg := lt256 (gdot (xs.take k) (ys.take k))
        have hx := Lib.hid (bits_xor_u8 _ _ hg hm)
        go_wp2
        go_quiet ((go_at_call 33; exact quiet_eq (rmul_calls _ _ hu hv _)))
        go_wp2
        refine ⟨⟨k + 1, by omega, by omega, by go_num, hrd.more _, ?_⟩, by simp [intOf]; omega⟩
        rw [Hs.out, UInt8.toNat_xor, toNat_gm, hx.out]
      · have H : Hid (gdot (xs.take k) (ys.take k) = gdot xs ys) := gdot_take xs ys k (by have := Hla.out; have := Hlb.out; omega)
        go_wp2
        go_ret
        exact ⟨ret_int (by rw [H.out]), hrd⟩
    · have H : Hid (gdot (xs.take k) (ys.take k) = gdot xs ys) := gdot_take xs ys k (by have := Hla.out; have := Hlb.out; omega)
      go_wp2
      go_ret
      exact ⟨ret_int (by rw [H.out]), hrd⟩

set_option maxHeartbeats 400000 in
theorem wakes04_calls (w : World) :
    Calls Try.prog 27 #[] w fun e w' => e = .returned (.bool true) ∧ w = w' := by
  have h : mul 2 128 = 29 := by decide +kernel
  go_enter Try.func27, Try.ntmps27
  go_wp2_with (go_at_call 36; refine (mul_calls 2 128 (by decide) (by decide) _).mono ?_; rintro e w' ⟨rfl, rfl⟩)
  go_ret
  exact ⟨rfl, rfl⟩
end Go.Proofs.Ytdciakbichgddaa
