/- Walks of the helps of the statements: the same bytes, the same rows. -/
import Derived.Test.YtdciakbichgddaaKeep
import Derived.Test.YtdciakbichgddaaMatMem
namespace Go.Proofs.Ytdciakbichgddaa
open Go Go.RowKit Go.Mem Gf

theorem _root_.Go.Mem.Rd.rws {w w' : World} (h : Rd w w') {v : Value} {rs : List (List UInt8)} (hb : Rws w v rs) : Rws w' v rs := by
  obtain ⟨m, rfl⟩ := h; exact hb
theorem take_snoc_eq {α : Type} {xs ys : List α} {i : Nat} {u v : α} (h : xs.take i = ys.take i) (hu : xs[i]? = some u) (hv : ys[i]? = some v) (e : u = v) : xs.take (i + 1) = ys.take (i + 1) := by
  rw [List.take_add_one, List.take_add_one, h, hu, hv, e]

set_option maxRecDepth 20000 in
set_option maxHeartbeats 1000000 in
theorem same8_calls (va vb : Value) (xs ys : List UInt8) (w : World) (ha : Bys w va xs) (hb : Bys w vb ys) :
    Calls Try.prog 51 #[va, vb] w fun e w' => e = .returned (.bool (decide (xs = ys))) ∧ ∃ n, w' = w.drewN n := by
  have hla := ha.len
  have hlb := hb.len
  obtain ⟨aa, ca, rfl, hx⟩ := id ha
  clear hx
  obtain ⟨ab, cb, rfl, hx⟩ := id hb
  clear hx
  obtain ⟨la, hla'⟩ : ∃ n, n = xs.length := ⟨_, rfl⟩
  obtain ⟨lb, hlb'⟩ : ∃ n, n = ys.length := ⟨_, rfl⟩
  rw [← hla'] at hla ha ⊢
  rw [← hlb'] at hlb hb ⊢
  have Hla := Lib.hid hla'; have Hlb := Lib.hid hlb'; clear hla' hlb'
  by_cases hl : la = lb
  · subst hl
    go_enter Try.func51, Try.ntmps51
    go_wp2_with fail
    go_loopw [5] (fun v wr => ∃ i : Nat, i ≤ la ∧ v = .int .i64 i ∧ Rd w wr ∧ xs.take i = ys.take i) (fun v _ => la - (intOf v).toNat)
    case atStart => exact ⟨0, by omega, rfl, Rd.refl _, rfl⟩
    case round =>
      obtain ⟨i, hi, rfl, hrd, ht⟩ := hrel
      have Ht := Lib.hid ht; clear ht
      by_cases h0 : i < la
      · obtain ⟨b1, o1, u, rfl, Hu, c1, hu⟩ := (hrd.bys ha).at i (by have := Hla.out; omega)
        obtain ⟨b2, o2, v, rfl, Hv, c2, hv⟩ := (hrd.bys hb).at i (by have := Hlb.out; omega)
        by_cases huv : u = v
        · have t : (((u.toNat : Nat) : Int) != ((v.toNat : Nat) : Int)) = false := by rw [huv]; simp
          have Hs := Lib.hid (take_snoc_eq Ht.out Hu.out Hv.out huv); clear huv
          go_wp2_with fail
          go_quiet (fail)
          go_wp2
          exact ⟨⟨i + 1, by omega, by go_num, hrd.more _, Hs.out⟩, by simp [intOf]; omega⟩
        · have t : (((u.toNat : Nat) : Int) != ((v.toNat : Nat) : Int)) = true := by
            have : u.toNat ≠ v.toNat := fun e => huv (Gf.ext e)
            simp; omega
          have Hs : Hid (xs ≠ ys) := fun e => huv (by have h1 := Hu.out; have h2 := Hv.out; rw [e, h2] at h1; exact (Option.some.inj h1).symm)
          clear huv
          go_wp2_with fail
          go_quiet (fail)
          go_wp2
          go_ret
          exact ⟨by rw [decide_eq_false Hs.out]; rfl, hrd.more _⟩
      · obtain rfl : i = la := by omega
        have He : Hid (xs = ys) := by
          have h1 := Ht.out; have h2 := Hla.out; have h3 := Hlb.out
          rw [List.take_of_length_le (by omega), List.take_of_length_le (by omega)] at h1
          exact h1
        go_wp2
        go_ret
        exact ⟨by rw [decide_eq_true He.out]; rfl, hrd⟩
  · have t : ((la : Int) != (lb : Int)) = true := by simp; omega
    have t2 : (la != lb) = true := by simp; omega
    have He : Hid (xs ≠ ys) := fun e => hl (by rw [Hla.out, Hlb.out, e])
    clear hl
    go_enter Try.func51, Try.ntmps51
    go_wp2
    go_ret
    exact ⟨by rw [decide_eq_false He.out]; rfl, 0, rfl⟩

set_option maxRecDepth 20000 in
set_option maxHeartbeats 1000000 in
theorem rows8_calls (va vb : Value) (xs ys : List (List UInt8)) (w : World) (ha : Rws w va xs) (hb : Rws w vb ys) :
    Calls Try.prog 43 #[va, vb] w fun e w' => e = .returned (.bool (decide (xs = ys))) ∧ ∃ n, w' = w.drewN n := by
  have hla := ha.len
  have hlb := hb.len
  obtain ⟨aa, ca, rfl⟩ := ha.eq_slice
  obtain ⟨ab, cb, rfl⟩ := hb.eq_slice
  obtain ⟨la, hla'⟩ : ∃ n, n = xs.length := ⟨_, rfl⟩
  obtain ⟨lb, hlb'⟩ : ∃ n, n = ys.length := ⟨_, rfl⟩
  rw [← hla'] at hla ha ⊢
  rw [← hlb'] at hlb hb ⊢
  have Hla := Lib.hid hla'; have Hlb := Lib.hid hlb'; clear hla' hlb'
  by_cases hl : la = lb
  · subst hl
    go_enter Try.func43, Try.ntmps43
    go_wp2_with fail
    go_loopw [5] (fun v wr => ∃ i : Nat, i ≤ la ∧ v = .int .i64 i ∧ Rd w wr ∧ xs.take i = ys.take i) (fun v _ => la - (intOf v).toNat)
    case atStart => exact ⟨0, by omega, rfl, Rd.refl _, rfl⟩
    case round =>
      obtain ⟨i, hi, rfl, hrd, ht⟩ := hrel
      have Ht := Lib.hid ht; clear ht
      by_cases h0 : i < la
      · obtain ⟨b1, o1, u, vu, rfl, Hu, c1, hu⟩ := (hrd.rws ha).at i (by have := Hla.out; omega)
        obtain ⟨b2, o2, v, vv, rfl, Hv, c2, hv⟩ := (hrd.rws hb).at i (by have := Hlb.out; omega)
        by_cases huv : u = v
        · have hc : ∀ d, Calls Try.prog 51 #[vu, vv] (wr.drewN d) fun e w' => e = .returned (.bool true) ∧ ∃ n, w' = (wr.drewN d).drewN n := fun d => by
            have := same8_calls vu vv u v (wr.drewN d) (hu.drewN d) (hv.drewN d)
            rw [decide_eq_true huv] at this; exact this
          have Hc := Lib.hid hc; clear hc
          have Hs := Lib.hid (take_snoc_eq Ht.out Hu.out Hv.out huv); clear huv
          go_wp2_with fail
          go_quiet ((go_at_call 51; exact Calls.quiet_of (Hc.out _)))
          go_wp2
          exact ⟨⟨i + 1, by omega, by go_num, hrd.more _, Hs.out⟩, by simp [intOf]; omega⟩
        · have hc : ∀ d, Calls Try.prog 51 #[vu, vv] (wr.drewN d) fun e w' => e = .returned (.bool false) ∧ ∃ n, w' = (wr.drewN d).drewN n := fun d => by
            have := same8_calls vu vv u v (wr.drewN d) (hu.drewN d) (hv.drewN d)
            rw [decide_eq_false huv] at this; exact this
          have Hc := Lib.hid hc; clear hc
          have Hs : Hid (xs ≠ ys) := fun e => huv (by have h1 := Hu.out; have h2 := Hv.out; rw [e, h2] at h1; exact (Option.some.inj h1).symm)
          clear huv
          go_wp2_with fail
          go_quiet ((go_at_call 51; exact Calls.quiet_of (Hc.out _)))
          go_wp2
          go_ret
          exact ⟨by rw [decide_eq_false Hs.out]; rfl, hrd.more _⟩
      · obtain rfl : i = la := by omega
        have He : Hid (xs = ys) := by
          have h1 := Ht.out; have h2 := Hla.out; have h3 := Hlb.out
          rw [List.take_of_length_le (by omega), List.take_of_length_le (by omega)] at h1
          exact h1
        go_wp2
        go_ret
        exact ⟨by rw [decide_eq_true He.out]; rfl, hrd⟩
  · have t : ((la : Int) != (lb : Int)) = true := by simp; omega
    have t2 : (la != lb) = true := by simp; omega
    have He : Hid (xs ≠ ys) := fun e => hl (by rw [Hla.out, Hlb.out, e])
    clear hl
    go_enter Try.func43, Try.ntmps43
    go_wp2
    go_ret
    exact ⟨by rw [decide_eq_false He.out]; rfl, 0, rfl⟩
end Go.Proofs.Ytdciakbichgddaa
