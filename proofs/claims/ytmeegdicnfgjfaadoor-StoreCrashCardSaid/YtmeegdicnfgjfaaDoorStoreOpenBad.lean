/- Walk of the store: Open with arguments that are none. -/
import Derived.Test.YtmeegdicnfgjfaaDoorStoreOpenMath
namespace Go.Proofs.YtmeegdicnfgjfaaDoor
open Go Go.RowKit Go.Mem Gf
attribute [local go_sem ↓] Go.wp_at_zero Go.wp_at_succ
set_option maxRecDepth 20000 in
set_option maxHeartbeats 2000000 in
theorem open_bad_slots (p : Value) (slots room : Int) (w : World) (h : decide (1 ≤ slots ∧ slots ≤ 1024) = false) :
    Calls Tryd.prog 10 #[p, .int .i64 slots, .int .i64 room] w fun e w' => e = .returned (.tuple #[.pointer none, .int .i64 1]) ∧ w = w' := by
  go_enter Tryd.func10, Tryd.ntmps10
  go_wp2_with fail
  refine (in_calls slots false w h).mono ?_
  rintro e w1 ⟨rfl, rfl⟩
  go_wp2
  go_ret2
  exact ⟨rfl, rfl⟩
set_option maxRecDepth 20000 in
set_option maxHeartbeats 2000000 in
theorem open_bad_room (p : Value) (slots room : Int) (w : World) (h1 : decide (1 ≤ slots ∧ slots ≤ 1024) = true) (h : decide (1 ≤ room ∧ room ≤ 1024) = false) :
    Calls Tryd.prog 10 #[p, .int .i64 slots, .int .i64 room] w fun e w' => e = .returned (.tuple #[.pointer none, .int .i64 1]) ∧ w = w' := by
  go_enter Tryd.func10, Tryd.ntmps10
  go_wp2_with fail
  refine (in_calls slots true w h1).mono ?_
  rintro e w1 ⟨rfl, rfl⟩
  go_wp2_with fail
  refine (in_calls room false w h).mono ?_
  rintro e w1 ⟨rfl, rfl⟩
  go_wp2
  go_ret2
  exact ⟨rfl, rfl⟩
set_option maxRecDepth 20000 in
set_option maxHeartbeats 2000000 in
theorem open_bad_len (d L : Nat) (D : DiskS) (slots room : Nat) (w : World) (hD : IsDisk w d L D) (h1 : decide ((1 : Int) ≤ slots ∧ (slots : Int) ≤ 1024) = true) (h2 : decide ((1 : Int) ≤ room ∧ (room : Int) ≤ 1024) = true) (h : D.n ≠ slots * (room + 1)) :
    Calls Tryd.prog 10 #[.pointer (some ⟨d, 0, none⟩), .int .i64 slots, .int .i64 room] w fun e w' => e = .returned (.tuple #[.pointer none, .int .i64 1]) ∧ w = w' := by
  have hs := of_decide_eq_true h1
  have hr := of_decide_eq_true h2
  have hm : slots * (room + 1) ≤ 1024 * 1025 := Nat.mul_le_mul (by omega) (by omega)
  obtain ⟨m, hmm⟩ : ∃ m, m = slots * (room + 1) := ⟨_, rfl⟩
  have q1 : IntKind.i64.wrap ((room : Int) + 1) = (room : Int) + 1 := IntWalk.i64_in _ (by omega)
  have q2 : IntKind.i64.wrap ((slots : Int) * ((room : Int) + 1)) = (m : Int) := by
    have e2 : (slots : Int) * ((room : Int) + 1) = (m : Int) := by rw [hmm]; push_cast; rfl
    rw [e2]
    exact IntWalk.i64_in _ (by omega)
  rw [← hmm] at h
  have hne : (D.n : Int) ≠ (m : Int) := by omega
  clear hs hr hm hmm h
  go_enter Tryd.func10, Tryd.ntmps10
  go_wp2_with fail
  refine (in_calls slots true w h1).mono ?_
  rintro e w1 ⟨rfl, rfl⟩
  go_wp2_with fail
  refine (in_calls room true w h2).mono ?_
  rintro e w1 ⟨rfl, rfl⟩
  go_wp2_with fail
  refine (dlen_calls d L D w hD).mono ?_
  rintro e w1 ⟨rfl, rfl⟩
  go_wp2
  go_ret2
  exact ⟨rfl, rfl⟩
end Go.Proofs.YtmeegdicnfgjfaaDoor
