/- Walks of the helps of the statements: cuts of bytes. -/
import Derived.Test.YtdciakbichgddaaGfDot
namespace Go.Proofs.Ytdciakbichgddaa
open Go Go.RowKit Go.Mem Gf

set_option maxHeartbeats 1000000 in
theorem cut8_calls (v : Value) (bs : List UInt8) (n : Nat) (w : World) (h : Bys w v bs) :
    Calls Try.prog 30 #[v, .int .i64 n] w fun e w' => (∃ v', e = .returned v' ∧ Bys w v' (bs.take n)) ∧ w = w' := by
  have hl := h.len
  obtain ⟨a, cap, rfl, h1, h2, h3⟩ := id h
  obtain ⟨l, hl'⟩ : ∃ l, l = bs.length := ⟨_, rfl⟩
  rw [← hl'] at hl h h1 ⊢
  have Hl := Lib.hid hl'; have H3 := Lib.hid h3; have H2 := Lib.hid h2; clear hl' h3 h2
  by_cases hlt : n < l
  · go_enter Try.func30, Try.ntmps30
    go_wp2
    go_ret
    exact ⟨⟨_, rfl, h.take n (by have := Hl.out; omega)⟩, rfl⟩
  · go_enter Try.func30, Try.ntmps30
    go_wp2
    go_ret
    exact ⟨⟨_, rfl, by rw [List.take_of_length_le (by have := Hl.out; omega)]; exact h⟩, rfl⟩
end Go.Proofs.Ytdciakbichgddaa
