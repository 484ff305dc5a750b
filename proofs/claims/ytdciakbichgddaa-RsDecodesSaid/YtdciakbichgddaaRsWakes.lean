/- The walk of the example of the document, chapter 6. -/
import Derived.Test.YtdciakbichgddaaRsEnc
import Derived.Laws.BytesArg
import Derived.Lib.SlBytesConst
import Derived.Lib.SmallJoins
namespace Go.Proofs.Ytdciakbichgddaa
open Go Go.RowKit Go.Mem Gf

theorem CM_one (i : Nat) : CM 1 i 0 = 1 := by
  have h0 : CM 1 0 0 = 1 := CM_top 1 (by decide) 0 (by decide) 0 (by decide)
  have e : ∀ i, CM 1 i 0 = TI 1 0 0 := fun i => by
    show gsum 1 (fun j => gm (VandM i j) (TI 1 j 0)) = _
    simp [gsum, VandM, gpow, one_gm]
  rw [e] at h0 ⊢; exact h0
theorem share_one (bs : List UInt8) (i x : Nat) : MM 1 (CM 1) (pieceF bs 1) i x = pieceF bs 1 0 x := by
  show gsum 1 (fun j => gm (CM 1 i j) (pieceF bs 1 j x)) = _
  simp [gsum, CM_one, one_gm]
theorem piece_one (bs : List UInt8) : pieceN bs 1 = bs.length := by simp [pieceN, padN]
theorem abc_get (x : Nat) : pieceF [97, 98, 99] 1 0 x = [97, 98, 99].getD x 0 := by
  have : padL [97, 98, 99] 1 = [97, 98, 99] := by simp [padL, padN]
  rw [pieceF, this]; simp

set_option maxRecDepth 20000 in
set_option maxHeartbeats 1000000 in
theorem wakes06_calls (w : World) :
    Calls Try.prog 58 #[] w fun e w' => e = .returned (.bool true) ∧ Below w.heap.size w w' := by
  have kc := fun (w : World) (C : Array Value) (n c : Nat) => Lib.run_convert_bytes_const (P := Try.prog) w 31 5 C n c Try.underlying31 Try.underlying5
  go_enter Try.func58, Try.ntmps58
  go_wp2_with fail
  refine (rsnew_calls 1 3 (by decide) (by decide) (by decide) w).mono ?_
  rintro e w1 ⟨b, rfl, hb0, hc, hb1⟩
  have hy : ∀ fr, Bys (w1.alloc (.cells #[.int .u8 97, .int .u8 98, .int .u8 99] 5 fr)) (.slice (some ⟨w1.heap.size, 0, none⟩) 3 3) [97, 98, 99] := fun fr =>
    ⟨_, 3, rfl, Nat.le_refl _, by decide, fun _ => ⟨w1.heap.size, 0, rfl, fun i u hu => by
      rw [Nat.zero_add, World.cell?_alloc_mark w1 #[.int .u8 97, .int .u8 98, .int .u8 99] 5 fr i]
      match i with
      | 0 => simp at hu; subst hu; rfl
      | 1 => simp at hu; subst hu; rfl
      | 2 => simp at hu; subst hu; rfl
      | i + 3 => simp at hu⟩⟩
  have Hy := Lib.hid hy
  clear hy
  go_wp2_with fail
  refine (encode_calls b _ [97, 98, 99] 1 3 _ (hc.below ((Below.refl _ _).alloc (Nat.le_refl _) _)) (Hy.out _) (by decide) (by decide) (by decide) (by decide)).mono ?_
  rintro e w2 ⟨X, ids, rfl, hO, hb2⟩
  clear kc
  have c1 := hO.ptr 2 (by decide)
  have hpn : pieceN [97, 98, 99] 1 = 3 := by rw [piece_one]; rfl
  rw [hpn] at c1 hO
  have hcs : (convert 31 9 (.slice (some ⟨ids 2, 0, none⟩) 3 3)).run Try.prog w2 = .ok (.string ⟨#[97, 98, 99]⟩) w2 :=
    (run_convert_bytes_arg w2 31 5 Try.underlying31 Try.underlying5 (ids 2) 0 3 3 [97, 98, 99] rfl (fun i hi => by
      rw [Nat.zero_add, hO.cell 2 i (by decide) hi, share_one, abc_get]
      match i, hi with
      | 0, _ => rfl
      | 1, _ => rfl
      | 2, _ => rfl) 9 Try.underlying9).trans (by rfl)
  clear hpn
  go_wp2
  go_ret
  exact ⟨rfl, (Aft.trans hb1 ((Below.refl _ _).alloc (Nat.le_refl _) _)).trans hb2⟩
end Go.Proofs.Ytdciakbichgddaa
