/- The walk of Spoil, on bytes that a call has made. -/
import Derived.Test.YtofhbmdhenjmeaaBKeep
import Derived.Test.YtofhbmdhenjmeaaOwnF
namespace Go.Proofs.Ytofhbmdhenjmeaa
open Go Go.RowKit Go.Mem Gf
theorem byt_set {arr : Array Value} (h : Byt arr) (i : Nat) (u : UInt8) : Byt (arr.setIfInBounds i (.int .u8 (u.toNat : Int))) := fun j hj => by
  rw [Array.size_setIfInBounds] at hj
  rw [Array.getElem?_setIfInBounds]
  by_cases e : i = j
  · subst e; rw [if_pos rfl, if_pos hj]; exact ⟨u, rfl⟩
  · rw [if_neg e]; exact h j hj
theorem _root_.Go.Mem.OwnF.parts {w : World} {base : Nat} {v : Value} {bs : List UInt8} (h : OwnF 5 w base v bs) : v = .slice none 0 0 ∨ ∃ g cap arr, v = .slice (some ⟨g, 0, none⟩) bs.length cap ∧ base ≤ g ∧ bs.length ≤ cap ∧ cap ≤ maxLen ∧ Blk w g arr 5 ∧ arr.size = cap ∧ Byt arr := by
  obtain ⟨⟨_, h2⟩, h3⟩ := h
  rcases h2 with ⟨h2, _⟩ | ⟨g, cap, cur, rfl, hg, hh, hnc, hcm, hcs, _⟩
  · exact .inl h2
  · obtain ⟨arr, h4, h5⟩ := h3 g rfl
    have e : cur = arr := by
      have := (show Blk w g cur 5 from hh).symm.trans h4
      injection this with this
      injection this with this
    subst e
    exact .inr ⟨g, cap, cur, rfl, hg, hnc, hcm, hh, by omega, h5⟩
set_option maxRecDepth 20000 in
set_option maxHeartbeats 1000000 in
theorem spoilF_calls (base : Nat) (v : Value) (bs : List UInt8) (w : World) (h : OwnF 5 w base v bs) :
    Calls Try.prog 25 #[v] w fun e w' => e = .returned (.tuple #[]) ∧ Chg (fun b => v.ownBlock = some b) w w' := by
  rcases h.parts with rfl | ⟨g, cap, arr, rfl, hg, hlc, hcm, hB, hsz, hby⟩
  · go_enter Try.func25, Try.ntmps25
    go_wp2_with fail
    go_loopw [10] (fun v wr => v = .int .i64 0 ∧ w = wr) (fun v _ => 0)
    case atStart => exact ⟨rfl, rfl⟩
    case round =>
      obtain ⟨rfl, rfl⟩ := hrel
      go_wp2
      go_end0
      exact ⟨rfl, Chg.refl _ _⟩
  · have e0 : bs = bs := rfl
    clear e0
    have hcm : cap ≤ 9223372036854775807 := by unfold maxLen at hcm; omega
    clear h
    obtain ⟨l, hl⟩ : ∃ l, l = bs.length := ⟨_, rfl⟩
    rw [← hl] at hlc ⊢
    clear hl
    go_enter Try.func25, Try.ntmps25
    go_wp2_with fail
    go_loopw [10] (fun v wr => ∃ (i : Nat) (arr' : Array Value), i ≤ cap ∧ v = .int .i64 i ∧ Hid (Blk wr g arr' 5 ∧ arr'.size = cap ∧ Byt arr') ∧ Chg (fun b => some g = some b) w wr) (fun v _ => cap - (intOf v).toNat)
    case atStart => exact ⟨0, arr, by omega, rfl, ⟨hB, hsz, hby⟩, Chg.refl _ _⟩
    case round =>
      clear hB hsz
      obtain ⟨i, arr', hi, rfl, hx, hch⟩ := hrel
      by_cases h0 : i < cap
      · obtain ⟨u, hu⟩ := hx.out.2.2 i (by rw [hx.out.2.1]; exact h0)
        have c3 : wr.cell? ⟨g, i, none⟩ = some (.int .u8 (u.toNat : Int)) := by rw [hx.out.1.cell]; exact hu
        have f3 := hx.out.1.free i
        have hu8 := u_lt u
        have hxor := bits_xor_u8 u.toNat 119 hu8 (by decide)
        have hu2 : ((u.toNat ^^^ 119 : Nat) : Int) = ((u ^^^ 119).toNat : Int) := by rw [UInt8.toNat_xor]; rfl
        have hxor2 : bits .xor .u8 (u.toNat : Int) 119 = ((u ^^^ 119).toNat : Int) := by rw [← hu2]; exact hxor
        clear hxor hu2 hu
        go_wp2
        refine ⟨⟨i + 1, _, by omega, by go_num, ⟨hx.out.1.set i _, by rw [Array.size_setIfInBounds]; exact hx.out.2.1, ?_⟩, hch.set rfl _⟩, by simp [intOf]; omega⟩
        have := byt_set hx.out.2.2 i (u ^^^ 119)
        rw [UInt8.toNat_xor] at this
        exact this
      · obtain rfl : i = cap := by omega
        go_wp2
        go_end0
        exact ⟨rfl, by simpa [Value.ownBlock] using hch⟩
end Go.Proofs.Ytofhbmdhenjmeaa
