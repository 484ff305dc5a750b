/- Walks of Pad, the code's and the document's own. -/
import Derived.Test.YtdciakbichgddaaRsMath
import Derived.Test.YtdciakbichgddaaMatRef
namespace Go.Proofs.Ytdciakbichgddaa
open Go Go.RowKit Go.Mem Gf

/-- how long a slice is -/
def lenOf (v : Value) : Nat := match v with
  | .slice _ n _ => n
  | _ => 0
theorem zeros_snoc (bs : List UInt8) (j : Nat) : bs ++ List.replicate (j + 1) 0 = (bs ++ List.replicate j 0) ++ [0] := by
  rw [List.replicate_succ', List.append_assoc]

set_option maxRecDepth 20000 in
set_option maxHeartbeats 1000000 in
theorem pad_calls (v : Value) (bs : List UInt8) (k : Nat) (w : World) (h : Bys w v bs) (hl : bs.length ≤ 1000000) (hk : 1 ≤ k) (hk2 : k ≤ 4096) (i : Int) (hi : i = k ∨ (i < 1 ∧ k = 1)) :
    Calls Try.prog 65 #[v, .int .i64 i] w fun e w' => ∃ v', e = .returned v' ∧ OwnB 5 w' w.heap.size v' (padL bs k) ∧ Below w.heap.size w w' := by
  obtain ⟨p1, p2, p3⟩ := padN_facts bs.length k hk
  have hpn := fun x => padN_not bs.length k x hk
  have hrep : padL bs k = bs ++ List.replicate (padN bs.length k - bs.length) 0 := rfl
  generalize padN bs.length k = N at *
  have hmax : (if i < 1 then (1 : Int) else i) = (k : Int) := by split <;> omega
  have hmax2 : (if (1 : Int) < i then i else (1 : Int)) = (k : Int) := by split <;> omega
  have hmax3 : (if 1 ≤ i then i else (1 : Int)) = (k : Int) := by split <;> omega
  have Hpn := Lib.hid hpn; have P3 := Lib.hid p3; have Hrep := Lib.hid hrep
  clear hpn p3 hrep hi
  go_enter Try.func65, Try.ntmps65
  go_wp2_with (at_builtin; refine app_bytes E8 rfl _ _ rfl (base := w.heap.size) (v := .slice none 0 0) (bs := []) (news := bs) rfl rfl (OwnB.nil _ _ _) h (by simp; omega) (Nat.le_refl _) ?_)
  intro v1 w1 hown hg
  have hb1 : Below w.heap.size w w1 := grown_none hg rfl
  clear hmax hmax2 hmax3 hg
  go_wp2_with fail
  go_loopw [5] (fun o wr => ∃ j : Nat, bs.length + j ≤ N ∧ OwnB 5 wr w.heap.size o (bs ++ List.replicate j 0) ∧ Below w.heap.size w wr) (fun o _ => N - lenOf o)
  case atStart => exact ⟨0, by omega, by simpa using hown, hb1⟩
  case round =>
    clear hown hb1
    obtain ⟨j, hj, hown, hbel⟩ := hrel
    have hs := hbel.size
    obtain ⟨ra, rc, e7⟩ := hown.eq_slice
    obtain ⟨x, hx⟩ : ∃ x, x = bs.length + j := ⟨_, rfl⟩
    have hxl : (bs ++ List.replicate j (0 : UInt8)).length = x := by simp; omega
    rw [hxl] at e7
    subst e7
    have Hx := Lib.hid hx
    by_cases h0 : x < N
    · have hne := Hpn.out x (by omega) h0
      have t1 : ((x : Int) % (k : Int) != 0) = true := by
        have : (x : Int) % (k : Int) = ((x % k : Nat) : Int) := by simp
        rw [this]; simp; omega
      clear hx hne
      have hu : ((0 : UInt8).toNat : Int) = 0 := rfl
      go_wp2_with (at_builtin; refine app_byte E8 rfl _ _ rfl (0 : UInt8) rfl rfl ?c1 hown ?c2 ?c3 ?_)
      case c1 => rfl
      case c2 => rw [hxl]; omega
      case c3 => exact hs
      intro v' w3 hown' hgrow
      go_wp2_with fail
      have hown2 : OwnB 5 w3 w.heap.size v' (bs ++ List.replicate (j + 1) 0) := by rw [zeros_snoc, List.append_assoc]; exact hown'
      obtain ⟨rb, rd, e8⟩ := hown2.eq_slice
      refine ⟨⟨j + 1, by have := Hx.out; omega, hown2, Below.grown hbel hgrow hs (fun b hb => (hown.lt b hb).1)⟩, ?_⟩
      rw [e8]
      have := Hx.out
      simp [lenOf]; omega
    · obtain rfl : x = N := by have := Hx.out; omega
      have t1 : ((x : Int) % (k : Int) != 0) = false := by
        have : (x : Int) % (k : Int) = ((x % k : Nat) : Int) := by simp
        rw [this, P3.out]; simp
      have he : Hid (padL bs k = bs ++ List.replicate j 0) := by
        have := Hrep.out
        show _ = _
        rw [this]; congr 2; omega
      clear hx
      go_wp2
      go_ret
      exact ⟨_, rfl, by rw [he.out]; exact hown, hbel⟩

set_option maxRecDepth 20000 in
set_option maxHeartbeats 1000000 in
theorem rpad_calls (v : Value) (bs : List UInt8) (k : Nat) (w : World) (h : Bys w v bs) (hl : bs.length ≤ 1000000) (hk : 1 ≤ k) (hk2 : k ≤ 4096) (i : Int) (hi : i = k ∨ (i < 1 ∧ k = 1)) :
    Calls Try.prog 66 #[v, .int .i64 i] w fun e w' => ∃ v', e = .returned v' ∧ OwnB 5 w' w.heap.size v' (padL bs k) ∧ Below w.heap.size w w' := by
  obtain ⟨p1, p2, p3⟩ := padN_facts bs.length k hk
  have hpn := fun x => padN_not bs.length k x hk
  have hrep : padL bs k = bs ++ List.replicate (padN bs.length k - bs.length) 0 := rfl
  generalize padN bs.length k = N at *
  have hmax : (if i < 1 then (1 : Int) else i) = (k : Int) := by split <;> omega
  have hmax2 : (if (1 : Int) < i then i else (1 : Int)) = (k : Int) := by split <;> omega
  have hmax3 : (if 1 ≤ i then i else (1 : Int)) = (k : Int) := by split <;> omega
  have Hpn := Lib.hid hpn; have P3 := Lib.hid p3; have Hrep := Lib.hid hrep
  clear hpn p3 hrep hi
  go_enter Try.func66, Try.ntmps66
  go_wp2_with (at_builtin; refine app_bytes E8 rfl _ _ rfl (base := w.heap.size) (v := .slice none 0 0) (bs := []) (news := bs) rfl rfl (OwnB.nil _ _ _) h (by simp; omega) (Nat.le_refl _) ?_)
  intro v1 w1 hown hg
  have hb1 : Below w.heap.size w w1 := grown_none hg rfl
  clear hmax hmax2 hmax3 hg
  go_wp2_with fail
  go_loopw [5] (fun o wr => ∃ j : Nat, bs.length + j ≤ N ∧ OwnB 5 wr w.heap.size o (bs ++ List.replicate j 0) ∧ Below w.heap.size w wr) (fun o _ => N - lenOf o)
  case atStart => exact ⟨0, by omega, by simpa using hown, hb1⟩
  case round =>
    clear hown hb1
    obtain ⟨j, hj, hown, hbel⟩ := hrel
    have hs := hbel.size
    obtain ⟨ra, rc, e7⟩ := hown.eq_slice
    obtain ⟨x, hx⟩ : ∃ x, x = bs.length + j := ⟨_, rfl⟩
    have hxl : (bs ++ List.replicate j (0 : UInt8)).length = x := by simp; omega
    rw [hxl] at e7
    subst e7
    have Hx := Lib.hid hx
    by_cases h0 : x < N
    · have hne := Hpn.out x (by omega) h0
      have t1 : ((x : Int) % (k : Int) != 0) = true := by
        have : (x : Int) % (k : Int) = ((x % k : Nat) : Int) := by simp
        rw [this]; simp; omega
      clear hx hne
      have hu : ((0 : UInt8).toNat : Int) = 0 := rfl
      go_wp2_with (at_builtin; refine app_byte E8 rfl _ _ rfl (0 : UInt8) rfl rfl ?c1 hown ?c2 ?c3 ?_)
      case c1 => rfl
      case c2 => rw [hxl]; omega
      case c3 => exact hs
      intro v' w3 hown' hgrow
      go_wp2_with fail
      have hown2 : OwnB 5 w3 w.heap.size v' (bs ++ List.replicate (j + 1) 0) := by rw [zeros_snoc, List.append_assoc]; exact hown'
      obtain ⟨rb, rd, e8⟩ := hown2.eq_slice
      refine ⟨⟨j + 1, by have := Hx.out; omega, hown2, Below.grown hbel hgrow hs (fun b hb => (hown.lt b hb).1)⟩, ?_⟩
      rw [e8]
      have := Hx.out
      simp [lenOf]; omega
    · obtain rfl : x = N := by have := Hx.out; omega
      have t1 : ((x : Int) % (k : Int) != 0) = false := by
        have : (x : Int) % (k : Int) = ((x % k : Nat) : Int) := by simp
        rw [this, P3.out]; simp
      have he : Hid (padL bs k = bs ++ List.replicate j 0) := by
        have := Hrep.out
        show _ = _
        rw [this]; congr 2; omega
      clear hx
      go_wp2
      go_ret
      exact ⟨_, rfl, by rw [he.out]; exact hown, hbel⟩
end Go.Proofs.Ytdciakbichgddaa
