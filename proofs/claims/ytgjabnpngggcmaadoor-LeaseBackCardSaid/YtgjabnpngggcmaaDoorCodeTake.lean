/- The walk of TakeNet: the row that stands at the beginning. -/
import Derived.Test.YtgjabnpngggcmaaDoorCode
namespace Go.Proofs.YtgjabnpngggcmaaDoor
open Go Go.RowKit Go.Mem Gf
attribute [local go_sem ↓] Go.wp_at_zero Go.wp_at_succ
theorem takeNet_none {bs : List UInt8} (h : Cod.takeNet bs = none) : ((Cod.size bs).2 = 0) ∨ (1 < (Cod.size bs).2 ∧ bs.getD 0 0 = 48) ∨ (1 ≤ (Cod.size bs).2 ∧ ¬ (1 < (Cod.size bs).2 ∧ bs.getD 0 0 = 48) ∧ (16384 < (Cod.size bs).1 ∨ ((Cod.size bs).1 ≤ 16384 ∧
    (bs.length < (Cod.size bs).2 + (Cod.size bs).1 + 2 ∨ ((Cod.size bs).2 + (Cod.size bs).1 + 2 ≤ bs.length ∧ (bs.getD (Cod.size bs).2 0 ≠ 58 ∨ (bs.getD (Cod.size bs).2 0 = 58 ∧ bs.getD ((Cod.size bs).2 + 1 + (Cod.size bs).1) 0 ≠ 44))))))) := by
  generalize hd : (Cod.size bs).2 = d at *
  generalize hn : (Cod.size bs).1 = n at *
  unfold Cod.takeNet Cod.bad1 Cod.bad2 at h
  rw [hd, hn] at h
  by_cases h0 : d = 0
  · exact .inl h0
  by_cases h1 : 1 < d ∧ bs.getD 0 0 = 48
  · exact .inr (.inl h1)
  refine .inr (.inr ⟨by omega, h1, ?_⟩)
  by_cases h2 : 16384 < n
  · exact .inl h2
  refine .inr ⟨by omega, ?_⟩
  by_cases h3 : bs.length < d + n + 2
  · exact .inl h3
  refine .inr ⟨by omega, ?_⟩
  by_cases h4 : bs.getD d 0 = 58
  · by_cases h5 : bs.getD (d + 1 + n) 0 = 44
    · exfalso
      have e1 : (d == 0 || decide (1 < d) && bs.getD 0 0 == 48 || decide (16384 < n)) = false := by
        have : ¬ (1 < d ∧ (bs.getD 0 0 == 48) = true) := fun ⟨a, b⟩ => h1 ⟨a, by simpa using b⟩
        by_cases hd1 : 1 < d
        · have : (bs.getD 0 0 == 48) = false := by
            rcases hb : (bs.getD 0 0 == 48) with _ | _
            · rfl
            · exact absurd ⟨hd1, hb⟩ this
          rw [this]; simp; omega
        · simp; omega
      rw [e1, h4, h5] at h
      simp [h3] at h
    · exact .inr ⟨h4, h5⟩
  · exact .inl h4
theorem takeNet_some {bs x y : List UInt8} (h : Cod.takeNet bs = some (x, y)) : 1 ≤ (Cod.size bs).2 ∧ ¬ (1 < (Cod.size bs).2 ∧ bs.getD 0 0 = 48) ∧ (Cod.size bs).1 ≤ 16384 ∧ (Cod.size bs).2 + (Cod.size bs).1 + 2 ≤ bs.length ∧ bs.getD (Cod.size bs).2 0 = 58 ∧ bs.getD ((Cod.size bs).2 + 1 + (Cod.size bs).1) 0 = 44 ∧
    x = (bs.drop ((Cod.size bs).2 + 1)).take (Cod.size bs).1 ∧ y = bs.drop ((Cod.size bs).2 + (Cod.size bs).1 + 2) := by
  generalize hd : (Cod.size bs).2 = d at *
  generalize hn : (Cod.size bs).1 = n at *
  unfold Cod.takeNet Cod.bad1 Cod.bad2 at h
  rw [hd, hn] at h
  split at h
  · cases h
  rename_i h1
  split at h
  · cases h
  rename_i h2
  simp only [Option.some.injEq, Prod.mk.injEq] at h
  simp only [Bool.or_eq_true, beq_iff_eq, Bool.and_eq_true, decide_eq_true_eq, not_or, bne_iff_ne, ne_eq, Decidable.not_not] at h1 h2
  exact ⟨by omega, h1.1.2, by omega, by omega, h2.1.2, h2.2, h.1.symm, h.2.symm⟩
theorem Bys.byte {w : World} {a : Option Addr} {n c : Nat} {bs : List UInt8} (h : Bys w (.slice a n c) bs) (k : Nat) (hk : k < bs.length) :
    ∃ b o, a = some ⟨b, o, none⟩ ∧ w.cell? ⟨b, o + k, none⟩ = some (.int .u8 ((bs.getD k 0).toNat : Nat)) := by
  obtain ⟨b, o, u, e, hu, hc, _⟩ := h.at k hk
  have hu := hu.out
  exact ⟨b, o, e, by rw [hc, List.getD_eq_getElem?_getD, hu]; rfl⟩
theorem eq_u8 {u : UInt8} {k : Nat} (_hk : k < 256) (h : u ≠ UInt8.ofNat k) : (((u.toNat : Nat) : Int) == (k : Int)) = false := by
  have : u.toNat ≠ k := fun e => h (by rw [← e]; simp)
  simp; omega
theorem neq_u8 {u : UInt8} {k : Nat} (_hk : k < 256) (h : u ≠ UInt8.ofNat k) : (((u.toNat : Nat) : Int) != (k : Int)) = true := by
  have : u.toNat ≠ k := fun e => h (by rw [← e]; simp)
  simp; omega
set_option maxRecDepth 20000 in
set_option maxHeartbeats 1000000 in
theorem takeNet_bad (v : Value) (bs : List UInt8) (w : World) (h : Bys w v bs) (hrl : bs.length ≤ 1000000000000) (ht : Cod.takeNet bs = none) :
    Calls Tryd.prog 24 #[v] w fun e w' => e = .returned (.tuple #[.slice none 0 0, .slice none 0 0, .bool false]) ∧ w = w' := by

  obtain ⟨a, c, rfl⟩ := h.eq_slice
  have hsz := Cod.size_le bs
  have hB := takeNet_none ht
  clear ht
  have hS := size_calls _ bs w h
  obtain ⟨d, hd⟩ : ∃ d, d = (Cod.size bs).2 := ⟨_, rfl⟩
  obtain ⟨n, hn⟩ : ∃ n, n = (Cod.size bs).1 := ⟨_, rfl⟩
  rw [← hd, ← hn] at hsz hB hS
  clear hd hn
  obtain ⟨hsz1, hsz2⟩ := hsz
  have HS := Lib.hid hS
  clear hS
  have hby := fun k hk => Bys.byte h (k := k) hk
  clear h
  have HB := Lib.hid hby
  clear hby
  obtain ⟨l, hl'⟩ : ∃ l, l = bs.length := ⟨_, rfl⟩
  rw [← hl'] at hrl HS hsz2 hB ⊢
  have Hl := Lib.hid hl'
  clear hl'
  rcases hB with hB | ⟨h1, h2⟩ | ⟨h1, h2, hB⟩
  · subst hB
    go_enter Tryd.func24, Tryd.ntmps24
    go_wp2_with fail
    refine HS.out.mono ?_
    rintro e w1 ⟨rfl, rfl⟩
    go_wp2
    go_ret3
    exact ⟨rfl, rfl⟩
  · obtain ⟨b, o, rfl, c0⟩ := HB.out 0 (by have := Hl.out; omega)
    rw [h2] at c0
    have c0 : w.cell? ⟨b, o, none⟩ = some (.int .u8 48) := c0
    have t0 : ((d : Int) == 0) = false := by simp; omega
    have t1 : decide ((1 : Int) < (d : Int)) = true := by simp; omega
    have i1 : (0 : Int) < (l : Int) := by omega
    have i2 : 0 < l := by omega
    clear h2
    go_enter Tryd.func24, Tryd.ntmps24
    go_wp2_with fail
    refine HS.out.mono ?_
    rintro e w1 ⟨rfl, rfl⟩
    go_wp2
    go_ret3
    exact ⟨rfl, rfl⟩
  · obtain ⟨b, o, rfl, c0⟩ := HB.out 0 (by have := Hl.out; omega)
    have i1 : (0 : Int) < (l : Int) := by omega --x
    have i2 : 0 < l := by omega
    have c0 : w.cell? ⟨b, o, none⟩ = some (.int .u8 ((bs.getD 0 0).toNat : Nat)) := c0
    have t0 : ((d : Int) == 0) = false := by simp; omega
    obtain ⟨u0, hu0⟩ : ∃ u0, u0 = bs.getD 0 0 := ⟨_, rfl⟩
    rw [← hu0] at c0 h2
    have HB' := Lib.hid (fun (k : Nat) (hk : k < l) => (show w.cell? ⟨b, o + k, none⟩ = some (.int .u8 ((bs.getD k 0).toNat : Nat)) from by
      obtain ⟨b', o', e, hc⟩ := HB.out k (by have := Hl.out; omega)
      cases e; exact hc))
    clear HB hu0
    rcases (show d ≤ 1 ∨ (1 < d ∧ u0 ≠ 48) from by
      rcases Nat.lt_or_ge 1 d with h | h
      · exact .inr ⟨h, fun e => h2 ⟨h, e⟩⟩
      · exact .inl (by omega)) with hd | ⟨hd, hu⟩
    · have t1 : decide ((1 : Int) < (d : Int)) = false := by simp; omega
      clear h2 hd
      rcases hB with hB | ⟨h3, hB | ⟨h4, hB | ⟨h5, hB⟩⟩⟩
      · have t2 : decide ((16384 : Int) < (n : Int)) = true := by simp; omega
        go_enter Tryd.func24, Tryd.ntmps24
        go_wp2_with fail
        refine HS.out.mono ?_
        rintro e w1 ⟨rfl, rfl⟩
        go_wp2
        go_ret3
        exact ⟨rfl, rfl⟩
      · have t2 : decide ((16384 : Int) < (n : Int)) = false := by simp; omega
        have t3 : decide ((l : Int) < (d : Int) + (n : Int) + 2) = true := by simp; omega
        have t6 : (l : Int) < (d : Int) + (n : Int) + 2 := by omega
        go_enter Tryd.func24, Tryd.ntmps24
        go_wp2_with fail
        refine HS.out.mono ?_
        rintro e w1 ⟨rfl, rfl⟩
        go_wp2
        go_ret3
        exact ⟨rfl, rfl⟩
      · have t2 : decide ((16384 : Int) < (n : Int)) = false := by simp; omega
        have t3 : decide ((l : Int) < (d : Int) + (n : Int) + 2) = false := by simp; omega
        have c1 := HB'.out d (by omega)
        obtain ⟨u1, hu1⟩ : ∃ u1, u1 = bs.getD d 0 := ⟨_, rfl⟩
        rw [← hu1] at c1 hB
        have t4 : (((u1.toNat : Nat) : Int) != 58) = true := neq_u8 (k := 58) (by decide) hB
        have i3 : (d : Int) < (l : Int) := by omega
        have i4 : d < l := by omega
        clear hu1 hB
        go_enter Tryd.func24, Tryd.ntmps24
        go_wp2_with fail
        refine HS.out.mono ?_
        rintro e w1 ⟨rfl, rfl⟩
        go_wp2
        go_ret3
        exact ⟨rfl, rfl⟩
      · have t2 : decide ((16384 : Int) < (n : Int)) = false := by simp; omega
        have t3 : decide ((l : Int) < (d : Int) + (n : Int) + 2) = false := by simp; omega
        have c1 := HB'.out d (by omega)
        rw [h5] at c1
        have c1 : w.cell? ⟨b, o + d, none⟩ = some (.int .u8 58) := c1
        have c2 := HB'.out (d + 1 + n) (by omega)
        obtain ⟨u1, hu1⟩ : ∃ u1, u1 = bs.getD (d + 1 + n) 0 := ⟨_, rfl⟩
        rw [← hu1] at c2 hB
        have t4 : (((u1.toNat : Nat) : Int) != 44) = true := neq_u8 (k := 44) (by decide) hB
        have i3 : (d : Int) < (l : Int) := by omega
        have i4 : d < l := by omega
        have i5 : (d : Int) + 1 + (n : Int) < (l : Int) := by omega
        have i6 : (0 : Int) ≤ (d : Int) + 1 + (n : Int) := by omega
        have q1 : ((d : Int) + 1 + (n : Int)).toNat = d + 1 + n := by omega
        clear hu1 hB h5
        go_enter Tryd.func24, Tryd.ntmps24
        go_wp2_with fail
        refine HS.out.mono ?_
        rintro e w1 ⟨rfl, rfl⟩
        go_wp2
        go_ret3
        exact ⟨rfl, rfl⟩
    · have t1 : decide ((1 : Int) < (d : Int)) = true := by simp; omega
      have t5 : (((u0.toNat : Nat) : Int) == 48) = false := eq_u8 (k := 48) (by decide) hu
      clear h2 hu
      rcases hB with hB | ⟨h3, hB | ⟨h4, hB | ⟨h5, hB⟩⟩⟩
      · have t2 : decide ((16384 : Int) < (n : Int)) = true := by simp; omega
        go_enter Tryd.func24, Tryd.ntmps24
        go_wp2_with fail
        refine HS.out.mono ?_
        rintro e w1 ⟨rfl, rfl⟩
        go_wp2
        go_ret3
        exact ⟨rfl, rfl⟩
      · have t2 : decide ((16384 : Int) < (n : Int)) = false := by simp; omega
        have t3 : decide ((l : Int) < (d : Int) + (n : Int) + 2) = true := by simp; omega
        have t6 : (l : Int) < (d : Int) + (n : Int) + 2 := by omega
        go_enter Tryd.func24, Tryd.ntmps24
        go_wp2_with fail
        refine HS.out.mono ?_
        rintro e w1 ⟨rfl, rfl⟩
        go_wp2
        go_ret3
        exact ⟨rfl, rfl⟩
      · have t2 : decide ((16384 : Int) < (n : Int)) = false := by simp; omega
        have t3 : decide ((l : Int) < (d : Int) + (n : Int) + 2) = false := by simp; omega
        have c1 := HB'.out d (by omega)
        obtain ⟨u1, hu1⟩ : ∃ u1, u1 = bs.getD d 0 := ⟨_, rfl⟩
        rw [← hu1] at c1 hB
        have t4 : (((u1.toNat : Nat) : Int) != 58) = true := neq_u8 (k := 58) (by decide) hB
        have i3 : (d : Int) < (l : Int) := by omega
        have i4 : d < l := by omega
        clear hu1 hB
        go_enter Tryd.func24, Tryd.ntmps24
        go_wp2_with fail
        refine HS.out.mono ?_
        rintro e w1 ⟨rfl, rfl⟩
        go_wp2
        go_ret3
        exact ⟨rfl, rfl⟩
      · have t2 : decide ((16384 : Int) < (n : Int)) = false := by simp; omega
        have t3 : decide ((l : Int) < (d : Int) + (n : Int) + 2) = false := by simp; omega
        have c1 := HB'.out d (by omega)
        rw [h5] at c1
        have c1 : w.cell? ⟨b, o + d, none⟩ = some (.int .u8 58) := c1
        have c2 := HB'.out (d + 1 + n) (by omega)
        obtain ⟨u1, hu1⟩ : ∃ u1, u1 = bs.getD (d + 1 + n) 0 := ⟨_, rfl⟩
        rw [← hu1] at c2 hB
        have t4 : (((u1.toNat : Nat) : Int) != 44) = true := neq_u8 (k := 44) (by decide) hB
        have i3 : (d : Int) < (l : Int) := by omega
        have i4 : d < l := by omega
        have i5 : (d : Int) + 1 + (n : Int) < (l : Int) := by omega
        have i6 : (0 : Int) ≤ (d : Int) + 1 + (n : Int) := by omega
        have q1 : ((d : Int) + 1 + (n : Int)).toNat = d + 1 + n := by omega
        clear hu1 hB h5
        go_enter Tryd.func24, Tryd.ntmps24
        go_wp2_with fail
        refine HS.out.mono ?_
        rintro e w1 ⟨rfl, rfl⟩
        go_wp2
        go_ret3
        exact ⟨rfl, rfl⟩
set_option maxRecDepth 20000 in
set_option maxHeartbeats 1000000 in
theorem takeNet_ok (v : Value) (bs x y : List UInt8) (w : World) (h : Bys w v bs) (hrl : bs.length ≤ 1000000000000) (ht : Cod.takeNet bs = some (x, y)) :
    Calls Tryd.prog 24 #[v] w fun e w' => ∃ vx vy, e = .returned (.tuple #[vx, vy, .bool true]) ∧ OwnX 5 w' w.heap.size vx x ∧ OwnX 5 w' w.heap.size vy y ∧ Below w.heap.size w w' := by
  obtain ⟨a, c, rfl⟩ := h.eq_slice
  have hsz := Cod.size_le bs
  obtain ⟨h1, h2, h3, h4, h5, h6, hx, hy⟩ := takeNet_some ht
  clear ht
  have hS := size_calls _ bs w h
  obtain ⟨d, hd⟩ : ∃ d, d = (Cod.size bs).2 := ⟨_, rfl⟩
  obtain ⟨n, hn⟩ : ∃ n, n = (Cod.size bs).1 := ⟨_, rfl⟩
  rw [← hd] at hsz h1 h2 h4 h5 h6 hx hy hS
  rw [← hn] at hsz h3 h4 h6 hx hy hS
  clear hd hn
  obtain ⟨hsz1, hsz2⟩ := hsz
  have HS := Lib.hid hS
  clear hS
  obtain ⟨b, o, rfl, c0⟩ := Bys.byte h 0 (by omega)
  have hcap : bs.length ≤ c ∧ c ≤ maxLen := by
    obtain ⟨_, _, e, k1, k2, _⟩ := id h
    injection e with e1 e2 e3
    subst e3
    exact ⟨k1, k2⟩
  have hm2 : c ≤ 9223372036854775807 := by unfold maxLen at hcap; omega
  have hX : Bys w (.slice (some ⟨b, o + (d + 1), none⟩) n (c - (d + 1))) x := by rw [hx]; exact bys_drop h (d + 1) n _ (by omega) (by omega) (by omega)
  have hY : Bys w (.slice (if c = d + n + 2 then some ⟨b, o, none⟩ else some ⟨b, o + (d + n + 2), none⟩) (bs.length - (d + n + 2)) (c - (d + n + 2))) y := by
    rw [hy]
    split
    · have e : bs.length = d + n + 2 := by omega
      rw [List.drop_eq_nil_of_le (by omega), e, Nat.sub_self]
      exact ⟨some ⟨b, o, none⟩, c - (d + n + 2), rfl, Nat.zero_le _, by omega, fun h => by simp at h⟩
    · have := bys_drop h (d + n + 2) (bs.length - (d + n + 2)) (c - (d + n + 2)) (by omega) (by omega) (by omega)
      rwa [List.take_of_length_le (by simp)] at this
  have hxl : x.length = n := by rw [hx]; simp; omega
  have hyl : y.length ≤ bs.length := by rw [hy]; simp
  have c1 : w.cell? ⟨b, o + d, none⟩ = some (.int .u8 58) := by
    obtain ⟨b', o', e, hc⟩ := Bys.byte h d (by omega)
    cases e; rw [hc, h5]; rfl
  have c2 : w.cell? ⟨b, o + (d + 1 + n), none⟩ = some (.int .u8 44) := by
    obtain ⟨b', o', e, hc⟩ := Bys.byte h (d + 1 + n) (by omega)
    cases e; rw [hc, h6]; rfl
  have c0 : w.cell? ⟨b, o, none⟩ = some (.int .u8 ((bs.getD 0 0).toNat : Nat)) := c0
  obtain ⟨u0, hu0⟩ : ∃ u0, u0 = bs.getD 0 0 := ⟨_, rfl⟩
  rw [← hu0] at c0 h2
  obtain ⟨l, hl'⟩ : ∃ l, l = bs.length := ⟨_, rfl⟩
  rw [← hl'] at hrl HS hsz2 h4 hcap hY hyl ⊢
  have Hxl := Lib.hid hxl
  obtain ⟨hc1, hc2⟩ := hcap
  have Hc2 := Lib.hid hc2
  clear hl' h hu0 hx hy h5 h6 hxl hc2
  have t0 : ((d : Int) == 0) = false := by simp; omega
  have t2 : decide ((16384 : Int) < (n : Int)) = false := by simp; omega
  have t3 : decide ((l : Int) < (d : Int) + (n : Int) + 2) = false := by simp; omega
  have i1 : (0 : Int) < (l : Int) := by omega
  have i2 : 0 < l := by omega
  have i3 : (d : Int) < (l : Int) := by omega
  have i4 : d < l := by omega
  have i5 : (d : Int) + 1 + (n : Int) < (l : Int) := by omega
  have i6 : (0 : Int) ≤ (d : Int) + 1 + (n : Int) := by omega
  have i7 : (d : Int) + 1 + (n : Int) ≤ (c : Int) := by omega
  have i8 : (d : Int) + (n : Int) + 2 ≤ (l : Int) := by omega
  have i9 : (d : Int) + 1 ≤ (d : Int) + 1 + (n : Int) := by omega
  have i10 : ¬ (c = d + 1) := by omega
  have q1 : ((d : Int) + 1 + (n : Int)).toNat = d + 1 + n := by omega
  rcases (show d ≤ 1 ∨ (1 < d ∧ u0 ≠ 48) from by
      rcases Nat.lt_or_ge 1 d with h | h
      · exact .inr ⟨h, fun e => h2 ⟨h, e⟩⟩
      · exact .inl (by omega)) with hd | ⟨hd, hu⟩
  · have t1 : decide ((1 : Int) < (d : Int)) = false := by simp; omega
    clear h2 hd
    go_enter Tryd.func24, Tryd.ntmps24
    go_wp2_with fail
    refine HS.out.mono ?_
    rintro e w1 ⟨rfl, rfl⟩
    go_wp2_with (at_builtin; refine appX E8c rfl _ _ rfl (base := w.heap.size) (bs := []) (news := x) rfl rfl (OwnX.nil _ _ _) hX ?q1 ?q2 ?_)
    case q1 => have := Hxl.out; simp; omega
    case q2 => exact Nat.le_refl _
    intro v2 w2 ho2 hg2
    have hb2 := grown_none hg2 rfl
    clear hg2 c0 c1 c2
    go_wp2_with (at_builtin; refine appX E8c rfl _ _ rfl (base := w.heap.size) (bs := []) (news := y) rfl rfl (OwnX.nil _ _ _) (hY.below hb2) ?q3 ?q4 ?_)
    case q3 => simp; omega
    case q4 => exact hb2.size
    all_goals
      intro v3 w3 ho3 hg3
      have hb3 := grown_none hg3 rfl
      clear hg3
      go_wp2
      go_ret3
      exact ⟨_, _, rfl, ho2.below hb3, ho3, hb2.trans (hb3.mono hb2.size)⟩
  · have t1 : decide ((1 : Int) < (d : Int)) = true := by simp; omega
    have t5 : (((u0.toNat : Nat) : Int) == 48) = false := eq_u8 (k := 48) (by decide) hu
    clear h2 hu
    go_enter Tryd.func24, Tryd.ntmps24
    go_wp2_with fail
    refine HS.out.mono ?_
    rintro e w1 ⟨rfl, rfl⟩
    go_wp2_with (at_builtin; refine appX E8c rfl _ _ rfl (base := w.heap.size) (bs := []) (news := x) rfl rfl (OwnX.nil _ _ _) hX ?q5 ?q6 ?_)
    case q5 => have := Hxl.out; simp; omega
    case q6 => exact Nat.le_refl _
    intro v2 w2 ho2 hg2
    have hb2 := grown_none hg2 rfl
    clear hg2 c0 c1 c2
    go_wp2_with (at_builtin; refine appX E8c rfl _ _ rfl (base := w.heap.size) (bs := []) (news := y) rfl rfl (OwnX.nil _ _ _) (hY.below hb2) ?q7 ?q8 ?_)
    case q7 => simp; omega
    case q8 => exact hb2.size
    all_goals
      intro v3 w3 ho3 hg3
      have hb3 := grown_none hg3 rfl
      clear hg3
      go_wp2
      go_ret3
      exact ⟨_, _, rfl, ho2.below hb3, ho3, hb2.trans (hb3.mono hb2.size)⟩
end Go.Proofs.YtgjabnpngggcmaaDoor
