/- Texts of this proof, packed: CodeTake, Tail, StoreRead, StoreFree, AppK. -/
import Derived.Test.YtclhgokchcklbaaGreatDoorPk01
import Derived.StillTail
import Derived.Deep.Quiet
import Derived.Deep.QuietTactic
import Derived.Laws.BytesArg
import Derived.Test.YtclhgokchcklbaaGreatDoorPk00
import Derived.Deep.RegionLaw
section
namespace Go.Proofs.YtclhgokchcklbaaGreatDoor
open Go Go.RowKit Go.Mem Gf
attribute [local go_sem ↓] Go.wp_at_zero Go.wp_at_succ
theorem takeNet_none {bs : List UInt8} (h : Cod.takeNet bs = none) : ((Cod.size bs).2 = 0) ∨ (1 < (Cod.size bs).2 ∧ bs.getD 0 0 = 48) ∨ (1 ≤ (Cod.size bs).2 ∧ ¬ (1 < (Cod.size bs).2 ∧ bs.getD 0 0 = 48) ∧ (16384 < (Cod.size bs).1 ∨ ((Cod.size bs).1 ≤ 16384 ∧
    (bs.length < (Cod.size bs).2 + (Cod.size bs).1 + 2 ∨ ((Cod.size bs).2 + (Cod.size bs).1 + 2 ≤ bs.length ∧ (bs.getD (Cod.size bs).2 0 ≠ 58 ∨ (bs.getD (Cod.size bs).2 0 = 58 ∧ bs.getD ((Cod.size bs).2 + 1 + (Cod.size bs).1) 0 ≠ 44))))))) := by
  generalize hd : (Cod.size bs).2 = d at *
  generalize hn : (Cod.size bs).1 = n at *
  unfold Cod.takeNet Cod.bad1 Cod.bad2 at h
  rw [hd, hn] at h
  by_cases h0 : d = 0
  · exact .inl h0
  by_cases h1 : 1 < d ∧ bs.getD 0 0 = 48
  · exact .inr (.inl h1)
  refine .inr (.inr ⟨by omega, h1, ?_⟩)
  by_cases h2 : 16384 < n
  · exact .inl h2
  refine .inr ⟨by omega, ?_⟩
  by_cases h3 : bs.length < d + n + 2
  · exact .inl h3
  refine .inr ⟨by omega, ?_⟩
  by_cases h4 : bs.getD d 0 = 58
  · by_cases h5 : bs.getD (d + 1 + n) 0 = 44
    · exfalso
      have e1 : (d == 0 || decide (1 < d) && bs.getD 0 0 == 48 || decide (16384 < n)) = false := by
        have : ¬ (1 < d ∧ (bs.getD 0 0 == 48) = true) := fun ⟨a, b⟩ => h1 ⟨a, by simpa using b⟩
        by_cases hd1 : 1 < d
        · have : (bs.getD 0 0 == 48) = false := by
            rcases hb : (bs.getD 0 0 == 48) with _ | _
            · rfl
            · exact absurd ⟨hd1, hb⟩ this
          rw [this]; simp; omega
        · simp; omega
      rw [e1, h4, h5] at h
      simp [h3] at h
    · exact .inr ⟨h4, h5⟩
  · exact .inl h4
theorem takeNet_some {bs x y : List UInt8} (h : Cod.takeNet bs = some (x, y)) : 1 ≤ (Cod.size bs).2 ∧ ¬ (1 < (Cod.size bs).2 ∧ bs.getD 0 0 = 48) ∧ (Cod.size bs).1 ≤ 16384 ∧ (Cod.size bs).2 + (Cod.size bs).1 + 2 ≤ bs.length ∧ bs.getD (Cod.size bs).2 0 = 58 ∧ bs.getD ((Cod.size bs).2 + 1 + (Cod.size bs).1) 0 = 44 ∧
    x = (bs.drop ((Cod.size bs).2 + 1)).take (Cod.size bs).1 ∧ y = bs.drop ((Cod.size bs).2 + (Cod.size bs).1 + 2) := by
  generalize hd : (Cod.size bs).2 = d at *
  generalize hn : (Cod.size bs).1 = n at *
  unfold Cod.takeNet Cod.bad1 Cod.bad2 at h
  rw [hd, hn] at h
  split at h
  · cases h
  rename_i h1
  split at h
  · cases h
  rename_i h2
  simp only [Option.some.injEq, Prod.mk.injEq] at h
  simp only [Bool.or_eq_true, beq_iff_eq, Bool.and_eq_true, decide_eq_true_eq, not_or, bne_iff_ne, ne_eq, Decidable.not_not] at h1 h2
  exact ⟨by omega, h1.1.2, by omega, by omega, h2.1.2, h2.2, h.1.symm, h.2.symm⟩
theorem Bys.byte {w : World} {a : Option Addr} {n c : Nat} {bs : List UInt8} (h : Bys w (.slice a n c) bs) (k : Nat) (hk : k < bs.length) :
    ∃ b o, a = some ⟨b, o, none⟩ ∧ w.cell? ⟨b, o + k, none⟩ = some (.int .u8 ((bs.getD k 0).toNat : Nat)) := by
  obtain ⟨b, o, u, e, hu, hc, _⟩ := h.at k hk
  have hu := hu.out
  exact ⟨b, o, e, by rw [hc, List.getD_eq_getElem?_getD, hu]; rfl⟩
theorem eq_u8 {u : UInt8} {k : Nat} (_hk : k < 256) (h : u ≠ UInt8.ofNat k) : (((u.toNat : Nat) : Int) == (k : Int)) = false := by
  have : u.toNat ≠ k := fun e => h (by rw [← e]; simp)
  simp; omega
theorem neq_u8 {u : UInt8} {k : Nat} (_hk : k < 256) (h : u ≠ UInt8.ofNat k) : (((u.toNat : Nat) : Int) != (k : Int)) = true := by
  have : u.toNat ≠ k := fun e => h (by rw [← e]; simp)
  simp; omega
set_option maxRecDepth 20000 in
set_option maxHeartbeats 1000000 in
theorem takeNet_bad (v : Value) (bs : List UInt8) (w : World) (h : Bys w v bs) (hrl : bs.length ≤ 1000000000000) (ht : Cod.takeNet bs = none) :
    Calls Tryz.prog 133 #[v] w fun e w' => e = .returned (.tuple #[.slice none 0 0, .slice none 0 0, .bool false]) ∧ w = w' := by
  obtain ⟨a, c, rfl⟩ := h.eq_slice
  have hsz := Cod.size_le bs
  have hB := takeNet_none ht
  clear ht
  have hS := size_calls _ bs w h
  obtain ⟨d, hd⟩ : ∃ d, d = (Cod.size bs).2 := ⟨_, rfl⟩
  obtain ⟨n, hn⟩ : ∃ n, n = (Cod.size bs).1 := ⟨_, rfl⟩
  rw [← hd, ← hn] at hsz hB hS
  clear hd hn
  obtain ⟨hsz1, hsz2⟩ := hsz
  have HS := Lib.hid hS
  clear hS
  have hby := fun k hk => Bys.byte h (k := k) hk
  clear h
  have HB := Lib.hid hby
  clear hby
  obtain ⟨l, hl'⟩ : ∃ l, l = bs.length := ⟨_, rfl⟩
  rw [← hl'] at hrl HS hsz2 hB ⊢
  have Hl := Lib.hid hl'
  clear hl'
  rcases hB with hB | ⟨h1, h2⟩ | ⟨h1, h2, hB⟩
  · subst hB
    go_enter Tryz.func133, Tryz.ntmps133
    go_wp2_with fail
    refine HS.out.mono ?_
    rintro e w1 ⟨rfl, rfl⟩
    go_wp2
    go_ret3
    exact ⟨rfl, rfl⟩
  · obtain ⟨b, o, rfl, c0⟩ := HB.out 0 (by have := Hl.out; omega)
    rw [h2] at c0
    have c0 : w.cell? ⟨b, o, none⟩ = some (.int .u8 48) := c0
    have t0 : ((d : Int) == 0) = false := by simp; omega
    have t1 : decide ((1 : Int) < (d : Int)) = true := by simp; omega
    have i1 : (0 : Int) < (l : Int) := by omega
    have i2 : 0 < l := by omega
    clear h2
    go_enter Tryz.func133, Tryz.ntmps133
    go_wp2_with fail
    refine HS.out.mono ?_
    rintro e w1 ⟨rfl, rfl⟩
    go_wp2
    go_ret3
    exact ⟨rfl, rfl⟩
  · obtain ⟨b, o, rfl, c0⟩ := HB.out 0 (by have := Hl.out; omega)
    have i1 : (0 : Int) < (l : Int) := by omega --x
    have i2 : 0 < l := by omega
    have c0 : w.cell? ⟨b, o, none⟩ = some (.int .u8 ((bs.getD 0 0).toNat : Nat)) := c0
    have t0 : ((d : Int) == 0) = false := by simp; omega
    obtain ⟨u0, hu0⟩ : ∃ u0, u0 = bs.getD 0 0 := ⟨_, rfl⟩
    rw [← hu0] at c0 h2
    have HB' := Lib.hid (fun (k : Nat) (hk : k < l) => (show w.cell? ⟨b, o + k, none⟩ = some (.int .u8 ((bs.getD k 0).toNat : Nat)) from by
      obtain ⟨b', o', e, hc⟩ := HB.out k (by have := Hl.out; omega)
      cases e; exact hc))
    clear HB hu0
    rcases (show d ≤ 1 ∨ (1 < d ∧ u0 ≠ 48) from by
      rcases Nat.lt_or_ge 1 d with h | h
      · exact .inr ⟨h, fun e => h2 ⟨h, e⟩⟩
      · exact .inl (by omega)) with hd | ⟨hd, hu⟩
    · have t1 : decide ((1 : Int) < (d : Int)) = false := by simp; omega
      clear h2 hd
      rcases hB with hB | ⟨h3, hB | ⟨h4, hB | ⟨h5, hB⟩⟩⟩
      · have t2 : decide ((16384 : Int) < (n : Int)) = true := by simp; omega
        go_enter Tryz.func133, Tryz.ntmps133
        go_wp2_with fail
        refine HS.out.mono ?_
        rintro e w1 ⟨rfl, rfl⟩
        go_wp2
        go_ret3
        exact ⟨rfl, rfl⟩
      · have t2 : decide ((16384 : Int) < (n : Int)) = false := by simp; omega
        have t3 : decide ((l : Int) < (d : Int) + (n : Int) + 2) = true := by simp; omega
        have t6 : (l : Int) < (d : Int) + (n : Int) + 2 := by omega
        go_enter Tryz.func133, Tryz.ntmps133
        go_wp2_with fail
        refine HS.out.mono ?_
        rintro e w1 ⟨rfl, rfl⟩
        go_wp2
        go_ret3
        exact ⟨rfl, rfl⟩
      · have t2 : decide ((16384 : Int) < (n : Int)) = false := by simp; omega
        have t3 : decide ((l : Int) < (d : Int) + (n : Int) + 2) = false := by simp; omega
        have c1 := HB'.out d (by omega)
        obtain ⟨u1, hu1⟩ : ∃ u1, u1 = bs.getD d 0 := ⟨_, rfl⟩
        rw [← hu1] at c1 hB
        have t4 : (((u1.toNat : Nat) : Int) != 58) = true := neq_u8 (k := 58) (by decide) hB
        have i3 : (d : Int) < (l : Int) := by omega
        have i4 : d < l := by omega
        clear hu1 hB
        go_enter Tryz.func133, Tryz.ntmps133
        go_wp2_with fail
        refine HS.out.mono ?_
        rintro e w1 ⟨rfl, rfl⟩
        go_wp2
        go_ret3
        exact ⟨rfl, rfl⟩
      · have t2 : decide ((16384 : Int) < (n : Int)) = false := by simp; omega
        have t3 : decide ((l : Int) < (d : Int) + (n : Int) + 2) = false := by simp; omega
        have c1 := HB'.out d (by omega)
        rw [h5] at c1
        have c1 : w.cell? ⟨b, o + d, none⟩ = some (.int .u8 58) := c1
        have c2 := HB'.out (d + 1 + n) (by omega)
        obtain ⟨u1, hu1⟩ : ∃ u1, u1 = bs.getD (d + 1 + n) 0 := ⟨_, rfl⟩
        rw [← hu1] at c2 hB
        have t4 : (((u1.toNat : Nat) : Int) != 44) = true := neq_u8 (k := 44) (by decide) hB
        have i3 : (d : Int) < (l : Int) := by omega
        have i4 : d < l := by omega
        have i5 : (d : Int) + 1 + (n : Int) < (l : Int) := by omega
        have i6 : (0 : Int) ≤ (d : Int) + 1 + (n : Int) := by omega
        have q1 : ((d : Int) + 1 + (n : Int)).toNat = d + 1 + n := by omega
        clear hu1 hB h5
        go_enter Tryz.func133, Tryz.ntmps133
        go_wp2_with fail
        refine HS.out.mono ?_
        rintro e w1 ⟨rfl, rfl⟩
        go_wp2
        go_ret3
        exact ⟨rfl, rfl⟩
    · have t1 : decide ((1 : Int) < (d : Int)) = true := by simp; omega
      have t5 : (((u0.toNat : Nat) : Int) == 48) = false := eq_u8 (k := 48) (by decide) hu
      clear h2 hu
      rcases hB with hB | ⟨h3, hB | ⟨h4, hB | ⟨h5, hB⟩⟩⟩
      · have t2 : decide ((16384 : Int) < (n : Int)) = true := by simp; omega
        go_enter Tryz.func133, Tryz.ntmps133
        go_wp2_with fail
        refine HS.out.mono ?_
        rintro e w1 ⟨rfl, rfl⟩
        go_wp2
        go_ret3
        exact ⟨rfl, rfl⟩
      · have t2 : decide ((16384 : Int) < (n : Int)) = false := by simp; omega
        have t3 : decide ((l : Int) < (d : Int) + (n : Int) + 2) = true := by simp; omega
        have t6 : (l : Int) < (d : Int) + (n : Int) + 2 := by omega
        go_enter Tryz.func133, Tryz.ntmps133
        go_wp2_with fail
        refine HS.out.mono ?_
        rintro e w1 ⟨rfl, rfl⟩
        go_wp2
        go_ret3
        exact ⟨rfl, rfl⟩
      · have t2 : decide ((16384 : Int) < (n : Int)) = false := by simp; omega
        have t3 : decide ((l : Int) < (d : Int) + (n : Int) + 2) = false := by simp; omega
        have c1 := HB'.out d (by omega)
        obtain ⟨u1, hu1⟩ : ∃ u1, u1 = bs.getD d 0 := ⟨_, rfl⟩
        rw [← hu1] at c1 hB
        have t4 : (((u1.toNat : Nat) : Int) != 58) = true := neq_u8 (k := 58) (by decide) hB
        have i3 : (d : Int) < (l : Int) := by omega
        have i4 : d < l := by omega
        clear hu1 hB
        go_enter Tryz.func133, Tryz.ntmps133
        go_wp2_with fail
        refine HS.out.mono ?_
        rintro e w1 ⟨rfl, rfl⟩
        go_wp2
        go_ret3
        exact ⟨rfl, rfl⟩
      · have t2 : decide ((16384 : Int) < (n : Int)) = false := by simp; omega
        have t3 : decide ((l : Int) < (d : Int) + (n : Int) + 2) = false := by simp; omega
        have c1 := HB'.out d (by omega)
        rw [h5] at c1
        have c1 : w.cell? ⟨b, o + d, none⟩ = some (.int .u8 58) := c1
        have c2 := HB'.out (d + 1 + n) (by omega)
        obtain ⟨u1, hu1⟩ : ∃ u1, u1 = bs.getD (d + 1 + n) 0 := ⟨_, rfl⟩
        rw [← hu1] at c2 hB
        have t4 : (((u1.toNat : Nat) : Int) != 44) = true := neq_u8 (k := 44) (by decide) hB
        have i3 : (d : Int) < (l : Int) := by omega
        have i4 : d < l := by omega
        have i5 : (d : Int) + 1 + (n : Int) < (l : Int) := by omega
        have i6 : (0 : Int) ≤ (d : Int) + 1 + (n : Int) := by omega
        have q1 : ((d : Int) + 1 + (n : Int)).toNat = d + 1 + n := by omega
        clear hu1 hB h5
        go_enter Tryz.func133, Tryz.ntmps133
        go_wp2_with fail
        refine HS.out.mono ?_
        rintro e w1 ⟨rfl, rfl⟩
        go_wp2
        go_ret3
        exact ⟨rfl, rfl⟩
set_option maxRecDepth 20000 in
set_option maxHeartbeats 1000000 in
theorem takeNet_ok (v : Value) (bs x y : List UInt8) (w : World) (h : Bys w v bs) (hrl : bs.length ≤ 1000000000000) (ht : Cod.takeNet bs = some (x, y)) :
    Calls Tryz.prog 133 #[v] w fun e w' => ∃ vx vy, e = .returned (.tuple #[vx, vy, .bool true]) ∧ OwnX 5 w' w.heap.size vx x ∧ OwnX 5 w' w.heap.size vy y ∧ Below w.heap.size w w' := by
  obtain ⟨a, c, rfl⟩ := h.eq_slice
  have hsz := Cod.size_le bs
  obtain ⟨h1, h2, h3, h4, h5, h6, hx, hy⟩ := takeNet_some ht
  clear ht
  have hS := size_calls _ bs w h
  obtain ⟨d, hd⟩ : ∃ d, d = (Cod.size bs).2 := ⟨_, rfl⟩
  obtain ⟨n, hn⟩ : ∃ n, n = (Cod.size bs).1 := ⟨_, rfl⟩
  rw [← hd] at hsz h1 h2 h4 h5 h6 hx hy hS
  rw [← hn] at hsz h3 h4 h6 hx hy hS
  clear hd hn
  obtain ⟨hsz1, hsz2⟩ := hsz
  have HS := Lib.hid hS
  clear hS
  obtain ⟨b, o, rfl, c0⟩ := Bys.byte h 0 (by omega)
  have hcap : bs.length ≤ c ∧ c ≤ maxLen := by
    obtain ⟨_, _, e, k1, k2, _⟩ := id h
    injection e with e1 e2 e3
    subst e3
    exact ⟨k1, k2⟩
  have hm2 : c ≤ 9223372036854775807 := by unfold maxLen at hcap; omega
  have hX : Bys w (.slice (some ⟨b, o + (d + 1), none⟩) n (c - (d + 1))) x := by rw [hx]; exact bys_drop h (d + 1) n _ (by omega) (by omega) (by omega)
  have hY : Bys w (.slice (if c = d + n + 2 then some ⟨b, o, none⟩ else some ⟨b, o + (d + n + 2), none⟩) (bs.length - (d + n + 2)) (c - (d + n + 2))) y := by
    rw [hy]
    split
    · have e : bs.length = d + n + 2 := by omega
      rw [List.drop_eq_nil_of_le (by omega), e, Nat.sub_self]
      exact ⟨some ⟨b, o, none⟩, c - (d + n + 2), rfl, Nat.zero_le _, by omega, fun h => by simp at h⟩
    · have := bys_drop h (d + n + 2) (bs.length - (d + n + 2)) (c - (d + n + 2)) (by omega) (by omega) (by omega)
      rwa [List.take_of_length_le (by simp)] at this
  have hxl : x.length = n := by rw [hx]; simp; omega
  have hyl : y.length ≤ bs.length := by rw [hy]; simp
  have c1 : w.cell? ⟨b, o + d, none⟩ = some (.int .u8 58) := by
    obtain ⟨b', o', e, hc⟩ := Bys.byte h d (by omega)
    cases e; rw [hc, h5]; rfl
  have c2 : w.cell? ⟨b, o + (d + 1 + n), none⟩ = some (.int .u8 44) := by
    obtain ⟨b', o', e, hc⟩ := Bys.byte h (d + 1 + n) (by omega)
    cases e; rw [hc, h6]; rfl
  have c0 : w.cell? ⟨b, o, none⟩ = some (.int .u8 ((bs.getD 0 0).toNat : Nat)) := c0
  obtain ⟨u0, hu0⟩ : ∃ u0, u0 = bs.getD 0 0 := ⟨_, rfl⟩
  rw [← hu0] at c0 h2
  obtain ⟨l, hl'⟩ : ∃ l, l = bs.length := ⟨_, rfl⟩
  rw [← hl'] at hrl HS hsz2 h4 hcap hY hyl ⊢
  have Hxl := Lib.hid hxl
  obtain ⟨hc1, hc2⟩ := hcap
  have Hc2 := Lib.hid hc2
  clear hl' h hu0 hx hy h5 h6 hxl hc2
  have t0 : ((d : Int) == 0) = false := by simp; omega
  have t2 : decide ((16384 : Int) < (n : Int)) = false := by simp; omega
  have t3 : decide ((l : Int) < (d : Int) + (n : Int) + 2) = false := by simp; omega
  have i1 : (0 : Int) < (l : Int) := by omega
  have i2 : 0 < l := by omega
  have i3 : (d : Int) < (l : Int) := by omega
  have i4 : d < l := by omega
  have i5 : (d : Int) + 1 + (n : Int) < (l : Int) := by omega
  have i6 : (0 : Int) ≤ (d : Int) + 1 + (n : Int) := by omega
  have i7 : (d : Int) + 1 + (n : Int) ≤ (c : Int) := by omega
  have i8 : (d : Int) + (n : Int) + 2 ≤ (l : Int) := by omega
  have i9 : (d : Int) + 1 ≤ (d : Int) + 1 + (n : Int) := by omega
  have i10 : ¬ (c = d + 1) := by omega
  have q1 : ((d : Int) + 1 + (n : Int)).toNat = d + 1 + n := by omega
  rcases (show d ≤ 1 ∨ (1 < d ∧ u0 ≠ 48) from by
      rcases Nat.lt_or_ge 1 d with h | h
      · exact .inr ⟨h, fun e => h2 ⟨h, e⟩⟩
      · exact .inl (by omega)) with hd | ⟨hd, hu⟩
  · have t1 : decide ((1 : Int) < (d : Int)) = false := by simp; omega
    clear h2 hd
    go_enter Tryz.func133, Tryz.ntmps133
    go_wp2_with fail
    refine HS.out.mono ?_
    rintro e w1 ⟨rfl, rfl⟩
    go_wp2_with (at_builtin; refine appX E8c rfl _ _ rfl (base := w.heap.size) (bs := []) (news := x) rfl rfl (OwnX.nil _ _ _) hX ?q1 ?q2 ?_)
    case q1 => have := Hxl.out; simp; omega
    case q2 => exact Nat.le_refl _
    intro v2 w2 ho2 hg2
    have hb2 := grown_none hg2 rfl
    clear hg2 c0 c1 c2
    go_wp2_with (at_builtin; refine appX E8c rfl _ _ rfl (base := w.heap.size) (bs := []) (news := y) rfl rfl (OwnX.nil _ _ _) (hY.below hb2) ?q3 ?q4 ?_)
    case q3 => simp; omega
    case q4 => exact hb2.size
    all_goals
      intro v3 w3 ho3 hg3
      have hb3 := grown_none hg3 rfl
      clear hg3
      go_wp2
      go_ret3
      exact ⟨_, _, rfl, ho2.below hb3, ho3, hb2.trans (hb3.mono hb2.size)⟩
  · have t1 : decide ((1 : Int) < (d : Int)) = true := by simp; omega
    have t5 : (((u0.toNat : Nat) : Int) == 48) = false := eq_u8 (k := 48) (by decide) hu
    clear h2 hu
    go_enter Tryz.func133, Tryz.ntmps133
    go_wp2_with fail
    refine HS.out.mono ?_
    rintro e w1 ⟨rfl, rfl⟩
    go_wp2_with (at_builtin; refine appX E8c rfl _ _ rfl (base := w.heap.size) (bs := []) (news := x) rfl rfl (OwnX.nil _ _ _) hX ?q5 ?q6 ?_)
    case q5 => have := Hxl.out; simp; omega
    case q6 => exact Nat.le_refl _
    intro v2 w2 ho2 hg2
    have hb2 := grown_none hg2 rfl
    clear hg2 c0 c1 c2
    go_wp2_with (at_builtin; refine appX E8c rfl _ _ rfl (base := w.heap.size) (bs := []) (news := y) rfl rfl (OwnX.nil _ _ _) (hY.below hb2) ?q7 ?q8 ?_)
    case q7 => simp; omega
    case q8 => exact hb2.size
    all_goals
      intro v3 w3 ho3 hg3
      have hb3 := grown_none hg3 rfl
      clear hg3
      go_wp2
      go_ret3
      exact ⟨_, _, rfl, ho2.below hb3, ho3, hb2.trans (hb3.mono hb2.size)⟩
end Go.Proofs.YtclhgokchcklbaaGreatDoor
end
section
namespace Go.Tail
open Go
section
variable {P : Program} {ops : Array Oper} {md : Region.Mode} {C : World → Prop}
def Head (P : Program) (md : Region.Mode) (ops : Array Oper) (C : World → Prop) (n : Nat) (L : Array Bool → Act → Prop) : Nat → Array Bool → Act → Prop
  | 0, listed, a => L listed a
  | f + 1, listed, a => Region.ready md ops listed ≠ [] ∧ ∀ i, i ∈ Region.ready md ops listed → i < n ∧ qOp P ops C i (Head P md ops C n L f (listed.setIfInBounds i true)) a
theorem any_of_head {n g : Nat} {L : Array Bool → Act → Prop} {Q : Exit → Act → World → Prop} (hL : ∀ listed a w, C w → L listed a → wpAny P md ops Q g listed a w) :
    ∀ (f : Nat) (listed : Array Bool) (a : Act) (w : World), C w → Head P md ops C n L f listed a → wpAny P md ops Q (f + g) listed a w := by
  intro f
  induction f with
  | zero => intro listed a w hw h; rw [Nat.zero_add]; exact hL _ _ _ hw h
  | succ f ih =>
    intro listed a w hw h
    rw [show f + 1 + g = (f + g) + 1 from by omega]
    exact ⟨fun h0 => absurd h0 h.1, fun i hi => wpOp_of_qOp hw (fun a' w' hw' h' => ih _ a' w' hw' h') (h.2 i hi).2⟩
theorem take_first {n i : Nat} {oi : Oper} {v : Value} {L : Array Bool → Act → Prop} (hi : ops[i]? = some oi) (hsel : ∀ (j : Nat) (o : Oper) cs b, ops[j]? = some o → o.op ≠ .select cs b)
    (hs : Region.sinkB md ops n = true) (hc : Region.chainB md ops n = true) (hn : n < ops.size) (hin : i < n) (hdone : ∀ listed a, L listed a → ∀ j, j ∈ Region.ready md ops listed → n ≤ j) :
    ∀ (f : Nat) (listed : Array Bool) (a : Act), HeadInv md ops n listed →
      (∀ j oj, ops[j]? = some oj → j ≠ i → listed.getD j true = false → (∀ e ∈ oj.after, Region.binds md e = true → e.on ≠ i) → oi.apart ops oj = true) →
      i ∈ Region.ready md ops listed → YieldsIn P ops C oi v a →
      Head P md ops C n L f (listed.setIfInBounds i true) (a.put oi.dst v) → Head P md ops C n L (f + 1) listed a := by
  intro f
  induction f with
  | zero =>
    intro listed a inv _ hr hy H
    have hun := (mem_ready.1 hr).1
    refine ⟨fun h => (by rw [h] at hr; cases hr), fun j hj => ?_⟩
    have hjn : j < n := Nat.lt_of_not_le fun h => tail_waits hs hc hn inv _ i rfl hin hun j h hj
    by_cases e : j = i
    · subst e; exact ⟨hjn, hy.qOp hi H⟩
    · have := hdone _ _ H j (ready_mono hj e)
      omega
  | succ f ih =>
    intro listed a inv hfree hr hy H
    have hun := (mem_ready.1 hr).1
    refine ⟨fun h => (by rw [h] at hr; cases hr), fun j hj => ?_⟩
    have hjn : j < n := Nat.lt_of_not_le fun h => tail_waits hs hc hn inv _ i rfl hin hun j h hj
    refine ⟨hjn, ?_⟩
    by_cases e : j = i
    · subst e; exact hy.qOp hi H
    · obtain ⟨hjun, oj, hoj, hall⟩ := mem_ready.1 hj
      have hnot : ∀ e ∈ oj.after, Region.binds md e = true → e.on ≠ i := fun e' he hb heq => by
        have h1 := hall e' he hb
        rw [heq, getD_both hun] at h1
        cases h1
      have h2 := qOp_put hoj (hfree j oj hoj e hjun hnot) (fun cs b => hsel i oi cs b hi) (fun cs b => hsel j oj cs b hoj) hy (H.2 j (ready_mono hj e)).2
      have hfree' : ∀ k ok, ops[k]? = some ok → k ≠ i → (listed.setIfInBounds j true).getD k true = false →
          (∀ e ∈ ok.after, Region.binds md e = true → e.on ≠ i) → oi.apart ops ok = true := fun k ok hk hki hun' hno => by
        refine hfree k ok hk hki ?_ hno
        by_cases hjk : j = k
        · subst hjk; exact hjun
        · rw [getD_set_ne true hjk] at hun'; exact hun'
      refine qOp_mono (fun a' h3 => ih (listed.setIfInBounds j true) a' (inv.set hj hjn) hfree' (ready_mono hr (Ne.symm e)) h3.1 ?_) h2
      rw [Array.setIfInBounds_comm _ _ e]
      exact h3.2
theorem head_lex {n g : Nat} {Lq : Act → Prop} (hsel : Region.noSelect ops = true) (hs : Region.sinkB md ops n = true) (hc : Region.chainB md ops n = true) (hn : n < ops.size) :
    ∀ (l : List Oper) (k : Nat) (listed : Array Bool) (a : Act), (∀ j, j < l.length → l[j]? = ops[k + j]?) → k + l.length = n → HeadInv md ops n listed →
    Region.lexHead md ops g l.length k listed = true → wpQuiet P ops C Lq l a →
    Head P md ops C n (fun listed' a' => Region.seqB md ops g n listed' = true ∧ Lq a') l.length listed a := by
  intro l
  induction l with
  | nil =>
    intro k listed a _ hk _ hB h
    have : k = n := by simpa using hk
    subst this
    exact ⟨by simpa [Region.lexHead] using hB, h⟩
  | cons o l ih =>
    intro k listed a hl hk inv hB h
    have h0 : ops[k]? = some o := by simpa using (hl 0 (by simp)).symm
    simp only [List.length_cons, Region.lexHead, Bool.and_eq_true] at hB
    obtain ⟨⟨hr, hf⟩, hB'⟩ := hB
    have hkn : k < n := by simp only [List.length_cons] at hk; omega
    have hr' : k ∈ Region.ready md ops listed := by simpa using hr
    have hst : qOp P ops C k (wpQuiet P ops C Lq l) a := by unfold qOp; simp only [h0]; exact h
    obtain ⟨v, hy, hK⟩ := yieldsIn_of_qOp h0 hst
    exact take_first h0 (Region.noSelect_spec hsel) hs hc hn hkn (fun listed' a' hL => seqB_ready hL.1) l.length listed a inv (Region.free_spec h0 hf) hr' hy
      (ih (k + 1) _ _ (fun j hj => by have := hl (j + 1) (by simp; omega); simpa [Nat.add_assoc, Nat.add_comm 1 j] using this) (by simp only [List.length_cons] at hk; omega) (inv.set hr' hkn) hB' hK)
theorem wp_region_quiet_tail {id : Nat} {Q : Exit → Act → World → Prop} {a : Act} {w : World} {l : List Oper} (n : Nat) (C : World → Prop) (hm : P.follows .mixedOrders = true) (hB : Region.lexTailB .any l.toArray n = true)
    (hC : C w.drew) (h : wpQuiet P l.toArray C (fun a' => ∀ w', C w' → wpList P l.toArray Q (l.drop n) a' w') (l.take n) a) : (Code.region id l.toArray true).wp P Q a w := by
  simp only [Region.lexTailB, Bool.and_eq_true, decide_eq_true_eq] at hB
  obtain ⟨⟨⟨⟨hsel, hn⟩, hs⟩, hc⟩, hlex⟩ := hB
  have hn' : n < l.length := by simpa using hn
  have htl : (l.take n).length = n := by simp; omega
  have inv0 : HeadInv .any l.toArray n (Array.replicate l.toArray.size false) :=
    ⟨by simp, fun j oj _ hl => (by rw [getD_replicate_false] at hl; cases hl), fun t _ ht => getD_in (by simpa using ht) (getD_replicate_false _ _)⟩
  have H := head_lex (md := .any) (C := C) (g := l.toArray.size - n) hsel hs hc hn (l.take n) 0 _ a (fun j hj => by
    have hj' : j < n := by rw [htl] at hj; exact hj
    simp [hj']) (by simpa using htl) inv0 (by rw [htl]; exact hlex) h
  refine wp_region_any hm ?_
  have := any_of_head (Q := Q) (g := l.toArray.size - n) (fun listed a' w' hw' hL => by
    have e : l.toArray.size - n = (l.drop n).length := by simp
    rw [e]
    exact wpAny_of_seq (l.drop n) n listed a' w' (fun j => by simp) (by rw [← e]; exact hL.1) (hL.2 w' hw')) _ _ a w.drew hC H
  rw [htl, show n + (l.toArray.size - n) = l.toArray.size from by omega] at this
  exact this
end
end Go.Tail
end
section
namespace Go.Proofs.YtclhgokchcklbaaGreatDoor
open Go Go.RowKit Go.Mem Gf
attribute [local go_sem ↓] Go.wp_at_zero Go.wp_at_succ
theorem chg4 (w : World) (g : Nat) (u0 u1 u2 u3 : Value) : Chg (fun b => b = g) w ((((w.setCell ⟨g, 0, none⟩ u0).setCell ⟨g, 1, none⟩ u1).setCell ⟨g, 2, none⟩ u2).setCell ⟨g, 3, none⟩ u3) := by
  refine Chg.set (S := fun b => b = g) ?_ (a := ⟨g, 3, none⟩) rfl u3
  refine Chg.set (S := fun b => b = g) ?_ (a := ⟨g, 2, none⟩) rfl u2
  refine Chg.set (S := fun b => b = g) ?_ (a := ⟨g, 1, none⟩) rfl u1
  exact Chg.set (S := fun b => b = g) (Chg.refl _ _) (a := ⟨g, 0, none⟩) rfl u0
theorem getD_old {α : Type} (xs : List α) (x d : α) {j : Nat} (h : j < xs.length) : (xs ++ [x]).getD j d = xs.getD j d := by
  rw [List.getD_eq_getElem?_getD, List.getD_eq_getElem?_getD, List.getElem?_append_left h]
theorem getD_new {α : Type} (xs : List α) (x d : α) {j : Nat} (h : j = xs.length) : (xs ++ [x]).getD j d = x := by
  subst h; rw [List.getD_eq_getElem?_getD, List.getElem?_append_right (Nat.le_refl _)]; simp
def SomeRec (v : Value) : Prop := ∃ (b : Bool) (s : ByteArray) (z : Int) (dv : Value), v = .tuple #[.agg #[.bool b, .string s, .int .i64 z, dv], .bool false] ∧ ∃ a l c, dv = .slice a l c
set_option maxRecDepth 20000 in
set_option maxHeartbeats 2000000 in
theorem parse_calls (v : Value) (bs : List UInt8) (w : World) (h : Bys w v bs) (hl : bs.length ≤ 1000000) :
    Calls Tryz.prog 116 #[v] w fun e w' => Below w.heap.size w w' ∧ ((∃ r, Sto.parse bs = some r ∧ ∃ dv, e = .returned (.tuple #[.agg #[.bool true, .string r.name, .int .i64 r.num, dv], .bool true]) ∧ OwnX 5 w' w.heap.size dv r.data) ∨ (Sto.parse bs = none ∧ ∃ v, e = .returned v ∧ SomeRec v)) := by
  obtain ⟨a, c, rfl⟩ := h.eq_slice
  go_enter Tryz.func116, Tryz.ntmps116
  have h1 : Bys ((w.alloc (.cells #[.bool false, .string { data := #[] }, .int .i64 0, .slice none 0 0] 129)).alloc (.cells #[.slice none 0 0, .slice none 0 0, .slice none 0 0] 210)) (.slice a bs.length c) bs := h.below (((Below.refl _ _).alloc (Nat.le_refl _) _).alloc (by simp) _)
  have hA0 := Blk.new_at (w.alloc (.cells #[.bool false, .string { data := #[] }, .int .i64 0, .slice none 0 0] 129)) #[.slice none 0 0, .slice none 0 0, .slice none 0 0] 210 (w.heap.size + 1) (by simp)
  have hR0 := (Blk.new w #[.bool false, .string { data := #[] }, .int .i64 0, .slice none 0 0] 129).alloc (.cells #[.slice none 0 0, .slice none 0 0, .slice none 0 0] 210)
  have hb0 : Below w.heap.size w ((w.alloc (.cells #[.bool false, .string { data := #[] }, .int .i64 0, .slice none 0 0] 129)).alloc (.cells #[.slice none 0 0, .slice none 0 0, .slice none 0 0] 210)) := ((Below.refl _ _).alloc (Nat.le_refl _) _).alloc (by simp) _
  go_wp2_with fail
  go_loopw [0, 9] (fun u v wr => ∃ (k : Nat) (xs : List (List UInt8)) (r : List UInt8) (v0 v1 v2 : Value), k ≤ 3 ∧ v = .int .i64 k ∧ Hid (Sto.takeN k bs = some (xs, r)) ∧ Bys wr u r ∧ r.length ≤ 1000000 ∧ Blk wr (w.heap.size + 1) #[v0, v1, v2] 210 ∧ Blk wr w.heap.size #[.bool false, .string { data := #[] }, .int .i64 0, .slice none 0 0] 129 ∧
      Hid (0 < k → OwnX 5 wr (w.heap.size + 2) v0 (xs.getD 0 [])) ∧ Hid (1 < k → OwnX 5 wr (w.heap.size + 2) v1 (xs.getD 1 [])) ∧ Hid (2 < k → OwnX 5 wr (w.heap.size + 2) v2 (xs.getD 2 [])) ∧ Below w.heap.size w wr ∧ w.heap.size + 2 ≤ wr.heap.size) (fun _ v _ => 3 - (intOf v).toNat)
  case atStart => exact ⟨0, [], bs, _, _, _, by omega, rfl, rfl, h1, hl, hA0, hR0, fun h => by omega, fun h => by omega, fun h => by omega, hb0, by simp⟩
  case round =>
    clear h1 hA0 hR0 hb0 h
    obtain ⟨k, xs, r, v0, v1, v2, hk, rfl, Hk, hr, hrl, hA, hR, h0, h1, h2, hb, hs⟩ := hrel
    by_cases hk3 : k < 3
    · obtain ⟨va, vc, rfl⟩ := hr.eq_slice
      have Hr := Lib.hid hR; have Ha := Lib.hid hA
      cases ht : Cod.takeNet r with
      | none =>
        have Hp := Lib.hid (show Sto.parse bs = none from by
          have h3 : ∀ j, k < j → Sto.takeN j bs = none := by
            intro j hj
            induction j with
            | zero => omega
            | succ j ih =>
              rw [Sto.takeN]
              by_cases e : j = k
              · subst e; rw [Hk.out]; simp only [ht]
              · rw [ih (by omega)]
          unfold Sto.parse; rw [h3 3 hk3])
        have Ht := Lib.hid ht
        clear ht
        go_wp2_with fail
        refine (takeNet_bad _ r wr hr (by omega) Ht.out).mono ?_
        rintro e w2 ⟨rfl, rfl⟩
        have d0 : wr.cell? ⟨w.heap.size, 0, none⟩ = some (.bool false) := by rw [Hr.out.cell]; rfl
        have d1 : wr.cell? ⟨w.heap.size, 1, none⟩ = some (.string { data := #[] }) := by rw [Hr.out.cell]; rfl
        have d2 : wr.cell? ⟨w.heap.size, 2, none⟩ = some (.int .i64 0) := by rw [Hr.out.cell]; rfl
        have d3 : wr.cell? ⟨w.heap.size, 3, none⟩ = some (.slice none 0 0) := by rw [Hr.out.cell]; rfl
        have f0 := Hr.out.free 0; have f1 := Hr.out.free 1; have f2 := Hr.out.free 2; have f3 := Hr.out.free 3
        have c0 : wr.cell? ⟨w.heap.size + 1, 0, none⟩ = some v0 := by rw [Ha.out.cell]; rfl
        have c1 : wr.cell? ⟨w.heap.size + 1, 1, none⟩ = some v1 := by rw [Ha.out.cell]; rfl
        have c2 : wr.cell? ⟨w.heap.size + 1, 2, none⟩ = some v2 := by rw [Ha.out.cell]; rfl
        have g0 := Ha.out.free 0; have g1 := Ha.out.free 1; have g2 := Ha.out.free 2
        clear hA hR hr Ht
        rcases (show k = 0 ∨ k = 1 ∨ k = 2 from by omega) with rfl | rfl | rfl
        all_goals
          go_wp2
          refine bodyPost_ret (v := .tuple #[.agg #[.bool false, .string { data := #[] }, .int .i64 0, .slice none 0 0], .bool false]) (by simp [results, Tryz.results116, go_sem, d0, d1, d2, d3]) rfl ⟨?_, .inr ⟨Hp.out, _, rfl, false, _, 0, _, rfl, _, _, _, rfl⟩⟩
          exact ((((hb.setCell (by simp) _).setCell (by simp) _).setCell (by simp) _).setCell (by simp) _).setCell (by simp) _
      | some q =>
        obtain ⟨x, y⟩ := q
        have Ht := Lib.hid ht
        clear ht
        go_wp2_with fail
        refine (takeNet_ok _ r x y wr hr (by omega) Ht.out).mono ?_
        rintro e w2 ⟨vx, vy, rfl, hx, hy, hb2⟩
        have hA2 := hA.kept hb2
        have hR2 := hR.kept hb2
        have hxl : x.length ≤ 1000000 ∧ y.length ≤ 1000000 := by
          obtain ⟨_, _, _, h4, _, _, h7, h8⟩ := takeNet_some Ht.out
          exact ⟨by rw [h7]; simp; omega, by rw [h8]; simp; omega⟩
        have Hn := Lib.hid (show Sto.takeN (k + 1) bs = some (xs ++ [x], y) from by rw [Sto.takeN, Hk.out]; simp only [Ht.out])
        have Hl := Lib.hid (Sto.takeN_len _ _ _ _ Hk.out)
        have c0 : w2.cell? ⟨w.heap.size + 1, 0, none⟩ = some v0 := by rw [hA2.cell]; rfl
        have c1 : w2.cell? ⟨w.heap.size + 1, 1, none⟩ = some v1 := by rw [hA2.cell]; rfl
        have c2 : w2.cell? ⟨w.heap.size + 1, 2, none⟩ = some v2 := by rw [hA2.cell]; rfl
        have g0 := hA2.free 0; have g1 := hA2.free 1; have g2 := hA2.free 2
        obtain ⟨xa, xc, rfl⟩ := hx.eq_slice
        have Hx := Lib.hid hx; have Hy := Lib.hid hy; have HA2 := Lib.hid hA2; have HR2 := Lib.hid hR2; have Hb2 := Lib.hid hb2; have Hr' := Lib.hid hr
        clear hA hR hx hy hA2 hR2 hb2 hr
        have hs2 := Hb2.out.size
        have hC : ∀ j v, Chg (fun b => b = w.heap.size + 1) wr (w2.setCell ⟨w.heap.size + 1, j, none⟩ v) := fun j v => Chg.set (S := fun b => b = w.heap.size + 1) (Chg.of_below Hb2.out) (a := ⟨w.heap.size + 1, j, none⟩) rfl v
        have hC2 : ∀ j v, Chg (fun b => b = w.heap.size + 1) w2 (w2.setCell ⟨w.heap.size + 1, j, none⟩ v) := fun j v => Chg.set (S := fun b => b = w.heap.size + 1) (Chg.refl _ _) (a := ⟨w.heap.size + 1, j, none⟩) rfl v
        have HC := Lib.hid hC; have HC2 := Lib.hid hC2
        have hap : ∀ (v : Value) (bs : List UInt8) (w' : World), OwnX 5 w' (w.heap.size + 2) v bs → ∀ g, v.ownBlock = some g → ¬ g = w.heap.size + 1 := fun v bs w' ho g hg => by have := (ho.lt g hg).1; omega
        have Hap := Lib.hid hap
        have HX := Lib.hid (fun j v => (Hx.out.mono hs).chg (hC2 j v) (hap _ _ _ (Hx.out.mono hs)))
        have HY := Lib.hid (fun j v => ((Hy.out.mono hs).chg (hC2 j v) (hap _ _ _ (Hy.out.mono hs))).bys)
        have HB := Lib.hid (fun j v => (show Below w.heap.size w (w2.setCell ⟨w.heap.size + 1, j, none⟩ v) from (hb.trans (Hb2.out.mono hb.size)).setCell (show w.heap.size ≤ w.heap.size + 1 by omega) v))
        have HR3 := Lib.hid (fun j v => HR2.out.set_other (a := ⟨w.heap.size + 1, j, none⟩) (show w.heap.size + 1 ≠ w.heap.size by omega) v)
        have HA3 := Lib.hid (fun j v => HA2.out.set j v)
        have Hge := Lib.hid (show w.heap.size + 2 ≤ w2.heap.size by omega)
        clear hC hC2 hap
        rcases (show k = 0 ∨ k = 1 ∨ k = 2 from by omega) with rfl | rfl | rfl
        · go_wp2
          exact ⟨⟨1, xs ++ [x], y, _, v1, v2, by decide, rfl, Hn.out, HY.out 0 _, hxl.2, by simpa using HA3.out 0 _, HR3.out 0 _, (fun _ => by rw [getD_new _ _ _ Hl.out.symm]; exact HX.out 0 _), (fun h => by omega), (fun h => by omega), HB.out 0 _, by simpa using Hge.out⟩, by simp [intOf]⟩
        · go_wp2
          exact ⟨⟨2, xs ++ [x], y, v0, _, v2, by decide, rfl, Hn.out, HY.out 1 _, hxl.2, by simpa using HA3.out 1 _, HR3.out 1 _, (fun _ => by rw [getD_old _ _ _ (by rw [Hl.out]; decide)]; exact (h0.out (by decide)).chg (HC.out 1 _) (Hap.out _ _ _ (h0.out (by decide)))), (fun _ => by rw [getD_new _ _ _ Hl.out.symm]; exact HX.out 1 _), (fun h => by omega), HB.out 1 _, by simpa using Hge.out⟩, by simp [intOf]⟩
        · go_wp2
          exact ⟨⟨3, xs ++ [x], y, v0, v1, _, by decide, rfl, Hn.out, HY.out 2 _, hxl.2, by simpa using HA3.out 2 _, HR3.out 2 _, (fun _ => by rw [getD_old _ _ _ (by rw [Hl.out]; decide)]; exact (h0.out (by decide)).chg (HC.out 2 _) (Hap.out _ _ _ (h0.out (by decide)))), (fun _ => by rw [getD_old _ _ _ (by rw [Hl.out]; decide)]; exact (h1.out (by decide)).chg (HC.out 2 _) (Hap.out _ _ _ (h1.out (by decide)))), (fun _ => by rw [getD_new _ _ _ Hl.out.symm]; exact HX.out 2 _), HB.out 2 _, by simpa using Hge.out⟩, by simp [intOf]⟩
    · obtain rfl : k = 3 := by omega
      have o0 := h0.out (by decide)
      have o1 := h1.out (by decide)
      have o2 := h2.out (by decide)
      obtain ⟨x0, hx0⟩ : ∃ x, x = xs.getD 0 [] := ⟨_, rfl⟩
      obtain ⟨x1, hx1⟩ : ∃ x, x = xs.getD 1 [] := ⟨_, rfl⟩
      obtain ⟨x2, hx2⟩ : ∃ x, x = xs.getD 2 [] := ⟨_, rfl⟩
      have HP := Lib.hid (show Sto.parse bs = if x1.length = 4 then some ⟨true, ⟨x0.toArray⟩, Cod.getN x1, x2⟩ else none from by
        unfold Sto.parse; rw [Hk.out, hx0, hx1, hx2])
      rw [← hx0] at o0; rw [← hx1] at o1; rw [← hx2] at o2
      clear hx0 hx1 hx2 h0 h1 h2 hr
      have d0 : wr.cell? ⟨w.heap.size, 0, none⟩ = some (.bool false) := by rw [hR.cell]; rfl
      have d1 : wr.cell? ⟨w.heap.size, 1, none⟩ = some (.string { data := #[] }) := by rw [hR.cell]; rfl
      have d2 : wr.cell? ⟨w.heap.size, 2, none⟩ = some (.int .i64 0) := by rw [hR.cell]; rfl
      have d3 : wr.cell? ⟨w.heap.size, 3, none⟩ = some (.slice none 0 0) := by rw [hR.cell]; rfl
      have f0 := hR.free 0; have f1 := hR.free 1; have f2 := hR.free 2; have f3 := hR.free 3
      have c0 : wr.cell? ⟨w.heap.size + 1, 0, none⟩ = some v0 := by rw [hA.cell]; rfl
      have c1 : wr.cell? ⟨w.heap.size + 1, 1, none⟩ = some v1 := by rw [hA.cell]; rfl
      have c2 : wr.cell? ⟨w.heap.size + 1, 2, none⟩ = some v2 := by rw [hA.cell]; rfl
      obtain ⟨z, hz⟩ : ∃ z : Nat × Bool, (x1.length ≤ 7 → z.1 = Cod.getN x1) ∧ Calls Tryz.prog 134 #[v1] wr fun e w' => e = .returned (.tuple #[.int .i64 (z.1 : Nat), .bool z.2]) ∧ wr = w' := by
        by_cases h7 : x1.length ≤ 7
        · exact ⟨(Cod.getN x1, true), fun _ => rfl, get_calls _ _ _ o1.bys h7⟩
        · exact ⟨(0, false), fun h => absurd h h7, get_bad _ _ _ o1.bys (by omega)⟩
      obtain ⟨z, zb⟩ := z
      obtain ⟨hz1, hz2⟩ := hz
      have HZ1 := Lib.hid hz1; have HZ2 := Lib.hid hz2
      have HO2 := Lib.hid o2; have HR := Lib.hid hR; have HA := Lib.hid hA
      obtain ⟨a1, b1, rfl⟩ := o1.eq_slice
      obtain ⟨a0, b0, rfl⟩ := o0.eq_slice
      have HO0 := Lib.hid o0
      obtain ⟨a2, b2, rfl⟩ := o2.eq_slice
      clear hz1 hz2 o0 o1 o2 hR hA
      go_wp2_with fail
      refine HZ2.out.mono ?_
      rintro e w2 ⟨rfl, rfl⟩
      go_wp2_with fail
      have hcv1 : Bys wr.drew (.slice a0 x0.length b0) x0 := HO0.out.drew.bys
      have hs0 : wr.drew.cell? ⟨w.heap.size + 1, 0, none⟩ = some (.slice a0 x0.length b0) := c0
      have hs1 : wr.drew.cell? ⟨w.heap.size + 1, 1, none⟩ = some (.slice a1 x1.length b1) := c1
      have hs2 : wr.drew.cell? ⟨w.heap.size + 1, 2, none⟩ = some (.slice a2 x2.length b2) := c2
      have H0 := Lib.hid (And.intro hs0 (And.intro hs1 (And.intro hs2 hcv1)))
      have hcvr : ∀ w', Bys w' (.slice a0 x0.length b0) x0 → (convert 38 9 (.slice a0 x0.length b0)).run Tryz.prog w' = .ok (.string ⟨x0.toArray⟩) w' := fun w' hB => conv_string hB
      clear hs0 hs1 hs2 hcv1 c0 c1 c2
      have hO1 : ∀ u0 u1 u2 u3, Bys ((((wr.setCell ⟨w.heap.size, 0, none⟩ u0).setCell ⟨w.heap.size, 1, none⟩ u1).setCell ⟨w.heap.size, 2, none⟩ u2).setCell ⟨w.heap.size, 3, none⟩ u3).drew (.slice a0 x0.length b0) x0 := fun u0 u1 u2 u3 => by
        have h1 := chg4 wr w.heap.size u0 u1 u2 u3
        have h2 := HO0.out.chg h1 (fun g hg e => by have := (HO0.out.lt g hg).1; omega)
        exact h2.bys
      have HO1 := Lib.hid hO1
      clear hO1
      have HS : ∀ u0 u1 u2 u3, Hid (((((wr.setCell ⟨w.heap.size, 0, none⟩ u0).setCell ⟨w.heap.size, 1, none⟩ u1).setCell ⟨w.heap.size, 2, none⟩ u2).setCell ⟨w.heap.size, 3, none⟩ u3).drew.cell? ⟨w.heap.size + 1, 0, none⟩ = some (.slice a0 x0.length b0) ∧ ((((wr.setCell ⟨w.heap.size, 0, none⟩ u0).setCell ⟨w.heap.size, 1, none⟩ u1).setCell ⟨w.heap.size, 2, none⟩ u2).setCell ⟨w.heap.size, 3, none⟩ u3).drew.cell? ⟨w.heap.size + 1, 1, none⟩ = some (.slice a1 x1.length b1) ∧
          ((((wr.setCell ⟨w.heap.size, 0, none⟩ u0).setCell ⟨w.heap.size, 1, none⟩ u1).setCell ⟨w.heap.size, 2, none⟩ u2).setCell ⟨w.heap.size, 3, none⟩ u3).drew.cell? ⟨w.heap.size + 1, 2, none⟩ = some (.slice a2 x2.length b2) ∧
          Bys ((((wr.setCell ⟨w.heap.size, 0, none⟩ u0).setCell ⟨w.heap.size, 1, none⟩ u1).setCell ⟨w.heap.size, 2, none⟩ u2).setCell ⟨w.heap.size, 3, none⟩ u3).drew (.slice a0 x0.length b0) x0) := fun u0 u1 u2 u3 => by
        have hA' := (((HA.out.set_other (a := ⟨w.heap.size, 0, none⟩) (show w.heap.size ≠ w.heap.size + 1 by omega) u0).set_other (a := ⟨w.heap.size, 1, none⟩) (show w.heap.size ≠ w.heap.size + 1 by omega) u1).set_other (a := ⟨w.heap.size, 2, none⟩) (show w.heap.size ≠ w.heap.size + 1 by omega) u2).set_other (a := ⟨w.heap.size, 3, none⟩) (show w.heap.size ≠ w.heap.size + 1 by omega) u3
        exact ⟨hA'.cell 0, hA'.cell 1, hA'.cell 2, HO1.out u0 u1 u2 u3⟩
      go_region_held3 (fun w' => w'.cell? ⟨w.heap.size + 1, 0, none⟩ = some (.slice a0 x0.length b0) ∧ w'.cell? ⟨w.heap.size + 1, 1, none⟩ = some (.slice a1 x1.length b1) ∧ w'.cell? ⟨w.heap.size + 1, 2, none⟩ = some (.slice a2 x2.length b2) ∧ Bys w' (.slice a0 x0.length b0) x0) (first | with_reducible exact H0.out | with_reducible exact (HS _ _ _ _).out) (fail)
      have hbel : ∀ u0 u1 u2 u3, Below w.heap.size w ((((wr.setCell ⟨w.heap.size, 0, none⟩ u0).setCell ⟨w.heap.size, 1, none⟩ u1).setCell ⟨w.heap.size, 2, none⟩ u2).setCell ⟨w.heap.size, 3, none⟩ u3) := fun u0 u1 u2 u3 => (((hb.setCell (Nat.le_refl _) _).setCell (Nat.le_refl _) _).setCell (Nat.le_refl _) _).setCell (Nat.le_refl _) _
      have hown : ∀ u0 u1 u2 u3, OwnX 5 ((((wr.setCell ⟨w.heap.size, 0, none⟩ u0).setCell ⟨w.heap.size, 1, none⟩ u1).setCell ⟨w.heap.size, 2, none⟩ u2).setCell ⟨w.heap.size, 3, none⟩ u3) w.heap.size (.slice a2 x2.length b2) x2 := fun u0 u1 u2 u3 => (HO2.out.chg (chg4 wr w.heap.size u0 u1 u2 u3) (fun g hg e => by have := (HO2.out.lt g hg).1; omega)).mono (by omega)
      have HBEL := Lib.hid hbel; have HOWN := Lib.hid hown
      clear hbel hown HS
      go_wp2
      refine bodyPost_ret (v := .tuple #[.agg #[.bool true, .string ⟨x0.toArray⟩, .int .i64 (z : Int), .slice a2 x2.length b2], .bool ((x1.length : Int) == 4)]) (by simp [results, Tryz.results116, go_sem, d0, d1, d2, d3]) rfl ⟨below_drewN (HBEL.out _ _ _ _) 1, ?_⟩
      by_cases h4 : x1.length = 4
      · have e1 : ((x1.length : Int) == 4) = true := by simp; omega
        rw [e1]
        have := HZ1.out (by omega)
        subst this
        exact .inl ⟨_, by rw [HP.out, if_pos h4], _, rfl, (HOWN.out _ _ _ _).drew⟩
      · have e1 : ((x1.length : Int) == 4) = false := by simp; omega
        rw [e1]
        exact .inr ⟨by rw [HP.out, if_neg h4], _, rfl, _, _, _, _, rfl, _, _, _, rfl⟩
end Go.Proofs.YtclhgokchcklbaaGreatDoor
end
section
namespace Go.Mem
open Go Go.RowKit Gf
def Tri (sb d L : Nat) (b : Nat) : Prop := b = sb ∨ b = d ∨ b = L
theorem Blk.chg4 {w : World} {b g : Nat} {arr : Array Value} {t : TypeId} (h : Blk w b arr t) (hg : b ≠ g) (u0 u1 u2 u3 : Value) : Blk ((((w.setCell ⟨g, 0, none⟩ u0).setCell ⟨g, 1, none⟩ u1).setCell ⟨g, 2, none⟩ u2).setCell ⟨g, 3, none⟩ u3) b arr t :=
  (((h.set_other (a := ⟨g, 0, none⟩) (fun e => hg e.symm) u0).set_other (a := ⟨g, 1, none⟩) (fun e => hg e.symm) u1).set_other (a := ⟨g, 2, none⟩) (fun e => hg e.symm) u2).set_other (a := ⟨g, 3, none⟩) (fun e => hg e.symm) u3
theorem chg_new2 {S T : Nat → Prop} {w w' w'' : World} (h : Chg S w w') (h' : Chg T w' w'') (hT : ∀ k, T k → w.heap.size ≤ k) : Chg S w w'' :=
  ⟨h'.os.trans h.os, h'.tape.trans h.tape, h'.output.trans h.output, Nat.le_trans h.size h'.size, fun k hk hs => (h'.block k (Nat.lt_of_lt_of_le hk h.size) fun ht => by have := hT k ht; omega).trans (h.block k hk hs)⟩
end Go.Mem
namespace Go.Proofs.YtclhgokchcklbaaGreatDoor
open Go Go.RowKit Go.Mem Gf
attribute [local go_sem ↓] Go.wp_at_zero Go.wp_at_succ
theorem chg1 (w : World) (g i : Nat) (v : Value) : Chg (fun b => b = g) w (w.setCell ⟨g, i, none⟩ v) := Chg.set (S := fun b => b = g) (Chg.refl _ _) (a := ⟨g, i, none⟩) rfl v
def stV (d room : Nat) (la : Option Addr) (n lc : Nat) (dead : Bool) : Array Value := #[.pointer (some ⟨d, 0, none⟩), .int .i64 room, .slice la n lc, .bool dead]
set_option maxRecDepth 20000 in
set_option maxHeartbeats 2000000 in
theorem free_new (sb d L room n lc i : Nat) (la : Option Addr) (dead : Bool) (D : DiskS) (w : World) (hS : Blk w sb (stV d room la n lc dead) 127) (hD : IsDisk w d L D) (hne : sb ≠ d ∧ sb ≠ L) (hi : n ≤ i) (hi2 : i ≤ 1024) (hr : room ≤ 1024) (hw : D.writes < 4611686018427387904) :
    Calls Tryz.prog 70 #[.pointer (some ⟨sb, 0, none⟩), .int .i64 i] w fun e w' => e = .returned (.int .i64 (D.wres (i * (room + 1) : Nat) 1)) ∧ Blk w' sb (stV d room la n lc (dead || (D.wres (i * (room + 1) : Nat) 1 != 0))) 127 ∧ IsDisk w' d L (D.wr (i * (room + 1) : Nat) [0]) ∧ Chg (Tri sb d L) w w' := by
  obtain ⟨z, hz⟩ : ∃ z, z = D.wres (i * (room + 1) : Nat) 1 := ⟨_, rfl⟩
  have c0 : w.cell? ⟨sb, 0, none⟩ = some (.pointer (some ⟨d, 0, none⟩)) := by rw [hS.cell]; rfl
  have c1 : w.cell? ⟨sb, 1, none⟩ = some (.int .i64 room) := by rw [hS.cell]; rfl
  have d0 : (w.alloc (.cells #[.int .u8 0] 5)).cell? ⟨sb, 0, none⟩ = some (.pointer (some ⟨d, 0, none⟩)) := by rw [(hS.alloc _).cell]; rfl
  have d1 : (w.alloc (.cells #[.int .u8 0] 5)).cell? ⟨sb, 1, none⟩ = some (.int .i64 room) := by rw [(hS.alloc _).cell]; rfl
  have hb0 : Below w.heap.size w (w.alloc (.cells #[.int .u8 0] 5)).drew := below_drewN ((Below.refl _ _).alloc (Nat.le_refl _) _) 1
  have q1 : IntKind.i64.wrap ((room : Int) + 1) = (room : Int) + 1 := IntWalk.i64_in _ (by omega)
  have hm : i * (room + 1) ≤ 1024 * 1025 := Nat.mul_le_mul hi2 (by omega)
  have e2 : (i : Int) * ((room : Int) + 1) = ((i * (room + 1) : Nat) : Int) := by push_cast; rfl
  have q2 : IntKind.i64.wrap ((i : Int) * ((room : Int) + 1)) = (i : Int) * ((room : Int) + 1) := IntWalk.i64_in _ (by rw [e2]; omega)
  rw [← hz]
  have HS := Lib.hid hS; have HD := Lib.hid hD; have Hz := Lib.hid hz; have E2 := Lib.hid e2; have Hb0 := Lib.hid hb0
  clear hS hD hz e2 hm hb0
  go_enter Tryz.func70, Tryz.ntmps70
  go_wp2_with fail
  go_region_held3 (fun w' => w'.cell? ⟨sb, 0, none⟩ = some (.pointer (some ⟨d, 0, none⟩)) ∧ w'.cell? ⟨sb, 1, none⟩ = some (.int .i64 room)) (first | exact ⟨c0, c1⟩ | exact ⟨d0, d1⟩ | assumption)
    (first
      | (go_at_call 117
         rw [E2.out]
         refine (dwrite_any d L D (i * (room + 1) : Nat) _ [0] _ (HD.out.below Hb0.out) (Bys.drewN (bys_one w 0 (.int .u8 0) rfl 5) 1) hw).mono ?_
         rintro e w2 ⟨rfl, hD2, hc2⟩
         have hS2 := hc2.blk (HS.out.kept Hb0.out) (fun h => by rcases h with h | h; exact hne.1 h; exact hne.2 h)
         have hh : w2.cell? ⟨sb, 0, none⟩ = some (.pointer (some ⟨d, 0, none⟩)) ∧ w2.cell? ⟨sb, 1, none⟩ = some (.int .i64 room) := ⟨hS2.cell 0, hS2.cell 1⟩
         rw [show ([0] : List UInt8).length = 1 from rfl, ← Hz.out]))
  have HS2 := Lib.hid hS2; have HD2 := Lib.hid hD2
  have HC2 := Lib.hid (show Chg (Tri sb d L) w w2 from (Chg.of_below Hb0.out).trans (hc2.mono fun b h => .inr h))
  have g2 : w2.cell? ⟨sb, 2, none⟩ = some (.slice la n lc) := hS2.cell 2
  have g3 : w2.cell? ⟨sb, 3, none⟩ = some (.bool dead) := hS2.cell 3
  have f3 := hS2.free 3
  clear hS2 hD2 hc2 hh q1 q2 c0 c1 d0 d1
  by_cases h0 : z = 0
  · subst h0
    go_wp2
    go_ret
    exact ⟨rfl, by simpa using HS2.out, HD2.out, HC2.out⟩
  · have t0 : (z != 0) = true := by simpa using h0
    clear h0
    go_wp2
    go_ret
    refine ⟨rfl, ?_, HD2.out.chg (chg1 _ _ _ _) (fun e => hne.1 e.symm) (fun e => hne.2 e.symm), HC2.out.set (.inl rfl) _⟩
    rw [t0, Bool.or_true]
    exact HS2.out.set 3 (.bool true)
def slotB (D : DiskS) (room i : Nat) : Nat → List UInt8
  | 0 => []
  | k + 1 => slotB D room i k ++ D.sector (i * (room + 1) + 1 + k)
theorem slotB_len (D : DiskS) (room i k : Nat) : (slotB D room i k).length = k * 32 := by
  induction k with
  | zero => rfl
  | succ k ih => rw [slotB, List.length_append, ih, sector_len]; omega
def readR (D : DiskS) (room i : Nat) : Sto.Rec × Int × Bool :=
  if D.dead = true then (Sto.Rec.free, 8, false)
  else if D.f (i * (room + 1) * 32) ≠ 1 then (Sto.Rec.free, 0, false)
  else match Sto.parse (slotB D room i room) with
    | some r => (r, 0, false)
    | none => (Sto.Rec.free, D.wres (i * (room + 1) : Nat) 1, true)
def recV (r : Sto.Rec) (dv : Value) : Array Value := #[.bool r.is, .string r.name, .int .i64 r.num, dv]
def ReadPost (sb d L room n lc i : Nat) (la : Option Addr) (dead : Bool) (D : DiskS) (w : World) (e : Ending) (w' : World) : Prop :=
  ∃ dv, e = .returned (.tuple #[.agg (recV (readR D room i).1 dv), .int .i64 (readR D room i).2.1]) ∧ OwnX 5 w' w.heap.size dv (readR D room i).1.data ∧
      Blk w' sb (stV d room la n lc (dead || ((readR D room i).2.2 && ((readR D room i).2.1 != 0)))) 127 ∧ IsDisk w' d L (if (readR D room i).2.2 = true then D.wr (i * (room + 1) : Nat) [0] else D) ∧ Chg (Tri sb d L) w w'
set_option maxRecDepth 20000 in
set_option maxHeartbeats 4000000 in
theorem read_calls (sb d L room n lc i : Nat) (la : Option Addr) (dead : Bool) (D : DiskS) (w : World) (hS : Blk w sb (stV d room la n lc dead) 127) (hD : IsDisk w d L D) (hne : sb ≠ d ∧ sb ≠ L) (hi : n ≤ i) (hi2 : i ≤ 1024) (hr : room ≤ 1024) (hr1 : 1 ≤ room) (hin : (i + 1) * (room + 1) ≤ D.n) (hw : D.writes < 4611686018427387904) :
    Calls Tryz.prog 68 #[.pointer (some ⟨sb, 0, none⟩), .int .i64 i] w (ReadPost sb d L room n lc i la dead D w) := by
  have c0 : w.cell? ⟨sb, 0, none⟩ = some (.pointer (some ⟨d, 0, none⟩)) := by rw [hS.cell]; rfl
  have c1 : w.cell? ⟨sb, 1, none⟩ = some (.int .i64 room) := by rw [hS.cell]; rfl
  have hmul : (i + 1) * (room + 1) = i * (room + 1) + (room + 1) := by rw [Nat.add_mul, Nat.one_mul]
  have hn2 : D.n ≤ 4096 := by obtain ⟨_, _, _, _, _, _, _, _, _, h, _⟩ := hD; exact h
  obtain ⟨m, hm⟩ : ∃ m, m = i * (room + 1) := ⟨_, rfl⟩
  have e2 : (i : Int) * ((room : Int) + 1) = (m : Int) := by rw [hm]; push_cast; rfl
  rw [hmul, ← hm] at hin
  have hb0 : Below w.heap.size w ((w.alloc (.cells #[.bool false, .string { data := #[] }, .int .i64 0, .slice none 0 0] 129)).drew) := below_drewN ((Below.refl _ _).alloc (Nat.le_refl _) _) 1
  have hR0 := Blk.new w #[.bool false, .string { data := #[] }, .int .i64 0, .slice none 0 0] 129
  have d0 : (w.alloc (.cells #[.bool false, .string { data := #[] }, .int .i64 0, .slice none 0 0] 129)).cell? ⟨sb, 0, none⟩ = some (.pointer (some ⟨d, 0, none⟩)) := by rw [(hS.alloc _).cell]; rfl
  have d1 : (w.alloc (.cells #[.bool false, .string { data := #[] }, .int .i64 0, .slice none 0 0] 129)).cell? ⟨sb, 1, none⟩ = some (.int .i64 room) := by rw [(hS.alloc _).cell]; rfl
  have q1 : IntKind.i64.wrap ((room : Int) + 1) = (room : Int) + 1 := IntWalk.i64_in _ (by omega)
  have q2 : IntKind.i64.wrap ((i : Int) * ((room : Int) + 1)) = (i : Int) * ((room : Int) + 1) := IntWalk.i64_in _ (by rw [e2]; omega)
  have HS := Lib.hid hS; have HD := Lib.hid hD; have Hb0 := Lib.hid hb0; have E2 := Lib.hid e2; have Hm := Lib.hid hm; have HR0 := Lib.hid hR0
  clear hS hD hb0 e2 hm hR0 hmul
  go_enter Tryz.func68, Tryz.ntmps68
  go_wp2_with fail
  go_region_held3 (fun w' => w'.cell? ⟨sb, 0, none⟩ = some (.pointer (some ⟨d, 0, none⟩)) ∧ w'.cell? ⟨sb, 1, none⟩ = some (.int .i64 room)) (first | exact ⟨d0, d1⟩ | assumption)
    (first
      | (go_at_call 115
         rw [E2.out]
         refine (dread_any d L D (m : Nat) _ (HD.out.below Hb0.out)).mono ?_
         rintro e w2 ⟨rv, rfl, hrv, hb2⟩
         have hbox2 := HR0.out.drew.below hb2 (by simp)
         have hb2 : Below w.heap.size w w2 := Hb0.out.trans (hb2.mono (by simp))
         have hS2 := HS.out.kept hb2
         have hh : w2.cell? ⟨sb, 0, none⟩ = some (.pointer (some ⟨d, 0, none⟩)) ∧ w2.cell? ⟨sb, 1, none⟩ = some (.int .i64 room) := ⟨hS2.cell 0, hS2.cell 1⟩))
  have hR2 : Blk w2 w.heap.size #[.bool false, .string { data := #[] }, .int .i64 0, .slice none 0 0] 129 := hbox2
  have HRV := Lib.hid hrv; have HS2 := Lib.hid hS2; have HB2 := Lib.hid hb2; have HR2 := Lib.hid hR2
  have d0 : w2.cell? ⟨w.heap.size, 0, none⟩ = some (.bool false) := hR2.cell 0
  have d1 : w2.cell? ⟨w.heap.size, 1, none⟩ = some (.string { data := #[] }) := hR2.cell 1
  have d2 : w2.cell? ⟨w.heap.size, 2, none⟩ = some (.int .i64 0) := hR2.cell 2
  have d3 : w2.cell? ⟨w.heap.size, 3, none⟩ = some (.slice none 0 0) := hR2.cell 3
  have f0 := hR2.free 0; have f1 := hR2.free 1; have f2 := hR2.free 2; have f3 := hR2.free 3
  clear hrv hS2 hb2 hR2 hh hbox2 c0 c1 q1 q2
  have HF := Lib.hid (chg4 w2 w.heap.size)
  by_cases hdead : D.dead = true
  · have Hrr := Lib.hid (show D.rres (m : Nat) = 8 from by unfold DiskS.rres; rw [if_pos (DiskS.may_yes (by omega)), if_pos hdead])
    have HRD := Lib.hid (show readR D room i = (Sto.Rec.free, 8, false) from by unfold readR; rw [if_pos hdead])
    clear hdead
    rw [Hrr.out]
    go_wp2
    refine bodyPost_ret (v := .tuple #[.agg #[.bool false, .string { data := #[] }, .int .i64 0, .slice none 0 0], .int .i64 8]) (by simp [results, Tryz.results68, go_sem, d0, d1, d2, d3]) rfl ?_
    unfold ReadPost
    rw [HRD.out]
    exact ⟨_, rfl, OwnX.nil _ _ _, by simpa using (HS2.out.chg4 (show sb ≠ w.heap.size from Nat.ne_of_lt HS.out.lt) _ _ _ _), IsDisk.chg (HD.out.below HB2.out) (HF.out _ _ _ _) (fun e => by have := HD.out.lt.1; omega) (fun e => by have := HD.out.lt.2; omega), chg_new2 (Chg.of_below HB2.out) (HF.out _ _ _ _) (fun k hk => by omega)⟩
  · have hdead : D.dead = false := by simpa using hdead
    have Hrr := Lib.hid (show D.rres (m : Nat) = 0 from by unfold DiskS.rres; rw [if_pos (DiskS.may_yes (by omega)), if_neg (by rw [hdead]; decide)])
    have Hrd := Lib.hid (show D.rd (m : Nat) = D.sector m from by unfold DiskS.rd; rw [if_pos ⟨DiskS.may_yes (by omega), hdead⟩]; simp)
    have hrv := HRV.out
    rw [Hrd.out] at hrv
    obtain ⟨ra, rc, rfl⟩ := hrv.bys.eq_slice
    obtain ⟨b1, o1, e1, g0⟩ := Bys.byte hrv.bys 0 (by rw [sector_len]; decide)
    subst e1
    have g0 : w2.cell? ⟨b1, o1, none⟩ = some (.int .u8 ((D.f (m * 32)).toNat : Nat)) := by
      have e : (D.sector m).getD 0 0 = D.f (m * 32) := by rw [List.getD_eq_getElem?_getD, sector_get _ _ _ (by decide)]; rfl
      rw [← e]; exact g0
    rw [sector_len, Hrr.out]
    have Hdead := Lib.hid hdead
    clear hrv hdead
    by_cases h1 : D.f (m * 32) = 1
    · rw [h1] at g0
      have g0 : w2.cell? ⟨b1, o1, none⟩ = some (.int .u8 1) := g0
      have H1 := Lib.hid h1
      clear h1
      go_wp2_with fail
      have Q1 := Lib.hid (show IntKind.i64.wrap ((room : Int) + 1) = (room : Int) + 1 from IntWalk.i64_in _ (by omega))
      have Q2 := Lib.hid (show IntKind.i64.wrap ((i : Int) * ((room : Int) + 1)) = (i : Int) * ((room : Int) + 1) from IntWalk.i64_in _ (by rw [E2.out]; omega))
      have Q3 := Lib.hid (show IntKind.i64.wrap ((i : Int) * ((room : Int) + 1) + 1) = (i : Int) * ((room : Int) + 1) + 1 from IntWalk.i64_in _ (by rw [E2.out]; omega))
      have Q4 := Lib.hid (fun (k : Nat) (hk : k < room) => (show IntKind.i64.wrap ((i : Int) * ((room : Int) + 1) + 1 + (k : Int)) = (i : Int) * ((room : Int) + 1) + 1 + (k : Int) from IntWalk.i64_in _ (by rw [E2.out]; omega)))
      have hs2 := HB2.out.size
      have hlt2 := HR2.out.lt
      have hltD := HD.out.lt
      have hltS := HS.out.lt
      go_loopw [8, 43] (fun u v wr => ∃ k : Nat, k ≤ room ∧ v = .int .i64 k ∧ OwnX 5 wr w2.heap.size u (slotB D room i k) ∧ Below w2.heap.size w2 wr) (fun _ v _ => room - (intOf v).toNat)
      case atStart => exact ⟨0, by omega, rfl, OwnX.nil _ _ _, Below.refl _ _⟩
      case round =>
        clear d0 d1 d2 d3 f0 f1 f2 f3 g0
        obtain ⟨k, hk, rfl, ho, hb⟩ := hrel
        have hSr := HS2.out.kept hb
        by_cases hkr : k < room
        · have a0 : wr.cell? ⟨sb, 0, none⟩ = some (.pointer (some ⟨d, 0, none⟩)) := hSr.cell 0
          have a1 : wr.cell? ⟨sb, 1, none⟩ = some (.int .i64 room) := hSr.cell 1
          have q1 := Q1.out; have q2 := Q2.out; have q3 := Q3.out; have q4 := Q4.out k hkr
          have HSr := Lib.hid hSr; have Hbr := Lib.hid hb; have HO := Lib.hid ho
          have hrr := Lib.hid (show D.rres ((m + 1 + k : Nat) : Int) = 0 from by unfold DiskS.rres; rw [if_pos (DiskS.may_yes (by omega)), if_neg (by rw [Hdead.out]; decide)])
          have hrd := Lib.hid (show D.rd ((m + 1 + k : Nat) : Int) = D.sector (m + 1 + k) from by unfold DiskS.rd; rw [if_pos ⟨DiskS.may_yes (by omega), Hdead.out⟩, Int.toNat_natCast])
          have E3 := Lib.hid (show (i : Int) * ((room : Int) + 1) + 1 + (k : Int) = ((m + 1 + k : Nat) : Int) from by rw [E2.out]; push_cast; rfl)
          clear hSr hb ho
          go_wp2_with fail
          go_region_held3 (fun w' => w'.cell? ⟨sb, 0, none⟩ = some (.pointer (some ⟨d, 0, none⟩)) ∧ w'.cell? ⟨sb, 1, none⟩ = some (.int .i64 room)) (first | exact ⟨a0, a1⟩ | assumption)
            (first
              | (go_at_call 115
                 rw [E3.out]
                 refine (dread_any d L D ((m + 1 + k : Nat) : Int) _ ((HD.out.below (HB2.out.trans (Hbr.out.mono hs2))).drewN 1)).mono ?_
                 rintro e w4 ⟨rv, rfl, hrv, hb4⟩
                 have hb4 : Below wr.heap.size wr w4 := of_drew hb4
                 have hS4 := HSr.out.kept hb4
                 have hh : w4.cell? ⟨sb, 0, none⟩ = some (.pointer (some ⟨d, 0, none⟩)) ∧ w4.cell? ⟨sb, 1, none⟩ = some (.int .i64 room) := ⟨hS4.cell 0, hS4.cell 1⟩
                 rw [hrd.out] at hrv
                 rw [hrr.out]))
          have HS4 := Lib.hid hS4; have HB4 := Lib.hid hb4; have HRV4 := Lib.hid hrv.bys
          have hsr := Hbr.out.size
          have hs4 := HB4.out.size
          have hlt8 := HO.out.lt
          have hln := slotB_len D room i k
          have Hfin := Lib.hid (show slotB D room i (k + 1) = slotB D room i k ++ D.sector (m + 1 + k) from by rw [slotB, Hm.out])
          clear hS4 hb4 hrv hh q1 q2 q3 q4 a0 a1
          go_wp2_with (at_builtin; refine appX E8c rfl _ _ rfl (base := w2.heap.size) (news := D.sector (m + 1 + k)) rfl rfl (HO.out.below HB4.out) HRV4.out ?z1 ?z2 ?_)
          case z1 =>
            have hm2 : k * 32 ≤ 1024 * 32 := Nat.mul_le_mul (by omega) (Nat.le_refl _)
            rw [hln, sector_len]; omega
          case z2 => omega
          intro v5 w5 ho5 hg5
          have hb5 := grown_below (Hbr.out.trans (HB4.out.mono hsr)) hg5 (fun q hq => (hlt8 q hq).1)
          rw [← Hfin.out] at ho5
          clear hg5 hln
          go_wp2
          exact ⟨⟨k + 1, by omega, by go_num, ho5, hb5⟩, by simp [intOf] <;> omega⟩
        · obtain rfl : k = room := by omega
          have hbox := HR2.out.kept hb
          have hDr := HD.out.below (HB2.out.trans (hb.mono hs2))
          have hBr := HB2.out.trans (hb.mono hs2)
          have hlen := slotB_len D k i k
          have HBX := Lib.hid hbox; have HDR := Lib.hid hDr; have HBR := Lib.hid hBr; have HO := Lib.hid ho; have HSR := Lib.hid hSr
          have hsr := hb.size
          clear hbox hDr hBr hSr hb
          go_wp2_with fail
          refine (parse_calls _ _ wr HO.out.bys (by
            have hm2 : k * 32 ≤ 1024 * 32 := Nat.mul_le_mul (by omega) (Nat.le_refl _)
            rw [hlen]; omega)).mono ?_
          rintro e w6 ⟨hb6, ⟨r, hp, dv, rfl, hdv⟩ | ⟨hp, v, rfl, hv⟩⟩
          · have HRD := Lib.hid (show readR D k i = (r, 0, false) from by unfold readR; rw [if_neg (by rw [Hdead.out]; decide), ← Hm.out, if_neg (by rw [H1.out]; decide), hp])
            have hri : r.is = true := by
              unfold Sto.parse at hp
              split at hp
              · cases hp
              · split at hp
                · injection hp with hp; rw [← hp]
                · cases hp
            obtain ⟨da, dc, rfl⟩ := hdv.eq_slice
            have hbox6 := HBX.out.kept hb6
            have HB6 := Lib.hid (HBR.out.trans (hb6.mono (Nat.le_trans hs2 hsr)))
            have h6s := hb6.size
            have x0 : w6.cell? ⟨w.heap.size, 0, none⟩ = some (.bool false) := hbox6.cell 0
            have x1 : w6.cell? ⟨w.heap.size, 1, none⟩ = some (.string { data := #[] }) := hbox6.cell 1
            have x2 : w6.cell? ⟨w.heap.size, 2, none⟩ = some (.int .i64 0) := hbox6.cell 2
            have x3 : w6.cell? ⟨w.heap.size, 3, none⟩ = some (.slice none 0 0) := hbox6.cell 3
            have y0 : ∀ o, (w6.alloc o).cell? ⟨w.heap.size, 0, none⟩ = some (.bool false) := fun o => (hbox6.alloc o).cell 0
            have y1 : ∀ o, (w6.alloc o).cell? ⟨w.heap.size, 1, none⟩ = some (.string { data := #[] }) := fun o => (hbox6.alloc o).cell 1
            have y2 : ∀ o, (w6.alloc o).cell? ⟨w.heap.size, 2, none⟩ = some (.int .i64 0) := fun o => (hbox6.alloc o).cell 2
            have y3 : ∀ o, (w6.alloc o).cell? ⟨w.heap.size, 3, none⟩ = some (.slice none 0 0) := fun o => (hbox6.alloc o).cell 3
            have z0 : ∀ o, (w6.alloc o).frozen? ⟨w.heap.size, 0, none⟩ = false := fun o => (hbox6.alloc o).free 0
            have z1 : ∀ o, (w6.alloc o).frozen? ⟨w.heap.size, 1, none⟩ = false := fun o => (hbox6.alloc o).free 1
            have z2 : ∀ o, (w6.alloc o).frozen? ⟨w.heap.size, 2, none⟩ = false := fun o => (hbox6.alloc o).free 2
            have z3 : ∀ o, (w6.alloc o).frozen? ⟨w.heap.size, 3, none⟩ = false := fun o => (hbox6.alloc o).free 3
            have HF6 := Lib.hid (fun (o : Obj) => chg4 (w6.alloc o) w.heap.size)
            have HS6 := Lib.hid (fun (o : Obj) => (HS.out.kept HB6.out).alloc o)
            have HD6 := Lib.hid (fun (o : Obj) => (HD.out.below HB6.out).below ((Below.refl _ _).alloc (Nat.le_refl _) o))
            have HDV := Lib.hid (fun (o : Obj) => hdv.alloc o)
            have HP := Lib.hid hp; have HRI := Lib.hid hri
            clear hp hri hbox6 hb6 hdv
            go_wp2
            refine bodyPost_ret (v := .tuple #[.agg #[.bool true, .string r.name, .int .i64 (r.num : Int), .slice da r.data.length dc], .int .i64 0]) (by simp [results, Tryz.results68, go_sem, y0, y1, y2, y3]) rfl ?_
            unfold ReadPost
            rw [HRD.out]
            refine ⟨.slice da r.data.length dc, by rw [recV, HRI.out], ?_, by simpa using ((HS6.out _).chg4 (show sb ≠ w.heap.size from Nat.ne_of_lt hltS) _ _ _ _), IsDisk.chg (HD6.out _) (HF6.out _ _ _ _ _) (fun e => by omega) (fun e => by omega), chg_new2 (Chg.of_below (HB6.out.alloc HB6.out.size _)) (HF6.out _ _ _ _ _) (fun k hk => by omega)⟩
            exact ((HDV.out _).chg (HF6.out _ _ _ _ _) (fun g hg e => by have := ((HDV.out (.cells #[] 0)).lt g hg).1; omega)).mono (by omega)
          · obtain ⟨vb, vs, vz, vd, rfl, da, dl, dc, rfl⟩ := hv
            have HRD := Lib.hid (show readR D k i = (Sto.Rec.free, D.wres (i * (k + 1) : Nat) 1, true) from by unfold readR; rw [if_neg (by rw [Hdead.out]; decide), ← Hm.out, if_neg (by rw [H1.out]; decide), hp])
            have hbox6 := HBX.out.kept hb6
            have hal : ∀ o, Below w6.heap.size w6 (w6.alloc o) := fun o => (Below.refl _ _).alloc (Nat.le_refl _) o
            have HB6 := Lib.hid (HBR.out.trans (hb6.mono (Nat.le_trans hs2 hsr)))
            have h6s := hb6.size
            have HF6 := Lib.hid (fun (o : Obj) => free_new sb d L k n lc i la dead D (w6.alloc o) ((HS.out.kept HB6.out).alloc o) ((HD.out.below HB6.out).below (hal o)) hne hi hi2 hr hw)
            have HX6 := Lib.hid (fun (o : Obj) => hbox6.alloc o)
            have HAL := Lib.hid hal
            clear hp hbox6 hb6 hal
            go_wp2_with fail
            refine (HF6.out _).mono ?_
            rintro e w7 ⟨rfl, hS7, hD7, hc7⟩
            have hdn : ¬ Tri sb d L w.heap.size := fun e => by rcases e with e | e | e <;> omega
            have hbox7 := hc7.blk (HX6.out _) hdn
            have x0 : w7.cell? ⟨w.heap.size, 0, none⟩ = some (.bool false) := hbox7.cell 0
            have x1 : w7.cell? ⟨w.heap.size, 1, none⟩ = some (.string { data := #[] }) := hbox7.cell 1
            have x2 : w7.cell? ⟨w.heap.size, 2, none⟩ = some (.int .i64 0) := hbox7.cell 2
            have x3 : w7.cell? ⟨w.heap.size, 3, none⟩ = some (.slice none 0 0) := hbox7.cell 3
            have z0 := hbox7.free 0; have z1 := hbox7.free 1; have z2 := hbox7.free 2; have z3 := hbox7.free 3
            obtain ⟨z, hz⟩ : ∃ z, z = D.wres (i * (k + 1) : Nat) 1 := ⟨_, rfl⟩
            rw [← hz] at hS7 ⊢
            have Hz := Lib.hid hz; have HS7 := Lib.hid hS7; have HD7 := Lib.hid hD7
            have HC7 := Lib.hid (show Chg (Tri sb d L) w w7 from (Chg.of_below (HB6.out.alloc HB6.out.size _)).trans hc7)
            have HF7 := Lib.hid (chg4 w7 w.heap.size)
            clear hz hS7 hD7 hc7 hbox7
            go_wp2
            refine bodyPost_ret (v := .tuple #[.agg #[.bool false, .string { data := #[] }, .int .i64 0, .slice none 0 0], .int .i64 z]) (by simp [results, Tryz.results68, go_sem, x0, x1, x2, x3]) rfl ?_
            unfold ReadPost
            rw [HRD.out, ← Hz.out]
            exact ⟨_, rfl, OwnX.nil _ _ _, by simpa using (HS7.out.chg4 (show sb ≠ w.heap.size from Nat.ne_of_lt hltS) _ _ _ _), IsDisk.chg HD7.out (HF7.out _ _ _ _) (fun e => by omega) (fun e => by omega), chg_new2 HC7.out (HF7.out _ _ _ _) (fun k hk => by omega)⟩
    · have HRD := Lib.hid (show readR D room i = (Sto.Rec.free, 0, false) from by unfold readR; rw [if_neg (by rw [Hdead.out]; decide), ← Hm.out, if_pos h1])
      obtain ⟨u1, hu1⟩ : ∃ u1, u1 = D.f (m * 32) := ⟨_, rfl⟩
      rw [← hu1] at g0 h1
      have t1 : (((u1.toNat : Nat) : Int) != 1) = true := neq_u8 (k := 1) (by decide) h1
      clear hu1 h1
      go_wp2
      refine bodyPost_ret (v := .tuple #[.agg #[.bool false, .string { data := #[] }, .int .i64 0, .slice none 0 0], .int .i64 0]) (by simp [results, Tryz.results68, go_sem, d0, d1, d2, d3]) rfl ?_
      unfold ReadPost
      rw [HRD.out]
      exact ⟨_, rfl, OwnX.nil _ _ _, by simpa using (HS2.out.chg4 (show sb ≠ w.heap.size from Nat.ne_of_lt HS.out.lt) _ _ _ _), IsDisk.chg (HD.out.below HB2.out) (HF.out _ _ _ _) (fun e => by have := HD.out.lt.1; omega) (fun e => by have := HD.out.lt.2; omega), chg_new2 (Chg.of_below HB2.out) (HF.out _ _ _ _) (fun k hk => by omega)⟩
end Go.Proofs.YtclhgokchcklbaaGreatDoor
end
section
namespace Go.Mem
open Go Go.RowKit Gf
section
variable {P : Program} {w : World} {ops : Array Oper} {rest : List Oper} {o : Oper} {a : Act} {Q : Exit → Act → World → Prop} {K : Act → World → Prop} {E0 : Prop}
theorem wpAppK {t e : TypeId} {z : Value} {size bytes : Nat} (E : ElemK P t e z size bytes) (s x : Operand) (ho : o.op = .call { callee := .builtin .append, args := #[s, x], argTypes := #[t, t] })
    {base : Nat} {v : Value} {n : Nat} {xs : List Value} (news : List Value) (hs : a.eval s = v) {mb : Nat} (hx : a.eval x = .slice (some ⟨mb, 0, none⟩) 1 1) (hl : news.length = size) (hnews : ∀ j u, news[j]? = some u → w.cell? ⟨mb, j, none⟩ = some u) (h1 : ∀ u ∈ news, u.oneCell' = true)
    (hown : w.ownsRow base e size v n xs) (hn : n + 1 ≤ 4294967296) (hby : bytes ≤ 4096) (hbase : base ≤ w.heap.size)
    (h : ∀ v' w', w'.ownsRow base e size v' (n + 1) (xs ++ news) ∧ w.grownBy w' v.ownBlock → K (a.put o.dst v') w') : o.wp P a w K Q := by
  obtain ⟨i, hi, hz, hsz, hb⟩ := info_parts E.info
  have hm : (n + 1) * bytes ≤ 4294967296 * 4096 := Nat.mul_le_mul hn hby
  exact wp_append_own w s x t ho base e i z size bytes E.under hi hz hsz hb E.zsize E.pos v n xs hs hown ⟨mb, 0, none⟩ 1 1 news hx (by omega)
    (fun j y hj => by
      rw [show (⟨mb, 0, none⟩ : Addr).add j = ⟨mb, j, none⟩ from by unfold Addr.add; split <;> simp_all]
      exact hnews j y hj)
    h1 (by unfold maxLen; omega) (by omega) hbase (fun v' w' h2 h3 _ => h v' w' ⟨h2, h3⟩)
theorem stepAppK {t e : TypeId} {z : Value} {size bytes : Nat} (E : ElemK P t e z size bytes) (hgd : o.guard = none) (s x : Operand) (ho : o.op = .call { callee := .builtin .append, args := #[s, x], argTypes := #[t, t] })
    {base : Nat} {v : Value} {n : Nat} {xs : List Value} (news : List Value) (hs : a.eval s = v) {mb : Nat} (hx : a.eval x = .slice (some ⟨mb, 0, none⟩) 1 1) (hl : news.length = size) (hnews : ∀ j u, news[j]? = some u → w.cell? ⟨mb, j, none⟩ = some u) (h1 : ∀ u ∈ news, u.oneCell' = true)
    (hown : w.ownsRow base e size v n xs) (hn : n + 1 ≤ 4294967296) (hby : bytes ≤ 4096) (hbase : base ≤ w.heap.size)
    (h : ∀ v' w', w'.ownsRow base e size v' (n + 1) (xs ++ news) → w.grownBy w' v.ownBlock → K (a.put o.dst v') w') : if Region.wanted o (yielded ops a.tmps) = true then Oper.wp P o a w K Q else E0 :=
  to_step hgd (fun _ hK => wpAppK E s x ho news hs hx hl hnews h1 hown hn hby hbase hK) fun v' w' h2 => h v' w' h2.1 h2.2
end
theorem own_chg {S : Nat → Prop} {w w' : World} {base : Nat} {e : TypeId} {size n : Nat} {v : Value} {xs : List Value} (h : w.ownsRow base e size v n xs) (hc : Chg S w w') (hs : ∀ g, v.ownBlock = some g → ¬ S g) : w'.ownsRow base e size v n xs := by
  refine ⟨h.1, ?_⟩
  rcases h.2 with hn | ⟨g, cap, cur, rfl, hb, hg, rest⟩
  · exact .inl hn
  · exact .inr ⟨g, cap, cur, rfl, hb, (hc.block g (lt_of_block hg) (hs g rfl)).trans hg, rest⟩
theorem own_eq_slice {w : World} {base : Nat} {e : TypeId} {size n : Nat} {v : Value} {xs : List Value} (h : w.ownsRow base e size v n xs) : ∃ a c, v = .slice a n c ∧ (0 < n → ∃ g, a = some ⟨g, 0, none⟩) := by
  rcases h.2 with ⟨rfl, rfl⟩ | ⟨g, cap, cur, rfl, _⟩
  · exact ⟨none, 0, rfl, fun h => by omega⟩
  · exact ⟨_, cap, rfl, fun _ => ⟨g, rfl⟩⟩
theorem Chg.grown {S : Nat → Prop} {w w' w'' : World} {row : Option Nat} (h : Chg S w w') (hg : w'.grownBy w'' row) (hr : ∀ q, row = some q → S q ∨ w.heap.size ≤ q) : Chg S w w'' :=
  ⟨hg.os.trans h.os, hg.tape.trans h.tape, hg.output.trans h.output, Nat.le_trans h.size hg.size, fun k hk hs => (hg.block k (Nat.lt_of_lt_of_le hk h.size) (fun e => by rcases hr k e.symm with h | h; exact hs h; omega)).trans (h.block k hk hs)⟩
theorem Chg.mix {S T : Nat → Prop} {w w' w'' : World} (h : Chg S w w') (h' : Chg T w' w'') (hT : ∀ k, T k → S k ∨ w.heap.size ≤ k) : Chg S w w'' :=
  ⟨h'.os.trans h.os, h'.tape.trans h.tape, h'.output.trans h.output, Nat.le_trans h.size h'.size, fun k hk hs => (h'.block k (Nat.lt_of_lt_of_le hk h.size) (fun ht => by rcases hT k ht with h | h; exact hs h; omega)).trans (h.block k hk hs)⟩
theorem Blk.grown' {w w' : World} {b : Nat} {arr : Array Value} {t : TypeId} {row : Option Nat} (hb : Blk w b arr t) (hg : w.grownBy w' row) (hr : row ≠ some b) : Blk w' b arr t := by
  unfold Blk at *
  rw [hg.block b (lt_of_block hb) (fun e => hr e.symm)]
  exact hb
theorem new_news {w : World} {arr : Array Value} {t : TypeId} {news : List Value} (h : arr = news.toArray) : ∀ j u, news[j]? = some u → (w.alloc (.cells arr t)).cell? ⟨w.heap.size, j, none⟩ = some u := fun j u hu => by
  rw [(Blk.new w arr t).cell, h]
  simpa using hu
theorem run_append_own_new {P : Program} (w : World) (base : Nat) (t ty e : TypeId) (i : TypeInfo) (z : Value) (size bytes : Nat) (ht : P.underlying t = some (.slice e)) (hi : P.info? e = some i) (hz : i.zero = some z)
    (hsize : i.size = size) (hby : i.bytes = bytes) (hzs : z.cells.size = size) (hsz : 0 < size)
    (v : Value) (n : Nat) (xs : List Value) (hown : w.ownsRow base e size v n xs)
    (a : Addr) (m c : Nat) (news : List Value) (hl : news.length = m * size) (hnews : ∀ j u, news[j]? = some u → w.cell? (a.add j) = some u) (h1 : ∀ u ∈ news, u.oneCell' = true)
    (h63 : n + m ≤ maxLen) (hbytes : (n + m) * bytes ≤ 140737488355328) (hbase : base ≤ w.heap.size) :
    ∃ v' w', (Builtin.append_ #[t, t] ty #[v, .slice (some a) m c]).run P w = .ok v' w' ∧ w'.ownsRow base e size v' (n + m) (xs ++ news) ∧ w.grownBy w' v.ownBlock ∧
      (∀ k, v'.ownBlock = some k → v.ownBlock = some k ∨ w.heap.size ≤ k) := by
  obtain ⟨v', w', hr, h2, h3, _⟩ := run_append_own (P := P) w base t ty e i z size bytes ht hi hz hsize hby hzs hsz v n xs hown a m c news hl hnews h1 h63 hbytes hbase
  refine ⟨v', w', hr, h2, h3, fun k hk => ?_⟩
  have hsmall : n + m ≤ 9223372036854775807 := by simp only [maxLen] at h63; omega
  have hown0 := hown
  rcases hown.2 with ⟨rfl, rfl⟩ | ⟨g, cap, cur, rfl, hbg, hg, hnc, hcm, hcs, htake⟩
  · right
    have hx : xs = [] := List.eq_nil_of_length_eq_zero (by simpa using hown.1)
    subst hx
    obtain ⟨v2, w2, hr2, h22, _, _⟩ := run_append_own (P := P) w w.heap.size t ty e i z size bytes ht hi hz hsize hby hzs hsz _ 0 [] (World.ownsRow_nil w w.heap.size e size) a m c news hl hnews h1 h63 hbytes (Nat.le_refl _)
    rw [hr] at hr2
    injection hr2 with e1 e2
    subst e1
    exact (h22.lt k hk).1
  · subst hsize
    subst hby
    by_cases hroom : n + m ≤ cap
    · left
      have hfit : n * i.size + news.length ≤ cur.size := by rw [hl, hcs, ← Nat.add_mul]; exact Nat.mul_le_mul_right _ hroom
      have hr3 := run_append_room (P := P) w t ty e i ht hi g n cap cur hg a m c news hl hnews h1 hroom hfit
      rw [hr] at hr3
      injection hr3 with e1 e2
      subst e1
      exact hk
    · right
      have holds : ∀ j u, xs[j]? = some u → w.cell? ((⟨g, 0, none⟩ : Addr).add j) = some u := hown0.cells (g := g) rfl
      have hr3 := run_append_grow (P := P) w t ty e i z ht hi hz ⟨g, 0, none⟩ n cap xs hown0.1 holds a m c news hl hnews (by omega) (by omega) (growslice_fits (by omega) hbytes)
      rw [hr] at hr3
      injection hr3 with e1 e2
      subst e1
      have hk2 : w.heap.size = k := by simpa [Value.ownBlock] using hk
      omega
section
variable {P : Program} {w : World} {ops : Array Oper} {rest : List Oper} {o : Oper} {a : Act} {Q : Exit → Act → World → Prop} {K : Act → World → Prop} {E0 : Prop}
theorem stepAppN {t e : TypeId} {z : Value} {size bytes : Nat} (E : ElemK P t e z size bytes) (hgd : o.guard = none) (s x : Operand) (ho : o.op = .call { callee := .builtin .append, args := #[s, x], argTypes := #[t, t] })
    {base : Nat} {v : Value} {n m cx : Nat} {xs : List Value} (news : List Value) (hs : a.eval s = v) {mb : Nat} (hx : a.eval x = .slice (some ⟨mb, 0, none⟩) m cx) (hl : news.length = m * size) (hnews : ∀ j u, news[j]? = some u → w.cell? ⟨mb, j, none⟩ = some u) (h1 : ∀ u ∈ news, u.oneCell' = true)
    (hown : w.ownsRow base e size v n xs) (hn : n + m ≤ 4294967296) (hby : bytes ≤ 4096) (hbase : base ≤ w.heap.size)
    (h : ∀ v' w', w'.ownsRow base e size v' (n + m) (xs ++ news) → w.grownBy w' v.ownBlock → (∀ k, v'.ownBlock = some k → v.ownBlock = some k ∨ w.heap.size ≤ k) → K (a.put o.dst v') w') : if Region.wanted o (yielded ops a.tmps) = true then Oper.wp P o a w K Q else E0 := by
  have hw : Region.wanted o (yielded ops a.tmps) = true := by simp [Region.wanted, hgd]
  rw [if_pos hw]
  obtain ⟨i, hi, hz, hsz, hb⟩ := info_parts E.info
  have hm : (n + m) * bytes ≤ 4294967296 * 4096 := Nat.mul_le_mul hn hby
  obtain ⟨v', w', hr, h2, h3, h4⟩ := run_append_own_new (P := P) w base t o.type e i z size bytes E.under hi hz hsz hb E.zsize E.pos v n xs hown ⟨mb, 0, none⟩ m cx news (by omega)
    (fun j y hj => by
      rw [show (⟨mb, 0, none⟩ : Addr).add j = ⟨mb, j, none⟩ from by unfold Addr.add; split <;> simp_all]
      exact hnews j y hj)
    h1 (by unfold maxLen; omega) (by omega) hbase
  unfold Oper.wp execOp
  simp only [ho, resolve, invoke, builtin, Sem.run_bind, Sem.run_pure, Result.andThen_ok, List.map_toArray, List.map_cons, List.map_nil, hs, hx, hr]
  exact h v' w' h2 h3 h4
end
end Go.Mem
end
