/- The walk of DiskPlays: acts of the program's disk and of the document's are alike, whatever the input. -/
import Derived.Test.YtofhbmdhenjmeaaDiskPlay
namespace Go.Mem
open Go Go.ChangeShapes Go.WideShapes Go.ChangeAt Go.RowKit Gf
theorem opens_act {P : Program} {t ti tb t8 : TypeId} {f0 f1 f2 f3 f4 : Field} (ht : P.underlying t = some (.struct #[f0, f1, f2, f3, f4])) (hi : P.underlying ti = some (.int .i64)) (hb : P.underlying tb = some (.slice t8)) (h8 : P.underlying t8 = some (.int .u8))
    (e0 : f0.type = ti) (e1 : f1.type = ti) (e2 : f2.type = ti) (e3 : f3.type = ti) (e4 : f4.type = tb) (o0 : f0.offset = 0) (o1 : f1.offset = 1) (o2 : f2.offset = 2) (o3 : f3.offset = 3) (o4 : f4.offset = 4)
    (ct : P.cellsOf t = 5) (ci : P.cellsOf ti = 1) (cb : P.cellsOf tb = 1) (c8 : P.cellsOf t8 = 1) : Opens P t ActR := fun {_ _ W _ _ _ _ cs x} h => by
  have hl := opens_size ht h
  obtain ⟨z0, r0, _⟩ := opens_field ht h 0 f0 rfl (by rw [e0]; exact opens_i64 hi)
  obtain ⟨z1, r1, _⟩ := opens_field ht h 1 f1 rfl (by rw [e1]; exact opens_i64 hi)
  obtain ⟨z2, r2, b2⟩ := opens_field ht h 2 f2 rfl (by rw [e2]; exact opens_i64 hi)
  obtain ⟨z3, r3, _⟩ := opens_field ht h 3 f3 rfl (by rw [e3]; exact opens_i64 hi)
  obtain ⟨bs, v, r4, hv⟩ := opens_field ht h 4 f4 rfl (by rw [e4]; exact opens_bytes hb h8 c8)
  rw [ct] at hl
  rw [e0, ci, o0] at r0; rw [e1, ci, o1] at r1; rw [e2, ci, o2] at r2; rw [e3, ci, o3] at r3; rw [e4, cb, o4] at r4
  match cs, hl, r0, r1, r2, r3, r4 with
  | [a, b, c, d, e], _, r0, r1, r2, r3, r4 =>
    simp at r0 r1 r2 r3 r4
    obtain ⟨rfl⟩ := r0; obtain ⟨rfl⟩ := r1; obtain ⟨rfl⟩ := r2; obtain ⟨rfl⟩ := r3; obtain ⟨rfl⟩ := r4
    exact ⟨⟨z0, z1, z2, z3, bs⟩, _, rfl, hv, b2.2⟩
end Go.Mem
namespace Go.Proofs.Ytofhbmdhenjmeaa
open Go Go.RowKit Go.Mem Gf
theorem acts_open : Opens Try.prog 39 (fun W cs (l : List ActT) => ∃ v, cs = [v] ∧ Sls 5 ActR W v l) :=
  opens_slice Try.underlying39 (by kernel_rfl) (by decide)
    (opens_act Try.underlying55 Try.underlying3 Try.underlying27 Try.underlying5 rfl rfl rfl rfl rfl rfl rfl rfl rfl rfl (by kernel_rfl) (by kernel_rfl) (by kernel_rfl) (by kernel_rfl))
theorem two_new {w w' : World} {d L r B : Nat} {n0 k : Nat} (h : Two n0 w w' d L r B k) (hs : w.heap.size ≤ d ∧ w.heap.size ≤ L ∧ w.heap.size ≤ r ∧ w.heap.size ≤ B) : Below w.heap.size w w' := by
  obtain ⟨s, _, _, _, hc⟩ := h
  exact hc.below (Nat.le_refl _) fun k hk => by rcases hk with (rfl | rfl) | rfl | rfl <;> omega
theorem two_at {w w' : World} {d L r B : Nat} {n0 k : Nat} (h : Two n0 w w' d L r B k) : Two (n0 + k) w' w' d L r B 0 := by
  obtain ⟨s, h1, h2, h3, _⟩ := h
  exact ⟨s, h1, h2, by omega, Chg.refl _ _⟩
theorem two_chg {w w' w'' : World} {S : Nat → Prop} {d L r B : Nat} {n0 : Nat} (h : Two n0 w w' d L r B 0) (hc : Chg S w' w'') (h1 : ¬ S d) (h2 : ¬ S L) (h3 : ¬ S r) (h4 : ¬ S B) : Two n0 w'' w'' d L r B 0 := by
  obtain ⟨s, a, b, c, _⟩ := h
  exact ⟨s, a.chg hc h1 h2, b.chg hc h3 h4, by omega, Chg.refl _ _⟩
theorem two_lt {w w' : World} {d L r B : Nat} {n0 k : Nat} (h : Two n0 w w' d L r B k) : d < w'.heap.size ∧ L < w'.heap.size ∧ r < w'.heap.size ∧ B < w'.heap.size := by
  obtain ⟨s, h1, h2, _⟩ := h
  exact ⟨h1.lt.1, h1.lt.2, h2.lt.1, h2.lt.2⟩
set_option maxRecDepth 20000 in
set_option maxHeartbeats 4000000 in
theorem diskPlays_walk (W : World) (n : Int) (hn : -9223372036854775808 ≤ n ∧ n ≤ 9223372036854775807) (va : Value) (la : List ActT) (ha : Sls 5 ActR W va la) (vb : Value) (lb : List ActT) (hb : Sls 5 ActR W vb lb) :
    Calls Try.prog 5 #[.int .i64 n, va, vb] W fun e w' => e = .returned (.bool true) ∧ Below W.heap.size W w' := by
  obtain ⟨hn1, hn2⟩ := hn
  by_cases hc : 20 < n ∧ n ≤ 4096
  · obtain ⟨g1, g2⟩ := hc
    have hr := within_range n 20 (by decide)
    go_enter Try.func5, Try.ntmps5
    go_wp2_with fail
    refine (within_calls n 20 (by decide) (by decide) _).mono ?_
    rintro e w2 ⟨rfl, rfl⟩
    obtain ⟨k, hk⟩ : ∃ k, k = within n 20 := ⟨_, rfl⟩
    rw [← hk] at hr ⊢
    obtain ⟨hk1, hk2⟩ := hr
    clear hk g1 g2 hn1 hn2
    by_cases h0 : k < 1
    · go_wp2_with fail
      refine (dnew_bad _ _ (.inl (by omega))).mono ?_
      rintro e w3 ⟨rfl, rfl⟩
      go_wp2_with fail
      refine (rnew_bad _ _ (.inl (by omega))).mono ?_
      rintro e w3 ⟨rfl, rfl⟩
      go_wp2_with fail
      refine (wakes10_calls _).mono ?_
      rintro e w3 ⟨rfl, hb3⟩
      go_wp2
      go_ret
      exact ⟨rfl, hb3⟩
    · obtain ⟨m, rfl⟩ : ∃ m : Nat, k = m := ⟨k.toNat, by omega⟩
      have m1 : 1 ≤ m := by omega
      have m2 : m ≤ 4096 := by omega
      clear h0 hk1 hk2
      go_wp2_with fail
      refine (dnew_calls m _ m1 m2).mono ?_
      rintro e w3 ⟨d, L, rfl, hD, hd1, hd2, hb3⟩
      go_wp2_with fail
      refine (rnew_calls m _ m1 m2).mono ?_
      rintro e w4 ⟨r, B, rfl, hR, hr1, hr2, hb4⟩
      have hs3 := hb3.size
      have hl3 := hD.lt
      have ht4 : Two 0 w4 w4 d L r B 0 := ⟨_, hD.below hb4, hR, Nat.le_refl _, Chg.refl _ _⟩
      have hW4 : Below W.heap.size W w4 := hb3.trans (hb4.mono hs3)
      have hne : d ≠ r ∧ d ≠ B ∧ L ≠ r ∧ L ≠ B := by omega
      have hg : W.heap.size ≤ d ∧ W.heap.size ≤ L ∧ W.heap.size ≤ r ∧ W.heap.size ≤ B := by omega
      go_wp2_with fail
      refine (play_calls W va la ha d L r B 0 w4 hW4 ht4 hg hne (by decide)).mono ?_
      rintro e w5 ⟨rfl, ht5⟩
      have hW5 : Below W.heap.size W w5 := by obtain ⟨s, _, _, _, hc⟩ := ht5; exact four_below hW4 hg (Nat.le_trans hs3 hb4.size) hc
      have ht5 := two_at ht5
      go_wp2_with fail
      obtain ⟨s5, hD5, hR5, hw5, _⟩ := id ht5
      refine (dclone_calls d L s5 w5 hD5).mono ?_
      rintro e w6 ⟨d2, L2, rfl, hD6, hd21, hd22, hb6⟩
      go_wp2_with fail
      refine (rcopy_calls r B s5 w6 (hR5.below hb6)).mono ?_
      rintro e w7 ⟨r2, B2, rfl, hR7, hr21, hr22, hb7⟩
      have hs6 := hb6.size
      have hl6 := hD6.lt
      have hl5 := two_lt ht5
      have hs5 := hW5.size
      have hb57 : Below w5.heap.size w5 w7 := hb6.trans (hb7.mono hs6)
      have ht7 : Two 40 w7 w7 d2 L2 r2 B2 0 := ⟨_, hD6.below hb7, hR7, by omega, Chg.refl _ _⟩
      have hW7 : Below W.heap.size W w7 := hW5.trans (hb57.mono hs5)
      have hne2 : d2 ≠ r2 ∧ d2 ≠ B2 ∧ L2 ≠ r2 ∧ L2 ≠ B2 := by omega
      have hg2 : W.heap.size ≤ d2 ∧ W.heap.size ≤ L2 ∧ W.heap.size ≤ r2 ∧ W.heap.size ≤ B2 := by omega
      go_wp2_with fail
      refine (play_calls W vb lb hb d2 L2 r2 B2 40 w7 hW7 ht7 hg2 hne2 (by decide)).mono ?_
      rintro e w8 ⟨rfl, ht8⟩
      obtain ⟨s8, _, _, _, hc8⟩ := id ht8
      have hW8 : Below W.heap.size W w8 := four_below hW7 hg2 (Nat.le_trans hs5 hb57.size) hc8
      have ht57 := two_chg ht5 (Chg.of_below (S := fun _ => False) hb57) id id id id
      have hap : ∀ k, k < w5.heap.size → ¬ Four d2 L2 r2 B2 k := fun k hk e => by rcases e with (rfl | rfl) | rfl | rfl <;> omega
      have ht58 := two_chg ht57 hc8 (hap _ hl5.1) (hap _ hl5.2.1) (hap _ hl5.2.2.1) (hap _ hl5.2.2.2)
      go_wp2_with fail
      refine (play_calls W va la ha d L r B _ w8 hW8 ht58 hg hne (by decide)).mono ?_
      rintro e w9 ⟨rfl, ht9⟩
      obtain ⟨s9, _, _, _, hc9⟩ := id ht9
      have hW9 : Below W.heap.size W w9 := four_below hW8 hg hW8.size hc9
      go_wp2_with fail
      refine (wakes10_calls _).mono ?_
      rintro e w10 ⟨rfl, hb10⟩
      go_wp2
      go_ret
      exact ⟨rfl, hW9.trans (hb10.mono hW9.size)⟩
  · by_cases h0 : n < 1 ∨ 4096 < n
    · by_cases h1 : 20 < n
      · have h2 : ¬ n ≤ 4096 := by omega
        have h0' := Lib.hid h0
        clear hc h0
        go_enter Try.func5, Try.ntmps5
        go_wp2_with fail
        refine (dnew_bad _ _ h0'.out).mono ?_
        rintro e w3 ⟨rfl, rfl⟩
        go_wp2_with fail
        refine (rnew_bad _ _ h0'.out).mono ?_
        rintro e w3 ⟨rfl, rfl⟩
        go_wp2_with fail
        refine (wakes10_calls _).mono ?_
        rintro e w3 ⟨rfl, hb3⟩
        go_wp2
        go_ret
        exact ⟨rfl, hb3⟩
      · have h0' := Lib.hid h0
        clear hc h0
        go_enter Try.func5, Try.ntmps5
        go_wp2_with fail
        refine (dnew_bad _ _ h0'.out).mono ?_
        rintro e w3 ⟨rfl, rfl⟩
        go_wp2_with fail
        refine (rnew_bad _ _ h0'.out).mono ?_
        rintro e w3 ⟨rfl, rfl⟩
        go_wp2_with fail
        refine (wakes10_calls _).mono ?_
        rintro e w3 ⟨rfl, hb3⟩
        go_wp2
        go_ret
        exact ⟨rfl, hb3⟩
    · obtain ⟨m, rfl⟩ : ∃ m : Nat, n = m := ⟨n.toNat, by omega⟩
      have m1 : 1 ≤ m := by omega
      have m2 : m ≤ 4096 := by omega
      have m3 : m ≤ 20 := by omega
      have t3 : decide ((20 : Int) < (m : Int)) = false := by simp; omega
      clear h0 hc hn1 hn2
      go_enter Try.func5, Try.ntmps5
      go_wp2_with fail
      refine (dnew_calls m _ m1 m2).mono ?_
      rintro e w3 ⟨d, L, rfl, hD, hd1, hd2, hb3⟩
      go_wp2_with fail
      refine (rnew_calls m _ m1 m2).mono ?_
      rintro e w4 ⟨r, B, rfl, hR, hr1, hr2, hb4⟩
      have hs3 := hb3.size
      have hl3 := hD.lt
      have ht4 : Two 0 w4 w4 d L r B 0 := ⟨_, hD.below hb4, hR, Nat.le_refl _, Chg.refl _ _⟩
      have hW4 : Below W.heap.size W w4 := hb3.trans (hb4.mono hs3)
      have hne : d ≠ r ∧ d ≠ B ∧ L ≠ r ∧ L ≠ B := by omega
      have hg : W.heap.size ≤ d ∧ W.heap.size ≤ L ∧ W.heap.size ≤ r ∧ W.heap.size ≤ B := by omega
      go_wp2_with fail
      refine (play_calls W va la ha d L r B 0 w4 hW4 ht4 hg hne (by decide)).mono ?_
      rintro e w5 ⟨rfl, ht5⟩
      have hW5 : Below W.heap.size W w5 := by obtain ⟨s, _, _, _, hc⟩ := ht5; exact four_below hW4 hg (Nat.le_trans hs3 hb4.size) hc
      have ht5 := two_at ht5
      go_wp2_with fail
      obtain ⟨s5, hD5, hR5, hw5, _⟩ := id ht5
      refine (dclone_calls d L s5 w5 hD5).mono ?_
      rintro e w6 ⟨d2, L2, rfl, hD6, hd21, hd22, hb6⟩
      go_wp2_with fail
      refine (rcopy_calls r B s5 w6 (hR5.below hb6)).mono ?_
      rintro e w7 ⟨r2, B2, rfl, hR7, hr21, hr22, hb7⟩
      have hs6 := hb6.size
      have hl6 := hD6.lt
      have hl5 := two_lt ht5
      have hs5 := hW5.size
      have hb57 : Below w5.heap.size w5 w7 := hb6.trans (hb7.mono hs6)
      have ht7 : Two 40 w7 w7 d2 L2 r2 B2 0 := ⟨_, hD6.below hb7, hR7, by omega, Chg.refl _ _⟩
      have hW7 : Below W.heap.size W w7 := hW5.trans (hb57.mono hs5)
      have hne2 : d2 ≠ r2 ∧ d2 ≠ B2 ∧ L2 ≠ r2 ∧ L2 ≠ B2 := by omega
      have hg2 : W.heap.size ≤ d2 ∧ W.heap.size ≤ L2 ∧ W.heap.size ≤ r2 ∧ W.heap.size ≤ B2 := by omega
      go_wp2_with fail
      refine (play_calls W vb lb hb d2 L2 r2 B2 40 w7 hW7 ht7 hg2 hne2 (by decide)).mono ?_
      rintro e w8 ⟨rfl, ht8⟩
      obtain ⟨s8, _, _, _, hc8⟩ := id ht8
      have hW8 : Below W.heap.size W w8 := four_below hW7 hg2 (Nat.le_trans hs5 hb57.size) hc8
      have ht57 := two_chg ht5 (Chg.of_below (S := fun _ => False) hb57) id id id id
      have hap : ∀ k, k < w5.heap.size → ¬ Four d2 L2 r2 B2 k := fun k hk e => by rcases e with (rfl | rfl) | rfl | rfl <;> omega
      have ht58 := two_chg ht57 hc8 (hap _ hl5.1) (hap _ hl5.2.1) (hap _ hl5.2.2.1) (hap _ hl5.2.2.2)
      go_wp2_with fail
      refine (play_calls W va la ha d L r B _ w8 hW8 ht58 hg hne (by decide)).mono ?_
      rintro e w9 ⟨rfl, ht9⟩
      obtain ⟨s9, _, _, _, hc9⟩ := id ht9
      have hW9 : Below W.heap.size W w9 := four_below hW8 hg hW8.size hc9
      go_wp2_with fail
      refine (wakes10_calls _).mono ?_
      rintro e w10 ⟨rfl, hb10⟩
      go_wp2
      go_ret
      exact ⟨rfl, hW9.trans (hb10.mono hW9.size)⟩
end Go.Proofs.Ytofhbmdhenjmeaa
