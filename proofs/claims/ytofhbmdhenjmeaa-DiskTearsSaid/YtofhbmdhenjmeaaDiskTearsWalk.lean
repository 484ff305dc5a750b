/- The walk of the statement DiskTears. -/
import Derived.Test.YtofhbmdhenjmeaaDiskLaw
namespace Go.Mem
open Go Go.RowKit Gf
/-- the disk while rows of 1 are written -/
def T1 (S : DiskS) (i : Nat) : Prop := S.n = 10 ∧ S.dead = false ∧ S.stops = false ∧ S.writes = i ∧ ∀ x k, x < i → k < 32 → S.f (x * 32 + k) = 1
theorem T1.zero : T1 (.fresh 10) 0 := ⟨rfl, rfl, rfl, rfl, fun x k h => by omega⟩
theorem rowL_getD (m : Nat) (c : UInt8) (k : Nat) (hk : k < m) : (rowL m fun _ => c).getD k 0 = c := by rw [List.getD_eq_getElem?_getD, rowL_get _ _ _ hk]; rfl
theorem T1.step {S : DiskS} {i : Nat} (h : T1 S i) : T1 (S.write i (rowL 32 fun _ => 1)) (i + 1) := by
  obtain ⟨h1, h2, h3, h4, h5⟩ := h
  rw [DiskS.write_plain h3]
  refine ⟨h1, h2, h3, by show S.writes + 1 = _; omega, fun x k hx hk => ?_⟩
  show S.lay i _ 32 (x * 32 + k) = 1
  by_cases e : x = i
  · subst e; rw [lay_same, if_pos hk, rowL_getD _ _ _ hk]
  · rw [lay_other _ _ _ _ _ _ (Nat.le_refl _) hk e]; exact h5 x k (by omega) hk
/-- the disk while rows of 2 are written: it stops at write p, q bytes into it -/
def T2 (S : DiskS) (p q i : Nat) : Prop :=
  S.n = 10 ∧ S.dead = decide (p < i) ∧ S.stops = true ∧ S.cnt = p - i ∧ S.keep = q ∧ S.writes ≤ 10 + i ∧ ∀ x k, x < 10 → k < 32 → S.f (x * 32 + k) = if x < i ∧ (x < p ∨ x = p ∧ k < q) then 2 else 1
theorem T2.zero {S : DiskS} {p q : Nat} (h : T1 S 10) (hq : q ≤ 32) : T2 (S.stop p q) p q 0 := by
  obtain ⟨h1, h2, h3, h4, h5⟩ := h
  refine ⟨h1, by simp [DiskS.stop, h2], rfl, by show (max 0 (p : Int)).toNat = _; omega, by show (max 0 (min (q : Int) 32)).toNat = _; omega, by show S.writes ≤ _; omega, fun x k hx hk => ?_⟩
  rw [if_neg (by omega)]
  exact h5 x k hx hk
theorem T2.step {S : DiskS} {p q i : Nat} (h : T2 S p q i) (hi : i < p) : T2 (S.write i (rowL 32 fun _ => 2)) p q (i + 1) := by
  obtain ⟨h1, h2, h3, h4, h5, h6, h7⟩ := h
  have hw : S.write i (rowL 32 fun _ => 2) = { S with f := S.lay i (rowL 32 fun _ => 2) 32, cnt := S.cnt - 1, writes := S.writes + 1 } := by
    unfold DiskS.write
    rw [if_neg (by rw [h4]; omega), h3]; rfl
  rw [hw]
  refine ⟨h1, by show S.dead = _; rw [h2]; simp; omega, h3, by show S.cnt - 1 = _; omega, h5, by show S.writes + 1 ≤ _; omega, fun x k hx hk => ?_⟩
  show S.lay i _ 32 (x * 32 + k) = _
  by_cases e : x = i
  · subst e; rw [lay_same, if_pos hk, rowL_getD _ _ _ hk, if_pos (by omega)]
  · rw [lay_other _ _ _ _ _ _ (Nat.le_refl _) hk e, h7 x k hx hk]
    by_cases e2 : x < i ∧ (x < p ∨ x = p ∧ k < q)
    · rw [if_pos e2, if_pos (by omega)]
    · rw [if_neg e2, if_neg (by omega)]
theorem T2.tear {S : DiskS} {p q i : Nat} (h : T2 S p q i) (hi : i = p) (hq : q ≤ 32) : T2 (S.write i (rowL 32 fun _ => 2)) p q (i + 1) := by
  subst hi
  obtain ⟨h1, h2, h3, h4, h5, h6, h7⟩ := h
  have hw : S.write i (rowL 32 fun _ => 2) = { S with f := S.lay i (rowL 32 fun _ => 2) S.keep, dead := true } := by
    unfold DiskS.write
    rw [if_pos ⟨h3, by omega⟩]
  rw [hw]
  refine ⟨h1, by simp, h3, by show S.cnt = _; omega, h5, by show S.writes ≤ _; omega, fun x k hx hk => ?_⟩
  show S.lay i _ S.keep (x * 32 + k) = _
  rw [h5]
  by_cases e : x = i
  · subst e
    rw [lay_same, h7 x k hx hk]
    by_cases e2 : k < q
    · rw [if_pos e2, rowL_getD _ _ _ hk, if_pos (by omega)]
    · rw [if_neg e2, if_neg (by omega), if_neg (by omega)]
  · rw [lay_other _ _ _ _ _ _ hq hk e, h7 x k hx hk]
    by_cases e2 : x < i ∧ (x < i ∨ x = i ∧ k < q)
    · rw [if_pos e2, if_pos (by omega)]
    · rw [if_neg e2, if_neg (by omega)]
theorem T2.dead {S : DiskS} {p q i : Nat} (h : T2 S p q i) (hi : p < i) : T2 S p q (i + 1) := by
  obtain ⟨h1, h2, h3, h4, h5, h6, h7⟩ := h
  refine ⟨h1, by rw [h2]; simp [hi]; omega, h3, by omega, h5, by omega, fun x k hx hk => ?_⟩
  rw [h7 x k hx hk]
  by_cases e2 : x < i ∧ (x < p ∨ x = p ∧ k < q)
  · rw [if_pos e2, if_pos (by omega)]
  · rw [if_neg e2, if_neg (by omega)]
end Go.Mem
namespace Go.Proofs.Ytofhbmdhenjmeaa
open Go Go.RowKit Go.Mem Gf
attribute [local go_sem ↓] Go.wp_at_zero Go.wp_at_succ
set_option maxHeartbeats 2000000 in
theorem row_calls (c : UInt8) (w : World) : Calls Try.prog 8 #[.int .u8 (c.toNat : Int)] w fun e w' =>
    ∃ g, e = .returned (.slice (some ⟨g, 0, none⟩) 32 32) ∧ Bys w' (.slice (some ⟨g, 0, none⟩) 32 32) (rowL 32 fun _ => c) ∧ Below w.heap.size w w' := by
  have hmk := make32
  go_enter Try.func8, Try.ntmps8
  go_wp2_with fail
  go_loopw [8] (fun v wr => ∃ i : Nat, i ≤ 32 ∧ v = .int .i64 i ∧ Blk wr w.heap.size (rowArr 32 fun j => if j < i then c else 0) 5 ∧ Below w.heap.size w wr) (fun v _ => 32 - (intOf v).toNat)
  case atStart => exact ⟨0, by omega, rfl, by simp only [Nat.not_lt_zero, if_false]; exact Blk.new _ _ _, (Below.refl _ _).alloc (Nat.le_refl _) _⟩
  case round =>
    obtain ⟨i, hi, rfl, hx, hbel⟩ := hrel
    by_cases h0 : i < 32
    · have c3 : wr.cell? ⟨w.heap.size, i, none⟩ = some (.int .u8 0) := by rw [hx.cell, rowArr_get _ _ _ h0]; simp
      have f3 := hx.free i
      go_wp2
      refine ⟨⟨i + 1, by omega, by go_num, ?_, hbel.setCell (Nat.le_refl _) _⟩, by simp [intOf]; omega⟩
      have := hx.set i (.int .u8 (c.toNat : Int))
      rw [rowArr_set] at this
      rw [← rowArr_congr (m := 32) (f := fun j => if j = i then c else if j < i then c else 0) (fun j _ => ?_)]
      · exact this
      · by_cases e : j = i
        · subst e; simp
        · have : (j < i + 1) = (j < i) := by simp; omega
          simp [e, this]
    · obtain rfl : i = 32 := by omega
      go_wp2
      go_ret
      refine ⟨_, rfl, ?_, hbel⟩
      rw [rowL_congr (g := fun j => if j < 32 then c else 0) (fun j hj => by simp [hj])]
      exact Blk.row hx (by decide)

set_option maxRecDepth 100000 in
set_option maxHeartbeats 8000000 in
theorem diskTears_walk (w : World) (p : Int) (_hp : -9223372036854775808 ≤ p ∧ p ≤ 9223372036854775807) (q : Int) (_hq : -9223372036854775808 ≤ q ∧ q ≤ 9223372036854775807) (m : Int) (_hm : -9223372036854775808 ≤ m ∧ m ≤ 9223372036854775807) :
    Calls Try.prog 3 #[.int .i64 p, .int .i64 q, .int .i64 m] w fun e w' => e = .returned (.bool true) ∧ Below w.heap.size w w' := by
  clear _hp _hq _hm
  have hcf : ∀ args w, (callFunc 8 args).run Try.prog w = .ok (.enter 8 args) w := fun args w => by kernel_rfl
  go_enter Try.func3, Try.ntmps3
  go_wp2_with fail
  refine (within_calls p 8 (by decide) (by decide) _).mono ?_
  rintro e w1 ⟨rfl, rfl⟩
  obtain ⟨hn1, hn2⟩ := within_range p 8 (by decide)
  go_wp2_with fail
  generalize within p 8 = z at *
  obtain ⟨p', rfl⟩ : ∃ k : Nat, z = k := ⟨z.toNat, by omega⟩
  have p1 : p' < 8 := by omega
  clear hn1 hn2
  refine (within_calls q 33 (by decide) (by decide) _).mono ?_
  rintro e w1 ⟨rfl, rfl⟩
  obtain ⟨hn1, hn2⟩ := within_range q 33 (by decide)
  go_wp2_with fail
  generalize within q 33 = z at *
  obtain ⟨q', rfl⟩ : ∃ k : Nat, z = k := ⟨z.toNat, by omega⟩
  have q1 : q' ≤ 32 := by omega
  clear hn1 hn2
  refine (within_calls m 10 (by decide) (by decide) _).mono ?_
  rintro e w1 ⟨rfl, rfl⟩
  obtain ⟨hn1, hn2⟩ := within_range m 10 (by decide)
  go_wp2_with fail
  generalize within m 10 = z at *
  obtain ⟨m', rfl⟩ : ∃ k : Nat, z = k := ⟨z.toNat, by omega⟩
  have m1 : m' < 10 := by omega
  clear hn1 hn2
  refine (dnew_calls 10 w (by decide) (by decide)).mono ?_
  rintro e w1 ⟨d, L, rfl, hD, hd1, hd2, hb1⟩
  go_wp2_with fail
  go_loopw [10] (fun v wr => ∃ (i : Nat) (S : DiskS), i ≤ 10 ∧ v = .int .i64 i ∧ IsDisk wr d L S ∧ T1 S i ∧ Below w.heap.size w wr) (fun v _ => 10 - (intOf v).toNat)
  case atStart => exact ⟨0, _, by omega, rfl, hD, T1.zero, hb1⟩
  case round =>
    clear hD hb1
    obtain ⟨i, S, hi, rfl, hD, hT, hb⟩ := hrel
    have HT := Lib.hid hT
    clear hT
    have hs := hb.size
    by_cases h0 : i < 10
    · go_wp2_with fail
      refine (row_calls 1 wr).mono ?_
      rintro e w2 ⟨g, rfl, hg, hb2⟩
      go_wp2_with fail
      refine (dwrite_calls d L S i _ _ w2 (hD.below hb2) hg (by rw [HT.out.1]; exact h0) (by rw [rowL_len]; decide) HT.out.2.1 (by rw [HT.out.2.2.2.1]; omega)).mono ?_
      rintro e w3 ⟨rfl, hD3, hc⟩
      rw [if_neg (by rw [HT.out.2.2.1]; simp)]
      have hb3 := (hb.trans (hb2.mono hs)).trans (hc.below (B := w.heap.size) (Nat.le_trans hs hb2.size) (fun k hk => by rcases hk with rfl | rfl; exact hd1; exact hd2))
      clear hc hg hb2
      go_wp2
      exact ⟨⟨i + 1, _, by omega, by go_num, hD3, HT.out.step, hb3⟩, by simp [intOf]; omega⟩
    · obtain rfl : i = 10 := by omega
      clear h0
      go_wp2_with fail
      refine (dstop_calls d L S p' q' wr hD (by omega)).mono ?_
      rintro e w2 ⟨rfl, hD, hc⟩
      have hb2 := hb.trans (hc.below (B := w.heap.size) hs (fun k hk => by subst hk; exact hd1))
      have hT2 := T2.zero (p := p') HT.out q1
      clear HT hc hb hs
      go_wp2_with fail
      go_loopw [11] (fun v wr => ∃ (i : Nat) (S : DiskS), i ≤ m' + 1 ∧ v = .int .i64 i ∧ IsDisk wr d L S ∧ T2 S p' q' i ∧ Below w.heap.size w wr) (fun v _ => m' + 1 - (intOf v).toNat)
      case atStart => exact ⟨0, _, by omega, rfl, hD, hT2, hb2⟩
      case round =>
        clear hD hT2 hb2
        obtain ⟨i, S, hi, rfl, hD, hT, hb⟩ := hrel
        have HT := Lib.hid hT
        clear hT
        have hs := hb.size
        by_cases h0 : i < m' + 1
        · by_cases h1 : i < p'
          · go_wp2_with fail
            refine (row_calls 2 wr).mono ?_
            rintro e w2 ⟨g, rfl, hg, hb2⟩
            go_wp2_with fail
            refine (dwrite_calls d L S i _ _ w2 (hD.below hb2) hg (by rw [HT.out.1]; omega) (by rw [rowL_len]; decide) (by rw [HT.out.2.1]; simp; omega) (by have := HT.out.2.2.2.2.2.1; omega)).mono ?_
            rintro e w3 ⟨rfl, hD3, hc⟩
            rw [if_neg (by rw [HT.out.2.2.2.1]; omega)]
            have hb3 := (hb.trans (hb2.mono hs)).trans (hc.below (B := w.heap.size) (Nat.le_trans hs hb2.size) (fun k hk => by rcases hk with rfl | rfl; exact hd1; exact hd2))
            clear hc hg hb2
            go_wp2
            exact ⟨⟨i + 1, _, by omega, by go_num, hD3, HT.out.step h1, hb3⟩, by simp [intOf]; omega⟩
          · by_cases h2 : i = p'
            · have H2 := Lib.hid h2
              clear h2
              go_wp2_with fail
              refine (row_calls 2 wr).mono ?_
              rintro e w2 ⟨g, rfl, hg, hb2⟩
              go_wp2_with fail
              refine (dwrite_calls d L S i _ _ w2 (hD.below hb2) hg (by rw [HT.out.1]; omega) (by rw [rowL_len]; decide) (by have := H2.out; rw [HT.out.2.1]; simp; omega) (by have := HT.out.2.2.2.2.2.1; omega)).mono ?_
              rintro e w3 ⟨rfl, hD3, hc⟩
              rw [if_pos ⟨HT.out.2.2.1, by rw [HT.out.2.2.2.1]; omega⟩]
              have hb3 := (hb.trans (hb2.mono hs)).trans (hc.below (B := w.heap.size) (Nat.le_trans hs hb2.size) (fun k hk => by rcases hk with rfl | rfl; exact hd1; exact hd2))
              clear hc hg hb2
              go_wp2
              exact ⟨⟨i + 1, _, by omega, by go_num, hD3, HT.out.tear H2.out q1, hb3⟩, by simp [intOf]; omega⟩
            · go_wp2_with fail
              refine (row_calls 2 wr).mono ?_
              rintro e w2 ⟨g, rfl, hg, hb2⟩
              have hD2 := hD.below hb2
              go_wp2_with fail
              refine (dwrite_dead d L S i _ _ w2 hD2 hg (by rw [HT.out.1]; omega) (by rw [rowL_len]; decide) (by rw [HT.out.2.1]; simp; omega)).mono ?_
              rintro e w3 ⟨rfl, rfl⟩
              have hb3 := hb.trans (hb2.mono hs)
              clear hg hb2
              go_wp2
              exact ⟨⟨i + 1, _, by omega, by go_num, hD2, HT.out.dead (by omega), hb3⟩, by simp [intOf]; omega⟩
        · obtain rfl : i = m' + 1 := by omega
          have hdd : S.dead = decide (p' ≤ m') := by rw [HT.out.2.1]; simp; omega
          have Hdd := Lib.hid hdd
          clear hdd h0 hi
          go_wp2_with fail
          refine (ddead_calls d L S wr hD).mono ?_
          rintro e w2 ⟨rfl, rfl⟩
          rw [Hdd.out]
          go_wp2_with fail
          refine (dstart_calls d L S wr hD).mono ?_
          rintro e w2 ⟨rfl, hD, hc⟩
          have hb2 := hb.trans (hc.below (B := w.heap.size) hs (fun k hk => by subst hk; exact hd1))
          have Hn := Lib.hid (show S.start.n = 10 from HT.out.1)
          have Hw := Lib.hid (show S.start.writes ≤ 30 from by have := HT.out.2.2.2.2.2.1; show S.writes ≤ 30; omega)
          have Hf := Lib.hid (show ∀ x k, x < 10 → k < 32 → (S.start.sector x)[k]? = some (if x ≤ m' ∧ (x < p' ∨ x = p' ∧ k < q') then 2 else 1) from fun x k hx hk => by
            rw [sector_get _ _ _ hk]
            show some (S.f (x * 32 + k)) = _
            rw [HT.out.2.2.2.2.2.2 x k hx hk]
            by_cases e : x < m' + 1 ∧ (x < p' ∨ x = p' ∧ k < q')
            · rw [if_pos e, if_pos (by omega)]
            · rw [if_neg e, if_neg (by omega)])
          have Hsd := Lib.hid (show S.start.dead = false from rfl)
          have Hss := Lib.hid (show S.start.stops = false from rfl)
          obtain ⟨U, hU⟩ : ∃ U, U = S.start := ⟨_, rfl⟩
          rw [← hU] at hD Hn Hw Hf Hsd Hss
          clear hU Hdd HT hc hs hb
          go_wp2_with fail
          go_loopw [13] (fun v wr => ∃ i : Nat, i ≤ 10 ∧ v = .int .i64 i ∧ Below w2.heap.size w2 wr) (fun v _ => 10 - (intOf v).toNat)
          case atStart => exact ⟨0, by omega, rfl, Below.refl _ _⟩
          case round =>
            obtain ⟨i, hi, rfl, hb⟩ := hrel
            have hDr := hD.below hb
            by_cases h0 : i < 10
            · go_wp2_with fail
              refine (dread_calls d L U i wr hDr (by rw [Hn.out]; exact h0) Hsd.out).mono ?_
              rintro e w3 ⟨v, rfl, hown, hb3⟩
              have hB := hown.bys
              obtain ⟨a, c, rfl⟩ := hB.eq_slice
              rw [sector_len] at hB ⊢
              have hbw := Aft.trans hb hb3
              clear hown hb3 hb
              go_wp2_with fail
              go_loopw [94] (fun v wi => ∃ k : Nat, k ≤ 32 ∧ v = .int .i64 k ∧ wi = w3) (fun v _ => 32 - (intOf v).toNat)
              case atStart => exact ⟨0, by omega, rfl, rfl⟩
              case round =>
                obtain ⟨k, hk, rfl, rfl⟩ := hrel
                by_cases h1 : k < 32
                · obtain ⟨bx, ox, u, rfl, hu, c1, _⟩ := hB.at k (by rw [sector_len]; exact h1)
                  have hu := hu.out
                  rw [Hf.out i k h0 h1] at hu
                  have hu := Option.some.inj hu
                  have i1 : (0 : Int) ≤ (k : Int) := by omega
                  have i2 : (k : Int) < 32 := by omega
                  by_cases g1 : i ≤ m'
                  · by_cases g2 : i < p'
                    · rw [if_pos (by omega)] at hu
                      subst hu
                      have c1 : wr.cell? ⟨bx, ox + k, none⟩ = some (.int .u8 2) := c1
                      go_wp2
                      exact ⟨⟨k + 1, by omega, by go_num, trivial⟩, by simp [intOf]; omega⟩
                    · by_cases g3 : i = p'
                      · have t3 : ((i : Int) == (p' : Int)) = true := by simp; omega
                        by_cases g4 : k < q'
                        · rw [if_pos (by omega)] at hu
                          subst hu
                          have c1 : wr.cell? ⟨bx, ox + k, none⟩ = some (.int .u8 2) := c1
                          clear g3
                          go_wp2
                          exact ⟨⟨k + 1, by omega, by go_num, trivial⟩, by simp [intOf]; omega⟩
                        · rw [if_neg (by omega)] at hu
                          subst hu
                          have c1 : wr.cell? ⟨bx, ox + k, none⟩ = some (.int .u8 1) := c1
                          clear g3
                          go_wp2
                          exact ⟨⟨k + 1, by omega, by go_num, trivial⟩, by simp [intOf]; omega⟩
                      · have t3 : ((i : Int) == (p' : Int)) = false := by simp; omega
                        rw [if_neg (by omega)] at hu
                        subst hu
                        have c1 : wr.cell? ⟨bx, ox + k, none⟩ = some (.int .u8 1) := c1
                        go_wp2
                        exact ⟨⟨k + 1, by omega, by go_num, trivial⟩, by simp [intOf]; omega⟩
                  · rw [if_neg (by omega)] at hu
                    subst hu
                    have c1 : wr.cell? ⟨bx, ox + k, none⟩ = some (.int .u8 1) := c1
                    go_wp2
                    exact ⟨⟨k + 1, by omega, by go_num, trivial⟩, by simp [intOf]; omega⟩
                · obtain rfl : k = 32 := by omega
                  go_wp2
                  exact ⟨⟨i + 1, by omega, by go_num, hbw⟩, by simp [intOf]; omega⟩
            · obtain rfl : i = 10 := by omega
              have W : Aft w wr := hb2.trans (hb.mono hb2.size)
              clear h0
              go_wp2_with fail
              refine (ddead_calls d L U wr hDr).mono ?_
              rintro e w2 ⟨rfl, rfl⟩
              rw [Hsd.out]
              go_wp2_with fail
              refine (row_calls 3 wr).mono ?_
              rintro e w4 ⟨g, rfl, hg, hb4⟩
              go_wp2_with fail
              refine (dwrite_calls d L U 0 _ _ w4 (hDr.below hb4) hg (by rw [Hn.out]; decide) (by rw [rowL_len]; decide) Hsd.out (by have := Hw.out; omega)).mono ?_
              rintro e w5 ⟨rfl, _, hc⟩
              rw [if_neg (by rw [Hss.out]; simp)]
              have W5 : Aft w w5 := Below.trans (Aft.trans W hb4) (hc.below (B := w.heap.size) (Nat.le_trans W.size hb4.size) (fun k hk => by rcases hk with rfl | rfl; exact hd1; exact hd2))
              clear hc hg hb4
              go_wp2_with fail
              refine (wakes10_calls _).mono ?_
              rintro e w6 ⟨rfl, hb6⟩
              go_wp2
              go_ret
              exact ⟨rfl, Aft.trans W5 hb6⟩
end Go.Proofs.Ytofhbmdhenjmeaa
