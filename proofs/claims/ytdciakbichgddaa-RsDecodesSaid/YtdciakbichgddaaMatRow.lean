/- Walks of package matrix: rows times a byte; a multiple of one row from another one. -/
import Derived.Test.YtdciakbichgddaaMatMul
import Derived.Test.YtdciakbichgddaaMatChg
import Derived.Deep.RegionWith
import Derived.Deep.DeepCutAuto
namespace Go.Proofs.Ytdciakbichgddaa
open Go Go.RowKit Go.Mem Gf

set_option maxRecDepth 20000 in
set_option maxHeartbeats 2000000 in
theorem scale_calls (fb rb b1 b2 m : Nat) (d : UInt8) (f1 f2 : Nat → UInt8) (w : World) (hm : m ≤ 4096) (hf : IsField w fb)
    (h1 : Blk w b1 (rowArr m f1) 5) (h2 : Blk w b2 (rowArr m f2) 5) (hne : b1 ≠ b2)
    (r1 : w.cell? ⟨rb, 0, none⟩ = some (rowV m b1)) (r2 : w.cell? ⟨rb, 1, none⟩ = some (rowV m b2)) (n1 : rb ≠ b1) (n2 : rb ≠ b2) (g1 : fb ≠ b1) (g2 : fb ≠ b2) :
    Calls Try.prog 77 #[.func (.func 28) #[.pointer (some ⟨fb, 0, none⟩)] #[], .int .u8 (d.toNat : Int), .slice (some ⟨rb, 0, none⟩) 2 2] w fun e w' =>
      e = .returned (.tuple #[]) ∧ Blk w' b1 (rowArr m fun k => gm (f1 k) d) 5 ∧ Blk w' b2 (rowArr m fun k => gm (f2 k) d) 5 ∧ Chg (fun b => b = b1 ∨ b = b2) w w' := by
  have hd := lt256 d
  have l1 := World.block_lt_of_cell? w _ r1
  dsimp only at l1
  have lf := hf.lt
  go_enter Try.func77, Try.ntmps77
  go_wp2_with fail
  go_loopw [11] (fun v wr => ∃ i : Nat, i ≤ 2 ∧ v = .int .i64 i ∧ Blk wr b1 (rowArr m fun k => if 1 ≤ i then gm (f1 k) d else f1 k) 5 ∧ Blk wr b2 (rowArr m fun k => if 2 ≤ i then gm (f2 k) d else f2 k) 5 ∧
      Chg (fun b => b = b1 ∨ b = b2) w wr)
    (fun v _ => 2 - (intOf v).toNat)
  case atStart => exact ⟨0, by omega, rfl, h1, h2, Chg.refl _ _⟩
  case round =>
    obtain ⟨i, hi, rfl, k1, k2, hch⟩ := hrel
    have hfw : IsField wr fb := by
      obtain ⟨arr, q1, q2⟩ := hf
      exact ⟨arr, hch.blk q1 (by intro e; rcases e with e | e; exact g1 e; exact g2 e), q2⟩
    have p1 : wr.cell? ⟨rb, 0, none⟩ = some (rowV m b1) := by rw [World.cell?_of_block (w := w) (hch.block rb l1 (by intro e; rcases e with e | e; exact n1 e; exact n2 e))]; exact r1
    have p2 : wr.cell? ⟨rb, 1, none⟩ = some (rowV m b2) := by rw [World.cell?_of_block (w := w) (hch.block rb l1 (by intro e; rcases e with e | e; exact n1 e; exact n2 e))]; exact r2
    by_cases h0 : i < 2
    · obtain ⟨b, f, hb, hbf, hcb⟩ : ∃ b f, Hid (i = 0 ∧ b = b1 ∧ f = f1 ∨ i = 1 ∧ b = b2 ∧ f = f2) ∧ Blk wr b (rowArr m f) 5 ∧ wr.cell? ⟨rb, i, none⟩ = some (.slice (some ⟨b, 0, none⟩) m m) := by
        rcases (show i = 0 ∨ i = 1 by omega) with rfl | rfl
        · exact ⟨b1, f1, .inl ⟨rfl, rfl, rfl⟩, k1, p1⟩
        · exact ⟨b2, f2, .inr ⟨rfl, rfl, rfl⟩, k2, p2⟩
      have hbr : rb ≠ b := by rcases hb.out with ⟨_, e, _⟩ | ⟨_, e, _⟩ <;> rw [e] <;> assumption
      have hbg : fb ≠ b := by rcases hb.out with ⟨_, e, _⟩ | ⟨_, e, _⟩ <;> rw [e] <;> assumption
      clear p1 p2
      have hdi : decide ((i : Int) < 2) = true := by simp; omega
      go_wp2_with fail
      obtain ⟨wo, hwo⟩ : ∃ wo, wo = wr := ⟨_, rfl⟩
      rw [← hwo] at k1 k2 hch hfw hbf hcb ⊢
      clear hwo
      go_loopw [17] (fun v wi => ∃ j : Nat, j ≤ m ∧ v = .int .i64 j ∧ Blk wi b (rowArr m fun k => if k < j then gm (f k) d else f k) 5 ∧ Chg (fun c => c = b) wo wi)
        (fun v _ => m - (intOf v).toNat)
      case atStart => exact ⟨0, by omega, rfl, by simpa using hbf, Chg.refl _ _⟩
      case round =>
        obtain ⟨j, hj, rfl, q, hcj⟩ := hrel
        by_cases hjm : j < m
        · have hfj : IsField wr fb := by
            obtain ⟨arr, q1, q2⟩ := hfw
            exact ⟨arr, hcj.blk q1 hbg, q2⟩
          have c1 : wr.cell? ⟨b, j, none⟩ = some (.int .u8 ((f j).toNat : Int)) := by rw [q.cell, rowArr_get _ _ _ hjm]; simp
          have fz := q.free j
          have hfl := lt256 (f j)
          go_wp2_with fail
          refine (fmul_calls fb _ _ hfl hd _ hfj).mono ?_
          rintro e w2 ⟨rfl, n, rfl⟩
          go_wp2
          refine ⟨⟨j + 1, by omega, by go_num, ?_, (hcj.drewN n).set rfl _⟩, by simp [intOf]; omega⟩
          have h3 := (q.drewN n).set j (.int .u8 ((gm (f j) d).toNat : Int))
          rw [rowArr_set] at h3
          rw [rowArr_congr (m := m) (g := fun k => if k = j then gm (f j) d else if k < j then gm (f k) d else f k) (fun k _ => ?_), ← toNat_gm]
          · exact h3
          · by_cases e : k = j
            · subst e; simp
            · have : (k < j + 1) = (k < j) := by simp; omega
              simp [e, this]
        · obtain rfl : j = m := by omega
          go_wp2
          have hcw : Chg (fun c => c = b1 ∨ c = b2) w wr := hch.trans (hcj.mono (fun k hk => by rcases hb.out with ⟨_, e, _⟩ | ⟨_, e, _⟩ <;> (rw [← e]; simp [hk])))
          have hfull : rowArr j (fun k => if k < j then gm (f k) d else f k) = rowArr j (fun k => gm (f k) d) := rowArr_congr fun k hk => by simp [hk]
          rw [hfull] at q
          refine ⟨⟨i + 1, by omega, by go_num, ?_, ?_, hcw⟩, by simp [intOf]; omega⟩
          · rcases hb.out with ⟨e0, e1, e2⟩ | ⟨e0, e1, e2⟩
            · subst e0 e1 e2; simpa using q
            · subst e0 e1 e2
              have := hcj.blk k1 hne
              simpa using this
          · rcases hb.out with ⟨e0, e1, e2⟩ | ⟨e0, e1, e2⟩
            · subst e0 e1 e2
              have := hcj.blk k2 (fun e => hne e.symm)
              simpa using this
            · subst e0 e1 e2; simpa using q
    · obtain rfl : i = 2 := by omega
      go_wp2
      go_end0
      exact ⟨rfl, by simpa using k1, by simpa using k2, hch⟩

/-- one byte of a row more -/
theorem take_row {w : World} {b m : Nat} {t : TypeId} {f g : Nat → UInt8} {d : UInt8} {j : Nat} (h : Blk w b (rowArr m fun k => if k < j then f k ^^^ gm d (g k) else f k) t)
    (x y e : UInt8) (i : Nat) (hx : x = f j := by rfl) (hy : y = g j := by rfl) (he : e = d := by rfl) (hi : i = j := by rfl) :
    Blk (w.setCell ⟨b, j, none⟩ (.int .u8 ((x.toNat ^^^ mul e.toNat y.toNat : Nat) : Int))) b (rowArr m fun k => if k < j + 1 then f k ^^^ gm d (g k) else f k) t := by
  subst hx hy he
  have h3 := h.set j (.int .u8 ((f j ^^^ gm e (g j)).toNat : Int))
  rw [rowArr_set, UInt8.toNat_xor, toNat_gm] at h3
  rw [rowArr_congr (m := m) (g := fun k => if k = j then f j ^^^ gm e (g j) else if k < j then f k ^^^ gm e (g k) else f k) (fun k _ => ?_)]
  · exact h3
  · by_cases e' : k = j
    · subst e'; simp
    · have : (k < j + 1) = (k < j) := by simp; omega
      simp [e', this]

set_option maxRecDepth 20000 in
set_option maxHeartbeats 4000000 in
theorem take_calls (fb b1 b2 b3 b4 m : Nat) (d : UInt8) (f1 f2 f3 f4 : Nat → UInt8) (w : World) (hm : m ≤ 4096) (hf : IsField w fb)
    (h1 : Blk w b1 (rowArr m f1) 5) (h2 : Blk w b2 (rowArr m f2) 5) (h3 : Blk w b3 (rowArr m f3) 5) (h4 : Blk w b4 (rowArr m f4) 5)
    (n21 : b2 ≠ b1) (n23 : b2 ≠ b3) (n41 : b4 ≠ b1) (n43 : b4 ≠ b3) (n13 : b1 ≠ b3) (g1 : fb ≠ b1) (g3 : fb ≠ b3) :
    Calls Try.prog 78 #[.func (.func 28) #[.pointer (some ⟨fb, 0, none⟩)] #[], .int .u8 (d.toNat : Int), .slice (some ⟨b1, 0, none⟩) m m, .slice (some ⟨b2, 0, none⟩) m m,
      .slice (some ⟨b3, 0, none⟩) m m, .slice (some ⟨b4, 0, none⟩) m m] w fun e w' =>
      e = .returned (.tuple #[]) ∧ Blk w' b1 (rowArr m fun k => f1 k ^^^ gm d (f2 k)) 5 ∧ Blk w' b3 (rowArr m fun k => f3 k ^^^ gm d (f4 k)) 5 ∧ Chg (fun b => b = b1 ∨ b = b3) w w' := by
  have hd := lt256 d
  go_enter Try.func78, Try.ntmps78
  go_wp2_with fail
  go_loopw [15] (fun v wr => ∃ j : Nat, j ≤ m ∧ v = .int .i64 j ∧ Blk wr b1 (rowArr m fun k => if k < j then f1 k ^^^ gm d (f2 k) else f1 k) 5 ∧ Blk wr b3 (rowArr m fun k => if k < j then f3 k ^^^ gm d (f4 k) else f3 k) 5 ∧
      Chg (fun b => b = b1 ∨ b = b3) w wr)
    (fun v _ => m - (intOf v).toNat)
  case atStart => exact ⟨0, by omega, rfl, by simpa using h1, by simpa using h3, Chg.refl _ _⟩
  case round =>
    obtain ⟨j, hj, rfl, k1, k3, hch⟩ := hrel
    by_cases hjm : j < m
    · have hfw : IsField wr fb := by
        obtain ⟨arr, q1, q2⟩ := hf
        exact ⟨arr, hch.blk q1 (by intro e; rcases e with e | e; exact g1 e; exact g3 e), q2⟩
      have k2 := hch.blk h2 (by intro e; rcases e with e | e; exact n21 e; exact n23 e)
      have k4 := hch.blk h4 (by intro e; rcases e with e | e; exact n41 e; exact n43 e)
      have c1 : wr.cell? ⟨b1, j, none⟩ = some (.int .u8 ((f1 j).toNat : Int)) := by rw [k1.cell, rowArr_get _ _ _ hjm]; simp
      have c2 : wr.cell? ⟨b2, j, none⟩ = some (.int .u8 ((f2 j).toNat : Int)) := by rw [k2.cell, rowArr_get _ _ _ hjm]
      have z1 := k1.free j
      have l1 := lt256 (f1 j)
      have l2 := lt256 (f2 j)
      have lm := mul_lt d.toNat (f2 j).toNat hd
      go_upto_region 3 with fail
      go_cut [] (fun wx => Blk wx b1 (rowArr m fun k => if k < j + 1 then f1 k ^^^ gm d (f2 k) else f1 k) 5 ∧ Blk wx b3 (rowArr m fun k => if k < j then f3 k ^^^ gm d (f4 k) else f3 k) 5 ∧
        Chg (fun b => b = b1 ∨ b = b3) w wx)
      case first =>
        go_region_with (first
          | (go_at_call 28; refine (fmul_calls fb _ _ hd (by assumption) _ (by first | exact hfw | exact hfw.drewN _)).mono ?_; rintro e w2 ⟨rfl, nn, rfl⟩)
          | (go_at_call 35; refine (add_calls _ _ (by assumption) (by assumption) _).mono ?_; rintro e w2 ⟨rfl, rfl⟩))
        all_goals
          go_wp2_with fail
          go_meet
          exact ⟨take_row (k1.drewN _) (f1 j) (f2 j) d j, (k3.drewN _).set_other n13 _, (hch.drewN _).set (.inl rfl) _⟩
      case rest =>
        clear c1 c2 z1 k1 k3 k4 hch hfw
        obtain ⟨k1, k3, hch⟩ := hcut
        have hfw : IsField wc fb := by
          obtain ⟨arr, q1, q2⟩ := hf
          exact ⟨arr, hch.blk q1 (by intro e; rcases e with e | e; exact g1 e; exact g3 e), q2⟩
        have k4 := hch.blk h4 (by intro e; rcases e with e | e; exact n41 e; exact n43 e)
        have c3 : wc.cell? ⟨b3, j, none⟩ = some (.int .u8 ((f3 j).toNat : Int)) := by rw [k3.cell, rowArr_get _ _ _ hjm]; simp
        have c4 : wc.cell? ⟨b4, j, none⟩ = some (.int .u8 ((f4 j).toNat : Int)) := by rw [k4.cell, rowArr_get _ _ _ hjm]
        have z3 := k3.free j
        have l3 := lt256 (f3 j)
        have l4 := lt256 (f4 j)
        have lm2 := mul_lt d.toNat (f4 j).toNat hd
        clear lm l1 l2
        go_wp2_with fail
        go_region_with (first
          | (go_at_call 28; refine (fmul_calls fb _ _ hd (by assumption) _ (by first | exact hfw | exact hfw.drewN _)).mono ?_; rintro e w2 ⟨rfl, nn, rfl⟩)
          | (go_at_call 35; refine (add_calls _ _ (by assumption) (by assumption) _).mono ?_; rintro e w2 ⟨rfl, rfl⟩))
        all_goals
          go_wp2
          exact ⟨⟨j + 1, by omega, by go_num, (k1.drewN _).set_other (fun e => n13 e.symm) _, take_row (k3.drewN _) (f3 j) (f4 j) d j, (hch.drewN _).set (.inr rfl) _⟩, by simp [intOf]; omega⟩
    · obtain rfl : j = m := by omega
      go_wp2
      go_end0
      refine ⟨rfl, ?_, ?_, hch⟩
      · rw [← rowArr_congr (m := j) (f := fun k => if k < j then f1 k ^^^ gm d (f2 k) else f1 k) (fun k hk => by simp [hk])]; exact k1
      · rw [← rowArr_congr (m := j) (f := fun k => if k < j then f3 k ^^^ gm d (f4 k) else f3 k) (fun k hk => by simp [hk])]; exact k3
end Go.Proofs.Ytdciakbichgddaa
