/- The walk of play: acts of the program's disk and of the document's. -/
import Derived.Test.YtofhbmdhenjmeaaDiskAny
import Derived.Test.YtofhbmdhenjmeaaSpoilF
import Derived.Test.YtofhbmdhenjmeaaOpenS
namespace Go.Mem
open Go Go.RowKit Gf
/-- an act as it lies in memory: four numbers and bytes -/
structure ActT where
  op : Int
  i : Int
  at_ : Int
  keep : Int
  bs : List UInt8
def ActR (W : World) (cs : List Value) (a : ActT) : Prop :=
  ∃ v, cs = [.int .i64 a.op, .int .i64 a.i, .int .i64 a.at_, .int .i64 a.keep, v] ∧ Bys W v a.bs ∧ a.at_ ≤ 9223372036854775807
theorem ActR.below {w w' : World} {cs : List Value} {a : ActT} (hb : Below w.heap.size w w') (h : ActR w cs a) : ActR w' cs a := by
  obtain ⟨v, h1, h2, h3⟩ := h
  exact ⟨v, h1, h2.below hb, h3⟩
/-- a fact on all cells of a block, through stores elsewhere -/
theorem Lent_chg {S : Nat → Prop} {w w' : World} {g : Nat} {arr : Array Value} {t : TypeId} (h : Blk w g arr t) (hc : Chg S w w') (hg : ¬ S g) : Blk w' g arr t := hc.blk h hg
/-- what is changed besides is new -/
theorem chg_new {S T : Nat → Prop} {w w' w'' : World} (h : Chg S w w') (h' : Chg T w' w'') (hT : ∀ k, T k → w.heap.size ≤ k) : Chg S w w'' :=
  ⟨h'.os.trans h.os, h'.tape.trans h.tape, h'.output.trans h.output, Nat.le_trans h.size h'.size, fun k hk hs => (h'.block k (Nat.lt_of_lt_of_le hk h.size) fun ht => by have := hT k ht; omega).trans (h.block k hk hs)⟩
end Go.Mem
namespace Go.Proofs.Ytofhbmdhenjmeaa
open Go Go.RowKit Go.Mem Gf
attribute [local go_sem ↓] Go.wp_at_zero Go.wp_at_succ
/-- the blocks of the two disks -/
def Four (d L r B : Nat) (b : Nat) : Prop := (b = d ∨ b = L) ∨ b = r ∨ b = B
/-- both disks go on alike -/
def Two (n0 : Nat) (w w' : World) (d L r B : Nat) (k : Nat) : Prop := ∃ s, IsDisk w' d L s ∧ RDisk w' r B s ∧ s.writes ≤ n0 + k ∧ Chg (Four d L r B) w w'
theorem four_below {W w w' : World} {d L r B : Nat} (hW : Below W.heap.size W w) (hg : W.heap.size ≤ d ∧ W.heap.size ≤ L ∧ W.heap.size ≤ r ∧ W.heap.size ≤ B) (hsz : W.heap.size ≤ w.heap.size) (h : Chg (Four d L r B) w w') : Below W.heap.size W w' :=
  hW.trans (h.below hsz (fun k hk => by rcases hk with (rfl | rfl) | rfl | rfl <;> omega))
theorem neq_self_false (z : Int) : (z != z) = false := by simp
/-- the numbers of the two disks are equal -/
theorem both_quiet {r B : Nat} {s : DiskS} {w : World} (hR : RDisk w r B s) :
    w.cell? ⟨r, 1, none⟩ = some (.bool s.dead) ∧ w.cell? ⟨r, 5, none⟩ = some (.int .i64 (s.writes : Int)) := by
  obtain ⟨cap, atv, arr, hd, _⟩ := hR
  exact ⟨by rw [hd.cell]; rfl, by rw [hd.cell]; rfl⟩

set_option maxRecDepth 20000 in
set_option maxHeartbeats 2000000 in
theorem play_calls (W : World) (v : Value) (l : List ActT) (hv : Sls 5 ActR W v l) (d L r B n0 : Nat) (w : World) (hW : Below W.heap.size W w) (h : Two n0 w w d L r B 0) (hg : W.heap.size ≤ d ∧ W.heap.size ≤ L ∧ W.heap.size ≤ r ∧ W.heap.size ≤ B) (hne : d ≠ r ∧ d ≠ B ∧ L ≠ r ∧ L ≠ B) (hn0 : n0 ≤ 4000000000) :
    Calls Try.prog 20 #[.pointer (some ⟨d, 0, none⟩), .pointer (some ⟨r, 0, none⟩), v] w fun e w' => e = .returned (.bool true) ∧ Two n0 w w' d L r B 40 := by
  obtain ⟨a, cap, rfl⟩ := hv.eq_slice
  have hlen := hv.len
  obtain ⟨n, hn⟩ : ∃ n, n = l.length := ⟨_, rfl⟩
  rw [← hn] at hv hlen ⊢
  have Hn := Lib.hid hn
  clear hn
  have hsz := hW.size
  go_enter Try.func20, Try.ntmps20
  go_wp2_with fail
  go_loopw [7] (fun v wr => ∃ i : Nat, i ≤ n ∧ i ≤ 40 ∧ v = .int .i64 i ∧ Hid (Two n0 w wr d L r B i)) (fun v _ => n - (intOf v).toNat)
  case atStart => exact ⟨0, by omega, by omega, rfl, h⟩
  case round =>
    obtain ⟨i, hi1, hi2, rfl, H⟩ := hrel
    by_cases h0 : i < n
    · by_cases h40 : i < 40
      · obtain ⟨s, hD, hR, hwr, hch⟩ := H.out
        have hWr : Below W.heap.size W wr := hW.trans (hch.below hsz (fun k hk => by rcases hk with (rfl | rfl) | rfl | rfl <;> omega))
        have up : ∀ p v, W.cell? p = some v → wr.cell? p = some v := fun p v h => (hWr.cell (p := p) (World.block_lt_of_cell? W _ h)).trans h
        obtain ⟨b, off, ac, cs, rfl, hac, hcl, hcs, hact⟩ := hv.at i (by have := Hn.out; omega)
        obtain ⟨bv, rfl, hbysW, hatb⟩ := hact
        have hbys := hbysW.below hWr
        obtain ⟨ba, bc, rfl⟩ := hbys.eq_slice
        have t40 : decide ((i : Int) < 40) = true := by simp; omega
        have c0 := up _ _ (hcs 0 _ rfl)
        have c1 := up _ _ (hcs 1 _ rfl)
        have c2 := up _ _ (hcs 2 _ rfl)
        have c3 := up _ _ (hcs 3 _ rfl)
        have c4 := up _ _ (hcs 4 _ rfl)
        have i0 : (0 : Int) ≤ (i : Int) := by omega
        have i1 : (i : Int) < (n : Int) := by omega
        clear hcs hcl up
        simp only [Nat.add_zero] at c0
        have HD := Lib.hid hD; have HR := Lib.hid hR
        clear hD hR
        go_wp2_with fail
        have hle : ac.bs.length ≤ bc ∧ bc ≤ maxLen := by
          obtain ⟨_, _, e, h1, h2, _⟩ := id hbys
          injection e with e1 e2 e3
          subst e3
          exact ⟨h1, h2⟩
        obtain ⟨m, hm⟩ : ∃ m, m = min ac.bs.length 40 := ⟨_, rfl⟩
        refine (cut8_at ba ac.bs.length bc 40 m _ hle.1 hle.2 hm).mono ?_
        rintro e w1 ⟨rfl, rfl⟩
        have hx : Bys wr (.slice ba m bc) (ac.bs.take m) := hbys.take m (by omega)
        have hxW : Bys W (.slice ba m bc) (ac.bs.take m) := hbysW.take m (by omega)
        obtain ⟨xs, hxs⟩ : ∃ xs, xs = ac.bs.take m := ⟨_, rfl⟩
        have hxl : m = xs.length := by rw [hxs, List.length_take]; omega
        have hm40 : m ≤ 40 := by omega
        rw [← hxs] at hx hxW
        clear hxs hle hm
        subst hxl
        have hbb : Below wr.heap.size wr (wr.alloc (.cells #[.int .i64 ac.op, .int .i64 ac.i, .int .i64 ac.at_, .int .i64 ac.keep, .slice ba xs.length bc] 55)) := (Below.refl _ _).alloc (Nat.le_refl _) _
        have hbox := Blk.new wr #[.int .i64 ac.op, .int .i64 ac.i, .int .i64 ac.at_, .int .i64 ac.keep, .slice ba xs.length bc] 55
        obtain ⟨wb, hwb⟩ : ∃ wb, wb = wr.alloc (.cells #[.int .i64 ac.op, .int .i64 ac.i, .int .i64 ac.at_, .int .i64 ac.keep, .slice ba xs.length bc] 55) := ⟨_, rfl⟩
        have hszb : wb.heap.size = wr.heap.size + 1 := by rw [hwb]; simp
        go_wp2_with fail
        rw [← hwb] at hbb hbox ⊢
        refine (within_calls ac.op 8 (by decide) (by decide) _).mono ?_
        rintro e w2 ⟨rfl, rfl⟩
        obtain ⟨k, hk⟩ : ∃ k, k = within ac.op 8 := ⟨_, rfl⟩
        rw [← hk]
        clear hk
        have hxb : Bys wb (.slice ba xs.length bc) xs := hx.below hbb
        obtain ⟨bx, hbx⟩ : ∃ bx, bx = wr.heap.size := ⟨_, rfl⟩
        rw [← hbx] at hbox hszb ⊢
        have hcb : Chg (Four d L r B) w wb := hch.trans (Chg.of_below hbb)
        have hDb := HD.out.below hbb
        have hRb := HR.out.below hbb
        have hlw : d < wr.heap.size ∧ L < wr.heap.size ∧ r < wr.heap.size ∧ B < wr.heap.size := ⟨HD.out.lt.1, HD.out.lt.2, HR.out.lt.1, HR.out.lt.2⟩
        have b1 : wb.cell? ⟨bx, 1, none⟩ = some (.int .i64 ac.i) := by rw [hbox.cell]; rfl
        have b2 : wb.cell? ⟨bx, 2, none⟩ = some (.int .i64 ac.at_) := by rw [hbox.cell]; rfl
        have b3 : wb.cell? ⟨bx, 3, none⟩ = some (.int .i64 ac.keep) := by rw [hbox.cell]; rfl
        have b4 : wb.cell? ⟨bx, 4, none⟩ = some (.slice ba xs.length bc) := by rw [hbox.cell]; rfl
        have Hwb := Lib.hid hwb; have Hszb := Lib.hid hszb; have Hbx := Lib.hid hbx
        clear hwb hszb hbx c0 c1 c2 c3 c4
        by_cases h5 : k = 5
        · subst h5
          go_wp2_with fail
          refine (dread_any d L s ac.i wb hDb).mono ?_
          rintro e w2 ⟨xv, rfl, hown, hb2⟩
          have hR2 := hRb.below hb2
          have hbox2 := hbox.kept hb2
          have b1' : w2.cell? ⟨bx, 1, none⟩ = some (.int .i64 ac.i) := by rw [hbox2.cell]; rfl
          obtain ⟨ys, hys⟩ : ∃ ys, ys = s.rd ac.i := ⟨_, rfl⟩
          obtain ⟨z, hz⟩ : ∃ z, z = s.rres ac.i := ⟨_, rfl⟩
          rw [← hys] at hown
          obtain ⟨xa2, xc2, rfl⟩ := hown.bys.eq_slice
          rw [← hz]
          have Hys := Lib.hid hys; have Hz := Lib.hid hz
          clear hys hz
          go_wp2_with fail
          refine (rread_any r B s ac.i w2 hR2).mono ?_
          rintro e w3 ⟨xv, rfl, hown3, hb3⟩
          rw [← Hys.out] at hown3
          rw [← Hz.out]
          have nz := neq_self_false z
          go_wp2_with fail
          refine (same8_yes _ _ ys ys w3 (hown.bys.below hb3) hown3.bys rfl).mono ?_
          rintro e w4 ⟨rfl, dd, rfl⟩
          go_wp2_with fail
          refine (spoilF_calls _ _ ys _ ((hown.below hb3).drewN dd)).mono ?_
          rintro e w4 ⟨rfl, hc4⟩
          have hown0 := hown.own.lt
          have hc03 : Chg (Four d L r B) wb (w3.drewN dd) := (Chg.of_below (hb2.trans (hb3.mono hb2.size))).drewN dd
          have hc34 : Chg (Four d L r B) w w4 := hcb.trans (chg_new hc03 hc4 (fun k hk => (hown0 k hk).1))
          have hap : ∀ k, k < wr.heap.size → ¬ (Value.slice xa2 ys.length xc2).ownBlock = some k := fun k hk e => by have := (hown0 k e).1; have := Hszb.out; have := Hbx.out; omega
          have HDx := Lib.hid (show IsDisk w4 d L s from (((hDb.below hb2).below hb3).drewN dd).chg hc4 (hap _ hlw.1) (hap _ hlw.2.1))
          have HRx := Lib.hid (show RDisk w4 r B s from ((hR2.below hb3).drewN dd).chg hc4 (hap _ hlw.2.2.1) (hap _ hlw.2.2.2))
          have hcx := Lib.hid hc34
          have hwx := Lib.hid (show s.writes ≤ n0 + i + 1 from by omega)
          clear hcb hDb hRb hc03 hc34 hap hown0
          obtain ⟨e1, e2⟩ := both_quiet HRx.out
          have q1 : (s.dead != s.dead) = false := by simp
          have q2 : ((s.writes : Int) != (s.writes : Int)) = false := by simp
          have q3 : ((s.n : Int) != (s.n : Int)) = false := by simp
          go_wp2_with fail
          go_quiet ((first | (go_at_call 11; exact quiet_eq (ddead_calls d L _ _ (HDx.out.drewN _))) | (go_at_call 17; exact quiet_eq (dwrites_calls d L _ _ (HDx.out.drewN _))) | (go_at_call 18; exact quiet_eq (dlen_calls d L _ _ (HDx.out.drewN _))) | (go_at_call 31; exact quiet_eq (rlen_calls r B _ _ (HRx.out.drewN _)))))
          go_wp2
          exact ⟨⟨i + 1, by omega, by omega, by go_num, ⟨s, HDx.out.drewN _, HRx.out.drewN _, by have := hwx.out; omega, hcx.out.drewN _⟩⟩, by simp [intOf]; omega⟩
        · have k5 : (k == 5) = false := by simp [h5]
          clear h5
          by_cases h6 : k = 6
          · subst h6
            go_wp2_with fail
            refine (dstop_calls d L s ac.at_ ac.keep wb hDb hatb).mono ?_
            rintro e w2 ⟨rfl, hD2, hc2⟩
            have hbox2 := hc2.blk hbox (show ¬ _ from by have := Hbx.out; omega)
            have b2' : w2.cell? ⟨bx, 2, none⟩ = some (.int .i64 ac.at_) := by rw [hbox2.cell]; rfl
            have b3' : w2.cell? ⟨bx, 3, none⟩ = some (.int .i64 ac.keep) := by rw [hbox2.cell]; rfl
            have hR2 := hRb.chg hc2 (fun e => hne.1 e.symm) (fun e => hne.2.1 e.symm)
            go_wp2_with fail
            refine (rstop_calls r B s ac.at_ ac.keep w2 hR2 hatb).mono ?_
            rintro e w3 ⟨rfl, hR3, hc3⟩
            obtain ⟨s1, hs1⟩ : ∃ s1, s1 = s.stop ac.at_ ac.keep := ⟨_, rfl⟩
            have hw1 : s1.writes = s.writes := by rw [hs1]; rfl
            rw [← hs1] at hD2 hR3
            have HDx := Lib.hid (show IsDisk w3 d L s1 from hD2.chg hc3 hne.1 hne.2.2.1)
            have HRx := Lib.hid hR3
            have hcx := Lib.hid ((hcb.trans (hc2.mono fun b h => .inl (.inl h))).trans (hc3.mono fun b h => .inr (.inl h)))
            have hwx := Lib.hid (show s1.writes ≤ n0 + i + 1 from by omega)
            clear hcb hDb hRb hc2 hc3 hs1 hw1 hD2 hR3
            obtain ⟨e1, e2⟩ := both_quiet HRx.out
            have q1 : (s1.dead != s1.dead) = false := by simp
            have q2 : ((s1.writes : Int) != (s1.writes : Int)) = false := by simp
            have q3 : ((s1.n : Int) != (s1.n : Int)) = false := by simp
            go_wp2_with fail
            go_quiet ((first | (go_at_call 11; exact quiet_eq (ddead_calls d L _ _ (HDx.out.drewN _))) | (go_at_call 17; exact quiet_eq (dwrites_calls d L _ _ (HDx.out.drewN _))) | (go_at_call 18; exact quiet_eq (dlen_calls d L _ _ (HDx.out.drewN _))) | (go_at_call 31; exact quiet_eq (rlen_calls r B _ _ (HRx.out.drewN _)))))
            go_wp2
            exact ⟨⟨i + 1, by omega, by omega, by go_num, ⟨s1, HDx.out.drewN _, HRx.out.drewN _, by have := hwx.out; omega, hcx.out.drewN _⟩⟩, by simp [intOf]; omega⟩
          · have k6 : (k == 6) = false := by simp [h6]
            clear h6
            by_cases h7 : k = 7
            · subst h7
              go_wp2_with fail
              refine (dstart_calls d L s wb hDb).mono ?_
              rintro e w2 ⟨rfl, hD2, hc2⟩
              have hR2 := hRb.chg hc2 (fun e => hne.1 e.symm) (fun e => hne.2.1 e.symm)
              go_wp2_with fail
              refine (rstart_calls r B s w2 hR2).mono ?_
              rintro e w3 ⟨rfl, hR3, hc3⟩
              obtain ⟨s1, hs1⟩ : ∃ s1, s1 = s.start := ⟨_, rfl⟩
              have hw1 : s1.writes = s.writes := by rw [hs1]; rfl
              rw [← hs1] at hD2 hR3
              have HDx := Lib.hid (show IsDisk w3 d L s1 from hD2.chg hc3 hne.1 hne.2.2.1)
              have HRx := Lib.hid hR3
              have hcx := Lib.hid ((hcb.trans (hc2.mono fun b h => .inl (.inl h))).trans (hc3.mono fun b h => .inr (.inl h)))
              have hwx := Lib.hid (show s1.writes ≤ n0 + i + 1 from by omega)
              clear hcb hDb hRb hc2 hc3 hs1 hw1 hD2 hR3
              obtain ⟨e1, e2⟩ := both_quiet HRx.out
              have q1 : (s1.dead != s1.dead) = false := by simp
              have q2 : ((s1.writes : Int) != (s1.writes : Int)) = false := by simp
              have q3 : ((s1.n : Int) != (s1.n : Int)) = false := by simp
              go_wp2_with fail
              go_quiet ((first | (go_at_call 11; exact quiet_eq (ddead_calls d L _ _ (HDx.out.drewN _))) | (go_at_call 17; exact quiet_eq (dwrites_calls d L _ _ (HDx.out.drewN _))) | (go_at_call 18; exact quiet_eq (dlen_calls d L _ _ (HDx.out.drewN _))) | (go_at_call 31; exact quiet_eq (rlen_calls r B _ _ (HRx.out.drewN _)))))
              go_wp2
              exact ⟨⟨i + 1, by omega, by omega, by go_num, ⟨s1, HDx.out.drewN _, HRx.out.drewN _, by have := hwx.out; omega, hcx.out.drewN _⟩⟩, by simp [intOf]; omega⟩
            · have k7 : (k == 7) = false := by simp [h7]
              clear h7
              go_wp2_with fail
              refine (lend_calls _ xs wb hxb (by omega)).mono ?_
              rintro e w2 ⟨g, rfl, hgg, hlent, hb2⟩
              have hbox2 := hbox.kept hb2
              have hD2 : IsDisk w2.drew d L s := IsDisk.drewN (hDb.below hb2) 1
              have hR2 : RDisk w2.drew r B s := RDisk.drewN (hRb.below hb2) 1
              have hl2 : Lent w2.drew g xs := hlent
              have hc2 : Chg (Four d L r B) w w2.drew := (hcb.trans (Chg.of_below hb2)).drew
              have d1 : w2.cell? ⟨bx, 1, none⟩ = some (.int .i64 ac.i) := hbox2.cell 1
              have d4 : w2.cell? ⟨bx, 4, none⟩ = some (.slice ba xs.length bc) := hbox2.cell 4
              obtain ⟨z, hz⟩ : ∃ z, z = s.wres ac.i xs.length := ⟨_, rfl⟩
              obtain ⟨s1, hs1⟩ : ∃ s1, s1 = s.wr ac.i xs := ⟨_, rfl⟩
              have hw1 : s1.writes ≤ s.writes + 1 := by rw [hs1]; exact DiskS.wr_writes _ _ _
              have nz := neq_self_false z
              have hbxn : bx ≠ d ∧ bx ≠ L ∧ bx ≠ r ∧ bx ≠ B := by have := Hbx.out; omega
              have hgn : g ≠ d ∧ g ≠ L ∧ g ≠ r ∧ g ≠ B := by have := Hbx.out; have := Hszb.out; omega
              have Hz := Lib.hid hz; have Hs1 := Lib.hid hs1; have HD2 := Lib.hid hD2; have HR2 := Lib.hid hR2; have Hl2 := Lib.hid hl2; have Hc2 := Lib.hid hc2; have Hbox2 := Lib.hid hbox2
              clear hz hs1 hD2 hR2 hl2 hc2 hbox2 hDb hRb hcb hbox hbb hxb hx hlent hb2 b1 b2 b3 b4
              go_wp2_with fail
              go_region_held3 (fun w' => w'.cell? ⟨bx, 1, none⟩ = some (.int .i64 ac.i) ∧ w'.cell? ⟨bx, 4, none⟩ = some (.slice ba xs.length bc)) (first | exact ⟨d1, d4⟩ | assumption)
                (first
                  | (go_at_call 9
                     refine (dwrite_any d L s ac.i _ xs w2.drew HD2.out (Hl2.out.bys (by omega)) (by omega)).mono ?_
                     rintro e w3 ⟨rfl, hD3, hc3⟩
                     rw [← Hz.out]
                     rw [← Hs1.out] at hD3
                     have hbox3 := hc3.blk (show Blk w2.drew bx _ _ from Hbox2.out) (fun h => by rcases h with h | h; exact hbxn.1 h; exact hbxn.2.1 h)
                     have hh : w3.cell? ⟨bx, 1, none⟩ = some (.int .i64 ac.i) ∧ w3.cell? ⟨bx, 4, none⟩ = some (.slice ba xs.length bc) := ⟨hbox3.cell 1, hbox3.cell 4⟩
                     have hR3 := HR2.out.chg hc3 (fun h => by rcases h with h | h; exact hne.1 h.symm; exact hne.2.2.1 h.symm) (fun h => by rcases h with h | h; exact hne.2.1 h.symm; exact hne.2.2.2 h.symm)
                     have hl3 : Lent w3 g xs := hc3.blk Hl2.out (fun h => by rcases h with h | h; exact hgn.1 h; exact hgn.2.1 h))
                  | (go_at_call 29
                     refine (rwrite_any r B s ac.i _ xs w3 hR3 (hl3.bys (by omega)) (fun w' hc => Lent.bys (hc.blk hl3 (fun h => hgn.2.2.2 h)) (by omega)) (by omega)).mono ?_
                     rintro e w4 ⟨rfl, hR4, hc4⟩
                     rw [← Hz.out]
                     rw [← Hs1.out] at hR4
                     have hbox4 := hc4.blk hbox3 (fun h => by rcases h with h | h; exact hbxn.2.2.1 h; exact hbxn.2.2.2 h)
                     have hh : w4.cell? ⟨bx, 1, none⟩ = some (.int .i64 ac.i) ∧ w4.cell? ⟨bx, 4, none⟩ = some (.slice ba xs.length bc) := ⟨hbox4.cell 1, hbox4.cell 4⟩
                     have hD4 := hD3.chg hc4 (fun h => by rcases h with h | h; exact hne.1 h; exact hne.2.1 h) (fun h => by rcases h with h | h; exact hne.2.2.1 h; exact hne.2.2.2 h)
                     have hl4 : Lent w4 g xs := hc4.blk hl3 (fun h => by rcases h with h | h; exact hgn.2.2.1 h; exact hgn.2.2.2 h))
                  | (go_at_call 30
                     refine (intact_calls g _ xs w4 hl4 (hxW.below (four_below hW hg hsz ((Hc2.out.trans (hc3.mono fun b h => .inl h)).trans (hc4.mono fun b h => .inr h)))) (by omega)).mono ?_
                     rintro e w5 ⟨rfl, dd, rfl⟩))
              have hc5 := ((Hc2.out.trans (hc3.mono fun b h => .inl h)).trans (hc4.mono fun b h => .inr h)).drewN dd
              have hD5 : IsDisk (w4.drewN dd) d L s1 := hD4
              have hR5 : RDisk (w4.drewN dd) r B s1 := hR4
              obtain ⟨w5, hw5⟩ : ∃ w5, w5 = w4.drewN dd := ⟨_, rfl⟩
              rw [← hw5] at hD5 hR5 hc5 ⊢
              have HDx := Lib.hid hD5
              have HRx := Lib.hid hR5
              have hcx := Lib.hid hc5
              have hwx := Lib.hid (show s1.writes ≤ n0 + i + 1 from by omega)
              clear hh hbox3 hbox4 hD3 hR3 hl3 hl4 hc3 hc4 hD4 hR4 hD5 hR5 hc5 hw5
              obtain ⟨e1, e2⟩ := both_quiet HRx.out
              have q1 : (s1.dead != s1.dead) = false := by simp
              have q2 : ((s1.writes : Int) != (s1.writes : Int)) = false := by simp
              have q3 : ((s1.n : Int) != (s1.n : Int)) = false := by simp
              go_wp2_with fail
              go_quiet ((first | (go_at_call 11; exact quiet_eq (ddead_calls d L _ _ (HDx.out.drewN _))) | (go_at_call 17; exact quiet_eq (dwrites_calls d L _ _ (HDx.out.drewN _))) | (go_at_call 18; exact quiet_eq (dlen_calls d L _ _ (HDx.out.drewN _))) | (go_at_call 31; exact quiet_eq (rlen_calls r B _ _ (HRx.out.drewN _)))))
              go_wp2
              exact ⟨⟨i + 1, by omega, by omega, by go_num, ⟨s1, HDx.out.drewN _, HRx.out.drewN _, by have := hwx.out; omega, hcx.out.drewN _⟩⟩, by simp [intOf]; omega⟩
      · obtain rfl : i = 40 := by omega
        go_wp2
        go_ret
        exact ⟨rfl, H.out⟩
    · obtain rfl : i = n := by omega
      clear h0
      go_wp2
      go_ret
      obtain ⟨s, h1, h2, h3, h4⟩ := H.out
      exact ⟨rfl, s, h1, h2, by omega, h4⟩
end Go.Proofs.Ytofhbmdhenjmeaa
