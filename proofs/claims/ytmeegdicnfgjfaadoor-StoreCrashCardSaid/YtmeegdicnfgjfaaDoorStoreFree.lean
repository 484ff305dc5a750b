/- Walks of the store: a slot is freed, a slot is read. -/
import Derived.Test.YtmeegdicnfgjfaaDoorStoreRead
namespace Go.Mem
open Go Go.RowKit Gf
/-- the blocks of a store's struct and of its disk -/
def Tri (sb d L : Nat) (b : Nat) : Prop := b = sb ∨ b = d ∨ b = L
theorem Blk.chg4 {w : World} {b g : Nat} {arr : Array Value} {t : TypeId} (h : Blk w b arr t) (hg : b ≠ g) (u0 u1 u2 u3 : Value) : Blk ((((w.setCell ⟨g, 0, none⟩ u0).setCell ⟨g, 1, none⟩ u1).setCell ⟨g, 2, none⟩ u2).setCell ⟨g, 3, none⟩ u3) b arr t :=
  (((h.set_other (a := ⟨g, 0, none⟩) (fun e => hg e.symm) u0).set_other (a := ⟨g, 1, none⟩) (fun e => hg e.symm) u1).set_other (a := ⟨g, 2, none⟩) (fun e => hg e.symm) u2).set_other (a := ⟨g, 3, none⟩) (fun e => hg e.symm) u3
/-- what is changed besides is new -/
theorem chg_new2 {S T : Nat → Prop} {w w' w'' : World} (h : Chg S w w') (h' : Chg T w' w'') (hT : ∀ k, T k → w.heap.size ≤ k) : Chg S w w'' :=
  ⟨h'.os.trans h.os, h'.tape.trans h.tape, h'.output.trans h.output, Nat.le_trans h.size h'.size, fun k hk hs => (h'.block k (Nat.lt_of_lt_of_le hk h.size) fun ht => by have := hT k ht; omega).trans (h.block k hk hs)⟩
end Go.Mem
namespace Go.Proofs.YtmeegdicnfgjfaaDoor
open Go Go.RowKit Go.Mem Gf
attribute [local go_sem ↓] Go.wp_at_zero Go.wp_at_succ
theorem chg1 (w : World) (g i : Nat) (v : Value) : Chg (fun b => b = g) w (w.setCell ⟨g, i, none⟩ v) := Chg.set (S := fun b => b = g) (Chg.refl _ _) (a := ⟨g, i, none⟩) rfl v
/-- a store's struct -/
def stV (d room : Nat) (la : Option Addr) (n lc : Nat) (dead : Bool) : Array Value := #[.pointer (some ⟨d, 0, none⟩), .int .i64 room, .slice la n lc, .bool dead]
set_option maxRecDepth 20000 in
set_option maxHeartbeats 2000000 in
theorem free_new (sb d L room n lc i : Nat) (la : Option Addr) (dead : Bool) (D : DiskS) (w : World) (hS : Blk w sb (stV d room la n lc dead) 72) (hD : IsDisk w d L D) (hne : sb ≠ d ∧ sb ≠ L) (hi : n ≤ i) (hi2 : i ≤ 1024) (hr : room ≤ 1024) (hw : D.writes < 4611686018427387904) :
    Calls Tryd.prog 36 #[.pointer (some ⟨sb, 0, none⟩), .int .i64 i] w fun e w' => e = .returned (.int .i64 (D.wres (i * (room + 1) : Nat) 1)) ∧ Blk w' sb (stV d room la n lc (dead || (D.wres (i * (room + 1) : Nat) 1 != 0))) 72 ∧ IsDisk w' d L (D.wr (i * (room + 1) : Nat) [0]) ∧ Chg (Tri sb d L) w w' := by
  obtain ⟨z, hz⟩ : ∃ z, z = D.wres (i * (room + 1) : Nat) 1 := ⟨_, rfl⟩
  have c0 : w.cell? ⟨sb, 0, none⟩ = some (.pointer (some ⟨d, 0, none⟩)) := by rw [hS.cell]; rfl
  have c1 : w.cell? ⟨sb, 1, none⟩ = some (.int .i64 room) := by rw [hS.cell]; rfl
  have d0 : (w.alloc (.cells #[.int .u8 0] 5)).cell? ⟨sb, 0, none⟩ = some (.pointer (some ⟨d, 0, none⟩)) := by rw [(hS.alloc _).cell]; rfl
  have d1 : (w.alloc (.cells #[.int .u8 0] 5)).cell? ⟨sb, 1, none⟩ = some (.int .i64 room) := by rw [(hS.alloc _).cell]; rfl
  have hb0 : Below w.heap.size w (w.alloc (.cells #[.int .u8 0] 5)).drew := below_drewN ((Below.refl _ _).alloc (Nat.le_refl _) _) 1
  have q1 : IntKind.i64.wrap ((room : Int) + 1) = (room : Int) + 1 := IntWalk.i64_in _ (by omega)
  have hm : i * (room + 1) ≤ 1024 * 1025 := Nat.mul_le_mul hi2 (by omega)
  have e2 : (i : Int) * ((room : Int) + 1) = ((i * (room + 1) : Nat) : Int) := by push_cast; rfl
  have q2 : IntKind.i64.wrap ((i : Int) * ((room : Int) + 1)) = (i : Int) * ((room : Int) + 1) := IntWalk.i64_in _ (by rw [e2]; omega)
  rw [← hz]
  have HS := Lib.hid hS; have HD := Lib.hid hD; have Hz := Lib.hid hz; have E2 := Lib.hid e2; have Hb0 := Lib.hid hb0
  clear hS hD hz e2 hm hb0
  go_enter Tryd.func36, Tryd.ntmps36
  go_wp2_with fail
  go_region_held3 (fun w' => w'.cell? ⟨sb, 0, none⟩ = some (.pointer (some ⟨d, 0, none⟩)) ∧ w'.cell? ⟨sb, 1, none⟩ = some (.int .i64 room)) (first | exact ⟨c0, c1⟩ | exact ⟨d0, d1⟩ | assumption)
    (first
      | (go_at_call 24
         rw [E2.out]
         refine (dwrite_any d L D (i * (room + 1) : Nat) _ [0] _ (HD.out.below Hb0.out) (Bys.drewN (bys_one w 0 (.int .u8 0) rfl 5) 1) hw).mono ?_
         rintro e w2 ⟨rfl, hD2, hc2⟩
         have hS2 := hc2.blk (HS.out.kept Hb0.out) (fun h => by rcases h with h | h; exact hne.1 h; exact hne.2 h)
         have hh : w2.cell? ⟨sb, 0, none⟩ = some (.pointer (some ⟨d, 0, none⟩)) ∧ w2.cell? ⟨sb, 1, none⟩ = some (.int .i64 room) := ⟨hS2.cell 0, hS2.cell 1⟩
         rw [show ([0] : List UInt8).length = 1 from rfl, ← Hz.out]))
  have HS2 := Lib.hid hS2; have HD2 := Lib.hid hD2
  have HC2 := Lib.hid (show Chg (Tri sb d L) w w2 from (Chg.of_below Hb0.out).trans (hc2.mono fun b h => .inr h))
  have g2 : w2.cell? ⟨sb, 2, none⟩ = some (.slice la n lc) := hS2.cell 2
  have g3 : w2.cell? ⟨sb, 3, none⟩ = some (.bool dead) := hS2.cell 3
  have f3 := hS2.free 3
  clear hS2 hD2 hc2 hh q1 q2 c0 c1 d0 d1
  by_cases h0 : z = 0
  · subst h0
    go_wp2
    go_ret
    exact ⟨rfl, by simpa using HS2.out, HD2.out, HC2.out⟩
  · have t0 : (z != 0) = true := by simpa using h0
    clear h0
    go_wp2
    go_ret
    refine ⟨rfl, ?_, HD2.out.chg (chg1 _ _ _ _) (fun e => hne.1 e.symm) (fun e => hne.2 e.symm), HC2.out.set (.inl rfl) _⟩
    rw [t0, Bool.or_true]
    exact HS2.out.set 3 (.bool true)
/-- the bytes behind a slot's state -/
def slotB (D : DiskS) (room i : Nat) : Nat → List UInt8
  | 0 => []
  | k + 1 => slotB D room i k ++ D.sector (i * (room + 1) + 1 + k)
theorem slotB_len (D : DiskS) (room i k : Nat) : (slotB D room i k).length = k * 32 := by
  induction k with
  | zero => rfl
  | succ k ih => rw [slotB, List.length_append, ih, sector_len]; omega
/-- what a read of a slot that is new answers: a record, an error, whether its state was written -/
def readR (D : DiskS) (room i : Nat) : Sto.Rec × Int × Bool :=
  if D.dead = true then (Sto.Rec.free, 8, false)
  else if D.f (i * (room + 1) * 32) ≠ 1 then (Sto.Rec.free, 0, false)
  else match Sto.parse (slotB D room i room) with
    | some r => (r, 0, false)
    | none => (Sto.Rec.free, D.wres (i * (room + 1) : Nat) 1, true)
/-- a record as a value -/
def recV (r : Sto.Rec) (dv : Value) : Array Value := #[.bool r.is, .string r.name, .int .i64 r.num, dv]
def ReadPost (sb d L room n lc i : Nat) (la : Option Addr) (dead : Bool) (D : DiskS) (w : World) (e : Ending) (w' : World) : Prop :=
  ∃ dv, e = .returned (.tuple #[.agg (recV (readR D room i).1 dv), .int .i64 (readR D room i).2.1]) ∧ OwnX 5 w' w.heap.size dv (readR D room i).1.data ∧
      Blk w' sb (stV d room la n lc (dead || ((readR D room i).2.2 && ((readR D room i).2.1 != 0)))) 72 ∧ IsDisk w' d L (if (readR D room i).2.2 = true then D.wr (i * (room + 1) : Nat) [0] else D) ∧ Chg (Tri sb d L) w w'
set_option maxRecDepth 20000 in
set_option maxHeartbeats 4000000 in
theorem read_calls (sb d L room n lc i : Nat) (la : Option Addr) (dead : Bool) (D : DiskS) (w : World) (hS : Blk w sb (stV d room la n lc dead) 72) (hD : IsDisk w d L D) (hne : sb ≠ d ∧ sb ≠ L) (hi : n ≤ i) (hi2 : i ≤ 1024) (hr : room ≤ 1024) (hr1 : 1 ≤ room) (hin : (i + 1) * (room + 1) ≤ D.n) (hw : D.writes < 4611686018427387904) :
    Calls Tryd.prog 34 #[.pointer (some ⟨sb, 0, none⟩), .int .i64 i] w (ReadPost sb d L room n lc i la dead D w) := by
  have c0 : w.cell? ⟨sb, 0, none⟩ = some (.pointer (some ⟨d, 0, none⟩)) := by rw [hS.cell]; rfl
  have c1 : w.cell? ⟨sb, 1, none⟩ = some (.int .i64 room) := by rw [hS.cell]; rfl
  have hmul : (i + 1) * (room + 1) = i * (room + 1) + (room + 1) := by rw [Nat.add_mul, Nat.one_mul]
  have hn2 : D.n ≤ 4096 := by obtain ⟨_, _, _, _, _, _, _, _, _, h, _⟩ := hD; exact h
  obtain ⟨m, hm⟩ : ∃ m, m = i * (room + 1) := ⟨_, rfl⟩
  have e2 : (i : Int) * ((room : Int) + 1) = (m : Int) := by rw [hm]; push_cast; rfl
  rw [hmul, ← hm] at hin
  have hb0 : Below w.heap.size w ((w.alloc (.cells #[.bool false, .string { data := #[] }, .int .i64 0, .slice none 0 0] 74)).drew) := below_drewN ((Below.refl _ _).alloc (Nat.le_refl _) _) 1
  have hR0 := Blk.new w #[.bool false, .string { data := #[] }, .int .i64 0, .slice none 0 0] 74
  have d0 : (w.alloc (.cells #[.bool false, .string { data := #[] }, .int .i64 0, .slice none 0 0] 74)).cell? ⟨sb, 0, none⟩ = some (.pointer (some ⟨d, 0, none⟩)) := by rw [(hS.alloc _).cell]; rfl
  have d1 : (w.alloc (.cells #[.bool false, .string { data := #[] }, .int .i64 0, .slice none 0 0] 74)).cell? ⟨sb, 1, none⟩ = some (.int .i64 room) := by rw [(hS.alloc _).cell]; rfl
  have q1 : IntKind.i64.wrap ((room : Int) + 1) = (room : Int) + 1 := IntWalk.i64_in _ (by omega)
  have q2 : IntKind.i64.wrap ((i : Int) * ((room : Int) + 1)) = (i : Int) * ((room : Int) + 1) := IntWalk.i64_in _ (by rw [e2]; omega)
  have HS := Lib.hid hS; have HD := Lib.hid hD; have Hb0 := Lib.hid hb0; have E2 := Lib.hid e2; have Hm := Lib.hid hm; have HR0 := Lib.hid hR0
  clear hS hD hb0 e2 hm hR0 hmul
  go_enter Tryd.func34, Tryd.ntmps34
  go_wp2_with fail
  go_region_held3 (fun w' => w'.cell? ⟨sb, 0, none⟩ = some (.pointer (some ⟨d, 0, none⟩)) ∧ w'.cell? ⟨sb, 1, none⟩ = some (.int .i64 room)) (first | exact ⟨d0, d1⟩ | assumption)
    (first
      | (go_at_call 47
         rw [E2.out]
         refine (dread_any d L D (m : Nat) _ (HD.out.below Hb0.out)).mono ?_
         rintro e w2 ⟨rv, rfl, hrv, hb2⟩
         have hbox2 := HR0.out.drew.below hb2 (by simp)
         have hb2 : Below w.heap.size w w2 := Hb0.out.trans (hb2.mono (by simp))
         have hS2 := HS.out.kept hb2
         have hh : w2.cell? ⟨sb, 0, none⟩ = some (.pointer (some ⟨d, 0, none⟩)) ∧ w2.cell? ⟨sb, 1, none⟩ = some (.int .i64 room) := ⟨hS2.cell 0, hS2.cell 1⟩))
  have hR2 : Blk w2 w.heap.size #[.bool false, .string { data := #[] }, .int .i64 0, .slice none 0 0] 74 := hbox2
  have HRV := Lib.hid hrv; have HS2 := Lib.hid hS2; have HB2 := Lib.hid hb2; have HR2 := Lib.hid hR2
  have d0 : w2.cell? ⟨w.heap.size, 0, none⟩ = some (.bool false) := hR2.cell 0
  have d1 : w2.cell? ⟨w.heap.size, 1, none⟩ = some (.string { data := #[] }) := hR2.cell 1
  have d2 : w2.cell? ⟨w.heap.size, 2, none⟩ = some (.int .i64 0) := hR2.cell 2
  have d3 : w2.cell? ⟨w.heap.size, 3, none⟩ = some (.slice none 0 0) := hR2.cell 3
  have f0 := hR2.free 0; have f1 := hR2.free 1; have f2 := hR2.free 2; have f3 := hR2.free 3
  clear hrv hS2 hb2 hR2 hh hbox2 c0 c1 q1 q2
  have HF := Lib.hid (chg4 w2 w.heap.size)
  by_cases hdead : D.dead = true
  · have Hrr := Lib.hid (show D.rres (m : Nat) = 8 from by unfold DiskS.rres; rw [if_pos (DiskS.may_yes (by omega)), if_pos hdead])
    have HRD := Lib.hid (show readR D room i = (Sto.Rec.free, 8, false) from by unfold readR; rw [if_pos hdead])
    clear hdead
    rw [Hrr.out]
    go_wp2
    refine bodyPost_ret (v := .tuple #[.agg #[.bool false, .string { data := #[] }, .int .i64 0, .slice none 0 0], .int .i64 8]) (by simp [results, Tryd.results34, go_sem, d0, d1, d2, d3]) rfl ?_
    unfold ReadPost
    rw [HRD.out]
    exact ⟨_, rfl, OwnX.nil _ _ _, by simpa using (HS2.out.chg4 (show sb ≠ w.heap.size from Nat.ne_of_lt HS.out.lt) _ _ _ _), IsDisk.chg (HD.out.below HB2.out) (HF.out _ _ _ _) (fun e => by have := HD.out.lt.1; omega) (fun e => by have := HD.out.lt.2; omega), chg_new2 (Chg.of_below HB2.out) (HF.out _ _ _ _) (fun k hk => by omega)⟩
  · have hdead : D.dead = false := by simpa using hdead
    have Hrr := Lib.hid (show D.rres (m : Nat) = 0 from by unfold DiskS.rres; rw [if_pos (DiskS.may_yes (by omega)), if_neg (by rw [hdead]; decide)])
    have Hrd := Lib.hid (show D.rd (m : Nat) = D.sector m from by unfold DiskS.rd; rw [if_pos ⟨DiskS.may_yes (by omega), hdead⟩]; simp)
    have hrv := HRV.out
    rw [Hrd.out] at hrv
    obtain ⟨ra, rc, rfl⟩ := hrv.bys.eq_slice
    obtain ⟨b1, o1, e1, g0⟩ := Bys.byte hrv.bys 0 (by rw [sector_len]; decide)
    subst e1
    have g0 : w2.cell? ⟨b1, o1, none⟩ = some (.int .u8 ((D.f (m * 32)).toNat : Nat)) := by
      have e : (D.sector m).getD 0 0 = D.f (m * 32) := by rw [List.getD_eq_getElem?_getD, sector_get _ _ _ (by decide)]; rfl
      rw [← e]; exact g0
    rw [sector_len, Hrr.out]
    have Hdead := Lib.hid hdead
    clear hrv hdead
    by_cases h1 : D.f (m * 32) = 1
    · rw [h1] at g0
      have g0 : w2.cell? ⟨b1, o1, none⟩ = some (.int .u8 1) := g0
      have H1 := Lib.hid h1
      clear h1
      go_wp2_with fail
      have Q1 := Lib.hid (show IntKind.i64.wrap ((room : Int) + 1) = (room : Int) + 1 from IntWalk.i64_in _ (by omega))
      have Q2 := Lib.hid (show IntKind.i64.wrap ((i : Int) * ((room : Int) + 1)) = (i : Int) * ((room : Int) + 1) from IntWalk.i64_in _ (by rw [E2.out]; omega))
      have Q3 := Lib.hid (show IntKind.i64.wrap ((i : Int) * ((room : Int) + 1) + 1) = (i : Int) * ((room : Int) + 1) + 1 from IntWalk.i64_in _ (by rw [E2.out]; omega))
      have Q4 := Lib.hid (fun (k : Nat) (hk : k < room) => (show IntKind.i64.wrap ((i : Int) * ((room : Int) + 1) + 1 + (k : Int)) = (i : Int) * ((room : Int) + 1) + 1 + (k : Int) from IntWalk.i64_in _ (by rw [E2.out]; omega)))
      have hs2 := HB2.out.size
      have hlt2 := HR2.out.lt
      have hltD := HD.out.lt
      have hltS := HS.out.lt
      go_loopw [8, 43] (fun u v wr => ∃ k : Nat, k ≤ room ∧ v = .int .i64 k ∧ OwnX 5 wr w2.heap.size u (slotB D room i k) ∧ Below w2.heap.size w2 wr) (fun _ v _ => room - (intOf v).toNat)
      case atStart => exact ⟨0, by omega, rfl, OwnX.nil _ _ _, Below.refl _ _⟩
      case round =>
        clear d0 d1 d2 d3 f0 f1 f2 f3 g0
        obtain ⟨k, hk, rfl, ho, hb⟩ := hrel
        have hSr := HS2.out.kept hb
        by_cases hkr : k < room
        · have a0 : wr.cell? ⟨sb, 0, none⟩ = some (.pointer (some ⟨d, 0, none⟩)) := hSr.cell 0
          have a1 : wr.cell? ⟨sb, 1, none⟩ = some (.int .i64 room) := hSr.cell 1
          have q1 := Q1.out; have q2 := Q2.out; have q3 := Q3.out; have q4 := Q4.out k hkr
          have HSr := Lib.hid hSr; have Hbr := Lib.hid hb; have HO := Lib.hid ho
          have hrr := Lib.hid (show D.rres ((m + 1 + k : Nat) : Int) = 0 from by unfold DiskS.rres; rw [if_pos (DiskS.may_yes (by omega)), if_neg (by rw [Hdead.out]; decide)])
          have hrd := Lib.hid (show D.rd ((m + 1 + k : Nat) : Int) = D.sector (m + 1 + k) from by unfold DiskS.rd; rw [if_pos ⟨DiskS.may_yes (by omega), Hdead.out⟩, Int.toNat_natCast])
          have E3 := Lib.hid (show (i : Int) * ((room : Int) + 1) + 1 + (k : Int) = ((m + 1 + k : Nat) : Int) from by rw [E2.out]; push_cast; rfl)
          clear hSr hb ho
          go_wp2_with fail
          go_region_held3 (fun w' => w'.cell? ⟨sb, 0, none⟩ = some (.pointer (some ⟨d, 0, none⟩)) ∧ w'.cell? ⟨sb, 1, none⟩ = some (.int .i64 room)) (first | exact ⟨a0, a1⟩ | assumption)
            (first
              | (go_at_call 47
                 rw [E3.out]
                 refine (dread_any d L D ((m + 1 + k : Nat) : Int) _ ((HD.out.below (HB2.out.trans (Hbr.out.mono hs2))).drewN 1)).mono ?_
                 rintro e w4 ⟨rv, rfl, hrv, hb4⟩
                 have hb4 : Below wr.heap.size wr w4 := of_drew hb4
                 have hS4 := HSr.out.kept hb4
                 have hh : w4.cell? ⟨sb, 0, none⟩ = some (.pointer (some ⟨d, 0, none⟩)) ∧ w4.cell? ⟨sb, 1, none⟩ = some (.int .i64 room) := ⟨hS4.cell 0, hS4.cell 1⟩
                 rw [hrd.out] at hrv
                 rw [hrr.out]))
          have HS4 := Lib.hid hS4; have HB4 := Lib.hid hb4; have HRV4 := Lib.hid hrv.bys
          have hsr := Hbr.out.size
          have hs4 := HB4.out.size
          have hlt8 := HO.out.lt
          have hln := slotB_len D room i k
          have Hfin := Lib.hid (show slotB D room i (k + 1) = slotB D room i k ++ D.sector (m + 1 + k) from by rw [slotB, Hm.out])
          clear hS4 hb4 hrv hh q1 q2 q3 q4 a0 a1
          go_wp2_with (at_builtin; refine appX E8c rfl _ _ rfl (base := w2.heap.size) (news := D.sector (m + 1 + k)) rfl rfl (HO.out.below HB4.out) HRV4.out ?z1 ?z2 ?_)
          case z1 =>
            have hm2 : k * 32 ≤ 1024 * 32 := Nat.mul_le_mul (by omega) (Nat.le_refl _)
            rw [hln, sector_len]; omega
          case z2 => omega
          intro v5 w5 ho5 hg5
          have hb5 := grown_below (Hbr.out.trans (HB4.out.mono hsr)) hg5 (fun q hq => (hlt8 q hq).1)
          rw [← Hfin.out] at ho5
          clear hg5 hln
          go_wp2
          exact ⟨⟨k + 1, by omega, by go_num, ho5, hb5⟩, by simp [intOf] <;> omega⟩
        · obtain rfl : k = room := by omega
          have hbox := HR2.out.kept hb
          have hDr := HD.out.below (HB2.out.trans (hb.mono hs2))
          have hBr := HB2.out.trans (hb.mono hs2)
          have hlen := slotB_len D k i k
          have HBX := Lib.hid hbox; have HDR := Lib.hid hDr; have HBR := Lib.hid hBr; have HO := Lib.hid ho; have HSR := Lib.hid hSr
          have hsr := hb.size
          clear hbox hDr hBr hSr hb
          go_wp2_with fail
          refine (parse_calls _ _ wr HO.out.bys (by
            have hm2 : k * 32 ≤ 1024 * 32 := Nat.mul_le_mul (by omega) (Nat.le_refl _)
            rw [hlen]; omega)).mono ?_
          rintro e w6 ⟨hb6, ⟨r, hp, dv, rfl, hdv⟩ | ⟨hp, v, rfl, hv⟩⟩
          · have HRD := Lib.hid (show readR D k i = (r, 0, false) from by unfold readR; rw [if_neg (by rw [Hdead.out]; decide), ← Hm.out, if_neg (by rw [H1.out]; decide), hp])
            have hri : r.is = true := by
              unfold Sto.parse at hp
              split at hp
              · cases hp
              · split at hp
                · injection hp with hp; rw [← hp]
                · cases hp
            obtain ⟨da, dc, rfl⟩ := hdv.eq_slice
            have hbox6 := HBX.out.kept hb6
            have HB6 := Lib.hid (HBR.out.trans (hb6.mono (Nat.le_trans hs2 hsr)))
            have h6s := hb6.size
            have x0 : w6.cell? ⟨w.heap.size, 0, none⟩ = some (.bool false) := hbox6.cell 0
            have x1 : w6.cell? ⟨w.heap.size, 1, none⟩ = some (.string { data := #[] }) := hbox6.cell 1
            have x2 : w6.cell? ⟨w.heap.size, 2, none⟩ = some (.int .i64 0) := hbox6.cell 2
            have x3 : w6.cell? ⟨w.heap.size, 3, none⟩ = some (.slice none 0 0) := hbox6.cell 3
            have y0 : ∀ o, (w6.alloc o).cell? ⟨w.heap.size, 0, none⟩ = some (.bool false) := fun o => (hbox6.alloc o).cell 0
            have y1 : ∀ o, (w6.alloc o).cell? ⟨w.heap.size, 1, none⟩ = some (.string { data := #[] }) := fun o => (hbox6.alloc o).cell 1
            have y2 : ∀ o, (w6.alloc o).cell? ⟨w.heap.size, 2, none⟩ = some (.int .i64 0) := fun o => (hbox6.alloc o).cell 2
            have y3 : ∀ o, (w6.alloc o).cell? ⟨w.heap.size, 3, none⟩ = some (.slice none 0 0) := fun o => (hbox6.alloc o).cell 3
            have z0 : ∀ o, (w6.alloc o).frozen? ⟨w.heap.size, 0, none⟩ = false := fun o => (hbox6.alloc o).free 0
            have z1 : ∀ o, (w6.alloc o).frozen? ⟨w.heap.size, 1, none⟩ = false := fun o => (hbox6.alloc o).free 1
            have z2 : ∀ o, (w6.alloc o).frozen? ⟨w.heap.size, 2, none⟩ = false := fun o => (hbox6.alloc o).free 2
            have z3 : ∀ o, (w6.alloc o).frozen? ⟨w.heap.size, 3, none⟩ = false := fun o => (hbox6.alloc o).free 3
            have HF6 := Lib.hid (fun (o : Obj) => chg4 (w6.alloc o) w.heap.size)
            have HS6 := Lib.hid (fun (o : Obj) => (HS.out.kept HB6.out).alloc o)
            have HD6 := Lib.hid (fun (o : Obj) => (HD.out.below HB6.out).below ((Below.refl _ _).alloc (Nat.le_refl _) o))
            have HDV := Lib.hid (fun (o : Obj) => hdv.alloc o)
            have HP := Lib.hid hp; have HRI := Lib.hid hri
            clear hp hri hbox6 hb6 hdv
            go_wp2
            refine bodyPost_ret (v := .tuple #[.agg #[.bool true, .string r.name, .int .i64 (r.num : Int), .slice da r.data.length dc], .int .i64 0]) (by simp [results, Tryd.results34, go_sem, y0, y1, y2, y3]) rfl ?_
            unfold ReadPost
            rw [HRD.out]
            refine ⟨.slice da r.data.length dc, by rw [recV, HRI.out], ?_, by simpa using ((HS6.out _).chg4 (show sb ≠ w.heap.size from Nat.ne_of_lt hltS) _ _ _ _), IsDisk.chg (HD6.out _) (HF6.out _ _ _ _ _) (fun e => by omega) (fun e => by omega), chg_new2 (Chg.of_below (HB6.out.alloc HB6.out.size _)) (HF6.out _ _ _ _ _) (fun k hk => by omega)⟩
            exact ((HDV.out _).chg (HF6.out _ _ _ _ _) (fun g hg e => by have := ((HDV.out (.cells #[] 0)).lt g hg).1; omega)).mono (by omega)
          · obtain ⟨vb, vs, vz, vd, rfl, da, dl, dc, rfl⟩ := hv
            have HRD := Lib.hid (show readR D k i = (Sto.Rec.free, D.wres (i * (k + 1) : Nat) 1, true) from by unfold readR; rw [if_neg (by rw [Hdead.out]; decide), ← Hm.out, if_neg (by rw [H1.out]; decide), hp])
            have hbox6 := HBX.out.kept hb6
            have hal : ∀ o, Below w6.heap.size w6 (w6.alloc o) := fun o => (Below.refl _ _).alloc (Nat.le_refl _) o
            have HB6 := Lib.hid (HBR.out.trans (hb6.mono (Nat.le_trans hs2 hsr)))
            have h6s := hb6.size
            have HF6 := Lib.hid (fun (o : Obj) => free_new sb d L k n lc i la dead D (w6.alloc o) ((HS.out.kept HB6.out).alloc o) ((HD.out.below HB6.out).below (hal o)) hne hi hi2 hr hw)
            have HX6 := Lib.hid (fun (o : Obj) => hbox6.alloc o)
            have HAL := Lib.hid hal
            clear hp hbox6 hb6 hal
            go_wp2_with fail
            refine (HF6.out _).mono ?_
            rintro e w7 ⟨rfl, hS7, hD7, hc7⟩
            have hdn : ¬ Tri sb d L w.heap.size := fun e => by rcases e with e | e | e <;> omega
            have hbox7 := hc7.blk (HX6.out _) hdn
            have x0 : w7.cell? ⟨w.heap.size, 0, none⟩ = some (.bool false) := hbox7.cell 0
            have x1 : w7.cell? ⟨w.heap.size, 1, none⟩ = some (.string { data := #[] }) := hbox7.cell 1
            have x2 : w7.cell? ⟨w.heap.size, 2, none⟩ = some (.int .i64 0) := hbox7.cell 2
            have x3 : w7.cell? ⟨w.heap.size, 3, none⟩ = some (.slice none 0 0) := hbox7.cell 3
            have z0 := hbox7.free 0; have z1 := hbox7.free 1; have z2 := hbox7.free 2; have z3 := hbox7.free 3
            obtain ⟨z, hz⟩ : ∃ z, z = D.wres (i * (k + 1) : Nat) 1 := ⟨_, rfl⟩
            rw [← hz] at hS7 ⊢
            have Hz := Lib.hid hz; have HS7 := Lib.hid hS7; have HD7 := Lib.hid hD7
            have HC7 := Lib.hid (show Chg (Tri sb d L) w w7 from (Chg.of_below (HB6.out.alloc HB6.out.size _)).trans hc7)
            have HF7 := Lib.hid (chg4 w7 w.heap.size)
            clear hz hS7 hD7 hc7 hbox7
            go_wp2
            refine bodyPost_ret (v := .tuple #[.agg #[.bool false, .string { data := #[] }, .int .i64 0, .slice none 0 0], .int .i64 z]) (by simp [results, Tryd.results34, go_sem, x0, x1, x2, x3]) rfl ?_
            unfold ReadPost
            rw [HRD.out, ← Hz.out]
            exact ⟨_, rfl, OwnX.nil _ _ _, by simpa using (HS7.out.chg4 (show sb ≠ w.heap.size from Nat.ne_of_lt hltS) _ _ _ _), IsDisk.chg HD7.out (HF7.out _ _ _ _) (fun e => by omega) (fun e => by omega), chg_new2 HC7.out (HF7.out _ _ _ _) (fun k hk => by omega)⟩
    · have HRD := Lib.hid (show readR D room i = (Sto.Rec.free, 0, false) from by unfold readR; rw [if_neg (by rw [Hdead.out]; decide), ← Hm.out, if_pos h1])
      obtain ⟨u1, hu1⟩ : ∃ u1, u1 = D.f (m * 32) := ⟨_, rfl⟩
      rw [← hu1] at g0 h1
      have t1 : (((u1.toNat : Nat) : Int) != 1) = true := neq_u8 (k := 1) (by decide) h1
      clear hu1 h1
      go_wp2
      refine bodyPost_ret (v := .tuple #[.agg #[.bool false, .string { data := #[] }, .int .i64 0, .slice none 0 0], .int .i64 0]) (by simp [results, Tryd.results34, go_sem, d0, d1, d2, d3]) rfl ?_
      unfold ReadPost
      rw [HRD.out]
      exact ⟨_, rfl, OwnX.nil _ _ _, by simpa using (HS2.out.chg4 (show sb ≠ w.heap.size from Nat.ne_of_lt HS.out.lt) _ _ _ _), IsDisk.chg (HD.out.below HB2.out) (HF.out _ _ _ _) (fun e => by have := HD.out.lt.1; omega) (fun e => by have := HD.out.lt.2; omega), chg_new2 (Chg.of_below HB2.out) (HF.out _ _ _ _) (fun k hk => by omega)⟩
end Go.Proofs.YtmeegdicnfgjfaaDoor
