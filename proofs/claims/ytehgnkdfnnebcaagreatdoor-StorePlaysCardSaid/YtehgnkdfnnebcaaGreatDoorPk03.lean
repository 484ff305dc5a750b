/- Texts of this proof, packed: StoreFree, AppK, StoreMem, TailNew, TailAny, RegJ, LongOp, RowG, Far, AppG. -/
import Derived.Test.YtehgnkdfnnebcaaGreatDoorPk02
import Derived.Test.YtehgnkdfnnebcaaGreatDoorPk01
import Derived.Test.YtehgnkdfnnebcaaGreatDoorPk00
import Derived.Deep.RegionLaw
import Derived.Deep.MidRow
import Derived.Deep.RegionHeld3
import Derived.Great.BuildSlice
section
namespace Go.Mem
open Go Go.RowKit Gf
def Tri (sb d L : Nat) (b : Nat) : Prop := b = sb ∨ b = d ∨ b = L
theorem Blk.chg4 {w : World} {b g : Nat} {arr : Array Value} {t : TypeId} (h : Blk w b arr t) (hg : b ≠ g) (u0 u1 u2 u3 : Value) : Blk ((((w.setCell ⟨g, 0, none⟩ u0).setCell ⟨g, 1, none⟩ u1).setCell ⟨g, 2, none⟩ u2).setCell ⟨g, 3, none⟩ u3) b arr t :=
  (((h.set_other (a := ⟨g, 0, none⟩) (fun e => hg e.symm) u0).set_other (a := ⟨g, 1, none⟩) (fun e => hg e.symm) u1).set_other (a := ⟨g, 2, none⟩) (fun e => hg e.symm) u2).set_other (a := ⟨g, 3, none⟩) (fun e => hg e.symm) u3
theorem chg_new2 {S T : Nat → Prop} {w w' w'' : World} (h : Chg S w w') (h' : Chg T w' w'') (hT : ∀ k, T k → w.heap.size ≤ k) : Chg S w w'' :=
  ⟨h'.os.trans h.os, h'.tape.trans h.tape, h'.output.trans h.output, Nat.le_trans h.size h'.size, fun k hk hs => (h'.block k (Nat.lt_of_lt_of_le hk h.size) fun ht => by have := hT k ht; omega).trans (h.block k hk hs)⟩
end Go.Mem
namespace Go.Proofs.YtehgnkdfnnebcaaGreatDoor
open Go Go.RowKit Go.Mem Gf
attribute [local go_sem ↓] Go.wp_at_zero Go.wp_at_succ
theorem chg1 (w : World) (g i : Nat) (v : Value) : Chg (fun b => b = g) w (w.setCell ⟨g, i, none⟩ v) := Chg.set (S := fun b => b = g) (Chg.refl _ _) (a := ⟨g, i, none⟩) rfl v
def stV (d room : Nat) (la : Option Addr) (n lc : Nat) (dead : Bool) : Array Value := #[.pointer (some ⟨d, 0, none⟩), .int .i64 room, .slice la n lc, .bool dead]
set_option maxRecDepth 20000 in
set_option maxHeartbeats 2000000 in
theorem free_new (sb d L room n lc i : Nat) (la : Option Addr) (dead : Bool) (D : DiskS) (w : World) (hS : Blk w sb (stV d room la n lc dead) 76) (hD : IsDisk w d L D) (hne : sb ≠ d ∧ sb ≠ L) (hi : n ≤ i) (hi2 : i ≤ 1024) (hr : room ≤ 1024) (hw : D.writes < 4611686018427387904) :
    Calls Tryz.prog 44 #[.pointer (some ⟨sb, 0, none⟩), .int .i64 i] w fun e w' => e = .returned (.int .i64 (D.wres (i * (room + 1) : Nat) 1)) ∧ Blk w' sb (stV d room la n lc (dead || (D.wres (i * (room + 1) : Nat) 1 != 0))) 76 ∧ IsDisk w' d L (D.wr (i * (room + 1) : Nat) [0]) ∧ Chg (Tri sb d L) w w' := by
  obtain ⟨z, hz⟩ : ∃ z, z = D.wres (i * (room + 1) : Nat) 1 := ⟨_, rfl⟩
  have c0 : w.cell? ⟨sb, 0, none⟩ = some (.pointer (some ⟨d, 0, none⟩)) := by rw [hS.cell]; rfl
  have c1 : w.cell? ⟨sb, 1, none⟩ = some (.int .i64 room) := by rw [hS.cell]; rfl
  have d0 : (w.alloc (.cells #[.int .u8 0] 5)).cell? ⟨sb, 0, none⟩ = some (.pointer (some ⟨d, 0, none⟩)) := by rw [(hS.alloc _).cell]; rfl
  have d1 : (w.alloc (.cells #[.int .u8 0] 5)).cell? ⟨sb, 1, none⟩ = some (.int .i64 room) := by rw [(hS.alloc _).cell]; rfl
  have hb0 : Below w.heap.size w (w.alloc (.cells #[.int .u8 0] 5)).drew := below_drewN ((Below.refl _ _).alloc (Nat.le_refl _) _) 1
  have q1 : IntKind.i64.wrap ((room : Int) + 1) = (room : Int) + 1 := IntWalk.i64_in _ (by omega)
  have hm : i * (room + 1) ≤ 1024 * 1025 := Nat.mul_le_mul hi2 (by omega)
  have e2 : (i : Int) * ((room : Int) + 1) = ((i * (room + 1) : Nat) : Int) := by push_cast; rfl
  have q2 : IntKind.i64.wrap ((i : Int) * ((room : Int) + 1)) = (i : Int) * ((room : Int) + 1) := IntWalk.i64_in _ (by rw [e2]; omega)
  rw [← hz]
  have HS := Lib.hid hS; have HD := Lib.hid hD; have Hz := Lib.hid hz; have E2 := Lib.hid e2; have Hb0 := Lib.hid hb0
  clear hS hD hz e2 hm hb0
  go_enter Tryz.func44, Tryz.ntmps44
  go_wp2_with fail
  go_region_held3 (fun w' => w'.cell? ⟨sb, 0, none⟩ = some (.pointer (some ⟨d, 0, none⟩)) ∧ w'.cell? ⟨sb, 1, none⟩ = some (.int .i64 room)) (first | exact ⟨c0, c1⟩ | exact ⟨d0, d1⟩ | assumption)
    (first
      | (go_at_call 57
         rw [E2.out]
         refine (dwrite_any d L D (i * (room + 1) : Nat) _ [0] _ (HD.out.below Hb0.out) (Bys.drewN (bys_one w 0 (.int .u8 0) rfl 5) 1) hw).mono ?_
         rintro e w2 ⟨rfl, hD2, hc2⟩
         have hS2 := hc2.blk (HS.out.kept Hb0.out) (fun h => by rcases h with h | h; exact hne.1 h; exact hne.2 h)
         have hh : w2.cell? ⟨sb, 0, none⟩ = some (.pointer (some ⟨d, 0, none⟩)) ∧ w2.cell? ⟨sb, 1, none⟩ = some (.int .i64 room) := ⟨hS2.cell 0, hS2.cell 1⟩
         rw [show ([0] : List UInt8).length = 1 from rfl, ← Hz.out]))
  have HS2 := Lib.hid hS2; have HD2 := Lib.hid hD2
  have HC2 := Lib.hid (show Chg (Tri sb d L) w w2 from (Chg.of_below Hb0.out).trans (hc2.mono fun b h => .inr h))
  have g2 : w2.cell? ⟨sb, 2, none⟩ = some (.slice la n lc) := hS2.cell 2
  have g3 : w2.cell? ⟨sb, 3, none⟩ = some (.bool dead) := hS2.cell 3
  have f3 := hS2.free 3
  clear hS2 hD2 hc2 hh q1 q2 c0 c1 d0 d1
  by_cases h0 : z = 0
  · subst h0
    go_wp2
    go_ret
    exact ⟨rfl, by simpa using HS2.out, HD2.out, HC2.out⟩
  · have t0 : (z != 0) = true := by simpa using h0
    clear h0
    go_wp2
    go_ret
    refine ⟨rfl, ?_, HD2.out.chg (chg1 _ _ _ _) (fun e => hne.1 e.symm) (fun e => hne.2 e.symm), HC2.out.set (.inl rfl) _⟩
    rw [t0, Bool.or_true]
    exact HS2.out.set 3 (.bool true)
def slotB (D : DiskS) (room i : Nat) : Nat → List UInt8
  | 0 => []
  | k + 1 => slotB D room i k ++ D.sector (i * (room + 1) + 1 + k)
theorem slotB_len (D : DiskS) (room i k : Nat) : (slotB D room i k).length = k * 32 := by
  induction k with
  | zero => rfl
  | succ k ih => rw [slotB, List.length_append, ih, sector_len]; omega
def readR (D : DiskS) (room i : Nat) : Sto.Rec × Int × Bool :=
  if D.dead = true then (Sto.Rec.free, 8, false)
  else if D.f (i * (room + 1) * 32) ≠ 1 then (Sto.Rec.free, 0, false)
  else match Sto.parse (slotB D room i room) with
    | some r => (r, 0, false)
    | none => (Sto.Rec.free, D.wres (i * (room + 1) : Nat) 1, true)
def recV (r : Sto.Rec) (dv : Value) : Array Value := #[.bool r.is, .string r.name, .int .i64 r.num, dv]
def ReadPost (sb d L room n lc i : Nat) (la : Option Addr) (dead : Bool) (D : DiskS) (w : World) (e : Ending) (w' : World) : Prop :=
  ∃ dv, e = .returned (.tuple #[.agg (recV (readR D room i).1 dv), .int .i64 (readR D room i).2.1]) ∧ OwnX 5 w' w.heap.size dv (readR D room i).1.data ∧
      Blk w' sb (stV d room la n lc (dead || ((readR D room i).2.2 && ((readR D room i).2.1 != 0)))) 76 ∧ IsDisk w' d L (if (readR D room i).2.2 = true then D.wr (i * (room + 1) : Nat) [0] else D) ∧ Chg (Tri sb d L) w w'
set_option maxRecDepth 20000 in
set_option maxHeartbeats 4000000 in
theorem read_calls (sb d L room n lc i : Nat) (la : Option Addr) (dead : Bool) (D : DiskS) (w : World) (hS : Blk w sb (stV d room la n lc dead) 76) (hD : IsDisk w d L D) (hne : sb ≠ d ∧ sb ≠ L) (hi : n ≤ i) (hi2 : i ≤ 1024) (hr : room ≤ 1024) (hr1 : 1 ≤ room) (hin : (i + 1) * (room + 1) ≤ D.n) (hw : D.writes < 4611686018427387904) :
    Calls Tryz.prog 53 #[.pointer (some ⟨sb, 0, none⟩), .int .i64 i] w (ReadPost sb d L room n lc i la dead D w) := by
  have c0 : w.cell? ⟨sb, 0, none⟩ = some (.pointer (some ⟨d, 0, none⟩)) := by rw [hS.cell]; rfl
  have c1 : w.cell? ⟨sb, 1, none⟩ = some (.int .i64 room) := by rw [hS.cell]; rfl
  have hmul : (i + 1) * (room + 1) = i * (room + 1) + (room + 1) := by rw [Nat.add_mul, Nat.one_mul]
  have hn2 : D.n ≤ 4096 := by obtain ⟨_, _, _, _, _, _, _, _, _, h, _⟩ := hD; exact h
  obtain ⟨m, hm⟩ : ∃ m, m = i * (room + 1) := ⟨_, rfl⟩
  have e2 : (i : Int) * ((room : Int) + 1) = (m : Int) := by rw [hm]; push_cast; rfl
  rw [hmul, ← hm] at hin
  have hb0 : Below w.heap.size w ((w.alloc (.cells #[.bool false, .string { data := #[] }, .int .i64 0, .slice none 0 0] 78)).drew) := below_drewN ((Below.refl _ _).alloc (Nat.le_refl _) _) 1
  have hR0 := Blk.new w #[.bool false, .string { data := #[] }, .int .i64 0, .slice none 0 0] 78
  have d0 : (w.alloc (.cells #[.bool false, .string { data := #[] }, .int .i64 0, .slice none 0 0] 78)).cell? ⟨sb, 0, none⟩ = some (.pointer (some ⟨d, 0, none⟩)) := by rw [(hS.alloc _).cell]; rfl
  have d1 : (w.alloc (.cells #[.bool false, .string { data := #[] }, .int .i64 0, .slice none 0 0] 78)).cell? ⟨sb, 1, none⟩ = some (.int .i64 room) := by rw [(hS.alloc _).cell]; rfl
  have q1 : IntKind.i64.wrap ((room : Int) + 1) = (room : Int) + 1 := IntWalk.i64_in _ (by omega)
  have q2 : IntKind.i64.wrap ((i : Int) * ((room : Int) + 1)) = (i : Int) * ((room : Int) + 1) := IntWalk.i64_in _ (by rw [e2]; omega)
  have HS := Lib.hid hS; have HD := Lib.hid hD; have Hb0 := Lib.hid hb0; have E2 := Lib.hid e2; have Hm := Lib.hid hm; have HR0 := Lib.hid hR0
  clear hS hD hb0 e2 hm hR0 hmul
  go_enter Tryz.func53, Tryz.ntmps53
  go_wp2_with fail
  go_region_held3 (fun w' => w'.cell? ⟨sb, 0, none⟩ = some (.pointer (some ⟨d, 0, none⟩)) ∧ w'.cell? ⟨sb, 1, none⟩ = some (.int .i64 room)) (first | exact ⟨d0, d1⟩ | assumption)
    (first
      | (go_at_call 21
         rw [E2.out]
         refine (dread_any d L D (m : Nat) _ (HD.out.below Hb0.out)).mono ?_
         rintro e w2 ⟨rv, rfl, hrv, hb2⟩
         have hbox2 := HR0.out.drew.below hb2 (by simp)
         have hb2 : Below w.heap.size w w2 := Hb0.out.trans (hb2.mono (by simp))
         have hS2 := HS.out.kept hb2
         have hh : w2.cell? ⟨sb, 0, none⟩ = some (.pointer (some ⟨d, 0, none⟩)) ∧ w2.cell? ⟨sb, 1, none⟩ = some (.int .i64 room) := ⟨hS2.cell 0, hS2.cell 1⟩))
  have hR2 : Blk w2 w.heap.size #[.bool false, .string { data := #[] }, .int .i64 0, .slice none 0 0] 78 := hbox2
  have HRV := Lib.hid hrv; have HS2 := Lib.hid hS2; have HB2 := Lib.hid hb2; have HR2 := Lib.hid hR2
  have d0 : w2.cell? ⟨w.heap.size, 0, none⟩ = some (.bool false) := hR2.cell 0
  have d1 : w2.cell? ⟨w.heap.size, 1, none⟩ = some (.string { data := #[] }) := hR2.cell 1
  have d2 : w2.cell? ⟨w.heap.size, 2, none⟩ = some (.int .i64 0) := hR2.cell 2
  have d3 : w2.cell? ⟨w.heap.size, 3, none⟩ = some (.slice none 0 0) := hR2.cell 3
  have f0 := hR2.free 0; have f1 := hR2.free 1; have f2 := hR2.free 2; have f3 := hR2.free 3
  clear hrv hS2 hb2 hR2 hh hbox2 c0 c1 q1 q2
  have HF := Lib.hid (chg4 w2 w.heap.size)
  by_cases hdead : D.dead = true
  · have Hrr := Lib.hid (show D.rres (m : Nat) = 8 from by unfold DiskS.rres; rw [if_pos (DiskS.may_yes (by omega)), if_pos hdead])
    have HRD := Lib.hid (show readR D room i = (Sto.Rec.free, 8, false) from by unfold readR; rw [if_pos hdead])
    clear hdead
    rw [Hrr.out]
    go_wp2
    refine bodyPost_ret (v := .tuple #[.agg #[.bool false, .string { data := #[] }, .int .i64 0, .slice none 0 0], .int .i64 8]) (by simp [results, Tryz.results53, go_sem, d0, d1, d2, d3]) rfl ?_
    unfold ReadPost
    rw [HRD.out]
    exact ⟨_, rfl, OwnX.nil _ _ _, by simpa using (HS2.out.chg4 (show sb ≠ w.heap.size from Nat.ne_of_lt HS.out.lt) _ _ _ _), IsDisk.chg (HD.out.below HB2.out) (HF.out _ _ _ _) (fun e => by have := HD.out.lt.1; omega) (fun e => by have := HD.out.lt.2; omega), chg_new2 (Chg.of_below HB2.out) (HF.out _ _ _ _) (fun k hk => by omega)⟩
  · have hdead : D.dead = false := by simpa using hdead
    have Hrr := Lib.hid (show D.rres (m : Nat) = 0 from by unfold DiskS.rres; rw [if_pos (DiskS.may_yes (by omega)), if_neg (by rw [hdead]; decide)])
    have Hrd := Lib.hid (show D.rd (m : Nat) = D.sector m from by unfold DiskS.rd; rw [if_pos ⟨DiskS.may_yes (by omega), hdead⟩]; simp)
    have hrv := HRV.out
    rw [Hrd.out] at hrv
    obtain ⟨ra, rc, rfl⟩ := hrv.bys.eq_slice
    obtain ⟨b1, o1, e1, g0⟩ := Bys.byte hrv.bys 0 (by rw [sector_len]; decide)
    subst e1
    have g0 : w2.cell? ⟨b1, o1, none⟩ = some (.int .u8 ((D.f (m * 32)).toNat : Nat)) := by
      have e : (D.sector m).getD 0 0 = D.f (m * 32) := by rw [List.getD_eq_getElem?_getD, sector_get _ _ _ (by decide)]; rfl
      rw [← e]; exact g0
    rw [sector_len, Hrr.out]
    have Hdead := Lib.hid hdead
    clear hrv hdead
    by_cases h1 : D.f (m * 32) = 1
    · rw [h1] at g0
      have g0 : w2.cell? ⟨b1, o1, none⟩ = some (.int .u8 1) := g0
      have H1 := Lib.hid h1
      clear h1
      go_wp2_with fail
      have Q1 := Lib.hid (show IntKind.i64.wrap ((room : Int) + 1) = (room : Int) + 1 from IntWalk.i64_in _ (by omega))
      have Q2 := Lib.hid (show IntKind.i64.wrap ((i : Int) * ((room : Int) + 1)) = (i : Int) * ((room : Int) + 1) from IntWalk.i64_in _ (by rw [E2.out]; omega))
      have Q3 := Lib.hid (show IntKind.i64.wrap ((i : Int) * ((room : Int) + 1) + 1) = (i : Int) * ((room : Int) + 1) + 1 from IntWalk.i64_in _ (by rw [E2.out]; omega))
      have Q4 := Lib.hid (fun (k : Nat) (hk : k < room) => (show IntKind.i64.wrap ((i : Int) * ((room : Int) + 1) + 1 + (k : Int)) = (i : Int) * ((room : Int) + 1) + 1 + (k : Int) from IntWalk.i64_in _ (by rw [E2.out]; omega)))
      have hs2 := HB2.out.size
      have hlt2 := HR2.out.lt
      have hltD := HD.out.lt
      have hltS := HS.out.lt
      go_loopw [8, 43] (fun u v wr => ∃ k : Nat, k ≤ room ∧ v = .int .i64 k ∧ OwnX 5 wr w2.heap.size u (slotB D room i k) ∧ Below w2.heap.size w2 wr) (fun _ v _ => room - (intOf v).toNat)
      case atStart => exact ⟨0, by omega, rfl, OwnX.nil _ _ _, Below.refl _ _⟩
      case round =>
        clear d0 d1 d2 d3 f0 f1 f2 f3 g0
        obtain ⟨k, hk, rfl, ho, hb⟩ := hrel
        have hSr := HS2.out.kept hb
        by_cases hkr : k < room
        · have a0 : wr.cell? ⟨sb, 0, none⟩ = some (.pointer (some ⟨d, 0, none⟩)) := hSr.cell 0
          have a1 : wr.cell? ⟨sb, 1, none⟩ = some (.int .i64 room) := hSr.cell 1
          have q1 := Q1.out; have q2 := Q2.out; have q3 := Q3.out; have q4 := Q4.out k hkr
          have HSr := Lib.hid hSr; have Hbr := Lib.hid hb; have HO := Lib.hid ho
          have hrr := Lib.hid (show D.rres ((m + 1 + k : Nat) : Int) = 0 from by unfold DiskS.rres; rw [if_pos (DiskS.may_yes (by omega)), if_neg (by rw [Hdead.out]; decide)])
          have hrd := Lib.hid (show D.rd ((m + 1 + k : Nat) : Int) = D.sector (m + 1 + k) from by unfold DiskS.rd; rw [if_pos ⟨DiskS.may_yes (by omega), Hdead.out⟩, Int.toNat_natCast])
          have E3 := Lib.hid (show (i : Int) * ((room : Int) + 1) + 1 + (k : Int) = ((m + 1 + k : Nat) : Int) from by rw [E2.out]; push_cast; rfl)
          clear hSr hb ho
          go_wp2_with fail
          go_region_held3 (fun w' => w'.cell? ⟨sb, 0, none⟩ = some (.pointer (some ⟨d, 0, none⟩)) ∧ w'.cell? ⟨sb, 1, none⟩ = some (.int .i64 room)) (first | exact ⟨a0, a1⟩ | assumption)
            (first
              | (go_at_call 21
                 rw [E3.out]
                 refine (dread_any d L D ((m + 1 + k : Nat) : Int) _ ((HD.out.below (HB2.out.trans (Hbr.out.mono hs2))).drewN 1)).mono ?_
                 rintro e w4 ⟨rv, rfl, hrv, hb4⟩
                 have hb4 : Below wr.heap.size wr w4 := of_drew hb4
                 have hS4 := HSr.out.kept hb4
                 have hh : w4.cell? ⟨sb, 0, none⟩ = some (.pointer (some ⟨d, 0, none⟩)) ∧ w4.cell? ⟨sb, 1, none⟩ = some (.int .i64 room) := ⟨hS4.cell 0, hS4.cell 1⟩
                 rw [hrd.out] at hrv
                 rw [hrr.out]))
          have HS4 := Lib.hid hS4; have HB4 := Lib.hid hb4; have HRV4 := Lib.hid hrv.bys
          have hsr := Hbr.out.size
          have hs4 := HB4.out.size
          have hlt8 := HO.out.lt
          have hln := slotB_len D room i k
          have Hfin := Lib.hid (show slotB D room i (k + 1) = slotB D room i k ++ D.sector (m + 1 + k) from by rw [slotB, Hm.out])
          clear hS4 hb4 hrv hh q1 q2 q3 q4 a0 a1
          go_wp2_with (at_builtin; refine appX E8c rfl _ _ rfl (base := w2.heap.size) (news := D.sector (m + 1 + k)) rfl rfl (HO.out.below HB4.out) HRV4.out ?z1 ?z2 ?_)
          case z1 =>
            have hm2 : k * 32 ≤ 1024 * 32 := Nat.mul_le_mul (by omega) (Nat.le_refl _)
            rw [hln, sector_len]; omega
          case z2 => omega
          intro v5 w5 ho5 hg5
          have hb5 := grown_below (Hbr.out.trans (HB4.out.mono hsr)) hg5 (fun q hq => (hlt8 q hq).1)
          rw [← Hfin.out] at ho5
          clear hg5 hln
          go_wp2
          exact ⟨⟨k + 1, by omega, by go_num, ho5, hb5⟩, by simp [intOf] <;> omega⟩
        · obtain rfl : k = room := by omega
          have hbox := HR2.out.kept hb
          have hDr := HD.out.below (HB2.out.trans (hb.mono hs2))
          have hBr := HB2.out.trans (hb.mono hs2)
          have hlen := slotB_len D k i k
          have HBX := Lib.hid hbox; have HDR := Lib.hid hDr; have HBR := Lib.hid hBr; have HO := Lib.hid ho; have HSR := Lib.hid hSr
          have hsr := hb.size
          clear hbox hDr hBr hSr hb
          go_wp2_with fail
          refine (parse_calls _ _ wr HO.out.bys (by
            have hm2 : k * 32 ≤ 1024 * 32 := Nat.mul_le_mul (by omega) (Nat.le_refl _)
            rw [hlen]; omega)).mono ?_
          rintro e w6 ⟨hb6, ⟨r, hp, dv, rfl, hdv⟩ | ⟨hp, v, rfl, hv⟩⟩
          · have HRD := Lib.hid (show readR D k i = (r, 0, false) from by unfold readR; rw [if_neg (by rw [Hdead.out]; decide), ← Hm.out, if_neg (by rw [H1.out]; decide), hp])
            have hri : r.is = true := by
              unfold Sto.parse at hp
              split at hp
              · cases hp
              · split at hp
                · injection hp with hp; rw [← hp]
                · cases hp
            obtain ⟨da, dc, rfl⟩ := hdv.eq_slice
            have hbox6 := HBX.out.kept hb6
            have HB6 := Lib.hid (HBR.out.trans (hb6.mono (Nat.le_trans hs2 hsr)))
            have h6s := hb6.size
            have x0 : w6.cell? ⟨w.heap.size, 0, none⟩ = some (.bool false) := hbox6.cell 0
            have x1 : w6.cell? ⟨w.heap.size, 1, none⟩ = some (.string { data := #[] }) := hbox6.cell 1
            have x2 : w6.cell? ⟨w.heap.size, 2, none⟩ = some (.int .i64 0) := hbox6.cell 2
            have x3 : w6.cell? ⟨w.heap.size, 3, none⟩ = some (.slice none 0 0) := hbox6.cell 3
            have y0 : ∀ o, (w6.alloc o).cell? ⟨w.heap.size, 0, none⟩ = some (.bool false) := fun o => (hbox6.alloc o).cell 0
            have y1 : ∀ o, (w6.alloc o).cell? ⟨w.heap.size, 1, none⟩ = some (.string { data := #[] }) := fun o => (hbox6.alloc o).cell 1
            have y2 : ∀ o, (w6.alloc o).cell? ⟨w.heap.size, 2, none⟩ = some (.int .i64 0) := fun o => (hbox6.alloc o).cell 2
            have y3 : ∀ o, (w6.alloc o).cell? ⟨w.heap.size, 3, none⟩ = some (.slice none 0 0) := fun o => (hbox6.alloc o).cell 3
            have z0 : ∀ o, (w6.alloc o).frozen? ⟨w.heap.size, 0, none⟩ = false := fun o => (hbox6.alloc o).free 0
            have z1 : ∀ o, (w6.alloc o).frozen? ⟨w.heap.size, 1, none⟩ = false := fun o => (hbox6.alloc o).free 1
            have z2 : ∀ o, (w6.alloc o).frozen? ⟨w.heap.size, 2, none⟩ = false := fun o => (hbox6.alloc o).free 2
            have z3 : ∀ o, (w6.alloc o).frozen? ⟨w.heap.size, 3, none⟩ = false := fun o => (hbox6.alloc o).free 3
            have HF6 := Lib.hid (fun (o : Obj) => chg4 (w6.alloc o) w.heap.size)
            have HS6 := Lib.hid (fun (o : Obj) => (HS.out.kept HB6.out).alloc o)
            have HD6 := Lib.hid (fun (o : Obj) => (HD.out.below HB6.out).below ((Below.refl _ _).alloc (Nat.le_refl _) o))
            have HDV := Lib.hid (fun (o : Obj) => hdv.alloc o)
            have HP := Lib.hid hp; have HRI := Lib.hid hri
            clear hp hri hbox6 hb6 hdv
            go_wp2
            refine bodyPost_ret (v := .tuple #[.agg #[.bool true, .string r.name, .int .i64 (r.num : Int), .slice da r.data.length dc], .int .i64 0]) (by simp [results, Tryz.results53, go_sem, y0, y1, y2, y3]) rfl ?_
            unfold ReadPost
            rw [HRD.out]
            refine ⟨.slice da r.data.length dc, by rw [recV, HRI.out], ?_, by simpa using ((HS6.out _).chg4 (show sb ≠ w.heap.size from Nat.ne_of_lt hltS) _ _ _ _), IsDisk.chg (HD6.out _) (HF6.out _ _ _ _ _) (fun e => by omega) (fun e => by omega), chg_new2 (Chg.of_below (HB6.out.alloc HB6.out.size _)) (HF6.out _ _ _ _ _) (fun k hk => by omega)⟩
            exact ((HDV.out _).chg (HF6.out _ _ _ _ _) (fun g hg e => by have := ((HDV.out (.cells #[] 0)).lt g hg).1; omega)).mono (by omega)
          · obtain ⟨vb, vs, vz, vd, rfl, da, dl, dc, rfl⟩ := hv
            have HRD := Lib.hid (show readR D k i = (Sto.Rec.free, D.wres (i * (k + 1) : Nat) 1, true) from by unfold readR; rw [if_neg (by rw [Hdead.out]; decide), ← Hm.out, if_neg (by rw [H1.out]; decide), hp])
            have hbox6 := HBX.out.kept hb6
            have hal : ∀ o, Below w6.heap.size w6 (w6.alloc o) := fun o => (Below.refl _ _).alloc (Nat.le_refl _) o
            have HB6 := Lib.hid (HBR.out.trans (hb6.mono (Nat.le_trans hs2 hsr)))
            have h6s := hb6.size
            have HF6 := Lib.hid (fun (o : Obj) => free_new sb d L k n lc i la dead D (w6.alloc o) ((HS.out.kept HB6.out).alloc o) ((HD.out.below HB6.out).below (hal o)) hne hi hi2 hr hw)
            have HX6 := Lib.hid (fun (o : Obj) => hbox6.alloc o)
            have HAL := Lib.hid hal
            clear hp hbox6 hb6 hal
            go_wp2_with fail
            refine (HF6.out _).mono ?_
            rintro e w7 ⟨rfl, hS7, hD7, hc7⟩
            have hdn : ¬ Tri sb d L w.heap.size := fun e => by rcases e with e | e | e <;> omega
            have hbox7 := hc7.blk (HX6.out _) hdn
            have x0 : w7.cell? ⟨w.heap.size, 0, none⟩ = some (.bool false) := hbox7.cell 0
            have x1 : w7.cell? ⟨w.heap.size, 1, none⟩ = some (.string { data := #[] }) := hbox7.cell 1
            have x2 : w7.cell? ⟨w.heap.size, 2, none⟩ = some (.int .i64 0) := hbox7.cell 2
            have x3 : w7.cell? ⟨w.heap.size, 3, none⟩ = some (.slice none 0 0) := hbox7.cell 3
            have z0 := hbox7.free 0; have z1 := hbox7.free 1; have z2 := hbox7.free 2; have z3 := hbox7.free 3
            obtain ⟨z, hz⟩ : ∃ z, z = D.wres (i * (k + 1) : Nat) 1 := ⟨_, rfl⟩
            rw [← hz] at hS7 ⊢
            have Hz := Lib.hid hz; have HS7 := Lib.hid hS7; have HD7 := Lib.hid hD7
            have HC7 := Lib.hid (show Chg (Tri sb d L) w w7 from (Chg.of_below (HB6.out.alloc HB6.out.size _)).trans hc7)
            have HF7 := Lib.hid (chg4 w7 w.heap.size)
            clear hz hS7 hD7 hc7 hbox7
            go_wp2
            refine bodyPost_ret (v := .tuple #[.agg #[.bool false, .string { data := #[] }, .int .i64 0, .slice none 0 0], .int .i64 z]) (by simp [results, Tryz.results53, go_sem, x0, x1, x2, x3]) rfl ?_
            unfold ReadPost
            rw [HRD.out, ← Hz.out]
            exact ⟨_, rfl, OwnX.nil _ _ _, by simpa using (HS7.out.chg4 (show sb ≠ w.heap.size from Nat.ne_of_lt hltS) _ _ _ _), IsDisk.chg HD7.out (HF7.out _ _ _ _) (fun e => by omega) (fun e => by omega), chg_new2 HC7.out (HF7.out _ _ _ _) (fun k hk => by omega)⟩
    · have HRD := Lib.hid (show readR D room i = (Sto.Rec.free, 0, false) from by unfold readR; rw [if_neg (by rw [Hdead.out]; decide), ← Hm.out, if_pos h1])
      obtain ⟨u1, hu1⟩ : ∃ u1, u1 = D.f (m * 32) := ⟨_, rfl⟩
      rw [← hu1] at g0 h1
      have t1 : (((u1.toNat : Nat) : Int) != 1) = true := neq_u8 (k := 1) (by decide) h1
      clear hu1 h1
      go_wp2
      refine bodyPost_ret (v := .tuple #[.agg #[.bool false, .string { data := #[] }, .int .i64 0, .slice none 0 0], .int .i64 0]) (by simp [results, Tryz.results53, go_sem, d0, d1, d2, d3]) rfl ?_
      unfold ReadPost
      rw [HRD.out]
      exact ⟨_, rfl, OwnX.nil _ _ _, by simpa using (HS2.out.chg4 (show sb ≠ w.heap.size from Nat.ne_of_lt HS.out.lt) _ _ _ _), IsDisk.chg (HD.out.below HB2.out) (HF.out _ _ _ _) (fun e => by have := HD.out.lt.1; omega) (fun e => by have := HD.out.lt.2; omega), chg_new2 (Chg.of_below HB2.out) (HF.out _ _ _ _) (fun k hk => by omega)⟩
end Go.Proofs.YtehgnkdfnnebcaaGreatDoor
end
section
namespace Go.Mem
open Go Go.RowKit Gf
section
variable {P : Program} {w : World} {ops : Array Oper} {rest : List Oper} {o : Oper} {a : Act} {Q : Exit → Act → World → Prop} {K : Act → World → Prop} {E0 : Prop}
theorem wpAppK {t e : TypeId} {z : Value} {size bytes : Nat} (E : ElemK P t e z size bytes) (s x : Operand) (ho : o.op = .call { callee := .builtin .append, args := #[s, x], argTypes := #[t, t] })
    {base : Nat} {v : Value} {n : Nat} {xs : List Value} (news : List Value) (hs : a.eval s = v) {mb : Nat} (hx : a.eval x = .slice (some ⟨mb, 0, none⟩) 1 1) (hl : news.length = size) (hnews : ∀ j u, news[j]? = some u → w.cell? ⟨mb, j, none⟩ = some u) (h1 : ∀ u ∈ news, u.oneCell' = true)
    (hown : w.ownsRow base e size v n xs) (hn : n + 1 ≤ 4294967296) (hby : bytes ≤ 4096) (hbase : base ≤ w.heap.size)
    (h : ∀ v' w', w'.ownsRow base e size v' (n + 1) (xs ++ news) ∧ w.grownBy w' v.ownBlock → K (a.put o.dst v') w') : o.wp P a w K Q := by
  obtain ⟨i, hi, hz, hsz, hb⟩ := info_parts E.info
  have hm : (n + 1) * bytes ≤ 4294967296 * 4096 := Nat.mul_le_mul hn hby
  exact wp_append_own w s x t ho base e i z size bytes E.under hi hz hsz hb E.zsize E.pos v n xs hs hown ⟨mb, 0, none⟩ 1 1 news hx (by omega)
    (fun j y hj => by
      rw [show (⟨mb, 0, none⟩ : Addr).add j = ⟨mb, j, none⟩ from by unfold Addr.add; split <;> simp_all]
      exact hnews j y hj)
    h1 (by unfold maxLen; omega) (by omega) hbase (fun v' w' h2 h3 _ => h v' w' ⟨h2, h3⟩)
theorem stepAppK {t e : TypeId} {z : Value} {size bytes : Nat} (E : ElemK P t e z size bytes) (hgd : o.guard = none) (s x : Operand) (ho : o.op = .call { callee := .builtin .append, args := #[s, x], argTypes := #[t, t] })
    {base : Nat} {v : Value} {n : Nat} {xs : List Value} (news : List Value) (hs : a.eval s = v) {mb : Nat} (hx : a.eval x = .slice (some ⟨mb, 0, none⟩) 1 1) (hl : news.length = size) (hnews : ∀ j u, news[j]? = some u → w.cell? ⟨mb, j, none⟩ = some u) (h1 : ∀ u ∈ news, u.oneCell' = true)
    (hown : w.ownsRow base e size v n xs) (hn : n + 1 ≤ 4294967296) (hby : bytes ≤ 4096) (hbase : base ≤ w.heap.size)
    (h : ∀ v' w', w'.ownsRow base e size v' (n + 1) (xs ++ news) → w.grownBy w' v.ownBlock → K (a.put o.dst v') w') : if Region.wanted o (yielded ops a.tmps) = true then Oper.wp P o a w K Q else E0 :=
  to_step hgd (fun _ hK => wpAppK E s x ho news hs hx hl hnews h1 hown hn hby hbase hK) fun v' w' h2 => h v' w' h2.1 h2.2
end
theorem own_chg {S : Nat → Prop} {w w' : World} {base : Nat} {e : TypeId} {size n : Nat} {v : Value} {xs : List Value} (h : w.ownsRow base e size v n xs) (hc : Chg S w w') (hs : ∀ g, v.ownBlock = some g → ¬ S g) : w'.ownsRow base e size v n xs := by
  refine ⟨h.1, ?_⟩
  rcases h.2 with hn | ⟨g, cap, cur, rfl, hb, hg, rest⟩
  · exact .inl hn
  · exact .inr ⟨g, cap, cur, rfl, hb, (hc.block g (lt_of_block hg) (hs g rfl)).trans hg, rest⟩
theorem own_eq_slice {w : World} {base : Nat} {e : TypeId} {size n : Nat} {v : Value} {xs : List Value} (h : w.ownsRow base e size v n xs) : ∃ a c, v = .slice a n c ∧ (0 < n → ∃ g, a = some ⟨g, 0, none⟩) := by
  rcases h.2 with ⟨rfl, rfl⟩ | ⟨g, cap, cur, rfl, _⟩
  · exact ⟨none, 0, rfl, fun h => by omega⟩
  · exact ⟨_, cap, rfl, fun _ => ⟨g, rfl⟩⟩
theorem Chg.grown {S : Nat → Prop} {w w' w'' : World} {row : Option Nat} (h : Chg S w w') (hg : w'.grownBy w'' row) (hr : ∀ q, row = some q → S q ∨ w.heap.size ≤ q) : Chg S w w'' :=
  ⟨hg.os.trans h.os, hg.tape.trans h.tape, hg.output.trans h.output, Nat.le_trans h.size hg.size, fun k hk hs => (hg.block k (Nat.lt_of_lt_of_le hk h.size) (fun e => by rcases hr k e.symm with h | h; exact hs h; omega)).trans (h.block k hk hs)⟩
theorem Chg.mix {S T : Nat → Prop} {w w' w'' : World} (h : Chg S w w') (h' : Chg T w' w'') (hT : ∀ k, T k → S k ∨ w.heap.size ≤ k) : Chg S w w'' :=
  ⟨h'.os.trans h.os, h'.tape.trans h.tape, h'.output.trans h.output, Nat.le_trans h.size h'.size, fun k hk hs => (h'.block k (Nat.lt_of_lt_of_le hk h.size) (fun ht => by rcases hT k ht with h | h; exact hs h; omega)).trans (h.block k hk hs)⟩
theorem Blk.grown' {w w' : World} {b : Nat} {arr : Array Value} {t : TypeId} {row : Option Nat} (hb : Blk w b arr t) (hg : w.grownBy w' row) (hr : row ≠ some b) : Blk w' b arr t := by
  unfold Blk at *
  rw [hg.block b (lt_of_block hb) (fun e => hr e.symm)]
  exact hb
theorem new_news {w : World} {arr : Array Value} {t : TypeId} {news : List Value} (h : arr = news.toArray) : ∀ j u, news[j]? = some u → (w.alloc (.cells arr t)).cell? ⟨w.heap.size, j, none⟩ = some u := fun j u hu => by
  rw [(Blk.new w arr t).cell, h]
  simpa using hu
theorem run_append_own_new {P : Program} (w : World) (base : Nat) (t ty e : TypeId) (i : TypeInfo) (z : Value) (size bytes : Nat) (ht : P.underlying t = some (.slice e)) (hi : P.info? e = some i) (hz : i.zero = some z)
    (hsize : i.size = size) (hby : i.bytes = bytes) (hzs : z.cells.size = size) (hsz : 0 < size)
    (v : Value) (n : Nat) (xs : List Value) (hown : w.ownsRow base e size v n xs)
    (a : Addr) (m c : Nat) (news : List Value) (hl : news.length = m * size) (hnews : ∀ j u, news[j]? = some u → w.cell? (a.add j) = some u) (h1 : ∀ u ∈ news, u.oneCell' = true)
    (h63 : n + m ≤ maxLen) (hbytes : (n + m) * bytes ≤ 140737488355328) (hbase : base ≤ w.heap.size) :
    ∃ v' w', (Builtin.append_ #[t, t] ty #[v, .slice (some a) m c]).run P w = .ok v' w' ∧ w'.ownsRow base e size v' (n + m) (xs ++ news) ∧ w.grownBy w' v.ownBlock ∧
      (∀ k, v'.ownBlock = some k → v.ownBlock = some k ∨ w.heap.size ≤ k) := by
  obtain ⟨v', w', hr, h2, h3, _⟩ := run_append_own (P := P) w base t ty e i z size bytes ht hi hz hsize hby hzs hsz v n xs hown a m c news hl hnews h1 h63 hbytes hbase
  refine ⟨v', w', hr, h2, h3, fun k hk => ?_⟩
  have hsmall : n + m ≤ 9223372036854775807 := by simp only [maxLen] at h63; omega
  have hown0 := hown
  rcases hown.2 with ⟨rfl, rfl⟩ | ⟨g, cap, cur, rfl, hbg, hg, hnc, hcm, hcs, htake⟩
  · right
    have hx : xs = [] := List.eq_nil_of_length_eq_zero (by simpa using hown.1)
    subst hx
    obtain ⟨v2, w2, hr2, h22, _, _⟩ := run_append_own (P := P) w w.heap.size t ty e i z size bytes ht hi hz hsize hby hzs hsz _ 0 [] (World.ownsRow_nil w w.heap.size e size) a m c news hl hnews h1 h63 hbytes (Nat.le_refl _)
    rw [hr] at hr2
    injection hr2 with e1 e2
    subst e1
    exact (h22.lt k hk).1
  · subst hsize
    subst hby
    by_cases hroom : n + m ≤ cap
    · left
      have hfit : n * i.size + news.length ≤ cur.size := by rw [hl, hcs, ← Nat.add_mul]; exact Nat.mul_le_mul_right _ hroom
      have hr3 := run_append_room (P := P) w t ty e i ht hi g n cap cur hg a m c news hl hnews h1 hroom hfit
      rw [hr] at hr3
      injection hr3 with e1 e2
      subst e1
      exact hk
    · right
      have holds : ∀ j u, xs[j]? = some u → w.cell? ((⟨g, 0, none⟩ : Addr).add j) = some u := hown0.cells (g := g) rfl
      have hr3 := run_append_grow (P := P) w t ty e i z ht hi hz ⟨g, 0, none⟩ n cap xs hown0.1 holds a m c news hl hnews (by omega) (by omega) (growslice_fits (by omega) hbytes)
      rw [hr] at hr3
      injection hr3 with e1 e2
      subst e1
      have hk2 : w.heap.size = k := by simpa [Value.ownBlock] using hk
      omega
section
variable {P : Program} {w : World} {ops : Array Oper} {rest : List Oper} {o : Oper} {a : Act} {Q : Exit → Act → World → Prop} {K : Act → World → Prop} {E0 : Prop}
end
end Go.Mem
end
section
namespace Go.Mem
open Go Go.RowKit Gf
def DataAt (w : World) (N : Nat → Prop) (v : Value) (bs : List UInt8) : Prop :=
  Bys w v bs ∧ ∃ a c, v = .slice a bs.length c ∧ ∀ b, a = some b → b.block < w.heap.size ∧ ¬ N b.block
theorem DataAt.nil (w : World) (N : Nat → Prop) : DataAt w N (.slice none 0 0) [] := ⟨Bys.nil _, none, 0, rfl, fun b h => by cases h⟩
theorem Bys.chg {S : Nat → Prop} {w w' : World} {v : Value} {bs : List UInt8} (h : Bys w v bs) (hc : Chg S w w') (hs : ∀ a l c, v = .slice (some a) l c → ¬ S a.block) : Bys w' v bs := by
  obtain ⟨a, cap, rfl, h1, h2, h3⟩ := h
  refine ⟨a, cap, rfl, h1, h2, fun hp => ?_⟩
  obtain ⟨b, off, rfl, hcell⟩ := h3 hp
  refine ⟨b, off, rfl, fun i u hi => ?_⟩
  have hx := hcell i u hi
  have hlt : b < w.heap.size := World.block_lt_of_cell? w ⟨b, off + i, none⟩ hx
  have hb := hc.block b hlt (hs _ _ _ rfl)
  unfold World.cell? at hx ⊢
  rw [hb]; exact hx
theorem DataAt.chg {S N : Nat → Prop} {w w' : World} {v : Value} {bs : List UInt8} (h : DataAt w N v bs) (hc : Chg S w w') (hs : ∀ b, S b → b < w.heap.size → N b) : DataAt w' N v bs := by
  obtain ⟨h1, a, c, rfl, h2⟩ := h
  refine ⟨h1.chg hc (fun a' l c' e hS => ?_), a, c, rfl, fun b hb => ⟨Nat.lt_of_lt_of_le (h2 b hb).1 hc.size, (h2 b hb).2⟩⟩
  injection e with e1 _ _
  obtain ⟨hb1, hb2⟩ := h2 a' e1
  exact hb2 (hs _ hS hb1)
theorem DataAt.mono {N M : Nat → Prop} {w : World} {v : Value} {bs : List UInt8} (h : DataAt w N v bs) (hM : ∀ b, M b → N b ∨ w.heap.size ≤ b) : DataAt w M v bs := by
  obtain ⟨h1, a, c, rfl, h2⟩ := h
  refine ⟨h1, a, c, rfl, fun b hb => ⟨(h2 b hb).1, fun hm => ?_⟩⟩
  rcases hM _ hm with h | h
  · exact (h2 b hb).2 h
  · have := (h2 b hb).1; omega
theorem OwnX.data {t8 : TypeId} {w : World} {base : Nat} {v : Value} {bs : List UInt8} {N : Nat → Prop} (h : OwnX t8 w base v bs) (hN : ∀ b, base ≤ b → b < w.heap.size → ¬ N b) : DataAt w N v bs := by
  refine ⟨h.bys, ?_⟩
  rcases h with ⟨rfl, rfl⟩ | ⟨g, cap, arr, fz, rfl, h2, h3, _⟩
  · exact ⟨none, 0, rfl, fun b h => by cases h⟩
  · exact ⟨_, cap, rfl, fun b hb => by cases hb; exact ⟨lt_of_block h3, hN _ h2 (lt_of_block h3)⟩⟩
def recsV : List Sto.Rec → List Value → List Value
  | r :: l, v :: vs => [.bool r.is, .string r.name, .int .i64 r.num, v] ++ recsV l vs
  | _, _ => []
theorem recsV_len : ∀ (l : List Sto.Rec) (vs : List Value), vs.length = l.length → (recsV l vs).length = l.length * 4
  | [], [], _ => rfl
  | r :: l, v :: vs, h => by
    simp only [recsV, List.length_append, List.length_cons, List.length_nil]
    have := recsV_len l vs (by simpa using h)
    omega
theorem recsV_snoc : ∀ (l : List Sto.Rec) (vs : List Value) (r : Sto.Rec) (v : Value), vs.length = l.length → recsV (l ++ [r]) (vs ++ [v]) = recsV l vs ++ [.bool r.is, .string r.name, .int .i64 r.num, v]
  | [], [], r, v, _ => rfl
  | r' :: l, v' :: vs, r, v, h => by
    simp only [List.cons_append, recsV, List.append_assoc]
    rw [recsV_snoc l vs r v (by simpa using h)]
theorem recsV_get : ∀ (l : List Sto.Rec) (vs : List Value) (i : Nat) (r : Sto.Rec) (v : Value), l[i]? = some r → vs[i]? = some v →
    (recsV l vs)[i * 4]? = some (.bool r.is) ∧ (recsV l vs)[i * 4 + 1]? = some (.string r.name) ∧ (recsV l vs)[i * 4 + 2]? = some (.int .i64 r.num) ∧ (recsV l vs)[i * 4 + 3]? = some v
  | r :: l, v :: vs, 0, r', v', h1, h2 => by
    simp at h1 h2
    subst h1 h2
    exact ⟨rfl, rfl, rfl, rfl⟩
  | r :: l, v :: vs, i + 1, r', v', h1, h2 => by
    have := recsV_get l vs i r' v' (by simpa using h1) (by simpa using h2)
    have e : ∀ j, (recsV (r :: l) (v :: vs))[(i + 1) * 4 + j]? = (recsV l vs)[i * 4 + j]? := fun j => by
      rw [recsV, List.getElem?_append_right (by simp; omega)]
      congr 1
      simp; omega
    exact ⟨by rw [show (i + 1) * 4 = (i + 1) * 4 + 0 from rfl, e]; exact this.1, by rw [e]; exact this.2.1, by rw [e]; exact this.2.2.1, by rw [e]; exact this.2.2.2⟩
  | [], _, i, r, v, h1, _ => by simp at h1
  | _ :: _, [], i, r, v, _, h2 => by simp at h2
def RecsAt (t : TypeId) (w : World) (N : Nat → Prop) (lb : Nat) (l : List Sto.Rec) : Prop :=
  ∃ (arr : Array Value) (vs : List Value), Blk w lb arr t ∧ l.length * 4 ≤ arr.size ∧ vs.length = l.length ∧ (∀ j, j < l.length * 4 → arr[j]? = (recsV l vs)[j]?) ∧ ∀ (i : Nat) (r : Sto.Rec) (v : Value), l[i]? = some r → vs[i]? = some v → DataAt w N v r.data
section
variable {t : TypeId} {w w' : World} {N S : Nat → Prop} {lb : Nat} {l : List Sto.Rec}
theorem RecsAt.lt (h : RecsAt t w N lb l) : lb < w.heap.size := by obtain ⟨_, _, h, _⟩ := h; exact h.lt
theorem RecsAt.chg (h : RecsAt t w N lb l) (hc : Chg S w w') (h1 : ¬ S lb) (hs : ∀ b, S b → b < w.heap.size → N b) : RecsAt t w' N lb l := by
  obtain ⟨arr, vs, hB, a, b, c, d⟩ := h
  exact ⟨arr, vs, hc.blk hB h1, a, b, c, fun i r v hr hv => (d i r v hr hv).chg hc hs⟩
theorem RecsAt.below (h : RecsAt t w N lb l) (hb : Below w.heap.size w w') : RecsAt t w' N lb l := h.chg (S := fun _ => False) (Chg.of_below hb) id (fun _ h => h.elim)
theorem RecsAt.mono {M : Nat → Prop} (h : RecsAt t w N lb l) (hM : ∀ b, M b → N b ∨ w.heap.size ≤ b) : RecsAt t w M lb l := by
  obtain ⟨arr, vs, hB, a, b, c, d⟩ := h
  exact ⟨arr, vs, hB, a, b, c, fun i r v hr hv => (d i r v hr hv).mono hM⟩
theorem RecsAt.at (h : RecsAt t w N lb l) {i : Nat} {r : Sto.Rec} (hr : l[i]? = some r) : ∃ a c, w.cell? ⟨lb, i * 4, none⟩ = some (.bool r.is) ∧ w.cell? ⟨lb, i * 4 + 1, none⟩ = some (.string r.name) ∧ w.cell? ⟨lb, i * 4 + 2, none⟩ = some (.int .i64 r.num) ∧ w.cell? ⟨lb, i * 4 + 3, none⟩ = some (.slice a r.data.length c) ∧
    DataAt w N (.slice a r.data.length c) r.data ∧ (∀ j, w.frozen? ⟨lb, j, none⟩ = false) := by
  obtain ⟨arr, vs, hB, h1, h2, h3, h4⟩ := h
  have hi : i < l.length := by
    rcases Nat.lt_or_ge i l.length with h | h
    · exact h
    · rw [List.getElem?_eq_none h] at hr; cases hr
  have hd := h4 i r vs[i] hr (by simp [h2, hi])
  obtain ⟨a, c, e, _⟩ := id hd.2
  obtain ⟨g0, g1, g2, g3⟩ := recsV_get l vs i r vs[i] hr (by simp [h2, hi])
  rw [e] at g3 hd
  exact ⟨a, c, by rw [hB.cell, h3 _ (by omega)]; exact g0, by rw [hB.cell, h3 _ (by omega)]; exact g1, by rw [hB.cell, h3 _ (by omega)]; exact g2, by rw [hB.cell, h3 _ (by omega)]; exact g3, hd, fun j => hB.free j⟩
theorem recsV_set : ∀ (l : List Sto.Rec) (vs : List Value) (i : Nat) (r : Sto.Rec) (v : Value), vs.length = l.length → i < l.length →
    recsV (l.set i r) (vs.set i v) = ((((recsV l vs).set (i * 4) (.bool r.is)).set (i * 4 + 1) (.string r.name)).set (i * 4 + 2) (.int .i64 r.num)).set (i * 4 + 3) v
  | r' :: l, v' :: vs, 0, r, v, h, _ => by simp [recsV]
  | r' :: l, v' :: vs, i + 1, r, v, h, hi => by
    simp only [List.set_cons_succ, recsV]
    rw [recsV_set l vs i r v (by simpa using h) (by simpa using hi)]
    have e : ∀ (j : Nat) (L : List Value) (x : Value), ([.bool r'.is, .string r'.name, .int .i64 r'.num, v'] ++ L).set ((i + 1) * 4 + j) x = [.bool r'.is, .string r'.name, .int .i64 r'.num, v'] ++ L.set (i * 4 + j) x := fun j L x => by
      rw [List.set_append_right _ _ (by simp; omega)]
      congr 2
      simp; omega
    rw [show (i + 1) * 4 = (i + 1) * 4 + 0 from rfl, e 0, e 1, e 2, e 3]
    rfl
theorem RecsAt.set (h : RecsAt t w N lb l) {i : Nat} (hi : i < l.length) (r : Sto.Rec) (v : Value) (hN : N lb) (hd : DataAt w N v r.data) :
    RecsAt t ((((w.setCell ⟨lb, i * 4, none⟩ (.bool r.is)).setCell ⟨lb, i * 4 + 1, none⟩ (.string r.name)).setCell ⟨lb, i * 4 + 2, none⟩ (.int .i64 r.num)).setCell ⟨lb, i * 4 + 3, none⟩ v) N lb (l.set i r) := by
  obtain ⟨arr, vs, hB, h1, h2, h3, h4⟩ := h
  have hc : Chg (fun b => b = lb) w ((((w.setCell ⟨lb, i * 4, none⟩ (.bool r.is)).setCell ⟨lb, i * 4 + 1, none⟩ (.string r.name)).setCell ⟨lb, i * 4 + 2, none⟩ (.int .i64 r.num)).setCell ⟨lb, i * 4 + 3, none⟩ v) := by
    refine Chg.set (S := fun b => b = lb) ?_ (a := ⟨lb, i * 4 + 3, none⟩) rfl _
    refine Chg.set (S := fun b => b = lb) ?_ (a := ⟨lb, i * 4 + 2, none⟩) rfl _
    refine Chg.set (S := fun b => b = lb) ?_ (a := ⟨lb, i * 4 + 1, none⟩) rfl _
    exact Chg.set (S := fun b => b = lb) (Chg.refl _ _) (a := ⟨lb, i * 4, none⟩) rfl _
  refine ⟨_, vs.set i v, (((hB.set (i * 4) (.bool r.is)).set (i * 4 + 1) (.string r.name)).set (i * 4 + 2) (.int .i64 r.num)).set (i * 4 + 3) v, by simpa using h1, by simp [h2], fun j hj => ?_, fun k r' v' hr' hv' => ?_⟩
  · rw [recsV_set l vs i r v h2 hi]
    have hl := recsV_len l vs h2
    simp only [List.length_set] at hj
    simp only [Array.getElem?_setIfInBounds, List.getElem?_set, Array.size_setIfInBounds, List.length_set, hl, h3 j hj]
    have e1 : (i * 4 < arr.size) = (i * 4 < l.length * 4) := by simp; omega
    have e2 : (i * 4 + 1 < arr.size) = (i * 4 + 1 < l.length * 4) := by simp; omega
    have e3 : (i * 4 + 2 < arr.size) = (i * 4 + 2 < l.length * 4) := by simp; omega
    have e4 : (i * 4 + 3 < arr.size) = (i * 4 + 3 < l.length * 4) := by simp; omega
    simp only [e1, e2, e3, e4]
  · rw [List.getElem?_set] at hr' hv'
    by_cases e : i = k
    · subst e
      simp [hi, h2] at hr' hv'
      subst hr' hv'
      exact hd.chg hc (fun b hb _ => by rw [hb]; exact hN)
    · rw [if_neg e] at hr' hv'
      exact (h4 k r' v' hr' hv').chg hc (fun b hb _ => by rw [hb]; exact hN)
end
structure St where
  room : Nat
  recs : List Sto.Rec
  dead : Bool
  disk : DiskS
structure St.Ok (s : St) : Prop where
  room1 : 1 ≤ s.room
  room2 : s.room ≤ 1024
  len1 : 1 ≤ s.recs.length
  len2 : s.recs.length ≤ 1024
  size : s.disk.n = s.recs.length * (s.room + 1)
  each : ∀ r ∈ s.recs, r.name.size ≤ 1000000 ∧ r.data.length ≤ 1000000 ∧ r.num ≤ 72057594037927936 + s.disk.writes
  few : s.disk.writes ≤ 72057594037927936
end Go.Mem
namespace Go.Proofs.YtehgnkdfnnebcaaGreatDoor
open Go Go.RowKit Go.Mem Gf
def Foot (sb lb d L : Nat) (b : Nat) : Prop := b = sb ∨ b = lb ∨ b = d ∨ b = L
structure IsStore (w : World) (N : Nat → Prop) (sb lb d L : Nat) (s : St) : Prop where
  blk : ∃ cap, Blk w sb (stV d s.room (some ⟨lb, 0, none⟩) s.recs.length cap s.dead) 76 ∧ s.recs.length ≤ cap ∧ cap ≤ 9223372036854775807
  recs : RecsAt 78 w N lb s.recs
  disk : IsDisk w d L s.disk
  tab : Tab w
  ntab : ¬ N gT
  foot : ∀ b, Foot sb lb d L b → N b
  ne : sb ≠ lb ∧ sb ≠ d ∧ sb ≠ L ∧ lb ≠ d ∧ lb ≠ L
  ok : s.Ok
  old : ∀ b, N b → b < w.heap.size
theorem IsStore.chg {w w' : World} {N S : Nat → Prop} {sb lb d L : Nat} {s : St} (h : IsStore w N sb lb d L s) (hc : Chg S w w') (h1 : ∀ b, Foot sb lb d L b → ¬ S b) (hs : ∀ b, S b → b < w.heap.size → N b) : IsStore w' N sb lb d L s := by
  obtain ⟨cap, hB, a, b⟩ := h.blk
  exact ⟨⟨cap, hc.blk hB (h1 _ (.inl rfl)), a, b⟩, h.recs.chg hc (h1 _ (.inr (.inl rfl))) hs, h.disk.chg hc (h1 _ (.inr (.inr (.inl rfl)))) (h1 _ (.inr (.inr (.inr rfl)))), h.tab.chg hc (fun hS => h.ntab (hs _ hS h.tab.lt)), h.ntab, h.foot, h.ne, h.ok, fun b hb => Nat.lt_of_lt_of_le (h.old b hb) hc.size⟩
theorem IsStore.below {w w' : World} {N : Nat → Prop} {sb lb d L : Nat} {s : St} (h : IsStore w N sb lb d L s) (hb : Below w.heap.size w w') : IsStore w' N sb lb d L s := h.chg (S := fun _ => False) (Chg.of_below hb) (fun _ _ => id) (fun _ h => h.elim)
theorem IsStore.lt {w : World} {N : Nat → Prop} {sb lb d L : Nat} {s : St} (h : IsStore w N sb lb d L s) : ∀ b, Foot sb lb d L b → b < w.heap.size := by
  intro b hb
  obtain ⟨cap, hB, _⟩ := h.blk
  rcases hb with rfl | rfl | rfl | rfl
  · exact hB.lt
  · exact h.recs.lt
  · exact h.disk.lt.1
  · exact h.disk.lt.2
theorem IsStore.grow {w w' : World} {N M S : Nat → Prop} {sb lb d L : Nat} {s : St} (h : IsStore w N sb lb d L s) (hc : Chg S w w') (h1 : ∀ b, Foot sb lb d L b → ¬ S b) (hs : ∀ b, S b → b < w.heap.size → N b) (hM : ∀ b, M b → N b ∨ w.heap.size ≤ b) (hNM : ∀ b, N b → M b) (hold : ∀ b, M b → b < w'.heap.size) : IsStore w' M sb lb d L s := by
  obtain ⟨cap, hB, a, b⟩ := h.blk
  have hg : ¬ M gT := fun hg => by
    rcases hM _ hg with h' | h'
    · exact h.ntab h'
    · have := h.tab.lt; omega
  exact ⟨⟨cap, hc.blk hB (h1 _ (.inl rfl)), a, b⟩, (h.recs.mono hM).chg hc (h1 _ (.inr (.inl rfl))) (fun b hb hlt => hNM _ (hs b hb hlt)), h.disk.chg hc (h1 _ (.inr (.inr (.inl rfl)))) (h1 _ (.inr (.inr (.inr rfl)))), h.tab.chg hc (fun hS => h.ntab (hs _ hS h.tab.lt)), hg, fun b hb => hNM _ (h.foot b hb), h.ne, h.ok, hold⟩
def optI : Option Nat → Int
  | none => -1
  | some k => k
end Go.Proofs.YtehgnkdfnnebcaaGreatDoor
end
section
namespace Go.Tail
open Go
def goesUpon (P : Program) (C' : World → Prop) (v : Value) : Result Next → Prop
  | .ok (.value u) w' => C' w' ∧ u = v
  | .ok .skip w' => C' w' ∧ v = undef
  | .ok (.enter f args) w' => Calls P f args w' (fun e w'' => e = .returned v ∧ C' w'')
  | _ => False
def goesAt (P : Program) (o : Oper) (a : Act) (C' : World → Prop) (w : World) (v : Value) : Prop := goesUpon P C' v ((execOp a.eval o).run P w)
section
variable {P : Program} {ops : Array Oper} {md : Region.Mode} {U : Bool → World → Prop} {j0 : Nat}
def YG (P : Program) (ops : Array Oper) (U : Bool → World → Prop) (j0 i : Nat) (o : Oper) (v : Value) (a : Act) : Prop :=
  (Region.wanted o (yielded ops a.tmps) = true ∧ ∀ b : Bool, (i = j0 → b = false) → ∀ w, U b w → goesAt P o a (U (if i = j0 then true else b)) w v) ∨
  (Region.wanted o (yielded ops a.tmps) = false ∧ v = undef ∧ i ≠ j0)
def Hd (P : Program) (md : Region.Mode) (ops : Array Oper) (U : Bool → World → Prop) (j0 n : Nat) (L : Array Bool → Act → Prop) : Nat → Array Bool → Act → Prop
  | 0, listed, a => L listed a
  | f + 1, listed, a => Region.ready md ops listed ≠ [] ∧ ∀ i, i ∈ Region.ready md ops listed → i < n ∧ ∃ oi v, ops[i]? = some oi ∧ YG P ops U j0 i oi v a ∧ Hd P md ops U j0 n L f (listed.setIfInBounds i true) (a.put oi.dst v)
end
end Go.Tail
end
section
namespace Go.Tail
open Go
section
variable {P : Program} {ops : Array Oper} {md : Region.Mode} {C : World → Prop} {R : Value → World → Prop} {j0 : Nat} {z : Value}
def YA (P : Program) (ops : Array Oper) (C : World → Prop) (R : Value → World → Prop) (j0 : Nat) (z : Value) (i : Nat) (o : Oper) (v : Value) (a : Act) : Prop :=
  (i ≠ j0 ∧ Region.wanted o (yielded ops a.tmps) = true ∧ (∀ w, C w → (execOp a.eval o).run P w = .ok (.value v) w) ∧ (∀ w, R z w → (execOp a.eval o).run P w = .ok (.value v) w)) ∨
  (i ≠ j0 ∧ Region.wanted o (yielded ops a.tmps) = false ∧ v = undef) ∨
  (i = j0 ∧ v = z ∧ Region.wanted o (yielded ops a.tmps) = true ∧ ∀ w, C w → ∃ f args, (execOp a.eval o).run P w = .ok (.enter f args) w ∧ Calls P f args w fun e w' => ∃ v', e = .returned v' ∧ R v' w')
def Ha (P : Program) (md : Region.Mode) (ops : Array Oper) (C : World → Prop) (R : Value → World → Prop) (j0 : Nat) (z : Value) (n : Nat) (L : Array Bool → Act → Prop) : Nat → Array Bool → Act → Prop
  | 0, listed, a => L listed a
  | f + 1, listed, a => Region.ready md ops listed ≠ [] ∧ ∀ i, i ∈ Region.ready md ops listed → i < n ∧ ∃ oi v, ops[i]? = some oi ∧ YA P ops C R j0 z i oi v a ∧ Ha P md ops C R j0 z n L f (listed.setIfInBounds i true) (a.put oi.dst v)
theorem set_other {listed : Array Bool} {i : Nat} (h : i ≠ j0) : (listed.setIfInBounds i true).getD j0 false = listed.getD j0 false := getD_set_ne false h
end
end Go.Tail
namespace Go.Tail
open Go
section
variable {P : Program} {ops : Array Oper} {md : Region.Mode} {Q : Exit → Act → World → Prop} {S : World → Prop}
end
end Go.Tail
end
section
namespace Go.Tail
open Go
section
variable {P : Program} {ops : Array Oper} {md : Region.Mode} {isM : Nat → Bool} {kn : Nat → Option Value} {J : (Nat → Bool) → (Nat → Value) → World → Prop}
def ancs (md : Region.Mode) (ops : Array Oper) : Nat → Nat → List Nat
  | 0, _ => []
  | f + 1, j => match ops[j]? with
    | none => []
    | some o => (o.after.toList.filter fun e => Region.binds md e).flatMap fun e => e.on :: ancs md ops f e.on
theorem ancs_listed {listed : Array Bool} (hcl : ∀ j oj, ops[j]? = some oj → listed.getD j false = true → ∀ e ∈ oj.after, Region.binds md e = true → listed.getD e.on false = true) :
    ∀ (f j : Nat), (∀ oj, ops[j]? = some oj → ∀ e ∈ oj.after, Region.binds md e = true → listed.getD e.on false = true) → ∀ k ∈ ancs md ops f j, listed.getD k false = true
  | 0, _, _, k, hk => by cases hk
  | f + 1, j, h, k, hk => by
    unfold ancs at hk
    cases ho : ops[j]? with
    | none => rw [ho] at hk; cases hk
    | some o =>
      rw [ho] at hk
      obtain ⟨e, he, hk⟩ := List.mem_flatMap.1 hk
      rw [List.mem_filter] at he
      have h1 := h o ho e (by simpa using he.1) he.2
      rcases List.mem_cons.1 hk with rfl | hk
      · exact h1
      · exact ancs_listed hcl f e.on (fun oj hj => hcl e.on oj hj h1) k hk
def Dm (isM : Nat → Bool) (listed : Array Bool) : Nat → Bool := fun k => isM k && listed.getD k false
def updB (D : Nat → Bool) (i : Nat) : Nat → Bool := fun k => if k = i then true else D k
def updV (z : Nat → Value) (i : Nat) (v : Value) : Nat → Value := fun k => if k = i then v else z k
def dep (md : Region.Mode) (ops : Array Oper) (isM : Nat → Bool) (i k : Nat) : Bool := isM k && (ancs md ops ops.size i).contains k
def pre (md : Region.Mode) (ops : Array Oper) (isM : Nat → Bool) (k i : Nat) : Bool := isM k && (ancs md ops ops.size k).contains i
def Mv (P : Program) (kn : Nat → Option Value) (J : (Nat → Bool) → (Nat → Value) → World → Prop) (D : Nat → Bool) (z : Nat → Value) (i : Nat) (o : Oper) (a : Act) (w : World) : Prop :=
  (∃ f args, (execOp a.eval o).run P w = .ok (.enter f args) w ∧ Calls P f args w fun e w' => ∃ v, e = .returned v ∧ (∀ c, kn i = some c → v = c) ∧ J (updB D i) (updV z i v) w') ∨
  (∃ v w', (execOp a.eval o).run P w = .ok (.value v) w' ∧ (∀ c, kn i = some c → v = c) ∧ J (updB D i) (updV z i v) w') ∨
  (∃ w', (execOp a.eval o).run P w = .ok .skip w' ∧ (∀ c, kn i = some c → undef = c) ∧ J (updB D i) (updV z i undef) w')
def YJ (P : Program) (md : Region.Mode) (ops : Array Oper) (isM : Nat → Bool) (kn : Nat → Option Value) (J : (Nat → Bool) → (Nat → Value) → World → Prop) (z : Nat → Value) (i : Nat) (o : Oper) (v : Value) (a : Act) : Prop :=
  (isM i = false ∧ Region.wanted o (yielded ops a.tmps) = true ∧ ∀ D w, (∀ k, dep md ops isM i k = true → D k = true) → (∀ k, pre md ops isM k i = true → D k = false) → J D z w → (execOp a.eval o).run P w = .ok (.value v) w) ∨
  (isM i = false ∧ Region.wanted o (yielded ops a.tmps) = false ∧ v = undef) ∨
  (isM i = true ∧ Region.wanted o (yielded ops a.tmps) = true ∧ v = (kn i).getD (z i) ∧ ∀ D z' w, D i = false → (∀ k, D k = true → z k = z' k) → (∀ k, dep md ops isM i k = true → D k = true) → (∀ k, pre md ops isM k i = true → D k = false) → J D z' w → Mv P kn J D z' i o a w)
theorem YJ.of_same {z : Nat → Value} {i : Nat} {o : Oper} {v : Value} {a a' : Act} (h : YJ P md ops isM kn J z i o v a) (he : execOp a'.eval o = execOp a.eval o)
    (hw : Region.wanted o (yielded ops a'.tmps) = Region.wanted o (yielded ops a.tmps)) : YJ P md ops isM kn J z i o v a' := by
  unfold YJ Mv at *
  rw [he, hw]
  exact h
theorem YJ.put {z : Nat → Value} {i : Nat} {oi oj : Oper} {v u : Value} {a : Act} (h : YJ P md ops isM kn J z i oi v a) (hap : oi.apart ops oj = true) (hsi : ∀ cs b, oi.op ≠ .select cs b) : YJ P md ops isM kn J z i oi v (a.put oj.dst u) := by
  obtain ⟨_, _, h3⟩ := Oper.apart_spec hap
  exact h.of_same (execOp_put oi hsi a oj.dst u h3) (wanted_put oi a oj.dst u h3)
theorem YJ.unput {z : Nat → Value} {j : Nat} {oi oj : Oper} {v u : Value} {a : Act} (h : YJ P md ops isM kn J z j oj u (a.put oi.dst v)) (hap : oi.apart ops oj = true) (hsj : ∀ cs b, oj.op ≠ .select cs b) : YJ P md ops isM kn J z j oj u a := by
  obtain ⟨h1, _, _⟩ := Oper.apart_spec hap
  exact h.of_same (execOp_put oj hsj a oi.dst v h1).symm (wanted_put oj a oi.dst v h1).symm
def HJ (P : Program) (md : Region.Mode) (ops : Array Oper) (isM : Nat → Bool) (kn : Nat → Option Value) (J : (Nat → Bool) → (Nat → Value) → World → Prop) (z : Nat → Value) (n : Nat) (L : Array Bool → Act → Prop) : Nat → Array Bool → Act → Prop
  | 0, listed, a => L listed a
  | f + 1, listed, a => Region.ready md ops listed ≠ [] ∧ ∀ i, i ∈ Region.ready md ops listed → i < n ∧ ∃ oi v, ops[i]? = some oi ∧ YJ P md ops isM kn J z i oi v a ∧ HJ P md ops isM kn J z n L f (listed.setIfInBounds i true) (a.put oi.dst v)
theorem dm_set {listed : Array Bool} {i : Nat} (hi : listed.getD i true = false) : Dm isM (listed.setIfInBounds i true) = if isM i = true then updB (Dm isM listed) i else Dm isM listed := by
  have hlt : i < listed.size := by
    rcases Nat.lt_or_ge i listed.size with h | h
    · exact h
    · simp [Array.getElem?_eq_none h] at hi
  funext k
  by_cases hm : isM i = true
  · rw [if_pos hm]
    show (isM k && (listed.setIfInBounds i true).getD k false) = if k = i then true else (isM k && listed.getD k false)
    by_cases e : k = i
    · subst e
      rw [if_pos rfl, hm]
      simp [hlt]
    · rw [if_neg e, getD_set_ne false (Ne.symm e)]
  · rw [if_neg hm]
    show (isM k && (listed.setIfInBounds i true).getD k false) = (isM k && listed.getD k false)
    by_cases e : k = i
    · subst e
      have : isM k = false := by simpa using hm
      rw [this, Bool.false_and, Bool.false_and]
    · rw [getD_set_ne false (Ne.symm e)]
theorem any_J {n g : Nat} {L : (Nat → Value) → Array Bool → Act → Prop} {Q : Exit → Act → World → Prop} (hloc : ∀ D z z' w, (∀ k, D k = true → z k = z' k) → J D z w → J D z' w)
    (hL : ∀ z listed a w, J (Dm isM listed) z w → L z listed a → wpAny P md ops Q g listed a w) :
    ∀ (f : Nat) (listed : Array Bool) (a : Act) (w : World) (z : Nat → Value), HeadInv md ops n listed → J (Dm isM listed) z w → (∀ z', (∀ k, Dm isM listed k = true → z k = z' k) → HJ P md ops isM kn J z' n (L z') f listed a) → wpAny P md ops Q (f + g) listed a w := by
  intro f
  induction f with
  | zero => intro listed a w z _ hw h; rw [Nat.zero_add]; exact hL _ _ _ _ hw (h z fun _ _ => rfl)
  | succ f ih =>
    intro listed a w z inv hJ h
    rw [show f + 1 + g = (f + g) + 1 from by omega]
    have h0 := h z (fun _ _ => rfl)
    refine ⟨fun h1 => absurd h1 h0.1, fun i hi => ?_⟩
    obtain ⟨hin, oi, v, hoi, hy, hK⟩ := h0.2 i hi
    have hun := (mem_ready.1 hi).1
    have hset := dm_set (isM := isM) hun
    have hdep : ∀ k, dep md ops isM i k = true → Dm isM listed k = true := fun k hk => by
      unfold dep at hk
      rw [Bool.and_eq_true] at hk
      have hk2 : k ∈ ancs md ops ops.size i := by simpa using hk.2
      unfold Dm
      rw [hk.1, Bool.true_and]
      refine ancs_listed inv.closed _ _ (fun oj hj => ?_) k hk2
      obtain ⟨_, oj', hoj', hall⟩ := mem_ready.1 hi
      have e1 : oj = oj' := Option.some.inj (hj.symm.trans hoj')
      subst e1
      exact hall
    have hpre : ∀ k, pre md ops isM k i = true → Dm isM listed k = false := fun k hk => by
      unfold pre at hk
      rw [Bool.and_eq_true] at hk
      have hk2 : i ∈ ancs md ops ops.size k := by simpa using hk.2
      cases hD : Dm isM listed k with
      | false => rfl
      | true =>
        unfold Dm at hD
        rw [Bool.and_eq_true] at hD
        have := ancs_listed inv.closed _ _ (fun oj hj => inv.closed k oj hj hD.2) i hk2
        rw [getD_both hun] at this
        cases this
    unfold wpOp
    simp only [hoi]
    rcases hy with ⟨hm, hwt, hv⟩ | ⟨hm, hwt, rfl⟩ | ⟨hm, hwt, rfl, hv⟩
    · have hrun := hv _ w hdep hpre hJ
      simp only [hwt, if_true]
      refine .inl ?_
      unfold Oper.wp
      rw [hrun]
      rw [hm, if_neg (by decide)] at hset
      refine ih _ _ _ z (inv.set hi hin) (by rw [hset]; exact hJ) (fun z' hz' => ?_)
      rw [hset] at hz'
      obtain ⟨_, oi', v', hoi', hy', hK'⟩ := (h z' hz').2 i hi
      have eo : oi' = oi := Option.some.inj (hoi'.symm.trans hoi)
      subst eo
      rcases hy' with ⟨_, _, hv'⟩ | ⟨_, hwt', _⟩ | ⟨hm', _⟩
      · have e := (hv' _ w hdep hpre (hloc _ _ _ _ hz' hJ)).symm.trans hrun
        injection e with e1 _
        injection e1 with e1
        rw [← e1]; exact hK'
      · rw [hwt] at hwt'; cases hwt'
      · rw [hm] at hm'; cases hm'
    · simp only [hwt, Bool.false_eq_true, if_false]
      rw [hm, if_neg (by decide)] at hset
      refine ih _ _ _ z (inv.set hi hin) (by rw [hset]; exact hJ) (fun z' hz' => ?_)
      rw [hset] at hz'
      obtain ⟨_, oi', v', hoi', hy', hK'⟩ := (h z' hz').2 i hi
      have eo : oi' = oi := Option.some.inj (hoi'.symm.trans hoi)
      subst eo
      rcases hy' with ⟨_, hwt', _⟩ | ⟨_, _, e1⟩ | ⟨_, hwt', _⟩
      · rw [hwt] at hwt'; cases hwt'
      · rw [← e1]; exact hK'
      · rw [hwt] at hwt'; cases hwt'
    · rw [hm, if_pos rfl] at hset
      simp only [hwt, if_true]
      refine .inl ?_
      have hDi : Dm isM listed i = false := by unfold Dm; rw [getD_both hun, Bool.and_false]
      have next : ∀ v' w', (∀ c, kn i = some c → v' = c) → J (updB (Dm isM listed) i) (updV z i v') w' → wpAny P md ops Q (f + g) (listed.setIfInBounds i true) (a.put oi.dst v') w' := by
        intro v' w' hc hJ'
        refine ih _ _ _ (updV z i v') (inv.set hi hin) (by rw [hset]; exact hJ') (fun z'' hz'' => ?_)
        rw [hset] at hz''
        have hzi : v' = z'' i := by
          have := hz'' i (by simp [updB])
          simpa [updV] using this
        obtain ⟨_, oi', u, hoi', hy', hK'⟩ := (h z'' (fun k hk => by
          have hki : k ≠ i := fun e => by rw [e, hDi] at hk; cases hk
          have := hz'' k (by simp [updB, hk])
          simpa [updV, hki] using this)).2 i hi
        have eo : oi' = oi := Option.some.inj (hoi'.symm.trans hoi)
        subst eo
        rcases hy' with ⟨hm', _⟩ | ⟨hm', _⟩ | ⟨_, _, e1, _⟩
        · rw [hm] at hm'; cases hm'
        · rw [hm] at hm'; cases hm'
        · have e2 : u = v' := by
            rw [e1]
            cases hkn : kn i with
            | none => exact hzi.symm
            | some c => exact (hc c hkn).symm
          rw [← e2]; exact hK'
      rcases hv _ z w hDi (fun _ _ => rfl) hdep hpre hJ with ⟨fn, args, hr, hcalls⟩ | ⟨v', w', hr, hc, hJ'⟩ | ⟨w', hr, hc, hJ'⟩
      · unfold Oper.wp
        rw [hr]
        refine hcalls.mono ?_
        rintro e w'' ⟨v', rfl, hc, hJ'⟩
        exact next v' w'' hc hJ'
      · unfold Oper.wp
        rw [hr]
        exact next v' w' hc hJ'
      · unfold Oper.wp
        rw [hr]
        exact next undef w' hc hJ'
theorem first_J {z : Nat → Value} {n i : Nat} {oi : Oper} {v : Value} {L : Array Bool → Act → Prop} (hi : ops[i]? = some oi) (hsel : ∀ (j : Nat) (o : Oper) cs b, ops[j]? = some o → o.op ≠ .select cs b)
    (hs : Region.sinkB md ops n = true) (hc : Region.chainB md ops n = true) (hn : n < ops.size) (hin : i < n) (hdone : ∀ listed a, L listed a → ∀ j, j ∈ Region.ready md ops listed → n ≤ j) :
    ∀ (f : Nat) (listed : Array Bool) (a : Act), HeadInv md ops n listed →
      (∀ j oj, ops[j]? = some oj → j ≠ i → listed.getD j true = false → (∀ e ∈ oj.after, Region.binds md e = true → e.on ≠ i) → oi.apart ops oj = true) →
      i ∈ Region.ready md ops listed → YJ P md ops isM kn J z i oi v a →
      HJ P md ops isM kn J z n L f (listed.setIfInBounds i true) (a.put oi.dst v) → HJ P md ops isM kn J z n L (f + 1) listed a := by
  intro f
  induction f with
  | zero =>
    intro listed a inv _ hr hy H
    have hun := (mem_ready.1 hr).1
    refine ⟨fun h => (by rw [h] at hr; cases hr), fun j hj => ?_⟩
    have hjn : j < n := Nat.lt_of_not_le fun h => tail_waits hs hc hn inv _ i rfl hin hun j h hj
    by_cases e : j = i
    · subst e; exact ⟨hjn, oi, v, hi, hy, H⟩
    · have := hdone _ _ H j (ready_mono hj e)
      omega
  | succ f ih =>
    intro listed a inv hfree hr hy H
    have hun := (mem_ready.1 hr).1
    refine ⟨fun h => (by rw [h] at hr; cases hr), fun j hj => ?_⟩
    have hjn : j < n := Nat.lt_of_not_le fun h => tail_waits hs hc hn inv _ i rfl hin hun j h hj
    refine ⟨hjn, ?_⟩
    by_cases e : j = i
    · subst e; exact ⟨oi, v, hi, hy, H⟩
    · obtain ⟨hjun, oj, hoj, hall⟩ := mem_ready.1 hj
      have hnot : ∀ e ∈ oj.after, Region.binds md e = true → e.on ≠ i := fun e' he hb heq => by
        have h1 := hall e' he hb
        rw [heq, getD_both hun] at h1
        cases h1
      have hap := hfree j oj hoj e hjun hnot
      obtain ⟨_, oj', u, hoj', hyj, hKj⟩ := H.2 j (ready_mono hj e)
      have e1 : oj' = oj := Option.some.inj (hoj'.symm.trans hoj)
      subst e1
      have hfree' : ∀ k ok, ops[k]? = some ok → k ≠ i → (listed.setIfInBounds j true).getD k true = false →
          (∀ e ∈ ok.after, Region.binds md e = true → e.on ≠ i) → oi.apart ops ok = true := fun k ok hk hki hun' hno => by
        refine hfree k ok hk hki ?_ hno
        by_cases hjk : j = k
        · subst hjk; exact hjun
        · rw [getD_set_ne true hjk] at hun'; exact hun'
      refine ⟨oj', u, hoj, hyj.unput hap (fun cs b => hsel j oj' cs b hoj), ?_⟩
      refine ih (listed.setIfInBounds j true) _ (inv.set hj hjn) hfree' (ready_mono hr (Ne.symm e)) (hy.put hap (fun cs b => hsel i oi cs b hi)) ?_
      rw [Array.setIfInBounds_comm _ _ e]
      have hcomm := Act.put_comm a v u (Oper.apart_spec hap).2.1
      rw [← hcomm]
      exact hKj
def wpJ (P : Program) (ops : Array Oper) (isM : Nat → Bool) (kn : Nat → Option Value) (J : (Nat → Bool) → (Nat → Value) → World → Prop) (z : Nat → Value) (Lq : Act → Prop) : List Oper → Nat → Act → Prop
  | [], _, a => Lq a
  | o :: rest, k, a => ∃ v, YJ P .any ops isM kn J z k o v a ∧ wpJ P ops isM kn J z Lq rest (k + 1) (a.put o.dst v)
theorem lex_J {z : Nat → Value} {n g : Nat} {Lq : Act → Prop} (hsel : Region.noSelect ops = true) (hs : Region.sinkB .any ops n = true) (hc : Region.chainB .any ops n = true) (hn : n < ops.size) :
    ∀ (l : List Oper) (k : Nat) (listed : Array Bool) (a : Act), (∀ j, j < l.length → l[j]? = ops[k + j]?) → k + l.length = n → HeadInv .any ops n listed → (∀ i, i < k → listed.getD i false = true) →
    Region.lexHead .any ops g l.length k listed = true → wpJ P ops isM kn J z Lq l k a →
    HJ P .any ops isM kn J z n (fun listed' a' => Region.seqB .any ops g n listed' = true ∧ (∀ i, i < n → listed'.getD i false = true) ∧ Lq a') l.length listed a := by
  intro l
  induction l with
  | nil =>
    intro k listed a _ hk _ hdone hB h
    have : k = n := by simpa using hk
    subst this
    exact ⟨by simpa [Region.lexHead] using hB, hdone, h⟩
  | cons o l ih =>
    intro k listed a hl hk inv hdone hB h
    have h0 : ops[k]? = some o := by simpa using (hl 0 (by simp)).symm
    simp only [List.length_cons, Region.lexHead, Bool.and_eq_true] at hB
    obtain ⟨⟨hr, hf⟩, hB'⟩ := hB
    have hkn : k < n := by simp only [List.length_cons] at hk; omega
    have hr' : k ∈ Region.ready .any ops listed := by simpa using hr
    obtain ⟨v, hy, hK⟩ := h
    refine first_J h0 (Region.noSelect_spec hsel) hs hc hn hkn (fun listed' a' hL => seqB_ready hL.1) l.length listed a inv (Region.free_spec h0 hf) hr' hy ?_
    refine ih (k + 1) _ _ (fun j hj => by have := hl (j + 1) (by simp; omega); simpa [Nat.add_assoc, Nat.add_comm 1 j] using this) (by simp only [List.length_cons] at hk; omega) (inv.set hr' hkn) (fun i hi => ?_) hB' hK
    have hks : k < listed.size := by rw [inv.size]; omega
    by_cases e : k = i
    · subst e; simp [hks]
    · rw [getD_set_ne false e]; exact hdone i (by omega)
theorem wp_region_J {id : Nat} {Q : Exit → Act → World → Prop} {a : Act} {w : World} {l : List Oper} (n : Nat) (isM : Nat → Bool) (kn : Nat → Option Value) (J : (Nat → Bool) → (Nat → Value) → World → Prop) (hm : P.follows .mixedOrders = true)
    (hB : Region.lexTailB .any l.toArray n = true) (hM : ∀ k, isM k = true → k < n) (hloc : ∀ D z z' w, (∀ k, D k = true → z k = z' k) → J D z w → J D z' w) (hJ : J (fun _ => false) (fun _ => undef) w.drew)
    (h : ∀ z, wpJ P l.toArray isM kn J z (fun a' => ∀ w', J isM z w' → wpList P l.toArray Q (l.drop n) a' w') (l.take n) 0 a) :
    (Code.region id l.toArray true).wp P Q a w := by
  simp only [Region.lexTailB, Bool.and_eq_true, decide_eq_true_eq] at hB
  obtain ⟨⟨⟨⟨hsel, hn⟩, hs⟩, hc⟩, hlex⟩ := hB
  have hn' : n < l.length := by simpa using hn
  have htl : (l.take n).length = n := by simp; omega
  have inv0 : HeadInv .any l.toArray n (Array.replicate l.toArray.size false) :=
    ⟨by simp, fun j oj _ hl => (by rw [getD_replicate_false] at hl; cases hl), fun t _ ht => getD_in (by simpa using ht) (getD_replicate_false _ _)⟩
  have H := fun z => lex_J (isM := isM) (kn := kn) (J := J) (z := z) (g := l.toArray.size - n) hsel hs hc hn (l.take n) 0 _ a (fun j hj => by
    have hj' : j < n := by rw [htl] at hj; exact hj
    simp [hj']) (by simpa using htl) inv0 (fun i hi => by omega) (by rw [htl]; exact hlex) (h z)
  refine wp_region_any hm ?_
  have hD0 : Dm isM (Array.replicate l.toArray.size false) = fun _ => false := by
    funext k
    unfold Dm
    rw [getD_replicate_false, Bool.and_false]
  have := any_J (n := n) (isM := isM) (kn := kn) (J := J) (Q := Q) (g := l.toArray.size - n) (L := fun z listed' a' => Region.seqB .any l.toArray (l.toArray.size - n) n listed' = true ∧ (∀ i, i < n → listed'.getD i false = true) ∧ ∀ w', J isM z w' → wpList P l.toArray Q (l.drop n) a' w') hloc (fun z listed a' w' hw' hL => by
    have e : l.toArray.size - n = (l.drop n).length := by simp
    rw [e]
    refine wpAny_of_seq (l.drop n) n listed a' w' (fun j => by simp) (by rw [← e]; exact hL.1) (hL.2.2 w' ?_)
    have hDM : Dm isM listed = isM := by
      funext k
      unfold Dm
      cases hk : isM k with
      | false => rfl
      | true => rw [hL.2.1 k (hM k hk)]; rfl
    rwa [hDM] at hw') _ _ a w.drew (fun _ => undef) inv0 (by rw [hD0]; exact hJ) (fun z' _ => H z')
  rw [htl, show n + (l.toArray.size - n) = l.toArray.size from by omega] at this
  exact this
theorem J_pure {z : Nat → Value} {Lq : Act → Prop} {o : Oper} {rest : List Oper} {k : Nat} {a : Act} (hk : isM k = false) (v : Value) (hw : Region.wanted o (yielded ops a.tmps) = true) (h1 : ∀ D w, (∀ k', dep .any ops isM k k' = true → D k' = true) → (∀ k', pre .any ops isM k' k = true → D k' = false) → J D z w → (execOp a.eval o).run P w = .ok (.value v) w) (h : wpJ P ops isM kn J z Lq rest (k + 1) (a.put o.dst v)) :
    wpJ P ops isM kn J z Lq (o :: rest) k a := ⟨v, .inl ⟨hk, hw, h1⟩, h⟩
theorem J_ex {z : Nat → Value} {Lq : Act → Prop} {o : Oper} {rest : List Oper} {k : Nat} {a : Act} (hk : isM k = false) (hw : Region.wanted o (yielded ops a.tmps) = true) (h : ∃ v, (∀ w, (execOp a.eval o).run P w = .ok (.value v) w) ∧ wpJ P ops isM kn J z Lq rest (k + 1) (a.put o.dst v)) :
    wpJ P ops isM kn J z Lq (o :: rest) k a := by
  obtain ⟨v, h1, h2⟩ := h
  exact J_pure hk v hw (fun _ w _ _ _ => h1 w) h2
theorem J_at {z : Nat → Value} {Lq : Act → Prop} {o : Oper} {rest : List Oper} {k : Nat} {a : Act} (hk : isM k = false) (hw : Region.wanted o (yielded ops a.tmps) = true) (h : ∃ v, (∀ D w, (∀ k', dep .any ops isM k k' = true → D k' = true) → (∀ k', pre .any ops isM k' k = true → D k' = false) → J D z w → (execOp a.eval o).run P w = .ok (.value v) w) ∧ wpJ P ops isM kn J z Lq rest (k + 1) (a.put o.dst v)) :
    wpJ P ops isM kn J z Lq (o :: rest) k a := by
  obtain ⟨v, h1, h2⟩ := h
  exact J_pure hk v hw h1 h2
theorem J_call {z : Nat → Value} {Lq : Act → Prop} {o : Oper} {rest : List Oper} {k : Nat} {a : Act} (hk : isM k = true) (hw : Region.wanted o (yielded ops a.tmps) = true)
    (h1 : ∃ f args, (∀ w, (execOp a.eval o).run P w = .ok (.enter f args) w) ∧ ∀ D z' w, D k = false → (∀ k', D k' = true → z k' = z' k') → (∀ k', dep .any ops isM k k' = true → D k' = true) → (∀ k', pre .any ops isM k' k = true → D k' = false) → J D z' w → Calls P f args w fun e w' => ∃ v, e = .returned v ∧ (∀ c, kn k = some c → v = c) ∧ J (updB D k) (updV z' k v) w')
    (h : wpJ P ops isM kn J z Lq rest (k + 1) (a.put o.dst ((kn k).getD (z k)))) : wpJ P ops isM kn J z Lq (o :: rest) k a := by
  obtain ⟨f, args, hr, hc⟩ := h1
  exact ⟨_, .inr (.inr ⟨hk, hw, rfl, fun D z' w hD hz hd hp hJ => .inl ⟨f, args, hr w, hc D z' w hD hz hd hp hJ⟩⟩), h⟩
end
end Go.Tail
end
section
namespace Go.Mem
open Go
def ptrB : Value → Nat
  | .pointer (some ⟨b, _, _⟩) => b
  | _ => 0
def ptrO : Value → Nat
  | .pointer (some ⟨_, o, _⟩) => o
  | _ => 0
def ptrIs : Value → Bool
  | .pointer (some ⟨_, _, none⟩) => true
  | _ => false
def aggL : Value → List Value
  | .agg cs => cs.toList
  | _ => []
def aggIs : Value → Bool
  | .agg _ => true
  | _ => false
@[simp] theorem ptrB_eq (b o : Nat) : ptrB (.pointer (some ⟨b, o, none⟩)) = b := rfl
@[simp] theorem ptrO_eq (b o : Nat) : ptrO (.pointer (some ⟨b, o, none⟩)) = o := rfl
@[simp] theorem ptrIs_eq (b o : Nat) : ptrIs (.pointer (some ⟨b, o, none⟩)) = true := rfl
@[simp] theorem aggL_eq (cs : Array Value) : aggL (.agg cs) = cs.toList := rfl
@[simp] theorem aggIs_eq (cs : Array Value) : aggIs (.agg cs) = true := rfl
end Go.Mem
end
section
namespace Go.Mem
open Go Go.RowKit Gf
structure EncK {α : Type} (enc : α → List Value) (Wf : α → Prop) (k : Nat) : Prop where
  len : ∀ x, Wf x → (enc x).length = k
  one : ∀ x v, v ∈ enc x → v.oneCell' = true
  pos : 0 < k
def allV {α : Type} (enc : α → List Value) (l : List α) : List Value := l.flatMap enc
section
variable {α : Type} {enc : α → List Value} {Wf : α → Prop} {k : Nat}
theorem allV_len (E : EncK enc Wf k) : ∀ (l : List α), (∀ x ∈ l, Wf x) → (allV enc l).length = l.length * k
  | [], _ => by simp [allV]
  | x :: l, h => by
    have := allV_len E l (fun y hy => h y (by simp [hy]))
    unfold allV at this ⊢
    rw [List.flatMap_cons, List.length_append, E.len x (h x (by simp)), this, List.length_cons, Nat.add_mul]; omega
theorem allV_get (E : EncK enc Wf k) : ∀ (l : List α), (∀ x ∈ l, Wf x) → ∀ (i : Nat) (x : α), l[i]? = some x → ∀ c, c < k → (allV enc l)[i * k + c]? = (enc x)[c]?
  | y :: l, h, 0, x, hx, c, hc => by
    simp at hx
    subst hx
    unfold allV
    rw [List.flatMap_cons, Nat.zero_mul, Nat.zero_add, List.getElem?_append_left (by rw [E.len y (h y (by simp))]; exact hc)]
  | y :: l, h, i + 1, x, hx, c, hc => by
    have ih := allV_get E l (fun z hz => h z (by simp [hz])) i x (by simpa using hx) c hc
    have hl := E.len y (h y (by simp))
    unfold allV at ih ⊢
    have e : (i + 1) * k + c = k + (i * k + c) := by rw [Nat.add_mul]; omega
    rw [List.flatMap_cons, List.getElem?_append_right (by rw [hl]; omega), hl, e, Nat.add_sub_cancel_left]
    exact ih
theorem allV_app (l m : List α) : allV enc (l ++ m) = allV enc l ++ allV enc m := by unfold allV; rw [List.flatMap_append]
theorem allV_one (x : α) : allV enc [x] = enc x := by simp [allV]
theorem allV_news (E : EncK enc Wf k) (l : List α) : ∀ u ∈ allV enc l, u.oneCell' = true := fun u hu => by
  obtain ⟨x, _, hx⟩ := List.mem_flatMap.1 hu
  exact E.one x u hx
end
structure OwnG {α : Type} (enc : α → List Value) (Wf : α → Prop) (k : Nat) (ti : TypeId) (w : World) (base : Nat) (v : Value) (l : List α) : Prop where
  own : w.ownsRow base ti k v l.length (allV enc l)
  wf : ∀ x ∈ l, Wf x
structure RowG {α : Type} (enc : α → List Value) (Wf : α → Prop) (k : Nat) (ti : TypeId) (w : World) (base g n cap : Nat) (l : List α) : Prop where
  own : w.ownsRow base ti k (.slice (some ⟨g, 0, none⟩) n cap) n (allV enc l)
  len : n = l.length
  wf : ∀ x ∈ l, Wf x
section
variable {α : Type} {enc : α → List Value} {Wf : α → Prop} {k : Nat} {ti : TypeId} {w : World} {base g n cap : Nat} {l : List α} {v : Value}
theorem OwnG.nil (enc : α → List Value) (Wf : α → Prop) (k : Nat) (ti : TypeId) (w : World) (base : Nat) : OwnG enc Wf k ti w base (.slice none 0 0) ([] : List α) :=
  ⟨World.ownsRow_nil w base ti k, fun _ h => by cases h⟩
theorem OwnG.empty (h : OwnG enc Wf k ti w base v l) (h0 : l = []) : ∃ p c, v = .slice p 0 c := by
  subst h0
  rcases h.own.2 with ⟨e, _⟩ | ⟨g, cap, _, e, _⟩
  · exact ⟨_, _, e⟩
  · exact ⟨_, _, e⟩
theorem OwnG.ex (h : OwnG enc Wf k ti w base v l) (h0 : 0 < l.length) : ∃ g cap, v = .slice (some ⟨g, 0, none⟩) l.length cap ∧ RowG enc Wf k ti w base g l.length cap l := by
  rcases h.own.2 with ⟨_, e⟩ | ⟨g, cap, cur, e, _⟩
  · omega
  · exact ⟨g, cap, e, by rw [← e]; exact h.own, rfl, h.wf⟩
theorem OwnG.slice (h : OwnG enc Wf k ti w base v l) : ∃ p c, v = .slice p l.length c := by
  obtain ⟨a, c, e, _⟩ := own_eq_slice h.own
  exact ⟨a, c, e⟩
theorem OwnG.chg {S : Nat → Prop} {w' : World} (h : OwnG enc Wf k ti w base v l) (hc : Chg S w w') (hs : ∀ g, v.ownBlock = some g → ¬ S g) : OwnG enc Wf k ti w' base v l := ⟨own_chg h.own hc hs, h.wf⟩
theorem OwnG.drewN (h : OwnG enc Wf k ti w base v l) (d : Nat) : OwnG enc Wf k ti (w.drewN d) base v l := ⟨h.own, h.wf⟩
theorem OwnG.lower {b : Nat} (h : OwnG enc Wf k ti w base v l) (hb : b ≤ base) : OwnG enc Wf k ti w b v l := by
  refine ⟨⟨h.own.1, ?_⟩, h.wf⟩
  rcases h.own.2 with e | ⟨g, cap, cur, e, h1, h2⟩
  · exact .inl e
  · exact .inr ⟨g, cap, cur, e, by omega, h2⟩
theorem RowG.block (h : RowG enc Wf k ti w base g n cap l) : ∃ cur : Array Value, w.heap[g]? = some (.cells cur ti (0, 0)) ∧ base ≤ g ∧ n ≤ cap ∧ cap ≤ maxLen ∧ cur.size = cap * k ∧ ∀ j, j < n * k → cur[j]? = (allV enc l)[j]? := by
  rcases h.own.2 with ⟨e, _⟩ | ⟨g', cap', cur, e, hb, hh, h1, h2, h3, h4⟩
  · cases e
  · cases e
    refine ⟨cur, hh, hb, h1, h2, h3, fun j hj => ?_⟩
    rw [← h4, List.getElem?_take, if_pos hj, Array.getElem?_toList]
theorem RowG.cell (h : RowG enc Wf k ti w base g n cap l) {j : Nat} (hj : j < n * k) : w.cell? ⟨g, j, none⟩ = (allV enc l)[j]? := by
  obtain ⟨cur, hh, _, _, _, _, hc⟩ := h.block
  rw [← hc j hj]
  have hB : Blk w g cur ti := hh
  exact hB.cell j
theorem some_lt {l : List α} {i : Nat} {x : α} (hx : l[i]? = some x) : i < l.length := by
  rcases Nat.lt_or_ge i l.length with h | h
  · exact h
  · rw [List.getElem?_eq_none h] at hx; cases hx
theorem in_row {i n k c : Nat} (hi : i < n) (hc : c < k) : i * k + c < n * k := by
  have := Nat.mul_le_mul_right k (show i + 1 ≤ n from hi)
  rw [Nat.add_mul, Nat.one_mul] at this
  omega
theorem RowG.lt (h : RowG enc Wf k ti w base g n cap l) : g < w.heap.size := by
  obtain ⟨cur, hh, _⟩ := h.block
  exact lt_of_block hh
end
end Go.Mem
end
section
namespace Go.Mem
open Go Go.RowKit Gf
section
variable {w : World}
end
end Go.Mem
end
section
namespace Go.Mem
open Go Go.RowKit Gf
section
variable {P : Program} {w : World} {ops : Array Oper} {rest : List Oper} {o : Oper} {a : Act} {Q : Exit → Act → World → Prop} {K : Act → World → Prop} {E0 : Prop}
theorem wpAppN {t e : TypeId} {z : Value} {size bytes : Nat} (E : ElemK P t e z size bytes) (s x : Operand) (ho : o.op = .call { callee := .builtin .append, args := #[s, x], argTypes := #[t, t] })
    {base : Nat} {v : Value} {n m cx : Nat} {xs : List Value} (news : List Value) (hs : a.eval s = v) {mb : Nat} (hx : a.eval x = .slice (some ⟨mb, 0, none⟩) m cx) (hl : news.length = m * size) (hnews : ∀ j u, news[j]? = some u → w.cell? ⟨mb, j, none⟩ = some u) (h1 : ∀ u ∈ news, u.oneCell' = true)
    (hown : w.ownsRow base e size v n xs) (hn : n + m ≤ 4294967296) (hby : bytes ≤ 4096) (hbase : base ≤ w.heap.size)
    (h : ∀ v' w', w'.ownsRow base e size v' (n + m) (xs ++ news) ∧ w.grownBy w' v.ownBlock ∧ (∀ k, v'.ownBlock = some k → v.ownBlock = some k ∨ w.heap.size ≤ k) → K (a.put o.dst v') w') : o.wp P a w K Q := by
  obtain ⟨i, hi, hz, hsz, hb⟩ := info_parts E.info
  have hm : (n + m) * bytes ≤ 4294967296 * 4096 := Nat.mul_le_mul hn hby
  obtain ⟨v', w', hr, h2, h3, h4⟩ := run_append_own_new (P := P) w base t o.type e i z size bytes E.under hi hz hsz hb E.zsize E.pos v n xs hown ⟨mb, 0, none⟩ m cx news (by omega)
    (fun j y hj => by
      rw [show (⟨mb, 0, none⟩ : Addr).add j = ⟨mb, j, none⟩ from by unfold Addr.add; split <;> simp_all]
      exact hnews j y hj)
    h1 (by unfold maxLen; omega) (by omega) hbase
  unfold Oper.wp execOp
  simp only [ho, resolve, invoke, builtin, Sem.run_bind, Sem.run_pure, Result.andThen_ok, List.map_toArray, List.map_cons, List.map_nil, hs, hx, hr]
  exact h v' w' ⟨h2, h3, h4⟩
theorem appG_own {α : Type} {enc : α → List Value} {Wf : α → Prop} {t e : TypeId} {z : Value} {size bytes : Nat} (E : ElemK P t e z size bytes) (EC : EncK enc Wf size) (hgd : o.guard = none) (s x : Operand) (ho : o.op = .call { callee := .builtin .append, args := #[s, x], argTypes := #[t, t] })
    {base : Nat} {v : Value} {l : List α} (y : α) (hy : Wf y) (hs : a.eval s = v) {mb cx : Nat} (hx : a.eval x = .slice (some ⟨mb, 0, none⟩) 1 cx) {e' : TypeId} (hnews : Blk w mb (enc y).toArray e')
    (hown : OwnG enc Wf size e w base v l) (hn : l.length + 1 ≤ 4294967296) (hby : bytes ≤ 4096) (hbase : base ≤ w.heap.size)
    (h : ∀ v' w', OwnG enc Wf size e w' base v' (l ++ [y]) → w.grownBy w' v.ownBlock → (∀ k, v'.ownBlock = some k → v.ownBlock = some k ∨ w.heap.size ≤ k) → wpList P ops Q rest (a.put o.dst v') w') : wpList P ops Q (o :: rest) a w :=
  to_list hgd (fun _ hK => wpAppN E s x ho (enc y) hs hx (by rw [EC.len y hy, Nat.one_mul]) (fun j u hj => by rw [hnews.cell]; simpa using hj) (EC.one y) hown.own hn hby hbase hK) fun v' w' h2 => h v' w'
    ⟨by rw [List.length_append, List.length_singleton, allV_app, allV_one]; exact h2.1, fun q hq => by
      rcases List.mem_append.1 hq with hq | hq
      · exact hown.wf q hq
      · rw [List.mem_singleton.1 hq]; exact hy⟩ h2.2.1 h2.2.2
end
theorem OwnG.ge {α : Type} {enc : α → List Value} {Wf : α → Prop} {k : Nat} {ti : TypeId} {w : World} {base : Nat} {v : Value} {l : List α} (h : OwnG enc Wf k ti w base v l) {g : Nat} (e : v.ownBlock = some g) : base ≤ g := by
  rcases h.own.2 with ⟨e1, _⟩ | ⟨g', cap, cur, e1, h1, _⟩
  · rw [e1] at e; cases e
  · rw [e1] at e; cases e; exact h1
end Go.Mem
end
