/- Texts of this proof, packed: StoreFree, AppK, StoreMem, StoreBest, StoreOps, StoreFreeN, StoreNames, StoreOpenMath. -/
import Derived.Test.YtbbojbdigiibbaaGreatDoorPk02
import Derived.Test.YtbbojbdigiibbaaGreatDoorPk01
import Derived.Test.YtbbojbdigiibbaaGreatDoorPk00
import Derived.Deep.RegionLaw
import Derived.Sort.OwnSorted
section
namespace Go.Mem
open Go Go.RowKit Gf
def Tri (sb d L : Nat) (b : Nat) : Prop := b = sb ∨ b = d ∨ b = L
theorem Blk.chg4 {w : World} {b g : Nat} {arr : Array Value} {t : TypeId} (h : Blk w b arr t) (hg : b ≠ g) (u0 u1 u2 u3 : Value) : Blk ((((w.setCell ⟨g, 0, none⟩ u0).setCell ⟨g, 1, none⟩ u1).setCell ⟨g, 2, none⟩ u2).setCell ⟨g, 3, none⟩ u3) b arr t :=
  (((h.set_other (a := ⟨g, 0, none⟩) (fun e => hg e.symm) u0).set_other (a := ⟨g, 1, none⟩) (fun e => hg e.symm) u1).set_other (a := ⟨g, 2, none⟩) (fun e => hg e.symm) u2).set_other (a := ⟨g, 3, none⟩) (fun e => hg e.symm) u3
theorem chg_new2 {S T : Nat → Prop} {w w' w'' : World} (h : Chg S w w') (h' : Chg T w' w'') (hT : ∀ k, T k → w.heap.size ≤ k) : Chg S w w'' :=
  ⟨h'.os.trans h.os, h'.tape.trans h.tape, h'.output.trans h.output, Nat.le_trans h.size h'.size, fun k hk hs => (h'.block k (Nat.lt_of_lt_of_le hk h.size) fun ht => by have := hT k ht; omega).trans (h.block k hk hs)⟩
end Go.Mem
namespace Go.Proofs.YtbbojbdigiibbaaGreatDoor
open Go Go.RowKit Go.Mem Gf
attribute [local go_sem ↓] Go.wp_at_zero Go.wp_at_succ
theorem chg1 (w : World) (g i : Nat) (v : Value) : Chg (fun b => b = g) w (w.setCell ⟨g, i, none⟩ v) := Chg.set (S := fun b => b = g) (Chg.refl _ _) (a := ⟨g, i, none⟩) rfl v
def stV (d room : Nat) (la : Option Addr) (n lc : Nat) (dead : Bool) : Array Value := #[.pointer (some ⟨d, 0, none⟩), .int .i64 room, .slice la n lc, .bool dead]
set_option maxRecDepth 20000 in
set_option maxHeartbeats 2000000 in
theorem free_new (sb d L room n lc i : Nat) (la : Option Addr) (dead : Bool) (D : DiskS) (w : World) (hS : Blk w sb (stV d room la n lc dead) 146) (hD : IsDisk w d L D) (hne : sb ≠ d ∧ sb ≠ L) (hi : n ≤ i) (hi2 : i ≤ 1024) (hr : room ≤ 1024) (hw : D.writes < 4611686018427387904) :
    Calls Tryz.prog 86 #[.pointer (some ⟨sb, 0, none⟩), .int .i64 i] w fun e w' => e = .returned (.int .i64 (D.wres (i * (room + 1) : Nat) 1)) ∧ Blk w' sb (stV d room la n lc (dead || (D.wres (i * (room + 1) : Nat) 1 != 0))) 146 ∧ IsDisk w' d L (D.wr (i * (room + 1) : Nat) [0]) ∧ Chg (Tri sb d L) w w' := by
  obtain ⟨z, hz⟩ : ∃ z, z = D.wres (i * (room + 1) : Nat) 1 := ⟨_, rfl⟩
  have c0 : w.cell? ⟨sb, 0, none⟩ = some (.pointer (some ⟨d, 0, none⟩)) := by rw [hS.cell]; rfl
  have c1 : w.cell? ⟨sb, 1, none⟩ = some (.int .i64 room) := by rw [hS.cell]; rfl
  have d0 : (w.alloc (.cells #[.int .u8 0] 5)).cell? ⟨sb, 0, none⟩ = some (.pointer (some ⟨d, 0, none⟩)) := by rw [(hS.alloc _).cell]; rfl
  have d1 : (w.alloc (.cells #[.int .u8 0] 5)).cell? ⟨sb, 1, none⟩ = some (.int .i64 room) := by rw [(hS.alloc _).cell]; rfl
  have hb0 : Below w.heap.size w (w.alloc (.cells #[.int .u8 0] 5)).drew := below_drewN ((Below.refl _ _).alloc (Nat.le_refl _) _) 1
  have q1 : IntKind.i64.wrap ((room : Int) + 1) = (room : Int) + 1 := IntWalk.i64_in _ (by omega)
  have hm : i * (room + 1) ≤ 1024 * 1025 := Nat.mul_le_mul hi2 (by omega)
  have e2 : (i : Int) * ((room : Int) + 1) = ((i * (room + 1) : Nat) : Int) := by push_cast; rfl
  have q2 : IntKind.i64.wrap ((i : Int) * ((room : Int) + 1)) = (i : Int) * ((room : Int) + 1) := IntWalk.i64_in _ (by rw [e2]; omega)
  rw [← hz]
  have HS := Lib.hid hS; have HD := Lib.hid hD; have Hz := Lib.hid hz; have E2 := Lib.hid e2; have Hb0 := Lib.hid hb0
  clear hS hD hz e2 hm hb0
  go_enter Tryz.func86, Tryz.ntmps86
  go_wp2_with fail
  go_region_held3 (fun w' => w'.cell? ⟨sb, 0, none⟩ = some (.pointer (some ⟨d, 0, none⟩)) ∧ w'.cell? ⟨sb, 1, none⟩ = some (.int .i64 room)) (first | exact ⟨c0, c1⟩ | exact ⟨d0, d1⟩ | assumption)
    (first
      | (go_at_call 137
         rw [E2.out]
         refine (dwrite_any d L D (i * (room + 1) : Nat) _ [0] _ (HD.out.below Hb0.out) (Bys.drewN (bys_one w 0 (.int .u8 0) rfl 5) 1) hw).mono ?_
         rintro e w2 ⟨rfl, hD2, hc2⟩
         have hS2 := hc2.blk (HS.out.kept Hb0.out) (fun h => by rcases h with h | h; exact hne.1 h; exact hne.2 h)
         have hh : w2.cell? ⟨sb, 0, none⟩ = some (.pointer (some ⟨d, 0, none⟩)) ∧ w2.cell? ⟨sb, 1, none⟩ = some (.int .i64 room) := ⟨hS2.cell 0, hS2.cell 1⟩
         rw [show ([0] : List UInt8).length = 1 from rfl, ← Hz.out]))
  have HS2 := Lib.hid hS2; have HD2 := Lib.hid hD2
  have HC2 := Lib.hid (show Chg (Tri sb d L) w w2 from (Chg.of_below Hb0.out).trans (hc2.mono fun b h => .inr h))
  have g2 : w2.cell? ⟨sb, 2, none⟩ = some (.slice la n lc) := hS2.cell 2
  have g3 : w2.cell? ⟨sb, 3, none⟩ = some (.bool dead) := hS2.cell 3
  have f3 := hS2.free 3
  clear hS2 hD2 hc2 hh q1 q2 c0 c1 d0 d1
  by_cases h0 : z = 0
  · subst h0
    go_wp2
    go_ret
    exact ⟨rfl, by simpa using HS2.out, HD2.out, HC2.out⟩
  · have t0 : (z != 0) = true := by simpa using h0
    clear h0
    go_wp2
    go_ret
    refine ⟨rfl, ?_, HD2.out.chg (chg1 _ _ _ _) (fun e => hne.1 e.symm) (fun e => hne.2 e.symm), HC2.out.set (.inl rfl) _⟩
    rw [t0, Bool.or_true]
    exact HS2.out.set 3 (.bool true)
def slotB (D : DiskS) (room i : Nat) : Nat → List UInt8
  | 0 => []
  | k + 1 => slotB D room i k ++ D.sector (i * (room + 1) + 1 + k)
theorem slotB_len (D : DiskS) (room i k : Nat) : (slotB D room i k).length = k * 32 := by
  induction k with
  | zero => rfl
  | succ k ih => rw [slotB, List.length_append, ih, sector_len]; omega
def readR (D : DiskS) (room i : Nat) : Sto.Rec × Int × Bool :=
  if D.dead = true then (Sto.Rec.free, 8, false)
  else if D.f (i * (room + 1) * 32) ≠ 1 then (Sto.Rec.free, 0, false)
  else match Sto.parse (slotB D room i room) with
    | some r => (r, 0, false)
    | none => (Sto.Rec.free, D.wres (i * (room + 1) : Nat) 1, true)
def recV (r : Sto.Rec) (dv : Value) : Array Value := #[.bool r.is, .string r.name, .int .i64 r.num, dv]
def ReadPost (sb d L room n lc i : Nat) (la : Option Addr) (dead : Bool) (D : DiskS) (w : World) (e : Ending) (w' : World) : Prop :=
  ∃ dv, e = .returned (.tuple #[.agg (recV (readR D room i).1 dv), .int .i64 (readR D room i).2.1]) ∧ OwnX 5 w' w.heap.size dv (readR D room i).1.data ∧
      Blk w' sb (stV d room la n lc (dead || ((readR D room i).2.2 && ((readR D room i).2.1 != 0)))) 146 ∧ IsDisk w' d L (if (readR D room i).2.2 = true then D.wr (i * (room + 1) : Nat) [0] else D) ∧ Chg (Tri sb d L) w w'
set_option maxRecDepth 20000 in
set_option maxHeartbeats 4000000 in
theorem read_calls (sb d L room n lc i : Nat) (la : Option Addr) (dead : Bool) (D : DiskS) (w : World) (hS : Blk w sb (stV d room la n lc dead) 146) (hD : IsDisk w d L D) (hne : sb ≠ d ∧ sb ≠ L) (hi : n ≤ i) (hi2 : i ≤ 1024) (hr : room ≤ 1024) (hr1 : 1 ≤ room) (hin : (i + 1) * (room + 1) ≤ D.n) (hw : D.writes < 4611686018427387904) :
    Calls Tryz.prog 84 #[.pointer (some ⟨sb, 0, none⟩), .int .i64 i] w (ReadPost sb d L room n lc i la dead D w) := by
  have c0 : w.cell? ⟨sb, 0, none⟩ = some (.pointer (some ⟨d, 0, none⟩)) := by rw [hS.cell]; rfl
  have c1 : w.cell? ⟨sb, 1, none⟩ = some (.int .i64 room) := by rw [hS.cell]; rfl
  have hmul : (i + 1) * (room + 1) = i * (room + 1) + (room + 1) := by rw [Nat.add_mul, Nat.one_mul]
  have hn2 : D.n ≤ 4096 := by obtain ⟨_, _, _, _, _, _, _, _, _, h, _⟩ := hD; exact h
  obtain ⟨m, hm⟩ : ∃ m, m = i * (room + 1) := ⟨_, rfl⟩
  have e2 : (i : Int) * ((room : Int) + 1) = (m : Int) := by rw [hm]; push_cast; rfl
  rw [hmul, ← hm] at hin
  have hb0 : Below w.heap.size w ((w.alloc (.cells #[.bool false, .string { data := #[] }, .int .i64 0, .slice none 0 0] 148)).drew) := below_drewN ((Below.refl _ _).alloc (Nat.le_refl _) _) 1
  have hR0 := Blk.new w #[.bool false, .string { data := #[] }, .int .i64 0, .slice none 0 0] 148
  have d0 : (w.alloc (.cells #[.bool false, .string { data := #[] }, .int .i64 0, .slice none 0 0] 148)).cell? ⟨sb, 0, none⟩ = some (.pointer (some ⟨d, 0, none⟩)) := by rw [(hS.alloc _).cell]; rfl
  have d1 : (w.alloc (.cells #[.bool false, .string { data := #[] }, .int .i64 0, .slice none 0 0] 148)).cell? ⟨sb, 1, none⟩ = some (.int .i64 room) := by rw [(hS.alloc _).cell]; rfl
  have q1 : IntKind.i64.wrap ((room : Int) + 1) = (room : Int) + 1 := IntWalk.i64_in _ (by omega)
  have q2 : IntKind.i64.wrap ((i : Int) * ((room : Int) + 1)) = (i : Int) * ((room : Int) + 1) := IntWalk.i64_in _ (by rw [e2]; omega)
  have HS := Lib.hid hS; have HD := Lib.hid hD; have Hb0 := Lib.hid hb0; have E2 := Lib.hid e2; have Hm := Lib.hid hm; have HR0 := Lib.hid hR0
  clear hS hD hb0 e2 hm hR0 hmul
  go_enter Tryz.func84, Tryz.ntmps84
  go_wp2_with fail
  go_region_held3 (fun w' => w'.cell? ⟨sb, 0, none⟩ = some (.pointer (some ⟨d, 0, none⟩)) ∧ w'.cell? ⟨sb, 1, none⟩ = some (.int .i64 room)) (first | exact ⟨d0, d1⟩ | assumption)
    (first
      | (go_at_call 135
         rw [E2.out]
         refine (dread_any d L D (m : Nat) _ (HD.out.below Hb0.out)).mono ?_
         rintro e w2 ⟨rv, rfl, hrv, hb2⟩
         have hbox2 := HR0.out.drew.below hb2 (by simp)
         have hb2 : Below w.heap.size w w2 := Hb0.out.trans (hb2.mono (by simp))
         have hS2 := HS.out.kept hb2
         have hh : w2.cell? ⟨sb, 0, none⟩ = some (.pointer (some ⟨d, 0, none⟩)) ∧ w2.cell? ⟨sb, 1, none⟩ = some (.int .i64 room) := ⟨hS2.cell 0, hS2.cell 1⟩))
  have hR2 : Blk w2 w.heap.size #[.bool false, .string { data := #[] }, .int .i64 0, .slice none 0 0] 148 := hbox2
  have HRV := Lib.hid hrv; have HS2 := Lib.hid hS2; have HB2 := Lib.hid hb2; have HR2 := Lib.hid hR2
  have d0 : w2.cell? ⟨w.heap.size, 0, none⟩ = some (.bool false) := hR2.cell 0
  have d1 : w2.cell? ⟨w.heap.size, 1, none⟩ = some (.string { data := #[] }) := hR2.cell 1
  have d2 : w2.cell? ⟨w.heap.size, 2, none⟩ = some (.int .i64 0) := hR2.cell 2
  have d3 : w2.cell? ⟨w.heap.size, 3, none⟩ = some (.slice none 0 0) := hR2.cell 3
  have f0 := hR2.free 0; have f1 := hR2.free 1; have f2 := hR2.free 2; have f3 := hR2.free 3
  clear hrv hS2 hb2 hR2 hh hbox2 c0 c1 q1 q2
  have HF := Lib.hid (chg4 w2 w.heap.size)
  by_cases hdead : D.dead = true
  · have Hrr := Lib.hid (show D.rres (m : Nat) = 8 from by unfold DiskS.rres; rw [if_pos (DiskS.may_yes (by omega)), if_pos hdead])
    have HRD := Lib.hid (show readR D room i = (Sto.Rec.free, 8, false) from by unfold readR; rw [if_pos hdead])
    clear hdead
    rw [Hrr.out]
    go_wp2
    refine bodyPost_ret (v := .tuple #[.agg #[.bool false, .string { data := #[] }, .int .i64 0, .slice none 0 0], .int .i64 8]) (by simp [results, Tryz.results84, go_sem, d0, d1, d2, d3]) rfl ?_
    unfold ReadPost
    rw [HRD.out]
    exact ⟨_, rfl, OwnX.nil _ _ _, by simpa using (HS2.out.chg4 (show sb ≠ w.heap.size from Nat.ne_of_lt HS.out.lt) _ _ _ _), IsDisk.chg (HD.out.below HB2.out) (HF.out _ _ _ _) (fun e => by have := HD.out.lt.1; omega) (fun e => by have := HD.out.lt.2; omega), chg_new2 (Chg.of_below HB2.out) (HF.out _ _ _ _) (fun k hk => by omega)⟩
  · have hdead : D.dead = false := by simpa using hdead
    have Hrr := Lib.hid (show D.rres (m : Nat) = 0 from by unfold DiskS.rres; rw [if_pos (DiskS.may_yes (by omega)), if_neg (by rw [hdead]; decide)])
    have Hrd := Lib.hid (show D.rd (m : Nat) = D.sector m from by unfold DiskS.rd; rw [if_pos ⟨DiskS.may_yes (by omega), hdead⟩]; simp)
    have hrv := HRV.out
    rw [Hrd.out] at hrv
    obtain ⟨ra, rc, rfl⟩ := hrv.bys.eq_slice
    obtain ⟨b1, o1, e1, g0⟩ := Bys.byte hrv.bys 0 (by rw [sector_len]; decide)
    subst e1
    have g0 : w2.cell? ⟨b1, o1, none⟩ = some (.int .u8 ((D.f (m * 32)).toNat : Nat)) := by
      have e : (D.sector m).getD 0 0 = D.f (m * 32) := by rw [List.getD_eq_getElem?_getD, sector_get _ _ _ (by decide)]; rfl
      rw [← e]; exact g0
    rw [sector_len, Hrr.out]
    have Hdead := Lib.hid hdead
    clear hrv hdead
    by_cases h1 : D.f (m * 32) = 1
    · rw [h1] at g0
      have g0 : w2.cell? ⟨b1, o1, none⟩ = some (.int .u8 1) := g0
      have H1 := Lib.hid h1
      clear h1
      go_wp2_with fail
      have Q1 := Lib.hid (show IntKind.i64.wrap ((room : Int) + 1) = (room : Int) + 1 from IntWalk.i64_in _ (by omega))
      have Q2 := Lib.hid (show IntKind.i64.wrap ((i : Int) * ((room : Int) + 1)) = (i : Int) * ((room : Int) + 1) from IntWalk.i64_in _ (by rw [E2.out]; omega))
      have Q3 := Lib.hid (show IntKind.i64.wrap ((i : Int) * ((room : Int) + 1) + 1) = (i : Int) * ((room : Int) + 1) + 1 from IntWalk.i64_in _ (by rw [E2.out]; omega))
      have Q4 := Lib.hid (fun (k : Nat) (hk : k < room) => (show IntKind.i64.wrap ((i : Int) * ((room : Int) + 1) + 1 + (k : Int)) = (i : Int) * ((room : Int) + 1) + 1 + (k : Int) from IntWalk.i64_in _ (by rw [E2.out]; omega)))
      have hs2 := HB2.out.size
      have hlt2 := HR2.out.lt
      have hltD := HD.out.lt
      have hltS := HS.out.lt
      go_loopw [8, 43] (fun u v wr => ∃ k : Nat, k ≤ room ∧ v = .int .i64 k ∧ OwnX 5 wr w2.heap.size u (slotB D room i k) ∧ Below w2.heap.size w2 wr) (fun _ v _ => room - (intOf v).toNat)
      case atStart => exact ⟨0, by omega, rfl, OwnX.nil _ _ _, Below.refl _ _⟩
      case round =>
        clear d0 d1 d2 d3 f0 f1 f2 f3 g0
        obtain ⟨k, hk, rfl, ho, hb⟩ := hrel
        have hSr := HS2.out.kept hb
        by_cases hkr : k < room
        · have a0 : wr.cell? ⟨sb, 0, none⟩ = some (.pointer (some ⟨d, 0, none⟩)) := hSr.cell 0
          have a1 : wr.cell? ⟨sb, 1, none⟩ = some (.int .i64 room) := hSr.cell 1
          have q1 := Q1.out; have q2 := Q2.out; have q3 := Q3.out; have q4 := Q4.out k hkr
          have HSr := Lib.hid hSr; have Hbr := Lib.hid hb; have HO := Lib.hid ho
          have hrr := Lib.hid (show D.rres ((m + 1 + k : Nat) : Int) = 0 from by unfold DiskS.rres; rw [if_pos (DiskS.may_yes (by omega)), if_neg (by rw [Hdead.out]; decide)])
          have hrd := Lib.hid (show D.rd ((m + 1 + k : Nat) : Int) = D.sector (m + 1 + k) from by unfold DiskS.rd; rw [if_pos ⟨DiskS.may_yes (by omega), Hdead.out⟩, Int.toNat_natCast])
          have E3 := Lib.hid (show (i : Int) * ((room : Int) + 1) + 1 + (k : Int) = ((m + 1 + k : Nat) : Int) from by rw [E2.out]; push_cast; rfl)
          clear hSr hb ho
          go_wp2_with fail
          go_region_held3 (fun w' => w'.cell? ⟨sb, 0, none⟩ = some (.pointer (some ⟨d, 0, none⟩)) ∧ w'.cell? ⟨sb, 1, none⟩ = some (.int .i64 room)) (first | exact ⟨a0, a1⟩ | assumption)
            (first
              | (go_at_call 135
                 rw [E3.out]
                 refine (dread_any d L D ((m + 1 + k : Nat) : Int) _ ((HD.out.below (HB2.out.trans (Hbr.out.mono hs2))).drewN 1)).mono ?_
                 rintro e w4 ⟨rv, rfl, hrv, hb4⟩
                 have hb4 : Below wr.heap.size wr w4 := of_drew hb4
                 have hS4 := HSr.out.kept hb4
                 have hh : w4.cell? ⟨sb, 0, none⟩ = some (.pointer (some ⟨d, 0, none⟩)) ∧ w4.cell? ⟨sb, 1, none⟩ = some (.int .i64 room) := ⟨hS4.cell 0, hS4.cell 1⟩
                 rw [hrd.out] at hrv
                 rw [hrr.out]))
          have HS4 := Lib.hid hS4; have HB4 := Lib.hid hb4; have HRV4 := Lib.hid hrv.bys
          have hsr := Hbr.out.size
          have hs4 := HB4.out.size
          have hlt8 := HO.out.lt
          have hln := slotB_len D room i k
          have Hfin := Lib.hid (show slotB D room i (k + 1) = slotB D room i k ++ D.sector (m + 1 + k) from by rw [slotB, Hm.out])
          clear hS4 hb4 hrv hh q1 q2 q3 q4 a0 a1
          go_wp2_with (at_builtin; refine appX E8c rfl _ _ rfl (base := w2.heap.size) (news := D.sector (m + 1 + k)) rfl rfl (HO.out.below HB4.out) HRV4.out ?z1 ?z2 ?_)
          case z1 =>
            have hm2 : k * 32 ≤ 1024 * 32 := Nat.mul_le_mul (by omega) (Nat.le_refl _)
            rw [hln, sector_len]; omega
          case z2 => omega
          intro v5 w5 ho5 hg5
          have hb5 := grown_below (Hbr.out.trans (HB4.out.mono hsr)) hg5 (fun q hq => (hlt8 q hq).1)
          rw [← Hfin.out] at ho5
          clear hg5 hln
          go_wp2
          exact ⟨⟨k + 1, by omega, by go_num, ho5, hb5⟩, by simp [intOf] <;> omega⟩
        · obtain rfl : k = room := by omega
          have hbox := HR2.out.kept hb
          have hDr := HD.out.below (HB2.out.trans (hb.mono hs2))
          have hBr := HB2.out.trans (hb.mono hs2)
          have hlen := slotB_len D k i k
          have HBX := Lib.hid hbox; have HDR := Lib.hid hDr; have HBR := Lib.hid hBr; have HO := Lib.hid ho; have HSR := Lib.hid hSr
          have hsr := hb.size
          clear hbox hDr hBr hSr hb
          go_wp2_with fail
          refine (parse_calls _ _ wr HO.out.bys (by
            have hm2 : k * 32 ≤ 1024 * 32 := Nat.mul_le_mul (by omega) (Nat.le_refl _)
            rw [hlen]; omega)).mono ?_
          rintro e w6 ⟨hb6, ⟨r, hp, dv, rfl, hdv⟩ | ⟨hp, v, rfl, hv⟩⟩
          · have HRD := Lib.hid (show readR D k i = (r, 0, false) from by unfold readR; rw [if_neg (by rw [Hdead.out]; decide), ← Hm.out, if_neg (by rw [H1.out]; decide), hp])
            have hri : r.is = true := by
              unfold Sto.parse at hp
              split at hp
              · cases hp
              · split at hp
                · injection hp with hp; rw [← hp]
                · cases hp
            obtain ⟨da, dc, rfl⟩ := hdv.eq_slice
            have hbox6 := HBX.out.kept hb6
            have HB6 := Lib.hid (HBR.out.trans (hb6.mono (Nat.le_trans hs2 hsr)))
            have h6s := hb6.size
            have x0 : w6.cell? ⟨w.heap.size, 0, none⟩ = some (.bool false) := hbox6.cell 0
            have x1 : w6.cell? ⟨w.heap.size, 1, none⟩ = some (.string { data := #[] }) := hbox6.cell 1
            have x2 : w6.cell? ⟨w.heap.size, 2, none⟩ = some (.int .i64 0) := hbox6.cell 2
            have x3 : w6.cell? ⟨w.heap.size, 3, none⟩ = some (.slice none 0 0) := hbox6.cell 3
            have y0 : ∀ o, (w6.alloc o).cell? ⟨w.heap.size, 0, none⟩ = some (.bool false) := fun o => (hbox6.alloc o).cell 0
            have y1 : ∀ o, (w6.alloc o).cell? ⟨w.heap.size, 1, none⟩ = some (.string { data := #[] }) := fun o => (hbox6.alloc o).cell 1
            have y2 : ∀ o, (w6.alloc o).cell? ⟨w.heap.size, 2, none⟩ = some (.int .i64 0) := fun o => (hbox6.alloc o).cell 2
            have y3 : ∀ o, (w6.alloc o).cell? ⟨w.heap.size, 3, none⟩ = some (.slice none 0 0) := fun o => (hbox6.alloc o).cell 3
            have z0 : ∀ o, (w6.alloc o).frozen? ⟨w.heap.size, 0, none⟩ = false := fun o => (hbox6.alloc o).free 0
            have z1 : ∀ o, (w6.alloc o).frozen? ⟨w.heap.size, 1, none⟩ = false := fun o => (hbox6.alloc o).free 1
            have z2 : ∀ o, (w6.alloc o).frozen? ⟨w.heap.size, 2, none⟩ = false := fun o => (hbox6.alloc o).free 2
            have z3 : ∀ o, (w6.alloc o).frozen? ⟨w.heap.size, 3, none⟩ = false := fun o => (hbox6.alloc o).free 3
            have HF6 := Lib.hid (fun (o : Obj) => chg4 (w6.alloc o) w.heap.size)
            have HS6 := Lib.hid (fun (o : Obj) => (HS.out.kept HB6.out).alloc o)
            have HD6 := Lib.hid (fun (o : Obj) => (HD.out.below HB6.out).below ((Below.refl _ _).alloc (Nat.le_refl _) o))
            have HDV := Lib.hid (fun (o : Obj) => hdv.alloc o)
            have HP := Lib.hid hp; have HRI := Lib.hid hri
            clear hp hri hbox6 hb6 hdv
            go_wp2
            refine bodyPost_ret (v := .tuple #[.agg #[.bool true, .string r.name, .int .i64 (r.num : Int), .slice da r.data.length dc], .int .i64 0]) (by simp [results, Tryz.results84, go_sem, y0, y1, y2, y3]) rfl ?_
            unfold ReadPost
            rw [HRD.out]
            refine ⟨.slice da r.data.length dc, by rw [recV, HRI.out], ?_, by simpa using ((HS6.out _).chg4 (show sb ≠ w.heap.size from Nat.ne_of_lt hltS) _ _ _ _), IsDisk.chg (HD6.out _) (HF6.out _ _ _ _ _) (fun e => by omega) (fun e => by omega), chg_new2 (Chg.of_below (HB6.out.alloc HB6.out.size _)) (HF6.out _ _ _ _ _) (fun k hk => by omega)⟩
            exact ((HDV.out _).chg (HF6.out _ _ _ _ _) (fun g hg e => by have := ((HDV.out (.cells #[] 0)).lt g hg).1; omega)).mono (by omega)
          · obtain ⟨vb, vs, vz, vd, rfl, da, dl, dc, rfl⟩ := hv
            have HRD := Lib.hid (show readR D k i = (Sto.Rec.free, D.wres (i * (k + 1) : Nat) 1, true) from by unfold readR; rw [if_neg (by rw [Hdead.out]; decide), ← Hm.out, if_neg (by rw [H1.out]; decide), hp])
            have hbox6 := HBX.out.kept hb6
            have hal : ∀ o, Below w6.heap.size w6 (w6.alloc o) := fun o => (Below.refl _ _).alloc (Nat.le_refl _) o
            have HB6 := Lib.hid (HBR.out.trans (hb6.mono (Nat.le_trans hs2 hsr)))
            have h6s := hb6.size
            have HF6 := Lib.hid (fun (o : Obj) => free_new sb d L k n lc i la dead D (w6.alloc o) ((HS.out.kept HB6.out).alloc o) ((HD.out.below HB6.out).below (hal o)) hne hi hi2 hr hw)
            have HX6 := Lib.hid (fun (o : Obj) => hbox6.alloc o)
            have HAL := Lib.hid hal
            clear hp hbox6 hb6 hal
            go_wp2_with fail
            refine (HF6.out _).mono ?_
            rintro e w7 ⟨rfl, hS7, hD7, hc7⟩
            have hdn : ¬ Tri sb d L w.heap.size := fun e => by rcases e with e | e | e <;> omega
            have hbox7 := hc7.blk (HX6.out _) hdn
            have x0 : w7.cell? ⟨w.heap.size, 0, none⟩ = some (.bool false) := hbox7.cell 0
            have x1 : w7.cell? ⟨w.heap.size, 1, none⟩ = some (.string { data := #[] }) := hbox7.cell 1
            have x2 : w7.cell? ⟨w.heap.size, 2, none⟩ = some (.int .i64 0) := hbox7.cell 2
            have x3 : w7.cell? ⟨w.heap.size, 3, none⟩ = some (.slice none 0 0) := hbox7.cell 3
            have z0 := hbox7.free 0; have z1 := hbox7.free 1; have z2 := hbox7.free 2; have z3 := hbox7.free 3
            obtain ⟨z, hz⟩ : ∃ z, z = D.wres (i * (k + 1) : Nat) 1 := ⟨_, rfl⟩
            rw [← hz] at hS7 ⊢
            have Hz := Lib.hid hz; have HS7 := Lib.hid hS7; have HD7 := Lib.hid hD7
            have HC7 := Lib.hid (show Chg (Tri sb d L) w w7 from (Chg.of_below (HB6.out.alloc HB6.out.size _)).trans hc7)
            have HF7 := Lib.hid (chg4 w7 w.heap.size)
            clear hz hS7 hD7 hc7 hbox7
            go_wp2
            refine bodyPost_ret (v := .tuple #[.agg #[.bool false, .string { data := #[] }, .int .i64 0, .slice none 0 0], .int .i64 z]) (by simp [results, Tryz.results84, go_sem, x0, x1, x2, x3]) rfl ?_
            unfold ReadPost
            rw [HRD.out, ← Hz.out]
            exact ⟨_, rfl, OwnX.nil _ _ _, by simpa using (HS7.out.chg4 (show sb ≠ w.heap.size from Nat.ne_of_lt hltS) _ _ _ _), IsDisk.chg HD7.out (HF7.out _ _ _ _) (fun e => by omega) (fun e => by omega), chg_new2 HC7.out (HF7.out _ _ _ _) (fun k hk => by omega)⟩
    · have HRD := Lib.hid (show readR D room i = (Sto.Rec.free, 0, false) from by unfold readR; rw [if_neg (by rw [Hdead.out]; decide), ← Hm.out, if_pos h1])
      obtain ⟨u1, hu1⟩ : ∃ u1, u1 = D.f (m * 32) := ⟨_, rfl⟩
      rw [← hu1] at g0 h1
      have t1 : (((u1.toNat : Nat) : Int) != 1) = true := neq_u8 (k := 1) (by decide) h1
      clear hu1 h1
      go_wp2
      refine bodyPost_ret (v := .tuple #[.agg #[.bool false, .string { data := #[] }, .int .i64 0, .slice none 0 0], .int .i64 0]) (by simp [results, Tryz.results84, go_sem, d0, d1, d2, d3]) rfl ?_
      unfold ReadPost
      rw [HRD.out]
      exact ⟨_, rfl, OwnX.nil _ _ _, by simpa using (HS2.out.chg4 (show sb ≠ w.heap.size from Nat.ne_of_lt HS.out.lt) _ _ _ _), IsDisk.chg (HD.out.below HB2.out) (HF.out _ _ _ _) (fun e => by have := HD.out.lt.1; omega) (fun e => by have := HD.out.lt.2; omega), chg_new2 (Chg.of_below HB2.out) (HF.out _ _ _ _) (fun k hk => by omega)⟩
end Go.Proofs.YtbbojbdigiibbaaGreatDoor
end
section
namespace Go.Mem
open Go Go.RowKit Gf
section
variable {P : Program} {w : World} {ops : Array Oper} {rest : List Oper} {o : Oper} {a : Act} {Q : Exit → Act → World → Prop} {K : Act → World → Prop} {E0 : Prop}
theorem wpAppK {t e : TypeId} {z : Value} {size bytes : Nat} (E : ElemK P t e z size bytes) (s x : Operand) (ho : o.op = .call { callee := .builtin .append, args := #[s, x], argTypes := #[t, t] })
    {base : Nat} {v : Value} {n : Nat} {xs : List Value} (news : List Value) (hs : a.eval s = v) {mb : Nat} (hx : a.eval x = .slice (some ⟨mb, 0, none⟩) 1 1) (hl : news.length = size) (hnews : ∀ j u, news[j]? = some u → w.cell? ⟨mb, j, none⟩ = some u) (h1 : ∀ u ∈ news, u.oneCell' = true)
    (hown : w.ownsRow base e size v n xs) (hn : n + 1 ≤ 4294967296) (hby : bytes ≤ 4096) (hbase : base ≤ w.heap.size)
    (h : ∀ v' w', w'.ownsRow base e size v' (n + 1) (xs ++ news) ∧ w.grownBy w' v.ownBlock → K (a.put o.dst v') w') : o.wp P a w K Q := by
  obtain ⟨i, hi, hz, hsz, hb⟩ := info_parts E.info
  have hm : (n + 1) * bytes ≤ 4294967296 * 4096 := Nat.mul_le_mul hn hby
  exact wp_append_own w s x t ho base e i z size bytes E.under hi hz hsz hb E.zsize E.pos v n xs hs hown ⟨mb, 0, none⟩ 1 1 news hx (by omega)
    (fun j y hj => by
      rw [show (⟨mb, 0, none⟩ : Addr).add j = ⟨mb, j, none⟩ from by unfold Addr.add; split <;> simp_all]
      exact hnews j y hj)
    h1 (by unfold maxLen; omega) (by omega) hbase (fun v' w' h2 h3 _ => h v' w' ⟨h2, h3⟩)
theorem stepAppK {t e : TypeId} {z : Value} {size bytes : Nat} (E : ElemK P t e z size bytes) (hgd : o.guard = none) (s x : Operand) (ho : o.op = .call { callee := .builtin .append, args := #[s, x], argTypes := #[t, t] })
    {base : Nat} {v : Value} {n : Nat} {xs : List Value} (news : List Value) (hs : a.eval s = v) {mb : Nat} (hx : a.eval x = .slice (some ⟨mb, 0, none⟩) 1 1) (hl : news.length = size) (hnews : ∀ j u, news[j]? = some u → w.cell? ⟨mb, j, none⟩ = some u) (h1 : ∀ u ∈ news, u.oneCell' = true)
    (hown : w.ownsRow base e size v n xs) (hn : n + 1 ≤ 4294967296) (hby : bytes ≤ 4096) (hbase : base ≤ w.heap.size)
    (h : ∀ v' w', w'.ownsRow base e size v' (n + 1) (xs ++ news) → w.grownBy w' v.ownBlock → K (a.put o.dst v') w') : if Region.wanted o (yielded ops a.tmps) = true then Oper.wp P o a w K Q else E0 :=
  to_step hgd (fun _ hK => wpAppK E s x ho news hs hx hl hnews h1 hown hn hby hbase hK) fun v' w' h2 => h v' w' h2.1 h2.2
end
theorem own_chg {S : Nat → Prop} {w w' : World} {base : Nat} {e : TypeId} {size n : Nat} {v : Value} {xs : List Value} (h : w.ownsRow base e size v n xs) (hc : Chg S w w') (hs : ∀ g, v.ownBlock = some g → ¬ S g) : w'.ownsRow base e size v n xs := by
  refine ⟨h.1, ?_⟩
  rcases h.2 with hn | ⟨g, cap, cur, rfl, hb, hg, rest⟩
  · exact .inl hn
  · exact .inr ⟨g, cap, cur, rfl, hb, (hc.block g (lt_of_block hg) (hs g rfl)).trans hg, rest⟩
theorem own_eq_slice {w : World} {base : Nat} {e : TypeId} {size n : Nat} {v : Value} {xs : List Value} (h : w.ownsRow base e size v n xs) : ∃ a c, v = .slice a n c ∧ (0 < n → ∃ g, a = some ⟨g, 0, none⟩) := by
  rcases h.2 with ⟨rfl, rfl⟩ | ⟨g, cap, cur, rfl, _⟩
  · exact ⟨none, 0, rfl, fun h => by omega⟩
  · exact ⟨_, cap, rfl, fun _ => ⟨g, rfl⟩⟩
theorem Chg.grown {S : Nat → Prop} {w w' w'' : World} {row : Option Nat} (h : Chg S w w') (hg : w'.grownBy w'' row) (hr : ∀ q, row = some q → S q ∨ w.heap.size ≤ q) : Chg S w w'' :=
  ⟨hg.os.trans h.os, hg.tape.trans h.tape, hg.output.trans h.output, Nat.le_trans h.size hg.size, fun k hk hs => (hg.block k (Nat.lt_of_lt_of_le hk h.size) (fun e => by rcases hr k e.symm with h | h; exact hs h; omega)).trans (h.block k hk hs)⟩
theorem Chg.mix {S T : Nat → Prop} {w w' w'' : World} (h : Chg S w w') (h' : Chg T w' w'') (hT : ∀ k, T k → S k ∨ w.heap.size ≤ k) : Chg S w w'' :=
  ⟨h'.os.trans h.os, h'.tape.trans h.tape, h'.output.trans h.output, Nat.le_trans h.size h'.size, fun k hk hs => (h'.block k (Nat.lt_of_lt_of_le hk h.size) (fun ht => by rcases hT k ht with h | h; exact hs h; omega)).trans (h.block k hk hs)⟩
theorem Blk.grown' {w w' : World} {b : Nat} {arr : Array Value} {t : TypeId} {row : Option Nat} (hb : Blk w b arr t) (hg : w.grownBy w' row) (hr : row ≠ some b) : Blk w' b arr t := by
  unfold Blk at *
  rw [hg.block b (lt_of_block hb) (fun e => hr e.symm)]
  exact hb
theorem new_news {w : World} {arr : Array Value} {t : TypeId} {news : List Value} (h : arr = news.toArray) : ∀ j u, news[j]? = some u → (w.alloc (.cells arr t)).cell? ⟨w.heap.size, j, none⟩ = some u := fun j u hu => by
  rw [(Blk.new w arr t).cell, h]
  simpa using hu
theorem run_append_own_new {P : Program} (w : World) (base : Nat) (t ty e : TypeId) (i : TypeInfo) (z : Value) (size bytes : Nat) (ht : P.underlying t = some (.slice e)) (hi : P.info? e = some i) (hz : i.zero = some z)
    (hsize : i.size = size) (hby : i.bytes = bytes) (hzs : z.cells.size = size) (hsz : 0 < size)
    (v : Value) (n : Nat) (xs : List Value) (hown : w.ownsRow base e size v n xs)
    (a : Addr) (m c : Nat) (news : List Value) (hl : news.length = m * size) (hnews : ∀ j u, news[j]? = some u → w.cell? (a.add j) = some u) (h1 : ∀ u ∈ news, u.oneCell' = true)
    (h63 : n + m ≤ maxLen) (hbytes : (n + m) * bytes ≤ 140737488355328) (hbase : base ≤ w.heap.size) :
    ∃ v' w', (Builtin.append_ #[t, t] ty #[v, .slice (some a) m c]).run P w = .ok v' w' ∧ w'.ownsRow base e size v' (n + m) (xs ++ news) ∧ w.grownBy w' v.ownBlock ∧
      (∀ k, v'.ownBlock = some k → v.ownBlock = some k ∨ w.heap.size ≤ k) := by
  obtain ⟨v', w', hr, h2, h3, _⟩ := run_append_own (P := P) w base t ty e i z size bytes ht hi hz hsize hby hzs hsz v n xs hown a m c news hl hnews h1 h63 hbytes hbase
  refine ⟨v', w', hr, h2, h3, fun k hk => ?_⟩
  have hsmall : n + m ≤ 9223372036854775807 := by simp only [maxLen] at h63; omega
  have hown0 := hown
  rcases hown.2 with ⟨rfl, rfl⟩ | ⟨g, cap, cur, rfl, hbg, hg, hnc, hcm, hcs, htake⟩
  · right
    have hx : xs = [] := List.eq_nil_of_length_eq_zero (by simpa using hown.1)
    subst hx
    obtain ⟨v2, w2, hr2, h22, _, _⟩ := run_append_own (P := P) w w.heap.size t ty e i z size bytes ht hi hz hsize hby hzs hsz _ 0 [] (World.ownsRow_nil w w.heap.size e size) a m c news hl hnews h1 h63 hbytes (Nat.le_refl _)
    rw [hr] at hr2
    injection hr2 with e1 e2
    subst e1
    exact (h22.lt k hk).1
  · subst hsize
    subst hby
    by_cases hroom : n + m ≤ cap
    · left
      have hfit : n * i.size + news.length ≤ cur.size := by rw [hl, hcs, ← Nat.add_mul]; exact Nat.mul_le_mul_right _ hroom
      have hr3 := run_append_room (P := P) w t ty e i ht hi g n cap cur hg a m c news hl hnews h1 hroom hfit
      rw [hr] at hr3
      injection hr3 with e1 e2
      subst e1
      exact hk
    · right
      have holds : ∀ j u, xs[j]? = some u → w.cell? ((⟨g, 0, none⟩ : Addr).add j) = some u := hown0.cells (g := g) rfl
      have hr3 := run_append_grow (P := P) w t ty e i z ht hi hz ⟨g, 0, none⟩ n cap xs hown0.1 holds a m c news hl hnews (by omega) (by omega) (growslice_fits (by omega) hbytes)
      rw [hr] at hr3
      injection hr3 with e1 e2
      subst e1
      have hk2 : w.heap.size = k := by simpa [Value.ownBlock] using hk
      omega
section
variable {P : Program} {w : World} {ops : Array Oper} {rest : List Oper} {o : Oper} {a : Act} {Q : Exit → Act → World → Prop} {K : Act → World → Prop} {E0 : Prop}
theorem stepAppN {t e : TypeId} {z : Value} {size bytes : Nat} (E : ElemK P t e z size bytes) (hgd : o.guard = none) (s x : Operand) (ho : o.op = .call { callee := .builtin .append, args := #[s, x], argTypes := #[t, t] })
    {base : Nat} {v : Value} {n m cx : Nat} {xs : List Value} (news : List Value) (hs : a.eval s = v) {mb : Nat} (hx : a.eval x = .slice (some ⟨mb, 0, none⟩) m cx) (hl : news.length = m * size) (hnews : ∀ j u, news[j]? = some u → w.cell? ⟨mb, j, none⟩ = some u) (h1 : ∀ u ∈ news, u.oneCell' = true)
    (hown : w.ownsRow base e size v n xs) (hn : n + m ≤ 4294967296) (hby : bytes ≤ 4096) (hbase : base ≤ w.heap.size)
    (h : ∀ v' w', w'.ownsRow base e size v' (n + m) (xs ++ news) → w.grownBy w' v.ownBlock → (∀ k, v'.ownBlock = some k → v.ownBlock = some k ∨ w.heap.size ≤ k) → K (a.put o.dst v') w') : if Region.wanted o (yielded ops a.tmps) = true then Oper.wp P o a w K Q else E0 := by
  have hw : Region.wanted o (yielded ops a.tmps) = true := by simp [Region.wanted, hgd]
  rw [if_pos hw]
  obtain ⟨i, hi, hz, hsz, hb⟩ := info_parts E.info
  have hm : (n + m) * bytes ≤ 4294967296 * 4096 := Nat.mul_le_mul hn hby
  obtain ⟨v', w', hr, h2, h3, h4⟩ := run_append_own_new (P := P) w base t o.type e i z size bytes E.under hi hz hsz hb E.zsize E.pos v n xs hown ⟨mb, 0, none⟩ m cx news (by omega)
    (fun j y hj => by
      rw [show (⟨mb, 0, none⟩ : Addr).add j = ⟨mb, j, none⟩ from by unfold Addr.add; split <;> simp_all]
      exact hnews j y hj)
    h1 (by unfold maxLen; omega) (by omega) hbase
  unfold Oper.wp execOp
  simp only [ho, resolve, invoke, builtin, Sem.run_bind, Sem.run_pure, Result.andThen_ok, List.map_toArray, List.map_cons, List.map_nil, hs, hx, hr]
  exact h v' w' h2 h3 h4
end
end Go.Mem
end
section
namespace Go.Mem
open Go Go.RowKit Gf
def DataAt (w : World) (N : Nat → Prop) (v : Value) (bs : List UInt8) : Prop :=
  Bys w v bs ∧ ∃ a c, v = .slice a bs.length c ∧ ∀ b, a = some b → b.block < w.heap.size ∧ ¬ N b.block
theorem DataAt.nil (w : World) (N : Nat → Prop) : DataAt w N (.slice none 0 0) [] := ⟨Bys.nil _, none, 0, rfl, fun b h => by cases h⟩
theorem Bys.chg {S : Nat → Prop} {w w' : World} {v : Value} {bs : List UInt8} (h : Bys w v bs) (hc : Chg S w w') (hs : ∀ a l c, v = .slice (some a) l c → ¬ S a.block) : Bys w' v bs := by
  obtain ⟨a, cap, rfl, h1, h2, h3⟩ := h
  refine ⟨a, cap, rfl, h1, h2, fun hp => ?_⟩
  obtain ⟨b, off, rfl, hcell⟩ := h3 hp
  refine ⟨b, off, rfl, fun i u hi => ?_⟩
  have hx := hcell i u hi
  have hlt : b < w.heap.size := World.block_lt_of_cell? w ⟨b, off + i, none⟩ hx
  have hb := hc.block b hlt (hs _ _ _ rfl)
  unfold World.cell? at hx ⊢
  rw [hb]; exact hx
theorem DataAt.chg {S N : Nat → Prop} {w w' : World} {v : Value} {bs : List UInt8} (h : DataAt w N v bs) (hc : Chg S w w') (hs : ∀ b, S b → b < w.heap.size → N b) : DataAt w' N v bs := by
  obtain ⟨h1, a, c, rfl, h2⟩ := h
  refine ⟨h1.chg hc (fun a' l c' e hS => ?_), a, c, rfl, fun b hb => ⟨Nat.lt_of_lt_of_le (h2 b hb).1 hc.size, (h2 b hb).2⟩⟩
  injection e with e1 _ _
  obtain ⟨hb1, hb2⟩ := h2 a' e1
  exact hb2 (hs _ hS hb1)
theorem DataAt.mono {N M : Nat → Prop} {w : World} {v : Value} {bs : List UInt8} (h : DataAt w N v bs) (hM : ∀ b, M b → N b ∨ w.heap.size ≤ b) : DataAt w M v bs := by
  obtain ⟨h1, a, c, rfl, h2⟩ := h
  refine ⟨h1, a, c, rfl, fun b hb => ⟨(h2 b hb).1, fun hm => ?_⟩⟩
  rcases hM _ hm with h | h
  · exact (h2 b hb).2 h
  · have := (h2 b hb).1; omega
theorem OwnX.data {t8 : TypeId} {w : World} {base : Nat} {v : Value} {bs : List UInt8} {N : Nat → Prop} (h : OwnX t8 w base v bs) (hN : ∀ b, base ≤ b → b < w.heap.size → ¬ N b) : DataAt w N v bs := by
  refine ⟨h.bys, ?_⟩
  rcases h with ⟨rfl, rfl⟩ | ⟨g, cap, arr, fz, rfl, h2, h3, _⟩
  · exact ⟨none, 0, rfl, fun b h => by cases h⟩
  · exact ⟨_, cap, rfl, fun b hb => by cases hb; exact ⟨lt_of_block h3, hN _ h2 (lt_of_block h3)⟩⟩
def recsV : List Sto.Rec → List Value → List Value
  | r :: l, v :: vs => [.bool r.is, .string r.name, .int .i64 r.num, v] ++ recsV l vs
  | _, _ => []
theorem recsV_len : ∀ (l : List Sto.Rec) (vs : List Value), vs.length = l.length → (recsV l vs).length = l.length * 4
  | [], [], _ => rfl
  | r :: l, v :: vs, h => by
    simp only [recsV, List.length_append, List.length_cons, List.length_nil]
    have := recsV_len l vs (by simpa using h)
    omega
theorem recsV_snoc : ∀ (l : List Sto.Rec) (vs : List Value) (r : Sto.Rec) (v : Value), vs.length = l.length → recsV (l ++ [r]) (vs ++ [v]) = recsV l vs ++ [.bool r.is, .string r.name, .int .i64 r.num, v]
  | [], [], r, v, _ => rfl
  | r' :: l, v' :: vs, r, v, h => by
    simp only [List.cons_append, recsV, List.append_assoc]
    rw [recsV_snoc l vs r v (by simpa using h)]
theorem recsV_get : ∀ (l : List Sto.Rec) (vs : List Value) (i : Nat) (r : Sto.Rec) (v : Value), l[i]? = some r → vs[i]? = some v →
    (recsV l vs)[i * 4]? = some (.bool r.is) ∧ (recsV l vs)[i * 4 + 1]? = some (.string r.name) ∧ (recsV l vs)[i * 4 + 2]? = some (.int .i64 r.num) ∧ (recsV l vs)[i * 4 + 3]? = some v
  | r :: l, v :: vs, 0, r', v', h1, h2 => by
    simp at h1 h2
    subst h1 h2
    exact ⟨rfl, rfl, rfl, rfl⟩
  | r :: l, v :: vs, i + 1, r', v', h1, h2 => by
    have := recsV_get l vs i r' v' (by simpa using h1) (by simpa using h2)
    have e : ∀ j, (recsV (r :: l) (v :: vs))[(i + 1) * 4 + j]? = (recsV l vs)[i * 4 + j]? := fun j => by
      rw [recsV, List.getElem?_append_right (by simp; omega)]
      congr 1
      simp; omega
    exact ⟨by rw [show (i + 1) * 4 = (i + 1) * 4 + 0 from rfl, e]; exact this.1, by rw [e]; exact this.2.1, by rw [e]; exact this.2.2.1, by rw [e]; exact this.2.2.2⟩
  | [], _, i, r, v, h1, _ => by simp at h1
  | _ :: _, [], i, r, v, _, h2 => by simp at h2
def RecsAt (t : TypeId) (w : World) (N : Nat → Prop) (lb : Nat) (l : List Sto.Rec) : Prop :=
  ∃ (arr : Array Value) (vs : List Value), Blk w lb arr t ∧ l.length * 4 ≤ arr.size ∧ vs.length = l.length ∧ (∀ j, j < l.length * 4 → arr[j]? = (recsV l vs)[j]?) ∧ ∀ (i : Nat) (r : Sto.Rec) (v : Value), l[i]? = some r → vs[i]? = some v → DataAt w N v r.data
section
variable {t : TypeId} {w w' : World} {N S : Nat → Prop} {lb : Nat} {l : List Sto.Rec}
theorem RecsAt.lt (h : RecsAt t w N lb l) : lb < w.heap.size := by obtain ⟨_, _, h, _⟩ := h; exact h.lt
theorem RecsAt.chg (h : RecsAt t w N lb l) (hc : Chg S w w') (h1 : ¬ S lb) (hs : ∀ b, S b → b < w.heap.size → N b) : RecsAt t w' N lb l := by
  obtain ⟨arr, vs, hB, a, b, c, d⟩ := h
  exact ⟨arr, vs, hc.blk hB h1, a, b, c, fun i r v hr hv => (d i r v hr hv).chg hc hs⟩
theorem RecsAt.below (h : RecsAt t w N lb l) (hb : Below w.heap.size w w') : RecsAt t w' N lb l := h.chg (S := fun _ => False) (Chg.of_below hb) id (fun _ h => h.elim)
theorem RecsAt.mono {M : Nat → Prop} (h : RecsAt t w N lb l) (hM : ∀ b, M b → N b ∨ w.heap.size ≤ b) : RecsAt t w M lb l := by
  obtain ⟨arr, vs, hB, a, b, c, d⟩ := h
  exact ⟨arr, vs, hB, a, b, c, fun i r v hr hv => (d i r v hr hv).mono hM⟩
theorem RecsAt.at (h : RecsAt t w N lb l) {i : Nat} {r : Sto.Rec} (hr : l[i]? = some r) : ∃ a c, w.cell? ⟨lb, i * 4, none⟩ = some (.bool r.is) ∧ w.cell? ⟨lb, i * 4 + 1, none⟩ = some (.string r.name) ∧ w.cell? ⟨lb, i * 4 + 2, none⟩ = some (.int .i64 r.num) ∧ w.cell? ⟨lb, i * 4 + 3, none⟩ = some (.slice a r.data.length c) ∧
    DataAt w N (.slice a r.data.length c) r.data ∧ (∀ j, w.frozen? ⟨lb, j, none⟩ = false) := by
  obtain ⟨arr, vs, hB, h1, h2, h3, h4⟩ := h
  have hi : i < l.length := by
    rcases Nat.lt_or_ge i l.length with h | h
    · exact h
    · rw [List.getElem?_eq_none h] at hr; cases hr
  have hd := h4 i r vs[i] hr (by simp [h2, hi])
  obtain ⟨a, c, e, _⟩ := id hd.2
  obtain ⟨g0, g1, g2, g3⟩ := recsV_get l vs i r vs[i] hr (by simp [h2, hi])
  rw [e] at g3 hd
  exact ⟨a, c, by rw [hB.cell, h3 _ (by omega)]; exact g0, by rw [hB.cell, h3 _ (by omega)]; exact g1, by rw [hB.cell, h3 _ (by omega)]; exact g2, by rw [hB.cell, h3 _ (by omega)]; exact g3, hd, fun j => hB.free j⟩
theorem recsV_set : ∀ (l : List Sto.Rec) (vs : List Value) (i : Nat) (r : Sto.Rec) (v : Value), vs.length = l.length → i < l.length →
    recsV (l.set i r) (vs.set i v) = ((((recsV l vs).set (i * 4) (.bool r.is)).set (i * 4 + 1) (.string r.name)).set (i * 4 + 2) (.int .i64 r.num)).set (i * 4 + 3) v
  | r' :: l, v' :: vs, 0, r, v, h, _ => by simp [recsV]
  | r' :: l, v' :: vs, i + 1, r, v, h, hi => by
    simp only [List.set_cons_succ, recsV]
    rw [recsV_set l vs i r v (by simpa using h) (by simpa using hi)]
    have e : ∀ (j : Nat) (L : List Value) (x : Value), ([.bool r'.is, .string r'.name, .int .i64 r'.num, v'] ++ L).set ((i + 1) * 4 + j) x = [.bool r'.is, .string r'.name, .int .i64 r'.num, v'] ++ L.set (i * 4 + j) x := fun j L x => by
      rw [List.set_append_right _ _ (by simp; omega)]
      congr 2
      simp; omega
    rw [show (i + 1) * 4 = (i + 1) * 4 + 0 from rfl, e 0, e 1, e 2, e 3]
    rfl
theorem RecsAt.set (h : RecsAt t w N lb l) {i : Nat} (hi : i < l.length) (r : Sto.Rec) (v : Value) (hN : N lb) (hd : DataAt w N v r.data) :
    RecsAt t ((((w.setCell ⟨lb, i * 4, none⟩ (.bool r.is)).setCell ⟨lb, i * 4 + 1, none⟩ (.string r.name)).setCell ⟨lb, i * 4 + 2, none⟩ (.int .i64 r.num)).setCell ⟨lb, i * 4 + 3, none⟩ v) N lb (l.set i r) := by
  obtain ⟨arr, vs, hB, h1, h2, h3, h4⟩ := h
  have hc : Chg (fun b => b = lb) w ((((w.setCell ⟨lb, i * 4, none⟩ (.bool r.is)).setCell ⟨lb, i * 4 + 1, none⟩ (.string r.name)).setCell ⟨lb, i * 4 + 2, none⟩ (.int .i64 r.num)).setCell ⟨lb, i * 4 + 3, none⟩ v) := by
    refine Chg.set (S := fun b => b = lb) ?_ (a := ⟨lb, i * 4 + 3, none⟩) rfl _
    refine Chg.set (S := fun b => b = lb) ?_ (a := ⟨lb, i * 4 + 2, none⟩) rfl _
    refine Chg.set (S := fun b => b = lb) ?_ (a := ⟨lb, i * 4 + 1, none⟩) rfl _
    exact Chg.set (S := fun b => b = lb) (Chg.refl _ _) (a := ⟨lb, i * 4, none⟩) rfl _
  refine ⟨_, vs.set i v, (((hB.set (i * 4) (.bool r.is)).set (i * 4 + 1) (.string r.name)).set (i * 4 + 2) (.int .i64 r.num)).set (i * 4 + 3) v, by simpa using h1, by simp [h2], fun j hj => ?_, fun k r' v' hr' hv' => ?_⟩
  · rw [recsV_set l vs i r v h2 hi]
    have hl := recsV_len l vs h2
    simp only [List.length_set] at hj
    simp only [Array.getElem?_setIfInBounds, List.getElem?_set, Array.size_setIfInBounds, List.length_set, hl, h3 j hj]
    have e1 : (i * 4 < arr.size) = (i * 4 < l.length * 4) := by simp; omega
    have e2 : (i * 4 + 1 < arr.size) = (i * 4 + 1 < l.length * 4) := by simp; omega
    have e3 : (i * 4 + 2 < arr.size) = (i * 4 + 2 < l.length * 4) := by simp; omega
    have e4 : (i * 4 + 3 < arr.size) = (i * 4 + 3 < l.length * 4) := by simp; omega
    simp only [e1, e2, e3, e4]
  · rw [List.getElem?_set] at hr' hv'
    by_cases e : i = k
    · subst e
      simp [hi, h2] at hr' hv'
      subst hr' hv'
      exact hd.chg hc (fun b hb _ => by rw [hb]; exact hN)
    · rw [if_neg e] at hr' hv'
      exact (h4 k r' v' hr' hv').chg hc (fun b hb _ => by rw [hb]; exact hN)
end
structure St where
  room : Nat
  recs : List Sto.Rec
  dead : Bool
  disk : DiskS
structure St.Ok (s : St) : Prop where
  room1 : 1 ≤ s.room
  room2 : s.room ≤ 1024
  len1 : 1 ≤ s.recs.length
  len2 : s.recs.length ≤ 1024
  size : s.disk.n = s.recs.length * (s.room + 1)
  each : ∀ r ∈ s.recs, r.name.size ≤ 1000000 ∧ r.data.length ≤ 1000000 ∧ r.num ≤ 72057594037927936 + s.disk.writes
  few : s.disk.writes ≤ 72057594037927936
end Go.Mem
namespace Go.Proofs.YtbbojbdigiibbaaGreatDoor
open Go Go.RowKit Go.Mem Gf
def Foot (sb lb d L : Nat) (b : Nat) : Prop := b = sb ∨ b = lb ∨ b = d ∨ b = L
structure IsStore (w : World) (N : Nat → Prop) (sb lb d L : Nat) (s : St) : Prop where
  blk : ∃ cap, Blk w sb (stV d s.room (some ⟨lb, 0, none⟩) s.recs.length cap s.dead) 146 ∧ s.recs.length ≤ cap ∧ cap ≤ 9223372036854775807
  recs : RecsAt 148 w N lb s.recs
  disk : IsDisk w d L s.disk
  tab : Tab w
  ntab : ¬ N gT
  foot : ∀ b, Foot sb lb d L b → N b
  ne : sb ≠ lb ∧ sb ≠ d ∧ sb ≠ L ∧ lb ≠ d ∧ lb ≠ L
  ok : s.Ok
  old : ∀ b, N b → b < w.heap.size
theorem IsStore.chg {w w' : World} {N S : Nat → Prop} {sb lb d L : Nat} {s : St} (h : IsStore w N sb lb d L s) (hc : Chg S w w') (h1 : ∀ b, Foot sb lb d L b → ¬ S b) (hs : ∀ b, S b → b < w.heap.size → N b) : IsStore w' N sb lb d L s := by
  obtain ⟨cap, hB, a, b⟩ := h.blk
  exact ⟨⟨cap, hc.blk hB (h1 _ (.inl rfl)), a, b⟩, h.recs.chg hc (h1 _ (.inr (.inl rfl))) hs, h.disk.chg hc (h1 _ (.inr (.inr (.inl rfl)))) (h1 _ (.inr (.inr (.inr rfl)))), h.tab.chg hc (fun hS => h.ntab (hs _ hS h.tab.lt)), h.ntab, h.foot, h.ne, h.ok, fun b hb => Nat.lt_of_lt_of_le (h.old b hb) hc.size⟩
theorem IsStore.below {w w' : World} {N : Nat → Prop} {sb lb d L : Nat} {s : St} (h : IsStore w N sb lb d L s) (hb : Below w.heap.size w w') : IsStore w' N sb lb d L s := h.chg (S := fun _ => False) (Chg.of_below hb) (fun _ _ => id) (fun _ h => h.elim)
theorem IsStore.lt {w : World} {N : Nat → Prop} {sb lb d L : Nat} {s : St} (h : IsStore w N sb lb d L s) : ∀ b, Foot sb lb d L b → b < w.heap.size := by
  intro b hb
  obtain ⟨cap, hB, _⟩ := h.blk
  rcases hb with rfl | rfl | rfl | rfl
  · exact hB.lt
  · exact h.recs.lt
  · exact h.disk.lt.1
  · exact h.disk.lt.2
theorem IsStore.grow {w w' : World} {N M S : Nat → Prop} {sb lb d L : Nat} {s : St} (h : IsStore w N sb lb d L s) (hc : Chg S w w') (h1 : ∀ b, Foot sb lb d L b → ¬ S b) (hs : ∀ b, S b → b < w.heap.size → N b) (hM : ∀ b, M b → N b ∨ w.heap.size ≤ b) (hNM : ∀ b, N b → M b) (hold : ∀ b, M b → b < w'.heap.size) : IsStore w' M sb lb d L s := by
  obtain ⟨cap, hB, a, b⟩ := h.blk
  have hg : ¬ M gT := fun hg => by
    rcases hM _ hg with h' | h'
    · exact h.ntab h'
    · have := h.tab.lt; omega
  exact ⟨⟨cap, hc.blk hB (h1 _ (.inl rfl)), a, b⟩, (h.recs.mono hM).chg hc (h1 _ (.inr (.inl rfl))) (fun b hb hlt => hNM _ (hs b hb hlt)), h.disk.chg hc (h1 _ (.inr (.inr (.inl rfl)))) (h1 _ (.inr (.inr (.inr rfl)))), h.tab.chg hc (fun hS => h.ntab (hs _ hS h.tab.lt)), hg, fun b hb => hNM _ (h.foot b hb), h.ne, h.ok, hold⟩
def optI : Option Nat → Int
  | none => -1
  | some k => k
end Go.Proofs.YtbbojbdigiibbaaGreatDoor
end
section
namespace Go.Proofs.YtbbojbdigiibbaaGreatDoor
open Go Go.RowKit Go.Mem Gf
attribute [local go_sem ↓] Go.wp_at_zero Go.wp_at_succ
theorem best_lt (l : List Sto.Rec) (name : ByteArray) : ∀ k j, Sto.best l name k = some j → j < k ∧ ∃ r, l[j]? = some r ∧ r.is = true ∧ (r.name.toList == name.toList) = true
  | 0, j, h => by simp [Sto.best] at h
  | k + 1, j, h => by
    simp only [Sto.best] at h
    split at h
    · have := best_lt l name k j h; exact ⟨by omega, this.2⟩
    · rename_i r hr
      split at h
      · rename_i hc
        cases h
        exact ⟨by omega, r, hr, hc.1, hc.2.1⟩
      · have := best_lt l name k j h; exact ⟨by omega, this.2⟩
theorem best_step {l : List Sto.Rec} {name : ByteArray} {i : Nat} {r : Sto.Rec} (h : l[i]? = some r) : Sto.best l name (i + 1) = if r.is = true ∧ (r.name.toList == name.toList) = true ∧ (∀ j, Sto.best l name i = some j → (l.getD j Sto.Rec.free).num < r.num) then some i else Sto.best l name i := by
  rw [Sto.best, h]
set_option maxRecDepth 20000 in
set_option maxHeartbeats 1000000 in
theorem best_calls (N : Nat → Prop) (sb lb d n cap room : Nat) (dead : Bool) (l : List Sto.Rec) (name : ByteArray) (w : World) (hB : Blk w sb (stV d room (some ⟨lb, 0, none⟩) n cap dead) 146) (hR : RecsAt 148 w N lb l) (hn : n = l.length) (hn2 : n ≤ 1000000) (hnc : n ≤ cap) (hcm : cap ≤ 9223372036854775807) (hnum : ∀ r ∈ l, r.num ≤ 4611686018427387904) :
    Calls Tryz.prog 85 #[.pointer (some ⟨sb, 0, none⟩), .string name] w fun e w' => e = .returned (.int .i64 (optI (Sto.best l name n))) ∧ Below w.heap.size w w' := by
  have c2 : w.cell? ⟨sb, 2, none⟩ = some (.slice (some ⟨lb, 0, none⟩) n cap) := hB.cell 2
  have Hn := Lib.hid hn; have HB := Lib.hid hB; have HR := Lib.hid hR; have Hnum := Lib.hid hnum
  clear hn hB hR hnum
  go_enter Tryz.func85, Tryz.ntmps85
  go_wp2_with fail
  go_loopw [5, 13] (fun u v wr => ∃ i : Nat, i ≤ n ∧ v = .int .i64 i ∧ u = .int .i64 (optI (Sto.best l name i)) ∧ Below w.heap.size w wr) (fun _ v _ => n - (intOf v).toNat)
  case atStart => exact ⟨0, by omega, rfl, rfl, Below.refl _ _⟩
  case round =>
    obtain ⟨i, hi, rfl, rfl, hb⟩ := hrel
    by_cases h0 : i < n
    · obtain ⟨r, hr⟩ : ∃ r, l[i]? = some r := ⟨l[i]'(by have := Hn.out; omega), by simp⟩
      have hRr := HR.out.below hb
      obtain ⟨a, c, c3, c4, c5, c6, _, _⟩ := hRr.at hr
      have i0 : (0 : Int) ≤ (i : Int) := by omega
      have i1 : (i : Int) < (n : Int) := by omega
      have Hr := Lib.hid hr; have HRr := Lib.hid hRr
      have hBr := HB.out.kept hb
      have HBr := Lib.hid hBr
      have hbx := Blk.new wr (recV r (.slice a r.data.length c)) 148
      have hbb : Below wr.heap.size wr (wr.alloc (.cells (recV r (.slice a r.data.length c)) 148)) := (Below.refl _ _).alloc (Nat.le_refl _) _
      obtain ⟨wb, hwb⟩ : ∃ wb, wb = wr.alloc (.cells (recV r (.slice a r.data.length c)) 148) := ⟨_, rfl⟩
      obtain ⟨bx, hbxe⟩ : ∃ bx, bx = wr.heap.size := ⟨_, rfl⟩
      have Hstep := Lib.hid (best_step (name := name) hr)
      clear hr hRr hBr
      go_upto_region 5 with fail
      rw [show (wr.alloc (.cells #[.bool r.is, .string r.name, .int .i64 (r.num : Int), .slice a r.data.length c] 148)) = wb from hwb.symm, ← hbxe]
      rw [← hwb, ← hbxe] at hbx
      rw [← hwb] at hbb
      have b0 : wb.cell? ⟨bx, 0, none⟩ = some (.bool r.is) := hbx.cell 0
      have b1 : wb.cell? ⟨bx, 1, none⟩ = some (.string r.name) := hbx.cell 1
      have b2 : wb.cell? ⟨bx, 2, none⟩ = some (.int .i64 (r.num : Int)) := hbx.cell 2
      have hbw := Lib.hid (hb.trans (hbb.mono hb.size))
      have Hbb := Lib.hid hbb
      clear hwb hbxe hbx hbb c3 c4 c5 c6
      by_cases k1 : r.is = true
      · by_cases k2 : (r.name.toList == name.toList) = true
        · cases hbest : Sto.best l name i with
          | none =>
            have Hfin := Lib.hid (show Sto.best l name (i + 1) = some i from by rw [Hstep.out, if_pos ⟨k1, k2, fun j h => by rw [hbest] at h; cases h⟩])
            rw [k1] at b0
            clear k1 hbest
            simp only [optI]
            go_quiet (fail)
            go_wp2
            exact ⟨⟨i + 1, by omega, by go_num, by rw [Hfin.out]; rfl, below_drewN hbw.out _⟩, by simp [intOf] <;> omega⟩
          | some j =>
            obtain ⟨hj, rj, hrj, _⟩ := best_lt l name i j hbest
            obtain ⟨a2, c2', _, _, e5, _⟩ := (HRr.out.below Hbb.out).at hrj
            have s2 : wb.cell? ⟨sb, 2, none⟩ = some (.slice (some ⟨lb, 0, none⟩) n cap) := (HBr.out.kept Hbb.out).cell 2
            have j0 : (0 : Int) ≤ (j : Int) := by omega
            have j1 : (j : Int) < (n : Int) := by omega
            have j2 : decide ((j : Int) < 0) = false := by simp <;> omega
            have j3 : j < n := by omega
            have n1 := Hnum.out rj (List.mem_of_getElem? hrj)
            have n2 := Hnum.out r (List.mem_of_getElem? Hr.out)
            have hgd : l.getD j Sto.Rec.free = rj := by rw [List.getD_eq_getElem?_getD, hrj]; rfl
            by_cases k3 : rj.num < r.num
            · have Hfin := Lib.hid (show Sto.best l name (i + 1) = some i from by rw [Hstep.out, if_pos ⟨k1, k2, fun j' h => by rw [hbest] at h; cases h; rw [hgd]; exact k3⟩])
              have t3 : decide ((rj.num : Int) < (r.num : Int)) = true := by simp; omega
              have t4 : decide (rj.num < r.num) = true := by simp; omega
              rw [k1] at b0
              clear k1 hbest hgd hrj
              simp only [optI]
              go_quiet (fail)
              go_wp2
              exact ⟨⟨i + 1, by omega, by go_num, by rw [Hfin.out]; rfl, below_drewN hbw.out _⟩, by simp [intOf] <;> omega⟩
            · have Hfin := Lib.hid (show Sto.best l name (i + 1) = some j from by rw [Hstep.out, if_neg (fun h => k3 (by have := h.2.2 j hbest; rw [hgd] at this; exact this)), hbest])
              have t3 : decide ((rj.num : Int) < (r.num : Int)) = false := by simp; omega
              have t4 : decide (rj.num < r.num) = false := by simp; omega
              rw [k1] at b0
              clear k1 hbest hgd hrj
              simp only [optI]
              go_quiet (fail)
              go_wp2
              exact ⟨⟨i + 1, by omega, by go_num, by rw [Hfin.out]; rfl, below_drewN hbw.out _⟩, by simp [intOf] <;> omega⟩
        · have Hfin := Lib.hid (show Sto.best l name (i + 1) = Sto.best l name i from by rw [Hstep.out, if_neg (fun h => k2 h.2.1)])
          have k2 : (r.name.toList == name.toList) = false := by simpa using k2
          rw [k1] at b0
          clear k1
          go_quiet (fail)
          go_wp2
          exact ⟨⟨i + 1, by omega, by go_num, by rw [Hfin.out], below_drewN hbw.out _⟩, by simp [intOf] <;> omega⟩
      · have Hfin := Lib.hid (show Sto.best l name (i + 1) = Sto.best l name i from by rw [Hstep.out, if_neg (fun h => k1 h.1)])
        have k1 : r.is = false := by simpa using k1
        rw [k1] at b0
        clear k1
        go_quiet (fail)
        go_wp2
        exact ⟨⟨i + 1, by omega, by go_num, by rw [Hfin.out], below_drewN hbw.out _⟩, by simp [intOf] <;> omega⟩
    · obtain rfl : n = i := by omega
      go_wp2
      go_ret
      exact ⟨rfl, hb⟩
end Go.Proofs.YtbbojbdigiibbaaGreatDoor
end
section
namespace Go.Mem
open Go Go.RowKit Gf
def St.freeE (s : St) (i : Nat) : Int := s.disk.wres (i * (s.room + 1) : Nat) 1
def St.freeS (s : St) (i : Nat) : St := { s with disk := s.disk.wr (i * (s.room + 1) : Nat) [0], dead := s.dead || (s.freeE i != 0), recs := if s.freeE i = 0 then s.recs.set i Sto.Rec.free else s.recs }
def St.writeE (s : St) (i : Nat) (bs : List UInt8) : Int := s.disk.wres (i : Nat) bs.length
def St.writeS (s : St) (i : Nat) (bs : List UInt8) : St := { s with disk := s.disk.wr (i : Nat) bs, dead := s.dead || (s.writeE i bs != 0) }
theorem DiskS.wr_ge (s : DiskS) (i : Int) (bs : List UInt8) : s.writes ≤ (s.wr i bs).writes := by
  unfold DiskS.wr DiskS.write; split
  · split
    · exact Nat.le_refl _
    · exact Nat.le_succ _
  · exact Nat.le_refl _
theorem St.Ok.freeS {s : St} (h : s.Ok) (i : Nat) (hf : s.disk.writes < 72057594037927936) : (s.freeS i).Ok := by
  have hl : (s.freeS i).recs.length = s.recs.length := by unfold St.freeS; simp only; split <;> simp
  refine ⟨h.room1, h.room2, by rw [hl]; exact h.len1, by rw [hl]; exact h.len2, by rw [hl]; exact (DiskS.wr_n _ _ _).trans h.size, fun r hr => ?_, ?_⟩
  · have hw : s.disk.writes ≤ (s.freeS i).disk.writes := DiskS.wr_ge _ _ _
    have : r ∈ s.recs ∨ r = Sto.Rec.free := by
      unfold St.freeS at hr
      simp only at hr
      split at hr
      · rcases List.mem_or_eq_of_mem_set hr with h | h
        · exact .inl h
        · exact .inr h
      · exact .inl hr
    rcases this with h' | rfl
    · obtain ⟨a, b, c⟩ := h.each r h'
      exact ⟨a, b, by omega⟩
    · exact ⟨Nat.zero_le _, Nat.zero_le _, Nat.zero_le _⟩
  · have : (s.freeS i).disk.writes ≤ s.disk.writes + 1 := DiskS.wr_writes _ _ _
    omega
theorem St.Ok.writeS {s : St} (h : s.Ok) (i : Nat) (bs : List UInt8) (hf : s.disk.writes < 72057594037927936) : (s.writeS i bs).Ok := by
  refine ⟨h.room1, h.room2, h.len1, h.len2, (DiskS.wr_n _ _ _).trans h.size, fun r hr => ?_, ?_⟩
  · have hw : s.disk.writes ≤ (s.writeS i bs).disk.writes := DiskS.wr_ge _ _ _
    obtain ⟨a, b, c⟩ := h.each r hr
    exact ⟨a, b, by omega⟩
  · have : (s.writeS i bs).disk.writes ≤ s.disk.writes + 1 := DiskS.wr_writes _ _ _
    omega
end Go.Mem
namespace Go.Proofs.YtbbojbdigiibbaaGreatDoor
open Go Go.RowKit Go.Mem Gf
attribute [local go_sem ↓] Go.wp_at_zero Go.wp_at_succ
theorem chg4i (w : World) (g k : Nat) (u0 u1 u2 u3 : Value) : Chg (fun b => b = g) w ((((w.setCell ⟨g, k, none⟩ u0).setCell ⟨g, k + 1, none⟩ u1).setCell ⟨g, k + 2, none⟩ u2).setCell ⟨g, k + 3, none⟩ u3) := by
  refine Chg.set (S := fun b => b = g) ?_ (a := ⟨g, k + 3, none⟩) rfl u3
  refine Chg.set (S := fun b => b = g) ?_ (a := ⟨g, k + 2, none⟩) rfl u2
  refine Chg.set (S := fun b => b = g) ?_ (a := ⟨g, k + 1, none⟩) rfl u1
  exact Chg.set (S := fun b => b = g) (Chg.refl _ _) (a := ⟨g, k, none⟩) rfl u0
set_option maxRecDepth 20000 in
set_option maxHeartbeats 2000000 in
theorem free_at (N : Nat → Prop) (sb lb d L i : Nat) (s : St) (w : World) (h : IsStore w N sb lb d L s) (hi : i < s.recs.length) (hfew : s.disk.writes < 72057594037927936) :
    Calls Tryz.prog 86 #[.pointer (some ⟨sb, 0, none⟩), .int .i64 i] w fun e w' => e = .returned (.int .i64 (s.freeE i)) ∧ IsStore w' N sb lb d L (s.freeS i) ∧ Chg (Foot sb lb d L) w w' := by
  obtain ⟨lc, hS, hlc1, hlc2⟩ := h.blk
  have hD := h.disk
  have H := Lib.hid h
  have hne : sb ≠ d ∧ sb ≠ L := ⟨h.ne.2.1, h.ne.2.2.1⟩
  have hok := h.ok
  have hi2 : i ≤ 1024 := by have := hok.len2; omega
  have hr := hok.room2
  obtain ⟨room, hroom⟩ : ∃ r, r = s.room := ⟨_, rfl⟩
  obtain ⟨n, hn⟩ : ∃ n, n = s.recs.length := ⟨_, rfl⟩
  obtain ⟨D, hDD⟩ : ∃ D, D = s.disk := ⟨_, rfl⟩
  obtain ⟨dead, hdd⟩ : ∃ dd, dd = s.dead := ⟨_, rfl⟩
  have HzE := Lib.hid (show s.freeE i = D.wres (i * (room + 1) : Nat) 1 from by rw [hDD, hroom]; rfl)
  have HSS := Lib.hid (show s.freeS i = { s with disk := D.wr (i * (room + 1) : Nat) [0], dead := dead || (s.freeE i != 0), recs := if s.freeE i = 0 then s.recs.set i Sto.Rec.free else s.recs } from by rw [hDD, hroom, hdd]; rfl)
  have hfew' := hfew
  have Hfew := Lib.hid hfew'
  rw [← hroom, ← hn, ← hdd] at hS
  rw [← hDD] at hD hfew
  rw [← hroom] at hr
  rw [← hn] at hi hlc1
  have hw : D.writes < 4611686018427387904 := by omega
  have Hr := Lib.hid hroom; have Hn := Lib.hid hn; have HDD := Lib.hid hDD; have Hdd := Lib.hid hdd; have Hok := Lib.hid hok
  clear hroom hn hDD hdd h hok hfew' hfew
  generalize hla : (some ⟨lb, 0, none⟩ : Option Addr) = la at hS
  have Hla := Lib.hid hla
  clear hla
  obtain ⟨z, hz⟩ : ∃ z, z = D.wres (i * (room + 1) : Nat) 1 := ⟨_, rfl⟩
  have c0 : w.cell? ⟨sb, 0, none⟩ = some (.pointer (some ⟨d, 0, none⟩)) := by rw [hS.cell]; rfl
  have c1 : w.cell? ⟨sb, 1, none⟩ = some (.int .i64 room) := by rw [hS.cell]; rfl
  have d0 : (w.alloc (.cells #[.int .u8 0] 5)).cell? ⟨sb, 0, none⟩ = some (.pointer (some ⟨d, 0, none⟩)) := by rw [(hS.alloc _).cell]; rfl
  have d1 : (w.alloc (.cells #[.int .u8 0] 5)).cell? ⟨sb, 1, none⟩ = some (.int .i64 room) := by rw [(hS.alloc _).cell]; rfl
  have hb0 : Below w.heap.size w (w.alloc (.cells #[.int .u8 0] 5)).drew := below_drewN ((Below.refl _ _).alloc (Nat.le_refl _) _) 1
  have q1 : IntKind.i64.wrap ((room : Int) + 1) = (room : Int) + 1 := IntWalk.i64_in _ (by omega)
  have hm : i * (room + 1) ≤ 1024 * 1025 := Nat.mul_le_mul hi2 (by omega)
  have e2 : (i : Int) * ((room : Int) + 1) = ((i * (room + 1) : Nat) : Int) := by push_cast; rfl
  have q2 : IntKind.i64.wrap ((i : Int) * ((room : Int) + 1)) = (i : Int) * ((room : Int) + 1) := IntWalk.i64_in _ (by rw [e2]; omega)
  rw [HzE.out, ← hz]
  have HS := Lib.hid hS; have HD := Lib.hid hD; have Hz := Lib.hid hz; have E2 := Lib.hid e2; have Hb0 := Lib.hid hb0
  clear hS hD hz e2 hm hb0
  go_enter Tryz.func86, Tryz.ntmps86
  go_wp2_with fail
  go_region_held3 (fun w' => w'.cell? ⟨sb, 0, none⟩ = some (.pointer (some ⟨d, 0, none⟩)) ∧ w'.cell? ⟨sb, 1, none⟩ = some (.int .i64 room)) (first | exact ⟨c0, c1⟩ | exact ⟨d0, d1⟩ | assumption)
    (first
      | (go_at_call 137
         rw [E2.out]
         refine (dwrite_any d L D (i * (room + 1) : Nat) _ [0] _ (HD.out.below Hb0.out) (Bys.drewN (bys_one w 0 (.int .u8 0) rfl 5) 1) hw).mono ?_
         rintro e w2 ⟨rfl, hD2, hc2⟩
         have hS2 := hc2.blk (HS.out.kept Hb0.out) (fun h => by rcases h with h | h; exact hne.1 h; exact hne.2 h)
         have hh : w2.cell? ⟨sb, 0, none⟩ = some (.pointer (some ⟨d, 0, none⟩)) ∧ w2.cell? ⟨sb, 1, none⟩ = some (.int .i64 room) := ⟨hS2.cell 0, hS2.cell 1⟩
         rw [show ([0] : List UInt8).length = 1 from rfl, ← Hz.out]))
  have HS2 := Lib.hid hS2; have HD2 := Lib.hid hD2
  have HC2 := Lib.hid (show Chg (Tri sb d L) w w2 from (Chg.of_below Hb0.out).trans (hc2.mono fun b h => .inr h))
  have g2 : w2.cell? ⟨sb, 2, none⟩ = some (.slice la n lc) := hS2.cell 2
  have g3 : w2.cell? ⟨sb, 3, none⟩ = some (.bool dead) := hS2.cell 3
  have f3 := hS2.free 3
  clear hS2 hD2 hc2 hh q1 q2 c0 c1 d0 d1
  by_cases h0 : z = 0
  · subst h0
    have g2' : w2.cell? ⟨sb, 2, none⟩ = some (.slice (some ⟨lb, 0, none⟩) n lc) := by rw [Hla.out]; exact g2
    clear g2
    have hRec := (H.out.recs.chg (S := Tri sb d L) HC2.out (fun e => by rcases e with e | e | e; exact H.out.ne.1 e.symm; exact H.out.ne.2.2.2.1 e; exact H.out.ne.2.2.2.2 e) (fun b hb _ => H.out.foot b (by rcases hb with e | e | e; exact .inl e; exact .inr (.inr (.inl e)); exact .inr (.inr (.inr e)))))
    obtain ⟨r0, hr0⟩ : ∃ r, s.recs[i]? = some r := ⟨s.recs[i]'(by have := Hn.out; omega), by simp⟩
    obtain ⟨xa, xc, e0, e1, e2, e3, _, ef⟩ := hRec.at hr0
    have i0 : (0 : Int) ≤ (i : Int) := by omega
    have i1 : (i : Int) < (n : Int) := by omega
    have f0 := ef (i * 4); have f1 := ef (i * 4 + 1); have f2 := ef (i * 4 + 2); have f4 := ef (i * 4 + 3)
    have HREC := Lib.hid hRec
    have HX := Lib.hid hRec
    clear hRec hr0 ef
    go_wp2
    go_ret
    have hset := HREC.out.set (i := i) (by have := Hn.out; omega) Sto.Rec.free (.slice none 0 0) (H.out.foot lb (.inr (.inl rfl))) (DataAt.nil _ _)
    have hc5 : Chg (fun b => b = lb) w2 ((((w2.setCell ⟨lb, i * 4, none⟩ (.bool false)).setCell ⟨lb, i * 4 + 1, none⟩ (.string { data := #[] })).setCell ⟨lb, i * 4 + 2, none⟩ (.int .i64 0)).setCell ⟨lb, i * 4 + 3, none⟩ (.slice none 0 0)) := chg4i w2 lb (i * 4) _ _ _ _
    have hC : Chg (Foot sb lb d L) w ((((w2.setCell ⟨lb, i * 4, none⟩ (.bool false)).setCell ⟨lb, i * 4 + 1, none⟩ (.string { data := #[] })).setCell ⟨lb, i * 4 + 2, none⟩ (.int .i64 0)).setCell ⟨lb, i * 4 + 3, none⟩ (.slice none 0 0)) := (HC2.out.mono fun b hb => by rcases hb with e | e | e; exact .inl e; exact .inr (.inr (.inl e)); exact .inr (.inr (.inr e))).trans (hc5.mono fun b hb => .inr (.inl hb))
    have hE : s.freeE i = 0 := by rw [HzE.out, ← Hz.out]
    have hok := Hok.out.freeS i Hfew.out
    rw [HSS.out, hE] at hok ⊢
    rw [if_pos rfl] at hok ⊢
    have e0 : (dead || ((0 : Int) != 0)) = dead := by simp
    rw [e0] at hok ⊢
    refine ⟨rfl, ⟨⟨lc, ?_, by simp only [List.length_set]; have := Hn.out; omega, hlc2⟩, hset, HD2.out.chg hc5 (fun e => H.out.ne.2.2.2.1 e.symm) (fun e => H.out.ne.2.2.2.2 e.symm), H.out.tab.chg hC (fun e => H.out.ntab (H.out.foot _ e)), H.out.ntab, H.out.foot, H.out.ne, hok, fun b hb => Nat.lt_of_lt_of_le (H.out.old b hb) hC.size⟩, hC⟩
    simp only [List.length_set]
    rw [← Hn.out, ← Hr.out, Hla.out]
    exact hc5.blk HS2.out H.out.ne.1
  · have t0 : (z != 0) = true := by simpa using h0
    have hE : s.freeE i = z := by rw [HzE.out, ← Hz.out]
    have HE := Lib.hid hE; have H0 := Lib.hid h0
    clear h0 hE
    go_wp2
    go_ret
    have hc3 := chg1 w2 sb 3 (.bool true)
    have hC0 : Chg (Foot sb lb d L) w w2 := HC2.out.mono fun b hb => by rcases hb with e | e | e; exact .inl e; exact .inr (.inr (.inl e)); exact .inr (.inr (.inr e))
    have hC : Chg (Foot sb lb d L) w (w2.setCell ⟨sb, 3, none⟩ (.bool true)) := hC0.trans (hc3.mono fun b hb => .inl hb)
    have hok := Hok.out.freeS i Hfew.out
    rw [HSS.out, HE.out] at hok ⊢
    rw [if_neg H0.out, t0, Bool.or_true] at hok ⊢
    have hRec := (H.out.recs.chg (S := Tri sb d L) HC2.out (fun e => by rcases e with e | e | e; exact H.out.ne.1 e.symm; exact H.out.ne.2.2.2.1 e; exact H.out.ne.2.2.2.2 e) (fun b hb _ => H.out.foot b (by rcases hb with e | e | e; exact .inl e; exact .inr (.inr (.inl e)); exact .inr (.inr (.inr e))))).chg hc3 (fun e => H.out.ne.1 e.symm) (fun b hb _ => H.out.foot b (.inl hb))
    refine ⟨rfl, ⟨⟨lc, ?_, by have := Hn.out; simp only; omega, hlc2⟩, hRec, HD2.out.chg hc3 (fun e => hne.1 e.symm) (fun e => hne.2 e.symm), H.out.tab.chg hC (fun e => H.out.ntab (H.out.foot _ e)), H.out.ntab, H.out.foot, H.out.ne, hok, fun b hb => Nat.lt_of_lt_of_le (H.out.old b hb) hC.size⟩, hC⟩
    simp only
    rw [← Hn.out, ← Hr.out, Hla.out]
    exact HS2.out.set 3 (.bool true)
set_option maxRecDepth 20000 in
set_option maxHeartbeats 2000000 in
theorem write_calls (N : Nat → Prop) (sb lb d L i : Nat) (s : St) (v : Value) (bs : List UInt8) (w : World) (h : IsStore w N sb lb d L s) (hb : Bys w v bs) (hfew : s.disk.writes < 72057594037927936) :
    Calls Tryz.prog 113 #[.pointer (some ⟨sb, 0, none⟩), .int .i64 i, v] w fun e w' => e = .returned (.int .i64 (s.writeE i bs)) ∧ IsStore w' N sb lb d L (s.writeS i bs) ∧ Chg (Foot sb lb d L) w w' := by
  obtain ⟨lc, hS, hlc1, hlc2⟩ := h.blk
  have c0 : w.cell? ⟨sb, 0, none⟩ = some (.pointer (some ⟨d, 0, none⟩)) := hS.cell 0
  have H := Lib.hid h; have HS := Lib.hid hS; have HB := Lib.hid hb; have Hfew := Lib.hid hfew; have Hl1 := Lib.hid hlc1
  obtain ⟨z, hz⟩ : ∃ z, z = s.writeE i bs := ⟨_, rfl⟩
  have Hz := Lib.hid hz
  rw [← hz]
  clear hz h hS hb hfew hlc1
  go_enter Tryz.func113, Tryz.ntmps113
  go_wp2_with fail
  refine (dwrite_any d L s.disk i v bs w H.out.disk HB.out (by have := Hfew.out; omega)).mono ?_
  rintro e w2 ⟨rfl, hD2, hc2⟩
  rw [show s.disk.wres (i : Nat) bs.length = z from Hz.out.symm]
  have hS2 := hc2.blk HS.out (fun e => by rcases e with e | e; exact H.out.ne.2.1 e; exact H.out.ne.2.2.1 e)
  have hR2 := H.out.recs.chg hc2 (fun e => by rcases e with e | e; exact H.out.ne.2.2.2.1 e; exact H.out.ne.2.2.2.2 e) (fun b hb _ => H.out.foot b (.inr (.inr hb)))
  have hC := hc2.mono (T := Foot sb lb d L) fun b hb => .inr (.inr hb)
  have g3 : w2.cell? ⟨sb, 3, none⟩ = some (.bool s.dead) := hS2.cell 3
  have f3 := hS2.free 3
  have HS2 := Lib.hid hS2; have HR2 := Lib.hid hR2; have HC := Lib.hid hC; have HD2 := Lib.hid hD2
  clear hS2 hR2 hC hD2 hc2
  have hok := Lib.hid (H.out.ok.writeS i bs Hfew.out)
  have HSS := Lib.hid (show s.writeS i bs = { s with disk := s.disk.wr (i : Nat) bs, dead := s.dead || (z != 0) } from by rw [Hz.out]; rfl)
  by_cases h0 : z = 0
  · subst h0
    have HT := Lib.hid (show ((0 : Int) != 0) = false from by simp)
    go_wp2
    go_ret
    rw [HSS.out]
    have hok := hok.out
    rw [HSS.out, HT.out, Bool.or_false] at hok
    rw [HT.out, Bool.or_false]
    exact ⟨rfl, ⟨⟨lc, HS2.out, Hl1.out, hlc2⟩, HR2.out, HD2.out, H.out.tab.chg HC.out (fun e => H.out.ntab (H.out.foot _ e)), H.out.ntab, H.out.foot, H.out.ne, hok, fun b hb => Nat.lt_of_lt_of_le (H.out.old b hb) HC.out.size⟩, HC.out⟩
  · have t0 : (z != 0) = true := by simpa using h0
    clear h0
    go_wp2
    go_ret
    rw [HSS.out]
    have hok := hok.out
    rw [HSS.out, t0, Bool.or_true] at hok
    rw [t0, Bool.or_true]
    have hc3 := chg1 w2 sb 3 (.bool true)
    have hC := HC.out.trans (hc3.mono (T := Foot sb lb d L) fun b hb => .inl hb)
    exact ⟨rfl, ⟨⟨lc, HS2.out.set 3 (.bool true), Hl1.out, hlc2⟩, HR2.out.chg hc3 (fun e => H.out.ne.1 e.symm) (fun b hb _ => H.out.foot b (.inl hb)), HD2.out.chg hc3 (fun e => H.out.ne.2.1 e.symm) (fun e => H.out.ne.2.2.1 e.symm), H.out.tab.chg hC (fun e => H.out.ntab (H.out.foot _ e)), H.out.ntab, H.out.foot, H.out.ne, hok, fun b hb => Nat.lt_of_lt_of_le (H.out.old b hb) hC.size⟩, hC⟩
end Go.Proofs.YtbbojbdigiibbaaGreatDoor
end
section
namespace Go.Mem
open Go Go.RowKit Gf
def freeK (l : List Sto.Rec) : Nat → Nat
  | 0 => 0
  | k + 1 => match l[k]? with
    | none => freeK l k
    | some r => if r.is = false then freeK l k + 1 else freeK l k
theorem freeK_le (l : List Sto.Rec) : ∀ k, freeK l k ≤ k
  | 0 => Nat.le_refl _
  | k + 1 => by
    have := freeK_le l k
    simp only [freeK]
    split
    · omega
    · split <;> omega
def St.freeN (s : St) : Nat := if s.dead = true then 0 else freeK s.recs s.recs.length
end Go.Mem
namespace Go.Proofs.YtbbojbdigiibbaaGreatDoor
open Go Go.RowKit Go.Mem Gf
attribute [local go_sem ↓] Go.wp_at_zero Go.wp_at_succ
set_option maxRecDepth 100000 in
theorem in_calls (n : Int) (b : Bool) (w : World) (hb : decide (1 ≤ n ∧ n ≤ 1024) = b) :
    Calls Tryz.prog 82 #[.int .i64 n] w fun e w' => e = .returned (.bool b) ∧ w = w' := by
  have H := Lib.hid hb
  clear hb
  by_cases h1 : 1 ≤ n
  · by_cases h2 : n ≤ 1024
    · obtain rfl : b = true := by rw [← H.out]; exact decide_eq_true ⟨h1, h2⟩
      clear H
      go_enter Tryz.func82, Tryz.ntmps82
      go_wp2
      go_ret
      exact ⟨rfl, rfl⟩
    · obtain rfl : b = false := by rw [← H.out]; exact decide_eq_false (fun h => h2 h.2)
      clear H
      go_enter Tryz.func82, Tryz.ntmps82
      go_wp2
      go_ret
      exact ⟨rfl, rfl⟩
  · obtain rfl : b = false := by rw [← H.out]; exact decide_eq_false (fun h => h1 h.1)
    clear H
    go_enter Tryz.func82, Tryz.ntmps82
    go_wp2
    go_ret
    exact ⟨rfl, rfl⟩
set_option maxRecDepth 20000 in
set_option maxHeartbeats 2000000 in
theorem sfree_calls (N : Nat → Prop) (sb lb d L : Nat) (s : St) (w : World) (h : IsStore w N sb lb d L s) :
    Calls Tryz.prog 42 #[.pointer (some ⟨sb, 0, none⟩)] w fun e w' => e = .returned (.int .i64 (s.freeN : Nat)) ∧ Below w.heap.size w w' := by
  obtain ⟨lc, hS, hlc1, hlc2⟩ := h.blk
  have hl2 := h.ok.len2
  have H := Lib.hid h; have HS := Lib.hid hS
  obtain ⟨n, hnn⟩ : ∃ n, n = s.recs.length := ⟨_, rfl⟩
  have c2 : w.cell? ⟨sb, 2, none⟩ = some (.slice (some ⟨lb, 0, none⟩) n lc) := by rw [hnn]; exact hS.cell 2
  rw [← hnn] at hlc1 hl2
  have Hn := Lib.hid hnn
  obtain ⟨dead, hdd⟩ : ∃ x, x = s.dead := ⟨_, rfl⟩
  have Hdd := Lib.hid hdd
  have HF := Lib.hid (show s.freeN = if dead = true then 0 else freeK s.recs n from by unfold St.freeN; rw [hdd, hnn])
  obtain ⟨m, hm⟩ : ∃ m, m = s.freeN := ⟨_, rfl⟩
  rw [← hm] at HF ⊢
  clear h hS hnn hdd hm
  go_enter Tryz.func42, Tryz.ntmps42
  go_wp2_with fail
  go_loopw [3, 11] (fun u v wr => ∃ i : Nat, i ≤ n ∧ v = .int .i64 i ∧ u = .int .i64 ((if dead = true then 0 else freeK s.recs i : Nat) : Int) ∧ Below w.heap.size w wr) (fun _ v _ => n - (intOf v).toNat)
  case atStart => exact ⟨0, by omega, rfl, by cases dead <;> rfl, Below.refl _ _⟩
  case round =>
    obtain ⟨i, hi, rfl, rfl, hb⟩ := hrel
    by_cases h0 : i < n
    · obtain ⟨r, hr⟩ : ∃ r, s.recs[i]? = some r := ⟨s.recs[i]'(by have := Hn.out; omega), by simp⟩
      obtain ⟨a, c, c3, c4, c5, c6, _, _⟩ := (H.out.recs.below hb).at hr
      have i0 : (0 : Int) ≤ (i : Int) := by omega
      have i1 : (i : Int) < (n : Int) := by omega
      have hle := freeK_le s.recs i
      have Hst := Lib.hid (show freeK s.recs (i + 1) = if r.is = false then freeK s.recs i + 1 else freeK s.recs i from by rw [freeK, hr])
      obtain ⟨q, hq⟩ : ∃ q, q = freeK s.recs i := ⟨_, rfl⟩
      rw [← hq] at hle ⊢
      have Hq := Lib.hid hq
      have d3 : ∀ o, (wr.alloc o).cell? ⟨sb, 3, none⟩ = some (.bool dead) := fun o => by rw [Hdd.out]; exact ((HS.out.kept hb).alloc o).cell 3
      have hbo : ∀ o, Below w.heap.size w (wr.alloc o) := fun o => hb.alloc hb.size o
      have HBO := Lib.hid hbo
      clear hr hq hbo
      cases dead with
      | true =>
        simp only [if_true]
        by_cases k1 : r.is = true
        · rw [k1] at c3
          go_wp2
          exact ⟨⟨i + 1, by omega, by go_num, rfl, HBO.out _⟩, by simp [intOf] <;> omega⟩
        · have k1 : r.is = false := by simpa using k1
          rw [k1] at c3
          go_wp2
          exact ⟨⟨i + 1, by omega, by go_num, rfl, HBO.out _⟩, by simp [intOf] <;> omega⟩
      | false =>
        simp only [Bool.false_eq_true, if_false]
        by_cases k1 : r.is = true
        · have Hs2 := Lib.hid (show freeK s.recs (i + 1) = q from by rw [Hst.out, if_neg (by rw [k1]; decide), Hq.out])
          rw [k1] at c3
          clear k1
          go_wp2
          exact ⟨⟨i + 1, by omega, by go_num, by rw [Hs2.out] <;> rfl, HBO.out _⟩, by simp [intOf] <;> omega⟩
        · have k1 : r.is = false := by simpa using k1
          have Hs2 := Lib.hid (show freeK s.recs (i + 1) = q + 1 from by rw [Hst.out, if_pos k1, Hq.out])
          rw [k1] at c3
          clear k1
          go_wp2
          exact ⟨⟨i + 1, by omega, by go_num, by rw [Hs2.out] <;> rfl, HBO.out _⟩, by simp [intOf] <;> omega⟩
    · obtain rfl : n = i := by omega
      have HF2 := Lib.hid (show (((if dead = true then 0 else freeK s.recs n : Nat)) : Int) = (m : Int) from by rw [HF.out])
      have HB := Lib.hid hb
      obtain ⟨z, hz⟩ : ∃ z : Int, z = (((if dead = true then 0 else freeK s.recs n : Nat)) : Int) := ⟨_, rfl⟩
      rw [← hz] at HF2 ⊢
      clear hz hb
      go_wp2
      go_ret
      exact ⟨by rw [HF2.out] <;> rfl, HB.out⟩
end Go.Proofs.YtbbojbdigiibbaaGreatDoor
end
section
namespace Go.Mem
open Go Go.RowKit Gf
def namesK (l : List Sto.Rec) : Nat → List (List UInt8)
  | 0 => []
  | k + 1 => match l[k]? with
    | none => namesK l k
    | some r => if r.is = true then namesK l k ++ [r.name.data.toList] else namesK l k
end Go.Mem
namespace Go.Proofs.YtbbojbdigiibbaaGreatDoor
open Go Go.RowKit Go.Mem Gf Go.Sort
attribute [local go_sem ↓] Go.wp_at_zero Go.wp_at_succ
end Go.Proofs.YtbbojbdigiibbaaGreatDoor
end
section
namespace Go.Mem
open Go Go.RowKit Gf
def readAll (room : Nat) (D : DiskS) : Nat → List Sto.Rec × Int × DiskS
  | 0 => ([], 0, D)
  | k + 1 =>
    let p := readAll room D k
    if p.2.1 ≠ 0 then p else
      let q := Go.Proofs.YtbbojbdigiibbaaGreatDoor.readR p.2.2 room k
      let D' := if q.2.2 = true then p.2.2.wr (k * (room + 1) : Nat) [0] else p.2.2
      if q.2.1 ≠ 0 then (p.1, q.2.1, D') else (p.1 ++ [q.1], 0, D')
theorem readAll_len (room : Nat) (D : DiskS) : ∀ k, (readAll room D k).2.1 = 0 → (readAll room D k).1.length = k
  | 0, _ => rfl
  | k + 1, h => by
    rw [readAll] at h ⊢
    by_cases h0 : (readAll room D k).2.1 = 0
    · have ih := readAll_len room D k h0
      simp only [h0, ne_eq, not_true_eq_false, if_false] at h ⊢
      split at h
      · rename_i h1
        exact absurd h h1
      · rename_i h1
        rw [if_neg h1, List.length_append, ih]
        rfl
    · simp only [ne_eq, h0, not_false_eq_true, if_true] at h
theorem readAll_err (room : Nat) (D : DiskS) {k : Nat} (h : (readAll room D k).2.1 ≠ 0) : ∀ m, readAll room D (k + m) = readAll room D k
  | 0 => rfl
  | m + 1 => by
    have ih := readAll_err room D h m
    rw [Nat.add_succ, readAll, ih]
    simp only [ne_eq, h, not_false_eq_true, if_true]
def keepBest (s : St) : Nat → Int × St
  | 0 => (0, s)
  | k + 1 =>
    let p := keepBest s k
    if p.1 ≠ 0 then p else
      match p.2.recs[k]? with
      | none => p
      | some r => if r.is = true ∧ Sto.best p.2.recs r.name p.2.recs.length ≠ some k then (p.2.freeE k, p.2.freeS k) else p
theorem keepBest_err (s : St) {k : Nat} (h : (keepBest s k).1 ≠ 0) : ∀ m, keepBest s (k + m) = keepBest s k
  | 0 => rfl
  | m + 1 => by
    have ih := keepBest_err s h m
    rw [Nat.add_succ, keepBest, ih]
    simp only [ne_eq, h, not_false_eq_true, if_true]
theorem freeS_len (s : St) (i : Nat) : (s.freeS i).recs.length = s.recs.length ∧ (s.freeS i).room = s.room := by
  refine ⟨?_, rfl⟩
  simp only [St.freeS]
  split
  · exact List.length_set
  · rfl
theorem keepBest_len (s : St) : ∀ k, (keepBest s k).2.recs.length = s.recs.length ∧ (keepBest s k).2.room = s.room
  | 0 => ⟨rfl, rfl⟩
  | k + 1 => by
    have ih := keepBest_len s k
    rw [keepBest]
    by_cases h0 : (keepBest s k).1 = 0
    · simp only [h0, ne_eq, not_true_eq_false, if_false]
      split
      · exact ih
      · split
        · exact ⟨(freeS_len _ _).1.trans ih.1, (freeS_len _ _).2.trans ih.2⟩
        · exact ih
    · simp only [ne_eq, h0, not_false_eq_true, if_true]
      exact ih
def openR (D : DiskS) (slots room : Nat) : Int × DiskS × Option St :=
  let p := readAll room D slots
  if p.2.1 ≠ 0 then (p.2.1, p.2.2, none) else
    let q := keepBest ⟨room, p.1, false, p.2.2⟩ slots
    if q.1 ≠ 0 then (q.1, q.2.disk, none) else (0, q.2.disk, some q.2)
end Go.Mem
namespace Go.Mem
open Go Go.RowKit Gf Go.Proofs.YtbbojbdigiibbaaGreatDoor
theorem takeNet_le {b x r : List UInt8} (h : Cod.takeNet b = some (x, r)) : x.length ≤ b.length ∧ r.length ≤ b.length := by
  unfold Cod.takeNet at h
  split at h
  · cases h
  · split at h
    · cases h
    · simp only [Option.some.injEq, Prod.mk.injEq] at h
      obtain ⟨rfl, rfl⟩ := h
      simp only [List.length_take, List.length_drop]
      omega
theorem takeN_le : ∀ (k : Nat) (b : List UInt8) (xs : List (List UInt8)) (r : List UInt8), Sto.takeN k b = some (xs, r) → (∀ x ∈ xs, x.length ≤ b.length) ∧ r.length ≤ b.length
  | 0, b, xs, r, h => by
    simp [Sto.takeN] at h
    obtain ⟨rfl, rfl⟩ := h
    exact ⟨fun x hx => by simp at hx, Nat.le_refl _⟩
  | k + 1, b, xs, r, h => by
    simp only [Sto.takeN] at h
    split at h
    · cases h
    · rename_i xs' r' h'
      split at h
      · cases h
      · rename_i x r'' h''
        simp only [Option.some.injEq, Prod.mk.injEq] at h
        obtain ⟨rfl, rfl⟩ := h
        have ih := takeN_le k b xs' r' h'
        have h2 := takeNet_le h''
        refine ⟨fun y hy => ?_, Nat.le_trans h2.2 ih.2⟩
        rcases List.mem_append.1 hy with hy | hy
        · exact ih.1 y hy
        · simp only [List.mem_singleton] at hy
          subst hy
          exact Nat.le_trans h2.1 ih.2
theorem getD_le {xs : List (List UInt8)} {m : Nat} (h : ∀ x ∈ xs, x.length ≤ m) (i : Nat) : (xs.getD i []).length ≤ m := by
  rw [List.getD_eq_getElem?_getD]
  cases hx : xs[i]? with
  | none => exact Nat.zero_le _
  | some x => exact h x (List.mem_of_getElem? hx)
theorem parse_le {b : List UInt8} {r : Sto.Rec} (h : Sto.parse b = some r) : r.name.size ≤ b.length ∧ r.data.length ≤ b.length ∧ r.num ≤ 72057594037927936 := by
  unfold Sto.parse at h
  split at h
  · cases h
  · rename_i xs r' h'
    split at h
    · rename_i h4
      simp only [Option.some.injEq] at h
      subst h
      have ih := (takeN_le 3 b xs r' h').1
      exact ⟨getD_le ih 0, getD_le ih 2, by have := Cod.getN_lt (xs.getD 1 []) (by omega); simp only; omega⟩
    · cases h
def Small (m : Nat) (r : Sto.Rec) : Prop := r.name.size ≤ m ∧ r.data.length ≤ m ∧ r.num ≤ 72057594037927936
theorem small_free (m : Nat) : Small m Sto.Rec.free := ⟨Nat.zero_le _, Nat.zero_le _, Nat.zero_le _⟩
theorem readR_small (D : DiskS) (room i : Nat) : Small (room * 32) (readR D room i).1 := by
  unfold readR
  split
  · exact small_free _
  · split
    · exact small_free _
    · split
      · rename_i r h
        have := parse_le h
        rw [slotB_len] at this
        exact this
      · exact small_free _
theorem readAll_small (room : Nat) (D : DiskS) : ∀ k, ∀ r ∈ (readAll room D k).1, Small (room * 32) r
  | 0, r, h => by simp [readAll] at h
  | k + 1, r, h => by
    have ih := readAll_small room D k
    rw [readAll] at h
    simp only at h
    split at h
    · exact ih r h
    · split at h
      · exact ih r h
      · rcases List.mem_append.1 h with h | h
        · exact ih r h
        · simp only [List.mem_singleton] at h
          subst h
          exact readR_small _ _ _
theorem readAll_n (room : Nat) (D : DiskS) : ∀ k, (readAll room D k).2.2.n = D.n
  | 0 => rfl
  | k + 1 => by
    have ih := readAll_n room D k
    rw [readAll]
    simp only
    split
    · exact ih
    · split
      · simp only
        split
        · exact (DiskS.wr_n _ _ _).trans ih
        · exact ih
      · simp only
        split
        · exact (DiskS.wr_n _ _ _).trans ih
        · exact ih
end Go.Mem
end
