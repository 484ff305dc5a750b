/- Walks of the store: a slot is freed in place, a sector is written, a record's bytes. -/
import Derived.Test.YtmeegdicnfgjfaaDoorStoreBest
namespace Go.Mem
open Go Go.RowKit Gf
/-- a slot is freed: the answer, and the store behind it -/
def St.freeE (s : St) (i : Nat) : Int := s.disk.wres (i * (s.room + 1) : Nat) 1
def St.freeS (s : St) (i : Nat) : St := { s with disk := s.disk.wr (i * (s.room + 1) : Nat) [0], dead := s.dead || (s.freeE i != 0), recs := if s.freeE i = 0 then s.recs.set i Sto.Rec.free else s.recs }
/-- a sector is written -/
def St.writeE (s : St) (i : Nat) (bs : List UInt8) : Int := s.disk.wres (i : Nat) bs.length
def St.writeS (s : St) (i : Nat) (bs : List UInt8) : St := { s with disk := s.disk.wr (i : Nat) bs, dead := s.dead || (s.writeE i bs != 0) }
theorem DiskS.wr_ge (s : DiskS) (i : Int) (bs : List UInt8) : s.writes ≤ (s.wr i bs).writes := by
  unfold DiskS.wr DiskS.write; split
  · split
    · exact Nat.le_refl _
    · exact Nat.le_succ _
  · exact Nat.le_refl _
theorem St.Ok.freeS {s : St} (h : s.Ok) (i : Nat) (hf : s.disk.writes < 72057594037927936) : (s.freeS i).Ok := by
  have hl : (s.freeS i).recs.length = s.recs.length := by unfold St.freeS; simp only; split <;> simp
  refine ⟨h.room1, h.room2, by rw [hl]; exact h.len1, by rw [hl]; exact h.len2, by rw [hl]; exact (DiskS.wr_n _ _ _).trans h.size, fun r hr => ?_, ?_⟩
  · have hw : s.disk.writes ≤ (s.freeS i).disk.writes := DiskS.wr_ge _ _ _
    have : r ∈ s.recs ∨ r = Sto.Rec.free := by
      unfold St.freeS at hr
      simp only at hr
      split at hr
      · rcases List.mem_or_eq_of_mem_set hr with h | h
        · exact .inl h
        · exact .inr h
      · exact .inl hr
    rcases this with h' | rfl
    · obtain ⟨a, b, c⟩ := h.each r h'
      exact ⟨a, b, by omega⟩
    · exact ⟨Nat.zero_le _, Nat.zero_le _, Nat.zero_le _⟩
  · have : (s.freeS i).disk.writes ≤ s.disk.writes + 1 := DiskS.wr_writes _ _ _
    omega
theorem St.Ok.writeS {s : St} (h : s.Ok) (i : Nat) (bs : List UInt8) (hf : s.disk.writes < 72057594037927936) : (s.writeS i bs).Ok := by
  refine ⟨h.room1, h.room2, h.len1, h.len2, (DiskS.wr_n _ _ _).trans h.size, fun r hr => ?_, ?_⟩
  · have hw : s.disk.writes ≤ (s.writeS i bs).disk.writes := DiskS.wr_ge _ _ _
    obtain ⟨a, b, c⟩ := h.each r hr
    exact ⟨a, b, by omega⟩
  · have : (s.writeS i bs).disk.writes ≤ s.disk.writes + 1 := DiskS.wr_writes _ _ _
    omega
end Go.Mem
namespace Go.Proofs.YtmeegdicnfgjfaaDoor
open Go Go.RowKit Go.Mem Gf
attribute [local go_sem ↓] Go.wp_at_zero Go.wp_at_succ
theorem chg4i (w : World) (g k : Nat) (u0 u1 u2 u3 : Value) : Chg (fun b => b = g) w ((((w.setCell ⟨g, k, none⟩ u0).setCell ⟨g, k + 1, none⟩ u1).setCell ⟨g, k + 2, none⟩ u2).setCell ⟨g, k + 3, none⟩ u3) := by
  refine Chg.set (S := fun b => b = g) ?_ (a := ⟨g, k + 3, none⟩) rfl u3
  refine Chg.set (S := fun b => b = g) ?_ (a := ⟨g, k + 2, none⟩) rfl u2
  refine Chg.set (S := fun b => b = g) ?_ (a := ⟨g, k + 1, none⟩) rfl u1
  exact Chg.set (S := fun b => b = g) (Chg.refl _ _) (a := ⟨g, k, none⟩) rfl u0
set_option maxRecDepth 20000 in
set_option maxHeartbeats 2000000 in
theorem free_at (N : Nat → Prop) (sb lb d L i : Nat) (s : St) (w : World) (h : IsStore w N sb lb d L s) (hi : i < s.recs.length) (hfew : s.disk.writes < 72057594037927936) :
    Calls Tryd.prog 36 #[.pointer (some ⟨sb, 0, none⟩), .int .i64 i] w fun e w' => e = .returned (.int .i64 (s.freeE i)) ∧ IsStore w' N sb lb d L (s.freeS i) ∧ Chg (Foot sb lb d L) w w' := by
  obtain ⟨lc, hS, hlc1, hlc2⟩ := h.blk
  have hD := h.disk
  have H := Lib.hid h
  have hne : sb ≠ d ∧ sb ≠ L := ⟨h.ne.2.1, h.ne.2.2.1⟩
  have hok := h.ok
  have hi2 : i ≤ 1024 := by have := hok.len2; omega
  have hr := hok.room2
  obtain ⟨room, hroom⟩ : ∃ r, r = s.room := ⟨_, rfl⟩
  obtain ⟨n, hn⟩ : ∃ n, n = s.recs.length := ⟨_, rfl⟩
  obtain ⟨D, hDD⟩ : ∃ D, D = s.disk := ⟨_, rfl⟩
  obtain ⟨dead, hdd⟩ : ∃ dd, dd = s.dead := ⟨_, rfl⟩
  have HzE := Lib.hid (show s.freeE i = D.wres (i * (room + 1) : Nat) 1 from by rw [hDD, hroom]; rfl)
  have HSS := Lib.hid (show s.freeS i = { s with disk := D.wr (i * (room + 1) : Nat) [0], dead := dead || (s.freeE i != 0), recs := if s.freeE i = 0 then s.recs.set i Sto.Rec.free else s.recs } from by rw [hDD, hroom, hdd]; rfl)
  have hfew' := hfew
  have Hfew := Lib.hid hfew'
  rw [← hroom, ← hn, ← hdd] at hS
  rw [← hDD] at hD hfew
  rw [← hroom] at hr
  rw [← hn] at hi hlc1
  have hw : D.writes < 4611686018427387904 := by omega
  have Hr := Lib.hid hroom; have Hn := Lib.hid hn; have HDD := Lib.hid hDD; have Hdd := Lib.hid hdd; have Hok := Lib.hid hok
  clear hroom hn hDD hdd h hok hfew' hfew
  generalize hla : (some ⟨lb, 0, none⟩ : Option Addr) = la at hS
  have Hla := Lib.hid hla
  clear hla
  obtain ⟨z, hz⟩ : ∃ z, z = D.wres (i * (room + 1) : Nat) 1 := ⟨_, rfl⟩
  have c0 : w.cell? ⟨sb, 0, none⟩ = some (.pointer (some ⟨d, 0, none⟩)) := by rw [hS.cell]; rfl
  have c1 : w.cell? ⟨sb, 1, none⟩ = some (.int .i64 room) := by rw [hS.cell]; rfl
  have d0 : (w.alloc (.cells #[.int .u8 0] 5)).cell? ⟨sb, 0, none⟩ = some (.pointer (some ⟨d, 0, none⟩)) := by rw [(hS.alloc _).cell]; rfl
  have d1 : (w.alloc (.cells #[.int .u8 0] 5)).cell? ⟨sb, 1, none⟩ = some (.int .i64 room) := by rw [(hS.alloc _).cell]; rfl
  have hb0 : Below w.heap.size w (w.alloc (.cells #[.int .u8 0] 5)).drew := below_drewN ((Below.refl _ _).alloc (Nat.le_refl _) _) 1
  have q1 : IntKind.i64.wrap ((room : Int) + 1) = (room : Int) + 1 := IntWalk.i64_in _ (by omega)
  have hm : i * (room + 1) ≤ 1024 * 1025 := Nat.mul_le_mul hi2 (by omega)
  have e2 : (i : Int) * ((room : Int) + 1) = ((i * (room + 1) : Nat) : Int) := by push_cast; rfl
  have q2 : IntKind.i64.wrap ((i : Int) * ((room : Int) + 1)) = (i : Int) * ((room : Int) + 1) := IntWalk.i64_in _ (by rw [e2]; omega)
  rw [HzE.out, ← hz]
  have HS := Lib.hid hS; have HD := Lib.hid hD; have Hz := Lib.hid hz; have E2 := Lib.hid e2; have Hb0 := Lib.hid hb0
  clear hS hD hz e2 hm hb0
  go_enter Tryd.func36, Tryd.ntmps36
  go_wp2_with fail
  go_region_held3 (fun w' => w'.cell? ⟨sb, 0, none⟩ = some (.pointer (some ⟨d, 0, none⟩)) ∧ w'.cell? ⟨sb, 1, none⟩ = some (.int .i64 room)) (first | exact ⟨c0, c1⟩ | exact ⟨d0, d1⟩ | assumption)
    (first
      | (go_at_call 24
         rw [E2.out]
         refine (dwrite_any d L D (i * (room + 1) : Nat) _ [0] _ (HD.out.below Hb0.out) (Bys.drewN (bys_one w 0 (.int .u8 0) rfl 5) 1) hw).mono ?_
         rintro e w2 ⟨rfl, hD2, hc2⟩
         have hS2 := hc2.blk (HS.out.kept Hb0.out) (fun h => by rcases h with h | h; exact hne.1 h; exact hne.2 h)
         have hh : w2.cell? ⟨sb, 0, none⟩ = some (.pointer (some ⟨d, 0, none⟩)) ∧ w2.cell? ⟨sb, 1, none⟩ = some (.int .i64 room) := ⟨hS2.cell 0, hS2.cell 1⟩
         rw [show ([0] : List UInt8).length = 1 from rfl, ← Hz.out]))
  have HS2 := Lib.hid hS2; have HD2 := Lib.hid hD2
  have HC2 := Lib.hid (show Chg (Tri sb d L) w w2 from (Chg.of_below Hb0.out).trans (hc2.mono fun b h => .inr h))
  have g2 : w2.cell? ⟨sb, 2, none⟩ = some (.slice la n lc) := hS2.cell 2
  have g3 : w2.cell? ⟨sb, 3, none⟩ = some (.bool dead) := hS2.cell 3
  have f3 := hS2.free 3
  clear hS2 hD2 hc2 hh q1 q2 c0 c1 d0 d1
  by_cases h0 : z = 0
  · subst h0
    have g2' : w2.cell? ⟨sb, 2, none⟩ = some (.slice (some ⟨lb, 0, none⟩) n lc) := by rw [Hla.out]; exact g2
    clear g2
    have hRec := (H.out.recs.chg (S := Tri sb d L) HC2.out (fun e => by rcases e with e | e | e; exact H.out.ne.1 e.symm; exact H.out.ne.2.2.2.1 e; exact H.out.ne.2.2.2.2 e) (fun b hb _ => H.out.foot b (by rcases hb with e | e | e; exact .inl e; exact .inr (.inr (.inl e)); exact .inr (.inr (.inr e)))))
    obtain ⟨r0, hr0⟩ : ∃ r, s.recs[i]? = some r := ⟨s.recs[i]'(by have := Hn.out; omega), by simp⟩
    obtain ⟨xa, xc, e0, e1, e2, e3, _, ef⟩ := hRec.at hr0
    have i0 : (0 : Int) ≤ (i : Int) := by omega
    have i1 : (i : Int) < (n : Int) := by omega
    have f0 := ef (i * 4); have f1 := ef (i * 4 + 1); have f2 := ef (i * 4 + 2); have f4 := ef (i * 4 + 3)
    have HREC := Lib.hid hRec
    have HX := Lib.hid hRec
    clear hRec hr0 ef
    go_wp2
    go_ret
    have hset := HREC.out.set (i := i) (by have := Hn.out; omega) Sto.Rec.free (.slice none 0 0) (H.out.foot lb (.inr (.inl rfl))) (DataAt.nil _ _)
    have hc5 : Chg (fun b => b = lb) w2 ((((w2.setCell ⟨lb, i * 4, none⟩ (.bool false)).setCell ⟨lb, i * 4 + 1, none⟩ (.string { data := #[] })).setCell ⟨lb, i * 4 + 2, none⟩ (.int .i64 0)).setCell ⟨lb, i * 4 + 3, none⟩ (.slice none 0 0)) := chg4i w2 lb (i * 4) _ _ _ _
    have hC : Chg (Foot sb lb d L) w ((((w2.setCell ⟨lb, i * 4, none⟩ (.bool false)).setCell ⟨lb, i * 4 + 1, none⟩ (.string { data := #[] })).setCell ⟨lb, i * 4 + 2, none⟩ (.int .i64 0)).setCell ⟨lb, i * 4 + 3, none⟩ (.slice none 0 0)) := (HC2.out.mono fun b hb => by rcases hb with e | e | e; exact .inl e; exact .inr (.inr (.inl e)); exact .inr (.inr (.inr e))).trans (hc5.mono fun b hb => .inr (.inl hb))
    have hE : s.freeE i = 0 := by rw [HzE.out, ← Hz.out]
    have hok := Hok.out.freeS i Hfew.out
    rw [HSS.out, hE] at hok ⊢
    rw [if_pos rfl] at hok ⊢
    have e0 : (dead || ((0 : Int) != 0)) = dead := by simp
    rw [e0] at hok ⊢
    refine ⟨rfl, ⟨⟨lc, ?_, by simp only [List.length_set]; have := Hn.out; omega, hlc2⟩, hset, HD2.out.chg hc5 (fun e => H.out.ne.2.2.2.1 e.symm) (fun e => H.out.ne.2.2.2.2 e.symm), H.out.tab.chg hC (fun e => H.out.ntab (H.out.foot _ e)), H.out.ntab, H.out.foot, H.out.ne, hok, fun b hb => Nat.lt_of_lt_of_le (H.out.old b hb) hC.size⟩, hC⟩
    simp only [List.length_set]
    rw [← Hn.out, ← Hr.out, Hla.out]
    exact hc5.blk HS2.out H.out.ne.1
  · have t0 : (z != 0) = true := by simpa using h0
    have hE : s.freeE i = z := by rw [HzE.out, ← Hz.out]
    have HE := Lib.hid hE; have H0 := Lib.hid h0
    clear h0 hE
    go_wp2
    go_ret
    have hc3 := chg1 w2 sb 3 (.bool true)
    have hC0 : Chg (Foot sb lb d L) w w2 := HC2.out.mono fun b hb => by rcases hb with e | e | e; exact .inl e; exact .inr (.inr (.inl e)); exact .inr (.inr (.inr e))
    have hC : Chg (Foot sb lb d L) w (w2.setCell ⟨sb, 3, none⟩ (.bool true)) := hC0.trans (hc3.mono fun b hb => .inl hb)
    have hok := Hok.out.freeS i Hfew.out
    rw [HSS.out, HE.out] at hok ⊢
    rw [if_neg H0.out, t0, Bool.or_true] at hok ⊢
    have hRec := (H.out.recs.chg (S := Tri sb d L) HC2.out (fun e => by rcases e with e | e | e; exact H.out.ne.1 e.symm; exact H.out.ne.2.2.2.1 e; exact H.out.ne.2.2.2.2 e) (fun b hb _ => H.out.foot b (by rcases hb with e | e | e; exact .inl e; exact .inr (.inr (.inl e)); exact .inr (.inr (.inr e))))).chg hc3 (fun e => H.out.ne.1 e.symm) (fun b hb _ => H.out.foot b (.inl hb))
    refine ⟨rfl, ⟨⟨lc, ?_, by have := Hn.out; simp only; omega, hlc2⟩, hRec, HD2.out.chg hc3 (fun e => hne.1 e.symm) (fun e => hne.2 e.symm), H.out.tab.chg hC (fun e => H.out.ntab (H.out.foot _ e)), H.out.ntab, H.out.foot, H.out.ne, hok, fun b hb => Nat.lt_of_lt_of_le (H.out.old b hb) hC.size⟩, hC⟩
    simp only
    rw [← Hn.out, ← Hr.out, Hla.out]
    exact HS2.out.set 3 (.bool true)
set_option maxRecDepth 20000 in
set_option maxHeartbeats 2000000 in
theorem write_calls (N : Nat → Prop) (sb lb d L i : Nat) (s : St) (v : Value) (bs : List UInt8) (w : World) (h : IsStore w N sb lb d L s) (hb : Bys w v bs) (hfew : s.disk.writes < 72057594037927936) :
    Calls Tryd.prog 39 #[.pointer (some ⟨sb, 0, none⟩), .int .i64 i, v] w fun e w' => e = .returned (.int .i64 (s.writeE i bs)) ∧ IsStore w' N sb lb d L (s.writeS i bs) ∧ Chg (Foot sb lb d L) w w' := by
  obtain ⟨lc, hS, hlc1, hlc2⟩ := h.blk
  have c0 : w.cell? ⟨sb, 0, none⟩ = some (.pointer (some ⟨d, 0, none⟩)) := hS.cell 0
  have H := Lib.hid h; have HS := Lib.hid hS; have HB := Lib.hid hb; have Hfew := Lib.hid hfew; have Hl1 := Lib.hid hlc1
  obtain ⟨z, hz⟩ : ∃ z, z = s.writeE i bs := ⟨_, rfl⟩
  have Hz := Lib.hid hz
  rw [← hz]
  clear hz h hS hb hfew hlc1
  go_enter Tryd.func39, Tryd.ntmps39
  go_wp2_with fail
  refine (dwrite_any d L s.disk i v bs w H.out.disk HB.out (by have := Hfew.out; omega)).mono ?_
  rintro e w2 ⟨rfl, hD2, hc2⟩
  rw [show s.disk.wres (i : Nat) bs.length = z from Hz.out.symm]
  have hS2 := hc2.blk HS.out (fun e => by rcases e with e | e; exact H.out.ne.2.1 e; exact H.out.ne.2.2.1 e)
  have hR2 := H.out.recs.chg hc2 (fun e => by rcases e with e | e; exact H.out.ne.2.2.2.1 e; exact H.out.ne.2.2.2.2 e) (fun b hb _ => H.out.foot b (.inr (.inr hb)))
  have hC := hc2.mono (T := Foot sb lb d L) fun b hb => .inr (.inr hb)
  have g3 : w2.cell? ⟨sb, 3, none⟩ = some (.bool s.dead) := hS2.cell 3
  have f3 := hS2.free 3
  have HS2 := Lib.hid hS2; have HR2 := Lib.hid hR2; have HC := Lib.hid hC; have HD2 := Lib.hid hD2
  clear hS2 hR2 hC hD2 hc2
  have hok := Lib.hid (H.out.ok.writeS i bs Hfew.out)
  have HSS := Lib.hid (show s.writeS i bs = { s with disk := s.disk.wr (i : Nat) bs, dead := s.dead || (z != 0) } from by rw [Hz.out]; rfl)
  by_cases h0 : z = 0
  · subst h0
    have HT := Lib.hid (show ((0 : Int) != 0) = false from by simp)
    go_wp2
    go_ret
    rw [HSS.out]
    have hok := hok.out
    rw [HSS.out, HT.out, Bool.or_false] at hok
    rw [HT.out, Bool.or_false]
    exact ⟨rfl, ⟨⟨lc, HS2.out, Hl1.out, hlc2⟩, HR2.out, HD2.out, H.out.tab.chg HC.out (fun e => H.out.ntab (H.out.foot _ e)), H.out.ntab, H.out.foot, H.out.ne, hok, fun b hb => Nat.lt_of_lt_of_le (H.out.old b hb) HC.out.size⟩, HC.out⟩
  · have t0 : (z != 0) = true := by simpa using h0
    clear h0
    go_wp2
    go_ret
    rw [HSS.out]
    have hok := hok.out
    rw [HSS.out, t0, Bool.or_true] at hok
    rw [t0, Bool.or_true]
    have hc3 := chg1 w2 sb 3 (.bool true)
    have hC := HC.out.trans (hc3.mono (T := Foot sb lb d L) fun b hb => .inl hb)
    exact ⟨rfl, ⟨⟨lc, HS2.out.set 3 (.bool true), Hl1.out, hlc2⟩, HR2.out.chg hc3 (fun e => H.out.ne.1 e.symm) (fun b hb _ => H.out.foot b (.inl hb)), HD2.out.chg hc3 (fun e => H.out.ne.2.1 e.symm) (fun e => H.out.ne.2.2.1 e.symm), H.out.tab.chg hC (fun e => H.out.ntab (H.out.foot _ e)), H.out.ntab, H.out.foot, H.out.ne, hok, fun b hb => Nat.lt_of_lt_of_le (H.out.old b hb) hC.size⟩, hC⟩
end Go.Proofs.YtmeegdicnfgjfaaDoor
