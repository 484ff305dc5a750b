/- Walks of the store: a record's data, a record is dropped, how many slots are free. -/
import Derived.Test.YtmeegdicnfgjfaaDoorStoreOps
namespace Go.Mem
open Go Go.RowKit Gf
/-- the data of a name's record -/
def St.get (s : St) (name : ByteArray) : Option (List UInt8) := if s.dead = true then none else (Sto.best s.recs name s.recs.length).map fun k => (s.recs.getD k Sto.Rec.free).data
end Go.Mem
namespace Go.Proofs.YtmeegdicnfgjfaaDoor
open Go Go.RowKit Go.Mem Gf
attribute [local go_sem ↓] Go.wp_at_zero Go.wp_at_succ
/-- what Get leaves -/
def GetPost (s : St) (name : ByteArray) (w : World) (e : Ending) (w' : World) : Prop :=
  Below w.heap.size w w' ∧ ∃ v, e = .returned (.tuple #[v, .bool (s.get name).isSome]) ∧ OwnX 5 w' w.heap.size v ((s.get name).getD [])
set_option maxRecDepth 20000 in
set_option maxHeartbeats 2000000 in
theorem sget_calls (N : Nat → Prop) (sb lb d L : Nat) (s : St) (name : ByteArray) (w : World) (h : IsStore w N sb lb d L s) :
    Calls Tryd.prog 18 #[.pointer (some ⟨sb, 0, none⟩), .string name] w (GetPost s name w) := by
  obtain ⟨lc, hS, hlc1, hlc2⟩ := h.blk
  have hl2 := h.ok.len2
  have H := Lib.hid h; have HS := Lib.hid hS
  obtain ⟨n, hnn⟩ : ∃ n, n = s.recs.length := ⟨_, rfl⟩
  rw [← hnn] at hlc1 hl2
  have Hn := Lib.hid hnn
  clear h hS hnn
  go_enter Tryd.func18, Tryd.ntmps18
  go_wp2_with fail
  refine (best_calls N sb lb d n lc s.room s.dead s.recs name w (by rw [Hn.out]; exact HS.out) H.out.recs Hn.out (by omega) hlc1 hlc2 (fun r hr => by have := (H.out.ok.each r hr).2.2; have := H.out.ok.few; omega)).mono ?_
  rintro e w3 ⟨rfl, hb3⟩
  have c3 : w3.cell? ⟨sb, 3, none⟩ = some (.bool s.dead) := (HS.out.kept hb3).cell 3
  have c2 : w3.cell? ⟨sb, 2, none⟩ = some (.slice (some ⟨lb, 0, none⟩) n lc) := by have := (HS.out.kept hb3).cell 2; rw [this, Hn.out]; rfl
  have HB3 := Lib.hid hb3
  have hR3 := H.out.recs.below hb3
  have HR3 := Lib.hid hR3
  clear hb3 hR3
  by_cases hd : s.dead = true
  · have HG := Lib.hid (show s.get name = none from by unfold St.get; rw [if_pos hd])
    rw [hd] at c3
    clear hd
    go_wp2
    go_ret2
    unfold GetPost
    rw [HG.out]
    exact ⟨HB3.out, _, rfl, OwnX.nil _ _ _⟩
  · have hd : s.dead = false := by simpa using hd
    cases hbst : Sto.best s.recs name n with
    | none =>
      have HG := Lib.hid (show s.get name = none from by unfold St.get; rw [if_neg (by rw [hd]; decide), ← Hn.out, hbst]; rfl)
      rw [hd] at c3
      clear hd hbst
      simp only [optI]
      go_wp2
      go_ret2
      unfold GetPost
      rw [HG.out]
      exact ⟨HB3.out, _, rfl, OwnX.nil _ _ _⟩
    | some j =>
      obtain ⟨hj, rj, hrj, _⟩ := best_lt _ _ _ _ hbst
      have HG := Lib.hid (show s.get name = some rj.data from by
        unfold St.get; rw [if_neg (by rw [hd]; decide), ← Hn.out, hbst]
        show some (s.recs.getD j Sto.Rec.free).data = _
        rw [List.getD_eq_getElem?_getD, hrj]; rfl)
      obtain ⟨a, c, _, _, _, e3, hda, _⟩ := HR3.out.at hrj
      have hdl := (H.out.ok.each rj (List.mem_of_getElem? hrj)).2.1
      have j0 : (0 : Int) ≤ (j : Int) := by omega
      have j1 : (j : Int) < (n : Int) := by omega
      rw [hd] at c3
      have HDA := Lib.hid hda.1
      clear hd hbst hrj hda
      simp only [optI]
      go_wp2_with (at_builtin; refine appX E8c rfl _ _ rfl (base := w3.heap.size) (bs := []) (news := rj.data) rfl rfl (OwnX.nil _ _ _) HDA.out ?z1 ?z2 ?_)
      case z1 => simp; omega
      case z2 => exact Nat.le_refl _
      intro v4 w4 ho4 hg4
      have hb4 := grown_none hg4 rfl
      have HO4 := Lib.hid (show OwnX 5 w4 w3.heap.size v4 rj.data from ho4)
      clear hg4 ho4
      go_wp2
      go_ret2
      unfold GetPost
      rw [HG.out]
      exact ⟨HB3.out.trans (hb4.mono HB3.out.size), _, rfl, HO4.out.mono HB3.out.size⟩
/-- a record is dropped -/
def dropR (s : St) (name : ByteArray) : Int × St := if s.dead = true then (8, s) else match Sto.best s.recs name s.recs.length with
  | none => (4, s)
  | some k => (s.freeE k, s.freeS k)
def DropPost (N : Nat → Prop) (sb lb d L : Nat) (s : St) (name : ByteArray) (w : World) (e : Ending) (w' : World) : Prop :=
  e = .returned (.int .i64 (dropR s name).1) ∧ IsStore w' N sb lb d L (dropR s name).2 ∧ Chg (Foot sb lb d L) w w'
set_option maxRecDepth 20000 in
set_option maxHeartbeats 2000000 in
theorem sdrop_calls (N : Nat → Prop) (sb lb d L : Nat) (s : St) (name : ByteArray) (w : World) (h : IsStore w N sb lb d L s) (hfew : s.disk.writes < 72057594037927936) :
    Calls Tryd.prog 30 #[.pointer (some ⟨sb, 0, none⟩), .string name] w (DropPost N sb lb d L s name w) := by
  obtain ⟨lc, hS, hlc1, hlc2⟩ := h.blk
  have hl2 := h.ok.len2
  have H := Lib.hid h; have HS := Lib.hid hS; have Hfew := Lib.hid hfew
  obtain ⟨n, hnn⟩ : ∃ n, n = s.recs.length := ⟨_, rfl⟩
  rw [← hnn] at hlc1 hl2
  have Hn := Lib.hid hnn
  clear h hS hnn hfew
  go_enter Tryd.func30, Tryd.ntmps30
  go_wp2_with fail
  refine (best_calls N sb lb d n lc s.room s.dead s.recs name w (by rw [Hn.out]; exact HS.out) H.out.recs Hn.out (by omega) hlc1 hlc2 (fun r hr => by have := (H.out.ok.each r hr).2.2; have := H.out.ok.few; omega)).mono ?_
  rintro e w3 ⟨rfl, hb3⟩
  have c3 : w3.cell? ⟨sb, 3, none⟩ = some (.bool s.dead) := (HS.out.kept hb3).cell 3
  have HB3 := Lib.hid hb3
  clear hb3
  by_cases hd : s.dead = true
  · have HG := Lib.hid (show dropR s name = (8, s) from by unfold dropR; rw [if_pos hd])
    rw [hd] at c3
    clear hd
    go_wp2
    go_ret
    unfold DropPost
    rw [HG.out]
    exact ⟨rfl, H.out.below HB3.out, Chg.of_below HB3.out⟩
  · have hd : s.dead = false := by simpa using hd
    cases hbst : Sto.best s.recs name n with
    | none =>
      have HG := Lib.hid (show dropR s name = (4, s) from by unfold dropR; rw [if_neg (by rw [hd]; decide), ← Hn.out, hbst])
      rw [hd] at c3
      clear hd hbst
      simp only [optI]
      go_wp2
      go_ret
      unfold DropPost
      rw [HG.out]
      exact ⟨rfl, H.out.below HB3.out, Chg.of_below HB3.out⟩
    | some j =>
      obtain ⟨hj, _⟩ := best_lt _ _ _ _ hbst
      have HG := Lib.hid (show dropR s name = (s.freeE j, s.freeS j) from by unfold dropR; rw [if_neg (by rw [hd]; decide), ← Hn.out, hbst])
      have j0 : (0 : Int) ≤ (j : Int) := by omega
      rw [hd] at c3
      clear hd hbst
      simp only [optI]
      go_wp2_with fail
      refine (free_at N sb lb d L j s w3 (H.out.below HB3.out) (by rw [← Hn.out]; exact hj) Hfew.out).mono ?_
      rintro e w4 ⟨rfl, h4, hc4⟩
      go_wp2
      go_ret
      unfold DropPost
      rw [HG.out]
      exact ⟨rfl, h4, (Chg.of_below HB3.out).trans hc4⟩
end Go.Proofs.YtmeegdicnfgjfaaDoor
