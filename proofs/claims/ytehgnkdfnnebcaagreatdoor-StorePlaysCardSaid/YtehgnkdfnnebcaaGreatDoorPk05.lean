/- Texts of this proof, packed: StorePut, RefMath, Ref01. -/
import Derived.Test.YtehgnkdfnnebcaaGreatDoorPk04
import Derived.Test.YtehgnkdfnnebcaaGreatDoorPk01
import Derived.Test.YtehgnkdfnnebcaaGreatDoorPk02
import Derived.Deep.RegionHeld3
section
namespace Go.Mem
open Go Go.RowKit Gf
def Sto.slot (l : List Sto.Rec) : Nat := l.findIdx fun r => !r.is
def St.chunks (at_ : Nat) : Nat → St → Nat → List UInt8 → Int × St
  | 0, s, _, _ => (0, s)
  | n + 1, s, k, b => if b = [] then (0, s) else if s.writeE (at_ + 1 + k) (b.take 32) ≠ 0 then (s.writeE (at_ + 1 + k) (b.take 32), s.writeS (at_ + 1 + k) (b.take 32)) else St.chunks at_ n (s.writeS (at_ + 1 + k) (b.take 32)) (k + 1) (b.drop 32)
def St.num (s : St) (name : ByteArray) : Nat := match Sto.best s.recs name s.recs.length with
  | none => 1
  | some k => (s.recs.getD k Sto.Rec.free).num + 1
def St.laid (s : St) (p : Nat) (r : Sto.Rec) : St := { s with recs := s.recs.set p r }
def St.done (s : St) (was : Option Nat) : Int × St := match was with
  | none => (0, s)
  | some k => (s.freeE k, s.freeS k)
end Go.Mem
namespace Go.Proofs.YtehgnkdfnnebcaaGreatDoor
open Go Go.RowKit Go.Mem Gf
def putR (s : St) (name : ByteArray) (data : List UInt8) : Int × St :=
  if s.dead = true then (8, s) else if fitsB s.room name data = false then (1, s) else if Sto.slot s.recs = s.recs.length then (3, s) else
  match St.chunks (Sto.slot s.recs * (s.room + 1)) s.room s 0 (Sto.text name (s.num name) data) with
  | (e, s1) => if e ≠ 0 then (e, s1) else if s1.writeE (Sto.slot s.recs * (s.room + 1)) [1] ≠ 0 then (s1.writeE (Sto.slot s.recs * (s.room + 1)) [1], s1.writeS (Sto.slot s.recs * (s.room + 1)) [1]) else
    ((s1.writeS (Sto.slot s.recs * (s.room + 1)) [1]).laid (Sto.slot s.recs) ⟨true, name, s.num name, data⟩).done (Sto.best s.recs name s.recs.length)
theorem wr_inc {s : DiskS} {i : Int} {bs : List UInt8} (h : s.wres i bs.length = 0) : (s.wr i bs).writes = s.writes + 1 := by
  unfold DiskS.wres at h
  split at h
  · rename_i h1
    split at h
    · cases h
    · rename_i h2
      split at h
      · cases h
      · rename_i h3
        unfold DiskS.wr DiskS.write
        rw [if_pos ⟨h1, by simpa using h2⟩, if_neg h3]
  · cases h
theorem slot_le (l : List Sto.Rec) : Sto.slot l ≤ l.length := List.findIdx_le_length
theorem slot_is {l : List Sto.Rec} {i : Nat} {r : Sto.Rec} (h : i < Sto.slot l) (hr : l[i]? = some r) : r.is = true := by
  have := List.not_of_lt_findIdx h
  have hi : i < l.length := Nat.lt_of_lt_of_le h (slot_le l)
  rw [List.getElem?_eq_getElem hi] at hr
  cases hr
  simpa using this
theorem slot_not {l : List Sto.Rec} {r : Sto.Rec} (hr : l[Sto.slot l]? = some r) : r.is = false := by
  have hi : Sto.slot l < l.length := by
    rcases Nat.lt_or_ge (Sto.slot l) l.length with h | h
    · exact h
    · rw [List.getElem?_eq_none h] at hr; cases hr
  have := List.findIdx_getElem (w := hi)
  rw [List.getElem?_eq_getElem hi] at hr
  cases hr
  have e : (!(l[Sto.slot l]'hi).is) = true := this
  simpa using e
theorem text_len (name : ByteArray) (a b : Nat) (data : List UInt8) : (Sto.text name a data).length = (Sto.text name b data).length := by
  unfold Sto.text
  simp only [Cod.nets, List.length_append, Cod.net_len, Cod.be_len]
theorem fits_len {room : Nat} {name : ByteArray} {data : List UInt8} (h : fitsB room name data = true) (num : Nat) : (Sto.text name num data).length ≤ room * 32 := by
  unfold fitsB at h
  simp only [Bool.and_eq_true, decide_eq_true_eq] at h
  rw [text_len name num 0]; exact h.2.2
def PutPost (N : Nat → Prop) (sb lb d L : Nat) (s : St) (name : ByteArray) (data : List UInt8) (w : World) (e : Ending) (w' : World) : Prop :=
  e = .returned (.int .i64 (putR s name data).1) ∧ IsStore w' N sb lb d L (putR s name data).2 ∧ Chg (Foot sb lb d L) w w'
attribute [local go_sem ↓] Go.wp_at_zero Go.wp_at_succ
set_option maxRecDepth 20000 in
set_option maxHeartbeats 1000000 in
theorem sput_calls (N : Nat → Prop) (sb lb d L : Nat) (s : St) (name : ByteArray) (v : Value) (data : List UInt8) (w : World) (h : IsStore w N sb lb d L s) (hb : Bys w v data) (hn : name.size ≤ 1000000) (hdl : data.length ≤ 1000000) (hv : ∀ w', Chg (Foot sb lb d L) w w' → Bys w' v data) (hfew : s.disk.writes < 72057594037920000) :
    Calls Tryz.prog 35 #[.pointer (some ⟨sb, 0, none⟩), .string name, v] w (PutPost N sb lb d L s name data w) := by
  obtain ⟨lc, hS, hlc1, hlc2⟩ := h.blk
  have c2 : w.cell? ⟨sb, 2, none⟩ = some (.slice (some ⟨lb, 0, none⟩) s.recs.length lc) := hS.cell 2
  have c3 : w.cell? ⟨sb, 3, none⟩ = some (.bool s.dead) := hS.cell 3
  have hok := h.ok
  have hl2 := hok.len2
  have H := Lib.hid h; have HB := Lib.hid hb; have HV := Lib.hid hv; have HS := Lib.hid hS
  obtain ⟨n, hnn⟩ : ∃ n, n = s.recs.length := ⟨_, rfl⟩
  rw [← hnn] at c2 hlc1 hl2
  have Hn := Lib.hid hnn
  obtain ⟨p, hto⟩ : ∃ t, t = Sto.slot s.recs := ⟨_, rfl⟩
  have hto1 : p ≤ n := by rw [hto, hnn]; exact slot_le _
  have Hto := Lib.hid hto
  clear h hb hv hS hnn hto hok
  go_enter Tryz.func35, Tryz.ntmps35
  go_wp2_with fail
  go_loop [7] (fun u => ∃ i : Nat, i ≤ p ∧ u = .int .i64 i) (fun u => p - (intOf u).toNat)
  case atStart => exact ⟨0, by omega, rfl⟩
  case round =>
    obtain ⟨i, hi, rfl⟩ := hrel
    by_cases hit : i < p
    · obtain ⟨r, hr⟩ : ∃ r, s.recs[i]? = some r := ⟨s.recs[i]'(by have := Hn.out; omega), by simp⟩
      obtain ⟨a1, a2, e0, _⟩ := H.out.recs.at hr
      rw [slot_is (by have := Hto.out; omega) hr] at e0
      have i0 : (0 : Int) ≤ (i : Int) := by omega
      have i1 : (i : Int) < (n : Int) := by omega
      clear hr
      go_wp2
      exact ⟨⟨i + 1, by omega, by go_num⟩, by simp [intOf] <;> omega⟩
    · obtain rfl : p = i := by omega
      rcases (show p < n ∨ p = n from by omega) with hpn | hpn
      · obtain ⟨r, hr⟩ : ∃ r, s.recs[p]? = some r := ⟨s.recs[p]'(by have := Hn.out; omega), by simp⟩
        obtain ⟨a1, a2, e0, _⟩ := H.out.recs.at hr
        rw [slot_not (l := s.recs) (by rw [← Hto.out]; exact hr)] at e0
        have i0 : (0 : Int) ≤ (p : Int) := by omega
        have i1 : (p : Int) < (n : Int) := by omega
        clear hr
        by_cases hd : s.dead = true
        · have HP := Lib.hid (show putR s name data = (8, s) from by unfold putR; rw [if_pos hd])
          rw [hd] at c3
          clear hd
          go_wp2
          go_ret
          unfold PutPost
          rw [HP.out]
          exact ⟨rfl, H.out, Chg.refl _ _⟩
        · have hd : s.dead = false := by simpa using hd
          by_cases hf : fitsB s.room name data = false
          · have HP := Lib.hid (show putR s name data = (1, s) from by unfold putR; rw [if_neg (by rw [hd]; decide), if_pos hf])
            rw [hd] at c3
            have Hf := Lib.hid hf
            clear hd hf
            go_wp2_with fail
            refine (fits_calls N sb lb d L s name _ data w H.out HB.out (by omega)).mono ?_
            rintro e w2 ⟨rfl, hb2⟩
            rw [Hf.out]
            go_wp2
            go_ret
            unfold PutPost
            rw [HP.out]
            exact ⟨rfl, H.out.below hb2, Chg.of_below hb2⟩
          · have hf : fitsB s.room name data = true := by simpa using hf
            have HP0 := Lib.hid (And.intro hd hf)
            rw [hd] at c3
            have Hf := Lib.hid hf
            have Hd := Lib.hid hd
            clear hd hf
            go_wp2_with fail
            refine (fits_calls N sb lb d L s name _ data w H.out HB.out (by omega)).mono ?_
            rintro e w2 ⟨rfl, hb2⟩
            rw [Hf.out]
            have g2 : w2.cell? ⟨sb, 2, none⟩ = some (.slice (some ⟨lb, 0, none⟩) n lc) := by have := (HS.out.kept hb2).cell 2; rw [this, Hn.out]; rfl
            have tp : ((p : Int) == (n : Int)) = false := by simp; omega
            have HB2 := Lib.hid hb2
            clear hb2
            go_wp2_with fail
            refine (best_calls N sb lb d n lc s.room s.dead s.recs name w2 (by rw [Hn.out]; exact HS.out.kept HB2.out) (H.out.recs.below HB2.out) Hn.out (by omega) hlc1 hlc2 (fun r hr => by have := (H.out.ok.each r hr).2.2; omega)).mono ?_
            rintro e w3 ⟨rfl, hb3⟩
            have HB3 := Lib.hid (HB2.out.trans (hb3.mono HB2.out.size))
            clear hb3
            cases hbst : Sto.best s.recs name n with
            | none =>
              obtain ⟨nm, hnm⟩ : ∃ m : Nat, m = 1 := ⟨_, rfl⟩
              have Hnm := Lib.hid (show s.num name = nm from by unfold St.num; rw [← Hn.out, hbst, hnm])
              have hnm2 : nm ≤ 9223372036854775807 := by omega
              have Hnb := Lib.hid (show nm ≤ 72057594037927936 + s.disk.writes + 1 from by omega)
              have Hb := Lib.hid hbst
              clear hbst
              simp only [optI]
              go_wp2_with fail
              rw [show Value.int .i64 (1 : Int) = Value.int .i64 (nm : Int) from by rw [hnm]; rfl]
              clear hnm
              refine (bytes_calls name nm _ data w3 (H.out.tab.below HB3.out) (HB.out.below HB3.out) (by omega) (by omega) hdl).mono ?_
              rintro e w4 ⟨tv, rfl, ht, hb4⟩
              have hs3 := HB3.out.size
              have HB4 := Lib.hid (HB3.out.trans (hb4.mono hs3))
              have hs4 := HB4.out.size
              obtain ⟨ta, tc, rfl⟩ := ht.eq_slice
              have h4 := H.out.below HB4.out
              have y1 : w4.cell? ⟨sb, 1, none⟩ = some (.int .i64 s.room) := (HS.out.kept HB4.out).cell 1
              have HT := Lib.hid ht; have H4 := Lib.hid h4
              have hlen := fits_len (by rw [Hf.out] : fitsB s.room name data = true) nm
              obtain ⟨T, hT⟩ : ∃ T, T = Sto.text name nm data := ⟨_, rfl⟩
              rw [← hT] at ht HT hlen ⊢
              have HTT := Lib.hid hT
              have hr1 := H.out.ok.room1; have hr2 := H.out.ok.room2
              obtain ⟨room, hroom⟩ : ∃ r, r = s.room := ⟨_, rfl⟩
              rw [← hroom] at hr1 hr2 y1 hlen
              have Hroom := Lib.hid hroom
              obtain ⟨A, hA⟩ : ∃ A, A = p * (room + 1) := ⟨_, rfl⟩
              have hA2 : A ≤ 1024 * 1025 := by rw [hA]; exact Nat.mul_le_mul (by omega) (by omega)
              have hAr : A + (room + 1) ≤ s.disk.n := by
                have e := H.out.ok.size
                rw [e, ← Hn.out, ← hroom, hA]
                have : (p + 1) * (room + 1) ≤ n * (room + 1) := Nat.mul_le_mul_right _ (by omega)
                rw [Nat.add_mul, Nat.one_mul] at this
                exact this
              have EA := Lib.hid (show (p : Int) * ((room : Int) + 1) = (A : Int) from by rw [hA]; push_cast; rfl)
              have u1 : (0 : Int) ≤ (p : Int) * ((room : Int) + 1) := by rw [EA.out]; omega
              have u2 : (p : Int) * ((room : Int) + 1) ≤ 9223372036854775807 := by rw [EA.out]; omega
              have HA := Lib.hid hA
              have HPE := Lib.hid (show putR s name data = (match St.chunks A room s 0 T with
                | (e, s1) => if e ≠ 0 then (e, s1) else if s1.writeE A [1] ≠ 0 then (s1.writeE A [1], s1.writeS A [1]) else ((s1.writeS A [1]).laid p ⟨true, name, nm, data⟩).done (Sto.best s.recs name n)) from by
                unfold putR
                rw [if_neg (by rw [HP0.out.1]; decide), if_neg (by rw [HP0.out.2]; decide), if_neg (by rw [← Hto.out, ← Hn.out]; omega), ← Hto.out, ← hroom, ← hA, Hnm.out, ← hT, ← Hn.out])
              clear ht h4 hT hroom hA hb4 g2 c2 c3 e0
              go_wp2_with fail
              simp only [EA.out]
              clear u1 u2
              go_loopw [10, 12] (fun u v wr => ∃ (k : Nat) (s' : St) (b' : List UInt8), v = .int .i64 k ∧ Bys wr u b' ∧ Hid (∀ a l c, u = .slice (some a) l c → w.heap.size ≤ a.block) ∧ IsStore wr N sb lb d L s' ∧ Chg (Foot sb lb d L) w wr ∧ Hid (St.chunks A room s 0 T = St.chunks A (room - k) s' k b') ∧ k ≤ room ∧ b'.length ≤ (room - k) * 32 ∧ s.disk.writes ≤ s'.disk.writes ∧ s'.disk.writes ≤ s.disk.writes + k ∧ Hid (s'.recs = s.recs ∧ s'.room = room)) (fun _ v _ => room - (intOf v).toNat)
              case atStart => exact ⟨0, s, T, rfl, HT.out.bys, (fun a l c e => by injection e with e1; have := HT.out.lt a.block (by rw [e1]; rfl); omega), H4.out, Chg.of_below HB4.out, by rw [Nat.sub_zero]; exact rfl, by omega, by simpa using hlen, Nat.le_refl _, by omega, rfl, Hroom.out.symm⟩
              case round =>
                obtain ⟨k, s', b', rfl, hbu, hub, hst, hch, hck, hk, hbl, hwr0, hwr, hsr⟩ := hrel
                obtain ⟨ua, uc, rfl⟩ := hbu.eq_slice
                obtain ⟨l, hl⟩ : ∃ l, l = b'.length := ⟨_, rfl⟩
                rw [← hl] at hbu hub hbl ⊢
                have Hl := Lib.hid hl
                clear hl
                by_cases hb0 : 1 ≤ l
                · have hkr : k < room := by
                    rcases Nat.lt_or_ge k room with h | h
                    · exact h
                    · have : room - k = 0 := by omega
                      rw [this] at hbl; omega
                  obtain ⟨g, o, _, rfl, _⟩ := hbu.at 0 (by have := Hl.out; omega)
                  have hcap : l ≤ uc ∧ uc ≤ maxLen := by
                    obtain ⟨_, _, e, k1, k2, _⟩ := id hbu
                    injection e with e1 e2 e3
                    subst e3
                    exact ⟨by have := Hl.out; omega, k2⟩
                  have hm2 : uc ≤ 9223372036854775807 := by unfold maxLen at hcap; omega
                  obtain ⟨nn, hnn⟩ : ∃ m, m = min l 32 := ⟨_, rfl⟩
                  have hmin : min (l : Int) 32 = (nn : Int) := by rw [hnn]; omega
                  have hnn1 : nn ≤ l := by omega
                  have hnn2 : 1 ≤ nn ∧ nn ≤ 32 := by omega
                  have htk : b'.take nn = b'.take 32 := by
                    rcases Nat.lt_or_ge 32 l with h | h
                    · rw [show nn = 32 from by omega]
                    · rw [List.take_of_length_le (by have := Hl.out; omega), List.take_of_length_le (by have := Hl.out; omega)]
                  have hdr : b'.drop nn = b'.drop 32 := by
                    rcases Nat.lt_or_ge 32 l with h | h
                    · rw [show nn = 32 from by omega]
                    · rw [List.drop_eq_nil_of_le (by have := Hl.out; omega), List.drop_eq_nil_of_le (by have := Hl.out; omega)]
                  have hX : Bys wr (.slice (some ⟨g, o, none⟩) nn uc) (b'.take 32) := by rw [← htk]; exact hbu.take nn (by have := Hl.out; omega)
                  have hY : ∀ w', Bys w' (.slice (some ⟨g, o, none⟩) l uc) b' → Bys w' (.slice (if uc = nn then some ⟨g, o, none⟩ else some ⟨g, o + nn, none⟩) (l - nn) (uc - nn)) (b'.drop 32) := fun w' hbw => by
                    rw [← hdr]
                    split
                    · have e : l = nn := by omega
                      rw [List.drop_eq_nil_of_le (by have := Hl.out; omega), e, Nat.sub_self]
                      exact ⟨some ⟨g, o, none⟩, uc - nn, rfl, Nat.zero_le _, by omega, fun h => by simp at h⟩
                    · have := bys_drop hbw nn (l - nn) (uc - nn) (by have := Hl.out; omega) (by omega) (by omega)
                      rwa [List.take_of_length_le (by have := Hl.out; simp; omega)] at this
                  have i5 : (nn : Int) ≤ (uc : Int) := by omega
                  have i6 : (nn : Int) ≤ (l : Int) := by omega
                  have i7 : (0 : Int) ≤ (nn : Int) := by omega
                  have i8 : (0 : Int) < (l : Int) := by omega
                  have Hmn := Lib.hid hnn; have HY := Lib.hid hY; have HX := Lib.hid hX; have HBU := Lib.hid hbu; have Hst := Lib.hid hst; have Hch := Lib.hid hch
                  obtain ⟨hc1, hc2⟩ := hcap
                  have Hc2 := Lib.hid hc2
                  have hne : b' ≠ [] := fun e => by have := Hl.out; rw [e] at this; simp at this; omega
                  have hgb := hub.out _ _ _ rfl
                  have Hne := Lib.hid hne
                  clear hnn htk hdr hX hY hbu hst hch hc2 hne
                  go_wp2_with fail
                  rw [show (A : Int) + 1 + (k : Int) = ((A + 1 + k : Nat) : Int) from by push_cast; rfl]
                  refine (write_calls N sb lb d L (A + 1 + k) s' _ (b'.take 32) wr Hst.out HX.out (by omega)).mono ?_
                  rintro e w6 ⟨rfl, h6, hc6⟩
                  obtain ⟨z, hz⟩ : ∃ z, z = s'.writeE (A + 1 + k) (b'.take 32) := ⟨_, rfl⟩
                  rw [← hz]
                  have Hz := Lib.hid hz; have H6 := Lib.hid h6; have HC6 := Lib.hid hc6
                  clear hz h6 hc6
                  have Hrk := Lib.hid (show room - k = (room - (k + 1)) + 1 from by omega)
                  by_cases hz0 : z = 0
                  · subst hz0
                    have Hstep := Lib.hid (show St.chunks A room s 0 T = St.chunks A (room - (k + 1)) (s'.writeS (A + 1 + k) (b'.take 32)) (k + 1) (b'.drop 32) from by
                      rw [hck.out, Hrk.out, St.chunks, if_neg Hne.out, ← Hz.out, if_neg (by simp)])
                    have hw6 : (s'.writeS (A + 1 + k) (b'.take 32)).disk.writes ≤ s'.disk.writes + 1 := DiskS.wr_writes _ _ _
                    have hbl2 : (b'.drop 32).length ≤ (room - (k + 1)) * 32 := by
                      rw [List.length_drop]; have := Hl.out; have := Hrk.out; rw [this] at hbl; omega
                    have hb6 : Bys w6 (.slice (some ⟨g, o, none⟩) l uc) b' := HBU.out.chg HC6.out (fun a l' c' e hS => by injection e with e1; injection e1 with e1; subst e1; exact absurd (Nat.lt_of_lt_of_le (H.out.lt _ hS) hgb) (Nat.lt_irrefl _))
                    have Hfin := Lib.hid (HY.out w6 hb6)
                    clear hb6
                    go_wp2
                    exact ⟨⟨k + 1, _, b'.drop 32, by go_num, Hfin.out, (fun a l' c' e => by
                      injection e with e1
                      split at e1
                      · injection e1 with e1; subst e1; exact hgb
                      · injection e1 with e1; subst e1; exact hgb), H6.out, Hch.out.trans HC6.out, Hstep.out, by omega, hbl2, Nat.le_trans hwr0 (DiskS.wr_ge _ _ _), by omega, ⟨hsr.out.1, hsr.out.2⟩⟩, by simp [intOf] <;> omega⟩
                  · have t0 : (z != 0) = true := by simpa using hz0
                    have HPz := Lib.hid (show putR s name data = (z, s'.writeS (A + 1 + k) (b'.take 32)) from by
                      rw [HPE.out, hck.out, Hrk.out, St.chunks, if_neg Hne.out, ← Hz.out, if_pos hz0]
                      simp only [if_pos hz0])
                    clear hz0
                    go_wp2
                    go_ret
                    unfold PutPost
                    rw [HPz.out]
                    exact ⟨rfl, H6.out, Hch.out.trans HC6.out⟩
                · obtain rfl : l = 0 := by omega
                  have hbe : b' = [] := List.eq_nil_of_length_eq_zero Hl.out.symm
                  have HPE2 := Lib.hid (show putR s name data = (if s'.writeE A [1] ≠ 0 then (s'.writeE A [1], s'.writeS A [1]) else ((s'.writeS A [1]).laid p ⟨true, name, nm, data⟩).done (Sto.best s.recs name n)) from by
                    have e : St.chunks A (room - k) s' k b' = (0, s') := by
                      rw [hbe]
                      cases room - k with
                      | zero => rfl
                      | succ m => rw [St.chunks, if_pos rfl]
                    rw [HPE.out, hck.out, e]
                    simp)
                  have Hst := Lib.hid hst; have Hch := Lib.hid hch
                  clear hbe hst hch hbu hub hb0
                  go_wp2_with fail
                  have hal := fun (o : Obj) => (Below.refl wr.heap.size wr).alloc (Nat.le_refl _) o
                  refine (write_calls N sb lb d L A s' _ [1] _ (Hst.out.below (hal _)) (bys_one wr 1 _ rfl _) (by omega)).mono ?_
                  rintro e w6 ⟨rfl, h6, hc6⟩
                  obtain ⟨z, hz⟩ : ∃ z, z = s'.writeE A [1] := ⟨_, rfl⟩
                  rw [← hz]
                  have Hz := Lib.hid hz; have H6 := Lib.hid h6
                  have HC6 := Lib.hid (show Chg (Foot sb lb d L) w w6 from (Hch.out.trans (Chg.of_below (hal _))).trans hc6)
                  clear hz h6 hc6 hal
                  by_cases hz0 : z = 0
                  · subst hz0
                    obtain ⟨s1, hs1⟩ : ∃ x, x = s'.writeS A [1] := ⟨_, rfl⟩
                    have HPE3 := Lib.hid (show putR s name data = (s1.laid p ⟨true, name, nm, data⟩).done (Sto.best s.recs name n) from by rw [HPE2.out, ← Hz.out, if_neg (by simp), hs1])
                    have h6 := H6.out
                    rw [← hs1] at h6
                    have hrec1 : s1.recs = s.recs := by rw [hs1]; exact hsr.out.1
                    have hlen1 : s1.recs.length = n := by rw [hrec1, Hn.out]
                    have hw1 : s1.disk.writes ≤ s'.disk.writes + 1 := by rw [hs1]; exact DiskS.wr_writes _ _ _
                    obtain ⟨lc6, hS6, hk1, hk2⟩ := h6.blk
                    rw [hlen1] at hS6 hk1
                    have x2 : w6.cell? ⟨sb, 2, none⟩ = some (.slice (some ⟨lb, 0, none⟩) n lc6) := hS6.cell 2
                    obtain ⟨r6, hr6⟩ : ∃ r, s1.recs[p]? = some r := ⟨s1.recs[p]'(by omega), by simp⟩
                    obtain ⟨ra, rc, e0, e1, e2, e3, _, ef⟩ := h6.recs.at hr6
                    have f0 := ef (p * 4); have f1 := ef (p * 4 + 1); have f2 := ef (p * 4 + 2); have f4 := ef (p * 4 + 3)
                    have h6b : Bys w6 v data := HV.out _ HC6.out
                    have HB6 := Lib.hid h6b; have Hw1 := Lib.hid (show s.disk.writes + 1 ≤ s1.disk.writes from by rw [hs1, show (s'.writeS A [1]).disk.writes = s'.disk.writes + 1 from wr_inc Hz.out.symm]; omega); have Hw2 := Lib.hid (show s1.disk.writes ≤ s.disk.writes + k + 1 from by omega); have H6' := Lib.hid h6; have HS6 := Lib.hid hS6; have Hrec := Lib.hid hrec1; have Hlen := Lib.hid hlen1; have Hs1 := Lib.hid hs1
                    clear h6 hS6 hrec1 hlen1 hr6 ef h6b hs1
                    go_wp2_with fail
                    have hup : ∀ w', Below w6.heap.size w6 w' → (w'.cell? ⟨sb, 2, none⟩ = some (.slice (some ⟨lb, 0, none⟩) n lc6) ∧ w'.cell? ⟨lb, p * 4, none⟩ = some (.bool r6.is) ∧ w'.cell? ⟨lb, p * 4 + 1, none⟩ = some (.string r6.name) ∧ w'.cell? ⟨lb, p * 4 + 2, none⟩ = some (.int .i64 r6.num) ∧ w'.cell? ⟨lb, p * 4 + 3, none⟩ = some (.slice ra r6.data.length rc) ∧ w'.frozen? ⟨lb, p * 4, none⟩ = false ∧ w'.frozen? ⟨lb, p * 4 + 1, none⟩ = false ∧ w'.frozen? ⟨lb, p * 4 + 2, none⟩ = false ∧ w'.frozen? ⟨lb, p * 4 + 3, none⟩ = false) := fun w' hb' => by
                      have hx := H6'.out.below hb'
                      obtain ⟨arr, vs, hBl, _⟩ := H6'.out.recs
                      have hBl' := hBl.kept hb'
                      exact ⟨((HS6.out.kept hb').cell 2), by rw [hBl'.cell, ← hBl.cell]; exact e0, by rw [hBl'.cell, ← hBl.cell]; exact e1, by rw [hBl'.cell, ← hBl.cell]; exact e2, by rw [hBl'.cell, ← hBl.cell]; exact e3, hBl'.free _, hBl'.free _, hBl'.free _, hBl'.free _⟩
                    have HUP := Lib.hid hup
                    have HUP0 := Lib.hid (hup w6.drew (below_drewN (Below.refl _ _) 1))
                    clear hup
                    have HUP1 := Lib.hid (show w6.drew.cell? ⟨sb, 2, none⟩ = some (.slice (some ⟨lb, 0, none⟩) n lc6) from HUP0.out.1)
                    go_region_held3 (fun w' => w'.cell? ⟨sb, 2, none⟩ = some (.slice (some ⟨lb, 0, none⟩) n lc6)) (first | with_reducible exact hh | with_reducible exact HUP1.out | with_reducible exact hk _ _ _ _)
                      (first
                        | (refine stepAppX E8c (by rfl) _ _ (by rfl) (base := w6.heap.size) (bs := []) (news := data) (by rfl) (by rfl) (OwnX.nil _ _ _) (by exact HB6.out.drewN 1) (by simp; omega) (by exact Nat.le_refl _) ?_
                           intro v7 w7 ho7 hg7
                           have hb7 : Below w6.heap.size w6 w7 := of_drew (grown_none hg7 rfl)
                           have ho7 : OwnX 5 w7 w6.heap.size v7 data := ho7
                           obtain ⟨a7, c7, rfl⟩ := ho7.eq_slice
                           obtain ⟨hh, k0, k1, k2, k3, k4, k5, k6, k7⟩ := HUP.out w7 hb7
                           have hk : ∀ u0 u1 u2 u3, ((((w7.setCell ⟨lb, p * 4, none⟩ u0).setCell ⟨lb, p * 4 + 1, none⟩ u1).setCell ⟨lb, p * 4 + 2, none⟩ u2).setCell ⟨lb, p * 4 + 3, none⟩ u3).cell? ⟨sb, 2, none⟩ = some (.slice (some ⟨lb, 0, none⟩) n lc6) := fun u0 u1 u2 u3 => ((chg4i w7 lb (p * 4) u0 u1 u2 u3).blk (HS6.out.kept hb7) H.out.ne.1).cell 2))
                    have hd7 : DataAt w7 N (.slice a7 data.length c7) data := ho7.data fun b hb _ hN => absurd (Nat.lt_of_lt_of_le ((H6'.out.old b) hN) hb) (Nat.lt_irrefl _)
                    have hset := (H6'.out.recs.below hb7).set (i := p) (by have := Hlen.out; omega) ⟨true, name, nm, data⟩ (.slice a7 data.length c7) (H.out.foot lb (.inr (.inl rfl))) hd7
                    have hc8 := chg4i w7 lb (p * 4) (.bool true) (.string name) (.int .i64 (nm : Int)) (.slice a7 data.length c7)
                    obtain ⟨w8, hw8⟩ : ∃ w8, w8 = ((((w7.setCell ⟨lb, p * 4, none⟩ (.bool true)).setCell ⟨lb, p * 4 + 1, none⟩ (.string name)).setCell ⟨lb, p * 4 + 2, none⟩ (.int .i64 (nm : Int))).setCell ⟨lb, p * 4 + 3, none⟩ (.slice a7 data.length c7)) := ⟨_, rfl⟩
                    rw [← hw8] at hset hc8 ⊢
                    have hC8 : Chg (Foot sb lb d L) w6 w8 := (Chg.of_below hb7).trans (hc8.mono fun b hb => .inr (.inl hb))
                    have hC9 := HC6.out.trans hC8
                    have hok8 : (s1.laid p ⟨true, name, nm, data⟩).Ok := by
                      have ho := H6'.out.ok
                      refine ⟨ho.room1, ho.room2, by show 1 ≤ (s1.recs.set p _).length; rw [List.length_set]; exact ho.len1, by show (s1.recs.set p _).length ≤ _; rw [List.length_set]; exact ho.len2, by show _ = (s1.recs.set p _).length * _; rw [List.length_set]; exact ho.size, fun r hr => ?_, ho.few⟩
                      rcases List.mem_or_eq_of_mem_set (show r ∈ s1.recs.set p ⟨true, name, nm, data⟩ from hr) with h | h
                      · exact ho.each r h
                      · subst h; exact ⟨hn, hdl, by have := Hnb.out; show nm ≤ _ + s1.disk.writes; have := Hw1.out; omega⟩
                    have HI8 := Lib.hid (show IsStore w8 N sb lb d L (s1.laid p ⟨true, name, nm, data⟩) from by
                      refine ⟨⟨lc6, ?_, by show (s1.recs.set p _).length ≤ _; rw [List.length_set, Hlen.out]; exact hk1, hk2⟩, hset, (H6'.out.disk.below hb7).chg hc8 (fun e => H.out.ne.2.2.2.1 e.symm) (fun e => H.out.ne.2.2.2.2 e.symm), H6'.out.tab.chg hC8 (fun e => H.out.ntab (H.out.foot _ e)), H.out.ntab, H.out.foot, H.out.ne, hok8, fun b hb => Nat.lt_of_lt_of_le (H6'.out.old b hb) hC8.size⟩
                      show Blk w8 sb (stV d s1.room (some ⟨lb, 0, none⟩) (s1.recs.set p _).length lc6 s1.dead) _
                      rw [List.length_set, Hlen.out]
                      exact hc8.blk (HS6.out.kept hb7) H.out.ne.1)
                    have HC9 := Lib.hid hC9
                    clear hd7 hset hc8 hw8 hC8 hC9 hok8 hh k0 k1 k2 k3 k4 k5 k6 k7 hk ho7 hb7 x2 e0 e1 e2 e3 f0 f1 f2 f4
                    go_wp2
                    go_ret
                    unfold PutPost
                    rw [HPE3.out, Hb.out]
                    exact ⟨rfl, HI8.out, HC9.out⟩
                  · have t0 : (z != 0) = true := by simpa using hz0
                    have HPz := Lib.hid (show putR s name data = (z, s'.writeS A [1]) from by rw [HPE2.out, ← Hz.out, if_pos hz0])
                    clear hz0
                    go_wp2
                    go_ret
                    unfold PutPost
                    rw [HPz.out]
                    exact ⟨rfl, H6.out, HC6.out⟩
            | some j =>
              obtain ⟨hj, rj, hrj, _⟩ := best_lt _ _ _ _ hbst
              have hR3 := H.out.recs.below HB3.out
              obtain ⟨_, _, _, _, e5, _⟩ := hR3.at hrj
              have s2 : w3.cell? ⟨sb, 2, none⟩ = some (.slice (some ⟨lb, 0, none⟩) n lc) := by have := (HS.out.kept HB3.out).cell 2; rw [this, Hn.out]; rfl
              have j0 : (0 : Int) ≤ (j : Int) := by omega
              have j1 : (j : Int) < (n : Int) := by omega
              have nb := (H.out.ok.each rj (List.mem_of_getElem? hrj)).2.2
              obtain ⟨nm, hnm⟩ : ∃ m : Nat, m = rj.num + 1 := ⟨_, rfl⟩
              have Hnm := Lib.hid (show s.num name = nm from by unfold St.num; rw [← Hn.out, hbst, hnm]; show (s.recs.getD j Sto.Rec.free).num + 1 = _; rw [List.getD_eq_getElem?_getD, hrj]; rfl)
              have hnm2 : nm ≤ 9223372036854775807 := by omega
              have Hnb := Lib.hid (show nm ≤ 72057594037927936 + s.disk.writes + 1 from by omega)
              have Hb := Lib.hid hbst
              have HNM := Lib.hid (show Value.int .i64 ((rj.num : Int) + 1) = Value.int .i64 (nm : Int) from by rw [hnm]; rfl)
              clear hbst hrj hR3 hnm
              simp only [optI]
              go_wp2_with fail
              rw [HNM.out]
              clear e5 s2 nb
              refine (bytes_calls name nm _ data w3 (H.out.tab.below HB3.out) (HB.out.below HB3.out) (by omega) (by omega) hdl).mono ?_
              rintro e w4 ⟨tv, rfl, ht, hb4⟩
              have hs3 := HB3.out.size
              have HB4 := Lib.hid (HB3.out.trans (hb4.mono hs3))
              have hs4 := HB4.out.size
              obtain ⟨ta, tc, rfl⟩ := ht.eq_slice
              have h4 := H.out.below HB4.out
              have y1 : w4.cell? ⟨sb, 1, none⟩ = some (.int .i64 s.room) := (HS.out.kept HB4.out).cell 1
              have HT := Lib.hid ht; have H4 := Lib.hid h4
              have hlen := fits_len (by rw [Hf.out] : fitsB s.room name data = true) nm
              obtain ⟨T, hT⟩ : ∃ T, T = Sto.text name nm data := ⟨_, rfl⟩
              rw [← hT] at ht HT hlen ⊢
              have HTT := Lib.hid hT
              have hr1 := H.out.ok.room1; have hr2 := H.out.ok.room2
              obtain ⟨room, hroom⟩ : ∃ r, r = s.room := ⟨_, rfl⟩
              rw [← hroom] at hr1 hr2 y1 hlen
              have Hroom := Lib.hid hroom
              obtain ⟨A, hA⟩ : ∃ A, A = p * (room + 1) := ⟨_, rfl⟩
              have hA2 : A ≤ 1024 * 1025 := by rw [hA]; exact Nat.mul_le_mul (by omega) (by omega)
              have hAr : A + (room + 1) ≤ s.disk.n := by
                have e := H.out.ok.size
                rw [e, ← Hn.out, ← hroom, hA]
                have : (p + 1) * (room + 1) ≤ n * (room + 1) := Nat.mul_le_mul_right _ (by omega)
                rw [Nat.add_mul, Nat.one_mul] at this
                exact this
              have EA := Lib.hid (show (p : Int) * ((room : Int) + 1) = (A : Int) from by rw [hA]; push_cast; rfl)
              have u1 : (0 : Int) ≤ (p : Int) * ((room : Int) + 1) := by rw [EA.out]; omega
              have u2 : (p : Int) * ((room : Int) + 1) ≤ 9223372036854775807 := by rw [EA.out]; omega
              have HA := Lib.hid hA
              have HPE := Lib.hid (show putR s name data = (match St.chunks A room s 0 T with
                | (e, s1) => if e ≠ 0 then (e, s1) else if s1.writeE A [1] ≠ 0 then (s1.writeE A [1], s1.writeS A [1]) else ((s1.writeS A [1]).laid p ⟨true, name, nm, data⟩).done (Sto.best s.recs name n)) from by
                unfold putR
                rw [if_neg (by rw [HP0.out.1]; decide), if_neg (by rw [HP0.out.2]; decide), if_neg (by rw [← Hto.out, ← Hn.out]; omega), ← Hto.out, ← hroom, ← hA, Hnm.out, ← hT, ← Hn.out])
              clear ht h4 hT hroom hA hb4 g2 c2 c3 e0
              go_wp2_with fail
              simp only [EA.out]
              clear u1 u2
              go_loopw [10, 12] (fun u v wr => ∃ (k : Nat) (s' : St) (b' : List UInt8), v = .int .i64 k ∧ Bys wr u b' ∧ Hid (∀ a l c, u = .slice (some a) l c → w.heap.size ≤ a.block) ∧ IsStore wr N sb lb d L s' ∧ Chg (Foot sb lb d L) w wr ∧ Hid (St.chunks A room s 0 T = St.chunks A (room - k) s' k b') ∧ k ≤ room ∧ b'.length ≤ (room - k) * 32 ∧ s.disk.writes ≤ s'.disk.writes ∧ s'.disk.writes ≤ s.disk.writes + k ∧ Hid (s'.recs = s.recs ∧ s'.room = room)) (fun _ v _ => room - (intOf v).toNat)
              case atStart => exact ⟨0, s, T, rfl, HT.out.bys, (fun a l c e => by injection e with e1; have := HT.out.lt a.block (by rw [e1]; rfl); omega), H4.out, Chg.of_below HB4.out, by rw [Nat.sub_zero]; exact rfl, by omega, by simpa using hlen, Nat.le_refl _, by omega, rfl, Hroom.out.symm⟩
              case round =>
                obtain ⟨k, s', b', rfl, hbu, hub, hst, hch, hck, hk, hbl, hwr0, hwr, hsr⟩ := hrel
                obtain ⟨ua, uc, rfl⟩ := hbu.eq_slice
                obtain ⟨l, hl⟩ : ∃ l, l = b'.length := ⟨_, rfl⟩
                rw [← hl] at hbu hub hbl ⊢
                have Hl := Lib.hid hl
                clear hl
                by_cases hb0 : 1 ≤ l
                · have hkr : k < room := by
                    rcases Nat.lt_or_ge k room with h | h
                    · exact h
                    · have : room - k = 0 := by omega
                      rw [this] at hbl; omega
                  obtain ⟨g, o, _, rfl, _⟩ := hbu.at 0 (by have := Hl.out; omega)
                  have hcap : l ≤ uc ∧ uc ≤ maxLen := by
                    obtain ⟨_, _, e, k1, k2, _⟩ := id hbu
                    injection e with e1 e2 e3
                    subst e3
                    exact ⟨by have := Hl.out; omega, k2⟩
                  have hm2 : uc ≤ 9223372036854775807 := by unfold maxLen at hcap; omega
                  obtain ⟨nn, hnn⟩ : ∃ m, m = min l 32 := ⟨_, rfl⟩
                  have hmin : min (l : Int) 32 = (nn : Int) := by rw [hnn]; omega
                  have hnn1 : nn ≤ l := by omega
                  have hnn2 : 1 ≤ nn ∧ nn ≤ 32 := by omega
                  have htk : b'.take nn = b'.take 32 := by
                    rcases Nat.lt_or_ge 32 l with h | h
                    · rw [show nn = 32 from by omega]
                    · rw [List.take_of_length_le (by have := Hl.out; omega), List.take_of_length_le (by have := Hl.out; omega)]
                  have hdr : b'.drop nn = b'.drop 32 := by
                    rcases Nat.lt_or_ge 32 l with h | h
                    · rw [show nn = 32 from by omega]
                    · rw [List.drop_eq_nil_of_le (by have := Hl.out; omega), List.drop_eq_nil_of_le (by have := Hl.out; omega)]
                  have hX : Bys wr (.slice (some ⟨g, o, none⟩) nn uc) (b'.take 32) := by rw [← htk]; exact hbu.take nn (by have := Hl.out; omega)
                  have hY : ∀ w', Bys w' (.slice (some ⟨g, o, none⟩) l uc) b' → Bys w' (.slice (if uc = nn then some ⟨g, o, none⟩ else some ⟨g, o + nn, none⟩) (l - nn) (uc - nn)) (b'.drop 32) := fun w' hbw => by
                    rw [← hdr]
                    split
                    · have e : l = nn := by omega
                      rw [List.drop_eq_nil_of_le (by have := Hl.out; omega), e, Nat.sub_self]
                      exact ⟨some ⟨g, o, none⟩, uc - nn, rfl, Nat.zero_le _, by omega, fun h => by simp at h⟩
                    · have := bys_drop hbw nn (l - nn) (uc - nn) (by have := Hl.out; omega) (by omega) (by omega)
                      rwa [List.take_of_length_le (by have := Hl.out; simp; omega)] at this
                  have i5 : (nn : Int) ≤ (uc : Int) := by omega
                  have i6 : (nn : Int) ≤ (l : Int) := by omega
                  have i7 : (0 : Int) ≤ (nn : Int) := by omega
                  have i8 : (0 : Int) < (l : Int) := by omega
                  have Hmn := Lib.hid hnn; have HY := Lib.hid hY; have HX := Lib.hid hX; have HBU := Lib.hid hbu; have Hst := Lib.hid hst; have Hch := Lib.hid hch
                  obtain ⟨hc1, hc2⟩ := hcap
                  have Hc2 := Lib.hid hc2
                  have hne : b' ≠ [] := fun e => by have := Hl.out; rw [e] at this; simp at this; omega
                  have hgb := hub.out _ _ _ rfl
                  have Hne := Lib.hid hne
                  clear hnn htk hdr hX hY hbu hst hch hc2 hne
                  go_wp2_with fail
                  rw [show (A : Int) + 1 + (k : Int) = ((A + 1 + k : Nat) : Int) from by push_cast; rfl]
                  refine (write_calls N sb lb d L (A + 1 + k) s' _ (b'.take 32) wr Hst.out HX.out (by omega)).mono ?_
                  rintro e w6 ⟨rfl, h6, hc6⟩
                  obtain ⟨z, hz⟩ : ∃ z, z = s'.writeE (A + 1 + k) (b'.take 32) := ⟨_, rfl⟩
                  rw [← hz]
                  have Hz := Lib.hid hz; have H6 := Lib.hid h6; have HC6 := Lib.hid hc6
                  clear hz h6 hc6
                  have Hrk := Lib.hid (show room - k = (room - (k + 1)) + 1 from by omega)
                  by_cases hz0 : z = 0
                  · subst hz0
                    have Hstep := Lib.hid (show St.chunks A room s 0 T = St.chunks A (room - (k + 1)) (s'.writeS (A + 1 + k) (b'.take 32)) (k + 1) (b'.drop 32) from by
                      rw [hck.out, Hrk.out, St.chunks, if_neg Hne.out, ← Hz.out, if_neg (by simp)])
                    have hw6 : (s'.writeS (A + 1 + k) (b'.take 32)).disk.writes ≤ s'.disk.writes + 1 := DiskS.wr_writes _ _ _
                    have hbl2 : (b'.drop 32).length ≤ (room - (k + 1)) * 32 := by
                      rw [List.length_drop]; have := Hl.out; have := Hrk.out; rw [this] at hbl; omega
                    have hb6 : Bys w6 (.slice (some ⟨g, o, none⟩) l uc) b' := HBU.out.chg HC6.out (fun a l' c' e hS => by injection e with e1; injection e1 with e1; subst e1; exact absurd (Nat.lt_of_lt_of_le (H.out.lt _ hS) hgb) (Nat.lt_irrefl _))
                    have Hfin := Lib.hid (HY.out w6 hb6)
                    clear hb6
                    go_wp2
                    exact ⟨⟨k + 1, _, b'.drop 32, by go_num, Hfin.out, (fun a l' c' e => by
                      injection e with e1
                      split at e1
                      · injection e1 with e1; subst e1; exact hgb
                      · injection e1 with e1; subst e1; exact hgb), H6.out, Hch.out.trans HC6.out, Hstep.out, by omega, hbl2, Nat.le_trans hwr0 (DiskS.wr_ge _ _ _), by omega, ⟨hsr.out.1, hsr.out.2⟩⟩, by simp [intOf] <;> omega⟩
                  · have t0 : (z != 0) = true := by simpa using hz0
                    have HPz := Lib.hid (show putR s name data = (z, s'.writeS (A + 1 + k) (b'.take 32)) from by
                      rw [HPE.out, hck.out, Hrk.out, St.chunks, if_neg Hne.out, ← Hz.out, if_pos hz0]
                      simp only [if_pos hz0])
                    clear hz0
                    go_wp2
                    go_ret
                    unfold PutPost
                    rw [HPz.out]
                    exact ⟨rfl, H6.out, Hch.out.trans HC6.out⟩
                · obtain rfl : l = 0 := by omega
                  have hbe : b' = [] := List.eq_nil_of_length_eq_zero Hl.out.symm
                  have HPE2 := Lib.hid (show putR s name data = (if s'.writeE A [1] ≠ 0 then (s'.writeE A [1], s'.writeS A [1]) else ((s'.writeS A [1]).laid p ⟨true, name, nm, data⟩).done (Sto.best s.recs name n)) from by
                    have e : St.chunks A (room - k) s' k b' = (0, s') := by
                      rw [hbe]
                      cases room - k with
                      | zero => rfl
                      | succ m => rw [St.chunks, if_pos rfl]
                    rw [HPE.out, hck.out, e]
                    simp)
                  have Hst := Lib.hid hst; have Hch := Lib.hid hch
                  clear hbe hst hch hbu hub hb0
                  go_wp2_with fail
                  have hal := fun (o : Obj) => (Below.refl wr.heap.size wr).alloc (Nat.le_refl _) o
                  refine (write_calls N sb lb d L A s' _ [1] _ (Hst.out.below (hal _)) (bys_one wr 1 _ rfl _) (by omega)).mono ?_
                  rintro e w6 ⟨rfl, h6, hc6⟩
                  obtain ⟨z, hz⟩ : ∃ z, z = s'.writeE A [1] := ⟨_, rfl⟩
                  rw [← hz]
                  have Hz := Lib.hid hz; have H6 := Lib.hid h6
                  have HC6 := Lib.hid (show Chg (Foot sb lb d L) w w6 from (Hch.out.trans (Chg.of_below (hal _))).trans hc6)
                  clear hz h6 hc6 hal
                  by_cases hz0 : z = 0
                  · subst hz0
                    obtain ⟨s1, hs1⟩ : ∃ x, x = s'.writeS A [1] := ⟨_, rfl⟩
                    have HPE3 := Lib.hid (show putR s name data = (s1.laid p ⟨true, name, nm, data⟩).done (Sto.best s.recs name n) from by rw [HPE2.out, ← Hz.out, if_neg (by simp), hs1])
                    have h6 := H6.out
                    rw [← hs1] at h6
                    have hrec1 : s1.recs = s.recs := by rw [hs1]; exact hsr.out.1
                    have hlen1 : s1.recs.length = n := by rw [hrec1, Hn.out]
                    have hw1 : s1.disk.writes ≤ s'.disk.writes + 1 := by rw [hs1]; exact DiskS.wr_writes _ _ _
                    obtain ⟨lc6, hS6, hk1, hk2⟩ := h6.blk
                    rw [hlen1] at hS6 hk1
                    have x2 : w6.cell? ⟨sb, 2, none⟩ = some (.slice (some ⟨lb, 0, none⟩) n lc6) := hS6.cell 2
                    obtain ⟨r6, hr6⟩ : ∃ r, s1.recs[p]? = some r := ⟨s1.recs[p]'(by omega), by simp⟩
                    obtain ⟨ra, rc, e0, e1, e2, e3, _, ef⟩ := h6.recs.at hr6
                    have f0 := ef (p * 4); have f1 := ef (p * 4 + 1); have f2 := ef (p * 4 + 2); have f4 := ef (p * 4 + 3)
                    have h6b : Bys w6 v data := HV.out _ HC6.out
                    have HB6 := Lib.hid h6b; have Hw1 := Lib.hid (show s.disk.writes + 1 ≤ s1.disk.writes from by rw [hs1, show (s'.writeS A [1]).disk.writes = s'.disk.writes + 1 from wr_inc Hz.out.symm]; omega); have Hw2 := Lib.hid (show s1.disk.writes ≤ s.disk.writes + k + 1 from by omega); have H6' := Lib.hid h6; have HS6 := Lib.hid hS6; have Hrec := Lib.hid hrec1; have Hlen := Lib.hid hlen1; have Hs1 := Lib.hid hs1
                    clear h6 hS6 hrec1 hlen1 hr6 ef h6b hs1
                    go_wp2_with fail
                    have hup : ∀ w', Below w6.heap.size w6 w' → (w'.cell? ⟨sb, 2, none⟩ = some (.slice (some ⟨lb, 0, none⟩) n lc6) ∧ w'.cell? ⟨lb, p * 4, none⟩ = some (.bool r6.is) ∧ w'.cell? ⟨lb, p * 4 + 1, none⟩ = some (.string r6.name) ∧ w'.cell? ⟨lb, p * 4 + 2, none⟩ = some (.int .i64 r6.num) ∧ w'.cell? ⟨lb, p * 4 + 3, none⟩ = some (.slice ra r6.data.length rc) ∧ w'.frozen? ⟨lb, p * 4, none⟩ = false ∧ w'.frozen? ⟨lb, p * 4 + 1, none⟩ = false ∧ w'.frozen? ⟨lb, p * 4 + 2, none⟩ = false ∧ w'.frozen? ⟨lb, p * 4 + 3, none⟩ = false) := fun w' hb' => by
                      have hx := H6'.out.below hb'
                      obtain ⟨arr, vs, hBl, _⟩ := H6'.out.recs
                      have hBl' := hBl.kept hb'
                      exact ⟨((HS6.out.kept hb').cell 2), by rw [hBl'.cell, ← hBl.cell]; exact e0, by rw [hBl'.cell, ← hBl.cell]; exact e1, by rw [hBl'.cell, ← hBl.cell]; exact e2, by rw [hBl'.cell, ← hBl.cell]; exact e3, hBl'.free _, hBl'.free _, hBl'.free _, hBl'.free _⟩
                    have HUP := Lib.hid hup
                    have HUP0 := Lib.hid (hup w6.drew (below_drewN (Below.refl _ _) 1))
                    clear hup
                    have HUP1 := Lib.hid (show w6.drew.cell? ⟨sb, 2, none⟩ = some (.slice (some ⟨lb, 0, none⟩) n lc6) from HUP0.out.1)
                    go_region_held3 (fun w' => w'.cell? ⟨sb, 2, none⟩ = some (.slice (some ⟨lb, 0, none⟩) n lc6)) (first | with_reducible exact hh | with_reducible exact HUP1.out | with_reducible exact hk _ _ _ _)
                      (first
                        | (refine stepAppX E8c (by rfl) _ _ (by rfl) (base := w6.heap.size) (bs := []) (news := data) (by rfl) (by rfl) (OwnX.nil _ _ _) (by exact HB6.out.drewN 1) (by simp; omega) (by exact Nat.le_refl _) ?_
                           intro v7 w7 ho7 hg7
                           have hb7 : Below w6.heap.size w6 w7 := of_drew (grown_none hg7 rfl)
                           have ho7 : OwnX 5 w7 w6.heap.size v7 data := ho7
                           obtain ⟨a7, c7, rfl⟩ := ho7.eq_slice
                           obtain ⟨hh, k0, k1, k2, k3, k4, k5, k6, k7⟩ := HUP.out w7 hb7
                           have hk : ∀ u0 u1 u2 u3, ((((w7.setCell ⟨lb, p * 4, none⟩ u0).setCell ⟨lb, p * 4 + 1, none⟩ u1).setCell ⟨lb, p * 4 + 2, none⟩ u2).setCell ⟨lb, p * 4 + 3, none⟩ u3).cell? ⟨sb, 2, none⟩ = some (.slice (some ⟨lb, 0, none⟩) n lc6) := fun u0 u1 u2 u3 => ((chg4i w7 lb (p * 4) u0 u1 u2 u3).blk (HS6.out.kept hb7) H.out.ne.1).cell 2))
                    have hd7 : DataAt w7 N (.slice a7 data.length c7) data := ho7.data fun b hb _ hN => absurd (Nat.lt_of_lt_of_le ((H6'.out.old b) hN) hb) (Nat.lt_irrefl _)
                    have hset := (H6'.out.recs.below hb7).set (i := p) (by have := Hlen.out; omega) ⟨true, name, nm, data⟩ (.slice a7 data.length c7) (H.out.foot lb (.inr (.inl rfl))) hd7
                    have hc8 := chg4i w7 lb (p * 4) (.bool true) (.string name) (.int .i64 (nm : Int)) (.slice a7 data.length c7)
                    obtain ⟨w8, hw8⟩ : ∃ w8, w8 = ((((w7.setCell ⟨lb, p * 4, none⟩ (.bool true)).setCell ⟨lb, p * 4 + 1, none⟩ (.string name)).setCell ⟨lb, p * 4 + 2, none⟩ (.int .i64 (nm : Int))).setCell ⟨lb, p * 4 + 3, none⟩ (.slice a7 data.length c7)) := ⟨_, rfl⟩
                    rw [← hw8] at hset hc8 ⊢
                    have hC8 : Chg (Foot sb lb d L) w6 w8 := (Chg.of_below hb7).trans (hc8.mono fun b hb => .inr (.inl hb))
                    have hC9 := HC6.out.trans hC8
                    have hok8 : (s1.laid p ⟨true, name, nm, data⟩).Ok := by
                      have ho := H6'.out.ok
                      refine ⟨ho.room1, ho.room2, by show 1 ≤ (s1.recs.set p _).length; rw [List.length_set]; exact ho.len1, by show (s1.recs.set p _).length ≤ _; rw [List.length_set]; exact ho.len2, by show _ = (s1.recs.set p _).length * _; rw [List.length_set]; exact ho.size, fun r hr => ?_, ho.few⟩
                      rcases List.mem_or_eq_of_mem_set (show r ∈ s1.recs.set p ⟨true, name, nm, data⟩ from hr) with h | h
                      · exact ho.each r h
                      · subst h; exact ⟨hn, hdl, by have := Hnb.out; show nm ≤ _ + s1.disk.writes; have := Hw1.out; omega⟩
                    have Hs1w := Lib.hid (show s1.disk.writes ≤ s.disk.writes + room + 2 from by have := Hw2.out; omega)
                    have HI8 := Lib.hid (show IsStore w8 N sb lb d L (s1.laid p ⟨true, name, nm, data⟩) from by
                      refine ⟨⟨lc6, ?_, by show (s1.recs.set p _).length ≤ _; rw [List.length_set, Hlen.out]; exact hk1, hk2⟩, hset, (H6'.out.disk.below hb7).chg hc8 (fun e => H.out.ne.2.2.2.1 e.symm) (fun e => H.out.ne.2.2.2.2 e.symm), H6'.out.tab.chg hC8 (fun e => H.out.ntab (H.out.foot _ e)), H.out.ntab, H.out.foot, H.out.ne, hok8, fun b hb => Nat.lt_of_lt_of_le (H6'.out.old b hb) hC8.size⟩
                      show Blk w8 sb (stV d s1.room (some ⟨lb, 0, none⟩) (s1.recs.set p _).length lc6 s1.dead) _
                      rw [List.length_set, Hlen.out]
                      exact hc8.blk (HS6.out.kept hb7) H.out.ne.1)
                    have HC9 := Lib.hid hC9
                    clear hd7 hset hc8 hw8 hC8 hC9 hok8 hh k0 k1 k2 k3 k4 k5 k6 k7 hk ho7 hb7 x2 e0 e1 e2 e3 f0 f1 f2 f4
                    have j9 : j < (s1.laid p ⟨true, name, nm, data⟩).recs.length := by show j < (s1.recs.set p _).length; rw [List.length_set, Hlen.out]; exact hj
                    go_wp2_with fail
                    refine (free_at N sb lb d L j _ w8 HI8.out j9 (by show s1.disk.writes < _; have := Hs1w.out; omega)).mono ?_
                    rintro e w9 ⟨rfl, h9, hc9⟩
                    go_wp2
                    go_ret
                    unfold PutPost
                    rw [HPE3.out, Hb.out]
                    exact ⟨rfl, h9, HC9.out.trans hc9⟩
                  · have t0 : (z != 0) = true := by simpa using hz0
                    have HPz := Lib.hid (show putR s name data = (z, s'.writeS A [1]) from by rw [HPE2.out, ← Hz.out, if_pos hz0])
                    clear hz0
                    go_wp2
                    go_ret
                    unfold PutPost
                    rw [HPz.out]
                    exact ⟨rfl, H6.out, HC6.out⟩
      · subst hpn
        by_cases hd : s.dead = true
        · have HP := Lib.hid (show putR s name data = (8, s) from by unfold putR; rw [if_pos hd])
          rw [hd] at c3
          clear hd
          go_wp2
          go_ret
          unfold PutPost
          rw [HP.out]
          exact ⟨rfl, H.out, Chg.refl _ _⟩
        · have hd : s.dead = false := by simpa using hd
          by_cases hf : fitsB s.room name data = false
          · have HP := Lib.hid (show putR s name data = (1, s) from by unfold putR; rw [if_neg (by rw [hd]; decide), if_pos hf])
            rw [hd] at c3
            have Hf := Lib.hid hf
            clear hd hf
            go_wp2_with fail
            refine (fits_calls N sb lb d L s name _ data w H.out HB.out (by omega)).mono ?_
            rintro e w2 ⟨rfl, hb2⟩
            rw [Hf.out]
            go_wp2
            go_ret
            unfold PutPost
            rw [HP.out]
            exact ⟨rfl, H.out.below hb2, Chg.of_below hb2⟩
          · have hf : fitsB s.room name data = true := by simpa using hf
            have HP := Lib.hid (show putR s name data = (3, s) from by unfold putR; rw [if_neg (by rw [hd]; decide), if_neg (by rw [hf]; decide), if_pos (by rw [← Hto.out, ← Hn.out])])
            rw [hd] at c3
            have Hf := Lib.hid hf
            clear hd hf
            go_wp2_with fail
            refine (fits_calls N sb lb d L s name _ data w H.out HB.out (by omega)).mono ?_
            rintro e w2 ⟨rfl, hb2⟩
            rw [Hf.out]
            have g2 : w2.cell? ⟨sb, 2, none⟩ = some (.slice (some ⟨lb, 0, none⟩) p lc) := by have := (HS.out.kept hb2).cell 2; rw [this, Hn.out]; rfl
            have tp : ((p : Int) == (p : Int)) = true := by simp
            go_wp2
            go_ret
            unfold PutPost
            rw [HP.out]
            exact ⟨rfl, H.out.below hb2, Chg.of_below hb2⟩
end Go.Proofs.YtehgnkdfnnebcaaGreatDoor
end
section
namespace Cod
open Go.Lib
def sizeRGo : List UInt8 → Nat → Nat → Nat × Nat
  | [], n, d => (n, d)
  | c :: r, n, d => if 48 ≤ c.toNat ∧ c.toNat ≤ 57 ∧ d < 6 then sizeRGo r (10 * n + (c.toNat - 48)) (d + 1) else (n, d)
def sizeR (b : List UInt8) : Nat × Nat := sizeRGo b 0 0
theorem sizeRGo_step {l : List UInt8} {n d : Nat} {c : UInt8} {r : List UInt8} (hl : l = c :: r) (h : 48 ≤ c.toNat ∧ c.toNat ≤ 57 ∧ d < 6) : sizeRGo l n d = sizeRGo r (10 * n + (c.toNat - 48)) (d + 1) := by
  subst hl; rw [sizeRGo, if_pos h]
theorem sizeRGo_stop {l : List UInt8} {n d : Nat} (h : ∀ c r, l = c :: r → ¬ (48 ≤ c.toNat ∧ c.toNat ≤ 57 ∧ d < 6)) : sizeRGo l n d = (n, d) := by
  cases l with
  | nil => rfl
  | cons c r => rw [sizeRGo, if_neg (h c r rfl)]
theorem sizeRGo_le : ∀ (l : List UInt8) (n d : Nat), d ≤ 6 → n < 10 ^ d → (sizeRGo l n d).1 < 10 ^ (sizeRGo l n d).2 ∧ (sizeRGo l n d).2 ≤ 6 ∧ d ≤ (sizeRGo l n d).2 ∧ n ≤ (sizeRGo l n d).1 ∧ (sizeRGo l n d).2 ≤ d + l.length
  | [], n, d, h, h2 => by simp [sizeRGo]; omega
  | c :: r, n, d, h, h2 => by
    rw [sizeRGo]
    by_cases hc : 48 ≤ c.toNat ∧ c.toNat ≤ 57 ∧ d < 6
    · rw [if_pos hc]
      have := sizeRGo_le r (10 * n + (c.toNat - 48)) (d + 1) (by omega) (by rw [Nat.pow_succ]; omega)
      simp only [List.length_cons]
      omega
    · rw [if_neg hc]; simp only [List.length_cons]; omega
theorem sizeR_le (b : List UInt8) : (sizeR b).1 < 1000000 ∧ (sizeR b).2 ≤ 6 ∧ (sizeR b).2 ≤ b.length := by
  have := sizeRGo_le b 0 0 (by omega) (by decide)
  unfold sizeR
  have h2 : 10 ^ (sizeRGo b 0 0).2 ≤ 10 ^ 6 := Nat.pow_le_pow_right (by decide) this.2.1
  omega
theorem size_of_prog : ∀ (l : List UInt8) (n d : Nat), (sizeGo l n d).1 ≤ 16384 → (sizeGo l n d).2 ≤ 6 → sizeRGo l n d = sizeGo l n d
  | [], n, d, _, _ => rfl
  | c :: r, n, d, h1, h2 => by
    rw [sizeGo] at h1 h2 ⊢
    rw [sizeRGo]
    by_cases hc : 48 ≤ c.toNat ∧ c.toNat ≤ 57 ∧ n ≤ 16384
    · rw [if_pos hc] at h1 h2 ⊢
      have hs := sizeGo_le r (10 * n + (c.toNat - 48)) (d + 1) (by omega)
      rw [if_pos ⟨hc.1, hc.2.1, by omega⟩]
      exact size_of_prog r _ _ h1 h2
    · rw [if_neg hc] at h1 h2 ⊢
      simp only at h1 h2
      rw [if_neg (by omega)]
theorem size_grows : ∀ (l : List UInt8) (n d : Nat), n * 10 ^ ((sizeGo l n d).2 - d) ≤ (sizeGo l n d).1 ∧ d ≤ (sizeGo l n d).2
  | [], n, d => by simp [sizeGo]
  | c :: r, n, d => by
    rw [sizeGo]
    by_cases hc : 48 ≤ c.toNat ∧ c.toNat ≤ 57 ∧ n ≤ 16384
    · rw [if_pos hc]
      have ih := size_grows r (10 * n + (c.toNat - 48)) (d + 1)
      generalize (sizeGo r (10 * n + (c.toNat - 48)) (d + 1)) = p at ih
      refine ⟨?_, by omega⟩
      have e : p.2 - d = (p.2 - (d + 1)) + 1 := by omega
      rw [e, Nat.pow_succ]
      refine Nat.le_trans ?_ ih.1
      rw [Nat.mul_comm (10 ^ _) 10, ← Nat.mul_assoc]
      exact Nat.mul_le_mul_right _ (by omega)
    · rw [if_neg hc]; simp
theorem size_of_ref : ∀ (l : List UInt8) (n d : Nat), (sizeRGo l n d).1 ≤ 16384 → (∀ c, l[(sizeRGo l n d).2 - d]? = some c → ¬ (48 ≤ c.toNat ∧ c.toNat ≤ 57)) → d ≤ 6 → n < 10 ^ d → sizeGo l n d = sizeRGo l n d
  | [], n, d, _, _, _, _ => rfl
  | c :: r, n, d, h1, h2, h3, h4 => by
    rw [sizeRGo] at h1 h2 ⊢
    rw [sizeGo]
    by_cases hc : 48 ≤ c.toNat ∧ c.toNat ≤ 57 ∧ d < 6
    · rw [if_pos hc] at h1 h2 ⊢
      have hn : 10 * n + (c.toNat - 48) < 10 ^ (d + 1) := by rw [Nat.pow_succ]; omega
      have hs := sizeRGo_le r (10 * n + (c.toNat - 48)) (d + 1) (by omega) hn
      rw [if_pos ⟨hc.1, hc.2.1, by omega⟩]
      refine size_of_ref r _ _ h1 (fun c' hc' => h2 c' ?_) (by omega) hn
      rw [show (sizeRGo r (10 * n + (c.toNat - 48)) (d + 1)).2 - d = ((sizeRGo r (10 * n + (c.toNat - 48)) (d + 1)).2 - (d + 1)) + 1 from by omega, List.getElem?_cons_succ]
      exact hc'
    · rw [if_neg hc] at h1 h2 ⊢
      have := h2 c (by simp)
      rw [if_neg (by omega)]
theorem size_same {b : List UInt8} (h1 : 1 ≤ (size b).2) (h2 : ¬ (1 < (size b).2 ∧ b.getD 0 0 = 48)) (h3 : (size b).1 ≤ 16384) : sizeR b = size b := by
  refine size_of_prog b 0 0 h3 ?_
  have hp := h2
  show (size b).2 ≤ 6
  rcases Nat.lt_or_ge 1 (size b).2 with h | h
  · cases b with
    | nil => simp [size, sizeGo] at h
    | cons c r =>
      have hc : c ≠ 48 := fun e => hp ⟨h, by rw [e]; rfl⟩
      have hd : 48 ≤ c.toNat ∧ c.toNat ≤ 57 ∧ 0 ≤ 16384 := by
        refine Classical.byContradiction fun hn => ?_
        rw [size, sizeGo, if_neg hn] at h
        exact absurd h (by decide)
      have e : size (c :: r) = sizeGo r (10 * 0 + (c.toNat - 48)) (0 + 1) := by rw [size, sizeGo, if_pos hd]
      have hg := size_grows r (10 * 0 + (c.toNat - 48)) (0 + 1)
      rw [← e] at hg
      have hc1 : 1 ≤ 10 * 0 + (c.toNat - 48) := by
        have : c.toNat ≠ 48 := fun e => hc (by rw [← UInt8.toNat_inj]; exact e)
        omega
      have h5 : 10 ^ ((size (c :: r)).2 - (0 + 1)) ≤ 16384 := by
        refine Nat.le_trans ?_ (Nat.le_trans hg.1 h3)
        exact Nat.le_mul_of_pos_left _ hc1
      refine Classical.byContradiction fun hn => ?_
      have : 10 ^ 6 ≤ 10 ^ ((size (c :: r)).2 - (0 + 1)) := Nat.pow_le_pow_right (by decide) (by omega)
      omega
  · omega
def badR (b : List UInt8) : Prop := (sizeR b).2 = 0 ∨ b.length ≤ (sizeR b).2 ∨ b.getD (sizeR b).2 0 ≠ 58 ∨ (b.getD 0 0 = 48 ∧ 1 < (sizeR b).2) ∨ 16384 < (sizeR b).1 ∨ b.length < (sizeR b).2 + (sizeR b).1 + 2 ∨ b.getD ((sizeR b).2 + 1 + (sizeR b).1) 0 ≠ 44
theorem take_good {b : List UInt8} (h : ¬ badR b) : sizeR b = size b ∧ takeNet b = some ((b.drop ((sizeR b).2 + 1)).take (sizeR b).1, b.drop ((sizeR b).2 + (sizeR b).1 + 2)) := by
  unfold badR at h
  simp only [not_or, not_and, Nat.not_lt, Nat.not_le, ne_eq, Decidable.not_not] at h
  obtain ⟨h1, h2, h3, h4, h5, h6, h7⟩ := h
  have e : size b = sizeR b := size_of_ref b 0 0 h5 (fun c hc => by
    have hc2 : b[(sizeR b).2]? = some c := hc
    rw [List.getD_eq_getElem?_getD, hc2] at h3
    have : c = 58 := h3
    subst this
    decide) (by omega) (by decide)
  refine ⟨e.symm, ?_⟩
  unfold takeNet bad1 bad2
  rw [e]
  have a1 : ((sizeR b).2 == 0) = false := by simpa using h1
  have a2 : (decide (1 < (sizeR b).2) && (b.getD 0 0 == 48)) = false := by
    by_cases hz : b.getD 0 0 = 48
    · have := h4 hz
      rw [decide_eq_false (by omega)]; rfl
    · have : (b.getD 0 0 == 48) = false := by simpa using hz
      rw [this, Bool.and_false]
  have a3 : decide (16384 < (sizeR b).1) = false := by simpa using h5
  have a4 : decide (b.length < (sizeR b).2 + (sizeR b).1 + 2) = false := by simpa using h6
  have a5 : (b.getD (sizeR b).2 0 != 58) = false := by simpa using h3
  have a6 : (b.getD ((sizeR b).2 + 1 + (sizeR b).1) 0 != 44) = false := by simpa using h7
  rw [a1, a2, a3, a4, a5, a6]
  rfl
theorem take_some {b x y : List UInt8} (h : takeNet b = some (x, y)) : ¬ badR b ∧ x = (b.drop ((sizeR b).2 + 1)).take (sizeR b).1 ∧ y = b.drop ((sizeR b).2 + (sizeR b).1 + 2) := by
  have hb : bad1 b = false ∧ bad2 b = false := by
    unfold takeNet at h
    cases e1 : bad1 b with
    | true => rw [e1] at h; cases h
    | false =>
      rw [e1] at h
      cases e2 : bad2 b with
      | true => rw [e2] at h; cases h
      | false => exact ⟨rfl, rfl⟩
  have h1 := hb.1
  have h2 := hb.2
  unfold bad1 at h1
  unfold bad2 at h2
  simp only [Bool.or_eq_false_iff, beq_eq_false_iff_ne, ne_eq, Bool.and_eq_false_iff, decide_eq_false_iff_not, Nat.not_lt, bne_eq_false_iff_eq] at h1 h2
  have e : sizeR b = size b := size_same (by omega) (by
    rintro ⟨c1, c2⟩
    rcases h1.1.2 with h | h
    · omega
    · exact h c2) h1.2
  have hn : ¬ badR b := by
    unfold badR
    rw [e]
    rintro (c | c | c | c | c | c | c)
    · exact h1.1.1 c
    · omega
    · exact c h2.1.2
    · rcases h1.1.2 with h | h
      · omega
      · exact h c.1
    · omega
    · omega
    · exact c h2.2
  refine ⟨hn, ?_⟩
  have := (take_good hn).2
  rw [h] at this
  injection this with this
  injection this with t1 t2
  exact ⟨t1, t2⟩
end Cod
end
section
namespace Go.Proofs.YtehgnkdfnnebcaaGreatDoor
open Go Go.RowKit Go.Mem Gf
attribute [local go_sem ↓] Go.wp_at_zero Go.wp_at_succ
set_option maxRecDepth 20000 in
set_option maxHeartbeats 1000000 in
theorem rput_calls (n : Nat) (m : Nat) (hn : n ≤ 9223372036854775807) (h1 : 1 ≤ m) (hm : m ≤ 8) (w : World) :
    Calls Tryz.prog 61 #[.int .i64 n, .int .i64 m] w fun e w' => ∃ v, e = .returned v ∧ OwnF 5 w' w.heap.size v (Cod.be m n) ∧ Below w.heap.size w w' := by
  have hmk : ∀ w, (Instr.makeSlice 29 (.int .i64 (m : Int)) (.int .i64 (m : Int))).run Tryz.prog w = .ok (.slice (some ⟨w.heap.size, 0, none⟩) m m) (w.alloc (.cells (rowArr m fun _ => 0) 5)) := fun w => by
    have := make_bytes (P := Tryz.prog) 29 5 Tryz.underlying29 E8k m (by omega) w
    rw [rowArr_zero] at this
    exact this
  have hmx : min (m : Int) 8 = m := by omega
  have n0 : decide ((n : Int) < 0) = false := by simp
  have hB0 : Blk (w.alloc (.cells (rowArr m fun _ => 0) 5)) w.heap.size (rowArr m fun _ => 0) 5 := Blk.new _ _ _
  go_enter Tryz.func61, Tryz.ntmps61
  go_wp2_with fail
  go_loopw [0, 6] (fun u v wr => ∃ (k j : Nat), k + j = m ∧ u = .int .i64 ((n / 256 ^ k : Nat) : Int) ∧ v = .int .i64 ((j : Int) - 1) ∧ Blk wr w.heap.size (rowArr m fun x => if j ≤ x then UInt8.ofNat (n / 256 ^ (m - 1 - x)) else 0) 5 ∧ Below w.heap.size w wr) (fun _ v _ => (intOf v + 1).toNat)
  case atStart => exact ⟨0, m, by omega, by simp, rfl, by rw [rowArr_congr (m := m) (f := fun x => if m ≤ x then UInt8.ofNat (n / 256 ^ (m - 1 - x)) else 0) (g := fun _ => 0) (fun x hx => if_neg (by omega))]; exact hB0, (Below.refl _ _).alloc (Nat.le_refl _) _⟩
  case round =>
    clear hB0 hmk
    obtain ⟨k, j, hkj, rfl, rfl, hB, hb⟩ := hrel
    by_cases h0 : 1 ≤ j
    · obtain ⟨i, rfl⟩ : ∃ i, j = i + 1 := ⟨j - 1, by omega⟩
      have e1 : ((i + 1 : Nat) : Int) - 1 = (i : Int) := by omega
      rw [e1]
      have c1 : wr.cell? ⟨w.heap.size, i, none⟩ = some (.int .u8 0) := by rw [hB.cell, rowArr_get _ _ _ (by omega), if_neg (by omega)]; rfl
      have f1 := hB.free i
      obtain ⟨q, hq⟩ : ∃ q, q = n / 256 ^ k := ⟨_, rfl⟩
      have hq1 : q ≤ 9223372036854775807 := by rw [hq]; exact Nat.le_trans (Nat.div_le_self _ _) hn
      rw [← hq]
      have Hq := Lib.hid hq; have HB := Lib.hid hB
      have q8 : ((UInt8.ofNat q).toNat : Int) = (q : Int) % 256 := by rw [UInt8.toNat_ofNat']; rfl
      have HQ8 := Lib.hid q8
      clear hq hB q8
      go_wp2
      refine ⟨⟨k + 1, i, by omega, ?_, rfl, ?_, hb.setCell (Nat.le_refl _) _⟩, by simp [intOf] <;> omega⟩
      · rw [Nat.pow_succ, ← Nat.div_div_eq_div_mul, ← Hq.out]; congr 1
      · have := HB.out.set i (.int .u8 (((UInt8.ofNat q).toNat : Nat) : Int))
        rw [rowArr_set] at this
        rw [show ((q : Int) % 256) = (((UInt8.ofNat q).toNat : Nat) : Int) from HQ8.out.symm]
        rw [← rowArr_congr (m := m) (f := fun x => if x = i then UInt8.ofNat q else if i + 1 ≤ x then UInt8.ofNat (n / 256 ^ (m - 1 - x)) else 0) (fun x hx => ?_)]
        · exact this
        · by_cases e : x = i
          · subst e; rw [if_pos rfl, if_pos (Nat.le_refl _), Hq.out, show m - 1 - x = k from by omega]
          · rw [if_neg e]
            by_cases e2 : i + 1 ≤ x
            · rw [if_pos e2, if_pos (by omega)]
            · rw [if_neg e2, if_neg (by omega)]
    · obtain rfl : j = 0 := by omega
      go_wp2
      go_ret
      refine ⟨_, rfl, ?_, hb⟩
      have := ownF_row (base := w.heap.size) hB (Nat.le_refl _) (by omega)
      rw [← rowL_be, rowL_congr (g := fun x => if 0 ≤ x then UInt8.ofNat (n / 256 ^ (m - 1 - x)) else 0) (fun x hx => (if_pos (Nat.zero_le _)).symm)]
      exact this
theorem rput_x (n : Nat) (m : Nat) (hn : n ≤ 9223372036854775807) (h1 : 1 ≤ m) (hm : m ≤ 8) (w : World) :
    Calls Tryz.prog 61 #[.int .i64 n, .int .i64 m] w fun e w' => ∃ v, e = .returned v ∧ OwnX 5 w' w.heap.size v (Cod.be m n) ∧ Below w.heap.size w w' :=
  (rput_calls n m hn h1 hm w).mono fun _ _ ⟨v, he, h2, h3⟩ => ⟨v, he, h2.x, h3⟩
set_option maxRecDepth 100000 in
set_option maxHeartbeats 1000000 in
theorem rget_calls (v : Value) (bs : List UInt8) (w : World) (h : Bys w v bs) (hl : bs.length ≤ 7) :
    Calls Tryz.prog 64 #[v] w fun e w' => e = .returned (.tuple #[.int .i64 (Cod.getN bs : Nat), .bool true]) ∧ w = w' := by
  obtain ⟨a, c, rfl⟩ := h.eq_slice
  obtain ⟨l, hl'⟩ : ∃ l, l = bs.length := ⟨_, rfl⟩
  rw [← hl'] at hl h ⊢
  have Hl := Lib.hid hl'
  clear hl'
  go_enter Tryz.func64, Tryz.ntmps64
  have t7 : decide ((7 : Int) < (l : Int)) = false := by simp; omega
  go_wp2
  go_loop [4, 11] (fun u v => ∃ i : Nat, i ≤ l ∧ u = .int .i64 (Cod.getN (bs.take i) : Nat) ∧ v = .int .i64 i) (fun _ v => l - (intOf v).toNat)
  case atStart => exact ⟨0, by omega, rfl, rfl⟩
  case round =>
    obtain ⟨i, hi, rfl, rfl⟩ := hrel
    by_cases h0 : i < l
    · obtain ⟨b, o, u, rfl, Hu, c1, hu⟩ := h.at i (by have := Hl.out; omega)
      have i0 : (0 : Int) ≤ (i : Int) := by omega
      have i1 : (i : Int) < (l : Int) := by omega
      have Hs := Lib.hid (show Cod.getN (bs.take (i + 1)) = Cod.getN (bs.take i) * 256 + u.toNat from by
        rw [List.take_add_one, Hu.out]; exact Cod.getGo_snoc _ _ _)
      have hg := Cod.getN_lt (bs.take i) (by rw [List.length_take]; omega)
      have hg2 := Cod.getN_lt (bs.take (i + 1)) (by rw [List.length_take]; omega)
      rw [Hs.out] at hg2
      obtain ⟨g, hgg⟩ : ∃ g, g = Cod.getN (bs.take i) := ⟨_, rfl⟩
      rw [← hgg] at hg hg2 ⊢
      have Hg := Lib.hid hgg
      clear hgg
      go_wp2
      exact ⟨⟨i + 1, by omega, by rw [Hs.out, ← Hg.out]; exact congrArg (Value.int .i64) (by push_cast; omega), by go_num⟩, by simp [intOf]; omega⟩
    · obtain rfl : i = l := by omega
      have e : bs.take i = bs := List.take_of_length_le (by have := Hl.out; omega)
      rw [e]
      clear e
      go_wp2
      go_ret2
      exact ⟨rfl, rfl⟩
def digS (n : Nat) : ByteArray := ⟨(Lib.decDigits n).toArray⟩
theorem digS_small (n : Nat) (h : n < 10) : digS n = ⟨#[UInt8.ofNat (48 + n)]⟩ := by
  unfold digS; rw [Lib.decDigits, dif_pos h]
theorem digS_big (n : Nat) (h : ¬ n < 10) : digS n = digS (n / 10) ++ ⟨#[UInt8.ofNat (48 + n % 10)]⟩ := by
  apply ByteArray.ext
  show (Lib.decDigits n).toArray = (digS (n / 10) ++ _).data
  rw [Lib.decDigits, dif_neg h, ByteArray.data_append]
  simp [digS]
theorem conv_one (u : UInt8) (w : World) (g : Nat) (h : w.cell? ⟨g, 0, none⟩ = some (.int .u8 ((u.toNat : Nat) : Int))) : (convert 29 9 (.slice (some ⟨g, 0, none⟩) 1 1)).run Tryz.prog w = .ok (.string ⟨#[u]⟩) w := by
  refine conv_string (bs := [u]) ⟨_, 1, rfl, by simp, maxLen_ge (by decide), fun _ => ⟨g, 0, rfl, fun i v hi => ?_⟩⟩
  cases i with
  | zero => simp at hi; subst hi; exact h
  | succ i => simp at hi
theorem bcell {W w1 : World} (hb : Below W.heap.size W w1) : (∀ b o, b < W.heap.size → w1.cell? ⟨b, o, none⟩ = W.cell? ⟨b, o, none⟩) :=
  fun b o h => hb.cell (p := ⟨b, o, none⟩) h
theorem digS_size (n : Nat) (h : n ≤ 100000000) : (digS n).size ≤ 9 := by
  have := dec_len n h
  rw [Lib.itoa_nonneg] at this
  simpa [digS, ByteArray.size] using this
set_option maxRecDepth 100000 in
set_option maxHeartbeats 1000000 in
theorem rdig_calls (n : Nat) : n ≤ 100000000 → ∀ w, Calls Tryz.prog 83 #[.int .i64 n] w fun e w' => e = .returned (.string (digS n)) ∧ Below w.heap.size w w' := by
  induction n using Nat.strongRecOn with
  | _ n ih =>
    intro hn w
    by_cases h : n < 10
    · have hs := digS_small n h
      have d0 : decide ((n : Int) < 10) = true := by simp; omega
      have hu : ((UInt8.ofNat (48 + n)).toNat : Int) = 48 + (n : Int) := by rw [Cod.digit_toNat h]; omega
      have hc := conv_one (UInt8.ofNat (48 + n))
      rw [← hs, hu] at hc
      clear hs hu ih
      go_enter Tryz.func83, Tryz.ntmps83
      go_wp2_with fail
      go_ret
      exact ⟨rfl, (Below.refl _ _).alloc (Nat.le_refl _) _⟩
    · have hs := digS_big n h
      obtain ⟨q, hq⟩ : ∃ q, q = n / 10 := ⟨_, rfl⟩
      obtain ⟨r, hr⟩ : ∃ r, r = n % 10 := ⟨_, rfl⟩
      have d0 : decide ((n : Int) < 10) = false := by simp; omega
      have hr10 : r < 10 := by omega
      obtain ⟨u, hue⟩ : ∃ u, u = UInt8.ofNat (48 + r) := ⟨_, rfl⟩
      have hu : ((u.toNat : Nat) : Int) = 48 + (r : Int) := by rw [hue, Cod.digit_toNat hr10]; omega
      have hc := conv_one u
      have e1 : (n : Int) / 10 = (q : Int) := by omega
      have e2 : (n : Int) % 10 = (r : Int) := by omega
      have t1 : (n : Int).tdiv 10 = (q : Int) := by rw [Int.tdiv_eq_ediv_of_nonneg (by omega)]; omega
      have t2 : (n : Int).tmod 10 = (r : Int) := by rw [Int.tmod_eq_emod_of_nonneg (by omega)]; omega
      have w1 : IntKind.i64.wrap (q : Int) = (q : Int) := IntWalk.i64_in _ (by omega)
      have w2 : IntKind.i64.wrap (r : Int) = (r : Int) := IntWalk.i64_in _ (by omega)
      have w3 : IntKind.i64.wrap (48 + (r : Int)) = 48 + (r : Int) := IntWalk.i64_in _ (by omega)
      have w4 : IntKind.u8.wrap (48 + (r : Int)) = 48 + (r : Int) := by unfold IntKind.wrap; simp [IntKind.bits, IntKind.signed]; omega
      rw [hu] at hc
      rw [← hq, ← hr, ← hue] at hs
      have IH := Lib.hid (ih q (by omega) (by omega))
      have hz := digS_size q (by omega)
      have hz2 : (digS q).size + 1 ≤ maxLen := maxLen_ge (by omega)
      have HS := Lib.hid hs
      clear hs hu ih hq hr hue
      go_enter Tryz.func83, Tryz.ntmps83
      go_wp2_with fail
      go_region_with
        (go_at_call 83
         refine (IH.out _).mono ?_
         rintro e w2 ⟨rfl, hb2⟩
         have hk := bcell hb2
         have hz := hb2.size)
      all_goals
        go_wp2_with fail
        go_ret
        refine ⟨by rw [HS.out]; rfl, ?_⟩
      · exact (of_drew hb2).alloc (Nat.le_of_lt_succ (Nat.lt_succ_of_le hz)) _
      all_goals exact ((Below.refl w.heap.size w).alloc (Nat.le_refl _) _).trans ((of_drew hb2).mono (by simp))
set_option maxRecDepth 100000 in
set_option maxHeartbeats 1000000 in
theorem rnet_calls (v : Value) (bs : List UInt8) (w : World) (h : Bys w v bs) (hl : bs.length ≤ 100000000) :
    Calls Tryz.prog 68 #[v] w fun e w' => ∃ v', e = .returned v' ∧ OwnX 5 w' w.heap.size v' (Cod.net bs) ∧ Below w.heap.size w w' := by
  obtain ⟨a, c, rfl⟩ := h.eq_slice
  obtain ⟨l, hl'⟩ : ∃ l, l = bs.length := ⟨_, rfl⟩
  have Hn := Lib.hid (show Cod.net bs = (digS bs.length).data.toList ++ [58] ++ bs ++ [44] from by rw [Cod.net_eq]; simp [digS])
  rw [← hl'] at hl h Hn ⊢
  have Hl := Lib.hid hl'
  clear hl'
  go_enter Tryz.func68, Tryz.ntmps68
  go_wp2_with fail
  refine (rdig_calls l hl w).mono ?_
  rintro e w1 ⟨rfl, hb1⟩
  have hss := digS_size l hl
  obtain ⟨s, hs⟩ : ∃ s : ByteArray, s = digS l := ⟨_, rfl⟩
  rw [← hs] at hss Hn ⊢
  have hsl : s.data.toList.length ≤ 9 := by rw [Array.length_toList]; exact hss
  have hconv := Lib.run_convert_string_bytes (P := Tryz.prog) w1 9 29 5 s Tryz.underlying9 Tryz.underlying29 Tryz.underlying5
  obtain ⟨ho, hb2⟩ := conv_ownX w1 5 s (maxLen_ge (by omega))
  obtain ⟨w2, hw2⟩ : ∃ w2, w2 = Lib.bytesWorld w1 5 s := ⟨_, rfl⟩
  rw [← hw2] at ho hb2 hconv
  have hbw2 : Below w.heap.size w w2 := hb1.trans (hb2.mono hb1.size)
  obtain ⟨dl, hdl⟩ : ∃ d, d = s.data.toList := ⟨_, rfl⟩
  rw [← hdl] at ho Hn hsl
  have Hs := Lib.hid hs; have Hsl := Lib.hid hdl
  have hs1 := hb1.size
  have hs2 := hb2.size
  clear hs hdl hw2
  go_wp2_with (at_builtin; refine appX E8c rfl _ _ rfl (base := w.heap.size) (bs := dl) (news := [58]) rfl rfl ((ho.mono hs1).alloc _) (bys_one _ 58 _ rfl _) ?q1 ?q2 ?_)
  case q1 => rw [List.length_singleton]; omega
  case q2 => simp; omega
  intro v3 w3 ho3 hg3
  have hb3 := grown_below (hbw2.alloc hbw2.size _) hg3 (fun k hk => by simp [Value.ownBlock] at hk; omega)
  have hs3 := hb3.size
  have hlt3 := ho3.lt
  clear hconv ho hb2 hg3 hbw2
  go_wp2_with (at_builtin; refine appX E8c rfl _ _ rfl (base := w.heap.size) (news := bs) rfl rfl ho3 (h.below hb3) ?q3 ?q4 ?_)
  case q3 => have := Hl.out; simp; omega
  case q4 => exact hs3
  intro v4 w4 ho4 hg4
  have hb4 := grown_below hb3 hg4 (fun k hk => (hlt3 k hk).1)
  have hs4 := hb4.size
  have hlt4 := ho4.lt
  clear hg4 ho3 hb3
  go_wp2_with (at_builtin; refine appX E8c rfl _ _ rfl (base := w.heap.size) (news := [44]) rfl rfl (ho4.alloc _) (bys_one _ 44 _ rfl _) ?q5 ?q6 ?_)
  case q5 => have := Hl.out; simp; omega
  case q6 => simp; omega
  intro v5 w5 ho5 hg5
  have hb5 := grown_below (hb4.alloc hs4 _) hg5 (fun k hk => (hlt4 k hk).1)
  clear hg5 ho4 hb4
  go_wp2
  go_ret
  exact ⟨v5, rfl, by rw [Hn.out]; simpa using ho5, hb5⟩
set_option maxRecDepth 100000 in
set_option maxHeartbeats 1000000 in
theorem rnets_calls (v : Value) (rows : List (List UInt8)) (w : World) (h : Rws w v rows) (hl : (Cod.nets rows).length ≤ 100000000) :
    Calls Tryz.prog 60 #[v] w fun e w' => ∃ v', e = .returned v' ∧ OwnX 5 w' w.heap.size v' (Cod.nets rows) ∧ Below w.heap.size w w' := by
  have hrl := h.len
  obtain ⟨a, c, rfl⟩ := h.eq_slice
  obtain ⟨n, hn⟩ : ∃ n, n = rows.length := ⟨_, rfl⟩
  rw [← hn] at h hrl ⊢
  have Hn := Lib.hid hn
  clear hn
  go_enter Tryz.func60, Tryz.ntmps60
  go_wp2_with fail
  go_loopw [3, 7] (fun u v wr => ∃ i : Nat, i ≤ n ∧ v = .int .i64 i ∧ OwnX 5 wr w.heap.size u (Cod.nets (rows.take i)) ∧ Below w.heap.size w wr) (fun _ v _ => n - (intOf v).toNat)
  case atStart => exact ⟨0, by omega, rfl, OwnX.nil _ _ _, Below.refl _ _⟩
  case round =>
    obtain ⟨i, hi, rfl, ho, hb⟩ := hrel
    by_cases h0 : i < n
    · obtain ⟨b, o, bs, va, rfl, hr, c1, hrow⟩ := (h.below hb).at i (by have := Hn.out; omega)
      have i0 : (0 : Int) ≤ (i : Int) := by omega
      have i1 : (i : Int) < (n : Int) := by omega
      have hle := nets_row_le hr.out
      have hnl := Cod.net_len bs
      have hs := hb.size
      have hlt := ho.lt
      have Hfin := Lib.hid (show Cod.nets (rows.take (i + 1)) = Cod.nets (rows.take i) ++ Cod.net bs from by rw [List.take_add_one, hr.out]; exact Cod.nets_snoc _ _)
      go_wp2_with fail
      refine (rnet_calls va bs wr hrow (by omega)).mono ?_
      rintro e w2 ⟨v2, rfl, ho2, hb2⟩
      go_wp2_with (at_builtin; refine appX E8c rfl _ _ rfl (base := w.heap.size) (news := Cod.net bs) rfl rfl (ho.below hb2) ho2.bys ?q1 ?q2 ?_)
      case q1 => omega
      case q2 => have := hb2.size; omega
      intro v3 w3 ho3 hg3
      have hb3 := grown_below (hb.trans (hb2.mono hs)) hg3 (fun k hk => (hlt k hk).1)
      rw [← Hfin.out] at ho3
      clear hg3 ho2 hb2 hle hnl
      go_wp2
      exact ⟨⟨i + 1, by omega, by go_num, ho3, hb3⟩, by simp [intOf] <;> omega⟩
    · obtain rfl : i = n := by omega
      have e : rows.take i = rows := List.take_of_length_le (by have := Hn.out; omega)
      rw [e] at ho
      go_wp2
      go_ret
      exact ⟨_, rfl, ho, hb⟩
end Go.Proofs.YtehgnkdfnnebcaaGreatDoor
end
