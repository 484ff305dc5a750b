/- What stands on a disk of a store: slots apart from each other, a slot freed, sectors of bytes written. No program in sight. -/
import Derived.Test.YtmeegdicnfgjfaaDoorStoreOpenMath
import Derived.Test.YtmeegdicnfgjfaaDoorStorePut
import Derived.Test.YtmeegdicnfgjfaaDoorStoreGet
import Derived.Test.YtmeegdicnfgjfaaDoorStoreList
namespace Go.Mem
open Go Go.RowKit Gf Go.Proofs.YtmeegdicnfgjfaaDoor
/-- a slot of the disk holds a record, or none -/
def Slot (D : DiskS) (room i : Nat) (r : Sto.Rec) : Prop :=
  (r = Sto.Rec.free ∧ D.f (i * (room + 1) * 32) ≠ 1) ∨ (r.is = true ∧ D.f (i * (room + 1) * 32) = 1 ∧ Sto.parse (slotB D room i room) = some r)
/-- the disk holds these records -/
def Holds (D : DiskS) (room : Nat) (l : List Sto.Rec) : Prop := D.n = l.length * (room + 1) ∧ D.keep ≤ 32 ∧ ∀ i r, l[i]? = some r → Slot D room i r
theorem readR_slot {D : DiskS} {room i : Nat} {r : Sto.Rec} (hd : D.dead = false) (h : Slot D room i r) : readR D room i = (r, 0, false) := by
  unfold readR
  rw [if_neg (by simp [hd])]
  rcases h with ⟨rfl, h⟩ | ⟨_, h1, h2⟩
  · rw [if_pos h]
  · rw [if_neg (by simp [h1]), h2]
theorem readAll_holds {D : DiskS} {room : Nat} {l : List Sto.Rec} (hd : D.dead = false) (h : Holds D room l) : ∀ k, k ≤ l.length → readAll room D k = (l.take k, 0, D)
  | 0, _ => by simp [readAll]
  | k + 1, hk => by
    have ih := readAll_holds hd h k (by omega)
    obtain ⟨r, hr⟩ : ∃ r, l[k]? = some r := ⟨l[k], by simp⟩
    have hq := readR_slot hd (h.2.2 k r hr)
    rw [readAll, ih]
    simp only [ne_eq, not_true_eq_false, if_false, hq, Bool.false_eq_true, Prod.mk.injEq, and_true]
    rw [List.take_add_one, hr]; rfl
theorem sector_congr {D D' : DiskS} {i : Nat} (h : ∀ k, k < 32 → D'.f (i * 32 + k) = D.f (i * 32 + k)) : D'.sector i = D.sector i := by
  unfold DiskS.sector rowL
  exact List.map_congr_left fun k hk => h k (by simpa using hk)
theorem slotB_congr {D D' : DiskS} {room i : Nat} : ∀ (m : Nat), (∀ j, (i * (room + 1) + 1) * 32 ≤ j → j < (i * (room + 1) + 1 + m) * 32 → D'.f j = D.f j) → slotB D' room i m = slotB D room i m
  | 0, _ => rfl
  | m + 1, h => by
    rw [slotB, slotB, slotB_congr m (fun j h1 h2 => h j h1 (by omega)), sector_congr (fun k hk => h _ (by omega) (by omega))]
theorem Slot.congr {D D' : DiskS} {room i : Nat} {r : Sto.Rec} (h : Slot D room i r) (hf : ∀ j, i * (room + 1) * 32 ≤ j → j < (i * (room + 1) + (room + 1)) * 32 → D'.f j = D.f j) : Slot D' room i r := by
  have h0 : D'.f (i * (room + 1) * 32) = D.f (i * (room + 1) * 32) := hf _ (Nat.le_refl _) (by omega)
  have h1 := slotB_congr (D := D) (D' := D') (room := room) (i := i) room (fun j h1 h2 => hf j (by omega) (by omega))
  unfold Slot at h ⊢
  rw [h0, h1]; exact h
/-- a free slot: its state alone counts -/
theorem Slot.free {D : DiskS} {room i : Nat} (h : D.f (i * (room + 1) * 32) ≠ 1) : Slot D room i Sto.Rec.free := .inl ⟨rfl, h⟩
theorem apart {i t m j x k : Nat} (hne : i ≠ t) (hx : x = t * m + k) (hk : k < m) (h1 : i * m * 32 ≤ j) (h2 : j < (i * m + m) * 32) : ¬ (x * 32 ≤ j ∧ j < x * 32 + 32) := by
  subst hx
  rcases Nat.lt_or_ge i t with h | h
  · have : (i + 1) * m ≤ t * m := Nat.mul_le_mul_right _ h
    rw [Nat.add_mul, Nat.one_mul] at this
    omega
  · have : (t + 1) * m ≤ i * m := Nat.mul_le_mul_right _ (by omega)
    rw [Nat.add_mul, Nat.one_mul] at this
    omega
/-- what lies apart from the sector is as it was -/
theorem write_f {D : DiskS} (hk : D.keep ≤ 32) (x : Nat) (bs : List UInt8) {j : Nat} (h : ¬ (x * 32 ≤ j ∧ j < x * 32 + 32)) : (D.write x bs).f j = D.f j := by
  unfold DiskS.write
  split
  · simp only [DiskS.lay]
    rw [if_neg (by omega)]
  · simp only [DiskS.lay]
    rw [if_neg h]
theorem wr_f {D : DiskS} (hk : D.keep ≤ 32) (x : Nat) (bs : List UInt8) {j : Nat} (h : ¬ (x * 32 ≤ j ∧ j < x * 32 + 32)) : (D.wr (x : Int) bs).f j = D.f j := by
  unfold DiskS.wr
  split
  · exact write_f hk x bs h
  · rfl
theorem wr_keep (D : DiskS) (x : Int) (bs : List UInt8) : (D.wr x bs).keep = D.keep := by
  unfold DiskS.wr DiskS.write
  split
  · split <;> rfl
  · rfl
theorem wr_stops (D : DiskS) (x : Int) (bs : List UInt8) : (D.wr x bs).stops = D.stops := by
  unfold DiskS.wr DiskS.write
  split
  · split <;> rfl
  · rfl
/-- a write to a living disk: it is done, or the disk dies of it -/
theorem wr_cases {D : DiskS} (hd : D.dead = false) {x : Nat} (hx : x < D.n) {bs : List UInt8} (hl : bs.length ≤ 32) :
    (D.wres (x : Int) bs.length = 0 ∧ (D.wr (x : Int) bs).dead = false ∧ (∀ k, k < 32 → (D.wr (x : Int) bs).f (x * 32 + k) = bs.getD k 0)) ∨
    (D.stops = true ∧ D.cnt = 0 ∧ D.wres (x : Int) bs.length = 8 ∧ (D.wr (x : Int) bs).dead = true ∧ (∀ k, k < 32 → (D.wr (x : Int) bs).f (x * 32 + k) = if k < D.keep then bs.getD k 0 else D.f (x * 32 + k))) := by
  have hm := DiskS.may_yes hx
  have e1 : D.wr (x : Int) bs = D.write x bs := by
    unfold DiskS.wr
    rw [if_pos ⟨⟨hm, hl⟩, hd⟩]; rfl
  have e2 : D.wres (x : Int) bs.length = if D.stops = true ∧ D.cnt = 0 then 8 else 0 := by
    unfold DiskS.wres
    rw [if_pos ⟨hm, hl⟩, if_neg (by simp [hd])]
  by_cases hs : D.stops = true ∧ D.cnt = 0
  · have e3 : D.write x bs = { D with f := D.lay x bs D.keep, dead := true } := by unfold DiskS.write; rw [if_pos hs]
    refine .inr ⟨hs.1, hs.2, by rw [e2, if_pos hs], by rw [e1, e3], fun k hk => ?_⟩
    rw [e1, e3]
    show D.lay x bs D.keep (x * 32 + k) = _
    rw [lay_same]
  · have e3 : D.write x bs = { D with f := D.lay x bs 32, cnt := if D.stops then D.cnt - 1 else D.cnt, writes := D.writes + 1 } := by unfold DiskS.write; rw [if_neg hs]
    refine .inl ⟨by rw [e2, if_neg hs], by rw [e1, e3]; exact hd, fun k hk => ?_⟩
    rw [e1, e3]
    show D.lay x bs 32 (x * 32 + k) = _
    rw [lay_same, if_pos hk]
theorem get_set {α : Type} {l : List α} {t : Nat} {r r' : α} {i : Nat} (ht : t < l.length) (h : (l.set t r)[i]? = some r') : (i = t ∧ r' = r) ∨ (i ≠ t ∧ l[i]? = some r') := by
  by_cases e : t = i
  · subst e
    rw [List.getElem?_set_self ht] at h
    cases h
    exact .inl ⟨rfl, rfl⟩
  · rw [List.getElem?_set_ne e] at h
    exact .inr ⟨fun h => e h.symm, h⟩
/-- of all slots but t nothing is changed -/
def Off (D D' : DiskS) (room t : Nat) : Prop := D'.n = D.n ∧ D'.keep = D.keep ∧ ∀ i, i ≠ t → ∀ j, i * (room + 1) * 32 ≤ j → j < (i * (room + 1) + (room + 1)) * 32 → D'.f j = D.f j
theorem Off.refl (D : DiskS) (room t : Nat) : Off D D room t := ⟨rfl, rfl, fun _ _ _ _ _ => rfl⟩
theorem Off.trans {D D' D'' : DiskS} {room t : Nat} (h : Off D D' room t) (h' : Off D' D'' room t) : Off D D'' room t := ⟨h'.1.trans h.1, h'.2.1.trans h.2.1, fun i hi j h1 h2 => (h'.2.2 i hi j h1 h2).trans (h.2.2 i hi j h1 h2)⟩
theorem Off.wr {D : DiskS} {room t k x : Nat} (hk : D.keep ≤ 32) (hx : x = t * (room + 1) + k) (hkr : k < room + 1) (bs : List UInt8) : Off D (D.wr (x : Int) bs) room t :=
  ⟨DiskS.wr_n _ _ _, wr_keep _ _ _, fun _ hi _ h1 h2 => wr_f hk x bs (apart hi hx hkr h1 h2)⟩
theorem Off.holds {D D' : DiskS} {room t : Nat} {l : List Sto.Rec} (h : Off D D' room t) (hl : Holds D room l) (ht : t < l.length) {r : Sto.Rec} (hs : Slot D' room t r) : Holds D' room (l.set t r) := by
  refine ⟨by rw [List.length_set]; exact h.1.trans hl.1, h.2.1 ▸ hl.2.1, fun i r' hr => ?_⟩
  rcases get_set ht hr with ⟨rfl, rfl⟩ | ⟨hne, hr⟩
  · exact hs
  · exact (hl.2.2 i r' hr).congr (h.2.2 i hne)
theorem Holds.lt {D : DiskS} {room t k : Nat} {l : List Sto.Rec} (h : Holds D room l) (ht : t < l.length) (hk : k < room + 1) : t * (room + 1) + k < D.n := by
  have : (t + 1) * (room + 1) ≤ l.length * (room + 1) := Nat.mul_le_mul_right _ ht
  rw [Nat.add_mul, Nat.one_mul] at this
  rw [h.1]; omega
/-- a slot is freed -/
theorem free_law {s : St} {i : Nat} (hh : Holds s.disk s.room s.recs) (hd : s.disk.dead = false) (hs : s.dead = false) (hi : i < s.recs.length) :
    (s.freeE i = 0 ∧ (s.freeS i).dead = false ∧ (s.freeS i).disk.dead = false ∧ (s.freeS i).recs = s.recs.set i Sto.Rec.free ∧ Holds (s.freeS i).disk s.room (s.recs.set i Sto.Rec.free)) ∨
    (s.freeE i = 8 ∧ s.disk.stops = true ∧ s.disk.cnt = 0 ∧ (s.freeS i).dead = true ∧ (s.freeS i).disk.dead = true ∧ (s.freeS i).recs = s.recs ∧ (Holds (s.freeS i).disk s.room s.recs ∨ Holds (s.freeS i).disk s.room (s.recs.set i Sto.Rec.free))) := by
  obtain ⟨r, hr⟩ : ∃ r, s.recs[i]? = some r := ⟨s.recs[i], by simp⟩
  have hx := hh.lt hi (k := 0) (Nat.succ_pos _)
  have hoff := Off.wr (D := s.disk) (room := s.room) (t := i) (k := 0) hh.2.1 rfl (Nat.succ_pos _) [0]
  rcases wr_cases hd (bs := [0]) hx (by simp) with ⟨h1, h2, h3⟩ | ⟨h0, hc, h1, h2, h3⟩
  · simp only [Nat.add_zero] at h1 h2 h3 hoff
    have hE : s.freeE i = 0 := h1
    refine .inl ⟨hE, by simp [St.freeS, hE, hs], h2, by simp [St.freeS, hE], ?_⟩
    refine hoff.holds hh hi (Slot.free fun he => ?_)
    have := (h3 0 (by omega)).symm.trans he
    exact absurd this (by decide)
  · simp only [Nat.add_zero] at h1 h2 h3 hoff
    have hE : s.freeE i = 8 := h1
    refine .inr ⟨hE, h0, hc, by simp [St.freeS, hE], h2, by simp [St.freeS, hE], ?_⟩
    by_cases hk : 0 < s.disk.keep
    · refine .inr (hoff.holds hh hi (Slot.free fun he => ?_))
      have := h3 0 (by omega)
      rw [if_pos hk] at this
      exact absurd (this.symm.trans he) (by decide)
    · refine .inl ?_
      have he : ∀ k, k < 32 → (s.disk.wr ((i * (s.room + 1) : Nat) : Int) [0]).f (i * (s.room + 1) * 32 + k) = s.disk.f (i * (s.room + 1) * 32 + k) := fun k hk' => by rw [h3 k hk', if_neg (by omega)]
      refine ⟨hoff.1.trans hh.1, hoff.2.1 ▸ hh.2.1, fun j r' hr' => (hh.2.2 j r' hr').congr fun q h1 h2 => ?_⟩
      by_cases hq : i * (s.room + 1) * 32 ≤ q ∧ q < i * (s.room + 1) * 32 + 32
      · have := he (q - i * (s.room + 1) * 32) (by omega)
        rw [show i * (s.room + 1) * 32 + (q - i * (s.room + 1) * 32) = q from by omega] at this
        exact this
      · exact wr_f hh.2.1 _ _ hq
/-- the sectors that chunks reach -/
theorem chunks_law {room t : Nat} : ∀ (n : Nat) (s : St) (k : Nat) (b : List UInt8), s.room = room → s.disk.dead = false → s.dead = false → s.disk.keep ≤ 32 → b.length ≤ n * 32 → k + n ≤ room → t * (room + 1) + room < s.disk.n →
    ∃ e s', St.chunks (t * (room + 1)) n s k b = (e, s') ∧ s'.recs = s.recs ∧ s'.room = s.room ∧ Off s.disk s'.disk room t ∧ s'.disk.stops = s.disk.stops ∧ (∀ j, (j < (t * (room + 1) + 1 + k) * 32) → s'.disk.f j = s.disk.f j) ∧
      ((e = 0 ∧ s'.dead = false ∧ s'.disk.dead = false ∧ ∀ j, j < b.length → s'.disk.f ((t * (room + 1) + 1 + k) * 32 + j) = b.getD j 0) ∨ (e = 8 ∧ s'.dead = true ∧ s'.disk.dead = true ∧ s.disk.stops = true))
  | 0, s, k, b, h1, h2, h3, h4, h5, h6, h7 => ⟨0, s, rfl, rfl, rfl, Off.refl _ _ _, rfl, fun _ _ => rfl, .inl ⟨rfl, h3, h2, fun j hj => by omega⟩⟩
  | n + 1, s, k, b, h1, h2, h3, h4, h5, h6, h7 => by
    by_cases hb : b = []
    · subst hb
      exact ⟨0, s, by simp [St.chunks], rfl, rfl, Off.refl _ _ _, rfl, fun _ _ => rfl, .inl ⟨rfl, h3, h2, fun j hj => by simp at hj⟩⟩
    · have hx : t * (room + 1) + 1 + k < s.disk.n := by omega
      have hoff : Off s.disk (s.disk.wr ((t * (room + 1) + 1 + k : Nat) : Int) (b.take 32)) room t := Off.wr h4 (k := 1 + k) (by omega) (by omega) _
      have hlow : ∀ j, j < (t * (room + 1) + 1 + k) * 32 → (s.disk.wr ((t * (room + 1) + 1 + k : Nat) : Int) (b.take 32)).f j = s.disk.f j := fun j hj => wr_f h4 _ _ (by omega)
      rcases wr_cases h2 hx (bs := b.take 32) (by rw [List.length_take]; omega) with ⟨q1, q2, q3⟩ | ⟨q0, qc, q1, q2, q3⟩
      · have hE : s.writeE (t * (room + 1) + 1 + k) (b.take 32) = 0 := q1
        obtain ⟨e, s', i1, i2, i3, i4, i5, i6, i7⟩ := chunks_law n (s.writeS (t * (room + 1) + 1 + k) (b.take 32)) (k + 1) (b.drop 32) h1 q2 (by simp [St.writeS, hE, h3]) (Nat.le_trans (Nat.le_of_eq (wr_keep _ _ _)) h4) (by rw [List.length_drop]; omega) (by omega) (by rw [show (s.writeS (t * (room + 1) + 1 + k) (b.take 32)).disk.n = s.disk.n from DiskS.wr_n _ _ _]; exact h7)
        refine ⟨e, s', ?_, i2, i3, hoff.trans i4, i5.trans (wr_stops _ _ _), fun j hj => (i6 j (by omega)).trans (hlow j hj), ?_⟩
        · rw [St.chunks, if_neg hb, if_neg (by simp [hE])]
          exact i1
        · rcases i7 with ⟨j1, j2, j3, j4⟩ | ⟨j1, j2, j3, j4⟩
          · refine .inl ⟨j1, j2, j3, fun j hj => ?_⟩
            rcases Nat.lt_or_ge j 32 with hj32 | hj32
            · rw [i6 _ (by omega)]
              have := q3 j hj32
              rw [show (s.writeS (t * (room + 1) + 1 + k) (b.take 32)).disk = s.disk.wr ((t * (room + 1) + 1 + k : Nat) : Int) (b.take 32) from rfl, this]
              simp [List.getD_eq_getElem?_getD, hj32]
            · have := j4 (j - 32) (by rw [List.length_drop]; omega)
              rw [show (t * (room + 1) + 1 + (k + 1)) * 32 + (j - 32) = (t * (room + 1) + 1 + k) * 32 + j from by omega] at this
              rw [this]
              simp [List.getD_eq_getElem?_getD, List.getElem?_drop, show 32 + (j - 32) = j from by omega]
          · exact .inr ⟨j1, j2, j3, by rw [← j4]; exact (wr_stops _ _ _).symm⟩
      · have hE : s.writeE (t * (room + 1) + 1 + k) (b.take 32) = 8 := q1
        refine ⟨8, s.writeS (t * (room + 1) + 1 + k) (b.take 32), ?_, rfl, rfl, hoff, wr_stops _ _ _, hlow, .inr ⟨rfl, by simp [St.writeS, hE], q2, q0⟩⟩
        rw [St.chunks, if_neg hb, if_pos (by simp [hE]), hE]
end Go.Mem
