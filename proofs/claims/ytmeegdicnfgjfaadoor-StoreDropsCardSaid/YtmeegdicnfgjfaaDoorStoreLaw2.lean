/- What a Put on a disk that stops at its first write leaves; when a record fits; when there is a slot left. No program in sight. -/
import Derived.Test.YtmeegdicnfgjfaaDoorStoreLaw
namespace Go.Mem
open Go Go.RowKit Gf Go.Proofs.YtmeegdicnfgjfaaDoor
theorem nDigits_3 {u : Nat} (h : u < 1000) : Lib.nDigits u ≤ 3 := by
  by_cases h1 : u < 10
  · rw [Lib.nDigits_small h1]; omega
  · rw [Lib.nDigits_big h1]
    by_cases h2 : u / 10 < 10
    · rw [Lib.nDigits_small h2]; omega
    · rw [Lib.nDigits_big h2, Lib.nDigits_small (by omega)]; omega
theorem text_le {name : ByteArray} {num : Nat} {data : List UInt8} (h1 : name.size < 1000) (h2 : data.length < 1000) : (Sto.text name num data).length ≤ name.size + data.length + 17 := by
  have e1 : name.data.toList.length = name.size := Array.length_toList
  have d1 := nDigits_3 (u := name.size) h1
  have d2 := nDigits_3 h2
  have d3 : Lib.nDigits 4 = 1 := Lib.nDigits_small (by decide)
  simp only [Sto.text, Cod.nets, List.length_append, Cod.net_len, Cod.be_len, List.length_nil, e1, d3]
  omega
theorem text_pos (name : ByteArray) (num : Nat) (data : List UInt8) : Sto.text name num data ≠ [] := fun h => by
  have := congrArg List.length h
  simp only [Sto.text, Cod.nets, List.length_append, Cod.net_len, Cod.be_len, List.length_nil] at this
  omega
theorem fits_of {room : Nat} {name : ByteArray} {data : List UInt8} (h1 : name.size < 1000) (h2 : data.length < 1000) (h : name.size + data.length + 17 ≤ room * 32) : fitsB room name data = true := by
  have := text_le (num := 0) h1 h2
  unfold fitsB
  simp only [Bool.and_eq_true, decide_eq_true_eq]
  omega
/-- how many records there are -/
def liveN (l : List Sto.Rec) : Nat := l.countP fun r => r.is
theorem slot_of_live {l : List Sto.Rec} (h : liveN l < l.length) : Sto.slot l < l.length := by
  unfold Sto.slot
  rw [List.findIdx_lt_length]
  exact Classical.byContradiction fun hn => by
    have : liveN l = l.length := by
      unfold liveN
      rw [List.countP_eq_length]
      intro a ha
      exact Classical.byContradiction fun h' => hn ⟨a, ha, by simpa using h'⟩
    omega
theorem live_free (n : Nat) : liveN (List.replicate n Sto.Rec.free) = 0 := by
  unfold liveN
  rw [List.countP_eq_zero]
  intro a ha
  rw [(List.mem_replicate.1 ha).2]; simp [Sto.Rec.free]
theorem live_set {l : List Sto.Rec} {t : Nat} (ht : t < l.length) (r : Sto.Rec) : liveN (l.set t r) + (if (l[t]).is = true then 1 else 0) = liveN l + (if r.is = true then 1 else 0) := by
  unfold liveN
  rw [List.countP_set ht]
  have : (if (l[t]).is = true then 1 else 0) ≤ List.countP (fun r => r.is) l := by
    split
    · rename_i h
      exact List.countP_pos_iff.2 ⟨l[t], by simp, h⟩
    · exact Nat.zero_le _
  omega
theorem live_putL {l : List Sto.Rec} (ht : Sto.slot l < l.length) (name : ByteArray) (data : List UInt8) : liveN (putL l name data) = liveN l + 1 := by
  have h0 : l[Sto.slot l]? = some l[Sto.slot l] := by simp [ht]
  have := live_set ht ⟨true, name, Sto.nextNum l name, data⟩
  rw [slot_not h0] at this
  simpa [putL] using this
theorem live_putF {l : List Sto.Rec} (ht : Sto.slot l < l.length) (name : ByteArray) (data : List UInt8) : liveN (putF l name data) = liveN l + (if (Sto.best l name l.length).isSome = true then 0 else 1) := by
  have h0 : l[Sto.slot l]? = some l[Sto.slot l] := by simp [ht]
  have h1 := live_putL ht name data
  unfold putF
  cases hb : Sto.best l name l.length with
  | none => simpa using h1
  | some k =>
    obtain ⟨rk, a, b, c⟩ := (Sto.best_top l name l.length).1 k hb
    have e : Sto.slot l ≠ k := fun e => by have h2 := b.1; rw [← e, h0] at h2; cases h2; exact absurd (b.2.1.symm.trans (slot_not h0)) (by simp)
    have hk : (putL l name data)[k]? = some rk := by unfold putL; rw [List.getElem?_set_ne e]; exact b.1
    have hkl : k < (putL l name data).length := by unfold putL; rw [List.length_set]; exact a
    have h2 := live_set hkl Sto.Rec.free
    rw [List.getElem?_eq_getElem hkl] at hk
    rw [Option.some.inj hk, b.2.1] at h2
    rw [if_pos rfl, show Sto.Rec.free.is = false from rfl] at h2
    simp only [Bool.false_eq_true, if_false] at h2
    simp only [Option.isSome_some, if_true]
    omega
/-- a disk that stops at the first write -/
theorem put_dead {s : St} (hh : Holds s.disk s.room s.recs) (hd : s.disk.dead = false) (hs : s.dead = false) (hst : s.disk.stops = true) (hc : s.disk.cnt = 0) (hr : 1 ≤ s.room) {name : ByteArray} {data : List UInt8}
    (hf : fitsB s.room name data = true) (ht : Sto.slot s.recs < s.recs.length) :
    (putR s name data).1 = 8 ∧ (putR s name data).2.dead = true ∧ (putR s name data).2.disk.dead = true ∧ (putR s name data).2.recs = s.recs ∧ Holds (putR s name data).2.disk s.room s.recs := by
  have hx : Sto.slot s.recs * (s.room + 1) + 1 < s.disk.n := hh.lt ht (by omega)
  have htx := text_pos name (s.num name) data
  have hlt : ((Sto.text name (s.num name) data).take 32).length ≤ 32 := by rw [List.length_take]; omega
  have hE : s.writeE (Sto.slot s.recs * (s.room + 1) + 1 + 0) ((Sto.text name (s.num name) data).take 32) = 8 := by
    unfold St.writeE DiskS.wres
    rw [if_pos ⟨DiskS.may_yes hx, hlt⟩, if_neg (by simp [hd]), if_pos ⟨hst, hc⟩]
  obtain ⟨q, hq⟩ : ∃ q, s.room = q + 1 := ⟨s.room - 1, by omega⟩
  have hch : St.chunks (Sto.slot s.recs * (s.room + 1)) s.room s 0 (Sto.text name (s.num name) data) = (8, s.writeS (Sto.slot s.recs * (s.room + 1) + 1 + 0) ((Sto.text name (s.num name) data).take 32)) := by
    have : ∀ at_ n b, b ≠ [] → s.writeE (at_ + 1 + 0) (b.take 32) = 8 → St.chunks at_ (n + 1) s 0 b = (8, s.writeS (at_ + 1 + 0) (b.take 32)) := fun at_ n b h1 h2 => by
      rw [St.chunks, if_neg h1, if_pos (by simp [h2]), h2]
    have h3 := this (Sto.slot s.recs * (s.room + 1)) q _ htx hE
    rw [← hq] at h3
    exact h3
  have e1 : putR s name data = (8, s.writeS (Sto.slot s.recs * (s.room + 1) + 1 + 0) ((Sto.text name (s.num name) data).take 32)) := by
    unfold putR
    rw [if_neg (by simp [hs]), if_neg (by simp [hf]), if_neg (by omega), hch]
    rfl
  obtain ⟨e, s1, c0, c1, c2, c3, c4, c5, c6⟩ := chunks_law (room := s.room) (t := Sto.slot s.recs) s.room s 0 (Sto.text name (s.num name) data) rfl hd hs hh.2.1 (fits_len hf (s.num name)) (by omega) (hh.lt ht (by omega))
  rw [hch] at c0
  cases c0
  rw [e1]
  have hr0 : s.recs[Sto.slot s.recs]? = some s.recs[Sto.slot s.recs] := by simp [ht]
  have hfree : s.recs[Sto.slot s.recs] = Sto.Rec.free ∧ s.disk.f (Sto.slot s.recs * (s.room + 1) * 32) ≠ 1 := by
    rcases hh.2.2 _ _ hr0 with h | h
    · exact h
    · have := slot_not hr0; rw [h.1] at this; cases this
  have hst1 := c5 (Sto.slot s.recs * (s.room + 1) * 32) (by omega)
  have hold := c3.holds hh ht (r := Sto.Rec.free) (Slot.free (by rw [hst1]; exact hfree.2))
  rw [show s.recs.set (Sto.slot s.recs) Sto.Rec.free = s.recs from by rw [← hfree.1]; exact List.set_getElem_self ht] at hold
  rcases c6 with ⟨h, _⟩ | ⟨_, g1, g2, _⟩
  · exact absurd h (by decide)
  · exact ⟨rfl, g1, g2, c1, hold⟩
end Go.Mem
