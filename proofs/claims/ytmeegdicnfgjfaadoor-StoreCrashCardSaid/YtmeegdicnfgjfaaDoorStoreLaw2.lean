/- What a Put on a disk that stops at its first write leaves; when a record fits; when there is a slot left. No program in sight. -/
import Derived.Test.YtmeegdicnfgjfaaDoorStoreLaw
namespace Go.Mem
open Go Go.RowKit Gf Go.Proofs.YtmeegdicnfgjfaaDoor
theorem nDigits_3 {u : Nat} (h : u < 1000) : Lib.nDigits u ≤ 3 := by
  by_cases h1 : u < 10
  · rw [Lib.nDigits_small h1]; omega
  · rw [Lib.nDigits_big h1]
    by_cases h2 : u / 10 < 10
    · rw [Lib.nDigits_small h2]; omega
    · rw [Lib.nDigits_big h2, Lib.nDigits_small (by omega)]; omega
theorem text_le {name : ByteArray} {num : Nat} {data : List UInt8} (h1 : name.size < 1000) (h2 : data.length < 1000) : (Sto.text name num data).length ≤ name.size + data.length + 17 := by
  have e1 : name.data.toList.length = name.size := Array.length_toList
  have d1 := nDigits_3 (u := name.size) h1
  have d2 := nDigits_3 h2
  have d3 : Lib.nDigits 4 = 1 := Lib.nDigits_small (by decide)
  simp only [Sto.text, Cod.nets, List.length_append, Cod.net_len, Cod.be_len, List.length_nil, e1, d3]
  omega
theorem text_pos (name : ByteArray) (num : Nat) (data : List UInt8) : Sto.text name num data ≠ [] := fun h => by
  have := congrArg List.length h
  simp only [Sto.text, Cod.nets, List.length_append, Cod.net_len, Cod.be_len, List.length_nil] at this
  omega
theorem fits_of {room : Nat} {name : ByteArray} {data : List UInt8} (h1 : name.size < 1000) (h2 : data.length < 1000) (h : name.size + data.length + 17 ≤ room * 32) : fitsB room name data = true := by
  have := text_le (num := 0) h1 h2
  unfold fitsB
  simp only [Bool.and_eq_true, decide_eq_true_eq]
  omega
/-- how many records there are -/
def liveN (l : List Sto.Rec) : Nat := l.countP fun r => r.is
theorem slot_of_live {l : List Sto.Rec} (h : liveN l < l.length) : Sto.slot l < l.length := by
  unfold Sto.slot
  rw [List.findIdx_lt_length]
  exact Classical.byContradiction fun hn => by
    have : liveN l = l.length := by
      unfold liveN
      rw [List.countP_eq_length]
      intro a ha
      exact Classical.byContradiction fun h' => hn ⟨a, ha, by simpa using h'⟩
    omega
theorem live_free (n : Nat) : liveN (List.replicate n Sto.Rec.free) = 0 := by
  unfold liveN
  rw [List.countP_eq_zero]
  intro a ha
  rw [(List.mem_replicate.1 ha).2]; simp [Sto.Rec.free]
theorem live_set {l : List Sto.Rec} {t : Nat} (ht : t < l.length) (r : Sto.Rec) : liveN (l.set t r) + (if (l[t]).is = true then 1 else 0) = liveN l + (if r.is = true then 1 else 0) := by
  unfold liveN
  rw [List.countP_set ht]
  have : (if (l[t]).is = true then 1 else 0) ≤ List.countP (fun r => r.is) l := by
    split
    · rename_i h
      exact List.countP_pos_iff.2 ⟨l[t], by simp, h⟩
    · exact Nat.zero_le _
  omega
theorem live_putL {l : List Sto.Rec} (ht : Sto.slot l < l.length) (name : ByteArray) (data : List UInt8) : liveN (putL l name data) = liveN l + 1 := by
  have h0 : l[Sto.slot l]? = some l[Sto.slot l] := by simp [ht]
  have := live_set ht ⟨true, name, Sto.nextNum l name, data⟩
  rw [slot_not h0] at this
  simpa [putL] using this
theorem live_putF {l : List Sto.Rec} (ht : Sto.slot l < l.length) (name : ByteArray) (data : List UInt8) : liveN (putF l name data) = liveN l + (if (Sto.best l name l.length).isSome = true then 0 else 1) := by
  have h0 : l[Sto.slot l]? = some l[Sto.slot l] := by simp [ht]
  have h1 := live_putL ht name data
  unfold putF
  cases hb : Sto.best l name l.length with
  | none => simpa using h1
  | some k =>
    obtain ⟨rk, a, b, c⟩ := (Sto.best_top l name l.length).1 k hb
    have e : Sto.slot l ≠ k := fun e => by have h2 := b.1; rw [← e, h0] at h2; cases h2; exact absurd (b.2.1.symm.trans (slot_not h0)) (by simp)
    have hk : (putL l name data)[k]? = some rk := by unfold putL; rw [List.getElem?_set_ne e]; exact b.1
    have hkl : k < (putL l name data).length := by unfold putL; rw [List.length_set]; exact a
    have h2 := live_set hkl Sto.Rec.free
    rw [List.getElem?_eq_getElem hkl] at hk
    rw [Option.some.inj hk, b.2.1] at h2
    rw [if_pos rfl, show Sto.Rec.free.is = false from rfl] at h2
    simp only [Bool.false_eq_true, if_false] at h2
    simp only [Option.isSome_some, if_true]
    omega
/-- a disk that stops at the first write -/
theorem put_dead {s : St} (hh : Holds s.disk s.room s.recs) (hd : s.disk.dead = false) (hs : s.dead = false) (hst : s.disk.stops = true) (hc : s.disk.cnt = 0) (hr : 1 ≤ s.room) {name : ByteArray} {data : List UInt8}
    (hf : fitsB s.room name data = true) (ht : Sto.slot s.recs < s.recs.length) :
    (putR s name data).1 = 8 ∧ (putR s name data).2.dead = true ∧ (putR s name data).2.disk.dead = true ∧ (putR s name data).2.recs = s.recs ∧ Holds (putR s name data).2.disk s.room s.recs := by
  have hx : Sto.slot s.recs * (s.room + 1) + 1 < s.disk.n := hh.lt ht (by omega)
  have htx := text_pos name (s.num name) data
  have hlt : ((Sto.text name (s.num name) data).take 32).length ≤ 32 := by rw [List.length_take]; omega
  have hE : s.writeE (Sto.slot s.recs * (s.room + 1) + 1 + 0) ((Sto.text name (s.num name) data).take 32) = 8 := by
    unfold St.writeE DiskS.wres
    rw [if_pos ⟨DiskS.may_yes hx, hlt⟩, if_neg (by simp [hd]), if_pos ⟨hst, hc⟩]
  obtain ⟨q, hq⟩ : ∃ q, s.room = q + 1 := ⟨s.room - 1, by omega⟩
  have hch : St.chunks (Sto.slot s.recs * (s.room + 1)) s.room s 0 (Sto.text name (s.num name) data) = (8, s.writeS (Sto.slot s.recs * (s.room + 1) + 1 + 0) ((Sto.text name (s.num name) data).take 32)) := by
    have : ∀ at_ n b, b ≠ [] → s.writeE (at_ + 1 + 0) (b.take 32) = 8 → St.chunks at_ (n + 1) s 0 b = (8, s.writeS (at_ + 1 + 0) (b.take 32)) := fun at_ n b h1 h2 => by
      rw [St.chunks, if_neg h1, if_pos (by simp [h2]), h2]
    have h3 := this (Sto.slot s.recs * (s.room + 1)) q _ htx hE
    rw [← hq] at h3
    exact h3
  have e1 : putR s name data = (8, s.writeS (Sto.slot s.recs * (s.room + 1) + 1 + 0) ((Sto.text name (s.num name) data).take 32)) := by
    unfold putR
    rw [if_neg (by simp [hs]), if_neg (by simp [hf]), if_neg (by omega), hch]
    rfl
  obtain ⟨e, s1, c0, c1, c2, c3, c4, c5, c6⟩ := chunks_law (room := s.room) (t := Sto.slot s.recs) s.room s 0 (Sto.text name (s.num name) data) rfl hd hs hh.2.1 (fits_len hf (s.num name)) (by omega) (hh.lt ht (by omega))
  rw [hch] at c0
  cases c0
  rw [e1]
  have hr0 : s.recs[Sto.slot s.recs]? = some s.recs[Sto.slot s.recs] := by simp [ht]
  have hfree : s.recs[Sto.slot s.recs] = Sto.Rec.free ∧ s.disk.f (Sto.slot s.recs * (s.room + 1) * 32) ≠ 1 := by
    rcases hh.2.2 _ _ hr0 with h | h
    · exact h
    · have := slot_not hr0; rw [h.1] at this; cases this
  have hst1 := c5 (Sto.slot s.recs * (s.room + 1) * 32) (by omega)
  have hold := c3.holds hh ht (r := Sto.Rec.free) (Slot.free (by rw [hst1]; exact hfree.2))
  rw [show s.recs.set (Sto.slot s.recs) Sto.Rec.free = s.recs from by rw [← hfree.1]; exact List.set_getElem_self ht] at hold
  rcases c6 with ⟨h, _⟩ | ⟨_, g1, g2, _⟩
  · exact absurd h (by decide)
  · exact ⟨rfl, g1, g2, c1, hold⟩
end Go.Mem
namespace Go.Mem
open Go Go.RowKit Gf
theorem look_isSome {l : List Sto.Rec} {nm : ByteArray} : (Sto.look l nm).isSome = true ↔ ∃ i r, Sto.At l nm i r := by
  unfold Sto.look
  cases hb : Sto.best l nm l.length with
  | none =>
    simp only [Option.map_none, Option.isSome_none, Bool.false_eq_true, false_iff]
    intro ⟨i, r, h⟩
    exact (Sto.best_top l nm l.length).2 hb i r h.lt h
  | some k =>
    simp only [Option.map_some, Option.isSome_some, true_iff]
    obtain ⟨r, _, h, _⟩ := (Sto.best_top l nm l.length).1 k hb
    exact ⟨k, r, h⟩
theorem mem_namesK (l : List Sto.Rec) (x : List UInt8) : ∀ k, x ∈ namesK l k ↔ ∃ i r, i < k ∧ l[i]? = some r ∧ r.is = true ∧ r.name.data.toList = x
  | 0 => by simp [namesK]
  | k + 1 => by
    have ih := mem_namesK l x k
    simp only [namesK]
    cases hr : l[k]? with
    | none =>
      simp only
      rw [ih]
      constructor
      · rintro ⟨i, r, h1, h2⟩; exact ⟨i, r, by omega, h2⟩
      · rintro ⟨i, r, h1, h2, h3⟩
        refine ⟨i, r, ?_, h2, h3⟩
        rcases Nat.lt_or_ge i k with h | h
        · exact h
        · obtain rfl : i = k := by omega
          rw [hr] at h2; cases h2
    | some q =>
      simp only
      split
      · rename_i hq
        rw [List.mem_append, ih, List.mem_singleton]
        constructor
        · rintro (⟨i, r, h1, h2⟩ | rfl)
          · exact ⟨i, r, by omega, h2⟩
          · exact ⟨k, q, by omega, hr, hq, rfl⟩
        · rintro ⟨i, r, h1, h2, h3, h4⟩
          rcases Nat.lt_or_ge i k with h | h
          · exact .inl ⟨i, r, h, h2, h3, h4⟩
          · obtain rfl : i = k := by omega
            rw [hr] at h2; cases h2
            exact .inr h4.symm
      · rename_i hq
        rw [ih]
        constructor
        · rintro ⟨i, r, h1, h2⟩; exact ⟨i, r, by omega, h2⟩
        · rintro ⟨i, r, h1, h2, h3, h4⟩
          rcases Nat.lt_or_ge i k with h | h
          · exact ⟨i, r, h, h2, h3, h4⟩
          · obtain rfl : i = k := by omega
            rw [hr] at h2; cases h2
            exact absurd h3 hq
theorem name_of {a b : ByteArray} (h : a.data.toList = b.data.toList) : a = b := ByteArray.ext (Array.toList_inj.mp h)
theorem mem_names {l : List Sto.Rec} (nm : ByteArray) : nm.data.toList ∈ namesK l l.length ↔ (Sto.look l nm).isSome = true := by
  rw [mem_namesK, look_isSome]
  constructor
  · rintro ⟨i, r, _, h2, h3, h4⟩; exact ⟨i, r, h2, h3, name_of h4⟩
  · rintro ⟨i, r, h⟩; exact ⟨i, r, h.lt, h.1, h.2.1, by rw [h.2.2]⟩
theorem namesK_nodup {l : List Sto.Rec} (hu : Sto.Uniq l) : ∀ k, (namesK l k).Nodup
  | 0 => by simp [namesK]
  | k + 1 => by
    have ih := namesK_nodup hu k
    simp only [namesK]
    split
    · exact ih
    · rename_i q hr
      split
      · rename_i hq
        rw [List.nodup_append]
        refine ⟨ih, by simp, fun a ha b hb e => ?_⟩
        simp only [List.mem_singleton] at hb
        rw [e, hb] at ha
        obtain ⟨i, r, h1, h2, h3, h4⟩ := (mem_namesK l _ k).1 ha
        have := hu q.name i k r q ⟨h2, h3, name_of h4⟩ ⟨hr, hq, rfl⟩
        omega
      · exact ih
theorem namesK_free_len (l : List Sto.Rec) : ∀ k, k ≤ l.length → (namesK l k).length + freeK l k = k
  | 0, _ => rfl
  | k + 1, h => by
    have ih := namesK_free_len l k (by omega)
    have hr : l[k]? = some l[k] := by simp
    simp only [namesK, freeK, hr]
    cases hq : l[k].is with
    | true => simp only [if_true, List.length_append, List.length_singleton, Bool.true_eq_false, if_false]; omega
    | false => simp only [Bool.false_eq_true, if_false, if_true]; omega
theorem namesK_live (l : List Sto.Rec) : ∀ k, k ≤ l.length → (namesK l k).length = ((l.take k).countP fun r => r.is)
  | 0, _ => by simp [namesK]
  | k + 1, h => by
    have ih := namesK_live l k (by omega)
    have hr : l[k]? = some l[k] := by simp
    rw [List.take_add_one, hr, List.countP_append]
    simp only [namesK, hr]
    cases hq : l[k].is with
    | true => simp only [if_true, List.length_append, List.length_singleton, ih]; simp [hq]
    | false => simp only [Bool.false_eq_true, if_false, ih]; simp [hq]
theorem names_live (l : List Sto.Rec) : (namesK l l.length).length = liveN l := by
  rw [namesK_live l _ (Nat.le_refl _), List.take_length]; rfl
theorem free_live (l : List Sto.Rec) : liveN l + freeK l l.length = l.length := by
  have := namesK_free_len l l.length (Nat.le_refl _)
  rw [names_live] at this
  exact this
/-- the names, rising, where it is known which there are -/
theorem names_sorted {l : List Sto.Rec} (hu : Sto.Uniq l) {S : List (List UInt8)} (h1 : S.Nodup) (h2 : S.Pairwise (fun x y => decide (x ≤ y) = true)) (h : ∀ x, x ∈ namesK l l.length ↔ x ∈ S) : (namesK l l.length).mergeSort (fun x y => decide (x ≤ y)) = S := by
  have hp : (namesK l l.length).Perm S := (List.perm_ext_iff_of_nodup (namesK_nodup hu _) h1).2 fun a => h a
  have hs := List.pairwise_mergeSort (le := fun x y : List UInt8 => decide (x ≤ y)) (fun a b c h h' => by simp at h h' ⊢; exact List.le_trans h h') (fun a b => by simp; exact List.le_total a b) (namesK l l.length)
  exact List.Perm.eq_of_pairwise (fun a b _ _ h h' => by simp at h h'; exact List.le_antisymm h h') hs h2 ((List.mergeSort_perm _ _).trans hp)
end Go.Mem
