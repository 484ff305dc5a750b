/- Texts of this proof, packed: StoreLaw2, StoreLab, Ref10Law, Ref10OpenL. -/
import Derived.Test.YtehgnkdfnnebcaaGreatDoorPk10
import Derived.Test.YtehgnkdfnnebcaaGreatDoorPk07
import Derived.Test.YtehgnkdfnnebcaaGreatDoorPk09
import Derived.Sort.Walk0
section
namespace Go.Mem
open Go Go.RowKit Gf Go.Proofs.YtehgnkdfnnebcaaGreatDoor
theorem nDigits_3 {u : Nat} (h : u < 1000) : Lib.nDigits u ≤ 3 := by
  by_cases h1 : u < 10
  · rw [Lib.nDigits_small h1]; omega
  · rw [Lib.nDigits_big h1]
    by_cases h2 : u / 10 < 10
    · rw [Lib.nDigits_small h2]; omega
    · rw [Lib.nDigits_big h2, Lib.nDigits_small (by omega)]; omega
theorem text_le {name : ByteArray} {num : Nat} {data : List UInt8} (h1 : name.size < 1000) (h2 : data.length < 1000) : (Sto.text name num data).length ≤ name.size + data.length + 17 := by
  have e1 : name.data.toList.length = name.size := Array.length_toList
  have d1 := nDigits_3 (u := name.size) h1
  have d2 := nDigits_3 h2
  have d3 : Lib.nDigits 4 = 1 := Lib.nDigits_small (by decide)
  simp only [Sto.text, Cod.nets, List.length_append, Cod.net_len, Cod.be_len, List.length_nil, e1, d3]
  omega
theorem text_pos (name : ByteArray) (num : Nat) (data : List UInt8) : Sto.text name num data ≠ [] := fun h => by
  have := congrArg List.length h
  simp only [Sto.text, Cod.nets, List.length_append, Cod.net_len, Cod.be_len, List.length_nil] at this
  omega
theorem fits_of {room : Nat} {name : ByteArray} {data : List UInt8} (h1 : name.size < 1000) (h2 : data.length < 1000) (h : name.size + data.length + 17 ≤ room * 32) : fitsB room name data = true := by
  have := text_le (num := 0) h1 h2
  unfold fitsB
  simp only [Bool.and_eq_true, decide_eq_true_eq]
  omega
def liveN (l : List Sto.Rec) : Nat := l.countP fun r => r.is
theorem slot_of_live {l : List Sto.Rec} (h : liveN l < l.length) : Sto.slot l < l.length := by
  unfold Sto.slot
  rw [List.findIdx_lt_length]
  exact Classical.byContradiction fun hn => by
    have : liveN l = l.length := by
      unfold liveN
      rw [List.countP_eq_length]
      intro a ha
      exact Classical.byContradiction fun h' => hn ⟨a, ha, by simpa using h'⟩
    omega
theorem live_free (n : Nat) : liveN (List.replicate n Sto.Rec.free) = 0 := by
  unfold liveN
  rw [List.countP_eq_zero]
  intro a ha
  rw [(List.mem_replicate.1 ha).2]; simp [Sto.Rec.free]
theorem live_set {l : List Sto.Rec} {t : Nat} (ht : t < l.length) (r : Sto.Rec) : liveN (l.set t r) + (if (l[t]).is = true then 1 else 0) = liveN l + (if r.is = true then 1 else 0) := by
  unfold liveN
  rw [List.countP_set ht]
  have : (if (l[t]).is = true then 1 else 0) ≤ List.countP (fun r => r.is) l := by
    split
    · rename_i h
      exact List.countP_pos_iff.2 ⟨l[t], by simp, h⟩
    · exact Nat.zero_le _
  omega
theorem live_putL {l : List Sto.Rec} (ht : Sto.slot l < l.length) (name : ByteArray) (data : List UInt8) : liveN (putL l name data) = liveN l + 1 := by
  have h0 : l[Sto.slot l]? = some l[Sto.slot l] := by simp [ht]
  have := live_set ht ⟨true, name, Sto.nextNum l name, data⟩
  rw [slot_not h0] at this
  simpa [putL] using this
theorem live_putF {l : List Sto.Rec} (ht : Sto.slot l < l.length) (name : ByteArray) (data : List UInt8) : liveN (putF l name data) = liveN l + (if (Sto.best l name l.length).isSome = true then 0 else 1) := by
  have h0 : l[Sto.slot l]? = some l[Sto.slot l] := by simp [ht]
  have h1 := live_putL ht name data
  unfold putF
  cases hb : Sto.best l name l.length with
  | none => simpa using h1
  | some k =>
    obtain ⟨rk, a, b, c⟩ := (Sto.best_top l name l.length).1 k hb
    have e : Sto.slot l ≠ k := fun e => by have h2 := b.1; rw [← e, h0] at h2; cases h2; exact absurd (b.2.1.symm.trans (slot_not h0)) (by simp)
    have hk : (putL l name data)[k]? = some rk := by unfold putL; rw [List.getElem?_set_ne e]; exact b.1
    have hkl : k < (putL l name data).length := by unfold putL; rw [List.length_set]; exact a
    have h2 := live_set hkl Sto.Rec.free
    rw [List.getElem?_eq_getElem hkl] at hk
    rw [Option.some.inj hk, b.2.1] at h2
    rw [if_pos rfl, show Sto.Rec.free.is = false from rfl] at h2
    simp only [Bool.false_eq_true, if_false] at h2
    simp only [Option.isSome_some, if_true]
    omega
theorem put_dead {s : St} (hh : Holds s.disk s.room s.recs) (hd : s.disk.dead = false) (hs : s.dead = false) (hst : s.disk.stops = true) (hc : s.disk.cnt = 0) (hr : 1 ≤ s.room) {name : ByteArray} {data : List UInt8}
    (hf : fitsB s.room name data = true) (ht : Sto.slot s.recs < s.recs.length) :
    (putR s name data).1 = 8 ∧ (putR s name data).2.dead = true ∧ (putR s name data).2.disk.dead = true ∧ (putR s name data).2.recs = s.recs ∧ Holds (putR s name data).2.disk s.room s.recs := by
  have hx : Sto.slot s.recs * (s.room + 1) + 1 < s.disk.n := hh.lt ht (by omega)
  have htx := text_pos name (s.num name) data
  have hlt : ((Sto.text name (s.num name) data).take 32).length ≤ 32 := by rw [List.length_take]; omega
  have hE : s.writeE (Sto.slot s.recs * (s.room + 1) + 1 + 0) ((Sto.text name (s.num name) data).take 32) = 8 := by
    unfold St.writeE DiskS.wres
    rw [if_pos ⟨DiskS.may_yes hx, hlt⟩, if_neg (by simp [hd]), if_pos ⟨hst, hc⟩]
  obtain ⟨q, hq⟩ : ∃ q, s.room = q + 1 := ⟨s.room - 1, by omega⟩
  have hch : St.chunks (Sto.slot s.recs * (s.room + 1)) s.room s 0 (Sto.text name (s.num name) data) = (8, s.writeS (Sto.slot s.recs * (s.room + 1) + 1 + 0) ((Sto.text name (s.num name) data).take 32)) := by
    have : ∀ at_ n b, b ≠ [] → s.writeE (at_ + 1 + 0) (b.take 32) = 8 → St.chunks at_ (n + 1) s 0 b = (8, s.writeS (at_ + 1 + 0) (b.take 32)) := fun at_ n b h1 h2 => by
      rw [St.chunks, if_neg h1, if_pos (by simp [h2]), h2]
    have h3 := this (Sto.slot s.recs * (s.room + 1)) q _ htx hE
    rw [← hq] at h3
    exact h3
  have e1 : putR s name data = (8, s.writeS (Sto.slot s.recs * (s.room + 1) + 1 + 0) ((Sto.text name (s.num name) data).take 32)) := by
    unfold putR
    rw [if_neg (by simp [hs]), if_neg (by simp [hf]), if_neg (by omega), hch]
    rfl
  obtain ⟨e, s1, c0, c1, c2, c3, c4, c5, c6⟩ := chunks_law (room := s.room) (t := Sto.slot s.recs) s.room s 0 (Sto.text name (s.num name) data) rfl hd hs hh.2.1 (fits_len hf (s.num name)) (by omega) (hh.lt ht (by omega))
  rw [hch] at c0
  cases c0
  rw [e1]
  have hr0 : s.recs[Sto.slot s.recs]? = some s.recs[Sto.slot s.recs] := by simp [ht]
  have hfree : s.recs[Sto.slot s.recs] = Sto.Rec.free ∧ s.disk.f (Sto.slot s.recs * (s.room + 1) * 32) ≠ 1 := by
    rcases hh.2.2 _ _ hr0 with h | h
    · exact h
    · have := slot_not hr0; rw [h.1] at this; cases this
  have hst1 := c5 (Sto.slot s.recs * (s.room + 1) * 32) (by omega)
  have hold := c3.holds hh ht (r := Sto.Rec.free) (Slot.free (by rw [hst1]; exact hfree.2))
  rw [show s.recs.set (Sto.slot s.recs) Sto.Rec.free = s.recs from by rw [← hfree.1]; exact List.set_getElem_self ht] at hold
  rcases c6 with ⟨h, _⟩ | ⟨_, g1, g2, _⟩
  · exact absurd h (by decide)
  · exact ⟨rfl, g1, g2, c1, hold⟩
end Go.Mem
namespace Go.Mem
open Go Go.RowKit Gf
theorem mem_namesK (l : List Sto.Rec) (x : List UInt8) : ∀ k, x ∈ namesK l k ↔ ∃ i r, i < k ∧ l[i]? = some r ∧ r.is = true ∧ r.name.data.toList = x
  | 0 => by simp [namesK]
  | k + 1 => by
    have ih := mem_namesK l x k
    simp only [namesK]
    cases hr : l[k]? with
    | none =>
      simp only
      rw [ih]
      constructor
      · rintro ⟨i, r, h1, h2⟩; exact ⟨i, r, by omega, h2⟩
      · rintro ⟨i, r, h1, h2, h3⟩
        refine ⟨i, r, ?_, h2, h3⟩
        rcases Nat.lt_or_ge i k with h | h
        · exact h
        · obtain rfl : i = k := by omega
          rw [hr] at h2; cases h2
    | some q =>
      simp only
      split
      · rename_i hq
        rw [List.mem_append, ih, List.mem_singleton]
        constructor
        · rintro (⟨i, r, h1, h2⟩ | rfl)
          · exact ⟨i, r, by omega, h2⟩
          · exact ⟨k, q, by omega, hr, hq, rfl⟩
        · rintro ⟨i, r, h1, h2, h3, h4⟩
          rcases Nat.lt_or_ge i k with h | h
          · exact .inl ⟨i, r, h, h2, h3, h4⟩
          · obtain rfl : i = k := by omega
            rw [hr] at h2; cases h2
            exact .inr h4.symm
      · rename_i hq
        rw [ih]
        constructor
        · rintro ⟨i, r, h1, h2⟩; exact ⟨i, r, by omega, h2⟩
        · rintro ⟨i, r, h1, h2, h3, h4⟩
          rcases Nat.lt_or_ge i k with h | h
          · exact ⟨i, r, h, h2, h3, h4⟩
          · obtain rfl : i = k := by omega
            rw [hr] at h2; cases h2
            exact absurd h3 hq
theorem name_of {a b : ByteArray} (h : a.data.toList = b.data.toList) : a = b := ByteArray.ext (Array.toList_inj.mp h)
theorem namesK_nodup {l : List Sto.Rec} (hu : Sto.Uniq l) : ∀ k, (namesK l k).Nodup
  | 0 => by simp [namesK]
  | k + 1 => by
    have ih := namesK_nodup hu k
    simp only [namesK]
    split
    · exact ih
    · rename_i q hr
      split
      · rename_i hq
        rw [List.nodup_append]
        refine ⟨ih, by simp, fun a ha b hb e => ?_⟩
        simp only [List.mem_singleton] at hb
        rw [e, hb] at ha
        obtain ⟨i, r, h1, h2, h3, h4⟩ := (mem_namesK l _ k).1 ha
        have := hu q.name i k r q ⟨h2, h3, name_of h4⟩ ⟨hr, hq, rfl⟩
        omega
      · exact ih
theorem namesK_free_len (l : List Sto.Rec) : ∀ k, k ≤ l.length → (namesK l k).length + freeK l k = k
  | 0, _ => rfl
  | k + 1, h => by
    have ih := namesK_free_len l k (by omega)
    have hr : l[k]? = some l[k] := by simp
    simp only [namesK, freeK, hr]
    cases hq : l[k].is with
    | true => simp only [if_true, List.length_append, List.length_singleton, Bool.true_eq_false, if_false]; omega
    | false => simp only [Bool.false_eq_true, if_false, if_true]; omega
theorem names_sorted {l : List Sto.Rec} (hu : Sto.Uniq l) {S : List (List UInt8)} (h1 : S.Nodup) (h2 : S.Pairwise (fun x y => decide (x ≤ y) = true)) (h : ∀ x, x ∈ namesK l l.length ↔ x ∈ S) : (namesK l l.length).mergeSort (fun x y => decide (x ≤ y)) = S := by
  have hp : (namesK l l.length).Perm S := (List.perm_ext_iff_of_nodup (namesK_nodup hu _) h1).2 fun a => h a
  have hs := List.pairwise_mergeSort (le := fun x y : List UInt8 => decide (x ≤ y)) (fun a b c h h' => by simp at h h' ⊢; exact List.le_trans h h') (fun a b => by simp; exact List.le_total a b) (namesK l l.length)
  exact List.Perm.eq_of_pairwise (fun a b _ _ h h' => by simp at h h'; exact List.le_antisymm h h') hs h2 ((List.mergeSort_perm _ _).trans hp)
end Go.Mem
end
section
namespace Go.Mem
open Go Go.RowKit Gf Go.Proofs.YtehgnkdfnnebcaaGreatDoor
theorem St.get_look {s : St} (h : s.dead = false) (name : ByteArray) : s.get name = Sto.look s.recs name := by
  unfold St.get Sto.look
  rw [if_neg (by simp [h])]
structure SGood (m : Nat) (s : St) : Prop where
  holds : Holds s.disk s.room s.recs
  uniq : Sto.Uniq s.recs
  disk : s.disk.dead = false
  dead : s.dead = false
  bnd : Bnd m s.recs
  writes : s.disk.writes ≤ 2000 * m
  stops : s.disk.stops = false
  room : 1 ≤ s.room ∧ s.room ≤ 1000
theorem SGood.fresh (slots room : Nat) (h : 1 ≤ room ∧ room ≤ 1000) : SGood 0 ⟨room, List.replicate slots Sto.Rec.free, false, .fresh (slots * (room + 1))⟩ :=
  ⟨Holds.fresh slots room, uniq_free slots, rfl, rfl, bnd_free slots, Nat.le_refl _, rfl, h⟩
theorem SGood.put {m : Nat} {s : St} (h : SGood m s) (hm : m < 1000000) {name : ByteArray} {data : List UInt8} (hf : fitsB s.room name data = true) (ht : Sto.slot s.recs < s.recs.length) :
    (putR s name data).1 = 0 ∧ SGood (m + 1) (putR s name data).2 ∧ (putR s name data).2.recs = putF s.recs name data ∧ (putR s name data).2.room = s.room := by
  have hr := h.room
  rcases put_law h.holds h.disk h.dead h.bnd (by omega) name data with ⟨h1, _⟩ | ⟨_, h1, _⟩ | ⟨_, _, h1, h2, h3⟩
  · rw [hf] at h1; cases h1
  · omega
  · rcases h3 with ⟨a1, a2, a3, a4, a5⟩ | ⟨_, a2, _⟩
    · refine ⟨a1, ⟨by rw [h1, a4]; exact a5, by rw [a4]; exact putF_uniq h.uniq ht name data, a3, a2, ?_, ?_, h2.trans h.stops, by rw [h1]; exact hr⟩, a4, h1⟩
      · rw [a4]
        have hl : Bnd (m + 1) (putL s.recs name data) := h.bnd.set (by omega) _ (h.bnd.next name)
        exact hl.thin (putL_thin ht name data)
      · have := put_writes s name data
        have := h.writes
        omega
    · rw [h.stops] at a2; cases a2
end Go.Mem
namespace Go.Proofs.YtehgnkdfnnebcaaGreatDoor
open Go Go.RowKit Go.Mem Gf
def DL (d L : Nat) (b : Nat) : Prop := b = d ∨ b = L
structure Lab (w0 w : World) (d L : Nat) (D : DiskS) : Prop where
  disk : IsDisk w d L D
  bel : Below w0.heap.size w0 w
  d1 : w0.heap.size ≤ d
  l1 : w0.heap.size ≤ L
  tab : Tab w
structure LabS (w0 w : World) (sb lb d L : Nat) (s : St) : Prop where
  st : IsStore w (fun b => DL d L b ∨ b = sb ∨ b = lb) sb lb d L s
  bel : Below w0.heap.size w0 w
  d1 : w0.heap.size ≤ d
  l1 : w0.heap.size ≤ L
  s1 : w0.heap.size ≤ sb
  b1 : w0.heap.size ≤ lb
theorem LabS.step {w0 w w' : World} {sb lb d L : Nat} {s : St} (h : LabS w0 w sb lb d L s) (hb : Below w.heap.size w w') : LabS w0 w' sb lb d L s :=
  ⟨h.st.below hb, h.bel.trans (hb.mono h.bel.size), h.d1, h.l1, h.s1, h.b1⟩
theorem LabS.lab {w0 w : World} {sb lb d L : Nat} {s : St} (h : LabS w0 w sb lb d L s) : Lab w0 w d L s.disk := ⟨h.st.disk, h.bel, h.d1, h.l1, h.st.tab⟩
theorem Chg.far {S : Nat → Prop} {B : Nat} {w0 w w' : World} (h : Below B w0 w) (hc : Chg S w w') (hB : B ≤ w.heap.size) (hs : ∀ k, S k → B ≤ k) : Below B w0 w' := h.trans (hc.below hB hs)
theorem IsStore.redisk {w w' : World} {N : Nat → Prop} {sb lb d L : Nat} {s : St} {D : DiskS} (h : IsStore w N sb lb d L s) (hc : Chg (DL d L) w w') (hD : IsDisk w' d L D) (hn : D.n = s.disk.n) (hw : s.disk.writes ≤ D.writes) (hw2 : D.writes ≤ 72057594037927936) : IsStore w' N sb lb d L { s with disk := D } := by
  obtain ⟨cap, hB, a, b⟩ := h.blk
  have hne := h.ne
  have hs : ∀ k, DL d L k → k < w.heap.size → N k := fun k hk _ => by
    rcases hk with rfl | rfl
    · exact h.foot _ (.inr (.inr (.inl rfl)))
    · exact h.foot _ (.inr (.inr (.inr rfl)))
  exact ⟨⟨cap, hc.blk hB (fun hk => by rcases hk with e | e; exact hne.2.1 e; exact hne.2.2.1 e), a, b⟩, h.recs.chg hc (fun hk => by rcases hk with e | e; exact hne.2.2.2.1 e; exact hne.2.2.2.2 e) hs, hD,
    h.tab.chg hc (fun hk => h.ntab (hs _ hk h.tab.lt)), h.ntab, h.foot, h.ne, ⟨h.ok.room1, h.ok.room2, h.ok.len1, h.ok.len2, hn.trans h.ok.size, fun r hr => by have := h.ok.each r hr; simp only; omega, hw2⟩, fun b hb => Nat.lt_of_lt_of_le (h.old b hb) hc.size⟩
theorem LabS.redisk {w0 w w' : World} {sb lb d L : Nat} {s : St} {D : DiskS} (h : LabS w0 w sb lb d L s) (hc : Chg (DL d L) w w') (hD : IsDisk w' d L D) (hn : D.n = s.disk.n) (hw : s.disk.writes ≤ D.writes) (hw2 : D.writes ≤ 72057594037927936) : LabS w0 w' sb lb d L { s with disk := D } :=
  ⟨h.st.redisk hc hD hn hw hw2, Chg.far h.bel hc h.bel.size (fun k hk => by rcases hk with rfl | rfl; exact h.d1; exact h.l1), h.d1, h.l1, h.s1, h.b1⟩
theorem Lab.chg {w0 w w' : World} {d L : Nat} {D D' : DiskS} (h : Lab w0 w d L D) (ht : gT ≠ d ∧ gT ≠ L) (hc : Chg (DL d L) w w') (hD : IsDisk w' d L D') : Lab w0 w' d L D' :=
  ⟨hD, Chg.far h.bel hc h.bel.size (fun k hk => by rcases hk with rfl | rfl; exact h.d1; exact h.l1), h.d1, h.l1, h.tab.chg hc (fun hk => by rcases hk with e | e; exact ht.1 e; exact ht.2 e)⟩
theorem lab_new (n : Nat) (w0 w : World) (hT0 : Tab w0) (hb : Below w0.heap.size w0 w) (h1 : 1 ≤ n) (h2 : n ≤ 4096) :
    Calls Tryz.prog 9 #[.int .i64 n] w fun e w' => ∃ d L, e = .returned (.tuple #[.pointer (some ⟨d, 0, none⟩), .int .i64 0]) ∧ Lab w0 w' d L (.fresh n) ∧ (gT ≠ d ∧ gT ≠ L) ∧ Below w.heap.size w w' := by
  refine (dnew_calls n w h1 h2).mono ?_
  rintro e w1 ⟨d, L, rfl, hD, hd1, hd2, hb1⟩
  have hs := hb.size
  have := hT0.lt
  exact ⟨d, L, rfl, ⟨hD, hb.trans (hb1.mono hs), by omega, by omega, (hT0.below hb).below hb1⟩, ⟨by omega, by omega⟩, hb1⟩
theorem lab_open {w0 w : World} {d L : Nat} {D : DiskS} (h : Lab w0 w d L D) (ht : gT ≠ d ∧ gT ≠ L) (slots room : Nat) (h1 : 1 ≤ slots ∧ slots ≤ 1024) (h2 : 1 ≤ room ∧ room ≤ 1024) (hn : D.n = slots * (room + 1)) (hfew : D.writes < 72057594037920000) :
    Calls Tryz.prog 38 #[.pointer (some ⟨d, 0, none⟩), .int .i64 slots, .int .i64 room] w fun e w' => ∃ p, e = .returned (.tuple #[p, .int .i64 (openR D slots room).1]) ∧ Chg (DL d L) w w' ∧ Lab w0 w' d L (openR D slots room).2.1 ∧
      (((openR D slots room).2.2 = none ∧ p = .pointer none) ∨ ∃ s sb lb, (openR D slots room).2.2 = some s ∧ p = .pointer (some ⟨sb, 0, none⟩) ∧ LabS w0 w' sb lb d L s) := by
  have hs := h.bel.size
  have hd := h.disk.lt
  refine (open_calls (DL d L) d L D slots room w h.tab ⟨fun hk => by rcases hk with e | e; exact ht.1 e; exact ht.2 e, .inl rfl, .inr rfl, fun b hb => by rcases hb with rfl | rfl; exact hd.1; exact hd.2⟩ h.disk (by simp; omega) (by simp; omega) hn hfew).mono ?_
  rintro e w1 ⟨p, rfl, hc, hD, hp⟩
  have hl := h.chg ht hc hD
  refine ⟨p, rfl, hc, hl, ?_⟩
  rcases hp with hp | ⟨s, lb, e1, e2, e3, e4⟩
  · exact .inl hp
  · exact .inr ⟨s, w.heap.size, lb, e1, e2, ⟨e4, hl.bel, h.d1, h.l1, hs, by omega⟩⟩
theorem lab_open_uniq {w0 w : World} {d L : Nat} {D : DiskS} (h : Lab w0 w d L D) (ht : gT ≠ d ∧ gT ≠ L) {slots room : Nat} {l : List Sto.Rec} (h1 : 1 ≤ slots ∧ slots ≤ 1024) (h2 : 1 ≤ room ∧ room ≤ 1024) (hfew : D.writes < 72057594037920000) (hl : l.length = slots) (hh : Holds D room l) (hd : D.dead = false) (hu : Sto.Uniq l) :
    Calls Tryz.prog 38 #[.pointer (some ⟨d, 0, none⟩), .int .i64 slots, .int .i64 room] w fun e w' => ∃ sb lb, e = .returned (.tuple #[.pointer (some ⟨sb, 0, none⟩), .int .i64 0]) ∧ LabS w0 w' sb lb d L ⟨room, l, false, D⟩ ∧ Chg (DL d L) w w' := by
  have ho := open_uniq hh hd hu
  rw [hl] at ho
  refine (lab_open h ht slots room h1 h2 (by rw [← hl]; exact hh.1) hfew).mono ?_
  rintro e w1 ⟨p, rfl, hc, _, hp⟩
  rw [ho] at hp ⊢
  rcases hp with ⟨h, _⟩ | ⟨s, sb, lb, e1, rfl, e3⟩
  · cases h
  · cases e1
    exact ⟨sb, lb, rfl, e3, hc⟩
theorem lab_put {w0 w : World} {sb lb d L : Nat} {s : St} (h : LabS w0 w sb lb d L s) (name : ByteArray) (v : Value) (data : List UInt8) (hb : Bys w v data) (hn : name.size ≤ 1000000) (hdl : data.length ≤ 1000000) (hv : ∀ w', Chg (Foot sb lb d L) w w' → Bys w' v data) (hfew : s.disk.writes < 72057594037920000) :
    Calls Tryz.prog 35 #[.pointer (some ⟨sb, 0, none⟩), .string name, v] w fun e w' => e = .returned (.int .i64 (putR s name data).1) ∧ LabS w0 w' sb lb d L (putR s name data).2 ∧ Chg (Foot sb lb d L) w w' := by
  refine (sput_calls _ sb lb d L s name v data w h.st hb hn hdl hv hfew).mono ?_
  rintro e w1 ⟨rfl, h1, hc⟩
  exact ⟨rfl, ⟨h1, Chg.far h.bel hc h.bel.size (fun k hk => by rcases hk with rfl | rfl | rfl | rfl; exact h.s1; exact h.b1; exact h.d1; exact h.l1), h.d1, h.l1, h.s1, h.b1⟩, hc⟩
theorem lab_put_new {w0 w w' : World} {sb lb d L : Nat} {s : St} (h : LabS w0 w sb lb d L s) (hal : Below w.heap.size w w') (name : ByteArray) (a : Addr) (l c : Nat) (data : List UInt8) (hb : Bys w' (.slice (some a) l c) data) (ha : w.heap.size ≤ a.block) (hn : name.size ≤ 1000000) (hdl : data.length ≤ 1000000) (hfew : s.disk.writes < 72057594037920000) :
    Calls Tryz.prog 35 #[.pointer (some ⟨sb, 0, none⟩), .string name, .slice (some a) l c] w' fun e w'' => e = .returned (.int .i64 (putR s name data).1) ∧ LabS w0 w'' sb lb d L (putR s name data).2 ∧ Chg (Foot sb lb d L) w' w'' :=
  lab_put (h.step hal) name _ data hb hn hdl (fun _ hc => hb.chg hc fun a' l' c' e hf => by cases e; have := h.st.lt _ hf; omega) hfew
theorem lab_stop {w0 w : World} {sb lb d L : Nat} {s : St} (h : LabS w0 w sb lb d L s) (x y : Int) (hx : x ≤ 9223372036854775807) :
    Calls Tryz.prog 26 #[.pointer (some ⟨d, 0, none⟩), .int .i64 x, .int .i64 y] w fun e w' => e = .returned (.tuple #[]) ∧ LabS w0 w' sb lb d L { s with disk := s.disk.stop x y } ∧ Chg (DL d L) w w' := by
  refine (dstop_calls d L s.disk x y w h.st.disk hx).mono ?_
  rintro e w1 ⟨rfl, hD, hc⟩
  have hc' : Chg (DL d L) w w1 := hc.mono (fun k hk => .inl hk)
  exact ⟨rfl, h.redisk hc' hD rfl (Nat.le_refl _) h.st.ok.few, hc'⟩
theorem lab_start {w0 w : World} {sb lb d L : Nat} {s : St} (h : LabS w0 w sb lb d L s) :
    Calls Tryz.prog 28 #[.pointer (some ⟨d, 0, none⟩)] w fun e w' => e = .returned (.tuple #[]) ∧ LabS w0 w' sb lb d L { s with disk := s.disk.start } ∧ Chg (DL d L) w w' := by
  refine (dstart_calls d L s.disk w h.st.disk).mono ?_
  rintro e w1 ⟨rfl, hD, hc⟩
  have hc' : Chg (DL d L) w w1 := hc.mono (fun k hk => .inl hk)
  exact ⟨rfl, h.redisk hc' hD rfl (Nat.le_refl _) h.st.ok.few, hc'⟩
end Go.Proofs.YtehgnkdfnnebcaaGreatDoor
namespace Go.Mem
open Go Go.RowKit Gf Go.Proofs.YtehgnkdfnnebcaaGreatDoor
end Go.Mem
namespace Go.Proofs.YtehgnkdfnnebcaaGreatDoor
open Go Go.RowKit Go.Mem Gf
attribute [local go_sem ↓] Go.wp_at_zero Go.wp_at_succ
end Go.Proofs.YtehgnkdfnnebcaaGreatDoor
namespace Go.Mem
open Go Go.RowKit Gf Go.Proofs.YtehgnkdfnnebcaaGreatDoor
end Go.Mem
namespace Go.Proofs.YtehgnkdfnnebcaaGreatDoor
open Go Go.RowKit Go.Mem Gf
end Go.Proofs.YtehgnkdfnnebcaaGreatDoor
end
section
namespace Go.Mem
open Go Go.RowKit Gf Go.Proofs.YtehgnkdfnnebcaaGreatDoor
set_option linter.unusedVariables false
theorem wres_zero (s : DiskS) (i : Int) : s.wres i 1 = s.wres i 0 := by
  unfold DiskS.wres
  by_cases h : s.may i = true <;> simp [h]
theorem lay_zero' (s : DiskS) (i m : Nat) : s.lay i [0] m = s.lay i [] m := by
  funext j
  unfold DiskS.lay
  split
  · cases h : j - i * 32 with
    | zero => rfl
    | succ k => simp
  · rfl
theorem wr_zero (s : DiskS) (i : Int) : s.wr i [0] = s.wr i [] := by
  unfold DiskS.wr DiskS.write
  simp only [lay_zero', List.length_singleton, List.length_nil]
  by_cases h : s.may i = true <;> simp [h]
theorem less_iff (x y : List UInt8) : (Op.bytesLess x y = true) ↔ x < y := by rw [Go.Proofs.bytesLess_eq, decide_eq_true_iff]
section
variable {α : Type} (nm : α → ByteArray)
def putN (r : α) (pre : List α) : List α × Bool :=
  (pre.filter (fun x => Op.bytesLess (nm x).toList (nm r).toList) ++ (if (pre.any fun x => !Op.bytesLess (nm x).toList (nm r).toList) = true then [r] else []) ++ pre.filter (fun x => Op.bytesLess (nm r).toList (nm x).toList), pre.any fun x => !Op.bytesLess (nm x).toList (nm r).toList)
theorem putN_low {r : α} {pre : List α} (h : ∀ y ∈ pre, (nm y).toList < (nm r).toList) : putN nm r pre = (pre, false) := by
  have h1 : ∀ y ∈ pre, Op.bytesLess (nm y).toList (nm r).toList = true := fun y hy => (less_iff _ _).2 (h y hy)
  have h2 : ∀ y ∈ pre, Op.bytesLess (nm r).toList (nm y).toList = false := fun y hy => by
    rw [Bool.eq_false_iff]
    intro e
    exact List.lt_irrefl _ (List.lt_trans (h y hy) ((less_iff _ _).1 e))
  have e1 : (pre.any fun x => !Op.bytesLess (nm x).toList (nm r).toList) = false := by
    rw [List.any_eq_false]
    intro y hy
    rw [h1 y hy]
    decide
  unfold putN
  rw [e1, List.filter_eq_self.2 h1, List.filter_eq_nil_iff.2 (fun y hy => by rw [h2 y hy]; decide)]
  simp
theorem putN_step {r x : α} {pre : List α} (hs : ∀ y ∈ pre, (nm y).toList < (nm x).toList) : putStep nm r (putN nm r pre) x = putN nm r (pre ++ [x]) := by
  by_cases h1 : (nm x).toList < (nm r).toList
  · rw [putN_low nm (fun y hy => List.lt_trans (hs y hy) h1), putN_low nm (fun y hy => by
      rcases List.mem_append.1 hy with hy | hy
      · exact List.lt_trans (hs y hy) h1
      · rw [List.mem_singleton.1 hy]; exact h1)]
    have e1 : Op.bytesLess (nm x).toList (nm r).toList = true := (less_iff _ _).2 h1
    have e2 : ((nm x).toList == (nm r).toList) = false := by
      rw [Bool.eq_false_iff]
      intro e
      rw [eq_of_beq e] at h1
      exact List.lt_irrefl _ h1
    unfold putStep
    simp [e1, e2]
  · have e1 : Op.bytesLess (nm x).toList (nm r).toList = false := by
      rw [Bool.eq_false_iff]
      intro e
      exact h1 ((less_iff _ _).1 e)
    by_cases h2 : (nm x).toList = (nm r).toList
    · rw [putN_low nm (fun y hy => by rw [← h2]; exact hs y hy)]
      have hl : ∀ y ∈ pre, Op.bytesLess (nm y).toList (nm r).toList = true := fun y hy => (less_iff _ _).2 (by rw [← h2]; exact hs y hy)
      have hg : ∀ y ∈ pre, Op.bytesLess (nm r).toList (nm y).toList = false := fun y hy => by
        rw [Bool.eq_false_iff]
        intro e
        rw [← h2] at e
        exact List.lt_irrefl _ (List.lt_trans (hs y hy) ((less_iff _ _).1 e))
      have e3 : Op.bytesLess (nm r).toList (nm x).toList = false := by
        rw [Bool.eq_false_iff]
        intro e
        rw [← h2] at e
        exact List.lt_irrefl _ ((less_iff _ _).1 e)
      have e2 : ((nm x).toList == (nm r).toList) = true := by rw [h2]; simp
      have ef1 : (pre ++ [x]).filter (fun x => Op.bytesLess (nm x).toList (nm r).toList) = pre := by
        rw [List.filter_append, List.filter_eq_self.2 hl]
        simp [e1]
      have ef2 : (pre ++ [x]).filter (fun x => Op.bytesLess (nm r).toList (nm x).toList) = [] := by
        rw [List.filter_append, List.filter_eq_nil_iff.2 (fun y hy => by rw [hg y hy]; decide)]
        simp [e3]
      have ea : ((pre ++ [x]).any fun x => !Op.bytesLess (nm x).toList (nm r).toList) = true := by
        rw [List.any_append]
        simp [e1]
      unfold putN
      rw [ef1, ef2, ea]
      unfold putStep
      simp [e2, e1]
    · have h3 : (nm r).toList < (nm x).toList := by
        by_cases h : (nm r).toList < (nm x).toList
        · exact h
        · exact absurd (List.le_antisymm (List.not_lt.1 h) (List.not_lt.1 h1)) h2
      have e3 : Op.bytesLess (nm r).toList (nm x).toList = true := (less_iff _ _).2 h3
      have e2 : ((nm x).toList == (nm r).toList) = false := by
        rw [Bool.eq_false_iff]
        intro e
        exact h2 (eq_of_beq e)
      unfold putStep putN
      rw [List.filter_append, List.filter_append, List.any_append]
      simp only [e1, e2, e3, List.filter_cons, List.filter_nil, List.any_cons, List.any_nil, Bool.not_false, Bool.or_false, Bool.or_true, if_true]
      cases hany : pre.any fun x => !Op.bytesLess (nm x).toList (nm r).toList with
      | true => simp
      | false =>
        have hall : ∀ y ∈ pre, Op.bytesLess (nm y).toList (nm r).toList = true := fun y hy => by
          have := List.any_eq_false.1 hany y hy
          simpa using this
        have hg : pre.filter (fun x => Op.bytesLess (nm r).toList (nm x).toList) = [] := List.filter_eq_nil_iff.2 (fun y hy => by
          intro e
          exact List.lt_irrefl _ (List.lt_trans ((less_iff _ _).1 (hall y hy)) ((less_iff _ _).1 e)))
        rw [hg]
        simp
theorem putFold_sorted {r : α} : ∀ (l pre : List α), (pre ++ l).Pairwise (fun a b => (nm a).toList < (nm b).toList) → l.foldl (putStep nm r) (putN nm r pre) = putN nm r (pre ++ l)
  | [], pre, _ => by simp
  | x :: l, pre, h => by
    rw [List.foldl_cons, putN_step nm (fun y hy => (List.pairwise_append.1 h).2.2 y hy x (by simp))]
    have := putFold_sorted (r := r) l (pre ++ [x]) (by simpa using h)
    rw [this]
    simp
theorem putG_sorted {l : List α} {r : α} (h : l.Pairwise (fun a b => (nm a).toList < (nm b).toList)) : putG nm l r = l.filter (fun x => Op.bytesLess (nm x).toList (nm r).toList) ++ [r] ++ l.filter (fun x => Op.bytesLess (nm r).toList (nm x).toList) := by
  have h1 : putFold nm l r = putN nm r l := by
    have := putFold_sorted nm (r := r) l [] (by simpa using h)
    simpa [putN, putFold] using this
  unfold putG
  rw [h1]
  cases hany : l.any fun x => !Op.bytesLess (nm x).toList (nm r).toList with
  | true =>
    have : (putN nm r l).2 = true := hany
    rw [if_pos this]
    unfold putN
    rw [hany]
    simp
  | false =>
    have : (putN nm r l).2 = false := hany
    rw [if_neg (by rw [this]; decide)]
    have hall : ∀ y ∈ l, Op.bytesLess (nm y).toList (nm r).toList = true := fun y hy => by
      have := List.any_eq_false.1 hany y hy
      simpa using this
    have hg : l.filter (fun x => Op.bytesLess (nm r).toList (nm x).toList) = [] := List.filter_eq_nil_iff.2 (fun y hy => by
      intro e
      exact List.lt_irrefl _ (List.lt_trans ((less_iff _ _).1 (hall y hy)) ((less_iff _ _).1 e)))
    unfold putN
    rw [hany, hg]
    simp
end
structure RSame (s : List Sto.Rec) (L : List RRec) : Prop where
  uniq : Sto.Uniq s
  mem : ∀ x : RRec, x ∈ L ↔ ∃ r, s[x.slot]? = some r ∧ r.is = true ∧ x.name = r.name ∧ x.num = r.num ∧ x.data = r.data
  sorted : L.Pairwise (fun a b => a.name.toList < b.name.toList)
theorem rfind_none {L : List RRec} {name : ByteArray} : ∀ {n : Nat}, rfind L name n = none → ∀ i x, i < n → L[i]? = some x → (x.name.toList == name.toList) = false
  | 0, _, i, x, hi, _ => by omega
  | n + 1, h, i, x, hi, hx => by
    rw [rfind] at h
    split at h
    · cases h
    · rename_i hn
      rcases Nat.lt_or_ge i n with h' | h'
      · exact rfind_none hn i x h' hx
      · obtain rfl : i = n := by omega
        rw [hx] at h
        simp only [] at h
        split at h
        · cases h
        · rename_i hne
          simpa using hne
section
variable {s : List Sto.Rec} {L : List RRec}
theorem RSame.find_some (h : RSame s L) {name : ByteArray} {j : Nat} (hf : rfind L name L.length = some j) : ∃ x r, L[j]? = some x ∧ s[x.slot]? = some r ∧ r.is = true ∧ x.name = r.name ∧ x.num = r.num ∧ x.data = r.data ∧ r.name = name ∧ Sto.best s name s.length = some x.slot := by
  obtain ⟨_, x, hx, he⟩ := rfind_lt hf
  obtain ⟨r, h1, h2, h3, h4, h5⟩ := (h.mem x).1 (List.mem_of_getElem? hx)
  have hn : r.name = name := by rw [← h3]; exact Sto.same_name.1 he
  exact ⟨x, r, hx, h1, h2, h3, h4, h5, hn, h.uniq.is ⟨h1, h2, hn⟩⟩
theorem RSame.find_none (h : RSame s L) {name : ByteArray} (hf : rfind L name L.length = none) : Sto.best s name s.length = none := by
  cases hb : Sto.best s name s.length with
  | none => rfl
  | some k =>
    obtain ⟨r, _, ha, _⟩ := (Sto.best_top s name s.length).1 k hb
    obtain ⟨i, hi⟩ := List.mem_iff_getElem?.1 ((h.mem ⟨r.name, r.num, r.data, k⟩).2 ⟨r, ha.1, ha.2.1, rfl, rfl, rfl⟩)
    have := rfind_none hf i _ (List.getElem?_eq_some_iff.1 hi).1 hi
    rw [show (RRec.mk r.name r.num r.data k).name = name from ha.2.2] at this
    simp at this
theorem RSame.num (h : RSame s L) (name : ByteArray) : rnum L name = match Sto.best s name s.length with
    | none => 1
    | some k => (s.getD k Sto.Rec.free).num + 1 := by
  unfold rnum
  cases hf : rfind L name L.length with
  | none => rw [h.find_none hf]
  | some j =>
    obtain ⟨x, r, hx, h1, h2, h3, h4, h5, h6, hb⟩ := h.find_some hf
    rw [hb]
    simp only [hx]
    rw [List.getD_eq_getElem?_getD, h1]
    show x.num + 1 = r.num + 1
    rw [h4]
theorem RSame.used (h : RSame s L) (i : Nat) : usedR L i = true ↔ ∃ r, s[i]? = some r ∧ r.is = true := by
  unfold usedR
  rw [List.any_eq_true]
  constructor
  · rintro ⟨x, hx, he⟩
    obtain ⟨r, h1, h2, _⟩ := (h.mem x).1 hx
    rw [of_decide_eq_true he] at h1
    exact ⟨r, h1, h2⟩
  · rintro ⟨r, h1, h2⟩
    exact ⟨⟨r.name, r.num, r.data, i⟩, (h.mem _).2 ⟨r, h1, h2, rfl, rfl, rfl⟩, by simp⟩
theorem rfreeGo_none {L : List RRec} {slots : Nat} : ∀ {n : Nat}, (∀ j, j < n → usedR L j = true) → rfreeGo L slots n = none
  | 0, _ => rfl
  | n + 1, h => by
    rw [rfreeGo, rfreeGo_none (fun j hj => h j (by omega))]
    simp only []
    rw [if_pos (h n (by omega))]
theorem rfreeGo_some {slots : Nat} : ∀ {n i : Nat}, i < n → usedR L i = false → (∀ j, j < i → usedR L j = true) → rfreeGo L slots n = some i
  | n + 1, i, hi, hu, hl => by
    rw [rfreeGo]
    rcases Nat.lt_or_ge i n with h' | h'
    · rw [rfreeGo_some h' hu hl]
    · obtain rfl : i = n := by omega
      rw [rfreeGo_none hl]
      simp only []
      rw [if_neg (by rw [hu]; decide)]
theorem RSame.free (h : RSame s L) : rfreeGo L s.length s.length = if Sto.slot s = s.length then none else some (Sto.slot s) := by
  have hle : ∀ j, j < Sto.slot s → usedR L j = true := fun j hj => by
    have hjl : j < s.length := Nat.lt_of_lt_of_le hj (slot_le s)
    have := List.not_of_lt_findIdx hj
    rw [h.used]
    exact ⟨s[j], List.getElem?_eq_getElem hjl, by simpa using this⟩
  split
  · rename_i e
    exact rfreeGo_none (fun j hj => hle j (by omega))
  · rename_i e
    have hlt := slot_lt e
    refine rfreeGo_some hlt ?_ hle
    rw [Bool.eq_false_iff]
    intro hu
    obtain ⟨r, h1, h2⟩ := h.used (Sto.slot s) |>.1 hu
    have h3 : (!(s[Sto.slot s]).is) = true := List.findIdx_getElem (w := hlt)
    rw [List.getElem?_eq_getElem hlt] at h1
    cases h1
    rw [h2] at h3
    cases h3
end
theorem rchunks_fuel (at_ : Nat) : ∀ (n : Nat) (D : DiskS) (k : Nat) (b : List UInt8), b.length ≤ n * 32 → rchunks at_ (n + 1) D k b = rchunks at_ n D k b
  | 0, D, k, b, h => by
    have : b = [] := List.eq_nil_of_length_eq_zero (by omega)
    subst this
    rfl
  | n + 1, D, k, b, h => by
    rw [rchunks]
    conv => rhs; rw [rchunks]
    split
    · rfl
    · split
      · rfl
      · exact rchunks_fuel at_ n _ _ _ (by rw [List.length_drop]; omega)
theorem chunks_same (at_ : Nat) : ∀ (n : Nat) (s : St) (k : Nat) (b : List UInt8), (St.chunks at_ n s k b).2.disk = (rchunks at_ n s.disk k b).2 ∧ (St.chunks at_ n s k b).2.recs = s.recs ∧ (St.chunks at_ n s k b).2.room = s.room ∧ ((St.chunks at_ n s k b).1 = 0 ↔ (rchunks at_ n s.disk k b).1 = true) ∧ ((rchunks at_ n s.disk k b).1 = true → (St.chunks at_ n s k b).2.dead = s.dead) ∧ ((rchunks at_ n s.disk k b).1 = false → (St.chunks at_ n s k b).2.dead = true)
  | 0, s, k, b => ⟨rfl, rfl, rfl, by simp [St.chunks, rchunks], fun _ => rfl, fun h => by cases h⟩
  | n + 1, s, k, b => by
    rw [St.chunks, rchunks]
    by_cases hb : b = []
    · rw [if_pos hb, if_pos hb]
      exact ⟨rfl, rfl, rfl, by simp, (fun _ => rfl), (fun h => by cases h)⟩
    · rw [if_neg hb, if_neg hb]
      have e : s.writeE (at_ + 1 + k) (b.take 32) = s.disk.wres ((at_ + 1 + k : Nat) : Int) (b.take 32).length := rfl
      rw [e]
      by_cases hw : s.disk.wres ((at_ + 1 + k : Nat) : Int) (b.take 32).length = 0
      · rw [if_neg (by simpa using hw), if_neg (by simpa using hw)]
        obtain ⟨h1, h2, h3, h4, h5, h6⟩ := chunks_same at_ n (s.writeS (at_ + 1 + k) (b.take 32)) (k + 1) (b.drop 32)
        have hd : (s.writeS (at_ + 1 + k) (b.take 32)).dead = s.dead := by
          show (s.dead || (s.writeE (at_ + 1 + k) (b.take 32) != 0)) = s.dead
          rw [e, hw]
          simp
        exact ⟨h1, h2, h3, h4, fun h => (h5 h).trans hd, h6⟩
      · rw [if_pos hw, if_pos hw]
        refine ⟨rfl, rfl, rfl, ⟨fun h => absurd h hw, (fun h => by cases h)⟩, (fun h => by cases h), fun _ => ?_⟩
        show (s.dead || (s.writeE (at_ + 1 + k) (b.take 32) != 0)) = true
        rw [e, show (s.disk.wres ((at_ + 1 + k : Nat) : Int) (b.take 32).length != 0) = true from by rw [bne_iff_ne]; exact hw, Bool.or_true]
theorem ne_less {a b : ByteArray} : (Op.bytesLess a.toList b.toList = true ∨ Op.bytesLess b.toList a.toList = true) ↔ a ≠ b := by
  rw [less_iff, less_iff]
  constructor
  · rintro (h | h) e
    · rw [e] at h; exact List.lt_irrefl _ h
    · rw [e] at h; exact List.lt_irrefl _ h
  · intro h
    by_cases h1 : a.toList < b.toList
    · exact .inl h1
    · by_cases h2 : b.toList < a.toList
      · exact .inr h2
      · exact absurd (Sto.ByteArray.toList_inj' (List.le_antisymm (List.not_lt.1 h2) (List.not_lt.1 h1))) h
theorem putG_in {L : List RRec} {x : RRec} (h : L.Pairwise (fun a b => a.name.toList < b.name.toList)) (y : RRec) : y ∈ putG RRec.name L x ↔ y = x ∨ (y ∈ L ∧ y.name ≠ x.name) := by
  rw [putG_sorted RRec.name h]
  simp only [List.mem_append, List.mem_singleton, List.mem_filter]
  constructor
  · rintro ((⟨h1, h2⟩ | h1) | ⟨h1, h2⟩)
    · exact .inr ⟨h1, ne_less.1 (.inl h2)⟩
    · exact .inl h1
    · exact .inr ⟨h1, ne_less.1 (.inr h2)⟩
  · rintro (h1 | ⟨h1, h2⟩)
    · exact .inl (.inr h1)
    · rcases ne_less.2 h2 with h3 | h3
      · exact .inl (.inl ⟨h1, h3⟩)
      · exact .inr ⟨h1, h3⟩
theorem putG_rises {L : List RRec} {x : RRec} (h : L.Pairwise (fun a b => a.name.toList < b.name.toList)) : (putG RRec.name L x).Pairwise (fun a b => a.name.toList < b.name.toList) := by
  rw [putG_sorted RRec.name h, List.pairwise_append, List.pairwise_append]
  refine ⟨⟨h.filter _, List.pairwise_singleton _ _, fun a ha b hb => ?_⟩, h.filter _, fun a ha b hb => ?_⟩
  · rw [List.mem_singleton.1 hb]
    exact (less_iff _ _).1 (List.mem_filter.1 ha).2
  · have h2 := (less_iff _ _).1 (List.mem_filter.1 hb).2
    rcases List.mem_append.1 ha with ha | ha
    · exact List.lt_trans ((less_iff _ _).1 (List.mem_filter.1 ha).2) h2
    · rw [List.mem_singleton.1 ha]; exact h2
section
variable {s : List Sto.Rec} {L : List RRec}
theorem RSame.put_new (h : RSame s L) {name : ByteArray} (hb : Sto.best s name s.length = none) (ht : Sto.slot s < s.length) (num : Nat) (data : List UInt8) : RSame (s.set (Sto.slot s) ⟨true, name, num, data⟩) (putG RRec.name L ⟨name, num, data, Sto.slot s⟩) := by
  have hfree : ∀ r, s[Sto.slot s]? = some r → r.is = false := fun r hr => by
    have h3 : (!(s[Sto.slot s]).is) = true := List.findIdx_getElem (w := ht)
    rw [List.getElem?_eq_getElem ht] at hr
    cases hr
    simpa using h3
  have hno : ∀ y ∈ L, y.name ≠ name := fun y hy e => by
    obtain ⟨r, h1, h2, h3, _⟩ := (h.mem y).1 hy
    exact (Sto.best_top s name s.length).2 hb y.slot r (List.getElem?_eq_some_iff.1 h1).1 ⟨h1, h2, by rw [← h3]; exact e⟩
  refine ⟨h.uniq.put ht hb num data, fun x => ?_, putG_rises h.sorted⟩
  rw [putG_in h.sorted]
  constructor
  · rintro (rfl | ⟨hx, _⟩)
    · exact ⟨⟨true, name, num, data⟩, List.getElem?_set_self ht, rfl, rfl, rfl, rfl⟩
    · obtain ⟨r, h1, h2, h3⟩ := (h.mem x).1 hx
      have hne : Sto.slot s ≠ x.slot := fun e => by
        rw [← e] at h1
        rw [hfree r h1] at h2
        cases h2
      exact ⟨r, by rw [List.getElem?_set_ne hne]; exact h1, h2, h3⟩
  · rintro ⟨r, h1, h2, h3, h4, h5⟩
    by_cases e : Sto.slot s = x.slot
    · left
      rw [← e, List.getElem?_set_self ht] at h1
      cases h1
      cases x
      simp only at h3 h4 h5 e
      rw [h3, h4, h5, e]
    · right
      rw [List.getElem?_set_ne e] at h1
      have hx := (h.mem x).2 ⟨r, h1, h2, h3, h4, h5⟩
      exact ⟨hx, hno x hx⟩
theorem RSame.put_old (h : RSame s L) {name : ByteArray} {k : Nat} (hb : Sto.best s name s.length = some k) (ht : Sto.slot s < s.length) (num : Nat) (data : List UInt8) : RSame ((s.set (Sto.slot s) ⟨true, name, num, data⟩).set k Sto.Rec.free) (putG RRec.name L ⟨name, num, data, Sto.slot s⟩) := by
  have hfree : ∀ r, s[Sto.slot s]? = some r → r.is = false := fun r hr => by
    have h3 : (!(s[Sto.slot s]).is) = true := List.findIdx_getElem (w := ht)
    rw [List.getElem?_eq_getElem ht] at hr
    cases hr
    simpa using h3
  obtain ⟨rk, hk, hak, _⟩ := (Sto.best_top s name s.length).1 k hb
  have hkt : k ≠ Sto.slot s := fun e => by
    have := hak.1
    rw [e] at this
    have h2 := hak.2.1
    rw [hfree rk this] at h2
    cases h2
  have hname : ∀ y ∈ L, y.slot ≠ k ↔ y.name ≠ name := fun y hy => by
    obtain ⟨r, h1, h2, h3, _⟩ := (h.mem y).1 hy
    constructor
    · intro hne e
      exact hne (h.uniq name y.slot k r rk ⟨h1, h2, by rw [← h3]; exact e⟩ hak)
    · intro hne e
      rw [e, hak.1] at h1
      cases h1
      exact hne (h3.trans hak.2.2)
  refine ⟨h.uniq.swap ht hb num data, fun x => ?_, putG_rises h.sorted⟩
  rw [putG_in h.sorted]
  constructor
  · rintro (rfl | ⟨hx, hne⟩)
    · exact ⟨⟨true, name, num, data⟩, by rw [List.getElem?_set_ne hkt]; exact List.getElem?_set_self ht, rfl, rfl, rfl, rfl⟩
    · obtain ⟨r, h1, h2, h3⟩ := (h.mem x).1 hx
      have hne1 : Sto.slot s ≠ x.slot := fun e => by
        rw [← e] at h1
        rw [hfree r h1] at h2
        cases h2
      have hne2 : k ≠ x.slot := fun e => (hname x hx).2 hne e.symm
      exact ⟨r, by rw [List.getElem?_set_ne hne2, List.getElem?_set_ne hne1]; exact h1, h2, h3⟩
  · rintro ⟨r, h1, h2, h3, h4, h5⟩
    have hne2 : k ≠ x.slot := fun e => by
      rw [← e, List.getElem?_set_self (by rw [List.length_set]; exact hk)] at h1
      cases h1
      cases h2
    rw [List.getElem?_set_ne hne2] at h1
    by_cases e : Sto.slot s = x.slot
    · left
      rw [← e, List.getElem?_set_self ht] at h1
      cases h1
      cases x
      simp only at h3 h4 h5 e
      rw [h3, h4, h5, e]
    · right
      rw [List.getElem?_set_ne e] at h1
      have hx := (h.mem x).2 ⟨r, h1, h2, h3, h4, h5⟩
      exact ⟨hx, (hname x hx).1 (fun e => hne2 e.symm)⟩
theorem RSame.drop (h : RSame s L) {name : ByteArray} {i k : Nat} (hf : rfind L name L.length = some i) (hb : Sto.best s name s.length = some k) : RSame (s.set k Sto.Rec.free) (L.take i ++ L.drop (i + 1)) := by
  obtain ⟨x0, r0, hx0, hr0, hi0, e1, e2, e3, e4, hb0⟩ := h.find_some hf
  have hk0 : x0.slot = k := by rw [hb0] at hb; injection hb
  have hil := (List.getElem?_eq_some_iff.1 hx0).1
  have hsplit : L = L.take i ++ x0 :: L.drop (i + 1) := by
    have h1 : L.drop i = x0 :: L.drop (i + 1) := by
      rw [List.drop_eq_getElem_cons hil]
      congr 1
      exact (List.getElem?_eq_some_iff.1 hx0).2
    rw [← h1, List.take_append_drop]
  have hs := h.sorted
  rw [hsplit, List.pairwise_append, List.pairwise_cons] at hs
  obtain ⟨s1, ⟨s2, s3⟩, s4⟩ := hs
  have hkl : k < s.length := by rw [← hk0]; exact (List.getElem?_eq_some_iff.1 hr0).1
  refine ⟨h.uniq.drop k, fun x => ?_, ?_⟩
  · constructor
    · intro hx
      have hxL : x ∈ L := by
        rw [hsplit]
        rcases List.mem_append.1 hx with hx | hx
        · exact List.mem_append.2 (.inl hx)
        · exact List.mem_append.2 (.inr (List.mem_cons_of_mem _ hx))
      obtain ⟨r, h1, h2, h3⟩ := (h.mem x).1 hxL
      have hne : k ≠ x.slot := fun e => by
        rw [← e, ← hk0, hr0] at h1
        cases h1
        have hn : x.name = x0.name := h3.1.trans e1.symm
        rcases List.mem_append.1 hx with hx | hx
        · have := s4 x hx x0 (by simp)
          rw [hn] at this
          exact List.lt_irrefl _ this
        · have := s2 x hx
          rw [hn] at this
          exact List.lt_irrefl _ this
      exact ⟨r, by rw [List.getElem?_set_ne hne]; exact h1, h2, h3⟩
    · rintro ⟨r, h1, h2, h3⟩
      have hne : k ≠ x.slot := fun e => by
        rw [← e, List.getElem?_set_self hkl] at h1
        cases h1
        cases h2
      rw [List.getElem?_set_ne hne] at h1
      have hx := (h.mem x).2 ⟨r, h1, h2, h3⟩
      rw [hsplit] at hx
      rcases List.mem_append.1 hx with hx | hx
      · exact List.mem_append.2 (.inl hx)
      · rcases List.mem_cons.1 hx with hx | hx
        · exact absurd (by rw [hx]; exact hk0.symm) hne
        · exact List.mem_append.2 (.inr hx)
  · rw [List.pairwise_append]
    exact ⟨s1, s3, fun a ha b hb => s4 a ha b (List.mem_cons_of_mem _ hb)⟩
end
theorem wres8 {D : DiskS} {i n : Nat} (hi : i < D.n) (hn : n ≤ 32) : D.wres (i : Int) n = 0 ∨ D.wres (i : Int) n = 8 := by
  unfold DiskS.wres
  rw [if_pos ⟨by simp [DiskS.may]; omega, hn⟩]
  split
  · exact .inr rfl
  · split
    · exact .inr rfl
    · exact .inl rfl
theorem sector_in {n room k : Nat} (h : k < n) : k * (room + 1) + room < n * (room + 1) := by
  have : (k + 1) * (room + 1) ≤ n * (room + 1) := Nat.mul_le_mul h (Nat.le_refl _)
  rw [Nat.add_mul, Nat.one_mul] at this
  omega
structure Both (R : Int × DiskS × List RRec × Bool) (P : Int × St) (room : Nat) : Prop where
  err : R.1 = P.1
  disk : R.2.1 = P.2.disk
  dead : R.2.2.2 = P.2.dead
  recs : P.2.dead = false → RSame P.2.recs R.2.2.1
  room : P.2.room = room
theorem drop_same {s : St} {L : List RRec} (h : RSame s.recs L) (hd : s.dead = false) (hn : s.disk.n = s.recs.length * (s.room + 1)) (name : ByteArray) : Both (rdropR s.room s.disk L false name) (dropR s name) s.room := by
  unfold rdropR dropR
  rw [if_neg (show ¬ (false = true) from by decide), if_neg (show ¬ (s.dead = true) from by rw [hd]; decide)]
  cases hf : rfind L name L.length with
  | none =>
    rw [h.find_none hf]
    exact ⟨rfl, rfl, hd.symm, fun _ => h, rfl⟩
  | some i =>
    obtain ⟨x, r, hx, h1, h2, _, _, _, _, hb⟩ := h.find_some hf
    rw [hb]
    simp only []
    have hs : rslot L i = x.slot := by unfold rslot; rw [hx]; rfl
    rw [hs]
    have hin : x.slot * (s.room + 1) < s.disk.n := by
      have := sector_in (room := s.room) (List.getElem?_eq_some_iff.1 h1).1
      rw [hn]; omega
    have hE : s.freeE x.slot = s.disk.wres ((x.slot * (s.room + 1) : Nat) : Int) 0 := wres_zero _ _
    by_cases hw : s.disk.wres ((x.slot * (s.room + 1) : Nat) : Int) 0 = 0
    · rw [if_neg (by simpa using hw)]
      have hdead : (s.freeS x.slot).dead = false := by
        show (s.dead || (s.freeE x.slot != 0)) = false
        rw [hd, hE, hw]; rfl
      refine ⟨by show (0 : Int) = s.freeE x.slot; rw [hE, hw], by show _ = s.disk.wr _ [0]; rw [wr_zero], hdead.symm, fun _ => ?_, rfl⟩
      show RSame (if s.freeE x.slot = 0 then s.recs.set x.slot Sto.Rec.free else s.recs) _
      rw [if_pos (by rw [hE, hw])]
      exact h.drop hf hb
    · rw [if_pos hw]
      have h8 : s.disk.wres ((x.slot * (s.room + 1) : Nat) : Int) 0 = 8 := (wres8 hin (by decide)).resolve_left hw
      have hdead : (s.freeS x.slot).dead = true := by
        show (s.dead || (s.freeE x.slot != 0)) = true
        rw [hd, hE, h8]; rfl
      exact ⟨by show (8 : Int) = s.freeE x.slot; rw [hE, h8], by show _ = s.disk.wr _ [0]; rw [wr_zero], hdead.symm, (fun e => by rw [hdead] at e; cases e), rfl⟩
theorem chunks_err (at_ : Nat) : ∀ (n : Nat) (s : St) (k : Nat) (b : List UInt8), b.length ≤ n * 32 → at_ + k + n < s.disk.n → (St.chunks at_ n s k b).1 = 0 ∨ (St.chunks at_ n s k b).1 = 8
  | 0, s, k, b, _, _ => .inl rfl
  | n + 1, s, k, b, hb, hi => by
    rw [St.chunks]
    split
    · exact .inl rfl
    · split
      · rename_i hw
        exact (wres8 (D := s.disk) (i := at_ + 1 + k) (n := (b.take 32).length) (by omega) (by rw [List.length_take]; omega)).elim (fun e => absurd e hw) .inr
      · exact chunks_err at_ n _ (k + 1) (b.drop 32) (by rw [List.length_drop]; omega) (by show _ < (s.disk.wr _ _).n; rw [DiskS.wr_n]; omega)
theorem put_same {s : St} {L : List RRec} (h : RSame s.recs L) (hd : s.dead = false) (hn : s.disk.n = s.recs.length * (s.room + 1)) (name : ByteArray) (data : List UInt8) : Both (rputR s.recs.length s.room s.disk L false name data) (putR s name data) s.room := by
  unfold rputR putR
  rw [if_neg (show ¬ (false = true) from by decide), if_neg (show ¬ (s.dead = true) from by rw [hd]; decide)]
  by_cases hfit : fitsB s.room name data = false
  · rw [if_pos hfit, if_pos hfit]
    exact ⟨rfl, rfl, hd.symm, fun _ => h, rfl⟩
  · rw [if_neg hfit, if_neg hfit, h.free]
    by_cases hfull : Sto.slot s.recs = s.recs.length
    · rw [if_pos hfull, if_pos hfull]
      exact ⟨rfl, rfl, hd.symm, fun _ => h, rfl⟩
    · rw [if_neg hfull, if_neg hfull]
      have hlt := slot_lt hfull
      have hnum : rnum L name = s.num name := h.num name
      simp only []
      rw [hnum]
      have htl : (Sto.text name (s.num name) data).length ≤ s.room * 32 := by
        have h1 : fitsB s.room name data = true := by simpa using hfit
        unfold fitsB at h1
        simp only [Bool.and_eq_true, decide_eq_true_eq] at h1
        have hl : (Sto.text name (s.num name) data).length = (Sto.text name 0 data).length := by
          simp only [Sto.text, Cod.nets, List.length_append, Cod.net_len, Cod.be_len, List.length_nil]
        rw [hl]
        exact h1.2.2
      have hsec := sector_in (room := s.room) hlt
      rw [rchunks_fuel _ _ _ _ _ htl]
      obtain ⟨c1, c2, c3, c4, c5, c6⟩ := chunks_same (Sto.slot s.recs * (s.room + 1)) s.room s 0 (Sto.text name (s.num name) data)
      have c7 := chunks_err (Sto.slot s.recs * (s.room + 1)) s.room s 0 (Sto.text name (s.num name) data) htl (by rw [hn]; omega)
      generalize hC : St.chunks (Sto.slot s.recs * (s.room + 1)) s.room s 0 (Sto.text name (s.num name) data) = C at c1 c2 c3 c4 c5 c6 c7 ⊢
      generalize hK : rchunks (Sto.slot s.recs * (s.room + 1)) s.room s.disk 0 (Sto.text name (s.num name) data) = K at c1 c4 c5 c6 ⊢
      obtain ⟨e, s1⟩ := C
      obtain ⟨ok, D1⟩ := K
      simp only at c1 c2 c3 c4 c5 c6 c7 ⊢
      subst c1
      have hKn := rchunks_n (Sto.slot s.recs * (s.room + 1)) s.room s.disk 0 (Sto.text name (s.num name) data)
      rw [hK] at hKn
      simp only at hKn
      cases ok with
      | false =>
        have he : e ≠ 0 := fun e0 => by have := c4.1 e0; cases this
        rw [if_pos rfl, if_pos he]
        exact ⟨(c7.resolve_left he).symm, rfl, (c6 rfl).symm, (fun e' => by rw [c6 rfl] at e'; cases e'), c3⟩
      | true =>
        have he : e = 0 := c4.2 rfl
        have hd1 : s1.dead = false := (c5 rfl).trans hd
        rw [if_neg (show ¬ (true = false) from by decide), if_neg (show ¬ (e ≠ 0) from fun h' => h' he)]
        have hE : s1.writeE (Sto.slot s.recs * (s.room + 1)) [1] = s1.disk.wres ((Sto.slot s.recs * (s.room + 1) : Nat) : Int) 1 := rfl
        rw [hE]
        by_cases hw : s1.disk.wres ((Sto.slot s.recs * (s.room + 1) : Nat) : Int) 1 = 0
        · rw [if_neg (by simpa using hw), if_neg (by simpa using hw)]
          have hd2 : (s1.writeS (Sto.slot s.recs * (s.room + 1)) [1]).dead = false := by
            show (s1.dead || (s1.writeE (Sto.slot s.recs * (s.room + 1)) [1] != 0)) = false
            rw [hd1, hE, hw]; rfl
          cases hf : rfind L name L.length with
          | none =>
            rw [h.find_none hf]
            refine ⟨rfl, rfl, hd2.symm, fun _ => ?_, c3⟩
            show RSame (s1.recs.set (Sto.slot s.recs) ⟨true, name, s.num name, data⟩) _
            rw [c2]
            exact h.put_new (h.find_none hf) hlt _ _
          | some i =>
            obtain ⟨x, r, hx, h1, h2, _, _, _, _, hb⟩ := h.find_some hf
            rw [hb]
            simp only [St.done]
            have hs : rslot L i = x.slot := by unfold rslot; rw [hx]; rfl
            rw [hs]
            have hin : x.slot * (s.room + 1) < s.disk.n := by
              have := sector_in (room := s.room) (List.getElem?_eq_some_iff.1 h1).1
              rw [hn]; omega
            obtain ⟨D2, hD2⟩ : ∃ D, D = s1.disk.wr ((Sto.slot s.recs * (s.room + 1) : Nat) : Int) [1] := ⟨_, rfl⟩
            have hD2n : D2.n = s.disk.n := by rw [hD2, DiskS.wr_n, hKn]
            obtain ⟨s3, hs3⟩ : ∃ z, z = (s1.writeS (Sto.slot s.recs * (s.room + 1)) [1]).laid (Sto.slot s.recs) ⟨true, name, s.num name, data⟩ := ⟨_, rfl⟩
            have g1 : s3.disk = D2 := by rw [hs3, hD2]; rfl
            have g2 : s3.dead = false := by rw [hs3]; exact hd2
            have g3 : s3.room = s.room := by rw [hs3]; exact c3
            have g4 : s3.recs = s.recs.set (Sto.slot s.recs) ⟨true, name, s.num name, data⟩ := by
              rw [hs3]
              show s1.recs.set _ _ = _
              rw [c2]
            rw [← hs3, ← hD2]
            have hE3 : s3.freeE x.slot = D2.wres ((x.slot * (s.room + 1) : Nat) : Int) 0 := by
              unfold St.freeE
              rw [g1, g3]
              exact wres_zero _ _
            by_cases hw3 : D2.wres ((x.slot * (s.room + 1) : Nat) : Int) 0 = 0
            · rw [if_neg (by simpa using hw3)]
              have hdead : (s3.freeS x.slot).dead = false := by
                show (s3.dead || (s3.freeE x.slot != 0)) = false
                rw [g2, hE3, hw3]; rfl
              refine ⟨by show (0 : Int) = s3.freeE x.slot; rw [hE3, hw3], by show _ = s3.disk.wr _ [0]; rw [wr_zero, g1, g3], hdead.symm, fun _ => ?_, g3⟩
              show RSame (if s3.freeE x.slot = 0 then s3.recs.set x.slot Sto.Rec.free else s3.recs) _
              rw [if_pos (by rw [hE3, hw3]), g4]
              exact h.put_old hb hlt _ _
            · rw [if_pos hw3]
              have h8 : D2.wres ((x.slot * (s.room + 1) : Nat) : Int) 0 = 8 := (wres8 (by rw [hD2n]; exact hin) (by decide)).resolve_left hw3
              have hdead : (s3.freeS x.slot).dead = true := by
                show (s3.dead || (s3.freeE x.slot != 0)) = true
                rw [g2, hE3, h8]; rfl
              exact ⟨by show (8 : Int) = s3.freeE x.slot; rw [hE3, h8], by show _ = s3.disk.wr _ [0]; rw [wr_zero, g1, g3], hdead.symm, (fun e' => by rw [hdead] at e'; cases e'), g3⟩
        · rw [if_pos hw, if_pos hw]
          have h8 : s1.disk.wres ((Sto.slot s.recs * (s.room + 1) : Nat) : Int) 1 = 8 := (wres8 (by rw [hKn, hn]; omega) (by decide)).resolve_left hw
          have hdead : (s1.writeS (Sto.slot s.recs * (s.room + 1)) [1]).dead = true := by
            show (s1.dead || (s1.writeE (Sto.slot s.recs * (s.room + 1)) [1] != 0)) = true
            rw [hd1, hE, h8]; rfl
          exact ⟨h8.symm, rfl, hdead.symm, (fun e' => by rw [hdead] at e'; cases e'), c3⟩
end Go.Mem
end
section
namespace Go.Mem
open Go Go.RowKit Gf Go.Proofs.YtehgnkdfnnebcaaGreatDoor
set_option linter.unusedVariables false
theorem slotB_eq (D : DiskS) (room i : Nat) : ∀ k, slotB D room i k = rowL (k * 32) fun j => D.f (i * (room + 1) * 32 + 32 + j)
  | 0 => by
    rw [Nat.zero_mul]
    rfl
  | k + 1 => by
    rw [slotB, slotB_eq D room i k]
    apply List.ext_getElem?
    intro j
    have e1 : ∀ (m : Nat) (f : Nat → UInt8), (rowL m f).length = m := fun m f => by simp [rowL]
    rcases Nat.lt_or_ge j (k * 32) with h | h
    · rw [List.getElem?_append_left (by rw [e1]; exact h), rowL_get _ _ _ h, rowL_get _ _ _ (by omega)]
    · rw [List.getElem?_append_right (by rw [e1]; exact h), e1]
      by_cases h2 : j < (k + 1) * 32
      · rw [DiskS.sector, rowL_get _ _ _ (by omega), rowL_get _ _ _ h2]
        congr 2
        rw [Nat.add_mul, Nat.add_mul]
        omega
      · rw [List.getElem?_eq_none (by rw [DiskS.sector, e1]; omega), List.getElem?_eq_none (by rw [e1]; omega)]
theorem readR_off {D : DiskS} {room k : Nat} (hd : D.dead = false) (hf : D.f (k * (room + 1) * 32) ≠ 1) : readR D room k = (Sto.Rec.free, 0, false) := by
  unfold readR
  rw [if_neg (by rw [hd]; decide), if_pos hf]
theorem readR_on {D : DiskS} {room k : Nat} (hd : D.dead = false) (hf : D.f (k * (room + 1) * 32) = 1) {r : Sto.Rec} (hp : Sto.parse (slotBR D room k) = some r) : readR D room k = (r, 0, false) := by
  unfold readR
  rw [if_neg (by rw [hd]; decide), if_neg (fun e => e hf), slotB_eq, show (rowL (room * 32) fun j => D.f (k * (room + 1) * 32 + 32 + j)) = slotBR D room k from rfl, hp]
theorem readR_bad {D : DiskS} {room k : Nat} (hd : D.dead = false) (hf : D.f (k * (room + 1) * 32) = 1) (hp : Sto.parse (slotBR D room k) = none) : readR D room k = (Sto.Rec.free, D.wres ((k * (room + 1) : Nat) : Int) 0, true) := by
  unfold readR
  rw [if_neg (by rw [hd]; decide), if_neg (fun e => e hf), slotB_eq, show (rowL (room * 32) fun j => D.f (k * (room + 1) * 32 + 32 + j)) = slotBR D room k from rfl, hp]
  simp only []
  rw [wres_zero]
theorem parse_is {b : List UInt8} {r : Sto.Rec} (h : Sto.parse b = some r) : r.is = true := by
  rw [parse_take] at h
  split at h
  · cases h
  · split at h
    · cases h
    · split at h
      · split at h
        · cases h
        · cases h; rfl
      · cases h
theorem wr_alive {s : DiskS} {i : Int} {bs : List UInt8} (h : s.wres i bs.length = 0) (hd : s.dead = false) : (s.wr i bs).dead = false := by
  unfold DiskS.wres at h
  unfold DiskS.wr DiskS.write
  split
  · split
    · rename_i h1 h2
      rw [if_pos h1.1, if_neg (by rw [hd]; decide), if_pos h2] at h
      cases h
    · exact hd
  · exact hd
def recsOf : List Sto.Rec → Nat → List RRec
  | [], _ => []
  | r :: l, i => if r.is = true then ⟨r.name, r.num, r.data, i⟩ :: recsOf l (i + 1) else recsOf l (i + 1)
theorem recsOf_app : ∀ (l l' : List Sto.Rec) (i : Nat), recsOf (l ++ l') i = recsOf l i ++ recsOf l' (i + l.length)
  | [], l', i => by simp [recsOf]
  | r :: l, l', i => by
    rw [List.cons_append, recsOf, recsOf, recsOf_app l l' (i + 1), List.length_cons, show i + 1 + l.length = i + (l.length + 1) from by omega]
    split
    · rfl
    · rfl
theorem loop1_same (D0 : DiskS) (room : Nat) (hd : D0.dead = false) {n : Nat} (hn : D0.n = n * (room + 1)) : ∀ k, k ≤ n →
    ((readAll room D0 k).2.1 = 0 ↔ (ro1 D0 room k).1 = true) ∧ ((readAll room D0 k).2.1 = 0 ∨ (readAll room D0 k).2.1 = 8) ∧ (readAll room D0 k).2.2 = (ro1 D0 room k).2.1 ∧ recsOf (readAll room D0 k).1 0 = (ro1 D0 room k).2.2 ∧ ((readAll room D0 k).2.1 = 0 → (readAll room D0 k).2.2.dead = false)
  | 0, _ => ⟨by simp [readAll, ro1], .inl rfl, rfl, rfl, fun _ => hd⟩
  | k + 1, hk => by
    obtain ⟨h1, h2, h3, h4, h5⟩ := loop1_same D0 room hd hn k (by omega)
    rw [readAll, ro1]
    by_cases h0 : (readAll room D0 k).2.1 = 0
    · have ho := h1.1 h0
      rw [if_neg (show ¬ ((ro1 D0 room k).1 = false) from by rw [ho]; decide)]
      simp only [h0, ne_eq, not_true_eq_false, if_false]
      have hlen := readAll_len room D0 k h0
      have hdk := h5 h0
      rw [← h3]
      by_cases hf : (readAll room D0 k).2.2.f (k * (room + 1) * 32) = 1
      · rw [if_neg (show ¬ ((readAll room D0 k).2.2.f (k * (room + 1) * 32) ≠ 1) from fun e => e hf)]
        cases hp : Sto.parse (slotBR (readAll room D0 k).2.2 room k) with
        | some r =>
          rw [readR_on hdk hf hp]
          simp only [not_true_eq_false, if_false, Bool.false_eq_true]
          refine ⟨by simp, by simp, by simp, ?_, fun _ => hdk⟩
          rw [recsOf_app, h4, hlen]
          simp [recsOf, parse_is hp]
        | none =>
          rw [readR_bad hdk hf hp]
          have hin : k * (room + 1) < (readAll room D0 k).2.2.n := by
            have := sector_in (room := room) (show k < n by omega)
            rw [h3, ro1_n, hn]; omega
          have e8 := wres8 (D := (readAll room D0 k).2.2) (n := 0) hin (by decide)
          simp only [if_true]
          rw [wr_zero]
          by_cases hw : (readAll room D0 k).2.2.wres ((k * (room + 1) : Nat) : Int) 0 = 0
          · rw [if_neg (show ¬ (¬ ((readAll room D0 k).2.2.wres ((k * (room + 1) : Nat) : Int) 0 = 0)) from fun e => e hw)]
            refine ⟨by rw [hw]; simp, .inl rfl, rfl, ?_, fun _ => wr_alive (bs := []) hw hdk⟩
            rw [recsOf_app, h4]
            simp [recsOf, Sto.Rec.free]
          · rw [if_pos hw]
            have h8 := e8.resolve_left hw
            exact ⟨by rw [h8]; simp, .inr h8, rfl, h4, fun e => absurd e hw⟩
      · rw [if_pos hf, readR_off hdk hf]
        simp only [not_true_eq_false, if_false, Bool.false_eq_true]
        refine ⟨by simp [ho], by simp, by first | exact h3 | simp [h3], ?_, fun _ => hdk⟩
        rw [recsOf_app, h4]
        simp [recsOf, Sto.Rec.free]
    · have ho : (ro1 D0 room k).1 = false := by
        rw [Bool.eq_false_iff]
        exact fun e => h0 (h1.2 e)
      rw [if_pos ho]
      simp only []
      rw [if_pos h0]
      exact ⟨⟨fun e => absurd e h0, fun e => by rw [ho] at e; cases e⟩, h2, h3, h4, fun e => absurd e h0⟩
theorem recsOf_mem : ∀ (l : List Sto.Rec) (i : Nat) (y : RRec), y ∈ recsOf l i ↔ i ≤ y.slot ∧ ∃ r, l[y.slot - i]? = some r ∧ r.is = true ∧ y.name = r.name ∧ y.num = r.num ∧ y.data = r.data
  | [], i, y => by simp [recsOf]
  | r :: l, i, y => by
    rw [recsOf]
    have key : y ∈ recsOf l (i + 1) ↔ i + 1 ≤ y.slot ∧ ∃ r', (r :: l)[y.slot - i]? = some r' ∧ r'.is = true ∧ y.name = r'.name ∧ y.num = r'.num ∧ y.data = r'.data := by
      rw [recsOf_mem l (i + 1) y]
      constructor
      · rintro ⟨h, h2⟩
        refine ⟨h, ?_⟩
        rw [show y.slot - i = (y.slot - (i + 1)) + 1 from by omega, List.getElem?_cons_succ]
        exact h2
      · rintro ⟨h, h2⟩
        refine ⟨h, ?_⟩
        rw [show y.slot - i = (y.slot - (i + 1)) + 1 from by omega, List.getElem?_cons_succ] at h2
        exact h2
    by_cases hr : r.is = true
    · rw [if_pos hr, List.mem_cons, key]
      constructor
      · rintro (rfl | ⟨h, h2⟩)
        · exact ⟨Nat.le_refl _, r, by simp, hr, rfl, rfl, rfl⟩
        · exact ⟨by omega, h2⟩
      · rintro ⟨h, r', h2⟩
        rcases Nat.eq_or_lt_of_le h with e | e
        · left
          rw [show y.slot - i = 0 from by omega] at h2
          obtain ⟨h3, h4, h5, h6, h7⟩ := h2
          simp at h3
          subst h3
          cases y
          simp only at h5 h6 h7 e
          rw [h5, h6, h7, e]
        · exact .inr ⟨e, r', h2⟩
    · rw [if_neg hr, key]
      constructor
      · rintro ⟨h, h2⟩
        exact ⟨by omega, h2⟩
      · rintro ⟨h, r', h2⟩
        rcases Nat.eq_or_lt_of_le h with e | e
        · exfalso
          rw [show y.slot - i = 0 from by omega] at h2
          obtain ⟨h3, h4, _⟩ := h2
          simp at h3
          rw [← h3] at h4
          exact hr h4
        · exact ⟨e, r', h2⟩
theorem recsOf_rises : ∀ (l : List Sto.Rec) (i : Nat), (recsOf l i).Pairwise (fun a b => a.slot < b.slot)
  | [], i => by simp [recsOf]
  | r :: l, i => by
    rw [recsOf]
    split
    · refine List.pairwise_cons.2 ⟨fun y hy => ?_, recsOf_rises l (i + 1)⟩
      exact ((recsOf_mem l (i + 1) y).1 hy).1
    · exact recsOf_rises l (i + 1)
theorem rises_at {all : List RRec} (h : all.Pairwise (fun a b => a.slot < b.slot)) {i j : Nat} {x y : RRec} (hx : all[i]? = some x) (hy : all[j]? = some y) (hij : i < j) : x.slot < y.slot := by
  obtain ⟨h1, h2⟩ := List.getElem?_eq_some_iff.1 hx
  obtain ⟨h3, h4⟩ := List.getElem?_eq_some_iff.1 hy
  rw [← h2, ← h4]
  exact List.pairwise_iff_getElem.1 h i j h1 h3 hij
theorem rises_lt {all : List RRec} (h : all.Pairwise (fun a b => a.slot < b.slot)) {i j : Nat} {x y : RRec} (hx : all[i]? = some x) (hy : all[j]? = some y) : x.slot < y.slot ↔ i < j := by
  constructor
  · intro hs
    rcases Nat.lt_trichotomy i j with h' | h' | h'
    · exact h'
    · subst h'
      rw [hx] at hy; cases hy; omega
    · have := rises_at h hy hx h'; omega
  · exact rises_at h hx hy
theorem bestTo_iff (all : List RRec) (x : RRec) (i : Nat) : ∀ n, bestTo all x i n = true ↔ ∀ k, k < n → worseR all x i k = false
  | 0 => ⟨fun _ k hk => by omega, fun _ => rfl⟩
  | n + 1 => by
    rw [bestTo, Bool.and_eq_true, bestTo_iff all x i n]
    constructor
    · rintro ⟨h1, h2⟩ k hk
      rcases Nat.lt_or_ge k n with h | h
      · exact h1 k h
      · obtain rfl : k = n := by omega
        simpa using h2
    · intro h
      exact ⟨fun k hk => h k (by omega), by rw [h n (by omega)]; rfl⟩
theorem bestTo_best {l : List Sto.Rec} {k m : Nat} {r : Sto.Rec} (hr : l[k]? = some r) (hi : r.is = true) (hm : (recsOf l 0)[m]? = some ⟨r.name, r.num, r.data, k⟩) :
    bestTo (recsOf l 0) ⟨r.name, r.num, r.data, k⟩ m (recsOf l 0).length = true ↔ Sto.best l r.name l.length = some k := by
  have hris := recsOf_rises l 0
  rw [bestTo_iff]
  constructor
  · intro h
    refine Sto.best_is ⟨r, (List.getElem?_eq_some_iff.1 hr).1, ⟨hr, hi, rfl⟩, fun j r' hj ha => ?_⟩
    have hy : (⟨r'.name, r'.num, r'.data, j⟩ : RRec) ∈ recsOf l 0 := (recsOf_mem l 0 _).2 ⟨Nat.zero_le _, r', by simpa using ha.1, ha.2.1, rfl, rfl, rfl⟩
    obtain ⟨p, hp⟩ := List.getElem?_of_mem hy
    have hw := h p (List.getElem?_eq_some_iff.1 hp).1
    unfold worseR at hw
    rw [hp] at hw
    simp only [ha.2.2, beq_self_eq_true, Bool.true_and, Bool.or_eq_false_iff, decide_eq_false_iff_not, Bool.and_eq_false_iff] at hw
    obtain ⟨w1, w2⟩ := hw
    refine ⟨fun hjk => ?_, by omega⟩
    have := (rises_lt hris hp hm).1 hjk
    rcases w2 with w2 | w2
    · omega
    · exact absurd this w2
  · intro h p hp
    obtain ⟨r0, h1, h2, h3⟩ := (Sto.best_top l r.name l.length).1 k h
    have e0 : r0 = r := by have := h2.1; rw [hr] at this; cases this; rfl
    subst e0
    unfold worseR
    obtain ⟨y, hy⟩ : ∃ y, (recsOf l 0)[p]? = some y := ⟨_, List.getElem?_eq_getElem hp⟩
    rw [hy]
    simp only []
    by_cases hn : y.name = r0.name
    · obtain ⟨_, r', g1, g2, g3, g4, g5⟩ := (recsOf_mem l 0 y).1 (List.mem_of_getElem? hy)
      rw [Nat.sub_zero] at g1
      have := h3 y.slot r' (List.getElem?_eq_some_iff.1 g1).1 ⟨g1, g2, by rw [← g3]; exact hn⟩
      have hlt := rises_lt hris hy hm
      simp only at hlt
      by_cases hpm : p < m
      · have := this.1 (hlt.2 hpm)
        simp [g4]
        intro _
        exact ⟨by omega, fun e => by omega⟩
      · simp [g4, hpm]
        intro _
        exact this.2
    · have : (y.name.toList == r0.name.toList) = false := by
        rw [Bool.eq_false_iff]
        exact fun e => hn (Sto.same_name.1 e)
      rw [this]; rfl
theorem keepBest_on {s : St} {k : Nat} {r : Sto.Rec} (h : (keepBest s k).1 = 0) (hr : (keepBest s k).2.recs[k]? = some r) : keepBest s (k + 1) = if r.is = true ∧ Sto.best (keepBest s k).2.recs r.name (keepBest s k).2.recs.length ≠ some k then ((keepBest s k).2.freeE k, (keepBest s k).2.freeS k) else keepBest s k := by
  rw [keepBest]
  rw [if_neg (fun e => e h), hr]
theorem ro2_on {room : Nat} {all : List RRec} {D1 : DiskS} {i : Nat} {x : RRec} (h : (ro2 room all D1 i).1 = true) (hx : all[i]? = some x) : ro2 room all D1 (i + 1) = if bestTo all x i all.length = true then (true, (ro2 room all D1 i).2.1, putG RRec.name (ro2 room all D1 i).2.2 x)
      else (decide ((ro2 room all D1 i).2.1.wres ((x.slot * (room + 1) : Nat) : Int) 0 = 0), (ro2 room all D1 i).2.1.wr ((x.slot * (room + 1) : Nat) : Int) [], (ro2 room all D1 i).2.2) := by
  rw [ro2, if_neg (by rw [h]; decide), hx]
structure KR (l : List Sto.Rec) (k : Nat) (K : Int × St) (R : Bool × DiskS × List RRec) : Prop where
  dd : K.2.disk.dead = false
  dead : K.2.dead = false
  thin : Sto.Thin l K.2.recs
  rest : ∀ i, k ≤ i → K.2.recs[i]? = l[i]?
  done : ∀ i r, i < k → K.2.recs[i]? = some r → r.is = true → Sto.best l r.name l.length = some i
  mem : ∀ x : RRec, x ∈ R.2.2 ↔ x.slot < k ∧ ∃ r, l[x.slot]? = some r ∧ r.is = true ∧ x.name = r.name ∧ x.num = r.num ∧ x.data = r.data ∧ Sto.best l r.name l.length = some x.slot
  sorted : R.2.2.Pairwise (fun a b => a.name.toList < b.name.toList)
def cntTo (l : List Sto.Rec) (k : Nat) : Nat := (recsOf (l.take k) 0).length
theorem cntTo_off {l : List Sto.Rec} {k : Nat} {r : Sto.Rec} (hr : l[k]? = some r) (hi : r.is = false) : cntTo l (k + 1) = cntTo l k := by
  unfold cntTo
  rw [List.take_add_one, hr, recsOf_app]
  simp [recsOf, hi]
theorem cntTo_on {l : List Sto.Rec} {k : Nat} {r : Sto.Rec} (hr : l[k]? = some r) (hi : r.is = true) : cntTo l (k + 1) = cntTo l k + 1 ∧ (recsOf l 0)[cntTo l k]? = some ⟨r.name, r.num, r.data, k⟩ := by
  have hk := (List.getElem?_eq_some_iff.1 hr).1
  have ht : (l.take k).length = k := by rw [List.length_take]; omega
  unfold cntTo
  constructor
  · rw [List.take_add_one, hr, recsOf_app]
    simp [recsOf, hi]
  · have hs : l = l.take k ++ r :: l.drop (k + 1) := by
      have h1 : l.drop k = r :: l.drop (k + 1) := by
        rw [List.drop_eq_getElem_cons hk]
        congr 1
        exact (List.getElem?_eq_some_iff.1 hr).2
      rw [← h1, List.take_append_drop]
    have e1 : recsOf l 0 = recsOf (l.take k) 0 ++ ⟨r.name, r.num, r.data, k⟩ :: recsOf (l.drop (k + 1)) (k + 1) := by
      conv => lhs; rw [hs]
      rw [recsOf_app, ht, Nat.zero_add, recsOf, if_pos hi]
    rw [e1, List.getElem?_append_right (Nat.le_refl _), Nat.sub_self]
    rfl
theorem loop2_same (room : Nat) (l : List Sto.Rec) (D1 : DiskS) (hd : D1.dead = false) (hn : D1.n = l.length * (room + 1)) : ∀ k, k ≤ l.length →
    ((keepBest ⟨room, l, false, D1⟩ k).1 = 0 ↔ (ro2 room (recsOf l 0) D1 (cntTo l k)).1 = true) ∧ ((keepBest ⟨room, l, false, D1⟩ k).1 = 0 ∨ (keepBest ⟨room, l, false, D1⟩ k).1 = 8) ∧ (keepBest ⟨room, l, false, D1⟩ k).2.disk = (ro2 room (recsOf l 0) D1 (cntTo l k)).2.1 ∧ ((keepBest ⟨room, l, false, D1⟩ k).1 = 0 → KR l k (keepBest ⟨room, l, false, D1⟩ k) (ro2 room (recsOf l 0) D1 (cntTo l k)))
  | 0, _ => ⟨⟨fun _ => rfl, fun _ => rfl⟩, .inl rfl, rfl, fun _ => ⟨hd, rfl, Sto.Thin.refl _, fun _ _ => rfl, fun i r h => absurd h (Nat.not_lt_zero _), fun x => ⟨fun h => (by simp [cntTo, recsOf, ro2] at h), fun h => absurd h.1 (Nat.not_lt_zero _)⟩, by simp [cntTo, recsOf, ro2]⟩⟩
  | k + 1, hk => by
    obtain ⟨h1, h2, h3, h4⟩ := loop2_same room l D1 hd hn k (by omega)
    have hroom := (keepBest_len ⟨room, l, false, D1⟩ k).2
    simp only at hroom
    obtain ⟨r, hr⟩ : ∃ r, l[k]? = some r := ⟨_, List.getElem?_eq_getElem (by omega)⟩
    have hkl : k < l.length := by omega
    by_cases h0 : (keepBest ⟨room, l, false, D1⟩ k).1 = 0
    · have hK := h4 h0
      have ho := h1.1 h0
      have hrk : (keepBest ⟨room, l, false, D1⟩ k).2.recs[k]? = some r := (hK.rest k (Nat.le_refl _)).trans hr
      have hstep := keepBest_on h0 hrk
      rw [hK.thin.best] at hstep
      cases hi : r.is with
      | false =>
        rw [if_neg (fun e => by rw [hi] at e; exact absurd e.1 (by decide))] at hstep
        rw [hstep, cntTo_off hr hi]
        refine ⟨h1, h2, h3, fun _ => ⟨hK.dd, hK.dead, hK.thin, fun i h => hK.rest i (by omega), fun i r' h h' h'' => ?_, fun x => ?_, hK.sorted⟩⟩
        · rcases Nat.lt_or_ge i k with hlt | hge
          · exact hK.done i r' hlt h' h''
          · obtain rfl : i = k := by omega
            rw [hrk] at h'
            cases h'
            rw [hi] at h''
            cases h''
        · rw [hK.mem x]
          constructor
          · rintro ⟨a, b⟩
            exact ⟨by omega, b⟩
          · rintro ⟨a, r', b, c, d⟩
            refine ⟨?_, r', b, c, d⟩
            rcases Nat.lt_or_ge x.slot k with hlt | hge
            · exact hlt
            · have e : x.slot = k := by omega
              rw [e, hr] at b
              cases b
              rw [hi] at c
              cases c
      | true =>
        obtain ⟨c1, c2⟩ := cntTo_on hr hi
        have hR := ro2_on (room := room) (D1 := D1) ho c2
        rw [c1]
        have hbb := bestTo_best hr hi c2
        by_cases hb : Sto.best l r.name l.length = some k
        · rw [if_neg (fun e => e.2 hb)] at hstep
          rw [if_pos (hbb.2 hb)] at hR
          rw [hstep, hR]
          refine ⟨⟨fun _ => rfl, fun _ => h0⟩, h2, h3, fun _ => ⟨hK.dd, hK.dead, hK.thin, fun i h => hK.rest i (by omega), fun i r' h h' h'' => ?_, fun x => ?_, putG_rises hK.sorted⟩⟩
          · rcases Nat.lt_or_ge i k with hlt | hge
            · exact hK.done i r' hlt h' h''
            · obtain rfl : i = k := by omega
              rw [hrk] at h'
              cases h'
              exact hb
          · show x ∈ putG RRec.name _ _ ↔ _
            rw [putG_in hK.sorted, hK.mem x]
            constructor
            · rintro (rfl | ⟨⟨a, b⟩, _⟩)
              · exact ⟨Nat.lt_succ_self _, r, hr, hi, rfl, rfl, rfl, hb⟩
              · exact ⟨by omega, b⟩
            · rintro ⟨a, r', b, c, d, e, f, g⟩
              rcases Nat.lt_or_ge x.slot k with hlt | hge
              · right
                refine ⟨⟨hlt, r', b, c, d, e, f, g⟩, fun hnm => ?_⟩
                simp only at hnm
                rw [← d, hnm, hb] at g
                injection g with g
                omega
              · left
                have ek : x.slot = k := by omega
                rw [ek, hr] at b
                cases b
                cases x
                simp only at d e f ek
                rw [d, e, f, ek]
        · rw [if_pos ⟨hi, hb⟩] at hstep
          rw [if_neg (fun e => hb (hbb.1 e))] at hR
          rw [hstep, hR]
          obtain ⟨K, hKe⟩ : ∃ K, K = (keepBest ⟨room, l, false, D1⟩ k) := ⟨_, rfl⟩
          obtain ⟨R, hRe⟩ : ∃ R, R = (ro2 room (recsOf l 0) D1 (cntTo l k)) := ⟨_, rfl⟩
          have hRn : R.2.1.n = D1.n := by rw [hRe]; exact (ro2_len room (recsOf l 0) D1 (cntTo l k)).2.2.1
          rw [← hKe] at h0 hK hrk h3 hroom ⊢
          rw [← hRe] at ho h3 hK ⊢
          have hE : K.2.freeE k = R.2.1.wres ((k * (room + 1) : Nat) : Int) 0 := by
            unfold St.freeE
            rw [h3, hroom]
            exact wres_zero _ _
          have hD : (K.2.freeS k).disk = R.2.1.wr ((k * (room + 1) : Nat) : Int) [] := by
            show K.2.disk.wr _ [0] = _
            rw [wr_zero, h3, hroom]
          have hin : k * (room + 1) < R.2.1.n := by
            have := sector_in (room := room) hkl
            rw [hRn, hn]; omega
          have e8 := wres8 (D := R.2.1) (n := 0) hin (by decide)
          simp only []
          refine ⟨by rw [hE, decide_eq_true_iff], by rw [hE]; exact e8, hD, fun hz => ?_⟩
          have hw : R.2.1.wres ((k * (room + 1) : Nat) : Int) 0 = 0 := by rw [← hE]; exact hz
          have hrecs : (K.2.freeS k).recs = K.2.recs.set k Sto.Rec.free := by
            show (if K.2.freeE k = 0 then _ else _) = _
            rw [if_pos hz]
          have hth : Sto.Thin l (K.2.recs.set k Sto.Rec.free) := hK.thin.trans (Sto.Thin.step hrk hi (by rw [hK.thin.best]; exact hb))
          have hkk : k < K.2.recs.length := (List.getElem?_eq_some_iff.1 hrk).1
          refine ⟨by rw [hD]; exact wr_alive (bs := []) hw (by rw [← h3]; exact hK.dd), ?_, by rw [hrecs]; exact hth, fun i h => ?_, fun i r' h h' h'' => ?_, fun x => ?_, hK.sorted⟩
          · show (K.2.dead || (K.2.freeE k != 0)) = false
            rw [hK.dead, hz]; rfl
          · show (K.2.freeS k).recs[i]? = _
            rw [hrecs, List.getElem?_set_ne (by omega)]
            exact hK.rest i (by omega)
          · have h' : (K.2.freeS k).recs[i]? = some r' := h'
            rw [hrecs] at h'
            by_cases e : k = i
            · subst e
              rw [List.getElem?_set_self hkk] at h'
              cases h'
              cases h''
            · rw [List.getElem?_set_ne e] at h'
              exact hK.done i r' (by omega) h' h''
          · show x ∈ R.2.2 ↔ _
            rw [hK.mem x]
            constructor
            · rintro ⟨a, b⟩
              exact ⟨by omega, b⟩
            · rintro ⟨a, r', b, c, d, e, f, g⟩
              refine ⟨?_, r', b, c, d, e, f, g⟩
              rcases Nat.lt_or_ge x.slot k with hlt | hge
              · exact hlt
              · have ek : x.slot = k := by omega
                rw [ek] at g b
                rw [hr] at b
                cases b
                exact absurd g hb
    · have ho : (ro2 room (recsOf l 0) D1 (cntTo l k)).1 = false := by
        rw [Bool.eq_false_iff]
        exact fun e => h0 (h1.2 e)
      have hle : cntTo l k ≤ cntTo l (k + 1) := by
        cases hi : r.is with
        | false => rw [cntTo_off hr hi]; exact Nat.le_refl _
        | true => rw [(cntTo_on hr hi).1]; exact Nat.le_succ _
      rw [ro2_stay room _ D1 hle ho, keepBest_err _ h0 1]
      exact ⟨h1, h2, h3, fun e => absurd e h0⟩
theorem open_same (D : DiskS) (slots room : Nat) (hn : D.n = slots * (room + 1)) (hs : 1 ≤ slots) :
    (ropenR D slots room).1 = (openR D slots room).1 ∧ (ropenR D slots room).2.1 = (openR D slots room).2.1 ∧
    (((openR D slots room).1 = 0 ∧ ∃ s : St, (openR D slots room).2.2 = some s ∧ RSame s.recs (ropenR D slots room).2.2 ∧ s.dead = false ∧ s.room = room ∧ s.recs.length = slots ∧ s.disk = (openR D slots room).2.1 ∧ s.disk.dead = false) ∨ ((openR D slots room).1 = 8 ∧ (openR D slots room).2.2 = none)) := by
  by_cases hd : D.dead = true
  · rw [open_dead hd hs]
    unfold ropenR
    rw [if_pos hd]
    exact ⟨rfl, rfl, .inr ⟨rfl, rfl⟩⟩
  · have hd : D.dead = false := by simpa using hd
    obtain ⟨h1, h2, h3, h4, h5⟩ := loop1_same D room hd hn slots (Nat.le_refl _)
    unfold ropenR openR
    rw [if_neg (by rw [hd]; decide)]
    by_cases h0 : (readAll room D slots).2.1 = 0
    · have hl := readAll_len room D slots h0
      have hd1 := h5 h0
      rw [if_neg (show ¬ ((ro1 D room slots).1 = false) from by rw [h1.1 h0]; decide)]
      simp only []
      rw [if_neg (show ¬ ((readAll room D slots).2.1 ≠ 0) from fun e => e h0), ← h4, ← h3]
      have hn1 : (readAll room D slots).2.2.n = (readAll room D slots).1.length * (room + 1) := by rw [readAll_n, hl]; exact hn
      have hc : cntTo (readAll room D slots).1 slots = (recsOf (readAll room D slots).1 0).length := by
        unfold cntTo
        rw [List.take_of_length_le (by omega)]
      obtain ⟨g1, g2, g3, g4⟩ := loop2_same room (readAll room D slots).1 (readAll room D slots).2.2 hd1 hn1 slots (by omega)
      rw [hc] at g1 g3 g4
      have hlen := keepBest_len ⟨room, (readAll room D slots).1, false, (readAll room D slots).2.2⟩ slots
      simp only at hlen
      by_cases hk : (keepBest ⟨room, (readAll room D slots).1, false, (readAll room D slots).2.2⟩ slots).1 = 0
      · have hK := g4 hk
        rw [if_neg (show ¬ (_ = false) from by rw [g1.1 hk]; decide), if_neg (fun e => e hk)]
        refine ⟨rfl, g3.symm, .inl ⟨rfl, _, rfl, ⟨Sto.uniq_of_best fun i r hi his => ?_, fun x => ?_, hK.sorted⟩, hK.dead, hlen.2, hlen.1.trans hl, rfl, hK.dd⟩⟩
        · rw [hK.thin.best]
          exact hK.done i r (by have := (List.getElem?_eq_some_iff.1 hi).1; rw [hlen.1, hl] at this; exact this) hi his
        · show x ∈ (ro2 _ _ _ _).2.2 ↔ _
          rw [hK.mem x]
          constructor
          · rintro ⟨a, r, b, c, d, e, f, g⟩
            exact ⟨r, (hK.thin.get g).trans b, c, d, e, f⟩
          · rintro ⟨r, b, c, d, e, f⟩
            have hlt := (List.getElem?_eq_some_iff.1 b).1
            rw [hlen.1, hl] at hlt
            exact ⟨hlt, r, (hK.thin.back ⟨b, c, rfl⟩).1, c, d, e, f, hK.done _ _ hlt b c⟩
      · have ho : (ro2 room (recsOf (readAll room D slots).1 0) (readAll room D slots).2.2 (recsOf (readAll room D slots).1 0).length).1 = false := by
          rw [Bool.eq_false_iff]
          exact fun e => hk (g1.2 e)
        rw [if_pos ho, if_pos hk]
        exact ⟨(g2.resolve_left hk).symm, g3.symm, .inr ⟨g2.resolve_left hk, rfl⟩⟩
    · have ho : (ro1 D room slots).1 = false := by
        rw [Bool.eq_false_iff]
        exact fun e => h0 (h1.2 e)
      rw [if_pos ho]
      simp only []
      rw [if_pos h0]
      exact ⟨(h2.resolve_left h0).symm, h3.symm, .inr ⟨h2.resolve_left h0, rfl⟩⟩
end Go.Mem
end
