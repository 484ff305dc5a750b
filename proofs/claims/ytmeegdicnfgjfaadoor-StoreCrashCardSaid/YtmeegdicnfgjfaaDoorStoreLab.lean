/- A store of a law's own, behind its calls: where it lies, what it is; and what Put, Open do to it, in one word each. -/
import Derived.Test.YtmeegdicnfgjfaaDoorStoreOpenW
import Derived.Test.YtmeegdicnfgjfaaDoorStoreLaw2
import Derived.Test.YtmeegdicnfgjfaaDoorStrs
namespace Go.Mem
open Go Go.RowKit Gf Go.Proofs.YtmeegdicnfgjfaaDoor
theorem St.get_look {s : St} (h : s.dead = false) (name : ByteArray) : s.get name = Sto.look s.recs name := by
  unfold St.get Sto.look
  rw [if_neg (by simp [h])]
/-- a store that lives, on a disk that does not stop -/
structure SGood (m : Nat) (s : St) : Prop where
  holds : Holds s.disk s.room s.recs
  uniq : Sto.Uniq s.recs
  disk : s.disk.dead = false
  dead : s.dead = false
  bnd : Bnd m s.recs
  writes : s.disk.writes ≤ 2000 * m
  stops : s.disk.stops = false
  room : 1 ≤ s.room ∧ s.room ≤ 1000
theorem SGood.fresh (slots room : Nat) (h : 1 ≤ room ∧ room ≤ 1000) : SGood 0 ⟨room, List.replicate slots Sto.Rec.free, false, .fresh (slots * (room + 1))⟩ :=
  ⟨Holds.fresh slots room, uniq_free slots, rfl, rfl, bnd_free slots, Nat.le_refl _, rfl, h⟩
theorem SGood.put {m : Nat} {s : St} (h : SGood m s) (hm : m < 1000000) {name : ByteArray} {data : List UInt8} (hf : fitsB s.room name data = true) (ht : Sto.slot s.recs < s.recs.length) :
    (putR s name data).1 = 0 ∧ SGood (m + 1) (putR s name data).2 ∧ (putR s name data).2.recs = putF s.recs name data ∧ (putR s name data).2.room = s.room := by
  have hr := h.room
  rcases put_law h.holds h.disk h.dead h.bnd (by omega) name data with ⟨h1, _⟩ | ⟨_, h1, _⟩ | ⟨_, _, h1, h2, h3⟩
  · rw [hf] at h1; cases h1
  · omega
  · rcases h3 with ⟨a1, a2, a3, a4, a5⟩ | ⟨_, a2, _⟩
    · refine ⟨a1, ⟨by rw [h1, a4]; exact a5, by rw [a4]; exact putF_uniq h.uniq ht name data, a3, a2, ?_, ?_, h2.trans h.stops, by rw [h1]; exact hr⟩, a4, h1⟩
      · rw [a4]
        have hl : Bnd (m + 1) (putL s.recs name data) := h.bnd.set (by omega) _ (h.bnd.next name)
        exact hl.thin (putL_thin ht name data)
      · have := put_writes s name data
        have := h.writes
        omega
    · rw [h.stops] at a2; cases a2
/-- Drop on a store that lives -/
theorem SGood.drop {m : Nat} {s : St} (h : SGood m s) (name : ByteArray) : SGood (m + 1) (dropR s name).2 ∧ (dropR s name).2.recs.length = s.recs.length ∧ (dropR s name).2.room = s.room ∧ (Sto.best s.recs name s.recs.length = none → (dropR s name).1 = 4 ∧ (dropR s name).2 = s) ∧ (∀ k, Sto.best s.recs name s.recs.length = some k → (dropR s name).1 = 0 ∧ (dropR s name).2.recs = s.recs.set k Sto.Rec.free) := by
  have hw := h.writes
  unfold dropR
  rw [if_neg (by simp [h.dead])]
  cases hb : Sto.best s.recs name s.recs.length with
  | none =>
    refine ⟨⟨h.holds, h.uniq, h.disk, h.dead, fun r hr => Nat.le_succ_of_le (h.bnd r hr), by simp only; omega, h.stops, h.room⟩, rfl, rfl, fun _ => ⟨rfl, rfl⟩, fun k hk => (by cases hk)⟩
  | some k =>
    obtain ⟨rk, hk, _⟩ := (Sto.best_top _ _ _).1 k hb
    have hwr : (s.freeS k).disk.writes ≤ s.disk.writes + 1 := DiskS.wr_writes _ _ _
    rcases free_law h.holds h.disk h.dead hk with ⟨a1, a2, a3, a4, a5⟩ | ⟨_, a2, _⟩
    · refine ⟨⟨?_, ?_, a3, a2, ?_, by show (s.freeS k).disk.writes ≤ _; omega, (wr_stops _ _ _).trans h.stops, h.room⟩, ?_, rfl, fun hn => (by cases hn), fun k' hk' => ?_⟩
      · show Holds (s.freeS k).disk s.room (s.freeS k).recs
        rw [a4]; exact a5
      · show Sto.Uniq (s.freeS k).recs
        rw [a4]; exact h.uniq.drop k
      · show Bnd (m + 1) (s.freeS k).recs
        rw [a4]; exact h.bnd.set (by omega) k (Nat.zero_le _)
      · show (s.freeS k).recs.length = _
        rw [a4, List.length_set]
      · cases hk'
        exact ⟨a1, a4⟩
    · rw [h.stops] at a2; cases a2
/-- Put while the disk may stop -/
theorem SGood.torn {m : Nat} {s : St} (h : SGood m s) (hm : m < 1000000) (a k : Int) {name : ByteArray} {data : List UInt8} (hf : fitsB s.room name data = true) (ht : Sto.slot s.recs < s.recs.length) :
    ((putR { s with disk := s.disk.stop a k } name data).2.room = s.room ∧ (putR { s with disk := s.disk.stop a k } name data).2.disk.writes ≤ 2000 * (m + 1)) ∧
    (((putR { s with disk := s.disk.stop a k } name data).1 = 0 ∧ (putR { s with disk := s.disk.stop a k } name data).2.disk.dead = false ∧ Holds (putR { s with disk := s.disk.stop a k } name data).2.disk s.room (putF s.recs name data)) ∨
     ((putR { s with disk := s.disk.stop a k } name data).1 = 8 ∧ (putR { s with disk := s.disk.stop a k } name data).2.disk.dead = true ∧ ∃ l, Holds (putR { s with disk := s.disk.stop a k } name data).2.disk s.room l ∧ (l = s.recs ∨ Sto.Thin (putL s.recs name data) l))) := by
  have hw := put_writes { s with disk := s.disk.stop a k } name data
  have hw0 := h.writes
  have hr := h.room
  have hw1 : (s.disk.stop a k).writes = s.disk.writes := rfl
  simp only [hw1] at hw
  rcases put_law (s := { s with disk := s.disk.stop a k }) (h.holds.stop a k) h.disk h.dead h.bnd (by omega) name data with ⟨h1, _⟩ | ⟨_, h1, _⟩ | ⟨_, _, h1, h2, h3⟩
  · rw [hf] at h1; cases h1
  · simp only at h1; omega
  · refine ⟨⟨h1, by omega⟩, ?_⟩
    rcases h3 with ⟨a1, a2, a3, a4, a5⟩ | ⟨a1, a2, a3, a4, l, a5, a6⟩
    · exact .inl ⟨a1, a3, a5⟩
    · exact .inr ⟨a1, a4, l, a5, a6⟩
/-- what a disk holds is opened again, behind a start -/
theorem good_reopen {m : Nat} {D : DiskS} {room : Nat} {l : List Sto.Rec} (h : Holds D room l) (hm : Bnd m l) (hw : D.writes ≤ 2000 * m) (hl : l.length ≤ 500) (hr : 1 ≤ room ∧ room ≤ 1000) :
    ∃ l' D', Sto.Thin l l' ∧ openR D.start l.length room = (0, D', some ⟨room, l', false, D'⟩) ∧ SGood (m + 1) ⟨room, l', false, D'⟩ := by
  obtain ⟨l', a1, a2, a3, a4⟩ := open_law h.start rfl
  have hw2 := open_writes D.start l.length room
  have hw3 : D.start.writes = D.writes := rfl
  rcases a4 with ⟨b1, b2, b3, b4⟩ | ⟨_, b2, _⟩
  · refine ⟨l', (openR D.start l.length room).2.1, a1, by rw [← b3, ← b1], ⟨a2, b4, b2, rfl, ?_, by show (openR D.start l.length room).2.1.writes ≤ _; omega, a3, hr⟩⟩
    have := hm.thin a1
    exact fun r hr => Nat.le_succ_of_le (this r hr)
  · exact absurd b2 (by simp [DiskS.start])
end Go.Mem
namespace Go.Proofs.YtmeegdicnfgjfaaDoor
open Go Go.RowKit Go.Mem Gf
def DL (d L : Nat) (b : Nat) : Prop := b = d ∨ b = L
/-- a disk of the call's own -/
structure Lab (w0 w : World) (d L : Nat) (D : DiskS) : Prop where
  disk : IsDisk w d L D
  bel : Below w0.heap.size w0 w
  d1 : w0.heap.size ≤ d
  l1 : w0.heap.size ≤ L
  tab : Tab w
/-- a store of the call's own -/
structure LabS (w0 w : World) (sb lb d L : Nat) (s : St) : Prop where
  st : IsStore w (fun b => DL d L b ∨ b = sb ∨ b = lb) sb lb d L s
  bel : Below w0.heap.size w0 w
  d1 : w0.heap.size ≤ d
  l1 : w0.heap.size ≤ L
  s1 : w0.heap.size ≤ sb
  b1 : w0.heap.size ≤ lb
theorem Lab.step {w0 w w' : World} {d L : Nat} {D : DiskS} (h : Lab w0 w d L D) (hb : Below w.heap.size w w') : Lab w0 w' d L D :=
  ⟨h.disk.below hb, h.bel.trans (hb.mono h.bel.size), h.d1, h.l1, h.tab.below hb⟩
theorem LabS.step {w0 w w' : World} {sb lb d L : Nat} {s : St} (h : LabS w0 w sb lb d L s) (hb : Below w.heap.size w w') : LabS w0 w' sb lb d L s :=
  ⟨h.st.below hb, h.bel.trans (hb.mono h.bel.size), h.d1, h.l1, h.s1, h.b1⟩
theorem LabS.lab {w0 w : World} {sb lb d L : Nat} {s : St} (h : LabS w0 w sb lb d L s) : Lab w0 w d L s.disk := ⟨h.st.disk, h.bel, h.d1, h.l1, h.st.tab⟩
theorem Chg.far {S : Nat → Prop} {B : Nat} {w0 w w' : World} (h : Below B w0 w) (hc : Chg S w w') (hB : B ≤ w.heap.size) (hs : ∀ k, S k → B ≤ k) : Below B w0 w' := h.trans (hc.below hB hs)
/-- the disk is another one, in its place -/
theorem IsStore.redisk {w w' : World} {N : Nat → Prop} {sb lb d L : Nat} {s : St} {D : DiskS} (h : IsStore w N sb lb d L s) (hc : Chg (DL d L) w w') (hD : IsDisk w' d L D) (hn : D.n = s.disk.n) (hw : s.disk.writes ≤ D.writes) (hw2 : D.writes ≤ 72057594037927936) : IsStore w' N sb lb d L { s with disk := D } := by
  obtain ⟨cap, hB, a, b⟩ := h.blk
  have hne := h.ne
  have hs : ∀ k, DL d L k → k < w.heap.size → N k := fun k hk _ => by
    rcases hk with rfl | rfl
    · exact h.foot _ (.inr (.inr (.inl rfl)))
    · exact h.foot _ (.inr (.inr (.inr rfl)))
  exact ⟨⟨cap, hc.blk hB (fun hk => by rcases hk with e | e; exact hne.2.1 e; exact hne.2.2.1 e), a, b⟩, h.recs.chg hc (fun hk => by rcases hk with e | e; exact hne.2.2.2.1 e; exact hne.2.2.2.2 e) hs, hD,
    h.tab.chg hc (fun hk => h.ntab (hs _ hk h.tab.lt)), h.ntab, h.foot, h.ne, ⟨h.ok.room1, h.ok.room2, h.ok.len1, h.ok.len2, hn.trans h.ok.size, fun r hr => by have := h.ok.each r hr; simp only; omega, hw2⟩, fun b hb => Nat.lt_of_lt_of_le (h.old b hb) hc.size⟩
theorem LabS.redisk {w0 w w' : World} {sb lb d L : Nat} {s : St} {D : DiskS} (h : LabS w0 w sb lb d L s) (hc : Chg (DL d L) w w') (hD : IsDisk w' d L D) (hn : D.n = s.disk.n) (hw : s.disk.writes ≤ D.writes) (hw2 : D.writes ≤ 72057594037927936) : LabS w0 w' sb lb d L { s with disk := D } :=
  ⟨h.st.redisk hc hD hn hw hw2, Chg.far h.bel hc h.bel.size (fun k hk => by rcases hk with rfl | rfl; exact h.d1; exact h.l1), h.d1, h.l1, h.s1, h.b1⟩
theorem Lab.chg {w0 w w' : World} {d L : Nat} {D D' : DiskS} (h : Lab w0 w d L D) (ht : gT ≠ d ∧ gT ≠ L) (hc : Chg (DL d L) w w') (hD : IsDisk w' d L D') : Lab w0 w' d L D' :=
  ⟨hD, Chg.far h.bel hc h.bel.size (fun k hk => by rcases hk with rfl | rfl; exact h.d1; exact h.l1), h.d1, h.l1, h.tab.chg hc (fun hk => by rcases hk with e | e; exact ht.1 e; exact ht.2 e)⟩
theorem lab_new (n : Nat) (w0 w : World) (hT0 : Tab w0) (hb : Below w0.heap.size w0 w) (h1 : 1 ≤ n) (h2 : n ≤ 4096) :
    Calls Tryd.prog 9 #[.int .i64 n] w fun e w' => ∃ d L, e = .returned (.tuple #[.pointer (some ⟨d, 0, none⟩), .int .i64 0]) ∧ Lab w0 w' d L (.fresh n) ∧ (gT ≠ d ∧ gT ≠ L) ∧ Below w.heap.size w w' := by
  refine (dnew_calls n w h1 h2).mono ?_
  rintro e w1 ⟨d, L, rfl, hD, hd1, hd2, hb1⟩
  have hs := hb.size
  have := hT0.lt
  exact ⟨d, L, rfl, ⟨hD, hb.trans (hb1.mono hs), by omega, by omega, (hT0.below hb).below hb1⟩, ⟨by omega, by omega⟩, hb1⟩
/-- a disk is opened -/
theorem lab_open {w0 w : World} {d L : Nat} {D : DiskS} (h : Lab w0 w d L D) (ht : gT ≠ d ∧ gT ≠ L) (slots room : Nat) (h1 : 1 ≤ slots ∧ slots ≤ 1024) (h2 : 1 ≤ room ∧ room ≤ 1024) (hn : D.n = slots * (room + 1)) (hfew : D.writes < 72057594037920000) :
    Calls Tryd.prog 10 #[.pointer (some ⟨d, 0, none⟩), .int .i64 slots, .int .i64 room] w fun e w' => ∃ p, e = .returned (.tuple #[p, .int .i64 (openR D slots room).1]) ∧ Chg (DL d L) w w' ∧ Lab w0 w' d L (openR D slots room).2.1 ∧
      (((openR D slots room).2.2 = none ∧ p = .pointer none) ∨ ∃ s sb lb, (openR D slots room).2.2 = some s ∧ p = .pointer (some ⟨sb, 0, none⟩) ∧ LabS w0 w' sb lb d L s) := by
  have hs := h.bel.size
  have hd := h.disk.lt
  refine (open_calls (DL d L) d L D slots room w h.tab ⟨fun hk => by rcases hk with e | e; exact ht.1 e; exact ht.2 e, .inl rfl, .inr rfl, fun b hb => by rcases hb with rfl | rfl; exact hd.1; exact hd.2⟩ h.disk (by simp; omega) (by simp; omega) hn hfew).mono ?_
  rintro e w1 ⟨p, rfl, hc, hD, hp⟩
  have hl := h.chg ht hc hD
  refine ⟨p, rfl, hc, hl, ?_⟩
  rcases hp with hp | ⟨s, lb, e1, e2, e3, e4⟩
  · exact .inl hp
  · exact .inr ⟨s, w.heap.size, lb, e1, e2, ⟨e4, hl.bel, h.d1, h.l1, hs, by omega⟩⟩
/-- a disk on which no name stands twice -/
theorem lab_open_uniq {w0 w : World} {d L : Nat} {D : DiskS} (h : Lab w0 w d L D) (ht : gT ≠ d ∧ gT ≠ L) {slots room : Nat} {l : List Sto.Rec} (h1 : 1 ≤ slots ∧ slots ≤ 1024) (h2 : 1 ≤ room ∧ room ≤ 1024) (hfew : D.writes < 72057594037920000) (hl : l.length = slots) (hh : Holds D room l) (hd : D.dead = false) (hu : Sto.Uniq l) :
    Calls Tryd.prog 10 #[.pointer (some ⟨d, 0, none⟩), .int .i64 slots, .int .i64 room] w fun e w' => ∃ sb lb, e = .returned (.tuple #[.pointer (some ⟨sb, 0, none⟩), .int .i64 0]) ∧ LabS w0 w' sb lb d L ⟨room, l, false, D⟩ ∧ Chg (DL d L) w w' := by
  have ho := open_uniq hh hd hu
  rw [hl] at ho
  refine (lab_open h ht slots room h1 h2 (by rw [← hl]; exact hh.1) hfew).mono ?_
  rintro e w1 ⟨p, rfl, hc, _, hp⟩
  rw [ho] at hp ⊢
  rcases hp with ⟨h, _⟩ | ⟨s, sb, lb, e1, rfl, e3⟩
  · cases h
  · cases e1
    exact ⟨sb, lb, rfl, e3, hc⟩
theorem lab_put {w0 w : World} {sb lb d L : Nat} {s : St} (h : LabS w0 w sb lb d L s) (name : ByteArray) (v : Value) (data : List UInt8) (hb : Bys w v data) (hn : name.size ≤ 1000000) (hdl : data.length ≤ 1000000) (hv : ∀ w', Chg (Foot sb lb d L) w w' → Bys w' v data) (hfew : s.disk.writes < 72057594037920000) :
    Calls Tryd.prog 13 #[.pointer (some ⟨sb, 0, none⟩), .string name, v] w fun e w' => e = .returned (.int .i64 (putR s name data).1) ∧ LabS w0 w' sb lb d L (putR s name data).2 ∧ Chg (Foot sb lb d L) w w' := by
  refine (sput_calls _ sb lb d L s name v data w h.st hb hn hdl hv hfew).mono ?_
  rintro e w1 ⟨rfl, h1, hc⟩
  exact ⟨rfl, ⟨h1, Chg.far h.bel hc h.bel.size (fun k hk => by rcases hk with rfl | rfl | rfl | rfl; exact h.s1; exact h.b1; exact h.d1; exact h.l1), h.d1, h.l1, h.s1, h.b1⟩, hc⟩
/-- the data were made since -/
theorem lab_put_new {w0 w w' : World} {sb lb d L : Nat} {s : St} (h : LabS w0 w sb lb d L s) (hal : Below w.heap.size w w') (name : ByteArray) (a : Addr) (l c : Nat) (data : List UInt8) (hb : Bys w' (.slice (some a) l c) data) (ha : w.heap.size ≤ a.block) (hn : name.size ≤ 1000000) (hdl : data.length ≤ 1000000) (hfew : s.disk.writes < 72057594037920000) :
    Calls Tryd.prog 13 #[.pointer (some ⟨sb, 0, none⟩), .string name, .slice (some a) l c] w' fun e w'' => e = .returned (.int .i64 (putR s name data).1) ∧ LabS w0 w'' sb lb d L (putR s name data).2 ∧ Chg (Foot sb lb d L) w' w'' :=
  lab_put (h.step hal) name _ data hb hn hdl (fun _ hc => hb.chg hc fun a' l' c' e hf => by cases e; have := h.st.lt _ hf; omega) hfew
/-- the data are an argument's -/
theorem lab_put_arg {w0 w : World} {sb lb d L : Nat} {s : St} (h : LabS w0 w sb lb d L s) (name : ByteArray) (v : Value) (data : List UInt8) (hb : Bys w0 v data) (hn : name.size ≤ 1000000) (hdl : data.length ≤ 1000000) (hfew : s.disk.writes < 72057594037920000) :
    Calls Tryd.prog 13 #[.pointer (some ⟨sb, 0, none⟩), .string name, v] w fun e w' => e = .returned (.int .i64 (putR s name data).1) ∧ LabS w0 w' sb lb d L (putR s name data).2 ∧ Chg (Foot sb lb d L) w w' :=
  lab_put h name v data (hb.below h.bel) hn hdl (fun _ hc => hb.below (Chg.far h.bel hc h.bel.size (fun k hk => by rcases hk with rfl | rfl | rfl | rfl; exact h.s1; exact h.b1; exact h.d1; exact h.l1))) hfew
/-- its names, rising -/
theorem lab_names {w0 w : World} {sb lb d L : Nat} {s : St} (h : LabS w0 w sb lb d L s) :
    Calls Tryd.prog 19 #[.pointer (some ⟨sb, 0, none⟩)] w fun e w' => ∃ v, e = .returned v ∧ Strs w' v (s.names.mergeSort fun x y => decide (x ≤ y)) ∧ Below w.heap.size w w' := by
  refine (snames_calls _ sb lb d L s w h.st).mono ?_
  rintro e w1 ⟨v, rfl, hv, hb⟩
  exact ⟨v, rfl, strs_of_own hv (by simp), hb⟩
theorem lab_stop {w0 w : World} {sb lb d L : Nat} {s : St} (h : LabS w0 w sb lb d L s) (x y : Int) (hx : x ≤ 9223372036854775807) :
    Calls Tryd.prog 14 #[.pointer (some ⟨d, 0, none⟩), .int .i64 x, .int .i64 y] w fun e w' => e = .returned (.tuple #[]) ∧ LabS w0 w' sb lb d L { s with disk := s.disk.stop x y } ∧ Chg (DL d L) w w' := by
  refine (dstop_calls d L s.disk x y w h.st.disk hx).mono ?_
  rintro e w1 ⟨rfl, hD, hc⟩
  have hc' : Chg (DL d L) w w1 := hc.mono (fun k hk => .inl hk)
  exact ⟨rfl, h.redisk hc' hD rfl (Nat.le_refl _) h.st.ok.few, hc'⟩
theorem lab_start {w0 w : World} {sb lb d L : Nat} {s : St} (h : LabS w0 w sb lb d L s) :
    Calls Tryd.prog 17 #[.pointer (some ⟨d, 0, none⟩)] w fun e w' => e = .returned (.tuple #[]) ∧ LabS w0 w' sb lb d L { s with disk := s.disk.start } ∧ Chg (DL d L) w w' := by
  refine (dstart_calls d L s.disk w h.st.disk).mono ?_
  rintro e w1 ⟨rfl, hD, hc⟩
  have hc' : Chg (DL d L) w w1 := hc.mono (fun k hk => .inl hk)
  exact ⟨rfl, h.redisk hc' hD rfl (Nat.le_refl _) h.st.ok.few, hc'⟩
theorem lab_dstop {w0 w : World} {d L : Nat} {D : DiskS} (h : Lab w0 w d L D) (ht : gT ≠ d ∧ gT ≠ L) (x y : Int) (hx : x ≤ 9223372036854775807) :
    Calls Tryd.prog 14 #[.pointer (some ⟨d, 0, none⟩), .int .i64 x, .int .i64 y] w fun e w' => e = .returned (.tuple #[]) ∧ Lab w0 w' d L (D.stop x y) := by
  refine (dstop_calls d L D x y w h.disk hx).mono ?_
  rintro e w1 ⟨rfl, hD, hc⟩
  exact ⟨rfl, h.chg ht (hc.mono (fun k hk => .inl hk)) hD⟩
theorem lab_dstart {w0 w : World} {d L : Nat} {D : DiskS} (h : Lab w0 w d L D) (ht : gT ≠ d ∧ gT ≠ L) :
    Calls Tryd.prog 17 #[.pointer (some ⟨d, 0, none⟩)] w fun e w' => e = .returned (.tuple #[]) ∧ Lab w0 w' d L D.start := by
  refine (dstart_calls d L D w h.disk).mono ?_
  rintro e w1 ⟨rfl, hD, hc⟩
  exact ⟨rfl, h.chg ht (hc.mono (fun k hk => .inl hk)) hD⟩
end Go.Proofs.YtmeegdicnfgjfaaDoor
namespace Go.Mem
open Go Go.RowKit Gf Go.Proofs.YtmeegdicnfgjfaaDoor
theorem putF_look {l : List Sto.Rec} (ht : Sto.slot l < l.length) (name : ByteArray) (data : List UInt8) (nm : ByteArray) : Sto.look (putF l name data) nm = if nm = name then some data else Sto.look l nm := by
  rw [(putL_thin ht _ _).look, putL_look ht]
theorem putF_live {l : List Sto.Rec} (ht : Sto.slot l < l.length) (name : ByteArray) (data : List UInt8) : liveN (putF l name data) ≤ liveN l + 1 := by
  rw [live_putF ht]; split <;> omega
/-- what is read behind a Put on a disk that may stop -/
theorem torn_look {m : Nat} {s : St} (h : SGood m s) (hm : m < 1000000) (a k : Int) {name : ByteArray} {data : List UInt8} (hf : fitsB s.room name data = true) (ht : Sto.slot s.recs < s.recs.length) {R : Int × St} (hR : putR { s with disk := s.disk.stop a k } name data = R) :
    ∃ l, Holds R.2.disk s.room l ∧ l.length = s.recs.length ∧ Bnd (m + 1) l ∧ R.2.room = s.room ∧ R.2.disk.writes ≤ 2000 * (m + 1) ∧ ((R.1 = 0 ∧ R.2.disk.dead = false ∧ Sto.look l name = some data) ∨ (R.1 = 8 ∧ R.2.disk.dead = true ∧ (Sto.look l name = some data ∨ Sto.look l name = Sto.look s.recs name))) ∧ (∀ nm, nm ≠ name → Sto.look l nm = Sto.look s.recs nm) := by
  have hb : Bnd (m + 1) (putL s.recs name data) := h.bnd.set (by omega) _ (h.bnd.next name)
  have hlen : (putL s.recs name data).length = s.recs.length := by unfold putL; rw [List.length_set]
  have hth := putL_thin ht name data
  obtain ⟨⟨h1, h2⟩, h3⟩ := h.torn hm a k hf ht
  rw [hR] at h1 h2 h3
  rcases h3 with ⟨a1, a2, a3⟩ | ⟨a1, a2, l, a3, a4⟩
  · exact ⟨_, a3, hth.1.trans hlen, hb.thin hth, h1, h2, .inl ⟨a1, a2, by rw [putF_look ht, if_pos rfl]⟩, fun nm hn => by rw [putF_look ht, if_neg hn]⟩
  · rcases a4 with rfl | a4
    · exact ⟨_, a3, rfl, fun r hr => Nat.le_succ_of_le (h.bnd r hr), h1, h2, .inr ⟨a1, a2, .inr rfl⟩, fun _ _ => rfl⟩
    · exact ⟨l, a3, a4.1.trans hlen, hb.thin a4, h1, h2, .inr ⟨a1, a2, .inl (by rw [a4.look, putL_look ht, if_pos rfl])⟩, fun nm hn => by rw [a4.look, putL_look ht, if_neg hn]⟩
end Go.Mem
namespace Go.Proofs.YtmeegdicnfgjfaaDoor
open Go Go.RowKit Go.Mem Gf
attribute [local go_sem ↓] Go.wp_at_zero Go.wp_at_succ
/-- a disk that was started again is opened -/
theorem lab_reopen {w0 w : World} {d L : Nat} {D : DiskS} {m slots room : Nat} {l : List Sto.Rec} (h : Lab w0 w d L D.start) (ht : gT ≠ d ∧ gT ≠ L) (hh : Holds D room l) (hm : Bnd m l) (hm1 : m < 1000000) (hw : D.writes ≤ 2000 * m) (h1 : 1 ≤ slots ∧ slots ≤ 500) (h2 : 1 ≤ room ∧ room ≤ 1000) (hl : l.length = slots) :
    Calls Tryd.prog 10 #[.pointer (some ⟨d, 0, none⟩), .int .i64 slots, .int .i64 room] w fun e w' => ∃ s sb lb, e = .returned (.tuple #[.pointer (some ⟨sb, 0, none⟩), .int .i64 0]) ∧ LabS w0 w' sb lb d L s ∧ SGood (m + 1) s ∧ Sto.Thin l s.recs ∧ s.room = room ∧ Chg (DL d L) w w' := by
  obtain ⟨l', D', t1, t2, t3⟩ := good_reopen hh hm hw (by omega) h2
  rw [hl] at t2
  refine (lab_open h ht slots room (by omega) (by omega) (by rw [← hl]; exact hh.1) (by show D.writes < _; omega)).mono ?_
  rintro e w1 ⟨p, rfl, hc, _, hp⟩
  rw [t2] at hp ⊢
  rcases hp with ⟨h, _⟩ | ⟨s, sb, lb, e1, rfl, e3⟩
  · cases h
  · cases e1
    exact ⟨_, sb, lb, rfl, e3, t3, t1, rfl, hc⟩
set_option maxRecDepth 100000 in
set_option maxHeartbeats 1000000 in
theorem cut8_two (v : Value) (bs : List UInt8) (n : Nat) (w0 w : World) (h0 : Bys w0 v bs) (h : Bys w v bs) :
    Calls Tryd.prog 12 #[v, .int .i64 n] w fun e w' => (∃ v', e = .returned v' ∧ Bys w0 v' (bs.take n)) ∧ w = w' := by
  have hl := h.len
  obtain ⟨a, cap, rfl, h1, h2, h3⟩ := id h
  obtain ⟨l, hl'⟩ : ∃ l, l = bs.length := ⟨_, rfl⟩
  rw [← hl'] at hl h h1 h0 ⊢
  have Hl := Lib.hid hl'; have H3 := Lib.hid h3; have H2 := Lib.hid h2; have H0 := Lib.hid h0; clear hl' h3 h2 h0
  by_cases hlt : n < l
  · go_enter Tryd.func12, Tryd.ntmps12
    go_wp2
    go_ret
    refine ⟨⟨_, rfl, ?_⟩, rfl⟩
    show Bys w0 (.slice a (min (l : Int) (n : Int)).toNat cap) _
    rw [show (min (l : Int) (n : Int)).toNat = n from by omega]
    exact H0.out.take n (by have := Hl.out; omega)
  · go_enter Tryd.func12, Tryd.ntmps12
    go_wp2
    go_ret
    refine ⟨⟨_, rfl, ?_⟩, rfl⟩
    show Bys w0 (.slice a (min (l : Int) (n : Int)).toNat cap) _
    rw [show (min (l : Int) (n : Int)).toNat = l from by omega, List.take_of_length_le (by have := Hl.out; omega)]
    exact H0.out
end Go.Proofs.YtmeegdicnfgjfaaDoor
namespace Go.Mem
open Go Go.RowKit Gf Go.Proofs.YtmeegdicnfgjfaaDoor
theorem slot_full {l : List Sto.Rec} (h : liveN l = l.length) : Sto.slot l = l.length := by
  refine Classical.byContradiction fun hn => ?_
  have ht := slot_lt hn
  have h0 : l[Sto.slot l]? = some l[Sto.slot l] := by simp [ht]
  unfold liveN at h
  rw [List.countP_eq_length] at h
  have := h l[Sto.slot l] (by simp)
  rw [slot_not h0] at this
  cases this
theorem put_full {s : St} (hs : s.dead = false) {name : ByteArray} {data : List UInt8} (hf : fitsB s.room name data = true) (h : liveN s.recs = s.recs.length) : putR s name data = (3, s) := by
  unfold putR
  rw [if_neg (by simp [hs]), if_neg (by simp [hf]), if_pos (slot_full h)]
theorem best_of_look {l : List Sto.Rec} {nm : ByteArray} (h : Sto.look l nm = none) : Sto.best l nm l.length = none := by
  unfold Sto.look at h
  simpa using h
theorem best_of_some {l : List Sto.Rec} {nm : ByteArray} {x : List UInt8} (h : Sto.look l nm = some x) : ∃ k, Sto.best l nm l.length = some k := by
  unfold Sto.look at h
  cases hb : Sto.best l nm l.length with
  | none => rw [hb] at h; cases h
  | some k => exact ⟨k, rfl⟩
/-- what is read behind a Drop on a disk that may stop -/
theorem torn_drop {m : Nat} {s : St} (h : SGood m s) (a k : Int) {name : ByteArray} {x : List UInt8} (hl : Sto.look s.recs name = some x) {R : Int × St} (hR : dropR { s with disk := s.disk.stop a k } name = R) :
    ∃ l, Holds R.2.disk s.room l ∧ l.length = s.recs.length ∧ Bnd (m + 1) l ∧ R.2.disk.writes ≤ 2000 * (m + 1) ∧ ((R.1 = 0 ∧ Sto.look l name = none) ∨ (R.1 = 8 ∧ (Sto.look l name = none ∨ Sto.look l name = some x))) ∧ (∀ nm, nm ≠ name → Sto.look l nm = Sto.look s.recs nm) := by
  obtain ⟨q, hq⟩ := best_of_some hl
  obtain ⟨rq, hq1, _⟩ := (Sto.best_top _ _ _).1 q hq
  have hw := h.writes
  obtain ⟨s', hs'⟩ : ∃ s' : St, s' = { s with disk := s.disk.stop a k } := ⟨_, rfl⟩
  have e : R = (s'.freeE q, s'.freeS q) := by
    rw [← hR, ← hs']
    unfold dropR
    rw [if_neg (by rw [hs']; simp [h.dead])]
    have : s'.recs = s.recs := by rw [hs']
    rw [this, hq]
  have hb1 : Bnd (m + 1) s.recs := fun r hr => Nat.le_succ_of_le (h.bnd r hr)
  have hb2 : Bnd (m + 1) (s.recs.set q Sto.Rec.free) := h.bnd.set (by omega) q (Nat.zero_le _)
  have hwr : (s'.freeS q).disk.writes ≤ s'.disk.writes + 1 := DiskS.wr_writes _ _ _
  have hw' : s'.disk.writes = s.disk.writes := by rw [hs']; rfl
  have hlk := Sto.look_drop h.uniq hq
  have hgone : Sto.look (s.recs.set q Sto.Rec.free) name = none := by rw [hlk, if_pos rfl]
  have hrest : ∀ nm, nm ≠ name → Sto.look (s.recs.set q Sto.Rec.free) nm = Sto.look s.recs nm := fun nm hn => by rw [hlk, if_neg hn]
  have hlen : (s.recs.set q Sto.Rec.free).length = s.recs.length := List.length_set
  have hF := free_law (s := s') (i := q) (by rw [hs']; exact h.holds.stop a k) (by rw [hs']; exact h.disk) (by rw [hs']; exact h.dead) (by rw [hs']; exact hq1)
  rw [show s'.recs = s.recs from by rw [hs'], show s'.room = s.room from by rw [hs']] at hF
  rw [e]
  rcases hF with ⟨a1, a2, a3, a4, a5⟩ | ⟨a1, a2, a2', a3, a4, a5, a6⟩
  · exact ⟨_, a5, hlen, hb2, by simp only; omega, .inl ⟨a1, hgone⟩, hrest⟩
  · rcases a6 with a6 | a6
    · exact ⟨_, a6, rfl, hb1, by simp only; omega, .inr ⟨a1, .inr hl⟩, fun _ _ => rfl⟩
    · exact ⟨_, a6, hlen, hb2, by simp only; omega, .inr ⟨a1, .inl hgone⟩, hrest⟩
end Go.Mem
namespace Go.Proofs.YtmeegdicnfgjfaaDoor
open Go Go.RowKit Go.Mem Gf
theorem lab_drop {w0 w : World} {sb lb d L : Nat} {s : St} (h : LabS w0 w sb lb d L s) (name : ByteArray) (hfew : s.disk.writes < 72057594037927936) :
    Calls Tryd.prog 30 #[.pointer (some ⟨sb, 0, none⟩), .string name] w fun e w' => e = .returned (.int .i64 (dropR s name).1) ∧ LabS w0 w' sb lb d L (dropR s name).2 ∧ Chg (Foot sb lb d L) w w' := by
  refine (sdrop_calls _ sb lb d L s name w h.st hfew).mono ?_
  rintro e w1 ⟨rfl, h1, hc⟩
  exact ⟨rfl, ⟨h1, Chg.far h.bel hc h.bel.size (fun k hk => by rcases hk with rfl | rfl | rfl | rfl; exact h.s1; exact h.b1; exact h.d1; exact h.l1), h.d1, h.l1, h.s1, h.b1⟩, hc⟩
end Go.Proofs.YtmeegdicnfgjfaaDoor
