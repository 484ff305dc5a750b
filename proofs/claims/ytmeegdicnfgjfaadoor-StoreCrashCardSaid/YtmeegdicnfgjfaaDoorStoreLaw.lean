/- What Put and Open do to the records on a disk, wherever it stops. No program in sight. -/
import Derived.Test.YtmeegdicnfgjfaaDoorStoreDisk
namespace Go.Mem
open Go Go.RowKit Gf Go.Proofs.YtmeegdicnfgjfaaDoor
theorem parse_text {name : ByteArray} {num : Nat} {data rest : List UInt8} (h1 : name.size ≤ 16384) (h2 : data.length ≤ 16384) (hn : num < 4294967296) : Sto.parse (Sto.text name num data ++ rest) = some ⟨true, name, num, data⟩ := by
  have e : Sto.text name num data ++ rest = Cod.net name.data.toList ++ (Cod.net (Cod.be 4 num) ++ (Cod.net data ++ rest)) := by simp [Sto.text, Cod.nets, List.append_assoc]
  have t : Sto.takeN 3 (Sto.text name num data ++ rest) = some ([name.data.toList, Cod.be 4 num, data], rest) := by
    rw [e]
    simp only [Sto.takeN, Cod.takeNet_net name.data.toList (Cod.net (Cod.be 4 num) ++ (Cod.net data ++ rest)) (by simpa using h1), Cod.takeNet_net (Cod.be 4 num) (Cod.net data ++ rest) (by rw [Cod.be_len]; omega), Cod.takeNet_net data rest h2, List.nil_append, List.cons_append]
  unfold Sto.parse
  rw [t]
  simp only [List.getD_cons_zero, List.getD_cons_succ, Cod.be_len, if_true, Cod.getN_be 4 num hn]
theorem slotB_get (D : DiskS) (room i : Nat) : ∀ (m j : Nat), j < m * 32 → (slotB D room i m)[j]? = some (D.f ((i * (room + 1) + 1) * 32 + j))
  | m + 1, j, h => by
    rw [slotB]
    rcases Nat.lt_or_ge j (m * 32) with hj | hj
    · rw [List.getElem?_append_left (by rw [slotB_len]; exact hj)]
      exact slotB_get D room i m j hj
    · rw [List.getElem?_append_right (by rw [slotB_len]; exact hj), slotB_len, sector_get _ _ _ (by omega)]
      congr 2
      omega
/-- bytes that stand at a slot's beginning -/
theorem slotB_text {D : DiskS} {room i : Nat} {b : List UInt8} (hl : b.length ≤ room * 32) (h : ∀ j, j < b.length → D.f ((i * (room + 1) + 1) * 32 + j) = b.getD j 0) : ∃ rest, slotB D room i room = b ++ rest := by
  refine ⟨(slotB D room i room).drop b.length, ?_⟩
  have : (slotB D room i room).take b.length = b := by
    apply List.ext_getElem?
    intro j
    rw [List.getElem?_take]
    split
    · rename_i hj
      rw [slotB_get _ _ _ _ _ (by omega), h j hj, List.getD_eq_getElem?_getD, List.getElem?_eq_getElem hj]; rfl
    · rename_i hj
      rw [List.getElem?_eq_none (by omega)]
  conv => lhs; rw [← List.take_append_drop b.length (slotB D room i room)]
  rw [this]
theorem fits_parts {room : Nat} {name : ByteArray} {data : List UInt8} (h : fitsB room name data = true) : name.size ≤ 16384 ∧ data.length ≤ 16384 := by
  unfold fitsB at h
  simp only [Bool.and_eq_true, decide_eq_true_eq] at h
  exact ⟨h.1, h.2.1⟩
/-- the numbers of the records are at most m -/
def Bnd (m : Nat) (l : List Sto.Rec) : Prop := ∀ r ∈ l, r.num ≤ m
theorem Bnd.set {m : Nat} {l : List Sto.Rec} (h : Bnd m l) {m' : Nat} (hm : m ≤ m') (t : Nat) {r : Sto.Rec} (hr : r.num ≤ m') : Bnd m' (l.set t r) := fun r' h' => by
  rcases List.mem_or_eq_of_mem_set h' with h' | rfl
  · exact Nat.le_trans (h r' h') hm
  · exact hr
theorem Bnd.next {m : Nat} {l : List Sto.Rec} (h : Bnd m l) (name : ByteArray) : Sto.nextNum l name ≤ m + 1 := by
  unfold Sto.nextNum
  split
  · omega
  · rename_i k hb
    obtain ⟨r, _, b, _⟩ := (Sto.best_top l name l.length).1 k hb
    have := h r (List.mem_of_getElem? b.1)
    rw [List.getD_eq_getElem?_getD, b.1]
    simpa using this
theorem Bnd.thin {m : Nat} {l l' : List Sto.Rec} (h : Bnd m l) (ht : Sto.Thin l l') : Bnd m l' := fun r hr => by
  obtain ⟨i, hi⟩ := List.getElem?_of_mem hr
  rcases ht.2 i with h1 | ⟨_, _, _, _, h1⟩
  · exact h r (List.mem_of_getElem? (h1.symm.trans hi))
  · rw [h1] at hi; cases hi; exact Nat.zero_le _
theorem slot_lt {l : List Sto.Rec} (h : Sto.slot l ≠ l.length) : Sto.slot l < l.length := by have := slot_le l; omega
/-- the list behind a Put -/
def putL (l : List Sto.Rec) (name : ByteArray) (data : List UInt8) : List Sto.Rec := l.set (Sto.slot l) ⟨true, name, Sto.nextNum l name, data⟩
def putF (l : List Sto.Rec) (name : ByteArray) (data : List UInt8) : List Sto.Rec := match Sto.best l name l.length with
  | none => putL l name data
  | some k => (putL l name data).set k Sto.Rec.free
theorem putL_thin {l : List Sto.Rec} (ht : Sto.slot l < l.length) (name : ByteArray) (data : List UInt8) : Sto.Thin (putL l name data) (putF l name data) := by
  have h0 : l[Sto.slot l]? = some l[Sto.slot l] := by simp [ht]
  unfold putF
  split
  · exact Sto.Thin.refl _
  · rename_i k hb
    exact Sto.thin_swap ht h0 (slot_not h0) hb data
theorem putL_look {l : List Sto.Rec} (ht : Sto.slot l < l.length) (name : ByteArray) (data : List UInt8) (nm : ByteArray) : Sto.look (putL l name data) nm = if nm = name then some data else Sto.look l nm := by
  have h0 : l[Sto.slot l]? = some l[Sto.slot l] := by simp [ht]
  by_cases e : nm = name
  · rw [if_pos e, e]
    exact Sto.look_top ht name data
  · rw [if_neg e]
    exact Sto.look_other ht h0 (slot_not h0) (fun _ h => e h.symm)
theorem putF_uniq {l : List Sto.Rec} (hu : Sto.Uniq l) (ht : Sto.slot l < l.length) (name : ByteArray) (data : List UInt8) : Sto.Uniq (putF l name data) := by
  unfold putF
  split
  · rename_i hb
    exact hu.put ht hb _ _
  · rename_i k hb
    exact hu.swap ht hb _ _
theorem putF_len (l : List Sto.Rec) (name : ByteArray) (data : List UInt8) : (putF l name data).length = l.length := by
  unfold putF putL
  split <;> simp
/-- Put on a living store: refused; or done; or the disk died of it, and holds the records as they were, or the new one too -/
theorem put_law {s : St} {m : Nat} (hh : Holds s.disk s.room s.recs) (hd : s.disk.dead = false) (hs : s.dead = false) (hm : Bnd m s.recs) (hm2 : m < 4294967295) (name : ByteArray) (data : List UInt8) :
    (fitsB s.room name data = false ∧ putR s name data = (1, s)) ∨ (fitsB s.room name data = true ∧ Sto.slot s.recs = s.recs.length ∧ putR s name data = (3, s)) ∨
    (fitsB s.room name data = true ∧ Sto.slot s.recs < s.recs.length ∧ (putR s name data).2.room = s.room ∧ (putR s name data).2.disk.stops = s.disk.stops ∧ 
      (((putR s name data).1 = 0 ∧ (putR s name data).2.dead = false ∧ (putR s name data).2.disk.dead = false ∧ (putR s name data).2.recs = putF s.recs name data ∧ Holds (putR s name data).2.disk s.room (putF s.recs name data)) ∨
       ((putR s name data).1 = 8 ∧ s.disk.stops = true ∧ (putR s name data).2.dead = true ∧ (putR s name data).2.disk.dead = true ∧ ∃ l, Holds (putR s name data).2.disk s.room l ∧ (l = s.recs ∨ Sto.Thin (putL s.recs name data) l)))) := by
  by_cases hf : fitsB s.room name data = true
  rotate_left
  · have hf' : fitsB s.room name data = false := by simpa using hf
    exact .inl ⟨hf', by unfold putR; rw [if_neg (by simp [hs]), if_pos hf']⟩
  refine .inr ?_
  by_cases ht : Sto.slot s.recs = s.recs.length
  · exact .inl ⟨hf, ht, by unfold putR; rw [if_neg (by simp [hs]), if_neg (by simp [hf]), if_pos ht]⟩
  refine .inr ⟨hf, slot_lt ht, ?_⟩
  have htl := slot_lt ht
  have hr0 : s.recs[Sto.slot s.recs]? = some s.recs[Sto.slot s.recs] := by simp [htl]
  obtain ⟨hn1, hd1⟩ := fits_parts hf
  have hnum : s.num name = Sto.nextNum s.recs name := rfl
  have htx := fits_len hf (s.num name)
  have hpn : s.num name < 4294967296 := by have := hm.next name; rw [hnum]; omega
  obtain ⟨e, s1, c0, c1, c2, c3, c4, c5, c6⟩ := chunks_law (room := s.room) (t := Sto.slot s.recs) s.room s 0 (Sto.text name (s.num name) data) rfl hd hs hh.2.1 htx (by omega) (hh.lt htl (by omega))
  have hfree : s.recs[Sto.slot s.recs] = Sto.Rec.free ∧ s.disk.f (Sto.slot s.recs * (s.room + 1) * 32) ≠ 1 := by
    rcases hh.2.2 _ _ hr0 with h | h
    · exact h
    · have := slot_not hr0; rw [h.1] at this; cases this
  have hst1 : s1.disk.f (Sto.slot s.recs * (s.room + 1) * 32) = s.disk.f (Sto.slot s.recs * (s.room + 1) * 32) := c5 _ (by omega)
  have hold : Holds s1.disk s.room s.recs := by
    have := c3.holds hh htl (r := Sto.Rec.free) (Slot.free (by rw [hst1]; exact hfree.2))
    rwa [show s.recs.set (Sto.slot s.recs) Sto.Rec.free = s.recs from by rw [← hfree.1]; exact List.set_getElem_self htl] at this
  rcases c6 with ⟨rfl, g1, g2, g3⟩ | ⟨rfl, g1, g2, g3⟩
  rotate_left
  · have e1 : putR s name data = (8, s1) := by
      unfold putR
      rw [if_neg (by simp [hs]), if_neg (by simp [hf]), if_neg ht, c0]
      rfl
    rw [e1]
    exact ⟨c2, c4, .inr ⟨rfl, g3, g1, g2, s.recs, hold, .inl rfl⟩⟩
  have e1 : putR s name data = if s1.writeE (Sto.slot s.recs * (s.room + 1)) [1] ≠ 0 then (s1.writeE (Sto.slot s.recs * (s.room + 1)) [1], s1.writeS (Sto.slot s.recs * (s.room + 1)) [1]) else ((s1.writeS (Sto.slot s.recs * (s.room + 1)) [1]).laid (Sto.slot s.recs) ⟨true, name, s.num name, data⟩).done (Sto.best s.recs name s.recs.length) := by
    unfold putR
    rw [if_neg (by simp [hs]), if_neg (by simp [hf]), if_neg ht, c0]
    rfl
  have hx := hold.lt htl (k := 0) (Nat.succ_pos _)
  have hoff : Off s1.disk (s1.disk.wr ((Sto.slot s.recs * (s.room + 1) : Nat) : Int) [1]) s.room (Sto.slot s.recs) := Off.wr (k := 0) hold.2.1 rfl (Nat.succ_pos _) [1]
  have htext : ∀ D' : DiskS, (∀ j, (Sto.slot s.recs * (s.room + 1) + 1) * 32 ≤ j → j < (Sto.slot s.recs * (s.room + 1) + 1 + s.room) * 32 → D'.f j = s1.disk.f j) → D'.f (Sto.slot s.recs * (s.room + 1) * 32) = 1 → Slot D' s.room (Sto.slot s.recs) ⟨true, name, s.num name, data⟩ := fun D' h1 h2 => by
    refine .inr ⟨rfl, h2, ?_⟩
    obtain ⟨rest, hrest⟩ := slotB_text (D := D') (room := s.room) (i := Sto.slot s.recs) htx (fun j hj => (h1 _ (by omega) (by omega)).trans (g3 j hj))
    rw [hrest]
    exact parse_text hn1 hd1 hpn
  have hb1 : ∀ j, (Sto.slot s.recs * (s.room + 1) + 1) * 32 ≤ j → j < (Sto.slot s.recs * (s.room + 1) + 1 + s.room) * 32 → (s1.disk.wr ((Sto.slot s.recs * (s.room + 1) : Nat) : Int) [1]).f j = s1.disk.f j := fun j h1 h2 => wr_f hold.2.1 _ _ (by omega)
  rcases wr_cases g2 (bs := [1]) hx (by simp) with ⟨q1, q2, q3⟩ | ⟨q0, qc, q1, q2, q3⟩
  rotate_left
  · simp only [Nat.add_zero] at q1 q2 q3
    have hE : s1.writeE (Sto.slot s.recs * (s.room + 1)) [1] = 8 := q1
    rw [e1, hE, if_pos (by decide)]
    refine ⟨c2, (wr_stops _ _ _).trans c4, .inr ⟨rfl, c4 ▸ q0, by simp [St.writeS, hE], q2, ?_⟩⟩
    by_cases hk : 0 < s1.disk.keep
    · refine ⟨putL s.recs name data, hoff.holds hold htl (htext _ hb1 ?_), .inr (Sto.Thin.refl _)⟩
      have := q3 0 (by omega)
      rw [if_pos hk] at this
      exact this
    · refine ⟨s.recs, ?_, .inl rfl⟩
      have := hoff.holds hold htl (r := Sto.Rec.free) (Slot.free (fun h1 => by
        have h2 := q3 0 (by omega)
        rw [if_neg hk] at h2
        exact hfree.2 (hst1.symm.trans (h2.symm.trans h1))))
      rwa [show s.recs.set (Sto.slot s.recs) Sto.Rec.free = s.recs from by rw [← hfree.1]; exact List.set_getElem_self htl] at this
  simp only [Nat.add_zero] at q1 q2 q3
  have hE : s1.writeE (Sto.slot s.recs * (s.room + 1)) [1] = 0 := q1
  have hhp : Holds (s1.disk.wr ((Sto.slot s.recs * (s.room + 1) : Nat) : Int) [1]) s.room (putL s.recs name data) := hoff.holds hold htl (htext _ hb1 (q3 0 (by omega)))
  rw [e1, if_neg (by simp [hE])]
  cases hb : Sto.best s.recs name s.recs.length with
  | none =>
    have hF : putF s.recs name data = putL s.recs name data := by unfold putF; rw [hb]
    rw [hF]
    exact ⟨c2, (wr_stops _ _ _).trans c4, .inl ⟨rfl, by simp [St.done, St.laid, St.writeS, hE, g1], q2, by show s1.recs.set _ _ = _; rw [c1]; rfl, hhp⟩⟩
  | some k =>
    have hF : putF s.recs name data = (putL s.recs name data).set k Sto.Rec.free := by unfold putF; rw [hb]
    have hk : k < s.recs.length := by obtain ⟨_, h, _⟩ := (Sto.best_top _ _ _).1 k hb; exact h
    obtain ⟨s2, hs2⟩ : ∃ s2, s2 = (s1.writeS (Sto.slot s.recs * (s.room + 1)) [1]).laid (Sto.slot s.recs) ⟨true, name, s.num name, data⟩ := ⟨_, rfl⟩
    have r1 : s2.recs = putL s.recs name data := by rw [hs2]; show s1.recs.set _ _ = _; rw [c1]; rfl
    have r2 : s2.room = s.room := by rw [hs2]; exact c2
    have r3 : s2.disk = s1.disk.wr ((Sto.slot s.recs * (s.room + 1) : Nat) : Int) [1] := by rw [hs2]; rfl
    have r4 : s2.dead = false := by rw [hs2]; simp [St.laid, St.writeS, hE, g1]
    have hthin := putL_thin htl name data
    rw [hF] at hthin
    have r5 : (s2.freeS k).disk.stops = s.disk.stops := by
      show (s2.disk.wr _ _).stops = _
      rw [wr_stops, r3, wr_stops, c4]
    have HF := free_law (s := s2) (i := k) (by rw [r3, r2, r1]; exact hhp) (by rw [r3]; exact q2) r4 (by rw [r1]; unfold putL; rw [List.length_set]; exact hk)
    rw [r1, r2] at HF
    rw [← hs2]
    show (s2.freeS k).room = _ ∧ (s2.freeS k).disk.stops = _ ∧ ((s2.freeE k = 0 ∧ (s2.freeS k).dead = false ∧ (s2.freeS k).disk.dead = false ∧ (s2.freeS k).recs = _ ∧ Holds (s2.freeS k).disk _ _) ∨ (s2.freeE k = 8 ∧ _ ∧ (s2.freeS k).dead = true ∧ (s2.freeS k).disk.dead = true ∧ ∃ l, Holds (s2.freeS k).disk _ l ∧ _))
    refine ⟨r2, r5, ?_⟩
    rcases HF with ⟨a1, a2, a3, a4, a5⟩ | ⟨a1, a2, a2', a3, a4, a5, a6⟩
    · exact .inl ⟨a1, a2, a3, by rw [hF]; exact a4, by rw [hF]; exact a5⟩
    · refine .inr ⟨a1, ?_, a3, a4, ?_⟩
      · rw [r3, wr_stops, c4] at a2; exact a2
      · rcases a6 with a6 | a6
        · exact ⟨_, a6, .inr (Sto.Thin.refl _)⟩
        · exact ⟨_, a6, .inr hthin⟩
theorem thin_len {l l' : List Sto.Rec} (h : Sto.Thin l l') : l'.length = l.length := h.1
/-- of one name one record stays, as far as the disk lives -/
theorem keep_law {s : St} (hh : Holds s.disk s.room s.recs) (hd : s.disk.dead = false) (hs : s.dead = false) : ∀ k, k ≤ s.recs.length →
    (keepBest s k).2.room = s.room ∧ (keepBest s k).2.disk.stops = s.disk.stops ∧
    (((keepBest s k).1 = 0 ∧ (keepBest s k).2.dead = false ∧ (keepBest s k).2.disk.dead = false ∧ Holds (keepBest s k).2.disk s.room (keepBest s k).2.recs ∧ Sto.Thin s.recs (keepBest s k).2.recs ∧
        ∀ i r, i < k → (keepBest s k).2.recs[i]? = some r → r.is = true → Sto.best (keepBest s k).2.recs r.name (keepBest s k).2.recs.length = some i) ∨
     ((keepBest s k).1 = 8 ∧ s.disk.stops = true ∧ (keepBest s k).2.disk.dead = true ∧ ∃ l, Sto.Thin s.recs l ∧ Holds (keepBest s k).2.disk s.room l))
  | 0, _ => ⟨rfl, rfl, .inl ⟨rfl, hs, hd, hh, Sto.Thin.refl _, fun i r h => by omega⟩⟩
  | k + 1, hk => by
    obtain ⟨i1, i2, i3⟩ := keep_law hh hd hs k (by omega)
    rcases i3 with ⟨a1, a2, a3, a4, a5, a6⟩ | ⟨a1, a2, a3, a4⟩
    rotate_left
    · have e : keepBest s (k + 1) = keepBest s k := by rw [keepBest]; simp only [a1]; rfl
      rw [e]
      exact ⟨i1, i2, .inr ⟨a1, a2, a3, a4⟩⟩
    · obtain ⟨p, hp⟩ : ∃ p, p = keepBest s k := ⟨_, rfl⟩
      rw [← hp] at i1 i2 a1 a2 a3 a4 a5 a6
      have hlen : p.2.recs.length = s.recs.length := a5.1
      obtain ⟨r, hr⟩ : ∃ r, p.2.recs[k]? = some r := ⟨p.2.recs[k]'(by omega), by simp⟩
      by_cases hc : r.is = true ∧ Sto.best p.2.recs r.name p.2.recs.length ≠ some k
      · have e : keepBest s (k + 1) = (p.2.freeE k, p.2.freeS k) := by
          rw [keepBest, ← hp]
          simp only [a1, ne_eq, not_true_eq_false, if_false, hr]
          rw [if_pos hc]
        rw [e]
        have hstep := Sto.Thin.step hr hc.1 hc.2
        have hst : (p.2.freeS k).disk.stops = s.disk.stops := (wr_stops _ _ _).trans i2
        rcases free_law (s := p.2) (i := k) (by rw [i1]; exact a4) a3 a2 (by omega) with ⟨b1, b2, b3, b4, b5⟩ | ⟨b1, b2, b2', b3, b4, b5, b6⟩
        · rw [i1] at b5
          refine ⟨i1, hst, .inl ⟨b1, b2, b3, by rw [b4]; exact b5, by rw [b4]; exact a5.trans hstep, fun i r' hi hr' his => ?_⟩⟩
          simp only at hr' ⊢
          rw [b4] at hr' ⊢
          rw [hstep.best]
          rcases get_set (by omega) hr' with ⟨rfl, rfl⟩ | ⟨hne, hr'⟩
          · simp [Sto.Rec.free] at his
          · exact a6 i r' (by omega) hr' his
        · rw [i1] at b6
          refine ⟨i1, hst, .inr ⟨b1, i2 ▸ b2, b4, ?_⟩⟩
          rcases b6 with b6 | b6
          · exact ⟨_, a5, b6⟩
          · exact ⟨_, a5.trans hstep, b6⟩
      · have e : keepBest s (k + 1) = p := by
          rw [keepBest, ← hp]
          simp only [a1, ne_eq, not_true_eq_false, if_false, hr]
          rw [if_neg hc]
        rw [e]
        refine ⟨i1, i2, .inl ⟨a1, a2, a3, a4, a5, fun i r' hi hr' his => ?_⟩⟩
        rcases Nat.lt_or_ge i k with h | h
        · exact a6 i r' h hr' his
        · obtain rfl : i = k := by omega
          rw [hr] at hr'; cases hr'
          exact Classical.byContradiction fun h => hc ⟨his, h⟩
theorem keep_uniq {s : St} (hu : Sto.Uniq s.recs) : ∀ k, keepBest s k = (0, s)
  | 0 => rfl
  | k + 1 => by
    rw [keepBest, keep_uniq hu k]
    simp only [ne_eq, not_true_eq_false, if_false]
    cases hr : s.recs[k]? with
    | none => rfl
    | some r =>
      simp only
      by_cases hr1 : r.is = true
      · rw [if_neg (fun h => h.2 (hu.is ⟨hr, hr1, rfl⟩))]
      · rw [if_neg (fun h => hr1 h.1)]
/-- a living disk without names that stand twice is opened as it is -/
theorem open_uniq {D : DiskS} {room : Nat} {l : List Sto.Rec} (hh : Holds D room l) (hd : D.dead = false) (hu : Sto.Uniq l) : openR D l.length room = (0, D, some ⟨room, l, false, D⟩) := by
  unfold openR
  rw [readAll_holds hd hh _ (Nat.le_refl _), List.take_length]
  simp only [ne_eq, not_true_eq_false, if_false]
  rw [keep_uniq (s := ⟨room, l, false, D⟩) hu]
  simp only [not_true_eq_false, if_false]
/-- a living disk is opened; what is lost is but what a greater number stands for -/
theorem open_law {D : DiskS} {room : Nat} {l : List Sto.Rec} (hh : Holds D room l) (hd : D.dead = false) : ∃ l', Sto.Thin l l' ∧ Holds (openR D l.length room).2.1 room l' ∧ (openR D l.length room).2.1.stops = D.stops ∧
    (((openR D l.length room).1 = 0 ∧ (openR D l.length room).2.1.dead = false ∧ (openR D l.length room).2.2 = some ⟨room, l', false, (openR D l.length room).2.1⟩ ∧ Sto.Uniq l') ∨
     ((openR D l.length room).1 = 8 ∧ D.stops = true ∧ (openR D l.length room).2.1.dead = true ∧ (openR D l.length room).2.2 = none)) := by
  obtain ⟨q, hq⟩ : ∃ q, q = keepBest ⟨room, l, false, D⟩ l.length := ⟨_, rfl⟩
  have e : openR D l.length room = if q.1 ≠ 0 then (q.1, q.2.disk, none) else (0, q.2.disk, some q.2) := by
    unfold openR
    rw [readAll_holds hd hh _ (Nat.le_refl _), List.take_length, hq]
    rfl
  obtain ⟨i1, i2, i3⟩ := keep_law (s := ⟨room, l, false, D⟩) hh hd rfl l.length (Nat.le_refl _)
  rw [← hq] at i1 i2 i3
  rw [e]
  rcases i3 with ⟨a1, a2, a3, a4, a5, a6⟩ | ⟨a1, a2, a3, l', a4, a5⟩
  · rw [if_neg (by simp [a1])]
    refine ⟨q.2.recs, a5, a4, i2, .inl ⟨rfl, a3, ?_, Sto.uniq_of_best fun i r hr his => a6 i r ?_ hr his⟩⟩
    · obtain ⟨q1, ⟨q2, q3, q4, q5⟩⟩ := q
      simp only at i1 a2
      subst i1 a2
      rfl
    · have : i < q.2.recs.length := Sto.At.lt (name := r.name) (k := i) (r := r) ⟨hr, his, rfl⟩
      rw [a5.1] at this
      exact this
  · rw [if_pos (by simp [a1])]
    exact ⟨l', a4, a5, i2, .inr ⟨a1, a2, a3, rfl⟩⟩
/-- a dead disk is not opened -/
theorem open_dead {D : DiskS} {room slots : Nat} (hd : D.dead = true) (hs : 1 ≤ slots) : openR D slots room = (8, D, none) := by
  have h1 : readAll room D 1 = ([], 8, D) := by
    simp only [readAll, readR, hd, if_true]; rfl
  have h2 : readAll room D slots = ([], 8, D) := by
    have := readAll_err room D (k := 1) (by simp [h1]) (slots - 1)
    rw [show 1 + (slots - 1) = slots from by omega] at this
    rw [this, h1]
  unfold openR
  rw [h2]
  rfl
theorem Holds.start {D : DiskS} {room : Nat} {l : List Sto.Rec} (h : Holds D room l) : Holds D.start room l := by
  refine ⟨h.1, h.2.1, fun i r hr => (h.2.2 i r hr).congr fun _ _ _ => rfl⟩
theorem Holds.stop {D : DiskS} {room : Nat} {l : List Sto.Rec} (h : Holds D room l) (a k : Int) : Holds (D.stop a k) room l := by
  refine ⟨h.1, ?_, fun i r hr => (h.2.2 i r hr).congr fun _ _ _ => rfl⟩
  show (max 0 (min k 32)).toNat ≤ 32
  omega
/-- an empty disk -/
theorem Holds.fresh (slots room : Nat) : Holds (.fresh (slots * (room + 1))) room (List.replicate slots Sto.Rec.free) := by
  refine ⟨by simp [DiskS.fresh], Nat.zero_le _, fun i r hr => ?_⟩
  have : r = Sto.Rec.free := by
    have := List.mem_of_getElem? hr
    exact (List.mem_replicate.1 this).2
  subst this
  exact Slot.free (by simp [DiskS.fresh])
theorem uniq_free (n : Nat) : Sto.Uniq (List.replicate n Sto.Rec.free) := fun nm i j r r' h1 _ => by
  have := (List.mem_replicate.1 (List.mem_of_getElem? h1.1)).2
  have h2 := h1.2.1
  rw [this] at h2
  simp [Sto.Rec.free] at h2
theorem bnd_free (n : Nat) : Bnd 0 (List.replicate n Sto.Rec.free) := fun r hr => by rw [(List.mem_replicate.1 hr).2]; exact Nat.le_refl _
theorem look_free (n : Nat) (nm : ByteArray) : Sto.look (List.replicate n Sto.Rec.free) nm = none := by
  unfold Sto.look
  rw [Sto.best_no]
  · rfl
  · intro j r h
    have := (List.mem_replicate.1 (List.mem_of_getElem? h.1)).2
    have h2 := h.2.1
    rw [this] at h2
    simp [Sto.Rec.free] at h2
theorem freeK_free (n : Nat) : ∀ k, k ≤ n → freeK (List.replicate n Sto.Rec.free) k = k
  | 0, _ => rfl
  | k + 1, h => by
    simp only [freeK, List.getElem?_replicate, show k < n from by omega, if_true]
    rw [freeK_free n k (by omega)]; rfl
theorem namesK_free (n : Nat) : ∀ k, k ≤ n → namesK (List.replicate n Sto.Rec.free) k = []
  | 0, _ => rfl
  | k + 1, h => by
    simp only [namesK, List.getElem?_replicate, show k < n from by omega, if_true]
    rw [namesK_free n k (by omega)]; rfl
/-- how much is written at most -/
theorem chunks_writes (at_ : Nat) : ∀ (n : Nat) (s : St) (k : Nat) (b : List UInt8), (St.chunks at_ n s k b).2.disk.writes ≤ s.disk.writes + n
  | 0, s, k, b => Nat.le_refl _
  | n + 1, s, k, b => by
    have h1 : (s.writeS (at_ + 1 + k) (b.take 32)).disk.writes ≤ s.disk.writes + 1 := DiskS.wr_writes _ _ _
    rw [St.chunks]
    split
    · show s.disk.writes ≤ _; omega
    · split
      · show (s.writeS (at_ + 1 + k) (b.take 32)).disk.writes ≤ _
        omega
      · have := chunks_writes at_ n (s.writeS (at_ + 1 + k) (b.take 32)) (k + 1) (b.drop 32)
        omega
theorem put_writes (s : St) (name : ByteArray) (data : List UInt8) : (putR s name data).2.disk.writes ≤ s.disk.writes + s.room + 2 := by
  unfold putR
  split
  · show s.disk.writes ≤ _; omega
  · split
    · show s.disk.writes ≤ _; omega
    · split
      · show s.disk.writes ≤ _; omega
      · have h0 := chunks_writes (Sto.slot s.recs * (s.room + 1)) s.room s 0 (Sto.text name (s.num name) data)
        obtain ⟨p, hp⟩ : ∃ p, p = St.chunks (Sto.slot s.recs * (s.room + 1)) s.room s 0 (Sto.text name (s.num name) data) := ⟨_, rfl⟩
        rw [← hp] at h0 ⊢
        obtain ⟨e, s1⟩ := p
        simp only at h0 ⊢
        have h1 : (s1.writeS (Sto.slot s.recs * (s.room + 1)) [1]).disk.writes ≤ s1.disk.writes + 1 := DiskS.wr_writes _ _ _
        split
        · show s1.disk.writes ≤ _; omega
        · split
          · show (s1.writeS (Sto.slot s.recs * (s.room + 1)) [1]).disk.writes ≤ _; omega
          · unfold St.done
            split
            · show (s1.writeS (Sto.slot s.recs * (s.room + 1)) [1]).disk.writes ≤ _; omega
            · rename_i k hk
              have h2 : (((s1.writeS (Sto.slot s.recs * (s.room + 1)) [1]).laid (Sto.slot s.recs) ⟨true, name, s.num name, data⟩).freeS k).disk.writes ≤ (s1.writeS (Sto.slot s.recs * (s.room + 1)) [1]).disk.writes + 1 := DiskS.wr_writes _ _ _
              show (((s1.writeS (Sto.slot s.recs * (s.room + 1)) [1]).laid (Sto.slot s.recs) ⟨true, name, s.num name, data⟩).freeS k).disk.writes ≤ _
              omega
theorem readAll_writes (room : Nat) (D : DiskS) : ∀ k, (readAll room D k).2.2.writes ≤ D.writes + k
  | 0 => Nat.le_refl _
  | k + 1 => by
    have ih := readAll_writes room D k
    have h1 : ∀ i bs, ((readAll room D k).2.2.wr i bs).writes ≤ (readAll room D k).2.2.writes + 1 := fun i bs => DiskS.wr_writes _ i bs
    rw [readAll]
    simp only
    split
    · omega
    · split
      · simp only
        split
        · exact Nat.le_trans (h1 _ _) (by omega)
        · omega
      · simp only
        split
        · exact Nat.le_trans (h1 _ _) (by omega)
        · omega
theorem keep_writes (s : St) : ∀ k, (keepBest s k).2.disk.writes ≤ s.disk.writes + k
  | 0 => Nat.le_refl _
  | k + 1 => by
    have ih := keep_writes s k
    rw [keepBest]
    split
    · omega
    · split
      · omega
      · split
        · exact Nat.le_trans (DiskS.wr_writes _ _ _) (by omega)
        · omega
theorem open_writes (D : DiskS) (slots room : Nat) : (openR D slots room).2.1.writes ≤ D.writes + slots + slots := by
  have h1 := readAll_writes room D slots
  have h2 := keep_writes ⟨room, (readAll room D slots).1, false, (readAll room D slots).2.2⟩ slots
  simp only at h2
  unfold openR
  simp only
  split
  · first | (simp only; omega) | omega
  · split
    · first | (simp only; omega) | omega
    · first | (simp only; omega) | omega
end Go.Mem
