/- Texts of this proof, packed: StoreDisk, StoreLaw, StoreOpenW. -/
import Derived.Test.YtehgnkdfnnebcaaGreatDoorPk01
import Derived.Laws.Strings
import Derived.Test.YtehgnkdfnnebcaaGreatDoorPk09
import Derived.Test.YtehgnkdfnnebcaaGreatDoorPk05
import Derived.Test.YtehgnkdfnnebcaaGreatDoorPk03
section
namespace Sto
theorem ByteArray.toList_inj' {a b : ByteArray} (h : a.toList = b.toList) : a = b := by
  rw [Go.ByteArray.toList_eq, Go.ByteArray.toList_eq] at h
  exact ByteArray.ext (Array.toList_inj.mp h)
def At (l : List Rec) (name : ByteArray) (k : Nat) (r : Rec) : Prop := l[k]? = some r ∧ r.is = true ∧ r.name = name
theorem At.eq {l : List Rec} {name : ByteArray} {k : Nat} {r r' : Rec} (h : At l name k r) (h' : At l name k r') : r = r' := by
  have := h.1.symm.trans h'.1
  cases this; rfl
theorem At.lt {l : List Rec} {name : ByteArray} {k : Nat} {r : Rec} (h : At l name k r) : k < l.length := by
  rcases Nat.lt_or_ge k l.length with h' | h'
  · exact h'
  · have := h.1; rw [List.getElem?_eq_none h'] at this; cases this
theorem same_name {a b : ByteArray} : ((a.toList == b.toList) = true) ↔ a = b := ⟨fun h => ByteArray.toList_inj' (by simpa using h), fun h => by rw [h]; simp⟩
def Top (l : List Rec) (name : ByteArray) (n k : Nat) : Prop := ∃ r, k < n ∧ At l name k r ∧ ∀ j r', j < n → At l name j r' → (j < k → r'.num < r.num) ∧ r'.num ≤ r.num
theorem best_top (l : List Rec) (name : ByteArray) : ∀ n, (∀ k, best l name n = some k → Top l name n k) ∧ (best l name n = none → ∀ j r, j < n → ¬ At l name j r)
  | 0 => ⟨fun k h => by simp [best] at h, fun _ j r h => by omega⟩
  | n + 1 => by
    obtain ⟨i1, i2⟩ := best_top l name n
    cases hn : l[n]? with
    | none =>
      have e : best l name (n + 1) = best l name n := by simp only [best, hn]
      have hno : ∀ r, ¬ At l name n r := fun r h => by have := h.1; rw [hn] at this; cases this
      refine ⟨fun k h => ?_, fun h j r hj ha => ?_⟩
      · rw [e] at h
        obtain ⟨r, a, b, c⟩ := i1 k h
        refine ⟨r, by omega, b, fun j r' hj ha => ?_⟩
        rcases Nat.lt_or_ge j n with h' | h'
        · exact c j r' h' ha
        · obtain rfl : j = n := by omega
          exact absurd ha (hno r')
      · rw [e] at h
        rcases Nat.lt_or_ge j n with h' | h'
        · exact i2 h j r h' ha
        · obtain rfl : j = n := by omega
          exact hno r ha
    | some r =>
      by_cases hc : r.is = true ∧ (r.name.toList == name.toList) = true ∧ (∀ j, best l name n = some j → (l.getD j Rec.free).num < r.num)
      · have e : best l name (n + 1) = some n := by simp only [best, hn]; rw [if_pos hc]
        have hat : At l name n r := ⟨hn, hc.1, same_name.1 hc.2.1⟩
        refine ⟨fun k h => ?_, fun h => by rw [e] at h; cases h⟩
        rw [e] at h; cases h
        refine ⟨r, by omega, hat, fun j r' hj ha => ?_⟩
        rcases Nat.lt_or_ge j n with h' | h'
        · cases hb : best l name n with
          | none => exact absurd ha (i2 hb j r' h')
          | some k =>
            obtain ⟨rk, a, b, c⟩ := i1 k hb
            have h2 := (c j r' h' ha).2
            have h3 := hc.2.2 k hb
            rw [List.getD_eq_getElem?_getD, b.1] at h3
            have h3 : rk.num < r.num := h3
            exact ⟨fun _ => by omega, by omega⟩
        · obtain rfl : j = n := by omega
          have := hat.eq ha
          subst this
          exact ⟨fun h => by omega, Nat.le_refl _⟩
      · have e : best l name (n + 1) = best l name n := by simp only [best, hn]; rw [if_neg hc]
        refine ⟨fun k h => ?_, fun h j r' hj ha => ?_⟩
        · rw [e] at h
          obtain ⟨rk, a, b, c⟩ := i1 k h
          refine ⟨rk, by omega, b, fun j r' hj ha => ?_⟩
          rcases Nat.lt_or_ge j n with h' | h'
          · exact c j r' h' ha
          · obtain rfl : j = n := by omega
            have hr : r = r' := by have := ha.1; rw [hn] at this; cases this; rfl
            subst hr
            refine ⟨fun h' => by omega, ?_⟩
            rcases Nat.lt_or_ge rk.num r.num with hlt | hge
            · exfalso
              refine hc ⟨ha.2.1, same_name.2 ha.2.2, fun j' hj' => ?_⟩
              rw [h] at hj'; cases hj'
              rw [List.getD_eq_getElem?_getD, b.1]
              exact hlt
            · exact hge
        · rw [e] at h
          rcases Nat.lt_or_ge j n with h' | h'
          · exact i2 h j r' h' ha
          · obtain rfl : j = n := by omega
            have hr : r = r' := by have := ha.1; rw [hn] at this; cases this; rfl
            subst hr
            exact hc ⟨ha.2.1, same_name.2 ha.2.2, fun j' hj' => by rw [h] at hj'; cases hj'⟩
theorem best_is {l : List Rec} {name : ByteArray} {n k : Nat} (h : Top l name n k) : best l name n = some k := by
  obtain ⟨r, a, b, c⟩ := h
  cases hb : best l name n with
  | none => exact absurd b ((best_top l name n).2 hb k r a)
  | some k' =>
    obtain ⟨r', a', b', c'⟩ := (best_top l name n).1 k' hb
    have h1 := c k' r' a' b'
    have h2 := c' k r a b
    rcases Nat.lt_trichotomy k k' with h | h | h
    · have := h2.1 h; omega
    · rw [h]
    · have := h1.1 h; omega
theorem best_no {l : List Rec} {name : ByteArray} {n : Nat} (h : ∀ j r, ¬ At l name j r) : best l name n = none := by
  cases hb : best l name n with
  | none => rfl
  | some k =>
    obtain ⟨r, _, b, _⟩ := (best_top l name n).1 k hb
    exact absurd b (h k r)
def look (l : List Rec) (name : ByteArray) : Option (List UInt8) := (best l name l.length).map fun k => (l.getD k Rec.free).data
def Thin (l l' : List Rec) : Prop := l'.length = l.length ∧ ∀ i, l'[i]? = l[i]? ∨ ∃ r, l[i]? = some r ∧ r.is = true ∧ best l r.name l.length ≠ some i ∧ l'[i]? = some Rec.free
theorem Thin.refl (l : List Rec) : Thin l l := ⟨rfl, fun _ => .inl rfl⟩
theorem Thin.get {l l' : List Rec} (h : Thin l l') {name : ByteArray} {k : Nat} (hb : best l name l.length = some k) : l'[k]? = l[k]? := by
  obtain ⟨r, _, b, _⟩ := (best_top l name l.length).1 k hb
  rcases h.2 k with h | ⟨r', h1, h2, h3, h4⟩
  · exact h
  · have : r = r' := by have := b.1.symm.trans h1; cases this; rfl
    subst this
    rw [b.2.2] at h3
    exact absurd hb h3
theorem Thin.back {l l' : List Rec} (h : Thin l l') {name : ByteArray} {k : Nat} {r : Rec} (ha : At l' name k r) : At l name k r := by
  rcases h.2 k with h | ⟨r', h1, h2, h3, h4⟩
  · exact ⟨h.symm.trans ha.1, ha.2⟩
  · have := h4.symm.trans ha.1
    cases this
    have := ha.2.1
    simp [Rec.free] at this
theorem Thin.best {l l' : List Rec} (h : Thin l l') (name : ByteArray) : Sto.best l' name l'.length = Sto.best l name l.length := by
  cases hb : Sto.best l name l.length with
  | none => exact best_no fun j r ha => (best_top l name l.length).2 hb j r (h.back ha).lt (h.back ha)
  | some k =>
    have hg := h.get hb
    obtain ⟨r, a, b, c⟩ := (best_top l name l.length).1 k hb
    exact best_is ⟨r, by rw [h.1]; exact a, ⟨hg.trans b.1, b.2⟩, fun j r' hj ha => c j r' (by rw [← h.1]; exact hj) (h.back ha)⟩
theorem Thin.look {l l' : List Rec} (h : Thin l l') (name : ByteArray) : Sto.look l' name = Sto.look l name := by
  unfold Sto.look
  rw [h.best]
  cases hb : Sto.best l name l.length with
  | none => rfl
  | some k =>
    simp only [Option.map_some]
    rw [List.getD_eq_getElem?_getD, List.getD_eq_getElem?_getD, h.get hb]
theorem Thin.trans {l l' l'' : List Rec} (h : Thin l l') (h' : Thin l' l'') : Thin l l'' := by
  refine ⟨h'.1.trans h.1, fun i => ?_⟩
  rcases h'.2 i with h1 | ⟨r, h1, h2, h3, h4⟩
  · rcases h.2 i with h5 | ⟨r, h5, h6, h7, h8⟩
    · exact .inl (h1.trans h5)
    · exact .inr ⟨r, h5, h6, h7, h1.trans h8⟩
  · rcases h.2 i with h5 | ⟨r', h5, h6, h7, h8⟩
    · exact .inr ⟨r, h5.symm.trans h1, h2, by rw [← h.best]; exact h3, h4⟩
    · exact .inr ⟨r', h5, h6, h7, h4⟩
theorem Thin.step {l : List Rec} {i : Nat} {r : Rec} (hr : l[i]? = some r) (his : r.is = true) (hb : Sto.best l r.name l.length ≠ some i) : Thin l (l.set i Rec.free) := by
  have hi : i < l.length := (At.lt ⟨hr, his, rfl⟩ : i < l.length)
  refine ⟨List.length_set, fun j => ?_⟩
  by_cases e : i = j
  · subst e
    exact .inr ⟨r, hr, his, hb, by simp [hi]⟩
  · exact .inl (by rw [List.getElem?_set_ne e])
def Uniq (l : List Rec) : Prop := ∀ name i j r r', At l name i r → At l name j r' → i = j
theorem Uniq.is {l : List Rec} (h : Uniq l) {name : ByteArray} {k : Nat} {r : Rec} (ha : At l name k r) : Sto.best l name l.length = some k :=
  best_is ⟨r, ha.lt, ha, fun j r' hj ha' => by
    have e := h name j k r' r ha' ha
    subst e
    have := ha.eq ha'
    subst this
    exact ⟨fun h => by omega, Nat.le_refl _⟩⟩
theorem uniq_of_best {l : List Rec} (h : ∀ i r, l[i]? = some r → r.is = true → Sto.best l r.name l.length = some i) : Uniq l := by
  intro name i j r r' h1 h2
  have e1 := h i r h1.1 h1.2.1
  have e2 := h j r' h2.1 h2.2.1
  rw [h1.2.2] at e1
  rw [h2.2.2, e1] at e2
  cases e2; rfl
theorem at_set {l : List Rec} {t : Nat} (ht : t < l.length) {name : ByteArray} {r r' : Rec} {j : Nat} (h : At (l.set t r) name j r') : (j = t ∧ r' = r) ∨ (j ≠ t ∧ At l name j r') := by
  by_cases e : t = j
  · subst e
    have := h.1
    rw [List.getElem?_set_self ht] at this
    cases this
    exact .inl ⟨rfl, rfl⟩
  · refine .inr ⟨fun h => e h.symm, ?_, h.2⟩
    have := h.1
    rw [List.getElem?_set_ne e] at this
    exact this
theorem set_at {l : List Rec} {t : Nat} {name : ByteArray} {r r' : Rec} {j : Nat} (h : At l name j r') (e : t ≠ j) : At (l.set t r) name j r' := ⟨by rw [List.getElem?_set_ne e]; exact h.1, h.2⟩
theorem Uniq.drop {l : List Rec} (h : Uniq l) (t : Nat) : Uniq (l.set t Rec.free) := by
  intro name i j r r' h1 h2
  have f : ∀ {i r}, At (l.set t Rec.free) name i r → At l name i r := fun {i r} h => by
    rcases Nat.lt_or_ge t l.length with ht | ht
    · rcases at_set ht h with ⟨_, e⟩ | ⟨_, e⟩
      · have := h.2.1; rw [e] at this; simp [Rec.free] at this
      · exact e
    · rw [List.set_eq_of_length_le ht] at h; exact h
  exact h name i j r r' (f h1) (f h2)
def nextNum (l : List Rec) (name : ByteArray) : Nat := match best l name l.length with
  | none => 1
  | some k => (l.getD k Rec.free).num + 1
theorem top_set {l : List Rec} {t : Nat} (ht : t < l.length) (name : ByteArray) (data : List UInt8) : best (l.set t ⟨true, name, nextNum l name, data⟩) name (l.set t ⟨true, name, nextNum l name, data⟩).length = some t := by
  refine best_is ⟨⟨true, name, nextNum l name, data⟩, by rw [List.length_set]; exact ht, ⟨by rw [List.getElem?_set_self ht], rfl, rfl⟩, fun j r' hj ha => ?_⟩
  rcases at_set ht ha with ⟨rfl, rfl⟩ | ⟨hne, ha⟩
  · exact ⟨fun h => by omega, Nat.le_refl _⟩
  · cases hb : best l name l.length with
    | none => exact absurd ha ((best_top l name l.length).2 hb j r' ha.lt)
    | some k =>
      obtain ⟨rk, a, b, c⟩ := (best_top l name l.length).1 k hb
      have h1 := (c j r' ha.lt ha).2
      have h2 : nextNum l name = rk.num + 1 := by
        unfold nextNum; rw [hb]
        simp only
        rw [List.getD_eq_getElem?_getD, b.1]; rfl
      simp only [h2]
      exact ⟨fun _ => by omega, by omega⟩
theorem other_set {l : List Rec} {t : Nat} (ht : t < l.length) {r0 r : Rec} (h0 : l[t]? = some r0) (hf : r0.is = false) {name : ByteArray} (hn : r.is = true → r.name ≠ name) : best (l.set t r) name (l.set t r).length = best l name l.length := by
  have back : ∀ {j r'}, At (l.set t r) name j r' → At l name j r' := fun {j r'} h => by
    rcases at_set ht h with ⟨rfl, rfl⟩ | ⟨_, h'⟩
    · exact absurd h.2.2 (hn h.2.1)
    · exact h'
  have forth : ∀ {j r'}, At l name j r' → At (l.set t r) name j r' := fun {j r'} h => set_at h (fun e => by subst e; have := h.1; rw [h0] at this; cases this; exact absurd (h.2.1.symm.trans hf) (by simp))
  cases hb : best l name l.length with
  | none => exact best_no fun j r' ha => (best_top l name l.length).2 hb j r' (back ha).lt (back ha)
  | some k =>
    obtain ⟨rk, a, b, c⟩ := (best_top l name l.length).1 k hb
    exact best_is ⟨rk, by rw [List.length_set]; exact a, forth b, fun j r' hj ha => c j r' (back ha).lt (back ha)⟩
theorem look_top {l : List Rec} {t : Nat} (ht : t < l.length) (name : ByteArray) (data : List UInt8) : look (l.set t ⟨true, name, nextNum l name, data⟩) name = some data := by
  unfold look
  rw [top_set ht]
  simp [List.getD_eq_getElem?_getD, ht]
theorem look_other {l : List Rec} {t : Nat} (ht : t < l.length) {r0 r : Rec} (h0 : l[t]? = some r0) (hf : r0.is = false) {name : ByteArray} (hn : r.is = true → r.name ≠ name) : look (l.set t r) name = look l name := by
  unfold look
  rw [other_set ht h0 hf hn]
  cases hb : best l name l.length with
  | none => rfl
  | some k =>
    obtain ⟨rk, a, b, c⟩ := (best_top l name l.length).1 k hb
    have e : t ≠ k := fun e => by subst e; have := b.1; rw [h0] at this; cases this; exact absurd (b.2.1.symm.trans hf) (by simp)
    simp only [Option.map_some]
    rw [List.getD_eq_getElem?_getD, List.getD_eq_getElem?_getD, List.getElem?_set_ne e]
theorem Uniq.put {l : List Rec} (h : Uniq l) {t : Nat} (ht : t < l.length) {name : ByteArray} (hb : best l name l.length = none) (num : Nat) (data : List UInt8) : Uniq (l.set t ⟨true, name, num, data⟩) := by
  intro nm i j r r' h1 h2
  rcases at_set ht h1 with ⟨rfl, rfl⟩ | ⟨n1, g1⟩
  · rcases at_set ht h2 with ⟨rfl, rfl⟩ | ⟨n2, g2⟩
    · rfl
    · have := h1.2.2
      simp only at this
      rw [← this] at g2
      exact absurd g2 ((best_top l name l.length).2 hb j r' g2.lt)
  · rcases at_set ht h2 with ⟨rfl, rfl⟩ | ⟨n2, g2⟩
    · have := h2.2.2
      simp only at this
      rw [← this] at g1
      exact absurd g1 ((best_top l name l.length).2 hb i r g1.lt)
    · exact h nm i j r r' g1 g2
theorem Uniq.swap {l : List Rec} (h : Uniq l) {t k : Nat} (ht : t < l.length) {name : ByteArray} (hb : best l name l.length = some k) (num : Nat) (data : List UInt8) : Uniq ((l.set t ⟨true, name, num, data⟩).set k Rec.free) := by
  obtain ⟨rk, a, b, c⟩ := (best_top l name l.length).1 k hb
  have f : ∀ {nm i r}, At ((l.set t ⟨true, name, num, data⟩).set k Rec.free) nm i r → i ≠ k ∧ At (l.set t ⟨true, name, num, data⟩) nm i r := fun {nm i r} h => by
    rcases at_set (by rw [List.length_set]; exact a) h with ⟨_, e⟩ | h'
    · have := h.2.1; rw [e] at this; simp [Rec.free] at this
    · exact h'
  intro nm i j r r' h1 h2
  obtain ⟨n1, g1⟩ := f h1
  obtain ⟨n2, g2⟩ := f h2
  rcases at_set ht g1 with ⟨rfl, rfl⟩ | ⟨m1, q1⟩
  · rcases at_set ht g2 with ⟨rfl, rfl⟩ | ⟨m2, q2⟩
    · rfl
    · have := g1.2.2
      simp only at this
      rw [← this] at q2
      exact absurd (h name j k r' rk q2 b) n2
  · rcases at_set ht g2 with ⟨rfl, rfl⟩ | ⟨m2, q2⟩
    · have := g2.2.2
      simp only at this
      rw [← this] at q1
      exact absurd (h name i k r rk q1 b) n1
    · exact h nm i j r r' q1 q2
theorem thin_swap {l : List Rec} {t k : Nat} (ht : t < l.length) {r0 : Rec} (h0 : l[t]? = some r0) (hf : r0.is = false) {name : ByteArray} (hb : best l name l.length = some k) (data : List UInt8) :
    Thin (l.set t ⟨true, name, nextNum l name, data⟩) ((l.set t ⟨true, name, nextNum l name, data⟩).set k Rec.free) := by
  obtain ⟨rk, a, b, c⟩ := (best_top l name l.length).1 k hb
  have e : t ≠ k := fun e => by subst e; have := b.1; rw [h0] at this; cases this; exact absurd (b.2.1.symm.trans hf) (by simp)
  refine Thin.step (r := rk) (by rw [List.getElem?_set_ne e]; exact b.1) b.2.1 ?_
  rw [b.2.2, top_set ht]
  intro h
  cases h
  exact e rfl
end Sto
namespace Go.Mem
open Go Go.RowKit Gf Go.Proofs.YtehgnkdfnnebcaaGreatDoor
def Slot (D : DiskS) (room i : Nat) (r : Sto.Rec) : Prop :=
  (r = Sto.Rec.free ∧ D.f (i * (room + 1) * 32) ≠ 1) ∨ (r.is = true ∧ D.f (i * (room + 1) * 32) = 1 ∧ Sto.parse (slotB D room i room) = some r)
def Holds (D : DiskS) (room : Nat) (l : List Sto.Rec) : Prop := D.n = l.length * (room + 1) ∧ D.keep ≤ 32 ∧ ∀ i r, l[i]? = some r → Slot D room i r
theorem readR_slot {D : DiskS} {room i : Nat} {r : Sto.Rec} (hd : D.dead = false) (h : Slot D room i r) : readR D room i = (r, 0, false) := by
  unfold readR
  rw [if_neg (by simp [hd])]
  rcases h with ⟨rfl, h⟩ | ⟨_, h1, h2⟩
  · rw [if_pos h]
  · rw [if_neg (by simp [h1]), h2]
theorem readAll_holds {D : DiskS} {room : Nat} {l : List Sto.Rec} (hd : D.dead = false) (h : Holds D room l) : ∀ k, k ≤ l.length → readAll room D k = (l.take k, 0, D)
  | 0, _ => by simp [readAll]
  | k + 1, hk => by
    have ih := readAll_holds hd h k (by omega)
    obtain ⟨r, hr⟩ : ∃ r, l[k]? = some r := ⟨l[k], by simp⟩
    have hq := readR_slot hd (h.2.2 k r hr)
    rw [readAll, ih]
    simp only [ne_eq, not_true_eq_false, if_false, hq, Bool.false_eq_true, Prod.mk.injEq, and_true]
    rw [List.take_add_one, hr]; rfl
theorem sector_congr {D D' : DiskS} {i : Nat} (h : ∀ k, k < 32 → D'.f (i * 32 + k) = D.f (i * 32 + k)) : D'.sector i = D.sector i := by
  unfold DiskS.sector rowL
  exact List.map_congr_left fun k hk => h k (by simpa using hk)
theorem slotB_congr {D D' : DiskS} {room i : Nat} : ∀ (m : Nat), (∀ j, (i * (room + 1) + 1) * 32 ≤ j → j < (i * (room + 1) + 1 + m) * 32 → D'.f j = D.f j) → slotB D' room i m = slotB D room i m
  | 0, _ => rfl
  | m + 1, h => by
    rw [slotB, slotB, slotB_congr m (fun j h1 h2 => h j h1 (by omega)), sector_congr (fun k hk => h _ (by omega) (by omega))]
theorem Slot.congr {D D' : DiskS} {room i : Nat} {r : Sto.Rec} (h : Slot D room i r) (hf : ∀ j, i * (room + 1) * 32 ≤ j → j < (i * (room + 1) + (room + 1)) * 32 → D'.f j = D.f j) : Slot D' room i r := by
  have h0 : D'.f (i * (room + 1) * 32) = D.f (i * (room + 1) * 32) := hf _ (Nat.le_refl _) (by omega)
  have h1 := slotB_congr (D := D) (D' := D') (room := room) (i := i) room (fun j h1 h2 => hf j (by omega) (by omega))
  unfold Slot at h ⊢
  rw [h0, h1]; exact h
theorem Slot.free {D : DiskS} {room i : Nat} (h : D.f (i * (room + 1) * 32) ≠ 1) : Slot D room i Sto.Rec.free := .inl ⟨rfl, h⟩
theorem apart {i t m j x k : Nat} (hne : i ≠ t) (hx : x = t * m + k) (hk : k < m) (h1 : i * m * 32 ≤ j) (h2 : j < (i * m + m) * 32) : ¬ (x * 32 ≤ j ∧ j < x * 32 + 32) := by
  subst hx
  rcases Nat.lt_or_ge i t with h | h
  · have : (i + 1) * m ≤ t * m := Nat.mul_le_mul_right _ h
    rw [Nat.add_mul, Nat.one_mul] at this
    omega
  · have : (t + 1) * m ≤ i * m := Nat.mul_le_mul_right _ (by omega)
    rw [Nat.add_mul, Nat.one_mul] at this
    omega
theorem write_f {D : DiskS} (hk : D.keep ≤ 32) (x : Nat) (bs : List UInt8) {j : Nat} (h : ¬ (x * 32 ≤ j ∧ j < x * 32 + 32)) : (D.write x bs).f j = D.f j := by
  unfold DiskS.write
  split
  · simp only [DiskS.lay]
    rw [if_neg (by omega)]
  · simp only [DiskS.lay]
    rw [if_neg h]
theorem wr_f {D : DiskS} (hk : D.keep ≤ 32) (x : Nat) (bs : List UInt8) {j : Nat} (h : ¬ (x * 32 ≤ j ∧ j < x * 32 + 32)) : (D.wr (x : Int) bs).f j = D.f j := by
  unfold DiskS.wr
  split
  · exact write_f hk x bs h
  · rfl
theorem wr_keep (D : DiskS) (x : Int) (bs : List UInt8) : (D.wr x bs).keep = D.keep := by
  unfold DiskS.wr DiskS.write
  split
  · split <;> rfl
  · rfl
theorem wr_stops (D : DiskS) (x : Int) (bs : List UInt8) : (D.wr x bs).stops = D.stops := by
  unfold DiskS.wr DiskS.write
  split
  · split <;> rfl
  · rfl
theorem wr_cases {D : DiskS} (hd : D.dead = false) {x : Nat} (hx : x < D.n) {bs : List UInt8} (hl : bs.length ≤ 32) :
    (D.wres (x : Int) bs.length = 0 ∧ (D.wr (x : Int) bs).dead = false ∧ (∀ k, k < 32 → (D.wr (x : Int) bs).f (x * 32 + k) = bs.getD k 0)) ∨
    (D.stops = true ∧ D.cnt = 0 ∧ D.wres (x : Int) bs.length = 8 ∧ (D.wr (x : Int) bs).dead = true ∧ (∀ k, k < 32 → (D.wr (x : Int) bs).f (x * 32 + k) = if k < D.keep then bs.getD k 0 else D.f (x * 32 + k))) := by
  have hm := DiskS.may_yes hx
  have e1 : D.wr (x : Int) bs = D.write x bs := by
    unfold DiskS.wr
    rw [if_pos ⟨⟨hm, hl⟩, hd⟩]; rfl
  have e2 : D.wres (x : Int) bs.length = if D.stops = true ∧ D.cnt = 0 then 8 else 0 := by
    unfold DiskS.wres
    rw [if_pos ⟨hm, hl⟩, if_neg (by simp [hd])]
  by_cases hs : D.stops = true ∧ D.cnt = 0
  · have e3 : D.write x bs = { D with f := D.lay x bs D.keep, dead := true } := by unfold DiskS.write; rw [if_pos hs]
    refine .inr ⟨hs.1, hs.2, by rw [e2, if_pos hs], by rw [e1, e3], fun k hk => ?_⟩
    rw [e1, e3]
    show D.lay x bs D.keep (x * 32 + k) = _
    rw [lay_same]
  · have e3 : D.write x bs = { D with f := D.lay x bs 32, cnt := if D.stops then D.cnt - 1 else D.cnt, writes := D.writes + 1 } := by unfold DiskS.write; rw [if_neg hs]
    refine .inl ⟨by rw [e2, if_neg hs], by rw [e1, e3]; exact hd, fun k hk => ?_⟩
    rw [e1, e3]
    show D.lay x bs 32 (x * 32 + k) = _
    rw [lay_same, if_pos hk]
theorem get_set {α : Type} {l : List α} {t : Nat} {r r' : α} {i : Nat} (ht : t < l.length) (h : (l.set t r)[i]? = some r') : (i = t ∧ r' = r) ∨ (i ≠ t ∧ l[i]? = some r') := by
  by_cases e : t = i
  · subst e
    rw [List.getElem?_set_self ht] at h
    cases h
    exact .inl ⟨rfl, rfl⟩
  · rw [List.getElem?_set_ne e] at h
    exact .inr ⟨fun h => e h.symm, h⟩
def Off (D D' : DiskS) (room t : Nat) : Prop := D'.n = D.n ∧ D'.keep = D.keep ∧ ∀ i, i ≠ t → ∀ j, i * (room + 1) * 32 ≤ j → j < (i * (room + 1) + (room + 1)) * 32 → D'.f j = D.f j
theorem Off.refl (D : DiskS) (room t : Nat) : Off D D room t := ⟨rfl, rfl, fun _ _ _ _ _ => rfl⟩
theorem Off.trans {D D' D'' : DiskS} {room t : Nat} (h : Off D D' room t) (h' : Off D' D'' room t) : Off D D'' room t := ⟨h'.1.trans h.1, h'.2.1.trans h.2.1, fun i hi j h1 h2 => (h'.2.2 i hi j h1 h2).trans (h.2.2 i hi j h1 h2)⟩
theorem Off.wr {D : DiskS} {room t k x : Nat} (hk : D.keep ≤ 32) (hx : x = t * (room + 1) + k) (hkr : k < room + 1) (bs : List UInt8) : Off D (D.wr (x : Int) bs) room t :=
  ⟨DiskS.wr_n _ _ _, wr_keep _ _ _, fun _ hi _ h1 h2 => wr_f hk x bs (apart hi hx hkr h1 h2)⟩
theorem Off.holds {D D' : DiskS} {room t : Nat} {l : List Sto.Rec} (h : Off D D' room t) (hl : Holds D room l) (ht : t < l.length) {r : Sto.Rec} (hs : Slot D' room t r) : Holds D' room (l.set t r) := by
  refine ⟨by rw [List.length_set]; exact h.1.trans hl.1, h.2.1 ▸ hl.2.1, fun i r' hr => ?_⟩
  rcases get_set ht hr with ⟨rfl, rfl⟩ | ⟨hne, hr⟩
  · exact hs
  · exact (hl.2.2 i r' hr).congr (h.2.2 i hne)
theorem Holds.lt {D : DiskS} {room t k : Nat} {l : List Sto.Rec} (h : Holds D room l) (ht : t < l.length) (hk : k < room + 1) : t * (room + 1) + k < D.n := by
  have : (t + 1) * (room + 1) ≤ l.length * (room + 1) := Nat.mul_le_mul_right _ ht
  rw [Nat.add_mul, Nat.one_mul] at this
  rw [h.1]; omega
theorem free_law {s : St} {i : Nat} (hh : Holds s.disk s.room s.recs) (hd : s.disk.dead = false) (hs : s.dead = false) (hi : i < s.recs.length) :
    (s.freeE i = 0 ∧ (s.freeS i).dead = false ∧ (s.freeS i).disk.dead = false ∧ (s.freeS i).recs = s.recs.set i Sto.Rec.free ∧ Holds (s.freeS i).disk s.room (s.recs.set i Sto.Rec.free)) ∨
    (s.freeE i = 8 ∧ s.disk.stops = true ∧ s.disk.cnt = 0 ∧ (s.freeS i).dead = true ∧ (s.freeS i).disk.dead = true ∧ (s.freeS i).recs = s.recs ∧ (Holds (s.freeS i).disk s.room s.recs ∨ Holds (s.freeS i).disk s.room (s.recs.set i Sto.Rec.free))) := by
  obtain ⟨r, hr⟩ : ∃ r, s.recs[i]? = some r := ⟨s.recs[i], by simp⟩
  have hx := hh.lt hi (k := 0) (Nat.succ_pos _)
  have hoff := Off.wr (D := s.disk) (room := s.room) (t := i) (k := 0) hh.2.1 rfl (Nat.succ_pos _) [0]
  rcases wr_cases hd (bs := [0]) hx (by simp) with ⟨h1, h2, h3⟩ | ⟨h0, hc, h1, h2, h3⟩
  · simp only [Nat.add_zero] at h1 h2 h3 hoff
    have hE : s.freeE i = 0 := h1
    refine .inl ⟨hE, by simp [St.freeS, hE, hs], h2, by simp [St.freeS, hE], ?_⟩
    refine hoff.holds hh hi (Slot.free fun he => ?_)
    have := (h3 0 (by omega)).symm.trans he
    exact absurd this (by decide)
  · simp only [Nat.add_zero] at h1 h2 h3 hoff
    have hE : s.freeE i = 8 := h1
    refine .inr ⟨hE, h0, hc, by simp [St.freeS, hE], h2, by simp [St.freeS, hE], ?_⟩
    by_cases hk : 0 < s.disk.keep
    · refine .inr (hoff.holds hh hi (Slot.free fun he => ?_))
      have := h3 0 (by omega)
      rw [if_pos hk] at this
      exact absurd (this.symm.trans he) (by decide)
    · refine .inl ?_
      have he : ∀ k, k < 32 → (s.disk.wr ((i * (s.room + 1) : Nat) : Int) [0]).f (i * (s.room + 1) * 32 + k) = s.disk.f (i * (s.room + 1) * 32 + k) := fun k hk' => by rw [h3 k hk', if_neg (by omega)]
      refine ⟨hoff.1.trans hh.1, hoff.2.1 ▸ hh.2.1, fun j r' hr' => (hh.2.2 j r' hr').congr fun q h1 h2 => ?_⟩
      by_cases hq : i * (s.room + 1) * 32 ≤ q ∧ q < i * (s.room + 1) * 32 + 32
      · have := he (q - i * (s.room + 1) * 32) (by omega)
        rw [show i * (s.room + 1) * 32 + (q - i * (s.room + 1) * 32) = q from by omega] at this
        exact this
      · exact wr_f hh.2.1 _ _ hq
theorem chunks_law {room t : Nat} : ∀ (n : Nat) (s : St) (k : Nat) (b : List UInt8), s.room = room → s.disk.dead = false → s.dead = false → s.disk.keep ≤ 32 → b.length ≤ n * 32 → k + n ≤ room → t * (room + 1) + room < s.disk.n →
    ∃ e s', St.chunks (t * (room + 1)) n s k b = (e, s') ∧ s'.recs = s.recs ∧ s'.room = s.room ∧ Off s.disk s'.disk room t ∧ s'.disk.stops = s.disk.stops ∧ (∀ j, (j < (t * (room + 1) + 1 + k) * 32) → s'.disk.f j = s.disk.f j) ∧
      ((e = 0 ∧ s'.dead = false ∧ s'.disk.dead = false ∧ ∀ j, j < b.length → s'.disk.f ((t * (room + 1) + 1 + k) * 32 + j) = b.getD j 0) ∨ (e = 8 ∧ s'.dead = true ∧ s'.disk.dead = true ∧ s.disk.stops = true))
  | 0, s, k, b, h1, h2, h3, h4, h5, h6, h7 => ⟨0, s, rfl, rfl, rfl, Off.refl _ _ _, rfl, fun _ _ => rfl, .inl ⟨rfl, h3, h2, fun j hj => by omega⟩⟩
  | n + 1, s, k, b, h1, h2, h3, h4, h5, h6, h7 => by
    by_cases hb : b = []
    · subst hb
      exact ⟨0, s, by simp [St.chunks], rfl, rfl, Off.refl _ _ _, rfl, fun _ _ => rfl, .inl ⟨rfl, h3, h2, fun j hj => by simp at hj⟩⟩
    · have hx : t * (room + 1) + 1 + k < s.disk.n := by omega
      have hoff : Off s.disk (s.disk.wr ((t * (room + 1) + 1 + k : Nat) : Int) (b.take 32)) room t := Off.wr h4 (k := 1 + k) (by omega) (by omega) _
      have hlow : ∀ j, j < (t * (room + 1) + 1 + k) * 32 → (s.disk.wr ((t * (room + 1) + 1 + k : Nat) : Int) (b.take 32)).f j = s.disk.f j := fun j hj => wr_f h4 _ _ (by omega)
      rcases wr_cases h2 hx (bs := b.take 32) (by rw [List.length_take]; omega) with ⟨q1, q2, q3⟩ | ⟨q0, qc, q1, q2, q3⟩
      · have hE : s.writeE (t * (room + 1) + 1 + k) (b.take 32) = 0 := q1
        obtain ⟨e, s', i1, i2, i3, i4, i5, i6, i7⟩ := chunks_law n (s.writeS (t * (room + 1) + 1 + k) (b.take 32)) (k + 1) (b.drop 32) h1 q2 (by simp [St.writeS, hE, h3]) (Nat.le_trans (Nat.le_of_eq (wr_keep _ _ _)) h4) (by rw [List.length_drop]; omega) (by omega) (by rw [show (s.writeS (t * (room + 1) + 1 + k) (b.take 32)).disk.n = s.disk.n from DiskS.wr_n _ _ _]; exact h7)
        refine ⟨e, s', ?_, i2, i3, hoff.trans i4, i5.trans (wr_stops _ _ _), fun j hj => (i6 j (by omega)).trans (hlow j hj), ?_⟩
        · rw [St.chunks, if_neg hb, if_neg (by simp [hE])]
          exact i1
        · rcases i7 with ⟨j1, j2, j3, j4⟩ | ⟨j1, j2, j3, j4⟩
          · refine .inl ⟨j1, j2, j3, fun j hj => ?_⟩
            rcases Nat.lt_or_ge j 32 with hj32 | hj32
            · rw [i6 _ (by omega)]
              have := q3 j hj32
              rw [show (s.writeS (t * (room + 1) + 1 + k) (b.take 32)).disk = s.disk.wr ((t * (room + 1) + 1 + k : Nat) : Int) (b.take 32) from rfl, this]
              simp [List.getD_eq_getElem?_getD, hj32]
            · have := j4 (j - 32) (by rw [List.length_drop]; omega)
              rw [show (t * (room + 1) + 1 + (k + 1)) * 32 + (j - 32) = (t * (room + 1) + 1 + k) * 32 + j from by omega] at this
              rw [this]
              simp [List.getD_eq_getElem?_getD, List.getElem?_drop, show 32 + (j - 32) = j from by omega]
          · exact .inr ⟨j1, j2, j3, by rw [← j4]; exact (wr_stops _ _ _).symm⟩
      · have hE : s.writeE (t * (room + 1) + 1 + k) (b.take 32) = 8 := q1
        refine ⟨8, s.writeS (t * (room + 1) + 1 + k) (b.take 32), ?_, rfl, rfl, hoff, wr_stops _ _ _, hlow, .inr ⟨rfl, by simp [St.writeS, hE], q2, q0⟩⟩
        rw [St.chunks, if_neg hb, if_pos (by simp [hE]), hE]
end Go.Mem
end
section
namespace Go.Mem
open Go Go.RowKit Gf Go.Proofs.YtehgnkdfnnebcaaGreatDoor
theorem parse_text {name : ByteArray} {num : Nat} {data rest : List UInt8} (h1 : name.size ≤ 16384) (h2 : data.length ≤ 16384) (hn : num < 4294967296) : Sto.parse (Sto.text name num data ++ rest) = some ⟨true, name, num, data⟩ := by
  have e : Sto.text name num data ++ rest = Cod.net name.data.toList ++ (Cod.net (Cod.be 4 num) ++ (Cod.net data ++ rest)) := by simp [Sto.text, Cod.nets, List.append_assoc]
  have t : Sto.takeN 3 (Sto.text name num data ++ rest) = some ([name.data.toList, Cod.be 4 num, data], rest) := by
    rw [e]
    simp only [Sto.takeN, Cod.takeNet_net name.data.toList (Cod.net (Cod.be 4 num) ++ (Cod.net data ++ rest)) (by simpa using h1), Cod.takeNet_net (Cod.be 4 num) (Cod.net data ++ rest) (by rw [Cod.be_len]; omega), Cod.takeNet_net data rest h2, List.nil_append, List.cons_append]
  unfold Sto.parse
  rw [t]
  simp only [List.getD_cons_zero, List.getD_cons_succ, Cod.be_len, if_true, Cod.getN_be 4 num hn]
theorem slotB_get (D : DiskS) (room i : Nat) : ∀ (m j : Nat), j < m * 32 → (slotB D room i m)[j]? = some (D.f ((i * (room + 1) + 1) * 32 + j))
  | m + 1, j, h => by
    rw [slotB]
    rcases Nat.lt_or_ge j (m * 32) with hj | hj
    · rw [List.getElem?_append_left (by rw [slotB_len]; exact hj)]
      exact slotB_get D room i m j hj
    · rw [List.getElem?_append_right (by rw [slotB_len]; exact hj), slotB_len, sector_get _ _ _ (by omega)]
      congr 2
      omega
theorem slotB_text {D : DiskS} {room i : Nat} {b : List UInt8} (hl : b.length ≤ room * 32) (h : ∀ j, j < b.length → D.f ((i * (room + 1) + 1) * 32 + j) = b.getD j 0) : ∃ rest, slotB D room i room = b ++ rest := by
  refine ⟨(slotB D room i room).drop b.length, ?_⟩
  have : (slotB D room i room).take b.length = b := by
    apply List.ext_getElem?
    intro j
    rw [List.getElem?_take]
    split
    · rename_i hj
      rw [slotB_get _ _ _ _ _ (by omega), h j hj, List.getD_eq_getElem?_getD, List.getElem?_eq_getElem hj]; rfl
    · rename_i hj
      rw [List.getElem?_eq_none (by omega)]
  conv => lhs; rw [← List.take_append_drop b.length (slotB D room i room)]
  rw [this]
theorem fits_parts {room : Nat} {name : ByteArray} {data : List UInt8} (h : fitsB room name data = true) : name.size ≤ 16384 ∧ data.length ≤ 16384 := by
  unfold fitsB at h
  simp only [Bool.and_eq_true, decide_eq_true_eq] at h
  exact ⟨h.1, h.2.1⟩
def Bnd (m : Nat) (l : List Sto.Rec) : Prop := ∀ r ∈ l, r.num ≤ m
theorem Bnd.set {m : Nat} {l : List Sto.Rec} (h : Bnd m l) {m' : Nat} (hm : m ≤ m') (t : Nat) {r : Sto.Rec} (hr : r.num ≤ m') : Bnd m' (l.set t r) := fun r' h' => by
  rcases List.mem_or_eq_of_mem_set h' with h' | rfl
  · exact Nat.le_trans (h r' h') hm
  · exact hr
theorem Bnd.next {m : Nat} {l : List Sto.Rec} (h : Bnd m l) (name : ByteArray) : Sto.nextNum l name ≤ m + 1 := by
  unfold Sto.nextNum
  split
  · omega
  · rename_i k hb
    obtain ⟨r, _, b, _⟩ := (Sto.best_top l name l.length).1 k hb
    have := h r (List.mem_of_getElem? b.1)
    rw [List.getD_eq_getElem?_getD, b.1]
    simpa using this
theorem Bnd.thin {m : Nat} {l l' : List Sto.Rec} (h : Bnd m l) (ht : Sto.Thin l l') : Bnd m l' := fun r hr => by
  obtain ⟨i, hi⟩ := List.getElem?_of_mem hr
  rcases ht.2 i with h1 | ⟨_, _, _, _, h1⟩
  · exact h r (List.mem_of_getElem? (h1.symm.trans hi))
  · rw [h1] at hi; cases hi; exact Nat.zero_le _
theorem slot_lt {l : List Sto.Rec} (h : Sto.slot l ≠ l.length) : Sto.slot l < l.length := by have := slot_le l; omega
def putL (l : List Sto.Rec) (name : ByteArray) (data : List UInt8) : List Sto.Rec := l.set (Sto.slot l) ⟨true, name, Sto.nextNum l name, data⟩
def putF (l : List Sto.Rec) (name : ByteArray) (data : List UInt8) : List Sto.Rec := match Sto.best l name l.length with
  | none => putL l name data
  | some k => (putL l name data).set k Sto.Rec.free
theorem putL_thin {l : List Sto.Rec} (ht : Sto.slot l < l.length) (name : ByteArray) (data : List UInt8) : Sto.Thin (putL l name data) (putF l name data) := by
  have h0 : l[Sto.slot l]? = some l[Sto.slot l] := by simp [ht]
  unfold putF
  split
  · exact Sto.Thin.refl _
  · rename_i k hb
    exact Sto.thin_swap ht h0 (slot_not h0) hb data
theorem putL_look {l : List Sto.Rec} (ht : Sto.slot l < l.length) (name : ByteArray) (data : List UInt8) (nm : ByteArray) : Sto.look (putL l name data) nm = if nm = name then some data else Sto.look l nm := by
  have h0 : l[Sto.slot l]? = some l[Sto.slot l] := by simp [ht]
  by_cases e : nm = name
  · rw [if_pos e, e]
    exact Sto.look_top ht name data
  · rw [if_neg e]
    exact Sto.look_other ht h0 (slot_not h0) (fun _ h => e h.symm)
theorem putF_uniq {l : List Sto.Rec} (hu : Sto.Uniq l) (ht : Sto.slot l < l.length) (name : ByteArray) (data : List UInt8) : Sto.Uniq (putF l name data) := by
  unfold putF
  split
  · rename_i hb
    exact hu.put ht hb _ _
  · rename_i k hb
    exact hu.swap ht hb _ _
theorem putF_len (l : List Sto.Rec) (name : ByteArray) (data : List UInt8) : (putF l name data).length = l.length := by
  unfold putF putL
  split <;> simp
theorem put_law {s : St} {m : Nat} (hh : Holds s.disk s.room s.recs) (hd : s.disk.dead = false) (hs : s.dead = false) (hm : Bnd m s.recs) (hm2 : m < 4294967295) (name : ByteArray) (data : List UInt8) :
    (fitsB s.room name data = false ∧ putR s name data = (1, s)) ∨ (fitsB s.room name data = true ∧ Sto.slot s.recs = s.recs.length ∧ putR s name data = (3, s)) ∨
    (fitsB s.room name data = true ∧ Sto.slot s.recs < s.recs.length ∧ (putR s name data).2.room = s.room ∧ (putR s name data).2.disk.stops = s.disk.stops ∧ 
      (((putR s name data).1 = 0 ∧ (putR s name data).2.dead = false ∧ (putR s name data).2.disk.dead = false ∧ (putR s name data).2.recs = putF s.recs name data ∧ Holds (putR s name data).2.disk s.room (putF s.recs name data)) ∨
       ((putR s name data).1 = 8 ∧ s.disk.stops = true ∧ (putR s name data).2.dead = true ∧ (putR s name data).2.disk.dead = true ∧ ∃ l, Holds (putR s name data).2.disk s.room l ∧ (l = s.recs ∨ Sto.Thin (putL s.recs name data) l)))) := by
  by_cases hf : fitsB s.room name data = true
  rotate_left
  · have hf' : fitsB s.room name data = false := by simpa using hf
    exact .inl ⟨hf', by unfold putR; rw [if_neg (by simp [hs]), if_pos hf']⟩
  refine .inr ?_
  by_cases ht : Sto.slot s.recs = s.recs.length
  · exact .inl ⟨hf, ht, by unfold putR; rw [if_neg (by simp [hs]), if_neg (by simp [hf]), if_pos ht]⟩
  refine .inr ⟨hf, slot_lt ht, ?_⟩
  have htl := slot_lt ht
  have hr0 : s.recs[Sto.slot s.recs]? = some s.recs[Sto.slot s.recs] := by simp [htl]
  obtain ⟨hn1, hd1⟩ := fits_parts hf
  have hnum : s.num name = Sto.nextNum s.recs name := rfl
  have htx := fits_len hf (s.num name)
  have hpn : s.num name < 4294967296 := by have := hm.next name; rw [hnum]; omega
  obtain ⟨e, s1, c0, c1, c2, c3, c4, c5, c6⟩ := chunks_law (room := s.room) (t := Sto.slot s.recs) s.room s 0 (Sto.text name (s.num name) data) rfl hd hs hh.2.1 htx (by omega) (hh.lt htl (by omega))
  have hfree : s.recs[Sto.slot s.recs] = Sto.Rec.free ∧ s.disk.f (Sto.slot s.recs * (s.room + 1) * 32) ≠ 1 := by
    rcases hh.2.2 _ _ hr0 with h | h
    · exact h
    · have := slot_not hr0; rw [h.1] at this; cases this
  have hst1 : s1.disk.f (Sto.slot s.recs * (s.room + 1) * 32) = s.disk.f (Sto.slot s.recs * (s.room + 1) * 32) := c5 _ (by omega)
  have hold : Holds s1.disk s.room s.recs := by
    have := c3.holds hh htl (r := Sto.Rec.free) (Slot.free (by rw [hst1]; exact hfree.2))
    rwa [show s.recs.set (Sto.slot s.recs) Sto.Rec.free = s.recs from by rw [← hfree.1]; exact List.set_getElem_self htl] at this
  rcases c6 with ⟨rfl, g1, g2, g3⟩ | ⟨rfl, g1, g2, g3⟩
  rotate_left
  · have e1 : putR s name data = (8, s1) := by
      unfold putR
      rw [if_neg (by simp [hs]), if_neg (by simp [hf]), if_neg ht, c0]
      rfl
    rw [e1]
    exact ⟨c2, c4, .inr ⟨rfl, g3, g1, g2, s.recs, hold, .inl rfl⟩⟩
  have e1 : putR s name data = if s1.writeE (Sto.slot s.recs * (s.room + 1)) [1] ≠ 0 then (s1.writeE (Sto.slot s.recs * (s.room + 1)) [1], s1.writeS (Sto.slot s.recs * (s.room + 1)) [1]) else ((s1.writeS (Sto.slot s.recs * (s.room + 1)) [1]).laid (Sto.slot s.recs) ⟨true, name, s.num name, data⟩).done (Sto.best s.recs name s.recs.length) := by
    unfold putR
    rw [if_neg (by simp [hs]), if_neg (by simp [hf]), if_neg ht, c0]
    rfl
  have hx := hold.lt htl (k := 0) (Nat.succ_pos _)
  have hoff : Off s1.disk (s1.disk.wr ((Sto.slot s.recs * (s.room + 1) : Nat) : Int) [1]) s.room (Sto.slot s.recs) := Off.wr (k := 0) hold.2.1 rfl (Nat.succ_pos _) [1]
  have htext : ∀ D' : DiskS, (∀ j, (Sto.slot s.recs * (s.room + 1) + 1) * 32 ≤ j → j < (Sto.slot s.recs * (s.room + 1) + 1 + s.room) * 32 → D'.f j = s1.disk.f j) → D'.f (Sto.slot s.recs * (s.room + 1) * 32) = 1 → Slot D' s.room (Sto.slot s.recs) ⟨true, name, s.num name, data⟩ := fun D' h1 h2 => by
    refine .inr ⟨rfl, h2, ?_⟩
    obtain ⟨rest, hrest⟩ := slotB_text (D := D') (room := s.room) (i := Sto.slot s.recs) htx (fun j hj => (h1 _ (by omega) (by omega)).trans (g3 j hj))
    rw [hrest]
    exact parse_text hn1 hd1 hpn
  have hb1 : ∀ j, (Sto.slot s.recs * (s.room + 1) + 1) * 32 ≤ j → j < (Sto.slot s.recs * (s.room + 1) + 1 + s.room) * 32 → (s1.disk.wr ((Sto.slot s.recs * (s.room + 1) : Nat) : Int) [1]).f j = s1.disk.f j := fun j h1 h2 => wr_f hold.2.1 _ _ (by omega)
  rcases wr_cases g2 (bs := [1]) hx (by simp) with ⟨q1, q2, q3⟩ | ⟨q0, qc, q1, q2, q3⟩
  rotate_left
  · simp only [Nat.add_zero] at q1 q2 q3
    have hE : s1.writeE (Sto.slot s.recs * (s.room + 1)) [1] = 8 := q1
    rw [e1, hE, if_pos (by decide)]
    refine ⟨c2, (wr_stops _ _ _).trans c4, .inr ⟨rfl, c4 ▸ q0, by simp [St.writeS, hE], q2, ?_⟩⟩
    by_cases hk : 0 < s1.disk.keep
    · refine ⟨putL s.recs name data, hoff.holds hold htl (htext _ hb1 ?_), .inr (Sto.Thin.refl _)⟩
      have := q3 0 (by omega)
      rw [if_pos hk] at this
      exact this
    · refine ⟨s.recs, ?_, .inl rfl⟩
      have := hoff.holds hold htl (r := Sto.Rec.free) (Slot.free (fun h1 => by
        have h2 := q3 0 (by omega)
        rw [if_neg hk] at h2
        exact hfree.2 (hst1.symm.trans (h2.symm.trans h1))))
      rwa [show s.recs.set (Sto.slot s.recs) Sto.Rec.free = s.recs from by rw [← hfree.1]; exact List.set_getElem_self htl] at this
  simp only [Nat.add_zero] at q1 q2 q3
  have hE : s1.writeE (Sto.slot s.recs * (s.room + 1)) [1] = 0 := q1
  have hhp : Holds (s1.disk.wr ((Sto.slot s.recs * (s.room + 1) : Nat) : Int) [1]) s.room (putL s.recs name data) := hoff.holds hold htl (htext _ hb1 (q3 0 (by omega)))
  rw [e1, if_neg (by simp [hE])]
  cases hb : Sto.best s.recs name s.recs.length with
  | none =>
    have hF : putF s.recs name data = putL s.recs name data := by unfold putF; rw [hb]
    rw [hF]
    exact ⟨c2, (wr_stops _ _ _).trans c4, .inl ⟨rfl, by simp [St.done, St.laid, St.writeS, hE, g1], q2, by show s1.recs.set _ _ = _; rw [c1]; rfl, hhp⟩⟩
  | some k =>
    have hF : putF s.recs name data = (putL s.recs name data).set k Sto.Rec.free := by unfold putF; rw [hb]
    have hk : k < s.recs.length := by obtain ⟨_, h, _⟩ := (Sto.best_top _ _ _).1 k hb; exact h
    obtain ⟨s2, hs2⟩ : ∃ s2, s2 = (s1.writeS (Sto.slot s.recs * (s.room + 1)) [1]).laid (Sto.slot s.recs) ⟨true, name, s.num name, data⟩ := ⟨_, rfl⟩
    have r1 : s2.recs = putL s.recs name data := by rw [hs2]; show s1.recs.set _ _ = _; rw [c1]; rfl
    have r2 : s2.room = s.room := by rw [hs2]; exact c2
    have r3 : s2.disk = s1.disk.wr ((Sto.slot s.recs * (s.room + 1) : Nat) : Int) [1] := by rw [hs2]; rfl
    have r4 : s2.dead = false := by rw [hs2]; simp [St.laid, St.writeS, hE, g1]
    have hthin := putL_thin htl name data
    rw [hF] at hthin
    have r5 : (s2.freeS k).disk.stops = s.disk.stops := by
      show (s2.disk.wr _ _).stops = _
      rw [wr_stops, r3, wr_stops, c4]
    have HF := free_law (s := s2) (i := k) (by rw [r3, r2, r1]; exact hhp) (by rw [r3]; exact q2) r4 (by rw [r1]; unfold putL; rw [List.length_set]; exact hk)
    rw [r1, r2] at HF
    rw [← hs2]
    show (s2.freeS k).room = _ ∧ (s2.freeS k).disk.stops = _ ∧ ((s2.freeE k = 0 ∧ (s2.freeS k).dead = false ∧ (s2.freeS k).disk.dead = false ∧ (s2.freeS k).recs = _ ∧ Holds (s2.freeS k).disk _ _) ∨ (s2.freeE k = 8 ∧ _ ∧ (s2.freeS k).dead = true ∧ (s2.freeS k).disk.dead = true ∧ ∃ l, Holds (s2.freeS k).disk _ l ∧ _))
    refine ⟨r2, r5, ?_⟩
    rcases HF with ⟨a1, a2, a3, a4, a5⟩ | ⟨a1, a2, a2', a3, a4, a5, a6⟩
    · exact .inl ⟨a1, a2, a3, by rw [hF]; exact a4, by rw [hF]; exact a5⟩
    · refine .inr ⟨a1, ?_, a3, a4, ?_⟩
      · rw [r3, wr_stops, c4] at a2; exact a2
      · rcases a6 with a6 | a6
        · exact ⟨_, a6, .inr (Sto.Thin.refl _)⟩
        · exact ⟨_, a6, .inr hthin⟩
theorem keep_uniq {s : St} (hu : Sto.Uniq s.recs) : ∀ k, keepBest s k = (0, s)
  | 0 => rfl
  | k + 1 => by
    rw [keepBest, keep_uniq hu k]
    simp only [ne_eq, not_true_eq_false, if_false]
    cases hr : s.recs[k]? with
    | none => rfl
    | some r =>
      simp only
      by_cases hr1 : r.is = true
      · rw [if_neg (fun h => h.2 (hu.is ⟨hr, hr1, rfl⟩))]
      · rw [if_neg (fun h => hr1 h.1)]
theorem open_uniq {D : DiskS} {room : Nat} {l : List Sto.Rec} (hh : Holds D room l) (hd : D.dead = false) (hu : Sto.Uniq l) : openR D l.length room = (0, D, some ⟨room, l, false, D⟩) := by
  unfold openR
  rw [readAll_holds hd hh _ (Nat.le_refl _), List.take_length]
  simp only [ne_eq, not_true_eq_false, if_false]
  rw [keep_uniq (s := ⟨room, l, false, D⟩) hu]
  simp only [not_true_eq_false, if_false]
theorem open_dead {D : DiskS} {room slots : Nat} (hd : D.dead = true) (hs : 1 ≤ slots) : openR D slots room = (8, D, none) := by
  have h1 : readAll room D 1 = ([], 8, D) := by
    simp only [readAll, readR, hd, if_true]; rfl
  have h2 : readAll room D slots = ([], 8, D) := by
    have := readAll_err room D (k := 1) (by simp [h1]) (slots - 1)
    rw [show 1 + (slots - 1) = slots from by omega] at this
    rw [this, h1]
  unfold openR
  rw [h2]
  rfl
theorem Holds.start {D : DiskS} {room : Nat} {l : List Sto.Rec} (h : Holds D room l) : Holds D.start room l := by
  refine ⟨h.1, h.2.1, fun i r hr => (h.2.2 i r hr).congr fun _ _ _ => rfl⟩
theorem Holds.stop {D : DiskS} {room : Nat} {l : List Sto.Rec} (h : Holds D room l) (a k : Int) : Holds (D.stop a k) room l := by
  refine ⟨h.1, ?_, fun i r hr => (h.2.2 i r hr).congr fun _ _ _ => rfl⟩
  show (max 0 (min k 32)).toNat ≤ 32
  omega
theorem Holds.fresh (slots room : Nat) : Holds (.fresh (slots * (room + 1))) room (List.replicate slots Sto.Rec.free) := by
  refine ⟨by simp [DiskS.fresh], Nat.zero_le _, fun i r hr => ?_⟩
  have : r = Sto.Rec.free := by
    have := List.mem_of_getElem? hr
    exact (List.mem_replicate.1 this).2
  subst this
  exact Slot.free (by simp [DiskS.fresh])
theorem uniq_free (n : Nat) : Sto.Uniq (List.replicate n Sto.Rec.free) := fun nm i j r r' h1 _ => by
  have := (List.mem_replicate.1 (List.mem_of_getElem? h1.1)).2
  have h2 := h1.2.1
  rw [this] at h2
  simp [Sto.Rec.free] at h2
theorem bnd_free (n : Nat) : Bnd 0 (List.replicate n Sto.Rec.free) := fun r hr => by rw [(List.mem_replicate.1 hr).2]; exact Nat.le_refl _
theorem chunks_writes (at_ : Nat) : ∀ (n : Nat) (s : St) (k : Nat) (b : List UInt8), (St.chunks at_ n s k b).2.disk.writes ≤ s.disk.writes + n
  | 0, s, k, b => Nat.le_refl _
  | n + 1, s, k, b => by
    have h1 : (s.writeS (at_ + 1 + k) (b.take 32)).disk.writes ≤ s.disk.writes + 1 := DiskS.wr_writes _ _ _
    rw [St.chunks]
    split
    · show s.disk.writes ≤ _; omega
    · split
      · show (s.writeS (at_ + 1 + k) (b.take 32)).disk.writes ≤ _
        omega
      · have := chunks_writes at_ n (s.writeS (at_ + 1 + k) (b.take 32)) (k + 1) (b.drop 32)
        omega
theorem put_writes (s : St) (name : ByteArray) (data : List UInt8) : (putR s name data).2.disk.writes ≤ s.disk.writes + s.room + 2 := by
  unfold putR
  split
  · show s.disk.writes ≤ _; omega
  · split
    · show s.disk.writes ≤ _; omega
    · split
      · show s.disk.writes ≤ _; omega
      · have h0 := chunks_writes (Sto.slot s.recs * (s.room + 1)) s.room s 0 (Sto.text name (s.num name) data)
        obtain ⟨p, hp⟩ : ∃ p, p = St.chunks (Sto.slot s.recs * (s.room + 1)) s.room s 0 (Sto.text name (s.num name) data) := ⟨_, rfl⟩
        rw [← hp] at h0 ⊢
        obtain ⟨e, s1⟩ := p
        simp only at h0 ⊢
        have h1 : (s1.writeS (Sto.slot s.recs * (s.room + 1)) [1]).disk.writes ≤ s1.disk.writes + 1 := DiskS.wr_writes _ _ _
        split
        · show s1.disk.writes ≤ _; omega
        · split
          · show (s1.writeS (Sto.slot s.recs * (s.room + 1)) [1]).disk.writes ≤ _; omega
          · unfold St.done
            split
            · show (s1.writeS (Sto.slot s.recs * (s.room + 1)) [1]).disk.writes ≤ _; omega
            · rename_i k hk
              have h2 : (((s1.writeS (Sto.slot s.recs * (s.room + 1)) [1]).laid (Sto.slot s.recs) ⟨true, name, s.num name, data⟩).freeS k).disk.writes ≤ (s1.writeS (Sto.slot s.recs * (s.room + 1)) [1]).disk.writes + 1 := DiskS.wr_writes _ _ _
              show (((s1.writeS (Sto.slot s.recs * (s.room + 1)) [1]).laid (Sto.slot s.recs) ⟨true, name, s.num name, data⟩).freeS k).disk.writes ≤ _
              omega
theorem readAll_writes (room : Nat) (D : DiskS) : ∀ k, (readAll room D k).2.2.writes ≤ D.writes + k
  | 0 => Nat.le_refl _
  | k + 1 => by
    have ih := readAll_writes room D k
    have h1 : ∀ i bs, ((readAll room D k).2.2.wr i bs).writes ≤ (readAll room D k).2.2.writes + 1 := fun i bs => DiskS.wr_writes _ i bs
    rw [readAll]
    simp only
    split
    · omega
    · split
      · simp only
        split
        · exact Nat.le_trans (h1 _ _) (by omega)
        · omega
      · simp only
        split
        · exact Nat.le_trans (h1 _ _) (by omega)
        · omega
theorem keep_writes (s : St) : ∀ k, (keepBest s k).2.disk.writes ≤ s.disk.writes + k
  | 0 => Nat.le_refl _
  | k + 1 => by
    have ih := keep_writes s k
    rw [keepBest]
    split
    · omega
    · split
      · omega
      · split
        · exact Nat.le_trans (DiskS.wr_writes _ _ _) (by omega)
        · omega
theorem open_writes (D : DiskS) (slots room : Nat) : (openR D slots room).2.1.writes ≤ D.writes + slots + slots := by
  have h1 := readAll_writes room D slots
  have h2 := keep_writes ⟨room, (readAll room D slots).1, false, (readAll room D slots).2.2⟩ slots
  simp only at h2
  unfold openR
  simp only
  split
  · first | (simp only; omega) | omega
  · split
    · first | (simp only; omega) | omega
    · first | (simp only; omega) | omega
end Go.Mem
end
section
namespace Go.Mem
open Go Go.RowKit Gf
def OwnRecs (t8 tr : TypeId) (w : World) (base : Nat) (u : Value) (l : List Sto.Rec) : Prop :=
  ∃ vs : List Value, vs.length = l.length ∧ w.ownsRow base tr 4 u l.length (recsV l vs) ∧ ∀ (j : Nat) (r : Sto.Rec) (v : Value), l[j]? = some r → vs[j]? = some v → OwnX t8 w base v r.data
theorem OwnRecs.nil (t8 tr : TypeId) (w : World) (base : Nat) : OwnRecs t8 tr w base (.slice none 0 0) [] :=
  ⟨[], rfl, World.ownsRow_nil _ _ _ _, fun j r v h => by simp at h⟩
theorem OwnRecs.chg {S : Nat → Prop} {t8 tr : TypeId} {w w' : World} {base : Nat} {u : Value} {l : List Sto.Rec} (h : OwnRecs t8 tr w base u l) (hc : Chg S w w') (hs : ∀ g, base ≤ g → ¬ S g) : OwnRecs t8 tr w' base u l := by
  obtain ⟨vs, h1, h2, h3⟩ := h
  exact ⟨vs, h1, own_chg h2 hc (fun g hg => hs g (h2.lt g hg).1), fun j r v hr hv => (h3 j r v hr hv).chg hc (fun g hg => hs g ((h3 j r v hr hv).lt g hg).1)⟩
theorem ownX_grown {t8 tr : TypeId} {w w' : World} {b1 b2 s2 n2 : Nat} {v1 v2 : Value} {bs : List UInt8} {x2 : List Value} (h1 : OwnX t8 w b1 v1 bs) (h2 : w.ownsRow b2 tr s2 v2 n2 x2) (hne : t8 ≠ tr) (hg : w.grownBy w' v2.ownBlock) : OwnX t8 w' b1 v1 bs := by
  rcases h1 with h | ⟨g, cap, arr, fz, rfl, hb, hh, rest⟩
  · exact .inl h
  · refine .inr ⟨g, cap, arr, fz, rfl, hb, ?_, rest⟩
    rw [← hh]
    refine hg.block g (lt_of_block hh) ?_
    intro e
    rcases h2.2 with ⟨rfl, _⟩ | ⟨g2, cap2, cur2, rfl, _, hh2, _⟩
    · simp [Value.ownBlock] at e
    · simp only [Value.ownBlock, Option.some.injEq] at e
      subst e
      rw [hh] at hh2
      simp at hh2
      exact hne hh2.2.1
theorem OwnRecs.push {t8 tr : TypeId} {w w' : World} {base : Nat} {u u' v : Value} {l : List Sto.Rec} {r : Sto.Rec} {vs : List Value} (hne : t8 ≠ tr) (h1 : vs.length = l.length) (h2 : w.ownsRow base tr 4 u l.length (recsV l vs))
    (h3 : ∀ (j : Nat) (r : Sto.Rec) (v : Value), l[j]? = some r → vs[j]? = some v → OwnX t8 w base v r.data) (hr : OwnX t8 w base v r.data)
    (hown : w'.ownsRow base tr 4 u' (l.length + 1) (recsV l vs ++ [.bool r.is, .string r.name, .int .i64 r.num, v])) (hg : w.grownBy w' u.ownBlock) : OwnRecs t8 tr w' base u' (l ++ [r]) := by
  refine ⟨vs ++ [v], by simp [h1], by rw [recsV_snoc l vs r v h1, List.length_append]; exact hown, fun j r' v' hr' hv' => ?_⟩
  rcases Nat.lt_or_ge j l.length with hj | hj
  · rw [List.getElem?_append_left hj] at hr'
    rw [List.getElem?_append_left (by omega)] at hv'
    exact ownX_grown (h3 j r' v' hr' hv') h2 hne hg
  · rw [List.getElem?_append_right hj] at hr'
    rw [List.getElem?_append_right (by omega), h1] at hv'
    have hj0 : j - l.length = 0 := by
      rcases Nat.eq_zero_or_pos (j - l.length) with h | h
      · exact h
      · rw [List.getElem?_eq_none (by simp; omega)] at hr'; cases hr'
    rw [hj0] at hr' hv'
    simp at hr' hv'
    subst hr' hv'
    exact ownX_grown hr h2 hne hg
theorem push_at {t8 tr : TypeId} {w3 w' x1 : World} {base : Nat} {u u' v : Value} {l : List Sto.Rec} {r : Sto.Rec} {vs : List Value} (hne : t8 ≠ tr) (h1 : vs.length = l.length) (h2 : w3.ownsRow base tr 4 u l.length (recsV l vs))
    (h3 : ∀ (j : Nat) (r : Sto.Rec) (v : Value), l[j]? = some r → vs[j]? = some v → OwnX t8 w3 base v r.data) (hr : OwnX t8 w3 base v r.data) (hb : Below w3.heap.size w3 w')
    (hown : x1.ownsRow base tr 4 u' (l.length + 1) (recsV l vs ++ [.bool r.is, .string r.name, .int .i64 r.num, v])) (hg : w'.grownBy x1 u.ownBlock) : OwnRecs t8 tr x1 base u' (l ++ [r]) :=
  have hc : Chg (fun _ => False) w3 w' := Chg.of_below hb
  OwnRecs.push hne h1 (own_chg h2 hc (fun _ _ h => h)) (fun j r v hr hv => (h3 j r v hr hv).chg hc (fun _ _ h => h)) (hr.chg hc (fun _ _ h => h)) hown hg
theorem OwnX.data' {t8 : TypeId} {w : World} {base : Nat} {v : Value} {bs : List UInt8} {N : Nat → Prop} (h : OwnX t8 w base v bs) (hN : ∀ b arr fz, base ≤ b → w.heap[b]? = some (.cells arr t8 fz) → ¬ N b) : DataAt w N v bs := by
  refine ⟨h.bys, ?_⟩
  rcases h with ⟨rfl, rfl⟩ | ⟨g, cap, arr, fz, rfl, h2, h3, _⟩
  · exact ⟨none, 0, rfl, fun b h => by cases h⟩
  · exact ⟨_, cap, rfl, fun b hb => by cases hb; exact ⟨lt_of_block h3, hN _ _ _ h2 h3⟩⟩
theorem OwnRecs.recsAt {t8 tr : TypeId} {w : World} {base : Nat} {u : Value} {l : List Sto.Rec} (h : OwnRecs t8 tr w base u l) (hl : 0 < l.length) (hne : t8 ≠ tr) (N1 : Nat → Prop) (hN : ∀ b, N1 b → b < base) :
    ∃ lb cap, u = .slice (some ⟨lb, 0, none⟩) l.length cap ∧ l.length ≤ cap ∧ cap ≤ maxLen ∧ base ≤ lb ∧ RecsAt tr w (fun b => N1 b ∨ b = lb) lb l := by
  obtain ⟨vs, h1, h2, h3⟩ := h
  rcases h2.2 with ⟨_, h0⟩ | ⟨g, cap, cur, rfl, hb, hh, hn, hc, hs, ht⟩
  · omega
  · refine ⟨g, cap, rfl, hn, hc, hb, cur, vs, hh, by rw [hs]; exact Nat.mul_le_mul_right _ hn, h1, fun j hj => ?_, fun i r v hr hv => (h3 i r v hr hv).data' fun b arr fz hb1 hb2 hN' => ?_⟩
    · rw [← ht, List.getElem?_take, if_pos hj, Array.getElem?_toList]
    · rcases hN' with hN' | rfl
      · have := hN b hN'; omega
      · rw [hh] at hb2
        simp at hb2
        exact hne hb2.2.1.symm
end Go.Mem
namespace Go.Proofs.YtehgnkdfnnebcaaGreatDoor
open Go Go.RowKit Go.Mem Gf
attribute [local go_sem ↓] Go.wp_at_zero Go.wp_at_succ
theorem EKr : ElemK Tryz.prog 74 78 (.agg #[.bool false, .string ByteArray.empty, .int .i64 0, .slice none 0 0]) 4 56 := ⟨Tryz.underlying74, by kernel_rfl, rfl, by decide⟩
def OpenPost (N0 : Nat → Prop) (d L : Nat) (D : DiskS) (slots room : Nat) (w : World) (e : Ending) (w' : World) : Prop :=
  ∃ p, e = .returned (.tuple #[p, .int .i64 (openR D slots room).1]) ∧ Chg (fun b => b = d ∨ b = L) w w' ∧ IsDisk w' d L (openR D slots room).2.1 ∧
    (((openR D slots room).2.2 = none ∧ p = .pointer none) ∨ ∃ s lb, (openR D slots room).2.2 = some s ∧ p = .pointer (some ⟨w.heap.size, 0, none⟩) ∧ w.heap.size < lb ∧ IsStore w' (fun b => N0 b ∨ b = w.heap.size ∨ b = lb) w.heap.size lb d L s)
set_option maxRecDepth 20000 in
set_option maxHeartbeats 2000000 in
theorem open_calls (N0 : Nat → Prop) (d L : Nat) (D : DiskS) (slots room : Nat) (w : World) (hT : Tab w) (hN0 : ¬ N0 gT ∧ N0 d ∧ N0 L ∧ ∀ b, N0 b → b < w.heap.size) (hD : IsDisk w d L D) (h1 : decide ((1 : Int) ≤ slots ∧ (slots : Int) ≤ 1024) = true) (h2 : decide ((1 : Int) ≤ room ∧ (room : Int) ≤ 1024) = true) (h : D.n = slots * (room + 1)) (hfew : D.writes < 72057594037920000) :
    Calls Tryz.prog 38 #[.pointer (some ⟨d, 0, none⟩), .int .i64 slots, .int .i64 room] w (OpenPost N0 d L D slots room w) := by
  have hs := of_decide_eq_true h1
  have hr := of_decide_eq_true h2
  have hm : slots * (room + 1) ≤ 1024 * 1025 := Nat.mul_le_mul (by omega) (by omega)
  obtain ⟨m, hmm⟩ : ∃ m, m = slots * (room + 1) := ⟨_, rfl⟩
  have q1 : IntKind.i64.wrap ((room : Int) + 1) = (room : Int) + 1 := IntWalk.i64_in _ (by omega)
  have q2 : IntKind.i64.wrap ((slots : Int) * ((room : Int) + 1)) = (m : Int) := by
    have e2 : (slots : Int) * ((room : Int) + 1) = (m : Int) := by rw [hmm]; push_cast; rfl
    rw [e2]
    exact IntWalk.i64_in _ (by omega)
  rw [← hmm] at h
  have hne : (D.n : Int) = (m : Int) := by omega
  have HR := Lib.hid hr
  have HM := Lib.hid hmm
  clear hr hm hmm h
  go_enter Tryz.func38, Tryz.ntmps38
  go_wp2_with fail
  refine (in_calls slots true w h1).mono ?_
  rintro e w1 ⟨rfl, rfl⟩
  go_wp2_with fail
  refine (in_calls room true w h2).mono ?_
  rintro e w1 ⟨rfl, rfl⟩
  go_wp2_with fail
  refine (dlen_calls d L D w hD).mono ?_
  rintro e w1 ⟨rfl, rfl⟩
  have hN := Blk.new w (stV d room none 0 0 false) 76
  unfold stV at hN
  go_wp2_with fail
  have Hsl := Lib.hid hs
  have HDD := Lib.hid hD
  have HN := Lib.hid hN; have HT := Lib.hid hT; have HN0 := Lib.hid hN0
  clear hs hD hN q1 q2 h1 h2 hT hN0
  go_loopw [38] (fun v wr => ∃ i : Nat, i ≤ slots ∧ v = .int .i64 i ∧ (readAll room D i).2.1 = 0 ∧ (∃ la lc, Blk wr w.heap.size (stV d room la i lc false) 76 ∧ OwnRecs 5 78 wr (w.heap.size + 1) (.slice la i lc) (readAll room D i).1) ∧ IsDisk wr d L (readAll room D i).2.2 ∧ w.heap.size + 1 ≤ wr.heap.size ∧ (readAll room D i).2.2.writes ≤ D.writes + i ∧ (readAll room D i).2.2.n = D.n ∧ Chg (fun b => b = d ∨ b = L) w wr) (fun v _ => slots - (intOf v).toNat)
  case atStart => exact ⟨0, by omega, rfl, rfl, ⟨none, 0, HN.out, OwnRecs.nil _ _ _ _⟩, HDD.out.below ((Below.refl _ _).alloc (Nat.le_refl _) _), by simp, by simp [readAll], rfl, Chg.of_below ((Below.refl _ _).alloc (Nat.le_refl _) _)⟩
  case round => as_aux_lemma =>
    obtain ⟨i, hi, rfl, h0, ⟨la, lc, hB, hO⟩, hDi, hsz, hw, hn, hcw⟩ := hrel
    by_cases hlt : i < slots
    · have i0 : (0 : Int) ≤ (i : Int) := by omega
      have i1 : (i : Int) < (slots : Int) := by omega
      have hin : (i + 1) * (room + 1) ≤ (readAll room D i).2.2.n := by
        rw [hn, show D.n = slots * (room + 1) from by have := HM.out; omega]
        exact Nat.mul_le_mul_right _ hlt
      have hlD := HDD.out.lt
      have hr2 := HR.out
      have hs2 := Hsl.out
      have hlen := readAll_len room D i h0
      have HO := Lib.hid hO; have HCW := Lib.hid hcw; have HLEN := Lib.hid hlen
      have RC := read_calls w.heap.size d L room i lc i la false (readAll room D i).2.2 wr hB hDi ⟨by omega, by omega⟩ (Nat.le_refl _) (by omega) (by omega) (by omega) hin (by omega)
      obtain ⟨q, hq⟩ : ∃ q, q = readR (readAll room D i).2.2 room i := ⟨_, rfl⟩
      unfold ReadPost recV at RC
      rw [← hq] at RC
      obtain ⟨⟨qis, qname, qnum, qdata⟩, qe, qw⟩ := q
      simp only at RC
      have HQ := Lib.hid hq
      have Hw := Lib.hid hw; have Hn := Lib.hid hn; have Hlt := Lib.hid hlD
      clear hin hr2 hs2 hlD hq hO hcw hw hn hlen
      go_wp2_with fail
      refine RC.mono ?_
      clear RC
      rintro e w3 ⟨dv, rfl, hod, hB3, hD3, hc3⟩
      obtain ⟨da, dc, rfl⟩ := hod.eq_slice
      have HC := Lib.hid hc3
      have HB3 := Lib.hid hB3; have HD3 := Lib.hid hD3; have HO3 := Lib.hid hod
      by_cases he : qe = 0
      · as_aux_lemma =>
        subst he
        clear hc3 hB3 hD3 hod
        go_wp2_with fail
        have hs3 : wr.heap.size ≤ w3.heap.size := HC.out.size
        have hnext : readAll room D (i + 1) = ((readAll room D i).1 ++ [⟨qis, qname, qnum, qdata⟩], 0, if qw = true then (readAll room D i).2.2.wr ((i * (room + 1) : Nat) : Int) [0] else (readAll room D i).2.2) := by
          rw [readAll]
          simp only [h0, ne_eq, not_true_eq_false, if_false]
          rw [← HQ.out]
          rfl
        have HNX := Lib.hid hnext
        have hO3 := HO.out.chg HC.out (fun g hg hS => by
          have := Hlt.out
          unfold Tri at hS
          omega)
        obtain ⟨vs, hv1, hv2, hv3⟩ := hO3
        have HV1 := Lib.hid hv1; have HV2 := Lib.hid hv2; have HV3 := Lib.hid hv3
        obtain ⟨rb, hrb⟩ : ∃ b, b = w3.heap.size := ⟨_, rfl⟩
        obtain ⟨wa, hwa⟩ : ∃ wa, wa = w3.alloc (.cells #[.bool qis, .string qname, .int .i64 (qnum : Int), .slice da qdata.length dc] 78) := ⟨_, rfl⟩
        have hRB : Blk wa rb #[.bool qis, .string qname, .int .i64 (qnum : Int), .slice da qdata.length dc] 78 := by rw [hwa, hrb]; exact Blk.new _ _ _
        have hSB : Blk wa w.heap.size (stV d room la i lc false) 76 := by
          rw [hwa]
          have := HB3.out.alloc (.cells #[.bool qis, .string qname, .int .i64 (qnum : Int), .slice da qdata.length dc] 78)
          simpa using this
        have hba : Below w3.heap.size w3 wa := by rw [hwa]; exact (Below.refl _ _).alloc (Nat.le_refl _) _
        have hca : Chg (fun b => w.heap.size ≤ b) w3 wa := Chg.of_below hba
        have hvi : vs.length = i := hv1.trans HLEN.out
        have hva : wa.ownsRow (w.heap.size + 1) 78 4 (.slice la i lc) i (recsV (readAll room D i).1 vs) := by
          have := own_chg hv2 (Chg.of_below hba (S := fun _ => False)) (fun _ _ h => h)
          rw [HLEN.out] at this
          exact this
        have hlt : ∀ q, (Value.slice la i lc).ownBlock = some q → w.heap.size + 1 ≤ q ∧ q < w3.heap.size := fun q hq => hv2.lt q hq
        have hn1 : (Value.slice la i lc).ownBlock ≠ some w.heap.size := fun e => by have := hlt _ e; omega
        have hn2 : (Value.slice la i lc).ownBlock ≠ some rb := fun e => by have := hlt _ e; omega
        have hbase : w.heap.size + 1 ≤ wa.heap.size := by have := hba.size; omega
        have hod2 : OwnX 5 w3 (w.heap.size + 1) (.slice da qdata.length dc) qdata := HO3.out.mono hsz
        have Hlt2 := Lib.hid hlt; have Hn1 := Lib.hid hn1; have Hn2 := Lib.hid hn2; have HOD := Lib.hid hod2; have HRB := Lib.hid hRB; have HSB := Lib.hid hSB; have HBA := Lib.hid hba; have HCA := Lib.hid hca; have HVA := Lib.hid hva
        have s2 : wa.cell? ⟨w.heap.size, 2, none⟩ = some (.slice la i lc) := hSB.cell 2
        have s2' : ∀ o, (wa.alloc o).cell? ⟨w.heap.size, 2, none⟩ = some (.slice la i lc) := fun o => (hSB.alloc o).cell 2
        have r0 : wa.cell? ⟨rb, 0, none⟩ = some (.bool qis) := hRB.cell 0
        have r1 : wa.cell? ⟨rb, 1, none⟩ = some (.string qname) := hRB.cell 1
        have r2 : wa.cell? ⟨rb, 2, none⟩ = some (.int .i64 (qnum : Int)) := hRB.cell 2
        have r3 : wa.cell? ⟨rb, 3, none⟩ = some (.slice da qdata.length dc) := hRB.cell 3
        have hh0 : wa.cell? ⟨w.heap.size, 2, none⟩ = some (.slice la i lc) ∧ wa.cell? ⟨rb, 0, none⟩ = some (.bool qis) ∧ wa.cell? ⟨rb, 1, none⟩ = some (.string qname) ∧ wa.cell? ⟨rb, 2, none⟩ = some (.int .i64 (qnum : Int)) ∧ wa.cell? ⟨rb, 3, none⟩ = some (.slice da qdata.length dc) := ⟨s2, r0, r1, r2, r3⟩
        have hone : ∀ u ∈ [Value.bool qis, .string qname, .int .i64 (qnum : Int), .slice da qdata.length dc], u.oneCell' = true := by simp [Value.oneCell']
        have hi32 : i + 1 ≤ 4294967296 := by have := Hsl.out; omega
        rw [← hrb, ← hwa]
        clear hwa hRB hSB hba hca hva hlt hn1 hn2 hod2 hrb hv1 hv2 hv3 hnext
        go_region_law
          (first
            | (refine stepAppK EKr (by rfl) _ _ (by rfl) (base := w.heap.size + 1) (v := .slice la i lc) (n := i) (xs := recsV (readAll room D i).1 vs) [.bool qis, .string qname, .int .i64 (qnum : Int), .slice da qdata.length dc] (by rfl) (by rfl) (by rfl) (by exact new_news rfl) hone (by exact HVA.out.alloc _) hi32 (by decide) (by simp <;> omega) ?_
               intro v1 x1 hv1' hg1
               obtain ⟨a1, cp1, rfl, _⟩ := own_eq_slice hv1'
               have hB1 : Blk x1 w.heap.size (stV d room la i lc false) 76 := Blk.grown' (by exact HSB.out.alloc _) hg1 Hn1.out
               have hR1 : Blk x1 rb #[.bool qis, .string qname, .int .i64 (qnum : Int), .slice da qdata.length dc] 78 := Blk.grown' (by exact HRB.out.alloc _) hg1 Hn2.out
               have hh : x1.cell? ⟨w.heap.size, 2, none⟩ = some (.slice la i lc) ∧ x1.cell? ⟨rb, 0, none⟩ = some (.bool qis) ∧ x1.cell? ⟨rb, 1, none⟩ = some (.string qname) ∧ x1.cell? ⟨rb, 2, none⟩ = some (.int .i64 (qnum : Int)) ∧ x1.cell? ⟨rb, 3, none⟩ = some (.slice da qdata.length dc) := ⟨hB1.cell 2, hR1.cell 0, hR1.cell 1, hR1.cell 2, hR1.cell 3⟩
               have f2 : x1.frozen? ⟨w.heap.size, 2, none⟩ = false := hB1.free 2
               have hxc : Chg (fun b => w.heap.size ≤ b) w3 x1 := Chg.grown (HCA.out.trans (Chg.of_below ((Below.refl _ _).drew.alloc (by exact Nat.le_refl _) _))) hg1 (fun q hq => .inl (by have := Hlt2.out q hq; omega))
               have hpu : OwnRecs 5 78 x1 (w.heap.size + 1) (.slice a1 (i + 1) cp1) ((readAll room D i).1 ++ [⟨qis, qname, qnum, qdata⟩]) := push_at (by decide) HV1.out HV2.out HV3.out HOD.out (HBA.out.trans (((Below.refl _ _).drew.alloc (by exact Nat.le_refl _) _).mono HBA.out.size)) (by rw [HLEN.out]; exact hv1') hg1))
        all_goals
          go_wp2_with fail
          have hfin : Chg (fun b => w.heap.size ≤ b) w3 (x1.setCell ⟨w.heap.size, 2, none⟩ (.slice a1 (i + 1) cp1)) := hxc.set (a := ⟨w.heap.size, 2, none⟩) (Nat.le_refl _) _
          refine ⟨⟨i + 1, by omega, by go_num, by rw [HNX.out], ⟨a1, cp1, hB1.set 2 (.slice a1 (i + 1) cp1), by rw [HNX.out]; exact hpu.chg (S := fun b => b = w.heap.size) (chg1 _ _ _ _) (fun g hg e => by omega)⟩,
            by rw [HNX.out]; exact HD3.out.chg hfin (fun h => by have := Hlt.out; omega) (fun h => by have := Hlt.out; omega), by have := hfin.size; omega, by have := readAll_writes room D (i + 1); omega, readAll_n room D (i + 1),
            (HCW.out.mix HC.out (fun k hk => by unfold Tri at hk; omega)).mix hfin (fun k hk => .inr hk)⟩, by simp [intOf] <;> omega⟩
      · as_aux_lemma =>
        have HE := Lib.hid (show openR D slots room = (qe, if qw = true then (readAll room D i).2.2.wr ((i * (room + 1) : Nat) : Int) [0] else (readAll room D i).2.2, none) from by
          have hst : readAll room D (i + 1) = ((readAll room D i).1, qe, if qw = true then (readAll room D i).2.2.wr ((i * (room + 1) : Nat) : Int) [0] else (readAll room D i).2.2) := by
            rw [readAll]
            simp only [h0, ne_eq, not_true_eq_false, if_false]
            rw [← HQ.out]
            simp only [he, not_false_eq_true, if_true]
          have hall : readAll room D slots = readAll room D (i + 1) := by
            have := readAll_err room D (k := i + 1) (by rw [hst]; exact he) (slots - (i + 1))
            rw [← this]
            congr 1
            omega
          unfold openR
          rw [hall, hst]
          simp only [ne_eq, he, not_false_eq_true, if_true])
        have HSZ := Lib.hid hsz
        go_wp2_with fail
        go_ret2
        refine ⟨_, by rw [HE.out] <;> rfl, ?_, ?_, .inl ⟨by rw [HE.out], rfl⟩⟩
        · exact (HCW.out.mix HC.out (fun k hk => by unfold Tri at hk; have := HSZ.out; omega)).mix (T := fun _ => False) (Chg.of_below ((Below.refl _ _).alloc (Nat.le_refl _) _)) (fun _ h => h.elim)
        · rw [HE.out]
          exact HD3.out.below ((Below.refl _ _).alloc (Nat.le_refl _) _)
    · as_aux_lemma =>
      obtain rfl : slots = i := by omega
      have hlen := readAll_len room D slots h0
      have hsm := readAll_small room D slots
      have hwr := readAll_writes room D slots
      have hsl := Hsl.out; have hrm := HR.out; have hl3 := HDD.out.lt; have hn0 := HN0.out
      obtain ⟨l, hl⟩ : ∃ l, l = (readAll room D slots).1 := ⟨_, rfl⟩
      obtain ⟨D1, hD1⟩ : ∃ E, E = (readAll room D slots).2.2 := ⟨_, rfl⟩
      rw [← hl] at hO hlen hsm
      rw [← hD1] at hDi hw hn hwr
      have hpos : 0 < l.length := by omega
      obtain ⟨lb, cap, e, hc1, hc2, hlb, hRA⟩ := OwnRecs.recsAt (l := l) hO hpos (by decide) (fun b => N0 b ∨ b = w.heap.size) (fun b hb => by
        rcases hb with hb | hb
        · have := hn0.2.2.2 b hb; omega
        · omega)
      injection e with e1 e2 e3
      subst e1 e3
      have hgT : gT < w.heap.size := HT.out.lt
      have hmx : lc ≤ 9223372036854775807 := by unfold maxLen at hc2; omega
      have hI : IsStore wr (fun b => N0 b ∨ b = w.heap.size ∨ b = lb) w.heap.size lb d L ⟨room, l, false, D1⟩ :=
        { blk := ⟨lc, by rw [hlen]; exact hB, hc1, hmx⟩
          recs := hRA.mono fun b hb => .inl (by rcases hb with h | h | h; exact .inl (.inl h); exact .inl (.inr h); exact .inr h)
          disk := hDi
          tab := HT.out.chg hcw (fun h => by rcases h with h | h; exact hn0.1 (h ▸ hn0.2.1); exact hn0.1 (h ▸ hn0.2.2.1))
          ntab := fun h => by rcases h with h | h | h; exact hn0.1 h; omega; omega
          foot := fun b hb => by rcases hb with h | h | h | h; exact .inr (.inl h); exact .inr (.inr h); exact .inl (h ▸ hn0.2.1); exact .inl (h ▸ hn0.2.2.1)
          ne := ⟨by omega, by omega, by omega, by omega, by omega⟩
          ok := ⟨by show 1 ≤ room; omega, by show room ≤ 1024; omega, hpos, by show l.length ≤ 1024; omega, by show D1.n = l.length * (room + 1); rw [hn, hlen]; have := HM.out; omega, fun r hr => by have := hsm r hr; unfold Small at this; simp only; omega, by show D1.writes ≤ 72057594037927936; omega⟩
          old := fun b hb => by
            have := hcw.size
            rcases hb with h | h | h
            · have := hn0.2.2.2 b h; omega
            · rw [h]; omega
            · rw [h]; exact hRA.lt }
      have hw1 : D1.writes < 72057594037920000 + 1024 := by omega
      obtain ⟨s0, hs0⟩ : ∃ s0 : St, s0 = ⟨room, l, false, D1⟩ := ⟨_, rfl⟩
      rw [← hs0] at hI
      have hopen : openR D slots room = if (keepBest s0 slots).1 ≠ 0 then ((keepBest s0 slots).1, (keepBest s0 slots).2.disk, none) else (0, (keepBest s0 slots).2.disk, some (keepBest s0 slots).2) := by
        unfold openR
        simp only [h0, ne_eq, not_true_eq_false, if_false]
        rw [hs0, hl, hD1]
      have hsz0 : s0.recs.length = slots := by rw [hs0]; exact hlen
      have hsw : s0.disk.writes < 72057594037920000 + 1024 := by rw [hs0]; exact hw1
      have c2 : wr.cell? ⟨w.heap.size, 2, none⟩ = some (.slice (some ⟨lb, 0, none⟩) slots lc) := hB.cell 2
      have HI := Lib.hid hI; have HOP := Lib.hid hopen; have HSZ := Lib.hid hsz0; have HSW := Lib.hid hsw; have HCW := Lib.hid hcw; have HLB := Lib.hid (show w.heap.size < lb from hlb)
      have HL3 := Lib.hid hl3
      clear hI hopen hsz0 hsw hcw hlb hw1 hs0 hD1 hl hRA hc1 hc2 hmx hgT hO hB hDi hw hn hlen hsm hwr hsl hrm hl3 hn0 hpos h0 e2 hsz
      go_wp2_with fail
      go_loopw [66] (fun v wx => ∃ k : Nat, k ≤ slots ∧ v = .int .i64 k ∧ (keepBest s0 k).1 = 0 ∧ IsStore wx (fun b => N0 b ∨ b = w.heap.size ∨ b = lb) w.heap.size lb d L (keepBest s0 k).2 ∧ Chg (fun b => b = d ∨ b = L) w wx) (fun v _ => slots - (intOf v).toNat)
      case atStart => exact ⟨0, by omega, rfl, rfl, HI.out, HCW.out⟩
      case round => as_aux_lemma =>
        obtain ⟨k, hk, rfl, hk0, hIk, hck⟩ := hrel
        by_cases hlt : k < slots
        · have hkl : (keepBest s0 k).2.recs.length = slots := (keepBest_len s0 k).1.trans HSZ.out
          have hkw := keep_writes s0 k
          obtain ⟨s, hs⟩ : ∃ s, s = (keepBest s0 k).2 := ⟨_, rfl⟩
          rw [← hs] at hIk hkl hkw
          obtain ⟨r, hr⟩ : ∃ r, s.recs[k]? = some r := ⟨s.recs[k]'(by omega), by simp⟩
          obtain ⟨a, c, c3, c4, c5, c6, _, _⟩ := hIk.recs.at hr
          have i0 : (0 : Int) ≤ (k : Int) := by omega
          have i1 : (k : Int) < (slots : Int) := by omega
          have hk32 : k + 1 ≤ 4294967296 := by have := Hsl.out; omega
          have HIK := Lib.hid hIk; have HCK := Lib.hid hck; have HR' := Lib.hid hr; have HS := Lib.hid hs; have HKL := Lib.hid hkl; have HKW := Lib.hid hkw
          clear hIk hck hr hs hkl hkw
          go_wp2_with fail
          obtain ⟨wb, hwb⟩ : ∃ wb, wb = wr.alloc (.cells (recV r (.slice a r.data.length c)) 78) := ⟨_, rfl⟩
          obtain ⟨bx, hbxe⟩ : ∃ bx, bx = wr.heap.size := ⟨_, rfl⟩
          have hbx : Blk wb bx (recV r (.slice a r.data.length c)) 78 := by rw [hwb, hbxe]; exact Blk.new _ _ _
          have hbb : Below wr.heap.size wr wb := by rw [hwb]; exact (Below.refl _ _).alloc (Nat.le_refl _) _
          rw [show (wr.alloc (.cells #[.bool r.is, .string r.name, .int .i64 (r.num : Int), .slice a r.data.length c] 78)) = wb from hwb.symm, ← hbxe]
          have hIb := HIK.out.below hbb
          obtain ⟨cp, hBb, hcp1, hcp2⟩ := hIb.blk
          have hck2 : Chg (fun b => b = d ∨ b = L) w wb := HCK.out.mix (T := fun _ => False) (Chg.of_below hbb) (fun _ h => h.elim)
          have HIB := Lib.hid hIb; have HCB := Lib.hid hck2
          clear hwb hbb hck2 hbxe
          refine (best_calls _ w.heap.size lb d s.recs.length cp s.room s.dead s.recs r.name wb hBb hIb.recs rfl (by have := hIb.ok.len2; omega) hcp1 hcp2 (fun r' h' => by have := hIb.ok.each r' h'; have := hIb.ok.few; omega)).mono ?_
          clear hIb hBb hcp1 hcp2
          rintro e w4 ⟨rfl, hb4⟩
          have hI4 := HIB.out.below hb4
          have d0 : w4.cell? ⟨bx, 0, none⟩ = some (.bool r.is) := (hbx.kept hb4).cell 0
          have hc4 : Chg (fun b => b = d ∨ b = L) w w4 := HCB.out.mix (T := fun _ => False) (Chg.of_below hb4) (fun _ h => h.elim)
          obtain ⟨o, ho⟩ : ∃ o, o = Sto.best s.recs r.name s.recs.length := ⟨_, rfl⟩
          have hkb : keepBest s0 (k + 1) = if r.is = true ∧ o ≠ some k then (s.freeE k, s.freeS k) else keepBest s0 k := by
            rw [keepBest]
            simp only [hk0, ne_eq, not_true_eq_false, if_false]
            rw [← HS.out, HR'.out]
            simp only
            rw [← ho]
          rw [← ho]
          have HI4 := Lib.hid hI4; have HC4 := Lib.hid hc4; have HKB := Lib.hid hkb
          clear hI4 hc4 hkb hbx hb4 c3 c4 c5 c6 ho
          obtain ⟨z, hz⟩ : ∃ z, z = optI o := ⟨_, rfl⟩
          rw [← hz]
          by_cases his : r.is = true
          · by_cases hok : o = some k
            · as_aux_lemma =>
              have t1 : (z == (k : Int)) = true := by rw [hz, hok]; simp [optI]
              have hnx : keepBest s0 (k + 1) = keepBest s0 k := by rw [HKB.out, if_neg (fun h => h.2 hok)]
              have HNX := Lib.hid hnx
              rw [his] at d0
              clear his hok hz hnx
              go_wp2
              exact ⟨⟨k + 1, by omega, by go_num, by rw [HNX.out]; exact hk0, by rw [HNX.out, ← HS.out]; exact HI4.out, HC4.out⟩, by simp [intOf] <;> omega⟩
            · as_aux_lemma =>
              have t1 : (z == (k : Int)) = false := by
                rw [hz]
                cases o with
                | none => simp [optI] <;> omega
                | some q => simp [optI]; intro e; exact hok (by rw [Int.ofNat.inj e])
              have hnx : keepBest s0 (k + 1) = (s.freeE k, s.freeS k) := by rw [HKB.out, if_pos ⟨his, hok⟩]
              have HNX := Lib.hid hnx
              rw [his] at d0
              clear his hok hz hnx
              go_wp2_with fail
              refine (free_at _ w.heap.size lb d L k s w4 HI4.out (by have := HKL.out; omega) (by have := HKW.out; have := HSW.out; have := Hsl.out; omega)).mono ?_
              rintro e w5 ⟨rfl, hI5, hc5⟩
              have hc5' : Chg (fun b => b = d ∨ b = L) w w5 := HC4.out.mix hc5 (fun q hq => by have := HLB.out; unfold Foot at hq; omega)
              have HI5 := Lib.hid hI5; have HC5 := Lib.hid hc5'
              clear hI5 hc5 hc5'
              obtain ⟨fe, hfe⟩ : ∃ x, x = s.freeE k := ⟨_, rfl⟩
              rw [← hfe]
              have HFE := Lib.hid hfe
              clear hfe
              by_cases hE : fe = 0
              · subst hE
                go_wp2
                exact ⟨⟨k + 1, by omega, by go_num, by rw [HNX.out]; exact HFE.out.symm, by rw [HNX.out]; exact HI5.out, HC5.out⟩, by simp [intOf] <;> omega⟩
              · have HE := Lib.hid (show openR D slots room = (fe, (s.freeS k).disk, none) from by
                  have hall : keepBest s0 slots = (fe, s.freeS k) := by
                    have := keepBest_err s0 (k := k + 1) (by rw [HNX.out]; simpa [← HFE.out] using hE) (slots - (k + 1))
                    rw [show k + 1 + (slots - (k + 1)) = slots from by omega] at this
                    rw [this, HNX.out, HFE.out]
                  rw [HOP.out, hall, if_pos hE])
                go_wp2_with fail
                go_ret2
                exact ⟨_, by rw [HE.out] <;> rfl, HC5.out, by rw [HE.out]; exact HI5.out.disk, .inl ⟨by rw [HE.out], rfl⟩⟩
          · as_aux_lemma =>
            have his : r.is = false := by simpa using his
            have hnx : keepBest s0 (k + 1) = keepBest s0 k := by rw [HKB.out, if_neg (fun h => by rw [his] at h; exact absurd h.1 (by decide))]
            have HNX := Lib.hid hnx
            rw [his] at d0
            clear his hz hnx
            go_wp2
            exact ⟨⟨k + 1, by omega, by go_num, by rw [HNX.out]; exact hk0, by rw [HNX.out, ← HS.out]; exact HI4.out, HC4.out⟩, by simp [intOf] <;> omega⟩
        · as_aux_lemma =>
          obtain rfl : slots = k := by omega
          have HE := Lib.hid (show openR D slots room = (0, (keepBest s0 slots).2.disk, some (keepBest s0 slots).2) from by rw [HOP.out, hk0]; rfl)
          go_wp2
          go_ret2
          exact ⟨_, by rw [HE.out] <;> rfl, hck, by rw [HE.out]; exact hIk.disk, .inr ⟨_, lb, by rw [HE.out], rfl, HLB.out, hIk⟩⟩
end Go.Proofs.YtehgnkdfnnebcaaGreatDoor
end
