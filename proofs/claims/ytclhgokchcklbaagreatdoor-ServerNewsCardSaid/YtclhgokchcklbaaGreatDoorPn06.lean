/- Texts of this proof, packed: StoreLaw2, Strs, StoreLab, LeaMath, LeaMem, LongOp, LeaHeap, LeaUp, LeaDown, LeaPush, LeaPop, LeaRemove, SortMath. -/
import Derived.Test.YtclhgokchcklbaaGreatDoorPn05
import Derived.Test.YtclhgokchcklbaaGreatDoorPn00
import Derived.Sort.OwnSorted
import Derived.Lib.Hide
import Derived.Test.YtclhgokchcklbaaGreatDoorPn02
import Derived.Deep.MidRow
import Derived.Great.BuildSlice
import Derived.Deep.RegionHeld3
import Derived.Handy
section
namespace Go.Mem
open Go Go.RowKit Gf Go.Proofs.YtclhgokchcklbaaGreatDoor
theorem nDigits_3 {u : Nat} (h : u < 1000) : Lib.nDigits u ≤ 3 := by
  by_cases h1 : u < 10
  · rw [Lib.nDigits_small h1]; omega
  · rw [Lib.nDigits_big h1]
    by_cases h2 : u / 10 < 10
    · rw [Lib.nDigits_small h2]; omega
    · rw [Lib.nDigits_big h2, Lib.nDigits_small (by omega)]; omega
theorem text_le {name : ByteArray} {num : Nat} {data : List UInt8} (h1 : name.size < 1000) (h2 : data.length < 1000) : (Sto.text name num data).length ≤ name.size + data.length + 17 := by
  have e1 : name.data.toList.length = name.size := Array.length_toList
  have d1 := nDigits_3 (u := name.size) h1
  have d2 := nDigits_3 h2
  have d3 : Lib.nDigits 4 = 1 := Lib.nDigits_small (by decide)
  simp only [Sto.text, Cod.nets, List.length_append, Cod.net_len, Cod.be_len, List.length_nil, e1, d3]
  omega
theorem fits_of {room : Nat} {name : ByteArray} {data : List UInt8} (h1 : name.size < 1000) (h2 : data.length < 1000) (h : name.size + data.length + 17 ≤ room * 32) : fitsB room name data = true := by
  have := text_le (num := 0) h1 h2
  unfold fitsB
  simp only [Bool.and_eq_true, decide_eq_true_eq]
  omega
def liveN (l : List Sto.Rec) : Nat := l.countP fun r => r.is
theorem slot_of_live {l : List Sto.Rec} (h : liveN l < l.length) : Sto.slot l < l.length := by
  unfold Sto.slot
  rw [List.findIdx_lt_length]
  exact Classical.byContradiction fun hn => by
    have : liveN l = l.length := by
      unfold liveN
      rw [List.countP_eq_length]
      intro a ha
      exact Classical.byContradiction fun h' => hn ⟨a, ha, by simpa using h'⟩
    omega
theorem live_free (n : Nat) : liveN (List.replicate n Sto.Rec.free) = 0 := by
  unfold liveN
  rw [List.countP_eq_zero]
  intro a ha
  rw [(List.mem_replicate.1 ha).2]; simp [Sto.Rec.free]
theorem live_set {l : List Sto.Rec} {t : Nat} (ht : t < l.length) (r : Sto.Rec) : liveN (l.set t r) + (if (l[t]).is = true then 1 else 0) = liveN l + (if r.is = true then 1 else 0) := by
  unfold liveN
  rw [List.countP_set ht]
  have : (if (l[t]).is = true then 1 else 0) ≤ List.countP (fun r => r.is) l := by
    split
    · rename_i h
      exact List.countP_pos_iff.2 ⟨l[t], by simp, h⟩
    · exact Nat.zero_le _
  omega
theorem live_putL {l : List Sto.Rec} (ht : Sto.slot l < l.length) (name : ByteArray) (data : List UInt8) : liveN (putL l name data) = liveN l + 1 := by
  have h0 : l[Sto.slot l]? = some l[Sto.slot l] := by simp [ht]
  have := live_set ht ⟨true, name, Sto.nextNum l name, data⟩
  rw [slot_not h0] at this
  simpa [putL] using this
theorem live_putF {l : List Sto.Rec} (ht : Sto.slot l < l.length) (name : ByteArray) (data : List UInt8) : liveN (putF l name data) = liveN l + (if (Sto.best l name l.length).isSome = true then 0 else 1) := by
  have h0 : l[Sto.slot l]? = some l[Sto.slot l] := by simp [ht]
  have h1 := live_putL ht name data
  unfold putF
  cases hb : Sto.best l name l.length with
  | none => simpa using h1
  | some k =>
    obtain ⟨rk, a, b, c⟩ := (Sto.best_top l name l.length).1 k hb
    have e : Sto.slot l ≠ k := fun e => by have h2 := b.1; rw [← e, h0] at h2; cases h2; exact absurd (b.2.1.symm.trans (slot_not h0)) (by simp)
    have hk : (putL l name data)[k]? = some rk := by unfold putL; rw [List.getElem?_set_ne e]; exact b.1
    have hkl : k < (putL l name data).length := by unfold putL; rw [List.length_set]; exact a
    have h2 := live_set hkl Sto.Rec.free
    rw [List.getElem?_eq_getElem hkl] at hk
    rw [Option.some.inj hk, b.2.1] at h2
    rw [if_pos rfl, show Sto.Rec.free.is = false from rfl] at h2
    simp only [Bool.false_eq_true, if_false] at h2
    simp only [Option.isSome_some, if_true]
    omega
end Go.Mem
namespace Go.Mem
open Go Go.RowKit Gf
theorem namesK_free_len (l : List Sto.Rec) : ∀ k, k ≤ l.length → (namesK l k).length + freeK l k = k
  | 0, _ => rfl
  | k + 1, h => by
    have ih := namesK_free_len l k (by omega)
    have hr : l[k]? = some l[k] := by simp
    simp only [namesK, freeK, hr]
    cases hq : l[k].is with
    | true => simp only [if_true, List.length_append, List.length_singleton, Bool.true_eq_false, if_false]; omega
    | false => simp only [Bool.false_eq_true, if_false, if_true]; omega
theorem namesK_live (l : List Sto.Rec) : ∀ k, k ≤ l.length → (namesK l k).length = ((l.take k).countP fun r => r.is)
  | 0, _ => by simp [namesK]
  | k + 1, h => by
    have ih := namesK_live l k (by omega)
    have hr : l[k]? = some l[k] := by simp
    rw [List.take_add_one, hr, List.countP_append]
    simp only [namesK, hr]
    cases hq : l[k].is with
    | true => simp only [if_true, List.length_append, List.length_singleton, ih]; simp [hq]
    | false => simp only [Bool.false_eq_true, if_false, ih]; simp [hq]
theorem names_live (l : List Sto.Rec) : (namesK l l.length).length = liveN l := by
  rw [namesK_live l _ (Nat.le_refl _), List.take_length]; rfl
theorem free_live (l : List Sto.Rec) : liveN l + freeK l l.length = l.length := by
  have := namesK_free_len l l.length (Nat.le_refl _)
  rw [names_live] at this
  exact this
end Go.Mem
end
section
namespace Go.Proofs.YtclhgokchcklbaaGreatDoor
open Go Go.RowKit Go.Mem Gf Go.Sort
section
variable {w w' : World} {v : Value} {ss : List (List UInt8)}
end
attribute [local go_sem ↓] Go.wp_at_zero Go.wp_at_succ
end Go.Proofs.YtclhgokchcklbaaGreatDoor
end
section
namespace Go.Mem
open Go Go.RowKit Gf Go.Proofs.YtclhgokchcklbaaGreatDoor
theorem St.get_look {s : St} (h : s.dead = false) (name : ByteArray) : s.get name = Sto.look s.recs name := by
  unfold St.get Sto.look
  rw [if_neg (by simp [h])]
end Go.Mem
namespace Go.Proofs.YtclhgokchcklbaaGreatDoor
open Go Go.RowKit Go.Mem Gf
def DL (d L : Nat) (b : Nat) : Prop := b = d ∨ b = L
structure Lab (w0 w : World) (d L : Nat) (D : DiskS) : Prop where
  disk : IsDisk w d L D
  bel : Below w0.heap.size w0 w
  d1 : w0.heap.size ≤ d
  l1 : w0.heap.size ≤ L
  tab : Tab w
structure LabS (w0 w : World) (sb lb d L : Nat) (s : St) : Prop where
  st : IsStore w (fun b => DL d L b ∨ b = sb ∨ b = lb) sb lb d L s
  bel : Below w0.heap.size w0 w
  d1 : w0.heap.size ≤ d
  l1 : w0.heap.size ≤ L
  s1 : w0.heap.size ≤ sb
  b1 : w0.heap.size ≤ lb
theorem Chg.far {S : Nat → Prop} {B : Nat} {w0 w w' : World} (h : Below B w0 w) (hc : Chg S w w') (hB : B ≤ w.heap.size) (hs : ∀ k, S k → B ≤ k) : Below B w0 w' := h.trans (hc.below hB hs)
theorem Lab.chg {w0 w w' : World} {d L : Nat} {D D' : DiskS} (h : Lab w0 w d L D) (ht : gT ≠ d ∧ gT ≠ L) (hc : Chg (DL d L) w w') (hD : IsDisk w' d L D') : Lab w0 w' d L D' :=
  ⟨hD, Chg.far h.bel hc h.bel.size (fun k hk => by rcases hk with rfl | rfl; exact h.d1; exact h.l1), h.d1, h.l1, h.tab.chg hc (fun hk => by rcases hk with e | e; exact ht.1 e; exact ht.2 e)⟩
theorem lab_new (n : Nat) (w0 w : World) (hT0 : Tab w0) (hb : Below w0.heap.size w0 w) (h1 : 1 ≤ n) (h2 : n ≤ 4096) :
    Calls Tryz.prog 25 #[.int .i64 n] w fun e w' => ∃ d L, e = .returned (.tuple #[.pointer (some ⟨d, 0, none⟩), .int .i64 0]) ∧ Lab w0 w' d L (.fresh n) ∧ (gT ≠ d ∧ gT ≠ L) ∧ Below w.heap.size w w' := by
  refine (dnew_calls n w h1 h2).mono ?_
  rintro e w1 ⟨d, L, rfl, hD, hd1, hd2, hb1⟩
  have hs := hb.size
  have := hT0.lt
  exact ⟨d, L, rfl, ⟨hD, hb.trans (hb1.mono hs), by omega, by omega, (hT0.below hb).below hb1⟩, ⟨by omega, by omega⟩, hb1⟩
theorem lab_open {w0 w : World} {d L : Nat} {D : DiskS} (h : Lab w0 w d L D) (ht : gT ≠ d ∧ gT ≠ L) (slots room : Nat) (h1 : 1 ≤ slots ∧ slots ≤ 1024) (h2 : 1 ≤ room ∧ room ≤ 1024) (hn : D.n = slots * (room + 1)) (hfew : D.writes < 72057594037920000) :
    Calls Tryz.prog 26 #[.pointer (some ⟨d, 0, none⟩), .int .i64 slots, .int .i64 room] w fun e w' => ∃ p, e = .returned (.tuple #[p, .int .i64 (openR D slots room).1]) ∧ Chg (DL d L) w w' ∧ Lab w0 w' d L (openR D slots room).2.1 ∧
      (((openR D slots room).2.2 = none ∧ p = .pointer none) ∨ ∃ s sb lb, (openR D slots room).2.2 = some s ∧ p = .pointer (some ⟨sb, 0, none⟩) ∧ LabS w0 w' sb lb d L s) := by
  have hs := h.bel.size
  have hd := h.disk.lt
  refine (open_calls (DL d L) d L D slots room w h.tab ⟨fun hk => by rcases hk with e | e; exact ht.1 e; exact ht.2 e, .inl rfl, .inr rfl, fun b hb => by rcases hb with rfl | rfl; exact hd.1; exact hd.2⟩ h.disk (by simp; omega) (by simp; omega) hn hfew).mono ?_
  rintro e w1 ⟨p, rfl, hc, hD, hp⟩
  have hl := h.chg ht hc hD
  refine ⟨p, rfl, hc, hl, ?_⟩
  rcases hp with hp | ⟨s, lb, e1, e2, e3, e4⟩
  · exact .inl hp
  · exact .inr ⟨s, w.heap.size, lb, e1, e2, ⟨e4, hl.bel, h.d1, h.l1, hs, by omega⟩⟩
theorem lab_open_uniq {w0 w : World} {d L : Nat} {D : DiskS} (h : Lab w0 w d L D) (ht : gT ≠ d ∧ gT ≠ L) {slots room : Nat} {l : List Sto.Rec} (h1 : 1 ≤ slots ∧ slots ≤ 1024) (h2 : 1 ≤ room ∧ room ≤ 1024) (hfew : D.writes < 72057594037920000) (hl : l.length = slots) (hh : Holds D room l) (hd : D.dead = false) (hu : Sto.Uniq l) :
    Calls Tryz.prog 26 #[.pointer (some ⟨d, 0, none⟩), .int .i64 slots, .int .i64 room] w fun e w' => ∃ sb lb, e = .returned (.tuple #[.pointer (some ⟨sb, 0, none⟩), .int .i64 0]) ∧ LabS w0 w' sb lb d L ⟨room, l, false, D⟩ ∧ Chg (DL d L) w w' := by
  have ho := open_uniq hh hd hu
  rw [hl] at ho
  refine (lab_open h ht slots room h1 h2 (by rw [← hl]; exact hh.1) hfew).mono ?_
  rintro e w1 ⟨p, rfl, hc, _, hp⟩
  rw [ho] at hp ⊢
  rcases hp with ⟨h, _⟩ | ⟨s, sb, lb, e1, rfl, e3⟩
  · cases h
  · cases e1
    exact ⟨sb, lb, rfl, e3, hc⟩
end Go.Proofs.YtclhgokchcklbaaGreatDoor
namespace Go.Mem
open Go Go.RowKit Gf Go.Proofs.YtclhgokchcklbaaGreatDoor
theorem putF_look {l : List Sto.Rec} (ht : Sto.slot l < l.length) (name : ByteArray) (data : List UInt8) (nm : ByteArray) : Sto.look (putF l name data) nm = if nm = name then some data else Sto.look l nm := by
  rw [(putL_thin ht _ _).look, putL_look ht]
theorem putF_live {l : List Sto.Rec} (ht : Sto.slot l < l.length) (name : ByteArray) (data : List UInt8) : liveN (putF l name data) ≤ liveN l + 1 := by
  rw [live_putF ht]; split <;> omega
end Go.Mem
namespace Go.Proofs.YtclhgokchcklbaaGreatDoor
open Go Go.RowKit Go.Mem Gf
attribute [local go_sem ↓] Go.wp_at_zero Go.wp_at_succ
end Go.Proofs.YtclhgokchcklbaaGreatDoor
namespace Go.Mem
open Go Go.RowKit Gf Go.Proofs.YtclhgokchcklbaaGreatDoor
end Go.Mem
namespace Go.Proofs.YtclhgokchcklbaaGreatDoor
open Go Go.RowKit Go.Mem Gf
end Go.Proofs.YtclhgokchcklbaaGreatDoor
end
section
namespace Lea
structure Les where
  ix : List UInt8
  sec : List UInt8
  e : Int
def Rim (l : List Les) (c : Nat) : Prop := ∀ p x y, p = (c - 1) / 2 → l[p]? = some x → l[c]? = some y → x.e ≤ y.e
def HeapN (l : List Les) (n : Nat) : Prop := ∀ c, 0 < c → c < n → Rim l c
def Grand (l : List Les) (i n : Nat) : Prop := ∀ c x y, 0 < i → 0 < c → c < n → (c - 1) / 2 = i → l[(i - 1) / 2]? = some x → l[c]? = some y → x.e ≤ y.e
def swap (l : List Les) (i j : Nat) : List Les := match l[i]?, l[j]? with
  | some x, some y => (l.set i y).set j x
  | _, _ => l
theorem swap_len (l : List Les) (i j : Nat) : (swap l i j).length = l.length := by
  unfold swap
  split <;> simp
theorem swap_get {l : List Les} {i j : Nat} {x y : Les} (hx : l[i]? = some x) (hy : l[j]? = some y) (k : Nat) : (swap l i j)[k]? = if k = j then some x else if k = i then some y else l[k]? := by
  have hi : i < l.length := by
    rcases Nat.lt_or_ge i l.length with h | h
    · exact h
    · rw [List.getElem?_eq_none h] at hx; cases hx
  have hj : j < l.length := by
    rcases Nat.lt_or_ge j l.length with h | h
    · exact h
    · rw [List.getElem?_eq_none h] at hy; cases hy
  unfold swap
  rw [hx, hy]
  simp only [List.getElem?_set, List.length_set]
  by_cases h1 : k = j
  · subst h1; simp [hj]
  · have h1' : ¬ j = k := fun h => h1 h.symm
    by_cases h2 : k = i
    · subst h2; simp [h1, h1', hi]
    · have h2' : ¬ i = k := fun h => h2 h.symm
      simp [h1, h1', h2, h2']
theorem swap_perm (l : List Les) (i j : Nat) : (swap l i j).Perm l := by
  cases hx : l[i]? with
  | none => unfold swap; rw [hx]
  | some x =>
    cases hy : l[j]? with
    | none => unfold swap; rw [hx, hy]
    | some y =>
      have hi : i < l.length := by
        rcases Nat.lt_or_ge i l.length with h | h
        · exact h
        · rw [List.getElem?_eq_none h] at hx; cases hx
      have hj : j < l.length := by
        rcases Nat.lt_or_ge j l.length with h | h
        · exact h
        · rw [List.getElem?_eq_none h] at hy; cases hy
      unfold swap
      rw [hx, hy]
      simp only
      rw [List.getElem?_eq_getElem hi] at hx
      rw [List.getElem?_eq_getElem hj] at hy
      cases hx; cases hy
      exact List.set_set_perm hi hj
theorem down_step {l : List Les} {i0 i j n : Nat} {x y : Les} (hj : j = 2 * i + 1 ∨ j = 2 * i + 2) (hjn : j < n) (hx : l[i]? = some x) (hy : l[j]? = some y) (hlt : y.e < x.e)
    (hmin : ∀ c z, 0 < c → c < n → (c - 1) / 2 = i → l[c]? = some z → y.e ≤ z.e)
    (hinv : ∀ c, 0 < c → c < n → (c - 1) / 2 ≠ i → (c ≠ i0 ∨ i ≠ i0) → Rim l c) (hg : Grand l i n) :
    (∀ c, 0 < c → c < n → (c - 1) / 2 ≠ j → Rim (swap l i j) c) ∧ Grand (swap l i j) j n := by
  have hji : j ≠ i := by omega
  have hpj : (j - 1) / 2 = i := by omega
  have hget := swap_get hx hy
  refine ⟨fun c hc hcn hne p a b hp ha hb => ?_, fun c a b hj0 hc hcn hpc ha hb => ?_⟩
  · rw [hget] at ha hb
    by_cases h1 : c = j
    · -- the child itself
      subst h1
      rw [if_pos rfl] at hb
      have hpi : p = i := by omega
      rw [if_neg (by omega), if_pos hpi] at ha
      cases ha; cases hb
      omega
    · rw [if_neg h1] at hb
      by_cases h2 : c = i
      · subst h2
        rw [if_pos rfl] at hb
        cases hb
        rw [if_neg (by omega), if_neg (by omega)] at ha
        subst hp
        exact hg j a y hc (by omega) hjn hpj ha hy
      · rw [if_neg h2] at hb
        by_cases h3 : p = i
        · rw [if_neg (by omega), if_pos h3] at ha
          cases ha
          exact hmin c b hc hcn (by omega) hb
        · rw [if_neg (by omega), if_neg h3] at ha
          by_cases h4 : c = i0
          · by_cases h5 : i = i0
            · omega
            · exact hinv c hc hcn (by omega) (.inr h5) p a b hp ha hb
          · exact hinv c hc hcn (by omega) (.inl h4) p a b hp ha hb
  · rw [hget] at ha hb
    rw [hpj, if_neg (by omega), if_pos rfl] at ha
    cases ha
    rw [if_neg (by omega), if_neg (by omega)] at hb
    exact hinv c hc hcn (by omega) (by
      by_cases h : i = i0
      · left; omega
      · exact .inr h) j y b (by omega) hy hb
theorem down_end {l : List Les} {i0 i n : Nat} {x : Les} (hx : l[i]? = some x)
    (hmin : ∀ c z, 0 < c → c < n → (c - 1) / 2 = i → l[c]? = some z → x.e ≤ z.e)
    (hinv : ∀ c, 0 < c → c < n → (c - 1) / 2 ≠ i → (c ≠ i0 ∨ i ≠ i0) → Rim l c) : ∀ c, 0 < c → c < n → (c ≠ i0 ∨ i ≠ i0) → Rim l c := by
  intro c hc hcn h p a b hp ha hb
  by_cases hp2 : (c - 1) / 2 = i
  · subst hp
    rw [hp2, hx] at ha
    cases ha
    exact hmin c b hc hcn hp2 hb
  · exact hinv c hc hcn hp2 h p a b hp ha hb
theorem up_step {l : List Les} {i j n : Nat} {x y : Les} (hj : 0 < j) (hjn : j < n) (hi : i = (j - 1) / 2) (hx : l[i]? = some x) (hy : l[j]? = some y) (hlt : y.e < x.e)
    (hinv : ∀ c, 0 < c → c < n → c ≠ j → Rim l c) (hg : Grand l j n) :
    (∀ c, 0 < c → c < n → c ≠ i → Rim (swap l i j) c) ∧ Grand (swap l i j) i n := by
  have hji : i ≠ j := by omega
  have hget := swap_get hx hy
  refine ⟨fun c hc hcn hne p a b hp ha hb => ?_, fun c a b hi0 hc hcn hpc ha hb => ?_⟩
  · rw [hget] at ha hb
    rw [if_neg hne] at hb
    by_cases h1 : c = j
    · subst h1
      rw [if_pos rfl] at hb
      rw [if_neg (by omega), if_pos (by omega)] at ha
      cases ha; cases hb
      omega
    · rw [if_neg h1] at hb
      by_cases h2 : p = j
      · rw [if_pos h2] at ha
        cases ha
        exact hg c x b hj hc hcn (by omega) (by rw [← hi]; exact hx) hb
      · rw [if_neg h2] at ha
        by_cases h3 : p = i
        · rw [if_pos h3] at ha
          cases ha
          have := hinv c hc hcn h1 p x b hp (by rw [h3]; exact hx) hb
          omega
        · rw [if_neg h3] at ha
          exact hinv c hc hcn h1 p a b hp ha hb
  · rw [hget] at ha hb
    rw [if_neg (by omega), if_neg (by omega)] at ha
    have hix := hinv i hi0 (by omega) hji ((i - 1) / 2) a x rfl ha hx
    by_cases h1 : c = j
    · rw [if_pos h1] at hb
      cases hb
      exact hix
    · rw [if_neg h1, if_neg (by omega)] at hb
      have := hinv c hc hcn h1 i x b (by omega) hx hb
      omega
theorem up_end {l : List Les} {j n : Nat} (hinv : ∀ c, 0 < c → c < n → c ≠ j → Rim l c) (hj : ∀ x y, 0 < j → j < n → l[(j - 1) / 2]? = some x → l[j]? = some y → x.e ≤ y.e) : HeapN l n := by
  intro c hc hcn
  by_cases h : c = j
  · subst h
    intro p a b hp ha hb
    subst hp
    exact hj a b hc hcn ha hb
  · exact hinv c hc hcn h
theorem push_pre {l : List Les} (h : HeapN l l.length) (x : Les) : (∀ c, 0 < c → c < l.length + 1 → c ≠ l.length → Rim (l ++ [x]) c) ∧ Grand (l ++ [x]) l.length (l.length + 1) := by
  refine ⟨fun c hc hcn hne p a b hp ha hb => ?_, fun c a b h0 hc hcn hpc _ _ => by omega⟩
  rw [List.getElem?_append_left (by omega)] at ha hb
  exact h c hc (by omega) p a b hp ha hb
theorem fix_pre {l : List Les} {n k : Nat} (h : HeapN l n) (hk : k < n) (hn : n ≤ l.length) (y : Les) : (∀ c, 0 < c → c < n → (c - 1) / 2 ≠ k → c ≠ k → Rim (l.set k y) c) ∧ Grand (l.set k y) k n := by
  refine ⟨fun c hc hcn hpc hck p a b hp ha hb => ?_, fun c a b h0 hc hcn hpc ha hb => ?_⟩
  · rw [List.getElem?_set_ne (by omega)] at ha hb
    exact h c hc hcn p a b hp ha hb
  · rw [List.getElem?_set_ne (by omega)] at ha hb
    have hz : l[k]? = some (l[k]'(by omega)) := by simp
    have h1 := h k h0 hk _ _ _ rfl ha hz
    have h2 := h c hc hcn k _ _ hpc.symm hz hb
    omega
structure DInv (N n i0 : Nat) (l m : List Les) (k : Nat) : Prop where
  len : m.length = N
  perm : m.Perm l
  tail : ∀ q, n ≤ q → m[q]? = l[q]?
  rim : ∀ c, 0 < c → c < n → (c - 1) / 2 ≠ k → (c ≠ i0 ∨ k ≠ i0) → Rim m c
  grand : Grand m k n
  ge : i0 ≤ k
  same : k = i0 → m = l
theorem DInv.step {N n i0 : Nat} {l m : List Les} {k j : Nat} {x y : Les} (h : DInv N n i0 l m k) (hj : j = 2 * k + 1 ∨ j = 2 * k + 2) (hjn : j < n) (hx : m[k]? = some x) (hy : m[j]? = some y) (hlt : y.e < x.e)
    (hmin : ∀ c z, 0 < c → c < n → (c - 1) / 2 = k → m[c]? = some z → y.e ≤ z.e) : DInv N n i0 l (swap m k j) j := by
  have hs := down_step hj hjn hx hy hlt hmin h.rim h.grand
  refine ⟨by rw [swap_len]; exact h.len, (swap_perm m k j).trans h.perm, fun q hq => ?_, fun c h1 h2 h3 _ => hs.1 c h1 h2 h3, hs.2, by have := h.ge; omega, fun e => by have := h.ge; omega⟩
  rw [swap_get hx hy, if_neg (by omega), if_neg (by omega)]
  exact h.tail q hq
theorem DInv.stop {N n i0 : Nat} {l m : List Les} {k : Nat} {x : Les} (h : DInv N n i0 l m k) (hx : m[k]? = some x)
    (hmin : ∀ c z, 0 < c → c < n → (c - 1) / 2 = k → m[c]? = some z → x.e ≤ z.e) : (i0 < k → HeapN m n) ∧ (¬ i0 < k → m = l ∧ ∀ c, 0 < c → c < n → c ≠ i0 → Rim l c) := by
  have he := down_end hx hmin h.rim
  have hg := h.ge
  refine ⟨fun hk c h1 h2 => he c h1 h2 (.inr (by omega)), fun hk => ?_⟩
  have e := h.same (by omega)
  refine ⟨e, fun c h1 h2 h3 => ?_⟩
  rw [← e]
  exact he c h1 h2 (.inl h3)
theorem min_right {m : List Les} {k n : Nat} {a b : Les} (ha : m[2 * k + 1]? = some a) (hb : m[2 * k + 2]? = some b) (hlt : b.e < a.e) : ∀ c z, 0 < c → c < n → (c - 1) / 2 = k → m[c]? = some z → b.e ≤ z.e := by
  intro c z h0 hc hk hz
  rcases (show c = 2 * k + 1 ∨ c = 2 * k + 2 from by omega) with rfl | rfl
  · rw [ha] at hz; cases hz; omega
  · rw [hb] at hz; cases hz; omega
theorem min_left {m : List Les} {k n : Nat} {a : Les} (ha : m[2 * k + 1]? = some a) (hb : ∀ b, 2 * k + 2 < n → m[2 * k + 2]? = some b → ¬ b.e < a.e) : ∀ c z, 0 < c → c < n → (c - 1) / 2 = k → m[c]? = some z → a.e ≤ z.e := by
  intro c z h0 hc hk hz
  rcases (show c = 2 * k + 1 ∨ c = 2 * k + 2 from by omega) with rfl | rfl
  · rw [ha] at hz; cases hz; omega
  · have := hb z hc hz; omega
end Lea
end
section
namespace Lea
open Go Go.RowKit Go.Mem Gf
def cellsI (x : Les) : List Value := bV x.ix ++ bV x.sec ++ [.int .i64 x.e]
def Wf (x : Les) : Prop := x.ix.length = 16 ∧ x.sec.length = 16
theorem cellsI_len {x : Les} (h : Wf x) : (cellsI x).length = 33 := by
  unfold cellsI
  simp only [List.length_append, bV_len, h.1, h.2, List.length_singleton]
theorem cellsI_end {x : Les} (h : Wf x) : (cellsI x)[32]? = some (.int .i64 x.e) := by
  unfold cellsI
  rw [List.getElem?_append_right (by simp only [List.length_append, bV_len, h.1, h.2]; omega)]
  simp only [List.length_append, bV_len, h.1, h.2]
  rfl
def itemsV (l : List Les) : List Value := l.flatMap cellsI
theorem itemsV_len : ∀ (l : List Les), (∀ x ∈ l, Wf x) → (itemsV l).length = l.length * 33
  | [], _ => rfl
  | x :: l, h => by
    unfold itemsV
    rw [List.flatMap_cons, List.length_append, cellsI_len (h x (by simp))]
    have := itemsV_len l (fun y hy => h y (by simp [hy]))
    unfold itemsV at this
    rw [this, List.length_cons]; omega
theorem itemsV_get : ∀ (l : List Les), (∀ x ∈ l, Wf x) → ∀ (i : Nat) (x : Les), l[i]? = some x → ∀ c, c < 33 → (itemsV l)[i * 33 + c]? = (cellsI x)[c]?
  | y :: l, h, 0, x, hx, c, hc => by
    simp at hx
    subst hx
    unfold itemsV
    rw [List.flatMap_cons, Nat.zero_mul, Nat.zero_add, List.getElem?_append_left (by rw [cellsI_len (h y (by simp))]; exact hc)]
  | y :: l, h, i + 1, x, hx, c, hc => by
    have ih := itemsV_get l (fun z hz => h z (by simp [hz])) i x (by simpa using hx) c hc
    have hl := cellsI_len (h y (by simp))
    unfold itemsV at ih ⊢
    rw [List.flatMap_cons, List.getElem?_append_right (by rw [hl]; omega), hl, show (i + 1) * 33 + c - 33 = i * 33 + c from by omega]
    exact ih
theorem itemsV_app (l m : List Les) : itemsV (l ++ m) = itemsV l ++ itemsV m := by unfold itemsV; rw [List.flatMap_append]
theorem wf_set {l : List Les} (h : ∀ x ∈ l, Wf x) {i : Nat} {y : Les} (hy : Wf y) : ∀ x ∈ l.set i y, Wf x := fun x hx => by
  rcases List.mem_or_eq_of_mem_set hx with h' | rfl
  · exact h x h'
  · exact hy
theorem itemsV_set (l : List Les) (h : ∀ x ∈ l, Wf x) {i : Nat} (hi : i < l.length) {y : Les} (hy : Wf y) (j : Nat) (hj : j < l.length * 33) :
    (itemsV (l.set i y))[j]? = if i * 33 ≤ j ∧ j < i * 33 + 33 then (cellsI y)[j - i * 33]? else (itemsV l)[j]? := by
  have hq : j / 33 < l.length := by omega
  have hx : l[j / 33]? = some l[j / 33] := by simp
  have e : j = j / 33 * 33 + j % 33 := by omega
  have hr : j % 33 < 33 := by omega
  by_cases c : i * 33 ≤ j ∧ j < i * 33 + 33
  · have hji : j / 33 = i := by omega
    rw [if_pos c]
    have := itemsV_get _ (wf_set h hy) i y (by rw [List.getElem?_set_self hi]) (j % 33) hr
    rw [show j - i * 33 = j % 33 from by omega, ← this]
    congr 1
    omega
  · have hji : i ≠ j / 33 := by omega
    rw [if_neg c]
    have h1 := itemsV_get _ (wf_set h hy) (j / 33) _ (by rw [List.getElem?_set_ne hji]; exact hx) (j % 33) hr
    have h2 := itemsV_get l h (j / 33) _ hx (j % 33) hr
    rw [← e] at h1 h2
    rw [h1, h2]
theorem one_cellsI (x : Les) : ∀ v ∈ cellsI x, v.oneCell' = true := by
  intro v hv
  unfold cellsI at hv
  rcases List.mem_append.1 hv with hv | hv
  · rcases List.mem_append.1 hv with hv | hv
    · exact bV_one _ v hv
    · exact bV_one _ v hv
  · rw [List.mem_singleton.1 hv]; rfl
structure Row (ti : TypeId) (w : World) (base g n cap : Nat) (l : List Les) : Prop where
  own : w.ownsRow base ti 33 (.slice (some ⟨g, 0, none⟩) n cap) n (itemsV l)
  len : n = l.length
  wf : ∀ x ∈ l, Wf x
section
variable {ti : TypeId} {w : World} {base g n cap : Nat} {l : List Les}
theorem Row.block (h : Row ti w base g n cap l) : ∃ cur : Array Value, w.heap[g]? = some (.cells cur ti (0, 0)) ∧ base ≤ g ∧ n ≤ cap ∧ cap ≤ maxLen ∧ cur.size = cap * 33 ∧ ∀ j, j < n * 33 → cur[j]? = (itemsV l)[j]? := by
  rcases h.own.2 with ⟨e, _⟩ | ⟨g', cap', cur, e, hb, hh, h1, h2, h3, h4⟩
  · cases e
  · cases e
    refine ⟨cur, hh, hb, h1, h2, h3, fun j hj => ?_⟩
    rw [← h4, List.getElem?_take, if_pos hj, Array.getElem?_toList]
theorem Row.cell (h : Row ti w base g n cap l) {j : Nat} (hj : j < n * 33) : w.cell? ⟨g, j, none⟩ = (itemsV l)[j]? := by
  obtain ⟨cur, hh, _, _, _, _, hc⟩ := h.block
  rw [← hc j hj]
  have hB : Blk w g cur ti := hh
  exact hB.cell j
theorem Row.range (h : Row ti w base g n cap l) {i : Nat} {x : Les} (hx : l[i]? = some x) : w.rangeAt g (i * 33) (cellsI x) := fun j v hv => by
  have hi : i < l.length := by
    rcases Nat.lt_or_ge i l.length with h | h
    · exact h
    · rw [List.getElem?_eq_none h] at hx; cases hx
  have hj : j < 33 := by
    rcases Nat.lt_or_ge j 33 with h' | h'
    · exact h'
    · rw [List.getElem?_eq_none (by rw [cellsI_len (h.wf x (List.mem_of_getElem? hx))]; exact h')] at hv; cases hv
  rw [h.cell (by have := h.len; omega), itemsV_get l h.wf i x hx j hj]
  exact hv
theorem Row.ends (h : Row ti w base g n cap l) {i : Nat} {x : Les} (hx : l[i]? = some x) : w.cell? ⟨g, i * 33 + 32, none⟩ = some (.int .i64 x.e) :=
  h.range hx 32 _ (cellsI_end (h.wf x (List.mem_of_getElem? hx)))
theorem Row.there (h : Row ti w base g n cap l) {i : Nat} (hi : i < n) : w.there g (i * 33) 33 := fun j hj => by
  obtain ⟨cur, hh, _, h1, _, h3, _⟩ := h.block
  have hB : Blk w g cur ti := hh
  exact ⟨by rw [hB.cell]; simp; omega, hB.free _⟩
theorem Row.set (h : Row ti w base g n cap l) {i : Nat} (hi : i < n) {y : Les} (hy : Wf y) : Row ti (w.setCells g (i * 33) (cellsI y)) base g n cap (l.set i y) := by
  obtain ⟨cur, hh, hb, h1, h2, h3, h4⟩ := h.block
  have hB : Blk w g cur ti := hh
  obtain ⟨cur', b1, b2, b3⟩ := Blk.setCells (cellsI y) (i * 33) w cur hB
  have hll := h.len
  refine ⟨⟨?_, .inr ⟨g, cap, cur', rfl, hb, b1, h1, h2, by rw [b2, h3], ?_⟩⟩, by rw [List.length_set]; exact hll, wf_set h.wf hy⟩
  · rw [itemsV_len _ (wf_set h.wf hy), List.length_set, hll]
  · apply List.ext_getElem?
    intro j
    have hlen := itemsV_len _ (wf_set h.wf hy (i := i))
    rw [List.length_set] at hlen
    rw [List.getElem?_take, Array.getElem?_toList]
    by_cases hj : j < n * 33
    · have hm : n * 33 ≤ cap * 33 := Nat.mul_le_mul_right _ h1
      rw [if_pos hj, b3 j (by omega), itemsV_set l h.wf (by omega) hy j (by omega), cellsI_len hy, h4 j hj]
    · rw [if_neg hj, List.getElem?_eq_none (by omega)]
theorem Row.drew (h : Row ti w base g n cap l) : Row ti w.drew base g n cap l := ⟨h.own, h.len, h.wf⟩
end
end Lea
end
section
namespace Go.Mem
open Go
def ptrB : Value → Nat
  | .pointer (some ⟨b, _, _⟩) => b
  | _ => 0
def ptrO : Value → Nat
  | .pointer (some ⟨_, o, _⟩) => o
  | _ => 0
def ptrIs : Value → Bool
  | .pointer (some ⟨_, _, none⟩) => true
  | _ => false
def aggL : Value → List Value
  | .agg cs => cs.toList
  | _ => []
def aggIs : Value → Bool
  | .agg _ => true
  | _ => false
@[simp] theorem ptrB_eq (b o : Nat) : ptrB (.pointer (some ⟨b, o, none⟩)) = b := rfl
@[simp] theorem ptrO_eq (b o : Nat) : ptrO (.pointer (some ⟨b, o, none⟩)) = o := rfl
@[simp] theorem ptrIs_eq (b o : Nat) : ptrIs (.pointer (some ⟨b, o, none⟩)) = true := rfl
@[simp] theorem aggL_eq (cs : Array Value) : aggL (.agg cs) = cs.toList := rfl
@[simp] theorem aggIs_eq (cs : Array Value) : aggIs (.agg cs) = true := rfl
theorem ptr_of {v : Value} (h : ptrIs v = true) : v = .pointer (some ⟨ptrB v, ptrO v, none⟩) := by
  unfold ptrIs at h
  split at h
  · rfl
  · cases h
theorem agg_of {v : Value} (h : aggIs v = true) : v = .agg (aggL v).toArray := by
  unfold aggIs at h
  split at h
  · simp
  · cases h
def readK (n : Nat) (w : World) (g o : Nat) : List Value := (List.range n).map fun k => (w.cell? ⟨g, o + k, none⟩).getD undef
def HasK (n : Nat) (w : World) (g o : Nat) : Prop := w.there g o n
def AllK (n : Nat) (cs : List Value) : Prop := cs.length = n ∧ ∀ v ∈ cs, v.oneCell' = true
theorem readK_len (n : Nat) (w : World) (g o : Nat) : (readK n w g o).length = n := by simp [readK]
theorem readK_eq {n : Nat} {w : World} {g o : Nat} {cs : List Value} (h : w.rangeAt g o cs) (hl : cs.length = n) : readK n w g o = cs := by
  apply List.ext_getElem?
  intro k
  unfold readK
  rw [List.getElem?_map]
  rcases Nat.lt_or_ge k n with hk | hk
  · rw [List.getElem?_range hk]
    have hc : k < cs.length := by omega
    rw [Option.map_some, h k cs[k] (by simp), Option.getD_some, List.getElem?_eq_getElem hc]
  · rw [List.getElem?_eq_none (by simpa using hk), List.getElem?_eq_none (by omega)]; rfl
theorem readK_range {n : Nat} {w : World} {g o : Nat} (h : HasK n w g o) : w.rangeAt g o (readK n w g o) := fun j v hj => by
  have hjn : j < n := by
    rcases Nat.lt_or_ge j n with h | h
    · exact h
    · rw [List.getElem?_eq_none (by rw [readK_len]; exact h)] at hj; cases hj
  obtain ⟨u, hu⟩ := Option.isSome_iff_exists.1 (h j hjn).1
  rw [hu]
  unfold readK at hj
  rw [List.getElem?_map, List.getElem?_range hjn] at hj
  simp only [Option.map_some, hu, Option.getD_some] at hj
  exact hj
theorem wp_loadK {P : Program} {n : Nat} {t : TypeId} {d : TypeDesc} (hu : P.underlying t = some d) (hd : d.isRow = true) (hi : (P.info? t).map (·.size) = some n) (dst : Option Tmp) (x : Operand) (ty : TypeId) (pos : String) (af : Array Edge) (a : Act) (w : World) (K : Act → World → Prop) (Q : Exit → Act → World → Prop)
    (hp : ptrIs (a.eval x) = true) (ht : HasK n w (ptrB (a.eval x)) (ptrO (a.eval x))) :
    Oper.wp P ⟨dst, .load t x, ty, pos, af, none⟩ a w K Q = K (a.put dst (.agg (readK n w (ptrB (a.eval x)) (ptrO (a.eval x))).toArray)) w := by
  unfold Oper.wp execOp
  have e := ptr_of hp
  have hl := run_loadVar_mid (P := P) w (ptrB (a.eval x)) (ptrO (a.eval x)) t (readK n w (ptrB (a.eval x)) (ptrO (a.eval x))) d (readK_range ht) hu hd (by rw [hi, readK_len])
  simp only
  rw [e]
  simp only [ptrB_eq, ptrO_eq, Instr.loadAt, Instr.sureAddr, Sem.run_bind, Sem.run_pure, Result.andThen_ok, hl]
  rfl
theorem wp_storeK {P : Program} {n : Nat} {t : TypeId} (hi : (P.info? t).map (·.size) = some n) (dst : Option Tmp) (x y : Operand) (ty : TypeId) (pos : String) (af : Array Edge) (a : Act) (w : World) (K : Act → World → Prop) (Q : Exit → Act → World → Prop)
    (hp : ptrIs (a.eval x) = true) (hy : aggIs (a.eval y) = true) (ht : HasK n w (ptrB (a.eval x)) (ptrO (a.eval x))) (hc : AllK n (aggL (a.eval y))) :
    Oper.wp P ⟨dst, .store t x y, ty, pos, af, none⟩ a w K Q = K (a.put dst undef) (w.setCells (ptrB (a.eval x)) (ptrO (a.eval x)) (aggL (a.eval y))) := by
  unfold Oper.wp execOp
  have e := ptr_of hp
  have e2 := agg_of hy
  have hl := run_storeVar_mid (P := P) w (ptrB (a.eval x)) (ptrO (a.eval x)) t (aggL (a.eval y)).toArray (by simpa [hc.1] using (show w.there (ptrB (a.eval x)) (ptrO (a.eval x)) n from ht)) (by simpa [hc.1] using hi) (Array.all_eq_true_iff_forall_mem.2 fun v hv => hc.2 v (by simpa using hv))
  simp only
  rw [e, e2]
  simp only [ptrB_eq, ptrO_eq, aggL_eq, Instr.storeAt, Instr.sureAddr, Sem.run_bind, Sem.run_pure, Result.andThen_ok, hl]
  rfl
theorem agg_cells {v : Value} (h : aggIs v = true) : v.cells = (aggL v).toArray := by
  rw [agg_of h]; rfl
theorem wp_sliceK {P : Program} {n : Nat} {t e : TypeId} (hu : P.underlying t = some (.slice e)) (hi : (P.info? e).map (fun i => (i.size, (i.zero.map (·.cells.size)))) = some (n, some n)) (hn : 0 < n) (hn2 : n ≤ 1000)
    (dst : Option Tmp) (x : Operand) (ty : TypeId) (pos : String) (af : Array Edge) (a : Act) (w : World) (K : Act → World → Prop) (Q : Exit → Act → World → Prop)
    (hy : aggIs (a.eval x) = true) (hc : AllK n (aggL (a.eval x))) :
    Oper.wp P ⟨dst, .buildSlice t 1 #[(0, x)], ty, pos, af, none⟩ a w K Q = K (a.put dst (.slice (some ⟨w.heap.size, 0, none⟩) 1 1)) (w.alloc (.cells (aggL (a.eval x)).toArray e)) := by
  cases hie : P.info? e with
  | none => rw [hie] at hi; cases hi
  | some ie =>
    rw [hie] at hi
    simp only [Option.map_some, Option.some.injEq, Prod.mk.injEq] at hi
    obtain ⟨h1, h2⟩ := hi
    cases hz : ie.zero with
    | none => rw [hz] at h2; cases h2
    | some z =>
      have hcs := agg_cells hy
      have hsz : (a.eval x).cells.size = n := by rw [hcs]; simpa using hc.1
      have hf := Great.fill_whole (s := n) hn [a.eval x] ((Array.range (1 * n)).map (z.cells[· % z.cells.size]!)) (fun v hv => by rw [List.mem_singleton.1 hv]; exact hsz) (by simp)
      unfold Oper.wp execOp
      have hr := run_buildSlice (P := P) w t e 1 #[(0, a.eval x)] (([a.eval x].flatMap fun v => v.cells.toList).toArray) ie z hu hie hz (by rw [h1]; omega) (by rw [h1]; omega) (by rw [h1]; exact hf)
      simp only [List.map_toArray, List.map_cons, List.map_nil, Sem.run_bind, hr, Result.andThen_ok]
      simp only [List.flatMap_cons, List.flatMap_nil, List.append_nil, hcs]
      rfl
theorem fold_two (u v : Array Value) (z : Array Value) (hz : z.size = u.size + v.size) :
    v.zipIdx.foldl (fun cs (x : Value × Nat) => cs.setIfInBounds (u.size + x.2) x.1) (u.zipIdx.foldl (fun cs (x : Value × Nat) => cs.setIfInBounds (0 + x.2) x.1) z) = u ++ v := by
  have e1 := Great.foldl_set 0 u.toList 0 z
  obtain ⟨r, hr⟩ : ∃ r, r = (u.toList.zipIdx 0).foldl (fun cs (x : Value × Nat) => cs.setIfInBounds (0 + x.2) x.1) z := ⟨_, rfl⟩
  have ea : ∀ (q : Array Value) (o : Nat) (c : Array Value), q.zipIdx.foldl (fun cs (x : Value × Nat) => cs.setIfInBounds (o + x.2) x.1) c = (q.toList.zipIdx 0).foldl (fun cs (x : Value × Nat) => cs.setIfInBounds (o + x.2) x.1) c := fun q o c => by
    rw [← Array.foldl_toList, Array.toList_zipIdx]
  rw [ea, ea, ← hr]
  rw [← hr] at e1
  have e2 := Great.foldl_set u.size v.toList 0 r
  apply Array.ext_getElem?
  intro k
  rw [e2.2, e1.2, e1.1]
  simp only [Array.length_toList, Nat.add_zero, Nat.zero_add, Array.getElem?_toList, Nat.zero_le, true_and, Nat.sub_zero]
  rw [Array.getElem?_append]
  by_cases h1 : k < u.size
  · rw [if_neg (by omega), if_pos ⟨h1, by omega⟩, if_pos h1]
  · rw [if_neg h1]
    by_cases h2 : k < u.size + v.size
    · rw [if_pos ⟨by omega, by omega, by omega⟩]
    · rw [if_neg (by omega), if_neg (by omega), Array.getElem?_eq_none (by omega), Array.getElem?_eq_none (by omega)]
theorem built_two {P : Program} {t : TypeId} {fields : Array Field} {n m : Nat} {u v : Value} (hu : P.underlying t = some (.struct fields)) (hi : ((P.info? t).bind (·.zero)).map (·.cells.size) = some (n + m))
    (hp : fields.toList.mapM (fun f => (P.info? f.type).map fun i => (f.offset, i.size)) = some [(0, n), (n, m)]) (h1 : u.cells.size = n) (h2 : v.cells.size = m) : P.built t [(0, u), (1, v)] = some (u.cells ++ v.cells) := by
  unfold Program.built
  cases hit : P.info? t with
  | none => rw [hit] at hi; cases hi
  | some it =>
    rw [hit] at hi
    simp only [Option.bind_some] at hi
    cases hz : it.zero with
    | none => rw [hz] at hi; cases hi
    | some z =>
      rw [hz] at hi
      simp only [Option.map_some, Option.some.injEq] at hi
      simp only [hu, hp, hz]
      have e1 := (Great.foldl_set 0 u.cells.toList 0 z.cells).1
      have ea : ∀ (q : Array Value) (o : Nat) (c : Array Value), q.zipIdx.foldl (fun cs (x : Value × Nat) => cs.setIfInBounds (o + x.2) x.1) c = (q.toList.zipIdx 0).foldl (fun cs (x : Value × Nat) => cs.setIfInBounds (o + x.2) x.1) c := fun q o c => by
        rw [← Array.foldl_toList, Array.toList_zipIdx]
      rw [← ea] at e1
      have hf := fold_two u.cells v.cells z.cells (by omega)
      rw [h1] at hf
      simp only [Instr.fill, List.getElem?_toArray, List.getElem?_cons_zero, List.getElem?_cons_succ, h1, h2, ne_eq, not_true_eq_false, decide_false, Bool.false_or, e1]
      rw [if_neg (by simp; omega), if_neg (by simp; omega), hf]
theorem wp_buildTwo {P : Program} {t : TypeId} {fields : Array Field} {n m : Nat} (hu : P.underlying t = some (.struct fields)) (hi : ((P.info? t).bind (·.zero)).map (·.cells.size) = some (n + m))
    (hp : fields.toList.mapM (fun f => (P.info? f.type).map fun i => (f.offset, i.size)) = some [(0, n), (n, m)])
    (dst : Option Tmp) (x y : Operand) (ty : TypeId) (pos : String) (af : Array Edge) (a : Act) (w : World) (K : Act → World → Prop) (Q : Exit → Act → World → Prop)
    (h1 : (a.eval x).cells.size = n) (h2 : (a.eval y).cells.size = m) :
    Oper.wp P ⟨dst, .build t #[(0, x), (1, y)], ty, pos, af, none⟩ a w K Q = K (a.put dst (.agg ((a.eval x).cells ++ (a.eval y).cells))) w := by
  unfold Oper.wp execOp
  have hr := run_build (P := P) w t #[(0, a.eval x), (1, a.eval y)] _ (built_two hu hi hp h1 h2)
  simp only [List.map_toArray, List.map_cons, List.map_nil, Sem.run_bind, hr, Result.andThen_ok]
  rfl
end Go.Mem
end
section
namespace Go.Proofs.YtclhgokchcklbaaGreatDoor
open Go Go.RowKit Go.Mem Gf Lea
attribute [local go_sem ↓] Go.wp_at_zero Go.wp_at_succ
set_option maxRecDepth 100000 in
theorem elen_calls (a : Option Addr) (n cap : Nat) (w : World) : Calls Tryz.prog 267 #[.slice a n cap] w fun e w' => e = .returned (.int .i64 n) ∧ w = w' := by
  go_enter Tryz.func267, Tryz.ntmps267
  go_wp2
  go_ret
  exact ⟨rfl, rfl⟩
set_option maxRecDepth 100000 in
theorem eless_calls (base g n cap : Nat) (l : List Les) (i j : Nat) (x y : Les) (w : World) (h : Row 191 w base g n cap l) (hx : l[i]? = some x) (hy : l[j]? = some y) :
    Calls Tryz.prog 268 #[.slice (some ⟨g, 0, none⟩) n cap, .int .i64 i, .int .i64 j] w fun e w' => e = .returned (.bool (decide (x.e < y.e))) ∧ ∃ d, w' = w.drewN d := by
  have hi : i < n := by
    rw [h.len]
    rcases Nat.lt_or_ge i l.length with h | h
    · exact h
    · rw [List.getElem?_eq_none h] at hx; cases hx
  have hj : j < n := by
    rw [h.len]
    rcases Nat.lt_or_ge j l.length with h | h
    · exact h
    · rw [List.getElem?_eq_none h] at hy; cases hy
  have c1 := h.ends hx
  have c2 := h.ends hy
  have i0 : (0 : Int) ≤ (i : Int) := by omega
  have i1 : (i : Int) < (n : Int) := by omega
  have j0 : (0 : Int) ≤ (j : Int) := by omega
  have j1 : (j : Int) < (n : Int) := by omega
  clear h hx hy
  go_enter Tryz.func268, Tryz.ntmps268
  go_wp2_with fail
  go_quiet (fail)
  go_wp2
  go_ret
  exact ⟨rfl, _, rfl⟩
theorem i33 : (Tryz.prog.info? 191).map (·.size) = some 33 := by kernel_rfl
theorem load_item (dst : Option Tmp) (x : Operand) (ty : TypeId) (pos : String) (af : Array Edge) (a : Act) (w : World) (K : Act → World → Prop) (Q : Exit → Act → World → Prop)
    (hp : ptrIs (a.eval x) = true) (ht : HasK 33 w (ptrB (a.eval x)) (ptrO (a.eval x))) :
    Oper.wp Tryz.prog ⟨dst, .load 191 x, ty, pos, af, none⟩ a w K Q = K (a.put dst (.agg (readK 33 w (ptrB (a.eval x)) (ptrO (a.eval x))).toArray)) w :=
  wp_loadK Tryz.underlying191 rfl i33 dst x ty pos af a w K Q hp ht
theorem store_item (dst : Option Tmp) (x y : Operand) (ty : TypeId) (pos : String) (af : Array Edge) (a : Act) (w : World) (K : Act → World → Prop) (Q : Exit → Act → World → Prop)
    (hp : ptrIs (a.eval x) = true) (hy : aggIs (a.eval y) = true) (ht : HasK 33 w (ptrB (a.eval x)) (ptrO (a.eval x))) (hc : AllK 33 (aggL (a.eval y))) :
    Oper.wp Tryz.prog ⟨dst, .store 191 x y, ty, pos, af, none⟩ a w K Q = K (a.put dst undef) (w.setCells (ptrB (a.eval x)) (ptrO (a.eval x)) (aggL (a.eval y))) :=
  wp_storeK i33 dst x y ty pos af a w K Q hp hy ht hc
attribute [local go_sem ↓] load_item store_item
attribute [local go_sem] ptrB_eq ptrO_eq ptrIs_eq aggL_eq aggIs_eq
theorem allI_cells {x : Les} (h : Wf x) : AllK 33 (cellsI x) := ⟨cellsI_len h, one_cellsI x⟩
set_option maxRecDepth 100000 in
set_option maxHeartbeats 1000000 in
theorem eswap_calls (base g n cap : Nat) (l : List Les) (i j : Nat) (x y : Les) (w : World) (h : Row 191 w base g n cap l) (hx : l[i]? = some x) (hy : l[j]? = some y) :
    Calls Tryz.prog 269 #[.slice (some ⟨g, 0, none⟩) n cap, .int .i64 i, .int .i64 j] w fun e w' => e = .returned (.tuple #[]) ∧ Row 191 w' base g n cap (swap l i j) ∧ Chg (fun b => b = g) w w' := by
  have hi : i < n := by
    rw [h.len]
    rcases Nat.lt_or_ge i l.length with h | h
    · exact h
    · rw [List.getElem?_eq_none h] at hx; cases hx
  have hj : j < n := by
    rw [h.len]
    rcases Nat.lt_or_ge j l.length with h | h
    · exact h
    · rw [List.getElem?_eq_none h] at hy; cases hy
  have hwx := h.wf x (List.mem_of_getElem? hx)
  have hwy := h.wf y (List.mem_of_getElem? hy)
  have i0 : (0 : Int) ≤ (i : Int) := by omega
  have i1 : (i : Int) < (n : Int) := by omega
  have j0 : (0 : Int) ≤ (j : Int) := by omega
  have j1 : (j : Int) < (n : Int) := by omega
  obtain ⟨wd, hwd⟩ : ∃ wd, wd = w.drew := ⟨_, rfl⟩
  have h0 : Row 191 wd base g n cap l := by rw [hwd]; exact h.drew
  have rx : readK 33 w.drew g (i * 33) = cellsI x := readK_eq (h.drew.range hx) (cellsI_len hwx)
  have ry : readK 33 w.drew g (j * 33) = cellsI y := readK_eq (h.drew.range hy) (cellsI_len hwy)
  have t1 : HasK 33 w.drew g (i * 33) := h.drew.there hi
  have t1' : HasK 33 w.drew g (j * 33) := h.drew.there hj
  have h1 := h.drew.set hi hwy
  have ax := allI_cells hwx
  have ay := allI_cells hwy
  have h2 := Lib.hid (h1.set hj hwx)
  have hsw : swap l i j = (l.set i y).set j x := by unfold swap; rw [hx, hy]
  have hc : Chg (fun b => b = g) w ((w.drew.setCells g (i * 33) (cellsI y)).setCells g (j * 33) (cellsI x)) := Chg.setCells (S := fun b => b = g) (L := g) rfl _ _ _ (Chg.setCells (S := fun b => b = g) (L := g) rfl _ _ _ (Chg.drew (Chg.refl _ _)))
  have HC := Lib.hid hc; have HSW := Lib.hid hsw
  obtain ⟨cx, hcx⟩ : ∃ c, c = cellsI x := ⟨_, rfl⟩
  obtain ⟨cy, hcy⟩ : ∃ c, c = cellsI y := ⟨_, rfl⟩
  have t2 : HasK 33 (w.drew.setCells g (i * 33) cy) g (j * 33) := by rw [hcy]; exact h1.there hj
  have ex : cellsI x = cx := hcx.symm
  have ey : cellsI y = cy := hcy.symm
  rw [← hcx] at rx ax
  rw [← hcy] at ry ay
  rw [ex, ey] at h2 HC
  clear h h1 hx hy hwx hwy hc hsw hcx hcy ex ey h0 hwd
  go_enter Tryz.func269, Tryz.ntmps269
  go_wp2_with fail
  go_region
  all_goals
    go_wp2
    go_end0
    rw [HSW.out]
    exact ⟨rfl, h2.out, HC.out⟩
structure LTab (w : World) (tb : Nat) (v : Value) (l : List Les) : Prop where
  cell : Blk w tb #[v] 137
  own : w.ownsRow 0 191 33 v l.length (itemsV l)
  wf : ∀ x ∈ l, Wf x
  apart : v.ownBlock ≠ some tb
theorem LTab.ex {w : World} {tb : Nat} {v : Value} {l : List Les} (h : LTab w tb v l) (h0 : 0 < l.length) : ∃ g cap, v = .slice (some ⟨g, 0, none⟩) l.length cap ∧ Row 191 w 0 g l.length cap l := by
  rcases h.own.2 with ⟨e, e2⟩ | ⟨g, cap, cur, e, hr⟩
  · exact absurd e2 (by simp at e2; omega)
  · exact ⟨g, cap, e, ⟨by rw [← e]; exact h.own, rfl, h.wf⟩⟩
end Go.Proofs.YtclhgokchcklbaaGreatDoor
end
section
namespace Go.Proofs.YtclhgokchcklbaaGreatDoor
open Go Go.RowKit Go.Mem Gf Lea
attribute [local go_sem ↓] Go.wp_at_zero Go.wp_at_succ
def hv (tb : Nat) : Value := .iface 193 (.pointer (some ⟨tb, 0, none⟩))
theorem meth_less (n : Nat) (tb : Nat) (w : World) : (method (n + 1) 193 (.pointer (some ⟨tb, 0, none⟩)) "Less").run Tryz.prog w = (loadVar 135 ⟨tb, 0, none⟩ >>= fun v => pure (268, v)).run Tryz.prog w := by kernel_rfl
theorem meth_swap (n : Nat) (tb : Nat) (w : World) : (method (n + 1) 193 (.pointer (some ⟨tb, 0, none⟩)) "Swap").run Tryz.prog w = (loadVar 135 ⟨tb, 0, none⟩ >>= fun v => pure (269, v)).run Tryz.prog w := by kernel_rfl
theorem meth_len (n : Nat) (tb : Nat) (w : World) : (method (n + 1) 193 (.pointer (some ⟨tb, 0, none⟩)) "Len").run Tryz.prog w = (loadVar 135 ⟨tb, 0, none⟩ >>= fun v => pure (267, v)).run Tryz.prog w := by kernel_rfl
theorem meth_push (n : Nat) (tb : Nat) (w : World) : (method (n + 1) 193 (.pointer (some ⟨tb, 0, none⟩)) "Push").run Tryz.prog w = .ok (271, .pointer (some ⟨tb, 0, none⟩)) w := by kernel_rfl
theorem meth_pop (n : Nat) (tb : Nat) (w : World) : (method (n + 1) 193 (.pointer (some ⟨tb, 0, none⟩)) "Pop").run Tryz.prog w = .ok (270, .pointer (some ⟨tb, 0, none⟩)) w := by kernel_rfl
attribute [local go_sem] meth_less meth_swap meth_len meth_push meth_pop
theorem LTab.drewN {w : World} {tb : Nat} {v : Value} {l : List Les} (h : LTab w tb v l) (d : Nat) : LTab (w.drewN d) tb v l := ⟨h.cell, h.own, h.wf, h.apart⟩
theorem LTab.theRow {w : World} {tb g n cap : Nat} {l : List Les} (h : LTab w tb (.slice (some ⟨g, 0, none⟩) n cap) l) (hn : l.length = n) : Row 191 w 0 g n cap l := by
  subst hn
  exact ⟨h.own, rfl, h.wf⟩
theorem LTab.row' {w w' : World} {tb g n cap : Nat} {l l' : List Les} (h : LTab w tb (.slice (some ⟨g, 0, none⟩) n cap) l) (_ : l.length = n) (hr : Row 191 w' 0 g n cap l') (hc : Chg (fun b => b = g) w w') : LTab w' tb (.slice (some ⟨g, 0, none⟩) n cap) l' := by
  have hl := hr.len
  refine ⟨hc.blk h.cell (fun e => h.apart (by rw [e]; rfl)), ?_, hr.wf, h.apart⟩
  rw [← hl]
  exact hr.own
set_option maxRecDepth 100000 in
set_option maxHeartbeats 1000000 in
theorem up_calls (w : World) (tb g cap : Nat) (l : List Les) (j n n0 : Nat) (hn : l.length = n0) (h : LTab w tb (.slice (some ⟨g, 0, none⟩) n0 cap) l) (hl : n0 ≤ 1000000) (hnn : n ≤ n0) (hj : j < n)
    (hinv : ∀ c, 0 < c → c < n → c ≠ j → Rim l c) (hg : Grand l j n) :
    Calls Tryz.prog 176 #[hv tb, .int .i64 j] w fun e w' => e = .returned (.tuple #[]) ∧ ∃ l', LTab w' tb (.slice (some ⟨g, 0, none⟩) n0 cap) l' ∧ l'.Perm l ∧ HeapN l' n ∧ (∀ q, n ≤ q → l'[q]? = l[q]?) ∧ Chg (fun b => b = g) w w' := by
  have H0 := Lib.hid (And.intro hn (And.intro h (And.intro hinv hg)))
  clear h hinv hg hn
  unfold hv
  go_enter Tryz.func176, Tryz.ntmps176
  go_wp2_with fail
  go_loopw [1] (fun v wr => ∃ (k : Nat) (m : List Les), k < n ∧ v = .int .i64 k ∧ Hid (m.length = n0 ∧ LTab wr tb (.slice (some ⟨g, 0, none⟩) n0 cap) m ∧ m.Perm l ∧ (∀ c, 0 < c → c < n → c ≠ k → Rim m c) ∧ Grand m k n ∧ (∀ q, n ≤ q → m[q]? = l[q]?) ∧ Chg (fun b => b = g) w wr)) (fun v _ => (intOf v).toNat)
  case atStart => exact ⟨j, l, hj, rfl, H0.out.1, H0.out.2.1, List.Perm.refl _, H0.out.2.2.1, H0.out.2.2.2, fun _ _ => rfl, Chg.refl _ _⟩
  case round =>
    obtain ⟨k, m, hk, rfl, H⟩ := hrel
    rename_i wr
    have hc : wr.cell? ⟨tb, 0, none⟩ = some (.slice (some ⟨g, 0, none⟩) n0 cap) := by simpa using H.out.2.1.cell.cell 0
    by_cases hk0 : k = 0
    · subst hk0
      have HE : Hid (HeapN m n) := up_end H.out.2.2.2.1 (fun x y h => by omega)
      go_wp2_with fail
      go_wp2
      go_end0
      exact ⟨rfl, m, H.out.2.1, H.out.2.2.1, HE.out, H.out.2.2.2.2.2.1, H.out.2.2.2.2.2.2⟩
    · obtain ⟨i, hi⟩ : ∃ i, i = (k - 1) / 2 := ⟨_, rfl⟩
      have hik : i < k := by omega
      have e1 : ((k : Int) - 1).tdiv 2 = (i : Int) := by
        rw [show ((k : Int) - 1) = ((k - 1 : Nat) : Int) from by omega, hi]
        exact (Int.ofNat_tdiv _ _).symm
      have e2 : ((i : Int) == (k : Int)) = false := by simp; omega
      have e3 : ¬ ((i : Int) = (k : Int)) := by omega
      have hx : m[i]? = some (m[i]'(by have := H.out.1; omega)) := by simp
      have hy : m[k]? = some (m[k]'(by have := H.out.1; omega)) := by simp
      generalize m[i]'(by have := H.out.1; omega) = x at hx
      generalize m[k]'(by have := H.out.1; omega) = y at hy
      have HX := Lib.hid (And.intro hx hy)
      have HI := Lib.hid hi
      clear hx hy hi
      go_wp2_with fail
      refine (eless_calls 0 g n0 cap m k i y x wr (LTab.theRow H.out.2.1 H.out.1) HX.out.2 HX.out.1).mono ?_
      rintro e w' ⟨rfl, d, rfl⟩
      by_cases hlt : y.e < x.e
      · rw [decide_eq_true hlt]
        go_wp2_with fail
        refine (eswap_calls 0 g n0 cap m i k x y (wr.drewN d) (LTab.theRow (H.out.2.1.drewN d) H.out.1) HX.out.1 HX.out.2).mono ?_
        rintro e w' ⟨rfl, hrow, hchg⟩
        have HN : Hid ((swap m i k).length = n0 ∧ LTab w' tb (.slice (some ⟨g, 0, none⟩) n0 cap) (swap m i k) ∧ (swap m i k).Perm l ∧ (∀ c, 0 < c → c < n → c ≠ i → Rim (swap m i k) c) ∧ Grand (swap m i k) i n ∧ (∀ q, n ≤ q → (swap m i k)[q]? = l[q]?) ∧ Chg (fun b => b = g) w w') := by
          have hs := up_step (by omega) hk HI.out HX.out.1 HX.out.2 hlt H.out.2.2.2.1 H.out.2.2.2.2.1
          have hl2 : (swap m i k).length = n0 := by rw [swap_len]; exact H.out.1
          exact ⟨hl2, (H.out.2.1.drewN d).row' H.out.1 hrow hchg, (swap_perm m i k).trans H.out.2.2.1, hs.1, hs.2, fun q hq => by rw [swap_get HX.out.1 HX.out.2, if_neg (by omega), if_neg (by omega)]; exact H.out.2.2.2.2.2.1 q hq, (H.out.2.2.2.2.2.2.drewN d).trans hchg⟩
        clear hrow hchg H hc
        go_wp2_with fail
        exact ⟨⟨i, swap m i k, by omega, rfl, HN⟩, by simp [intOf]; omega⟩
      · rw [decide_eq_false hlt]
        have HE : Hid (HeapN m n) := up_end H.out.2.2.2.1 (fun a b h0 h1 ha hb => by
          rw [← HI.out, HX.out.1] at ha; rw [HX.out.2] at hb
          cases ha; cases hb
          omega)
        go_wp2_with fail
        go_end0
        exact ⟨rfl, m, H.out.2.1.drewN d, H.out.2.2.1, HE.out, H.out.2.2.2.2.2.1, H.out.2.2.2.2.2.2.drewN d⟩
end Go.Proofs.YtclhgokchcklbaaGreatDoor
end
section
namespace Go.Proofs.YtclhgokchcklbaaGreatDoor
open Go Go.RowKit Go.Mem Gf Lea
attribute [local go_sem ↓] Go.wp_at_zero Go.wp_at_succ
attribute [local go_sem] meth_less meth_swap meth_len meth_push meth_pop
theorem LTab.rd {w w' : World} {tb : Nat} {v : Value} {l : List Les} (h : LTab w tb v l) (hd : ∃ d, w' = w.drewN d) : LTab w' tb v l := by
  obtain ⟨d, rfl⟩ := hd
  exact h.drewN d
theorem chg_rd {S : Nat → Prop} {w w' w'' : World} (h : Chg S w w') (hd : ∃ d, w'' = w'.drewN d) : Chg S w w'' := by
  obtain ⟨d, rfl⟩ := hd
  exact h.drewN d
set_option maxRecDepth 100000 in
set_option maxHeartbeats 4000000 in
theorem down_calls (w : World) (tb g cap : Nat) (l : List Les) (i0 n n0 : Nat) (hlen : l.length = n0) (h : LTab w tb (.slice (some ⟨g, 0, none⟩) n0 cap) l) (hl : n0 ≤ 1000000) (hn : n ≤ n0) (hi : i0 < n0)
    (hinv : ∀ c, 0 < c → c < n → (c - 1) / 2 ≠ i0 → c ≠ i0 → Rim l c) (hg : Grand l i0 n) :
    Calls Tryz.prog 177 #[hv tb, .int .i64 i0, .int .i64 n] w fun e w' => ∃ b : Bool, e = .returned (.bool b) ∧ ∃ l', LTab w' tb (.slice (some ⟨g, 0, none⟩) n0 cap) l' ∧ l'.Perm l ∧ (∀ q, n ≤ q → l'[q]? = l[q]?) ∧ Chg (fun b => b = g) w w' ∧
      (b = true → HeapN l' n) ∧ (b = false → l' = l ∧ ∀ c, 0 < c → c < n → c ≠ i0 → Rim l c) := by
  have H0 : Hid (DInv n0 n i0 l l i0 ∧ LTab w tb (.slice (some ⟨g, 0, none⟩) n0 cap) l) := ⟨⟨hlen, List.Perm.refl _, fun _ _ => rfl, fun c h1 h2 h3 h4 => hinv c h1 h2 h3 (by omega), hg, Nat.le_refl _, fun _ => rfl⟩, h⟩
  clear h hinv hg hlen
  unfold hv
  go_enter Tryz.func177, Tryz.ntmps177
  go_wp2_with fail
  go_loopw [7] (fun v wr => ∃ (k : Nat) (m : List Les), k < n0 ∧ v = .int .i64 k ∧ Hid (DInv n0 n i0 l m k ∧ LTab wr tb (.slice (some ⟨g, 0, none⟩) n0 cap) m ∧ Chg (fun b => b = g) w wr)) (fun v _ => n0 - (intOf v).toNat)
  case atStart => exact ⟨i0, l, hi, rfl, H0.out.1, H0.out.2, Chg.refl _ _⟩
  case round =>
    obtain ⟨k, m, hk, rfl, H⟩ := hrel
    rename_i wr
    have hc : wr.cell? ⟨tb, 0, none⟩ = some (.slice (some ⟨g, 0, none⟩) n0 cap) := by simpa using H.out.2.1.cell.cell 0
    have HX0 : Hid (m[k]? = some (m[k]'(by have := H.out.1.len; omega))) := by have := H.out.1.len; exact (by simp : m[k]? = some m[k])
    generalize m[k]'(by have := H.out.1.len; omega) = x at HX0
    have HX := HX0
    obtain ⟨j1, hj1'⟩ : ∃ j, j = 2 * k + 1 := ⟨_, rfl⟩
    obtain ⟨j2, hj2'⟩ : ∃ j, j = 2 * k + 2 := ⟨_, rfl⟩
    have HJ1 := Lib.hid hj1'
    have HJ2 := Lib.hid hj2'
    have c1 : (2 : Int) * (k : Int) + 1 = (j1 : Int) := by omega
    have c2 : (j1 : Int) + 1 = (j2 : Int) := by omega
    have b1 : k < j1 := by omega
    have b2 : j1 < j2 := by omega
    clear hj1' hj2'
    by_cases hj1 : n ≤ j1
    · have HE := Lib.hid (H.out.1.stop HX.out (fun c z h1 h2 h3 h4 => by have := HJ1.out; omega))
      have d1 : decide ((n : Int) ≤ (j1 : Int)) = true := by simp; omega
      go_wp2_with fail
      go_ret
      exact ⟨decide (i0 < k), rfl, m, H.out.2.1, H.out.1.perm, H.out.1.tail, H.out.2.2, fun e => HE.out.1 (of_decide_eq_true e), fun e => HE.out.2 (of_decide_eq_false e)⟩
    · have hjn : j1 < n := by omega
      have HA : Hid (m[j1]? = some (m[j1]'(by have := H.out.1.len; omega))) := by have := H.out.1.len; exact (by simp : m[j1]? = some m[j1])
      generalize m[j1]'(by have := H.out.1.len; omega) = a at HA
      clear hj1 HX0
      by_cases hj2 : j2 < n
      · have hb1 : m[j2]? = some (m[j2]'(by have := H.out.1.len; omega)) := by have := H.out.1.len; exact (by simp : m[j2]? = some m[j2])
        generalize m[j2]'(by have := H.out.1.len; omega) = b at hb1
        have HB := Lib.hid hb1
        clear hb1
        go_wp2_with fail
        refine (eless_calls 0 g n0 cap m j2 j1 b a wr (LTab.theRow H.out.2.1 H.out.1.len) HB.out HA.out).mono ?_
        rintro e w1 ⟨rfl, hd1⟩
        have T1 := Lib.hid (H.out.2.1.rd hd1)
        have C1 := Lib.hid (chg_rd H.out.2.2 hd1)
        have hc1 : w1.cell? ⟨tb, 0, none⟩ = some (.slice (some ⟨g, 0, none⟩) n0 cap) := by simpa using T1.out.cell.cell 0
        clear hd1
        by_cases hba : b.e < a.e
        · rw [decide_eq_true hba]
          have HM : Hid (∀ c z, 0 < c → c < n → (c - 1) / 2 = k → m[c]? = some z → b.e ≤ z.e) := min_right (a := a) (by rw [← HJ1.out]; exact HA.out) (by rw [← HJ2.out]; exact HB.out) hba
          have HY := HB
          generalize hbb : b = y at *
          have hj : Hid (j2 = 2 * k + 1 ∨ j2 = 2 * k + 2) := .inr HJ2.out
          go_wp2_with fail
          refine (eless_calls 0 g n0 cap m j2 k y x w1 (LTab.theRow T1.out H.out.1.len) HY.out HX.out).mono ?_
          rintro e w2 ⟨rfl, hd2⟩
          have T2 := Lib.hid (LTab.rd T1.out hd2)
          have C2 := Lib.hid (chg_rd C1.out hd2)
          have hc2 : w2.cell? ⟨tb, 0, none⟩ = some (.slice (some ⟨g, 0, none⟩) n0 cap) := by simpa using T2.out.cell.cell 0
          clear hd2
          by_cases hlt : y.e < x.e
          · rw [decide_eq_true hlt]
            go_wp2_with fail
            refine (eswap_calls 0 g n0 cap m k j2 x y _ (LTab.theRow T2.out H.out.1.len) HX.out HY.out).mono ?_
            rintro e w' ⟨rfl, hrow, hchg⟩
            have HN : Hid (DInv n0 n i0 l (swap m k j2) j2 ∧ LTab w' tb (.slice (some ⟨g, 0, none⟩) n0 cap) (swap m k j2) ∧ Chg (fun b => b = g) w w') :=
              ⟨H.out.1.step hj.out (by omega) HX.out HY.out hlt HM.out, T2.out.row' H.out.1.len hrow hchg, C2.out.trans hchg⟩
            clear hrow hchg H
            go_wp2_with fail
            exact ⟨⟨j2, swap m k j2, by omega, rfl, HN⟩, by simp [intOf]; omega⟩
          · rw [decide_eq_false hlt]
            have HE := Lib.hid (H.out.1.stop HX.out (fun c z h1 h2 h3 h4 => by have := HM.out c z h1 h2 h3 h4; omega))
            go_wp2_with fail
            go_ret
            exact ⟨decide (i0 < k), rfl, m, T2.out, H.out.1.perm, H.out.1.tail, C2.out, fun e => HE.out.1 (of_decide_eq_true e), fun e => HE.out.2 (of_decide_eq_false e)⟩
        · rw [decide_eq_false hba]
          have HM : Hid (∀ c z, 0 < c → c < n → (c - 1) / 2 = k → m[c]? = some z → a.e ≤ z.e) := min_left (by rw [← HJ1.out]; exact HA.out) (fun b' _ hb' => by rw [← HJ2.out, HB.out] at hb'; cases hb'; exact hba)
          have HY := HA
          generalize hbb : a = y at *
          have hj : Hid (j1 = 2 * k + 1 ∨ j1 = 2 * k + 2) := .inl HJ1.out
          go_wp2_with fail
          refine (eless_calls 0 g n0 cap m j1 k y x w1 (LTab.theRow T1.out H.out.1.len) HY.out HX.out).mono ?_
          rintro e w2 ⟨rfl, hd2⟩
          have T2 := Lib.hid (LTab.rd T1.out hd2)
          have C2 := Lib.hid (chg_rd C1.out hd2)
          have hc2 : w2.cell? ⟨tb, 0, none⟩ = some (.slice (some ⟨g, 0, none⟩) n0 cap) := by simpa using T2.out.cell.cell 0
          clear hd2
          by_cases hlt : y.e < x.e
          · rw [decide_eq_true hlt]
            go_wp2_with fail
            refine (eswap_calls 0 g n0 cap m k j1 x y _ (LTab.theRow T2.out H.out.1.len) HX.out HY.out).mono ?_
            rintro e w' ⟨rfl, hrow, hchg⟩
            have HN : Hid (DInv n0 n i0 l (swap m k j1) j1 ∧ LTab w' tb (.slice (some ⟨g, 0, none⟩) n0 cap) (swap m k j1) ∧ Chg (fun b => b = g) w w') :=
              ⟨H.out.1.step hj.out (by omega) HX.out HY.out hlt HM.out, T2.out.row' H.out.1.len hrow hchg, C2.out.trans hchg⟩
            clear hrow hchg H
            go_wp2_with fail
            exact ⟨⟨j1, swap m k j1, by omega, rfl, HN⟩, by simp [intOf]; omega⟩
          · rw [decide_eq_false hlt]
            have HE := Lib.hid (H.out.1.stop HX.out (fun c z h1 h2 h3 h4 => by have := HM.out c z h1 h2 h3 h4; omega))
            go_wp2_with fail
            go_ret
            exact ⟨decide (i0 < k), rfl, m, T2.out, H.out.1.perm, H.out.1.tail, C2.out, fun e => HE.out.1 (of_decide_eq_true e), fun e => HE.out.2 (of_decide_eq_false e)⟩
      · have HM : Hid (∀ c z, 0 < c → c < n → (c - 1) / 2 = k → m[c]? = some z → a.e ≤ z.e) := min_left (by rw [← HJ1.out]; exact HA.out) (fun b' h _ => by have := HJ2.out; omega)
        have HY := HA
        generalize hbb : a = y at *
        have hj : Hid (j1 = 2 * k + 1 ∨ j1 = 2 * k + 2) := .inl HJ1.out
        go_wp2_with fail
        refine (eless_calls 0 g n0 cap m j1 k y x wr (LTab.theRow H.out.2.1 H.out.1.len) HY.out HX.out).mono ?_
        rintro e w2 ⟨rfl, hd2⟩
        have T2 := Lib.hid (LTab.rd H.out.2.1 hd2)
        have C2 := Lib.hid (chg_rd H.out.2.2 hd2)
        have hc2 : w2.cell? ⟨tb, 0, none⟩ = some (.slice (some ⟨g, 0, none⟩) n0 cap) := by simpa using T2.out.cell.cell 0
        clear hd2
        by_cases hlt : y.e < x.e
        · rw [decide_eq_true hlt]
          go_wp2_with fail
          refine (eswap_calls 0 g n0 cap m k j1 x y _ (LTab.theRow T2.out H.out.1.len) HX.out HY.out).mono ?_
          rintro e w' ⟨rfl, hrow, hchg⟩
          have HN : Hid (DInv n0 n i0 l (swap m k j1) j1 ∧ LTab w' tb (.slice (some ⟨g, 0, none⟩) n0 cap) (swap m k j1) ∧ Chg (fun b => b = g) w w') :=
            ⟨H.out.1.step hj.out (by omega) HX.out HY.out hlt HM.out, T2.out.row' H.out.1.len hrow hchg, C2.out.trans hchg⟩
          clear hrow hchg H
          go_wp2_with fail
          exact ⟨⟨j1, swap m k j1, by omega, rfl, HN⟩, by simp [intOf]; omega⟩
        · rw [decide_eq_false hlt]
          have HE := Lib.hid (H.out.1.stop HX.out (fun c z h1 h2 h3 h4 => by have := HM.out c z h1 h2 h3 h4; omega))
          go_wp2_with fail
          go_ret
          exact ⟨decide (i0 < k), rfl, m, T2.out, H.out.1.perm, H.out.1.tail, C2.out, fun e => HE.out.1 (of_decide_eq_true e), fun e => HE.out.2 (of_decide_eq_false e)⟩
end Go.Proofs.YtclhgokchcklbaaGreatDoor
end
section
namespace Go.Proofs.YtclhgokchcklbaaGreatDoor
open Go Go.RowKit Go.Mem Gf Lea
attribute [local go_sem ↓] Go.wp_at_zero Go.wp_at_succ load_item store_item
attribute [local go_sem] meth_less meth_swap meth_len meth_push meth_pop ptrB_eq ptrO_eq ptrIs_eq aggL_eq aggIs_eq
theorem EKi : ElemK Tryz.prog 135 191 (.agg ((List.replicate 32 (Value.int .u8 0)) ++ [Value.int .i64 0]).toArray) 33 40 := ⟨Tryz.underlying135, by kernel_rfl, rfl, by decide⟩
theorem as_item (v : Value) (w : World) : (Instr.typeAssert (.iface 191 v) 20 191 false).run Tryz.prog w = .ok v w := by kernel_rfl
attribute [local go_sem] as_item
theorem slice_item (dst : Option Tmp) (x : Operand) (ty : TypeId) (pos : String) (af : Array Edge) (a : Act) (w : World) (K : Act → World → Prop) (Q : Exit → Act → World → Prop) (hy : aggIs (a.eval x) = true) (hc : AllK 33 (aggL (a.eval x))) :
    Oper.wp Tryz.prog ⟨dst, .buildSlice 135 1 #[(0, x)], ty, pos, af, none⟩ a w K Q = K (a.put dst (.slice (some ⟨w.heap.size, 0, none⟩) 1 1)) (w.alloc (.cells (aggL (a.eval x)).toArray 191)) :=
  wp_sliceK Tryz.underlying135 (by kernel_rfl) (by decide) (by decide) dst x ty pos af a w K Q hy hc
attribute [local go_sem ↓] slice_item
def TChg (tb : Nat) (v v' : Value) (w w' : World) : Prop := Chg (fun b => b = tb ∨ v.ownBlock = some b) w w' ∧ ∀ k, v'.ownBlock = some k → v.ownBlock = some k ∨ w.heap.size ≤ k
theorem chg_cell (w : World) (g i : Nat) (v : Value) : Chg (fun b => b = g) w (w.setCell ⟨g, i, none⟩ v) := Chg.set (S := fun b => b = g) (Chg.refl _ _) (a := ⟨g, i, none⟩) rfl v
set_option maxRecDepth 100000 in
theorem epush_calls (w : World) (tb : Nat) (v : Value) (l : List Les) (x : Les) (n : Nat) (hn : l.length = n) (h : LTab w tb v l) (hx : Wf x) (hl : n ≤ 1000000) :
    Calls Tryz.prog 271 #[.pointer (some ⟨tb, 0, none⟩), .iface 191 (.agg (cellsI x).toArray)] w fun e w' => e = .returned (.tuple #[]) ∧ ∃ v', LTab w' tb v' (l ++ [x]) ∧ TChg tb v v' w w' := by
  have hc : w.cell? ⟨tb, 0, none⟩ = some v := by simpa using h.cell.cell 0
  have hf := h.cell.free 0
  have H := Lib.hid h
  have hn32 : n + 1 ≤ 4294967296 := by omega
  have hk := allI_cells hx
  clear h
  go_enter Tryz.func271, Tryz.ntmps271
  go_wp2_with fail
  have hlt : tb < w.heap.size := H.out.cell.lt
  go_region_law
    (first
      | (refine stepAppN EKi (by rfl) _ _ (by rfl) (base := 0) (v := v) (n := n) (m := 1) (xs := itemsV l) (cellsI x) (by rfl) (by rfl) (by rw [cellsI_len hx]) (by exact new_news rfl) (one_cellsI x) (by have ho := H.out.own; rw [hn] at ho; exact (show w.drew.ownsRow _ _ _ _ _ _ from ho).alloc _) hn32 (by decide) (by omega) ?_
         intro v1 x1 hv1 hg1 hs1
         obtain ⟨a1, cp1, rfl, _⟩ := own_eq_slice hv1
         have hB1 : Blk x1 tb #[v] 137 := Blk.grown' (by exact (show Blk w.drew _ _ _ from H.out.cell).alloc _) hg1 H.out.apart
         have hh : x1.cell? ⟨tb, 0, none⟩ = some v := by simpa using hB1.cell 0
         have f2 : x1.frozen? ⟨tb, 0, none⟩ = false := hB1.free 0
         have hxc : Chg (fun b => b = tb ∨ v.ownBlock = some b) w x1 := Chg.grown (Chg.of_below ((Below.refl _ _).drew.alloc (by exact Nat.le_refl _) _)) hg1 (fun q hq => .inl (.inr hq))))
  all_goals
    go_wp2_with fail
    go_end0
    refine ⟨rfl, .slice a1 (n + 1) cp1, ⟨hB1.set 0 _, ?_, ?_, ?_⟩, hxc.set (a := ⟨tb, 0, none⟩) (.inl rfl) _, ?_⟩
    · have hne : (Value.slice a1 (n + 1) cp1).ownBlock ≠ some tb := fun e => by
        rcases hs1 tb e with e1 | e1
        · exact H.out.apart e1
        · simp at e1; omega
      rw [itemsV_app, show itemsV [x] = cellsI x from by simp [itemsV], List.length_append, hn]
      exact own_chg hv1 (chg_cell x1 tb 0 _) (fun g hg e => hne (by rw [hg, e]))
    · intro y hy
      rcases List.mem_append.1 hy with hy | hy
      · exact H.out.wf y hy
      · rw [List.mem_singleton.1 hy]; exact hx
    · intro e
      rcases hs1 tb e with e1 | e1
      · exact H.out.apart e1
      · simp at e1; omega
    · intro k hk
      rcases hs1 k hk with e1 | e1
      · exact .inl e1
      · right; simp at e1; omega
end Go.Proofs.YtclhgokchcklbaaGreatDoor
end
section
namespace Go.Proofs.YtclhgokchcklbaaGreatDoor
open Go Go.RowKit Go.Mem Gf Lea
attribute [local go_sem ↓] Go.wp_at_zero Go.wp_at_succ load_item store_item slice_item
attribute [local go_sem] meth_less meth_swap meth_len meth_push meth_pop ptrB_eq ptrO_eq ptrIs_eq aggL_eq aggIs_eq as_item
theorem TChg.then {tb g n c n' c' : Nat} {v : Value} {w w' w'' : World} (h : TChg tb v (.slice (some ⟨g, 0, none⟩) n c) w w') (h' : Chg (fun b => b = g) w' w'') : TChg tb v (.slice (some ⟨g, 0, none⟩) n' c') w w'' :=
  ⟨h.1.mix h' (fun k hk => by rcases h.2 k (by rw [hk]; rfl) with h | h; exact .inl (.inr h); exact .inr h), fun k hk => h.2 k hk⟩
theorem TChg.of {tb g n c n' c' : Nat} {w w' : World} (h : Chg (fun b => b = g) w w') : TChg tb (.slice (some ⟨g, 0, none⟩) n c) (.slice (some ⟨g, 0, none⟩) n' c') w w' :=
  ⟨h.mono (fun _ hk => .inr (by rw [hk]; rfl)), fun _ hk => .inl hk⟩
theorem TChg.trans {tb : Nat} {v v1 v2 : Value} {w w1 w2 : World} (h : TChg tb v v1 w w1) (h' : TChg tb v1 v2 w1 w2) : TChg tb v v2 w w2 :=
  ⟨h.1.mix h'.1 (fun k hk => by
    rcases hk with hk | hk
    · exact .inl (.inl hk)
    · rcases h.2 k hk with h | h
      · exact .inl (.inr h)
      · exact .inr h), fun k hk => by
    rcases h'.2 k hk with h1 | h1
    · exact h.2 k h1
    · exact .inr (Nat.le_trans h.1.size h1)⟩
structure Heap (w : World) (tb : Nat) (v : Value) (l : List Les) : Prop where
  tab : LTab w tb v l
  heap : HeapN l l.length
set_option maxRecDepth 100000 in
set_option maxHeartbeats 1000000 in
theorem hpush_calls (w : World) (tb : Nat) (v : Value) (l : List Les) (x : Les) (h : Heap w tb v l) (hx : Wf x) (hl : l.length ≤ 100000) :
    Calls Tryz.prog 136 #[hv tb, .iface 191 (.agg (cellsI x).toArray)] w fun e w' => e = .returned (.tuple #[]) ∧ ∃ v' l', Heap w' tb v' l' ∧ l'.Perm (l ++ [x]) ∧ TChg tb v v' w w' := by
  have H := Lib.hid h
  clear h
  unfold hv
  go_enter Tryz.func136, Tryz.ntmps136
  go_wp2_with fail
  refine (epush_calls w tb v l x l.length rfl H.out.tab hx (by omega)).mono ?_
  rintro e w1 ⟨rfl, v1, hT, hC⟩
  have hl1 : (l ++ [x]).length = l.length + 1 := by simp
  obtain ⟨g, cap, rfl, hrow⟩ := hT.ex (by omega)
  have hT1 := Lib.hid hT
  have hc1 : w1.cell? ⟨tb, 0, none⟩ = some (.slice (some ⟨g, 0, none⟩) (l ++ [x]).length cap) := by simpa using hT.cell.cell 0
  rw [hl1] at hc1
  have HC := Lib.hid hC
  clear hT hC hrow
  go_wp2_with fail
  refine (elen_calls _ _ _ _).mono ?_
  rintro e w2 ⟨rfl, rfl⟩
  obtain ⟨n, hn⟩ : ∃ n, n = l.length := ⟨_, rfl⟩
  have hp := push_pre H.out.heap x
  rw [← hn] at hc1 hl hl1 hp ⊢
  rw [hl1] at hT1 HC
  have HP := Lib.hid hp; have HL1 := Lib.hid hl1
  have e1 : ((n + 1 : Nat) : Int) - 1 = (n : Int) := by omega
  clear hp hl1 hn
  go_wp2_with fail
  refine (up_calls w1 tb g cap (l ++ [x]) n (n + 1) (n + 1) HL1.out hT1.out (by omega) (Nat.le_refl _) (by omega) HP.out.1 HP.out.2).mono ?_
  rintro e w2 ⟨rfl, l', h1, h2, h3, h4, h5⟩
  go_wp2_with fail
  go_end0
  exact ⟨rfl, _, l', ⟨h1, by rw [h2.length_eq, HL1.out]; exact h3⟩, h2, HC.out.then h5⟩
set_option maxRecDepth 100000 in
set_option maxHeartbeats 1000000 in
theorem hfix_calls (w : World) (tb : Nat) (v : Value) (l : List Les) (k n : Nat) (hn : l.length = n) (h : LTab w tb v l) (hl : n ≤ 100000) (hk : k < n)
    (hinv : ∀ c, 0 < c → c < n → (c - 1) / 2 ≠ k → c ≠ k → Rim l c) (hg : Grand l k n) :
    Calls Tryz.prog 137 #[hv tb, .int .i64 k] w fun e w' => e = .returned (.tuple #[]) ∧ ∃ l', Heap w' tb v l' ∧ l'.Perm l ∧ TChg tb v v w w' := by
  obtain ⟨g, cap, rfl, hrow⟩ := h.ex (by omega)
  have hc : w.cell? ⟨tb, 0, none⟩ = some (.slice (some ⟨g, 0, none⟩) l.length cap) := by simpa using h.cell.cell 0
  rw [hn] at hc h ⊢
  have H := Lib.hid (And.intro h (And.intro hinv hg))
  have HN := Lib.hid hn
  clear hn h hinv hg hrow
  unfold hv
  go_enter Tryz.func137, Tryz.ntmps137
  go_wp2_with fail
  refine (elen_calls _ _ _ _).mono ?_
  rintro e w2 ⟨rfl, rfl⟩
  go_wp2_with fail
  refine (down_calls w tb g cap l k n n HN.out H.out.1 (by omega) (Nat.le_refl _) hk H.out.2.1 H.out.2.2).mono ?_
  rintro e w1 ⟨b, rfl, l1, h1, h2, h3, h4, h5, h6⟩
  have HL := Lib.hid h2.length_eq
  have H1 := Lib.hid (And.intro h1 (And.intro h2 (And.intro h4 (And.intro h5 h6))))
  clear h1 h2 h3 h4 h5 h6
  cases b
  · go_wp2_with fail
    obtain ⟨e6, h6⟩ := H1.out.2.2.2.2 (by first | rfl | trivial)
    refine (up_calls w1 tb g cap l k n n HN.out (by have := H1.out.1; rwa [e6] at this) (by omega) (Nat.le_refl _) hk h6 H.out.2.2).mono ?_
    rintro e w2 ⟨rfl, l', g1, g2, g3, g4, g5⟩
    go_wp2_with fail
    go_end0
    exact ⟨rfl, l', ⟨g1, by rw [g2.length_eq, HN.out]; exact g3⟩, g2, TChg.of (H1.out.2.2.1.trans g5)⟩
  · go_wp2_with fail
    go_end0
    exact ⟨rfl, l1, ⟨H1.out.1, by rw [HL.out, HN.out]; exact H1.out.2.2.2.1 (by first | rfl | trivial)⟩, H1.out.2.1, TChg.of H1.out.2.2.1⟩
end Go.Proofs.YtclhgokchcklbaaGreatDoor
end
section
namespace Go.Proofs.YtclhgokchcklbaaGreatDoor
open Go Go.RowKit Go.Mem Gf Lea
attribute [local go_sem ↓] Go.wp_at_zero Go.wp_at_succ load_item store_item slice_item
attribute [local go_sem] meth_less meth_swap meth_len meth_push meth_pop ptrB_eq ptrO_eq ptrIs_eq aggL_eq aggIs_eq as_item
end Go.Proofs.YtclhgokchcklbaaGreatDoor
end
section
namespace Srt
variable {α : Type}
def swap (l : List α) (i j : Nat) : List α := match l[i]?, l[j]? with
  | some x, some y => (l.set i y).set j x
  | _, _ => l
theorem lt_of_some {l : List α} {i : Nat} {x : α} (hx : l[i]? = some x) : i < l.length := by
  rcases Nat.lt_or_ge i l.length with h | h
  · exact h
  · rw [List.getElem?_eq_none h] at hx; cases hx
theorem swap_eq {l : List α} {i j : Nat} {x y : α} (hx : l[i]? = some x) (hy : l[j]? = some y) : swap l i j = (l.set i y).set j x := by
  unfold swap; rw [hx, hy]
theorem swap_get {l : List α} {i j : Nat} {x y : α} (hx : l[i]? = some x) (hy : l[j]? = some y) (k : Nat) : (swap l i j)[k]? = if k = j then some x else if k = i then some y else l[k]? := by
  have hi := lt_of_some hx
  have hj := lt_of_some hy
  rw [swap_eq hx hy]
  simp only [List.getElem?_set, List.length_set]
  by_cases h1 : k = j
  · subst h1; simp [hj]
  · have h1' : ¬ j = k := fun h => h1 h.symm
    by_cases h2 : k = i
    · subst h2; simp [h1, h1', hi]
    · have h2' : ¬ i = k := fun h => h2 h.symm
      simp [h1, h1', h2, h2']
theorem swap_len {l : List α} {i j : Nat} {x y : α} (hx : l[i]? = some x) (hy : l[j]? = some y) : (swap l i j).length = l.length := by
  rw [swap_eq hx hy]; simp
theorem swap_perm {l : List α} {i j : Nat} {x y : α} (hx : l[i]? = some x) (hy : l[j]? = some y) : (swap l i j).Perm l := by
  have hi := lt_of_some hx
  have hj := lt_of_some hy
  rw [swap_eq hx hy]
  rw [List.getElem?_eq_getElem hi] at hx
  rw [List.getElem?_eq_getElem hj] at hy
  cases hx; cases hy
  exact List.set_set_perm hi hj
structure Ord (lt : α → α → Bool) : Prop where
  asymm : ∀ a b, lt a b = true → lt b a = false
  trans : ∀ a b c, lt b a = false → lt c b = false → lt c a = false
def Upto (lt : α → α → Bool) (l : List α) (n : Nat) : Prop := ∀ p q x y, p < q → q < n → l[p]? = some x → l[q]? = some y → lt y x = false
def Ins (lt : α → α → Bool) (l : List α) (j i : Nat) : Prop :=
  (∀ p q x y, p < q → q ≤ i → p ≠ j → q ≠ j → l[p]? = some x → l[q]? = some y → lt y x = false) ∧ ∀ q x y, j < q → q ≤ i → l[j]? = some x → l[q]? = some y → lt y x = false
variable {lt : α → α → Bool} {l : List α} {i j : Nat}
theorem ins_start (h : Upto lt l i) : Ins lt l i i :=
  ⟨fun p q x y h1 h2 _ h4 hx hy => h p q x y h1 (by omega) hx hy, fun q x y h1 h2 => by omega⟩
theorem ins_step (hO : Ord lt) (h : Ins lt l j i) (h0 : 0 < j) (hj : j ≤ i) {x y : α} (hx : l[j]? = some x) (hy : l[j - 1]? = some y) (hlt : lt x y = true) : Ins lt (swap l j (j - 1)) (j - 1) i := by
  have hg := swap_get hx hy
  refine ⟨fun p q a b h1 h2 h3 h4 ha hb => ?_, fun q a b h1 h2 ha hb => ?_⟩
  · rw [hg, if_neg h3] at ha
    rw [hg, if_neg h4] at hb
    by_cases e1 : p = j
    · rw [if_pos e1] at ha
      cases ha
      rw [if_neg (by omega)] at hb
      exact h.1 (j - 1) q y b (by omega) h2 (by omega) (by omega) hy hb
    · rw [if_neg e1] at ha
      by_cases e2 : q = j
      · rw [if_pos e2] at hb
        cases hb
        exact h.1 p (j - 1) a y (by omega) (by omega) e1 (by omega) ha hy
      · rw [if_neg e2] at hb
        exact h.1 p q a b h1 h2 e1 e2 ha hb
  · rw [hg, if_pos rfl] at ha
    cases ha
    rw [hg, if_neg (by omega)] at hb
    by_cases e2 : q = j
    · rw [if_pos e2] at hb
      cases hb
      exact hO.asymm x y hlt
    · rw [if_neg e2] at hb
      exact h.2 q x b (by omega) h2 hx hb
theorem ins_stop (hO : Ord lt) (h : Ins lt l j i) (hj : j ≤ i) (hs : j = 0 ∨ ∃ x y, l[j]? = some x ∧ l[j - 1]? = some y ∧ lt x y = false) : Upto lt l (i + 1) := by
  intro p q a b h1 h2 ha hb
  by_cases e1 : p = j
  · subst e1
    exact h.2 q a b h1 (by omega) ha hb
  · by_cases e2 : q = j
    · subst e2
      rcases hs with e | ⟨x, y, hx, hy, hxy⟩
      · omega
      · rw [hx] at hb
        cases hb
        by_cases e3 : p = q - 1
        · subst e3
          rw [hy] at ha
          cases ha
          exact hxy
        · exact hO.trans a y _ (h.1 p (q - 1) a y (by omega) (by omega) e1 (by omega) ha hy) hxy
    · exact h.1 p q a b h1 (by omega) e1 e2 ha hb
theorem upto_pairwise {lt : α → α → Bool} (l : List α) (h : Upto lt l l.length) : l.Pairwise (fun x y => lt y x = false) := by
  rw [List.pairwise_iff_getElem]
  intro p q hp hq hpq
  exact h p q _ _ hpq hq (by simp) (by simp)
end Srt
end
