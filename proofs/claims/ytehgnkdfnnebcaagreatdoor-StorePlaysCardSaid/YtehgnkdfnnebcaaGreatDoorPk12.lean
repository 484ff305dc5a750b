/- Texts of this proof, packed: Ref10Play, Ref10Num, Ints, Open, OpenS, StoreActs, StoreWakes, PlayMem, PlayOpen, PlayBegin. -/
import Derived.Test.YtehgnkdfnnebcaaGreatDoorPk11
import Derived.Test.YtehgnkdfnnebcaaGreatDoorPk04
import Derived.Test.YtehgnkdfnnebcaaGreatDoorPk00
import Derived.WalkKit
import Derived.ProofKit
import Derived.ChangeOld
import Derived.Deep.SlicePairs
import Derived.OpenShut
import Derived.Deep.QuietTactic
section
namespace Go.Mem
open Go Go.RowKit Gf Go.Proofs.YtehgnkdfnnebcaaGreatDoor
set_option linter.unusedVariables false
theorem slots_le : ∀ (n : Nat) (l : List Nat), l.Nodup → (∀ x ∈ l, x < n) → l.length ≤ n
  | 0, l, _, h => by
    cases l with
    | nil => exact Nat.le_refl _
    | cons x l => exact absurd (h x (by simp)) (Nat.not_lt_zero _)
  | n + 1, l, hn, h => by
    have h1 := slots_le n (l.erase n) (hn.erase n) (fun x hx => by
      have h2 := (hn.mem_erase_iff).1 hx
      have h3 := h x h2.2
      have h4 := h2.1
      omega)
    have h2 := List.le_length_erase (a := n) (l := l)
    omega
section
variable {l : List Sto.Rec} {L : List RRec}
theorem RSame.lt (h : RSame l L) {x : RRec} (hx : x ∈ L) : x.slot < l.length := by
  obtain ⟨r, h1, _⟩ := (h.mem x).1 hx
  exact (List.getElem?_eq_some_iff.1 h1).1
theorem RSame.len_le (h : RSame l L) : L.length ≤ l.length := by
  have h1 : (L.map (·.slot)).Nodup := by
    unfold List.Nodup
    rw [List.pairwise_map, List.pairwise_iff_getElem]
    intro i j hi hj hij e
    have hs := List.pairwise_iff_getElem.1 h.sorted i j hi hj hij
    obtain ⟨r, a1, a2, a3, _⟩ := (h.mem L[i]).1 (List.getElem_mem hi)
    obtain ⟨r', b1, b2, b3, _⟩ := (h.mem L[j]).1 (List.getElem_mem hj)
    rw [e, b1] at a1
    cases a1
    rw [a3, b3] at hs
    exact List.lt_irrefl _ hs
  have h2 := slots_le l.length (L.map (·.slot)) h1 (fun x hx => by
    obtain ⟨y, hy, rfl⟩ := List.mem_map.1 hx
    exact h.lt hy)
  rw [List.length_map] at h2
  exact h2
theorem RSame.put_any (h : RSame l L) {name : ByteArray} {sl : Nat} (hs : rfreeGo L l.length l.length = some sl) (num : Nat) (data : List UInt8) : ∃ l' : List Sto.Rec, l'.length = l.length ∧ RSame l' (putG RRec.name L ⟨name, num, data, sl⟩) := by
  rw [h.free] at hs
  by_cases hf : Sto.slot l = l.length
  · rw [if_pos hf] at hs
    cases hs
  · rw [if_neg hf] at hs
    injection hs with hs
    subst hs
    have hlt := slot_lt hf
    cases hb : Sto.best l name l.length with
    | none => exact ⟨_, List.length_set, h.put_new hb hlt num data⟩
    | some k => exact ⟨_, by rw [List.length_set, List.length_set], h.put_old hb hlt num data⟩
theorem RSame.rnames (h : RSame l L) : (namesK l l.length).mergeSort (fun x y => decide (x ≤ y)) = L.map fun x => x.name.data.toList := by
  have hs : (L.map fun x => x.name.data.toList).Pairwise (fun a b => a < b) := by
    rw [List.pairwise_map]
    refine h.sorted.imp fun {a b} hab => ?_
    rw [Go.ByteArray.toList_eq, Go.ByteArray.toList_eq] at hab
    exact hab
  refine names_sorted h.uniq ?_ ?_ fun x => ?_
  · exact hs.imp fun {a b} hab e => by rw [e] at hab; exact List.lt_irrefl _ hab
  · exact hs.imp fun {a b} hab => by simp; exact List.le_of_lt hab
  · rw [mem_namesK]
    constructor
    · rintro ⟨i, r, h1, h2, h3, rfl⟩
      exact List.mem_map.2 ⟨⟨r.name, r.num, r.data, i⟩, (h.mem _).2 ⟨r, h2, h3, rfl, rfl, rfl⟩, rfl⟩
    · intro hx
      obtain ⟨y, hy, rfl⟩ := List.mem_map.1 hx
      obtain ⟨r, h1, h2, h3, _⟩ := (h.mem y).1 hy
      exact ⟨y.slot, r, (List.getElem?_eq_some_iff.1 h1).1, h1, h2, by rw [h3]⟩
theorem RSame.rfree (h : RSame l L) : freeK l l.length = l.length - L.length := by
  have h1 := congrArg List.length h.rnames
  rw [List.length_mergeSort, List.length_map] at h1
  have h2 := namesK_free_len l l.length (Nat.le_refl _)
  omega
theorem RSame.rget (h : RSame l L) (name : ByteArray) : rgetR L false name = (Sto.best l name l.length).map fun k => (l.getD k Sto.Rec.free).data := by
  unfold rgetR
  rw [if_neg (by decide)]
  cases hf : rfind L name L.length with
  | none =>
    rw [h.find_none hf]
    rfl
  | some i =>
    obtain ⟨x, r, hx, h1, h2, _, _, e, _, hb⟩ := h.find_some hf
    rw [hb]
    simp only [hx, Option.map_some]
    rw [List.getD_eq_getElem?_getD, h1, e]
    rfl
end
theorem rnum_le {L : List RRec} {m : Nat} (h : ∀ x ∈ L, x.num ≤ m) (name : ByteArray) : rnum L name ≤ m + 1 := by
  unfold rnum
  split
  · omega
  · rename_i i hi
    obtain ⟨_, x, hx, _⟩ := rfind_lt hi
    rw [hx]
    have := h x (List.mem_of_getElem? hx)
    show x.num + 1 ≤ _
    omega
theorem rputR_L (slots room : Nat) (D : DiskS) (L : List RRec) (died : Bool) (name : ByteArray) (data : List UInt8) : (rputR slots room D L died name data).2.2.1 = L ∨ ∃ sl, rfreeGo L slots slots = some sl ∧ (rputR slots room D L died name data).2.2.1 = putG RRec.name L ⟨name, rnum L name, data, sl⟩ := by
  unfold rputR
  split
  · exact .inl rfl
  · split
    · exact .inl rfl
    · split
      · exact .inl rfl
      · rename_i sl hsl
        split
        · exact .inl rfl
        · split
          · exact .inl rfl
          · split
            · exact .inr ⟨sl, hsl, rfl⟩
            · split
              · exact .inl rfl
              · exact .inr ⟨sl, hsl, rfl⟩
theorem rdropR_L (room : Nat) (D : DiskS) (L : List RRec) (died : Bool) (name : ByteArray) : (rdropR room D L died name).2.2.1 = L ∨ ∃ i, rfind L name L.length = some i ∧ (rdropR room D L died name).2.2.1 = L.take i ++ L.drop (i + 1) := by
  unfold rdropR
  split
  · exact .inl rfl
  · split
    · exact .inl rfl
    · rename_i i hi
      split
      · exact .inl rfl
      · exact .inr ⟨i, hi, rfl⟩
theorem drop_writes (s : St) (name : ByteArray) : (dropR s name).2.disk.writes ≤ s.disk.writes + 1 := by
  unfold dropR
  split
  · exact Nat.le_succ _
  · split
    · exact Nat.le_succ _
    · show (s.disk.wr _ _).writes ≤ _
      unfold DiskS.wr DiskS.write
      split
      · split
        · exact Nat.le_succ _
        · exact Nat.le_refl _
      · exact Nat.le_succ _
theorem put_recs_len (s : St) (name : ByteArray) (data : List UInt8) : (putR s name data).2.recs.length = s.recs.length := by
  unfold putR
  split
  · rfl
  · split
    · rfl
    · split
      · rfl
      · have c2 := (chunks_same (Sto.slot s.recs * (s.room + 1)) s.room s 0 (Sto.text name (s.num name) data)).2.1
        generalize St.chunks (Sto.slot s.recs * (s.room + 1)) s.room s 0 (Sto.text name (s.num name) data) = C at c2 ⊢
        obtain ⟨e, s1⟩ := C
        simp only at c2 ⊢
        split
        · rw [c2]
        · split
          · show s1.recs.length = _
            rw [c2]
          · have h1 : ((s1.writeS (Sto.slot s.recs * (s.room + 1)) [1]).laid (Sto.slot s.recs) ⟨true, name, s.num name, data⟩).recs.length = s.recs.length := by
              show (s1.recs.set _ _).length = _
              rw [List.length_set, c2]
            unfold St.done
            split
            · exact h1
            · exact (freeS_len _ _).1.trans h1
structure Dup (m slots : Nat) (s : St) (L : List RRec) : Prop where
  len : s.recs.length = slots
  same : ∃ l : List Sto.Rec, l.length = slots ∧ RSame l L ∧ (s.dead = false → l = s.recs)
  num : ∀ x ∈ L, x.num ≤ m
  wr : s.disk.writes ≤ 2000 * m
section
variable {m slots : Nat} {s : St} {L : List RRec}
theorem Dup.alive (h : Dup m slots s L) (hd : s.dead = false) : RSame s.recs L := by
  obtain ⟨l, _, h1, h2⟩ := h.same
  rw [h2 hd] at h1
  exact h1
theorem Dup.names (h : Dup m slots s L) : s.names.mergeSort (fun x y => decide (x ≤ y)) = rnamesR L s.dead := by
  unfold St.names rnamesR
  cases hd : s.dead with
  | true =>
    rw [if_pos rfl, if_pos rfl]
    exact List.mergeSort_nil
  | false =>
    rw [if_neg (by decide), if_neg (by decide)]
    exact (h.alive hd).rnames
theorem Dup.freeN (h : Dup m slots s L) : s.freeN = if s.dead = true then 0 else slots - L.length := by
  unfold St.freeN
  cases hd : s.dead with
  | true => rfl
  | false =>
    rw [if_neg (by decide), if_neg (by decide), (h.alive hd).rfree, h.len]
theorem Dup.lenL (h : Dup m slots s L) : L.length ≤ slots := by
  obtain ⟨l, h0, h1, _⟩ := h.same
  rw [← h0]
  exact h1.len_le
theorem Dup.get (h : Dup m slots s L) (name : ByteArray) : s.get name = rgetR L s.dead name := by
  unfold St.get
  cases hd : s.dead with
  | true => rfl
  | false => exact ((h.alive hd).rget name).symm
theorem Dup.put_len (h : Dup m slots s L) (name : ByteArray) (data : List UInt8) (sl : Nat) (hs : rfreeGo L slots slots = some sl) : (putG RRec.name L ⟨name, rnum L name, data, sl⟩).length ≤ slots := by
  obtain ⟨l, h0, h1, _⟩ := h.same
  rw [← h0] at hs ⊢
  obtain ⟨l', e, h2⟩ := h1.put_any (name := name) hs (rnum L name) data
  rw [← e]
  exact h2.len_le
theorem Dup.put (h : Dup m slots s L) (hok : s.Ok) (hr : s.room ≤ 1000) (name : ByteArray) (data : List UInt8) :
    (rputR slots s.room s.disk L s.dead name data).1 = (putR s name data).1 ∧ (rputR slots s.room s.disk L s.dead name data).2.1 = (putR s name data).2.disk ∧ (rputR slots s.room s.disk L s.dead name data).2.2.2 = (putR s name data).2.dead ∧ (putR s name data).2.room = s.room ∧ Dup (m + 1) slots (putR s name data).2 (rputR slots s.room s.disk L s.dead name data).2.2.1 := by
  have hw := put_writes s name data
  have hnum : ∀ x ∈ (rputR slots s.room s.disk L s.dead name data).2.2.1, x.num ≤ m + 1 := fun x hx => by
    rcases rputR_L slots s.room s.disk L s.dead name data with e | ⟨sl, hsl, e⟩
    · rw [e] at hx
      have := h.num x hx
      omega
    · rw [e] at hx
      rcases putG_mem _ _ _ x hx with hx | rfl
      · have := h.num x hx
        omega
      · exact rnum_le h.num name
  cases hd : s.dead with
  | true =>
    rw [hd] at hnum
    have e1 : putR s name data = (8, s) := by unfold putR; rw [if_pos hd]
    have e2 : rputR slots s.room s.disk L true name data = (8, s.disk, L, true) := by unfold rputR; rw [if_pos rfl]
    rw [e1, e2]
    exact ⟨rfl, rfl, hd.symm, rfl, h.len, h.same, fun x hx => by have := h.num x hx; omega, by have := h.wr; show s.disk.writes ≤ _; omega⟩
  | false =>
    rw [hd] at hnum
    have hB := put_same (h.alive hd) hd hok.size name data
    rw [h.len] at hB
    have hlen : (putR s name data).2.recs.length = slots := (put_recs_len s name data).trans h.len
    refine ⟨hB.err, hB.disk, hB.dead, hB.room, hlen, ?_, hnum, by have := h.wr; omega⟩
    cases hd' : (putR s name data).2.dead with
    | false => exact ⟨_, hlen, hB.recs hd', fun _ => rfl⟩
    | true =>
      rcases rputR_L slots s.room s.disk L false name data with e | ⟨sl, hsl, e⟩
      · rw [e]
        obtain ⟨l, h0, h1, _⟩ := h.same
        exact ⟨l, h0, h1, fun e => by cases e⟩
      · rw [e]
        obtain ⟨l, h0, h1, _⟩ := h.same
        rw [← h0] at hsl
        obtain ⟨l', e', h2⟩ := h1.put_any (name := name) hsl (rnum L name) data
        exact ⟨l', e'.trans h0, h2, fun e => by cases e⟩
theorem Dup.drop (h : Dup m slots s L) (hok : s.Ok) (name : ByteArray) :
    (rdropR s.room s.disk L s.dead name).1 = (dropR s name).1 ∧ (rdropR s.room s.disk L s.dead name).2.1 = (dropR s name).2.disk ∧ (rdropR s.room s.disk L s.dead name).2.2.2 = (dropR s name).2.dead ∧ (dropR s name).2.room = s.room ∧ Dup (m + 1) slots (dropR s name).2 (rdropR s.room s.disk L s.dead name).2.2.1 := by
  have hw := drop_writes s name
  have hlen : (dropR s name).2.recs.length = slots := by
    unfold dropR
    split
    · exact h.len
    · split
      · exact h.len
      · exact (freeS_len _ _).1.trans h.len
  have hnum : ∀ x ∈ (rdropR s.room s.disk L s.dead name).2.2.1, x.num ≤ m + 1 := fun x hx => by
    have hx : x ∈ L := by
      rcases rdropR_L s.room s.disk L s.dead name with e | ⟨i, _, e⟩
      · rw [e] at hx; exact hx
      · rw [e] at hx
        rcases List.mem_append.1 hx with hx | hx
        · exact List.mem_of_mem_take hx
        · exact List.mem_of_mem_drop hx
    have := h.num x hx
    omega
  cases hd : s.dead with
  | true =>
    have e1 : dropR s name = (8, s) := by unfold dropR; rw [if_pos hd]
    have e2 : rdropR s.room s.disk L true name = (8, s.disk, L, true) := by unfold rdropR; rw [if_pos rfl]
    rw [e1, e2]
    exact ⟨rfl, rfl, hd.symm, rfl, h.len, h.same, fun x hx => by have := h.num x hx; omega, by have := h.wr; show s.disk.writes ≤ _; omega⟩
  | false =>
    rw [hd] at hnum
    have hB := drop_same (h.alive hd) hd hok.size name
    refine ⟨hB.err, hB.disk, hB.dead, hB.room, hlen, ?_, hnum, by have := h.wr; omega⟩
    cases hd' : (dropR s name).2.dead with
    | false => exact ⟨_, hlen, hB.recs hd', fun _ => rfl⟩
    | true =>
      obtain ⟨l, h0, h1, _⟩ := h.same
      rcases rdropR_L s.room s.disk L false name with e | ⟨i, hi, e⟩
      · rw [e]
        exact ⟨l, h0, h1, fun e => by cases e⟩
      · rw [e]
        obtain ⟨_, _, _, _, _, _, _, _, _, hb⟩ := h1.find_some hi
        exact ⟨_, (by rw [List.length_set]; exact h0), h1.drop hi hb, fun e => by cases e⟩
theorem Dup.redisk (h : Dup m slots s L) (D : DiskS) (hD : D.writes = s.disk.writes) : Dup m slots { s with disk := D } L :=
  ⟨h.len, h.same, h.num, by show D.writes ≤ _; rw [hD]; exact h.wr⟩
theorem Dup.mono (h : Dup m slots s L) {m' : Nat} (hm : m ≤ m') : Dup m' slots s L :=
  ⟨h.len, h.same, fun x hx => Nat.le_trans (h.num x hx) hm, by have := h.wr; omega⟩
end
theorem keep_n (s : St) : ∀ k, (keepBest s k).2.disk.n = s.disk.n
  | 0 => rfl
  | k + 1 => by
    have ih := keep_n s k
    rw [keepBest]
    by_cases h0 : (keepBest s k).1 = 0
    · simp only [h0, ne_eq, not_true_eq_false, if_false]
      split
      · exact ih
      · split
        · exact (DiskS.wr_n _ _ _).trans ih
        · exact ih
    · simp only [ne_eq, h0, not_false_eq_true, if_true]
      exact ih
theorem parse_num {b : List UInt8} {y : Sto.Rec} (hy : Sto.parse b = some y) : y.num < 4294967296 := by
  rw [parse_take] at hy
  split at hy
  · cases hy
  · rename_i x0 r0 h0
    split at hy
    · cases hy
    · rename_i x1 r1 h1
      split at hy
      · rename_i h4
        split at hy
        · cases hy
        · rename_i x2 r2 h2
          injection hy with hy
          subst hy
          show Cod.getN x1 < _
          have := Cod.getGo_lt x1 0
          rw [h4] at this
          unfold Cod.getN
          omega
      · cases hy
theorem ro1_num (D0 : DiskS) (room : Nat) : ∀ i, ∀ x ∈ (ro1 D0 room i).2.2, x.num < 4294967296
  | 0, x, h => by cases h
  | i + 1, x, h => by
    have ih := ro1_num D0 room i
    rw [ro1] at h
    split at h
    · exact ih x h
    · split at h
      · exact ih x h
      · split at h
        · rename_i y hy
          rcases List.mem_append.1 h with h | h
          · exact ih x h
          · rw [List.mem_singleton.1 h]
            exact parse_num hy
        · exact ih x h
theorem ropen_num (D : DiskS) (slots room : Nat) : ∀ x ∈ (ropenR D slots room).2.2, x.num < 4294967296 := by
  intro x hx
  unfold ropenR at hx
  split at hx
  · cases hx
  · split at hx
    · cases hx
    · split at hx
      · cases hx
      · exact ro1_num D room slots x ((ro2_len room _ _ _).2.1 x hx)
theorem open_dup {m : Nat} (D : DiskS) (slots room : Nat) (hn : D.n = slots * (room + 1)) (hs : 1 ≤ slots) (hs2 : slots ≤ 500) (hm : 4294967296 ≤ m) (hw : D.writes ≤ 2000 * m) :
    (ropenR D slots room).1 = (openR D slots room).1 ∧ (ropenR D slots room).2.1 = (openR D slots room).2.1 ∧ (openR D slots room).2.1.n = D.n ∧ (openR D slots room).2.1.writes ≤ 2000 * (m + 1) ∧
    (((openR D slots room).1 = 0 ∧ ∃ s : St, (openR D slots room).2.2 = some s ∧ Dup (m + 1) slots s (ropenR D slots room).2.2 ∧ s.dead = false ∧ s.room = room ∧ s.disk = (openR D slots room).2.1) ∨ ((openR D slots room).1 = 8 ∧ (openR D slots room).2.2 = none)) := by
  obtain ⟨h1, h2, h3⟩ := open_same D slots room hn hs
  have hww := open_writes D slots room
  have hnn : (openR D slots room).2.1.n = D.n := by
    unfold openR
    simp only []
    split
    · exact readAll_n room D slots
    · split
      · exact (keep_n _ _).trans (readAll_n room D slots)
      · exact (keep_n _ _).trans (readAll_n room D slots)
  refine ⟨h1, h2, hnn, by omega, ?_⟩
  rcases h3 with ⟨h0, s, a1, a2, a3, a4, a5, a6, _⟩ | h3
  · refine .inl ⟨h0, s, a1, ⟨a5, ⟨s.recs, a5, a2, fun _ => rfl⟩, fun x hx => ?_, by rw [a6]; omega⟩, a3, a4, a6⟩
    have := ropen_num D slots room x hx
    omega
  · exact .inr h3
end Go.Mem
end
section
namespace Go.Mem
def rnumR (slots : Nat) (L : List RRec) (died : Bool) : Nat := if died = true then 0 else slots - L.length
end Go.Mem
namespace Go.Proofs.YtehgnkdfnnebcaaGreatDoor
open Go Go.RowKit Go.Mem Gf
set_option linter.unusedVariables false
attribute [local go_sem ↓] Go.wp_at_zero Go.wp_at_succ
set_option maxRecDepth 20000 in
set_option maxHeartbeats 1000000 in
theorem rnum_calls (w : World) (N : Nat → Prop) (q r B : Nat) (lv : Value) (ps : List RP) (D : DiskS) (slots room : Nat) (L : List RRec) (died : Bool) (h : RStore w N q r B lv ps D slots room L died) :
    Calls Tryz.prog 16 #[.pointer (some ⟨q, 0, none⟩)] w fun e w' => e = .returned (.int .i64 (rnumR slots L died : Nat)) ∧ Below w.heap.size w w' := by
  have c1 : w.cell? ⟨q, 1, none⟩ = some (.int .i64 slots) := h.blk.cell 1
  have c3 : w.cell? ⟨q, 3, none⟩ = some lv := h.blk.cell 3
  have c4 : w.cell? ⟨q, 4, none⟩ = some (.bool died) := h.blk.cell 4
  obtain ⟨a, c, rfl, h1, h2, h3⟩ := id h.row
  obtain ⟨n, hn⟩ : ∃ n, n = ps.length := ⟨_, rfl⟩
  have hL : L.length = n := by rw [hn, h.recs.len]
  have hfew := h.few
  have hs1 := h.s1.2
  have e1 : rnumR slots L died = if died = true then 0 else slots - n := by unfold rnumR; rw [hL]
  rw [e1]
  rw [← hn] at c3
  rw [hL] at hfew
  have q1 : IntKind.i64.wrap ((slots : Int) - (n : Int)) = (slots : Int) - (n : Int) := IntWalk.i64_in _ (by omega)
  have q2 : (slots : Int) - (n : Int) = ((slots - n : Nat) : Int) := by omega
  have s0 := Lib.hid (show wrap64 ((slots - n : Nat) : Int) = ((slots - n : Nat) : Int) from IntWalk.wrap64_in _ (by omega))
  clear h1 h2 h3 hL e1 hn hs1 hfew h
  go_enter Tryz.func16, Tryz.ntmps16
  cases died
  · go_wp2_with fail
    go_quiet (fail)
    go_wp2
    go_ret
    exact ⟨ret_int (by first | exact s0.out | (simp only [Bool.false_eq_true, if_false]; exact s0.out)), below_drewN (Below.refl _ _) _⟩
  · go_wp2
    go_ret
    exact ⟨by simp, Below.refl _ _⟩
end Go.Proofs.YtehgnkdfnnebcaaGreatDoor
end
section
namespace Go.Mem
open Go Go.RowKit
section
variable {w w' : World} {v : Value} {xs : List Int}
end
end Go.Mem
end
section
namespace Go.Mem
open Go Go.ChangeShapes Go.WideShapes Go.ChangeAt Go.RowKit
theorem byte_of_wf {x : Int} (h : (Lit.int .u8 x).wf = true) : ∃ n : Nat, n < 256 ∧ x = (n : Int) := by
  simp [Lit.wf, IntKind.min, IntKind.max, IntKind.signed, IntKind.bits] at h
  exact ⟨x.toNat, by omega, by omega⟩
theorem int_of_wf {x : Int} (h : (Lit.int .i64 x).wf = true) : -9223372036854775808 ≤ x ∧ x ≤ 9223372036854775807 := by
  simp [Lit.wf, IntKind.min, IntKind.max, IntKind.signed, IntKind.bits] at h
  exact ⟨by omega, by omega⟩
theorem addr_none {w : World} {a : Addr} {v : Value} (h : w.cell? a = some v) : a = ⟨a.block, a.off, none⟩ := by
  obtain ⟨b, o, s⟩ := a
  unfold World.cell? at h
  cases s with
  | none => rfl
  | some n =>
    split at h
    · simp at h
    · cases h
theorem add_plain (b off i : Nat) : (⟨b, off, none⟩ : Addr).add i = ⟨b, off + i, none⟩ := by
  unfold Addr.add
  split
  · subst_vars; rfl
  · rfl
section
variable {P : Program} {H : Type} {enc : TypeId × Value → H} {W : World} {base : Nat}
theorem open_bys {t e : TypeId} {v : Value} {x : DataW H × List MemPlace} {spare : Nat → Bool} {held : Bool} (ht : P.underlying t = some (.slice e)) (he : P.underlying e = some (.int .u8)) (hc : P.cellsOf e = 1)
    (hs : ∃ a len cap, v = .slice a len cap) (h : ∃ fuel, DataW.trod enc P W base spare held fuel t v.cells.toList = some x) : ∃ bs, Bys W v bs := by
  obtain ⟨a, len, cap, rfl⟩ := hs
  obtain ⟨fuel, hf⟩ := h
  rcases open_ints ht he hc hf with ⟨hcs, _⟩ | ⟨a', len', cap', zs, hcs, _, hl, hm, hz, _, hcell, hwz⟩
  · simp [Value.cells] at hcs
    obtain ⟨rfl, rfl, rfl⟩ := hcs
    exact ⟨[], Bys.nil W⟩
  · simp [Value.cells] at hcs
    obtain ⟨rfl, rfl, rfl⟩ := hcs
    have hzl : len ≤ zs.length := by rw [hz]; split <;> omega
    have hlen : ((zs.take len).map fun z => UInt8.ofNat z.toNat).length = len := by simp; omega
    refine ⟨(zs.take len).map fun z => UInt8.ofNat z.toNat, some a', cap, by rw [hlen], by rw [hlen]; exact hl, hm, fun hp => ?_⟩
    rw [hlen] at hp
    have h0 := hcell 0 (by omega)
    have ha : a' = ⟨a'.block, a'.off, none⟩ := addr_none (a := a') (by simpa [Addr.add] using h0)
    refine ⟨a'.block, a'.off, by rw [← ha], fun i u hi => ?_⟩
    have hil : i < len := by
      rcases Nat.lt_or_ge i len with h | h
      · exact h
      · rw [List.getElem?_eq_none (by rw [hlen]; exact h)] at hi; cases hi
    have hci := hcell i (by omega)
    rw [ha, add_plain] at hci
    rw [hci]
    have hzi : zs[i]? = some zs[i] := List.getElem?_eq_getElem (by omega)
    have hu : u = UInt8.ofNat zs[i].toNat := by
      simp only [List.getElem?_map, List.getElem?_take, hil, if_true, hzi, Option.map_some, Option.some.injEq] at hi
      exact hi.symm
    have hw := hwz zs[i] (List.getElem_mem _)
    obtain ⟨n, hn, hx⟩ := byte_of_wf hw
    rw [List.getD_eq_getElem?_getD, hzi, hu, hx]
    simp [UInt8.toNat_ofNat']
    omega
end
end Go.Mem
end
section
namespace Go.Mem
open Go Go.ChangeShapes Go.WideShapes Go.ChangeAt Go.RowKit Gf
def Opens (P : Program) (t : TypeId) {α : Type} (R : World → List Value → α → Prop) : Prop :=
  ∀ {H : Type} {enc : TypeId × Value → H} {W : World} {base : Nat} {spare : Nat → Bool} {held : Bool} {fuel : Nat} {cs : List Value} {x : DataW H × List MemPlace}, DataW.trod enc P W base spare held fuel t cs = some x → ∃ d : α, R W cs d
section
variable {P : Program}
theorem opens_int {t : TypeId} {k : IntKind} (ht : P.underlying t = some (.int k)) : Opens P t (fun _ cs (z : Int) => cs = [.int k z] ∧ (Lit.int k z).wf = true) := fun h => by
  obtain ⟨z, h1, _, h2⟩ := DataW.trod_int ht h
  exact ⟨z, h1, h2⟩
theorem opens_i64 {t : TypeId} (ht : P.underlying t = some (.int .i64)) : Opens P t (fun _ cs (z : Int) => cs = [.int .i64 z] ∧ -9223372036854775808 ≤ z ∧ z ≤ 9223372036854775807) := fun h => by
  obtain ⟨z, h1, h2⟩ := opens_int ht h
  exact ⟨z, h1, int_of_wf h2⟩
theorem opens_string {t : TypeId} (ht : P.underlying t = some .string) : Opens P t (fun _ cs (s : ByteArray) => cs = [.string s] ∧ s.size ≤ maxLen) := fun h => by
  obtain ⟨s, h1, _, h2⟩ := DataW.trod_string ht h
  exact ⟨s, h1, h2⟩
theorem opens_bytes {t t8 : TypeId} (ht : P.underlying t = some (.slice t8)) (h8 : P.underlying t8 = some (.int .u8)) (c8 : P.cellsOf t8 = 1) : Opens P t (fun W cs (bs : List UInt8) => ∃ v, cs = [v] ∧ Bys W v bs) := fun {_ _ W _ _ _ _ cs x} h => by
  have hsl : ∃ a len cap, cs = [.slice a len cap] := by
    rcases open_ints ht h8 c8 h with ⟨h9, _⟩ | ⟨a2, l2, cp2, _, h9, _⟩
    · exact ⟨_, _, _, h9⟩
    · exact ⟨_, _, _, h9⟩
  obtain ⟨a, l, c, rfl⟩ := hsl
  obtain ⟨bs, hbs⟩ := open_bys (v := .slice a l c) ht h8 c8 ⟨_, _, _, rfl⟩ ⟨_, h⟩
  exact ⟨bs, _, rfl, hbs⟩
theorem list_of_each {α : Type} {p : Nat → α → Prop} : ∀ (n : Nat), (∀ i, i < n → ∃ d, p i d) → ∃ l : List α, l.length = n ∧ ∀ i d, l[i]? = some d → p i d
  | 0, _ => ⟨[], rfl, fun i d h => by simp at h⟩
  | n + 1, h => by
    obtain ⟨l, h1, h2⟩ := list_of_each n fun i hi => h i (by omega)
    obtain ⟨d, hd⟩ := h n (by omega)
    refine ⟨l ++ [d], by simp [h1], fun i d' hi => ?_⟩
    by_cases e : i < l.length
    · rw [List.getElem?_append_left e] at hi; exact h2 i d' hi
    · rw [List.getElem?_append_right (by omega)] at hi
      by_cases e2 : i = l.length
      · subst e2; rw [Nat.sub_self] at hi; cases hi; rw [h1]; exact hd
      · rw [List.getElem?_eq_none (by simp; omega)] at hi; cases hi
theorem opens_field {t : TypeId} {fs : Array Field} (ht : P.underlying t = some (.struct fs)) {H : Type} {enc : TypeId × Value → H} {W : World} {base : Nat} {spare : Nat → Bool} {held : Bool} {fuel : Nat} {cs : List Value} {x : DataW H × List MemPlace}
    (h : DataW.trod enc P W base spare held fuel t cs = some x) {α : Type} {R : World → List Value → α → Prop} (i : Nat) (f : Field) (hf : fs[i]? = some f) (hR : Opens P f.type R) : ∃ d, R W ((cs.drop f.offset).take (P.cellsOf f.type)) d := by
  obtain ⟨xs, n, _, _, _, hl, hx⟩ := DataW.trod_struct ht h
  have hi : i < fs.size := by
    rcases Nat.lt_or_ge i fs.size with h | h
    · exact h
    · rw [Array.getElem?_eq_none h] at hf; cases hf
  have := hx i f hf
  rw [List.getElem?_eq_getElem (by omega)] at this
  exact hR this
theorem opens_size {t : TypeId} {fs : Array Field} (ht : P.underlying t = some (.struct fs)) {H : Type} {enc : TypeId × Value → H} {W : World} {base : Nat} {spare : Nat → Bool} {held : Bool} {fuel : Nat} {cs : List Value} {x : DataW H × List MemPlace}
    (h : DataW.trod enc P W base spare held fuel t cs = some x) : cs.length = P.cellsOf t := by
  obtain ⟨xs, n, _, _, hl, _, _⟩ := DataW.trod_struct ht h
  exact hl
def Sls (c : Nat) {α : Type} (R : World → List Value → α → Prop) (W : World) (v : Value) (l : List α) : Prop :=
  ∃ a cap, v = .slice a l.length cap ∧ l.length ≤ cap ∧ cap ≤ maxLen ∧
    (0 < l.length → ∃ b off, a = some ⟨b, off, none⟩ ∧ ∀ i d, l[i]? = some d → ∃ cs : List Value, cs.length = c ∧ (∀ j v, cs[j]? = some v → W.cell? ⟨b, off + i * c + j, none⟩ = some v) ∧ R W cs d)
theorem opens_slice {t e : TypeId} {c : Nat} {α : Type} {R : World → List Value → α → Prop} (ht : P.underlying t = some (.slice e)) (hc : P.cellsOf e = c) (h0 : 0 < c) (hR : Opens P e R) :
    Opens P t (fun W cs (l : List α) => ∃ v, cs = [v] ∧ Sls c R W v l) := fun {_ _ W _ _ _ _ cs x} h => by
  rcases Deep.open_slice ht h with ⟨hcs, _⟩ | ⟨a', len', cap', m, n, D, Pl, hcs, _, hl, hm, hmm, _, hx⟩
  · exact ⟨[], _, hcs, none, 0, rfl, Nat.le_refl _, Nat.zero_le _, fun h => by simp at h⟩
  · have hlm : len' ≤ m := by rw [hmm]; split <;> omega
    rw [hc] at hx
    obtain ⟨l, h1, h2⟩ := list_of_each (p := fun i d => ∃ cs : List Value, cs.length = c ∧ (∀ j, j < c → W.cell? ((a'.add (i * c)).add j) = cs[j]?) ∧ R W cs d) len' fun i hi => by
      obtain ⟨cs', k1, k2⟩ := hx i (by omega)
      obtain ⟨_, k3, k4⟩ := World.cells?_some k1
      obtain ⟨d, hd⟩ := hR k2
      exact ⟨d, cs', k3, k4, hd⟩
    refine ⟨l, _, hcs, some a', cap', by rw [h1], by rw [h1]; exact hl, hm, fun hp => ?_⟩
    obtain ⟨cs0, k3, k4, _⟩ := h2 0 l[0] (List.getElem?_eq_getElem hp)
    have ha : a' = ⟨a'.block, a'.off, none⟩ := by
      have := k4 0 h0
      rw [List.getElem?_eq_getElem (by omega)] at this
      exact addr_none (a := a') (by simpa [Addr.add] using this)
    refine ⟨a'.block, a'.off, by rw [← ha], fun i d hi => ?_⟩
    obtain ⟨cs', k5, k6, k7⟩ := h2 i d hi
    refine ⟨cs', k5, fun j v hj => ?_, k7⟩
    have hjc : j < c := by
      rcases Nat.lt_or_ge j c with h | h
      · exact h
      · rw [List.getElem?_eq_none (by omega)] at hj; cases hj
    have := k6 j hjc
    rw [ha, add_plain, add_plain, hj] at this
    exact this
theorem opens_arg {t : TypeId} {α : Type} {R : World → Value → α → Prop} (hO : Opens P t (fun W cs d => ∃ v, cs = [v] ∧ R W v d)) {H : Type} {enc : TypeId × Value → H} {W : World} {base : Nat} {spare : Nat → Bool} {held : Bool} {v : Value} {x : DataW H × List MemPlace}
    (hv : ∃ a len cap, v = .slice a len cap) (h : ∃ fuel, DataW.trod enc P W base spare held fuel t v.cells.toList = some x) : ∃ d, R W v d := by
  obtain ⟨a, len, cap, rfl⟩ := hv
  obtain ⟨fuel, hf⟩ := h
  obtain ⟨d, v', e, hr⟩ := hO hf
  simp [Value.cells] at e
  subst e
  exact ⟨d, hr⟩
theorem Sls.len {c : Nat} {α : Type} {R : World → List Value → α → Prop} {W : World} {v : Value} {l : List α} (h : Sls c R W v l) : l.length ≤ 9223372036854775807 := by
  obtain ⟨a, cap, _, h1, h2, _⟩ := h
  unfold maxLen at h2; omega
theorem Sls.at {c : Nat} {α : Type} {R : World → List Value → α → Prop} {w : World} {a : Option Addr} {n cap : Nat} {l : List α} (h : Sls c R w (.slice a n cap) l) (i : Nat) (hi : i < l.length) :
    ∃ b off d cs, a = some ⟨b, off, none⟩ ∧ Hid (l[i]? = some d) ∧ cs.length = c ∧ (∀ j v, cs[j]? = some v → w.cell? ⟨b, off + i * c + j, none⟩ = some v) ∧ R w cs d := by
  obtain ⟨a', cap', e, h1, h2, h3⟩ := h
  obtain ⟨b, off, e', h4⟩ := h3 (by omega)
  injection e with e1 e2 e3
  obtain ⟨cs, h5, h6, h7⟩ := h4 i l[i] (List.getElem?_eq_getElem hi)
  exact ⟨b, off, l[i], cs, e1.trans e', by show l[i]? = _; simp [hi], h5, h6, h7⟩
theorem Sls.eq_slice {c : Nat} {α : Type} {R : World → List Value → α → Prop} {w : World} {v : Value} {l : List α} (h : Sls c R w v l) : ∃ a cap, v = .slice a l.length cap := by
  obtain ⟨a, cap, e, _⟩ := h; exact ⟨a, cap, e⟩
end
end Go.Mem
end
section
namespace Go.Mem
open Go Go.ChangeShapes Go.WideShapes Go.ChangeAt Go.RowKit Gf
structure ActS where
  op : Int
  at_ : Int
  keep : Int
  name : ByteArray
  bs : List UInt8
def ActSR (W : World) (cs : List Value) (a : ActS) : Prop :=
  ∃ v, cs = [.int .i64 a.op, .int .i64 a.at_, .int .i64 a.keep, .string a.name, v] ∧ Bys W v a.bs ∧ a.at_ ≤ 9223372036854775807 ∧ a.name.size ≤ maxLen
theorem opens_acts {P : Program} {t ti ts tb t8 : TypeId} {f0 f1 f2 f3 f4 : Field} (ht : P.underlying t = some (.struct #[f0, f1, f2, f3, f4])) (hi : P.underlying ti = some (.int .i64)) (hs : P.underlying ts = some .string) (hb : P.underlying tb = some (.slice t8)) (h8 : P.underlying t8 = some (.int .u8))
    (e0 : f0.type = ti) (e1 : f1.type = ti) (e2 : f2.type = ti) (e3 : f3.type = ts) (e4 : f4.type = tb) (o0 : f0.offset = 0) (o1 : f1.offset = 1) (o2 : f2.offset = 2) (o3 : f3.offset = 3) (o4 : f4.offset = 4)
    (ct : P.cellsOf t = 5) (ci : P.cellsOf ti = 1) (cs' : P.cellsOf ts = 1) (cb : P.cellsOf tb = 1) (c8 : P.cellsOf t8 = 1) : Opens P t ActSR := fun {_ _ W _ _ _ _ cs x} h => by
  have hl := opens_size ht h
  obtain ⟨z0, r0, _⟩ := opens_field ht h 0 f0 rfl (by rw [e0]; exact opens_i64 hi)
  obtain ⟨z1, r1, b1⟩ := opens_field ht h 1 f1 rfl (by rw [e1]; exact opens_i64 hi)
  obtain ⟨z2, r2, _⟩ := opens_field ht h 2 f2 rfl (by rw [e2]; exact opens_i64 hi)
  obtain ⟨z3, r3, b3⟩ := opens_field ht h 3 f3 rfl (by rw [e3]; exact opens_string hs)
  obtain ⟨bs, v, r4, hv⟩ := opens_field ht h 4 f4 rfl (by rw [e4]; exact opens_bytes hb h8 c8)
  rw [ct] at hl
  rw [e0, ci, o0] at r0; rw [e1, ci, o1] at r1; rw [e2, ci, o2] at r2; rw [e3, cs', o3] at r3; rw [e4, cb, o4] at r4
  match cs, hl, r0, r1, r2, r3, r4 with
  | [a, b, c, d, e], _, r0, r1, r2, r3, r4 =>
    simp at r0 r1 r2 r3 r4
    obtain ⟨rfl⟩ := r0; obtain ⟨rfl⟩ := r1; obtain ⟨rfl⟩ := r2; obtain ⟨rfl⟩ := r3; obtain ⟨rfl⟩ := r4
    exact ⟨⟨z0, z1, z2, z3, bs⟩, _, rfl, hv, b1.2, b3⟩
end Go.Mem
namespace Go.Proofs.YtehgnkdfnnebcaaGreatDoor
open Go Go.RowKit Go.Mem Gf
attribute [local go_sem ↓] Go.wp_at_zero Go.wp_at_succ
theorem acts11_open : Opens Tryz.prog 22 (fun W cs (l : List ActS) => ∃ v, cs = [v] ∧ Sls 5 ActSR W v l) :=
  opens_slice Tryz.underlying22 (by kernel_rfl) (by decide)
    (opens_acts Tryz.underlying31 Tryz.underlying3 Tryz.underlying9 Tryz.underlying29 Tryz.underlying5 rfl rfl rfl rfl rfl rfl rfl rfl rfl rfl (by kernel_rfl) (by kernel_rfl) (by kernel_rfl) (by kernel_rfl) (by kernel_rfl))
theorem bys_cut {w : World} {a : Option Addr} {l cap : Nat} {bs : List UInt8} (h : Bys w (.slice a l cap) bs) (n : Nat) : Bys w (.slice a (min (l : Int) (n : Int)).toNat cap) (bs.take n) := by
  have hl : l = bs.length := by obtain ⟨a', c', e, _⟩ := h; injection e
  by_cases hlt : n < l
  · rw [show (min (l : Int) (n : Int)).toNat = n from by omega]
    exact h.take n (by omega)
  · rw [show (min (l : Int) (n : Int)).toNat = l from by omega, List.take_of_length_le (by omega)]
    exact h
set_option maxRecDepth 100000 in
set_option maxHeartbeats 1000000 in
theorem cut8_val {a : Option Addr} {l cap : Nat} {bs : List UInt8} (n : Nat) (w : World) (h : Bys w (.slice a l cap) bs) :
    Calls Tryz.prog 25 #[.slice a l cap, .int .i64 n] w fun e w' => e = .returned (.slice a (min (l : Int) (n : Int)).toNat cap) ∧ w = w' := by
  have hl := h.len
  obtain ⟨a', c', e, h1, h2, h3⟩ := id h
  injection e with e1 e2 e3
  subst e1 e3
  rw [← e2] at hl h1
  clear e2 h3 h
  by_cases hlt : n < l
  · go_enter Tryz.func25, Tryz.ntmps25
    go_wp2
    go_ret
    exact ⟨rfl, rfl⟩
  · go_enter Tryz.func25, Tryz.ntmps25
    go_wp2
    go_ret
    exact ⟨rfl, rfl⟩
end Go.Proofs.YtehgnkdfnnebcaaGreatDoor
end
section
namespace Go.Proofs.YtehgnkdfnnebcaaGreatDoor
open Go Go.RowKit Go.Mem Gf
attribute [local go_sem ↓] Go.wp_at_zero Go.wp_at_succ
set_option maxRecDepth 20000 in
set_option maxHeartbeats 2000000 in
theorem wakes11_calls (w : World) (hT : Tab w) : Calls Tryz.prog 8 #[] w fun e w' => e = .returned (.bool true) ∧ Below w.heap.size w w' := by
  have HT := Lib.hid hT
  clear hT
  go_enter Tryz.func8, Tryz.ntmps8
  go_wp2_with fail
  refine (lab_new 12 w w HT.out (Below.refl _ _) (by omega) (by omega)).mono ?_
  rintro e w1 ⟨d, L, rfl, hl1, ht, _⟩
  have Ht := Lib.hid ht; have H1 := Lib.hid hl1
  clear ht hl1
  go_wp2_with fail
  refine (lab_open_uniq H1.out Ht.out (slots := 4) (room := 2) (by omega) (by omega) (by decide) (l := List.replicate 4 Sto.Rec.free) rfl (Holds.fresh 4 2) rfl (uniq_free 4)).mono ?_
  rintro e w2 ⟨sb, lb, rfl, hs2, _⟩
  obtain ⟨s0, hs0⟩ : ∃ s0 : St, s0 = ⟨2, List.replicate 4 Sto.Rec.free, false, .fresh (4 * (2 + 1))⟩ := ⟨_, rfl⟩
  have hS2 : LabS w w2 sb lb d L s0 := by rw [hs0]; exact hs2
  have hg0 : SGood 0 s0 := by rw [hs0]; exact SGood.fresh 4 2 (by omega)
  have hroom : s0.room = 2 := by rw [hs0]
  have hlen : s0.recs.length = 4 := by rw [hs0]; rfl
  have hlive : liveN s0.recs = 0 := by rw [hs0]; exact live_free 4
  have H2 := Lib.hid hS2
  clear hs2 hs0 hS2
  obtain ⟨p1, g1, r1, ro1⟩ := hg0.put (by omega) (name := ⟨#[97]⟩) (data := [1]) (fits_of (by decide) (by decide) (by rw [hroom]; decide)) (slot_of_live (by omega))
  have hlook : Sto.look (putF s0.recs ⟨#[97]⟩ [1]) ⟨#[97]⟩ = some [1] := by
    have ht := slot_of_live (l := s0.recs) (by omega)
    rw [(putL_thin ht _ _).look, putL_look ht, if_pos rfl]
  have hlen1 : (putF s0.recs ⟨#[97]⟩ [1]).length = 4 := by rw [putF_len, hlen]
  have hliv1 : liveN (putF s0.recs ⟨#[97]⟩ [1]) ≤ 1 := by rw [live_putF (slot_of_live (by omega))]; split <;> omega
  have hw0 := hg0.writes
  have P1 := Lib.hid p1
  go_wp2_with fail
  refine (lab_put_new H2.out ((Below.refl _ _).alloc (Nat.le_refl _) (.cells #[.int .u8 1] 5)) ⟨#[97]⟩ ⟨w2.heap.size, 0, none⟩ 1 1 [1] (bys_lit #[.int .u8 1] rfl (by decide) 1 rfl) (Nat.le_refl _) (by decide) (by decide) (by omega)).mono ?_
  rintro e w3 ⟨rfl, hs3, _⟩
  rw [P1.out]
  obtain ⟨s1, hs1⟩ : ∃ s1, s1 = (putR s0 ⟨#[97]⟩ [1]).2 := ⟨_, rfl⟩
  rw [← hs1] at hs3 g1 r1 ro1
  rw [← r1] at hlook hlen1 hliv1
  have H3 := Lib.hid hs3; have G1 := Lib.hid g1; have HLO := Lib.hid hlook
  have hro : s1.room = 2 := ro1.trans hroom
  clear hs1 hs3 g1 r1 ro1 hlook P1 hg0 p1 hw0 hlive hlen hroom
  go_wp2_with fail
  refine (lab_stop H3.out 0 0 (by decide)).mono ?_
  rintro e w4 ⟨rfl, hs4, _⟩
  have hw4 : s1.disk.writes ≤ 2000 := G1.out.writes
  have hpd := put_dead (s := { s1 with disk := s1.disk.stop 0 0 }) (name := ⟨#[97]⟩) (data := [2]) (G1.out.holds.stop 0 0) G1.out.disk G1.out.dead rfl rfl (by show 1 ≤ s1.room; omega) (fits_of (by decide) (by decide) (by show _ ≤ s1.room * 32; rw [hro]; decide)) (slot_of_live (by show liveN s1.recs < s1.recs.length; omega))
  have hpr : (putR { s1 with disk := s1.disk.stop 0 0 } ⟨#[97]⟩ [2]).2.disk.writes ≤ 2004 := by
    have h1 := put_writes { s1 with disk := s1.disk.stop 0 0 } ⟨#[97]⟩ [2]
    have h2 : (s1.disk.stop 0 0).writes = s1.disk.writes := rfl
    simp only [h2] at h1
    omega
  obtain ⟨s2, hs2⟩ : ∃ s2 : St, s2 = { s1 with disk := s1.disk.stop 0 0 } := ⟨_, rfl⟩
  have hws : s2.disk.writes ≤ 2000 := by rw [hs2]; exact hw4
  have hr2 : s2.recs = s1.recs ∧ s2.room = s1.room := by rw [hs2]; exact ⟨rfl, rfl⟩
  rw [← hs2] at hs4 hpd hpr
  have H4 := Lib.hid hs4
  obtain ⟨pd1, pd2, pd3, pd4, pd5⟩ := hpd
  have PD := Lib.hid pd1
  clear hs4 pd1 hs2
  go_wp2_with fail
  refine (lab_put_new H4.out ((Below.refl _ _).alloc (Nat.le_refl _) (.cells #[.int .u8 2] 5)) ⟨#[97]⟩ ⟨w4.heap.size, 0, none⟩ 1 1 [2] (bys_lit #[.int .u8 2] rfl (by decide) 1 rfl) (Nat.le_refl _) (by decide) (by decide) (by omega)).mono ?_
  rintro e w5 ⟨rfl, hs5, _⟩
  rw [PD.out]
  obtain ⟨s3, hs3⟩ : ∃ s3, s3 = (putR s2 ⟨#[97]⟩ [2]).2 := ⟨_, rfl⟩
  rw [← hs3] at hs5 pd2 pd3 pd4 pd5 hpr
  rw [hr2.1, hr2.2, hro] at pd5
  have H5 := Lib.hid hs5; have PD5 := Lib.hid pd5
  clear hs3 hs5 pd2 pd3 pd4 PD pd5
  go_wp2_with fail
  refine (lab_start H5.out).mono ?_
  rintro e w6 ⟨rfl, hs6, _⟩
  have H6 := Lib.hid hs6
  clear hs6
  go_wp2_with fail
  refine (lab_open_uniq H6.out.lab Ht.out (slots := 4) (room := 2) (by omega) (by omega) (by show s3.disk.writes < _; omega) hlen1 PD5.out.start rfl G1.out.uniq).mono ?_
  rintro e w7 ⟨sb2, lb2, rfl, hs7, _⟩
  have H7 := Lib.hid hs7
  clear hs7
  go_wp2_with fail
  refine (sget_calls _ sb2 lb2 d L _ ⟨#[97]⟩ w7 H7.out.st).mono ?_
  rintro e w8 ⟨hb8, v, rfl, hv⟩
  rw [St.get_look rfl, HLO.out] at hv ⊢
  have H8 := Lib.hid (H7.out.step hb8).bel
  have HV := Lib.hid hv
  clear hv hb8
  simp only [Option.isSome_some]
  go_wp2_with fail
  refine (same8_yes _ _ [1] [1] _ (HV.out.bys.below ((Below.refl _ _).alloc (Nat.le_refl _) _)) (bys_lit #[.int .u8 1] rfl (by decide) 1 rfl) rfl).mono ?_
  rintro e w9 ⟨rfl, dr, rfl⟩
  go_wp2
  go_ret
  exact ⟨rfl, below_drewN (H8.out.alloc H8.out.size _) _⟩
end Go.Proofs.YtehgnkdfnnebcaaGreatDoor
end
section
namespace Go.Proofs.YtehgnkdfnnebcaaGreatDoor
open Go Go.RowKit Go.Mem Gf
set_option linter.unusedVariables false
def pairC (d r : Nat) (v1 v3 : Value) (slots room : Nat) : Array Value := #[.pointer (some ⟨d, 0, none⟩), v1, .pointer (some ⟨r, 0, none⟩), v3, .int .i64 slots, .int .i64 room]
structure PairB (w0 w : World) (p d Ld r B : Nat) (m slots room : Nat) (D : DiskS) (v1 v3 : Value) : Prop where
  blk : Blk w p (pairC d r v1 v3 slots room) 43
  disk : IsDisk w d Ld D
  rd : RDisk w r B D
  bel : Below w0.heap.size w0 w
  far : w0.heap.size ≤ p ∧ w0.heap.size ≤ d ∧ w0.heap.size ≤ Ld ∧ w0.heap.size ≤ r ∧ w0.heap.size ≤ B
  ne : p ≠ d ∧ p ≠ Ld ∧ p ≠ r ∧ p ≠ B ∧ d ≠ r ∧ d ≠ B ∧ Ld ≠ r ∧ Ld ≠ B
  tab : Tab w
  tab0 : Tab w0
  n : D.n = slots * (room + 1)
  few : D.writes ≤ 2000 * m
  s1 : 1 ≤ slots ∧ slots ≤ 10
  r1 : 1 ≤ room ∧ room ≤ 10
  m1 : 4294967296 ≤ m
section
variable {w0 w w' : World} {p d Ld r B m slots room : Nat} {D D' : DiskS} {v1 v3 : Value}
theorem PairB.chg {S : Nat → Prop} (h : PairB w0 w p d Ld r B m slots room D v1 v3) (hc : Chg S w w') (hS : ∀ b, S b → w0.heap.size ≤ b) (hp : ¬ S p ∧ ¬ S d ∧ ¬ S Ld ∧ ¬ S r ∧ ¬ S B) : PairB w0 w' p d Ld r B m slots room D v1 v3 :=
  { h with
    blk := hc.blk h.blk hp.1
    disk := h.disk.chg hc hp.2.1 hp.2.2.1
    rd := h.rd.chg hc hp.2.2.2.1 hp.2.2.2.2
    bel := Chg.far h.bel hc h.bel.size hS
    tab := h.tab.chg hc (fun e => by have := hS _ e; have := h.tab0.lt; omega) }
theorem PairB.step (h : PairB w0 w p d Ld r B m slots room D v1 v3) (hb : Below w.heap.size w w') : PairB w0 w' p d Ld r B m slots room D v1 v3 :=
  h.chg (S := fun _ => False) (Chg.of_below hb) (fun _ h => h.elim) ⟨id, id, id, id, id⟩
theorem PairB.more (h : PairB w0 w p d Ld r B m slots room D v1 v3) {m' : Nat} (hm : m ≤ m') : PairB w0 w p d Ld r B m' slots room D v1 v3 :=
  { h with few := by have := h.few; omega, m1 := by have := h.m1; omega }
theorem PairB.lt (h : PairB w0 w p d Ld r B m slots room D v1 v3) : p < w.heap.size ∧ d < w.heap.size ∧ Ld < w.heap.size ∧ r < w.heap.size ∧ B < w.heap.size :=
  ⟨h.blk.lt, h.disk.lt.1, h.disk.lt.2, h.rd.lt.1, h.rd.lt.2⟩
end
structure PairS (w0 w : World) (N : Nat → Prop) (p d Ld sb lb r B q : Nat) (lv : Value) (ps : List RP) (m slots room : Nat) (s : St) (L : List RRec) : Prop where
  base : PairB w0 w p d Ld r B m slots room s.disk (.pointer (some ⟨sb, 0, none⟩)) (.pointer (some ⟨q, 0, none⟩))
  st : IsStore w N sb lb d Ld s
  rs : RStore w N q r B lv ps s.disk slots room L s.dead
  dup : Dup m slots s L
  room : s.room = room
  np : N p
  nfar : ∀ b, N b → w0.heap.size ≤ b
  ne : p ≠ sb ∧ p ≠ lb ∧ p ≠ q ∧ sb ≠ r ∧ sb ≠ B ∧ sb ≠ q ∧ lb ≠ r ∧ lb ≠ B ∧ lb ≠ q ∧ q ≠ d ∧ q ≠ Ld
section
variable {w0 w w' : World} {N S : Nat → Prop} {p d Ld sb lb r B q : Nat} {lv : Value} {ps : List RP} {m slots room : Nat} {s : St} {L : List RRec}
theorem PairS.chg (h : PairS w0 w N p d Ld sb lb r B q lv ps m slots room s L) (hc : Chg S w w') (hS : ∀ b, S b → w0.heap.size ≤ b) (hs : ∀ b, S b → b < w.heap.size → N b)
    (hp : ¬ S p ∧ ¬ S d ∧ ¬ S Ld ∧ ¬ S r ∧ ¬ S B ∧ ¬ S sb ∧ ¬ S lb ∧ ¬ S q) : PairS w0 w' N p d Ld sb lb r B q lv ps m slots room s L :=
  { h with
    base := h.base.chg hc hS ⟨hp.1, hp.2.1, hp.2.2.1, hp.2.2.2.1, hp.2.2.2.2.1⟩
    st := h.st.chg hc (fun b hb => by rcases hb with rfl | rfl | rfl | rfl; exact hp.2.2.2.2.2.1; exact hp.2.2.2.2.2.2.1; exact hp.2.1; exact hp.2.2.1) hs
    rs := h.rs.chg hc hs (fun b hb => by rcases hb with rfl | rfl | rfl; exact hp.2.2.2.2.2.2.2; exact hp.2.2.2.1; exact hp.2.2.2.2.1) }
theorem PairS.step (h : PairS w0 w N p d Ld sb lb r B q lv ps m slots room s L) (hb : Below w.heap.size w w') : PairS w0 w' N p d Ld sb lb r B q lv ps m slots room s L :=
  h.chg (S := fun _ => False) (Chg.of_below hb) (fun _ h => h.elim) (fun _ h => h.elim) ⟨id, id, id, id, id, id, id, id⟩
theorem PairS.grow {M : Nat → Prop} (h : PairS w0 w N p d Ld sb lb r B q lv ps m slots room s L) (hb : Below w.heap.size w w') (hM : ∀ b, M b → N b ∨ w.heap.size ≤ b) (hNM : ∀ b, N b → M b) (hold : ∀ b, M b → b < w'.heap.size) : PairS w0 w' M p d Ld sb lb r B q lv ps m slots room s L :=
  { h with
    base := h.base.step hb
    st := h.st.grow (S := fun _ => False) (Chg.of_below hb) (fun _ _ => id) (fun _ h => h.elim) hM hNM hold
    rs := by
      have h1 := h.rs
      have h2 := h1.chg (S := fun _ => False) (Chg.of_below hb) (fun _ h => h.elim) (fun _ _ h => h)
      exact { h2 with
        row := (h1.row.mono hM).chg (S := fun _ => False) (Chg.of_below hb) (fun _ h => h.elim)
        recs := (h1.recs.mono hM).chg (S := fun _ => False) (Chg.of_below hb) (fun _ h => h.elim)
        nq := hNM _ h1.nq
        nr := hNM _ h1.nr
        nB := hNM _ h1.nB }
    np := hNM _ h.np
    nfar := fun b hb' => (hM b hb').elim (h.nfar b) (fun e => Nat.le_trans h.base.bel.size e) }
end
def tupAt (v : Value) (i : Nat) : Value := match v with
  | .tuple a => (a[i]?).getD undef
  | _ => undef
def Par (w0 w : World) (p d Ld r B m slots room : Nat) : Prop :=
  (∃ D, PairB w0 w p d Ld r B m slots room D (.pointer none) (.pointer none)) ∨ ∃ N sb lb q lv ps s L, PairS w0 w N p d Ld sb lb r B q lv ps m slots room s L
theorem Par.step {w0 w w' : World} {p d Ld r B m slots room : Nat} (h : Par w0 w p d Ld r B m slots room) (hb : Below w.heap.size w w') : Par w0 w' p d Ld r B m slots room := by
  rcases h with ⟨D, h⟩ | ⟨N, sb, lb, q, lv, ps, s, L, h⟩
  · exact .inl ⟨D, h.step hb⟩
  · exact .inr ⟨N, sb, lb, q, lv, ps, s, L, h.step hb⟩
theorem Par.bel {w0 w : World} {p d Ld r B m slots room : Nat} (h : Par w0 w p d Ld r B m slots room) : Below w0.heap.size w0 w := by
  rcases h with ⟨D, h⟩ | ⟨N, sb, lb, q, lv, ps, s, L, h⟩
  · exact h.bel
  · exact h.base.bel
theorem Par.tab {w0 w : World} {p d Ld r B m slots room : Nat} (h : Par w0 w p d Ld r B m slots room) : Tab w := by
  rcases h with ⟨D, h⟩ | ⟨N, sb, lb, q, lv, ps, s, L, h⟩
  · exact h.tab
  · exact h.base.tab
end Go.Proofs.YtehgnkdfnnebcaaGreatDoor
end
section
namespace Go.Proofs.YtehgnkdfnnebcaaGreatDoor
open Go Go.RowKit Go.Mem Gf
set_option linter.unusedVariables false
set_option linter.unusedSimpArgs false
attribute [local go_sem ↓] Go.wp_at_zero Go.wp_at_succ
def Op1 (p d Ld r B : Nat) (D : DiskS) (slots room : Nat) (w : World) (x y : Value) (w' : World) : Prop :=
  y = .int .i64 (openR D slots room).1 ∧ Chg (fun b => b = d ∨ b = Ld) w w' ∧ IsDisk w' d Ld (openR D slots room).2.1 ∧
    (((openR D slots room).2.2 = none ∧ x = .pointer none) ∨ ∃ s lb, (openR D slots room).2.2 = some s ∧ x = .pointer (some ⟨w.heap.size, 0, none⟩) ∧ w.heap.size < lb ∧ IsStore w' (fun b => (b = p ∨ b = d ∨ b = Ld ∨ b = r ∨ b = B) ∨ b = w.heap.size ∨ b = lb) w.heap.size lb d Ld s)
theorem open_two (w0 w : World) (dn p d Ld r B m slots room : Nat) (D : DiskS) (v1 v3 : Value) (h : PairB w0 w p d Ld r B m slots room D v1 v3) (hm : m ≤ 5000000000) :
    Calls Tryz.prog 38 #[.pointer (some ⟨d, 0, none⟩), .int .i64 slots, .int .i64 room] (w.drewN dn) fun e w' => ∃ x y, e = .returned (.tuple #[x, y]) ∧ Op1 p d Ld r B D slots room w x y w' := by
  have hb := below_drewN (Below.refl w.heap.size w) dn
  have h1 := h.step hb
  refine (open_calls (fun b => b = p ∨ b = d ∨ b = Ld ∨ b = r ∨ b = B) d Ld D slots room _ h1.tab ⟨?_, .inr (.inl rfl), .inr (.inr (.inl rfl)), ?_⟩ h1.disk (by have := h.s1; simp; omega) (by have := h.r1; simp; omega) h.n (by have := h.few; omega)).mono ?_
  · intro hk
    have h1 := h.tab0.lt
    have h2 := h.far
    omega
  · intro b hb
    have := h.lt
    show b < w.heap.size
    omega
  rintro e w1 ⟨pv, rfl, hc1, hD1, hp1⟩
  exact ⟨pv, _, rfl, rfl, (Chg.of_below hb).trans hc1, hD1, hp1⟩
def Op2 (D : DiskS) (slots room : Nat) (N : Nat → Prop) (r B : Nat) (w : World) (x y : Value) (w' : World) : Prop :=
  ((ropenR D slots room).1 = 0 ∧ ∃ q lv ps, x = .pointer (some ⟨q, 0, none⟩) ∧ y = .int .i64 0 ∧ w.heap.size ≤ q ∧ RStore w' (fun b => N b ∨ b = q) q r B lv ps (ropenR D slots room).2.1 slots room (ropenR D slots room).2.2 false ∧ Chg (fun b => b = r ∨ b = B) w w') ∨
  ((ropenR D slots room).1 = 8 ∧ x = .pointer none ∧ y = .int .i64 8 ∧ RDisk w' r B (ropenR D slots room).2.1 ∧ Chg (fun b => b = r ∨ b = B) w w')
theorem ropen_two (w : World) (dn r B : Nat) (D : DiskS) (slots room : Nat) (h : RDisk w r B D) (hn : D.n = slots * (room + 1)) (h1 : 1 ≤ slots ∧ slots ≤ 10) (h2 : 1 ≤ room ∧ room ≤ 10) (N : Nat → Prop) (hN : (∀ b, N b → b < w.heap.size) ∧ N r ∧ N B) (hfew : D.writes < 4611686018427000000) :
    Calls Tryz.prog 39 #[.pointer (some ⟨r, 0, none⟩), .int .i64 slots, .int .i64 room] (w.drewN dn) fun e w' => ∃ x y, e = .returned (.tuple #[x, y]) ∧ Op2 D slots room N r B w x y w' := by
  have hb := below_drewN (Below.refl w.heap.size w) dn
  refine (ropen_calls r B D slots room _ (h.below hb) hn (by omega) (by omega) N hN.1 hN.2.1 hN.2.2 hfew).mono ?_
  rintro e w1 hp
  rcases hp with ⟨h0, q, lv, ps, rfl, hq, hs, hc⟩ | ⟨h0, rfl, hd, hc⟩
  · exact ⟨_, _, rfl, .inl ⟨h0, q, lv, ps, rfl, rfl, hq, hs, (Chg.of_below hb).trans hc⟩⟩
  · exact ⟨_, _, rfl, .inr ⟨h0, rfl, rfl, hd, (Chg.of_below hb).trans hc⟩⟩
set_option maxRecDepth 20000 in
set_option maxHeartbeats 4000000 in
theorem popen_calls (w0 w : World) (p d Ld r B m slots room : Nat) (Ds : DiskS) (v1 v3 : Value) (h : PairB w0 w p d Ld r B m slots room Ds v1 v3) (hm : m ≤ 5000000000) :
    Calls Tryz.prog 11 #[.pointer (some ⟨p, 0, none⟩)] w fun e w' => e = .returned (.bool true) ∧ Par w0 w' p d Ld r B (m + 1) slots room := by
  have HC0 := Lib.hid (show ∀ w', Below w.heap.size w w' → w'.cell? ⟨p, 0, none⟩ = some (.pointer (some ⟨d, 0, none⟩)) from fun w' hb => (h.step hb).blk.cell 0)
  have HC4 := Lib.hid (show ∀ w', Below w.heap.size w w' → w'.cell? ⟨p, 4, none⟩ = some (.int .i64 slots) from fun w' hb => (h.step hb).blk.cell 4)
  have HC5 := Lib.hid (show ∀ w', Below w.heap.size w w' → w'.cell? ⟨p, 5, none⟩ = some (.int .i64 room) from fun w' hb => (h.step hb).blk.cell 5)
  have H := Lib.hid h
  have HD := Lib.hid (open_dup Ds slots room h.n h.s1.1 (by have := h.s1.2; omega) h.m1 h.few)
  have HM := Lib.hid hm
  clear h hm
  go_enter Tryz.func11, Tryz.ntmps11
  go_upto_region 1 with fail
  refine Tail.wp_region_J 17 (fun k => k == 12) (fun k => none)
    (fun D z w' => (D 12 = false → ∃ n, w' = World.drewN w n) ∧ (D 12 = true → ∃ x y, z 12 = .tuple #[x, y] ∧ Op1 p d Ld r B Ds slots room w x y w'))
    (by kernel_rfl) (by kernel_rfl) (fun k hk => by simp at hk; omega) (fun D z z' w' hz h => ⟨h.1, fun d => by rw [← hz 12 d]; exact h.2 d⟩)
    (⟨fun _ => ⟨1, rfl⟩, (fun h => by cases h)⟩) (fun z => ?_)
  simp only [List.take_succ_cons, List.take_zero, List.drop_succ_cons, List.drop_zero]
  refine Tail.J_ex (by rfl) (by rfl) ?_
  apply Exists.intro
  refine ⟨fun w => ?_, ?_⟩
  · go_simp <;> with_reducible rfl
  simp only [Act.put, List.setIfInBounds_toArray, List.set_cons_zero, List.set_cons_succ, Nat.reduceAdd, Nat.reduceEqDiff, reduceIte, Option.getD_some, Option.getD_none]
  refine Tail.J_ex (by rfl) (by rfl) ?_
  apply Exists.intro
  refine ⟨fun w => ?_, ?_⟩
  · go_simp <;> with_reducible rfl
  simp only [Act.put, List.setIfInBounds_toArray, List.set_cons_zero, List.set_cons_succ, Nat.reduceAdd, Nat.reduceEqDiff, reduceIte, Option.getD_some, Option.getD_none]
  refine Tail.J_ex (by rfl) (by rfl) ?_
  apply Exists.intro
  refine ⟨fun w => ?_, ?_⟩
  · go_simp <;> with_reducible rfl
  simp only [Act.put, List.setIfInBounds_toArray, List.set_cons_zero, List.set_cons_succ, Nat.reduceAdd, Nat.reduceEqDiff, reduceIte, Option.getD_some, Option.getD_none]
  refine Tail.J_at (by rfl) (by rfl) ?_
  apply Exists.intro
  refine ⟨fun D w' hd hp hJ => ?_, ?_⟩
  · obtain ⟨dn, hdn⟩ := hJ.1 (hp 12 (by kernel_rfl))
    have cc := HC0.out w' (by rw [hdn]; exact below_drewN (Below.refl _ _) dn)
    clear hdn dn
    go_simp <;> with_reducible rfl
  simp only [Act.put, List.setIfInBounds_toArray, List.set_cons_zero, List.set_cons_succ, Nat.reduceAdd, Nat.reduceEqDiff, reduceIte, Option.getD_some, Option.getD_none]
  refine Tail.J_ex (by rfl) (by rfl) ?_
  apply Exists.intro
  refine ⟨fun w => ?_, ?_⟩
  · go_simp <;> with_reducible rfl
  simp only [Act.put, List.setIfInBounds_toArray, List.set_cons_zero, List.set_cons_succ, Nat.reduceAdd, Nat.reduceEqDiff, reduceIte, Option.getD_some, Option.getD_none]
  refine Tail.J_ex (by rfl) (by rfl) ?_
  apply Exists.intro
  refine ⟨fun w => ?_, ?_⟩
  · go_simp <;> with_reducible rfl
  simp only [Act.put, List.setIfInBounds_toArray, List.set_cons_zero, List.set_cons_succ, Nat.reduceAdd, Nat.reduceEqDiff, reduceIte, Option.getD_some, Option.getD_none]
  refine Tail.J_ex (by rfl) (by rfl) ?_
  apply Exists.intro
  refine ⟨fun w => ?_, ?_⟩
  · go_simp <;> with_reducible rfl
  simp only [Act.put, List.setIfInBounds_toArray, List.set_cons_zero, List.set_cons_succ, Nat.reduceAdd, Nat.reduceEqDiff, reduceIte, Option.getD_some, Option.getD_none]
  refine Tail.J_at (by rfl) (by rfl) ?_
  apply Exists.intro
  refine ⟨fun D w' hd hp hJ => ?_, ?_⟩
  · obtain ⟨dn, hdn⟩ := hJ.1 (hp 12 (by kernel_rfl))
    have cc := HC4.out w' (by rw [hdn]; exact below_drewN (Below.refl _ _) dn)
    clear hdn dn
    go_simp <;> with_reducible rfl
  simp only [Act.put, List.setIfInBounds_toArray, List.set_cons_zero, List.set_cons_succ, Nat.reduceAdd, Nat.reduceEqDiff, reduceIte, Option.getD_some, Option.getD_none]
  refine Tail.J_ex (by rfl) (by rfl) ?_
  apply Exists.intro
  refine ⟨fun w => ?_, ?_⟩
  · go_simp <;> with_reducible rfl
  simp only [Act.put, List.setIfInBounds_toArray, List.set_cons_zero, List.set_cons_succ, Nat.reduceAdd, Nat.reduceEqDiff, reduceIte, Option.getD_some, Option.getD_none]
  refine Tail.J_ex (by rfl) (by rfl) ?_
  apply Exists.intro
  refine ⟨fun w => ?_, ?_⟩
  · go_simp <;> with_reducible rfl
  simp only [Act.put, List.setIfInBounds_toArray, List.set_cons_zero, List.set_cons_succ, Nat.reduceAdd, Nat.reduceEqDiff, reduceIte, Option.getD_some, Option.getD_none]
  refine Tail.J_ex (by rfl) (by rfl) ?_
  apply Exists.intro
  refine ⟨fun w => ?_, ?_⟩
  · go_simp <;> with_reducible rfl
  simp only [Act.put, List.setIfInBounds_toArray, List.set_cons_zero, List.set_cons_succ, Nat.reduceAdd, Nat.reduceEqDiff, reduceIte, Option.getD_some, Option.getD_none]
  refine Tail.J_at (by rfl) (by rfl) ?_
  apply Exists.intro
  refine ⟨fun D w' hd hp hJ => ?_, ?_⟩
  · obtain ⟨dn, hdn⟩ := hJ.1 (hp 12 (by kernel_rfl))
    have cc := HC5.out w' (by rw [hdn]; exact below_drewN (Below.refl _ _) dn)
    clear hdn dn
    go_simp <;> with_reducible rfl
  simp only [Act.put, List.setIfInBounds_toArray, List.set_cons_zero, List.set_cons_succ, Nat.reduceAdd, Nat.reduceEqDiff, reduceIte, Option.getD_some, Option.getD_none]
  refine Tail.J_call (by rfl) (by rfl) ?_ ?_
  · apply Exists.intro
    apply Exists.intro
    refine ⟨fun w' => ?_, ?_⟩
    · go_simp <;> exact ⟨rfl, rfl⟩
    intro D z' w' hD hz hd hp hJ
    obtain ⟨dn, hdn⟩ := hJ.1 hD
    subst hdn
    refine (open_two w0 w dn p d Ld r B m slots room Ds v1 v3 H.out HM.out).mono ?_
    rintro e w'' ⟨x, y, rfl, hxy⟩
    refine ⟨_, rfl, fun c hc => by simp at hc, fun h => ?_, fun _ => ?_⟩
    · simp [Tail.updB] at h
    · exact ⟨x, y, by simp [Tail.updV], hxy⟩
  simp only [Act.put, List.setIfInBounds_toArray, List.set_cons_zero, List.set_cons_succ, Nat.reduceAdd, Nat.reduceEqDiff, reduceIte, Option.getD_some, Option.getD_none]
  refine Tail.J_ex (by rfl) (by rfl) ?_
  apply Exists.intro
  refine ⟨fun w => ?_, ?_⟩
  · go_simp <;> with_reducible rfl
  simp only [Act.put, List.setIfInBounds_toArray, List.set_cons_zero, List.set_cons_succ, Nat.reduceAdd, Nat.reduceEqDiff, reduceIte, Option.getD_some, Option.getD_none]
  refine Tail.J_at (by rfl) (by rfl) ?_
  refine ⟨tupAt (z 12) 0, fun D w' hd hp hJ => ?_, ?_⟩
  · obtain ⟨x, y, e, _⟩ := hJ.2 (hd 12 (by kernel_rfl))
    rw [show tupAt (z 12) 0 = x from by rw [e]; rfl]
    simp only [e]
    go_simp <;> with_reducible rfl
  simp only [Act.put, List.setIfInBounds_toArray, List.set_cons_zero, List.set_cons_succ, Nat.reduceAdd, Nat.reduceEqDiff, reduceIte, Option.getD_some, Option.getD_none]
  refine Tail.J_at (by rfl) (by rfl) ?_
  refine ⟨tupAt (z 12) 1, fun D w' hd hp hJ => ?_, ?_⟩
  · obtain ⟨x, y, e, _⟩ := hJ.2 (hd 12 (by kernel_rfl))
    rw [show tupAt (z 12) 1 = y from by rw [e]; rfl]
    simp only [e]
    go_simp <;> with_reducible rfl
  simp only [Act.put, List.setIfInBounds_toArray, List.set_cons_zero, List.set_cons_succ, Nat.reduceAdd, Nat.reduceEqDiff, reduceIte, Option.getD_some, Option.getD_none]
  refine Tail.J_ex (by rfl) (by rfl) ?_
  apply Exists.intro
  refine ⟨fun w => ?_, ?_⟩
  · go_simp <;> with_reducible rfl
  simp only [Act.put, List.setIfInBounds_toArray, List.set_cons_zero, List.set_cons_succ, Nat.reduceAdd, Nat.reduceEqDiff, reduceIte, Option.getD_some, Option.getD_none]
  intro w1 hJ
  obtain ⟨pv, ev, hz, hxy⟩ := hJ.2 rfl
  rw [show tupAt (z 12) 0 = pv from by rw [hz]; rfl, show tupAt (z 12) 1 = ev from by rw [hz]; rfl, hz]
  clear hJ hz z
  obtain ⟨rfl, hc1, hD1, hp1⟩ := hxy
  have hb1 : Below w0.heap.size w0 w1 := Chg.far H.out.bel hc1 H.out.bel.size (fun b hb => by have := H.out.far; omega)
  have hblk1 := hc1.blk H.out.blk (by have := H.out.ne; omega)
  have hrd1 := H.out.rd.chg hc1 (by have := H.out.ne; omega) (by have := H.out.ne; omega)
  have htab1 : Tab w1 := H.out.tab.chg hc1 (by have := H.out.far; have := H.out.tab0.lt; omega)
  have HB1 := Lib.hid (And.intro hb1 (And.intro hblk1 (And.intro hrd1 (And.intro htab1 (And.intro hD1 hc1.size)))))
  have HB2 := Lib.hid (show ∀ w', Below w1.heap.size w1 w' → w'.cell? ⟨p, 2, none⟩ = some (.pointer (some ⟨r, 0, none⟩)) from fun w' hb => (hblk1.kept hb).cell 2)
  have HB4 := Lib.hid (show ∀ w', Below w1.heap.size w1 w' → w'.cell? ⟨p, 4, none⟩ = some (.int .i64 slots) from fun w' hb => (hblk1.kept hb).cell 4)
  have HB5 := Lib.hid (show ∀ w', Below w1.heap.size w1 w' → w'.cell? ⟨p, 5, none⟩ = some (.int .i64 room) from fun w' hb => (hblk1.kept hb).cell 5)
  obtain ⟨sb, lb, hsl, hp1⟩ : ∃ sb lb, (sb < w1.heap.size ∧ lb < w1.heap.size) ∧ (((openR Ds slots room).2.2 = none ∧ pv = .pointer none) ∨ ∃ s, (openR Ds slots room).2.2 = some s ∧ pv = .pointer (some ⟨sb, 0, none⟩) ∧ w.heap.size ≤ sb ∧ w.heap.size < lb ∧ IsStore w1 (fun b => (b = p ∨ b = d ∨ b = Ld ∨ b = r ∨ b = B) ∨ b = sb ∨ b = lb) sb lb d Ld s) := by
    rcases hp1 with h | ⟨s, lb, e1, e2, e3, e4⟩
    · exact ⟨p, p, ⟨hblk1.lt, hblk1.lt⟩, .inl h⟩
    · exact ⟨_, lb, ⟨e4.old _ (.inr (.inl rfl)), e4.old _ (.inr (.inr rfl))⟩, .inr ⟨s, e1, e2, Nat.le_refl _, e3, e4⟩⟩
  have HNN := Lib.hid (show (∀ b, (b = p ∨ b = d ∨ b = Ld ∨ b = r ∨ b = B) ∨ b = sb ∨ b = lb → b < w1.heap.size) ∧ ((r = p ∨ r = d ∨ r = Ld ∨ r = r ∨ r = B) ∨ r = sb ∨ r = lb) ∧ ((B = p ∨ B = d ∨ B = Ld ∨ B = r ∨ B = B) ∨ B = sb ∨ B = lb) from
    ⟨fun b hb => by have := H.out.lt; have := hc1.size; omega, .inl (.inr (.inr (.inr (.inl rfl)))), .inl (.inr (.inr (.inr (.inr rfl))))⟩)
  have HP1 := Lib.hid hp1
  clear hb1 hblk1 hrd1 htab1 hp1 hD1 hc1 HC0 HC4 HC5 hsl
  obtain ⟨er, her⟩ : ∃ z, z = (openR Ds slots room).1 := ⟨_, rfl⟩
  rw [← her]
  have HE := Lib.hid her
  clear her
  go_upto_region 2 with fail
  refine Tail.wp_region_J 17 (fun k => k == 12) (fun k => none)
    (fun D z w' => (D 12 = false → ∃ n, w' = World.drewN w1 n) ∧ (D 12 = true → ∃ x y, z 12 = .tuple #[x, y] ∧ Op2 Ds slots room (fun b => (b = p ∨ b = d ∨ b = Ld ∨ b = r ∨ b = B) ∨ b = sb ∨ b = lb) r B w1 x y w'))
    (by kernel_rfl) (by kernel_rfl) (fun k hk => by simp at hk; omega) (fun D z z' w' hz h => ⟨h.1, fun d => by rw [← hz 12 d]; exact h.2 d⟩)
    (⟨fun _ => ⟨1, rfl⟩, (fun h => by cases h)⟩) (fun z => ?_)
  simp only [List.take_succ_cons, List.take_zero, List.drop_succ_cons, List.drop_zero]
  refine Tail.J_ex (by rfl) (by rfl) ?_
  apply Exists.intro
  refine ⟨fun w => ?_, ?_⟩
  · go_simp <;> with_reducible rfl
  simp only [Act.put, List.setIfInBounds_toArray, List.set_cons_zero, List.set_cons_succ, Nat.reduceAdd, Nat.reduceEqDiff, reduceIte, Option.getD_some, Option.getD_none]
  refine Tail.J_ex (by rfl) (by rfl) ?_
  apply Exists.intro
  refine ⟨fun w => ?_, ?_⟩
  · go_simp <;> with_reducible rfl
  simp only [Act.put, List.setIfInBounds_toArray, List.set_cons_zero, List.set_cons_succ, Nat.reduceAdd, Nat.reduceEqDiff, reduceIte, Option.getD_some, Option.getD_none]
  refine Tail.J_ex (by rfl) (by rfl) ?_
  apply Exists.intro
  refine ⟨fun w => ?_, ?_⟩
  · go_simp <;> with_reducible rfl
  simp only [Act.put, List.setIfInBounds_toArray, List.set_cons_zero, List.set_cons_succ, Nat.reduceAdd, Nat.reduceEqDiff, reduceIte, Option.getD_some, Option.getD_none]
  refine Tail.J_at (by rfl) (by rfl) ?_
  apply Exists.intro
  refine ⟨fun D w' hd hp hJ => ?_, ?_⟩
  · obtain ⟨dn, hdn⟩ := hJ.1 (hp 12 (by kernel_rfl))
    have cc := HB2.out w' (by rw [hdn]; exact below_drewN (Below.refl _ _) dn)
    clear hdn dn
    go_simp <;> with_reducible rfl
  simp only [Act.put, List.setIfInBounds_toArray, List.set_cons_zero, List.set_cons_succ, Nat.reduceAdd, Nat.reduceEqDiff, reduceIte, Option.getD_some, Option.getD_none]
  refine Tail.J_ex (by rfl) (by rfl) ?_
  apply Exists.intro
  refine ⟨fun w => ?_, ?_⟩
  · go_simp <;> with_reducible rfl
  simp only [Act.put, List.setIfInBounds_toArray, List.set_cons_zero, List.set_cons_succ, Nat.reduceAdd, Nat.reduceEqDiff, reduceIte, Option.getD_some, Option.getD_none]
  refine Tail.J_ex (by rfl) (by rfl) ?_
  apply Exists.intro
  refine ⟨fun w => ?_, ?_⟩
  · go_simp <;> with_reducible rfl
  simp only [Act.put, List.setIfInBounds_toArray, List.set_cons_zero, List.set_cons_succ, Nat.reduceAdd, Nat.reduceEqDiff, reduceIte, Option.getD_some, Option.getD_none]
  refine Tail.J_ex (by rfl) (by rfl) ?_
  apply Exists.intro
  refine ⟨fun w => ?_, ?_⟩
  · go_simp <;> with_reducible rfl
  simp only [Act.put, List.setIfInBounds_toArray, List.set_cons_zero, List.set_cons_succ, Nat.reduceAdd, Nat.reduceEqDiff, reduceIte, Option.getD_some, Option.getD_none]
  refine Tail.J_at (by rfl) (by rfl) ?_
  apply Exists.intro
  refine ⟨fun D w' hd hp hJ => ?_, ?_⟩
  · obtain ⟨dn, hdn⟩ := hJ.1 (hp 12 (by kernel_rfl))
    have cc := HB4.out w' (by rw [hdn]; exact below_drewN (Below.refl _ _) dn)
    clear hdn dn
    go_simp <;> with_reducible rfl
  simp only [Act.put, List.setIfInBounds_toArray, List.set_cons_zero, List.set_cons_succ, Nat.reduceAdd, Nat.reduceEqDiff, reduceIte, Option.getD_some, Option.getD_none]
  refine Tail.J_ex (by rfl) (by rfl) ?_
  apply Exists.intro
  refine ⟨fun w => ?_, ?_⟩
  · go_simp <;> with_reducible rfl
  simp only [Act.put, List.setIfInBounds_toArray, List.set_cons_zero, List.set_cons_succ, Nat.reduceAdd, Nat.reduceEqDiff, reduceIte, Option.getD_some, Option.getD_none]
  refine Tail.J_ex (by rfl) (by rfl) ?_
  apply Exists.intro
  refine ⟨fun w => ?_, ?_⟩
  · go_simp <;> with_reducible rfl
  simp only [Act.put, List.setIfInBounds_toArray, List.set_cons_zero, List.set_cons_succ, Nat.reduceAdd, Nat.reduceEqDiff, reduceIte, Option.getD_some, Option.getD_none]
  refine Tail.J_ex (by rfl) (by rfl) ?_
  apply Exists.intro
  refine ⟨fun w => ?_, ?_⟩
  · go_simp <;> with_reducible rfl
  simp only [Act.put, List.setIfInBounds_toArray, List.set_cons_zero, List.set_cons_succ, Nat.reduceAdd, Nat.reduceEqDiff, reduceIte, Option.getD_some, Option.getD_none]
  refine Tail.J_at (by rfl) (by rfl) ?_
  apply Exists.intro
  refine ⟨fun D w' hd hp hJ => ?_, ?_⟩
  · obtain ⟨dn, hdn⟩ := hJ.1 (hp 12 (by kernel_rfl))
    have cc := HB5.out w' (by rw [hdn]; exact below_drewN (Below.refl _ _) dn)
    clear hdn dn
    go_simp <;> with_reducible rfl
  simp only [Act.put, List.setIfInBounds_toArray, List.set_cons_zero, List.set_cons_succ, Nat.reduceAdd, Nat.reduceEqDiff, reduceIte, Option.getD_some, Option.getD_none]
  refine Tail.J_call (by rfl) (by rfl) ?_ ?_
  · apply Exists.intro
    apply Exists.intro
    refine ⟨fun w' => ?_, ?_⟩
    · go_simp <;> exact ⟨rfl, rfl⟩
    intro D z' w' hD hz hd hp hJ
    obtain ⟨dn, hdn⟩ := hJ.1 hD
    subst hdn
    refine (ropen_two w1 dn r B Ds slots room HB1.out.2.2.1 H.out.n H.out.s1 H.out.r1 (fun b => (b = p ∨ b = d ∨ b = Ld ∨ b = r ∨ b = B) ∨ b = sb ∨ b = lb) HNN.out (by have := H.out.few; have := HM.out; omega)).mono ?_
    rintro e w'' ⟨x, y, rfl, hxy⟩
    refine ⟨_, rfl, fun c hc => by simp at hc, fun h => ?_, fun _ => ?_⟩
    · simp [Tail.updB] at h
    · exact ⟨x, y, by simp [Tail.updV], hxy⟩
  simp only [Act.put, List.setIfInBounds_toArray, List.set_cons_zero, List.set_cons_succ, Nat.reduceAdd, Nat.reduceEqDiff, reduceIte, Option.getD_some, Option.getD_none]
  refine Tail.J_ex (by rfl) (by rfl) ?_
  apply Exists.intro
  refine ⟨fun w => ?_, ?_⟩
  · go_simp <;> with_reducible rfl
  simp only [Act.put, List.setIfInBounds_toArray, List.set_cons_zero, List.set_cons_succ, Nat.reduceAdd, Nat.reduceEqDiff, reduceIte, Option.getD_some, Option.getD_none]
  refine Tail.J_at (by rfl) (by rfl) ?_
  refine ⟨tupAt (z 12) 0, fun D w' hd hp hJ => ?_, ?_⟩
  · obtain ⟨x, y, e, _⟩ := hJ.2 (hd 12 (by kernel_rfl))
    rw [show tupAt (z 12) 0 = x from by rw [e]; rfl]
    simp only [e]
    go_simp <;> with_reducible rfl
  simp only [Act.put, List.setIfInBounds_toArray, List.set_cons_zero, List.set_cons_succ, Nat.reduceAdd, Nat.reduceEqDiff, reduceIte, Option.getD_some, Option.getD_none]
  refine Tail.J_at (by rfl) (by rfl) ?_
  refine ⟨tupAt (z 12) 1, fun D w' hd hp hJ => ?_, ?_⟩
  · obtain ⟨x, y, e, _⟩ := hJ.2 (hd 12 (by kernel_rfl))
    rw [show tupAt (z 12) 1 = y from by rw [e]; rfl]
    simp only [e]
    go_simp <;> with_reducible rfl
  simp only [Act.put, List.setIfInBounds_toArray, List.set_cons_zero, List.set_cons_succ, Nat.reduceAdd, Nat.reduceEqDiff, reduceIte, Option.getD_some, Option.getD_none]
  refine Tail.J_ex (by rfl) (by rfl) ?_
  apply Exists.intro
  refine ⟨fun w => ?_, ?_⟩
  · go_simp <;> with_reducible rfl
  simp only [Act.put, List.setIfInBounds_toArray, List.set_cons_zero, List.set_cons_succ, Nat.reduceAdd, Nat.reduceEqDiff, reduceIte, Option.getD_some, Option.getD_none]
  intro w2 hJ
  obtain ⟨xv, yv, hz, hxy⟩ := hJ.2 rfl
  rw [show tupAt (z 12) 0 = xv from by rw [hz]; rfl, show tupAt (z 12) 1 = yv from by rw [hz]; rfl, hz]
  clear hJ hz z
  have HXY := Lib.hid hxy
  clear hxy HB2 HB4 HB5
  rcases HD.out.2.2.2.2 with ⟨h0, s, hs, hdup, hdead, hroom, hdisk⟩ | ⟨h8, hs⟩
  · rcases HXY.out with ⟨_, q, lv, ps, rfl, rfl, hq, hrs, hc2⟩ | ⟨h8', _⟩
    rotate_left
    · exact absurd (h8'.symm.trans (HD.out.1.trans h0)) (by decide)
    rcases HP1.out with ⟨hn, _⟩ | ⟨s', hs', rfl, hlb0, hlb, hst⟩
    · rw [hs] at hn; cases hn
    rw [hs] at hs'
    obtain rfl : s' = s := by cases hs'; rfl
    clear hs'
    obtain rfl : er = 0 := HE.out.trans h0
    have hlt := H.out.lt
    have hne := H.out.ne
    have hfar := H.out.far
    have hsz := H.out.bel.size
    have hsz1 := HB1.out.2.2.2.2.2
    have hblk2 := hc2.blk HB1.out.2.1 (by omega)
    have hst2 := hst.grow (M := fun b => ((b = p ∨ b = d ∨ b = Ld ∨ b = r ∨ b = B) ∨ b = sb ∨ b = lb) ∨ b = q) hc2 (fun b hb => by rcases hb with rfl | rfl | rfl | rfl <;> omega) (fun b hb _ => by omega) (fun b hb => by omega) (fun b hb => .inl hb) (fun b hb => by
      rcases hb with hb | rfl
      · have := HNN.out.1 b hb
        have := hc2.size
        omega
      · exact hrs.blk.lt)
    have hc3 : Chg (fun b => b = p) w2 ((w2.setCell ⟨p, 1, none⟩ (.pointer (some ⟨sb, 0, none⟩))).setCell ⟨p, 3, none⟩ (.pointer (some ⟨q, 0, none⟩))) := Chg.set (S := fun b => b = p) (a := ⟨p, 3, none⟩) (Chg.set (S := fun b => b = p) (a := ⟨p, 1, none⟩) (Chg.refl _ _) rfl _) rfl _
    have hst3 := hst2.chg hc3 (fun b hb => by rcases hb with rfl | rfl | rfl | rfl <;> omega) (fun b hb _ => by subst hb; exact .inl (.inl (.inl rfl)))
    have hrs3 := hrs.chg hc3 (fun b hb _ => by subst hb; exact .inl (.inl (.inl rfl))) (fun b hb => by rcases hb with rfl | rfl | rfl <;> omega)
    have hblk3 : Blk ((w2.setCell ⟨p, 1, none⟩ (.pointer (some ⟨sb, 0, none⟩))).setCell ⟨p, 3, none⟩ (.pointer (some ⟨q, 0, none⟩))) p (pairC d r (.pointer (some ⟨sb, 0, none⟩)) (.pointer (some ⟨q, 0, none⟩)) slots room) 43 := (hblk2.set 1 _).set 3 _
    have hrd3 : RDisk ((w2.setCell ⟨p, 1, none⟩ (.pointer (some ⟨sb, 0, none⟩))).setCell ⟨p, 3, none⟩ (.pointer (some ⟨q, 0, none⟩))) r B s'.disk := by
      have := hrs3.disk
      rw [HD.out.2.1, ← hdisk] at this
      exact this
    rw [HD.out.2.1, ← hdisk, ← hdead] at hrs3
    have hbel3 := Chg.far (Chg.far HB1.out.1 hc2 (by have := HB1.out.1.size; omega) (fun b hb => by have hb : b = r ∨ b = B := hb; omega)) hc3 (by have := HB1.out.1.size; have := hc2.size; omega) (fun b hb => by have hb : b = p := hb; omega)
    have htab3 := (HB1.out.2.2.2.1.chg hc2 (by have := H.out.tab0.lt; omega)).chg hc3 (by have := H.out.tab0.lt; omega)
    have hsblt := HNN.out.1 sb (.inr (.inl rfl))
    have hlblt := HNN.out.1 lb (.inr (.inr rfl))
    have HF := Lib.hid (show PairS w0 _ _ p d Ld sb lb r B q lv ps (m + 1) slots room s' (ropenR Ds slots room).2.2 from
      ⟨⟨hblk3, hst3.disk, hrd3, hbel3, hfar, hne, htab3, H.out.tab0, by rw [hdisk, HD.out.2.2.1]; exact H.out.n, by rw [hdisk]; exact HD.out.2.2.2.1, H.out.s1, H.out.r1, by have := H.out.m1; omega⟩, hst3, hrs3, hdup, hroom, .inl (.inl (.inl rfl)), (fun b hb => by have hb : ((b = p ∨ b = d ∨ b = Ld ∨ b = r ∨ b = B) ∨ b = sb ∨ b = lb) ∨ b = q := hb; have := HB1.out.1.size; omega), by omega⟩)
    have b1 : w2.cell? ⟨p, 1, none⟩ = some v1 := hblk2.cell 1
    have b3 : w2.cell? ⟨p, 3, none⟩ = some v3 := hblk2.cell 3
    have f1 := hblk2.free 1
    have f3 := (hblk2.set 1 (.pointer (some ⟨sb, 0, none⟩))).free 3
    clear hsz1 hst hrs hc2 hblk2 hst2 hc3 hst3 hrs3 hblk3 hrd3 hbel3 htab3 hdup hroom hdisk hdead hs h0 HE HXY HP1 hlt hne hfar hsz hq hlb hlb0 hsblt hlblt
    go_wp2_with fail
    go_ret
    exact ⟨rfl, .inr ⟨_, sb, lb, q, lv, ps, s', _, HF.out⟩⟩
  · rcases HXY.out with ⟨h0', _⟩ | ⟨_, rfl, rfl, hrd, hc2⟩
    · exact absurd (h0'.symm.trans (HD.out.1.trans h8)) (by decide)
    rcases HP1.out with ⟨_, rfl⟩ | ⟨s', hs', _⟩
    rotate_left
    · rw [hs] at hs'; cases hs'
    obtain rfl : er = 8 := HE.out.trans h8
    have hlt := H.out.lt
    have hne := H.out.ne
    have hfar := H.out.far
    have hsz := H.out.bel.size
    have hblk2 := hc2.blk HB1.out.2.1 (by omega)
    have hc3 : Chg (fun b => b = p) w2 ((w2.setCell ⟨p, 1, none⟩ (.pointer none)).setCell ⟨p, 3, none⟩ (.pointer none)) := Chg.set (S := fun b => b = p) (a := ⟨p, 3, none⟩) (Chg.set (S := fun b => b = p) (a := ⟨p, 1, none⟩) (Chg.refl _ _) rfl _) rfl _
    have hblk3 : Blk ((w2.setCell ⟨p, 1, none⟩ (.pointer none)).setCell ⟨p, 3, none⟩ (.pointer none)) p (pairC d r (.pointer none) (.pointer none) slots room) 43 := (hblk2.set 1 _).set 3 _
    have hd3 := (HB1.out.2.2.2.2.1.chg hc2 (by omega) (by omega)).chg hc3 (by omega) (by omega)
    have hrd3 := hrd.chg hc3 (by omega) (by omega)
    rw [HD.out.2.1] at hrd3
    have hbel3 := Chg.far (Chg.far HB1.out.1 hc2 (by have := HB1.out.1.size; omega) (fun b hb => by have hb : b = r ∨ b = B := hb; omega)) hc3 (by have := HB1.out.1.size; have := hc2.size; omega) (fun b hb => by have hb : b = p := hb; omega)
    have htab3 := (HB1.out.2.2.2.1.chg hc2 (by have := H.out.tab0.lt; omega)).chg hc3 (by have := H.out.tab0.lt; omega)
    have HF := Lib.hid (show PairB w0 _ p d Ld r B (m + 1) slots room (openR Ds slots room).2.1 (.pointer none) (.pointer none) from
      ⟨hblk3, hd3, hrd3, hbel3, hfar, hne, htab3, H.out.tab0, HD.out.2.2.1.trans H.out.n, HD.out.2.2.2.1, H.out.s1, H.out.r1, by have := H.out.m1; omega⟩)
    have b1 : w2.cell? ⟨p, 1, none⟩ = some v1 := hblk2.cell 1
    have b3 : w2.cell? ⟨p, 3, none⟩ = some v3 := hblk2.cell 3
    have f1 := hblk2.free 1
    have f3 := (hblk2.set 1 (.pointer none)).free 3
    clear hrd hc2 hblk2 hc3 hblk3 hrd3 hbel3 htab3 hs h8 HE HXY HP1 hd3 hlt hne hfar hsz
    go_wp2_with fail
    go_ret
    exact ⟨rfl, .inl ⟨_, HF.out⟩⟩
end Go.Proofs.YtehgnkdfnnebcaaGreatDoor
end
section
namespace Go.Proofs.YtehgnkdfnnebcaaGreatDoor
open Go Go.RowKit Go.Mem Gf
set_option linter.unusedVariables false
attribute [local go_sem ↓] Go.wp_at_zero Go.wp_at_succ
set_option maxRecDepth 20000 in
set_option maxHeartbeats 4000000 in
theorem begin_calls (w0 : World) (hT : Tab w0) (slots room : Nat) (h1 : 1 ≤ slots ∧ slots ≤ 10) (h2 : 1 ≤ room ∧ room ≤ 10) :
    Calls Tryz.prog 5 #[.int .i64 slots, .int .i64 room] w0 fun e w' => ∃ p d Ld r B, e = .returned (.tuple #[.pointer (some ⟨p, 0, none⟩), .bool true]) ∧ Par w0 w' p d Ld r B 4294967297 slots room := by
  obtain ⟨n, hn⟩ : ∃ n, n = slots * (room + 1) := ⟨_, rfl⟩
  have hn1 : 1 ≤ n := by rw [hn]; exact Nat.mul_pos (by omega) (by omega)
  have hn2 : n ≤ 110 := by rw [hn]; exact Nat.mul_le_mul h1.2 (show room + 1 ≤ 11 by omega)
  have q1 : IntKind.i64.wrap ((room : Int) + 1) = (room : Int) + 1 := IntWalk.i64_in _ (by omega)
  have q2 : IntKind.i64.wrap ((slots : Int) * ((room : Int) + 1)) = (n : Int) := by
    rw [show (slots : Int) * ((room : Int) + 1) = (n : Int) from by rw [hn]; simp]
    exact IntWalk.i64_in _ (by omega)
  have HT := Lib.hid hT; have HN := Lib.hid (And.intro hn (And.intro h1 h2))
  clear hT hn
  go_enter Tryz.func5, Tryz.ntmps5
  go_wp2_with fail
  refine (dnew_calls n w0 hn1 (by omega)).mono ?_
  rintro e w1 ⟨d, Ld, rfl, hD, hd1, hd2, hb1⟩
  have HD := Lib.hid (And.intro hD (And.intro hd1 (And.intro hd2 hb1)))
  clear hD hd1 hd2 hb1
  go_wp2_with fail
  refine (rnew_calls n w1 hn1 (by omega)).mono ?_
  rintro e w2 ⟨r, B, rfl, hR, hr1, hr2, hb2⟩
  obtain ⟨w3, hw3⟩ : ∃ w3, w3 = w2.alloc (.cells (pairC d r (.pointer none) (.pointer none) slots room) 43) := ⟨_, rfl⟩
  obtain ⟨p, hp⟩ : ∃ p, p = w2.heap.size := ⟨_, rfl⟩
  have hbox := Blk.new w2 (pairC d r (.pointer none) (.pointer none) slots room) 43
  have hb3 : Below w2.heap.size w2 w3 := by rw [hw3]; exact (Below.refl _ _).alloc (Nat.le_refl _) _
  rw [← hw3, ← hp] at hbox
  have hPB : PairB w0 w3 p d Ld r B 4294967296 slots room (.fresh n) (.pointer none) (.pointer none) := by
    have hs1 := HD.out.2.2.2.size
    have hs2 := hb2.size
    have hd := HD.out.1.lt
    have hr := hR.lt
    have hB3 : Below w0.heap.size w0 w3 := (HD.out.2.2.2.trans (hb2.mono hs1)).trans (hb3.mono (by omega))
    have := HD.out.2.1
    have := HD.out.2.2.1
    exact ⟨hbox, (HD.out.1.below hb2).below hb3, hR.below hb3, hB3, by omega, by omega, HT.out.below hB3, HT.out, HN.out.1, Nat.zero_le _, HN.out.2.1, HN.out.2.2, Nat.le_refl _⟩
  have HPB := Lib.hid hPB
  unfold pairC at hw3
  clear hR hr1 hr2 hb2 hbox hb3 hPB
  go_wp2_with fail
  rw [← hw3, ← hp]
  clear hw3 hp
  refine (popen_calls w0 w3 p d Ld r B 4294967296 slots room (.fresh n) _ _ HPB.out (by decide)).mono ?_
  rintro e w4 ⟨rfl, hP⟩
  go_wp2
  go_ret2
  exact ⟨p, d, Ld, r, B, rfl, hP⟩
end Go.Proofs.YtehgnkdfnnebcaaGreatDoor
end
