/- Texts of this proof, packed: StoreMem, StoreBest, StoreOps, StoreFreeN, StoreNames, StoreOpenMath, StoreOpenBad, StoreText. -/
import Derived.Test.YtclhgokchcklbaaGreatDoorPk02
import Derived.Test.YtclhgokchcklbaaGreatDoorPk01
import Derived.Deep.RegionLaw
import Derived.Sort.OwnSorted
section
namespace Go.Mem
open Go Go.RowKit Gf
def DataAt (w : World) (N : Nat → Prop) (v : Value) (bs : List UInt8) : Prop :=
  Bys w v bs ∧ ∃ a c, v = .slice a bs.length c ∧ ∀ b, a = some b → b.block < w.heap.size ∧ ¬ N b.block
theorem DataAt.nil (w : World) (N : Nat → Prop) : DataAt w N (.slice none 0 0) [] := ⟨Bys.nil _, none, 0, rfl, fun b h => by cases h⟩
theorem Bys.chg {S : Nat → Prop} {w w' : World} {v : Value} {bs : List UInt8} (h : Bys w v bs) (hc : Chg S w w') (hs : ∀ a l c, v = .slice (some a) l c → ¬ S a.block) : Bys w' v bs := by
  obtain ⟨a, cap, rfl, h1, h2, h3⟩ := h
  refine ⟨a, cap, rfl, h1, h2, fun hp => ?_⟩
  obtain ⟨b, off, rfl, hcell⟩ := h3 hp
  refine ⟨b, off, rfl, fun i u hi => ?_⟩
  have hx := hcell i u hi
  have hlt : b < w.heap.size := World.block_lt_of_cell? w ⟨b, off + i, none⟩ hx
  have hb := hc.block b hlt (hs _ _ _ rfl)
  unfold World.cell? at hx ⊢
  rw [hb]; exact hx
theorem DataAt.chg {S N : Nat → Prop} {w w' : World} {v : Value} {bs : List UInt8} (h : DataAt w N v bs) (hc : Chg S w w') (hs : ∀ b, S b → b < w.heap.size → N b) : DataAt w' N v bs := by
  obtain ⟨h1, a, c, rfl, h2⟩ := h
  refine ⟨h1.chg hc (fun a' l c' e hS => ?_), a, c, rfl, fun b hb => ⟨Nat.lt_of_lt_of_le (h2 b hb).1 hc.size, (h2 b hb).2⟩⟩
  injection e with e1 _ _
  obtain ⟨hb1, hb2⟩ := h2 a' e1
  exact hb2 (hs _ hS hb1)
theorem DataAt.mono {N M : Nat → Prop} {w : World} {v : Value} {bs : List UInt8} (h : DataAt w N v bs) (hM : ∀ b, M b → N b ∨ w.heap.size ≤ b) : DataAt w M v bs := by
  obtain ⟨h1, a, c, rfl, h2⟩ := h
  refine ⟨h1, a, c, rfl, fun b hb => ⟨(h2 b hb).1, fun hm => ?_⟩⟩
  rcases hM _ hm with h | h
  · exact (h2 b hb).2 h
  · have := (h2 b hb).1; omega
theorem OwnX.data {t8 : TypeId} {w : World} {base : Nat} {v : Value} {bs : List UInt8} {N : Nat → Prop} (h : OwnX t8 w base v bs) (hN : ∀ b, base ≤ b → b < w.heap.size → ¬ N b) : DataAt w N v bs := by
  refine ⟨h.bys, ?_⟩
  rcases h with ⟨rfl, rfl⟩ | ⟨g, cap, arr, fz, rfl, h2, h3, _⟩
  · exact ⟨none, 0, rfl, fun b h => by cases h⟩
  · exact ⟨_, cap, rfl, fun b hb => by cases hb; exact ⟨lt_of_block h3, hN _ h2 (lt_of_block h3)⟩⟩
def recsV : List Sto.Rec → List Value → List Value
  | r :: l, v :: vs => [.bool r.is, .string r.name, .int .i64 r.num, v] ++ recsV l vs
  | _, _ => []
theorem recsV_len : ∀ (l : List Sto.Rec) (vs : List Value), vs.length = l.length → (recsV l vs).length = l.length * 4
  | [], [], _ => rfl
  | r :: l, v :: vs, h => by
    simp only [recsV, List.length_append, List.length_cons, List.length_nil]
    have := recsV_len l vs (by simpa using h)
    omega
theorem recsV_snoc : ∀ (l : List Sto.Rec) (vs : List Value) (r : Sto.Rec) (v : Value), vs.length = l.length → recsV (l ++ [r]) (vs ++ [v]) = recsV l vs ++ [.bool r.is, .string r.name, .int .i64 r.num, v]
  | [], [], r, v, _ => rfl
  | r' :: l, v' :: vs, r, v, h => by
    simp only [List.cons_append, recsV, List.append_assoc]
    rw [recsV_snoc l vs r v (by simpa using h)]
theorem recsV_get : ∀ (l : List Sto.Rec) (vs : List Value) (i : Nat) (r : Sto.Rec) (v : Value), l[i]? = some r → vs[i]? = some v →
    (recsV l vs)[i * 4]? = some (.bool r.is) ∧ (recsV l vs)[i * 4 + 1]? = some (.string r.name) ∧ (recsV l vs)[i * 4 + 2]? = some (.int .i64 r.num) ∧ (recsV l vs)[i * 4 + 3]? = some v
  | r :: l, v :: vs, 0, r', v', h1, h2 => by
    simp at h1 h2
    subst h1 h2
    exact ⟨rfl, rfl, rfl, rfl⟩
  | r :: l, v :: vs, i + 1, r', v', h1, h2 => by
    have := recsV_get l vs i r' v' (by simpa using h1) (by simpa using h2)
    have e : ∀ j, (recsV (r :: l) (v :: vs))[(i + 1) * 4 + j]? = (recsV l vs)[i * 4 + j]? := fun j => by
      rw [recsV, List.getElem?_append_right (by simp; omega)]
      congr 1
      simp; omega
    exact ⟨by rw [show (i + 1) * 4 = (i + 1) * 4 + 0 from rfl, e]; exact this.1, by rw [e]; exact this.2.1, by rw [e]; exact this.2.2.1, by rw [e]; exact this.2.2.2⟩
  | [], _, i, r, v, h1, _ => by simp at h1
  | _ :: _, [], i, r, v, _, h2 => by simp at h2
def RecsAt (t : TypeId) (w : World) (N : Nat → Prop) (lb : Nat) (l : List Sto.Rec) : Prop :=
  ∃ (arr : Array Value) (vs : List Value), Blk w lb arr t ∧ l.length * 4 ≤ arr.size ∧ vs.length = l.length ∧ (∀ j, j < l.length * 4 → arr[j]? = (recsV l vs)[j]?) ∧ ∀ (i : Nat) (r : Sto.Rec) (v : Value), l[i]? = some r → vs[i]? = some v → DataAt w N v r.data
section
variable {t : TypeId} {w w' : World} {N S : Nat → Prop} {lb : Nat} {l : List Sto.Rec}
theorem RecsAt.lt (h : RecsAt t w N lb l) : lb < w.heap.size := by obtain ⟨_, _, h, _⟩ := h; exact h.lt
theorem RecsAt.chg (h : RecsAt t w N lb l) (hc : Chg S w w') (h1 : ¬ S lb) (hs : ∀ b, S b → b < w.heap.size → N b) : RecsAt t w' N lb l := by
  obtain ⟨arr, vs, hB, a, b, c, d⟩ := h
  exact ⟨arr, vs, hc.blk hB h1, a, b, c, fun i r v hr hv => (d i r v hr hv).chg hc hs⟩
theorem RecsAt.below (h : RecsAt t w N lb l) (hb : Below w.heap.size w w') : RecsAt t w' N lb l := h.chg (S := fun _ => False) (Chg.of_below hb) id (fun _ h => h.elim)
theorem RecsAt.mono {M : Nat → Prop} (h : RecsAt t w N lb l) (hM : ∀ b, M b → N b ∨ w.heap.size ≤ b) : RecsAt t w M lb l := by
  obtain ⟨arr, vs, hB, a, b, c, d⟩ := h
  exact ⟨arr, vs, hB, a, b, c, fun i r v hr hv => (d i r v hr hv).mono hM⟩
theorem RecsAt.at (h : RecsAt t w N lb l) {i : Nat} {r : Sto.Rec} (hr : l[i]? = some r) : ∃ a c, w.cell? ⟨lb, i * 4, none⟩ = some (.bool r.is) ∧ w.cell? ⟨lb, i * 4 + 1, none⟩ = some (.string r.name) ∧ w.cell? ⟨lb, i * 4 + 2, none⟩ = some (.int .i64 r.num) ∧ w.cell? ⟨lb, i * 4 + 3, none⟩ = some (.slice a r.data.length c) ∧
    DataAt w N (.slice a r.data.length c) r.data ∧ (∀ j, w.frozen? ⟨lb, j, none⟩ = false) := by
  obtain ⟨arr, vs, hB, h1, h2, h3, h4⟩ := h
  have hi : i < l.length := by
    rcases Nat.lt_or_ge i l.length with h | h
    · exact h
    · rw [List.getElem?_eq_none h] at hr; cases hr
  have hd := h4 i r vs[i] hr (by simp [h2, hi])
  obtain ⟨a, c, e, _⟩ := id hd.2
  obtain ⟨g0, g1, g2, g3⟩ := recsV_get l vs i r vs[i] hr (by simp [h2, hi])
  rw [e] at g3 hd
  exact ⟨a, c, by rw [hB.cell, h3 _ (by omega)]; exact g0, by rw [hB.cell, h3 _ (by omega)]; exact g1, by rw [hB.cell, h3 _ (by omega)]; exact g2, by rw [hB.cell, h3 _ (by omega)]; exact g3, hd, fun j => hB.free j⟩
theorem recsV_set : ∀ (l : List Sto.Rec) (vs : List Value) (i : Nat) (r : Sto.Rec) (v : Value), vs.length = l.length → i < l.length →
    recsV (l.set i r) (vs.set i v) = ((((recsV l vs).set (i * 4) (.bool r.is)).set (i * 4 + 1) (.string r.name)).set (i * 4 + 2) (.int .i64 r.num)).set (i * 4 + 3) v
  | r' :: l, v' :: vs, 0, r, v, h, _ => by simp [recsV]
  | r' :: l, v' :: vs, i + 1, r, v, h, hi => by
    simp only [List.set_cons_succ, recsV]
    rw [recsV_set l vs i r v (by simpa using h) (by simpa using hi)]
    have e : ∀ (j : Nat) (L : List Value) (x : Value), ([.bool r'.is, .string r'.name, .int .i64 r'.num, v'] ++ L).set ((i + 1) * 4 + j) x = [.bool r'.is, .string r'.name, .int .i64 r'.num, v'] ++ L.set (i * 4 + j) x := fun j L x => by
      rw [List.set_append_right _ _ (by simp; omega)]
      congr 2
      simp; omega
    rw [show (i + 1) * 4 = (i + 1) * 4 + 0 from rfl, e 0, e 1, e 2, e 3]
    rfl
theorem RecsAt.set (h : RecsAt t w N lb l) {i : Nat} (hi : i < l.length) (r : Sto.Rec) (v : Value) (hN : N lb) (hd : DataAt w N v r.data) :
    RecsAt t ((((w.setCell ⟨lb, i * 4, none⟩ (.bool r.is)).setCell ⟨lb, i * 4 + 1, none⟩ (.string r.name)).setCell ⟨lb, i * 4 + 2, none⟩ (.int .i64 r.num)).setCell ⟨lb, i * 4 + 3, none⟩ v) N lb (l.set i r) := by
  obtain ⟨arr, vs, hB, h1, h2, h3, h4⟩ := h
  have hc : Chg (fun b => b = lb) w ((((w.setCell ⟨lb, i * 4, none⟩ (.bool r.is)).setCell ⟨lb, i * 4 + 1, none⟩ (.string r.name)).setCell ⟨lb, i * 4 + 2, none⟩ (.int .i64 r.num)).setCell ⟨lb, i * 4 + 3, none⟩ v) := by
    refine Chg.set (S := fun b => b = lb) ?_ (a := ⟨lb, i * 4 + 3, none⟩) rfl _
    refine Chg.set (S := fun b => b = lb) ?_ (a := ⟨lb, i * 4 + 2, none⟩) rfl _
    refine Chg.set (S := fun b => b = lb) ?_ (a := ⟨lb, i * 4 + 1, none⟩) rfl _
    exact Chg.set (S := fun b => b = lb) (Chg.refl _ _) (a := ⟨lb, i * 4, none⟩) rfl _
  refine ⟨_, vs.set i v, (((hB.set (i * 4) (.bool r.is)).set (i * 4 + 1) (.string r.name)).set (i * 4 + 2) (.int .i64 r.num)).set (i * 4 + 3) v, by simpa using h1, by simp [h2], fun j hj => ?_, fun k r' v' hr' hv' => ?_⟩
  · rw [recsV_set l vs i r v h2 hi]
    have hl := recsV_len l vs h2
    simp only [List.length_set] at hj
    simp only [Array.getElem?_setIfInBounds, List.getElem?_set, Array.size_setIfInBounds, List.length_set, hl, h3 j hj]
    have e1 : (i * 4 < arr.size) = (i * 4 < l.length * 4) := by simp; omega
    have e2 : (i * 4 + 1 < arr.size) = (i * 4 + 1 < l.length * 4) := by simp; omega
    have e3 : (i * 4 + 2 < arr.size) = (i * 4 + 2 < l.length * 4) := by simp; omega
    have e4 : (i * 4 + 3 < arr.size) = (i * 4 + 3 < l.length * 4) := by simp; omega
    simp only [e1, e2, e3, e4]
  · rw [List.getElem?_set] at hr' hv'
    by_cases e : i = k
    · subst e
      simp [hi, h2] at hr' hv'
      subst hr' hv'
      exact hd.chg hc (fun b hb _ => by rw [hb]; exact hN)
    · rw [if_neg e] at hr' hv'
      exact (h4 k r' v' hr' hv').chg hc (fun b hb _ => by rw [hb]; exact hN)
end
structure St where
  room : Nat
  recs : List Sto.Rec
  dead : Bool
  disk : DiskS
structure St.Ok (s : St) : Prop where
  room1 : 1 ≤ s.room
  room2 : s.room ≤ 1024
  len1 : 1 ≤ s.recs.length
  len2 : s.recs.length ≤ 1024
  size : s.disk.n = s.recs.length * (s.room + 1)
  each : ∀ r ∈ s.recs, r.name.size ≤ 1000000 ∧ r.data.length ≤ 1000000 ∧ r.num ≤ 72057594037927936 + s.disk.writes
  few : s.disk.writes ≤ 72057594037927936
end Go.Mem
namespace Go.Proofs.YtclhgokchcklbaaGreatDoor
open Go Go.RowKit Go.Mem Gf
def Foot (sb lb d L : Nat) (b : Nat) : Prop := b = sb ∨ b = lb ∨ b = d ∨ b = L
structure IsStore (w : World) (N : Nat → Prop) (sb lb d L : Nat) (s : St) : Prop where
  blk : ∃ cap, Blk w sb (stV d s.room (some ⟨lb, 0, none⟩) s.recs.length cap s.dead) 127 ∧ s.recs.length ≤ cap ∧ cap ≤ 9223372036854775807
  recs : RecsAt 129 w N lb s.recs
  disk : IsDisk w d L s.disk
  tab : Tab w
  ntab : ¬ N gT
  foot : ∀ b, Foot sb lb d L b → N b
  ne : sb ≠ lb ∧ sb ≠ d ∧ sb ≠ L ∧ lb ≠ d ∧ lb ≠ L
  ok : s.Ok
  old : ∀ b, N b → b < w.heap.size
theorem IsStore.chg {w w' : World} {N S : Nat → Prop} {sb lb d L : Nat} {s : St} (h : IsStore w N sb lb d L s) (hc : Chg S w w') (h1 : ∀ b, Foot sb lb d L b → ¬ S b) (hs : ∀ b, S b → b < w.heap.size → N b) : IsStore w' N sb lb d L s := by
  obtain ⟨cap, hB, a, b⟩ := h.blk
  exact ⟨⟨cap, hc.blk hB (h1 _ (.inl rfl)), a, b⟩, h.recs.chg hc (h1 _ (.inr (.inl rfl))) hs, h.disk.chg hc (h1 _ (.inr (.inr (.inl rfl)))) (h1 _ (.inr (.inr (.inr rfl)))), h.tab.chg hc (fun hS => h.ntab (hs _ hS h.tab.lt)), h.ntab, h.foot, h.ne, h.ok, fun b hb => Nat.lt_of_lt_of_le (h.old b hb) hc.size⟩
theorem IsStore.below {w w' : World} {N : Nat → Prop} {sb lb d L : Nat} {s : St} (h : IsStore w N sb lb d L s) (hb : Below w.heap.size w w') : IsStore w' N sb lb d L s := h.chg (S := fun _ => False) (Chg.of_below hb) (fun _ _ => id) (fun _ h => h.elim)
theorem IsStore.lt {w : World} {N : Nat → Prop} {sb lb d L : Nat} {s : St} (h : IsStore w N sb lb d L s) : ∀ b, Foot sb lb d L b → b < w.heap.size := by
  intro b hb
  obtain ⟨cap, hB, _⟩ := h.blk
  rcases hb with rfl | rfl | rfl | rfl
  · exact hB.lt
  · exact h.recs.lt
  · exact h.disk.lt.1
  · exact h.disk.lt.2
theorem IsStore.grow {w w' : World} {N M S : Nat → Prop} {sb lb d L : Nat} {s : St} (h : IsStore w N sb lb d L s) (hc : Chg S w w') (h1 : ∀ b, Foot sb lb d L b → ¬ S b) (hs : ∀ b, S b → b < w.heap.size → N b) (hM : ∀ b, M b → N b ∨ w.heap.size ≤ b) (hNM : ∀ b, N b → M b) (hold : ∀ b, M b → b < w'.heap.size) : IsStore w' M sb lb d L s := by
  obtain ⟨cap, hB, a, b⟩ := h.blk
  have hg : ¬ M gT := fun hg => by
    rcases hM _ hg with h' | h'
    · exact h.ntab h'
    · have := h.tab.lt; omega
  exact ⟨⟨cap, hc.blk hB (h1 _ (.inl rfl)), a, b⟩, (h.recs.mono hM).chg hc (h1 _ (.inr (.inl rfl))) (fun b hb hlt => hNM _ (hs b hb hlt)), h.disk.chg hc (h1 _ (.inr (.inr (.inl rfl)))) (h1 _ (.inr (.inr (.inr rfl)))), h.tab.chg hc (fun hS => h.ntab (hs _ hS h.tab.lt)), hg, fun b hb => hNM _ (h.foot b hb), h.ne, h.ok, hold⟩
def optI : Option Nat → Int
  | none => -1
  | some k => k
end Go.Proofs.YtclhgokchcklbaaGreatDoor
end
section
namespace Go.Proofs.YtclhgokchcklbaaGreatDoor
open Go Go.RowKit Go.Mem Gf
attribute [local go_sem ↓] Go.wp_at_zero Go.wp_at_succ
theorem best_lt (l : List Sto.Rec) (name : ByteArray) : ∀ k j, Sto.best l name k = some j → j < k ∧ ∃ r, l[j]? = some r ∧ r.is = true ∧ (r.name.toList == name.toList) = true
  | 0, j, h => by simp [Sto.best] at h
  | k + 1, j, h => by
    simp only [Sto.best] at h
    split at h
    · have := best_lt l name k j h; exact ⟨by omega, this.2⟩
    · rename_i r hr
      split at h
      · rename_i hc
        cases h
        exact ⟨by omega, r, hr, hc.1, hc.2.1⟩
      · have := best_lt l name k j h; exact ⟨by omega, this.2⟩
theorem best_step {l : List Sto.Rec} {name : ByteArray} {i : Nat} {r : Sto.Rec} (h : l[i]? = some r) : Sto.best l name (i + 1) = if r.is = true ∧ (r.name.toList == name.toList) = true ∧ (∀ j, Sto.best l name i = some j → (l.getD j Sto.Rec.free).num < r.num) then some i else Sto.best l name i := by
  rw [Sto.best, h]
set_option maxRecDepth 20000 in
set_option maxHeartbeats 1000000 in
theorem best_calls (N : Nat → Prop) (sb lb d n cap room : Nat) (dead : Bool) (l : List Sto.Rec) (name : ByteArray) (w : World) (hB : Blk w sb (stV d room (some ⟨lb, 0, none⟩) n cap dead) 127) (hR : RecsAt 129 w N lb l) (hn : n = l.length) (hn2 : n ≤ 1000000) (hnc : n ≤ cap) (hcm : cap ≤ 9223372036854775807) (hnum : ∀ r ∈ l, r.num ≤ 4611686018427387904) :
    Calls Tryz.prog 69 #[.pointer (some ⟨sb, 0, none⟩), .string name] w fun e w' => e = .returned (.int .i64 (optI (Sto.best l name n))) ∧ Below w.heap.size w w' := by
  have c2 : w.cell? ⟨sb, 2, none⟩ = some (.slice (some ⟨lb, 0, none⟩) n cap) := hB.cell 2
  have Hn := Lib.hid hn; have HB := Lib.hid hB; have HR := Lib.hid hR; have Hnum := Lib.hid hnum
  clear hn hB hR hnum
  go_enter Tryz.func69, Tryz.ntmps69
  go_wp2_with fail
  go_loopw [5, 13] (fun u v wr => ∃ i : Nat, i ≤ n ∧ v = .int .i64 i ∧ u = .int .i64 (optI (Sto.best l name i)) ∧ Below w.heap.size w wr) (fun _ v _ => n - (intOf v).toNat)
  case atStart => exact ⟨0, by omega, rfl, rfl, Below.refl _ _⟩
  case round =>
    obtain ⟨i, hi, rfl, rfl, hb⟩ := hrel
    by_cases h0 : i < n
    · obtain ⟨r, hr⟩ : ∃ r, l[i]? = some r := ⟨l[i]'(by have := Hn.out; omega), by simp⟩
      have hRr := HR.out.below hb
      obtain ⟨a, c, c3, c4, c5, c6, _, _⟩ := hRr.at hr
      have i0 : (0 : Int) ≤ (i : Int) := by omega
      have i1 : (i : Int) < (n : Int) := by omega
      have Hr := Lib.hid hr; have HRr := Lib.hid hRr
      have hBr := HB.out.kept hb
      have HBr := Lib.hid hBr
      have hbx := Blk.new wr (recV r (.slice a r.data.length c)) 129
      have hbb : Below wr.heap.size wr (wr.alloc (.cells (recV r (.slice a r.data.length c)) 129)) := (Below.refl _ _).alloc (Nat.le_refl _) _
      obtain ⟨wb, hwb⟩ : ∃ wb, wb = wr.alloc (.cells (recV r (.slice a r.data.length c)) 129) := ⟨_, rfl⟩
      obtain ⟨bx, hbxe⟩ : ∃ bx, bx = wr.heap.size := ⟨_, rfl⟩
      have Hstep := Lib.hid (best_step (name := name) hr)
      clear hr hRr hBr
      go_upto_region 5 with fail
      rw [show (wr.alloc (.cells #[.bool r.is, .string r.name, .int .i64 (r.num : Int), .slice a r.data.length c] 129)) = wb from hwb.symm, ← hbxe]
      rw [← hwb, ← hbxe] at hbx
      rw [← hwb] at hbb
      have b0 : wb.cell? ⟨bx, 0, none⟩ = some (.bool r.is) := hbx.cell 0
      have b1 : wb.cell? ⟨bx, 1, none⟩ = some (.string r.name) := hbx.cell 1
      have b2 : wb.cell? ⟨bx, 2, none⟩ = some (.int .i64 (r.num : Int)) := hbx.cell 2
      have hbw := Lib.hid (hb.trans (hbb.mono hb.size))
      have Hbb := Lib.hid hbb
      clear hwb hbxe hbx hbb c3 c4 c5 c6
      by_cases k1 : r.is = true
      · by_cases k2 : (r.name.toList == name.toList) = true
        · cases hbest : Sto.best l name i with
          | none =>
            have Hfin := Lib.hid (show Sto.best l name (i + 1) = some i from by rw [Hstep.out, if_pos ⟨k1, k2, fun j h => by rw [hbest] at h; cases h⟩])
            rw [k1] at b0
            clear k1 hbest
            simp only [optI]
            go_quiet (fail)
            go_wp2
            exact ⟨⟨i + 1, by omega, by go_num, by rw [Hfin.out]; rfl, below_drewN hbw.out _⟩, by simp [intOf] <;> omega⟩
          | some j =>
            obtain ⟨hj, rj, hrj, _⟩ := best_lt l name i j hbest
            obtain ⟨a2, c2', _, _, e5, _⟩ := (HRr.out.below Hbb.out).at hrj
            have s2 : wb.cell? ⟨sb, 2, none⟩ = some (.slice (some ⟨lb, 0, none⟩) n cap) := (HBr.out.kept Hbb.out).cell 2
            have j0 : (0 : Int) ≤ (j : Int) := by omega
            have j1 : (j : Int) < (n : Int) := by omega
            have j2 : decide ((j : Int) < 0) = false := by simp <;> omega
            have j3 : j < n := by omega
            have n1 := Hnum.out rj (List.mem_of_getElem? hrj)
            have n2 := Hnum.out r (List.mem_of_getElem? Hr.out)
            have hgd : l.getD j Sto.Rec.free = rj := by rw [List.getD_eq_getElem?_getD, hrj]; rfl
            by_cases k3 : rj.num < r.num
            · have Hfin := Lib.hid (show Sto.best l name (i + 1) = some i from by rw [Hstep.out, if_pos ⟨k1, k2, fun j' h => by rw [hbest] at h; cases h; rw [hgd]; exact k3⟩])
              have t3 : decide ((rj.num : Int) < (r.num : Int)) = true := by simp; omega
              have t4 : decide (rj.num < r.num) = true := by simp; omega
              rw [k1] at b0
              clear k1 hbest hgd hrj
              simp only [optI]
              go_quiet (fail)
              go_wp2
              exact ⟨⟨i + 1, by omega, by go_num, by rw [Hfin.out]; rfl, below_drewN hbw.out _⟩, by simp [intOf] <;> omega⟩
            · have Hfin := Lib.hid (show Sto.best l name (i + 1) = some j from by rw [Hstep.out, if_neg (fun h => k3 (by have := h.2.2 j hbest; rw [hgd] at this; exact this)), hbest])
              have t3 : decide ((rj.num : Int) < (r.num : Int)) = false := by simp; omega
              have t4 : decide (rj.num < r.num) = false := by simp; omega
              rw [k1] at b0
              clear k1 hbest hgd hrj
              simp only [optI]
              go_quiet (fail)
              go_wp2
              exact ⟨⟨i + 1, by omega, by go_num, by rw [Hfin.out]; rfl, below_drewN hbw.out _⟩, by simp [intOf] <;> omega⟩
        · have Hfin := Lib.hid (show Sto.best l name (i + 1) = Sto.best l name i from by rw [Hstep.out, if_neg (fun h => k2 h.2.1)])
          have k2 : (r.name.toList == name.toList) = false := by simpa using k2
          rw [k1] at b0
          clear k1
          go_quiet (fail)
          go_wp2
          exact ⟨⟨i + 1, by omega, by go_num, by rw [Hfin.out], below_drewN hbw.out _⟩, by simp [intOf] <;> omega⟩
      · have Hfin := Lib.hid (show Sto.best l name (i + 1) = Sto.best l name i from by rw [Hstep.out, if_neg (fun h => k1 h.1)])
        have k1 : r.is = false := by simpa using k1
        rw [k1] at b0
        clear k1
        go_quiet (fail)
        go_wp2
        exact ⟨⟨i + 1, by omega, by go_num, by rw [Hfin.out], below_drewN hbw.out _⟩, by simp [intOf] <;> omega⟩
    · obtain rfl : n = i := by omega
      go_wp2
      go_ret
      exact ⟨rfl, hb⟩
end Go.Proofs.YtclhgokchcklbaaGreatDoor
end
section
namespace Go.Mem
open Go Go.RowKit Gf
def St.freeE (s : St) (i : Nat) : Int := s.disk.wres (i * (s.room + 1) : Nat) 1
def St.freeS (s : St) (i : Nat) : St := { s with disk := s.disk.wr (i * (s.room + 1) : Nat) [0], dead := s.dead || (s.freeE i != 0), recs := if s.freeE i = 0 then s.recs.set i Sto.Rec.free else s.recs }
def St.writeE (s : St) (i : Nat) (bs : List UInt8) : Int := s.disk.wres (i : Nat) bs.length
def St.writeS (s : St) (i : Nat) (bs : List UInt8) : St := { s with disk := s.disk.wr (i : Nat) bs, dead := s.dead || (s.writeE i bs != 0) }
theorem DiskS.wr_ge (s : DiskS) (i : Int) (bs : List UInt8) : s.writes ≤ (s.wr i bs).writes := by
  unfold DiskS.wr DiskS.write; split
  · split
    · exact Nat.le_refl _
    · exact Nat.le_succ _
  · exact Nat.le_refl _
theorem St.Ok.freeS {s : St} (h : s.Ok) (i : Nat) (hf : s.disk.writes < 72057594037927936) : (s.freeS i).Ok := by
  have hl : (s.freeS i).recs.length = s.recs.length := by unfold St.freeS; simp only; split <;> simp
  refine ⟨h.room1, h.room2, by rw [hl]; exact h.len1, by rw [hl]; exact h.len2, by rw [hl]; exact (DiskS.wr_n _ _ _).trans h.size, fun r hr => ?_, ?_⟩
  · have hw : s.disk.writes ≤ (s.freeS i).disk.writes := DiskS.wr_ge _ _ _
    have : r ∈ s.recs ∨ r = Sto.Rec.free := by
      unfold St.freeS at hr
      simp only at hr
      split at hr
      · rcases List.mem_or_eq_of_mem_set hr with h | h
        · exact .inl h
        · exact .inr h
      · exact .inl hr
    rcases this with h' | rfl
    · obtain ⟨a, b, c⟩ := h.each r h'
      exact ⟨a, b, by omega⟩
    · exact ⟨Nat.zero_le _, Nat.zero_le _, Nat.zero_le _⟩
  · have : (s.freeS i).disk.writes ≤ s.disk.writes + 1 := DiskS.wr_writes _ _ _
    omega
theorem St.Ok.writeS {s : St} (h : s.Ok) (i : Nat) (bs : List UInt8) (hf : s.disk.writes < 72057594037927936) : (s.writeS i bs).Ok := by
  refine ⟨h.room1, h.room2, h.len1, h.len2, (DiskS.wr_n _ _ _).trans h.size, fun r hr => ?_, ?_⟩
  · have hw : s.disk.writes ≤ (s.writeS i bs).disk.writes := DiskS.wr_ge _ _ _
    obtain ⟨a, b, c⟩ := h.each r hr
    exact ⟨a, b, by omega⟩
  · have : (s.writeS i bs).disk.writes ≤ s.disk.writes + 1 := DiskS.wr_writes _ _ _
    omega
end Go.Mem
namespace Go.Proofs.YtclhgokchcklbaaGreatDoor
open Go Go.RowKit Go.Mem Gf
attribute [local go_sem ↓] Go.wp_at_zero Go.wp_at_succ
theorem chg4i (w : World) (g k : Nat) (u0 u1 u2 u3 : Value) : Chg (fun b => b = g) w ((((w.setCell ⟨g, k, none⟩ u0).setCell ⟨g, k + 1, none⟩ u1).setCell ⟨g, k + 2, none⟩ u2).setCell ⟨g, k + 3, none⟩ u3) := by
  refine Chg.set (S := fun b => b = g) ?_ (a := ⟨g, k + 3, none⟩) rfl u3
  refine Chg.set (S := fun b => b = g) ?_ (a := ⟨g, k + 2, none⟩) rfl u2
  refine Chg.set (S := fun b => b = g) ?_ (a := ⟨g, k + 1, none⟩) rfl u1
  exact Chg.set (S := fun b => b = g) (Chg.refl _ _) (a := ⟨g, k, none⟩) rfl u0
set_option maxRecDepth 20000 in
set_option maxHeartbeats 2000000 in
theorem free_at (N : Nat → Prop) (sb lb d L i : Nat) (s : St) (w : World) (h : IsStore w N sb lb d L s) (hi : i < s.recs.length) (hfew : s.disk.writes < 72057594037927936) :
    Calls Tryz.prog 70 #[.pointer (some ⟨sb, 0, none⟩), .int .i64 i] w fun e w' => e = .returned (.int .i64 (s.freeE i)) ∧ IsStore w' N sb lb d L (s.freeS i) ∧ Chg (Foot sb lb d L) w w' := by
  obtain ⟨lc, hS, hlc1, hlc2⟩ := h.blk
  have hD := h.disk
  have H := Lib.hid h
  have hne : sb ≠ d ∧ sb ≠ L := ⟨h.ne.2.1, h.ne.2.2.1⟩
  have hok := h.ok
  have hi2 : i ≤ 1024 := by have := hok.len2; omega
  have hr := hok.room2
  obtain ⟨room, hroom⟩ : ∃ r, r = s.room := ⟨_, rfl⟩
  obtain ⟨n, hn⟩ : ∃ n, n = s.recs.length := ⟨_, rfl⟩
  obtain ⟨D, hDD⟩ : ∃ D, D = s.disk := ⟨_, rfl⟩
  obtain ⟨dead, hdd⟩ : ∃ dd, dd = s.dead := ⟨_, rfl⟩
  have HzE := Lib.hid (show s.freeE i = D.wres (i * (room + 1) : Nat) 1 from by rw [hDD, hroom]; rfl)
  have HSS := Lib.hid (show s.freeS i = { s with disk := D.wr (i * (room + 1) : Nat) [0], dead := dead || (s.freeE i != 0), recs := if s.freeE i = 0 then s.recs.set i Sto.Rec.free else s.recs } from by rw [hDD, hroom, hdd]; rfl)
  have hfew' := hfew
  have Hfew := Lib.hid hfew'
  rw [← hroom, ← hn, ← hdd] at hS
  rw [← hDD] at hD hfew
  rw [← hroom] at hr
  rw [← hn] at hi hlc1
  have hw : D.writes < 4611686018427387904 := by omega
  have Hr := Lib.hid hroom; have Hn := Lib.hid hn; have HDD := Lib.hid hDD; have Hdd := Lib.hid hdd; have Hok := Lib.hid hok
  clear hroom hn hDD hdd h hok hfew' hfew
  generalize hla : (some ⟨lb, 0, none⟩ : Option Addr) = la at hS
  have Hla := Lib.hid hla
  clear hla
  obtain ⟨z, hz⟩ : ∃ z, z = D.wres (i * (room + 1) : Nat) 1 := ⟨_, rfl⟩
  have c0 : w.cell? ⟨sb, 0, none⟩ = some (.pointer (some ⟨d, 0, none⟩)) := by rw [hS.cell]; rfl
  have c1 : w.cell? ⟨sb, 1, none⟩ = some (.int .i64 room) := by rw [hS.cell]; rfl
  have d0 : (w.alloc (.cells #[.int .u8 0] 5)).cell? ⟨sb, 0, none⟩ = some (.pointer (some ⟨d, 0, none⟩)) := by rw [(hS.alloc _).cell]; rfl
  have d1 : (w.alloc (.cells #[.int .u8 0] 5)).cell? ⟨sb, 1, none⟩ = some (.int .i64 room) := by rw [(hS.alloc _).cell]; rfl
  have hb0 : Below w.heap.size w (w.alloc (.cells #[.int .u8 0] 5)).drew := below_drewN ((Below.refl _ _).alloc (Nat.le_refl _) _) 1
  have q1 : IntKind.i64.wrap ((room : Int) + 1) = (room : Int) + 1 := IntWalk.i64_in _ (by omega)
  have hm : i * (room + 1) ≤ 1024 * 1025 := Nat.mul_le_mul hi2 (by omega)
  have e2 : (i : Int) * ((room : Int) + 1) = ((i * (room + 1) : Nat) : Int) := by push_cast; rfl
  have q2 : IntKind.i64.wrap ((i : Int) * ((room : Int) + 1)) = (i : Int) * ((room : Int) + 1) := IntWalk.i64_in _ (by rw [e2]; omega)
  rw [HzE.out, ← hz]
  have HS := Lib.hid hS; have HD := Lib.hid hD; have Hz := Lib.hid hz; have E2 := Lib.hid e2; have Hb0 := Lib.hid hb0
  clear hS hD hz e2 hm hb0
  go_enter Tryz.func70, Tryz.ntmps70
  go_wp2_with fail
  go_region_held3 (fun w' => w'.cell? ⟨sb, 0, none⟩ = some (.pointer (some ⟨d, 0, none⟩)) ∧ w'.cell? ⟨sb, 1, none⟩ = some (.int .i64 room)) (first | exact ⟨c0, c1⟩ | exact ⟨d0, d1⟩ | assumption)
    (first
      | (go_at_call 117
         rw [E2.out]
         refine (dwrite_any d L D (i * (room + 1) : Nat) _ [0] _ (HD.out.below Hb0.out) (Bys.drewN (bys_one w 0 (.int .u8 0) rfl 5) 1) hw).mono ?_
         rintro e w2 ⟨rfl, hD2, hc2⟩
         have hS2 := hc2.blk (HS.out.kept Hb0.out) (fun h => by rcases h with h | h; exact hne.1 h; exact hne.2 h)
         have hh : w2.cell? ⟨sb, 0, none⟩ = some (.pointer (some ⟨d, 0, none⟩)) ∧ w2.cell? ⟨sb, 1, none⟩ = some (.int .i64 room) := ⟨hS2.cell 0, hS2.cell 1⟩
         rw [show ([0] : List UInt8).length = 1 from rfl, ← Hz.out]))
  have HS2 := Lib.hid hS2; have HD2 := Lib.hid hD2
  have HC2 := Lib.hid (show Chg (Tri sb d L) w w2 from (Chg.of_below Hb0.out).trans (hc2.mono fun b h => .inr h))
  have g2 : w2.cell? ⟨sb, 2, none⟩ = some (.slice la n lc) := hS2.cell 2
  have g3 : w2.cell? ⟨sb, 3, none⟩ = some (.bool dead) := hS2.cell 3
  have f3 := hS2.free 3
  clear hS2 hD2 hc2 hh q1 q2 c0 c1 d0 d1
  by_cases h0 : z = 0
  · subst h0
    have g2' : w2.cell? ⟨sb, 2, none⟩ = some (.slice (some ⟨lb, 0, none⟩) n lc) := by rw [Hla.out]; exact g2
    clear g2
    have hRec := (H.out.recs.chg (S := Tri sb d L) HC2.out (fun e => by rcases e with e | e | e; exact H.out.ne.1 e.symm; exact H.out.ne.2.2.2.1 e; exact H.out.ne.2.2.2.2 e) (fun b hb _ => H.out.foot b (by rcases hb with e | e | e; exact .inl e; exact .inr (.inr (.inl e)); exact .inr (.inr (.inr e)))))
    obtain ⟨r0, hr0⟩ : ∃ r, s.recs[i]? = some r := ⟨s.recs[i]'(by have := Hn.out; omega), by simp⟩
    obtain ⟨xa, xc, e0, e1, e2, e3, _, ef⟩ := hRec.at hr0
    have i0 : (0 : Int) ≤ (i : Int) := by omega
    have i1 : (i : Int) < (n : Int) := by omega
    have f0 := ef (i * 4); have f1 := ef (i * 4 + 1); have f2 := ef (i * 4 + 2); have f4 := ef (i * 4 + 3)
    have HREC := Lib.hid hRec
    have HX := Lib.hid hRec
    clear hRec hr0 ef
    go_wp2
    go_ret
    have hset := HREC.out.set (i := i) (by have := Hn.out; omega) Sto.Rec.free (.slice none 0 0) (H.out.foot lb (.inr (.inl rfl))) (DataAt.nil _ _)
    have hc5 : Chg (fun b => b = lb) w2 ((((w2.setCell ⟨lb, i * 4, none⟩ (.bool false)).setCell ⟨lb, i * 4 + 1, none⟩ (.string { data := #[] })).setCell ⟨lb, i * 4 + 2, none⟩ (.int .i64 0)).setCell ⟨lb, i * 4 + 3, none⟩ (.slice none 0 0)) := chg4i w2 lb (i * 4) _ _ _ _
    have hC : Chg (Foot sb lb d L) w ((((w2.setCell ⟨lb, i * 4, none⟩ (.bool false)).setCell ⟨lb, i * 4 + 1, none⟩ (.string { data := #[] })).setCell ⟨lb, i * 4 + 2, none⟩ (.int .i64 0)).setCell ⟨lb, i * 4 + 3, none⟩ (.slice none 0 0)) := (HC2.out.mono fun b hb => by rcases hb with e | e | e; exact .inl e; exact .inr (.inr (.inl e)); exact .inr (.inr (.inr e))).trans (hc5.mono fun b hb => .inr (.inl hb))
    have hE : s.freeE i = 0 := by rw [HzE.out, ← Hz.out]
    have hok := Hok.out.freeS i Hfew.out
    rw [HSS.out, hE] at hok ⊢
    rw [if_pos rfl] at hok ⊢
    have e0 : (dead || ((0 : Int) != 0)) = dead := by simp
    rw [e0] at hok ⊢
    refine ⟨rfl, ⟨⟨lc, ?_, by simp only [List.length_set]; have := Hn.out; omega, hlc2⟩, hset, HD2.out.chg hc5 (fun e => H.out.ne.2.2.2.1 e.symm) (fun e => H.out.ne.2.2.2.2 e.symm), H.out.tab.chg hC (fun e => H.out.ntab (H.out.foot _ e)), H.out.ntab, H.out.foot, H.out.ne, hok, fun b hb => Nat.lt_of_lt_of_le (H.out.old b hb) hC.size⟩, hC⟩
    simp only [List.length_set]
    rw [← Hn.out, ← Hr.out, Hla.out]
    exact hc5.blk HS2.out H.out.ne.1
  · have t0 : (z != 0) = true := by simpa using h0
    have hE : s.freeE i = z := by rw [HzE.out, ← Hz.out]
    have HE := Lib.hid hE; have H0 := Lib.hid h0
    clear h0 hE
    go_wp2
    go_ret
    have hc3 := chg1 w2 sb 3 (.bool true)
    have hC0 : Chg (Foot sb lb d L) w w2 := HC2.out.mono fun b hb => by rcases hb with e | e | e; exact .inl e; exact .inr (.inr (.inl e)); exact .inr (.inr (.inr e))
    have hC : Chg (Foot sb lb d L) w (w2.setCell ⟨sb, 3, none⟩ (.bool true)) := hC0.trans (hc3.mono fun b hb => .inl hb)
    have hok := Hok.out.freeS i Hfew.out
    rw [HSS.out, HE.out] at hok ⊢
    rw [if_neg H0.out, t0, Bool.or_true] at hok ⊢
    have hRec := (H.out.recs.chg (S := Tri sb d L) HC2.out (fun e => by rcases e with e | e | e; exact H.out.ne.1 e.symm; exact H.out.ne.2.2.2.1 e; exact H.out.ne.2.2.2.2 e) (fun b hb _ => H.out.foot b (by rcases hb with e | e | e; exact .inl e; exact .inr (.inr (.inl e)); exact .inr (.inr (.inr e))))).chg hc3 (fun e => H.out.ne.1 e.symm) (fun b hb _ => H.out.foot b (.inl hb))
    refine ⟨rfl, ⟨⟨lc, ?_, by have := Hn.out; simp only; omega, hlc2⟩, hRec, HD2.out.chg hc3 (fun e => hne.1 e.symm) (fun e => hne.2 e.symm), H.out.tab.chg hC (fun e => H.out.ntab (H.out.foot _ e)), H.out.ntab, H.out.foot, H.out.ne, hok, fun b hb => Nat.lt_of_lt_of_le (H.out.old b hb) hC.size⟩, hC⟩
    simp only
    rw [← Hn.out, ← Hr.out, Hla.out]
    exact HS2.out.set 3 (.bool true)
set_option maxRecDepth 20000 in
set_option maxHeartbeats 2000000 in
theorem write_calls (N : Nat → Prop) (sb lb d L i : Nat) (s : St) (v : Value) (bs : List UInt8) (w : World) (h : IsStore w N sb lb d L s) (hb : Bys w v bs) (hfew : s.disk.writes < 72057594037927936) :
    Calls Tryz.prog 150 #[.pointer (some ⟨sb, 0, none⟩), .int .i64 i, v] w fun e w' => e = .returned (.int .i64 (s.writeE i bs)) ∧ IsStore w' N sb lb d L (s.writeS i bs) ∧ Chg (Foot sb lb d L) w w' := by
  obtain ⟨lc, hS, hlc1, hlc2⟩ := h.blk
  have c0 : w.cell? ⟨sb, 0, none⟩ = some (.pointer (some ⟨d, 0, none⟩)) := hS.cell 0
  have H := Lib.hid h; have HS := Lib.hid hS; have HB := Lib.hid hb; have Hfew := Lib.hid hfew; have Hl1 := Lib.hid hlc1
  obtain ⟨z, hz⟩ : ∃ z, z = s.writeE i bs := ⟨_, rfl⟩
  have Hz := Lib.hid hz
  rw [← hz]
  clear hz h hS hb hfew hlc1
  go_enter Tryz.func150, Tryz.ntmps150
  go_wp2_with fail
  refine (dwrite_any d L s.disk i v bs w H.out.disk HB.out (by have := Hfew.out; omega)).mono ?_
  rintro e w2 ⟨rfl, hD2, hc2⟩
  rw [show s.disk.wres (i : Nat) bs.length = z from Hz.out.symm]
  have hS2 := hc2.blk HS.out (fun e => by rcases e with e | e; exact H.out.ne.2.1 e; exact H.out.ne.2.2.1 e)
  have hR2 := H.out.recs.chg hc2 (fun e => by rcases e with e | e; exact H.out.ne.2.2.2.1 e; exact H.out.ne.2.2.2.2 e) (fun b hb _ => H.out.foot b (.inr (.inr hb)))
  have hC := hc2.mono (T := Foot sb lb d L) fun b hb => .inr (.inr hb)
  have g3 : w2.cell? ⟨sb, 3, none⟩ = some (.bool s.dead) := hS2.cell 3
  have f3 := hS2.free 3
  have HS2 := Lib.hid hS2; have HR2 := Lib.hid hR2; have HC := Lib.hid hC; have HD2 := Lib.hid hD2
  clear hS2 hR2 hC hD2 hc2
  have hok := Lib.hid (H.out.ok.writeS i bs Hfew.out)
  have HSS := Lib.hid (show s.writeS i bs = { s with disk := s.disk.wr (i : Nat) bs, dead := s.dead || (z != 0) } from by rw [Hz.out]; rfl)
  by_cases h0 : z = 0
  · subst h0
    have HT := Lib.hid (show ((0 : Int) != 0) = false from by simp)
    go_wp2
    go_ret
    rw [HSS.out]
    have hok := hok.out
    rw [HSS.out, HT.out, Bool.or_false] at hok
    rw [HT.out, Bool.or_false]
    exact ⟨rfl, ⟨⟨lc, HS2.out, Hl1.out, hlc2⟩, HR2.out, HD2.out, H.out.tab.chg HC.out (fun e => H.out.ntab (H.out.foot _ e)), H.out.ntab, H.out.foot, H.out.ne, hok, fun b hb => Nat.lt_of_lt_of_le (H.out.old b hb) HC.out.size⟩, HC.out⟩
  · have t0 : (z != 0) = true := by simpa using h0
    clear h0
    go_wp2
    go_ret
    rw [HSS.out]
    have hok := hok.out
    rw [HSS.out, t0, Bool.or_true] at hok
    rw [t0, Bool.or_true]
    have hc3 := chg1 w2 sb 3 (.bool true)
    have hC := HC.out.trans (hc3.mono (T := Foot sb lb d L) fun b hb => .inl hb)
    exact ⟨rfl, ⟨⟨lc, HS2.out.set 3 (.bool true), Hl1.out, hlc2⟩, HR2.out.chg hc3 (fun e => H.out.ne.1 e.symm) (fun b hb _ => H.out.foot b (.inl hb)), HD2.out.chg hc3 (fun e => H.out.ne.2.1 e.symm) (fun e => H.out.ne.2.2.1 e.symm), H.out.tab.chg hC (fun e => H.out.ntab (H.out.foot _ e)), H.out.ntab, H.out.foot, H.out.ne, hok, fun b hb => Nat.lt_of_lt_of_le (H.out.old b hb) hC.size⟩, hC⟩
end Go.Proofs.YtclhgokchcklbaaGreatDoor
end
section
namespace Go.Mem
open Go Go.RowKit Gf
def freeK (l : List Sto.Rec) : Nat → Nat
  | 0 => 0
  | k + 1 => match l[k]? with
    | none => freeK l k
    | some r => if r.is = false then freeK l k + 1 else freeK l k
theorem freeK_le (l : List Sto.Rec) : ∀ k, freeK l k ≤ k
  | 0 => Nat.le_refl _
  | k + 1 => by
    have := freeK_le l k
    simp only [freeK]
    split
    · omega
    · split <;> omega
def St.freeN (s : St) : Nat := if s.dead = true then 0 else freeK s.recs s.recs.length
end Go.Mem
namespace Go.Proofs.YtclhgokchcklbaaGreatDoor
open Go Go.RowKit Go.Mem Gf
attribute [local go_sem ↓] Go.wp_at_zero Go.wp_at_succ
set_option maxRecDepth 100000 in
theorem in_calls (n : Int) (b : Bool) (w : World) (hb : decide (1 ≤ n ∧ n ≤ 1024) = b) :
    Calls Tryz.prog 66 #[.int .i64 n] w fun e w' => e = .returned (.bool b) ∧ w = w' := by
  have H := Lib.hid hb
  clear hb
  by_cases h1 : 1 ≤ n
  · by_cases h2 : n ≤ 1024
    · obtain rfl : b = true := by rw [← H.out]; exact decide_eq_true ⟨h1, h2⟩
      clear H
      go_enter Tryz.func66, Tryz.ntmps66
      go_wp2
      go_ret
      exact ⟨rfl, rfl⟩
    · obtain rfl : b = false := by rw [← H.out]; exact decide_eq_false (fun h => h2 h.2)
      clear H
      go_enter Tryz.func66, Tryz.ntmps66
      go_wp2
      go_ret
      exact ⟨rfl, rfl⟩
  · obtain rfl : b = false := by rw [← H.out]; exact decide_eq_false (fun h => h1 h.1)
    clear H
    go_enter Tryz.func66, Tryz.ntmps66
    go_wp2
    go_ret
    exact ⟨rfl, rfl⟩
set_option maxRecDepth 20000 in
set_option maxHeartbeats 2000000 in
theorem sfree_calls (N : Nat → Prop) (sb lb d L : Nat) (s : St) (w : World) (h : IsStore w N sb lb d L s) :
    Calls Tryz.prog 30 #[.pointer (some ⟨sb, 0, none⟩)] w fun e w' => e = .returned (.int .i64 (s.freeN : Nat)) ∧ Below w.heap.size w w' := by
  obtain ⟨lc, hS, hlc1, hlc2⟩ := h.blk
  have hl2 := h.ok.len2
  have H := Lib.hid h; have HS := Lib.hid hS
  obtain ⟨n, hnn⟩ : ∃ n, n = s.recs.length := ⟨_, rfl⟩
  have c2 : w.cell? ⟨sb, 2, none⟩ = some (.slice (some ⟨lb, 0, none⟩) n lc) := by rw [hnn]; exact hS.cell 2
  rw [← hnn] at hlc1 hl2
  have Hn := Lib.hid hnn
  obtain ⟨dead, hdd⟩ : ∃ x, x = s.dead := ⟨_, rfl⟩
  have Hdd := Lib.hid hdd
  have HF := Lib.hid (show s.freeN = if dead = true then 0 else freeK s.recs n from by unfold St.freeN; rw [hdd, hnn])
  obtain ⟨m, hm⟩ : ∃ m, m = s.freeN := ⟨_, rfl⟩
  rw [← hm] at HF ⊢
  clear h hS hnn hdd hm
  go_enter Tryz.func30, Tryz.ntmps30
  go_wp2_with fail
  go_loopw [3, 11] (fun u v wr => ∃ i : Nat, i ≤ n ∧ v = .int .i64 i ∧ u = .int .i64 ((if dead = true then 0 else freeK s.recs i : Nat) : Int) ∧ Below w.heap.size w wr) (fun _ v _ => n - (intOf v).toNat)
  case atStart => exact ⟨0, by omega, rfl, by cases dead <;> rfl, Below.refl _ _⟩
  case round =>
    obtain ⟨i, hi, rfl, rfl, hb⟩ := hrel
    by_cases h0 : i < n
    · obtain ⟨r, hr⟩ : ∃ r, s.recs[i]? = some r := ⟨s.recs[i]'(by have := Hn.out; omega), by simp⟩
      obtain ⟨a, c, c3, c4, c5, c6, _, _⟩ := (H.out.recs.below hb).at hr
      have i0 : (0 : Int) ≤ (i : Int) := by omega
      have i1 : (i : Int) < (n : Int) := by omega
      have hle := freeK_le s.recs i
      have Hst := Lib.hid (show freeK s.recs (i + 1) = if r.is = false then freeK s.recs i + 1 else freeK s.recs i from by rw [freeK, hr])
      obtain ⟨q, hq⟩ : ∃ q, q = freeK s.recs i := ⟨_, rfl⟩
      rw [← hq] at hle ⊢
      have Hq := Lib.hid hq
      have d3 : ∀ o, (wr.alloc o).cell? ⟨sb, 3, none⟩ = some (.bool dead) := fun o => by rw [Hdd.out]; exact ((HS.out.kept hb).alloc o).cell 3
      have hbo : ∀ o, Below w.heap.size w (wr.alloc o) := fun o => hb.alloc hb.size o
      have HBO := Lib.hid hbo
      clear hr hq hbo
      cases dead with
      | true =>
        simp only [if_true]
        by_cases k1 : r.is = true
        · rw [k1] at c3
          go_wp2
          exact ⟨⟨i + 1, by omega, by go_num, rfl, HBO.out _⟩, by simp [intOf] <;> omega⟩
        · have k1 : r.is = false := by simpa using k1
          rw [k1] at c3
          go_wp2
          exact ⟨⟨i + 1, by omega, by go_num, rfl, HBO.out _⟩, by simp [intOf] <;> omega⟩
      | false =>
        simp only [Bool.false_eq_true, if_false]
        by_cases k1 : r.is = true
        · have Hs2 := Lib.hid (show freeK s.recs (i + 1) = q from by rw [Hst.out, if_neg (by rw [k1]; decide), Hq.out])
          rw [k1] at c3
          clear k1
          go_wp2
          exact ⟨⟨i + 1, by omega, by go_num, by rw [Hs2.out] <;> rfl, HBO.out _⟩, by simp [intOf] <;> omega⟩
        · have k1 : r.is = false := by simpa using k1
          have Hs2 := Lib.hid (show freeK s.recs (i + 1) = q + 1 from by rw [Hst.out, if_pos k1, Hq.out])
          rw [k1] at c3
          clear k1
          go_wp2
          exact ⟨⟨i + 1, by omega, by go_num, by rw [Hs2.out] <;> rfl, HBO.out _⟩, by simp [intOf] <;> omega⟩
    · obtain rfl : n = i := by omega
      have HF2 := Lib.hid (show (((if dead = true then 0 else freeK s.recs n : Nat)) : Int) = (m : Int) from by rw [HF.out])
      have HB := Lib.hid hb
      obtain ⟨z, hz⟩ : ∃ z : Int, z = (((if dead = true then 0 else freeK s.recs n : Nat)) : Int) := ⟨_, rfl⟩
      rw [← hz] at HF2 ⊢
      clear hz hb
      go_wp2
      go_ret
      exact ⟨by rw [HF2.out] <;> rfl, HB.out⟩
end Go.Proofs.YtclhgokchcklbaaGreatDoor
end
section
namespace Go.Mem
open Go Go.RowKit Gf
def namesK (l : List Sto.Rec) : Nat → List (List UInt8)
  | 0 => []
  | k + 1 => match l[k]? with
    | none => namesK l k
    | some r => if r.is = true then namesK l k ++ [r.name.data.toList] else namesK l k
theorem namesK_le (l : List Sto.Rec) : ∀ k, (namesK l k).length ≤ k
  | 0 => Nat.le_refl _
  | k + 1 => by
    have := namesK_le l k
    simp only [namesK]
    split
    · omega
    · split
      · simp; omega
      · omega
def St.names (s : St) : List (List UInt8) := if s.dead = true then [] else namesK s.recs s.recs.length
end Go.Mem
namespace Go.Proofs.YtclhgokchcklbaaGreatDoor
open Go Go.RowKit Go.Mem Gf Go.Sort
attribute [local go_sem ↓] Go.wp_at_zero Go.wp_at_succ
theorem ESc : Elem Tryz.prog 146 9 (.string ByteArray.empty) 16 := ⟨Tryz.underlying146, by kernel_rfl, rfl⟩
def NamesPost (s : St) (w : World) (e : Ending) (w' : World) : Prop :=
  ∃ v, e = .returned v ∧ w'.ownsRow w.heap.size 9 1 v s.names.length ((s.names.mergeSort fun x y => decide (x ≤ y)).map encStr) ∧ Below w.heap.size w w'
set_option maxRecDepth 20000 in
set_option maxHeartbeats 2000000 in
theorem snames_calls (N : Nat → Prop) (sb lb d L : Nat) (s : St) (w : World) (h : IsStore w N sb lb d L s) :
    Calls Tryz.prog 81 #[.pointer (some ⟨sb, 0, none⟩)] w (NamesPost s w) := by
  obtain ⟨lc, hS, hlc1, hlc2⟩ := h.blk
  have hl2 := h.ok.len2
  have H := Lib.hid h; have HS := Lib.hid hS
  obtain ⟨n, hnn⟩ : ∃ n, n = s.recs.length := ⟨_, rfl⟩
  have c2 : w.cell? ⟨sb, 2, none⟩ = some (.slice (some ⟨lb, 0, none⟩) n lc) := by rw [hnn]; exact hS.cell 2
  rw [← hnn] at hlc1 hl2
  have Hn := Lib.hid hnn
  obtain ⟨dead, hdd⟩ : ∃ x, x = s.dead := ⟨_, rfl⟩
  have Hdd := Lib.hid hdd
  have HF := Lib.hid (show s.names = if dead = true then [] else namesK s.recs n from by unfold St.names; rw [hdd, hnn])
  clear h hS hnn hdd
  go_enter Tryz.func81, Tryz.ntmps81
  go_wp2_with fail
  go_loopw [3, 11] (fun u v wr => ∃ i : Nat, i ≤ n ∧ v = .int .i64 i ∧ wr.ownsRow w.heap.size 9 1 u (if dead = true then [] else namesK s.recs i).length ((if dead = true then [] else namesK s.recs i).map encStr) ∧ Below w.heap.size w wr) (fun _ v _ => n - (intOf v).toNat)
  case atStart => exact ⟨0, by omega, rfl, by cases dead <;> exact World.ownsRow_nil _ _ _ _, Below.refl _ _⟩
  case round =>
    obtain ⟨i, hi, rfl, hown, hb⟩ := hrel
    by_cases h0 : i < n
    · obtain ⟨r, hr⟩ : ∃ r, s.recs[i]? = some r := ⟨s.recs[i]'(by have := Hn.out; omega), by simp⟩
      obtain ⟨a, c, c3, c4, c5, c6, _, _⟩ := (H.out.recs.below hb).at hr
      have i0 : (0 : Int) ≤ (i : Int) := by omega
      have i1 : (i : Int) < (n : Int) := by omega
      have hle := namesK_le s.recs i
      have Hst := Lib.hid (show namesK s.recs (i + 1) = if r.is = true then namesK s.recs i ++ [r.name.data.toList] else namesK s.recs i from by rw [namesK, hr])
      obtain ⟨q, hq⟩ : ∃ q, q = namesK s.recs i := ⟨_, rfl⟩
      rw [← hq] at hle hown
      have Hq := Lib.hid hq
      have d3 : ∀ o, (wr.alloc o).cell? ⟨sb, 3, none⟩ = some (.bool dead) := fun o => by rw [Hdd.out]; exact ((HS.out.kept hb).alloc o).cell 3
      have hbo : ∀ o, Below w.heap.size w (wr.alloc o) := fun o => hb.alloc hb.size o
      have HBO := Lib.hid hbo
      have hsz := hb.size
      have HO := Lib.hid hown
      clear hr hq hbo hown
      cases dead with
      | true =>
        by_cases k1 : r.is = true
        · rw [k1] at c3
          go_wp2
          exact ⟨⟨i + 1, by omega, by go_num, HO.out.alloc _, HBO.out _⟩, by simp [intOf] <;> omega⟩
        · have k1 : r.is = false := by simpa using k1
          rw [k1] at c3
          go_wp2
          exact ⟨⟨i + 1, by omega, by go_num, HO.out.alloc _, HBO.out _⟩, by simp [intOf] <;> omega⟩
      | false =>
        have HO2 := Lib.hid (show wr.ownsRow w.heap.size 9 1 u3 q.length (q.map encStr) from HO.out)
        by_cases k1 : r.is = true
        · have Hs2 := Lib.hid (show namesK s.recs (i + 1) = q ++ [r.name.data.toList] from by rw [Hst.out, if_pos k1, Hq.out])
          rw [k1] at c3
          clear k1
          go_wp2_with (at_builtin; refine appG_one ESc rfl _ _ rfl (base := w.heap.size) (n := q.length) (xs := q.map encStr) (.string r.name) rfl rfl ?cc rfl ((HO2.out.alloc _).alloc _) ?q1 ?q2 ?q3 ?_)
          case cc => exact new_cell _ _ _ _ (by simp)
          case q1 => omega
          case q2 => omega
          case q3 => simp; omega
          intro v4 w4 ho4 hg4
          have hb4 := grown_below ((HBO.out _).alloc (HBO.out _).size _) hg4 (fun k hk => (HO2.out.lt k hk).1)
          have HO4 := Lib.hid ho4
          have HB4 := Lib.hid hb4
          clear ho4 hg4 hb4
          go_wp2
          refine ⟨⟨i + 1, by omega, by go_num, ?_, HB4.out⟩, by simp [intOf] <;> omega⟩
          rw [if_neg (by decide), Hs2.out, List.length_append, List.map_append]
          exact HO4.out
        · have k1 : r.is = false := by simpa using k1
          have Hs2 := Lib.hid (show namesK s.recs (i + 1) = q from by rw [Hst.out, if_neg (by rw [k1]; decide), Hq.out])
          rw [k1] at c3
          clear k1
          go_wp2
          refine ⟨⟨i + 1, by omega, by go_num, ?_, HBO.out _⟩, by simp [intOf] <;> omega⟩
          rw [if_neg (by decide), Hs2.out]
          exact HO2.out.alloc _
    · obtain rfl : n = i := by omega
      have hown2 : wr.ownsRow w.heap.size 9 1 u3 s.names.length (s.names.map encStr) := by rw [HF.out]; exact hown
      have hzl : s.names.length ≤ n := by
        rw [HF.out]
        cases dead
        · exact namesK_le _ _
        · simp
      obtain ⟨z, hz⟩ : ∃ z, z = s.names := ⟨_, rfl⟩
      rw [← hz] at hown2 hzl
      have HZ := Lib.hid hz
      have HB := Lib.hid hb
      clear hown hz hb HF
      have HO := Lib.hid hown2
      rcases hown2.2 with ⟨rfl, h0l⟩ | ⟨g, cap, cur, rfl, hg, hgg, g1, g2, g3, g4⟩
      · have hz0 : z = [] := by simpa using h0l
        subst hz0
        clear hown2
        go_wp2_with fail
        refine (Tryz.sort_Strings_none none 0 wr).mono ?_
        rintro e w3 ⟨rfl, rfl⟩
        go_wp2
        go_ret
        exact ⟨_, rfl, by rw [← HZ.out]; simpa using HO.out, HB.out⟩
      · have hH : Holds encStr wr g 0 z.toArray := holds_of_block hgg (by simpa using g4)
        have hgl : g < wr.heap.size := (Array.getElem?_eq_some_iff.1 hgg).1
        have HS2 := Lib.hid (fun n os => ownsRow_sorted (n := n) (os := os) (ss := z) (ts := z.mergeSort fun x y => decide (x ≤ y)) (by simp) hg hgg g1 g2 g3)
        have HG := Lib.hid hg
        clear hown2 hgg g4
        go_wp2_with fail
        refine (Tryz.sort_Strings g 0 cap z wr hH hgl (by omega)).mono ?_
        rintro e w3 ⟨rfl, m, os, rfl⟩
        have hgr : Below w.heap.size w (grow (putRow encStr (Sort.ahead wr m) g 0 (z.mergeSort fun x y => decide (x ≤ y)).toArray) os) := grown_below HB.out (grownBy_sorted _) (fun k hk => by cases hk; exact HG.out)
        obtain ⟨w4, hw4⟩ : ∃ w4, w4 = grow (putRow encStr (Sort.ahead wr m) g 0 (z.mergeSort fun x y => decide (x ≤ y)).toArray) os := ⟨_, rfl⟩
        rw [← hw4] at hgr ⊢
        have HW := Lib.hid hw4
        have HGR := Lib.hid hgr
        clear hgr hw4
        go_wp2
        go_ret
        exact ⟨_, rfl, by rw [HW.out, ← HZ.out]; exact HS2.out _ _, HGR.out⟩
end Go.Proofs.YtclhgokchcklbaaGreatDoor
end
section
namespace Go.Mem
open Go Go.RowKit Gf
def readAll (room : Nat) (D : DiskS) : Nat → List Sto.Rec × Int × DiskS
  | 0 => ([], 0, D)
  | k + 1 =>
    let p := readAll room D k
    if p.2.1 ≠ 0 then p else
      let q := Go.Proofs.YtclhgokchcklbaaGreatDoor.readR p.2.2 room k
      let D' := if q.2.2 = true then p.2.2.wr (k * (room + 1) : Nat) [0] else p.2.2
      if q.2.1 ≠ 0 then (p.1, q.2.1, D') else (p.1 ++ [q.1], 0, D')
theorem readAll_len (room : Nat) (D : DiskS) : ∀ k, (readAll room D k).2.1 = 0 → (readAll room D k).1.length = k
  | 0, _ => rfl
  | k + 1, h => by
    rw [readAll] at h ⊢
    by_cases h0 : (readAll room D k).2.1 = 0
    · have ih := readAll_len room D k h0
      simp only [h0, ne_eq, not_true_eq_false, if_false] at h ⊢
      split at h
      · rename_i h1
        exact absurd h h1
      · rename_i h1
        rw [if_neg h1, List.length_append, ih]
        rfl
    · simp only [ne_eq, h0, not_false_eq_true, if_true] at h
theorem readAll_err (room : Nat) (D : DiskS) {k : Nat} (h : (readAll room D k).2.1 ≠ 0) : ∀ m, readAll room D (k + m) = readAll room D k
  | 0 => rfl
  | m + 1 => by
    have ih := readAll_err room D h m
    rw [Nat.add_succ, readAll, ih]
    simp only [ne_eq, h, not_false_eq_true, if_true]
def keepBest (s : St) : Nat → Int × St
  | 0 => (0, s)
  | k + 1 =>
    let p := keepBest s k
    if p.1 ≠ 0 then p else
      match p.2.recs[k]? with
      | none => p
      | some r => if r.is = true ∧ Sto.best p.2.recs r.name p.2.recs.length ≠ some k then (p.2.freeE k, p.2.freeS k) else p
theorem keepBest_err (s : St) {k : Nat} (h : (keepBest s k).1 ≠ 0) : ∀ m, keepBest s (k + m) = keepBest s k
  | 0 => rfl
  | m + 1 => by
    have ih := keepBest_err s h m
    rw [Nat.add_succ, keepBest, ih]
    simp only [ne_eq, h, not_false_eq_true, if_true]
theorem freeS_len (s : St) (i : Nat) : (s.freeS i).recs.length = s.recs.length ∧ (s.freeS i).room = s.room := by
  refine ⟨?_, rfl⟩
  simp only [St.freeS]
  split
  · exact List.length_set
  · rfl
theorem keepBest_len (s : St) : ∀ k, (keepBest s k).2.recs.length = s.recs.length ∧ (keepBest s k).2.room = s.room
  | 0 => ⟨rfl, rfl⟩
  | k + 1 => by
    have ih := keepBest_len s k
    rw [keepBest]
    by_cases h0 : (keepBest s k).1 = 0
    · simp only [h0, ne_eq, not_true_eq_false, if_false]
      split
      · exact ih
      · split
        · exact ⟨(freeS_len _ _).1.trans ih.1, (freeS_len _ _).2.trans ih.2⟩
        · exact ih
    · simp only [ne_eq, h0, not_false_eq_true, if_true]
      exact ih
def openR (D : DiskS) (slots room : Nat) : Int × DiskS × Option St :=
  let p := readAll room D slots
  if p.2.1 ≠ 0 then (p.2.1, p.2.2, none) else
    let q := keepBest ⟨room, p.1, false, p.2.2⟩ slots
    if q.1 ≠ 0 then (q.1, q.2.disk, none) else (0, q.2.disk, some q.2)
end Go.Mem
namespace Go.Mem
open Go Go.RowKit Gf Go.Proofs.YtclhgokchcklbaaGreatDoor
theorem takeNet_le {b x r : List UInt8} (h : Cod.takeNet b = some (x, r)) : x.length ≤ b.length ∧ r.length ≤ b.length := by
  unfold Cod.takeNet at h
  split at h
  · cases h
  · split at h
    · cases h
    · simp only [Option.some.injEq, Prod.mk.injEq] at h
      obtain ⟨rfl, rfl⟩ := h
      simp only [List.length_take, List.length_drop]
      omega
theorem takeN_le : ∀ (k : Nat) (b : List UInt8) (xs : List (List UInt8)) (r : List UInt8), Sto.takeN k b = some (xs, r) → (∀ x ∈ xs, x.length ≤ b.length) ∧ r.length ≤ b.length
  | 0, b, xs, r, h => by
    simp [Sto.takeN] at h
    obtain ⟨rfl, rfl⟩ := h
    exact ⟨fun x hx => by simp at hx, Nat.le_refl _⟩
  | k + 1, b, xs, r, h => by
    simp only [Sto.takeN] at h
    split at h
    · cases h
    · rename_i xs' r' h'
      split at h
      · cases h
      · rename_i x r'' h''
        simp only [Option.some.injEq, Prod.mk.injEq] at h
        obtain ⟨rfl, rfl⟩ := h
        have ih := takeN_le k b xs' r' h'
        have h2 := takeNet_le h''
        refine ⟨fun y hy => ?_, Nat.le_trans h2.2 ih.2⟩
        rcases List.mem_append.1 hy with hy | hy
        · exact ih.1 y hy
        · simp only [List.mem_singleton] at hy
          subst hy
          exact Nat.le_trans h2.1 ih.2
theorem getD_le {xs : List (List UInt8)} {m : Nat} (h : ∀ x ∈ xs, x.length ≤ m) (i : Nat) : (xs.getD i []).length ≤ m := by
  rw [List.getD_eq_getElem?_getD]
  cases hx : xs[i]? with
  | none => exact Nat.zero_le _
  | some x => exact h x (List.mem_of_getElem? hx)
theorem parse_le {b : List UInt8} {r : Sto.Rec} (h : Sto.parse b = some r) : r.name.size ≤ b.length ∧ r.data.length ≤ b.length ∧ r.num ≤ 72057594037927936 := by
  unfold Sto.parse at h
  split at h
  · cases h
  · rename_i xs r' h'
    split at h
    · rename_i h4
      simp only [Option.some.injEq] at h
      subst h
      have ih := (takeN_le 3 b xs r' h').1
      exact ⟨getD_le ih 0, getD_le ih 2, by have := Cod.getN_lt (xs.getD 1 []) (by omega); simp only; omega⟩
    · cases h
def Small (m : Nat) (r : Sto.Rec) : Prop := r.name.size ≤ m ∧ r.data.length ≤ m ∧ r.num ≤ 72057594037927936
theorem small_free (m : Nat) : Small m Sto.Rec.free := ⟨Nat.zero_le _, Nat.zero_le _, Nat.zero_le _⟩
theorem readR_small (D : DiskS) (room i : Nat) : Small (room * 32) (readR D room i).1 := by
  unfold readR
  split
  · exact small_free _
  · split
    · exact small_free _
    · split
      · rename_i r h
        have := parse_le h
        rw [slotB_len] at this
        exact this
      · exact small_free _
theorem readAll_small (room : Nat) (D : DiskS) : ∀ k, ∀ r ∈ (readAll room D k).1, Small (room * 32) r
  | 0, r, h => by simp [readAll] at h
  | k + 1, r, h => by
    have ih := readAll_small room D k
    rw [readAll] at h
    simp only at h
    split at h
    · exact ih r h
    · split at h
      · exact ih r h
      · rcases List.mem_append.1 h with h | h
        · exact ih r h
        · simp only [List.mem_singleton] at h
          subst h
          exact readR_small _ _ _
theorem readAll_n (room : Nat) (D : DiskS) : ∀ k, (readAll room D k).2.2.n = D.n
  | 0 => rfl
  | k + 1 => by
    have ih := readAll_n room D k
    rw [readAll]
    simp only
    split
    · exact ih
    · split
      · simp only
        split
        · exact (DiskS.wr_n _ _ _).trans ih
        · exact ih
      · simp only
        split
        · exact (DiskS.wr_n _ _ _).trans ih
        · exact ih
end Go.Mem
end
section
namespace Go.Proofs.YtclhgokchcklbaaGreatDoor
open Go Go.RowKit Go.Mem Gf
attribute [local go_sem ↓] Go.wp_at_zero Go.wp_at_succ
end Go.Proofs.YtclhgokchcklbaaGreatDoor
end
section
namespace Go.Proofs.YtclhgokchcklbaaGreatDoor
open Go Go.RowKit Go.Mem Gf
attribute [local go_sem ↓] Go.wp_at_zero Go.wp_at_succ
theorem rws3 {w : World} {b : Nat} {t : TypeId} {v0 v1 v2 : Value} {r0 r1 r2 : List UInt8} (h : Blk w b #[v0, v1, v2] t) (h0 : Bys w v0 r0) (h1 : Bys w v1 r1) (h2 : Bys w v2 r2) : Rws w (.slice (some ⟨b, 0, none⟩) 3 3) [r0, r1, r2] := by
  refine ⟨_, 3, rfl, Nat.le_refl _, maxLen_ge (by decide), fun _ => ⟨b, 0, rfl, fun k r hk => ?_⟩⟩
  match k with
  | 0 => simp at hk; subst hk; exact ⟨v0, by rw [h.cell]; rfl, h0⟩
  | 1 => simp at hk; subst hk; exact ⟨v1, by rw [h.cell]; rfl, h1⟩
  | 2 => simp at hk; subst hk; exact ⟨v2, by rw [h.cell]; rfl, h2⟩
  | k + 3 => simp at hk
set_option maxRecDepth 20000 in
set_option maxHeartbeats 2000000 in
theorem bytes_calls (name : ByteArray) (num : Nat) (v : Value) (data : List UInt8) (w : World) (hT : Tab w) (hb : Bys w v data) (hn : name.size ≤ 1000000) (hnum : num ≤ 9223372036854775807) (hd : data.length ≤ 1000000) :
    Calls Tryz.prog 149 #[.string name, .int .i64 num, v] w fun e w' => ∃ v', e = .returned v' ∧ OwnX 5 w' w.heap.size v' (Sto.text name num data) ∧ Below w.heap.size w w' := by
  have hconv := Lib.run_convert_string_bytes (P := Tryz.prog) w 9 38 5 name Tryz.underlying9 Tryz.underlying38 Tryz.underlying5
  obtain ⟨ho, hb1⟩ := conv_ownX w 5 name (maxLen_ge (by omega))
  obtain ⟨w1, hw1⟩ : ∃ w1, w1 = Lib.bytesWorld w 5 name := ⟨_, rfl⟩
  rw [← hw1] at ho hb1 hconv
  have HO := Lib.hid ho; have HB1 := Lib.hid hb1; have HT := Lib.hid hT; have HB := Lib.hid hb
  have hs1 := hb1.size
  obtain ⟨da, dc, rfl⟩ := hb.eq_slice
  clear hw1 ho hb1 hT hb
  go_enter Tryz.func149, Tryz.ntmps149
  go_wp2_with fail
  refine (put_x num 4 hnum (by decide) (by decide) w1).mono ?_
  rintro e w2 ⟨pv, rfl, hp, hb2⟩
  have hb12 := HB1.out.trans (hb2.mono hs1)
  have hs2 := hb12.size
  obtain ⟨pa, pc, rfl⟩ := hp.eq_slice
  rw [Cod.be_len] at hp ⊢
  have HP := Lib.hid hp; have HB2 := Lib.hid hb2; have HB12 := Lib.hid hb12
  clear hp hb2 hb12 hconv
  go_wp2_with fail
  have hal := fun (o : Obj) => (Below.refl w2.heap.size w2).alloc (Nat.le_refl _) o
  refine (nets_calls _ [name.data.toList, Cod.be 4 num, data] _ ((HT.out.below HB12.out).below (hal _)) (rws3 (Blk.new _ _ _) (((HO.out.below HB2.out).bys).below (hal _)) ((HP.out.bys).below (hal _)) ((HB.out.below HB12.out).below (hal _))) ?_).mono ?_
  · simp only [Cod.nets, List.length_append, Cod.net_len, Cod.be_len, List.length_nil, Array.length_toList]
    have h1 : Lib.nDigits name.data.size ≤ 9 := by have := dec_len name.data.size (by show name.size ≤ _; omega); rw [Lib.itoa_nonneg, Lib.decDigits_length] at this; exact this
    have h2 : Lib.nDigits 4 ≤ 9 := by rw [Lib.nDigits_small (by decide)]; decide
    have h3 : Lib.nDigits data.length ≤ 9 := by have := dec_len data.length (by omega); rw [Lib.itoa_nonneg, Lib.decDigits_length] at this; exact this
    have h4 : name.data.size ≤ 1000000 := hn
    omega
  rintro e w3 ⟨v3, rfl, h3, hb3⟩
  go_wp2
  go_ret
  exact ⟨_, rfl, h3.mono (by simp; omega), (HB12.out.alloc hs2 _).trans (hb3.mono (by simp; omega))⟩
def fitsB (room : Nat) (name : ByteArray) (data : List UInt8) : Bool := decide (name.size ≤ 16384) && (decide (data.length ≤ 16384) && decide ((Sto.text name 0 data).length ≤ room * 32))
set_option maxRecDepth 20000 in
set_option maxHeartbeats 2000000 in
theorem fits_calls (N : Nat → Prop) (sb lb d L : Nat) (s : St) (name : ByteArray) (v : Value) (data : List UInt8) (w : World) (h : IsStore w N sb lb d L s) (hb : Bys w v data) (hn : name.size ≤ 9223372036854775807) :
    Calls Tryz.prog 148 #[.pointer (some ⟨sb, 0, none⟩), .string name, v] w fun e w' => e = .returned (.bool (fitsB s.room name data)) ∧ Below w.heap.size w w' := by
  obtain ⟨lc, hS, hlc1, hlc2⟩ := h.blk
  have c1 : w.cell? ⟨sb, 1, none⟩ = some (.int .i64 s.room) := hS.cell 1
  have hr2 := h.ok.room2
  have hdl := hb.len
  obtain ⟨da, dc, rfl⟩ := hb.eq_slice
  obtain ⟨dl, hdl'⟩ : ∃ dl, dl = data.length := ⟨_, rfl⟩
  rw [← hdl'] at hb hdl ⊢
  obtain ⟨nl, hnl⟩ : ∃ nl, nl = name.size := ⟨_, rfl⟩
  have Hdl := Lib.hid hdl'; have Hnl := Lib.hid hnl
  have HF := Lib.hid (show fitsB s.room name data = (decide (name.size ≤ 16384) && (decide (data.length ≤ 16384) && decide ((Sto.text name 0 data).length ≤ s.room * 32))) from rfl)
  have HS := Lib.hid hS; have HT := Lib.hid h.tab; have HB := Lib.hid hb
  obtain ⟨room, hroom⟩ : ∃ r, r = s.room := ⟨_, rfl⟩
  rw [← hroom] at hr2 c1 HF HS ⊢
  clear h hS hb hdl' hnl hroom
  by_cases h1 : name.size ≤ 16384
  · by_cases h2 : dl ≤ 16384
    · have HF2 := Lib.hid (show fitsB room name data = decide ((Sto.text name 0 data).length ≤ room * 32) from by rw [HF.out, decide_eq_true h1, decide_eq_true (by have := Hdl.out; omega)]; rfl)
      have q1 : IntKind.i64.wrap ((room : Int) * 32) = (room : Int) * 32 := IntWalk.i64_in _ (by omega)
      go_enter Tryz.func148, Tryz.ntmps148
      go_wp2_with fail
      go_region_held3 (fun w' => w'.cell? ⟨sb, 1, none⟩ = some (.int .i64 room)) (first | exact c1 | assumption)
        (first
          | (go_at_call 149
             refine (bytes_calls name 0 _ data w.drew (HT.out.drewN 1) (HB.out.drewN 1) (by omega) (by decide) (by have := Hdl.out; omega)).mono ?_
             rintro e w2 ⟨v2, rfl, ho2, hb2⟩
             have hb2 : Below w.heap.size w w2 := of_drew hb2
             have hh : w2.cell? ⟨sb, 1, none⟩ = some (.int .i64 room) := (HS.out.kept hb2).cell 1
             obtain ⟨a2, c2, rfl⟩ := ho2.eq_slice))
      have HE := Lib.hid (show decide (((Sto.text name 0 data).length : Int) ≤ (room : Int) * 32) = fitsB room name data from by rw [HF2.out, decide_eq_decide]; omega)
      go_wp2
      go_ret
      exact ⟨by rw [← HE.out]; rfl, hb2⟩
    · have HF2 := Lib.hid (show fitsB room name data = false from by rw [HF.out, decide_eq_false (p := data.length ≤ 16384) (by have := Hdl.out; omega)]; simp)
      go_enter Tryz.func148, Tryz.ntmps148
      go_wp2
      go_ret
      exact ⟨by rw [HF2.out]; rfl, Below.refl _ _⟩
  · have HF2 := Lib.hid (show fitsB room name data = false from by rw [HF.out, decide_eq_false h1]; rfl)
    go_enter Tryz.func148, Tryz.ntmps148
    go_wp2
    go_ret
    exact ⟨by rw [HF2.out]; rfl, Below.refl _ _⟩
end Go.Proofs.YtclhgokchcklbaaGreatDoor
end
