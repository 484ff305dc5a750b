/- A store's records as they lie in memory. -/
import Derived.Test.YtmeegdicnfgjfaaDoorStoreFree
import Derived.Test.YtmeegdicnfgjfaaDoorAppCells
import Derived.Deep.RegionLaw
namespace Go.Mem
open Go Go.RowKit Gf
/-- v reads as these bytes; its row is none of N, which hold what may change -/
def DataAt (w : World) (N : Nat → Prop) (v : Value) (bs : List UInt8) : Prop :=
  Bys w v bs ∧ ∃ a c, v = .slice a bs.length c ∧ ∀ b, a = some b → b.block < w.heap.size ∧ ¬ N b.block
theorem DataAt.nil (w : World) (N : Nat → Prop) : DataAt w N (.slice none 0 0) [] := ⟨Bys.nil _, none, 0, rfl, fun b h => by cases h⟩
theorem Bys.chg {S : Nat → Prop} {w w' : World} {v : Value} {bs : List UInt8} (h : Bys w v bs) (hc : Chg S w w') (hs : ∀ a l c, v = .slice (some a) l c → ¬ S a.block) : Bys w' v bs := by
  obtain ⟨a, cap, rfl, h1, h2, h3⟩ := h
  refine ⟨a, cap, rfl, h1, h2, fun hp => ?_⟩
  obtain ⟨b, off, rfl, hcell⟩ := h3 hp
  refine ⟨b, off, rfl, fun i u hi => ?_⟩
  have hx := hcell i u hi
  have hlt : b < w.heap.size := World.block_lt_of_cell? w ⟨b, off + i, none⟩ hx
  have hb := hc.block b hlt (hs _ _ _ rfl)
  unfold World.cell? at hx ⊢
  rw [hb]; exact hx
theorem DataAt.chg {S N : Nat → Prop} {w w' : World} {v : Value} {bs : List UInt8} (h : DataAt w N v bs) (hc : Chg S w w') (hs : ∀ b, S b → b < w.heap.size → N b) : DataAt w' N v bs := by
  obtain ⟨h1, a, c, rfl, h2⟩ := h
  refine ⟨h1.chg hc (fun a' l c' e hS => ?_), a, c, rfl, fun b hb => ⟨Nat.lt_of_lt_of_le (h2 b hb).1 hc.size, (h2 b hb).2⟩⟩
  injection e with e1 _ _
  obtain ⟨hb1, hb2⟩ := h2 a' e1
  exact hb2 (hs _ hS hb1)
theorem DataAt.mono {N M : Nat → Prop} {w : World} {v : Value} {bs : List UInt8} (h : DataAt w N v bs) (hM : ∀ b, M b → N b ∨ w.heap.size ≤ b) : DataAt w M v bs := by
  obtain ⟨h1, a, c, rfl, h2⟩ := h
  refine ⟨h1, a, c, rfl, fun b hb => ⟨(h2 b hb).1, fun hm => ?_⟩⟩
  rcases hM _ hm with h | h
  · exact (h2 b hb).2 h
  · have := (h2 b hb).1; omega
theorem OwnX.data {t8 : TypeId} {w : World} {base : Nat} {v : Value} {bs : List UInt8} {N : Nat → Prop} (h : OwnX t8 w base v bs) (hN : ∀ b, base ≤ b → b < w.heap.size → ¬ N b) : DataAt w N v bs := by
  refine ⟨h.bys, ?_⟩
  rcases h with ⟨rfl, rfl⟩ | ⟨g, cap, arr, fz, rfl, h2, h3, _⟩
  · exact ⟨none, 0, rfl, fun b h => by cases h⟩
  · exact ⟨_, cap, rfl, fun b hb => by cases hb; exact ⟨lt_of_block h3, hN _ h2 (lt_of_block h3)⟩⟩
/-- the cells of a row of records, each with its data's value -/
def recsV : List Sto.Rec → List Value → List Value
  | r :: l, v :: vs => [.bool r.is, .string r.name, .int .i64 r.num, v] ++ recsV l vs
  | _, _ => []
theorem recsV_len : ∀ (l : List Sto.Rec) (vs : List Value), vs.length = l.length → (recsV l vs).length = l.length * 4
  | [], [], _ => rfl
  | r :: l, v :: vs, h => by
    simp only [recsV, List.length_append, List.length_cons, List.length_nil]
    have := recsV_len l vs (by simpa using h)
    omega
theorem recsV_snoc : ∀ (l : List Sto.Rec) (vs : List Value) (r : Sto.Rec) (v : Value), vs.length = l.length → recsV (l ++ [r]) (vs ++ [v]) = recsV l vs ++ [.bool r.is, .string r.name, .int .i64 r.num, v]
  | [], [], r, v, _ => rfl
  | r' :: l, v' :: vs, r, v, h => by
    simp only [List.cons_append, recsV, List.append_assoc]
    rw [recsV_snoc l vs r v (by simpa using h)]
theorem recsV_get : ∀ (l : List Sto.Rec) (vs : List Value) (i : Nat) (r : Sto.Rec) (v : Value), l[i]? = some r → vs[i]? = some v →
    (recsV l vs)[i * 4]? = some (.bool r.is) ∧ (recsV l vs)[i * 4 + 1]? = some (.string r.name) ∧ (recsV l vs)[i * 4 + 2]? = some (.int .i64 r.num) ∧ (recsV l vs)[i * 4 + 3]? = some v
  | r :: l, v :: vs, 0, r', v', h1, h2 => by
    simp at h1 h2
    subst h1 h2
    exact ⟨rfl, rfl, rfl, rfl⟩
  | r :: l, v :: vs, i + 1, r', v', h1, h2 => by
    have := recsV_get l vs i r' v' (by simpa using h1) (by simpa using h2)
    have e : ∀ j, (recsV (r :: l) (v :: vs))[(i + 1) * 4 + j]? = (recsV l vs)[i * 4 + j]? := fun j => by
      rw [recsV, List.getElem?_append_right (by simp; omega)]
      congr 1
      simp; omega
    exact ⟨by rw [show (i + 1) * 4 = (i + 1) * 4 + 0 from rfl, e]; exact this.1, by rw [e]; exact this.2.1, by rw [e]; exact this.2.2.1, by rw [e]; exact this.2.2.2⟩
  | [], _, i, r, v, h1, _ => by simp at h1
  | _ :: _, [], i, r, v, _, h2 => by simp at h2
/-- the records lie in a block -/
def RecsAt (t : TypeId) (w : World) (N : Nat → Prop) (lb : Nat) (l : List Sto.Rec) : Prop :=
  ∃ (arr : Array Value) (vs : List Value), Blk w lb arr t ∧ l.length * 4 ≤ arr.size ∧ vs.length = l.length ∧ (∀ j, j < l.length * 4 → arr[j]? = (recsV l vs)[j]?) ∧ ∀ (i : Nat) (r : Sto.Rec) (v : Value), l[i]? = some r → vs[i]? = some v → DataAt w N v r.data
section
variable {t : TypeId} {w w' : World} {N S : Nat → Prop} {lb : Nat} {l : List Sto.Rec}
theorem RecsAt.lt (h : RecsAt t w N lb l) : lb < w.heap.size := by obtain ⟨_, _, h, _⟩ := h; exact h.lt
theorem RecsAt.chg (h : RecsAt t w N lb l) (hc : Chg S w w') (h1 : ¬ S lb) (hs : ∀ b, S b → b < w.heap.size → N b) : RecsAt t w' N lb l := by
  obtain ⟨arr, vs, hB, a, b, c, d⟩ := h
  exact ⟨arr, vs, hc.blk hB h1, a, b, c, fun i r v hr hv => (d i r v hr hv).chg hc hs⟩
theorem RecsAt.below (h : RecsAt t w N lb l) (hb : Below w.heap.size w w') : RecsAt t w' N lb l := h.chg (S := fun _ => False) (Chg.of_below hb) id (fun _ h => h.elim)
theorem RecsAt.mono {M : Nat → Prop} (h : RecsAt t w N lb l) (hM : ∀ b, M b → N b ∨ w.heap.size ≤ b) : RecsAt t w M lb l := by
  obtain ⟨arr, vs, hB, a, b, c, d⟩ := h
  exact ⟨arr, vs, hB, a, b, c, fun i r v hr hv => (d i r v hr hv).mono hM⟩
/-- a record, as the walk asks for it -/
theorem RecsAt.at (h : RecsAt t w N lb l) {i : Nat} {r : Sto.Rec} (hr : l[i]? = some r) : ∃ a c, w.cell? ⟨lb, i * 4, none⟩ = some (.bool r.is) ∧ w.cell? ⟨lb, i * 4 + 1, none⟩ = some (.string r.name) ∧ w.cell? ⟨lb, i * 4 + 2, none⟩ = some (.int .i64 r.num) ∧ w.cell? ⟨lb, i * 4 + 3, none⟩ = some (.slice a r.data.length c) ∧
    DataAt w N (.slice a r.data.length c) r.data ∧ (∀ j, w.frozen? ⟨lb, j, none⟩ = false) := by
  obtain ⟨arr, vs, hB, h1, h2, h3, h4⟩ := h
  have hi : i < l.length := by
    rcases Nat.lt_or_ge i l.length with h | h
    · exact h
    · rw [List.getElem?_eq_none h] at hr; cases hr
  have hd := h4 i r vs[i] hr (by simp [h2, hi])
  obtain ⟨a, c, e, _⟩ := id hd.2
  obtain ⟨g0, g1, g2, g3⟩ := recsV_get l vs i r vs[i] hr (by simp [h2, hi])
  rw [e] at g3 hd
  exact ⟨a, c, by rw [hB.cell, h3 _ (by omega)]; exact g0, by rw [hB.cell, h3 _ (by omega)]; exact g1, by rw [hB.cell, h3 _ (by omega)]; exact g2, by rw [hB.cell, h3 _ (by omega)]; exact g3, hd, fun j => hB.free j⟩
theorem recsV_set : ∀ (l : List Sto.Rec) (vs : List Value) (i : Nat) (r : Sto.Rec) (v : Value), vs.length = l.length → i < l.length →
    recsV (l.set i r) (vs.set i v) = ((((recsV l vs).set (i * 4) (.bool r.is)).set (i * 4 + 1) (.string r.name)).set (i * 4 + 2) (.int .i64 r.num)).set (i * 4 + 3) v
  | r' :: l, v' :: vs, 0, r, v, h, _ => by simp [recsV]
  | r' :: l, v' :: vs, i + 1, r, v, h, hi => by
    simp only [List.set_cons_succ, recsV]
    rw [recsV_set l vs i r v (by simpa using h) (by simpa using hi)]
    have e : ∀ (j : Nat) (L : List Value) (x : Value), ([.bool r'.is, .string r'.name, .int .i64 r'.num, v'] ++ L).set ((i + 1) * 4 + j) x = [.bool r'.is, .string r'.name, .int .i64 r'.num, v'] ++ L.set (i * 4 + j) x := fun j L x => by
      rw [List.set_append_right _ _ (by simp; omega)]
      congr 2
      simp; omega
    rw [show (i + 1) * 4 = (i + 1) * 4 + 0 from rfl, e 0, e 1, e 2, e 3]
    rfl
/-- a record is written -/
theorem RecsAt.set (h : RecsAt t w N lb l) {i : Nat} (hi : i < l.length) (r : Sto.Rec) (v : Value) (hN : N lb) (hd : DataAt w N v r.data) :
    RecsAt t ((((w.setCell ⟨lb, i * 4, none⟩ (.bool r.is)).setCell ⟨lb, i * 4 + 1, none⟩ (.string r.name)).setCell ⟨lb, i * 4 + 2, none⟩ (.int .i64 r.num)).setCell ⟨lb, i * 4 + 3, none⟩ v) N lb (l.set i r) := by
  obtain ⟨arr, vs, hB, h1, h2, h3, h4⟩ := h
  have hc : Chg (fun b => b = lb) w ((((w.setCell ⟨lb, i * 4, none⟩ (.bool r.is)).setCell ⟨lb, i * 4 + 1, none⟩ (.string r.name)).setCell ⟨lb, i * 4 + 2, none⟩ (.int .i64 r.num)).setCell ⟨lb, i * 4 + 3, none⟩ v) := by
    refine Chg.set (S := fun b => b = lb) ?_ (a := ⟨lb, i * 4 + 3, none⟩) rfl _
    refine Chg.set (S := fun b => b = lb) ?_ (a := ⟨lb, i * 4 + 2, none⟩) rfl _
    refine Chg.set (S := fun b => b = lb) ?_ (a := ⟨lb, i * 4 + 1, none⟩) rfl _
    exact Chg.set (S := fun b => b = lb) (Chg.refl _ _) (a := ⟨lb, i * 4, none⟩) rfl _
  refine ⟨_, vs.set i v, (((hB.set (i * 4) (.bool r.is)).set (i * 4 + 1) (.string r.name)).set (i * 4 + 2) (.int .i64 r.num)).set (i * 4 + 3) v, by simpa using h1, by simp [h2], fun j hj => ?_, fun k r' v' hr' hv' => ?_⟩
  · rw [recsV_set l vs i r v h2 hi]
    have hl := recsV_len l vs h2
    simp only [List.length_set] at hj
    simp only [Array.getElem?_setIfInBounds, List.getElem?_set, Array.size_setIfInBounds, List.length_set, hl, h3 j hj]
    have e1 : (i * 4 < arr.size) = (i * 4 < l.length * 4) := by simp; omega
    have e2 : (i * 4 + 1 < arr.size) = (i * 4 + 1 < l.length * 4) := by simp; omega
    have e3 : (i * 4 + 2 < arr.size) = (i * 4 + 2 < l.length * 4) := by simp; omega
    have e4 : (i * 4 + 3 < arr.size) = (i * 4 + 3 < l.length * 4) := by simp; omega
    simp only [e1, e2, e3, e4]
  · rw [List.getElem?_set] at hr' hv'
    by_cases e : i = k
    · subst e
      simp [hi, h2] at hr' hv'
      subst hr' hv'
      exact hd.chg hc (fun b hb _ => by rw [hb]; exact hN)
    · rw [if_neg e] at hr' hv'
      exact (h4 k r' v' hr' hv').chg hc (fun b hb _ => by rw [hb]; exact hN)
end
section
variable {P : Program} {w : World} {ops : Array Oper} {rest : List Oper} {o : Oper} {a : Act} {Q : Exit → Act → World → Prop} {K : Act → World → Prop} {E0 : Prop}
/-- one thing of many cells is appended to a row that is the call's own -/
theorem wpAppK {t e : TypeId} {z : Value} {size bytes : Nat} (E : ElemK P t e z size bytes) (s x : Operand) (ho : o.op = .call { callee := .builtin .append, args := #[s, x], argTypes := #[t, t] })
    {base : Nat} {v : Value} {n : Nat} {xs : List Value} (news : List Value) (hs : a.eval s = v) {mb : Nat} (hx : a.eval x = .slice (some ⟨mb, 0, none⟩) 1 1) (hl : news.length = size) (hnews : ∀ j u, news[j]? = some u → w.cell? ⟨mb, j, none⟩ = some u) (h1 : ∀ u ∈ news, u.oneCell' = true)
    (hown : w.ownsRow base e size v n xs) (hn : n + 1 ≤ 4294967296) (hby : bytes ≤ 4096) (hbase : base ≤ w.heap.size)
    (h : ∀ v' w', w'.ownsRow base e size v' (n + 1) (xs ++ news) ∧ w.grownBy w' v.ownBlock → K (a.put o.dst v') w') : o.wp P a w K Q := by
  obtain ⟨i, hi, hz, hsz, hb⟩ := info_parts E.info
  have hm : (n + 1) * bytes ≤ 4294967296 * 4096 := Nat.mul_le_mul hn hby
  exact wp_append_own w s x t ho base e i z size bytes E.under hi hz hsz hb E.zsize E.pos v n xs hs hown ⟨mb, 0, none⟩ 1 1 news hx (by omega)
    (fun j y hj => by
      rw [show (⟨mb, 0, none⟩ : Addr).add j = ⟨mb, j, none⟩ from by unfold Addr.add; split <;> simp_all]
      exact hnews j y hj)
    h1 (by unfold maxLen; omega) (by omega) hbase (fun v' w' h2 h3 _ => h v' w' ⟨h2, h3⟩)
theorem stepAppK {t e : TypeId} {z : Value} {size bytes : Nat} (E : ElemK P t e z size bytes) (hgd : o.guard = none) (s x : Operand) (ho : o.op = .call { callee := .builtin .append, args := #[s, x], argTypes := #[t, t] })
    {base : Nat} {v : Value} {n : Nat} {xs : List Value} (news : List Value) (hs : a.eval s = v) {mb : Nat} (hx : a.eval x = .slice (some ⟨mb, 0, none⟩) 1 1) (hl : news.length = size) (hnews : ∀ j u, news[j]? = some u → w.cell? ⟨mb, j, none⟩ = some u) (h1 : ∀ u ∈ news, u.oneCell' = true)
    (hown : w.ownsRow base e size v n xs) (hn : n + 1 ≤ 4294967296) (hby : bytes ≤ 4096) (hbase : base ≤ w.heap.size)
    (h : ∀ v' w', w'.ownsRow base e size v' (n + 1) (xs ++ news) → w.grownBy w' v.ownBlock → K (a.put o.dst v') w') : if Region.wanted o (yielded ops a.tmps) = true then Oper.wp P o a w K Q else E0 :=
  to_step hgd (fun _ hK => wpAppK E s x ho news hs hx hl hnews h1 hown hn hby hbase hK) fun v' w' h2 => h v' w' h2.1 h2.2
end
/-- what a store is -/
structure St where
  room : Nat
  recs : List Sto.Rec
  dead : Bool
  disk : DiskS
structure St.Ok (s : St) : Prop where
  room1 : 1 ≤ s.room
  room2 : s.room ≤ 1024
  len1 : 1 ≤ s.recs.length
  len2 : s.recs.length ≤ 1024
  size : s.disk.n = s.recs.length * (s.room + 1)
  each : ∀ r ∈ s.recs, r.name.size ≤ 1000000 ∧ r.data.length ≤ 1000000 ∧ r.num ≤ 72057594037927936 + s.disk.writes
  few : s.disk.writes ≤ 72057594037927936
end Go.Mem
namespace Go.Proofs.YtmeegdicnfgjfaaDoor
open Go Go.RowKit Go.Mem Gf
/-- the blocks of a store -/
def Foot (sb lb d L : Nat) (b : Nat) : Prop := b = sb ∨ b = lb ∨ b = d ∨ b = L
/-- a store lies in block sb, its records in lb, its disk in d and L; N holds what may change, the store's blocks among it -/
structure IsStore (w : World) (N : Nat → Prop) (sb lb d L : Nat) (s : St) : Prop where
  blk : ∃ cap, Blk w sb (stV d s.room (some ⟨lb, 0, none⟩) s.recs.length cap s.dead) 72 ∧ s.recs.length ≤ cap ∧ cap ≤ 9223372036854775807
  recs : RecsAt 74 w N lb s.recs
  disk : IsDisk w d L s.disk
  tab : Tab w
  ntab : ¬ N gT
  foot : ∀ b, Foot sb lb d L b → N b
  ne : sb ≠ lb ∧ sb ≠ d ∧ sb ≠ L ∧ lb ≠ d ∧ lb ≠ L
  ok : s.Ok
  old : ∀ b, N b → b < w.heap.size
theorem IsStore.chg {w w' : World} {N S : Nat → Prop} {sb lb d L : Nat} {s : St} (h : IsStore w N sb lb d L s) (hc : Chg S w w') (h1 : ∀ b, Foot sb lb d L b → ¬ S b) (hs : ∀ b, S b → b < w.heap.size → N b) : IsStore w' N sb lb d L s := by
  obtain ⟨cap, hB, a, b⟩ := h.blk
  exact ⟨⟨cap, hc.blk hB (h1 _ (.inl rfl)), a, b⟩, h.recs.chg hc (h1 _ (.inr (.inl rfl))) hs, h.disk.chg hc (h1 _ (.inr (.inr (.inl rfl)))) (h1 _ (.inr (.inr (.inr rfl)))), h.tab.chg hc (fun hS => h.ntab (hs _ hS h.tab.lt)), h.ntab, h.foot, h.ne, h.ok, fun b hb => Nat.lt_of_lt_of_le (h.old b hb) hc.size⟩
theorem IsStore.below {w w' : World} {N : Nat → Prop} {sb lb d L : Nat} {s : St} (h : IsStore w N sb lb d L s) (hb : Below w.heap.size w w') : IsStore w' N sb lb d L s := h.chg (S := fun _ => False) (Chg.of_below hb) (fun _ _ => id) (fun _ h => h.elim)
theorem IsStore.lt {w : World} {N : Nat → Prop} {sb lb d L : Nat} {s : St} (h : IsStore w N sb lb d L s) : ∀ b, Foot sb lb d L b → b < w.heap.size := by
  intro b hb
  obtain ⟨cap, hB, _⟩ := h.blk
  rcases hb with rfl | rfl | rfl | rfl
  · exact hB.lt
  · exact h.recs.lt
  · exact h.disk.lt.1
  · exact h.disk.lt.2
/-- other things are made, which may change too -/
theorem IsStore.grow {w w' : World} {N M S : Nat → Prop} {sb lb d L : Nat} {s : St} (h : IsStore w N sb lb d L s) (hc : Chg S w w') (h1 : ∀ b, Foot sb lb d L b → ¬ S b) (hs : ∀ b, S b → b < w.heap.size → N b) (hM : ∀ b, M b → N b ∨ w.heap.size ≤ b) (hNM : ∀ b, N b → M b) (hold : ∀ b, M b → b < w'.heap.size) : IsStore w' M sb lb d L s := by
  obtain ⟨cap, hB, a, b⟩ := h.blk
  have hg : ¬ M gT := fun hg => by
    rcases hM _ hg with h' | h'
    · exact h.ntab h'
    · have := h.tab.lt; omega
  exact ⟨⟨cap, hc.blk hB (h1 _ (.inl rfl)), a, b⟩, (h.recs.mono hM).chg hc (h1 _ (.inr (.inl rfl))) (fun b hb hlt => hNM _ (hs b hb hlt)), h.disk.chg hc (h1 _ (.inr (.inr (.inl rfl)))) (h1 _ (.inr (.inr (.inr rfl)))), h.tab.chg hc (fun hS => h.ntab (hs _ hS h.tab.lt)), hg, fun b hb => hNM _ (h.foot b hb), h.ne, h.ok, hold⟩
/-- the value of a slot, or -1 -/
def optI : Option Nat → Int
  | none => -1
  | some k => k
end Go.Proofs.YtmeegdicnfgjfaaDoor
