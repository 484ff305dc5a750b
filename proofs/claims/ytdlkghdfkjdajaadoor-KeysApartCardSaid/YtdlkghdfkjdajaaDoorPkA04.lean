/- Texts of this proof, packed: StoreMem, ShaSum. -/
import Derived.Test.YtdlkghdfkjdajaaDoorPkA03
import Derived.Test.YtdlkghdfkjdajaaDoorPkA00
import Derived.Test.YtdlkghdfkjdajaaDoorPkA01
import Derived.Deep.RegionLaw
import Derived.Test.YtdlkghdfkjdajaaDoorPkA02
section
namespace Go.Mem
open Go Go.RowKit Gf
def DataAt (w : World) (N : Nat → Prop) (v : Value) (bs : List UInt8) : Prop :=
  Bys w v bs ∧ ∃ a c, v = .slice a bs.length c ∧ ∀ b, a = some b → b.block < w.heap.size ∧ ¬ N b.block
theorem DataAt.nil (w : World) (N : Nat → Prop) : DataAt w N (.slice none 0 0) [] := ⟨Bys.nil _, none, 0, rfl, fun b h => by cases h⟩
theorem Bys.chg {S : Nat → Prop} {w w' : World} {v : Value} {bs : List UInt8} (h : Bys w v bs) (hc : Chg S w w') (hs : ∀ a l c, v = .slice (some a) l c → ¬ S a.block) : Bys w' v bs := by
  obtain ⟨a, cap, rfl, h1, h2, h3⟩ := h
  refine ⟨a, cap, rfl, h1, h2, fun hp => ?_⟩
  obtain ⟨b, off, rfl, hcell⟩ := h3 hp
  refine ⟨b, off, rfl, fun i u hi => ?_⟩
  have hx := hcell i u hi
  have hlt : b < w.heap.size := World.block_lt_of_cell? w ⟨b, off + i, none⟩ hx
  have hb := hc.block b hlt (hs _ _ _ rfl)
  unfold World.cell? at hx ⊢
  rw [hb]; exact hx
theorem DataAt.chg {S N : Nat → Prop} {w w' : World} {v : Value} {bs : List UInt8} (h : DataAt w N v bs) (hc : Chg S w w') (hs : ∀ b, S b → b < w.heap.size → N b) : DataAt w' N v bs := by
  obtain ⟨h1, a, c, rfl, h2⟩ := h
  refine ⟨h1.chg hc (fun a' l c' e hS => ?_), a, c, rfl, fun b hb => ⟨Nat.lt_of_lt_of_le (h2 b hb).1 hc.size, (h2 b hb).2⟩⟩
  injection e with e1 _ _
  obtain ⟨hb1, hb2⟩ := h2 a' e1
  exact hb2 (hs _ hS hb1)
theorem DataAt.mono {N M : Nat → Prop} {w : World} {v : Value} {bs : List UInt8} (h : DataAt w N v bs) (hM : ∀ b, M b → N b ∨ w.heap.size ≤ b) : DataAt w M v bs := by
  obtain ⟨h1, a, c, rfl, h2⟩ := h
  refine ⟨h1, a, c, rfl, fun b hb => ⟨(h2 b hb).1, fun hm => ?_⟩⟩
  rcases hM _ hm with h | h
  · exact (h2 b hb).2 h
  · have := (h2 b hb).1; omega
theorem OwnX.data {t8 : TypeId} {w : World} {base : Nat} {v : Value} {bs : List UInt8} {N : Nat → Prop} (h : OwnX t8 w base v bs) (hN : ∀ b, base ≤ b → b < w.heap.size → ¬ N b) : DataAt w N v bs := by
  refine ⟨h.bys, ?_⟩
  rcases h with ⟨rfl, rfl⟩ | ⟨g, cap, arr, fz, rfl, h2, h3, _⟩
  · exact ⟨none, 0, rfl, fun b h => by cases h⟩
  · exact ⟨_, cap, rfl, fun b hb => by cases hb; exact ⟨lt_of_block h3, hN _ h2 (lt_of_block h3)⟩⟩
def recsV : List Sto.Rec → List Value → List Value
  | r :: l, v :: vs => [.bool r.is, .string r.name, .int .i64 r.num, v] ++ recsV l vs
  | _, _ => []
theorem recsV_len : ∀ (l : List Sto.Rec) (vs : List Value), vs.length = l.length → (recsV l vs).length = l.length * 4
  | [], [], _ => rfl
  | r :: l, v :: vs, h => by
    simp only [recsV, List.length_append, List.length_cons, List.length_nil]
    have := recsV_len l vs (by simpa using h)
    omega
theorem recsV_snoc : ∀ (l : List Sto.Rec) (vs : List Value) (r : Sto.Rec) (v : Value), vs.length = l.length → recsV (l ++ [r]) (vs ++ [v]) = recsV l vs ++ [.bool r.is, .string r.name, .int .i64 r.num, v]
  | [], [], r, v, _ => rfl
  | r' :: l, v' :: vs, r, v, h => by
    simp only [List.cons_append, recsV, List.append_assoc]
    rw [recsV_snoc l vs r v (by simpa using h)]
theorem recsV_get : ∀ (l : List Sto.Rec) (vs : List Value) (i : Nat) (r : Sto.Rec) (v : Value), l[i]? = some r → vs[i]? = some v →
    (recsV l vs)[i * 4]? = some (.bool r.is) ∧ (recsV l vs)[i * 4 + 1]? = some (.string r.name) ∧ (recsV l vs)[i * 4 + 2]? = some (.int .i64 r.num) ∧ (recsV l vs)[i * 4 + 3]? = some v
  | r :: l, v :: vs, 0, r', v', h1, h2 => by
    simp at h1 h2
    subst h1 h2
    exact ⟨rfl, rfl, rfl, rfl⟩
  | r :: l, v :: vs, i + 1, r', v', h1, h2 => by
    have := recsV_get l vs i r' v' (by simpa using h1) (by simpa using h2)
    have e : ∀ j, (recsV (r :: l) (v :: vs))[(i + 1) * 4 + j]? = (recsV l vs)[i * 4 + j]? := fun j => by
      rw [recsV, List.getElem?_append_right (by simp; omega)]
      congr 1
      simp; omega
    exact ⟨by rw [show (i + 1) * 4 = (i + 1) * 4 + 0 from rfl, e]; exact this.1, by rw [e]; exact this.2.1, by rw [e]; exact this.2.2.1, by rw [e]; exact this.2.2.2⟩
  | [], _, i, r, v, h1, _ => by simp at h1
  | _ :: _, [], i, r, v, _, h2 => by simp at h2
def RecsAt (t : TypeId) (w : World) (N : Nat → Prop) (lb : Nat) (l : List Sto.Rec) : Prop :=
  ∃ (arr : Array Value) (vs : List Value), Blk w lb arr t ∧ l.length * 4 ≤ arr.size ∧ vs.length = l.length ∧ (∀ j, j < l.length * 4 → arr[j]? = (recsV l vs)[j]?) ∧ ∀ (i : Nat) (r : Sto.Rec) (v : Value), l[i]? = some r → vs[i]? = some v → DataAt w N v r.data
section
variable {t : TypeId} {w w' : World} {N S : Nat → Prop} {lb : Nat} {l : List Sto.Rec}
theorem RecsAt.lt (h : RecsAt t w N lb l) : lb < w.heap.size := by obtain ⟨_, _, h, _⟩ := h; exact h.lt
theorem RecsAt.chg (h : RecsAt t w N lb l) (hc : Chg S w w') (h1 : ¬ S lb) (hs : ∀ b, S b → b < w.heap.size → N b) : RecsAt t w' N lb l := by
  obtain ⟨arr, vs, hB, a, b, c, d⟩ := h
  exact ⟨arr, vs, hc.blk hB h1, a, b, c, fun i r v hr hv => (d i r v hr hv).chg hc hs⟩
theorem RecsAt.below (h : RecsAt t w N lb l) (hb : Below w.heap.size w w') : RecsAt t w' N lb l := h.chg (S := fun _ => False) (Chg.of_below hb) id (fun _ h => h.elim)
theorem RecsAt.mono {M : Nat → Prop} (h : RecsAt t w N lb l) (hM : ∀ b, M b → N b ∨ w.heap.size ≤ b) : RecsAt t w M lb l := by
  obtain ⟨arr, vs, hB, a, b, c, d⟩ := h
  exact ⟨arr, vs, hB, a, b, c, fun i r v hr hv => (d i r v hr hv).mono hM⟩
theorem RecsAt.at (h : RecsAt t w N lb l) {i : Nat} {r : Sto.Rec} (hr : l[i]? = some r) : ∃ a c, w.cell? ⟨lb, i * 4, none⟩ = some (.bool r.is) ∧ w.cell? ⟨lb, i * 4 + 1, none⟩ = some (.string r.name) ∧ w.cell? ⟨lb, i * 4 + 2, none⟩ = some (.int .i64 r.num) ∧ w.cell? ⟨lb, i * 4 + 3, none⟩ = some (.slice a r.data.length c) ∧
    DataAt w N (.slice a r.data.length c) r.data ∧ (∀ j, w.frozen? ⟨lb, j, none⟩ = false) := by
  obtain ⟨arr, vs, hB, h1, h2, h3, h4⟩ := h
  have hi : i < l.length := by
    rcases Nat.lt_or_ge i l.length with h | h
    · exact h
    · rw [List.getElem?_eq_none h] at hr; cases hr
  have hd := h4 i r vs[i] hr (by simp [h2, hi])
  obtain ⟨a, c, e, _⟩ := id hd.2
  obtain ⟨g0, g1, g2, g3⟩ := recsV_get l vs i r vs[i] hr (by simp [h2, hi])
  rw [e] at g3 hd
  exact ⟨a, c, by rw [hB.cell, h3 _ (by omega)]; exact g0, by rw [hB.cell, h3 _ (by omega)]; exact g1, by rw [hB.cell, h3 _ (by omega)]; exact g2, by rw [hB.cell, h3 _ (by omega)]; exact g3, hd, fun j => hB.free j⟩
theorem recsV_set : ∀ (l : List Sto.Rec) (vs : List Value) (i : Nat) (r : Sto.Rec) (v : Value), vs.length = l.length → i < l.length →
    recsV (l.set i r) (vs.set i v) = ((((recsV l vs).set (i * 4) (.bool r.is)).set (i * 4 + 1) (.string r.name)).set (i * 4 + 2) (.int .i64 r.num)).set (i * 4 + 3) v
  | r' :: l, v' :: vs, 0, r, v, h, _ => by simp [recsV]
  | r' :: l, v' :: vs, i + 1, r, v, h, hi => by
    simp only [List.set_cons_succ, recsV]
    rw [recsV_set l vs i r v (by simpa using h) (by simpa using hi)]
    have e : ∀ (j : Nat) (L : List Value) (x : Value), ([.bool r'.is, .string r'.name, .int .i64 r'.num, v'] ++ L).set ((i + 1) * 4 + j) x = [.bool r'.is, .string r'.name, .int .i64 r'.num, v'] ++ L.set (i * 4 + j) x := fun j L x => by
      rw [List.set_append_right _ _ (by simp; omega)]
      congr 2
      simp; omega
    rw [show (i + 1) * 4 = (i + 1) * 4 + 0 from rfl, e 0, e 1, e 2, e 3]
    rfl
theorem RecsAt.set (h : RecsAt t w N lb l) {i : Nat} (hi : i < l.length) (r : Sto.Rec) (v : Value) (hN : N lb) (hd : DataAt w N v r.data) :
    RecsAt t ((((w.setCell ⟨lb, i * 4, none⟩ (.bool r.is)).setCell ⟨lb, i * 4 + 1, none⟩ (.string r.name)).setCell ⟨lb, i * 4 + 2, none⟩ (.int .i64 r.num)).setCell ⟨lb, i * 4 + 3, none⟩ v) N lb (l.set i r) := by
  obtain ⟨arr, vs, hB, h1, h2, h3, h4⟩ := h
  have hc : Chg (fun b => b = lb) w ((((w.setCell ⟨lb, i * 4, none⟩ (.bool r.is)).setCell ⟨lb, i * 4 + 1, none⟩ (.string r.name)).setCell ⟨lb, i * 4 + 2, none⟩ (.int .i64 r.num)).setCell ⟨lb, i * 4 + 3, none⟩ v) := by
    refine Chg.set (S := fun b => b = lb) ?_ (a := ⟨lb, i * 4 + 3, none⟩) rfl _
    refine Chg.set (S := fun b => b = lb) ?_ (a := ⟨lb, i * 4 + 2, none⟩) rfl _
    refine Chg.set (S := fun b => b = lb) ?_ (a := ⟨lb, i * 4 + 1, none⟩) rfl _
    exact Chg.set (S := fun b => b = lb) (Chg.refl _ _) (a := ⟨lb, i * 4, none⟩) rfl _
  refine ⟨_, vs.set i v, (((hB.set (i * 4) (.bool r.is)).set (i * 4 + 1) (.string r.name)).set (i * 4 + 2) (.int .i64 r.num)).set (i * 4 + 3) v, by simpa using h1, by simp [h2], fun j hj => ?_, fun k r' v' hr' hv' => ?_⟩
  · rw [recsV_set l vs i r v h2 hi]
    have hl := recsV_len l vs h2
    simp only [List.length_set] at hj
    simp only [Array.getElem?_setIfInBounds, List.getElem?_set, Array.size_setIfInBounds, List.length_set, hl, h3 j hj]
    have e1 : (i * 4 < arr.size) = (i * 4 < l.length * 4) := by simp; omega
    have e2 : (i * 4 + 1 < arr.size) = (i * 4 + 1 < l.length * 4) := by simp; omega
    have e3 : (i * 4 + 2 < arr.size) = (i * 4 + 2 < l.length * 4) := by simp; omega
    have e4 : (i * 4 + 3 < arr.size) = (i * 4 + 3 < l.length * 4) := by simp; omega
    simp only [e1, e2, e3, e4]
  · rw [List.getElem?_set] at hr' hv'
    by_cases e : i = k
    · subst e
      simp [hi, h2] at hr' hv'
      subst hr' hv'
      exact hd.chg hc (fun b hb _ => by rw [hb]; exact hN)
    · rw [if_neg e] at hr' hv'
      exact (h4 k r' v' hr' hv').chg hc (fun b hb _ => by rw [hb]; exact hN)
end
structure St where
  room : Nat
  recs : List Sto.Rec
  dead : Bool
  disk : DiskS
structure St.Ok (s : St) : Prop where
  room1 : 1 ≤ s.room
  room2 : s.room ≤ 1024
  len1 : 1 ≤ s.recs.length
  len2 : s.recs.length ≤ 1024
  size : s.disk.n = s.recs.length * (s.room + 1)
  each : ∀ r ∈ s.recs, r.name.size ≤ 1000000 ∧ r.data.length ≤ 1000000 ∧ r.num ≤ 72057594037927936 + s.disk.writes
  few : s.disk.writes ≤ 72057594037927936
end Go.Mem
namespace Go.Proofs.YtdlkghdfkjdajaaDoor
open Go Go.RowKit Go.Mem Gf
def Foot (sb lb d L : Nat) (b : Nat) : Prop := b = sb ∨ b = lb ∨ b = d ∨ b = L
structure IsStore (w : World) (N : Nat → Prop) (sb lb d L : Nat) (s : St) : Prop where
  blk : ∃ cap, Blk w sb (stV d s.room (some ⟨lb, 0, none⟩) s.recs.length cap s.dead) 61 ∧ s.recs.length ≤ cap ∧ cap ≤ 9223372036854775807
  recs : RecsAt 63 w N lb s.recs
  disk : IsDisk w d L s.disk
  tab : Tab w
  ntab : ¬ N gT
  foot : ∀ b, Foot sb lb d L b → N b
  ne : sb ≠ lb ∧ sb ≠ d ∧ sb ≠ L ∧ lb ≠ d ∧ lb ≠ L
  ok : s.Ok
  old : ∀ b, N b → b < w.heap.size
theorem IsStore.chg {w w' : World} {N S : Nat → Prop} {sb lb d L : Nat} {s : St} (h : IsStore w N sb lb d L s) (hc : Chg S w w') (h1 : ∀ b, Foot sb lb d L b → ¬ S b) (hs : ∀ b, S b → b < w.heap.size → N b) : IsStore w' N sb lb d L s := by
  obtain ⟨cap, hB, a, b⟩ := h.blk
  exact ⟨⟨cap, hc.blk hB (h1 _ (.inl rfl)), a, b⟩, h.recs.chg hc (h1 _ (.inr (.inl rfl))) hs, h.disk.chg hc (h1 _ (.inr (.inr (.inl rfl)))) (h1 _ (.inr (.inr (.inr rfl)))), h.tab.chg hc (fun hS => h.ntab (hs _ hS h.tab.lt)), h.ntab, h.foot, h.ne, h.ok, fun b hb => Nat.lt_of_lt_of_le (h.old b hb) hc.size⟩
theorem IsStore.below {w w' : World} {N : Nat → Prop} {sb lb d L : Nat} {s : St} (h : IsStore w N sb lb d L s) (hb : Below w.heap.size w w') : IsStore w' N sb lb d L s := h.chg (S := fun _ => False) (Chg.of_below hb) (fun _ _ => id) (fun _ h => h.elim)
theorem IsStore.lt {w : World} {N : Nat → Prop} {sb lb d L : Nat} {s : St} (h : IsStore w N sb lb d L s) : ∀ b, Foot sb lb d L b → b < w.heap.size := by
  intro b hb
  obtain ⟨cap, hB, _⟩ := h.blk
  rcases hb with rfl | rfl | rfl | rfl
  · exact hB.lt
  · exact h.recs.lt
  · exact h.disk.lt.1
  · exact h.disk.lt.2
theorem IsStore.grow {w w' : World} {N M S : Nat → Prop} {sb lb d L : Nat} {s : St} (h : IsStore w N sb lb d L s) (hc : Chg S w w') (h1 : ∀ b, Foot sb lb d L b → ¬ S b) (hs : ∀ b, S b → b < w.heap.size → N b) (hM : ∀ b, M b → N b ∨ w.heap.size ≤ b) (hNM : ∀ b, N b → M b) (hold : ∀ b, M b → b < w'.heap.size) : IsStore w' M sb lb d L s := by
  obtain ⟨cap, hB, a, b⟩ := h.blk
  have hg : ¬ M gT := fun hg => by
    rcases hM _ hg with h' | h'
    · exact h.ntab h'
    · have := h.tab.lt; omega
  exact ⟨⟨cap, hc.blk hB (h1 _ (.inl rfl)), a, b⟩, (h.recs.mono hM).chg hc (h1 _ (.inr (.inl rfl))) (fun b hb hlt => hNM _ (hs b hb hlt)), h.disk.chg hc (h1 _ (.inr (.inr (.inl rfl)))) (h1 _ (.inr (.inr (.inr rfl)))), h.tab.chg hc (fun hS => h.ntab (hs _ hS h.tab.lt)), hg, fun b hb => hNM _ (h.foot b hb), h.ne, h.ok, hold⟩
def optI : Option Nat → Int
  | none => -1
  | some k => k
end Go.Proofs.YtdlkghdfkjdajaaDoor
end
section
namespace Go.Proofs.YtdlkghdfkjdajaaDoor
open Go Go.RowKit Go.Mem Gf Sha
set_option linter.unusedVariables false
def kL : List Value := kT.map wv
theorem kL_len : kL.length = 64 := rfl
theorem kL_all : AllK 64 kL := ⟨rfl, fun v hv => by
  unfold kL at hv
  obtain ⟨x, _, rfl⟩ := List.mem_map.1 hv
  rfl⟩
theorem kL_get {i : Nat} (h : i < 64) : kL[i]? = some (.int .u32 (wz (kT.getD i 0))) := by
  have hl : kT.length = 64 := rfl
  unfold kL
  rw [List.getElem?_map, List.getD_eq_getElem?_getD, List.getElem?_eq_getElem (by omega)]; rfl
theorem hV_all (v : H8) : AllK 8 (hV v) := ⟨rfl, fun x hx => by
  unfold hV at hx
  obtain ⟨y, _, rfl⟩ := List.mem_map.1 hx
  rfl⟩
theorem built_k : Tryd.prog.built 102 #[(0, Value.int IntKind.u32 1116352408), (1, Value.int IntKind.u32 1899447441), (2, Value.int IntKind.u32 3049323471), (3, Value.int IntKind.u32 3921009573), (4, Value.int IntKind.u32 961987163), (5, Value.int IntKind.u32 1508970993), (6, Value.int IntKind.u32 2453635748), (7, Value.int IntKind.u32 2870763221), (8, Value.int IntKind.u32 3624381080), (9, Value.int IntKind.u32 310598401), (10, Value.int IntKind.u32 607225278), (11, Value.int IntKind.u32 1426881987), (12, Value.int IntKind.u32 1925078388), (13, Value.int IntKind.u32 2162078206), (14, Value.int IntKind.u32 2614888103), (15, Value.int IntKind.u32 3248222580), (16, Value.int IntKind.u32 3835390401), (17, Value.int IntKind.u32 4022224774), (18, Value.int IntKind.u32 264347078), (19, Value.int IntKind.u32 604807628), (20, Value.int IntKind.u32 770255983), (21, Value.int IntKind.u32 1249150122), (22, Value.int IntKind.u32 1555081692), (23, Value.int IntKind.u32 1996064986), (24, Value.int IntKind.u32 2554220882), (25, Value.int IntKind.u32 2821834349), (26, Value.int IntKind.u32 2952996808), (27, Value.int IntKind.u32 3210313671), (28, Value.int IntKind.u32 3336571891), (29, Value.int IntKind.u32 3584528711), (30, Value.int IntKind.u32 113926993), (31, Value.int IntKind.u32 338241895), (32, Value.int IntKind.u32 666307205), (33, Value.int IntKind.u32 773529912), (34, Value.int IntKind.u32 1294757372), (35, Value.int IntKind.u32 1396182291), (36, Value.int IntKind.u32 1695183700), (37, Value.int IntKind.u32 1986661051), (38, Value.int IntKind.u32 2177026350), (39, Value.int IntKind.u32 2456956037), (40, Value.int IntKind.u32 2730485921), (41, Value.int IntKind.u32 2820302411), (42, Value.int IntKind.u32 3259730800), (43, Value.int IntKind.u32 3345764771), (44, Value.int IntKind.u32 3516065817), (45, Value.int IntKind.u32 3600352804), (46, Value.int IntKind.u32 4094571909), (47, Value.int IntKind.u32 275423344), (48, Value.int IntKind.u32 430227734), (49, Value.int IntKind.u32 506948616), (50, Value.int IntKind.u32 659060556), (51, Value.int IntKind.u32 883997877), (52, Value.int IntKind.u32 958139571), (53, Value.int IntKind.u32 1322822218), (54, Value.int IntKind.u32 1537002063), (55, Value.int IntKind.u32 1747873779), (56, Value.int IntKind.u32 1955562222), (57, Value.int IntKind.u32 2024104815), (58, Value.int IntKind.u32 2227730452), (59, Value.int IntKind.u32 2361852424), (60, Value.int IntKind.u32 2428436474), (61, Value.int IntKind.u32 2756734187), (62, Value.int IntKind.u32 3204031479), (63, Value.int IntKind.u32 3329325298)].toList = some kL.toArray := by kernel_rfl
set_option maxRecDepth 20000 in
theorem build_k (dst : Option Tmp) (ty : TypeId) (pos : String) (af : Array Edge) (gd : Option (Tmp × Bool)) (a : Act) (w : World) (K : Act → World → Prop) (Q : Exit → Act → World → Prop) :
    Oper.wp Tryd.prog ⟨dst, .build 102 #[(0, Operand.const (Value.int IntKind.u32 1116352408)), (1, Operand.const (Value.int IntKind.u32 1899447441)), (2, Operand.const (Value.int IntKind.u32 3049323471)), (3, Operand.const (Value.int IntKind.u32 3921009573)), (4, Operand.const (Value.int IntKind.u32 961987163)), (5, Operand.const (Value.int IntKind.u32 1508970993)), (6, Operand.const (Value.int IntKind.u32 2453635748)), (7, Operand.const (Value.int IntKind.u32 2870763221)), (8, Operand.const (Value.int IntKind.u32 3624381080)), (9, Operand.const (Value.int IntKind.u32 310598401)), (10, Operand.const (Value.int IntKind.u32 607225278)), (11, Operand.const (Value.int IntKind.u32 1426881987)), (12, Operand.const (Value.int IntKind.u32 1925078388)), (13, Operand.const (Value.int IntKind.u32 2162078206)), (14, Operand.const (Value.int IntKind.u32 2614888103)), (15, Operand.const (Value.int IntKind.u32 3248222580)), (16, Operand.const (Value.int IntKind.u32 3835390401)), (17, Operand.const (Value.int IntKind.u32 4022224774)), (18, Operand.const (Value.int IntKind.u32 264347078)), (19, Operand.const (Value.int IntKind.u32 604807628)), (20, Operand.const (Value.int IntKind.u32 770255983)), (21, Operand.const (Value.int IntKind.u32 1249150122)), (22, Operand.const (Value.int IntKind.u32 1555081692)), (23, Operand.const (Value.int IntKind.u32 1996064986)), (24, Operand.const (Value.int IntKind.u32 2554220882)), (25, Operand.const (Value.int IntKind.u32 2821834349)), (26, Operand.const (Value.int IntKind.u32 2952996808)), (27, Operand.const (Value.int IntKind.u32 3210313671)), (28, Operand.const (Value.int IntKind.u32 3336571891)), (29, Operand.const (Value.int IntKind.u32 3584528711)), (30, Operand.const (Value.int IntKind.u32 113926993)), (31, Operand.const (Value.int IntKind.u32 338241895)), (32, Operand.const (Value.int IntKind.u32 666307205)), (33, Operand.const (Value.int IntKind.u32 773529912)), (34, Operand.const (Value.int IntKind.u32 1294757372)), (35, Operand.const (Value.int IntKind.u32 1396182291)), (36, Operand.const (Value.int IntKind.u32 1695183700)), (37, Operand.const (Value.int IntKind.u32 1986661051)), (38, Operand.const (Value.int IntKind.u32 2177026350)), (39, Operand.const (Value.int IntKind.u32 2456956037)), (40, Operand.const (Value.int IntKind.u32 2730485921)), (41, Operand.const (Value.int IntKind.u32 2820302411)), (42, Operand.const (Value.int IntKind.u32 3259730800)), (43, Operand.const (Value.int IntKind.u32 3345764771)), (44, Operand.const (Value.int IntKind.u32 3516065817)), (45, Operand.const (Value.int IntKind.u32 3600352804)), (46, Operand.const (Value.int IntKind.u32 4094571909)), (47, Operand.const (Value.int IntKind.u32 275423344)), (48, Operand.const (Value.int IntKind.u32 430227734)), (49, Operand.const (Value.int IntKind.u32 506948616)), (50, Operand.const (Value.int IntKind.u32 659060556)), (51, Operand.const (Value.int IntKind.u32 883997877)), (52, Operand.const (Value.int IntKind.u32 958139571)), (53, Operand.const (Value.int IntKind.u32 1322822218)), (54, Operand.const (Value.int IntKind.u32 1537002063)), (55, Operand.const (Value.int IntKind.u32 1747873779)), (56, Operand.const (Value.int IntKind.u32 1955562222)), (57, Operand.const (Value.int IntKind.u32 2024104815)), (58, Operand.const (Value.int IntKind.u32 2227730452)), (59, Operand.const (Value.int IntKind.u32 2361852424)), (60, Operand.const (Value.int IntKind.u32 2428436474)), (61, Operand.const (Value.int IntKind.u32 2756734187)), (62, Operand.const (Value.int IntKind.u32 3204031479)), (63, Operand.const (Value.int IntKind.u32 3329325298))], ty, pos, af, gd⟩ a w K Q = K (a.put dst (.agg kL.toArray)) w := by
  unfold Oper.wp execOp
  have hr := run_build (P := Tryd.prog) w 102 #[(0, a.eval (Operand.const (Value.int IntKind.u32 1116352408))), (1, a.eval (Operand.const (Value.int IntKind.u32 1899447441))), (2, a.eval (Operand.const (Value.int IntKind.u32 3049323471))), (3, a.eval (Operand.const (Value.int IntKind.u32 3921009573))), (4, a.eval (Operand.const (Value.int IntKind.u32 961987163))), (5, a.eval (Operand.const (Value.int IntKind.u32 1508970993))), (6, a.eval (Operand.const (Value.int IntKind.u32 2453635748))), (7, a.eval (Operand.const (Value.int IntKind.u32 2870763221))), (8, a.eval (Operand.const (Value.int IntKind.u32 3624381080))), (9, a.eval (Operand.const (Value.int IntKind.u32 310598401))), (10, a.eval (Operand.const (Value.int IntKind.u32 607225278))), (11, a.eval (Operand.const (Value.int IntKind.u32 1426881987))), (12, a.eval (Operand.const (Value.int IntKind.u32 1925078388))), (13, a.eval (Operand.const (Value.int IntKind.u32 2162078206))), (14, a.eval (Operand.const (Value.int IntKind.u32 2614888103))), (15, a.eval (Operand.const (Value.int IntKind.u32 3248222580))), (16, a.eval (Operand.const (Value.int IntKind.u32 3835390401))), (17, a.eval (Operand.const (Value.int IntKind.u32 4022224774))), (18, a.eval (Operand.const (Value.int IntKind.u32 264347078))), (19, a.eval (Operand.const (Value.int IntKind.u32 604807628))), (20, a.eval (Operand.const (Value.int IntKind.u32 770255983))), (21, a.eval (Operand.const (Value.int IntKind.u32 1249150122))), (22, a.eval (Operand.const (Value.int IntKind.u32 1555081692))), (23, a.eval (Operand.const (Value.int IntKind.u32 1996064986))), (24, a.eval (Operand.const (Value.int IntKind.u32 2554220882))), (25, a.eval (Operand.const (Value.int IntKind.u32 2821834349))), (26, a.eval (Operand.const (Value.int IntKind.u32 2952996808))), (27, a.eval (Operand.const (Value.int IntKind.u32 3210313671))), (28, a.eval (Operand.const (Value.int IntKind.u32 3336571891))), (29, a.eval (Operand.const (Value.int IntKind.u32 3584528711))), (30, a.eval (Operand.const (Value.int IntKind.u32 113926993))), (31, a.eval (Operand.const (Value.int IntKind.u32 338241895))), (32, a.eval (Operand.const (Value.int IntKind.u32 666307205))), (33, a.eval (Operand.const (Value.int IntKind.u32 773529912))), (34, a.eval (Operand.const (Value.int IntKind.u32 1294757372))), (35, a.eval (Operand.const (Value.int IntKind.u32 1396182291))), (36, a.eval (Operand.const (Value.int IntKind.u32 1695183700))), (37, a.eval (Operand.const (Value.int IntKind.u32 1986661051))), (38, a.eval (Operand.const (Value.int IntKind.u32 2177026350))), (39, a.eval (Operand.const (Value.int IntKind.u32 2456956037))), (40, a.eval (Operand.const (Value.int IntKind.u32 2730485921))), (41, a.eval (Operand.const (Value.int IntKind.u32 2820302411))), (42, a.eval (Operand.const (Value.int IntKind.u32 3259730800))), (43, a.eval (Operand.const (Value.int IntKind.u32 3345764771))), (44, a.eval (Operand.const (Value.int IntKind.u32 3516065817))), (45, a.eval (Operand.const (Value.int IntKind.u32 3600352804))), (46, a.eval (Operand.const (Value.int IntKind.u32 4094571909))), (47, a.eval (Operand.const (Value.int IntKind.u32 275423344))), (48, a.eval (Operand.const (Value.int IntKind.u32 430227734))), (49, a.eval (Operand.const (Value.int IntKind.u32 506948616))), (50, a.eval (Operand.const (Value.int IntKind.u32 659060556))), (51, a.eval (Operand.const (Value.int IntKind.u32 883997877))), (52, a.eval (Operand.const (Value.int IntKind.u32 958139571))), (53, a.eval (Operand.const (Value.int IntKind.u32 1322822218))), (54, a.eval (Operand.const (Value.int IntKind.u32 1537002063))), (55, a.eval (Operand.const (Value.int IntKind.u32 1747873779))), (56, a.eval (Operand.const (Value.int IntKind.u32 1955562222))), (57, a.eval (Operand.const (Value.int IntKind.u32 2024104815))), (58, a.eval (Operand.const (Value.int IntKind.u32 2227730452))), (59, a.eval (Operand.const (Value.int IntKind.u32 2361852424))), (60, a.eval (Operand.const (Value.int IntKind.u32 2428436474))), (61, a.eval (Operand.const (Value.int IntKind.u32 2756734187))), (62, a.eval (Operand.const (Value.int IntKind.u32 3204031479))), (63, a.eval (Operand.const (Value.int IntKind.u32 3329325298)))] _ built_k
  simp only [List.map_toArray, List.map_cons, List.map_nil, Sem.run_bind, hr, Result.andThen_ok]
  rfl
theorem i64k : (Tryd.prog.info? 102).map (·.size) = some 64 := by kernel_rfl
theorem store_k (dst : Option Tmp) (x y : Operand) (ty : TypeId) (pos : String) (af : Array Edge) (a : Act) (w : World) (K : Act → World → Prop) (Q : Exit → Act → World → Prop)
    (hp : ptrIs (a.eval x) = true) (hy : aggIs (a.eval y) = true) (ht : HasK 64 w (ptrB (a.eval x)) (ptrO (a.eval x))) (hc : AllK 64 (aggL (a.eval y))) :
    Oper.wp Tryd.prog ⟨dst, .store 102 x y, ty, pos, af, none⟩ a w K Q = K (a.put dst undef) (w.setCells (ptrB (a.eval x)) (ptrO (a.eval x)) (aggL (a.eval y))) :=
  wp_storeK i64k dst x y ty pos af a w K Q hp hy ht hc
theorem k_stored {w : World} {b : Nat} {cs : List Value} (h : HasK 64 w b 0) (hc : AllK 64 cs) : (loadVar 102 ⟨b, 0, none⟩).run Tryd.prog (w.setCells b 0 cs) = .ok (.agg cs.toArray) (w.setCells b 0 cs) := by
  have h2 := hasK_set h b 0 cs
  refine run_loadVar_mid _ b 0 _ cs _ ?_ Tryd.underlying102 rfl (by rw [hc.1]; exact i64k)
  have := readK_range h2
  rwa [readK_set h hc] at this
attribute [local go_sem ↓] Go.wp_at_zero Go.wp_at_succ
attribute [local go_sem ↓] load_h8 store_h8 build_k store_k
attribute [local go_sem] ptrB_eq ptrO_eq ptrIs_eq aggL_eq aggIs_eq
attribute [local irreducible] kL
set_option maxRecDepth 100000 in
theorem begin_calls (w : World) : Calls Tryd.prog 73 #[] w fun e w' => e = .returned (.agg (hV h0).toArray) ∧ Below w.heap.size w w' := by
  go_enter Tryd.func73, Tryd.ntmps73
  go_wp2_with fail
  rw [show #[Value.int IntKind.u32 1779033703, Value.int IntKind.u32 3144134277, Value.int IntKind.u32 1013904242, Value.int IntKind.u32 2773480762, Value.int IntKind.u32 1359893119, Value.int IntKind.u32 2600822924, Value.int IntKind.u32 528734635, Value.int IntKind.u32 1541459225] = (hV h0).toArray from rfl]
  have hr : (w.alloc (.cells (hV h0).toArray 104)).rangeAt w.heap.size 0 (hV h0) := fun j v hj => by
    rw [(Blk.new w (hV h0).toArray 104).cell, Nat.zero_add, List.getElem?_toArray]; exact hj
  have hl := run_loadVar_mid (P := Tryd.prog) (w.alloc (.cells (hV h0).toArray 104)) w.heap.size 0 104 (hV h0) _ hr Tryd.underlying104 rfl (by rw [i8h]; rfl)
  exact bodyPost_ret (v := .agg (hV h0).toArray) (by simp [results, Tryd.results73, asAddr, hl]) rfl ⟨rfl, (Below.refl _ _).alloc (Nat.le_refl _) _⟩
set_option maxRecDepth 100000 in
theorem table_calls (w : World) : Calls Tryd.prog 74 #[] w fun e w' => e = .returned (.agg kL.toArray) ∧ Below w.heap.size w w' := by
  have hka := kL_all
  have hkl := kL_len
  go_enter Tryd.func74, Tryd.ntmps74
  go_upto_region 1 with fail
  obtain ⟨w0, hw0⟩ : ∃ q, q = w.alloc (.cells #[Value.int IntKind.u32 0, Value.int IntKind.u32 0, Value.int IntKind.u32 0, Value.int IntKind.u32 0, Value.int IntKind.u32 0, Value.int IntKind.u32 0, Value.int IntKind.u32 0, Value.int IntKind.u32 0, Value.int IntKind.u32 0, Value.int IntKind.u32 0, Value.int IntKind.u32 0, Value.int IntKind.u32 0, Value.int IntKind.u32 0, Value.int IntKind.u32 0, Value.int IntKind.u32 0, Value.int IntKind.u32 0, Value.int IntKind.u32 0, Value.int IntKind.u32 0, Value.int IntKind.u32 0, Value.int IntKind.u32 0, Value.int IntKind.u32 0, Value.int IntKind.u32 0, Value.int IntKind.u32 0, Value.int IntKind.u32 0, Value.int IntKind.u32 0, Value.int IntKind.u32 0, Value.int IntKind.u32 0, Value.int IntKind.u32 0, Value.int IntKind.u32 0, Value.int IntKind.u32 0, Value.int IntKind.u32 0, Value.int IntKind.u32 0, Value.int IntKind.u32 0, Value.int IntKind.u32 0, Value.int IntKind.u32 0, Value.int IntKind.u32 0, Value.int IntKind.u32 0, Value.int IntKind.u32 0, Value.int IntKind.u32 0, Value.int IntKind.u32 0, Value.int IntKind.u32 0, Value.int IntKind.u32 0, Value.int IntKind.u32 0, Value.int IntKind.u32 0, Value.int IntKind.u32 0, Value.int IntKind.u32 0, Value.int IntKind.u32 0, Value.int IntKind.u32 0, Value.int IntKind.u32 0, Value.int IntKind.u32 0, Value.int IntKind.u32 0, Value.int IntKind.u32 0, Value.int IntKind.u32 0, Value.int IntKind.u32 0, Value.int IntKind.u32 0, Value.int IntKind.u32 0, Value.int IntKind.u32 0, Value.int IntKind.u32 0, Value.int IntKind.u32 0, Value.int IntKind.u32 0, Value.int IntKind.u32 0, Value.int IntKind.u32 0, Value.int IntKind.u32 0, Value.int IntKind.u32 0] 102) := ⟨_, rfl⟩
  have h0 : HasK 64 w0 w.heap.size 0 := by
    rw [hw0]; exact hasK_new (by simp) _ _
  have hb : Below w.heap.size w w0 := by
    rw [hw0]; exact (Below.refl _ _).alloc (Nat.le_refl _) _
  rw [← hw0]
  clear hw0
  have HLD := Lib.hid (k_stored h0 hka)
  have HB := Lib.hid hb
  clear hb
  go_wp2_with fail
  refine bodyPost_ret (v := .agg kL.toArray) (by simp [results, Tryd.results74, asAddr, HLD.out]) rfl ⟨rfl, ?_⟩
  exact (Chg.setCells (S := fun b => b = w.heap.size) (L := w.heap.size) rfl _ _ _ (Chg.of_below HB.out)).below (Nat.le_refl _) (fun k hk => by rw [hk]; exact Nat.le_refl _)
def sLenS : Value → Nat
  | .slice _ n _ => n
  | _ => 0
def shaV (h : H8) (u : Value) (n : Int) : List Value := hV h ++ (kL ++ [u, .int .i64 n])
theorem shaV_len (h : H8) (u : Value) (n : Int) : (shaV h u n).length = 74 := by
  unfold shaV
  rw [List.length_append, List.length_append, kL_len]; rfl
theorem shaV_h (h : H8) (u : Value) (n : Int) {i : Nat} (hi : i < 8) : (shaV h u n)[i]? = (hV h)[i]? := by
  unfold shaV
  rw [List.getElem?_append_left hi]
theorem shaV_k (h : H8) (u : Value) (n : Int) {i : Nat} (hi : i < 64) : (shaV h u n)[8 + i]? = some (.int .u32 (wz (kT.getD i 0))) := by
  have hl : (hV h).length = 8 := rfl
  unfold shaV
  rw [List.getElem?_append_right (by omega), hl, show 8 + i - 8 = i from by omega, List.getElem?_append_left (by rw [kL_len]; exact hi), kL_get hi]
theorem shaV_u (h : H8) (u : Value) (n : Int) : (shaV h u n)[72]? = some u := by
  have hl : (hV h).length = 8 := rfl
  unfold shaV
  rw [List.getElem?_append_right (by omega), hl, List.getElem?_append_right (by rw [kL_len]; omega), kL_len]; rfl
theorem shaV_n (h : H8) (u : Value) (n : Int) : (shaV h u n)[73]? = some (.int .i64 n) := by
  have hl : (hV h).length = 8 := rfl
  unfold shaV
  rw [List.getElem?_append_right (by omega), hl, List.getElem?_append_right (by rw [kL_len]; omega), kL_len]; rfl
theorem shaV_setu (h : H8) (u v : Value) (n : Int) : (shaV h u n).toArray.setIfInBounds 72 v = (shaV h v n).toArray := by
  have hl : (hV h).length = 8 := rfl
  unfold shaV
  rw [List.setIfInBounds_toArray, List.set_append_right _ _ (by omega), hl, List.set_append_right _ _ (by rw [kL_len]; omega), kL_len]; rfl
theorem shaV_setn (h : H8) (u : Value) (n m : Int) : (shaV h u n).toArray.setIfInBounds 73 (.int .i64 m) = (shaV h u m).toArray := by
  have hl : (hV h).length = 8 := rfl
  unfold shaV
  rw [List.setIfInBounds_toArray, List.set_append_right _ _ (by omega), hl, List.set_append_right _ _ (by rw [kL_len]; omega), kL_len]; rfl
def ShaAt (w : World) (b : Nat) (h : H8) (u : Value) (n : Int) : Prop := Blk w b (shaV h u n).toArray 127
section
variable {w w' : World} {b : Nat} {h : H8} {u : Value} {n : Int}
theorem ShaAt.read (s : ShaAt w b h u n) : readK 8 w b 0 = hV h := blk_read s rfl fun k hk => by
  rw [Nat.zero_add, List.getElem?_toArray, shaV_h h u n hk]
theorem ShaAt.has (s : ShaAt w b h u n) : HasK 8 w b 0 := blk_has s (by simp [shaV_len])
theorem ShaAt.range (s : ShaAt w b h u n) : w.rangeAt b 0 (hV h) := by
  have := readK_range s.has
  rwa [s.read] at this
theorem ShaAt.ck (s : ShaAt w b h u n) : KAt w b 8 := ⟨Blk.lt s, fun i hi => by rw [Blk.cell s, List.getElem?_toArray, shaV_k h u n hi]⟩
theorem ShaAt.cu (s : ShaAt w b h u n) : w.cell? ⟨b, 72, none⟩ = some u := by rw [Blk.cell s, List.getElem?_toArray, shaV_u]
theorem ShaAt.cn (s : ShaAt w b h u n) : w.cell? ⟨b, 73, none⟩ = some (.int .i64 n) := by rw [Blk.cell s, List.getElem?_toArray, shaV_n]
theorem ShaAt.setu (s : ShaAt w b h u n) (v : Value) : ShaAt (w.setCell ⟨b, 72, none⟩ v) b h v n := by
  have := Blk.set s 72 v
  rwa [shaV_setu] at this
theorem ShaAt.setn (s : ShaAt w b h u n) (m : Int) : ShaAt (w.setCell ⟨b, 73, none⟩ (.int .i64 m)) b h u m := by
  have := Blk.set s 73 (.int .i64 m)
  rwa [shaV_setn] at this
theorem ShaAt.seth (s : ShaAt w b h u n) (h' : H8) : ShaAt (w.setCells b 0 (hV h')) b h' u n := by
  obtain ⟨arr, h1, h2, h3⟩ := Blk.setCells (hV h') 0 _ _ s
  have e : arr = (shaV h' u n).toArray := by
    apply Array.ext_getElem?
    intro k
    have hl : (hV h').length = 8 := rfl
    have hl2 : (shaV h u n).toArray.size = 74 := by simp [shaV_len]
    rcases Nat.lt_or_ge k 74 with hk | hk
    · rw [h3 k (by omega)]
      rcases Nat.lt_or_ge k 8 with h8 | h8
      · rw [if_pos ⟨Nat.zero_le _, by omega⟩, Nat.sub_zero, List.getElem?_toArray, shaV_h h' u n h8]
      · rw [if_neg (by omega), List.getElem?_toArray, List.getElem?_toArray]
        unfold shaV
        have a1 : (hV h').length ≤ k := h8
        have a2 : (hV h).length ≤ k := h8
        rw [List.getElem?_append_right a1, List.getElem?_append_right a2]; rfl
    · rw [Array.getElem?_eq_none (by omega), Array.getElem?_eq_none (by simp [shaV_len]; omega)]
  rw [e] at h1
  exact h1
theorem ShaAt.below (s : ShaAt w b h u n) (hb : Below w.heap.size w w') : ShaAt w' b h u n := Blk.kept s hb
end
attribute [local irreducible] shaV
theorem built_sha : Tryd.prog.built 127 [(0, .agg (hV h0).toArray), (1, .agg kL.toArray)] = some (shaV h0 (.slice none 0 0) 0).toArray := by kernel_rfl
theorem build_sha (dst : Option Tmp) (x y : Operand) (ty : TypeId) (pos : String) (af : Array Edge) (gd : Option (Tmp × Bool)) (a : Act) (w : World) (K : Act → World → Prop) (Q : Exit → Act → World → Prop)
    (h1 : a.eval x = .agg (hV h0).toArray) (h2 : a.eval y = .agg kL.toArray) :
    Oper.wp Tryd.prog ⟨dst, .build 127 #[(0, x), (1, y)], ty, pos, af, gd⟩ a w K Q = K (a.put dst (.agg (shaV h0 (.slice none 0 0) 0).toArray)) w := by
  unfold Oper.wp execOp
  have hr := run_build (P := Tryd.prog) w 127 #[(0, a.eval x), (1, a.eval y)] _ (by rw [h1, h2]; exact built_sha)
  simp only [List.map_toArray, List.map_cons, List.map_nil, Sem.run_bind, hr, Result.andThen_ok]
  rfl
attribute [local go_sem ↓] build_sha
set_option maxRecDepth 100000 in
theorem shanew_calls (w : World) : Calls Tryd.prog 57 #[] w fun e w' => ∃ b, e = .returned (.pointer (some ⟨b, 0, none⟩)) ∧ ShaAt w' b h0 (.slice none 0 0) 0 ∧ w.heap.size ≤ b ∧ Below w.heap.size w w' := by
  go_enter Tryd.func57, Tryd.ntmps57
  go_wp2_with fail
  refine (begin_calls w).mono ?_
  rintro e w1 ⟨rfl, hb1⟩
  obtain ⟨c0, hc0⟩ : ∃ q, q = (hV h0).toArray := ⟨_, rfl⟩
  have HC := Lib.hid hc0
  rw [← hc0]
  clear hc0
  go_wp2_with fail
  refine (table_calls w1).mono ?_
  rintro e w2 ⟨rfl, hb2⟩
  have e0 : c0 = (hV h0).toArray := HC.out
  subst e0
  have HB := Lib.hid (hb1.trans (hb2.mono hb1.size))
  clear hb1 hb2
  go_wp2_with fail
  go_ret
  exact ⟨_, rfl, Blk.new _ _ _, HB.out.size, HB.out.alloc HB.out.size _⟩
theorem bys_skip {w : World} {ub uo m uc : Nat} {bs : List UInt8} (h : Bys w (.slice (some ⟨ub, uo, none⟩) m uc) bs) (k : Nat) (hk : 0 < k) (hkl : k ≤ bs.length) : Bys w (.slice (if uc = k then some ⟨ub, uo, none⟩ else some ⟨ub, uo + k, none⟩) (m - k) (uc - k)) (bs.drop k) := by
  obtain ⟨a', c', e, g1, g2, g3⟩ := h
  injection e with e1 e2 e3
  obtain ⟨b', o', e4, g4⟩ := g3 (by omega)
  rw [← e1] at e4
  injection e4 with e4
  injection e4 with e5 e6
  subst e2
  subst e3
  refine ⟨_, uc - k, by rw [List.length_drop], by rw [List.length_drop]; omega, by omega, fun hp => ?_⟩
  rw [List.length_drop] at hp
  rw [if_neg (by omega)]
  refine ⟨_, _, rfl, fun i u hi => ?_⟩
  rw [List.getElem?_drop] at hi
  rw [Nat.add_assoc, e5, e6]
  exact g4 _ _ hi
def Past (b : Nat) (v : Value) : Prop := ∀ a n c, v = .slice (some a) n c → b < a.block
set_option maxRecDepth 100000 in
set_option maxHeartbeats 4000000 in
theorem shawrite_calls (w0 w : World) (b : Nat) (v : Value) (bs : List UInt8) (hs : ShaAt w b h0 (.slice none 0 0) 0) (hb0 : Below w0.heap.size w0 w) (hge : w0.heap.size ≤ b) (hv : Bys w0 v bs) (hl : bs.length ≤ 100000000) :
    Calls Tryd.prog 58 #[.pointer (some ⟨b, 0, none⟩), v] w fun e w' => e = .returned (.int .i64 (bs.length : Nat)) ∧ ∃ u, ShaAt w' b (mixN (bs.length / 64) h0 bs) u (bs.length : Nat) ∧ Bys w' u (bs.drop (64 * (bs.length / 64))) ∧ Past b u ∧ Below w0.heap.size w0 w' := by
  obtain ⟨va, vc, rfl⟩ := hv.eq_slice
  obtain ⟨l, hll⟩ : ∃ l, l = bs.length := ⟨_, rfl⟩
  rw [← hll] at hv hl ⊢
  obtain ⟨q, hq⟩ : ∃ q, q = l / 64 := ⟨_, rfl⟩
  rw [← hq]
  have c73 := hs.cn
  have f73 := Blk.free hs 73
  have f72 := Blk.free hs 72
  have hlt := Blk.lt hs
  have H := Lib.hid (And.intro hv (And.intro hb0 (And.intro hs hll)))
  clear hv hb0 hs hll
  go_enter Tryd.func58, Tryd.ntmps58
  go_upto_region 2 with fail
  have hs1 := H.out.2.2.1.setn (l : Int)
  have hb1 : Below w0.heap.size w0 (w.setCell ⟨b, 73, none⟩ (.int .i64 (l : Int))) := H.out.2.1.setCell hge _
  have hz1 : (w.setCell ⟨b, 73, none⟩ (.int .i64 (l : Int))).heap.size = w.heap.size := by simp
  obtain ⟨w1, hw1⟩ : ∃ q, q = w.setCell ⟨b, 73, none⟩ (.int .i64 (l : Int)) := ⟨_, rfl⟩
  rw [← hw1] at hs1 hb1 hz1 ⊢
  have c72 := hs1.cu
  have H1 := Lib.hid (And.intro hs1 hb1)
  clear hs1 hb1 hw1 c73 f73
  go_wp2_with (at_builtin; refine appX E8c rfl _ _ rfl (base := b + 1) (bs := []) (news := []) rfl rfl (OwnX.nil _ _ _) (Bys.nil _) ?q1 ?q2 ?_)
  case q1 => simp
  case q2 => omega
  intro v2 w2 ho2 hg2
  have hb2 : Below w1.heap.size w1 w2 := grown_none hg2 rfl
  have H2 := Lib.hid (And.intro (H1.out.1.below hb2) (And.intro (H1.out.2.trans (hb2.mono H1.out.2.size)) hb2.size))
  have hl2 := ho2.lt
  clear hg2 hb2
  go_wp2_with (at_builtin; refine appX E8c rfl _ _ rfl (base := b + 1) (bs := []) (news := bs) rfl rfl ho2 (H.out.1.below H2.out.2.1) ?q3 ?q4 ?_)
  case q3 => have := H.out.2.2.2; simp; omega
  case q4 => have := H2.out.2.2; omega
  intro v3 w3 ho3 hg3
  have hb3 := grown_below H2.out.2.1 hg3 (fun k hk => by have := (hl2 k hk).1; omega)
  have hs3 : ShaAt w3 b h0 (.slice none 0 0) (l : Int) := (Chg.grown (S := fun k => v2.ownBlock = some k) (Chg.refl _ _) hg3 (fun _ hq => .inl hq)).blk H2.out.1 (fun e => by have := (hl2 b e).1; omega)
  have hp3 : Past b v3 := fun a n c e => (ho3.lt a.block (by rw [e]; rfl)).1
  have H3 := Lib.hid (And.intro ho3.bys (And.intro hp3 (And.intro hs3 hb3)))
  clear ho2 hl2 hg3 ho3 hp3 hs3 hb3
  go_upto_region 3 with fail
  go_loopw [5] (fun v5 wr => ∃ i : Nat, i ≤ q ∧ Hid (Bys wr v5 (bs.drop (64 * i)) ∧ Past b v5 ∧ ShaAt wr b (mixN i h0 bs) (.slice none 0 0) (l : Int) ∧ Below w0.heap.size w0 wr)) (fun v5 _ => sLenS v5)
  case atStart => exact ⟨0, Nat.zero_le _, H3.out⟩
  case round =>
    obtain ⟨i, hi0, G⟩ := hrel
    obtain ⟨ua, uc, eu⟩ := G.out.1.eq_slice
    obtain ⟨m, hm⟩ : ∃ m, m = (bs.drop (64 * i)).length := ⟨_, rfl⟩
    have hm2 : m = l - 64 * i := by rw [hm, List.length_drop, ← H.out.2.2.2]
    rw [← hm] at eu
    subst eu
    by_cases hin : i < q
    · have m1 : (64 : Int) ≤ (m : Int) := by omega
      have m2 : decide ((64 : Int) ≤ (m : Int)) = true := by simpa using m1
      have m3 : 64 ≤ m := by omega
      obtain ⟨ub, uo, rfl, hmc, hcm⟩ : ∃ ub uo, ua = some ⟨ub, uo, none⟩ ∧ m ≤ uc ∧ uc ≤ maxLen := by
        obtain ⟨a', c', e, g1, g2, g3⟩ := G.out.1
        obtain ⟨b', o', e', _⟩ := g3 (by omega)
        injection e with e1 e2 e3
        exact ⟨b', o', by rw [e1, e'], by omega, by omega⟩
      unfold maxLen at hcm
      have hby := (G.out.1.take 64 (by omega))
      have hbd : (bs.drop (64 * i)).take 64 = (bs.drop (64 * i)).take 64 := rfl
      have m4 : (64 : Int) ≤ (uc : Int) := by omega
      have m5 : 64 ≤ uc := by omega
      have m6 : (m : Int) ≤ (uc : Int) := by omega
      have HM := Lib.hid (And.intro hm (And.intro hm2 hby))
      clear hm hm2 hby hbd
      obtain ⟨hc, hhc⟩ : ∃ x, x = mixN i h0 bs := ⟨_, rfl⟩
      have hmx := G.out.2.2.1
      rw [← hhc] at hmx
      have hnx : Hid (mixN (i + 1) h0 bs = mix hc ((bs.drop (64 * i)).take 64)) := by
        show _ = _
        rw [mixN_succ, hhc]
      have hcall : ∀ w', w' = wr.drew → Calls Tryd.prog 75 #[.agg (hV hc).toArray, .pointer (some ⟨b, 8, none⟩), .slice (some ⟨ub, uo, none⟩) 64 uc] w' fun e w'' => ∃ v', e = .returned v' ∧ (v' = .agg (hV (mix hc ((bs.drop (64 * i)).take 64))).toArray ∧ Below wr.heap.size wr w'') := fun w' e => by
        subst e
        refine (mix_calls hc b 8 _ ((bs.drop (64 * i)).take 64) wr.drew (by exact hmx.ck) HM.out.2.2 (by rw [List.length_take]; have := HM.out.1; omega)).mono ?_
        rintro e w'' ⟨rfl, hb⟩
        exact ⟨_, rfl, rfl, of_drew_base hb rfl⟩
      obtain ⟨ch, hch⟩ : ∃ q, q = hV hc := ⟨_, rfl⟩
      have hchl : ch.length = 8 := by rw [hch]; rfl
      have hr0 : wr.rangeAt b 0 ch := by rw [hch]; exact hmx.range
      obtain ⟨cm, hcm2⟩ : ∃ q, q = hV (mix hc ((bs.drop (64 * i)).take 64)) := ⟨_, rfl⟩
      rw [← hch, ← hcm2] at hcall
      have hca := hV_all (mix hc ((bs.drop (64 * i)).take 64))
      rw [← hcm2] at hca
      have hRr : ∀ w', Below wr.heap.size wr w' → w'.rangeAt b 0 ch := fun w' hb => by rw [hch]; exact (hmx.below hb).range
      have HMX := Lib.hid (And.intro hmx (And.intro hhc hcm2))
      clear hmx hhc hch hcm2
      go_upto_region 4 with fail
      refine Tail.wp_region_any_tail 13 10 (fun w' => w' = wr.drew) (fun vo w' => vo = .agg cm.toArray ∧ Below wr.heap.size wr w') (by kernel_rfl) (by kernel_rfl) (by decide) rfl ?_ (fun z hz => ?_)
      · obtain ⟨e, w', fr, ⟨vo, rfl, h⟩, _⟩ := hcall wr.drew rfl []
        exact ⟨vo, w', h⟩
      simp only [List.take_succ_cons, List.take_zero, List.drop_succ_cons, List.drop_zero]
      clear hz
      iterate 4
        refine Tail.any_ex (by decide) (by rfl) ?_
        apply Exists.intro
        refine ⟨fun w => ?_, ?_⟩
        · go_simp <;> with_reducible rfl
        simp only [Act.put, List.setIfInBounds_toArray, List.set_cons_zero, List.set_cons_succ]
      refine Tail.any_load (by decide) (by rfl) _ _ rfl b 0 rfl ch (fun w h => by rw [h]; exact hr0) (fun w h => hRr w h.2) Tryd.underlying104 rfl (by rw [i8h, hchl]) ?_
      simp only [Act.put, List.setIfInBounds_toArray, List.set_cons_zero, List.set_cons_succ]
      iterate 5
        refine Tail.any_ex (by decide) (by rfl) ?_
        apply Exists.intro
        refine ⟨fun w => ?_, ?_⟩
        · go_simp <;> with_reducible rfl
        simp only [Act.put, List.setIfInBounds_toArray, List.set_cons_zero, List.set_cons_succ]
      refine Tail.any_call (by rfl) (fun w hw => ?_) ?_
      · apply Exists.intro
        apply Exists.intro
        refine ⟨?_, hcall w hw⟩
        go_simp <;> with_reducible rfl
      simp only [Act.put, List.setIfInBounds_toArray, List.set_cons_zero, List.set_cons_succ]
      iterate 2
        refine Tail.any_ex (by decide) (by rfl) ?_
        apply Exists.intro
        refine ⟨fun w => ?_, ?_⟩
        · go_simp <;> with_reducible rfl
        simp only [Act.put, List.setIfInBounds_toArray, List.set_cons_zero, List.set_cons_succ]
      intro w' hw'
      obtain ⟨rfl, hbw⟩ := hw'
      have hs' : ShaAt w' b hc (.slice none 0 0) (l : Int) := HMX.out.1.below hbw
      have h8 : HasK 8 w' b 0 := hs'.has
      have HS := Lib.hid (And.intro hs' (And.intro (G.out.2.2.2.trans (hbw.mono G.out.2.2.2.size)) (G.out.1.below hbw)))
      clear hs' hbw hcall hr0 hRr
      go_wp2_with fail
      refine ⟨⟨i + 1, by omega, ?_, ?_, ?_, ?_⟩, ?_⟩
      · have h1 := bys_skip HS.out.2.2 64 (by omega) (by rw [← HM.out.1]; exact m3)
        rw [List.drop_drop, show 64 * i + 64 = 64 * (i + 1) from by omega] at h1
        exact h1.chg (Chg.setCells (S := fun k => k = b) (L := b) rfl _ _ _ (Chg.refl _ _)) (fun a n c e hS => by
          have hS' : a.block = b := hS
          have hp : b < ub := G.out.2.1 _ _ _ rfl
          injection e with e1 _ _
          split at e1 <;> (injection e1 with e1; rw [← e1] at hS'; have e2 : ub = b := hS'; omega))
      · intro a n c e
        have hp : b < ub := G.out.2.1 _ _ _ rfl
        injection e with e1 _ _
        split at e1 <;> (injection e1 with e1; rw [← e1]; exact hp)
      · rw [hnx.out, HMX.out.2.2]
        exact HS.out.1.seth _
      · exact (Chg.setCells (S := fun k => k = b) (L := b) rfl _ _ _ (Chg.of_below HS.out.2.1)).below (Nat.le_refl _) (fun k hk => by rw [hk]; exact hge)
      · show m - 64 < m
        omega
    · obtain rfl : i = q := by omega
      have m1 : ¬ (64 : Int) ≤ (m : Int) := by omega
      have m2 : decide ((64 : Int) ≤ (m : Int)) = false := by simpa using m1
      have c73 := G.out.2.2.1.cn
      have c72 := G.out.2.2.1.cu
      have f72 := Blk.free G.out.2.2.1 72
      clear hm hm2
      go_wp2_with fail
      go_ret
      rw [← hq]
      refine ⟨rfl, .slice ua m uc, G.out.2.2.1.setu _, ?_, G.out.2.1, G.out.2.2.2.setCell hge _⟩
      exact G.out.1.chg (S := fun k => k = b) (Chg.set (S := fun k => k = b) (a := ⟨b, 72, none⟩) (Chg.refl _ _) rfl _) (fun a n c e hS => by
        have hS' : a.block = b := hS
        have := G.out.2.1 a n c e
        omega)
end Go.Proofs.YtdlkghdfkjdajaaDoor
end
