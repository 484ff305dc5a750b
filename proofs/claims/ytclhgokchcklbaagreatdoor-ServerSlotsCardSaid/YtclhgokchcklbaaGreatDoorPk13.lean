/- Texts of this proof, packed: SortG, LeaKeys, LeaBare, SrvIdx, SrvRest, SrvReqB, SrvLab, SrvTell. -/
import Derived.Test.YtclhgokchcklbaaGreatDoorPk07
import Derived.Shelf.GgSortFunc.InsertionK
import Derived.Test.YtclhgokchcklbaaGreatDoorPk08
import Derived.Test.YtclhgokchcklbaaGreatDoorPk02
import Derived.Test.YtclhgokchcklbaaGreatDoorPk12
import Derived.Great.FillDense
section
namespace Go.Mem
open Go Go.RowKit Gf Go.Sort
section
variable {α : Type} {enc : α → List Value} {Wf : α → Prop} {k : Nat} {ti : TypeId} {w : World} {base g n cap : Nat} {l : List α} [Inhabited {x : α // Wf x}]
omit [Inhabited {x : α // Wf x}] in
theorem toS (hwf : ∀ x ∈ l, Wf x) : ∃ d : Array {x : α // Wf x}, d.toList.map (·.1) = l := by
  refine ⟨(l.pmap Subtype.mk hwf).toArray, ?_⟩
  rw [List.toList_toArray, List.map_pmap]
  simp
def encSub (enc : α → List Value) (Wf : α → Prop) (x : {x : α // Wf x}) : List Value := enc x.1
theorem flat_all (E : EncK enc Wf k) (d : Array {x : α // Wf x}) {j : Nat} (hj : j < d.size * k) : (allV enc (d.toList.map (·.1)))[j]? = some (flatK (encSub enc Wf) k d)[j]! := by
  have e := Nat.div_add_mod' j k
  have hr := Nat.mod_lt j E.pos
  have hq : j / k < d.size := Nat.div_lt_of_lt_mul (by rw [Nat.mul_comm]; exact hj)
  have hx : (d.toList.map (·.1))[j / k]? = some (d[j / k]!).1 := by
    rw [List.getElem?_map, Array.getElem?_toList, getElem!_pos d _ hq, Array.getElem?_eq_getElem hq]; rfl
  have hwf : ∀ x ∈ d.toList.map (·.1), Wf x := fun x hx => by
    obtain ⟨y, _, rfl⟩ := List.mem_map.1 hx
    exact y.2
  have := allV_get E _ hwf (j / k) _ hx (j % k) hr
  rw [e] at this
  rw [this, get_flatK _ _ _ _ hj]
  have hl := E.len _ (d[j / k]!).2
  unfold encSub
  generalize d[j / k]! = y at *
  have hl' : j % k < (enc y.1).length := by omega
  rw [getElem!_pos (enc y.1) (j % k) hl', List.getElem?_eq_getElem hl']
theorem RowG.holds (E : EncK enc Wf k) (h : RowG enc Wf k ti w base g n cap l) (d : Array {x : α // Wf x}) (hd : d.toList.map (·.1) = l) : HoldsK (encSub enc Wf) k w g 0 d := by
  have hn : d.size = n := by rw [h.len, ← hd]; simp
  intro j hj
  rw [size_flatK] at hj
  rw [Nat.zero_add]
  refine ⟨?_, ?_⟩
  · rw [h.cell (by rw [← hn]; exact hj), ← hd, flat_all E d hj]; rfl
  · obtain ⟨cur, hh, _⟩ := h.block
    have hB : Blk w g cur ti := hh
    exact hB.free _
theorem RowG.put (E : EncK enc Wf k) (h : RowG enc Wf k ti w base g n cap l) (m : Nat) (os : Array Obj) (d : Array {x : α // Wf x}) (hd : d.size = n) :
    RowG enc Wf k ti (grow (putRowK (encSub enc Wf) k (Sort.ahead w m) g 0 d) os) base g n cap (d.toList.map (·.1)) ∧ Chg (fun b => b = g) w (grow (putRowK (encSub enc Wf) k (Sort.ahead w m) g 0 d) os) := by
  obtain ⟨cur, hh, hb, h1, h2, h3, h4⟩ := h.block
  have hg : g < w.heap.size := lt_of_block hh
  have hlen : (d.toList.map (·.1)).length = n := by simp [hd]
  have hwf : ∀ x ∈ d.toList.map (·.1), Wf x := fun x hx => by
    obtain ⟨y, _, rfl⟩ := List.mem_map.1 hx
    exact y.2
  have hal := allV_len E _ hwf
  rw [hlen] at hal
  have hm : n * k ≤ cap * k := Nat.mul_le_mul_right _ h1
  refine ⟨⟨⟨hal, .inr ⟨g, cap, putCells id 0 (flatK (encSub enc Wf) k d) cur, rfl, hb, ?_, h1, h2, by rw [← h3]; simp [putCells], ?_⟩⟩, hlen.symm, hwf⟩, ⟨rfl, rfl, rfl, ?_, fun b hbs hne => ?_⟩⟩
  · rw [heap_grow_old _ _ (by unfold putRowK; rw [size_putRow]; exact hg)]
    show ((w.heap).modify g (onCells _))[g]? = _
    rw [Array.getElem?_modify, if_pos rfl, hh]; rfl
  · apply List.ext_getElem?
    intro j
    rw [List.getElem?_take, Array.getElem?_toList]
    by_cases hj : j < n * k
    · rw [if_pos hj, flat_all E d (by rw [hd]; exact hj)]
      have hjc : j < cur.size := by omega
      unfold putCells
      rw [Array.getElem?_mapIdx, Array.getElem?_eq_getElem hjc, Option.map_some, if_pos ⟨Nat.zero_le _, by rw [size_flatK, hd]; omega⟩]
      rfl
    · rw [if_neg hj, List.getElem?_eq_none (by omega)]
  · rw [size_grow]
    unfold putRowK
    rw [size_putRow]
    exact Nat.le_add_right _ _
  · rw [heap_grow_old _ _ (by unfold putRowK; rw [size_putRow]; exact hbs)]
    show ((w.heap).modify g (onCells _))[b]? = _
    rw [Array.getElem?_modify, if_neg (fun e => hne e.symm)]
theorem permIn_perm {d d' : Array {x : α // Wf x}} (h : PermIn 0 d.size d d') : (d'.toList.map (·.1)).Perm (d.toList.map (·.1)) := by
  have h2 := h.2.2
  have e1 : d.extract 0 d.size = d := by simp
  have e2 : d'.extract 0 d.size = d' := by rw [← h.1]; simp
  rw [e1, e2] at h2
  exact h2.map _
theorem sortedIn_pairwise {lt : α → α → Bool} {d : Array {x : α // Wf x}} {m : Nat} (hm : d.size = m) (h : SortedIn (fun a b => lt a.1 b.1) 0 m d) : (d.toList.map (·.1)).Pairwise fun a b => lt b a = false := by
  rw [List.pairwise_iff_getElem]
  intro i j hi hj hij
  simp at hi hj
  have := h i j (Nat.zero_le _) hij (by omega)
  rw [getElem!_pos d i hi, getElem!_pos d j hj] at this
  simpa using this
end
end Go.Mem
end
section
namespace Go.Proofs.YtclhgokchcklbaaGreatDoor
open Go Go.RowKit Go.Mem Gf Lea Go.Lib Go.Shelf
def WfK (k : Key) : Prop := k.length = 16
theorem ecK : EncK bV WfK 16 := ⟨fun x h => by rw [bV_len]; exact h, bV_one, by decide⟩
def ltK (a b : Key) : Bool := decide (Go.Lib.compareBytes a b < 0)
instance : Inhabited {k : Key // WfK k} := ⟨⟨List.replicate 16 0, by unfold WfK; simp⟩⟩
attribute [local go_sem ↓] Go.wp_at_zero Go.wp_at_succ
end Go.Proofs.YtclhgokchcklbaaGreatDoor
end
section
namespace Go.Proofs.YtclhgokchcklbaaGreatDoor
open Go Go.RowKit Go.Mem Gf Lea
structure BareI (l : List Les) (ks : List Key) (i : Nat) (R : List Key) : Prop where
  up : R.Pairwise fun a b => Go.Lib.compareBytes a b < 0
  mem : ∀ k, k ∈ R ↔ k ∈ ks.take i ∧ ∀ x ∈ l, x.ix ≠ k
theorem bare_zero (l : List Les) (ks : List Key) : BareI l ks 0 [] := ⟨List.Pairwise.nil, fun k => by simp⟩
section
variable {l : List Les} {ks R : List Key} {i : Nat} {x : Key}
theorem mem_take_succ (hx : ks[i]? = some x) (k : Key) : k ∈ ks.take (i + 1) ↔ k ∈ ks.take i ∨ k = x := by
  rw [List.take_add_one, hx, Option.toList_some, List.mem_append, List.mem_singleton]
theorem bare_dup (h : BareI l ks i R) (hx : ks[i]? = some x) (h0 : 0 < i) (hd : ks[i - 1]? = some x) : BareI l ks (i + 1) R := by
  refine ⟨h.up, fun k => ?_⟩
  have hin : x ∈ ks.take i := List.mem_iff_getElem?.2 ⟨i - 1, by rw [List.getElem?_take, if_pos (by omega)]; exact hd⟩
  rw [h.mem, mem_take_succ hx]
  constructor
  · rintro ⟨h1, h2⟩; exact ⟨.inl h1, h2⟩
  · rintro ⟨h1 | h1, h2⟩
    · exact ⟨h1, h2⟩
    · subst h1; exact ⟨hin, h2⟩
theorem bare_new (h : BareI l ks i R) (hs : ks.Pairwise fun a b => ltK b a = false) (hx : ks[i]? = some x) (hd : ∀ y, 0 < i → ks[i - 1]? = some y → y ≠ x) (hn : ∀ z ∈ l, z.ix ≠ x) : BareI l ks (i + 1) (R ++ [x]) := by
  have hle : ∀ {p q : Nat} {a b : Key}, p < q → ks[p]? = some a → ks[q]? = some b → Go.Lib.compareBytes a b ≤ 0 := fun {p q a b} hpq ha hb => by
    rw [List.pairwise_iff_getElem] at hs
    have hp := some_lt ha
    have hq := some_lt hb
    have := hs p q hp hq hpq
    rw [List.getElem?_eq_getElem hp] at ha
    rw [List.getElem?_eq_getElem hq] at hb
    cases ha; cases hb
    have e := cmp_neg ks[p] ks[q]
    unfold ltK at this
    simp only [decide_eq_false_iff_not] at this
    omega
  refine ⟨?_, fun k => ?_⟩
  · rw [List.pairwise_append]
    refine ⟨h.up, List.pairwise_singleton _ _, fun a ha b hb => ?_⟩
    rw [List.mem_singleton.1 hb]
    obtain ⟨j, hj⟩ := List.mem_iff_getElem?.1 ((h.mem a).1 ha).1
    rw [List.getElem?_take] at hj
    by_cases hji : j < i
    · rw [if_pos hji] at hj
      have h1 := hle hji hj hx
      by_cases e : Go.Lib.compareBytes a x = 0
      · have hax := cmp_eq0 _ _ e
        subst hax
        have hy : ks[i - 1]? = some (ks[i - 1]'(by have := some_lt hx; omega)) := by simp
        generalize ks[i - 1]'(by have := some_lt hx; omega) = y at hy
        have h3 := hle (by omega : i - 1 < i) hy hx
        have h4 : Go.Lib.compareBytes a y ≤ 0 := by
          rcases Nat.lt_or_ge j (i - 1) with c | c
          · exact hle c hj hy
          · have : j = i - 1 := by omega
            subst this
            rw [hj] at hy; cases hy
            rw [cmp_refl]; omega
        have e2 := cmp_neg a y
        have := cmp_eq0 y a (by omega)
        exact absurd this (hd y (by omega) hy)
      · omega
    · rw [if_neg hji] at hj; cases hj
  · rw [List.mem_append, List.mem_singleton, h.mem, mem_take_succ hx]
    constructor
    · rintro (⟨h1, h2⟩ | rfl)
      · exact ⟨.inl h1, h2⟩
      · exact ⟨.inr rfl, hn⟩
    · rintro ⟨h1 | h1, h2⟩
      · exact .inl ⟨h1, h2⟩
      · exact .inr h1
end
theorem EKk : ElemK Tryz.prog 103 44 (.agg (List.replicate 16 (Value.int .u8 0)).toArray) 16 16 := ⟨Tryz.underlying103, by kernel_rfl, rfl, by decide⟩
theorem slice_key (dst : Option Tmp) (x : Operand) (ty : TypeId) (pos : String) (af : Array Edge) (a : Act) (w : World) (K : Act → World → Prop) (Q : Exit → Act → World → Prop) (hy : aggIs (a.eval x) = true) (hc : AllK 16 (aggL (a.eval x))) :
    Oper.wp Tryz.prog ⟨dst, .buildSlice 103 1 #[(0, x)], ty, pos, af, none⟩ a w K Q = K (a.put dst (.slice (some ⟨w.heap.size, 0, none⟩) 1 1)) (w.alloc (.cells (aggL (a.eval x)).toArray 44)) :=
  wp_sliceK Tryz.underlying103 (by kernel_rfl) (by decide) (by decide) dst x ty pos af a w K Q hy hc
theorem store_key (dst : Option Tmp) (x y : Operand) (ty : TypeId) (pos : String) (af : Array Edge) (a : Act) (w : World) (K : Act → World → Prop) (Q : Exit → Act → World → Prop)
    (hp : ptrIs (a.eval x) = true) (hy : aggIs (a.eval y) = true) (ht : HasK 16 w (ptrB (a.eval x)) (ptrO (a.eval x))) (hc : AllK 16 (aggL (a.eval y))) :
    Oper.wp Tryz.prog ⟨dst, .store 44 x y, ty, pos, af, none⟩ a w K Q = K (a.put dst undef) (w.setCells (ptrB (a.eval x)) (ptrO (a.eval x)) (aggL (a.eval y))) :=
  wp_storeK i16 dst x y ty pos af a w K Q hp hy ht hc
attribute [local go_sem ↓] Go.wp_at_zero Go.wp_at_succ
attribute [local go_sem ↓] load_key store_key slice_key
attribute [local go_sem] ptrB_eq ptrO_eq ptrIs_eq aggL_eq aggIs_eq readK_drew hasK_drew readK_alloc_past hasK_alloc_past readK_alloc_in hasK_alloc_in setCells_drew setCells_alloc_past setCells_alloc_at
end Go.Proofs.YtclhgokchcklbaaGreatDoor
end
section
namespace Go.Mem
open Go Go.RowKit Gf Lea Go.Proofs.YtclhgokchcklbaaGreatDoor
theorem cmp_le : ∀ a b : List UInt8, a ≤ b → Go.Lib.compareBytes a b ≤ 0
  | [], [], _ => by simp [Go.Lib.compareBytes]
  | [], _ :: _, _ => by simp [Go.Lib.compareBytes]
  | x :: a, [], h => by simp at h
  | x :: a, y :: b, h => by
    rw [List.cons_le_cons_iff] at h
    simp only [Go.Lib.compareBytes]
    rcases h with h | ⟨rfl, h⟩
    · rw [if_pos h]; omega
    · have := cmp_le a b h
      rw [if_neg (UInt8.lt_irrefl x), if_neg (UInt8.lt_irrefl x)]
      exact this
structure IdxR (st : St) (R : List Key) : Prop where
  up : R.Pairwise fun a b => Go.Lib.compareBytes a b < 0
  mem : ∀ k, k ∈ R ↔ st.dead = false ∧ ∃ r ∈ st.recs, r.is = true ∧ ixOf r.name = k
theorem IdxR.nodup {st : St} {R : List Key} (h : IdxR st R) : R.Nodup := h.up.imp fun {a b} h e => by rw [e, cmp_refl] at h; omega
theorem mem_namesS {st : St} {x : List UInt8} : x ∈ st.names ↔ st.dead = false ∧ ∃ r ∈ st.recs, r.is = true ∧ r.name.data.toList = x := by
  unfold St.names
  cases st.dead with
  | true => simp
  | false =>
    simp only [Bool.false_eq_true, if_false, true_and]
    rw [mem_namesK]
    constructor
    · rintro ⟨i, r, _, h1, h2, h3⟩
      exact ⟨r, List.mem_of_getElem? h1, h2, h3⟩
    · rintro ⟨r, h1, h2, h3⟩
      obtain ⟨i, hi⟩ := List.getElem?_of_mem h1
      exact ⟨i, r, some_lt hi, hi, h2, h3⟩
def cutN (x : List UInt8) : Key := (x.drop 1).take 16
end Go.Mem
namespace Go.Proofs.YtclhgokchcklbaaGreatDoor
open Go Go.RowKit Go.Mem Gf Lea Go.Sort
theorem own_cellS {w : World} {base n g c : Nat} {t : TypeId} {L : List (List UInt8)} (h : w.ownsRow base t 1 (.slice (some ⟨g, 0, none⟩) n c) n (L.map encStr)) {i : Nat} {x : List UInt8} (hx : L[i]? = some x) : w.cell? ⟨g, i, none⟩ = some (.string ⟨x.toArray⟩) := by
  have := h.cells (g := g) rfl i (encStr x) (by rw [List.getElem?_map, hx]; rfl)
  rw [show (⟨g, 0, none⟩ : Addr).add i = ⟨g, i, none⟩ from by unfold Addr.add; split <;> simp_all] at this
  exact this
attribute [local go_sem ↓] Go.wp_at_zero Go.wp_at_succ
attribute [local go_sem ↓] load_keyS slice_key
attribute [local go_sem] ptrB_eq ptrO_eq ptrIs_eq aggL_eq aggIs_eq readK_drew someK_drew readK_alloc_past
theorem conv_key (w : World) (nm : ByteArray) (x : Key) (hn : nm = ⟨x.toArray⟩) (hx : x.length = 16) : ∃ cg w', (convert 9 38 (.string nm)).run Tryz.prog w = .ok (.slice (some ⟨w.heap.size, 0, none⟩) 16 cg) w' ∧ SomeK 16 w' w.heap.size 0 ∧ readK 16 w' w.heap.size 0 = bV x ∧ Below w.heap.size w w' := by
  have hsz : nm.size = 16 := by rw [hn]; show x.toArray.size = 16; simpa using hx
  have hd : nm.data.toList = x := by rw [hn]
  have hconv := Lib.run_convert_string_bytes (P := Tryz.prog) w 9 38 5 nm Tryz.underlying9 Tryz.underlying38 Tryz.underlying5
  obtain ⟨ho, hb⟩ := conv_ownX w 5 nm (maxLen_ge (by omega))
  rw [hd] at ho
  have hX2 := ho.bys
  rw [hsz] at hX2 hconv
  have hrng := bys_range hX2
  exact ⟨_, _, hconv, someK_of hrng (by rw [bV_len]; exact hx), readK_eq hrng (by rw [bV_len]; exact hx), hb⟩
theorem sort_own_calls {w0 wr : World} {u : Value} {n : Nat} {K : List (List UInt8)} (h : wr.ownsRow w0.heap.size 9 1 u n (K.map encStr)) (hl : K.length = n) (hn : n ≤ 1000000) (hb : Below w0.heap.size w0 wr) :
    Calls Tryz.prog 82 #[u] wr fun e w' => e = .returned (.tuple #[]) ∧ w'.ownsRow w0.heap.size 9 1 u n ((K.mergeSort fun x y => decide (x ≤ y)).map encStr) ∧ Below w0.heap.size w0 w' := by
  subst hl
  rcases h.2 with ⟨rfl, h0l⟩ | ⟨g, cap, cur, rfl, hg, hgg, g1, g2, g3, g4⟩
  · have hz0 : K = [] := List.eq_nil_of_length_eq_zero h0l
    subst hz0
    refine (Tryz.sort_Strings_none none 0 wr).mono ?_
    rintro e w3 ⟨rfl, rfl⟩
    exact ⟨rfl, by simpa using h, hb⟩
  · have hH : Sort.Holds encStr wr g 0 K.toArray := holds_of_block hgg (by simpa using g4)
    have hgl : g < wr.heap.size := (Array.getElem?_eq_some_iff.1 hgg).1
    refine (Tryz.sort_Strings g 0 cap K wr hH hgl (by omega)).mono ?_
    rintro e w3 ⟨rfl, m, os, rfl⟩
    exact ⟨rfl, ownsRow_sorted (n := m) (os := os) (ss := K) (ts := K.mergeSort fun x y => decide (x ≤ y)) (by simp) hg hgg g1 g2 g3, grown_below hb (grownBy_sorted _) (fun k hk => by cases hk; exact hg)⟩
set_option maxRecDepth 20000 in
set_option maxHeartbeats 2000000 in
theorem indexes_calls (C X : Nat → Prop) (pb : Nat) (s : SrvS) (w : World) (h : IsSrv w C X pb s) (hn : ∀ r ∈ s.st.recs, r.is = true → 17 ≤ r.name.size) :
    Calls Tryz.prog 40 #[.pointer (some ⟨pb, 0, none⟩)] w fun e w' => ∃ vo R, e = .returned vo ∧ OwnG bV WfK 16 44 w' w.heap.size vo R ∧ IdxR s.st R ∧ Below w.heap.size w w' := by
  obtain ⟨sb, lb, d, L, tb, v, h⟩ := h
  have c3 : w.cell? ⟨pb, 3, none⟩ = some (.pointer (some ⟨sb, 0, none⟩)) := h.blk.cell 3
  have H := Lib.hid (And.intro h hn)
  clear h hn
  go_enter Tryz.func40, Tryz.ntmps40
  go_wp2_with fail
  refine (snames_calls _ sb lb d L s.st w H.out.1.st).mono ?_
  rintro e w1 ⟨vn, rfl, hvn, hb1⟩
  obtain ⟨NS, hNS⟩ : ∃ N, N = s.st.names.mergeSort fun x y => decide (x ≤ y) := ⟨_, rfl⟩
  obtain ⟨n, hnn⟩ : ∃ n, n = s.st.names.length := ⟨_, rfl⟩
  rw [← hNS, ← hnn] at hvn
  have hnl : NS.length = n := by rw [hNS, hnn]; exact (List.mergeSort_perm _ _).length_eq
  have hn4 : n ≤ 1024 := by
    have h1 := H.out.1.st.ok.len2
    have h2 := namesK_le s.st.recs s.st.recs.length
    rw [hnn]
    unfold St.names
    split
    · simp
    · omega
  have hcut : ∀ x ∈ NS, 17 ≤ x.length := fun x hx => by
    rw [hNS] at hx
    obtain ⟨_, r, h1, h2, h3⟩ := mem_namesS.1 ((List.mergeSort_perm _ _).mem_iff.1 hx)
    have := H.out.2 r h1 h2
    rw [← h3]
    simpa using this
  obtain ⟨va, vc, rfl, hva⟩ := own_eq_slice hvn
  have H1 := Lib.hid (And.intro hvn (And.intro hb1 (And.intro hNS (And.intro hnl (And.intro hva hcut)))))
  clear hvn hb1 hNS hnl hva hcut hnn c3
  go_upto_region 3 with fail
  go_loopw [3, 15] (fun u v wr => ∃ i : Nat, i ≤ n ∧ v = .int .i64 i ∧ Hid (wr.ownsRow w1.heap.size 9 1 u i (((NS.take i).map cutN).map encStr) ∧ Below w1.heap.size w1 wr)) (fun _ v _ => n - (intOf v).toNat)
  case atStart => exact ⟨0, by omega, rfl, World.ownsRow_nil _ _ _ _, Below.refl _ _⟩
  case round =>
    obtain ⟨i, hi, rfl, G⟩ := hrel
    by_cases h0 : i < n
    · obtain ⟨g, rfl⟩ := H1.out.2.2.2.2.1 (by omega)
      obtain ⟨x, hx⟩ : ∃ x, NS[i]? = some x := ⟨NS[i]'(by have := H1.out.2.2.2.1; omega), by simp⟩
      have hB := G.out.2
      have hrow := own_chg (S := fun _ => False) H1.out.1 (Chg.of_below hB) (fun _ _ h => h)
      have cx := own_cellS hrow hx
      have hsz := H1.out.2.2.2.2.2 x (List.mem_of_getElem? hx)
      obtain ⟨nm, hnm⟩ : ∃ nm : ByteArray, nm = ⟨x.toArray⟩ := ⟨_, rfl⟩
      have hs17 : 17 ≤ nm.size := by rw [hnm]; show 17 ≤ x.toArray.size; simpa using hsz
      have hs17' : (17 : Int) ≤ (nm.size : Int) := by omega
      have hex : nm.extract 1 17 = ⟨(cutN x).toArray⟩ := by rw [hnm, ByteArray.extract_mk]; rfl
      rw [← hnm] at cx
      have gl : g < wr.heap.size := World.block_lt_of_cell? wr ⟨g, i, none⟩ cx 
      have i0 : (0 : Int) ≤ (i : Int) := by omega
      have i1 : (i : Int) < (n : Int) := by omega
      obtain ⟨xs, hxs⟩ : ∃ l, l = ((NS.take i).map cutN).map encStr := ⟨_, rfl⟩
      have G1 := G.out.1
      rw [← hxs] at G1
      have HX := Lib.hid (And.intro hx (And.intro hex (And.intro hnm hxs)))
      have G1 := Lib.hid G1
      clear hB hrow hx hsz hex hnm hxs
      go_wp2_with (at_builtin; refine appG_one ESc rfl _ _ rfl (base := w1.heap.size) (n := i) (xs := xs) (.string (nm.extract 1 17)) rfl rfl ?cc rfl (G1.out.alloc _) ?q1 ?q2 ?q3 ?_)
      case cc => exact new_cell _ _ _ _ (by simp)
      case q1 => omega
      case q2 => omega
      case q3 => have := G.out.2.size; simp; omega
      intro v4 w4 ho4 hg4
      have hb4 := grown_below (G.out.2.alloc G.out.2.size _) hg4 (fun k hk => (G1.out.lt k hk).1)
      have HO4 := Lib.hid (And.intro ho4 hb4)
      clear ho4 hg4 hb4
      go_wp2
      refine ⟨⟨i + 1, by omega, by go_num, ?_, HO4.out.2⟩, by simp [intOf] <;> omega⟩
      have : ((NS.take (i + 1)).map cutN).map encStr = xs ++ [.string (nm.extract 1 17)] := by
        rw [List.take_add_one, HX.out.1, HX.out.2.1, HX.out.2.2.2, Option.toList_some, List.map_append, List.map_append]
        rfl
      rw [this]
      exact HO4.out.1
    · obtain rfl : n = i := by omega
      have hfull : NS.take n = NS := List.take_of_length_le (by have := H1.out.2.2.2.1; omega)
      obtain ⟨K0, hK0⟩ : ∃ K, K = NS.map cutN := ⟨_, rfl⟩
      have hown := G.out.1
      rw [hfull, ← hK0] at hown
      have hKl : K0.length = n := by rw [hK0, List.length_map]; exact H1.out.2.2.2.1
      obtain ⟨KS, hKS⟩ : ∃ K, K = K0.mergeSort fun x y => decide (x ≤ y) := ⟨_, rfl⟩
      have hKSl : KS.length = n := by rw [hKS, (List.mergeSort_perm _ _).length_eq]; exact hKl
      have hKw : ∀ x ∈ KS, x.length = 16 := fun x hx => by
        rw [hKS, (List.mergeSort_perm _ _).mem_iff, hK0] at hx
        obtain ⟨y, hy, rfl⟩ := List.mem_map.1 hx
        have := H1.out.2.2.2.2.2 y hy
        unfold cutN
        rw [List.length_take, List.length_drop]; omega
      have hKp : KS.Pairwise fun a b => ltK b a = false := by
        have hp := List.pairwise_mergeSort (le := fun x y : List UInt8 => decide (x ≤ y)) (fun a b c h1 h2 => by simp only [decide_eq_true_eq] at *; exact List.le_trans h1 h2) (fun a b => by simp only [Bool.or_eq_true, decide_eq_true_eq]; exact List.le_total a b) K0
        rw [← hKS] at hp
        refine hp.imp fun {a b} h => ?_
        unfold ltK
        have h1 := cmp_le a b (by simpa using h)
        have h2 := cmp_neg a b
        simp only [decide_eq_false_iff_not]
        omega
      have hKm : ∀ k, k ∈ KS ↔ s.st.dead = false ∧ ∃ r ∈ s.st.recs, r.is = true ∧ ixOf r.name = k := fun k => by
        rw [hKS, (List.mergeSort_perm _ _).mem_iff, hK0, List.mem_map, H1.out.2.2.1]
        constructor
        · rintro ⟨y, hy, rfl⟩
          obtain ⟨h1, r, h2, h3, h4⟩ := mem_namesS.1 ((List.mergeSort_perm _ _).mem_iff.1 hy)
          exact ⟨h1, r, h2, h3, by unfold ixOf cutN; rw [h4]⟩
        · rintro ⟨h1, r, h2, h3, h4⟩
          exact ⟨_, (List.mergeSort_perm _ _).mem_iff.2 (mem_namesS.2 ⟨h1, r, h2, h3, rfl⟩), h4⟩
      have hB1 := G.out.2
      have HK := Lib.hid (And.intro hKS (And.intro hKSl (And.intro hKw (And.intro hKp hKm))))
      have HG := Lib.hid (And.intro hown (And.intro hB1 hKl))
      clear hfull hK0 hown hKl hKS hKSl hKw hKp hKm hB1 G
      go_wp2_with fail
      refine (sort_own_calls HG.out.1 HG.out.2.2 (by omega) HG.out.2.1).mono ?_
      rintro e w2 ⟨rfl, ho2, hb2⟩
      rw [← HK.out.1] at ho2
      obtain ⟨sa, sc, rfl, hsa⟩ := own_eq_slice ho2
      have H2 := Lib.hid (And.intro ho2 (And.intro hb2 hsa))
      clear ho2 hb2 hsa HG
      go_upto_region 10 with fail
      go_loopw [6, 29] (fun u v wr => ∃ (i : Nat) (R : List Key), i ≤ n ∧ v = .int .i64 i ∧ Hid (OwnG bV WfK 16 44 wr w2.heap.size u R ∧ BareI [] KS i R ∧ Below w2.heap.size w2 wr ∧ R.length ≤ i)) (fun _ v _ => n - (intOf v).toNat)
      case atStart => exact ⟨0, [], Nat.zero_le _, rfl, OwnG.nil _ _ _ _ _ _, bare_zero _ _, Below.refl _ _, Nat.le_refl _⟩
      case round =>
        obtain ⟨i, R, hi0, rfl, G⟩ := hrel
        by_cases hin : i < n
        · obtain ⟨g, rfl⟩ := H2.out.2.2 (by omega)
          obtain ⟨x, hx⟩ : ∃ x, KS[i]? = some x := ⟨KS[i]'(by have := HK.out.2.1; omega), by simp⟩
          have hrow := own_chg (S := fun _ => False) H2.out.1 (Chg.of_below G.out.2.2.1) (fun _ _ h => h)
          have cx := own_cellS hrow hx
          have wx : x.length = 16 := HK.out.2.2.1 x (List.mem_of_getElem? hx)
          obtain ⟨nm, hnm⟩ : ∃ nm : ByteArray, nm = ⟨x.toArray⟩ := ⟨_, rfl⟩
          have hns : nm.size = 16 := by rw [hnm]; show x.toArray.size = 16; simpa using wx
          have hnd : nm.data.toList = x := by rw [hnm]
          rw [← hnm] at cx
          have gl : g < wr.heap.size := World.block_lt_of_cell? wr ⟨g, i, none⟩ cx
          have i0 : (0 : Int) ≤ (i : Int) := by omega
          have i1 : (i : Int) < (n : Int) := by omega
          have HX := Lib.hid (And.intro hx (And.intro wx (And.intro hnm (And.intro hrow hnd))))
          clear hx wx hnm hrow hnd
          obtain ⟨cg, w3, hcv, hs3, hr3, hb3⟩ := conv_key wr nm x HX.out.2.2.1 HX.out.2.1
          have har := arrayAt_key wr.heap.size 0 cg w3
          have ax : AllK 16 (bV x) := ⟨(key_in HX.out.2.1).2, bV_one x⟩
          have k1 := (key_in HX.out.2.1).1
          have k2 := (key_in HX.out.2.1).2
          have HO3 := Lib.hid (G.out.1.chg (S := fun _ => False) (Chg.of_below hb3) (fun _ _ h => h))
          have HB3 := Lib.hid (And.intro G.out.2.2.1 hb3)
          clear hb3
          by_cases c0 : i = 0
          · have d0 : decide ((i : Int) = 0) = true := by simp; omega
            have d0' : ((i : Int) == 0) = true := by simp; omega
            have C0 := Lib.hid c0
            clear c0
            go_upto_region 13 with fail
            go_wp2_with
              (first
                | (refine appG_own EKk ecK (by rfl) _ _ (by rfl) (base := w2.heap.size) (l := R) (cx := 1) (e' := 44) x HX.out.2.1 (by rfl) (by rfl) (Blk.new_at _ _ _ _ (by simp)) (HO3.out.chg (S := fun _ => False) (Chg.of_below ((Below.refl _ _).alloc (Nat.le_refl _) _)) (fun _ _ h => h)) (by have := G.out.2.2.2; omega) (by decide) (by have := HB3.out.1.size; have := HB3.out.2.size; simp; omega) ?_
                   intro v1 x1 hv1 hg1 hs1
                   have HV1 := Lib.hid hv1
                   have HC1 := Lib.hid (grown_below ((HB3.out.1.trans (HB3.out.2.mono HB3.out.1.size)).alloc (Nat.le_trans HB3.out.1.size HB3.out.2.size) _) hg1 (fun q hq => HO3.out.ge hq))
                   clear hv1 hg1 hs1)
                | fail)
            exact ⟨⟨i + 1, R ++ [x], by omega, by simp, HV1.out, bare_new G.out.2.1 HK.out.2.2.2.1 HX.out.1 (fun _ h0 _ => absurd C0.out (by omega)) (fun _ h => by cases h), HC1.out, by have := G.out.2.2.2; simp; omega⟩, by show n - ((i : Int) + 1).toNat < n - (i : Int).toNat; omega⟩
          · have d0 : decide ((i : Int) = 0) = false := by simp; omega
            have d0' : ((i : Int) == 0) = false := by simp; omega
            obtain ⟨y, hy⟩ : ∃ y, KS[i - 1]? = some y := ⟨_, List.getElem?_eq_getElem (by have := HK.out.2.1; omega)⟩
            obtain ⟨j, hj⟩ : ∃ j, j = i - 1 := ⟨_, rfl⟩
            have ej : (i : Int) - 1 = (j : Int) := by omega
            have j0 : (0 : Int) ≤ (j : Int) := by omega
            have j1 : (j : Int) < (n : Int) := by omega
            rw [← hj] at hy
            have cy := own_cellS HX.out.2.2.2.1 hy
            obtain ⟨ny, hny⟩ : ∃ nm : ByteArray, nm = ⟨y.toArray⟩ := ⟨_, rfl⟩
            rw [← hny] at cy
            have C0 := Lib.hid (And.intro hj (And.intro c0 (And.intro hy hny)))
            clear hj c0 hy hny
            by_cases ce : y = x
            · have d1 : (ny.toList == nm.toList) = true := Sto.same_name.2 (by rw [C0.out.2.2.2, HX.out.2.2.1, ce])
              have CE := Lib.hid ce
              clear ce
              go_upto_region 14 with fail
              go_wp2_with fail
              exact ⟨⟨i + 1, R, by omega, by simp, G.out.1, bare_dup G.out.2.1 HX.out.1 (by have := C0.out.2.1; omega) (by rw [← C0.out.1, C0.out.2.2.1, CE.out]), G.out.2.2.1, by have := G.out.2.2.2; omega⟩, by show n - ((i : Int) + 1).toNat < n - (i : Int).toNat; omega⟩
            · have d1 : (ny.toList == nm.toList) = false := by
                rw [← Bool.not_eq_true, Sto.same_name, C0.out.2.2.2, HX.out.2.2.1]
                exact fun e => ce (name_data e)
              have CE := Lib.hid ce
              clear ce
              go_upto_region 13 with fail
              go_wp2_with
              (first
                | (refine appG_own EKk ecK (by rfl) _ _ (by rfl) (base := w2.heap.size) (l := R) (cx := 1) (e' := 44) x HX.out.2.1 (by rfl) (by rfl) (Blk.new_at _ _ _ _ (by simp)) (HO3.out.chg (S := fun _ => False) (Chg.of_below ((Below.refl _ _).alloc (Nat.le_refl _) _)) (fun _ _ h => h)) (by have := G.out.2.2.2; omega) (by decide) (by have := HB3.out.1.size; have := HB3.out.2.size; simp; omega) ?_
                   intro v1 x1 hv1 hg1 hs1
                   have HV1 := Lib.hid hv1
                   have HC1 := Lib.hid (grown_below ((HB3.out.1.trans (HB3.out.2.mono HB3.out.1.size)).alloc (Nat.le_trans HB3.out.1.size HB3.out.2.size) _) hg1 (fun q hq => HO3.out.ge hq))
                   clear hv1 hg1 hs1)
                | fail)
              exact ⟨⟨i + 1, R ++ [x], by omega, by simp, HV1.out, bare_new G.out.2.1 HK.out.2.2.2.1 HX.out.1 (fun z h0 hz e => CE.out (by have h1 := C0.out.2.2.1; rw [C0.out.1, hz] at h1; cases h1; exact e)) (fun _ h => by cases h), HC1.out, by have := G.out.2.2.2; simp; omega⟩, by show n - ((i : Int) + 1).toNat < n - (i : Int).toNat; omega⟩
        · go_wp2_with fail
          go_ret
          have hfull : KS.take i = KS := List.take_of_length_le (by have := HK.out.2.1; omega)
          refine ⟨u6, R, rfl, G.out.1.lower (Nat.le_trans H1.out.2.1.size H2.out.2.1.size), ⟨G.out.2.1.up, fun k => ?_⟩, H1.out.2.1.trans ((H2.out.2.1.trans (G.out.2.2.1.mono H2.out.2.1.size)).mono H1.out.2.1.size)⟩
          rw [G.out.2.1.mem, hfull, HK.out.2.2.2.2]
          simp
end Go.Proofs.YtclhgokchcklbaaGreatDoor
end
section
namespace Go.Mem
open Go Go.RowKit Gf Lea Go.Proofs.YtclhgokchcklbaaGreatDoor
theorem nodup_at {R : List Key} (h : R.Nodup) {i j : Nat} {x : Key} (hi : R[i]? = some x) (hj : R[j]? = some x) : i = j := by
  have h1 := some_lt hi
  have h2 := some_lt hj
  rw [List.getElem?_eq_getElem h1] at hi
  rw [List.getElem?_eq_getElem h2] at hj
  rcases Nat.lt_trichotomy i j with c | c | c
  · have := List.pairwise_iff_getElem.1 h i j h1 h2 c
    cases hi; injection hj with hj; exact absurd hj.symm this
  · exact c
  · have := List.pairwise_iff_getElem.1 h j i h2 h1 c
    cases hj; injection hi with hi; exact absurd hi.symm this
structure RestI (f : Look) (R : List Key) (i : Nat) (lt : List Les) : Prop where
  good : Lea.Good lt
  len : lt.length ≤ 8 * i
  ixs : ∀ x ∈ lt, x.ix ∈ R.take i
  tab : ∀ ix ∈ R.take i, (f (leaseN ix) = none ∧ ofL lt ix = []) ∨ ∃ out, f (leaseN ix) = some (packL out) ∧ OfR lt ix out ∧ out ≠ []
theorem RestI.zero (f : Look) (R : List Key) : RestI f R 0 [] := ⟨Lea.Good.nil, Nat.le_refl _, (fun _ h => by cases h), fun ix h => by simp at h⟩
theorem RestI.none {f : Look} {R : List Key} {i : Nat} {lt : List Les} (h : RestI f R i lt) (hnd : R.Nodup) {x : Key} (hx : R[i]? = some x) (hf : f (leaseN x) = none) : RestI f R (i + 1) lt := by
  have hxi : x ∉ R.take i := fun hm => by
    obtain ⟨j, hj⟩ := List.mem_iff_getElem?.1 hm
    rw [List.getElem?_take] at hj
    split at hj
    · have := nodup_at hnd hj hx
      omega
    · cases hj
  refine ⟨h.good, Nat.le_trans h.len (by omega), fun y hy => (mem_take_succ hx _).2 (.inl (h.ixs y hy)), fun ix hm => ?_⟩
  rcases (mem_take_succ hx ix).1 hm with hm | rfl
  · exact h.tab ix hm
  · exact .inl ⟨hf, ofL_nil.2 fun y hy e => hxi (by rw [← e]; exact h.ixs y hy)⟩
theorem RestI.some {f : Look} {R : List Key} {i : Nat} {lt l' : List Les} (h : RestI f R i lt) (hnd : R.Nodup) {x : Key} (hx : R[i]? = some x) {out : List Sec} (hf : f (leaseN x) = some (packL out)) (ho : LeOk out) (hg : Lea.Good l') (hp : l'.Perm (lt ++ itemsS x out)) : RestI f R (i + 1) l' ∧ ∀ y ∈ lt, y.ix ≠ x := by
  have hxi : x ∉ R.take i := fun hm => by
    obtain ⟨j, hj⟩ := List.mem_iff_getElem?.1 hm
    rw [List.getElem?_take] at hj
    split at hj
    · have := nodup_at hnd hj hx
      omega
    · cases hj
  have hlt : ∀ y ∈ lt, y.ix ≠ x := fun y hy e => hxi (by rw [← e]; exact h.ixs y hy)
  refine ⟨⟨hg, ?_, fun y hy => ?_, fun ix hm => ?_⟩, hlt⟩
  · rw [hp.length_eq, List.length_append]
    have h1 : (itemsS x out).length = out.length := by unfold itemsS; rw [List.length_map]
    have h2 := ho.few
    have h3 := h.len
    omega
  · rcases List.mem_append.1 (hp.mem_iff.1 hy) with hy | hy
    · exact (mem_take_succ hx _).2 (.inl (h.ixs y hy))
    · obtain ⟨s, _, rfl⟩ := List.mem_map.1 hy
      exact (mem_take_succ hx _).2 (.inr rfl)
  · rcases (mem_take_succ hx ix).1 hm with hm | rfl
    · have hne : ix ≠ x := fun e => hxi (by rw [← e]; exact hm)
      have hpe : (ofL l' ix).Perm (ofL lt ix) := by
        refine (ofL_perm hp ix).trans ?_
        rw [ofL_app]
        have : ofL (itemsS x out) ix = [] := ofL_nil.2 fun y hy => by
          obtain ⟨s, _, rfl⟩ := List.mem_map.1 hy
          exact fun e => hne e.symm
        rw [this, List.append_nil]
      rcases h.tab ix hm with ⟨a1, a2⟩ | ⟨o, a1, a2, a3⟩
      · exact .inl ⟨a1, by rw [a2] at hpe; exact List.perm_nil.1 hpe⟩
      · exact .inr ⟨o, a1, ⟨a2.perm.trans hpe.symm, a2.up⟩, a3⟩
    · refine .inr ⟨out, hf, ⟨?_, ho.up⟩, ho.ne⟩
      have := ofL_perm hp ix
      rw [ofL_items lt ix out hlt] at this
      exact this.symm
theorem RestI.done {l : List Sto.Rec} {R : List Key} {lt : List Les} {i : Nat} (h : RestI (Sto.look l) R i lt) (hi : R.take i = R) (hR : ∀ k, k ∈ R ↔ ∃ r ∈ l, r.is = true ∧ ixOf r.name = k) : TabIs l lt := fun ix hx => by
  by_cases hm : ix ∈ R
  · exact h.tab ix (by rw [hi]; exact hm)
  · refine .inl ⟨?_, ofL_nil.2 fun y hy e => hm (by rw [← e, ← hi]; exact h.ixs y hy)⟩
    cases hl : Sto.look l (leaseN ix) with
    | none => rfl
    | some b =>
      obtain ⟨r, h1, h2, h3, _⟩ := look_at hl
      exact absurd ((hR ix).2 ⟨r, h1, h2, by rw [h3]; exact ixOf_lease hx⟩) hm
end Go.Mem
namespace Go.Proofs.YtclhgokchcklbaaGreatDoor
open Go Go.RowKit Go.Mem Gf Lea
theorem rest_is {w w1 w4 w5 w6 w7 : World} {C X : Nat → Prop} {pb sb lb d L tb : Nat} {v : Value} {s : SrvS} {st' : St} {lb' tb' : Nat} (h : SrvAt w C X pb sb lb d L tb v s) (hc1 : Chg (fun b => b = d) w w1) (hc4 : Chg (fun b => b = d ∨ b = L) w1 w4) (hlb : w1.heap.size < lb')
    (hS : IsStore w4 (fun b => (C b ∨ X b) ∨ b = w1.heap.size ∨ b = lb') w1.heap.size lb' d L st') (h5 : w5 = w4.setCell ⟨pb, 5, none⟩ (.bool false)) (hb6 : Below w5.heap.size w5 w6) (htb : w5.heap.size ≤ tb') (hh : Heap w6 tb' (.slice none 0 0) [])
    (h7 : w7 = (w6.setCell ⟨pb, 3, none⟩ (.pointer (some ⟨w1.heap.size, 0, none⟩))).setCell ⟨pb, 4, none⟩ (.pointer (some ⟨tb', 0, none⟩))) :
    ∃ C', IsSrv w7 C' X pb { s with st := st', tab := [], broken := false } ∧ SChg C C' w w7 := by
  have hcpb : C pb := h.core pb (.inr (.inl rfl))
  have hcd : C d := h.foot d (.inr (.inr (.inl rfl)))
  have hcL : C L := h.foot L (.inr (.inr (.inr rfl)))
  have hpd : pb ≠ d := fun e => h.npb (.inr (.inr (.inl e)))
  have hpL : pb ≠ L := fun e => h.npb (.inr (.inr (.inr e)))
  have s1 := hc1.size
  have s4 := hc4.size
  have h45 : Chg (fun b => b = pb) w4 w5 := by rw [h5]; exact Chg.set (S := fun b => b = pb) (a := ⟨pb, 5, none⟩) (Chg.refl _ _) rfl _
  have h67 : Chg (fun b => b = pb) w6 w7 := by rw [h7]; exact Chg.set (S := fun b => b = pb) (a := ⟨pb, 4, none⟩) (Chg.set (S := fun b => b = pb) (a := ⟨pb, 3, none⟩) (Chg.refl _ _) rfl _) rfl _
  have s5 := h45.size
  have s6 := hb6.size
  have s7 := h67.size
  have hpl := h.pb_lt
  have hlo := hS.old
  have hft := hS.lt
  have htl := hh.tab.cell.lt
  have hp1 : pb ≠ w1.heap.size := by omega
  have hplb : pb ≠ lb' := by omega
  have h47 : Chg (fun b => b = pb) w4 w7 := (h45.trans_below hb6).trans h67
  have hfp : ∀ b, Foot w1.heap.size lb' d L b → b ≠ pb := by
    rintro b (rfl | rfl | rfl | rfl) e
    · exact hp1 e.symm
    · exact hplb e.symm
    · exact hpd e.symm
    · exact hpL e.symm
  have hblk : Blk w7 pb (srvV s.slots s.room d w1.heap.size tb' false) 79 := by
    have b1 := hc1.blk h.blk hpd
    have b4 := hc4.blk b1 (fun e => by rcases e with e | e; exact hpd e; exact hpL e)
    have b5 := b4.set 5 (.bool false)
    rw [← h5] at b5
    have b6 := b5.kept hb6
    have b7 := (b6.set 3 (.pointer (some ⟨w1.heap.size, 0, none⟩))).set 4 (.pointer (some ⟨tb', 0, none⟩))
    rw [← h7] at b7
    exact b7
  have hst := hS.grow (M := fun b => (C b ∨ b = w1.heap.size ∨ b = lb' ∨ b = tb') ∨ X b) h47 (fun b hb e => hfp b hb e) (fun b hb _ => .inl (.inl (by rw [hb]; exact hcpb))) (fun b hM => by
    rcases hM with (hM | hM | hM | hM) | hM
    · exact .inl (.inl (.inl hM))
    · exact .inl (.inr (.inl hM))
    · exact .inl (.inr (.inr hM))
    · exact .inr (by omega)
    · exact .inl (.inl (.inr hM))) (fun b hN => by
    rcases hN with (hN | hN) | hN | hN
    · exact .inl (.inl hN)
    · exact .inr hN
    · exact .inl (.inr (.inl hN))
    · exact .inl (.inr (.inr (.inl hN)))) (fun b hM => by
    have : b < w4.heap.size ∨ b = tb' := by
      rcases hM with (hM | hM | hM | hM) | hM
      · exact .inl (hlo b (.inl (.inl hM)))
      · exact .inl (hlo b (.inr (.inl hM)))
      · exact .inl (hlo b (.inr (.inr hM)))
      · exact .inr hM
      · exact .inl (hlo b (.inl (.inr hM)))
    rcases this with h | rfl <;> omega)
  refine ⟨fun b => C b ∨ b = w1.heap.size ∨ b = lb' ∨ b = tb', ⟨_, lb', d, L, tb', .slice none 0 0, hblk, hst, ⟨hh.tab.chg h67 (fun e => by omega) (fun g hg => by cases hg), hh.heap⟩, Lea.Good.nil, ?_, ?_, ?_, ?_, (fun g hg => by cases hg)⟩, ?_, ?_⟩
  · rintro b (hf | rfl | rfl | hv)
    · rcases hf with rfl | rfl | rfl | rfl
      · exact .inr (.inl rfl)
      · exact .inr (.inr (.inl rfl))
      · exact .inl hcd
      · exact .inl hcL
    · exact .inl hcpb
    · exact .inr (.inr (.inr rfl))
    · cases hv
  · rintro b hX (hC | rfl | rfl | rfl)
    · exact h.xc b hX hC
    · have := h.lt (.inr hX); omega
    · have := h.lt (.inr hX); omega
    · have := h.lt (.inr hX); omega
  · exact fun hf => hfp pb hf rfl
  · exact ⟨fun hf => by have := hft _ hf; omega, by omega⟩
  · have a1 : Chg C w w1 := hc1.mono (fun b hb => by rw [hb]; exact hcd)
    have a4 : Chg C w w4 := a1.trans (hc4.mono (fun b hb => by rcases hb with hb | hb; rw [hb]; exact hcd; rw [hb]; exact hcL))
    exact a4.trans (h47.mono (fun b hb => by rw [hb]; exact hcpb))
  · rintro b (hC | rfl | rfl | rfl)
    · exact .inl hC
    · exact .inr s1
    · exact .inr (by omega)
    · exact .inr (by omega)
theorem SrvAt.tchg {w w' : World} {C X : Nat → Prop} {pb sb lb d L tb : Nat} {v v' : Value} {s : SrvS} {l' : List Les} (h : SrvAt w C X pb sb lb d L tb v s) (hc : TChg tb v v' w w') (hh : Heap w' tb v' l') (hg : Lea.Good l') :
    SrvAt w' (fun b => C b ∨ v'.ownBlock = some b) X pb sb lb d L tb v' { s with tab := l' } ∧ SChg C (fun b => C b ∨ v'.ownBlock = some b) w w' := by
  have hct : C tb := h.core tb (.inr (.inr (.inl rfl)))
  have hcv : ∀ g, v.ownBlock = some g → C g := fun g hg => h.core g (.inr (.inr (.inr hg)))
  have hs := hc.1.size
  have hnew : ∀ g, v'.ownBlock = some g → C g ∨ w.heap.size ≤ g := fun g hg => (hc.2 g hg).imp (hcv g) id
  have hold : ∀ g, v'.ownBlock = some g → g < w'.heap.size := fun g hg => (hh.tab.own.lt g hg).2
  have hS : ∀ b, (b = tb ∨ v.ownBlock = some b) → ¬ Foot sb lb d L b ∧ b ≠ pb := fun b hb => by
    rcases hb with rfl | hb
    · exact h.ntb
    · exact h.nown b hb
  refine ⟨⟨hc.1.blk h.blk (fun e => (hS pb e).2 rfl), ?_, hh, hg, ?_, ?_, h.npb, h.ntb, fun g hg => ?_⟩, hc.1.mono (fun b hb => by rcases hb with rfl | hb; exact hct; exact hcv b hb), fun b hb => ?_⟩
  · refine h.st.grow hc.1 (fun b hb e => (hS b e).1 hb) (fun b hb _ => .inl (by rcases hb with rfl | hb; exact hct; exact hcv b hb)) (fun b hM => ?_) (fun b hN => ?_) (fun b hM => ?_)
    · rcases hM with (hM | hM) | hM
      · exact .inl (.inl hM)
      · exact (hnew b hM).imp .inl id
      · exact .inl (.inr hM)
    · exact hN.imp .inl id
    · rcases hM with (hM | hM) | hM
      · exact Nat.lt_of_lt_of_le (h.lt (.inl hM)) hs
      · exact hold b hM
      · exact Nat.lt_of_lt_of_le (h.lt (.inr hM)) hs
  · rintro b (hb | hb | hb | hb)
    · exact .inl (h.core b (.inl hb))
    · exact .inl (h.core b (.inr (.inl hb)))
    · exact .inl (h.core b (.inr (.inr (.inl hb))))
    · exact .inr hb
  · rintro b hX (hC | hC)
    · exact h.xc b hX hC
    · rcases hnew b hC with h1 | h1
      · exact h.xc b hX h1
      · have := h.lt (.inr hX); omega
  · rcases hc.2 g hg with h1 | h1
    · exact h.nown g h1
    · exact ⟨fun hf => by have := h.lt (.inl (h.foot g hf)); omega, fun e => by have := h.pb_lt; omega⟩
  · rcases hb with hb | hb
    · exact .inl hb
    · exact hnew b hb
structure RestP (m : Nat) (s : SrvS) (l : List Sto.Rec) (s' : SrvS) : Prop where
  good : SrvG (m + 1) s'
  thin : Sto.Thin l s'.st.recs
  stops : s'.st.disk.stops = false
  slots : s'.slots = s.slots
  room : s'.room = s.room
  open_ : openR s.st.disk.start s.slots s.room = (0, s'.st.disk, some s'.st)
attribute [local go_sem ↓] Go.wp_at_zero Go.wp_at_succ
attribute [local go_sem ↓] load_key store_key slice_key
attribute [local go_sem] ptrB_eq ptrO_eq ptrIs_eq aggL_eq aggIs_eq readK_drew hasK_drew readK_alloc_past hasK_alloc_past readK_alloc_in hasK_alloc_in setCells_drew setCells_alloc_past setCells_alloc_at
set_option maxRecDepth 20000 in
set_option maxHeartbeats 4000000 in
theorem restart_calls (C X : Nat → Prop) (pb : Nat) (s : SrvS) (m : Nat) (l : List Sto.Rec) (w : World) (h : IsSrv w C X pb s) (hh : SHold m s.st.disk s.room l) (hl : l.length = s.slots) (hf : s.slots ≤ 120) (hr : 1 ≤ s.room ∧ s.room ≤ 1000) (hm : m < 1000000) :
    Calls Tryz.prog 18 #[.pointer (some ⟨pb, 0, none⟩)] w fun e w' => ∃ C' s', e = .returned (.int .i64 0) ∧ RestP m s l s' ∧ IsSrv w' C' X pb s' ∧ SChg C C' w w' := by
  obtain ⟨sb, lb, d, L, tb, v, h⟩ := h
  obtain ⟨ls, D', ho1, ho2, ho3, ho4⟩ := hh.reopen (by omega) hr
  have hl1 : 1 ≤ l.length := by
    have h1 := hh.holds.1
    have h2 := h.st.ok.size
    have h3 := h.st.ok.len1
    rcases Nat.eq_zero_or_pos l.length with c | c
    · rw [c, Nat.zero_mul] at h1
      have : 0 < s.st.recs.length * (s.st.room + 1) := Nat.mul_pos h3 (by omega)
      omega
    · exact c
  obtain ⟨st', hst'⟩ : ∃ x : St, x = ⟨s.room, ls, false, D'⟩ := ⟨_, rfl⟩
  rw [← hst'] at ho2 ho3
  obtain ⟨n0, hn0⟩ : ∃ n, n = s.slots := ⟨_, rfl⟩
  obtain ⟨rm, hrm⟩ : ∃ n, n = s.room := ⟨_, rfl⟩
  have hdn : s.st.disk.start.n = n0 * (rm + 1) := by
    have := hh.holds.1
    rw [hn0, hrm, ← hl]; exact this
  have hls : ls.length = l.length := ho1.1
  have hwr := hh.writes
  have c2 : w.cell? ⟨pb, 2, none⟩ = some (.pointer (some ⟨d, 0, none⟩)) := h.blk.cell 2
  have H := Lib.hid h
  have HO := Lib.hid (And.intro ho1 (And.intro ho2 (And.intro ho3 (And.intro ho4 (And.intro hst' (And.intro hls hl))))))
  have HN := Lib.hid (And.intro hn0 (And.intro hrm (And.intro hdn (And.intro hl1 (And.intro hf (And.intro hr (And.intro hm hwr)))))))
  clear h hh hl hf hr hm ho1 ho2 ho3 ho4 hst' hls hl1 hn0 hrm hdn hwr
  go_enter Tryz.func18, Tryz.ntmps18
  go_wp2_with fail
  refine (dstart_calls d L s.st.disk w H.out.st.disk).mono ?_
  rintro e w1 ⟨rfl, hD1, hc1⟩
  have hb1 : Blk w1 pb (srvV s.slots s.room d sb tb s.broken) 79 := hc1.blk H.out.blk (fun e => H.out.npb (.inr (.inr (.inl e))))
  have c0 : w1.drew.cell? ⟨pb, 0, none⟩ = some (.int .i64 n0) := by rw [HN.out.1]; exact hb1.cell 0
  have c1 : w1.drew.cell? ⟨pb, 1, none⟩ = some (.int .i64 rm) := by rw [HN.out.2.1]; exact hb1.cell 1
  have c2 : w1.drew.cell? ⟨pb, 2, none⟩ = some (.pointer (some ⟨d, 0, none⟩)) := hb1.cell 2
  have hT1 : Tab w1 := H.out.st.tab.chg hc1 (fun e => H.out.st.ntab (by rw [e]; exact .inl (H.out.foot d (.inr (.inr (.inl rfl))))))
  have HH1 := Lib.hid (And.intro hb1 (And.intro hc1 (And.intro hD1 hT1)))
  clear hb1 hc1 hD1 hT1
  have hcall : Calls Tryz.prog 26 #[.pointer (some ⟨d, 0, none⟩), .int .i64 n0, .int .i64 rm] w1.drew fun e w4 => ∃ lb', e = .returned (.tuple #[.pointer (some ⟨w1.heap.size, 0, none⟩), .int .i64 0]) ∧ w1.heap.size < lb' ∧ Chg (fun b => b = d ∨ b = L) w1 w4 ∧ IsStore w4 (fun b => (C b ∨ X b) ∨ b = w1.heap.size ∨ b = lb') w1.heap.size lb' d L st' := by
    have hz := HH1.out.2.1.size
    have f1 : 1 ≤ n0 ∧ n0 ≤ 1024 := by
      have a := HN.out.1
      have b := HN.out.2.2.2.1
      have c := HO.out.2.2.2.2.2.2
      have d := HN.out.2.2.2.2.1
      omega
    have f2 : 1 ≤ rm ∧ rm ≤ 1024 := by
      have a := HN.out.2.1
      have b := HN.out.2.2.2.2.2.1
      omega
    refine (open_calls (fun b => C b ∨ X b) d L s.st.disk.start n0 rm w1.drew HH1.out.2.2.2 ⟨H.out.st.ntab, .inl (H.out.foot d (.inr (.inr (.inl rfl)))), .inl (H.out.foot L (.inr (.inr (.inr rfl)))), fun b hb => Nat.lt_of_lt_of_le (H.out.lt hb) hz⟩ HH1.out.2.2.1 (by simp; omega) (by simp; omega) HN.out.2.2.1 (by have := HN.out.2.2.2.2.2.2; show s.st.disk.writes < _; omega)).mono ?_
    rintro e w4 ⟨p, rfl, hc4, _, hp⟩
    have ho := HO.out.2.1
    rw [HO.out.2.2.2.2.2.2, ← HN.out.2.1, ← HN.out.1] at ho
    rw [ho] at hp ⊢
    rcases hp with ⟨hp, _⟩ | ⟨s2, lb', e1, rfl, e3, e4⟩
    · cases hp
    · cases e1
      exact ⟨lb', rfl, e3, ⟨hc4.os, hc4.tape, hc4.output, hc4.size, hc4.block⟩, e4⟩
  have HC := Lib.hid hcall
  clear hcall
  go_upto_region 2 with fail
  go_region_held3 (fun w' => w'.cell? ⟨pb, 0, none⟩ = some (.int .i64 n0) ∧ w'.cell? ⟨pb, 1, none⟩ = some (.int .i64 rm) ∧ w'.cell? ⟨pb, 2, none⟩ = some (.pointer (some ⟨d, 0, none⟩))) (first | exact ⟨c0, c1, c2⟩ | with_reducible assumption)
    (first
      | (go_at_call 26
         refine HC.out.mono ?_
         rintro e w4 ⟨lb', rfl, hlb, hc4, hS⟩
         have hb4 := hc4.blk HH1.out.1 (fun e => by rcases e with e | e; exact H.out.npb (.inr (.inr (.inl e))); exact H.out.npb (.inr (.inr (.inr e))))
         have hh : w4.cell? ⟨pb, 0, none⟩ = some (.int .i64 n0) ∧ w4.cell? ⟨pb, 1, none⟩ = some (.int .i64 rm) ∧ w4.cell? ⟨pb, 2, none⟩ = some (.pointer (some ⟨d, 0, none⟩)) := ⟨by rw [HN.out.1]; exact hb4.cell 0, by rw [HN.out.2.1]; exact hb4.cell 1, hb4.cell 2⟩
         have H4 := Lib.hid (And.intro hb4 (And.intro hlb (And.intro hc4 hS)))
         clear hb4 hlb hc4 hS))
  clear c0 c1 c2 hh
  have c5 : w4.cell? ⟨pb, 5, none⟩ = some (.bool s.broken) := H4.out.1.cell 5
  have f5 := H4.out.1.free 5
  have l4 := H4.out.1.lt
  go_upto_region 4 with fail
  have b5 : Blk (w4.setCell ⟨pb, 5, none⟩ (.bool false)) pb (srvV s.slots s.room d sb tb false) 79 := H4.out.1.set 5 (.bool false)
  obtain ⟨w5, hw5⟩ : ∃ x, x = w4.setCell ⟨pb, 5, none⟩ (.bool false) := ⟨_, rfl⟩
  rw [← hw5] at b5 ⊢
  have H5 := Lib.hid (And.intro hw5 b5)
  clear c5 f5 l4 b5 hw5
  go_wp2_with fail
  refine (new_calls w5).mono ?_
  rintro e w6 ⟨tb', rfl, hn1, hn2, hn3⟩
  have b6 := H5.out.2.kept hn3
  have c3 : w6.cell? ⟨pb, 3, none⟩ = some (.pointer (some ⟨sb, 0, none⟩)) := b6.cell 3
  have c4 : w6.cell? ⟨pb, 4, none⟩ = some (.pointer (some ⟨tb, 0, none⟩)) := b6.cell 4
  have f3 := b6.free 3
  have f4 := b6.free 4
  have l6 := b6.lt
  have H6 := Lib.hid (And.intro hn1 (And.intro hn2 hn3))
  clear hn1 hn2 hn3 b6
  go_upto_region 7 with fail
  obtain ⟨w7, hw7⟩ : ∃ x, x = (w6.setCell ⟨pb, 3, none⟩ (.pointer (some ⟨w1.heap.size, 0, none⟩))).setCell ⟨pb, 4, none⟩ (.pointer (some ⟨tb', 0, none⟩)) := ⟨_, rfl⟩
  rw [← hw7]
  have H7 := Lib.hid (rest_is H.out HH1.out.2.1 H4.out.2.2.1 H4.out.2.1 H4.out.2.2.2 H5.out.1 H6.out.2.2 H6.out.1 H6.out.2.1 hw7)
  clear hw7 c3 c4 f3 f4 l6
  obtain ⟨C7, hC7, hS7⟩ := H7.out
  obtain ⟨s7, hs7⟩ : ∃ x : SrvS, x = { s with st := st', tab := [], broken := false } := ⟨_, rfl⟩
  rw [← hs7] at hC7
  have hst7 : s7.st = st' := by rw [hs7]
  have H8 := Lib.hid (And.intro hC7 (And.intro hS7 (And.intro hs7 hst7)))
  clear hC7 hS7 hs7 hst7 H7
  go_wp2_with fail
  refine (indexes_calls C7 X pb s7 w7 H8.out.1 (by rw [H8.out.2.2.2]; exact HO.out.2.2.1.recs.size)).mono ?_
  rintro e w8 ⟨vo, R, rfl, hO, hR, hb8⟩
  obtain ⟨oa, oc, rfl⟩ := hO.slice
  obtain ⟨n, hn⟩ : ∃ n, n = R.length := ⟨_, rfl⟩
  rw [← hn] at hO ⊢
  obtain ⟨fl, hfl⟩ : ∃ f : Look, f = Sto.look st'.recs := ⟨_, rfl⟩
  have hex0 : 0 < n → ∃ g, oa = some ⟨g, 0, none⟩ ∧ RowG bV WfK 16 44 w8 w7.heap.size g n oc R := fun h0 => by
    obtain ⟨g, cap, e, hr⟩ := hO.ex (by omega)
    injection e with ea en ec
    rw [← ec, ← hn] at hr
    exact ⟨g, ea, hr⟩
  have hRst : ∀ k, k ∈ R ↔ ∃ r ∈ st'.recs, r.is = true ∧ ixOf r.name = k := fun k => by
    rw [hR.mem, H8.out.2.2.2]
    simp [HO.out.2.2.1.dead]
  have hn120 : n ≤ 120 := by
    have hsub : R.length ≤ (st'.recs.map fun r => ixOf r.name).length := by
      refine List.Nodup.length_le_of_subset hR.nodup fun k hk => ?_
      obtain ⟨r, h1, _, h3⟩ := (hRst k).1 hk
      exact List.mem_map.2 ⟨r, h1, h3⟩
    rw [List.length_map] at hsub
    have a := HN.out.2.2.2.2.1
    have b := HO.out.2.2.2.2.2.2
    have c := HO.out.2.2.2.2.2.1
    have d : st'.recs = ls := by rw [HO.out.2.2.2.2.1]
    rw [d] at hsub
    omega
  have h98 := H8.out.1.below hb8
  have HR := Lib.hid (And.intro hex0 (And.intro hR.nodup (And.intro hRst (And.intro hfl (And.intro hb8 hn)))))
  have H9 := Lib.hid h98
  have hne9 : ∀ g, (Value.slice oa n oc).ownBlock = some g → ¬ C7 g := fun g hg hC => by
    have h1 := (hO.own.lt g hg).1
    have h2 := H8.out.1.lt (.inl hC)
    omega
  have HNE := Lib.hid hne9
  clear hO hR hb8 hn hfl hex0 hRst h98 hne9
  go_upto_region 8 with fail
  go_loopw [49] (fun vi wr => ∃ (i : Nat) (lt : List Les) (Cr : Nat → Prop), i ≤ n ∧ vi = .int .i64 i ∧ Hid (IsSrv wr Cr X pb { s7 with tab := lt } ∧ SChg C7 Cr w8 wr ∧ RestI fl R i lt ∧ (0 < n → ∃ g, oa = some ⟨g, 0, none⟩ ∧ ¬ Cr g ∧ RowG bV WfK 16 44 wr w7.heap.size g n oc R))) (fun vi _ => n - (intOf vi).toNat)
  case atStart =>
    have h9 := H9.out
    have e : { s7 with tab := [] } = s7 := by rw [H8.out.2.2.1]
    refine ⟨0, [], C7, Nat.zero_le _, rfl, by rw [e]; exact h9, SChg.of_below (Below.refl _ _), RestI.zero _ _, fun h0 => ?_⟩
    obtain ⟨g, rfl, hr⟩ := HR.out.1 h0
    exact ⟨g, rfl, HNE.out g rfl, hr⟩
  case round =>
    obtain ⟨i, lt, Cr, hi0, rfl, G⟩ := hrel
    by_cases hin : i < n
    · obtain ⟨g, rfl, hgC, hrow⟩ := G.out.2.2.2 (by omega)
      have hx : R[i]? = some (R[i]'(by have := HR.out.2.2.2.2.2; omega)) := by simp
      generalize R[i]'(by have := HR.out.2.2.2.2.2; omega) = x at hx
      have wx : x.length = 16 := hrow.wf x (List.mem_of_getElem? hx)
      have rx := hrow.read ecK hx
      have t1 : HasK 16 wr g (i * 16) := hrow.there hin
      have ax : AllK 16 (bV x) := ⟨(key_in wx).2, bV_one x⟩
      have gl : g < wr.heap.size := hrow.lt
      have i0 : (0 : Int) ≤ (i : Int) := by omega
      have i1 : (i : Int) < (n : Int) := by omega
      obtain ⟨ck, hck⟩ : ∃ c, c = bV x := ⟨_, rfl⟩
      rw [← hck] at rx ax
      have k2 : ck.length = 16 := ax.1
      have HX := Lib.hid (And.intro hx (And.intro hrow (And.intro hck (And.intro wx hgC))))
      have hu16 := Tryz.underlying44
      have hi16 : (Tryz.prog.info? 44).map (·.size) = some ck.length := by rw [ax.1]; exact i16
      clear hx hrow hck wx hgC
      go_upto_region 10 with fail
      have hbk : Blk (wr.alloc (.cells ck.toArray 44)) wr.heap.size ck.toArray 44 := Blk.new _ _ _
      have hbb : Below wr.heap.size wr (wr.alloc (.cells ck.toArray 44)) := (Below.refl _ _).alloc (Nat.le_refl _) _
      obtain ⟨wa, hwa⟩ : ∃ q, q = wr.alloc (.cells ck.toArray 44) := ⟨_, rfl⟩
      obtain ⟨p6, hp6⟩ : ∃ q, q = wr.heap.size := ⟨_, rfl⟩
      rw [← hwa] at hbk hbb ⊢
      rw [← hp6] at hbk ⊢
      obtain ⟨sb3, lb3, d3, L3, tb3, v3, hA⟩ := G.out.1
      have hA1 := hA.below hbb
      have hget := (St.get_look (s := st') (by have := HO.out.2.2.1.dead; exact this) (leaseN x))
      rw [← HR.out.2.2.2.1] at hget
      have c3 : wa.drew.cell? ⟨pb, 3, none⟩ = some (.pointer (some ⟨sb3, 0, none⟩)) := hA1.blk.cell 3
      have r3 : wa.drew.rangeAt p6 0 ck := fun j v hj => by
        rw [(hbk.drew).cell, Nat.zero_add]
        simpa using hj
      have HA := Lib.hid (And.intro hA (And.intro hA1 (And.intro hbk (And.intro hbb (And.intro hp6 (H8.out.2.2.2 ▸ hget))))))
      clear hwa hp6 hbk hbb hA hA1 hget
      go_region_held3 (fun w' => w'.cell? ⟨pb, 3, none⟩ = some (.pointer (some ⟨sb3, 0, none⟩)) ∧ w'.rangeAt p6 0 ck) (first | exact ⟨c3, r3⟩ | with_reducible assumption)
        (first
          | (go_at_call 42
             refine (show Calls _ _ _ _ _ from (by rw [HX.out.2.2.1]; exact leases_calls x HX.out.2.2.2.1 wa.drew)).mono ?_
             rintro e w2 ⟨rfl, hb2⟩
             have hb2 : Below wa.heap.size wa w2 := of_drew hb2
             have hh : w2.cell? ⟨pb, 3, none⟩ = some (.pointer (some ⟨sb3, 0, none⟩)) ∧ w2.rangeAt p6 0 ck := ⟨(HA.out.2.1.below hb2).blk.cell 3, fun j v hj => by
               rw [(HA.out.2.2.1.kept hb2).cell, Nat.zero_add]
               simpa using hj⟩
             have HB2 := Lib.hid hb2
             clear hb2)
          | (go_at_call 41
             refine (sget_calls _ sb3 lb3 d3 L3 s7.st (leaseN x) w2 (HA.out.2.1.below HB2.out).st).mono ?_
             rintro e wg ⟨hb4, vg, rfl, hvg⟩
             have hh : wg.cell? ⟨pb, 3, none⟩ = some (.pointer (some ⟨sb3, 0, none⟩)) ∧ wg.rangeAt p6 0 ck := ⟨((HA.out.2.1.below HB2.out).below hb4).blk.cell 3, fun j v hj => by
               rw [((HA.out.2.2.1.kept HB2.out).kept hb4).cell, Nat.zero_add]
               simpa using hj⟩
             have HG := Lib.hid (And.intro (HB2.out.trans (hb4.mono HB2.out.size)) hvg)
             clear hb4 hvg))
      clear c3 r3 hh
      have hrow2 : RowG bV WfK 16 44 wg w7.heap.size g n oc R := HX.out.2.1.chg (S := fun _ => False) (Chg.of_below (HA.out.2.2.2.1.trans (HG.out.1.mono HA.out.2.2.2.1.size))) (fun h => h)
      obtain ⟨o, ho⟩ : ∃ o, o = s7.st.get (leaseN x) := ⟨_, rfl⟩
      have hvg := HG.out.2
      rw [← ho] at hvg ⊢
      have HO2 := Lib.hid (And.intro (ho.trans HA.out.2.2.2.2.2) (And.intro hrow2 hvg))
      have HA2 := Lib.hid (And.intro (HA.out.2.1.below HG.out.1) (And.intro (HA.out.2.2.1.kept HG.out.1) (HA.out.2.2.2.1.trans (HG.out.1.mono HA.out.2.2.2.1.size))))
      clear ho hvg hrow2
      cases o with
      | none =>
        rw [Option.isSome_none]
        go_wp2_with fail
        exact ⟨⟨i + 1, lt, Cr, by omega, by simp, ⟨_, _, _, _, _, _, HA2.out.1⟩, G.out.2.1.post HA2.out.2.2, G.out.2.2.1.none HR.out.2.1 HX.out.1 HO2.out.1.symm, fun _ => ⟨g, rfl, HX.out.2.2.2.2, HO2.out.2.1⟩⟩, by show n - ((i : Int) + 1).toNat < n - (i : Int).toNat; omega⟩
      | some bs =>
        rw [Option.isSome_some]
        have hok : RecOk (leaseN x) bs := HO.out.2.2.1.recs.look (by rw [← HR.out.2.2.2.1]; exact HO2.out.1.symm)
        obtain ⟨out, rfl, hle⟩ := hok.lease_of
        have hvg := HO2.out.2.2
        rw [Option.getD_some] at hvg
        have HL := Lib.hid (And.intro hle hvg)
        clear hok hle hvg
        have hlt : ∀ y ∈ lt, y.ix ≠ x := fun y hy e => by
          have h1 := G.out.2.2.1.ixs y hy
          obtain ⟨q, hq⟩ := List.mem_iff_getElem?.1 h1
          rw [List.getElem?_take] at hq
          split at hq
          · rw [e] at hq
            have := nodup_at HR.out.2.1 hq HX.out.1
            omega
          · cases hq
        have hset := set_calls wg.drew tb3 v3 lt x vg out (HA2.out.1.heap.below (Below.refl _ _).drew) G.out.2.2.1.good (by have := G.out.2.2.1.len; omega) hlt HL.out.2.bys HL.out.1.wf HL.out.1.few HL.out.1.nodup HL.out.1.up HX.out.2.2.2.1 HA2.out.1.tab
        rw [← HX.out.2.2.1] at hset
        have HSET := Lib.hid hset
        clear hset hlt
        have c4 : wg.drew.cell? ⟨pb, 4, none⟩ = some (.pointer (some ⟨tb3, 0, none⟩)) := HA2.out.1.blk.cell 4
        have r3 : wg.drew.rangeAt p6 0 ck := fun j v hj => by
          rw [(HA2.out.2.1.drew).cell, Nat.zero_add]
          simpa using hj
        go_upto_region 12 with fail
        go_region_held3 (fun w' => w'.cell? ⟨pb, 4, none⟩ = some (.pointer (some ⟨tb3, 0, none⟩)) ∧ w'.rangeAt p6 0 ck) (first | exact ⟨c4, r3⟩ | with_reducible assumption)
          (first
            | (go_at_call 43
               refine HSET.out.mono ?_
               rintro r ws ⟨v', l', rfl, hh', hg', hp', hc'⟩
               have hA4 := HA2.out.1.tchg (hc'.pre (Below.refl _ _).drew) hh' hg'
               have hk4 := hA4.2.1.blk HA2.out.2.1 (fun hC => by have := HA.out.1.lt (.inl hC); have := HA.out.2.2.2.2.1; omega)
               have hh : ws.cell? ⟨pb, 4, none⟩ = some (.pointer (some ⟨tb3, 0, none⟩)) ∧ ws.rangeAt p6 0 ck := ⟨hA4.1.blk.cell 4, fun j v hj => by
                 rw [hk4.cell, Nat.zero_add]
                 simpa using hj⟩
               have HS := Lib.hid (And.intro hA4 (And.intro hg' (And.intro hp' (HO2.out.2.1.chg hA4.2.1 HX.out.2.2.2.2))))
               clear hh' hg' hp' hc' hA4 hk4))
        go_wp2_with fail
        have hR4 := G.out.2.2.1.some HR.out.2.1 HX.out.1 HO2.out.1.symm HL.out.1 HS.out.2.1 HS.out.2.2.1
        refine ⟨⟨i + 1, l', _, by omega, by simp, ⟨_, _, _, _, _, _, HS.out.1.1⟩, (G.out.2.1.post HA2.out.2.2).trans HS.out.1.2, hR4.1, fun _ => ⟨g, rfl, fun hC => ?_, HS.out.2.2.2⟩⟩, by show n - ((i : Int) + 1).toNat < n - (i : Int).toNat; omega⟩
        rcases HS.out.1.2.2 g hC with h1 | h1
        · exact HX.out.2.2.2.2 h1
        · have h2 := HO2.out.2.1.lt
          omega
    · go_wp2_with fail
      go_ret
      have hfull : R.take i = R := List.take_of_length_le (by have := HR.out.2.2.2.2.2; omega)
      have hRI := G.out.2.2.1
      rw [HR.out.2.2.2.1] at hRI
      obtain ⟨_, _, _, _, _, _, hA⟩ := id G.out.1
      have hL := HO.out.2.2.1
      have hs7 := H8.out.2.2.1
      refine ⟨Cr, { s7 with tab := lt }, rfl, ⟨⟨?_, hRI.good, hA.heap.tab.wf, ?_, by rw [hs7], ?_, ?_, ?_⟩, ?_, ?_, by rw [hs7], by rw [hs7], ?_⟩, G.out.1, (H8.out.2.1.post HR.out.2.2.2.2.1).trans G.out.2.1⟩
      · rw [hs7]; exact hL
      · rw [hs7]; exact hRI.done hfull HR.out.2.2.1
      · rw [hs7]; show s.slots = st'.recs.length; rw [HO.out.2.2.2.2.1]; show s.slots = ls.length; rw [HO.out.2.2.2.2.2.1, HO.out.2.2.2.2.2.2]
      · rw [hs7]; show s.room = st'.room; rw [HO.out.2.2.2.2.1]
      · rw [hs7]; exact HN.out.2.2.2.2.1
      · rw [hs7]; show Sto.Thin l st'.recs; rw [HO.out.2.2.2.2.1]; exact HO.out.1
      · rw [hs7]; show st'.disk.stops = false; rw [HO.out.2.2.2.2.1]; exact HO.out.2.2.2.1
      · rw [hs7]
        show openR s.st.disk.start s.slots s.room = (0, st'.disk, some st')
        rw [← HO.out.2.2.2.2.2.2, HO.out.2.1, HO.out.2.2.2.2.1]
end Go.Proofs.YtclhgokchcklbaaGreatDoor
end
section
namespace Go.Mem
open Go Go.RowKit Gf Lea
structure RF where
  kind : Value
  ix : List Value
  sec : List Value
  ends : Value
  en : List Value
  vt : Value
  vb : Value
def RF.V (f : RF) : List Value := f.kind :: (f.ix ++ (f.sec ++ (f.ends :: (f.en ++ [f.vt, f.vb]))))
def zk : List Value := bV z16
theorem zk_eq : zk = bV z16 := rfl
def RF.zero : RF := ⟨.int .i64 0, zk, zk, .int .i64 0, zk, .slice none 0 0, .slice none 0 0⟩
def RF.set (f : RF) : Nat → Value → RF
  | 0, v => { f with kind := v }
  | 1, v => { f with ix := aggL v }
  | 2, v => { f with sec := aggL v }
  | 3, v => { f with ends := v }
  | 4, v => { f with en := aggL v }
  | 5, v => { f with vt := v }
  | 6, v => { f with vb := v }
  | _, _ => f
def okAt : Nat → Value → Bool
  | 0, v => v.oneCell'
  | 1, v => aggIs v && decide ((aggL v).length = 16)
  | 2, v => aggIs v && decide ((aggL v).length = 16)
  | 3, v => v.oneCell'
  | 4, v => aggIs v && decide ((aggL v).length = 16)
  | 5, v => v.oneCell'
  | 6, v => v.oneCell'
  | _, _ => false
structure RF.Ok (f : RF) : Prop where
  ix : f.ix.length = 16
  sec : f.sec.length = 16
  en : f.en.length = 16
theorem zk_len : zk.length = 16 := by rw [zk_eq, bV_len]; rfl
theorem RF.zero_ok : RF.zero.Ok := ⟨zk_len, zk_len, zk_len⟩
theorem RF.Ok.set {f : RF} (h : f.Ok) {i : Nat} {v : Value} (hv : okAt i v = true) : (f.set i v).Ok := by
  match i, hv with
  | 0, _ => exact ⟨h.ix, h.sec, h.en⟩
  | 1, hv => simp [okAt] at hv; exact ⟨hv.2, h.sec, h.en⟩
  | 2, hv => simp [okAt] at hv; exact ⟨h.ix, hv.2, h.en⟩
  | 3, _ => exact ⟨h.ix, h.sec, h.en⟩
  | 4, hv => simp [okAt] at hv; exact ⟨h.ix, h.sec, hv.2⟩
  | 5, _ => exact ⟨h.ix, h.sec, h.en⟩
  | 6, _ => exact ⟨h.ix, h.sec, h.en⟩
theorem RF.Ok.len {f : RF} (h : f.Ok) : f.V.length = 52 := by
  unfold RF.V
  simp [h.ix, h.sec, h.en]
theorem cells_one {v : Value} (h : v.oneCell' = true) : v.cells = #[v] := by
  cases v <;> first | rfl | cases h
theorem cells_agg {v : Value} (h : aggIs v = true) : v.cells = (aggL v).toArray := by
  cases v <;> first | rfl | cases h
theorem fold_cells (off : Nat) (q c : Array Value) (h : off + q.size ≤ c.size) : q.zipIdx.foldl (fun cs (x : Value × Nat) => cs.setIfInBounds (off + x.2) x.1) c = (c.toList.take off ++ q.toList ++ c.toList.drop (off + q.size)).toArray := by
  have e : q.zipIdx.foldl (fun cs (x : Value × Nat) => cs.setIfInBounds (off + x.2) x.1) c = (q.toList.zipIdx 0).foldl (fun cs (x : Value × Nat) => cs.setIfInBounds (off + x.2) x.1) c := by
    rw [← Array.foldl_toList, Array.toList_zipIdx]
  obtain ⟨h1, h2⟩ := Great.foldl_set off q.toList 0 c
  rw [e]
  apply Array.ext_getElem?
  intro k
  rw [h2]
  simp only [Nat.add_zero, Array.length_toList, List.getElem?_toArray]
  by_cases hk : k < off
  · rw [if_neg (by omega), List.getElem?_append_left (by simp; omega), List.getElem?_append_left (by simp; omega), List.getElem?_take, if_pos hk, Array.getElem?_toList]
  · by_cases hk2 : k < off + q.size
    · rw [if_pos (by omega), List.getElem?_append_left (by simp; omega), List.getElem?_append_right (by simp; omega)]
      simp only [List.length_take, Array.length_toList, Array.getElem?_toList]
      congr 1
      omega
    · rw [if_neg (by omega), List.getElem?_append_right (by simp; omega)]
      simp only [List.length_append, List.length_take, Array.length_toList, List.getElem?_drop]
      rw [← Array.getElem?_toList]
      congr 1
      omega
def reqPl : List (Nat × Nat) := [(0, 1), (1, 16), (17, 16), (33, 1), (34, 16), (50, 1), (51, 1)]
theorem take_app {a b : List Value} {n : Nat} (h : a.length = n) : (a ++ b).take n = a := by rw [List.take_append_of_le_length (by omega), List.take_of_length_le (by omega)]
theorem drop_app {a b : List Value} {n : Nat} (h : a.length = n) : (a ++ b).drop n = b := by rw [List.drop_append_of_le_length (by omega), List.drop_of_length_le (by omega), List.nil_append]
theorem set_mid {a b c d : List Value} {n m : Nat} (h1 : a.length = n) (h2 : b.length = m) : ((a ++ (b ++ c)).take n ++ d ++ (a ++ (b ++ c)).drop (n + m)) = a ++ (d ++ c) := by
  rw [take_app h1, ← List.append_assoc a b c, drop_app (by rw [List.length_append]; omega), List.append_assoc]
theorem fill_step {f : RF} (h : f.Ok) {i : Nat} {v : Value} (hv : okAt i v = true) (rest : List (Nat × Value)) : Instr.fill (reqPl.toArray[·]?) f.V.toArray ((i, v) :: rest) = Instr.fill (reqPl.toArray[·]?) (f.set i v).V.toArray rest := by
  have hl := h.len
  obtain ⟨k, ix, sec, e, en, vt, vb⟩ := f
  obtain ⟨h1, h2, h3⟩ := h
  simp only at h1 h2 h3
  have key : ∀ (off n : Nat) (q : List Value), reqPl.toArray[i]? = some (off, n) → v.cells = q.toArray → q.length = n → off + n ≤ 52 →
      Instr.fill (reqPl.toArray[·]?) (RF.V ⟨k, ix, sec, e, en, vt, vb⟩).toArray ((i, v) :: rest) = Instr.fill (reqPl.toArray[·]?) ((RF.V ⟨k, ix, sec, e, en, vt, vb⟩).take off ++ q ++ (RF.V ⟨k, ix, sec, e, en, vt, vb⟩).drop (off + n)).toArray rest := fun off n q e1 e2 e3 e4 => by
    rw [Instr.fill]
    simp only [e1, e2]
    rw [if_neg (by simp [hl, e3]; omega), fold_cells _ _ _ (by simp [hl]; omega)]
    simp [e3]
  match i, hv with
  | 0, hv => rw [key 0 1 [v] rfl (cells_one hv) rfl (by decide)]; rfl
  | 1, hv =>
    simp only [okAt, Bool.and_eq_true, decide_eq_true_eq] at hv
    rw [key 1 16 (aggL v) rfl (cells_agg hv.1) hv.2 (by decide)]
    exact congrArg (fun l => Instr.fill _ (List.toArray l) rest) (set_mid (a := [k]) (b := ix) rfl h1)
  | 2, hv =>
    simp only [okAt, Bool.and_eq_true, decide_eq_true_eq] at hv
    rw [key 17 16 (aggL v) rfl (cells_agg hv.1) hv.2 (by decide)]
    have : RF.V ⟨k, ix, sec, e, en, vt, vb⟩ = (k :: ix) ++ (sec ++ (e :: (en ++ [vt, vb]))) := by simp [RF.V]
    rw [this, set_mid (by simp; omega) h2]
    simp [RF.V, RF.set]
  | 3, hv =>
    rw [key 33 1 [v] rfl (cells_one hv) rfl (by decide)]
    have : RF.V ⟨k, ix, sec, e, en, vt, vb⟩ = (k :: (ix ++ sec)) ++ ([e] ++ (en ++ [vt, vb])) := by simp [RF.V]
    rw [this, set_mid (m := 1) (by simp; omega) rfl]
    simp [RF.V, RF.set]
  | 4, hv =>
    simp only [okAt, Bool.and_eq_true, decide_eq_true_eq] at hv
    rw [key 34 16 (aggL v) rfl (cells_agg hv.1) hv.2 (by decide)]
    have : RF.V ⟨k, ix, sec, e, en, vt, vb⟩ = (k :: (ix ++ (sec ++ [e]))) ++ (en ++ [vt, vb]) := by simp [RF.V]
    rw [this, set_mid (by simp; omega) h3]
    simp [RF.V, RF.set]
  | 5, hv =>
    rw [key 50 1 [v] rfl (cells_one hv) rfl (by decide)]
    have : RF.V ⟨k, ix, sec, e, en, vt, vb⟩ = (k :: (ix ++ (sec ++ (e :: en)))) ++ ([vt] ++ [vb]) := by simp [RF.V]
    rw [this, set_mid (m := 1) (by simp; omega) rfl]
    simp [RF.V, RF.set]
  | 6, hv =>
    rw [key 51 1 [v] rfl (cells_one hv) rfl (by decide)]
    have : RF.V ⟨k, ix, sec, e, en, vt, vb⟩ = (k :: (ix ++ (sec ++ (e :: (en ++ [vt]))))) ++ ([vb] ++ []) := by simp [RF.V]
    rw [this, set_mid (m := 1) (by simp; omega) rfl]
    simp [RF.V, RF.set]
theorem fill_req : ∀ (l : List (Nat × Value)) (f : RF), f.Ok → (∀ p ∈ l, okAt p.1 p.2 = true) → Instr.fill (reqPl.toArray[·]?) f.V.toArray l = some (l.foldl (fun f p => f.set p.1 p.2) f).V.toArray
  | [], f, _, _ => rfl
  | (i, v) :: l, f, h, hl => by
    rw [fill_step h (hl (i, v) (by simp)), fill_req l _ (h.set (hl (i, v) (by simp))) (fun p hp => hl p (List.mem_cons_of_mem _ hp))]
    rfl
section
variable (k e vt vb v : Value) (ix sec en : List Value)
theorem rfs0 : RF.set ⟨k, ix, sec, e, en, vt, vb⟩ 0 v = ⟨v, ix, sec, e, en, vt, vb⟩ := rfl
theorem rfs1 : RF.set ⟨k, ix, sec, e, en, vt, vb⟩ 1 v = ⟨k, aggL v, sec, e, en, vt, vb⟩ := rfl
theorem rfs2 : RF.set ⟨k, ix, sec, e, en, vt, vb⟩ 2 v = ⟨k, ix, aggL v, e, en, vt, vb⟩ := rfl
theorem rfs3 : RF.set ⟨k, ix, sec, e, en, vt, vb⟩ 3 v = ⟨k, ix, sec, v, en, vt, vb⟩ := rfl
theorem rfs4 : RF.set ⟨k, ix, sec, e, en, vt, vb⟩ 4 v = ⟨k, ix, sec, e, aggL v, vt, vb⟩ := rfl
theorem rfs5 : RF.set ⟨k, ix, sec, e, en, vt, vb⟩ 5 v = ⟨k, ix, sec, e, en, v, vb⟩ := rfl
theorem rfs6 : RF.set ⟨k, ix, sec, e, en, vt, vb⟩ 6 v = ⟨k, ix, sec, e, en, vt, v⟩ := rfl
theorem rfz : RF.zero = ⟨.int .i64 0, zk, zk, .int .i64 0, zk, .slice none 0 0, .slice none 0 0⟩ := rfl
theorem ok0 : okAt 0 v = v.oneCell' := rfl
theorem ok1 : okAt 1 v = (aggIs v && decide ((aggL v).length = 16)) := rfl
theorem ok2 : okAt 2 v = (aggIs v && decide ((aggL v).length = 16)) := rfl
theorem ok3 : okAt 3 v = v.oneCell' := rfl
theorem ok4 : okAt 4 v = (aggIs v && decide ((aggL v).length = 16)) := rfl
theorem ok5 : okAt 5 v = v.oneCell' := rfl
theorem ok6 : okAt 6 v = v.oneCell' := rfl
end
end Go.Mem
namespace Go.Proofs.YtclhgokchcklbaaGreatDoor
open Go Go.RowKit Go.Mem Gf Lea
theorem built_req (l : List (Nat × Value)) (h : ∀ p ∈ l, okAt p.1 p.2 = true) : Tryz.prog.built 47 l = some (l.foldl (fun f p => f.set p.1 p.2) RF.zero).V.toArray := by
  have h0 : Tryz.prog.built 47 l = Instr.fill (reqPl.toArray[·]?) RF.zero.V.toArray l := by
    unfold Program.built
    kernel_rfl
  rw [h0, fill_req l _ RF.zero_ok h]
def reqOf (a : Act) (l : List (Nat × Operand)) : RF := l.foldl (fun f p => f.set p.1 (a.eval p.2)) RF.zero
def reqFit (a : Act) (l : List (Nat × Operand)) : Bool := l.all fun p => okAt p.1 (a.eval p.2)
theorem build_req (dst : Option Tmp) (l : List (Nat × Operand)) (ty : TypeId) (pos : String) (af : Array Edge) (gd : Option (Tmp × Bool)) (a : Act) (w : World) (K : Act → World → Prop) (Q : Exit → Act → World → Prop) (h : reqFit a l = true) :
    Oper.wp Tryz.prog ⟨dst, .build 47 l.toArray, ty, pos, af, gd⟩ a w K Q = K (a.put dst (.agg (reqOf a l).V.toArray)) w := by
  have hb := built_req (l.map fun p => (p.1, a.eval p.2)) (fun p hp => by
    obtain ⟨q, hq, rfl⟩ := List.mem_map.1 hp
    exact List.all_eq_true.1 h q hq)
  have e : (l.map fun p => (p.1, a.eval p.2)).foldl (fun (f : RF) p => f.set p.1 p.2) RF.zero = reqOf a l := by
    unfold reqOf
    rw [List.foldl_map]
  rw [e] at hb
  unfold Oper.wp execOp
  have hr := run_build (P := Tryz.prog) w 47 (l.map fun p => (p.1, a.eval p.2)).toArray (reqOf a l).V.toArray (by exact hb)
  have em : l.toArray.map (fun p => (p.1, a.eval p.2)) = (l.map fun p => (p.1, a.eval p.2)).toArray := by simp
  simp only [Sem.run_bind]
  first
    | (rw [show (Array.map (fun x => (x.1, a.eval x.2)) l.toArray) = (l.map fun p => (p.1, a.eval p.2)).toArray from em]; simp only [hr, Result.andThen_ok]; rfl)
    | (simp only [em, hr, Result.andThen_ok]; rfl)
theorem build_req_ct (dst : Option Tmp) (i0 : Nat) (c0 : Value) (i1 : Nat) (x1 : Operand) (ty : TypeId) (pos : String) (af : Array Edge) (gd : Option (Tmp × Bool)) (a : Act) (w : World) (K : Act → World → Prop) (Q : Exit → Act → World → Prop) (h : reqFit a [(i0, .const c0), (i1, x1)] = true) :
    Oper.wp Tryz.prog ⟨dst, .build 47 #[(i0, .const c0), (i1, x1)], ty, pos, af, gd⟩ a w K Q = K (a.put dst (.agg (reqOf a [(i0, .const c0), (i1, x1)]).V.toArray)) w := build_req dst [(i0, .const c0), (i1, x1)] ty pos af gd a w K Q h
theorem build_req_cct (dst : Option Tmp) (i0 : Nat) (c0 : Value) (i1 : Nat) (c1 : Value) (i2 : Nat) (x2 : Operand) (ty : TypeId) (pos : String) (af : Array Edge) (gd : Option (Tmp × Bool)) (a : Act) (w : World) (K : Act → World → Prop) (Q : Exit → Act → World → Prop) (h : reqFit a [(i0, .const c0), (i1, .const c1), (i2, x2)] = true) :
    Oper.wp Tryz.prog ⟨dst, .build 47 #[(i0, .const c0), (i1, .const c1), (i2, x2)], ty, pos, af, gd⟩ a w K Q = K (a.put dst (.agg (reqOf a [(i0, .const c0), (i1, .const c1), (i2, x2)]).V.toArray)) w := build_req dst [(i0, .const c0), (i1, .const c1), (i2, x2)] ty pos af gd a w K Q h
theorem build_req_cctt (dst : Option Tmp) (i0 : Nat) (c0 : Value) (i1 : Nat) (c1 : Value) (i2 : Nat) (x2 : Operand) (i3 : Nat) (x3 : Operand) (ty : TypeId) (pos : String) (af : Array Edge) (gd : Option (Tmp × Bool)) (a : Act) (w : World) (K : Act → World → Prop) (Q : Exit → Act → World → Prop) (h : reqFit a [(i0, .const c0), (i1, .const c1), (i2, x2), (i3, x3)] = true) :
    Oper.wp Tryz.prog ⟨dst, .build 47 #[(i0, .const c0), (i1, .const c1), (i2, x2), (i3, x3)], ty, pos, af, gd⟩ a w K Q = K (a.put dst (.agg (reqOf a [(i0, .const c0), (i1, .const c1), (i2, x2), (i3, x3)]).V.toArray)) w := build_req dst [(i0, .const c0), (i1, .const c1), (i2, x2), (i3, x3)] ty pos af gd a w K Q h
end Go.Proofs.YtclhgokchcklbaaGreatDoor
end
section
namespace Go.Proofs.YtclhgokchcklbaaGreatDoor
open Go Go.RowKit Go.Mem Gf Lea
set_option linter.unusedVariables false
structure SrvL (w0 w : World) (C : Nat → Prop) (pb : Nat) (s : SrvS) : Prop where
  srv : IsSrv w C (fun _ => False) pb s
  bel : Below w0.heap.size w0 w
  c1 : ∀ b, C b → w0.heap.size ≤ b
section
variable {w0 w w' : World} {C C' : Nat → Prop} {pb : Nat} {s s' : SrvS}
theorem SrvL.step (h : SrvL w0 w C pb s) (hb : Below w.heap.size w w') : SrvL w0 w' C pb s := ⟨h.srv.below hb, h.bel.trans (hb.mono h.bel.size), h.c1⟩
theorem SrvL.sch (h : SrvL w0 w C pb s) (hs : IsSrv w' C' (fun _ => False) pb s') (hc : SChg C C' w w') : SrvL w0 w' C' pb s' :=
  ⟨hs, Chg.far h.bel hc.1 h.bel.size h.c1, fun b hb => by
    rcases hc.2 b hb with h1 | h1
    · exact h.c1 b h1
    · exact Nat.le_trans h.bel.size h1⟩
theorem SrvL.old (h : SrvL w0 w C pb s) {b : Nat} (hb : C b) : b < w.heap.size := h.srv.lt (.inl hb)
theorem BlAt.sch {v : Value} {l : List Blob} (h : BlAt w C v l) (hc : SChg C C' w w') : BlAt w' C' v l :=
  ((h.mono (M := fun b => C b ∨ C' b) (fun b hb => hb.elim .inl (hc.2 b))).chg hc.1 (fun b hb _ => .inl hb)).mono (fun b hb => .inl (.inr hb))
end
theorem do_answers {C X : Nat → Prop} {pb : Nat} {s : SrvS} {r : Req} (hr : r.Wf) {w : World} (h : IsSrv w C X pb s) (hB : s.dead = false) (k : Nat) (hk : handD k = true) (hkr : r.kind = (k : Int)) (R : Int → SrvS → Prop)
    (hP : ∀ w1 p4, Below w.heap.size w w1 → w.heap.size ≤ p4 → IsSrv w1 C (fun b => X b ∨ b = p4) pb s → Calls Tryz.prog (75 + (k - 1)) #[.pointer (some ⟨pb, 0, none⟩), .agg (reqV r).toArray] w1 (Answers C (fun b => X b ∨ b = p4) pb R w1)) :
    Calls Tryz.prog 15 #[.pointer (some ⟨pb, 0, none⟩), .agg (reqV r).toArray] w (Answers C X pb R w) := by
  refine do_calls C X pb s r hr w h hB k hk hkr _ fun w1 p4 hb h4 hb4 hs => ?_
  refine (hP w1 p4 hb h4 hs).mono ?_
  rintro e w2 ⟨C', err, s', rfl, hR, hs', hsc⟩
  have hk4 := hsc.1.blk hb4 (fun hC => by have := h.lt (.inl hC); omega)
  have hE := reply_end (x := .int .i64 err) (y := .slice none 0 0) hs' (hsc.pre hb) h4
  exact ⟨err, none, 0, 0, rfl, hk4, C', err, s', rfl, hR, hE.1, hE.2⟩
theorem do_gives {C X : Nat → Prop} {pb : Nat} {s : SrvS} {r : Req} (hr : r.Wf) {w : World} (h : IsSrv w C X pb s) (hB : s.dead = false) (k : Nat) (hk : handD k = true) (hkr : r.kind = (k : Int)) (l : List Blob)
    (hP : ∀ w1 p4, Below w.heap.size w w1 → w.heap.size ≤ p4 → IsSrv w1 C (fun b => X b ∨ b = p4) pb s → Calls Tryz.prog (75 + (k - 1)) #[.pointer (some ⟨pb, 0, none⟩), .agg (reqV r).toArray] w1 (Gives w1 l)) :
    Calls Tryz.prog 15 #[.pointer (some ⟨pb, 0, none⟩), .agg (reqV r).toArray] w (Gives w l) := by
  refine do_calls C X pb s r hr w h hB k hk hkr _ fun w1 p4 hb h4 hb4 hs => ?_
  refine (hP w1 p4 hb h4 hs).mono ?_
  rintro e w2 ⟨u, rfl, hO, hb2⟩
  obtain ⟨a, c, rfl, _⟩ := hO.slice
  have hk4 := hb4.kept hb2
  have hE := gives_end (x := .int .i64 0) (y := .slice a l.length c) hO hb hb2 h4 hb4.lt
  exact ⟨0, a, l.length, c, rfl, hk4, _, rfl, hE.1, hE.2⟩
section
variable {w0 w : World} {C : Nat → Prop} {pb : Nat} {s : SrvS}
theorem SrvL.put (h : SrvL w0 w C pb s) (hd : s.dead = false) (hB : SrvB s) (hw : s.st.disk.writes < 72057594037800000) {r : Req} (hr : r.Wf) (hk : r.kind = 2) {l : List Blob} (hl : BlAt w C r.vb l) (hz : ∀ x ∈ l, x.2.length ≤ 1000000) :
    Calls Tryz.prog 15 #[.pointer (some ⟨pb, 0, none⟩), .agg (reqV r).toArray] w fun e w' => ∃ C' err s', e = .returned (.agg #[.int .i64 err, .slice none 0 0]) ∧ PutSh s r l err s' ∧ SrvL w0 w' C' pb s' ∧ SChg C C' w w' := by
  refine (do_answers hr h.srv hd 2 rfl hk (PutSh s r l) fun w1 p4 hb h4 hs => ?_).mono ?_
  · have hl1 : BlAt w1 (fun b => C b ∨ (False ∨ b = p4)) r.vb l := BlAt.below (hl.mono (fun b hb' => hb'.elim .inl (fun h' => h'.elim (fun f => f.elim) (fun e => .inr (by rw [e]; exact h4))))) hb
    exact put_calls16 C _ pb s r l hr w1 hs hB hw hl1 hz
  · rintro e w' ⟨C', err, s', rfl, hR, hs', hsc⟩
    exact ⟨C', err, s', rfl, hR, h.sch hs' hsc, hsc⟩
theorem SrvL.slot (h : SrvL w0 w C pb s) (hd : s.dead = false) (hB : SrvB s) {r : Req} (hr : r.Wf) (hk : r.kind = 3) {o : Option (Key × List Blob)} (ho : ContIs s r.ix o) :
    Calls Tryz.prog 15 #[.pointer (some ⟨pb, 0, none⟩), .agg (reqV r).toArray] w (Gives w (contL o)) :=
  do_gives hr h.srv hd 3 rfl hk _ fun w1 p4 hb h4 hs => readSlot_calls C _ pb s r o hr w1 hs hB ho
end
theorem _root_.Go.Mem.SrvG.hold {m : Nat} {s : SrvS} (h : SrvG m s) : SHold m s.st.disk s.room s.st.recs := by
  rw [h.room]; exact h.st.hold
end Go.Proofs.YtclhgokchcklbaaGreatDoor
end
section
namespace Go.Proofs.YtclhgokchcklbaaGreatDoor
open Go Go.RowKit Go.Mem Gf Lea
set_option linter.unusedVariables false
attribute [local irreducible] RF.V zk reqV
attribute [local go_sem ↓] Go.wp_at_zero Go.wp_at_succ
attribute [local go_sem ↓] load_key build_req_ct
attribute [local go_sem] Value.oneCell' reqOf reqFit List.foldl_cons List.foldl_nil List.all_cons List.all_nil rfs0 rfs1 rfs2 rfs3 rfs4 rfs5 rfs6 rfz ok0 ok1 ok2 ok3 ok4 ok5 ok6
attribute [local go_sem] ptrB_eq ptrO_eq ptrIs_eq aggL_eq aggIs_eq readK_drew hasK_drew readK_alloc_past hasK_alloc_past readK_alloc_in hasK_alloc_in
section
variable {w0 w : World} {C : Nat → Prop} {pb : Nat} {s : SrvS}
def askV (k : Int) (ix : Key) : Req := ⟨k, ix, z16, 0, z16, .slice none 0 0, .slice none 0 0⟩
theorem askV_wf (k : Int) {ix : Key} (h : ix.length = 16) : (askV k ix).Wf := ⟨h, by show z16.length = 16; decide, by show z16.length = 16; decide⟩
unseal RF.V zk reqV in
theorem askV_eq (k : Int) (ix : Key) : RF.V ⟨.int .i64 k, bV ix, zk, .int .i64 0, zk, .slice none 0 0, .slice none 0 0⟩ = reqV (askV k ix) := rfl
theorem fld_reply0 (a b : Value) (w : World) : (Instr.field 49 (.agg #[a, b]) 0).run Tryz.prog w = .ok a w := by kernel_rfl
theorem fld_reply1 (a b : Value) (w : World) : (Instr.field 49 (.agg #[a, b]) 1).run Tryz.prog w = .ok b w := by kernel_rfl
attribute [local go_sem] fld_reply0 fld_reply1
set_option maxRecDepth 100000 in
set_option maxHeartbeats 1000000 in
theorem SrvL.slotOf (h : SrvL w0 w C pb s) (hd : s.dead = false) (hB : SrvB s) (ix : Key) (hix : ix.length = 16) {o : Option (Key × List Blob)} (ho : ContIs s ix o) :
    Calls Tryz.prog 19 #[.pointer (some ⟨pb, 0, none⟩), .agg (bV ix).toArray] w fun e w' => ∃ u, e = .returned u ∧ OwnBl 41 w' w.heap.size (fun b => b < w.heap.size) u (contL o) ∧ Below w.heap.size w w' := by
  have hb0 : Below w.heap.size w (w.alloc (.cells (bV ix).toArray 44)) := (Below.refl _ _).alloc (Nat.le_refl _) _
  obtain ⟨ck, hck⟩ : ∃ c, c = bV ix := ⟨_, rfl⟩
  have k1 : cutC ck.toArray 0 16 = ck := by rw [hck]; exact (key_in hix).1
  have k2 : ck.length = 16 := by rw [hck, bV_len]; exact hix
  rw [← hck] at hb0 ⊢
  have H := Lib.hid (And.intro h (And.intro hd (And.intro hB (And.intro hck (And.intro hix hb0)))))
  have HO := Lib.hid ho
  clear ho
  clear h hd hB hck hix hb0
  go_enter Tryz.func19, Tryz.ntmps19
  go_wp2_with fail
  rw [show RF.V ⟨.int .i64 3, ck, zk, .int .i64 0, zk, .slice none 0 0, .slice none 0 0⟩ = reqV (askV 3 ix) from by rw [H.out.2.2.2.1]; exact askV_eq 3 ix]
  refine ((H.out.1.step H.out.2.2.2.2.2).slot H.out.2.1 H.out.2.2.1 (askV_wf 3 H.out.2.2.2.2.1) rfl HO.out).mono ?_
  rintro e w2 ⟨u, rfl, hO, hb2⟩
  obtain ⟨ua, uc, rfl, _⟩ := hO.slice
  obtain ⟨un, hun⟩ : ∃ n, n = (contL o).length := ⟨_, rfl⟩
  rw [← hun] at hO ⊢
  have HUN := Lib.hid hun
  clear hun
  have HR := Lib.hid (And.intro (ownBl_weak (base' := w.heap.size) (M := fun b => b < w.heap.size) hO (by simp) (fun b hb => .inl (by simp; omega))) (H.out.2.2.2.2.2.trans (hb2.mono (by simp))))
  clear hO hb2
  go_wp2_with fail
  go_ret
  exact ⟨_, rfl, HR.out.1, HR.out.2⟩
end
end Go.Proofs.YtclhgokchcklbaaGreatDoor
end
