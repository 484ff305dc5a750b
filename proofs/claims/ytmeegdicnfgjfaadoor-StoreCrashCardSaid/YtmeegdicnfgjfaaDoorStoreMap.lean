/- A map from names to texts that a call makes, as a mirror of a store's records. -/
import Derived.Test.YtmeegdicnfgjfaaDoorStoreLab
import Derived.Maps.Own
import Derived.Maps.OwnSet
import Derived.Maps.StringElems
namespace Go.Proofs.YtmeegdicnfgjfaaDoor
open Go Go.RowKit Go.Mem Gf Go.Maps Go.WideMaps Go.MapKept
/-- a name as a key -/
def keyL (nm : ByteArray) : Lit := .string nm.data.toList
theorem keyL_ne {a b : ByteArray} (h : a ≠ b) : keyL a ≠ keyL b := fun e => h (name_of (by injection e))
/-- what is read of the map is what is read of the records -/
def Mir (D : DataW Unit) (l : List Sto.Rec) : Prop :=
  (∀ nm, Maps.has D (keyL nm) = (Sto.look l nm).isSome ∧ ∀ x z, Sto.look l nm = some x → D.atKey (keyL nm) z = .lit (.string x)) ∧ Maps.size D = liveN l
theorem Mir.empty (n : Nat) : Mir (.map []) (List.replicate n Sto.Rec.free) := by
  refine ⟨fun nm => ⟨by rw [look_free]; rfl, fun x z h => by rw [look_free] at h; cases h⟩, by rw [live_free]; rfl⟩
theorem look_best {l : List Sto.Rec} {nm : ByteArray} : (Sto.look l nm).isSome = (Sto.best l nm l.length).isSome := by
  unfold Sto.look
  cases Sto.best l nm l.length <;> rfl
theorem Mir.put {D : DataW Unit} {l : List Sto.Rec} (h : Mir D l) (hT : Tidy D) (ht : Sto.slot l < l.length) (name : ByteArray) (data : List UInt8) : Mir (D.put (keyL name) (.lit (.string data))) (putF l name data) := by
  have hk : WideAt.IsKeyLit (keyL name) := trivial
  refine ⟨fun nm => ?_, ?_⟩
  · rw [putF_look ht]
    by_cases e : nm = name
    · subst e
      rw [if_pos rfl]
      exact ⟨has_put_same hT.isMap hk _, fun x z hx => by cases hx; exact atKey_put_same hT.isMap hk _ z⟩
    · rw [if_neg e]
      exact ⟨(has_put_other (keyL_ne e) _).trans (h.1 nm).1, fun x z hx => (atKey_put_other (keyL_ne e) _ z).trans ((h.1 nm).2 x z hx)⟩
  · rw [size_put hT, live_putF ht, (h.1 name).1, look_best, h.2]
    cases hb : (Sto.best l name l.length).isSome <;> simp
/-- the map lies in block b -/
def SM (w : World) (b : Nat) (l : List Sto.Rec) : Prop :=
  ∃ (n : Nat) (D : DataW Unit), n ≤ 1000 ∧ w.ownsMap Tryd.prog 9 (plainElem Tryd.prog 9) b n D ∧ Mir D l
theorem SM.lt {w : World} {b : Nat} {l : List Sto.Rec} (h : SM w b l) : b < w.heap.size := by obtain ⟨n, D, _, h, _⟩ := h; exact h.lt
theorem SM.chg {S : Nat → Prop} {w w' : World} {b : Nat} {l : List Sto.Rec} (h : SM w b l) (hc : Chg S w w') (hs : ¬ S b) : SM w' b l := by
  have hlt := h.lt
  obtain ⟨n, D, hn, ⟨es, clock, hb, r⟩, hm⟩ := h
  exact ⟨n, D, hn, ⟨es, clock, (hc.block b hlt hs).trans hb, r⟩, hm⟩
theorem SM.below {w w' : World} {b : Nat} {l : List Sto.Rec} (h : SM w b l) (hb : Below w.heap.size w w') : SM w' b l := h.chg (S := fun _ => False) (Chg.of_below hb) id
/-- a map's block is changed, nothing else -/
structure MapChg (bm : Nat) (w w' : World) : Prop where
  chg : Chg (fun k => k = bm) w w'
  map : ∃ es clock, w.heap[bm]? = some (.map es clock)
theorem MapChg.ne {bm : Nat} {w w' : World} (h : MapChg bm w w') {b : Nat} {arr : Array Value} {t : TypeId} (hb : Blk w b arr t) : ¬ b = bm := fun e => by
  obtain ⟨es, c, hm⟩ := h.map
  unfold Blk at hb
  rw [e, hm] at hb
  cases hb
theorem MapChg.bys {bm : Nat} {w w' : World} (h : MapChg bm w w') {v : Value} {bs : List UInt8} (hb : Bys w v bs) : Bys w' v bs := by
  obtain ⟨a, cap, rfl, h1, h2, h3⟩ := hb
  refine ⟨a, cap, rfl, h1, h2, fun hp => ?_⟩
  obtain ⟨b, off, rfl, hcell⟩ := h3 hp
  refine ⟨b, off, rfl, fun i u hi => ?_⟩
  have hx := hcell i u hi
  have hlt : b < w.heap.size := World.block_lt_of_cell? w ⟨b, off + i, none⟩ hx
  have hne : ¬ b = bm := fun e => by
    obtain ⟨es, c, hm⟩ := h.map
    unfold World.cell? at hx
    rw [show (⟨b, off + i, none⟩ : Addr).block = bm from e, hm] at hx
    simp at hx
  have hbb := h.chg.block b hlt hne
  unfold World.cell? at hx ⊢
  rw [hbb]; exact hx
theorem MapChg.store {bm : Nat} {w w' : World} (h : MapChg bm w w') {N : Nat → Prop} {sb lb d L : Nat} {s : St} (hs : IsStore w N sb lb d L s) : IsStore w' N sb lb d L s := by
  obtain ⟨cap, hB, a, b⟩ := hs.blk
  obtain ⟨arr, vs, hR, r1, r2, r3, r4⟩ := hs.recs
  obtain ⟨dcap, darr, hd, d1, d2, hL, d3⟩ := id hs.disk
  have hg : ¬ gT = bm := fun e => by
    obtain ⟨es, c, hm⟩ := h.map
    have ht := hs.tab
    unfold Tab Lib.TabIs World.var? at ht
    rw [gT_eq] at ht
    simp only [Option.bind_some] at ht
    rw [e, hm] at ht
    simp at ht
  refine ⟨⟨cap, h.chg.blk hB (h.ne hB), a, b⟩, ⟨arr, vs, h.chg.blk hR (h.ne hR), r1, r2, r3, fun i r v hr hv => ?_⟩, hs.disk.chg h.chg (h.ne hd) (h.ne hL), hs.tab.chg h.chg hg, hs.ntab, hs.foot, hs.ne, hs.ok, fun b hb => Nat.lt_of_lt_of_le (hs.old b hb) h.chg.size⟩
  obtain ⟨g1, g2, g3, rfl, g4⟩ := r4 i r v hr hv
  exact ⟨h.bys g1, g2, g3, rfl, fun b hb => ⟨Nat.lt_of_lt_of_le (g4 b hb).1 h.chg.size, (g4 b hb).2⟩⟩
theorem MapChg.lab {bm : Nat} {w0 w w' : World} (h : MapChg bm w w') {sb lb d L : Nat} {s : St} (hs : LabS w0 w sb lb d L s) (hb : w0.heap.size ≤ bm) : LabS w0 w' sb lb d L s :=
  ⟨h.store hs.st, Chg.far hs.bel h.chg hs.bel.size (fun k hk => by subst hk; exact hb), hs.d1, hs.l1, hs.s1, hs.b1⟩
theorem keyedS : Keyed Tryd.prog 9 := string_keyed Tryd.underlying9
theorem zeroS (w : World) : (zeroValue 9).run Tryd.prog w = .ok (.string ByteArray.empty) w := by kernel_rfl
theorem plainS {s : ByteArray} (h : s.size ≤ maxLen) : plainElem (H := Unit) Tryd.prog 9 (.string s) = some (.lit (.string s.data.toList), []) := by
  unfold plainElem
  rw [Tryd.underlying9]
  simp only [h, if_true]
/-- a look-up -/
theorem SM.look {w : World} {b : Nat} {l : List Sto.Rec} (h : SM w b l) {nm : ByteArray} (hn : nm.size ≤ maxLen) : ∃ s : ByteArray, (Instr.lookup 32 (.map (some b)) (.string nm) true).run Tryd.prog w = .ok (.tuple #[.string s, .bool (Sto.look l nm).isSome]) w ∧ ∀ x, Sto.look l nm = some x → s = ⟨x.toArray⟩ := by
  obtain ⟨n, D, _, ho, hm⟩ := h
  obtain ⟨v, ps, hrun, hv⟩ := ho.look_ok keyedS Tryd.underlying32 (zeroS w) (plainS (by decide)) (keyOf_string_mk Tryd.underlying9 hn)
  obtain ⟨s, rfl, hz, _⟩ := plainElem_string_inv Tryd.underlying9 hv
  have h1 := (hm.1 nm).1
  unfold keyL at h1
  rw [h1] at hrun
  refine ⟨s, hrun, fun x hx => ?_⟩
  have h2 := (hm.1 nm).2 x (.lit (.string ByteArray.empty.data.toList)) hx
  unfold keyL at h2
  simp only [Prod.mk.injEq] at hz
  have h3 := hz.1.symm.trans h2
  simp only [DataW.lit.injEq, Lit.string.injEq] at h3
  exact name_of (by rw [h3])
theorem SM.len {w : World} {b : Nat} {l : List Sto.Rec} (h : SM w b l) (ty : TypeId) : (Builtin.len_ #[32] ty #[.map (some b)]).run Tryd.prog w = .ok (.int .i64 (liveN l : Nat)) w := by
  obtain ⟨n, D, _, ho, hm⟩ := h
  rw [ho.len Tryd.underlying32 ty, hm.2]
/-- a store -/
theorem SM.put {w : World} {b : Nat} {l : List Sto.Rec} (h : SM w b l) (hl : liveN l ≤ 900) (ht : Sto.slot l < l.length) (name : ByteArray) (data : List UInt8) (hn : name.size ≤ maxLen) (hd : data.length ≤ maxLen) :
    ∃ w', (Instr.mapUpdate 32 (.map (some b)) (.string name) (.string ⟨data.toArray⟩)).run Tryd.prog w = .ok () w' ∧ SM w' b (putF l name data) ∧ MapChg b w w' := by
  obtain ⟨n, D, _, ho, hm⟩ := h
  have hs := ho.size_le
  obtain ⟨es, clock, hb, F, hsz, hD⟩ := id ho
  have hso : w.ownsMap Tryd.prog 9 (plainElem Tryd.prog 9) b (liveN l) D := by
    refine ⟨es, clock, hb, F, ?_, hD⟩
    have e1 : Maps.size D = es.size := by rw [hD]; simp [Maps.size, length_sorted]
    rw [hm.2] at e1
    omega
  obtain ⟨w', hrun, ho', hg⟩ := hso.update keyedS Tryd.underlying32 (by unfold maxLen; omega) (keyOf_string_mk Tryd.underlying9 hn) (plainS (s := ⟨data.toArray⟩) (by show data.toArray.size ≤ maxLen; simpa using hd))
  refine ⟨w', hrun, ⟨liveN l + 1, _, by omega, ho', ?_⟩, ⟨⟨hg.os, hg.tape, hg.output, hg.size, fun k hk hne => hg.block k hk (fun e => hne (by injection e))⟩, es, clock, hb⟩⟩
  have := hm.put (ho.tidy keyedS) ht name data
  unfold keyL at this
  simpa using this
end Go.Proofs.YtmeegdicnfgjfaaDoor
namespace Go.Mem
open Go Go.RowKit Gf
/-- the names but one, of two stores that are alike but for that one -/
theorem names_count {l l5 : List Sto.Rec} (hu : Sto.Uniq l) (hu5 : Sto.Uniq l5) (name : ByteArray) (h : ∀ nm, nm ≠ name → Sto.look l5 nm = Sto.look l nm) (le : List UInt8 → List UInt8 → Bool) :
    (((namesK l5 l5.length).mergeSort le).filter fun y => decide (y ≠ name.data.toList)).length + (if (Sto.look l name).isSome = true then 1 else 0) = liveN l := by
  have hp : ((namesK l5 l5.length).filter fun y => decide (y ≠ name.data.toList)).Perm ((namesK l l.length).filter fun y => decide (y ≠ name.data.toList)) := by
    refine (List.perm_ext_iff_of_nodup ((namesK_nodup hu5 _).filter _) ((namesK_nodup hu _).filter _)).2 fun a => ?_
    simp only [List.mem_filter, decide_eq_true_eq]
    constructor
    · rintro ⟨h1, h2⟩
      have := mem_names (l := l5) ⟨a.toArray⟩
      have hb := mem_names (l := l) ⟨a.toArray⟩
      simp only at this hb
      refine ⟨hb.2 ?_, h2⟩
      rw [← h _ (fun e => h2 (by rw [← e]))]
      exact this.1 h1
    · rintro ⟨h1, h2⟩
      have := mem_names (l := l5) ⟨a.toArray⟩
      have hb := mem_names (l := l) ⟨a.toArray⟩
      simp only at this hb
      refine ⟨this.2 ?_, h2⟩
      rw [h _ (fun e => h2 (by rw [← e]))]
      exact hb.1 h1
  have hq := (((List.mergeSort_perm (namesK l5 l5.length) le).filter fun y => decide (y ≠ name.data.toList)).trans hp).length_eq
  rw [hq, ← names_live]
  have hc : ∀ (L : List (List UInt8)), L.Nodup → ∀ x, (L.filter fun y => decide (y ≠ x)).length + (if x ∈ L then 1 else 0) = L.length := by
    intro L hL x
    induction L with
    | nil => simp
    | cons a L ih =>
      rw [List.nodup_cons] at hL
      have := ih hL.2
      by_cases e : a = x
      · subst e
        have h1 : a ∉ L := hL.1
        simp [h1] at this ⊢
        exact this
      · have e2 : ¬ x = a := fun h => e h.symm
        simp only [List.filter_cons, ne_eq, e, not_false_eq_true, decide_true, if_true, List.length_cons, List.mem_cons, e2, false_or]
        simp only [ne_eq] at this
        omega
  have := hc _ (namesK_nodup hu l.length) name.data.toList
  rw [← this]
  congr 1
  have hm := mem_names (l := l) name
  by_cases hx : name.data.toList ∈ namesK l l.length
  · rw [if_pos hx, if_pos (hm.1 hx)]
  · rw [if_neg hx, if_neg (fun h => hx (hm.2 h))]
end Go.Mem
