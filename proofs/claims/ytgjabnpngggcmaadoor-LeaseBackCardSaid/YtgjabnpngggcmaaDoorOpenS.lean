/- How arguments that came in are read, by parts: numbers, bytes, arrays of bytes, structs, slices of any of these. No program in sight. -/
import Derived.Test.YtgjabnpngggcmaaDoorOpen
import Derived.Test.YtgjabnpngggcmaaDoorApp
import Derived.Deep.SlicePairs
import Derived.OpenShut
namespace Go.Mem
open Go Go.ChangeShapes Go.WideShapes Go.ChangeAt Go.RowKit Gf
/-- what is read by type t has data of which R is known -/
def Opens (P : Program) (t : TypeId) {α : Type} (R : World → List Value → α → Prop) : Prop :=
  ∀ {H : Type} {enc : TypeId × Value → H} {W : World} {base : Nat} {spare : Nat → Bool} {held : Bool} {fuel : Nat} {cs : List Value} {x : DataW H × List MemPlace}, DataW.trod enc P W base spare held fuel t cs = some x → ∃ d : α, R W cs d
section
variable {P : Program}
theorem opens_int {t : TypeId} {k : IntKind} (ht : P.underlying t = some (.int k)) : Opens P t (fun _ cs (z : Int) => cs = [.int k z] ∧ (Lit.int k z).wf = true) := fun h => by
  obtain ⟨z, h1, _, h2⟩ := DataW.trod_int ht h
  exact ⟨z, h1, h2⟩
theorem opens_i64 {t : TypeId} (ht : P.underlying t = some (.int .i64)) : Opens P t (fun _ cs (z : Int) => cs = [.int .i64 z] ∧ -9223372036854775808 ≤ z ∧ z ≤ 9223372036854775807) := fun h => by
  obtain ⟨z, h1, h2⟩ := opens_int ht h
  exact ⟨z, h1, int_of_wf h2⟩
theorem opens_u8 {t : TypeId} (ht : P.underlying t = some (.int .u8)) : Opens P t (fun _ cs (u : UInt8) => cs = [.int .u8 (u.toNat : Int)]) := fun h => by
  obtain ⟨z, h1, h2⟩ := opens_int ht h
  obtain ⟨n, hn, rfl⟩ := byte_of_wf h2
  exact ⟨UInt8.ofNat n, by show _ = _; rw [h1, Gf.toNat_of _ hn]⟩
theorem opens_bool {t : TypeId} (ht : P.underlying t = some .bool) : Opens P t (fun _ cs (b : Bool) => cs = [.bool b]) := fun h => by
  obtain ⟨b, h1, _⟩ := DataW.trod_bool ht h
  exact ⟨b, h1⟩
theorem opens_string {t : TypeId} (ht : P.underlying t = some .string) : Opens P t (fun _ cs (s : ByteArray) => cs = [.string s] ∧ s.size ≤ maxLen) := fun h => by
  obtain ⟨s, h1, _, h2⟩ := DataW.trod_string ht h
  exact ⟨s, h1, h2⟩
theorem opens_bytes {t t8 : TypeId} (ht : P.underlying t = some (.slice t8)) (h8 : P.underlying t8 = some (.int .u8)) (c8 : P.cellsOf t8 = 1) : Opens P t (fun W cs (bs : List UInt8) => ∃ v, cs = [v] ∧ Bys W v bs) := fun {_ _ W _ _ _ _ cs x} h => by
  have hsl : ∃ a len cap, cs = [.slice a len cap] := by
    rcases open_ints ht h8 c8 h with ⟨h9, _⟩ | ⟨a2, l2, cp2, _, h9, _⟩
    · exact ⟨_, _, _, h9⟩
    · exact ⟨_, _, _, h9⟩
  obtain ⟨a, l, c, rfl⟩ := hsl
  obtain ⟨bs, hbs⟩ := open_bys (v := .slice a l c) ht h8 c8 ⟨_, _, _, rfl⟩ ⟨_, h⟩
  exact ⟨bs, _, rfl, hbs⟩
theorem list_of_each {α : Type} {p : Nat → α → Prop} : ∀ (n : Nat), (∀ i, i < n → ∃ d, p i d) → ∃ l : List α, l.length = n ∧ ∀ i d, l[i]? = some d → p i d
  | 0, _ => ⟨[], rfl, fun i d h => by simp at h⟩
  | n + 1, h => by
    obtain ⟨l, h1, h2⟩ := list_of_each n fun i hi => h i (by omega)
    obtain ⟨d, hd⟩ := h n (by omega)
    refine ⟨l ++ [d], by simp [h1], fun i d' hi => ?_⟩
    by_cases e : i < l.length
    · rw [List.getElem?_append_left e] at hi; exact h2 i d' hi
    · rw [List.getElem?_append_right (by omega)] at hi
      by_cases e2 : i = l.length
      · subst e2; rw [Nat.sub_self] at hi; cases hi; rw [h1]; exact hd
      · rw [List.getElem?_eq_none (by simp; omega)] at hi; cases hi
theorem opens_array {t e : TypeId} {n c : Nat} {α : Type} {R : World → List Value → α → Prop} (ht : P.underlying t = some (.array n e)) (hc : P.cellsOf e = c) (hR : Opens P e R) :
    Opens P t (fun W cs (l : List α) => l.length = n ∧ cs.length = P.cellsOf t ∧ ∀ i d, l[i]? = some d → R W ((cs.drop (i * c)).take c) d) := fun {_ _ W _ _ _ _ cs x} h => by
  obtain ⟨xs, m, _, _, hl, hx, hel⟩ := DataW.trod_array ht h
  rw [hc] at hel
  obtain ⟨l, h1, h2⟩ := list_of_each (p := fun i d => R W ((cs.drop (i * c)).take c) d) n fun i hi => by
    have := hel i hi
    rw [List.getElem?_eq_getElem (by omega)] at this
    exact hR this
  exact ⟨l, h1, hl, h2⟩
/-- an array of bytes -/
theorem opens_key {t t8 : TypeId} {n : Nat} (ht : P.underlying t = some (.array n t8)) (h8 : P.underlying t8 = some (.int .u8)) (c8 : P.cellsOf t8 = 1) (ct : P.cellsOf t = n) : Opens P t (fun _ cs (k : List UInt8) => k.length = n ∧ cs = bV k) := fun {_ _ W _ _ _ _ cs x} h => by
  obtain ⟨l, h1, h2, h3⟩ := opens_array ht c8 (opens_u8 h8) h
  refine ⟨l, h1, ?_⟩
  apply List.ext_getElem?
  intro i
  rw [bV_get]
  by_cases hi : i < n
  · have := h3 i l[i] (List.getElem?_eq_getElem (by omega))
    rw [Nat.mul_one] at this
    have h4 := congrArg (fun l => l[0]?) this
    simp only [List.getElem?_take, List.getElem?_drop] at h4
    simp at h4
    rw [List.getElem?_eq_getElem (show i < l.length by omega)]
    simpa using h4
  · rw [List.getElem?_eq_none (by omega), List.getElem?_eq_none (by omega)]; rfl
/-- a field of a struct -/
theorem opens_field {t : TypeId} {fs : Array Field} (ht : P.underlying t = some (.struct fs)) {H : Type} {enc : TypeId × Value → H} {W : World} {base : Nat} {spare : Nat → Bool} {held : Bool} {fuel : Nat} {cs : List Value} {x : DataW H × List MemPlace}
    (h : DataW.trod enc P W base spare held fuel t cs = some x) {α : Type} {R : World → List Value → α → Prop} (i : Nat) (f : Field) (hf : fs[i]? = some f) (hR : Opens P f.type R) : ∃ d, R W ((cs.drop f.offset).take (P.cellsOf f.type)) d := by
  obtain ⟨xs, n, _, _, _, hl, hx⟩ := DataW.trod_struct ht h
  have hi : i < fs.size := by
    rcases Nat.lt_or_ge i fs.size with h | h
    · exact h
    · rw [Array.getElem?_eq_none h] at hf; cases hf
  have := hx i f hf
  rw [List.getElem?_eq_getElem (by omega)] at this
  exact hR this
theorem opens_size {t : TypeId} {fs : Array Field} (ht : P.underlying t = some (.struct fs)) {H : Type} {enc : TypeId × Value → H} {W : World} {base : Nat} {spare : Nat → Bool} {held : Bool} {fuel : Nat} {cs : List Value} {x : DataW H × List MemPlace}
    (h : DataW.trod enc P W base spare held fuel t cs = some x) : cs.length = P.cellsOf t := by
  obtain ⟨xs, n, _, _, hl, _, _⟩ := DataW.trod_struct ht h
  exact hl
/-- the value is a slice of things, each of c cells, of which R is known -/
def Sls (c : Nat) {α : Type} (R : World → List Value → α → Prop) (W : World) (v : Value) (l : List α) : Prop :=
  ∃ a cap, v = .slice a l.length cap ∧ l.length ≤ cap ∧ cap ≤ maxLen ∧
    (0 < l.length → ∃ b off, a = some ⟨b, off, none⟩ ∧ ∀ i d, l[i]? = some d → ∃ cs : List Value, cs.length = c ∧ (∀ j v, cs[j]? = some v → W.cell? ⟨b, off + i * c + j, none⟩ = some v) ∧ R W cs d)
theorem opens_slice {t e : TypeId} {c : Nat} {α : Type} {R : World → List Value → α → Prop} (ht : P.underlying t = some (.slice e)) (hc : P.cellsOf e = c) (h0 : 0 < c) (hR : Opens P e R) :
    Opens P t (fun W cs (l : List α) => ∃ v, cs = [v] ∧ Sls c R W v l) := fun {_ _ W _ _ _ _ cs x} h => by
  rcases Deep.open_slice ht h with ⟨hcs, _⟩ | ⟨a', len', cap', m, n, D, Pl, hcs, _, hl, hm, hmm, _, hx⟩
  · exact ⟨[], _, hcs, none, 0, rfl, Nat.le_refl _, Nat.zero_le _, fun h => by simp at h⟩
  · have hlm : len' ≤ m := by rw [hmm]; split <;> omega
    rw [hc] at hx
    obtain ⟨l, h1, h2⟩ := list_of_each (p := fun i d => ∃ cs : List Value, cs.length = c ∧ (∀ j, j < c → W.cell? ((a'.add (i * c)).add j) = cs[j]?) ∧ R W cs d) len' fun i hi => by
      obtain ⟨cs', k1, k2⟩ := hx i (by omega)
      obtain ⟨_, k3, k4⟩ := World.cells?_some k1
      obtain ⟨d, hd⟩ := hR k2
      exact ⟨d, cs', k3, k4, hd⟩
    refine ⟨l, _, hcs, some a', cap', by rw [h1], by rw [h1]; exact hl, hm, fun hp => ?_⟩
    obtain ⟨cs0, k3, k4, _⟩ := h2 0 l[0] (List.getElem?_eq_getElem hp)
    have ha : a' = ⟨a'.block, a'.off, none⟩ := by
      have := k4 0 h0
      rw [List.getElem?_eq_getElem (by omega)] at this
      exact addr_none (a := a') (by simpa [Addr.add] using this)
    refine ⟨a'.block, a'.off, by rw [← ha], fun i d hi => ?_⟩
    obtain ⟨cs', k5, k6, k7⟩ := h2 i d hi
    refine ⟨cs', k5, fun j v hj => ?_, k7⟩
    have hjc : j < c := by
      rcases Nat.lt_or_ge j c with h | h
      · exact h
      · rw [List.getElem?_eq_none (by omega)] at hj; cases hj
    have := k6 j hjc
    rw [ha, add_plain, add_plain, hj] at this
    exact this
/-- an argument that is a slice -/
theorem opens_arg {t : TypeId} {α : Type} {R : World → Value → α → Prop} (hO : Opens P t (fun W cs d => ∃ v, cs = [v] ∧ R W v d)) {H : Type} {enc : TypeId × Value → H} {W : World} {base : Nat} {spare : Nat → Bool} {held : Bool} {v : Value} {x : DataW H × List MemPlace}
    (hv : ∃ a len cap, v = .slice a len cap) (h : ∃ fuel, DataW.trod enc P W base spare held fuel t v.cells.toList = some x) : ∃ d, R W v d := by
  obtain ⟨a, len, cap, rfl⟩ := hv
  obtain ⟨fuel, hf⟩ := h
  obtain ⟨d, v', e, hr⟩ := hO hf
  simp [Value.cells] at e
  subst e
  exact ⟨d, hr⟩
theorem Sls.len {c : Nat} {α : Type} {R : World → List Value → α → Prop} {W : World} {v : Value} {l : List α} (h : Sls c R W v l) : l.length ≤ 9223372036854775807 := by
  obtain ⟨a, cap, _, h1, h2, _⟩ := h
  unfold maxLen at h2; omega
theorem Sls.below {c : Nat} {α : Type} {R : World → List Value → α → Prop} (hR : ∀ w w' cs d, Below w.heap.size w w' → R w cs d → R w' cs d) {w w' : World} {v : Value} {l : List α} (h : Sls c R w v l) (hb : Below w.heap.size w w') : Sls c R w' v l := by
  obtain ⟨a, cap, h1, h2, h3, h4⟩ := h
  refine ⟨a, cap, h1, h2, h3, fun hp => ?_⟩
  obtain ⟨b, off, e, h5⟩ := h4 hp
  refine ⟨b, off, e, fun i d hi => ?_⟩
  obtain ⟨cs, h6, h7, h8⟩ := h5 i d hi
  exact ⟨cs, h6, fun j v hj => (hb.cell (p := ⟨b, off + i * c + j, none⟩) (World.block_lt_of_cell? w _ (h7 j v hj))).trans (h7 j v hj), hR _ _ _ _ hb h8⟩
/-- a thing of the slice, as the walk asks for it -/
theorem Sls.at {c : Nat} {α : Type} {R : World → List Value → α → Prop} {w : World} {a : Option Addr} {n cap : Nat} {l : List α} (h : Sls c R w (.slice a n cap) l) (i : Nat) (hi : i < l.length) :
    ∃ b off d cs, a = some ⟨b, off, none⟩ ∧ Hid (l[i]? = some d) ∧ cs.length = c ∧ (∀ j v, cs[j]? = some v → w.cell? ⟨b, off + i * c + j, none⟩ = some v) ∧ R w cs d := by
  obtain ⟨a', cap', e, h1, h2, h3⟩ := h
  obtain ⟨b, off, e', h4⟩ := h3 (by omega)
  injection e with e1 e2 e3
  obtain ⟨cs, h5, h6, h7⟩ := h4 i l[i] (List.getElem?_eq_getElem hi)
  exact ⟨b, off, l[i], cs, e1.trans e', by show l[i]? = _; simp [hi], h5, h6, h7⟩
theorem Sls.eq_slice {c : Nat} {α : Type} {R : World → List Value → α → Prop} {w : World} {v : Value} {l : List α} (h : Sls c R w v l) : ∃ a cap, v = .slice a l.length cap := by
  obtain ⟨a, cap, e, _⟩ := h; exact ⟨a, cap, e⟩
end
end Go.Mem
