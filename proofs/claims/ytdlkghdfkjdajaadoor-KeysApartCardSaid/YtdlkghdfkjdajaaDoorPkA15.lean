/- Texts of this proof, packed: OpenS, OpenKey, TabOf. -/
import Derived.Test.YtdlkghdfkjdajaaDoorPkA14
import Derived.Test.YtdlkghdfkjdajaaDoorPkA00
import Derived.Deep.SlicePairs
import Derived.OpenShut
import Derived.Test.YtdlkghdfkjdajaaDoorRows
import Derived.Test.YtdlkghdfkjdajaaDoorPkA02
import Derived.Lib.LaidTab
import Derived.LaidMore
section
namespace Go.Mem
open Go Go.ChangeShapes Go.WideShapes Go.ChangeAt Go.RowKit Gf
def Opens (P : Program) (t : TypeId) {α : Type} (R : World → List Value → α → Prop) : Prop :=
  ∀ {H : Type} {enc : TypeId × Value → H} {W : World} {base : Nat} {spare : Nat → Bool} {held : Bool} {fuel : Nat} {cs : List Value} {x : DataW H × List MemPlace}, DataW.trod enc P W base spare held fuel t cs = some x → ∃ d : α, R W cs d
section
variable {P : Program}
theorem opens_int {t : TypeId} {k : IntKind} (ht : P.underlying t = some (.int k)) : Opens P t (fun _ cs (z : Int) => cs = [.int k z] ∧ (Lit.int k z).wf = true) := fun h => by
  obtain ⟨z, h1, _, h2⟩ := DataW.trod_int ht h
  exact ⟨z, h1, h2⟩
theorem opens_u8 {t : TypeId} (ht : P.underlying t = some (.int .u8)) : Opens P t (fun _ cs (u : UInt8) => cs = [.int .u8 (u.toNat : Int)]) := fun h => by
  obtain ⟨z, h1, h2⟩ := opens_int ht h
  obtain ⟨n, hn, rfl⟩ := byte_of_wf h2
  exact ⟨UInt8.ofNat n, by show _ = _; rw [h1, Gf.toNat_of _ hn]⟩
theorem list_of_each {α : Type} {p : Nat → α → Prop} : ∀ (n : Nat), (∀ i, i < n → ∃ d, p i d) → ∃ l : List α, l.length = n ∧ ∀ i d, l[i]? = some d → p i d
  | 0, _ => ⟨[], rfl, fun i d h => by simp at h⟩
  | n + 1, h => by
    obtain ⟨l, h1, h2⟩ := list_of_each n fun i hi => h i (by omega)
    obtain ⟨d, hd⟩ := h n (by omega)
    refine ⟨l ++ [d], by simp [h1], fun i d' hi => ?_⟩
    by_cases e : i < l.length
    · rw [List.getElem?_append_left e] at hi; exact h2 i d' hi
    · rw [List.getElem?_append_right (by omega)] at hi
      by_cases e2 : i = l.length
      · subst e2; rw [Nat.sub_self] at hi; cases hi; rw [h1]; exact hd
      · rw [List.getElem?_eq_none (by simp; omega)] at hi; cases hi
theorem opens_array {t e : TypeId} {n c : Nat} {α : Type} {R : World → List Value → α → Prop} (ht : P.underlying t = some (.array n e)) (hc : P.cellsOf e = c) (hR : Opens P e R) :
    Opens P t (fun W cs (l : List α) => l.length = n ∧ cs.length = P.cellsOf t ∧ ∀ i d, l[i]? = some d → R W ((cs.drop (i * c)).take c) d) := fun {_ _ W _ _ _ _ cs x} h => by
  obtain ⟨xs, m, _, _, hl, hx, hel⟩ := DataW.trod_array ht h
  rw [hc] at hel
  obtain ⟨l, h1, h2⟩ := list_of_each (p := fun i d => R W ((cs.drop (i * c)).take c) d) n fun i hi => by
    have := hel i hi
    rw [List.getElem?_eq_getElem (by omega)] at this
    exact hR this
  exact ⟨l, h1, hl, h2⟩
theorem opens_key {t t8 : TypeId} {n : Nat} (ht : P.underlying t = some (.array n t8)) (h8 : P.underlying t8 = some (.int .u8)) (c8 : P.cellsOf t8 = 1) (ct : P.cellsOf t = n) : Opens P t (fun _ cs (k : List UInt8) => k.length = n ∧ cs = bV k) := fun {_ _ W _ _ _ _ cs x} h => by
  obtain ⟨l, h1, h2, h3⟩ := opens_array ht c8 (opens_u8 h8) h
  refine ⟨l, h1, ?_⟩
  apply List.ext_getElem?
  intro i
  rw [bV_get]
  by_cases hi : i < n
  · have := h3 i l[i] (List.getElem?_eq_getElem (by omega))
    rw [Nat.mul_one] at this
    have h4 := congrArg (fun l => l[0]?) this
    simp only [List.getElem?_take, List.getElem?_drop] at h4
    simp at h4
    rw [List.getElem?_eq_getElem (show i < l.length by omega)]
    simpa using h4
  · rw [List.getElem?_eq_none (by omega), List.getElem?_eq_none (by omega)]; rfl
end
end Go.Mem
end
section
namespace Go.Mem
open Go Go.ChangeShapes Go.WideShapes Go.ChangeAt Go.RowKit Gf
theorem okWide_array {P : Program} {w : World} {r : Reach} {base : Nat} {t e : TypeId} {n : Nat} {v : Value} (ht : P.underlying t = some (.array n e)) (h : Value.okWide P w r base t v) : ∃ cs, v = .agg cs ∧ cs.size = P.cellsOf t := by
  simp only [Value.okWide, ht] at h
  obtain ⟨cs, h1, h2, _⟩ := h
  exact ⟨cs, h1, h2⟩
theorem open_key {P : Program} {t t8 : TypeId} {n : Nat} (ht : P.underlying t = some (.array n t8)) (h8 : P.underlying t8 = some (.int .u8)) (c8 : P.cellsOf t8 = 1) (ct : P.cellsOf t = n) {H : Type} {enc : TypeId × Value → H} {W : World} {base : Nat} {spare : Nat → Bool} {held : Bool} {v : Value} {x : DataW H × List MemPlace}
    (hv : ∃ cs, v = .agg cs ∧ cs.size = P.cellsOf t) (h : ∃ fuel, DataW.trod enc P W base spare held fuel t v.cells.toList = some x) : ∃ k : List UInt8, k.length = n ∧ v = .agg (bV k).toArray := by
  obtain ⟨cs, rfl, _⟩ := hv
  obtain ⟨fuel, hf⟩ := h
  obtain ⟨k, h1, h2⟩ := opens_key ht h8 c8 ct hf
  refine ⟨k, h1, ?_⟩
  rw [← h2]
  simp [Value.cells]
end Go.Mem
end
section
namespace Go.Proofs.YtdlkghdfkjdajaaDoor
open Go Go.RowKit Go.Mem
theorem tabT : (Tryd.prog.globals[gT]?).map (·.type) = some 143 := by kernel_rfl
theorem tab_of_laid {W : World} (h : laidMetH Tryd.prog [("math/bits.deBruijn32tab", Rows.laid_math_bits_deBruijn32tab), ("math/bits.deBruijn64tab", Rows.laid_math_bits_deBruijn64tab), ("internal/strconv.uint64pow10", Rows.laid_internal_strconv_uint64pow10)] W) : Tab W := by
  rw [MakeChecks.laidMetH_plain _ _ _ (by kernel_rfl)] at h
  obtain ⟨ps, ⟨g0, t0, cs0, f0, p0, q0, hg0, ht0, hv0, hd0, ⟨g1, t1, cs1, f1, p1, q1, hg1, ht1, hv1, hd1, ⟨g2, t2, cs2, f2, p2, q2, hg2, ht2, hv2, hd2, _, _⟩, _⟩, _⟩, _, _⟩ := h
  obtain rfl := Option.some.inj (gT_eq.symm.trans hg2)
  obtain rfl := Option.some.inj (tabT.symm.trans ht2)
  have hd : DataW.trod (fun _ => ()) Tryd.prog W 0 (fun _ => true) false f2 143 cs2.toList = some (Lib.tabData .u64 Lib.pow10Tab, p2) := hd2.trans (by rw [show (Rows.laid_internal_strconv_uint64pow10 : DataW Unit) = Lib.tabData .u64 Lib.pow10Tab from rfl])
  unfold Tab Lib.TabIs
  rw [hv2, ← Lib.cells_of_tab Tryd.underlying143 Tryd.underlying92 (by kernel_rfl) (by kernel_rfl) hd]
end Go.Proofs.YtdlkghdfkjdajaaDoor
end
