/- An index's leases in order: sort.Slice of them. -/
import Derived.Test.YtgjabnpngggcmaaDoorLeaLess
import Derived.Test.YtgjabnpngggcmaaDoorLeaSpec
import Derived.Test.YtgjabnpngggcmaaDoorShelf
namespace Go.Proofs.YtgjabnpngggcmaaDoor
open Go Go.RowKit Go.Mem Gf Lea Go.Lib Go.Shelf
noncomputable def lsT : TypeInfo := (Tryd.prog.info? 22).get (by kernel_rfl)
noncomputable def lsE : TypeInfo := (Tryd.prog.info? 29).get (by kernel_rfl)
theorem lsK9 (n : Nat) (h2 : 2 ≤ n) : Lib.swapperK n lsE 25 = 9 := by
  have a : lsE.hasPointers = false := by kernel_rfl
  have b : lsE.bytes = 24 := by kernel_rfl
  have c : (n == 0) = false := by simp; omega
  have d : (n == 1) = false := by simp; omega
  simp [Lib.swapperK, a, b, c, d]
/-- at most one thing: any order -/
theorem sorter_one {α : Type} (lt : α → α → Bool) (ho : Srt.Ord lt) (g sf : Nat) (lb sb : Array Value) (eg : ∀ args w, (callFunc g args).run Tryd.prog w = .ok (.enter g args) w) :
    Sorter (fun _ l => l.length ≤ 1) (fun _ => False) lt g sf lb sb :=
  ⟨fun _ _ _ _ h => h.elim, fun _ _ _ h => h, fun W l i j x y hij h hi hj => by have := some_lt hi; omega, fun W l i j x y hij h hi hj => by have := some_lt hi; omega, eg, ho⟩
theorem upto_pairwise {α : Type} {lt : α → α → Bool} {l : List α} {n : Nat} (h : Srt.Upto lt l n) (hn : l.length ≤ n) : l.Pairwise fun a b => lt b a = false := by
  rw [List.pairwise_iff_getElem]
  intro i j hi hj hij
  exact h i j _ _ hij (by omega) (by simp) (by simp)
theorem ofless_enters : ∀ args w, (callFunc 20 args).run Tryd.prog w = .ok (.enter 20 args) w := enters_of Tryd.func20 (by kernel_rfl) rfl
/-- Of's sort -/
theorem sorter_of (bx base g n cap : Nat) (hne : bx ≠ g) (sf : Nat) (gS : Bool) (hx : ∀ args W, (callFunc sf args).run Tryd.prog W = ((Extern.ReflectliteSwapper.swap gS args).run Tryd.prog W).andThen fun v w' => .ok (.value v) w') :
    Sorter (fun W l => RowG encL WfL 17 29 W base g n cap l ∧ Blk W bx #[.slice (some ⟨g, 0, none⟩) n cap] 22) (fun k => k = g) ltL 20 sf #[.pointer (some ⟨bx, 0, none⟩)] #[.slice (some ⟨g, 0, none⟩) n cap, typeHandle Tryd.prog 29] := by
  refine ⟨fun W l h k hk => ?_, fun W l o h => ?_, fun W l i j x y _ h hi hj => ?_, fun W l i j x y hij h hi hj => ?_, ofless_enters, ordL⟩
  · obtain ⟨cur, hh, _⟩ := h.1.block
    rw [hk]; exact lt_of_block hh
  · exact ⟨h.1.chg (S := fun _ => False) (Chg.of_below ((Below.refl _ _).alloc (Nat.le_refl _) o)) (fun h => h), h.2.alloc o⟩
  · refine (ofless_calls W bx base g n cap l h.1 h.2 i j x y hi hj).mono ?_
    rintro e W' ⟨rfl, hB⟩
    have hc : Chg (fun k => k = g) W W' := Chg.of_below hB
    exact ⟨rfl, ⟨h.1.chg (S := fun _ => False) (Chg.of_below hB) (fun h => h), hc.blk h.2 hne⟩, hc⟩
  · have hi' : i < n := by rw [h.1.len]; exact some_lt hi
    have hj' : j < n := by rw [h.1.len]; exact some_lt hj
    have wx := h.1.wf x (List.mem_of_getElem? hi)
    have wy := h.1.wf y (List.mem_of_getElem? hj)
    have hs : lsE.size = 17 := by kernel_rfl
    have h1 := h.1.set ecL hi' wy
    have h2 := h1.set ecL hj' wx
    have hsw := run_swap_cells (P := Tryd.prog) gS 29 lsE (by kernel_rfl) (fun _ => by kernel_rfl) g 0 n cap i j hi' hj' (encL x) (encL y) (by rw [hs]; exact ecL.len x wx) (by rw [hs]; exact ecL.len y wy) (ecL.one x) (ecL.one y) W
      (fun k v hv => by rw [hs, Nat.zero_add]; exact h.1.range ecL hi k v hv) (fun k v hv => by rw [hs, Nat.zero_add]; exact h.1.range ecL hj k v hv)
      (fun k hk => by rw [hs] at hk ⊢; rw [Nat.zero_add]; exact (h.1.there hi' k hk).2) (fun k hk => by rw [hs] at hk ⊢; rw [Nat.zero_add]; exact (h.1.there hj' k hk).2)
    rw [hs, Nat.zero_add, Nat.zero_add] at hsw
    have hc : Chg (fun k => k = g) W ((W.setCells g (i * 17) (encL y)).setCells g (j * 17) (encL x)) := Chg.setCells (S := fun b => b = g) (L := g) rfl _ _ _ (Chg.setCells (S := fun b => b = g) (L := g) rfl _ _ _ (Chg.refl _ _))
    refine ⟨_, ?_, ⟨?_, hc.blk h.2 hne⟩, hc⟩
    · rw [hx]
      show ((Extern.ReflectliteSwapper.swap gS #[.int .i64 i, .int .i64 j, .slice (some ⟨g, 0, none⟩) n cap, typeHandle Tryd.prog 29]).run Tryd.prog W).andThen _ = _
      rw [hsw]
      rfl
    · unfold Srt.swap
      rw [hi, hj]
      exact h2
theorem lsort_small (w : World) (p : Option Addr) (n c : Nat) (hn : n ≤ 1) (bx : Nat) :
    Calls Tryd.prog 19 #[.iface 22 (.slice p n c), .func (.func 20) #[] #[.pointer (some ⟨bx, 0, none⟩)]] w fun e w' => e = .returned (.tuple #[]) ∧ Chg (fun _ => False) w w' := by
  obtain ⟨l, hl⟩ : ∃ l : List Sec, l.length = n := ⟨List.replicate n ([], 0), by simp⟩
  obtain ⟨f, hf⟩ : ∃ f, Tryd.prog.funcs.findIdx? (·.name == "internal/reflectlite" ++ ".Swapper$" ++ toString (swapperK n lsE 25)) = some f := by
    rcases (by omega : n = 0 ∨ n = 1) with rfl | rfl
    · exact ⟨37, by kernel_rfl⟩
    · exact ⟨38, by kernel_rfl⟩
  have hb : sliceBound Tryd.prog 29 lsE 25 p n c = #[] := by
    unfold sliceBound swapperK
    rcases (by omega : n = 0 ∨ n = 1) with rfl | rfl <;> simp
  have hw : Chg (fun _ => False) w (sliceWorld Tryd.prog Tryd.laysGg6_ren 22 p n c w) := Chg.of_below (((Below.refl _ _).alloc (Nat.le_refl _) _).alloc (by simp) _)
  refine Any.sort_Slice_of_pdq Tryd.laysGg6 22 29 lsT lsE (by kernel_rfl) (by kernel_rfl) (by kernel_rfl) (by kernel_rfl) 25 (fun _ => by kernel_rfl) p n c (by omega) f hf _ _ _ w _ ?_
  rw [hb]
  refine (pdq_calls (sorter_one ltL ordL 20 f #[.pointer (some ⟨bx, 0, none⟩)] #[] ofless_enters) l n _ hl (by omega) _ (by omega)).mono ?_
  rintro e w' ⟨rfl, _, _, _, _, hc⟩
  exact ⟨rfl, hw.trans hc⟩
theorem lsort_calls (w : World) (bx base g n cap : Nat) (l : List Sec) (h : RowG encL WfL 17 29 w base g n cap l) (hb : Blk w bx #[.slice (some ⟨g, 0, none⟩) n cap] 22) (hne : bx ≠ g) (h2 : 2 ≤ n) (hn : n ≤ 12) :
    Calls Tryd.prog 19 #[.iface 22 (.slice (some ⟨g, 0, none⟩) n cap), .func (.func 20) #[] #[.pointer (some ⟨bx, 0, none⟩)]] w fun e w' =>
      e = .returned (.tuple #[]) ∧ ∃ l', RowG encL WfL 17 29 w' base g n cap l' ∧ l'.Perm l ∧ (l'.Pairwise fun a b => ltL b a = false) ∧ Chg (fun k => k = g) w w' := by
  have hf : Tryd.prog.funcs.findIdx? (·.name == "internal/reflectlite" ++ ".Swapper$" ++ toString (swapperK n lsE 25)) = some 45 := by
    rw [lsK9 n h2]; kernel_rfl
  have hsb : sliceBound Tryd.prog 29 lsE 25 (some ⟨g, 0, none⟩) n cap = #[.slice (some ⟨g, 0, none⟩) n cap, typeHandle Tryd.prog 29] := by
    unfold sliceBound
    rw [lsK9 n h2]
    rfl
  have hB : Below w.heap.size w (sliceWorld Tryd.prog Tryd.laysGg6_ren 22 (some ⟨g, 0, none⟩) n cap w) := ((Below.refl _ _).alloc (Nat.le_refl _) _).alloc (by simp) _
  have hw : Chg (fun k => k = g) w (sliceWorld Tryd.prog Tryd.laysGg6_ren 22 (some ⟨g, 0, none⟩) n cap w) := Chg.of_below hB
  have S := sorter_of bx base g n cap hne 45 false (fun args W => run_callFunc_extern Tryd.func45 (by kernel_rfl) (by kernel_rfl) (by kernel_rfl) (e := Extern.ReflectliteSwapper.swap false) (by kernel_rfl) args W)
  refine Any.sort_Slice_of_pdq Tryd.laysGg6 22 29 lsT lsE (by kernel_rfl) (by kernel_rfl) (by kernel_rfl) (by kernel_rfl) 25 (fun _ => by kernel_rfl) _ n cap (by omega) _ hf _ _ _ w _ ?_
  rw [hsb]
  refine (pdq_calls S l n _ h.len.symm hn _ ⟨h.chg (S := fun _ => False) (Chg.of_below hB) (fun h => h), hw.blk hb hne⟩).mono ?_
  rintro e w' ⟨rfl, l', h1, hp, hu, hc⟩
  exact ⟨rfl, l', h1.1, hp, upto_pairwise hu (by rw [hp.length_eq, ← h.len]; exact Nat.le_refl _), hw.trans hc⟩
end Go.Proofs.YtgjabnpngggcmaaDoor
