/- A row of keys in order: the program's comparison, sort.Slice of them. -/
import Derived.Test.YtgjabnpngggcmaaLeaMore
import Derived.Test.YtgjabnpngggcmaaSortG
namespace Go.Proofs.Ytgjabnpngggcmaa
open Go Go.RowKit Go.Mem Gf Lea Go.Lib Go.Shelf
def WfK (k : Key) : Prop := k.length = 16
theorem ecK : EncK bV WfK 16 := ⟨fun x h => by rw [bV_len]; exact h, bV_one, by decide⟩
def ltK (a b : Key) : Bool := decide (Go.Lib.compareBytes a b < 0)
theorem ordK : Srt.Ord ltK := by
  refine ⟨fun a b h => ?_, fun a b c h1 h2 => ?_⟩
  · have := cmp_neg a b
    unfold ltK at *
    simp only [decide_eq_true_eq, decide_eq_false_iff_not] at *
    omega
  · have e1 := cmp_neg a b
    have e2 := cmp_neg b c
    have e3 := cmp_neg a c
    have := cmp_trans a b c
    unfold ltK at *
    simp only [decide_eq_false_iff_not] at *
    omega
instance : Inhabited {k : Key // WfK k} := ⟨⟨List.replicate 16 0, by unfold WfK; simp⟩⟩
theorem swoK : Go.Sort.SWO (fun a b : {k : Key // WfK k} => ltK a.1 b.1) := by
  refine ⟨fun x => ?_, fun x y z h1 h2 => ?_, fun x y z h1 h2 => ?_⟩
  · show ltK x.1 x.1 = false
    unfold ltK; rw [cmp_refl]; rfl
  · show ltK x.1 z.1 = true
    have h1 : ltK x.1 y.1 = true := h1
    have h2 : ltK y.1 z.1 = true := h2
    have e := cmp_neg x.1 z.1
    have e3 := cmp_neg x.1 y.1
    have t := cmp_trans z.1 x.1 y.1
    have t2 := cmp_trans x.1 y.1 z.1
    have e2 := cmp_neg y.1 z.1
    unfold ltK at *
    simp only [decide_eq_true_eq] at *
    have := cmp_eq0 x.1 z.1
    rcases Int.lt_or_le (compareBytes x.1 z.1) 0 with c | c
    · exact c
    · have hz : compareBytes z.1 x.1 ≤ 0 := by omega
      have := cmp_trans y.1 z.1 x.1 (by omega) hz
      omega
  · exact ordK.trans z.1 y.1 x.1 h2 h1
theorem slice_bys {w : World} {base g n cap : Nat} {l : List Key} (h : RowG bV WfK 16 26 w base g n cap l) {i : Nat} {x : Key} (hx : l[i]? = some x) : Bys w (.slice (some ⟨g, i * 16, none⟩) 16 16) x := by
  have hw : x.length = 16 := h.wf x (List.mem_of_getElem? hx)
  refine ⟨_, 16, by rw [hw], by omega, by decide, fun _ => ⟨g, i * 16, rfl, fun j u hj => ?_⟩⟩
  refine h.range ecK hx j _ ?_
  rw [bV_get, hj]; rfl
attribute [local go_sem ↓] Go.wp_at_zero Go.wp_at_succ
set_option maxRecDepth 100000 in
set_option maxHeartbeats 1000000 in
theorem bareless_calls (w : World) (bx base g n cap : Nat) (l : List Key) (h : RowG bV WfK 16 26 w base g n cap l) (hb : w.cell? ⟨bx, 0, none⟩ = some (.slice (some ⟨g, 0, none⟩) n cap)) (i j : Nat) (x y : Key) (hx : l[i]? = some x) (hy : l[j]? = some y) :
    Calls Try.prog 28 #[.int .i64 i, .int .i64 j, .pointer (some ⟨bx, 0, none⟩)] w fun e w' => e = .returned (.bool (ltK x y)) ∧ ∃ q, w' = w.drewN q := by
  have hi : i < n := by rw [h.len]; exact some_lt hx
  have hj : j < n := by rw [h.len]; exact some_lt hy
  have i0 : (0 : Int) ≤ (i : Int) := by omega
  have i1 : (i : Int) < (n : Int) := by omega
  have j0 : (0 : Int) ≤ (j : Int) := by omega
  have j1 : (j : Int) < (n : Int) := by omega
  have HL := Lib.hid (And.intro (slice_bys h hx) (slice_bys h hy))
  have t1 := h.there hi 0 (by decide)
  have t2 := h.there hj 0 (by decide)
  clear h hx hy
  go_enter Try.func28, Try.ntmps28
  go_wp2_with fail
  go_quiet (exact Calls.quiet_of_same (bcomp_calls _ _ x y _ (HL.out.1.drewN _) (HL.out.2.drewN _)))
  go_wp2
  go_ret
  exact ⟨rfl, nq, rfl⟩
theorem bareless_enters : ∀ args w, (callFunc 28 args).run Try.prog w = .ok (.enter 28 args) w := enters_of Try.func28 (by kernel_rfl) rfl
noncomputable def ksT : TypeInfo := (Try.prog.info? 37).get (by kernel_rfl)
noncomputable def ksE : TypeInfo := (Try.prog.info? 26).get (by kernel_rfl)
theorem ksK9 (n : Nat) (h2 : 2 ≤ n) : Lib.swapperK n ksE 17 = 9 := by
  have a : ksE.hasPointers = false := by kernel_rfl
  have b : ksE.bytes = 16 := by kernel_rfl
  have c : (n == 0) = false := by simp; omega
  have d : (n == 1) = false := by simp; omega
  simp [Lib.swapperK, a, b, c, d]
theorem ksort_small (w : World) (p : Option Addr) (n c : Nat) (hn : n ≤ 1) (bx : Nat) :
    Calls Try.prog 22 #[.iface 37 (.slice p n c), .func (.func 28) #[] #[.pointer (some ⟨bx, 0, none⟩)]] w fun e w' => e = .returned (.tuple #[]) ∧ Chg (fun _ => False) w w' := by
  obtain ⟨l, hl⟩ : ∃ l : List Key, l.length = n := ⟨List.replicate n [], by simp⟩
  obtain ⟨f, hf⟩ : ∃ f, Try.prog.funcs.findIdx? (·.name == "internal/reflectlite" ++ ".Swapper$" ++ toString (swapperK n ksE 17)) = some f := by
    rcases (by omega : n = 0 ∨ n = 1) with rfl | rfl
    · exact ⟨35, by kernel_rfl⟩
    · exact ⟨36, by kernel_rfl⟩
  have hb : sliceBound Try.prog 26 ksE 17 p n c = #[] := by
    unfold sliceBound swapperK
    rcases (by omega : n = 0 ∨ n = 1) with rfl | rfl <;> simp
  have hw : Chg (fun _ => False) w (sliceWorld Try.prog Try.laysGg6_ren 37 p n c w) := Chg.of_below (((Below.refl _ _).alloc (Nat.le_refl _) _).alloc (by simp) _)
  refine Any.sort_Slice_of_pdq Try.laysGg6 37 26 ksT ksE (by kernel_rfl) (by kernel_rfl) (by kernel_rfl) (by kernel_rfl) 17 (fun _ => by kernel_rfl) p n c (by omega) f hf _ _ _ w _ ?_
  rw [hb]
  refine (pdq_calls (sorter_one ltK ordK 28 f #[.pointer (some ⟨bx, 0, none⟩)] #[] bareless_enters) l n _ hl (by omega) _ (by omega)).mono ?_
  rintro e w' ⟨rfl, _, _, _, _, hc⟩
  exact ⟨rfl, hw.trans hc⟩
theorem ksort_row (w : World) (bx base g n cap : Nat) (l : List Key) (h : RowG bV WfK 16 26 w base g n cap l) (hb : Blk w bx #[.slice (some ⟨g, 0, none⟩) n cap] 37) (hne : bx ≠ g) (h2 : 2 ≤ n) (hn : n ≤ 1000000) :
    Calls Try.prog 22 #[.iface 37 (.slice (some ⟨g, 0, none⟩) n cap), .func (.func 28) #[] #[.pointer (some ⟨bx, 0, none⟩)]] w fun e w' =>
      e = .returned (.tuple #[]) ∧ ∃ l', RowG bV WfK 16 26 w' base g n cap l' ∧ l'.Perm l ∧ (l'.Pairwise fun a b => ltK b a = false) ∧ Chg (fun k => k = g) w w' := by
  obtain ⟨d, hd⟩ := toS h.wf
  have hdn : d.size = n := by rw [h.len, ← hd]; simp
  have hH := h.holds ecK d hd
  have hless : Go.Proofs.LessReadsK Try.prog 28 #[.pointer (some ⟨bx, 0, none⟩)] (encS bV WfK) 16 (fun a b : {k : Key // WfK k} => ltK a.1 b.1) g 0 d.size w := by
    intro m os dk hs i j hi hj
    have hp := h.put ecK m os dk (by omega)
    have hx : (dk.toList.map (·.1))[i]? = some (dk[i]!).1 := by
      rw [List.getElem?_map, Array.getElem?_toList, getElem!_pos dk i (by omega), Array.getElem?_eq_getElem (by omega)]; rfl
    have hy : (dk.toList.map (·.1))[j]? = some (dk[j]!).1 := by
      rw [List.getElem?_map, Array.getElem?_toList, getElem!_pos dk j (by omega), Array.getElem?_eq_getElem (by omega)]; rfl
    exact bareless_calls _ bx base g n cap _ hp.1 (by simpa using (hp.2.blk hb hne).cell 0) i j _ _ hx hy
  have hf : Try.prog.funcs.findIdx? (·.name == "internal/reflectlite" ++ ".Swapper$" ++ toString (swapperK d.size ksE 17)) = some 43 := by
    rw [ksK9 _ (by omega)]; kernel_rfl
  have := Go.Proofs.Any.sort_Slice_cells_sorted Try.laysGg6 37 26 ksT ksE (by kernel_rfl) (by kernel_rfl) (by kernel_rfl) (by kernel_rfl) 17 (fun _ => by kernel_rfl) (encS bV WfK) 16 (fun x => ecK.len x.1 x.2) (by kernel_rfl) (fun _ => by kernel_rfl)
    (fun x => ecK.one x.1) (fun a b : {k : Key // WfK k} => ltK a.1 b.1) swoK 28 #[.pointer (some ⟨bx, 0, none⟩)] bareless_enters g 0 cap d (by omega) (by omega) 43 hf false
    (fun args W => run_callFunc_extern Try.func43 (by kernel_rfl) (by kernel_rfl) (by kernel_rfl) (e := Extern.ReflectliteSwapper.swap false) (by kernel_rfl) args W) w hless hH (by obtain ⟨cur, hh, _⟩ := h.block; exact lt_of_block hh)
  rw [hdn] at this
  refine this.mono ?_
  rintro e w' ⟨rfl, d', m, os, hp, hs, rfl⟩
  rw [← hdn] at hp
  have hd' : d'.size = n := by rw [hp.1, hdn]
  have hput := h.put ecK m os d' hd'
  exact ⟨rfl, _, hput.1, by rw [← hd]; exact permIn_perm hp, sortedIn_pairwise hd' hs, hput.2⟩
theorem ksort_calls (w : World) (bx base : Nat) (a : Option Addr) (n c : Nat) (l : List Key) (h : OwnG bV WfK 16 26 w base (.slice a n c) l) (hb : Blk w bx #[.slice a n c] 37) (hne : (Value.slice a n c).ownBlock ≠ some bx) (hn : l.length ≤ 1000000) :
    Calls Try.prog 22 #[.iface 37 (.slice a n c), .func (.func 28) #[] #[.pointer (some ⟨bx, 0, none⟩)]] w fun e w' =>
      e = .returned (.tuple #[]) ∧ ∃ l', OwnG bV WfK 16 26 w' base (.slice a n c) l' ∧ l'.Perm l ∧ (l'.Pairwise fun a b => ltK b a = false) ∧ Chg (fun k => (Value.slice a n c).ownBlock = some k) w w' := by
  have hlen : n = l.length := by
    obtain ⟨_, _, e⟩ := h.slice
    injection e
  by_cases h2 : 2 ≤ n
  · obtain ⟨g, cap, e, hr⟩ := h.ex (by omega)
    injection e with ea en ec
    subst ea
    subst ec
    rw [← hlen] at hr
    refine (ksort_row w bx base g n c l hr hb (fun e => hne (by rw [e]; rfl)) h2 (by omega)).mono ?_
    rintro e w' ⟨rfl, l', h1, h3, h4, h5⟩
    exact ⟨rfl, l', h1.to, h3, h4, h5.mono (fun k hk => by rw [hk]; rfl)⟩
  · refine (ksort_small w a n c (by omega) bx).mono ?_
    rintro e w' ⟨rfl, h5⟩
    refine ⟨rfl, l, h.chg h5 (fun _ _ h => h), List.Perm.refl _, ?_, h5.mono (fun _ h => h.elim)⟩
    rw [List.pairwise_iff_getElem]
    intro p q hp hq hpq
    omega
end Go.Proofs.Ytgjabnpngggcmaa
