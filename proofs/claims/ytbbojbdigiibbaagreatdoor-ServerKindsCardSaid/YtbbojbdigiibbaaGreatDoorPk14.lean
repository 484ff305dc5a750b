/- Texts of this proof, packed: SrvSort, SrvPair, SrvAppN, SrvWith, SrvBytes, ShaWord, ShaMath. -/
import Derived.Test.YtbbojbdigiibbaaGreatDoorPk13
import Derived.Test.YtbbojbdigiibbaaGreatDoorPk00
import Derived.Laws.BitsLemmas
section
namespace Go.Proofs.YtbbojbdigiibbaaGreatDoor
open Go Go.RowKit Go.Mem Gf Lea Go.Lib Go.Shelf
set_option linter.unusedVariables false
abbrev BP := Int × Option Addr × Nat × Nat
def eP (x : BP) : List Value := [.int .i64 x.1, .slice x.2.1 x.2.2.1 x.2.2.2]
def WfP (_ : BP) : Prop := True
theorem ecP : EncK eP WfP 2 := ⟨fun x h => rfl, fun x v hv => by
  unfold eP at hv
  simp only [List.mem_cons, List.not_mem_nil, or_false] at hv
  rcases hv with rfl | rfl <;> rfl, by decide⟩
def ltP (a b : BP) : Bool := decide (a.1 < b.1)
theorem ordP : Srt.Ord ltP := by
  refine ⟨fun a b h => ?_, fun a b c h1 h2 => ?_⟩
  · unfold ltP at *
    simp only [decide_eq_true_eq, decide_eq_false_iff_not] at *
    omega
  · unfold ltP at *
    simp only [decide_eq_false_iff_not] at *
    omega
instance : Inhabited {k : BP // WfP k} := ⟨⟨(0, none, 0, 0), trivial⟩⟩
theorem swoP : Go.Sort.SWO (fun a b : {k : BP // WfP k} => ltP a.1 b.1) := by
  refine ⟨fun x => ?_, fun x y z h1 h2 => ?_, fun x y z h1 h2 => ?_⟩
  · show ltP x.1 x.1 = false
    unfold ltP; simp
  · show ltP x.1 z.1 = true
    have h1 : ltP x.1 y.1 = true := h1
    have h2 : ltP y.1 z.1 = true := h2
    unfold ltP at *
    simp only [decide_eq_true_eq] at *
    omega
  · exact ordP.trans z.1 y.1 x.1 h2 h1
attribute [local go_sem ↓] Go.wp_at_zero Go.wp_at_succ
set_option maxRecDepth 100000 in
set_option maxHeartbeats 1000000 in
theorem withless_calls (w : World) (bx base g n cap : Nat) (l : List BP) (h : RowG eP WfP 2 53 w base g n cap l) (hb : w.cell? ⟨bx, 17, none⟩ = some (.slice (some ⟨g, 0, none⟩) n cap)) (i j : Nat) (x y : BP) (hx : l[i]? = some x) (hy : l[j]? = some y) :
    Calls Tryz.prog 187 #[.int .i64 i, .int .i64 j, .pointer (some ⟨bx, 0, none⟩)] w fun e w' => e = .returned (.bool (ltP x y)) ∧ ∃ q, w' = w.drewN q := by
  have hi : i < n := by rw [h.len]; exact some_lt hx
  have hj : j < n := by rw [h.len]; exact some_lt hy
  have i0 : (0 : Int) ≤ (i : Int) := by omega
  have i1 : (i : Int) < (n : Int) := by omega
  have j0 : (0 : Int) ≤ (j : Int) := by omega
  have j1 : (j : Int) < (n : Int) := by omega
  have t1 := h.range ecP hx 0 (.int .i64 x.1) rfl
  have t2 := h.range ecP hy 0 (.int .i64 y.1) rfl
  simp only [Nat.add_zero] at t1 t2
  obtain ⟨xn, hxn⟩ : ∃ z, z = x.1 := ⟨_, rfl⟩
  obtain ⟨yn, hyn⟩ : ∃ z, z = y.1 := ⟨_, rfl⟩
  rw [← hxn] at t1
  rw [← hyn] at t2
  have HXY := Lib.hid (And.intro hxn hyn)
  clear h hx hy hxn hyn
  go_enter Tryz.func187, Tryz.ntmps187
  go_wp2_with fail
  go_region
  go_wp2
  go_ret
  exact ⟨by unfold ltP; rw [← HXY.out.1, ← HXY.out.2]; rfl, _, rfl⟩
theorem withless_enters : ∀ args w, (callFunc 187 args).run Tryz.prog w = .ok (.enter 187 args) w := enters_of Tryz.func187 (by kernel_rfl) rfl
noncomputable def psT : TypeInfo := (Tryz.prog.info? 41).get (by kernel_rfl)
noncomputable def psE : TypeInfo := (Tryz.prog.info? 53).get (by kernel_rfl)
theorem psK9 (n : Nat) (h2 : 2 ≤ n) : Lib.swapperK n psE 25 = 9 := by
  have a : psE.hasPointers = true := by kernel_rfl
  have b : psE.bytes = 32 := by kernel_rfl
  have c : (n == 0) = false := by simp; omega
  have d : (n == 1) = false := by simp; omega
  simp [Lib.swapperK, a, b, c, d]
theorem psort_small (w : World) (p : Option Addr) (n c : Nat) (hn : n ≤ 1) (bx : Nat) :
    Calls Tryz.prog 114 #[.iface 41 (.slice p n c), .func (.func 187) #[] #[.pointer (some ⟨bx, 0, none⟩)]] w fun e w' => e = .returned (.tuple #[]) ∧ Chg (fun _ => False) w w' := by
  obtain ⟨l, hl⟩ : ∃ l : List BP, l.length = n := ⟨List.replicate n (0, none, 0, 0), by simp⟩
  obtain ⟨f, hf⟩ : ∃ f, Tryz.prog.funcs.findIdx? (·.name == "internal/reflectlite" ++ ".Swapper$" ++ toString (swapperK n psE 25)) = some f := by
    rcases (by omega : n = 0 ∨ n = 1) with rfl | rfl
    · exact ⟨192, by kernel_rfl⟩
    · exact ⟨193, by kernel_rfl⟩
  have hb : sliceBound Tryz.prog 53 psE 25 p n c = #[] := by
    unfold sliceBound swapperK
    rcases (by omega : n = 0 ∨ n = 1) with rfl | rfl <;> simp
  have hw : Chg (fun _ => False) w (sliceWorld Tryz.prog Tryz.laysGg6_ren 41 p n c w) := Chg.of_below (((Below.refl _ _).alloc (Nat.le_refl _) _).alloc (by simp) _)
  refine Any.sort_Slice_of_pdq Tryz.laysGg6 41 53 psT psE (by kernel_rfl) (by kernel_rfl) (by kernel_rfl) (by kernel_rfl) 25 (fun _ => by kernel_rfl) p n c (by omega) f hf _ _ _ w _ ?_
  rw [hb]
  refine (pdq_calls (sorter_one ltP ordP 187 f #[.pointer (some ⟨bx, 0, none⟩)] #[] withless_enters) l n _ hl (by omega) _ (by omega)).mono ?_
  rintro e w' ⟨rfl, _, _, _, _, hc⟩
  exact ⟨rfl, hw.trans hc⟩
theorem psort_row (w : World) (bx base g n cap : Nat) (l : List BP) (cc : Array Value) (h : RowG eP WfP 2 53 w base g n cap l) (hb : Blk w bx cc 205) (hu : cc[17]? = some (.slice (some ⟨g, 0, none⟩) n cap)) (hne : bx ≠ g) (h2 : 2 ≤ n) (hn : n ≤ 1000000) :
    Calls Tryz.prog 114 #[.iface 41 (.slice (some ⟨g, 0, none⟩) n cap), .func (.func 187) #[] #[.pointer (some ⟨bx, 0, none⟩)]] w fun e w' =>
      e = .returned (.tuple #[]) ∧ ∃ l', RowG eP WfP 2 53 w' base g n cap l' ∧ l'.Perm l ∧ (l'.Pairwise fun a b => ltP b a = false) ∧ Chg (fun k => k = g) w w' := by
  obtain ⟨d, hd⟩ := toS h.wf
  have hdn : d.size = n := by rw [h.len, ← hd]; simp
  have hH := h.holds ecP d hd
  have hless : Go.Proofs.LessReadsK Tryz.prog 187 #[.pointer (some ⟨bx, 0, none⟩)] (encSub eP WfP) 2 (fun a b : {k : BP // WfP k} => ltP a.1 b.1) g 0 d.size w := by
    intro m os dk hs i j hi hj
    have hp := h.put ecP m os dk (by omega)
    have hx : (dk.toList.map (·.1))[i]? = some (dk[i]!).1 := by
      rw [List.getElem?_map, Array.getElem?_toList, getElem!_pos dk i (by omega), Array.getElem?_eq_getElem (by omega)]; rfl
    have hy : (dk.toList.map (·.1))[j]? = some (dk[j]!).1 := by
      rw [List.getElem?_map, Array.getElem?_toList, getElem!_pos dk j (by omega), Array.getElem?_eq_getElem (by omega)]; rfl
    exact withless_calls _ bx base g n cap _ hp.1 (by rw [(hp.2.blk hb hne).cell 17]; exact hu) i j _ _ hx hy
  have hf : Tryz.prog.funcs.findIdx? (·.name == "internal/reflectlite" ++ ".Swapper$" ++ toString (swapperK d.size psE 25)) = some 200 := by
    rw [psK9 _ (by omega)]; kernel_rfl
  have := Go.Proofs.Any.sort_Slice_cells_sorted Tryz.laysGg6 41 53 psT psE (by kernel_rfl) (by kernel_rfl) (by kernel_rfl) (by kernel_rfl) 25 (fun _ => by kernel_rfl) (encSub eP WfP) 2 (fun x => ecP.len x.1 x.2) (by kernel_rfl) (fun _ => by kernel_rfl)
    (fun x => ecP.one x.1) (fun a b : {k : BP // WfP k} => ltP a.1 b.1) swoP 187 #[.pointer (some ⟨bx, 0, none⟩)] withless_enters g 0 cap d (by omega) (by omega) 200 hf false
    (fun args W => run_callFunc_extern Tryz.func200 (by kernel_rfl) (by kernel_rfl) (by kernel_rfl) (e := Extern.ReflectliteSwapper.swap false) (by kernel_rfl) args W) w hless hH (by obtain ⟨cur, hh, _⟩ := h.block; exact lt_of_block hh)
  rw [hdn] at this
  refine this.mono ?_
  rintro e w' ⟨rfl, d', m, os, hp, hs, rfl⟩
  rw [← hdn] at hp
  have hd' : d'.size = n := by rw [hp.1, hdn]
  have hput := h.put ecP m os d' hd'
  exact ⟨rfl, _, hput.1, by rw [← hd]; exact permIn_perm hp, sortedIn_pairwise hd' hs, hput.2⟩
theorem psort_calls (w : World) (bx base : Nat) (a : Option Addr) (n c : Nat) (l : List BP) (cc : Array Value) (h : OwnG eP WfP 2 53 w base (.slice a n c) l) (hb : Blk w bx cc 205) (hu : cc[17]? = some (.slice a n c)) (hne : (Value.slice a n c).ownBlock ≠ some bx) (hn : l.length ≤ 1000000) :
    Calls Tryz.prog 114 #[.iface 41 (.slice a n c), .func (.func 187) #[] #[.pointer (some ⟨bx, 0, none⟩)]] w fun e w' =>
      e = .returned (.tuple #[]) ∧ ∃ l', OwnG eP WfP 2 53 w' base (.slice a n c) l' ∧ l'.Perm l ∧ (l'.Pairwise fun a b => ltP b a = false) ∧ Chg (fun k => (Value.slice a n c).ownBlock = some k) w w' := by
  have hlen : n = l.length := by
    obtain ⟨_, _, e⟩ := h.slice
    injection e
  by_cases h2 : 2 ≤ n
  · obtain ⟨g, cap, e, hr⟩ := h.ex (by omega)
    injection e with ea en ec
    subst ea
    subst ec
    rw [← hlen] at hr
    refine (psort_row w bx base g n c l cc hr hb hu (fun e => hne (by rw [e]; rfl)) h2 (by omega)).mono ?_
    rintro e w' ⟨rfl, l', h1, h3, h4, h5⟩
    exact ⟨rfl, l', h1.to, h3, h4, h5.mono (fun k hk => by rw [hk]; rfl)⟩
  · refine (psort_small w a n c (by omega) bx).mono ?_
    rintro e w' ⟨rfl, h5⟩
    refine ⟨rfl, l, h.chg h5 (fun _ _ h => h), List.Perm.refl _, ?_, h5.mono (fun _ h => h.elim)⟩
    rw [List.pairwise_iff_getElem]
    intro p q hp hq hpq
    omega
end Go.Proofs.YtbbojbdigiibbaaGreatDoor
end
section
namespace Go.Mem
open Go Go.RowKit Gf Lea Go.Proofs.YtbbojbdigiibbaaGreatDoor
set_option linter.unusedVariables false
theorem perm_lift {α β : Type} : ∀ (p : List α) {q : List (α × β)}, p.Perm (q.map (·.1)) → ∃ q' : List (α × β), q'.Perm q ∧ q'.map (·.1) = p
  | [], q, h => by
    have := h.length_eq
    simp at this
    have : q = [] := List.eq_nil_of_length_eq_zero (by simpa using this.symm)
    exact ⟨[], by rw [this], rfl⟩
  | a :: t, q, h => by
    obtain ⟨z, hz, rfl⟩ := List.mem_map.1 (h.mem_iff.1 (List.mem_cons_self))
    obtain ⟨s, t2, rfl⟩ := List.append_of_mem hz
    have h1 : ((s ++ z :: t2).map (·.1)).Perm (z.1 :: (s ++ t2).map (·.1)) := by
      rw [List.map_append, List.map_cons, List.map_append]
      exact List.perm_middle
    obtain ⟨q', h2, h3⟩ := perm_lift t (h.trans h1).cons_inv
    exact ⟨z :: q', (h2.cons z).trans List.perm_middle.symm, by rw [List.map_cons, h3]⟩
def slP (p : BP) : Value := .slice p.2.1 p.2.2.1 p.2.2.2
def BPs (w : World) (N : Nat → Prop) (ps : List BP) (l : List Blob) : Prop :=
  ∃ q : List (BP × Blob), q.map (·.1) = ps ∧ q.map (·.2) = l ∧ ∀ z ∈ q, z.1.1 = z.2.1 ∧ z.1.2.2.1 = z.2.2.length ∧ DataZ w N (slP z.1) z.2.2
theorem BPs.nil (w : World) (N : Nat → Prop) : BPs w N [] [] := ⟨[], rfl, rfl, fun z h => by cases h⟩
theorem BPs.len {w : World} {N : Nat → Prop} {ps : List BP} {l : List Blob} (h : BPs w N ps l) : ps.length = l.length := by
  obtain ⟨q, rfl, rfl, _⟩ := h
  rw [List.length_map, List.length_map]
theorem BPs.chg {S N : Nat → Prop} {w w' : World} {ps : List BP} {l : List Blob} (h : BPs w N ps l) (hc : Chg S w w') (hs : ∀ b, S b → b < w.heap.size → N b) : BPs w' N ps l := by
  obtain ⟨q, h1, h2, h3⟩ := h
  exact ⟨q, h1, h2, fun z hz => ⟨(h3 z hz).1, (h3 z hz).2.1, (h3 z hz).2.2.chg hc hs⟩⟩
theorem BPs.app {w : World} {N : Nat → Prop} {ps ps' : List BP} {l l' : List Blob} (h : BPs w N ps l) (h' : BPs w N ps' l') : BPs w N (ps ++ ps') (l ++ l') := by
  obtain ⟨q, h1, h2, h3⟩ := h
  obtain ⟨q', h1', h2', h3'⟩ := h'
  refine ⟨q ++ q', by rw [List.map_append, h1, h1'], by rw [List.map_append, h2, h2'], fun z hz => ?_⟩
  rcases List.mem_append.1 hz with hz | hz
  · exact h3 z hz
  · exact h3' z hz
theorem BPs.one {w : World} {N : Nat → Prop} {p : BP} {x : Blob} (h1 : p.1 = x.1) (h2 : p.2.2.1 = x.2.length) (h3 : DataZ w N (slP p) x.2) : BPs w N [p] [x] :=
  ⟨[(p, x)], rfl, rfl, fun z hz => by rw [List.mem_singleton.1 hz]; exact ⟨h1, h2, h3⟩⟩
theorem BPs.perm {w : World} {N : Nat → Prop} {ps ps' : List BP} {l : List Blob} (h : BPs w N ps l) (hp : ps'.Perm ps) (hs : ps'.Pairwise fun a b => ltP b a = false) : ∃ l', BPs w N ps' l' ∧ l'.Perm l ∧ l'.Pairwise fun a b : Blob => a.1 ≤ b.1 := by
  obtain ⟨q, rfl, rfl, h3⟩ := h
  obtain ⟨q', h4, rfl⟩ := perm_lift ps' hp
  refine ⟨q'.map (·.2), ⟨q', rfl, rfl, fun z hz => h3 z (h4.mem_iff.1 hz)⟩, h4.map _, ?_⟩
  rw [List.pairwise_map] at hs ⊢
  refine hs.imp_of_mem fun {a b} ha hb hab => ?_
  have e1 := (h3 a (h4.mem_iff.1 ha)).1
  have e2 := (h3 b (h4.mem_iff.1 hb)).1
  unfold ltP at hab
  simp only [decide_eq_false_iff_not] at hab
  omega
theorem BlAt.pairs {w : World} {N : Nat → Prop} {u : Value} {l : List Blob} (h : BlAt w N u l) : ∃ a c ps, u = .slice a l.length c ∧ BPs w N ps l ∧ (0 < l.length → ∃ b off, a = some ⟨b, off, none⟩ ∧ b < w.heap.size ∧ ¬ N b ∧ ∀ (i : Nat) (p : BP), ps[i]? = some p → w.cell? ⟨b, off + i * 2, none⟩ = some (.int .i64 p.1) ∧ w.cell? ⟨b, off + i * 2 + 1, none⟩ = some (slP p)) := by
  obtain ⟨a, c, rfl, h1, h2, h3⟩ := h
  rcases Nat.eq_zero_or_pos l.length with h0 | h0
  · have : l = [] := List.eq_nil_of_length_eq_zero h0
    subst this
    exact ⟨a, c, [], rfl, BPs.nil _ _, fun h => by simp at h⟩
  · obtain ⟨b, off, rfl, hb, hn, h4⟩ := h3 h0
    have key : ∀ k, k ≤ l.length → ∃ ps, ps.length = k ∧ BPs w N ps (l.take k) ∧ ∀ (i : Nat) (p : BP), ps[i]? = some p → w.cell? ⟨b, off + i * 2, none⟩ = some (.int .i64 p.1) ∧ w.cell? ⟨b, off + i * 2 + 1, none⟩ = some (slP p) := by
      intro k
      induction k with
      | zero => exact fun _ => ⟨[], rfl, by rw [List.take_zero]; exact BPs.nil _ _, fun i p h => by simp at h⟩
      | succ k ih =>
        intro hk
        obtain ⟨ps, e1, e2, e3⟩ := ih (by omega)
        have hx : l[k]? = some (l[k]'(by omega)) := by simp
        generalize l[k]'(by omega) = x at hx
        obtain ⟨c1, a', c', c2, hd⟩ := h4 k x hx
        refine ⟨ps ++ [(x.1, a', x.2.length, c')], by simp [e1], ?_, fun i p hp => ?_⟩
        · rw [List.take_add_one, hx]
          exact e2.app (BPs.one rfl rfl hd)
        · rcases Nat.lt_or_ge i k with hi | hi
          · rw [List.getElem?_append_left (by omega)] at hp
            exact e3 i p hp
          · rw [List.getElem?_append_right (by omega), e1] at hp
            have : i = k := by
              have := some_lt hp
              simp at this
              omega
            subst this
            simp at hp
            subst hp
            exact ⟨c1, c2⟩
    obtain ⟨ps, e1, e2, e3⟩ := key l.length (Nat.le_refl _)
    rw [List.take_length] at e2
    exact ⟨_, c, ps, rfl, e2, fun _ => ⟨b, off, rfl, hb, hn, e3⟩⟩
end Go.Mem
end
section
namespace Go.Mem
open Go Go.RowKit Gf
section
variable {P : Program} {w : World} {ops : Array Oper} {rest : List Oper} {o : Oper} {a : Act} {Q : Exit → Act → World → Prop}
theorem appN_own {α : Type} {enc : α → List Value} {Wf : α → Prop} {t e : TypeId} {z : Value} {size bytes : Nat} (E : ElemK P t e z size bytes) (EC : EncK enc Wf size) (hgd : o.guard = none) (s x : Operand) (ho : o.op = .call { callee := .builtin .append, args := #[s, x], argTypes := #[t, t] })
    (hs : a.eval s = .slice none 0 0) {L off n cap : Nat} {l : List α} (hw : ∀ x ∈ l, Wf x) (hx : a.eval x = .slice (some ⟨L, off, none⟩) n cap) (hl : l.length = n) (hnews : ∀ j u, (allV enc l)[j]? = some u → w.cell? ⟨L, off + j, none⟩ = some u)
    (hn : n ≤ maxLen) (hby : n * bytes ≤ 140737488355328)
    (h : ∀ v' w', OwnG enc Wf size e w' w.heap.size v' l → Below w.heap.size w w' → wpList P ops Q rest (a.put o.dst v') w') : wpList P ops Q (o :: rest) a w := by
  obtain ⟨i, hi, hz, hsz, hb⟩ := info_parts E.info
  refine wpList_plain hgd fun K hK => wp_append_own w s x t ho w.heap.size e i z size bytes E.under hi hz hsz hb E.zsize E.pos (.slice none 0 0) 0 [] hs (World.ownsRow_nil _ _ _ _) ⟨L, off, none⟩ n cap (allV enc l) hx (by rw [allV_len EC l hw, hl])
    (fun j y hj => by
      rw [show (⟨L, off, none⟩ : Addr).add j = ⟨L, off + j, none⟩ from by
        unfold Addr.add
        split
        · subst_vars; rfl
        · rfl]
      exact hnews j y hj) (allV_news EC l) (by omega) (by rw [Nat.zero_add]; exact hby) (Nat.le_refl _) (fun v' w' h2 h3 _ => hK _ _ ?_)
  rw [Nat.zero_add, List.nil_append] at h2
  exact h v' w' ⟨by rw [hl]; exact h2, hw⟩ (grown_none h3 rfl)
end
end Go.Mem
end
section
namespace Go.Mem
open Go Go.RowKit Gf Lea
def withA : List Blob → List Blob → List Blob
  | out, [] => out
  | out, b :: r => if findB out b.1 = none then withA (out ++ [b]) r else withA out r
theorem withA_snoc (b : Blob) : ∀ (r out : List Blob), withA out (r ++ [b]) = if findB (withA out r) b.1 = none then withA out r ++ [b] else withA out r
  | [], out => rfl
  | x :: r, out => by
    rw [List.cons_append, withA, withA]
    split
    · exact withA_snoc b r _
    · exact withA_snoc b r _
theorem withA_len : ∀ (r out : List Blob), (withA out r).length ≤ out.length + r.length
  | [], out => by simp [withA]
  | x :: r, out => by
    rw [withA]
    split
    · have := withA_len r (out ++ [x]); simp at this ⊢; omega
    · have := withA_len r out; simp; omega
theorem BPs.blAt {w : World} {N : Nat → Prop} {a : Option Addr} {n c base : Nat} {ps : List Go.Proofs.YtbbojbdigiibbaaGreatDoor.BP} {l : List Blob} (h : BPs w N ps l) (ho : OwnG Go.Proofs.YtbbojbdigiibbaaGreatDoor.eP Go.Proofs.YtbbojbdigiibbaaGreatDoor.WfP 2 53 w base (.slice a n c) ps) (hN : ∀ g, (Value.slice a n c).ownBlock = some g → ¬ N g) : BlAt w N (.slice a n c) l := by
  have hl := h.len
  obtain ⟨a1, c1, e1⟩ := ho.slice
  have hn : n = l.length := by injection e1 with _ e _; omega
  rcases Nat.eq_zero_or_pos l.length with h0 | h0
  · have hm : c ≤ maxLen := by
      rcases ho.own.2 with ⟨e, _⟩ | ⟨g, cap, cur, e, _, _, _, hm, _⟩
      · injection e with _ _ e; rw [e]; exact Nat.zero_le _
      · injection e with _ _ e; rw [e]; exact hm
    exact ⟨a, c, by rw [hn], by rw [h0]; exact Nat.zero_le _, hm, fun h => by omega⟩
  · obtain ⟨g, cap, e, hr⟩ := ho.ex (by omega)
    obtain ⟨cur, hh, hb, k1, k2, k3, k4⟩ := hr.block
    injection e with e2 e3 e4
    subst e2
    subst e4
    refine ⟨_, c, by rw [hn], by omega, k2, fun _ => ⟨g, 0, rfl, hr.lt, hN g rfl, fun i x hx => ?_⟩⟩
    have hi := some_lt hx
    obtain ⟨q, hq1, hq2, hq3⟩ := h
    obtain ⟨z, hz⟩ : ∃ z, q[i]? = some z := ⟨_, List.getElem?_eq_getElem (by rw [← hq2, List.length_map] at hi; exact hi)⟩
    have hz2 : z.2 = x := by
      rw [← hq2, List.getElem?_map, hz] at hx
      simpa using hx
    have hz1 : ps[i]? = some z.1 := by rw [← hq1, List.getElem?_map, hz]; rfl
    obtain ⟨f1, f2, f3⟩ := hq3 z (List.mem_of_getElem? hz)
    have g0 := hr.cell (j := i * 2) (by rw [hl]; omega)
    have g1 := hr.cell (j := i * 2 + 1) (by rw [hl]; omega)
    have t0 := allV_get Go.Proofs.YtbbojbdigiibbaaGreatDoor.ecP ps (fun _ _ => trivial) i _ hz1 0 (by decide)
    have t1 := allV_get Go.Proofs.YtbbojbdigiibbaaGreatDoor.ecP ps (fun _ _ => trivial) i _ hz1 1 (by decide)
    rw [Nat.add_zero] at t0
    refine ⟨by rw [Nat.zero_add, g0, t0, ← hz2, ← f1]; rfl, z.1.2.1, z.1.2.2.2, by rw [Nat.zero_add, g1, t1, ← hz2, ← f2]; rfl, ?_⟩
    have f4 := f3
    unfold slP at f4
    rw [f2, hz2] at f4
    exact f4
end Go.Mem
namespace Go.Proofs.YtbbojbdigiibbaaGreatDoor
open Go Go.RowKit Go.Mem Gf Lea
set_option linter.unusedVariables false
attribute [local go_sem ↓] Go.wp_at_zero Go.wp_at_succ
attribute [local go_sem ↓] load_key store_key load_cont store_cont build_cont build_cont0
attribute [local go_sem] arrayAt_key ptrB_eq ptrO_eq ptrIs_eq aggL_eq aggIs_eq readK_drew hasK_drew someK_drew readK_alloc_past hasK_alloc_past readK_alloc_in hasK_alloc_in setCells_drew setCells_alloc_past setCells_alloc_at setCells_zero
attribute [local irreducible] contV zeroCont
theorem _root_.Go.Mem.BPs.weak {w : World} {N : Nat → Prop} {ps : List BP} {l : List Blob} (h : BPs w N ps l) : BPs w (fun _ => False) ps l := by
  obtain ⟨q, h1, h2, h3⟩ := h
  exact ⟨q, h1, h2, fun z hz => ⟨(h3 z hz).1, (h3 z hz).2.1, (h3 z hz).2.2.mono fun _ h => h.elim⟩⟩
theorem _root_.Go.Mem.BPs.mono {w : World} {N M : Nat → Prop} {ps : List BP} {l : List Blob} (h : BPs w N ps l) (hM : ∀ b, M b → N b ∨ w.heap.size ≤ b) : BPs w M ps l := by
  obtain ⟨q, h1, h2, h3⟩ := h
  exact ⟨q, h1, h2, fun z hz => ⟨(h3 z hz).1, (h3 z hz).2.1, (h3 z hz).2.2.mono hM⟩⟩
theorem cont_setk {w : World} {p : Nat} {b : Bool} {k k' : List Value} {u : Value} {t : TypeId} (h : Blk w p (contV b k u).toArray t) (hk : k.length = 16) (hk' : k'.length = 16) : Blk (w.setCells p 1 k') p (contV b k' u).toArray t := by
  obtain ⟨arr, g1, g2, g3⟩ := Blk.setCells k' 1 _ _ h
  have hs : (contV b k u).toArray.size = 18 := by simp [contV_len b hk]
  have e : arr = (contV b k' u).toArray := by
    apply Array.ext_getElem?
    intro j
    rcases Nat.lt_or_ge j 18 with hj | hj
    · rw [g3 j (by omega), List.getElem?_toArray, List.getElem?_toArray]
      rcases (by omega : j = 0 ∨ (1 ≤ j ∧ j < 17) ∨ j = 17) with rfl | h1 | rfl
      · rw [if_neg (by omega), contV_0, contV_0]
      · rw [if_pos (by omega)]
        have := contV_k b k' u (i := j - 1) (by omega)
        rw [show j - 1 + 1 = j from by omega] at this
        exact this.symm
      · rw [if_neg (by omega), contV_u b hk, contV_u b hk']
    · rw [Array.getElem?_eq_none (by omega), Array.getElem?_eq_none (by simp [contV_len b hk']; omega)]
  rw [← e]; exact g1
def WithP (w : World) (is : Bool) (k en : Key) (l lv : List Blob) (e : Ending) (w' : World) : Prop :=
  ∃ u l', e = .returned (.agg (contV true (bV (if is then k else en)) u).toArray) ∧ BlAt w' (fun _ => False) u l' ∧ l'.Perm (withA lv l) ∧ (l'.Pairwise fun a b : Blob => a.1 ≤ b.1) ∧ Below w.heap.size w w'
set_option maxRecDepth 100000 in
set_option maxHeartbeats 1000000 in
theorem with_calls (N : Nat → Prop) (w : World) (is : Bool) (k : Key) (u v : Value) (l lv : List Blob) (en : Key) (hk : k.length = 16) (he : en.length = 16) (h : BlAt w (fun _ => False) u l) (hv : BlAt w N v lv) (hv0 : 0 < lv.length) (hv1 : lv.length ≤ 16) (hl16 : l.length ≤ 16) :
    Calls Tryz.prog 146 #[.agg (contV is (bV k) u).toArray, .agg (bV en).toArray, v] w (WithP w is k en l lv) := by
  have hkl : (bV k).length = 16 := by rw [bV_len]; exact hk
  have hu := contV_u is hkl u
  have hcl := contV_len is hkl u
  have hc0 := contV_0 is (bV k) u
  obtain ⟨cc, hcc⟩ : ∃ cc, cc = contV is (bV k) u := ⟨_, rfl⟩
  obtain ⟨ce, hce⟩ : ∃ ce, ce = bV en := ⟨_, rfl⟩
  have hel : ce.length = 16 := by rw [hce, bV_len]; exact he
  rw [← hcc] at hu hcl hc0 ⊢
  rw [← hce]
  have k1 : cutC ce.toArray 0 16 = ce := cutC_all hel
  have ha1 : ∀ v ∈ ce, v.oneCell' = true := fun v hv => by rw [hce] at hv; exact bV_one _ v hv
  have hqa : AllK 16 ce := ⟨hel, ha1⟩
  have hca : AllK 18 (contV true ce (.slice none 0 0)) := ⟨contV_len true hel _, contV_one _ ha1 _ rfl⟩
  have k2 : cutC (contV true ce (.slice none 0 0)).toArray 0 18 = contV true ce (.slice none 0 0) := cutC_all hca.1
  have hcl2 := hca.1
  obtain ⟨va, vc, ps, rfl, hps, hvc⟩ := hv.pairs
  obtain ⟨vb, vo, rfl, hvl, hvn, hcells⟩ := hvc hv0
  have hpl := hps.len
  obtain ⟨n, hn⟩ : ∃ n, n = lv.length := ⟨_, rfl⟩
  rw [← hn] at hv0 hv1 hpl ⊢
  have halll : (allV eP ps).length = n * 2 := by rw [allV_len ecP ps (fun _ _ => trivial), hpl]
  have hnews : ∀ j x, (allV eP ps)[j]? = some x → w.cell? ⟨vb, vo + j, none⟩ = some x := fun j x hj => by
    have hlt := some_lt hj
    rw [halll] at hlt
    have hi : j / 2 < ps.length := by omega
    have hp : ps[j / 2]? = some ps[j / 2] := List.getElem?_eq_getElem hi
    obtain ⟨c1, c2⟩ := hcells _ _ hp
    have e := allV_get ecP ps (fun _ _ => trivial) _ _ hp (j % 2) (by omega)
    rw [show j / 2 * 2 + j % 2 = j from by omega, hj] at e
    rcases (by omega : j % 2 = 0 ∨ j % 2 = 1) with h0 | h0
    · rw [h0] at e
      rw [show vo + j = vo + j / 2 * 2 from by omega, c1, e]; rfl
    · rw [h0] at e
      rw [show vo + j = vo + j / 2 * 2 + 1 from by omega, c2, e]; rfl
  have hall1 : ∀ x ∈ allV eP ps, x.oneCell' = true := allV_news ecP ps
  have H := Lib.hid (And.intro h (And.intro hv (And.intro hcc (And.intro hce hn))))
  have HV := Lib.hid (And.intro hps (And.intro hpl (And.intro hnews (And.intro hvl (And.intro hall1 halll)))))
  clear h hv hcc hce hn hps hpl hcells hnews hvl hall1 halll
  go_enter Tryz.func146, Tryz.ntmps146
  go_upto_region 2 with fail
  obtain ⟨wz, hwz⟩ : ∃ q, q = ((w.alloc (.cells cc.toArray 205)).alloc (.cells ce.toArray 39)).alloc (.cells #[Value.bool false, .int .u8 0, .int .u8 0, .int .u8 0, .int .u8 0, .int .u8 0, .int .u8 0, .int .u8 0, .int .u8 0, .int .u8 0, .int .u8 0, .int .u8 0, .int .u8 0, .int .u8 0, .int .u8 0, .int .u8 0, .int .u8 0, .slice none 0 0] 205) := ⟨_, rfl⟩
  have hwzs : wz.heap.size = w.heap.size + 1 + 1 + 1 := by rw [hwz]; simp
  have hbz : Below w.heap.size w wz := by
    rw [hwz]
    have h1 : Below w.heap.size w (w.alloc (.cells cc.toArray 205)) := (Below.refl _ _).alloc (Nat.le_refl _) _
    have h2 := h1.alloc h1.size (.cells ce.toArray 39)
    exact h2.alloc h2.size _
  have hk3 : Blk wz w.heap.size cc.toArray 205 := by
    rw [hwz]; exact ((Blk.new w cc.toArray 205).alloc (.cells ce.toArray 39)).alloc _
  have hk6 : Blk wz (w.heap.size + 1 + 1) zeroCont.toArray 205 := by
    rw [hwz, ← zeroC]; exact Blk.new_at _ _ _ _ (by simp)
  rw [← hwz]
  have hk7 : Blk (wz.alloc (.cells (contV true ce (.slice none 0 0)).toArray 205)) (w.heap.size + 1 + 1 + 1) (contV true ce (.slice none 0 0)).toArray 205 := Blk.new_at _ _ _ _ hwzs.symm
  have hk3a := hk3.alloc (.cells (contV true ce (.slice none 0 0)).toArray 205)
  have hk6a := hk6.alloc (.cells (contV true ce (.slice none 0 0)).toArray 205)
  have hba := hbz.alloc hbz.size (.cells (contV true ce (.slice none 0 0)).toArray 205)
  obtain ⟨wa, hwa⟩ : ∃ q, q = wz.alloc (.cells (contV true ce (.slice none 0 0)).toArray 205) := ⟨_, rfl⟩
  rw [← hwa] at hk7 hk3a hk6a hba ⊢
  obtain ⟨p3, hp3⟩ : ∃ q, q = w.heap.size := ⟨_, rfl⟩
  obtain ⟨p6, hp6⟩ : ∃ q, q = w.heap.size + 1 + 1 := ⟨_, rfl⟩
  obtain ⟨p7, hp7⟩ : ∃ q, q = w.heap.size + 1 + 1 + 1 := ⟨_, rfl⟩
  have hge : w.heap.size ≤ p3 ∧ p3 < p6 ∧ p6 < p7 := by omega
  rw [← hp7] at hk7 ⊢
  rw [← hp6] at hk6a ⊢
  rw [← hp3] at hk3a ⊢
  have c30 : wa.cell? ⟨p3, 0, none⟩ = some (.bool is) := by rw [hk3a.cell 0]; simpa using hc0
  have c317 : wa.cell? ⟨p3, 17, none⟩ = some u := by rw [hk3a.cell 17]; simpa using hu
  have HB := Lib.hid (And.intro hk3a (And.intro hk6a (And.intro hk7 (And.intro hba hge))))
  have HC := Lib.hid (And.intro hu (And.intro hcl (And.intro hc0 hqa)))
  clear hwz hwzs hbz hk3 hk6 hk7 hk3a hk6a hba hwa hp3 hp6 hp7 hge k1 k2 hcl2 hca hu hcl hc0 hqa ha1
  obtain ⟨cb, hcb⟩ : ∃ c, c = bV k := ⟨_, rfl⟩
  have hbl : cb.length = 16 := by rw [hcb]; exact hkl
  have hb1 : AllK 16 cb := ⟨hbl, fun v hv => by rw [hcb] at hv; exact bV_one _ v hv⟩
  have r3 : readK 16 wa p3 1 = cb := blk_read HB.out.1 hbl fun j hj => by
    rw [H.out.2.2.1, ← hcb, Nat.add_comm]
    simpa using contV_k is cb u (by omega)
  have g3 : HasK 16 wa p3 1 := blk_has HB.out.1 (by simp [HC.out.2.1])
  have g7 : HasK 16 wa p7 1 := blk_has HB.out.2.2.1 (by simp [contV_len true HC.out.2.2.2.1])
  have HCB := Lib.hid hcb
  clear hcb
  obtain ⟨ek, hek⟩ : ∃ q, q = (if is then cb else ce) := ⟨_, rfl⟩
  have hea : AllK 16 ek := by
    rw [hek]
    split
    · exact hb1
    · exact HC.out.2.2.2
  have HEK := Lib.hid hek
  clear hek
  go_upto_if 15 with fail
  go_cut [] (fun wx => Hid (Blk wx p3 cc.toArray 205 ∧ Blk wx p6 zeroCont.toArray 205 ∧ Blk wx p7 (contV true ek (.slice none 0 0)).toArray 205 ∧ Below w.heap.size w wx))
  case first =>
    cases is with
    | false =>
      have e : ek = ce := HEK.out
      subst e
      go_wp2_with fail
      go_meet
      exact ⟨HB.out.1, HB.out.2.1, HB.out.2.2.1, HB.out.2.2.2.1⟩
    | true =>
      have e : ek = cb := HEK.out
      subst e
      go_wp2_with fail
      go_meet
      exact ⟨Blk.setCells_other (fun e => by have := HB.out.2.2.2.2; omega) _ _ _ HB.out.1, Blk.setCells_other (fun e => by have := HB.out.2.2.2.2; omega) _ _ _ HB.out.2.1, cont_setk HB.out.2.2.1 HC.out.2.2.2.1 hb1.1,
        (Chg.setCells (S := fun b => b = p7) (L := p7) rfl _ _ _ (Chg.of_below HB.out.2.2.2.1)).below (Nat.le_refl _) (fun k hk => by rw [hk]; have := HB.out.2.2.2.2; omega)⟩
  case rest =>
  have HW := Lib.hid hcut
  have HGE := Lib.hid HB.out.2.2.2.2
  clear hcut HB c30 c317 r3 g3 g7
  obtain ⟨wx, hwx⟩ : ∃ q, q = wc := ⟨_, rfl⟩
  rw [← hwx] at HW ⊢
  clear hwx
  have c7 : wx.cell? ⟨p7, 17, none⟩ = some (.slice none 0 0) := by rw [HW.out.2.2.1.cell 17]; simpa using contV_u true hea.1 (.slice none 0 0)
  have f7 := HW.out.2.2.1.free 17
  have l7 := HW.out.2.2.1.lt
  go_upto_region 4 with fail
  go_wp2_with (at_builtin; refine appN_own EKb ecP rfl _ _ rfl rfl (L := vb) (off := vo) (n := n) (cap := vc) (l := ps) (fun _ _ => trivial) rfl HV.out.2.1 ?q1 (maxLen_ge (by omega)) (by omega) ?_)
  case q1 =>
    intro j x hj
    have := HV.out.2.2.1 j x hj
    rw [HW.out.2.2.2.cell (p := ⟨vb, vo + j, none⟩) HV.out.2.2.2.1]; exact this
  intro v1 w1 ho1 hb1'
  have hbps1 : BPs w1 (fun b => w.heap.size ≤ b) ps lv := (HV.out.1.mono (M := fun b => w.heap.size ≤ b) (fun b hb => .inr hb)).chg (Chg.of_below (S := fun _ => False) (HW.out.2.2.2.trans (hb1'.mono HW.out.2.2.2.size))) (fun _ h => h.elim)
  obtain ⟨a1, d1, e1⟩ := ho1.slice
  rw [HV.out.2.1] at e1
  subst e1
  have hz1 := hb1'.size
  have hnp : ∀ g, (Value.slice a1 n d1).ownBlock = some g → p7 < g := fun g hg => by have := ho1.ge hg; omega
  have k7' := HW.out.2.2.1.kept hb1'
  have hbw1 := HW.out.2.2.2.trans (hb1'.mono HW.out.2.2.2.size)
  have f7 := k7'.free 17
  have c7b : w1.cell? ⟨p7, 17, none⟩ = some (.slice none 0 0) := by rw [k7'.cell 17]; simpa using contV_u true hea.1 (.slice none 0 0)
  have hg7 : w.heap.size ≤ p7 := by have := HGE.out; omega
  have k72 : Blk (w1.setCell ⟨p7, 17, none⟩ (.slice a1 n d1)) p7 (contV true ek (.slice a1 n d1)).toArray 205 := by
    have := k7'.set 17 (.slice a1 n d1)
    rwa [contV_set true hea.1] at this
  have k62 := (HW.out.2.1.kept hb1').set_other (a := ⟨p7, 17, none⟩) (fun e => by have e' : p7 = p6 := e; have := HGE.out; omega) (.slice a1 n d1)
  have k32 := (HW.out.1.kept hb1').set_other (a := ⟨p7, 17, none⟩) (fun e => by have e' : p7 = p3 := e; have := HGE.out; omega) (.slice a1 n d1)
  have hb2 : Below w.heap.size w (w1.setCell ⟨p7, 17, none⟩ (.slice a1 n d1)) := hbw1.setCell hg7 _
  have hcc : Chg (fun b => b = p7) w1 (w1.setCell ⟨p7, 17, none⟩ (.slice a1 n d1)) := Chg.set (S := fun b => b = p7) (a := ⟨p7, 17, none⟩) (Chg.refl _ _) rfl _
  have ho2 := (ho1.lower (b := p7 + 1) (by omega)).chg hcc (fun g hg e => by have := hnp g hg; have e' : g = p7 := e; omega)
  have hbp2 := hbps1.chg hcc (fun b hb _ => by rw [hb]; exact hg7)
  obtain ⟨w2, hw2⟩ : ∃ q, q = w1.setCell ⟨p7, 17, none⟩ (.slice a1 n d1) := ⟨_, rfl⟩
  have HW2 := Lib.hid hw2
  rw [← hw2] at k72 k62 k32 hb2 ho2 hbp2
  have c37 : w2.cell? ⟨p3, 17, none⟩ = some u := by rw [k32.cell 17]; simpa using HC.out.1
  have H2 := Lib.hid (And.intro ho2 (And.intro hbp2 (And.intro k72 (And.intro k62 (And.intro hb2 k32)))))
  clear hbps1 k7' hb1' ho1 hcc hw2 k72 k62 k32 hb2 ho2 hbp2 c7
  obtain ⟨ua, uc, rfl, huc1, huc2, hrow⟩ := id H.out.1
  obtain ⟨m, hm⟩ : ∃ m, m = l.length := ⟨_, rfl⟩
  rw [← hm] at c37 huc1 hrow
  have hm16 : m ≤ 16 := by omega
  have HM := Lib.hid (And.intro hm hrow)
  clear hm hrow
  go_upto_region 5 with fail
  rw [← HW2.out]
  clear c7b f7
  go_upto_region 6 with fail
  go_loopw [27] (fun vi wr => ∃ (i : Nat) (a : Option Addr) (q d : Nat) (ps' : List BP), i ≤ m ∧ vi = .int .i64 i ∧ q ≤ 16 + i ∧ Hid (OwnG eP WfP 2 53 wr (p7 + 1) (.slice a q d) ps' ∧ BPs wr (fun b => w.heap.size ≤ b) ps' (withA lv (l.take i)) ∧ Blk wr p7 (contV true ek (.slice a q d)).toArray 205 ∧ Blk wr p6 zeroCont.toArray 205 ∧ Below w.heap.size w wr)) (fun vi _ => m - (intOf vi).toNat)
  case atStart => exact ⟨0, a1, n, d1, ps, Nat.zero_le _, rfl, hv1, H2.out.1, H2.out.2.1, H2.out.2.2.1, H2.out.2.2.2.1, H2.out.2.2.2.2.1⟩
  case round =>
    obtain ⟨i, a, q, d, ps', hi0, rfl, hq0, G⟩ := hrel
    by_cases hin : i < m
    · obtain ⟨ub, uo, rfl, hub, _, hcells⟩ := HM.out.2 (by omega)
      have hx : l[i]? = some (l[i]'(by have := HM.out.1; omega)) := by simp
      generalize l[i]'(by have := HM.out.1; omega) = x at hx
      obtain ⟨c1, a', c', c2, hd⟩ := hcells i x hx
      have hbc := fun o => G.out.2.2.2.2.cell (p := ⟨ub, o, none⟩) hub
      rw [← hbc] at c1 c2
      have i0 : (0 : Int) ≤ (i : Int) := by omega
      have i1 : (i : Int) < (m : Int) := by omega
      obtain ⟨z, hz⟩ : ∃ z, z = x.1 := ⟨_, rfl⟩
      obtain ⟨xl, hxl⟩ : ∃ z, z = x.2.length := ⟨_, rfl⟩
      rw [← hz] at c1
      rw [← hxl] at c2 hd
      have HX := Lib.hid (And.intro hx (And.intro hz (And.intro hxl hd)))
      clear hx hz hxl hd hcells hbc
      go_upto_region 8 with fail
      have hk9 : Blk (wr.alloc (.cells #[.int .i64 z, .slice a' xl c'] 53)) wr.heap.size #[.int .i64 z, .slice a' xl c'] 53 := Blk.new _ _ _
      have hb9 : Below wr.heap.size wr (wr.alloc (.cells #[.int .i64 z, .slice a' xl c'] 53)) := (Below.refl _ _).alloc (Nat.le_refl _) _
      have lz := G.out.2.2.1.lt
      obtain ⟨w3, hw3⟩ : ∃ q, q = wr.alloc (.cells #[.int .i64 z, .slice a' xl c'] 53) := ⟨_, rfl⟩
      obtain ⟨p9, hp9⟩ : ∃ q, q = wr.heap.size := ⟨_, rfl⟩
      rw [← hw3] at hk9 hb9 ⊢
      rw [← hp9] at hk9 lz ⊢
      have k73 := G.out.2.2.1.kept hb9
      have hal : AllK 18 (contV true ek (.slice a q d)) := ⟨contV_len true hea.1 _, contV_one _ hea.2 _ rfl⟩
      have r7 : readK 18 w3 p7 0 = contV true ek (.slice a q d) := blk_read0 k73 hal.1
      have h7 : HasK 18 w3 p7 0 := blk_has k73 (by simp [hal.1])
      have hbl : BlAt w3 (fun _ => False) (.slice a q d) (withA lv (l.take i)) := ((G.out.2.1.chg (Chg.of_below (S := fun _ => False) hb9) (fun _ h => h.elim)).weak).blAt (G.out.1.chg (Chg.of_below (S := fun _ => False) hb9) (fun _ _ h => h)) (fun _ _ h => h)
      have c90 : w3.cell? ⟨p9, 0, none⟩ = some (.int .i64 z) := hk9.cell 0
      have H3 := Lib.hid (And.intro hk9 (And.intro hb9 (And.intro k73 hbl)))
      clear hk9 hb9 k73 hbl hw3 c1 c2 hal hp9
      go_wp2_with fail
      refine (cfind_calls w3 true ek (.slice a q d) (withA lv (l.take i)) z hea.1 hea.2 H3.out.2.2.2).mono ?_
      rintro e w4 ⟨fv, ok, rfl, hb4, hf⟩
      have hk94 := H3.out.1.kept hb4
      have k74 := H3.out.2.2.1.kept hb4
      have hb34 := H3.out.2.1.trans (hb4.mono H3.out.2.1.size)
      have c90 : w4.cell? ⟨p9, 0, none⟩ = some (.int .i64 z) := hk94.cell 0
      have c91 : w4.cell? ⟨p9, 1, none⟩ = some (.slice a' xl c') := hk94.cell 1
      have c77 : w4.cell? ⟨p7, 17, none⟩ = some (.slice a q d) := by rw [k74.cell 17]; simpa using contV_u true hea.1 (.slice a q d)
      have f77 := k74.free 17
      have l94 := hk94.lt
      have hown4 := G.out.1.chg (Chg.of_below (S := fun _ => False) hb34) (fun _ _ h => h)
      have hbp4 := G.out.2.1.chg (Chg.of_below (S := fun _ => False) hb34) (fun _ h => h.elim)
      have hbw4 := G.out.2.2.2.2.trans (hb34.mono G.out.2.2.2.2.size)
      have H4 := Lib.hid (And.intro hf (And.intro k74 (And.intro (G.out.2.2.2.1.kept hb34) (And.intro hown4 (And.intro hbp4 hbw4)))))
      have htk : l.take (i + 1) = l.take i ++ [x] := by rw [List.take_add_one, HX.out.1]; rfl
      have HT := Lib.hid htk
      clear hf k74 hk94 hb34 hown4 hbp4 hbw4 hb4 r7 h7 htk
      cases ok with
      | true =>
        have hw : withA lv (l.take (i + 1)) = withA lv (l.take i) := by
          rw [HT.out, withA_snoc, ← HX.out.2.1]
          rcases H4.out.1 with ⟨bs, h1, _⟩ | ⟨_, h2, _⟩
          · rw [h1, if_neg (by simp)]
          · cases h2
        have HWA := Lib.hid hw
        clear hw
        go_wp2_with fail
        refine ⟨⟨i + 1, a, q, d, ps', by omega, by simp, by omega, H4.out.2.2.2.1, ?_, H4.out.2.1, H4.out.2.2.1, H4.out.2.2.2.2.2⟩, by show m - ((i : Int) + 1).toNat < m - (i : Int).toNat; omega⟩
        rw [HWA.out]
        exact H4.out.2.2.2.2.1
      | false =>
        have hw : withA lv (l.take (i + 1)) = withA lv (l.take i) ++ [x] := by
          rw [HT.out, withA_snoc, ← HX.out.2.1]
          rcases H4.out.1 with ⟨bs, _, h2, _⟩ | ⟨h1, _, _⟩
          · cases h2
          · rw [h1, if_pos rfl]
        have HWA := Lib.hid hw
        clear hw
        have hplen : ps'.length = q := by
          obtain ⟨_, _, e⟩ := H4.out.2.2.2.1.slice
          injection e with _ e _
          exact e.symm
        have HPL := Lib.hid hplen
        clear hplen
        go_wp2_with (at_builtin; refine appG_own EKb ecP rfl _ _ rfl (base := p7 + 1) (l := ps') (z, a', xl, c') trivial rfl (mb := w4.heap.size) (cx := 1) rfl (show Blk _ _ (eP (z, a', xl, c')).toArray _ from Blk.new _ _ _) (H4.out.2.2.2.1.chg (Chg.of_below (S := fun _ => False) ((Below.refl _ _).alloc (Nat.le_refl _) _)) (fun _ _ h => h)) ?z1 (by decide) ?z2 ?_)
        case z1 => rw [HPL.out]; omega
        case z2 => simp; omega
        intro v5 w5 ho5 hg5 hn5
        obtain ⟨a5, d5, e5⟩ := ho5.slice
        rw [List.length_append, HPL.out] at e5
        have hg9 : w.heap.size ≤ w4.heap.size := H4.out.2.2.2.2.2.size
        have hlo := fun g hg => (H4.out.2.2.2.1.ge (g := g) hg)
        have hcc : Chg (fun b => (Value.slice a q d).ownBlock = some b) w4 w5 := Chg.grown (S := fun b => (Value.slice a q d).ownBlock = some b) (Chg.of_below ((Below.refl _ _).alloc (Nat.le_refl _) _)) hg5 (fun _ hq => .inl hq)
        have k75 : Blk w5 p7 (contV true ek (.slice a q d)).toArray 205 := hcc.blk H4.out.2.1 (fun e => by have := hlo p7 e; omega)
        have k65 : Blk w5 p6 zeroCont.toArray 205 := hcc.blk H4.out.2.2.1 (fun e => by have := hlo p6 e; have := HGE.out; omega)
        have hb5 : Below w.heap.size w w5 := ((Chg.of_below (S := fun k => w.heap.size ≤ k) H4.out.2.2.2.2.2).mix hcc (fun k hk => .inl (by have := hlo k hk; have := HGE.out; omega))).below (Nat.le_refl _) (fun _ h => h)
        have hbp5 : BPs w5 (fun b => w.heap.size ≤ b) (ps' ++ [(z, a', xl, c')]) (withA lv (l.take (i + 1))) := by
          rw [HWA.out]
          refine (H4.out.2.2.2.2.1.chg hcc (fun b hb _ => by have := hlo b hb; have := HGE.out; omega)).app (BPs.one (by rw [← HX.out.2.1]) HX.out.2.2.1 ?_)
          exact (HX.out.2.2.2.mono (M := fun b => w.heap.size ≤ b) (fun b hb => .inr hb)).chg (Chg.of_below (S := fun _ => False) hb5) (fun _ h => h.elim)
        have f75 := k75.free 17
        have c75 : w5.cell? ⟨p7, 17, none⟩ = some (.slice a q d) := by rw [k75.cell 17]; simpa using contV_u true hea.1 (.slice a q d)
        have H5 := Lib.hid (And.intro ho5 (And.intro k75 (And.intro k65 (And.intro hb5 hbp5))))
        clear ho5 hg5 hn5 hlo hcc k75 k65 hb5 hbp5
        subst e5
        go_wp2_with fail
        have hcs : Chg (fun b => b = p7) w5 (w5.setCell ⟨p7, 17, none⟩ (.slice a5 (q + 1) d5)) := Chg.set (S := fun b => b = p7) (a := ⟨p7, 17, none⟩) (Chg.refl _ _) rfl _
        refine ⟨⟨i + 1, a5, q + 1, d5, _, by omega, by simp, by omega, H5.out.1.chg hcs (fun g hg e => by have := H5.out.1.ge hg; have e' : g = p7 := e; omega), H5.out.2.2.2.2.chg hcs (fun b hb _ => by rw [hb]; have := HGE.out; omega), ?_, H5.out.2.2.1.set_other (fun e => by have e' : p7 = p6 := e; have := HGE.out; omega) _, H5.out.2.2.2.1.setCell hg7 _⟩, by show m - ((i : Int) + 1).toNat < m - (i : Int).toNat; omega⟩
        have := H5.out.2.1.set 17 (.slice a5 (q + 1) d5)
        rwa [contV_set true hea.1] at this
    · obtain rfl : i = m := by omega
      have hfull : l.take i = l := List.take_of_length_le (by have := HM.out.1; omega)
      have k7r := G.out.2.2.1
      have c7r : wr.cell? ⟨p7, 17, none⟩ = some (.slice a q d) := by rw [k7r.cell 17]; simpa using contV_u true hea.1 (.slice a q d)
      have hplen : ps'.length = q := by
        obtain ⟨_, _, e⟩ := G.out.1.slice
        injection e with _ e _
        exact e.symm
      have hps := psort_calls wr p7 (p7 + 1) a q d ps' (contV true ek (.slice a q d)).toArray G.out.1 k7r (by simpa using contV_u true hea.1 (.slice a q d)) (fun e => by have := G.out.1.ge e; omega) (by omega)
      have HPS := Lib.hid (And.intro hps hfull)
      clear hps hfull hplen k7r
      go_wp2_with fail
      refine HPS.out.1.mono ?_
      rintro e w6 ⟨rfl, pl, ho6, hperm, hsort, hc6⟩
      have hlo := fun g hg => G.out.1.ge (g := g) hg
      have hbp6 := G.out.2.1.chg hc6 (fun b hb _ => by have := hlo b hb; have := HGE.out; omega)
      rw [HPS.out.2] at hbp6
      obtain ⟨lr, hbr, hpr, hsr⟩ := hbp6.perm hperm hsort
      have k76 := hc6.blk G.out.2.2.1 (fun e => by have := hlo p7 e; omega)
      have k66 := hc6.blk G.out.2.2.2.1 (fun e => by have := hlo p6 e; have := HGE.out; omega)
      have hb6 : Below w.heap.size w w6 := ((Chg.of_below (S := fun k => w.heap.size ≤ k) G.out.2.2.2.2).mix hc6 (fun k hk => .inl (by have := hlo k hk; have := HGE.out; omega))).below (Nat.le_refl _) (fun _ h => h)
      have hal : AllK 18 (contV true ek (.slice a q d)) := ⟨contV_len true hea.1 _, contV_one _ hea.2 _ rfl⟩
      have r7 : readK 18 w6 p7 0 = contV true ek (.slice a q d) := blk_read0 k76 hal.1
      have h7 : HasK 18 w6 p7 0 := blk_has k76 (by simp [hal.1])
      have h6 : HasK 18 w6 p6 0 := blk_has k66 (by simp [zeroA.1])
      have HLD := Lib.hid (cont_stored h6 hal)
      have H6 := Lib.hid (And.intro ho6 (And.intro hbr (And.intro hpr (And.intro hsr (And.intro hb6 hal)))))
      clear ho6 hperm hsort hc6 hlo hbp6 hbr hpr hsr k76 k66 hb6
      go_wp2_with fail
      have hc7 : Chg (fun b => b = p6) w6 (w6.setCells p6 0 (contV true ek (.slice a q d))) := Chg.setCells (S := fun b => b = p6) (L := p6) rfl _ _ _ (Chg.refl _ _)
      refine bodyPost_ret (v := .agg (contV true ek (.slice a q d)).toArray) (by simp [results, Tryz.results146, asAddr, HLD.out]) rfl ⟨.slice a q d, lr, ?_, ?_, H6.out.2.2.1, H6.out.2.2.2.1, ?_⟩
      · rw [HEK.out, HCB.out, H.out.2.2.2.1]
        cases is <;> rfl
      · exact (H6.out.2.1.chg hc7 (fun b hb _ => by rw [hb]; have := HGE.out; omega)).weak.blAt (H6.out.1.chg hc7 (fun g hg e => by have := H6.out.1.ge hg; have e' : g = p6 := e; have := HGE.out; omega)) (fun _ _ h => h)
      · exact ((Chg.of_below (S := fun k => w.heap.size ≤ k) H6.out.2.2.2.2.1).mix hc7 (fun k hk => .inl (by rw [hk]; have := HGE.out; omega))).below (Nat.le_refl _) (fun _ h => h)
end Go.Proofs.YtbbojbdigiibbaaGreatDoor
end
section
namespace Go.Proofs.YtbbojbdigiibbaaGreatDoor
open Go Go.RowKit Go.Mem Gf Lea
set_option linter.unusedVariables false
theorem rws1 {w : World} {g : Nat} {t : TypeId} {v1 : Value} {b1 : List UInt8} (h : Blk w g #[v1] t) (h1 : Bys w v1 b1) : Rws w (.slice (some ⟨g, 0, none⟩) 1 1) [b1] := by
  refine ⟨_, 1, rfl, by simp, by decide, fun _ => ⟨g, 0, rfl, fun k r hk => ?_⟩⟩
  rw [Nat.zero_add]
  match k, hk with
  | 0, hk => simp at hk; subst hk; exact ⟨v1, by rw [h.cell]; rfl, h1⟩
  | k + 1, hk => simp at hk
theorem contB_one (k : Key) : contB k [] = Cod.nets [k] := by simp [contB, blB, Cod.nets]
theorem contB_snoc (k : Key) (l : List Blob) (x : Blob) : contB k (l ++ [x]) = contB k l ++ Cod.nets [Cod.be 1 x.1.toNat, x.2] := by
  unfold contB
  rw [blB_app, blB_one, List.append_assoc]
theorem contB_len (k : Key) (hk : k.length = 16) (l : List Blob) (h : BlOk l) : (contB k l).length ≤ 27 + l.length * 16420 := by
  have h1 := net_le k (by omega)
  have h2 := blB_len l h
  unfold contB
  rw [List.length_append]
  omega
attribute [local go_sem ↓] Go.wp_at_zero Go.wp_at_succ
attribute [local irreducible] contV
set_option maxRecDepth 100000 in
set_option maxHeartbeats 2000000 in
theorem contbytes_calls (w : World) (is : Bool) (k : Key) (u : Value) (l : List Blob) (hk : k.length = 16) (h : BlAt w (fun _ => False) u l) (hT : Tab w) (hl : l.length ≤ 32) (hok : BlOk l) :
    Calls Tryz.prog 147 #[.agg (contV is (bV k) u).toArray] w fun e w' => ∃ vo, e = .returned vo ∧ OwnX 5 w' w.heap.size vo (contB k l) ∧ Below w.heap.size w w' := by
  obtain ⟨a, c, rfl, hc1, hc2, hrow⟩ := id h
  obtain ⟨n, hn⟩ : ∃ n, n = l.length := ⟨_, rfl⟩
  rw [← hn] at hc1 hrow hl ⊢
  have hkl : (bV k).length = 16 := by rw [bV_len]; exact hk
  have hu := contV_u is hkl (.slice a n c)
  have hck : ∀ i, i < 16 → (contV is (bV k) (.slice a n c))[i + 1]? = (bV k)[i]? := fun i hi => contV_k is _ _ (by omega)
  obtain ⟨cc, hcc⟩ : ∃ cc, cc = contV is (bV k) (.slice a n c) := ⟨_, rfl⟩
  rw [← hcc] at hu hck ⊢
  have hkC : Blk (w.alloc (.cells cc.toArray 205)) w.heap.size cc.toArray 205 := Blk.new _ _ _
  have hbC : Below w.heap.size w (w.alloc (.cells cc.toArray 205)) := (Below.refl _ _).alloc (Nat.le_refl _) _
  have H := Lib.hid (And.intro hn (And.intro hrow (And.intro hT hok)))
  clear h hn hrow hT hok hcc
  go_enter Tryz.func147, Tryz.ntmps147
  go_upto_region 1 with fail
  obtain ⟨w1, hw1⟩ : ∃ q, q = w.alloc (.cells cc.toArray 205) := ⟨_, rfl⟩
  obtain ⟨p1, hp1⟩ : ∃ q, q = w.heap.size := ⟨_, rfl⟩
  rw [← hw1] at hkC hbC ⊢
  have HP := Lib.hid hp1
  rw [← hp1] at hkC ⊢
  have hby : Bys w1 (.slice (some ⟨p1, 1, none⟩) 16 16) k := ⟨_, 16, by rw [hk], by omega, by decide, fun _ => ⟨p1, 1, rfl, fun i v hi => by
    have h16 : i < 16 := by have := some_lt hi; omega
    rw [hkC.cell, List.getElem?_toArray, Nat.add_comm, hck i h16, bV_get, hi]; rfl⟩⟩
  have c17 : w1.cell? ⟨p1, 17, none⟩ = some (.slice a n c) := by rw [hkC.cell 17]; simpa using hu
  have HB := Lib.hid (And.intro hkC (And.intro hbC hby))
  clear hkC hbC hby hw1 hp1 hck hu
  go_wp2_with fail
  have hba : Below w1.heap.size w1 (w1.alloc (.cells #[.slice (some ⟨p1, 1, none⟩) 16 16] 51)) := (Below.refl _ _).alloc (Nat.le_refl _) _
  have hnl : (Cod.nets [k]).length ≤ 100000000 := by
    have := contB_len k hk [] ⟨fun _ h => (by cases h), fun _ h => (by cases h)⟩
    rw [contB_one] at this
    simp at this
    omega
  refine (nets_calls _ [k] _ (H.out.2.2.1.below (HB.out.2.1.trans (hba.mono HB.out.2.1.size))) (rws1 (Blk.new _ _ _) (HB.out.2.2.below hba)) hnl).mono ?_
  rintro e w2 ⟨v2, rfl, ho2, hb2⟩
  have hz2 := hb2.size
  have hb02 : Below w.heap.size w w2 := (HB.out.2.1.trans (hba.mono HB.out.2.1.size)).trans (hb2.mono (Nat.le_trans HB.out.2.1.size hba.size))
  have k12 : Blk w2 p1 cc.toArray 205 := (HB.out.1.kept hba).kept hb2
  have c17 : w2.cell? ⟨p1, 17, none⟩ = some (.slice a n c) := by rw [k12.cell 17, ← HB.out.1.cell 17]; exact c17
  have ho2' := ho2.mono (base' := w.heap.size) (by have := hba.size; have := HB.out.2.1.size; omega)
  rw [← contB_one] at ho2'
  have H2 := Lib.hid (And.intro ho2' hb02)
  clear ho2 hb2 hb02 k12 ho2' hba hnl hz2
  go_upto_region 3 with fail
  go_loopw [3, 13] (fun v3 vi wr => ∃ i : Nat, i ≤ n ∧ vi = .int .i64 i ∧ Hid (OwnX 5 wr w.heap.size v3 (contB k (l.take i)) ∧ Below w.heap.size w wr)) (fun _ vi _ => n - (intOf vi).toNat)
  case atStart => exact ⟨0, Nat.zero_le _, rfl, H2.out.1, H2.out.2⟩
  case round =>
    obtain ⟨i, hi0, rfl, G⟩ := hrel
    by_cases hin : i < n
    · obtain ⟨b, off, rfl, hb, _, hcells⟩ := H.out.2.1 (by omega)
      have hx : l[i]? = some (l[i]'(by have := H.out.1; omega)) := by simp
      generalize l[i]'(by have := H.out.1; omega) = x at hx
      obtain ⟨c1, a', c', c2, hd⟩ := hcells i x hx
      have hbc := fun o => G.out.2.cell (p := ⟨b, o, none⟩) hb
      rw [← hbc] at c1 c2
      have i0 : (0 : Int) ≤ (i : Int) := by omega
      have i1 : (i : Int) < (n : Int) := by omega
      obtain ⟨xl, hxl⟩ : ∃ z, z = x.2.length := ⟨_, rfl⟩
      have hxn := H.out.2.2.2.num x (List.mem_of_getElem? hx)
      have hxd := H.out.2.2.2.len x (List.mem_of_getElem? hx)
      obtain ⟨m, hm⟩ : ∃ m : Nat, m = x.1.toNat := ⟨_, rfl⟩
      have hm2 : x.1 = (m : Int) := by omega
      have hm16 : m < 16 := by omega
      rw [hm2] at c1
      rw [← hxl] at c2 hd
      have hp1 : contB k (l.take (i + 1)) = contB k (l.take i) ++ Cod.nets [Cod.be 1 m, x.2] := by rw [List.take_add_one, hx, Option.toList_some, contB_snoc, hm]
      have hpl : (contB k (l.take i)).length ≤ 1000000 := by
        have h1 := contB_len k hk (l.take i) (H.out.2.2.2.sub fun y hy => List.mem_of_mem_take hy)
        have h2 : (l.take i).length ≤ 32 := by rw [List.length_take]; have := H.out.1; omega
        have : (l.take i).length * 16420 ≤ 32 * 16420 := Nat.mul_le_mul_right _ h2
        omega
      have hn2 : (Cod.nets [Cod.be 1 m, x.2]).length ≤ 100000 := by
        have h1 := net_le (Cod.be 1 m) (by rw [Cod.be_len]; omega)
        have h2 := net_le x.2 hxd
        rw [Cod.be_len] at h1
        simp only [Cod.nets, List.length_append, List.length_nil]
        omega
      have HX := Lib.hid (And.intro hp1 (And.intro hpl (And.intro hn2 (And.intro hd.1 hxl))))
      clear hx hxl hd hcells hbc hxn hxd hm hm2 hp1 hpl hn2
      go_upto_region 5 with fail
      have hW1 : Blk (wr.alloc (.cells #[.int .i64 m, .slice a' xl c'] 53)) wr.heap.size #[.int .i64 m, .slice a' xl c'] 53 := Blk.new _ _ _
      have hB1 : Below wr.heap.size wr (wr.alloc (.cells #[.int .i64 m, .slice a' xl c'] 53)) := (Below.refl _ _).alloc (Nat.le_refl _) _
      obtain ⟨W1, hw1⟩ : ∃ W, W = wr.alloc (.cells #[.int .i64 m, .slice a' xl c'] 53) := ⟨_, rfl⟩
      obtain ⟨p5, hp5⟩ : ∃ q, q = wr.heap.size := ⟨_, rfl⟩
      rw [← hw1] at hW1 hB1 ⊢
      rw [← hp5] at hW1 ⊢
      have HW := Lib.hid (And.intro hW1 (And.intro hB1 hp5))
      clear hw1 hp5 hW1 hB1
      have c50 : W1.cell? ⟨p5, 0, none⟩ = some (.int .i64 m) := HW.out.1.cell 0
      have c51 : W1.cell? ⟨p5, 1, none⟩ = some (.slice a' xl c') := HW.out.1.cell 1
      go_region_law
        (first
          | (refine stepAppX E8c (by rfl) _ _ (by rfl) (base := w.heap.size) (v := u3) (xv := v3) (bs := contB k (l.take i)) (news := Cod.nets [Cod.be 1 m, x.2]) (by rfl) (by rfl) (HY.out.1.below HZ.out.2) HZ.out.1.bys (by have := HX.out.2.1; have := HX.out.2.2.1; omega) (Nat.le_trans G.out.2.size (Nat.le_trans HY.out.2.2.2.2.size HZ.out.2.size)) ?_
             intro v4 x4 hv4 hg4
             have HV := Lib.hid (And.intro hv4 hg4)
             clear hv4 hg4)
          | (go_simp
             go_at_call 159
             refine (put_x m 1 (by omega) (by decide) (by decide) W1.drew).mono ?_
             rintro e w' ⟨vo, rfl, h2, h3⟩
             obtain ⟨pa, pc, rfl⟩ := h2.eq_slice
             have h3' : Below W1.heap.size W1 w' := ⟨h3.os, h3.tape, h3.output, h3.size, h3.block⟩
             have hbW : Below wr.heap.size wr w' := HW.out.2.1.trans (h3'.mono HW.out.2.1.size)
             have hO' := G.out.1.below hbW
             have hT' := H.out.2.2.1.below (G.out.2.trans (hbW.mono G.out.2.size))
             have hby1 : Bys w' (.slice a' xl c') x.2 := HX.out.2.2.2.1.below (G.out.2.trans (hbW.mono G.out.2.size))
             have HY := Lib.hid (And.intro hO' (And.intro hT' (And.intro hby1 (And.intro h2.bys hbW))))
             rw [Cod.be_len] at HY ⊢
             have d51 : w'.cell? ⟨p5, 1, none⟩ = some (.slice a' xl c') := (HW.out.1.kept h3').cell 1
             clear h2 h3 h3' hO' hT' hby1 hbW)
          | (go_simp
             go_at_call 158
             refine (nets_calls _ [Cod.be 1 m, x.2] _ (HY.out.2.1.below ((Below.refl w'.heap.size w').alloc (Nat.le_refl _) _)) (rws2 (Blk.new _ _ _) (HY.out.2.2.2.1.below ((Below.refl w'.heap.size w').alloc (Nat.le_refl _) _)) (HY.out.2.2.1.below ((Below.refl w'.heap.size w').alloc (Nat.le_refl _) _))) (by have := HX.out.2.2.1; omega)).mono ?_
             rintro e w3 ⟨v3, rfl, h3, hb3⟩
             have hb4 : Below w'.heap.size w' w3 := ((Below.refl w'.heap.size w').alloc (Nat.le_refl _) _).trans (hb3.mono (by simp))
             have HZ := Lib.hid (And.intro h3 hb4)
             clear h3 hb3 hb4))
      all_goals
        go_wp2_with fail
        have hb5 : Below w.heap.size w w3 := (G.out.2.trans (HY.out.2.2.2.2.mono G.out.2.size)).trans (HZ.out.2.mono (Nat.le_trans G.out.2.size HY.out.2.2.2.2.size))
        exact ⟨⟨i + 1, by omega, by simp, by rw [HX.out.1]; exact HV.out.1, (Chg.grown (S := fun k => w.heap.size ≤ k) (Chg.of_below hb5) HV.out.2 (fun q hq => .inl (G.out.1.lt _ hq).1)).below (Nat.le_refl _) (fun _ h => h)⟩, by show n - ((i : Int) + 1).toNat < n - (i : Int).toNat; omega⟩
    · have := G.out.1
      rw [List.take_of_length_le (by have := H.out.1; omega)] at this
      have HF := Lib.hid this
      clear this
      go_wp2_with fail
      go_ret
      exact ⟨_, rfl, HF.out, G.out.2⟩
end Go.Proofs.YtbbojbdigiibbaaGreatDoor
end
section
namespace Go.Mem
open Go Go.RowKit
def wz (x : UInt32) : Int := (x.toNat : Int)
theorem wz_of (n : Nat) : wz (UInt32.ofNat n) = ((n % 4294967296 : Nat) : Int) := by
  unfold wz
  rw [UInt32.toNat_ofNat']
theorem wrap_wz (n : Nat) : IntKind.u32.wrap (n : Int) = wz (UInt32.ofNat n) := by
  rw [wz_of, IntKind.wrap_u32]; omega
theorem wz_add (x y : UInt32) : IntKind.u32.wrap (wz x + wz y) = wz (x + y) := by
  unfold wz
  rw [IntKind.wrap_u32, UInt32.toNat_add]; omega
theorem wz_addm (x y : UInt32) : (wz x + wz y) % 4294967296 = wz (x + y) := by rw [← wz_add, IntKind.wrap_u32]
theorem wz_add3 (x y z : UInt32) : (wz x + wz y + wz z) % 4294967296 = wz (x + y + z) := by
  rw [← wz_addm, ← wz_addm]; omega
theorem bv32 (x : UInt32) : BitVec.ofInt 32 (wz x) = x.toBitVec := by
  apply BitVec.eq_of_toNat_eq
  have := UInt32.toNat_lt x
  rw [BitVec.toNat_ofInt]
  unfold wz
  show ((x.toNat : Int) % 4294967296).toNat = x.toNat
  omega
theorem wrap_toNat (b : BitVec 32) : IntKind.u32.wrap (b.toNat : Int) = wz ⟨b⟩ := by
  rw [IntKind.wrap_u32]
  have := b.isLt
  show _ = ((b.toNat : Nat) : Int)
  omega
theorem wz_xor (x y : UInt32) : bits .xor .u32 (wz x) (wz y) = wz (x ^^^ y) := by
  show IntKind.u32.wrap ((BitVec.ofInt 32 (wz x) ^^^ BitVec.ofInt 32 (wz y)).toNat : Int) = _
  rw [bv32, bv32, wrap_toNat]; rfl
theorem wz_and (x y : UInt32) : bits .and .u32 (wz x) (wz y) = wz (x &&& y) := by
  show IntKind.u32.wrap ((BitVec.ofInt 32 (wz x) &&& BitVec.ofInt 32 (wz y)).toNat : Int) = _
  rw [bv32, bv32, wrap_toNat]; rfl
theorem wz_or (x y : UInt32) : bits .or .u32 (wz x) (wz y) = wz (x ||| y) := by
  show IntKind.u32.wrap ((BitVec.ofInt 32 (wz x) ||| BitVec.ofInt 32 (wz y)).toNat : Int) = _
  rw [bv32, bv32, wrap_toNat]; rfl
theorem wz_not (x : UInt32) : bits .xor .u32 4294967295 (wz x) = wz (~~~x) := by
  show IntKind.u32.wrap ((BitVec.ofInt 32 4294967295 ^^^ BitVec.ofInt 32 (wz x)).toNat : Int) = _
  rw [bv32, wrap_toNat]
  refine congrArg wz ?_
  apply UInt32.toBitVec_inj.1
  show BitVec.ofInt 32 4294967295 ^^^ x.toBitVec = ~~~x.toBitVec
  have : BitVec.ofInt 32 4294967295 = BitVec.allOnes 32 := by decide
  rw [this, BitVec.allOnes_xor]
theorem wz_notm (x : UInt32) : bits .xor .u32 IntKind.u32.max (wz x) = wz (~~~x) := wz_not x
def shl (x : UInt32) (n : Nat) : UInt32 := ⟨x.toBitVec <<< n⟩
def shr (x : UInt32) (n : Nat) : UInt32 := ⟨x.toBitVec >>> n⟩
theorem wz_shl (x : UInt32) (n : Nat) : IntKind.u32.wrap (wz x * 2 ^ n) = wz (shl x n) := by
  have e : wz x * 2 ^ n = ((x.toNat * 2 ^ n : Nat) : Int) := by unfold wz; push_cast; rfl
  rw [e, wrap_wz]
  refine congrArg wz (UInt32.toNat_inj.1 ?_)
  rw [UInt32.toNat_ofNat']
  show _ = (x.toBitVec <<< n).toNat
  rw [BitVec.toNat_shiftLeft, Nat.shiftLeft_eq]; rfl
theorem wz_shlm (x : UInt32) (n : Nat) : wz x * 2 ^ n % 4294967296 = wz (shl x n) := by rw [← wz_shl, IntKind.wrap_u32]
theorem wz_shl24 (x : UInt32) : wz x * 16777216 % 4294967296 = wz (shl x 24) := wz_shlm x 24
theorem wz_shl16 (x : UInt32) : wz x * 65536 % 4294967296 = wz (shl x 16) := wz_shlm x 16
theorem wz_shl8 (x : UInt32) : wz x * 256 % 4294967296 = wz (shl x 8) := wz_shlm x 8
theorem wz_shr (x : UInt32) (n : Nat) : wz x / 2 ^ n = wz (shr x n) := by
  have e : wz x / 2 ^ n = ((x.toNat / 2 ^ n : Nat) : Int) := by unfold wz; push_cast; rfl
  rw [e]
  show _ = (((x.toBitVec >>> n).toNat : Nat) : Int)
  rw [BitVec.toNat_ushiftRight, Nat.shiftRight_eq_div_pow]; rfl
theorem wz_shr3 (x : UInt32) : wz x / 8 = wz (shr x 3) := wz_shr x 3
theorem wz_shr10 (x : UInt32) : wz x / 1024 = wz (shr x 10) := wz_shr x 10
def ror (x : UInt32) (n : Nat) : UInt32 := shl x (32 - n) ||| shr x n
theorem wz_byte (b : UInt8) : IntKind.u32.wrap ((b.toNat : Nat) : Int) = wz b.toUInt32 := by
  rw [wrap_wz]
  refine congrArg wz (UInt32.toNat_inj.1 ?_)
  have := UInt8.toNat_lt b
  rw [UInt32.toNat_ofNat', UInt8.toNat_toUInt32]
  omega
end Go.Mem
end
section
namespace Sha
open Go.Mem
structure H8 where
  a : UInt32
  b : UInt32
  c : UInt32
  d : UInt32
  e : UInt32
  f : UInt32
  g : UInt32
  h : UInt32
def H8.l (v : H8) : List UInt32 := [v.a, v.b, v.c, v.d, v.e, v.f, v.g, v.h]
def word (b : List UInt8) (i : Nat) : UInt32 :=
  shl (b.getD (4 * i) 0).toUInt32 24 ||| shl (b.getD (4 * i + 1) 0).toUInt32 16 ||| shl (b.getD (4 * i + 2) 0).toUInt32 8 ||| (b.getD (4 * i + 3) 0).toUInt32
def s0 (x : UInt32) : UInt32 := ror x 7 ^^^ ror x 18 ^^^ shr x 3
def s1 (x : UInt32) : UInt32 := ror x 17 ^^^ ror x 19 ^^^ shr x 10
def next (l : List UInt32) : UInt32 := l.getD (l.length - 16) 0 + s0 (l.getD (l.length - 15) 0) + l.getD (l.length - 7) 0 + s1 (l.getD (l.length - 2) 0)
def sch (b : List UInt8) : Nat → List UInt32
  | 0 => []
  | n + 1 => sch b n ++ [if n < 16 then word b n else next (sch b n)]
theorem sch_len (b : List UInt8) : ∀ n, (sch b n).length = n
  | 0 => rfl
  | n + 1 => by rw [sch, List.length_append, sch_len b n]; rfl
theorem sch_lo (b : List UInt8) {n : Nat} (h : n < 16) : sch b (n + 1) = sch b n ++ [word b n] := by rw [sch, if_pos h]
theorem sch_hi (b : List UInt8) {n : Nat} (h : 16 ≤ n) : sch b (n + 1) = sch b n ++ [next (sch b n)] := by rw [sch, if_neg (by omega)]
def kT : List UInt32 := [
  0x428a2f98, 0x71374491, 0xb5c0fbcf, 0xe9b5dba5, 0x3956c25b, 0x59f111f1, 0x923f82a4, 0xab1c5ed5,
  0xd807aa98, 0x12835b01, 0x243185be, 0x550c7dc3, 0x72be5d74, 0x80deb1fe, 0x9bdc06a7, 0xc19bf174,
  0xe49b69c1, 0xefbe4786, 0x0fc19dc6, 0x240ca1cc, 0x2de92c6f, 0x4a7484aa, 0x5cb0a9dc, 0x76f988da,
  0x983e5152, 0xa831c66d, 0xb00327c8, 0xbf597fc7, 0xc6e00bf3, 0xd5a79147, 0x06ca6351, 0x14292967,
  0x27b70a85, 0x2e1b2138, 0x4d2c6dfc, 0x53380d13, 0x650a7354, 0x766a0abb, 0x81c2c92e, 0x92722c85,
  0xa2bfe8a1, 0xa81a664b, 0xc24b8b70, 0xc76c51a3, 0xd192e819, 0xd6990624, 0xf40e3585, 0x106aa070,
  0x19a4c116, 0x1e376c08, 0x2748774c, 0x34b0bcb5, 0x391c0cb3, 0x4ed8aa4a, 0x5b9cca4f, 0x682e6ff3,
  0x748f82ee, 0x78a5636f, 0x84c87814, 0x8cc70208, 0x90befffa, 0xa4506ceb, 0xbef9a3f7, 0xc67178f2]
def h0 : H8 := ⟨0x6a09e667, 0xbb67ae85, 0x3c6ef372, 0xa54ff53a, 0x510e527f, 0x9b05688c, 0x1f83d9ab, 0x5be0cd19⟩
def big1 (e : UInt32) : UInt32 := ror e 6 ^^^ ror e 11 ^^^ ror e 25
def big0 (a : UInt32) : UInt32 := ror a 2 ^^^ ror a 13 ^^^ ror a 22
def tw (v : H8) (k w : UInt32) : UInt32 := v.h + big1 v.e + (v.e &&& v.f ^^^ ~~~v.e &&& v.g) + k + w
def maj (v : H8) : UInt32 := v.a &&& v.b ^^^ v.a &&& v.c ^^^ v.b &&& v.c
def rnd (v : H8) (k w : UInt32) : H8 := ⟨tw v k w + big0 v.a + maj v, v.a, v.b, v.c, v.d + tw v k w, v.e, v.f, v.g⟩
def rnds (b : List UInt8) (h : H8) : Nat → H8
  | 0 => h
  | n + 1 => rnd (rnds b h n) (kT.getD n 0) ((sch b 64).getD n 0)
def addH (h v : H8) : H8 := ⟨h.a + v.a, h.b + v.b, h.c + v.c, h.d + v.d, h.e + v.e, h.f + v.f, h.g + v.g, h.h + v.h⟩
def addL (h v : H8) (i : Nat) : List UInt32 := (addH h v).l.take i ++ h.l.drop i
theorem addL_get (h v : H8) {i : Nat} (hi : i < 8) : (addL h v i)[i]? = some (h.l.getD i 0) := by
  unfold addL
  have hl : h.l.length = 8 := rfl
  have hl2 : (addH h v).l.length = 8 := rfl
  rw [List.getElem?_append_right (by rw [List.length_take]; omega), List.length_take, List.getElem?_drop, show i + (i - min i (addH h v).l.length) = i from by omega, List.getD_eq_getElem?_getD, List.getElem?_eq_getElem (by omega)]
  rfl
theorem addL_sum (h v : H8) {i : Nat} (hi : i < 8) : (addH h v).l.getD i 0 = h.l.getD i 0 + v.l.getD i 0 := by
  rcases (by omega : i = 0 ∨ i = 1 ∨ i = 2 ∨ i = 3 ∨ i = 4 ∨ i = 5 ∨ i = 6 ∨ i = 7) with rfl | rfl | rfl | rfl | rfl | rfl | rfl | rfl <;> rfl
theorem addL_set (h v : H8) {i : Nat} (hi : i < 8) : (addL h v i).set i (h.l.getD i 0 + v.l.getD i 0) = addL h v (i + 1) := by
  rw [← addL_sum h v hi]
  unfold addL
  have hl : h.l.length = 8 := rfl
  have hl2 : (addH h v).l.length = 8 := rfl
  rw [List.set_append_right _ _ (by rw [List.length_take]; omega), List.length_take, show i - min i (addH h v).l.length = 0 from by omega, List.drop_eq_getElem_cons (by omega), List.set_cons_zero, List.take_add_one, List.getElem?_eq_getElem (by omega), List.append_assoc, List.getD_eq_getElem?_getD, List.getElem?_eq_getElem (by omega)]
  rfl
theorem addL_8 (h v : H8) : addL h v 8 = (addH h v).l := by
  unfold addL
  rw [List.take_of_length_le (by show 8 ≤ 8; omega), List.drop_of_length_le (by show 8 ≤ 8; omega), List.append_nil]
def mix (h : H8) (b : List UInt8) : H8 := addH h (rnds b h 64)
def mixN : Nat → H8 → List UInt8 → H8
  | 0, h, _ => h
  | n + 1, h, l => mixN n (mix h (l.take 64)) (l.drop 64)
theorem mixN_add (m : Nat) : ∀ (n : Nat) (h : H8) (l : List UInt8), mixN (n + m) h l = mixN m (mixN n h l) (l.drop (64 * n))
  | 0, h, l => by rw [Nat.zero_add, Nat.mul_zero, List.drop_zero]; rfl
  | n + 1, h, l => by
    rw [show n + 1 + m = (n + m) + 1 from by omega]
    show mixN (n + m) (mix h (l.take 64)) (l.drop 64) = mixN m (mixN n (mix h (l.take 64)) (l.drop 64)) _
    rw [mixN_add m n, List.drop_drop, show 64 + 64 * n = 64 * (n + 1) from by omega]
theorem mixN_app (r : List UInt8) : ∀ (n : Nat) (h : H8) (l : List UInt8), 64 * n ≤ l.length → mixN n h (l ++ r) = mixN n h l
  | 0, _, _, _ => rfl
  | n + 1, h, l, hl => by
    show mixN n (mix h ((l ++ r).take 64)) ((l ++ r).drop 64) = mixN n (mix h (l.take 64)) (l.drop 64)
    rw [List.take_append_of_le_length (by omega), List.drop_append_of_le_length (by omega)]
    exact mixN_app r n _ _ (by rw [List.length_drop]; omega)
theorem mixN_succ (n : Nat) (h : H8) (l : List UInt8) : mixN (n + 1) h l = mix (mixN n h l) ((l.drop (64 * n)).take 64) := by
  rw [mixN_add 1 n]; rfl
def zeros (n : Nat) : Nat := (119 - n % 64) % 64
theorem zeros_mod (n : Nat) : (n + 1 + zeros n) % 64 = 56 ∧ zeros n < 64 := by unfold zeros; omega
theorem zeros_least {n i : Nat} (h : i < zeros n) : (n + 1 + i) % 64 ≠ 56 := by unfold zeros at h; omega
def pad (bs : List UInt8) (n : Nat) : List UInt8 := bs ++ 128 :: (List.replicate (zeros bs.length) 0 ++ Cod.be 8 (8 * n))
theorem pad_len (bs : List UInt8) (n : Nat) : (pad bs n).length % 64 = 0 ∧ (pad bs n).length = bs.length + 9 + zeros bs.length := by
  have e : (pad bs n).length = bs.length + 9 + zeros bs.length := by
    unfold pad
    rw [List.length_append, List.length_cons, List.length_append, List.length_replicate, Cod.be_len]; omega
  refine ⟨?_, e⟩
  rw [e]
  have := zeros_mod bs.length
  omega
def outH (v : H8) : List UInt8 := v.l.flatMap fun x => Cod.be 4 x.toNat
theorem outH_len (v : H8) : (outH v).length = 32 := by
  unfold outH H8.l
  simp [Cod.be_len]
def sum (bs : List UInt8) : List UInt8 := outH (mixN ((pad bs bs.length).length / 64) h0 (pad bs bs.length))
theorem sum_len (bs : List UInt8) : (sum bs).length = 32 := outH_len _
theorem sum_two (bs : List UInt8) : sum bs = outH (mixN ((pad (bs.drop (64 * (bs.length / 64))) bs.length).length / 64) (mixN (bs.length / 64) h0 bs) (pad (bs.drop (64 * (bs.length / 64))) bs.length)) := by
  unfold sum
  obtain ⟨q, hq⟩ : ∃ q, q = bs.length / 64 := ⟨_, rfl⟩
  rw [← hq]
  have hz : zeros (bs.length - 64 * q) = zeros bs.length := by unfold zeros; omega
  have e1 : (pad bs bs.length).drop (64 * q) = pad (bs.drop (64 * q)) bs.length := by
    unfold pad
    rw [List.drop_append_of_le_length (by omega), List.length_drop, hz]
  have e2 : (pad bs bs.length).length / 64 = q + (pad (bs.drop (64 * q)) bs.length).length / 64 := by
    rw [(pad_len _ _).2, (pad_len _ _).2, List.length_drop, hz]
    omega
  rw [e2, mixN_add, e1]
  refine congrArg outH (congrArg (fun h => mixN _ h _) ?_)
  unfold pad
  rw [mixN_app _ q h0 bs (by omega)]
end Sha
end
