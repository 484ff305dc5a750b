/- Of indexes those without a lease, rising, each once. -/
import Derived.Test.YtgjabnpngggcmaaLeaKeys
import Derived.Test.YtgjabnpngggcmaaTail
namespace Go.Proofs.Ytgjabnpngggcmaa
open Go Go.RowKit Go.Mem Gf Lea
structure BareI (l : List Les) (ks : List Key) (i : Nat) (R : List Key) : Prop where
  up : R.Pairwise fun a b => Go.Lib.compareBytes a b < 0
  mem : ∀ k, k ∈ R ↔ k ∈ ks.take i ∧ ∀ x ∈ l, x.ix ≠ k
theorem bare_zero (l : List Les) (ks : List Key) : BareI l ks 0 [] := ⟨List.Pairwise.nil, fun k => by simp⟩
section
variable {l : List Les} {ks R : List Key} {i : Nat} {x : Key}
theorem mem_take_succ (hx : ks[i]? = some x) (k : Key) : k ∈ ks.take (i + 1) ↔ k ∈ ks.take i ∨ k = x := by
  rw [List.take_add_one, hx, Option.toList_some, List.mem_append, List.mem_singleton]
theorem bare_has (h : BareI l ks i R) (hx : ks[i]? = some x) (hh : ¬ ∀ z ∈ l, z.ix ≠ x) : BareI l ks (i + 1) R := by
  refine ⟨h.up, fun k => ?_⟩
  rw [h.mem, mem_take_succ hx]
  constructor
  · rintro ⟨h1, h2⟩; exact ⟨.inl h1, h2⟩
  · rintro ⟨h1 | h1, h2⟩
    · exact ⟨h1, h2⟩
    · subst h1; exact absurd h2 hh
theorem bare_dup (h : BareI l ks i R) (hx : ks[i]? = some x) (h0 : 0 < i) (hd : ks[i - 1]? = some x) : BareI l ks (i + 1) R := by
  refine ⟨h.up, fun k => ?_⟩
  have hin : x ∈ ks.take i := List.mem_iff_getElem?.2 ⟨i - 1, by rw [List.getElem?_take, if_pos (by omega)]; exact hd⟩
  rw [h.mem, mem_take_succ hx]
  constructor
  · rintro ⟨h1, h2⟩; exact ⟨.inl h1, h2⟩
  · rintro ⟨h1 | h1, h2⟩
    · exact ⟨h1, h2⟩
    · subst h1; exact ⟨hin, h2⟩
theorem bare_new (h : BareI l ks i R) (hs : ks.Pairwise fun a b => ltK b a = false) (hx : ks[i]? = some x) (hd : ∀ y, 0 < i → ks[i - 1]? = some y → y ≠ x) (hn : ∀ z ∈ l, z.ix ≠ x) : BareI l ks (i + 1) (R ++ [x]) := by
  have hle : ∀ {p q : Nat} {a b : Key}, p < q → ks[p]? = some a → ks[q]? = some b → Go.Lib.compareBytes a b ≤ 0 := fun {p q a b} hpq ha hb => by
    rw [List.pairwise_iff_getElem] at hs
    have hp := some_lt ha
    have hq := some_lt hb
    have := hs p q hp hq hpq
    rw [List.getElem?_eq_getElem hp] at ha
    rw [List.getElem?_eq_getElem hq] at hb
    cases ha; cases hb
    have e := cmp_neg ks[p] ks[q]
    unfold ltK at this
    simp only [decide_eq_false_iff_not] at this
    omega
  refine ⟨?_, fun k => ?_⟩
  · rw [List.pairwise_append]
    refine ⟨h.up, List.pairwise_singleton _ _, fun a ha b hb => ?_⟩
    rw [List.mem_singleton.1 hb]
    obtain ⟨j, hj⟩ := List.mem_iff_getElem?.1 ((h.mem a).1 ha).1
    rw [List.getElem?_take] at hj
    by_cases hji : j < i
    · rw [if_pos hji] at hj
      have h1 := hle hji hj hx
      by_cases e : Go.Lib.compareBytes a x = 0
      · have hax := cmp_eq0 _ _ e
        subst hax
        have hy : ks[i - 1]? = some (ks[i - 1]'(by have := some_lt hx; omega)) := by simp
        generalize ks[i - 1]'(by have := some_lt hx; omega) = y at hy
        have h3 := hle (by omega : i - 1 < i) hy hx
        have h4 : Go.Lib.compareBytes a y ≤ 0 := by
          rcases Nat.lt_or_ge j (i - 1) with c | c
          · exact hle c hj hy
          · have : j = i - 1 := by omega
            subst this
            rw [hj] at hy; cases hy
            rw [cmp_refl]; omega
        have e2 := cmp_neg a y
        have := cmp_eq0 y a (by omega)
        exact absurd this (hd y (by omega) hy)
      · omega
    · rw [if_neg hji] at hj; cases hj
  · rw [List.mem_append, List.mem_singleton, h.mem, mem_take_succ hx]
    constructor
    · rintro (⟨h1, h2⟩ | rfl)
      · exact ⟨.inl h1, h2⟩
      · exact ⟨.inr rfl, hn⟩
    · rintro ⟨h1 | h1, h2⟩
      · exact .inl ⟨h1, h2⟩
      · exact .inr h1
end
theorem EKk : ElemK Try.prog 37 26 (.agg (List.replicate 16 (Value.int .u8 0)).toArray) 16 16 := ⟨Try.underlying37, by kernel_rfl, rfl, by decide⟩
theorem slice_key (dst : Option Tmp) (x : Operand) (ty : TypeId) (pos : String) (af : Array Edge) (a : Act) (w : World) (K : Act → World → Prop) (Q : Exit → Act → World → Prop) (hy : aggIs (a.eval x) = true) (hc : AllK 16 (aggL (a.eval x))) :
    Oper.wp Try.prog ⟨dst, .buildSlice 37 1 #[(0, x)], ty, pos, af, none⟩ a w K Q = K (a.put dst (.slice (some ⟨w.heap.size, 0, none⟩) 1 1)) (w.alloc (.cells (aggL (a.eval x)).toArray 26)) :=
  wp_sliceK Try.underlying37 (by kernel_rfl) (by decide) (by decide) dst x ty pos af a w K Q hy hc
theorem store_key (dst : Option Tmp) (x y : Operand) (ty : TypeId) (pos : String) (af : Array Edge) (a : Act) (w : World) (K : Act → World → Prop) (Q : Exit → Act → World → Prop)
    (hp : ptrIs (a.eval x) = true) (hy : aggIs (a.eval y) = true) (ht : HasK 16 w (ptrB (a.eval x)) (ptrO (a.eval x))) (hc : AllK 16 (aggL (a.eval y))) :
    Oper.wp Try.prog ⟨dst, .store 26 x y, ty, pos, af, none⟩ a w K Q = K (a.put dst undef) (w.setCells (ptrB (a.eval x)) (ptrO (a.eval x)) (aggL (a.eval y))) :=
  wp_storeK i16 dst x y ty pos af a w K Q hp hy ht hc
attribute [local go_sem ↓] Go.wp_at_zero Go.wp_at_succ
theorem quiet_key (dst : Option Tmp) (x : Operand) (ty : TypeId) (pos : String) (af : Array Edge) (gd : Option (Tmp × Bool)) (a : Act) (W : World) (K : Act → Prop)
    (hp : ptrIs (a.eval x) = true) (ht : HasK 16 W (ptrB (a.eval x)) (ptrO (a.eval x))) :
    Oper.quiet Try.prog ⟨dst, .load 26 x, ty, pos, af, gd⟩ a (fun w' => ∃ n, w' = W.drewN n) K = K (a.put dst (.agg (readK 16 W (ptrB (a.eval x)) (ptrO (a.eval x))).toArray)) :=
  quiet_loadK Try.underlying26 rfl i16 dst x ty pos af gd a W K hp ht
attribute [local go_sem ↓] load_key store_key slice_key quiet_key
attribute [local go_sem] ptrB_eq ptrO_eq ptrIs_eq aggL_eq aggIs_eq readK_drew hasK_drew readK_alloc_past hasK_alloc_past readK_alloc_in hasK_alloc_in setCells_drew setCells_alloc_past setCells_alloc_at
theorem _root_.Go.Proofs.Ytgjabnpngggcmaa.Tab.chg {S : Nat → Prop} {w w' : World} {tb : Nat} {v : Value} {l : List Les} (h : Tab w tb v l) (hc : Chg S w w') (h1 : ¬ S tb) (h2 : ∀ g, v.ownBlock = some g → ¬ S g) : Tab w' tb v l :=
  ⟨hc.blk h.cell h1, own_chg h.own hc h2, h.wf, h.apart⟩
set_option maxRecDepth 100000 in
set_option maxHeartbeats 1000000 in
theorem bare_calls (w : World) (tb : Nat) (v : Value) (l : List Les) (base : Nat) (a : Option Addr) (n c : Nat) (ks : List Key) (h : Tab w tb v l) (hl : l.length ≤ 90000) (h8 : ∀ ix, (ofL l ix).length ≤ 12)
    (hk : OwnG bV WfK 16 26 w base (.slice a n c) ks) (hkn : ks.length ≤ 1000000) (hsep : ∀ g, (Value.slice a n c).ownBlock = some g → g ≠ tb ∧ v.ownBlock ≠ some g) :
    Calls Try.prog 21 #[.pointer (some ⟨tb, 0, none⟩), .slice a n c] w fun e w' => ∃ vo R, e = .returned vo ∧ OwnG bV WfK 16 26 w' w.heap.size vo R ∧ BareI l ks ks.length R ∧ Chg (fun b => (Value.slice a n c).ownBlock = some b) w w' := by
  have hlen : n = ks.length := by
    obtain ⟨_, _, e⟩ := hk.slice
    injection e
  have hlt : (Value.slice a n c).ownBlock ≠ some w.heap.size := fun e => by
    have := hk.own.lt _ e
    omega
  have hnn : n ≤ 1000000 := by omega
  have H := Lib.hid (And.intro h (And.intro h8 (And.intro hk (And.intro hsep (And.intro hlen hlt)))))
  have HB : Hid (Below w.heap.size w (w.alloc (.cells #[.slice a n c] 37))) := (Below.refl _ _).alloc (Nat.le_refl _) _
  clear h h8 hk hsep hlen hlt
  go_enter Try.func21, Try.ntmps21
  have HP : Hid (Blk (w.alloc (.cells #[.slice a n c] 37)) w.heap.size #[.slice a n c] 37) := Blk.new _ _ _
  obtain ⟨p3, hp3⟩ : ∃ p, p = w.heap.size := ⟨_, rfl⟩
  obtain ⟨w0, hw0⟩ : ∃ x, x = w.alloc (.cells #[.slice a n c] 37) := ⟨_, rfl⟩
  have HP3 := Lib.hid hp3
  have HW0 := Lib.hid hw0
  go_upto_region 1 with fail
  rw [← hw0] at HB HP ⊢
  rw [← hp3] at HP ⊢
  have q3 : w0.cell? ⟨p3, 0, none⟩ = some (.slice a n c) := by simpa using HP.out.cell 0
  clear hp3 hw0
  go_wp2_with fail
  refine (ksort_calls w0 p3 base a n c ks (H.out.2.2.1.chg (S := fun _ => False) (Chg.of_below HB.out) (fun _ _ h => h)) HP.out (by rw [HP3.out]; exact H.out.2.2.2.2.2) hkn).mono ?_
  rintro r w2 ⟨rfl, ks', hk2, hp2, hs2, hc2⟩
  have hb2 := hc2.blk HP.out (by rw [HP3.out]; exact H.out.2.2.2.2.2)
  have hT2 := (H.out.1.below HB.out).chg hc2 (fun e => (H.out.2.2.2.1 _ e).1 rfl) (fun g hg e => (H.out.2.2.2.1 g e).2 hg)
  have q3 : w2.cell? ⟨p3, 0, none⟩ = some (.slice a n c) := by simpa using hb2.cell 0
  have hcw : Chg (fun b => (Value.slice a n c).ownBlock = some b) w w2 := (Chg.of_below HB.out).trans hc2
  have hn2 : n = ks'.length := by rw [hp2.length_eq]; exact H.out.2.2.2.2.1
  have hg2 : 0 < n → ∃ g, a = some ⟨g, 0, none⟩ ∧ RowG bV WfK 16 26 w2 base g n c ks' := fun h0 => by
    obtain ⟨g, cap, e, hr⟩ := hk2.ex (by omega)
    injection e with ea en ec
    rw [← ec, ← hn2] at hr
    exact ⟨g, ea, hr⟩
  have l3 := hb2.lt
  have H2 := Lib.hid (And.intro hb2 (And.intro hT2 (And.intro hcw (And.intro hn2 (And.intro hg2 (And.intro hp2 hs2))))))
  clear hb2 hT2 hcw hn2 hg2 hp2 hs2 hc2 hk2
  go_upto_region 4 with fail
  go_loopw [5, 14] (fun v5 vi wr => ∃ (i : Nat) (R : List Key), i ≤ n ∧ vi = .int .i64 i ∧ Hid (OwnG bV WfK 16 26 wr w2.heap.size v5 R ∧ BareI l ks' i R ∧ Chg (fun k => w2.heap.size ≤ k) w2 wr ∧ R.length ≤ i)) (fun _ vi _ => n - (intOf vi).toNat)
  case atStart => exact ⟨0, [], Nat.zero_le _, rfl, OwnG.nil _ _ _ _ _ _, bare_zero _ _, Chg.refl _ _, Nat.le_refl _⟩
  case round =>
    obtain ⟨i, R, hi0, rfl, G⟩ := hrel
    by_cases hin : i < n
    · obtain ⟨g, rfl, hr0⟩ := H2.out.2.2.2.2.1 (by omega)
      have hB : Below w2.heap.size w2 wr := G.out.2.2.1.below (Nat.le_refl _) (fun _ h => h)
      have hrow := hr0.chg (S := fun _ => False) (Chg.of_below hB) (fun h => h)
      have hx : ks'[i]? = some (ks'[i]'(by have := H2.out.2.2.2.1; omega)) := by simp
      generalize ks'[i]'(by have := H2.out.2.2.2.1; omega) = x at hx
      have wx : x.length = 16 := hrow.wf x (List.mem_of_getElem? hx)
      have rx := hrow.read ecK hx
      have t1 : HasK 16 wr g (i * 16) := hrow.there hin
      have ax : AllK 16 (bV x) := ⟨(key_in wx).2, bV_one x⟩
      have k1 := (key_in wx).1
      have k2 := (key_in wx).2
      have gl : g < wr.heap.size := hrow.lt
      have gl1 : g < wr.heap.size + 1 := by omega
      have hb3 := H2.out.1.kept hB
      have q3 : wr.cell? ⟨p3, 0, none⟩ = some (.slice (some ⟨g, 0, none⟩) n c) := by simpa using hb3.cell 0
      have l3 := hb3.lt
      have i0 : (0 : Int) ≤ (i : Int) := by omega
      have i1 : (i : Int) < (n : Int) := by omega
      have HX := Lib.hid (And.intro hx (And.intro hrow hb3))
      have hT := H2.out.2.1.below hB
      obtain ⟨m, hm⟩ : ∃ m, m = (ofL l x).length := ⟨_, rfl⟩
      have hof : ∀ W (d : Nat), W = (wr.alloc (.cells (bV x).toArray 26)).drewN d → Calls Try.prog 13 #[.pointer (some ⟨tb, 0, none⟩), .agg (bV x).toArray] W fun r w' => ∃ a c, r = .returned (.slice a m c) ∧ Below wr.heap.size wr w' ∧ readK 16 w' wr.heap.size 0 = bV x ∧ HasK 16 w' wr.heap.size 0 := fun W d hW => by
        have h0 : Below wr.heap.size wr W := by rw [hW]; exact below_drewN ((Below.refl _ _).alloc (Nat.le_refl _) _) d
        have hb0 : Blk W wr.heap.size (bV x).toArray 26 := by rw [hW]; exact (Blk.new _ _ _).drewN d
        refine (of_calls W tb v l x (hT.below h0) (by omega) wx (H.out.2.1 x)).mono ?_
        rintro r w' ⟨vo, out, rfl, hO, hR, hB'⟩
        obtain ⟨a, c, rfl⟩ := hO.slice
        have hb' := hb0.kept hB'
        exact ⟨a, c, by rw [hR.perm.length_eq, hm], h0.trans (hB'.mono h0.size), blk_read0 hb' (by rw [bV_len]; exact wx), blk_has hb' (by simp [bV_len, wx])⟩
      have hm2 : (m = 0 → ∀ z ∈ l, z.ix ≠ x) ∧ (m ≠ 0 → ¬ ∀ z ∈ l, z.ix ≠ x) := by
        constructor
        · intro e
          exact ofL_nil.1 (List.eq_nil_of_length_eq_zero (by omega))
        · intro e h
          exact e (by rw [hm, ofL_nil.2 h]; rfl)
      have HOF := Lib.hid hof
      have HM := Lib.hid hm2
      clear hx hrow hb3 hT hof hm hm2 hr0 hB
      by_cases c0 : i = 0
      · have d0 : decide ((i : Int) = 0) = true := by simp; omega
        have d0' : ((i : Int) == 0) = true := by simp; omega
        have C0 := Lib.hid c0
        clear c0
        by_cases cm : m = 0
        · subst cm
          have HN := Lib.hid (HM.out.1 rfl)
          go_upto_region 6 with fail
          refine Tail.wp_region_quiet_tail 14 (fun w' => ∃ n, w' = (wr.alloc (.cells (bV x).toArray 26)).drewN n) (by kernel_rfl) (by kernel_rfl) ⟨1, rfl⟩ ?_
          simp only [List.take_succ_cons, List.take_zero, List.drop_succ_cons, List.drop_zero]
          repeat (first
            | go_big_quiet_step (fail)
            | quiet_step (fail))
          refine wpQuiet_nil ?_
          intro _ hw'
          obtain ⟨d5, hw''⟩ := hw'
          subst hw''
          go_wp2_with
            (first
              | (refine (HOF.out _ d5 rfl).mono ?_
                 rintro r w3 ⟨a3, c3, rfl, hB3, r7, h7⟩
                 have HO3 := Lib.hid (G.out.1.chg (S := fun _ => False) (Chg.of_below hB3) (fun _ _ h => h))
                 have HC3 := Lib.hid (G.out.2.2.1.trans_below hB3)
                 have hz3 : w2.heap.size ≤ w3.heap.size := Nat.le_trans G.out.2.2.1.size hB3.size
                 clear hB3)
              | (refine appG_own EKk ecK (by rfl) _ _ (by rfl) (base := w2.heap.size) (l := R) (cx := 1) (e' := 26) x wx (by rfl) (by rfl) (Blk.new_at _ _ _ _ (by simp)) (HO3.out.chg (S := fun _ => False) (Chg.of_below ((Below.refl _ _).alloc (Nat.le_refl _) _)) (fun _ _ h => h)) (by have := G.out.2.2.2; have := H.out.2.2.2.2.1; omega) (by decide) (by simp; omega) ?_
                 intro v1 x1 hv1 hg1 hs1
                 have HV1 := Lib.hid hv1
                 have HC1 := Lib.hid ((HC3.out.trans_below ((Below.refl _ _).alloc (Nat.le_refl _) _)).grown hg1 (fun q hq => .inl (HO3.out.ge hq)))
                 clear hv1 hg1 hs1)
              | fail)
          exact ⟨⟨i + 1, R ++ [x], by omega, by simp, HV1.out, bare_new G.out.2.1 H2.out.2.2.2.2.2.2 HX.out.1 (fun _ h0 _ => absurd C0.out (by omega)) HN.out, HC1.out, by have := G.out.2.2.2; simp; omega⟩, by show n - ((i : Int) + 1).toNat < n - (i : Int).toNat; omega⟩
        · have HN := Lib.hid (HM.out.2 cm)
          have dm : decide ((m : Int) = 0) = false := by simp; omega
          have dm' : ((m : Int) == 0) = false := by simp; omega
          replace cm := Lib.hid cm
          go_upto_region 6 with fail
          refine Tail.wp_region_quiet_tail 14 (fun w' => ∃ n, w' = (wr.alloc (.cells (bV x).toArray 26)).drewN n) (by kernel_rfl) (by kernel_rfl) ⟨1, rfl⟩ ?_
          simp only [List.take_succ_cons, List.take_zero, List.drop_succ_cons, List.drop_zero]
          repeat (first
            | go_big_quiet_step (fail)
            | quiet_step (fail))
          refine wpQuiet_nil ?_
          intro _ hw'
          obtain ⟨d5, hw''⟩ := hw'
          subst hw''
          go_wp2_with
            (first
              | (refine (HOF.out _ d5 rfl).mono ?_
                 rintro r w3 ⟨a3, c3, rfl, hB3, r7, h7⟩
                 have HO3 := Lib.hid (G.out.1.chg (S := fun _ => False) (Chg.of_below hB3) (fun _ _ h => h))
                 have HC3 := Lib.hid (G.out.2.2.1.trans_below hB3)
                 have hz3 : w2.heap.size ≤ w3.heap.size := Nat.le_trans G.out.2.2.1.size hB3.size
                 clear hB3)
              | fail)
          exact ⟨⟨i + 1, R, by omega, by simp, HO3.out, bare_has G.out.2.1 HX.out.1 HN.out, HC3.out, by have := G.out.2.2.2; omega⟩, by show n - ((i : Int) + 1).toNat < n - (i : Int).toNat; omega⟩
      · have d0 : decide ((i : Int) = 0) = false := by simp; omega
        have d0' : ((i : Int) == 0) = false := by simp; omega
        obtain ⟨y, hy⟩ : ∃ y, ks'[i - 1]? = some y := ⟨_, List.getElem?_eq_getElem (by have := H2.out.2.2.2.1; omega)⟩
        have wy : y.length = 16 := HX.out.2.1.wf y (List.mem_of_getElem? hy)
        have ry := HX.out.2.1.read ecK hy
        have t2 : HasK 16 wr g ((i - 1) * 16) := HX.out.2.1.there (by omega)
        have eyx := eq_key y x wy wx
        obtain ⟨j, hj⟩ : ∃ j, j = i - 1 := ⟨_, rfl⟩
        have ej : (i : Int) - 1 = (j : Int) := by omega
        have j0 : (0 : Int) ≤ (j : Int) := by omega
        have j1 : (j : Int) < (n : Int) := by omega
        rw [← hj] at hy ry t2
        have C0 := Lib.hid (And.intro hj (And.intro c0 hy))
        clear hj c0 hy
        by_cases ce : y = x
        · have d1 : decide (y = x) = true := by simpa using ce
          replace ce := Lib.hid ce
          go_upto_region 6 with fail
          go_quiet (fail)
          go_wp2_with fail
          have hB4 : Below wr.heap.size wr ((wr.alloc (.cells (bV x).toArray 26)).drewN nq) := below_drewN ((Below.refl _ _).alloc (Nat.le_refl _) _) nq
          exact ⟨⟨i + 1, R, by omega, by simp, G.out.1.chg (S := fun _ => False) (Chg.of_below hB4) (fun _ _ h => h), bare_dup G.out.2.1 HX.out.1 (by have := C0.out.2.1; omega) (by rw [← C0.out.1, C0.out.2.2, ce.out]), G.out.2.2.1.trans_below hB4, by have := G.out.2.2.2; omega⟩, by show n - ((i : Int) + 1).toNat < n - (i : Int).toNat; omega⟩
        · have d1 : decide (y = x) = false := by simpa using ce
          replace ce := Lib.hid ce
          by_cases cm : m = 0
          · subst cm
            have HN := Lib.hid (HM.out.1 rfl)
            go_upto_region 6 with fail
            refine Tail.wp_region_quiet_tail 14 (fun w' => ∃ n, w' = (wr.alloc (.cells (bV x).toArray 26)).drewN n) (by kernel_rfl) (by kernel_rfl) ⟨1, rfl⟩ ?_
            simp only [List.take_succ_cons, List.take_zero, List.drop_succ_cons, List.drop_zero]
            repeat (first
              | go_big_quiet_step (fail)
              | quiet_step (fail))
            refine wpQuiet_nil ?_
            intro _ hw'
            obtain ⟨d5, hw''⟩ := hw'
            subst hw''
            go_wp2_with
              (first
                | (refine (HOF.out _ d5 rfl).mono ?_
                   rintro r w3 ⟨a3, c3, rfl, hB3, r7, h7⟩
                   have HO3 := Lib.hid (G.out.1.chg (S := fun _ => False) (Chg.of_below hB3) (fun _ _ h => h))
                   have HC3 := Lib.hid (G.out.2.2.1.trans_below hB3)
                   have hz3 : w2.heap.size ≤ w3.heap.size := Nat.le_trans G.out.2.2.1.size hB3.size
                   clear hB3)
                | (refine appG_own EKk ecK (by rfl) _ _ (by rfl) (base := w2.heap.size) (l := R) (cx := 1) (e' := 26) x wx (by rfl) (by rfl) (Blk.new_at _ _ _ _ (by simp)) (HO3.out.chg (S := fun _ => False) (Chg.of_below ((Below.refl _ _).alloc (Nat.le_refl _) _)) (fun _ _ h => h)) (by have := G.out.2.2.2; have := H.out.2.2.2.2.1; omega) (by decide) (by simp; omega) ?_
                   intro v1 x1 hv1 hg1 hs1
                   have HV1 := Lib.hid hv1
                   have HC1 := Lib.hid ((HC3.out.trans_below ((Below.refl _ _).alloc (Nat.le_refl _) _)).grown hg1 (fun q hq => .inl (HO3.out.ge hq)))
                   clear hv1 hg1 hs1)
                | fail)
            exact ⟨⟨i + 1, R ++ [x], by omega, by simp, HV1.out, bare_new G.out.2.1 H2.out.2.2.2.2.2.2 HX.out.1 (fun z h0 hz e => ce.out (by have h1 := C0.out.2.2; rw [C0.out.1, hz] at h1; cases h1; exact e)) HN.out, HC1.out, by have := G.out.2.2.2; simp; omega⟩, by show n - ((i : Int) + 1).toNat < n - (i : Int).toNat; omega⟩
          · have HN := Lib.hid (HM.out.2 cm)
            have dm : decide ((m : Int) = 0) = false := by simp; omega
            have dm' : ((m : Int) == 0) = false := by simp; omega
            replace cm := Lib.hid cm
            go_upto_region 6 with fail
            refine Tail.wp_region_quiet_tail 14 (fun w' => ∃ n, w' = (wr.alloc (.cells (bV x).toArray 26)).drewN n) (by kernel_rfl) (by kernel_rfl) ⟨1, rfl⟩ ?_
            simp only [List.take_succ_cons, List.take_zero, List.drop_succ_cons, List.drop_zero]
            repeat (first
              | go_big_quiet_step (fail)
              | quiet_step (fail))
            refine wpQuiet_nil ?_
            intro _ hw'
            obtain ⟨d5, hw''⟩ := hw'
            subst hw''
            go_wp2_with
              (first
                | (refine (HOF.out _ d5 rfl).mono ?_
                   rintro r w3 ⟨a3, c3, rfl, hB3, r7, h7⟩
                   have HO3 := Lib.hid (G.out.1.chg (S := fun _ => False) (Chg.of_below hB3) (fun _ _ h => h))
                   have HC3 := Lib.hid (G.out.2.2.1.trans_below hB3)
                   have hz3 : w2.heap.size ≤ w3.heap.size := Nat.le_trans G.out.2.2.1.size hB3.size
                   clear hB3)
                | fail)
            exact ⟨⟨i + 1, R, by omega, by simp, HO3.out, bare_has G.out.2.1 HX.out.1 HN.out, HC3.out, by have := G.out.2.2.2; omega⟩, by show n - ((i : Int) + 1).toNat < n - (i : Int).toNat; omega⟩
    · go_wp2_with fail
      go_ret
      have hfull : ks'.take i = ks' := List.take_of_length_le (by have := H2.out.2.2.2.1; omega)
      refine ⟨u5, R, rfl, G.out.1.lower H2.out.2.2.1.size, ⟨G.out.2.1.up, fun k => ?_⟩, H2.out.2.2.1.mix G.out.2.2.1 (fun k hk => .inr (Nat.le_trans H2.out.2.2.1.size hk))⟩
      rw [G.out.2.1.mem, hfull, List.take_of_length_le (Nat.le_refl _), H2.out.2.2.2.2.2.1.mem_iff]
end Go.Proofs.Ytgjabnpngggcmaa
