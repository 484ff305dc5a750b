/- The walk of LeaseBack. -/
import Derived.Test.YtgjabnpngggcmaaDoorLeaSet
import Derived.Test.YtgjabnpngggcmaaDoorBKeep
import Derived.Test.YtgjabnpngggcmaaDoorTail
import Derived.Test.YtgjabnpngggcmaaDoorTailAny
namespace Go.Proofs.YtgjabnpngggcmaaDoor
open Go Go.RowKit Go.Mem Gf Lea
theorem quiet_leaseS (dst : Option Tmp) (x : Operand) (ty : TypeId) (pos : String) (af : Array Edge) (gd : Option (Tmp × Bool)) (a : Act) (W : World) (K : Act → Prop)
    (hp : ptrIs (a.eval x) = true) (ht : SomeK 17 W (ptrB (a.eval x)) (ptrO (a.eval x))) :
    Oper.quiet Tryd.prog ⟨dst, .load 29 x, ty, pos, af, gd⟩ a (fun w' => ∃ n, w' = W.drewN n) K = K (a.put dst (.agg (readK 17 W (ptrB (a.eval x)) (ptrO (a.eval x))).toArray)) :=
  quiet_loadS Tryd.underlying29 rfl i17 dst x ty pos af gd a W K hp ht
set_option linter.unusedSimpArgs false
theorem quiet_build {P : Program} {t : TypeId} {fields : Array Field} {n m : Nat} (hu : P.underlying t = some (.struct fields)) (hi : ((P.info? t).bind (·.zero)).map (·.cells.size) = some (n + m))
    (hp : fields.toList.mapM (fun f => (P.info? f.type).map fun i => (f.offset, i.size)) = some [(0, n), (n, m)])
    (dst : Option Tmp) (x y : Operand) (ty : TypeId) (pos : String) (af : Array Edge) (gd : Option (Tmp × Bool)) (a : Act) (W : World) (K : Act → Prop)
    (h1 : (a.eval x).cells.size = n) (h2 : (a.eval y).cells.size = m) :
    Oper.quiet P ⟨dst, .build t #[(0, x), (1, y)], ty, pos, af, gd⟩ a (fun w' => ∃ n, w' = W.drewN n) K = K (a.put dst (.agg ((a.eval x).cells ++ (a.eval y).cells))) := by
  have hl : ∀ w' v, Oper.quietAt P ⟨dst, .build t #[(0, x), (1, y)], ty, pos, af, gd⟩ a (fun w' => ∃ n, w' = W.drewN n) w' v ↔ .agg ((a.eval x).cells ++ (a.eval y).cells) = v := fun w' v => by
    have hr := run_build (P := P) w' t #[(0, a.eval x), (1, a.eval y)] _ (built_two hu hi hp h1 h2)
    unfold Oper.quietAt execOp
    simp only [List.map_toArray, List.map_cons, List.map_nil, Sem.run_bind, hr, Result.andThen_ok]
    show Oper.quietUpon P _ w' v (.ok (.value _) w') ↔ _
    simp only [Oper.quietUpon, true_and]
  unfold Oper.quiet
  apply propext
  constructor
  · rintro ⟨v, h1, h2⟩
    rw [(hl W v).1 (h1 W ⟨0, rfl⟩)]
    exact h2
  · intro h
    exact ⟨_, fun w _ => (hl w _).2 rfl, h⟩
theorem quiet_build_lease (dst : Option Tmp) (x y : Operand) (ty : TypeId) (pos : String) (af : Array Edge) (gd : Option (Tmp × Bool)) (a : Act) (W : World) (K : Act → Prop)
    (h1 : (a.eval x).cells.size = 16) (h2 : (a.eval y).cells.size = 1) :
    Oper.quiet Tryd.prog ⟨dst, .build 29 #[(0, x), (1, y)], ty, pos, af, gd⟩ a (fun w' => ∃ n, w' = W.drewN n) K = K (a.put dst (.agg ((a.eval x).cells ++ (a.eval y).cells))) :=
  quiet_build Tryd.underlying29 (by kernel_rfl) (by kernel_rfl) dst x y ty pos af gd a W K h1 h2
theorem back_add {lu lt l' : List Les} {ix : Key} {o : List Sec} {x : Sec} {b : Bool} (hlu : lu.Perm lt) (hg : Lea.Good lt) (hR : OfR lt ix o) (hx : x ∈ o) (h : AddR lu ix x.1 1 b l') : b = true ∧ l'.Perm lt := by
  obtain ⟨y, hy, e1, e2⟩ := mem_ofL.1 (hR.perm.mem_iff.1 hx)
  have hyu := hlu.mem_iff.2 hy
  have hm : May 1 := ⟨by omega, by omega⟩
  cases h with
  | no h =>
    rcases h with h | ⟨h, _⟩
    · exact absurd hm h
    · exact absurd ⟨e1, by rw [← e2]⟩ (h y hyu)
  | more k z _ _ hz h1 h2 hp =>
    refine ⟨rfl, hp.trans ?_⟩
    have hze := (hg.ends z (hlu.mem_iff.1 (List.mem_of_getElem? hz))).1
    have e : (⟨ix, x.1, max z.e 1⟩ : Les) = z := by
      obtain ⟨zi, zs, ze⟩ := z
      simp only at h1 h2 hze
      subst h1
      subst h2
      show (⟨_, _, max ze 1⟩ : Les) = ⟨_, _, ze⟩
      rw [Int.max_eq_left (by omega)]
    rw [e]
    have : lu.set k z = lu := by
      apply List.ext_getElem?
      intro j
      by_cases c : k = j
      · subst c
        rw [List.getElem?_set_self (some_lt hz), hz]
      · rw [List.getElem?_set_ne c]
    rw [this]
    exact hlu
  | new _ _ hk _ _ => exact absurd ⟨e1, by rw [← e2]⟩ (hk y hyu)
theorem addR_bad {l l' : List Les} {ix sec : Key} {e : Int} {b : Bool} (he : ¬ May e) (h : AddR l ix sec e b l') : b = false ∧ l' = l := by
  cases h with
  | no h => exact ⟨rfl, rfl⟩
  | more _ _ _ h' _ _ _ _ => exact absurd h' he
  | new _ h' _ _ _ => exact absurd h' he
def LsR (_ : World) (cs : List Value) (s : Sec) : Prop := cs = encL s ∧ s.1.length = 16 ∧ -9223372036854775808 ≤ s.2 ∧ s.2 ≤ 9223372036854775807
theorem addR_ix {l l' : List Les} {ix sec : Key} {e : Int} {b : Bool} (h : AddR l ix sec e b l') (hl : ∀ x ∈ l, x.ix = ix) : ∀ x ∈ l', x.ix = ix := by
  cases h with
  | no h => exact hl
  | more k x _ _ hx _ _ hp =>
    intro y hy
    rcases List.mem_or_eq_of_mem_set (hp.mem_iff.1 hy) with hy | rfl
    · exact hl y hy
    · rfl
  | new _ _ _ _ hp =>
    intro y hy
    rcases List.mem_append.1 (hp.mem_iff.1 hy) with hy | hy
    · exact hl y hy
    · rw [List.mem_singleton.1 hy]
theorem items_ofL {l : List Les} {ix : Key} (hl : ∀ x ∈ l, x.ix = ix) : itemsS ix (ofL l ix) = l := by
  unfold itemsS ofL
  rw [List.filter_eq_self.2 (fun x hx => by simpa using hl x hx), List.map_map]
  refine (List.map_congr_left (fun x hx => ?_)).trans (List.map_id l)
  have := hl x hx
  subst this
  rfl
theorem ofL_nodup {l : List Les} {ix : Key} (hl : ∀ x ∈ l, x.ix = ix) (hg : Lea.Good l) : ((ofL l ix).map (·.1)).Nodup := by
  have h1 : l.map kOf = ((ofL l ix).map (·.1)).map fun s => (ix, s) := by
    conv => lhs; rw [← items_ofL hl]
    unfold itemsS
    rw [List.map_map, List.map_map]
    rfl
  have h2 := hg.uniq
  rw [h1] at h2
  exact (List.pairwise_map.1 h2).imp (fun h e => h (by rw [e]))
/-- what stands behind the first test -/
structure Back (w1 : World) (tb tu : Nat) (ix : Key) (vt : Value) (lt : List Les) (w' : World) : Prop where
  tw : ∃ vu lu, Tw w1 w' tb tu vt vu lt lu ∧ lu.Perm lt
theorem back_chain {w w1 wr : World} {tb tu p3 : Nat} {ix : Key} {vt : Value} {lt : List Les} (hT : Tab w) (hb1 : Below w.heap.size w w1) (hK : Blk w1 p3 (bV ix).toArray 24) (hix : ix.length = 16) (hTw : Tw w1 wr tb tu vt (.slice none 0 0) lt []) (hl : lt.length ≤ 8) (hall : ∀ x ∈ lt, x.ix = ix) {ck : List Value} (hck : ck = bV ix) (W : World) (hW : W = wr.drew) :
    Calls Tryd.prog 7 #[.pointer (some ⟨tb, 0, none⟩), .agg ck.toArray] W fun r w2 => ∃ vo, r = .returned vo ∧ w2.rangeAt p3 0 ck ∧
      Hid (Calls Tryd.prog 6 #[.pointer (some ⟨tu, 0, none⟩), .agg ck.toArray, vo] w2 fun r w3 => r = .returned (.bool true) ∧ w3.rangeAt p3 0 ck ∧
        Hid (Calls Tryd.prog 9 #[.pointer (some ⟨tu, 0, none⟩), .agg ck.toArray] w3 fun r w4 => ∃ v4, r = .returned v4 ∧ w4.rangeAt p3 0 ck ∧
          Hid (Calls Tryd.prog 9 #[.pointer (some ⟨tb, 0, none⟩), .agg ck.toArray] w4 fun r w5 => ∃ v5, r = .returned v5 ∧ w5.rangeAt p3 0 ck ∧
            Hid (Calls Tryd.prog 8 #[v4, v5] w5 fun r w6 => r = .returned (.bool true) ∧ w6.rangeAt p3 0 ck ∧ Hid (Back w1 tb tu ix vt lt w6))))) := by
  subst hck
  subst hW
  have hkey : ∀ w', Below w1.heap.size w1 w' → w'.rangeAt p3 0 (bV ix) := fun w' hb j v hj => by
    rw [(hK.kept hb).cell, Nat.zero_add]
    simpa using hj
  have hT0 := hTw.below (Below.refl wr.heap.size wr).drew
  have hTab : ∀ w', Below w1.heap.size w1 w' → Tab w' := fun w' hb => hT.below (hb1.trans (hb.mono hb1.size))
  refine (tpack_calls _ tb vt lt ix hT0.a.heap.tab (by omega) hix (hT0.a.few ix) hT0.a.good.ends (hTab _ hT0.a.bel)).mono ?_
  rintro r w2 ⟨vo, out, rfl, hP, hR, hB2⟩
  have hT2 := hT0.below hB2
  refine ⟨vo, rfl, hkey _ hT2.a.bel, ?_⟩
  have hlen : out.length ≤ 8 := by
    rw [hR.perm.length_eq]
    exact hT0.a.good.few ix
  have hw : ∀ s ∈ out, WfL s ∧ May s.2 := fun s hs => by
    obtain ⟨x, hx, _, e⟩ := mem_ofL.1 (hR.perm.mem_iff.1 hs)
    subst e
    exact ⟨(hT2.a.heap.tab.wf x hx).2, hT2.a.good.ends x hx⟩
  refine (set_calls w2 tu (.slice none 0 0) [] ix vo out hT2.b.heap hT2.b.good (by simp) (fun _ h => by cases h) hP.bys hw hlen ((hR.perm.map _).nodup_iff.2 (ofL_nodup hall hT2.a.good)) hR.up hix (hTab _ hT2.a.bel)).mono ?_
  rintro r w3 ⟨vu, lu, rfl, hh3, hg3, hp3, hc3⟩
  have hT3 := (hT2.swap.left hc3 hh3 hg3).swap
  have hlu : lu.Perm lt := by
    refine hp3.trans ?_
    rw [List.nil_append]
    have h1 : (itemsS ix out).Perm (itemsS ix (ofL lt ix)) := hR.perm.map _
    rw [items_ofL hall] at h1
    exact h1
  have hlul : lu.length ≤ 8 := by rw [hlu.length_eq]; exact hl
  refine ⟨rfl, hkey _ hT3.a.bel, ?_⟩
  refine (of_calls w3 tu vu lu ix hT3.b.heap.tab (by omega) hix (hT3.b.few ix)).mono ?_
  rintro r w4 ⟨v4, o4, rfl, hO4, hR4, hB4⟩
  have hT4 := hT3.below hB4
  refine ⟨v4, rfl, hkey _ hT4.a.bel, ?_⟩
  refine (of_calls w4 tb vt lt ix hT4.a.heap.tab (by omega) hix (hT4.a.few ix)).mono ?_
  rintro r w5 ⟨v5, o5, rfl, hO5, hR5, hB5⟩
  have hT5 := hT4.below hB5
  have heq : o4 = o5 := OfR.eq hR4 hR5 hlu
  have hl4 : o4.length ≤ 12 := by rw [hR4.perm.length_eq]; exact hT3.b.few ix
  refine ⟨v5, rfl, hkey _ hT5.a.bel, ?_⟩
  refine (same_calls w5 _ _ v4 v5 o4 o5 (hO4.chg (S := fun _ => False) (Chg.of_below hB5) (fun _ _ h => h)) hO5 (by omega) (by rw [← heq]; omega)).mono ?_
  rintro r w6 ⟨rfl, d, rfl⟩
  have hT6 := hT5.below (below_drewN (Below.refl w5.heap.size w5) d)
  exact ⟨by rw [heq]; simp, hkey _ hT6.a.bel, ⟨vu, lu, hT6, hlu⟩⟩
attribute [local go_sem ↓] Go.wp_at_zero Go.wp_at_succ
attribute [local go_sem ↓] load_keyS load_leaseS quiet_keyS quiet_leaseS quiet_build_lease
attribute [local go_sem] ptrB_eq ptrO_eq ptrIs_eq aggL_eq aggIs_eq readK_drew someK_drew readK_alloc_past someK_alloc_past
set_option maxRecDepth 100000 in
set_option maxHeartbeats 1000000 in
theorem leaseBack_walk (w : World) (hT : Tab w) (v0 : Value) (xs : List Sec) (h0 : Sls 17 LsR w v0 xs) (ix : Key) (hix : ix.length = 16) :
    Calls Tryd.prog 3 #[v0, .agg (bV ix).toArray] w fun e w' => e = .returned (.bool true) ∧ Below w.heap.size w w' := by
  obtain ⟨va, vc, rfl⟩ := h0.eq_slice
  obtain ⟨xn, hxn⟩ : ∃ n, n = xs.length := ⟨_, rfl⟩
  have hxm := h0.len
  rw [← hxn] at h0 hxm ⊢
  have H := Lib.hid (And.intro h0 (And.intro hxn hT))
  clear h0 hxn hT
  go_enter Tryd.func3, Tryd.ntmps3
  have HB1 : Hid (Below w.heap.size w (w.alloc (.cells (bV ix).toArray 24))) := (Below.refl _ _).alloc (Nat.le_refl _) _
  have HK1 : Hid (Blk (w.alloc (.cells (bV ix).toArray 24)) w.heap.size (bV ix).toArray 24) := Blk.new _ _ _
  obtain ⟨w1, hw1⟩ : ∃ x, x = w.alloc (.cells (bV ix).toArray 24) := ⟨_, rfl⟩
  obtain ⟨p3, hp3⟩ : ∃ p, p = w.heap.size := ⟨_, rfl⟩
  go_upto_region 1 with fail
  rw [← hw1] at HB1 HK1 ⊢
  rw [← hp3] at HK1 ⊢
  clear hw1 hp3
  go_wp2_with fail
  refine (new_calls w1).mono ?_
  rintro r w2 ⟨tb, rfl, f1, f2, f3⟩
  have HE2 := Lib.hid (Env0.new f1 f2 f3)
  clear f1 f2 f3
  go_wp2_with fail
  refine (new_calls w2).mono ?_
  rintro r w3 ⟨tu, rfl, f1, f2, f3⟩
  have HT3 := Lib.hid (Tw.clone HE2.out f1 (fun g e => by cases e) f2 f3)
  clear f1 f2 f3
  go_upto_region 5 with fail
  go_loopw [7] (fun v4 wr => ∃ (i : Nat) (vt : Value) (lt : List Les), i ≤ 8 ∧ i ≤ xn ∧ v4 = .int .i64 i ∧ Hid (Tw w1 wr tb tu vt (.slice none 0 0) lt [] ∧ lt.length ≤ i ∧ (∀ x ∈ lt, x.ix = ix))) (fun v4 _ => 8 - (intOf v4).toNat)
  case atStart => exact ⟨0, _, [], by omega, by omega, rfl, HT3.out, by simp, (fun x h => by cases h)⟩
  case round =>
    obtain ⟨i, vt, lt, hi8, hix', rfl, G⟩ := hrel
    have hkb := HK1.out.kept G.out.1.a.bel
    have hk := hkb
    have r3 : readK 16 wr p3 0 = bV ix := blk_read0 hkb (by rw [bV_len]; exact hix)
    have s3 : SomeK 16 wr p3 0 := HasK.some (blk_has hkb (by simp [bV_len, hix]))
    have l3 := hkb.lt
    clear hkb hk
    go_upto_region 5 with fail
    go_cut [25] (fun s23 wx => ∃ bb : Bool, s23 = .bool bb ∧ (bb = true → i < xn ∧ i < 8) ∧ wr = wx)
    case first =>
      by_cases c1 : i < xn
      · have d1 : decide ((i : Int) < (xn : Int)) = true := by simp; omega
        have d1' : decide (i < xn) = true := by simpa using c1
        go_wp2_with fail
        go_meet
        exact ⟨_, rfl, fun hb => ⟨c1, by simp at hb; omega⟩, rfl⟩
      · have d1 : decide ((i : Int) < (xn : Int)) = false := by simp; omega
        have d1' : decide (i < xn) = false := by simpa using c1
        go_wp2_with fail
        go_meet
        exact ⟨_, rfl, (fun hb => by cases hb), rfl⟩
    case rest =>
    obtain ⟨bb, rfl, hin, rfl⟩ := hcut
    cases bb
    rotate_left
    · obtain ⟨c1, c2⟩ := hin rfl
      clear hin
      obtain ⟨b, off, x, cs, rfl, hx, hcl, hcs, hR⟩ := H.out.1.at i (by rw [← H.out.2.1]; exact c1)
      have hLL : wr.rangeAt b (off + i * 17) (encL x) := fun j u hj => by
        have hc := hcs j u (by rw [hR.1]; exact hj)
        rw [(HB1.out.trans (G.out.1.a.bel.mono HB1.out.size)).cell (p := ⟨b, off + i * 17 + j, none⟩) (World.block_lt_of_cell? w _ hc)]; exact hc
      have wl : WfL x := hR.2.1
      have s2 : SomeK 17 wr b (off + i * 17) := someK_of hLL (ecL.len _ wl)
      have r2 : readK 17 wr b (off + i * 17) = encL x := readK_eq hLL (ecL.len _ wl)
      have i0 : (0 : Int) ≤ (i : Int) := by omega
      have i1 : (i : Int) < (xn : Int) := by omega
      have hadd : ∀ d, Calls Tryd.prog 5 #[.pointer (some ⟨tb, 0, none⟩), .agg (bV ix).toArray, .agg (encL x).toArray] (wr.drewN d) fun r w' => ∃ bb v' l', r = .returned (.bool bb) ∧ Tw w1 w' tb tu v' (.slice none 0 0) l' [] ∧ l'.length ≤ i + 1 ∧ (∀ x ∈ l', x.ix = ix) := fun d => by
        have hE := G.out.1.below (below_drewN (Below.refl wr.heap.size wr) d)
        refine (add_calls _ tb vt lt ix x.1 x.2 hE.a.heap hE.a.good (by have := G.out.2.1; omega) hix wl).mono ?_
        rintro r w' ⟨bb, v', l', rfl, hr, hh, hc⟩
        exact ⟨bb, v', l', rfl, hE.left hc hh (hr.good hE.a.good), by have := hr.len; have := G.out.2.1; omega, addR_ix hr G.out.2.2⟩
      have HADD := Lib.hid hadd
      obtain ⟨c2', hc2⟩ : ∃ c, c = encL x := ⟨_, rfl⟩
      rw [← hc2] at HADD r2
      clear hadd hc2 hx hcl hcs hR hLL wl
      go_wp2_with fail
      refine Tail.wp_region_quiet_tail 6 (fun w' => ∃ n, w' = wr.drewN n) (by kernel_rfl) (by kernel_rfl) ⟨1, rfl⟩ ?_
      simp only [List.take_succ_cons, List.take_zero, List.drop_succ_cons, List.drop_zero]
      repeat (first
        | go_big_quiet_step (fail)
        | quiet_step (fail))
      refine wpQuiet_nil ?_
      intro _ hw'
      obtain ⟨d5, hw''⟩ := hw'
      subst hw''
      go_wp2_with
        (first
          | (refine (HADD.out d5).mono ?_
             rintro r w4 ⟨ba, v4, l4, rfl, f1, f2, f3⟩
             have HF := Lib.hid (And.intro f1 (And.intro f2 f3))
             clear f1 f2 f3)
          | fail)
      go_roundw
      case rel => exact ⟨i + 1, v4, l4, by omega, by omega, by simp, HF.out.1, HF.out.2.1, HF.out.2.2⟩
      case measure =>
        show 8 - ((i : Int) + 1).toNat < 8 - (i : Int).toNat
        omega
    · clear hin
      go_upto_region 8 with fail
      have hck : ∃ c, c = bV ix := ⟨_, rfl⟩
      obtain ⟨ck, hck⟩ := hck
      have hckl : ck.length = 16 := by rw [hck, bV_len]; exact hix
      have hS0 : wr.drew.rangeAt p3 0 ck := fun j v hj => by
        rw [((HK1.out.kept G.out.1.a.bel).drew).cell, Nat.zero_add]
        rw [hck] at hj
        simpa using hj
      have hu16 := Tryd.underlying24
      have hi16 : (Tryd.prog.info? 24).map (·.size) = some ck.length := by rw [hckl]; exact i16
      have HCH := Lib.hid (back_chain H.out.2.2 HB1.out HK1.out hix G.out.1 (by have := G.out.2.1; omega) G.out.2.2 hck wr.drew rfl)
      refine wp_region_held_drew (S := fun w' => w'.rangeAt p3 0 ck) (by kernel_rfl) hS0 (fun hHeld => ?_)
      refine Tail.held_ex (i := 0) rfl (by kernel_rfl) (by kernel_rfl) (by kernel_rfl) (fun _ _ _ _ h => h) (by kernel_rfl) hHeld ?_
      apply Exists.intro
      refine ⟨fun w => ?_, ?_⟩
      · go_simp <;> with_reducible rfl
      simp only [List.getElem_toArray, List.getElem_cons_zero, List.getElem_cons_succ, Act.put, List.setIfInBounds_toArray, List.set_cons_zero, List.set_cons_succ]
      refine Tail.held_load (i := 1) rfl (by kernel_rfl) (by kernel_rfl) (by kernel_rfl) (fun _ _ _ _ h => h) (by kernel_rfl) hHeld _ _ rfl p3 0 (by kernel_rfl) ck (fun w h => h) hu16 rfl hi16 ?_
      simp only [List.getElem_toArray, List.getElem_cons_zero, List.getElem_cons_succ, Act.put, List.setIfInBounds_toArray, List.set_cons_zero, List.set_cons_succ]
      refine Tail.held_ex (i := 2) rfl (by kernel_rfl) (by kernel_rfl) (by kernel_rfl) (fun _ _ _ _ h => h) (by kernel_rfl) hHeld ?_
      apply Exists.intro
      refine ⟨fun w => ?_, ?_⟩
      · go_simp <;> with_reducible rfl
      simp only [List.getElem_toArray, List.getElem_cons_zero, List.getElem_cons_succ, Act.put, List.setIfInBounds_toArray, List.set_cons_zero, List.set_cons_succ]
      refine Tail.held_load (i := 3) rfl (by kernel_rfl) (by kernel_rfl) (by kernel_rfl) (fun _ _ _ _ h => h) (by kernel_rfl) hHeld _ _ rfl p3 0 (by kernel_rfl) ck (fun w h => h) hu16 rfl hi16 ?_
      simp only [List.getElem_toArray, List.getElem_cons_zero, List.getElem_cons_succ, Act.put, List.setIfInBounds_toArray, List.set_cons_zero, List.set_cons_succ]
      refine Tail.held_call (i := 4) rfl (by kernel_rfl) (by kernel_rfl) ?_
      apply Exists.intro
      apply Exists.intro
      refine ⟨?_, (HCH.out).mono ?_⟩
      · go_simp <;> with_reducible rfl
      rintro e w2 ⟨vo, rfl, hHeld, P1⟩
      refine ⟨vo, rfl, hHeld, ?_⟩
      simp only [List.getElem_toArray, List.getElem_cons_zero, List.getElem_cons_succ, Act.put, List.setIfInBounds_toArray, List.set_cons_zero, List.set_cons_succ]
      refine Tail.held_call (i := 5) rfl (by kernel_rfl) (by kernel_rfl) ?_
      apply Exists.intro
      apply Exists.intro
      refine ⟨?_, (P1.out).mono ?_⟩
      · go_simp <;> with_reducible rfl
      rintro e w3 ⟨rfl, hHeld, P2⟩
      refine ⟨_, rfl, hHeld, ?_⟩
      simp only [List.getElem_toArray, List.getElem_cons_zero, List.getElem_cons_succ, Act.put, List.setIfInBounds_toArray, List.set_cons_zero, List.set_cons_succ]
      refine Tail.held_ex (i := 6) rfl (by kernel_rfl) (by kernel_rfl) (by kernel_rfl) (fun _ _ _ _ h => h) (by kernel_rfl) hHeld ?_
      apply Exists.intro
      refine ⟨fun w => ?_, ?_⟩
      · go_simp <;> with_reducible rfl
      simp only [List.getElem_toArray, List.getElem_cons_zero, List.getElem_cons_succ, Act.put, List.setIfInBounds_toArray, List.set_cons_zero, List.set_cons_succ]
      refine Tail.held_ex (i := 7) rfl (by kernel_rfl) (by kernel_rfl) (by kernel_rfl) (fun _ _ _ _ h => h) (by kernel_rfl) hHeld ?_
      apply Exists.intro
      refine ⟨fun w => ?_, ?_⟩
      · go_simp <;> with_reducible rfl
      simp only [List.getElem_toArray, List.getElem_cons_zero, List.getElem_cons_succ, Act.put, List.setIfInBounds_toArray, List.set_cons_zero, List.set_cons_succ]
      refine Tail.held_ex (i := 8) rfl (by kernel_rfl) (by kernel_rfl) (by kernel_rfl) (fun _ _ _ _ h => h) (by kernel_rfl) hHeld ?_
      apply Exists.intro
      refine ⟨fun w => ?_, ?_⟩
      · go_simp <;> with_reducible rfl
      simp only [List.getElem_toArray, List.getElem_cons_zero, List.getElem_cons_succ, Act.put, List.setIfInBounds_toArray, List.set_cons_zero, List.set_cons_succ]
      refine Tail.held_load (i := 9) rfl (by kernel_rfl) (by kernel_rfl) (by kernel_rfl) (fun _ _ _ _ h => h) (by kernel_rfl) hHeld _ _ rfl p3 0 (by kernel_rfl) ck (fun w h => h) hu16 rfl hi16 ?_
      simp only [List.getElem_toArray, List.getElem_cons_zero, List.getElem_cons_succ, Act.put, List.setIfInBounds_toArray, List.set_cons_zero, List.set_cons_succ]
      refine Tail.held_ex (i := 11) rfl (by kernel_rfl) (by kernel_rfl) (by kernel_rfl) (fun _ _ _ _ h => h) (by kernel_rfl) hHeld ?_
      apply Exists.intro
      refine ⟨fun w => ?_, ?_⟩
      · go_simp <;> with_reducible rfl
      simp only [List.getElem_toArray, List.getElem_cons_zero, List.getElem_cons_succ, Act.put, List.setIfInBounds_toArray, List.set_cons_zero, List.set_cons_succ]
      refine Tail.held_load (i := 12) rfl (by kernel_rfl) (by kernel_rfl) (by kernel_rfl) (fun _ _ _ _ h => h) (by kernel_rfl) hHeld _ _ rfl p3 0 (by kernel_rfl) ck (fun w h => h) hu16 rfl hi16 ?_
      simp only [List.getElem_toArray, List.getElem_cons_zero, List.getElem_cons_succ, Act.put, List.setIfInBounds_toArray, List.set_cons_zero, List.set_cons_succ]
      refine Tail.held_call (i := 10) rfl (by kernel_rfl) (by kernel_rfl) ?_
      apply Exists.intro
      apply Exists.intro
      refine ⟨?_, (P2.out).mono ?_⟩
      · go_simp <;> with_reducible rfl
      rintro e w4 ⟨v4, rfl, hHeld, P3⟩
      refine ⟨v4, rfl, hHeld, ?_⟩
      simp only [List.getElem_toArray, List.getElem_cons_zero, List.getElem_cons_succ, Act.put, List.setIfInBounds_toArray, List.set_cons_zero, List.set_cons_succ]
      refine Tail.held_call (i := 13) rfl (by kernel_rfl) (by kernel_rfl) ?_
      apply Exists.intro
      apply Exists.intro
      refine ⟨?_, (P3.out).mono ?_⟩
      · go_simp <;> with_reducible rfl
      rintro e w5 ⟨v5, rfl, hHeld, P4⟩
      refine ⟨v5, rfl, hHeld, ?_⟩
      simp only [List.getElem_toArray, List.getElem_cons_zero, List.getElem_cons_succ, Act.put, List.setIfInBounds_toArray, List.set_cons_zero, List.set_cons_succ]
      refine Tail.held_call (i := 14) rfl (by kernel_rfl) (by kernel_rfl) ?_
      apply Exists.intro
      apply Exists.intro
      refine ⟨?_, (P4.out).mono ?_⟩
      · go_simp <;> with_reducible rfl
      rintro e w6 ⟨rfl, hHeld, P5⟩
      refine ⟨_, rfl, hHeld, ?_⟩
      simp only [List.getElem_toArray, List.getElem_cons_zero, List.getElem_cons_succ, Act.put, List.setIfInBounds_toArray, List.set_cons_zero, List.set_cons_succ]
      refine Tail.held_ex (i := 15) rfl (by kernel_rfl) (by kernel_rfl) (by kernel_rfl) (fun _ _ _ _ h => h) (by kernel_rfl) hHeld ?_
      apply Exists.intro
      refine ⟨fun w => ?_, ?_⟩
      · go_simp <;> with_reducible rfl
      simp only [List.getElem_toArray, List.getElem_cons_zero, List.getElem_cons_succ, Act.put, List.setIfInBounds_toArray, List.set_cons_zero, List.set_cons_succ]
      refine Tail.held_ex (i := 16) rfl (by kernel_rfl) (by kernel_rfl) (by kernel_rfl) (fun _ _ _ _ h => h) (by kernel_rfl) hHeld ?_
      apply Exists.intro
      refine ⟨fun w => ?_, ?_⟩
      · go_simp <;> with_reducible rfl
      simp only [List.getElem_toArray, List.getElem_cons_zero, List.getElem_cons_succ, Act.put, List.setIfInBounds_toArray, List.set_cons_zero, List.set_cons_succ]
      refine wpAnyH_done (by kernel_rfl) ?_ _
      obtain ⟨vu, lu, hT6, hlu⟩ := P5.out.tw
      have HT6 := Lib.hid (And.intro hT6 hlu)
      have hkb := HK1.out.kept hT6.a.bel
      have r36 : readK 16 w6 p3 0 = bV ix := blk_read0 hkb (by rw [bV_len]; exact hix)
      have s36 : SomeK 16 w6 p3 0 := HasK.some (blk_has hkb (by simp [bV_len, hix]))
      have hl8 : lt.length ≤ 8 := by have := G.out.2.1; omega
      clear hT6 hlu hkb r3 s3 l3 hHeld hS0 HCH P1 P2 P3 P4 P5
      go_wp2_with fail
      refine (of_calls w6 tb vt lt ix HT6.out.1.a.heap.tab (by omega) hix (HT6.out.1.a.few ix)).mono ?_
      rintro r w7 ⟨v8, o8, rfl, hO8, hR8, hB8⟩
      obtain ⟨a8, c8, rfl⟩ := hO8.slice
      obtain ⟨n8, hn8⟩ : ∃ n, n = o8.length := ⟨_, rfl⟩
      have hn8b : n8 ≤ 12 := by rw [hn8, hR8.perm.length_eq]; exact HT6.out.1.a.few ix
      have hrow8 : 0 < n8 → ∃ g, a8 = some ⟨g, 0, none⟩ ∧ RowG encL WfL 17 29 w7 w6.heap.size g n8 c8 o8 := fun h0 => by
        obtain ⟨g, cap, e, hr⟩ := hO8.ex (by omega)
        injection e with ea en ec
        rw [← ec, ← hn8] at hr
        exact ⟨g, ea, hr⟩
      rw [← hn8]
      have H8 := Lib.hid (And.intro hO8 (And.intro hR8 (And.intro hn8 (And.intro hrow8 (HT6.out.1.below hB8)))))
      clear hO8 hR8 hn8 hrow8 hB8
      go_upto_region 12 with fail
      go_loopw [57] (fun vi wr => ∃ (j : Nat) (vu' : Value) (lu' : List Les), j ≤ n8 ∧ vi = .int .i64 j ∧ Hid (Tw w1 wr tb tu vt vu' lt lu' ∧ lu'.Perm lt ∧ OwnG encL WfL 17 29 wr w6.heap.size (.slice a8 n8 c8) o8 ∧ (∀ g, (Value.slice a8 n8 c8).ownBlock = some g → g ≠ tu ∧ vu'.ownBlock ≠ some g))) (fun vi _ => n8 - (intOf vi).toNat)
      case atStart =>
        refine ⟨0, vu, lu, Nat.zero_le _, rfl, H8.out.2.2.2.2, HT6.out.2, by have := H8.out.1; rw [← H8.out.2.2.1] at this; exact this, fun g hg => ?_⟩
        have hO := H8.out.1
        rw [← H8.out.2.2.1] at hO
        have h1 := hO.ge hg
        have h2 := HT6.out.1.b.heap.tab.cell.lt
        refine ⟨by omega, fun e => ?_⟩
        have := HT6.out.1.b.heap.tab.own.lt _ e
        omega
      case round =>
        obtain ⟨j, vu', lu', hj0, rfl, GB⟩ := hrel
        have hkb := HK1.out.kept GB.out.1.a.bel
        have r3 : readK 16 wr p3 0 = bV ix := blk_read0 hkb (by rw [bV_len]; exact hix)
        have s3 : SomeK 16 wr p3 0 := HasK.some (blk_has hkb (by simp [bV_len, hix]))
        clear hkb
        by_cases hjn : j < n8
        · obtain ⟨g, rfl, _⟩ := H8.out.2.2.2.1 (by omega)
          obtain ⟨g', cap', e', hrow⟩ := GB.out.2.2.1.ex (by rw [← H8.out.2.2.1]; omega)
          injection e' with ea en ec
          injection ea with ea
          injection ea with ea
          rw [← ea, ← ec, ← H8.out.2.2.1] at hrow
          clear ea en ec
          have hx : o8[j]? = some (o8[j]'(by have := H8.out.2.2.1; omega)) := by simp
          generalize o8[j]'(by have := H8.out.2.2.1; omega) = x at hx
          have wx := hrow.wf x (List.mem_of_getElem? hx)
          have hxo := List.mem_of_getElem? hx
          have cx : wr.cell? ⟨g, j * 17 + 16, none⟩ = some (.int .i64 x.2) := by
            have := hrow.range ecL hx 16 _ (encL_end wx)
            exact this
          have hmay : May x.2 := by
            obtain ⟨y, hy, _, e⟩ := mem_ofL.1 (H8.out.2.1.perm.mem_iff.1 hxo)
            rw [← e]
            exact H8.out.2.2.2.2.a.good.ends y hy
          have dm1 : decide (x.2 < 1) = false := by have := hmay.1; simp; omega
          have dm2 : decide (1048576 < x.2) = false := by have := hmay.2; simp; omega
          have hLL := hrow.range ecL hx
          have j0 : (0 : Int) ≤ (j : Int) := by omega
          have j1 : (j : Int) < (n8 : Int) := by omega
          have HX := Lib.hid (And.intro hx (And.intro wx (And.intro hxo (And.intro hrow hmay))))
          clear hx wx hxo hmay
          go_upto_region 14 with fail
          go_cut [91] (fun s91 wx => s91 = .bool false ∧ ∃ d, wx = wr.drewN d)
          case first =>
            by_cases cj : j = 0
            · have dj : decide ((0 : Int) < (j : Int)) = false := by simp; omega
              have dj' : decide (0 < j) = false := by simp; omega
              replace cj := Lib.hid cj
              go_quiet (fail)
              go_wp2_with fail
              go_meet
              exact ⟨rfl, _, rfl⟩
            · have dj : decide ((0 : Int) < (j : Int)) = true := by simp; omega
              have dj' : decide (0 < j) = true := by simp; omega
              obtain ⟨k, hk⟩ : ∃ k, k = j - 1 := ⟨_, rfl⟩
              have ek : (j : Int) - 1 = (k : Int) := by omega
              have k0 : (0 : Int) ≤ (k : Int) := by omega
              have k1' : (k : Int) < (n8 : Int) := by omega
              obtain ⟨y, hy⟩ : ∃ y, o8[k]? = some y := ⟨_, List.getElem?_eq_getElem (by have := H8.out.2.2.1; omega)⟩
              have cy : wr.cell? ⟨g, k * 17 + 16, none⟩ = some (.int .i64 y.2) := HX.out.2.2.2.1.range ecL hy 16 _ (encL_end (HX.out.2.2.2.1.wf y (List.mem_of_getElem? hy)))
              have hup := H8.out.2.1.up
              rw [List.pairwise_iff_getElem] at hup
              have h1 := hup k j (some_lt hy) (some_lt HX.out.1) (by omega)
              have ey := hy
              have ex := HX.out.1
              rw [List.getElem?_eq_getElem (some_lt hy)] at ey
              rw [List.getElem?_eq_getElem (some_lt HX.out.1)] at ex
              rw [Option.some.inj ey, Option.some.inj ex, ltL_false] at h1
              have dxy : decide (x.2 < y.2) = false := by simp; omega
              have CJ := Lib.hid (And.intro cj hk)
              clear cj hk hy hup h1 ey ex
              go_quiet (fail)
              go_wp2_with fail
              go_meet
              exact ⟨rfl, _, rfl⟩
          case rest =>
            obtain ⟨rfl, d, hd⟩ := hcut
            have hT := GB.out.1.below (below_drewN (Below.refl wr.heap.size wr) d)
            have hO := GB.out.2.2.1.drewN d
            have hrng : (wr.drewN d).rangeAt g (j * 17) (encL x) := hLL
            rw [← hd] at hT hO hrng
            have hk16 : wc.rangeAt g (j * 17) (bV x.1) := fun k u hk => hrng k u (by
              unfold encL
              rw [List.getElem?_append_left (some_lt hk)]
              exact hk)
            have hbl : (bV x.1).length = 16 := by rw [bV_len]; exact HX.out.2.1
            have s5 : SomeK 16 wc g (j * 17) := someK_of hk16 hbl
            have r5 : readK 16 wc g (j * 17) = bV x.1 := readK_eq hk16 hbl
            have hkb := HK1.out.kept hT.a.bel
            have r3c : readK 16 wc p3 0 = bV ix := blk_read0 hkb (by rw [bV_len]; exact hix)
            have s3c : SomeK 16 wc p3 0 := HasK.some (blk_has hkb (by simp [bV_len, hix]))
            have hadd : ∀ e, Calls Tryd.prog 5 #[.pointer (some ⟨tu, 0, none⟩), .agg (bV ix).toArray, .agg (encL (x.1, 1)).toArray] (wc.drewN e) fun r w' => r = .returned (.bool true) ∧ ∃ vu2 lu2, Tw w1 w' tb tu vt vu2 lt lu2 ∧ lu2.Perm lt ∧ OwnG encL WfL 17 29 w' w6.heap.size (.slice (some ⟨g, 0, none⟩) n8 c8) o8 ∧ (∀ q, (Value.slice (some ⟨g, 0, none⟩) n8 c8).ownBlock = some q → q ≠ tu ∧ vu2.ownBlock ≠ some q) := fun e => by
              have hTe := hT.below (below_drewN (Below.refl wc.heap.size wc) e)
              refine (add_calls _ tu vu' lu' ix x.1 1 hTe.b.heap hTe.b.good (by rw [GB.out.2.1.length_eq]; omega) hix HX.out.2.1).mono ?_
              rintro r w' ⟨b, v', l', rfl, hr, hh, hc⟩
              obtain ⟨rfl, hp⟩ := back_add GB.out.2.1 hTe.a.good H8.out.2.1 HX.out.2.2.1 hr
              have hs := GB.out.2.2.2
              have hOe := hO.drewN e
              refine ⟨rfl, v', l', (hTe.swap.left hc hh (hr.good hTe.b.good)).swap, hp, hOe.chg hc.1 (fun q hq hS => ?_), fun q hq => ⟨(hs q hq).1, fun e2 => ?_⟩⟩
              · rcases hS with hS | hS
                · exact (hs q hq).1 hS
                · exact (hs q hq).2 hS
              · rcases hc.2 q e2 with e3 | e3
                · exact (hs q hq).2 e3
                · have := (hOe.own.lt _ hq).2
                  omega
            obtain ⟨cy, hcy⟩ : ∃ c, c = encL (x.1, 1) := ⟨_, rfl⟩
            have f1 : (bV x.1).toArray.push (.int .i64 1) = cy.toArray := by rw [hcy]; unfold encL; simp
            have f2 : (bV x.1).toArray ++ #[.int .i64 1] = cy.toArray := by rw [hcy]; unfold encL; simp
            have f3 : bV x.1 ++ [.int .i64 1] = cy := by rw [hcy]; rfl
            rw [← hcy] at hadd
            have HADD := Lib.hid hadd
            clear hadd hcy hT hO hrng hk16 hkb hd r3 s3 hLL cx hrow
            go_upto_region 16 with fail
            refine Tail.wp_region_quiet_tail 8 (fun w' => ∃ n, w' = wc.drewN n) (by kernel_rfl) (by kernel_rfl) ⟨1, rfl⟩ ?_
            simp only [List.take_succ_cons, List.take_zero, List.drop_succ_cons, List.drop_zero]
            repeat (first
              | go_big_quiet_step (fail)
              | quiet_step (fail))
            refine wpQuiet_nil ?_
            intro _ hw'
            obtain ⟨d5, hw''⟩ := hw'
            subst hw''
            go_wp2_with
              (first
                | (refine (HADD.out d5).mono ?_
                   rintro r w9 ⟨rfl, vu2, lu2, g1, g2, g3, g4⟩
                   have HG := Lib.hid (And.intro g1 (And.intro g2 (And.intro g3 g4)))
                   clear g1 g2 g3 g4)
                | fail)
            go_roundw
            case rel => exact ⟨j + 1, vu2, lu2, by omega, by simp, HG.out.1, HG.out.2.1, HG.out.2.2.1, HG.out.2.2.2⟩
            case measure =>
              show n8 - ((j : Int) + 1).toNat < n8 - (j : Int).toNat
              omega
        · have hl8' : lu'.length ≤ 8 := by rw [GB.out.2.1.length_eq]; exact hl8
          go_wp2_with fail
          refine (of_calls wr tu vu' lu' ix GB.out.1.b.heap.tab (by omega) hix (GB.out.1.b.few ix)).mono ?_
          rintro r w9 ⟨v9, o9, rfl, hO9, hR9, hB9⟩
          have heq : o9 = o8 := OfR.eq hR9 H8.out.2.1 GB.out.2.1
          have hT9 := GB.out.1.below hB9
          have HT9 := Lib.hid hT9
          have HS9 : Hid (Calls Tryd.prog 8 #[v9, .slice a8 n8 c8] w9 fun r w10 => r = .returned (.bool true) ∧ Tw w1 w10 tb tu vt vu' lt lu') := by
            refine (same_calls w9 _ _ v9 _ o9 o8 hO9 (GB.out.2.2.1.chg (S := fun _ => False) (Chg.of_below hB9) (fun _ _ h => h)) (by rw [heq, ← H8.out.2.2.1]; omega) (by rw [← H8.out.2.2.1]; omega)).mono ?_
            rintro r w10 ⟨rfl, d, rfl⟩
            exact ⟨by rw [heq]; simp, hT9.below (below_drewN (Below.refl w9.heap.size w9) d)⟩
          clear hO9 hR9 hB9 heq hT9
          go_wp2_with fail
          refine HS9.out.mono ?_
          rintro r w10 ⟨rfl, hT10⟩
          have hkb := HK1.out.kept hT10.a.bel
          have r310 : readK 16 w10 p3 0 = bV ix := blk_read0 hkb (by rw [bV_len]; exact hix)
          have s310 : SomeK 16 w10 p3 0 := HasK.some (blk_has hkb (by simp [bV_len, hix]))
          have HT10 := Lib.hid hT10
          clear hT10 hkb
          go_wp2_with fail
          refine (add_calls w10 tb vt lt ix z16 0 HT10.out.a.heap HT10.out.a.good (by omega) hix z16_len).mono ?_
          rintro r w11 ⟨b11, v11, l11, rfl, hr11, hh11, hc11⟩
          obtain ⟨rfl, rfl⟩ := addR_bad (fun h => by unfold May at h; omega) hr11
          have hT11 := HT10.out.left hc11 hh11 HT10.out.a.good
          have hkb := HK1.out.kept hT11.a.bel
          have r311 : readK 16 w11 p3 0 = bV ix := blk_read0 hkb (by rw [bV_len]; exact hix)
          have s311 : SomeK 16 w11 p3 0 := HasK.some (blk_has hkb (by simp [bV_len, hix]))
          have HT11 := Lib.hid hT11
          clear hr11 hh11 hc11 hT11 hkb
          go_wp2_with fail
          refine (add_calls w11 tb v11 l11 ix z16 1048577 HT11.out.a.heap HT11.out.a.good (by omega) hix z16_len).mono ?_
          rintro r w12 ⟨b12, v12, l12, rfl, hr12, hh12, hc12⟩
          obtain ⟨rfl, rfl⟩ := addR_bad (fun h => by unfold May at h; omega) hr12
          have hT12 := HT11.out.left hc12 hh12 HT11.out.a.good
          have HB12 := Lib.hid (HB1.out.trans (hT12.a.bel.mono HB1.out.size))
          clear hr12 hh12 hc12 hT12
          go_wp2_with fail
          refine (wakes_calls w12).mono ?_
          rintro r w13 ⟨rfl, hB13⟩
          have HB13 := Lib.hid (HB12.out.trans (hB13.mono HB12.out.size))
          clear hB13
          go_wp2_with fail
          go_ret
          exact ⟨rfl, HB13.out⟩
end Go.Proofs.YtgjabnpngggcmaaDoor
