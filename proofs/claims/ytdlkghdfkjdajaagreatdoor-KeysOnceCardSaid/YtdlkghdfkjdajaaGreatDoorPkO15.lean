/- Texts of this proof, packed: RClimb, RVerify, KeyVer, RPrint, Some. -/
import Derived.Test.YtdlkghdfkjdajaaGreatDoorPkO14
import Derived.Test.YtdlkghdfkjdajaaGreatDoorPkO08
import Derived.Test.YtdlkghdfkjdajaaGreatDoorPkO11
import Derived.Test.YtdlkghdfkjdajaaGreatDoorPkO01
section
namespace Go.Proofs.YtdlkghdfkjdajaaGreatDoor
open Go Go.RowKit Go.Mem Gf
set_option linter.unusedVariables false
set_option linter.unusedSimpArgs false
attribute [local go_sem ↓] Go.wp_at_zero Go.wp_at_succ
attribute [local go_sem ↓] load_hash store_hash slice_hash load_key16
attribute [local go_sem] ptrB_eq ptrO_eq ptrIs_eq aggL_eq aggIs_eq readK_drew hasK_drew readK_alloc_past hasK_alloc_past readK_alloc_in hasK_alloc_in setCells_alloc_at
theorem climb_snoc : ∀ (ps : List (List UInt8)) (i : Nat) (leaf x : List UInt8), Wot.climb i leaf (ps ++ [x]) = if (i / 2 ^ ps.length) % 2 = 0 then Wot.node (Wot.climb i leaf ps) x else Wot.node x (Wot.climb i leaf ps)
  | [], i, leaf, x => by
    rw [List.length_nil, Nat.pow_zero, Nat.div_one]
    rfl
  | p :: ps, i, leaf, x => by
    show Wot.climb (i / 2) (if i % 2 = 0 then Wot.node leaf p else Wot.node p leaf) (ps ++ [x]) = _
    rw [climb_snoc ps, Nat.div_div_eq_div_mul, List.length_cons, Nat.pow_succ, Nat.mul_comm 2]
    rfl
theorem climb_len : ∀ (ps : List (List UInt8)) (i : Nat) (leaf : List UInt8), leaf.length = 32 → (Wot.climb i leaf ps).length = 32
  | [], _, _, h => h
  | p :: ps, i, leaf, h => by
    refine climb_len ps (i / 2) _ ?_
    split
    · exact Wot.tagged_len _ _
    · exact Wot.tagged_len _ _
set_option maxRecDepth 20000 in
set_option maxHeartbeats 4000000 in
theorem hclimb_calls (h i : Nat) (leaf : List UInt8) (pv : Value) (pl : List (List UInt8)) (base : Nat) (w : World) (hT : Tab w) (hlf : leaf.length = 32) (hp : OwnG bV WfH 32 34 w base pv pl) (hpl : pl.length = h) (hh : h ≤ 4) (hi : i < 2 ^ h) :
    Calls Tryz.prog 41 #[.int .i64 ((2 ^ h : Nat) : Int), .int .i64 i, .agg (bV leaf).toArray, pv] w fun e w' => e = .returned (.tuple #[.agg (bV (Wot.climb i leaf pl)).toArray, .bool true]) ∧ Below w.heap.size w w' := by
  have HT := Lib.hid hT
  clear hT
  have hnb : 2 ^ h ≤ 16 := Nat.pow_le_pow_right (n := 2) (by decide) hh
  have hsh : ∀ k, k ≤ h → IntKind.i64.wrap (2 ^ k) = ((2 ^ k : Nat) : Int) := fun k hk => by
    have h1 : 2 ^ k ≤ 16 := Nat.pow_le_pow_right (n := 2) (by decide) (Nat.le_trans hk hh)
    have : ((2 : Int) ^ k) = ((2 ^ k : Nat) : Int) := by simp
    rw [this]
    generalize 2 ^ k = z at h1 ⊢
    exact IntWalk.i64_in _ (by omega)
  have hmono : ∀ k, k < h → 2 ^ k < 2 ^ h := fun k hk => Nat.pow_lt_pow_right (by decide) hk
  have hpd := fun w1 => hpad_calls h (by omega) w1
  obtain ⟨n, hn⟩ : ∃ n, n = 2 ^ h := ⟨_, rfl⟩
  rw [← hn] at hnb hmono hpd hi ⊢
  have l0 : ¬ (i : Int) < 0 := by omega
  have l1 : ¬ (n : Int) ≤ (i : Int) := by omega
  have l2 : ¬ 256 < (n : Int) := by omega
  have lb0 : decide ((i : Int) < 0) = false := decide_eq_false l0
  have lb1 : decide ((n : Int) ≤ (i : Int)) = false := decide_eq_false l1
  have lb2 : decide (256 < (n : Int)) = false := decide_eq_false l2
  have hi16 : i < 16 := by omega
  obtain ⟨va, vc, rfl⟩ := hp.slice
  rw [hpl] at hp ⊢
  have HN := Lib.hid (And.intro hn (And.intro hsh (And.intro hmono (And.intro hpd (And.intro hp (And.intro hpl (And.intro hlf (And.intro hi hnb))))))))
  obtain ⟨cs, hcs⟩ : ∃ c, c = bV leaf := ⟨_, rfl⟩
  have hcl : cs.length = 32 := by rw [hcs, bV_len]; exact hlf
  have HCS := Lib.hid hcs
  rw [← hcs]
  clear hcs hn hsh hmono hpd hp hpl hi hnb
  go_enter Tryz.func41, Tryz.ntmps41
  go_upto_region 1 with fail
  obtain ⟨w1, hw1⟩ : ∃ q, q = (w.alloc (.cells cs.toArray 34)).alloc (.cells #[Value.int IntKind.u8 0, Value.int IntKind.u8 0, Value.int IntKind.u8 0, Value.int IntKind.u8 0, Value.int IntKind.u8 0, Value.int IntKind.u8 0, Value.int IntKind.u8 0, Value.int IntKind.u8 0, Value.int IntKind.u8 0, Value.int IntKind.u8 0, Value.int IntKind.u8 0, Value.int IntKind.u8 0, Value.int IntKind.u8 0, Value.int IntKind.u8 0, Value.int IntKind.u8 0, Value.int IntKind.u8 0, Value.int IntKind.u8 0, Value.int IntKind.u8 0, Value.int IntKind.u8 0, Value.int IntKind.u8 0, Value.int IntKind.u8 0, Value.int IntKind.u8 0, Value.int IntKind.u8 0, Value.int IntKind.u8 0, Value.int IntKind.u8 0, Value.int IntKind.u8 0, Value.int IntKind.u8 0, Value.int IntKind.u8 0, Value.int IntKind.u8 0, Value.int IntKind.u8 0, Value.int IntKind.u8 0, Value.int IntKind.u8 0] 34) := ⟨_, rfl⟩
  obtain ⟨p1, hp1⟩ : ∃ q, q = w.heap.size := ⟨_, rfl⟩
  obtain ⟨p2, hp2⟩ : ∃ q, q = w.heap.size + 1 := ⟨_, rfl⟩
  have hb1 : Below w.heap.size w w1 := by rw [hw1]; exact ((Below.refl _ _).alloc (Nat.le_refl _) _).alloc (by simp) _
  have hk1 : Blk w1 p1 cs.toArray 34 := by rw [hw1, hp1]; exact (Blk.new _ _ _).alloc _
  have hk2 : Blk w1 p2 zH 34 := by rw [hw1, hp2]; exact Blk.new_at _ _ _ _ (by simp)
  rw [← hw1, ← hp2, ← hp1]
  have H1 := Lib.hid (And.intro hb1 (And.intro hk2 (And.intro (show w.heap.size ≤ p2 by omega) (And.intro (show p1 ≠ p2 by omega) (show w.heap.size ≤ p1 by omega)))))
  have HK := Lib.hid hk1
  have hpge := H1.out.2.2.1
  clear hw1 hp1 hp2 hb1 hk1 hk2
  go_wp2_with fail
  go_loopw [10] (fun u wr => ∃ k : Nat, k ≤ h ∧ u = .int .i64 k ∧ w1 = wr) (fun u _ => h - (intOf u).toNat)
  case atStart => exact ⟨0, by omega, rfl, rfl⟩
  case round =>
    obtain ⟨k, hk, rfl, rfl⟩ := hrel
    have hshk := HN.out.2.1 k hk
    by_cases h0 : k < h
    · have hm := HN.out.2.2.1 k h0
      obtain ⟨p, hp⟩ : ∃ p, p = 2 ^ k := ⟨_, rfl⟩
      rw [← hp] at hshk hm
      have i1 : (p : Int) < (n : Int) := by omega
      clear hp hm
      go_wp2_with fail
      refine (HN.out.2.2.2.1 _).mono ?_
      rintro e _ ⟨rfl, rfl⟩
      go_wp2
      refine ⟨⟨k + 1, by omega, by go_num, trivial⟩, by simp [intOf]; omega⟩
    · obtain rfl : h = k := by omega
      rw [← HN.out.1] at hshk
      have i1 : ¬ (n : Int) < (n : Int) := by omega
      have g0 : ((h : Int) != (h : Int)) = false := by simp
      have g1 : (h != h) = false := by simp
      go_wp2_with fail
      refine (HN.out.2.2.2.1 _).mono ?_
      rintro e _ ⟨rfl, rfl⟩
      go_wp2_with fail
      clear l0 l1 l2 lb0 lb1 lb2 hshk
      go_loopw [39, 1] (fun vk vi wr => ∃ k : Nat, k ≤ h ∧ vk = .int .i64 k ∧ vi = .int .i64 ((i / 2 ^ k : Nat) : Int) ∧ Hid (Below w.heap.size w wr ∧ Blk wr p1 (bV (Wot.climb i leaf (pl.take k))).toArray 34 ∧ Blk wr p2 zH 34)) (fun vk _ _ => h - (intOf vk).toNat)
      case atStart => exact ⟨0, Nat.zero_le _, rfl, by rw [Nat.pow_zero, Nat.div_one], H1.out.1, (by have := HK.out; rw [HCS.out] at this; exact this), H1.out.2.1⟩
      case round =>
        obtain ⟨k, hk, rfl, rfl, G⟩ := hrel
        obtain ⟨ci, hci⟩ : ∃ c, c = bV (Wot.climb i leaf (pl.take k)) := ⟨_, rfl⟩
        have hcil : ci.length = 32 := by rw [hci, bV_len]; exact climb_len _ _ _ HN.out.2.2.2.2.2.2.1
        have HCI := Lib.hid hci
        have hkb := G.out.2.1
        rw [← hci] at hkb
        have HKI := Lib.hid hkb
        clear hci hkb
        by_cases hkh : k < h
        · have j0 : (0 : Int) ≤ (k : Int) := by omega
          have j1 : (k : Int) < (h : Int) := by omega
          obtain ⟨q, hq⟩ : ∃ q, q = i / 2 ^ k := ⟨_, rfl⟩
          have hq16 : q < 16 := by rw [hq]; exact Nat.lt_of_le_of_lt (Nat.div_le_self _ _) hi16
          rw [← hq]
          have hvr := HN.out.2.2.2.2.1.chg (S := fun _ => False) (Chg.of_below G.out.1) (fun _ _ => id)
          obtain ⟨g, cap, e, hrow⟩ := hvr.ex (by have := HN.out.2.2.2.2.2.1; omega)
          rw [HN.out.2.2.2.2.2.1] at e hrow
          injection e with e1 e2 e3
          subst e1 e3
          obtain ⟨x, hx⟩ : ∃ x, pl[k]? = some x := ⟨_, List.getElem?_eq_getElem (by have := HN.out.2.2.2.2.2.1; omega)⟩
          have hxl : x.length = 32 := hrow.wf x (List.mem_of_getElem? hx)
          obtain ⟨cx, hcx⟩ : ∃ c, c = bV x := ⟨_, rfl⟩
          have cxl : cx.length = 32 := by rw [hcx, bV_len]; exact hxl
          have cil := hcil
          obtain ⟨qh, hqh⟩ : ∃ x, x = q / 2 := ⟨_, rfl⟩
          have hd2 : (q : Int).tdiv 2 = (qh : Int) := by rw [Int.tdiv_eq_ediv_of_nonneg (by omega)]; omega
          have q2 : IntKind.i64.wrap (qh : Int) = (qh : Int) := IntWalk.i64_in _ (by omega)
          have hsn := climb_snoc (pl.take k) i leaf x
          rw [List.length_take, Nat.min_eq_left (by have := HN.out.2.2.2.2.2.1; omega), ← hq, show pl.take k ++ [x] = pl.take (k + 1) from by rw [List.take_add_one, hx]; rfl] at hsn
          have hrg := fun w' (hb : Below wr.heap.size wr w') => (hrow.chg (S := fun _ => False) (Chg.of_below hb) id).range ecH hx
          rw [← hcx] at hrg
          have HX := Lib.hid (And.intro hrg (And.intro hx (And.intro hxl (And.intro hcx (And.intro hq (And.intro hqh hsn))))))
          clear hx hxl hcx hq hqh hsn hrg hrow hvr
          by_cases hev : q % 2 = 0
          · have hm2 : (q : Int).tmod 2 = 0 := by rw [Int.tmod_eq_emod_of_nonneg (by omega)]; omega
            have hnd := fun w1 (hb : Below wr.heap.size wr w1) => hnode_calls (Wot.climb i leaf (pl.take k)) x w1 (HT.out.below (G.out.1.trans (hb.mono G.out.1.size))) (climb_len _ _ _ HN.out.2.2.2.2.2.2.1) HX.out.2.2.1
            rw [← HCI.out, ← HX.out.2.2.2.1] at hnd
            have hsn := HX.out.2.2.2.2.2.2
            rw [if_pos hev] at hsn
            rw [← hsn] at hnd
            have HND := Lib.hid hnd
            clear hnd hsn hev
            go_upto_region 12 with fail
            refine Tail.wp_region_J 5 (fun k => false) (fun k => none)
              (fun D z w' => Below wr.heap.size wr w')
              (by kernel_rfl) (by kernel_rfl) (fun k hk => by cases hk) (fun D z z' w' hz h => h)
              ((Below.refl _ _).drew) (fun z => ?_)
            simp only [List.take_succ_cons, List.take_zero, List.drop_succ_cons, List.drop_zero]
            refine Tail.J_load (by rfl) (by rfl) _ _ rfl p1 0 (by rfl) ci (fun D w' _ _ hJ => blk_range (HKI.out.kept hJ)) Tryz.underlying34 rfl (by rw [cil]; exact i32h) ?_
            simp only [Act.put, List.setIfInBounds_toArray, List.set_cons_zero, List.set_cons_succ, Nat.reduceAdd, Nat.reduceEqDiff, reduceIte, Option.getD_some, Option.getD_none]
            refine Tail.J_ex (by rfl) (by rfl) ?_
            apply Exists.intro
            refine ⟨fun w => ?_, ?_⟩
            · go_simp <;> with_reducible rfl
            simp only [Act.put, List.setIfInBounds_toArray, List.set_cons_zero, List.set_cons_succ, Nat.reduceAdd, Nat.reduceEqDiff, reduceIte, Option.getD_some, Option.getD_none]
            refine Tail.J_ex (by rfl) (by rfl) ?_
            apply Exists.intro
            refine ⟨fun w => ?_, ?_⟩
            · go_simp <;> with_reducible rfl
            simp only [Act.put, List.setIfInBounds_toArray, List.set_cons_zero, List.set_cons_succ, Nat.reduceAdd, Nat.reduceEqDiff, reduceIte, Option.getD_some, Option.getD_none]
            refine Tail.J_ex (by rfl) (by rfl) ?_
            apply Exists.intro
            refine ⟨fun w => ?_, ?_⟩
            · go_simp <;> with_reducible rfl
            simp only [Act.put, List.setIfInBounds_toArray, List.set_cons_zero, List.set_cons_succ, Nat.reduceAdd, Nat.reduceEqDiff, reduceIte, Option.getD_some, Option.getD_none]
            refine Tail.J_load (by rfl) (by rfl) _ _ rfl g (k * 32) (by rfl) cx (fun D w' _ _ hJ => HX.out.1 w' hJ) Tryz.underlying34 rfl (by rw [cxl]; exact i32h) ?_
            simp only [Act.put, List.setIfInBounds_toArray, List.set_cons_zero, List.set_cons_succ, Nat.reduceAdd, Nat.reduceEqDiff, reduceIte, Option.getD_some, Option.getD_none]
            intro w5 hb5
            clear z
            go_wp2_with fail
            refine (HND.out w5 hb5).mono ?_
            rintro e w6 ⟨rfl, hb6⟩
            have hb56 := hb5.trans (hb6.mono hb5.size)
            obtain ⟨co, hco⟩ : ∃ q, q = bV (Wot.climb i leaf (pl.take (k + 1))) := ⟨_, rfl⟩
            rw [← hco]
            have hcol : co.length = 32 := by rw [hco, bV_len]; exact climb_len _ _ _ HN.out.2.2.2.2.2.2.1
            have hca : AllK 32 co := ⟨hcol, fun v hv => by rw [hco] at hv; exact bV_one _ v hv⟩
            have hk6 := HKI.out.kept hb56
            have q3 : HasK 32 w6 p1 0 := blk_has hk6 (by simp [hcil])
            have H6 := Lib.hid (And.intro (G.out.1.trans (hb56.mono G.out.1.size)) (And.intro hk6 (And.intro (G.out.2.2.kept hb56) hco)))
            clear hb5 hb6 hb56 hk6 hco
            go_wp2
            refine ⟨⟨k + 1, by omega, by go_num, ?_, ?_⟩, by simp [intOf]; omega⟩
            · rw [HX.out.2.2.2.2.2.1, HX.out.2.2.2.2.1, Nat.pow_succ, Nat.div_div_eq_div_mul]
            · exact ⟨hash_chg co H6.out.1 H1.out.2.2.2.2, by rw [← H6.out.2.2.2]; exact blk_over H6.out.2.1 hcil hcol, Blk.setCells_other (fun e => H1.out.2.2.2.1 e.symm) co 0 _ H6.out.2.2.1⟩
          · have hm2 : (q : Int).tmod 2 = 1 := by rw [Int.tmod_eq_emod_of_nonneg (by omega)]; omega
            have hnd := fun w1 (hb : Below wr.heap.size wr w1) => hnode_calls x (Wot.climb i leaf (pl.take k)) w1 (HT.out.below (G.out.1.trans (hb.mono G.out.1.size))) HX.out.2.2.1 (climb_len _ _ _ HN.out.2.2.2.2.2.2.1)
            rw [← HCI.out, ← HX.out.2.2.2.1] at hnd
            have hsn := HX.out.2.2.2.2.2.2
            rw [if_neg hev] at hsn
            rw [← hsn] at hnd
            have HND := Lib.hid hnd
            clear hnd hsn hev
            go_upto_region 13 with fail
            refine Tail.wp_region_J 5 (fun k => false) (fun k => none)
              (fun D z w' => Below wr.heap.size wr w')
              (by kernel_rfl) (by kernel_rfl) (fun k hk => by cases hk) (fun D z z' w' hz h => h)
              ((Below.refl _ _).drew) (fun z => ?_)
            simp only [List.take_succ_cons, List.take_zero, List.drop_succ_cons, List.drop_zero]
            refine Tail.J_ex (by rfl) (by rfl) ?_
            apply Exists.intro
            refine ⟨fun w => ?_, ?_⟩
            · go_simp <;> with_reducible rfl
            simp only [Act.put, List.setIfInBounds_toArray, List.set_cons_zero, List.set_cons_succ, Nat.reduceAdd, Nat.reduceEqDiff, reduceIte, Option.getD_some, Option.getD_none]
            refine Tail.J_ex (by rfl) (by rfl) ?_
            apply Exists.intro
            refine ⟨fun w => ?_, ?_⟩
            · go_simp <;> with_reducible rfl
            simp only [Act.put, List.setIfInBounds_toArray, List.set_cons_zero, List.set_cons_succ, Nat.reduceAdd, Nat.reduceEqDiff, reduceIte, Option.getD_some, Option.getD_none]
            refine Tail.J_ex (by rfl) (by rfl) ?_
            apply Exists.intro
            refine ⟨fun w => ?_, ?_⟩
            · go_simp <;> with_reducible rfl
            simp only [Act.put, List.setIfInBounds_toArray, List.set_cons_zero, List.set_cons_succ, Nat.reduceAdd, Nat.reduceEqDiff, reduceIte, Option.getD_some, Option.getD_none]
            refine Tail.J_load (by rfl) (by rfl) _ _ rfl g (k * 32) (by rfl) cx (fun D w' _ _ hJ => HX.out.1 w' hJ) Tryz.underlying34 rfl (by rw [cxl]; exact i32h) ?_
            simp only [Act.put, List.setIfInBounds_toArray, List.set_cons_zero, List.set_cons_succ, Nat.reduceAdd, Nat.reduceEqDiff, reduceIte, Option.getD_some, Option.getD_none]
            refine Tail.J_load (by rfl) (by rfl) _ _ rfl p1 0 (by rfl) ci (fun D w' _ _ hJ => blk_range (HKI.out.kept hJ)) Tryz.underlying34 rfl (by rw [cil]; exact i32h) ?_
            simp only [Act.put, List.setIfInBounds_toArray, List.set_cons_zero, List.set_cons_succ, Nat.reduceAdd, Nat.reduceEqDiff, reduceIte, Option.getD_some, Option.getD_none]
            intro w5 hb5
            clear z
            go_wp2_with fail
            refine (HND.out w5 hb5).mono ?_
            rintro e w6 ⟨rfl, hb6⟩
            have hb56 := hb5.trans (hb6.mono hb5.size)
            obtain ⟨co, hco⟩ : ∃ q, q = bV (Wot.climb i leaf (pl.take (k + 1))) := ⟨_, rfl⟩
            rw [← hco]
            have hcol : co.length = 32 := by rw [hco, bV_len]; exact climb_len _ _ _ HN.out.2.2.2.2.2.2.1
            have hca : AllK 32 co := ⟨hcol, fun v hv => by rw [hco] at hv; exact bV_one _ v hv⟩
            have hk6 := HKI.out.kept hb56
            have q3 : HasK 32 w6 p1 0 := blk_has hk6 (by simp [hcil])
            have H6 := Lib.hid (And.intro (G.out.1.trans (hb56.mono G.out.1.size)) (And.intro hk6 (And.intro (G.out.2.2.kept hb56) hco)))
            clear hb5 hb6 hb56 hk6 hco
            go_wp2
            refine ⟨⟨k + 1, by omega, by go_num, ?_, ?_⟩, by simp [intOf]; omega⟩
            · rw [HX.out.2.2.2.2.2.1, HX.out.2.2.2.2.1, Nat.pow_succ, Nat.div_div_eq_div_mul]
            · exact ⟨hash_chg co H6.out.1 H1.out.2.2.2.2, by rw [← H6.out.2.2.2]; exact blk_over H6.out.2.1 hcil hcol, Blk.setCells_other (fun e => H1.out.2.2.2.1 e.symm) co 0 _ H6.out.2.2.1⟩
        · have j1 : ¬ (k : Int) < (h : Int) := by omega
          obtain rfl : h = k := by omega
          have htk : pl.take h = pl := List.take_of_length_le (by have := HN.out.2.2.2.2.2.1; omega)
          have hb04 := G.out.1
          have kz := G.out.2.2
          have hlen := climb_len pl i leaf HN.out.2.2.2.2.2.2.1
          have k1 : readK 32 wr p1 0 = ci := blk_read HKI.out hcil (fun k _ => by simp)
          have k2 : HasK 32 wr p1 0 := blk_has HKI.out (by simp [hcil])
          rw [HCI.out, htk] at k1
          clear HCI
          obtain ⟨hq1, hq2, hq3⟩ := hash_end (p := p2) (h := Wot.climb i leaf pl) hlen kz
          obtain ⟨co, hco⟩ : ∃ q, q = bV (Wot.climb i leaf pl) := ⟨_, rfl⟩
          rw [← hco] at hq2 hq3 k1
          try rw [← hco]
          have hcol : co.length = 32 := hq2.1
          have HLD := Lib.hid hq3
          have HM := Lib.hid (And.intro hco (hash_chg co hb04 hpge))
          clear hco hq3
          go_wp2_with fail
          refine bodyPost_ret (v := .tuple #[.agg co.toArray, .bool true]) (by simp [results, Tryz.results41, asAddr, HLD.out]) rfl ⟨by rw [HM.out.1], HM.out.2⟩
end Go.Proofs.YtdlkghdfkjdajaaGreatDoor
end
section
namespace Go.Proofs.YtdlkghdfkjdajaaGreatDoor
open Go Go.RowKit Go.Mem Gf
set_option linter.unusedVariables false
set_option linter.unusedSimpArgs false
attribute [local go_sem ↓] Go.wp_at_zero Go.wp_at_succ
attribute [local go_sem ↓] load_hash store_hash slice_hash load_key16 store_sig
attribute [local go_sem] ptrB_eq ptrO_eq ptrIs_eq aggL_eq aggIs_eq readK_drew hasK_drew readK_alloc_past hasK_alloc_past readK_alloc_in hasK_alloc_in setCells_alloc_at
theorem eq_hash32 (xs : List UInt8) (w : World) (hx : xs.length = 32) : (Op.equalIn 10000 34 (.agg (bV xs).toArray) (.agg (bV xs).toArray)).run Tryz.prog w = .ok true w := by
  have := run_eq_bytes (P := Tryz.prog) w 9998 32 Tryz.underlying34 (Option.some_get (by kernel_rfl)).symm (by kernel_rfl) (by kernel_rfl) xs xs hx hx
  rw [decide_eq_true rfl] at this
  exact this
theorem sig_cells {w : World} {b : Nat} {x0 x1 x2 x3 : Value} {t : TypeId} (h : Blk w b #[x0, x1, x2, x3] t) : w.cell? ⟨b, 0, none⟩ = some x0 ∧ w.cell? ⟨b, 1, none⟩ = some x1 ∧ w.cell? ⟨b, 2, none⟩ = some x2 ∧ w.cell? ⟨b, 3, none⟩ = some x3 :=
  ⟨by rw [h.cell]; rfl, by rw [h.cell]; rfl, by rw [h.cell]; rfl, by rw [h.cell]; rfl⟩
set_option maxRecDepth 20000 in
set_option maxHeartbeats 4000000 in
theorem hverify_calls (h i : Nat) (fp : List UInt8) (v vv pv : Value) (m : List UInt8) (vl pl : List (List UInt8)) (base : Nat) (w : World) (hT : Tab w) (hfl : fp.length = 32) (hv : Bys w v m) (hm : m.length ≤ 1000) (hvv : OwnG bV WfH 32 34 w base vv vl) (hvl : vl.length = 67) (hpv : OwnG bV WfH 32 34 w base pv pl) (hpl : pl.length = h) (hh : h ≤ 4) (hi : i < 2 ^ h)
    (hfp : Wot.printOf h (Wot.climb i (Wot.publicOf (Wot.endsOf (Wot.digits m) vl 67)) pl) = fp) :
    Calls Tryz.prog 14 #[.agg (bV fp).toArray, v, .agg #[.int .i64 h, .int .i64 i, vv, pv]] w fun e w' => e = .returned (.bool true) ∧ Below w.heap.size w w' := by
  have hrc := fun w1 (hb : Below w.heap.size w w1) => hrecover_calls v vv m vl base w1 (hT.below hb) (hv.below hb) hm (hvv.chg (S := fun _ => False) (Chg.of_below hb) (fun _ _ => id)) hvl
  obtain ⟨lf, hlf⟩ : ∃ x, x = Wot.publicOf (Wot.endsOf (Wot.digits m) vl 67) := ⟨_, rfl⟩
  have hlfl : lf.length = 32 := by rw [hlf]; exact Wot.tagged_len _ _
  rw [← hlf] at hrc hfp
  have hcm := fun w1 (hb : Below w.heap.size w w1) => hclimb_calls h i lf pv pl base w1 (hT.below hb) hlfl (hpv.chg (S := fun _ => False) (Chg.of_below hb) (fun _ _ => id)) hpl hh hi
  obtain ⟨r, hr⟩ : ∃ x, x = Wot.climb i lf pl := ⟨_, rfl⟩
  have hrl : r.length = 32 := by rw [hr]; exact climb_len _ _ _ hlfl
  rw [← hr] at hcm hfp
  have hnb : 2 ^ h ≤ 16 := Nat.pow_le_pow_right (n := 2) (by decide) hh
  have hsh : IntKind.i64.wrap (2 ^ h) = ((2 ^ h : Nat) : Int) := by
    have : ((2 : Int) ^ h) = ((2 ^ h : Nat) : Int) := by simp
    rw [this]
    generalize 2 ^ h = z at hnb ⊢
    exact IntWalk.i64_in _ (by omega)
  obtain ⟨n, hn⟩ : ∃ n, n = 2 ^ h := ⟨_, rfl⟩
  rw [← hn] at hsh hcm
  have h0' : ¬ (h : Int) < 0 := by omega
  have h1' : ¬ 4 < (h : Int) := by omega
  have hb0 : decide ((h : Int) < 0) = false := decide_eq_false h0'
  have hb1 : decide (4 < (h : Int)) = false := decide_eq_false h1'
  obtain ⟨mva, mvc, rfl⟩ := hv.eq_slice
  obtain ⟨va, vc, rfl⟩ := hvv.slice
  obtain ⟨pa, pc, rfl⟩ := hpv.slice
  obtain ⟨mn, hmn⟩ : ∃ n, n = m.length := ⟨_, rfl⟩
  rw [← hmn, hvl] at hrc
  rw [hpl] at hcm
  rw [← hmn, hvl, hpl]
  obtain ⟨cf, hcf⟩ : ∃ c, c = bV fp := ⟨_, rfl⟩
  have cfl : cf.length = 32 := by rw [hcf, bV_len]; exact hfl
  obtain ⟨cr, hcr⟩ : ∃ c, c = bV r := ⟨_, rfl⟩
  have crl : cr.length = 32 := by rw [hcr, bV_len]; exact hrl
  obtain ⟨cl, hcl⟩ : ∃ c, c = bV lf := ⟨_, rfl⟩
  have cll : cl.length = 32 := by rw [hcl, bV_len]; exact hlfl
  have hpt := fun w1 (hb : Below w.heap.size w w1) => hprinted_calls h r w1 (hT.below hb) hh hrl
  have heq := fun w1 => eq_hash32 fp w1 hfl
  rw [← hcr] at hpt hcm
  rw [← hcl] at hrc hcm
  rw [← hcf] at heq
  rw [← hcf]
  have hcaf : AllK 32 cf := ⟨cfl, fun v hv => by rw [hcf] at hv; exact bV_one _ v hv⟩
  have hcar : AllK 32 cr := ⟨crl, fun v hv => by rw [hcr] at hv; exact bV_one _ v hv⟩
  have hcal : AllK 32 cl := ⟨cll, fun v hv => by rw [hcl] at hv; exact bV_one _ v hv⟩
  have H := Lib.hid (And.intro hrc (And.intro hcm (And.intro hpt (And.intro hfp (And.intro hcf (And.intro hrl heq))))))
  clear hrc hcm hpt hfp hcf hcr hcl hlf hr hn hT hv hvv hpv hvl hpl hmn hlfl hrl hfl hnb heq
  go_enter Tryz.func14, Tryz.ntmps14
  go_upto_region 1 with fail
  obtain ⟨w1, hw1⟩ : ∃ q, q = (w.alloc (.cells cf.toArray 34)).alloc (.cells #[.int .i64 h, .int .i64 i, .slice va 67 vc, .slice pa h pc] 48) := ⟨_, rfl⟩
  obtain ⟨p1, hp1⟩ : ∃ q, q = w.heap.size := ⟨_, rfl⟩
  obtain ⟨p2, hp2⟩ : ∃ q, q = w.heap.size + 1 := ⟨_, rfl⟩
  have hbw1 : Below w.heap.size w w1 := by rw [hw1]; exact ((Below.refl _ _).alloc (Nat.le_refl _) _).alloc (by simp) _
  have hk1 : Blk w1 p1 cf.toArray 34 := by rw [hw1, hp1]; exact (Blk.new _ _ _).alloc _
  have hk2 : Blk w1 p2 #[.int .i64 h, .int .i64 i, .slice va 67 vc, .slice pa h pc] 48 := by rw [hw1, hp2]; exact Blk.new_at _ _ _ _ (by simp)
  rw [← hw1, ← hp2, ← hp1]
  have H1 := Lib.hid (And.intro hbw1 (And.intro hk1 hk2))
  obtain ⟨c0, c1, c2, c3⟩ := sig_cells hk2
  clear hw1 hp1 hp2 hbw1 hk1 hk2
  go_wp2_with fail
  refine (H.out.1 w1 H1.out.1).mono ?_
  rintro e w2 ⟨rfl, hb2⟩
  go_upto_region 4 with fail
  obtain ⟨w3, hw3⟩ : ∃ q, q = w2.alloc (.cells cl.toArray 34) := ⟨_, rfl⟩
  obtain ⟨p7, hp7⟩ : ∃ q, q = w2.heap.size := ⟨_, rfl⟩
  have hk7 : Blk w3 p7 cl.toArray 34 := by rw [hw3, hp7]; exact Blk.new _ _ _
  have hb3 : Below w1.heap.size w1 w3 := by rw [hw3]; exact hb2.alloc hb2.size _
  rw [← hw3, ← hp7]
  have H3 := Lib.hid (And.intro (H1.out.1.trans (hb3.mono H1.out.1.size)) (And.intro (H1.out.2.1.kept hb3) (H1.out.2.2.kept hb3)))
  have k7 : readK 32 w3 p7 0 = cl := blk_read hk7 cll (fun k _ => by simp)
  have k7' : HasK 32 w3 p7 0 := blk_has hk7 (by simp [cll])
  clear hw3 hp7 hk7 hb3 hb2 c0 c1 c2 c3
  obtain ⟨c0, c1, c2, c3⟩ := sig_cells H3.out.2.2
  go_wp2_with fail
  refine (H.out.2.1 w3 H3.out.1).mono ?_
  rintro e w4 ⟨rfl, hb4⟩
  go_upto_region 7 with fail
  obtain ⟨w6, hw6⟩ : ∃ q, q = w4.alloc (.cells cr.toArray 34) := ⟨_, rfl⟩
  obtain ⟨p9, hp9⟩ : ∃ q, q = w4.heap.size := ⟨_, rfl⟩
  have hk9 : Blk w6 p9 cr.toArray 34 := by rw [hw6, hp9]; exact Blk.new _ _ _
  have hb6 : Below w3.heap.size w3 w6 := by rw [hw6]; exact hb4.alloc hb4.size _
  rw [← hw6, ← hp9]
  have hb06 := H3.out.1.trans (hb6.mono H3.out.1.size)
  have hln : (Wot.text Wot.tPrint [Cod.be 1 h, r]).length ≤ 1000000 := by
    unfold Wot.text
    rw [List.length_append]
    have h1 : (Cod.net Wot.tPrint).length ≤ 100 := by
      rw [Cod.net_len, show Wot.tPrint.length = 5 from rfl, Lib.nDigits_small (by decide)]
      decide
    have h2 := nets_less [Cod.be 1 h, r] (fun x hx => by
      simp only [List.mem_cons, List.not_mem_nil, or_false] at hx
      rcases hx with rfl | rfl
      · rw [Cod.be_len]; decide
      · have := H.out.2.2.2.2.2.1; omega) (show 2 ≤ 100 by decide)
    omega
  have hsum : bV (Sha.sum (Wot.text Wot.tPrint [Cod.be 1 h, r])) = cf := by rw [H.out.2.2.2.2.1, ← H.out.2.2.2.1]; rfl
  have HS := Lib.hid (And.intro (fun w' (hb : Below w6.heap.size w6 w') => (sig_cells ((H3.out.2.2.kept hb6).kept hb)).1) (And.intro hk9 (And.intro (H3.out.2.1.kept hb6) (And.intro (fun w' (hb : Below w6.heap.size w6 w') => H.out.2.2.1 w' (hb06.trans (hb.mono hb06.size))) (And.intro hln hsum)))))
  have HB := Lib.hid hb06
  have heq := H.out.2.2.2.2.2.2
  clear hw6 hp9 hk9 hb6 hb4 hb06 hln hsum c0 c1 c2 c3 k7 k7'
  refine Tail.wp_region_J 10 (fun k => k == 5 || k == 6) (fun k => if k = 6 then some (.agg cf.toArray) else none)
    (fun D z w' => Below w6.heap.size w6 w' ∧ (D 5 = true → OwnX 5 w' w6.heap.size (z 5) (Wot.text Wot.tPrint [Cod.be 1 h, r])))
    (by kernel_rfl) (by kernel_rfl) (fun k hk => by simp at hk; omega) (fun D z z' w' hz h => ⟨h.1, fun d => by rw [← hz 5 d]; exact h.2 d⟩)
    (⟨(Below.refl _ _).drew, (fun h => by cases h)⟩) (fun z => ?_)
  simp only [List.take_succ_cons, List.take_zero, List.drop_succ_cons, List.drop_zero]
  refine Tail.J_ex (by rfl) (by rfl) ?_
  apply Exists.intro
  refine ⟨fun w => ?_, ?_⟩
  · go_simp <;> with_reducible rfl
  simp only [Act.put, List.setIfInBounds_toArray, List.set_cons_zero, List.set_cons_succ, Nat.reduceAdd, Nat.reduceEqDiff, reduceIte, Option.getD_some, Option.getD_none]
  refine Tail.J_ex (by rfl) (by rfl) ?_
  apply Exists.intro
  refine ⟨fun w => ?_, ?_⟩
  · go_simp <;> with_reducible rfl
  simp only [Act.put, List.setIfInBounds_toArray, List.set_cons_zero, List.set_cons_succ, Nat.reduceAdd, Nat.reduceEqDiff, reduceIte, Option.getD_some, Option.getD_none]
  refine Tail.J_ex (by rfl) (by rfl) ?_
  apply Exists.intro
  refine ⟨fun w => ?_, ?_⟩
  · go_simp <;> with_reducible rfl
  simp only [Act.put, List.setIfInBounds_toArray, List.set_cons_zero, List.set_cons_succ, Nat.reduceAdd, Nat.reduceEqDiff, reduceIte, Option.getD_some, Option.getD_none]
  refine Tail.J_at (by rfl) (by rfl) ?_
  apply Exists.intro
  refine ⟨fun D w' hd hp hJ => ?_, ?_⟩
  · have cc := HS.out.1 w' hJ.1
    go_simp <;> with_reducible rfl
  simp only [Act.put, List.setIfInBounds_toArray, List.set_cons_zero, List.set_cons_succ, Nat.reduceAdd, Nat.reduceEqDiff, reduceIte, Option.getD_some, Option.getD_none]
  refine Tail.J_load (by rfl) (by rfl) _ _ rfl p9 0 (by rfl) cr (fun D w' _ _ hJ => blk_range (HS.out.2.1.kept hJ.1)) Tryz.underlying34 rfl (by rw [crl]; exact i32h) ?_
  simp only [Act.put, List.setIfInBounds_toArray, List.set_cons_zero, List.set_cons_succ, Nat.reduceAdd, Nat.reduceEqDiff, reduceIte, Option.getD_some, Option.getD_none]
  refine Tail.J_call (by rfl) (by rfl) ?_ ?_
  · apply Exists.intro
    apply Exists.intro
    refine ⟨fun w' => ?_, ?_⟩
    · go_simp <;> exact ⟨rfl, rfl⟩
    intro D z' w' hD hz hd hp hJ
    have h6 : D 6 = false := hp 6 (by kernel_rfl)
    refine (HS.out.2.2.2.1 w' hJ.1).mono ?_
    rintro e w'' ⟨v, rfl, hv, hb⟩
    refine ⟨v, rfl, fun c hc => by simp at hc, hJ.1.trans (hb.mono hJ.1.size), fun _ => ?_⟩
    simpa [Tail.updV] using hv.mono hJ.1.size
  simp only [Act.put, List.setIfInBounds_toArray, List.set_cons_zero, List.set_cons_succ, Nat.reduceAdd, Nat.reduceEqDiff, reduceIte, Option.getD_some, Option.getD_none]
  refine Tail.J_call (by rfl) (by rfl) ?_ ?_
  · apply Exists.intro
    apply Exists.intro
    refine ⟨fun w' => ?_, ?_⟩
    · go_simp <;> exact ⟨rfl, rfl⟩
    intro D z' w' hD hz hd hp hJ
    have h5 : D 5 = true := hd 5 (by kernel_rfl)
    have hz5 := hJ.2 h5
    rw [← hz 5 h5] at hz5
    refine (refsum_calls _ _ w' hz5.bys HS.out.2.2.2.2.1).mono ?_
    rintro e w'' ⟨rfl, hb⟩
    refine ⟨_, rfl, fun c hc => by simp at hc; rw [← hc, HS.out.2.2.2.2.2], hJ.1.trans (hb.mono hJ.1.size), fun _ => ?_⟩
    simpa [Tail.updV] using (hJ.2 h5).below hb
  simp only [Act.put, List.setIfInBounds_toArray, List.set_cons_zero, List.set_cons_succ, Nat.reduceAdd, Nat.reduceEqDiff, reduceIte, Option.getD_some, Option.getD_none]
  refine Tail.J_load (by rfl) (by rfl) _ _ rfl p1 0 (by rfl) cf (fun D w' _ _ hJ => blk_range (HS.out.2.2.1.kept hJ.1)) Tryz.underlying34 rfl (by rw [cfl]; exact i32h) ?_
  simp only [Act.put, List.setIfInBounds_toArray, List.set_cons_zero, List.set_cons_succ, Nat.reduceAdd, Nat.reduceEqDiff, reduceIte, Option.getD_some, Option.getD_none]
  refine Tail.J_ex (by rfl) (by rfl) ?_
  apply Exists.intro
  refine ⟨fun w => ?_, ?_⟩
  · go_simp <;> with_reducible rfl
  simp only [Act.put, List.setIfInBounds_toArray, List.set_cons_zero, List.set_cons_succ, Nat.reduceAdd, Nat.reduceEqDiff, reduceIte, Option.getD_some, Option.getD_none]
  refine Tail.J_ex (by rfl) (by rfl) ?_
  apply Exists.intro
  refine ⟨fun w => ?_, ?_⟩
  · go_simp <;> with_reducible rfl
  simp only [Act.put, List.setIfInBounds_toArray, List.set_cons_zero, List.set_cons_succ, Nat.reduceAdd, Nat.reduceEqDiff, reduceIte, Option.getD_some, Option.getD_none]
  intro w7 hJ
  have hb7 := hJ.1
  clear hJ
  have HB7 := Lib.hid (HB.out.trans (hb7.mono HB.out.size))
  clear hb7
  go_wp2_with fail
  go_ret
  exact ⟨rfl, HB7.out⟩
end Go.Proofs.YtdlkghdfkjdajaaGreatDoor
end
section
namespace Go.Proofs.YtdlkghdfkjdajaaGreatDoor
open Go Go.RowKit Go.Mem Gf
set_option linter.unusedVariables false
theorem two_verify {w0 wc w6 w' : World} {N N' X : Nat → Prop} {k0 k1 sb lb d L : Nat} {s s' : St} {n0 n1 : ByteArray} {d0 d1 : List UInt8} {h x0 x1 x0' x1' leaf : Nat} {v vv pv : Value} {m : List UInt8} (g : Two w0 wc N X k0 k1 sb lb d L s n0 n1 d0 d1 h x0 x1) (g' : Two w0 w' N' X k0 k1 sb lb d L s' n0 n1 d0 d1 h x0' x1')
    (hv : Bys w' v m) (hm : m.length ≤ 1000) (hvv : OwnG bV WfH 32 34 w6 wc.heap.size vv (Wot.signO d0 leaf m)) (hpv : OwnG bV WfH 32 34 w6 wc.heap.size pv (Wot.proof h leaf (Wot.leaves d0 (2 ^ h)))) (hc : Chg (fun b => b = k0 ∨ b = k1) w6 w') (hh : h ≤ 4) (hl : leaf < 2 ^ h) :
    Calls Tryz.prog 14 #[.agg (bV (Wot.print d0 h)).toArray, v, .agg #[.int .i64 h, .int .i64 leaf, vv, pv]] w' fun e w'' => e = .returned (.bool true) ∧ Below w'.heap.size w' w'' := by
  have h0 := Blk.lt g.a
  have h1 := Blk.lt g.b
  exact hverify_calls h leaf _ v vv pv m _ _ wc.heap.size w' g'.st.tab (Wot.tagged_len _ _) hv hm
    (hvv.chg hc (fun q hq e => by have := hvv.ge hq; rcases e with e | e <;> omega)) (Wot.signO_len _ _ _) (hpv.chg hc (fun q hq e => by have := hpv.ge hq; rcases e with e | e <;> omega)) (Wot.proof_len _ _ _) hh hl (Wot.verify d0 h leaf m hl)
end Go.Proofs.YtdlkghdfkjdajaaGreatDoor
end
section
namespace Go.Proofs.YtdlkghdfkjdajaaGreatDoor
open Go Go.RowKit Go.Mem Gf
set_option linter.unusedVariables false
set_option linter.unusedSimpArgs false
attribute [local go_sem ↓] Go.wp_at_zero Go.wp_at_succ
attribute [local go_sem ↓] load_hash store_hash slice_hash load_key16
attribute [local go_sem] ptrB_eq ptrO_eq ptrIs_eq aggL_eq aggIs_eq readK_drew hasK_drew readK_alloc_past hasK_alloc_past readK_alloc_in hasK_alloc_in setCells_alloc_at
set_option maxRecDepth 20000 in
set_option maxHeartbeats 4000000 in
theorem hendsS_calls (sd : List UInt8) (leaf : Nat) (w : World) (hT : Tab w) (hs : sd.length = 16) (h1 : leaf ≤ 1000000) :
    Calls Tryz.prog 92 #[.agg (bV sd).toArray, .int .i64 leaf] w fun e w' => ∃ v', e = .returned v' ∧ OwnG bV WfH 32 34 w' w.heap.size v' (Wot.ends sd leaf 67) ∧ Below w.heap.size w w' := by
  have HT := Lib.hid hT
  clear hT
  obtain ⟨cs, hcs⟩ : ∃ c, c = bV sd := ⟨_, rfl⟩
  have hcl : cs.length = 16 := by rw [hcs, bV_len]; exact hs
  have HCS := Lib.hid hcs
  rw [← hcs]
  clear hcs
  go_enter Tryz.func92, Tryz.ntmps92
  go_upto_region 1 with fail
  obtain ⟨w1, hw1⟩ : ∃ q, q = w.alloc (.cells cs.toArray 23) := ⟨_, rfl⟩
  obtain ⟨p1, hp1⟩ : ∃ q, q = w.heap.size := ⟨_, rfl⟩
  have hb1 : Below w.heap.size w w1 := by rw [hw1]; exact (Below.refl _ _).alloc (Nat.le_refl _) _
  have hk1 : Blk w1 p1 cs.toArray 23 := by rw [hw1, hp1]; exact Blk.new _ _ _
  have hs01 := hb1.size
  rw [← hw1, ← hp1]
  have H1 := Lib.hid (And.intro hb1 hk1)
  clear hw1 hp1 hb1 hk1
  go_wp2_with fail
  go_loopw [6, 5] (fun vi vo wr => ∃ i : Nat, i ≤ 67 ∧ vi = .int .i64 i ∧ Hid (OwnG bV WfH 32 34 wr w1.heap.size vo (Wot.ends sd leaf i) ∧ Below w1.heap.size w1 wr)) (fun vi _ _ => 67 - (intOf vi).toNat)
  case atStart => exact ⟨0, by omega, rfl, OwnG.nil _ _ _ _ _ _, Below.refl _ _⟩
  case round =>
    obtain ⟨i, hi, rfl, G⟩ := hrel
    by_cases h0 : i < 67
    · have i1 : (i : Int) < 67 := by omega
      have hk := H1.out.2.kept G.out.2
      have k1 : readK 16 wr p1 0 = cs := blk_read hk hcl (fun k _ => by simp)
      have k2 : HasK 16 wr p1 0 := blk_has hk (by simp [hcl])
      have hbw := H1.out.1.trans (G.out.2.mono hs01)
      have hst := hstart_calls sd leaf i wr (HT.out.below hbw) hs h1 (by omega)
      rw [← HCS.out] at hst
      have HST := Lib.hid (And.intro hst hbw)
      clear hst hk hbw
      go_wp2_with fail
      refine HST.out.1.mono ?_
      rintro e w3 ⟨rfl, hb3⟩
      have hb13 := G.out.2.trans (hb3.mono G.out.2.size)
      have H3 := Lib.hid (And.intro hb13 (G.out.1.chg (S := fun _ => False) (Chg.of_below hb3) (fun _ _ => id)))
      clear hb3 hb13 k1 k2
      go_wp2_with fail
      refine (halong_calls (Wot.start sd leaf i) 15 w3 (HT.out.below (H1.out.1.trans (H3.out.1.mono hs01))) (Wot.start_len _ _ _) (by decide)).mono ?_
      rintro e w4 ⟨rfl, hb4⟩
      obtain ⟨x, hx⟩ : ∃ x, x = Wot.along (Wot.start sd leaf i) 15 := ⟨_, rfl⟩
      rw [← hx]
      have hxl : x.length = 32 := by rw [hx]; exact Wot.along_len (Wot.start_len _ _ _) 15
      obtain ⟨co, hco⟩ : ∃ q, q = bV x := ⟨_, rfl⟩
      rw [← hco]
      have hcol : co.length = 32 := by rw [hco, bV_len]; exact hxl
      have hca : AllK 32 co := ⟨hcol, fun v hv => by rw [hco] at hv; exact bV_one _ v hv⟩
      have hb14 := H3.out.1.trans (hb4.mono H3.out.1.size)
      have H4 := Lib.hid (And.intro hb14 (And.intro (H3.out.2.chg (S := fun _ => False) (Chg.of_below hb4) (fun _ _ => id)) (And.intro hx hco)))
      have hs14 := hb14.size
      clear hb4 hb14 hx hco
      go_wp2_with (at_builtin; refine appG_own EKh ecH rfl _ _ rfl (base := w1.heap.size) x hxl rfl rfl (by rw [← H4.out.2.2.2]; exact Blk.new _ _ _) (H4.out.2.1.chg (S := fun _ => False) (Chg.of_below ((Below.refl _ _).alloc (Nat.le_refl _) _)) (fun _ _ => id)) ?d1 (by decide) ?d2 ?_)
      case d1 => unfold Wot.ends; rw [List.length_map, List.length_range]; omega
      case d2 => simp; omega
      intro v5 w5 h5 hg5 hx5
      have hb5 := grown_below (H4.out.1.alloc hs14 _) hg5 (fun k hk => H4.out.2.1.ge hk)
      have H5 := Lib.hid (And.intro h5 hb5)
      clear h5 hb5 hg5 hx5
      go_wp2
      refine ⟨⟨i + 1, by omega, by go_num, ?_, H5.out.2⟩, by simp [intOf]; omega⟩
      rw [Wot.ends_snoc, ← H4.out.2.2.1]
      exact H5.out.1
    · have i1 : ¬ (i : Int) < 67 := by omega
      obtain rfl : i = 67 := by omega
      go_wp2_with fail
      go_ret
      exact ⟨_, rfl, G.out.1.lower hs01, H1.out.1.trans (G.out.2.mono hs01)⟩
set_option maxRecDepth 20000 in
set_option maxHeartbeats 4000000 in
theorem hPublic_calls (sd : List UInt8) (leaf : Nat) (w : World) (hT : Tab w) (hs : sd.length = 16) (h1 : leaf ≤ 1000000) :
    Calls Tryz.prog 60 #[.agg (bV sd).toArray, .int .i64 leaf] w fun e w' => e = .returned (.agg (bV (Wot.pub sd leaf)).toArray) ∧ Below w.heap.size w w' := by
  have hen := fun w1 (hb : Below w.heap.size w w1) => hendsS_calls sd leaf w1 (hT.below hb) hs h1
  have HT := Lib.hid hT
  clear hT
  obtain ⟨cs, hcs⟩ : ∃ c, c = bV sd := ⟨_, rfl⟩
  have hcl : cs.length = 16 := by rw [hcs, bV_len]; exact hs
  rw [← hcs] at hen ⊢
  have HE := Lib.hid hen
  clear hcs hen
  go_enter Tryz.func60, Tryz.ntmps60
  go_upto_region 1 with fail
  obtain ⟨w1, hw1⟩ : ∃ q, q = (w.alloc (.cells cs.toArray 23)).alloc (.cells #[Value.int IntKind.u8 0, Value.int IntKind.u8 0, Value.int IntKind.u8 0, Value.int IntKind.u8 0, Value.int IntKind.u8 0, Value.int IntKind.u8 0, Value.int IntKind.u8 0, Value.int IntKind.u8 0, Value.int IntKind.u8 0, Value.int IntKind.u8 0, Value.int IntKind.u8 0, Value.int IntKind.u8 0, Value.int IntKind.u8 0, Value.int IntKind.u8 0, Value.int IntKind.u8 0, Value.int IntKind.u8 0, Value.int IntKind.u8 0, Value.int IntKind.u8 0, Value.int IntKind.u8 0, Value.int IntKind.u8 0, Value.int IntKind.u8 0, Value.int IntKind.u8 0, Value.int IntKind.u8 0, Value.int IntKind.u8 0, Value.int IntKind.u8 0, Value.int IntKind.u8 0, Value.int IntKind.u8 0, Value.int IntKind.u8 0, Value.int IntKind.u8 0, Value.int IntKind.u8 0, Value.int IntKind.u8 0, Value.int IntKind.u8 0] 34) := ⟨_, rfl⟩
  obtain ⟨p1, hp1⟩ : ∃ q, q = w.heap.size := ⟨_, rfl⟩
  obtain ⟨p2, hp2⟩ : ∃ q, q = w.heap.size + 1 := ⟨_, rfl⟩
  have hb1 : Below w.heap.size w w1 := by rw [hw1]; exact ((Below.refl _ _).alloc (Nat.le_refl _) _).alloc (by simp) _
  have hk1 : Blk w1 p1 cs.toArray 23 := by rw [hw1, hp1]; exact (Blk.new _ _ _).alloc _
  have hk2 : Blk w1 p2 zH 34 := by rw [hw1, hp2]; exact Blk.new_at _ _ _ _ (by simp)
  rw [← hw1, ← hp2, ← hp1]
  have H1 := Lib.hid (And.intro hb1 (And.intro hk2 (And.intro (show w.heap.size ≤ p2 by omega) (And.intro (show p1 ≠ p2 by omega) (show w.heap.size ≤ p1 by omega)))))
  have HK := Lib.hid hk1
  have hpge := H1.out.2.2.1
  clear hw1 hp1 hp2 hb1 hk1 hk2
  have k1 : readK 16 w1 p1 0 = cs := blk_read HK.out hcl (fun k _ => by simp)
  have k2 : HasK 16 w1 p1 0 := blk_has HK.out (by simp [hcl])
  have hs01 := H1.out.1.size
  go_wp2_with fail
  refine (HE.out w1 H1.out.1).mono ?_
  rintro e w2 ⟨v2, rfl, h2, hb2⟩
  have hpt := hpubtext_calls v2 _ w1.heap.size w2 (HT.out.below (H1.out.1.trans (hb2.mono hs01))) h2 (by unfold Wot.ends; rw [List.length_map, List.length_range]; decide)
  have hLl0 : (Wot.ends sd leaf 67).length = 67 := by unfold Wot.ends; rw [List.length_map, List.length_range]
  obtain ⟨L, hL⟩ : ∃ L, L = Wot.ends sd leaf 67 := ⟨_, rfl⟩
  rw [← hL] at h2 hpt hLl0
  obtain ⟨a2, c2, e2⟩ := h2.slice
  rw [hLl0] at e2
  subst e2
  have HPT := Lib.hid (And.intro hpt (And.intro hb2 (And.intro hLl0 (And.intro h2.wf hL))))
  clear h2 hpt hb2 hL hLl0 k1 k2
  go_wp2_with fail
  refine HPT.out.1.mono ?_
  rintro e w3 ⟨v3, rfl, h3, hb3⟩
  have H3 := Lib.hid (And.intro h3 hb3)
  have hln : (Wot.text Wot.tPublic L).length ≤ 1000000 := by
    unfold Wot.text
    rw [List.length_append]
    have h1 : (Cod.net Wot.tPublic).length ≤ 100 := by
      rw [Cod.net_len, show Wot.tPublic.length = 6 from rfl, Lib.nDigits_small (by decide)]
      decide
    have h2 := nets_less L (fun r hr => by have : r.length = 32 := HPT.out.2.2.2.1 r hr; omega) (by have := HPT.out.2.2.1; omega)
    omega
  clear h3 hb3
  go_wp2_with fail
  refine (refsum_calls v3 _ w3 H3.out.1.bys hln).mono ?_
  rintro e w4 ⟨rfl, hb4⟩
  rw [show Sha.sum (Wot.text Wot.tPublic L) = Wot.pub sd leaf from by rw [HPT.out.2.2.2.2]; rfl]
  have hb24 : Below w2.heap.size w2 w4 := H3.out.2.trans (hb4.mono H3.out.2.size)
  have hb14 : Below w1.heap.size w1 w4 := HPT.out.2.1.trans (hb24.mono HPT.out.2.1.size)
  have hb04 := H1.out.1.trans (hb14.mono H1.out.1.size)
  have kz := H1.out.2.1.kept hb14
  have hlen : (Wot.pub sd leaf).length = 32 := Wot.tagged_len _ _
  obtain ⟨hq1, hq2, hq3⟩ := hash_end (p := p2) (h := Wot.pub sd leaf) hlen kz
  obtain ⟨co, hco⟩ : ∃ q, q = bV (Wot.pub sd leaf) := ⟨_, rfl⟩
  rw [← hco] at hq2 hq3
  try rw [← hco]
  have hcol : co.length = 32 := hq2.1
  have HLD := Lib.hid hq3
  have HM := Lib.hid (And.intro hco (hash_chg co hb04 hpge))
  clear hco hq3
  go_wp2_with fail
  refine bodyPost_ret (v := .agg co.toArray) (by simp [results, Tryz.results60, asAddr, HLD.out]) rfl ⟨by rw [HM.out.1], HM.out.2⟩
set_option maxRecDepth 20000 in
set_option maxHeartbeats 4000000 in
theorem hleaves_calls (sd : List UInt8) (h : Nat) (w : World) (hT : Tab w) (hs : sd.length = 16) (hh : h ≤ 4) :
    Calls Tryz.prog 34 #[.agg (bV sd).toArray, .int .i64 h] w fun e w' => ∃ v', e = .returned v' ∧ OwnG bV WfH 32 34 w' w.heap.size v' (Wot.leaves sd (2 ^ h)) ∧ Below w.heap.size w w' := by
  have HT := Lib.hid hT
  clear hT
  obtain ⟨cs, hcs⟩ : ∃ c, c = bV sd := ⟨_, rfl⟩
  have hcl : cs.length = 16 := by rw [hcs, bV_len]; exact hs
  have HCS := Lib.hid hcs
  rw [← hcs]
  clear hcs
  obtain ⟨n, hn⟩ : ∃ n, n = 2 ^ h := ⟨_, rfl⟩
  have hnb : n ≤ 16 := by rw [hn]; exact Nat.pow_le_pow_right (by decide) hh
  have HN := Lib.hid hn
  rw [← hn]
  have hsh : IntKind.i64.wrap (2 ^ h) = (n : Int) := by
    rw [hn]
    have : ((2 : Int) ^ h) = ((2 ^ h : Nat) : Int) := by simp
    rw [this]
    exact IntWalk.i64_in _ (by rw [← hn]; omega)
  clear hn
  go_enter Tryz.func34, Tryz.ntmps34
  go_upto_region 1 with fail
  obtain ⟨w1, hw1⟩ : ∃ q, q = w.alloc (.cells cs.toArray 23) := ⟨_, rfl⟩
  obtain ⟨p1, hp1⟩ : ∃ q, q = w.heap.size := ⟨_, rfl⟩
  have hb1 : Below w.heap.size w w1 := by rw [hw1]; exact (Below.refl _ _).alloc (Nat.le_refl _) _
  have hk1 : Blk w1 p1 cs.toArray 23 := by rw [hw1, hp1]; exact Blk.new _ _ _
  have hs01 := hb1.size
  rw [← hw1, ← hp1]
  have H1 := Lib.hid (And.intro hb1 hk1)
  clear hw1 hp1 hb1 hk1
  go_wp2_with fail
  go_loopw [6, 5] (fun vi vo wr => ∃ i : Nat, i ≤ n ∧ vi = .int .i64 i ∧ Hid (OwnG bV WfH 32 34 wr w1.heap.size vo (Wot.leaves sd i) ∧ Below w1.heap.size w1 wr)) (fun vi _ _ => n - (intOf vi).toNat)
  case atStart => exact ⟨0, by omega, rfl, OwnG.nil _ _ _ _ _ _, Below.refl _ _⟩
  case round =>
    obtain ⟨i, hi, rfl, G⟩ := hrel
    by_cases h0 : i < n
    · have i1 : (i : Int) < (n : Int) := by omega
      have hk := H1.out.2.kept G.out.2
      have k1 : readK 16 wr p1 0 = cs := blk_read hk hcl (fun k _ => by simp)
      have k2 : HasK 16 wr p1 0 := blk_has hk (by simp [hcl])
      have hbw := H1.out.1.trans (G.out.2.mono hs01)
      have hst := hPublic_calls sd i wr (HT.out.below hbw) hs (by omega)
      rw [← HCS.out] at hst
      have HST := Lib.hid (And.intro hst hbw)
      clear hst hk hbw
      go_wp2_with fail
      refine HST.out.1.mono ?_
      rintro e w4 ⟨rfl, hb4⟩
      obtain ⟨x, hx⟩ : ∃ x, x = Wot.pub sd i := ⟨_, rfl⟩
      rw [← hx]
      have hxl : x.length = 32 := by rw [hx]; exact Wot.tagged_len _ _
      obtain ⟨co, hco⟩ : ∃ q, q = bV x := ⟨_, rfl⟩
      rw [← hco]
      have hcol : co.length = 32 := by rw [hco, bV_len]; exact hxl
      have hca : AllK 32 co := ⟨hcol, fun v hv => by rw [hco] at hv; exact bV_one _ v hv⟩
      have hb14 := G.out.2.trans (hb4.mono G.out.2.size)
      have H4 := Lib.hid (And.intro hb14 (And.intro (G.out.1.chg (S := fun _ => False) (Chg.of_below hb4) (fun _ _ => id)) (And.intro hx hco)))
      have hs14 := hb14.size
      clear hb4 hb14 hx hco k1 k2
      go_wp2_with (at_builtin; refine appG_own EKh ecH rfl _ _ rfl (base := w1.heap.size) x hxl rfl rfl (by rw [← H4.out.2.2.2]; exact Blk.new _ _ _) (H4.out.2.1.chg (S := fun _ => False) (Chg.of_below ((Below.refl _ _).alloc (Nat.le_refl _) _)) (fun _ _ => id)) ?d1 (by decide) ?d2 ?_)
      case d1 => rw [Wot.leaves_len]; omega
      case d2 => simp; omega
      intro v5 w5 h5 hg5 hx5
      have hb5 := grown_below (H4.out.1.alloc hs14 _) hg5 (fun k hk => H4.out.2.1.ge hk)
      have H5 := Lib.hid (And.intro h5 hb5)
      clear h5 hb5 hg5 hx5
      go_wp2
      refine ⟨⟨i + 1, by omega, by go_num, ?_, H5.out.2⟩, by simp [intOf]; omega⟩
      rw [Wot.leaves_snoc, ← H4.out.2.2.1]
      exact H5.out.1
    · have i1 : ¬ (i : Int) < (n : Int) := by omega
      obtain rfl : n = i := by omega
      go_wp2_with fail
      go_ret
      exact ⟨_, rfl, G.out.1.lower hs01, H1.out.1.trans (G.out.2.mono hs01)⟩
set_option maxRecDepth 20000 in
set_option maxHeartbeats 4000000 in
theorem hrow_calls (v : Value) (l : List (List UInt8)) (base h : Nat) (w : World) (hT : Tab w) (hv : OwnG bV WfH 32 34 w base v l) (hl : l.length = 2 ^ h) (hh : h ≤ 4) :
    Calls Tryz.prog 58 #[v] w fun e w' => ∃ v', e = .returned v' ∧ OwnG bV WfH 32 34 w' w.heap.size v' l ∧ Below w.heap.size w w' := by
  obtain ⟨n, hn⟩ : ∃ n, n = l.length := ⟨_, rfl⟩
  have hn1 : 1 ≤ n := by rw [hn, hl]; exact Nat.pow_pos (by decide)
  have hn16 : n ≤ 16 := by rw [hn, hl]; exact Nat.pow_le_pow_right (by decide) hh
  obtain ⟨g, cap, rfl, hrow⟩ := hv.ex (by omega)
  rw [← hn] at hrow hv ⊢
  have hpad := fun w1 => hpad_calls h (by omega) w1
  rw [← hl, ← hn] at hpad
  have H := Lib.hid (And.intro hT (And.intro hrow (And.intro hn (And.intro hpad hl))))
  clear hT hv hrow hn hpad hl
  go_enter Tryz.func58, Tryz.ntmps58
  go_wp2_with (at_builtin; refine appN_own EKh ecH rfl _ _ rfl rfl (l := l) H.out.2.1.wf rfl H.out.2.2.1.symm (fun j u hu => by rw [Nat.zero_add, H.out.2.1.cell (by have := some_lt hu; rw [allV_len ecH l H.out.2.1.wf, ← H.out.2.2.1] at this; exact this)]; exact hu) (maxLen_ge (by omega)) (by omega) ?_)
  intro v1 w1 h1 hb1
  obtain ⟨a1, c1, rfl⟩ := h1.slice
  rw [← H.out.2.2.1] at h1 ⊢
  have H1 := Lib.hid (And.intro h1 hb1)
  clear h1 hb1
  go_wp2_with fail
  go_loopw [3] (fun u wr => u = .slice a1 n c1 ∧ w1 = wr) (fun _ _ => 0)
  case atStart => exact ⟨rfl, rfl⟩
  case round =>
    obtain ⟨rfl, rfl⟩ := hrel
    have i1 : ¬ (n : Int) < (n : Int) := by omega
    go_wp2_with fail
    refine (H.out.2.2.2.1 w1).mono ?_
    rintro e _ ⟨rfl, rfl⟩
    go_wp2_with fail
    go_ret
    exact ⟨_, rfl, H1.out.1, H1.out.2⟩
set_option maxRecDepth 20000 in
set_option maxHeartbeats 4000000 in
theorem hup_calls (v : Value) (l : List (List UInt8)) (base q : Nat) (w : World) (hT : Tab w) (hv : OwnG bV WfH 32 34 w base v l) (hl : l.length = 2 * q) (hq1 : 1 ≤ q) (hq : q ≤ 8) :
    Calls Tryz.prog 59 #[v] w fun e w' => ∃ v', e = .returned v' ∧ OwnG bV WfH 32 34 w' w.heap.size v' (Wot.up l) ∧ Below w.heap.size w w' := by
  obtain ⟨m, hm⟩ : ∃ m, m = l.length := ⟨_, rfl⟩
  obtain ⟨g', cap, rfl, hrow⟩ := hv.ex (by omega)
  rw [← hm] at hrow ⊢
  have hul := Wot.up_len q l hl
  have HU := Lib.hid (And.intro hrow (And.intro hm.symm (And.intro hul (And.intro (show m = 2 * q from hm.trans hl) hT))))
  clear hv hrow hm hul hT hl
  go_enter Tryz.func59, Tryz.ntmps59
  go_wp2_with fail
  go_loopw [4, 3] (fun vi vo wr => ∃ i ii : Nat, Hid (i ≤ q ∧ ii = 2 * i) ∧ vi = .int .i64 ii ∧ Hid (OwnG bV WfH 32 34 wr w.heap.size vo ((Wot.up l).take i) ∧ Below w.heap.size w wr)) (fun vi _ _ => 2 * q - (intOf vi).toNat)
  case atStart => exact ⟨0, 0, ⟨by omega, rfl⟩, rfl, OwnG.nil _ _ _ _ _ _, Below.refl _ _⟩
  case round =>
    obtain ⟨i, ii, hii, rfl, K⟩ := hrel
    by_cases hiq : i < q
    · have t0 : (0 : Int) ≤ (ii : Int) := by omega
      have t1 : (ii : Int) < (m : Int) := by have := hii.out; have := HU.out.2.2.2.1; omega
      have t2 : (ii : Int) + 1 < (m : Int) := by have := hii.out; have := HU.out.2.2.2.1; omega
      have t3 : (0 : Int) ≤ (ii : Int) + 1 := by omega
      have q1 : IntKind.i64.wrap ((ii : Int) + 1) = (ii : Int) + 1 := IntWalk.i64_in _ (by have := hii.out; omega)
      have q2 : IntKind.i64.wrap ((ii : Int) + 2) = (ii : Int) + 2 := IntWalk.i64_in _ (by have := hii.out; omega)
      have hrw := HU.out.1.chg (S := fun _ => False) (Chg.of_below K.out.2) id
      obtain ⟨x, hx⟩ : ∃ x, l[ii]? = some x := ⟨_, List.getElem?_eq_getElem (by have := HU.out.2.1; omega)⟩
      obtain ⟨y, hy⟩ : ∃ y, l[ii + 1]? = some y := ⟨_, List.getElem?_eq_getElem (by have := HU.out.2.1; omega)⟩
      have hxl : x.length = 32 := hrw.wf x (List.mem_of_getElem? hx)
      have hyl : y.length = 32 := hrw.wf y (List.mem_of_getElem? hy)
      obtain ⟨cx, hcx⟩ : ∃ c, c = bV x := ⟨_, rfl⟩
      obtain ⟨cy, hcy⟩ : ∃ c, c = bV y := ⟨_, rfl⟩
      have cxl : cx.length = 32 := by rw [hcx, bV_len]; exact hxl
      have cyl : cy.length = 32 := by rw [hcy, bV_len]; exact hyl
      have hnd := fun w' (hb : Below wr.heap.size wr w') => hnode_calls x y w' (HU.out.2.2.2.2.below (K.out.2.trans (hb.mono K.out.2.size))) hxl hyl
      obtain ⟨nd, hndd⟩ : ∃ nd, nd = Wot.node x y := ⟨_, rfl⟩
      obtain ⟨co, hco⟩ : ∃ c, c = bV nd := ⟨_, rfl⟩
      rw [← hcx, ← hcy, ← hndd, ← hco] at hnd
      have hndl : nd.length = 32 := by rw [hndd]; exact Wot.tagged_len _ _
      have hcol2 : co.length = 32 := by rw [hco, bV_len]; exact hndl
      have hca2 : AllK 32 co := ⟨hcol2, fun v hv => by rw [hco] at hv; exact bV_one _ v hv⟩
      have HX := Lib.hid (And.intro hrw (And.intro hx (And.intro hy (And.intro hcx (And.intro hcy hnd)))))
      have HCO := Lib.hid hco
      have HND := Lib.hid (And.intro hndd hndl)
      clear hx hy hxl hyl hcx hcy hnd hrw hco hndd hndl
      go_upto_region 5 with fail
      refine Tail.wp_region_J 12 (fun k => k == 10 || k == 11) (fun k => if k = 10 then some (.agg co.toArray) else none)
        (fun D z w' => Below wr.heap.size wr w' ∧ (D 11 = true → ∃ mb, z 11 = .slice (some ⟨mb, 0, none⟩) 1 1 ∧ Blk w' mb (bV nd).toArray 34))
        (by kernel_rfl) (by kernel_rfl) (fun k hk => by simp at hk; omega) (fun D z z' w' hz h => ⟨h.1, fun d => by rw [← hz 11 d]; exact h.2 d⟩)
        (⟨(Below.refl _ _).drew, (fun h => by cases h)⟩) (fun z => ?_)
      simp only [List.take_succ_cons, List.take_zero, List.drop_succ_cons, List.drop_zero]
      refine Tail.J_ex (by rfl) (by rfl) ?_
      apply Exists.intro
      refine ⟨fun w => ?_, ?_⟩
      · go_simp <;> with_reducible rfl
      simp only [Act.put, List.setIfInBounds_toArray, List.set_cons_zero, List.set_cons_succ, Nat.reduceAdd, Nat.reduceEqDiff, reduceIte, Option.getD_some, Option.getD_none]
      refine Tail.J_ex (by rfl) (by rfl) ?_
      apply Exists.intro
      refine ⟨fun w => ?_, ?_⟩
      · go_simp <;> with_reducible rfl
      simp only [Act.put, List.setIfInBounds_toArray, List.set_cons_zero, List.set_cons_succ, Nat.reduceAdd, Nat.reduceEqDiff, reduceIte, Option.getD_some, Option.getD_none]
      refine Tail.J_ex (by rfl) (by rfl) ?_
      apply Exists.intro
      refine ⟨fun w => ?_, ?_⟩
      · go_simp <;> with_reducible rfl
      simp only [Act.put, List.setIfInBounds_toArray, List.set_cons_zero, List.set_cons_succ, Nat.reduceAdd, Nat.reduceEqDiff, reduceIte, Option.getD_some, Option.getD_none]
      refine Tail.J_ex (by rfl) (by rfl) ?_
      apply Exists.intro
      refine ⟨fun w => ?_, ?_⟩
      · go_simp <;> with_reducible rfl
      simp only [Act.put, List.setIfInBounds_toArray, List.set_cons_zero, List.set_cons_succ, Nat.reduceAdd, Nat.reduceEqDiff, reduceIte, Option.getD_some, Option.getD_none]
      refine Tail.J_load (by rfl) (by rfl) _ _ rfl g' (ii * 32) (by rfl) cx (fun D w' _ _ hJ => by rw [HX.out.2.2.2.1]; exact (HX.out.1.chg (S := fun _ => False) (Chg.of_below hJ.1) id).range ecH HX.out.2.1) Tryz.underlying34 rfl (by rw [cxl]; exact i32h) ?_
      simp only [Act.put, List.setIfInBounds_toArray, List.set_cons_zero, List.set_cons_succ, Nat.reduceAdd, Nat.reduceEqDiff, reduceIte, Option.getD_some, Option.getD_none]
      refine Tail.J_ex (by rfl) (by rfl) ?_
      apply Exists.intro
      refine ⟨fun w => ?_, ?_⟩
      · go_simp <;> with_reducible rfl
      simp only [Act.put, List.setIfInBounds_toArray, List.set_cons_zero, List.set_cons_succ, Nat.reduceAdd, Nat.reduceEqDiff, reduceIte, Option.getD_some, Option.getD_none]
      refine Tail.J_ex (by rfl) (by rfl) ?_
      apply Exists.intro
      refine ⟨fun w => ?_, ?_⟩
      · go_simp <;> with_reducible rfl
      simp only [Act.put, List.setIfInBounds_toArray, List.set_cons_zero, List.set_cons_succ, Nat.reduceAdd, Nat.reduceEqDiff, reduceIte, Option.getD_some, Option.getD_none]
      refine Tail.J_ex (by rfl) (by rfl) ?_
      apply Exists.intro
      refine ⟨fun w => ?_, ?_⟩
      · go_simp <;> with_reducible rfl
      simp only [Act.put, List.setIfInBounds_toArray, List.set_cons_zero, List.set_cons_succ, Nat.reduceAdd, Nat.reduceEqDiff, reduceIte, Option.getD_some, Option.getD_none]
      refine Tail.J_ex (by rfl) (by rfl) ?_
      apply Exists.intro
      refine ⟨fun w => ?_, ?_⟩
      · go_simp <;> with_reducible rfl
      simp only [Act.put, List.setIfInBounds_toArray, List.set_cons_zero, List.set_cons_succ, Nat.reduceAdd, Nat.reduceEqDiff, reduceIte, Option.getD_some, Option.getD_none]
      refine Tail.J_load (by rfl) (by rfl) _ _ rfl g' ((ii + 1) * 32) (by rfl) cy (fun D w' _ _ hJ => by rw [HX.out.2.2.2.2.1]; exact (HX.out.1.chg (S := fun _ => False) (Chg.of_below hJ.1) id).range ecH HX.out.2.2.1) Tryz.underlying34 rfl (by rw [cyl]; exact i32h) ?_
      simp only [Act.put, List.setIfInBounds_toArray, List.set_cons_zero, List.set_cons_succ, Nat.reduceAdd, Nat.reduceEqDiff, reduceIte, Option.getD_some, Option.getD_none]
      refine Tail.J_call (by rfl) (by rfl) ?_ ?_
      · apply Exists.intro
        apply Exists.intro
        refine ⟨fun w' => ?_, ?_⟩
        · go_simp <;> exact ⟨rfl, rfl⟩
        intro D z' w' hD hz hd hp hJ
        have h11 : D 11 = false := hp 11 (by kernel_rfl)
        refine (HX.out.2.2.2.2.2 w' hJ.1).mono ?_
        rintro e w'' ⟨rfl, hb⟩
        refine ⟨_, rfl, fun c hc => by simp at hc; rw [← hc], hJ.1.trans (hb.mono hJ.1.size), fun h => ?_⟩
        simp [Tail.updB, h11] at h
      simp only [Act.put, List.setIfInBounds_toArray, List.set_cons_zero, List.set_cons_succ, Nat.reduceAdd, Nat.reduceEqDiff, reduceIte, Option.getD_some, Option.getD_none]
      refine Tail.J_mov (by rfl) (by rfl) (fun D z' w' hD hz hd hp hJ => ?_) ?_
      · refine ⟨_, _, slice_ex2 Tryz.underlying46 (n := 32) (by kernel_rfl) (by decide) (by decide) w' _ rfl co (by rfl) hca2, fun c hc => by simp at hc, hJ.1.alloc hJ.1.size _, fun _ => ⟨w'.heap.size, by simp [Tail.updV], ?_⟩⟩
        rw [← HCO.out]
        exact Blk.new _ _ _
      simp only [Act.put, List.setIfInBounds_toArray, List.set_cons_zero, List.set_cons_succ, Nat.reduceAdd, Nat.reduceEqDiff, reduceIte, Option.getD_some, Option.getD_none]
      intro w5 hJ
      have hb5 := hJ.1
      obtain ⟨mb, hz11, hkm⟩ := hJ.2 rfl
      rw [hz11]
      clear hJ hz11 z
      have hbo5 := K.out.2.trans (hb5.mono K.out.2.size)
      have hso5 := hbo5.size
      have H5 := Lib.hid (And.intro hkm (And.intro (K.out.1.chg (S := fun _ => False) (Chg.of_below hb5) (fun _ _ => id)) hbo5))
      clear hkm hb5 hbo5
      go_wp2_with (at_builtin; refine appG_own EKh ecH rfl _ _ rfl (base := w.heap.size) nd HND.out.2 rfl rfl H5.out.1 H5.out.2.1 ?d1 (by decide) ?d2 ?_)
      case d1 => have := HU.out.2.2.2.1; rw [List.length_take]; omega
      case d2 => omega
      intro v6 w6 h6 hg6 hx6
      have hb6 := grown_below H5.out.2.2 hg6 (fun k hk => H5.out.2.1.ge hk)
      have H6 := Lib.hid (And.intro h6 hb6)
      clear h6 hb6 hg6 hx6
      go_wp2
      refine ⟨⟨i + 1, ii + 2, ⟨by omega, by have := hii.out; omega⟩, by go_num, ?_, H6.out.2⟩, by have := hii.out; have := HU.out.2.2.2.1; simp [intOf]; omega⟩
      have hii2 := hii.out.2
      have hug := Wot.up_get i l (by have := HU.out.2.1; have := HU.out.2.2.2.1; omega)
      rw [← hii2, List.getD_eq_getElem?_getD, HX.out.2.1, List.getD_eq_getElem?_getD, HX.out.2.2.1, Option.getD_some, Option.getD_some, ← HND.out.1] at hug
      rw [List.take_add_one, hug]
      exact H6.out.1
    · have q1 : IntKind.i64.wrap ((ii : Int) + 1) = (ii : Int) + 1 := IntWalk.i64_in _ (by have := hii.out; omega)
      have t1 : ¬ (ii : Int) + 1 < (m : Int) := by have := hii.out; have := HU.out.2.2.2.1; omega
      obtain rfl : i = q := by have := hii.out; omega
      have htk : (Wot.up l).take i = Wot.up l := List.take_of_length_le (by have := HU.out.2.2.1; omega)
      rw [htk] at K
      go_wp2_with fail
      go_ret
      exact ⟨_, rfl, K.out.1, K.out.2⟩
set_option maxRecDepth 20000 in
set_option maxHeartbeats 4000000 in
theorem hroot_calls (v : Value) (l : List (List UInt8)) (base h : Nat) (w : World) (hT : Tab w) (hv : OwnG bV WfH 32 34 w base v l) (hl : l.length = 2 ^ h) (hh : h ≤ 4) :
    Calls Tryz.prog 33 #[v] w fun e w' => e = .returned (.agg (bV (Wot.root h l)).toArray) ∧ Below w.heap.size w w' := by
  have hrw := fun w1 (hb : Below w.heap.size w w1) => hrow_calls v l base h w1 (hT.below hb) (hv.chg (S := fun _ => False) (Chg.of_below hb) (fun _ _ => id)) hl hh
  have hwf := hv.wf
  obtain ⟨va, vc, rfl⟩ := hv.slice
  obtain ⟨n, hn⟩ : ∃ n, n = l.length := ⟨_, rfl⟩
  rw [← hn] at hrw ⊢
  have hll := fun j (hj : j ≤ h) => Wot.lvl_len hl j hj
  have H := Lib.hid (And.intro hT (And.intro hrw (And.intro hll hwf)))
  clear hT hrw hll hn hv hwf hl
  go_enter Tryz.func33, Tryz.ntmps33
  go_upto_region 1 with fail
  obtain ⟨w1, hw1⟩ : ∃ q, q = w.alloc (.cells #[Value.int IntKind.u8 0, Value.int IntKind.u8 0, Value.int IntKind.u8 0, Value.int IntKind.u8 0, Value.int IntKind.u8 0, Value.int IntKind.u8 0, Value.int IntKind.u8 0, Value.int IntKind.u8 0, Value.int IntKind.u8 0, Value.int IntKind.u8 0, Value.int IntKind.u8 0, Value.int IntKind.u8 0, Value.int IntKind.u8 0, Value.int IntKind.u8 0, Value.int IntKind.u8 0, Value.int IntKind.u8 0, Value.int IntKind.u8 0, Value.int IntKind.u8 0, Value.int IntKind.u8 0, Value.int IntKind.u8 0, Value.int IntKind.u8 0, Value.int IntKind.u8 0, Value.int IntKind.u8 0, Value.int IntKind.u8 0, Value.int IntKind.u8 0, Value.int IntKind.u8 0, Value.int IntKind.u8 0, Value.int IntKind.u8 0, Value.int IntKind.u8 0, Value.int IntKind.u8 0, Value.int IntKind.u8 0, Value.int IntKind.u8 0] 34) := ⟨_, rfl⟩
  obtain ⟨p2, hp2⟩ : ∃ q, q = w.heap.size := ⟨_, rfl⟩
  have hb1 : Below w.heap.size w w1 := by rw [hw1]; exact (Below.refl _ _).alloc (Nat.le_refl _) _
  have hk1 : Blk w1 p2 zH 34 := by rw [hw1, hp2]; exact Blk.new _ _ _
  rw [← hw1, ← hp2]
  have H1 := Lib.hid (And.intro hb1 (And.intro hk1 (show w.heap.size ≤ p2 from Nat.le_of_eq hp2.symm)))
  clear hw1 hp2 hb1 hk1
  go_wp2_with fail
  refine (H.out.2.1 w1 H1.out.1).mono ?_
  rintro e w2 ⟨v2, rfl, h2, hb2⟩
  have H2 := Lib.hid (And.intro h2 hb2)
  clear h2 hb2
  go_wp2_with fail
  go_loopw [3] (fun vr wr => ∃ j : Nat, j ≤ h ∧ Hid (OwnG bV WfH 32 34 wr w1.heap.size vr (Wot.lvl j l) ∧ Below w1.heap.size w1 wr)) (fun vr _ => sLen8 vr)
  case atStart => exact ⟨0, Nat.zero_le _, H2.out.1, H2.out.2⟩
  case round =>
    obtain ⟨j, hj, G⟩ := hrel
    have hlj := H.out.2.2.1 j hj
    obtain ⟨m, hm⟩ : ∃ m, m = (Wot.lvl j l).length := ⟨_, rfl⟩
    rw [← hm] at hlj
    by_cases h0 : j < h
    · obtain ⟨q, hq⟩ : ∃ q, q = 2 ^ (h - (j + 1)) := ⟨_, rfl⟩
      have hmq : m = 2 * q := by rw [hlj, hq, show h - j = (h - (j + 1)) + 1 from by omega, Nat.pow_succ, Nat.mul_comm]
      have hq1 : 1 ≤ q := by rw [hq]; exact Nat.one_le_two_pow
      have hq8 : q ≤ 8 := by rw [hq]; exact Nat.pow_le_pow_right (n := 2) (by decide) (show h - (j + 1) ≤ 3 by omega)
      have i1 : (1 : Int) < (m : Int) := by omega
      have hup := hup_calls u3 (Wot.lvl j l) w1.heap.size q wr (H.out.1.below (H1.out.1.trans (G.out.2.mono H1.out.1.size))) G.out.1 (by rw [← hm]; exact hmq) hq1 hq8
      obtain ⟨a3, c3, e3⟩ := G.out.1.slice
      rw [← hm] at e3
      subst e3
      have hql : (Wot.lvl (j + 1) l).length = q := by rw [H.out.2.2.1 (j + 1) h0, hq]
      have HUP := Lib.hid (And.intro hup (And.intro hql (show q < m by omega)))
      clear hup hm hlj hq hmq hq1 hq8 hql
      go_wp2_with fail
      refine HUP.out.1.mono ?_
      rintro e w4 ⟨v4, rfl, h4, hb4⟩
      have hb14 := G.out.2.trans (hb4.mono G.out.2.size)
      have hge := h4.lower (b := w1.heap.size) G.out.2.size
      obtain ⟨a4, c4, e4⟩ := h4.slice
      rw [show (Wot.up (Wot.lvl j l)).length = q from HUP.out.2.1] at e4
      subst e4
      have H4 := Lib.hid (And.intro hge hb14)
      clear h4 hge hb4 hb14
      go_wp2
      refine ⟨⟨j + 1, by omega, H4.out.1, H4.out.2⟩, ?_⟩
      have := HUP.out.2.2
      show q < m
      exact this
    · obtain rfl : h = j := by omega
      have hm1 : m = 1 := by rw [hlj, Nat.sub_self]
      have i1 : ¬ (1 : Int) < 1 := by omega
      obtain ⟨g3, c3, e3, hr3⟩ := G.out.1.ex (by omega)
      rw [← hm, hm1] at e3 hr3
      subst e3
      obtain ⟨x, hx⟩ : ∃ x, (Wot.lvl h l)[0]? = some x := ⟨_, List.getElem?_eq_getElem (by omega)⟩
      have hxr : x = Wot.root h l := by rw [Wot.root_lvl, List.getD_eq_getElem?_getD, hx]; rfl
      have hxl : x.length = 32 := hr3.wf x (List.mem_of_getElem? hx)
      have k1 := hr3.read ecH hx
      have k2 : HasK 32 wr g3 (0 * 32) := hr3.there (by omega)
      rw [Nat.zero_mul] at k1 k2
      have hb04 := H1.out.1.trans (G.out.2.mono H1.out.1.size)
      have kz := H1.out.2.1.kept G.out.2
      have hpge := H1.out.2.2
      have hlen : (Wot.root h l).length = 32 := by rw [← hxr]; exact hxl
      rw [hxr] at k1
      clear hm hm1 hlj hxr hr3 hx hxl
      obtain ⟨hq1, hq2, hq3⟩ := hash_end (p := p2) (h := Wot.root h l) hlen kz
      obtain ⟨co, hco⟩ : ∃ q, q = bV (Wot.root h l) := ⟨_, rfl⟩
      rw [← hco] at hq2 hq3 k1
      try rw [← hco]
      have hcol : co.length = 32 := hq2.1
      have HLD := Lib.hid hq3
      have HM := Lib.hid (And.intro hco (hash_chg co hb04 hpge))
      clear hco hq3
      go_wp2_with fail
      refine bodyPost_ret (v := .agg co.toArray) (by simp [results, Tryz.results33, asAddr, HLD.out]) rfl ⟨by rw [HM.out.1], HM.out.2⟩
set_option maxRecDepth 20000 in
set_option maxHeartbeats 4000000 in
theorem hprint_calls (sd : List UInt8) (h : Nat) (w : World) (hT : Tab w) (hs : sd.length = 16) (hh : h ≤ 4) :
    Calls Tryz.prog 8 #[.agg (bV sd).toArray, .int .i64 h] w fun e w' => e = .returned (.agg (bV (Wot.print sd h)).toArray) ∧ Below w.heap.size w w' := by
  have HT := Lib.hid hT
  clear hT
  have hlv := fun w1 (hb : Below w.heap.size w w1) => hleaves_calls sd h w1 (HT.out.below hb) hs hh
  obtain ⟨cs, hcs⟩ : ∃ c, c = bV sd := ⟨_, rfl⟩
  have hcl : cs.length = 16 := by rw [hcs, bV_len]; exact hs
  rw [← hcs] at hlv ⊢
  have HLV := Lib.hid hlv
  clear hcs hlv
  go_enter Tryz.func8, Tryz.ntmps8
  go_upto_region 1 with fail
  obtain ⟨w1, hw1⟩ : ∃ q, q = (w.alloc (.cells cs.toArray 23)).alloc (.cells #[Value.int IntKind.u8 0, Value.int IntKind.u8 0, Value.int IntKind.u8 0, Value.int IntKind.u8 0, Value.int IntKind.u8 0, Value.int IntKind.u8 0, Value.int IntKind.u8 0, Value.int IntKind.u8 0, Value.int IntKind.u8 0, Value.int IntKind.u8 0, Value.int IntKind.u8 0, Value.int IntKind.u8 0, Value.int IntKind.u8 0, Value.int IntKind.u8 0, Value.int IntKind.u8 0, Value.int IntKind.u8 0, Value.int IntKind.u8 0, Value.int IntKind.u8 0, Value.int IntKind.u8 0, Value.int IntKind.u8 0, Value.int IntKind.u8 0, Value.int IntKind.u8 0, Value.int IntKind.u8 0, Value.int IntKind.u8 0, Value.int IntKind.u8 0, Value.int IntKind.u8 0, Value.int IntKind.u8 0, Value.int IntKind.u8 0, Value.int IntKind.u8 0, Value.int IntKind.u8 0, Value.int IntKind.u8 0, Value.int IntKind.u8 0] 34) := ⟨_, rfl⟩
  obtain ⟨p1, hp1⟩ : ∃ q, q = w.heap.size := ⟨_, rfl⟩
  obtain ⟨p2, hp2⟩ : ∃ q, q = w.heap.size + 1 := ⟨_, rfl⟩
  have hb1 : Below w.heap.size w w1 := by rw [hw1]; exact ((Below.refl _ _).alloc (Nat.le_refl _) _).alloc (by simp) _
  have hk1 : Blk w1 p1 cs.toArray 23 := by rw [hw1, hp1]; exact (Blk.new _ _ _).alloc _
  have hk2 : Blk w1 p2 zH 34 := by rw [hw1, hp2]; exact Blk.new_at _ _ _ _ (by simp)
  rw [← hw1, ← hp2, ← hp1]
  have H1 := Lib.hid (And.intro hb1 (And.intro hk2 (And.intro (show w.heap.size ≤ p2 by omega) (And.intro (show p1 ≠ p2 by omega) (show w.heap.size ≤ p1 by omega)))))
  have HK := Lib.hid hk1
  have hpge := H1.out.2.2.1
  clear hw1 hp1 hp2 hb1 hk1 hk2
  have hs01 := H1.out.1.size
  have k1 : readK 16 w1 p1 0 = cs := blk_read HK.out hcl (fun k _ => by simp)
  have k2 : HasK 16 w1 p1 0 := blk_has HK.out (by simp [hcl])
  go_wp2_with fail
  refine (HLV.out w1 H1.out.1).mono ?_
  rintro e w2 ⟨lv, rfl, hlv, hb2⟩
  have hl0 := Wot.leaves_len sd (2 ^ h)
  have hw0 := leaves_len32 sd (2 ^ h)
  have hp0 : Wot.print sd h = Wot.tagged Wot.tPrint [Cod.be 1 h, Wot.root h (Wot.leaves sd (2 ^ h))] := rfl
  obtain ⟨ls, hls⟩ : ∃ ls, ls = Wot.leaves sd (2 ^ h) := ⟨_, rfl⟩
  rw [← hls] at hl0 hw0 hp0 hlv
  have HL := Lib.hid (And.intro hl0 (And.intro hw0 hp0))
  have hb02 := H1.out.1.trans (hb2.mono hs01)
  have hrt := hroot_calls lv _ _ h w2 (HT.out.below hb02) hlv hl0 hh
  obtain ⟨la, lc, rfl⟩ := hlv.slice
  obtain ⟨ln, hln⟩ : ∃ ln, ln = ls.length := ⟨_, rfl⟩
  rw [← hln] at hrt ⊢
  obtain ⟨r, hr⟩ : ∃ r, r = Wot.root h ls := ⟨_, rfl⟩
  rw [← hr] at hrt
  have hrl : r.length = 32 := by rw [hr]; exact root_len32 h ls hl0 hw0
  have HR := Lib.hid hr
  have HRT := Lib.hid (And.intro hrt hb2)
  clear hlv hrt hb2 hb02 k1 k2 hl0 hw0 hp0 hls hln hr
  go_wp2_with fail
  refine HRT.out.1.mono ?_
  rintro e w3 ⟨rfl, hb3⟩
  have hb13 := HRT.out.2.trans (hb3.mono HRT.out.2.size)
  have HB3 := Lib.hid hb13
  clear hb13
  go_wp2_with fail
  refine (hprinted_calls h r w3 (HT.out.below (H1.out.1.trans (HB3.out.mono hs01))) hh hrl).mono ?_
  rintro e w4 ⟨v4, rfl, h4, hb4⟩
  have H4 := Lib.hid (And.intro h4 (HB3.out.trans (hb4.mono HB3.out.size)))
  have hln : (Wot.text Wot.tPrint [Cod.be 1 h, r]).length ≤ 1000000 := by
    unfold Wot.text
    rw [List.length_append]
    have h1 : (Cod.net Wot.tPrint).length ≤ 100 := by
      rw [Cod.net_len, show Wot.tPrint.length = 5 from rfl, Lib.nDigits_small (by decide)]
      decide
    have h2 := nets_less [Cod.be 1 h, r] (fun x hx => by
      simp only [List.mem_cons, List.not_mem_nil, or_false] at hx
      rcases hx with rfl | rfl
      · rw [Cod.be_len]; decide
      · omega) (show 2 ≤ 100 by decide)
    omega
  clear h4 hb4
  go_wp2_with fail
  refine (refsum_calls v4 _ w4 H4.out.1.bys hln).mono ?_
  rintro e w5 ⟨rfl, hb5⟩
  have hpq : Sha.sum (Wot.text Wot.tPrint [Cod.be 1 h, r]) = Wot.print sd h := by
    rw [HL.out.2.2, ← HR.out]
    rfl
  rw [hpq]
  have hb15 : Below w1.heap.size w1 w5 := H4.out.2.trans (hb5.mono H4.out.2.size)
  have hb05 := H1.out.1.trans (hb15.mono hs01)
  have kz := H1.out.2.1.kept hb15
  have hlen : (Wot.print sd h).length = 32 := Wot.tagged_len _ _
  obtain ⟨hq1, hq2, hq3⟩ := hash_end (p := p2) (h := Wot.print sd h) hlen kz
  obtain ⟨co, hco⟩ : ∃ q, q = bV (Wot.print sd h) := ⟨_, rfl⟩
  rw [← hco] at hq2 hq3
  try rw [← hco]
  have hcol : co.length = 32 := hq2.1
  have HLD := Lib.hid hq3
  have HM := Lib.hid (And.intro hco (hash_chg co hb05 hpge))
  clear hco hq3
  go_wp2_with fail
  refine bodyPost_ret (v := .agg co.toArray) (by simp [results, Tryz.results8, asAddr, HLD.out]) rfl ⟨by rw [HM.out.1], HM.out.2⟩
end Go.Proofs.YtdlkghdfkjdajaaGreatDoor
end
section
namespace Go.Mem
open Go Go.RowKit Gf
def SomeK (n : Nat) (w : World) (g o : Nat) : Prop := ∀ j, j < n → (w.cell? ⟨g, o + j, none⟩).isSome = true
theorem someK_of {n : Nat} {w : World} {g o : Nat} {cs : List Value} (h : w.rangeAt g o cs) (hn : cs.length = n) : SomeK n w g o := fun j hj => by
  rw [h j (cs[j]'(by omega)) (List.getElem?_eq_getElem (by omega))]; rfl
theorem readS_range {n : Nat} {w : World} {g o : Nat} (h : SomeK n w g o) : w.rangeAt g o (readK n w g o) := fun j v hj => by
  have hjn : j < n := by
    rcases Nat.lt_or_ge j n with h | h
    · exact h
    · rw [List.getElem?_eq_none (by rw [readK_len]; exact h)] at hj; cases hj
  obtain ⟨u, hu⟩ := Option.isSome_iff_exists.1 (h j hjn)
  rw [hu]
  unfold readK at hj
  rw [List.getElem?_map, List.getElem?_range hjn] at hj
  simp only [Option.map_some, hu, Option.getD_some] at hj
  exact hj
theorem wp_loadS {P : Program} {n : Nat} {t : TypeId} {d : TypeDesc} (hu : P.underlying t = some d) (hd : d.isRow = true) (hi : (P.info? t).map (·.size) = some n) (dst : Option Tmp) (x : Operand) (ty : TypeId) (pos : String) (af : Array Edge) (gd : Option (Tmp × Bool)) (a : Act) (w : World) (K : Act → World → Prop) (Q : Exit → Act → World → Prop)
    (hp : ptrIs (a.eval x) = true) (ht : SomeK n w (ptrB (a.eval x)) (ptrO (a.eval x))) :
    Oper.wp P ⟨dst, .load t x, ty, pos, af, gd⟩ a w K Q = K (a.put dst (.agg (readK n w (ptrB (a.eval x)) (ptrO (a.eval x))).toArray)) w := by
  unfold Oper.wp execOp
  have e := ptr_of hp
  have hl := run_loadVar_mid (P := P) w (ptrB (a.eval x)) (ptrO (a.eval x)) t (readK n w (ptrB (a.eval x)) (ptrO (a.eval x))) d (readS_range ht) hu hd (by rw [hi, readK_len])
  simp only
  rw [e]
  simp only [ptrB_eq, ptrO_eq, Instr.loadAt, Instr.sureAddr, Sem.run_bind, Sem.run_pure, Result.andThen_ok, hl]
  rfl
end Go.Mem
end
