/- Texts of this proof, packed: RClimb, RVerify, KeyVer, KeysApartWalk, Ints, Open, OpenRows. -/
import Derived.Test.YtdlkghdfkjdajaaDoorPkA13
import Derived.Test.YtdlkghdfkjdajaaDoorPkA08
import Derived.Test.YtdlkghdfkjdajaaDoorPkA11
import Derived.Test.YtdlkghdfkjdajaaDoorPkA00
import Derived.WalkKit
import Derived.ProofKit
import Derived.ChangeOld
import Derived.Deep.Matrix
section
namespace Go.Proofs.YtdlkghdfkjdajaaDoor
open Go Go.RowKit Go.Mem Gf
set_option linter.unusedVariables false
set_option linter.unusedSimpArgs false
attribute [local go_sem ↓] Go.wp_at_zero Go.wp_at_succ
attribute [local go_sem ↓] load_hash store_hash slice_hash load_key16
attribute [local go_sem] ptrB_eq ptrO_eq ptrIs_eq aggL_eq aggIs_eq readK_drew hasK_drew readK_alloc_past hasK_alloc_past readK_alloc_in hasK_alloc_in setCells_alloc_at
theorem climb_snoc : ∀ (ps : List (List UInt8)) (i : Nat) (leaf x : List UInt8), Wot.climb i leaf (ps ++ [x]) = if (i / 2 ^ ps.length) % 2 = 0 then Wot.node (Wot.climb i leaf ps) x else Wot.node x (Wot.climb i leaf ps)
  | [], i, leaf, x => by
    rw [List.length_nil, Nat.pow_zero, Nat.div_one]
    rfl
  | p :: ps, i, leaf, x => by
    show Wot.climb (i / 2) (if i % 2 = 0 then Wot.node leaf p else Wot.node p leaf) (ps ++ [x]) = _
    rw [climb_snoc ps, Nat.div_div_eq_div_mul, List.length_cons, Nat.pow_succ, Nat.mul_comm 2]
    rfl
theorem climb_len : ∀ (ps : List (List UInt8)) (i : Nat) (leaf : List UInt8), leaf.length = 32 → (Wot.climb i leaf ps).length = 32
  | [], _, _, h => h
  | p :: ps, i, leaf, h => by
    refine climb_len ps (i / 2) _ ?_
    split
    · exact Wot.tagged_len _ _
    · exact Wot.tagged_len _ _
set_option maxRecDepth 20000 in
set_option maxHeartbeats 4000000 in
theorem hclimb_calls (h i : Nat) (leaf : List UInt8) (pv : Value) (pl : List (List UInt8)) (base : Nat) (w : World) (hT : Tab w) (hlf : leaf.length = 32) (hp : OwnG bV WfH 32 44 w base pv pl) (hpl : pl.length = h) (hh : h ≤ 4) (hi : i < 2 ^ h) :
    Calls Tryd.prog 28 #[.int .i64 ((2 ^ h : Nat) : Int), .int .i64 i, .agg (bV leaf).toArray, pv] w fun e w' => e = .returned (.tuple #[.agg (bV (Wot.climb i leaf pl)).toArray, .bool true]) ∧ Below w.heap.size w w' := by
  have HT := Lib.hid hT
  clear hT
  have hnb : 2 ^ h ≤ 16 := Nat.pow_le_pow_right (n := 2) (by decide) hh
  have hsh : ∀ k, k ≤ h → IntKind.i64.wrap (2 ^ k) = ((2 ^ k : Nat) : Int) := fun k hk => by
    have h1 : 2 ^ k ≤ 16 := Nat.pow_le_pow_right (n := 2) (by decide) (Nat.le_trans hk hh)
    have : ((2 : Int) ^ k) = ((2 ^ k : Nat) : Int) := by simp
    rw [this]
    generalize 2 ^ k = z at h1 ⊢
    exact IntWalk.i64_in _ (by omega)
  have hmono : ∀ k, k < h → 2 ^ k < 2 ^ h := fun k hk => Nat.pow_lt_pow_right (by decide) hk
  have hpd := fun w1 => hpad_calls h (by omega) w1
  obtain ⟨n, hn⟩ : ∃ n, n = 2 ^ h := ⟨_, rfl⟩
  rw [← hn] at hnb hmono hpd hi ⊢
  have l0 : ¬ (i : Int) < 0 := by omega
  have l1 : ¬ (n : Int) ≤ (i : Int) := by omega
  have l2 : ¬ 256 < (n : Int) := by omega
  have lb0 : decide ((i : Int) < 0) = false := decide_eq_false l0
  have lb1 : decide ((n : Int) ≤ (i : Int)) = false := decide_eq_false l1
  have lb2 : decide (256 < (n : Int)) = false := decide_eq_false l2
  have hi16 : i < 16 := by omega
  obtain ⟨va, vc, rfl⟩ := hp.slice
  rw [hpl] at hp ⊢
  have HN := Lib.hid (And.intro hn (And.intro hsh (And.intro hmono (And.intro hpd (And.intro hp (And.intro hpl (And.intro hlf (And.intro hi hnb))))))))
  obtain ⟨cs, hcs⟩ : ∃ c, c = bV leaf := ⟨_, rfl⟩
  have hcl : cs.length = 32 := by rw [hcs, bV_len]; exact hlf
  have HCS := Lib.hid hcs
  rw [← hcs]
  clear hcs hn hsh hmono hpd hp hpl hi hnb
  go_enter Tryd.func28, Tryd.ntmps28
  go_upto_region 1 with fail
  obtain ⟨w1, hw1⟩ : ∃ q, q = (w.alloc (.cells cs.toArray 44)).alloc (.cells #[Value.int IntKind.u8 0, Value.int IntKind.u8 0, Value.int IntKind.u8 0, Value.int IntKind.u8 0, Value.int IntKind.u8 0, Value.int IntKind.u8 0, Value.int IntKind.u8 0, Value.int IntKind.u8 0, Value.int IntKind.u8 0, Value.int IntKind.u8 0, Value.int IntKind.u8 0, Value.int IntKind.u8 0, Value.int IntKind.u8 0, Value.int IntKind.u8 0, Value.int IntKind.u8 0, Value.int IntKind.u8 0, Value.int IntKind.u8 0, Value.int IntKind.u8 0, Value.int IntKind.u8 0, Value.int IntKind.u8 0, Value.int IntKind.u8 0, Value.int IntKind.u8 0, Value.int IntKind.u8 0, Value.int IntKind.u8 0, Value.int IntKind.u8 0, Value.int IntKind.u8 0, Value.int IntKind.u8 0, Value.int IntKind.u8 0, Value.int IntKind.u8 0, Value.int IntKind.u8 0, Value.int IntKind.u8 0, Value.int IntKind.u8 0] 44) := ⟨_, rfl⟩
  obtain ⟨p1, hp1⟩ : ∃ q, q = w.heap.size := ⟨_, rfl⟩
  obtain ⟨p2, hp2⟩ : ∃ q, q = w.heap.size + 1 := ⟨_, rfl⟩
  have hb1 : Below w.heap.size w w1 := by rw [hw1]; exact ((Below.refl _ _).alloc (Nat.le_refl _) _).alloc (by simp) _
  have hk1 : Blk w1 p1 cs.toArray 44 := by rw [hw1, hp1]; exact (Blk.new _ _ _).alloc _
  have hk2 : Blk w1 p2 zH 44 := by rw [hw1, hp2]; exact Blk.new_at _ _ _ _ (by simp)
  rw [← hw1, ← hp2, ← hp1]
  have H1 := Lib.hid (And.intro hb1 (And.intro hk2 (And.intro (show w.heap.size ≤ p2 by omega) (And.intro (show p1 ≠ p2 by omega) (show w.heap.size ≤ p1 by omega)))))
  have HK := Lib.hid hk1
  have hpge := H1.out.2.2.1
  clear hw1 hp1 hp2 hb1 hk1 hk2
  go_wp2_with fail
  go_loopw [10] (fun u wr => ∃ k : Nat, k ≤ h ∧ u = .int .i64 k ∧ w1 = wr) (fun u _ => h - (intOf u).toNat)
  case atStart => exact ⟨0, by omega, rfl, rfl⟩
  case round =>
    obtain ⟨k, hk, rfl, rfl⟩ := hrel
    have hshk := HN.out.2.1 k hk
    by_cases h0 : k < h
    · have hm := HN.out.2.2.1 k h0
      obtain ⟨p, hp⟩ : ∃ p, p = 2 ^ k := ⟨_, rfl⟩
      rw [← hp] at hshk hm
      have i1 : (p : Int) < (n : Int) := by omega
      clear hp hm
      go_wp2_with fail
      refine (HN.out.2.2.2.1 _).mono ?_
      rintro e _ ⟨rfl, rfl⟩
      go_wp2
      refine ⟨⟨k + 1, by omega, by go_num, trivial⟩, by simp [intOf]; omega⟩
    · obtain rfl : h = k := by omega
      rw [← HN.out.1] at hshk
      have i1 : ¬ (n : Int) < (n : Int) := by omega
      have g0 : ((h : Int) != (h : Int)) = false := by simp
      have g1 : (h != h) = false := by simp
      go_wp2_with fail
      refine (HN.out.2.2.2.1 _).mono ?_
      rintro e _ ⟨rfl, rfl⟩
      go_wp2_with fail
      clear l0 l1 l2 lb0 lb1 lb2 hshk
      go_loopw [39, 1] (fun vk vi wr => ∃ k : Nat, k ≤ h ∧ vk = .int .i64 k ∧ vi = .int .i64 ((i / 2 ^ k : Nat) : Int) ∧ Hid (Below w.heap.size w wr ∧ Blk wr p1 (bV (Wot.climb i leaf (pl.take k))).toArray 44 ∧ Blk wr p2 zH 44)) (fun vk _ _ => h - (intOf vk).toNat)
      case atStart => exact ⟨0, Nat.zero_le _, rfl, by rw [Nat.pow_zero, Nat.div_one], H1.out.1, (by have := HK.out; rw [HCS.out] at this; exact this), H1.out.2.1⟩
      case round =>
        obtain ⟨k, hk, rfl, rfl, G⟩ := hrel
        obtain ⟨ci, hci⟩ : ∃ c, c = bV (Wot.climb i leaf (pl.take k)) := ⟨_, rfl⟩
        have hcil : ci.length = 32 := by rw [hci, bV_len]; exact climb_len _ _ _ HN.out.2.2.2.2.2.2.1
        have HCI := Lib.hid hci
        have hkb := G.out.2.1
        rw [← hci] at hkb
        have HKI := Lib.hid hkb
        clear hci hkb
        by_cases hkh : k < h
        · have j0 : (0 : Int) ≤ (k : Int) := by omega
          have j1 : (k : Int) < (h : Int) := by omega
          obtain ⟨q, hq⟩ : ∃ q, q = i / 2 ^ k := ⟨_, rfl⟩
          have hq16 : q < 16 := by rw [hq]; exact Nat.lt_of_le_of_lt (Nat.div_le_self _ _) hi16
          rw [← hq]
          have hvr := HN.out.2.2.2.2.1.chg (S := fun _ => False) (Chg.of_below G.out.1) (fun _ _ => id)
          obtain ⟨g, cap, e, hrow⟩ := hvr.ex (by have := HN.out.2.2.2.2.2.1; omega)
          rw [HN.out.2.2.2.2.2.1] at e hrow
          injection e with e1 e2 e3
          subst e1 e3
          obtain ⟨x, hx⟩ : ∃ x, pl[k]? = some x := ⟨_, List.getElem?_eq_getElem (by have := HN.out.2.2.2.2.2.1; omega)⟩
          have hxl : x.length = 32 := hrow.wf x (List.mem_of_getElem? hx)
          obtain ⟨cx, hcx⟩ : ∃ c, c = bV x := ⟨_, rfl⟩
          have cxl : cx.length = 32 := by rw [hcx, bV_len]; exact hxl
          have cil := hcil
          obtain ⟨qh, hqh⟩ : ∃ x, x = q / 2 := ⟨_, rfl⟩
          have hd2 : (q : Int).tdiv 2 = (qh : Int) := by rw [Int.tdiv_eq_ediv_of_nonneg (by omega)]; omega
          have q2 : IntKind.i64.wrap (qh : Int) = (qh : Int) := IntWalk.i64_in _ (by omega)
          have hsn := climb_snoc (pl.take k) i leaf x
          rw [List.length_take, Nat.min_eq_left (by have := HN.out.2.2.2.2.2.1; omega), ← hq, show pl.take k ++ [x] = pl.take (k + 1) from by rw [List.take_add_one, hx]; rfl] at hsn
          have hrg := fun w' (hb : Below wr.heap.size wr w') => (hrow.chg (S := fun _ => False) (Chg.of_below hb) id).range ecH hx
          rw [← hcx] at hrg
          have HX := Lib.hid (And.intro hrg (And.intro hx (And.intro hxl (And.intro hcx (And.intro hq (And.intro hqh hsn))))))
          clear hx hxl hcx hq hqh hsn hrg hrow hvr
          by_cases hev : q % 2 = 0
          · have hm2 : (q : Int).tmod 2 = 0 := by rw [Int.tmod_eq_emod_of_nonneg (by omega)]; omega
            have hnd := fun w1 (hb : Below wr.heap.size wr w1) => hnode_calls (Wot.climb i leaf (pl.take k)) x w1 (HT.out.below (G.out.1.trans (hb.mono G.out.1.size))) (climb_len _ _ _ HN.out.2.2.2.2.2.2.1) HX.out.2.2.1
            rw [← HCI.out, ← HX.out.2.2.2.1] at hnd
            have hsn := HX.out.2.2.2.2.2.2
            rw [if_pos hev] at hsn
            rw [← hsn] at hnd
            have HND := Lib.hid hnd
            clear hnd hsn hev
            go_upto_region 12 with fail
            refine Tail.wp_region_J 5 (fun k => false) (fun k => none)
              (fun D z w' => Below wr.heap.size wr w')
              (by kernel_rfl) (by kernel_rfl) (fun k hk => by cases hk) (fun D z z' w' hz h => h)
              ((Below.refl _ _).drew) (fun z => ?_)
            simp only [List.take_succ_cons, List.take_zero, List.drop_succ_cons, List.drop_zero]
            refine Tail.J_load (by rfl) (by rfl) _ _ rfl p1 0 (by rfl) ci (fun D w' _ _ hJ => blk_range (HKI.out.kept hJ)) Tryd.underlying44 rfl (by rw [cil]; exact i32h) ?_
            simp only [Act.put, List.setIfInBounds_toArray, List.set_cons_zero, List.set_cons_succ, Nat.reduceAdd, Nat.reduceEqDiff, reduceIte, Option.getD_some, Option.getD_none]
            refine Tail.J_ex (by rfl) (by rfl) ?_
            apply Exists.intro
            refine ⟨fun w => ?_, ?_⟩
            · go_simp <;> with_reducible rfl
            simp only [Act.put, List.setIfInBounds_toArray, List.set_cons_zero, List.set_cons_succ, Nat.reduceAdd, Nat.reduceEqDiff, reduceIte, Option.getD_some, Option.getD_none]
            refine Tail.J_ex (by rfl) (by rfl) ?_
            apply Exists.intro
            refine ⟨fun w => ?_, ?_⟩
            · go_simp <;> with_reducible rfl
            simp only [Act.put, List.setIfInBounds_toArray, List.set_cons_zero, List.set_cons_succ, Nat.reduceAdd, Nat.reduceEqDiff, reduceIte, Option.getD_some, Option.getD_none]
            refine Tail.J_ex (by rfl) (by rfl) ?_
            apply Exists.intro
            refine ⟨fun w => ?_, ?_⟩
            · go_simp <;> with_reducible rfl
            simp only [Act.put, List.setIfInBounds_toArray, List.set_cons_zero, List.set_cons_succ, Nat.reduceAdd, Nat.reduceEqDiff, reduceIte, Option.getD_some, Option.getD_none]
            refine Tail.J_load (by rfl) (by rfl) _ _ rfl g (k * 32) (by rfl) cx (fun D w' _ _ hJ => HX.out.1 w' hJ) Tryd.underlying44 rfl (by rw [cxl]; exact i32h) ?_
            simp only [Act.put, List.setIfInBounds_toArray, List.set_cons_zero, List.set_cons_succ, Nat.reduceAdd, Nat.reduceEqDiff, reduceIte, Option.getD_some, Option.getD_none]
            intro w5 hb5
            clear z
            go_wp2_with fail
            refine (HND.out w5 hb5).mono ?_
            rintro e w6 ⟨rfl, hb6⟩
            have hb56 := hb5.trans (hb6.mono hb5.size)
            obtain ⟨co, hco⟩ : ∃ q, q = bV (Wot.climb i leaf (pl.take (k + 1))) := ⟨_, rfl⟩
            rw [← hco]
            have hcol : co.length = 32 := by rw [hco, bV_len]; exact climb_len _ _ _ HN.out.2.2.2.2.2.2.1
            have hca : AllK 32 co := ⟨hcol, fun v hv => by rw [hco] at hv; exact bV_one _ v hv⟩
            have hk6 := HKI.out.kept hb56
            have q3 : HasK 32 w6 p1 0 := blk_has hk6 (by simp [hcil])
            have H6 := Lib.hid (And.intro (G.out.1.trans (hb56.mono G.out.1.size)) (And.intro hk6 (And.intro (G.out.2.2.kept hb56) hco)))
            clear hb5 hb6 hb56 hk6 hco
            go_wp2
            refine ⟨⟨k + 1, by omega, by go_num, ?_, ?_⟩, by simp [intOf]; omega⟩
            · rw [HX.out.2.2.2.2.2.1, HX.out.2.2.2.2.1, Nat.pow_succ, Nat.div_div_eq_div_mul]
            · exact ⟨hash_chg co H6.out.1 H1.out.2.2.2.2, by rw [← H6.out.2.2.2]; exact blk_over H6.out.2.1 hcil hcol, Blk.setCells_other (fun e => H1.out.2.2.2.1 e.symm) co 0 _ H6.out.2.2.1⟩
          · have hm2 : (q : Int).tmod 2 = 1 := by rw [Int.tmod_eq_emod_of_nonneg (by omega)]; omega
            have hnd := fun w1 (hb : Below wr.heap.size wr w1) => hnode_calls x (Wot.climb i leaf (pl.take k)) w1 (HT.out.below (G.out.1.trans (hb.mono G.out.1.size))) HX.out.2.2.1 (climb_len _ _ _ HN.out.2.2.2.2.2.2.1)
            rw [← HCI.out, ← HX.out.2.2.2.1] at hnd
            have hsn := HX.out.2.2.2.2.2.2
            rw [if_neg hev] at hsn
            rw [← hsn] at hnd
            have HND := Lib.hid hnd
            clear hnd hsn hev
            go_upto_region 13 with fail
            refine Tail.wp_region_J 5 (fun k => false) (fun k => none)
              (fun D z w' => Below wr.heap.size wr w')
              (by kernel_rfl) (by kernel_rfl) (fun k hk => by cases hk) (fun D z z' w' hz h => h)
              ((Below.refl _ _).drew) (fun z => ?_)
            simp only [List.take_succ_cons, List.take_zero, List.drop_succ_cons, List.drop_zero]
            refine Tail.J_ex (by rfl) (by rfl) ?_
            apply Exists.intro
            refine ⟨fun w => ?_, ?_⟩
            · go_simp <;> with_reducible rfl
            simp only [Act.put, List.setIfInBounds_toArray, List.set_cons_zero, List.set_cons_succ, Nat.reduceAdd, Nat.reduceEqDiff, reduceIte, Option.getD_some, Option.getD_none]
            refine Tail.J_ex (by rfl) (by rfl) ?_
            apply Exists.intro
            refine ⟨fun w => ?_, ?_⟩
            · go_simp <;> with_reducible rfl
            simp only [Act.put, List.setIfInBounds_toArray, List.set_cons_zero, List.set_cons_succ, Nat.reduceAdd, Nat.reduceEqDiff, reduceIte, Option.getD_some, Option.getD_none]
            refine Tail.J_ex (by rfl) (by rfl) ?_
            apply Exists.intro
            refine ⟨fun w => ?_, ?_⟩
            · go_simp <;> with_reducible rfl
            simp only [Act.put, List.setIfInBounds_toArray, List.set_cons_zero, List.set_cons_succ, Nat.reduceAdd, Nat.reduceEqDiff, reduceIte, Option.getD_some, Option.getD_none]
            refine Tail.J_load (by rfl) (by rfl) _ _ rfl g (k * 32) (by rfl) cx (fun D w' _ _ hJ => HX.out.1 w' hJ) Tryd.underlying44 rfl (by rw [cxl]; exact i32h) ?_
            simp only [Act.put, List.setIfInBounds_toArray, List.set_cons_zero, List.set_cons_succ, Nat.reduceAdd, Nat.reduceEqDiff, reduceIte, Option.getD_some, Option.getD_none]
            refine Tail.J_load (by rfl) (by rfl) _ _ rfl p1 0 (by rfl) ci (fun D w' _ _ hJ => blk_range (HKI.out.kept hJ)) Tryd.underlying44 rfl (by rw [cil]; exact i32h) ?_
            simp only [Act.put, List.setIfInBounds_toArray, List.set_cons_zero, List.set_cons_succ, Nat.reduceAdd, Nat.reduceEqDiff, reduceIte, Option.getD_some, Option.getD_none]
            intro w5 hb5
            clear z
            go_wp2_with fail
            refine (HND.out w5 hb5).mono ?_
            rintro e w6 ⟨rfl, hb6⟩
            have hb56 := hb5.trans (hb6.mono hb5.size)
            obtain ⟨co, hco⟩ : ∃ q, q = bV (Wot.climb i leaf (pl.take (k + 1))) := ⟨_, rfl⟩
            rw [← hco]
            have hcol : co.length = 32 := by rw [hco, bV_len]; exact climb_len _ _ _ HN.out.2.2.2.2.2.2.1
            have hca : AllK 32 co := ⟨hcol, fun v hv => by rw [hco] at hv; exact bV_one _ v hv⟩
            have hk6 := HKI.out.kept hb56
            have q3 : HasK 32 w6 p1 0 := blk_has hk6 (by simp [hcil])
            have H6 := Lib.hid (And.intro (G.out.1.trans (hb56.mono G.out.1.size)) (And.intro hk6 (And.intro (G.out.2.2.kept hb56) hco)))
            clear hb5 hb6 hb56 hk6 hco
            go_wp2
            refine ⟨⟨k + 1, by omega, by go_num, ?_, ?_⟩, by simp [intOf]; omega⟩
            · rw [HX.out.2.2.2.2.2.1, HX.out.2.2.2.2.1, Nat.pow_succ, Nat.div_div_eq_div_mul]
            · exact ⟨hash_chg co H6.out.1 H1.out.2.2.2.2, by rw [← H6.out.2.2.2]; exact blk_over H6.out.2.1 hcil hcol, Blk.setCells_other (fun e => H1.out.2.2.2.1 e.symm) co 0 _ H6.out.2.2.1⟩
        · have j1 : ¬ (k : Int) < (h : Int) := by omega
          obtain rfl : h = k := by omega
          have htk : pl.take h = pl := List.take_of_length_le (by have := HN.out.2.2.2.2.2.1; omega)
          have hb04 := G.out.1
          have kz := G.out.2.2
          have hlen := climb_len pl i leaf HN.out.2.2.2.2.2.2.1
          have k1 : readK 32 wr p1 0 = ci := blk_read HKI.out hcil (fun k _ => by simp)
          have k2 : HasK 32 wr p1 0 := blk_has HKI.out (by simp [hcil])
          rw [HCI.out, htk] at k1
          clear HCI
          obtain ⟨hq1, hq2, hq3⟩ := hash_end (p := p2) (h := Wot.climb i leaf pl) hlen kz
          obtain ⟨co, hco⟩ : ∃ q, q = bV (Wot.climb i leaf pl) := ⟨_, rfl⟩
          rw [← hco] at hq2 hq3 k1
          try rw [← hco]
          have hcol : co.length = 32 := hq2.1
          have HLD := Lib.hid hq3
          have HM := Lib.hid (And.intro hco (hash_chg co hb04 hpge))
          clear hco hq3
          go_wp2_with fail
          refine bodyPost_ret (v := .tuple #[.agg co.toArray, .bool true]) (by simp [results, Tryd.results28, asAddr, HLD.out]) rfl ⟨by rw [HM.out.1], HM.out.2⟩
end Go.Proofs.YtdlkghdfkjdajaaDoor
end
section
namespace Go.Proofs.YtdlkghdfkjdajaaDoor
open Go Go.RowKit Go.Mem Gf
set_option linter.unusedVariables false
set_option linter.unusedSimpArgs false
attribute [local go_sem ↓] Go.wp_at_zero Go.wp_at_succ
attribute [local go_sem ↓] load_hash store_hash slice_hash load_key16 store_sig
attribute [local go_sem] ptrB_eq ptrO_eq ptrIs_eq aggL_eq aggIs_eq readK_drew hasK_drew readK_alloc_past hasK_alloc_past readK_alloc_in hasK_alloc_in setCells_alloc_at
theorem eq_hash32 (xs : List UInt8) (w : World) (hx : xs.length = 32) : (Op.equalIn 10000 44 (.agg (bV xs).toArray) (.agg (bV xs).toArray)).run Tryd.prog w = .ok true w := by
  have := run_eq_bytes (P := Tryd.prog) w 9998 32 Tryd.underlying44 (Option.some_get (by kernel_rfl)).symm (by kernel_rfl) (by kernel_rfl) xs xs hx hx
  rw [decide_eq_true rfl] at this
  exact this
theorem sig_cells {w : World} {b : Nat} {x0 x1 x2 x3 : Value} {t : TypeId} (h : Blk w b #[x0, x1, x2, x3] t) : w.cell? ⟨b, 0, none⟩ = some x0 ∧ w.cell? ⟨b, 1, none⟩ = some x1 ∧ w.cell? ⟨b, 2, none⟩ = some x2 ∧ w.cell? ⟨b, 3, none⟩ = some x3 :=
  ⟨by rw [h.cell]; rfl, by rw [h.cell]; rfl, by rw [h.cell]; rfl, by rw [h.cell]; rfl⟩
set_option maxRecDepth 20000 in
set_option maxHeartbeats 4000000 in
theorem hverify_calls (h i : Nat) (fp : List UInt8) (v vv pv : Value) (m : List UInt8) (vl pl : List (List UInt8)) (base : Nat) (w : World) (hT : Tab w) (hfl : fp.length = 32) (hv : Bys w v m) (hm : m.length ≤ 1000) (hvv : OwnG bV WfH 32 44 w base vv vl) (hvl : vl.length = 67) (hpv : OwnG bV WfH 32 44 w base pv pl) (hpl : pl.length = h) (hh : h ≤ 4) (hi : i < 2 ^ h)
    (hfp : Wot.printOf h (Wot.climb i (Wot.publicOf (Wot.endsOf (Wot.digits m) vl 67)) pl) = fp) :
    Calls Tryd.prog 10 #[.agg (bV fp).toArray, v, .agg #[.int .i64 h, .int .i64 i, vv, pv]] w fun e w' => e = .returned (.bool true) ∧ Below w.heap.size w w' := by
  have hrc := fun w1 (hb : Below w.heap.size w w1) => hrecover_calls v vv m vl base w1 (hT.below hb) (hv.below hb) hm (hvv.chg (S := fun _ => False) (Chg.of_below hb) (fun _ _ => id)) hvl
  obtain ⟨lf, hlf⟩ : ∃ x, x = Wot.publicOf (Wot.endsOf (Wot.digits m) vl 67) := ⟨_, rfl⟩
  have hlfl : lf.length = 32 := by rw [hlf]; exact Wot.tagged_len _ _
  rw [← hlf] at hrc hfp
  have hcm := fun w1 (hb : Below w.heap.size w w1) => hclimb_calls h i lf pv pl base w1 (hT.below hb) hlfl (hpv.chg (S := fun _ => False) (Chg.of_below hb) (fun _ _ => id)) hpl hh hi
  obtain ⟨r, hr⟩ : ∃ x, x = Wot.climb i lf pl := ⟨_, rfl⟩
  have hrl : r.length = 32 := by rw [hr]; exact climb_len _ _ _ hlfl
  rw [← hr] at hcm hfp
  have hnb : 2 ^ h ≤ 16 := Nat.pow_le_pow_right (n := 2) (by decide) hh
  have hsh : IntKind.i64.wrap (2 ^ h) = ((2 ^ h : Nat) : Int) := by
    have : ((2 : Int) ^ h) = ((2 ^ h : Nat) : Int) := by simp
    rw [this]
    generalize 2 ^ h = z at hnb ⊢
    exact IntWalk.i64_in _ (by omega)
  obtain ⟨n, hn⟩ : ∃ n, n = 2 ^ h := ⟨_, rfl⟩
  rw [← hn] at hsh hcm
  have h0' : ¬ (h : Int) < 0 := by omega
  have h1' : ¬ 4 < (h : Int) := by omega
  have hb0 : decide ((h : Int) < 0) = false := decide_eq_false h0'
  have hb1 : decide (4 < (h : Int)) = false := decide_eq_false h1'
  obtain ⟨mva, mvc, rfl⟩ := hv.eq_slice
  obtain ⟨va, vc, rfl⟩ := hvv.slice
  obtain ⟨pa, pc, rfl⟩ := hpv.slice
  obtain ⟨mn, hmn⟩ : ∃ n, n = m.length := ⟨_, rfl⟩
  rw [← hmn, hvl] at hrc
  rw [hpl] at hcm
  rw [← hmn, hvl, hpl]
  obtain ⟨cf, hcf⟩ : ∃ c, c = bV fp := ⟨_, rfl⟩
  have cfl : cf.length = 32 := by rw [hcf, bV_len]; exact hfl
  obtain ⟨cr, hcr⟩ : ∃ c, c = bV r := ⟨_, rfl⟩
  have crl : cr.length = 32 := by rw [hcr, bV_len]; exact hrl
  obtain ⟨cl, hcl⟩ : ∃ c, c = bV lf := ⟨_, rfl⟩
  have cll : cl.length = 32 := by rw [hcl, bV_len]; exact hlfl
  have hpt := fun w1 (hb : Below w.heap.size w w1) => hprinted_calls h r w1 (hT.below hb) hh hrl
  have heq := fun w1 => eq_hash32 fp w1 hfl
  rw [← hcr] at hpt hcm
  rw [← hcl] at hrc hcm
  rw [← hcf] at heq
  rw [← hcf]
  have hcaf : AllK 32 cf := ⟨cfl, fun v hv => by rw [hcf] at hv; exact bV_one _ v hv⟩
  have hcar : AllK 32 cr := ⟨crl, fun v hv => by rw [hcr] at hv; exact bV_one _ v hv⟩
  have hcal : AllK 32 cl := ⟨cll, fun v hv => by rw [hcl] at hv; exact bV_one _ v hv⟩
  have H := Lib.hid (And.intro hrc (And.intro hcm (And.intro hpt (And.intro hfp (And.intro hcf (And.intro hrl heq))))))
  clear hrc hcm hpt hfp hcf hcr hcl hlf hr hn hT hv hvv hpv hvl hpl hmn hlfl hrl hfl hnb heq
  go_enter Tryd.func10, Tryd.ntmps10
  go_upto_region 1 with fail
  obtain ⟨w1, hw1⟩ : ∃ q, q = (w.alloc (.cells cf.toArray 44)).alloc (.cells #[.int .i64 h, .int .i64 i, .slice va 67 vc, .slice pa h pc] 39) := ⟨_, rfl⟩
  obtain ⟨p1, hp1⟩ : ∃ q, q = w.heap.size := ⟨_, rfl⟩
  obtain ⟨p2, hp2⟩ : ∃ q, q = w.heap.size + 1 := ⟨_, rfl⟩
  have hbw1 : Below w.heap.size w w1 := by rw [hw1]; exact ((Below.refl _ _).alloc (Nat.le_refl _) _).alloc (by simp) _
  have hk1 : Blk w1 p1 cf.toArray 44 := by rw [hw1, hp1]; exact (Blk.new _ _ _).alloc _
  have hk2 : Blk w1 p2 #[.int .i64 h, .int .i64 i, .slice va 67 vc, .slice pa h pc] 39 := by rw [hw1, hp2]; exact Blk.new_at _ _ _ _ (by simp)
  rw [← hw1, ← hp2, ← hp1]
  have H1 := Lib.hid (And.intro hbw1 (And.intro hk1 hk2))
  obtain ⟨c0, c1, c2, c3⟩ := sig_cells hk2
  clear hw1 hp1 hp2 hbw1 hk1 hk2
  go_wp2_with fail
  refine (H.out.1 w1 H1.out.1).mono ?_
  rintro e w2 ⟨rfl, hb2⟩
  go_upto_region 4 with fail
  obtain ⟨w3, hw3⟩ : ∃ q, q = w2.alloc (.cells cl.toArray 44) := ⟨_, rfl⟩
  obtain ⟨p7, hp7⟩ : ∃ q, q = w2.heap.size := ⟨_, rfl⟩
  have hk7 : Blk w3 p7 cl.toArray 44 := by rw [hw3, hp7]; exact Blk.new _ _ _
  have hb3 : Below w1.heap.size w1 w3 := by rw [hw3]; exact hb2.alloc hb2.size _
  rw [← hw3, ← hp7]
  have H3 := Lib.hid (And.intro (H1.out.1.trans (hb3.mono H1.out.1.size)) (And.intro (H1.out.2.1.kept hb3) (H1.out.2.2.kept hb3)))
  have k7 : readK 32 w3 p7 0 = cl := blk_read hk7 cll (fun k _ => by simp)
  have k7' : HasK 32 w3 p7 0 := blk_has hk7 (by simp [cll])
  clear hw3 hp7 hk7 hb3 hb2 c0 c1 c2 c3
  obtain ⟨c0, c1, c2, c3⟩ := sig_cells H3.out.2.2
  go_wp2_with fail
  refine (H.out.2.1 w3 H3.out.1).mono ?_
  rintro e w4 ⟨rfl, hb4⟩
  go_upto_region 7 with fail
  obtain ⟨w6, hw6⟩ : ∃ q, q = w4.alloc (.cells cr.toArray 44) := ⟨_, rfl⟩
  obtain ⟨p9, hp9⟩ : ∃ q, q = w4.heap.size := ⟨_, rfl⟩
  have hk9 : Blk w6 p9 cr.toArray 44 := by rw [hw6, hp9]; exact Blk.new _ _ _
  have hb6 : Below w3.heap.size w3 w6 := by rw [hw6]; exact hb4.alloc hb4.size _
  rw [← hw6, ← hp9]
  have hb06 := H3.out.1.trans (hb6.mono H3.out.1.size)
  have hln : (Wot.text Wot.tPrint [Cod.be 1 h, r]).length ≤ 1000000 := by
    unfold Wot.text
    rw [List.length_append]
    have h1 : (Cod.net Wot.tPrint).length ≤ 100 := by
      rw [Cod.net_len, show Wot.tPrint.length = 5 from rfl, Lib.nDigits_small (by decide)]
      decide
    have h2 := nets_less [Cod.be 1 h, r] (fun x hx => by
      simp only [List.mem_cons, List.not_mem_nil, or_false] at hx
      rcases hx with rfl | rfl
      · rw [Cod.be_len]; decide
      · have := H.out.2.2.2.2.2.1; omega) (show 2 ≤ 100 by decide)
    omega
  have hsum : bV (Sha.sum (Wot.text Wot.tPrint [Cod.be 1 h, r])) = cf := by rw [H.out.2.2.2.2.1, ← H.out.2.2.2.1]; rfl
  have HS := Lib.hid (And.intro (fun w' (hb : Below w6.heap.size w6 w') => (sig_cells ((H3.out.2.2.kept hb6).kept hb)).1) (And.intro hk9 (And.intro (H3.out.2.1.kept hb6) (And.intro (fun w' (hb : Below w6.heap.size w6 w') => H.out.2.2.1 w' (hb06.trans (hb.mono hb06.size))) (And.intro hln hsum)))))
  have HB := Lib.hid hb06
  have heq := H.out.2.2.2.2.2.2
  clear hw6 hp9 hk9 hb6 hb4 hb06 hln hsum c0 c1 c2 c3 k7 k7'
  refine Tail.wp_region_J 10 (fun k => k == 5 || k == 6) (fun k => if k = 6 then some (.agg cf.toArray) else none)
    (fun D z w' => Below w6.heap.size w6 w' ∧ (D 5 = true → OwnX 5 w' w6.heap.size (z 5) (Wot.text Wot.tPrint [Cod.be 1 h, r])))
    (by kernel_rfl) (by kernel_rfl) (fun k hk => by simp at hk; omega) (fun D z z' w' hz h => ⟨h.1, fun d => by rw [← hz 5 d]; exact h.2 d⟩)
    (⟨(Below.refl _ _).drew, (fun h => by cases h)⟩) (fun z => ?_)
  simp only [List.take_succ_cons, List.take_zero, List.drop_succ_cons, List.drop_zero]
  refine Tail.J_ex (by rfl) (by rfl) ?_
  apply Exists.intro
  refine ⟨fun w => ?_, ?_⟩
  · go_simp <;> with_reducible rfl
  simp only [Act.put, List.setIfInBounds_toArray, List.set_cons_zero, List.set_cons_succ, Nat.reduceAdd, Nat.reduceEqDiff, reduceIte, Option.getD_some, Option.getD_none]
  refine Tail.J_ex (by rfl) (by rfl) ?_
  apply Exists.intro
  refine ⟨fun w => ?_, ?_⟩
  · go_simp <;> with_reducible rfl
  simp only [Act.put, List.setIfInBounds_toArray, List.set_cons_zero, List.set_cons_succ, Nat.reduceAdd, Nat.reduceEqDiff, reduceIte, Option.getD_some, Option.getD_none]
  refine Tail.J_ex (by rfl) (by rfl) ?_
  apply Exists.intro
  refine ⟨fun w => ?_, ?_⟩
  · go_simp <;> with_reducible rfl
  simp only [Act.put, List.setIfInBounds_toArray, List.set_cons_zero, List.set_cons_succ, Nat.reduceAdd, Nat.reduceEqDiff, reduceIte, Option.getD_some, Option.getD_none]
  refine Tail.J_at (by rfl) (by rfl) ?_
  apply Exists.intro
  refine ⟨fun D w' hd hp hJ => ?_, ?_⟩
  · have cc := HS.out.1 w' hJ.1
    go_simp <;> with_reducible rfl
  simp only [Act.put, List.setIfInBounds_toArray, List.set_cons_zero, List.set_cons_succ, Nat.reduceAdd, Nat.reduceEqDiff, reduceIte, Option.getD_some, Option.getD_none]
  refine Tail.J_load (by rfl) (by rfl) _ _ rfl p9 0 (by rfl) cr (fun D w' _ _ hJ => blk_range (HS.out.2.1.kept hJ.1)) Tryd.underlying44 rfl (by rw [crl]; exact i32h) ?_
  simp only [Act.put, List.setIfInBounds_toArray, List.set_cons_zero, List.set_cons_succ, Nat.reduceAdd, Nat.reduceEqDiff, reduceIte, Option.getD_some, Option.getD_none]
  refine Tail.J_call (by rfl) (by rfl) ?_ ?_
  · apply Exists.intro
    apply Exists.intro
    refine ⟨fun w' => ?_, ?_⟩
    · go_simp <;> exact ⟨rfl, rfl⟩
    intro D z' w' hD hz hd hp hJ
    have h6 : D 6 = false := hp 6 (by kernel_rfl)
    refine (HS.out.2.2.2.1 w' hJ.1).mono ?_
    rintro e w'' ⟨v, rfl, hv, hb⟩
    refine ⟨v, rfl, fun c hc => by simp at hc, hJ.1.trans (hb.mono hJ.1.size), fun _ => ?_⟩
    simpa [Tail.updV] using hv.mono hJ.1.size
  simp only [Act.put, List.setIfInBounds_toArray, List.set_cons_zero, List.set_cons_succ, Nat.reduceAdd, Nat.reduceEqDiff, reduceIte, Option.getD_some, Option.getD_none]
  refine Tail.J_call (by rfl) (by rfl) ?_ ?_
  · apply Exists.intro
    apply Exists.intro
    refine ⟨fun w' => ?_, ?_⟩
    · go_simp <;> exact ⟨rfl, rfl⟩
    intro D z' w' hD hz hd hp hJ
    have h5 : D 5 = true := hd 5 (by kernel_rfl)
    have hz5 := hJ.2 h5
    rw [← hz 5 h5] at hz5
    refine (refsum_calls _ _ w' hz5.bys HS.out.2.2.2.2.1).mono ?_
    rintro e w'' ⟨rfl, hb⟩
    refine ⟨_, rfl, fun c hc => by simp at hc; rw [← hc, HS.out.2.2.2.2.2], hJ.1.trans (hb.mono hJ.1.size), fun _ => ?_⟩
    simpa [Tail.updV] using (hJ.2 h5).below hb
  simp only [Act.put, List.setIfInBounds_toArray, List.set_cons_zero, List.set_cons_succ, Nat.reduceAdd, Nat.reduceEqDiff, reduceIte, Option.getD_some, Option.getD_none]
  refine Tail.J_load (by rfl) (by rfl) _ _ rfl p1 0 (by rfl) cf (fun D w' _ _ hJ => blk_range (HS.out.2.2.1.kept hJ.1)) Tryd.underlying44 rfl (by rw [cfl]; exact i32h) ?_
  simp only [Act.put, List.setIfInBounds_toArray, List.set_cons_zero, List.set_cons_succ, Nat.reduceAdd, Nat.reduceEqDiff, reduceIte, Option.getD_some, Option.getD_none]
  refine Tail.J_ex (by rfl) (by rfl) ?_
  apply Exists.intro
  refine ⟨fun w => ?_, ?_⟩
  · go_simp <;> with_reducible rfl
  simp only [Act.put, List.setIfInBounds_toArray, List.set_cons_zero, List.set_cons_succ, Nat.reduceAdd, Nat.reduceEqDiff, reduceIte, Option.getD_some, Option.getD_none]
  refine Tail.J_ex (by rfl) (by rfl) ?_
  apply Exists.intro
  refine ⟨fun w => ?_, ?_⟩
  · go_simp <;> with_reducible rfl
  simp only [Act.put, List.setIfInBounds_toArray, List.set_cons_zero, List.set_cons_succ, Nat.reduceAdd, Nat.reduceEqDiff, reduceIte, Option.getD_some, Option.getD_none]
  intro w7 hJ
  have hb7 := hJ.1
  clear hJ
  have HB7 := Lib.hid (HB.out.trans (hb7.mono HB.out.size))
  clear hb7
  go_wp2_with fail
  go_ret
  exact ⟨rfl, HB7.out⟩
end Go.Proofs.YtdlkghdfkjdajaaDoor
end
section
namespace Go.Proofs.YtdlkghdfkjdajaaDoor
open Go Go.RowKit Go.Mem Gf
set_option linter.unusedVariables false
theorem two_verify {w0 wc w6 w' : World} {N N' X : Nat → Prop} {k0 k1 sb lb d L : Nat} {s s' : St} {n0 n1 : ByteArray} {d0 d1 : List UInt8} {h x0 x1 x0' x1' leaf : Nat} {v vv pv : Value} {m : List UInt8} (g : Two w0 wc N X k0 k1 sb lb d L s n0 n1 d0 d1 h x0 x1) (g' : Two w0 w' N' X k0 k1 sb lb d L s' n0 n1 d0 d1 h x0' x1')
    (hv : Bys w' v m) (hm : m.length ≤ 1000) (hvv : OwnG bV WfH 32 44 w6 wc.heap.size vv (Wot.signO d0 leaf m)) (hpv : OwnG bV WfH 32 44 w6 wc.heap.size pv (Wot.proof h leaf (Wot.leaves d0 (2 ^ h)))) (hc : Chg (fun b => b = k0 ∨ b = k1) w6 w') (hh : h ≤ 4) (hl : leaf < 2 ^ h) :
    Calls Tryd.prog 10 #[.agg (bV (Wot.print d0 h)).toArray, v, .agg #[.int .i64 h, .int .i64 leaf, vv, pv]] w' fun e w'' => e = .returned (.bool true) ∧ Below w'.heap.size w' w'' := by
  have h0 := Blk.lt g.a
  have h1 := Blk.lt g.b
  exact hverify_calls h leaf _ v vv pv m _ _ wc.heap.size w' g'.st.tab (Wot.tagged_len _ _) hv hm
    (hvv.chg hc (fun q hq e => by have := hvv.ge hq; rcases e with e | e <;> omega)) (Wot.signO_len _ _ _) (hpv.chg hc (fun q hq e => by have := hpv.ge hq; rcases e with e | e <;> omega)) (Wot.proof_len _ _ _) hh hl (Wot.verify d0 h leaf m hl)
end Go.Proofs.YtdlkghdfkjdajaaDoor
end
section
namespace Go.Proofs.YtdlkghdfkjdajaaDoor
open Go Go.RowKit Go.Mem Gf
set_option linter.unusedVariables false
set_option linter.unusedSimpArgs false
attribute [local go_sem ↓] Go.wp_at_zero Go.wp_at_succ
attribute [local go_sem ↓] store_sig load_key16
attribute [local go_sem] ptrB_eq ptrO_eq ptrIs_eq aggL_eq aggIs_eq readK_drew hasK_drew readK_alloc_past hasK_alloc_past readK_alloc_in hasK_alloc_in setCells_alloc_at
def nA : ByteArray := ⟨#[97]⟩
def nB : ByteArray := ⟨#[98]⟩
theorem nAB : nB ≠ nA := by decide
structure ApS (i : Nat) (s : St) : Prop where
  good : SGood i s
  room : s.room = 3
  len : s.recs.length = 6
  live : liveN s.recs ≤ i
  isA : (i = 0 ∧ Sto.look s.recs nA = none) ∨ Sto.look s.recs nA = some (Cod.be 4 i)
  isB : Sto.look s.recs nB = none
def st6 : St := ⟨3, List.replicate 6 Sto.Rec.free, false, .fresh (6 * (3 + 1))⟩
theorem ApS.start : ApS 0 st6 := ⟨SGood.fresh 6 3 (by omega), rfl, rfl, Nat.le_of_eq (live_free 6), .inl ⟨rfl, look_free 6 _⟩, look_free 6 _⟩
theorem ap_fits (n : ByteArray) (hn : n.size ≤ 3) (k : Nat) {s : St} (h : s.room = 3) : fitsB s.room n (Cod.be 4 k) = true := by
  rw [h]
  exact fits_of (by omega) (by rw [Cod.be_len]; decide) (by rw [Cod.be_len]; omega)
theorem ApS.put {i : Nat} {s : St} (h : ApS i s) (hi : i ≤ 2) : (putR s nA (Cod.be 4 (i + 1))).1 = 0 ∧ ApS (i + 1) (putR s nA (Cod.be 4 (i + 1))).2 := by
  have hlv := h.live
  have hlen := h.len
  have ht := slot_of_live (l := s.recs) (by omega)
  obtain ⟨p1, g1, r1, ro1⟩ := h.good.put (by omega) (ap_fits nA (by decide) (i + 1) h.room) ht
  refine ⟨p1, g1, ro1.trans h.room, by rw [r1, putF_len, hlen], ?_, .inr (by rw [r1, putF_look ht, if_pos rfl]), by rw [r1, putF_look ht, if_neg nAB, h.isB]⟩
  rw [r1]
  have := putF_live ht nA (Cod.be 4 (i + 1))
  omega
theorem ApS.putB {i : Nat} {s : St} (h : ApS i s) (hi : i ≤ 2) : (putR s nB (Cod.be 4 1)).1 = 0 ∧ SGood (i + 1) (putR s nB (Cod.be 4 1)).2 ∧ (putR s nB (Cod.be 4 1)).2.get nB = some (Cod.be 4 1) := by
  have hlv := h.live
  have hlen := h.len
  have ht := slot_of_live (l := s.recs) (by omega)
  obtain ⟨p1, g1, r1, ro1⟩ := h.good.put (by omega) (ap_fits nB (by decide) 1 h.room) ht
  exact ⟨p1, g1, by rw [St.get_look g1.dead, r1, putF_look ht, if_pos rfl]⟩
theorem ApS.look {i : Nat} {s : St} (h : ApS i s) (hi : i ≤ 1000) : lookN s nA i = i := by
  unfold lookN
  rw [St.get_look h.good.dead]
  rcases h.isA with ⟨e, hl⟩ | hl
  · rw [hl]
  · rw [hl]
    show max i (Cod.getN (Cod.be 4 i)) = i
    rw [Cod.getN_be 4 i (by omega), Nat.max_self]
theorem ApS.lookB {i : Nat} {s : St} (h : ApS i s) : lookN s nB 0 = 0 := by
  unfold lookN
  rw [St.get_look h.good.dead, h.isB]
theorem ApS.short {i : Nat} {s : St} (h : ApS i s) : ∀ b, s.get nA = some b → b.length ≤ 7 := fun b hb => by
  rw [St.get_look h.good.dead] at hb
  rcases h.isA with ⟨_, hl⟩ | hl
  · rw [hl] at hb; cases hb
  · rw [hl] at hb
    cases hb
    rw [Cod.be_len]
    decide
theorem ApS.shortB {i : Nat} {s : St} (h : ApS i s) : ∀ b, s.get nB = some b → b.length ≤ 7 := fun b hb => by
  rw [St.get_look h.good.dead, h.isB] at hb
  cases hb
def noX (_ : Nat) : Prop := False
set_option maxRecDepth 20000 in
set_option maxHeartbeats 8000000 in
theorem keysApart_walk (w : World) (hT : Tab w) (sa sq : List UInt8) (hsa : sa.length = 16) (hsq : sq.length = 16) (vm : Value) (ms : List (List UInt8)) (hm : Rws w vm ms) :
    Calls Tryd.prog 3 #[.agg (bV sa).toArray, .agg (bV sq).toArray, vm] w fun e w' => e = .returned (.bool true) ∧ Below w.heap.size w w' := by
  have HT := Lib.hid hT
  have hml := hm.len
  obtain ⟨va, vc, rfl⟩ := hm.eq_slice
  obtain ⟨n, hn⟩ : ∃ n, n = ms.length := ⟨_, rfl⟩
  rw [← hn] at hm hml ⊢
  have HM := Lib.hid (And.intro hm hn)
  clear hT hm hn
  obtain ⟨ca, hca⟩ : ∃ c, c = bV sa := ⟨_, rfl⟩
  have hal : ca.length = 16 := by rw [hca, bV_len]; exact hsa
  obtain ⟨cb, hcb⟩ : ∃ c, c = bV sq := ⟨_, rfl⟩
  have hbl : cb.length = 16 := by rw [hcb, bV_len]; exact hsq
  rw [← hca, ← hcb]
  have HC := Lib.hid (And.intro hca hcb)
  clear hca hcb
  go_enter Tryd.func3, Tryd.ntmps3
  go_upto_region 1 with fail
  obtain ⟨w1, hw1⟩ : ∃ q, q = (w.alloc (.cells ca.toArray 23)).alloc (.cells cb.toArray 23) := ⟨_, rfl⟩
  obtain ⟨p3, hp3⟩ : ∃ q, q = w.heap.size := ⟨_, rfl⟩
  obtain ⟨p4, hp4⟩ : ∃ q, q = w.heap.size + 1 := ⟨_, rfl⟩
  have hb1 : Below w.heap.size w w1 := by rw [hw1]; exact ((Below.refl _ _).alloc (Nat.le_refl _) _).alloc (by simp) _
  have hk3 : Blk w1 p3 ca.toArray 23 := by rw [hw1, hp3]; exact (Blk.new _ _ _).alloc _
  have hk4 : Blk w1 p4 cb.toArray 23 := by rw [hw1, hp4]; exact Blk.new_at _ _ _ _ (by simp)
  rw [← hw1, ← hp4, ← hp3]
  have H1 := Lib.hid (And.intro hb1 (And.intro hk3 hk4))
  clear hw1 hp3 hp4 hb1 hk3 hk4
  go_wp2_with fail
  refine (lab_new 24 w1 w1 (HT.out.below H1.out.1) (Below.refl _ _) (by omega) (by omega)).mono ?_
  rintro e w2 ⟨d, L, rfl, hl2, ht, _⟩
  have H2 := Lib.hid (And.intro hl2 ht)
  clear hl2 ht
  go_wp2_with fail
  refine (lab_open_uniq H2.out.1 H2.out.2 (slots := 6) (room := 3) (by omega) (by omega) (by decide) (l := List.replicate 6 Sto.Rec.free) rfl (Holds.fresh 6 3) rfl (uniq_free 6)).mono ?_
  rintro e w3 ⟨sb, lb, rfl, hs3, _⟩
  have H3 := Lib.hid (show LabS w1 w3 sb lb d L st6 from hs3)
  have hk3 := H1.out.2.1.kept hs3.bel
  have k3 : readK 16 w3 p3 0 = ca := blk_read hk3 hal (fun k _ => by simp)
  have k3' : HasK 16 w3 p3 0 := blk_has hk3 (by simp [hal])
  have hop := kopen_calls w3 _ sb lb d L st6 nA sa 1 H3.out.st hsa (by decide) ApS.start.short
  rw [show lookN st6 nA 0 = 0 from ApS.start.look (by decide), ← HC.out.1] at hop
  have HOP := Lib.hid hop
  clear hs3 hk3 hop
  go_wp2_with fail
  refine HOP.out.mono ?_
  rintro e w4 ⟨k0, rfl, hk0, hks0, hst4, hb4⟩
  have H4 := Lib.hid (And.intro hk0 (And.intro hks0 (And.intro hst4 hb4)))
  have hk4 := (H1.out.2.2.kept H3.out.bel).kept hb4
  have k4 : readK 16 w4 p4 0 = cb := blk_read hk4 hbl (fun k _ => by simp)
  have k4' : HasK 16 w4 p4 0 := blk_has hk4 (by simp [hbl])
  have hop := kopen_calls w4 _ sb lb d L st6 nB sq 1 hst4 hsq (by decide) ApS.start.shortB
  rw [show lookN st6 nB 0 = 0 from ApS.start.lookB, ← HC.out.2] at hop
  have HOQ := Lib.hid hop
  clear hk0 hks0 hst4 hb4 hk4 hop k3 k3' HOP
  go_wp2_with fail
  refine HOQ.out.mono ?_
  rintro e w5 ⟨k1, rfl, hk1, hks1, hst5, hb5⟩
  have hG5 : Two w1 w5 (fun b => ((DL d L b ∨ b = sb ∨ b = lb) ∨ b = k0) ∨ b = k1) noX k0 k1 sb lb d L st6 nA nB sa sq 1 0 0 := by
    obtain ⟨a1, a2, a3, a4⟩ := H4.out
    have s3 := H3.out
    have z1 := s3.bel.size
    have z2 := a4.size
    have z3 := Blk.lt a2
    refine ⟨hst5, Blk.kept a2 hb5, hks1, .inl (.inr rfl), .inr rfl, fun hf => by have := s3.st.lt k0 hf; omega, fun hf => by have := s3.st.lt k1 hf; omega, by omega, s3.bel.trans ((a4.trans (hb5.mono z2)).mono z1), fun b hb => ?_, fun b hb => hb.elim⟩
    rcases hb with ((hb | hb | hb) | hb) | hb
    · rcases hb with rfl | rfl
      · exact s3.d1
      · exact s3.l1
    · rw [hb]; exact s3.s1
    · rw [hb]; exact s3.b1
    · omega
    · omega
  obtain ⟨N0, hN0⟩ : ∃ N : Nat → Prop, N = (fun b => ((DL d L b ∨ b = sb ∨ b = lb) ∨ b = k0) ∨ b = k1) := ⟨_, rfl⟩
  rw [← hN0] at hG5
  have H5 := Lib.hid hG5
  clear hN0 hG5 hk1 hks1 hst5 hb5 k4 k4' HOQ H4 H3 H2
  go_wp2_with fail
  go_loopw [15] (fun v wr => ∃ (i : Nat) (s : St) (N : Nat → Prop), i ≤ 2 ∧ v = .int .i64 i ∧ Two w1 wr N noX k0 k1 sb lb d L s nA nB sa sq 1 i 0 ∧ ApS i s) (fun v _ => 2 - (intOf v).toNat)
  case atStart => exact ⟨0, st6, N0, by omega, rfl, H5.out, ApS.start⟩
  case round => as_aux_lemma =>
    obtain ⟨i, s, N, hi, rfl, hG, hS⟩ := hrel
    have H := Lib.hid (And.intro hG hS)
    clear hG hS
    by_cases h0 : i < 2
    · have i0 : (0 : Int) ≤ (i : Int) := by omega
      have i1 : (i : Int) < 2 := by omega
      have e8 : IntKind.u8.wrap (i : Int) = (i : Int) := by rw [IntKind.wrap_u8]; omega
      obtain ⟨u, hu⟩ : ∃ u : UInt8, (i : Int) = (u.toNat : Int) := ⟨UInt8.ofNat i, by rw [UInt8.toNat_ofNat']; omega⟩
      have HU := Lib.hid hu
      clear hu
      go_upto_if 72 with fail
      go_cut [16] (fun s16 wx => ∃ m : List UInt8, m.length ≤ 1000 ∧ (∀ w', Chg N wx w' → Bys w' s16 m) ∧ Two w1 wx N noX k0 k1 sb lb d L s nA nB sa sq 1 i 0)
      case first =>
        have hga := H.out.1.step (w' := wr.alloc (.cells #[.int .u8 (i : Int)] 5)) ((Below.refl _ _).alloc (Nat.le_refl _) _)
        have hlt := H.out.1.lt
        have HGA := Lib.hid (And.intro hga hlt)
        clear hga hlt
        by_cases hin : i < n
        · obtain ⟨gb, go, rr, v, rfl, hr, hxc, hbv⟩ := HM.out.1.at i (by have := HM.out.2; omega)
          have t1 : (i : Int) < (n : Int) := by omega
          have hbw : Below w.heap.size w (wr.alloc (.cells #[.int .u8 (i : Int)] 5)) := H1.out.1.trans (HGA.out.1.bel.mono H1.out.1.size)
          have cx : (wr.alloc (.cells #[.int .u8 (i : Int)] 5)).cell? ⟨gb, go + i, none⟩ = some v := (hbw.cell (p := ⟨gb, go + i, none⟩) (World.block_lt_of_cell? w _ hxc)).trans hxc
          obtain ⟨va, vc, rfl⟩ := hbv.eq_slice
          have HBV := Lib.hid (And.intro hbv (hbv.below hbw))
          clear hr hxc hbv hbw
          go_wp2_with fail
          refine (cut8_two _ rr 20 w _ HBV.out.1 HBV.out.2).mono ?_
          rintro e _ ⟨⟨v', rfl, hv'⟩, rfl⟩
          go_wp2_with fail
          go_meet
          exact ⟨rr.take 20, by rw [List.length_take]; omega, fun w' hc => hv'.below (Chg.far (H1.out.1.trans (HGA.out.1.bel.mono H1.out.1.size)) hc (Nat.le_trans H1.out.1.size HGA.out.1.bel.size) (fun b hb => Nat.le_trans H1.out.1.size (HGA.out.1.far b hb))), HGA.out.1⟩
        · have t1 : ¬ (i : Int) < (n : Int) := by omega
          go_wp2_with fail
          go_meet
          refine ⟨[u], show 1 ≤ 1000 by decide, fun w' hc => ?_, HGA.out.1⟩
          have hb : Blk (wr.alloc (.cells #[.int .u8 (i : Int)] 5)) wr.heap.size #[.int .u8 (i : Int)] 5 := Blk.new _ _ _
          have hb' := hc.blk hb (fun e => by have := HGA.out.2 _ e; omega)
          exact hb'.bys (bs := [u]) (cap := 1) (Nat.le_refl 1) (maxLen_ge (by decide)) (fun j x hj => by
            cases j with
            | zero => simp at hj; subst hj; rw [HU.out]; rfl
            | succ j => simp at hj)
      case rest =>
      obtain ⟨m, hmm, hmk, hG⟩ := hcut
      have HS := Lib.hid H.out.2
      have HG := Lib.hid (And.intro hG hmk)
      obtain ⟨mva, mvc, emv⟩ := (hmk wc (Chg.refl _ _)).eq_slice
      subst emv
      have hsg := two_sign hG _ m hsa HS.out.short (by omega) (by decide) (fun w' hc => hmk w' (hc.mono hG.kf)) hmm (by decide) (by have := HS.out.good.writes; omega)
      have HSG := Lib.hid hsg
      clear H hG hmk hsg
      go_wp2_with fail
      refine HSG.out.mono ?_
      clear HSG
      rintro e w6 ⟨hc6, hway⟩
      have hlk := HS.out.look (by omega)
      obtain ⟨p1, s1⟩ := HS.out.put (by omega)
      rw [hlk] at hway
      rcases hway with ⟨hx, _⟩ | ⟨_, hx, _⟩ | ⟨_, _, vv, pv, rfl, hvv, hpv, N', hG6⟩
      · have : 2 ≤ i := hx
        omega
      · exact absurd p1 hx
      obtain ⟨s', hs'⟩ : ∃ x, x = (putR s nA (Cod.be 4 (i + 1))).2 := ⟨_, rfl⟩
      rw [← hs'] at s1 hG6
      obtain ⟨a1, c1, e1⟩ := hvv.slice
      obtain ⟨a2, c2, e2⟩ := hpv.slice
      subst e1 e2
      obtain ⟨n1, hn1⟩ : ∃ x, x = (Wot.signO sa i m).length := ⟨_, rfl⟩
      obtain ⟨n2, hn2⟩ : ∃ x, x = (Wot.proof 1 i (Wot.leaves sa (2 ^ 1))).length := ⟨_, rfl⟩
      rw [← hn1] at hvv
      rw [← hn2] at hpv
      rw [← hn1, ← hn2]
      have H6 := Lib.hid (And.intro hG6 (And.intro hc6 (And.intro hvv (And.intro hpv s1))))
      clear hs' hn1 hn2 p1 hlk hG6 hc6 hvv hpv s1
      have hca4 : AllK 4 [Value.int .i64 1, .int .i64 i, .slice a1 n1 c1, .slice a2 n2 c2] := ⟨rfl, fun v hv => by
        simp only [List.mem_cons, List.not_mem_nil, or_false] at hv
        rcases hv with rfl | rfl | rfl | rfl <;> rfl⟩
      go_upto_region 18 with fail
      obtain ⟨w7, hw7⟩ : ∃ q, q = w6.alloc (.cells #[Value.int .i64 1, .int .i64 i, .slice a1 n1 c1, .slice a2 n2 c2] 39) := ⟨_, rfl⟩
      obtain ⟨p7, hp7⟩ : ∃ q, q = w6.heap.size := ⟨_, rfl⟩
      have hb7 : Below w6.heap.size w6 w7 := by rw [hw7]; exact (Below.refl _ _).alloc (Nat.le_refl _) _
      have hk7 : Blk w7 p7 #[Value.int .i64 1, .int .i64 i, .slice a1 n1 c1, .slice a2 n2 c2] 39 := by rw [hw7, hp7]; exact Blk.new _ _ _
      rw [← hw7, ← hp7]
      have hg7 := H6.out.1.step hb7
      have hpn : p7 ≠ k0 ∧ p7 ≠ k1 := ⟨by have := Blk.lt H6.out.1.a; omega, by have := Blk.lt H6.out.1.b; omega⟩
      obtain ⟨cpr, hcpr⟩ : ∃ c, c = bV (Wot.print sa 1) := ⟨_, rfl⟩
      obtain ⟨ri, hri⟩ : ∃ r : Nat, r = 1 - i := ⟨_, rfl⟩
      have hri' : IntKind.i64.wrap (1 - (i : Int)) = (ri : Int) := by rw [IntWalk.i64_in _ (by omega)]; omega
      have H7 := Lib.hid (And.intro hg7 (And.intro hb7 (And.intro hk7 (And.intro hpn (And.intro hcpr hri)))))
      have hlk1 := H6.out.2.2.2.2.look (by omega)
      have hlkb := H6.out.2.2.2.2.lookB
      have HLK := Lib.hid (And.intro hlk1 hlkb)
      clear hw7 hp7 hb7 hk7 hg7 hpn hca4 hcpr hri hlk1 hlkb
      refine Tail.wp_region_J 27 (fun k => k == 10 || k == 13 || k == 18 || k == 25) (fun k => if k = 10 then some (.agg cpr.toArray) else if k = 13 then some (.bool true) else if k = 18 then some (.int .i64 (ri : Int)) else if k = 25 then some (.int .i64 2) else none)
        (fun D z w' => Two w1 w' N' noX k0 k1 sb lb d L s' nA nB sa sq 1 (i + 1) 0 ∧ Chg (fun b => b = k0 ∨ b = k1) w7 w')
        (by kernel_rfl) (by kernel_rfl) (fun k hk => by simp at hk; omega) (fun D z z' w' hz h => h)
        (⟨H7.out.1.step ((Below.refl _ _).drew), Chg.of_below ((Below.refl _ _).drew)⟩) (fun z => ?_)
      simp only [List.take_succ_cons, List.take_zero, List.drop_succ_cons, List.drop_zero]
      refine Tail.J_ex (by rfl) (by rfl) ?_
      apply Exists.intro
      refine ⟨fun w => ?_, ?_⟩
      · go_simp <;> with_reducible rfl
      simp only [Act.put, List.setIfInBounds_toArray, List.set_cons_zero, List.set_cons_succ, Nat.reduceAdd, Nat.reduceEqDiff, reduceIte, Option.getD_some, Option.getD_none]
      refine Tail.J_ex (by rfl) (by rfl) ?_
      apply Exists.intro
      refine ⟨fun w => ?_, ?_⟩
      · go_simp <;> with_reducible rfl
      simp only [Act.put, List.setIfInBounds_toArray, List.set_cons_zero, List.set_cons_succ, Nat.reduceAdd, Nat.reduceEqDiff, reduceIte, Option.getD_some, Option.getD_none]
      refine Tail.J_ex (by rfl) (by rfl) ?_
      apply Exists.intro
      refine ⟨fun w => ?_, ?_⟩
      · go_simp <;> with_reducible rfl
      simp only [Act.put, List.setIfInBounds_toArray, List.set_cons_zero, List.set_cons_succ, Nat.reduceAdd, Nat.reduceEqDiff, reduceIte, Option.getD_some, Option.getD_none]
      refine Tail.J_ex (by rfl) (by rfl) ?_
      apply Exists.intro
      refine ⟨fun w => ?_, ?_⟩
      · go_simp <;> with_reducible rfl
      simp only [Act.put, List.setIfInBounds_toArray, List.set_cons_zero, List.set_cons_succ, Nat.reduceAdd, Nat.reduceEqDiff, reduceIte, Option.getD_some, Option.getD_none]
      refine Tail.J_at (by rfl) (by rfl) ?_
      apply Exists.intro
      refine ⟨fun D w' hd hp hJ => ?_, ?_⟩
      · have cc := show w'.cell? ⟨p7, 1, none⟩ = some (.int .i64 i) from by rw [(hJ.2.blk H7.out.2.2.1 (fun e => e.elim H7.out.2.2.2.1.1 H7.out.2.2.2.1.2)).cell]; rfl
        go_simp <;> with_reducible rfl
      simp only [Act.put, List.setIfInBounds_toArray, List.set_cons_zero, List.set_cons_succ, Nat.reduceAdd, Nat.reduceEqDiff, reduceIte, Option.getD_some, Option.getD_none]
      refine Tail.J_ex (by rfl) (by rfl) ?_
      apply Exists.intro
      refine ⟨fun w => ?_, ?_⟩
      · go_simp <;> with_reducible rfl
      simp only [Act.put, List.setIfInBounds_toArray, List.set_cons_zero, List.set_cons_succ, Nat.reduceAdd, Nat.reduceEqDiff, reduceIte, Option.getD_some, Option.getD_none]
      refine Tail.J_ex (by rfl) (by rfl) ?_
      apply Exists.intro
      refine ⟨fun w => ?_, ?_⟩
      · go_simp <;> with_reducible rfl
      simp only [Act.put, List.setIfInBounds_toArray, List.set_cons_zero, List.set_cons_succ, Nat.reduceAdd, Nat.reduceEqDiff, reduceIte, Option.getD_some, Option.getD_none]
      refine Tail.J_ex (by rfl) (by rfl) ?_
      apply Exists.intro
      refine ⟨fun w => ?_, ?_⟩
      · go_simp <;> with_reducible rfl
      simp only [Act.put, List.setIfInBounds_toArray, List.set_cons_zero, List.set_cons_succ, Nat.reduceAdd, Nat.reduceEqDiff, reduceIte, Option.getD_some, Option.getD_none]
      refine Tail.J_ex (by rfl) (by rfl) ?_
      apply Exists.intro
      refine ⟨fun w => ?_, ?_⟩
      · go_simp <;> with_reducible rfl
      simp only [Act.put, List.setIfInBounds_toArray, List.set_cons_zero, List.set_cons_succ, Nat.reduceAdd, Nat.reduceEqDiff, reduceIte, Option.getD_some, Option.getD_none]
      refine Tail.J_ex (by rfl) (by rfl) ?_
      apply Exists.intro
      refine ⟨fun w => ?_, ?_⟩
      · go_simp <;> with_reducible rfl
      simp only [Act.put, List.setIfInBounds_toArray, List.set_cons_zero, List.set_cons_succ, Nat.reduceAdd, Nat.reduceEqDiff, reduceIte, Option.getD_some, Option.getD_none]
      refine Tail.J_call (by rfl) (by rfl) ?_ ?_
      · apply Exists.intro
        apply Exists.intro
        refine ⟨fun w' => ?_, ?_⟩
        · go_simp <;> exact ⟨rfl, rfl⟩
        intro D z' w' hD hz hd hp hJ
        refine (kprint_calls w' k0 sb nA sa 1 (i + 1) _ hJ.1.a hsa (Wot.tagged_len _ _)).mono ?_
        rintro e w'' ⟨rfl, hb⟩
        exact ⟨_, rfl, fun c hc => by simp at hc; rw [← hc, H7.out.2.2.2.2.1], hJ.1.step hb, hJ.2.trans_below hb⟩
      simp only [Act.put, List.setIfInBounds_toArray, List.set_cons_zero, List.set_cons_succ, Nat.reduceAdd, Nat.reduceEqDiff, reduceIte, Option.getD_some, Option.getD_none]
      refine Tail.J_ex (by rfl) (by rfl) ?_
      apply Exists.intro
      refine ⟨fun w => ?_, ?_⟩
      · go_simp <;> with_reducible rfl
      simp only [Act.put, List.setIfInBounds_toArray, List.set_cons_zero, List.set_cons_succ, Nat.reduceAdd, Nat.reduceEqDiff, reduceIte, Option.getD_some, Option.getD_none]
      refine Tail.J_load (by rfl) (by rfl) _ _ rfl p7 0 (by rfl) [Value.int .i64 1, .int .i64 i, .slice a1 n1 c1, .slice a2 n2 c2] (fun D w' _ _ hJ => blk_range (cs := [Value.int .i64 1, .int .i64 i, .slice a1 n1 c1, .slice a2 n2 c2]) (hJ.2.blk H7.out.2.2.1 (fun e => e.elim H7.out.2.2.2.1.1 H7.out.2.2.2.1.2))) Tryd.underlying39 rfl i4s ?_
      simp only [Act.put, List.setIfInBounds_toArray, List.set_cons_zero, List.set_cons_succ, Nat.reduceAdd, Nat.reduceEqDiff, reduceIte, Option.getD_some, Option.getD_none]
      refine Tail.J_call (by rfl) (by rfl) ?_ ?_
      · apply Exists.intro
        apply Exists.intro
        refine ⟨fun w' => ?_, ?_⟩
        · go_simp <;> exact ⟨rfl, rfl⟩
        intro D z' w' hD hz hd hp hJ
        have hc67 : Chg (fun b => b = k0 ∨ b = k1) w6 w' := (Chg.of_below H7.out.2.1).trans hJ.2
        have hcN : Chg N wc w' := (H6.out.2.1.mono HG.out.1.kf).trans (hc67.mono (fun b e => e.elim (fun e => by rw [e]; exact HG.out.1.na) (fun e => by rw [e]; exact HG.out.1.nb)))
        have hvf := two_verify HG.out.1 hJ.1 (HG.out.2 w' hcN) hmm H6.out.2.2.1 H6.out.2.2.2.1 hc67 (by decide) (by show i < 2; exact h0)
        rw [← H7.out.2.2.2.2.1] at hvf
        refine hvf.mono ?_
        rintro e w'' ⟨rfl, hb⟩
        exact ⟨_, rfl, fun c hc => by simp at hc; rw [← hc], hJ.1.step hb, hJ.2.trans_below hb⟩
      simp only [Act.put, List.setIfInBounds_toArray, List.set_cons_zero, List.set_cons_succ, Nat.reduceAdd, Nat.reduceEqDiff, reduceIte, Option.getD_some, Option.getD_none]
      refine Tail.J_ex (by rfl) (by rfl) ?_
      apply Exists.intro
      refine ⟨fun w => ?_, ?_⟩
      · go_simp <;> with_reducible rfl
      simp only [Act.put, List.setIfInBounds_toArray, List.set_cons_zero, List.set_cons_succ, Nat.reduceAdd, Nat.reduceEqDiff, reduceIte, Option.getD_some, Option.getD_none]
      refine Tail.J_ex (by rfl) (by rfl) ?_
      apply Exists.intro
      refine ⟨fun w => ?_, ?_⟩
      · go_simp <;> with_reducible rfl
      simp only [Act.put, List.setIfInBounds_toArray, List.set_cons_zero, List.set_cons_succ, Nat.reduceAdd, Nat.reduceEqDiff, reduceIte, Option.getD_some, Option.getD_none]
      refine Tail.J_ex (by rfl) (by rfl) ?_
      apply Exists.intro
      refine ⟨fun w => ?_, ?_⟩
      · go_simp <;> with_reducible rfl
      simp only [Act.put, List.setIfInBounds_toArray, List.set_cons_zero, List.set_cons_succ, Nat.reduceAdd, Nat.reduceEqDiff, reduceIte, Option.getD_some, Option.getD_none]
      refine Tail.J_ex (by rfl) (by rfl) ?_
      apply Exists.intro
      refine ⟨fun w => ?_, ?_⟩
      · go_simp <;> with_reducible rfl
      simp only [Act.put, List.setIfInBounds_toArray, List.set_cons_zero, List.set_cons_succ, Nat.reduceAdd, Nat.reduceEqDiff, reduceIte, Option.getD_some, Option.getD_none]
      refine Tail.J_call (by rfl) (by rfl) ?_ ?_
      · apply Exists.intro
        apply Exists.intro
        refine ⟨fun w' => ?_, ?_⟩
        · go_simp <;> exact ⟨rfl, rfl⟩
        intro D z' w' hD hz hd hp hJ
        have hlf := two_left hJ.1 hsa H6.out.2.2.2.2.short (by omega) (by decide)
        rw [HLK.out.1, show 2 ^ 1 - (i + 1) = ri from by have := H7.out.2.2.2.2.2; omega] at hlf
        refine hlf.mono ?_
        rintro e w'' ⟨rfl, hg, hc⟩
        exact ⟨_, rfl, fun c hc => by simp at hc; rw [← hc], hg, hJ.2.trans (hc.mono fun b e => .inl e)⟩
      simp only [Act.put, List.setIfInBounds_toArray, List.set_cons_zero, List.set_cons_succ, Nat.reduceAdd, Nat.reduceEqDiff, reduceIte, Option.getD_some, Option.getD_none]
      refine Tail.J_ex (by rfl) (by rfl) ?_
      apply Exists.intro
      refine ⟨fun w => ?_, ?_⟩
      · go_simp <;> with_reducible rfl
      simp only [Act.put, List.setIfInBounds_toArray, List.set_cons_zero, List.set_cons_succ, Nat.reduceAdd, Nat.reduceEqDiff, reduceIte, Option.getD_some, Option.getD_none]
      refine Tail.J_ex (by rfl) (by rfl) ?_
      apply Exists.intro
      refine ⟨fun w => ?_, ?_⟩
      · go_simp <;> with_reducible rfl
      simp only [Act.put, List.setIfInBounds_toArray, List.set_cons_zero, List.set_cons_succ, Nat.reduceAdd, Nat.reduceEqDiff, reduceIte, Option.getD_some, Option.getD_none]
      refine Tail.J_ex (by rfl) (by rfl) ?_
      apply Exists.intro
      refine ⟨fun w => ?_, ?_⟩
      · go_simp <;> with_reducible rfl
      simp only [Act.put, List.setIfInBounds_toArray, List.set_cons_zero, List.set_cons_succ, Nat.reduceAdd, Nat.reduceEqDiff, reduceIte, Option.getD_some, Option.getD_none]
      refine Tail.J_ex (by rfl) (by rfl) ?_
      apply Exists.intro
      refine ⟨fun w => ?_, ?_⟩
      · go_simp <;> with_reducible rfl
      simp only [Act.put, List.setIfInBounds_toArray, List.set_cons_zero, List.set_cons_succ, Nat.reduceAdd, Nat.reduceEqDiff, reduceIte, Option.getD_some, Option.getD_none]
      refine Tail.J_ex (by rfl) (by rfl) ?_
      apply Exists.intro
      refine ⟨fun w => ?_, ?_⟩
      · go_simp <;> with_reducible rfl
      simp only [Act.put, List.setIfInBounds_toArray, List.set_cons_zero, List.set_cons_succ, Nat.reduceAdd, Nat.reduceEqDiff, reduceIte, Option.getD_some, Option.getD_none]
      refine Tail.J_ex (by rfl) (by rfl) ?_
      apply Exists.intro
      refine ⟨fun w => ?_, ?_⟩
      · go_simp <;> with_reducible rfl
      simp only [Act.put, List.setIfInBounds_toArray, List.set_cons_zero, List.set_cons_succ, Nat.reduceAdd, Nat.reduceEqDiff, reduceIte, Option.getD_some, Option.getD_none]
      refine Tail.J_call (by rfl) (by rfl) ?_ ?_
      · apply Exists.intro
        apply Exists.intro
        refine ⟨fun w' => ?_, ?_⟩
        · go_simp <;> exact ⟨rfl, rfl⟩
        intro D z' w' hD hz hd hp hJ
        have hlf := two_left hJ.1.swap hsq H6.out.2.2.2.2.shortB (by decide) (by decide)
        rw [HLK.out.2] at hlf
        refine hlf.mono ?_
        rintro e w'' ⟨rfl, hg, hc⟩
        exact ⟨_, rfl, fun c hc => by simp at hc; rw [← hc]; rfl, hg.swap, hJ.2.trans (hc.mono fun b e => .inr e)⟩
      simp only [Act.put, List.setIfInBounds_toArray, List.set_cons_zero, List.set_cons_succ, Nat.reduceAdd, Nat.reduceEqDiff, reduceIte, Option.getD_some, Option.getD_none]
      refine Tail.J_ex (by rfl) (by rfl) ?_
      apply Exists.intro
      refine ⟨fun w => ?_, ?_⟩
      · go_simp <;> with_reducible rfl
      simp only [Act.put, List.setIfInBounds_toArray, List.set_cons_zero, List.set_cons_succ, Nat.reduceAdd, Nat.reduceEqDiff, reduceIte, Option.getD_some, Option.getD_none]
      intro w8 hJ
      have H8 := Lib.hid hJ.1
      clear hJ z
      go_wp2
      go_roundw
      case rel => exact ⟨i + 1, s', N', by omega, by go_num, H8.out, H6.out.2.2.2.2⟩
      case measure => simp [intOf]; omega
    · have i1 : ¬ (i : Int) < 2 := by omega
      obtain rfl : i = 2 := by omega
      clear hi h0
      obtain ⟨hG, hS⟩ := H.out
      have hsg := two_sign hG (.slice none 0 0) [] hsa hS.short (by decide) (by decide) (fun _ _ => Bys.nil _) (by decide) (by decide) (by have := hS.good.writes; omega)
      have HSG := Lib.hid hsg
      have HS := Lib.hid hS
      clear hG hS hsg H
      go_wp2_with fail
      refine HSG.out.mono ?_
      clear HSG
      rintro e w6 ⟨hc6, hway⟩
      rw [HS.out.look (by omega)] at hway
      rcases hway with ⟨_, rfl, N6, hG6⟩ | ⟨hx, _⟩ | ⟨hx, _⟩
      rotate_left
      · have : 2 < 2 := hx
        omega
      · have : 2 < 2 := hx
        omega
      have H6 := Lib.hid hG6
      clear hc6 hG6
      unfold sigZ
      go_upto_region 21 with fail
      obtain ⟨w7, hw7⟩ : ∃ q, q = w6.alloc (.cells #[Value.int .i64 0, .int .i64 0, .slice none 0 0, .slice none 0 0] 39) := ⟨_, rfl⟩
      have hb7 : Below w6.heap.size w6 w7 := by rw [hw7]; exact (Below.refl _ _).alloc (Nat.le_refl _) _
      rw [← hw7]
      have hg7 := (H6.out.step hb7).swap
      have hg8 := hg7.step (w' := w7.alloc (.cells #[.int .u8 5] 5)) ((Below.refl _ _).alloc (Nat.le_refl _) _)
      have hsg := two_sign hg8 (.slice (some ⟨w7.heap.size, 0, none⟩) 1 1) [5] hsq HS.out.shortB (by decide) (by decide) (byte_keep 5 5 rfl (Blk.lt hg7.a) hg7.st.lt) (by decide) (by decide) (by have := HS.out.good.writes; omega)
      have HSG := Lib.hid hsg
      have HG8 := Lib.hid hg8
      clear hw7 hb7 hg7 hg8 hsg H6
      go_wp2_with fail
      refine HSG.out.mono ?_
      clear HSG
      rintro e w9 ⟨hc9, hway⟩
      obtain ⟨p1, s1, gB⟩ := HS.out.putB (by omega)
      rw [HS.out.lookB] at hway
      rcases hway with ⟨hx, _⟩ | ⟨_, hx, _⟩ | ⟨_, _, vv, pv, rfl, hvv, hpv, N', hG9⟩
      · have : 2 ≤ 0 := hx
        omega
      · exact absurd p1 hx
      obtain ⟨s', hs'⟩ : ∃ x, x = (putR s nB (Cod.be 4 1)).2 := ⟨_, rfl⟩
      rw [← hs'] at s1 gB
      rw [show (0 : Nat) + 1 = 1 from rfl, ← hs'] at hG9
      obtain ⟨a1, c1, e1⟩ := hvv.slice
      obtain ⟨a2, c2, e2⟩ := hpv.slice
      subst e1 e2
      obtain ⟨n1, hn1⟩ : ∃ x, x = (Wot.signO sq 0 [5]).length := ⟨_, rfl⟩
      obtain ⟨n2, hn2⟩ : ∃ x, x = (Wot.proof 1 0 (Wot.leaves sq (2 ^ 1))).length := ⟨_, rfl⟩
      rw [← hn1] at hvv
      rw [← hn2] at hpv
      rw [← hn1, ← hn2]
      have H9 := Lib.hid (And.intro hG9 (And.intro hc9 (And.intro hvv (And.intro hpv (And.intro s1 gB)))))
      clear hs' hn1 hn2 p1 hG9 hc9 hvv hpv s1 gB
      have hca4 : AllK 4 [Value.int .i64 1, .int .i64 0, .slice a1 n1 c1, .slice a2 n2 c2] := ⟨rfl, fun v hv => by
        simp only [List.mem_cons, List.not_mem_nil, or_false] at hv
        rcases hv with rfl | rfl | rfl | rfl <;> rfl⟩
      go_upto_region 22 with fail
      obtain ⟨wa, hwa⟩ : ∃ q, q = w9.alloc (.cells #[Value.int .i64 1, .int .i64 0, .slice a1 n1 c1, .slice a2 n2 c2] 39) := ⟨_, rfl⟩
      obtain ⟨p7, hp7⟩ : ∃ q, q = w9.heap.size := ⟨_, rfl⟩
      have hb7 : Below w9.heap.size w9 wa := by rw [hwa]; exact (Below.refl _ _).alloc (Nat.le_refl _) _
      have hk7 : Blk wa p7 #[Value.int .i64 1, .int .i64 0, .slice a1 n1 c1, .slice a2 n2 c2] 39 := by rw [hwa, hp7]; exact Blk.new _ _ _
      rw [← hwa, ← hp7]
      have hga := H9.out.1.step hb7
      have hpn : p7 ≠ k0 ∧ p7 ≠ k1 := ⟨by have := Blk.lt H9.out.1.b; omega, by have := Blk.lt H9.out.1.a; omega⟩
      obtain ⟨cpr, hcpr⟩ : ∃ c, c = bV (Wot.print sq 1) := ⟨_, rfl⟩
      have hlk1 : lookN s' nB 1 = 1 := by
        unfold lookN
        rw [H9.out.2.2.2.2.2]
        rfl
      have hsh : ∀ b, s'.get nB = some b → b.length ≤ 7 := fun b hb => by
        rw [H9.out.2.2.2.2.2] at hb
        cases hb
        rw [Cod.be_len]
        decide
      have HA := Lib.hid (And.intro hga (And.intro hb7 (And.intro hk7 (And.intro hpn (And.intro hcpr (And.intro hlk1 hsh))))))
      clear hwa hp7 hb7 hk7 hga hpn hca4 hcpr hlk1 hsh
      refine Tail.wp_region_J 26 (fun k => k == 13 || k == 14 || k == 16 || k == 20 || k == 24) (fun k => if k = 13 then some (.agg cpr.toArray) else if k = 16 then some (.bool true) else if k = 20 then some (.int .i64 1) else if k = 24 then some (.bool true) else none)
        (fun D z w' => Two w1 w' N' noX k1 k0 sb lb d L s' nB nA sq sa 1 1 2 ∧ Chg (fun b => b = k1 ∨ b = k0) wa w' ∧ (D 14 = true → ∃ mb, z 14 = .slice (some ⟨mb, 0, none⟩) 1 1 ∧ wa.heap.size ≤ mb ∧ Blk w' mb #[.int .u8 5] 5))
        (by kernel_rfl) (by kernel_rfl) (fun k hk => by simp at hk; omega) (fun D z z' w' hz h => ⟨h.1, h.2.1, fun d => by rw [← hz 14 d]; exact h.2.2 d⟩)
        (⟨HA.out.1.step ((Below.refl _ _).drew), Chg.of_below ((Below.refl _ _).drew), (fun h => by cases h)⟩) (fun z => ?_)
      simp only [List.take_succ_cons, List.take_zero, List.drop_succ_cons, List.drop_zero]
      refine Tail.J_ex (by rfl) (by rfl) ?_
      apply Exists.intro
      refine ⟨fun w => ?_, ?_⟩
      · go_simp <;> with_reducible rfl
      simp only [Act.put, List.setIfInBounds_toArray, List.set_cons_zero, List.set_cons_succ, Nat.reduceAdd, Nat.reduceEqDiff, reduceIte, Option.getD_some, Option.getD_none]
      refine Tail.J_ex (by rfl) (by rfl) ?_
      apply Exists.intro
      refine ⟨fun w => ?_, ?_⟩
      · go_simp <;> with_reducible rfl
      simp only [Act.put, List.setIfInBounds_toArray, List.set_cons_zero, List.set_cons_succ, Nat.reduceAdd, Nat.reduceEqDiff, reduceIte, Option.getD_some, Option.getD_none]
      refine Tail.J_ex (by rfl) (by rfl) ?_
      apply Exists.intro
      refine ⟨fun w => ?_, ?_⟩
      · go_simp <;> with_reducible rfl
      simp only [Act.put, List.setIfInBounds_toArray, List.set_cons_zero, List.set_cons_succ, Nat.reduceAdd, Nat.reduceEqDiff, reduceIte, Option.getD_some, Option.getD_none]
      refine Tail.J_ex (by rfl) (by rfl) ?_
      apply Exists.intro
      refine ⟨fun w => ?_, ?_⟩
      · go_simp <;> with_reducible rfl
      simp only [Act.put, List.setIfInBounds_toArray, List.set_cons_zero, List.set_cons_succ, Nat.reduceAdd, Nat.reduceEqDiff, reduceIte, Option.getD_some, Option.getD_none]
      refine Tail.J_ex (by rfl) (by rfl) ?_
      apply Exists.intro
      refine ⟨fun w => ?_, ?_⟩
      · go_simp <;> with_reducible rfl
      simp only [Act.put, List.setIfInBounds_toArray, List.set_cons_zero, List.set_cons_succ, Nat.reduceAdd, Nat.reduceEqDiff, reduceIte, Option.getD_some, Option.getD_none]
      refine Tail.J_ex (by rfl) (by rfl) ?_
      apply Exists.intro
      refine ⟨fun w => ?_, ?_⟩
      · go_simp <;> with_reducible rfl
      simp only [Act.put, List.setIfInBounds_toArray, List.set_cons_zero, List.set_cons_succ, Nat.reduceAdd, Nat.reduceEqDiff, reduceIte, Option.getD_some, Option.getD_none]
      refine Tail.J_ex (by rfl) (by rfl) ?_
      apply Exists.intro
      refine ⟨fun w => ?_, ?_⟩
      · go_simp <;> with_reducible rfl
      simp only [Act.put, List.setIfInBounds_toArray, List.set_cons_zero, List.set_cons_succ, Nat.reduceAdd, Nat.reduceEqDiff, reduceIte, Option.getD_some, Option.getD_none]
      refine Tail.J_ex (by rfl) (by rfl) ?_
      apply Exists.intro
      refine ⟨fun w => ?_, ?_⟩
      · go_simp <;> with_reducible rfl
      simp only [Act.put, List.setIfInBounds_toArray, List.set_cons_zero, List.set_cons_succ, Nat.reduceAdd, Nat.reduceEqDiff, reduceIte, Option.getD_some, Option.getD_none]
      refine Tail.J_at (by rfl) (by rfl) ?_
      apply Exists.intro
      refine ⟨fun D w' hd hp hJ => ?_, ?_⟩
      · have cc := show w'.cell? ⟨p7, 1, none⟩ = some (.int .i64 0) from by rw [(hJ.2.1.blk HA.out.2.2.1 (fun e => e.elim HA.out.2.2.2.1.2 HA.out.2.2.2.1.1)).cell]; rfl
        go_simp <;> with_reducible rfl
      simp only [Act.put, List.setIfInBounds_toArray, List.set_cons_zero, List.set_cons_succ, Nat.reduceAdd, Nat.reduceEqDiff, reduceIte, Option.getD_some, Option.getD_none]
      refine Tail.J_ex (by rfl) (by rfl) ?_
      apply Exists.intro
      refine ⟨fun w => ?_, ?_⟩
      · go_simp <;> with_reducible rfl
      simp only [Act.put, List.setIfInBounds_toArray, List.set_cons_zero, List.set_cons_succ, Nat.reduceAdd, Nat.reduceEqDiff, reduceIte, Option.getD_some, Option.getD_none]
      refine Tail.J_ex (by rfl) (by rfl) ?_
      apply Exists.intro
      refine ⟨fun w => ?_, ?_⟩
      · go_simp <;> with_reducible rfl
      simp only [Act.put, List.setIfInBounds_toArray, List.set_cons_zero, List.set_cons_succ, Nat.reduceAdd, Nat.reduceEqDiff, reduceIte, Option.getD_some, Option.getD_none]
      refine Tail.J_ex (by rfl) (by rfl) ?_
      apply Exists.intro
      refine ⟨fun w => ?_, ?_⟩
      · go_simp <;> with_reducible rfl
      simp only [Act.put, List.setIfInBounds_toArray, List.set_cons_zero, List.set_cons_succ, Nat.reduceAdd, Nat.reduceEqDiff, reduceIte, Option.getD_some, Option.getD_none]
      refine Tail.J_ex (by rfl) (by rfl) ?_
      apply Exists.intro
      refine ⟨fun w => ?_, ?_⟩
      · go_simp <;> with_reducible rfl
      simp only [Act.put, List.setIfInBounds_toArray, List.set_cons_zero, List.set_cons_succ, Nat.reduceAdd, Nat.reduceEqDiff, reduceIte, Option.getD_some, Option.getD_none]
      refine Tail.J_call (by rfl) (by rfl) ?_ ?_
      · apply Exists.intro
        apply Exists.intro
        refine ⟨fun w' => ?_, ?_⟩
        · go_simp <;> exact ⟨rfl, rfl⟩
        intro D z' w' hD hz hd hp hJ
        refine (kprint_calls w' k1 sb nB sq 1 1 _ hJ.1.a hsq (Wot.tagged_len _ _)).mono ?_
        rintro e w'' ⟨rfl, hb⟩
        refine ⟨_, rfl, fun c hc => by simp at hc; rw [← hc, HA.out.2.2.2.2.1], hJ.1.step hb, hJ.2.1.trans_below hb, fun h => ?_⟩
        have h14 : D 14 = true := by simpa [Tail.updB] using h
        obtain ⟨mb, e1, e2, e3⟩ := hJ.2.2 h14
        exact ⟨mb, by simpa [Tail.updV] using e1, e2, e3.kept hb⟩
      simp only [Act.put, List.setIfInBounds_toArray, List.set_cons_zero, List.set_cons_succ, Nat.reduceAdd, Nat.reduceEqDiff, reduceIte, Option.getD_some, Option.getD_none]
      refine Tail.J_mov (by rfl) (by rfl) (fun D z' w' hD hz hd hp hJ => ?_) ?_
      · refine ⟨.slice (some ⟨w'.heap.size, 0, none⟩) 1 1, w'.alloc (.cells #[.int .u8 5] 5), ?_, fun c hc => by simp at hc, hJ.1.step ((Below.refl _ _).alloc (Nat.le_refl _) _), hJ.2.1.trans_below ((Below.refl _ _).alloc (Nat.le_refl _) _), fun _ => ⟨w'.heap.size, by simp [Tail.updV], hJ.2.1.size, Blk.new _ _ _⟩⟩
        go_simp <;> with_reducible rfl
      simp only [Act.put, List.setIfInBounds_toArray, List.set_cons_zero, List.set_cons_succ, Nat.reduceAdd, Nat.reduceEqDiff, reduceIte, Option.getD_some, Option.getD_none]
      refine Tail.J_load (by rfl) (by rfl) _ _ rfl p7 0 (by rfl) [Value.int .i64 1, .int .i64 0, .slice a1 n1 c1, .slice a2 n2 c2] (fun D w' _ _ hJ => blk_range (cs := [Value.int .i64 1, .int .i64 0, .slice a1 n1 c1, .slice a2 n2 c2]) (hJ.2.1.blk HA.out.2.2.1 (fun e => e.elim HA.out.2.2.2.1.2 HA.out.2.2.2.1.1))) Tryd.underlying39 rfl i4s ?_
      simp only [Act.put, List.setIfInBounds_toArray, List.set_cons_zero, List.set_cons_succ, Nat.reduceAdd, Nat.reduceEqDiff, reduceIte, Option.getD_some, Option.getD_none]
      refine Tail.J_call (by rfl) (by rfl) ?_ ?_
      · apply Exists.intro
        apply Exists.intro
        refine ⟨fun w' => ?_, ?_⟩
        · go_simp <;> exact ⟨rfl, rfl⟩
        intro D z' w' hD hz hd hp hJ
        have h14 : D 14 = true := hd 14 (by kernel_rfl)
        obtain ⟨mb, e1, e2, e3⟩ := hJ.2.2 h14
        have hz14 := hz 14 h14
        rw [e1] at hz14
        simp only [hz14]
        have hc67 : Chg (fun b => b = k1 ∨ b = k0) w9 w' := (Chg.of_below HA.out.2.1).trans hJ.2.1
        have hvf := two_verify HG8.out hJ.1 (e3.bys (bs := [5]) (cap := 1) (Nat.le_refl 1) (maxLen_ge (by decide)) (fun j x hj => by
          cases j with
          | zero => simp at hj; subst hj; rfl
          | succ j => simp at hj)) (by decide) H9.out.2.2.1 H9.out.2.2.2.1 hc67 (by decide) (by decide)
        rw [← HA.out.2.2.2.2.1] at hvf
        refine hvf.mono ?_
        rintro e w'' ⟨rfl, hb⟩
        exact ⟨_, rfl, fun c hc => by simp at hc; rw [← hc], hJ.1.step hb, hJ.2.1.trans_below hb, fun _ => ⟨mb, by simpa [Tail.updV] using e1, e2, e3.kept hb⟩⟩
      simp only [Act.put, List.setIfInBounds_toArray, List.set_cons_zero, List.set_cons_succ, Nat.reduceAdd, Nat.reduceEqDiff, reduceIte, Option.getD_some, Option.getD_none]
      refine Tail.J_ex (by rfl) (by rfl) ?_
      apply Exists.intro
      refine ⟨fun w => ?_, ?_⟩
      · go_simp <;> with_reducible rfl
      simp only [Act.put, List.setIfInBounds_toArray, List.set_cons_zero, List.set_cons_succ, Nat.reduceAdd, Nat.reduceEqDiff, reduceIte, Option.getD_some, Option.getD_none]
      refine Tail.J_ex (by rfl) (by rfl) ?_
      apply Exists.intro
      refine ⟨fun w => ?_, ?_⟩
      · go_simp <;> with_reducible rfl
      simp only [Act.put, List.setIfInBounds_toArray, List.set_cons_zero, List.set_cons_succ, Nat.reduceAdd, Nat.reduceEqDiff, reduceIte, Option.getD_some, Option.getD_none]
      refine Tail.J_ex (by rfl) (by rfl) ?_
      apply Exists.intro
      refine ⟨fun w => ?_, ?_⟩
      · go_simp <;> with_reducible rfl
      simp only [Act.put, List.setIfInBounds_toArray, List.set_cons_zero, List.set_cons_succ, Nat.reduceAdd, Nat.reduceEqDiff, reduceIte, Option.getD_some, Option.getD_none]
      refine Tail.J_call (by rfl) (by rfl) ?_ ?_
      · apply Exists.intro
        apply Exists.intro
        refine ⟨fun w' => ?_, ?_⟩
        · go_simp <;> exact ⟨rfl, rfl⟩
        intro D z' w' hD hz hd hp hJ
        have hlf := two_left hJ.1 hsq HA.out.2.2.2.2.2.2 (by decide) (by decide)
        rw [HA.out.2.2.2.2.2.1] at hlf
        refine hlf.mono ?_
        rintro e w'' ⟨rfl, hg, hc⟩
        have h14 : D 14 = true := hd 14 (by kernel_rfl)
        obtain ⟨mb, e1, e2, e3⟩ := hJ.2.2 h14
        exact ⟨_, rfl, fun c hc => by simp at hc; rw [← hc]; rfl, hg, hJ.2.1.trans (hc.mono fun b e => .inl e), fun _ => ⟨mb, by simpa [Tail.updV] using e1, e2, hc.blk e3 (fun e => by have := Blk.lt HA.out.1.a; have e : mb = k1 := e; omega)⟩⟩
      simp only [Act.put, List.setIfInBounds_toArray, List.set_cons_zero, List.set_cons_succ, Nat.reduceAdd, Nat.reduceEqDiff, reduceIte, Option.getD_some, Option.getD_none]
      refine Tail.J_ex (by rfl) (by rfl) ?_
      apply Exists.intro
      refine ⟨fun w => ?_, ?_⟩
      · go_simp <;> with_reducible rfl
      simp only [Act.put, List.setIfInBounds_toArray, List.set_cons_zero, List.set_cons_succ, Nat.reduceAdd, Nat.reduceEqDiff, reduceIte, Option.getD_some, Option.getD_none]
      refine Tail.J_ex (by rfl) (by rfl) ?_
      apply Exists.intro
      refine ⟨fun w => ?_, ?_⟩
      · go_simp <;> with_reducible rfl
      simp only [Act.put, List.setIfInBounds_toArray, List.set_cons_zero, List.set_cons_succ, Nat.reduceAdd, Nat.reduceEqDiff, reduceIte, Option.getD_some, Option.getD_none]
      refine Tail.J_ex (by rfl) (by rfl) ?_
      apply Exists.intro
      refine ⟨fun w => ?_, ?_⟩
      · go_simp <;> with_reducible rfl
      simp only [Act.put, List.setIfInBounds_toArray, List.set_cons_zero, List.set_cons_succ, Nat.reduceAdd, Nat.reduceEqDiff, reduceIte, Option.getD_some, Option.getD_none]
      refine Tail.J_call (by rfl) (by rfl) ?_ ?_
      · apply Exists.intro
        apply Exists.intro
        refine ⟨fun w' => ?_, ?_⟩
        · go_simp <;> exact ⟨rfl, rfl⟩
        intro D z' w' hD hz hd hp hJ
        refine (wakes12_calls w' hJ.1.st.tab).mono ?_
        rintro e w'' ⟨rfl, hb⟩
        have h14 : D 14 = true := hd 14 (by kernel_rfl)
        obtain ⟨mb, e1, e2, e3⟩ := hJ.2.2 h14
        exact ⟨_, rfl, fun c hc => by simp at hc; rw [← hc], hJ.1.step hb, hJ.2.1.trans_below hb, fun _ => ⟨mb, by simpa [Tail.updV] using e1, e2, e3.kept hb⟩⟩
      simp only [Act.put, List.setIfInBounds_toArray, List.set_cons_zero, List.set_cons_succ, Nat.reduceAdd, Nat.reduceEqDiff, reduceIte, Option.getD_some, Option.getD_none]
      refine Tail.J_ex (by rfl) (by rfl) ?_
      apply Exists.intro
      refine ⟨fun w => ?_, ?_⟩
      · go_simp <;> with_reducible rfl
      simp only [Act.put, List.setIfInBounds_toArray, List.set_cons_zero, List.set_cons_succ, Nat.reduceAdd, Nat.reduceEqDiff, reduceIte, Option.getD_some, Option.getD_none]
      intro wz hJ
      have HZ := Lib.hid hJ.1.bel
      clear hJ
      go_wp2_with fail
      go_ret
      exact ⟨rfl, H1.out.1.trans (HZ.out.mono H1.out.1.size)⟩
end Go.Proofs.YtdlkghdfkjdajaaDoor
end
section
namespace Go.Mem
open Go Go.RowKit
section
variable {w w' : World} {v : Value} {xs : List Int}
end
end Go.Mem
end
section
namespace Go.Mem
open Go Go.ChangeShapes Go.WideShapes Go.ChangeAt Go.RowKit
theorem byte_of_wf {x : Int} (h : (Lit.int .u8 x).wf = true) : ∃ n : Nat, n < 256 ∧ x = (n : Int) := by
  simp [Lit.wf, IntKind.min, IntKind.max, IntKind.signed, IntKind.bits] at h
  exact ⟨x.toNat, by omega, by omega⟩
theorem int_of_wf {x : Int} (h : (Lit.int .i64 x).wf = true) : -9223372036854775808 ≤ x ∧ x ≤ 9223372036854775807 := by
  simp [Lit.wf, IntKind.min, IntKind.max, IntKind.signed, IntKind.bits] at h
  exact ⟨by omega, by omega⟩
theorem addr_none {w : World} {a : Addr} {v : Value} (h : w.cell? a = some v) : a = ⟨a.block, a.off, none⟩ := by
  obtain ⟨b, o, s⟩ := a
  unfold World.cell? at h
  cases s with
  | none => rfl
  | some n =>
    split at h
    · simp at h
    · cases h
theorem add_plain (b off i : Nat) : (⟨b, off, none⟩ : Addr).add i = ⟨b, off + i, none⟩ := by
  unfold Addr.add
  split
  · subst_vars; rfl
  · rfl
section
variable {P : Program} {H : Type} {enc : TypeId × Value → H} {W : World} {base : Nat}
end
end Go.Mem
end
section
namespace Go.Mem
open Go Go.ChangeShapes Go.WideShapes Go.ChangeAt Go.RowKit
section
variable {P : Program} {H : Type} {enc : TypeId × Value → H} {W : World} {base : Nat}
theorem open_rows {t e q : TypeId} {v : Value} {x : DataW H × List MemPlace} {held : Bool} (ht : P.underlying t = some (.slice e)) (he : P.underlying e = some (.slice q)) (hq : P.underlying q = some (.int .u8))
    (ce : P.cellsOf e = 1) (cq : P.cellsOf q = 1) (hs : ∃ a len cap, v = .slice a len cap) (h : ∃ fuel, DataW.trod enc P W base (fun _ => true) held fuel t v.cells.toList = some x) : ∃ rs, Rws W v rs := by
  obtain ⟨a, len, cap, rfl⟩ := hs
  obtain ⟨fuel, hf⟩ := h
  rcases Deep.open_int_rows ht he hq ce cq hf with ⟨hcs, _⟩ | ⟨a', len', cap', A, L, C, Z, hcs, _, hl, hm, _, hr⟩
  · simp [Value.cells] at hcs
    obtain ⟨rfl, rfl, rfl⟩ := hcs
    exact ⟨[], Rws.nil W⟩
  · simp [Value.cells] at hcs
    obtain ⟨rfl, rfl, rfl⟩ := hcs
    have hlen : ((List.range len).map fun r => ((Z r).take (L r)).map fun z => UInt8.ofNat z.toNat).length = len := by simp
    refine ⟨(List.range len).map fun r => ((Z r).take (L r)).map fun z => UInt8.ofNat z.toNat, some a', cap, by rw [hlen], by rw [hlen]; exact hl, hm, fun hp => ?_⟩
    rw [hlen] at hp
    have h0 := (hr 0 (by omega)).1
    have ha : a' = ⟨a'.block, a'.off, none⟩ := addr_none (a := a') (by simpa [Addr.add] using h0)
    refine ⟨a'.block, a'.off, by rw [← ha], fun i r hi => ?_⟩
    have hil : i < len := by
      rcases Nat.lt_or_ge i len with h | h
      · exact h
      · rw [List.getElem?_eq_none (by rw [hlen]; exact h)] at hi; cases hi
    obtain ⟨c1, c2, c3, c4, c5, c6, c7⟩ := hr i (by omega)
    rw [ha, add_plain] at c1
    refine ⟨_, c1, ?_⟩
    have hr' : r = ((Z i).take (L i)).map fun z => UInt8.ofNat z.toNat := by
      rw [List.getElem?_map, List.getElem?_range hil] at hi
      exact (Option.some.inj hi).symm
    have hzl : r.length = L i := by rw [hr']; simp; omega
    refine ⟨A i, C i, by rw [hzl], by rw [hzl]; exact c2, c3, fun hp2 => ?_⟩
    rw [hzl] at hp2
    obtain ⟨a2, hA⟩ : ∃ a2, A i = some a2 := by
      cases hA : A i with
      | none => have := c6 hA; omega
      | some a2 => exact ⟨a2, rfl⟩
    obtain ⟨_, hc⟩ := c7 a2 hA
    have ha2 : a2 = ⟨a2.block, a2.off, none⟩ := addr_none (a := a2) (by simpa [Addr.add] using hc 0 (by omega))
    refine ⟨a2.block, a2.off, by rw [hA, ← ha2], fun k u hu => ?_⟩
    have hkl : k < L i := by
      rcases Nat.lt_or_ge k (L i) with h | h
      · exact h
      · rw [List.getElem?_eq_none (by rw [hzl]; exact h)] at hu; cases hu
    have hck := hc k (by omega)
    rw [ha2, add_plain] at hck
    rw [hck]
    have hzi : (Z i)[k]? = some (Z i)[k] := List.getElem?_eq_getElem (by omega)
    have hu' : u = UInt8.ofNat (Z i)[k].toNat := by
      rw [hr'] at hu
      simp only [List.getElem?_map, List.getElem?_take, hkl, if_true, hzi, Option.map_some, Option.some.injEq] at hu
      exact hu.symm
    obtain ⟨n, hn, hx⟩ := byte_of_wf (c5 (Z i)[k] (List.getElem_mem _))
    rw [List.getD_eq_getElem?_getD, hzi, hu', hx]
    simp [UInt8.toNat_ofNat']
    omega
end
end Go.Mem
end
