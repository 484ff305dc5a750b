/- Texts of this proof, packed: KeysOnceWalk, OpenKey, TabOf. -/
import Derived.Test.YtdlkghdfkjdajaaGreatDoorPkO12
import Derived.Test.YtdlkghdfkjdajaaGreatDoorPkO15
import Derived.Test.YtdlkghdfkjdajaaGreatDoorPkO11
import Derived.Test.YtdlkghdfkjdajaaGreatDoorRows
import Derived.Test.YtdlkghdfkjdajaaGreatDoorPkO02
import Derived.Lib.LaidTab
import Derived.LaidMore
section
namespace Go.Proofs.YtdlkghdfkjdajaaGreatDoor
open Go Go.RowKit Go.Mem Gf
set_option linter.unusedVariables false
set_option linter.unusedSimpArgs false
attribute [local go_sem ↓] Go.wp_at_zero Go.wp_at_succ
theorem i4a : (Tryz.prog.info? 43).map (·.size) = some 4 := by kernel_rfl
theorem load_act4 (dst : Option Tmp) (x : Operand) (ty : TypeId) (pos : String) (af : Array Edge) (gd : Option (Tmp × Bool)) (a : Act) (w : World) (K : Act → World → Prop) (Q : Exit → Act → World → Prop)
    (hp : ptrIs (a.eval x) = true) (ht : SomeK 4 w (ptrB (a.eval x)) (ptrO (a.eval x))) :
    Oper.wp Tryz.prog ⟨dst, .load 43 x, ty, pos, af, gd⟩ a w K Q = K (a.put dst (.agg (readK 4 w (ptrB (a.eval x)) (ptrO (a.eval x))).toArray)) w :=
  wp_loadS Tryz.underlying43 rfl i4a dst x ty pos af gd a w K Q hp ht
theorem store_act4 (dst : Option Tmp) (x y : Operand) (ty : TypeId) (pos : String) (af : Array Edge) (a : Act) (w : World) (K : Act → World → Prop) (Q : Exit → Act → World → Prop)
    (hp : ptrIs (a.eval x) = true) (hy : aggIs (a.eval y) = true) (ht : HasK 4 w (ptrB (a.eval x)) (ptrO (a.eval x))) (hc : AllK 4 (aggL (a.eval y))) :
    Oper.wp Tryz.prog ⟨dst, .store 43 x y, ty, pos, af, none⟩ a w K Q = K (a.put dst undef) (w.setCells (ptrB (a.eval x)) (ptrO (a.eval x)) (aggL (a.eval y))) :=
  wp_storeK i4a dst x y ty pos af a w K Q hp hy ht hc
theorem load_sig (dst : Option Tmp) (x : Operand) (ty : TypeId) (pos : String) (af : Array Edge) (gd : Option (Tmp × Bool)) (a : Act) (w : World) (K : Act → World → Prop) (Q : Exit → Act → World → Prop)
    (hp : ptrIs (a.eval x) = true) (ht : HasK 4 w (ptrB (a.eval x)) (ptrO (a.eval x))) :
    Oper.wp Tryz.prog ⟨dst, .load 48 x, ty, pos, af, gd⟩ a w K Q = K (a.put dst (.agg (readK 4 w (ptrB (a.eval x)) (ptrO (a.eval x))).toArray)) w :=
  wp_loadG Tryz.underlying48 rfl i4s dst x ty pos af gd a w K Q hp ht
theorem make_two (w : World) : (Instr.makeSlice 37 (.int .i64 2) (.int .i64 2)).run Tryz.prog w = .ok (.slice (some ⟨w.heap.size, 0, none⟩) 2 2) (w.alloc (.cells #[.pointer none, .pointer none] 38)) := by
  obtain ⟨i, hi, hz, hs, hb⟩ := info_parts (show (Tryz.prog.info? 38).map (fun i => (i.zero, i.size, i.bytes)) = some (some (.pointer none), 1, 8) by kernel_rfl)
  have := run_make (P := Tryz.prog) w 37 38 i _ Tryz.underlying37 hi hz .i64 .i64 2 2 (by omega) (Int.le_refl _) (by rw [hb]; omega) (by omega)
  rw [hs, show madeCells (Value.pointer none).cells (Int.toNat 2 * 1) = #[.pointer none, .pointer none] from by kernel_rfl] at this
  exact this
theorem own_one (w : World) (t : TypeId) (u : UInt8) : OwnX t (w.alloc (.cells #[.int .u8 (u.toNat : Int)] t)) w.heap.size (.slice (some ⟨w.heap.size, 0, none⟩) 1 1) [u] := by
  refine .inr ⟨w.heap.size, 1, #[.int .u8 (u.toNat : Int)], (0, 0), rfl, Nat.le_refl _, Blk.new _ _ _, .inl rfl, Nat.le_refl _, maxLen_ge (by decide), rfl, fun i x hi => ?_, ?_⟩
  · cases i with
    | zero => simp at hi; subst hi; rfl
    | succ i => simp at hi
  · intro i hi
    have : i = 0 := by simpa using hi
    subst this
    exact ⟨u, rfl⟩
def nK : ByteArray := ⟨#[107]⟩
def XO (p11 p12 B : Nat) (b : Nat) : Prop := b = p11 ∨ b = p12 ∨ b = B
structure Own3 (w : World) (p11 p12 B : Nat) (pr : List UInt8) (us : List Bool) (a b : Value) : Prop where
  b11 : Blk w p11 (bV pr).toArray 34
  b12 : Blk w p12 (us.map Value.bool).toArray 36
  bB : Blk w B #[a, b] 38
section
variable {w w' : World} {p11 p12 B : Nat} {pr : List UInt8} {us : List Bool} {a b : Value}
theorem Own3.below (o : Own3 w p11 p12 B pr us a b) (hb : Below w.heap.size w w') : Own3 w' p11 p12 B pr us a b := ⟨o.b11.kept hb, o.b12.kept hb, o.bB.kept hb⟩
theorem Own3.set0 (o : Own3 w p11 p12 B pr us a b) (h : p11 ≠ B ∧ p12 ≠ B) (v : Value) : Own3 (w.setCell ⟨B, 0, none⟩ v) p11 p12 B pr us v b := by
  have hc : Chg (fun b => b = B) w (w.setCell ⟨B, 0, none⟩ v) := Chg.set (S := fun b => b = B) (a := ⟨B, 0, none⟩) (Chg.refl _ _) rfl v
  exact ⟨hc.blk o.b11 h.1, hc.blk o.b12 h.2, o.bB.set 0 v⟩
theorem Own3.set1 (o : Own3 w p11 p12 B pr us a b) (h : p11 ≠ B ∧ p12 ≠ B) (v : Value) : Own3 (w.setCell ⟨B, 1, none⟩ v) p11 p12 B pr us a v := by
  have hc : Chg (fun b => b = B) w (w.setCell ⟨B, 1, none⟩ v) := Chg.set (S := fun b => b = B) (a := ⟨B, 1, none⟩) (Chg.refl _ _) rfl v
  exact ⟨hc.blk o.b11 h.1, hc.blk o.b12 h.2, o.bB.set 1 v⟩
theorem Own3.use (o : Own3 w p11 p12 B pr us a b) (h : p11 ≠ p12 ∧ B ≠ p12) (j : Nat) : Own3 (w.setCell ⟨p12, j, none⟩ (.bool true)) p11 p12 B pr (us.set j true) a b := by
  have hc : Chg (fun b => b = p12) w (w.setCell ⟨p12, j, none⟩ (.bool true)) := Chg.set (S := fun b => b = p12) (a := ⟨p12, j, none⟩) (Chg.refl _ _) rfl _
  have h2 := o.b12.set j (.bool true)
  rw [List.setIfInBounds_toArray, show (us.map Value.bool).set j (.bool true) = (us.set j true).map Value.bool from by rw [List.map_set]] at h2
  exact ⟨hc.blk o.b11 h.1, h2, hc.blk o.bB h.2⟩
theorem Own3.used (o : Own3 w p11 p12 B pr us a b) {j : Nat} {x : Bool} (hj : us[j]? = some x) : w.cell? ⟨p12, j, none⟩ = some (.bool x) := by
  rw [o.b12.cell, List.getElem?_toArray, List.getElem?_map, hj]
  rfl
end
structure Onc (w0 w : World) (N : Nat → Prop) (p11 p12 B k0 k1 sb lb d L : Nat) (s : St) (sd : List UInt8) (h x0 x1 c m : Nat) (us : List Bool) : Prop where
  two : Two w0 w N (XO p11 p12 B) k0 k1 sb lb d L s nK nK sd sd h x0 x1
  has : KHas m s nK c
  le : c ≤ 2 ^ h ∧ x0 ≤ 2 ^ h ∧ x1 ≤ 2 ^ h
  us4 : us.length = 4
  usc : ∀ j, us[j]? = some true → j < c
  own : Own3 w p11 p12 B (Wot.print sd h) us (.pointer (some ⟨k0, 0, none⟩)) (.pointer (some ⟨k1, 0, none⟩))
theorem used_step {us : List Bool} {c leaf : Nat} (h : ∀ j, us[j]? = some true → j < c) (hl : c ≤ leaf) : ∀ j, (us.set leaf true)[j]? = some true → j < leaf + 1 := fun j hj => by
  by_cases e : leaf = j
  · omega
  · rw [List.getElem?_set_ne e] at hj
    have := h j hj
    omega
attribute [local go_sem ↓] store_sig load_sig load_act4 store_act4 load_key16 load_hash store_hash
attribute [local go_sem] ptrB_eq ptrO_eq ptrIs_eq aggL_eq aggIs_eq readK_drew hasK_drew readK_alloc_past hasK_alloc_past readK_alloc_in hasK_alloc_in setCells_alloc_at
set_option maxRecDepth 20000 in
set_option maxHeartbeats 8000000 in
theorem keysOnce_walk (w : World) (hT : Tab w) (sd : List UInt8) (hs : sd.length = 16) (h0 : Int) (_hh : -9223372036854775808 ≤ h0 ∧ h0 ≤ 9223372036854775807) (va : Value) (la : List ActK) (ha : Sls 4 ActKR w va la) :
    Calls Tryz.prog 3 #[.agg (bV sd).toArray, .int .i64 h0, va] w fun e w' => e = .returned (.bool true) ∧ Below w.heap.size w w' := by
  have HT := Lib.hid hT
  have hla := ha.len
  obtain ⟨aa, ac, rfl⟩ := ha.eq_slice
  obtain ⟨n, hn⟩ : ∃ n, n = la.length := ⟨_, rfl⟩
  rw [← hn] at ha hla ⊢
  have HA := Lib.hid (And.intro ha hn)
  clear hT ha hn _hh
  obtain ⟨cs, hcs⟩ : ∃ c, c = bV sd := ⟨_, rfl⟩
  have hcl : cs.length = 16 := by rw [hcs, bV_len]; exact hs
  rw [← hcs]
  have HCS := Lib.hid hcs
  clear hcs
  have hmk := make_two
  go_enter Tryz.func3, Tryz.ntmps3
  go_upto_region 1 with fail
  obtain ⟨w1, hw1⟩ : ∃ q, q = w.alloc (.cells cs.toArray 23) := ⟨_, rfl⟩
  obtain ⟨p3, hp3⟩ : ∃ q, q = w.heap.size := ⟨_, rfl⟩
  have hb1 : Below w.heap.size w w1 := by rw [hw1]; exact (Below.refl _ _).alloc (Nat.le_refl _) _
  have hk1 : Blk w1 p3 cs.toArray 23 := by rw [hw1, hp3]; exact Blk.new _ _ _
  rw [← hw1, ← hp3]
  have HP3 := Lib.hid (And.intro hb1 hk1)
  clear hw1 hp3 hb1 hk1
  go_wp2_with fail
  refine (within_calls h0 3 (by decide) (by decide) _).mono ?_
  rintro e _ ⟨rfl, rfl⟩
  obtain ⟨hn1, hn2⟩ := within_range h0 3 (by decide)
  obtain ⟨h, hz⟩ : ∃ h : Nat, within h0 3 = h := ⟨(within h0 3).toNat, by omega⟩
  rw [hz] at hn1 hn2 ⊢
  have hh2 : h ≤ 2 := by omega
  have hh4 : h ≤ 4 := by omega
  clear hz hn1 hn2
  have h4 : 2 ^ h ≤ 4 := Nat.pow_le_pow_right (n := 2) (by decide) hh2
  obtain ⟨nn, hnn⟩ : ∃ n, n = 2 ^ h := ⟨_, rfl⟩
  have hsh : IntKind.i64.wrap (2 ^ h) = (nn : Int) := by
    rw [hnn]
    have : ((2 : Int) ^ h) = ((2 ^ h : Nat) : Int) := by simp
    rw [this]
    generalize 2 ^ h = z at h4 ⊢
    exact IntWalk.i64_in _ (by omega)
  have HN := Lib.hid (And.intro hnn h4)
  clear hnn h4
  go_wp2_with fail
  refine (lab_new 16 w1 w1 (HT.out.below HP3.out.1) (Below.refl _ _) (by omega) (by omega)).mono ?_
  rintro e w2 ⟨d, L, rfl, hl2, ht, _⟩
  have H2 := Lib.hid (And.intro hl2 ht)
  clear hl2 ht
  go_wp2_with fail
  refine (lab_open_uniq H2.out.1 H2.out.2 (slots := 4) (room := 3) (by omega) (by omega) (by decide) (l := List.replicate 4 Sto.Rec.free) rfl (Holds.fresh 4 3) rfl (uniq_free 4)).mono ?_
  rintro e w3 ⟨sb, lb, rfl, hs3, _⟩
  have H3 := Lib.hid (show LabS w1 w3 sb lb d L st0 from hs3)
  have hk3 := HP3.out.2.kept hs3.bel
  have k3 : readK 16 w3 p3 0 = cs := blk_read hk3 hcl (fun k _ => by simp)
  have k3' : HasK 16 w3 p3 0 := blk_has hk3 (by simp [hcl])
  have hpr := hprint_calls sd h w3 hs3.st.tab hs hh4
  obtain ⟨cpr, hcpr⟩ : ∃ c, c = bV (Wot.print sd h) := ⟨_, rfl⟩
  have hprl : cpr.length = 32 := by rw [hcpr, bV_len]; exact Wot.tagged_len _ _
  have hcap : AllK 32 cpr := ⟨hprl, fun v hv => by rw [hcpr] at hv; exact bV_one _ v hv⟩
  rw [← HCS.out, ← hcpr] at hpr
  have HPR := Lib.hid hpr
  have HCP := Lib.hid hcpr
  clear hs3 hk3 hpr hcpr H2
  go_wp2_with fail
  refine HPR.out.mono ?_
  rintro e w4 ⟨rfl, hb4⟩
  have HB4 := Lib.hid hb4
  clear hb4 k3 k3' HPR
  go_upto_region 11 with fail
  obtain ⟨w5, hw5⟩ : ∃ q, q = ((w4.alloc (.cells cpr.toArray 34)).alloc (.cells #[.bool false, .bool false, .bool false, .bool false] 36)).alloc (.cells #[.pointer none, .pointer none] 38) := ⟨_, rfl⟩
  obtain ⟨p11, hp11⟩ : ∃ q, q = w4.heap.size := ⟨_, rfl⟩
  obtain ⟨p12, hp12⟩ : ∃ q, q = w4.heap.size + 1 := ⟨_, rfl⟩
  obtain ⟨B, hB⟩ : ∃ q, q = w4.heap.size + 1 + 1 := ⟨_, rfl⟩
  have hb5 : Below w4.heap.size w4 w5 := by rw [hw5]; exact (((Below.refl _ _).alloc (Nat.le_refl _) _).alloc (by simp) _).alloc (by simp; omega) _
  have hs5 : w5.heap.size = w4.heap.size + 3 := by rw [hw5]; simp
  have hk11 : Blk w5 p11 (bV (Wot.print sd h)).toArray 34 := by rw [hw5, hp11, ← HCP.out]; exact ((Blk.new _ _ _).alloc _).alloc _
  have hk12 : Blk w5 p12 (([false, false, false, false] : List Bool).map Value.bool).toArray 36 := by rw [hw5, hp12]; exact (Blk.new_at _ _ _ _ (by simp)).alloc _
  have hkB : Blk w5 B #[.pointer none, .pointer none] 38 := by rw [hw5, hB]; exact Blk.new_at _ _ _ _ (by simp)
  rw [← hw5, ← hB]
  try rw [← hp12]
  try rw [← hp11]
  have HNE := Lib.hid (show p11 ≠ p12 ∧ p11 ≠ B ∧ p12 ≠ B from ⟨by omega, by omega, by omega⟩)
  obtain ⟨us, hus⟩ : ∃ us : List Bool, us = [false, false, false, false] := ⟨_, rfl⟩
  rw [← hus] at hk12
  have HSX := Lib.hid (show StoX w1 w5 (fun b => (DL d L b ∨ b = sb ∨ b = lb) ∨ XO p11 p12 B b) (XO p11 p12 B) sb lb d L st0 ∧ Own3 w5 p11 p12 B (Wot.print sd h) us (.pointer none) (.pointer none) from by
    have s3 := H3.out
    have z1 := s3.bel.size
    have z2 := HB4.out.size
    have hb35 : Below w3.heap.size w3 w5 := HB4.out.trans (hb5.mono z2)
    refine ⟨⟨s3.st.grow (S := fun _ => False) (Chg.of_below hb35) (fun _ _ => id) (fun _ h => h.elim) (fun b hb => hb.elim .inl (fun hb => .inr (by rcases hb with e | e | e <;> omega))) (fun b hb => .inl hb) (fun b hb => hb.elim (fun hb => Nat.lt_of_lt_of_le (s3.st.old b hb) hb35.size) (fun hb => by rcases hb with e | e | e <;> omega)), s3.bel.trans (hb35.mono z1), fun b hb => ?_, fun b hb => ⟨.inr hb, fun hf => by have := s3.st.lt b hf; rcases hb with e | e | e <;> omega⟩⟩, ⟨hk11, hk12, hkB⟩⟩
    rcases hb with (hb | hb | hb) | hb
    · rcases hb with rfl | rfl
      · exact s3.d1
      · exact s3.l1
    · rw [hb]; exact s3.s1
    · rw [hb]; exact s3.b1
    · rcases hb with e | e | e <;> omega)
  have HUS := Lib.hid hus
  have hlk : lookN st0 nK 0 = 0 := by unfold lookN; rw [st0_get]
  have hshort : ∀ b, st0.get nK = some b → b.length ≤ 7 := fun b hb => by rw [st0_get] at hb; cases hb
  obtain ⟨lk, lk_eq'⟩ : ∃ lk : Nat, lk = 0 := ⟨_, rfl⟩
  have lk_eq : lookN st0 nK 0 = lk := by rw [hlk, lk_eq']
  have HLK := Lib.hid lk_eq'
  have HSH := Lib.hid (And.intro lk_eq hshort)
  clear hw5 hp11 hp12 hB hb5 hs5 hk11 hk12 hkB hus hlk hshort lk_eq lk_eq' H3 HB4
  go_wp2_with fail
  go_loopw [47] (fun v wr => (v = .int .i64 0 ∧ ∃ N, StoX w1 wr N (XO p11 p12 B) sb lb d L st0 ∧ ∃ a b, Own3 wr p11 p12 B (Wot.print sd h) us a b) ∨ (v = .int .i64 1 ∧ ∃ N k0, One w1 wr N (XO p11 p12 B) k0 sb lb d L st0 nK sd h lk ∧ ∃ b, Own3 wr p11 p12 B (Wot.print sd h) us (.pointer (some ⟨k0, 0, none⟩)) b) ∨ (v = .int .i64 2 ∧ ∃ N k0 k1, Two w1 wr N (XO p11 p12 B) k0 k1 sb lb d L st0 nK nK sd sd h lk lk ∧ Own3 wr p11 p12 B (Wot.print sd h) us (.pointer (some ⟨k0, 0, none⟩)) (.pointer (some ⟨k1, 0, none⟩)))) (fun v _ => 2 - (intOf v).toNat)
  case atStart => exact .inl ⟨rfl, _, HSX.out.1, _, _, HSX.out.2⟩
  case round =>
    rcases hrel with ⟨rfl, N, hg, a, b, ho⟩ | ⟨rfl, N, k0, hg, b, ho⟩ | ⟨rfl, N, k0, k1, hg, ho⟩
    · have hk3 := HP3.out.2.kept hg.bel
      have k3 : readK 16 wr p3 0 = cs := blk_read hk3 hcl (fun k _ => by simp)
      have k3' : HasK 16 wr p3 0 := blk_has hk3 (by simp [hcl])
      have hop := stox_open hg hs hh4 HSH.out.2
      rw [HSH.out.1, ← HCS.out] at hop
      have HOP := Lib.hid (And.intro hop ho)
      clear hg hk3 hop ho
      go_wp2_with fail
      refine HOP.out.1.mono ?_
      rintro e w6 ⟨k0, N', rfl, hg6, hb6⟩
      have ho6 := HOP.out.2.below hb6
      have cB : w6.cell? ⟨B, 0, none⟩ = some a := by rw [ho6.bB.cell]; rfl
      have fB : w6.frozen? ⟨B, 0, none⟩ = false := ho6.bB.free 0
      have hc6 : Chg (XO p11 p12 B) w6 (w6.setCell ⟨B, 0, none⟩ (.pointer (some ⟨k0, 0, none⟩))) := Chg.set (S := XO p11 p12 B) (a := ⟨B, 0, none⟩) (Chg.refl _ _) (.inr (.inr rfl)) _
      have H6 := Lib.hid (And.intro (hg6.touch hc6) (ho6.set0 HNE.out.2 (.pointer (some ⟨k0, 0, none⟩))))
      clear hg6 hb6 ho6 hc6 HOP k3 k3'
      go_wp2
      exact ⟨.inr (.inl ⟨by go_num, N', k0, H6.out.1, b, H6.out.2⟩), by simp [intOf]⟩
    · have hk3 := HP3.out.2.kept hg.sto.bel
      have k3 : readK 16 wr p3 0 = cs := blk_read hk3 hcl (fun k _ => by simp)
      have k3' : HasK 16 wr p3 0 := blk_has hk3 (by simp [hcl])
      have hop := one_open hg hs hh4 HSH.out.2
      rw [HSH.out.1, ← HCS.out] at hop
      have HOP := Lib.hid (And.intro hop ho)
      clear hg hk3 hop ho
      go_wp2_with fail
      refine HOP.out.1.mono ?_
      rintro e w6 ⟨k1, N', rfl, hg6, hb6⟩
      have ho6 := HOP.out.2.below hb6
      have cB : w6.cell? ⟨B, 1, none⟩ = some b := by rw [ho6.bB.cell]; rfl
      have fB : w6.frozen? ⟨B, 1, none⟩ = false := ho6.bB.free 1
      have hc6 : Chg (XO p11 p12 B) w6 (w6.setCell ⟨B, 1, none⟩ (.pointer (some ⟨k1, 0, none⟩))) := Chg.set (S := XO p11 p12 B) (a := ⟨B, 1, none⟩) (Chg.refl _ _) (.inr (.inr rfl)) _
      have H6 := Lib.hid (And.intro (hg6.touch hc6) (ho6.set1 HNE.out.2 (.pointer (some ⟨k1, 0, none⟩))))
      clear hg6 hb6 ho6 hc6 HOP k3 k3'
      go_wp2
      exact ⟨.inr (.inr ⟨by go_num, N', k0, k1, H6.out.1, H6.out.2⟩), by simp [intOf]⟩
    · have HG := Lib.hid (And.intro hg ho)
      clear hg ho HSX
      go_wp2_with fail
      go_loopw [17, 9] (fun v vs wr => ∃ (i : Nat) (N : Nat → Prop) (k0 k1 sb lb : Nat) (s : St) (x0 x1 c : Nat) (us : List Bool), i ≤ n ∧ i ≤ 12 ∧ v = .int .i64 i ∧ vs = .pointer (some ⟨sb, 0, none⟩) ∧ Onc w1 wr N p11 p12 B k0 k1 sb lb d L s sd h x0 x1 c i us) (fun v _ _ => 12 - (intOf v).toNat)
      case atStart =>
        refine ⟨0, N, k0, k1, sb, lb, st0, lk, lk, 0, us, by omega, by omega, rfl, rfl, HG.out.1, .inl ⟨st0_good.holds, st0_good.uniq, rfl, rfl, st0_good.bnd, st0_good.writes, rfl, ⟨rfl, fun nm _ => look_free 4 nm, .inl ⟨rfl, look_free 4 _⟩⟩⟩, ⟨Nat.zero_le _, by rw [HLK.out]; exact Nat.zero_le _, by rw [HLK.out]; exact Nat.zero_le _⟩, by rw [HUS.out]; rfl, fun j hj => ?_, HG.out.2⟩
        rw [HUS.out] at hj
        match j, hj with
        | 0, hj => cases hj
        | 1, hj => cases hj
        | 2, hj => cases hj
        | 3, hj => cases hj
      case round => as_aux_lemma =>
        clear HG HLK HUS
        obtain ⟨i, N, k0, k1, sb, lb, s, x0, x1, c, us, hin, hi12, rfl, rfl, hO⟩ := hrel
        have H := Lib.hid hO
        clear hO
        by_cases hik : i < n ∧ i < 12
        · obtain ⟨hx1, hx2⟩ := hik
          obtain ⟨ba, oa, act, xcs, rfl, Hac, hxl, hxc, v, rfl, hbs⟩ := HA.out.1.at i (by have := HA.out.2; omega)
          have i0 : (0 : Int) ≤ (i : Int) := by omega
          have i1 : (i : Int) < (n : Int) := by omega
          have i2 : (i : Int) < 12 := by omega
          obtain ⟨ac0, ac1, ac2, ac3⟩ := act
          simp only at hbs
          have hbw := HP3.out.1.trans (H.out.two.bel.mono HP3.out.1.size)
          have hrg : wr.rangeAt ba (oa + i * 4) [Value.int .i64 ac0, .int .i64 ac1, .int .i64 ac2, v] := fun j u hj => (hbw.cell (p := ⟨ba, oa + i * 4 + j, none⟩) (World.block_lt_of_cell? w _ (hxc j u hj))).trans (hxc j u hj)
          have r4 : readK 4 wr ba (oa + i * 4) = [Value.int .i64 ac0, .int .i64 ac1, .int .i64 ac2, v] := readK_eq hrg rfl
          have s4 : SomeK 4 wr ba (oa + i * 4) := someK_of hrg rfl
          obtain ⟨av, cv, rfl⟩ := hbs.eq_slice
          obtain ⟨bn, hbn⟩ : ∃ n, n = ac3.length := ⟨_, rfl⟩
          rw [← hbn] at hbs r4 hrg
          have hca4 : AllK 4 [Value.int .i64 ac0, .int .i64 ac1, .int .i64 ac2, .slice av bn cv] := ⟨rfl, fun v hv => by
            simp only [List.mem_cons, List.not_mem_nil, or_false] at hv
            rcases hv with rfl | rfl | rfl | rfl <;> rfl⟩
          have HBS := Lib.hid hbs
          have HBW := Lib.hid hbw
          clear hbs hbw hrg hxc hxl Hac hbn
          go_upto_region 23 with fail
          obtain ⟨wa, hwa⟩ : ∃ q, q = wr.alloc (.cells #[Value.int .i64 ac0, .int .i64 ac1, .int .i64 ac2, .slice av bn cv] 43) := ⟨_, rfl⟩
          obtain ⟨p18, hp18⟩ : ∃ q, q = wr.heap.size := ⟨_, rfl⟩
          have hba : Below wr.heap.size wr wa := by rw [hwa]; exact (Below.refl _ _).alloc (Nat.le_refl _) _
          have hka : Blk wa p18 #[Value.int .i64 ac0, .int .i64 ac1, .int .i64 ac2, .slice av bn cv] 43 := by rw [hwa, hp18]; exact Blk.new _ _ _
          rw [← hwa, ← hp18]
          have hpl : p18 < wa.heap.size := Blk.lt hka
          obtain ⟨u, hu⟩ : ∃ u : UInt8, IntKind.u8.wrap (i : Int) = (u.toNat : Int) := ⟨UInt8.ofNat i, by rw [IntKind.wrap_u8, UInt8.toNat_ofNat']; omega⟩
          obtain ⟨wb, hwb⟩ : ∃ q, q = wa.alloc (.cells #[.int .u8 (u.toNat : Int)] 5) := ⟨_, rfl⟩
          have hbb : Below wa.heap.size wa wb := by rw [hwb]; exact (Below.refl _ _).alloc (Nat.le_refl _) _
          have how := own_one wa 5 u
          rw [← hwb] at how
          have hkb := hka.kept hbb
          obtain ⟨e0, e1, e2, e3⟩ := sig_cells (show Blk (wa.alloc (.cells #[.int .u8 (u.toNat : Int)] 5)) p18 #[Value.int .i64 ac0, .int .i64 ac1, .int .i64 ac2, .slice av bn cv] 43 from by rw [← hwb]; exact hkb)
          have hbrb := hba.trans (hbb.mono hba.size)
          have HW := Lib.hid (And.intro (how.mono hba.size) (And.intro hkb (And.intro hbrb (And.intro (HBW.out.trans (hbrb.mono HBW.out.size)) (And.intro hpl hwb)))))
          clear hwa hp18 hba hka hbb how hkb hbrb hwb r4 s4 hca4 hpl
          go_wp2_with fail
          try rw [← HW.out.2.2.2.2.2]
          refine (cut8_two _ ac3 10 w _ HBS.out (HBS.out.below HW.out.2.2.2.1)).mono ?_
          rintro e _ ⟨⟨v', rfl, hv'⟩, rfl⟩
          obtain ⟨av', cv', ev'⟩ := hv'.eq_slice
          subst ev'
          have hvb := hv'.below HW.out.2.2.2.1
          have hb10 : (ac3.take 10).length ≤ 10 := by rw [List.length_take]; omega
          obtain ⟨b10, hb10'⟩ : ∃ b, b = ac3.take 10 := ⟨_, rfl⟩
          rw [← hb10'] at hvb hb10 ⊢
          have HVB := Lib.hid hvb
          clear e0 e1 e2 e3
          clear hvb hb10' hv'
          go_wp2_with (at_builtin; refine appX E8 rfl _ _ rfl (base := wr.heap.size) (bs := [u]) (news := b10) rfl rfl HW.out.1 HVB.out (by simp only [List.length_cons, List.length_nil]; omega) (by have := HW.out.2.2.1.size; omega) ?_)
          intro v19 wc h19 hg19
          have hbc : Below wr.heap.size wr wc := grown_below HW.out.2.2.1 hg19 (fun k hk => (HW.out.1.lt k hk).1)
          have hcb : Chg (fun b => b = wa.heap.size) wb wc := Chg.grown (Chg.refl _ _) hg19 (fun q hq => .inl (by simp [Value.ownBlock] at hq; exact hq.symm))
          have hkc := hcb.blk HW.out.2.1 (fun e => by have := HW.out.2.2.2.2.1; have e : p18 = wa.heap.size := e; omega)
          obtain ⟨av19, cv19, ev19⟩ := h19.eq_slice
          subst ev19
          have hml : (u :: b10).length ≤ 1000 := by simp only [List.length_cons]; omega
          obtain ⟨mm, hmm⟩ : ∃ x, x = u :: b10 := ⟨_, rfl⟩
          rw [← hmm] at h19 hml ⊢
          obtain ⟨ml, hml'⟩ : ∃ x, x = mm.length := ⟨_, rfl⟩
          rw [← hml'] at h19 ⊢
          have hgc := H.out.two.step hbc
          have hoc := H.out.own.below hbc
          have hltN := H.out.two.lt
          have HC := Lib.hid (And.intro hgc (And.intro hoc (And.intro hkc (And.intro h19 (And.intro hml (And.intro hltN hbc))))))
          obtain ⟨e0, e1, e2, e3⟩ := sig_cells hkc
          clear hcb hkc h19 hg19 hml hmm hml' hgc hoc hltN hbc hb10 HVB HW HBS HBW
          go_upto_region 24 with fail
          go_wp2_with fail
          refine (within_calls ac0 7 (by decide) (by decide) _).mono ?_
          rintro e _ ⟨rfl, rfl⟩
          obtain ⟨g, hg⟩ : ∃ g, g = within ac0 7 := ⟨_, rfl⟩
          rw [← hg]
          clear hg
          by_cases g5 : g = 5
          · subst g5
            clear e0 e1 e2 e3
            have hwr := within_range ac1 5 (by decide)
            obtain ⟨x, hx⟩ : ∃ x, x = within ac1 5 := ⟨_, rfl⟩
            rw [← hx] at hwr
            have HX := Lib.hid hx
            clear hx
            go_upto_region 26 with fail
            refine Tail.wp_region_J 6 (fun k => k == 3) (fun k => if k = 3 then some (.int .i64 x) else none)
              (fun D z w' => Below wc.heap.size wc w')
              (by kernel_rfl) (by kernel_rfl) (fun k hk => by simp at hk; omega) (fun D z z' w' hz h => h)
              ((Below.refl _ _).drew) (fun z => ?_)
            simp only [List.take_succ_cons, List.take_zero, List.drop_succ_cons, List.drop_zero]
            refine Tail.J_ex (by rfl) (by rfl) ?_
            apply Exists.intro
            refine ⟨fun w => ?_, ?_⟩
            · go_simp <;> with_reducible rfl
            simp only [Act.put, List.setIfInBounds_toArray, List.set_cons_zero, List.set_cons_succ, Nat.reduceAdd, Nat.reduceEqDiff, reduceIte, Option.getD_some, Option.getD_none]
            refine Tail.J_ex (by rfl) (by rfl) ?_
            apply Exists.intro
            refine ⟨fun w => ?_, ?_⟩
            · go_simp <;> with_reducible rfl
            simp only [Act.put, List.setIfInBounds_toArray, List.set_cons_zero, List.set_cons_succ, Nat.reduceAdd, Nat.reduceEqDiff, reduceIte, Option.getD_some, Option.getD_none]
            refine Tail.J_at (by rfl) (by rfl) ?_
            apply Exists.intro
            refine ⟨fun D w' hd hp hJ => ?_, ?_⟩
            · have cc := (sig_cells (HC.out.2.2.1.kept hJ)).2.1
              go_simp <;> with_reducible rfl
            simp only [Act.put, List.setIfInBounds_toArray, List.set_cons_zero, List.set_cons_succ, Nat.reduceAdd, Nat.reduceEqDiff, reduceIte, Option.getD_some, Option.getD_none]
            refine Tail.J_call (by rfl) (by rfl) ?_ ?_
            · apply Exists.intro
              apply Exists.intro
              refine ⟨fun w' => ?_, ?_⟩
              · go_simp <;> exact ⟨rfl, rfl⟩
              intro D z' w' hD hz hd hp hJ
              refine (within_calls ac1 5 (by decide) (by decide) w').mono ?_
              rintro e _ ⟨rfl, rfl⟩
              exact ⟨_, rfl, fun c hc => by simp at hc; rw [← hc, HX.out], hJ⟩
            simp only [Act.put, List.setIfInBounds_toArray, List.set_cons_zero, List.set_cons_succ, Nat.reduceAdd, Nat.reduceEqDiff, reduceIte, Option.getD_some, Option.getD_none]
            refine Tail.J_ex (by rfl) (by rfl) ?_
            apply Exists.intro
            refine ⟨fun w => ?_, ?_⟩
            · go_simp <;> with_reducible rfl
            simp only [Act.put, List.setIfInBounds_toArray, List.set_cons_zero, List.set_cons_succ, Nat.reduceAdd, Nat.reduceEqDiff, reduceIte, Option.getD_some, Option.getD_none]
            refine Tail.J_at (by rfl) (by rfl) ?_
            apply Exists.intro
            refine ⟨fun D w' hd hp hJ => ?_, ?_⟩
            · have cc := (sig_cells (HC.out.2.2.1.kept hJ)).2.2.1
              go_simp <;> with_reducible rfl
            simp only [Act.put, List.setIfInBounds_toArray, List.set_cons_zero, List.set_cons_succ, Nat.reduceAdd, Nat.reduceEqDiff, reduceIte, Option.getD_some, Option.getD_none]
            intro wd hJ
            clear z
            have hgd := HC.out.1.step hJ
            have hod := HC.out.2.1.below hJ
            have HD := Lib.hid (And.intro hgd hod)
            clear hJ hgd hod
            go_wp2_with fail
            refine (dstop_calls d L s.disk x ac2 wd HD.out.1.st.disk (by omega)).mono ?_
            rintro e we ⟨rfl, hD, hc⟩
            have hc' : Chg (DL d L) wd we := hc.mono (fun k hk => .inl hk)
            have HE := Lib.hid (And.intro (HD.out.1.redisk hc' hD rfl (Nat.le_refl _) HD.out.1.st.ok.few) (show Own3 we p11 p12 B (Wot.print sd h) us _ _ from ⟨HD.out.1.keepD hc' (.inl rfl) HD.out.2.b11, HD.out.1.keepD hc' (.inr (.inl rfl)) HD.out.2.b12, HD.out.1.keepD hc' (.inr (.inr rfl)) HD.out.2.bB⟩))
            clear hD hc hc'
            go_wp2
            exact ⟨⟨i + 1, N, k0, k1, sb, lb, _, x0, x1, c, us, by omega, by omega, by go_num, rfl, HE.out.1, (H.out.has.stop x ac2).up, H.out.le, H.out.us4, H.out.usc, HE.out.2⟩, by simp [intOf]; omega⟩
          · have t5 : (g == 5) = false := by simp; exact g5
            by_cases g6 : g = 6
            · subst g6
              clear e0 e1 e2 e3
              go_wp2_with fail
              refine (dstart_calls d L s.disk wc HC.out.1.st.disk).mono ?_
              rintro e wd ⟨rfl, hD, hc⟩
              have hc' : Chg (DL d L) wc wd := hc.mono (fun k hk => .inl hk)
              have hgd := HC.out.1.redisk hc' hD rfl (Nat.le_refl _) HC.out.1.st.ok.few
              have hod : Own3 wd p11 p12 B (Wot.print sd h) us (.pointer (some ⟨k0, 0, none⟩)) (.pointer (some ⟨k1, 0, none⟩)) := ⟨HC.out.1.keepD hc' (.inl rfl) HC.out.2.1.b11, HC.out.1.keepD hc' (.inr (.inl rfl)) HC.out.2.1.b12, HC.out.1.keepD hc' (.inr (.inr rfl)) HC.out.2.1.bB⟩
              obtain ⟨l, hl1, hl2, hl3⟩ := H.out.has.held
              have hro := reopen3 (X := XO p11 p12 B) hgd.st.tab hgd.bel (fun b hx => ⟨hgd.far b (hgd.away b hx).1, hgd.lt b (hgd.away b hx).1, fun e => hgd.st.ntab (by rw [← e]; exact (hgd.away b hx).1), fun e => (hgd.away b hx).2.2.2 (.inr (.inr (.inl e))), fun e => (hgd.away b hx).2.2.2 (.inr (.inr (.inr e)))⟩) hgd.dl hgd.st.disk hl1 hl2 (by omega) H.out.has.writes (slots := 4) (room := 3) (by omega) (by omega) hl3.len
              have HRO := Lib.hid (And.intro hro (And.intro hgd (And.intro hod hl3)))
              clear hD hc hc' hgd hod hl1 hl2 hl3 hro
              go_wp2_with fail
              refine HRO.out.1.mono ?_
              rintro e we ⟨s2, sb2, lb2, N2, rfl, hg2, hgood, hthin, hroom, hc2⟩
              have hal := KAlive.opened hgood hthin HRO.out.2.2.2 hroom
              have hle := H.out.le
              have h4' := HN.out.2
              have lk2 : lookN s2 nK 0 = c := (hal.look (by omega) 0).trans (Nat.zero_max c)
              have hsh2 : ∀ b, s2.get nK = some b → b.length ≤ 7 := KHas.short (.inl hal)
              have HSX := Lib.hid (And.intro hg2 (show Own3 we p11 p12 B (Wot.print sd h) us (.pointer (some ⟨k0, 0, none⟩)) (.pointer (some ⟨k1, 0, none⟩)) from ⟨HRO.out.2.1.keepD hc2 (.inl rfl) HRO.out.2.2.1.b11, HRO.out.2.1.keepD hc2 (.inr (.inl rfl)) HRO.out.2.2.1.b12, HRO.out.2.1.keepD hc2 (.inr (.inr rfl)) HRO.out.2.2.1.bB⟩))
              have HAL := Lib.hid (And.intro hal (And.intro lk2 hsh2))
              have HU := Lib.hid (And.intro H.out.le (And.intro H.out.us4 H.out.usc))
              clear hg2 hgood hthin hroom hc2 hal lk2 hsh2 hle h4' HRO HC H HSH
              obtain ⟨wo, hwo⟩ : ∃ z, z = wr := ⟨_, rfl⟩
              subst hwo
              go_wp2_with fail
              go_loopw [114] (fun v wr => (v = .int .i64 0 ∧ ∃ N, StoX w1 wr N (XO p11 p12 B) sb2 lb2 d L s2 ∧ ∃ a b, Own3 wr p11 p12 B (Wot.print sd h) us a b) ∨ (v = .int .i64 1 ∧ ∃ N k0, One w1 wr N (XO p11 p12 B) k0 sb2 lb2 d L s2 nK sd h c ∧ ∃ b, Own3 wr p11 p12 B (Wot.print sd h) us (.pointer (some ⟨k0, 0, none⟩)) b) ∨ (v = .int .i64 2 ∧ ∃ N k0 k1, Two w1 wr N (XO p11 p12 B) k0 k1 sb2 lb2 d L s2 nK nK sd sd h c c ∧ Own3 wr p11 p12 B (Wot.print sd h) us (.pointer (some ⟨k0, 0, none⟩)) (.pointer (some ⟨k1, 0, none⟩)))) (fun v _ => 2 - (intOf v).toNat)
              case atStart => exact .inl ⟨rfl, _, HSX.out.1, _, _, HSX.out.2⟩
              case round =>
                rcases hrel with ⟨rfl, N, hg, a, b, ho⟩ | ⟨rfl, N, k0, hg, b, ho⟩ | ⟨rfl, N, k0, k1, hg, ho⟩
                · have hk3 := HP3.out.2.kept hg.bel
                  have k3 : readK 16 wr p3 0 = cs := blk_read hk3 hcl (fun k _ => by simp)
                  have k3' : HasK 16 wr p3 0 := blk_has hk3 (by simp [hcl])
                  have hop := stox_open hg hs hh4 HAL.out.2.2
                  rw [HAL.out.2.1, ← HCS.out] at hop
                  have HOP := Lib.hid (And.intro hop ho)
                  clear hg hk3 hop ho
                  go_wp2_with fail
                  refine HOP.out.1.mono ?_
                  rintro e w6 ⟨k0, N', rfl, hg6, hb6⟩
                  have ho6 := HOP.out.2.below hb6
                  have cB : w6.cell? ⟨B, 0, none⟩ = some a := by rw [ho6.bB.cell]; rfl
                  have fB : w6.frozen? ⟨B, 0, none⟩ = false := ho6.bB.free 0
                  have hc6 : Chg (XO p11 p12 B) w6 (w6.setCell ⟨B, 0, none⟩ (.pointer (some ⟨k0, 0, none⟩))) := Chg.set (S := XO p11 p12 B) (a := ⟨B, 0, none⟩) (Chg.refl _ _) (.inr (.inr rfl)) _
                  have H6 := Lib.hid (And.intro (hg6.touch hc6) (ho6.set0 HNE.out.2 (.pointer (some ⟨k0, 0, none⟩))))
                  clear hg6 hb6 ho6 hc6 HOP k3 k3'
                  go_wp2
                  exact ⟨.inr (.inl ⟨by go_num, N', k0, H6.out.1, b, H6.out.2⟩), by simp [intOf]⟩
                · have hk3 := HP3.out.2.kept hg.sto.bel
                  have k3 : readK 16 wr p3 0 = cs := blk_read hk3 hcl (fun k _ => by simp)
                  have k3' : HasK 16 wr p3 0 := blk_has hk3 (by simp [hcl])
                  have hop := one_open hg hs hh4 HAL.out.2.2
                  rw [HAL.out.2.1, ← HCS.out] at hop
                  have HOP := Lib.hid (And.intro hop ho)
                  clear hg hk3 hop ho
                  go_wp2_with fail
                  refine HOP.out.1.mono ?_
                  rintro e w6 ⟨k1, N', rfl, hg6, hb6⟩
                  have ho6 := HOP.out.2.below hb6
                  have cB : w6.cell? ⟨B, 1, none⟩ = some b := by rw [ho6.bB.cell]; rfl
                  have fB : w6.frozen? ⟨B, 1, none⟩ = false := ho6.bB.free 1
                  have hc6 : Chg (XO p11 p12 B) w6 (w6.setCell ⟨B, 1, none⟩ (.pointer (some ⟨k1, 0, none⟩))) := Chg.set (S := XO p11 p12 B) (a := ⟨B, 1, none⟩) (Chg.refl _ _) (.inr (.inr rfl)) _
                  have H6 := Lib.hid (And.intro (hg6.touch hc6) (ho6.set1 HNE.out.2 (.pointer (some ⟨k1, 0, none⟩))))
                  clear hg6 hb6 ho6 hc6 HOP k3 k3'
                  go_wp2
                  exact ⟨.inr (.inr ⟨by go_num, N', k0, k1, H6.out.1, H6.out.2⟩), by simp [intOf]⟩
                · have HG := Lib.hid (And.intro hg ho)
                  clear hg ho HSX
                  go_wp2
                  exact ⟨⟨i + 1, N, k0, k1, sb2, lb2, s2, c, c, c, us, by omega, by omega, by go_num, rfl, HG.out.1, .inl HAL.out.1, ⟨HU.out.1.1, HU.out.1.1, HU.out.1.1⟩, HU.out.2.1, HU.out.2.2, HG.out.2⟩, by simp [intOf]; omega⟩
            · have t6 : (g == 6) = false := by simp; exact g6
              go_upto_region 40 with fail
              go_wp2_with fail
              refine (within_calls ac1 2 (by decide) (by decide) _).mono ?_
              rintro e _ ⟨rfl, rfl⟩
              have hwr := within_range ac1 2 (by decide)
              obtain ⟨y, hy⟩ : ∃ y : Nat, within ac1 2 = y := ⟨(within ac1 2).toNat, by omega⟩
              rw [hy] at hwr ⊢
              have j0 : (0 : Int) ≤ (y : Int) := hwr.1
              have j1 : (y : Int) < 2 := hwr.2
              have hpick : ∃ k k' x x', wc.cell? ⟨B, y, none⟩ = some (.pointer (some ⟨k, 0, none⟩)) ∧ Two w1 wc N (XO p11 p12 B) k k' sb lb d L s nK nK sd sd h x x' ∧ x ≤ 2 ^ h ∧ (∀ w' N' s' z, Two w1 w' N' (XO p11 p12 B) k k' sb lb d L s' nK nK sd sd h z x' → z ≤ 2 ^ h → ∃ z0 z1, z0 ≤ 2 ^ h ∧ z1 ≤ 2 ^ h ∧ Two w1 w' N' (XO p11 p12 B) k0 k1 sb lb d L s' nK nK sd sd h z0 z1) := by
                have hy2 : y = 0 ∨ y = 1 := by omega
                rcases hy2 with rfl | rfl
                · exact ⟨k0, k1, x0, x1, by rw [HC.out.2.1.bB.cell]; rfl, HC.out.1, H.out.le.2.1, fun w' N' s' z hz hl => ⟨z, x1, hl, H.out.le.2.2, hz⟩⟩
                · exact ⟨k1, k0, x1, x0, by rw [HC.out.2.1.bB.cell]; rfl, HC.out.1.swap, H.out.le.2.2, fun w' N' s' z hz hl => ⟨x0, z, H.out.le.2.1, hl, hz.swap⟩⟩
              obtain ⟨k, k', x, x', cB, hgk, hxk, hback⟩ := hpick
              have HK := Lib.hid (And.intro hgk (And.intro hxk hback))
              have hsg := two_sign hgk (.slice av19 ml cv19) mm hs H.out.has.short (by have := HN.out.2; omega) hh4 (fun w' hc => (HC.out.2.2.2.1.chg hc (fun q hq e => by
                have a1 := (HC.out.2.2.2.1.lt q hq).1
                have a2 := HC.out.2.2.2.2.2.1 q (hgk.kf q e)
                omega)).bys) HC.out.2.2.2.2.1 (by decide) (by have := H.out.has.writes; omega)
              have HSG := Lib.hid hsg
              clear hy hwr hgk hxk hback hsg e0 e1 e2 e3
              go_wp2_with fail
              refine HSG.out.mono ?_
              clear HSG
              rintro e w6 hp
              have hc6 := hp.1
              have ho6 : Own3 w6 p11 p12 B (Wot.print sd h) us (.pointer (some ⟨k0, 0, none⟩)) (.pointer (some ⟨k1, 0, none⟩)) := ⟨HK.out.1.keep hc6 (.inl rfl) HC.out.2.1.b11, HK.out.1.keep hc6 (.inr (.inl rfl)) HC.out.2.1.b12, HK.out.1.keep hc6 (.inr (.inr rfl)) HC.out.2.1.bB⟩
              rcases once_sign hp H.out.has (by omega) (by decide) hh4 H.out.le.1 HK.out.2.1 with ⟨er, N', s', c', z', her, rfl, hcc, hc2, hz2, hk', hg'⟩ | ⟨leaf, vv, pv, N', s', hlf, hcl', rfl, hvv, hpv, hk', hg'⟩
              · have h6 : ∃ z0 z1, z0 ≤ 2 ^ h ∧ z1 ≤ 2 ^ h ∧ Two w1 w6 N' (XO p11 p12 B) k0 k1 sb lb d L s' nK nK sd sd h z0 z1 := HK.out.2.2 _ _ _ _ hg' hz2
                obtain ⟨z0, z1, hz0, hz1, hg6⟩ := h6
                have hb7 : Below w6.heap.size w6 (w6.alloc (.cells #[Value.int .i64 0, .int .i64 0, .slice none 0 0, .slice none 0 0] 48)) := (Below.refl _ _).alloc (Nat.le_refl _) _
                obtain ⟨w7, hw7⟩ : ∃ q, q = w6.alloc (.cells #[Value.int .i64 0, .int .i64 0, .slice none 0 0, .slice none 0 0] 48) := ⟨_, rfl⟩
                rw [← hw7] at hb7
                have H7 := Lib.hid (show Onc w1 w7 N' p11 p12 B k0 k1 sb lb d L s' sd h z0 z1 c' (i + 1) us from ⟨hg6.step hb7, hk', ⟨hc2, hz0, hz1⟩, H.out.us4, fun j hj => Nat.lt_of_lt_of_le (H.out.usc j hj) hcc, ho6.below hb7⟩)
                clear hp hc6 ho6 hcc hc2 hz2 hk' hg' hz0 hz1 hg6 hb7 HK HC cB
                have her' : er = 8 ∨ er = 9 := her
                rcases her' with rfl | rfl
                all_goals
                  unfold sigZ
                  go_upto_region 42 with fail
                  rw [← hw7]
                  clear hw7
                  go_wp2
                  exact ⟨⟨i + 1, N', k0, k1, sb, lb, s', z0, z1, c', us, by omega, by omega, by go_num, rfl, H7.out⟩, by simp [intOf]; omega⟩
              · have h6 : ∃ z0 z1, z0 ≤ 2 ^ h ∧ z1 ≤ 2 ^ h ∧ Two w1 w6 N' (XO p11 p12 B) k0 k1 sb lb d L s' nK nK sd sd h z0 z1 := HK.out.2.2 _ _ _ _ hg' (by omega)
                obtain ⟨z0, z1, hz0, hz1, hg6⟩ := h6
                obtain ⟨a1, c1, ea1⟩ := hvv.slice
                obtain ⟨a2, c2, ea2⟩ := hpv.slice
                subst ea1 ea2
                obtain ⟨n1, hn1⟩ : ∃ x, x = (Wot.signO sd leaf mm).length := ⟨_, rfl⟩
                obtain ⟨n2, hn2⟩ : ∃ x, x = (Wot.proof h leaf (Wot.leaves sd (2 ^ h))).length := ⟨_, rfl⟩
                rw [← hn1] at hvv
                rw [← hn2] at hpv
                rw [← hn1, ← hn2]
                clear hn1 hn2
                have hca4 : AllK 4 [Value.int .i64 h, .int .i64 leaf, .slice a1 n1 c1, .slice a2 n2 c2] := ⟨rfl, fun v hv => by
                  simp only [List.mem_cons, List.not_mem_nil, or_false] at hv
                  rcases hv with rfl | rfl | rfl | rfl <;> rfl⟩
                go_upto_region 42 with fail
                obtain ⟨w7, hw7⟩ : ∃ q, q = w6.alloc (.cells #[Value.int .i64 h, .int .i64 leaf, .slice a1 n1 c1, .slice a2 n2 c2] 48) := ⟨_, rfl⟩
                obtain ⟨p24, hp24⟩ : ∃ q, q = w6.heap.size := ⟨_, rfl⟩
                have hb7 : Below w6.heap.size w6 w7 := by rw [hw7]; exact (Below.refl _ _).alloc (Nat.le_refl _) _
                have hk7 : Blk w7 p24 #[Value.int .i64 h, .int .i64 leaf, .slice a1 n1 c1, .slice a2 n2 c2] 48 := by rw [hw7, hp24]; exact Blk.new _ _ _
                rw [← hw7, ← hp24]
                have ho7 := ho6.below hb7
                have hg7 := hg6.step hb7
                have hg7' := hg'.step hb7
                have hcm : Bys w7 (.slice av19 ml cv19) mm := ((HC.out.2.2.2.1.chg (S := fun b => N b) (hc6.mono HK.out.1.kf) (fun q hq e => by
                  have a1 := (HC.out.2.2.2.1.lt q hq).1
                  have a2 := HC.out.2.2.2.2.2.1 q e
                  omega)).below hb7).bys
                have hvf := two_verify HK.out.1 hg7' hcm HC.out.2.2.2.2.1 hvv hpv (Chg.of_below hb7) hh4 hlf
                rw [← HCP.out] at hvf
                have hleaf4 : leaf < 4 := by have := HN.out.2; omega
                have l0 : ¬ (leaf : Int) < 0 := by omega
                have l0' : (0 : Int) ≤ (leaf : Int) := by omega
                have l1 : ¬ (nn : Int) ≤ (leaf : Int) := by have := HN.out.1; omega
                have l2 : (leaf : Int) < 4 := by omega
                have lb0 : decide ((leaf : Int) < 0) = false := decide_eq_false l0
                have lb1 : decide ((nn : Int) ≤ (leaf : Int)) = false := decide_eq_false l1
                obtain ⟨q, hq⟩ : ∃ q, us[leaf]? = some q := ⟨_, List.getElem?_eq_getElem (by have := H.out.us4; omega)⟩
                have hqf : q = false := by
                  cases q with
                  | false => rfl
                  | true => have := H.out.usc leaf hq; omega
                subst hqf
                have cu := ho7.used hq
                obtain ⟨f0, f1, f2, f3⟩ := sig_cells hk7
                have kp : readK 32 w7 p11 0 = cpr := by rw [HCP.out]; exact blk_read ho7.b11 (by rw [bV_len]; exact Wot.tagged_len _ _) (fun k _ => by simp)
                have kp' : HasK 32 w7 p11 0 := blk_has ho7.b11 (by simp [bV_len]; exact Nat.le_of_eq (Wot.tagged_len _ _).symm)
                have ks : readK 4 w7 p24 0 = [Value.int .i64 h, .int .i64 leaf, .slice a1 n1 c1, .slice a2 n2 c2] := blk_read hk7 rfl (fun k _ => by simp)
                have ks' : HasK 4 w7 p24 0 := blk_has hk7 (by simp)
                have H7 := Lib.hid (And.intro hg7 (And.intro ho7 (And.intro hk7 (And.intro hvf (And.intro hk' (And.intro hlf (And.intro hcl' (And.intro hz0 hz1))))))))
                clear hp hc6 ho6 hk' hg' hg6 hb7 HK HC cB hvv hpv hw7 hp24 hk7 ho7 hg7 hg7' hcm hvf hq hlf hcl' hz0 hz1 hca4
                go_wp2_with fail
                refine H7.out.2.2.2.1.mono ?_
                rintro e w8 ⟨rfl, hb8⟩
                have hg8 := H7.out.1.step hb8
                have ho8 := H7.out.2.1.below hb8
                have hk8 := H7.out.2.2.1.kept hb8
                obtain ⟨f0, f1, f2, f3⟩ := sig_cells hk8
                have fu : w8.frozen? ⟨p12, leaf, none⟩ = false := ho8.b12.free leaf
                have cu : (w8.cell? ⟨p12, leaf, none⟩).isSome = true := by
                  rw [ho8.b12.cell]
                  simp [H.out.us4]
                  omega
                obtain ⟨cuv, cu⟩ := Option.isSome_iff_exists.1 cu
                have hcx : Chg (XO p11 p12 B) w8 (w8.setCell ⟨p12, leaf, none⟩ (.bool true)) := Chg.set (S := XO p11 p12 B) (a := ⟨p12, leaf, none⟩) (Chg.refl _ _) (.inr (.inl rfl)) _
                have H8 := Lib.hid (show Onc w1 (w8.setCell ⟨p12, leaf, none⟩ (.bool true)) N' p11 p12 B k0 k1 sb lb d L s' sd h z0 z1 (leaf + 1) (i + 1) (us.set leaf true) from
                  ⟨hg8.touch hcx, H7.out.2.2.2.2.1, ⟨H7.out.2.2.2.2.2.1, H7.out.2.2.2.2.2.2.2.1, H7.out.2.2.2.2.2.2.2.2⟩, by rw [List.length_set]; exact H.out.us4, used_step H.out.usc H7.out.2.2.2.2.2.2.1, ho8.use ⟨HNE.out.1, HNE.out.2.2.symm⟩ leaf⟩)
                clear hb8 hg8 ho8 hk8 hcx kp kp' ks ks'
                go_wp2
                exact ⟨⟨i + 1, N', k0, k1, sb, lb, s', z0, z1, leaf + 1, us.set leaf true, by omega, by omega, by go_num, rfl, H8.out⟩, by simp [intOf]; omega⟩
        · have hex : ¬ i < n ∨ (i < n ∧ ¬ i < 12) := by omega
          clear hik
          rcases hex with hx | ⟨hx, hx2⟩
          all_goals
            go_wp2_with fail
            refine (wakes12_calls wr H.out.two.st.tab).mono ?_
            rintro e w9 ⟨rfl, hb9⟩
            have H9 := Lib.hid (HP3.out.1.trans ((H.out.two.bel.trans (hb9.mono H.out.two.bel.size)).mono HP3.out.1.size))
            clear hb9
            go_wp2
            go_ret
            exact ⟨rfl, H9.out⟩
end Go.Proofs.YtdlkghdfkjdajaaGreatDoor
end
section
namespace Go.Mem
open Go Go.ChangeShapes Go.WideShapes Go.ChangeAt Go.RowKit Gf
theorem okWide_array {P : Program} {w : World} {r : Reach} {base : Nat} {t e : TypeId} {n : Nat} {v : Value} (ht : P.underlying t = some (.array n e)) (h : Value.okWide P w r base t v) : ∃ cs, v = .agg cs ∧ cs.size = P.cellsOf t := by
  simp only [Value.okWide, ht] at h
  obtain ⟨cs, h1, h2, _⟩ := h
  exact ⟨cs, h1, h2⟩
theorem open_key {P : Program} {t t8 : TypeId} {n : Nat} (ht : P.underlying t = some (.array n t8)) (h8 : P.underlying t8 = some (.int .u8)) (c8 : P.cellsOf t8 = 1) (ct : P.cellsOf t = n) {H : Type} {enc : TypeId × Value → H} {W : World} {base : Nat} {spare : Nat → Bool} {held : Bool} {v : Value} {x : DataW H × List MemPlace}
    (hv : ∃ cs, v = .agg cs ∧ cs.size = P.cellsOf t) (h : ∃ fuel, DataW.trod enc P W base spare held fuel t v.cells.toList = some x) : ∃ k : List UInt8, k.length = n ∧ v = .agg (bV k).toArray := by
  obtain ⟨cs, rfl, _⟩ := hv
  obtain ⟨fuel, hf⟩ := h
  obtain ⟨k, h1, h2⟩ := opens_key ht h8 c8 ct hf
  refine ⟨k, h1, ?_⟩
  rw [← h2]
  simp [Value.cells]
end Go.Mem
end
section
namespace Go.Proofs.YtdlkghdfkjdajaaGreatDoor
open Go Go.RowKit Go.Mem
theorem tabT : (Tryz.prog.globals[gT]?).map (·.type) = some 174 := by kernel_rfl
theorem tab_of_laid {W : World} (h : laidMetH Tryz.prog [("math/bits.deBruijn32tab", Rows.laid_math_bits_deBruijn32tab), ("math/bits.deBruijn64tab", Rows.laid_math_bits_deBruijn64tab), ("internal/strconv.uint64pow10", Rows.laid_internal_strconv_uint64pow10)] W) : Tab W := by
  rw [MakeChecks.laidMetH_plain _ _ _ (by kernel_rfl)] at h
  obtain ⟨ps, ⟨g0, t0, cs0, f0, p0, q0, hg0, ht0, hv0, hd0, ⟨g1, t1, cs1, f1, p1, q1, hg1, ht1, hv1, hd1, ⟨g2, t2, cs2, f2, p2, q2, hg2, ht2, hv2, hd2, _, _⟩, _⟩, _⟩, _, _⟩ := h
  obtain rfl := Option.some.inj (gT_eq.symm.trans hg2)
  obtain rfl := Option.some.inj (tabT.symm.trans ht2)
  have hd : DataW.trod (fun _ => ()) Tryz.prog W 0 (fun _ => true) false f2 174 cs2.toList = some (Lib.tabData .u64 Lib.pow10Tab, p2) := hd2.trans (by rw [show (Rows.laid_internal_strconv_uint64pow10 : DataW Unit) = Lib.tabData .u64 Lib.pow10Tab from rfl])
  unfold Tab Lib.TabIs
  rw [hv2, ← Lib.cells_of_tab Tryz.underlying174 Tryz.underlying128 (by kernel_rfl) (by kernel_rfl) hd]
end Go.Proofs.YtdlkghdfkjdajaaGreatDoor
end
