/- Texts of this proof, packed: SrvSweep, SrvSmallM, SrvSmall, SrvKindL, SrvPlay, SrvBads, SrvSame, SrvFullL. -/
import Derived.Test.YtbbojbdigiibbaaGreatDoorPk13
import Derived.Test.YtbbojbdigiibbaaGreatDoorPk17
import Derived.Test.YtbbojbdigiibbaaGreatDoorPk08
import Derived.Test.YtbbojbdigiibbaaGreatDoorPk11
import Derived.Test.YtbbojbdigiibbaaGreatDoorPk00
section
namespace Go.Mem
open Go Go.RowKit Gf Lea Go.Proofs.YtbbojbdigiibbaaGreatDoor
end Go.Mem
namespace Go.Tail
open Go
section
variable {P : Program} {ops : Array Oper} {isM : Nat → Bool} {kn : Nat → Option Value} {J : (Nat → Bool) → (Nat → Value) → World → Prop}
end
end Go.Tail
namespace Go.Mem
open Go Go.RowKit Gf
end Go.Mem
namespace Go.Proofs.YtbbojbdigiibbaaGreatDoor
open Go Go.RowKit Go.Mem Gf Lea
set_option linter.unusedVariables false
attribute [local go_sem ↓] Go.wp_at_zero Go.wp_at_succ
attribute [local go_sem ↓] load_key
attribute [local go_sem] ptrB_eq ptrO_eq ptrIs_eq aggL_eq aggIs_eq readK_drew hasK_drew readK_alloc_past hasK_alloc_past readK_alloc_in hasK_alloc_in
end Go.Proofs.YtbbojbdigiibbaaGreatDoor
end
section
namespace Go.Mem
open Go Go.RowKit Gf Lea Go.Proofs.YtbbojbdigiibbaaGreatDoor
def smallK (k : Key) (n : Int) : Key := UInt8.ofNat (within (((k[0]?).getD 0).toNat : Int) n).toNat :: List.replicate 15 0
def smallB (l : List Blob) : List Blob := (l.take 4).map fun x => (x.1, x.2.take 60)
def smallR (r : Req) (vt vb : Value) : Req := { r with ix := smallK r.ix 3, en := smallK r.en 2, vt := vt, vb := vb }
theorem smallK_len (k : Key) (n : Int) : (smallK k n).length = 16 := by simp [smallK]
theorem smallR_wf {r : Req} (h : r.Wf) (vt vb : Value) : (smallR r vt vb).Wf := ⟨smallK_len _ _, h.sec, smallK_len _ _⟩
theorem keyC_small (k : Key) (n : Int) (h1 : 0 < n) (h2 : n ≤ 256) : keyC (.int .u8 (within (((k[0]?).getD 0).toNat : Int) n)) = (bV (smallK k n)).toArray := by
  obtain ⟨a, b⟩ := within_range (((k[0]?).getD 0).toNat : Int) n h1
  unfold keyC smallK
  simp only [bV, List.map_cons, List.map_replicate]
  have : ((UInt8.ofNat (within (((k[0]?).getD 0).toNat : Int) n).toNat).toNat : Int) = within (((k[0]?).getD 0).toNat : Int) n := by
    rw [Gf.toNat_of _ (by omega)]; omega
  rw [this]
  rfl
theorem reqV_setix {w : World} {p : Nat} {r : Req} {t : TypeId} {k : Key} (h : Blk w p (reqV r).toArray t) (hr : r.Wf) (hk : k.length = 16) : Blk (w.setCells p 1 (bV k)) p (reqV { r with ix := k }).toArray t := by
  obtain ⟨arr, g1, g2, g3⟩ := Blk.setCells (bV k) 1 _ _ h
  have hw2 : Req.Wf { r with ix := k } := ⟨hk, hr.sec, hr.en⟩
  have hs : (reqV r).toArray.size = 52 := by simp [reqV_len hr]
  have hk16 : (bV k).length = 16 := by rw [bV_len]; exact hk
  have e : arr = (reqV { r with ix := k }).toArray := by
    apply Array.ext_getElem?
    intro j
    rcases Nat.lt_or_ge j 52 with hj | hj
    · rw [g3 j (by omega), List.getElem?_toArray, List.getElem?_toArray]
      by_cases hj1 : 1 ≤ j ∧ j < 17
      · rw [if_pos (by omega)]
        have := reqV_ix hw2 (k := j - 1) (by omega)
        rw [show 1 + (j - 1) = j from by omega] at this
        exact this.symm
      · rw [if_neg (by omega)]
        rcases (by omega : j = 0 ∨ 17 ≤ j) with rfl | h17
        · rfl
        · have e1 : ∀ q : Req, q.ix.length = 16 → (reqV q)[j]? = (bV q.sec ++ (.int .i64 q.ends :: (bV q.en ++ [q.vt, q.vb])))[j - 17]? := fun q hq => by
            unfold reqV
            rw [show j = (j - 1) + 1 from by omega, List.getElem?_cons_succ, List.getElem?_append_right (by rw [bV_len, hq]; omega), bV_len, hq]
            congr 1
          rw [e1 r hr.ix, e1 _ hk]
    · rw [Array.getElem?_eq_none (by omega), Array.getElem?_eq_none (by simp [reqV_len hw2]; omega)]
  rw [← e]; exact g1
theorem reqV_seten {w : World} {p : Nat} {r : Req} {t : TypeId} {k : Key} (h : Blk w p (reqV r).toArray t) (hr : r.Wf) (hk : k.length = 16) : Blk (w.setCells p 34 (bV k)) p (reqV { r with en := k }).toArray t := by
  obtain ⟨arr, g1, g2, g3⟩ := Blk.setCells (bV k) 34 _ _ h
  have hw2 : Req.Wf { r with en := k } := ⟨hr.ix, hr.sec, hk⟩
  have hs : (reqV r).toArray.size = 52 := by simp [reqV_len hr]
  have hk16 : (bV k).length = 16 := by rw [bV_len]; exact hk
  have e : arr = (reqV { r with en := k }).toArray := by
    apply Array.ext_getElem?
    intro j
    rcases Nat.lt_or_ge j 52 with hj | hj
    · rw [g3 j (by omega), List.getElem?_toArray, List.getElem?_toArray]
      by_cases hj1 : 34 ≤ j ∧ j < 50
      · rw [if_pos (by omega)]
        have := reqV_en hw2 (k := j - 34) (by omega)
        rw [show 34 + (j - 34) = j from by omega] at this
        exact this.symm
      · rw [if_neg (by omega)]
        have e0 : ∀ q : Req, q.ix.length = 16 → q.sec.length = 16 → q.en.length = 16 → ∀ q' : Req, q'.kind = q.kind → q'.ix = q.ix → q'.sec = q.sec → q'.ends = q.ends → q'.en.length = 16 → q'.vt = q.vt → q'.vb = q.vb → (reqV q)[j]? = (reqV q')[j]? := fun q h1 h2 h3 q' a1 a2 a3 a4 a5 a6 a7 => by
          unfold reqV
          rw [a1, a2, a3, a4, a6, a7]
          rcases Nat.lt_or_ge j 34 with c | c
          · rw [show (Value.int .i64 q.kind :: (bV q.ix ++ (bV q.sec ++ (Value.int .i64 q.ends :: (bV q.en ++ [q.vt, q.vb]))))) = (Value.int .i64 q.kind :: (bV q.ix ++ (bV q.sec ++ [Value.int .i64 q.ends]))) ++ (bV q.en ++ [q.vt, q.vb]) from by simp,
              show (Value.int .i64 q.kind :: (bV q.ix ++ (bV q.sec ++ (Value.int .i64 q.ends :: (bV q'.en ++ [q.vt, q.vb]))))) = (Value.int .i64 q.kind :: (bV q.ix ++ (bV q.sec ++ [Value.int .i64 q.ends]))) ++ (bV q'.en ++ [q.vt, q.vb]) from by simp,
              List.getElem?_append_left (by simp [bV_len, h1, h2]; omega), List.getElem?_append_left (by simp [bV_len, h1, h2]; omega)]
          · rw [show (Value.int .i64 q.kind :: (bV q.ix ++ (bV q.sec ++ (Value.int .i64 q.ends :: (bV q.en ++ [q.vt, q.vb]))))) = (Value.int .i64 q.kind :: (bV q.ix ++ (bV q.sec ++ (Value.int .i64 q.ends :: bV q.en)))) ++ [q.vt, q.vb] from by simp,
              show (Value.int .i64 q.kind :: (bV q.ix ++ (bV q.sec ++ (Value.int .i64 q.ends :: (bV q'.en ++ [q.vt, q.vb]))))) = (Value.int .i64 q.kind :: (bV q.ix ++ (bV q.sec ++ (Value.int .i64 q.ends :: bV q'.en)))) ++ [q.vt, q.vb] from by simp,
              List.getElem?_append_right (by simp [bV_len, h1, h2, h3]; omega), List.getElem?_append_right (by simp [bV_len, h1, h2, a5]; omega)]
            simp [bV_len, h1, h2, h3, a5]
        exact e0 r hr.ix hr.sec hr.en _ rfl rfl rfl rfl hk rfl rfl
    · rw [Array.getElem?_eq_none (by omega), Array.getElem?_eq_none (by simp [reqV_len hw2]; omega)]
  rw [← e]; exact g1
theorem reqV_setvt {r : Req} (hr : r.Wf) (v : Value) : (reqV r).toArray.setIfInBounds 50 v = (reqV { r with vt := v }).toArray := by
  apply Array.ext_getElem?
  intro j
  rw [Array.getElem?_setIfInBounds]
  have hl := reqV_len hr
  have hw2 : Req.Wf { r with vt := v } := ⟨hr.ix, hr.sec, hr.en⟩
  by_cases e : 50 = j
  · subst e
    rw [if_pos rfl, if_pos (by simp [hl])]
    simpa using (reqV_tail hw2).1.symm
  · rw [if_neg e]
    simp only [List.getElem?_toArray]
    rcases Nat.lt_or_ge j 50 with c | c
    · unfold reqV
      rw [show (Value.int .i64 r.kind :: (bV r.ix ++ (bV r.sec ++ (Value.int .i64 r.ends :: (bV r.en ++ [r.vt, r.vb]))))) = (Value.int .i64 r.kind :: (bV r.ix ++ (bV r.sec ++ (Value.int .i64 r.ends :: bV r.en)))) ++ [r.vt, r.vb] from by simp,
        show (Value.int .i64 r.kind :: (bV r.ix ++ (bV r.sec ++ (Value.int .i64 r.ends :: (bV r.en ++ [v, r.vb]))))) = (Value.int .i64 r.kind :: (bV r.ix ++ (bV r.sec ++ (Value.int .i64 r.ends :: bV r.en)))) ++ [v, r.vb] from by simp,
        List.getElem?_append_left (by simp [bV_len, hr.ix, hr.sec, hr.en]; omega), List.getElem?_append_left (by simp [bV_len, hr.ix, hr.sec, hr.en]; omega)]
    · rcases (by omega : j = 51 ∨ 52 ≤ j) with rfl | c2
      · rw [(reqV_tail hr).2, (reqV_tail hw2).2]
      · rw [List.getElem?_eq_none (by omega), List.getElem?_eq_none (by rw [reqV_len hw2]; omega)]
theorem reqV_setvb {r : Req} (hr : r.Wf) (v : Value) : (reqV r).toArray.setIfInBounds 51 v = (reqV { r with vb := v }).toArray := by
  apply Array.ext_getElem?
  intro j
  rw [Array.getElem?_setIfInBounds]
  have hl := reqV_len hr
  have hw2 : Req.Wf { r with vb := v } := ⟨hr.ix, hr.sec, hr.en⟩
  by_cases e : 51 = j
  · subst e
    rw [if_pos rfl, if_pos (by simp [hl])]
    simpa using (reqV_tail hw2).2.symm
  · rw [if_neg e]
    simp only [List.getElem?_toArray]
    rcases Nat.lt_or_ge j 51 with c | c
    · unfold reqV
      rw [show (Value.int .i64 r.kind :: (bV r.ix ++ (bV r.sec ++ (Value.int .i64 r.ends :: (bV r.en ++ [r.vt, r.vb]))))) = (Value.int .i64 r.kind :: (bV r.ix ++ (bV r.sec ++ (Value.int .i64 r.ends :: (bV r.en ++ [r.vt]))))) ++ [r.vb] from by simp,
        show (Value.int .i64 r.kind :: (bV r.ix ++ (bV r.sec ++ (Value.int .i64 r.ends :: (bV r.en ++ [r.vt, v]))))) = (Value.int .i64 r.kind :: (bV r.ix ++ (bV r.sec ++ (Value.int .i64 r.ends :: (bV r.en ++ [r.vt]))))) ++ [v] from by simp,
        List.getElem?_append_left (by simp [bV_len, hr.ix, hr.sec, hr.en]; omega), List.getElem?_append_left (by simp [bV_len, hr.ix, hr.sec, hr.en]; omega)]
    · rw [List.getElem?_eq_none (by omega), List.getElem?_eq_none (by rw [reqV_len hw2]; omega)]
end Go.Mem
end
section
namespace Go.Proofs.YtbbojbdigiibbaaGreatDoor
open Go Go.RowKit Go.Mem Gf Lea
set_option linter.unusedVariables false
def zeroR : Req := ⟨0, z16, z16, 0, z16, .slice none 0 0, .slice none 0 0⟩
def zeroQ : Array Value := #[Value.int .i64 0, .int .u8 0, .int .u8 0, .int .u8 0, .int .u8 0, .int .u8 0, .int .u8 0, .int .u8 0, .int .u8 0, .int .u8 0, .int .u8 0, .int .u8 0, .int .u8 0, .int .u8 0, .int .u8 0, .int .u8 0, .int .u8 0, .int .u8 0, .int .u8 0, .int .u8 0, .int .u8 0, .int .u8 0, .int .u8 0, .int .u8 0, .int .u8 0, .int .u8 0, .int .u8 0, .int .u8 0, .int .u8 0, .int .u8 0, .int .u8 0, .int .u8 0, .int .u8 0, .int .i64 0, .int .u8 0, .int .u8 0, .int .u8 0, .int .u8 0, .int .u8 0, .int .u8 0, .int .u8 0, .int .u8 0, .int .u8 0, .int .u8 0, .int .u8 0, .int .u8 0, .int .u8 0, .int .u8 0, .int .u8 0, .int .u8 0, .slice none 0 0, .slice none 0 0]
theorem _root_.Go.Mem.OwnB.dataAt {t8 : TypeId} {w : World} {base : Nat} {v : Value} {bs : List UInt8} {N : Nat → Prop} (h : OwnB t8 w base v bs) (hN : ∀ b, base ≤ b → ¬ N b) : DataAt w N v bs := by
  refine ⟨h.bys, ?_⟩
  have h' : w.ownsRow base t8 1 v bs.length (bV bs) := h
  have hlt := h'.lt
  obtain ⟨a, c, rfl, _⟩ := own_eq_slice h'
  refine ⟨a, c, rfl, fun b hb => ?_⟩
  have := hlt b.block (by rw [hb]; rfl)
  exact ⟨this.2, hN _ this.1⟩
theorem zeroQ_eq : zeroQ = (reqV zeroR).toArray := rfl
theorem zeroR_wf : zeroR.Wf := ⟨by show z16.length = 16; decide, by show z16.length = 16; decide, by show z16.length = 16; decide⟩
theorem req_stored {w : World} {b : Nat} {cs : List Value} (h : HasK 52 w b 0) (hc : AllK 52 cs) : (loadVar 47 ⟨b, 0, none⟩).run Tryz.prog (w.setCells b 0 cs) = .ok (.agg cs.toArray) (w.setCells b 0 cs) := by
  have h2 := hasK_set h b 0 cs
  refine run_loadVar_mid _ b 0 _ cs _ ?_ Tryz.underlying47 rfl (by rw [hc.1]; exact i52)
  have := readK_range h2
  rwa [readK_set h hc] at this
attribute [local irreducible] RF.V zk reqV keyC
attribute [local go_sem ↓] Go.wp_at_zero Go.wp_at_succ
attribute [local go_sem ↓] load_req store_req build_k0 store_key
attribute [local go_sem] ptrB_eq ptrO_eq ptrIs_eq aggL_eq aggIs_eq isU8_eq readK_drew hasK_drew readK_alloc_past hasK_alloc_past setCells_drew setCells_alloc_past
set_option maxRecDepth 100000 in
set_option maxHeartbeats 2000000 in
theorem small_calls (r : Req) (ts : List Tst) (bl : List Blob) (w : World) (hr : r.Wf) (hts : Sls 34 TstR w r.vt ts) (hbl : Sls 2 BloR w r.vb bl) :
    Calls Tryz.prog 21 #[.agg (reqV r).toArray] w fun e w' => ∃ vt vb, e = .returned (.agg (reqV (smallR r vt vb)).toArray) ∧ TsAt w' (fun b => b < w.heap.size) vt (ts.take 4) ∧ BlAt w' (fun b => b < w.heap.size) vb (smallB bl) ∧ Below w.heap.size w w' := by
  obtain ⟨rv, hrv⟩ : ∃ q, q = reqV r := ⟨_, rfl⟩
  have H := Lib.hid (And.intro hr (And.intro hts (And.intro hbl hrv)))
  rw [← hrv]
  clear hr hts hbl hrv
  go_enter Tryz.func21, Tryz.ntmps21
  go_upto_region 1 with fail
  obtain ⟨wz, hwz⟩ : ∃ q, q = (w.alloc (.cells rv.toArray 47)).alloc (.cells zeroQ 47) := ⟨_, rfl⟩
  unfold zeroQ at hwz
  rw [← hwz]
  have hk1 : Blk wz w.heap.size (reqV r).toArray 47 := by
    rw [hwz, ← H.out.2.2.2]; exact (Blk.new w rv.toArray 47).alloc _
  have hk2 : Blk wz (w.heap.size + 1) (reqV zeroR).toArray 47 := by
    rw [hwz, ← zeroQ_eq]; exact Blk.new_at _ _ _ _ (by simp)
  have hbz : Below w.heap.size w wz := by
    rw [hwz]
    have h1 : Below w.heap.size w (w.alloc (.cells rv.toArray 47)) := (Below.refl _ _).alloc (Nat.le_refl _) _
    exact h1.alloc h1.size _
  obtain ⟨p1, hp1⟩ : ∃ q, q = w.heap.size := ⟨_, rfl⟩
  obtain ⟨p2, hp2⟩ : ∃ q, q = w.heap.size + 1 := ⟨_, rfl⟩
  have hge : w.heap.size ≤ p1 ∧ p1 < p2 ∧ p2 ≤ p1 + 1 := by omega
  rw [← hp2] at hk2 ⊢
  rw [← hp1] at hk1 ⊢
  clear hwz hp1 hp2
  obtain ⟨x0, hx0⟩ : ∃ x : Nat, x = ((r.ix[0]?).getD 0).toNat := ⟨_, rfl⟩
  obtain ⟨x1, hx1⟩ : ∃ x : Nat, x = ((r.en[0]?).getD 0).toNat := ⟨_, rfl⟩
  have hx0' : x0 < 256 := by rw [hx0]; exact UInt8.toNat_lt _
  have hx1' : x1 < 256 := by rw [hx1]; exact UInt8.toNat_lt _
  have c1 : wz.cell? ⟨p1, 1, none⟩ = some (.int .u8 x0) := by
    rw [hk1.cell, List.getElem?_toArray, reqV_ix H.out.1 (k := 0) (by omega), bV_get, hx0]
    have := H.out.1.ix
    rw [List.getElem?_eq_getElem (by omega)]; rfl
  obtain ⟨q0, hq0⟩ : ∃ q, q = within x0 3 := ⟨_, rfl⟩
  obtain ⟨q1, hq1⟩ : ∃ q, q = within x1 2 := ⟨_, rfl⟩
  have hr0 : 0 ≤ q0 ∧ q0 < 3 := by rw [hq0]; exact within_range _ 3 (by decide)
  have hr1 : 0 ≤ q1 ∧ q1 < 2 := by rw [hq1]; exact within_range _ 2 (by decide)
  have e0 : keyC (.int .u8 q0) = (bV (smallK r.ix 3)).toArray := by rw [hq0, hx0]; exact keyC_small _ _ (by decide) (by decide)
  have e1 : keyC (.int .u8 q1) = (bV (smallK r.en 2)).toArray := by rw [hq1, hx1]; exact keyC_small _ _ (by decide) (by decide)
  have hw1 : Req.Wf { r with ix := smallK r.ix 3 } := ⟨smallK_len _ _, H.out.1.sec, H.out.1.en⟩
  have hw2 : Req.Wf { r with ix := smallK r.ix 3, en := smallK r.en 2 } := ⟨smallK_len _ _, H.out.1.sec, smallK_len _ _⟩
  have g1 : HasK 16 wz p1 1 := blk_has hk1 (by simp [reqV_len H.out.1])
  have l1 := hk1.lt
  obtain ⟨m0, hm0⟩ : ∃ m, m = smallK r.ix 3 := ⟨_, rfl⟩
  obtain ⟨m1, hm1⟩ : ∃ m, m = smallK r.en 2 := ⟨_, rfl⟩
  rw [← hm0] at e0 hw1 hw2
  rw [← hm1] at e1 hw2
  have hl0 : m0.length = 16 := by rw [hm0]; exact smallK_len _ _
  have hl1 : m1.length = 16 := by rw [hm1]; exact smallK_len _ _
  obtain ⟨b0, hb0⟩ : ∃ b, b = bV m0 := ⟨_, rfl⟩
  obtain ⟨b1, hb1⟩ : ∃ b, b = bV m1 := ⟨_, rfl⟩
  have a0 : AllK 16 b0 := ⟨by rw [hb0, bV_len]; exact hl0, fun v hv => by rw [hb0] at hv; exact bV_one _ v hv⟩
  have a1 : AllK 16 b1 := ⟨by rw [hb1, bV_len]; exact hl1, fun v hv => by rw [hb1] at hv; exact bV_one _ v hv⟩
  rw [← hb0] at e0
  rw [← hb1] at e1
  have HA := Lib.hid (And.intro hm0 (And.intro hm1 (And.intro hw1 (And.intro hw2 (And.intro hl0 (And.intro hl1 (And.intro hb0 hb1)))))))
  have HK := Lib.hid (And.intro hk1 (And.intro hk2 hbz))
  have HQ := Lib.hid (And.intro hq0 (And.intro hq1 (And.intro hx0 hx1)))
  clear hm0 hm1 hw1 hw2 hl0 hl1 hb0 hb1 hk1 hk2 hbz hq0 hq1 hx0 hx1
  go_wp2_with fail
  refine (within_calls x0 3 (by decide) (by decide) _).mono ?_
  rintro e w2 ⟨rfl, rfl⟩
  rw [← HQ.out.1]
  go_upto_region 2 with fail
  have kk1 : Blk (wz.setCells p1 1 b0) p1 (reqV { r with ix := m0 }).toArray 47 := by rw [HA.out.2.2.2.2.2.2.1]; exact reqV_setix HK.out.1 H.out.1 HA.out.2.2.2.2.1
  have kk2 : Blk (wz.setCells p1 1 b0) p2 (reqV zeroR).toArray 47 := Blk.setCells_other (fun e => by omega) _ _ _ HK.out.2.1
  have kb : Below w.heap.size w (wz.setCells p1 1 b0) := (Chg.setCells (S := fun b => b = p1) (L := p1) rfl _ _ _ (Chg.of_below HK.out.2.2)).below (Nat.le_refl _) (fun k hk => by rw [hk]; omega)
  obtain ⟨wy, hwy⟩ : ∃ q, q = wz.setCells p1 1 b0 := ⟨_, rfl⟩
  rw [← hwy] at kk1 kk2 kb ⊢
  have c1 : wy.cell? ⟨p1, 34, none⟩ = some (.int .u8 x1) := by
    rw [kk1.cell, List.getElem?_toArray, reqV_en HA.out.2.2.1 (k := 0) (by omega), bV_get, HQ.out.2.2.2]
    have : ({ r with ix := m0 } : Req).en.length = 16 := H.out.1.en
    rw [List.getElem?_eq_getElem (by omega)]; rfl
  have g1 : HasK 16 wy p1 34 := blk_has kk1 (by simp [reqV_len HA.out.2.2.1])
  have l1 := kk1.lt
  have HY := Lib.hid (And.intro kk1 (And.intro kk2 kb))
  clear hwy kk1 kk2 kb
  go_wp2_with fail
  refine (within_calls x1 2 (by decide) (by decide) _).mono ?_
  rintro e w2 ⟨rfl, rfl⟩
  rw [← HQ.out.2.1]
  go_upto_region 5 with fail
  have kk1 : Blk (wy.setCells p1 34 b1) p1 (reqV { r with ix := m0, en := m1 }).toArray 47 := by rw [HA.out.2.2.2.2.2.2.2]; exact reqV_seten HY.out.1 HA.out.2.2.1 HA.out.2.2.2.2.2.1
  have kk2 : Blk (wy.setCells p1 34 b1) p2 (reqV zeroR).toArray 47 := Blk.setCells_other (fun e => by omega) _ _ _ HY.out.2.1
  have kb : Below w.heap.size w (wy.setCells p1 34 b1) := (Chg.setCells (S := fun b => b = p1) (L := p1) rfl _ _ _ (Chg.of_below HY.out.2.2)).below (Nat.le_refl _) (fun k hk => by rw [hk]; omega)
  obtain ⟨wv, hwv⟩ : ∃ q, q = wy.setCells p1 34 b1 := ⟨_, rfl⟩
  rw [← hwv] at kk1 kk2 kb ⊢
  have HV := Lib.hid (And.intro kk1 (And.intro kk2 (And.intro kb hge)))
  obtain ⟨R, hR⟩ : ∃ R : Req, R = { r with ix := m0, en := m1 } := ⟨_, rfl⟩
  have hRw : R.Wf := by rw [hR]; exact HA.out.2.2.2.1
  have hRt : R.vt = r.vt := by rw [hR]
  have hRb : R.vb = r.vb := by rw [hR]
  rw [← hR] at HV
  have HR := Lib.hid (And.intro hR (And.intro hRw (And.intro hRt hRb)))
  obtain ⟨n, hn⟩ : ∃ n, n = bl.length := ⟨_, rfl⟩
  obtain ⟨ba, bc, hvb⟩ := H.out.2.2.1.eq_slice
  have hbl := H.out.2.2.1
  rw [← hn] at hvb
  have n64 : (n : Int) ≤ 9223372036854775807 := by have := hbl.len; omega
  rw [hvb] at hbl
  have HB := Lib.hid (And.intro hn (And.intro hvb hbl))
  clear hwv kk1 kk2 kb c1 g1 l1 hR hRw hRt hRb hn hvb hbl e0 e1 a0 a1 hge hr0 hr1 hx0' hx1'
  go_loopw [3, 4] (fun u vi wr => ∃ i : Nat, i ≤ 4 ∧ i ≤ n ∧ vi = .int .i64 i ∧ Hid (OwnBl 53 wr (p2 + 1) (fun b => b ≤ p2) u (smallB (bl.take i)) ∧ Below w.heap.size w wr ∧ Blk wr p1 (reqV R).toArray 47 ∧ Blk wr p2 (reqV zeroR).toArray 47)) (fun _ vi _ => 4 - (intOf vi).toNat)
  case atStart => exact ⟨0, by omega, by omega, rfl, OwnBl.nil _ _ _ _, HV.out.2.2.1, HV.out.1, HV.out.2.1⟩
  case round =>
    obtain ⟨i, hi4, hin, rfl, G⟩ := hrel
    have cb : wr.cell? ⟨p1, 51, none⟩ = some (.slice ba n bc) := by
      rw [G.out.2.2.1.cell, List.getElem?_toArray, (reqV_tail HR.out.2.1).2, HR.out.2.2.2, HB.out.2.1]
    have i0 : (0 : Int) ≤ (i : Int) := by omega
    by_cases h0 : i < n ∧ i < 4
    · obtain ⟨h1, h2⟩ := h0
      have i1 : (i : Int) < (n : Int) := by omega
      have i2 : (i : Int) < 4 := by omega
      obtain ⟨b, off, x, cs, rfl, hx, hcl, hcs, v, rfl, hv⟩ := HB.out.2.2.at i (by have := HB.out.1; omega)
      obtain ⟨va, vc, rfl⟩ := hv.eq_slice
      have d0 : w.cell? ⟨b, off + i * 2, none⟩ = some (.int .i64 x.1) := hcs 0 _ rfl
      have d1 : w.cell? ⟨b, off + i * 2 + 1, none⟩ = some (.slice va x.2.length vc) := hcs 1 _ rfl
      have hblt := World.block_lt_of_cell? w _ d0
      have hbc := fun o => G.out.2.1.cell (p := ⟨b, o, none⟩) hblt
      rw [← hbc] at d0 d1
      obtain ⟨z, hz⟩ : ∃ z, z = x.1 := ⟨_, rfl⟩
      obtain ⟨m, hm⟩ : ∃ m, m = x.2.length := ⟨_, rfl⟩
      obtain ⟨xs, hxs⟩ : ∃ xs, xs = x.2.take 60 := ⟨_, rfl⟩
      obtain ⟨k, hk⟩ : ∃ k, k = xs.length := ⟨_, rfl⟩
      rw [← hz] at d0
      rw [← hm] at d1 hv
      have hk60 : k ≤ 60 := by rw [hk, hxs, List.length_take]; omega
      have hsn : smallB (bl.take (i + 1)) = smallB (bl.take i) ++ [(z, xs)] := by
        unfold smallB
        rw [List.take_take, List.take_take, Nat.min_eq_right (by omega), Nat.min_eq_right (by omega), List.take_add_one, hx.out, List.map_append, hz, hxs]
        rfl
      have hsl : (smallB (bl.take i)).length = i := by
        unfold smallB
        have := HB.out.1
        simp
        omega
      have HX := Lib.hid (And.intro hsn (And.intro hsl (And.intro hv (And.intro hxs (And.intro hk hblt)))))
      have hvz := hv.below G.out.2.1
      have HVZ := Lib.hid hvz
      clear hx hcl hcs hbc hz hm hxs hk hsn hsl hv hblt hvz
      go_upto_region 7 with fail
      go_region_law
        (first
          | (refine stepAppN EKb (by rfl) _ _ (by rfl) (base := p2 + 1) (v := u3) (n := i) (m := 1) (xs := blV (smallB (bl.take i)) vs) [.int .i64 z, .slice a3 k c3] (by rfl) (by rfl) (by rfl) (new_news (by rfl)) (one2 _ _ _) (by have ho := HO.out.2.1; rw [HX.out.2.1] at ho; exact ho.alloc _) (by omega) (by decide) (by have := HW.out.2.1; have := G.out.2.2.2.lt; simp; omega) ?_
             intro v4 x4 hv4 hg4 hs4
             have HF := Lib.hid (And.intro hv4 (And.intro hg4 hs4))
             clear hv4 hg4 hs4)
          | (go_simp
             go_at_call 25
             refine (cut8_two (.slice va m vc) x.2 60 wr.drew wr.drew (HVZ.out.below (Below.refl _ _).drew) (HVZ.out.below (Below.refl _ _).drew)).mono ?_
             rintro e w2 ⟨⟨v2, rfl, hv2⟩, rfl⟩
             rw [← HX.out.2.2.2.1] at hv2
             have HC := Lib.hid hv2
             clear hv2)
          | (go_simp
             go_at_call 47
             refine (copyB_calls v2 xs _ HC.out (by have := HX.out.2.2.2.2.1; omega)).mono ?_
             rintro e w3 ⟨v3, rfl, ho3, hb3⟩
             obtain ⟨a3, c3, rfl⟩ := ho3.eq_slice
             rw [← HX.out.2.2.2.2.1] at ho3 ⊢
             have hb3 : Below wr.heap.size wr w3 := of_drew hb3
             have d0 : w3.cell? ⟨b, off + i * 2, none⟩ = some (.int .i64 z) := (hb3.cell (p := ⟨b, off + i * 2, none⟩) (World.block_lt_of_cell? wr _ d0)).trans d0
             have cb : w3.cell? ⟨p1, 51, none⟩ = some (.slice (some ⟨b, off, none⟩) n bc) := (hb3.cell (p := ⟨p1, 51, none⟩) (World.block_lt_of_cell? wr _ cb)).trans cb
             obtain ⟨vs, o1, o2, o3, o4⟩ := G.out.1.below hb3
             have HO := Lib.hid (And.intro o1 (And.intro o2 (And.intro o3 o4)))
             have HW := Lib.hid (And.intro ho3 (And.intro hb3.size hb3))
             clear ho3 hb3 o1 o2 o3 o4))
      all_goals
        go_wp2_with fail
        have hz0 := HW.out.2.1
        have hge := HV.out.2.2.2
        have hDw : Below w3.heap.size w3 (w3.alloc (.cells #[.int .i64 z, .slice a3 k c3] 53)) := (Below.refl _ _).alloc (Nat.le_refl _) _
        have hsl := HX.out.2.1
        have hda : DataAt (w3.alloc (.cells #[.int .i64 z, .slice a3 k c3] 53)) (fun b => b ≤ p2) (.slice a3 k c3) xs := DataAt.chg (S := fun _ => False) (HW.out.1.dataAt (N := fun b => b ≤ p2) fun b hb hb2 => by have hb' : wr.heap.size ≤ b := hb; have hb2' : b ≤ p2 := hb2; have := G.out.2.2.2.lt; omega) (Chg.of_below hDw) (fun _ h => h.elim)
        have hdn : ∀ a n c, Value.slice a3 k c3 = .slice (some a) n c → u3.ownBlock ≠ some a.block := fun a n c e e2 => by
          injection e with e1 _ _
          have h1 := (HW.out.1.lt a.block (by rw [e1]; simp [Value.ownBlock])).1
          have h1' : wr.heap.size ≤ a.block := h1
          have h2 := (G.out.1.lt _ e2).2
          omega
        have hrow := OwnBl.push (x := (z, xs)) HO.out.1 (fun j x v hx hv => (HO.out.2.2.1 j x v hx hv).chg (S := fun _ => False) (Chg.of_below hDw) (fun _ h => h.elim)) HO.out.2.2.2 hda hdn (by rw [hsl]; exact HF.out.1) HF.out.2.1 HF.out.2.2
        have hb24 : Below w.heap.size w w3 := G.out.2.1.trans (HW.out.2.2.mono G.out.2.1.size)
        have hb6 := grown_below (hb24.alloc hb24.size (.cells #[.int .i64 z, .slice a3 k c3] 53)) HF.out.2.1 (fun q hq => by have := (G.out.1.lt q hq).1; omega)
        have hk16 := Blk.grown' ((G.out.2.2.1.kept HW.out.2.2).alloc (.cells #[.int .i64 z, .slice a3 k c3] 53)) HF.out.2.1 (fun e => by have := (G.out.1.lt _ e).1; omega)
        have hk26 := Blk.grown' ((G.out.2.2.2.kept HW.out.2.2).alloc (.cells #[.int .i64 z, .slice a3 k c3] 53)) HF.out.2.1 (fun e => by have := (G.out.1.lt _ e).1; omega)
        exact ⟨⟨i + 1, by omega, by omega, by simp, by rw [HX.out.1]; exact hrow, hb6, hk16, hk26⟩, by show 4 - ((i : Int) + 1).toNat < 4 - (i : Int).toNat; omega⟩
    · have hsm : smallB (bl.take i) = smallB bl := by
        unfold smallB
        rw [List.take_take]
        rcases (by omega : i = 4 ∨ i = n) with e | e
        · rw [e]; rfl
        · congr 1
          have := HB.out.1
          rcases Nat.lt_or_ge i 4 with c | c
          · rw [Nat.min_eq_right (by omega), List.take_of_length_le (by omega), List.take_of_length_le (by omega)]
          · rw [Nat.min_eq_left (by omega)]
      have hO := G.out.1
      rw [hsm] at hO
      obtain ⟨ua, uc, rfl, _⟩ := hO.slice
      obtain ⟨ul, hul⟩ : ∃ q, q = (smallB bl).length := ⟨_, rfl⟩
      rw [← hul] at hO ⊢
      obtain ⟨ta, tc, hvt⟩ := H.out.2.1.eq_slice
      obtain ⟨tn, htn⟩ : ∃ q, q = ts.length := ⟨_, rfl⟩
      have hts := H.out.2.1
      rw [← htn] at hvt
      rw [hvt] at hts
      have ct : wr.cell? ⟨p1, 50, none⟩ = some (.slice ta tn tc) := by
        rw [G.out.2.2.1.cell, List.getElem?_toArray, (reqV_tail HR.out.2.1).1, HR.out.2.2.1, hvt]
      have HO := Lib.hid (And.intro hO (And.intro hul (And.intro htn (hts.below (fun _ _ _ _ _ h => h) G.out.2.1))))
      have HGE := Lib.hid (And.intro HV.out.2.2.2 G.out.2)
      have h0i : ((i : Int) < (n : Int)) = False ∨ (((i : Int) < (n : Int)) = True ∧ ((i : Int) < 4) = False) := by
        by_cases c : i < n
        · exact .inr ⟨eq_true (by omega), eq_false (by omega)⟩
        · exact .inl (eq_false (by omega))
      clear hsm hO hul hvt htn hts h0 G
      rcases h0i with h0i | ⟨h0i, h0j⟩
      all_goals
        go_upto_region 8 with fail
        go_wp2_with fail
        refine (cutT_calls (.slice ta tn tc) ts 4 wr HO.out.2.2.2).mono ?_
        rintro e w2 ⟨⟨v2, rfl, hv2⟩, rfl⟩
        have HT := Lib.hid hv2
        clear hv2
        go_wp2_with fail
        refine (copyT_calls v2 (ts.take 4) wr HT.out (by rw [List.length_take]; omega)).mono ?_
        rintro e w3 ⟨v3, rfl, ho3, hb3⟩
        obtain ⟨za, zc, rfl⟩ := ho3.slice
        obtain ⟨zn, hzn⟩ : ∃ q, q = (ts.take 4).length := ⟨_, rfl⟩
        rw [← hzn] at ho3 ⊢
        have k13 := HGE.out.2.2.1.kept hb3
        have k23 := HGE.out.2.2.2.kept hb3
        have l13 := k13.lt
        have f51 := k13.free 51
        have f50 := k13.free 50
        have c51 : w3.cell? ⟨p1, 51, none⟩ = some (.slice ba n bc) := (hb3.cell (p := ⟨p1, 51, none⟩) (World.block_lt_of_cell? wr _ cb)).trans cb
        have c50 : w3.cell? ⟨p1, 50, none⟩ = some (.slice ta tn tc) := (hb3.cell (p := ⟨p1, 50, none⟩) (World.block_lt_of_cell? wr _ ct)).trans ct
        have hq1 := k13.set 51 (.slice ua ul uc)
        rw [reqV_setvb HR.out.2.1] at hq1
        have hRw2 : Req.Wf { R with vb := .slice ua ul uc } := ⟨HR.out.2.1.ix, HR.out.2.1.sec, HR.out.2.1.en⟩
        have hq2 := hq1.set 50 (.slice za zn zc)
        rw [reqV_setvt hRw2] at hq2
        have hq3 := (k23.set_other (a := ⟨p1, 51, none⟩) (fun e => by have e' : p1 = p2 := e; have := HGE.out.1; omega) (.slice ua ul uc)).set_other (a := ⟨p1, 50, none⟩) (fun e => by have e' : p1 = p2 := e; have := HGE.out.1; omega) (.slice za zn zc)
        have hch : Chg (fun b => b = p1) w3 ((w3.setCell ⟨p1, 51, none⟩ (.slice ua ul uc)).setCell ⟨p1, 50, none⟩ (.slice za zn zc)) := Chg.set (S := fun b => b = p1) (a := ⟨p1, 50, none⟩) (Chg.set (S := fun b => b = p1) (a := ⟨p1, 51, none⟩) (Chg.refl _ _) rfl _) rfl _
        have hb03 : Below w.heap.size w w3 := HGE.out.2.1.trans (hb3.mono HGE.out.2.1.size)
        have hz3 := hb3.size
        have hbw : Below w.heap.size w ((w3.setCell ⟨p1, 51, none⟩ (.slice ua ul uc)).setCell ⟨p1, 50, none⟩ (.slice za zn zc)) := ((Chg.of_below (S := fun b => b = p1) hb03).mix hch (fun k hk => .inl hk)).below (Nat.le_refl _) (fun k hk => by rw [hk]; have := HGE.out.1; omega)
        have hT4 : TsAt w3 (fun b => b ≤ p2) (.slice za zn zc) (ts.take 4) := ho3.tests (by rw [List.length_take]; omega) (fun b hb _ hb' => by have hb2 : b ≤ p2 := hb'; have := HGE.out.2.2.2.lt; omega)
        have hT5 := hT4.chg hch (fun b hb _ => by rw [hb]; have := HGE.out.1; omega)
        have hB4 : BlAt w3 (fun b => b ≤ p2) (.slice ua ul uc) (smallB bl) := BlAt.below (HO.out.1.at (fun b hb _ hb' => by have hb2 : b ≤ p2 := hb'; omega)) hb3
        have hB5 := hB4.chg hch (fun b hb _ => by rw [hb]; have := HGE.out.1; omega)
        obtain ⟨w5, hw5⟩ : ∃ q, q = (w3.setCell ⟨p1, 51, none⟩ (.slice ua ul uc)).setCell ⟨p1, 50, none⟩ (.slice za zn zc) := ⟨_, rfl⟩
        rw [← hw5] at hq2 hq3 hch hbw hT5 hB5
        have hfin : ({ { R with vb := .slice ua ul uc } with vt := .slice za zn zc } : Req) = smallR r (.slice za zn zc) (.slice ua ul uc) := by rw [HR.out.1, HA.out.1, HA.out.2.1]; rfl
        have hfw : Req.Wf { { R with vb := .slice ua ul uc } with vt := .slice za zn zc } := ⟨HR.out.2.1.ix, HR.out.2.1.sec, HR.out.2.1.en⟩
        have hal := reqV_all hfw rfl rfl
        rw [hfin] at hal hq2
        obtain ⟨co, hco⟩ : ∃ q, q = reqV (smallR r (.slice za zn zc) (.slice ua ul uc)) := ⟨_, rfl⟩
        rw [← hco] at hal hq2
        have hcut : cutC co.toArray 0 52 = co := cutC_all hal.1
        have H5 := Lib.hid (And.intro hw5 (And.intro hbw (And.intro hT5 (And.intro hB5 hco))))
        have HP := Lib.hid (And.intro hq2 (And.intro hq3 HGE.out.1))
        clear hq1 hq2 hq3 hch hbw hT4 hT5 hB4 hB5 hw5 hfin hfw hco k13 k23 hRw2 hb03 hz3 hzn ho3 hb3
        go_upto_region 9 with fail
        rw [← H5.out.1]
        have r5 : readK 52 w5 p1 0 = co := blk_read0 HP.out.1 hal.1
        have g5 : HasK 52 w5 p1 0 := blk_has HP.out.1 (by simp [hal.1])
        have g6 : HasK 52 w5 p2 0 := blk_has HP.out.2.1 (by simp [reqV_len zeroR_wf])
        have HLD := Lib.hid (req_stored g6 hal)
        clear cb ct l13 f51 f50 c51 c50
        go_wp2_with fail
        have hc7 : Chg (fun b => b = p2) w5 (w5.setCells p2 0 co) := Chg.setCells (S := fun b => b = p2) (L := p2) rfl _ _ _ (Chg.refl _ _)
        refine bodyPost_ret (v := .agg co.toArray) (by simp [results, Tryz.results21, asAddr, HLD.out]) rfl ⟨.slice za zn zc, .slice ua ul uc, by rw [H5.out.2.2.2.2], ?_, ?_, ?_⟩
        · exact (H5.out.2.2.1.chg hc7 (fun b hb _ => by rw [hb]; exact Nat.le_refl _)).mono (fun b hb => .inl (by have hb2 : b < w.heap.size := hb; have := HP.out.2.2; omega))
        · exact (H5.out.2.2.2.1.chg hc7 (fun b hb _ => by rw [hb]; exact Nat.le_refl _)).mono (fun b hb => .inl (by have hb2 : b < w.heap.size := hb; have := HP.out.2.2; omega))
        · exact ((Chg.of_below (S := fun k => w.heap.size ≤ k) H5.out.2.1).mix hc7 (fun k hk => .inl (by rw [hk]; have := HP.out.2.2; omega))).below (Nat.le_refl _) (fun _ h => h)
end Go.Proofs.YtbbojbdigiibbaaGreatDoor
end
section
namespace Go.Mem
open Go Go.RowKit Gf Lea Go.Proofs.YtbbojbdigiibbaaGreatDoor
section
variable {s s' : SrvS} {r : Req} {l lb : List Blob} {ts : List Tst} {o : Option (Key × List Blob)} {err : Int}
theorem SrvG.play {m : Nat} (h : SrvG m s) (hst : s.st.disk.stops = false) (hm : m + 1 < 1000000) (hr : r.Wf) (hz : ∀ x ∈ l, x.2.length ≤ 16384) (ho : ContIs s r.ix o) (hR : DoR s r l ts o err lb s') : SrvG (m + 2) s' ∧ s'.st.disk.stops = false := by
  rcases (h.stepDo hm hr hz ho hR).2 with ⟨a, b, _⟩ | ⟨a, _⟩
  · exact ⟨a, b.trans hst⟩
  · rw [hst] at a; cases a
theorem DoR.nokind (hd : s.dead = false) (hk : r.kind < 1 ∨ 6 < r.kind) (hR : DoR s r l ts o err lb s') : err = 2 ∧ lb = [] ∧ s' = s := by
  cases hR with
  | dead h => rw [hd] at h; cases h
  | form _ _ => exact ⟨rfl, rfl, rfl⟩
  | get _ h => omega
  | put _ h _ _ _ => omega
  | slot _ h => omega
  | swap _ h _ _ _ => omega
  | renew _ h _ _ _ => omega
  | cancel _ h _ _ _ => omega
theorem DoR.noput (hd : s.dead = false) (hk : r.kind = 2) (hf : ¬ (l.length = 1 ∧ NumsOk l ∧ May r.ends)) (hR : DoR s r l ts o err lb s') : err = 2 ∧ lb = [] ∧ s' = s := by
  have one : ∀ (n : Nat) (data : List UInt8), l = [((n : Int), data)] → n < 16 → May r.ends → False := fun n data hl hn hm => hf ⟨by rw [hl]; rfl, by
    rw [hl]
    refine ⟨fun x hx => ?_, by simp⟩
    rw [List.mem_singleton.1 hx]
    exact ⟨by show (0 : Int) ≤ (n : Int); omega, by show (n : Int) < 16; omega⟩, hm⟩
  cases hR with
  | dead h => rw [hd] at h; cases h
  | form _ h => exact absurd hk.symm (h 2 rfl)
  | get _ h => omega
  | put _ _ _ _ hp =>
    cases hp with
    | form _ => exact ⟨rfl, rfl, rfl⟩
    | no n data _ hl hn hm _ _ => exact (one n data hl hn hm).elim
    | torn n data hl hn hm _ _ _ => exact (one n data hl hn hm).elim
    | put n data _ _ hl hn hm _ _ _ _ => exact (one n data hl hn hm).elim
    | there n data _ _ hl hn hm _ _ _ => exact (one n data hl hn hm).elim
  | slot _ h => omega
  | swap _ h _ _ _ => omega
  | renew _ h _ _ _ => omega
  | cancel _ h _ _ _ => omega
theorem DoR.noswap (hd : s.dead = false) (hk : r.kind = 4) (hf : ¬ (l ≠ [] ∧ NumsOk l ∧ May r.ends)) (hR : DoR s r l ts o err lb s') : err = 2 ∧ lb = [] ∧ s' = s := by
  cases hR with
  | dead h => rw [hd] at h; cases h
  | form _ h => exact absurd hk.symm (h 4 rfl)
  | get _ h => omega
  | put _ h _ _ _ => omega
  | slot _ h => omega
  | swap _ _ _ _ hp =>
    cases hp with
    | form _ => exact ⟨rfl, rfl, rfl⟩
    | enable h _ _ => exact (hf h).elim
    | test h _ _ => exact (hf h).elim
    | no h _ _ _ _ _ _ _ _ => exact (hf h).elim
    | torn h _ _ _ _ _ _ _ => exact (hf h).elim
    | put h _ _ _ _ _ _ _ _ _ _ => exact (hf h).elim
  | renew _ h _ _ _ => omega
  | cancel _ h _ _ _ => omega
end
def badL : Nat → Int × Int × List Blob
  | 0 => (2, 5, [])
  | 1 => (2, 0, [(0, [])])
  | 2 => (2, 5, [(16, [])])
  | 3 => (2, 5, [(0, []), (1, [])])
  | 4 => (4, 5, [])
  | 5 => (4, 5, [(0, []), (0, [])])
  | 6 => (4, 1048577, [(0, [])])
  | _ => (4, 5, [(-1, [])])
theorem badL_form {s s' : SrvS} {r : Req} {lb : List Blob} {ts : List Tst} {o : Option (Key × List Blob)} {err : Int} (hd : s.dead = false) (k : Nat) (hk : k < 8) (h1 : r.kind = (badL k).1) (h2 : r.ends = (badL k).2.1) (hR : DoR s r (badL k).2.2 ts o err lb s') : err = 2 ∧ lb = [] ∧ s' = s := by
  rcases (by omega : k = 0 ∨ k = 1 ∨ k = 2 ∨ k = 3 ∨ k = 4 ∨ k = 5 ∨ k = 6 ∨ k = 7) with rfl | rfl | rfl | rfl | rfl | rfl | rfl | rfl
  · exact DoR.noput hd h1 (fun h => by have := h.1; cases this) hR
  · exact DoR.noput hd h1 (fun h => by have := h.2.2.1; rw [h2] at this; revert this; decide) hR
  · exact DoR.noput hd h1 (fun h => by have := h.2.1.1 (16, []) (List.mem_singleton.2 rfl); revert this; decide) hR
  · exact DoR.noput hd h1 (fun h => by have := h.1; revert this; decide) hR
  · exact DoR.noswap hd h1 (fun h => h.1 rfl) hR
  · exact DoR.noswap hd h1 (fun h => by have := h.2.1.2; revert this; decide) hR
  · exact DoR.noswap hd h1 (fun h => by have := h.2.2.2; rw [h2] at this; revert this; decide) hR
  · exact DoR.noswap hd h1 (fun h => by have := h.2.1.1 (-1, []) (List.mem_singleton.2 rfl); revert this; decide) hR
end Go.Mem
end
section
namespace Go.Mem
open Go Go.RowKit Gf Lea Go.Proofs.YtbbojbdigiibbaaGreatDoor
theorem Act16R.req_at {W w : World} {cs : List Value} {a : Act16} {b o : Nat} (h : Act16R W cs a) (hc : ∀ j v, cs[j]? = some v → w.cell? ⟨b, o + j, none⟩ = some v) : SomeK 52 w b (o + 4) ∧ readK 52 w b (o + 4) = reqV a.r := by
  have hl : (reqV a.r).length = 52 := reqV_len h.r.wf
  have hr : ∀ j v, (reqV a.r)[j]? = some v → w.cell? ⟨b, o + 4 + j, none⟩ = some v := fun j v hv => by
    rw [← h.r.cs, List.getElem?_take] at hv
    split at hv
    · rw [List.getElem?_drop] at hv
      rw [Nat.add_assoc]
      exact hc _ _ hv
    · cases hv
  refine ⟨someK_of (cs := reqV a.r) hr hl, ?_⟩
  apply List.ext_getElem?
  intro j
  unfold readK
  rw [List.getElem?_map]
  rcases Nat.lt_or_ge j 52 with hj | hj
  · rw [List.getElem?_range hj]
    have hv : (reqV a.r)[j]? = some ((reqV a.r)[j]'(by omega)) := List.getElem?_eq_getElem (by omega)
    rw [hv]
    simp only [Option.map_some]
    rw [hr j _ hv]; rfl
  · rw [List.getElem?_eq_none (by simpa using hj), List.getElem?_eq_none (by omega)]; rfl
end Go.Mem
namespace Go.Proofs.YtbbojbdigiibbaaGreatDoor
open Go Go.RowKit Go.Mem Gf Lea
set_option linter.unusedVariables false
theorem load_reqS (dst : Option Tmp) (x : Operand) (ty : TypeId) (pos : String) (af : Array Edge) (gd : Option (Tmp × Bool)) (a : Act) (w : World) (K : Act → World → Prop) (Q : Exit → Act → World → Prop)
    (hp : ptrIs (a.eval x) = true) (ht : SomeK 52 w (ptrB (a.eval x)) (ptrO (a.eval x))) :
    Oper.wp Tryz.prog ⟨dst, .load 47 x, ty, pos, af, gd⟩ a w K Q = K (a.put dst (.agg (readK 52 w (ptrB (a.eval x)) (ptrO (a.eval x))).toArray)) w :=
  wp_loadS Tryz.underlying47 rfl i52 dst x ty pos af gd a w K Q hp ht
theorem smallB_small (l : List Blob) : ∀ x ∈ smallB l, x.2.length ≤ 60 := fun x hx => by
  unfold smallB at hx
  obtain ⟨y, _, rfl⟩ := List.mem_map.1 hx
  show (y.2.take 60).length ≤ 60
  rw [List.length_take]
  omega
theorem play_calls {w0 w : World} {C : Nat → Prop} {pb m B : Nat} {s : SrvS} (h : SrvL w0 w C pb s) (hg : SrvG m s) (hst : s.st.disk.stops = false) (hm : m + 1 < 900000) {r : Req} (hr : r.Wf) {vt vb : Value} {ts : List Tst} {bl : List Blob}
    (hB : ∀ b, C b → b < B) (hts : TsAt w (fun b => b < B) vt ts) (hbl : BlAt w (fun b => b < B) vb (smallB bl)) :
    Calls Tryz.prog 20 #[.pointer (some ⟨pb, 0, none⟩), .agg (reqV (smallR r vt vb)).toArray] w fun e w' => ∃ C' u err lb s' o, e = .returned (.agg #[.int .i64 err, u]) ∧ SrvL w0 w' C' pb s' ∧ SrvG (m + 2) s' ∧ s'.st.disk.stops = false ∧ ContIs s (smallR r vt vb).ix o ∧ DoR s (smallR r vt vb) (smallB bl) ts o err lb s' ∧ SChg C C' w w' := by
  obtain ⟨o, ho⟩ := RecsOk.cont (s := s) hg.st.recs hg.st.dead (smallR r vt vb).ix
  have hz : ∀ x ∈ smallB bl, x.2.length ≤ 16384 := fun x hx => by have := smallB_small bl x hx; omega
  have hwr := hg.st.writes
  refine (h.any (hg.srvB (by omega)) (by omega) (smallR_wf hr vt vb) (l := smallB bl) (BlAt.mono hbl fun b hb => .inl (hB b hb)) hz (ts := ts) (TsAt.mono hts fun b hb => .inl (hB b hb)) (fun _ => ho)).mono ?_
  rintro e w' ⟨C', err, u, lb, s', rfl, _, hR, hL, hsc⟩
  obtain ⟨h1, h2⟩ := hg.play hst (by omega) (smallR_wf hr vt vb) hz ho hR
  exact ⟨C', u, err, lb, s', o, rfl, hL, h1, h2, ho, hR, hsc⟩
end Go.Proofs.YtbbojbdigiibbaaGreatDoor
end
section
namespace Go.Proofs.YtbbojbdigiibbaaGreatDoor
open Go Go.RowKit Go.Mem Gf Lea
set_option linter.unusedVariables false
def cat8 (v0 v1 v2 v3 v4 v5 v6 v7 : Value) : Array Value := ([v0, v1, v2, v3, v4, v5, v6, v7].flatMap fun v => v.cells.toList).toArray
set_option maxHeartbeats 1000000 in
theorem slice_reqs8 (dst : Option Tmp) (x0 x1 x2 x3 x4 x5 x6 x7 : Operand) (ty : TypeId) (pos : String) (af : Array Edge) (a : Act) (w : World) (K : Act → World → Prop) (Q : Exit → Act → World → Prop)
    (h0 : aggIs (a.eval x0) = true) (h1 : aggIs (a.eval x1) = true) (h2 : aggIs (a.eval x2) = true) (h3 : aggIs (a.eval x3) = true) (h4 : aggIs (a.eval x4) = true) (h5 : aggIs (a.eval x5) = true) (h6 : aggIs (a.eval x6) = true) (h7 : aggIs (a.eval x7) = true)
    (l0 : (aggL (a.eval x0)).length = 52) (l1 : (aggL (a.eval x1)).length = 52) (l2 : (aggL (a.eval x2)).length = 52) (l3 : (aggL (a.eval x3)).length = 52) (l4 : (aggL (a.eval x4)).length = 52) (l5 : (aggL (a.eval x5)).length = 52) (l6 : (aggL (a.eval x6)).length = 52) (l7 : (aggL (a.eval x7)).length = 52) :
    Oper.wp Tryz.prog ⟨dst, .buildSlice 54 8 #[(0, x0), (1, x1), (2, x2), (3, x3), (4, x4), (5, x5), (6, x6), (7, x7)], ty, pos, af, none⟩ a w K Q = K (a.put dst (.slice (some ⟨w.heap.size, 0, none⟩) 8 8)) (w.alloc (.cells (cat8 (a.eval x0) (a.eval x1) (a.eval x2) (a.eval x3) (a.eval x4) (a.eval x5) (a.eval x6) (a.eval x7)) 47)) := by
  have hi : (Tryz.prog.info? 47).map (fun i => (i.size, (i.zero.map (·.cells.size)))) = some (52, some 52) := by kernel_rfl
  cases hie : Tryz.prog.info? 47 with
  | none => rw [hie] at hi; cases hi
  | some ie =>
    rw [hie] at hi
    simp only [Option.map_some, Option.some.injEq, Prod.mk.injEq] at hi
    obtain ⟨e1, e2⟩ := hi
    cases hz : ie.zero with
    | none => rw [hz] at e2; cases e2
    | some z =>
      have sz : ∀ v, aggIs v = true → (aggL v).length = 52 → v.cells.size = 52 := fun v h l => by rw [agg_cells h]; simpa using l
      have hf := Great.fill_whole (s := 52) (by decide) [a.eval x0, a.eval x1, a.eval x2, a.eval x3, a.eval x4, a.eval x5, a.eval x6, a.eval x7] ((Array.range (8 * 52)).map (z.cells[· % z.cells.size]!)) (fun v hv => by
        simp only [List.mem_cons, List.not_mem_nil, or_false] at hv
        rcases hv with rfl | rfl | rfl | rfl | rfl | rfl | rfl | rfl
        · exact sz _ h0 l0
        · exact sz _ h1 l1
        · exact sz _ h2 l2
        · exact sz _ h3 l3
        · exact sz _ h4 l4
        · exact sz _ h5 l5
        · exact sz _ h6 l6
        · exact sz _ h7 l7) (by simp)
      unfold Oper.wp execOp
      have hr := run_buildSlice (P := Tryz.prog) w 54 47 8 #[(0, a.eval x0), (1, a.eval x1), (2, a.eval x2), (3, a.eval x3), (4, a.eval x4), (5, a.eval x5), (6, a.eval x6), (7, a.eval x7)] (cat8 (a.eval x0) (a.eval x1) (a.eval x2) (a.eval x3) (a.eval x4) (a.eval x5) (a.eval x6) (a.eval x7)) ie z Tryz.underlying54 hie hz (by rw [e1]; omega) (by rw [e1]; omega) (by rw [e1]; exact hf)
      simp only [List.map_toArray, List.map_cons, List.map_nil, Sem.run_bind, hr, Result.andThen_ok]
      rfl
theorem reqs_get : ∀ (l : List Req), (∀ x ∈ l, x.Wf) → ∀ (i : Nat) (x : Req), l[i]? = some x → ∀ c, c < 52 → (allV reqV l)[i * 52 + c]? = (reqV x)[c]?
  | y :: l, h, 0, x, hx, c, hc => by
    simp at hx
    subst hx
    unfold allV
    rw [List.flatMap_cons, Nat.zero_mul, Nat.zero_add, List.getElem?_append_left (by rw [reqV_len (h y (by simp))]; exact hc)]
  | y :: l, h, i + 1, x, hx, c, hc => by
    have ih := reqs_get l (fun z hz => h z (by simp [hz])) i x (by simpa using hx) c hc
    have hl := reqV_len (h y (by simp))
    unfold allV at ih ⊢
    rw [List.flatMap_cons, List.getElem?_append_right (by omega), hl, ← ih]
    congr 1
    omega
theorem reqs_at {w : World} {q : Nat} {l : List Req} {t : TypeId} (h : Blk w q (allV reqV l).toArray t) (hw : ∀ x ∈ l, x.Wf) {i : Nat} {r : Req} (hi : l[i]? = some r) : SomeK 52 w q (i * 52) ∧ readK 52 w q (i * 52) = reqV r := by
  have hl : (reqV r).length = 52 := reqV_len (hw r (List.mem_of_getElem? hi))
  have hr : ∀ j v, (reqV r)[j]? = some v → w.cell? ⟨q, i * 52 + j, none⟩ = some v := fun j v hv => by
    have hj : j < 52 := by have := some_lt hv; omega
    rw [h.cell, List.getElem?_toArray, reqs_get l hw i r hi j hj]; exact hv
  refine ⟨someK_of (cs := reqV r) hr hl, ?_⟩
  apply List.ext_getElem?
  intro j
  unfold readK
  rw [List.getElem?_map]
  rcases Nat.lt_or_ge j 52 with hj | hj
  · rw [List.getElem?_range hj]
    have hv : (reqV r)[j]? = some ((reqV r)[j]'(by omega)) := List.getElem?_eq_getElem (by omega)
    rw [hv]
    simp only [Option.map_some]
    rw [hr j _ hv]; rfl
  · rw [List.getElem?_eq_none (by simpa using hj), List.getElem?_eq_none (by omega)]; rfl
theorem cat8_req (r0 r1 r2 r3 r4 r5 r6 r7 : Req) : cat8 (.agg (reqV r0).toArray) (.agg (reqV r1).toArray) (.agg (reqV r2).toArray) (.agg (reqV r3).toArray) (.agg (reqV r4).toArray) (.agg (reqV r5).toArray) (.agg (reqV r6).toArray) (.agg (reqV r7).toArray) = (allV reqV [r0, r1, r2, r3, r4, r5, r6, r7]).toArray := by
  unfold cat8 allV
  simp [Value.cells]
def kindR (kind : Int) (ix : Key) (ends : Int) (vb : Value) : Req := ⟨kind, ix, z16, ends, z16, .slice none 0 0, vb⟩
theorem kindR_wf (kind : Int) {ix : Key} (ends : Int) (vb : Value) (h : ix.length = 16) : (kindR kind ix ends vb).Wf := ⟨h, by show z16.length = 16; decide, by show z16.length = 16; decide⟩
theorem kindR_eq (kind : Int) (ix : Key) (ends : Int) (vb : Value) : RF.V ⟨.int .i64 kind, bV ix, zk, .int .i64 ends, zk, .slice none 0 0, vb⟩ = reqV (kindR kind ix ends vb) := rfl
theorem kindZ_eq (k e : Int) (vb : Value) : RF.V ⟨.int .i64 k, zk, zk, .int .i64 e, zk, .slice none 0 0, vb⟩ = reqV (kindR k z16 e vb) := rfl
theorem kindZ_size (k e : Int) (vb : Value) : (reqV (kindR k z16 e vb)).length = 52 := reqV_len (kindR_wf k e vb (by decide))
theorem blAt_two {w : World} {N : Nat → Prop} {g : Nat} {n0 n1 : Int} {t : TypeId} (hb : Blk w g #[.int .i64 n0, .slice none 0 0, .int .i64 n1, .slice none 0 0] t) (hN : ¬ N g) : BlAt w N (.slice (some ⟨g, 0, none⟩) 2 2) [(n0, []), (n1, [])] := by
  have hd : DataZ w N (.slice none 0 0) [] := ⟨⟨none, 0, rfl, Nat.le_refl _, Nat.zero_le _, fun h => by simp at h⟩, none, 0, rfl, fun h => by simp at h⟩
  refine ⟨_, 2, rfl, Nat.le_refl _, by decide, fun _ => ⟨g, 0, rfl, hb.lt, hN, fun i x hx => ?_⟩⟩
  match i, hx with
  | 0, hx => simp at hx; subst hx; exact ⟨by rw [hb.cell]; rfl, none, 0, by rw [hb.cell]; rfl, hd⟩
  | 1, hx => simp at hx; subst hx; exact ⟨by rw [hb.cell]; rfl, none, 0, by rw [hb.cell]; rfl, hd⟩
theorem blAt_zero {w : World} {N : Nat → Prop} {g : Nat} {n : Int} {t : TypeId} (hb : Blk w g #[.int .i64 n, .slice none 0 0] t) (hN : ¬ N g) : BlAt w N (.slice (some ⟨g, 0, none⟩) 1 1) [(n, [])] :=
  blAt_one (a := none) (c := 0) (bs := []) hb hN ⟨⟨none, 0, rfl, Nat.le_refl _, Nat.zero_le _, fun h => by simp at h⟩, none, 0, rfl, fun h => by simp at h⟩
set_option maxHeartbeats 1000000 in
theorem bads_at (w : World) (N : Nat → Prop) (hN : ∀ b, w.heap.size ≤ b → ¬ N b) : ∃ l : List Req, (∀ x ∈ l, x.Wf) ∧ Below w.heap.size w (((((((w.alloc (.cells #[Value.int .i64 0, .slice none 0 0] 53)).alloc (.cells #[Value.int .i64 16, .slice none 0 0] 53)).alloc (.cells #[Value.int .i64 0, .slice none 0 0, .int .i64 1, .slice none 0 0] 53)).alloc (.cells #[Value.int .i64 0, .slice none 0 0, .int .i64 0, .slice none 0 0] 53)).alloc (.cells #[Value.int .i64 0, .slice none 0 0] 53)).alloc (.cells #[Value.int .i64 (-1), .slice none 0 0] 53)).alloc (.cells (cat8 (.agg (reqV (kindR 2 z16 5 (.slice none 0 0))).toArray) (.agg (reqV (kindR 2 z16 0 (.slice (some ⟨w.heap.size, 0, none⟩) 1 1))).toArray) (.agg (reqV (kindR 2 z16 5 (.slice (some ⟨w.heap.size + 1, 0, none⟩) 1 1))).toArray) (.agg (reqV (kindR 2 z16 5 (.slice (some ⟨w.heap.size + 1 + 1, 0, none⟩) 2 2))).toArray) (.agg (reqV (kindR 4 z16 5 (.slice none 0 0))).toArray) (.agg (reqV (kindR 4 z16 5 (.slice (some ⟨w.heap.size + 1 + 1 + 1, 0, none⟩) 2 2))).toArray) (.agg (reqV (kindR 4 z16 1048577 (.slice (some ⟨w.heap.size + 1 + 1 + 1 + 1, 0, none⟩) 1 1))).toArray) (.agg (reqV (kindR 4 z16 5 (.slice (some ⟨w.heap.size + 1 + 1 + 1 + 1 + 1, 0, none⟩) 1 1))).toArray)) 47)) ∧ Blk (((((((w.alloc (.cells #[Value.int .i64 0, .slice none 0 0] 53)).alloc (.cells #[Value.int .i64 16, .slice none 0 0] 53)).alloc (.cells #[Value.int .i64 0, .slice none 0 0, .int .i64 1, .slice none 0 0] 53)).alloc (.cells #[Value.int .i64 0, .slice none 0 0, .int .i64 0, .slice none 0 0] 53)).alloc (.cells #[Value.int .i64 0, .slice none 0 0] 53)).alloc (.cells #[Value.int .i64 (-1), .slice none 0 0] 53)).alloc (.cells (cat8 (.agg (reqV (kindR 2 z16 5 (.slice none 0 0))).toArray) (.agg (reqV (kindR 2 z16 0 (.slice (some ⟨w.heap.size, 0, none⟩) 1 1))).toArray) (.agg (reqV (kindR 2 z16 5 (.slice (some ⟨w.heap.size + 1, 0, none⟩) 1 1))).toArray) (.agg (reqV (kindR 2 z16 5 (.slice (some ⟨w.heap.size + 1 + 1, 0, none⟩) 2 2))).toArray) (.agg (reqV (kindR 4 z16 5 (.slice none 0 0))).toArray) (.agg (reqV (kindR 4 z16 5 (.slice (some ⟨w.heap.size + 1 + 1 + 1, 0, none⟩) 2 2))).toArray) (.agg (reqV (kindR 4 z16 1048577 (.slice (some ⟨w.heap.size + 1 + 1 + 1 + 1, 0, none⟩) 1 1))).toArray) (.agg (reqV (kindR 4 z16 5 (.slice (some ⟨w.heap.size + 1 + 1 + 1 + 1 + 1, 0, none⟩) 1 1))).toArray)) 47)) (w.heap.size + 1 + 1 + 1 + 1 + 1 + 1) (allV reqV l).toArray 47 ∧ ∀ k, k < 8 → ∃ r, l[k]? = some r ∧ r.kind = (badL k).1 ∧ r.ends = (badL k).2.1 ∧ r.vt = .slice none 0 0 ∧ BlAt (((((((w.alloc (.cells #[Value.int .i64 0, .slice none 0 0] 53)).alloc (.cells #[Value.int .i64 16, .slice none 0 0] 53)).alloc (.cells #[Value.int .i64 0, .slice none 0 0, .int .i64 1, .slice none 0 0] 53)).alloc (.cells #[Value.int .i64 0, .slice none 0 0, .int .i64 0, .slice none 0 0] 53)).alloc (.cells #[Value.int .i64 0, .slice none 0 0] 53)).alloc (.cells #[Value.int .i64 (-1), .slice none 0 0] 53)).alloc (.cells (cat8 (.agg (reqV (kindR 2 z16 5 (.slice none 0 0))).toArray) (.agg (reqV (kindR 2 z16 0 (.slice (some ⟨w.heap.size, 0, none⟩) 1 1))).toArray) (.agg (reqV (kindR 2 z16 5 (.slice (some ⟨w.heap.size + 1, 0, none⟩) 1 1))).toArray) (.agg (reqV (kindR 2 z16 5 (.slice (some ⟨w.heap.size + 1 + 1, 0, none⟩) 2 2))).toArray) (.agg (reqV (kindR 4 z16 5 (.slice none 0 0))).toArray) (.agg (reqV (kindR 4 z16 5 (.slice (some ⟨w.heap.size + 1 + 1 + 1, 0, none⟩) 2 2))).toArray) (.agg (reqV (kindR 4 z16 1048577 (.slice (some ⟨w.heap.size + 1 + 1 + 1 + 1, 0, none⟩) 1 1))).toArray) (.agg (reqV (kindR 4 z16 5 (.slice (some ⟨w.heap.size + 1 + 1 + 1 + 1 + 1, 0, none⟩) 1 1))).toArray)) 47)) N r.vb (badL k).2.2 := by
  obtain ⟨w0, hw0⟩ : ∃ q, q = w := ⟨_, rfl⟩
  obtain ⟨x1, h1⟩ : ∃ q, q = w.alloc (.cells #[Value.int .i64 0, .slice none 0 0] 53) := ⟨_, rfl⟩
  have s1 : x1.heap.size = w.heap.size + 1 := by rw [h1]; simp
  have b1 : Below w.heap.size w x1 := by rw [h1]; exact (Below.refl _ _).alloc (Nat.le_refl _) _
  have k11 : Blk x1 (w.heap.size) #[Value.int .i64 0, .slice none 0 0] 53 := by rw [h1]; exact Blk.new_at _ _ _ _ (rfl)
  obtain ⟨x2, h2⟩ : ∃ q, q = x1.alloc (.cells #[Value.int .i64 16, .slice none 0 0] 53) := ⟨_, rfl⟩
  have s2 : x2.heap.size = w.heap.size + 1 + 1 := by rw [h2]; simp [s1]
  have b2 : Below w.heap.size w x2 := by rw [h2]; exact b1.alloc b1.size _
  have k22 : Blk x2 (w.heap.size + 1) #[Value.int .i64 16, .slice none 0 0] 53 := by rw [h2]; exact Blk.new_at _ _ _ _ (s1.symm)
  have k12 := k11.alloc (.cells #[Value.int .i64 16, .slice none 0 0] 53)
  rw [← h2] at k12
  obtain ⟨x3, h3⟩ : ∃ q, q = x2.alloc (.cells #[Value.int .i64 0, .slice none 0 0, .int .i64 1, .slice none 0 0] 53) := ⟨_, rfl⟩
  have s3 : x3.heap.size = w.heap.size + 1 + 1 + 1 := by rw [h3]; simp [s2]
  have b3 : Below w.heap.size w x3 := by rw [h3]; exact b2.alloc b2.size _
  have k33 : Blk x3 (w.heap.size + 1 + 1) #[Value.int .i64 0, .slice none 0 0, .int .i64 1, .slice none 0 0] 53 := by rw [h3]; exact Blk.new_at _ _ _ _ (s2.symm)
  have k13 := k12.alloc (.cells #[Value.int .i64 0, .slice none 0 0, .int .i64 1, .slice none 0 0] 53)
  rw [← h3] at k13
  have k23 := k22.alloc (.cells #[Value.int .i64 0, .slice none 0 0, .int .i64 1, .slice none 0 0] 53)
  rw [← h3] at k23
  obtain ⟨x4, h4⟩ : ∃ q, q = x3.alloc (.cells #[Value.int .i64 0, .slice none 0 0, .int .i64 0, .slice none 0 0] 53) := ⟨_, rfl⟩
  have s4 : x4.heap.size = w.heap.size + 1 + 1 + 1 + 1 := by rw [h4]; simp [s3]
  have b4 : Below w.heap.size w x4 := by rw [h4]; exact b3.alloc b3.size _
  have k44 : Blk x4 (w.heap.size + 1 + 1 + 1) #[Value.int .i64 0, .slice none 0 0, .int .i64 0, .slice none 0 0] 53 := by rw [h4]; exact Blk.new_at _ _ _ _ (s3.symm)
  have k14 := k13.alloc (.cells #[Value.int .i64 0, .slice none 0 0, .int .i64 0, .slice none 0 0] 53)
  rw [← h4] at k14
  have k24 := k23.alloc (.cells #[Value.int .i64 0, .slice none 0 0, .int .i64 0, .slice none 0 0] 53)
  rw [← h4] at k24
  have k34 := k33.alloc (.cells #[Value.int .i64 0, .slice none 0 0, .int .i64 0, .slice none 0 0] 53)
  rw [← h4] at k34
  obtain ⟨x5, h5⟩ : ∃ q, q = x4.alloc (.cells #[Value.int .i64 0, .slice none 0 0] 53) := ⟨_, rfl⟩
  have s5 : x5.heap.size = w.heap.size + 1 + 1 + 1 + 1 + 1 := by rw [h5]; simp [s4]
  have b5 : Below w.heap.size w x5 := by rw [h5]; exact b4.alloc b4.size _
  have k55 : Blk x5 (w.heap.size + 1 + 1 + 1 + 1) #[Value.int .i64 0, .slice none 0 0] 53 := by rw [h5]; exact Blk.new_at _ _ _ _ (s4.symm)
  have k15 := k14.alloc (.cells #[Value.int .i64 0, .slice none 0 0] 53)
  rw [← h5] at k15
  have k25 := k24.alloc (.cells #[Value.int .i64 0, .slice none 0 0] 53)
  rw [← h5] at k25
  have k35 := k34.alloc (.cells #[Value.int .i64 0, .slice none 0 0] 53)
  rw [← h5] at k35
  have k45 := k44.alloc (.cells #[Value.int .i64 0, .slice none 0 0] 53)
  rw [← h5] at k45
  obtain ⟨x6, h6⟩ : ∃ q, q = x5.alloc (.cells #[Value.int .i64 (-1), .slice none 0 0] 53) := ⟨_, rfl⟩
  have s6 : x6.heap.size = w.heap.size + 1 + 1 + 1 + 1 + 1 + 1 := by rw [h6]; simp [s5]
  have b6 : Below w.heap.size w x6 := by rw [h6]; exact b5.alloc b5.size _
  have k66 : Blk x6 (w.heap.size + 1 + 1 + 1 + 1 + 1) #[Value.int .i64 (-1), .slice none 0 0] 53 := by rw [h6]; exact Blk.new_at _ _ _ _ (s5.symm)
  have k16 := k15.alloc (.cells #[Value.int .i64 (-1), .slice none 0 0] 53)
  rw [← h6] at k16
  have k26 := k25.alloc (.cells #[Value.int .i64 (-1), .slice none 0 0] 53)
  rw [← h6] at k26
  have k36 := k35.alloc (.cells #[Value.int .i64 (-1), .slice none 0 0] 53)
  rw [← h6] at k36
  have k46 := k45.alloc (.cells #[Value.int .i64 (-1), .slice none 0 0] 53)
  rw [← h6] at k46
  have k56 := k55.alloc (.cells #[Value.int .i64 (-1), .slice none 0 0] 53)
  rw [← h6] at k56
  rw [← h1, ← h2, ← h3, ← h4, ← h5, ← h6]
  rw [cat8_req]
  have kr : Blk (x6.alloc (.cells (allV reqV [kindR 2 z16 5 (.slice none 0 0), kindR 2 z16 0 (.slice (some ⟨w.heap.size, 0, none⟩) 1 1), kindR 2 z16 5 (.slice (some ⟨w.heap.size + 1, 0, none⟩) 1 1), kindR 2 z16 5 (.slice (some ⟨w.heap.size + 1 + 1, 0, none⟩) 2 2), kindR 4 z16 5 (.slice none 0 0), kindR 4 z16 5 (.slice (some ⟨w.heap.size + 1 + 1 + 1, 0, none⟩) 2 2), kindR 4 z16 1048577 (.slice (some ⟨w.heap.size + 1 + 1 + 1 + 1, 0, none⟩) 1 1), kindR 4 z16 5 (.slice (some ⟨w.heap.size + 1 + 1 + 1 + 1 + 1, 0, none⟩) 1 1)]).toArray 47)) (w.heap.size + 1 + 1 + 1 + 1 + 1 + 1) (allV reqV [kindR 2 z16 5 (.slice none 0 0), kindR 2 z16 0 (.slice (some ⟨w.heap.size, 0, none⟩) 1 1), kindR 2 z16 5 (.slice (some ⟨w.heap.size + 1, 0, none⟩) 1 1), kindR 2 z16 5 (.slice (some ⟨w.heap.size + 1 + 1, 0, none⟩) 2 2), kindR 4 z16 5 (.slice none 0 0), kindR 4 z16 5 (.slice (some ⟨w.heap.size + 1 + 1 + 1, 0, none⟩) 2 2), kindR 4 z16 1048577 (.slice (some ⟨w.heap.size + 1 + 1 + 1 + 1, 0, none⟩) 1 1), kindR 4 z16 5 (.slice (some ⟨w.heap.size + 1 + 1 + 1 + 1 + 1, 0, none⟩) 1 1)]).toArray 47 := Blk.new_at _ _ _ _ s6.symm
  refine ⟨[kindR 2 z16 5 (.slice none 0 0), kindR 2 z16 0 (.slice (some ⟨w.heap.size, 0, none⟩) 1 1), kindR 2 z16 5 (.slice (some ⟨w.heap.size + 1, 0, none⟩) 1 1), kindR 2 z16 5 (.slice (some ⟨w.heap.size + 1 + 1, 0, none⟩) 2 2), kindR 4 z16 5 (.slice none 0 0), kindR 4 z16 5 (.slice (some ⟨w.heap.size + 1 + 1 + 1, 0, none⟩) 2 2), kindR 4 z16 1048577 (.slice (some ⟨w.heap.size + 1 + 1 + 1 + 1, 0, none⟩) 1 1), kindR 4 z16 5 (.slice (some ⟨w.heap.size + 1 + 1 + 1 + 1 + 1, 0, none⟩) 1 1)], fun x hx => ?_, b6.alloc b6.size _, kr, fun k hk => ?_⟩
  · simp only [List.mem_cons, List.not_mem_nil, or_false] at hx
    rcases hx with rfl | rfl | rfl | rfl | rfl | rfl | rfl | rfl <;> exact kindR_wf _ _ _ (by decide)
  · rcases (by omega : k = 0 ∨ k = 1 ∨ k = 2 ∨ k = 3 ∨ k = 4 ∨ k = 5 ∨ k = 6 ∨ k = 7) with rfl | rfl | rfl | rfl | rfl | rfl | rfl | rfl
    · exact ⟨_, rfl, rfl, rfl, rfl, BlAt.nil _ _⟩
    · exact ⟨_, rfl, rfl, rfl, rfl, blAt_zero (k16.alloc _) (hN _ (by omega))⟩
    · exact ⟨_, rfl, rfl, rfl, rfl, blAt_zero (k26.alloc _) (hN _ (by omega))⟩
    · exact ⟨_, rfl, rfl, rfl, rfl, blAt_two (k36.alloc _) (hN _ (by omega))⟩
    · exact ⟨_, rfl, rfl, rfl, rfl, BlAt.nil _ _⟩
    · exact ⟨_, rfl, rfl, rfl, rfl, blAt_two (k46.alloc _) (hN _ (by omega))⟩
    · exact ⟨_, rfl, rfl, rfl, rfl, blAt_zero (k56.alloc _) (hN _ (by omega))⟩
    · exact ⟨_, rfl, rfl, rfl, rfl, blAt_zero (k66.alloc _) (hN _ (by omega))⟩
end Go.Proofs.YtbbojbdigiibbaaGreatDoor
end
section
namespace Go.Proofs.YtbbojbdigiibbaaGreatDoor
open Go Go.RowKit Go.Mem Gf Lea
set_option linter.unusedVariables false
attribute [local go_sem ↓] Go.wp_at_zero Go.wp_at_succ
theorem list_eq_of {α : Type} {l l' : List α} (hn : l.length = l'.length) (h : ∀ q, q < l.length → l[q]? = l'[q]?) : l = l' := by
  apply List.ext_getElem?
  intro q
  rcases Nat.lt_or_ge q l.length with h1 | h1
  · exact h q h1
  · rw [List.getElem?_eq_none h1, List.getElem?_eq_none (by omega)]
set_option maxRecDepth 100000 in
set_option maxHeartbeats 2000000 in
theorem blobseq_calls (va vb : Value) (l l' : List Blob) (w : World) (ha : BlAt w (fun _ => False) va l) (hb : BlAt w (fun _ => False) vb l') :
    Calls Tryz.prog 22 #[va, vb] w fun e w' => e = .returned (.bool (decide (l = l'))) ∧ ∃ k, w' = w.drewN k := by
  obtain ⟨aa, ac, rfl, ha1, ha2, harow⟩ := id ha
  obtain ⟨ba, bc, rfl, hb1, hb2, hbrow⟩ := id hb
  obtain ⟨n, hn⟩ : ∃ n, n = l.length := ⟨_, rfl⟩
  obtain ⟨m, hm⟩ : ∃ n, n = l'.length := ⟨_, rfl⟩
  rw [← hn] at ha1 harow ⊢
  rw [← hm] at hb1 hbrow ⊢
  unfold maxLen at ha2 hb2
  have H := Lib.hid (And.intro hn (And.intro hm (And.intro harow hbrow)))
  clear ha hb hn hm harow hbrow
  by_cases hnm : n = m
  rotate_left
  · have t1 : ((n : Int) != (m : Int)) = true := by simp; omega
    have t2 : (n != m) = true := by simp; omega
    have hd : decide (l = l') = false := by
      simp
      intro e
      rw [e] at H
      have := H.out.1
      have := H.out.2.1
      omega
    have HD := Lib.hid hd
    replace hnm := Lib.hid hnm
    clear hd
    go_enter Tryz.func22, Tryz.ntmps22
    go_wp2_with fail
    go_ret
    exact ⟨by rw [HD.out]; rfl, 0, rfl⟩
  · subst hnm
    have t1 : ((n : Int) != (n : Int)) = false := by simp
    have t2 : (n != n) = false := by simp
    go_enter Tryz.func22, Tryz.ntmps22
    go_upto_region 4 with fail
    go_loopw [13] (fun vi wr => ∃ i : Nat, i ≤ n ∧ vi = .int .i64 i ∧ Hid ((∀ q, q < i → l[q]? = l'[q]?) ∧ ∃ k, wr = w.drewN k)) (fun vi _ => n - (intOf vi).toNat)
    case atStart => exact ⟨0, Nat.zero_le _, rfl, (fun q h => by omega), 0, rfl⟩
    case round =>
      obtain ⟨i, hi0, rfl, G⟩ := hrel
      by_cases hin : i < n
      · obtain ⟨b1, o1, rfl, hl1, _, hc1⟩ := H.out.2.2.1 (by omega)
        obtain ⟨b2, o2, rfl, hl2, _, hc2⟩ := H.out.2.2.2 (by omega)
        have hx : l[i]? = some (l[i]'(by have := H.out.1; omega)) := by simp
        generalize l[i]'(by have := H.out.1; omega) = x at hx
        have hy : l'[i]? = some (l'[i]'(by have := H.out.2.1; omega)) := by simp
        generalize l'[i]'(by have := H.out.2.1; omega) = y at hy
        obtain ⟨c1, a1, d1, c2, hd1⟩ := hc1 i x hx
        obtain ⟨e1, a2, d2, e2, hd2⟩ := hc2 i y hy
        obtain ⟨kk, hkk⟩ := G.out.2
        have i0 : (0 : Int) ≤ (i : Int) := by omega
        have i1 : (i : Int) < (n : Int) := by omega
        obtain ⟨z, hz⟩ : ∃ z, z = x.1 := ⟨_, rfl⟩
        obtain ⟨u, hu⟩ : ∃ z, z = y.1 := ⟨_, rfl⟩
        obtain ⟨xl, hxl⟩ : ∃ z, z = x.2.length := ⟨_, rfl⟩
        obtain ⟨yl, hyl⟩ : ∃ z, z = y.2.length := ⟨_, rfl⟩
        have f1 : wr.cell? ⟨b1, o1 + i * 2, none⟩ = some (.int .i64 z) := by rw [hkk, hz]; exact c1
        have f2 : wr.cell? ⟨b1, o1 + i * 2 + 1, none⟩ = some (.slice a1 xl d1) := by rw [hkk, hxl]; exact c2
        have f3 : wr.cell? ⟨b2, o2 + i * 2, none⟩ = some (.int .i64 u) := by rw [hkk, hu]; exact e1
        have f4 : wr.cell? ⟨b2, o2 + i * 2 + 1, none⟩ = some (.slice a2 yl d2) := by rw [hkk, hyl]; exact e2
        have hs := fun k => same8_calls (.slice a1 xl d1) (.slice a2 yl d2) x.2 y.2 (wr.drewN k) (by rw [hkk, hxl]; exact hd1.1) (by rw [hkk, hyl]; exact hd2.1)
        have HX := Lib.hid (And.intro hx (And.intro hy (And.intro hz (And.intro hu (And.intro hs hkk)))))
        clear hx hy hz hu hxl hyl hs hkk c1 c2 e1 e2 hc1 hc2 hd1 hd2
        by_cases hzu : z = u
        rotate_left
        · have t3 : (z != u) = true := by simpa using hzu
          have hd : decide (l = l') = false := by
            simp
            intro e
            have := HX.out.1
            rw [e, HX.out.2.1] at this
            cases this
            exact hzu (HX.out.2.2.1.trans HX.out.2.2.2.1.symm)
          have HD := Lib.hid hd
          replace hzu := Lib.hid hzu
          clear hd
          go_upto_region 6 with fail
          go_quiet (fail)
          go_wp2_with fail
          go_ret
          exact ⟨by rw [HD.out]; rfl, by rw [HX.out.2.2.2.2.2, World.drewN_drewN]; exact ⟨_, rfl⟩⟩
        · have t3 : (z != u) = false := by simpa using hzu
          have HZ := Lib.hid hzu
          clear hzu
          have hq : ∀ k, Calls Tryz.prog 31 #[.slice a1 xl d1, .slice a2 yl d2] (wr.drewN k) fun e w' => e = .returned (.bool (decide (x.2 = y.2))) ∧ ∃ n, w' = wr.drewN n := fun k => by
            refine (HX.out.2.2.2.2.1 k).mono ?_
            rintro e w' ⟨rfl, q, rfl⟩
            exact ⟨rfl, _, World.drewN_drewN _ _ _⟩
          have HQ := Lib.hid hq
          clear hq
          by_cases hxy : x.2 = y.2
          · have hdx : decide (x.2 = y.2) = true := by simpa using hxy
            have HXY := Lib.hid hxy
            rw [hdx] at HQ
            clear hxy hdx
            go_upto_region 6 with fail
            go_quiet (exact HQ.out _)
            go_wp2_with fail
            exact ⟨⟨i + 1, by omega, by simp, fun q hq => by
              rcases Nat.lt_or_ge q i with h | h
              · exact G.out.1 q h
              · have : q = i := by omega
                subst this
                rw [HX.out.1, HX.out.2.1]
                have e1 : x.1 = y.1 := HX.out.2.2.1.symm.trans (HZ.out.trans HX.out.2.2.2.1)
                exact congrArg some (Prod.ext e1 HXY.out), by rw [HX.out.2.2.2.2.2, World.drewN_drewN]; exact ⟨_, rfl⟩⟩, by show n - ((i : Int) + 1).toNat < n - (i : Int).toNat; omega⟩
          · have hdx : decide (x.2 = y.2) = false := by simpa using hxy
            have hd : decide (l = l') = false := by
              simp
              intro e
              have := HX.out.1
              rw [e, HX.out.2.1] at this
              cases this
              exact hxy rfl
            have HD := Lib.hid hd
            rw [hdx] at HQ
            clear hxy hdx hd
            go_upto_region 6 with fail
            go_quiet (exact HQ.out _)
            go_wp2_with fail
            go_ret
            exact ⟨by rw [HD.out]; rfl, by rw [HX.out.2.2.2.2.2, World.drewN_drewN]; exact ⟨_, rfl⟩⟩
      · obtain rfl : i = n := by omega
        have hd : decide (l = l') = true := by
          simp
          exact list_eq_of (by have := H.out.1; have := H.out.2.1; omega) (fun q hq => G.out.1 q (by have := H.out.1; omega))
        have HD := Lib.hid hd
        clear hd
        go_wp2_with fail
        go_ret
        exact ⟨by rw [HD.out]; rfl, G.out.2⟩
end Go.Proofs.YtbbojbdigiibbaaGreatDoor
end
section
namespace Go.Mem
open Go Go.RowKit Gf Lea Go.Proofs.YtbbojbdigiibbaaGreatDoor
theorem live_of {l : List Sto.Rec} (hu : Sto.Uniq l) (S : List ByteArray) (hS : S.Nodup) (h : ∀ nm, (Sto.look l nm).isSome = true ↔ nm ∈ S) : liveN l = S.length := by
  have h1 := namesK_nodup hu l.length
  have h2 : (S.map fun nm => nm.data.toList).Nodup := by
    rw [List.Nodup, List.pairwise_map]
    exact hS.imp fun {a b} hab e => hab (by
      cases a; cases b
      simp at e
      rw [e])
  have hp : (namesK l l.length).Perm (S.map fun nm => nm.data.toList) := (List.perm_ext_iff_of_nodup h1 h2).2 fun x => by
    constructor
    · intro hx
      have e : x = (⟨x.toArray⟩ : ByteArray).data.toList := rfl
      rw [e] at hx ⊢
      exact List.mem_map_of_mem ((h _).1 ((mem_names _).1 hx))
    · intro hx
      obtain ⟨nm, hn, rfl⟩ := List.mem_map.1 hx
      exact (mem_names nm).2 ((h nm).2 hn)
  rw [← names_live, hp.length_eq, List.length_map]
def fullF (d : List UInt8) (e : Int) : Nat → Look
  | 0 => fun _ => none
  | k + 1 => upd (upd (fullF d e k) (shareN z16 k) (some d)) (leaseN z16) (some (packL [(z16, e)]))
def fullN : Nat → List ByteArray
  | 0 => []
  | 1 => [shareN z16 0, leaseN z16]
  | _ => [shareN z16 0, shareN z16 1, leaseN z16]
theorem share01 {n n' : Nat} (hn : n < 16) (hn' : n' < 16) (h : n ≠ n') : shareN z16 n ≠ shareN z16 n' := fun e => h (shareN_inj e rfl rfl hn hn').2
structure FullS (d : List UInt8) (e : Int) (k : Nat) (s : SrvS) : Prop where
  g : SrvG (2 * k) s
  stops : s.st.disk.stops = false
  slots : s.slots = 4
  room : s.room = 8
  tab : if k = 0 then s.tab = [] else s.tab.Perm [⟨z16, z16, e⟩]
  look : ∀ nm, Sto.look s.st.recs nm = fullF d e k nm
section
variable {d : List UInt8} {e : Int} {s : SrvS}
theorem FullS.len {k : Nat} (h : FullS d e k s) : s.st.recs.length = 4 := by rw [← h.g.slots, h.slots]
theorem FullS.live {k : Nat} (h : FullS d e k s) (hk : k ≤ 2) : liveN s.st.recs = (fullN k).length := by
  have n1 : shareN z16 0 ≠ leaseN z16 := share_lease
  have n2 : shareN z16 1 ≠ leaseN z16 := share_lease
  have n3 : shareN z16 0 ≠ shareN z16 1 := share01 (by decide) (by decide) (by decide)
  refine live_of h.g.st.uniq (fullN k) ?_ fun nm => ?_
  · rcases (by omega : k = 0 ∨ k = 1 ∨ k = 2) with rfl | rfl | rfl
    · exact List.nodup_nil
    · simp [fullN, n1]
    · simp [fullN, n1, n2, n3]
  · rw [h.look]
    rcases (by omega : k = 0 ∨ k = 1 ∨ k = 2) with rfl | rfl | rfl
    · simp [fullF, fullN]
    · unfold fullF fullN upd
      by_cases e1 : nm = leaseN z16
      · simp [e1]
      · rw [if_neg e1]
        by_cases e2 : nm = shareN z16 0
        · simp [e2]
        · rw [if_neg e2]; simp [fullF, e1, e2]
    · show (upd (upd (fullF d e 1) (shareN z16 1) (some d)) (leaseN z16) _ nm).isSome = true ↔ nm ∈ [shareN z16 0, shareN z16 1, leaseN z16]
      unfold upd
      by_cases e1 : nm = leaseN z16
      · simp [e1]
      · rw [if_neg e1]
        by_cases e2 : nm = shareN z16 1
        · simp [e2]
        · rw [if_neg e2]
          show (upd (upd (fullF d e 0) (shareN z16 0) (some d)) (leaseN z16) _ nm).isSome = true ↔ _
          unfold upd
          rw [if_neg e1]
          by_cases e3 : nm = shareN z16 0
          · simp [e3]
          · rw [if_neg e3]; simp [fullF, e1, e2, e3]
theorem FullS.free {k : Nat} (h : FullS d e k s) (hk : k ≤ 2) : s.st.freeN = 4 - (fullN k).length := by
  have h1 := freeN_live h.g
  rw [h.live hk, h.len] at h1
  omega
theorem FullS.fresh {k : Nat} (h : FullS d e k s) (_hk : k ≤ 2) {n : Nat} (hn : n < 16) (hkn : k ≤ n) : Sto.look s.st.recs (shareN z16 n) = none := by
  rw [h.look]
  have : ∀ j, j ≤ k → fullF d e j (shareN z16 n) = none := by
    intro j
    induction j with
    | zero => intro _; rfl
    | succ j ih =>
      intro hj
      show upd (upd (fullF d e j) _ _) _ _ _ = none
      unfold upd
      rw [if_neg share_lease, if_neg (share01 hn (by omega) (by omega))]
      exact ih (by omega)
  exact this k (Nat.le_refl _)
theorem FullS.put {k : Nat} (h : FullS d e k s) (hk : k < 2) (hd : d.length ≤ 150) (he : May e) {r : Req} (hr : r.Wf) (h1 : r.ix = z16) (h2 : r.sec = z16) (h3 : r.ends = e) {err : Int} {s' : SrvS} (hp : PutSh s r [((k : Int), d)] err s') : err = 0 ∧ FullS d e (k + 1) s' := by
  have hlv := h.live (by omega)
  have hln := h.len
  have hfn : (fullN k).length + 2 ≤ 4 := by rcases (by omega : k = 0 ∨ k = 1) with rfl | rfl <;> simp [fullN]
  have hE : ∀ b l2, AddR s.tab r.ix r.sec r.ends b l2 → b = true ∧ l2.Perm [⟨r.ix, r.sec, e⟩] := fun b l2 ha => by
    have ht := h.tab
    rw [h1, h2, h3] at ha
    rw [h1, h2]
    rcases (by omega : k = 0 ∨ k = 1) with rfl | rfl
    · rw [if_pos rfl] at ht
      rw [ht] at ha
      exact AddR.none rfl he ha
    · rw [if_neg (by decide)] at ht
      have := AddR.again ht he ha
      rwa [show max e e = e from by omega] at this
  rcases h.g.put_one (by omega) hr (n := k) (by omega) (by rw [h3]; exact he) (by omega) (by rw [h1]; exact h.fresh (by omega) (by omega) (Nat.le_refl _)) (by rw [h.room]; exact Nat.le_refl _) (by omega) hE hp with ⟨a1, a2, a3, a4, a5, a6, a7, _⟩ | ⟨_, a2, _⟩
  · refine ⟨a1, ⟨by rw [show 2 * (k + 1) = 2 * k + 2 from by omega]; exact a2, a5.trans h.stops, a6.trans h.slots, a7.trans h.room, ?_, fun nm => ?_⟩⟩
    · rw [if_neg (by omega)]
      rwa [h1, h2] at a3
    · rw [a4, h1, h2]
      show _ = upd (upd (fullF d e k) (shareN z16 k) (some d)) (leaseN z16) (some (packL [(z16, e)])) nm
      have : Sto.look s.st.recs = fullF d e k := funext h.look
      rw [this]
  · rw [h.stops] at a2; cases a2
end
end Go.Mem
end
