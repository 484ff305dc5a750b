/- Texts of this proof, packed: StoreOpenW, StoreLaw2, Strs, StoreLab, KeysMade, KeysWakes, KeyKeep, KeyTwo, RefMath, Ref01. -/
import Derived.Test.YtdlkghdfkjdajaaDoorPkA04
import Derived.Test.YtdlkghdfkjdajaaDoorPkA10
import Derived.Test.YtdlkghdfkjdajaaDoorPkA01
import Derived.Sort.OwnSorted
import Derived.Test.YtdlkghdfkjdajaaDoorPkA00
import Derived.Test.YtdlkghdfkjdajaaDoorPkA02
import Derived.Deep.RegionHeld3
section
namespace Go.Mem
open Go Go.RowKit Gf
def OwnRecs (t8 tr : TypeId) (w : World) (base : Nat) (u : Value) (l : List Sto.Rec) : Prop :=
  ∃ vs : List Value, vs.length = l.length ∧ w.ownsRow base tr 4 u l.length (recsV l vs) ∧ ∀ (j : Nat) (r : Sto.Rec) (v : Value), l[j]? = some r → vs[j]? = some v → OwnX t8 w base v r.data
theorem OwnRecs.nil (t8 tr : TypeId) (w : World) (base : Nat) : OwnRecs t8 tr w base (.slice none 0 0) [] :=
  ⟨[], rfl, World.ownsRow_nil _ _ _ _, fun j r v h => by simp at h⟩
theorem OwnRecs.chg {S : Nat → Prop} {t8 tr : TypeId} {w w' : World} {base : Nat} {u : Value} {l : List Sto.Rec} (h : OwnRecs t8 tr w base u l) (hc : Chg S w w') (hs : ∀ g, base ≤ g → ¬ S g) : OwnRecs t8 tr w' base u l := by
  obtain ⟨vs, h1, h2, h3⟩ := h
  exact ⟨vs, h1, own_chg h2 hc (fun g hg => hs g (h2.lt g hg).1), fun j r v hr hv => (h3 j r v hr hv).chg hc (fun g hg => hs g ((h3 j r v hr hv).lt g hg).1)⟩
theorem ownX_grown {t8 tr : TypeId} {w w' : World} {b1 b2 s2 n2 : Nat} {v1 v2 : Value} {bs : List UInt8} {x2 : List Value} (h1 : OwnX t8 w b1 v1 bs) (h2 : w.ownsRow b2 tr s2 v2 n2 x2) (hne : t8 ≠ tr) (hg : w.grownBy w' v2.ownBlock) : OwnX t8 w' b1 v1 bs := by
  rcases h1 with h | ⟨g, cap, arr, fz, rfl, hb, hh, rest⟩
  · exact .inl h
  · refine .inr ⟨g, cap, arr, fz, rfl, hb, ?_, rest⟩
    rw [← hh]
    refine hg.block g (lt_of_block hh) ?_
    intro e
    rcases h2.2 with ⟨rfl, _⟩ | ⟨g2, cap2, cur2, rfl, _, hh2, _⟩
    · simp [Value.ownBlock] at e
    · simp only [Value.ownBlock, Option.some.injEq] at e
      subst e
      rw [hh] at hh2
      simp at hh2
      exact hne hh2.2.1
theorem OwnRecs.push {t8 tr : TypeId} {w w' : World} {base : Nat} {u u' v : Value} {l : List Sto.Rec} {r : Sto.Rec} {vs : List Value} (hne : t8 ≠ tr) (h1 : vs.length = l.length) (h2 : w.ownsRow base tr 4 u l.length (recsV l vs))
    (h3 : ∀ (j : Nat) (r : Sto.Rec) (v : Value), l[j]? = some r → vs[j]? = some v → OwnX t8 w base v r.data) (hr : OwnX t8 w base v r.data)
    (hown : w'.ownsRow base tr 4 u' (l.length + 1) (recsV l vs ++ [.bool r.is, .string r.name, .int .i64 r.num, v])) (hg : w.grownBy w' u.ownBlock) : OwnRecs t8 tr w' base u' (l ++ [r]) := by
  refine ⟨vs ++ [v], by simp [h1], by rw [recsV_snoc l vs r v h1, List.length_append]; exact hown, fun j r' v' hr' hv' => ?_⟩
  rcases Nat.lt_or_ge j l.length with hj | hj
  · rw [List.getElem?_append_left hj] at hr'
    rw [List.getElem?_append_left (by omega)] at hv'
    exact ownX_grown (h3 j r' v' hr' hv') h2 hne hg
  · rw [List.getElem?_append_right hj] at hr'
    rw [List.getElem?_append_right (by omega), h1] at hv'
    have hj0 : j - l.length = 0 := by
      rcases Nat.eq_zero_or_pos (j - l.length) with h | h
      · exact h
      · rw [List.getElem?_eq_none (by simp; omega)] at hr'; cases hr'
    rw [hj0] at hr' hv'
    simp at hr' hv'
    subst hr' hv'
    exact ownX_grown hr h2 hne hg
theorem push_at {t8 tr : TypeId} {w3 w' x1 : World} {base : Nat} {u u' v : Value} {l : List Sto.Rec} {r : Sto.Rec} {vs : List Value} (hne : t8 ≠ tr) (h1 : vs.length = l.length) (h2 : w3.ownsRow base tr 4 u l.length (recsV l vs))
    (h3 : ∀ (j : Nat) (r : Sto.Rec) (v : Value), l[j]? = some r → vs[j]? = some v → OwnX t8 w3 base v r.data) (hr : OwnX t8 w3 base v r.data) (hb : Below w3.heap.size w3 w')
    (hown : x1.ownsRow base tr 4 u' (l.length + 1) (recsV l vs ++ [.bool r.is, .string r.name, .int .i64 r.num, v])) (hg : w'.grownBy x1 u.ownBlock) : OwnRecs t8 tr x1 base u' (l ++ [r]) :=
  have hc : Chg (fun _ => False) w3 w' := Chg.of_below hb
  OwnRecs.push hne h1 (own_chg h2 hc (fun _ _ h => h)) (fun j r v hr hv => (h3 j r v hr hv).chg hc (fun _ _ h => h)) (hr.chg hc (fun _ _ h => h)) hown hg
theorem OwnX.data' {t8 : TypeId} {w : World} {base : Nat} {v : Value} {bs : List UInt8} {N : Nat → Prop} (h : OwnX t8 w base v bs) (hN : ∀ b arr fz, base ≤ b → w.heap[b]? = some (.cells arr t8 fz) → ¬ N b) : DataAt w N v bs := by
  refine ⟨h.bys, ?_⟩
  rcases h with ⟨rfl, rfl⟩ | ⟨g, cap, arr, fz, rfl, h2, h3, _⟩
  · exact ⟨none, 0, rfl, fun b h => by cases h⟩
  · exact ⟨_, cap, rfl, fun b hb => by cases hb; exact ⟨lt_of_block h3, hN _ _ _ h2 h3⟩⟩
theorem OwnRecs.recsAt {t8 tr : TypeId} {w : World} {base : Nat} {u : Value} {l : List Sto.Rec} (h : OwnRecs t8 tr w base u l) (hl : 0 < l.length) (hne : t8 ≠ tr) (N1 : Nat → Prop) (hN : ∀ b, N1 b → b < base) :
    ∃ lb cap, u = .slice (some ⟨lb, 0, none⟩) l.length cap ∧ l.length ≤ cap ∧ cap ≤ maxLen ∧ base ≤ lb ∧ RecsAt tr w (fun b => N1 b ∨ b = lb) lb l := by
  obtain ⟨vs, h1, h2, h3⟩ := h
  rcases h2.2 with ⟨_, h0⟩ | ⟨g, cap, cur, rfl, hb, hh, hn, hc, hs, ht⟩
  · omega
  · refine ⟨g, cap, rfl, hn, hc, hb, cur, vs, hh, by rw [hs]; exact Nat.mul_le_mul_right _ hn, h1, fun j hj => ?_, fun i r v hr hv => (h3 i r v hr hv).data' fun b arr fz hb1 hb2 hN' => ?_⟩
    · rw [← ht, List.getElem?_take, if_pos hj, Array.getElem?_toList]
    · rcases hN' with hN' | rfl
      · have := hN b hN'; omega
      · rw [hh] at hb2
        simp at hb2
        exact hne hb2.2.1.symm
end Go.Mem
namespace Go.Proofs.YtdlkghdfkjdajaaDoor
open Go Go.RowKit Go.Mem Gf
attribute [local go_sem ↓] Go.wp_at_zero Go.wp_at_succ
theorem EKr : ElemK Tryd.prog 59 63 (.agg #[.bool false, .string ByteArray.empty, .int .i64 0, .slice none 0 0]) 4 56 := ⟨Tryd.underlying59, by kernel_rfl, rfl, by decide⟩
def OpenPost (N0 : Nat → Prop) (d L : Nat) (D : DiskS) (slots room : Nat) (w : World) (e : Ending) (w' : World) : Prop :=
  ∃ p, e = .returned (.tuple #[p, .int .i64 (openR D slots room).1]) ∧ Chg (fun b => b = d ∨ b = L) w w' ∧ IsDisk w' d L (openR D slots room).2.1 ∧
    (((openR D slots room).2.2 = none ∧ p = .pointer none) ∨ ∃ s lb, (openR D slots room).2.2 = some s ∧ p = .pointer (some ⟨w.heap.size, 0, none⟩) ∧ w.heap.size < lb ∧ IsStore w' (fun b => N0 b ∨ b = w.heap.size ∨ b = lb) w.heap.size lb d L s)
set_option maxRecDepth 20000 in
set_option maxHeartbeats 2000000 in
theorem open_calls (N0 : Nat → Prop) (d L : Nat) (D : DiskS) (slots room : Nat) (w : World) (hT : Tab w) (hN0 : ¬ N0 gT ∧ N0 d ∧ N0 L ∧ ∀ b, N0 b → b < w.heap.size) (hD : IsDisk w d L D) (h1 : decide ((1 : Int) ≤ slots ∧ (slots : Int) ≤ 1024) = true) (h2 : decide ((1 : Int) ≤ room ∧ (room : Int) ≤ 1024) = true) (h : D.n = slots * (room + 1)) (hfew : D.writes < 72057594037920000) :
    Calls Tryd.prog 6 #[.pointer (some ⟨d, 0, none⟩), .int .i64 slots, .int .i64 room] w (OpenPost N0 d L D slots room w) := by
  have hs := of_decide_eq_true h1
  have hr := of_decide_eq_true h2
  have hm : slots * (room + 1) ≤ 1024 * 1025 := Nat.mul_le_mul (by omega) (by omega)
  obtain ⟨m, hmm⟩ : ∃ m, m = slots * (room + 1) := ⟨_, rfl⟩
  have q1 : IntKind.i64.wrap ((room : Int) + 1) = (room : Int) + 1 := IntWalk.i64_in _ (by omega)
  have q2 : IntKind.i64.wrap ((slots : Int) * ((room : Int) + 1)) = (m : Int) := by
    have e2 : (slots : Int) * ((room : Int) + 1) = (m : Int) := by rw [hmm]; push_cast; rfl
    rw [e2]
    exact IntWalk.i64_in _ (by omega)
  rw [← hmm] at h
  have hne : (D.n : Int) = (m : Int) := by omega
  have HR := Lib.hid hr
  have HM := Lib.hid hmm
  clear hr hm hmm h
  go_enter Tryd.func6, Tryd.ntmps6
  go_wp2_with fail
  refine (in_calls slots true w h1).mono ?_
  rintro e w1 ⟨rfl, rfl⟩
  go_wp2_with fail
  refine (in_calls room true w h2).mono ?_
  rintro e w1 ⟨rfl, rfl⟩
  go_wp2_with fail
  refine (dlen_calls d L D w hD).mono ?_
  rintro e w1 ⟨rfl, rfl⟩
  have hN := Blk.new w (stV d room none 0 0 false) 61
  unfold stV at hN
  go_wp2_with fail
  have Hsl := Lib.hid hs
  have HDD := Lib.hid hD
  have HN := Lib.hid hN; have HT := Lib.hid hT; have HN0 := Lib.hid hN0
  clear hs hD hN q1 q2 h1 h2 hT hN0
  go_loopw [38] (fun v wr => ∃ i : Nat, i ≤ slots ∧ v = .int .i64 i ∧ (readAll room D i).2.1 = 0 ∧ (∃ la lc, Blk wr w.heap.size (stV d room la i lc false) 61 ∧ OwnRecs 5 63 wr (w.heap.size + 1) (.slice la i lc) (readAll room D i).1) ∧ IsDisk wr d L (readAll room D i).2.2 ∧ w.heap.size + 1 ≤ wr.heap.size ∧ (readAll room D i).2.2.writes ≤ D.writes + i ∧ (readAll room D i).2.2.n = D.n ∧ Chg (fun b => b = d ∨ b = L) w wr) (fun v _ => slots - (intOf v).toNat)
  case atStart => exact ⟨0, by omega, rfl, rfl, ⟨none, 0, HN.out, OwnRecs.nil _ _ _ _⟩, HDD.out.below ((Below.refl _ _).alloc (Nat.le_refl _) _), by simp, by simp [readAll], rfl, Chg.of_below ((Below.refl _ _).alloc (Nat.le_refl _) _)⟩
  case round => as_aux_lemma =>
    obtain ⟨i, hi, rfl, h0, ⟨la, lc, hB, hO⟩, hDi, hsz, hw, hn, hcw⟩ := hrel
    by_cases hlt : i < slots
    · have i0 : (0 : Int) ≤ (i : Int) := by omega
      have i1 : (i : Int) < (slots : Int) := by omega
      have hin : (i + 1) * (room + 1) ≤ (readAll room D i).2.2.n := by
        rw [hn, show D.n = slots * (room + 1) from by have := HM.out; omega]
        exact Nat.mul_le_mul_right _ hlt
      have hlD := HDD.out.lt
      have hr2 := HR.out
      have hs2 := Hsl.out
      have hlen := readAll_len room D i h0
      have HO := Lib.hid hO; have HCW := Lib.hid hcw; have HLEN := Lib.hid hlen
      have RC := read_calls w.heap.size d L room i lc i la false (readAll room D i).2.2 wr hB hDi ⟨by omega, by omega⟩ (Nat.le_refl _) (by omega) (by omega) (by omega) hin (by omega)
      obtain ⟨q, hq⟩ : ∃ q, q = readR (readAll room D i).2.2 room i := ⟨_, rfl⟩
      unfold ReadPost recV at RC
      rw [← hq] at RC
      obtain ⟨⟨qis, qname, qnum, qdata⟩, qe, qw⟩ := q
      simp only at RC
      have HQ := Lib.hid hq
      have Hw := Lib.hid hw; have Hn := Lib.hid hn; have Hlt := Lib.hid hlD
      clear hin hr2 hs2 hlD hq hO hcw hw hn hlen
      go_wp2_with fail
      refine RC.mono ?_
      clear RC
      rintro e w3 ⟨dv, rfl, hod, hB3, hD3, hc3⟩
      obtain ⟨da, dc, rfl⟩ := hod.eq_slice
      have HC := Lib.hid hc3
      have HB3 := Lib.hid hB3; have HD3 := Lib.hid hD3; have HO3 := Lib.hid hod
      by_cases he : qe = 0
      · as_aux_lemma =>
        subst he
        clear hc3 hB3 hD3 hod
        go_wp2_with fail
        have hs3 : wr.heap.size ≤ w3.heap.size := HC.out.size
        have hnext : readAll room D (i + 1) = ((readAll room D i).1 ++ [⟨qis, qname, qnum, qdata⟩], 0, if qw = true then (readAll room D i).2.2.wr ((i * (room + 1) : Nat) : Int) [0] else (readAll room D i).2.2) := by
          rw [readAll]
          simp only [h0, ne_eq, not_true_eq_false, if_false]
          rw [← HQ.out]
          rfl
        have HNX := Lib.hid hnext
        have hO3 := HO.out.chg HC.out (fun g hg hS => by
          have := Hlt.out
          unfold Tri at hS
          omega)
        obtain ⟨vs, hv1, hv2, hv3⟩ := hO3
        have HV1 := Lib.hid hv1; have HV2 := Lib.hid hv2; have HV3 := Lib.hid hv3
        obtain ⟨rb, hrb⟩ : ∃ b, b = w3.heap.size := ⟨_, rfl⟩
        obtain ⟨wa, hwa⟩ : ∃ wa, wa = w3.alloc (.cells #[.bool qis, .string qname, .int .i64 (qnum : Int), .slice da qdata.length dc] 63) := ⟨_, rfl⟩
        have hRB : Blk wa rb #[.bool qis, .string qname, .int .i64 (qnum : Int), .slice da qdata.length dc] 63 := by rw [hwa, hrb]; exact Blk.new _ _ _
        have hSB : Blk wa w.heap.size (stV d room la i lc false) 61 := by
          rw [hwa]
          have := HB3.out.alloc (.cells #[.bool qis, .string qname, .int .i64 (qnum : Int), .slice da qdata.length dc] 63)
          simpa using this
        have hba : Below w3.heap.size w3 wa := by rw [hwa]; exact (Below.refl _ _).alloc (Nat.le_refl _) _
        have hca : Chg (fun b => w.heap.size ≤ b) w3 wa := Chg.of_below hba
        have hvi : vs.length = i := hv1.trans HLEN.out
        have hva : wa.ownsRow (w.heap.size + 1) 63 4 (.slice la i lc) i (recsV (readAll room D i).1 vs) := by
          have := own_chg hv2 (Chg.of_below hba (S := fun _ => False)) (fun _ _ h => h)
          rw [HLEN.out] at this
          exact this
        have hlt : ∀ q, (Value.slice la i lc).ownBlock = some q → w.heap.size + 1 ≤ q ∧ q < w3.heap.size := fun q hq => hv2.lt q hq
        have hn1 : (Value.slice la i lc).ownBlock ≠ some w.heap.size := fun e => by have := hlt _ e; omega
        have hn2 : (Value.slice la i lc).ownBlock ≠ some rb := fun e => by have := hlt _ e; omega
        have hbase : w.heap.size + 1 ≤ wa.heap.size := by have := hba.size; omega
        have hod2 : OwnX 5 w3 (w.heap.size + 1) (.slice da qdata.length dc) qdata := HO3.out.mono hsz
        have Hlt2 := Lib.hid hlt; have Hn1 := Lib.hid hn1; have Hn2 := Lib.hid hn2; have HOD := Lib.hid hod2; have HRB := Lib.hid hRB; have HSB := Lib.hid hSB; have HBA := Lib.hid hba; have HCA := Lib.hid hca; have HVA := Lib.hid hva
        have s2 : wa.cell? ⟨w.heap.size, 2, none⟩ = some (.slice la i lc) := hSB.cell 2
        have s2' : ∀ o, (wa.alloc o).cell? ⟨w.heap.size, 2, none⟩ = some (.slice la i lc) := fun o => (hSB.alloc o).cell 2
        have r0 : wa.cell? ⟨rb, 0, none⟩ = some (.bool qis) := hRB.cell 0
        have r1 : wa.cell? ⟨rb, 1, none⟩ = some (.string qname) := hRB.cell 1
        have r2 : wa.cell? ⟨rb, 2, none⟩ = some (.int .i64 (qnum : Int)) := hRB.cell 2
        have r3 : wa.cell? ⟨rb, 3, none⟩ = some (.slice da qdata.length dc) := hRB.cell 3
        have hh0 : wa.cell? ⟨w.heap.size, 2, none⟩ = some (.slice la i lc) ∧ wa.cell? ⟨rb, 0, none⟩ = some (.bool qis) ∧ wa.cell? ⟨rb, 1, none⟩ = some (.string qname) ∧ wa.cell? ⟨rb, 2, none⟩ = some (.int .i64 (qnum : Int)) ∧ wa.cell? ⟨rb, 3, none⟩ = some (.slice da qdata.length dc) := ⟨s2, r0, r1, r2, r3⟩
        have hone : ∀ u ∈ [Value.bool qis, .string qname, .int .i64 (qnum : Int), .slice da qdata.length dc], u.oneCell' = true := by simp [Value.oneCell']
        have hi32 : i + 1 ≤ 4294967296 := by have := Hsl.out; omega
        rw [← hrb, ← hwa]
        clear hwa hRB hSB hba hca hva hlt hn1 hn2 hod2 hrb hv1 hv2 hv3 hnext
        go_region_law
          (first
            | (refine stepAppK EKr (by rfl) _ _ (by rfl) (base := w.heap.size + 1) (v := .slice la i lc) (n := i) (xs := recsV (readAll room D i).1 vs) [.bool qis, .string qname, .int .i64 (qnum : Int), .slice da qdata.length dc] (by rfl) (by rfl) (by rfl) (by exact new_news rfl) hone (by exact HVA.out.alloc _) hi32 (by decide) (by simp <;> omega) ?_
               intro v1 x1 hv1' hg1
               obtain ⟨a1, cp1, rfl, _⟩ := own_eq_slice hv1'
               have hB1 : Blk x1 w.heap.size (stV d room la i lc false) 61 := Blk.grown' (by exact HSB.out.alloc _) hg1 Hn1.out
               have hR1 : Blk x1 rb #[.bool qis, .string qname, .int .i64 (qnum : Int), .slice da qdata.length dc] 63 := Blk.grown' (by exact HRB.out.alloc _) hg1 Hn2.out
               have hh : x1.cell? ⟨w.heap.size, 2, none⟩ = some (.slice la i lc) ∧ x1.cell? ⟨rb, 0, none⟩ = some (.bool qis) ∧ x1.cell? ⟨rb, 1, none⟩ = some (.string qname) ∧ x1.cell? ⟨rb, 2, none⟩ = some (.int .i64 (qnum : Int)) ∧ x1.cell? ⟨rb, 3, none⟩ = some (.slice da qdata.length dc) := ⟨hB1.cell 2, hR1.cell 0, hR1.cell 1, hR1.cell 2, hR1.cell 3⟩
               have f2 : x1.frozen? ⟨w.heap.size, 2, none⟩ = false := hB1.free 2
               have hxc : Chg (fun b => w.heap.size ≤ b) w3 x1 := Chg.grown (HCA.out.trans (Chg.of_below ((Below.refl _ _).drew.alloc (by exact Nat.le_refl _) _))) hg1 (fun q hq => .inl (by have := Hlt2.out q hq; omega))
               have hpu : OwnRecs 5 63 x1 (w.heap.size + 1) (.slice a1 (i + 1) cp1) ((readAll room D i).1 ++ [⟨qis, qname, qnum, qdata⟩]) := push_at (by decide) HV1.out HV2.out HV3.out HOD.out (HBA.out.trans (((Below.refl _ _).drew.alloc (by exact Nat.le_refl _) _).mono HBA.out.size)) (by rw [HLEN.out]; exact hv1') hg1))
        all_goals
          go_wp2_with fail
          have hfin : Chg (fun b => w.heap.size ≤ b) w3 (x1.setCell ⟨w.heap.size, 2, none⟩ (.slice a1 (i + 1) cp1)) := hxc.set (a := ⟨w.heap.size, 2, none⟩) (Nat.le_refl _) _
          refine ⟨⟨i + 1, by omega, by go_num, by rw [HNX.out], ⟨a1, cp1, hB1.set 2 (.slice a1 (i + 1) cp1), by rw [HNX.out]; exact hpu.chg (S := fun b => b = w.heap.size) (chg1 _ _ _ _) (fun g hg e => by omega)⟩,
            by rw [HNX.out]; exact HD3.out.chg hfin (fun h => by have := Hlt.out; omega) (fun h => by have := Hlt.out; omega), by have := hfin.size; omega, by have := readAll_writes room D (i + 1); omega, readAll_n room D (i + 1),
            (HCW.out.mix HC.out (fun k hk => by unfold Tri at hk; omega)).mix hfin (fun k hk => .inr hk)⟩, by simp [intOf] <;> omega⟩
      · as_aux_lemma =>
        have HE := Lib.hid (show openR D slots room = (qe, if qw = true then (readAll room D i).2.2.wr ((i * (room + 1) : Nat) : Int) [0] else (readAll room D i).2.2, none) from by
          have hst : readAll room D (i + 1) = ((readAll room D i).1, qe, if qw = true then (readAll room D i).2.2.wr ((i * (room + 1) : Nat) : Int) [0] else (readAll room D i).2.2) := by
            rw [readAll]
            simp only [h0, ne_eq, not_true_eq_false, if_false]
            rw [← HQ.out]
            simp only [he, not_false_eq_true, if_true]
          have hall : readAll room D slots = readAll room D (i + 1) := by
            have := readAll_err room D (k := i + 1) (by rw [hst]; exact he) (slots - (i + 1))
            rw [← this]
            congr 1
            omega
          unfold openR
          rw [hall, hst]
          simp only [ne_eq, he, not_false_eq_true, if_true])
        have HSZ := Lib.hid hsz
        go_wp2_with fail
        go_ret2
        refine ⟨_, by rw [HE.out] <;> rfl, ?_, ?_, .inl ⟨by rw [HE.out], rfl⟩⟩
        · exact (HCW.out.mix HC.out (fun k hk => by unfold Tri at hk; have := HSZ.out; omega)).mix (T := fun _ => False) (Chg.of_below ((Below.refl _ _).alloc (Nat.le_refl _) _)) (fun _ h => h.elim)
        · rw [HE.out]
          exact HD3.out.below ((Below.refl _ _).alloc (Nat.le_refl _) _)
    · as_aux_lemma =>
      obtain rfl : slots = i := by omega
      have hlen := readAll_len room D slots h0
      have hsm := readAll_small room D slots
      have hwr := readAll_writes room D slots
      have hsl := Hsl.out; have hrm := HR.out; have hl3 := HDD.out.lt; have hn0 := HN0.out
      obtain ⟨l, hl⟩ : ∃ l, l = (readAll room D slots).1 := ⟨_, rfl⟩
      obtain ⟨D1, hD1⟩ : ∃ E, E = (readAll room D slots).2.2 := ⟨_, rfl⟩
      rw [← hl] at hO hlen hsm
      rw [← hD1] at hDi hw hn hwr
      have hpos : 0 < l.length := by omega
      obtain ⟨lb, cap, e, hc1, hc2, hlb, hRA⟩ := OwnRecs.recsAt (l := l) hO hpos (by decide) (fun b => N0 b ∨ b = w.heap.size) (fun b hb => by
        rcases hb with hb | hb
        · have := hn0.2.2.2 b hb; omega
        · omega)
      injection e with e1 e2 e3
      subst e1 e3
      have hgT : gT < w.heap.size := HT.out.lt
      have hmx : lc ≤ 9223372036854775807 := by unfold maxLen at hc2; omega
      have hI : IsStore wr (fun b => N0 b ∨ b = w.heap.size ∨ b = lb) w.heap.size lb d L ⟨room, l, false, D1⟩ :=
        { blk := ⟨lc, by rw [hlen]; exact hB, hc1, hmx⟩
          recs := hRA.mono fun b hb => .inl (by rcases hb with h | h | h; exact .inl (.inl h); exact .inl (.inr h); exact .inr h)
          disk := hDi
          tab := HT.out.chg hcw (fun h => by rcases h with h | h; exact hn0.1 (h ▸ hn0.2.1); exact hn0.1 (h ▸ hn0.2.2.1))
          ntab := fun h => by rcases h with h | h | h; exact hn0.1 h; omega; omega
          foot := fun b hb => by rcases hb with h | h | h | h; exact .inr (.inl h); exact .inr (.inr h); exact .inl (h ▸ hn0.2.1); exact .inl (h ▸ hn0.2.2.1)
          ne := ⟨by omega, by omega, by omega, by omega, by omega⟩
          ok := ⟨by show 1 ≤ room; omega, by show room ≤ 1024; omega, hpos, by show l.length ≤ 1024; omega, by show D1.n = l.length * (room + 1); rw [hn, hlen]; have := HM.out; omega, fun r hr => by have := hsm r hr; unfold Small at this; simp only; omega, by show D1.writes ≤ 72057594037927936; omega⟩
          old := fun b hb => by
            have := hcw.size
            rcases hb with h | h | h
            · have := hn0.2.2.2 b h; omega
            · rw [h]; omega
            · rw [h]; exact hRA.lt }
      have hw1 : D1.writes < 72057594037920000 + 1024 := by omega
      obtain ⟨s0, hs0⟩ : ∃ s0 : St, s0 = ⟨room, l, false, D1⟩ := ⟨_, rfl⟩
      rw [← hs0] at hI
      have hopen : openR D slots room = if (keepBest s0 slots).1 ≠ 0 then ((keepBest s0 slots).1, (keepBest s0 slots).2.disk, none) else (0, (keepBest s0 slots).2.disk, some (keepBest s0 slots).2) := by
        unfold openR
        simp only [h0, ne_eq, not_true_eq_false, if_false]
        rw [hs0, hl, hD1]
      have hsz0 : s0.recs.length = slots := by rw [hs0]; exact hlen
      have hsw : s0.disk.writes < 72057594037920000 + 1024 := by rw [hs0]; exact hw1
      have c2 : wr.cell? ⟨w.heap.size, 2, none⟩ = some (.slice (some ⟨lb, 0, none⟩) slots lc) := hB.cell 2
      have HI := Lib.hid hI; have HOP := Lib.hid hopen; have HSZ := Lib.hid hsz0; have HSW := Lib.hid hsw; have HCW := Lib.hid hcw; have HLB := Lib.hid (show w.heap.size < lb from hlb)
      have HL3 := Lib.hid hl3
      clear hI hopen hsz0 hsw hcw hlb hw1 hs0 hD1 hl hRA hc1 hc2 hmx hgT hO hB hDi hw hn hlen hsm hwr hsl hrm hl3 hn0 hpos h0 e2 hsz
      go_wp2_with fail
      go_loopw [66] (fun v wx => ∃ k : Nat, k ≤ slots ∧ v = .int .i64 k ∧ (keepBest s0 k).1 = 0 ∧ IsStore wx (fun b => N0 b ∨ b = w.heap.size ∨ b = lb) w.heap.size lb d L (keepBest s0 k).2 ∧ Chg (fun b => b = d ∨ b = L) w wx) (fun v _ => slots - (intOf v).toNat)
      case atStart => exact ⟨0, by omega, rfl, rfl, HI.out, HCW.out⟩
      case round => as_aux_lemma =>
        obtain ⟨k, hk, rfl, hk0, hIk, hck⟩ := hrel
        by_cases hlt : k < slots
        · have hkl : (keepBest s0 k).2.recs.length = slots := (keepBest_len s0 k).1.trans HSZ.out
          have hkw := keep_writes s0 k
          obtain ⟨s, hs⟩ : ∃ s, s = (keepBest s0 k).2 := ⟨_, rfl⟩
          rw [← hs] at hIk hkl hkw
          obtain ⟨r, hr⟩ : ∃ r, s.recs[k]? = some r := ⟨s.recs[k]'(by omega), by simp⟩
          obtain ⟨a, c, c3, c4, c5, c6, _, _⟩ := hIk.recs.at hr
          have i0 : (0 : Int) ≤ (k : Int) := by omega
          have i1 : (k : Int) < (slots : Int) := by omega
          have hk32 : k + 1 ≤ 4294967296 := by have := Hsl.out; omega
          have HIK := Lib.hid hIk; have HCK := Lib.hid hck; have HR' := Lib.hid hr; have HS := Lib.hid hs; have HKL := Lib.hid hkl; have HKW := Lib.hid hkw
          clear hIk hck hr hs hkl hkw
          go_wp2_with fail
          obtain ⟨wb, hwb⟩ : ∃ wb, wb = wr.alloc (.cells (recV r (.slice a r.data.length c)) 63) := ⟨_, rfl⟩
          obtain ⟨bx, hbxe⟩ : ∃ bx, bx = wr.heap.size := ⟨_, rfl⟩
          have hbx : Blk wb bx (recV r (.slice a r.data.length c)) 63 := by rw [hwb, hbxe]; exact Blk.new _ _ _
          have hbb : Below wr.heap.size wr wb := by rw [hwb]; exact (Below.refl _ _).alloc (Nat.le_refl _) _
          rw [show (wr.alloc (.cells #[.bool r.is, .string r.name, .int .i64 (r.num : Int), .slice a r.data.length c] 63)) = wb from hwb.symm, ← hbxe]
          have hIb := HIK.out.below hbb
          obtain ⟨cp, hBb, hcp1, hcp2⟩ := hIb.blk
          have hck2 : Chg (fun b => b = d ∨ b = L) w wb := HCK.out.mix (T := fun _ => False) (Chg.of_below hbb) (fun _ h => h.elim)
          have HIB := Lib.hid hIb; have HCB := Lib.hid hck2
          clear hwb hbb hck2 hbxe
          refine (best_calls _ w.heap.size lb d s.recs.length cp s.room s.dead s.recs r.name wb hBb hIb.recs rfl (by have := hIb.ok.len2; omega) hcp1 hcp2 (fun r' h' => by have := hIb.ok.each r' h'; have := hIb.ok.few; omega)).mono ?_
          clear hIb hBb hcp1 hcp2
          rintro e w4 ⟨rfl, hb4⟩
          have hI4 := HIB.out.below hb4
          have d0 : w4.cell? ⟨bx, 0, none⟩ = some (.bool r.is) := (hbx.kept hb4).cell 0
          have hc4 : Chg (fun b => b = d ∨ b = L) w w4 := HCB.out.mix (T := fun _ => False) (Chg.of_below hb4) (fun _ h => h.elim)
          obtain ⟨o, ho⟩ : ∃ o, o = Sto.best s.recs r.name s.recs.length := ⟨_, rfl⟩
          have hkb : keepBest s0 (k + 1) = if r.is = true ∧ o ≠ some k then (s.freeE k, s.freeS k) else keepBest s0 k := by
            rw [keepBest]
            simp only [hk0, ne_eq, not_true_eq_false, if_false]
            rw [← HS.out, HR'.out]
            simp only
            rw [← ho]
          rw [← ho]
          have HI4 := Lib.hid hI4; have HC4 := Lib.hid hc4; have HKB := Lib.hid hkb
          clear hI4 hc4 hkb hbx hb4 c3 c4 c5 c6 ho
          obtain ⟨z, hz⟩ : ∃ z, z = optI o := ⟨_, rfl⟩
          rw [← hz]
          by_cases his : r.is = true
          · by_cases hok : o = some k
            · as_aux_lemma =>
              have t1 : (z == (k : Int)) = true := by rw [hz, hok]; simp [optI]
              have hnx : keepBest s0 (k + 1) = keepBest s0 k := by rw [HKB.out, if_neg (fun h => h.2 hok)]
              have HNX := Lib.hid hnx
              rw [his] at d0
              clear his hok hz hnx
              go_wp2
              exact ⟨⟨k + 1, by omega, by go_num, by rw [HNX.out]; exact hk0, by rw [HNX.out, ← HS.out]; exact HI4.out, HC4.out⟩, by simp [intOf] <;> omega⟩
            · as_aux_lemma =>
              have t1 : (z == (k : Int)) = false := by
                rw [hz]
                cases o with
                | none => simp [optI] <;> omega
                | some q => simp [optI]; intro e; exact hok (by rw [Int.ofNat.inj e])
              have hnx : keepBest s0 (k + 1) = (s.freeE k, s.freeS k) := by rw [HKB.out, if_pos ⟨his, hok⟩]
              have HNX := Lib.hid hnx
              rw [his] at d0
              clear his hok hz hnx
              go_wp2_with fail
              refine (free_at _ w.heap.size lb d L k s w4 HI4.out (by have := HKL.out; omega) (by have := HKW.out; have := HSW.out; have := Hsl.out; omega)).mono ?_
              rintro e w5 ⟨rfl, hI5, hc5⟩
              have hc5' : Chg (fun b => b = d ∨ b = L) w w5 := HC4.out.mix hc5 (fun q hq => by have := HLB.out; unfold Foot at hq; omega)
              have HI5 := Lib.hid hI5; have HC5 := Lib.hid hc5'
              clear hI5 hc5 hc5'
              obtain ⟨fe, hfe⟩ : ∃ x, x = s.freeE k := ⟨_, rfl⟩
              rw [← hfe]
              have HFE := Lib.hid hfe
              clear hfe
              by_cases hE : fe = 0
              · subst hE
                go_wp2
                exact ⟨⟨k + 1, by omega, by go_num, by rw [HNX.out]; exact HFE.out.symm, by rw [HNX.out]; exact HI5.out, HC5.out⟩, by simp [intOf] <;> omega⟩
              · have HE := Lib.hid (show openR D slots room = (fe, (s.freeS k).disk, none) from by
                  have hall : keepBest s0 slots = (fe, s.freeS k) := by
                    have := keepBest_err s0 (k := k + 1) (by rw [HNX.out]; simpa [← HFE.out] using hE) (slots - (k + 1))
                    rw [show k + 1 + (slots - (k + 1)) = slots from by omega] at this
                    rw [this, HNX.out, HFE.out]
                  rw [HOP.out, hall, if_pos hE])
                go_wp2_with fail
                go_ret2
                exact ⟨_, by rw [HE.out] <;> rfl, HC5.out, by rw [HE.out]; exact HI5.out.disk, .inl ⟨by rw [HE.out], rfl⟩⟩
          · as_aux_lemma =>
            have his : r.is = false := by simpa using his
            have hnx : keepBest s0 (k + 1) = keepBest s0 k := by rw [HKB.out, if_neg (fun h => by rw [his] at h; exact absurd h.1 (by decide))]
            have HNX := Lib.hid hnx
            rw [his] at d0
            clear his hz hnx
            go_wp2
            exact ⟨⟨k + 1, by omega, by go_num, by rw [HNX.out]; exact hk0, by rw [HNX.out, ← HS.out]; exact HI4.out, HC4.out⟩, by simp [intOf] <;> omega⟩
        · as_aux_lemma =>
          obtain rfl : slots = k := by omega
          have HE := Lib.hid (show openR D slots room = (0, (keepBest s0 slots).2.disk, some (keepBest s0 slots).2) from by rw [HOP.out, hk0]; rfl)
          go_wp2
          go_ret2
          exact ⟨_, by rw [HE.out] <;> rfl, hck, by rw [HE.out]; exact hIk.disk, .inr ⟨_, lb, by rw [HE.out], rfl, HLB.out, hIk⟩⟩
end Go.Proofs.YtdlkghdfkjdajaaDoor
end
section
namespace Go.Mem
open Go Go.RowKit Gf Go.Proofs.YtdlkghdfkjdajaaDoor
theorem nDigits_3 {u : Nat} (h : u < 1000) : Lib.nDigits u ≤ 3 := by
  by_cases h1 : u < 10
  · rw [Lib.nDigits_small h1]; omega
  · rw [Lib.nDigits_big h1]
    by_cases h2 : u / 10 < 10
    · rw [Lib.nDigits_small h2]; omega
    · rw [Lib.nDigits_big h2, Lib.nDigits_small (by omega)]; omega
theorem text_le {name : ByteArray} {num : Nat} {data : List UInt8} (h1 : name.size < 1000) (h2 : data.length < 1000) : (Sto.text name num data).length ≤ name.size + data.length + 17 := by
  have e1 : name.data.toList.length = name.size := Array.length_toList
  have d1 := nDigits_3 (u := name.size) h1
  have d2 := nDigits_3 h2
  have d3 : Lib.nDigits 4 = 1 := Lib.nDigits_small (by decide)
  simp only [Sto.text, Cod.nets, List.length_append, Cod.net_len, Cod.be_len, List.length_nil, e1, d3]
  omega
theorem fits_of {room : Nat} {name : ByteArray} {data : List UInt8} (h1 : name.size < 1000) (h2 : data.length < 1000) (h : name.size + data.length + 17 ≤ room * 32) : fitsB room name data = true := by
  have := text_le (num := 0) h1 h2
  unfold fitsB
  simp only [Bool.and_eq_true, decide_eq_true_eq]
  omega
def liveN (l : List Sto.Rec) : Nat := l.countP fun r => r.is
theorem slot_of_live {l : List Sto.Rec} (h : liveN l < l.length) : Sto.slot l < l.length := by
  unfold Sto.slot
  rw [List.findIdx_lt_length]
  exact Classical.byContradiction fun hn => by
    have : liveN l = l.length := by
      unfold liveN
      rw [List.countP_eq_length]
      intro a ha
      exact Classical.byContradiction fun h' => hn ⟨a, ha, by simpa using h'⟩
    omega
theorem live_free (n : Nat) : liveN (List.replicate n Sto.Rec.free) = 0 := by
  unfold liveN
  rw [List.countP_eq_zero]
  intro a ha
  rw [(List.mem_replicate.1 ha).2]; simp [Sto.Rec.free]
theorem live_set {l : List Sto.Rec} {t : Nat} (ht : t < l.length) (r : Sto.Rec) : liveN (l.set t r) + (if (l[t]).is = true then 1 else 0) = liveN l + (if r.is = true then 1 else 0) := by
  unfold liveN
  rw [List.countP_set ht]
  have : (if (l[t]).is = true then 1 else 0) ≤ List.countP (fun r => r.is) l := by
    split
    · rename_i h
      exact List.countP_pos_iff.2 ⟨l[t], by simp, h⟩
    · exact Nat.zero_le _
  omega
theorem live_putL {l : List Sto.Rec} (ht : Sto.slot l < l.length) (name : ByteArray) (data : List UInt8) : liveN (putL l name data) = liveN l + 1 := by
  have h0 : l[Sto.slot l]? = some l[Sto.slot l] := by simp [ht]
  have := live_set ht ⟨true, name, Sto.nextNum l name, data⟩
  rw [slot_not h0] at this
  simpa [putL] using this
theorem live_putF {l : List Sto.Rec} (ht : Sto.slot l < l.length) (name : ByteArray) (data : List UInt8) : liveN (putF l name data) = liveN l + (if (Sto.best l name l.length).isSome = true then 0 else 1) := by
  have h0 : l[Sto.slot l]? = some l[Sto.slot l] := by simp [ht]
  have h1 := live_putL ht name data
  unfold putF
  cases hb : Sto.best l name l.length with
  | none => simpa using h1
  | some k =>
    obtain ⟨rk, a, b, c⟩ := (Sto.best_top l name l.length).1 k hb
    have e : Sto.slot l ≠ k := fun e => by have h2 := b.1; rw [← e, h0] at h2; cases h2; exact absurd (b.2.1.symm.trans (slot_not h0)) (by simp)
    have hk : (putL l name data)[k]? = some rk := by unfold putL; rw [List.getElem?_set_ne e]; exact b.1
    have hkl : k < (putL l name data).length := by unfold putL; rw [List.length_set]; exact a
    have h2 := live_set hkl Sto.Rec.free
    rw [List.getElem?_eq_getElem hkl] at hk
    rw [Option.some.inj hk, b.2.1] at h2
    rw [if_pos rfl, show Sto.Rec.free.is = false from rfl] at h2
    simp only [Bool.false_eq_true, if_false] at h2
    simp only [Option.isSome_some, if_true]
    omega
end Go.Mem
namespace Go.Mem
open Go Go.RowKit Gf
end Go.Mem
end
section
namespace Go.Proofs.YtdlkghdfkjdajaaDoor
open Go Go.RowKit Go.Mem Gf Go.Sort
section
variable {w w' : World} {v : Value} {ss : List (List UInt8)}
end
attribute [local go_sem ↓] Go.wp_at_zero Go.wp_at_succ
end Go.Proofs.YtdlkghdfkjdajaaDoor
end
section
namespace Go.Mem
open Go Go.RowKit Gf Go.Proofs.YtdlkghdfkjdajaaDoor
theorem St.get_look {s : St} (h : s.dead = false) (name : ByteArray) : s.get name = Sto.look s.recs name := by
  unfold St.get Sto.look
  rw [if_neg (by simp [h])]
structure SGood (m : Nat) (s : St) : Prop where
  holds : Holds s.disk s.room s.recs
  uniq : Sto.Uniq s.recs
  disk : s.disk.dead = false
  dead : s.dead = false
  bnd : Bnd m s.recs
  writes : s.disk.writes ≤ 2000 * m
  stops : s.disk.stops = false
  room : 1 ≤ s.room ∧ s.room ≤ 1000
theorem SGood.fresh (slots room : Nat) (h : 1 ≤ room ∧ room ≤ 1000) : SGood 0 ⟨room, List.replicate slots Sto.Rec.free, false, .fresh (slots * (room + 1))⟩ :=
  ⟨Holds.fresh slots room, uniq_free slots, rfl, rfl, bnd_free slots, Nat.le_refl _, rfl, h⟩
theorem SGood.put {m : Nat} {s : St} (h : SGood m s) (hm : m < 1000000) {name : ByteArray} {data : List UInt8} (hf : fitsB s.room name data = true) (ht : Sto.slot s.recs < s.recs.length) :
    (putR s name data).1 = 0 ∧ SGood (m + 1) (putR s name data).2 ∧ (putR s name data).2.recs = putF s.recs name data ∧ (putR s name data).2.room = s.room := by
  have hr := h.room
  rcases put_law h.holds h.disk h.dead h.bnd (by omega) name data with ⟨h1, _⟩ | ⟨_, h1, _⟩ | ⟨_, _, h1, h2, h3⟩
  · rw [hf] at h1; cases h1
  · omega
  · rcases h3 with ⟨a1, a2, a3, a4, a5⟩ | ⟨_, a2, _⟩
    · refine ⟨a1, ⟨by rw [h1, a4]; exact a5, by rw [a4]; exact putF_uniq h.uniq ht name data, a3, a2, ?_, ?_, h2.trans h.stops, by rw [h1]; exact hr⟩, a4, h1⟩
      · rw [a4]
        have hl : Bnd (m + 1) (putL s.recs name data) := h.bnd.set (by omega) _ (h.bnd.next name)
        exact hl.thin (putL_thin ht name data)
      · have := put_writes s name data
        have := h.writes
        omega
    · rw [h.stops] at a2; cases a2
end Go.Mem
namespace Go.Proofs.YtdlkghdfkjdajaaDoor
open Go Go.RowKit Go.Mem Gf
def DL (d L : Nat) (b : Nat) : Prop := b = d ∨ b = L
structure Lab (w0 w : World) (d L : Nat) (D : DiskS) : Prop where
  disk : IsDisk w d L D
  bel : Below w0.heap.size w0 w
  d1 : w0.heap.size ≤ d
  l1 : w0.heap.size ≤ L
  tab : Tab w
structure LabS (w0 w : World) (sb lb d L : Nat) (s : St) : Prop where
  st : IsStore w (fun b => DL d L b ∨ b = sb ∨ b = lb) sb lb d L s
  bel : Below w0.heap.size w0 w
  d1 : w0.heap.size ≤ d
  l1 : w0.heap.size ≤ L
  s1 : w0.heap.size ≤ sb
  b1 : w0.heap.size ≤ lb
theorem Chg.far {S : Nat → Prop} {B : Nat} {w0 w w' : World} (h : Below B w0 w) (hc : Chg S w w') (hB : B ≤ w.heap.size) (hs : ∀ k, S k → B ≤ k) : Below B w0 w' := h.trans (hc.below hB hs)
theorem Lab.chg {w0 w w' : World} {d L : Nat} {D D' : DiskS} (h : Lab w0 w d L D) (ht : gT ≠ d ∧ gT ≠ L) (hc : Chg (DL d L) w w') (hD : IsDisk w' d L D') : Lab w0 w' d L D' :=
  ⟨hD, Chg.far h.bel hc h.bel.size (fun k hk => by rcases hk with rfl | rfl; exact h.d1; exact h.l1), h.d1, h.l1, h.tab.chg hc (fun hk => by rcases hk with e | e; exact ht.1 e; exact ht.2 e)⟩
theorem lab_new (n : Nat) (w0 w : World) (hT0 : Tab w0) (hb : Below w0.heap.size w0 w) (h1 : 1 ≤ n) (h2 : n ≤ 4096) :
    Calls Tryd.prog 5 #[.int .i64 n] w fun e w' => ∃ d L, e = .returned (.tuple #[.pointer (some ⟨d, 0, none⟩), .int .i64 0]) ∧ Lab w0 w' d L (.fresh n) ∧ (gT ≠ d ∧ gT ≠ L) ∧ Below w.heap.size w w' := by
  refine (dnew_calls n w h1 h2).mono ?_
  rintro e w1 ⟨d, L, rfl, hD, hd1, hd2, hb1⟩
  have hs := hb.size
  have := hT0.lt
  exact ⟨d, L, rfl, ⟨hD, hb.trans (hb1.mono hs), by omega, by omega, (hT0.below hb).below hb1⟩, ⟨by omega, by omega⟩, hb1⟩
theorem lab_open {w0 w : World} {d L : Nat} {D : DiskS} (h : Lab w0 w d L D) (ht : gT ≠ d ∧ gT ≠ L) (slots room : Nat) (h1 : 1 ≤ slots ∧ slots ≤ 1024) (h2 : 1 ≤ room ∧ room ≤ 1024) (hn : D.n = slots * (room + 1)) (hfew : D.writes < 72057594037920000) :
    Calls Tryd.prog 6 #[.pointer (some ⟨d, 0, none⟩), .int .i64 slots, .int .i64 room] w fun e w' => ∃ p, e = .returned (.tuple #[p, .int .i64 (openR D slots room).1]) ∧ Chg (DL d L) w w' ∧ Lab w0 w' d L (openR D slots room).2.1 ∧
      (((openR D slots room).2.2 = none ∧ p = .pointer none) ∨ ∃ s sb lb, (openR D slots room).2.2 = some s ∧ p = .pointer (some ⟨sb, 0, none⟩) ∧ LabS w0 w' sb lb d L s) := by
  have hs := h.bel.size
  have hd := h.disk.lt
  refine (open_calls (DL d L) d L D slots room w h.tab ⟨fun hk => by rcases hk with e | e; exact ht.1 e; exact ht.2 e, .inl rfl, .inr rfl, fun b hb => by rcases hb with rfl | rfl; exact hd.1; exact hd.2⟩ h.disk (by simp; omega) (by simp; omega) hn hfew).mono ?_
  rintro e w1 ⟨p, rfl, hc, hD, hp⟩
  have hl := h.chg ht hc hD
  refine ⟨p, rfl, hc, hl, ?_⟩
  rcases hp with hp | ⟨s, lb, e1, e2, e3, e4⟩
  · exact .inl hp
  · exact .inr ⟨s, w.heap.size, lb, e1, e2, ⟨e4, hl.bel, h.d1, h.l1, hs, by omega⟩⟩
theorem lab_open_uniq {w0 w : World} {d L : Nat} {D : DiskS} (h : Lab w0 w d L D) (ht : gT ≠ d ∧ gT ≠ L) {slots room : Nat} {l : List Sto.Rec} (h1 : 1 ≤ slots ∧ slots ≤ 1024) (h2 : 1 ≤ room ∧ room ≤ 1024) (hfew : D.writes < 72057594037920000) (hl : l.length = slots) (hh : Holds D room l) (hd : D.dead = false) (hu : Sto.Uniq l) :
    Calls Tryd.prog 6 #[.pointer (some ⟨d, 0, none⟩), .int .i64 slots, .int .i64 room] w fun e w' => ∃ sb lb, e = .returned (.tuple #[.pointer (some ⟨sb, 0, none⟩), .int .i64 0]) ∧ LabS w0 w' sb lb d L ⟨room, l, false, D⟩ ∧ Chg (DL d L) w w' := by
  have ho := open_uniq hh hd hu
  rw [hl] at ho
  refine (lab_open h ht slots room h1 h2 (by rw [← hl]; exact hh.1) hfew).mono ?_
  rintro e w1 ⟨p, rfl, hc, _, hp⟩
  rw [ho] at hp ⊢
  rcases hp with ⟨h, _⟩ | ⟨s, sb, lb, e1, rfl, e3⟩
  · cases h
  · cases e1
    exact ⟨sb, lb, rfl, e3, hc⟩
end Go.Proofs.YtdlkghdfkjdajaaDoor
namespace Go.Mem
open Go Go.RowKit Gf Go.Proofs.YtdlkghdfkjdajaaDoor
theorem putF_look {l : List Sto.Rec} (ht : Sto.slot l < l.length) (name : ByteArray) (data : List UInt8) (nm : ByteArray) : Sto.look (putF l name data) nm = if nm = name then some data else Sto.look l nm := by
  rw [(putL_thin ht _ _).look, putL_look ht]
theorem putF_live {l : List Sto.Rec} (ht : Sto.slot l < l.length) (name : ByteArray) (data : List UInt8) : liveN (putF l name data) ≤ liveN l + 1 := by
  rw [live_putF ht]; split <;> omega
end Go.Mem
namespace Go.Proofs.YtdlkghdfkjdajaaDoor
open Go Go.RowKit Go.Mem Gf
attribute [local go_sem ↓] Go.wp_at_zero Go.wp_at_succ
set_option maxRecDepth 100000 in
set_option maxHeartbeats 1000000 in
theorem cut8_two (v : Value) (bs : List UInt8) (n : Nat) (w0 w : World) (h0 : Bys w0 v bs) (h : Bys w v bs) :
    Calls Tryd.prog 8 #[v, .int .i64 n] w fun e w' => (∃ v', e = .returned v' ∧ Bys w0 v' (bs.take n)) ∧ w = w' := by
  have hl := h.len
  obtain ⟨a, cap, rfl, h1, h2, h3⟩ := id h
  obtain ⟨l, hl'⟩ : ∃ l, l = bs.length := ⟨_, rfl⟩
  rw [← hl'] at hl h h1 h0 ⊢
  have Hl := Lib.hid hl'; have H3 := Lib.hid h3; have H2 := Lib.hid h2; have H0 := Lib.hid h0; clear hl' h3 h2 h0
  by_cases hlt : n < l
  · go_enter Tryd.func8, Tryd.ntmps8
    go_wp2
    go_ret
    refine ⟨⟨_, rfl, ?_⟩, rfl⟩
    show Bys w0 (.slice a (min (l : Int) (n : Int)).toNat cap) _
    rw [show (min (l : Int) (n : Int)).toNat = n from by omega]
    exact H0.out.take n (by have := Hl.out; omega)
  · go_enter Tryd.func8, Tryd.ntmps8
    go_wp2
    go_ret
    refine ⟨⟨_, rfl, ?_⟩, rfl⟩
    show Bys w0 (.slice a (min (l : Int) (n : Int)).toNat cap) _
    rw [show (min (l : Int) (n : Int)).toNat = l from by omega, List.take_of_length_le (by have := Hl.out; omega)]
    exact H0.out
end Go.Proofs.YtdlkghdfkjdajaaDoor
namespace Go.Mem
open Go Go.RowKit Gf Go.Proofs.YtdlkghdfkjdajaaDoor
end Go.Mem
namespace Go.Proofs.YtdlkghdfkjdajaaDoor
open Go Go.RowKit Go.Mem Gf
end Go.Proofs.YtdlkghdfkjdajaaDoor
end
section
namespace Go.Proofs.YtdlkghdfkjdajaaDoor
open Go Go.RowKit Go.Mem Gf
set_option linter.unusedVariables false
set_option linter.unusedSimpArgs false
attribute [local go_sem ↓] Go.wp_at_zero Go.wp_at_succ
set_option maxRecDepth 100000 in
theorem made_calls (w : World) (hT : Tab w) : Calls Tryd.prog 15 #[] w fun e w' => ∃ sb lb d L, e = .returned (.pointer (some ⟨sb, 0, none⟩)) ∧ LabS w w' sb lb d L ⟨3, List.replicate 4 Sto.Rec.free, false, .fresh (4 * (3 + 1))⟩ := by
  have HT := Lib.hid hT
  clear hT
  go_enter Tryd.func15, Tryd.ntmps15
  go_wp2_with fail
  refine (lab_new 16 w w HT.out (Below.refl _ _) (by omega) (by omega)).mono ?_
  rintro e w1 ⟨d, L, rfl, hl1, ht, _⟩
  have Ht := Lib.hid ht; have H1 := Lib.hid hl1
  clear ht hl1
  go_wp2_with fail
  refine (lab_open_uniq H1.out Ht.out (slots := 4) (room := 3) (by omega) (by omega) (by decide) (l := List.replicate 4 Sto.Rec.free) rfl (Holds.fresh 4 3) rfl (uniq_free 4)).mono ?_
  rintro e w2 ⟨sb, lb, rfl, hs2, _⟩
  go_wp2
  go_ret
  exact ⟨sb, lb, d, L, rfl, hs2⟩
theorem byte_keep {w : World} {kb sb lb d Ld : Nat} (c : UInt8) (z : Int) (hz : z = (c.toNat : Int)) (hk : kb < w.heap.size) (hf : ∀ b, Foot sb lb d Ld b → b < w.heap.size) : ∀ w', Chg (KF kb sb lb d Ld) (w.alloc (.cells #[.int .u8 z] 5)) w' → Bys w' (.slice (some ⟨w.heap.size, 0, none⟩) 1 1) [c] := fun w' hc => by
  subst hz
  have hb : Blk (w.alloc (.cells #[.int .u8 (c.toNat : Int)] 5)) w.heap.size #[.int .u8 (c.toNat : Int)] 5 := Blk.new _ _ _
  have hb' := hc.blk hb (fun e => by
    rcases e with e | e
    · omega
    · have := hf _ e; omega)
  exact hb'.bys (bs := [c]) (cap := 1) (Nat.le_refl 1) (maxLen_ge (by decide)) (fun i x hi => by
    cases i with
    | zero => simp at hi; subst hi; rfl
    | succ i => simp at hi)
end Go.Proofs.YtdlkghdfkjdajaaDoor
end
section
namespace Go.Proofs.YtdlkghdfkjdajaaDoor
open Go Go.RowKit Go.Mem Gf
set_option linter.unusedVariables false
set_option linter.unusedSimpArgs false
structure KeyG (w0 w : World) (N : Nat → Prop) (kb sb lb d L : Nat) (s : St) (m : Nat) (name : ByteArray) (sd : List UInt8) (h next : Nat) (pr : List UInt8) : Prop where
  st : IsStore w N sb lb d L s
  good : SGood m s
  ks : KeysAt w kb sb name sd h next pr
  nk : N kb
  nf : ¬ Foot sb lb d L kb
  bel : Below w0.heap.size w0 w
  far : ∀ b, N b → w0.heap.size ≤ b
section
variable {w0 w w' : World} {N : Nat → Prop} {kb sb lb d L h next m : Nat} {s : St} {name : ByteArray} {sd pr : List UInt8}
theorem KeyG.step (g : KeyG w0 w N kb sb lb d L s m name sd h next pr) (hb : Below w.heap.size w w') : KeyG w0 w' N kb sb lb d L s m name sd h next pr :=
  { g with st := g.st.below hb, ks := Blk.kept g.ks hb, bel := g.bel.trans (hb.mono g.bel.size) }
theorem KeyG.kfar (g : KeyG w0 w N kb sb lb d L s m name sd h next pr) : ∀ b, KF kb sb lb d L b → w0.heap.size ≤ b := fun b hb => by
  rcases hb with rfl | hb
  · exact g.far _ g.nk
  · exact g.far _ (g.st.foot _ hb)
theorem KeyG.lt (g : KeyG w0 w N kb sb lb d L s m name sd h next pr) : kb < w.heap.size ∧ ∀ b, Foot sb lb d L b → b < w.heap.size := ⟨Blk.lt g.ks, g.st.lt⟩
theorem KeyG.of (g : KeyG w0 w N kb sb lb d L s m name sd h next pr) {s' : St} {m' next' : Nat} (hk : KeysAt w' kb sb name sd h next' pr) (hs : StN w N sb lb d L s' w') (hc : Chg (KF kb sb lb d L) w w') (hg : SGood m' s') : ∃ N', KeyG w0 w' N' kb sb lb d L s' m' name sd h next' pr := by
  obtain ⟨N', h1, h2, h3⟩ := hs
  exact ⟨N', h3, hg, hk, h1 _ g.nk, g.nf, Chg.far g.bel hc g.bel.size g.kfar, fun b hb => (h2 b hb).elim (g.far b) (fun e => Nat.le_trans g.bel.size e)⟩
theorem KeyG.left (g : KeyG w0 w N kb sb lb d L s m name sd h next pr) (hk : KeysAt w' kb sb name sd h (lookN s name next) pr) (hs : IsStore w' N sb lb d L s) (hc : Chg (fun b => b = kb) w w') : KeyG w0 w' N kb sb lb d L s m name sd h (lookN s name next) pr :=
  { g with st := hs, ks := hk, bel := Chg.far g.bel hc g.bel.size (fun b (e : b = kb) => by subst e; exact g.far _ g.nk) }
theorem KeyG.sign (g : KeyG w0 w N kb sb lb d L s m name sd h next pr) {mm : List UInt8} {e : Ending} (hp : SignP w N kb sb lb d L s name sd h next pr mm e w') (hm : m < 1000000) (hlt : lookN s name next < 2 ^ h) (hf : fitsB s.room name (Cod.be 4 (lookN s name next + 1)) = true) (ht : Sto.slot s.recs < s.recs.length) :
    ∃ vv pv N', e = .returned (.tuple #[.agg #[.int .i64 h, .int .i64 (lookN s name next), vv, pv], .int .i64 0]) ∧ OwnG bV WfH 32 44 w' w.heap.size vv (Wot.signO sd (lookN s name next) mm) ∧ OwnG bV WfH 32 44 w' w.heap.size pv (Wot.proof h (lookN s name next) (Wot.leaves sd (2 ^ h))) ∧
      KeyG w0 w' N' kb sb lb d L (putR s name (Cod.be 4 (lookN s name next + 1))).2 (m + 1) name sd h (lookN s name next + 1) pr := by
  obtain ⟨p1, g1, _, _⟩ := g.good.put hm hf ht
  rcases hp with ⟨hle, _⟩ | ⟨_, hne, _⟩ | ⟨_, _, vv, pv, he, h1, h2, hk, hs, hc⟩
  · omega
  · exact absurd p1 hne
  · obtain ⟨N', hg⟩ := g.of hk hs hc g1
    exact ⟨vv, pv, N', he, h1, h2, hg⟩
theorem KeyG.none (g : KeyG w0 w N kb sb lb d L s m name sd h next pr) {mm : List UInt8} {e : Ending} (hp : SignP w N kb sb lb d L s name sd h next pr mm e w') (hlt : 2 ^ h ≤ lookN s name next) :
    e = .returned (.tuple #[sigZ, .int .i64 9]) ∧ ∃ N', KeyG w0 w' N' kb sb lb d L s m name sd h (lookN s name next) pr := by
  rcases hp with ⟨_, he, hk, hs, hc⟩ | ⟨hl, _⟩ | ⟨hl, _⟩
  · exact ⟨he, g.of hk hs hc g.good⟩
  · omega
  · omega
end
theorem lookN_put {s : St} {m : Nat} (hg : SGood m s) (hm : m < 1000000) {name : ByteArray} {k : Nat} (hk : k < 4294967296) (hf : fitsB s.room name (Cod.be 4 k) = true) (ht : Sto.slot s.recs < s.recs.length) (next : Nat) : (putR s name (Cod.be 4 k)).2.get name = some (Cod.be 4 k) ∧ lookN (putR s name (Cod.be 4 k)).2 name next = max next k := by
  obtain ⟨_, g1, r1, _⟩ := hg.put hm hf ht
  have h1 : (putR s name (Cod.be 4 k)).2.get name = some (Cod.be 4 k) := by
    rw [St.get_look g1.dead, r1, putF_look ht, if_pos rfl]
  refine ⟨h1, ?_⟩
  unfold lookN
  rw [h1]
  show max next (Cod.getN (Cod.be 4 k)) = _
  rw [Cod.getN_be 4 k hk]
def st0 : St := ⟨3, List.replicate 4 Sto.Rec.free, false, .fresh (4 * (3 + 1))⟩
theorem st0_good : SGood 0 st0 := SGood.fresh 4 3 (by omega)
theorem st0_get (name : ByteArray) : st0.get name = none := by
  rw [St.get_look rfl]
  exact look_free 4 name
theorem st0_slot : Sto.slot st0.recs < st0.recs.length := slot_of_live (l := st0.recs) (by rw [show liveN st0.recs = 0 from live_free 4]; show 0 < 4; decide)
attribute [local go_sem ↓] Go.wp_at_zero Go.wp_at_succ
attribute [local go_sem ↓] store_sig
attribute [local go_sem] ptrB_eq ptrO_eq ptrIs_eq aggL_eq aggIs_eq readK_drew hasK_drew readK_alloc_past hasK_alloc_past readK_alloc_in hasK_alloc_in setCells_alloc_at
set_option maxRecDepth 20000 in
set_option maxHeartbeats 2000000 in
theorem wakes12_calls (w : World) (hT : Tab w) : Calls Tryd.prog 13 #[] w fun e w' => e = .returned (.bool true) ∧ Below w.heap.size w w' := by
  have HT := Lib.hid hT
  clear hT
  go_enter Tryd.func13, Tryd.ntmps13
  go_wp2_with fail
  refine (made_calls w HT.out).mono ?_
  rintro e w1 ⟨sb, lb, d, L, rfl, hs1⟩
  have H1 := Lib.hid hs1
  clear hs1
  obtain ⟨z, hz⟩ : ∃ z : List UInt8, z = List.replicate 16 0 := ⟨_, rfl⟩
  have hzl : z.length = 16 := by rw [hz]; rfl
  have hop := kopen_calls w1 _ sb lb d L st0 ⟨#[107]⟩ z 0 H1.out.st hzl (by decide) (fun b hb => by rw [st0_get] at hb; cases hb)
  rw [show lookN st0 ⟨#[107]⟩ 0 = 0 from by unfold lookN; rw [st0_get]] at hop
  rw [show (bV z).toArray = #[Value.int .u8 0, .int .u8 0, .int .u8 0, .int .u8 0, .int .u8 0, .int .u8 0, .int .u8 0, .int .u8 0, .int .u8 0, .int .u8 0, .int .u8 0, .int .u8 0, .int .u8 0, .int .u8 0, .int .u8 0, .int .u8 0] from by rw [hz]; rfl] at hop
  have HOP := Lib.hid hop
  clear hop hz
  go_wp2_with fail
  refine HOP.out.mono ?_
  rintro e w2 ⟨kb, rfl, hkb, hks, hst, hb2⟩
  have hG2 : KeyG w w2 (fun b => (DL d L b ∨ b = sb ∨ b = lb) ∨ b = kb) kb sb lb d L st0 0 ⟨#[107]⟩ z 0 0 (Wot.print z 0) :=
    ⟨hst, st0_good, hks, .inr rfl, fun hf => by have := H1.out.st.lt kb hf; omega, H1.out.bel.trans (hb2.mono H1.out.bel.size), fun b hb => by
      have h1 := H1.out
      have hs := h1.bel.size
      rcases hb with (hb | hb | hb) | hb
      · rcases hb with rfl | rfl
        · exact h1.d1
        · exact h1.l1
      · rw [hb]; exact h1.s1
      · rw [hb]; exact h1.b1
      · omega⟩
  have H2 := Lib.hid hG2
  clear hkb hks hst hb2 hG2
  go_wp2_with fail
  have hl0 : lookN st0 ⟨#[107]⟩ 0 = 0 := by unfold lookN; rw [st0_get]
  have hf0 : fitsB st0.room ⟨#[107]⟩ (Cod.be 4 (lookN st0 ⟨#[107]⟩ 0 + 1)) = true := by
    rw [hl0]
    exact fits_of (show 1 < 1000 by decide) (by rw [Cod.be_len]; decide) (by rw [Cod.be_len]; show 1 + 4 + 17 ≤ 3 * 32; decide)
  have hg3 := H2.out.step (w' := w2.alloc (.cells #[.int .u8 1] 5)) ((Below.refl _ _).alloc (Nat.le_refl _) _)
  have H3 := Lib.hid hg3
  refine (ksign_calls _ _ kb sb lb d L st0 ⟨#[107]⟩ z 0 0 _ _ [1] hg3.ks hg3.st hzl hg3.nk hg3.nf (fun b hb => by rw [st0_get] at hb; cases hb) (by decide) (by decide) (byte_keep 1 1 rfl H2.out.lt.1 H2.out.lt.2) (by decide) (by decide) (by decide)).mono ?_
  clear hg3
  rintro e w4 hp
  obtain ⟨vv, pv, N4, rfl, h1, h2, hg4⟩ := H3.out.sign hp (by decide) (by rw [hl0]; decide) hf0 st0_slot
  have hlk := lookN_put (next := 1) st0_good (by decide) (k := 1) (by decide) (by rw [hl0] at hf0; exact hf0) st0_slot
  rw [hl0] at h1 h2 hg4 ⊢
  obtain ⟨s1, hs1⟩ : ∃ s, s = (putR st0 ⟨#[107]⟩ (Cod.be 4 1)).2 := ⟨_, rfl⟩
  rw [show (0 : Nat) + 1 = 1 from rfl, ← hs1] at hg4
  rw [← hs1] at hlk
  have H4 := Lib.hid hg4
  have HLK := Lib.hid hlk
  obtain ⟨a1, c1, e1⟩ := h1.slice
  obtain ⟨a2, c2, e2⟩ := h2.slice
  subst e1 e2
  obtain ⟨n1, hn1⟩ : ∃ x, x = (Wot.signO z 0 [1]).length := ⟨_, rfl⟩
  obtain ⟨n2, hn2⟩ : ∃ x, x = (Wot.proof 0 0 (Wot.leaves z (2 ^ 0))).length := ⟨_, rfl⟩
  rw [← hn1, ← hn2]
  clear hp h1 h2 hg4 hlk hf0 hl0 hn1 hn2 hs1
  have hca4 : AllK 4 [Value.int .i64 0, .int .i64 0, .slice a1 n1 c1, .slice a2 n2 c2] := ⟨rfl, fun v hv => by
    simp only [List.mem_cons, List.not_mem_nil, or_false] at hv
    rcases hv with rfl | rfl | rfl | rfl <;> rfl⟩
  go_upto_region 8 with fail
  have hb5 : Below w4.heap.size w4 (w4.alloc (.cells #[Value.int .i64 0, .int .i64 0, .slice a1 n1 c1, .slice a2 n2 c2] 39)) := (Below.refl _ _).alloc (Nat.le_refl _) _
  obtain ⟨w5, hw5⟩ : ∃ q, q = w4.alloc (.cells #[Value.int .i64 0, .int .i64 0, .slice a1 n1 c1, .slice a2 n2 c2] 39) := ⟨_, rfl⟩
  rw [← hw5] at hb5 ⊢
  have hg5 := H4.out.step hb5
  have H5 := Lib.hid hg5
  have hg6 := hg5.step (w' := w5.alloc (.cells #[.int .u8 2] 5)) ((Below.refl _ _).alloc (Nat.le_refl _) _)
  have H6 := Lib.hid hg6
  have h47 : ∀ b, s1.get ⟨#[107]⟩ = some b → b.length ≤ 7 := fun b hb => by
    rw [HLK.out.1] at hb
    cases hb
    rw [Cod.be_len]
    decide
  have H47 := Lib.hid h47
  have hfew : s1.disk.writes < 72057594037920000 := by have := H5.out.good.writes; omega
  clear hw5 hb5 hca4
  go_wp2_with fail
  refine (ksign_calls _ _ kb sb lb d L s1 ⟨#[107]⟩ z 0 1 _ _ [2] hg6.ks hg6.st hzl hg6.nk hg6.nf h47 (by decide) (by decide) (byte_keep 2 2 rfl hg5.lt.1 hg5.lt.2) (by decide) (by decide) hfew).mono ?_
  clear hg5 hg6 h47
  rintro e w7 hp
  obtain ⟨rfl, N7, hg7⟩ := H6.out.none hp (by rw [HLK.out.2]; decide)
  rw [HLK.out.2] at hg7
  have H7 := Lib.hid hg7
  clear hp hg7
  unfold sigZ
  go_upto_region 9 with fail
  obtain ⟨w8, hw8⟩ : ∃ q, q = w7.alloc (.cells #[Value.int .i64 0, .int .i64 0, .slice none 0 0, .slice none 0 0] 39) := ⟨_, rfl⟩
  have hb8 : Below w7.heap.size w7 w8 := by rw [hw8]; exact (Below.refl _ _).alloc (Nat.le_refl _) _
  rw [← hw8]
  have hg8 := H7.out.step hb8
  have H8 := Lib.hid hg8
  have hlf := kleft_calls w8 N7 kb sb lb d L s1 ⟨#[107]⟩ z 0 (max 1 1) _ hg8.ks hg8.st hzl hg8.nk hg8.nf H47.out (by decide) (by decide)
  rw [show (2 : Nat) ^ 0 - lookN s1 ⟨#[107]⟩ (max 1 1) = 0 from by
    have : lookN s1 ⟨#[107]⟩ (max 1 1) = 1 := HLK.out.2
    rw [this]] at hlf
  have HLF := Lib.hid hlf
  clear hw8 hb8 hg8 hlf
  go_wp2_with fail
  refine HLF.out.mono ?_
  rintro e w9 ⟨rfl, hk9, hs9, hc9⟩
  have hg9 := H8.out.left hk9 hs9 hc9
  have H9 := Lib.hid hg9.bel
  clear hk9 hs9 hc9 hg9
  go_wp2
  go_ret
  exact ⟨rfl, H9.out⟩
end Go.Proofs.YtdlkghdfkjdajaaDoor
end
section
namespace Go.Mem
open Go Go.RowKit Gf Go.Proofs.YtdlkghdfkjdajaaDoor
set_option linter.unusedVariables false
end Go.Mem
end
section
namespace Go.Proofs.YtdlkghdfkjdajaaDoor
open Go Go.RowKit Go.Mem Gf
set_option linter.unusedVariables false
set_option linter.unusedSimpArgs false
structure Two (w0 w : World) (N X : Nat → Prop) (k0 k1 sb lb d L : Nat) (s : St) (n0 n1 : ByteArray) (d0 d1 : List UInt8) (h x0 x1 : Nat) : Prop where
  st : IsStore w N sb lb d L s
  a : KeysAt w k0 sb n0 d0 h x0 (Wot.print d0 h)
  b : KeysAt w k1 sb n1 d1 h x1 (Wot.print d1 h)
  na : N k0
  nb : N k1
  fa : ¬ Foot sb lb d L k0
  fb : ¬ Foot sb lb d L k1
  ne : k0 ≠ k1
  bel : Below w0.heap.size w0 w
  far : ∀ b, N b → w0.heap.size ≤ b
  away : ∀ b, X b → N b ∧ b ≠ k0 ∧ b ≠ k1 ∧ ¬ Foot sb lb d L b
section
variable {w0 w w' : World} {N X : Nat → Prop} {k0 k1 sb lb d L h x0 x1 : Nat} {s : St} {n0 n1 : ByteArray} {d0 d1 : List UInt8}
theorem Two.step (g : Two w0 w N X k0 k1 sb lb d L s n0 n1 d0 d1 h x0 x1) (hb : Below w.heap.size w w') : Two w0 w' N X k0 k1 sb lb d L s n0 n1 d0 d1 h x0 x1 :=
  { g with st := g.st.below hb, a := Blk.kept g.a hb, b := Blk.kept g.b hb, bel := g.bel.trans (hb.mono g.bel.size) }
theorem Two.swap (g : Two w0 w N X k0 k1 sb lb d L s n0 n1 d0 d1 h x0 x1) : Two w0 w N X k1 k0 sb lb d L s n1 n0 d1 d0 h x1 x0 :=
  ⟨g.st, g.b, g.a, g.nb, g.na, g.fb, g.fa, g.ne.symm, g.bel, g.far, fun b hx => ⟨(g.away b hx).1, (g.away b hx).2.2.1, (g.away b hx).2.1, (g.away b hx).2.2.2⟩⟩
theorem Two.kf (g : Two w0 w N X k0 k1 sb lb d L s n0 n1 d0 d1 h x0 x1) : ∀ b, KF k0 sb lb d L b → N b := fun b hb => by
  rcases hb with rfl | hb
  · exact g.na
  · exact g.st.foot _ hb
theorem Two.lt (g : Two w0 w N X k0 k1 sb lb d L s n0 n1 d0 d1 h x0 x1) : ∀ b, N b → b < w.heap.size := g.st.old
theorem Two.after (g : Two w0 w N X k0 k1 sb lb d L s n0 n1 d0 d1 h x0 x1) {s' : St} {x0' : Nat} (hk : KeysAt w' k0 sb n0 d0 h x0' (Wot.print d0 h)) (hs : StN w N sb lb d L s' w') (hc : Chg (KF k0 sb lb d L) w w') :
    ∃ N', Two w0 w' N' X k0 k1 sb lb d L s' n0 n1 d0 d1 h x0' x1 := by
  obtain ⟨N', h1, h2, h3⟩ := hs
  exact ⟨N', h3, hk, hc.blk g.b (fun e => e.elim (fun e => g.ne e.symm) g.fb), h1 _ g.na, h1 _ g.nb, g.fa, g.fb, g.ne, Chg.far g.bel hc g.bel.size (fun b hb => g.far b (g.kf b hb)), fun b hb => (h2 b hb).elim (g.far b) (fun e => Nat.le_trans g.bel.size e),
    fun b hx => ⟨h1 _ (g.away b hx).1, (g.away b hx).2⟩⟩
theorem two_left (g : Two w0 w N X k0 k1 sb lb d L s n0 n1 d0 d1 h x0 x1) (hs : d0.length = 16) (h4 : ∀ b, s.get n0 = some b → b.length ≤ 7) (hx : x0 ≤ 1000000) (hh : h ≤ 4) :
    Calls Tryd.prog 12 #[.pointer (some ⟨k0, 0, none⟩)] w fun e w' => e = .returned (.int .i64 ((2 ^ h - lookN s n0 x0 : Nat) : Int)) ∧ Two w0 w' N X k0 k1 sb lb d L s n0 n1 d0 d1 h (lookN s n0 x0) x1 ∧ Chg (fun b => b = k0) w w' := by
  refine (kleft_calls w N k0 sb lb d L s n0 d0 h x0 _ g.a g.st hs g.na g.fa h4 hx hh).mono ?_
  rintro e w' ⟨rfl, hk, hs', hc⟩
  exact ⟨rfl, { g with st := hs', a := hk, b := hc.blk g.b (fun e => g.ne e.symm), bel := Chg.far g.bel hc g.bel.size (fun b (e : b = k0) => by subst e; exact g.far _ g.na) }, hc⟩
end
def SignT (w0 w : World) (X : Nat → Prop) (k0 k1 sb lb d L : Nat) (s : St) (n0 n1 : ByteArray) (d0 d1 : List UInt8) (h x0 x1 : Nat) (m : List UInt8) (e : Ending) (w' : World) : Prop :=
  Chg (KF k0 sb lb d L) w w' ∧
  ((2 ^ h ≤ lookN s n0 x0 ∧ e = .returned (.tuple #[sigZ, .int .i64 9]) ∧ ∃ N', Two w0 w' N' X k0 k1 sb lb d L s n0 n1 d0 d1 h (lookN s n0 x0) x1) ∨
   (lookN s n0 x0 < 2 ^ h ∧ (putR s n0 (Cod.be 4 (lookN s n0 x0 + 1))).1 ≠ 0 ∧ e = .returned (.tuple #[sigZ, .int .i64 (putR s n0 (Cod.be 4 (lookN s n0 x0 + 1))).1]) ∧ ∃ N', Two w0 w' N' X k0 k1 sb lb d L (putR s n0 (Cod.be 4 (lookN s n0 x0 + 1))).2 n0 n1 d0 d1 h (lookN s n0 x0) x1) ∨
   (lookN s n0 x0 < 2 ^ h ∧ (putR s n0 (Cod.be 4 (lookN s n0 x0 + 1))).1 = 0 ∧ ∃ vv pv, e = .returned (.tuple #[.agg #[.int .i64 h, .int .i64 (lookN s n0 x0), vv, pv], .int .i64 0]) ∧
     OwnG bV WfH 32 44 w' w.heap.size vv (Wot.signO d0 (lookN s n0 x0) m) ∧ OwnG bV WfH 32 44 w' w.heap.size pv (Wot.proof h (lookN s n0 x0) (Wot.leaves d0 (2 ^ h))) ∧
     ∃ N', Two w0 w' N' X k0 k1 sb lb d L (putR s n0 (Cod.be 4 (lookN s n0 x0 + 1))).2 n0 n1 d0 d1 h (lookN s n0 x0 + 1) x1))
section
variable {w0 w w' : World} {N X : Nat → Prop} {k0 k1 sb lb d L h x0 x1 : Nat} {s : St} {n0 n1 : ByteArray} {d0 d1 : List UInt8}
theorem two_sign (g : Two w0 w N X k0 k1 sb lb d L s n0 n1 d0 d1 h x0 x1) (v : Value) (m : List UInt8) (hs : d0.length = 16) (h4 : ∀ b, s.get n0 = some b → b.length ≤ 7) (hx : x0 ≤ 1000000) (hh : h ≤ 4) (hv : ∀ w', Chg (KF k0 sb lb d L) w w' → Bys w' v m) (hm : m.length ≤ 1000) (hnm : n0.size ≤ 1000000) (hfew : s.disk.writes < 72057594037920000) :
    Calls Tryd.prog 9 #[.pointer (some ⟨k0, 0, none⟩), v] w (SignT w0 w X k0 k1 sb lb d L s n0 n1 d0 d1 h x0 x1 m) := by
  refine (ksign_calls w N k0 sb lb d L s n0 d0 h x0 _ v m g.a g.st hs g.na g.fa h4 hx hh hv hm hnm hfew).mono ?_
  rintro e w' (⟨h1, h2, hk, hst, hc⟩ | ⟨h1, h2, h3, hk, hst, hc⟩ | ⟨h1, h2, vv, pv, h3, h5, h6, hk, hst, hc⟩)
  · exact ⟨hc, .inl ⟨h1, h2, g.after hk hst hc⟩⟩
  · exact ⟨hc, .inr (.inl ⟨h1, h2, h3, g.after hk hst hc⟩)⟩
  · exact ⟨hc, .inr (.inr ⟨h1, h2, vv, pv, h3, h5, h6, g.after hk hst hc⟩)⟩
end
theorem KeysAt.rngP {w : World} {kb sb h next : Nat} {name : ByteArray} {sd pr : List UInt8} (k : KeysAt w kb sb name sd h next pr) (hs : sd.length = 16) : w.rangeAt kb 20 (bV pr) := fun j v hv => by
  rw [Blk.cell k, List.getElem?_toArray]
  have h1 : ([Value.pointer (some ⟨sb, 0, none⟩), Value.string name] ++ bV sd ++ [Value.int .i64 h, Value.int .i64 next]).length = 20 := by simp [bV_len, hs]
  unfold keysV
  rw [List.getElem?_append_right (by omega), h1, Nat.add_sub_cancel_left]
  exact hv
theorem KeysAt.hasP {w : World} {kb sb h next : Nat} {name : ByteArray} {sd pr : List UInt8} (k : KeysAt w kb sb name sd h next pr) (hs : sd.length = 16) (hp : pr.length = 32) : HasK 32 w kb 20 := blk_has k (by unfold keysV; simp [bV_len, hs, hp])
attribute [local go_sem ↓] Go.wp_at_zero Go.wp_at_succ
attribute [local go_sem ↓] load_hash store_hash
attribute [local go_sem] ptrB_eq ptrO_eq ptrIs_eq aggL_eq aggIs_eq readK_drew hasK_drew readK_alloc_past hasK_alloc_past readK_alloc_in hasK_alloc_in setCells_alloc_at
set_option maxRecDepth 20000 in
set_option maxHeartbeats 1000000 in
theorem kprint_calls (w : World) (kb sb : Nat) (name : ByteArray) (sd : List UInt8) (h next : Nat) (pr : List UInt8) (hk : KeysAt w kb sb name sd h next pr) (hs : sd.length = 16) (hp : pr.length = 32) :
    Calls Tryd.prog 11 #[.pointer (some ⟨kb, 0, none⟩)] w fun e w' => e = .returned (.agg (bV pr).toArray) ∧ Below w.heap.size w w' := by
  obtain ⟨co, hco⟩ : ∃ c, c = bV pr := ⟨_, rfl⟩
  have hcol : co.length = 32 := by rw [hco, bV_len]; exact hp
  have hlt := Blk.lt hk
  have HK := Lib.hid (And.intro (fun w' (hb : Below w.heap.size w w') => (KeysAt.rngP (Blk.kept hk hb) hs)) (fun w' (hb : Below w.heap.size w w') => (KeysAt.hasP (Blk.kept hk hb) hs hp)))
  have HCO := Lib.hid hco
  rw [← hco]
  clear hk hco
  go_enter Tryd.func11, Tryd.ntmps11
  go_upto_region 1 with fail
  obtain ⟨w1, hw1⟩ : ∃ q, q = w.alloc (.cells #[Value.int IntKind.u8 0, Value.int IntKind.u8 0, Value.int IntKind.u8 0, Value.int IntKind.u8 0, Value.int IntKind.u8 0, Value.int IntKind.u8 0, Value.int IntKind.u8 0, Value.int IntKind.u8 0, Value.int IntKind.u8 0, Value.int IntKind.u8 0, Value.int IntKind.u8 0, Value.int IntKind.u8 0, Value.int IntKind.u8 0, Value.int IntKind.u8 0, Value.int IntKind.u8 0, Value.int IntKind.u8 0, Value.int IntKind.u8 0, Value.int IntKind.u8 0, Value.int IntKind.u8 0, Value.int IntKind.u8 0, Value.int IntKind.u8 0, Value.int IntKind.u8 0, Value.int IntKind.u8 0, Value.int IntKind.u8 0, Value.int IntKind.u8 0, Value.int IntKind.u8 0, Value.int IntKind.u8 0, Value.int IntKind.u8 0, Value.int IntKind.u8 0, Value.int IntKind.u8 0, Value.int IntKind.u8 0, Value.int IntKind.u8 0] 44) := ⟨_, rfl⟩
  obtain ⟨p2, hp2⟩ : ∃ q, q = w.heap.size := ⟨_, rfl⟩
  have hb1 : Below w.heap.size w w1 := by rw [hw1]; exact (Below.refl _ _).alloc (Nat.le_refl _) _
  have hk1 : Blk w1 p2 zH 44 := by rw [hw1, hp2]; exact Blk.new _ _ _
  rw [← hw1, ← hp2]
  have k1 : readK 32 w1 kb 20 = co := by rw [HCO.out]; exact readK_eq (HK.out.1 w1 hb1) (by rw [bV_len]; exact hp)
  have k2 : HasK 32 w1 kb 20 := HK.out.2 w1 hb1
  have hpge : w.heap.size ≤ p2 := Nat.le_of_eq hp2.symm
  have kz := hk1
  obtain ⟨hq1, hq2, hq3⟩ := hash_end (p := p2) (h := pr) hp kz
  rw [← HCO.out] at hq2 hq3
  have HLD := Lib.hid hq3
  have HM := Lib.hid (hash_chg co hb1 hpge)
  clear hw1 hp2 hb1 hk1 kz hq3
  go_wp2_with fail
  refine bodyPost_ret (v := .agg co.toArray) (by simp [results, Tryd.results11, asAddr, HLD.out]) rfl ⟨rfl, HM.out⟩
end Go.Proofs.YtdlkghdfkjdajaaDoor
end
section
namespace Cod
open Go.Lib
end Cod
end
section
namespace Go.Proofs.YtdlkghdfkjdajaaDoor
open Go Go.RowKit Go.Mem Gf
attribute [local go_sem ↓] Go.wp_at_zero Go.wp_at_succ
set_option maxRecDepth 20000 in
set_option maxHeartbeats 1000000 in
theorem rput_calls (n : Nat) (m : Nat) (hn : n ≤ 9223372036854775807) (h1 : 1 ≤ m) (hm : m ≤ 8) (w : World) :
    Calls Tryd.prog 51 #[.int .i64 n, .int .i64 m] w fun e w' => ∃ v, e = .returned v ∧ OwnF 5 w' w.heap.size v (Cod.be m n) ∧ Below w.heap.size w w' := by
  have hmk : ∀ w, (Instr.makeSlice 35 (.int .i64 (m : Int)) (.int .i64 (m : Int))).run Tryd.prog w = .ok (.slice (some ⟨w.heap.size, 0, none⟩) m m) (w.alloc (.cells (rowArr m fun _ => 0) 5)) := fun w => by
    have := make_bytes (P := Tryd.prog) 35 5 Tryd.underlying35 E8k m (by omega) w
    rw [rowArr_zero] at this
    exact this
  have hmx : min (m : Int) 8 = m := by omega
  have n0 : decide ((n : Int) < 0) = false := by simp
  have hB0 : Blk (w.alloc (.cells (rowArr m fun _ => 0) 5)) w.heap.size (rowArr m fun _ => 0) 5 := Blk.new _ _ _
  go_enter Tryd.func51, Tryd.ntmps51
  go_wp2_with fail
  go_loopw [0, 6] (fun u v wr => ∃ (k j : Nat), k + j = m ∧ u = .int .i64 ((n / 256 ^ k : Nat) : Int) ∧ v = .int .i64 ((j : Int) - 1) ∧ Blk wr w.heap.size (rowArr m fun x => if j ≤ x then UInt8.ofNat (n / 256 ^ (m - 1 - x)) else 0) 5 ∧ Below w.heap.size w wr) (fun _ v _ => (intOf v + 1).toNat)
  case atStart => exact ⟨0, m, by omega, by simp, rfl, by rw [rowArr_congr (m := m) (f := fun x => if m ≤ x then UInt8.ofNat (n / 256 ^ (m - 1 - x)) else 0) (g := fun _ => 0) (fun x hx => if_neg (by omega))]; exact hB0, (Below.refl _ _).alloc (Nat.le_refl _) _⟩
  case round =>
    clear hB0 hmk
    obtain ⟨k, j, hkj, rfl, rfl, hB, hb⟩ := hrel
    by_cases h0 : 1 ≤ j
    · obtain ⟨i, rfl⟩ : ∃ i, j = i + 1 := ⟨j - 1, by omega⟩
      have e1 : ((i + 1 : Nat) : Int) - 1 = (i : Int) := by omega
      rw [e1]
      have c1 : wr.cell? ⟨w.heap.size, i, none⟩ = some (.int .u8 0) := by rw [hB.cell, rowArr_get _ _ _ (by omega), if_neg (by omega)]; rfl
      have f1 := hB.free i
      obtain ⟨q, hq⟩ : ∃ q, q = n / 256 ^ k := ⟨_, rfl⟩
      have hq1 : q ≤ 9223372036854775807 := by rw [hq]; exact Nat.le_trans (Nat.div_le_self _ _) hn
      rw [← hq]
      have Hq := Lib.hid hq; have HB := Lib.hid hB
      have q8 : ((UInt8.ofNat q).toNat : Int) = (q : Int) % 256 := by rw [UInt8.toNat_ofNat']; rfl
      have HQ8 := Lib.hid q8
      clear hq hB q8
      go_wp2
      refine ⟨⟨k + 1, i, by omega, ?_, rfl, ?_, hb.setCell (Nat.le_refl _) _⟩, by simp [intOf] <;> omega⟩
      · rw [Nat.pow_succ, ← Nat.div_div_eq_div_mul, ← Hq.out]; congr 1
      · have := HB.out.set i (.int .u8 (((UInt8.ofNat q).toNat : Nat) : Int))
        rw [rowArr_set] at this
        rw [show ((q : Int) % 256) = (((UInt8.ofNat q).toNat : Nat) : Int) from HQ8.out.symm]
        rw [← rowArr_congr (m := m) (f := fun x => if x = i then UInt8.ofNat q else if i + 1 ≤ x then UInt8.ofNat (n / 256 ^ (m - 1 - x)) else 0) (fun x hx => ?_)]
        · exact this
        · by_cases e : x = i
          · subst e; rw [if_pos rfl, if_pos (Nat.le_refl _), Hq.out, show m - 1 - x = k from by omega]
          · rw [if_neg e]
            by_cases e2 : i + 1 ≤ x
            · rw [if_pos e2, if_pos (by omega)]
            · rw [if_neg e2, if_neg (by omega)]
    · obtain rfl : j = 0 := by omega
      go_wp2
      go_ret
      refine ⟨_, rfl, ?_, hb⟩
      have := ownF_row (base := w.heap.size) hB (Nat.le_refl _) (by omega)
      rw [← rowL_be, rowL_congr (g := fun x => if 0 ≤ x then UInt8.ofNat (n / 256 ^ (m - 1 - x)) else 0) (fun x hx => (if_pos (Nat.zero_le _)).symm)]
      exact this
theorem rput_x (n : Nat) (m : Nat) (hn : n ≤ 9223372036854775807) (h1 : 1 ≤ m) (hm : m ≤ 8) (w : World) :
    Calls Tryd.prog 51 #[.int .i64 n, .int .i64 m] w fun e w' => ∃ v, e = .returned v ∧ OwnX 5 w' w.heap.size v (Cod.be m n) ∧ Below w.heap.size w w' :=
  (rput_calls n m hn h1 hm w).mono fun _ _ ⟨v, he, h2, h3⟩ => ⟨v, he, h2.x, h3⟩
def digS (n : Nat) : ByteArray := ⟨(Lib.decDigits n).toArray⟩
theorem digS_small (n : Nat) (h : n < 10) : digS n = ⟨#[UInt8.ofNat (48 + n)]⟩ := by
  unfold digS; rw [Lib.decDigits, dif_pos h]
theorem digS_big (n : Nat) (h : ¬ n < 10) : digS n = digS (n / 10) ++ ⟨#[UInt8.ofNat (48 + n % 10)]⟩ := by
  apply ByteArray.ext
  show (Lib.decDigits n).toArray = (digS (n / 10) ++ _).data
  rw [Lib.decDigits, dif_neg h, ByteArray.data_append]
  simp [digS]
theorem conv_one (u : UInt8) (w : World) (g : Nat) (h : w.cell? ⟨g, 0, none⟩ = some (.int .u8 ((u.toNat : Nat) : Int))) : (convert 35 9 (.slice (some ⟨g, 0, none⟩) 1 1)).run Tryd.prog w = .ok (.string ⟨#[u]⟩) w := by
  refine conv_string (bs := [u]) ⟨_, 1, rfl, by simp, maxLen_ge (by decide), fun _ => ⟨g, 0, rfl, fun i v hi => ?_⟩⟩
  cases i with
  | zero => simp at hi; subst hi; exact h
  | succ i => simp at hi
theorem bcell {W w1 : World} (hb : Below W.heap.size W w1) : (∀ b o, b < W.heap.size → w1.cell? ⟨b, o, none⟩ = W.cell? ⟨b, o, none⟩) :=
  fun b o h => hb.cell (p := ⟨b, o, none⟩) h
theorem digS_size (n : Nat) (h : n ≤ 100000000) : (digS n).size ≤ 9 := by
  have := dec_len n h
  rw [Lib.itoa_nonneg] at this
  simpa [digS, ByteArray.size] using this
set_option maxRecDepth 100000 in
set_option maxHeartbeats 1000000 in
theorem rdig_calls (n : Nat) : n ≤ 100000000 → ∀ w, Calls Tryd.prog 83 #[.int .i64 n] w fun e w' => e = .returned (.string (digS n)) ∧ Below w.heap.size w w' := by
  induction n using Nat.strongRecOn with
  | _ n ih =>
    intro hn w
    by_cases h : n < 10
    · have hs := digS_small n h
      have d0 : decide ((n : Int) < 10) = true := by simp; omega
      have hu : ((UInt8.ofNat (48 + n)).toNat : Int) = 48 + (n : Int) := by rw [Cod.digit_toNat h]; omega
      have hc := conv_one (UInt8.ofNat (48 + n))
      rw [← hs, hu] at hc
      clear hs hu ih
      go_enter Tryd.func83, Tryd.ntmps83
      go_wp2_with fail
      go_ret
      exact ⟨rfl, (Below.refl _ _).alloc (Nat.le_refl _) _⟩
    · have hs := digS_big n h
      obtain ⟨q, hq⟩ : ∃ q, q = n / 10 := ⟨_, rfl⟩
      obtain ⟨r, hr⟩ : ∃ r, r = n % 10 := ⟨_, rfl⟩
      have d0 : decide ((n : Int) < 10) = false := by simp; omega
      have hr10 : r < 10 := by omega
      obtain ⟨u, hue⟩ : ∃ u, u = UInt8.ofNat (48 + r) := ⟨_, rfl⟩
      have hu : ((u.toNat : Nat) : Int) = 48 + (r : Int) := by rw [hue, Cod.digit_toNat hr10]; omega
      have hc := conv_one u
      have e1 : (n : Int) / 10 = (q : Int) := by omega
      have e2 : (n : Int) % 10 = (r : Int) := by omega
      have t1 : (n : Int).tdiv 10 = (q : Int) := by rw [Int.tdiv_eq_ediv_of_nonneg (by omega)]; omega
      have t2 : (n : Int).tmod 10 = (r : Int) := by rw [Int.tmod_eq_emod_of_nonneg (by omega)]; omega
      have w1 : IntKind.i64.wrap (q : Int) = (q : Int) := IntWalk.i64_in _ (by omega)
      have w2 : IntKind.i64.wrap (r : Int) = (r : Int) := IntWalk.i64_in _ (by omega)
      have w3 : IntKind.i64.wrap (48 + (r : Int)) = 48 + (r : Int) := IntWalk.i64_in _ (by omega)
      have w4 : IntKind.u8.wrap (48 + (r : Int)) = 48 + (r : Int) := by unfold IntKind.wrap; simp [IntKind.bits, IntKind.signed]; omega
      rw [hu] at hc
      rw [← hq, ← hr, ← hue] at hs
      have IH := Lib.hid (ih q (by omega) (by omega))
      have hz := digS_size q (by omega)
      have hz2 : (digS q).size + 1 ≤ maxLen := maxLen_ge (by omega)
      have HS := Lib.hid hs
      clear hs hu ih hq hr hue
      go_enter Tryd.func83, Tryd.ntmps83
      go_wp2_with fail
      go_region_with
        (go_at_call 83
         refine (IH.out _).mono ?_
         rintro e w2 ⟨rfl, hb2⟩
         have hk := bcell hb2
         have hz := hb2.size)
      all_goals
        go_wp2_with fail
        go_ret
        refine ⟨by rw [HS.out]; rfl, ?_⟩
      · exact (of_drew hb2).alloc (Nat.le_of_lt_succ (Nat.lt_succ_of_le hz)) _
      all_goals exact ((Below.refl w.heap.size w).alloc (Nat.le_refl _) _).trans ((of_drew hb2).mono (by simp))
set_option maxRecDepth 100000 in
set_option maxHeartbeats 1000000 in
theorem rnet_calls (v : Value) (bs : List UInt8) (w : World) (h : Bys w v bs) (hl : bs.length ≤ 100000000) :
    Calls Tryd.prog 68 #[v] w fun e w' => ∃ v', e = .returned v' ∧ OwnX 5 w' w.heap.size v' (Cod.net bs) ∧ Below w.heap.size w w' := by
  obtain ⟨a, c, rfl⟩ := h.eq_slice
  obtain ⟨l, hl'⟩ : ∃ l, l = bs.length := ⟨_, rfl⟩
  have Hn := Lib.hid (show Cod.net bs = (digS bs.length).data.toList ++ [58] ++ bs ++ [44] from by rw [Cod.net_eq]; simp [digS])
  rw [← hl'] at hl h Hn ⊢
  have Hl := Lib.hid hl'
  clear hl'
  go_enter Tryd.func68, Tryd.ntmps68
  go_wp2_with fail
  refine (rdig_calls l hl w).mono ?_
  rintro e w1 ⟨rfl, hb1⟩
  have hss := digS_size l hl
  obtain ⟨s, hs⟩ : ∃ s : ByteArray, s = digS l := ⟨_, rfl⟩
  rw [← hs] at hss Hn ⊢
  have hsl : s.data.toList.length ≤ 9 := by rw [Array.length_toList]; exact hss
  have hconv := Lib.run_convert_string_bytes (P := Tryd.prog) w1 9 35 5 s Tryd.underlying9 Tryd.underlying35 Tryd.underlying5
  obtain ⟨ho, hb2⟩ := conv_ownX w1 5 s (maxLen_ge (by omega))
  obtain ⟨w2, hw2⟩ : ∃ w2, w2 = Lib.bytesWorld w1 5 s := ⟨_, rfl⟩
  rw [← hw2] at ho hb2 hconv
  have hbw2 : Below w.heap.size w w2 := hb1.trans (hb2.mono hb1.size)
  obtain ⟨dl, hdl⟩ : ∃ d, d = s.data.toList := ⟨_, rfl⟩
  rw [← hdl] at ho Hn hsl
  have Hs := Lib.hid hs; have Hsl := Lib.hid hdl
  have hs1 := hb1.size
  have hs2 := hb2.size
  clear hs hdl hw2
  go_wp2_with (at_builtin; refine appX E8c rfl _ _ rfl (base := w.heap.size) (bs := dl) (news := [58]) rfl rfl ((ho.mono hs1).alloc _) (bys_one _ 58 _ rfl _) ?q1 ?q2 ?_)
  case q1 => rw [List.length_singleton]; omega
  case q2 => simp; omega
  intro v3 w3 ho3 hg3
  have hb3 := grown_below (hbw2.alloc hbw2.size _) hg3 (fun k hk => by simp [Value.ownBlock] at hk; omega)
  have hs3 := hb3.size
  have hlt3 := ho3.lt
  clear hconv ho hb2 hg3 hbw2
  go_wp2_with (at_builtin; refine appX E8c rfl _ _ rfl (base := w.heap.size) (news := bs) rfl rfl ho3 (h.below hb3) ?q3 ?q4 ?_)
  case q3 => have := Hl.out; simp; omega
  case q4 => exact hs3
  intro v4 w4 ho4 hg4
  have hb4 := grown_below hb3 hg4 (fun k hk => (hlt3 k hk).1)
  have hs4 := hb4.size
  have hlt4 := ho4.lt
  clear hg4 ho3 hb3
  go_wp2_with (at_builtin; refine appX E8c rfl _ _ rfl (base := w.heap.size) (news := [44]) rfl rfl (ho4.alloc _) (bys_one _ 44 _ rfl _) ?q5 ?q6 ?_)
  case q5 => have := Hl.out; simp; omega
  case q6 => simp; omega
  intro v5 w5 ho5 hg5
  have hb5 := grown_below (hb4.alloc hs4 _) hg5 (fun k hk => (hlt4 k hk).1)
  clear hg5 ho4 hb4
  go_wp2
  go_ret
  exact ⟨v5, rfl, by rw [Hn.out]; simpa using ho5, hb5⟩
set_option maxRecDepth 100000 in
set_option maxHeartbeats 1000000 in
theorem rnets_calls (v : Value) (rows : List (List UInt8)) (w : World) (h : Rws w v rows) (hl : (Cod.nets rows).length ≤ 100000000) :
    Calls Tryd.prog 70 #[v] w fun e w' => ∃ v', e = .returned v' ∧ OwnX 5 w' w.heap.size v' (Cod.nets rows) ∧ Below w.heap.size w w' := by
  have hrl := h.len
  obtain ⟨a, c, rfl⟩ := h.eq_slice
  obtain ⟨n, hn⟩ : ∃ n, n = rows.length := ⟨_, rfl⟩
  rw [← hn] at h hrl ⊢
  have Hn := Lib.hid hn
  clear hn
  go_enter Tryd.func70, Tryd.ntmps70
  go_wp2_with fail
  go_loopw [3, 7] (fun u v wr => ∃ i : Nat, i ≤ n ∧ v = .int .i64 i ∧ OwnX 5 wr w.heap.size u (Cod.nets (rows.take i)) ∧ Below w.heap.size w wr) (fun _ v _ => n - (intOf v).toNat)
  case atStart => exact ⟨0, by omega, rfl, OwnX.nil _ _ _, Below.refl _ _⟩
  case round =>
    obtain ⟨i, hi, rfl, ho, hb⟩ := hrel
    by_cases h0 : i < n
    · obtain ⟨b, o, bs, va, rfl, hr, c1, hrow⟩ := (h.below hb).at i (by have := Hn.out; omega)
      have i0 : (0 : Int) ≤ (i : Int) := by omega
      have i1 : (i : Int) < (n : Int) := by omega
      have hle := nets_row_le hr.out
      have hnl := Cod.net_len bs
      have hs := hb.size
      have hlt := ho.lt
      have Hfin := Lib.hid (show Cod.nets (rows.take (i + 1)) = Cod.nets (rows.take i) ++ Cod.net bs from by rw [List.take_add_one, hr.out]; exact Cod.nets_snoc _ _)
      go_wp2_with fail
      refine (rnet_calls va bs wr hrow (by omega)).mono ?_
      rintro e w2 ⟨v2, rfl, ho2, hb2⟩
      go_wp2_with (at_builtin; refine appX E8c rfl _ _ rfl (base := w.heap.size) (news := Cod.net bs) rfl rfl (ho.below hb2) ho2.bys ?q1 ?q2 ?_)
      case q1 => omega
      case q2 => have := hb2.size; omega
      intro v3 w3 ho3 hg3
      have hb3 := grown_below (hb.trans (hb2.mono hs)) hg3 (fun k hk => (hlt k hk).1)
      rw [← Hfin.out] at ho3
      clear hg3 ho2 hb2 hle hnl
      go_wp2
      exact ⟨⟨i + 1, by omega, by go_num, ho3, hb3⟩, by simp [intOf] <;> omega⟩
    · obtain rfl : i = n := by omega
      have e : rows.take i = rows := List.take_of_length_le (by have := Hn.out; omega)
      rw [e] at ho
      go_wp2
      go_ret
      exact ⟨_, rfl, ho, hb⟩
end Go.Proofs.YtdlkghdfkjdajaaDoor
end
