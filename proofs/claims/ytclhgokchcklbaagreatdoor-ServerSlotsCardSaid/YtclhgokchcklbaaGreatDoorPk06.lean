/- Texts of this proof, packed: StoreOpenW, StoreLaw2, Strs, StoreLab, LeaMath, LeaMem, LongOp, LeaHeap. -/
import Derived.Test.YtclhgokchcklbaaGreatDoorPk03
import Derived.Test.YtclhgokchcklbaaGreatDoorPk05
import Derived.Test.YtclhgokchcklbaaGreatDoorPk00
import Derived.Sort.OwnSorted
import Derived.Lib.Hide
import Derived.Test.YtclhgokchcklbaaGreatDoorPk02
import Derived.Deep.MidRow
import Derived.Great.BuildSlice
import Derived.Deep.RegionHeld3
section
namespace Go.Mem
open Go Go.RowKit Gf
def OwnRecs (t8 tr : TypeId) (w : World) (base : Nat) (u : Value) (l : List Sto.Rec) : Prop :=
  ∃ vs : List Value, vs.length = l.length ∧ w.ownsRow base tr 4 u l.length (recsV l vs) ∧ ∀ (j : Nat) (r : Sto.Rec) (v : Value), l[j]? = some r → vs[j]? = some v → OwnX t8 w base v r.data
theorem OwnRecs.nil (t8 tr : TypeId) (w : World) (base : Nat) : OwnRecs t8 tr w base (.slice none 0 0) [] :=
  ⟨[], rfl, World.ownsRow_nil _ _ _ _, fun j r v h => by simp at h⟩
theorem OwnRecs.chg {S : Nat → Prop} {t8 tr : TypeId} {w w' : World} {base : Nat} {u : Value} {l : List Sto.Rec} (h : OwnRecs t8 tr w base u l) (hc : Chg S w w') (hs : ∀ g, base ≤ g → ¬ S g) : OwnRecs t8 tr w' base u l := by
  obtain ⟨vs, h1, h2, h3⟩ := h
  exact ⟨vs, h1, own_chg h2 hc (fun g hg => hs g (h2.lt g hg).1), fun j r v hr hv => (h3 j r v hr hv).chg hc (fun g hg => hs g ((h3 j r v hr hv).lt g hg).1)⟩
theorem ownX_grown {t8 tr : TypeId} {w w' : World} {b1 b2 s2 n2 : Nat} {v1 v2 : Value} {bs : List UInt8} {x2 : List Value} (h1 : OwnX t8 w b1 v1 bs) (h2 : w.ownsRow b2 tr s2 v2 n2 x2) (hne : t8 ≠ tr) (hg : w.grownBy w' v2.ownBlock) : OwnX t8 w' b1 v1 bs := by
  rcases h1 with h | ⟨g, cap, arr, fz, rfl, hb, hh, rest⟩
  · exact .inl h
  · refine .inr ⟨g, cap, arr, fz, rfl, hb, ?_, rest⟩
    rw [← hh]
    refine hg.block g (lt_of_block hh) ?_
    intro e
    rcases h2.2 with ⟨rfl, _⟩ | ⟨g2, cap2, cur2, rfl, _, hh2, _⟩
    · simp [Value.ownBlock] at e
    · simp only [Value.ownBlock, Option.some.injEq] at e
      subst e
      rw [hh] at hh2
      simp at hh2
      exact hne hh2.2.1
theorem OwnRecs.push {t8 tr : TypeId} {w w' : World} {base : Nat} {u u' v : Value} {l : List Sto.Rec} {r : Sto.Rec} {vs : List Value} (hne : t8 ≠ tr) (h1 : vs.length = l.length) (h2 : w.ownsRow base tr 4 u l.length (recsV l vs))
    (h3 : ∀ (j : Nat) (r : Sto.Rec) (v : Value), l[j]? = some r → vs[j]? = some v → OwnX t8 w base v r.data) (hr : OwnX t8 w base v r.data)
    (hown : w'.ownsRow base tr 4 u' (l.length + 1) (recsV l vs ++ [.bool r.is, .string r.name, .int .i64 r.num, v])) (hg : w.grownBy w' u.ownBlock) : OwnRecs t8 tr w' base u' (l ++ [r]) := by
  refine ⟨vs ++ [v], by simp [h1], by rw [recsV_snoc l vs r v h1, List.length_append]; exact hown, fun j r' v' hr' hv' => ?_⟩
  rcases Nat.lt_or_ge j l.length with hj | hj
  · rw [List.getElem?_append_left hj] at hr'
    rw [List.getElem?_append_left (by omega)] at hv'
    exact ownX_grown (h3 j r' v' hr' hv') h2 hne hg
  · rw [List.getElem?_append_right hj] at hr'
    rw [List.getElem?_append_right (by omega), h1] at hv'
    have hj0 : j - l.length = 0 := by
      rcases Nat.eq_zero_or_pos (j - l.length) with h | h
      · exact h
      · rw [List.getElem?_eq_none (by simp; omega)] at hr'; cases hr'
    rw [hj0] at hr' hv'
    simp at hr' hv'
    subst hr' hv'
    exact ownX_grown hr h2 hne hg
theorem push_at {t8 tr : TypeId} {w3 w' x1 : World} {base : Nat} {u u' v : Value} {l : List Sto.Rec} {r : Sto.Rec} {vs : List Value} (hne : t8 ≠ tr) (h1 : vs.length = l.length) (h2 : w3.ownsRow base tr 4 u l.length (recsV l vs))
    (h3 : ∀ (j : Nat) (r : Sto.Rec) (v : Value), l[j]? = some r → vs[j]? = some v → OwnX t8 w3 base v r.data) (hr : OwnX t8 w3 base v r.data) (hb : Below w3.heap.size w3 w')
    (hown : x1.ownsRow base tr 4 u' (l.length + 1) (recsV l vs ++ [.bool r.is, .string r.name, .int .i64 r.num, v])) (hg : w'.grownBy x1 u.ownBlock) : OwnRecs t8 tr x1 base u' (l ++ [r]) :=
  have hc : Chg (fun _ => False) w3 w' := Chg.of_below hb
  OwnRecs.push hne h1 (own_chg h2 hc (fun _ _ h => h)) (fun j r v hr hv => (h3 j r v hr hv).chg hc (fun _ _ h => h)) (hr.chg hc (fun _ _ h => h)) hown hg
theorem OwnX.data' {t8 : TypeId} {w : World} {base : Nat} {v : Value} {bs : List UInt8} {N : Nat → Prop} (h : OwnX t8 w base v bs) (hN : ∀ b arr fz, base ≤ b → w.heap[b]? = some (.cells arr t8 fz) → ¬ N b) : DataAt w N v bs := by
  refine ⟨h.bys, ?_⟩
  rcases h with ⟨rfl, rfl⟩ | ⟨g, cap, arr, fz, rfl, h2, h3, _⟩
  · exact ⟨none, 0, rfl, fun b h => by cases h⟩
  · exact ⟨_, cap, rfl, fun b hb => by cases hb; exact ⟨lt_of_block h3, hN _ _ _ h2 h3⟩⟩
theorem OwnRecs.recsAt {t8 tr : TypeId} {w : World} {base : Nat} {u : Value} {l : List Sto.Rec} (h : OwnRecs t8 tr w base u l) (hl : 0 < l.length) (hne : t8 ≠ tr) (N1 : Nat → Prop) (hN : ∀ b, N1 b → b < base) :
    ∃ lb cap, u = .slice (some ⟨lb, 0, none⟩) l.length cap ∧ l.length ≤ cap ∧ cap ≤ maxLen ∧ base ≤ lb ∧ RecsAt tr w (fun b => N1 b ∨ b = lb) lb l := by
  obtain ⟨vs, h1, h2, h3⟩ := h
  rcases h2.2 with ⟨_, h0⟩ | ⟨g, cap, cur, rfl, hb, hh, hn, hc, hs, ht⟩
  · omega
  · refine ⟨g, cap, rfl, hn, hc, hb, cur, vs, hh, by rw [hs]; exact Nat.mul_le_mul_right _ hn, h1, fun j hj => ?_, fun i r v hr hv => (h3 i r v hr hv).data' fun b arr fz hb1 hb2 hN' => ?_⟩
    · rw [← ht, List.getElem?_take, if_pos hj, Array.getElem?_toList]
    · rcases hN' with hN' | rfl
      · have := hN b hN'; omega
      · rw [hh] at hb2
        simp at hb2
        exact hne hb2.2.1.symm
end Go.Mem
namespace Go.Proofs.YtclhgokchcklbaaGreatDoor
open Go Go.RowKit Go.Mem Gf
attribute [local go_sem ↓] Go.wp_at_zero Go.wp_at_succ
theorem EKr : ElemK Tryz.prog 125 129 (.agg #[.bool false, .string ByteArray.empty, .int .i64 0, .slice none 0 0]) 4 56 := ⟨Tryz.underlying125, by kernel_rfl, rfl, by decide⟩
def OpenPost (N0 : Nat → Prop) (d L : Nat) (D : DiskS) (slots room : Nat) (w : World) (e : Ending) (w' : World) : Prop :=
  ∃ p, e = .returned (.tuple #[p, .int .i64 (openR D slots room).1]) ∧ Chg (fun b => b = d ∨ b = L) w w' ∧ IsDisk w' d L (openR D slots room).2.1 ∧
    (((openR D slots room).2.2 = none ∧ p = .pointer none) ∨ ∃ s lb, (openR D slots room).2.2 = some s ∧ p = .pointer (some ⟨w.heap.size, 0, none⟩) ∧ w.heap.size < lb ∧ IsStore w' (fun b => N0 b ∨ b = w.heap.size ∨ b = lb) w.heap.size lb d L s)
set_option maxRecDepth 20000 in
set_option maxHeartbeats 2000000 in
theorem open_calls (N0 : Nat → Prop) (d L : Nat) (D : DiskS) (slots room : Nat) (w : World) (hT : Tab w) (hN0 : ¬ N0 gT ∧ N0 d ∧ N0 L ∧ ∀ b, N0 b → b < w.heap.size) (hD : IsDisk w d L D) (h1 : decide ((1 : Int) ≤ slots ∧ (slots : Int) ≤ 1024) = true) (h2 : decide ((1 : Int) ≤ room ∧ (room : Int) ≤ 1024) = true) (h : D.n = slots * (room + 1)) (hfew : D.writes < 72057594037920000) :
    Calls Tryz.prog 26 #[.pointer (some ⟨d, 0, none⟩), .int .i64 slots, .int .i64 room] w (OpenPost N0 d L D slots room w) := by
  have hs := of_decide_eq_true h1
  have hr := of_decide_eq_true h2
  have hm : slots * (room + 1) ≤ 1024 * 1025 := Nat.mul_le_mul (by omega) (by omega)
  obtain ⟨m, hmm⟩ : ∃ m, m = slots * (room + 1) := ⟨_, rfl⟩
  have q1 : IntKind.i64.wrap ((room : Int) + 1) = (room : Int) + 1 := IntWalk.i64_in _ (by omega)
  have q2 : IntKind.i64.wrap ((slots : Int) * ((room : Int) + 1)) = (m : Int) := by
    have e2 : (slots : Int) * ((room : Int) + 1) = (m : Int) := by rw [hmm]; push_cast; rfl
    rw [e2]
    exact IntWalk.i64_in _ (by omega)
  rw [← hmm] at h
  have hne : (D.n : Int) = (m : Int) := by omega
  have HR := Lib.hid hr
  have HM := Lib.hid hmm
  clear hr hm hmm h
  go_enter Tryz.func26, Tryz.ntmps26
  go_wp2_with fail
  refine (in_calls slots true w h1).mono ?_
  rintro e w1 ⟨rfl, rfl⟩
  go_wp2_with fail
  refine (in_calls room true w h2).mono ?_
  rintro e w1 ⟨rfl, rfl⟩
  go_wp2_with fail
  refine (dlen_calls d L D w hD).mono ?_
  rintro e w1 ⟨rfl, rfl⟩
  have hN := Blk.new w (stV d room none 0 0 false) 127
  unfold stV at hN
  go_wp2_with fail
  have Hsl := Lib.hid hs
  have HDD := Lib.hid hD
  have HN := Lib.hid hN; have HT := Lib.hid hT; have HN0 := Lib.hid hN0
  clear hs hD hN q1 q2 h1 h2 hT hN0
  go_loopw [38] (fun v wr => ∃ i : Nat, i ≤ slots ∧ v = .int .i64 i ∧ (readAll room D i).2.1 = 0 ∧ (∃ la lc, Blk wr w.heap.size (stV d room la i lc false) 127 ∧ OwnRecs 5 129 wr (w.heap.size + 1) (.slice la i lc) (readAll room D i).1) ∧ IsDisk wr d L (readAll room D i).2.2 ∧ w.heap.size + 1 ≤ wr.heap.size ∧ (readAll room D i).2.2.writes ≤ D.writes + i ∧ (readAll room D i).2.2.n = D.n ∧ Chg (fun b => b = d ∨ b = L) w wr) (fun v _ => slots - (intOf v).toNat)
  case atStart => exact ⟨0, by omega, rfl, rfl, ⟨none, 0, HN.out, OwnRecs.nil _ _ _ _⟩, HDD.out.below ((Below.refl _ _).alloc (Nat.le_refl _) _), by simp, by simp [readAll], rfl, Chg.of_below ((Below.refl _ _).alloc (Nat.le_refl _) _)⟩
  case round => as_aux_lemma =>
    obtain ⟨i, hi, rfl, h0, ⟨la, lc, hB, hO⟩, hDi, hsz, hw, hn, hcw⟩ := hrel
    by_cases hlt : i < slots
    · have i0 : (0 : Int) ≤ (i : Int) := by omega
      have i1 : (i : Int) < (slots : Int) := by omega
      have hin : (i + 1) * (room + 1) ≤ (readAll room D i).2.2.n := by
        rw [hn, show D.n = slots * (room + 1) from by have := HM.out; omega]
        exact Nat.mul_le_mul_right _ hlt
      have hlD := HDD.out.lt
      have hr2 := HR.out
      have hs2 := Hsl.out
      have hlen := readAll_len room D i h0
      have HO := Lib.hid hO; have HCW := Lib.hid hcw; have HLEN := Lib.hid hlen
      have RC := read_calls w.heap.size d L room i lc i la false (readAll room D i).2.2 wr hB hDi ⟨by omega, by omega⟩ (Nat.le_refl _) (by omega) (by omega) (by omega) hin (by omega)
      obtain ⟨q, hq⟩ : ∃ q, q = readR (readAll room D i).2.2 room i := ⟨_, rfl⟩
      unfold ReadPost recV at RC
      rw [← hq] at RC
      obtain ⟨⟨qis, qname, qnum, qdata⟩, qe, qw⟩ := q
      simp only at RC
      have HQ := Lib.hid hq
      have Hw := Lib.hid hw; have Hn := Lib.hid hn; have Hlt := Lib.hid hlD
      clear hin hr2 hs2 hlD hq hO hcw hw hn hlen
      go_wp2_with fail
      refine RC.mono ?_
      clear RC
      rintro e w3 ⟨dv, rfl, hod, hB3, hD3, hc3⟩
      obtain ⟨da, dc, rfl⟩ := hod.eq_slice
      have HC := Lib.hid hc3
      have HB3 := Lib.hid hB3; have HD3 := Lib.hid hD3; have HO3 := Lib.hid hod
      by_cases he : qe = 0
      · as_aux_lemma =>
        subst he
        clear hc3 hB3 hD3 hod
        go_wp2_with fail
        have hs3 : wr.heap.size ≤ w3.heap.size := HC.out.size
        have hnext : readAll room D (i + 1) = ((readAll room D i).1 ++ [⟨qis, qname, qnum, qdata⟩], 0, if qw = true then (readAll room D i).2.2.wr ((i * (room + 1) : Nat) : Int) [0] else (readAll room D i).2.2) := by
          rw [readAll]
          simp only [h0, ne_eq, not_true_eq_false, if_false]
          rw [← HQ.out]
          rfl
        have HNX := Lib.hid hnext
        have hO3 := HO.out.chg HC.out (fun g hg hS => by
          have := Hlt.out
          unfold Tri at hS
          omega)
        obtain ⟨vs, hv1, hv2, hv3⟩ := hO3
        have HV1 := Lib.hid hv1; have HV2 := Lib.hid hv2; have HV3 := Lib.hid hv3
        obtain ⟨rb, hrb⟩ : ∃ b, b = w3.heap.size := ⟨_, rfl⟩
        obtain ⟨wa, hwa⟩ : ∃ wa, wa = w3.alloc (.cells #[.bool qis, .string qname, .int .i64 (qnum : Int), .slice da qdata.length dc] 129) := ⟨_, rfl⟩
        have hRB : Blk wa rb #[.bool qis, .string qname, .int .i64 (qnum : Int), .slice da qdata.length dc] 129 := by rw [hwa, hrb]; exact Blk.new _ _ _
        have hSB : Blk wa w.heap.size (stV d room la i lc false) 127 := by
          rw [hwa]
          have := HB3.out.alloc (.cells #[.bool qis, .string qname, .int .i64 (qnum : Int), .slice da qdata.length dc] 129)
          simpa using this
        have hba : Below w3.heap.size w3 wa := by rw [hwa]; exact (Below.refl _ _).alloc (Nat.le_refl _) _
        have hca : Chg (fun b => w.heap.size ≤ b) w3 wa := Chg.of_below hba
        have hvi : vs.length = i := hv1.trans HLEN.out
        have hva : wa.ownsRow (w.heap.size + 1) 129 4 (.slice la i lc) i (recsV (readAll room D i).1 vs) := by
          have := own_chg hv2 (Chg.of_below hba (S := fun _ => False)) (fun _ _ h => h)
          rw [HLEN.out] at this
          exact this
        have hlt : ∀ q, (Value.slice la i lc).ownBlock = some q → w.heap.size + 1 ≤ q ∧ q < w3.heap.size := fun q hq => hv2.lt q hq
        have hn1 : (Value.slice la i lc).ownBlock ≠ some w.heap.size := fun e => by have := hlt _ e; omega
        have hn2 : (Value.slice la i lc).ownBlock ≠ some rb := fun e => by have := hlt _ e; omega
        have hbase : w.heap.size + 1 ≤ wa.heap.size := by have := hba.size; omega
        have hod2 : OwnX 5 w3 (w.heap.size + 1) (.slice da qdata.length dc) qdata := HO3.out.mono hsz
        have Hlt2 := Lib.hid hlt; have Hn1 := Lib.hid hn1; have Hn2 := Lib.hid hn2; have HOD := Lib.hid hod2; have HRB := Lib.hid hRB; have HSB := Lib.hid hSB; have HBA := Lib.hid hba; have HCA := Lib.hid hca; have HVA := Lib.hid hva
        have s2 : wa.cell? ⟨w.heap.size, 2, none⟩ = some (.slice la i lc) := hSB.cell 2
        have s2' : ∀ o, (wa.alloc o).cell? ⟨w.heap.size, 2, none⟩ = some (.slice la i lc) := fun o => (hSB.alloc o).cell 2
        have r0 : wa.cell? ⟨rb, 0, none⟩ = some (.bool qis) := hRB.cell 0
        have r1 : wa.cell? ⟨rb, 1, none⟩ = some (.string qname) := hRB.cell 1
        have r2 : wa.cell? ⟨rb, 2, none⟩ = some (.int .i64 (qnum : Int)) := hRB.cell 2
        have r3 : wa.cell? ⟨rb, 3, none⟩ = some (.slice da qdata.length dc) := hRB.cell 3
        have hh0 : wa.cell? ⟨w.heap.size, 2, none⟩ = some (.slice la i lc) ∧ wa.cell? ⟨rb, 0, none⟩ = some (.bool qis) ∧ wa.cell? ⟨rb, 1, none⟩ = some (.string qname) ∧ wa.cell? ⟨rb, 2, none⟩ = some (.int .i64 (qnum : Int)) ∧ wa.cell? ⟨rb, 3, none⟩ = some (.slice da qdata.length dc) := ⟨s2, r0, r1, r2, r3⟩
        have hone : ∀ u ∈ [Value.bool qis, .string qname, .int .i64 (qnum : Int), .slice da qdata.length dc], u.oneCell' = true := by simp [Value.oneCell']
        have hi32 : i + 1 ≤ 4294967296 := by have := Hsl.out; omega
        rw [← hrb, ← hwa]
        clear hwa hRB hSB hba hca hva hlt hn1 hn2 hod2 hrb hv1 hv2 hv3 hnext
        go_region_law
          (first
            | (refine stepAppK EKr (by rfl) _ _ (by rfl) (base := w.heap.size + 1) (v := .slice la i lc) (n := i) (xs := recsV (readAll room D i).1 vs) [.bool qis, .string qname, .int .i64 (qnum : Int), .slice da qdata.length dc] (by rfl) (by rfl) (by rfl) (by exact new_news rfl) hone (by exact HVA.out.alloc _) hi32 (by decide) (by simp <;> omega) ?_
               intro v1 x1 hv1' hg1
               obtain ⟨a1, cp1, rfl, _⟩ := own_eq_slice hv1'
               have hB1 : Blk x1 w.heap.size (stV d room la i lc false) 127 := Blk.grown' (by exact HSB.out.alloc _) hg1 Hn1.out
               have hR1 : Blk x1 rb #[.bool qis, .string qname, .int .i64 (qnum : Int), .slice da qdata.length dc] 129 := Blk.grown' (by exact HRB.out.alloc _) hg1 Hn2.out
               have hh : x1.cell? ⟨w.heap.size, 2, none⟩ = some (.slice la i lc) ∧ x1.cell? ⟨rb, 0, none⟩ = some (.bool qis) ∧ x1.cell? ⟨rb, 1, none⟩ = some (.string qname) ∧ x1.cell? ⟨rb, 2, none⟩ = some (.int .i64 (qnum : Int)) ∧ x1.cell? ⟨rb, 3, none⟩ = some (.slice da qdata.length dc) := ⟨hB1.cell 2, hR1.cell 0, hR1.cell 1, hR1.cell 2, hR1.cell 3⟩
               have f2 : x1.frozen? ⟨w.heap.size, 2, none⟩ = false := hB1.free 2
               have hxc : Chg (fun b => w.heap.size ≤ b) w3 x1 := Chg.grown (HCA.out.trans (Chg.of_below ((Below.refl _ _).drew.alloc (by exact Nat.le_refl _) _))) hg1 (fun q hq => .inl (by have := Hlt2.out q hq; omega))
               have hpu : OwnRecs 5 129 x1 (w.heap.size + 1) (.slice a1 (i + 1) cp1) ((readAll room D i).1 ++ [⟨qis, qname, qnum, qdata⟩]) := push_at (by decide) HV1.out HV2.out HV3.out HOD.out (HBA.out.trans (((Below.refl _ _).drew.alloc (by exact Nat.le_refl _) _).mono HBA.out.size)) (by rw [HLEN.out]; exact hv1') hg1))
        all_goals
          go_wp2_with fail
          have hfin : Chg (fun b => w.heap.size ≤ b) w3 (x1.setCell ⟨w.heap.size, 2, none⟩ (.slice a1 (i + 1) cp1)) := hxc.set (a := ⟨w.heap.size, 2, none⟩) (Nat.le_refl _) _
          refine ⟨⟨i + 1, by omega, by go_num, by rw [HNX.out], ⟨a1, cp1, hB1.set 2 (.slice a1 (i + 1) cp1), by rw [HNX.out]; exact hpu.chg (S := fun b => b = w.heap.size) (chg1 _ _ _ _) (fun g hg e => by omega)⟩,
            by rw [HNX.out]; exact HD3.out.chg hfin (fun h => by have := Hlt.out; omega) (fun h => by have := Hlt.out; omega), by have := hfin.size; omega, by have := readAll_writes room D (i + 1); omega, readAll_n room D (i + 1),
            (HCW.out.mix HC.out (fun k hk => by unfold Tri at hk; omega)).mix hfin (fun k hk => .inr hk)⟩, by simp [intOf] <;> omega⟩
      · as_aux_lemma =>
        have HE := Lib.hid (show openR D slots room = (qe, if qw = true then (readAll room D i).2.2.wr ((i * (room + 1) : Nat) : Int) [0] else (readAll room D i).2.2, none) from by
          have hst : readAll room D (i + 1) = ((readAll room D i).1, qe, if qw = true then (readAll room D i).2.2.wr ((i * (room + 1) : Nat) : Int) [0] else (readAll room D i).2.2) := by
            rw [readAll]
            simp only [h0, ne_eq, not_true_eq_false, if_false]
            rw [← HQ.out]
            simp only [he, not_false_eq_true, if_true]
          have hall : readAll room D slots = readAll room D (i + 1) := by
            have := readAll_err room D (k := i + 1) (by rw [hst]; exact he) (slots - (i + 1))
            rw [← this]
            congr 1
            omega
          unfold openR
          rw [hall, hst]
          simp only [ne_eq, he, not_false_eq_true, if_true])
        have HSZ := Lib.hid hsz
        go_wp2_with fail
        go_ret2
        refine ⟨_, by rw [HE.out] <;> rfl, ?_, ?_, .inl ⟨by rw [HE.out], rfl⟩⟩
        · exact (HCW.out.mix HC.out (fun k hk => by unfold Tri at hk; have := HSZ.out; omega)).mix (T := fun _ => False) (Chg.of_below ((Below.refl _ _).alloc (Nat.le_refl _) _)) (fun _ h => h.elim)
        · rw [HE.out]
          exact HD3.out.below ((Below.refl _ _).alloc (Nat.le_refl _) _)
    · as_aux_lemma =>
      obtain rfl : slots = i := by omega
      have hlen := readAll_len room D slots h0
      have hsm := readAll_small room D slots
      have hwr := readAll_writes room D slots
      have hsl := Hsl.out; have hrm := HR.out; have hl3 := HDD.out.lt; have hn0 := HN0.out
      obtain ⟨l, hl⟩ : ∃ l, l = (readAll room D slots).1 := ⟨_, rfl⟩
      obtain ⟨D1, hD1⟩ : ∃ E, E = (readAll room D slots).2.2 := ⟨_, rfl⟩
      rw [← hl] at hO hlen hsm
      rw [← hD1] at hDi hw hn hwr
      have hpos : 0 < l.length := by omega
      obtain ⟨lb, cap, e, hc1, hc2, hlb, hRA⟩ := OwnRecs.recsAt (l := l) hO hpos (by decide) (fun b => N0 b ∨ b = w.heap.size) (fun b hb => by
        rcases hb with hb | hb
        · have := hn0.2.2.2 b hb; omega
        · omega)
      injection e with e1 e2 e3
      subst e1 e3
      have hgT : gT < w.heap.size := HT.out.lt
      have hmx : lc ≤ 9223372036854775807 := by unfold maxLen at hc2; omega
      have hI : IsStore wr (fun b => N0 b ∨ b = w.heap.size ∨ b = lb) w.heap.size lb d L ⟨room, l, false, D1⟩ :=
        { blk := ⟨lc, by rw [hlen]; exact hB, hc1, hmx⟩
          recs := hRA.mono fun b hb => .inl (by rcases hb with h | h | h; exact .inl (.inl h); exact .inl (.inr h); exact .inr h)
          disk := hDi
          tab := HT.out.chg hcw (fun h => by rcases h with h | h; exact hn0.1 (h ▸ hn0.2.1); exact hn0.1 (h ▸ hn0.2.2.1))
          ntab := fun h => by rcases h with h | h | h; exact hn0.1 h; omega; omega
          foot := fun b hb => by rcases hb with h | h | h | h; exact .inr (.inl h); exact .inr (.inr h); exact .inl (h ▸ hn0.2.1); exact .inl (h ▸ hn0.2.2.1)
          ne := ⟨by omega, by omega, by omega, by omega, by omega⟩
          ok := ⟨by show 1 ≤ room; omega, by show room ≤ 1024; omega, hpos, by show l.length ≤ 1024; omega, by show D1.n = l.length * (room + 1); rw [hn, hlen]; have := HM.out; omega, fun r hr => by have := hsm r hr; unfold Small at this; simp only; omega, by show D1.writes ≤ 72057594037927936; omega⟩
          old := fun b hb => by
            have := hcw.size
            rcases hb with h | h | h
            · have := hn0.2.2.2 b h; omega
            · rw [h]; omega
            · rw [h]; exact hRA.lt }
      have hw1 : D1.writes < 72057594037920000 + 1024 := by omega
      obtain ⟨s0, hs0⟩ : ∃ s0 : St, s0 = ⟨room, l, false, D1⟩ := ⟨_, rfl⟩
      rw [← hs0] at hI
      have hopen : openR D slots room = if (keepBest s0 slots).1 ≠ 0 then ((keepBest s0 slots).1, (keepBest s0 slots).2.disk, none) else (0, (keepBest s0 slots).2.disk, some (keepBest s0 slots).2) := by
        unfold openR
        simp only [h0, ne_eq, not_true_eq_false, if_false]
        rw [hs0, hl, hD1]
      have hsz0 : s0.recs.length = slots := by rw [hs0]; exact hlen
      have hsw : s0.disk.writes < 72057594037920000 + 1024 := by rw [hs0]; exact hw1
      have c2 : wr.cell? ⟨w.heap.size, 2, none⟩ = some (.slice (some ⟨lb, 0, none⟩) slots lc) := hB.cell 2
      have HI := Lib.hid hI; have HOP := Lib.hid hopen; have HSZ := Lib.hid hsz0; have HSW := Lib.hid hsw; have HCW := Lib.hid hcw; have HLB := Lib.hid (show w.heap.size < lb from hlb)
      have HL3 := Lib.hid hl3
      clear hI hopen hsz0 hsw hcw hlb hw1 hs0 hD1 hl hRA hc1 hc2 hmx hgT hO hB hDi hw hn hlen hsm hwr hsl hrm hl3 hn0 hpos h0 e2 hsz
      go_wp2_with fail
      go_loopw [66] (fun v wx => ∃ k : Nat, k ≤ slots ∧ v = .int .i64 k ∧ (keepBest s0 k).1 = 0 ∧ IsStore wx (fun b => N0 b ∨ b = w.heap.size ∨ b = lb) w.heap.size lb d L (keepBest s0 k).2 ∧ Chg (fun b => b = d ∨ b = L) w wx) (fun v _ => slots - (intOf v).toNat)
      case atStart => exact ⟨0, by omega, rfl, rfl, HI.out, HCW.out⟩
      case round => as_aux_lemma =>
        obtain ⟨k, hk, rfl, hk0, hIk, hck⟩ := hrel
        by_cases hlt : k < slots
        · have hkl : (keepBest s0 k).2.recs.length = slots := (keepBest_len s0 k).1.trans HSZ.out
          have hkw := keep_writes s0 k
          obtain ⟨s, hs⟩ : ∃ s, s = (keepBest s0 k).2 := ⟨_, rfl⟩
          rw [← hs] at hIk hkl hkw
          obtain ⟨r, hr⟩ : ∃ r, s.recs[k]? = some r := ⟨s.recs[k]'(by omega), by simp⟩
          obtain ⟨a, c, c3, c4, c5, c6, _, _⟩ := hIk.recs.at hr
          have i0 : (0 : Int) ≤ (k : Int) := by omega
          have i1 : (k : Int) < (slots : Int) := by omega
          have hk32 : k + 1 ≤ 4294967296 := by have := Hsl.out; omega
          have HIK := Lib.hid hIk; have HCK := Lib.hid hck; have HR' := Lib.hid hr; have HS := Lib.hid hs; have HKL := Lib.hid hkl; have HKW := Lib.hid hkw
          clear hIk hck hr hs hkl hkw
          go_wp2_with fail
          obtain ⟨wb, hwb⟩ : ∃ wb, wb = wr.alloc (.cells (recV r (.slice a r.data.length c)) 129) := ⟨_, rfl⟩
          obtain ⟨bx, hbxe⟩ : ∃ bx, bx = wr.heap.size := ⟨_, rfl⟩
          have hbx : Blk wb bx (recV r (.slice a r.data.length c)) 129 := by rw [hwb, hbxe]; exact Blk.new _ _ _
          have hbb : Below wr.heap.size wr wb := by rw [hwb]; exact (Below.refl _ _).alloc (Nat.le_refl _) _
          rw [show (wr.alloc (.cells #[.bool r.is, .string r.name, .int .i64 (r.num : Int), .slice a r.data.length c] 129)) = wb from hwb.symm, ← hbxe]
          have hIb := HIK.out.below hbb
          obtain ⟨cp, hBb, hcp1, hcp2⟩ := hIb.blk
          have hck2 : Chg (fun b => b = d ∨ b = L) w wb := HCK.out.mix (T := fun _ => False) (Chg.of_below hbb) (fun _ h => h.elim)
          have HIB := Lib.hid hIb; have HCB := Lib.hid hck2
          clear hwb hbb hck2 hbxe
          refine (best_calls _ w.heap.size lb d s.recs.length cp s.room s.dead s.recs r.name wb hBb hIb.recs rfl (by have := hIb.ok.len2; omega) hcp1 hcp2 (fun r' h' => by have := hIb.ok.each r' h'; have := hIb.ok.few; omega)).mono ?_
          clear hIb hBb hcp1 hcp2
          rintro e w4 ⟨rfl, hb4⟩
          have hI4 := HIB.out.below hb4
          have d0 : w4.cell? ⟨bx, 0, none⟩ = some (.bool r.is) := (hbx.kept hb4).cell 0
          have hc4 : Chg (fun b => b = d ∨ b = L) w w4 := HCB.out.mix (T := fun _ => False) (Chg.of_below hb4) (fun _ h => h.elim)
          obtain ⟨o, ho⟩ : ∃ o, o = Sto.best s.recs r.name s.recs.length := ⟨_, rfl⟩
          have hkb : keepBest s0 (k + 1) = if r.is = true ∧ o ≠ some k then (s.freeE k, s.freeS k) else keepBest s0 k := by
            rw [keepBest]
            simp only [hk0, ne_eq, not_true_eq_false, if_false]
            rw [← HS.out, HR'.out]
            simp only
            rw [← ho]
          rw [← ho]
          have HI4 := Lib.hid hI4; have HC4 := Lib.hid hc4; have HKB := Lib.hid hkb
          clear hI4 hc4 hkb hbx hb4 c3 c4 c5 c6 ho
          obtain ⟨z, hz⟩ : ∃ z, z = optI o := ⟨_, rfl⟩
          rw [← hz]
          by_cases his : r.is = true
          · by_cases hok : o = some k
            · as_aux_lemma =>
              have t1 : (z == (k : Int)) = true := by rw [hz, hok]; simp [optI]
              have hnx : keepBest s0 (k + 1) = keepBest s0 k := by rw [HKB.out, if_neg (fun h => h.2 hok)]
              have HNX := Lib.hid hnx
              rw [his] at d0
              clear his hok hz hnx
              go_wp2
              exact ⟨⟨k + 1, by omega, by go_num, by rw [HNX.out]; exact hk0, by rw [HNX.out, ← HS.out]; exact HI4.out, HC4.out⟩, by simp [intOf] <;> omega⟩
            · as_aux_lemma =>
              have t1 : (z == (k : Int)) = false := by
                rw [hz]
                cases o with
                | none => simp [optI] <;> omega
                | some q => simp [optI]; intro e; exact hok (by rw [Int.ofNat.inj e])
              have hnx : keepBest s0 (k + 1) = (s.freeE k, s.freeS k) := by rw [HKB.out, if_pos ⟨his, hok⟩]
              have HNX := Lib.hid hnx
              rw [his] at d0
              clear his hok hz hnx
              go_wp2_with fail
              refine (free_at _ w.heap.size lb d L k s w4 HI4.out (by have := HKL.out; omega) (by have := HKW.out; have := HSW.out; have := Hsl.out; omega)).mono ?_
              rintro e w5 ⟨rfl, hI5, hc5⟩
              have hc5' : Chg (fun b => b = d ∨ b = L) w w5 := HC4.out.mix hc5 (fun q hq => by have := HLB.out; unfold Foot at hq; omega)
              have HI5 := Lib.hid hI5; have HC5 := Lib.hid hc5'
              clear hI5 hc5 hc5'
              obtain ⟨fe, hfe⟩ : ∃ x, x = s.freeE k := ⟨_, rfl⟩
              rw [← hfe]
              have HFE := Lib.hid hfe
              clear hfe
              by_cases hE : fe = 0
              · subst hE
                go_wp2
                exact ⟨⟨k + 1, by omega, by go_num, by rw [HNX.out]; exact HFE.out.symm, by rw [HNX.out]; exact HI5.out, HC5.out⟩, by simp [intOf] <;> omega⟩
              · have HE := Lib.hid (show openR D slots room = (fe, (s.freeS k).disk, none) from by
                  have hall : keepBest s0 slots = (fe, s.freeS k) := by
                    have := keepBest_err s0 (k := k + 1) (by rw [HNX.out]; simpa [← HFE.out] using hE) (slots - (k + 1))
                    rw [show k + 1 + (slots - (k + 1)) = slots from by omega] at this
                    rw [this, HNX.out, HFE.out]
                  rw [HOP.out, hall, if_pos hE])
                go_wp2_with fail
                go_ret2
                exact ⟨_, by rw [HE.out] <;> rfl, HC5.out, by rw [HE.out]; exact HI5.out.disk, .inl ⟨by rw [HE.out], rfl⟩⟩
          · as_aux_lemma =>
            have his : r.is = false := by simpa using his
            have hnx : keepBest s0 (k + 1) = keepBest s0 k := by rw [HKB.out, if_neg (fun h => by rw [his] at h; exact absurd h.1 (by decide))]
            have HNX := Lib.hid hnx
            rw [his] at d0
            clear his hz hnx
            go_wp2
            exact ⟨⟨k + 1, by omega, by go_num, by rw [HNX.out]; exact hk0, by rw [HNX.out, ← HS.out]; exact HI4.out, HC4.out⟩, by simp [intOf] <;> omega⟩
        · as_aux_lemma =>
          obtain rfl : slots = k := by omega
          have HE := Lib.hid (show openR D slots room = (0, (keepBest s0 slots).2.disk, some (keepBest s0 slots).2) from by rw [HOP.out, hk0]; rfl)
          go_wp2
          go_ret2
          exact ⟨_, by rw [HE.out] <;> rfl, hck, by rw [HE.out]; exact hIk.disk, .inr ⟨_, lb, by rw [HE.out], rfl, HLB.out, hIk⟩⟩
end Go.Proofs.YtclhgokchcklbaaGreatDoor
end
section
namespace Go.Mem
open Go Go.RowKit Gf Go.Proofs.YtclhgokchcklbaaGreatDoor
theorem nDigits_3 {u : Nat} (h : u < 1000) : Lib.nDigits u ≤ 3 := by
  by_cases h1 : u < 10
  · rw [Lib.nDigits_small h1]; omega
  · rw [Lib.nDigits_big h1]
    by_cases h2 : u / 10 < 10
    · rw [Lib.nDigits_small h2]; omega
    · rw [Lib.nDigits_big h2, Lib.nDigits_small (by omega)]; omega
theorem text_le {name : ByteArray} {num : Nat} {data : List UInt8} (h1 : name.size < 1000) (h2 : data.length < 1000) : (Sto.text name num data).length ≤ name.size + data.length + 17 := by
  have e1 : name.data.toList.length = name.size := Array.length_toList
  have d1 := nDigits_3 (u := name.size) h1
  have d2 := nDigits_3 h2
  have d3 : Lib.nDigits 4 = 1 := Lib.nDigits_small (by decide)
  simp only [Sto.text, Cod.nets, List.length_append, Cod.net_len, Cod.be_len, List.length_nil, e1, d3]
  omega
theorem fits_of {room : Nat} {name : ByteArray} {data : List UInt8} (h1 : name.size < 1000) (h2 : data.length < 1000) (h : name.size + data.length + 17 ≤ room * 32) : fitsB room name data = true := by
  have := text_le (num := 0) h1 h2
  unfold fitsB
  simp only [Bool.and_eq_true, decide_eq_true_eq]
  omega
def liveN (l : List Sto.Rec) : Nat := l.countP fun r => r.is
theorem slot_of_live {l : List Sto.Rec} (h : liveN l < l.length) : Sto.slot l < l.length := by
  unfold Sto.slot
  rw [List.findIdx_lt_length]
  exact Classical.byContradiction fun hn => by
    have : liveN l = l.length := by
      unfold liveN
      rw [List.countP_eq_length]
      intro a ha
      exact Classical.byContradiction fun h' => hn ⟨a, ha, by simpa using h'⟩
    omega
theorem live_free (n : Nat) : liveN (List.replicate n Sto.Rec.free) = 0 := by
  unfold liveN
  rw [List.countP_eq_zero]
  intro a ha
  rw [(List.mem_replicate.1 ha).2]; simp [Sto.Rec.free]
theorem live_set {l : List Sto.Rec} {t : Nat} (ht : t < l.length) (r : Sto.Rec) : liveN (l.set t r) + (if (l[t]).is = true then 1 else 0) = liveN l + (if r.is = true then 1 else 0) := by
  unfold liveN
  rw [List.countP_set ht]
  have : (if (l[t]).is = true then 1 else 0) ≤ List.countP (fun r => r.is) l := by
    split
    · rename_i h
      exact List.countP_pos_iff.2 ⟨l[t], by simp, h⟩
    · exact Nat.zero_le _
  omega
theorem live_putL {l : List Sto.Rec} (ht : Sto.slot l < l.length) (name : ByteArray) (data : List UInt8) : liveN (putL l name data) = liveN l + 1 := by
  have h0 : l[Sto.slot l]? = some l[Sto.slot l] := by simp [ht]
  have := live_set ht ⟨true, name, Sto.nextNum l name, data⟩
  rw [slot_not h0] at this
  simpa [putL] using this
theorem live_putF {l : List Sto.Rec} (ht : Sto.slot l < l.length) (name : ByteArray) (data : List UInt8) : liveN (putF l name data) = liveN l + (if (Sto.best l name l.length).isSome = true then 0 else 1) := by
  have h0 : l[Sto.slot l]? = some l[Sto.slot l] := by simp [ht]
  have h1 := live_putL ht name data
  unfold putF
  cases hb : Sto.best l name l.length with
  | none => simpa using h1
  | some k =>
    obtain ⟨rk, a, b, c⟩ := (Sto.best_top l name l.length).1 k hb
    have e : Sto.slot l ≠ k := fun e => by have h2 := b.1; rw [← e, h0] at h2; cases h2; exact absurd (b.2.1.symm.trans (slot_not h0)) (by simp)
    have hk : (putL l name data)[k]? = some rk := by unfold putL; rw [List.getElem?_set_ne e]; exact b.1
    have hkl : k < (putL l name data).length := by unfold putL; rw [List.length_set]; exact a
    have h2 := live_set hkl Sto.Rec.free
    rw [List.getElem?_eq_getElem hkl] at hk
    rw [Option.some.inj hk, b.2.1] at h2
    rw [if_pos rfl, show Sto.Rec.free.is = false from rfl] at h2
    simp only [Bool.false_eq_true, if_false] at h2
    simp only [Option.isSome_some, if_true]
    omega
end Go.Mem
namespace Go.Mem
open Go Go.RowKit Gf
theorem mem_namesK (l : List Sto.Rec) (x : List UInt8) : ∀ k, x ∈ namesK l k ↔ ∃ i r, i < k ∧ l[i]? = some r ∧ r.is = true ∧ r.name.data.toList = x
  | 0 => by simp [namesK]
  | k + 1 => by
    have ih := mem_namesK l x k
    simp only [namesK]
    cases hr : l[k]? with
    | none =>
      simp only
      rw [ih]
      constructor
      · rintro ⟨i, r, h1, h2⟩; exact ⟨i, r, by omega, h2⟩
      · rintro ⟨i, r, h1, h2, h3⟩
        refine ⟨i, r, ?_, h2, h3⟩
        rcases Nat.lt_or_ge i k with h | h
        · exact h
        · obtain rfl : i = k := by omega
          rw [hr] at h2; cases h2
    | some q =>
      simp only
      split
      · rename_i hq
        rw [List.mem_append, ih, List.mem_singleton]
        constructor
        · rintro (⟨i, r, h1, h2⟩ | rfl)
          · exact ⟨i, r, by omega, h2⟩
          · exact ⟨k, q, by omega, hr, hq, rfl⟩
        · rintro ⟨i, r, h1, h2, h3, h4⟩
          rcases Nat.lt_or_ge i k with h | h
          · exact .inl ⟨i, r, h, h2, h3, h4⟩
          · obtain rfl : i = k := by omega
            rw [hr] at h2; cases h2
            exact .inr h4.symm
      · rename_i hq
        rw [ih]
        constructor
        · rintro ⟨i, r, h1, h2⟩; exact ⟨i, r, by omega, h2⟩
        · rintro ⟨i, r, h1, h2, h3, h4⟩
          rcases Nat.lt_or_ge i k with h | h
          · exact ⟨i, r, h, h2, h3, h4⟩
          · obtain rfl : i = k := by omega
            rw [hr] at h2; cases h2
            exact absurd h3 hq
theorem namesK_free_len (l : List Sto.Rec) : ∀ k, k ≤ l.length → (namesK l k).length + freeK l k = k
  | 0, _ => rfl
  | k + 1, h => by
    have ih := namesK_free_len l k (by omega)
    have hr : l[k]? = some l[k] := by simp
    simp only [namesK, freeK, hr]
    cases hq : l[k].is with
    | true => simp only [if_true, List.length_append, List.length_singleton, Bool.true_eq_false, if_false]; omega
    | false => simp only [Bool.false_eq_true, if_false, if_true]; omega
theorem namesK_live (l : List Sto.Rec) : ∀ k, k ≤ l.length → (namesK l k).length = ((l.take k).countP fun r => r.is)
  | 0, _ => by simp [namesK]
  | k + 1, h => by
    have ih := namesK_live l k (by omega)
    have hr : l[k]? = some l[k] := by simp
    rw [List.take_add_one, hr, List.countP_append]
    simp only [namesK, hr]
    cases hq : l[k].is with
    | true => simp only [if_true, List.length_append, List.length_singleton, ih]; simp [hq]
    | false => simp only [Bool.false_eq_true, if_false, ih]; simp [hq]
theorem names_live (l : List Sto.Rec) : (namesK l l.length).length = liveN l := by
  rw [namesK_live l _ (Nat.le_refl _), List.take_length]; rfl
theorem free_live (l : List Sto.Rec) : liveN l + freeK l l.length = l.length := by
  have := namesK_free_len l l.length (Nat.le_refl _)
  rw [names_live] at this
  exact this
end Go.Mem
end
section
namespace Go.Proofs.YtclhgokchcklbaaGreatDoor
open Go Go.RowKit Go.Mem Gf Go.Sort
section
variable {w w' : World} {v : Value} {ss : List (List UInt8)}
end
attribute [local go_sem ↓] Go.wp_at_zero Go.wp_at_succ
end Go.Proofs.YtclhgokchcklbaaGreatDoor
end
section
namespace Go.Mem
open Go Go.RowKit Gf Go.Proofs.YtclhgokchcklbaaGreatDoor
theorem St.get_look {s : St} (h : s.dead = false) (name : ByteArray) : s.get name = Sto.look s.recs name := by
  unfold St.get Sto.look
  rw [if_neg (by simp [h])]
structure SGood (m : Nat) (s : St) : Prop where
  holds : Holds s.disk s.room s.recs
  uniq : Sto.Uniq s.recs
  disk : s.disk.dead = false
  dead : s.dead = false
  bnd : Bnd m s.recs
  writes : s.disk.writes ≤ 2000 * m
  stops : s.disk.stops = false
  room : 1 ≤ s.room ∧ s.room ≤ 1000
theorem good_reopen {m : Nat} {D : DiskS} {room : Nat} {l : List Sto.Rec} (h : Holds D room l) (hm : Bnd m l) (hw : D.writes ≤ 2000 * m) (hl : l.length ≤ 500) (hr : 1 ≤ room ∧ room ≤ 1000) :
    ∃ l' D', Sto.Thin l l' ∧ openR D.start l.length room = (0, D', some ⟨room, l', false, D'⟩) ∧ SGood (m + 1) ⟨room, l', false, D'⟩ := by
  obtain ⟨l', a1, a2, a3, a4⟩ := open_law h.start rfl
  have hw2 := open_writes D.start l.length room
  have hw3 : D.start.writes = D.writes := rfl
  rcases a4 with ⟨b1, b2, b3, b4⟩ | ⟨_, b2, _⟩
  · refine ⟨l', (openR D.start l.length room).2.1, a1, by rw [← b3, ← b1], ⟨a2, b4, b2, rfl, ?_, by show (openR D.start l.length room).2.1.writes ≤ _; omega, a3, hr⟩⟩
    have := hm.thin a1
    exact fun r hr => Nat.le_succ_of_le (this r hr)
  · exact absurd b2 (by simp [DiskS.start])
end Go.Mem
namespace Go.Proofs.YtclhgokchcklbaaGreatDoor
open Go Go.RowKit Go.Mem Gf
def DL (d L : Nat) (b : Nat) : Prop := b = d ∨ b = L
structure Lab (w0 w : World) (d L : Nat) (D : DiskS) : Prop where
  disk : IsDisk w d L D
  bel : Below w0.heap.size w0 w
  d1 : w0.heap.size ≤ d
  l1 : w0.heap.size ≤ L
  tab : Tab w
structure LabS (w0 w : World) (sb lb d L : Nat) (s : St) : Prop where
  st : IsStore w (fun b => DL d L b ∨ b = sb ∨ b = lb) sb lb d L s
  bel : Below w0.heap.size w0 w
  d1 : w0.heap.size ≤ d
  l1 : w0.heap.size ≤ L
  s1 : w0.heap.size ≤ sb
  b1 : w0.heap.size ≤ lb
theorem Chg.far {S : Nat → Prop} {B : Nat} {w0 w w' : World} (h : Below B w0 w) (hc : Chg S w w') (hB : B ≤ w.heap.size) (hs : ∀ k, S k → B ≤ k) : Below B w0 w' := h.trans (hc.below hB hs)
theorem IsStore.redisk {w w' : World} {N : Nat → Prop} {sb lb d L : Nat} {s : St} {D : DiskS} (h : IsStore w N sb lb d L s) (hc : Chg (DL d L) w w') (hD : IsDisk w' d L D) (hn : D.n = s.disk.n) (hw : s.disk.writes ≤ D.writes) (hw2 : D.writes ≤ 72057594037927936) : IsStore w' N sb lb d L { s with disk := D } := by
  obtain ⟨cap, hB, a, b⟩ := h.blk
  have hne := h.ne
  have hs : ∀ k, DL d L k → k < w.heap.size → N k := fun k hk _ => by
    rcases hk with rfl | rfl
    · exact h.foot _ (.inr (.inr (.inl rfl)))
    · exact h.foot _ (.inr (.inr (.inr rfl)))
  exact ⟨⟨cap, hc.blk hB (fun hk => by rcases hk with e | e; exact hne.2.1 e; exact hne.2.2.1 e), a, b⟩, h.recs.chg hc (fun hk => by rcases hk with e | e; exact hne.2.2.2.1 e; exact hne.2.2.2.2 e) hs, hD,
    h.tab.chg hc (fun hk => h.ntab (hs _ hk h.tab.lt)), h.ntab, h.foot, h.ne, ⟨h.ok.room1, h.ok.room2, h.ok.len1, h.ok.len2, hn.trans h.ok.size, fun r hr => by have := h.ok.each r hr; simp only; omega, hw2⟩, fun b hb => Nat.lt_of_lt_of_le (h.old b hb) hc.size⟩
theorem Lab.chg {w0 w w' : World} {d L : Nat} {D D' : DiskS} (h : Lab w0 w d L D) (ht : gT ≠ d ∧ gT ≠ L) (hc : Chg (DL d L) w w') (hD : IsDisk w' d L D') : Lab w0 w' d L D' :=
  ⟨hD, Chg.far h.bel hc h.bel.size (fun k hk => by rcases hk with rfl | rfl; exact h.d1; exact h.l1), h.d1, h.l1, h.tab.chg hc (fun hk => by rcases hk with e | e; exact ht.1 e; exact ht.2 e)⟩
theorem lab_new (n : Nat) (w0 w : World) (hT0 : Tab w0) (hb : Below w0.heap.size w0 w) (h1 : 1 ≤ n) (h2 : n ≤ 4096) :
    Calls Tryz.prog 25 #[.int .i64 n] w fun e w' => ∃ d L, e = .returned (.tuple #[.pointer (some ⟨d, 0, none⟩), .int .i64 0]) ∧ Lab w0 w' d L (.fresh n) ∧ (gT ≠ d ∧ gT ≠ L) ∧ Below w.heap.size w w' := by
  refine (dnew_calls n w h1 h2).mono ?_
  rintro e w1 ⟨d, L, rfl, hD, hd1, hd2, hb1⟩
  have hs := hb.size
  have := hT0.lt
  exact ⟨d, L, rfl, ⟨hD, hb.trans (hb1.mono hs), by omega, by omega, (hT0.below hb).below hb1⟩, ⟨by omega, by omega⟩, hb1⟩
theorem lab_open {w0 w : World} {d L : Nat} {D : DiskS} (h : Lab w0 w d L D) (ht : gT ≠ d ∧ gT ≠ L) (slots room : Nat) (h1 : 1 ≤ slots ∧ slots ≤ 1024) (h2 : 1 ≤ room ∧ room ≤ 1024) (hn : D.n = slots * (room + 1)) (hfew : D.writes < 72057594037920000) :
    Calls Tryz.prog 26 #[.pointer (some ⟨d, 0, none⟩), .int .i64 slots, .int .i64 room] w fun e w' => ∃ p, e = .returned (.tuple #[p, .int .i64 (openR D slots room).1]) ∧ Chg (DL d L) w w' ∧ Lab w0 w' d L (openR D slots room).2.1 ∧
      (((openR D slots room).2.2 = none ∧ p = .pointer none) ∨ ∃ s sb lb, (openR D slots room).2.2 = some s ∧ p = .pointer (some ⟨sb, 0, none⟩) ∧ LabS w0 w' sb lb d L s) := by
  have hs := h.bel.size
  have hd := h.disk.lt
  refine (open_calls (DL d L) d L D slots room w h.tab ⟨fun hk => by rcases hk with e | e; exact ht.1 e; exact ht.2 e, .inl rfl, .inr rfl, fun b hb => by rcases hb with rfl | rfl; exact hd.1; exact hd.2⟩ h.disk (by simp; omega) (by simp; omega) hn hfew).mono ?_
  rintro e w1 ⟨p, rfl, hc, hD, hp⟩
  have hl := h.chg ht hc hD
  refine ⟨p, rfl, hc, hl, ?_⟩
  rcases hp with hp | ⟨s, lb, e1, e2, e3, e4⟩
  · exact .inl hp
  · exact .inr ⟨s, w.heap.size, lb, e1, e2, ⟨e4, hl.bel, h.d1, h.l1, hs, by omega⟩⟩
theorem lab_open_uniq {w0 w : World} {d L : Nat} {D : DiskS} (h : Lab w0 w d L D) (ht : gT ≠ d ∧ gT ≠ L) {slots room : Nat} {l : List Sto.Rec} (h1 : 1 ≤ slots ∧ slots ≤ 1024) (h2 : 1 ≤ room ∧ room ≤ 1024) (hfew : D.writes < 72057594037920000) (hl : l.length = slots) (hh : Holds D room l) (hd : D.dead = false) (hu : Sto.Uniq l) :
    Calls Tryz.prog 26 #[.pointer (some ⟨d, 0, none⟩), .int .i64 slots, .int .i64 room] w fun e w' => ∃ sb lb, e = .returned (.tuple #[.pointer (some ⟨sb, 0, none⟩), .int .i64 0]) ∧ LabS w0 w' sb lb d L ⟨room, l, false, D⟩ ∧ Chg (DL d L) w w' := by
  have ho := open_uniq hh hd hu
  rw [hl] at ho
  refine (lab_open h ht slots room h1 h2 (by rw [← hl]; exact hh.1) hfew).mono ?_
  rintro e w1 ⟨p, rfl, hc, _, hp⟩
  rw [ho] at hp ⊢
  rcases hp with ⟨h, _⟩ | ⟨s, sb, lb, e1, rfl, e3⟩
  · cases h
  · cases e1
    exact ⟨sb, lb, rfl, e3, hc⟩
end Go.Proofs.YtclhgokchcklbaaGreatDoor
namespace Go.Mem
open Go Go.RowKit Gf Go.Proofs.YtclhgokchcklbaaGreatDoor
theorem putF_look {l : List Sto.Rec} (ht : Sto.slot l < l.length) (name : ByteArray) (data : List UInt8) (nm : ByteArray) : Sto.look (putF l name data) nm = if nm = name then some data else Sto.look l nm := by
  rw [(putL_thin ht _ _).look, putL_look ht]
theorem putF_live {l : List Sto.Rec} (ht : Sto.slot l < l.length) (name : ByteArray) (data : List UInt8) : liveN (putF l name data) ≤ liveN l + 1 := by
  rw [live_putF ht]; split <;> omega
end Go.Mem
namespace Go.Proofs.YtclhgokchcklbaaGreatDoor
open Go Go.RowKit Go.Mem Gf
attribute [local go_sem ↓] Go.wp_at_zero Go.wp_at_succ
set_option maxRecDepth 100000 in
set_option maxHeartbeats 1000000 in
theorem cut8_two (v : Value) (bs : List UInt8) (n : Nat) (w0 w : World) (h0 : Bys w0 v bs) (h : Bys w v bs) :
    Calls Tryz.prog 14 #[v, .int .i64 n] w fun e w' => (∃ v', e = .returned v' ∧ Bys w0 v' (bs.take n)) ∧ w = w' := by
  have hl := h.len
  obtain ⟨a, cap, rfl, h1, h2, h3⟩ := id h
  obtain ⟨l, hl'⟩ : ∃ l, l = bs.length := ⟨_, rfl⟩
  rw [← hl'] at hl h h1 h0 ⊢
  have Hl := Lib.hid hl'; have H3 := Lib.hid h3; have H2 := Lib.hid h2; have H0 := Lib.hid h0; clear hl' h3 h2 h0
  by_cases hlt : n < l
  · go_enter Tryz.func14, Tryz.ntmps14
    go_wp2
    go_ret
    refine ⟨⟨_, rfl, ?_⟩, rfl⟩
    show Bys w0 (.slice a (min (l : Int) (n : Int)).toNat cap) _
    rw [show (min (l : Int) (n : Int)).toNat = n from by omega]
    exact H0.out.take n (by have := Hl.out; omega)
  · go_enter Tryz.func14, Tryz.ntmps14
    go_wp2
    go_ret
    refine ⟨⟨_, rfl, ?_⟩, rfl⟩
    show Bys w0 (.slice a (min (l : Int) (n : Int)).toNat cap) _
    rw [show (min (l : Int) (n : Int)).toNat = l from by omega, List.take_of_length_le (by have := Hl.out; omega)]
    exact H0.out
end Go.Proofs.YtclhgokchcklbaaGreatDoor
namespace Go.Mem
open Go Go.RowKit Gf Go.Proofs.YtclhgokchcklbaaGreatDoor
theorem best_of_some {l : List Sto.Rec} {nm : ByteArray} {x : List UInt8} (h : Sto.look l nm = some x) : ∃ k, Sto.best l nm l.length = some k := by
  unfold Sto.look at h
  cases hb : Sto.best l nm l.length with
  | none => rw [hb] at h; cases h
  | some k => exact ⟨k, rfl⟩
end Go.Mem
namespace Go.Proofs.YtclhgokchcklbaaGreatDoor
open Go Go.RowKit Go.Mem Gf
end Go.Proofs.YtclhgokchcklbaaGreatDoor
end
section
namespace Lea
structure Les where
  ix : List UInt8
  sec : List UInt8
  e : Int
def Rim (l : List Les) (c : Nat) : Prop := ∀ p x y, p = (c - 1) / 2 → l[p]? = some x → l[c]? = some y → x.e ≤ y.e
def HeapN (l : List Les) (n : Nat) : Prop := ∀ c, 0 < c → c < n → Rim l c
def Grand (l : List Les) (i n : Nat) : Prop := ∀ c x y, 0 < i → 0 < c → c < n → (c - 1) / 2 = i → l[(i - 1) / 2]? = some x → l[c]? = some y → x.e ≤ y.e
def swap (l : List Les) (i j : Nat) : List Les := match l[i]?, l[j]? with
  | some x, some y => (l.set i y).set j x
  | _, _ => l
theorem swap_len (l : List Les) (i j : Nat) : (swap l i j).length = l.length := by
  unfold swap
  split <;> simp
theorem swap_get {l : List Les} {i j : Nat} {x y : Les} (hx : l[i]? = some x) (hy : l[j]? = some y) (k : Nat) : (swap l i j)[k]? = if k = j then some x else if k = i then some y else l[k]? := by
  have hi : i < l.length := by
    rcases Nat.lt_or_ge i l.length with h | h
    · exact h
    · rw [List.getElem?_eq_none h] at hx; cases hx
  have hj : j < l.length := by
    rcases Nat.lt_or_ge j l.length with h | h
    · exact h
    · rw [List.getElem?_eq_none h] at hy; cases hy
  unfold swap
  rw [hx, hy]
  simp only [List.getElem?_set, List.length_set]
  by_cases h1 : k = j
  · subst h1; simp [hj]
  · have h1' : ¬ j = k := fun h => h1 h.symm
    by_cases h2 : k = i
    · subst h2; simp [h1, h1', hi]
    · have h2' : ¬ i = k := fun h => h2 h.symm
      simp [h1, h1', h2, h2']
theorem swap_perm (l : List Les) (i j : Nat) : (swap l i j).Perm l := by
  cases hx : l[i]? with
  | none => unfold swap; rw [hx]
  | some x =>
    cases hy : l[j]? with
    | none => unfold swap; rw [hx, hy]
    | some y =>
      have hi : i < l.length := by
        rcases Nat.lt_or_ge i l.length with h | h
        · exact h
        · rw [List.getElem?_eq_none h] at hx; cases hx
      have hj : j < l.length := by
        rcases Nat.lt_or_ge j l.length with h | h
        · exact h
        · rw [List.getElem?_eq_none h] at hy; cases hy
      unfold swap
      rw [hx, hy]
      simp only
      rw [List.getElem?_eq_getElem hi] at hx
      rw [List.getElem?_eq_getElem hj] at hy
      cases hx; cases hy
      exact List.set_set_perm hi hj
theorem down_step {l : List Les} {i0 i j n : Nat} {x y : Les} (hj : j = 2 * i + 1 ∨ j = 2 * i + 2) (hjn : j < n) (hx : l[i]? = some x) (hy : l[j]? = some y) (hlt : y.e < x.e)
    (hmin : ∀ c z, 0 < c → c < n → (c - 1) / 2 = i → l[c]? = some z → y.e ≤ z.e)
    (hinv : ∀ c, 0 < c → c < n → (c - 1) / 2 ≠ i → (c ≠ i0 ∨ i ≠ i0) → Rim l c) (hg : Grand l i n) :
    (∀ c, 0 < c → c < n → (c - 1) / 2 ≠ j → Rim (swap l i j) c) ∧ Grand (swap l i j) j n := by
  have hji : j ≠ i := by omega
  have hpj : (j - 1) / 2 = i := by omega
  have hget := swap_get hx hy
  refine ⟨fun c hc hcn hne p a b hp ha hb => ?_, fun c a b hj0 hc hcn hpc ha hb => ?_⟩
  · rw [hget] at ha hb
    by_cases h1 : c = j
    · -- the child itself
      subst h1
      rw [if_pos rfl] at hb
      have hpi : p = i := by omega
      rw [if_neg (by omega), if_pos hpi] at ha
      cases ha; cases hb
      omega
    · rw [if_neg h1] at hb
      by_cases h2 : c = i
      · subst h2
        rw [if_pos rfl] at hb
        cases hb
        rw [if_neg (by omega), if_neg (by omega)] at ha
        subst hp
        exact hg j a y hc (by omega) hjn hpj ha hy
      · rw [if_neg h2] at hb
        by_cases h3 : p = i
        · rw [if_neg (by omega), if_pos h3] at ha
          cases ha
          exact hmin c b hc hcn (by omega) hb
        · rw [if_neg (by omega), if_neg h3] at ha
          by_cases h4 : c = i0
          · by_cases h5 : i = i0
            · omega
            · exact hinv c hc hcn (by omega) (.inr h5) p a b hp ha hb
          · exact hinv c hc hcn (by omega) (.inl h4) p a b hp ha hb
  · rw [hget] at ha hb
    rw [hpj, if_neg (by omega), if_pos rfl] at ha
    cases ha
    rw [if_neg (by omega), if_neg (by omega)] at hb
    exact hinv c hc hcn (by omega) (by
      by_cases h : i = i0
      · left; omega
      · exact .inr h) j y b (by omega) hy hb
theorem down_end {l : List Les} {i0 i n : Nat} {x : Les} (hx : l[i]? = some x)
    (hmin : ∀ c z, 0 < c → c < n → (c - 1) / 2 = i → l[c]? = some z → x.e ≤ z.e)
    (hinv : ∀ c, 0 < c → c < n → (c - 1) / 2 ≠ i → (c ≠ i0 ∨ i ≠ i0) → Rim l c) : ∀ c, 0 < c → c < n → (c ≠ i0 ∨ i ≠ i0) → Rim l c := by
  intro c hc hcn h p a b hp ha hb
  by_cases hp2 : (c - 1) / 2 = i
  · subst hp
    rw [hp2, hx] at ha
    cases ha
    exact hmin c b hc hcn hp2 hb
  · exact hinv c hc hcn hp2 h p a b hp ha hb
theorem up_step {l : List Les} {i j n : Nat} {x y : Les} (hj : 0 < j) (hjn : j < n) (hi : i = (j - 1) / 2) (hx : l[i]? = some x) (hy : l[j]? = some y) (hlt : y.e < x.e)
    (hinv : ∀ c, 0 < c → c < n → c ≠ j → Rim l c) (hg : Grand l j n) :
    (∀ c, 0 < c → c < n → c ≠ i → Rim (swap l i j) c) ∧ Grand (swap l i j) i n := by
  have hji : i ≠ j := by omega
  have hget := swap_get hx hy
  refine ⟨fun c hc hcn hne p a b hp ha hb => ?_, fun c a b hi0 hc hcn hpc ha hb => ?_⟩
  · rw [hget] at ha hb
    rw [if_neg hne] at hb
    by_cases h1 : c = j
    · subst h1
      rw [if_pos rfl] at hb
      rw [if_neg (by omega), if_pos (by omega)] at ha
      cases ha; cases hb
      omega
    · rw [if_neg h1] at hb
      by_cases h2 : p = j
      · rw [if_pos h2] at ha
        cases ha
        exact hg c x b hj hc hcn (by omega) (by rw [← hi]; exact hx) hb
      · rw [if_neg h2] at ha
        by_cases h3 : p = i
        · rw [if_pos h3] at ha
          cases ha
          have := hinv c hc hcn h1 p x b hp (by rw [h3]; exact hx) hb
          omega
        · rw [if_neg h3] at ha
          exact hinv c hc hcn h1 p a b hp ha hb
  · rw [hget] at ha hb
    rw [if_neg (by omega), if_neg (by omega)] at ha
    have hix := hinv i hi0 (by omega) hji ((i - 1) / 2) a x rfl ha hx
    by_cases h1 : c = j
    · rw [if_pos h1] at hb
      cases hb
      exact hix
    · rw [if_neg h1, if_neg (by omega)] at hb
      have := hinv c hc hcn h1 i x b (by omega) hx hb
      omega
theorem up_end {l : List Les} {j n : Nat} (hinv : ∀ c, 0 < c → c < n → c ≠ j → Rim l c) (hj : ∀ x y, 0 < j → j < n → l[(j - 1) / 2]? = some x → l[j]? = some y → x.e ≤ y.e) : HeapN l n := by
  intro c hc hcn
  by_cases h : c = j
  · subst h
    intro p a b hp ha hb
    subst hp
    exact hj a b hc hcn ha hb
  · exact hinv c hc hcn h
theorem push_pre {l : List Les} (h : HeapN l l.length) (x : Les) : (∀ c, 0 < c → c < l.length + 1 → c ≠ l.length → Rim (l ++ [x]) c) ∧ Grand (l ++ [x]) l.length (l.length + 1) := by
  refine ⟨fun c hc hcn hne p a b hp ha hb => ?_, fun c a b h0 hc hcn hpc _ _ => by omega⟩
  rw [List.getElem?_append_left (by omega)] at ha hb
  exact h c hc (by omega) p a b hp ha hb
theorem fix_pre {l : List Les} {n k : Nat} (h : HeapN l n) (hk : k < n) (hn : n ≤ l.length) (y : Les) : (∀ c, 0 < c → c < n → (c - 1) / 2 ≠ k → c ≠ k → Rim (l.set k y) c) ∧ Grand (l.set k y) k n := by
  refine ⟨fun c hc hcn hpc hck p a b hp ha hb => ?_, fun c a b h0 hc hcn hpc ha hb => ?_⟩
  · rw [List.getElem?_set_ne (by omega)] at ha hb
    exact h c hc hcn p a b hp ha hb
  · rw [List.getElem?_set_ne (by omega)] at ha hb
    have hz : l[k]? = some (l[k]'(by omega)) := by simp
    have h1 := h k h0 hk _ _ _ rfl ha hz
    have h2 := h c hc hcn k _ _ hpc.symm hz hb
    omega
structure DInv (N n i0 : Nat) (l m : List Les) (k : Nat) : Prop where
  len : m.length = N
  perm : m.Perm l
  tail : ∀ q, n ≤ q → m[q]? = l[q]?
  rim : ∀ c, 0 < c → c < n → (c - 1) / 2 ≠ k → (c ≠ i0 ∨ k ≠ i0) → Rim m c
  grand : Grand m k n
  ge : i0 ≤ k
  same : k = i0 → m = l
theorem DInv.step {N n i0 : Nat} {l m : List Les} {k j : Nat} {x y : Les} (h : DInv N n i0 l m k) (hj : j = 2 * k + 1 ∨ j = 2 * k + 2) (hjn : j < n) (hx : m[k]? = some x) (hy : m[j]? = some y) (hlt : y.e < x.e)
    (hmin : ∀ c z, 0 < c → c < n → (c - 1) / 2 = k → m[c]? = some z → y.e ≤ z.e) : DInv N n i0 l (swap m k j) j := by
  have hs := down_step hj hjn hx hy hlt hmin h.rim h.grand
  refine ⟨by rw [swap_len]; exact h.len, (swap_perm m k j).trans h.perm, fun q hq => ?_, fun c h1 h2 h3 _ => hs.1 c h1 h2 h3, hs.2, by have := h.ge; omega, fun e => by have := h.ge; omega⟩
  rw [swap_get hx hy, if_neg (by omega), if_neg (by omega)]
  exact h.tail q hq
theorem DInv.stop {N n i0 : Nat} {l m : List Les} {k : Nat} {x : Les} (h : DInv N n i0 l m k) (hx : m[k]? = some x)
    (hmin : ∀ c z, 0 < c → c < n → (c - 1) / 2 = k → m[c]? = some z → x.e ≤ z.e) : (i0 < k → HeapN m n) ∧ (¬ i0 < k → m = l ∧ ∀ c, 0 < c → c < n → c ≠ i0 → Rim l c) := by
  have he := down_end hx hmin h.rim
  have hg := h.ge
  refine ⟨fun hk c h1 h2 => he c h1 h2 (.inr (by omega)), fun hk => ?_⟩
  have e := h.same (by omega)
  refine ⟨e, fun c h1 h2 h3 => ?_⟩
  rw [← e]
  exact he c h1 h2 (.inl h3)
theorem min_right {m : List Les} {k n : Nat} {a b : Les} (ha : m[2 * k + 1]? = some a) (hb : m[2 * k + 2]? = some b) (hlt : b.e < a.e) : ∀ c z, 0 < c → c < n → (c - 1) / 2 = k → m[c]? = some z → b.e ≤ z.e := by
  intro c z h0 hc hk hz
  rcases (show c = 2 * k + 1 ∨ c = 2 * k + 2 from by omega) with rfl | rfl
  · rw [ha] at hz; cases hz; omega
  · rw [hb] at hz; cases hz; omega
theorem min_left {m : List Les} {k n : Nat} {a : Les} (ha : m[2 * k + 1]? = some a) (hb : ∀ b, 2 * k + 2 < n → m[2 * k + 2]? = some b → ¬ b.e < a.e) : ∀ c z, 0 < c → c < n → (c - 1) / 2 = k → m[c]? = some z → a.e ≤ z.e := by
  intro c z h0 hc hk hz
  rcases (show c = 2 * k + 1 ∨ c = 2 * k + 2 from by omega) with rfl | rfl
  · rw [ha] at hz; cases hz; omega
  · have := hb z hc hz; omega
end Lea
end
section
namespace Lea
open Go Go.RowKit Go.Mem Gf
def cellsI (x : Les) : List Value := bV x.ix ++ bV x.sec ++ [.int .i64 x.e]
def Wf (x : Les) : Prop := x.ix.length = 16 ∧ x.sec.length = 16
theorem cellsI_len {x : Les} (h : Wf x) : (cellsI x).length = 33 := by
  unfold cellsI
  simp only [List.length_append, bV_len, h.1, h.2, List.length_singleton]
theorem cellsI_end {x : Les} (h : Wf x) : (cellsI x)[32]? = some (.int .i64 x.e) := by
  unfold cellsI
  rw [List.getElem?_append_right (by simp only [List.length_append, bV_len, h.1, h.2]; omega)]
  simp only [List.length_append, bV_len, h.1, h.2]
  rfl
def itemsV (l : List Les) : List Value := l.flatMap cellsI
theorem itemsV_len : ∀ (l : List Les), (∀ x ∈ l, Wf x) → (itemsV l).length = l.length * 33
  | [], _ => rfl
  | x :: l, h => by
    unfold itemsV
    rw [List.flatMap_cons, List.length_append, cellsI_len (h x (by simp))]
    have := itemsV_len l (fun y hy => h y (by simp [hy]))
    unfold itemsV at this
    rw [this, List.length_cons]; omega
theorem itemsV_get : ∀ (l : List Les), (∀ x ∈ l, Wf x) → ∀ (i : Nat) (x : Les), l[i]? = some x → ∀ c, c < 33 → (itemsV l)[i * 33 + c]? = (cellsI x)[c]?
  | y :: l, h, 0, x, hx, c, hc => by
    simp at hx
    subst hx
    unfold itemsV
    rw [List.flatMap_cons, Nat.zero_mul, Nat.zero_add, List.getElem?_append_left (by rw [cellsI_len (h y (by simp))]; exact hc)]
  | y :: l, h, i + 1, x, hx, c, hc => by
    have ih := itemsV_get l (fun z hz => h z (by simp [hz])) i x (by simpa using hx) c hc
    have hl := cellsI_len (h y (by simp))
    unfold itemsV at ih ⊢
    rw [List.flatMap_cons, List.getElem?_append_right (by rw [hl]; omega), hl, show (i + 1) * 33 + c - 33 = i * 33 + c from by omega]
    exact ih
theorem itemsV_app (l m : List Les) : itemsV (l ++ m) = itemsV l ++ itemsV m := by unfold itemsV; rw [List.flatMap_append]
theorem wf_set {l : List Les} (h : ∀ x ∈ l, Wf x) {i : Nat} {y : Les} (hy : Wf y) : ∀ x ∈ l.set i y, Wf x := fun x hx => by
  rcases List.mem_or_eq_of_mem_set hx with h' | rfl
  · exact h x h'
  · exact hy
theorem itemsV_set (l : List Les) (h : ∀ x ∈ l, Wf x) {i : Nat} (hi : i < l.length) {y : Les} (hy : Wf y) (j : Nat) (hj : j < l.length * 33) :
    (itemsV (l.set i y))[j]? = if i * 33 ≤ j ∧ j < i * 33 + 33 then (cellsI y)[j - i * 33]? else (itemsV l)[j]? := by
  have hq : j / 33 < l.length := by omega
  have hx : l[j / 33]? = some l[j / 33] := by simp
  have e : j = j / 33 * 33 + j % 33 := by omega
  have hr : j % 33 < 33 := by omega
  by_cases c : i * 33 ≤ j ∧ j < i * 33 + 33
  · have hji : j / 33 = i := by omega
    rw [if_pos c]
    have := itemsV_get _ (wf_set h hy) i y (by rw [List.getElem?_set_self hi]) (j % 33) hr
    rw [show j - i * 33 = j % 33 from by omega, ← this]
    congr 1
    omega
  · have hji : i ≠ j / 33 := by omega
    rw [if_neg c]
    have h1 := itemsV_get _ (wf_set h hy) (j / 33) _ (by rw [List.getElem?_set_ne hji]; exact hx) (j % 33) hr
    have h2 := itemsV_get l h (j / 33) _ hx (j % 33) hr
    rw [← e] at h1 h2
    rw [h1, h2]
theorem one_cellsI (x : Les) : ∀ v ∈ cellsI x, v.oneCell' = true := by
  intro v hv
  unfold cellsI at hv
  rcases List.mem_append.1 hv with hv | hv
  · rcases List.mem_append.1 hv with hv | hv
    · exact bV_one _ v hv
    · exact bV_one _ v hv
  · rw [List.mem_singleton.1 hv]; rfl
structure Row (ti : TypeId) (w : World) (base g n cap : Nat) (l : List Les) : Prop where
  own : w.ownsRow base ti 33 (.slice (some ⟨g, 0, none⟩) n cap) n (itemsV l)
  len : n = l.length
  wf : ∀ x ∈ l, Wf x
section
variable {ti : TypeId} {w : World} {base g n cap : Nat} {l : List Les}
theorem Row.block (h : Row ti w base g n cap l) : ∃ cur : Array Value, w.heap[g]? = some (.cells cur ti (0, 0)) ∧ base ≤ g ∧ n ≤ cap ∧ cap ≤ maxLen ∧ cur.size = cap * 33 ∧ ∀ j, j < n * 33 → cur[j]? = (itemsV l)[j]? := by
  rcases h.own.2 with ⟨e, _⟩ | ⟨g', cap', cur, e, hb, hh, h1, h2, h3, h4⟩
  · cases e
  · cases e
    refine ⟨cur, hh, hb, h1, h2, h3, fun j hj => ?_⟩
    rw [← h4, List.getElem?_take, if_pos hj, Array.getElem?_toList]
theorem Row.cell (h : Row ti w base g n cap l) {j : Nat} (hj : j < n * 33) : w.cell? ⟨g, j, none⟩ = (itemsV l)[j]? := by
  obtain ⟨cur, hh, _, _, _, _, hc⟩ := h.block
  rw [← hc j hj]
  have hB : Blk w g cur ti := hh
  exact hB.cell j
theorem Row.range (h : Row ti w base g n cap l) {i : Nat} {x : Les} (hx : l[i]? = some x) : w.rangeAt g (i * 33) (cellsI x) := fun j v hv => by
  have hi : i < l.length := by
    rcases Nat.lt_or_ge i l.length with h | h
    · exact h
    · rw [List.getElem?_eq_none h] at hx; cases hx
  have hj : j < 33 := by
    rcases Nat.lt_or_ge j 33 with h' | h'
    · exact h'
    · rw [List.getElem?_eq_none (by rw [cellsI_len (h.wf x (List.mem_of_getElem? hx))]; exact h')] at hv; cases hv
  rw [h.cell (by have := h.len; omega), itemsV_get l h.wf i x hx j hj]
  exact hv
theorem Row.ends (h : Row ti w base g n cap l) {i : Nat} {x : Les} (hx : l[i]? = some x) : w.cell? ⟨g, i * 33 + 32, none⟩ = some (.int .i64 x.e) :=
  h.range hx 32 _ (cellsI_end (h.wf x (List.mem_of_getElem? hx)))
theorem Row.there (h : Row ti w base g n cap l) {i : Nat} (hi : i < n) : w.there g (i * 33) 33 := fun j hj => by
  obtain ⟨cur, hh, _, h1, _, h3, _⟩ := h.block
  have hB : Blk w g cur ti := hh
  exact ⟨by rw [hB.cell]; simp; omega, hB.free _⟩
theorem Row.set (h : Row ti w base g n cap l) {i : Nat} (hi : i < n) {y : Les} (hy : Wf y) : Row ti (w.setCells g (i * 33) (cellsI y)) base g n cap (l.set i y) := by
  obtain ⟨cur, hh, hb, h1, h2, h3, h4⟩ := h.block
  have hB : Blk w g cur ti := hh
  obtain ⟨cur', b1, b2, b3⟩ := Blk.setCells (cellsI y) (i * 33) w cur hB
  have hll := h.len
  refine ⟨⟨?_, .inr ⟨g, cap, cur', rfl, hb, b1, h1, h2, by rw [b2, h3], ?_⟩⟩, by rw [List.length_set]; exact hll, wf_set h.wf hy⟩
  · rw [itemsV_len _ (wf_set h.wf hy), List.length_set, hll]
  · apply List.ext_getElem?
    intro j
    have hlen := itemsV_len _ (wf_set h.wf hy (i := i))
    rw [List.length_set] at hlen
    rw [List.getElem?_take, Array.getElem?_toList]
    by_cases hj : j < n * 33
    · have hm : n * 33 ≤ cap * 33 := Nat.mul_le_mul_right _ h1
      rw [if_pos hj, b3 j (by omega), itemsV_set l h.wf (by omega) hy j (by omega), cellsI_len hy, h4 j hj]
    · rw [if_neg hj, List.getElem?_eq_none (by omega)]
theorem Row.drew (h : Row ti w base g n cap l) : Row ti w.drew base g n cap l := ⟨h.own, h.len, h.wf⟩
end
end Lea
end
section
namespace Go.Mem
open Go
def ptrB : Value → Nat
  | .pointer (some ⟨b, _, _⟩) => b
  | _ => 0
def ptrO : Value → Nat
  | .pointer (some ⟨_, o, _⟩) => o
  | _ => 0
def ptrIs : Value → Bool
  | .pointer (some ⟨_, _, none⟩) => true
  | _ => false
def aggL : Value → List Value
  | .agg cs => cs.toList
  | _ => []
def aggIs : Value → Bool
  | .agg _ => true
  | _ => false
@[simp] theorem ptrB_eq (b o : Nat) : ptrB (.pointer (some ⟨b, o, none⟩)) = b := rfl
@[simp] theorem ptrO_eq (b o : Nat) : ptrO (.pointer (some ⟨b, o, none⟩)) = o := rfl
@[simp] theorem ptrIs_eq (b o : Nat) : ptrIs (.pointer (some ⟨b, o, none⟩)) = true := rfl
@[simp] theorem aggL_eq (cs : Array Value) : aggL (.agg cs) = cs.toList := rfl
@[simp] theorem aggIs_eq (cs : Array Value) : aggIs (.agg cs) = true := rfl
theorem ptr_of {v : Value} (h : ptrIs v = true) : v = .pointer (some ⟨ptrB v, ptrO v, none⟩) := by
  unfold ptrIs at h
  split at h
  · rfl
  · cases h
theorem agg_of {v : Value} (h : aggIs v = true) : v = .agg (aggL v).toArray := by
  unfold aggIs at h
  split at h
  · simp
  · cases h
def readK (n : Nat) (w : World) (g o : Nat) : List Value := (List.range n).map fun k => (w.cell? ⟨g, o + k, none⟩).getD undef
def HasK (n : Nat) (w : World) (g o : Nat) : Prop := w.there g o n
def AllK (n : Nat) (cs : List Value) : Prop := cs.length = n ∧ ∀ v ∈ cs, v.oneCell' = true
theorem readK_len (n : Nat) (w : World) (g o : Nat) : (readK n w g o).length = n := by simp [readK]
theorem readK_eq {n : Nat} {w : World} {g o : Nat} {cs : List Value} (h : w.rangeAt g o cs) (hl : cs.length = n) : readK n w g o = cs := by
  apply List.ext_getElem?
  intro k
  unfold readK
  rw [List.getElem?_map]
  rcases Nat.lt_or_ge k n with hk | hk
  · rw [List.getElem?_range hk]
    have hc : k < cs.length := by omega
    rw [Option.map_some, h k cs[k] (by simp), Option.getD_some, List.getElem?_eq_getElem hc]
  · rw [List.getElem?_eq_none (by simpa using hk), List.getElem?_eq_none (by omega)]; rfl
theorem readK_range {n : Nat} {w : World} {g o : Nat} (h : HasK n w g o) : w.rangeAt g o (readK n w g o) := fun j v hj => by
  have hjn : j < n := by
    rcases Nat.lt_or_ge j n with h | h
    · exact h
    · rw [List.getElem?_eq_none (by rw [readK_len]; exact h)] at hj; cases hj
  obtain ⟨u, hu⟩ := Option.isSome_iff_exists.1 (h j hjn).1
  rw [hu]
  unfold readK at hj
  rw [List.getElem?_map, List.getElem?_range hjn] at hj
  simp only [Option.map_some, hu, Option.getD_some] at hj
  exact hj
theorem wp_loadK {P : Program} {n : Nat} {t : TypeId} {d : TypeDesc} (hu : P.underlying t = some d) (hd : d.isRow = true) (hi : (P.info? t).map (·.size) = some n) (dst : Option Tmp) (x : Operand) (ty : TypeId) (pos : String) (af : Array Edge) (a : Act) (w : World) (K : Act → World → Prop) (Q : Exit → Act → World → Prop)
    (hp : ptrIs (a.eval x) = true) (ht : HasK n w (ptrB (a.eval x)) (ptrO (a.eval x))) :
    Oper.wp P ⟨dst, .load t x, ty, pos, af, none⟩ a w K Q = K (a.put dst (.agg (readK n w (ptrB (a.eval x)) (ptrO (a.eval x))).toArray)) w := by
  unfold Oper.wp execOp
  have e := ptr_of hp
  have hl := run_loadVar_mid (P := P) w (ptrB (a.eval x)) (ptrO (a.eval x)) t (readK n w (ptrB (a.eval x)) (ptrO (a.eval x))) d (readK_range ht) hu hd (by rw [hi, readK_len])
  simp only
  rw [e]
  simp only [ptrB_eq, ptrO_eq, Instr.loadAt, Instr.sureAddr, Sem.run_bind, Sem.run_pure, Result.andThen_ok, hl]
  rfl
theorem wp_storeK {P : Program} {n : Nat} {t : TypeId} (hi : (P.info? t).map (·.size) = some n) (dst : Option Tmp) (x y : Operand) (ty : TypeId) (pos : String) (af : Array Edge) (a : Act) (w : World) (K : Act → World → Prop) (Q : Exit → Act → World → Prop)
    (hp : ptrIs (a.eval x) = true) (hy : aggIs (a.eval y) = true) (ht : HasK n w (ptrB (a.eval x)) (ptrO (a.eval x))) (hc : AllK n (aggL (a.eval y))) :
    Oper.wp P ⟨dst, .store t x y, ty, pos, af, none⟩ a w K Q = K (a.put dst undef) (w.setCells (ptrB (a.eval x)) (ptrO (a.eval x)) (aggL (a.eval y))) := by
  unfold Oper.wp execOp
  have e := ptr_of hp
  have e2 := agg_of hy
  have hl := run_storeVar_mid (P := P) w (ptrB (a.eval x)) (ptrO (a.eval x)) t (aggL (a.eval y)).toArray (by simpa [hc.1] using (show w.there (ptrB (a.eval x)) (ptrO (a.eval x)) n from ht)) (by simpa [hc.1] using hi) (Array.all_eq_true_iff_forall_mem.2 fun v hv => hc.2 v (by simpa using hv))
  simp only
  rw [e, e2]
  simp only [ptrB_eq, ptrO_eq, aggL_eq, Instr.storeAt, Instr.sureAddr, Sem.run_bind, Sem.run_pure, Result.andThen_ok, hl]
  rfl
theorem agg_cells {v : Value} (h : aggIs v = true) : v.cells = (aggL v).toArray := by
  rw [agg_of h]; rfl
theorem wp_sliceK {P : Program} {n : Nat} {t e : TypeId} (hu : P.underlying t = some (.slice e)) (hi : (P.info? e).map (fun i => (i.size, (i.zero.map (·.cells.size)))) = some (n, some n)) (hn : 0 < n) (hn2 : n ≤ 1000)
    (dst : Option Tmp) (x : Operand) (ty : TypeId) (pos : String) (af : Array Edge) (a : Act) (w : World) (K : Act → World → Prop) (Q : Exit → Act → World → Prop)
    (hy : aggIs (a.eval x) = true) (hc : AllK n (aggL (a.eval x))) :
    Oper.wp P ⟨dst, .buildSlice t 1 #[(0, x)], ty, pos, af, none⟩ a w K Q = K (a.put dst (.slice (some ⟨w.heap.size, 0, none⟩) 1 1)) (w.alloc (.cells (aggL (a.eval x)).toArray e)) := by
  cases hie : P.info? e with
  | none => rw [hie] at hi; cases hi
  | some ie =>
    rw [hie] at hi
    simp only [Option.map_some, Option.some.injEq, Prod.mk.injEq] at hi
    obtain ⟨h1, h2⟩ := hi
    cases hz : ie.zero with
    | none => rw [hz] at h2; cases h2
    | some z =>
      have hcs := agg_cells hy
      have hsz : (a.eval x).cells.size = n := by rw [hcs]; simpa using hc.1
      have hf := Great.fill_whole (s := n) hn [a.eval x] ((Array.range (1 * n)).map (z.cells[· % z.cells.size]!)) (fun v hv => by rw [List.mem_singleton.1 hv]; exact hsz) (by simp)
      unfold Oper.wp execOp
      have hr := run_buildSlice (P := P) w t e 1 #[(0, a.eval x)] (([a.eval x].flatMap fun v => v.cells.toList).toArray) ie z hu hie hz (by rw [h1]; omega) (by rw [h1]; omega) (by rw [h1]; exact hf)
      simp only [List.map_toArray, List.map_cons, List.map_nil, Sem.run_bind, hr, Result.andThen_ok]
      simp only [List.flatMap_cons, List.flatMap_nil, List.append_nil, hcs]
      rfl
theorem fold_two (u v : Array Value) (z : Array Value) (hz : z.size = u.size + v.size) :
    v.zipIdx.foldl (fun cs (x : Value × Nat) => cs.setIfInBounds (u.size + x.2) x.1) (u.zipIdx.foldl (fun cs (x : Value × Nat) => cs.setIfInBounds (0 + x.2) x.1) z) = u ++ v := by
  have e1 := Great.foldl_set 0 u.toList 0 z
  obtain ⟨r, hr⟩ : ∃ r, r = (u.toList.zipIdx 0).foldl (fun cs (x : Value × Nat) => cs.setIfInBounds (0 + x.2) x.1) z := ⟨_, rfl⟩
  have ea : ∀ (q : Array Value) (o : Nat) (c : Array Value), q.zipIdx.foldl (fun cs (x : Value × Nat) => cs.setIfInBounds (o + x.2) x.1) c = (q.toList.zipIdx 0).foldl (fun cs (x : Value × Nat) => cs.setIfInBounds (o + x.2) x.1) c := fun q o c => by
    rw [← Array.foldl_toList, Array.toList_zipIdx]
  rw [ea, ea, ← hr]
  rw [← hr] at e1
  have e2 := Great.foldl_set u.size v.toList 0 r
  apply Array.ext_getElem?
  intro k
  rw [e2.2, e1.2, e1.1]
  simp only [Array.length_toList, Nat.add_zero, Nat.zero_add, Array.getElem?_toList, Nat.zero_le, true_and, Nat.sub_zero]
  rw [Array.getElem?_append]
  by_cases h1 : k < u.size
  · rw [if_neg (by omega), if_pos ⟨h1, by omega⟩, if_pos h1]
  · rw [if_neg h1]
    by_cases h2 : k < u.size + v.size
    · rw [if_pos ⟨by omega, by omega, by omega⟩]
    · rw [if_neg (by omega), if_neg (by omega), Array.getElem?_eq_none (by omega), Array.getElem?_eq_none (by omega)]
theorem built_two {P : Program} {t : TypeId} {fields : Array Field} {n m : Nat} {u v : Value} (hu : P.underlying t = some (.struct fields)) (hi : ((P.info? t).bind (·.zero)).map (·.cells.size) = some (n + m))
    (hp : fields.toList.mapM (fun f => (P.info? f.type).map fun i => (f.offset, i.size)) = some [(0, n), (n, m)]) (h1 : u.cells.size = n) (h2 : v.cells.size = m) : P.built t [(0, u), (1, v)] = some (u.cells ++ v.cells) := by
  unfold Program.built
  cases hit : P.info? t with
  | none => rw [hit] at hi; cases hi
  | some it =>
    rw [hit] at hi
    simp only [Option.bind_some] at hi
    cases hz : it.zero with
    | none => rw [hz] at hi; cases hi
    | some z =>
      rw [hz] at hi
      simp only [Option.map_some, Option.some.injEq] at hi
      simp only [hu, hp, hz]
      have e1 := (Great.foldl_set 0 u.cells.toList 0 z.cells).1
      have ea : ∀ (q : Array Value) (o : Nat) (c : Array Value), q.zipIdx.foldl (fun cs (x : Value × Nat) => cs.setIfInBounds (o + x.2) x.1) c = (q.toList.zipIdx 0).foldl (fun cs (x : Value × Nat) => cs.setIfInBounds (o + x.2) x.1) c := fun q o c => by
        rw [← Array.foldl_toList, Array.toList_zipIdx]
      rw [← ea] at e1
      have hf := fold_two u.cells v.cells z.cells (by omega)
      rw [h1] at hf
      simp only [Instr.fill, List.getElem?_toArray, List.getElem?_cons_zero, List.getElem?_cons_succ, h1, h2, ne_eq, not_true_eq_false, decide_false, Bool.false_or, e1]
      rw [if_neg (by simp; omega), if_neg (by simp; omega), hf]
theorem wp_buildTwo {P : Program} {t : TypeId} {fields : Array Field} {n m : Nat} (hu : P.underlying t = some (.struct fields)) (hi : ((P.info? t).bind (·.zero)).map (·.cells.size) = some (n + m))
    (hp : fields.toList.mapM (fun f => (P.info? f.type).map fun i => (f.offset, i.size)) = some [(0, n), (n, m)])
    (dst : Option Tmp) (x y : Operand) (ty : TypeId) (pos : String) (af : Array Edge) (a : Act) (w : World) (K : Act → World → Prop) (Q : Exit → Act → World → Prop)
    (h1 : (a.eval x).cells.size = n) (h2 : (a.eval y).cells.size = m) :
    Oper.wp P ⟨dst, .build t #[(0, x), (1, y)], ty, pos, af, none⟩ a w K Q = K (a.put dst (.agg ((a.eval x).cells ++ (a.eval y).cells))) w := by
  unfold Oper.wp execOp
  have hr := run_build (P := P) w t #[(0, a.eval x), (1, a.eval y)] _ (built_two hu hi hp h1 h2)
  simp only [List.map_toArray, List.map_cons, List.map_nil, Sem.run_bind, hr, Result.andThen_ok]
  rfl
theorem hasK_new {n : Nat} {arr : Array Value} (h : n ≤ arr.size) (w : World) (t : TypeId) : HasK n (w.alloc (.cells arr t)) w.heap.size 0 := fun j hj => by
  have hb := Blk.new w arr t
  exact ⟨by rw [hb.cell]; simp; omega, hb.free _⟩
theorem hasK_set {n : Nat} {w : World} {b o : Nat} (h : HasK n w b o) (g p : Nat) (cs : List Value) : HasK n (w.setCells g p cs) b o := World.there_setCells h _ _ _
theorem readK_set {n : Nat} {w : World} {b o : Nat} {cs : List Value} (h : HasK n w b o) (hc : AllK n cs) : readK n (w.setCells b o cs) b o = cs := by
  refine readK_eq (World.rangeAt_setCells_same _ _ _ _ ?_) hc.1
  rw [hc.1]; exact h
end Go.Mem
end
section
namespace Go.Proofs.YtclhgokchcklbaaGreatDoor
open Go Go.RowKit Go.Mem Gf Lea
attribute [local go_sem ↓] Go.wp_at_zero Go.wp_at_succ
set_option maxRecDepth 100000 in
theorem elen_calls (a : Option Addr) (n cap : Nat) (w : World) : Calls Tryz.prog 267 #[.slice a n cap] w fun e w' => e = .returned (.int .i64 n) ∧ w = w' := by
  go_enter Tryz.func267, Tryz.ntmps267
  go_wp2
  go_ret
  exact ⟨rfl, rfl⟩
set_option maxRecDepth 100000 in
theorem eless_calls (base g n cap : Nat) (l : List Les) (i j : Nat) (x y : Les) (w : World) (h : Row 191 w base g n cap l) (hx : l[i]? = some x) (hy : l[j]? = some y) :
    Calls Tryz.prog 268 #[.slice (some ⟨g, 0, none⟩) n cap, .int .i64 i, .int .i64 j] w fun e w' => e = .returned (.bool (decide (x.e < y.e))) ∧ ∃ d, w' = w.drewN d := by
  have hi : i < n := by
    rw [h.len]
    rcases Nat.lt_or_ge i l.length with h | h
    · exact h
    · rw [List.getElem?_eq_none h] at hx; cases hx
  have hj : j < n := by
    rw [h.len]
    rcases Nat.lt_or_ge j l.length with h | h
    · exact h
    · rw [List.getElem?_eq_none h] at hy; cases hy
  have c1 := h.ends hx
  have c2 := h.ends hy
  have i0 : (0 : Int) ≤ (i : Int) := by omega
  have i1 : (i : Int) < (n : Int) := by omega
  have j0 : (0 : Int) ≤ (j : Int) := by omega
  have j1 : (j : Int) < (n : Int) := by omega
  clear h hx hy
  go_enter Tryz.func268, Tryz.ntmps268
  go_wp2_with fail
  go_quiet (fail)
  go_wp2
  go_ret
  exact ⟨rfl, _, rfl⟩
theorem i33 : (Tryz.prog.info? 191).map (·.size) = some 33 := by kernel_rfl
theorem load_item (dst : Option Tmp) (x : Operand) (ty : TypeId) (pos : String) (af : Array Edge) (a : Act) (w : World) (K : Act → World → Prop) (Q : Exit → Act → World → Prop)
    (hp : ptrIs (a.eval x) = true) (ht : HasK 33 w (ptrB (a.eval x)) (ptrO (a.eval x))) :
    Oper.wp Tryz.prog ⟨dst, .load 191 x, ty, pos, af, none⟩ a w K Q = K (a.put dst (.agg (readK 33 w (ptrB (a.eval x)) (ptrO (a.eval x))).toArray)) w :=
  wp_loadK Tryz.underlying191 rfl i33 dst x ty pos af a w K Q hp ht
theorem store_item (dst : Option Tmp) (x y : Operand) (ty : TypeId) (pos : String) (af : Array Edge) (a : Act) (w : World) (K : Act → World → Prop) (Q : Exit → Act → World → Prop)
    (hp : ptrIs (a.eval x) = true) (hy : aggIs (a.eval y) = true) (ht : HasK 33 w (ptrB (a.eval x)) (ptrO (a.eval x))) (hc : AllK 33 (aggL (a.eval y))) :
    Oper.wp Tryz.prog ⟨dst, .store 191 x y, ty, pos, af, none⟩ a w K Q = K (a.put dst undef) (w.setCells (ptrB (a.eval x)) (ptrO (a.eval x)) (aggL (a.eval y))) :=
  wp_storeK i33 dst x y ty pos af a w K Q hp hy ht hc
attribute [local go_sem ↓] load_item store_item
attribute [local go_sem] ptrB_eq ptrO_eq ptrIs_eq aggL_eq aggIs_eq
theorem allI_cells {x : Les} (h : Wf x) : AllK 33 (cellsI x) := ⟨cellsI_len h, one_cellsI x⟩
set_option maxRecDepth 100000 in
set_option maxHeartbeats 1000000 in
theorem eswap_calls (base g n cap : Nat) (l : List Les) (i j : Nat) (x y : Les) (w : World) (h : Row 191 w base g n cap l) (hx : l[i]? = some x) (hy : l[j]? = some y) :
    Calls Tryz.prog 269 #[.slice (some ⟨g, 0, none⟩) n cap, .int .i64 i, .int .i64 j] w fun e w' => e = .returned (.tuple #[]) ∧ Row 191 w' base g n cap (swap l i j) ∧ Chg (fun b => b = g) w w' := by
  have hi : i < n := by
    rw [h.len]
    rcases Nat.lt_or_ge i l.length with h | h
    · exact h
    · rw [List.getElem?_eq_none h] at hx; cases hx
  have hj : j < n := by
    rw [h.len]
    rcases Nat.lt_or_ge j l.length with h | h
    · exact h
    · rw [List.getElem?_eq_none h] at hy; cases hy
  have hwx := h.wf x (List.mem_of_getElem? hx)
  have hwy := h.wf y (List.mem_of_getElem? hy)
  have i0 : (0 : Int) ≤ (i : Int) := by omega
  have i1 : (i : Int) < (n : Int) := by omega
  have j0 : (0 : Int) ≤ (j : Int) := by omega
  have j1 : (j : Int) < (n : Int) := by omega
  obtain ⟨wd, hwd⟩ : ∃ wd, wd = w.drew := ⟨_, rfl⟩
  have h0 : Row 191 wd base g n cap l := by rw [hwd]; exact h.drew
  have rx : readK 33 w.drew g (i * 33) = cellsI x := readK_eq (h.drew.range hx) (cellsI_len hwx)
  have ry : readK 33 w.drew g (j * 33) = cellsI y := readK_eq (h.drew.range hy) (cellsI_len hwy)
  have t1 : HasK 33 w.drew g (i * 33) := h.drew.there hi
  have t1' : HasK 33 w.drew g (j * 33) := h.drew.there hj
  have h1 := h.drew.set hi hwy
  have ax := allI_cells hwx
  have ay := allI_cells hwy
  have h2 := Lib.hid (h1.set hj hwx)
  have hsw : swap l i j = (l.set i y).set j x := by unfold swap; rw [hx, hy]
  have hc : Chg (fun b => b = g) w ((w.drew.setCells g (i * 33) (cellsI y)).setCells g (j * 33) (cellsI x)) := Chg.setCells (S := fun b => b = g) (L := g) rfl _ _ _ (Chg.setCells (S := fun b => b = g) (L := g) rfl _ _ _ (Chg.drew (Chg.refl _ _)))
  have HC := Lib.hid hc; have HSW := Lib.hid hsw
  obtain ⟨cx, hcx⟩ : ∃ c, c = cellsI x := ⟨_, rfl⟩
  obtain ⟨cy, hcy⟩ : ∃ c, c = cellsI y := ⟨_, rfl⟩
  have t2 : HasK 33 (w.drew.setCells g (i * 33) cy) g (j * 33) := by rw [hcy]; exact h1.there hj
  have ex : cellsI x = cx := hcx.symm
  have ey : cellsI y = cy := hcy.symm
  rw [← hcx] at rx ax
  rw [← hcy] at ry ay
  rw [ex, ey] at h2 HC
  clear h h1 hx hy hwx hwy hc hsw hcx hcy ex ey h0 hwd
  go_enter Tryz.func269, Tryz.ntmps269
  go_wp2_with fail
  go_region
  all_goals
    go_wp2
    go_end0
    rw [HSW.out]
    exact ⟨rfl, h2.out, HC.out⟩
structure LTab (w : World) (tb : Nat) (v : Value) (l : List Les) : Prop where
  cell : Blk w tb #[v] 137
  own : w.ownsRow 0 191 33 v l.length (itemsV l)
  wf : ∀ x ∈ l, Wf x
  apart : v.ownBlock ≠ some tb
theorem LTab.ex {w : World} {tb : Nat} {v : Value} {l : List Les} (h : LTab w tb v l) (h0 : 0 < l.length) : ∃ g cap, v = .slice (some ⟨g, 0, none⟩) l.length cap ∧ Row 191 w 0 g l.length cap l := by
  rcases h.own.2 with ⟨e, e2⟩ | ⟨g, cap, cur, e, hr⟩
  · exact absurd e2 (by simp at e2; omega)
  · exact ⟨g, cap, e, ⟨by rw [← e]; exact h.own, rfl, h.wf⟩⟩
end Go.Proofs.YtclhgokchcklbaaGreatDoor
end
