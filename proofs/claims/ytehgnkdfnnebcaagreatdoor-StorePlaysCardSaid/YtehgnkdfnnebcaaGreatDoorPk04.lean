/- Texts of this proof, packed: RefLib, StoreBest, Ref10Mem, Ref10Get, StoreOps, StoreText. -/
import Derived.Test.YtehgnkdfnnebcaaGreatDoorPk03
import Derived.Test.YtehgnkdfnnebcaaGreatDoorPk01
section
namespace Go.Mem
open Go Go.RowKit Gf
def DataZ (w : World) (N : Nat → Prop) (v : Value) (bs : List UInt8) : Prop :=
  Bys w v bs ∧ ∃ a c, v = .slice a bs.length c ∧ (0 < bs.length → ∀ b, a = some b → b.block < w.heap.size ∧ ¬ N b.block)
theorem DataAt.z {w : World} {N : Nat → Prop} {v : Value} {bs : List UInt8} (h : DataAt w N v bs) : DataZ w N v bs := by
  obtain ⟨h1, a, c, h2, h3⟩ := h
  exact ⟨h1, a, c, h2, fun _ => h3⟩
theorem DataZ.chg {S N : Nat → Prop} {w w' : World} {v : Value} {bs : List UInt8} (h : DataZ w N v bs) (hc : Chg S w w') (hs : ∀ b, S b → b < w.heap.size → N b) : DataZ w' N v bs := by
  obtain ⟨h1, a, c, rfl, h3⟩ := h
  rcases Nat.eq_zero_or_pos bs.length with h0 | h0
  · refine ⟨?_, a, c, rfl, fun h => by omega⟩
    obtain ⟨a', c', e, g1, g2, _⟩ := h1
    exact ⟨a', c', e, g1, g2, fun h => by omega⟩
  · refine ⟨h1.chg hc (fun a' l' c' e hS => ?_), a, c, rfl, fun _ b hb => ⟨Nat.lt_of_lt_of_le (h3 h0 b hb).1 hc.size, (h3 h0 b hb).2⟩⟩
    injection e with e1 _ _
    have := h3 h0 a' e1
    exact this.2 (hs _ hS this.1)
theorem DataZ.mono {N M : Nat → Prop} {w : World} {v : Value} {bs : List UInt8} (h : DataZ w N v bs) (hM : ∀ b, M b → N b ∨ w.heap.size ≤ b) : DataZ w M v bs := by
  obtain ⟨h1, a, c, e, h3⟩ := h
  refine ⟨h1, a, c, e, fun h0 b hb => ⟨(h3 h0 b hb).1, fun hm => ?_⟩⟩
  have := h3 h0 b hb
  rcases hM _ hm with h | h
  · exact this.2 h
  · omega
end Go.Mem
namespace Go.Tail
open Go
section
variable {P : Program} {ops : Array Oper} {isM : Nat → Bool} {kn : Nat → Option Value} {J : (Nat → Bool) → (Nat → Value) → World → Prop}
theorem J_mov {z : Nat → Value} {Lq : Act → Prop} {o : Oper} {rest : List Oper} {k : Nat} {a : Act} (hk : isM k = true) (hw : Region.wanted o (yielded ops a.tmps) = true)
    (h1 : ∀ D z' w, D k = false → (∀ k', D k' = true → z k' = z' k') → (∀ k', dep .any ops isM k k' = true → D k' = true) → (∀ k', pre .any ops isM k' k = true → D k' = false) → J D z' w → ∃ v w', (execOp a.eval o).run P w = .ok (.value v) w' ∧ (∀ c, kn k = some c → v = c) ∧ J (updB D k) (updV z' k v) w')
    (h : wpJ P ops isM kn J z Lq rest (k + 1) (a.put o.dst ((kn k).getD (z k)))) : wpJ P ops isM kn J z Lq (o :: rest) k a :=
  ⟨_, .inr (.inr ⟨hk, hw, rfl, fun D z' w hD hz hd hp hJ => .inr (.inl (h1 D z' w hD hz hd hp hJ))⟩), h⟩
end
end Go.Tail
namespace Go.Mem
open Go Go.RowKit Gf
end Go.Mem
namespace Go.Mem
open Go Go.RowKit Gf
section
variable {P : Program} {w : World} {ops : Array Oper} {rest : List Oper} {o : Oper} {a : Act} {Q : Exit → Act → World → Prop}
end
end Go.Mem
end
section
namespace Go.Proofs.YtehgnkdfnnebcaaGreatDoor
open Go Go.RowKit Go.Mem Gf
attribute [local go_sem ↓] Go.wp_at_zero Go.wp_at_succ
theorem best_lt (l : List Sto.Rec) (name : ByteArray) : ∀ k j, Sto.best l name k = some j → j < k ∧ ∃ r, l[j]? = some r ∧ r.is = true ∧ (r.name.toList == name.toList) = true
  | 0, j, h => by simp [Sto.best] at h
  | k + 1, j, h => by
    simp only [Sto.best] at h
    split at h
    · have := best_lt l name k j h; exact ⟨by omega, this.2⟩
    · rename_i r hr
      split at h
      · rename_i hc
        cases h
        exact ⟨by omega, r, hr, hc.1, hc.2.1⟩
      · have := best_lt l name k j h; exact ⟨by omega, this.2⟩
theorem best_step {l : List Sto.Rec} {name : ByteArray} {i : Nat} {r : Sto.Rec} (h : l[i]? = some r) : Sto.best l name (i + 1) = if r.is = true ∧ (r.name.toList == name.toList) = true ∧ (∀ j, Sto.best l name i = some j → (l.getD j Sto.Rec.free).num < r.num) then some i else Sto.best l name i := by
  rw [Sto.best, h]
set_option maxRecDepth 20000 in
set_option maxHeartbeats 1000000 in
theorem best_calls (N : Nat → Prop) (sb lb d n cap room : Nat) (dead : Bool) (l : List Sto.Rec) (name : ByteArray) (w : World) (hB : Blk w sb (stV d room (some ⟨lb, 0, none⟩) n cap dead) 76) (hR : RecsAt 78 w N lb l) (hn : n = l.length) (hn2 : n ≤ 1000000) (hnc : n ≤ cap) (hcm : cap ≤ 9223372036854775807) (hnum : ∀ r ∈ l, r.num ≤ 4611686018427387904) :
    Calls Tryz.prog 41 #[.pointer (some ⟨sb, 0, none⟩), .string name] w fun e w' => e = .returned (.int .i64 (optI (Sto.best l name n))) ∧ Below w.heap.size w w' := by
  have c2 : w.cell? ⟨sb, 2, none⟩ = some (.slice (some ⟨lb, 0, none⟩) n cap) := hB.cell 2
  have Hn := Lib.hid hn; have HB := Lib.hid hB; have HR := Lib.hid hR; have Hnum := Lib.hid hnum
  clear hn hB hR hnum
  go_enter Tryz.func41, Tryz.ntmps41
  go_wp2_with fail
  go_loopw [5, 13] (fun u v wr => ∃ i : Nat, i ≤ n ∧ v = .int .i64 i ∧ u = .int .i64 (optI (Sto.best l name i)) ∧ Below w.heap.size w wr) (fun _ v _ => n - (intOf v).toNat)
  case atStart => exact ⟨0, by omega, rfl, rfl, Below.refl _ _⟩
  case round =>
    obtain ⟨i, hi, rfl, rfl, hb⟩ := hrel
    by_cases h0 : i < n
    · obtain ⟨r, hr⟩ : ∃ r, l[i]? = some r := ⟨l[i]'(by have := Hn.out; omega), by simp⟩
      have hRr := HR.out.below hb
      obtain ⟨a, c, c3, c4, c5, c6, _, _⟩ := hRr.at hr
      have i0 : (0 : Int) ≤ (i : Int) := by omega
      have i1 : (i : Int) < (n : Int) := by omega
      have Hr := Lib.hid hr; have HRr := Lib.hid hRr
      have hBr := HB.out.kept hb
      have HBr := Lib.hid hBr
      have hbx := Blk.new wr (recV r (.slice a r.data.length c)) 78
      have hbb : Below wr.heap.size wr (wr.alloc (.cells (recV r (.slice a r.data.length c)) 78)) := (Below.refl _ _).alloc (Nat.le_refl _) _
      obtain ⟨wb, hwb⟩ : ∃ wb, wb = wr.alloc (.cells (recV r (.slice a r.data.length c)) 78) := ⟨_, rfl⟩
      obtain ⟨bx, hbxe⟩ : ∃ bx, bx = wr.heap.size := ⟨_, rfl⟩
      have Hstep := Lib.hid (best_step (name := name) hr)
      clear hr hRr hBr
      go_upto_region 5 with fail
      rw [show (wr.alloc (.cells #[.bool r.is, .string r.name, .int .i64 (r.num : Int), .slice a r.data.length c] 78)) = wb from hwb.symm, ← hbxe]
      rw [← hwb, ← hbxe] at hbx
      rw [← hwb] at hbb
      have b0 : wb.cell? ⟨bx, 0, none⟩ = some (.bool r.is) := hbx.cell 0
      have b1 : wb.cell? ⟨bx, 1, none⟩ = some (.string r.name) := hbx.cell 1
      have b2 : wb.cell? ⟨bx, 2, none⟩ = some (.int .i64 (r.num : Int)) := hbx.cell 2
      have hbw := Lib.hid (hb.trans (hbb.mono hb.size))
      have Hbb := Lib.hid hbb
      clear hwb hbxe hbx hbb c3 c4 c5 c6
      by_cases k1 : r.is = true
      · by_cases k2 : (r.name.toList == name.toList) = true
        · cases hbest : Sto.best l name i with
          | none =>
            have Hfin := Lib.hid (show Sto.best l name (i + 1) = some i from by rw [Hstep.out, if_pos ⟨k1, k2, fun j h => by rw [hbest] at h; cases h⟩])
            rw [k1] at b0
            clear k1 hbest
            simp only [optI]
            go_quiet (fail)
            go_wp2
            exact ⟨⟨i + 1, by omega, by go_num, by rw [Hfin.out]; rfl, below_drewN hbw.out _⟩, by simp [intOf] <;> omega⟩
          | some j =>
            obtain ⟨hj, rj, hrj, _⟩ := best_lt l name i j hbest
            obtain ⟨a2, c2', _, _, e5, _⟩ := (HRr.out.below Hbb.out).at hrj
            have s2 : wb.cell? ⟨sb, 2, none⟩ = some (.slice (some ⟨lb, 0, none⟩) n cap) := (HBr.out.kept Hbb.out).cell 2
            have j0 : (0 : Int) ≤ (j : Int) := by omega
            have j1 : (j : Int) < (n : Int) := by omega
            have j2 : decide ((j : Int) < 0) = false := by simp <;> omega
            have j3 : j < n := by omega
            have n1 := Hnum.out rj (List.mem_of_getElem? hrj)
            have n2 := Hnum.out r (List.mem_of_getElem? Hr.out)
            have hgd : l.getD j Sto.Rec.free = rj := by rw [List.getD_eq_getElem?_getD, hrj]; rfl
            by_cases k3 : rj.num < r.num
            · have Hfin := Lib.hid (show Sto.best l name (i + 1) = some i from by rw [Hstep.out, if_pos ⟨k1, k2, fun j' h => by rw [hbest] at h; cases h; rw [hgd]; exact k3⟩])
              have t3 : decide ((rj.num : Int) < (r.num : Int)) = true := by simp; omega
              have t4 : decide (rj.num < r.num) = true := by simp; omega
              rw [k1] at b0
              clear k1 hbest hgd hrj
              simp only [optI]
              go_quiet (fail)
              go_wp2
              exact ⟨⟨i + 1, by omega, by go_num, by rw [Hfin.out]; rfl, below_drewN hbw.out _⟩, by simp [intOf] <;> omega⟩
            · have Hfin := Lib.hid (show Sto.best l name (i + 1) = some j from by rw [Hstep.out, if_neg (fun h => k3 (by have := h.2.2 j hbest; rw [hgd] at this; exact this)), hbest])
              have t3 : decide ((rj.num : Int) < (r.num : Int)) = false := by simp; omega
              have t4 : decide (rj.num < r.num) = false := by simp; omega
              rw [k1] at b0
              clear k1 hbest hgd hrj
              simp only [optI]
              go_quiet (fail)
              go_wp2
              exact ⟨⟨i + 1, by omega, by go_num, by rw [Hfin.out]; rfl, below_drewN hbw.out _⟩, by simp [intOf] <;> omega⟩
        · have Hfin := Lib.hid (show Sto.best l name (i + 1) = Sto.best l name i from by rw [Hstep.out, if_neg (fun h => k2 h.2.1)])
          have k2 : (r.name.toList == name.toList) = false := by simpa using k2
          rw [k1] at b0
          clear k1
          go_quiet (fail)
          go_wp2
          exact ⟨⟨i + 1, by omega, by go_num, by rw [Hfin.out], below_drewN hbw.out _⟩, by simp [intOf] <;> omega⟩
      · have Hfin := Lib.hid (show Sto.best l name (i + 1) = Sto.best l name i from by rw [Hstep.out, if_neg (fun h => k1 h.1)])
        have k1 : r.is = false := by simpa using k1
        rw [k1] at b0
        clear k1
        go_quiet (fail)
        go_wp2
        exact ⟨⟨i + 1, by omega, by go_num, by rw [Hfin.out], below_drewN hbw.out _⟩, by simp [intOf] <;> omega⟩
    · obtain rfl : n = i := by omega
      go_wp2
      go_ret
      exact ⟨rfl, hb⟩
end Go.Proofs.YtehgnkdfnnebcaaGreatDoor
end
section
namespace Go.Mem
open Go Go.RowKit Gf Go.Proofs.YtehgnkdfnnebcaaGreatDoor
set_option linter.unusedVariables false
structure RRec where
  name : ByteArray
  num : Nat
  data : List UInt8
  slot : Nat
structure RP where
  name : ByteArray
  num : Nat
  a : Option Addr
  l : Nat
  c : Nat
  slot : Nat
def eR (p : RP) : List Value := [.string p.name, .int .i64 p.num, .slice p.a p.l p.c, .int .i64 p.slot]
def WfR (_ : RP) : Prop := True
theorem ecR : EncK eR WfR 4 := ⟨fun _ _ => rfl, fun x u hu => by
  simp only [eR, List.mem_cons, List.not_mem_nil, or_false] at hu
  rcases hu with rfl | rfl | rfl | rfl <;> rfl, by decide⟩
def RPs (w : World) (N : Nat → Prop) (ps : List RP) (l : List RRec) : Prop := ∃ q : List (RP × RRec), ps = q.map (·.1) ∧ l = q.map (·.2) ∧
  ∀ z ∈ q, z.1.name = z.2.name ∧ z.1.num = z.2.num ∧ z.1.slot = z.2.slot ∧ z.1.l = z.2.data.length ∧ DataZ w N (.slice z.1.a z.1.l z.1.c) z.2.data
section
variable {w w' : World} {N S : Nat → Prop} {ps ps' : List RP} {l l' : List RRec}
theorem RPs.nil (w : World) (N : Nat → Prop) : RPs w N [] [] := ⟨[], rfl, rfl, fun _ h => by cases h⟩
theorem RPs.len (h : RPs w N ps l) : ps.length = l.length := by
  obtain ⟨q, rfl, rfl, _⟩ := h
  rw [List.length_map, List.length_map]
theorem RPs.chg (h : RPs w N ps l) (hc : Chg S w w') (hs : ∀ b, S b → b < w.heap.size → N b) : RPs w' N ps l := by
  obtain ⟨q, h1, h2, h3⟩ := h
  exact ⟨q, h1, h2, fun z hz => ⟨(h3 z hz).1, (h3 z hz).2.1, (h3 z hz).2.2.1, (h3 z hz).2.2.2.1, (h3 z hz).2.2.2.2.chg hc hs⟩⟩
theorem RPs.mono {M : Nat → Prop} (h : RPs w N ps l) (hM : ∀ b, M b → N b ∨ w.heap.size ≤ b) : RPs w M ps l := by
  obtain ⟨q, h1, h2, h3⟩ := h
  exact ⟨q, h1, h2, fun z hz => ⟨(h3 z hz).1, (h3 z hz).2.1, (h3 z hz).2.2.1, (h3 z hz).2.2.2.1, (h3 z hz).2.2.2.2.mono hM⟩⟩
theorem RPs.app (h : RPs w N ps l) (h' : RPs w N ps' l') : RPs w N (ps ++ ps') (l ++ l') := by
  obtain ⟨q, h1, h2, h3⟩ := h
  obtain ⟨q', h1', h2', h3'⟩ := h'
  refine ⟨q ++ q', by rw [List.map_append, h1, h1'], by rw [List.map_append, h2, h2'], fun z hz => ?_⟩
  rcases List.mem_append.1 hz with hz | hz
  · exact h3 z hz
  · exact h3' z hz
theorem RPs.one {p : RP} {x : RRec} (h1 : p.name = x.name) (h2 : p.num = x.num) (h3 : p.slot = x.slot) (h4 : p.l = x.data.length) (h5 : DataZ w N (.slice p.a p.l p.c) x.data) : RPs w N [p] [x] :=
  ⟨[(p, x)], rfl, rfl, fun z hz => by rw [List.mem_singleton.1 hz]; exact ⟨h1, h2, h3, h4, h5⟩⟩
theorem RPs.at (h : RPs w N ps l) {i : Nat} {x : RRec} (hx : l[i]? = some x) : ∃ p, ps[i]? = some p ∧ p.name = x.name ∧ p.num = x.num ∧ p.slot = x.slot ∧ p.l = x.data.length ∧ DataZ w N (.slice p.a p.l p.c) x.data := by
  obtain ⟨q, rfl, rfl, h3⟩ := h
  rw [List.getElem?_map] at hx
  cases hq : q[i]? with
  | none => rw [hq] at hx; cases hx
  | some z =>
    rw [hq] at hx
    injection hx with hx
    have := h3 z (List.mem_of_getElem? hq)
    subst hx
    exact ⟨z.1, by rw [List.getElem?_map, hq]; rfl, this⟩
theorem RPs.sub (h : RPs w N ps l) (i n : Nat) : RPs w N ((ps.drop i).take n) ((l.drop i).take n) := by
  obtain ⟨q, rfl, rfl, h3⟩ := h
  exact ⟨(q.drop i).take n, by rw [List.map_take, List.map_drop], by rw [List.map_take, List.map_drop], fun z hz => h3 z (List.mem_of_mem_drop (List.mem_of_mem_take hz))⟩
end
def RowR (w : World) (N : Nat → Prop) (v : Value) (ps : List RP) : Prop := ∃ a c, v = .slice a ps.length c ∧ ps.length ≤ c ∧ c ≤ maxLen ∧
  (0 < ps.length → ∃ b off, a = some ⟨b, off, none⟩ ∧ b < w.heap.size ∧ ¬ N b ∧ ∀ (i : Nat) (p : RP), ps[i]? = some p → ∀ (k : Nat) (x : Value), (eR p)[k]? = some x → w.cell? ⟨b, off + i * 4 + k, none⟩ = some x)
theorem RowR.nil (w : World) (N : Nat → Prop) : RowR w N (.slice none 0 0) [] := ⟨none, 0, rfl, Nat.le_refl _, Nat.zero_le _, fun h => by simp at h⟩
theorem RowR.chg {w w' : World} {N S : Nat → Prop} {v : Value} {ps : List RP} (h : RowR w N v ps) (hc : Chg S w w') (hs : ∀ b, S b → b < w.heap.size → N b) : RowR w' N v ps := by
  obtain ⟨a, c, rfl, h1, h2, h3⟩ := h
  refine ⟨a, c, rfl, h1, h2, fun h0 => ?_⟩
  obtain ⟨b, off, rfl, h4, h5, h6⟩ := h3 h0
  have hk : ∀ o, w'.cell? ⟨b, o, none⟩ = w.cell? ⟨b, o, none⟩ := fun o => by
    unfold World.cell?
    rw [hc.block b h4 (fun hS => h5 (hs b hS h4))]
  exact ⟨b, off, rfl, Nat.lt_of_lt_of_le h4 hc.size, h5, fun i p hp k x hx => by rw [hk]; exact h6 i p hp k x hx⟩
theorem RowR.mono {w : World} {N M : Nat → Prop} {v : Value} {ps : List RP} (h : RowR w N v ps) (hM : ∀ b, M b → N b ∨ w.heap.size ≤ b) : RowR w M v ps := by
  obtain ⟨a, c, rfl, h1, h2, h3⟩ := h
  refine ⟨a, c, rfl, h1, h2, fun h0 => ?_⟩
  obtain ⟨b, off, rfl, h4, h5, h6⟩ := h3 h0
  exact ⟨b, off, rfl, h4, fun hb => (hM b hb).elim h5 (fun h => by omega), h6⟩
theorem RowR.own {w : World} {N : Nat → Prop} {v : Value} {ps : List RP} {base : Nat} (h : OwnG eR WfR 4 73 w base v ps) (hN : ∀ g, v.ownBlock = some g → ¬ N g) : RowR w N v ps := by
  rcases Nat.eq_zero_or_pos ps.length with h0 | h0
  · have hn : ps = [] := List.eq_nil_of_length_eq_zero h0
    obtain ⟨p, c, rfl⟩ := h.empty hn
    have hm : c ≤ maxLen := by
      rcases h.own.2 with ⟨e, _⟩ | ⟨g, cap, cur, e, _, _, _, hm, _⟩
      · injection e with _ _ e; rw [e]; exact Nat.zero_le _
      · injection e with _ _ e; rw [e]; exact hm
    subst hn
    exact ⟨p, c, rfl, Nat.zero_le _, hm, fun h => by simp at h⟩
  · obtain ⟨g, cap, rfl, hr⟩ := h.ex h0
    obtain ⟨cur, hh, hb, k1, k2, k3, k4⟩ := hr.block
    refine ⟨_, cap, rfl, k1, k2, fun _ => ⟨g, 0, rfl, hr.lt, hN g rfl, fun i p hp k x hx => ?_⟩⟩
    have hk : k < 4 := (List.getElem?_eq_some_iff.1 hx).1
    have hi := some_lt hp
    rw [Nat.zero_add, hr.cell (in_row hi hk), allV_get ecR ps h.wf i p hp k hk]
    exact hx
structure RStore (w : World) (N : Nat → Prop) (q r B : Nat) (lv : Value) (ps : List RP) (D : DiskS) (slots room : Nat) (L : List RRec) (died : Bool) : Prop where
  blk : Blk w q #[.pointer (some ⟨r, 0, none⟩), .int .i64 slots, .int .i64 room, lv, .bool died] 71
  disk : RDisk w r B D
  row : RowR w N lv ps
  recs : RPs w N ps L
  nq : N q
  nr : N r
  nB : N B
  qr : q ≠ r
  qB : q ≠ B
  n : D.n = slots * (room + 1)
  s1 : 1 ≤ slots ∧ slots ≤ 1024
  r1 : 1 ≤ room ∧ room ≤ 1024
  few : L.length ≤ slots
  small : ∀ x ∈ L, x.data.length ≤ 1000000 ∧ x.num < 1000000000000 ∧ x.slot < slots
def rfind (L : List RRec) (name : ByteArray) : Nat → Option Nat
  | 0 => none
  | k + 1 => match rfind L name k with
    | some j => some j
    | none => match L[k]? with
      | none => none
      | some r => if (r.name.toList == name.toList) = true then some k else none
end Go.Mem
namespace Go.Proofs.YtehgnkdfnnebcaaGreatDoor
open Go Go.RowKit Go.Mem Gf
set_option linter.unusedVariables false
attribute [local go_sem ↓] Go.wp_at_zero Go.wp_at_succ
set_option maxRecDepth 20000 in
set_option maxHeartbeats 1000000 in
theorem rfind_calls (w : World) (N : Nat → Prop) (q r B : Nat) (lv : Value) (ps : List RP) (D : DiskS) (slots room : Nat) (L : List RRec) (died : Bool) (h : RStore w N q r B lv ps D slots room L died) (name : ByteArray) :
    Calls Tryz.prog 42 #[.pointer (some ⟨q, 0, none⟩), .string name] w fun e w' => e = .returned (.int .i64 (optI (rfind L name L.length))) ∧ w = w' := by
  have c3 : w.cell? ⟨q, 3, none⟩ = some lv := h.blk.cell 3
  obtain ⟨a, c, rfl, h1, h2, h3⟩ := id h.row
  obtain ⟨n, hn⟩ : ∃ n, n = ps.length := ⟨_, rfl⟩
  have hL : L.length = n := by rw [hn, h.recs.len]
  have hfew := h.few
  have hs1 := h.s1
  rw [hL]
  rw [← hn] at c3 h1 h3
  have hnb : n ≤ 1024 := by omega
  have H := Lib.hid (And.intro h (And.intro hL (And.intro h3 hn)))
  clear h hn hL h3 h1 h2 hfew hs1
  go_enter Tryz.func42, Tryz.ntmps42
  go_wp2_with fail
  go_loopw [11] (fun v wr => ∃ i : Nat, i ≤ n ∧ v = .int .i64 i ∧ Hid (rfind L name i = none) ∧ w = wr) (fun v _ => n - (intOf v).toNat)
  case atStart => exact ⟨0, Nat.zero_le _, rfl, rfl, rfl⟩
  case round =>
    obtain ⟨i, hi, rfl, hf, rfl⟩ := hrel
    by_cases h0 : i < n
    · obtain ⟨x, hx⟩ : ∃ x, L[i]? = some x := ⟨L[i]'(by have := H.out.2.1; omega), by simp⟩
      obtain ⟨p, hp, e1, _⟩ := H.out.1.recs.at hx
      obtain ⟨b, off, ha, _, _, hc⟩ := H.out.2.2.1 (by omega)
      have cx := hc i p hp 0 (.string p.name) rfl
      rw [e1, Nat.add_zero] at cx
      subst ha
      have i0 : (0 : Int) ≤ (i : Int) := by omega
      have i1 : (i : Int) < (n : Int) := by omega
      have hst : rfind L name (i + 1) = if (x.name.toList == name.toList) = true then some i else none := by rw [rfind, hf.out]; simp only [hx]
      have hlast : ∀ k, i + 1 ≤ k → (x.name.toList == name.toList) = true → rfind L name k = some i := fun k hk he => by
        induction k with
        | zero => omega
        | succ k ih =>
          rcases Nat.lt_or_ge i k with h' | h'
          · rw [rfind, ih (by omega)]
          · obtain rfl : i = k := by omega
            rw [hst, if_pos he]
      have HX := Lib.hid (And.intro hst hlast)
      have HF := hf
      clear hst hlast hx hp hc hf e1
      by_cases k2 : (x.name.toList == name.toList) = true
      · have HQ := Lib.hid (HX.out.2 n (by omega) k2)
        go_wp2_with fail
        go_ret
        exact ⟨by rw [HQ.out]; rfl, rfl⟩
      · have HQ := Lib.hid (show rfind L name (i + 1) = none from by rw [HX.out.1, if_neg k2])
        have k2 : (x.name.toList == name.toList) = false := by simpa using k2
        go_wp2_with fail
        exact ⟨⟨i + 1, by omega, by go_num, HQ, trivial⟩, by simp [intOf] <;> omega⟩
    · obtain rfl : n = i := by omega
      clear h0 hi
      go_wp2_with fail
      go_ret
      exact ⟨by rw [hf.out]; rfl, rfl⟩
end Go.Proofs.YtehgnkdfnnebcaaGreatDoor
end
section
namespace Go.Mem
open Go Go.RowKit Gf Go.Proofs.YtehgnkdfnnebcaaGreatDoor
def rgetR (L : List RRec) (died : Bool) (name : ByteArray) : Option (List UInt8) := if died = true then none else match rfind L name L.length with
  | none => none
  | some i => (L[i]?).map (·.data)
theorem rfind_lt {L : List RRec} {name : ByteArray} : ∀ {n i : Nat}, rfind L name n = some i → i < n ∧ ∃ x, L[i]? = some x ∧ (x.name.toList == name.toList) = true
  | 0, i, h => by simp [rfind] at h
  | n + 1, i, h => by
    rw [rfind] at h
    split at h
    · rename_i j hj
      cases h
      have := rfind_lt hj
      exact ⟨by omega, this.2⟩
    · split at h
      · cases h
      · rename_i x hx
        split at h
        · rename_i he
          cases h
          exact ⟨by omega, x, hx, he⟩
        · cases h
def usedR (L : List RRec) (i : Nat) : Bool := L.any fun x => decide (x.slot = i)
def rfreeGo (L : List RRec) (slots : Nat) : Nat → Option Nat
  | 0 => none
  | k + 1 => match rfreeGo L slots k with
    | some j => some j
    | none => if usedR L k = true then none else some k
end Go.Mem
namespace Go.Proofs.YtehgnkdfnnebcaaGreatDoor
open Go Go.RowKit Go.Mem Gf
set_option linter.unusedVariables false
attribute [local go_sem ↓] Go.wp_at_zero Go.wp_at_succ
set_option maxRecDepth 20000 in
set_option maxHeartbeats 1000000 in
theorem rget10_calls (w : World) (N : Nat → Prop) (q r B : Nat) (lv : Value) (ps : List RP) (D : DiskS) (slots room : Nat) (L : List RRec) (died : Bool) (h : RStore w N q r B lv ps D slots room L died) (name : ByteArray) :
    Calls Tryz.prog 18 #[.pointer (some ⟨q, 0, none⟩), .string name] w fun e w' =>
      (rgetR L died name = none ∧ e = .returned (.tuple #[.slice none 0 0, .bool false]) ∨ ∃ v bs, rgetR L died name = some bs ∧ e = .returned (.tuple #[v, .bool true]) ∧ OwnX 5 w' w.heap.size v bs) ∧ Below w.heap.size w w' := by
  have c3 : w.cell? ⟨q, 3, none⟩ = some lv := h.blk.cell 3
  have c4 : w.cell? ⟨q, 4, none⟩ = some (.bool died) := h.blk.cell 4
  obtain ⟨a, c, rfl, h1, h2, h3⟩ := id h.row
  obtain ⟨n, hn⟩ : ∃ n, n = ps.length := ⟨_, rfl⟩
  have hL : L.length = n := by rw [hn, h.recs.len]
  have hfew := h.few
  have hs1 := h.s1
  rw [← hn] at c3 h1 h3
  have hnb : n ≤ 1024 := by omega
  have H := Lib.hid (And.intro h (And.intro hL (And.intro h3 hn)))
  clear h hn hL h3 h1 h2 hfew hs1
  go_enter Tryz.func18, Tryz.ntmps18
  go_wp2_with fail
  refine (rfind_calls w N q r B _ ps D slots room L died H.out.1 name).mono ?_
  rintro e w1 ⟨rfl, rfl⟩
  cases hf : rfind L name L.length with
  | none =>
    have HQ := Lib.hid (show rgetR L died name = none from by unfold rgetR; rw [hf]; split <;> rfl)
    clear hf
    simp only [optI]
    go_wp2_with fail
    go_ret2
    exact ⟨.inl ⟨HQ.out, rfl⟩, Below.refl _ _⟩
  | some i =>
    obtain ⟨hi, x, hx, _⟩ := rfind_lt hf
    rw [H.out.2.1] at hi
    cases died with
    | true =>
      have HQ := Lib.hid (show rgetR L true name = none from by unfold rgetR; rw [if_pos rfl])
      clear hf
      simp only [optI]
      have i0 : decide ((0 : Int) ≤ (i : Int)) = true := by simp
      go_wp2_with fail
      go_ret2
      exact ⟨.inl ⟨HQ.out, rfl⟩, Below.refl _ _⟩
    | false =>
      have HQ := Lib.hid (show rgetR L false name = some x.data from by unfold rgetR; rw [if_neg (by decide), hf]; simp only [hx]; rfl)
      obtain ⟨p, hp, e1, e2, e3, e4, hd⟩ := H.out.1.recs.at hx
      obtain ⟨b, off, ha, _, _, hc⟩ := H.out.2.2.1 (by omega)
      have cx := hc i p hp 2 (.slice p.a p.l p.c) rfl
      subst ha
      have hd1 := hd.1
      obtain ⟨m, hm⟩ : ∃ m, m = x.data.length := ⟨_, rfl⟩
      rw [e4, ← hm] at hd1 cx
      have i0 : (0 : Int) ≤ (i : Int) := by omega
      have i1 : (i : Int) < (n : Int) := by omega
      have i2 : decide ((0 : Int) ≤ (i : Int)) = true := by simp
      have hml : m ≤ 1000000 := by rw [hm]; exact (H.out.1.small x (List.mem_of_getElem? hx)).1
      obtain ⟨pa, hpa⟩ : ∃ z, z = p.a := ⟨_, rfl⟩
      obtain ⟨pc, hpc⟩ : ∃ z, z = p.c := ⟨_, rfl⟩
      rw [← hpa, ← hpc] at hd1 cx
      have HD := Lib.hid (And.intro hd1 hm)
      clear hf hx hp hd hd1 hc e1 e2 e3 e4 hm hpa hpc
      simp only [optI]
      go_wp2_with (at_builtin; refine appX E8c rfl _ _ rfl (base := w.heap.size) (bs := []) (news := x.data) rfl rfl (OwnX.nil _ _ _) HD.out.1 ?q1 ?q2 ?_)
      case q1 => rw [List.length_nil, ← HD.out.2]; omega
      case q2 => exact Nat.le_refl _
      intro v4 w4 ho4 hg4
      have HO := Lib.hid (And.intro ho4 (grown_none hg4 rfl))
      obtain ⟨va, vc, ev⟩ := ho4.eq_slice
      clear ho4 hg4
      go_wp2_with fail
      go_ret2
      exact ⟨.inr ⟨v4, x.data, HQ.out, rfl, HO.out.1⟩, HO.out.2⟩
theorem rfreeGo_lt {L : List RRec} {s : Nat} : ∀ {n i : Nat}, rfreeGo L s n = some i → i < n ∧ usedR L i = false
  | 0, i, h => by simp [rfreeGo] at h
  | n + 1, i, h => by
    rw [rfreeGo] at h
    split at h
    · rename_i j hj
      cases h
      have := rfreeGo_lt hj
      exact ⟨by omega, this.2⟩
    · split at h
      · cases h
      · rename_i hu
        cases h
        exact ⟨by omega, by simpa using hu⟩
set_option maxRecDepth 20000 in
set_option maxHeartbeats 2000000 in
theorem rfree10_calls (w : World) (N : Nat → Prop) (q r B : Nat) (lv : Value) (ps : List RP) (D : DiskS) (slots room : Nat) (L : List RRec) (died : Bool) (h : RStore w N q r B lv ps D slots room L died) :
    Calls Tryz.prog 49 #[.pointer (some ⟨q, 0, none⟩)] w fun e w' => e = .returned (.int .i64 (optI (rfreeGo L slots slots))) ∧ w = w' := by
  have c1 : w.cell? ⟨q, 1, none⟩ = some (.int .i64 slots) := h.blk.cell 1
  have c3 : w.cell? ⟨q, 3, none⟩ = some lv := h.blk.cell 3
  obtain ⟨a, c, rfl, h1, h2, h3⟩ := id h.row
  obtain ⟨n, hn⟩ : ∃ n, n = ps.length := ⟨_, rfl⟩
  have hL : L.length = n := by rw [hn, h.recs.len]
  have hfew := h.few
  have hs1 := h.s1.2
  rw [← hn] at c3 h1 h3
  have hnb : n ≤ 1024 := by omega
  have H := Lib.hid (And.intro h (And.intro hL (And.intro h3 hn)))
  clear h hn hL h3 h1 h2 hfew
  go_enter Tryz.func49, Tryz.ntmps49
  go_wp2_with fail
  go_loopw [3] (fun v wr => ∃ i : Nat, i ≤ slots ∧ v = .int .i64 i ∧ Hid (rfreeGo L slots i = none) ∧ w = wr) (fun v _ => slots - (intOf v).toNat)
  case atStart => exact ⟨0, Nat.zero_le _, rfl, rfl, rfl⟩
  case round =>
    obtain ⟨i, hi, rfl, hf, rfl⟩ := hrel
    by_cases h0 : i < slots
    · have i0 : decide ((i : Int) < (slots : Int)) = true := by simp; omega
      have i0' : decide (i < slots) = true := by simp; omega
      have HI := Lib.hid h0
      clear h0
      go_upto_region 6 with fail
      go_loopw [4, 19] (fun u v wr => ∃ k : Nat, k ≤ n ∧ v = .int .i64 k ∧ u = .bool ((L.take k).any fun x => decide (x.slot = i)) ∧ w = wr) (fun _ v _ => n - (intOf v).toNat)
      case atStart => exact ⟨0, Nat.zero_le _, rfl, by simp, rfl⟩
      case round =>
        obtain ⟨k, hk, rfl, rfl, rfl⟩ := hrel
        by_cases h0 : k < n
        · obtain ⟨x, hx⟩ : ∃ x, L[k]? = some x := ⟨L[k]'(by have := H.out.2.1; omega), by simp⟩
          have hst : ((L.take (k + 1)).any fun x => decide (x.slot = i)) = (((L.take k).any fun x => decide (x.slot = i)) || decide (x.slot = i)) := by
            rw [List.take_add_one, hx]
            simp
          obtain ⟨p, hp, e1, e2, e3, _⟩ := H.out.1.recs.at hx
          obtain ⟨b, off, ha, _, _, hc⟩ := H.out.2.2.1 (by omega)
          have cx := hc k p hp 3 (.int .i64 p.slot) rfl
          rw [e3] at cx
          subst ha
          have k0 : (0 : Int) ≤ (k : Int) := by omega
          have k1 : (k : Int) < (n : Int) := by omega
          have HX := Lib.hid hst
          obtain ⟨u, hu⟩ : ∃ u, u = ((L.take k).any fun x => decide (x.slot = i)) := ⟨_, rfl⟩
          rw [← hu] at hst ⊢
          have HU := Lib.hid hst
          clear hst hx hp hc e1 e2 e3 hu HX
          cases u with
          | true =>
            have HV := Lib.hid (show ((L.take (k + 1)).any fun x => decide (x.slot = i)) = true from by rw [HU.out]; rfl)
            go_wp2_with fail
            exact ⟨⟨k + 1, by omega, by go_num, by rw [HV.out], trivial⟩, by simp [intOf] <;> omega⟩
          | false =>
            by_cases he : x.slot = i
            · have HV := Lib.hid (show ((L.take (k + 1)).any fun x => decide (x.slot = i)) = true from by rw [HU.out]; simp [he])
              have t1 : ((x.slot : Int) == (i : Int)) = true := by simp; omega
              have t2 : (x.slot == i) = true := by simp; omega
              clear he
              go_wp2_with fail
              exact ⟨⟨k + 1, by omega, by go_num, by rw [HV.out], trivial⟩, by simp [intOf] <;> omega⟩
            · have HV := Lib.hid (show ((L.take (k + 1)).any fun x => decide (x.slot = i)) = false from by rw [HU.out]; simp [he])
              have t1 : ((x.slot : Int) == (i : Int)) = false := by simp; omega
              have t2 : (x.slot == i) = false := by simp; omega
              clear he
              go_wp2_with fail
              exact ⟨⟨k + 1, by omega, by go_num, by rw [HV.out], trivial⟩, by simp [intOf] <;> omega⟩
        · obtain rfl : n = k := by omega
          have hall : ((L.take n).any fun x => decide (x.slot = i)) = usedR L i := by
            rw [List.take_of_length_le (by have := H.out.2.1; omega)]; rfl
          obtain ⟨u, hu⟩ : ∃ u, u = ((L.take n).any fun x => decide (x.slot = i)) := ⟨_, rfl⟩
          rw [← hu]
          have HU := Lib.hid (hu.trans hall)
          clear hall hu h0 hk
          have k0 : decide ((n : Int) < (n : Int)) = false := by simp
          have k0' : decide (n < n) = false := by simp
          cases u with
          | true =>
            have HV := Lib.hid (show rfreeGo L slots (i + 1) = none from by rw [rfreeGo, hf.out]; simp only [if_pos HU.out.symm])
            go_wp2_with fail
            exact ⟨⟨i + 1, by have := HI.out; omega, by go_num, HV, trivial⟩, by have := HI.out; simp [intOf]; omega⟩
          | false =>
            have HV := Lib.hid (show rfreeGo L slots slots = some i from by
              have h1 : rfreeGo L slots (i + 1) = some i := by
                rw [rfreeGo, hf.out]
                simp only []
                rw [if_neg (by rw [← HU.out]; decide)]
              have h2 : ∀ m, i + 1 ≤ m → rfreeGo L slots m = some i := fun m hm => by
                induction m with
                | zero => omega
                | succ m ih =>
                  rcases Nat.lt_or_ge i m with h' | h'
                  · rw [rfreeGo, ih (by omega)]
                  · obtain rfl : i = m := by omega
                    exact h1
              exact h2 slots (by have := HI.out; omega))
            go_wp2_with fail
            go_ret
            exact ⟨by rw [HV.out]; rfl, rfl⟩
    · obtain rfl : slots = i := by omega
      clear h0 hi
      have i0 : decide ((slots : Int) < (slots : Int)) = false := by simp
      have i0' : decide (slots < slots) = false := by simp
      go_wp2_with fail
      go_ret
      exact ⟨by rw [hf.out]; rfl, rfl⟩
end Go.Proofs.YtehgnkdfnnebcaaGreatDoor
end
section
namespace Go.Mem
open Go Go.RowKit Gf
def St.freeE (s : St) (i : Nat) : Int := s.disk.wres (i * (s.room + 1) : Nat) 1
def St.freeS (s : St) (i : Nat) : St := { s with disk := s.disk.wr (i * (s.room + 1) : Nat) [0], dead := s.dead || (s.freeE i != 0), recs := if s.freeE i = 0 then s.recs.set i Sto.Rec.free else s.recs }
def St.writeE (s : St) (i : Nat) (bs : List UInt8) : Int := s.disk.wres (i : Nat) bs.length
def St.writeS (s : St) (i : Nat) (bs : List UInt8) : St := { s with disk := s.disk.wr (i : Nat) bs, dead := s.dead || (s.writeE i bs != 0) }
theorem DiskS.wr_ge (s : DiskS) (i : Int) (bs : List UInt8) : s.writes ≤ (s.wr i bs).writes := by
  unfold DiskS.wr DiskS.write; split
  · split
    · exact Nat.le_refl _
    · exact Nat.le_succ _
  · exact Nat.le_refl _
theorem St.Ok.freeS {s : St} (h : s.Ok) (i : Nat) (hf : s.disk.writes < 72057594037927936) : (s.freeS i).Ok := by
  have hl : (s.freeS i).recs.length = s.recs.length := by unfold St.freeS; simp only; split <;> simp
  refine ⟨h.room1, h.room2, by rw [hl]; exact h.len1, by rw [hl]; exact h.len2, by rw [hl]; exact (DiskS.wr_n _ _ _).trans h.size, fun r hr => ?_, ?_⟩
  · have hw : s.disk.writes ≤ (s.freeS i).disk.writes := DiskS.wr_ge _ _ _
    have : r ∈ s.recs ∨ r = Sto.Rec.free := by
      unfold St.freeS at hr
      simp only at hr
      split at hr
      · rcases List.mem_or_eq_of_mem_set hr with h | h
        · exact .inl h
        · exact .inr h
      · exact .inl hr
    rcases this with h' | rfl
    · obtain ⟨a, b, c⟩ := h.each r h'
      exact ⟨a, b, by omega⟩
    · exact ⟨Nat.zero_le _, Nat.zero_le _, Nat.zero_le _⟩
  · have : (s.freeS i).disk.writes ≤ s.disk.writes + 1 := DiskS.wr_writes _ _ _
    omega
theorem St.Ok.writeS {s : St} (h : s.Ok) (i : Nat) (bs : List UInt8) (hf : s.disk.writes < 72057594037927936) : (s.writeS i bs).Ok := by
  refine ⟨h.room1, h.room2, h.len1, h.len2, (DiskS.wr_n _ _ _).trans h.size, fun r hr => ?_, ?_⟩
  · have hw : s.disk.writes ≤ (s.writeS i bs).disk.writes := DiskS.wr_ge _ _ _
    obtain ⟨a, b, c⟩ := h.each r hr
    exact ⟨a, b, by omega⟩
  · have : (s.writeS i bs).disk.writes ≤ s.disk.writes + 1 := DiskS.wr_writes _ _ _
    omega
end Go.Mem
namespace Go.Proofs.YtehgnkdfnnebcaaGreatDoor
open Go Go.RowKit Go.Mem Gf
attribute [local go_sem ↓] Go.wp_at_zero Go.wp_at_succ
theorem chg4i (w : World) (g k : Nat) (u0 u1 u2 u3 : Value) : Chg (fun b => b = g) w ((((w.setCell ⟨g, k, none⟩ u0).setCell ⟨g, k + 1, none⟩ u1).setCell ⟨g, k + 2, none⟩ u2).setCell ⟨g, k + 3, none⟩ u3) := by
  refine Chg.set (S := fun b => b = g) ?_ (a := ⟨g, k + 3, none⟩) rfl u3
  refine Chg.set (S := fun b => b = g) ?_ (a := ⟨g, k + 2, none⟩) rfl u2
  refine Chg.set (S := fun b => b = g) ?_ (a := ⟨g, k + 1, none⟩) rfl u1
  exact Chg.set (S := fun b => b = g) (Chg.refl _ _) (a := ⟨g, k, none⟩) rfl u0
set_option maxRecDepth 20000 in
set_option maxHeartbeats 2000000 in
theorem free_at (N : Nat → Prop) (sb lb d L i : Nat) (s : St) (w : World) (h : IsStore w N sb lb d L s) (hi : i < s.recs.length) (hfew : s.disk.writes < 72057594037927936) :
    Calls Tryz.prog 44 #[.pointer (some ⟨sb, 0, none⟩), .int .i64 i] w fun e w' => e = .returned (.int .i64 (s.freeE i)) ∧ IsStore w' N sb lb d L (s.freeS i) ∧ Chg (Foot sb lb d L) w w' := by
  obtain ⟨lc, hS, hlc1, hlc2⟩ := h.blk
  have hD := h.disk
  have H := Lib.hid h
  have hne : sb ≠ d ∧ sb ≠ L := ⟨h.ne.2.1, h.ne.2.2.1⟩
  have hok := h.ok
  have hi2 : i ≤ 1024 := by have := hok.len2; omega
  have hr := hok.room2
  obtain ⟨room, hroom⟩ : ∃ r, r = s.room := ⟨_, rfl⟩
  obtain ⟨n, hn⟩ : ∃ n, n = s.recs.length := ⟨_, rfl⟩
  obtain ⟨D, hDD⟩ : ∃ D, D = s.disk := ⟨_, rfl⟩
  obtain ⟨dead, hdd⟩ : ∃ dd, dd = s.dead := ⟨_, rfl⟩
  have HzE := Lib.hid (show s.freeE i = D.wres (i * (room + 1) : Nat) 1 from by rw [hDD, hroom]; rfl)
  have HSS := Lib.hid (show s.freeS i = { s with disk := D.wr (i * (room + 1) : Nat) [0], dead := dead || (s.freeE i != 0), recs := if s.freeE i = 0 then s.recs.set i Sto.Rec.free else s.recs } from by rw [hDD, hroom, hdd]; rfl)
  have hfew' := hfew
  have Hfew := Lib.hid hfew'
  rw [← hroom, ← hn, ← hdd] at hS
  rw [← hDD] at hD hfew
  rw [← hroom] at hr
  rw [← hn] at hi hlc1
  have hw : D.writes < 4611686018427387904 := by omega
  have Hr := Lib.hid hroom; have Hn := Lib.hid hn; have HDD := Lib.hid hDD; have Hdd := Lib.hid hdd; have Hok := Lib.hid hok
  clear hroom hn hDD hdd h hok hfew' hfew
  generalize hla : (some ⟨lb, 0, none⟩ : Option Addr) = la at hS
  have Hla := Lib.hid hla
  clear hla
  obtain ⟨z, hz⟩ : ∃ z, z = D.wres (i * (room + 1) : Nat) 1 := ⟨_, rfl⟩
  have c0 : w.cell? ⟨sb, 0, none⟩ = some (.pointer (some ⟨d, 0, none⟩)) := by rw [hS.cell]; rfl
  have c1 : w.cell? ⟨sb, 1, none⟩ = some (.int .i64 room) := by rw [hS.cell]; rfl
  have d0 : (w.alloc (.cells #[.int .u8 0] 5)).cell? ⟨sb, 0, none⟩ = some (.pointer (some ⟨d, 0, none⟩)) := by rw [(hS.alloc _).cell]; rfl
  have d1 : (w.alloc (.cells #[.int .u8 0] 5)).cell? ⟨sb, 1, none⟩ = some (.int .i64 room) := by rw [(hS.alloc _).cell]; rfl
  have hb0 : Below w.heap.size w (w.alloc (.cells #[.int .u8 0] 5)).drew := below_drewN ((Below.refl _ _).alloc (Nat.le_refl _) _) 1
  have q1 : IntKind.i64.wrap ((room : Int) + 1) = (room : Int) + 1 := IntWalk.i64_in _ (by omega)
  have hm : i * (room + 1) ≤ 1024 * 1025 := Nat.mul_le_mul hi2 (by omega)
  have e2 : (i : Int) * ((room : Int) + 1) = ((i * (room + 1) : Nat) : Int) := by push_cast; rfl
  have q2 : IntKind.i64.wrap ((i : Int) * ((room : Int) + 1)) = (i : Int) * ((room : Int) + 1) := IntWalk.i64_in _ (by rw [e2]; omega)
  rw [HzE.out, ← hz]
  have HS := Lib.hid hS; have HD := Lib.hid hD; have Hz := Lib.hid hz; have E2 := Lib.hid e2; have Hb0 := Lib.hid hb0
  clear hS hD hz e2 hm hb0
  go_enter Tryz.func44, Tryz.ntmps44
  go_wp2_with fail
  go_region_held3 (fun w' => w'.cell? ⟨sb, 0, none⟩ = some (.pointer (some ⟨d, 0, none⟩)) ∧ w'.cell? ⟨sb, 1, none⟩ = some (.int .i64 room)) (first | exact ⟨c0, c1⟩ | exact ⟨d0, d1⟩ | assumption)
    (first
      | (go_at_call 57
         rw [E2.out]
         refine (dwrite_any d L D (i * (room + 1) : Nat) _ [0] _ (HD.out.below Hb0.out) (Bys.drewN (bys_one w 0 (.int .u8 0) rfl 5) 1) hw).mono ?_
         rintro e w2 ⟨rfl, hD2, hc2⟩
         have hS2 := hc2.blk (HS.out.kept Hb0.out) (fun h => by rcases h with h | h; exact hne.1 h; exact hne.2 h)
         have hh : w2.cell? ⟨sb, 0, none⟩ = some (.pointer (some ⟨d, 0, none⟩)) ∧ w2.cell? ⟨sb, 1, none⟩ = some (.int .i64 room) := ⟨hS2.cell 0, hS2.cell 1⟩
         rw [show ([0] : List UInt8).length = 1 from rfl, ← Hz.out]))
  have HS2 := Lib.hid hS2; have HD2 := Lib.hid hD2
  have HC2 := Lib.hid (show Chg (Tri sb d L) w w2 from (Chg.of_below Hb0.out).trans (hc2.mono fun b h => .inr h))
  have g2 : w2.cell? ⟨sb, 2, none⟩ = some (.slice la n lc) := hS2.cell 2
  have g3 : w2.cell? ⟨sb, 3, none⟩ = some (.bool dead) := hS2.cell 3
  have f3 := hS2.free 3
  clear hS2 hD2 hc2 hh q1 q2 c0 c1 d0 d1
  by_cases h0 : z = 0
  · subst h0
    have g2' : w2.cell? ⟨sb, 2, none⟩ = some (.slice (some ⟨lb, 0, none⟩) n lc) := by rw [Hla.out]; exact g2
    clear g2
    have hRec := (H.out.recs.chg (S := Tri sb d L) HC2.out (fun e => by rcases e with e | e | e; exact H.out.ne.1 e.symm; exact H.out.ne.2.2.2.1 e; exact H.out.ne.2.2.2.2 e) (fun b hb _ => H.out.foot b (by rcases hb with e | e | e; exact .inl e; exact .inr (.inr (.inl e)); exact .inr (.inr (.inr e)))))
    obtain ⟨r0, hr0⟩ : ∃ r, s.recs[i]? = some r := ⟨s.recs[i]'(by have := Hn.out; omega), by simp⟩
    obtain ⟨xa, xc, e0, e1, e2, e3, _, ef⟩ := hRec.at hr0
    have i0 : (0 : Int) ≤ (i : Int) := by omega
    have i1 : (i : Int) < (n : Int) := by omega
    have f0 := ef (i * 4); have f1 := ef (i * 4 + 1); have f2 := ef (i * 4 + 2); have f4 := ef (i * 4 + 3)
    have HREC := Lib.hid hRec
    have HX := Lib.hid hRec
    clear hRec hr0 ef
    go_wp2
    go_ret
    have hset := HREC.out.set (i := i) (by have := Hn.out; omega) Sto.Rec.free (.slice none 0 0) (H.out.foot lb (.inr (.inl rfl))) (DataAt.nil _ _)
    have hc5 : Chg (fun b => b = lb) w2 ((((w2.setCell ⟨lb, i * 4, none⟩ (.bool false)).setCell ⟨lb, i * 4 + 1, none⟩ (.string { data := #[] })).setCell ⟨lb, i * 4 + 2, none⟩ (.int .i64 0)).setCell ⟨lb, i * 4 + 3, none⟩ (.slice none 0 0)) := chg4i w2 lb (i * 4) _ _ _ _
    have hC : Chg (Foot sb lb d L) w ((((w2.setCell ⟨lb, i * 4, none⟩ (.bool false)).setCell ⟨lb, i * 4 + 1, none⟩ (.string { data := #[] })).setCell ⟨lb, i * 4 + 2, none⟩ (.int .i64 0)).setCell ⟨lb, i * 4 + 3, none⟩ (.slice none 0 0)) := (HC2.out.mono fun b hb => by rcases hb with e | e | e; exact .inl e; exact .inr (.inr (.inl e)); exact .inr (.inr (.inr e))).trans (hc5.mono fun b hb => .inr (.inl hb))
    have hE : s.freeE i = 0 := by rw [HzE.out, ← Hz.out]
    have hok := Hok.out.freeS i Hfew.out
    rw [HSS.out, hE] at hok ⊢
    rw [if_pos rfl] at hok ⊢
    have e0 : (dead || ((0 : Int) != 0)) = dead := by simp
    rw [e0] at hok ⊢
    refine ⟨rfl, ⟨⟨lc, ?_, by simp only [List.length_set]; have := Hn.out; omega, hlc2⟩, hset, HD2.out.chg hc5 (fun e => H.out.ne.2.2.2.1 e.symm) (fun e => H.out.ne.2.2.2.2 e.symm), H.out.tab.chg hC (fun e => H.out.ntab (H.out.foot _ e)), H.out.ntab, H.out.foot, H.out.ne, hok, fun b hb => Nat.lt_of_lt_of_le (H.out.old b hb) hC.size⟩, hC⟩
    simp only [List.length_set]
    rw [← Hn.out, ← Hr.out, Hla.out]
    exact hc5.blk HS2.out H.out.ne.1
  · have t0 : (z != 0) = true := by simpa using h0
    have hE : s.freeE i = z := by rw [HzE.out, ← Hz.out]
    have HE := Lib.hid hE; have H0 := Lib.hid h0
    clear h0 hE
    go_wp2
    go_ret
    have hc3 := chg1 w2 sb 3 (.bool true)
    have hC0 : Chg (Foot sb lb d L) w w2 := HC2.out.mono fun b hb => by rcases hb with e | e | e; exact .inl e; exact .inr (.inr (.inl e)); exact .inr (.inr (.inr e))
    have hC : Chg (Foot sb lb d L) w (w2.setCell ⟨sb, 3, none⟩ (.bool true)) := hC0.trans (hc3.mono fun b hb => .inl hb)
    have hok := Hok.out.freeS i Hfew.out
    rw [HSS.out, HE.out] at hok ⊢
    rw [if_neg H0.out, t0, Bool.or_true] at hok ⊢
    have hRec := (H.out.recs.chg (S := Tri sb d L) HC2.out (fun e => by rcases e with e | e | e; exact H.out.ne.1 e.symm; exact H.out.ne.2.2.2.1 e; exact H.out.ne.2.2.2.2 e) (fun b hb _ => H.out.foot b (by rcases hb with e | e | e; exact .inl e; exact .inr (.inr (.inl e)); exact .inr (.inr (.inr e))))).chg hc3 (fun e => H.out.ne.1 e.symm) (fun b hb _ => H.out.foot b (.inl hb))
    refine ⟨rfl, ⟨⟨lc, ?_, by have := Hn.out; simp only; omega, hlc2⟩, hRec, HD2.out.chg hc3 (fun e => hne.1 e.symm) (fun e => hne.2 e.symm), H.out.tab.chg hC (fun e => H.out.ntab (H.out.foot _ e)), H.out.ntab, H.out.foot, H.out.ne, hok, fun b hb => Nat.lt_of_lt_of_le (H.out.old b hb) hC.size⟩, hC⟩
    simp only
    rw [← Hn.out, ← Hr.out, Hla.out]
    exact HS2.out.set 3 (.bool true)
set_option maxRecDepth 20000 in
set_option maxHeartbeats 2000000 in
theorem write_calls (N : Nat → Prop) (sb lb d L i : Nat) (s : St) (v : Value) (bs : List UInt8) (w : World) (h : IsStore w N sb lb d L s) (hb : Bys w v bs) (hfew : s.disk.writes < 72057594037927936) :
    Calls Tryz.prog 48 #[.pointer (some ⟨sb, 0, none⟩), .int .i64 i, v] w fun e w' => e = .returned (.int .i64 (s.writeE i bs)) ∧ IsStore w' N sb lb d L (s.writeS i bs) ∧ Chg (Foot sb lb d L) w w' := by
  obtain ⟨lc, hS, hlc1, hlc2⟩ := h.blk
  have c0 : w.cell? ⟨sb, 0, none⟩ = some (.pointer (some ⟨d, 0, none⟩)) := hS.cell 0
  have H := Lib.hid h; have HS := Lib.hid hS; have HB := Lib.hid hb; have Hfew := Lib.hid hfew; have Hl1 := Lib.hid hlc1
  obtain ⟨z, hz⟩ : ∃ z, z = s.writeE i bs := ⟨_, rfl⟩
  have Hz := Lib.hid hz
  rw [← hz]
  clear hz h hS hb hfew hlc1
  go_enter Tryz.func48, Tryz.ntmps48
  go_wp2_with fail
  refine (dwrite_any d L s.disk i v bs w H.out.disk HB.out (by have := Hfew.out; omega)).mono ?_
  rintro e w2 ⟨rfl, hD2, hc2⟩
  rw [show s.disk.wres (i : Nat) bs.length = z from Hz.out.symm]
  have hS2 := hc2.blk HS.out (fun e => by rcases e with e | e; exact H.out.ne.2.1 e; exact H.out.ne.2.2.1 e)
  have hR2 := H.out.recs.chg hc2 (fun e => by rcases e with e | e; exact H.out.ne.2.2.2.1 e; exact H.out.ne.2.2.2.2 e) (fun b hb _ => H.out.foot b (.inr (.inr hb)))
  have hC := hc2.mono (T := Foot sb lb d L) fun b hb => .inr (.inr hb)
  have g3 : w2.cell? ⟨sb, 3, none⟩ = some (.bool s.dead) := hS2.cell 3
  have f3 := hS2.free 3
  have HS2 := Lib.hid hS2; have HR2 := Lib.hid hR2; have HC := Lib.hid hC; have HD2 := Lib.hid hD2
  clear hS2 hR2 hC hD2 hc2
  have hok := Lib.hid (H.out.ok.writeS i bs Hfew.out)
  have HSS := Lib.hid (show s.writeS i bs = { s with disk := s.disk.wr (i : Nat) bs, dead := s.dead || (z != 0) } from by rw [Hz.out]; rfl)
  by_cases h0 : z = 0
  · subst h0
    have HT := Lib.hid (show ((0 : Int) != 0) = false from by simp)
    go_wp2
    go_ret
    rw [HSS.out]
    have hok := hok.out
    rw [HSS.out, HT.out, Bool.or_false] at hok
    rw [HT.out, Bool.or_false]
    exact ⟨rfl, ⟨⟨lc, HS2.out, Hl1.out, hlc2⟩, HR2.out, HD2.out, H.out.tab.chg HC.out (fun e => H.out.ntab (H.out.foot _ e)), H.out.ntab, H.out.foot, H.out.ne, hok, fun b hb => Nat.lt_of_lt_of_le (H.out.old b hb) HC.out.size⟩, HC.out⟩
  · have t0 : (z != 0) = true := by simpa using h0
    clear h0
    go_wp2
    go_ret
    rw [HSS.out]
    have hok := hok.out
    rw [HSS.out, t0, Bool.or_true] at hok
    rw [t0, Bool.or_true]
    have hc3 := chg1 w2 sb 3 (.bool true)
    have hC := HC.out.trans (hc3.mono (T := Foot sb lb d L) fun b hb => .inl hb)
    exact ⟨rfl, ⟨⟨lc, HS2.out.set 3 (.bool true), Hl1.out, hlc2⟩, HR2.out.chg hc3 (fun e => H.out.ne.1 e.symm) (fun b hb _ => H.out.foot b (.inl hb)), HD2.out.chg hc3 (fun e => H.out.ne.2.1 e.symm) (fun e => H.out.ne.2.2.1 e.symm), H.out.tab.chg hC (fun e => H.out.ntab (H.out.foot _ e)), H.out.ntab, H.out.foot, H.out.ne, hok, fun b hb => Nat.lt_of_lt_of_le (H.out.old b hb) hC.size⟩, hC⟩
end Go.Proofs.YtehgnkdfnnebcaaGreatDoor
end
section
namespace Go.Proofs.YtehgnkdfnnebcaaGreatDoor
open Go Go.RowKit Go.Mem Gf
attribute [local go_sem ↓] Go.wp_at_zero Go.wp_at_succ
theorem rws3 {w : World} {b : Nat} {t : TypeId} {v0 v1 v2 : Value} {r0 r1 r2 : List UInt8} (h : Blk w b #[v0, v1, v2] t) (h0 : Bys w v0 r0) (h1 : Bys w v1 r1) (h2 : Bys w v2 r2) : Rws w (.slice (some ⟨b, 0, none⟩) 3 3) [r0, r1, r2] := by
  refine ⟨_, 3, rfl, Nat.le_refl _, maxLen_ge (by decide), fun _ => ⟨b, 0, rfl, fun k r hk => ?_⟩⟩
  match k with
  | 0 => simp at hk; subst hk; exact ⟨v0, by rw [h.cell]; rfl, h0⟩
  | 1 => simp at hk; subst hk; exact ⟨v1, by rw [h.cell]; rfl, h1⟩
  | 2 => simp at hk; subst hk; exact ⟨v2, by rw [h.cell]; rfl, h2⟩
  | k + 3 => simp at hk
set_option maxRecDepth 20000 in
set_option maxHeartbeats 2000000 in
theorem bytes_calls (name : ByteArray) (num : Nat) (v : Value) (data : List UInt8) (w : World) (hT : Tab w) (hb : Bys w v data) (hn : name.size ≤ 1000000) (hnum : num ≤ 9223372036854775807) (hd : data.length ≤ 1000000) :
    Calls Tryz.prog 46 #[.string name, .int .i64 num, v] w fun e w' => ∃ v', e = .returned v' ∧ OwnX 5 w' w.heap.size v' (Sto.text name num data) ∧ Below w.heap.size w w' := by
  have hconv := Lib.run_convert_string_bytes (P := Tryz.prog) w 9 29 5 name Tryz.underlying9 Tryz.underlying29 Tryz.underlying5
  obtain ⟨ho, hb1⟩ := conv_ownX w 5 name (maxLen_ge (by omega))
  obtain ⟨w1, hw1⟩ : ∃ w1, w1 = Lib.bytesWorld w 5 name := ⟨_, rfl⟩
  rw [← hw1] at ho hb1 hconv
  have HO := Lib.hid ho; have HB1 := Lib.hid hb1; have HT := Lib.hid hT; have HB := Lib.hid hb
  have hs1 := hb1.size
  obtain ⟨da, dc, rfl⟩ := hb.eq_slice
  clear hw1 ho hb1 hT hb
  go_enter Tryz.func46, Tryz.ntmps46
  go_wp2_with fail
  refine (put_x num 4 hnum (by decide) (by decide) w1).mono ?_
  rintro e w2 ⟨pv, rfl, hp, hb2⟩
  have hb12 := HB1.out.trans (hb2.mono hs1)
  have hs2 := hb12.size
  obtain ⟨pa, pc, rfl⟩ := hp.eq_slice
  rw [Cod.be_len] at hp ⊢
  have HP := Lib.hid hp; have HB2 := Lib.hid hb2; have HB12 := Lib.hid hb12
  clear hp hb2 hb12 hconv
  go_wp2_with fail
  have hal := fun (o : Obj) => (Below.refl w2.heap.size w2).alloc (Nat.le_refl _) o
  refine (nets_calls _ [name.data.toList, Cod.be 4 num, data] _ ((HT.out.below HB12.out).below (hal _)) (rws3 (Blk.new _ _ _) (((HO.out.below HB2.out).bys).below (hal _)) ((HP.out.bys).below (hal _)) ((HB.out.below HB12.out).below (hal _))) ?_).mono ?_
  · simp only [Cod.nets, List.length_append, Cod.net_len, Cod.be_len, List.length_nil, Array.length_toList]
    have h1 : Lib.nDigits name.data.size ≤ 9 := by have := dec_len name.data.size (by show name.size ≤ _; omega); rw [Lib.itoa_nonneg, Lib.decDigits_length] at this; exact this
    have h2 : Lib.nDigits 4 ≤ 9 := by rw [Lib.nDigits_small (by decide)]; decide
    have h3 : Lib.nDigits data.length ≤ 9 := by have := dec_len data.length (by omega); rw [Lib.itoa_nonneg, Lib.decDigits_length] at this; exact this
    have h4 : name.data.size ≤ 1000000 := hn
    omega
  rintro e w3 ⟨v3, rfl, h3, hb3⟩
  go_wp2
  go_ret
  exact ⟨_, rfl, h3.mono (by simp; omega), (HB12.out.alloc hs2 _).trans (hb3.mono (by simp; omega))⟩
def fitsB (room : Nat) (name : ByteArray) (data : List UInt8) : Bool := decide (name.size ≤ 16384) && (decide (data.length ≤ 16384) && decide ((Sto.text name 0 data).length ≤ room * 32))
set_option maxRecDepth 20000 in
set_option maxHeartbeats 2000000 in
theorem fits_calls (N : Nat → Prop) (sb lb d L : Nat) (s : St) (name : ByteArray) (v : Value) (data : List UInt8) (w : World) (h : IsStore w N sb lb d L s) (hb : Bys w v data) (hn : name.size ≤ 9223372036854775807) :
    Calls Tryz.prog 32 #[.pointer (some ⟨sb, 0, none⟩), .string name, v] w fun e w' => e = .returned (.bool (fitsB s.room name data)) ∧ Below w.heap.size w w' := by
  obtain ⟨lc, hS, hlc1, hlc2⟩ := h.blk
  have c1 : w.cell? ⟨sb, 1, none⟩ = some (.int .i64 s.room) := hS.cell 1
  have hr2 := h.ok.room2
  have hdl := hb.len
  obtain ⟨da, dc, rfl⟩ := hb.eq_slice
  obtain ⟨dl, hdl'⟩ : ∃ dl, dl = data.length := ⟨_, rfl⟩
  rw [← hdl'] at hb hdl ⊢
  obtain ⟨nl, hnl⟩ : ∃ nl, nl = name.size := ⟨_, rfl⟩
  have Hdl := Lib.hid hdl'; have Hnl := Lib.hid hnl
  have HF := Lib.hid (show fitsB s.room name data = (decide (name.size ≤ 16384) && (decide (data.length ≤ 16384) && decide ((Sto.text name 0 data).length ≤ s.room * 32))) from rfl)
  have HS := Lib.hid hS; have HT := Lib.hid h.tab; have HB := Lib.hid hb
  obtain ⟨room, hroom⟩ : ∃ r, r = s.room := ⟨_, rfl⟩
  rw [← hroom] at hr2 c1 HF HS ⊢
  clear h hS hb hdl' hnl hroom
  by_cases h1 : name.size ≤ 16384
  · by_cases h2 : dl ≤ 16384
    · have HF2 := Lib.hid (show fitsB room name data = decide ((Sto.text name 0 data).length ≤ room * 32) from by rw [HF.out, decide_eq_true h1, decide_eq_true (by have := Hdl.out; omega)]; rfl)
      have q1 : IntKind.i64.wrap ((room : Int) * 32) = (room : Int) * 32 := IntWalk.i64_in _ (by omega)
      go_enter Tryz.func32, Tryz.ntmps32
      go_wp2_with fail
      go_region_held3 (fun w' => w'.cell? ⟨sb, 1, none⟩ = some (.int .i64 room)) (first | exact c1 | assumption)
        (first
          | (go_at_call 46
             refine (bytes_calls name 0 _ data w.drew (HT.out.drewN 1) (HB.out.drewN 1) (by omega) (by decide) (by have := Hdl.out; omega)).mono ?_
             rintro e w2 ⟨v2, rfl, ho2, hb2⟩
             have hb2 : Below w.heap.size w w2 := of_drew hb2
             have hh : w2.cell? ⟨sb, 1, none⟩ = some (.int .i64 room) := (HS.out.kept hb2).cell 1
             obtain ⟨a2, c2, rfl⟩ := ho2.eq_slice))
      have HE := Lib.hid (show decide (((Sto.text name 0 data).length : Int) ≤ (room : Int) * 32) = fitsB room name data from by rw [HF2.out, decide_eq_decide]; omega)
      go_wp2
      go_ret
      exact ⟨by rw [← HE.out]; rfl, hb2⟩
    · have HF2 := Lib.hid (show fitsB room name data = false from by rw [HF.out, decide_eq_false (p := data.length ≤ 16384) (by have := Hdl.out; omega)]; simp)
      go_enter Tryz.func32, Tryz.ntmps32
      go_wp2
      go_ret
      exact ⟨by rw [HF2.out]; rfl, Below.refl _ _⟩
  · have HF2 := Lib.hid (show fitsB room name data = false from by rw [HF.out, decide_eq_false h1]; rfl)
    go_enter Tryz.func32, Tryz.ntmps32
    go_wp2
    go_ret
    exact ⟨by rw [HF2.out]; rfl, Below.refl _ _⟩
end Go.Proofs.YtehgnkdfnnebcaaGreatDoor
end
