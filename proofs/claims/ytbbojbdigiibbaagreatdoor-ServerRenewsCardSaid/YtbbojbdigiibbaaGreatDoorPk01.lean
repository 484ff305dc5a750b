/- Texts of this proof, packed: App, MatChg, BKeep, Disk, CopySet, OwnF. -/
import Derived.Test.YtbbojbdigiibbaaGreatDoorPk00
import Derived.Laws.AppendOwnNone
import Derived.Test.YtbbojbdigiibbaaGreatDoorProg
import Derived.Outline
import Derived.Deep.QuietTactic
import Derived.BigQuiet
import Derived.Lib.Hide
import Derived.Laws.CopyOwn
import Derived.Deep.AppendLies
import Derived.Deep.RegionHeld3
import Derived.Deep.DrawnRows
import Derived.RegionTactic
import Derived.Deep.DeepCutAuto
import Derived.Deep.CutBlock
import Derived.ChangeAlike
import Derived.WalkLawsBesides
import Derived.Laws.MakeOwn
import Derived.Deep.MidRow
import Derived.Laws.IdiomCopy
section
namespace Go.Mem
open Go Go.RowKit Gf
def bV (bs : List UInt8) : List Value := bs.map fun u => .int .u8 (u.toNat : Int)
theorem bV_len (bs : List UInt8) : (bV bs).length = bs.length := by simp [bV]
theorem bV_app (a b : List UInt8) : bV (a ++ b) = bV a ++ bV b := by simp [bV]
theorem bV_get (bs : List UInt8) (i : Nat) : (bV bs)[i]? = (bs[i]?).map fun u => .int .u8 (u.toNat : Int) := by simp [bV]
theorem bV_one (bs : List UInt8) : ∀ u ∈ bV bs, u.oneCell' = true := by
  intro u hu
  simp only [bV, List.mem_map] at hu
  obtain ⟨x, _, rfl⟩ := hu
  rfl
structure Elem (P : Program) (t e : TypeId) (z : Value) (bytes : Nat) : Prop where
  under : P.underlying t = some (.slice e)
  info : (P.info? e).map (fun i => (i.zero, i.size, i.bytes)) = some (some z, 1, bytes)
  one : z.cells.size = 1
def OwnB (t8 : TypeId) (w : World) (base : Nat) (v : Value) (bs : List UInt8) : Prop := w.ownsRow base t8 1 v bs.length (bV bs)
section
variable {t8 tr : TypeId} {w w' : World} {base : Nat} {v : Value} {bs : List UInt8}
theorem grown_none {row : Option Nat} (h : w.grownBy w' row) (hr : row = none) : Below w.heap.size w w' :=
  ⟨h.os, h.tape, h.output, h.size, fun k hk => h.block k hk (by rw [hr]; exact fun e => by cases e)⟩
theorem OwnB.nil (t8 : TypeId) (w : World) (base : Nat) : OwnB t8 w base (.slice none 0 0) [] := World.ownsRow_nil _ _ _ _
theorem OwnB.lt (h : OwnB t8 w base v bs) : ∀ k, v.ownBlock = some k → base ≤ k ∧ k < w.heap.size := World.ownsRow.lt h
theorem OwnB.eq_slice (h : OwnB t8 w base v bs) : ∃ a cap, v = .slice a bs.length cap := by
  obtain ⟨_, h2⟩ := h
  rcases h2 with ⟨rfl, h0⟩ | ⟨g, cap, cur, rfl, _⟩
  · exact ⟨none, 0, by rw [h0]⟩
  · exact ⟨_, cap, rfl⟩
theorem OwnB.mono (h : OwnB t8 w base v bs) {base' : Nat} (hb : base' ≤ base) : OwnB t8 w base' v bs := by
  obtain ⟨h1, h2⟩ := h
  refine ⟨h1, ?_⟩
  rcases h2 with h2 | ⟨g, cap, cur, hv, hg, r⟩
  · exact .inl h2
  · exact .inr ⟨g, cap, cur, hv, Nat.le_trans hb hg, r⟩
theorem OwnB.below (h : OwnB t8 w base v bs) (hb : Below w.heap.size w w') : OwnB t8 w' base v bs := by
  obtain ⟨h1, h2⟩ := h
  refine ⟨h1, ?_⟩
  rcases h2 with h2 | ⟨g, cap, cur, hv, hg, hh, r⟩
  · exact .inl h2
  · exact .inr ⟨g, cap, cur, hv, hg, by rw [hb.block g (lt_of_block hh)]; exact hh, r⟩
theorem OwnB.drewN (h : OwnB t8 w base v bs) (n : Nat) : OwnB t8 (w.drewN n) base v bs := h
theorem OwnB.bys (h : OwnB t8 w base v bs) : Bys w v bs := by
  obtain ⟨hlen, h2⟩ := h
  rcases h2 with ⟨rfl, h0⟩ | ⟨g, cap, cur, rfl, _, hg, hnc, hcm, hcs, htake⟩
  · have : bs = [] := List.eq_nil_of_length_eq_zero h0
    subst this
    exact Bys.nil w
  · refine ⟨_, cap, rfl, hnc, hcm, fun _ => ⟨g, 0, rfl, fun i u hi => ?_⟩⟩
    have hil : i < bs.length := by
      rcases Nat.lt_or_ge i bs.length with h | h
      · exact h
      · rw [List.getElem?_eq_none h] at hi; cases hi
    have hv : (bV bs)[i]? = some (.int .u8 (u.toNat : Int)) := by rw [bV_get, hi]; rfl
    rw [Nat.zero_add]
    rw [← htake, List.getElem?_take, if_pos (by omega)] at hv
    simp only [World.cell?, hg]
    simpa using hv
theorem Blk.own {b m : Nat} {f : Nat → UInt8} (h : Blk w b (rowArr m f) t8) (hb : base ≤ b) (hm : m ≤ 9223372036854775807) : OwnB t8 w base (.slice (some ⟨b, 0, none⟩) m m) (rowL m f) := by
  refine ⟨by rw [bV_len]; simp, .inr ⟨b, m, rowArr m f, by rw [rowL_len], hb, h, by rw [rowL_len]; exact Nat.le_refl _, maxLen_ge hm, by rw [rowArr_size]; simp, ?_⟩⟩
  apply List.ext_getElem?
  intro i
  rw [List.getElem?_take, bV_get]
  simp only [rowL_len, Nat.mul_one]
  split
  · rename_i hi
    rw [rowL_get _ _ _ hi]
    simpa using rowArr_get m f i hi
  · rename_i hi
    rw [List.getElem?_eq_none (by rw [rowL_len]; omega)]; rfl
theorem own_grown {e1 e2 : TypeId} {s1 s2 n1 n2 b1 b2 : Nat} {v1 v2 : Value} {x1 x2 : List Value} (h1 : w.ownsRow b1 e1 s1 v1 n1 x1) (h2 : w.ownsRow b2 e2 s2 v2 n2 x2) (hne : e1 ≠ e2) (hg : w.grownBy w' v2.ownBlock) :
    w'.ownsRow b1 e1 s1 v1 n1 x1 := by
  refine World.ownsRow.kept h1 hg ?_
  rcases h1.2 with ⟨rfl, _⟩ | ⟨g, cap, cur, rfl, _, hh, _⟩
  · exact .inl rfl
  · refine .inr ?_
    rcases h2.2 with ⟨rfl, _⟩ | ⟨g2, cap2, cur2, rfl, _, hh2, _⟩
    · intro e; simp [Value.ownBlock] at e
    · intro e
      simp only [Value.ownBlock, Option.some.injEq] at e
      subst e
      rw [hh] at hh2
      simp at hh2
      exact hne hh2.2
def OwnRows (t8 tr : TypeId) (w : World) (base : Nat) (v : Value) (rows : List (List UInt8)) : Prop :=
  ∃ xs, w.ownsRow base tr 1 v rows.length xs ∧ ∀ (j : Nat) (bs : List UInt8), rows[j]? = some bs → ∃ rv, xs[j]? = some rv ∧ OwnB t8 w base rv bs
theorem OwnRows.nil (t8 tr : TypeId) (w : World) (base : Nat) : OwnRows t8 tr w base (.slice none 0 0) [] := ⟨[], World.ownsRow_nil _ _ _ _, fun j bs hj => by simp at hj⟩
theorem OwnRows.eq_slice {rows : List (List UInt8)} (h : OwnRows t8 tr w base v rows) : ∃ a cap, v = .slice a rows.length cap := by
  obtain ⟨_, ⟨_, h2⟩, _⟩ := h
  rcases h2 with ⟨rfl, h0⟩ | ⟨g, cap, cur, rfl, _⟩
  · exact ⟨none, 0, by rw [h0]⟩
  · exact ⟨_, cap, rfl⟩
theorem OwnRows.below {rows : List (List UInt8)} (h : OwnRows t8 tr w base v rows) (hb : Below w.heap.size w w') : OwnRows t8 tr w' base v rows := by
  obtain ⟨xs, h1, h2⟩ := h
  refine ⟨xs, ?_, fun j bs hj => ?_⟩
  · obtain ⟨h1, h3⟩ := h1
    refine ⟨h1, ?_⟩
    rcases h3 with h3 | ⟨g, cap, cur, hv, hg, hh, r⟩
    · exact .inl h3
    · exact .inr ⟨g, cap, cur, hv, hg, by rw [hb.block g (lt_of_block hh)]; exact hh, r⟩
  · obtain ⟨rv, h3, h4⟩ := h2 j bs hj
    exact ⟨rv, h3, h4.below hb⟩
theorem OwnRows.drewN {rows : List (List UInt8)} (h : OwnRows t8 tr w base v rows) (n : Nat) : OwnRows t8 tr (w.drewN n) base v rows := h
theorem OwnRows.lt {rows : List (List UInt8)} (h : OwnRows t8 tr w base v rows) : ∀ k, v.ownBlock = some k → base ≤ k ∧ k < w.heap.size := by
  obtain ⟨xs, h1, _⟩ := h; exact World.ownsRow.lt h1
theorem OwnRows.mono {rows : List (List UInt8)} (h : OwnRows t8 tr w base v rows) {base' : Nat} (hb : base' ≤ base) : OwnRows t8 tr w base' v rows := by
  obtain ⟨xs, ⟨h1, h3⟩, h2⟩ := h
  refine ⟨xs, ⟨h1, ?_⟩, fun j bs hj => ?_⟩
  · rcases h3 with h3 | ⟨g, cap, cur, hv, hg, r⟩
    · exact .inl h3
    · exact .inr ⟨g, cap, cur, hv, Nat.le_trans hb hg, r⟩
  · obtain ⟨rv, h3, h4⟩ := h2 j bs hj
    exact ⟨rv, h3, h4.mono hb⟩
theorem OwnRows.push {rows : List (List UInt8)} {xs : List Value} {rv v' : Value} (hne : t8 ≠ tr) (h1 : w.ownsRow base tr 1 v rows.length xs) (h2 : ∀ (j : Nat) (bs : List UInt8), rows[j]? = some bs → ∃ rv, xs[j]? = some rv ∧ OwnB t8 w base rv bs)
    (hr : OwnB t8 w base rv bs) (hown : w'.ownsRow base tr 1 v' (rows.length + 1) (xs ++ [rv])) (hg : w.grownBy w' v.ownBlock) : OwnRows t8 tr w' base v' (rows ++ [bs]) := by
  have hl : xs.length = rows.length := by have := h1.1; omega
  refine ⟨xs ++ [rv], by rw [List.length_append]; exact hown, fun j b hj => ?_⟩
  rcases Nat.lt_or_ge j rows.length with hjl | hjl
  · rw [List.getElem?_append_left hjl] at hj
    obtain ⟨rv', h3, h4⟩ := h2 j b hj
    exact ⟨rv', by rw [List.getElem?_append_left (by omega)]; exact h3, own_grown h4 h1 hne hg⟩
  · rw [List.getElem?_append_right hjl] at hj
    have hj0 : j - rows.length = 0 := by
      rcases Nat.eq_zero_or_pos (j - rows.length) with h | h
      · exact h
      · rw [List.getElem?_eq_none (by simp; omega)] at hj; cases hj
    rw [hj0] at hj
    simp at hj
    subst hj
    exact ⟨rv, by rw [List.getElem?_append_right (by omega), hl, hj0]; rfl, own_grown hr h1 hne hg⟩
end
section
theorem run_append_none {P : Program} {w : World} (base : Nat) (t ty e : TypeId) (i : TypeInfo) (size cap : Nat) (ht : P.underlying t = some (.slice e)) (hi : P.info? e = some i)
    (v : Value) (n : Nat) (xs : List Value) (hown : w.ownsRow base e size v n xs) :
    (Builtin.append_ #[t, t] ty #[v, .slice none 0 cap]).run P w = .ok v w := by
  rcases hown.2 with ⟨rfl, rfl⟩ | ⟨g, cp, cur, rfl, _, _, hnc, _⟩
  · simp [Builtin.append_, run_underlying ht, sizeOf, typeInfo, hi, Builtin.lenOf, Builtin.firstCells]
  · simp [Builtin.append_, run_underlying ht, sizeOf, typeInfo, hi, Builtin.lenOf, Builtin.firstCells, hnc, storeCells]
end
section
variable {P : Program} {w : World} {ops : Array Oper} {rest : List Oper} {o : Oper} {a : Act} {Q : Exit → Act → World → Prop} {K : Act → World → Prop} {E0 : Prop}
theorem to_list (hgd : o.guard = none) {R : Value → World → Prop} (h0 : ∀ K : Act → World → Prop, (∀ v' w', R v' w' → K (a.put o.dst v') w') → o.wp P a w K Q)
    (h : ∀ v' w', R v' w' → wpList P ops Q rest (a.put o.dst v') w') : wpList P ops Q (o :: rest) a w :=
  wpList_plain hgd fun K hK => h0 K fun v' w' hr => hK _ _ (h v' w' hr)
theorem to_step (hgd : o.guard = none) {R : Value → World → Prop} (h0 : ∀ K : Act → World → Prop, (∀ v' w', R v' w' → K (a.put o.dst v') w') → o.wp P a w K Q)
    (h : ∀ v' w', R v' w' → K (a.put o.dst v') w') : if Region.wanted o (yielded ops a.tmps) = true then Oper.wp P o a w K Q else E0 := by
  have hw : Region.wanted o (yielded ops a.tmps) = true := by simp [Region.wanted, hgd]
  rw [if_pos hw]
  exact h0 K h
theorem wpApp_one {t e : TypeId} {z : Value} {bytes : Nat} (E : Elem P t e z bytes) (s x : Operand) (ho : o.op = .call { callee := .builtin .append, args := #[s, x], argTypes := #[t, t] })
    {base : Nat} {v : Value} {n : Nat} {xs : List Value} (u : Value) (hs : a.eval s = v) {mb : Nat} (hx : a.eval x = .slice (some ⟨mb, 0, none⟩) 1 1) (hc : w.cell? ⟨mb, 0, none⟩ = some u) (h1 : u.oneCell' = true)
    (hown : w.ownsRow base e 1 v n xs) (hn : n + 1 ≤ 4294967296) (hby : bytes ≤ 4096) (hbase : base ≤ w.heap.size)
    (h : ∀ v' w', w'.ownsRow base e 1 v' (n + 1) (xs ++ [u]) ∧ w.grownBy w' v.ownBlock → K (a.put o.dst v') w') : o.wp P a w K Q := by
  obtain ⟨i, hi, hz, hsz, hb⟩ := info_parts E.info
  have hm : (n + 1) * bytes ≤ 4294967296 * 4096 := Nat.mul_le_mul hn hby
  exact wp_append_own w s x t ho base e i z 1 bytes E.under hi hz hsz hb E.one (by decide) v n xs hs hown ⟨mb, 0, none⟩ 1 1 [u] hx rfl
    (fun j y hj => by
      cases j with
      | zero => simp at hj; subst hj; simpa [Addr.add] using hc
      | succ j => simp at hj)
    (fun y hy => by simp at hy; subst hy; exact h1) (by unfold maxLen; omega) (by omega) hbase
    (fun v' w' h2 h3 _ => h v' w' ⟨h2, h3⟩)
theorem wpApp_bytes {t e : TypeId} (E : Elem P t e (.int .u8 0) 1) (s x : Operand) (ho : o.op = .call { callee := .builtin .append, args := #[s, x], argTypes := #[t, t] })
    {base : Nat} {v xv : Value} {bs news : List UInt8} (hs : a.eval s = v) (hx : a.eval x = xv)
    (hown : OwnB e w base v bs) (hb : Bys w xv news) (hn : bs.length + news.length ≤ 140737488355328) (hbase : base ≤ w.heap.size)
    (h : ∀ v' w', OwnB e w' base v' (bs ++ news) ∧ w.grownBy w' v.ownBlock → K (a.put o.dst v') w') : o.wp P a w K Q := by
  obtain ⟨i, hi, hz, hsz, hby⟩ := info_parts E.info
  obtain ⟨ad, cap, rfl, hc1, hc2, hcell⟩ := hb
  cases ad with
  | some ad =>
    have hlen : (bV news).length = news.length * 1 := by rw [bV_len]; omega
    refine wp_append_own w s x t ho base e i (.int .u8 0) 1 1 E.under hi hz hsz hby rfl (by decide) v bs.length (bV bs) hs hown ad news.length cap (bV news) hx hlen
      (fun j y hj => ?_) (bV_one _) (by unfold maxLen; omega) (by omega) hbase (fun v' w' h2 h3 _ => h v' w' ⟨by unfold OwnB; rw [List.length_append, bV_app]; exact h2, h3⟩)
    rw [bV_get] at hj
    cases hu : news[j]? with
    | none => rw [hu] at hj; cases hj
    | some u =>
      rw [hu] at hj
      have hjl : j < news.length := by
        rcases Nat.lt_or_ge j news.length with h' | h'
        · exact h'
        · rw [List.getElem?_eq_none h'] at hu; cases hu
      obtain ⟨b, off, e, hc⟩ := hcell (by omega)
      cases e
      rw [show (⟨b, off, none⟩ : Addr).add j = ⟨b, off + j, none⟩ from by
        unfold Addr.add
        split
        · subst_vars; rfl
        · rfl]
      rw [hc j u hu]
      simpa using hj
  | none =>
    have hl : news = [] := by
      rcases Nat.eq_zero_or_pos news.length with h0 | h0
      · exact List.eq_nil_of_length_eq_zero h0
      · obtain ⟨b, off, e, _⟩ := hcell h0; cases e
    subst hl
    have hrun := run_append_none (P := P) (w := w) base t o.type e i 1 cap E.under hi v bs.length (bV bs) hown
    unfold Oper.wp
    simp [execOp, ho, resolve, invoke, builtin, hs, hx, hrun, Result.andThen]
    exact h v w ⟨by rw [List.append_nil]; exact hown, ⟨rfl, rfl, rfl, Nat.le_refl _, fun _ _ _ => rfl⟩⟩
theorem appG_one {t e : TypeId} {z : Value} {bytes : Nat} (E : Elem P t e z bytes) (hgd : o.guard = none) (s x : Operand) (ho : o.op = .call { callee := .builtin .append, args := #[s, x], argTypes := #[t, t] })
    {base : Nat} {v : Value} {n : Nat} {xs : List Value} (u : Value) (hs : a.eval s = v) {mb : Nat} (hx : a.eval x = .slice (some ⟨mb, 0, none⟩) 1 1) (hc : w.cell? ⟨mb, 0, none⟩ = some u) (h1 : u.oneCell' = true)
    (hown : w.ownsRow base e 1 v n xs) (hn : n + 1 ≤ 4294967296) (hby : bytes ≤ 4096) (hbase : base ≤ w.heap.size)
    (h : ∀ v' w', w'.ownsRow base e 1 v' (n + 1) (xs ++ [u]) → w.grownBy w' v.ownBlock → wpList P ops Q rest (a.put o.dst v') w') : wpList P ops Q (o :: rest) a w :=
  to_list hgd (fun _ hK => wpApp_one E s x ho u hs hx hc h1 hown hn hby hbase hK) fun v' w' h2 => h v' w' h2.1 h2.2
theorem new_cell (w : World) (u : Value) (t : TypeId) (n : Nat) (h : n = w.heap.size) : (w.alloc (.cells #[u] t)).cell? ⟨n, 0, none⟩ = some u := by subst h; rw [(Blk.new w _ _).cell]; rfl
theorem of_drew {B : Nat} {w w' : World} (h : Below B w.drew w') : Below B w w' := ⟨h.os, h.tape, h.output, h.size, h.block⟩
theorem stepApp_bytes {t e : TypeId} (E : Elem P t e (.int .u8 0) 1) (hgd : o.guard = none) (s x : Operand) (ho : o.op = .call { callee := .builtin .append, args := #[s, x], argTypes := #[t, t] })
    {base : Nat} {v xv : Value} {bs news : List UInt8} (hs : a.eval s = v) (hx : a.eval x = xv)
    (hown : OwnB e w base v bs) (hb : Bys w xv news) (hn : bs.length + news.length ≤ 140737488355328) (hbase : base ≤ w.heap.size)
    (h : ∀ v' w', OwnB e w' base v' (bs ++ news) → w.grownBy w' v.ownBlock → K (a.put o.dst v') w') :
    if Region.wanted o (yielded ops a.tmps) = true then Oper.wp P o a w K Q else E0 :=
  to_step hgd (fun _ hK => wpApp_bytes E s x ho hs hx hown hb hn hbase hK) fun v' w' h2 => h v' w' h2.1 h2.2
end
end Go.Mem
end
section
namespace Go.Mem
open Go Go.RowKit Gf
structure Chg (S : Nat → Prop) (w w' : World) : Prop where
  os : w'.os = w.os
  tape : w'.tape = w.tape
  output : w'.output = w.output
  size : w.heap.size ≤ w'.heap.size
  block : ∀ k, k < w.heap.size → ¬ S k → w'.heap[k]? = w.heap[k]?
section
variable {S T : Nat → Prop} {w w' w'' : World}
theorem Chg.refl (S : Nat → Prop) (w : World) : Chg S w w := ⟨rfl, rfl, rfl, Nat.le_refl _, fun _ _ _ => rfl⟩
theorem Chg.trans (h : Chg S w w') (h' : Chg S w' w'') : Chg S w w'' :=
  ⟨h'.os.trans h.os, h'.tape.trans h.tape, h'.output.trans h.output, Nat.le_trans h.size h'.size, fun k hk hs => (h'.block k (Nat.lt_of_lt_of_le hk h.size) hs).trans (h.block k hk hs)⟩
theorem Chg.mono (h : Chg S w w') (hs : ∀ k, S k → T k) : Chg T w w' := ⟨h.os, h.tape, h.output, h.size, fun k hk ht => h.block k hk fun hS => ht (hs k hS)⟩
theorem Chg.of_below (h : Below w.heap.size w w') : Chg S w w' := ⟨h.os, h.tape, h.output, h.size, fun k hk _ => h.block k hk⟩
theorem Chg.drew (h : Chg S w w') : Chg S w w'.drew := ⟨h.os, h.tape, h.output, h.size, h.block⟩
theorem Chg.drewN (h : Chg S w w') (n : Nat) : Chg S w (w'.drewN n) := ⟨h.os, h.tape, h.output, h.size, h.block⟩
theorem Chg.set (h : Chg S w w') {a : Addr} (ha : S a.block) (v : Value) : Chg S w (w'.setCell a v) :=
  ⟨h.os, h.tape, h.output, by simp [World.setCell]; exact h.size, fun k hk hs => by
    rw [Below.heap_setCell _ _ _ _ (fun e => hs (by rw [e]; exact ha))]; exact h.block k hk hs⟩
theorem Chg.below {B : Nat} (h : Chg S w w') (hB : B ≤ w.heap.size) (hs : ∀ k, S k → B ≤ k) : Below B w w' :=
  ⟨h.os, h.tape, h.output, h.size, fun k hk => h.block k (by omega) fun hS => by have := hs k hS; omega⟩
theorem Chg.blk {b : Nat} {arr : Array Value} {t : TypeId} (h : Chg S w w') (hb : Blk w b arr t) (hs : ¬ S b) : Blk w' b arr t := by
  unfold Blk at *; rw [h.block b (lt_of_block hb) hs]; exact hb
end
section
variable {t8 tr : TypeId} {w w' : World} {base X n m : Nat} {ids : Nat → Nat} {F G : Mx} {S : Nat → Prop}
theorem OwnM.chg (h : OwnM t8 tr w base X ids n m F) (hc : Chg S w w') (hX : ¬ S X) (hi : ∀ i, i < n → ¬ S (ids i)) : OwnM t8 tr w' base X ids n m F :=
  h.kept fun b hb => by
    rcases hb with rfl | ⟨i, hin, rfl⟩
    · exact hc.block _ h.lt.1 hX
    · exact hc.block _ (h.lt.2 i hin) (hi i hin)
theorem OwnM.row (h : OwnM t8 tr w base X ids n m F) {r : Nat} (hr : r < n) {f : Nat → UInt8} (hc : ∀ b, b ≠ ids r → (b = X ∨ ∃ i, i < n ∧ b = ids i) → w'.heap[b]? = w.heap[b]?) (hf : Blk w' (ids r) (rowArr m f) t8) :
    OwnM t8 tr w' base X ids n m (fun i k => if i = r then f k else F i k) := by
  obtain ⟨arr, hb, hs, hg⟩ := h.outer
  refine ⟨⟨arr, ?_, hs, hg⟩, fun i hi => ?_, h.unlike, h.apart, h.low⟩
  · unfold Blk at *; rw [hc X (fun e => h.apart r hr e.symm) (.inl rfl)]; exact hb
  · by_cases e : i = r
    · subst e; simp only [if_true]; exact hf
    · simp only [if_neg e]
      have := h.rows i hi
      unfold Blk at *
      rw [hc _ (fun e' => e (h.unlike i r hi hr e')) (.inr ⟨i, hi, rfl⟩)]; exact this
theorem OwnM.swap (h : OwnM t8 tr w base X ids n m F) {c p : Nat} (hc : c < n) (hp : p < n) :
    OwnM t8 tr ((w.setCell ⟨X, c, none⟩ (rowV m (ids p))).setCell ⟨X, p, none⟩ (rowV m (ids c))) base X (fun i => ids (sw c p i)) n m (fun i => F (sw c p i)) := by
  obtain ⟨arr, hb, hs, hg⟩ := h.outer
  refine ⟨⟨_, (hb.set c _).set p _, by simp [hs], fun i hi => ?_⟩, fun i hi => ?_, fun i j hi hj e => ?_, fun i hi => h.apart _ (sw_lt hc hp hi), h.low.1, fun i hi => h.low.2 _ (sw_lt hc hp hi)⟩
  · rw [Array.getElem?_setIfInBounds, Array.getElem?_setIfInBounds]
    unfold sw
    by_cases e1 : i = c
    · subst e1
      by_cases e2 : p = i
      · subst e2; simp [hs, hi]
      · rw [if_neg e2, if_pos rfl, if_pos (by omega), if_pos rfl]
    · by_cases e2 : i = p
      · subst e2; simp [hs, hi, e1]
      · rw [if_neg (fun e => e2 e.symm), if_neg (fun e => e1 e.symm), if_neg e1, if_neg e2]; exact hg i hi
  · have hi' := sw_lt hc hp hi
    exact ((h.rows _ hi').set_other (fun e => h.apart _ hi' e.symm) _).set_other (fun e => h.apart _ hi' e.symm) _
  · have := h.unlike _ _ (sw_lt hc hp hi) (sw_lt hc hp hj) e
    rw [← sw_sw c p i, this, sw_sw]
end
end Go.Mem
end
section
namespace Go.Mem
open Go Go.RowKit Gf
theorem copy_row {P : Program} {w : World} {ops : Array Oper} {rest : List Oper} {o : Oper} {a : Act} {Q : Exit → Act → World → Prop} (hgd : o.guard = none) (d s : Operand) (dT sT : TypeId)
    (ho : o.op = .call { callee := .builtin .copy, args := #[d, s], argTypes := #[dT, sT] }) (elem : TypeId) (hu : P.underlying dT = some (.slice elem)) (hsz : (P.info? elem).map (·.size) = some 1)
    {g N dl dc : Nat} {f : Nat → UInt8} {t : TypeId} {sv : Value} {bs : List UInt8} (hd : a.eval d = .slice (some ⟨g, 0, none⟩) dl dc) (hs : a.eval s = sv) (hB : Blk w g (rowArr N f) t) (hb : Bys w sv bs) (h1 : bs.length ≤ dl) (h2 : dl ≤ N)
    (h : ∀ w', Blk w' g (rowArr N fun i => if i < bs.length then bs.getD i 0 else f i) t → Below g w w' → wpList P ops Q rest (a.put o.dst (goInt bs.length)) w') : wpList P ops Q (o :: rest) a w := by
  obtain ⟨sp, sc, rfl, hc1, hc2, hcell⟩ := hb
  have hlen : (bV bs).length = bs.length := bV_len bs
  have hN : (rowArr N f).toList.length = N := by simp [rowArr_size]
  refine wpList_copy_splice hgd d s dT sT ho elem hu hsz (some ⟨g, 0, none⟩) sp dl dc bs.length sc hd hs g 0 (rowArr N f).toList t hB (bV bs) (by rw [hlen]; exact (Nat.min_eq_left h1).symm)
    (fun hp => ⟨rfl, ?_⟩) (by rw [hlen, hN]; omega) (bV_one bs) g w (Below.refl _ _) (Nat.le_refl _) fun w' hg hbel => ?_
  · rw [hlen] at hp
    obtain ⟨b, off, e, hc⟩ := hcell hp
    refine ⟨_, e, fun j v hj => ?_⟩
    rw [bV_get] at hj
    cases hu' : bs[j]? with
    | none => rw [hu'] at hj; cases hj
    | some u =>
      rw [hu'] at hj
      rw [show (⟨b, off, none⟩ : Addr).add j = ⟨b, off + j, none⟩ from by
        unfold Addr.add
        split
        · subst_vars; rfl
        · rfl]
      rw [hc j u hu']
      simpa using hj
  · rw [hlen]
    refine h w' ?_ hbel
    have e : (splice (rowArr N f).toList 0 (bV bs)).toArray = rowArr N fun i => if i < bs.length then bs.getD i 0 else f i := by
      apply Array.ext_getElem?
      intro i
      simp only [splice, List.take_zero, List.nil_append, Nat.zero_add, hlen, List.getElem?_toArray]
      rcases Nat.lt_or_ge i bs.length with hi | hi
      · rw [List.getElem?_append_left (by rw [hlen]; exact hi), bV_get, rowArr_get _ _ _ (by omega)]
        simp [hi, List.getD_eq_getElem?_getD]
      · rw [List.getElem?_append_right (by rw [hlen]; exact hi), hlen, List.getElem?_drop, show bs.length + (i - bs.length) = i from by omega]
        rcases Nat.lt_or_ge i N with hiN | hiN
        · rw [rowArr_get _ _ _ hiN]
          have := rowArr_get N f i hiN
          simp only [if_neg (Nat.not_lt.2 hi)]
          simpa using this
        · rw [Array.getElem?_eq_none (by rw [rowArr_size]; exact hiN)]
          exact List.getElem?_eq_none (by rw [hN]; exact hiN)
    have hg' := hg.out
    rw [e] at hg'
    exact hg'
def Aft (w w' : World) : Prop := Below w.heap.size w w'
theorem Aft.refl (w : World) : Aft w w := Below.refl _ _
theorem Aft.trans {w w' w'' : World} (h : Aft w w') (h' : Aft w' w'') : Aft w w'' :=
  Below.trans h (Below.mono h' (Below.size h))
theorem Aft.drewN {w w' : World} (h : Aft w w') (n : Nat) : Aft w (w'.drewN n) := below_drewN h n
end Go.Mem
namespace Go.Proofs.YtbbojbdigiibbaaGreatDoor
open Go Go.RowKit Go.Mem Gf
theorem ret_int {k : IntKind} {a b : Int} (h : a = b) : Ending.returned (.int k a) = .returned (.int k b) := by rw [h]
def within (v n : Int) : Int := if n < 1 then 0 else v % n
theorem within_range (v n : Int) (h : 1 ≤ n) : 0 ≤ within v n ∧ within v n < n := by
  rw [within, if_neg (by omega)]
  exact ⟨Int.emod_nonneg _ (by omega), Int.emod_lt_of_pos _ (by omega)⟩
theorem within_tmod (v n : Int) (h : 1 ≤ n) : within v n = if v.tmod n < 0 then v.tmod n + n else v.tmod n := by
  rw [within, if_neg (by omega), Int.tmod_eq_emod]
  have h1 := Int.emod_nonneg v (show n ≠ 0 by omega)
  have h2 := Int.emod_lt_of_pos v (show 0 < n by omega)
  split <;> split <;> omega
set_option maxRecDepth 100000 in
set_option maxHeartbeats 400000 in
theorem within_calls (v n : Int) (h : 1 ≤ n) (hn : n ≤ 9223372036854775807) (w : World) :
    Calls Tryz.prog 13 #[.int .i64 v, .int .i64 n] w fun e w' => e = .returned (.int .i64 (within v n)) ∧ w = w' := by
  have h1 : v.tmod n < n := Int.tmod_lt_of_pos v (by omega)
  have h2 : -n < v.tmod n := Int.lt_tmod_of_pos v (by omega)
  have h0 : n ≠ 0 := by omega
  have t0 : (n == 0) = false := by simp; omega
  have H := Lib.hid (within_tmod v n h)
  by_cases hneg : v.tmod n < 0
  · go_enter Tryz.func13, Tryz.ntmps13
    go_wp2
    go_ret
    exact ⟨ret_int (by rw [H.out, if_pos hneg]), rfl⟩
  · go_enter Tryz.func13, Tryz.ntmps13
    go_wp2
    go_ret
    exact ⟨ret_int (by rw [H.out, if_neg (by omega)]), rfl⟩
theorem E8k : (Tryz.prog.info? 5).map (fun i => (i.zero, i.size, i.bytes)) = some (some (.int .u8 0), 1, 1) := by kernel_rfl
theorem E8s : (Tryz.prog.info? 5).map (·.size) = some 1 := by kernel_rfl
def lendF (bs : List UInt8) : Nat → UInt8 := fun i => if i < bs.length then bs.getD i 0 else 85
def Lent (w : World) (g : Nat) (bs : List UInt8) : Prop := Blk w g (rowArr (bs.length + 3) (lendF bs)) 5
theorem Lent.bys {w : World} {g : Nat} {bs : List UInt8} (h : Lent w g bs) (hl : bs.length ≤ 1000000) : Bys w (.slice (some ⟨g, 0, none⟩) bs.length (bs.length + 3)) bs :=
  ⟨_, bs.length + 3, rfl, by omega, by unfold maxLen; omega, fun _ => ⟨g, 0, rfl, fun i u hi => by
    have hil : i < bs.length := by
      rcases Nat.lt_or_ge i bs.length with h | h
      · exact h
      · rw [List.getElem?_eq_none h] at hi; cases hi
    rw [Nat.zero_add, (show Blk w g _ _ from h).cell, rowArr_get _ _ _ (by omega)]
    have e : lendF bs i = u := by unfold lendF; rw [if_pos hil, List.getD_eq_getElem?_getD, hi]; rfl
    rw [e]⟩⟩
end Go.Proofs.YtbbojbdigiibbaaGreatDoor
end
section
namespace Go.Mem
open Go Go.RowKit Gf
structure DiskS where
  n : Nat
  f : Nat → UInt8
  dead : Bool
  stops : Bool
  cnt : Nat
  keep : Nat
  writes : Nat
def DiskS.fresh (n : Nat) : DiskS := ⟨n, fun _ => 0, false, false, 0, 0, 0⟩
def DiskS.may (s : DiskS) (i : Int) : Bool := decide (0 ≤ i) && decide (i < s.n)
def DiskS.stop (s : DiskS) (a k : Int) : DiskS := { s with stops := true, cnt := (max 0 a).toNat, keep := (max 0 (min k 32)).toNat }
def DiskS.start (s : DiskS) : DiskS := { s with dead := false, stops := false }
def DiskS.sector (s : DiskS) (i : Nat) : List UInt8 := rowL 32 fun k => s.f (i * 32 + k)
def DiskS.lay (s : DiskS) (i : Nat) (bs : List UInt8) (m : Nat) : Nat → UInt8 := fun j => if i * 32 ≤ j ∧ j < i * 32 + m then bs.getD (j - i * 32) 0 else s.f j
def DiskS.write (s : DiskS) (i : Nat) (bs : List UInt8) : DiskS :=
  if s.stops = true ∧ s.cnt = 0 then { s with f := s.lay i bs s.keep, dead := true }
  else { s with f := s.lay i bs 32, cnt := if s.stops then s.cnt - 1 else s.cnt, writes := s.writes + 1 }
theorem madeCells_arr (m k : Nat) (hm0 : 0 < m) : madeCells (rowArr m fun _ => 0) k = rowArr k fun _ => 0 := by
  apply Array.ext
  · simp [madeCells, rowArr_size]
  · intro i h1 h2
    have hm : i % m < m := Nat.mod_lt _ hm0
    simp only [madeCells, Array.getElem_map, Array.getElem_range, rowArr_size]
    simp [rowArr, hm]
end Go.Mem
namespace Go.Proofs.YtbbojbdigiibbaaGreatDoor
open Go Go.RowKit Go.Mem Gf
attribute [local go_sem ↓] Go.wp_at_zero Go.wp_at_succ
def IsDisk (w : World) (d L : Nat) (s : DiskS) : Prop :=
  ∃ cap arr, Blk w d #[.slice (some ⟨L, 0, none⟩) s.n cap, .bool s.dead, .bool s.stops, .int .i64 s.cnt, .int .i64 s.keep, .int .i64 s.writes] 142 ∧ s.n ≤ cap ∧ cap ≤ 9223372036854775807 ∧ Blk w L arr 62 ∧ s.n * 32 ≤ arr.size ∧
    (∀ j, j < s.n * 32 → arr[j]? = some (.int .u8 ((s.f j).toNat : Int))) ∧ 1 ≤ s.n ∧ s.n ≤ 4096 ∧ s.keep ≤ 32 ∧ d ≠ L ∧ s.cnt ≤ 9223372036854775807 ∧ s.writes ≤ 4611686018427387904
theorem IsDisk.chg {w w' : World} {d L : Nat} {s : DiskS} {S : Nat → Prop} (h : IsDisk w d L s) (hc : Chg S w w') (h1 : ¬ S d) (h2 : ¬ S L) : IsDisk w' d L s := by
  obtain ⟨cap, arr, hd, a, b, hL, r⟩ := h
  exact ⟨cap, arr, hc.blk hd h1, a, b, hc.blk hL h2, r⟩
theorem IsDisk.below {w w' : World} {d L : Nat} {s : DiskS} (h : IsDisk w d L s) (hc : Below w.heap.size w w') : IsDisk w' d L s := h.chg (S := fun _ => False) (Chg.of_below hc) id id
theorem IsDisk.drewN {w : World} {d L : Nat} {s : DiskS} (h : IsDisk w d L s) (m : Nat) : IsDisk (w.drewN m) d L s := h
theorem IsDisk.lt {w : World} {d L : Nat} {s : DiskS} (h : IsDisk w d L s) : d < w.heap.size ∧ L < w.heap.size := by
  obtain ⟨cap, arr, hd, a, b, hL, r⟩ := h
  exact ⟨hd.lt, hL.lt⟩
set_option maxRecDepth 100000 in
set_option maxHeartbeats 1000000 in
theorem may_calls (d L : Nat) (s : DiskS) (i : Int) (w : World) (h : IsDisk w d L s) (b : Bool) (hb : s.may i = b) :
    Calls Tryz.prog 184 #[.pointer (some ⟨d, 0, none⟩), .int .i64 i] w fun e w' => e = .returned (.bool b) ∧ w = w' := by
  have Hb := Lib.hid hb
  clear hb
  obtain ⟨cap, arr, hd, a, b, hL, _, _, hn1, hn2, _⟩ := h
  have c0 : w.cell? ⟨d, 0, none⟩ = some (.slice (some ⟨L, 0, none⟩) s.n cap) := by rw [hd.cell]; rfl
  by_cases h1 : 0 ≤ i
  · have t1 : decide (0 ≤ i) = true := by simp; omega
    have Hm := Lib.hid (show s.may i = decide (i < s.n) from by simp [DiskS.may, h1])
    go_enter Tryz.func184, Tryz.ntmps184
    go_wp2
    go_ret
    exact ⟨by rw [← Hb.out, Hm.out]; rfl, rfl⟩
  · have t1 : decide (0 ≤ i) = false := by simp; omega
    have Hm := Lib.hid (show s.may i = false from by simp [DiskS.may]; omega)
    go_enter Tryz.func184, Tryz.ntmps184
    go_wp2
    go_ret
    exact ⟨by rw [← Hb.out, Hm.out]; rfl, rfl⟩
set_option maxRecDepth 100000 in
set_option maxHeartbeats 1000000 in
theorem dlen_calls (d L : Nat) (s : DiskS) (w : World) (h : IsDisk w d L s) :
    Calls Tryz.prog 83 #[.pointer (some ⟨d, 0, none⟩)] w fun e w' => e = .returned (.int .i64 (s.n : Int)) ∧ w = w' := by
  obtain ⟨cap, arr, hd, a, b, hL, _, _, hn1, hn2, _⟩ := h
  have c0 : w.cell? ⟨d, 0, none⟩ = some (.slice (some ⟨L, 0, none⟩) s.n cap) := by rw [hd.cell]; rfl
  go_enter Tryz.func83, Tryz.ntmps83
  go_wp2
  go_ret
  exact ⟨rfl, rfl⟩
set_option maxRecDepth 100000 in
set_option maxHeartbeats 1000000 in
theorem ddead_calls (d L : Nat) (s : DiskS) (w : World) (h : IsDisk w d L s) :
    Calls Tryz.prog 43 #[.pointer (some ⟨d, 0, none⟩)] w fun e w' => e = .returned (.bool s.dead) ∧ w = w' := by
  obtain ⟨cap, arr, hd, a, b, hL, _, _, hn1, hn2, _⟩ := h
  have c0 : w.cell? ⟨d, 1, none⟩ = some (.bool s.dead) := by rw [hd.cell]; rfl
  go_enter Tryz.func43, Tryz.ntmps43
  go_wp2
  go_ret
  exact ⟨rfl, rfl⟩
set_option maxRecDepth 100000 in
set_option maxHeartbeats 1000000 in
theorem dstart_calls (d L : Nat) (s : DiskS) (w : World) (h : IsDisk w d L s) :
    Calls Tryz.prog 55 #[.pointer (some ⟨d, 0, none⟩)] w fun e w' => e = .returned (.tuple #[]) ∧ IsDisk w' d L s.start ∧ Chg (fun b => b = d) w w' := by
  obtain ⟨cap, arr, hd, a, b, hL, r1, r2, r3, r4, r5, hne, r6⟩ := h
  have c1 : w.cell? ⟨d, 1, none⟩ = some (.bool s.dead) := by rw [hd.cell]; rfl
  have c2 : w.cell? ⟨d, 2, none⟩ = some (.bool s.stops) := by rw [hd.cell]; rfl
  have f1 := hd.free 1
  have f2 := hd.free 2
  go_enter Tryz.func55, Tryz.ntmps55
  go_wp2
  go_end0
  exact ⟨rfl, ⟨cap, arr, (hd.set 1 (.bool false)).set 2 (.bool false), a, b, (hL.set_other hne _).set_other hne _, r1, r2, r3, r4, r5, hne, r6⟩, ((Chg.refl (fun b => b = d) _).set rfl _).set rfl _⟩
theorem IsDisk.stopped {d L : Nat} {s : DiskS} {x y X Y : Int} {w : World} (h : IsDisk w d L s) (hx : x ≤ 9223372036854775807) (hX : ((max 0 x).toNat : Int) = X) (hY : ((max 0 (min y 32)).toNat : Int) = Y) :
    IsDisk (((w.setCell ⟨d, 2, none⟩ (.bool true)).setCell ⟨d, 3, none⟩ (.int .i64 X)).setCell ⟨d, 4, none⟩ (.int .i64 Y)) d L (s.stop x y) := by
  obtain ⟨cap, arr, hd, a, b, hL, r1, r2, r3, r4, r5, hne, r6, r7⟩ := h
  subst hX hY
  exact ⟨cap, arr, ((hd.set 2 _).set 3 _).set 4 _, a, b, ((hL.set_other hne _).set_other hne _).set_other hne _, r1, r2, r3, r4, by show (max 0 (min y 32)).toNat ≤ 32; omega, hne, by show (max 0 x).toNat ≤ 9223372036854775807; omega, r7⟩
set_option maxRecDepth 100000 in
set_option maxHeartbeats 1000000 in
theorem dstop_calls (d L : Nat) (s : DiskS) (x y : Int) (w : World) (hD : IsDisk w d L s) (hx : x ≤ 9223372036854775807) :
    Calls Tryz.prog 54 #[.pointer (some ⟨d, 0, none⟩), .int .i64 x, .int .i64 y] w fun e w' => e = .returned (.tuple #[]) ∧ IsDisk w' d L (s.stop x y) ∧ Chg (fun b => b = d) w w' := by
  obtain ⟨cap, arr, hd, a, b, hL, r1, r2, r3, r4, r5, hne, r6, r7⟩ := id hD
  have c1 : w.cell? ⟨d, 2, none⟩ = some (.bool s.stops) := by rw [hd.cell]; rfl
  have c2 : w.cell? ⟨d, 3, none⟩ = some (.int .i64 s.cnt) := by rw [hd.cell]; rfl
  have c3 : w.cell? ⟨d, 4, none⟩ = some (.int .i64 s.keep) := by rw [hd.cell]; rfl
  have f1 := hd.free 2
  have f2 := hd.free 3
  have f3 := hd.free 4
  go_enter Tryz.func54, Tryz.ntmps54
  go_wp2
  all_goals
    go_end0
    exact ⟨rfl, hD.stopped hx (by omega) (by omega), (((Chg.refl (fun b => b = d) _).set rfl _).set rfl _).set rfl _⟩
theorem new_info : (Tryz.prog.info? 62).map (fun i => (i.zero, i.size, i.bytes)) = some (some (.agg (rowArr 32 fun _ => 0)), 32, 32) := by kernel_rfl
set_option maxRecDepth 100000 in
set_option maxHeartbeats 1000000 in
theorem dnew_calls (n : Nat) (w : World) (h1 : 1 ≤ n) (h2 : n ≤ 4096) :
    Calls Tryz.prog 37 #[.int .i64 n] w fun e w' => ∃ d L, e = .returned (.tuple #[.pointer (some ⟨d, 0, none⟩), .int .i64 0]) ∧ IsDisk w' d L (.fresh n) ∧ w.heap.size ≤ d ∧ w.heap.size ≤ L ∧ Below w.heap.size w w' := by
  have hmk : ∀ w, (Instr.makeSlice 140 (.int .i64 (n : Int)) (.int .i64 (n : Int))).run Tryz.prog w = .ok (.slice (some ⟨w.heap.size, 0, none⟩) n n) (w.alloc (.cells (rowArr (n * 32) fun _ => 0) 62)) := fun w => by
    obtain ⟨i, hi, hz, hs, hb⟩ := info_parts new_info
    have := run_make (P := Tryz.prog) w 140 62 i _ Tryz.underlying140 hi hz .i64 .i64 n n (by omega) (Int.le_refl _) (by rw [hb]; omega) (by omega)
    rw [hs] at this
    simp only [Int.toNat_natCast, Value.cells, madeCells_arr _ _ (show 0 < 32 by decide)] at this
    simpa using this
  have t1 : decide ((n : Int) < 1) = false := by simp; omega
  have t2 : decide ((4096 : Int) < (n : Int)) = false := by simp; omega
  go_enter Tryz.func37, Tryz.ntmps37
  go_wp2
  go_ret2
  have hL : Blk (w.alloc (.cells (rowArr (n * 32) fun _ => 0) 62)) w.heap.size (rowArr (n * 32) fun _ => 0) 62 := Blk.new _ _ _
  exact ⟨_, _, rfl, ⟨n, rowArr (n * 32) fun _ => 0, Blk.new_at _ _ _ _ (by simp), Nat.le_refl _, by omega, hL.alloc _, by rw [rowArr_size]; exact Nat.le_refl _, fun j hj => rowArr_get _ _ _ hj, h1, h2, Nat.zero_le _, by omega, Nat.zero_le _, Nat.zero_le _⟩, by omega, Nat.le_refl _,
    ((Below.refl _ _).alloc (Nat.le_refl _) _).alloc (by simp) _⟩
end Go.Proofs.YtbbojbdigiibbaaGreatDoor
end
section
namespace Go.Mem
open Go Go.RowKit Gf
section
variable {P : Program} {w : World} {ops : Array Oper} {rest : List Oper} {o : Oper} {a : Act} {Q : Exit → Act → World → Prop} {K : Act → World → Prop} {E0 : Prop}
theorem wp_copy_set (d s : Operand) (dT sT elem : TypeId) (ho : o.op = .call { callee := .builtin .copy, args := #[d, s], argTypes := #[dT, sT] }) (hu : P.underlying dT = some (.slice elem)) (hsz : (P.info? elem).map (·.size) = some 1)
    {b off dl dc sl sc : Nat} {sa : Addr} (cs : List Value) (hd : a.eval d = .slice (some ⟨b, off, none⟩) dl dc) (hs : a.eval s = .slice (some sa) sl sc) (hn : cs.length = Nat.min sl dl)
    (hsrc : ∀ j v, cs[j]? = some v → w.cell? (sa.add j) = some v) (ht : w.there b off cs.length) (h1 : ∀ v ∈ cs, v.oneCell' = true)
    (h : K (a.put o.dst (goInt cs.length)) (w.setCells b off cs)) : o.wp P a w K Q := by
  have hrun := run_copy_cells (P := P) w dT sT o.type elem b off dl dc sa sl sc cs hu hsz hn hsrc (fun j hj => (ht j hj).1) (fun j hj => (ht j hj).2) h1
  unfold Oper.wp
  simp [execOp, ho, resolve, invoke, builtin, hd, hs, hrun, Result.andThen]
  exact h
theorem step_copy_set (hgd : o.guard = none) (d s : Operand) (dT sT elem : TypeId) (ho : o.op = .call { callee := .builtin .copy, args := #[d, s], argTypes := #[dT, sT] }) (hu : P.underlying dT = some (.slice elem)) (hsz : (P.info? elem).map (·.size) = some 1)
    {b off dl dc sl sc : Nat} {sa : Addr} (cs : List Value) (hd : a.eval d = .slice (some ⟨b, off, none⟩) dl dc) (hs : a.eval s = .slice (some sa) sl sc) (hn : cs.length = Nat.min sl dl)
    (hsrc : ∀ j v, cs[j]? = some v → w.cell? (sa.add j) = some v) (ht : w.there b off cs.length) (h1 : ∀ v ∈ cs, v.oneCell' = true)
    (h : K (a.put o.dst (goInt cs.length)) (w.setCells b off cs)) : if Region.wanted o (yielded ops a.tmps) = true then Oper.wp P o a w K Q else E0 :=
  to_step hgd (R := fun v' w' => v' = goInt cs.length ∧ w' = w.setCells b off cs) (fun _ hK => wp_copy_set d s dT sT elem ho hu hsz cs hd hs hn hsrc ht h1 (hK _ _ ⟨rfl, rfl⟩)) fun v' w' h2 => by
    obtain ⟨rfl, rfl⟩ := h2; exact h
end
theorem Blk.setCells_other {b L : Nat} {arr : Array Value} {t : TypeId} (hne : b ≠ L) : ∀ (vs : List Value) (o : Nat) (w : World), Blk w b arr t → Blk (w.setCells L o vs) b arr t
  | [], _, _, h => h
  | _ :: r, o, _, h => Blk.setCells_other hne r (o + 1) _ (h.set_other (fun e => hne e.symm) _)
theorem Blk.setCells {L : Nat} {t : TypeId} : ∀ (vs : List Value) (o : Nat) (w : World) (arr : Array Value), Blk w L arr t →
    ∃ arr', Blk (w.setCells L o vs) L arr' t ∧ arr'.size = arr.size ∧ ∀ j, j < arr.size → arr'[j]? = if o ≤ j ∧ j < o + vs.length then vs[j - o]? else arr[j]?
  | [], _, _, arr, h => ⟨arr, h, rfl, fun j _ => by rw [if_neg (by simp)]⟩
  | v :: r, o, _, arr, h => by
    obtain ⟨arr', h1, h2, h3⟩ := Blk.setCells r (o + 1) _ _ (h.set o v)
    rw [Array.size_setIfInBounds] at h2 h3
    refine ⟨arr', h1, h2, fun j hj => ?_⟩
    rw [h3 j hj]
    simp only [List.length_cons]
    by_cases e : j = o
    · subst e
      rw [if_neg (by omega), if_pos (by omega), Array.getElem?_setIfInBounds, if_pos rfl, if_pos hj]; simp
    · by_cases e2 : o + 1 ≤ j ∧ j < o + 1 + r.length
      · rw [if_pos e2, if_pos (by omega), show j - o = (j - (o + 1)) + 1 from by omega, List.getElem?_cons_succ]
      · rw [if_neg e2, if_neg (by omega), Array.getElem?_setIfInBounds, if_neg (fun e' => e e'.symm)]
theorem Chg.setCells {S : Nat → Prop} {L : Nat} (hS : S L) {w : World} : ∀ (vs : List Value) (o : Nat) (w' : World), Chg S w w' → Chg S w (w'.setCells L o vs)
  | [], _, _, h => h
  | _ :: r, o, _, h => Chg.setCells hS r (o + 1) _ (h.set (a := ⟨L, o, none⟩) hS _)
theorem keep_mid {w : World} {d L t o o' n : Nat} {x : Option Value} {cs vs : List Value} (h1 : d ≠ L) (h2 : t ≠ L) (c : w.cell? ⟨d, 0, none⟩ = x) (hr : w.rangeAt t 0 cs) (ht : w.there L o' n) :
    (w.drew.setCells L o vs).cell? ⟨d, 0, none⟩ = x ∧ (w.drew.setCells L o vs).rangeAt t 0 cs ∧ (w.drew.setCells L o vs).there L o' n :=
  ⟨by rw [World.cell?_setCells_out _ _ _ _ _ (fun e => absurd e h1)]; exact c, World.rangeAt_setCells_apart (by rw [World.rangeAt_drew]; exact hr) _ _ _ (.inl h2), World.there_setCells (by rw [World.there_drew]; exact ht) _ _ _⟩
theorem Blk.mid_bys {w : World} {b : Nat} {arr : Array Value} {t : TypeId} (h : Blk w b arr t) {o m c : Nat} {f : Nat → UInt8} (hc : m ≤ c) (hm : c ≤ maxLen)
    (ha : ∀ k, k < m → arr[o + k]? = some (Value.int .u8 ((f k).toNat : Int))) : Bys w (.slice (some ⟨b, o, none⟩) m c) (rowL m f) := by
  refine ⟨_, c, by rw [rowL_len], by rw [rowL_len]; exact hc, hm, fun _ => ⟨b, o, rfl, fun i u hi => ?_⟩⟩
  have hlt : i < m := by
    rcases Nat.lt_or_ge i m with h' | h'
    · exact h'
    · rw [List.getElem?_eq_none (by rw [rowL_len]; exact h')] at hi; cases hi
  rw [rowL_get _ _ _ hlt] at hi; cases hi
  rw [h.cell]; exact ha i hlt
end Go.Mem
end
section
namespace Go.Mem
open Go Go.RowKit Gf
def Byt (arr : Array Value) : Prop := ∀ j, j < arr.size → ∃ u : UInt8, arr[j]? = some (.int .u8 (u.toNat : Int))
theorem byt_row (m : Nat) (f : Nat → UInt8) : Byt (rowArr m f) := fun j hj => ⟨f j, rowArr_get _ _ _ (by rwa [rowArr_size] at hj)⟩
theorem byt_mem {arr : Array Value} : Byt arr ↔ ∀ v ∈ arr.toList, ∃ u : UInt8, v = .int .u8 (u.toNat : Int) := by
  constructor
  · intro h v hv
    obtain ⟨j, hj, rfl⟩ := List.mem_iff_getElem.1 hv
    have hj' : j < arr.size := by simpa using hj
    obtain ⟨u, hu⟩ := h j hj'
    refine ⟨u, ?_⟩
    rw [Array.getElem?_eq_getElem hj'] at hu
    simpa using hu
  · intro h j hj
    obtain ⟨u, hu⟩ := h arr[j] (by simp)
    exact ⟨u, by rw [Array.getElem?_eq_getElem hj, hu]⟩
theorem byt_bV (bs : List UInt8) : ∀ v ∈ bV bs, ∃ u : UInt8, v = .int .u8 (u.toNat : Int) := fun v hv => by
  simp only [bV, List.mem_map] at hv
  obtain ⟨x, _, rfl⟩ := hv
  exact ⟨x, rfl⟩
theorem byt_zero (k : Nat) : ∀ v ∈ (Builtin.zeroCells #[.int .u8 0] k).toList, ∃ u : UInt8, v = .int .u8 (u.toNat : Int) := fun v hv => by
  simp only [Builtin.zeroCells, Array.toList_map, List.mem_map] at hv
  obtain ⟨x, _, rfl⟩ := hv
  exact ⟨0, by simp [Nat.mod_one]⟩
def OwnF (t8 : TypeId) (w : World) (base : Nat) (v : Value) (bs : List UInt8) : Prop :=
  OwnB t8 w base v bs ∧ ∀ g, v.ownBlock = some g → ∃ arr, Blk w g arr t8 ∧ Byt arr
section
variable {t8 : TypeId} {w w' : World} {base : Nat} {v : Value} {bs : List UInt8}
theorem OwnF.nil (t8 : TypeId) (w : World) (base : Nat) : OwnF t8 w base (.slice none 0 0) [] := ⟨OwnB.nil _ _ _, fun g h => by simp [Value.ownBlock] at h⟩
theorem OwnF.own (h : OwnF t8 w base v bs) : OwnB t8 w base v bs := h.1
theorem OwnF.bys (h : OwnF t8 w base v bs) : Bys w v bs := h.1.bys
theorem OwnF.drewN (h : OwnF t8 w base v bs) (n : Nat) : OwnF t8 (w.drewN n) base v bs := h
theorem OwnF.below (h : OwnF t8 w base v bs) (hb : Below w.heap.size w w') : OwnF t8 w' base v bs := ⟨h.1.below hb, fun g hg => by
  obtain ⟨arr, h1, h2⟩ := h.2 g hg
  exact ⟨arr, h1.kept hb, h2⟩⟩
theorem OwnF.mono (h : OwnF t8 w base v bs) {base' : Nat} (hb : base' ≤ base) : OwnF t8 w base' v bs := ⟨h.1.mono hb, h.2⟩
theorem OwnB.chg {S : Nat → Prop} (h : OwnB t8 w base v bs) (hc : Chg S w w') (hs : ∀ g, v.ownBlock = some g → ¬ S g) : OwnB t8 w' base v bs := by
  obtain ⟨h1, h2⟩ := h
  refine ⟨h1, ?_⟩
  rcases h2 with h2 | ⟨g, cap, cur, rfl, hg, hh, r⟩
  · exact .inl h2
  · exact .inr ⟨g, cap, cur, rfl, hg, hc.blk hh (hs g rfl), r⟩
theorem OwnF.chg {S : Nat → Prop} (h : OwnF t8 w base v bs) (hc : Chg S w w') (hs : ∀ g, v.ownBlock = some g → ¬ S g) : OwnF t8 w' base v bs := ⟨h.1.chg hc hs, fun g hg => by
  obtain ⟨arr, h1, h2⟩ := h.2 g hg
  exact ⟨arr, hc.blk h1 (hs g hg), h2⟩⟩
theorem OwnF.row (h : OwnF t8 w base v bs) (h0 : 0 < bs.length) : ∃ g cap arr, v = .slice (some ⟨g, 0, none⟩) bs.length cap ∧ base ≤ g ∧ bs.length ≤ cap ∧ cap ≤ maxLen ∧ Blk w g arr t8 ∧ arr.size = cap ∧ Byt arr := by
  obtain ⟨⟨_, h2⟩, h3⟩ := h
  rcases h2 with ⟨_, h2⟩ | ⟨g, cap, cur, rfl, hg, hh, hnc, hcm, hcs, _⟩
  · omega
  · obtain ⟨arr, h4, h5⟩ := h3 g rfl
    have e : cur = arr := by
      have := (show Blk w g cur t8 from hh).symm.trans h4
      injection this with this
      injection this with this
    subst e
    exact ⟨g, cap, cur, rfl, hg, hnc, hcm, hh, by omega, h5⟩
end
section
variable {P : Program} {w : World} {ops : Array Oper} {rest : List Oper} {o : Oper} {a : Act} {Q : Exit → Act → World → Prop} {K : Act → World → Prop} {E0 : Prop}
theorem run_appF {t e : TypeId} (E : Elem P t e (.int .u8 0) 1) (ty : TypeId) {base : Nat} {v xv : Value} {bs news : List UInt8} (hown : OwnF e w base v bs) (hb : Bys w xv news) (hn : bs.length + news.length ≤ 140737488355328) (hbase : base ≤ w.heap.size) :
    ∃ v' w', (Builtin.append_ #[t, t] ty #[v, xv]).run P w = .ok v' w' ∧ OwnF e w' base v' (bs ++ news) ∧ w.grownBy w' v.ownBlock := by
  obtain ⟨i, hi, hz, hsz, hby⟩ := info_parts E.info
  obtain ⟨hown, hall⟩ := hown
  obtain ⟨ad, cap, rfl, hc1, hc2, hcell⟩ := hb
  cases ad with
  | none =>
    have hl : news = [] := by
      rcases Nat.eq_zero_or_pos news.length with h0 | h0
      · exact List.eq_nil_of_length_eq_zero h0
      · obtain ⟨b, off, e, _⟩ := hcell h0; cases e
    subst hl
    have hrun := run_append_none (P := P) (w := w) base t ty e i 1 cap E.under hi v bs.length (bV bs) hown
    refine ⟨v, w, hrun, by rw [List.append_nil]; exact ⟨hown, hall⟩, ⟨rfl, rfl, rfl, Nat.le_refl _, fun _ _ _ => rfl⟩⟩
  | some ad =>
    have hlen : (bV news).length = news.length * i.size := by rw [bV_len, hsz]; omega
    have hnews : ∀ j y, (bV news)[j]? = some y → w.cell? (ad.add j) = some y := fun j y hj => by
      rw [bV_get] at hj
      cases hu : news[j]? with
      | none => rw [hu] at hj; cases hj
      | some u =>
        rw [hu] at hj
        have hjl : j < news.length := by
          rcases Nat.lt_or_ge j news.length with h' | h'
          · exact h'
          · rw [List.getElem?_eq_none h'] at hu; cases hu
        obtain ⟨b, off, e, hc⟩ := hcell (by omega)
        cases e
        rw [show (⟨b, off, none⟩ : Addr).add j = ⟨b, off + j, none⟩ from by
          unfold Addr.add
          split
          · subst_vars; rfl
          · rfl]
        rw [hc j u hu]
        simpa using hj
    obtain ⟨v', w', hr, h2, h3, h4⟩ := run_append_own (P := P) w base t ty e i (.int .u8 0) i.size 1 E.under hi hz rfl hby (by rw [hsz]; rfl) (by rw [hsz]; decide) v bs.length (bV bs) (by rw [hsz]; exact hown) ad news.length cap (bV news) hlen hnews (bV_one _) (by unfold maxLen; omega) (by omega) hbase
    refine ⟨v', w', hr, ⟨by unfold OwnB; rw [List.length_append, bV_app]; rw [hsz] at h2; exact h2, fun g hg => ?_⟩, h3⟩
    obtain ⟨hl1, hown2⟩ := id hown
    rcases hown2 with ⟨rfl, hz0⟩ | ⟨g0, cap0, cur, rfl, hbg, hh, hnc, hcm, hcs, htake⟩
    · by_cases hm : news.length = 0
      · rw [h4.2 ⟨rfl, hm⟩] at hg; simp [Value.ownBlock] at hg
      · have hr2 := run_append_nil (P := P) w t ty e i (.int .u8 0) E.under hi hz ad news.length cap (bV news) hlen hnews (by omega) (by omega) (by rw [hby]; omega)
        have he := hr.symm.trans hr2
        injection he with e1 e2
        subst e1 e2
        simp only [Value.ownBlock, Option.some.injEq] at hg
        subst hg
        refine ⟨_, heap_alloc_new w.drew _, byt_mem.2 fun y hy => ?_⟩
        simp only [Array.toList_append, List.mem_append] at hy
        rcases hy with hy | hy
        · exact byt_bV _ y (by simpa using hy)
        · exact byt_zero _ y hy
    · obtain ⟨arr, h5, h6⟩ := hall g0 rfl
      have e : cur = arr := by
        have := (show Blk w g0 cur e from hh).symm.trans h5
        injection this with this
        injection this with this
      subst e
      have h6 := byt_mem.1 h6
      by_cases hroom : bs.length + news.length ≤ cap0
      · have hr2 := run_append_room (P := P) w t ty e i E.under hi g0 bs.length cap0 cur hh ad news.length cap (bV news) hlen hnews (bV_one _) hroom (by rw [hlen, hsz]; omega)
        have he := hr.symm.trans hr2
        injection he with e1 e2
        subst e1 e2
        simp only [Value.ownBlock, Option.some.injEq] at hg
        subst hg
        refine ⟨_, setRow_heap w g0 cur _ e _ hh, byt_mem.2 fun y hy => ?_⟩
        simp only [List.mem_append] at hy
        rcases hy with (hy | hy) | hy
        · exact h6 y (List.mem_of_mem_take hy)
        · exact byt_bV _ y hy
        · exact h6 y (List.mem_of_mem_drop hy)
      · have hr2 := run_append_grow (P := P) w t ty e i (.int .u8 0) E.under hi hz ⟨g0, 0, none⟩ bs.length cap0 (bV bs) (by rw [hl1, hsz]) (World.ownsRow.cells hown rfl) ad news.length cap (bV news) hlen hnews (by omega) (by omega) (growslice_fits (by omega) (by rw [hby]; omega))
        have he := hr.symm.trans hr2
        injection he with e1 e2
        subst e1 e2
        simp only [Value.ownBlock, Option.some.injEq] at hg
        subst hg
        refine ⟨_, heap_alloc_new w.drew _, byt_mem.2 fun y hy => ?_⟩
        simp only [Array.toList_append, List.mem_append] at hy
        rcases hy with (hy | hy) | hy
        · exact byt_bV _ y (by simpa using hy)
        · exact byt_bV _ y (by simpa using hy)
        · exact byt_zero _ y hy
theorem wpAppF {t e : TypeId} (E : Elem P t e (.int .u8 0) 1) (s x : Operand) (ho : o.op = .call { callee := .builtin .append, args := #[s, x], argTypes := #[t, t] })
    {base : Nat} {v xv : Value} {bs news : List UInt8} (hs : a.eval s = v) (hx : a.eval x = xv) (hown : OwnF e w base v bs) (hb : Bys w xv news) (hn : bs.length + news.length ≤ 140737488355328) (hbase : base ≤ w.heap.size)
    (h : ∀ v' w', OwnF e w' base v' (bs ++ news) ∧ w.grownBy w' v.ownBlock → K (a.put o.dst v') w') : o.wp P a w K Q := by
  obtain ⟨v', w', hr, h2, h3⟩ := run_appF E o.type hown hb hn hbase
  unfold Oper.wp execOp
  simp only [ho, resolve, invoke, builtin, Sem.run_bind, Sem.run_pure, Result.andThen_ok, List.map_toArray, List.map_cons, List.map_nil, hs, hx, hr]
  exact h v' w' ⟨h2, h3⟩
theorem appF {t e : TypeId} (E : Elem P t e (.int .u8 0) 1) (hgd : o.guard = none) (s x : Operand) (ho : o.op = .call { callee := .builtin .append, args := #[s, x], argTypes := #[t, t] })
    {base : Nat} {v xv : Value} {bs news : List UInt8} (hs : a.eval s = v) (hx : a.eval x = xv) (hown : OwnF e w base v bs) (hb : Bys w xv news) (hn : bs.length + news.length ≤ 140737488355328) (hbase : base ≤ w.heap.size)
    (h : ∀ v' w', OwnF e w' base v' (bs ++ news) → w.grownBy w' v.ownBlock → wpList P ops Q rest (a.put o.dst v') w') : wpList P ops Q (o :: rest) a w :=
  to_list hgd (fun _ hK => wpAppF E s x ho hs hx hown hb hn hbase hK) fun v' w' h2 => h v' w' h2.1 h2.2
end
end Go.Mem
end
