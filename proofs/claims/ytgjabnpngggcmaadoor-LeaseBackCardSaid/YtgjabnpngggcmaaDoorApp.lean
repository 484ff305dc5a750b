/- Rows that a call appends to: of bytes, and of slices of bytes; the laws of append for them. No program in sight. -/
import Derived.Test.YtgjabnpngggcmaaDoorMatMem
import Derived.Laws.AppendOwnNone
namespace Go.Mem
open Go Go.RowKit Gf

/-- the values of bytes -/
def bV (bs : List UInt8) : List Value := bs.map fun u => .int .u8 (u.toNat : Int)
theorem bV_len (bs : List UInt8) : (bV bs).length = bs.length := by simp [bV]
theorem bV_app (a b : List UInt8) : bV (a ++ b) = bV a ++ bV b := by simp [bV]
theorem bV_get (bs : List UInt8) (i : Nat) : (bV bs)[i]? = (bs[i]?).map fun u => .int .u8 (u.toNat : Int) := by simp [bV]
theorem bV_one (bs : List UInt8) : ∀ u ∈ bV bs, u.oneCell' = true := by
  intro u hu
  simp only [bV, List.mem_map] at hu
  obtain ⟨x, _, rfl⟩ := hu
  rfl

/-- the table's row of a type of one cell -/
structure Elem (P : Program) (t e : TypeId) (z : Value) (bytes : Nat) : Prop where
  under : P.underlying t = some (.slice e)
  info : (P.info? e).map (fun i => (i.zero, i.size, i.bytes)) = some (some z, 1, bytes)
  one : z.cells.size = 1

/-- v is a slice of just these bytes, its row the call's own -/
def OwnB (t8 : TypeId) (w : World) (base : Nat) (v : Value) (bs : List UInt8) : Prop := w.ownsRow base t8 1 v bs.length (bV bs)

section
variable {t8 tr : TypeId} {w w' : World} {base : Nat} {v : Value} {bs : List UInt8}
theorem grown_alloc {o : Obj} {row : Option Nat} (h : (w.alloc o).grownBy w' row) : w.grownBy w' row :=
  ⟨h.os.trans rfl, h.tape.trans rfl, h.output.trans rfl, Nat.le_trans (by simp) h.size, fun k hk hr => (h.block k (by simp; omega) hr).trans (Below.heap_alloc _ _ _ hk)⟩
theorem grown_none {row : Option Nat} (h : w.grownBy w' row) (hr : row = none) : Below w.heap.size w w' :=
  ⟨h.os, h.tape, h.output, h.size, fun k hk => h.block k hk (by rw [hr]; exact fun e => by cases e)⟩
theorem OwnB.nil (t8 : TypeId) (w : World) (base : Nat) : OwnB t8 w base (.slice none 0 0) [] := World.ownsRow_nil _ _ _ _
theorem OwnB.lt (h : OwnB t8 w base v bs) : ∀ k, v.ownBlock = some k → base ≤ k ∧ k < w.heap.size := World.ownsRow.lt h
theorem OwnB.eq_slice (h : OwnB t8 w base v bs) : ∃ a cap, v = .slice a bs.length cap := by
  obtain ⟨_, h2⟩ := h
  rcases h2 with ⟨rfl, h0⟩ | ⟨g, cap, cur, rfl, _⟩
  · exact ⟨none, 0, by rw [h0]⟩
  · exact ⟨_, cap, rfl⟩
theorem OwnB.mono (h : OwnB t8 w base v bs) {base' : Nat} (hb : base' ≤ base) : OwnB t8 w base' v bs := by
  obtain ⟨h1, h2⟩ := h
  refine ⟨h1, ?_⟩
  rcases h2 with h2 | ⟨g, cap, cur, hv, hg, r⟩
  · exact .inl h2
  · exact .inr ⟨g, cap, cur, hv, Nat.le_trans hb hg, r⟩
theorem OwnB.below (h : OwnB t8 w base v bs) (hb : Below w.heap.size w w') : OwnB t8 w' base v bs := by
  obtain ⟨h1, h2⟩ := h
  refine ⟨h1, ?_⟩
  rcases h2 with h2 | ⟨g, cap, cur, hv, hg, hh, r⟩
  · exact .inl h2
  · exact .inr ⟨g, cap, cur, hv, hg, by rw [hb.block g (lt_of_block hh)]; exact hh, r⟩
theorem OwnB.drewN (h : OwnB t8 w base v bs) (n : Nat) : OwnB t8 (w.drewN n) base v bs := h
theorem OwnB.bys (h : OwnB t8 w base v bs) : Bys w v bs := by
  obtain ⟨hlen, h2⟩ := h
  rcases h2 with ⟨rfl, h0⟩ | ⟨g, cap, cur, rfl, _, hg, hnc, hcm, hcs, htake⟩
  · have : bs = [] := List.eq_nil_of_length_eq_zero h0
    subst this
    exact Bys.nil w
  · refine ⟨_, cap, rfl, hnc, hcm, fun _ => ⟨g, 0, rfl, fun i u hi => ?_⟩⟩
    have hil : i < bs.length := by
      rcases Nat.lt_or_ge i bs.length with h | h
      · exact h
      · rw [List.getElem?_eq_none h] at hi; cases hi
    have hv : (bV bs)[i]? = some (.int .u8 (u.toNat : Int)) := by rw [bV_get, hi]; rfl
    rw [Nat.zero_add]
    rw [← htake, List.getElem?_take, if_pos (by omega)] at hv
    simp only [World.cell?, hg]
    simpa using hv
/-- a row that has been made and is known whole -/
theorem Blk.own {b m : Nat} {f : Nat → UInt8} (h : Blk w b (rowArr m f) t8) (hb : base ≤ b) (hm : m ≤ 9223372036854775807) : OwnB t8 w base (.slice (some ⟨b, 0, none⟩) m m) (rowL m f) := by
  refine ⟨by rw [bV_len]; simp, .inr ⟨b, m, rowArr m f, by rw [rowL_len], hb, h, by rw [rowL_len]; exact Nat.le_refl _, maxLen_ge hm, by rw [rowArr_size]; simp, ?_⟩⟩
  apply List.ext_getElem?
  intro i
  rw [List.getElem?_take, bV_get]
  simp only [rowL_len, Nat.mul_one]
  split
  · rename_i hi
    rw [rowL_get _ _ _ hi]
    simpa using rowArr_get m f i hi
  · rename_i hi
    rw [List.getElem?_eq_none (by rw [rowL_len]; omega)]; rfl

/-- what stands apart from a row of another type that grows -/
theorem own_grown {e1 e2 : TypeId} {s1 s2 n1 n2 b1 b2 : Nat} {v1 v2 : Value} {x1 x2 : List Value} (h1 : w.ownsRow b1 e1 s1 v1 n1 x1) (h2 : w.ownsRow b2 e2 s2 v2 n2 x2) (hne : e1 ≠ e2) (hg : w.grownBy w' v2.ownBlock) :
    w'.ownsRow b1 e1 s1 v1 n1 x1 := by
  refine World.ownsRow.kept h1 hg ?_
  rcases h1.2 with ⟨rfl, _⟩ | ⟨g, cap, cur, rfl, _, hh, _⟩
  · exact .inl rfl
  · refine .inr ?_
    rcases h2.2 with ⟨rfl, _⟩ | ⟨g2, cap2, cur2, rfl, _, hh2, _⟩
    · intro e; simp [Value.ownBlock] at e
    · intro e
      simp only [Value.ownBlock, Option.some.injEq] at e
      subst e
      rw [hh] at hh2
      simp at hh2
      exact hne hh2.2

/-- rows of bytes, each the call's own, in a row that is the call's own -/
def OwnRows (t8 tr : TypeId) (w : World) (base : Nat) (v : Value) (rows : List (List UInt8)) : Prop :=
  ∃ xs, w.ownsRow base tr 1 v rows.length xs ∧ ∀ (j : Nat) (bs : List UInt8), rows[j]? = some bs → ∃ rv, xs[j]? = some rv ∧ OwnB t8 w base rv bs
theorem OwnRows.nil (t8 tr : TypeId) (w : World) (base : Nat) : OwnRows t8 tr w base (.slice none 0 0) [] := ⟨[], World.ownsRow_nil _ _ _ _, fun j bs hj => by simp at hj⟩
theorem OwnRows.eq_slice {rows : List (List UInt8)} (h : OwnRows t8 tr w base v rows) : ∃ a cap, v = .slice a rows.length cap := by
  obtain ⟨_, ⟨_, h2⟩, _⟩ := h
  rcases h2 with ⟨rfl, h0⟩ | ⟨g, cap, cur, rfl, _⟩
  · exact ⟨none, 0, by rw [h0]⟩
  · exact ⟨_, cap, rfl⟩
theorem OwnRows.below {rows : List (List UInt8)} (h : OwnRows t8 tr w base v rows) (hb : Below w.heap.size w w') : OwnRows t8 tr w' base v rows := by
  obtain ⟨xs, h1, h2⟩ := h
  refine ⟨xs, ?_, fun j bs hj => ?_⟩
  · obtain ⟨h1, h3⟩ := h1
    refine ⟨h1, ?_⟩
    rcases h3 with h3 | ⟨g, cap, cur, hv, hg, hh, r⟩
    · exact .inl h3
    · exact .inr ⟨g, cap, cur, hv, hg, by rw [hb.block g (lt_of_block hh)]; exact hh, r⟩
  · obtain ⟨rv, h3, h4⟩ := h2 j bs hj
    exact ⟨rv, h3, h4.below hb⟩
theorem OwnRows.drewN {rows : List (List UInt8)} (h : OwnRows t8 tr w base v rows) (n : Nat) : OwnRows t8 tr (w.drewN n) base v rows := h
theorem OwnRows.lt {rows : List (List UInt8)} (h : OwnRows t8 tr w base v rows) : ∀ k, v.ownBlock = some k → base ≤ k ∧ k < w.heap.size := by
  obtain ⟨xs, h1, _⟩ := h; exact World.ownsRow.lt h1
theorem OwnRows.mono {rows : List (List UInt8)} (h : OwnRows t8 tr w base v rows) {base' : Nat} (hb : base' ≤ base) : OwnRows t8 tr w base' v rows := by
  obtain ⟨xs, ⟨h1, h3⟩, h2⟩ := h
  refine ⟨xs, ⟨h1, ?_⟩, fun j bs hj => ?_⟩
  · rcases h3 with h3 | ⟨g, cap, cur, hv, hg, r⟩
    · exact .inl h3
    · exact .inr ⟨g, cap, cur, hv, Nat.le_trans hb hg, r⟩
  · obtain ⟨rv, h3, h4⟩ := h2 j bs hj
    exact ⟨rv, h3, h4.mono hb⟩
theorem OwnRows.rws {rows : List (List UInt8)} (h : OwnRows t8 tr w base v rows) : Rws w v rows := by
  obtain ⟨xs, ⟨hlen, h2⟩, hx⟩ := h
  rcases h2 with ⟨rfl, h0⟩ | ⟨g, cap, cur, rfl, _, hg, hnc, hcm, hcs, htake⟩
  · have : rows = [] := List.eq_nil_of_length_eq_zero h0
    subst this
    exact Rws.nil w
  · refine ⟨_, cap, rfl, hnc, hcm, fun _ => ⟨g, 0, rfl, fun i r hi => ?_⟩⟩
    obtain ⟨rv, hv, hb⟩ := hx i r hi
    refine ⟨rv, ?_, hb.bys⟩
    rw [Nat.zero_add]
    have hil : i < rows.length := by
      rcases Nat.lt_or_ge i rows.length with h | h
      · exact h
      · rw [List.getElem?_eq_none h] at hi; cases hi
    rw [← htake, List.getElem?_take, if_pos (by omega)] at hv
    simp only [World.cell?, hg]
    simpa using hv
theorem OwnRows.push {rows : List (List UInt8)} {xs : List Value} {rv v' : Value} (hne : t8 ≠ tr) (h1 : w.ownsRow base tr 1 v rows.length xs) (h2 : ∀ (j : Nat) (bs : List UInt8), rows[j]? = some bs → ∃ rv, xs[j]? = some rv ∧ OwnB t8 w base rv bs)
    (hr : OwnB t8 w base rv bs) (hown : w'.ownsRow base tr 1 v' (rows.length + 1) (xs ++ [rv])) (hg : w.grownBy w' v.ownBlock) : OwnRows t8 tr w' base v' (rows ++ [bs]) := by
  have hl : xs.length = rows.length := by have := h1.1; omega
  refine ⟨xs ++ [rv], by rw [List.length_append]; exact hown, fun j b hj => ?_⟩
  rcases Nat.lt_or_ge j rows.length with hjl | hjl
  · rw [List.getElem?_append_left hjl] at hj
    obtain ⟨rv', h3, h4⟩ := h2 j b hj
    exact ⟨rv', by rw [List.getElem?_append_left (by omega)]; exact h3, own_grown h4 h1 hne hg⟩
  · rw [List.getElem?_append_right hjl] at hj
    have hj0 : j - rows.length = 0 := by
      rcases Nat.eq_zero_or_pos (j - rows.length) with h | h
      · exact h
      · rw [List.getElem?_eq_none (by simp; omega)] at hj; cases hj
    rw [hj0] at hj
    simp at hj
    subst hj
    exact ⟨rv, by rw [List.getElem?_append_right (by omega), hl, hj0]; rfl, own_grown hr h1 hne hg⟩
end

/-! ### the laws -/
section
/-- nothing is appended: a slice without an address, whatever its room -/
theorem run_append_none {P : Program} {w : World} (base : Nat) (t ty e : TypeId) (i : TypeInfo) (size cap : Nat) (ht : P.underlying t = some (.slice e)) (hi : P.info? e = some i)
    (v : Value) (n : Nat) (xs : List Value) (hown : w.ownsRow base e size v n xs) :
    (Builtin.append_ #[t, t] ty #[v, .slice none 0 cap]).run P w = .ok v w := by
  rcases hown.2 with ⟨rfl, rfl⟩ | ⟨g, cp, cur, rfl, _, _, hnc, _⟩
  · simp [Builtin.append_, run_underlying ht, sizeOf, typeInfo, hi, Builtin.lenOf, Builtin.firstCells]
  · simp [Builtin.append_, run_underlying ht, sizeOf, typeInfo, hi, Builtin.lenOf, Builtin.firstCells, hnc, storeCells]
end
section
variable {P : Program} {w : World} {ops : Array Oper} {rest : List Oper} {o : Oper} {a : Act} {Q : Exit → Act → World → Prop} {K : Act → World → Prop} {E0 : Prop}
/-- from an operation to the list of a region's operations, and to a step of a region that draws its order -/
theorem to_list (hgd : o.guard = none) {R : Value → World → Prop} (h0 : ∀ K : Act → World → Prop, (∀ v' w', R v' w' → K (a.put o.dst v') w') → o.wp P a w K Q)
    (h : ∀ v' w', R v' w' → wpList P ops Q rest (a.put o.dst v') w') : wpList P ops Q (o :: rest) a w :=
  wpList_plain hgd fun K hK => h0 K fun v' w' hr => hK _ _ (h v' w' hr)
theorem to_step (hgd : o.guard = none) {R : Value → World → Prop} (h0 : ∀ K : Act → World → Prop, (∀ v' w', R v' w' → K (a.put o.dst v') w') → o.wp P a w K Q)
    (h : ∀ v' w', R v' w' → K (a.put o.dst v') w') : if Region.wanted o (yielded ops a.tmps) = true then Oper.wp P o a w K Q else E0 := by
  have hw : Region.wanted o (yielded ops a.tmps) = true := by simp [Region.wanted, hgd]
  rw [if_pos hw]
  exact h0 K h

/-- one thing, laid in a cell, is appended to a row that is the call's own -/
theorem wpApp_one {t e : TypeId} {z : Value} {bytes : Nat} (E : Elem P t e z bytes) (s x : Operand) (ho : o.op = .call { callee := .builtin .append, args := #[s, x], argTypes := #[t, t] })
    {base : Nat} {v : Value} {n : Nat} {xs : List Value} (u : Value) (hs : a.eval s = v) {mb : Nat} (hx : a.eval x = .slice (some ⟨mb, 0, none⟩) 1 1) (hc : w.cell? ⟨mb, 0, none⟩ = some u) (h1 : u.oneCell' = true)
    (hown : w.ownsRow base e 1 v n xs) (hn : n + 1 ≤ 4294967296) (hby : bytes ≤ 4096) (hbase : base ≤ w.heap.size)
    (h : ∀ v' w', w'.ownsRow base e 1 v' (n + 1) (xs ++ [u]) ∧ w.grownBy w' v.ownBlock → K (a.put o.dst v') w') : o.wp P a w K Q := by
  obtain ⟨i, hi, hz, hsz, hb⟩ := info_parts E.info
  have hm : (n + 1) * bytes ≤ 4294967296 * 4096 := Nat.mul_le_mul hn hby
  exact wp_append_own w s x t ho base e i z 1 bytes E.under hi hz hsz hb E.one (by decide) v n xs hs hown ⟨mb, 0, none⟩ 1 1 [u] hx rfl
    (fun j y hj => by
      cases j with
      | zero => simp at hj; subst hj; simpa [Addr.add] using hc
      | succ j => simp at hj)
    (fun y hy => by simp at hy; subst hy; exact h1) (by unfold maxLen; omega) (by omega) hbase
    (fun v' w' h2 h3 _ => h v' w' ⟨h2, h3⟩)
theorem wpApp_byte {t e : TypeId} (E : Elem P t e (.int .u8 0) 1) (s x : Operand) (ho : o.op = .call { callee := .builtin .append, args := #[s, x], argTypes := #[t, t] })
    {base : Nat} {v : Value} {bs : List UInt8} (u : UInt8) (hs : a.eval s = v) {mb : Nat} (hx : a.eval x = .slice (some ⟨mb, 0, none⟩) 1 1) (hc : w.cell? ⟨mb, 0, none⟩ = some (.int .u8 (u.toNat : Int)))
    (hown : OwnB e w base v bs) (hn : bs.length + 1 ≤ 4294967296) (hbase : base ≤ w.heap.size)
    (h : ∀ v' w', OwnB e w' base v' (bs ++ [u]) ∧ w.grownBy w' v.ownBlock → K (a.put o.dst v') w') : o.wp P a w K Q :=
  wpApp_one E s x ho (.int .u8 (u.toNat : Int)) hs hx hc rfl hown hn (by decide) hbase fun v' w' h1 => h v' w' ⟨by unfold OwnB; rw [List.length_append, bV_app]; exact h1.1, h1.2⟩
theorem wpApp_row {t tr t8 : TypeId} (E : Elem P t tr (.slice none 0 0) 24) (s x : Operand) (ho : o.op = .call { callee := .builtin .append, args := #[s, x], argTypes := #[t, t] })
    {base : Nat} {v : Value} {rows : List (List UInt8)} {rv : Value} {bs : List UInt8} (hs : a.eval s = v) {mb : Nat} (hx : a.eval x = .slice (some ⟨mb, 0, none⟩) 1 1) (hc : w.cell? ⟨mb, 0, none⟩ = some rv)
    (hown : OwnRows t8 tr w base v rows) (hr : OwnB t8 w base rv bs) (hne : t8 ≠ tr) (hn : rows.length + 1 ≤ 4294967296) (hbase : base ≤ w.heap.size)
    (h : ∀ v' w', OwnRows t8 tr w' base v' (rows ++ [bs]) ∧ w.grownBy w' v.ownBlock → K (a.put o.dst v') w') : o.wp P a w K Q := by
  obtain ⟨xs, h1, h2⟩ := hown
  obtain ⟨ra, rc, hrv⟩ := hr.eq_slice
  exact wpApp_one E s x ho rv hs hx hc (by rw [hrv]; rfl) h1 hn (by decide) hbase fun v' w' h3 => h v' w' ⟨OwnRows.push hne h1 h2 hr h3.1 h3.2, h3.2⟩
/-- many bytes are appended, of any slice -/
theorem wpApp_bytes {t e : TypeId} (E : Elem P t e (.int .u8 0) 1) (s x : Operand) (ho : o.op = .call { callee := .builtin .append, args := #[s, x], argTypes := #[t, t] })
    {base : Nat} {v xv : Value} {bs news : List UInt8} (hs : a.eval s = v) (hx : a.eval x = xv)
    (hown : OwnB e w base v bs) (hb : Bys w xv news) (hn : bs.length + news.length ≤ 140737488355328) (hbase : base ≤ w.heap.size)
    (h : ∀ v' w', OwnB e w' base v' (bs ++ news) ∧ w.grownBy w' v.ownBlock → K (a.put o.dst v') w') : o.wp P a w K Q := by
  obtain ⟨i, hi, hz, hsz, hby⟩ := info_parts E.info
  obtain ⟨ad, cap, rfl, hc1, hc2, hcell⟩ := hb
  cases ad with
  | some ad =>
    have hlen : (bV news).length = news.length * 1 := by rw [bV_len]; omega
    refine wp_append_own w s x t ho base e i (.int .u8 0) 1 1 E.under hi hz hsz hby rfl (by decide) v bs.length (bV bs) hs hown ad news.length cap (bV news) hx hlen
      (fun j y hj => ?_) (bV_one _) (by unfold maxLen; omega) (by omega) hbase (fun v' w' h2 h3 _ => h v' w' ⟨by unfold OwnB; rw [List.length_append, bV_app]; exact h2, h3⟩)
    rw [bV_get] at hj
    cases hu : news[j]? with
    | none => rw [hu] at hj; cases hj
    | some u =>
      rw [hu] at hj
      have hjl : j < news.length := by
        rcases Nat.lt_or_ge j news.length with h' | h'
        · exact h'
        · rw [List.getElem?_eq_none h'] at hu; cases hu
      obtain ⟨b, off, e, hc⟩ := hcell (by omega)
      cases e
      rw [show (⟨b, off, none⟩ : Addr).add j = ⟨b, off + j, none⟩ from by
        unfold Addr.add
        split
        · subst_vars; rfl
        · rfl]
      rw [hc j u hu]
      simpa using hj
  | none =>
    have hl : news = [] := by
      rcases Nat.eq_zero_or_pos news.length with h0 | h0
      · exact List.eq_nil_of_length_eq_zero h0
      · obtain ⟨b, off, e, _⟩ := hcell h0; cases e
    subst hl
    have hrun := run_append_none (P := P) (w := w) base t o.type e i 1 cap E.under hi v bs.length (bV bs) hown
    unfold Oper.wp
    simp [execOp, ho, resolve, invoke, builtin, hs, hx, hrun, Result.andThen]
    exact h v w ⟨by rw [List.append_nil]; exact hown, ⟨rfl, rfl, rfl, Nat.le_refl _, fun _ _ _ => rfl⟩⟩

/-! at the list of a region's operations, a new block right behind the world -/
theorem app_one {t e : TypeId} {z : Value} {bytes : Nat} (E : Elem P t e z bytes) (hgd : o.guard = none) (s x : Operand) (ho : o.op = .call { callee := .builtin .append, args := #[s, x], argTypes := #[t, t] })
    {base : Nat} {v : Value} {n : Nat} {xs : List Value} (u : Value) (hs : a.eval s = v) {mb : Nat} (hx : a.eval x = .slice (some ⟨mb, 0, none⟩) 1 1) (hmb : mb = w.heap.size) (h1 : u.oneCell' = true)
    (hown : w.ownsRow base e 1 v n xs) (hn : n + 1 ≤ 4294967296) (hby : bytes ≤ 4096) (hbase : base ≤ w.heap.size)
    (h : ∀ v' w', w'.ownsRow base e 1 v' (n + 1) (xs ++ [u]) → w.grownBy w' v.ownBlock → wpList P ops Q rest (a.put o.dst v') w') :
    wpList P ops Q (o :: rest) a (w.alloc (.cells #[u] e)) :=
  to_list hgd (fun _ hK => wpApp_one E s x ho u hs hx (by subst hmb; simp) h1 (hown.alloc _) hn hby (by simp; omega) hK) fun v' w' h2 => h v' w' h2.1 (grown_alloc h2.2)
theorem app_byte {t e : TypeId} (E : Elem P t e (.int .u8 0) 1) (hgd : o.guard = none) (s x : Operand) (ho : o.op = .call { callee := .builtin .append, args := #[s, x], argTypes := #[t, t] })
    {base : Nat} {v : Value} {bs : List UInt8} (u : UInt8) (hs : a.eval s = v) {mb : Nat} (hx : a.eval x = .slice (some ⟨mb, 0, none⟩) 1 1) (hmb : mb = w.heap.size)
    (hown : OwnB e w base v bs) (hn : bs.length + 1 ≤ 4294967296) (hbase : base ≤ w.heap.size)
    (h : ∀ v' w', OwnB e w' base v' (bs ++ [u]) → w.grownBy w' v.ownBlock → wpList P ops Q rest (a.put o.dst v') w') :
    wpList P ops Q (o :: rest) a (w.alloc (.cells #[.int .u8 (u.toNat : Int)] e)) :=
  app_one E hgd s x ho (.int .u8 (u.toNat : Int)) hs hx hmb rfl hown hn (by decide) hbase fun v' w' h1 h2 => h v' w' (by unfold OwnB; rw [List.length_append, bV_app]; exact h1) h2
theorem app_row {t tr t8 : TypeId} (E : Elem P t tr (.slice none 0 0) 24) (hgd : o.guard = none) (s x : Operand) (ho : o.op = .call { callee := .builtin .append, args := #[s, x], argTypes := #[t, t] })
    {base : Nat} {v : Value} {rows : List (List UInt8)} {rv : Value} {bs : List UInt8} (hs : a.eval s = v) {mb : Nat} (hx : a.eval x = .slice (some ⟨mb, 0, none⟩) 1 1) (hmb : mb = w.heap.size)
    (hown : OwnRows t8 tr w base v rows) (hr : OwnB t8 w base rv bs) (hne : t8 ≠ tr) (hn : rows.length + 1 ≤ 4294967296) (hbase : base ≤ w.heap.size)
    (h : ∀ v' w', OwnRows t8 tr w' base v' (rows ++ [bs]) → w.grownBy w' v.ownBlock → wpList P ops Q rest (a.put o.dst v') w') :
    wpList P ops Q (o :: rest) a (w.alloc (.cells #[rv] tr)) := by
  obtain ⟨xs, h1, h2⟩ := hown
  obtain ⟨ra, rc, hrv⟩ := hr.eq_slice
  exact app_one E hgd s x ho rv hs hx hmb (by rw [hrv]; rfl) h1 hn (by decide) hbase fun v' w' h3 h4 => h v' w' (OwnRows.push hne h1 h2 hr h3 h4) h4
theorem app_bytes {t e : TypeId} (E : Elem P t e (.int .u8 0) 1) (hgd : o.guard = none) (s x : Operand) (ho : o.op = .call { callee := .builtin .append, args := #[s, x], argTypes := #[t, t] })
    {base : Nat} {v xv : Value} {bs news : List UInt8} (hs : a.eval s = v) (hx : a.eval x = xv)
    (hown : OwnB e w base v bs) (hb : Bys w xv news) (hn : bs.length + news.length ≤ 140737488355328) (hbase : base ≤ w.heap.size)
    (h : ∀ v' w', OwnB e w' base v' (bs ++ news) → w.grownBy w' v.ownBlock → wpList P ops Q rest (a.put o.dst v') w') :
    wpList P ops Q (o :: rest) a w :=
  to_list hgd (fun _ hK => wpApp_bytes E s x ho hs hx hown hb hn hbase hK) fun v' w' h2 => h v' w' h2.1 h2.2

/-! at the list, the new cell wherever it lies -/
theorem appG_byte {t e : TypeId} (E : Elem P t e (.int .u8 0) 1) (hgd : o.guard = none) (s x : Operand) (ho : o.op = .call { callee := .builtin .append, args := #[s, x], argTypes := #[t, t] })
    {base : Nat} {v : Value} {bs : List UInt8} (u : UInt8) (hs : a.eval s = v) {mb : Nat} (hx : a.eval x = .slice (some ⟨mb, 0, none⟩) 1 1) (hc : w.cell? ⟨mb, 0, none⟩ = some (.int .u8 (u.toNat : Int)))
    (hown : OwnB e w base v bs) (hn : bs.length + 1 ≤ 4294967296) (hbase : base ≤ w.heap.size)
    (h : ∀ v' w', OwnB e w' base v' (bs ++ [u]) → w.grownBy w' v.ownBlock → wpList P ops Q rest (a.put o.dst v') w') : wpList P ops Q (o :: rest) a w :=
  to_list hgd (fun _ hK => wpApp_byte E s x ho u hs hx hc hown hn hbase hK) fun v' w' h2 => h v' w' h2.1 h2.2
theorem appG_row {t tr t8 : TypeId} (E : Elem P t tr (.slice none 0 0) 24) (hgd : o.guard = none) (s x : Operand) (ho : o.op = .call { callee := .builtin .append, args := #[s, x], argTypes := #[t, t] })
    {base : Nat} {v : Value} {rows : List (List UInt8)} {rv : Value} {bs : List UInt8} (hs : a.eval s = v) {mb : Nat} (hx : a.eval x = .slice (some ⟨mb, 0, none⟩) 1 1) (hc : w.cell? ⟨mb, 0, none⟩ = some rv)
    (hown : OwnRows t8 tr w base v rows) (hr : OwnB t8 w base rv bs) (hne : t8 ≠ tr) (hn : rows.length + 1 ≤ 4294967296) (hbase : base ≤ w.heap.size)
    (h : ∀ v' w', OwnRows t8 tr w' base v' (rows ++ [bs]) → w.grownBy w' v.ownBlock → wpList P ops Q rest (a.put o.dst v') w') : wpList P ops Q (o :: rest) a w :=
  to_list hgd (fun _ hK => wpApp_row E s x ho hs hx hc hown hr hne hn hbase hK) fun v' w' h2 => h v' w' h2.1 h2.2
theorem appG_one {t e : TypeId} {z : Value} {bytes : Nat} (E : Elem P t e z bytes) (hgd : o.guard = none) (s x : Operand) (ho : o.op = .call { callee := .builtin .append, args := #[s, x], argTypes := #[t, t] })
    {base : Nat} {v : Value} {n : Nat} {xs : List Value} (u : Value) (hs : a.eval s = v) {mb : Nat} (hx : a.eval x = .slice (some ⟨mb, 0, none⟩) 1 1) (hc : w.cell? ⟨mb, 0, none⟩ = some u) (h1 : u.oneCell' = true)
    (hown : w.ownsRow base e 1 v n xs) (hn : n + 1 ≤ 4294967296) (hby : bytes ≤ 4096) (hbase : base ≤ w.heap.size)
    (h : ∀ v' w', w'.ownsRow base e 1 v' (n + 1) (xs ++ [u]) → w.grownBy w' v.ownBlock → wpList P ops Q rest (a.put o.dst v') w') : wpList P ops Q (o :: rest) a w :=
  to_list hgd (fun _ hK => wpApp_one E s x ho u hs hx hc h1 hown hn hby hbase hK) fun v' w' h2 => h v' w' h2.1 h2.2
/-- a new block of one cell -/
theorem new_cell (w : World) (u : Value) (t : TypeId) (n : Nat) (h : n = w.heap.size) : (w.alloc (.cells #[u] t)).cell? ⟨n, 0, none⟩ = some u := by subst h; rw [(Blk.new w _ _).cell]; rfl
theorem of_drew {B : Nat} {w w' : World} (h : Below B w.drew w') : Below B w w' := ⟨h.os, h.tape, h.output, h.size, h.block⟩
theorem of_drew_base {B : Nat} {w w' : World} (h : Below w.drew.heap.size w.drew w') (hB : B = w.heap.size) : Below B w w' := by subst hB; exact ⟨h.os, h.tape, h.output, h.size, h.block⟩

/-! at a step of a region that draws its order -/
theorem stepApp_byte {t e : TypeId} (E : Elem P t e (.int .u8 0) 1) (hgd : o.guard = none) (s x : Operand) (ho : o.op = .call { callee := .builtin .append, args := #[s, x], argTypes := #[t, t] })
    {base : Nat} {v : Value} {bs : List UInt8} (u : UInt8) (hs : a.eval s = v) {mb : Nat} (hx : a.eval x = .slice (some ⟨mb, 0, none⟩) 1 1) (hc : w.cell? ⟨mb, 0, none⟩ = some (.int .u8 (u.toNat : Int)))
    (hown : OwnB e w base v bs) (hn : bs.length + 1 ≤ 4294967296) (hbase : base ≤ w.heap.size)
    (h : ∀ v' w', OwnB e w' base v' (bs ++ [u]) → w.grownBy w' v.ownBlock → K (a.put o.dst v') w') :
    if Region.wanted o (yielded ops a.tmps) = true then Oper.wp P o a w K Q else E0 :=
  to_step hgd (fun _ hK => wpApp_byte E s x ho u hs hx hc hown hn hbase hK) fun v' w' h2 => h v' w' h2.1 h2.2
theorem stepApp_row {t tr t8 : TypeId} (E : Elem P t tr (.slice none 0 0) 24) (hgd : o.guard = none) (s x : Operand) (ho : o.op = .call { callee := .builtin .append, args := #[s, x], argTypes := #[t, t] })
    {base : Nat} {v : Value} {rows : List (List UInt8)} {rv : Value} {bs : List UInt8} (hs : a.eval s = v) {mb : Nat} (hx : a.eval x = .slice (some ⟨mb, 0, none⟩) 1 1) (hc : w.cell? ⟨mb, 0, none⟩ = some rv)
    (hown : OwnRows t8 tr w base v rows) (hr : OwnB t8 w base rv bs) (hne : t8 ≠ tr) (hn : rows.length + 1 ≤ 4294967296) (hbase : base ≤ w.heap.size)
    (h : ∀ v' w', OwnRows t8 tr w' base v' (rows ++ [bs]) → w.grownBy w' v.ownBlock → K (a.put o.dst v') w') :
    if Region.wanted o (yielded ops a.tmps) = true then Oper.wp P o a w K Q else E0 :=
  to_step hgd (fun _ hK => wpApp_row E s x ho hs hx hc hown hr hne hn hbase hK) fun v' w' h2 => h v' w' h2.1 h2.2
theorem stepApp_bytes {t e : TypeId} (E : Elem P t e (.int .u8 0) 1) (hgd : o.guard = none) (s x : Operand) (ho : o.op = .call { callee := .builtin .append, args := #[s, x], argTypes := #[t, t] })
    {base : Nat} {v xv : Value} {bs news : List UInt8} (hs : a.eval s = v) (hx : a.eval x = xv)
    (hown : OwnB e w base v bs) (hb : Bys w xv news) (hn : bs.length + news.length ≤ 140737488355328) (hbase : base ≤ w.heap.size)
    (h : ∀ v' w', OwnB e w' base v' (bs ++ news) → w.grownBy w' v.ownBlock → K (a.put o.dst v') w') :
    if Region.wanted o (yielded ops a.tmps) = true then Oper.wp P o a w K Q else E0 :=
  to_step hgd (fun _ hK => wpApp_bytes E s x ho hs hx hown hb hn hbase hK) fun v' w' h2 => h v' w' h2.1 h2.2
theorem stepApp_one {t e : TypeId} {z : Value} {bytes : Nat} (E : Elem P t e z bytes) (hgd : o.guard = none) (s x : Operand) (ho : o.op = .call { callee := .builtin .append, args := #[s, x], argTypes := #[t, t] })
    {base : Nat} {v : Value} {n : Nat} {xs : List Value} (u : Value) (hs : a.eval s = v) {mb : Nat} (hx : a.eval x = .slice (some ⟨mb, 0, none⟩) 1 1) (hc : w.cell? ⟨mb, 0, none⟩ = some u) (h1 : u.oneCell' = true)
    (hown : w.ownsRow base e 1 v n xs) (hn : n + 1 ≤ 4294967296) (hby : bytes ≤ 4096) (hbase : base ≤ w.heap.size)
    (h : ∀ v' w', w'.ownsRow base e 1 v' (n + 1) (xs ++ [u]) → w.grownBy w' v.ownBlock → K (a.put o.dst v') w') :
    if Region.wanted o (yielded ops a.tmps) = true then Oper.wp P o a w K Q else E0 :=
  to_step hgd (fun _ hK => wpApp_one E s x ho u hs hx hc h1 hown hn hby hbase hK) fun v' w' h2 => h v' w' h2.1 h2.2
end
end Go.Mem
