/- One thing of many cells is appended to a row of such things that is the call's own. -/
import Derived.Test.YtgjabnpngggcmaaDoorAppK
import Derived.Test.YtgjabnpngggcmaaDoorRowG
import Derived.Test.YtgjabnpngggcmaaDoorFar
namespace Go.Mem
open Go Go.RowKit Gf
section
variable {P : Program} {w : World} {ops : Array Oper} {rest : List Oper} {o : Oper} {a : Act} {Q : Exit → Act → World → Prop} {K : Act → World → Prop} {E0 : Prop}
theorem wpAppN {t e : TypeId} {z : Value} {size bytes : Nat} (E : ElemK P t e z size bytes) (s x : Operand) (ho : o.op = .call { callee := .builtin .append, args := #[s, x], argTypes := #[t, t] })
    {base : Nat} {v : Value} {n m cx : Nat} {xs : List Value} (news : List Value) (hs : a.eval s = v) {mb : Nat} (hx : a.eval x = .slice (some ⟨mb, 0, none⟩) m cx) (hl : news.length = m * size) (hnews : ∀ j u, news[j]? = some u → w.cell? ⟨mb, j, none⟩ = some u) (h1 : ∀ u ∈ news, u.oneCell' = true)
    (hown : w.ownsRow base e size v n xs) (hn : n + m ≤ 4294967296) (hby : bytes ≤ 4096) (hbase : base ≤ w.heap.size)
    (h : ∀ v' w', w'.ownsRow base e size v' (n + m) (xs ++ news) ∧ w.grownBy w' v.ownBlock ∧ (∀ k, v'.ownBlock = some k → v.ownBlock = some k ∨ w.heap.size ≤ k) → K (a.put o.dst v') w') : o.wp P a w K Q := by
  obtain ⟨i, hi, hz, hsz, hb⟩ := info_parts E.info
  have hm : (n + m) * bytes ≤ 4294967296 * 4096 := Nat.mul_le_mul hn hby
  obtain ⟨v', w', hr, h2, h3, h4⟩ := run_append_own_new (P := P) w base t o.type e i z size bytes E.under hi hz hsz hb E.zsize E.pos v n xs hown ⟨mb, 0, none⟩ m cx news (by omega)
    (fun j y hj => by
      rw [show (⟨mb, 0, none⟩ : Addr).add j = ⟨mb, j, none⟩ from by unfold Addr.add; split <;> simp_all]
      exact hnews j y hj)
    h1 (by unfold maxLen; omega) (by omega) hbase
  unfold Oper.wp execOp
  simp only [ho, resolve, invoke, builtin, Sem.run_bind, Sem.run_pure, Result.andThen_ok, List.map_toArray, List.map_cons, List.map_nil, hs, hx, hr]
  exact h v' w' ⟨h2, h3, h4⟩
/-- at a region's list of operations -/
theorem appG_own {α : Type} {enc : α → List Value} {Wf : α → Prop} {t e : TypeId} {z : Value} {size bytes : Nat} (E : ElemK P t e z size bytes) (EC : EncK enc Wf size) (hgd : o.guard = none) (s x : Operand) (ho : o.op = .call { callee := .builtin .append, args := #[s, x], argTypes := #[t, t] })
    {base : Nat} {v : Value} {l : List α} (y : α) (hy : Wf y) (hs : a.eval s = v) {mb cx : Nat} (hx : a.eval x = .slice (some ⟨mb, 0, none⟩) 1 cx) {e' : TypeId} (hnews : Blk w mb (enc y).toArray e')
    (hown : OwnG enc Wf size e w base v l) (hn : l.length + 1 ≤ 4294967296) (hby : bytes ≤ 4096) (hbase : base ≤ w.heap.size)
    (h : ∀ v' w', OwnG enc Wf size e w' base v' (l ++ [y]) → w.grownBy w' v.ownBlock → (∀ k, v'.ownBlock = some k → v.ownBlock = some k ∨ w.heap.size ≤ k) → wpList P ops Q rest (a.put o.dst v') w') : wpList P ops Q (o :: rest) a w :=
  to_list hgd (fun _ hK => wpAppN E s x ho (enc y) hs hx (by rw [EC.len y hy, Nat.one_mul]) (fun j u hj => by rw [hnews.cell]; simpa using hj) (EC.one y) hown.own hn hby hbase hK) fun v' w' h2 => h v' w'
    ⟨by rw [List.length_append, List.length_singleton, allV_app, allV_one]; exact h2.1, fun q hq => by
      rcases List.mem_append.1 hq with hq | hq
      · exact hown.wf q hq
      · rw [List.mem_singleton.1 hq]; exact hy⟩ h2.2.1 h2.2.2
end
theorem Chg.trans_below {S : Nat → Prop} {w w' w'' : World} (h : Chg S w w') (h' : Below w'.heap.size w' w'') : Chg S w w'' := h.trans (Chg.of_below h')
theorem OwnG.ge {α : Type} {enc : α → List Value} {Wf : α → Prop} {k : Nat} {ti : TypeId} {w : World} {base : Nat} {v : Value} {l : List α} (h : OwnG enc Wf k ti w base v l) {g : Nat} (e : v.ownBlock = some g) : base ≤ g := by
  rcases h.own.2 with ⟨e1, _⟩ | ⟨g', cap, cur, e1, h1, _⟩
  · rw [e1] at e; cases e
  · rw [e1] at e; cases e; exact h1
theorem OwnG.grown {α : Type} {enc : α → List Value} {Wf : α → Prop} {k : Nat} {ti : TypeId} {w w' : World} {base : Nat} {v : Value} {l : List α} (h : OwnG enc Wf k ti w base v l) {row : Option Nat} (hg : w.grownBy w' row) (hr : ∀ g, v.ownBlock = some g → row ≠ some g) : OwnG enc Wf k ti w' base v l :=
  h.chg (S := fun q => row = some q) (Chg.grown (Chg.refl _ _) hg (fun _ hq => .inl hq)) (fun g hg' => hr g hg')
end Go.Mem
