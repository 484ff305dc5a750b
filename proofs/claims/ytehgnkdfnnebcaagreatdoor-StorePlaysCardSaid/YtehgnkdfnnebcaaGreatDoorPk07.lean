/- Texts of this proof, packed: Ref10Drop, StoreFreeN, StoreNames, Strs, Ref10Names, RefTake. -/
import Derived.Test.YtehgnkdfnnebcaaGreatDoorPk06
import Derived.Test.YtehgnkdfnnebcaaGreatDoorPk04
import Derived.Sort.OwnSorted
import Derived.Test.YtehgnkdfnnebcaaGreatDoorPk00
import Derived.Test.YtehgnkdfnnebcaaGreatDoorPk05
import Derived.Test.YtehgnkdfnnebcaaGreatDoorPk02
import Derived.Deep.QuietTactic
import Derived.Deep.CutBlock
section
namespace Go.Mem
open Go Go.RowKit Gf Go.Proofs.YtehgnkdfnnebcaaGreatDoor
set_option linter.unusedVariables false
theorem appRow_ex {P : Program} {t e : TypeId} {z : Value} {size bytes : Nat} (E : ElemK P t e z size bytes) {α : Type} {enc : α → List Value} {Wf : α → Prop} (EC : EncK enc Wf size) {o : Oper} {a : Act} {w : World} (s x : Operand) (ho : o.op = .call { callee := .builtin .append, args := #[s, x], argTypes := #[t, t] })
    {base : Nat} {v : Value} {l l2 : List α} (hs : a.eval s = v) {L off m c : Nat} (hx : a.eval x = .slice (some ⟨L, off, none⟩) m c) (hm : l2.length = m) (hw : ∀ y ∈ l2, Wf y) (hnews : ∀ j u, (allV enc l2)[j]? = some u → w.cell? ⟨L, off + j, none⟩ = some u)
    (hown : OwnG enc Wf size e w base v l) (hn : l.length + m ≤ 4294967296) (hby : bytes ≤ 4096) (hbase : base ≤ w.heap.size) {R : Value → World → Prop}
    (h : ∀ v' w', OwnG enc Wf size e w' base v' (l ++ l2) → w.grownBy w' v.ownBlock → (∀ k, v'.ownBlock = some k → v.ownBlock = some k ∨ w.heap.size ≤ k) → R v' w') : ∃ v' w', (execOp a.eval o).run P w = .ok (.value v') w' ∧ R v' w' := by
  obtain ⟨i, hi, hz, hsz, hb⟩ := info_parts E.info
  have hmm : (l.length + m) * bytes ≤ 4294967296 * 4096 := Nat.mul_le_mul hn hby
  obtain ⟨v', w', hr, h2, h3, h4⟩ := run_append_own_new (P := P) w base t o.type e i z size bytes E.under hi hz hsz hb E.zsize E.pos v l.length (allV enc l) hown.own ⟨L, off, none⟩ m c (allV enc l2) (by rw [allV_len EC l2 hw, hm])
    (fun j y hj => by
      rw [show (⟨L, off, none⟩ : Addr).add j = ⟨L, off + j, none⟩ from by
        unfold Addr.add
        split
        · subst_vars; rfl
        · rfl]
      exact hnews j y hj)
    (allV_news EC l2) (by unfold maxLen; omega) (by omega) hbase
  refine ⟨v', w', ?_, h v' w' ⟨by rw [List.length_append, hm, allV_app]; exact h2, fun y hy => (List.mem_append.1 hy).elim (hown.wf y) (hw y)⟩ h3 h4⟩
  unfold execOp
  simp only [ho, resolve, invoke, builtin, Sem.run_bind, Sem.run_pure, Result.andThen_ok, List.map_toArray, List.map_cons, List.map_nil, hs, hx, hr]
theorem row_part {w : World} {b off : Nat} {ps : List RP} (h : ∀ (i : Nat) (p : RP), ps[i]? = some p → ∀ (k : Nat) (x : Value), (eR p)[k]? = some x → w.cell? ⟨b, off + i * 4 + k, none⟩ = some x) (d m : Nat) :
    ∀ j u, (allV eR ((ps.drop d).take m))[j]? = some u → w.cell? ⟨b, off + d * 4 + j, none⟩ = some u := fun j u hu => by
  have hl := allV_len ecR ((ps.drop d).take m) (fun _ _ => trivial)
  have hj := (List.getElem?_eq_some_iff.1 hu).1
  rw [hl] at hj
  have hi : j / 4 < ((ps.drop d).take m).length := by omega
  obtain ⟨p, hp⟩ : ∃ p, ((ps.drop d).take m)[j / 4]? = some p := ⟨_, List.getElem?_eq_getElem hi⟩
  have h1 := allV_get ecR ((ps.drop d).take m) (fun _ _ => trivial) (j / 4) p hp (j % 4) (by omega)
  rw [show j / 4 * 4 + j % 4 = j from by omega, hu] at h1
  have hp2 : ps[d + j / 4]? = some p := by
    rw [List.getElem?_take, List.getElem?_drop] at hp
    split at hp
    · exact hp
    · cases hp
  have := h (d + j / 4) p hp2 (j % 4) u h1.symm
  rw [show off + d * 4 + j = off + (d + j / 4) * 4 + j % 4 from by omega]
  exact this
def rdropR (room : Nat) (D : DiskS) (L : List RRec) (died : Bool) (name : ByteArray) : Int × DiskS × List RRec × Bool :=
  if died = true then (8, D, L, died) else match rfind L name L.length with
  | none => (4, D, L, died)
  | some i =>
    if D.wres ((rslot L i * (room + 1) : Nat) : Int) 0 ≠ 0 then (8, D.wr ((rslot L i * (room + 1) : Nat) : Int) [], L, true)
    else (0, D.wr ((rslot L i * (room + 1) : Nat) : Int) [], L.take i ++ L.drop (i + 1), false)
end Go.Mem
namespace Go.Proofs.YtehgnkdfnnebcaaGreatDoor
open Go Go.RowKit Go.Mem Gf
set_option linter.unusedVariables false
set_option linter.unusedSimpArgs false
attribute [local go_sem ↓] Go.wp_at_zero Go.wp_at_succ
set_option maxRecDepth 20000 in
set_option maxHeartbeats 4000000 in
theorem rdrop_calls (w : World) (N : Nat → Prop) (q r B : Nat) (lv : Value) (ps : List RP) (D : DiskS) (slots room : Nat) (L : List RRec) (died : Bool) (h : RStore w N q r B lv ps D slots room L died) (name : ByteArray) (hN : ∀ b, N b → b < w.heap.size) (hfew : D.writes < 4611686018427000000) :
    Calls Tryz.prog 31 #[.pointer (some ⟨q, 0, none⟩), .string name] w fun e w' => ∃ lv' ps', e = .returned (.int .i64 (rdropR room D L died name).1) ∧ RStore w' N q r B lv' ps' (rdropR room D L died name).2.1 slots room (rdropR room D L died name).2.2.1 (rdropR room D L died name).2.2.2 ∧ Chg (FootR q r B) w w' := by
  have c4 : w.cell? ⟨q, 4, none⟩ = some (.bool died) := h.blk.cell 4
  have H := Lib.hid (And.intro h (And.intro hN hfew))
  clear h hN hfew
  go_enter Tryz.func31, Tryz.ntmps31
  cases died with
  | true =>
    have HQ := Lib.hid (show rdropR room D L true name = (8, D, L, true) from by unfold rdropR; rw [if_pos rfl])
    go_wp2_with fail
    go_ret
    rw [HQ.out]
    exact ⟨lv, ps, rfl, H.out.1, Chg.refl _ _⟩
  | false =>
    go_wp2_with fail
    refine (rfind_calls w N q r B lv ps D slots room L false H.out.1 name).mono ?_
    rintro e w1 ⟨rfl, rfl⟩
    cases hf : rfind L name L.length with
    | none =>
      have HQ := Lib.hid (show rdropR room D L false name = (4, D, L, false) from by unfold rdropR; rw [if_neg (by decide), hf])
      clear hf
      simp only [optI]
      go_wp2_with fail
      go_ret
      rw [HQ.out]
      exact ⟨lv, ps, rfl, H.out.1, Chg.refl _ _⟩
    | some i =>
      obtain ⟨_, x, hx, _⟩ := rfind_lt hf
      have c3 : w.cell? ⟨q, 3, none⟩ = some lv := H.out.1.blk.cell 3
      have c2' : w.cell? ⟨q, 2, none⟩ = some (.int .i64 room) := H.out.1.blk.cell 2
      obtain ⟨a, c, rfl, h1, h2, h3⟩ := id H.out.1.row
      obtain ⟨p, hp, e1, e2, e3, _⟩ := H.out.1.recs.at hx
      obtain ⟨b, off, ha, hb1, hb2, hc⟩ := h3 (by have := (List.getElem?_eq_some_iff.1 hp).1; omega)
      have cx := hc i p hp 3 (.int .i64 p.slot) rfl
      subst ha
      rw [e3] at cx
      have hil := (List.getElem?_eq_some_iff.1 hp).1
      have i0 : (0 : Int) ≤ (i : Int) := by omega
      have i2 : decide ((i : Int) < 0) = false := by simp
      obtain ⟨n, hnn⟩ : ∃ n, n = ps.length := ⟨_, rfl⟩
      rw [← hnn] at c3 hil h1
      have hnb : n ≤ 1024 := by have := H.out.1.few; have := H.out.1.recs.len; have := H.out.1.s1; omega
      have i1 : (i : Int) < (n : Int) := by omega
      have hrs : rslot L i = x.slot := by unfold rslot; rw [hx]; rfl
      have hxs := (H.out.1.small x (List.mem_of_getElem? hx)).2.2
      have hs1 := H.out.1.s1
      have hr1 := H.out.1.r1
      obtain ⟨A2, hA2'⟩ : ∃ n, n = x.slot * (room + 1) := ⟨_, rfl⟩
      have hA22 : A2 ≤ 1024 * 1025 := by
        rw [hA2']
        exact Nat.mul_le_mul (by omega) (by omega)
      have q1 : IntKind.i64.wrap ((room : Int) + 1) = (room : Int) + 1 := IntWalk.i64_in _ (by omega)
      have q8 : IntKind.i64.wrap ((x.slot : Int) * ((room : Int) + 1)) = (A2 : Int) := by
        have e2 : (x.slot : Int) * ((room : Int) + 1) = (A2 : Int) := by rw [hA2']; push_cast; rfl
        rw [e2]
        exact IntWalk.i64_in _ (by omega)
      have HQ0 := Lib.hid (show rdropR room D L false name = if D.wres (A2 : Int) 0 ≠ 0 then (8, D.wr (A2 : Int) [], L, true) else (0, D.wr (A2 : Int) [], L.take i ++ L.drop (i + 1), false) from by
        unfold rdropR
        rw [if_neg (by decide), hf]
        simp only []
        rw [hrs, ← hA2'])
      have HB := Lib.hid (And.intro hb1 (And.intro hb2 (And.intro hc (And.intro hnn (And.intro h1 h2)))))
      clear hf hp hc h3 h1 h2 hx e1 e2 e3 hnn hA2' hrs hA22 hxs hb1 hb2
      simp only [optI]
      go_upto_region 6 with fail
      refine Tail.wp_region_quiet_tail 15 (fun w' => ∃ n, w' = w.drewN n) (by kernel_rfl) (by kernel_rfl) ⟨1, rfl⟩ ?_
      simp only [List.take_succ_cons, List.take_zero, List.drop_succ_cons, List.drop_zero]
      repeat (first
        | go_big_quiet_step (fail)
        | quiet_step (fail))
      refine wpQuiet_nil ?_
      intro _ hw'
      obtain ⟨d5, hw''⟩ := hw'
      subst hw''
      have h7 := H.out.1.below (below_drewN (Below.refl w.heap.size w) d5)
      have H7 := Lib.hid h7
      clear h7
      go_wp2_with fail
      refine (rswrite_calls _ N q r B _ ps D slots room L false H7.out A2 _ [] (bys_nil10 _) (fun w' _ => bys_nil10 _) (by have := H.out.2.2; omega)).mono ?_
      rintro er w8 ⟨rfl, h8, hc8⟩
      obtain ⟨bad, hbad⟩ : ∃ z, z = (false || (D.wres (A2 : Int) ([] : List UInt8).length != 0)) := ⟨_, rfl⟩
      rw [← hbad] at h8 ⊢
      have H8 := Lib.hid (And.intro h8 (And.intro ((Chg.of_below (below_drewN (Below.refl w.heap.size w) d5)).trans hc8) hbad))
      clear h8 hc8 hbad
      cases bad with
      | true =>
        have HQ := Lib.hid (show rdropR room D L false name = (8, D.wr (A2 : Int) [], L, true) from by
          rw [HQ0.out, if_pos (by have := H8.out.2.2; simpa using this)])
        go_wp2_with fail
        go_ret
        rw [HQ.out]
        exact ⟨_, ps, rfl, H8.out.1, H8.out.2.1⟩
      | false =>
        have HQ := Lib.hid (show rdropR room D L false name = (0, D.wr (A2 : Int) [], L.take i ++ L.drop (i + 1), false) from by
          rw [HQ0.out, if_neg (by have := H8.out.2.2; simpa using this)])
        go_upto_region 8 with fail
        have hLV : ∀ w', Below w8.heap.size w8 w' → w'.cell? ⟨q, 3, none⟩ = some (.slice (some ⟨b, off, none⟩) n c) := fun w' hb => by rw [HB.out.2.2.2.1]; exact (H8.out.1.blk.kept hb).cell 3
        have HLV := Lib.hid hLV
        have hrow8 : ∀ w', Below w8.heap.size w8 w' → ∀ (i : Nat) (p : RP), ps[i]? = some p → ∀ (k : Nat) (x : Value), (eR p)[k]? = some x → w'.cell? ⟨b, off + i * 4 + k, none⟩ = some x := fun w' hb j pj hj k y hy => by
          obtain ⟨a', c', e', _, _, h3⟩ := (H8.out.1.below hb).row
          injection e' with e1 e2 e3
          obtain ⟨b', off', eb, _, _, hc'⟩ := h3 (by have := (List.getElem?_eq_some_iff.1 hj).1; omega)
          rw [← e1] at eb
          injection eb with eb
          injection eb with e4 e5
          subst e4 e5
          exact hc' j pj hj k y hy
        have hlen1 : (ps.take i).length = i := by rw [List.length_take]; have := HB.out.2.2.2.1; omega
        have HP1 := Lib.hid (And.intro hlen1 (show ∀ w', Below w8.heap.size w8 w' → ∀ j u, (allV eR (ps.take i))[j]? = some u → w'.cell? ⟨b, off + j, none⟩ = some u from fun w' hb j u hu => by
          have := row_part (hrow8 w' hb) 0 i j u (by rw [List.drop_zero]; exact hu)
          rw [Nat.zero_mul, Nat.add_zero] at this
          exact this))
        have hrel : ∀ w9 v9, Below w8.heap.size w8 w9 → OwnG eR WfR 4 73 w9 w8.heap.size v9 (ps.take i ++ ps.drop (i + 1)) → RStore (w9.setCell ⟨q, 3, none⟩ v9) N q r B v9 (ps.take i ++ ps.drop (i + 1)) (D.wr (A2 : Int) []) slots room (L.take i ++ L.drop (i + 1)) false := fun w9 v9 hb9 ho9 => by
          have h9 := H8.out.1.below hb9
          have hp1 := h9.recs.sub 0 i
          have hp2 := h9.recs.sub (i + 1) ps.length
          rw [List.drop_zero, List.drop_zero] at hp1
          rw [List.take_of_length_le (by rw [List.length_drop]; omega), List.take_of_length_le (by rw [List.length_drop, h9.recs.len]; omega)] at hp2
          refine h9.relist (RowR.own ho9 (fun g hg hNg => by have := ho9.ge hg; have := H.out.2.1 g hNg; have := H8.out.2.1.size; omega)) (hp1.app hp2) ?_ (fun x hx => ?_)
          · rw [List.length_append, List.length_take, List.length_drop]
            have := h9.few
            omega
          · rcases List.mem_append.1 hx with hx | hx
            · exact h9.small x (List.mem_of_mem_take hx)
            · exact h9.small x (List.mem_of_mem_drop hx)
        have HREL := Lib.hid hrel
        clear hLV hlen1 hrel c3
        have i1' : (i : Int) + 1 ≤ (n : Int) := by omega
        have s9 : IntKind.i64.wrap ((i : Int) + 1) = (i : Int) + 1 := IntWalk.i64_in _ (by omega)
        have hnc := HB.out.2.2.2.2.1
        have ic : (i : Int) ≤ (c : Int) := by omega
        have iz : (0 : Int) ≤ (i : Int) + 1 := by omega
        have ii : (i : Int) ≤ (i : Int) + 1 := by omega
        have ic' : i ≤ c := by omega
        have in' : i + 1 ≤ n := by omega
        have nc : (n : Int) ≤ (c : Int) := by omega
        by_cases hci : c = i + 1
        · obtain rfl : n = i + 1 := by omega
          have HP2 := Lib.hid (And.intro (show (ps.drop (i + 1)).length = 0 from by rw [List.length_drop]; have := HB.out.2.2.2.1; omega) (show ∀ w', Below w8.heap.size w8 w' → ∀ j u, (allV eR (ps.drop (i + 1)))[j]? = some u → w'.cell? ⟨b, off + j, none⟩ = some u from fun w' hb j u hu => by
            rw [List.drop_eq_nil_of_le (by have := HB.out.2.2.2.1; omega)] at hu
            simp [allV] at hu))
          subst hci
          clear hrow8 hnc
          refine Tail.wp_region_J 18 (fun k => k == 7 || k == 15) (fun k => none)
            (fun D z w' => Below w8.heap.size w8 w' ∧ (D 7 = true → D 15 = false → OwnG eR WfR 4 73 w' w8.heap.size (z 7) (ps.take i)) ∧ (D 15 = true → OwnG eR WfR 4 73 w' w8.heap.size (z 15) (ps.take i ++ ps.drop (i + 1))))
            (by kernel_rfl) (by kernel_rfl) (fun k hk => by simp at hk; omega) (fun D z z' w' hz h => ⟨h.1, fun d d' => by rw [← hz 7 d]; exact h.2.1 d d', fun d => by rw [← hz 15 d]; exact h.2.2 d⟩)
            ⟨(Below.refl _ _).drew, (fun h => by cases h), (fun h => by cases h)⟩ (fun z => ?_)
          simp only [List.take_succ_cons, List.take_zero, List.drop_succ_cons, List.drop_zero]
          refine Tail.J_ex (by rfl) (by rfl) ?_
          apply Exists.intro
          refine ⟨fun w => ?_, ?_⟩
          · go_simp <;> with_reducible rfl
          simp only [Act.put, List.setIfInBounds_toArray, List.set_cons_zero, List.set_cons_succ, Nat.reduceAdd, Nat.reduceEqDiff, reduceIte, Option.getD_some, Option.getD_none]
          refine Tail.J_ex (by rfl) (by rfl) ?_
          apply Exists.intro
          refine ⟨fun w => ?_, ?_⟩
          · go_simp <;> with_reducible rfl
          simp only [Act.put, List.setIfInBounds_toArray, List.set_cons_zero, List.set_cons_succ, Nat.reduceAdd, Nat.reduceEqDiff, reduceIte, Option.getD_some, Option.getD_none]
          refine Tail.J_ex (by rfl) (by rfl) ?_
          apply Exists.intro
          refine ⟨fun w => ?_, ?_⟩
          · go_simp <;> with_reducible rfl
          simp only [Act.put, List.setIfInBounds_toArray, List.set_cons_zero, List.set_cons_succ, Nat.reduceAdd, Nat.reduceEqDiff, reduceIte, Option.getD_some, Option.getD_none]
          refine Tail.J_ex (by rfl) (by rfl) ?_
          apply Exists.intro
          refine ⟨fun w => ?_, ?_⟩
          · go_simp <;> with_reducible rfl
          simp only [Act.put, List.setIfInBounds_toArray, List.set_cons_zero, List.set_cons_succ, Nat.reduceAdd, Nat.reduceEqDiff, reduceIte, Option.getD_some, Option.getD_none]
          refine Tail.J_at (by rfl) (by rfl) ?_
          apply Exists.intro
          refine ⟨fun D w' hd hp hJ => ?_, ?_⟩
          · have cc := HLV.out w' hJ.1
            go_simp <;> with_reducible rfl
          simp only [Act.put, List.setIfInBounds_toArray, List.set_cons_zero, List.set_cons_succ, Nat.reduceAdd, Nat.reduceEqDiff, reduceIte, Option.getD_some, Option.getD_none]
          refine Tail.J_ex (by rfl) (by rfl) ?_
          apply Exists.intro
          refine ⟨fun w => ?_, ?_⟩
          · go_simp <;> with_reducible rfl
          simp only [Act.put, List.setIfInBounds_toArray, List.set_cons_zero, List.set_cons_succ, Nat.reduceAdd, Nat.reduceEqDiff, reduceIte, Option.getD_some, Option.getD_none]
          refine Tail.J_ex (by rfl) (by rfl) ?_
          apply Exists.intro
          refine ⟨fun w => ?_, ?_⟩
          · go_simp <;> with_reducible rfl
          simp only [Act.put, List.setIfInBounds_toArray, List.set_cons_zero, List.set_cons_succ, Nat.reduceAdd, Nat.reduceEqDiff, reduceIte, Option.getD_some, Option.getD_none]
          refine Tail.J_mov (by rfl) (by rfl) (fun D z' w' hD hz hd hp hJ => ?_) ?_
          · have h15 : D 15 = false := hp 15 (by kernel_rfl)
            refine appRow_ex (P := Tryz.prog) EK10 ecR _ _ rfl (base := w8.heap.size) (v := .slice none 0 0) (l := []) (l2 := ps.take i) rfl rfl HP1.out.1 (fun _ _ => trivial) (HP1.out.2 w' hJ.1) (OwnG.nil _ _ _ _ _ _) (by simp; omega) (by decide) hJ.1.size ?_
            intro v' wx ho2 hg2 _
            have hbx : Below w'.heap.size w' wx := grown_none hg2 rfl
            refine ⟨fun c hc => by simp at hc, hJ.1.trans (hbx.mono hJ.1.size), fun _ _ => ?_, fun h => ?_⟩
            · simpa [Tail.updV] using ho2
            · simp [Tail.updB, h15] at h
          simp only [Act.put, List.setIfInBounds_toArray, List.set_cons_zero, List.set_cons_succ, Nat.reduceAdd, Nat.reduceEqDiff, reduceIte, Option.getD_some, Option.getD_none]
          refine Tail.J_ex (by rfl) (by rfl) ?_
          apply Exists.intro
          refine ⟨fun w => ?_, ?_⟩
          · go_simp <;> with_reducible rfl
          simp only [Act.put, List.setIfInBounds_toArray, List.set_cons_zero, List.set_cons_succ, Nat.reduceAdd, Nat.reduceEqDiff, reduceIte, Option.getD_some, Option.getD_none]
          refine Tail.J_ex (by rfl) (by rfl) ?_
          apply Exists.intro
          refine ⟨fun w => ?_, ?_⟩
          · go_simp <;> with_reducible rfl
          simp only [Act.put, List.setIfInBounds_toArray, List.set_cons_zero, List.set_cons_succ, Nat.reduceAdd, Nat.reduceEqDiff, reduceIte, Option.getD_some, Option.getD_none]
          refine Tail.J_ex (by rfl) (by rfl) ?_
          apply Exists.intro
          refine ⟨fun w => ?_, ?_⟩
          · go_simp <;> with_reducible rfl
          simp only [Act.put, List.setIfInBounds_toArray, List.set_cons_zero, List.set_cons_succ, Nat.reduceAdd, Nat.reduceEqDiff, reduceIte, Option.getD_some, Option.getD_none]
          refine Tail.J_at (by rfl) (by rfl) ?_
          apply Exists.intro
          refine ⟨fun D w' hd hp hJ => ?_, ?_⟩
          · have cc := HLV.out w' hJ.1
            go_simp <;> with_reducible rfl
          simp only [Act.put, List.setIfInBounds_toArray, List.set_cons_zero, List.set_cons_succ, Nat.reduceAdd, Nat.reduceEqDiff, reduceIte, Option.getD_some, Option.getD_none]
          refine Tail.J_ex (by rfl) (by rfl) ?_
          apply Exists.intro
          refine ⟨fun w => ?_, ?_⟩
          · go_simp <;> with_reducible rfl
          simp only [Act.put, List.setIfInBounds_toArray, List.set_cons_zero, List.set_cons_succ, Nat.reduceAdd, Nat.reduceEqDiff, reduceIte, Option.getD_some, Option.getD_none]
          refine Tail.J_ex (by rfl) (by rfl) ?_
          apply Exists.intro
          refine ⟨fun w => ?_, ?_⟩
          · go_simp <;> with_reducible rfl
          simp only [Act.put, List.setIfInBounds_toArray, List.set_cons_zero, List.set_cons_succ, Nat.reduceAdd, Nat.reduceEqDiff, reduceIte, Option.getD_some, Option.getD_none]
          refine Tail.J_ex (by rfl) (by rfl) ?_
          apply Exists.intro
          refine ⟨fun w => ?_, ?_⟩
          · go_simp <;> with_reducible rfl
          simp only [Act.put, List.setIfInBounds_toArray, List.set_cons_zero, List.set_cons_succ, Nat.reduceAdd, Nat.reduceEqDiff, reduceIte, Option.getD_some, Option.getD_none]
          refine Tail.J_mov (by rfl) (by rfl) (fun D z' w' hD hz hd hp hJ => ?_) ?_
          · have h7 : D 7 = true := hd 7 (by kernel_rfl)
            have ho := hJ.2.1 h7 hD
            rw [← hz 7 h7] at ho
            refine appRow_ex (P := Tryz.prog) EK10 ecR _ _ rfl (base := w8.heap.size) (v := z 7) (l := ps.take i) (l2 := ps.drop (i + 1)) rfl rfl HP2.out.1 (fun _ _ => trivial) (HP2.out.2 w' hJ.1) ho (by have := HP2.out.1; rw [List.length_take]; omega) (by decide) hJ.1.size ?_
            intro v' wx ho2 hg2 _
            have hbx : Below w8.heap.size w8 wx := grown_below hJ.1 hg2 (fun k hk => ho.ge hk)
            refine ⟨fun c hc => by simp at hc, hbx, fun _ h => ?_, fun _ => ?_⟩
            · simp [Tail.updB] at h
            · simpa [Tail.updV] using ho2
          simp only [Act.put, List.setIfInBounds_toArray, List.set_cons_zero, List.set_cons_succ, Nat.reduceAdd, Nat.reduceEqDiff, reduceIte, Option.getD_some, Option.getD_none]
          refine Tail.J_ex (by rfl) (by rfl) ?_
          apply Exists.intro
          refine ⟨fun w => ?_, ?_⟩
          · go_simp <;> with_reducible rfl
          simp only [Act.put, List.setIfInBounds_toArray, List.set_cons_zero, List.set_cons_succ, Nat.reduceAdd, Nat.reduceEqDiff, reduceIte, Option.getD_some, Option.getD_none]
          refine Tail.J_ex (by rfl) (by rfl) ?_
          apply Exists.intro
          refine ⟨fun w => ?_, ?_⟩
          · go_simp <;> with_reducible rfl
          simp only [Act.put, List.setIfInBounds_toArray, List.set_cons_zero, List.set_cons_succ, Nat.reduceAdd, Nat.reduceEqDiff, reduceIte, Option.getD_some, Option.getD_none]
          intro w9 hJ
          have ho9 := hJ.2.2 rfl
          have hb9 := hJ.1
          clear hJ
          generalize z 15 = v9 at ho9 ⊢
          generalize z 7 = v7
          have h9 := H8.out.1.below hb9
          have c3' : w9.cell? ⟨q, 3, none⟩ = some (.slice (some ⟨b, off, none⟩) (i + 1) (i + 1)) := HLV.out w9 hb9
          have f3' := h9.blk.free 3
          have hfin := HREL.out w9 v9 hb9 ho9
          obtain ⟨a9, c9, e9⟩ := ho9.slice
          obtain ⟨ln, hln⟩ : ∃ m, m = (ps.take i ++ ps.drop (i + 1)).length := ⟨_, rfl⟩
          rw [← hln] at e9
          clear hln
          subst e9
          have HFIN := Lib.hid (And.intro hfin (Chg.set (S := FootR q r B) (a := ⟨q, 3, none⟩) (H8.out.2.1.trans (Chg.of_below hb9)) (.inl rfl) (.slice a9 ln c9)))
          clear h9 hfin ho9 hb9
          go_wp2_with fail
          go_ret
          rw [HQ.out]
          first
            | exact ⟨rfl, ⟨_, _, by simpa using HFIN.out.1⟩, by simpa using HFIN.out.2⟩
            | exact ⟨_, _, rfl, HFIN.out.1, HFIN.out.2⟩
        · have HP2 := Lib.hid (And.intro (show (ps.drop (i + 1)).length = n - (i + 1) from by rw [List.length_drop]; have := HB.out.2.2.2.1; omega) (show ∀ w', Below w8.heap.size w8 w' → ∀ j u, (allV eR (ps.drop (i + 1)))[j]? = some u → w'.cell? ⟨b, off + (i + 1) * 4 + j, none⟩ = some u from fun w' hb j u hu => by
            have := row_part (hrow8 w' hb) (i + 1) ps.length j u (by rw [List.take_of_length_le (by rw [List.length_drop]; omega)]; exact hu)
            exact this))
          have hci' : ¬ (i + 1 = c) := by omega
          clear hrow8 hnc
          refine Tail.wp_region_J 18 (fun k => k == 7 || k == 15) (fun k => none)
            (fun D z w' => Below w8.heap.size w8 w' ∧ (D 7 = true → D 15 = false → OwnG eR WfR 4 73 w' w8.heap.size (z 7) (ps.take i)) ∧ (D 15 = true → OwnG eR WfR 4 73 w' w8.heap.size (z 15) (ps.take i ++ ps.drop (i + 1))))
            (by kernel_rfl) (by kernel_rfl) (fun k hk => by simp at hk; omega) (fun D z z' w' hz h => ⟨h.1, fun d d' => by rw [← hz 7 d]; exact h.2.1 d d', fun d => by rw [← hz 15 d]; exact h.2.2 d⟩)
            ⟨(Below.refl _ _).drew, (fun h => by cases h), (fun h => by cases h)⟩ (fun z => ?_)
          simp only [List.take_succ_cons, List.take_zero, List.drop_succ_cons, List.drop_zero]
          refine Tail.J_ex (by rfl) (by rfl) ?_
          apply Exists.intro
          refine ⟨fun w => ?_, ?_⟩
          · go_simp <;> with_reducible rfl
          simp only [Act.put, List.setIfInBounds_toArray, List.set_cons_zero, List.set_cons_succ, Nat.reduceAdd, Nat.reduceEqDiff, reduceIte, Option.getD_some, Option.getD_none]
          refine Tail.J_ex (by rfl) (by rfl) ?_
          apply Exists.intro
          refine ⟨fun w => ?_, ?_⟩
          · go_simp <;> with_reducible rfl
          simp only [Act.put, List.setIfInBounds_toArray, List.set_cons_zero, List.set_cons_succ, Nat.reduceAdd, Nat.reduceEqDiff, reduceIte, Option.getD_some, Option.getD_none]
          refine Tail.J_ex (by rfl) (by rfl) ?_
          apply Exists.intro
          refine ⟨fun w => ?_, ?_⟩
          · go_simp <;> with_reducible rfl
          simp only [Act.put, List.setIfInBounds_toArray, List.set_cons_zero, List.set_cons_succ, Nat.reduceAdd, Nat.reduceEqDiff, reduceIte, Option.getD_some, Option.getD_none]
          refine Tail.J_ex (by rfl) (by rfl) ?_
          apply Exists.intro
          refine ⟨fun w => ?_, ?_⟩
          · go_simp <;> with_reducible rfl
          simp only [Act.put, List.setIfInBounds_toArray, List.set_cons_zero, List.set_cons_succ, Nat.reduceAdd, Nat.reduceEqDiff, reduceIte, Option.getD_some, Option.getD_none]
          refine Tail.J_at (by rfl) (by rfl) ?_
          apply Exists.intro
          refine ⟨fun D w' hd hp hJ => ?_, ?_⟩
          · have cc := HLV.out w' hJ.1
            go_simp <;> with_reducible rfl
          simp only [Act.put, List.setIfInBounds_toArray, List.set_cons_zero, List.set_cons_succ, Nat.reduceAdd, Nat.reduceEqDiff, reduceIte, Option.getD_some, Option.getD_none]
          refine Tail.J_ex (by rfl) (by rfl) ?_
          apply Exists.intro
          refine ⟨fun w => ?_, ?_⟩
          · go_simp <;> with_reducible rfl
          simp only [Act.put, List.setIfInBounds_toArray, List.set_cons_zero, List.set_cons_succ, Nat.reduceAdd, Nat.reduceEqDiff, reduceIte, Option.getD_some, Option.getD_none]
          refine Tail.J_ex (by rfl) (by rfl) ?_
          apply Exists.intro
          refine ⟨fun w => ?_, ?_⟩
          · go_simp <;> with_reducible rfl
          simp only [Act.put, List.setIfInBounds_toArray, List.set_cons_zero, List.set_cons_succ, Nat.reduceAdd, Nat.reduceEqDiff, reduceIte, Option.getD_some, Option.getD_none]
          refine Tail.J_mov (by rfl) (by rfl) (fun D z' w' hD hz hd hp hJ => ?_) ?_
          · have h15 : D 15 = false := hp 15 (by kernel_rfl)
            refine appRow_ex (P := Tryz.prog) EK10 ecR _ _ rfl (base := w8.heap.size) (v := .slice none 0 0) (l := []) (l2 := ps.take i) rfl rfl HP1.out.1 (fun _ _ => trivial) (HP1.out.2 w' hJ.1) (OwnG.nil _ _ _ _ _ _) (by simp; omega) (by decide) hJ.1.size ?_
            intro v' wx ho2 hg2 _
            have hbx : Below w'.heap.size w' wx := grown_none hg2 rfl
            refine ⟨fun c hc => by simp at hc, hJ.1.trans (hbx.mono hJ.1.size), fun _ _ => ?_, fun h => ?_⟩
            · simpa [Tail.updV] using ho2
            · simp [Tail.updB, h15] at h
          simp only [Act.put, List.setIfInBounds_toArray, List.set_cons_zero, List.set_cons_succ, Nat.reduceAdd, Nat.reduceEqDiff, reduceIte, Option.getD_some, Option.getD_none]
          refine Tail.J_ex (by rfl) (by rfl) ?_
          apply Exists.intro
          refine ⟨fun w => ?_, ?_⟩
          · go_simp <;> with_reducible rfl
          simp only [Act.put, List.setIfInBounds_toArray, List.set_cons_zero, List.set_cons_succ, Nat.reduceAdd, Nat.reduceEqDiff, reduceIte, Option.getD_some, Option.getD_none]
          refine Tail.J_ex (by rfl) (by rfl) ?_
          apply Exists.intro
          refine ⟨fun w => ?_, ?_⟩
          · go_simp <;> with_reducible rfl
          simp only [Act.put, List.setIfInBounds_toArray, List.set_cons_zero, List.set_cons_succ, Nat.reduceAdd, Nat.reduceEqDiff, reduceIte, Option.getD_some, Option.getD_none]
          refine Tail.J_ex (by rfl) (by rfl) ?_
          apply Exists.intro
          refine ⟨fun w => ?_, ?_⟩
          · go_simp <;> with_reducible rfl
          simp only [Act.put, List.setIfInBounds_toArray, List.set_cons_zero, List.set_cons_succ, Nat.reduceAdd, Nat.reduceEqDiff, reduceIte, Option.getD_some, Option.getD_none]
          refine Tail.J_at (by rfl) (by rfl) ?_
          apply Exists.intro
          refine ⟨fun D w' hd hp hJ => ?_, ?_⟩
          · have cc := HLV.out w' hJ.1
            go_simp <;> with_reducible rfl
          simp only [Act.put, List.setIfInBounds_toArray, List.set_cons_zero, List.set_cons_succ, Nat.reduceAdd, Nat.reduceEqDiff, reduceIte, Option.getD_some, Option.getD_none]
          refine Tail.J_ex (by rfl) (by rfl) ?_
          apply Exists.intro
          refine ⟨fun w => ?_, ?_⟩
          · go_simp <;> with_reducible rfl
          simp only [Act.put, List.setIfInBounds_toArray, List.set_cons_zero, List.set_cons_succ, Nat.reduceAdd, Nat.reduceEqDiff, reduceIte, Option.getD_some, Option.getD_none]
          refine Tail.J_ex (by rfl) (by rfl) ?_
          apply Exists.intro
          refine ⟨fun w => ?_, ?_⟩
          · go_simp <;> with_reducible rfl
          simp only [Act.put, List.setIfInBounds_toArray, List.set_cons_zero, List.set_cons_succ, Nat.reduceAdd, Nat.reduceEqDiff, reduceIte, Option.getD_some, Option.getD_none]
          refine Tail.J_ex (by rfl) (by rfl) ?_
          apply Exists.intro
          refine ⟨fun w => ?_, ?_⟩
          · go_simp <;> with_reducible rfl
          simp only [Act.put, List.setIfInBounds_toArray, List.set_cons_zero, List.set_cons_succ, Nat.reduceAdd, Nat.reduceEqDiff, reduceIte, Option.getD_some, Option.getD_none]
          refine Tail.J_mov (by rfl) (by rfl) (fun D z' w' hD hz hd hp hJ => ?_) ?_
          · have h7 : D 7 = true := hd 7 (by kernel_rfl)
            have ho := hJ.2.1 h7 hD
            rw [← hz 7 h7] at ho
            refine appRow_ex (P := Tryz.prog) EK10 ecR _ _ rfl (base := w8.heap.size) (v := z 7) (l := ps.take i) (l2 := ps.drop (i + 1)) rfl rfl HP2.out.1 (fun _ _ => trivial) (HP2.out.2 w' hJ.1) ho (by have := HP2.out.1; rw [List.length_take]; omega) (by decide) hJ.1.size ?_
            intro v' wx ho2 hg2 _
            have hbx : Below w8.heap.size w8 wx := grown_below hJ.1 hg2 (fun k hk => ho.ge hk)
            refine ⟨fun c hc => by simp at hc, hbx, fun _ h => ?_, fun _ => ?_⟩
            · simp [Tail.updB] at h
            · simpa [Tail.updV] using ho2
          simp only [Act.put, List.setIfInBounds_toArray, List.set_cons_zero, List.set_cons_succ, Nat.reduceAdd, Nat.reduceEqDiff, reduceIte, Option.getD_some, Option.getD_none]
          refine Tail.J_ex (by rfl) (by rfl) ?_
          apply Exists.intro
          refine ⟨fun w => ?_, ?_⟩
          · go_simp <;> with_reducible rfl
          simp only [Act.put, List.setIfInBounds_toArray, List.set_cons_zero, List.set_cons_succ, Nat.reduceAdd, Nat.reduceEqDiff, reduceIte, Option.getD_some, Option.getD_none]
          refine Tail.J_ex (by rfl) (by rfl) ?_
          apply Exists.intro
          refine ⟨fun w => ?_, ?_⟩
          · go_simp <;> with_reducible rfl
          simp only [Act.put, List.setIfInBounds_toArray, List.set_cons_zero, List.set_cons_succ, Nat.reduceAdd, Nat.reduceEqDiff, reduceIte, Option.getD_some, Option.getD_none]
          intro w9 hJ
          have ho9 := hJ.2.2 rfl
          have hb9 := hJ.1
          clear hJ
          generalize z 15 = v9 at ho9 ⊢
          generalize z 7 = v7
          have h9 := H8.out.1.below hb9
          have c3' : w9.cell? ⟨q, 3, none⟩ = some (.slice (some ⟨b, off, none⟩) n c) := HLV.out w9 hb9
          have f3' := h9.blk.free 3
          have hfin := HREL.out w9 v9 hb9 ho9
          obtain ⟨a9, c9, e9⟩ := ho9.slice
          obtain ⟨ln, hln⟩ : ∃ m, m = (ps.take i ++ ps.drop (i + 1)).length := ⟨_, rfl⟩
          rw [← hln] at e9
          clear hln
          subst e9
          have HFIN := Lib.hid (And.intro hfin (Chg.set (S := FootR q r B) (a := ⟨q, 3, none⟩) (H8.out.2.1.trans (Chg.of_below hb9)) (.inl rfl) (.slice a9 ln c9)))
          clear h9 hfin ho9 hb9
          go_wp2_with fail
          go_ret
          rw [HQ.out]
          first
            | exact ⟨rfl, ⟨_, _, by simpa using HFIN.out.1⟩, by simpa using HFIN.out.2⟩
            | exact ⟨_, _, rfl, HFIN.out.1, HFIN.out.2⟩
end Go.Proofs.YtehgnkdfnnebcaaGreatDoor
end
section
namespace Go.Mem
open Go Go.RowKit Gf
def freeK (l : List Sto.Rec) : Nat → Nat
  | 0 => 0
  | k + 1 => match l[k]? with
    | none => freeK l k
    | some r => if r.is = false then freeK l k + 1 else freeK l k
theorem freeK_le (l : List Sto.Rec) : ∀ k, freeK l k ≤ k
  | 0 => Nat.le_refl _
  | k + 1 => by
    have := freeK_le l k
    simp only [freeK]
    split
    · omega
    · split <;> omega
def St.freeN (s : St) : Nat := if s.dead = true then 0 else freeK s.recs s.recs.length
end Go.Mem
namespace Go.Proofs.YtehgnkdfnnebcaaGreatDoor
open Go Go.RowKit Go.Mem Gf
attribute [local go_sem ↓] Go.wp_at_zero Go.wp_at_succ
set_option maxRecDepth 100000 in
theorem in_calls (n : Int) (b : Bool) (w : World) (hb : decide (1 ≤ n ∧ n ≤ 1024) = b) :
    Calls Tryz.prog 51 #[.int .i64 n] w fun e w' => e = .returned (.bool b) ∧ w = w' := by
  have H := Lib.hid hb
  clear hb
  by_cases h1 : 1 ≤ n
  · by_cases h2 : n ≤ 1024
    · obtain rfl : b = true := by rw [← H.out]; exact decide_eq_true ⟨h1, h2⟩
      clear H
      go_enter Tryz.func51, Tryz.ntmps51
      go_wp2
      go_ret
      exact ⟨rfl, rfl⟩
    · obtain rfl : b = false := by rw [← H.out]; exact decide_eq_false (fun h => h2 h.2)
      clear H
      go_enter Tryz.func51, Tryz.ntmps51
      go_wp2
      go_ret
      exact ⟨rfl, rfl⟩
  · obtain rfl : b = false := by rw [← H.out]; exact decide_eq_false (fun h => h1 h.1)
    clear H
    go_enter Tryz.func51, Tryz.ntmps51
    go_wp2
    go_ret
    exact ⟨rfl, rfl⟩
set_option maxRecDepth 20000 in
set_option maxHeartbeats 2000000 in
theorem sfree_calls (N : Nat → Prop) (sb lb d L : Nat) (s : St) (w : World) (h : IsStore w N sb lb d L s) :
    Calls Tryz.prog 15 #[.pointer (some ⟨sb, 0, none⟩)] w fun e w' => e = .returned (.int .i64 (s.freeN : Nat)) ∧ Below w.heap.size w w' := by
  obtain ⟨lc, hS, hlc1, hlc2⟩ := h.blk
  have hl2 := h.ok.len2
  have H := Lib.hid h; have HS := Lib.hid hS
  obtain ⟨n, hnn⟩ : ∃ n, n = s.recs.length := ⟨_, rfl⟩
  have c2 : w.cell? ⟨sb, 2, none⟩ = some (.slice (some ⟨lb, 0, none⟩) n lc) := by rw [hnn]; exact hS.cell 2
  rw [← hnn] at hlc1 hl2
  have Hn := Lib.hid hnn
  obtain ⟨dead, hdd⟩ : ∃ x, x = s.dead := ⟨_, rfl⟩
  have Hdd := Lib.hid hdd
  have HF := Lib.hid (show s.freeN = if dead = true then 0 else freeK s.recs n from by unfold St.freeN; rw [hdd, hnn])
  obtain ⟨m, hm⟩ : ∃ m, m = s.freeN := ⟨_, rfl⟩
  rw [← hm] at HF ⊢
  clear h hS hnn hdd hm
  go_enter Tryz.func15, Tryz.ntmps15
  go_wp2_with fail
  go_loopw [3, 11] (fun u v wr => ∃ i : Nat, i ≤ n ∧ v = .int .i64 i ∧ u = .int .i64 ((if dead = true then 0 else freeK s.recs i : Nat) : Int) ∧ Below w.heap.size w wr) (fun _ v _ => n - (intOf v).toNat)
  case atStart => exact ⟨0, by omega, rfl, by cases dead <;> rfl, Below.refl _ _⟩
  case round =>
    obtain ⟨i, hi, rfl, rfl, hb⟩ := hrel
    by_cases h0 : i < n
    · obtain ⟨r, hr⟩ : ∃ r, s.recs[i]? = some r := ⟨s.recs[i]'(by have := Hn.out; omega), by simp⟩
      obtain ⟨a, c, c3, c4, c5, c6, _, _⟩ := (H.out.recs.below hb).at hr
      have i0 : (0 : Int) ≤ (i : Int) := by omega
      have i1 : (i : Int) < (n : Int) := by omega
      have hle := freeK_le s.recs i
      have Hst := Lib.hid (show freeK s.recs (i + 1) = if r.is = false then freeK s.recs i + 1 else freeK s.recs i from by rw [freeK, hr])
      obtain ⟨q, hq⟩ : ∃ q, q = freeK s.recs i := ⟨_, rfl⟩
      rw [← hq] at hle ⊢
      have Hq := Lib.hid hq
      have d3 : ∀ o, (wr.alloc o).cell? ⟨sb, 3, none⟩ = some (.bool dead) := fun o => by rw [Hdd.out]; exact ((HS.out.kept hb).alloc o).cell 3
      have hbo : ∀ o, Below w.heap.size w (wr.alloc o) := fun o => hb.alloc hb.size o
      have HBO := Lib.hid hbo
      clear hr hq hbo
      cases dead with
      | true =>
        simp only [if_true]
        by_cases k1 : r.is = true
        · rw [k1] at c3
          go_wp2
          exact ⟨⟨i + 1, by omega, by go_num, rfl, HBO.out _⟩, by simp [intOf] <;> omega⟩
        · have k1 : r.is = false := by simpa using k1
          rw [k1] at c3
          go_wp2
          exact ⟨⟨i + 1, by omega, by go_num, rfl, HBO.out _⟩, by simp [intOf] <;> omega⟩
      | false =>
        simp only [Bool.false_eq_true, if_false]
        by_cases k1 : r.is = true
        · have Hs2 := Lib.hid (show freeK s.recs (i + 1) = q from by rw [Hst.out, if_neg (by rw [k1]; decide), Hq.out])
          rw [k1] at c3
          clear k1
          go_wp2
          exact ⟨⟨i + 1, by omega, by go_num, by rw [Hs2.out] <;> rfl, HBO.out _⟩, by simp [intOf] <;> omega⟩
        · have k1 : r.is = false := by simpa using k1
          have Hs2 := Lib.hid (show freeK s.recs (i + 1) = q + 1 from by rw [Hst.out, if_pos k1, Hq.out])
          rw [k1] at c3
          clear k1
          go_wp2
          exact ⟨⟨i + 1, by omega, by go_num, by rw [Hs2.out] <;> rfl, HBO.out _⟩, by simp [intOf] <;> omega⟩
    · obtain rfl : n = i := by omega
      have HF2 := Lib.hid (show (((if dead = true then 0 else freeK s.recs n : Nat)) : Int) = (m : Int) from by rw [HF.out])
      have HB := Lib.hid hb
      obtain ⟨z, hz⟩ : ∃ z : Int, z = (((if dead = true then 0 else freeK s.recs n : Nat)) : Int) := ⟨_, rfl⟩
      rw [← hz] at HF2 ⊢
      clear hz hb
      go_wp2
      go_ret
      exact ⟨by rw [HF2.out] <;> rfl, HB.out⟩
end Go.Proofs.YtehgnkdfnnebcaaGreatDoor
end
section
namespace Go.Mem
open Go Go.RowKit Gf
def namesK (l : List Sto.Rec) : Nat → List (List UInt8)
  | 0 => []
  | k + 1 => match l[k]? with
    | none => namesK l k
    | some r => if r.is = true then namesK l k ++ [r.name.data.toList] else namesK l k
theorem namesK_le (l : List Sto.Rec) : ∀ k, (namesK l k).length ≤ k
  | 0 => Nat.le_refl _
  | k + 1 => by
    have := namesK_le l k
    simp only [namesK]
    split
    · omega
    · split
      · simp; omega
      · omega
def St.names (s : St) : List (List UInt8) := if s.dead = true then [] else namesK s.recs s.recs.length
end Go.Mem
namespace Go.Proofs.YtehgnkdfnnebcaaGreatDoor
open Go Go.RowKit Go.Mem Gf Go.Sort
attribute [local go_sem ↓] Go.wp_at_zero Go.wp_at_succ
theorem ESc : Elem Tryz.prog 44 9 (.string ByteArray.empty) 16 := ⟨Tryz.underlying44, by kernel_rfl, rfl⟩
def NamesPost (s : St) (w : World) (e : Ending) (w' : World) : Prop :=
  ∃ v, e = .returned v ∧ w'.ownsRow w.heap.size 9 1 v s.names.length ((s.names.mergeSort fun x y => decide (x ≤ y)).map encStr) ∧ Below w.heap.size w w'
set_option maxRecDepth 20000 in
set_option maxHeartbeats 2000000 in
theorem snames_calls (N : Nat → Prop) (sb lb d L : Nat) (s : St) (w : World) (h : IsStore w N sb lb d L s) :
    Calls Tryz.prog 14 #[.pointer (some ⟨sb, 0, none⟩)] w (NamesPost s w) := by
  obtain ⟨lc, hS, hlc1, hlc2⟩ := h.blk
  have hl2 := h.ok.len2
  have H := Lib.hid h; have HS := Lib.hid hS
  obtain ⟨n, hnn⟩ : ∃ n, n = s.recs.length := ⟨_, rfl⟩
  have c2 : w.cell? ⟨sb, 2, none⟩ = some (.slice (some ⟨lb, 0, none⟩) n lc) := by rw [hnn]; exact hS.cell 2
  rw [← hnn] at hlc1 hl2
  have Hn := Lib.hid hnn
  obtain ⟨dead, hdd⟩ : ∃ x, x = s.dead := ⟨_, rfl⟩
  have Hdd := Lib.hid hdd
  have HF := Lib.hid (show s.names = if dead = true then [] else namesK s.recs n from by unfold St.names; rw [hdd, hnn])
  clear h hS hnn hdd
  go_enter Tryz.func14, Tryz.ntmps14
  go_wp2_with fail
  go_loopw [3, 11] (fun u v wr => ∃ i : Nat, i ≤ n ∧ v = .int .i64 i ∧ wr.ownsRow w.heap.size 9 1 u (if dead = true then [] else namesK s.recs i).length ((if dead = true then [] else namesK s.recs i).map encStr) ∧ Below w.heap.size w wr) (fun _ v _ => n - (intOf v).toNat)
  case atStart => exact ⟨0, by omega, rfl, by cases dead <;> exact World.ownsRow_nil _ _ _ _, Below.refl _ _⟩
  case round =>
    obtain ⟨i, hi, rfl, hown, hb⟩ := hrel
    by_cases h0 : i < n
    · obtain ⟨r, hr⟩ : ∃ r, s.recs[i]? = some r := ⟨s.recs[i]'(by have := Hn.out; omega), by simp⟩
      obtain ⟨a, c, c3, c4, c5, c6, _, _⟩ := (H.out.recs.below hb).at hr
      have i0 : (0 : Int) ≤ (i : Int) := by omega
      have i1 : (i : Int) < (n : Int) := by omega
      have hle := namesK_le s.recs i
      have Hst := Lib.hid (show namesK s.recs (i + 1) = if r.is = true then namesK s.recs i ++ [r.name.data.toList] else namesK s.recs i from by rw [namesK, hr])
      obtain ⟨q, hq⟩ : ∃ q, q = namesK s.recs i := ⟨_, rfl⟩
      rw [← hq] at hle hown
      have Hq := Lib.hid hq
      have d3 : ∀ o, (wr.alloc o).cell? ⟨sb, 3, none⟩ = some (.bool dead) := fun o => by rw [Hdd.out]; exact ((HS.out.kept hb).alloc o).cell 3
      have hbo : ∀ o, Below w.heap.size w (wr.alloc o) := fun o => hb.alloc hb.size o
      have HBO := Lib.hid hbo
      have hsz := hb.size
      have HO := Lib.hid hown
      clear hr hq hbo hown
      cases dead with
      | true =>
        by_cases k1 : r.is = true
        · rw [k1] at c3
          go_wp2
          exact ⟨⟨i + 1, by omega, by go_num, HO.out.alloc _, HBO.out _⟩, by simp [intOf] <;> omega⟩
        · have k1 : r.is = false := by simpa using k1
          rw [k1] at c3
          go_wp2
          exact ⟨⟨i + 1, by omega, by go_num, HO.out.alloc _, HBO.out _⟩, by simp [intOf] <;> omega⟩
      | false =>
        have HO2 := Lib.hid (show wr.ownsRow w.heap.size 9 1 u3 q.length (q.map encStr) from HO.out)
        by_cases k1 : r.is = true
        · have Hs2 := Lib.hid (show namesK s.recs (i + 1) = q ++ [r.name.data.toList] from by rw [Hst.out, if_pos k1, Hq.out])
          rw [k1] at c3
          clear k1
          go_wp2_with (at_builtin; refine appG_one ESc rfl _ _ rfl (base := w.heap.size) (n := q.length) (xs := q.map encStr) (.string r.name) rfl rfl ?cc rfl ((HO2.out.alloc _).alloc _) ?q1 ?q2 ?q3 ?_)
          case cc => exact new_cell _ _ _ _ (by simp)
          case q1 => omega
          case q2 => omega
          case q3 => simp; omega
          intro v4 w4 ho4 hg4
          have hb4 := grown_below ((HBO.out _).alloc (HBO.out _).size _) hg4 (fun k hk => (HO2.out.lt k hk).1)
          have HO4 := Lib.hid ho4
          have HB4 := Lib.hid hb4
          clear ho4 hg4 hb4
          go_wp2
          refine ⟨⟨i + 1, by omega, by go_num, ?_, HB4.out⟩, by simp [intOf] <;> omega⟩
          rw [if_neg (by decide), Hs2.out, List.length_append, List.map_append]
          exact HO4.out
        · have k1 : r.is = false := by simpa using k1
          have Hs2 := Lib.hid (show namesK s.recs (i + 1) = q from by rw [Hst.out, if_neg (by rw [k1]; decide), Hq.out])
          rw [k1] at c3
          clear k1
          go_wp2
          refine ⟨⟨i + 1, by omega, by go_num, ?_, HBO.out _⟩, by simp [intOf] <;> omega⟩
          rw [if_neg (by decide), Hs2.out]
          exact HO2.out.alloc _
    · obtain rfl : n = i := by omega
      have hown2 : wr.ownsRow w.heap.size 9 1 u3 s.names.length (s.names.map encStr) := by rw [HF.out]; exact hown
      have hzl : s.names.length ≤ n := by
        rw [HF.out]
        cases dead
        · exact namesK_le _ _
        · simp
      obtain ⟨z, hz⟩ : ∃ z, z = s.names := ⟨_, rfl⟩
      rw [← hz] at hown2 hzl
      have HZ := Lib.hid hz
      have HB := Lib.hid hb
      clear hown hz hb HF
      have HO := Lib.hid hown2
      rcases hown2.2 with ⟨rfl, h0l⟩ | ⟨g, cap, cur, rfl, hg, hgg, g1, g2, g3, g4⟩
      · have hz0 : z = [] := by simpa using h0l
        subst hz0
        clear hown2
        go_wp2_with fail
        refine (Tryz.sort_Strings_none none 0 wr).mono ?_
        rintro e w3 ⟨rfl, rfl⟩
        go_wp2
        go_ret
        exact ⟨_, rfl, by rw [← HZ.out]; simpa using HO.out, HB.out⟩
      · have hH : Holds encStr wr g 0 z.toArray := holds_of_block hgg (by simpa using g4)
        have hgl : g < wr.heap.size := (Array.getElem?_eq_some_iff.1 hgg).1
        have HS2 := Lib.hid (fun n os => ownsRow_sorted (n := n) (os := os) (ss := z) (ts := z.mergeSort fun x y => decide (x ≤ y)) (by simp) hg hgg g1 g2 g3)
        have HG := Lib.hid hg
        clear hown2 hgg g4
        go_wp2_with fail
        refine (Tryz.sort_Strings g 0 cap z wr hH hgl (by omega)).mono ?_
        rintro e w3 ⟨rfl, m, os, rfl⟩
        have hgr : Below w.heap.size w (grow (putRow encStr (Sort.ahead wr m) g 0 (z.mergeSort fun x y => decide (x ≤ y)).toArray) os) := grown_below HB.out (grownBy_sorted _) (fun k hk => by cases hk; exact HG.out)
        obtain ⟨w4, hw4⟩ : ∃ w4, w4 = grow (putRow encStr (Sort.ahead wr m) g 0 (z.mergeSort fun x y => decide (x ≤ y)).toArray) os := ⟨_, rfl⟩
        rw [← hw4] at hgr ⊢
        have HW := Lib.hid hw4
        have HGR := Lib.hid hgr
        clear hgr hw4
        go_wp2
        go_ret
        exact ⟨_, rfl, by rw [HW.out, ← HZ.out]; exact HS2.out _ _, HGR.out⟩
end Go.Proofs.YtehgnkdfnnebcaaGreatDoor
end
section
namespace Go.Proofs.YtehgnkdfnnebcaaGreatDoor
open Go Go.RowKit Go.Mem Gf Go.Sort
def Strs (w : World) (v : Value) (ss : List (List UInt8)) : Prop :=
  ∃ a cap, v = .slice a ss.length cap ∧ ss.length ≤ cap ∧ cap ≤ maxLen ∧
    (0 < ss.length → ∃ b off, a = some ⟨b, off, none⟩ ∧ ∀ (i : Nat) (s : List UInt8), ss[i]? = some s → w.cell? ⟨b, off + i, none⟩ = some (encStr s))
section
variable {w w' : World} {v : Value} {ss : List (List UInt8)}
theorem Strs.nil (w : World) : Strs w (.slice none 0 0) [] := ⟨none, 0, rfl, Nat.le_refl _, Nat.zero_le _, fun h => by simp at h⟩
theorem Strs.len (h : Strs w v ss) : ss.length ≤ 9223372036854775807 := by
  obtain ⟨a, cap, _, h1, h2, _⟩ := h
  unfold maxLen at h2; omega
theorem Strs.eq_slice (h : Strs w v ss) : ∃ a cap, v = .slice a ss.length cap := by
  obtain ⟨a, cap, e, _⟩ := h; exact ⟨a, cap, e⟩
theorem Strs.below (h : Strs w v ss) (hb : Below w.heap.size w w') : Strs w' v ss := by
  obtain ⟨a, cap, h0, h1, h2, h3⟩ := h
  refine ⟨a, cap, h0, h1, h2, fun hp => ?_⟩
  obtain ⟨b, off, e, hc⟩ := h3 hp
  refine ⟨b, off, e, fun i u hi => ?_⟩
  have := hc i u hi
  rw [hb.cell (p := ⟨b, off + i, none⟩) (World.block_lt_of_cell? w _ this)]
  exact this
theorem Strs.rd (h : Strs w v ss) (hr : Rd w w') : Strs w' v ss := by
  obtain ⟨m, rfl⟩ := hr; exact h
theorem Strs.at {a : Option Addr} {n cap : Nat} (h : Strs w (.slice a n cap) ss) (k : Nat) (hk : k < ss.length) :
    ∃ b off s, a = some ⟨b, off, none⟩ ∧ Hid (ss[k]? = some s) ∧ w.cell? ⟨b, off + k, none⟩ = some (encStr s) := by
  obtain ⟨a', cap', e, h1, h2, h3⟩ := h
  obtain ⟨b, off, e', hc⟩ := h3 (by omega)
  injection e with e1 e2 e3
  exact ⟨b, off, ss[k], e1.trans e', by show ss[k]? = _; simp [hk], hc k _ (by simp [hk])⟩
theorem strs_of_own {base n : Nat} {t : TypeId} (h : w.ownsRow base t 1 v n (ss.map encStr)) (hn : ss.length = n) : Strs w v ss := by
  subst hn
  obtain ⟨hlen, h2⟩ := h
  rcases h2 with ⟨rfl, h0⟩ | ⟨g, cap, cur, rfl, _, hg, hnc, hcm, hcs, htake⟩
  · have : ss = [] := List.eq_nil_of_length_eq_zero h0
    subst this
    exact Strs.nil w
  · refine ⟨_, cap, rfl, hnc, hcm, fun _ => ⟨g, 0, rfl, fun i x hi => ?_⟩⟩
    have hil : i < ss.length := by
      rcases Nat.lt_or_ge i ss.length with h | h
      · exact h
      · rw [List.getElem?_eq_none h] at hi; cases hi
    have h1 : (cur.toList.take (ss.length * 1))[i]? = some (encStr x) := by rw [htake, List.getElem?_map, hi]; rfl
    rw [List.getElem?_take, if_pos (by omega), Array.getElem?_toList] at h1
    rw [Nat.zero_add]
    unfold World.cell?
    rw [hg]
    simpa using h1
end
attribute [local go_sem ↓] Go.wp_at_zero Go.wp_at_succ
set_option maxRecDepth 20000 in
set_option maxHeartbeats 1000000 in
theorem sames_calls (va vb : Value) (xs ys : List (List UInt8)) (w : World) (ha : Strs w va xs) (hb : Strs w vb ys) :
    Calls Tryz.prog 13 #[va, vb] w fun e w' => e = .returned (.bool (decide (xs = ys))) ∧ ∃ n, w' = w.drewN n := by
  have hla := ha.len
  have hlb := hb.len
  obtain ⟨aa, ca, rfl, hx⟩ := id ha
  clear hx
  obtain ⟨ab, cb, rfl, hx⟩ := id hb
  clear hx
  obtain ⟨la, hla'⟩ : ∃ n, n = xs.length := ⟨_, rfl⟩
  obtain ⟨lb, hlb'⟩ : ∃ n, n = ys.length := ⟨_, rfl⟩
  rw [← hla'] at hla ha ⊢
  rw [← hlb'] at hlb hb ⊢
  have Hla := Lib.hid hla'; have Hlb := Lib.hid hlb'; clear hla' hlb'
  by_cases hl : la = lb
  · subst hl
    go_enter Tryz.func13, Tryz.ntmps13
    go_wp2_with fail
    go_loopw [5] (fun v wr => ∃ i : Nat, i ≤ la ∧ v = .int .i64 i ∧ Rd w wr ∧ xs.take i = ys.take i) (fun v _ => la - (intOf v).toNat)
    case atStart => exact ⟨0, by omega, rfl, Rd.refl _, rfl⟩
    case round =>
      obtain ⟨i, hi, rfl, hrd, ht⟩ := hrel
      have Ht := Lib.hid ht; clear ht
      by_cases h0 : i < la
      · obtain ⟨b1, o1, u, rfl, Hu, c1⟩ := (ha.rd hrd).at i (by have := Hla.out; omega)
        obtain ⟨b2, o2, v, rfl, Hv, c2⟩ := (hb.rd hrd).at i (by have := Hlb.out; omega)
        unfold encStr at c1 c2
        have eu : (ByteArray.mk u.toArray).toList = u := by rw [Go.ByteArray.toList_eq]
        have ev : (ByteArray.mk v.toArray).toList = v := by rw [Go.ByteArray.toList_eq]
        by_cases huv : u = v
        · have t : ((ByteArray.mk u.toArray).toList == (ByteArray.mk v.toArray).toList) = true := by rw [eu, ev, huv]; simp
          have t2 : ((ByteArray.mk u.toArray).toList != (ByteArray.mk v.toArray).toList) = false := by rw [eu, ev, huv]; simp
          have Hs := Lib.hid (take_snoc_eq Ht.out Hu.out Hv.out huv); clear huv eu ev
          obtain ⟨U, hU⟩ : ∃ U, U = ByteArray.mk u.toArray := ⟨_, rfl⟩
          obtain ⟨V, hV⟩ : ∃ V, V = ByteArray.mk v.toArray := ⟨_, rfl⟩
          rw [← hU] at c1 t t2
          rw [← hV] at c2 t t2
          clear hU hV
          go_wp2_with fail
          go_quiet (fail)
          go_wp2
          exact ⟨⟨i + 1, by omega, by go_num, hrd.more _, Hs.out⟩, by simp [intOf]; omega⟩
        · have t : ((ByteArray.mk u.toArray).toList == (ByteArray.mk v.toArray).toList) = false := by rw [eu, ev]; simpa using huv
          have t2 : ((ByteArray.mk u.toArray).toList != (ByteArray.mk v.toArray).toList) = true := by rw [eu, ev]; simpa using huv
          have Hs : Hid (xs ≠ ys) := fun e => huv (by have h1 := Hu.out; have h2 := Hv.out; rw [e, h2] at h1; exact (Option.some.inj h1).symm)
          clear huv eu ev
          obtain ⟨U, hU⟩ : ∃ U, U = ByteArray.mk u.toArray := ⟨_, rfl⟩
          obtain ⟨V, hV⟩ : ∃ V, V = ByteArray.mk v.toArray := ⟨_, rfl⟩
          rw [← hU] at c1 t t2
          rw [← hV] at c2 t t2
          clear hU hV
          go_wp2_with fail
          go_quiet (fail)
          go_wp2
          go_ret
          exact ⟨by rw [decide_eq_false Hs.out]; rfl, hrd.more _⟩
      · obtain rfl : i = la := by omega
        have He : Hid (xs = ys) := by
          have h1 := Ht.out; have h2 := Hla.out; have h3 := Hlb.out
          rw [List.take_of_length_le (by omega), List.take_of_length_le (by omega)] at h1
          exact h1
        go_wp2
        go_ret
        exact ⟨by rw [decide_eq_true He.out]; rfl, hrd⟩
  · have t : ((la : Int) != (lb : Int)) = true := by simp; omega
    have t2 : (la != lb) = true := by simp; omega
    have He : Hid (xs ≠ ys) := fun e => hl (by rw [Hla.out, Hlb.out, e])
    clear hl
    go_enter Tryz.func13, Tryz.ntmps13
    go_wp2
    go_ret
    exact ⟨by rw [decide_eq_false He.out]; rfl, 0, rfl⟩
end Go.Proofs.YtehgnkdfnnebcaaGreatDoor
end
section
namespace Go.Proofs.YtehgnkdfnnebcaaGreatDoor
open Go Go.RowKit Go.Mem Gf
set_option linter.unusedVariables false
attribute [local go_sem ↓] Go.wp_at_zero Go.wp_at_succ
def rnamesR (L : List RRec) (died : Bool) : List (List UInt8) := if died = true then [] else L.map fun x => x.name.data.toList
set_option maxRecDepth 20000 in
set_option maxHeartbeats 2000000 in
theorem rnames_calls (w : World) (N : Nat → Prop) (q r B : Nat) (lv : Value) (ps : List RP) (D : DiskS) (slots room : Nat) (L : List RRec) (died : Bool) (h : RStore w N q r B lv ps D slots room L died) :
    Calls Tryz.prog 12 #[.pointer (some ⟨q, 0, none⟩)] w fun e w' => ∃ v, e = .returned v ∧ Strs w' v (rnamesR L died) ∧ w'.ownsRow w.heap.size 9 1 v (rnamesR L died).length ((rnamesR L died).map encStr) ∧ Below w.heap.size w w' := by
  have c3 : w.cell? ⟨q, 3, none⟩ = some lv := h.blk.cell 3
  have c4 : w.cell? ⟨q, 4, none⟩ = some (.bool died) := h.blk.cell 4
  obtain ⟨a, c, rfl, h1, h2, h3⟩ := id h.row
  obtain ⟨n, hn⟩ : ∃ n, n = ps.length := ⟨_, rfl⟩
  have hL : L.length = n := by rw [hn, h.recs.len]
  have hfew := h.few
  have hs1 := h.s1
  rw [← hn] at c3 h1 h3
  have hnb : n ≤ 1024 := by omega
  have H := Lib.hid (And.intro h (And.intro hL (And.intro h3 hn)))
  clear h hn hL h3 h1 h2 hfew hs1
  go_enter Tryz.func12, Tryz.ntmps12
  go_wp2_with fail
  go_loopw [3, 10] (fun u v wr => ∃ i : Nat, i ≤ n ∧ v = .int .i64 i ∧ Hid (wr.ownsRow w.heap.size 9 1 u (rnamesR (L.take i) died).length ((rnamesR (L.take i) died).map encStr) ∧ Below w.heap.size w wr)) (fun _ v _ => n - (intOf v).toNat)
  case atStart =>
    refine ⟨0, Nat.zero_le _, rfl, ?_, Below.refl _ _⟩
    have : rnamesR (L.take 0) died = [] := by unfold rnamesR; cases died <;> rfl
    rw [this]
    exact World.ownsRow_nil _ _ _ _
  case round =>
    obtain ⟨i, hi, rfl, G⟩ := hrel
    by_cases h0 : i < n
    · obtain ⟨x, hx⟩ : ∃ x, L[i]? = some x := ⟨L[i]'(by have := H.out.2.1; omega), by simp⟩
      have c3r : wr.cell? ⟨q, 3, none⟩ = some (.slice a n c) := by rw [H.out.2.2.2]; exact (H.out.1.blk.kept G.out.2).cell 3
      have c4r : wr.cell? ⟨q, 4, none⟩ = some (.bool died) := (H.out.1.blk.kept G.out.2).cell 4
      have i0 : (0 : Int) ≤ (i : Int) := by omega
      have i1 : (i : Int) < (n : Int) := by omega
      obtain ⟨v3, hv3⟩ : ∃ z, z = u3 := ⟨_, rfl⟩
      subst hv3
      clear c3 c4
      cases died with
      | true =>
        have HO := Lib.hid (show wr.ownsRow w.heap.size 9 1 v3 (rnamesR (L.take (i + 1)) true).length ((rnamesR (L.take (i + 1)) true).map encStr) from G.out.1)
        go_wp2_with fail
        exact ⟨⟨i + 1, by omega, by go_num, HO.out, G.out.2⟩, by simp [intOf] <;> omega⟩
      | false =>
        have hst : rnamesR (L.take (i + 1)) false = rnamesR (L.take i) false ++ [x.name.data.toList] := by
          unfold rnamesR
          rw [if_neg (by decide), if_neg (by decide), List.take_add_one, hx]
          simp
        obtain ⟨p, hp, e1, _⟩ := (H.out.1.below G.out.2).recs.at hx
        obtain ⟨a', c', e', _, _, h3⟩ := (H.out.1.below G.out.2).row
        obtain ⟨b, off, ha, _, _, hc⟩ := h3 (by have := (List.getElem?_eq_some_iff.1 hp).1; omega)
        have cx := hc i p hp 0 (.string p.name) rfl
        rw [e1, Nat.add_zero] at cx
        injection e' with e2 e3 e4
        subst e2
        subst ha
        obtain ⟨qs, hqs⟩ : ∃ z, z = rnamesR (L.take i) false := ⟨_, rfl⟩
        have hql : qs.length ≤ 1024 := by
          rw [hqs]; unfold rnamesR; rw [if_neg (by decide), List.length_map, List.length_take]; omega
        have hO : wr.ownsRow w.heap.size 9 1 v3 qs.length (qs.map encStr) := by rw [hqs]; exact G.out.1
        have HO := Lib.hid hO
        have HST := Lib.hid (show rnamesR (L.take (i + 1)) false = qs ++ [x.name.data.toList] from by rw [hst, hqs])
        have hz := G.out.2.size
        clear hst hqs hO hp hc h3 e1 e3 e4 hx
        go_wp2_with (at_builtin; refine appG_one ESc rfl _ _ rfl (base := w.heap.size) (n := qs.length) (xs := qs.map encStr) (.string x.name) rfl rfl ?cc rfl (HO.out.alloc _) ?q1 ?q2 ?q3 ?_)
        case cc => exact new_cell _ _ _ _ (by simp)
        case q1 => omega
        case q2 => omega
        case q3 => simp; omega
        intro v4 w4 ho4 hg4
        have hb4 := grown_below (G.out.2.alloc hz _) hg4 (fun k hk => (HO.out.lt k hk).1)
        have HO4 := Lib.hid (And.intro ho4 hb4)
        clear ho4 hg4 hb4
        go_wp2_with fail
        refine ⟨⟨i + 1, by omega, by go_num, ?_, HO4.out.2⟩, by simp [intOf] <;> omega⟩
        rw [HST.out, List.length_append, List.map_append]
        exact HO4.out.1
    · obtain rfl : n = i := by omega
      have hall : L.take n = L := List.take_of_length_le (by have := H.out.2.1; omega)
      rw [hall] at G
      clear h0 hi hall
      go_wp2_with fail
      go_ret
      exact ⟨_, rfl, strs_of_own G.out.1 rfl, G.out.1, G.out.2⟩
end Go.Proofs.YtehgnkdfnnebcaaGreatDoor
end
section
namespace Go.Proofs.YtehgnkdfnnebcaaGreatDoor
open Go Go.RowKit Go.Mem Gf
attribute [local go_sem ↓] Go.wp_at_zero Go.wp_at_succ
theorem bys_sub {w : World} {b o n c : Nat} {bs : List UInt8} (h : Bys w (.slice (some ⟨b, o, none⟩) n c) bs) (k m : Nat) (hk : k + m ≤ bs.length) : Bys w (.slice (if c = k then some ⟨b, o, none⟩ else some ⟨b, o + k, none⟩) m (c - k)) ((bs.drop k).take m) := by
  have hc : n ≤ c ∧ c ≤ maxLen ∧ n = bs.length := by
    obtain ⟨a, cap, e, h1, h2, _⟩ := h
    injection e with e1 e2 e3
    subst e2 e3
    exact ⟨h1, h2, rfl⟩
  by_cases hck : c = k
  · have hm : m = 0 := by omega
    subst hm
    rw [if_pos hck, List.take_zero]
    exact ⟨_, c - k, rfl, Nat.zero_le _, by omega, fun hp => by simp at hp⟩
  · rw [if_neg hck]
    exact bys_drop h k m (c - k) hk (by omega) (by omega)
def TakeP (bs : List UInt8) (w : World) (e : Ending) (w' : World) : Prop :=
  ∃ vx vy d, w' = w.drewN d ∧ ((Cod.takeNet bs = none ∧ e = .returned (.tuple #[vx, vy, .bool false]) ∧ vx = .slice none 0 0 ∧ vy = .slice none 0 0) ∨
    ∃ x y, Cod.takeNet bs = some (x, y) ∧ e = .returned (.tuple #[vx, vy, .bool true]) ∧ Bys w vx x ∧ Bys w vy y)
theorem take_no {bs : List UInt8} (h : Cod.badR bs) : Cod.takeNet bs = none := by
  cases e : Cod.takeNet bs with
  | none => rfl
  | some p => exact absurd h (Cod.take_some e).1
theorem takeP_no {bs : List UInt8} (h : Cod.badR bs) (w : World) : TakeP bs w (.returned (.tuple #[.slice none 0 0, .slice none 0 0, .bool false])) w :=
  ⟨_, _, 0, rfl, .inl ⟨take_no h, rfl, rfl, rfl⟩⟩
set_option maxRecDepth 100000 in
set_option maxHeartbeats 4000000 in
theorem rtake_calls (v : Value) (bs : List UInt8) (w : World) (h : Bys w v bs) (hrl : bs.length ≤ 1000000000000) :
    Calls Tryz.prog 63 #[v] w (TakeP bs w) := by
  obtain ⟨a, c, rfl⟩ := h.eq_slice
  have hsz := Cod.sizeR_le bs
  have hbad : (Cod.badR bs) = ((Cod.sizeR bs).2 = 0 ∨ bs.length ≤ (Cod.sizeR bs).2 ∨ bs.getD (Cod.sizeR bs).2 0 ≠ 58 ∨ (bs.getD 0 0 = 48 ∧ 1 < (Cod.sizeR bs).2) ∨ 16384 < (Cod.sizeR bs).1 ∨ bs.length < (Cod.sizeR bs).2 + (Cod.sizeR bs).1 + 2 ∨ bs.getD ((Cod.sizeR bs).2 + 1 + (Cod.sizeR bs).1) 0 ≠ 44) := rfl
  obtain ⟨D, hD⟩ : ∃ D, D = (Cod.sizeR bs).2 := ⟨_, rfl⟩
  obtain ⟨N, hN⟩ : ∃ N, N = (Cod.sizeR bs).1 := ⟨_, rfl⟩
  rw [← hD, ← hN] at hbad
  rw [← hD, ← hN] at hsz
  obtain ⟨l, hl'⟩ : ∃ l, l = bs.length := ⟨_, rfl⟩
  rw [← hl'] at hrl hsz hbad
  obtain ⟨hN1, hD6, hDl⟩ := hsz
  have hcap : l ≤ c ∧ c ≤ maxLen := by
    obtain ⟨_, cap, e, h1, h2, _⟩ := id h
    injection e with e1 e2 e3
    rw [hl', e3]
    exact ⟨h1, h2⟩
  have hc1 := hcap.1
  have hc2 := hcap.2
  unfold maxLen at hc2
  have H := Lib.hid h
  have HL := Lib.hid hl'
  have HD := Lib.hid (And.intro hD hN)
  have HB := Lib.hid hbad
  rw [← hl'] at h ⊢
  clear hl' hD hN hcap hbad
  go_enter Tryz.func63, Tryz.ntmps63
  go_upto_block 0 with fail
  go_cut [5, 6] (fun s5 s6 wx => s5 = .int .i64 D ∧ s6 = .int .i64 N ∧ w = wx)
  case first =>
    go_wp2_with fail
    go_loop [5, 6] (fun u v => ∃ n d : Nat, d ≤ l ∧ d ≤ 6 ∧ n ≤ 1000000 ∧ u = .int .i64 d ∧ v = .int .i64 n ∧ Hid (n < 10 ^ d) ∧ Hid (Cod.sizeR bs = Cod.sizeRGo (bs.drop d) n d)) (fun u _ => l - (intOf u).toNat)
    case atStart => exact ⟨0, 0, by omega, by omega, by omega, rfl, rfl, (by decide : 0 < 10 ^ 0), rfl⟩
    case round =>
      obtain ⟨n, d, hd, hd6, hnb, rfl, rfl, Hb, Hz⟩ := hrel
      by_cases h0 : d < l
      · obtain ⟨b, o, u, rfl, Hu, c1, hu⟩ := h.at d (by have := HL.out; omega)
        have i0 : (0 : Int) ≤ (d : Int) := by omega
        have i1 : (d : Int) < (l : Int) := by omega
        by_cases hc : 48 ≤ u.toNat ∧ u.toNat ≤ 57 ∧ d < 6
        · obtain ⟨h1, h2, h3⟩ := hc
          have Hfin := Lib.hid (show Cod.sizeR bs = Cod.sizeRGo (bs.drop (d + 1)) (10 * n + (u.toNat - 48)) (d + 1) from by rw [Hz.out]; exact Cod.sizeRGo_step (drop_cons Hu.out) ⟨h1, h2, h3⟩)
          have hnb2 : 10 * n + (u.toNat - 48) < 10 ^ (d + 1) := by rw [Nat.pow_succ]; have := Hb.out; omega
          have hnb3 : 10 * n + (u.toNat - 48) ≤ 1000000 := by
            have : 10 ^ (d + 1) ≤ 10 ^ 6 := Nat.pow_le_pow_right (by decide) (by omega)
            omega
          have HNB := Lib.hid hnb2
          clear hnb2
          go_wp2
          exact ⟨⟨10 * n + (u.toNat - 48), d + 1, by omega, by omega, hnb3, by go_num, congrArg (Value.int .i64) (by omega), HNB.out, Hfin.out⟩, by simp [intOf] <;> omega⟩
        · have Hfin := Lib.hid (show Cod.sizeR bs = (n, d) from by rw [Hz.out]; exact Cod.sizeRGo_stop fun c r e => by rw [drop_cons Hu.out] at e; injection e with e _; subst e; exact hc)
          have h1 : (u.toNat < 48) ∨ (48 ≤ u.toNat ∧ 57 < u.toNat) ∨ (48 ≤ u.toNat ∧ u.toNat ≤ 57 ∧ 6 ≤ d) := by omega
          clear hc
          rcases h1 with h1 | ⟨h1, h2⟩ | ⟨h1, h2, h3⟩
          all_goals
            go_wp2
            go_meet
            exact ⟨by rw [HD.out.1, Hfin.out], by rw [HD.out.2, Hfin.out], rfl⟩
      · obtain rfl : d = l := by omega
        have e := Hz.out
        rw [List.drop_eq_nil_of_le (by have := HL.out; omega)] at e
        have E := Lib.hid e
        clear e
        go_wp2
        go_meet
        exact ⟨by rw [HD.out.1, E.out]; rfl, by rw [HD.out.2, E.out]; rfl, rfl⟩
  case rest =>
  obtain ⟨rfl, rfl, rfl⟩ := hcut
  by_cases b1 : D = 0
  · have t0 : ((D : Int) == 0) = true := by simp [b1]
    have HF := Lib.hid (show Cod.badR bs from by rw [HB.out]; exact .inl b1)
    clear b1
    go_wp2
    go_ret3
    exact takeP_no HF.out _
  have t0 : ((D : Int) == 0) = false := by simp; omega
  by_cases b2 : l ≤ D
  · have t1 : decide (l ≤ D) = true := by simpa using b2
    have t2 : decide ((l : Int) ≤ (D : Int)) = true := by simpa using b2
    have HF := Lib.hid (show Cod.badR bs from by rw [HB.out]; exact .inr (.inl b2))
    go_wp2
    go_ret3
    exact takeP_no HF.out _
  have t1 : decide (l ≤ D) = false := by simp; omega
  have t2 : decide ((l : Int) ≤ (D : Int)) = false := by simp; omega
  obtain ⟨b, o, rfl, c0⟩ := Bys.byte H.out 0 (by have := HL.out; omega)
  obtain ⟨b', o', e1, c1⟩ := Bys.byte H.out D (by have := HL.out; omega)
  cases e1
  obtain ⟨u0, hu0⟩ : ∃ u0, u0 = bs.getD 0 0 := ⟨_, rfl⟩
  obtain ⟨u1, hu1⟩ : ∃ u1, u1 = bs.getD D 0 := ⟨_, rfl⟩
  obtain ⟨u2, hu2⟩ : ∃ u2, u2 = bs.getD (D + 1 + N) 0 := ⟨_, rfl⟩
  rw [← hu0] at c0 HB
  rw [← hu1] at c1 HB
  rw [← hu2] at HB
  replace c0 : w.cell? ⟨b, o, none⟩ = some (.int .u8 (u0.toNat : Nat)) := c0
  have HU := Lib.hid hu2
  clear hu0 hu1 hu2 h
  have i1 : (0 : Int) < (l : Int) := by omega
  have i2 : 0 < l := by omega
  have i3 : (D : Int) < (l : Int) := by omega
  have i4 : D < l := by omega
  by_cases b3 : u1 = 58
  rotate_left
  · have t3 : (((u1.toNat : Nat) : Int) == 58) = false := eq_u8 (k := 58) (by decide) b3
    have t3' : (((u1.toNat : Nat) : Int) != 58) = true := neq_u8 (k := 58) (by decide) b3
    have HF := Lib.hid (show Cod.badR bs from by rw [HB.out]; exact .inr (.inr (.inl b3)))
    clear b3
    go_wp2
    go_ret3
    exact takeP_no HF.out _
  replace c1 : w.cell? ⟨b, o + D, none⟩ = some (.int .u8 58) := by rw [c1, b3]; rfl
  replace b3 := Lib.hid b3
  have hz : (u0 = 48 ∧ 1 < D) ∨ (¬ (u0 = 48 ∧ 1 < D)) := Classical.em _
  rcases hz with hz | hz
  · replace c0 : w.cell? ⟨b, o, none⟩ = some (.int .u8 48) := by rw [c0, hz.1]; rfl
    have t4 : decide ((1 : Int) < (D : Int)) = true := by simp; omega
    have HF := Lib.hid (show Cod.badR bs from by rw [HB.out]; exact .inr (.inr (.inr (.inl hz))))
    clear hz
    go_wp2
    go_ret3
    exact takeP_no HF.out _
  have hz2 : (u0 = 48 ∧ D ≤ 1) ∨ u0 ≠ 48 := by
    by_cases e : u0 = 48
    · exact .inl ⟨e, Nat.not_lt.1 fun h => hz ⟨e, h⟩⟩
    · exact .inr e
  have H4 := Lib.hid hz
  clear hz
  have t4 : (u0 = 48 → decide ((1 : Int) < (D : Int)) = false) := fun e => by
    rcases hz2 with h | h
    · have := h.2
      simp; omega
    · exact absurd e h
  by_cases b5 : 16384 < N
  · have t5 : decide ((16384 : Int) < (N : Int)) = true := by simp; omega
    have HF := Lib.hid (show Cod.badR bs from by rw [HB.out]; exact .inr (.inr (.inr (.inr (.inl b5)))))
    rcases hz2 with ⟨hz, hz1⟩ | hz
    · replace c0 : w.cell? ⟨b, o, none⟩ = some (.int .u8 48) := by rw [c0, hz]; rfl
      replace t4 := t4 hz
      clear hz
      go_wp2
      go_ret3
      exact takeP_no HF.out _
    · have t6 : (((u0.toNat : Nat) : Int) == 48) = false := eq_u8 (k := 48) (by decide) hz
      clear hz t4
      go_wp2
      go_ret3
      exact takeP_no HF.out _
  have t5 : decide ((16384 : Int) < (N : Int)) = false := by simp; omega
  by_cases b6 : l < D + N + 2
  · have t7 : decide ((l : Int) < (D : Int) + (N : Int) + 2) = true := by simp; omega
    have HF := Lib.hid (show Cod.badR bs from by rw [HB.out]; exact .inr (.inr (.inr (.inr (.inr (.inl b6))))))
    rcases hz2 with ⟨hz, hz1⟩ | hz
    · replace c0 : w.cell? ⟨b, o, none⟩ = some (.int .u8 48) := by rw [c0, hz]; rfl
      replace t4 := t4 hz
      clear hz
      go_wp2
      go_ret3
      exact takeP_no HF.out _
    · have t6 : (((u0.toNat : Nat) : Int) == 48) = false := eq_u8 (k := 48) (by decide) hz
      clear hz t4
      go_wp2
      go_ret3
      exact takeP_no HF.out _
  have t7 : decide ((l : Int) < (D : Int) + (N : Int) + 2) = false := by simp; omega
  obtain ⟨b', o', e1, c2⟩ := Bys.byte H.out (D + 1 + N) (by have := HL.out; omega)
  cases e1
  rw [← HU.out] at c2
  have i5 : (D : Int) + 1 + (N : Int) < (l : Int) := by omega
  have i6 : (0 : Int) ≤ (D : Int) + 1 + (N : Int) := by omega
  have q1 : ((D : Int) + 1 + (N : Int)).toNat = D + 1 + N := by omega
  by_cases b7 : u2 = 44
  rotate_left
  · have t3 : (((u2.toNat : Nat) : Int) == 44) = false := eq_u8 (k := 44) (by decide) b7
    have t3' : (((u2.toNat : Nat) : Int) != 44) = true := neq_u8 (k := 44) (by decide) b7
    have HF := Lib.hid (show Cod.badR bs from by rw [HB.out]; exact .inr (.inr (.inr (.inr (.inr (.inr b7))))))
    clear b7
    rcases hz2 with ⟨hz, hz1⟩ | hz
    · replace c0 : w.cell? ⟨b, o, none⟩ = some (.int .u8 48) := by rw [c0, hz]; rfl
      replace t4 := t4 hz
      clear hz
      go_wp2
      go_ret3
      exact takeP_no HF.out _
    · have t6 : (((u0.toNat : Nat) : Int) == 48) = false := eq_u8 (k := 48) (by decide) hz
      clear hz t4
      go_wp2
      go_ret3
      exact takeP_no HF.out _
  replace c2 : w.cell? ⟨b, o + (D + 1 + N), none⟩ = some (.int .u8 44) := by rw [c2, b7]; rfl
  have hgood : ¬ Cod.badR bs := by
    rw [HB.out]
    rintro (h | h | h | h | h | h | h)
    · exact b1 h
    · exact b2 h
    · exact h b3.out
    · exact H4.out h
    · exact b5 h
    · exact b6 h
    · exact h b7
  replace b7 := Lib.hid b7
  have HT := (Cod.take_good hgood).2
  rw [← HD.out.1, ← HD.out.2] at HT
  have hX : Bys w (.slice (if c = D + 1 then some ⟨b, o, none⟩ else some ⟨b, o + (D + 1), none⟩) N (c - (D + 1))) ((bs.drop (D + 1)).take N) := bys_sub H.out (D + 1) N (by have := HL.out; omega)
  have hY : Bys w (.slice (if c = D + N + 2 then some ⟨b, o, none⟩ else some ⟨b, o + (D + N + 2), none⟩) (l - (D + N + 2)) (c - (D + N + 2))) (bs.drop (D + N + 2)) := by
    have := bys_sub H.out (D + N + 2) (l - (D + N + 2)) (by have := HL.out; omega)
    rwa [List.take_of_length_le (by rw [List.length_drop]; have := HL.out; omega)] at this
  have HXY := Lib.hid (And.intro HT (And.intro hX hY))
  have i7 : (D : Int) + 1 + (N : Int) ≤ (c : Int) := by omega
  have i8 : (D : Int) + (N : Int) + 2 ≤ (l : Int) := by omega
  have i9 : (D : Int) + 1 ≤ (D : Int) + 1 + (N : Int) := by omega
  have i10 : ¬ (c = D + 1) := by omega
  have x1 : IntKind.i64.wrap ((D : Int) + 1) = (D : Int) + 1 := IntWalk.i64_in _ (by omega)
  have x2 : IntKind.i64.wrap ((D : Int) + 1 + (N : Int)) = (D : Int) + 1 + (N : Int) := IntWalk.i64_in _ (by omega)
  have x3 : IntKind.i64.wrap ((D : Int) + (N : Int)) = (D : Int) + (N : Int) := IntWalk.i64_in _ (by omega)
  have x4 : IntKind.i64.wrap ((D : Int) + (N : Int) + 2) = (D : Int) + (N : Int) + 2 := IntWalk.i64_in _ (by omega)
  have x5 : ((D : Int) + (N : Int) + 2).toNat = D + N + 2 := by omega
  have x6 : ((D : Int) + 1).toNat = D + 1 := by omega
  have x7 : (0 : Int) ≤ (D : Int) + 1 := by omega
  have x8 : (0 : Int) ≤ (D : Int) + (N : Int) + 2 := by omega
  rw [if_neg i10] at HXY
  clear hX hY HT hgood b1 b2 b5 b6
  rcases hz2 with ⟨hz, hz1⟩ | hz
  · replace c0 : w.cell? ⟨b, o, none⟩ = some (.int .u8 48) := by rw [c0, hz]; rfl
    replace t4 := t4 hz
    clear hz
    by_cases hcc : c = D + N + 2
    · have hcc2 : (c = D + N + 2) = True := by simp [hcc]
      have HXZ := Lib.hid (show Bys w (.slice (some ⟨b, o, none⟩) (l - (D + N + 2)) (c - (D + N + 2))) (bs.drop (D + N + 2)) from by have := HXY.out.2.2; rwa [if_pos hcc] at this)
      clear hcc
      go_upto_region 7 with fail
      go_quiet (fail)
      go_wp2
      go_ret3
      exact ⟨_, _, _, rfl, .inr ⟨_, _, HXY.out.1, rfl, HXY.out.2.1, HXZ.out⟩⟩
    · have HXZ := Lib.hid (show Bys w (.slice (some ⟨b, o + (D + N + 2), none⟩) (l - (D + N + 2)) (c - (D + N + 2))) (bs.drop (D + N + 2)) from by have := HXY.out.2.2; rwa [if_neg hcc] at this)
      go_upto_region 7 with fail
      go_quiet (fail)
      go_wp2
      go_ret3
      exact ⟨_, _, _, rfl, .inr ⟨_, _, HXY.out.1, rfl, HXY.out.2.1, HXZ.out⟩⟩
  · have t6 : (((u0.toNat : Nat) : Int) == 48) = false := eq_u8 (k := 48) (by decide) hz
    clear hz t4
    by_cases hcc : c = D + N + 2
    · have hcc2 : (c = D + N + 2) = True := by simp [hcc]
      have HXZ := Lib.hid (show Bys w (.slice (some ⟨b, o, none⟩) (l - (D + N + 2)) (c - (D + N + 2))) (bs.drop (D + N + 2)) from by have := HXY.out.2.2; rwa [if_pos hcc] at this)
      clear hcc
      go_upto_region 7 with fail
      go_quiet (fail)
      go_wp2
      go_ret3
      exact ⟨_, _, _, rfl, .inr ⟨_, _, HXY.out.1, rfl, HXY.out.2.1, HXZ.out⟩⟩
    · have HXZ := Lib.hid (show Bys w (.slice (some ⟨b, o + (D + N + 2), none⟩) (l - (D + N + 2)) (c - (D + N + 2))) (bs.drop (D + N + 2)) from by have := HXY.out.2.2; rwa [if_neg hcc] at this)
      go_upto_region 7 with fail
      go_quiet (fail)
      go_wp2
      go_ret3
      exact ⟨_, _, _, rfl, .inr ⟨_, _, HXY.out.1, rfl, HXY.out.2.1, HXZ.out⟩⟩
end Go.Proofs.YtehgnkdfnnebcaaGreatDoor
end
