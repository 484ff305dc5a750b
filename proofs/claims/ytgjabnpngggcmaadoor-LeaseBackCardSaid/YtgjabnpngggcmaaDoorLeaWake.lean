/- One index's leases with unlike secrets: what is left, what is told. No program in sight. -/
import Derived.Test.YtgjabnpngggcmaaDoorLeaSpec
import Derived.Test.YtgjabnpngggcmaaDoorLeaMore
namespace Lea
def z16 : Key := List.replicate 16 0
def secN (n : Nat) : Key := UInt8.ofNat n :: List.replicate 15 0
def rowE (es : List Int) : List Les := es.zipIdx.map fun p => ⟨z16, secN p.2, p.1⟩
theorem secN_inj {a b : Nat} (ha : a < 256) (hb : b < 256) (h : secN a = secN b) : a = b := by
  unfold secN at h
  have h1 := congrArg UInt8.toNat (List.cons.inj h).1
  rw [UInt8.toNat_ofNat', UInt8.toNat_ofNat'] at h1
  omega
theorem mem_rowE {es : List Int} {x : Les} : x ∈ rowE es ↔ ∃ (j : Nat) (e : Int), es[j]? = some e ∧ x = ⟨z16, secN j, e⟩ := by
  unfold rowE
  constructor
  · intro h
    obtain ⟨⟨e, j⟩, hp, rfl⟩ := List.mem_map.1 h
    exact ⟨j, e, List.mem_zipIdx_iff_getElem?.1 hp, rfl⟩
  · rintro ⟨j, e, hj, rfl⟩
    exact List.mem_map.2 ⟨(e, j), List.mem_zipIdx_iff_getElem?.2 hj, rfl⟩
theorem rowE_len (es : List Int) : (rowE es).length = es.length := by simp [rowE]
theorem rowE_app (es : List Int) (e : Int) : rowE (es ++ [e]) = rowE es ++ [⟨z16, secN es.length, e⟩] := by
  unfold rowE
  rw [List.zipIdx_append, List.map_append]
  simp
theorem rowE_ix {es : List Int} {x : Les} (h : x ∈ rowE es) : x.ix = z16 := by
  obtain ⟨_, _, _, rfl⟩ := mem_rowE.1 h
  rfl
theorem noKey_rowE (es : List Int) {n : Nat} (hn : es.length ≤ n) (h : n < 256) : NoKey (rowE es) z16 (secN n) := by
  rintro x hx ⟨_, e⟩
  obtain ⟨j, v, hj, rfl⟩ := mem_rowE.1 hx
  have hj' := Go.Mem.some_lt hj
  have := secN_inj (by omega) h e
  omega
theorem ofL_all {l : List Les} (h : ∀ x ∈ l, x.ix = z16) : (ofL l z16).length = l.length := by
  unfold ofL
  rw [List.length_map, List.filter_eq_self.2 (fun x hx => by simpa using h x hx)]
theorem row_add {l l' : List Les} {es : List Int} {e : Int} {b : Bool} (hl : l.Perm (rowE es)) (h8 : es.length < 8) (he : May e) (h : AddR l z16 (secN es.length) e b l') : b = true ∧ l'.Perm (rowE (es ++ [e])) := by
  have hk : NoKey l z16 (secN es.length) := (noKey_rowE es (Nat.le_refl _) (by omega)).perm hl
  have hc : (ofL l z16).length = es.length := by rw [ofL_all (fun x hx => rowE_ix (hl.mem_iff.1 hx)), hl.length_eq, rowE_len]
  cases h with
  | no h => exact absurd h (by rintro (h | ⟨_, h⟩); exact h he; omega)
  | more k x _ _ hx h1 h2 _ => exact absurd ⟨h1, h2⟩ (hk x (List.mem_of_getElem? hx))
  | new _ _ _ _ hp =>
    refine ⟨rfl, hp.trans ?_⟩
    rw [rowE_app]
    exact hl.append_right _
theorem row_full {l l' : List Les} {es : List Int} {b : Bool} (hl : l.Perm (rowE es)) (h8 : es.length ≤ 8) (h : AddR l z16 (secN 99) 1 b l') : b = decide (es.length < 8) ∧ (b = true → l'.Perm (l ++ [⟨z16, secN 99, 1⟩])) ∧ (b = false → l' = l) := by
  have hk : NoKey l z16 (secN 99) := (noKey_rowE es (by omega) (by omega)).perm hl
  have hc : (ofL l z16).length = es.length := by rw [ofL_all (fun x hx => rowE_ix (hl.mem_iff.1 hx)), hl.length_eq, rowE_len]
  cases h with
  | no h =>
    rcases h with h | ⟨_, h⟩
    · exact absurd (show May 1 from ⟨by omega, by omega⟩) h
    · exact ⟨by simp; omega, (fun h => by cases h), fun _ => rfl⟩
  | more k x _ _ hx h1 h2 _ => exact absurd ⟨h1, h2⟩ (hk x (List.mem_of_getElem? hx))
  | new _ _ _ h8 hp => exact ⟨by simp; omega, fun _ => hp, fun h => by cases h⟩
theorem row_cancel {l l' l'' : List Les} {es : List Int} {b : Bool} (hl : l.Perm (rowE es)) (h8 : es.length ≤ 8) (hp : l'.Perm (l ++ [⟨z16, secN 99, 1⟩])) (h : CancelR l' z16 (secN 99) b l'') : b = true ∧ l''.Perm l := by
  have hk : NoKey l z16 (secN 99) := (noKey_rowE es (by omega) (by omega)).perm hl
  cases h with
  | no h => exact absurd ⟨rfl, rfl⟩ (h ⟨z16, secN 99, 1⟩ (hp.mem_iff.2 (by simp)))
  | gone x _ h1 h2 hp2 =>
    refine ⟨rfl, ?_⟩
    have hx : x ∈ l ++ [⟨z16, secN 99, 1⟩] := hp.mem_iff.1 (hp2.mem_iff.1 (List.mem_cons_self))
    have ex : x = ⟨z16, secN 99, 1⟩ := by
      rcases List.mem_append.1 hx with hx | hx
      · exact absurd ⟨h1, h2⟩ (hk x hx)
      · exact List.mem_singleton.1 hx
    subst ex
    exact (List.perm_cons _).1 (hp2.trans (hp.trans List.perm_append_comm))
/-- the greatest, from 0 -/
def maxE (es : List Int) : Int := es.foldl max 0
theorem maxE_app (es : List Int) (e : Int) : maxE (es ++ [e]) = max (maxE es) e := by unfold maxE; rw [List.foldl_append]; rfl
theorem lt_foldl (now : Int) : ∀ (es : List Int) (m : Int), now < es.foldl max m ↔ now < m ∨ ∃ e ∈ es, now < e
  | [], m => by simp
  | e :: es, m => by
    rw [List.foldl_cons, lt_foldl now es (max m e)]
    simp only [List.mem_cons, exists_eq_or_imp]
    rw [← or_assoc]
    have : now < max m e ↔ now < m ∨ now < e := by omega
    rw [this]
theorem row_living {l : List Les} {es : List Int} {now : Int} (hl : l.Perm (rowE es)) (h0 : 0 ≤ now) : (∃ x ∈ l, x.ix = z16 ∧ now < x.e) ↔ now < maxE es := by
  unfold maxE
  rw [lt_foldl]
  constructor
  · rintro ⟨x, hx, _, h⟩
    obtain ⟨j, e, hj, rfl⟩ := mem_rowE.1 (hl.mem_iff.1 hx)
    exact .inr ⟨e, List.mem_of_getElem? hj, h⟩
  · rintro (h | ⟨e, he, h⟩)
    · omega
    · obtain ⟨j, hj⟩ := List.mem_iff_getElem?.1 he
      exact ⟨⟨z16, secN j, e⟩, hl.mem_iff.2 (mem_rowE.2 ⟨j, e, hj, rfl⟩), rfl, h⟩
def leftN (es : List Int) (now : Int) : Nat := (es.filter fun e => decide (now < e)).length
theorem leftN_app (es : List Int) (e now : Int) : leftN (es ++ [e]) now = leftN es now + if now < e then 1 else 0 := by
  unfold leftN
  rw [List.filter_append, List.length_append]
  congr 1
  by_cases c : now < e <;> simp [c]
theorem leftN_pos {es : List Int} {now : Int} : 0 < leftN es now ↔ ∃ e ∈ es, now < e := by
  unfold leftN
  rw [List.length_pos_iff_exists_mem]
  simp
theorem left_row {l : List Les} {es : List Int} {now : Int} (hl : l.Perm (rowE es)) : (left l now).length = leftN es now := by
  have h1 : (left l now).Perm (left (rowE es) now) := hl.filter _
  rw [h1.length_eq]
  unfold left leftN
  have : (rowE es).map (·.e) = es := by
    unfold rowE
    rw [List.map_map]
    exact List.zipIdx_map_fst 0 es
  conv => rhs; rw [← this]
  rw [List.filter_map, List.length_map]
  rfl
theorem row_of {l l' : List Les} {es : List Int} {now : Int} {out : List Sec} (hl : l.Perm (rowE es)) (hp : l'.Perm (left l now)) (h : OfR l' z16 out) : out.length = leftN es now := by
  have hx : ∀ x ∈ l', x.ix = z16 := fun x hx => rowE_ix (hl.mem_iff.1 (List.mem_filter.1 (hp.mem_iff.1 hx)).1)
  rw [h.perm.length_eq, ofL_all hx, hp.length_eq, left_row hl]
theorem row_left {l l' : List Les} {es : List Int} {now : Int} (hl : l.Perm (rowE es)) (hp : l'.Perm (left l now)) : (∃ x ∈ l', x.ix = z16 ∧ now < x.e) ↔ 0 < leftN es now := by
  rw [← left_row hl, ← hp.length_eq, List.length_pos_iff_exists_mem]
  constructor
  · rintro ⟨x, hx, _⟩; exact ⟨x, hx⟩
  · rintro ⟨x, hx⟩
    have h1 := List.mem_filter.1 (hp.mem_iff.1 hx)
    exact ⟨x, hx, rowE_ix (hl.mem_iff.1 h1.1), by simpa using h1.2⟩
theorem row_told {l l' : List Les} {es : List Int} {now : Int} {R : List Key} (hl : l.Perm (rowE es)) (h : EndedR l now l' R) : R.length = 1 ↔ 0 < es.length ∧ leftN es now = 0 := by
  have hz : ∀ k ∈ R, k = z16 := fun k hk => by
    obtain ⟨⟨x, hx, e, _⟩, _⟩ := (h.mem k).1 hk
    rw [← e]; exact rowE_ix (hl.mem_iff.1 hx)
  have h1 : R.length ≤ 1 := by
    rcases R with _ | ⟨a, _ | ⟨b, R⟩⟩
    · simp
    · simp
    · have ha := hz a (by simp)
      have hb := hz b (by simp)
      have := (List.pairwise_cons.1 h.up).1 b (by simp)
      rw [ha, hb, Go.Mem.cmp_refl] at this
      omega
  have h2 : R.length = 1 ↔ z16 ∈ R := by
    constructor
    · intro e
      obtain ⟨a, rfl⟩ := List.length_eq_one_iff.1 e
      rw [hz a (by simp)]; simp
    · intro e
      have := List.length_pos_iff_exists_mem.2 ⟨_, e⟩
      omega
  rw [h2, h.mem]
  have h3 : leftN es now = 0 ↔ l' = [] := by rw [← left_row hl, ← h.perm.length_eq, List.length_eq_zero_iff]
  constructor
  · rintro ⟨⟨x, hx, _, _⟩, hn⟩
    refine ⟨?_, h3.2 (List.eq_nil_iff_forall_not_mem.2 fun y hy => hn y hy ?_)⟩
    · rw [← rowE_len, ← hl.length_eq]
      exact List.length_pos_iff_exists_mem.2 ⟨x, hx⟩
    · exact rowE_ix (hl.mem_iff.1 (List.mem_filter.1 (h.perm.mem_iff.1 hy)).1)
  · rintro ⟨hp, hn⟩
    have hn' := h3.1 hn
    subst hn'
    rw [← rowE_len, ← hl.length_eq] at hp
    obtain ⟨x, hx⟩ := List.length_pos_iff_exists_mem.1 hp
    refine ⟨⟨x, hx, rowE_ix (hl.mem_iff.1 hx), ?_⟩, fun _ h => by cases h⟩
    rcases Int.lt_or_le now x.e with c | c
    · have : x ∈ left l now := List.mem_filter.2 ⟨hx, by simpa using c⟩
      have := h.perm.mem_iff.2 this
      cases this
    · exact c
end Lea

namespace Go.Proofs.YtgjabnpngggcmaaDoor
open Go Go.RowKit Go.Mem Gf Lea
/-- a key of one byte, noughts behind -/
def keyC (v : Value) : Array Value := (v :: List.replicate 15 (.int .u8 0)).toArray
def isU8 : Value → Bool
  | .int .u8 _ => true
  | _ => false
def isI64 : Value → Bool
  | .int .i64 _ => true
  | _ => false
@[simp] theorem isU8_eq (n : Int) : isU8 (.int .u8 n) = true := rfl
@[simp] theorem isI64_eq (n : Int) : isI64 (.int .i64 n) = true := rfl
theorem built_k0 (n : Int) : Tryd.prog.built 24 [(0, .int .u8 n)] = some (keyC (.int .u8 n)) := by kernel_rfl
theorem built_z : Tryd.prog.built 24 [] = some (keyC (.int .u8 0)) := by kernel_rfl
theorem built_l1 (n : Int) : Tryd.prog.built 29 [(1, .int .i64 n)] = some (keyC (.int .u8 0) ++ #[.int .i64 n]) := by kernel_rfl
theorem build_k0 (dst : Option Tmp) (x : Operand) (ty : TypeId) (pos : String) (af : Array Edge) (gd : Option (Tmp × Bool)) (a : Act) (w : World) (K : Act → World → Prop) (Q : Exit → Act → World → Prop) (h : isU8 (a.eval x) = true) :
    Oper.wp Tryd.prog ⟨dst, .build 24 #[(0, x)], ty, pos, af, gd⟩ a w K Q = K (a.put dst (.agg (keyC (a.eval x)))) w := by
  unfold Oper.wp execOp
  have e : ∃ n, a.eval x = .int .u8 n := by
    unfold isU8 at h
    split at h
    · rename_i n e; exact ⟨n, e⟩
    · cases h
  obtain ⟨n, e⟩ := e
  have hr := run_build (P := Tryd.prog) w 24 #[(0, a.eval x)] (keyC (a.eval x)) (by rw [e]; exact built_k0 n)
  simp only [List.map_toArray, List.map_cons, List.map_nil, Sem.run_bind, hr, Result.andThen_ok]
  rfl
theorem build_z (dst : Option Tmp) (ty : TypeId) (pos : String) (af : Array Edge) (gd : Option (Tmp × Bool)) (a : Act) (w : World) (K : Act → World → Prop) (Q : Exit → Act → World → Prop) :
    Oper.wp Tryd.prog ⟨dst, .build 24 #[], ty, pos, af, gd⟩ a w K Q = K (a.put dst (.agg (keyC (.int .u8 0)))) w := by
  unfold Oper.wp execOp
  have hr := run_build (P := Tryd.prog) w 24 #[] (keyC (.int .u8 0)) built_z
  simp only [List.map_toArray, List.map_nil, Sem.run_bind, hr, Result.andThen_ok]
  rfl
theorem build_l1 (dst : Option Tmp) (x : Operand) (ty : TypeId) (pos : String) (af : Array Edge) (gd : Option (Tmp × Bool)) (a : Act) (w : World) (K : Act → World → Prop) (Q : Exit → Act → World → Prop) (h : isI64 (a.eval x) = true) :
    Oper.wp Tryd.prog ⟨dst, .build 29 #[(1, x)], ty, pos, af, gd⟩ a w K Q = K (a.put dst (.agg (keyC (.int .u8 0) ++ #[a.eval x]))) w := by
  unfold Oper.wp execOp
  have e : ∃ n, a.eval x = .int .i64 n := by
    unfold isI64 at h
    split at h
    · rename_i n e; exact ⟨n, e⟩
    · cases h
  obtain ⟨n, e⟩ := e
  have hr := run_build (P := Tryd.prog) w 29 #[(1, a.eval x)] (keyC (.int .u8 0) ++ #[a.eval x]) (by rw [e]; exact built_l1 n)
  simp only [List.map_toArray, List.map_cons, List.map_nil, Sem.run_bind, hr, Result.andThen_ok]
  rfl
theorem build_lease (dst : Option Tmp) (x y : Operand) (ty : TypeId) (pos : String) (af : Array Edge) (a : Act) (w : World) (K : Act → World → Prop) (Q : Exit → Act → World → Prop)
    (h1 : (a.eval x).cells.size = 16) (h2 : (a.eval y).cells.size = 1) :
    Oper.wp Tryd.prog ⟨dst, .build 29 #[(0, x), (1, y)], ty, pos, af, none⟩ a w K Q = K (a.put dst (.agg ((a.eval x).cells ++ (a.eval y).cells))) w :=
  wp_buildTwo Tryd.underlying29 (by kernel_rfl) (by kernel_rfl) dst x y ty pos af a w K Q h1 h2
theorem keyC_z : keyC (.int .u8 0) = (bV z16).toArray := rfl
theorem keyC_sec {n : Nat} (h : n < 256) : keyC (.int .u8 (n : Int)) = (bV (secN n)).toArray := by
  unfold keyC bV secN
  simp only [List.map_cons, List.map_replicate]
  congr 3
  rw [UInt8.toNat_ofNat']
  omega
theorem z16_len : z16.length = 16 := by simp [z16]
theorem secN_len (n : Nat) : (secN n).length = 16 := by simp [secN]
theorem lease_cells (sec : Key) (e : Int) : (bV sec).toArray ++ #[.int .i64 e] = (encL (sec, e)).toArray := by unfold encL; simp
theorem wake1 {l : List Les} {b : Bool} (h : AddR [] z16 z16 3 b l) : b = true ∧ l.Perm [⟨z16, z16, 3⟩] := by
  cases h with
  | no h => exact absurd h (by rintro (h | ⟨_, h⟩); exact h ⟨by omega, by omega⟩; simp [ofL] at h)
  | more k x _ _ hx _ _ _ => simp at hx
  | new _ _ _ _ hp => exact ⟨rfl, by simpa using hp⟩
theorem wake2 {l l' : List Les} {b : Bool} (hl : l.Perm [⟨z16, z16, 3⟩]) (h : AddR l z16 z16 5 b l') : b = true ∧ l'.Perm [⟨z16, z16, 5⟩] := by
  have hl1 : l = [⟨z16, z16, 3⟩] := List.perm_singleton.1 hl
  subst hl1
  cases h with
  | no h =>
    rcases h with h | ⟨h, _⟩
    · exact absurd (show May 5 from ⟨by omega, by omega⟩) h
    · exact absurd ⟨rfl, rfl⟩ (h _ (List.mem_singleton.2 rfl))
  | more k x _ _ hx _ _ hp =>
    have hk : k = 0 := by have := some_lt hx; simp at this; omega
    subst hk
    simp at hx
    subst hx
    exact ⟨rfl, hp⟩
  | new _ _ hk _ _ => exact absurd ⟨rfl, rfl⟩ (hk _ (List.mem_singleton.2 rfl))
attribute [local go_sem ↓] Go.wp_at_zero Go.wp_at_succ
attribute [local go_sem ↓] build_k0 build_z build_l1 build_lease
attribute [local go_sem] isU8_eq isI64_eq
theorem first_end {w : World} {g n cap : Nat} {base : Nat} {x : Sec} {l : List Sec} (h : RowG encL WfL 17 29 w base g n cap l) (hx : l[0]? = some x) : w.cell? ⟨g, 16, none⟩ = some (.int .i64 x.2) := by
  have := h.range ecL hx 16 _ (encL_end (h.wf x (List.mem_of_getElem? hx)))
  simpa using this
set_option maxRecDepth 100000 in
set_option maxHeartbeats 1000000 in
theorem wakes_calls (w : World) : Calls Tryd.prog 10 #[] w fun r w' => r = .returned (.bool true) ∧ Below w.heap.size w w' := by
  go_enter Tryd.func10, Tryd.ntmps10
  go_wp2_with fail
  refine (new_calls w).mono ?_
  rintro r w1 ⟨tb, rfl, h1, h2, h3⟩
  have H1 := Lib.hid (And.intro h1 (And.intro h2 h3))
  clear h1 h2 h3
  go_wp2_with fail
  refine (add_calls w1 tb _ [] z16 z16 3 H1.out.2.1 Good.nil (by simp) z16_len z16_len).mono ?_
  rintro r w2 ⟨b1, v2, l2, rfl, hr2, hh2, hc2⟩
  obtain ⟨rfl, hp2⟩ := wake1 hr2
  have hg2 : Lea.Good l2 := hr2.good Good.nil
  have H2 := Lib.hid (And.intro hh2 (And.intro hp2 (And.intro hg2 hc2)))
  clear hr2 hh2 hp2 hg2 hc2
  go_wp2_with fail
  refine (add_calls w2 tb v2 l2 z16 z16 5 H2.out.1 H2.out.2.2.1 (by rw [H2.out.2.1.length_eq]; simp) z16_len z16_len).mono ?_
  rintro r w3 ⟨b2, v3, l3, rfl, hr3, hh3, hc3⟩
  obtain ⟨rfl, hp3⟩ := wake2 H2.out.2.1 hr3
  have hg3 : Lea.Good l3 := hr3.good H2.out.2.2.1
  have H3 := Lib.hid (And.intro hh3 (And.intro hp3 (And.intro hg3 hc3)))
  clear hr3 hh3 hp3 hg3 hc3
  go_wp2_with fail
  refine (of_calls w3 tb v3 l3 z16 H3.out.1.tab (by rw [H3.out.2.1.length_eq]; simp) z16_len (by have := H3.out.2.2.1.few z16; omega)).mono ?_
  rintro r w4 ⟨vo, out, rfl, hO, hR, hB4⟩
  have hout : out = [(z16, 5)] := by
    have := hR.perm.trans (ofL_perm H3.out.2.1 z16)
    exact List.perm_singleton.1 this
  subst hout
  obtain ⟨g, cap, rfl, hrow⟩ := hO.ex (by simp)
  have qe : w4.cell? ⟨g, 16, none⟩ = some (.int .i64 5) := first_end hrow (x := (z16, 5)) rfl
  have hfin : Below w.heap.size w w4 := by
    have hc := H2.out.2.2.2.trans H3.out.2.2.2
    have h1 : Chg (fun k => w.heap.size ≤ k) w w3 := (Chg.of_below H1.out.2.2).mix hc.1 (fun k hk => by
      rcases hk with rfl | hk
      · exact .inl H1.out.1
      · cases hk)
    exact (h1.trans_below hB4).below (Nat.le_refl _) (fun _ h => h)
  have HF := Lib.hid hfin
  clear hO hR hB4 hrow hfin
  go_wp2_with fail
  go_ret
  exact ⟨rfl, HF.out⟩
end Go.Proofs.YtgjabnpngggcmaaDoor

namespace Go.Proofs.YtgjabnpngggcmaaDoor
open Go Go.RowKit Go.Mem Gf Lea
structure Env (W wr : World) (tb p6 : Nat) (vt : Value) (lt : List Les) : Prop where
  heap : Heap wr tb vt lt
  good : Lea.Good lt
  key : Blk wr p6 (bV z16).toArray 24
  own : ∀ g, vt.ownBlock = some g → W.heap.size ≤ g ∧ g ≠ p6
  chg : Chg (fun k => W.heap.size ≤ k) W wr
  tb1 : W.heap.size ≤ tb
  tbp : tb ≠ p6
section
variable {W wr w' : World} {tb p6 : Nat} {vt v' : Value} {lt l' : List Les}
theorem Env.tchg (h : Env W wr tb p6 vt lt) (hc : TChg tb vt v' wr w') (hh : Heap w' tb v' l') (hg : Lea.Good l') : Env W w' tb p6 v' l' := by
  have hp := h.key.lt
  refine ⟨hh, hg, hc.1.blk h.key (fun e => ?_), fun g e => ?_, h.chg.mix hc.1 (fun k hk => ?_), h.tb1, h.tbp⟩
  · rcases e with e | e
    · exact h.tbp e.symm
    · exact (h.own _ e).2 rfl
  · rcases hc.2 g e with e1 | e1
    · exact h.own g e1
    · exact ⟨Nat.le_trans h.chg.size e1, fun e2 => by omega⟩
  · rcases hk with rfl | hk
    · exact .inl h.tb1
    · exact .inl (h.own _ hk).1
theorem Env.below (h : Env W wr tb p6 vt lt) (hb : Below wr.heap.size wr w') : Env W w' tb p6 vt lt :=
  ⟨h.heap.below hb, h.good, h.key.kept hb, h.own, h.chg.trans_below hb, h.tb1, h.tbp⟩
theorem Env.read (h : Env W wr tb p6 vt lt) : readK 16 wr p6 0 = bV z16 := blk_read0 h.key (by rw [bV_len]; exact z16_len)
theorem Env.has (h : Env W wr tb p6 vt lt) : HasK 16 wr p6 0 := blk_has h.key (by simp [bV_len, z16_len])
theorem Env.bel (h : Env W wr tb p6 vt lt) : Below W.heap.size W wr := h.chg.below (Nat.le_refl _) (fun _ h => h)
theorem Env.few (h : Env W wr tb p6 vt lt) (ix : Key) : (ofL lt ix).length ≤ 12 := by have := h.good.few ix; omega
theorem Env.new {W w1 : World} {tb : Nat} (h1 : W.heap.size ≤ tb) (h2 : Heap w1 tb (.slice none 0 0) []) (h3 : Below W.heap.size W w1) : Env W (w1.alloc (.cells (bV z16).toArray 24)) tb w1.heap.size (.slice none 0 0) [] :=
  ⟨h2.below ((Below.refl _ _).alloc (Nat.le_refl _) _), Good.nil, Blk.new _ _ _, (fun g e => by cases e), (Chg.of_below h3).trans_below ((Below.refl _ _).alloc (Nat.le_refl _) _), h1, fun e => by have := h2.tab.cell.lt; omega⟩
end
end Go.Proofs.YtgjabnpngggcmaaDoor
