/- One index's leases with unlike secrets: what is left, what is told. No program in sight. -/
import Derived.Test.YtgjabnpngggcmaaLeaSpec
namespace Lea
def z16 : Key := List.replicate 16 0
def secN (n : Nat) : Key := UInt8.ofNat n :: List.replicate 15 0
def rowE (es : List Int) : List Les := es.zipIdx.map fun p => ⟨z16, secN p.2, p.1⟩
theorem secN_inj {a b : Nat} (ha : a < 256) (hb : b < 256) (h : secN a = secN b) : a = b := by
  unfold secN at h
  have h1 := congrArg UInt8.toNat (List.cons.inj h).1
  rw [UInt8.toNat_ofNat', UInt8.toNat_ofNat'] at h1
  omega
theorem mem_rowE {es : List Int} {x : Les} : x ∈ rowE es ↔ ∃ (j : Nat) (e : Int), es[j]? = some e ∧ x = ⟨z16, secN j, e⟩ := by
  unfold rowE
  constructor
  · intro h
    obtain ⟨⟨e, j⟩, hp, rfl⟩ := List.mem_map.1 h
    exact ⟨j, e, List.mem_zipIdx_iff_getElem?.1 hp, rfl⟩
  · rintro ⟨j, e, hj, rfl⟩
    exact List.mem_map.2 ⟨(e, j), List.mem_zipIdx_iff_getElem?.2 hj, rfl⟩
theorem rowE_len (es : List Int) : (rowE es).length = es.length := by simp [rowE]
theorem rowE_app (es : List Int) (e : Int) : rowE (es ++ [e]) = rowE es ++ [⟨z16, secN es.length, e⟩] := by
  unfold rowE
  rw [List.zipIdx_append, List.map_append]
  simp
theorem rowE_ix {es : List Int} {x : Les} (h : x ∈ rowE es) : x.ix = z16 := by
  obtain ⟨_, _, _, rfl⟩ := mem_rowE.1 h
  rfl
theorem noKey_rowE (es : List Int) {n : Nat} (hn : es.length ≤ n) (h : n < 256) : NoKey (rowE es) z16 (secN n) := by
  rintro x hx ⟨_, e⟩
  obtain ⟨j, v, hj, rfl⟩ := mem_rowE.1 hx
  have hj' := Go.Mem.some_lt hj
  have := secN_inj (by omega) h e
  omega
theorem ofL_all {l : List Les} (h : ∀ x ∈ l, x.ix = z16) : (ofL l z16).length = l.length := by
  unfold ofL
  rw [List.length_map, List.filter_eq_self.2 (fun x hx => by simpa using h x hx)]
theorem row_add {l l' : List Les} {es : List Int} {e : Int} {b : Bool} (hl : l.Perm (rowE es)) (h8 : es.length < 8) (he : May e) (h : AddR l z16 (secN es.length) e b l') : b = true ∧ l'.Perm (rowE (es ++ [e])) := by
  have hk : NoKey l z16 (secN es.length) := (noKey_rowE es (Nat.le_refl _) (by omega)).perm hl
  have hc : (ofL l z16).length = es.length := by rw [ofL_all (fun x hx => rowE_ix (hl.mem_iff.1 hx)), hl.length_eq, rowE_len]
  cases h with
  | no h => exact absurd h (by rintro (h | ⟨_, h⟩); exact h he; omega)
  | more k x _ _ hx h1 h2 _ => exact absurd ⟨h1, h2⟩ (hk x (List.mem_of_getElem? hx))
  | new _ _ _ _ hp =>
    refine ⟨rfl, hp.trans ?_⟩
    rw [rowE_app]
    exact hl.append_right _
theorem row_full {l l' : List Les} {es : List Int} {b : Bool} (hl : l.Perm (rowE es)) (h8 : es.length ≤ 8) (h : AddR l z16 (secN 99) 1 b l') : b = decide (es.length < 8) ∧ (b = true → l'.Perm (l ++ [⟨z16, secN 99, 1⟩])) ∧ (b = false → l' = l) := by
  have hk : NoKey l z16 (secN 99) := (noKey_rowE es (by omega) (by omega)).perm hl
  have hc : (ofL l z16).length = es.length := by rw [ofL_all (fun x hx => rowE_ix (hl.mem_iff.1 hx)), hl.length_eq, rowE_len]
  cases h with
  | no h =>
    rcases h with h | ⟨_, h⟩
    · exact absurd (show May 1 from ⟨by omega, by omega⟩) h
    · exact ⟨by simp; omega, (fun h => by cases h), fun _ => rfl⟩
  | more k x _ _ hx h1 h2 _ => exact absurd ⟨h1, h2⟩ (hk x (List.mem_of_getElem? hx))
  | new _ _ _ h8 hp => exact ⟨by simp; omega, fun _ => hp, fun h => by cases h⟩
theorem row_cancel {l l' l'' : List Les} {es : List Int} {b : Bool} (hl : l.Perm (rowE es)) (h8 : es.length ≤ 8) (hp : l'.Perm (l ++ [⟨z16, secN 99, 1⟩])) (h : CancelR l' z16 (secN 99) b l'') : b = true ∧ l''.Perm l := by
  have hk : NoKey l z16 (secN 99) := (noKey_rowE es (by omega) (by omega)).perm hl
  cases h with
  | no h => exact absurd ⟨rfl, rfl⟩ (h ⟨z16, secN 99, 1⟩ (hp.mem_iff.2 (by simp)))
  | gone x _ h1 h2 hp2 =>
    refine ⟨rfl, ?_⟩
    have hx : x ∈ l ++ [⟨z16, secN 99, 1⟩] := hp.mem_iff.1 (hp2.mem_iff.1 (List.mem_cons_self))
    have ex : x = ⟨z16, secN 99, 1⟩ := by
      rcases List.mem_append.1 hx with hx | hx
      · exact absurd ⟨h1, h2⟩ (hk x hx)
      · exact List.mem_singleton.1 hx
    subst ex
    exact (List.perm_cons _).1 (hp2.trans (hp.trans List.perm_append_comm))
/-- the greatest, from 0 -/
def maxE (es : List Int) : Int := es.foldl max 0
theorem maxE_app (es : List Int) (e : Int) : maxE (es ++ [e]) = max (maxE es) e := by unfold maxE; rw [List.foldl_append]; rfl
theorem lt_foldl (now : Int) : ∀ (es : List Int) (m : Int), now < es.foldl max m ↔ now < m ∨ ∃ e ∈ es, now < e
  | [], m => by simp
  | e :: es, m => by
    rw [List.foldl_cons, lt_foldl now es (max m e)]
    simp only [List.mem_cons, exists_eq_or_imp]
    rw [← or_assoc]
    have : now < max m e ↔ now < m ∨ now < e := by omega
    rw [this]
theorem row_living {l : List Les} {es : List Int} {now : Int} (hl : l.Perm (rowE es)) (h0 : 0 ≤ now) : (∃ x ∈ l, x.ix = z16 ∧ now < x.e) ↔ now < maxE es := by
  unfold maxE
  rw [lt_foldl]
  constructor
  · rintro ⟨x, hx, _, h⟩
    obtain ⟨j, e, hj, rfl⟩ := mem_rowE.1 (hl.mem_iff.1 hx)
    exact .inr ⟨e, List.mem_of_getElem? hj, h⟩
  · rintro (h | ⟨e, he, h⟩)
    · omega
    · obtain ⟨j, hj⟩ := List.mem_iff_getElem?.1 he
      exact ⟨⟨z16, secN j, e⟩, hl.mem_iff.2 (mem_rowE.2 ⟨j, e, hj, rfl⟩), rfl, h⟩
def leftN (es : List Int) (now : Int) : Nat := (es.filter fun e => decide (now < e)).length
theorem leftN_app (es : List Int) (e now : Int) : leftN (es ++ [e]) now = leftN es now + if now < e then 1 else 0 := by
  unfold leftN
  rw [List.filter_append, List.length_append]
  congr 1
  by_cases c : now < e <;> simp [c]
theorem leftN_pos {es : List Int} {now : Int} : 0 < leftN es now ↔ ∃ e ∈ es, now < e := by
  unfold leftN
  rw [List.length_pos_iff_exists_mem]
  simp
theorem left_row {l : List Les} {es : List Int} {now : Int} (hl : l.Perm (rowE es)) : (left l now).length = leftN es now := by
  have h1 : (left l now).Perm (left (rowE es) now) := hl.filter _
  rw [h1.length_eq]
  unfold left leftN
  have : (rowE es).map (·.e) = es := by
    unfold rowE
    rw [List.map_map]
    exact List.zipIdx_map_fst 0 es
  conv => rhs; rw [← this]
  rw [List.filter_map, List.length_map]
  rfl
theorem row_of {l l' : List Les} {es : List Int} {now : Int} {out : List Sec} (hl : l.Perm (rowE es)) (hp : l'.Perm (left l now)) (h : OfR l' z16 out) : out.length = leftN es now := by
  have hx : ∀ x ∈ l', x.ix = z16 := fun x hx => rowE_ix (hl.mem_iff.1 (List.mem_filter.1 (hp.mem_iff.1 hx)).1)
  rw [h.perm.length_eq, ofL_all hx, hp.length_eq, left_row hl]
theorem row_left {l l' : List Les} {es : List Int} {now : Int} (hl : l.Perm (rowE es)) (hp : l'.Perm (left l now)) : (∃ x ∈ l', x.ix = z16 ∧ now < x.e) ↔ 0 < leftN es now := by
  rw [← left_row hl, ← hp.length_eq, List.length_pos_iff_exists_mem]
  constructor
  · rintro ⟨x, hx, _⟩; exact ⟨x, hx⟩
  · rintro ⟨x, hx⟩
    have h1 := List.mem_filter.1 (hp.mem_iff.1 hx)
    exact ⟨x, hx, rowE_ix (hl.mem_iff.1 h1.1), by simpa using h1.2⟩
theorem row_told {l l' : List Les} {es : List Int} {now : Int} {R : List Key} (hl : l.Perm (rowE es)) (h : EndedR l now l' R) : R.length = 1 ↔ 0 < es.length ∧ leftN es now = 0 := by
  have hz : ∀ k ∈ R, k = z16 := fun k hk => by
    obtain ⟨⟨x, hx, e, _⟩, _⟩ := (h.mem k).1 hk
    rw [← e]; exact rowE_ix (hl.mem_iff.1 hx)
  have h1 : R.length ≤ 1 := by
    rcases R with _ | ⟨a, _ | ⟨b, R⟩⟩
    · simp
    · simp
    · have ha := hz a (by simp)
      have hb := hz b (by simp)
      have := (List.pairwise_cons.1 h.up).1 b (by simp)
      rw [ha, hb, Go.Mem.cmp_refl] at this
      omega
  have h2 : R.length = 1 ↔ z16 ∈ R := by
    constructor
    · intro e
      obtain ⟨a, rfl⟩ := List.length_eq_one_iff.1 e
      rw [hz a (by simp)]; simp
    · intro e
      have := List.length_pos_iff_exists_mem.2 ⟨_, e⟩
      omega
  rw [h2, h.mem]
  have h3 : leftN es now = 0 ↔ l' = [] := by rw [← left_row hl, ← h.perm.length_eq, List.length_eq_zero_iff]
  constructor
  · rintro ⟨⟨x, hx, _, _⟩, hn⟩
    refine ⟨?_, h3.2 (List.eq_nil_iff_forall_not_mem.2 fun y hy => hn y hy ?_)⟩
    · rw [← rowE_len, ← hl.length_eq]
      exact List.length_pos_iff_exists_mem.2 ⟨x, hx⟩
    · exact rowE_ix (hl.mem_iff.1 (List.mem_filter.1 (h.perm.mem_iff.1 hy)).1)
  · rintro ⟨hp, hn⟩
    have hn' := h3.1 hn
    subst hn'
    rw [← rowE_len, ← hl.length_eq] at hp
    obtain ⟨x, hx⟩ := List.length_pos_iff_exists_mem.1 hp
    refine ⟨⟨x, hx, rowE_ix (hl.mem_iff.1 hx), ?_⟩, fun _ h => by cases h⟩
    rcases Int.lt_or_le now x.e with c | c
    · have : x ∈ left l now := List.mem_filter.2 ⟨hx, by simpa using c⟩
      have := h.perm.mem_iff.2 this
      cases this
    · exact c
end Lea
