/- What the calls on a table of leases do to its list, whatever its order; what stays true. No program in sight. -/
import Derived.Test.YtgjabnpngggcmaaDoorLeaRow
namespace Lea
abbrev Key := List UInt8
def kOf (x : Les) : Key × Key := (x.ix, x.sec)
/-- an index's leases -/
def ofL (l : List Les) (ix : Key) : List Sec := (l.filter fun x => decide (x.ix = ix)).map fun x => (x.sec, x.e)
def NoKey (l : List Les) (ix sec : Key) : Prop := ∀ x ∈ l, ¬ (x.ix = ix ∧ x.sec = sec)
def May (e : Int) : Prop := 1 ≤ e ∧ e ≤ 1048576
instance (e : Int) : Decidable (May e) := by unfold May; infer_instance
structure Good (l : List Les) : Prop where
  ends : ∀ x ∈ l, May x.e
  uniq : (l.map kOf).Nodup
  few : ∀ ix, (ofL l ix).length ≤ 8
theorem ofL_keys (l : List Les) (ix : Key) : (ofL l ix).length = ((l.map kOf).filter fun k => decide (k.1 = ix)).length := by
  unfold ofL
  rw [List.length_map, List.filter_map, List.length_map]
  rfl
theorem ofL_perm {l l' : List Les} (h : l'.Perm l) (ix : Key) : (ofL l' ix).Perm (ofL l ix) := (h.filter _).map _
theorem NoKey.perm {l l' : List Les} (h : l'.Perm l) {ix sec : Key} (hk : NoKey l ix sec) : NoKey l' ix sec := fun x hx => hk x (h.mem_iff.1 hx)
theorem Good.perm {l l' : List Les} (h : l'.Perm l) (g : Good l) : Good l' :=
  ⟨fun x hx => g.ends x (h.mem_iff.1 hx), (h.map kOf).nodup_iff.2 g.uniq, fun ix => by rw [(ofL_perm h ix).length_eq]; exact g.few ix⟩
theorem Good.nil : Good [] := ⟨(fun _ h => by cases h), List.nodup_nil, (fun _ => by simp [ofL])⟩
theorem Good.sub {l l' : List Les} (h : l'.Sublist l) (g : Good l) : Good l' :=
  ⟨fun x hx => g.ends x (h.subset hx), g.uniq.sublist (h.map kOf), fun ix => Nat.le_trans (by
    unfold ofL
    rw [List.length_map, List.length_map]
    exact (h.filter _).length_le) (g.few ix)⟩
theorem Good.tail {x : Les} {l l' : List Les} (h : (x :: l').Perm l) (g : Good l) : Good l' := (g.perm h).sub (List.sublist_cons_self x l')
theorem ofL_app (l m : List Les) (ix : Key) : ofL (l ++ m) ix = ofL l ix ++ ofL m ix := by unfold ofL; rw [List.filter_append, List.map_append]
theorem Good.push {l : List Les} (g : Good l) (x : Les) (hx : May x.e) (hk : NoKey l x.ix x.sec) (h8 : (ofL l x.ix).length < 8) : Good (l ++ [x]) := by
  refine ⟨fun y hy => ?_, ?_, fun ix => ?_⟩
  · rcases List.mem_append.1 hy with hy | hy
    · exact g.ends y hy
    · rw [List.mem_singleton.1 hy]; exact hx
  · rw [List.map_append, List.nodup_append]
    refine ⟨g.uniq, by simp, fun a ha b hb => ?_⟩
    obtain ⟨y, hy, rfl⟩ := List.mem_map.1 ha
    simp at hb
    subst hb
    intro e
    exact hk y hy ⟨congrArg Prod.fst e, congrArg Prod.snd e⟩
  · rw [ofL_app, List.length_append]
    by_cases c : x.ix = ix
    · subst c
      have : (ofL [x] x.ix).length ≤ 1 := by unfold ofL; rw [List.length_map]; exact List.length_filter_le _ [x]
      omega
    · have : (ofL [x] ix) = [] := by simp [ofL, c]
      rw [this]
      have := g.few ix
      simpa using this
theorem map_set_key {l : List Les} {k : Nat} {x y : Les} (hx : l[k]? = some x) (hy : kOf y = kOf x) : (l.set k y).map kOf = l.map kOf := by
  rw [List.map_set]
  apply List.ext_getElem?
  intro j
  by_cases c : k = j
  · subst c
    have hk := Go.Mem.some_lt hx
    rw [List.getElem?_set_self (by simpa using hk), List.getElem?_map, hx, hy]; rfl
  · rw [List.getElem?_set_ne c]
theorem Good.set {l : List Les} (g : Good l) {k : Nat} {x y : Les} (hx : l[k]? = some x) (hy : kOf y = kOf x) (he : May y.e) : Good (l.set k y) := by
  refine ⟨fun z hz => ?_, by rw [map_set_key hx hy]; exact g.uniq, fun ix => by rw [ofL_keys, map_set_key hx hy, ← ofL_keys]; exact g.few ix⟩
  rcases List.mem_or_eq_of_mem_set hz with hz | rfl
  · exact g.ends z hz
  · exact he
/-- what Add does -/
inductive AddR (l : List Les) (ix sec : Key) (e : Int) : Bool → List Les → Prop
  | no (h : ¬ May e ∨ (NoKey l ix sec ∧ 8 ≤ (ofL l ix).length)) : AddR l ix sec e false l
  | more (k : Nat) (x : Les) (l' : List Les) (he : May e) (hx : l[k]? = some x) (h1 : x.ix = ix) (h2 : x.sec = sec) (hp : l'.Perm (l.set k ⟨ix, sec, max x.e e⟩)) : AddR l ix sec e true l'
  | new (l' : List Les) (he : May e) (hk : NoKey l ix sec) (h8 : (ofL l ix).length < 8) (hp : l'.Perm (l ++ [⟨ix, sec, e⟩])) : AddR l ix sec e true l'
theorem AddR.good {l l' : List Les} {ix sec : Key} {e : Int} {b : Bool} (h : AddR l ix sec e b l') (g : Good l) : Good l' := by
  cases h with
  | no h => exact g
  | more k x l' he hx h1 h2 hp =>
    have hm := g.ends x (List.mem_of_getElem? hx)
    refine (g.set hx (y := ⟨ix, sec, max x.e e⟩) (by unfold kOf; rw [h1, h2]) ?_).perm hp
    unfold May at *
    simp only
    omega
  | new l' he hk h8 hp => exact (g.push ⟨ix, sec, e⟩ he hk h8).perm hp
theorem AddR.len {l l' : List Les} {ix sec : Key} {e : Int} {b : Bool} (h : AddR l ix sec e b l') : l'.length ≤ l.length + 1 := by
  cases h with
  | no h => omega
  | more k x l' he hx h1 h2 hp => rw [hp.length_eq, List.length_set]; omega
  | new l' he hk h8 hp => rw [hp.length_eq]; simp
/-- what find tells -/
def FindR (l : List Les) (ix sec : Key) (r : Int) : Prop := (r = -1 ∧ NoKey l ix sec) ∨ ∃ (k : Nat) (x : Les), r = k ∧ l[k]? = some x ∧ x.ix = ix ∧ x.sec = sec
/-- what Cancel does -/
inductive CancelR (l : List Les) (ix sec : Key) : Bool → List Les → Prop
  | no (h : NoKey l ix sec) : CancelR l ix sec false l
  | gone (x : Les) (l' : List Les) (h1 : x.ix = ix) (h2 : x.sec = sec) (hp : (x :: l').Perm l) : CancelR l ix sec true l'
theorem CancelR.good {l l' : List Les} {ix sec : Key} {b : Bool} (h : CancelR l ix sec b l') (g : Good l) : Good l' := by
  cases h with
  | no h => exact g
  | gone x l' h1 h2 hp => exact g.tail hp
/-- what Of tells -/
structure OfR (l : List Les) (ix : Key) (out : List Sec) : Prop where
  perm : out.Perm (ofL l ix)
  up : out.Pairwise fun a b => ltL b a = false
theorem OfR.eq {l l' : List Les} {ix : Key} {a b : List Sec} (ha : OfR l ix a) (hb : OfR l' ix b) (h : l.Perm l') : a = b :=
  sorted_eq (fun _ _ h1 h2 => ltL_anti h2 h1) a b ha.up hb.up (ha.perm.trans ((ofL_perm h ix).trans hb.perm.symm))
theorem mem_ofL {l : List Les} {ix : Key} {s : Sec} : s ∈ ofL l ix ↔ ∃ x ∈ l, x.ix = ix ∧ (x.sec, x.e) = s := by
  unfold ofL
  constructor
  · intro h
    obtain ⟨x, hx, e⟩ := List.mem_map.1 h
    have := List.mem_filter.1 hx
    exact ⟨x, this.1, by simpa using this.2, e⟩
  · rintro ⟨x, hx, e, e2⟩
    exact List.mem_map.2 ⟨x, List.mem_filter.2 ⟨hx, by simpa using e⟩, e2⟩
theorem ofL_nil {l : List Les} {ix : Key} : ofL l ix = [] ↔ ∀ x ∈ l, x.ix ≠ ix := by
  constructor
  · intro h x hx e
    have : (x.sec, x.e) ∈ ofL l ix := mem_ofL.2 ⟨x, hx, e, rfl⟩
    rw [h] at this
    cases this
  · intro h
    rw [List.eq_nil_iff_forall_not_mem]
    intro s hs
    obtain ⟨x, hx, e, _⟩ := mem_ofL.1 hs
    exact h x hx e
/-- what has not ended -/
def left (l : List Les) (now : Int) : List Les := l.filter fun x => decide (now < x.e)
/-- what Ended tells -/
structure EndedR (l : List Les) (now : Int) (l' : List Les) (R : List Key) : Prop where
  perm : l'.Perm (left l now)
  up : R.Pairwise fun a b => Go.Lib.compareBytes a b < 0
  mem : ∀ k, k ∈ R ↔ (∃ x ∈ l, x.ix = k ∧ x.e ≤ now) ∧ ∀ x ∈ l', x.ix ≠ k
/-- what Next tells -/
def NextR (l : List Les) (n : Int) (ok : Bool) : Prop := (l = [] ∧ n = 0 ∧ ok = false) ∨ (ok = true ∧ (∃ x ∈ l, x.e = n) ∧ ∀ x ∈ l, n ≤ x.e)
end Lea
