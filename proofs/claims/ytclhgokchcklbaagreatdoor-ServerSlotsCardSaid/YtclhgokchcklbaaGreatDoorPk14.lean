/- Texts of this proof, packed: SrvOne, SrvWake, SrvFind, SrvSort, SrvPair, SrvAppN, SrvWith. -/
import Derived.Test.YtclhgokchcklbaaGreatDoorPk13
section
namespace Lea
theorem AddR.none {l l' : List Les} {ix sec : Key} {e : Int} {b : Bool} (hl : ofL l ix = []) (he : May e) (h : AddR l ix sec e b l') : b = true ∧ l'.Perm (l ++ [⟨ix, sec, e⟩]) := by
  have hno : ∀ x ∈ l, x.ix ≠ ix := ofL_nil.1 hl
  cases h with
  | no h =>
    rcases h with h | ⟨_, h⟩
    · exact absurd he h
    · rw [hl] at h; simp at h
  | more k x _ _ hx h1 _ _ => exact absurd h1 (hno x (List.mem_of_getElem? hx))
  | new _ _ _ _ hp => exact ⟨rfl, hp⟩
theorem AddR.again {l l' : List Les} {ix sec : Key} {e e0 : Int} {b : Bool} (hl : l.Perm [⟨ix, sec, e0⟩]) (he : May e) (h : AddR l ix sec e b l') : b = true ∧ l'.Perm [⟨ix, sec, max e0 e⟩] := by
  have h1 := List.perm_singleton.1 hl
  subst h1
  cases h with
  | no h =>
    rcases h with h | ⟨h, _⟩
    · exact absurd he h
    · exact absurd ⟨rfl, rfl⟩ (h _ (List.mem_singleton.2 rfl))
  | more k x _ _ hx _ _ hp =>
    cases k with
    | zero =>
      simp at hx
      subst hx
      exact ⟨rfl, hp⟩
    | succ k => simp at hx
  | new _ _ hk _ _ => exact absurd ⟨rfl, rfl⟩ (hk _ (List.mem_singleton.2 rfl))
theorem OfR.one {l : List Les} {ix sec : Key} {e : Int} {out : List Sec} (hl : l.Perm [⟨ix, sec, e⟩]) (h : OfR l ix out) : out = [(sec, e)] := by
  have h1 := List.perm_singleton.1 hl
  subst h1
  have h2 := h.perm
  unfold ofL at h2
  simp at h2
  exact h2
end Lea
namespace Go.Mem
open Go Go.RowKit Gf Lea Go.Proofs.YtclhgokchcklbaaGreatDoor
theorem freeN_live {m : Nat} {s : SrvS} (h : SrvG m s) : liveN s.st.recs + s.st.freeN = s.st.recs.length := by
  have := free_live s.st.recs
  unfold St.freeN
  rw [if_neg (by simp [h.st.dead])]
  exact this
theorem live_le {l : List Sto.Rec} (ht : Sto.slot l < l.length) (name : ByteArray) (data : List UInt8) : liveN (putF l name data) ≤ liveN l + 1 := putF_live ht name data
theorem lease_fits {room : Nat} (hr : 8 ≤ room) {ix : Key} (hix : ix.length = 16) {sec : Key} (hs : sec.length = 16) (e : Int) : fitsB room (leaseN ix) (packL [(sec, e)]) = true := by
  have h1 := lease_size ix hix
  have h2 := packL_len [(sec, e)] (fun s hs' => by rw [List.mem_singleton.1 hs']; exact hs)
  simp only [List.length_singleton] at h2
  exact fits_of (by omega) (by omega) (by omega)
theorem SrvG.add_one {m : Nat} {s : SrvS} (h : SrvG m s) (hm : m < 1000000) {ix sec : Key} (hix : ix.length = 16) (hsec : sec.length = 16) {e E : Int} (hroom : 8 ≤ s.room) (hlive : liveN s.st.recs + 1 ≤ s.st.recs.length) (hE : ∀ b l2, AddR s.tab ix sec e b l2 → b = true ∧ l2.Perm [⟨ix, sec, E⟩]) {err : Int} {s' : SrvS} (hl : AddSrv s ix sec e err s') :
    (err = 0 ∧ SrvG (m + 1) s' ∧ s'.tab.Perm [⟨ix, sec, E⟩] ∧ (∀ nm, Sto.look s'.st.recs nm = upd (Sto.look s.st.recs) (leaseN ix) (some (packL [(sec, E)])) nm) ∧ s'.st.disk.stops = s.st.disk.stops) ∨
    (err = 8 ∧ s.st.disk.stops = true ∧ ∃ l, SrvX (m + 1) s' l ∧ ((∀ nm, Sto.look l nm = Sto.look s.st.recs nm) ∨ ∀ nm, Sto.look l nm = upd (Sto.look s.st.recs) (leaseN ix) (some (packL [(sec, E)])) nm)) := by
  have hl0 := hl
  rcases h.add hm hix hsec hl with ⟨_, _, ha⟩ | ⟨l2, out, ha, hR, h0, hc⟩
  · have := (hE _ _ ha).1; cases this
  · have hp := (hE _ _ ha).2
    have ho := OfR.one hp hR
    subst ho
    rcases hc with ⟨h1, h2, h3, h4, h5⟩ | ⟨h1, h2⟩ | h1
    · exact .inl ⟨h1, h2, by rw [h3]; exact hp, h4, h5⟩
    · exfalso
      have hfit := lease_fits (room := s.st.room) (by rw [← h.room]; exact hroom) hix hsec E
      have hslot : Sto.slot s.st.recs < s.st.recs.length := slot_of_live (by omega)
      cases hl0 with
      | full ha' => have := (hE _ _ ha').1; cases this
      | laid l3 _ _ ha' hy =>
        obtain ⟨out', hR', herr, _⟩ := hy
        have ho' := OfR.one (hE _ _ ha').2 hR'
        subst ho'
        have e0 : layR s ix [(sec, E)] = putR s.st (leaseN ix) (packL [(sec, E)]) := by unfold layR; rw [if_neg (by simp)]
        rw [e0] at herr
        have hok : RecOk (leaseN ix) (packL [(sec, E)]) := RecOk.lease ix _ hix (ofR_leOk (ha'.wf h.wf hix hsec) (ha'.good h.good) hR' (by simp))
        have hput := h.st.put hm hok
        generalize putR s.st (leaseN ix) (packL [(sec, E)]) = R at hput herr
        cases hput with
        | arg h' => rw [hfit] at h'; cases h'
        | full _ h' => omega
        | done _ _ _ _ _ _ _ => simp only at herr; omega
        | torn _ _ _ _ _ _ _ _ _ _ => simp only at herr; omega
    · exact .inr h1
theorem SrvG.put_one {m : Nat} {s : SrvS} (h : SrvG m s) (hm : m + 1 < 1000000) {r : Req} (hr : r.Wf) {n : Nat} {data : List UInt8} (hn : n < 16) (hme : May r.ends) (hd : data.length ≤ 200) (hg : Sto.look s.st.recs (shareN r.ix n) = none) (hroom : 8 ≤ s.room) (hlive : liveN s.st.recs + 2 ≤ s.st.recs.length) {E : Int}
    (hE : ∀ b l2, AddR s.tab r.ix r.sec r.ends b l2 → b = true ∧ l2.Perm [⟨r.ix, r.sec, E⟩]) {err : Int} {s' : SrvS} (hp : PutSh s r [((n : Int), data)] err s') :
    (err = 0 ∧ SrvG (m + 2) s' ∧ s'.tab.Perm [⟨r.ix, r.sec, E⟩] ∧ (∀ nm, Sto.look s'.st.recs nm = upd (upd (Sto.look s.st.recs) (shareN r.ix n) (some data)) (leaseN r.ix) (some (packL [(r.sec, E)])) nm) ∧ s'.st.disk.stops = s.st.disk.stops ∧ s'.slots = s.slots ∧ s'.room = s.room ∧ liveN s'.st.recs ≤ liveN s.st.recs + 2) ∨
    (err = 8 ∧ s.st.disk.stops = true ∧ s'.slots = s.slots ∧ s'.room = s.room ∧ ∃ f : Look, SrvT (m + 2) s' f ∧ ((∀ nm, f nm = Sto.look s.st.recs nm) ∨ (∀ nm, f nm = upd (Sto.look s.st.recs) (shareN r.ix n) (some data) nm) ∨ ∀ nm, f nm = upd (upd (Sto.look s.st.recs) (shareN r.ix n) (some data)) (leaseN r.ix) (some (packL [(r.sec, E)])) nm)) := by
  have hfit : fitsB s.st.room (shareN r.ix n) data = true := fits_of (by rw [share_size _ _ hr.ix]; omega) (by omega) (by rw [share_size _ _ hr.ix, ← h.room]; omega)
  have hlf := lease_fits (room := s.st.room) (by rw [← h.room]; exact hroom) hr.ix hr.sec E
  have hfl := freeN_live h
  have hslot : Sto.slot s.st.recs < s.st.recs.length := slot_of_live (by omega)
  have hget : s.st.get (shareN r.ix n) = none := by rw [h.get, hg]
  have hask : ∀ err', AskR s r.ix r.sec r.ends (shareN r.ix n) data false err' → err' = 0 := fun err' ha => by
    obtain ⟨b, l2, out, ha1, ha2, rfl⟩ := ha
    obtain ⟨rfl, hp2⟩ := hE _ _ ha1
    have ho := OfR.one hp2 (ha2 rfl)
    subst ho
    rw [if_neg (by simp; omega), if_neg (by simp [hfit, hlf])]
  have hnl : ∀ ix, shareN r.ix n ≠ leaseN ix := fun ix => share_lease
  have hok : RecOk (shareN r.ix n) data := RecOk.share r.ix n data hr.ix hn (by omega)
  cases hp with
  | form h' => exact absurd ⟨rfl, ⟨⟨fun x hx => by rw [List.mem_singleton.1 hx]; simp; omega, by simp⟩, hme⟩⟩ h'
  | no n' data' _ hl hn' hm' ha h0 =>
    simp only [List.cons.injEq, Prod.mk.injEq, and_true] at hl
    obtain ⟨e1, rfl⟩ := hl
    have e1 : n = n' := by omega
    subst e1
    rw [hget] at ha
    exact absurd (hask _ ha) h0
  | torn n' data' hl hn' hm' hg' ha h0 =>
    simp only [List.cons.injEq, Prod.mk.injEq, and_true] at hl
    obtain ⟨e1, rfl⟩ := hl
    have e1 : n = n' := by omega
    subst e1
    rcases h.put (by omega) hok hnl with ⟨h1, _⟩ | ⟨h1, _⟩ | ⟨h1, h2, l, h3, h4⟩
    · exact absurd h1 h0
    · exfalso
      have hput := h.st.put (by omega) hok
      generalize putR s.st (shareN r.ix n) data = R at hput h1
      cases hput with
      | arg h' => rw [hfit] at h'; cases h'
      | full _ h' => omega
      | done _ _ _ _ _ _ _ => simp only at h1; omega
      | torn _ _ _ _ _ _ _ _ _ _ => simp only at h1; omega
    · refine .inr ⟨h1, h2, rfl, rfl, Sto.look l, .inr ⟨l, h3.le (by omega), fun _ => rfl⟩, ?_⟩
      rcases h4 with h4 | h4
      · exact .inl h4
      · exact .inr (.inl h4)
  | put n' data' _ _ hl hn' hm' hg' ha h0 hs =>
    simp only [List.cons.injEq, Prod.mk.injEq, and_true] at hl
    obtain ⟨e1, rfl⟩ := hl
    have e1 : n = n' := by omega
    subst e1
    rcases h.put (by omega) hok hnl with ⟨h1, h2, h3, h4⟩ | ⟨h1, _⟩ | ⟨h1, _⟩
    · have hrec : (putR s.st (shareN r.ix n) data).2.recs = putF s.st.recs (shareN r.ix n) data := by
        have hput := h.st.put (m := m) (by omega) hok
        generalize putR s.st (shareN r.ix n) data = R at hput h0
        cases hput with
        | arg h' => rw [hfit] at h'; cases h'
        | full _ h' => omega
        | done _ _ _ hr' _ _ _ => exact hr'
        | torn _ _ _ _ _ _ _ _ _ _ => simp only at h0; omega
      have hlv := live_le hslot (shareN r.ix n) data
      have hln := putF_len s.st.recs (shareN r.ix n) data
      have hlv2 : liveN (putR s.st (shareN r.ix n) data).2.recs + 1 ≤ (putR s.st (shareN r.ix n) data).2.recs.length := by rw [hrec, hln]; omega
      have hslots : s'.slots = s.slots ∧ s'.room = s.room ∧ (err = 0 → liveN s'.st.recs ≤ liveN (putR s.st (shareN r.ix n) data).2.recs + 1) := by
        cases hs with
        | full _ => exact ⟨rfl, rfl, fun _ => Nat.le_succ _⟩
        | laid l2 _ _ ha2 hy =>
          obtain ⟨out, hR, herr, hs'⟩ := hy
          have h0' : out.length ≠ 0 := fun e => ha2.ne (hR.nil_iff.1 (List.eq_nil_of_length_eq_zero e))
          have e0 : layR { s with st := (putR s.st (shareN r.ix n) data).2 } r.ix out = putR (putR s.st (shareN r.ix n) data).2 (leaseN r.ix) (packL out) := by unfold layR; rw [if_neg h0']
          rw [e0] at hs' herr
          have hlr : (putR (putR s.st (shareN r.ix n) data).2 (leaseN r.ix) (packL out)).1 = 0 → liveN (putR (putR s.st (shareN r.ix n) data).2 (leaseN r.ix) (packL out)).2.recs ≤ liveN (putR s.st (shareN r.ix n) data).2.recs + 1 := by
            have hR2 := List.perm_singleton.1 (hE _ _ ha2).2
            have hput := h2.st.put (m := m + 1) hm (RecOk.lease r.ix out hr.ix (ofR_leOk (ha2.wf h2.wf hr.ix hr.sec) (ha2.good h2.good) hR (fun e => h0' (by rw [e]; rfl))))
            generalize hq : (putR s.st (shareN r.ix n) data).2 = st1 at *
            have hpr := hput
            generalize putR st1 (leaseN r.ix) (packL out) = R at hput
            cases hput with
            | arg h' => exact fun _ => Nat.le_succ _
            | full _ h' => exact fun _ => Nat.le_succ _
            | done _ _ hsl hr' _ _ _ => intro _; show liveN _ ≤ _; rw [hr']; exact live_le hsl _ _
            | torn _ _ _ _ _ _ _ _ _ _ => intro h; simp only at h; omega
          split at hs'
          · rw [hs', herr]; exact ⟨rfl, rfl, hlr⟩
          · rw [hs', herr]; exact ⟨rfl, rfl, hlr⟩
      rcases h2.add_one hm hr.ix hr.sec hroom hlv2 hE hs with ⟨a1, a2, a3, a4, a5⟩ | ⟨a1, a2, l, a3, a4⟩
      · have hnm : ∀ nm, Sto.look s'.st.recs nm = upd (upd (Sto.look s.st.recs) (shareN r.ix n) (some data)) (leaseN r.ix) (some (packL [(r.sec, E)])) nm := fun nm => by
          rw [a4]
          unfold upd
          split
          · rfl
          · exact h3 nm
        exact .inl ⟨a1, a2, a3, hnm, a5.trans h4, hslots.1, hslots.2.1, by have := hslots.2.2 a1; rw [hrec] at this; omega⟩
      · refine .inr ⟨a1, by rw [← h4]; exact a2, hslots.1, hslots.2.1, Sto.look l, .inr ⟨l, a3, fun _ => rfl⟩, ?_⟩
        rcases a4 with a4 | a4
        · exact .inr (.inl fun nm => by rw [a4]; exact h3 nm)
        · refine .inr (.inr fun nm => ?_)
          rw [a4]
          unfold upd
          split
          · rfl
          · exact h3 nm
    · omega
    · omega
  | there n' data' _ _ hl hn' hm' hg' ha hs =>
    simp only [List.cons.injEq, Prod.mk.injEq, and_true] at hl
    obtain ⟨e1, rfl⟩ := hl
    have e1 : n = n' := by omega
    subst e1
    rw [hget] at hg'
    cases hg'
theorem SrvG.put_there {m : Nat} {s : SrvS} (h : SrvG m s) (hm : m < 1000000) {r : Req} (hr : r.Wf) {n : Nat} {data x : List UInt8} (hn : n < 16) (hme : May r.ends) (hd : data.length ≤ 200) (hg : Sto.look s.st.recs (shareN r.ix n) = some x) (hroom : 8 ≤ s.room) (hlive : liveN s.st.recs + 1 ≤ s.st.recs.length) (hst : s.st.disk.stops = false) {E : Int}
    (hE : ∀ b l2, AddR s.tab r.ix r.sec r.ends b l2 → b = true ∧ l2.Perm [⟨r.ix, r.sec, E⟩]) {err : Int} {s' : SrvS} (hp : PutSh s r [((n : Int), data)] err s') : err = 5 := by
  have hfit : fitsB s.st.room (shareN r.ix n) data = true := fits_of (by rw [share_size _ _ hr.ix]; omega) (by omega) (by rw [share_size _ _ hr.ix, ← h.room]; omega)
  have hlf := lease_fits (room := s.st.room) (by rw [← h.room]; exact hroom) hr.ix hr.sec E
  have hfl := freeN_live h
  have hget : s.st.get (shareN r.ix n) = some x := by rw [h.get, hg]
  have hask : ∀ err', AskR s r.ix r.sec r.ends (shareN r.ix n) data true err' → err' = 0 := fun err' ha => by
    obtain ⟨b, l2, out, ha1, ha2, rfl⟩ := ha
    obtain ⟨rfl, hp2⟩ := hE _ _ ha1
    have ho := OfR.one hp2 (ha2 rfl)
    subst ho
    rw [if_neg (by simp; omega), if_neg (by simp [hfit, hlf])]
  cases hp with
  | form h' => exact absurd ⟨rfl, ⟨⟨fun x hx => by rw [List.mem_singleton.1 hx]; simp; omega, by simp⟩, hme⟩⟩ h'
  | no n' data' _ hl hn' hm' ha h0 =>
    simp only [List.cons.injEq, Prod.mk.injEq, and_true] at hl
    obtain ⟨e1, rfl⟩ := hl
    have e1 : n = n' := by omega
    subst e1
    rw [hget] at ha
    exact absurd (hask _ ha) h0
  | torn n' data' hl hn' hm' hg' ha h0 =>
    simp only [List.cons.injEq, Prod.mk.injEq, and_true] at hl
    obtain ⟨e1, rfl⟩ := hl
    have e1 : n = n' := by omega
    subst e1
    rw [hget] at hg'
    cases hg'
  | put n' data' _ _ hl hn' hm' hg' ha h0 hs =>
    simp only [List.cons.injEq, Prod.mk.injEq, and_true] at hl
    obtain ⟨e1, rfl⟩ := hl
    have e1 : n = n' := by omega
    subst e1
    rw [hget] at hg'
    cases hg'
  | there n' data' _ _ hl hn' hm' hg' ha hs =>
    simp only [List.cons.injEq, Prod.mk.injEq, and_true] at hl
    obtain ⟨e1, rfl⟩ := hl
    have e1 : n = n' := by omega
    subst e1
    rcases h.add_one hm hr.ix hr.sec hroom hlive hE hs with ⟨a1, _⟩ | ⟨_, a2, _⟩
    · rw [if_pos a1]
    · rw [hst] at a2; cases a2
end Go.Mem
end
section
namespace Go.Mem
open Go Go.RowKit Gf Lea Go.Proofs.YtclhgokchcklbaaGreatDoor
theorem SrvG.stop {m : Nat} {s : SrvS} (h : SrvG m s) (a k : Int) : SrvG m { s with st := { s.st with disk := s.st.disk.stop a k } } := ⟨h.st.stop a k, h.good, h.wf, h.tab, h.brk, h.slots, h.room, h.few⟩
theorem len_by_ix : ∀ (K : List Key) (l : List Les), (∀ x ∈ l, x.ix ∈ K) → (∀ ix, (ofL l ix).length ≤ 8) → l.length ≤ 8 * K.length
  | [], l, h, _ => by
    cases l with
    | nil => simp
    | cons x l => have := h x (by simp); cases this
  | k :: K, l, h, h8 => by
    have h1 := len_by_ix K (l.filter fun x => !decide (x.ix = k)) (fun x hx => by
      have := h x (List.mem_filter.1 hx).1
      have h2 := (List.mem_filter.1 hx).2
      simp only [Bool.not_eq_true', decide_eq_false_iff_not] at h2
      rcases List.mem_cons.1 this with e | e
      · exact absurd e h2
      · exact e) (fun ix => Nat.le_trans (by
      unfold ofL
      rw [List.length_map, List.length_map]
      exact ((List.filter_sublist (p := fun x => !decide (x.ix = k)) (l := l)).filter _).length_le) (h8 ix))
    have h2 := h8 k
    have h3 := List.length_eq_countP_add_countP (fun x : Les => decide (x.ix = k)) (l := l)
    unfold ofL at h2
    rw [List.length_map, ← List.countP_eq_length_filter] at h2
    rw [← List.countP_eq_length_filter] at h1
    have h4 : l.countP (fun x => !decide (x.ix = k)) = l.countP (fun x => decide (¬ decide (x.ix = k) = true)) := by
      congr 1
      funext x
      by_cases e : x.ix = k <;> simp [e]
    rw [List.length_cons]
    omega
theorem SrvG.srvB {m : Nat} {s : SrvS} (h : SrvG m s) (hm : m < 1000000) : SrvB s := by
  refine ⟨?_, by have := h.st.writes; omega⟩
  have := len_by_ix (s.st.recs.map fun r => ixOf r.name) s.tab (fun x hx => by
    have hw := (h.wf x hx).1
    rcases h.tab x.ix hw with ⟨_, h2⟩ | ⟨o, h1, _⟩
    · exact absurd rfl (ofL_nil.1 h2 x hx)
    · obtain ⟨r, a1, a2, a3, _⟩ := look_at h1
      exact List.mem_map.2 ⟨r, a1, by rw [a3]; exact ixOf_lease hw⟩) h.good.few
  rw [List.length_map, ← h.slots] at this
  have := h.few
  omega
theorem reqV_all {r : Req} (h : r.Wf) (h1 : r.vt.oneCell' = true) (h2 : r.vb.oneCell' = true) : AllK 52 (reqV r) := by
  refine ⟨reqV_len h, fun v hv => ?_⟩
  unfold reqV at hv
  simp only [List.mem_cons, List.mem_append, List.mem_nil_iff, or_false] at hv
  rcases hv with rfl | hv | hv | rfl | hv | rfl | rfl
  · rfl
  · exact bV_one _ v hv
  · exact bV_one _ v hv
  · rfl
  · exact bV_one _ v hv
  · exact h1
  · exact h2
theorem blAt_one {w : World} {N : Nat → Prop} {g : Nat} {n : Int} {a : Option Addr} {c : Nat} {bs : List UInt8} {t : TypeId} (hb : Blk w g #[.int .i64 n, .slice a bs.length c] t) (hN : ¬ N g) (hd : DataZ w N (.slice a bs.length c) bs) : BlAt w N (.slice (some ⟨g, 0, none⟩) 1 1) [(n, bs)] := by
  refine ⟨_, 1, rfl, Nat.le_refl _, by decide, fun _ => ⟨g, 0, rfl, hb.lt, hN, fun i x hx => ?_⟩⟩
  cases i with
  | zero =>
    simp at hx
    subst hx
    exact ⟨by rw [hb.cell]; rfl, a, c, by rw [hb.cell]; rfl, hd⟩
  | succ i => simp at hx
end Go.Mem
namespace Go.Proofs.YtclhgokchcklbaaGreatDoor
open Go Go.RowKit Go.Mem Gf Lea
set_option linter.unusedVariables false
theorem store_req (dst : Option Tmp) (x y : Operand) (ty : TypeId) (pos : String) (af : Array Edge) (a : Act) (w : World) (K : Act → World → Prop) (Q : Exit → Act → World → Prop)
    (hp : ptrIs (a.eval x) = true) (hy : aggIs (a.eval y) = true) (ht : HasK 52 w (ptrB (a.eval x)) (ptrO (a.eval x))) (hc : AllK 52 (aggL (a.eval y))) :
    Oper.wp Tryz.prog ⟨dst, .store 47 x y, ty, pos, af, none⟩ a w K Q = K (a.put dst undef) (w.setCells (ptrB (a.eval x)) (ptrO (a.eval x)) (aggL (a.eval y))) :=
  wp_storeK i52 dst x y ty pos af a w K Q hp hy ht hc
theorem setCells_zeroR (w : World) (n : Nat) (hn : n = w.heap.size) (cs : List Value) (h : AllK 52 cs) : (w.alloc (.cells #[Value.int .i64 0, .int .u8 0, .int .u8 0, .int .u8 0, .int .u8 0, .int .u8 0, .int .u8 0, .int .u8 0, .int .u8 0, .int .u8 0, .int .u8 0, .int .u8 0, .int .u8 0, .int .u8 0, .int .u8 0, .int .u8 0, .int .u8 0, .int .u8 0, .int .u8 0, .int .u8 0, .int .u8 0, .int .u8 0, .int .u8 0, .int .u8 0, .int .u8 0, .int .u8 0, .int .u8 0, .int .u8 0, .int .u8 0, .int .u8 0, .int .u8 0, .int .u8 0, .int .u8 0, .int .i64 0, .int .u8 0, .int .u8 0, .int .u8 0, .int .u8 0, .int .u8 0, .int .u8 0, .int .u8 0, .int .u8 0, .int .u8 0, .int .u8 0, .int .u8 0, .int .u8 0, .int .u8 0, .int .u8 0, .int .u8 0, .int .u8 0, .slice none 0 0, .slice none 0 0] 47)).setCells n 0 cs = w.alloc (.cells cs.toArray 47) := setCells_alloc_at _ _ _ _ hn (by rw [h.1]; rfl)
def putV (e : Int) (u : Value) : Req := ⟨2, z16, z16, e, z16, .slice none 0 0, u⟩
theorem putV_wf (e : Int) (u : Value) : (putV e u).Wf := ⟨by show z16.length = 16; decide, by show z16.length = 16; decide, by show z16.length = 16; decide⟩
theorem putV_eq (e : Int) (u : Value) : RF.V ⟨.int .i64 2, zk, zk, .int .i64 e, zk, .slice none 0 0, u⟩ = reqV (putV e u) := rfl
theorem putV_all (e : Int) (a : Option Addr) (n c : Nat) : AllK 52 (reqV (putV e (.slice a n c))) := reqV_all (putV_wf e _) rfl rfl
theorem cutC_all {l : List Value} {n : Nat} (h : l.length = n) : cutC l.toArray 0 n = l := by
  unfold cutC
  subst h
  apply List.ext_getElem?
  intro k
  simp
theorem putV_size (e : Int) (a : Option Addr) (n c : Nat) : (reqV (putV e (.slice a n c))).length = 52 := reqV_len (putV_wf e _)
attribute [local irreducible] RF.V zk reqV
attribute [local go_sem ↓] Go.wp_at_zero Go.wp_at_succ
attribute [local go_sem ↓] load_req store_req build_req_cct
attribute [local go_sem] Value.oneCell' reqOf reqFit List.foldl_cons List.foldl_nil List.all_cons List.all_nil rfs0 rfs1 rfs2 rfs3 rfs4 rfs5 rfs6 rfz ok0 ok1 ok2 ok3 ok4 ok5 ok6 fld_reply0 fld_reply1
attribute [local go_sem] ptrB_eq ptrO_eq ptrIs_eq aggL_eq aggIs_eq readK_drew hasK_drew readK_alloc_past hasK_alloc_past readK_alloc_in hasK_alloc_in setCells_drew setCells_alloc_past setCells_zeroR putV_eq putV_all putV_size
theorem may5 : May 5 := ⟨by decide, by decide⟩
set_option maxRecDepth 100000 in
set_option maxHeartbeats 1000000 in
theorem wakes16_calls (w : World) (hT : Tab w) : Calls Tryz.prog 10 #[] w fun e w' => e = .returned (.bool true) ∧ Below w.heap.size w w' := by
  have HT := Lib.hid hT
  clear hT
  go_enter Tryz.func10, Tryz.ntmps10
  go_wp2_with fail
  refine (srvnew_calls 4 8 w HT.out (by omega) (by omega) (by omega)).mono ?_
  rintro e w1 ⟨pb, C, rfl, hS, hC, hb1⟩
  have HL := Lib.hid (show SrvL w w1 C pb (freshS 4 8) from ⟨hS, hb1, hC⟩)
  clear hS hC hb1
  go_upto_region 5 with fail
  have hbA : Below w1.heap.size w1 (w1.alloc (.cells #[Value.int .u8 7] 5)) := (Below.refl _ _).alloc (Nat.le_refl _) _
  have hbB := hbA.alloc hbA.size (.cells #[Value.int .i64 1, Value.slice (some ⟨w1.heap.size, 0, none⟩) 1 1] 41)
  have hbD := hbB.alloc hbB.size (.cells (reqV (putV 5 (.slice (some ⟨w1.heap.size + 1, 0, none⟩) 1 1))).toArray 47)
  have hkB : Blk ((w1.alloc (.cells #[Value.int .u8 7] 5)).alloc (.cells #[Value.int .i64 1, Value.slice (some ⟨w1.heap.size, 0, none⟩) 1 1] 41)) (w1.heap.size + 1) #[Value.int .i64 1, Value.slice (some ⟨w1.heap.size, 0, none⟩) 1 1] 41 := Blk.new_at _ _ _ _ (by simp)
  have hdA : Bys (w1.alloc (.cells #[Value.int .u8 7] 5)) (.slice (some ⟨w1.heap.size, 0, none⟩) 1 1) [7] := bys_one w1 7 _ rfl _
  have hkB2 := hkB.alloc (.cells (reqV (putV 5 (.slice (some ⟨w1.heap.size + 1, 0, none⟩) 1 1))).toArray 47)
  have hdB := (hdA.below ((Below.refl _ _).alloc (Nat.le_refl _) (.cells #[Value.int .i64 1, Value.slice (some ⟨w1.heap.size, 0, none⟩) 1 1] 41))).below ((Below.refl _ _).alloc (Nat.le_refl _) (.cells (reqV (putV 5 (.slice (some ⟨w1.heap.size + 1, 0, none⟩) 1 1))).toArray 47))
  have hkD : Blk (((w1.alloc (.cells #[Value.int .u8 7] 5)).alloc (.cells #[Value.int .i64 1, Value.slice (some ⟨w1.heap.size, 0, none⟩) 1 1] 41)).alloc (.cells (reqV (putV 5 (.slice (some ⟨w1.heap.size + 1, 0, none⟩) 1 1))).toArray 47)) (w1.heap.size + 1 + 1) (reqV (putV 5 (.slice (some ⟨w1.heap.size + 1, 0, none⟩) 1 1))).toArray 47 := Blk.new_at _ _ _ _ (by simp)
  obtain ⟨wd, hwd⟩ : ∃ q, q = ((w1.alloc (.cells #[Value.int .u8 7] 5)).alloc (.cells #[Value.int .i64 1, Value.slice (some ⟨w1.heap.size, 0, none⟩) 1 1] 41)).alloc (.cells (reqV (putV 5 (.slice (some ⟨w1.heap.size + 1, 0, none⟩) 1 1))).toArray 47) := ⟨_, rfl⟩
  rw [← hwd] at hbD hkB2 hdB hkD ⊢
  have hlD := hkD.lt
  have hnC : ∀ b, w1.heap.size ≤ b → ¬ C b := fun b hb hC => by have := HL.out.old hC; omega
  have hbl : BlAt wd C (.slice (some ⟨w1.heap.size + 1, 0, none⟩) 1 1) [(1, [7])] := blAt_one (a := some ⟨w1.heap.size, 0, none⟩) (bs := [7]) hkB2 (hnC _ (by omega)) ⟨hdB, _, _, rfl, fun _ b hb => by cases hb; exact ⟨by show w1.heap.size < _; omega, hnC _ (Nat.le_refl _)⟩⟩
  obtain ⟨p8, hp8⟩ : ∃ q, q = w1.heap.size + 1 := ⟨_, rfl⟩
  obtain ⟨p9, hp9⟩ : ∃ q, q = w1.heap.size + 1 + 1 := ⟨_, rfl⟩
  rw [← hp9] at hkD hlD ⊢
  rw [← hp8] at hkD hbl ⊢
  have r52 : readK 52 wd p9 0 = reqV (putV 5 (.slice (some ⟨p8, 0, none⟩) 1 1)) := blk_read0 hkD (putV_size _ _ _ _)
  have g52 : HasK 52 wd p9 0 := blk_has hkD (by simp [putV_size])
  have HD := Lib.hid (And.intro hbD (And.intro hkD (And.intro hbl (hnC p9 (by omega)))))
  have HG := Lib.hid (freshS_good 4 8 (by omega) (by omega))
  clear hbA hbB hbD hkB hdA hkB2 hdB hkD hwd hp8 hp9 hnC hbl hlD
  obtain ⟨s0, hs0⟩ : ∃ x, x = freshS 4 8 := ⟨_, rfl⟩
  have hsl : s0.slots = 4 ∧ s0.room = 8 ∧ s0.tab = [] ∧ s0.st.recs = List.replicate 4 Sto.Rec.free := by rw [hs0]; exact ⟨rfl, rfl, rfl, rfl⟩
  have HL0 := HL.out
  have HG0 := HG.out
  rw [← hs0] at HL0 HG0
  have H0 := Lib.hid (And.intro HL0 (And.intro HG0 hsl))
  clear HL HG HL0 HG0 hs0 hsl
  go_wp2_with fail
  refine ((H0.out.1.step HD.out.1).put H0.out.2.1.1.live ⟨by rw [H0.out.2.2.2.2.1]; simp, by have := H0.out.2.1.1.st.writes; omega⟩ (by have := H0.out.2.1.1.st.writes; omega) (putV_wf 5 _) rfl HD.out.2.2.1 (fun x hx => by rw [List.mem_singleton.1 hx]; decide)).mono ?_
  rintro e w2 ⟨C2, err, s1, rfl, hP, hL2, hsc⟩
  have hres : err = 0 ∧ SrvG 2 s1 ∧ s1.tab.Perm [⟨z16, z16, 5⟩] ∧ (∃ x, Sto.look s1.st.recs (shareN z16 1) = some x) ∧ s1.st.disk.stops = false ∧ s1.room = 8 ∧ s1.st.recs.length = 4 ∧ liveN s1.st.recs ≤ 2 := by
    have hlv : liveN s0.st.recs = 0 := by rw [H0.out.2.2.2.2.2]; exact live_free 4
    have hln : s0.st.recs.length = 4 := by rw [H0.out.2.2.2.2.2, List.length_replicate]
    rcases H0.out.2.1.1.put_one (E := 5) (by decide) (putV_wf 5 _) (n := 1) (by decide) may5 (by decide) (H0.out.2.1.2.1 _) (by rw [H0.out.2.2.2.1]; exact Nat.le_refl _) (by omega) (fun b l2 ha => by
      rw [H0.out.2.2.2.2.1] at ha
      exact AddR.none rfl may5 ha) hP with ⟨a1, a2, a3, a4, a5, a6, a7, a8⟩ | ⟨_, a2, _⟩
    · have h4 : s1.st.recs.length = 4 := by rw [← a2.slots, a6, H0.out.2.2.1]
      exact ⟨a1, a2, a3, ⟨_, by rw [a4, upd, if_neg share_lease, upd]; exact if_pos rfl⟩, a5.trans H0.out.2.1.2.2, a7.trans H0.out.2.2.2.1, h4, by omega⟩
    · rw [H0.out.2.1.2.2] at a2; cases a2
  obtain ⟨rfl, hres⟩ := hres
  have hk2 := hsc.1.blk HD.out.2.1 HD.out.2.2.2
  have r52' : readK 52 w2 p9 0 = reqV (putV 5 (.slice (some ⟨p8, 0, none⟩) 1 1)) := blk_read0 hk2 (putV_size _ _ _ _)
  have g52' : HasK 52 w2 p9 0 := blk_has hk2 (by simp [putV_size])
  have H2 := Lib.hid (And.intro hres (And.intro hL2 (BlAt.sch HD.out.2.2.1 hsc)))
  clear hP hL2 hsc hk2 r52 g52 hres
  go_wp2_with fail
  refine (H2.out.2.1.put H2.out.1.1.live ⟨by rw [H2.out.1.2.1.length_eq]; simp, by have := H2.out.1.1.st.writes; omega⟩ (by have := H2.out.1.1.st.writes; omega) (putV_wf 5 _) rfl H2.out.2.2 (fun x hx => by rw [List.mem_singleton.1 hx]; decide)).mono ?_
  rintro e w3 ⟨C3, err, s2, rfl, hP, hL3, hsc⟩
  have herr : err = 5 := by
    obtain ⟨x, hx⟩ := H2.out.1.2.2.1
    exact H2.out.1.1.put_there (E := 5) (by decide) (putV_wf 5 _) (n := 1) (by decide) may5 (by decide) hx (by rw [H2.out.1.2.2.2.2.1]; exact Nat.le_refl _) (by have := H2.out.1.2.2.2.2.2; omega) H2.out.1.2.2.2.1 (fun b l2 ha => AddR.again H2.out.1.2.1 may5 ha) hP
  subst herr
  have H3 := Lib.hid hL3.bel
  clear hP hL3 hsc
  go_wp2_with fail
  go_ret
  exact ⟨rfl, H3.out⟩
end Go.Proofs.YtclhgokchcklbaaGreatDoor
end
section
namespace Go.Mem
open Go Go.RowKit Gf Lea
def findB (l : List Blob) (num : Int) : Option (List UInt8) := (l.find? fun x => decide (x.1 = num)).map (·.2)
theorem findB_some {l : List Blob} {num : Int} {i : Nat} {x : Blob} (hx : l[i]? = some x) (he : x.1 = num) (hb : ∀ q y, q < i → l[q]? = some y → y.1 ≠ num) : findB l num = some x.2 := by
  unfold findB
  have : l.find? (fun x => decide (x.1 = num)) = some x := by
    induction l generalizing i with
    | nil => simp at hx
    | cons z l ih =>
      cases i with
      | zero =>
        simp at hx; subst hx
        rw [List.find?_cons_of_pos (by simpa using he)]
      | succ i =>
        rw [List.find?_cons_of_neg (by simpa using hb 0 z (by omega) rfl)]
        exact ih (i := i) (by simpa using hx) fun q y hq hy => hb (q + 1) y (by omega) (by simpa using hy)
  rw [this]; rfl
theorem findB_none {l : List Blob} {num : Int} (hb : ∀ (q : Nat) (y : Blob), l[q]? = some y → y.1 ≠ num) : findB l num = none := by
  unfold findB
  rw [List.find?_eq_none.2]
  · rfl
  · intro x hx
    obtain ⟨i, hi⟩ := List.getElem?_of_mem hx
    simpa using hb i x hi
end Go.Mem
namespace Go.Proofs.YtclhgokchcklbaaGreatDoor
open Go Go.RowKit Go.Mem Gf Lea
set_option linter.unusedVariables false
attribute [local go_sem ↓] Go.wp_at_zero Go.wp_at_succ
attribute [local irreducible] contV
def FindP (w : World) (l : List Blob) (num : Int) (e : Ending) (w' : World) : Prop :=
  ∃ v ok, e = .returned (.tuple #[v, .bool ok]) ∧ Below w.heap.size w w' ∧ ((∃ bs, findB l num = some bs ∧ ok = true ∧ DataZ w' (fun _ => False) v bs) ∨ (findB l num = none ∧ ok = false ∧ v = .slice none 0 0))
set_option maxRecDepth 100000 in
set_option maxHeartbeats 1000000 in
theorem cfind_calls (w : World) (is : Bool) (k : List Value) (u : Value) (l : List Blob) (num : Int) (hk : k.length = 16) (ho : ∀ v ∈ k, v.oneCell' = true) (h : BlAt w (fun _ => False) u l) :
    Calls Tryz.prog 168 #[.agg (contV is k u).toArray, .int .i64 num] w (FindP w l num) := by
  obtain ⟨a, c, rfl, hc1, hc2, hrow⟩ := id h
  obtain ⟨n, hn⟩ : ∃ n, n = l.length := ⟨_, rfl⟩
  rw [← hn] at hc1 hrow ⊢
  unfold maxLen at hc2
  have hu := contV_u is hk (.slice a n c)
  have hcl := contV_len is hk (.slice a n c)
  obtain ⟨cc, hcc⟩ : ∃ cc, cc = contV is k (.slice a n c) := ⟨_, rfl⟩
  rw [← hcc] at hu hcl ⊢
  have hkC : Blk (w.alloc (.cells cc.toArray 184)) w.heap.size cc.toArray 184 := Blk.new _ _ _
  have hbC : Below w.heap.size w (w.alloc (.cells cc.toArray 184)) := (Below.refl _ _).alloc (Nat.le_refl _) _
  have c17 : (w.alloc (.cells cc.toArray 184)).cell? ⟨w.heap.size, 17, none⟩ = some (.slice a n c) := by rw [hkC.cell 17]; simpa using hu
  have k1 : cutC cc.toArray 0 18 = cc := cutC_all hcl
  have H := Lib.hid (And.intro h (And.intro hn (And.intro hrow hbC)))
  clear h hn hrow hcc hbC
  go_enter Tryz.func168, Tryz.ntmps168
  go_upto_region 2 with fail
  go_loopw [11] (fun vi wr => ∃ i : Nat, i ≤ n ∧ vi = .int .i64 i ∧ Hid ((∀ q y, q < i → l[q]? = some y → y.1 ≠ num) ∧ Below w.heap.size w wr)) (fun vi _ => n - (intOf vi).toNat)
  case atStart => exact ⟨0, Nat.zero_le _, rfl, (fun q y h => by omega), H.out.2.2.2⟩
  case round =>
    obtain ⟨i, hi0, rfl, G⟩ := hrel
    by_cases hin : i < n
    · obtain ⟨b, off, rfl, hb, hnb, hcells⟩ := H.out.2.2.1 (by omega)
      have hx : l[i]? = some (l[i]'(by have := H.out.2.1; omega)) := by simp
      generalize l[i]'(by have := H.out.2.1; omega) = x at hx
      obtain ⟨c1, a', c', c2, hd⟩ := hcells i x hx
      have hbc := fun o => G.out.2.cell (p := ⟨b, o, none⟩) hb
      rw [← hbc] at c1 c2
      have i0 : (0 : Int) ≤ (i : Int) := by omega
      have i1 : (i : Int) < (n : Int) := by omega
      obtain ⟨z, hz⟩ : ∃ z, z = x.1 := ⟨_, rfl⟩
      obtain ⟨xl, hxl⟩ : ∃ z, z = x.2.length := ⟨_, rfl⟩
      rw [← hz] at c1
      rw [← hxl] at c2 hd
      have hbA := G.out.2.alloc G.out.2.size (.cells #[.int .i64 z, .slice a' xl c'] 41)
      have HX := Lib.hid (And.intro hx (And.intro hz (And.intro hxl (And.intro hbA (hd.chg (S := fun _ => False) (Chg.of_below hbA) (fun _ h => h.elim))))))
      clear hx hz hxl hd hbA hb hcells hbc
      by_cases hzz : z = num
      · have HF := Lib.hid (findB_some HX.out.1 (by rw [← HX.out.2.1]; exact hzz) G.out.1)
        have t1 : (z == num) = true := by simpa using hzz
        replace hzz := Lib.hid hzz
        go_wp2_with fail
        go_ret2
        exact ⟨_, true, rfl, HX.out.2.2.2.1, .inl ⟨_, HF.out, rfl, HX.out.2.2.2.2⟩⟩
      · have t1 : (z == num) = false := by simpa using hzz
        have HNE := Lib.hid hzz
        clear hzz
        go_wp2_with fail
        exact ⟨⟨i + 1, by omega, by simp, fun q y' hq hy' => by
          rcases Nat.lt_or_ge q i with h | h
          · exact G.out.1 q y' h hy'
          · have : q = i := by omega
            subst this
            rw [HX.out.1] at hy'
            cases hy'
            rw [← HX.out.2.1]; exact HNE.out, HX.out.2.2.2.1⟩, by show n - ((i : Int) + 1).toNat < n - (i : Int).toNat; omega⟩
    · obtain rfl : i = n := by omega
      have HF := Lib.hid (findB_none (l := l) (num := num) fun q y hy => G.out.1 q y (by have := some_lt hy; have := H.out.2.1; omega) hy)
      go_wp2_with fail
      go_ret2
      exact ⟨_, false, rfl, G.out.2, .inr ⟨HF.out, rfl, rfl⟩⟩
end Go.Proofs.YtclhgokchcklbaaGreatDoor
end
section
namespace Go.Proofs.YtclhgokchcklbaaGreatDoor
open Go Go.RowKit Go.Mem Gf Lea Go.Lib Go.Shelf
set_option linter.unusedVariables false
abbrev BP := Int × Option Addr × Nat × Nat
def eP (x : BP) : List Value := [.int .i64 x.1, .slice x.2.1 x.2.2.1 x.2.2.2]
def WfP (_ : BP) : Prop := True
theorem ecP : EncK eP WfP 2 := ⟨fun x h => rfl, fun x v hv => by
  unfold eP at hv
  simp only [List.mem_cons, List.not_mem_nil, or_false] at hv
  rcases hv with rfl | rfl <;> rfl, by decide⟩
def ltP (a b : BP) : Bool := decide (a.1 < b.1)
theorem ordP : Srt.Ord ltP := by
  refine ⟨fun a b h => ?_, fun a b c h1 h2 => ?_⟩
  · unfold ltP at *
    simp only [decide_eq_true_eq, decide_eq_false_iff_not] at *
    omega
  · unfold ltP at *
    simp only [decide_eq_false_iff_not] at *
    omega
instance : Inhabited {k : BP // WfP k} := ⟨⟨(0, none, 0, 0), trivial⟩⟩
theorem swoP : Go.Sort.SWO (fun a b : {k : BP // WfP k} => ltP a.1 b.1) := by
  refine ⟨fun x => ?_, fun x y z h1 h2 => ?_, fun x y z h1 h2 => ?_⟩
  · show ltP x.1 x.1 = false
    unfold ltP; simp
  · show ltP x.1 z.1 = true
    have h1 : ltP x.1 y.1 = true := h1
    have h2 : ltP y.1 z.1 = true := h2
    unfold ltP at *
    simp only [decide_eq_true_eq] at *
    omega
  · exact ordP.trans z.1 y.1 x.1 h2 h1
attribute [local go_sem ↓] Go.wp_at_zero Go.wp_at_succ
set_option maxRecDepth 100000 in
set_option maxHeartbeats 1000000 in
theorem withless_calls (w : World) (bx base g n cap : Nat) (l : List BP) (h : RowG eP WfP 2 41 w base g n cap l) (hb : w.cell? ⟨bx, 17, none⟩ = some (.slice (some ⟨g, 0, none⟩) n cap)) (i j : Nat) (x y : BP) (hx : l[i]? = some x) (hy : l[j]? = some y) :
    Calls Tryz.prog 170 #[.int .i64 i, .int .i64 j, .pointer (some ⟨bx, 0, none⟩)] w fun e w' => e = .returned (.bool (ltP x y)) ∧ ∃ q, w' = w.drewN q := by
  have hi : i < n := by rw [h.len]; exact some_lt hx
  have hj : j < n := by rw [h.len]; exact some_lt hy
  have i0 : (0 : Int) ≤ (i : Int) := by omega
  have i1 : (i : Int) < (n : Int) := by omega
  have j0 : (0 : Int) ≤ (j : Int) := by omega
  have j1 : (j : Int) < (n : Int) := by omega
  have t1 := h.range ecP hx 0 (.int .i64 x.1) rfl
  have t2 := h.range ecP hy 0 (.int .i64 y.1) rfl
  simp only [Nat.add_zero] at t1 t2
  obtain ⟨xn, hxn⟩ : ∃ z, z = x.1 := ⟨_, rfl⟩
  obtain ⟨yn, hyn⟩ : ∃ z, z = y.1 := ⟨_, rfl⟩
  rw [← hxn] at t1
  rw [← hyn] at t2
  have HXY := Lib.hid (And.intro hxn hyn)
  clear h hx hy hxn hyn
  go_enter Tryz.func170, Tryz.ntmps170
  go_wp2_with fail
  go_region
  go_wp2
  go_ret
  exact ⟨by unfold ltP; rw [← HXY.out.1, ← HXY.out.2]; rfl, _, rfl⟩
theorem withless_enters : ∀ args w, (callFunc 170 args).run Tryz.prog w = .ok (.enter 170 args) w := enters_of Tryz.func170 (by kernel_rfl) rfl
noncomputable def psT : TypeInfo := (Tryz.prog.info? 42).get (by kernel_rfl)
noncomputable def psE : TypeInfo := (Tryz.prog.info? 41).get (by kernel_rfl)
theorem psK9 (n : Nat) (h2 : 2 ≤ n) : Lib.swapperK n psE 25 = 9 := by
  have a : psE.hasPointers = true := by kernel_rfl
  have b : psE.bytes = 32 := by kernel_rfl
  have c : (n == 0) = false := by simp; omega
  have d : (n == 1) = false := by simp; omega
  simp [Lib.swapperK, a, b, c, d]
theorem psort_small (w : World) (p : Option Addr) (n c : Nat) (hn : n ≤ 1) (bx : Nat) :
    Calls Tryz.prog 139 #[.iface 42 (.slice p n c), .func (.func 170) #[] #[.pointer (some ⟨bx, 0, none⟩)]] w fun e w' => e = .returned (.tuple #[]) ∧ Chg (fun _ => False) w w' := by
  obtain ⟨l, hl⟩ : ∃ l : List BP, l.length = n := ⟨List.replicate n (0, none, 0, 0), by simp⟩
  obtain ⟨f, hf⟩ : ∃ f, Tryz.prog.funcs.findIdx? (·.name == "internal/reflectlite" ++ ".Swapper$" ++ toString (swapperK n psE 25)) = some f := by
    rcases (by omega : n = 0 ∨ n = 1) with rfl | rfl
    · exact ⟨202, by kernel_rfl⟩
    · exact ⟨203, by kernel_rfl⟩
  have hb : sliceBound Tryz.prog 41 psE 25 p n c = #[] := by
    unfold sliceBound swapperK
    rcases (by omega : n = 0 ∨ n = 1) with rfl | rfl <;> simp
  have hw : Chg (fun _ => False) w (sliceWorld Tryz.prog Tryz.laysGg6_ren 42 p n c w) := Chg.of_below (((Below.refl _ _).alloc (Nat.le_refl _) _).alloc (by simp) _)
  refine Any.sort_Slice_of_pdq Tryz.laysGg6 42 41 psT psE (by kernel_rfl) (by kernel_rfl) (by kernel_rfl) (by kernel_rfl) 25 (fun _ => by kernel_rfl) p n c (by omega) f hf _ _ _ w _ ?_
  rw [hb]
  refine (pdq_calls (sorter_one ltP ordP 170 f #[.pointer (some ⟨bx, 0, none⟩)] #[] withless_enters) l n _ hl (by omega) _ (by omega)).mono ?_
  rintro e w' ⟨rfl, _, _, _, _, hc⟩
  exact ⟨rfl, hw.trans hc⟩
theorem psort_row (w : World) (bx base g n cap : Nat) (l : List BP) (cc : Array Value) (h : RowG eP WfP 2 41 w base g n cap l) (hb : Blk w bx cc 184) (hu : cc[17]? = some (.slice (some ⟨g, 0, none⟩) n cap)) (hne : bx ≠ g) (h2 : 2 ≤ n) (hn : n ≤ 1000000) :
    Calls Tryz.prog 139 #[.iface 42 (.slice (some ⟨g, 0, none⟩) n cap), .func (.func 170) #[] #[.pointer (some ⟨bx, 0, none⟩)]] w fun e w' =>
      e = .returned (.tuple #[]) ∧ ∃ l', RowG eP WfP 2 41 w' base g n cap l' ∧ l'.Perm l ∧ (l'.Pairwise fun a b => ltP b a = false) ∧ Chg (fun k => k = g) w w' := by
  obtain ⟨d, hd⟩ := toS h.wf
  have hdn : d.size = n := by rw [h.len, ← hd]; simp
  have hH := h.holds ecP d hd
  have hless : Go.Proofs.LessReadsK Tryz.prog 170 #[.pointer (some ⟨bx, 0, none⟩)] (encSub eP WfP) 2 (fun a b : {k : BP // WfP k} => ltP a.1 b.1) g 0 d.size w := by
    intro m os dk hs i j hi hj
    have hp := h.put ecP m os dk (by omega)
    have hx : (dk.toList.map (·.1))[i]? = some (dk[i]!).1 := by
      rw [List.getElem?_map, Array.getElem?_toList, getElem!_pos dk i (by omega), Array.getElem?_eq_getElem (by omega)]; rfl
    have hy : (dk.toList.map (·.1))[j]? = some (dk[j]!).1 := by
      rw [List.getElem?_map, Array.getElem?_toList, getElem!_pos dk j (by omega), Array.getElem?_eq_getElem (by omega)]; rfl
    exact withless_calls _ bx base g n cap _ hp.1 (by rw [(hp.2.blk hb hne).cell 17]; exact hu) i j _ _ hx hy
  have hf : Tryz.prog.funcs.findIdx? (·.name == "internal/reflectlite" ++ ".Swapper$" ++ toString (swapperK d.size psE 25)) = some 210 := by
    rw [psK9 _ (by omega)]; kernel_rfl
  have := Go.Proofs.Any.sort_Slice_cells_sorted Tryz.laysGg6 42 41 psT psE (by kernel_rfl) (by kernel_rfl) (by kernel_rfl) (by kernel_rfl) 25 (fun _ => by kernel_rfl) (encSub eP WfP) 2 (fun x => ecP.len x.1 x.2) (by kernel_rfl) (fun _ => by kernel_rfl)
    (fun x => ecP.one x.1) (fun a b : {k : BP // WfP k} => ltP a.1 b.1) swoP 170 #[.pointer (some ⟨bx, 0, none⟩)] withless_enters g 0 cap d (by omega) (by omega) 210 hf false
    (fun args W => run_callFunc_extern Tryz.func210 (by kernel_rfl) (by kernel_rfl) (by kernel_rfl) (e := Extern.ReflectliteSwapper.swap false) (by kernel_rfl) args W) w hless hH (by obtain ⟨cur, hh, _⟩ := h.block; exact lt_of_block hh)
  rw [hdn] at this
  refine this.mono ?_
  rintro e w' ⟨rfl, d', m, os, hp, hs, rfl⟩
  rw [← hdn] at hp
  have hd' : d'.size = n := by rw [hp.1, hdn]
  have hput := h.put ecP m os d' hd'
  exact ⟨rfl, _, hput.1, by rw [← hd]; exact permIn_perm hp, sortedIn_pairwise hd' hs, hput.2⟩
theorem psort_calls (w : World) (bx base : Nat) (a : Option Addr) (n c : Nat) (l : List BP) (cc : Array Value) (h : OwnG eP WfP 2 41 w base (.slice a n c) l) (hb : Blk w bx cc 184) (hu : cc[17]? = some (.slice a n c)) (hne : (Value.slice a n c).ownBlock ≠ some bx) (hn : l.length ≤ 1000000) :
    Calls Tryz.prog 139 #[.iface 42 (.slice a n c), .func (.func 170) #[] #[.pointer (some ⟨bx, 0, none⟩)]] w fun e w' =>
      e = .returned (.tuple #[]) ∧ ∃ l', OwnG eP WfP 2 41 w' base (.slice a n c) l' ∧ l'.Perm l ∧ (l'.Pairwise fun a b => ltP b a = false) ∧ Chg (fun k => (Value.slice a n c).ownBlock = some k) w w' := by
  have hlen : n = l.length := by
    obtain ⟨_, _, e⟩ := h.slice
    injection e
  by_cases h2 : 2 ≤ n
  · obtain ⟨g, cap, e, hr⟩ := h.ex (by omega)
    injection e with ea en ec
    subst ea
    subst ec
    rw [← hlen] at hr
    refine (psort_row w bx base g n c l cc hr hb hu (fun e => hne (by rw [e]; rfl)) h2 (by omega)).mono ?_
    rintro e w' ⟨rfl, l', h1, h3, h4, h5⟩
    exact ⟨rfl, l', h1.to, h3, h4, h5.mono (fun k hk => by rw [hk]; rfl)⟩
  · refine (psort_small w a n c (by omega) bx).mono ?_
    rintro e w' ⟨rfl, h5⟩
    refine ⟨rfl, l, h.chg h5 (fun _ _ h => h), List.Perm.refl _, ?_, h5.mono (fun _ h => h.elim)⟩
    rw [List.pairwise_iff_getElem]
    intro p q hp hq hpq
    omega
end Go.Proofs.YtclhgokchcklbaaGreatDoor
end
section
namespace Go.Mem
open Go Go.RowKit Gf Lea Go.Proofs.YtclhgokchcklbaaGreatDoor
set_option linter.unusedVariables false
theorem perm_lift {α β : Type} : ∀ (p : List α) {q : List (α × β)}, p.Perm (q.map (·.1)) → ∃ q' : List (α × β), q'.Perm q ∧ q'.map (·.1) = p
  | [], q, h => by
    have := h.length_eq
    simp at this
    have : q = [] := List.eq_nil_of_length_eq_zero (by simpa using this.symm)
    exact ⟨[], by rw [this], rfl⟩
  | a :: t, q, h => by
    obtain ⟨z, hz, rfl⟩ := List.mem_map.1 (h.mem_iff.1 (List.mem_cons_self))
    obtain ⟨s, t2, rfl⟩ := List.append_of_mem hz
    have h1 : ((s ++ z :: t2).map (·.1)).Perm (z.1 :: (s ++ t2).map (·.1)) := by
      rw [List.map_append, List.map_cons, List.map_append]
      exact List.perm_middle
    obtain ⟨q', h2, h3⟩ := perm_lift t (h.trans h1).cons_inv
    exact ⟨z :: q', (h2.cons z).trans List.perm_middle.symm, by rw [List.map_cons, h3]⟩
def slP (p : BP) : Value := .slice p.2.1 p.2.2.1 p.2.2.2
def BPs (w : World) (N : Nat → Prop) (ps : List BP) (l : List Blob) : Prop :=
  ∃ q : List (BP × Blob), q.map (·.1) = ps ∧ q.map (·.2) = l ∧ ∀ z ∈ q, z.1.1 = z.2.1 ∧ z.1.2.2.1 = z.2.2.length ∧ DataZ w N (slP z.1) z.2.2
theorem BPs.nil (w : World) (N : Nat → Prop) : BPs w N [] [] := ⟨[], rfl, rfl, fun z h => by cases h⟩
theorem BPs.len {w : World} {N : Nat → Prop} {ps : List BP} {l : List Blob} (h : BPs w N ps l) : ps.length = l.length := by
  obtain ⟨q, rfl, rfl, _⟩ := h
  rw [List.length_map, List.length_map]
theorem BPs.chg {S N : Nat → Prop} {w w' : World} {ps : List BP} {l : List Blob} (h : BPs w N ps l) (hc : Chg S w w') (hs : ∀ b, S b → b < w.heap.size → N b) : BPs w' N ps l := by
  obtain ⟨q, h1, h2, h3⟩ := h
  exact ⟨q, h1, h2, fun z hz => ⟨(h3 z hz).1, (h3 z hz).2.1, (h3 z hz).2.2.chg hc hs⟩⟩
theorem BPs.app {w : World} {N : Nat → Prop} {ps ps' : List BP} {l l' : List Blob} (h : BPs w N ps l) (h' : BPs w N ps' l') : BPs w N (ps ++ ps') (l ++ l') := by
  obtain ⟨q, h1, h2, h3⟩ := h
  obtain ⟨q', h1', h2', h3'⟩ := h'
  refine ⟨q ++ q', by rw [List.map_append, h1, h1'], by rw [List.map_append, h2, h2'], fun z hz => ?_⟩
  rcases List.mem_append.1 hz with hz | hz
  · exact h3 z hz
  · exact h3' z hz
theorem BPs.one {w : World} {N : Nat → Prop} {p : BP} {x : Blob} (h1 : p.1 = x.1) (h2 : p.2.2.1 = x.2.length) (h3 : DataZ w N (slP p) x.2) : BPs w N [p] [x] :=
  ⟨[(p, x)], rfl, rfl, fun z hz => by rw [List.mem_singleton.1 hz]; exact ⟨h1, h2, h3⟩⟩
theorem BPs.perm {w : World} {N : Nat → Prop} {ps ps' : List BP} {l : List Blob} (h : BPs w N ps l) (hp : ps'.Perm ps) (hs : ps'.Pairwise fun a b => ltP b a = false) : ∃ l', BPs w N ps' l' ∧ l'.Perm l ∧ l'.Pairwise fun a b : Blob => a.1 ≤ b.1 := by
  obtain ⟨q, rfl, rfl, h3⟩ := h
  obtain ⟨q', h4, rfl⟩ := perm_lift ps' hp
  refine ⟨q'.map (·.2), ⟨q', rfl, rfl, fun z hz => h3 z (h4.mem_iff.1 hz)⟩, h4.map _, ?_⟩
  rw [List.pairwise_map] at hs ⊢
  refine hs.imp_of_mem fun {a b} ha hb hab => ?_
  have e1 := (h3 a (h4.mem_iff.1 ha)).1
  have e2 := (h3 b (h4.mem_iff.1 hb)).1
  unfold ltP at hab
  simp only [decide_eq_false_iff_not] at hab
  omega
theorem BlAt.pairs {w : World} {N : Nat → Prop} {u : Value} {l : List Blob} (h : BlAt w N u l) : ∃ a c ps, u = .slice a l.length c ∧ BPs w N ps l ∧ (0 < l.length → ∃ b off, a = some ⟨b, off, none⟩ ∧ b < w.heap.size ∧ ¬ N b ∧ ∀ (i : Nat) (p : BP), ps[i]? = some p → w.cell? ⟨b, off + i * 2, none⟩ = some (.int .i64 p.1) ∧ w.cell? ⟨b, off + i * 2 + 1, none⟩ = some (slP p)) := by
  obtain ⟨a, c, rfl, h1, h2, h3⟩ := h
  rcases Nat.eq_zero_or_pos l.length with h0 | h0
  · have : l = [] := List.eq_nil_of_length_eq_zero h0
    subst this
    exact ⟨a, c, [], rfl, BPs.nil _ _, fun h => by simp at h⟩
  · obtain ⟨b, off, rfl, hb, hn, h4⟩ := h3 h0
    have key : ∀ k, k ≤ l.length → ∃ ps, ps.length = k ∧ BPs w N ps (l.take k) ∧ ∀ (i : Nat) (p : BP), ps[i]? = some p → w.cell? ⟨b, off + i * 2, none⟩ = some (.int .i64 p.1) ∧ w.cell? ⟨b, off + i * 2 + 1, none⟩ = some (slP p) := by
      intro k
      induction k with
      | zero => exact fun _ => ⟨[], rfl, by rw [List.take_zero]; exact BPs.nil _ _, fun i p h => by simp at h⟩
      | succ k ih =>
        intro hk
        obtain ⟨ps, e1, e2, e3⟩ := ih (by omega)
        have hx : l[k]? = some (l[k]'(by omega)) := by simp
        generalize l[k]'(by omega) = x at hx
        obtain ⟨c1, a', c', c2, hd⟩ := h4 k x hx
        refine ⟨ps ++ [(x.1, a', x.2.length, c')], by simp [e1], ?_, fun i p hp => ?_⟩
        · rw [List.take_add_one, hx]
          exact e2.app (BPs.one rfl rfl hd)
        · rcases Nat.lt_or_ge i k with hi | hi
          · rw [List.getElem?_append_left (by omega)] at hp
            exact e3 i p hp
          · rw [List.getElem?_append_right (by omega), e1] at hp
            have : i = k := by
              have := some_lt hp
              simp at this
              omega
            subst this
            simp at hp
            subst hp
            exact ⟨c1, c2⟩
    obtain ⟨ps, e1, e2, e3⟩ := key l.length (Nat.le_refl _)
    rw [List.take_length] at e2
    exact ⟨_, c, ps, rfl, e2, fun _ => ⟨b, off, rfl, hb, hn, e3⟩⟩
end Go.Mem
end
section
namespace Go.Mem
open Go Go.RowKit Gf
section
variable {P : Program} {w : World} {ops : Array Oper} {rest : List Oper} {o : Oper} {a : Act} {Q : Exit → Act → World → Prop}
theorem appN_own {α : Type} {enc : α → List Value} {Wf : α → Prop} {t e : TypeId} {z : Value} {size bytes : Nat} (E : ElemK P t e z size bytes) (EC : EncK enc Wf size) (hgd : o.guard = none) (s x : Operand) (ho : o.op = .call { callee := .builtin .append, args := #[s, x], argTypes := #[t, t] })
    (hs : a.eval s = .slice none 0 0) {L off n cap : Nat} {l : List α} (hw : ∀ x ∈ l, Wf x) (hx : a.eval x = .slice (some ⟨L, off, none⟩) n cap) (hl : l.length = n) (hnews : ∀ j u, (allV enc l)[j]? = some u → w.cell? ⟨L, off + j, none⟩ = some u)
    (hn : n ≤ maxLen) (hby : n * bytes ≤ 140737488355328)
    (h : ∀ v' w', OwnG enc Wf size e w' w.heap.size v' l → Below w.heap.size w w' → wpList P ops Q rest (a.put o.dst v') w') : wpList P ops Q (o :: rest) a w := by
  obtain ⟨i, hi, hz, hsz, hb⟩ := info_parts E.info
  refine wpList_plain hgd fun K hK => wp_append_own w s x t ho w.heap.size e i z size bytes E.under hi hz hsz hb E.zsize E.pos (.slice none 0 0) 0 [] hs (World.ownsRow_nil _ _ _ _) ⟨L, off, none⟩ n cap (allV enc l) hx (by rw [allV_len EC l hw, hl])
    (fun j y hj => by
      rw [show (⟨L, off, none⟩ : Addr).add j = ⟨L, off + j, none⟩ from by
        unfold Addr.add
        split
        · subst_vars; rfl
        · rfl]
      exact hnews j y hj) (allV_news EC l) (by omega) (by rw [Nat.zero_add]; exact hby) (Nat.le_refl _) (fun v' w' h2 h3 _ => hK _ _ ?_)
  rw [Nat.zero_add, List.nil_append] at h2
  exact h v' w' ⟨by rw [hl]; exact h2, hw⟩ (grown_none h3 rfl)
end
end Go.Mem
end
section
namespace Go.Mem
open Go Go.RowKit Gf Lea
def withA : List Blob → List Blob → List Blob
  | out, [] => out
  | out, b :: r => if findB out b.1 = none then withA (out ++ [b]) r else withA out r
theorem withA_snoc (b : Blob) : ∀ (r out : List Blob), withA out (r ++ [b]) = if findB (withA out r) b.1 = none then withA out r ++ [b] else withA out r
  | [], out => rfl
  | x :: r, out => by
    rw [List.cons_append, withA, withA]
    split
    · exact withA_snoc b r _
    · exact withA_snoc b r _
theorem withA_len : ∀ (r out : List Blob), (withA out r).length ≤ out.length + r.length
  | [], out => by simp [withA]
  | x :: r, out => by
    rw [withA]
    split
    · have := withA_len r (out ++ [x]); simp at this ⊢; omega
    · have := withA_len r out; simp; omega
theorem BPs.blAt {w : World} {N : Nat → Prop} {a : Option Addr} {n c base : Nat} {ps : List Go.Proofs.YtclhgokchcklbaaGreatDoor.BP} {l : List Blob} (h : BPs w N ps l) (ho : OwnG Go.Proofs.YtclhgokchcklbaaGreatDoor.eP Go.Proofs.YtclhgokchcklbaaGreatDoor.WfP 2 41 w base (.slice a n c) ps) (hN : ∀ g, (Value.slice a n c).ownBlock = some g → ¬ N g) : BlAt w N (.slice a n c) l := by
  have hl := h.len
  obtain ⟨a1, c1, e1⟩ := ho.slice
  have hn : n = l.length := by injection e1 with _ e _; omega
  rcases Nat.eq_zero_or_pos l.length with h0 | h0
  · have hm : c ≤ maxLen := by
      rcases ho.own.2 with ⟨e, _⟩ | ⟨g, cap, cur, e, _, _, _, hm, _⟩
      · injection e with _ _ e; rw [e]; exact Nat.zero_le _
      · injection e with _ _ e; rw [e]; exact hm
    exact ⟨a, c, by rw [hn], by rw [h0]; exact Nat.zero_le _, hm, fun h => by omega⟩
  · obtain ⟨g, cap, e, hr⟩ := ho.ex (by omega)
    obtain ⟨cur, hh, hb, k1, k2, k3, k4⟩ := hr.block
    injection e with e2 e3 e4
    subst e2
    subst e4
    refine ⟨_, c, by rw [hn], by omega, k2, fun _ => ⟨g, 0, rfl, hr.lt, hN g rfl, fun i x hx => ?_⟩⟩
    have hi := some_lt hx
    obtain ⟨q, hq1, hq2, hq3⟩ := h
    obtain ⟨z, hz⟩ : ∃ z, q[i]? = some z := ⟨_, List.getElem?_eq_getElem (by rw [← hq2, List.length_map] at hi; exact hi)⟩
    have hz2 : z.2 = x := by
      rw [← hq2, List.getElem?_map, hz] at hx
      simpa using hx
    have hz1 : ps[i]? = some z.1 := by rw [← hq1, List.getElem?_map, hz]; rfl
    obtain ⟨f1, f2, f3⟩ := hq3 z (List.mem_of_getElem? hz)
    have g0 := hr.cell (j := i * 2) (by rw [hl]; omega)
    have g1 := hr.cell (j := i * 2 + 1) (by rw [hl]; omega)
    have t0 := allV_get Go.Proofs.YtclhgokchcklbaaGreatDoor.ecP ps (fun _ _ => trivial) i _ hz1 0 (by decide)
    have t1 := allV_get Go.Proofs.YtclhgokchcklbaaGreatDoor.ecP ps (fun _ _ => trivial) i _ hz1 1 (by decide)
    rw [Nat.add_zero] at t0
    refine ⟨by rw [Nat.zero_add, g0, t0, ← hz2, ← f1]; rfl, z.1.2.1, z.1.2.2.2, by rw [Nat.zero_add, g1, t1, ← hz2, ← f2]; rfl, ?_⟩
    have f4 := f3
    unfold slP at f4
    rw [f2, hz2] at f4
    exact f4
end Go.Mem
namespace Go.Proofs.YtclhgokchcklbaaGreatDoor
open Go Go.RowKit Go.Mem Gf Lea
set_option linter.unusedVariables false
attribute [local go_sem ↓] Go.wp_at_zero Go.wp_at_succ
attribute [local go_sem ↓] load_key store_key load_cont store_cont build_cont build_cont0
attribute [local go_sem] arrayAt_key ptrB_eq ptrO_eq ptrIs_eq aggL_eq aggIs_eq readK_drew hasK_drew someK_drew readK_alloc_past hasK_alloc_past readK_alloc_in hasK_alloc_in setCells_drew setCells_alloc_past setCells_alloc_at setCells_zero
attribute [local irreducible] contV zeroCont
theorem _root_.Go.Mem.BPs.weak {w : World} {N : Nat → Prop} {ps : List BP} {l : List Blob} (h : BPs w N ps l) : BPs w (fun _ => False) ps l := by
  obtain ⟨q, h1, h2, h3⟩ := h
  exact ⟨q, h1, h2, fun z hz => ⟨(h3 z hz).1, (h3 z hz).2.1, (h3 z hz).2.2.mono fun _ h => h.elim⟩⟩
theorem _root_.Go.Mem.BPs.mono {w : World} {N M : Nat → Prop} {ps : List BP} {l : List Blob} (h : BPs w N ps l) (hM : ∀ b, M b → N b ∨ w.heap.size ≤ b) : BPs w M ps l := by
  obtain ⟨q, h1, h2, h3⟩ := h
  exact ⟨q, h1, h2, fun z hz => ⟨(h3 z hz).1, (h3 z hz).2.1, (h3 z hz).2.2.mono hM⟩⟩
theorem cont_setk {w : World} {p : Nat} {b : Bool} {k k' : List Value} {u : Value} {t : TypeId} (h : Blk w p (contV b k u).toArray t) (hk : k.length = 16) (hk' : k'.length = 16) : Blk (w.setCells p 1 k') p (contV b k' u).toArray t := by
  obtain ⟨arr, g1, g2, g3⟩ := Blk.setCells k' 1 _ _ h
  have hs : (contV b k u).toArray.size = 18 := by simp [contV_len b hk]
  have e : arr = (contV b k' u).toArray := by
    apply Array.ext_getElem?
    intro j
    rcases Nat.lt_or_ge j 18 with hj | hj
    · rw [g3 j (by omega), List.getElem?_toArray, List.getElem?_toArray]
      rcases (by omega : j = 0 ∨ (1 ≤ j ∧ j < 17) ∨ j = 17) with rfl | h1 | rfl
      · rw [if_neg (by omega), contV_0, contV_0]
      · rw [if_pos (by omega)]
        have := contV_k b k' u (i := j - 1) (by omega)
        rw [show j - 1 + 1 = j from by omega] at this
        exact this.symm
      · rw [if_neg (by omega), contV_u b hk, contV_u b hk']
    · rw [Array.getElem?_eq_none (by omega), Array.getElem?_eq_none (by simp [contV_len b hk']; omega)]
  rw [← e]; exact g1
def WithP (w : World) (is : Bool) (k en : Key) (l lv : List Blob) (e : Ending) (w' : World) : Prop :=
  ∃ u l', e = .returned (.agg (contV true (bV (if is then k else en)) u).toArray) ∧ BlAt w' (fun _ => False) u l' ∧ l'.Perm (withA lv l) ∧ (l'.Pairwise fun a b : Blob => a.1 ≤ b.1) ∧ Below w.heap.size w w'
set_option maxRecDepth 100000 in
set_option maxHeartbeats 1000000 in
theorem with_calls (N : Nat → Prop) (w : World) (is : Bool) (k : Key) (u v : Value) (l lv : List Blob) (en : Key) (hk : k.length = 16) (he : en.length = 16) (h : BlAt w (fun _ => False) u l) (hv : BlAt w N v lv) (hv0 : 0 < lv.length) (hv1 : lv.length ≤ 16) (hl16 : l.length ≤ 16) :
    Calls Tryz.prog 128 #[.agg (contV is (bV k) u).toArray, .agg (bV en).toArray, v] w (WithP w is k en l lv) := by
  have hkl : (bV k).length = 16 := by rw [bV_len]; exact hk
  have hu := contV_u is hkl u
  have hcl := contV_len is hkl u
  have hc0 := contV_0 is (bV k) u
  obtain ⟨cc, hcc⟩ : ∃ cc, cc = contV is (bV k) u := ⟨_, rfl⟩
  obtain ⟨ce, hce⟩ : ∃ ce, ce = bV en := ⟨_, rfl⟩
  have hel : ce.length = 16 := by rw [hce, bV_len]; exact he
  rw [← hcc] at hu hcl hc0 ⊢
  rw [← hce]
  have k1 : cutC ce.toArray 0 16 = ce := cutC_all hel
  have ha1 : ∀ v ∈ ce, v.oneCell' = true := fun v hv => by rw [hce] at hv; exact bV_one _ v hv
  have hqa : AllK 16 ce := ⟨hel, ha1⟩
  have hca : AllK 18 (contV true ce (.slice none 0 0)) := ⟨contV_len true hel _, contV_one _ ha1 _ rfl⟩
  have k2 : cutC (contV true ce (.slice none 0 0)).toArray 0 18 = contV true ce (.slice none 0 0) := cutC_all hca.1
  have hcl2 := hca.1
  obtain ⟨va, vc, ps, rfl, hps, hvc⟩ := hv.pairs
  obtain ⟨vb, vo, rfl, hvl, hvn, hcells⟩ := hvc hv0
  have hpl := hps.len
  obtain ⟨n, hn⟩ : ∃ n, n = lv.length := ⟨_, rfl⟩
  rw [← hn] at hv0 hv1 hpl ⊢
  have halll : (allV eP ps).length = n * 2 := by rw [allV_len ecP ps (fun _ _ => trivial), hpl]
  have hnews : ∀ j x, (allV eP ps)[j]? = some x → w.cell? ⟨vb, vo + j, none⟩ = some x := fun j x hj => by
    have hlt := some_lt hj
    rw [halll] at hlt
    have hi : j / 2 < ps.length := by omega
    have hp : ps[j / 2]? = some ps[j / 2] := List.getElem?_eq_getElem hi
    obtain ⟨c1, c2⟩ := hcells _ _ hp
    have e := allV_get ecP ps (fun _ _ => trivial) _ _ hp (j % 2) (by omega)
    rw [show j / 2 * 2 + j % 2 = j from by omega, hj] at e
    rcases (by omega : j % 2 = 0 ∨ j % 2 = 1) with h0 | h0
    · rw [h0] at e
      rw [show vo + j = vo + j / 2 * 2 from by omega, c1, e]; rfl
    · rw [h0] at e
      rw [show vo + j = vo + j / 2 * 2 + 1 from by omega, c2, e]; rfl
  have hall1 : ∀ x ∈ allV eP ps, x.oneCell' = true := allV_news ecP ps
  have H := Lib.hid (And.intro h (And.intro hv (And.intro hcc (And.intro hce hn))))
  have HV := Lib.hid (And.intro hps (And.intro hpl (And.intro hnews (And.intro hvl (And.intro hall1 halll)))))
  clear h hv hcc hce hn hps hpl hcells hnews hvl hall1 halll
  go_enter Tryz.func128, Tryz.ntmps128
  go_upto_region 2 with fail
  obtain ⟨wz, hwz⟩ : ∃ q, q = ((w.alloc (.cells cc.toArray 184)).alloc (.cells ce.toArray 44)).alloc (.cells #[Value.bool false, .int .u8 0, .int .u8 0, .int .u8 0, .int .u8 0, .int .u8 0, .int .u8 0, .int .u8 0, .int .u8 0, .int .u8 0, .int .u8 0, .int .u8 0, .int .u8 0, .int .u8 0, .int .u8 0, .int .u8 0, .int .u8 0, .slice none 0 0] 184) := ⟨_, rfl⟩
  have hwzs : wz.heap.size = w.heap.size + 1 + 1 + 1 := by rw [hwz]; simp
  have hbz : Below w.heap.size w wz := by
    rw [hwz]
    have h1 : Below w.heap.size w (w.alloc (.cells cc.toArray 184)) := (Below.refl _ _).alloc (Nat.le_refl _) _
    have h2 := h1.alloc h1.size (.cells ce.toArray 44)
    exact h2.alloc h2.size _
  have hk3 : Blk wz w.heap.size cc.toArray 184 := by
    rw [hwz]; exact ((Blk.new w cc.toArray 184).alloc (.cells ce.toArray 44)).alloc _
  have hk6 : Blk wz (w.heap.size + 1 + 1) zeroCont.toArray 184 := by
    rw [hwz, ← zeroC]; exact Blk.new_at _ _ _ _ (by simp)
  rw [← hwz]
  have hk7 : Blk (wz.alloc (.cells (contV true ce (.slice none 0 0)).toArray 184)) (w.heap.size + 1 + 1 + 1) (contV true ce (.slice none 0 0)).toArray 184 := Blk.new_at _ _ _ _ hwzs.symm
  have hk3a := hk3.alloc (.cells (contV true ce (.slice none 0 0)).toArray 184)
  have hk6a := hk6.alloc (.cells (contV true ce (.slice none 0 0)).toArray 184)
  have hba := hbz.alloc hbz.size (.cells (contV true ce (.slice none 0 0)).toArray 184)
  obtain ⟨wa, hwa⟩ : ∃ q, q = wz.alloc (.cells (contV true ce (.slice none 0 0)).toArray 184) := ⟨_, rfl⟩
  rw [← hwa] at hk7 hk3a hk6a hba ⊢
  obtain ⟨p3, hp3⟩ : ∃ q, q = w.heap.size := ⟨_, rfl⟩
  obtain ⟨p6, hp6⟩ : ∃ q, q = w.heap.size + 1 + 1 := ⟨_, rfl⟩
  obtain ⟨p7, hp7⟩ : ∃ q, q = w.heap.size + 1 + 1 + 1 := ⟨_, rfl⟩
  have hge : w.heap.size ≤ p3 ∧ p3 < p6 ∧ p6 < p7 := by omega
  rw [← hp7] at hk7 ⊢
  rw [← hp6] at hk6a ⊢
  rw [← hp3] at hk3a ⊢
  have c30 : wa.cell? ⟨p3, 0, none⟩ = some (.bool is) := by rw [hk3a.cell 0]; simpa using hc0
  have c317 : wa.cell? ⟨p3, 17, none⟩ = some u := by rw [hk3a.cell 17]; simpa using hu
  have HB := Lib.hid (And.intro hk3a (And.intro hk6a (And.intro hk7 (And.intro hba hge))))
  have HC := Lib.hid (And.intro hu (And.intro hcl (And.intro hc0 hqa)))
  clear hwz hwzs hbz hk3 hk6 hk7 hk3a hk6a hba hwa hp3 hp6 hp7 hge k1 k2 hcl2 hca hu hcl hc0 hqa ha1
  obtain ⟨cb, hcb⟩ : ∃ c, c = bV k := ⟨_, rfl⟩
  have hbl : cb.length = 16 := by rw [hcb]; exact hkl
  have hb1 : AllK 16 cb := ⟨hbl, fun v hv => by rw [hcb] at hv; exact bV_one _ v hv⟩
  have r3 : readK 16 wa p3 1 = cb := blk_read HB.out.1 hbl fun j hj => by
    rw [H.out.2.2.1, ← hcb, Nat.add_comm]
    simpa using contV_k is cb u (by omega)
  have g3 : HasK 16 wa p3 1 := blk_has HB.out.1 (by simp [HC.out.2.1])
  have g7 : HasK 16 wa p7 1 := blk_has HB.out.2.2.1 (by simp [contV_len true HC.out.2.2.2.1])
  have HCB := Lib.hid hcb
  clear hcb
  obtain ⟨ek, hek⟩ : ∃ q, q = (if is then cb else ce) := ⟨_, rfl⟩
  have hea : AllK 16 ek := by
    rw [hek]
    split
    · exact hb1
    · exact HC.out.2.2.2
  have HEK := Lib.hid hek
  clear hek
  go_upto_if 15 with fail
  go_cut [] (fun wx => Hid (Blk wx p3 cc.toArray 184 ∧ Blk wx p6 zeroCont.toArray 184 ∧ Blk wx p7 (contV true ek (.slice none 0 0)).toArray 184 ∧ Below w.heap.size w wx))
  case first =>
    cases is with
    | false =>
      have e : ek = ce := HEK.out
      subst e
      go_wp2_with fail
      go_meet
      exact ⟨HB.out.1, HB.out.2.1, HB.out.2.2.1, HB.out.2.2.2.1⟩
    | true =>
      have e : ek = cb := HEK.out
      subst e
      go_wp2_with fail
      go_meet
      exact ⟨Blk.setCells_other (fun e => by have := HB.out.2.2.2.2; omega) _ _ _ HB.out.1, Blk.setCells_other (fun e => by have := HB.out.2.2.2.2; omega) _ _ _ HB.out.2.1, cont_setk HB.out.2.2.1 HC.out.2.2.2.1 hb1.1,
        (Chg.setCells (S := fun b => b = p7) (L := p7) rfl _ _ _ (Chg.of_below HB.out.2.2.2.1)).below (Nat.le_refl _) (fun k hk => by rw [hk]; have := HB.out.2.2.2.2; omega)⟩
  case rest =>
  have HW := Lib.hid hcut
  have HGE := Lib.hid HB.out.2.2.2.2
  clear hcut HB c30 c317 r3 g3 g7
  obtain ⟨wx, hwx⟩ : ∃ q, q = wc := ⟨_, rfl⟩
  rw [← hwx] at HW ⊢
  clear hwx
  have c7 : wx.cell? ⟨p7, 17, none⟩ = some (.slice none 0 0) := by rw [HW.out.2.2.1.cell 17]; simpa using contV_u true hea.1 (.slice none 0 0)
  have f7 := HW.out.2.2.1.free 17
  have l7 := HW.out.2.2.1.lt
  go_upto_region 4 with fail
  go_wp2_with (at_builtin; refine appN_own EKb ecP rfl _ _ rfl rfl (L := vb) (off := vo) (n := n) (cap := vc) (l := ps) (fun _ _ => trivial) rfl HV.out.2.1 ?q1 (maxLen_ge (by omega)) (by omega) ?_)
  case q1 =>
    intro j x hj
    have := HV.out.2.2.1 j x hj
    rw [HW.out.2.2.2.cell (p := ⟨vb, vo + j, none⟩) HV.out.2.2.2.1]; exact this
  intro v1 w1 ho1 hb1'
  have hbps1 : BPs w1 (fun b => w.heap.size ≤ b) ps lv := (HV.out.1.mono (M := fun b => w.heap.size ≤ b) (fun b hb => .inr hb)).chg (Chg.of_below (S := fun _ => False) (HW.out.2.2.2.trans (hb1'.mono HW.out.2.2.2.size))) (fun _ h => h.elim)
  obtain ⟨a1, d1, e1⟩ := ho1.slice
  rw [HV.out.2.1] at e1
  subst e1
  have hz1 := hb1'.size
  have hnp : ∀ g, (Value.slice a1 n d1).ownBlock = some g → p7 < g := fun g hg => by have := ho1.ge hg; omega
  have k7' := HW.out.2.2.1.kept hb1'
  have hbw1 := HW.out.2.2.2.trans (hb1'.mono HW.out.2.2.2.size)
  have f7 := k7'.free 17
  have c7b : w1.cell? ⟨p7, 17, none⟩ = some (.slice none 0 0) := by rw [k7'.cell 17]; simpa using contV_u true hea.1 (.slice none 0 0)
  have hg7 : w.heap.size ≤ p7 := by have := HGE.out; omega
  have k72 : Blk (w1.setCell ⟨p7, 17, none⟩ (.slice a1 n d1)) p7 (contV true ek (.slice a1 n d1)).toArray 184 := by
    have := k7'.set 17 (.slice a1 n d1)
    rwa [contV_set true hea.1] at this
  have k62 := (HW.out.2.1.kept hb1').set_other (a := ⟨p7, 17, none⟩) (fun e => by have e' : p7 = p6 := e; have := HGE.out; omega) (.slice a1 n d1)
  have k32 := (HW.out.1.kept hb1').set_other (a := ⟨p7, 17, none⟩) (fun e => by have e' : p7 = p3 := e; have := HGE.out; omega) (.slice a1 n d1)
  have hb2 : Below w.heap.size w (w1.setCell ⟨p7, 17, none⟩ (.slice a1 n d1)) := hbw1.setCell hg7 _
  have hcc : Chg (fun b => b = p7) w1 (w1.setCell ⟨p7, 17, none⟩ (.slice a1 n d1)) := Chg.set (S := fun b => b = p7) (a := ⟨p7, 17, none⟩) (Chg.refl _ _) rfl _
  have ho2 := (ho1.lower (b := p7 + 1) (by omega)).chg hcc (fun g hg e => by have := hnp g hg; have e' : g = p7 := e; omega)
  have hbp2 := hbps1.chg hcc (fun b hb _ => by rw [hb]; exact hg7)
  obtain ⟨w2, hw2⟩ : ∃ q, q = w1.setCell ⟨p7, 17, none⟩ (.slice a1 n d1) := ⟨_, rfl⟩
  have HW2 := Lib.hid hw2
  rw [← hw2] at k72 k62 k32 hb2 ho2 hbp2
  have c37 : w2.cell? ⟨p3, 17, none⟩ = some u := by rw [k32.cell 17]; simpa using HC.out.1
  have H2 := Lib.hid (And.intro ho2 (And.intro hbp2 (And.intro k72 (And.intro k62 (And.intro hb2 k32)))))
  clear hbps1 k7' hb1' ho1 hcc hw2 k72 k62 k32 hb2 ho2 hbp2 c7
  obtain ⟨ua, uc, rfl, huc1, huc2, hrow⟩ := id H.out.1
  obtain ⟨m, hm⟩ : ∃ m, m = l.length := ⟨_, rfl⟩
  rw [← hm] at c37 huc1 hrow
  have hm16 : m ≤ 16 := by omega
  have HM := Lib.hid (And.intro hm hrow)
  clear hm hrow
  go_upto_region 5 with fail
  rw [← HW2.out]
  clear c7b f7
  go_upto_region 6 with fail
  go_loopw [27] (fun vi wr => ∃ (i : Nat) (a : Option Addr) (q d : Nat) (ps' : List BP), i ≤ m ∧ vi = .int .i64 i ∧ q ≤ 16 + i ∧ Hid (OwnG eP WfP 2 41 wr (p7 + 1) (.slice a q d) ps' ∧ BPs wr (fun b => w.heap.size ≤ b) ps' (withA lv (l.take i)) ∧ Blk wr p7 (contV true ek (.slice a q d)).toArray 184 ∧ Blk wr p6 zeroCont.toArray 184 ∧ Below w.heap.size w wr)) (fun vi _ => m - (intOf vi).toNat)
  case atStart => exact ⟨0, a1, n, d1, ps, Nat.zero_le _, rfl, hv1, H2.out.1, H2.out.2.1, H2.out.2.2.1, H2.out.2.2.2.1, H2.out.2.2.2.2.1⟩
  case round =>
    obtain ⟨i, a, q, d, ps', hi0, rfl, hq0, G⟩ := hrel
    by_cases hin : i < m
    · obtain ⟨ub, uo, rfl, hub, _, hcells⟩ := HM.out.2 (by omega)
      have hx : l[i]? = some (l[i]'(by have := HM.out.1; omega)) := by simp
      generalize l[i]'(by have := HM.out.1; omega) = x at hx
      obtain ⟨c1, a', c', c2, hd⟩ := hcells i x hx
      have hbc := fun o => G.out.2.2.2.2.cell (p := ⟨ub, o, none⟩) hub
      rw [← hbc] at c1 c2
      have i0 : (0 : Int) ≤ (i : Int) := by omega
      have i1 : (i : Int) < (m : Int) := by omega
      obtain ⟨z, hz⟩ : ∃ z, z = x.1 := ⟨_, rfl⟩
      obtain ⟨xl, hxl⟩ : ∃ z, z = x.2.length := ⟨_, rfl⟩
      rw [← hz] at c1
      rw [← hxl] at c2 hd
      have HX := Lib.hid (And.intro hx (And.intro hz (And.intro hxl hd)))
      clear hx hz hxl hd hcells hbc
      go_upto_region 8 with fail
      have hk9 : Blk (wr.alloc (.cells #[.int .i64 z, .slice a' xl c'] 41)) wr.heap.size #[.int .i64 z, .slice a' xl c'] 41 := Blk.new _ _ _
      have hb9 : Below wr.heap.size wr (wr.alloc (.cells #[.int .i64 z, .slice a' xl c'] 41)) := (Below.refl _ _).alloc (Nat.le_refl _) _
      have lz := G.out.2.2.1.lt
      obtain ⟨w3, hw3⟩ : ∃ q, q = wr.alloc (.cells #[.int .i64 z, .slice a' xl c'] 41) := ⟨_, rfl⟩
      obtain ⟨p9, hp9⟩ : ∃ q, q = wr.heap.size := ⟨_, rfl⟩
      rw [← hw3] at hk9 hb9 ⊢
      rw [← hp9] at hk9 lz ⊢
      have k73 := G.out.2.2.1.kept hb9
      have hal : AllK 18 (contV true ek (.slice a q d)) := ⟨contV_len true hea.1 _, contV_one _ hea.2 _ rfl⟩
      have r7 : readK 18 w3 p7 0 = contV true ek (.slice a q d) := blk_read0 k73 hal.1
      have h7 : HasK 18 w3 p7 0 := blk_has k73 (by simp [hal.1])
      have hbl : BlAt w3 (fun _ => False) (.slice a q d) (withA lv (l.take i)) := ((G.out.2.1.chg (Chg.of_below (S := fun _ => False) hb9) (fun _ h => h.elim)).weak).blAt (G.out.1.chg (Chg.of_below (S := fun _ => False) hb9) (fun _ _ h => h)) (fun _ _ h => h)
      have c90 : w3.cell? ⟨p9, 0, none⟩ = some (.int .i64 z) := hk9.cell 0
      have H3 := Lib.hid (And.intro hk9 (And.intro hb9 (And.intro k73 hbl)))
      clear hk9 hb9 k73 hbl hw3 c1 c2 hal hp9
      go_wp2_with fail
      refine (cfind_calls w3 true ek (.slice a q d) (withA lv (l.take i)) z hea.1 hea.2 H3.out.2.2.2).mono ?_
      rintro e w4 ⟨fv, ok, rfl, hb4, hf⟩
      have hk94 := H3.out.1.kept hb4
      have k74 := H3.out.2.2.1.kept hb4
      have hb34 := H3.out.2.1.trans (hb4.mono H3.out.2.1.size)
      have c90 : w4.cell? ⟨p9, 0, none⟩ = some (.int .i64 z) := hk94.cell 0
      have c91 : w4.cell? ⟨p9, 1, none⟩ = some (.slice a' xl c') := hk94.cell 1
      have c77 : w4.cell? ⟨p7, 17, none⟩ = some (.slice a q d) := by rw [k74.cell 17]; simpa using contV_u true hea.1 (.slice a q d)
      have f77 := k74.free 17
      have l94 := hk94.lt
      have hown4 := G.out.1.chg (Chg.of_below (S := fun _ => False) hb34) (fun _ _ h => h)
      have hbp4 := G.out.2.1.chg (Chg.of_below (S := fun _ => False) hb34) (fun _ h => h.elim)
      have hbw4 := G.out.2.2.2.2.trans (hb34.mono G.out.2.2.2.2.size)
      have H4 := Lib.hid (And.intro hf (And.intro k74 (And.intro (G.out.2.2.2.1.kept hb34) (And.intro hown4 (And.intro hbp4 hbw4)))))
      have htk : l.take (i + 1) = l.take i ++ [x] := by rw [List.take_add_one, HX.out.1]; rfl
      have HT := Lib.hid htk
      clear hf k74 hk94 hb34 hown4 hbp4 hbw4 hb4 r7 h7 htk
      cases ok with
      | true =>
        have hw : withA lv (l.take (i + 1)) = withA lv (l.take i) := by
          rw [HT.out, withA_snoc, ← HX.out.2.1]
          rcases H4.out.1 with ⟨bs, h1, _⟩ | ⟨_, h2, _⟩
          · rw [h1, if_neg (by simp)]
          · cases h2
        have HWA := Lib.hid hw
        clear hw
        go_wp2_with fail
        refine ⟨⟨i + 1, a, q, d, ps', by omega, by simp, by omega, H4.out.2.2.2.1, ?_, H4.out.2.1, H4.out.2.2.1, H4.out.2.2.2.2.2⟩, by show m - ((i : Int) + 1).toNat < m - (i : Int).toNat; omega⟩
        rw [HWA.out]
        exact H4.out.2.2.2.2.1
      | false =>
        have hw : withA lv (l.take (i + 1)) = withA lv (l.take i) ++ [x] := by
          rw [HT.out, withA_snoc, ← HX.out.2.1]
          rcases H4.out.1 with ⟨bs, _, h2, _⟩ | ⟨h1, _, _⟩
          · cases h2
          · rw [h1, if_pos rfl]
        have HWA := Lib.hid hw
        clear hw
        have hplen : ps'.length = q := by
          obtain ⟨_, _, e⟩ := H4.out.2.2.2.1.slice
          injection e with _ e _
          exact e.symm
        have HPL := Lib.hid hplen
        clear hplen
        go_wp2_with (at_builtin; refine appG_own EKb ecP rfl _ _ rfl (base := p7 + 1) (l := ps') (z, a', xl, c') trivial rfl (mb := w4.heap.size) (cx := 1) rfl (show Blk _ _ (eP (z, a', xl, c')).toArray _ from Blk.new _ _ _) (H4.out.2.2.2.1.chg (Chg.of_below (S := fun _ => False) ((Below.refl _ _).alloc (Nat.le_refl _) _)) (fun _ _ h => h)) ?z1 (by decide) ?z2 ?_)
        case z1 => rw [HPL.out]; omega
        case z2 => simp; omega
        intro v5 w5 ho5 hg5 hn5
        obtain ⟨a5, d5, e5⟩ := ho5.slice
        rw [List.length_append, HPL.out] at e5
        have hg9 : w.heap.size ≤ w4.heap.size := H4.out.2.2.2.2.2.size
        have hlo := fun g hg => (H4.out.2.2.2.1.ge (g := g) hg)
        have hcc : Chg (fun b => (Value.slice a q d).ownBlock = some b) w4 w5 := Chg.grown (S := fun b => (Value.slice a q d).ownBlock = some b) (Chg.of_below ((Below.refl _ _).alloc (Nat.le_refl _) _)) hg5 (fun _ hq => .inl hq)
        have k75 : Blk w5 p7 (contV true ek (.slice a q d)).toArray 184 := hcc.blk H4.out.2.1 (fun e => by have := hlo p7 e; omega)
        have k65 : Blk w5 p6 zeroCont.toArray 184 := hcc.blk H4.out.2.2.1 (fun e => by have := hlo p6 e; have := HGE.out; omega)
        have hb5 : Below w.heap.size w w5 := ((Chg.of_below (S := fun k => w.heap.size ≤ k) H4.out.2.2.2.2.2).mix hcc (fun k hk => .inl (by have := hlo k hk; have := HGE.out; omega))).below (Nat.le_refl _) (fun _ h => h)
        have hbp5 : BPs w5 (fun b => w.heap.size ≤ b) (ps' ++ [(z, a', xl, c')]) (withA lv (l.take (i + 1))) := by
          rw [HWA.out]
          refine (H4.out.2.2.2.2.1.chg hcc (fun b hb _ => by have := hlo b hb; have := HGE.out; omega)).app (BPs.one (by rw [← HX.out.2.1]) HX.out.2.2.1 ?_)
          exact (HX.out.2.2.2.mono (M := fun b => w.heap.size ≤ b) (fun b hb => .inr hb)).chg (Chg.of_below (S := fun _ => False) hb5) (fun _ h => h.elim)
        have f75 := k75.free 17
        have c75 : w5.cell? ⟨p7, 17, none⟩ = some (.slice a q d) := by rw [k75.cell 17]; simpa using contV_u true hea.1 (.slice a q d)
        have H5 := Lib.hid (And.intro ho5 (And.intro k75 (And.intro k65 (And.intro hb5 hbp5))))
        clear ho5 hg5 hn5 hlo hcc k75 k65 hb5 hbp5
        subst e5
        go_wp2_with fail
        have hcs : Chg (fun b => b = p7) w5 (w5.setCell ⟨p7, 17, none⟩ (.slice a5 (q + 1) d5)) := Chg.set (S := fun b => b = p7) (a := ⟨p7, 17, none⟩) (Chg.refl _ _) rfl _
        refine ⟨⟨i + 1, a5, q + 1, d5, _, by omega, by simp, by omega, H5.out.1.chg hcs (fun g hg e => by have := H5.out.1.ge hg; have e' : g = p7 := e; omega), H5.out.2.2.2.2.chg hcs (fun b hb _ => by rw [hb]; have := HGE.out; omega), ?_, H5.out.2.2.1.set_other (fun e => by have e' : p7 = p6 := e; have := HGE.out; omega) _, H5.out.2.2.2.1.setCell hg7 _⟩, by show m - ((i : Int) + 1).toNat < m - (i : Int).toNat; omega⟩
        have := H5.out.2.1.set 17 (.slice a5 (q + 1) d5)
        rwa [contV_set true hea.1] at this
    · obtain rfl : i = m := by omega
      have hfull : l.take i = l := List.take_of_length_le (by have := HM.out.1; omega)
      have k7r := G.out.2.2.1
      have c7r : wr.cell? ⟨p7, 17, none⟩ = some (.slice a q d) := by rw [k7r.cell 17]; simpa using contV_u true hea.1 (.slice a q d)
      have hplen : ps'.length = q := by
        obtain ⟨_, _, e⟩ := G.out.1.slice
        injection e with _ e _
        exact e.symm
      have hps := psort_calls wr p7 (p7 + 1) a q d ps' (contV true ek (.slice a q d)).toArray G.out.1 k7r (by simpa using contV_u true hea.1 (.slice a q d)) (fun e => by have := G.out.1.ge e; omega) (by omega)
      have HPS := Lib.hid (And.intro hps hfull)
      clear hps hfull hplen k7r
      go_wp2_with fail
      refine HPS.out.1.mono ?_
      rintro e w6 ⟨rfl, pl, ho6, hperm, hsort, hc6⟩
      have hlo := fun g hg => G.out.1.ge (g := g) hg
      have hbp6 := G.out.2.1.chg hc6 (fun b hb _ => by have := hlo b hb; have := HGE.out; omega)
      rw [HPS.out.2] at hbp6
      obtain ⟨lr, hbr, hpr, hsr⟩ := hbp6.perm hperm hsort
      have k76 := hc6.blk G.out.2.2.1 (fun e => by have := hlo p7 e; omega)
      have k66 := hc6.blk G.out.2.2.2.1 (fun e => by have := hlo p6 e; have := HGE.out; omega)
      have hb6 : Below w.heap.size w w6 := ((Chg.of_below (S := fun k => w.heap.size ≤ k) G.out.2.2.2.2).mix hc6 (fun k hk => .inl (by have := hlo k hk; have := HGE.out; omega))).below (Nat.le_refl _) (fun _ h => h)
      have hal : AllK 18 (contV true ek (.slice a q d)) := ⟨contV_len true hea.1 _, contV_one _ hea.2 _ rfl⟩
      have r7 : readK 18 w6 p7 0 = contV true ek (.slice a q d) := blk_read0 k76 hal.1
      have h7 : HasK 18 w6 p7 0 := blk_has k76 (by simp [hal.1])
      have h6 : HasK 18 w6 p6 0 := blk_has k66 (by simp [zeroA.1])
      have HLD := Lib.hid (cont_stored h6 hal)
      have H6 := Lib.hid (And.intro ho6 (And.intro hbr (And.intro hpr (And.intro hsr (And.intro hb6 hal)))))
      clear ho6 hperm hsort hc6 hlo hbp6 hbr hpr hsr k76 k66 hb6
      go_wp2_with fail
      have hc7 : Chg (fun b => b = p6) w6 (w6.setCells p6 0 (contV true ek (.slice a q d))) := Chg.setCells (S := fun b => b = p6) (L := p6) rfl _ _ _ (Chg.refl _ _)
      refine bodyPost_ret (v := .agg (contV true ek (.slice a q d)).toArray) (by simp [results, Tryz.results128, asAddr, HLD.out]) rfl ⟨.slice a q d, lr, ?_, ?_, H6.out.2.2.1, H6.out.2.2.2.1, ?_⟩
      · rw [HEK.out, HCB.out, H.out.2.2.2.1]
        cases is <;> rfl
      · exact (H6.out.2.1.chg hc7 (fun b hb _ => by rw [hb]; have := HGE.out; omega)).weak.blAt (H6.out.1.chg hc7 (fun g hg e => by have := H6.out.1.ge hg; have e' : g = p6 := e; have := HGE.out; omega)) (fun _ _ h => h)
      · exact ((Chg.of_below (S := fun k => w.heap.size ≤ k) H6.out.2.2.2.2.1).mix hc7 (fun k hk => .inl (by rw [hk]; have := HGE.out; omega))).below (Nat.le_refl _) (fun _ h => h)
end Go.Proofs.YtclhgokchcklbaaGreatDoor
end
