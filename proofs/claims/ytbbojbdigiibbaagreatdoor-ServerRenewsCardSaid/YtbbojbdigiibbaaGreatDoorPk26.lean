/- Texts of this proof, packed: SrvTell, SrvOne, SrvWake, SrvTickL. -/
import Derived.Test.YtbbojbdigiibbaaGreatDoorPk23
import Derived.Test.YtbbojbdigiibbaaGreatDoorPk25
section
namespace Go.Proofs.YtbbojbdigiibbaaGreatDoor
open Go Go.RowKit Go.Mem Gf Lea
set_option linter.unusedVariables false
attribute [local irreducible] RF.V zk reqV
attribute [local go_sem ↓] Go.wp_at_zero Go.wp_at_succ
attribute [local go_sem ↓] load_key build_req_ct
attribute [local go_sem] Value.oneCell' reqOf reqFit List.foldl_cons List.foldl_nil List.all_cons List.all_nil rfs0 rfs1 rfs2 rfs3 rfs4 rfs5 rfs6 rfz ok0 ok1 ok2 ok3 ok4 ok5 ok6
attribute [local go_sem] ptrB_eq ptrO_eq ptrIs_eq aggL_eq aggIs_eq readK_drew hasK_drew readK_alloc_past hasK_alloc_past readK_alloc_in hasK_alloc_in
section
variable {w0 w : World} {C : Nat → Prop} {pb : Nat} {s : SrvS}
def askV (k : Int) (ix : Key) : Req := ⟨k, ix, z16, 0, z16, .slice none 0 0, .slice none 0 0⟩
theorem askV_wf (k : Int) {ix : Key} (h : ix.length = 16) : (askV k ix).Wf := ⟨h, by show z16.length = 16; decide, by show z16.length = 16; decide⟩
unseal RF.V zk reqV in
theorem askV_eq (k : Int) (ix : Key) : RF.V ⟨.int .i64 k, bV ix, zk, .int .i64 0, zk, .slice none 0 0, .slice none 0 0⟩ = reqV (askV k ix) := rfl
theorem fld_reply0 (a b : Value) (w : World) : (Instr.field 43 (.agg #[a, b]) 0).run Tryz.prog w = .ok a w := by kernel_rfl
theorem fld_reply1 (a b : Value) (w : World) : (Instr.field 43 (.agg #[a, b]) 1).run Tryz.prog w = .ok b w := by kernel_rfl
attribute [local go_sem] fld_reply0 fld_reply1
set_option maxRecDepth 100000 in
set_option maxHeartbeats 1000000 in
theorem SrvL.shares (h : SrvL w0 w C pb s) (hd : s.dead = false) (hB : SrvB s) (ix : Key) (hix : ix.length = 16) :
    Calls Tryz.prog 23 #[.pointer (some ⟨pb, 0, none⟩), .agg (bV ix).toArray] w fun e w' => ∃ u, e = .returned u ∧ OwnBl 53 w' w.heap.size (fun b => b < w.heap.size) u (s.shares ix) ∧ Below w.heap.size w w' := by
  have hb0 : Below w.heap.size w (w.alloc (.cells (bV ix).toArray 39)) := (Below.refl _ _).alloc (Nat.le_refl _) _
  obtain ⟨ck, hck⟩ : ∃ c, c = bV ix := ⟨_, rfl⟩
  have k1 : cutC ck.toArray 0 16 = ck := by rw [hck]; exact (key_in hix).1
  have k2 : ck.length = 16 := by rw [hck, bV_len]; exact hix
  rw [← hck] at hb0 ⊢
  have H := Lib.hid (And.intro h (And.intro hd (And.intro hB (And.intro hck (And.intro hix hb0)))))
  clear h hd hB hck hix hb0
  go_enter Tryz.func23, Tryz.ntmps23
  go_wp2_with fail
  rw [show RF.V ⟨.int .i64 1, ck, zk, .int .i64 0, zk, .slice none 0 0, .slice none 0 0⟩ = reqV (askV 1 ix) from by rw [H.out.2.2.2.1]; exact askV_eq 1 ix]
  refine ((H.out.1.step H.out.2.2.2.2.2).get H.out.2.1 H.out.2.2.1 (askV_wf 1 H.out.2.2.2.2.1) rfl).mono ?_
  rintro e w2 ⟨u, rfl, hO, hb2⟩
  obtain ⟨ua, uc, rfl, _⟩ := hO.slice
  obtain ⟨un, hun⟩ : ∃ n, n = (s.shares (askV 1 ix).ix).length := ⟨_, rfl⟩
  rw [← hun] at hO ⊢
  have HUN := Lib.hid hun
  clear hun
  have HR := Lib.hid (And.intro (ownBl_weak (base' := w.heap.size) (M := fun b => b < w.heap.size) hO (by simp) (fun b hb => .inl (by simp; omega))) (H.out.2.2.2.2.2.trans (hb2.mono (by simp))))
  clear hO hb2
  go_wp2_with fail
  go_ret
  exact ⟨_, rfl, HR.out.1, HR.out.2⟩
set_option maxRecDepth 100000 in
set_option maxHeartbeats 1000000 in
theorem SrvL.living (h : SrvL w0 w C pb s) (hB : SrvB s) (ix : Key) (hix : ix.length = 16) (now : Int) :
    Calls Tryz.prog 26 #[.pointer (some ⟨pb, 0, none⟩), .agg (bV ix).toArray, .int .i64 now] w fun e w' => ∃ b, e = .returned (.bool b) ∧ (b = true ↔ Lives s.tab ix now) ∧ Below w.heap.size w w' := by
  obtain ⟨sb, lb, d, L, tb, v, hA⟩ := h.srv
  have hb0 : Below w.heap.size w (w.alloc (.cells (bV ix).toArray 39)) := (Below.refl _ _).alloc (Nat.le_refl _) _
  have hk0 : Blk (w.alloc (.cells (bV ix).toArray 39)) w.heap.size (bV ix).toArray 39 := Blk.new _ _ _
  have hA0 := hA.below hb0
  have hlc := living_calls (w.alloc (.cells (bV ix).toArray 39)).drew tb v s.tab ix now (hA.heap.tab.below (hb0.drew)) (by have := hB.tab; omega) hix (by have := hA.good.few ix; omega)
  obtain ⟨ck, hck⟩ : ∃ c, c = bV ix := ⟨_, rfl⟩
  have k2 : ck.length = 16 := by rw [hck, bV_len]; exact hix
  have hu16 := Tryz.underlying39
  have hi16 : (Tryz.prog.info? 39).map (·.size) = some ck.length := by rw [k2]; exact i16
  rw [← hck] at hb0 hk0 hA0 hlc ⊢
  clear hck
  obtain ⟨wa, hwa⟩ : ∃ q, q = w.alloc (.cells ck.toArray 39) := ⟨_, rfl⟩
  obtain ⟨p4, hp4⟩ : ∃ q, q = w.heap.size := ⟨_, rfl⟩
  rw [← hwa] at hb0 hk0 hA0 hlc
  rw [← hp4] at hk0
  have H := Lib.hid (And.intro hb0 (And.intro hk0 (And.intro hA0 (And.intro hlc hp4))))
  have HW := Lib.hid hwa
  have c4 : wa.drew.cell? ⟨pb, 4, none⟩ = some (.pointer (some ⟨tb, 0, none⟩)) := hA0.blk.cell 4
  have r4 : wa.drew.rangeAt p4 0 ck := fun j v hj => by
    rw [(hk0.drew).cell, Nat.zero_add]
    simpa using hj
  clear h hB hb0 hk0 hA0 hlc hwa hp4 hA
  go_enter Tryz.func26, Tryz.ntmps26
  go_upto_region 1 with fail
  rw [← HW.out, ← H.out.2.2.2.2]
  go_region_held3 (fun w' => w'.cell? ⟨pb, 4, none⟩ = some (.pointer (some ⟨tb, 0, none⟩)) ∧ w'.rangeAt p4 0 ck) (first | exact ⟨c4, r4⟩ | with_reducible assumption)
    (first
      | (go_at_call 50
         refine H.out.2.2.2.1.mono ?_
         rintro e w2 ⟨b, rfl, hb, hb2⟩
         have hb2 : Below wa.heap.size wa w2 := of_drew hb2
         have hh : w2.cell? ⟨pb, 4, none⟩ = some (.pointer (some ⟨tb, 0, none⟩)) ∧ w2.rangeAt p4 0 ck := ⟨(H.out.2.2.1.below hb2).blk.cell 4, fun j v hj => by
           rw [(H.out.2.1.kept hb2).cell, Nat.zero_add]
           simpa using hj⟩
         have HB := Lib.hid (And.intro hb (H.out.1.trans (hb2.mono H.out.1.size)))
         clear hb hb2))
  go_wp2_with fail
  go_ret
  exact ⟨b, rfl, HB.out.1, HB.out.2⟩
set_option maxRecDepth 100000 in
theorem SrvL.stop (h : SrvL w0 w C pb s) (x y : Int) (hx : x ≤ 9223372036854775807) :
    Calls Tryz.prog 28 #[.pointer (some ⟨pb, 0, none⟩), .int .i64 x, .int .i64 y] w fun e w' => e = .returned (.tuple #[]) ∧ SrvL w0 w' C pb { s with st := { s.st with disk := s.st.disk.stop x y } } ∧ SChg C C w w' := by
  obtain ⟨sb, lb, d, L, tb, v, hA⟩ := h.srv
  have c2 : w.cell? ⟨pb, 2, none⟩ = some (.pointer (some ⟨d, 0, none⟩)) := hA.blk.cell 2
  have H := Lib.hid (And.intro h (And.intro hA hx))
  clear h hA hx
  go_enter Tryz.func28, Tryz.ntmps28
  go_wp2_with fail
  refine (dstop_calls d L s.st.disk x y w H.out.2.1.st.disk H.out.2.2).mono ?_
  rintro e w1 ⟨rfl, hD, hc⟩
  have HD := Lib.hid (And.intro hD hc)
  clear hD hc
  go_wp2_with fail
  go_end0
  have hc' : Chg (DL d L) w w1 := HD.out.2.mono (fun k hk => .inl hk)
  have hcF : Chg (Foot sb lb d L) w w1 := HD.out.2.mono (fun k hk => .inr (.inr (.inl hk)))
  have hS := SrvAt.store H.out.2.1 hcF (H.out.2.1.st.redisk hc' HD.out.1 rfl (Nat.le_refl _) H.out.2.1.st.ok.few)
  have hsc : SChg C C w w1 := ⟨hcF.mono H.out.2.1.foot, fun b hb => .inl hb⟩
  exact ⟨rfl, H.out.1.sch ⟨_, _, _, _, _, _, hS⟩ hsc, hsc⟩
end
end Go.Proofs.YtbbojbdigiibbaaGreatDoor
end
section
namespace Lea
theorem AddR.none {l l' : List Les} {ix sec : Key} {e : Int} {b : Bool} (hl : ofL l ix = []) (he : May e) (h : AddR l ix sec e b l') : b = true ∧ l'.Perm (l ++ [⟨ix, sec, e⟩]) := by
  have hno : ∀ x ∈ l, x.ix ≠ ix := ofL_nil.1 hl
  cases h with
  | no h =>
    rcases h with h | ⟨_, h⟩
    · exact absurd he h
    · rw [hl] at h; simp at h
  | more k x _ _ hx h1 _ _ => exact absurd h1 (hno x (List.mem_of_getElem? hx))
  | new _ _ _ _ hp => exact ⟨rfl, hp⟩
theorem AddR.again {l l' : List Les} {ix sec : Key} {e e0 : Int} {b : Bool} (hl : l.Perm [⟨ix, sec, e0⟩]) (he : May e) (h : AddR l ix sec e b l') : b = true ∧ l'.Perm [⟨ix, sec, max e0 e⟩] := by
  have h1 := List.perm_singleton.1 hl
  subst h1
  cases h with
  | no h =>
    rcases h with h | ⟨h, _⟩
    · exact absurd he h
    · exact absurd ⟨rfl, rfl⟩ (h _ (List.mem_singleton.2 rfl))
  | more k x _ _ hx _ _ hp =>
    cases k with
    | zero =>
      simp at hx
      subst hx
      exact ⟨rfl, hp⟩
    | succ k => simp at hx
  | new _ _ hk _ _ => exact absurd ⟨rfl, rfl⟩ (hk _ (List.mem_singleton.2 rfl))
theorem OfR.one {l : List Les} {ix sec : Key} {e : Int} {out : List Sec} (hl : l.Perm [⟨ix, sec, e⟩]) (h : OfR l ix out) : out = [(sec, e)] := by
  have h1 := List.perm_singleton.1 hl
  subst h1
  have h2 := h.perm
  unfold ofL at h2
  simp at h2
  exact h2
end Lea
namespace Go.Mem
open Go Go.RowKit Gf Lea Go.Proofs.YtbbojbdigiibbaaGreatDoor
theorem freeN_live {m : Nat} {s : SrvS} (h : SrvG m s) : liveN s.st.recs + s.st.freeN = s.st.recs.length := by
  have := free_live s.st.recs
  unfold St.freeN
  rw [if_neg (by simp [h.st.dead])]
  exact this
theorem live_le {l : List Sto.Rec} (ht : Sto.slot l < l.length) (name : ByteArray) (data : List UInt8) : liveN (putF l name data) ≤ liveN l + 1 := putF_live ht name data
theorem lease_fits {room : Nat} (hr : 8 ≤ room) {ix : Key} (hix : ix.length = 16) {sec : Key} (hs : sec.length = 16) (e : Int) : fitsB room (leaseN ix) (packL [(sec, e)]) = true := by
  have h1 := lease_size ix hix
  have h2 := packL_len [(sec, e)] (fun s hs' => by rw [List.mem_singleton.1 hs']; exact hs)
  simp only [List.length_singleton] at h2
  exact fits_of (by omega) (by omega) (by omega)
theorem SrvG.add_one {m : Nat} {s : SrvS} (h : SrvG m s) (hm : m < 1000000) {ix sec : Key} (hix : ix.length = 16) (hsec : sec.length = 16) {e E : Int} (hroom : 8 ≤ s.room) (hlive : liveN s.st.recs + 1 ≤ s.st.recs.length) (hE : ∀ b l2, AddR s.tab ix sec e b l2 → b = true ∧ l2.Perm [⟨ix, sec, E⟩]) {err : Int} {s' : SrvS} (hl : AddSrv s ix sec e err s') :
    (err = 0 ∧ SrvG (m + 1) s' ∧ s'.tab.Perm [⟨ix, sec, E⟩] ∧ (∀ nm, Sto.look s'.st.recs nm = upd (Sto.look s.st.recs) (leaseN ix) (some (packL [(sec, E)])) nm) ∧ s'.st.disk.stops = s.st.disk.stops) ∨
    (err = 8 ∧ s.st.disk.stops = true ∧ ∃ l, SrvX (m + 1) s' l ∧ ((∀ nm, Sto.look l nm = Sto.look s.st.recs nm) ∨ ∀ nm, Sto.look l nm = upd (Sto.look s.st.recs) (leaseN ix) (some (packL [(sec, E)])) nm)) := by
  have hl0 := hl
  rcases h.add hm hix hsec hl with ⟨_, _, ha⟩ | ⟨l2, out, ha, hR, h0, hc⟩
  · have := (hE _ _ ha).1; cases this
  · have hp := (hE _ _ ha).2
    have ho := OfR.one hp hR
    subst ho
    rcases hc with ⟨h1, h2, h3, h4, h5⟩ | ⟨h1, h2⟩ | h1
    · exact .inl ⟨h1, h2, by rw [h3]; exact hp, h4, h5⟩
    · exfalso
      have hfit := lease_fits (room := s.st.room) (by rw [← h.room]; exact hroom) hix hsec E
      have hslot : Sto.slot s.st.recs < s.st.recs.length := slot_of_live (by omega)
      cases hl0 with
      | full ha' => have := (hE _ _ ha').1; cases this
      | laid l3 _ _ ha' hy =>
        obtain ⟨out', hR', herr, _⟩ := hy
        have ho' := OfR.one (hE _ _ ha').2 hR'
        subst ho'
        have e0 : layR s ix [(sec, E)] = putR s.st (leaseN ix) (packL [(sec, E)]) := by unfold layR; rw [if_neg (by simp)]
        rw [e0] at herr
        have hok : RecOk (leaseN ix) (packL [(sec, E)]) := RecOk.lease ix _ hix (ofR_leOk (ha'.wf h.wf hix hsec) (ha'.good h.good) hR' (by simp))
        have hput := h.st.put hm hok
        generalize putR s.st (leaseN ix) (packL [(sec, E)]) = R at hput herr
        cases hput with
        | arg h' => rw [hfit] at h'; cases h'
        | full _ h' => omega
        | done _ _ _ _ _ _ _ => simp only at herr; omega
        | torn _ _ _ _ _ _ _ _ _ _ => simp only at herr; omega
    · exact .inr h1
theorem SrvG.put_one {m : Nat} {s : SrvS} (h : SrvG m s) (hm : m + 1 < 1000000) {r : Req} (hr : r.Wf) {n : Nat} {data : List UInt8} (hn : n < 16) (hme : May r.ends) (hd : data.length ≤ 200) (hg : Sto.look s.st.recs (shareN r.ix n) = none) (hroom : 8 ≤ s.room) (hlive : liveN s.st.recs + 2 ≤ s.st.recs.length) {E : Int}
    (hE : ∀ b l2, AddR s.tab r.ix r.sec r.ends b l2 → b = true ∧ l2.Perm [⟨r.ix, r.sec, E⟩]) {err : Int} {s' : SrvS} (hp : PutSh s r [((n : Int), data)] err s') :
    (err = 0 ∧ SrvG (m + 2) s' ∧ s'.tab.Perm [⟨r.ix, r.sec, E⟩] ∧ (∀ nm, Sto.look s'.st.recs nm = upd (upd (Sto.look s.st.recs) (shareN r.ix n) (some data)) (leaseN r.ix) (some (packL [(r.sec, E)])) nm) ∧ s'.st.disk.stops = s.st.disk.stops ∧ s'.slots = s.slots ∧ s'.room = s.room ∧ liveN s'.st.recs ≤ liveN s.st.recs + 2) ∨
    (err = 8 ∧ s.st.disk.stops = true ∧ s'.slots = s.slots ∧ s'.room = s.room ∧ ∃ f : Look, SrvT (m + 2) s' f ∧ ((∀ nm, f nm = Sto.look s.st.recs nm) ∨ (∀ nm, f nm = upd (Sto.look s.st.recs) (shareN r.ix n) (some data) nm) ∨ ∀ nm, f nm = upd (upd (Sto.look s.st.recs) (shareN r.ix n) (some data)) (leaseN r.ix) (some (packL [(r.sec, E)])) nm)) := by
  have hfit : fitsB s.st.room (shareN r.ix n) data = true := fits_of (by rw [share_size _ _ hr.ix]; omega) (by omega) (by rw [share_size _ _ hr.ix, ← h.room]; omega)
  have hlf := lease_fits (room := s.st.room) (by rw [← h.room]; exact hroom) hr.ix hr.sec E
  have hfl := freeN_live h
  have hslot : Sto.slot s.st.recs < s.st.recs.length := slot_of_live (by omega)
  have hget : s.st.get (shareN r.ix n) = none := by rw [h.get, hg]
  have hask : ∀ err', AskR s r.ix r.sec r.ends (shareN r.ix n) data false err' → err' = 0 := fun err' ha => by
    obtain ⟨b, l2, out, ha1, ha2, rfl⟩ := ha
    obtain ⟨rfl, hp2⟩ := hE _ _ ha1
    have ho := OfR.one hp2 (ha2 rfl)
    subst ho
    rw [if_neg (by simp; omega), if_neg (by simp [hfit, hlf])]
  have hnl : ∀ ix, shareN r.ix n ≠ leaseN ix := fun ix => share_lease
  have hok : RecOk (shareN r.ix n) data := RecOk.share r.ix n data hr.ix hn (by omega)
  cases hp with
  | form h' => exact absurd ⟨rfl, ⟨⟨fun x hx => by rw [List.mem_singleton.1 hx]; simp; omega, by simp⟩, hme⟩⟩ h'
  | no n' data' _ hl hn' hm' ha h0 =>
    simp only [List.cons.injEq, Prod.mk.injEq, and_true] at hl
    obtain ⟨e1, rfl⟩ := hl
    have e1 : n = n' := by omega
    subst e1
    rw [hget] at ha
    exact absurd (hask _ ha) h0
  | torn n' data' hl hn' hm' hg' ha h0 =>
    simp only [List.cons.injEq, Prod.mk.injEq, and_true] at hl
    obtain ⟨e1, rfl⟩ := hl
    have e1 : n = n' := by omega
    subst e1
    rcases h.put (by omega) hok hnl with ⟨h1, _⟩ | ⟨h1, _⟩ | ⟨h1, h2, l, h3, h4⟩
    · exact absurd h1 h0
    · exfalso
      have hput := h.st.put (by omega) hok
      generalize putR s.st (shareN r.ix n) data = R at hput h1
      cases hput with
      | arg h' => rw [hfit] at h'; cases h'
      | full _ h' => omega
      | done _ _ _ _ _ _ _ => simp only at h1; omega
      | torn _ _ _ _ _ _ _ _ _ _ => simp only at h1; omega
    · refine .inr ⟨h1, h2, rfl, rfl, Sto.look l, .inr ⟨l, h3.le (by omega), fun _ => rfl⟩, ?_⟩
      rcases h4 with h4 | h4
      · exact .inl h4
      · exact .inr (.inl h4)
  | put n' data' _ _ hl hn' hm' hg' ha h0 hs =>
    simp only [List.cons.injEq, Prod.mk.injEq, and_true] at hl
    obtain ⟨e1, rfl⟩ := hl
    have e1 : n = n' := by omega
    subst e1
    rcases h.put (by omega) hok hnl with ⟨h1, h2, h3, h4⟩ | ⟨h1, _⟩ | ⟨h1, _⟩
    · have hrec : (putR s.st (shareN r.ix n) data).2.recs = putF s.st.recs (shareN r.ix n) data := by
        have hput := h.st.put (m := m) (by omega) hok
        generalize putR s.st (shareN r.ix n) data = R at hput h0
        cases hput with
        | arg h' => rw [hfit] at h'; cases h'
        | full _ h' => omega
        | done _ _ _ hr' _ _ _ => exact hr'
        | torn _ _ _ _ _ _ _ _ _ _ => simp only at h0; omega
      have hlv := live_le hslot (shareN r.ix n) data
      have hln := putF_len s.st.recs (shareN r.ix n) data
      have hlv2 : liveN (putR s.st (shareN r.ix n) data).2.recs + 1 ≤ (putR s.st (shareN r.ix n) data).2.recs.length := by rw [hrec, hln]; omega
      have hslots : s'.slots = s.slots ∧ s'.room = s.room ∧ (err = 0 → liveN s'.st.recs ≤ liveN (putR s.st (shareN r.ix n) data).2.recs + 1) := by
        cases hs with
        | full _ => exact ⟨rfl, rfl, fun _ => Nat.le_succ _⟩
        | laid l2 _ _ ha2 hy =>
          obtain ⟨out, hR, herr, hs'⟩ := hy
          have h0' : out.length ≠ 0 := fun e => ha2.ne (hR.nil_iff.1 (List.eq_nil_of_length_eq_zero e))
          have e0 : layR { s with st := (putR s.st (shareN r.ix n) data).2 } r.ix out = putR (putR s.st (shareN r.ix n) data).2 (leaseN r.ix) (packL out) := by unfold layR; rw [if_neg h0']
          rw [e0] at hs' herr
          have hlr : (putR (putR s.st (shareN r.ix n) data).2 (leaseN r.ix) (packL out)).1 = 0 → liveN (putR (putR s.st (shareN r.ix n) data).2 (leaseN r.ix) (packL out)).2.recs ≤ liveN (putR s.st (shareN r.ix n) data).2.recs + 1 := by
            have hR2 := List.perm_singleton.1 (hE _ _ ha2).2
            have hput := h2.st.put (m := m + 1) hm (RecOk.lease r.ix out hr.ix (ofR_leOk (ha2.wf h2.wf hr.ix hr.sec) (ha2.good h2.good) hR (fun e => h0' (by rw [e]; rfl))))
            generalize hq : (putR s.st (shareN r.ix n) data).2 = st1 at *
            have hpr := hput
            generalize putR st1 (leaseN r.ix) (packL out) = R at hput
            cases hput with
            | arg h' => exact fun _ => Nat.le_succ _
            | full _ h' => exact fun _ => Nat.le_succ _
            | done _ _ hsl hr' _ _ _ => intro _; show liveN _ ≤ _; rw [hr']; exact live_le hsl _ _
            | torn _ _ _ _ _ _ _ _ _ _ => intro h; simp only at h; omega
          split at hs'
          · rw [hs', herr]; exact ⟨rfl, rfl, hlr⟩
          · rw [hs', herr]; exact ⟨rfl, rfl, hlr⟩
      rcases h2.add_one hm hr.ix hr.sec hroom hlv2 hE hs with ⟨a1, a2, a3, a4, a5⟩ | ⟨a1, a2, l, a3, a4⟩
      · have hnm : ∀ nm, Sto.look s'.st.recs nm = upd (upd (Sto.look s.st.recs) (shareN r.ix n) (some data)) (leaseN r.ix) (some (packL [(r.sec, E)])) nm := fun nm => by
          rw [a4]
          unfold upd
          split
          · rfl
          · exact h3 nm
        exact .inl ⟨a1, a2, a3, hnm, a5.trans h4, hslots.1, hslots.2.1, by have := hslots.2.2 a1; rw [hrec] at this; omega⟩
      · refine .inr ⟨a1, by rw [← h4]; exact a2, hslots.1, hslots.2.1, Sto.look l, .inr ⟨l, a3, fun _ => rfl⟩, ?_⟩
        rcases a4 with a4 | a4
        · exact .inr (.inl fun nm => by rw [a4]; exact h3 nm)
        · refine .inr (.inr fun nm => ?_)
          rw [a4]
          unfold upd
          split
          · rfl
          · exact h3 nm
    · omega
    · omega
  | there n' data' _ _ hl hn' hm' hg' ha hs =>
    simp only [List.cons.injEq, Prod.mk.injEq, and_true] at hl
    obtain ⟨e1, rfl⟩ := hl
    have e1 : n = n' := by omega
    subst e1
    rw [hget] at hg'
    cases hg'
theorem SrvG.put_there {m : Nat} {s : SrvS} (h : SrvG m s) (hm : m < 1000000) {r : Req} (hr : r.Wf) {n : Nat} {data x : List UInt8} (hn : n < 16) (hme : May r.ends) (hd : data.length ≤ 200) (hg : Sto.look s.st.recs (shareN r.ix n) = some x) (hroom : 8 ≤ s.room) (hlive : liveN s.st.recs + 1 ≤ s.st.recs.length) (hst : s.st.disk.stops = false) {E : Int}
    (hE : ∀ b l2, AddR s.tab r.ix r.sec r.ends b l2 → b = true ∧ l2.Perm [⟨r.ix, r.sec, E⟩]) {err : Int} {s' : SrvS} (hp : PutSh s r [((n : Int), data)] err s') : err = 5 := by
  have hfit : fitsB s.st.room (shareN r.ix n) data = true := fits_of (by rw [share_size _ _ hr.ix]; omega) (by omega) (by rw [share_size _ _ hr.ix, ← h.room]; omega)
  have hlf := lease_fits (room := s.st.room) (by rw [← h.room]; exact hroom) hr.ix hr.sec E
  have hfl := freeN_live h
  have hget : s.st.get (shareN r.ix n) = some x := by rw [h.get, hg]
  have hask : ∀ err', AskR s r.ix r.sec r.ends (shareN r.ix n) data true err' → err' = 0 := fun err' ha => by
    obtain ⟨b, l2, out, ha1, ha2, rfl⟩ := ha
    obtain ⟨rfl, hp2⟩ := hE _ _ ha1
    have ho := OfR.one hp2 (ha2 rfl)
    subst ho
    rw [if_neg (by simp; omega), if_neg (by simp [hfit, hlf])]
  cases hp with
  | form h' => exact absurd ⟨rfl, ⟨⟨fun x hx => by rw [List.mem_singleton.1 hx]; simp; omega, by simp⟩, hme⟩⟩ h'
  | no n' data' _ hl hn' hm' ha h0 =>
    simp only [List.cons.injEq, Prod.mk.injEq, and_true] at hl
    obtain ⟨e1, rfl⟩ := hl
    have e1 : n = n' := by omega
    subst e1
    rw [hget] at ha
    exact absurd (hask _ ha) h0
  | torn n' data' hl hn' hm' hg' ha h0 =>
    simp only [List.cons.injEq, Prod.mk.injEq, and_true] at hl
    obtain ⟨e1, rfl⟩ := hl
    have e1 : n = n' := by omega
    subst e1
    rw [hget] at hg'
    cases hg'
  | put n' data' _ _ hl hn' hm' hg' ha h0 hs =>
    simp only [List.cons.injEq, Prod.mk.injEq, and_true] at hl
    obtain ⟨e1, rfl⟩ := hl
    have e1 : n = n' := by omega
    subst e1
    rw [hget] at hg'
    cases hg'
  | there n' data' _ _ hl hn' hm' hg' ha hs =>
    simp only [List.cons.injEq, Prod.mk.injEq, and_true] at hl
    obtain ⟨e1, rfl⟩ := hl
    have e1 : n = n' := by omega
    subst e1
    rcases h.add_one hm hr.ix hr.sec hroom hlive hE hs with ⟨a1, _⟩ | ⟨_, a2, _⟩
    · rw [if_pos a1]
    · rw [hst] at a2; cases a2
end Go.Mem
end
section
namespace Go.Mem
open Go Go.RowKit Gf Lea Go.Proofs.YtbbojbdigiibbaaGreatDoor
theorem packL_inj : ∀ {a b : List Sec}, (∀ s ∈ a, s.1.length = 16 ∧ May s.2) → (∀ s ∈ b, s.1.length = 16 ∧ May s.2) → packL a = packL b → a = b
  | [], [], _, _, _ => rfl
  | [], y :: b, _, _, h => absurd (packL_nil h.symm) (by simp)
  | x :: a, [], _, _, h => absurd (packL_nil h) (by simp)
  | x :: a, y :: b, ha, hb, h => by
    rw [packL_cons, packL_cons] at h
    obtain ⟨x1, x2⟩ := ha x (by simp)
    obtain ⟨y1, y2⟩ := hb y (by simp)
    obtain ⟨xs, xe⟩ := x
    obtain ⟨ys, ye⟩ := y
    simp only at x1 x2 y1 y2 h
    have t1 := Cod.takeNet_net xs (Cod.net (Cod.be 4 xe.toNat) ++ packL a) (by omega)
    rw [h, Cod.takeNet_net ys _ (by omega)] at t1
    simp only [Option.some.injEq, Prod.mk.injEq] at t1
    obtain ⟨rfl, t1⟩ := t1
    have t2 := Cod.takeNet_net (Cod.be 4 xe.toNat) (packL a) (by rw [Cod.be_len]; omega)
    rw [← t1, Cod.takeNet_net _ _ (by rw [Cod.be_len]; omega)] at t2
    simp only [Option.some.injEq, Prod.mk.injEq] at t2
    obtain ⟨t2, t3⟩ := t2
    have e := congrArg Cod.getN t2
    rw [Cod.getN_be _ _ (by have := y2.2; omega), Cod.getN_be _ _ (by have := x2.2; omega)] at e
    have : xe = ye := by have := x2.1; have := y2.1; omega
    subst this
    rw [packL_inj (fun s hs => ha s (List.mem_cons_of_mem _ hs)) (fun s hs => hb s (List.mem_cons_of_mem _ hs)) t3.symm]
theorem SrvG.told {m : Nat} {s : SrvS} (h : SrvG m s) {ix : Key} (hix : ix.length = 16) {out : List Sec} (hw : ∀ x ∈ out, x.1.length = 16 ∧ May x.2) (hl : Sto.look s.st.recs (leaseN ix) = some (packL out)) : OfR s.tab ix out := by
  rcases h.tab ix hix with ⟨h1, _⟩ | ⟨o, h1, h2, _⟩
  · rw [h1] at hl; cases hl
  · rw [h1] at hl
    have ho : ∀ x ∈ o, x.1.length = 16 ∧ May x.2 := fun x hx => by
      obtain ⟨y, hy, _, e⟩ := mem_ofL.1 (h2.perm.mem_iff.1 hx)
      subst e
      exact ⟨(h.wf y hy).2, h.good.ends y hy⟩
    have := packL_inj ho hw (Option.some.inj hl)
    rw [← this]; exact h2
theorem SrvG.stop {m : Nat} {s : SrvS} (h : SrvG m s) (a k : Int) : SrvG m { s with st := { s.st with disk := s.st.disk.stop a k } } := ⟨h.st.stop a k, h.good, h.wf, h.tab, h.brk, h.slots, h.room, h.few⟩
theorem len_by_ix : ∀ (K : List Key) (l : List Les), (∀ x ∈ l, x.ix ∈ K) → (∀ ix, (ofL l ix).length ≤ 8) → l.length ≤ 8 * K.length
  | [], l, h, _ => by
    cases l with
    | nil => simp
    | cons x l => have := h x (by simp); cases this
  | k :: K, l, h, h8 => by
    have h1 := len_by_ix K (l.filter fun x => !decide (x.ix = k)) (fun x hx => by
      have := h x (List.mem_filter.1 hx).1
      have h2 := (List.mem_filter.1 hx).2
      simp only [Bool.not_eq_true', decide_eq_false_iff_not] at h2
      rcases List.mem_cons.1 this with e | e
      · exact absurd e h2
      · exact e) (fun ix => Nat.le_trans (by
      unfold ofL
      rw [List.length_map, List.length_map]
      exact ((List.filter_sublist (p := fun x => !decide (x.ix = k)) (l := l)).filter _).length_le) (h8 ix))
    have h2 := h8 k
    have h3 := List.length_eq_countP_add_countP (fun x : Les => decide (x.ix = k)) (l := l)
    unfold ofL at h2
    rw [List.length_map, ← List.countP_eq_length_filter] at h2
    rw [← List.countP_eq_length_filter] at h1
    have h4 : l.countP (fun x => !decide (x.ix = k)) = l.countP (fun x => decide (¬ decide (x.ix = k) = true)) := by
      congr 1
      funext x
      by_cases e : x.ix = k <;> simp [e]
    rw [List.length_cons]
    omega
theorem SrvG.srvB {m : Nat} {s : SrvS} (h : SrvG m s) (hm : m < 1000000) : SrvB s := by
  refine ⟨?_, by have := h.st.writes; omega⟩
  have := len_by_ix (s.st.recs.map fun r => ixOf r.name) s.tab (fun x hx => by
    have hw := (h.wf x hx).1
    rcases h.tab x.ix hw with ⟨_, h2⟩ | ⟨o, h1, _⟩
    · exact absurd rfl (ofL_nil.1 h2 x hx)
    · obtain ⟨r, a1, a2, a3, _⟩ := look_at h1
      exact List.mem_map.2 ⟨r, a1, by rw [a3]; exact ixOf_lease hw⟩) h.good.few
  rw [List.length_map, ← h.slots] at this
  have := h.few
  omega
theorem reqV_all {r : Req} (h : r.Wf) (h1 : r.vt.oneCell' = true) (h2 : r.vb.oneCell' = true) : AllK 52 (reqV r) := by
  refine ⟨reqV_len h, fun v hv => ?_⟩
  unfold reqV at hv
  simp only [List.mem_cons, List.mem_append, List.mem_nil_iff, or_false] at hv
  rcases hv with rfl | hv | hv | rfl | hv | rfl | rfl
  · rfl
  · exact bV_one _ v hv
  · exact bV_one _ v hv
  · rfl
  · exact bV_one _ v hv
  · exact h1
  · exact h2
theorem blAt_one {w : World} {N : Nat → Prop} {g : Nat} {n : Int} {a : Option Addr} {c : Nat} {bs : List UInt8} {t : TypeId} (hb : Blk w g #[.int .i64 n, .slice a bs.length c] t) (hN : ¬ N g) (hd : DataZ w N (.slice a bs.length c) bs) : BlAt w N (.slice (some ⟨g, 0, none⟩) 1 1) [(n, bs)] := by
  refine ⟨_, 1, rfl, Nat.le_refl _, by decide, fun _ => ⟨g, 0, rfl, hb.lt, hN, fun i x hx => ?_⟩⟩
  cases i with
  | zero =>
    simp at hx
    subst hx
    exact ⟨by rw [hb.cell]; rfl, a, c, by rw [hb.cell]; rfl, hd⟩
  | succ i => simp at hx
end Go.Mem
namespace Go.Proofs.YtbbojbdigiibbaaGreatDoor
open Go Go.RowKit Go.Mem Gf Lea
set_option linter.unusedVariables false
theorem store_req (dst : Option Tmp) (x y : Operand) (ty : TypeId) (pos : String) (af : Array Edge) (a : Act) (w : World) (K : Act → World → Prop) (Q : Exit → Act → World → Prop)
    (hp : ptrIs (a.eval x) = true) (hy : aggIs (a.eval y) = true) (ht : HasK 52 w (ptrB (a.eval x)) (ptrO (a.eval x))) (hc : AllK 52 (aggL (a.eval y))) :
    Oper.wp Tryz.prog ⟨dst, .store 47 x y, ty, pos, af, none⟩ a w K Q = K (a.put dst undef) (w.setCells (ptrB (a.eval x)) (ptrO (a.eval x)) (aggL (a.eval y))) :=
  wp_storeK i52 dst x y ty pos af a w K Q hp hy ht hc
theorem hasK_zeroR (w : World) (n : Nat) (hn : n = w.heap.size) : HasK 52 (w.alloc (.cells #[Value.int .i64 0, .int .u8 0, .int .u8 0, .int .u8 0, .int .u8 0, .int .u8 0, .int .u8 0, .int .u8 0, .int .u8 0, .int .u8 0, .int .u8 0, .int .u8 0, .int .u8 0, .int .u8 0, .int .u8 0, .int .u8 0, .int .u8 0, .int .u8 0, .int .u8 0, .int .u8 0, .int .u8 0, .int .u8 0, .int .u8 0, .int .u8 0, .int .u8 0, .int .u8 0, .int .u8 0, .int .u8 0, .int .u8 0, .int .u8 0, .int .u8 0, .int .u8 0, .int .u8 0, .int .i64 0, .int .u8 0, .int .u8 0, .int .u8 0, .int .u8 0, .int .u8 0, .int .u8 0, .int .u8 0, .int .u8 0, .int .u8 0, .int .u8 0, .int .u8 0, .int .u8 0, .int .u8 0, .int .u8 0, .int .u8 0, .int .u8 0, .slice none 0 0, .slice none 0 0] 47)) n 0 := by
  subst hn
  exact hasK_new (by simp) w _
theorem setCells_zeroR (w : World) (n : Nat) (hn : n = w.heap.size) (cs : List Value) (h : AllK 52 cs) : (w.alloc (.cells #[Value.int .i64 0, .int .u8 0, .int .u8 0, .int .u8 0, .int .u8 0, .int .u8 0, .int .u8 0, .int .u8 0, .int .u8 0, .int .u8 0, .int .u8 0, .int .u8 0, .int .u8 0, .int .u8 0, .int .u8 0, .int .u8 0, .int .u8 0, .int .u8 0, .int .u8 0, .int .u8 0, .int .u8 0, .int .u8 0, .int .u8 0, .int .u8 0, .int .u8 0, .int .u8 0, .int .u8 0, .int .u8 0, .int .u8 0, .int .u8 0, .int .u8 0, .int .u8 0, .int .u8 0, .int .i64 0, .int .u8 0, .int .u8 0, .int .u8 0, .int .u8 0, .int .u8 0, .int .u8 0, .int .u8 0, .int .u8 0, .int .u8 0, .int .u8 0, .int .u8 0, .int .u8 0, .int .u8 0, .int .u8 0, .int .u8 0, .int .u8 0, .slice none 0 0, .slice none 0 0] 47)).setCells n 0 cs = w.alloc (.cells cs.toArray 47) := setCells_alloc_at _ _ _ _ hn (by rw [h.1]; rfl)
def putV (e : Int) (u : Value) : Req := ⟨2, z16, z16, e, z16, .slice none 0 0, u⟩
theorem putV_wf (e : Int) (u : Value) : (putV e u).Wf := ⟨by show z16.length = 16; decide, by show z16.length = 16; decide, by show z16.length = 16; decide⟩
theorem putV_eq (e : Int) (u : Value) : RF.V ⟨.int .i64 2, zk, zk, .int .i64 e, zk, .slice none 0 0, u⟩ = reqV (putV e u) := rfl
theorem putV_all (e : Int) (a : Option Addr) (n c : Nat) : AllK 52 (reqV (putV e (.slice a n c))) := reqV_all (putV_wf e _) rfl rfl
theorem cutC_all {l : List Value} {n : Nat} (h : l.length = n) : cutC l.toArray 0 n = l := by
  unfold cutC
  subst h
  apply List.ext_getElem?
  intro k
  simp
theorem putV_cut (e : Int) (a : Option Addr) (n c : Nat) : cutC (reqV (putV e (.slice a n c))).toArray 0 52 = reqV (putV e (.slice a n c)) := cutC_all (reqV_len (putV_wf e _))
theorem putV_size (e : Int) (a : Option Addr) (n c : Nat) : (reqV (putV e (.slice a n c))).length = 52 := reqV_len (putV_wf e _)
attribute [local irreducible] RF.V zk reqV
attribute [local go_sem ↓] Go.wp_at_zero Go.wp_at_succ
attribute [local go_sem ↓] load_req store_req build_req_cct
attribute [local go_sem] Value.oneCell' reqOf reqFit List.foldl_cons List.foldl_nil List.all_cons List.all_nil rfs0 rfs1 rfs2 rfs3 rfs4 rfs5 rfs6 rfz ok0 ok1 ok2 ok3 ok4 ok5 ok6 fld_reply0 fld_reply1
attribute [local go_sem] ptrB_eq ptrO_eq ptrIs_eq aggL_eq aggIs_eq readK_drew hasK_drew readK_alloc_past hasK_alloc_past readK_alloc_in hasK_alloc_in setCells_drew setCells_alloc_past hasK_zeroR setCells_zeroR putV_eq putV_all putV_cut putV_size
theorem may5 : May 5 := ⟨by decide, by decide⟩
set_option maxRecDepth 100000 in
set_option maxHeartbeats 1000000 in
theorem wakes16_calls (w : World) (hT : Tab w) : Calls Tryz.prog 16 #[] w fun e w' => e = .returned (.bool true) ∧ Below w.heap.size w w' := by
  have HT := Lib.hid hT
  clear hT
  go_enter Tryz.func16, Tryz.ntmps16
  go_wp2_with fail
  refine (srvnew_calls 4 8 w HT.out (by omega) (by omega) (by omega)).mono ?_
  rintro e w1 ⟨pb, C, rfl, hS, hC, hb1⟩
  have HL := Lib.hid (show SrvL w w1 C pb (freshS 4 8) from ⟨hS, hb1, hC⟩)
  clear hS hC hb1
  go_upto_region 5 with fail
  have hbA : Below w1.heap.size w1 (w1.alloc (.cells #[Value.int .u8 7] 5)) := (Below.refl _ _).alloc (Nat.le_refl _) _
  have hbB := hbA.alloc hbA.size (.cells #[Value.int .i64 1, Value.slice (some ⟨w1.heap.size, 0, none⟩) 1 1] 53)
  have hbD := hbB.alloc hbB.size (.cells (reqV (putV 5 (.slice (some ⟨w1.heap.size + 1, 0, none⟩) 1 1))).toArray 47)
  have hkB : Blk ((w1.alloc (.cells #[Value.int .u8 7] 5)).alloc (.cells #[Value.int .i64 1, Value.slice (some ⟨w1.heap.size, 0, none⟩) 1 1] 53)) (w1.heap.size + 1) #[Value.int .i64 1, Value.slice (some ⟨w1.heap.size, 0, none⟩) 1 1] 53 := Blk.new_at _ _ _ _ (by simp)
  have hdA : Bys (w1.alloc (.cells #[Value.int .u8 7] 5)) (.slice (some ⟨w1.heap.size, 0, none⟩) 1 1) [7] := bys_one w1 7 _ rfl _
  have hkB2 := hkB.alloc (.cells (reqV (putV 5 (.slice (some ⟨w1.heap.size + 1, 0, none⟩) 1 1))).toArray 47)
  have hdB := (hdA.below ((Below.refl _ _).alloc (Nat.le_refl _) (.cells #[Value.int .i64 1, Value.slice (some ⟨w1.heap.size, 0, none⟩) 1 1] 53))).below ((Below.refl _ _).alloc (Nat.le_refl _) (.cells (reqV (putV 5 (.slice (some ⟨w1.heap.size + 1, 0, none⟩) 1 1))).toArray 47))
  have hkD : Blk (((w1.alloc (.cells #[Value.int .u8 7] 5)).alloc (.cells #[Value.int .i64 1, Value.slice (some ⟨w1.heap.size, 0, none⟩) 1 1] 53)).alloc (.cells (reqV (putV 5 (.slice (some ⟨w1.heap.size + 1, 0, none⟩) 1 1))).toArray 47)) (w1.heap.size + 1 + 1) (reqV (putV 5 (.slice (some ⟨w1.heap.size + 1, 0, none⟩) 1 1))).toArray 47 := Blk.new_at _ _ _ _ (by simp)
  obtain ⟨wd, hwd⟩ : ∃ q, q = ((w1.alloc (.cells #[Value.int .u8 7] 5)).alloc (.cells #[Value.int .i64 1, Value.slice (some ⟨w1.heap.size, 0, none⟩) 1 1] 53)).alloc (.cells (reqV (putV 5 (.slice (some ⟨w1.heap.size + 1, 0, none⟩) 1 1))).toArray 47) := ⟨_, rfl⟩
  rw [← hwd] at hbD hkB2 hdB hkD ⊢
  have hlD := hkD.lt
  have hnC : ∀ b, w1.heap.size ≤ b → ¬ C b := fun b hb hC => by have := HL.out.old hC; omega
  have hbl : BlAt wd C (.slice (some ⟨w1.heap.size + 1, 0, none⟩) 1 1) [(1, [7])] := blAt_one (a := some ⟨w1.heap.size, 0, none⟩) (bs := [7]) hkB2 (hnC _ (by omega)) ⟨hdB, _, _, rfl, fun _ b hb => by cases hb; exact ⟨by show w1.heap.size < _; omega, hnC _ (Nat.le_refl _)⟩⟩
  obtain ⟨p8, hp8⟩ : ∃ q, q = w1.heap.size + 1 := ⟨_, rfl⟩
  obtain ⟨p9, hp9⟩ : ∃ q, q = w1.heap.size + 1 + 1 := ⟨_, rfl⟩
  rw [← hp9] at hkD hlD ⊢
  rw [← hp8] at hkD hbl ⊢
  have r52 : readK 52 wd p9 0 = reqV (putV 5 (.slice (some ⟨p8, 0, none⟩) 1 1)) := blk_read0 hkD (putV_size _ _ _ _)
  have g52 : HasK 52 wd p9 0 := blk_has hkD (by simp [putV_size])
  have HD := Lib.hid (And.intro hbD (And.intro hkD (And.intro hbl (hnC p9 (by omega)))))
  have HG := Lib.hid (freshS_good 4 8 (by omega) (by omega))
  clear hbA hbB hbD hkB hdA hkB2 hdB hkD hwd hp8 hp9 hnC hbl hlD
  obtain ⟨s0, hs0⟩ : ∃ x, x = freshS 4 8 := ⟨_, rfl⟩
  have hsl : s0.slots = 4 ∧ s0.room = 8 ∧ s0.tab = [] ∧ s0.st.recs = List.replicate 4 Sto.Rec.free := by rw [hs0]; exact ⟨rfl, rfl, rfl, rfl⟩
  have HL0 := HL.out
  have HG0 := HG.out
  rw [← hs0] at HL0 HG0
  have H0 := Lib.hid (And.intro HL0 (And.intro HG0 hsl))
  clear HL HG HL0 HG0 hs0 hsl
  go_wp2_with fail
  refine ((H0.out.1.step HD.out.1).put H0.out.2.1.1.live ⟨by rw [H0.out.2.2.2.2.1]; simp, by have := H0.out.2.1.1.st.writes; omega⟩ (by have := H0.out.2.1.1.st.writes; omega) (putV_wf 5 _) rfl HD.out.2.2.1 (fun x hx => by rw [List.mem_singleton.1 hx]; decide)).mono ?_
  rintro e w2 ⟨C2, err, s1, rfl, hP, hL2, hsc⟩
  have hres : err = 0 ∧ SrvG 2 s1 ∧ s1.tab.Perm [⟨z16, z16, 5⟩] ∧ (∃ x, Sto.look s1.st.recs (shareN z16 1) = some x) ∧ s1.st.disk.stops = false ∧ s1.room = 8 ∧ s1.st.recs.length = 4 ∧ liveN s1.st.recs ≤ 2 := by
    have hlv : liveN s0.st.recs = 0 := by rw [H0.out.2.2.2.2.2]; exact live_free 4
    have hln : s0.st.recs.length = 4 := by rw [H0.out.2.2.2.2.2, List.length_replicate]
    rcases H0.out.2.1.1.put_one (E := 5) (by decide) (putV_wf 5 _) (n := 1) (by decide) may5 (by decide) (H0.out.2.1.2.1 _) (by rw [H0.out.2.2.2.1]; exact Nat.le_refl _) (by omega) (fun b l2 ha => by
      rw [H0.out.2.2.2.2.1] at ha
      exact AddR.none rfl may5 ha) hP with ⟨a1, a2, a3, a4, a5, a6, a7, a8⟩ | ⟨_, a2, _⟩
    · have h4 : s1.st.recs.length = 4 := by rw [← a2.slots, a6, H0.out.2.2.1]
      exact ⟨a1, a2, a3, ⟨_, by rw [a4, upd, if_neg share_lease, upd]; exact if_pos rfl⟩, a5.trans H0.out.2.1.2.2, a7.trans H0.out.2.2.2.1, h4, by omega⟩
    · rw [H0.out.2.1.2.2] at a2; cases a2
  obtain ⟨rfl, hres⟩ := hres
  have hk2 := hsc.1.blk HD.out.2.1 HD.out.2.2.2
  have r52' : readK 52 w2 p9 0 = reqV (putV 5 (.slice (some ⟨p8, 0, none⟩) 1 1)) := blk_read0 hk2 (putV_size _ _ _ _)
  have g52' : HasK 52 w2 p9 0 := blk_has hk2 (by simp [putV_size])
  have H2 := Lib.hid (And.intro hres (And.intro hL2 (BlAt.sch HD.out.2.2.1 hsc)))
  clear hP hL2 hsc hk2 r52 g52 hres
  go_wp2_with fail
  refine (H2.out.2.1.put H2.out.1.1.live ⟨by rw [H2.out.1.2.1.length_eq]; simp, by have := H2.out.1.1.st.writes; omega⟩ (by have := H2.out.1.1.st.writes; omega) (putV_wf 5 _) rfl H2.out.2.2 (fun x hx => by rw [List.mem_singleton.1 hx]; decide)).mono ?_
  rintro e w3 ⟨C3, err, s2, rfl, hP, hL3, hsc⟩
  have herr : err = 5 := by
    obtain ⟨x, hx⟩ := H2.out.1.2.2.1
    exact H2.out.1.1.put_there (E := 5) (by decide) (putV_wf 5 _) (n := 1) (by decide) may5 (by decide) hx (by rw [H2.out.1.2.2.2.2.1]; exact Nat.le_refl _) (by have := H2.out.1.2.2.2.2.2; omega) H2.out.1.2.2.2.1 (fun b l2 ha => AddR.again H2.out.1.2.1 may5 ha) hP
  subst herr
  have H3 := Lib.hid hL3.bel
  clear hP hL3 hsc
  go_wp2_with fail
  go_ret
  exact ⟨rfl, H3.out⟩
end Go.Proofs.YtbbojbdigiibbaaGreatDoor
end
section
namespace Go.Mem
open Go Go.RowKit Gf Lea Go.Proofs.YtbbojbdigiibbaaGreatDoor
set_option linter.unusedVariables false
theorem look_of_rec {l : List Sto.Rec} {r : Sto.Rec} (h : r ∈ l) (his : r.is = true) : Sto.look l r.name ≠ none := fun e => by
  obtain ⟨i, hi⟩ := List.getElem?_of_mem h
  have : (Sto.look l r.name).isSome = true := look_isSome.2 ⟨i, r, hi, his, rfl⟩
  rw [e] at this; cases this
theorem sweepR_calm : ∀ (L : List ByteArray) {m : Nat} {st : St} {t : Bool}, SLive m st → st.disk.stops = false →
    (sweepR L st t).2.1 = 0 ∧ SLive (m + L.length) (sweepR L st t).2.2 ∧ (sweepR L st t).2.2.disk.stops = false ∧ (sweepR L st t).2.2.room = st.room ∧ (sweepR L st t).2.2.recs.length = st.recs.length ∧ (∀ nm, (nm ∈ L → Sto.look (sweepR L st t).2.2.recs nm = none) ∧ (nm ∉ L → Sto.look (sweepR L st t).2.2.recs nm = Sto.look st.recs nm)) ∧ ((sweepR L st t).1 = true ↔ t = true ∨ ∃ n ∈ L, noL n = true ∧ Sto.look st.recs n ≠ none)
  | [], m, st, t, h, hs => ⟨rfl, h, hs, rfl, rfl, fun nm => ⟨fun h => (List.not_mem_nil h).elim, fun _ => rfl⟩, by simp [sweepR]⟩
  | n :: l, m, st, t, h, hs => by
    rw [sweepR]
    have hg : st.get n = Sto.look st.recs n := St.get_look h.dead n
    split
    · rename_i h1
      rw [hg] at h1
      have hd := h.drop n
      generalize dropR st n = R at hd
      cases hd with
      | none h' => rw [h'] at h1; cases h1
      | torn _ _ _ _ hd' _ _ _ _ _ _ _ => rw [hs] at hd'; cases hd'
      | done s' x hx k hk hr hl ho hst hlk =>
        rw [if_pos rfl]
        obtain ⟨a1, a2, a3, a4, a5, a6, a7⟩ := sweepR_calm l (t := t || noL n) hl (hst.trans hs)
        refine ⟨a1, a2.le (by rw [List.length_cons]; omega), a3, a4.trans ho, a5.trans (by rw [hr, List.length_set]), fun nm => ?_, a7.trans ?_⟩
        · refine ⟨fun hn => ?_, fun hn => ?_⟩
          · rcases Classical.em (nm ∈ l) with e2 | e2
            · exact (a6 nm).1 e2
            · rw [(a6 nm).2 e2, hlk, if_pos]
              exact (List.mem_cons.1 hn).resolve_right e2
          · rw [(a6 nm).2 fun e2 => hn (List.mem_cons_of_mem _ e2), hlk, if_neg fun e => hn (by rw [e]; exact List.mem_cons_self)]
        · rw [Bool.or_eq_true]
          constructor
          · rintro ((h' | h') | ⟨y, hy, h2, h3⟩)
            · exact .inl h'
            · exact .inr ⟨n, by simp, h', by rw [hx]; simp⟩
            · rw [hlk] at h3
              split at h3
              · exact absurd rfl h3
              · exact .inr ⟨y, by simp [hy], h2, h3⟩
          · rintro (h' | ⟨y, hy, h2, h3⟩)
            · exact .inl (.inl h')
            · by_cases e : y = n
              · subst e; exact .inl (.inr h2)
              · rcases List.mem_cons.1 hy with hy | hy
                · exact absurd hy e
                · exact .inr ⟨y, hy, h2, by rw [hlk, if_neg e]; exact h3⟩
    · rename_i h1
      rw [hg] at h1
      have h2 : Sto.look st.recs n = none := by
        cases hh : Sto.look st.recs n with
        | none => rfl
        | some _ => rw [hh] at h1; exact absurd rfl h1
      obtain ⟨a1, a2, a3, a4, a5, a6, a7⟩ := sweepR_calm l (t := t) h hs
      refine ⟨a1, a2.le (by rw [List.length_cons]; omega), a3, a4, a5, fun nm => ?_, a7.trans ?_⟩
      · refine ⟨fun hn => ?_, fun hn => (a6 nm).2 fun e2 => hn (List.mem_cons_of_mem _ e2)⟩
        rcases Classical.em (nm ∈ l) with e2 | e2
        · exact (a6 nm).1 e2
        · rw [(a6 nm).2 e2, (List.mem_cons.1 hn).resolve_right e2, h2]
      · constructor
        · rintro (h' | ⟨y, hy, h3, h4⟩)
          · exact .inl h'
          · exact .inr ⟨y, by simp [hy], h3, h4⟩
        · rintro (h' | ⟨y, hy, h3, h4⟩)
          · exact .inl h'
          · rcases List.mem_cons.1 hy with hy | hy
            · subst hy; exact absurd h2 h4
            · exact .inr ⟨y, hy, h3, h4⟩
theorem heldAll_calm {pk : Key → List UInt8} : ∀ (L : List Key) {m : Nat} {s : SrvS}, SLive m s.st → s.st.disk.stops = false → m + L.length < 1000000 → (∀ ix ∈ L, RecOk (leaseN ix) (pk ix)) →
    (heldAll pk L s).1 = false ∧ (heldAll pk L s).2.tab = s.tab ∧ (heldAll pk L s).2.broken = s.broken ∧ SLive (m + L.length) (heldAll pk L s).2.st ∧ (heldAll pk L s).2.st.disk.stops = false ∧ ∀ nm, (∀ ix ∈ L, nm ≠ leaseN ix) → Sto.look (heldAll pk L s).2.st.recs nm = Sto.look s.st.recs nm
  | [], m, s, h, hs, _, _ => ⟨rfl, rfl, rfl, h, hs, fun _ _ => rfl⟩
  | x :: l, m, s, h, hs, hm, hr => by
    rw [List.length_cons] at hm ⊢
    by_cases hg : s.st.get (leaseN x) = some (pk x)
    · rw [heldAll_skip hg]
      obtain ⟨a1, a2, a3, a4, a5, a6⟩ := heldAll_calm l (s := s) h hs (by omega) fun ix hi => hr ix (by simp [hi])
      exact ⟨a1, a2, a3, a4.le (by omega), a5, fun nm hn => a6 nm fun ix hi => hn ix (by simp [hi])⟩
    · have hp := h.put (by omega) (hr x (by simp))
      have h8 : (putR s.st (leaseN x) (pk x)).1 ≠ 8 := by
        generalize putR s.st (leaseN x) (pk x) = R at hp
        cases hp with
        | arg _ => simp
        | full _ _ => simp
        | done _ _ _ _ _ _ _ => simp
        | torn _ _ _ _ hd _ _ _ _ _ => rw [hs] at hd; cases hd
      have hst : (putR s.st (leaseN x) (pk x)).2.disk.stops = false ∧ ∀ nm, nm ≠ leaseN x → Sto.look (putR s.st (leaseN x) (pk x)).2.recs nm = Sto.look s.st.recs nm := by
        generalize putR s.st (leaseN x) (pk x) = R at hp
        cases hp with
        | arg _ => exact ⟨hs, fun _ _ => rfl⟩
        | full _ _ => exact ⟨hs, fun _ _ => rfl⟩
        | done s' _ hsl hr' _ _ hst => exact ⟨hst.trans hs, fun nm hn => by rw [hr', putF_upd hsl, upd, if_neg hn]⟩
        | torn _ _ _ _ hd _ _ _ _ _ => rw [hs] at hd; cases hd
      rw [heldAll_put hg h8]
      obtain ⟨a1, a2, a3, a4, a5, a6⟩ := heldAll_calm l (s := { s with st := (putR s.st (leaseN x) (pk x)).2 }) (put_ok h (by omega) (hr x (by simp)) h8) hst.1 (by omega) fun ix hi => hr ix (by simp [hi])
      exact ⟨a1, a2, a3, a4.le (by omega), a5, fun nm hn => (a6 nm fun ix hi => hn ix (by simp [hi])).trans (hst.2 nm (hn x (by simp)))⟩
theorem noL_share (ix : Key) (n : Nat) : noL (shareN ix n) = true := rfl
theorem nil_of_mem {α : Type} {l : List α} (h : ∀ x, x ∉ l) : l = [] := List.eq_nil_iff_forall_not_mem.2 h
theorem sng_of_up {l : List Key} {k : Key} (hu : l.Pairwise fun a b => Go.Lib.compareBytes a b < 0) (h : ∀ x, x ∈ l ↔ x = k) : l = [k] := by
  match l, hu, h with
  | [], _, h => exact absurd ((h k).2 rfl) (by simp)
  | [a], _, h => rw [(h a).1 (by simp)]
  | a :: b :: l, hu, h =>
    have h1 := (h a).1 (by simp)
    have h2 := (h b).1 (by simp)
    have := (List.pairwise_cons.1 hu).1 b (by simp)
    rw [h1, h2, cmp_refl] at this; omega
theorem fmC {α β : Type} {f g : α → Option β} : ∀ {l : List α}, (∀ x ∈ l, f x = g x) → l.filterMap f = l.filterMap g
  | [], _ => rfl
  | x :: l, h => by
    rw [List.filterMap_cons, List.filterMap_cons, h x (by simp), fmC (l := l) fun y hy => h y (List.mem_cons_of_mem _ hy)]
theorem shares_one {s : SrvS} {x : Option (List UInt8)} (h : ∀ n, n < 16 → s.st.get (shareN z16 n) = if n = 0 then x else none) : s.shares z16 = (x.map fun b => ((0 : Int), b)).toList := by
  have e : s.shares z16 = (List.range 16).filterMap fun n : Nat => (if n = 0 then x else none).map fun b => ((n : Int), b) := by
    unfold SrvS.shares SrvS.sharesK
    refine fmC fun n hn => ?_
    rw [h n (List.mem_range.1 hn)]
  rw [e]
  cases x <;> rfl
theorem tick_one {m : Nat} {s s' : SrvS} {now : Int} {out : List Key} {b : List UInt8} (h : SrvG m s) (hm : m < 900000) (hs : s.st.disk.stops = false) (h0 : Sto.look s.st.recs (shareN z16 0) = some b) (ho : ∀ nm, Sto.look s.st.recs nm ≠ none → nm = shareN z16 0 ∨ nm = leaseN z16) (ht : ∀ x ∈ s.tab, x.ix = z16) (hne : s.tab ≠ []) (hT : TickR s now out s') :
    s'.dead = false ∧ SrvB s' ∧ ((∃ x ∈ s.tab, now < x.e) → out = [] ∧ s'.shares z16 = [(0, b)] ∧ Lives s'.tab z16 now) ∧ ((∀ x ∈ s.tab, x.e ≤ now) → out.length = 1 ∧ s'.shares z16 = [] ∧ ¬ Lives s'.tab z16 now) := by
  obtain ⟨l1, R, hE, hT⟩ := hT
  have hz : (z16 : Key).length = 16 := by decide
  have hB := h.srvB (by omega)
  have hsub := endedR_sub hE
  have hnd : ∀ {q : SrvS} {k : Nat}, q.broken = s.broken → SLive k q.st → q.dead = false := fun {q k} hb hl => by
    unfold SrvS.dead
    rw [hb, h.brk, hl.disk, hl.dead]; rfl
  have hg1 : Lea.Good l1 := (h.good.sub List.filter_sublist).perm hE.perm
  by_cases hl : ∃ x ∈ s.tab, now < x.e
  · obtain ⟨x0, hx0, hx1⟩ := hl
    have hin : x0 ∈ l1 := hE.perm.mem_iff.2 (List.mem_filter.2 ⟨hx0, by simpa using hx1⟩)
    have hR : R = [] := nil_of_mem fun k hk => by
      obtain ⟨⟨x, a1, a2, _⟩, a3⟩ := (hE.mem k).1 hk
      exact a3 x0 hin (by rw [ht x0 hx0, ← a2, ht x a1])
    subst hR
    have hno : ofL l1 z16 ≠ [] := fun e => ofL_nil.1 e x0 hin (ht x0 hx0)
    rcases hT with ⟨a1, _⟩ | ⟨_, I, pk, hI, hpk, hT⟩
    · exact absurd rfl a1
    have e1 : (sweepAll [] { s with tab := l1 }).2.2 = { s with tab := l1 } := rfl
    rw [e1] at hI hT
    have hIm : ∀ k ∈ I, k = z16 := fun k hk => by
      obtain ⟨_, r, hr, his, rfl⟩ := (hI.mem k).1 hk
      rcases ho _ (look_of_rec hr his) with e | e
      · rw [e]; exact ixOf_share 0 hz
      · rw [e]; exact ixOf_lease hz
    have hLm : ∀ k ∈ heldL l1 I, k = z16 := fun k hk => hIm k (mem_heldL hk).1
    have hnodup : (heldL l1 I).Nodup := hI.nodup.filter _
    have hlen : (heldL l1 I).length ≤ 1 := by
      match hq : heldL l1 I, hnodup, hLm with
      | [], _, _ => simp
      | [_], _, _ => simp
      | a :: c :: l, hn, hL => 
        have h1 := hL a (by simp)
        have h2 := hL c (by simp)
        rw [h1, h2] at hn
        simp at hn
    have hc := heldAll_calm (pk := pk) (heldL l1 I) (m := m) (s := { s with tab := l1 }) h.st hs (by omega) fun ix hi => by
      obtain ⟨o, h1, h2⟩ := hpk ix hi
      rw [h2]
      have hix : ix.length = 16 := by rw [hLm ix hi]; exact hz
      exact RecOk.lease ix o hix (ofR_leOk (fun x hx => h.wf x (hsub.1 x hx)) hg1 h1 fun e => by
        have := h1.nil_iff.1 e
        rw [hLm ix hi] at this
        exact hno this)
    obtain ⟨c1, c2, c3, c4, c5, c6⟩ := hc
    have hfin : out = [] ∧ s' = (heldAll pk (heldL l1 I) { s with tab := l1 }).2 := by
      rcases hT with ⟨a1, _⟩ | ⟨_, I2, hI2, rfl, rfl⟩
      · rw [c1] at a1; cases a1
      · have hnil : (I2.filter fun ix => decide (ofL l1 ix = [])) = [] := nil_of_mem fun k hk => by
          obtain ⟨k1, k2⟩ := List.mem_filter.1 hk
          obtain ⟨_, r, hr, his, rfl⟩ := (hI2.mem k).1 k1
          have hq : ixOf r.name = z16 := by
            by_cases e : r.name = leaseN z16
            · rw [e]; exact ixOf_lease hz
            · have := look_of_rec hr his
              rw [c6 _ fun ix hi => by rw [hLm ix hi]; exact e] at this
              rcases ho _ this with e' | e'
              · rw [e']; exact ixOf_share 0 hz
              · exact absurd e' e
          rw [hq] at k2
          exact hno (by simpa using k2)
        rw [hnil]
        exact ⟨rfl, rfl⟩
    obtain ⟨rfl, rfl⟩ := hfin
    have hlv : Lives (heldAll pk (heldL l1 I) { s with tab := l1 }).2.tab z16 now := by rw [c2]; exact ⟨x0, hin, ht x0 hx0, hx1⟩
    refine ⟨hnd c3 c4, ⟨by rw [c2]; exact Nat.le_trans hsub.2 hB.tab, by have := c4.writes; omega⟩, fun _ => ⟨rfl, ?_, hlv⟩, fun hn => absurd (hn x0 hx0) (by omega)⟩
    refine shares_one (x := some b) fun n hn => ?_
    rw [St.get_look c4.dead, c6 _ fun ix hi => share_lease]
    by_cases e : n = 0
    · subst e; rw [if_pos rfl]; exact h0
    · rw [if_neg e]
      cases hh : Sto.look s.st.recs (shareN z16 n) with
      | none => rfl
      | some y =>
        rcases ho _ (by show Sto.look s.st.recs (shareN z16 n) ≠ none; rw [hh]; simp) with e' | e'
        · exact absurd (shareN_inj e' rfl rfl hn (by decide)).2 e
        · exact absurd e' share_lease
  · have hall : ∀ x ∈ s.tab, x.e ≤ now := fun x hx => by
      rcases Int.lt_or_le now x.e with h1 | h1
      · exact absurd ⟨x, hx, h1⟩ hl
      · exact h1
    have hl1 : l1 = [] := nil_of_mem fun x hx => by
      have := List.mem_filter.1 (hE.perm.mem_iff.1 hx)
      exact hl ⟨x, this.1, by simpa using this.2⟩
    subst hl1
    obtain ⟨y0, hy0⟩ := List.exists_mem_of_ne_nil _ hne
    have hR : R = [z16] := sng_of_up hE.up fun k => by
      rw [hE.mem]
      constructor
      · rintro ⟨⟨x, a1, a2, _⟩, _⟩; rw [← a2, ht x a1]
      · rintro rfl; exact ⟨⟨y0, hy0, ht y0 hy0, hall y0 hy0⟩, fun x hx => (List.not_mem_nil hx).elim⟩
    subst hR
    have hcs := sweepR_calm (swN { s with tab := [] } z16) (t := false) h.st hs
    have hmem : ∀ nm, Sto.look s.st.recs nm ≠ none → nm ∈ swN { s with tab := [] } z16 := fun nm hn => by
      unfold swN
      rcases ho nm hn with rfl | rfl
      · refine List.mem_append_left _ (List.mem_map.2 ⟨(0, b), ?_, rfl⟩)
        have : SrvS.shares { s with tab := [] } z16 = [(0, b)] := shares_one (x := some b) fun n hn => by
          show s.st.get _ = _
          rw [St.get_look h.st.dead]
          by_cases e : n = 0
          · subst e; rw [if_pos rfl]; exact h0
          · rw [if_neg e]
            cases hh : Sto.look s.st.recs (shareN z16 n) with
            | none => rfl
            | some y =>
              rcases ho _ (by show Sto.look s.st.recs (shareN z16 n) ≠ none; rw [hh]; simp) with e' | e'
              · exact absurd (shareN_inj e' rfl rfl hn (by decide)).2 e
              · exact absurd e' share_lease
        rw [this]; simp
      · exact List.mem_append_right _ (by simp)
    have hlen := swN_len { s with tab := [] } z16
    obtain ⟨a1, a2, a3, a4, a5, a6, a7⟩ := hcs
    have htold : (sweepR (swN { s with tab := [] } z16) s.st false).1 = true := a7.2 (.inr ⟨shareN z16 0, hmem _ (by rw [h0]; simp), noL_share _ _, by rw [h0]; simp⟩)
    have hnone : ∀ nm, Sto.look (sweepR (swN { s with tab := [] } z16) s.st false).2.2.recs nm = none := fun nm => by
      rcases Classical.em (nm ∈ swN { s with tab := [] } z16) with e | e
      · exact (a6 nm).1 e
      · rw [(a6 nm).2 e]
        cases hh : Sto.look s.st.recs nm with
        | none => rfl
        | some y => exact absurd (hmem nm (by rw [hh]; simp)) e
    generalize hK : sweepR (swN { s with tab := [] } z16) s.st false = K at a1 a2 a3 a4 a5 a6 a7 htold hnone
    obtain ⟨kt, ke, ks⟩ := K
    simp only at a1 a2 a3 a4 a5 htold hnone
    subst htold a1
    have hsa : sweepAll [z16] { s with tab := [] } = ([z16], 0, { s with tab := [], st := ks }) := by
      rw [sweepAll]
      show (if (sweepR (swN { s with tab := [] } z16) s.st false).2.1 = 0 then _ else _) = _
      rw [hK]
      rfl
    rw [hsa] at hT
    have hIe : ∀ {I : List Key}, IdxR ks I → I = [] := fun {I} hI => nil_of_mem fun k hk => by
      obtain ⟨_, r, hr, his, _⟩ := (hI.mem k).1 hk
      exact look_of_rec hr his (hnone _)
    have hfin : out = [z16] ∧ s' = { s with tab := [], st := ks } := by
      rcases hT with ⟨a, _⟩ | ⟨_, I, pk, hI, _, hT⟩
      · exact absurd rfl a
      · have := hIe hI
        subst this
        rcases hT with ⟨a, _⟩ | ⟨_, I2, hI2, rfl, rfl⟩
        · cases a
        · have := hIe hI2
          subst this
          exact ⟨rfl, rfl⟩
    obtain ⟨rfl, rfl⟩ := hfin
    refine ⟨hnd rfl a2, ⟨by simp, by have := a2.writes; show ks.disk.writes < _; omega⟩, fun hx => absurd hx hl, fun _ => ⟨rfl, ?_, fun ⟨x, hx, _⟩ => (List.not_mem_nil hx).elim⟩⟩
    refine shares_one (x := none) fun n hn => ?_
    show ks.get _ = _
    rw [St.get_look a2.dead, hnone]
    split <;> rfl
end Go.Mem
end
