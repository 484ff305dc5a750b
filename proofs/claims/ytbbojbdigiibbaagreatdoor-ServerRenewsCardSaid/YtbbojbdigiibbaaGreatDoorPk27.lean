/- Texts of this proof, packed: SrvRenL, SrvRenV, ServerRenewsWalk, TabOf. -/
import Derived.Test.YtbbojbdigiibbaaGreatDoorPk26
import Derived.Test.YtbbojbdigiibbaaGreatDoorPk19
import Derived.Test.YtbbojbdigiibbaaGreatDoorPk20
import Derived.Test.YtbbojbdigiibbaaGreatDoorPk01
import Derived.Test.YtbbojbdigiibbaaGreatDoorRows
import Derived.Test.YtbbojbdigiibbaaGreatDoorPk03
import Derived.Lib.LaidTab
import Derived.LaidMore
section
namespace Go.Mem
open Go Go.RowKit Gf Lea Go.Proofs.YtbbojbdigiibbaaGreatDoor
set_option linter.unusedVariables false
theorem SrvG.lay_in {m : Nat} {s : SrvS} (h : SrvG m s) (hm : m < 1000000) {ix : Key} (hix : ix.length = 16) {l2 : List Les} (hg : Lea.Good l2) (hw : ∀ x ∈ l2, Wf x) (ho : ∀ ix', ix' ≠ ix → (ofL l2 ix').Perm (ofL s.tab ix')) (hs : s.st.disk.stops = false) (hroom : 8 ≤ s.room) (hlive : liveN s.st.recs + 1 ≤ s.st.recs.length) (h3 : (ofL l2 ix).length ≤ 3) (h0 : ofL l2 ix ≠ []) {err : Int} {s' : SrvS} (hl : LayR s ix l2 err s') :
    err = 0 ∧ SrvG (m + 1) s' ∧ s'.tab = l2 ∧ (∃ out, ∀ nm, Sto.look s'.st.recs nm = upd (Sto.look s.st.recs) (leaseN ix) (some out) nm) ∧ s'.st.disk.stops = false ∧ s'.room = s.room ∧ s'.st.recs.length = s.st.recs.length ∧ liveN s'.st.recs ≤ liveN s.st.recs + 1 := by
  obtain ⟨out, hR, hc⟩ := h.lay hm hix hg hw ho hl
  obtain ⟨out', hR', herr, hs'⟩ := hl
  have hne : out ≠ [] := fun e => h0 (hR.nil_iff.1 e)
  have hne' : out' ≠ [] := fun e => h0 (hR'.nil_iff.1 e)
  rw [if_neg hne] at hc
  have hlen : out'.length ≤ 3 := by rw [hR'.perm.length_eq]; exact h3
  have hkeys : ∀ x ∈ out', x.1.length = 16 := fun x hx => by
    obtain ⟨y, hy, _, rfl⟩ := mem_ofL.1 (hR'.perm.mem_iff.1 hx)
    exact (hw y hy).2
  have hfit : fitsB s.st.room (leaseN ix) (packL out') = true := by
    have h1 := lease_size ix hix
    have h2 := packL_len out' hkeys
    exact fits_of (by omega) (by omega) (by rw [← h.room]; omega)
  have hslot : Sto.slot s.st.recs < s.st.recs.length := slot_of_live (by omega)
  have e0 : layR s ix out' = putR s.st (leaseN ix) (packL out') := by unfold layR; rw [if_neg (fun e => hne' (List.eq_nil_of_length_eq_zero e))]
  rw [e0] at herr hs'
  have hput := h.st.put hm (RecOk.lease ix out' hix (ofR_leOk hw hg hR' hne'))
  generalize putR s.st (leaseN ix) (packL out') = R at hput herr hs'
  cases hput with
  | arg h' => rw [hfit] at h'; cases h'
  | full _ h' => omega
  | torn _ _ _ _ hd _ _ _ _ _ => rw [hs] at hd; cases hd
  | done st' _ hsl hr hl' ho' hst =>
    subst herr
    rw [if_pos (.inl rfl)] at hs'
    subst hs'
    rcases hc with ⟨_, a2, a3, a4, a5⟩ | ⟨a1, _⟩ | ⟨a1, _⟩
    · exact ⟨rfl, a2, a3, ⟨_, a4⟩, a5.trans hs, rfl, by show st'.recs.length = _; rw [hr, putF_len], by show liveN st'.recs ≤ _; rw [hr]; exact live_le hsl _ _⟩
    · omega
    · omega
structure OneS (m n : Nat) (b : List UInt8) (T : List Les) (s : SrvS) : Prop where
  g : SrvG m s
  stops : s.st.disk.stops = false
  tab : s.tab.Perm T
  share : Sto.look s.st.recs (shareN z16 0) = some b
  only : ∀ nm, Sto.look s.st.recs nm ≠ none → nm = shareN z16 0 ∨ nm = leaseN z16
  room : s.room = 8
  len : s.st.recs.length = 6
  live : liveN s.st.recs ≤ n
theorem OneS.lay {m n : Nat} {b : List UInt8} {T T' : List Les} {s : SrvS} (h : OneS m n b T s) (hm : m < 1000000) (hn : n ≤ 5) {l2 : List Les} (hg : Lea.Good l2) (hw : ∀ x ∈ l2, Wf x) (ho : ∀ ix', ix' ≠ z16 → (ofL l2 ix').Perm (ofL s.tab ix')) (hT : l2.Perm T') (h3 : (ofL T' z16).length ≤ 3) (h0 : ofL T' z16 ≠ []) {err : Int} {s' : SrvS} (hl : LayR s z16 l2 err s') : err = 0 ∧ OneS (m + 1) (n + 1) b T' s' := by
  have hp := (ofL_perm hT z16).length_eq
  have hlv := h.live
  obtain ⟨a1, a2, a3, ⟨o, a4⟩, a5, a6, a7, a8⟩ := h.g.lay_in hm (by decide) hg hw ho h.stops (by rw [h.room]; exact Nat.le_refl _) (by rw [h.len]; omega) (by omega) (fun e => h0 (List.eq_nil_of_length_eq_zero (by rw [e] at hp; exact hp.symm))) hl
  refine ⟨a1, ⟨a2, a5, by rw [a3]; exact hT, ?_, fun nm hn => ?_, a6.trans h.room, a7.trans h.len, by omega⟩⟩
  · rw [a4, upd, if_neg share_lease]; exact h.share
  · rw [a4, upd] at hn
    split at hn
    · rename_i e; exact .inr e
    · exact h.only nm hn
def k1 : Key := [1, 0, 0, 0, 0, 0, 0, 0, 0, 0, 0, 0, 0, 0, 0, 0]
def k2 : Key := [2, 0, 0, 0, 0, 0, 0, 0, 0, 0, 0, 0, 0, 0, 0, 0]
theorem OneS.renew {m n : Nat} {x : List UInt8} {a b : Int} {s : SrvS} (h : OneS m n x [⟨z16, k1, a⟩] s) (hm : m < 1000000) (hn : n ≤ 5) {r : Req} (hr : r.ix = z16 ∧ r.sec = k2 ∧ r.ends = b) (hb : May b) {o : Option (Key × List Blob)} {err : Int} {s' : SrvS} (hR : RenSrv s r o err s') : err = 0 ∧ OneS (m + 1) (n + 1) x [⟨z16, k1, a⟩, ⟨z16, k2, b⟩] s' := by
  obtain ⟨h1, h2, h3⟩ := hr
  have hsh : s.shares z16 ≠ [] := by
    rw [shares_one (x := some x)]
    · simp
    · intro n hn
      rw [h.g.get]
      by_cases e : n = 0
      · subst e; rw [if_pos rfl]; exact h.share
      · rw [if_neg e]
        cases hh : Sto.look s.st.recs (shareN z16 n) with
        | none => rfl
        | some y =>
          rcases h.only _ (by show Sto.look s.st.recs (shareN z16 n) ≠ none; rw [hh]; simp) with e' | e'
          · exact absurd (shareN_inj e' rfl rfl hn (by decide)).2 e
          · exact absurd e' share_lease
  have htab := List.perm_singleton.1 h.tab
  cases hR with
  | none h' => rw [h1] at h'; exact absurd h'.2 hsh
  | form _ hm' => rw [h3] at hm'; exact absurd hb hm'
  | add _ _ _ _ hA =>
    rw [h1, h2, h3] at hA
    cases hA with
    | full ha =>
      cases ha with
      | no ha =>
        rcases ha with ha | ⟨_, ha⟩
        · exact absurd hb ha
        · rw [htab] at ha
          simp [ofL] at ha
    | laid l2 _ _ ha hl =>
      refine h.lay hm hn (ha.good h.g.good) (ha.wf h.g.wf (by decide) (by decide)) (fun ix' hn => ha.other hn) ?_ (by simp [ofL]) (by simp [ofL]) hl
      cases ha with
      | more k y _ _ hy _ hy2 _ =>
        rw [htab] at hy
        have := List.mem_of_getElem? hy
        rw [List.mem_singleton.1 this] at hy2
        exact absurd hy2 (by show k1 ≠ k2; decide)
      | new _ _ _ _ hp => rw [htab] at hp; exact hp
theorem OneS.cancel {m n : Nat} {x : List UInt8} {a b : Int} {s : SrvS} (h : OneS m n x [⟨z16, k1, a⟩, ⟨z16, k2, b⟩] s) (hm : m < 1000000) (hn : n ≤ 5) {err : Int} {s' : SrvS} (hR : CanSrv s z16 k2 err s') : err = 0 ∧ OneS (m + 1) (n + 1) x [⟨z16, k1, a⟩] s' := by
  cases hR with
  | no ha =>
    cases ha with
    | no hk => exact absurd ⟨rfl, rfl⟩ (hk ⟨z16, k2, b⟩ (h.tab.mem_iff.2 (by simp)))
  | laid l2 _ _ ha hl =>
    refine h.lay hm hn (ha.good h.g.good) (fun y hy => h.g.wf y (ha.sub y hy)) (fun ix' hn => ha.other hn) ?_ (by simp [ofL]) (by simp [ofL]) hl
    cases ha with
    | gone y _ h1 h2 hp =>
      have hp2 := hp.trans h.tab
      have hy : y = ⟨z16, k2, b⟩ := by
        rcases List.mem_cons.1 (hp2.mem_iff.1 (List.mem_cons_self)) with e | e
        · rw [e] at h2; exact absurd h2 (by show k1 ≠ k2; decide)
        · exact List.mem_singleton.1 e
      subst hy
      exact (hp2.trans (List.Perm.swap _ _ _)).cons_inv
theorem OneS.again {m n : Nat} {x : List UInt8} {a : Int} {s : SrvS} (h : OneS m n x [⟨z16, k1, a⟩] s) {err : Int} {s' : SrvS} (hR : CanSrv s z16 k2 err s') : err = 4 ∧ s' = s := by
  cases hR with
  | no _ => exact ⟨rfl, rfl⟩
  | laid l2 _ _ ha hl =>
    cases ha with
    | gone y _ h1 h2 hp =>
      have := (hp.trans h.tab).mem_iff.1 (List.mem_cons_self)
      rw [List.mem_singleton.1 this] at h2
      exact absurd h2 (by show k1 ≠ k2; decide)
theorem OneS.restart {m m' n : Nat} {x : List UInt8} {T : List Les} {s s' : SrvS} (h : OneS m n x T s) (hT : T ≠ []) (hTz : ∀ y ∈ T, y.ix = z16) (hg : SrvG m' s') (hl : ∀ nm, Sto.look s'.st.recs nm = Sto.look s.st.recs nm) :
    (∀ y ∈ s'.tab, y.ix = z16) ∧ s'.tab ≠ [] ∧ ∀ now : Int, (∃ y ∈ s'.tab, now < y.e) ↔ ∃ y ∈ T, now < y.e := by
  have hz : ∀ y ∈ s'.tab, y.ix = z16 := fun y hy => by
    rcases hg.tab y.ix (hg.wf y hy).1 with ⟨_, h2⟩ | ⟨o, h1, _, _⟩
    · exact absurd rfl (ofL_nil.1 h2 y hy)
    · rw [hl] at h1
      rcases h.only (leaseN y.ix) (by rw [h1]; simp) with e | e
      · exact absurd e.symm share_lease
      · exact leaseN_inj e
  obtain ⟨y0, hy0⟩ := List.exists_mem_of_ne_nil _ hT
  rcases h.g.tab z16 (by decide) with ⟨_, h2⟩ | ⟨o, h1, h2, h3⟩
  · exact absurd (hTz y0 hy0) (ofL_nil.1 h2 y0 (h.tab.mem_iff.2 hy0))
  have ho : ∀ y ∈ o, y.1.length = 16 ∧ May y.2 := fun y hy => by
    obtain ⟨z, hz1, _, rfl⟩ := mem_ofL.1 (h2.perm.mem_iff.1 hy)
    exact ⟨(h.g.wf z hz1).2, h.g.good.ends z hz1⟩
  have h4 := hg.told (ix := z16) (by decide) ho (by rw [hl]; exact h1)
  have key : ∀ now : Int, (∃ y ∈ s'.tab, now < y.e) ↔ ∃ y ∈ T, now < y.e := fun now => by
    have e1 := h4.lives now
    have e2 := h2.lives now
    have e3 : (∃ y ∈ s'.tab, now < y.e) ↔ Lives s'.tab z16 now := ⟨fun ⟨y, a, c⟩ => ⟨y, a, hz y a, c⟩, fun ⟨y, a, _, c⟩ => ⟨y, a, c⟩⟩
    have e4 : (∃ y ∈ T, now < y.e) ↔ Lives s.tab z16 now := ⟨fun ⟨y, a, c⟩ => ⟨y, h.tab.mem_iff.2 a, hTz y a, c⟩, fun ⟨y, a, _, c⟩ => ⟨y, h.tab.mem_iff.1 a, c⟩⟩
    rw [e3, e4, e1, e2]
  refine ⟨hz, fun e => ?_, key⟩
  obtain ⟨y, hy, _⟩ := (key (y0.e - 1)).2 ⟨y0, hy0, by omega⟩
  rw [e] at hy; exact List.not_mem_nil hy
end Go.Mem
end
section
namespace Go.Proofs.YtbbojbdigiibbaaGreatDoor
open Go Go.RowKit Go.Mem Gf Lea
set_option linter.unusedVariables false
theorem SrvL.tick {w0 w : World} {C : Nat → Prop} {pb : Nat} {s : SrvS} (h : SrvL w0 w C pb s) {m : Nat} (hg : SrvG m s) (hm : m < 900000) (ht : s.tab.length ≤ 1000) (now : Int) :
    Calls Tryz.prog 32 #[.pointer (some ⟨pb, 0, none⟩), .int .i64 now] w fun e w' => ∃ a c out C' s', e = .returned (.slice a out.length c) ∧ TickR s now out s' ∧ SrvL w0 w' C' pb s' ∧ SChg C C' w w' := by
  refine (tick_calls C _ pb s m now w h.srv hg.st hg.brk (hg.srvB (by omega)) hm (by rw [← hg.slots]; exact hg.few) ht).mono ?_
  rintro e w' ⟨vo, out, C', s', rfl, hT, hO, _, hs', hsc⟩
  obtain ⟨a, c, rfl, _⟩ := hO.slice
  exact ⟨a, c, out, C', s', rfl, hT, h.sch hs' hsc, hsc⟩
def putK (e : Int) (u : Value) : Req := ⟨2, z16, k1, e, z16, .slice none 0 0, u⟩
def renK (e : Int) : Req := ⟨5, z16, k2, e, z16, .slice none 0 0, .slice none 0 0⟩
def canK : Req := ⟨6, z16, k2, 0, z16, .slice none 0 0, .slice none 0 0⟩
theorem putK_wf (e : Int) (u : Value) : (putK e u).Wf := ⟨by show z16.length = 16; decide, by show k1.length = 16; decide, by show z16.length = 16; decide⟩
theorem renK_wf (e : Int) : (renK e).Wf := ⟨by show z16.length = 16; decide, by show k2.length = 16; decide, by show z16.length = 16; decide⟩
theorem canK_wf : canK.Wf := ⟨by show z16.length = 16; decide, by show k2.length = 16; decide, by show z16.length = 16; decide⟩
theorem putK_eq (e : Int) (u : Value) : RF.V ⟨.int .i64 2, zk, [Value.int .u8 1, .int .u8 0, .int .u8 0, .int .u8 0, .int .u8 0, .int .u8 0, .int .u8 0, .int .u8 0, .int .u8 0, .int .u8 0, .int .u8 0, .int .u8 0, .int .u8 0, .int .u8 0, .int .u8 0, .int .u8 0], .int .i64 e, zk, .slice none 0 0, u⟩ = reqV (putK e u) := rfl
theorem renK_eq (e : Int) : RF.V ⟨.int .i64 5, zk, [Value.int .u8 2, .int .u8 0, .int .u8 0, .int .u8 0, .int .u8 0, .int .u8 0, .int .u8 0, .int .u8 0, .int .u8 0, .int .u8 0, .int .u8 0, .int .u8 0, .int .u8 0, .int .u8 0, .int .u8 0, .int .u8 0], .int .i64 e, zk, .slice none 0 0, .slice none 0 0⟩ = reqV (renK e) := rfl
theorem canK_eq : RF.V ⟨.int .i64 6, zk, [Value.int .u8 2, .int .u8 0, .int .u8 0, .int .u8 0, .int .u8 0, .int .u8 0, .int .u8 0, .int .u8 0, .int .u8 0, .int .u8 0, .int .u8 0, .int .u8 0, .int .u8 0, .int .u8 0, .int .u8 0, .int .u8 0], .int .i64 0, zk, .slice none 0 0, .slice none 0 0⟩ = reqV canK := rfl
theorem putK_all (e : Int) (a : Option Addr) (n c : Nat) : AllK 52 (reqV (putK e (.slice a n c))) := reqV_all (putK_wf e _) rfl rfl
theorem putK_cut (e : Int) (a : Option Addr) (n c : Nat) : cutC (reqV (putK e (.slice a n c))).toArray 0 52 = reqV (putK e (.slice a n c)) := cutC_all (reqV_len (putK_wf e _))
theorem putK_size (e : Int) (a : Option Addr) (n c : Nat) : (reqV (putK e (.slice a n c))).length = 52 := reqV_len (putK_wf e _)
theorem renK_all (e : Int) : AllK 52 (reqV (renK e)) := reqV_all (renK_wf e) rfl rfl
theorem renK_cut (e : Int) : cutC (reqV (renK e)).toArray 0 52 = reqV (renK e) := cutC_all (reqV_len (renK_wf e))
theorem renK_size (e : Int) : (reqV (renK e)).length = 52 := reqV_len (renK_wf e)
end Go.Proofs.YtbbojbdigiibbaaGreatDoor
end
section
namespace Lea
theorem tab_few {l : List Les} (h : Good l) {ix : Key} (hz : ∀ y ∈ l, y.ix = ix) : l.length ≤ 1000 := by
  have h1 := h.few ix
  have : ofL l ix = l.map fun x => (x.sec, x.e) := by
    unfold ofL
    rw [List.filter_eq_self.2 fun y hy => by simpa using hz y hy]
  rw [this, List.length_map] at h1
  omega
end Lea
namespace Go.Proofs.YtbbojbdigiibbaaGreatDoor
open Go Go.RowKit Go.Mem Gf Lea
set_option linter.unusedVariables false
attribute [local irreducible] RF.V zk reqV
attribute [local go_sem ↓] Go.wp_at_zero Go.wp_at_succ
attribute [local go_sem ↓] load_req store_req build_req_cttt build_req_ctt build_req_ct
attribute [local go_sem] Value.oneCell' reqOf reqFit List.foldl_cons List.foldl_nil List.all_cons List.all_nil rfs0 rfs1 rfs2 rfs3 rfs4 rfs5 rfs6 rfz ok0 ok1 ok2 ok3 ok4 ok5 ok6 fld_reply0 fld_reply1
attribute [local go_sem] ptrB_eq ptrO_eq ptrIs_eq aggL_eq aggIs_eq readK_drew hasK_drew readK_alloc_past hasK_alloc_past readK_alloc_in hasK_alloc_in setCells_drew setCells_alloc_past hasK_zeroR setCells_zeroR putK_eq putK_all putK_cut putK_size renK_eq renK_all renK_cut renK_size canK_eq
set_option maxRecDepth 20000 in
set_option maxHeartbeats 4000000 in
theorem serverRenews_walk (w : World) (hT : Tab w) (p : Int) (_hp : -9223372036854775808 ≤ p ∧ p ≤ 9223372036854775807) (q : Int) (_hq : -9223372036854775808 ≤ q ∧ q ≤ 9223372036854775807) (now0 : Int) (_hn : -9223372036854775808 ≤ now0 ∧ now0 ≤ 9223372036854775807) (can : Bool) :
    Calls Tryz.prog 9 #[.int .i64 p, .int .i64 q, .int .i64 now0, .bool can] w fun e w' => e = .returned (.bool true) ∧ Below w.heap.size w w' := by
  have HT := Lib.hid hT
  clear hT _hp _hq _hn
  go_enter Tryz.func9, Tryz.ntmps9
  go_wp2_with fail
  refine (srvnew_calls 6 8 w HT.out (by omega) (by omega) (by omega)).mono ?_
  rintro e w1 ⟨pb, C, rfl, hS, hC, hb1⟩
  have HL := Lib.hid (show SrvL w w1 C pb (freshS 6 8) from ⟨hS, hb1, hC⟩)
  clear hS hC hb1
  obtain ⟨hx1, hx2⟩ := within_range p 20 (by decide)
  obtain ⟨hy1, hy2⟩ := within_range q 20 (by decide)
  obtain ⟨hz1, hz2⟩ := within_range now0 25 (by decide)
  obtain ⟨a, ha⟩ : ∃ x, x = within p 20 := ⟨_, rfl⟩
  obtain ⟨b, hb⟩ : ∃ x, x = within q 20 := ⟨_, rfl⟩
  obtain ⟨now, hnow⟩ : ∃ x, x = within now0 25 := ⟨_, rfl⟩
  have HA := Lib.hid ha; have HB := Lib.hid hb; have HN := Lib.hid hnow
  rw [← ha] at hx1 hx2
  rw [← hb] at hy1 hy2
  rw [← hnow] at hz1 hz2
  clear ha hb hnow
  go_upto_region 4 with fail
  go_wp2_with fail
  refine (within_calls p 20 (by decide) (by decide) _).mono ?_
  rintro e w2 ⟨rfl, rfl⟩
  rw [← HA.out]
  go_wp2_with fail
  refine (within_calls q 20 (by decide) (by decide) _).mono ?_
  rintro e w2 ⟨rfl, rfl⟩
  rw [← HB.out]
  go_wp2_with fail
  refine (within_calls now0 25 (by decide) (by decide) _).mono ?_
  rintro e w2 ⟨rfl, rfl⟩
  rw [← HN.out]
  go_upto_region 7 with fail
  have hbA : Below w1.heap.size w1 (w1.alloc (.cells #[Value.int .u8 5] 5)) := (Below.refl _ _).alloc (Nat.le_refl _) _
  have hbB := hbA.alloc hbA.size (.cells #[Value.int .i64 0, Value.slice (some ⟨w1.heap.size, 0, none⟩) 1 1] 53)
  have hbD := hbB.alloc hbB.size (.cells (reqV (putK (1 + a) (.slice (some ⟨w1.heap.size + 1, 0, none⟩) 1 1))).toArray 47)
  have hbE := hbD.alloc hbD.size (.cells (reqV (renK (1 + b))).toArray 47)
  have hkB : Blk ((w1.alloc (.cells #[Value.int .u8 5] 5)).alloc (.cells #[Value.int .i64 0, Value.slice (some ⟨w1.heap.size, 0, none⟩) 1 1] 53)) (w1.heap.size + 1) #[Value.int .i64 0, Value.slice (some ⟨w1.heap.size, 0, none⟩) 1 1] 53 := Blk.new_at _ _ _ _ (by simp)
  have hdA : Bys (w1.alloc (.cells #[Value.int .u8 5] 5)) (.slice (some ⟨w1.heap.size, 0, none⟩) 1 1) [5] := bys_one w1 5 _ rfl _
  have hkB2 := (hkB.alloc (.cells (reqV (putK (1 + a) (.slice (some ⟨w1.heap.size + 1, 0, none⟩) 1 1))).toArray 47)).alloc (.cells (reqV (renK (1 + b))).toArray 47)
  have hdB := ((hdA.below ((Below.refl _ _).alloc (Nat.le_refl _) (.cells #[Value.int .i64 0, Value.slice (some ⟨w1.heap.size, 0, none⟩) 1 1] 53))).below ((Below.refl _ _).alloc (Nat.le_refl _) (.cells (reqV (putK (1 + a) (.slice (some ⟨w1.heap.size + 1, 0, none⟩) 1 1))).toArray 47))).below ((Below.refl _ _).alloc (Nat.le_refl _) (.cells (reqV (renK (1 + b))).toArray 47))
  have hkD : Blk (((w1.alloc (.cells #[Value.int .u8 5] 5)).alloc (.cells #[Value.int .i64 0, Value.slice (some ⟨w1.heap.size, 0, none⟩) 1 1] 53)).alloc (.cells (reqV (putK (1 + a) (.slice (some ⟨w1.heap.size + 1, 0, none⟩) 1 1))).toArray 47)) (w1.heap.size + 1 + 1) (reqV (putK (1 + a) (.slice (some ⟨w1.heap.size + 1, 0, none⟩) 1 1))).toArray 47 := Blk.new_at _ _ _ _ (by simp)
  have hkD2 := hkD.alloc (.cells (reqV (renK (1 + b))).toArray 47)
  have hkE : Blk ((((w1.alloc (.cells #[Value.int .u8 5] 5)).alloc (.cells #[Value.int .i64 0, Value.slice (some ⟨w1.heap.size, 0, none⟩) 1 1] 53)).alloc (.cells (reqV (putK (1 + a) (.slice (some ⟨w1.heap.size + 1, 0, none⟩) 1 1))).toArray 47)).alloc (.cells (reqV (renK (1 + b))).toArray 47)) (w1.heap.size + 1 + 1 + 1) (reqV (renK (1 + b))).toArray 47 := Blk.new_at _ _ _ _ (by simp)
  obtain ⟨wd, hwd⟩ : ∃ q, q = (((w1.alloc (.cells #[Value.int .u8 5] 5)).alloc (.cells #[Value.int .i64 0, Value.slice (some ⟨w1.heap.size, 0, none⟩) 1 1] 53)).alloc (.cells (reqV (putK (1 + a) (.slice (some ⟨w1.heap.size + 1, 0, none⟩) 1 1))).toArray 47)).alloc (.cells (reqV (renK (1 + b))).toArray 47) := ⟨_, rfl⟩
  rw [← hwd] at hbE hkB2 hdB hkD2 hkE ⊢
  have hlD := hkE.lt
  have hnC : ∀ b, w1.heap.size ≤ b → ¬ C b := fun b hb hC => by have := HL.out.old hC; omega
  have hbl : BlAt wd C (.slice (some ⟨w1.heap.size + 1, 0, none⟩) 1 1) [(0, [5])] := blAt_one (a := some ⟨w1.heap.size, 0, none⟩) (bs := [5]) hkB2 (hnC _ (by omega)) ⟨hdB, _, _, rfl, fun _ b hb => by cases hb; exact ⟨by show w1.heap.size < _; omega, hnC _ (Nat.le_refl _)⟩⟩
  obtain ⟨p8, hp8⟩ : ∃ q, q = w1.heap.size + 1 := ⟨_, rfl⟩
  obtain ⟨p9, hp9⟩ : ∃ q, q = w1.heap.size + 1 + 1 := ⟨_, rfl⟩
  obtain ⟨p7, hp7⟩ : ∃ q, q = w1.heap.size + 1 + 1 + 1 := ⟨_, rfl⟩
  rw [← hp7] at hkE hlD ⊢
  rw [← hp9] at hkD2 ⊢
  rw [← hp8] at hkD2 hbl ⊢
  have hn9 := hnC p9 (by omega)
  have hn7 := hnC p7 (by omega)
  obtain ⟨A, hA⟩ : ∃ x, x = 1 + a := ⟨_, rfl⟩
  obtain ⟨B, hB⟩ : ∃ x, x = 1 + b := ⟨_, rfl⟩
  rw [← hA] at hkD2 ⊢
  rw [← hB] at hkE ⊢
  have hmA : May A := ⟨by omega, by omega⟩
  have hmB : May B := ⟨by omega, by omega⟩
  have hA2 : A ≤ 20 := by omega
  have hB2 : B ≤ 20 := by omega
  have r7 : readK 52 wd p7 0 = reqV (renK B) := blk_read0 hkE (renK_size _)
  have g7 : HasK 52 wd p7 0 := blk_has hkE (by simp [renK_size])
  have HG := freshS_good 6 8 (by omega) (by omega)
  obtain ⟨s0, hs0⟩ : ∃ x, x = freshS 6 8 := ⟨_, rfl⟩
  have hsl : s0.slots = 6 ∧ s0.room = 8 ∧ s0.tab = [] ∧ s0.st.recs = List.replicate 6 Sto.Rec.free := by rw [hs0]; exact ⟨rfl, rfl, rfl, rfl⟩
  have HL0 := HL.out.step hbE
  rw [← hs0] at HL0 HG
  have H0 := Lib.hid (And.intro HL0 (And.intro HG hsl))
  have HD := Lib.hid (And.intro hkD2 (And.intro hkE (And.intro hbl (And.intro hn9 hn7))))
  have HM := Lib.hid (And.intro hmA (And.intro hmB (And.intro hA2 hB2)))
  clear hbA hbB hbD hbE hkB hdA hkB2 hdB hkD hkD2 hkE hwd hlD hnC hbl hp7 hp8 hp9 hn9 hn7 HG hs0 hsl HL0 HL hmA hmB hA2 hB2 hA hB hx1 hx2 hy1 hy2 HA HB
  have g0 := H0.out.2.1.1
  have hsh0 : s0.shares z16 = [] := shares_one (x := none) fun n hn => by
    rw [g0.get, H0.out.2.1.2.1]; split <;> rfl
  have hct0 : ContIs s0 z16 none := by show s0.st.get _ = none; rw [g0.get, H0.out.2.1.2.1]
  have hBs := g0.srvB (by decide)
  go_wp2_with fail
  refine (H0.out.1.renew g0.live hBs (renK_wf B) rfl hct0).mono ?_
  rintro e w2 ⟨C2, err, s1, rfl, hR, hL2, hsc⟩
  obtain ⟨rfl, rfl⟩ : err = 4 ∧ s0 = s1 := by
    cases hR with
    | none _ => exact ⟨rfl, rfl⟩
    | form h _ => exact absurd ⟨rfl, hsh0⟩ h
    | add _ _ h _ _ => exact absurd ⟨rfl, hsh0⟩ h
  have hk9 := hsc.1.blk HD.out.1 HD.out.2.2.2.1
  have hk7 := hsc.1.blk HD.out.2.1 HD.out.2.2.2.2
  have hnn : ∀ x, ¬ C x → x < wd.heap.size → ¬ C2 x := fun x hx hl hC => by
    rcases hsc.2 _ hC with h1 | h1
    · exact hx h1
    · omega
  have hn9 := hnn p9 HD.out.2.2.2.1 HD.out.1.lt
  have hn7 := hnn p7 HD.out.2.2.2.2 HD.out.2.1.lt
  have r9 : readK 52 w2 p9 0 = reqV (putK A (.slice (some ⟨p8, 0, none⟩) 1 1)) := blk_read0 hk9 (putK_size _ _ _ _)
  have g9 : HasK 52 w2 p9 0 := blk_has hk9 (by simp [putK_size])
  have H2 := Lib.hid (And.intro hL2 (And.intro hk7 (And.intro hn7 (BlAt.sch HD.out.2.2.1 hsc))))
  clear hR hL2 hsc hk9 hk7 hnn hn9 hn7 r7 g7 hct0 hsh0
  go_wp2_with fail
  refine (H2.out.1.put g0.live hBs (by have := g0.st.writes; omega) (putK_wf A _) rfl H2.out.2.2.2 (fun x hx => by rw [List.mem_singleton.1 hx]; decide)).mono ?_
  rintro e w3 ⟨C3, err, s1, rfl, hP, hL3, hsc⟩
  have hres : err = 0 ∧ OneS 2 2 [5] [⟨z16, k1, A⟩] s1 := by
    have hlv : liveN s0.st.recs = 0 := by rw [H0.out.2.2.2.2.2]; exact live_free 6
    have hln : s0.st.recs.length = 6 := by rw [H0.out.2.2.2.2.2, List.length_replicate]
    rcases g0.put_one (E := A) (by decide) (putK_wf A _) (n := 0) (by decide) HM.out.1 (by decide) (H0.out.2.1.2.1 _) (by rw [H0.out.2.2.2.1]; exact Nat.le_refl _) (by omega) (fun b l2 ha => by
      rw [H0.out.2.2.2.2.1] at ha
      exact AddR.none rfl HM.out.1 ha) hP with ⟨a1, a2, a3, a4, a5, a6, a7, a8⟩ | ⟨_, a2, _⟩
    · have h4 : s1.st.recs.length = 6 := by rw [← a2.slots, a6, H0.out.2.2.1]
      refine ⟨a1, ⟨a2, a5.trans H0.out.2.1.2.2, a3, by rw [a4, upd, if_neg share_lease, upd]; exact if_pos rfl, fun nm hn => ?_, a7.trans H0.out.2.2.2.1, h4, by omega⟩⟩
      rw [a4, upd] at hn
      split at hn
      · rename_i e; exact .inr e
      · rw [upd] at hn
        split at hn
        · rename_i e; exact .inl e
        · exact absurd (H0.out.2.1.2.1 nm) hn
    · rw [H0.out.2.1.2.2] at a2; cases a2
  obtain ⟨rfl, hres⟩ := hres
  have hk7 := hsc.1.blk H2.out.2.1 H2.out.2.2.1
  have r7 : readK 52 w3 p7 0 = reqV (renK B) := blk_read0 hk7 (renK_size _)
  have g7 : HasK 52 w3 p7 0 := blk_has hk7 (by simp [renK_size])
  have H3 := Lib.hid (And.intro hL3 hres)
  clear hP hL3 hsc hres hk7 r9 g9 g0 hBs
  obtain ⟨o1, ho1⟩ := RecsOk.cont (s := s1) H3.out.2.g.st.recs H3.out.2.g.st.dead z16
  go_wp2_with fail
  refine (H3.out.1.renew H3.out.2.g.live (H3.out.2.g.srvB (by decide)) (renK_wf B) rfl ho1).mono ?_
  rintro e w4 ⟨C4, err, s2, rfl, hR, hL4, hsc⟩
  obtain ⟨rfl, hone⟩ := H3.out.2.renew (b := B) (by decide) (by decide) ⟨rfl, rfl, rfl⟩ HM.out.2.1 hR
  have H4 := Lib.hid (And.intro hL4 hone)
  clear hR hL4 hsc hone r7 g7 ho1
  cases can with
  | true =>
    go_upto_region 14 with fail
    refine (H4.out.1.cancel H4.out.2.g.live (H4.out.2.g.srvB (by decide)) canK_wf rfl).mono ?_
    rintro e w5 ⟨C5, err, s3, rfl, hR, hL5, _⟩
    obtain ⟨rfl, hone⟩ := H4.out.2.cancel (by decide) (by decide) hR
    have H5 := Lib.hid (And.intro hL5 hone)
    clear hR hL5 hone
    go_upto_region 14 with fail
    refine (H5.out.1.cancel H5.out.2.g.live (H5.out.2.g.srvB (by decide)) canK_wf rfl).mono ?_
    rintro e w5b ⟨C5b, err, s4, rfl, hR, hL5b, _⟩
    obtain ⟨rfl, rfl⟩ := H5.out.2.again hR
    have hone := H5.out.2
    obtain ⟨T, hT⟩ : ∃ T, T = [(⟨z16, k1, A⟩ : Les)] := ⟨_, rfl⟩
    obtain ⟨lst, hlst⟩ : ∃ x, x = A := ⟨_, rfl⟩
    have h1 : T ≠ [] ∧ (∀ y ∈ T, y.ix = z16) ∧ ∀ n : Int, (∃ y ∈ T, n < y.e) ↔ n < lst := by
      subst hT hlst
      exact ⟨by simp, by simp, by simp⟩
    rw [← hT] at hone
    have HX := Lib.hid (And.intro hL5b (And.intro hone h1))
    clear hR hL5b hone hT h1
    go_upto_region 14 with fail
    rw [← hlst]
    clear hlst
    go_wp2_with fail
    refine (HX.out.1.restartT (.inl ⟨HX.out.2.1.g, fun _ => rfl⟩) (by decide)).mono ?_
    rintro e w6 ⟨C6, s6, rfl, hg6, hk6, hst6, hsl6, hro6, hL6, hsc6⟩
    have hz := HX.out.2.1.restart HX.out.2.2.1 HX.out.2.2.2.1 hg6 hk6
    have hsh6 : Sto.look s6.st.recs (shareN z16 0) = some [5] := by rw [hk6]; exact HX.out.2.1.share
    have hon6 : ∀ nm, Sto.look s6.st.recs nm ≠ none → nm = shareN z16 0 ∨ nm = leaseN z16 := fun nm hn => HX.out.2.1.only nm (by rw [← hk6]; exact hn)
    have hlt6 : (∃ y ∈ s6.tab, now < y.e) ↔ now < lst := (hz.2.2 now).trans (HX.out.2.2.2.2 now)
    have H6 := Lib.hid (And.intro hL6 (And.intro hg6 (And.intro hst6 (And.intro hsh6 (And.intro hon6 (And.intro hz.1 (And.intro hz.2.1 hlt6)))))))
    clear hg6 hk6 hst6 hsl6 hro6 hL6 hsc6 hz hsh6 hon6 hlt6
    go_wp2_with fail
    refine (H6.out.1.tick H6.out.2.1 (by decide) (tab_few H6.out.2.1.good H6.out.2.2.2.2.2.1) now).mono ?_
    rintro e w7 ⟨va, vc, out, C7, s7, rfl, hT, hL7, _⟩
    have hres := tick_one H6.out.2.1 (by decide) H6.out.2.2.1 H6.out.2.2.2.1 H6.out.2.2.2.2.1 H6.out.2.2.2.2.2.1 H6.out.2.2.2.2.2.2.1 hT
    obtain ⟨hd7, hB7, hyes, hnot⟩ := hres
    have H7 := Lib.hid (And.intro hL7 (And.intro hd7 hB7))
    clear hT hL7 hd7 hB7
    by_cases hlt : now < lst
    · obtain ⟨rfl, hs7, hlv⟩ := hyes (H6.out.2.2.2.2.2.2.2.2 hlt)
      have HV := Lib.hid (And.intro hs7 hlv)
      clear hyes hnot hs7 hlv
      go_wp2_with fail
      refine (H7.out.1.shares H7.out.2.1 H7.out.2.2 z16 rfl).mono ?_
      rintro e w8 ⟨u, rfl, hO, hb8⟩
      rw [HV.out.1] at hO
      obtain ⟨ua, uc, rfl, _⟩ := hO.slice
      have H8 := Lib.hid (H7.out.1.step hb8)
      clear hO hb8
      go_wp2_with fail
      refine (H8.out.living H7.out.2.2 z16 rfl now).mono ?_
      rintro e w9 ⟨bb, rfl, hbb, hb9⟩
      obtain rfl : bb = true := hbb.2 HV.out.2
      have H9 := Lib.hid (H8.out.step hb9)
      clear hbb hb9
      go_wp2_with fail
      refine (wakes16_calls _ (H9.out.tab)).mono ?_
      rintro e w11 ⟨rfl, hb11⟩
      go_wp2_with fail
      go_ret
      exact ⟨rfl, H9.out.bel.trans (hb11.mono H9.out.bel.size)⟩
    · have hall : ∀ y ∈ s6.tab, y.e ≤ now := fun y hy => Int.not_lt.1 fun hc => hlt (H6.out.2.2.2.2.2.2.2.1 ⟨y, hy, hc⟩)
      obtain ⟨ho7, hs7, hlv⟩ := hnot hall
      obtain ⟨on, hon⟩ : ∃ n, n = out.length := ⟨_, rfl⟩
      rw [← hon] at ho7
      subst ho7
      rw [← hon]
      have HV := Lib.hid (And.intro hs7 hlv)
      clear hyes hnot hs7 hlv hall hon
      go_wp2_with fail
      refine (H7.out.1.shares H7.out.2.1 H7.out.2.2 z16 rfl).mono ?_
      rintro e w8 ⟨u, rfl, hO, hb8⟩
      rw [HV.out.1] at hO
      obtain ⟨ua, uc, rfl, _⟩ := hO.slice
      have H8 := Lib.hid (H7.out.1.step hb8)
      clear hO hb8
      go_wp2_with fail
      refine (H8.out.living H7.out.2.2 z16 rfl now).mono ?_
      rintro e w9 ⟨bb, rfl, hbb, hb9⟩
      obtain rfl : bb = false := Bool.eq_false_iff.2 fun h => HV.out.2 (hbb.1 h)
      have H9 := Lib.hid (H8.out.step hb9)
      clear hbb hb9
      go_wp2_with fail
      refine (wakes16_calls _ (H9.out.tab)).mono ?_
      rintro e w11 ⟨rfl, hb11⟩
      go_wp2_with fail
      go_ret
      exact ⟨(by show Ending.returned (Value.bool (!decide (now < lst))) = _; rw [show decide (now < lst) = false from decide_eq_false (by omega)]; rfl), H9.out.bel.trans (hb11.mono H9.out.bel.size)⟩
  | false =>
    go_upto_region 14 with fail
    have hone := H4.out.2
    obtain ⟨T, hT⟩ : ∃ T, T = [(⟨z16, k1, A⟩ : Les), ⟨z16, k2, B⟩] := ⟨_, rfl⟩
    obtain ⟨lst, hlst⟩ : ∃ x, x = max A B := ⟨_, rfl⟩
    have h1 : T ≠ [] ∧ (∀ y ∈ T, y.ix = z16) ∧ ∀ n : Int, (∃ y ∈ T, n < y.e) ↔ n < lst := by
      subst hT hlst
      refine ⟨by simp, by simp, fun n => ?_⟩
      simp only [List.mem_cons, List.not_mem_nil, or_false, exists_eq_or_imp, exists_eq_left]
      omega
    rw [← hT] at hone
    have HX := Lib.hid (And.intro H4.out.1 (And.intro hone h1))
    clear hone hT h1
    rw [← hlst]
    clear hlst
    go_wp2_with fail
    refine (HX.out.1.restartT (.inl ⟨HX.out.2.1.g, fun _ => rfl⟩) (by decide)).mono ?_
    rintro e w6 ⟨C6, s6, rfl, hg6, hk6, hst6, hsl6, hro6, hL6, hsc6⟩
    have hz := HX.out.2.1.restart HX.out.2.2.1 HX.out.2.2.2.1 hg6 hk6
    have hsh6 : Sto.look s6.st.recs (shareN z16 0) = some [5] := by rw [hk6]; exact HX.out.2.1.share
    have hon6 : ∀ nm, Sto.look s6.st.recs nm ≠ none → nm = shareN z16 0 ∨ nm = leaseN z16 := fun nm hn => HX.out.2.1.only nm (by rw [← hk6]; exact hn)
    have hlt6 : (∃ y ∈ s6.tab, now < y.e) ↔ now < lst := (hz.2.2 now).trans (HX.out.2.2.2.2 now)
    have H6 := Lib.hid (And.intro hL6 (And.intro hg6 (And.intro hst6 (And.intro hsh6 (And.intro hon6 (And.intro hz.1 (And.intro hz.2.1 hlt6)))))))
    clear hg6 hk6 hst6 hsl6 hro6 hL6 hsc6 hz hsh6 hon6 hlt6
    go_wp2_with fail
    refine (H6.out.1.tick H6.out.2.1 (by decide) (tab_few H6.out.2.1.good H6.out.2.2.2.2.2.1) now).mono ?_
    rintro e w7 ⟨va, vc, out, C7, s7, rfl, hT, hL7, _⟩
    have hres := tick_one H6.out.2.1 (by decide) H6.out.2.2.1 H6.out.2.2.2.1 H6.out.2.2.2.2.1 H6.out.2.2.2.2.2.1 H6.out.2.2.2.2.2.2.1 hT
    obtain ⟨hd7, hB7, hyes, hnot⟩ := hres
    have H7 := Lib.hid (And.intro hL7 (And.intro hd7 hB7))
    clear hT hL7 hd7 hB7
    by_cases hlt : now < lst
    · obtain ⟨rfl, hs7, hlv⟩ := hyes (H6.out.2.2.2.2.2.2.2.2 hlt)
      have HV := Lib.hid (And.intro hs7 hlv)
      clear hyes hnot hs7 hlv
      go_wp2_with fail
      refine (H7.out.1.shares H7.out.2.1 H7.out.2.2 z16 rfl).mono ?_
      rintro e w8 ⟨u, rfl, hO, hb8⟩
      rw [HV.out.1] at hO
      obtain ⟨ua, uc, rfl, _⟩ := hO.slice
      have H8 := Lib.hid (H7.out.1.step hb8)
      clear hO hb8
      go_wp2_with fail
      refine (H8.out.living H7.out.2.2 z16 rfl now).mono ?_
      rintro e w9 ⟨bb, rfl, hbb, hb9⟩
      obtain rfl : bb = true := hbb.2 HV.out.2
      have H9 := Lib.hid (H8.out.step hb9)
      clear hbb hb9
      go_wp2_with fail
      refine (wakes16_calls _ (H9.out.tab)).mono ?_
      rintro e w11 ⟨rfl, hb11⟩
      go_wp2_with fail
      go_ret
      exact ⟨rfl, H9.out.bel.trans (hb11.mono H9.out.bel.size)⟩
    · have hall : ∀ y ∈ s6.tab, y.e ≤ now := fun y hy => Int.not_lt.1 fun hc => hlt (H6.out.2.2.2.2.2.2.2.1 ⟨y, hy, hc⟩)
      obtain ⟨ho7, hs7, hlv⟩ := hnot hall
      obtain ⟨on, hon⟩ : ∃ n, n = out.length := ⟨_, rfl⟩
      rw [← hon] at ho7
      subst ho7
      rw [← hon]
      have HV := Lib.hid (And.intro hs7 hlv)
      clear hyes hnot hs7 hlv hall hon
      go_wp2_with fail
      refine (H7.out.1.shares H7.out.2.1 H7.out.2.2 z16 rfl).mono ?_
      rintro e w8 ⟨u, rfl, hO, hb8⟩
      rw [HV.out.1] at hO
      obtain ⟨ua, uc, rfl, _⟩ := hO.slice
      have H8 := Lib.hid (H7.out.1.step hb8)
      clear hO hb8
      go_wp2_with fail
      refine (H8.out.living H7.out.2.2 z16 rfl now).mono ?_
      rintro e w9 ⟨bb, rfl, hbb, hb9⟩
      obtain rfl : bb = false := Bool.eq_false_iff.2 fun h => HV.out.2 (hbb.1 h)
      have H9 := Lib.hid (H8.out.step hb9)
      clear hbb hb9
      go_wp2_with fail
      refine (wakes16_calls _ (H9.out.tab)).mono ?_
      rintro e w11 ⟨rfl, hb11⟩
      go_wp2_with fail
      go_ret
      exact ⟨(by show Ending.returned (Value.bool (!decide (now < lst))) = _; rw [show decide (now < lst) = false from decide_eq_false (by omega)]; rfl), H9.out.bel.trans (hb11.mono H9.out.bel.size)⟩
end Go.Proofs.YtbbojbdigiibbaaGreatDoor
end
section
namespace Go.Proofs.YtbbojbdigiibbaaGreatDoor
open Go Go.RowKit Go.Mem
theorem tabT : (Tryz.prog.globals[gT]?).map (·.type) = some 295 := by kernel_rfl
theorem tab_of_laid {W : World} (h : laidMetH Tryz.prog [("math/bits.deBruijn32tab", Rows.laid_math_bits_deBruijn32tab), ("math/bits.deBruijn64tab", Rows.laid_math_bits_deBruijn64tab), ("internal/strconv.uint64pow10", Rows.laid_internal_strconv_uint64pow10)] W) : Tab W := by
  rw [MakeChecks.laidMetH_plain _ _ _ (by kernel_rfl)] at h
  obtain ⟨ps, ⟨g0, t0, cs0, f0, p0, q0, hg0, ht0, hv0, hd0, ⟨g1, t1, cs1, f1, p1, q1, hg1, ht1, hv1, hd1, ⟨g2, t2, cs2, f2, p2, q2, hg2, ht2, hv2, hd2, _, _⟩, _⟩, _⟩, _, _⟩ := h
  obtain rfl := Option.some.inj (gT_eq.symm.trans hg2)
  obtain rfl := Option.some.inj (tabT.symm.trans ht2)
  have hd : DataW.trod (fun _ => ()) Tryz.prog W 0 (fun _ => true) false f2 295 cs2.toList = some (Lib.tabData .u64 Lib.pow10Tab, p2) := hd2.trans (by rw [show (Rows.laid_internal_strconv_uint64pow10 : DataW Unit) = Lib.tabData .u64 Lib.pow10Tab from rfl])
  unfold Tab Lib.TabIs
  rw [hv2, ← Lib.cells_of_tab Tryz.underlying295 Tryz.underlying241 (by kernel_rfl) (by kernel_rfl) hd]
end Go.Proofs.YtbbojbdigiibbaaGreatDoor
end
