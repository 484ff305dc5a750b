/- A store of a law's own: what is read of it behind a Put, a torn one, a disk opened again; Cut of an argument's bytes. -/
import Derived.Test.YtmeegdicnfgjfaaDoorStoreLab
namespace Go.Mem
open Go Go.RowKit Gf Go.Proofs.YtmeegdicnfgjfaaDoor
theorem putF_look {l : List Sto.Rec} (ht : Sto.slot l < l.length) (name : ByteArray) (data : List UInt8) (nm : ByteArray) : Sto.look (putF l name data) nm = if nm = name then some data else Sto.look l nm := by
  rw [(putL_thin ht _ _).look, putL_look ht]
theorem putF_live {l : List Sto.Rec} (ht : Sto.slot l < l.length) (name : ByteArray) (data : List UInt8) : liveN (putF l name data) ≤ liveN l + 1 := by
  rw [live_putF ht]; split <;> omega
/-- what is read behind a Put on a disk that may stop -/
theorem torn_look {m : Nat} {s : St} (h : SGood m s) (hm : m < 1000000) (a k : Int) {name : ByteArray} {data : List UInt8} (hf : fitsB s.room name data = true) (ht : Sto.slot s.recs < s.recs.length) {R : Int × St} (hR : putR { s with disk := s.disk.stop a k } name data = R) :
    ∃ l, Holds R.2.disk s.room l ∧ l.length = s.recs.length ∧ Bnd (m + 1) l ∧ R.2.room = s.room ∧ R.2.disk.writes ≤ 2000 * (m + 1) ∧ ((R.1 = 0 ∧ R.2.disk.dead = false ∧ Sto.look l name = some data) ∨ (R.1 = 8 ∧ R.2.disk.dead = true ∧ (Sto.look l name = some data ∨ Sto.look l name = Sto.look s.recs name))) ∧ (∀ nm, nm ≠ name → Sto.look l nm = Sto.look s.recs nm) := by
  have hb : Bnd (m + 1) (putL s.recs name data) := h.bnd.set (by omega) _ (h.bnd.next name)
  have hlen : (putL s.recs name data).length = s.recs.length := by unfold putL; rw [List.length_set]
  have hth := putL_thin ht name data
  obtain ⟨⟨h1, h2⟩, h3⟩ := h.torn hm a k hf ht
  rw [hR] at h1 h2 h3
  rcases h3 with ⟨a1, a2, a3⟩ | ⟨a1, a2, l, a3, a4⟩
  · exact ⟨_, a3, hth.1.trans hlen, hb.thin hth, h1, h2, .inl ⟨a1, a2, by rw [putF_look ht, if_pos rfl]⟩, fun nm hn => by rw [putF_look ht, if_neg hn]⟩
  · rcases a4 with rfl | a4
    · exact ⟨_, a3, rfl, fun r hr => Nat.le_succ_of_le (h.bnd r hr), h1, h2, .inr ⟨a1, a2, .inr rfl⟩, fun _ _ => rfl⟩
    · exact ⟨l, a3, a4.1.trans hlen, hb.thin a4, h1, h2, .inr ⟨a1, a2, .inl (by rw [a4.look, putL_look ht, if_pos rfl])⟩, fun nm hn => by rw [a4.look, putL_look ht, if_neg hn]⟩
end Go.Mem
namespace Go.Proofs.YtmeegdicnfgjfaaDoor
open Go Go.RowKit Go.Mem Gf
attribute [local go_sem ↓] Go.wp_at_zero Go.wp_at_succ
/-- a disk that was started again is opened -/
theorem lab_reopen {w0 w : World} {d L : Nat} {D : DiskS} {m slots room : Nat} {l : List Sto.Rec} (h : Lab w0 w d L D.start) (ht : gT ≠ d ∧ gT ≠ L) (hh : Holds D room l) (hm : Bnd m l) (hm1 : m < 1000000) (hw : D.writes ≤ 2000 * m) (h1 : 1 ≤ slots ∧ slots ≤ 500) (h2 : 1 ≤ room ∧ room ≤ 1000) (hl : l.length = slots) :
    Calls Tryd.prog 10 #[.pointer (some ⟨d, 0, none⟩), .int .i64 slots, .int .i64 room] w fun e w' => ∃ s sb lb, e = .returned (.tuple #[.pointer (some ⟨sb, 0, none⟩), .int .i64 0]) ∧ LabS w0 w' sb lb d L s ∧ SGood (m + 1) s ∧ Sto.Thin l s.recs ∧ s.room = room ∧ Chg (DL d L) w w' := by
  obtain ⟨l', D', t1, t2, t3⟩ := good_reopen hh hm hw (by omega) h2
  rw [hl] at t2
  refine (lab_open h ht slots room (by omega) (by omega) (by rw [← hl]; exact hh.1) (by show D.writes < _; omega)).mono ?_
  rintro e w1 ⟨p, rfl, hc, _, hp⟩
  rw [t2] at hp ⊢
  rcases hp with ⟨h, _⟩ | ⟨s, sb, lb, e1, rfl, e3⟩
  · cases h
  · cases e1
    exact ⟨_, sb, lb, rfl, e3, t3, t1, rfl, hc⟩
set_option maxRecDepth 100000 in
set_option maxHeartbeats 1000000 in
theorem cut8_two (v : Value) (bs : List UInt8) (n : Nat) (w0 w : World) (h0 : Bys w0 v bs) (h : Bys w v bs) :
    Calls Tryd.prog 12 #[v, .int .i64 n] w fun e w' => (∃ v', e = .returned v' ∧ Bys w0 v' (bs.take n)) ∧ w = w' := by
  have hl := h.len
  obtain ⟨a, cap, rfl, h1, h2, h3⟩ := id h
  obtain ⟨l, hl'⟩ : ∃ l, l = bs.length := ⟨_, rfl⟩
  rw [← hl'] at hl h h1 h0 ⊢
  have Hl := Lib.hid hl'; have H3 := Lib.hid h3; have H2 := Lib.hid h2; have H0 := Lib.hid h0; clear hl' h3 h2 h0
  by_cases hlt : n < l
  · go_enter Tryd.func12, Tryd.ntmps12
    go_wp2
    go_ret
    refine ⟨⟨_, rfl, ?_⟩, rfl⟩
    show Bys w0 (.slice a (min (l : Int) (n : Int)).toNat cap) _
    rw [show (min (l : Int) (n : Int)).toNat = n from by omega]
    exact H0.out.take n (by have := Hl.out; omega)
  · go_enter Tryd.func12, Tryd.ntmps12
    go_wp2
    go_ret
    refine ⟨⟨_, rfl, ?_⟩, rfl⟩
    show Bys w0 (.slice a (min (l : Int) (n : Int)).toNat cap) _
    rw [show (min (l : Int) (n : Int)).toNat = l from by omega, List.take_of_length_le (by have := Hl.out; omega)]
    exact H0.out
end Go.Proofs.YtmeegdicnfgjfaaDoor
namespace Go.Mem
open Go Go.RowKit Gf Go.Proofs.YtmeegdicnfgjfaaDoor
theorem slot_full {l : List Sto.Rec} (h : liveN l = l.length) : Sto.slot l = l.length := by
  refine Classical.byContradiction fun hn => ?_
  have ht := slot_lt hn
  have h0 : l[Sto.slot l]? = some l[Sto.slot l] := by simp [ht]
  unfold liveN at h
  rw [List.countP_eq_length] at h
  have := h l[Sto.slot l] (by simp)
  rw [slot_not h0] at this
  cases this
theorem put_full {s : St} (hs : s.dead = false) {name : ByteArray} {data : List UInt8} (hf : fitsB s.room name data = true) (h : liveN s.recs = s.recs.length) : putR s name data = (3, s) := by
  unfold putR
  rw [if_neg (by simp [hs]), if_neg (by simp [hf]), if_pos (slot_full h)]
theorem best_of_look {l : List Sto.Rec} {nm : ByteArray} (h : Sto.look l nm = none) : Sto.best l nm l.length = none := by
  unfold Sto.look at h
  simpa using h
theorem best_of_some {l : List Sto.Rec} {nm : ByteArray} {x : List UInt8} (h : Sto.look l nm = some x) : ∃ k, Sto.best l nm l.length = some k := by
  unfold Sto.look at h
  cases hb : Sto.best l nm l.length with
  | none => rw [hb] at h; cases h
  | some k => exact ⟨k, rfl⟩
/-- what is read behind a Drop on a disk that may stop -/
theorem torn_drop {m : Nat} {s : St} (h : SGood m s) (a k : Int) {name : ByteArray} {x : List UInt8} (hl : Sto.look s.recs name = some x) {R : Int × St} (hR : dropR { s with disk := s.disk.stop a k } name = R) :
    ∃ l, Holds R.2.disk s.room l ∧ l.length = s.recs.length ∧ Bnd (m + 1) l ∧ R.2.disk.writes ≤ 2000 * (m + 1) ∧ ((R.1 = 0 ∧ Sto.look l name = none) ∨ (R.1 = 8 ∧ (Sto.look l name = none ∨ Sto.look l name = some x))) ∧ (∀ nm, nm ≠ name → Sto.look l nm = Sto.look s.recs nm) := by
  obtain ⟨q, hq⟩ := best_of_some hl
  obtain ⟨rq, hq1, _⟩ := (Sto.best_top _ _ _).1 q hq
  have hw := h.writes
  obtain ⟨s', hs'⟩ : ∃ s' : St, s' = { s with disk := s.disk.stop a k } := ⟨_, rfl⟩
  have e : R = (s'.freeE q, s'.freeS q) := by
    rw [← hR, ← hs']
    unfold dropR
    rw [if_neg (by rw [hs']; simp [h.dead])]
    have : s'.recs = s.recs := by rw [hs']
    rw [this, hq]
  have hb1 : Bnd (m + 1) s.recs := fun r hr => Nat.le_succ_of_le (h.bnd r hr)
  have hb2 : Bnd (m + 1) (s.recs.set q Sto.Rec.free) := h.bnd.set (by omega) q (Nat.zero_le _)
  have hwr : (s'.freeS q).disk.writes ≤ s'.disk.writes + 1 := DiskS.wr_writes _ _ _
  have hw' : s'.disk.writes = s.disk.writes := by rw [hs']; rfl
  have hlk := Sto.look_drop h.uniq hq
  have hgone : Sto.look (s.recs.set q Sto.Rec.free) name = none := by rw [hlk, if_pos rfl]
  have hrest : ∀ nm, nm ≠ name → Sto.look (s.recs.set q Sto.Rec.free) nm = Sto.look s.recs nm := fun nm hn => by rw [hlk, if_neg hn]
  have hlen : (s.recs.set q Sto.Rec.free).length = s.recs.length := List.length_set
  have hF := free_law (s := s') (i := q) (by rw [hs']; exact h.holds.stop a k) (by rw [hs']; exact h.disk) (by rw [hs']; exact h.dead) (by rw [hs']; exact hq1)
  rw [show s'.recs = s.recs from by rw [hs'], show s'.room = s.room from by rw [hs']] at hF
  rw [e]
  rcases hF with ⟨a1, a2, a3, a4, a5⟩ | ⟨a1, a2, a2', a3, a4, a5, a6⟩
  · exact ⟨_, a5, hlen, hb2, by simp only; omega, .inl ⟨a1, hgone⟩, hrest⟩
  · rcases a6 with a6 | a6
    · exact ⟨_, a6, rfl, hb1, by simp only; omega, .inr ⟨a1, .inr hl⟩, fun _ _ => rfl⟩
    · exact ⟨_, a6, hlen, hb2, by simp only; omega, .inr ⟨a1, .inl hgone⟩, hrest⟩
end Go.Mem
namespace Go.Proofs.YtmeegdicnfgjfaaDoor
open Go Go.RowKit Go.Mem Gf
theorem lab_drop {w0 w : World} {sb lb d L : Nat} {s : St} (h : LabS w0 w sb lb d L s) (name : ByteArray) (hfew : s.disk.writes < 72057594037927936) :
    Calls Tryd.prog 30 #[.pointer (some ⟨sb, 0, none⟩), .string name] w fun e w' => e = .returned (.int .i64 (dropR s name).1) ∧ LabS w0 w' sb lb d L (dropR s name).2 ∧ Chg (Foot sb lb d L) w w' := by
  refine (sdrop_calls _ sb lb d L s name w h.st hfew).mono ?_
  rintro e w1 ⟨rfl, h1, hc⟩
  exact ⟨rfl, ⟨h1, Chg.far h.bel hc h.bel.size (fun k hk => by rcases hk with rfl | rfl | rfl | rfl; exact h.s1; exact h.b1; exact h.d1; exact h.l1), h.d1, h.l1, h.s1, h.b1⟩, hc⟩
end Go.Proofs.YtmeegdicnfgjfaaDoor
