/- Texts of this proof, packed: SrvMem, RefMath, Ref01, SrvName, SrvBlobs. -/
import Derived.Test.YtbbojbdigiibbaaGreatDoorPk10
import Derived.Test.YtbbojbdigiibbaaGreatDoorPk14
import Derived.Test.YtbbojbdigiibbaaGreatDoorPk00
import Derived.Test.YtbbojbdigiibbaaGreatDoorPk03
import Derived.Deep.RegionHeld3
section
namespace Go.Mem
open Go Go.RowKit Gf Lea
structure SrvS where
  slots : Nat
  room : Nat
  st : St
  tab : List Les
  broken : Bool
def SrvS.dead (s : SrvS) : Bool := s.broken || (s.st.disk.dead || s.st.dead)
def shareN (ix : Key) (n : Nat) : ByteArray := ⟨(115 :: (ix ++ [UInt8.ofNat n])).toArray⟩
def slotN (ix : Key) : ByteArray := ⟨(99 :: ix).toArray⟩
def leaseN (ix : Key) : ByteArray := ⟨(108 :: ix).toArray⟩
end Go.Mem
namespace Go.Proofs.YtbbojbdigiibbaaGreatDoor
open Go Go.RowKit Go.Mem Gf Lea
def Core (pb sb lb d L tb : Nat) (v : Value) (b : Nat) : Prop := Foot sb lb d L b ∨ b = pb ∨ b = tb ∨ v.ownBlock = some b
def srvV (slots room d sb tb : Nat) (broken : Bool) : Array Value := #[.int .i64 slots, .int .i64 room, .pointer (some ⟨d, 0, none⟩), .pointer (some ⟨sb, 0, none⟩), .pointer (some ⟨tb, 0, none⟩), .bool broken]
structure SrvAt (w : World) (C X : Nat → Prop) (pb sb lb d L tb : Nat) (v : Value) (s : SrvS) : Prop where
  blk : Blk w pb (srvV s.slots s.room d sb tb s.broken) 95
  st : IsStore w (fun b => C b ∨ X b) sb lb d L s.st
  heap : Heap w tb v s.tab
  good : Lea.Good s.tab
  core : ∀ b, Core pb sb lb d L tb v b → C b
  xc : ∀ b, X b → ¬ C b
  npb : ¬ Foot sb lb d L pb
  ntb : ¬ Foot sb lb d L tb ∧ tb ≠ pb
  nown : ∀ g, v.ownBlock = some g → ¬ Foot sb lb d L g ∧ g ≠ pb
def IsSrv (w : World) (C X : Nat → Prop) (pb : Nat) (s : SrvS) : Prop := ∃ sb lb d L tb v, SrvAt w C X pb sb lb d L tb v s
section
variable {w w' : World} {C X S : Nat → Prop} {pb sb lb d L tb : Nat} {v : Value} {s : SrvS}
theorem SrvAt.lt (h : SrvAt w C X pb sb lb d L tb v s) {b : Nat} (hb : C b ∨ X b) : b < w.heap.size := h.st.old b hb
theorem SrvAt.pb_lt (h : SrvAt w C X pb sb lb d L tb v s) : pb < w.heap.size := h.blk.lt
theorem SrvAt.tab (h : SrvAt w C X pb sb lb d L tb v s) : Tab w := h.st.tab
theorem SrvAt.chg (h : SrvAt w C X pb sb lb d L tb v s) (hc : Chg S w w') (h1 : ∀ b, S b → ¬ C b) (h2 : ∀ b, S b → b < w.heap.size → X b) : SrvAt w' C X pb sb lb d L tb v s := by
  have hk : ∀ b, Core pb sb lb d L tb v b → ¬ S b := fun b hb hS => h1 b hS (h.core b hb)
  exact ⟨hc.blk h.blk (hk _ (.inr (.inl rfl))), h.st.chg hc (fun b hb => hk b (.inl hb)) (fun b hS hlt => .inr (h2 b hS hlt)), ⟨h.heap.tab.chg hc (hk _ (.inr (.inr (.inl rfl)))) (fun g hg => hk g (.inr (.inr (.inr hg)))), h.heap.heap⟩, h.good, h.core, h.xc, h.npb, h.ntb, h.nown⟩
theorem SrvAt.below (h : SrvAt w C X pb sb lb d L tb v s) (hb : Below w.heap.size w w') : SrvAt w' C X pb sb lb d L tb v s :=
  h.chg (S := fun _ => False) (Chg.of_below hb) (fun _ h => h.elim) (fun _ h => h.elim)
theorem IsSrv.below (h : IsSrv w C X pb s) (hb : Below w.heap.size w w') : IsSrv w' C X pb s := by
  obtain ⟨sb, lb, d, L, tb, v, h⟩ := h
  exact ⟨sb, lb, d, L, tb, v, h.below hb⟩
theorem IsSrv.chg (h : IsSrv w C X pb s) (hc : Chg S w w') (h1 : ∀ b, S b → ¬ C b) (h2 : ∀ b, S b → b < w.heap.size → X b) : IsSrv w' C X pb s := by
  obtain ⟨sb, lb, d, L, tb, v, h⟩ := h
  exact ⟨sb, lb, d, L, tb, v, h.chg hc h1 h2⟩
theorem IsSrv.lt (h : IsSrv w C X pb s) {b : Nat} (hb : C b ∨ X b) : b < w.heap.size := by
  obtain ⟨sb, lb, d, L, tb, v, h⟩ := h
  exact h.lt hb
theorem IsSrv.tab (h : IsSrv w C X pb s) : Tab w := by
  obtain ⟨sb, lb, d, L, tb, v, h⟩ := h
  exact h.tab
theorem IsSrv.good (h : IsSrv w C X pb s) : Lea.Good s.tab := by
  obtain ⟨sb, lb, d, L, tb, v, h⟩ := h
  exact h.good
theorem IsSrv.ok (h : IsSrv w C X pb s) : s.st.Ok := by
  obtain ⟨sb, lb, d, L, tb, v, h⟩ := h
  exact h.st.ok
theorem IsSrv.growX {X' : Nat → Prop} (h : IsSrv w C X pb s) (h1 : ∀ b, X b → X' b) (h2 : ∀ b, X' b → X b ∨ w.heap.size ≤ b) (hb : Below w.heap.size w w') (h3 : ∀ b, X' b → b < w'.heap.size) : IsSrv w' C X' pb s := by
  obtain ⟨sb, lb, d, L, tb, v, h⟩ := h
  have h' := h.below hb
  have hs := hb.size
  refine ⟨sb, lb, d, L, tb, v, h'.blk, h.st.grow (S := fun _ => False) (Chg.of_below hb) (fun _ _ h => h) (fun _ h => h.elim) (fun b hM => ?_) (fun b hN => ?_) (fun b hM => ?_), h'.heap, h'.good, h'.core, fun b hX hC => ?_, h'.npb, h'.ntb, h'.nown⟩
  · rcases hM with hM | hM
    · exact .inl (.inl hM)
    · rcases h2 b hM with h | h
      · exact .inl (.inr h)
      · exact .inr h
  · rcases hN with hN | hN
    · exact .inl hN
    · exact .inr (h1 b hN)
  · rcases hM with hM | hM
    · exact Nat.lt_of_lt_of_le (h.lt (.inl hM)) hs
    · exact h3 b hM
  · rcases h2 b hX with h4 | h4
    · exact h.xc b h4 hC
    · have := h.lt (.inl hC); omega
def SChg (C C' : Nat → Prop) (w w' : World) : Prop := Chg C w w' ∧ ∀ b, C' b → C b ∨ w.heap.size ≤ b
theorem SChg.of_below (hb : Below w.heap.size w w') : SChg C C w w' := ⟨Chg.of_below hb, fun _ h => .inl h⟩
theorem SChg.trans {C1 C2 : Nat → Prop} {w1 w2 : World} (h : SChg C C1 w w1) (h' : SChg C1 C2 w1 w2) : SChg C C2 w w2 :=
  ⟨h.1.mix h'.1 (fun b hb => h.2 b hb), fun b hb => by
    rcases h'.2 b hb with h1 | h1
    · exact h.2 b h1
    · exact .inr (Nat.le_trans h.1.size h1)⟩
theorem SChg.pre {C' : Nat → Prop} {w1 : World} (hb : Below w.heap.size w w1) (h' : SChg C C' w1 w') : SChg C C' w w' := (SChg.of_below hb).trans h'
theorem SChg.post {C' : Nat → Prop} {w1 : World} (h : SChg C C' w w1) (hb : Below w1.heap.size w1 w') : SChg C C' w w' := h.trans (SChg.of_below hb)
end
attribute [local go_sem ↓] Go.wp_at_zero Go.wp_at_succ
set_option maxRecDepth 100000 in
theorem sdead_calls (N : Nat → Prop) (sb lb d L : Nat) (s : St) (w : World) (h : IsStore w N sb lb d L s) :
    Calls Tryz.prog 44 #[.pointer (some ⟨sb, 0, none⟩)] w fun e w' => e = .returned (.bool s.dead) ∧ w = w' := by
  obtain ⟨lc, hS, hlc1, hlc2⟩ := h.blk
  have c3 : w.cell? ⟨sb, 3, none⟩ = some (.bool s.dead) := hS.cell 3
  clear h hS
  go_enter Tryz.func44, Tryz.ntmps44
  go_wp2
  go_ret
  exact ⟨rfl, rfl⟩
set_option maxRecDepth 100000 in
theorem srvdead_calls (C X : Nat → Prop) (pb : Nat) (s : SrvS) (w : World) (h : IsSrv w C X pb s) :
    Calls Tryz.prog 19 #[.pointer (some ⟨pb, 0, none⟩)] w fun e w' => e = .returned (.bool s.dead) ∧ w = w' := by
  obtain ⟨sb, lb, d, L, tb, v, h⟩ := h
  have c5 : w.cell? ⟨pb, 5, none⟩ = some (.bool s.broken) := h.blk.cell 5
  have c2 : w.cell? ⟨pb, 2, none⟩ = some (.pointer (some ⟨d, 0, none⟩)) := h.blk.cell 2
  have c3 : w.cell? ⟨pb, 3, none⟩ = some (.pointer (some ⟨sb, 0, none⟩)) := h.blk.cell 3
  have H := Lib.hid h
  clear h
  cases hbr : s.broken with
  | true =>
    have HD := Lib.hid (show s.dead = true from by unfold SrvS.dead; rw [hbr]; rfl)
    rw [hbr] at c5
    clear hbr
    go_enter Tryz.func19, Tryz.ntmps19
    go_wp2
    go_ret
    exact ⟨by rw [HD.out]; rfl, rfl⟩
  | false =>
    have HD := Lib.hid (show s.dead = (s.st.disk.dead || s.st.dead) from by unfold SrvS.dead; rw [hbr]; rfl)
    rw [hbr] at c5
    clear hbr
    go_enter Tryz.func19, Tryz.ntmps19
    go_wp2_with fail
    refine (ddead_calls d L s.st.disk w H.out.st.disk).mono ?_
    rintro e w1 ⟨rfl, rfl⟩
    cases hdd : s.st.disk.dead with
    | true =>
      rw [hdd] at HD
      clear hdd
      go_wp2
      go_ret
      exact ⟨by rw [HD.out]; rfl, rfl⟩
    | false =>
      rw [hdd] at HD
      clear hdd
      go_wp2_with fail
      refine (sdead_calls _ sb lb d L s.st w H.out.st).mono ?_
      rintro e w1 ⟨rfl, rfl⟩
      obtain ⟨b, hb⟩ : ∃ b, b = s.st.dead := ⟨_, rfl⟩
      rw [← hb] at HD ⊢
      clear hb
      cases b
      all_goals
        go_wp2
        go_ret
        exact ⟨by rw [HD.out]; rfl, rfl⟩
set_option maxRecDepth 100000 in
theorem fails_calls (n : Int) (w : World) : Calls Tryz.prog 45 #[.int .i64 n] w fun e w' => e = .returned (.agg #[.int .i64 n, .slice none 0 0]) ∧ Below w.heap.size w w' := by
  go_enter Tryz.func45, Tryz.ntmps45
  go_wp2_with fail
  exact bodyPost_ret (v := .agg #[.int .i64 n, .slice none 0 0]) (by simp [results, Tryz.results45, go_sem]) rfl ⟨rfl, (Below.refl _ _).alloc (Nat.le_refl _) _⟩
set_option maxRecDepth 100000 in
theorem time_calls (e : Int) (w : World) : Calls Tryz.prog 141 #[.int .i64 e] w fun r w' => r = .returned (.bool (decide (May e))) ∧ w = w' := by
  by_cases h1 : 1 ≤ e
  · by_cases h2 : e ≤ 1048576
    · have HD := Lib.hid (show decide (May e) = true from by simp [May, h1, h2])
      go_enter Tryz.func141, Tryz.ntmps141
      go_wp2
      go_ret
      exact ⟨by rw [HD.out]; rfl, rfl⟩
    · have HD := Lib.hid (show decide (May e) = false from by simp [May, h1, h2])
      go_enter Tryz.func141, Tryz.ntmps141
      go_wp2
      go_ret
      exact ⟨by rw [HD.out]; rfl, rfl⟩
  · have HD := Lib.hid (show decide (May e) = false from by simp [May, h1])
    go_enter Tryz.func141, Tryz.ntmps141
    go_wp2
    go_ret
    exact ⟨by rw [HD.out]; rfl, rfl⟩
end Go.Proofs.YtbbojbdigiibbaaGreatDoor
end
section
namespace Cod
open Go.Lib
end Cod
end
section
namespace Go.Proofs.YtbbojbdigiibbaaGreatDoor
open Go Go.RowKit Go.Mem Gf
attribute [local go_sem ↓] Go.wp_at_zero Go.wp_at_succ
theorem conv_one (u : UInt8) (w : World) (g : Nat) (h : w.cell? ⟨g, 0, none⟩ = some (.int .u8 ((u.toNat : Nat) : Int))) : (convert 51 9 (.slice (some ⟨g, 0, none⟩) 1 1)).run Tryz.prog w = .ok (.string ⟨#[u]⟩) w := by
  refine conv_string (bs := [u]) ⟨_, 1, rfl, by simp, maxLen_ge (by decide), fun _ => ⟨g, 0, rfl, fun i v hi => ?_⟩⟩
  cases i with
  | zero => simp at hi; subst hi; exact h
  | succ i => simp at hi
end Go.Proofs.YtbbojbdigiibbaaGreatDoor
end
section
namespace Go.Proofs.YtbbojbdigiibbaaGreatDoor
open Go Go.RowKit Go.Mem Gf Lea
attribute [local go_sem ↓] Go.wp_at_zero Go.wp_at_succ
theorem key_conv {ix : Key} (h : ix.length = 16) {w : World} {g : Nat} {t : TypeId} (hb : Blk w g (bV ix).toArray t) : (convert 51 9 (.slice (some ⟨g, 0, none⟩) 16 16)).run Tryz.prog w = .ok (.string ⟨ix.toArray⟩) w := by
  have h1 : Bys w (.slice (some ⟨g, 0, none⟩) ix.length 16) ix := Blk.bys hb (by omega) (maxLen_ge (by decide)) (fun k u hk => by simp [bV_get, hk])
  rw [h] at h1
  exact conv_string h1
theorem name_one (c : UInt8) (ix : Key) : ((⟨#[c]⟩ : ByteArray) ++ ⟨ix.toArray⟩) = ⟨(c :: ix).toArray⟩ := by
  apply ByteArray.ext
  rw [ByteArray.data_append]
  simp
theorem name_size (c : UInt8) {ix : Key} (h : ix.length = 16) : (⟨(c :: ix).toArray⟩ : ByteArray).size = 17 := by
  show (c :: ix).toArray.size = 17
  simp [h]
set_option maxRecDepth 100000 in
theorem slot_calls (ix : Key) (h : ix.length = 16) (w : World) : Calls Tryz.prog 108 #[.agg (bV ix).toArray] w fun e w' => e = .returned (.string (slotN ix)) ∧ Below w.heap.size w w' := by
  have hc := key_conv h (Blk.new w (bV ix).toArray 39)
  have hl : (bV ix).length = 16 := by rw [bV_len]; exact h
  have HN := Lib.hid (name_one 99 ix)
  have hz : (⟨ix.toArray⟩ : ByteArray).size = 16 := by show ix.toArray.size = 16; simp [h]
  have hm : 17 ≤ maxLen := maxLen_ge (by decide)
  clear h
  go_enter Tryz.func108, Tryz.ntmps108
  go_wp2_with fail
  go_ret
  exact ⟨by unfold slotN; rw [← HN.out]; rfl, (Below.refl _ _).alloc (Nat.le_refl _) _⟩
set_option maxRecDepth 100000 in
theorem leases_calls (ix : Key) (h : ix.length = 16) (w : World) : Calls Tryz.prog 58 #[.agg (bV ix).toArray] w fun e w' => e = .returned (.string (leaseN ix)) ∧ Below w.heap.size w w' := by
  have hc := key_conv h (Blk.new w (bV ix).toArray 39)
  have hl : (bV ix).length = 16 := by rw [bV_len]; exact h
  have HN := Lib.hid (name_one 108 ix)
  have hz : (⟨ix.toArray⟩ : ByteArray).size = 16 := by show ix.toArray.size = 16; simp [h]
  have hm : 17 ≤ maxLen := maxLen_ge (by decide)
  clear h
  go_enter Tryz.func58, Tryz.ntmps58
  go_wp2_with fail
  go_ret
  exact ⟨by unfold leaseN; rw [← HN.out]; rfl, (Below.refl _ _).alloc (Nat.le_refl _) _⟩
set_option maxRecDepth 100000 in
theorem share_calls (ix : Key) (h : ix.length = 16) (n : Nat) (hn : n < 16) (w : World) : Calls Tryz.prog 107 #[.agg (bV ix).toArray, .int .i64 n] w fun e w' => e = .returned (.string (shareN ix n)) ∧ Below w.heap.size w w' := by
  have hB := Blk.new w (bV ix).toArray 39
  have hc1 := key_conv h hB.drew
  have hc2 := fun o => key_conv h (hB.alloc o).drew
  have hl : (bV ix).length = 16 := by rw [bV_len]; exact h
  have hu : ((UInt8.ofNat n).toNat : Int) = (n : Int) := by rw [UInt8.toNat_ofNat']; omega
  have hv := conv_one (UInt8.ofNat n)
  rw [hu] at hv
  have w8 : IntKind.u8.wrap (n : Int) = (n : Int) := by unfold IntKind.wrap; simp [IntKind.bits, IntKind.signed]; omega
  obtain ⟨u, hue⟩ : ∃ u, u = UInt8.ofNat n := ⟨_, rfl⟩
  rw [← hue] at hv
  have HN := Lib.hid (show ((⟨#[115]⟩ : ByteArray) ++ ⟨ix.toArray⟩) ++ ⟨#[u]⟩ = shareN ix n from by
    unfold shareN
    apply ByteArray.ext
    rw [ByteArray.data_append, ByteArray.data_append, ← hue]
    simp)
  have hz : (⟨ix.toArray⟩ : ByteArray).size = 16 := by show ix.toArray.size = 16; simp [h]
  have hm : 18 ≤ maxLen := maxLen_ge (by decide)
  have hm2 : 17 ≤ maxLen := maxLen_ge (by decide)
  clear h hue hu
  go_enter Tryz.func107, Tryz.ntmps107
  go_wp2_with fail
  go_region_with fail
  all_goals
    go_wp2_with fail
    go_ret
    exact ⟨by rw [← HN.out]; rfl, of_drew (w := w) (((Below.refl _ _).alloc (by simp) _).alloc (by simp) _)⟩
end Go.Proofs.YtbbojbdigiibbaaGreatDoor
end
section
namespace Go.Mem
open Go Go.RowKit Gf
abbrev Blob := Int × List UInt8
def blV : List Blob → List Value → List Value
  | x :: l, v :: vs => [.int .i64 x.1, v] ++ blV l vs
  | _, _ => []
theorem blV_snoc : ∀ (l : List Blob) (vs : List Value) (x : Blob) (v : Value), vs.length = l.length → blV (l ++ [x]) (vs ++ [v]) = blV l vs ++ [.int .i64 x.1, v]
  | [], [], x, v, _ => rfl
  | x' :: l, v' :: vs, x, v, h => by
    simp only [List.cons_append, blV, List.append_assoc]
    rw [blV_snoc l vs x v (by simpa using h)]
theorem blV_get : ∀ (l : List Blob) (vs : List Value) (i : Nat) (x : Blob) (v : Value), l[i]? = some x → vs[i]? = some v → (blV l vs)[i * 2]? = some (.int .i64 x.1) ∧ (blV l vs)[i * 2 + 1]? = some v
  | x :: l, v :: vs, 0, x', v', h1, h2 => by
    simp at h1 h2
    subst h1 h2
    exact ⟨rfl, rfl⟩
  | x :: l, v :: vs, i + 1, x', v', h1, h2 => by
    have := blV_get l vs i x' v' (by simpa using h1) (by simpa using h2)
    have e : ∀ j, (blV (x :: l) (v :: vs))[(i + 1) * 2 + j]? = (blV l vs)[i * 2 + j]? := fun j => by
      rw [blV, List.getElem?_append_right (by simp; omega)]
      congr 1
      simp; omega
    exact ⟨by rw [show (i + 1) * 2 = (i + 1) * 2 + 0 from rfl, e]; exact this.1, by rw [e]; exact this.2⟩
  | [], _, i, x, v, h1, _ => by simp at h1
  | _ :: _, [], i, x, v, _, h2 => by simp at h2
def OwnBl (tr : TypeId) (w : World) (base : Nat) (N : Nat → Prop) (u : Value) (l : List Blob) : Prop :=
  ∃ vs : List Value, vs.length = l.length ∧ w.ownsRow base tr 2 u l.length (blV l vs) ∧ (∀ (j : Nat) (x : Blob) (v : Value), l[j]? = some x → vs[j]? = some v → DataAt w N v x.2) ∧ ∀ v ∈ vs, ∀ a n c, v = .slice (some a) n c → u.ownBlock ≠ some a.block
section
variable {tr : TypeId} {w w' : World} {base : Nat} {N S : Nat → Prop} {u u' v : Value} {l : List Blob} {x : Blob}
theorem OwnBl.nil (tr : TypeId) (w : World) (base : Nat) (N : Nat → Prop) : OwnBl tr w base N (.slice none 0 0) [] :=
  ⟨[], rfl, World.ownsRow_nil _ _ _ _, (fun j r v h => by simp at h), fun v h => by cases h⟩
theorem OwnBl.slice (h : OwnBl tr w base N u l) : ∃ a c, u = .slice a l.length c ∧ (0 < l.length → ∃ g, a = some ⟨g, 0, none⟩) := by
  obtain ⟨vs, _, h2, _⟩ := h
  exact own_eq_slice h2
theorem OwnBl.lt (h : OwnBl tr w base N u l) : ∀ g, u.ownBlock = some g → base ≤ g ∧ g < w.heap.size := by
  obtain ⟨vs, _, h2, _⟩ := h
  exact h2.lt
theorem OwnBl.chg (h : OwnBl tr w base N u l) (hc : Chg S w w') (h1 : ∀ g, u.ownBlock = some g → ¬ S g) (h2 : ∀ b, S b → b < w.heap.size → N b) : OwnBl tr w' base N u l := by
  obtain ⟨vs, a1, a2, a3, a4⟩ := h
  exact ⟨vs, a1, own_chg a2 hc h1, fun j x v hx hv => (a3 j x v hx hv).chg hc h2, a4⟩
theorem OwnBl.below (h : OwnBl tr w base N u l) (hb : Below w.heap.size w w') : OwnBl tr w' base N u l := h.chg (S := fun _ => False) (Chg.of_below hb) (fun _ _ h => h) (fun _ h => h.elim)
theorem OwnBl.mono {M : Nat → Prop} (h : OwnBl tr w base N u l) (hM : ∀ b, M b → N b ∨ w.heap.size ≤ b) : OwnBl tr w base M u l := by
  obtain ⟨vs, a1, a2, a3, a4⟩ := h
  exact ⟨vs, a1, a2, fun j x v hx hv => (a3 j x v hx hv).mono hM, a4⟩
theorem OwnBl.lower {b : Nat} (h : OwnBl tr w base N u l) (hb : b ≤ base) : OwnBl tr w b N u l := by
  obtain ⟨vs, a1, ⟨a2, a2'⟩, a3, a4⟩ := h
  refine ⟨vs, a1, ⟨a2, ?_⟩, a3, a4⟩
  rcases a2' with h | ⟨g, cap, cur, e, h1, h2⟩
  · exact .inl h
  · exact .inr ⟨g, cap, cur, e, Nat.le_trans hb h1, h2⟩
theorem OwnBl.push {vs : List Value} (h1 : vs.length = l.length) (h3 : ∀ (j : Nat) (x : Blob) (v : Value), l[j]? = some x → vs[j]? = some v → DataAt w N v x.2) (h4 : ∀ v ∈ vs, ∀ a n c, v = .slice (some a) n c → u.ownBlock ≠ some a.block)
    (hx : DataAt w N v x.2) (hne : ∀ a n c, v = .slice (some a) n c → u.ownBlock ≠ some a.block) (hown : w'.ownsRow base tr 2 u' (l.length + 1) (blV l vs ++ [.int .i64 x.1, v])) (hg : w.grownBy w' u.ownBlock) (hs : ∀ k, u'.ownBlock = some k → u.ownBlock = some k ∨ w.heap.size ≤ k) : OwnBl tr w' base N u' (l ++ [x]) := by
  have hd : ∀ (v : Value) (bs : List UInt8), DataAt w N v bs → (∀ a n c, v = .slice (some a) n c → u.ownBlock ≠ some a.block) → DataAt w' N v bs := by
    intro v bs hd hn
    obtain ⟨d1, a, c, rfl, d2⟩ := hd
    refine ⟨?_, a, c, rfl, fun b hb => ⟨Nat.lt_of_lt_of_le (d2 b hb).1 hg.size, (d2 b hb).2⟩⟩
    exact d1.chg (S := fun q => u.ownBlock = some q) (Chg.grown (Chg.refl _ _) hg (fun _ hq => .inl hq)) (fun a' n' c' e => by
      have := hn a' n' c' e
      exact this)
  have hlt : ∀ (v : Value) (bs : List UInt8), DataAt w N v bs → ∀ a n c, v = .slice (some a) n c → a.block < w.heap.size := by
    intro v bs hd a n c e
    obtain ⟨_, a', c', rfl, d2⟩ := hd
    injection e with e1 _ _
    exact (d2 a e1).1
  refine ⟨vs ++ [v], by simp [h1], by rw [blV_snoc l vs x v h1, List.length_append]; exact hown, fun j x' v' hx' hv' => ?_, fun v' hv' a n c e e2 => ?_⟩
  · rcases Nat.lt_or_ge j l.length with hj | hj
    · rw [List.getElem?_append_left hj] at hx'
      rw [List.getElem?_append_left (by omega)] at hv'
      exact hd _ _ (h3 j x' v' hx' hv') (h4 v' (List.mem_of_getElem? hv'))
    · rw [List.getElem?_append_right hj] at hx'
      rw [List.getElem?_append_right (by omega), h1] at hv'
      have hj0 : j - l.length = 0 := by
        rcases Nat.eq_zero_or_pos (j - l.length) with h | h
        · exact h
        · rw [List.getElem?_eq_none (by simp; omega)] at hx'; cases hx'
      rw [hj0] at hx' hv'
      simp at hx' hv'
      subst hx' hv'
      exact hd _ _ hx hne
  · rcases List.mem_append.1 hv' with hv' | hv'
    · obtain ⟨j, hj⟩ := List.mem_iff_getElem?.1 hv'
      have hjl : j < l.length := by have := (List.getElem?_eq_some_iff.1 hj).1; omega
      have hq := hlt _ _ (h3 j l[j] v' (by simp) hj) a n c e
      rcases hs _ e2 with h | h
      · exact h4 v' hv' a n c e h
      · omega
    · rw [List.mem_singleton.1 hv'] at e
      have hq := hlt _ _ hx a n c e
      rcases hs _ e2 with h | h
      · exact hne a n c e h
      · omega
end
end Go.Mem
namespace Go.Proofs.YtbbojbdigiibbaaGreatDoor
open Go Go.RowKit Go.Mem Gf Lea
theorem one2 (i : Int) (va : Option Addr) (n : Nat) {c : Nat} : ∀ u ∈ [Value.int .i64 i, .slice va n c], u.oneCell' = true := by
  intro u hu
  simp at hu
  rcases hu with rfl | rfl <;> rfl
theorem EKb : ElemK Tryz.prog 41 53 (.agg #[.int .i64 0, .slice none 0 0]) 2 32 := ⟨Tryz.underlying41, by kernel_rfl, rfl, by decide⟩
end Go.Proofs.YtbbojbdigiibbaaGreatDoor
namespace Go.Mem
def SrvS.sharesK (s : SrvS) (ix : Lea.Key) (k : Nat) : List Blob := (List.range k).filterMap fun n => (s.st.get (shareN ix n)).map fun b => ((n : Int), b)
theorem SrvS.sharesK_succ (s : SrvS) (ix : Lea.Key) (k : Nat) : s.sharesK ix (k + 1) = s.sharesK ix k ++ ((s.st.get (shareN ix k)).map fun b => ((k : Int), b)).toList := by
  unfold SrvS.sharesK
  rw [List.range_succ, List.filterMap_append]
  cases h : s.st.get (shareN ix k) <;> simp [h]
def SrvS.shares (s : SrvS) (ix : Lea.Key) : List Blob := s.sharesK ix 16
theorem SrvS.sharesK_len (s : SrvS) (ix : Lea.Key) : ∀ k, (s.sharesK ix k).length ≤ k
  | 0 => by simp [SrvS.sharesK]
  | k + 1 => by
    rw [SrvS.sharesK_succ, List.length_append]
    have := SrvS.sharesK_len s ix k
    cases s.st.get (shareN ix k) <;> simp <;> omega
end Go.Mem
namespace Go.Proofs.YtbbojbdigiibbaaGreatDoor
open Go Go.RowKit Go.Mem Gf Lea
attribute [local go_sem ↓] Go.wp_at_zero Go.wp_at_succ
set_option maxRecDepth 100000 in
set_option maxHeartbeats 1000000 in
theorem shares_calls (C X : Nat → Prop) (pb : Nat) (s : SrvS) (ix : Key) (hix : ix.length = 16) (w : World) (h : IsSrv w C X pb s) :
    Calls Tryz.prog 106 #[.pointer (some ⟨pb, 0, none⟩), .agg (bV ix).toArray] w fun e w' => ∃ u, e = .returned u ∧ OwnBl 53 w' w.heap.size (fun b => b < w.heap.size) u (s.shares ix) ∧ Below w.heap.size w w' := by
  obtain ⟨sb, lb, d, L, tb, v, h⟩ := h
  have H := Lib.hid h
  have hl : (bV ix).length = 16 := by rw [bV_len]; exact hix
  have HB := Lib.hid ((Below.refl w.heap.size w).alloc (Nat.le_refl _) (.cells (bV ix).toArray 39))
  have HK := Lib.hid (Blk.new w (bV ix).toArray 39)
  have HX := Lib.hid hix
  obtain ⟨ck, hck⟩ : ∃ c, c = bV ix := ⟨_, rfl⟩
  have HCK := Lib.hid hck
  rw [← hck] at hl HB HK ⊢
  have hu16 := Tryz.underlying39
  have hi16 : (Tryz.prog.info? 39).map (·.size) = some ck.length := by rw [hl]; exact i16
  clear h hix hck
  go_enter Tryz.func106, Tryz.ntmps106
  go_upto_region 3 with fail
  obtain ⟨p3, hp3⟩ : ∃ p, p = w.heap.size := ⟨_, rfl⟩
  rw [← hp3] at HK ⊢
  have HP := Lib.hid hp3
  clear hp3
  go_loopw [5, 9] (fun u vi wr => ∃ i : Nat, i ≤ 16 ∧ vi = .int .i64 i ∧ Hid (OwnBl 53 wr (w.heap.size + 1) (fun b => b < w.heap.size) u (s.sharesK ix i) ∧ Below w.heap.size w wr ∧ Blk wr p3 ck.toArray 39)) (fun _ vi _ => 16 - (intOf vi).toNat)
  case atStart => exact ⟨0, by omega, rfl, OwnBl.nil _ _ _ _, HB.out, HK.out⟩
  case round =>
    obtain ⟨i, hi, rfl, G⟩ := hrel
    by_cases h0 : i < 16
    · have c3 : wr.drew.cell? ⟨pb, 3, none⟩ = some (.pointer (some ⟨sb, 0, none⟩)) := (H.out.below G.out.2.1).blk.cell 3
      have r3 : wr.drew.rangeAt p3 0 ck := fun j v hj => by
        rw [(G.out.2.2.drew).cell, Nat.zero_add]
        simpa using hj
      go_upto_region 5 with fail
      go_region_held3 (fun w' => w'.cell? ⟨pb, 3, none⟩ = some (.pointer (some ⟨sb, 0, none⟩)) ∧ w'.rangeAt p3 0 ck) (first | exact ⟨c3, r3⟩ | with_reducible assumption)
        (first
          | (go_at_call 107
             refine (show Calls _ _ _ _ _ from (by rw [HCK.out]; exact share_calls ix HX.out i h0 wr.drew)).mono ?_
             rintro e w2 ⟨rfl, hb2⟩
             have hb2 : Below wr.heap.size wr w2 := of_drew hb2
             have hh : w2.cell? ⟨pb, 3, none⟩ = some (.pointer (some ⟨sb, 0, none⟩)) ∧ w2.rangeAt p3 0 ck := ⟨((H.out.below G.out.2.1).below hb2).blk.cell 3, fun j v hj => by
               rw [(G.out.2.2.kept hb2).cell, Nat.zero_add]
               simpa using hj⟩
             have HB2 := Lib.hid hb2
             clear hb2)
          | (go_at_call 57
             refine (sget_calls _ sb lb d L s.st (shareN ix i) w2 ((H.out.below G.out.2.1).below HB2.out).st).mono ?_
             rintro e w4 ⟨hb4, vg, rfl, hvg⟩
             have HG := Lib.hid (And.intro hb4 hvg)
             have hh : w4.cell? ⟨pb, 3, none⟩ = some (.pointer (some ⟨sb, 0, none⟩)) ∧ w4.rangeAt p3 0 ck := ⟨(((H.out.below G.out.2.1).below HB2.out).below hb4).blk.cell 3, fun j v hj => by
               rw [((G.out.2.2.kept HB2.out).kept hb4).cell, Nat.zero_add]
               simpa using hj⟩
             clear hb4 hvg))
      have hsucc := s.sharesK_succ ix i
      have hlen := s.sharesK_len ix i
      have hb24 : Below w.heap.size w w4 := (G.out.2.1.trans (HB2.out.mono G.out.2.1.size)).trans (HG.out.1.mono (Nat.le_trans G.out.2.1.size HB2.out.size))
      have hk4 := (G.out.2.2.kept HB2.out).kept HG.out.1
      have hO4 := (G.out.1.below HB2.out).below HG.out.1
      cases hget : s.st.get (shareN ix i) with
      | none =>
        rw [hget, Option.map_none, Option.toList_none, List.append_nil] at hsucc
        have HS := Lib.hid (And.intro hsucc (And.intro hb24 (And.intro hk4 hO4)))
        clear hsucc hlen hb24 hk4 hO4 hget c3 r3 hh
        rw [Option.isSome_none]
        go_wp2_with fail
        exact ⟨⟨i + 1, by omega, by simp, by rw [HS.out.1]; exact HS.out.2.2.2, HS.out.2.1, HS.out.2.2.1⟩, by show 16 - ((i : Int) + 1).toNat < 16 - (i : Int).toNat; omega⟩
      | some bs =>
        have hvg := HG.out.2
        rw [hget, Option.getD_some] at hvg
        rw [hget, Option.map_some, Option.toList_some] at hsucc
        obtain ⟨va, vc, rfl⟩ := hvg.eq_slice
        have hd : DataAt w4 (fun b => b < w.heap.size) (.slice va bs.length vc) bs := hvg.data fun b hb _ => by have := Nat.le_trans G.out.2.1.size HB2.out.size; omega
        have hdn : ∀ a n c, Value.slice va bs.length vc = .slice (some a) n c → u5.ownBlock ≠ some a.block := fun a n c e e2 => by
          injection e with e1 _ _
          have h1 := (hvg.lt a.block (by rw [e1]; simp [Value.ownBlock])).1
          have h2 := (G.out.1.lt _ e2).2
          have := HB2.out.size
          omega
        obtain ⟨ua, uc, rfl, _⟩ := hO4.slice
        have HS := Lib.hid (And.intro hsucc (And.intro hb24 (And.intro hk4 (And.intro hO4 (And.intro hd hdn)))))
        clear hsucc hb24 hk4 hO4 hget hvg hd hdn c3 r3 hh
        rw [Option.isSome_some]
        have hz4 : w.heap.size ≤ w4.heap.size := HS.out.2.1.size
        have HZ := Lib.hid (show w.heap.size + 1 ≤ w4.heap.size from by have := HS.out.2.2.1.lt; have := HP.out; omega)
        obtain ⟨vs, g1, g2, g3, g4⟩ := (HS.out.2.2.2.1.below ((Below.refl w4.heap.size w4).alloc (Nat.le_refl _) (.cells #[.int .i64 i, .slice va bs.length vc] 53)))
        have HV := Lib.hid (And.intro g1 (And.intro g2 (And.intro g3 g4)))
        clear g1 g2 g3 g4
        go_wp2_with
          (first
            | (refine to_list (by rfl) (fun _ hK => wpAppN EKb _ _ (by rfl) (base := w.heap.size + 1) [.int .i64 i, .slice va bs.length vc] (by rfl) (by rfl) (by rfl) (new_news (by rfl)) (one2 _ _ _) HV.out.2.1 (by omega) (by decide) (by have := HZ.out; simp; omega) hK) ?_
               intro x1 w6 hx1
               have H6 := Lib.hid hx1
               clear hx1)
            | fail)
        have hrow := OwnBl.push (x := ((i : Int), bs)) HV.out.1 HV.out.2.2.1 HV.out.2.2.2 (HS.out.2.2.2.2.1.chg (S := fun _ => False) (Chg.of_below ((Below.refl w4.heap.size w4).alloc (Nat.le_refl _) _)) (fun _ h => h.elim)) HS.out.2.2.2.2.2 H6.out.1 H6.out.2.1 H6.out.2.2
        have hb6 := grown_below (HS.out.2.1.alloc hz4 (.cells #[.int .i64 i, .slice va bs.length vc] 53)) H6.out.2.1 (fun k hk => by have := (G.out.1.lt k hk).1; omega)
        have hk6 := Blk.grown' (HS.out.2.2.1.alloc (.cells #[.int .i64 i, .slice va bs.length vc] 53)) H6.out.2.1 (fun e => by have := G.out.1.lt _ e; have := HP.out; omega)
        exact ⟨⟨i + 1, by omega, by simp, by rw [HS.out.1]; exact hrow, hb6, hk6⟩, by show 16 - ((i : Int) + 1).toNat < 16 - (i : Int).toNat; omega⟩
    · have hsh : s.sharesK ix i = s.shares ix := by unfold SrvS.shares; congr 1; omega
      have HSH := Lib.hid hsh
      clear hsh
      go_wp2_with fail
      go_ret
      exact ⟨_, rfl, by rw [← HSH.out]; exact G.out.1.lower (by omega), G.out.2.1⟩
end Go.Proofs.YtbbojbdigiibbaaGreatDoor
end
