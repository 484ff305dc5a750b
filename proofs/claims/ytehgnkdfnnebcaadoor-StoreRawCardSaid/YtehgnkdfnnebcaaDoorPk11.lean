/- Texts of this proof, packed: StoreRawWalk, OpenRows, TabOf. -/
import Derived.Test.YtehgnkdfnnebcaaDoorPk10
import Derived.Test.YtehgnkdfnnebcaaDoorPk01
import Derived.Test.YtehgnkdfnnebcaaDoorPk09
import Derived.Deep.Matrix
import Derived.Test.YtehgnkdfnnebcaaDoorRows
import Derived.Test.YtehgnkdfnnebcaaDoorPk02
import Derived.Lib.LaidTab
import Derived.LaidMore
section
namespace Go.Proofs.YtehgnkdfnnebcaaDoor
open Go Go.RowKit Go.Mem Gf
set_option linter.unusedVariables false
attribute [local go_sem ↓] Go.wp_at_zero Go.wp_at_succ
structure RawD (w0 w : World) (d Ld r B : Nat) (i : Nat) (D : DiskS) : Prop where
  disk : IsDisk w d Ld D
  rd : RDisk w r B D
  n : D.n = 12
  few : D.writes ≤ i
  bel : Below w0.heap.size w0 w
  far : w0.heap.size ≤ d ∧ w0.heap.size ≤ Ld ∧ w0.heap.size ≤ r ∧ w0.heap.size ≤ B
  ne : d ≠ r ∧ d ≠ B ∧ Ld ≠ r ∧ Ld ≠ B
def Four4 (d L r B : Nat) (b : Nat) : Prop := (b = d ∨ b = L) ∨ b = r ∨ b = B
theorem RawD.step {w0 w w' : World} {d Ld r B i : Nat} {D : DiskS} (h : RawD w0 w d Ld r B i D) (hb : Below w.heap.size w w') : RawD w0 w' d Ld r B i D :=
  { h with disk := h.disk.below hb, rd := h.rd.below hb, bel := h.bel.trans (hb.mono h.bel.size) }
theorem RawD.lt {w0 w : World} {d Ld r B i : Nat} {D : DiskS} (h : RawD w0 w d Ld r B i D) : d < w.heap.size ∧ Ld < w.heap.size ∧ r < w.heap.size ∧ B < w.heap.size :=
  ⟨h.disk.lt.1, h.disk.lt.2, h.rd.lt.1, h.rd.lt.2⟩
def Safe (w : World) (d Ld r B : Nat) (v : Value) (bs : List UInt8) : Prop := ∀ w', Chg (Four4 d Ld r B) w w' → Bys w' v bs
theorem Safe.old {w0 w : World} {d Ld r B i : Nat} {D : DiskS} (h : RawD w0 w d Ld r B i D) {v : Value} {bs : List UInt8} (hv : Bys w0 v bs) : Safe w d Ld r B v bs := fun w' hc =>
  hv.below (Chg.far h.bel hc h.bel.size (fun b hb => by have := h.far; rcases hb with (rfl | rfl) | rfl | rfl <;> omega))
theorem Safe.one {w0 w w1 : World} {d Ld r B i : Nat} {D : DiskS} (h : RawD w0 w d Ld r B i D) {u : UInt8} {t : TypeId} (hb : Blk w1 w.heap.size #[.int .u8 (u.toNat : Int)] t) : Safe w1 d Ld r B (.slice (some ⟨w.heap.size, 0, none⟩) 1 1) [u] := fun w' hc => by
  have hl := h.lt
  have hb' := hc.blk hb (fun e => by rcases e with (e | e) | e | e <;> omega)
  exact hb'.bys (bs := [u]) (cap := 1) (Nat.le_refl 1) (maxLen_ge (by decide)) (fun i x hi => by
    cases i with
    | zero => simp at hi; subst hi; rfl
    | succ i => simp at hi)
theorem u8_of (z : Int) : ∃ u : UInt8, IntKind.u8.wrap z = (u.toNat : Int) := by
  refine ⟨UInt8.ofNat (z % 256).toNat, ?_⟩
  rw [IntKind.wrap_u8]
  have h1 : 0 ≤ z % 256 := Int.emod_nonneg _ (by decide)
  have h2 : z % 256 < 256 := Int.emod_lt_of_pos _ (by decide)
  rw [UInt8.toNat_ofNat']
  omega
theorem raw_new {w wr : World} {d Ld r B i : Nat} {D : DiskS} (h : RawD w wr d Ld r B i D) (u : UInt8) : ∃ bs : List UInt8, bs.length ≤ 32 ∧ Safe (wr.alloc (.cells #[.int .u8 (u.toNat : Int)] 5)) d Ld r B (.slice (some ⟨wr.heap.size, 0, none⟩) 1 1) bs ∧ RawD w (wr.alloc (.cells #[.int .u8 (u.toNat : Int)] 5)) d Ld r B i D :=
  ⟨[u], (show 1 ≤ 32 by decide), Safe.one h (Blk.new _ _ _), h.step ((Below.refl _ _).alloc (Nat.le_refl _) _)⟩
theorem raw_old {w wr : World} {d Ld r B i : Nat} {D : DiskS} (h : RawD w wr d Ld r B i D) (z : Obj) {v : Value} {bs : List UInt8} (hv : Bys w v bs) (hl : bs.length ≤ 32) : ∃ bs : List UInt8, bs.length ≤ 32 ∧ Safe (wr.alloc z) d Ld r B v bs ∧ RawD w (wr.alloc z) d Ld r B i D :=
  ⟨bs, hl, Safe.old (h.step ((Below.refl _ _).alloc (Nat.le_refl _) _)) hv, h.step ((Below.refl _ _).alloc (Nat.le_refl _) _)⟩
theorem RawD.writ {w0 w w1 w2 : World} {d Ld r B i : Nat} {D D' : DiskS} (h : RawD w0 w d Ld r B i D) (hD : IsDisk w1 d Ld D') (hc1 : Chg (fun b => b = d ∨ b = Ld) w w1) (hR : RDisk w2 r B D') (hc2 : Chg (fun b => b = r ∨ b = B) w1 w2) (hn : D'.n = D.n) {j : Nat} (hw : D'.writes ≤ j) : RawD w0 w2 d Ld r B j D' where
  disk := hD.chg hc2 (fun e => by have := h.ne; omega) (fun e => by have := h.ne; omega)
  rd := hR
  n := hn.trans h.n
  few := hw
  bel := Chg.far (Chg.far h.bel hc1 h.bel.size (fun b hb => by have := h.far; have hb : b = d ∨ b = Ld := hb; omega)) hc2 (Nat.le_trans h.bel.size hc1.size) (fun b hb => by have := h.far; have hb : b = r ∨ b = B := hb; omega)
  far := h.far
  ne := h.ne
set_option maxRecDepth 20000 in
set_option maxHeartbeats 4000000 in
theorem storeRaw_walk (w : World) (hT : Tab w) (va : Value) (ra : List (List UInt8)) (ha : Rws w va ra) (vb : Value) (xs : List Int) (hb : Nms w vb xs) (_hbb : ∀ z, z ∈ xs → -9223372036854775808 ≤ z ∧ z ≤ 9223372036854775807)
    (at_ : Int) (hat : -9223372036854775808 ≤ at_ ∧ at_ ≤ 9223372036854775807) (keep : Int) (_hk : -9223372036854775808 ≤ keep ∧ keep ≤ 9223372036854775807) :
    Calls Tryd.prog 3 #[va, vb, .int .i64 at_, .int .i64 keep] w fun e w' => e = .returned (.bool true) ∧ Below w.heap.size w w' := by
  have HT := Lib.hid hT
  obtain ⟨aa, ca, rfl⟩ := ha.eq_slice
  obtain ⟨ab, cb, rfl⟩ := hb.eq_slice
  have hxl := hb.len
  have hrl := ha.len
  obtain ⟨n, hn⟩ : ∃ n, n = ra.length := ⟨_, rfl⟩
  obtain ⟨k, hk⟩ : ∃ k, k = xs.length := ⟨_, rfl⟩
  rw [← hn] at ha hrl ⊢
  rw [← hk] at hb hxl ⊢
  have HA := Lib.hid ha; have HN := Lib.hid hn; have HB := Lib.hid hb; have HK := Lib.hid hk
  clear hT ha hb _hbb _hk hn hk
  go_enter Tryd.func3, Tryd.ntmps3
  go_wp2_with fail
  refine (dnew_calls 12 w (by decide) (by decide)).mono ?_
  rintro e w1 ⟨d, Ld, rfl, hD, hd1, hd2, hb1⟩
  have HD := Lib.hid (And.intro hD (And.intro hd1 (And.intro hd2 hb1)))
  clear hD hd1 hd2 hb1
  go_wp2_with fail
  refine (rnew_calls 12 w1 (by decide) (by decide)).mono ?_
  rintro e w2 ⟨r, B, rfl, hR, hr1, hr2, hb2⟩
  have HRD := Lib.hid (show RawD w w2 d Ld r B 0 (.fresh 12) from by
    have hs1 := HD.out.2.2.2.size
    have hd := HD.out.1.lt
    have := HD.out.2.1
    have := HD.out.2.2.1
    exact ⟨HD.out.1.below hb2, hR, rfl, Nat.zero_le _, HD.out.2.2.2.trans (hb2.mono hs1), by omega, by omega⟩)
  clear hR hr1 hr2 hb2
  go_wp2_with fail
  go_loopw [13] (fun u wr => ∃ (i : Nat) (D : DiskS), i ≤ 12 ∧ u = .int .i64 i ∧ RawD w wr d Ld r B i D) (fun u _ => 12 - (intOf u).toNat)
  case atStart => exact ⟨0, _, by omega, rfl, HRD.out⟩
  case round => as_aux_lemma =>
    obtain ⟨i, D, hi, rfl, hD⟩ := hrel
    have H := Lib.hid hD
    clear hD
    by_cases h0 : i < 12
    · have i1 : (i : Int) < 12 := by omega
      obtain ⟨t, ht⟩ : ∃ t, t = i / 3 := ⟨_, rfl⟩
      obtain ⟨m, hm⟩ : ∃ m, m = i % 3 := ⟨_, rfl⟩
      have e8 : IntKind.u8.wrap (i : Int) = (i : Int) := by rw [IntKind.wrap_u8]; omega
      have hm2 : (i : Int).tmod 3 = (m : Int) := by rw [Int.tmod_eq_emod_of_nonneg (by omega)]; omega
      have hd2 : (i : Int).tdiv 3 = (t : Int) := by rw [Int.tdiv_eq_ediv_of_nonneg (by omega)]; omega
      have hmt : i = 3 * t + m ∧ m < 3 := by omega
      obtain ⟨kk, hkk⟩ : ∃ kk : Nat, kk = i - t - 1 := ⟨_, rfl⟩
      have q0 : IntKind.i64.wrap (t : Int) = (t : Int) := IntWalk.i64_in _ (by omega)
      have q1 : IntKind.i64.wrap ((i : Int) - (t : Int)) = ((i - t : Nat) : Int) := by rw [IntWalk.i64_in _ (by omega)]; omega
      have q2 : m ≠ 0 → IntKind.i64.wrap (((i - t : Nat) : Int) - 1) = (kk : Int) := fun h => by rw [IntWalk.i64_in _ (by omega)]; omega
      have HT3 := Lib.hid (And.intro hmt (And.intro hkk q2))
      clear ht hm hmt hkk q2
      obtain ⟨u, hu⟩ : ∃ u : UInt8, (i : Int) = (u.toNat : Int) := by
        obtain ⟨u, hu⟩ := u8_of (i : Int)
        exact ⟨u, by rw [← hu, e8]⟩
      have HU := Lib.hid hu
      clear hu
      go_upto_if 36 with fail
      go_cut [14] (fun s14 wx => ∃ bs : List UInt8, bs.length ≤ 32 ∧ Safe wx d Ld r B s14 bs ∧ RawD w wx d Ld r B i D)
      case first =>
        by_cases m0 : m = 0
        · subst m0
          by_cases htk : t < k
          · obtain ⟨gb, go, x, rfl, hx, hxc⟩ := HB.out.at t (by have := HK.out; omega)
            have t1 : (t : Int) < (k : Int) := by omega
            have t0 : (0 : Int) ≤ (t : Int) := by omega
            have cx : ∀ z, (wr.alloc z).cell? ⟨gb, go + t, none⟩ = some (.int .i64 x) := fun z =>
              ((H.out.bel.trans (((Below.refl _ _).alloc (Nat.le_refl _) z).mono H.out.bel.size)).cell (p := ⟨gb, go + t, none⟩) (World.block_lt_of_cell? w _ hxc)).trans hxc
            obtain ⟨u2, hu2⟩ := u8_of (x.tmod 3)
            have hu3 := hu2
            rw [IntKind.wrap_u8] at hu3
            clear hx hxc
            go_wp2_with fail
            go_meet
            exact raw_new H.out u2
          · have t1 : ¬ (t : Int) < (k : Int) := by omega
            go_wp2_with fail
            go_meet
            exact raw_new H.out 1
        · have m1 : ¬ (m : Int) = 0 := by omega
          have mb : ((m : Int) == 0) = false := by simp; omega
          have q2 := HT3.out.2.2 m0
          by_cases hkn : kk < n
          · obtain ⟨gb, go, rr, v, rfl, hr, hxc, hbv⟩ := HA.out.at kk (by have := HN.out; omega)
            have t1 : (kk : Int) < (n : Int) := by omega
            have t0 : (0 : Int) ≤ (kk : Int) := by omega
            have cx : ∀ z, (wr.alloc z).cell? ⟨gb, go + kk, none⟩ = some v := fun z =>
              ((H.out.bel.trans (((Below.refl _ _).alloc (Nat.le_refl _) z).mono H.out.bel.size)).cell (p := ⟨gb, go + kk, none⟩) (World.block_lt_of_cell? w _ hxc)).trans hxc
            obtain ⟨va, vc, rfl⟩ := hbv.eq_slice
            have hbz : ∀ z, Bys (wr.alloc z) (.slice va rr.length vc) rr := fun z => hbv.below (H.out.bel.trans (((Below.refl _ _).alloc (Nat.le_refl _) z).mono H.out.bel.size))
            have HBV := Lib.hid (And.intro hbv hbz)
            clear hr hxc hbv hbz
            go_wp2_with fail
            refine (cut8_val 32 _ (HBV.out.2 _)).mono ?_
            rintro e _ ⟨rfl, rfl⟩
            go_wp2_with fail
            go_meet
            exact raw_old H.out _ (bys_cut HBV.out.1 32) (by rw [List.length_take]; omega)
          · have t1 : ¬ (kk : Int) < (n : Int) := by omega
            go_wp2_with fail
            go_meet
            rw [HU.out]
            exact raw_new H.out u
      case rest =>
      obtain ⟨bs, hbl, hsf, hD⟩ := hcut
      clear H
      have hlen : D.writes ≤ i := hD.few
      obtain ⟨va, vc, hv⟩ := (hsf wc (Chg.refl _ _)).eq_slice
      subst hv
      have H := Lib.hid hD
      have HS := Lib.hid hsf
      clear hsf hD
      go_wp2_with fail
      refine (dwrite_any d Ld D (i : Int) _ bs wc H.out.disk (HS.out wc (Chg.refl _ _)) (by omega)).mono ?_
      rintro e w3 ⟨rfl, hD3, hc3⟩
      have hR3 := H.out.rd.chg hc3 (fun e => by have := H.out.ne; omega) (fun e => by have := H.out.ne; omega)
      have HD3 := Lib.hid (And.intro hD3 (And.intro hc3 hR3))
      clear hD3 hc3 hR3
      go_wp2_with fail
      refine (rwrite_any r B D (i : Int) _ bs w3 HD3.out.2.2 (HS.out w3 (HD3.out.2.1.mono fun b h => .inl h)) (fun w' hc => HS.out w' ((HD3.out.2.1.mono fun b h => .inl h).trans (hc.mono fun b h => .inr (.inr h)))) (by omega)).mono ?_
      rintro e w4 ⟨rfl, hR4, hc4⟩
      have H4 := Lib.hid (H.out.writ HD3.out.1 HD3.out.2.1 hR4 hc4 (DiskS.wr_n _ _ _) (j := i + 1) (by have := DiskS.wr_writes D (i : Int) bs; omega))
      clear hR4 hc4
      go_wp2
      go_roundw
      case rel => exact ⟨i + 1, _, by omega, by go_num, H4.out⟩
      case measure => simp [intOf]; omega
    · have i1 : ¬ (i : Int) < 12 := by omega
      obtain rfl : i = 12 := by omega
      clear hi h0
      have hb4 : -9223372036854775808 ≤ at_.tdiv 4 ∧ at_.tdiv 4 ≤ 9223372036854775807 := by
        rcases Int.le_total 0 at_ with h | h
        · rw [Int.tdiv_eq_ediv_of_nonneg h]; omega
        · obtain ⟨n, rfl⟩ : ∃ n, at_ = -n := ⟨-at_, by omega⟩
          rw [Int.neg_tdiv, Int.tdiv_eq_ediv_of_nonneg (by omega)]
          omega
      have q4 : IntKind.i64.wrap (at_.tdiv 4) = at_.tdiv 4 := IntWalk.i64_in _ (by omega)
      go_upto_if 77 with fail
      go_cut [] (fun wx => ∃ D', RawD w wx d Ld r B 12 D')
      case first =>
        by_cases hm1 : at_.tmod 4 = 1
        · have hmb : (at_.tmod 4 == 1) = true := by simp [hm1]
          clear hm1
          go_wp2_with fail
          refine (dstop_calls d Ld D (at_.tdiv 4) keep wr H.out.disk hb4.2).mono ?_
          rintro e w3 ⟨rfl, hD3, hc3⟩
          have hR3 := H.out.rd.chg hc3 (fun e => H.out.ne.1 e.symm) (fun e => H.out.ne.2.1 e.symm)
          have HD3 := Lib.hid (And.intro hD3 (And.intro (hc3.mono fun b (h : b = d) => (show b = d ∨ b = Ld from .inl h)) hR3))
          clear hD3 hc3 hR3
          go_wp2_with fail
          refine (rstop_calls r B D (at_.tdiv 4) keep w3 HD3.out.2.2 hb4.2).mono ?_
          rintro e w4 ⟨rfl, hR4, hc4⟩
          have H4 := Lib.hid (H.out.writ HD3.out.1 HD3.out.2.1 hR4 (hc4.mono fun b (h : b = r) => (show b = r ∨ b = B from .inl h)) rfl (j := 12) H.out.few)
          clear hR4 hc4
          go_wp2_with fail
          go_meet
          exact ⟨_, H4.out⟩
        · have hmb : (at_.tmod 4 == 1) = false := by simp [hm1]
          clear hm1
          go_wp2_with fail
          go_meet
          exact ⟨_, H.out⟩
      case rest =>
      obtain ⟨D', hD'⟩ := hcut
      clear H q4 hb4
      obtain ⟨w3, hw3⟩ : ∃ w3, w3 = wc.alloc (.cells (pairC d r (.pointer none) (.pointer none) 4 2) 39) := ⟨_, rfl⟩
      obtain ⟨p, hp⟩ : ∃ p, p = wc.heap.size := ⟨_, rfl⟩
      have hbox := Blk.new wc (pairC d r (.pointer none) (.pointer none) 4 2) 39
      have hb3 : Below wc.heap.size wc w3 := by rw [hw3]; exact (Below.refl _ _).alloc (Nat.le_refl _) _
      rw [← hw3, ← hp] at hbox
      have hPB : PairB w w3 p d Ld r B 4294967296 4 2 D' (.pointer none) (.pointer none) := by
        have hl := hD'.lt
        have hs := hD'.bel.size
        have hf := hD'.far
        have hn := hD'.ne
        have hB3 : Below w.heap.size w w3 := hD'.bel.trans (hb3.mono hs)
        exact ⟨hbox, hD'.disk.below hb3, hD'.rd.below hb3, hB3, by omega, by omega, HT.out.below hB3, HT.out, hD'.n, by have := hD'.few; omega, by omega, by omega, Nat.le_refl _⟩
      have HPB := Lib.hid hPB
      replace hw3 : w3 = wc.alloc (.cells #[.pointer (some ⟨d, 0, none⟩), .pointer none, .pointer (some ⟨r, 0, none⟩), .pointer none, .int .i64 4, .int .i64 2] 39) := hw3
      clear hD' hbox hb3 hPB
      go_wp2_with fail
      rw [← hw3, ← hp]
      clear hw3 hp
      refine (popen_calls w w3 p d Ld r B 4294967296 4 2 D' _ _ HPB.out (by decide)).mono ?_
      rintro e w4 ⟨rfl, hP⟩
      have HP4 := Lib.hid hP
      clear hP
      go_wp2_with fail
      refine (psame_calls w w4 p d Ld r B _ _ _ HP4.out).mono ?_
      rintro e w5 ⟨rfl, hb5⟩
      have HP5 := Lib.hid (HP4.out.step hb5)
      clear hb5
      go_wp2_with fail
      refine (wakes11_calls w5 HP5.out.tab).mono ?_
      rintro e w6 ⟨rfl, hb6⟩
      go_wp2
      go_ret
      exact ⟨rfl, HP5.out.bel.trans (hb6.mono HP5.out.bel.size)⟩
end Go.Proofs.YtehgnkdfnnebcaaDoor
end
section
namespace Go.Mem
open Go Go.ChangeShapes Go.WideShapes Go.ChangeAt Go.RowKit
section
variable {P : Program} {H : Type} {enc : TypeId × Value → H} {W : World} {base : Nat}
theorem open_rows {t e q : TypeId} {v : Value} {x : DataW H × List MemPlace} {held : Bool} (ht : P.underlying t = some (.slice e)) (he : P.underlying e = some (.slice q)) (hq : P.underlying q = some (.int .u8))
    (ce : P.cellsOf e = 1) (cq : P.cellsOf q = 1) (hs : ∃ a len cap, v = .slice a len cap) (h : ∃ fuel, DataW.trod enc P W base (fun _ => true) held fuel t v.cells.toList = some x) : ∃ rs, Rws W v rs := by
  obtain ⟨a, len, cap, rfl⟩ := hs
  obtain ⟨fuel, hf⟩ := h
  rcases Deep.open_int_rows ht he hq ce cq hf with ⟨hcs, _⟩ | ⟨a', len', cap', A, L, C, Z, hcs, _, hl, hm, _, hr⟩
  · simp [Value.cells] at hcs
    obtain ⟨rfl, rfl, rfl⟩ := hcs
    exact ⟨[], Rws.nil W⟩
  · simp [Value.cells] at hcs
    obtain ⟨rfl, rfl, rfl⟩ := hcs
    have hlen : ((List.range len).map fun r => ((Z r).take (L r)).map fun z => UInt8.ofNat z.toNat).length = len := by simp
    refine ⟨(List.range len).map fun r => ((Z r).take (L r)).map fun z => UInt8.ofNat z.toNat, some a', cap, by rw [hlen], by rw [hlen]; exact hl, hm, fun hp => ?_⟩
    rw [hlen] at hp
    have h0 := (hr 0 (by omega)).1
    have ha : a' = ⟨a'.block, a'.off, none⟩ := addr_none (a := a') (by simpa [Addr.add] using h0)
    refine ⟨a'.block, a'.off, by rw [← ha], fun i r hi => ?_⟩
    have hil : i < len := by
      rcases Nat.lt_or_ge i len with h | h
      · exact h
      · rw [List.getElem?_eq_none (by rw [hlen]; exact h)] at hi; cases hi
    obtain ⟨c1, c2, c3, c4, c5, c6, c7⟩ := hr i (by omega)
    rw [ha, add_plain] at c1
    refine ⟨_, c1, ?_⟩
    have hr' : r = ((Z i).take (L i)).map fun z => UInt8.ofNat z.toNat := by
      rw [List.getElem?_map, List.getElem?_range hil] at hi
      exact (Option.some.inj hi).symm
    have hzl : r.length = L i := by rw [hr']; simp; omega
    refine ⟨A i, C i, by rw [hzl], by rw [hzl]; exact c2, c3, fun hp2 => ?_⟩
    rw [hzl] at hp2
    obtain ⟨a2, hA⟩ : ∃ a2, A i = some a2 := by
      cases hA : A i with
      | none => have := c6 hA; omega
      | some a2 => exact ⟨a2, rfl⟩
    obtain ⟨_, hc⟩ := c7 a2 hA
    have ha2 : a2 = ⟨a2.block, a2.off, none⟩ := addr_none (a := a2) (by simpa [Addr.add] using hc 0 (by omega))
    refine ⟨a2.block, a2.off, by rw [hA, ← ha2], fun k u hu => ?_⟩
    have hkl : k < L i := by
      rcases Nat.lt_or_ge k (L i) with h | h
      · exact h
      · rw [List.getElem?_eq_none (by rw [hzl]; exact h)] at hu; cases hu
    have hck := hc k (by omega)
    rw [ha2, add_plain] at hck
    rw [hck]
    have hzi : (Z i)[k]? = some (Z i)[k] := List.getElem?_eq_getElem (by omega)
    have hu' : u = UInt8.ofNat (Z i)[k].toNat := by
      rw [hr'] at hu
      simp only [List.getElem?_map, List.getElem?_take, hkl, if_true, hzi, Option.map_some, Option.some.injEq] at hu
      exact hu.symm
    obtain ⟨n, hn, hx⟩ := byte_of_wf (c5 (Z i)[k] (List.getElem_mem _))
    rw [List.getD_eq_getElem?_getD, hzi, hu', hx]
    simp [UInt8.toNat_ofNat']
    omega
end
end Go.Mem
end
section
namespace Go.Proofs.YtehgnkdfnnebcaaDoor
open Go Go.RowKit Go.Mem
theorem tabT : (Tryd.prog.globals[gT]?).map (·.type) = some 127 := by kernel_rfl
theorem tab_of_laid {W : World} (h : laidMetH Tryd.prog [("math/bits.deBruijn32tab", Rows.laid_math_bits_deBruijn32tab), ("math/bits.deBruijn64tab", Rows.laid_math_bits_deBruijn64tab), ("internal/strconv.uint64pow10", Rows.laid_internal_strconv_uint64pow10)] W) : Tab W := by
  rw [MakeChecks.laidMetH_plain _ _ _ (by kernel_rfl)] at h
  obtain ⟨ps, ⟨g0, t0, cs0, f0, p0, q0, hg0, ht0, hv0, hd0, ⟨g1, t1, cs1, f1, p1, q1, hg1, ht1, hv1, hd1, ⟨g2, t2, cs2, f2, p2, q2, hg2, ht2, hv2, hd2, _, _⟩, _⟩, _⟩, _, _⟩ := h
  obtain rfl := Option.some.inj (gT_eq.symm.trans hg2)
  obtain rfl := Option.some.inj (tabT.symm.trans ht2)
  have hd : DataW.trod (fun _ => ()) Tryd.prog W 0 (fun _ => true) false f2 127 cs2.toList = some (Lib.tabData .u64 Lib.pow10Tab, p2) := hd2.trans (by rw [show (Rows.laid_internal_strconv_uint64pow10 : DataW Unit) = Lib.tabData .u64 Lib.pow10Tab from rfl])
  unfold Tab Lib.TabIs
  rw [hv2, ← Lib.cells_of_tab Tryd.underlying127 Tryd.underlying96 (by kernel_rfl) (by kernel_rfl) hd]
end Go.Proofs.YtehgnkdfnnebcaaDoor
end
