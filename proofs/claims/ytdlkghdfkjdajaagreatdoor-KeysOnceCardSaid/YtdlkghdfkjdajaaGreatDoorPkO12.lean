/- Texts of this proof, packed: KeyMore, RefMath, Ref01. -/
import Derived.Test.YtdlkghdfkjdajaaGreatDoorPkO11
import Derived.Test.YtdlkghdfkjdajaaGreatDoorPkO00
import Derived.Test.YtdlkghdfkjdajaaGreatDoorPkO02
import Derived.Deep.RegionHeld3
section
namespace Go.Proofs.YtdlkghdfkjdajaaGreatDoor
open Go Go.RowKit Go.Mem Gf
set_option linter.unusedVariables false
set_option linter.unusedSimpArgs false
structure StoX (w0 w : World) (N X : Nat → Prop) (sb lb d L : Nat) (s : St) : Prop where
  st : IsStore w N sb lb d L s
  bel : Below w0.heap.size w0 w
  far : ∀ b, N b → w0.heap.size ≤ b
  away : ∀ b, X b → N b ∧ ¬ Foot sb lb d L b
structure One (w0 w : World) (N X : Nat → Prop) (k0 sb lb d L : Nat) (s : St) (n0 : ByteArray) (d0 : List UInt8) (h x0 : Nat) : Prop where
  sto : StoX w0 w N X sb lb d L s
  a : KeysAt w k0 sb n0 d0 h x0 (Wot.print d0 h)
  na : N k0
  fa : ¬ Foot sb lb d L k0
  xa : ¬ X k0
section
variable {w0 w w' : World} {N X : Nat → Prop} {k0 k1 sb lb d L h x0 x1 : Nat} {s : St} {n0 n1 : ByteArray} {d0 d1 : List UInt8}
theorem StoX.touch (g : StoX w0 w N X sb lb d L s) (hc : Chg X w w') : StoX w0 w' N X sb lb d L s :=
  { g with st := g.st.chg hc (fun b hb hx => (g.away b hx).2 hb) (fun b hx _ => (g.away b hx).1), bel := Chg.far g.bel hc g.bel.size (fun b hx => g.far _ (g.away b hx).1) }
theorem One.touch (g : One w0 w N X k0 sb lb d L s n0 d0 h x0) (hc : Chg X w w') : One w0 w' N X k0 sb lb d L s n0 d0 h x0 :=
  { g with sto := g.sto.touch hc, a := hc.blk g.a g.xa }
theorem StoX.lt (g : StoX w0 w N X sb lb d L s) : ∀ b, X b → b < w.heap.size := fun b hx => g.st.old b (g.away b hx).1
theorem stox_open (g : StoX w0 w N X sb lb d L s) (hs : d0.length = 16) (hh : h ≤ 4) (h4 : ∀ b, s.get n0 = some b → b.length ≤ 7) :
    Calls Tryz.prog 9 #[.pointer (some ⟨sb, 0, none⟩), .string n0, .agg (bV d0).toArray, .int .i64 h] w fun e w' => ∃ k0 N', e = .returned (.tuple #[.pointer (some ⟨k0, 0, none⟩), .int .i64 0]) ∧ One w0 w' N' X k0 sb lb d L s n0 d0 h (lookN s n0 0) ∧ Below w.heap.size w w' := by
  refine (kopen_calls w N sb lb d L s n0 d0 h g.st hs hh h4).mono ?_
  rintro e w' ⟨kb, rfl, h1, h2, h3, h5⟩
  refine ⟨kb, _, rfl, ⟨⟨h3, g.bel.trans (h5.mono g.bel.size), fun b hb => ?_, fun b hx => ⟨.inl (g.away b hx).1, (g.away b hx).2⟩⟩, h2, .inr rfl, fun hf => by have := g.st.lt kb hf; omega, fun hx => by have := g.lt kb hx; omega⟩, h5⟩
  have := g.bel.size
  rcases hb with hb | hb
  · exact g.far b hb
  · omega
theorem one_open (g : One w0 w N X k0 sb lb d L s n0 d0 h x0) (hs : d1.length = 16) (hh : h ≤ 4) (h4 : ∀ b, s.get n1 = some b → b.length ≤ 7) :
    Calls Tryz.prog 9 #[.pointer (some ⟨sb, 0, none⟩), .string n1, .agg (bV d1).toArray, .int .i64 h] w fun e w' => ∃ k1 N', e = .returned (.tuple #[.pointer (some ⟨k1, 0, none⟩), .int .i64 0]) ∧ Two w0 w' N' X k0 k1 sb lb d L s n0 n1 d0 d1 h x0 (lookN s n1 0) ∧ Below w.heap.size w w' := by
  refine (kopen_calls w N sb lb d L s n1 d1 h g.sto.st hs hh h4).mono ?_
  rintro e w' ⟨kb, rfl, h1, h2, h3, h5⟩
  have hk0 := Blk.lt g.a
  have hlt := g.sto.lt
  refine ⟨kb, _, rfl, ⟨h3, Blk.kept g.a h5, h2, .inl g.na, .inr rfl, g.fa, fun hf => by have := g.sto.st.lt kb hf; omega, by omega, g.sto.bel.trans (h5.mono g.sto.bel.size), fun b hb => ?_, fun b hx => ⟨.inl (g.sto.away b hx).1, fun e => g.xa (by rw [← e]; exact hx), fun e => by have := hlt b hx; omega, (g.sto.away b hx).2⟩⟩, h5⟩
  have := g.sto.bel.size
  rcases hb with hb | hb
  · exact g.sto.far b hb
  · omega
theorem Two.dl (g : Two w0 w N X k0 k1 sb lb d L s n0 n1 d0 d1 h x0 x1) : w0.heap.size ≤ d ∧ w0.heap.size ≤ L ∧ gT ≠ d ∧ gT ≠ L := by
  have h1 := g.st.foot d (.inr (.inr (.inl rfl)))
  have h2 := g.st.foot L (.inr (.inr (.inr rfl)))
  exact ⟨g.far _ h1, g.far _ h2, fun e => g.st.ntab (by rw [e]; exact h1), fun e => g.st.ntab (by rw [e]; exact h2)⟩
theorem Two.redisk (g : Two w0 w N X k0 k1 sb lb d L s n0 n1 d0 d1 h x0 x1) {D : DiskS} (hc : Chg (DL d L) w w') (hD : IsDisk w' d L D) (hn : D.n = s.disk.n) (hw : s.disk.writes ≤ D.writes) (hw2 : D.writes ≤ 72057594037927936) : Two w0 w' N X k0 k1 sb lb d L { s with disk := D } n0 n1 d0 d1 h x0 x1 :=
  { g with st := g.st.redisk hc hD hn hw hw2, a := hc.blk g.a (fun e => g.fa (e.elim (fun e => .inr (.inr (.inl e))) (fun e => .inr (.inr (.inr e))))), b := hc.blk g.b (fun e => g.fb (e.elim (fun e => .inr (.inr (.inl e))) (fun e => .inr (.inr (.inr e))))), bel := Chg.far g.bel hc g.bel.size (fun b e => e.elim (fun e => by rw [e]; exact g.dl.1) (fun e => by rw [e]; exact g.dl.2.1)) }
theorem Two.keepD (g : Two w0 w N X k0 k1 sb lb d L s n0 n1 d0 d1 h x0 x1) (hc : Chg (DL d L) w w') {b : Nat} (hx : X b) {arr : Array Value} {t : TypeId} (hk : Blk w b arr t) : Blk w' b arr t :=
  hc.blk hk (fun e => (g.away b hx).2.2.2 (e.elim (fun e => .inr (.inr (.inl e))) (fun e => .inr (.inr (.inr e)))))
end
theorem reopen3 {w0 w : World} {X : Nat → Prop} {d L : Nat} {D : DiskS} {m slots room : Nat} {l : List Sto.Rec} (hT : Tab w) (hb : Below w0.heap.size w0 w) (hX : ∀ b, X b → w0.heap.size ≤ b ∧ b < w.heap.size ∧ b ≠ gT ∧ b ≠ d ∧ b ≠ L) (hd : w0.heap.size ≤ d ∧ w0.heap.size ≤ L ∧ gT ≠ d ∧ gT ≠ L) (hD : IsDisk w d L D.start) (hh : Holds D room l) (hm : Bnd m l) (hm1 : m < 1000000) (hw : D.writes ≤ 2000 * m) (h1 : 1 ≤ slots ∧ slots ≤ 500) (h2 : 1 ≤ room ∧ room ≤ 1000) (hl : l.length = slots) :
    Calls Tryz.prog 7 #[.pointer (some ⟨d, 0, none⟩), .int .i64 slots, .int .i64 room] w fun e w' => ∃ s sb lb N, e = .returned (.tuple #[.pointer (some ⟨sb, 0, none⟩), .int .i64 0]) ∧ StoX w0 w' N X sb lb d L s ∧ SGood (m + 1) s ∧ Sto.Thin l s.recs ∧ s.room = room ∧ Chg (DL d L) w w' := by
  obtain ⟨l', D', t1, t2, t3⟩ := good_reopen hh hm hw (by omega) h2
  rw [hl] at t2
  have hs := hb.size
  have hdl := hD.lt
  refine (open_calls (fun b => DL d L b ∨ X b) d L D.start slots room w hT ⟨fun hk => hk.elim (fun hk => hk.elim hd.2.2.1 hd.2.2.2) (fun hx => (hX _ hx).2.2.1 rfl), .inl (.inl rfl), .inl (.inr rfl), fun b hb => hb.elim (fun hb => by rcases hb with rfl | rfl; exact hdl.1; exact hdl.2) (fun hx => (hX _ hx).2.1)⟩ hD (by simp; omega) (by simp; omega) (by rw [← hl]; exact hh.1) (by show D.writes < _; omega)).mono ?_
  rintro e w1 ⟨p, rfl, hc, hD', hp⟩
  rw [t2] at hp ⊢
  rcases hp with ⟨h, _⟩ | ⟨s, lb, e1, rfl, e3, e4⟩
  · cases h
  · cases e1
    refine ⟨_, w.heap.size, lb, _, rfl, ⟨e4, Chg.far hb hc hb.size (fun b e => e.elim (fun e => by rw [e]; exact hd.1) (fun e => by rw [e]; exact hd.2.1)), fun b hb => ?_, fun b hx => ⟨.inl (.inr hx), fun hf => ?_⟩⟩, t3, t1, rfl, hc⟩
    · rcases hb with (hb | hb) | hb | hb
      · rcases hb with rfl | rfl
        · exact hd.1
        · exact hd.2.1
      · exact (hX _ hb).1
      · omega
      · omega
    · have hx' := hX b hx
      rcases hf with e | e | e | e
      · omega
      · omega
      · exact hx'.2.2.2.1 e
      · exact hx'.2.2.2.2 e
theorem once_sign {w0 w w' : World} {X : Nat → Prop} {k0 k1 sb lb d L : Nat} {s : St} {nm : ByteArray} {sd : List UInt8} {h x0 x1 m c : Nat} {mm : List UInt8} {e : Ending} (hp : SignT w0 w X k0 k1 sb lb d L s nm nm sd sd h x0 x1 mm e w') (hk : KHas m s nm c) (hm : m < 1000000) (hn : nm.size ≤ 3) (hh : h ≤ 4) (hc : c ≤ 2 ^ h) (hx : x0 ≤ 2 ^ h) :
    (∃ er N' s' c' x', (er = 8 ∨ er = 9) ∧ e = .returned (.tuple #[sigZ, .int .i64 er]) ∧ c ≤ c' ∧ c' ≤ 2 ^ h ∧ x' ≤ 2 ^ h ∧ KHas (m + 1) s' nm c' ∧ Two w0 w' N' X k0 k1 sb lb d L s' nm nm sd sd h x' x1) ∨
    (∃ leaf vv pv N' s', leaf < 2 ^ h ∧ c ≤ leaf ∧ e = .returned (.tuple #[.agg #[.int .i64 h, .int .i64 leaf, vv, pv], .int .i64 0]) ∧
      OwnG bV WfH 32 34 w' w.heap.size vv (Wot.signO sd leaf mm) ∧ OwnG bV WfH 32 34 w' w.heap.size pv (Wot.proof h leaf (Wot.leaves sd (2 ^ h))) ∧ KHas (m + 1) s' nm (leaf + 1) ∧ Two w0 w' N' X k0 k1 sb lb d L s' nm nm sd sd h (leaf + 1) x1) := by
  have h16 : 2 ^ h ≤ 16 := Nat.pow_le_pow_right (n := 2) (by decide) hh
  obtain ⟨_, hp⟩ := hp
  obtain ⟨n, hn'⟩ : ∃ n, n = 2 ^ h := ⟨_, rfl⟩
  rcases hk with ha | hg
  · have hl := ha.look (by omega) x0
    rw [hl] at hp
    rcases hp with ⟨h1, h2, N', h3⟩ | ⟨h1, h2, h3, N', h4⟩ | ⟨h1, h2, vv, pv, h3, h4, h5, N', h6⟩
    · exact .inl ⟨9, N', s, c, _, .inr rfl, h2, Nat.le_refl _, hc, Nat.max_le.2 ⟨hx, hc⟩, KHas.up (.inl ha), h3⟩
    · rcases ha.put hm hn (max x0 c + 1) with ⟨p1, _⟩ | ⟨p1, p2⟩
      · exact absurd p1 h2
      · rw [p1] at h3
        rcases p2 with p2 | p2
        · exact .inl ⟨8, N', _, c, _, .inl rfl, h3, Nat.le_refl _, hc, by omega, .inr p2, h4⟩
        · exact .inl ⟨8, N', _, max x0 c + 1, _, .inl rfl, h3, by omega, h1, by omega, .inr p2, h4⟩
    · rcases ha.put hm hn (max x0 c + 1) with ⟨_, p2⟩ | ⟨p1, _⟩
      · exact .inr ⟨max x0 c, vv, pv, N', _, h1, Nat.le_max_right _ _, h3, h4, h5, .inl p2, h6⟩
      · rw [p1] at h2; exact absurd h2 (by decide)
  · have hl := hg.look x0
    rw [hl, hg.put] at hp
    rcases hp with ⟨h1, h2, N', h3⟩ | ⟨h1, h2, h3, N', h4⟩ | ⟨h1, h2, _⟩
    · exact .inl ⟨9, N', s, c, _, .inr rfl, h2, Nat.le_refl _, hc, hx, KHas.up (.inr hg), h3⟩
    · exact .inl ⟨8, N', s, c, _, .inl rfl, h3, Nat.le_refl _, hc, hx, KHas.up (.inr hg), h4⟩
    · exact absurd (show (8 : Int) = 0 from h2) (by decide)
end Go.Proofs.YtdlkghdfkjdajaaGreatDoor
end
section
namespace Cod
open Go.Lib
end Cod
end
section
namespace Go.Proofs.YtdlkghdfkjdajaaGreatDoor
open Go Go.RowKit Go.Mem Gf
attribute [local go_sem ↓] Go.wp_at_zero Go.wp_at_succ
set_option maxRecDepth 20000 in
set_option maxHeartbeats 1000000 in
theorem rput_calls (n : Nat) (m : Nat) (hn : n ≤ 9223372036854775807) (h1 : 1 ≤ m) (hm : m ≤ 8) (w : World) :
    Calls Tryz.prog 49 #[.int .i64 n, .int .i64 m] w fun e w' => ∃ v, e = .returned v ∧ OwnF 5 w' w.heap.size v (Cod.be m n) ∧ Below w.heap.size w w' := by
  have hmk : ∀ w, (Instr.makeSlice 41 (.int .i64 (m : Int)) (.int .i64 (m : Int))).run Tryz.prog w = .ok (.slice (some ⟨w.heap.size, 0, none⟩) m m) (w.alloc (.cells (rowArr m fun _ => 0) 5)) := fun w => by
    have := make_bytes (P := Tryz.prog) 41 5 Tryz.underlying41 E8k m (by omega) w
    rw [rowArr_zero] at this
    exact this
  have hmx : min (m : Int) 8 = m := by omega
  have n0 : decide ((n : Int) < 0) = false := by simp
  have hB0 : Blk (w.alloc (.cells (rowArr m fun _ => 0) 5)) w.heap.size (rowArr m fun _ => 0) 5 := Blk.new _ _ _
  go_enter Tryz.func49, Tryz.ntmps49
  go_wp2_with fail
  go_loopw [0, 6] (fun u v wr => ∃ (k j : Nat), k + j = m ∧ u = .int .i64 ((n / 256 ^ k : Nat) : Int) ∧ v = .int .i64 ((j : Int) - 1) ∧ Blk wr w.heap.size (rowArr m fun x => if j ≤ x then UInt8.ofNat (n / 256 ^ (m - 1 - x)) else 0) 5 ∧ Below w.heap.size w wr) (fun _ v _ => (intOf v + 1).toNat)
  case atStart => exact ⟨0, m, by omega, by simp, rfl, by rw [rowArr_congr (m := m) (f := fun x => if m ≤ x then UInt8.ofNat (n / 256 ^ (m - 1 - x)) else 0) (g := fun _ => 0) (fun x hx => if_neg (by omega))]; exact hB0, (Below.refl _ _).alloc (Nat.le_refl _) _⟩
  case round =>
    clear hB0 hmk
    obtain ⟨k, j, hkj, rfl, rfl, hB, hb⟩ := hrel
    by_cases h0 : 1 ≤ j
    · obtain ⟨i, rfl⟩ : ∃ i, j = i + 1 := ⟨j - 1, by omega⟩
      have e1 : ((i + 1 : Nat) : Int) - 1 = (i : Int) := by omega
      rw [e1]
      have c1 : wr.cell? ⟨w.heap.size, i, none⟩ = some (.int .u8 0) := by rw [hB.cell, rowArr_get _ _ _ (by omega), if_neg (by omega)]; rfl
      have f1 := hB.free i
      obtain ⟨q, hq⟩ : ∃ q, q = n / 256 ^ k := ⟨_, rfl⟩
      have hq1 : q ≤ 9223372036854775807 := by rw [hq]; exact Nat.le_trans (Nat.div_le_self _ _) hn
      rw [← hq]
      have Hq := Lib.hid hq; have HB := Lib.hid hB
      have q8 : ((UInt8.ofNat q).toNat : Int) = (q : Int) % 256 := by rw [UInt8.toNat_ofNat']; rfl
      have HQ8 := Lib.hid q8
      clear hq hB q8
      go_wp2
      refine ⟨⟨k + 1, i, by omega, ?_, rfl, ?_, hb.setCell (Nat.le_refl _) _⟩, by simp [intOf] <;> omega⟩
      · rw [Nat.pow_succ, ← Nat.div_div_eq_div_mul, ← Hq.out]; congr 1
      · have := HB.out.set i (.int .u8 (((UInt8.ofNat q).toNat : Nat) : Int))
        rw [rowArr_set] at this
        rw [show ((q : Int) % 256) = (((UInt8.ofNat q).toNat : Nat) : Int) from HQ8.out.symm]
        rw [← rowArr_congr (m := m) (f := fun x => if x = i then UInt8.ofNat q else if i + 1 ≤ x then UInt8.ofNat (n / 256 ^ (m - 1 - x)) else 0) (fun x hx => ?_)]
        · exact this
        · by_cases e : x = i
          · subst e; rw [if_pos rfl, if_pos (Nat.le_refl _), Hq.out, show m - 1 - x = k from by omega]
          · rw [if_neg e]
            by_cases e2 : i + 1 ≤ x
            · rw [if_pos e2, if_pos (by omega)]
            · rw [if_neg e2, if_neg (by omega)]
    · obtain rfl : j = 0 := by omega
      go_wp2
      go_ret
      refine ⟨_, rfl, ?_, hb⟩
      have := ownF_row (base := w.heap.size) hB (Nat.le_refl _) (by omega)
      rw [← rowL_be, rowL_congr (g := fun x => if 0 ≤ x then UInt8.ofNat (n / 256 ^ (m - 1 - x)) else 0) (fun x hx => (if_pos (Nat.zero_le _)).symm)]
      exact this
theorem rput_x (n : Nat) (m : Nat) (hn : n ≤ 9223372036854775807) (h1 : 1 ≤ m) (hm : m ≤ 8) (w : World) :
    Calls Tryz.prog 49 #[.int .i64 n, .int .i64 m] w fun e w' => ∃ v, e = .returned v ∧ OwnX 5 w' w.heap.size v (Cod.be m n) ∧ Below w.heap.size w w' :=
  (rput_calls n m hn h1 hm w).mono fun _ _ ⟨v, he, h2, h3⟩ => ⟨v, he, h2.x, h3⟩
def digS (n : Nat) : ByteArray := ⟨(Lib.decDigits n).toArray⟩
theorem digS_small (n : Nat) (h : n < 10) : digS n = ⟨#[UInt8.ofNat (48 + n)]⟩ := by
  unfold digS; rw [Lib.decDigits, dif_pos h]
theorem digS_big (n : Nat) (h : ¬ n < 10) : digS n = digS (n / 10) ++ ⟨#[UInt8.ofNat (48 + n % 10)]⟩ := by
  apply ByteArray.ext
  show (Lib.decDigits n).toArray = (digS (n / 10) ++ _).data
  rw [Lib.decDigits, dif_neg h, ByteArray.data_append]
  simp [digS]
theorem conv_one (u : UInt8) (w : World) (g : Nat) (h : w.cell? ⟨g, 0, none⟩ = some (.int .u8 ((u.toNat : Nat) : Int))) : (convert 41 9 (.slice (some ⟨g, 0, none⟩) 1 1)).run Tryz.prog w = .ok (.string ⟨#[u]⟩) w := by
  refine conv_string (bs := [u]) ⟨_, 1, rfl, by simp, maxLen_ge (by decide), fun _ => ⟨g, 0, rfl, fun i v hi => ?_⟩⟩
  cases i with
  | zero => simp at hi; subst hi; exact h
  | succ i => simp at hi
theorem bcell {W w1 : World} (hb : Below W.heap.size W w1) : (∀ b o, b < W.heap.size → w1.cell? ⟨b, o, none⟩ = W.cell? ⟨b, o, none⟩) :=
  fun b o h => hb.cell (p := ⟨b, o, none⟩) h
theorem digS_size (n : Nat) (h : n ≤ 100000000) : (digS n).size ≤ 9 := by
  have := dec_len n h
  rw [Lib.itoa_nonneg] at this
  simpa [digS, ByteArray.size] using this
set_option maxRecDepth 100000 in
set_option maxHeartbeats 1000000 in
theorem rdig_calls (n : Nat) : n ≤ 100000000 → ∀ w, Calls Tryz.prog 108 #[.int .i64 n] w fun e w' => e = .returned (.string (digS n)) ∧ Below w.heap.size w w' := by
  induction n using Nat.strongRecOn with
  | _ n ih =>
    intro hn w
    by_cases h : n < 10
    · have hs := digS_small n h
      have d0 : decide ((n : Int) < 10) = true := by simp; omega
      have hu : ((UInt8.ofNat (48 + n)).toNat : Int) = 48 + (n : Int) := by rw [Cod.digit_toNat h]; omega
      have hc := conv_one (UInt8.ofNat (48 + n))
      rw [← hs, hu] at hc
      clear hs hu ih
      go_enter Tryz.func108, Tryz.ntmps108
      go_wp2_with fail
      go_ret
      exact ⟨rfl, (Below.refl _ _).alloc (Nat.le_refl _) _⟩
    · have hs := digS_big n h
      obtain ⟨q, hq⟩ : ∃ q, q = n / 10 := ⟨_, rfl⟩
      obtain ⟨r, hr⟩ : ∃ r, r = n % 10 := ⟨_, rfl⟩
      have d0 : decide ((n : Int) < 10) = false := by simp; omega
      have hr10 : r < 10 := by omega
      obtain ⟨u, hue⟩ : ∃ u, u = UInt8.ofNat (48 + r) := ⟨_, rfl⟩
      have hu : ((u.toNat : Nat) : Int) = 48 + (r : Int) := by rw [hue, Cod.digit_toNat hr10]; omega
      have hc := conv_one u
      have e1 : (n : Int) / 10 = (q : Int) := by omega
      have e2 : (n : Int) % 10 = (r : Int) := by omega
      have t1 : (n : Int).tdiv 10 = (q : Int) := by rw [Int.tdiv_eq_ediv_of_nonneg (by omega)]; omega
      have t2 : (n : Int).tmod 10 = (r : Int) := by rw [Int.tmod_eq_emod_of_nonneg (by omega)]; omega
      have w1 : IntKind.i64.wrap (q : Int) = (q : Int) := IntWalk.i64_in _ (by omega)
      have w2 : IntKind.i64.wrap (r : Int) = (r : Int) := IntWalk.i64_in _ (by omega)
      have w3 : IntKind.i64.wrap (48 + (r : Int)) = 48 + (r : Int) := IntWalk.i64_in _ (by omega)
      have w4 : IntKind.u8.wrap (48 + (r : Int)) = 48 + (r : Int) := by unfold IntKind.wrap; simp [IntKind.bits, IntKind.signed]; omega
      rw [hu] at hc
      rw [← hq, ← hr, ← hue] at hs
      have IH := Lib.hid (ih q (by omega) (by omega))
      have hz := digS_size q (by omega)
      have hz2 : (digS q).size + 1 ≤ maxLen := maxLen_ge (by omega)
      have HS := Lib.hid hs
      clear hs hu ih hq hr hue
      go_enter Tryz.func108, Tryz.ntmps108
      go_wp2_with fail
      go_region_with
        (go_at_call 108
         refine (IH.out _).mono ?_
         rintro e w2 ⟨rfl, hb2⟩
         have hk := bcell hb2
         have hz := hb2.size)
      all_goals
        go_wp2_with fail
        go_ret
        refine ⟨by rw [HS.out]; rfl, ?_⟩
      · exact (of_drew hb2).alloc (Nat.le_of_lt_succ (Nat.lt_succ_of_le hz)) _
      all_goals exact ((Below.refl w.heap.size w).alloc (Nat.le_refl _) _).trans ((of_drew hb2).mono (by simp))
set_option maxRecDepth 100000 in
set_option maxHeartbeats 1000000 in
theorem rnet_calls (v : Value) (bs : List UInt8) (w : World) (h : Bys w v bs) (hl : bs.length ≤ 100000000) :
    Calls Tryz.prog 89 #[v] w fun e w' => ∃ v', e = .returned v' ∧ OwnX 5 w' w.heap.size v' (Cod.net bs) ∧ Below w.heap.size w w' := by
  obtain ⟨a, c, rfl⟩ := h.eq_slice
  obtain ⟨l, hl'⟩ : ∃ l, l = bs.length := ⟨_, rfl⟩
  have Hn := Lib.hid (show Cod.net bs = (digS bs.length).data.toList ++ [58] ++ bs ++ [44] from by rw [Cod.net_eq]; simp [digS])
  rw [← hl'] at hl h Hn ⊢
  have Hl := Lib.hid hl'
  clear hl'
  go_enter Tryz.func89, Tryz.ntmps89
  go_wp2_with fail
  refine (rdig_calls l hl w).mono ?_
  rintro e w1 ⟨rfl, hb1⟩
  have hss := digS_size l hl
  obtain ⟨s, hs⟩ : ∃ s : ByteArray, s = digS l := ⟨_, rfl⟩
  rw [← hs] at hss Hn ⊢
  have hsl : s.data.toList.length ≤ 9 := by rw [Array.length_toList]; exact hss
  have hconv := Lib.run_convert_string_bytes (P := Tryz.prog) w1 9 41 5 s Tryz.underlying9 Tryz.underlying41 Tryz.underlying5
  obtain ⟨ho, hb2⟩ := conv_ownX w1 5 s (maxLen_ge (by omega))
  obtain ⟨w2, hw2⟩ : ∃ w2, w2 = Lib.bytesWorld w1 5 s := ⟨_, rfl⟩
  rw [← hw2] at ho hb2 hconv
  have hbw2 : Below w.heap.size w w2 := hb1.trans (hb2.mono hb1.size)
  obtain ⟨dl, hdl⟩ : ∃ d, d = s.data.toList := ⟨_, rfl⟩
  rw [← hdl] at ho Hn hsl
  have Hs := Lib.hid hs; have Hsl := Lib.hid hdl
  have hs1 := hb1.size
  have hs2 := hb2.size
  clear hs hdl hw2
  go_wp2_with (at_builtin; refine appX E8c rfl _ _ rfl (base := w.heap.size) (bs := dl) (news := [58]) rfl rfl ((ho.mono hs1).alloc _) (bys_one _ 58 _ rfl _) ?q1 ?q2 ?_)
  case q1 => rw [List.length_singleton]; omega
  case q2 => simp; omega
  intro v3 w3 ho3 hg3
  have hb3 := grown_below (hbw2.alloc hbw2.size _) hg3 (fun k hk => by simp [Value.ownBlock] at hk; omega)
  have hs3 := hb3.size
  have hlt3 := ho3.lt
  clear hconv ho hb2 hg3 hbw2
  go_wp2_with (at_builtin; refine appX E8c rfl _ _ rfl (base := w.heap.size) (news := bs) rfl rfl ho3 (h.below hb3) ?q3 ?q4 ?_)
  case q3 => have := Hl.out; simp; omega
  case q4 => exact hs3
  intro v4 w4 ho4 hg4
  have hb4 := grown_below hb3 hg4 (fun k hk => (hlt3 k hk).1)
  have hs4 := hb4.size
  have hlt4 := ho4.lt
  clear hg4 ho3 hb3
  go_wp2_with (at_builtin; refine appX E8c rfl _ _ rfl (base := w.heap.size) (news := [44]) rfl rfl (ho4.alloc _) (bys_one _ 44 _ rfl _) ?q5 ?q6 ?_)
  case q5 => have := Hl.out; simp; omega
  case q6 => simp; omega
  intro v5 w5 ho5 hg5
  have hb5 := grown_below (hb4.alloc hs4 _) hg5 (fun k hk => (hlt4 k hk).1)
  clear hg5 ho4 hb4
  go_wp2
  go_ret
  exact ⟨v5, rfl, by rw [Hn.out]; simpa using ho5, hb5⟩
set_option maxRecDepth 100000 in
set_option maxHeartbeats 1000000 in
theorem rnets_calls (v : Value) (rows : List (List UInt8)) (w : World) (h : Rws w v rows) (hl : (Cod.nets rows).length ≤ 100000000) :
    Calls Tryz.prog 90 #[v] w fun e w' => ∃ v', e = .returned v' ∧ OwnX 5 w' w.heap.size v' (Cod.nets rows) ∧ Below w.heap.size w w' := by
  have hrl := h.len
  obtain ⟨a, c, rfl⟩ := h.eq_slice
  obtain ⟨n, hn⟩ : ∃ n, n = rows.length := ⟨_, rfl⟩
  rw [← hn] at h hrl ⊢
  have Hn := Lib.hid hn
  clear hn
  go_enter Tryz.func90, Tryz.ntmps90
  go_wp2_with fail
  go_loopw [3, 7] (fun u v wr => ∃ i : Nat, i ≤ n ∧ v = .int .i64 i ∧ OwnX 5 wr w.heap.size u (Cod.nets (rows.take i)) ∧ Below w.heap.size w wr) (fun _ v _ => n - (intOf v).toNat)
  case atStart => exact ⟨0, by omega, rfl, OwnX.nil _ _ _, Below.refl _ _⟩
  case round =>
    obtain ⟨i, hi, rfl, ho, hb⟩ := hrel
    by_cases h0 : i < n
    · obtain ⟨b, o, bs, va, rfl, hr, c1, hrow⟩ := (h.below hb).at i (by have := Hn.out; omega)
      have i0 : (0 : Int) ≤ (i : Int) := by omega
      have i1 : (i : Int) < (n : Int) := by omega
      have hle := nets_row_le hr.out
      have hnl := Cod.net_len bs
      have hs := hb.size
      have hlt := ho.lt
      have Hfin := Lib.hid (show Cod.nets (rows.take (i + 1)) = Cod.nets (rows.take i) ++ Cod.net bs from by rw [List.take_add_one, hr.out]; exact Cod.nets_snoc _ _)
      go_wp2_with fail
      refine (rnet_calls va bs wr hrow (by omega)).mono ?_
      rintro e w2 ⟨v2, rfl, ho2, hb2⟩
      go_wp2_with (at_builtin; refine appX E8c rfl _ _ rfl (base := w.heap.size) (news := Cod.net bs) rfl rfl (ho.below hb2) ho2.bys ?q1 ?q2 ?_)
      case q1 => omega
      case q2 => have := hb2.size; omega
      intro v3 w3 ho3 hg3
      have hb3 := grown_below (hb.trans (hb2.mono hs)) hg3 (fun k hk => (hlt k hk).1)
      rw [← Hfin.out] at ho3
      clear hg3 ho2 hb2 hle hnl
      go_wp2
      exact ⟨⟨i + 1, by omega, by go_num, ho3, hb3⟩, by simp [intOf] <;> omega⟩
    · obtain rfl : i = n := by omega
      have e : rows.take i = rows := List.take_of_length_le (by have := Hn.out; omega)
      rw [e] at ho
      go_wp2
      go_ret
      exact ⟨_, rfl, ho, hb⟩
end Go.Proofs.YtdlkghdfkjdajaaGreatDoor
end
