/- Texts of this proof, packed: Ref01, Ref10Wr, Ref10List, Ref10Put, Ref10Drop, StoreFreeN, StoreNames, Strs, Ref10Names, RefTake. -/
import Derived.Test.YtehgnkdfnnebcaaDoorPk04
import Derived.Test.YtehgnkdfnnebcaaDoorPk02
import Derived.Deep.RegionHeld3
import Derived.Test.YtehgnkdfnnebcaaDoorPk03
import Derived.Test.YtehgnkdfnnebcaaDoorPk01
import Derived.Sort.OwnSorted
import Derived.Test.YtehgnkdfnnebcaaDoorPk00
import Derived.Deep.QuietTactic
import Derived.Deep.CutBlock
section
namespace Go.Proofs.YtehgnkdfnnebcaaDoor
open Go Go.RowKit Go.Mem Gf
attribute [local go_sem ↓] Go.wp_at_zero Go.wp_at_succ
set_option maxRecDepth 100000 in
set_option maxHeartbeats 1000000 in
theorem rget_calls (v : Value) (bs : List UInt8) (w : World) (h : Bys w v bs) (hl : bs.length ≤ 7) :
    Calls Tryd.prog 46 #[v] w fun e w' => e = .returned (.tuple #[.int .i64 (Cod.getN bs : Nat), .bool true]) ∧ w = w' := by
  obtain ⟨a, c, rfl⟩ := h.eq_slice
  obtain ⟨l, hl'⟩ : ∃ l, l = bs.length := ⟨_, rfl⟩
  rw [← hl'] at hl h ⊢
  have Hl := Lib.hid hl'
  clear hl'
  go_enter Tryd.func46, Tryd.ntmps46
  have t7 : decide ((7 : Int) < (l : Int)) = false := by simp; omega
  go_wp2
  go_loop [4, 11] (fun u v => ∃ i : Nat, i ≤ l ∧ u = .int .i64 (Cod.getN (bs.take i) : Nat) ∧ v = .int .i64 i) (fun _ v => l - (intOf v).toNat)
  case atStart => exact ⟨0, by omega, rfl, rfl⟩
  case round =>
    obtain ⟨i, hi, rfl, rfl⟩ := hrel
    by_cases h0 : i < l
    · obtain ⟨b, o, u, rfl, Hu, c1, hu⟩ := h.at i (by have := Hl.out; omega)
      have i0 : (0 : Int) ≤ (i : Int) := by omega
      have i1 : (i : Int) < (l : Int) := by omega
      have Hs := Lib.hid (show Cod.getN (bs.take (i + 1)) = Cod.getN (bs.take i) * 256 + u.toNat from by
        rw [List.take_add_one, Hu.out]; exact Cod.getGo_snoc _ _ _)
      have hg := Cod.getN_lt (bs.take i) (by rw [List.length_take]; omega)
      have hg2 := Cod.getN_lt (bs.take (i + 1)) (by rw [List.length_take]; omega)
      rw [Hs.out] at hg2
      obtain ⟨g, hgg⟩ : ∃ g, g = Cod.getN (bs.take i) := ⟨_, rfl⟩
      rw [← hgg] at hg hg2 ⊢
      have Hg := Lib.hid hgg
      clear hgg
      go_wp2
      exact ⟨⟨i + 1, by omega, by rw [Hs.out, ← Hg.out]; exact congrArg (Value.int .i64) (by push_cast; omega), by go_num⟩, by simp [intOf]; omega⟩
    · obtain rfl : i = l := by omega
      have e : bs.take i = bs := List.take_of_length_le (by have := Hl.out; omega)
      rw [e]
      clear e
      go_wp2
      go_ret2
      exact ⟨rfl, rfl⟩
end Go.Proofs.YtehgnkdfnnebcaaDoor
end
section
namespace Go.Mem
open Go Go.RowKit Gf Go.Proofs.YtehgnkdfnnebcaaDoor
set_option linter.unusedVariables false
def FootR (q r B : Nat) : Nat → Prop := fun b => b = q ∨ b = r ∨ b = B
section
variable {w w' : World} {N S : Nat → Prop} {q r B slots room : Nat} {lv : Value} {ps : List RP} {D D' : DiskS} {L : List RRec} {died : Bool}
theorem RStore.chg (h : RStore w N q r B lv ps D slots room L died) (hc : Chg S w w') (hs : ∀ b, S b → b < w.heap.size → N b) (hf : ∀ b, FootR q r B b → ¬ S b) : RStore w' N q r B lv ps D slots room L died :=
  { h with blk := hc.blk h.blk (hf _ (.inl rfl)), disk := h.disk.chg hc (hf _ (.inr (.inl rfl))) (hf _ (.inr (.inr rfl))), row := h.row.chg hc hs, recs := h.recs.chg hc hs }
theorem RStore.below (h : RStore w N q r B lv ps D slots room L died) (hb : Below w.heap.size w w') : RStore w' N q r B lv ps D slots room L died :=
  h.chg (S := fun _ => False) (Chg.of_below hb) (fun _ h => h.elim) (fun _ _ h => h)
end
end Go.Mem
namespace Go.Proofs.YtehgnkdfnnebcaaDoor
open Go Go.RowKit Go.Mem Gf
set_option linter.unusedVariables false
attribute [local go_sem ↓] Go.wp_at_zero Go.wp_at_succ
end Go.Proofs.YtehgnkdfnnebcaaDoor
end
section
namespace Go.Mem
open Go Go.RowKit Gf Go.Proofs.YtehgnkdfnnebcaaDoor
set_option linter.unusedVariables false
def putStep {α : Type} (nm : α → ByteArray) (r : α) (s : List α × Bool) (x : α) : List α × Bool :=
  if ((nm x).toList == (nm r).toList) = true then (if s.2 = false ∧ Op.bytesLess (nm x).toList (nm r).toList = false then (s.1 ++ [r], true) else s)
  else ((if s.2 = false ∧ Op.bytesLess (nm x).toList (nm r).toList = false then (s.1 ++ [r], true) else s).1 ++ [x], (if s.2 = false ∧ Op.bytesLess (nm x).toList (nm r).toList = false then (s.1 ++ [r], true) else s).2)
def putFold {α : Type} (nm : α → ByteArray) (l : List α) (r : α) : List α × Bool := l.foldl (putStep nm r) ([], false)
def putG {α : Type} (nm : α → ByteArray) (l : List α) (r : α) : List α := if (putFold nm l r).2 = true then (putFold nm l r).1 else (putFold nm l r).1 ++ [r]
theorem putStep_map {α β : Type} {na : α → ByteArray} {nb : β → ByteArray} (f : α → β) (r x : α) (hr : nb (f r) = na r) (hx : nb (f x) = na x) (s : List α × Bool) :
    putStep nb (f r) (s.1.map f, s.2) (f x) = ((putStep na r s x).1.map f, (putStep na r s x).2) := by
  unfold putStep
  rw [hr, hx]
  simp only []
  split
  · split
    · simp
    · rfl
  · split
    · simp
    · simp
theorem putFold_map {α β : Type} {na : α → ByteArray} {nb : β → ByteArray} (f : α → β) (r : α) (hr : nb (f r) = na r) (l : List α) (hl : ∀ x ∈ l, nb (f x) = na x) (s : List α × Bool) :
    (l.map f).foldl (putStep nb (f r)) (s.1.map f, s.2) = ((l.foldl (putStep na r) s).1.map f, (l.foldl (putStep na r) s).2) := by
  induction l generalizing s with
  | nil => rfl
  | cons x l ih =>
    rw [List.map_cons, List.foldl_cons, List.foldl_cons, putStep_map f r x hr (hl x (by simp)) s]
    exact ih (fun y hy => hl y (by simp [hy])) _
theorem putG_map {α β : Type} {na : α → ByteArray} {nb : β → ByteArray} (f : α → β) (r : α) (hr : nb (f r) = na r) (l : List α) (hl : ∀ x ∈ l, nb (f x) = na x) : putG nb (l.map f) (f r) = (putG na l r).map f := by
  have h := putFold_map f r hr l hl ([], false)
  have h' : putFold nb (l.map f) (f r) = ((putFold na l r).1.map f, (putFold na l r).2) := h
  unfold putG
  rw [h']
  simp only []
  split
  · rfl
  · rw [List.map_append]; rfl
theorem putStep_len {α : Type} (nm : α → ByteArray) (r x : α) (s : List α × Bool) : (putStep nm r s x).1.length ≤ s.1.length + 2 := by
  unfold putStep
  split
  · split <;> simp
  · split <;> simp
theorem putFold_len {α : Type} (nm : α → ByteArray) (r : α) (l : List α) (s : List α × Bool) : (l.foldl (putStep nm r) s).1.length ≤ s.1.length + 2 * l.length := by
  induction l generalizing s with
  | nil => simp
  | cons x l ih =>
    have h1 := ih (putStep nm r s x)
    have h2 := putStep_len nm r x s
    rw [List.foldl_cons, List.length_cons]
    omega
theorem RPs.put {w : World} {N : Nat → Prop} {ps : List RP} {l : List RRec} {p : RP} {x : RRec} (h : RPs w N ps l) (h1 : p.name = x.name) (h2 : p.num = x.num) (h3 : p.slot = x.slot) (h4 : p.l = x.data.length) (h5 : DataZ w N (.slice p.a p.l p.c) x.data) : RPs w N (putG RP.name ps p) (putG RRec.name l x) := by
  obtain ⟨q, rfl, rfl, hq⟩ := h
  have e1 := putG_map (na := fun z : RP × RRec => z.1.name) (nb := RP.name) (·.1) (p, x) rfl q (fun _ _ => rfl)
  have e2 := putG_map (na := fun z : RP × RRec => z.1.name) (nb := RRec.name) (·.2) (p, x) h1.symm q (fun z hz => (hq z hz).1.symm)
  refine ⟨putG (fun z : RP × RRec => z.1.name) q (p, x), e1, e2, ?_⟩
  have hstep : ∀ (l : List (RP × RRec)) (s : List (RP × RRec) × Bool), (∀ z ∈ l, z.1.name = z.2.name ∧ z.1.num = z.2.num ∧ z.1.slot = z.2.slot ∧ z.1.l = z.2.data.length ∧ DataZ w N (.slice z.1.a z.1.l z.1.c) z.2.data) → (∀ z ∈ s.1, z.1.name = z.2.name ∧ z.1.num = z.2.num ∧ z.1.slot = z.2.slot ∧ z.1.l = z.2.data.length ∧ DataZ w N (.slice z.1.a z.1.l z.1.c) z.2.data) →
      ∀ z ∈ (l.foldl (putStep (fun z : RP × RRec => z.1.name) (p, x)) s).1, z.1.name = z.2.name ∧ z.1.num = z.2.num ∧ z.1.slot = z.2.slot ∧ z.1.l = z.2.data.length ∧ DataZ w N (.slice z.1.a z.1.l z.1.c) z.2.data := by
    intro l
    induction l with
    | nil => intro s _ hs; exact hs
    | cons y l ih =>
      intro s hl hs
      rw [List.foldl_cons]
      refine ih _ (fun z hz => hl z (by simp [hz])) (fun z hz => ?_)
      have hpx : ∀ z ∈ s.1 ++ [(p, x)], z.1.name = z.2.name ∧ z.1.num = z.2.num ∧ z.1.slot = z.2.slot ∧ z.1.l = z.2.data.length ∧ DataZ w N (.slice z.1.a z.1.l z.1.c) z.2.data := fun z hz => by
        rcases List.mem_append.1 hz with hz | hz
        · exact hs z hz
        · rw [List.mem_singleton.1 hz]; exact ⟨h1, h2, h3, h4, h5⟩
      unfold putStep at hz
      split at hz
      · split at hz
        · exact hpx z hz
        · exact hs z hz
      · simp only [] at hz
        rcases List.mem_append.1 hz with hz | hz
        · split at hz
          · exact hpx z hz
          · exact hs z hz
        · rw [List.mem_singleton.1 hz]; exact hl y (by simp)
  have hf := hstep q ([], false) hq (fun _ h => by cases h)
  intro z hz
  unfold putG at hz
  split at hz
  · exact hf z hz
  · rcases List.mem_append.1 hz with hz | hz
    · exact hf z hz
    · rw [List.mem_singleton.1 hz]; exact ⟨h1, h2, h3, h4, h5⟩
end Go.Mem
namespace Go.Proofs.YtehgnkdfnnebcaaDoor
open Go Go.RowKit Go.Mem Gf
set_option linter.unusedVariables false
theorem EK10 : ElemK Tryd.prog 72 76 (.agg #[.string ⟨#[]⟩, .int .i64 0, .slice none 0 0, .int .i64 0]) 4 56 := ⟨Tryd.underlying72, by kernel_rfl, rfl, by decide⟩
theorem putFold_snoc (ps : List RP) (p x : RP) {i : Nat} (hx : ps[i]? = some x) : putFold RP.name (ps.take (i + 1)) p = putStep RP.name p (putFold RP.name (ps.take i) p) x := by
  unfold putFold
  rw [List.take_add_one, hx]
  simp
attribute [local go_sem ↓] Go.wp_at_zero Go.wp_at_succ
set_option maxRecDepth 20000 in
set_option maxHeartbeats 4000000 in
theorem rputl_calls (w : World) (v : Value) (ps : List RP) (p : RP) (hrow : RowR w (fun _ => False) v ps) (hn : ps.length ≤ 1024) :
    Calls Tryd.prog 38 #[v, .agg (eR p).toArray] w fun e w' => ∃ v', e = .returned v' ∧ OwnG eR WfR 4 76 w' w.heap.size v' (putG RP.name ps p) ∧ Below w.heap.size w w' := by
  have hrow' := hrow
  obtain ⟨a, c, rfl, h1, h2, h3⟩ := hrow
  obtain ⟨n, hnn⟩ : ∃ n, n = ps.length := ⟨_, rfl⟩
  rw [← hnn] at hn h1 h3 hrow' ⊢
  have HR := Lib.hid (And.intro hrow' (And.intro h3 hnn))
  clear hrow' h3 hnn h2 h1
  go_enter Tryd.func38, Tryd.ntmps38
  go_upto_region 4 with fail
  obtain ⟨p3, hp3⟩ : ∃ q, q = w.heap.size := ⟨_, rfl⟩
  rw [← hp3]
  obtain ⟨w1, hw1⟩ : ∃ q, q = w.alloc (.cells (eR p).toArray 76) := ⟨_, rfl⟩
  rw [← hw1]
  have hk3 : Blk w1 p3 (eR p).toArray 76 := by rw [hw1, hp3]; exact Blk.new _ _ _
  have hb1 : Below w.heap.size w w1 := by rw [hw1]; exact (Below.refl _ _).alloc (Nat.le_refl _) _
  have hz1 : w1.heap.size = p3 + 1 := by rw [hw1, hp3]; simp
  have H1 := Lib.hid (And.intro hk3 (And.intro hb1 (And.intro hz1 hp3)))
  clear hk3 hb1 hz1 hp3 hw1
  go_loopw [5, 6, 10] (fun u d v wr => ∃ (i : Nat), i ≤ n ∧ v = .int .i64 i ∧ d = .bool (putFold RP.name (ps.take i) p).2 ∧ Hid (OwnG eR WfR 4 76 wr (p3 + 1) u (putFold RP.name (ps.take i) p).1 ∧ Below w1.heap.size w1 wr)) (fun _ _ v _ => n - (intOf v).toNat)
  case atStart => exact ⟨0, Nat.zero_le _, rfl, rfl, OwnG.nil _ _ _ _ _ _, Below.refl _ _⟩
  case round =>
    obtain ⟨i, hi, rfl, rfl, G⟩ := hrel
    have hwr : Below w.heap.size w wr := H1.out.2.1.trans (G.out.2.mono H1.out.2.1.size)
    have HWR := Lib.hid hwr
    clear hwr
    by_cases h0 : i < n
    · obtain ⟨x, hx⟩ : ∃ x, ps[i]? = some x := ⟨ps[i]'(by have := HR.out.2.2; omega), by simp⟩
      obtain ⟨b, off, ha, hbl, _, hc⟩ := HR.out.2.1 (by omega)
      have hst := putFold_snoc ps p x hx
      obtain ⟨l1, hl1⟩ : ∃ l, l = (putFold RP.name (ps.take i) p).1 := ⟨_, rfl⟩
      obtain ⟨d1, hd1⟩ : ∃ d, d = (putFold RP.name (ps.take i) p).2 := ⟨_, rfl⟩
      have hlen : l1.length ≤ 3000 := by
        have := putFold_len RP.name p (ps.take i) ([], false)
        rw [hl1]
        unfold putFold
        simp only [List.length_nil, List.length_take] at this ⊢
        omega
      rw [← hd1]
      have hG : OwnG eR WfR 4 76 wr (p3 + 1) u5 l1 := by rw [hl1]; exact G.out.1
      have hcx : ∀ (w' : World), Below w.heap.size w w' → ∀ k y, (eR x)[k]? = some y → w'.cell? ⟨b, off + i * 4 + k, none⟩ = some y := fun w' hb k y hy => by
        have := hc i x hx k y hy
        have hk : w'.cell? ⟨b, off + i * 4 + k, none⟩ = w.cell? ⟨b, off + i * 4 + k, none⟩ := by
          unfold World.cell?
          rw [hb.block b hbl]
        rw [hk]; exact this
      have hcp : ∀ (w' : World), Below w1.heap.size w1 w' → ∀ k y, (eR p)[k]? = some y → w'.cell? ⟨p3, k, none⟩ = some y := fun w' hb k y hy => by
        rw [(H1.out.1.kept hb).cell, List.getElem?_toArray]; exact hy
      subst ha
      have i0 : (0 : Int) ≤ (i : Int) := by omega
      have i1 : (i : Int) < (n : Int) := by omega
      have HX := Lib.hid (And.intro hst (And.intro hl1 (And.intro hd1 (And.intro hlen (And.intro hcx hcp)))))
      have HG := Lib.hid (And.intro hG G.out.2)
      have HI := Lib.hid h0
      clear hst hl1 hd1 hlen hG hcx hcp hx hc hbl h0
      obtain ⟨lt, hlt⟩ : ∃ q, q = Op.bytesLess x.name.toList p.name.toList := ⟨_, rfl⟩
      obtain ⟨eq, heq⟩ : ∃ q, q = (x.name.toList == p.name.toList) := ⟨_, rfl⟩
      have HLT := Lib.hid (And.intro hlt heq)
      go_upto_region 6 with fail
      go_cut [24] (fun vb wx => vb = .bool (!d1 && !lt) ∧ Hid (∃ k, wx = wr.drewN k))
      case first =>
        have cx := HX.out.2.2.2.2.1 wr HWR.out 0 _ rfl
        have cp := HX.out.2.2.2.2.2 wr G.out.2 0 _ rfl
        rw [Nat.add_zero] at cx
        clear heq
        subst hlt
        cases d1 with
        | true =>
          go_quiet (fail)
          go_wp2_with fail
          go_meet
          exact ⟨rfl, _, rfl⟩
        | false =>
          go_quiet (fail)
          go_wp2_with fail
          go_meet
          exact ⟨rfl, _, rfl⟩
      case rest =>
      clear hlt heq
      obtain ⟨rfl, hk⟩ := hcut
      obtain ⟨w6, hw6⟩ : ∃ q, q = wc := ⟨_, rfl⟩
      subst hw6
      obtain ⟨k6, hk6⟩ := hk.out
      clear hk
      have hbk : Below wr.heap.size wr w6 := by rw [hk6]; exact below_drewN (Below.refl _ _) _
      obtain ⟨b1, hb1⟩ : ∃ q, q = (!d1 && !lt) := ⟨_, rfl⟩
      rw [← hb1]
      have hgc : OwnG eR WfR 4 76 w6 (p3 + 1) u5 l1 := by rw [hk6]; exact HG.out.1.drewN _
      have HC := Lib.hid (And.intro hgc (And.intro hbk hb1))
      clear hk6 hbk hb1 hgc
      go_upto_if 24 with fail
      go_cut [5, 6] (fun u d wx => d = .bool (b1 || d1) ∧ Hid (OwnG eR WfR 4 76 wx (p3 + 1) u (if b1 then l1 ++ [p] else l1) ∧ Below w1.heap.size w1 wx))
      case first =>
        have hbc : Below w1.heap.size w1 w6 := HG.out.2.trans (HC.out.2.1.mono HG.out.2.size)
        have HBC := Lib.hid hbc
        clear hbc
        cases b1 with
        | true =>
          have cp0 := HX.out.2.2.2.2.2 w6 HBC.out 0 _ rfl
          have cp1 := HX.out.2.2.2.2.2 w6 HBC.out 1 _ rfl
          have cp2 := HX.out.2.2.2.2.2 w6 HBC.out 2 _ rfl
          have cp3 := HX.out.2.2.2.2.2 w6 HBC.out 3 _ rfl
          have hll := HX.out.2.2.2.1
          have hz := HBC.out.size
          have hz1 := H1.out.2.2.1
          go_wp2_with (at_builtin; refine appG_own EK10 ecR rfl _ _ rfl (base := p3 + 1) (l := l1) p trivial rfl (mb := w6.heap.size) (cx := 1) rfl (show Blk _ _ (eR p).toArray 76 from Blk.new _ _ _) (HC.out.1.chg (Chg.of_below (S := fun _ => False) ((Below.refl _ _).alloc (Nat.le_refl _) _)) (fun _ _ h => h)) (by omega) (by decide) ?z1 ?_)
          case z1 => first | omega | (simp; omega)
          intro v8 w8 ho8 hg8 hn8
          have hb8 : Below w1.heap.size w1 w8 := by
            have hcc := Chg.grown (S := fun b => p3 + 1 ≤ b) (Chg.of_below (S := fun b => p3 + 1 ≤ b) (HBC.out.trans (((Below.refl w6.heap.size w6).alloc (Nat.le_refl _) _).mono hz))) hg8 (fun k hk => .inl (HC.out.1.ge hk))
            exact hcc.below (Nat.le_refl _) (fun k hk => by omega)
          have H8 := Lib.hid (And.intro ho8 hb8)
          clear ho8 hg8 hn8 hb8
          go_wp2_with fail
          go_meet
          exact ⟨rfl, H8.out⟩
        | false =>
          go_wp2_with fail
          go_meet
          exact ⟨rfl, HC.out.1, HBC.out⟩
      case rest =>
      obtain ⟨rfl, hG2⟩ := hcut
      obtain ⟨w7, hw7⟩ : ∃ q, q = wc := ⟨_, rfl⟩
      subst hw7
      obtain ⟨v5, hv5⟩ : ∃ q, q = u5 := ⟨_, rfl⟩
      subst hv5
      obtain ⟨l2, hl2⟩ : ∃ q, q = (if b1 then l1 ++ [p] else l1) := ⟨_, rfl⟩
      rw [← hl2] at hG2
      have hlen2 : l2.length ≤ 3001 := by
        have := HX.out.2.2.2.1
        rw [hl2]
        split
        · rw [List.length_append, List.length_singleton]; omega
        · omega
      have H7 := Lib.hid (And.intro hG2.out.1 (And.intro hG2.out.2 (And.intro (H1.out.2.1.trans (hG2.out.2.mono H1.out.2.1.size)) (And.intro hl2 hlen2))))
      clear hG2 hl2 hlen2
      have heq := HLT.out.2
      go_upto_region 9 with fail
      go_cut [36] (fun vb wx => vb = .bool (!eq) ∧ Hid (∃ k, wx = w7.drewN k))
      case first =>
        have cx := HX.out.2.2.2.2.1 w7 H7.out.2.2.1 0 _ rfl
        have cp := HX.out.2.2.2.2.2 w7 H7.out.2.1 0 _ rfl
        rw [Nat.add_zero] at cx
        subst heq
        go_quiet (fail)
        go_wp2_with fail
        go_meet
        exact ⟨by rfl, _, rfl⟩
      case rest =>
      clear heq
      obtain ⟨rfl, hk⟩ := hcut
      obtain ⟨w8, hw8⟩ : ∃ q, q = wc := ⟨_, rfl⟩
      subst hw8
      obtain ⟨k8, hk8⟩ := hk.out
      clear hk
      have hbk : Below w7.heap.size w7 w8 := by rw [hk8]; exact below_drewN (Below.refl _ _) _
      have hgc : OwnG eR WfR 4 76 w8 (p3 + 1) v5 l2 := by rw [hk8]; exact H7.out.1.drewN _
      have H9 := Lib.hid (And.intro hgc (And.intro (H7.out.2.1.trans (hbk.mono H7.out.2.1.size)) (H7.out.2.2.1.trans (hbk.mono H7.out.2.2.1.size))))
      clear hk8 hbk hgc
      have hfin : ∀ (u : Value) (w' : World), OwnG eR WfR 4 76 w' (p3 + 1) u (if eq then l2 else l2 ++ [x]) → Below w1.heap.size w1 w' → ((b1 || d1) = (putFold RP.name (ps.take (i + 1)) p).2) ∧ Hid (OwnG eR WfR 4 76 w' (p3 + 1) u (putFold RP.name (ps.take (i + 1)) p).1 ∧ Below w1.heap.size w1 w') := fun u w' h1 h2 => by
        have hs := HX.out.1
        have hb := HC.out.2.2
        have hsp : putFold RP.name (List.take i ps) p = (l1, d1) := Prod.ext HX.out.2.1.symm HX.out.2.2.1.symm
        rw [hs, hsp]
        unfold putStep
        rw [← HLT.out.1, ← HLT.out.2]
        rw [H7.out.2.2.2.1] at h1
        cases hd : d1 <;> cases hlt : lt <;> cases he : eq <;> rw [hd, hlt] at hb <;> subst hb <;> simp [he] at h1 ⊢ <;> exact ⟨h1, h2⟩
      have HFIN := Lib.hid hfin
      clear hfin
      have HWX := Lib.hid (And.intro (HX.out.2.2.2.2.1 w8 H9.out.2.2 0 _ rfl) (And.intro (HX.out.2.2.2.2.1 w8 H9.out.2.2 1 _ rfl) (And.intro (HX.out.2.2.2.2.1 w8 H9.out.2.2 2 _ rfl) (HX.out.2.2.2.2.1 w8 H9.out.2.2 3 _ rfl))))
      cases eq with
      | true =>
        go_wp2_with fail
        have hq := HFIN.out v5 w8 H9.out.1 H9.out.2.1
        exact ⟨⟨i + 1, by have := HI.out; omega, by go_num, by rw [hq.1], hq.2⟩, by have := HI.out; simp [intOf]; omega⟩
      | false =>
        have cx0 := HWX.out.1
        have cx1 := HWX.out.2.1
        have cx2 := HWX.out.2.2.1
        have cx3 := HWX.out.2.2.2
        rw [Nat.add_zero] at cx0
        have hll := H7.out.2.2.2.2
        have hz := H9.out.2.1.size
        have hz1 := H1.out.2.2.1
        go_wp2_with (at_builtin; refine appG_own EK10 ecR rfl _ _ rfl (base := p3 + 1) (l := l2) x trivial rfl (mb := w8.heap.size) (cx := 1) rfl (show Blk _ _ (eR x).toArray 76 from Blk.new _ _ _) (H9.out.1.chg (Chg.of_below (S := fun _ => False) ((Below.refl _ _).alloc (Nat.le_refl _) _)) (fun _ _ h => h)) (by omega) (by decide) ?z2 ?_)
        case z2 => first | omega | (simp; omega)
        intro v9 w9 ho9 hg9 hn9
        have hb9 : Below w1.heap.size w1 w9 := by
          have hcc := Chg.grown (S := fun b => p3 + 1 ≤ b) (Chg.of_below (S := fun b => p3 + 1 ≤ b) (H9.out.2.1.trans (((Below.refl w8.heap.size w8).alloc (Nat.le_refl _) _).mono hz))) hg9 (fun k hk => .inl (H9.out.1.ge hk))
          exact hcc.below (Nat.le_refl _) (fun k hk => by omega)
        have hq := HFIN.out v9 w9 ho9 hb9
        have HQ := Lib.hid hq
        clear ho9 hg9 hn9 hb9 hq cx0 cx1 cx2 cx3
        go_wp2_with fail
        exact ⟨⟨i + 1, by have := HI.out; omega, by go_num, by rw [HQ.out.1], HQ.out.2⟩, by have := HI.out; simp [intOf]; omega⟩
    · obtain rfl : n = i := by omega
      have hall : ps.take n = ps := List.take_of_length_le (by have := HR.out.2.2; omega)
      rw [hall] at G ⊢
      obtain ⟨l1, hl1⟩ : ∃ l, l = (putFold RP.name ps p).1 := ⟨_, rfl⟩
      obtain ⟨d1, hd1⟩ : ∃ d, d = (putFold RP.name ps p).2 := ⟨_, rfl⟩
      rw [← hd1]
      have hlen : l1.length ≤ 3000 := by
        have := putFold_len RP.name p ps ([], false)
        rw [hl1]
        unfold putFold
        have h2 := HR.out.2.2
        simp only [List.length_nil] at this ⊢
        omega
      have hput : putG RP.name ps p = if d1 = true then l1 else l1 ++ [p] := by
        unfold putG
        rw [← hl1, ← hd1]
      have hG : OwnG eR WfR 4 76 wr (p3 + 1) u5 l1 := by rw [hl1]; exact G.out.1
      have HP := Lib.hid (And.intro hput (And.intro hlen (And.intro hG G.out.2)))
      clear h0 hi hall hl1 hd1 hlen hput hG G
      obtain ⟨v5, hv5⟩ : ∃ q, q = u5 := ⟨_, rfl⟩
      subst hv5
      cases d1 with
      | true =>
        have HQ := Lib.hid (show putG RP.name ps p = l1 from by rw [HP.out.1, if_pos rfl])
        go_wp2_with fail
        go_ret
        rw [HQ.out]
        exact ⟨v5, rfl, HP.out.2.2.1.lower (by have := H1.out.2.2.2; omega), HWR.out⟩
      | false =>
        have HQ := Lib.hid (show putG RP.name ps p = l1 ++ [p] from by rw [HP.out.1, if_neg (by decide)])
        have cp0 : wr.cell? ⟨p3, 0, none⟩ = some (.string p.name) := (H1.out.1.kept HP.out.2.2.2).cell 0
        have cp1 : wr.cell? ⟨p3, 1, none⟩ = some (.int .i64 p.num) := (H1.out.1.kept HP.out.2.2.2).cell 1
        have cp2 : wr.cell? ⟨p3, 2, none⟩ = some (.slice p.a p.l p.c) := (H1.out.1.kept HP.out.2.2.2).cell 2
        have cp3 : wr.cell? ⟨p3, 3, none⟩ = some (.int .i64 p.slot) := (H1.out.1.kept HP.out.2.2.2).cell 3
        have hll := HP.out.2.1
        have hz := HP.out.2.2.2.size
        have hz1 := H1.out.2.2.1
        go_wp2_with (at_builtin; refine appG_own EK10 ecR rfl _ _ rfl (base := p3 + 1) (l := l1) p trivial rfl (mb := wr.heap.size) (cx := 1) rfl (show Blk _ _ (eR p).toArray 76 from Blk.new _ _ _) (HP.out.2.2.1.chg (Chg.of_below (S := fun _ => False) ((Below.refl _ _).alloc (Nat.le_refl _) _)) (fun _ _ h => h)) (by omega) (by decide) ?z3 ?_)
        case z3 => first | omega | (simp; omega)
        intro v9 w9 ho9 hg9 hn9
        have hb9 : Below w1.heap.size w1 w9 := by
          have hcc := Chg.grown (S := fun b => p3 + 1 ≤ b) (Chg.of_below (S := fun b => p3 + 1 ≤ b) (HP.out.2.2.2.trans (((Below.refl wr.heap.size wr).alloc (Nat.le_refl _) _).mono hz))) hg9 (fun k hk => .inl (HP.out.2.2.1.ge hk))
          exact hcc.below (Nat.le_refl _) (fun k hk => by omega)
        have H9 := Lib.hid (And.intro ho9 hb9)
        clear ho9 hg9 hn9 hb9 cp0 cp1 cp2 cp3
        go_wp2_with fail
        go_ret
        rw [HQ.out]
        exact ⟨v9, rfl, H9.out.1.lower (by have := H1.out.2.2.2; omega), H1.out.2.1.trans (H9.out.2.mono H1.out.2.1.size)⟩
end Go.Proofs.YtehgnkdfnnebcaaDoor
end
section
namespace Go.Mem
open Go Go.RowKit Gf Go.Proofs.YtehgnkdfnnebcaaDoor
set_option linter.unusedVariables false
theorem putG_mem {α : Type} (nm : α → ByteArray) (l : List α) (r : α) : ∀ x ∈ putG nm l r, x ∈ l ∨ x = r := by
  have h : ∀ (l' : List α) (s : List α × Bool), (∀ x ∈ s.1, x ∈ l ∨ x = r) → (∀ x ∈ l', x ∈ l) → ∀ x ∈ (l'.foldl (putStep nm r) s).1, x ∈ l ∨ x = r := by
    intro l'
    induction l' with
    | nil => intro s hs _; exact hs
    | cons y l' ih =>
      intro s hs hl
      rw [List.foldl_cons]
      refine ih _ (fun x hx => ?_) (fun x hx => hl x (by simp [hx]))
      have hp : ∀ x ∈ s.1 ++ [r], x ∈ l ∨ x = r := fun x hx => by
        rcases List.mem_append.1 hx with hx | hx
        · exact hs x hx
        · exact .inr (List.mem_singleton.1 hx)
      unfold putStep at hx
      split at hx
      · split at hx
        · exact hp x hx
        · exact hs x hx
      · simp only [] at hx
        rcases List.mem_append.1 hx with hx | hx
        · split at hx
          · exact hp x hx
          · exact hs x hx
        · rw [List.mem_singleton.1 hx]; exact .inl (hl y (by simp))
  have hf := h l ([], false) (fun _ h => by cases h) (fun _ h => h)
  intro x hx
  unfold putG at hx
  split at hx
  · exact hf x hx
  · rcases List.mem_append.1 hx with hx | hx
    · exact hf x hx
    · exact .inr (List.mem_singleton.1 hx)
end Go.Mem
namespace Go.Proofs.YtehgnkdfnnebcaaDoor
open Go Go.RowKit Go.Mem Gf
set_option linter.unusedVariables false
set_option linter.unusedSimpArgs false
attribute [local go_sem ↓] Go.wp_at_zero Go.wp_at_succ
theorem appX_ex {P : Program} {t e : TypeId} (E : Elem P t e (.int .u8 0) 1) {o : Oper} {a : Act} {w : World} (s x : Operand) (ho : o.op = .call { callee := .builtin .append, args := #[s, x], argTypes := #[t, t] })
    {base : Nat} {v xv : Value} {bs news : List UInt8} (hs : a.eval s = v) (hx : a.eval x = xv) (hown : OwnX e w base v bs) (hb : Bys w xv news) (hn : bs.length + news.length ≤ 140737488355328) (hbase : base ≤ w.heap.size) {R : Value → World → Prop}
    (h : ∀ v' w', OwnX e w' base v' (bs ++ news) → w.grownBy w' v.ownBlock → R v' w') : ∃ v' w', (execOp a.eval o).run P w = .ok (.value v') w' ∧ R v' w' := by
  obtain ⟨v', w', hr, h2, h3⟩ := run_appX E o.type hown hb hn hbase
  refine ⟨v', w', ?_, h v' w' h2 h3⟩
  unfold execOp
  simp only [ho, resolve, invoke, builtin, Sem.run_bind, Sem.run_pure, Result.andThen_ok, List.map_toArray, List.map_cons, List.map_nil, hs, hx, hr]
theorem bys_nil10 (w : World) : Bys w (.slice none 0 0) [] := (OwnX.nil 5 w 0).bys
end Go.Proofs.YtehgnkdfnnebcaaDoor
end
section
namespace Go.Mem
open Go Go.RowKit Gf Go.Proofs.YtehgnkdfnnebcaaDoor
set_option linter.unusedVariables false
end Go.Mem
namespace Go.Proofs.YtehgnkdfnnebcaaDoor
open Go Go.RowKit Go.Mem Gf
set_option linter.unusedVariables false
set_option linter.unusedSimpArgs false
attribute [local go_sem ↓] Go.wp_at_zero Go.wp_at_succ
end Go.Proofs.YtehgnkdfnnebcaaDoor
end
section
namespace Go.Mem
open Go Go.RowKit Gf
def freeK (l : List Sto.Rec) : Nat → Nat
  | 0 => 0
  | k + 1 => match l[k]? with
    | none => freeK l k
    | some r => if r.is = false then freeK l k + 1 else freeK l k
theorem freeK_le (l : List Sto.Rec) : ∀ k, freeK l k ≤ k
  | 0 => Nat.le_refl _
  | k + 1 => by
    have := freeK_le l k
    simp only [freeK]
    split
    · omega
    · split <;> omega
def St.freeN (s : St) : Nat := if s.dead = true then 0 else freeK s.recs s.recs.length
end Go.Mem
namespace Go.Proofs.YtehgnkdfnnebcaaDoor
open Go Go.RowKit Go.Mem Gf
attribute [local go_sem ↓] Go.wp_at_zero Go.wp_at_succ
set_option maxRecDepth 100000 in
theorem in_calls (n : Int) (b : Bool) (w : World) (hb : decide (1 ≤ n ∧ n ≤ 1024) = b) :
    Calls Tryd.prog 32 #[.int .i64 n] w fun e w' => e = .returned (.bool b) ∧ w = w' := by
  have H := Lib.hid hb
  clear hb
  by_cases h1 : 1 ≤ n
  · by_cases h2 : n ≤ 1024
    · obtain rfl : b = true := by rw [← H.out]; exact decide_eq_true ⟨h1, h2⟩
      clear H
      go_enter Tryd.func32, Tryd.ntmps32
      go_wp2
      go_ret
      exact ⟨rfl, rfl⟩
    · obtain rfl : b = false := by rw [← H.out]; exact decide_eq_false (fun h => h2 h.2)
      clear H
      go_enter Tryd.func32, Tryd.ntmps32
      go_wp2
      go_ret
      exact ⟨rfl, rfl⟩
  · obtain rfl : b = false := by rw [← H.out]; exact decide_eq_false (fun h => h1 h.1)
    clear H
    go_enter Tryd.func32, Tryd.ntmps32
    go_wp2
    go_ret
    exact ⟨rfl, rfl⟩
set_option maxRecDepth 20000 in
set_option maxHeartbeats 2000000 in
theorem sfree_calls (N : Nat → Prop) (sb lb d L : Nat) (s : St) (w : World) (h : IsStore w N sb lb d L s) :
    Calls Tryd.prog 21 #[.pointer (some ⟨sb, 0, none⟩)] w fun e w' => e = .returned (.int .i64 (s.freeN : Nat)) ∧ Below w.heap.size w w' := by
  obtain ⟨lc, hS, hlc1, hlc2⟩ := h.blk
  have hl2 := h.ok.len2
  have H := Lib.hid h; have HS := Lib.hid hS
  obtain ⟨n, hnn⟩ : ∃ n, n = s.recs.length := ⟨_, rfl⟩
  have c2 : w.cell? ⟨sb, 2, none⟩ = some (.slice (some ⟨lb, 0, none⟩) n lc) := by rw [hnn]; exact hS.cell 2
  rw [← hnn] at hlc1 hl2
  have Hn := Lib.hid hnn
  obtain ⟨dead, hdd⟩ : ∃ x, x = s.dead := ⟨_, rfl⟩
  have Hdd := Lib.hid hdd
  have HF := Lib.hid (show s.freeN = if dead = true then 0 else freeK s.recs n from by unfold St.freeN; rw [hdd, hnn])
  obtain ⟨m, hm⟩ : ∃ m, m = s.freeN := ⟨_, rfl⟩
  rw [← hm] at HF ⊢
  clear h hS hnn hdd hm
  go_enter Tryd.func21, Tryd.ntmps21
  go_wp2_with fail
  go_loopw [3, 11] (fun u v wr => ∃ i : Nat, i ≤ n ∧ v = .int .i64 i ∧ u = .int .i64 ((if dead = true then 0 else freeK s.recs i : Nat) : Int) ∧ Below w.heap.size w wr) (fun _ v _ => n - (intOf v).toNat)
  case atStart => exact ⟨0, by omega, rfl, by cases dead <;> rfl, Below.refl _ _⟩
  case round =>
    obtain ⟨i, hi, rfl, rfl, hb⟩ := hrel
    by_cases h0 : i < n
    · obtain ⟨r, hr⟩ : ∃ r, s.recs[i]? = some r := ⟨s.recs[i]'(by have := Hn.out; omega), by simp⟩
      obtain ⟨a, c, c3, c4, c5, c6, _, _⟩ := (H.out.recs.below hb).at hr
      have i0 : (0 : Int) ≤ (i : Int) := by omega
      have i1 : (i : Int) < (n : Int) := by omega
      have hle := freeK_le s.recs i
      have Hst := Lib.hid (show freeK s.recs (i + 1) = if r.is = false then freeK s.recs i + 1 else freeK s.recs i from by rw [freeK, hr])
      obtain ⟨q, hq⟩ : ∃ q, q = freeK s.recs i := ⟨_, rfl⟩
      rw [← hq] at hle ⊢
      have Hq := Lib.hid hq
      have d3 : ∀ o, (wr.alloc o).cell? ⟨sb, 3, none⟩ = some (.bool dead) := fun o => by rw [Hdd.out]; exact ((HS.out.kept hb).alloc o).cell 3
      have hbo : ∀ o, Below w.heap.size w (wr.alloc o) := fun o => hb.alloc hb.size o
      have HBO := Lib.hid hbo
      clear hr hq hbo
      cases dead with
      | true =>
        simp only [if_true]
        by_cases k1 : r.is = true
        · rw [k1] at c3
          go_wp2
          exact ⟨⟨i + 1, by omega, by go_num, rfl, HBO.out _⟩, by simp [intOf] <;> omega⟩
        · have k1 : r.is = false := by simpa using k1
          rw [k1] at c3
          go_wp2
          exact ⟨⟨i + 1, by omega, by go_num, rfl, HBO.out _⟩, by simp [intOf] <;> omega⟩
      | false =>
        simp only [Bool.false_eq_true, if_false]
        by_cases k1 : r.is = true
        · have Hs2 := Lib.hid (show freeK s.recs (i + 1) = q from by rw [Hst.out, if_neg (by rw [k1]; decide), Hq.out])
          rw [k1] at c3
          clear k1
          go_wp2
          exact ⟨⟨i + 1, by omega, by go_num, by rw [Hs2.out] <;> rfl, HBO.out _⟩, by simp [intOf] <;> omega⟩
        · have k1 : r.is = false := by simpa using k1
          have Hs2 := Lib.hid (show freeK s.recs (i + 1) = q + 1 from by rw [Hst.out, if_pos k1, Hq.out])
          rw [k1] at c3
          clear k1
          go_wp2
          exact ⟨⟨i + 1, by omega, by go_num, by rw [Hs2.out] <;> rfl, HBO.out _⟩, by simp [intOf] <;> omega⟩
    · obtain rfl : n = i := by omega
      have HF2 := Lib.hid (show (((if dead = true then 0 else freeK s.recs n : Nat)) : Int) = (m : Int) from by rw [HF.out])
      have HB := Lib.hid hb
      obtain ⟨z, hz⟩ : ∃ z : Int, z = (((if dead = true then 0 else freeK s.recs n : Nat)) : Int) := ⟨_, rfl⟩
      rw [← hz] at HF2 ⊢
      clear hz hb
      go_wp2
      go_ret
      exact ⟨by rw [HF2.out] <;> rfl, HB.out⟩
end Go.Proofs.YtehgnkdfnnebcaaDoor
end
section
namespace Go.Mem
open Go Go.RowKit Gf
def namesK (l : List Sto.Rec) : Nat → List (List UInt8)
  | 0 => []
  | k + 1 => match l[k]? with
    | none => namesK l k
    | some r => if r.is = true then namesK l k ++ [r.name.data.toList] else namesK l k
theorem namesK_le (l : List Sto.Rec) : ∀ k, (namesK l k).length ≤ k
  | 0 => Nat.le_refl _
  | k + 1 => by
    have := namesK_le l k
    simp only [namesK]
    split
    · omega
    · split
      · simp; omega
      · omega
def St.names (s : St) : List (List UInt8) := if s.dead = true then [] else namesK s.recs s.recs.length
end Go.Mem
namespace Go.Proofs.YtehgnkdfnnebcaaDoor
open Go Go.RowKit Go.Mem Gf Go.Sort
attribute [local go_sem ↓] Go.wp_at_zero Go.wp_at_succ
theorem ESc : Elem Tryd.prog 54 9 (.string ByteArray.empty) 16 := ⟨Tryd.underlying54, by kernel_rfl, rfl⟩
def NamesPost (s : St) (w : World) (e : Ending) (w' : World) : Prop :=
  ∃ v, e = .returned v ∧ w'.ownsRow w.heap.size 9 1 v s.names.length ((s.names.mergeSort fun x y => decide (x ≤ y)).map encStr) ∧ Below w.heap.size w w'
set_option maxRecDepth 20000 in
set_option maxHeartbeats 2000000 in
theorem snames_calls (N : Nat → Prop) (sb lb d L : Nat) (s : St) (w : World) (h : IsStore w N sb lb d L s) :
    Calls Tryd.prog 20 #[.pointer (some ⟨sb, 0, none⟩)] w (NamesPost s w) := by
  obtain ⟨lc, hS, hlc1, hlc2⟩ := h.blk
  have hl2 := h.ok.len2
  have H := Lib.hid h; have HS := Lib.hid hS
  obtain ⟨n, hnn⟩ : ∃ n, n = s.recs.length := ⟨_, rfl⟩
  have c2 : w.cell? ⟨sb, 2, none⟩ = some (.slice (some ⟨lb, 0, none⟩) n lc) := by rw [hnn]; exact hS.cell 2
  rw [← hnn] at hlc1 hl2
  have Hn := Lib.hid hnn
  obtain ⟨dead, hdd⟩ : ∃ x, x = s.dead := ⟨_, rfl⟩
  have Hdd := Lib.hid hdd
  have HF := Lib.hid (show s.names = if dead = true then [] else namesK s.recs n from by unfold St.names; rw [hdd, hnn])
  clear h hS hnn hdd
  go_enter Tryd.func20, Tryd.ntmps20
  go_wp2_with fail
  go_loopw [3, 11] (fun u v wr => ∃ i : Nat, i ≤ n ∧ v = .int .i64 i ∧ wr.ownsRow w.heap.size 9 1 u (if dead = true then [] else namesK s.recs i).length ((if dead = true then [] else namesK s.recs i).map encStr) ∧ Below w.heap.size w wr) (fun _ v _ => n - (intOf v).toNat)
  case atStart => exact ⟨0, by omega, rfl, by cases dead <;> exact World.ownsRow_nil _ _ _ _, Below.refl _ _⟩
  case round =>
    obtain ⟨i, hi, rfl, hown, hb⟩ := hrel
    by_cases h0 : i < n
    · obtain ⟨r, hr⟩ : ∃ r, s.recs[i]? = some r := ⟨s.recs[i]'(by have := Hn.out; omega), by simp⟩
      obtain ⟨a, c, c3, c4, c5, c6, _, _⟩ := (H.out.recs.below hb).at hr
      have i0 : (0 : Int) ≤ (i : Int) := by omega
      have i1 : (i : Int) < (n : Int) := by omega
      have hle := namesK_le s.recs i
      have Hst := Lib.hid (show namesK s.recs (i + 1) = if r.is = true then namesK s.recs i ++ [r.name.data.toList] else namesK s.recs i from by rw [namesK, hr])
      obtain ⟨q, hq⟩ : ∃ q, q = namesK s.recs i := ⟨_, rfl⟩
      rw [← hq] at hle hown
      have Hq := Lib.hid hq
      have d3 : ∀ o, (wr.alloc o).cell? ⟨sb, 3, none⟩ = some (.bool dead) := fun o => by rw [Hdd.out]; exact ((HS.out.kept hb).alloc o).cell 3
      have hbo : ∀ o, Below w.heap.size w (wr.alloc o) := fun o => hb.alloc hb.size o
      have HBO := Lib.hid hbo
      have hsz := hb.size
      have HO := Lib.hid hown
      clear hr hq hbo hown
      cases dead with
      | true =>
        by_cases k1 : r.is = true
        · rw [k1] at c3
          go_wp2
          exact ⟨⟨i + 1, by omega, by go_num, HO.out.alloc _, HBO.out _⟩, by simp [intOf] <;> omega⟩
        · have k1 : r.is = false := by simpa using k1
          rw [k1] at c3
          go_wp2
          exact ⟨⟨i + 1, by omega, by go_num, HO.out.alloc _, HBO.out _⟩, by simp [intOf] <;> omega⟩
      | false =>
        have HO2 := Lib.hid (show wr.ownsRow w.heap.size 9 1 u3 q.length (q.map encStr) from HO.out)
        by_cases k1 : r.is = true
        · have Hs2 := Lib.hid (show namesK s.recs (i + 1) = q ++ [r.name.data.toList] from by rw [Hst.out, if_pos k1, Hq.out])
          rw [k1] at c3
          clear k1
          go_wp2_with (at_builtin; refine appG_one ESc rfl _ _ rfl (base := w.heap.size) (n := q.length) (xs := q.map encStr) (.string r.name) rfl rfl ?cc rfl ((HO2.out.alloc _).alloc _) ?q1 ?q2 ?q3 ?_)
          case cc => exact new_cell _ _ _ _ (by simp)
          case q1 => omega
          case q2 => omega
          case q3 => simp; omega
          intro v4 w4 ho4 hg4
          have hb4 := grown_below ((HBO.out _).alloc (HBO.out _).size _) hg4 (fun k hk => (HO2.out.lt k hk).1)
          have HO4 := Lib.hid ho4
          have HB4 := Lib.hid hb4
          clear ho4 hg4 hb4
          go_wp2
          refine ⟨⟨i + 1, by omega, by go_num, ?_, HB4.out⟩, by simp [intOf] <;> omega⟩
          rw [if_neg (by decide), Hs2.out, List.length_append, List.map_append]
          exact HO4.out
        · have k1 : r.is = false := by simpa using k1
          have Hs2 := Lib.hid (show namesK s.recs (i + 1) = q from by rw [Hst.out, if_neg (by rw [k1]; decide), Hq.out])
          rw [k1] at c3
          clear k1
          go_wp2
          refine ⟨⟨i + 1, by omega, by go_num, ?_, HBO.out _⟩, by simp [intOf] <;> omega⟩
          rw [if_neg (by decide), Hs2.out]
          exact HO2.out.alloc _
    · obtain rfl : n = i := by omega
      have hown2 : wr.ownsRow w.heap.size 9 1 u3 s.names.length (s.names.map encStr) := by rw [HF.out]; exact hown
      have hzl : s.names.length ≤ n := by
        rw [HF.out]
        cases dead
        · exact namesK_le _ _
        · simp
      obtain ⟨z, hz⟩ : ∃ z, z = s.names := ⟨_, rfl⟩
      rw [← hz] at hown2 hzl
      have HZ := Lib.hid hz
      have HB := Lib.hid hb
      clear hown hz hb HF
      have HO := Lib.hid hown2
      rcases hown2.2 with ⟨rfl, h0l⟩ | ⟨g, cap, cur, rfl, hg, hgg, g1, g2, g3, g4⟩
      · have hz0 : z = [] := by simpa using h0l
        subst hz0
        clear hown2
        go_wp2_with fail
        refine (Tryd.sort_Strings_none none 0 wr).mono ?_
        rintro e w3 ⟨rfl, rfl⟩
        go_wp2
        go_ret
        exact ⟨_, rfl, by rw [← HZ.out]; simpa using HO.out, HB.out⟩
      · have hH : Holds encStr wr g 0 z.toArray := holds_of_block hgg (by simpa using g4)
        have hgl : g < wr.heap.size := (Array.getElem?_eq_some_iff.1 hgg).1
        have HS2 := Lib.hid (fun n os => ownsRow_sorted (n := n) (os := os) (ss := z) (ts := z.mergeSort fun x y => decide (x ≤ y)) (by simp) hg hgg g1 g2 g3)
        have HG := Lib.hid hg
        clear hown2 hgg g4
        go_wp2_with fail
        refine (Tryd.sort_Strings g 0 cap z wr hH hgl (by omega)).mono ?_
        rintro e w3 ⟨rfl, m, os, rfl⟩
        have hgr : Below w.heap.size w (grow (putRow encStr (Sort.ahead wr m) g 0 (z.mergeSort fun x y => decide (x ≤ y)).toArray) os) := grown_below HB.out (grownBy_sorted _) (fun k hk => by cases hk; exact HG.out)
        obtain ⟨w4, hw4⟩ : ∃ w4, w4 = grow (putRow encStr (Sort.ahead wr m) g 0 (z.mergeSort fun x y => decide (x ≤ y)).toArray) os := ⟨_, rfl⟩
        rw [← hw4] at hgr ⊢
        have HW := Lib.hid hw4
        have HGR := Lib.hid hgr
        clear hgr hw4
        go_wp2
        go_ret
        exact ⟨_, rfl, by rw [HW.out, ← HZ.out]; exact HS2.out _ _, HGR.out⟩
end Go.Proofs.YtehgnkdfnnebcaaDoor
end
section
namespace Go.Proofs.YtehgnkdfnnebcaaDoor
open Go Go.RowKit Go.Mem Gf Go.Sort
def Strs (w : World) (v : Value) (ss : List (List UInt8)) : Prop :=
  ∃ a cap, v = .slice a ss.length cap ∧ ss.length ≤ cap ∧ cap ≤ maxLen ∧
    (0 < ss.length → ∃ b off, a = some ⟨b, off, none⟩ ∧ ∀ (i : Nat) (s : List UInt8), ss[i]? = some s → w.cell? ⟨b, off + i, none⟩ = some (encStr s))
section
variable {w w' : World} {v : Value} {ss : List (List UInt8)}
theorem Strs.nil (w : World) : Strs w (.slice none 0 0) [] := ⟨none, 0, rfl, Nat.le_refl _, Nat.zero_le _, fun h => by simp at h⟩
theorem Strs.len (h : Strs w v ss) : ss.length ≤ 9223372036854775807 := by
  obtain ⟨a, cap, _, h1, h2, _⟩ := h
  unfold maxLen at h2; omega
theorem Strs.eq_slice (h : Strs w v ss) : ∃ a cap, v = .slice a ss.length cap := by
  obtain ⟨a, cap, e, _⟩ := h; exact ⟨a, cap, e⟩
theorem Strs.below (h : Strs w v ss) (hb : Below w.heap.size w w') : Strs w' v ss := by
  obtain ⟨a, cap, h0, h1, h2, h3⟩ := h
  refine ⟨a, cap, h0, h1, h2, fun hp => ?_⟩
  obtain ⟨b, off, e, hc⟩ := h3 hp
  refine ⟨b, off, e, fun i u hi => ?_⟩
  have := hc i u hi
  rw [hb.cell (p := ⟨b, off + i, none⟩) (World.block_lt_of_cell? w _ this)]
  exact this
theorem Strs.rd (h : Strs w v ss) (hr : Rd w w') : Strs w' v ss := by
  obtain ⟨m, rfl⟩ := hr; exact h
theorem Strs.at {a : Option Addr} {n cap : Nat} (h : Strs w (.slice a n cap) ss) (k : Nat) (hk : k < ss.length) :
    ∃ b off s, a = some ⟨b, off, none⟩ ∧ Hid (ss[k]? = some s) ∧ w.cell? ⟨b, off + k, none⟩ = some (encStr s) := by
  obtain ⟨a', cap', e, h1, h2, h3⟩ := h
  obtain ⟨b, off, e', hc⟩ := h3 (by omega)
  injection e with e1 e2 e3
  exact ⟨b, off, ss[k], e1.trans e', by show ss[k]? = _; simp [hk], hc k _ (by simp [hk])⟩
theorem strs_of_own {base n : Nat} {t : TypeId} (h : w.ownsRow base t 1 v n (ss.map encStr)) (hn : ss.length = n) : Strs w v ss := by
  subst hn
  obtain ⟨hlen, h2⟩ := h
  rcases h2 with ⟨rfl, h0⟩ | ⟨g, cap, cur, rfl, _, hg, hnc, hcm, hcs, htake⟩
  · have : ss = [] := List.eq_nil_of_length_eq_zero h0
    subst this
    exact Strs.nil w
  · refine ⟨_, cap, rfl, hnc, hcm, fun _ => ⟨g, 0, rfl, fun i x hi => ?_⟩⟩
    have hil : i < ss.length := by
      rcases Nat.lt_or_ge i ss.length with h | h
      · exact h
      · rw [List.getElem?_eq_none h] at hi; cases hi
    have h1 : (cur.toList.take (ss.length * 1))[i]? = some (encStr x) := by rw [htake, List.getElem?_map, hi]; rfl
    rw [List.getElem?_take, if_pos (by omega), Array.getElem?_toList] at h1
    rw [Nat.zero_add]
    unfold World.cell?
    rw [hg]
    simpa using h1
end
attribute [local go_sem ↓] Go.wp_at_zero Go.wp_at_succ
set_option maxRecDepth 20000 in
set_option maxHeartbeats 1000000 in
theorem sames_calls (va vb : Value) (xs ys : List (List UInt8)) (w : World) (ha : Strs w va xs) (hb : Strs w vb ys) :
    Calls Tryd.prog 19 #[va, vb] w fun e w' => e = .returned (.bool (decide (xs = ys))) ∧ ∃ n, w' = w.drewN n := by
  have hla := ha.len
  have hlb := hb.len
  obtain ⟨aa, ca, rfl, hx⟩ := id ha
  clear hx
  obtain ⟨ab, cb, rfl, hx⟩ := id hb
  clear hx
  obtain ⟨la, hla'⟩ : ∃ n, n = xs.length := ⟨_, rfl⟩
  obtain ⟨lb, hlb'⟩ : ∃ n, n = ys.length := ⟨_, rfl⟩
  rw [← hla'] at hla ha ⊢
  rw [← hlb'] at hlb hb ⊢
  have Hla := Lib.hid hla'; have Hlb := Lib.hid hlb'; clear hla' hlb'
  by_cases hl : la = lb
  · subst hl
    go_enter Tryd.func19, Tryd.ntmps19
    go_wp2_with fail
    go_loopw [5] (fun v wr => ∃ i : Nat, i ≤ la ∧ v = .int .i64 i ∧ Rd w wr ∧ xs.take i = ys.take i) (fun v _ => la - (intOf v).toNat)
    case atStart => exact ⟨0, by omega, rfl, Rd.refl _, rfl⟩
    case round =>
      obtain ⟨i, hi, rfl, hrd, ht⟩ := hrel
      have Ht := Lib.hid ht; clear ht
      by_cases h0 : i < la
      · obtain ⟨b1, o1, u, rfl, Hu, c1⟩ := (ha.rd hrd).at i (by have := Hla.out; omega)
        obtain ⟨b2, o2, v, rfl, Hv, c2⟩ := (hb.rd hrd).at i (by have := Hlb.out; omega)
        unfold encStr at c1 c2
        have eu : (ByteArray.mk u.toArray).toList = u := by rw [Go.ByteArray.toList_eq]
        have ev : (ByteArray.mk v.toArray).toList = v := by rw [Go.ByteArray.toList_eq]
        by_cases huv : u = v
        · have t : ((ByteArray.mk u.toArray).toList == (ByteArray.mk v.toArray).toList) = true := by rw [eu, ev, huv]; simp
          have t2 : ((ByteArray.mk u.toArray).toList != (ByteArray.mk v.toArray).toList) = false := by rw [eu, ev, huv]; simp
          have Hs := Lib.hid (take_snoc_eq Ht.out Hu.out Hv.out huv); clear huv eu ev
          obtain ⟨U, hU⟩ : ∃ U, U = ByteArray.mk u.toArray := ⟨_, rfl⟩
          obtain ⟨V, hV⟩ : ∃ V, V = ByteArray.mk v.toArray := ⟨_, rfl⟩
          rw [← hU] at c1 t t2
          rw [← hV] at c2 t t2
          clear hU hV
          go_wp2_with fail
          go_quiet (fail)
          go_wp2
          exact ⟨⟨i + 1, by omega, by go_num, hrd.more _, Hs.out⟩, by simp [intOf]; omega⟩
        · have t : ((ByteArray.mk u.toArray).toList == (ByteArray.mk v.toArray).toList) = false := by rw [eu, ev]; simpa using huv
          have t2 : ((ByteArray.mk u.toArray).toList != (ByteArray.mk v.toArray).toList) = true := by rw [eu, ev]; simpa using huv
          have Hs : Hid (xs ≠ ys) := fun e => huv (by have h1 := Hu.out; have h2 := Hv.out; rw [e, h2] at h1; exact (Option.some.inj h1).symm)
          clear huv eu ev
          obtain ⟨U, hU⟩ : ∃ U, U = ByteArray.mk u.toArray := ⟨_, rfl⟩
          obtain ⟨V, hV⟩ : ∃ V, V = ByteArray.mk v.toArray := ⟨_, rfl⟩
          rw [← hU] at c1 t t2
          rw [← hV] at c2 t t2
          clear hU hV
          go_wp2_with fail
          go_quiet (fail)
          go_wp2
          go_ret
          exact ⟨by rw [decide_eq_false Hs.out]; rfl, hrd.more _⟩
      · obtain rfl : i = la := by omega
        have He : Hid (xs = ys) := by
          have h1 := Ht.out; have h2 := Hla.out; have h3 := Hlb.out
          rw [List.take_of_length_le (by omega), List.take_of_length_le (by omega)] at h1
          exact h1
        go_wp2
        go_ret
        exact ⟨by rw [decide_eq_true He.out]; rfl, hrd⟩
  · have t : ((la : Int) != (lb : Int)) = true := by simp; omega
    have t2 : (la != lb) = true := by simp; omega
    have He : Hid (xs ≠ ys) := fun e => hl (by rw [Hla.out, Hlb.out, e])
    clear hl
    go_enter Tryd.func19, Tryd.ntmps19
    go_wp2
    go_ret
    exact ⟨by rw [decide_eq_false He.out]; rfl, 0, rfl⟩
end Go.Proofs.YtehgnkdfnnebcaaDoor
end
section
namespace Go.Proofs.YtehgnkdfnnebcaaDoor
open Go Go.RowKit Go.Mem Gf
set_option linter.unusedVariables false
attribute [local go_sem ↓] Go.wp_at_zero Go.wp_at_succ
def rnamesR (L : List RRec) (died : Bool) : List (List UInt8) := if died = true then [] else L.map fun x => x.name.data.toList
set_option maxRecDepth 20000 in
set_option maxHeartbeats 2000000 in
theorem rnames_calls (w : World) (N : Nat → Prop) (q r B : Nat) (lv : Value) (ps : List RP) (D : DiskS) (slots room : Nat) (L : List RRec) (died : Bool) (h : RStore w N q r B lv ps D slots room L died) :
    Calls Tryd.prog 18 #[.pointer (some ⟨q, 0, none⟩)] w fun e w' => ∃ v, e = .returned v ∧ Strs w' v (rnamesR L died) ∧ w'.ownsRow w.heap.size 9 1 v (rnamesR L died).length ((rnamesR L died).map encStr) ∧ Below w.heap.size w w' := by
  have c3 : w.cell? ⟨q, 3, none⟩ = some lv := h.blk.cell 3
  have c4 : w.cell? ⟨q, 4, none⟩ = some (.bool died) := h.blk.cell 4
  obtain ⟨a, c, rfl, h1, h2, h3⟩ := id h.row
  obtain ⟨n, hn⟩ : ∃ n, n = ps.length := ⟨_, rfl⟩
  have hL : L.length = n := by rw [hn, h.recs.len]
  have hfew := h.few
  have hs1 := h.s1
  rw [← hn] at c3 h1 h3
  have hnb : n ≤ 1024 := by omega
  have H := Lib.hid (And.intro h (And.intro hL (And.intro h3 hn)))
  clear h hn hL h3 h1 h2 hfew hs1
  go_enter Tryd.func18, Tryd.ntmps18
  go_wp2_with fail
  go_loopw [3, 10] (fun u v wr => ∃ i : Nat, i ≤ n ∧ v = .int .i64 i ∧ Hid (wr.ownsRow w.heap.size 9 1 u (rnamesR (L.take i) died).length ((rnamesR (L.take i) died).map encStr) ∧ Below w.heap.size w wr)) (fun _ v _ => n - (intOf v).toNat)
  case atStart =>
    refine ⟨0, Nat.zero_le _, rfl, ?_, Below.refl _ _⟩
    have : rnamesR (L.take 0) died = [] := by unfold rnamesR; cases died <;> rfl
    rw [this]
    exact World.ownsRow_nil _ _ _ _
  case round =>
    obtain ⟨i, hi, rfl, G⟩ := hrel
    by_cases h0 : i < n
    · obtain ⟨x, hx⟩ : ∃ x, L[i]? = some x := ⟨L[i]'(by have := H.out.2.1; omega), by simp⟩
      have c3r : wr.cell? ⟨q, 3, none⟩ = some (.slice a n c) := by rw [H.out.2.2.2]; exact (H.out.1.blk.kept G.out.2).cell 3
      have c4r : wr.cell? ⟨q, 4, none⟩ = some (.bool died) := (H.out.1.blk.kept G.out.2).cell 4
      have i0 : (0 : Int) ≤ (i : Int) := by omega
      have i1 : (i : Int) < (n : Int) := by omega
      obtain ⟨v3, hv3⟩ : ∃ z, z = u3 := ⟨_, rfl⟩
      subst hv3
      clear c3 c4
      cases died with
      | true =>
        have HO := Lib.hid (show wr.ownsRow w.heap.size 9 1 v3 (rnamesR (L.take (i + 1)) true).length ((rnamesR (L.take (i + 1)) true).map encStr) from G.out.1)
        go_wp2_with fail
        exact ⟨⟨i + 1, by omega, by go_num, HO.out, G.out.2⟩, by simp [intOf] <;> omega⟩
      | false =>
        have hst : rnamesR (L.take (i + 1)) false = rnamesR (L.take i) false ++ [x.name.data.toList] := by
          unfold rnamesR
          rw [if_neg (by decide), if_neg (by decide), List.take_add_one, hx]
          simp
        obtain ⟨p, hp, e1, _⟩ := (H.out.1.below G.out.2).recs.at hx
        obtain ⟨a', c', e', _, _, h3⟩ := (H.out.1.below G.out.2).row
        obtain ⟨b, off, ha, _, _, hc⟩ := h3 (by have := (List.getElem?_eq_some_iff.1 hp).1; omega)
        have cx := hc i p hp 0 (.string p.name) rfl
        rw [e1, Nat.add_zero] at cx
        injection e' with e2 e3 e4
        subst e2
        subst ha
        obtain ⟨qs, hqs⟩ : ∃ z, z = rnamesR (L.take i) false := ⟨_, rfl⟩
        have hql : qs.length ≤ 1024 := by
          rw [hqs]; unfold rnamesR; rw [if_neg (by decide), List.length_map, List.length_take]; omega
        have hO : wr.ownsRow w.heap.size 9 1 v3 qs.length (qs.map encStr) := by rw [hqs]; exact G.out.1
        have HO := Lib.hid hO
        have HST := Lib.hid (show rnamesR (L.take (i + 1)) false = qs ++ [x.name.data.toList] from by rw [hst, hqs])
        have hz := G.out.2.size
        clear hst hqs hO hp hc h3 e1 e3 e4 hx
        go_wp2_with (at_builtin; refine appG_one ESc rfl _ _ rfl (base := w.heap.size) (n := qs.length) (xs := qs.map encStr) (.string x.name) rfl rfl ?cc rfl (HO.out.alloc _) ?q1 ?q2 ?q3 ?_)
        case cc => exact new_cell _ _ _ _ (by simp)
        case q1 => omega
        case q2 => omega
        case q3 => simp; omega
        intro v4 w4 ho4 hg4
        have hb4 := grown_below (G.out.2.alloc hz _) hg4 (fun k hk => (HO.out.lt k hk).1)
        have HO4 := Lib.hid (And.intro ho4 hb4)
        clear ho4 hg4 hb4
        go_wp2_with fail
        refine ⟨⟨i + 1, by omega, by go_num, ?_, HO4.out.2⟩, by simp [intOf] <;> omega⟩
        rw [HST.out, List.length_append, List.map_append]
        exact HO4.out.1
    · obtain rfl : n = i := by omega
      have hall : L.take n = L := List.take_of_length_le (by have := H.out.2.1; omega)
      rw [hall] at G
      clear h0 hi hall
      go_wp2_with fail
      go_ret
      exact ⟨_, rfl, strs_of_own G.out.1 rfl, G.out.1, G.out.2⟩
end Go.Proofs.YtehgnkdfnnebcaaDoor
end
section
namespace Go.Proofs.YtehgnkdfnnebcaaDoor
open Go Go.RowKit Go.Mem Gf
attribute [local go_sem ↓] Go.wp_at_zero Go.wp_at_succ
theorem bys_sub {w : World} {b o n c : Nat} {bs : List UInt8} (h : Bys w (.slice (some ⟨b, o, none⟩) n c) bs) (k m : Nat) (hk : k + m ≤ bs.length) : Bys w (.slice (if c = k then some ⟨b, o, none⟩ else some ⟨b, o + k, none⟩) m (c - k)) ((bs.drop k).take m) := by
  have hc : n ≤ c ∧ c ≤ maxLen ∧ n = bs.length := by
    obtain ⟨a, cap, e, h1, h2, _⟩ := h
    injection e with e1 e2 e3
    subst e2 e3
    exact ⟨h1, h2, rfl⟩
  by_cases hck : c = k
  · have hm : m = 0 := by omega
    subst hm
    rw [if_pos hck, List.take_zero]
    exact ⟨_, c - k, rfl, Nat.zero_le _, by omega, fun hp => by simp at hp⟩
  · rw [if_neg hck]
    exact bys_drop h k m (c - k) hk (by omega) (by omega)
def TakeP (bs : List UInt8) (w : World) (e : Ending) (w' : World) : Prop :=
  ∃ vx vy d, w' = w.drewN d ∧ ((Cod.takeNet bs = none ∧ e = .returned (.tuple #[vx, vy, .bool false]) ∧ vx = .slice none 0 0 ∧ vy = .slice none 0 0) ∨
    ∃ x y, Cod.takeNet bs = some (x, y) ∧ e = .returned (.tuple #[vx, vy, .bool true]) ∧ Bys w vx x ∧ Bys w vy y)
theorem take_no {bs : List UInt8} (h : Cod.badR bs) : Cod.takeNet bs = none := by
  cases e : Cod.takeNet bs with
  | none => rfl
  | some p => exact absurd h (Cod.take_some e).1
theorem takeP_no {bs : List UInt8} (h : Cod.badR bs) (w : World) : TakeP bs w (.returned (.tuple #[.slice none 0 0, .slice none 0 0, .bool false])) w :=
  ⟨_, _, 0, rfl, .inl ⟨take_no h, rfl, rfl, rfl⟩⟩
set_option maxRecDepth 100000 in
set_option maxHeartbeats 4000000 in
theorem rtake_calls (v : Value) (bs : List UInt8) (w : World) (h : Bys w v bs) (hrl : bs.length ≤ 1000000000000) :
    Calls Tryd.prog 45 #[v] w (TakeP bs w) := by
  obtain ⟨a, c, rfl⟩ := h.eq_slice
  have hsz := Cod.sizeR_le bs
  have hbad : (Cod.badR bs) = ((Cod.sizeR bs).2 = 0 ∨ bs.length ≤ (Cod.sizeR bs).2 ∨ bs.getD (Cod.sizeR bs).2 0 ≠ 58 ∨ (bs.getD 0 0 = 48 ∧ 1 < (Cod.sizeR bs).2) ∨ 16384 < (Cod.sizeR bs).1 ∨ bs.length < (Cod.sizeR bs).2 + (Cod.sizeR bs).1 + 2 ∨ bs.getD ((Cod.sizeR bs).2 + 1 + (Cod.sizeR bs).1) 0 ≠ 44) := rfl
  obtain ⟨D, hD⟩ : ∃ D, D = (Cod.sizeR bs).2 := ⟨_, rfl⟩
  obtain ⟨N, hN⟩ : ∃ N, N = (Cod.sizeR bs).1 := ⟨_, rfl⟩
  rw [← hD, ← hN] at hbad
  rw [← hD, ← hN] at hsz
  obtain ⟨l, hl'⟩ : ∃ l, l = bs.length := ⟨_, rfl⟩
  rw [← hl'] at hrl hsz hbad
  obtain ⟨hN1, hD6, hDl⟩ := hsz
  have hcap : l ≤ c ∧ c ≤ maxLen := by
    obtain ⟨_, cap, e, h1, h2, _⟩ := id h
    injection e with e1 e2 e3
    rw [hl', e3]
    exact ⟨h1, h2⟩
  have hc1 := hcap.1
  have hc2 := hcap.2
  unfold maxLen at hc2
  have H := Lib.hid h
  have HL := Lib.hid hl'
  have HD := Lib.hid (And.intro hD hN)
  have HB := Lib.hid hbad
  rw [← hl'] at h ⊢
  clear hl' hD hN hcap hbad
  go_enter Tryd.func45, Tryd.ntmps45
  go_upto_block 0 with fail
  go_cut [5, 6] (fun s5 s6 wx => s5 = .int .i64 D ∧ s6 = .int .i64 N ∧ w = wx)
  case first =>
    go_wp2_with fail
    go_loop [5, 6] (fun u v => ∃ n d : Nat, d ≤ l ∧ d ≤ 6 ∧ n ≤ 1000000 ∧ u = .int .i64 d ∧ v = .int .i64 n ∧ Hid (n < 10 ^ d) ∧ Hid (Cod.sizeR bs = Cod.sizeRGo (bs.drop d) n d)) (fun u _ => l - (intOf u).toNat)
    case atStart => exact ⟨0, 0, by omega, by omega, by omega, rfl, rfl, (by decide : 0 < 10 ^ 0), rfl⟩
    case round =>
      obtain ⟨n, d, hd, hd6, hnb, rfl, rfl, Hb, Hz⟩ := hrel
      by_cases h0 : d < l
      · obtain ⟨b, o, u, rfl, Hu, c1, hu⟩ := h.at d (by have := HL.out; omega)
        have i0 : (0 : Int) ≤ (d : Int) := by omega
        have i1 : (d : Int) < (l : Int) := by omega
        by_cases hc : 48 ≤ u.toNat ∧ u.toNat ≤ 57 ∧ d < 6
        · obtain ⟨h1, h2, h3⟩ := hc
          have Hfin := Lib.hid (show Cod.sizeR bs = Cod.sizeRGo (bs.drop (d + 1)) (10 * n + (u.toNat - 48)) (d + 1) from by rw [Hz.out]; exact Cod.sizeRGo_step (drop_cons Hu.out) ⟨h1, h2, h3⟩)
          have hnb2 : 10 * n + (u.toNat - 48) < 10 ^ (d + 1) := by rw [Nat.pow_succ]; have := Hb.out; omega
          have hnb3 : 10 * n + (u.toNat - 48) ≤ 1000000 := by
            have : 10 ^ (d + 1) ≤ 10 ^ 6 := Nat.pow_le_pow_right (by decide) (by omega)
            omega
          have HNB := Lib.hid hnb2
          clear hnb2
          go_wp2
          exact ⟨⟨10 * n + (u.toNat - 48), d + 1, by omega, by omega, hnb3, by go_num, congrArg (Value.int .i64) (by omega), HNB.out, Hfin.out⟩, by simp [intOf] <;> omega⟩
        · have Hfin := Lib.hid (show Cod.sizeR bs = (n, d) from by rw [Hz.out]; exact Cod.sizeRGo_stop fun c r e => by rw [drop_cons Hu.out] at e; injection e with e _; subst e; exact hc)
          have h1 : (u.toNat < 48) ∨ (48 ≤ u.toNat ∧ 57 < u.toNat) ∨ (48 ≤ u.toNat ∧ u.toNat ≤ 57 ∧ 6 ≤ d) := by omega
          clear hc
          rcases h1 with h1 | ⟨h1, h2⟩ | ⟨h1, h2, h3⟩
          all_goals
            go_wp2
            go_meet
            exact ⟨by rw [HD.out.1, Hfin.out], by rw [HD.out.2, Hfin.out], rfl⟩
      · obtain rfl : d = l := by omega
        have e := Hz.out
        rw [List.drop_eq_nil_of_le (by have := HL.out; omega)] at e
        have E := Lib.hid e
        clear e
        go_wp2
        go_meet
        exact ⟨by rw [HD.out.1, E.out]; rfl, by rw [HD.out.2, E.out]; rfl, rfl⟩
  case rest =>
  obtain ⟨rfl, rfl, rfl⟩ := hcut
  by_cases b1 : D = 0
  · have t0 : ((D : Int) == 0) = true := by simp [b1]
    have HF := Lib.hid (show Cod.badR bs from by rw [HB.out]; exact .inl b1)
    clear b1
    go_wp2
    go_ret3
    exact takeP_no HF.out _
  have t0 : ((D : Int) == 0) = false := by simp; omega
  by_cases b2 : l ≤ D
  · have t1 : decide (l ≤ D) = true := by simpa using b2
    have t2 : decide ((l : Int) ≤ (D : Int)) = true := by simpa using b2
    have HF := Lib.hid (show Cod.badR bs from by rw [HB.out]; exact .inr (.inl b2))
    go_wp2
    go_ret3
    exact takeP_no HF.out _
  have t1 : decide (l ≤ D) = false := by simp; omega
  have t2 : decide ((l : Int) ≤ (D : Int)) = false := by simp; omega
  obtain ⟨b, o, rfl, c0⟩ := Bys.byte H.out 0 (by have := HL.out; omega)
  obtain ⟨b', o', e1, c1⟩ := Bys.byte H.out D (by have := HL.out; omega)
  cases e1
  obtain ⟨u0, hu0⟩ : ∃ u0, u0 = bs.getD 0 0 := ⟨_, rfl⟩
  obtain ⟨u1, hu1⟩ : ∃ u1, u1 = bs.getD D 0 := ⟨_, rfl⟩
  obtain ⟨u2, hu2⟩ : ∃ u2, u2 = bs.getD (D + 1 + N) 0 := ⟨_, rfl⟩
  rw [← hu0] at c0 HB
  rw [← hu1] at c1 HB
  rw [← hu2] at HB
  replace c0 : w.cell? ⟨b, o, none⟩ = some (.int .u8 (u0.toNat : Nat)) := c0
  have HU := Lib.hid hu2
  clear hu0 hu1 hu2 h
  have i1 : (0 : Int) < (l : Int) := by omega
  have i2 : 0 < l := by omega
  have i3 : (D : Int) < (l : Int) := by omega
  have i4 : D < l := by omega
  by_cases b3 : u1 = 58
  rotate_left
  · have t3 : (((u1.toNat : Nat) : Int) == 58) = false := eq_u8 (k := 58) (by decide) b3
    have t3' : (((u1.toNat : Nat) : Int) != 58) = true := neq_u8 (k := 58) (by decide) b3
    have HF := Lib.hid (show Cod.badR bs from by rw [HB.out]; exact .inr (.inr (.inl b3)))
    clear b3
    go_wp2
    go_ret3
    exact takeP_no HF.out _
  replace c1 : w.cell? ⟨b, o + D, none⟩ = some (.int .u8 58) := by rw [c1, b3]; rfl
  replace b3 := Lib.hid b3
  have hz : (u0 = 48 ∧ 1 < D) ∨ (¬ (u0 = 48 ∧ 1 < D)) := Classical.em _
  rcases hz with hz | hz
  · replace c0 : w.cell? ⟨b, o, none⟩ = some (.int .u8 48) := by rw [c0, hz.1]; rfl
    have t4 : decide ((1 : Int) < (D : Int)) = true := by simp; omega
    have HF := Lib.hid (show Cod.badR bs from by rw [HB.out]; exact .inr (.inr (.inr (.inl hz))))
    clear hz
    go_wp2
    go_ret3
    exact takeP_no HF.out _
  have hz2 : (u0 = 48 ∧ D ≤ 1) ∨ u0 ≠ 48 := by
    by_cases e : u0 = 48
    · exact .inl ⟨e, Nat.not_lt.1 fun h => hz ⟨e, h⟩⟩
    · exact .inr e
  have H4 := Lib.hid hz
  clear hz
  have t4 : (u0 = 48 → decide ((1 : Int) < (D : Int)) = false) := fun e => by
    rcases hz2 with h | h
    · have := h.2
      simp; omega
    · exact absurd e h
  by_cases b5 : 16384 < N
  · have t5 : decide ((16384 : Int) < (N : Int)) = true := by simp; omega
    have HF := Lib.hid (show Cod.badR bs from by rw [HB.out]; exact .inr (.inr (.inr (.inr (.inl b5)))))
    rcases hz2 with ⟨hz, hz1⟩ | hz
    · replace c0 : w.cell? ⟨b, o, none⟩ = some (.int .u8 48) := by rw [c0, hz]; rfl
      replace t4 := t4 hz
      clear hz
      go_wp2
      go_ret3
      exact takeP_no HF.out _
    · have t6 : (((u0.toNat : Nat) : Int) == 48) = false := eq_u8 (k := 48) (by decide) hz
      clear hz t4
      go_wp2
      go_ret3
      exact takeP_no HF.out _
  have t5 : decide ((16384 : Int) < (N : Int)) = false := by simp; omega
  by_cases b6 : l < D + N + 2
  · have t7 : decide ((l : Int) < (D : Int) + (N : Int) + 2) = true := by simp; omega
    have HF := Lib.hid (show Cod.badR bs from by rw [HB.out]; exact .inr (.inr (.inr (.inr (.inr (.inl b6))))))
    rcases hz2 with ⟨hz, hz1⟩ | hz
    · replace c0 : w.cell? ⟨b, o, none⟩ = some (.int .u8 48) := by rw [c0, hz]; rfl
      replace t4 := t4 hz
      clear hz
      go_wp2
      go_ret3
      exact takeP_no HF.out _
    · have t6 : (((u0.toNat : Nat) : Int) == 48) = false := eq_u8 (k := 48) (by decide) hz
      clear hz t4
      go_wp2
      go_ret3
      exact takeP_no HF.out _
  have t7 : decide ((l : Int) < (D : Int) + (N : Int) + 2) = false := by simp; omega
  obtain ⟨b', o', e1, c2⟩ := Bys.byte H.out (D + 1 + N) (by have := HL.out; omega)
  cases e1
  rw [← HU.out] at c2
  have i5 : (D : Int) + 1 + (N : Int) < (l : Int) := by omega
  have i6 : (0 : Int) ≤ (D : Int) + 1 + (N : Int) := by omega
  have q1 : ((D : Int) + 1 + (N : Int)).toNat = D + 1 + N := by omega
  by_cases b7 : u2 = 44
  rotate_left
  · have t3 : (((u2.toNat : Nat) : Int) == 44) = false := eq_u8 (k := 44) (by decide) b7
    have t3' : (((u2.toNat : Nat) : Int) != 44) = true := neq_u8 (k := 44) (by decide) b7
    have HF := Lib.hid (show Cod.badR bs from by rw [HB.out]; exact .inr (.inr (.inr (.inr (.inr (.inr b7))))))
    clear b7
    rcases hz2 with ⟨hz, hz1⟩ | hz
    · replace c0 : w.cell? ⟨b, o, none⟩ = some (.int .u8 48) := by rw [c0, hz]; rfl
      replace t4 := t4 hz
      clear hz
      go_wp2
      go_ret3
      exact takeP_no HF.out _
    · have t6 : (((u0.toNat : Nat) : Int) == 48) = false := eq_u8 (k := 48) (by decide) hz
      clear hz t4
      go_wp2
      go_ret3
      exact takeP_no HF.out _
  replace c2 : w.cell? ⟨b, o + (D + 1 + N), none⟩ = some (.int .u8 44) := by rw [c2, b7]; rfl
  have hgood : ¬ Cod.badR bs := by
    rw [HB.out]
    rintro (h | h | h | h | h | h | h)
    · exact b1 h
    · exact b2 h
    · exact h b3.out
    · exact H4.out h
    · exact b5 h
    · exact b6 h
    · exact h b7
  replace b7 := Lib.hid b7
  have HT := (Cod.take_good hgood).2
  rw [← HD.out.1, ← HD.out.2] at HT
  have hX : Bys w (.slice (if c = D + 1 then some ⟨b, o, none⟩ else some ⟨b, o + (D + 1), none⟩) N (c - (D + 1))) ((bs.drop (D + 1)).take N) := bys_sub H.out (D + 1) N (by have := HL.out; omega)
  have hY : Bys w (.slice (if c = D + N + 2 then some ⟨b, o, none⟩ else some ⟨b, o + (D + N + 2), none⟩) (l - (D + N + 2)) (c - (D + N + 2))) (bs.drop (D + N + 2)) := by
    have := bys_sub H.out (D + N + 2) (l - (D + N + 2)) (by have := HL.out; omega)
    rwa [List.take_of_length_le (by rw [List.length_drop]; have := HL.out; omega)] at this
  have HXY := Lib.hid (And.intro HT (And.intro hX hY))
  have i7 : (D : Int) + 1 + (N : Int) ≤ (c : Int) := by omega
  have i8 : (D : Int) + (N : Int) + 2 ≤ (l : Int) := by omega
  have i9 : (D : Int) + 1 ≤ (D : Int) + 1 + (N : Int) := by omega
  have i10 : ¬ (c = D + 1) := by omega
  have x1 : IntKind.i64.wrap ((D : Int) + 1) = (D : Int) + 1 := IntWalk.i64_in _ (by omega)
  have x2 : IntKind.i64.wrap ((D : Int) + 1 + (N : Int)) = (D : Int) + 1 + (N : Int) := IntWalk.i64_in _ (by omega)
  have x3 : IntKind.i64.wrap ((D : Int) + (N : Int)) = (D : Int) + (N : Int) := IntWalk.i64_in _ (by omega)
  have x4 : IntKind.i64.wrap ((D : Int) + (N : Int) + 2) = (D : Int) + (N : Int) + 2 := IntWalk.i64_in _ (by omega)
  have x5 : ((D : Int) + (N : Int) + 2).toNat = D + N + 2 := by omega
  have x6 : ((D : Int) + 1).toNat = D + 1 := by omega
  have x7 : (0 : Int) ≤ (D : Int) + 1 := by omega
  have x8 : (0 : Int) ≤ (D : Int) + (N : Int) + 2 := by omega
  rw [if_neg i10] at HXY
  clear hX hY HT hgood b1 b2 b5 b6
  rcases hz2 with ⟨hz, hz1⟩ | hz
  · replace c0 : w.cell? ⟨b, o, none⟩ = some (.int .u8 48) := by rw [c0, hz]; rfl
    replace t4 := t4 hz
    clear hz
    by_cases hcc : c = D + N + 2
    · have hcc2 : (c = D + N + 2) = True := by simp [hcc]
      have HXZ := Lib.hid (show Bys w (.slice (some ⟨b, o, none⟩) (l - (D + N + 2)) (c - (D + N + 2))) (bs.drop (D + N + 2)) from by have := HXY.out.2.2; rwa [if_pos hcc] at this)
      clear hcc
      go_upto_region 7 with fail
      go_quiet (fail)
      go_wp2
      go_ret3
      exact ⟨_, _, _, rfl, .inr ⟨_, _, HXY.out.1, rfl, HXY.out.2.1, HXZ.out⟩⟩
    · have HXZ := Lib.hid (show Bys w (.slice (some ⟨b, o + (D + N + 2), none⟩) (l - (D + N + 2)) (c - (D + N + 2))) (bs.drop (D + N + 2)) from by have := HXY.out.2.2; rwa [if_neg hcc] at this)
      go_upto_region 7 with fail
      go_quiet (fail)
      go_wp2
      go_ret3
      exact ⟨_, _, _, rfl, .inr ⟨_, _, HXY.out.1, rfl, HXY.out.2.1, HXZ.out⟩⟩
  · have t6 : (((u0.toNat : Nat) : Int) == 48) = false := eq_u8 (k := 48) (by decide) hz
    clear hz t4
    by_cases hcc : c = D + N + 2
    · have hcc2 : (c = D + N + 2) = True := by simp [hcc]
      have HXZ := Lib.hid (show Bys w (.slice (some ⟨b, o, none⟩) (l - (D + N + 2)) (c - (D + N + 2))) (bs.drop (D + N + 2)) from by have := HXY.out.2.2; rwa [if_pos hcc] at this)
      clear hcc
      go_upto_region 7 with fail
      go_quiet (fail)
      go_wp2
      go_ret3
      exact ⟨_, _, _, rfl, .inr ⟨_, _, HXY.out.1, rfl, HXY.out.2.1, HXZ.out⟩⟩
    · have HXZ := Lib.hid (show Bys w (.slice (some ⟨b, o + (D + N + 2), none⟩) (l - (D + N + 2)) (c - (D + N + 2))) (bs.drop (D + N + 2)) from by have := HXY.out.2.2; rwa [if_neg hcc] at this)
      go_upto_region 7 with fail
      go_quiet (fail)
      go_wp2
      go_ret3
      exact ⟨_, _, _, rfl, .inr ⟨_, _, HXY.out.1, rfl, HXY.out.2.1, HXZ.out⟩⟩
end Go.Proofs.YtehgnkdfnnebcaaDoor
end
