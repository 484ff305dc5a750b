/- Texts of this proof, packed: PlayMem, PlayOpen, PlaySame. -/
import Derived.Test.YtehgnkdfnnebcaaDoorPk09
import Derived.Test.YtehgnkdfnnebcaaDoorPk03
import Derived.Deep.QuietTactic
import Derived.Test.YtehgnkdfnnebcaaDoorPk02
section
namespace Go.Proofs.YtehgnkdfnnebcaaDoor
open Go Go.RowKit Go.Mem Gf
set_option linter.unusedVariables false
def pairC (d r : Nat) (v1 v3 : Value) (slots room : Nat) : Array Value := #[.pointer (some ⟨d, 0, none⟩), v1, .pointer (some ⟨r, 0, none⟩), v3, .int .i64 slots, .int .i64 room]
structure PairB (w0 w : World) (p d Ld r B : Nat) (m slots room : Nat) (D : DiskS) (v1 v3 : Value) : Prop where
  blk : Blk w p (pairC d r v1 v3 slots room) 39
  disk : IsDisk w d Ld D
  rd : RDisk w r B D
  bel : Below w0.heap.size w0 w
  far : w0.heap.size ≤ p ∧ w0.heap.size ≤ d ∧ w0.heap.size ≤ Ld ∧ w0.heap.size ≤ r ∧ w0.heap.size ≤ B
  ne : p ≠ d ∧ p ≠ Ld ∧ p ≠ r ∧ p ≠ B ∧ d ≠ r ∧ d ≠ B ∧ Ld ≠ r ∧ Ld ≠ B
  tab : Tab w
  tab0 : Tab w0
  n : D.n = slots * (room + 1)
  few : D.writes ≤ 2000 * m
  s1 : 1 ≤ slots ∧ slots ≤ 10
  r1 : 1 ≤ room ∧ room ≤ 10
  m1 : 4294967296 ≤ m
section
variable {w0 w w' : World} {p d Ld r B m slots room : Nat} {D D' : DiskS} {v1 v3 : Value}
theorem PairB.chg {S : Nat → Prop} (h : PairB w0 w p d Ld r B m slots room D v1 v3) (hc : Chg S w w') (hS : ∀ b, S b → w0.heap.size ≤ b) (hp : ¬ S p ∧ ¬ S d ∧ ¬ S Ld ∧ ¬ S r ∧ ¬ S B) : PairB w0 w' p d Ld r B m slots room D v1 v3 :=
  { h with
    blk := hc.blk h.blk hp.1
    disk := h.disk.chg hc hp.2.1 hp.2.2.1
    rd := h.rd.chg hc hp.2.2.2.1 hp.2.2.2.2
    bel := Chg.far h.bel hc h.bel.size hS
    tab := h.tab.chg hc (fun e => by have := hS _ e; have := h.tab0.lt; omega) }
theorem PairB.step (h : PairB w0 w p d Ld r B m slots room D v1 v3) (hb : Below w.heap.size w w') : PairB w0 w' p d Ld r B m slots room D v1 v3 :=
  h.chg (S := fun _ => False) (Chg.of_below hb) (fun _ h => h.elim) ⟨id, id, id, id, id⟩
theorem PairB.lt (h : PairB w0 w p d Ld r B m slots room D v1 v3) : p < w.heap.size ∧ d < w.heap.size ∧ Ld < w.heap.size ∧ r < w.heap.size ∧ B < w.heap.size :=
  ⟨h.blk.lt, h.disk.lt.1, h.disk.lt.2, h.rd.lt.1, h.rd.lt.2⟩
end
structure PairS (w0 w : World) (N : Nat → Prop) (p d Ld sb lb r B q : Nat) (lv : Value) (ps : List RP) (m slots room : Nat) (s : St) (L : List RRec) : Prop where
  base : PairB w0 w p d Ld r B m slots room s.disk (.pointer (some ⟨sb, 0, none⟩)) (.pointer (some ⟨q, 0, none⟩))
  st : IsStore w N sb lb d Ld s
  rs : RStore w N q r B lv ps s.disk slots room L s.dead
  dup : Dup m slots s L
  room : s.room = room
  np : N p
  nfar : ∀ b, N b → w0.heap.size ≤ b
  ne : p ≠ sb ∧ p ≠ lb ∧ p ≠ q ∧ sb ≠ r ∧ sb ≠ B ∧ sb ≠ q ∧ lb ≠ r ∧ lb ≠ B ∧ lb ≠ q ∧ q ≠ d ∧ q ≠ Ld
section
variable {w0 w w' : World} {N S : Nat → Prop} {p d Ld sb lb r B q : Nat} {lv : Value} {ps : List RP} {m slots room : Nat} {s : St} {L : List RRec}
theorem PairS.chg (h : PairS w0 w N p d Ld sb lb r B q lv ps m slots room s L) (hc : Chg S w w') (hS : ∀ b, S b → w0.heap.size ≤ b) (hs : ∀ b, S b → b < w.heap.size → N b)
    (hp : ¬ S p ∧ ¬ S d ∧ ¬ S Ld ∧ ¬ S r ∧ ¬ S B ∧ ¬ S sb ∧ ¬ S lb ∧ ¬ S q) : PairS w0 w' N p d Ld sb lb r B q lv ps m slots room s L :=
  { h with
    base := h.base.chg hc hS ⟨hp.1, hp.2.1, hp.2.2.1, hp.2.2.2.1, hp.2.2.2.2.1⟩
    st := h.st.chg hc (fun b hb => by rcases hb with rfl | rfl | rfl | rfl; exact hp.2.2.2.2.2.1; exact hp.2.2.2.2.2.2.1; exact hp.2.1; exact hp.2.2.1) hs
    rs := h.rs.chg hc hs (fun b hb => by rcases hb with rfl | rfl | rfl; exact hp.2.2.2.2.2.2.2; exact hp.2.2.2.1; exact hp.2.2.2.2.1) }
theorem PairS.step (h : PairS w0 w N p d Ld sb lb r B q lv ps m slots room s L) (hb : Below w.heap.size w w') : PairS w0 w' N p d Ld sb lb r B q lv ps m slots room s L :=
  h.chg (S := fun _ => False) (Chg.of_below hb) (fun _ h => h.elim) (fun _ h => h.elim) ⟨id, id, id, id, id, id, id, id⟩
end
def tupAt (v : Value) (i : Nat) : Value := match v with
  | .tuple a => (a[i]?).getD undef
  | _ => undef
def Par (w0 w : World) (p d Ld r B m slots room : Nat) : Prop :=
  (∃ D, PairB w0 w p d Ld r B m slots room D (.pointer none) (.pointer none)) ∨ ∃ N sb lb q lv ps s L, PairS w0 w N p d Ld sb lb r B q lv ps m slots room s L
theorem Par.step {w0 w w' : World} {p d Ld r B m slots room : Nat} (h : Par w0 w p d Ld r B m slots room) (hb : Below w.heap.size w w') : Par w0 w' p d Ld r B m slots room := by
  rcases h with ⟨D, h⟩ | ⟨N, sb, lb, q, lv, ps, s, L, h⟩
  · exact .inl ⟨D, h.step hb⟩
  · exact .inr ⟨N, sb, lb, q, lv, ps, s, L, h.step hb⟩
theorem Par.bel {w0 w : World} {p d Ld r B m slots room : Nat} (h : Par w0 w p d Ld r B m slots room) : Below w0.heap.size w0 w := by
  rcases h with ⟨D, h⟩ | ⟨N, sb, lb, q, lv, ps, s, L, h⟩
  · exact h.bel
  · exact h.base.bel
theorem Par.tab {w0 w : World} {p d Ld r B m slots room : Nat} (h : Par w0 w p d Ld r B m slots room) : Tab w := by
  rcases h with ⟨D, h⟩ | ⟨N, sb, lb, q, lv, ps, s, L, h⟩
  · exact h.tab
  · exact h.base.tab
end Go.Proofs.YtehgnkdfnnebcaaDoor
end
section
namespace Go.Proofs.YtehgnkdfnnebcaaDoor
open Go Go.RowKit Go.Mem Gf
set_option linter.unusedVariables false
set_option linter.unusedSimpArgs false
attribute [local go_sem ↓] Go.wp_at_zero Go.wp_at_succ
def Op1 (p d Ld r B : Nat) (D : DiskS) (slots room : Nat) (w : World) (x y : Value) (w' : World) : Prop :=
  y = .int .i64 (openR D slots room).1 ∧ Chg (fun b => b = d ∨ b = Ld) w w' ∧ IsDisk w' d Ld (openR D slots room).2.1 ∧
    (((openR D slots room).2.2 = none ∧ x = .pointer none) ∨ ∃ s lb, (openR D slots room).2.2 = some s ∧ x = .pointer (some ⟨w.heap.size, 0, none⟩) ∧ w.heap.size < lb ∧ IsStore w' (fun b => (b = p ∨ b = d ∨ b = Ld ∨ b = r ∨ b = B) ∨ b = w.heap.size ∨ b = lb) w.heap.size lb d Ld s)
theorem open_two (w0 w : World) (dn p d Ld r B m slots room : Nat) (D : DiskS) (v1 v3 : Value) (h : PairB w0 w p d Ld r B m slots room D v1 v3) (hm : m ≤ 5000000000) :
    Calls Tryd.prog 16 #[.pointer (some ⟨d, 0, none⟩), .int .i64 slots, .int .i64 room] (w.drewN dn) fun e w' => ∃ x y, e = .returned (.tuple #[x, y]) ∧ Op1 p d Ld r B D slots room w x y w' := by
  have hb := below_drewN (Below.refl w.heap.size w) dn
  have h1 := h.step hb
  refine (open_calls (fun b => b = p ∨ b = d ∨ b = Ld ∨ b = r ∨ b = B) d Ld D slots room _ h1.tab ⟨?_, .inr (.inl rfl), .inr (.inr (.inl rfl)), ?_⟩ h1.disk (by have := h.s1; simp; omega) (by have := h.r1; simp; omega) h.n (by have := h.few; omega)).mono ?_
  · intro hk
    have h1 := h.tab0.lt
    have h2 := h.far
    omega
  · intro b hb
    have := h.lt
    show b < w.heap.size
    omega
  rintro e w1 ⟨pv, rfl, hc1, hD1, hp1⟩
  exact ⟨pv, _, rfl, rfl, (Chg.of_below hb).trans hc1, hD1, hp1⟩
def Op2 (D : DiskS) (slots room : Nat) (N : Nat → Prop) (r B : Nat) (w : World) (x y : Value) (w' : World) : Prop :=
  ((ropenR D slots room).1 = 0 ∧ ∃ q lv ps, x = .pointer (some ⟨q, 0, none⟩) ∧ y = .int .i64 0 ∧ w.heap.size ≤ q ∧ RStore w' (fun b => N b ∨ b = q) q r B lv ps (ropenR D slots room).2.1 slots room (ropenR D slots room).2.2 false ∧ Chg (fun b => b = r ∨ b = B) w w') ∨
  ((ropenR D slots room).1 = 8 ∧ x = .pointer none ∧ y = .int .i64 8 ∧ RDisk w' r B (ropenR D slots room).2.1 ∧ Chg (fun b => b = r ∨ b = B) w w')
theorem ropen_two (w : World) (dn r B : Nat) (D : DiskS) (slots room : Nat) (h : RDisk w r B D) (hn : D.n = slots * (room + 1)) (h1 : 1 ≤ slots ∧ slots ≤ 10) (h2 : 1 ≤ room ∧ room ≤ 10) (N : Nat → Prop) (hN : (∀ b, N b → b < w.heap.size) ∧ N r ∧ N B) (hfew : D.writes < 4611686018427000000) :
    Calls Tryd.prog 17 #[.pointer (some ⟨r, 0, none⟩), .int .i64 slots, .int .i64 room] (w.drewN dn) fun e w' => ∃ x y, e = .returned (.tuple #[x, y]) ∧ Op2 D slots room N r B w x y w' := by
  have hb := below_drewN (Below.refl w.heap.size w) dn
  refine (ropen_calls r B D slots room _ (h.below hb) hn (by omega) (by omega) N hN.1 hN.2.1 hN.2.2 hfew).mono ?_
  rintro e w1 hp
  rcases hp with ⟨h0, q, lv, ps, rfl, hq, hs, hc⟩ | ⟨h0, rfl, hd, hc⟩
  · exact ⟨_, _, rfl, .inl ⟨h0, q, lv, ps, rfl, rfl, hq, hs, (Chg.of_below hb).trans hc⟩⟩
  · exact ⟨_, _, rfl, .inr ⟨h0, rfl, rfl, hd, (Chg.of_below hb).trans hc⟩⟩
set_option maxRecDepth 20000 in
set_option maxHeartbeats 4000000 in
theorem popen_calls (w0 w : World) (p d Ld r B m slots room : Nat) (Ds : DiskS) (v1 v3 : Value) (h : PairB w0 w p d Ld r B m slots room Ds v1 v3) (hm : m ≤ 5000000000) :
    Calls Tryd.prog 11 #[.pointer (some ⟨p, 0, none⟩)] w fun e w' => e = .returned (.bool true) ∧ Par w0 w' p d Ld r B (m + 1) slots room := by
  have HC0 := Lib.hid (show ∀ w', Below w.heap.size w w' → w'.cell? ⟨p, 0, none⟩ = some (.pointer (some ⟨d, 0, none⟩)) from fun w' hb => (h.step hb).blk.cell 0)
  have HC4 := Lib.hid (show ∀ w', Below w.heap.size w w' → w'.cell? ⟨p, 4, none⟩ = some (.int .i64 slots) from fun w' hb => (h.step hb).blk.cell 4)
  have HC5 := Lib.hid (show ∀ w', Below w.heap.size w w' → w'.cell? ⟨p, 5, none⟩ = some (.int .i64 room) from fun w' hb => (h.step hb).blk.cell 5)
  have H := Lib.hid h
  have HD := Lib.hid (open_dup Ds slots room h.n h.s1.1 (by have := h.s1.2; omega) h.m1 h.few)
  have HM := Lib.hid hm
  clear h hm
  go_enter Tryd.func11, Tryd.ntmps11
  go_upto_region 1 with fail
  refine Tail.wp_region_J 17 (fun k => k == 12) (fun k => none)
    (fun D z w' => (D 12 = false → ∃ n, w' = World.drewN w n) ∧ (D 12 = true → ∃ x y, z 12 = .tuple #[x, y] ∧ Op1 p d Ld r B Ds slots room w x y w'))
    (by kernel_rfl) (by kernel_rfl) (fun k hk => by simp at hk; omega) (fun D z z' w' hz h => ⟨h.1, fun d => by rw [← hz 12 d]; exact h.2 d⟩)
    (⟨fun _ => ⟨1, rfl⟩, (fun h => by cases h)⟩) (fun z => ?_)
  simp only [List.take_succ_cons, List.take_zero, List.drop_succ_cons, List.drop_zero]
  refine Tail.J_ex (by rfl) (by rfl) ?_
  apply Exists.intro
  refine ⟨fun w => ?_, ?_⟩
  · go_simp <;> with_reducible rfl
  simp only [Act.put, List.setIfInBounds_toArray, List.set_cons_zero, List.set_cons_succ, Nat.reduceAdd, Nat.reduceEqDiff, reduceIte, Option.getD_some, Option.getD_none]
  refine Tail.J_ex (by rfl) (by rfl) ?_
  apply Exists.intro
  refine ⟨fun w => ?_, ?_⟩
  · go_simp <;> with_reducible rfl
  simp only [Act.put, List.setIfInBounds_toArray, List.set_cons_zero, List.set_cons_succ, Nat.reduceAdd, Nat.reduceEqDiff, reduceIte, Option.getD_some, Option.getD_none]
  refine Tail.J_ex (by rfl) (by rfl) ?_
  apply Exists.intro
  refine ⟨fun w => ?_, ?_⟩
  · go_simp <;> with_reducible rfl
  simp only [Act.put, List.setIfInBounds_toArray, List.set_cons_zero, List.set_cons_succ, Nat.reduceAdd, Nat.reduceEqDiff, reduceIte, Option.getD_some, Option.getD_none]
  refine Tail.J_at (by rfl) (by rfl) ?_
  apply Exists.intro
  refine ⟨fun D w' hd hp hJ => ?_, ?_⟩
  · obtain ⟨dn, hdn⟩ := hJ.1 (hp 12 (by kernel_rfl))
    have cc := HC0.out w' (by rw [hdn]; exact below_drewN (Below.refl _ _) dn)
    clear hdn dn
    go_simp <;> with_reducible rfl
  simp only [Act.put, List.setIfInBounds_toArray, List.set_cons_zero, List.set_cons_succ, Nat.reduceAdd, Nat.reduceEqDiff, reduceIte, Option.getD_some, Option.getD_none]
  refine Tail.J_ex (by rfl) (by rfl) ?_
  apply Exists.intro
  refine ⟨fun w => ?_, ?_⟩
  · go_simp <;> with_reducible rfl
  simp only [Act.put, List.setIfInBounds_toArray, List.set_cons_zero, List.set_cons_succ, Nat.reduceAdd, Nat.reduceEqDiff, reduceIte, Option.getD_some, Option.getD_none]
  refine Tail.J_ex (by rfl) (by rfl) ?_
  apply Exists.intro
  refine ⟨fun w => ?_, ?_⟩
  · go_simp <;> with_reducible rfl
  simp only [Act.put, List.setIfInBounds_toArray, List.set_cons_zero, List.set_cons_succ, Nat.reduceAdd, Nat.reduceEqDiff, reduceIte, Option.getD_some, Option.getD_none]
  refine Tail.J_ex (by rfl) (by rfl) ?_
  apply Exists.intro
  refine ⟨fun w => ?_, ?_⟩
  · go_simp <;> with_reducible rfl
  simp only [Act.put, List.setIfInBounds_toArray, List.set_cons_zero, List.set_cons_succ, Nat.reduceAdd, Nat.reduceEqDiff, reduceIte, Option.getD_some, Option.getD_none]
  refine Tail.J_at (by rfl) (by rfl) ?_
  apply Exists.intro
  refine ⟨fun D w' hd hp hJ => ?_, ?_⟩
  · obtain ⟨dn, hdn⟩ := hJ.1 (hp 12 (by kernel_rfl))
    have cc := HC4.out w' (by rw [hdn]; exact below_drewN (Below.refl _ _) dn)
    clear hdn dn
    go_simp <;> with_reducible rfl
  simp only [Act.put, List.setIfInBounds_toArray, List.set_cons_zero, List.set_cons_succ, Nat.reduceAdd, Nat.reduceEqDiff, reduceIte, Option.getD_some, Option.getD_none]
  refine Tail.J_ex (by rfl) (by rfl) ?_
  apply Exists.intro
  refine ⟨fun w => ?_, ?_⟩
  · go_simp <;> with_reducible rfl
  simp only [Act.put, List.setIfInBounds_toArray, List.set_cons_zero, List.set_cons_succ, Nat.reduceAdd, Nat.reduceEqDiff, reduceIte, Option.getD_some, Option.getD_none]
  refine Tail.J_ex (by rfl) (by rfl) ?_
  apply Exists.intro
  refine ⟨fun w => ?_, ?_⟩
  · go_simp <;> with_reducible rfl
  simp only [Act.put, List.setIfInBounds_toArray, List.set_cons_zero, List.set_cons_succ, Nat.reduceAdd, Nat.reduceEqDiff, reduceIte, Option.getD_some, Option.getD_none]
  refine Tail.J_ex (by rfl) (by rfl) ?_
  apply Exists.intro
  refine ⟨fun w => ?_, ?_⟩
  · go_simp <;> with_reducible rfl
  simp only [Act.put, List.setIfInBounds_toArray, List.set_cons_zero, List.set_cons_succ, Nat.reduceAdd, Nat.reduceEqDiff, reduceIte, Option.getD_some, Option.getD_none]
  refine Tail.J_at (by rfl) (by rfl) ?_
  apply Exists.intro
  refine ⟨fun D w' hd hp hJ => ?_, ?_⟩
  · obtain ⟨dn, hdn⟩ := hJ.1 (hp 12 (by kernel_rfl))
    have cc := HC5.out w' (by rw [hdn]; exact below_drewN (Below.refl _ _) dn)
    clear hdn dn
    go_simp <;> with_reducible rfl
  simp only [Act.put, List.setIfInBounds_toArray, List.set_cons_zero, List.set_cons_succ, Nat.reduceAdd, Nat.reduceEqDiff, reduceIte, Option.getD_some, Option.getD_none]
  refine Tail.J_call (by rfl) (by rfl) ?_ ?_
  · apply Exists.intro
    apply Exists.intro
    refine ⟨fun w' => ?_, ?_⟩
    · go_simp <;> exact ⟨rfl, rfl⟩
    intro D z' w' hD hz hd hp hJ
    obtain ⟨dn, hdn⟩ := hJ.1 hD
    subst hdn
    refine (open_two w0 w dn p d Ld r B m slots room Ds v1 v3 H.out HM.out).mono ?_
    rintro e w'' ⟨x, y, rfl, hxy⟩
    refine ⟨_, rfl, fun c hc => by simp at hc, fun h => ?_, fun _ => ?_⟩
    · simp [Tail.updB] at h
    · exact ⟨x, y, by simp [Tail.updV], hxy⟩
  simp only [Act.put, List.setIfInBounds_toArray, List.set_cons_zero, List.set_cons_succ, Nat.reduceAdd, Nat.reduceEqDiff, reduceIte, Option.getD_some, Option.getD_none]
  refine Tail.J_ex (by rfl) (by rfl) ?_
  apply Exists.intro
  refine ⟨fun w => ?_, ?_⟩
  · go_simp <;> with_reducible rfl
  simp only [Act.put, List.setIfInBounds_toArray, List.set_cons_zero, List.set_cons_succ, Nat.reduceAdd, Nat.reduceEqDiff, reduceIte, Option.getD_some, Option.getD_none]
  refine Tail.J_at (by rfl) (by rfl) ?_
  refine ⟨tupAt (z 12) 0, fun D w' hd hp hJ => ?_, ?_⟩
  · obtain ⟨x, y, e, _⟩ := hJ.2 (hd 12 (by kernel_rfl))
    rw [show tupAt (z 12) 0 = x from by rw [e]; rfl]
    simp only [e]
    go_simp <;> with_reducible rfl
  simp only [Act.put, List.setIfInBounds_toArray, List.set_cons_zero, List.set_cons_succ, Nat.reduceAdd, Nat.reduceEqDiff, reduceIte, Option.getD_some, Option.getD_none]
  refine Tail.J_at (by rfl) (by rfl) ?_
  refine ⟨tupAt (z 12) 1, fun D w' hd hp hJ => ?_, ?_⟩
  · obtain ⟨x, y, e, _⟩ := hJ.2 (hd 12 (by kernel_rfl))
    rw [show tupAt (z 12) 1 = y from by rw [e]; rfl]
    simp only [e]
    go_simp <;> with_reducible rfl
  simp only [Act.put, List.setIfInBounds_toArray, List.set_cons_zero, List.set_cons_succ, Nat.reduceAdd, Nat.reduceEqDiff, reduceIte, Option.getD_some, Option.getD_none]
  refine Tail.J_ex (by rfl) (by rfl) ?_
  apply Exists.intro
  refine ⟨fun w => ?_, ?_⟩
  · go_simp <;> with_reducible rfl
  simp only [Act.put, List.setIfInBounds_toArray, List.set_cons_zero, List.set_cons_succ, Nat.reduceAdd, Nat.reduceEqDiff, reduceIte, Option.getD_some, Option.getD_none]
  intro w1 hJ
  obtain ⟨pv, ev, hz, hxy⟩ := hJ.2 rfl
  rw [show tupAt (z 12) 0 = pv from by rw [hz]; rfl, show tupAt (z 12) 1 = ev from by rw [hz]; rfl, hz]
  clear hJ hz z
  obtain ⟨rfl, hc1, hD1, hp1⟩ := hxy
  have hb1 : Below w0.heap.size w0 w1 := Chg.far H.out.bel hc1 H.out.bel.size (fun b hb => by have := H.out.far; omega)
  have hblk1 := hc1.blk H.out.blk (by have := H.out.ne; omega)
  have hrd1 := H.out.rd.chg hc1 (by have := H.out.ne; omega) (by have := H.out.ne; omega)
  have htab1 : Tab w1 := H.out.tab.chg hc1 (by have := H.out.far; have := H.out.tab0.lt; omega)
  have HB1 := Lib.hid (And.intro hb1 (And.intro hblk1 (And.intro hrd1 (And.intro htab1 (And.intro hD1 hc1.size)))))
  have HB2 := Lib.hid (show ∀ w', Below w1.heap.size w1 w' → w'.cell? ⟨p, 2, none⟩ = some (.pointer (some ⟨r, 0, none⟩)) from fun w' hb => (hblk1.kept hb).cell 2)
  have HB4 := Lib.hid (show ∀ w', Below w1.heap.size w1 w' → w'.cell? ⟨p, 4, none⟩ = some (.int .i64 slots) from fun w' hb => (hblk1.kept hb).cell 4)
  have HB5 := Lib.hid (show ∀ w', Below w1.heap.size w1 w' → w'.cell? ⟨p, 5, none⟩ = some (.int .i64 room) from fun w' hb => (hblk1.kept hb).cell 5)
  obtain ⟨sb, lb, hsl, hp1⟩ : ∃ sb lb, (sb < w1.heap.size ∧ lb < w1.heap.size) ∧ (((openR Ds slots room).2.2 = none ∧ pv = .pointer none) ∨ ∃ s, (openR Ds slots room).2.2 = some s ∧ pv = .pointer (some ⟨sb, 0, none⟩) ∧ w.heap.size ≤ sb ∧ w.heap.size < lb ∧ IsStore w1 (fun b => (b = p ∨ b = d ∨ b = Ld ∨ b = r ∨ b = B) ∨ b = sb ∨ b = lb) sb lb d Ld s) := by
    rcases hp1 with h | ⟨s, lb, e1, e2, e3, e4⟩
    · exact ⟨p, p, ⟨hblk1.lt, hblk1.lt⟩, .inl h⟩
    · exact ⟨_, lb, ⟨e4.old _ (.inr (.inl rfl)), e4.old _ (.inr (.inr rfl))⟩, .inr ⟨s, e1, e2, Nat.le_refl _, e3, e4⟩⟩
  have HNN := Lib.hid (show (∀ b, (b = p ∨ b = d ∨ b = Ld ∨ b = r ∨ b = B) ∨ b = sb ∨ b = lb → b < w1.heap.size) ∧ ((r = p ∨ r = d ∨ r = Ld ∨ r = r ∨ r = B) ∨ r = sb ∨ r = lb) ∧ ((B = p ∨ B = d ∨ B = Ld ∨ B = r ∨ B = B) ∨ B = sb ∨ B = lb) from
    ⟨fun b hb => by have := H.out.lt; have := hc1.size; omega, .inl (.inr (.inr (.inr (.inl rfl)))), .inl (.inr (.inr (.inr (.inr rfl))))⟩)
  have HP1 := Lib.hid hp1
  clear hb1 hblk1 hrd1 htab1 hp1 hD1 hc1 HC0 HC4 HC5 hsl
  obtain ⟨er, her⟩ : ∃ z, z = (openR Ds slots room).1 := ⟨_, rfl⟩
  rw [← her]
  have HE := Lib.hid her
  clear her
  go_upto_region 2 with fail
  refine Tail.wp_region_J 17 (fun k => k == 12) (fun k => none)
    (fun D z w' => (D 12 = false → ∃ n, w' = World.drewN w1 n) ∧ (D 12 = true → ∃ x y, z 12 = .tuple #[x, y] ∧ Op2 Ds slots room (fun b => (b = p ∨ b = d ∨ b = Ld ∨ b = r ∨ b = B) ∨ b = sb ∨ b = lb) r B w1 x y w'))
    (by kernel_rfl) (by kernel_rfl) (fun k hk => by simp at hk; omega) (fun D z z' w' hz h => ⟨h.1, fun d => by rw [← hz 12 d]; exact h.2 d⟩)
    (⟨fun _ => ⟨1, rfl⟩, (fun h => by cases h)⟩) (fun z => ?_)
  simp only [List.take_succ_cons, List.take_zero, List.drop_succ_cons, List.drop_zero]
  refine Tail.J_ex (by rfl) (by rfl) ?_
  apply Exists.intro
  refine ⟨fun w => ?_, ?_⟩
  · go_simp <;> with_reducible rfl
  simp only [Act.put, List.setIfInBounds_toArray, List.set_cons_zero, List.set_cons_succ, Nat.reduceAdd, Nat.reduceEqDiff, reduceIte, Option.getD_some, Option.getD_none]
  refine Tail.J_ex (by rfl) (by rfl) ?_
  apply Exists.intro
  refine ⟨fun w => ?_, ?_⟩
  · go_simp <;> with_reducible rfl
  simp only [Act.put, List.setIfInBounds_toArray, List.set_cons_zero, List.set_cons_succ, Nat.reduceAdd, Nat.reduceEqDiff, reduceIte, Option.getD_some, Option.getD_none]
  refine Tail.J_ex (by rfl) (by rfl) ?_
  apply Exists.intro
  refine ⟨fun w => ?_, ?_⟩
  · go_simp <;> with_reducible rfl
  simp only [Act.put, List.setIfInBounds_toArray, List.set_cons_zero, List.set_cons_succ, Nat.reduceAdd, Nat.reduceEqDiff, reduceIte, Option.getD_some, Option.getD_none]
  refine Tail.J_at (by rfl) (by rfl) ?_
  apply Exists.intro
  refine ⟨fun D w' hd hp hJ => ?_, ?_⟩
  · obtain ⟨dn, hdn⟩ := hJ.1 (hp 12 (by kernel_rfl))
    have cc := HB2.out w' (by rw [hdn]; exact below_drewN (Below.refl _ _) dn)
    clear hdn dn
    go_simp <;> with_reducible rfl
  simp only [Act.put, List.setIfInBounds_toArray, List.set_cons_zero, List.set_cons_succ, Nat.reduceAdd, Nat.reduceEqDiff, reduceIte, Option.getD_some, Option.getD_none]
  refine Tail.J_ex (by rfl) (by rfl) ?_
  apply Exists.intro
  refine ⟨fun w => ?_, ?_⟩
  · go_simp <;> with_reducible rfl
  simp only [Act.put, List.setIfInBounds_toArray, List.set_cons_zero, List.set_cons_succ, Nat.reduceAdd, Nat.reduceEqDiff, reduceIte, Option.getD_some, Option.getD_none]
  refine Tail.J_ex (by rfl) (by rfl) ?_
  apply Exists.intro
  refine ⟨fun w => ?_, ?_⟩
  · go_simp <;> with_reducible rfl
  simp only [Act.put, List.setIfInBounds_toArray, List.set_cons_zero, List.set_cons_succ, Nat.reduceAdd, Nat.reduceEqDiff, reduceIte, Option.getD_some, Option.getD_none]
  refine Tail.J_ex (by rfl) (by rfl) ?_
  apply Exists.intro
  refine ⟨fun w => ?_, ?_⟩
  · go_simp <;> with_reducible rfl
  simp only [Act.put, List.setIfInBounds_toArray, List.set_cons_zero, List.set_cons_succ, Nat.reduceAdd, Nat.reduceEqDiff, reduceIte, Option.getD_some, Option.getD_none]
  refine Tail.J_at (by rfl) (by rfl) ?_
  apply Exists.intro
  refine ⟨fun D w' hd hp hJ => ?_, ?_⟩
  · obtain ⟨dn, hdn⟩ := hJ.1 (hp 12 (by kernel_rfl))
    have cc := HB4.out w' (by rw [hdn]; exact below_drewN (Below.refl _ _) dn)
    clear hdn dn
    go_simp <;> with_reducible rfl
  simp only [Act.put, List.setIfInBounds_toArray, List.set_cons_zero, List.set_cons_succ, Nat.reduceAdd, Nat.reduceEqDiff, reduceIte, Option.getD_some, Option.getD_none]
  refine Tail.J_ex (by rfl) (by rfl) ?_
  apply Exists.intro
  refine ⟨fun w => ?_, ?_⟩
  · go_simp <;> with_reducible rfl
  simp only [Act.put, List.setIfInBounds_toArray, List.set_cons_zero, List.set_cons_succ, Nat.reduceAdd, Nat.reduceEqDiff, reduceIte, Option.getD_some, Option.getD_none]
  refine Tail.J_ex (by rfl) (by rfl) ?_
  apply Exists.intro
  refine ⟨fun w => ?_, ?_⟩
  · go_simp <;> with_reducible rfl
  simp only [Act.put, List.setIfInBounds_toArray, List.set_cons_zero, List.set_cons_succ, Nat.reduceAdd, Nat.reduceEqDiff, reduceIte, Option.getD_some, Option.getD_none]
  refine Tail.J_ex (by rfl) (by rfl) ?_
  apply Exists.intro
  refine ⟨fun w => ?_, ?_⟩
  · go_simp <;> with_reducible rfl
  simp only [Act.put, List.setIfInBounds_toArray, List.set_cons_zero, List.set_cons_succ, Nat.reduceAdd, Nat.reduceEqDiff, reduceIte, Option.getD_some, Option.getD_none]
  refine Tail.J_at (by rfl) (by rfl) ?_
  apply Exists.intro
  refine ⟨fun D w' hd hp hJ => ?_, ?_⟩
  · obtain ⟨dn, hdn⟩ := hJ.1 (hp 12 (by kernel_rfl))
    have cc := HB5.out w' (by rw [hdn]; exact below_drewN (Below.refl _ _) dn)
    clear hdn dn
    go_simp <;> with_reducible rfl
  simp only [Act.put, List.setIfInBounds_toArray, List.set_cons_zero, List.set_cons_succ, Nat.reduceAdd, Nat.reduceEqDiff, reduceIte, Option.getD_some, Option.getD_none]
  refine Tail.J_call (by rfl) (by rfl) ?_ ?_
  · apply Exists.intro
    apply Exists.intro
    refine ⟨fun w' => ?_, ?_⟩
    · go_simp <;> exact ⟨rfl, rfl⟩
    intro D z' w' hD hz hd hp hJ
    obtain ⟨dn, hdn⟩ := hJ.1 hD
    subst hdn
    refine (ropen_two w1 dn r B Ds slots room HB1.out.2.2.1 H.out.n H.out.s1 H.out.r1 (fun b => (b = p ∨ b = d ∨ b = Ld ∨ b = r ∨ b = B) ∨ b = sb ∨ b = lb) HNN.out (by have := H.out.few; have := HM.out; omega)).mono ?_
    rintro e w'' ⟨x, y, rfl, hxy⟩
    refine ⟨_, rfl, fun c hc => by simp at hc, fun h => ?_, fun _ => ?_⟩
    · simp [Tail.updB] at h
    · exact ⟨x, y, by simp [Tail.updV], hxy⟩
  simp only [Act.put, List.setIfInBounds_toArray, List.set_cons_zero, List.set_cons_succ, Nat.reduceAdd, Nat.reduceEqDiff, reduceIte, Option.getD_some, Option.getD_none]
  refine Tail.J_ex (by rfl) (by rfl) ?_
  apply Exists.intro
  refine ⟨fun w => ?_, ?_⟩
  · go_simp <;> with_reducible rfl
  simp only [Act.put, List.setIfInBounds_toArray, List.set_cons_zero, List.set_cons_succ, Nat.reduceAdd, Nat.reduceEqDiff, reduceIte, Option.getD_some, Option.getD_none]
  refine Tail.J_at (by rfl) (by rfl) ?_
  refine ⟨tupAt (z 12) 0, fun D w' hd hp hJ => ?_, ?_⟩
  · obtain ⟨x, y, e, _⟩ := hJ.2 (hd 12 (by kernel_rfl))
    rw [show tupAt (z 12) 0 = x from by rw [e]; rfl]
    simp only [e]
    go_simp <;> with_reducible rfl
  simp only [Act.put, List.setIfInBounds_toArray, List.set_cons_zero, List.set_cons_succ, Nat.reduceAdd, Nat.reduceEqDiff, reduceIte, Option.getD_some, Option.getD_none]
  refine Tail.J_at (by rfl) (by rfl) ?_
  refine ⟨tupAt (z 12) 1, fun D w' hd hp hJ => ?_, ?_⟩
  · obtain ⟨x, y, e, _⟩ := hJ.2 (hd 12 (by kernel_rfl))
    rw [show tupAt (z 12) 1 = y from by rw [e]; rfl]
    simp only [e]
    go_simp <;> with_reducible rfl
  simp only [Act.put, List.setIfInBounds_toArray, List.set_cons_zero, List.set_cons_succ, Nat.reduceAdd, Nat.reduceEqDiff, reduceIte, Option.getD_some, Option.getD_none]
  refine Tail.J_ex (by rfl) (by rfl) ?_
  apply Exists.intro
  refine ⟨fun w => ?_, ?_⟩
  · go_simp <;> with_reducible rfl
  simp only [Act.put, List.setIfInBounds_toArray, List.set_cons_zero, List.set_cons_succ, Nat.reduceAdd, Nat.reduceEqDiff, reduceIte, Option.getD_some, Option.getD_none]
  intro w2 hJ
  obtain ⟨xv, yv, hz, hxy⟩ := hJ.2 rfl
  rw [show tupAt (z 12) 0 = xv from by rw [hz]; rfl, show tupAt (z 12) 1 = yv from by rw [hz]; rfl, hz]
  clear hJ hz z
  have HXY := Lib.hid hxy
  clear hxy HB2 HB4 HB5
  rcases HD.out.2.2.2.2 with ⟨h0, s, hs, hdup, hdead, hroom, hdisk⟩ | ⟨h8, hs⟩
  · rcases HXY.out with ⟨_, q, lv, ps, rfl, rfl, hq, hrs, hc2⟩ | ⟨h8', _⟩
    rotate_left
    · exact absurd (h8'.symm.trans (HD.out.1.trans h0)) (by decide)
    rcases HP1.out with ⟨hn, _⟩ | ⟨s', hs', rfl, hlb0, hlb, hst⟩
    · rw [hs] at hn; cases hn
    rw [hs] at hs'
    obtain rfl : s' = s := by cases hs'; rfl
    clear hs'
    obtain rfl : er = 0 := HE.out.trans h0
    have hlt := H.out.lt
    have hne := H.out.ne
    have hfar := H.out.far
    have hsz := H.out.bel.size
    have hsz1 := HB1.out.2.2.2.2.2
    have hblk2 := hc2.blk HB1.out.2.1 (by omega)
    have hst2 := hst.grow (M := fun b => ((b = p ∨ b = d ∨ b = Ld ∨ b = r ∨ b = B) ∨ b = sb ∨ b = lb) ∨ b = q) hc2 (fun b hb => by rcases hb with rfl | rfl | rfl | rfl <;> omega) (fun b hb _ => by omega) (fun b hb => by omega) (fun b hb => .inl hb) (fun b hb => by
      rcases hb with hb | rfl
      · have := HNN.out.1 b hb
        have := hc2.size
        omega
      · exact hrs.blk.lt)
    have hc3 : Chg (fun b => b = p) w2 ((w2.setCell ⟨p, 1, none⟩ (.pointer (some ⟨sb, 0, none⟩))).setCell ⟨p, 3, none⟩ (.pointer (some ⟨q, 0, none⟩))) := Chg.set (S := fun b => b = p) (a := ⟨p, 3, none⟩) (Chg.set (S := fun b => b = p) (a := ⟨p, 1, none⟩) (Chg.refl _ _) rfl _) rfl _
    have hst3 := hst2.chg hc3 (fun b hb => by rcases hb with rfl | rfl | rfl | rfl <;> omega) (fun b hb _ => by subst hb; exact .inl (.inl (.inl rfl)))
    have hrs3 := hrs.chg hc3 (fun b hb _ => by subst hb; exact .inl (.inl (.inl rfl))) (fun b hb => by rcases hb with rfl | rfl | rfl <;> omega)
    have hblk3 : Blk ((w2.setCell ⟨p, 1, none⟩ (.pointer (some ⟨sb, 0, none⟩))).setCell ⟨p, 3, none⟩ (.pointer (some ⟨q, 0, none⟩))) p (pairC d r (.pointer (some ⟨sb, 0, none⟩)) (.pointer (some ⟨q, 0, none⟩)) slots room) 39 := (hblk2.set 1 _).set 3 _
    have hrd3 : RDisk ((w2.setCell ⟨p, 1, none⟩ (.pointer (some ⟨sb, 0, none⟩))).setCell ⟨p, 3, none⟩ (.pointer (some ⟨q, 0, none⟩))) r B s'.disk := by
      have := hrs3.disk
      rw [HD.out.2.1, ← hdisk] at this
      exact this
    rw [HD.out.2.1, ← hdisk, ← hdead] at hrs3
    have hbel3 := Chg.far (Chg.far HB1.out.1 hc2 (by have := HB1.out.1.size; omega) (fun b hb => by have hb : b = r ∨ b = B := hb; omega)) hc3 (by have := HB1.out.1.size; have := hc2.size; omega) (fun b hb => by have hb : b = p := hb; omega)
    have htab3 := (HB1.out.2.2.2.1.chg hc2 (by have := H.out.tab0.lt; omega)).chg hc3 (by have := H.out.tab0.lt; omega)
    have hsblt := HNN.out.1 sb (.inr (.inl rfl))
    have hlblt := HNN.out.1 lb (.inr (.inr rfl))
    have HF := Lib.hid (show PairS w0 _ _ p d Ld sb lb r B q lv ps (m + 1) slots room s' (ropenR Ds slots room).2.2 from
      ⟨⟨hblk3, hst3.disk, hrd3, hbel3, hfar, hne, htab3, H.out.tab0, by rw [hdisk, HD.out.2.2.1]; exact H.out.n, by rw [hdisk]; exact HD.out.2.2.2.1, H.out.s1, H.out.r1, by have := H.out.m1; omega⟩, hst3, hrs3, hdup, hroom, .inl (.inl (.inl rfl)), (fun b hb => by have hb : ((b = p ∨ b = d ∨ b = Ld ∨ b = r ∨ b = B) ∨ b = sb ∨ b = lb) ∨ b = q := hb; have := HB1.out.1.size; omega), by omega⟩)
    have b1 : w2.cell? ⟨p, 1, none⟩ = some v1 := hblk2.cell 1
    have b3 : w2.cell? ⟨p, 3, none⟩ = some v3 := hblk2.cell 3
    have f1 := hblk2.free 1
    have f3 := (hblk2.set 1 (.pointer (some ⟨sb, 0, none⟩))).free 3
    clear hsz1 hst hrs hc2 hblk2 hst2 hc3 hst3 hrs3 hblk3 hrd3 hbel3 htab3 hdup hroom hdisk hdead hs h0 HE HXY HP1 hlt hne hfar hsz hq hlb hlb0 hsblt hlblt
    go_wp2_with fail
    go_ret
    exact ⟨rfl, .inr ⟨_, sb, lb, q, lv, ps, s', _, HF.out⟩⟩
  · rcases HXY.out with ⟨h0', _⟩ | ⟨_, rfl, rfl, hrd, hc2⟩
    · exact absurd (h0'.symm.trans (HD.out.1.trans h8)) (by decide)
    rcases HP1.out with ⟨_, rfl⟩ | ⟨s', hs', _⟩
    rotate_left
    · rw [hs] at hs'; cases hs'
    obtain rfl : er = 8 := HE.out.trans h8
    have hlt := H.out.lt
    have hne := H.out.ne
    have hfar := H.out.far
    have hsz := H.out.bel.size
    have hblk2 := hc2.blk HB1.out.2.1 (by omega)
    have hc3 : Chg (fun b => b = p) w2 ((w2.setCell ⟨p, 1, none⟩ (.pointer none)).setCell ⟨p, 3, none⟩ (.pointer none)) := Chg.set (S := fun b => b = p) (a := ⟨p, 3, none⟩) (Chg.set (S := fun b => b = p) (a := ⟨p, 1, none⟩) (Chg.refl _ _) rfl _) rfl _
    have hblk3 : Blk ((w2.setCell ⟨p, 1, none⟩ (.pointer none)).setCell ⟨p, 3, none⟩ (.pointer none)) p (pairC d r (.pointer none) (.pointer none) slots room) 39 := (hblk2.set 1 _).set 3 _
    have hd3 := (HB1.out.2.2.2.2.1.chg hc2 (by omega) (by omega)).chg hc3 (by omega) (by omega)
    have hrd3 := hrd.chg hc3 (by omega) (by omega)
    rw [HD.out.2.1] at hrd3
    have hbel3 := Chg.far (Chg.far HB1.out.1 hc2 (by have := HB1.out.1.size; omega) (fun b hb => by have hb : b = r ∨ b = B := hb; omega)) hc3 (by have := HB1.out.1.size; have := hc2.size; omega) (fun b hb => by have hb : b = p := hb; omega)
    have htab3 := (HB1.out.2.2.2.1.chg hc2 (by have := H.out.tab0.lt; omega)).chg hc3 (by have := H.out.tab0.lt; omega)
    have HF := Lib.hid (show PairB w0 _ p d Ld r B (m + 1) slots room (openR Ds slots room).2.1 (.pointer none) (.pointer none) from
      ⟨hblk3, hd3, hrd3, hbel3, hfar, hne, htab3, H.out.tab0, HD.out.2.2.1.trans H.out.n, HD.out.2.2.2.1, H.out.s1, H.out.r1, by have := H.out.m1; omega⟩)
    have b1 : w2.cell? ⟨p, 1, none⟩ = some v1 := hblk2.cell 1
    have b3 : w2.cell? ⟨p, 3, none⟩ = some v3 := hblk2.cell 3
    have f1 := hblk2.free 1
    have f3 := (hblk2.set 1 (.pointer none)).free 3
    clear hrd hc2 hblk2 hc3 hblk3 hrd3 hbel3 htab3 hs h8 HE HXY HP1 hd3 hlt hne hfar hsz
    go_wp2_with fail
    go_ret
    exact ⟨rfl, .inl ⟨_, HF.out⟩⟩
end Go.Proofs.YtehgnkdfnnebcaaDoor
end
section
namespace Go.Proofs.YtehgnkdfnnebcaaDoor
open Go Go.RowKit Go.Mem Gf
set_option linter.unusedVariables false
set_option linter.unusedSimpArgs false
attribute [local go_sem ↓] Go.wp_at_zero Go.wp_at_succ
theorem rd_two {r B : Nat} {s : DiskS} {w : World} (hR : RDisk w r B s) :
    w.cell? ⟨r, 1, none⟩ = some (.bool s.dead) ∧ w.cell? ⟨r, 5, none⟩ = some (.int .i64 (s.writes : Int)) := by
  obtain ⟨cap, atv, arr, hd, _⟩ := hR
  exact ⟨by rw [hd.cell]; rfl, by rw [hd.cell]; rfl⟩
theorem neq_self (z : Int) : (z != z) = false := by simp
theorem lab_names_of (N : Nat → Prop) (sb lb d L : Nat) (s : St) (w : World) (h : IsStore w N sb lb d L s) :
    Calls Tryd.prog 20 #[.pointer (some ⟨sb, 0, none⟩)] w fun e w' => ∃ v, e = .returned v ∧ Strs w' v (s.names.mergeSort fun x y => decide (x ≤ y)) ∧ Below w.heap.size w w' := by
  refine (snames_calls N sb lb d L s w h).mono ?_
  rintro e w1 ⟨v, rfl, hv, hb⟩
  exact ⟨v, rfl, strs_of_own hv (by simp), hb⟩
theorem sget_two (w : World) (dn : Nat) (N : Nat → Prop) (sb lb d L : Nat) (s : St) (h : IsStore w N sb lb d L s) (name : ByteArray) :
    Calls Tryd.prog 23 #[.pointer (some ⟨sb, 0, none⟩), .string name] (w.drewN dn) fun e w' => ∃ x y, e = .returned (.tuple #[x, y]) ∧ (y = .bool (s.get name).isSome ∧ Bys w' x ((s.get name).getD []) ∧ Below w.heap.size w w') := by
  have hb := below_drewN (Below.refl w.heap.size w) dn
  refine (sget_calls N sb lb d L s name _ (h.below hb)).mono ?_
  rintro e w1 ⟨hb1, v, rfl, hv⟩
  exact ⟨v, _, rfl, rfl, hv.bys, hb.trans hb1⟩
theorem rget_two (w : World) (dn : Nat) (N : Nat → Prop) (q r B : Nat) (lv : Value) (ps : List RP) (D : DiskS) (slots room : Nat) (L : List RRec) (died : Bool) (h : RStore w N q r B lv ps D slots room L died) (name : ByteArray) :
    Calls Tryd.prog 24 #[.pointer (some ⟨q, 0, none⟩), .string name] (w.drewN dn) fun e w' => ∃ x y, e = .returned (.tuple #[x, y]) ∧ (y = .bool (rgetR L died name).isSome ∧ Bys w' x ((rgetR L died name).getD []) ∧ Below w.heap.size w w') := by
  have hb := below_drewN (Below.refl w.heap.size w) dn
  refine (rget10_calls _ N q r B lv ps D slots room L died (h.below hb) name).mono ?_
  rintro e w1 ⟨hh, hb1⟩
  rcases hh with ⟨h1, rfl⟩ | ⟨v, bs, h1, rfl, h2⟩
  · rw [h1]
    exact ⟨_, _, rfl, rfl, Bys.nil _, hb.trans hb1⟩
  · rw [h1]
    exact ⟨v, _, rfl, rfl, h2.bys, hb.trans hb1⟩
set_option maxRecDepth 20000 in
set_option maxHeartbeats 8000000 in
theorem psame_calls (w0 w : World) (p d Ld r B m slots room : Nat) (h : Par w0 w p d Ld r B m slots room) :
    Calls Tryd.prog 12 #[.pointer (some ⟨p, 0, none⟩)] w fun e w' => e = .returned (.bool true) ∧ Below w.heap.size w w' := by
  rcases h with ⟨D, h⟩ | ⟨N, sb, lb, q, lv, ps, s, L, h⟩
  · have c1 : w.cell? ⟨p, 1, none⟩ = some (.pointer none) := h.blk.cell 1
    have c3 : w.cell? ⟨p, 3, none⟩ = some (.pointer none) := h.blk.cell 3
    clear h
    go_enter Tryd.func12, Tryd.ntmps12
    go_wp2
    go_ret
    exact ⟨rfl, Below.refl _ _⟩
  · have c1 : w.cell? ⟨p, 1, none⟩ = some (.pointer (some ⟨sb, 0, none⟩)) := h.base.blk.cell 1
    have c3 : w.cell? ⟨p, 3, none⟩ = some (.pointer (some ⟨q, 0, none⟩)) := h.base.blk.cell 3
    have H := Lib.hid h
    have HN := Lib.hid h.dup.names
    obtain ⟨nm, hnm⟩ : ∃ z, z = rnamesR L s.dead := ⟨_, rfl⟩
    rw [← hnm] at HN
    have HNM := Lib.hid hnm
    obtain ⟨F, hF⟩ : ∃ z, z = s.freeN := ⟨_, rfl⟩
    have HF := Lib.hid (And.intro hF.symm (show rnumR slots L s.dead = F from by rw [hF, h.dup.freeN]; rfl))
    have hFb : F ≤ 10 := by
      rw [hF, h.dup.freeN]
      have := h.base.s1.2
      split <;> omega
    clear h hnm hF
    go_enter Tryd.func12, Tryd.ntmps12
    go_wp2_with fail
    refine (rnames_calls w N q r B lv ps s.disk slots room L s.dead H.out.rs).mono ?_
    rintro e w2 ⟨v, rfl, hv, _, hb2⟩
    rw [← HNM.out] at hv
    have h2 := H.out.step hb2
    have H2 := Lib.hid h2
    have HV := Lib.hid (show ∀ w', Below w2.heap.size w2 w' → Strs w' v nm from fun w' hb => hv.below hb)
    have HC := Lib.hid (show ∀ w', Below w2.heap.size w2 w' → w'.cell? ⟨p, 1, none⟩ = some (.pointer (some ⟨sb, 0, none⟩)) ∧ w'.cell? ⟨p, 3, none⟩ = some (.pointer (some ⟨q, 0, none⟩)) from fun w' hb => ⟨(h2.step hb).base.blk.cell 1, (h2.step hb).base.blk.cell 3⟩)
    have HB2 := Lib.hid hb2
    obtain ⟨av, cv, rfl⟩ := hv.eq_slice
    obtain ⟨nn, hnn⟩ : ∃ z, z = nm.length := ⟨_, rfl⟩
    rw [← hnn] at HV ⊢
    have HNN := Lib.hid hnn
    have hnnb : nn ≤ 1024 := by
      rw [hnn, HNM.out]
      have := H.out.dup.lenL
      have := H.out.base.s1.2
      unfold rnamesR
      split
      · exact Nat.zero_le _
      · rw [List.length_map]; omega
    clear hv hb2 h2 c1 c3 hnn
    go_upto_region 4 with fail
    refine Tail.wp_region_J 20 (fun k => k == 4 || k == 6 || k == 13 || k == 18) (fun k => if k = 6 then some (.bool true) else if k = 13 then some (.int .i64 (F : Nat)) else if k = 18 then some (.int .i64 (F : Nat)) else none)
      (fun D z w' => Below w2.heap.size w2 w' ∧ (D 4 = true → Strs w' (z 4) nm))
      (by kernel_rfl) (by kernel_rfl) (fun k hk => by simp at hk; omega) (fun D z z' w' hz h => ⟨h.1, fun d => by rw [← hz 4 d]; exact h.2 d⟩)
      (⟨(Below.refl _ _).drew, (fun h => by cases h)⟩) (fun z => ?_)
    simp only [List.take_succ_cons, List.take_zero, List.drop_succ_cons, List.drop_zero]
    refine Tail.J_ex (by rfl) (by rfl) ?_
    apply Exists.intro
    refine ⟨fun w => ?_, ?_⟩
    · go_simp <;> with_reducible rfl
    simp only [Act.put, List.setIfInBounds_toArray, List.set_cons_zero, List.set_cons_succ, Nat.reduceAdd, Nat.reduceEqDiff, reduceIte, Option.getD_some, Option.getD_none]
    refine Tail.J_ex (by rfl) (by rfl) ?_
    apply Exists.intro
    refine ⟨fun w => ?_, ?_⟩
    · go_simp <;> with_reducible rfl
    simp only [Act.put, List.setIfInBounds_toArray, List.set_cons_zero, List.set_cons_succ, Nat.reduceAdd, Nat.reduceEqDiff, reduceIte, Option.getD_some, Option.getD_none]
    refine Tail.J_ex (by rfl) (by rfl) ?_
    apply Exists.intro
    refine ⟨fun w => ?_, ?_⟩
    · go_simp <;> with_reducible rfl
    simp only [Act.put, List.setIfInBounds_toArray, List.set_cons_zero, List.set_cons_succ, Nat.reduceAdd, Nat.reduceEqDiff, reduceIte, Option.getD_some, Option.getD_none]
    refine Tail.J_at (by rfl) (by rfl) ?_
    apply Exists.intro
    refine ⟨fun D w' hd hp hJ => ?_, ?_⟩
    · have cc := (HC.out w' hJ.1).1
      go_simp <;> with_reducible rfl
    simp only [Act.put, List.setIfInBounds_toArray, List.set_cons_zero, List.set_cons_succ, Nat.reduceAdd, Nat.reduceEqDiff, reduceIte, Option.getD_some, Option.getD_none]
    refine Tail.J_call (by rfl) (by rfl) ?_ ?_
    · apply Exists.intro
      apply Exists.intro
      refine ⟨fun w' => ?_, ?_⟩
      · go_simp <;> exact ⟨rfl, rfl⟩
      intro D z' w' hD hz hd hp hJ
      refine (lab_names_of _ _ _ _ _ _ _ (H2.out.step hJ.1).st).mono ?_
      rintro e w'' ⟨u, rfl, hu, hb⟩
      rw [HN.out] at hu
      exact ⟨u, rfl, fun c hc => by simp at hc, hJ.1.trans (hb.mono hJ.1.size), fun _ => by simpa [Tail.updV] using hu⟩
    simp only [Act.put, List.setIfInBounds_toArray, List.set_cons_zero, List.set_cons_succ, Nat.reduceAdd, Nat.reduceEqDiff, reduceIte, Option.getD_some, Option.getD_none]
    refine Tail.J_ex (by rfl) (by rfl) ?_
    apply Exists.intro
    refine ⟨fun w => ?_, ?_⟩
    · go_simp <;> with_reducible rfl
    simp only [Act.put, List.setIfInBounds_toArray, List.set_cons_zero, List.set_cons_succ, Nat.reduceAdd, Nat.reduceEqDiff, reduceIte, Option.getD_some, Option.getD_none]
    refine Tail.J_call (by rfl) (by rfl) ?_ ?_
    · apply Exists.intro
      apply Exists.intro
      refine ⟨fun w' => ?_, ?_⟩
      · go_simp <;> exact ⟨rfl, rfl⟩
      intro D z' w' hD hz hd hp hJ
      have h4 : D 4 = true := hd 4 (by kernel_rfl)
      have hs := hJ.2 h4
      rw [← hz 4 h4] at hs
      refine (sames_calls (z 4) _ nm nm w' hs (HV.out w' hJ.1)).mono ?_
      rintro e w'' ⟨rfl, dn, rfl⟩
      refine ⟨_, rfl, fun c hc => by simp at hc; rw [← hc]; simp, below_drewN hJ.1 dn, fun _ => ?_⟩
      simpa [Tail.updV] using (hJ.2 h4).below (below_drewN (Below.refl _ _) dn)
    simp only [Act.put, List.setIfInBounds_toArray, List.set_cons_zero, List.set_cons_succ, Nat.reduceAdd, Nat.reduceEqDiff, reduceIte, Option.getD_some, Option.getD_none]
    refine Tail.J_ex (by rfl) (by rfl) ?_
    apply Exists.intro
    refine ⟨fun w => ?_, ?_⟩
    · go_simp <;> with_reducible rfl
    simp only [Act.put, List.setIfInBounds_toArray, List.set_cons_zero, List.set_cons_succ, Nat.reduceAdd, Nat.reduceEqDiff, reduceIte, Option.getD_some, Option.getD_none]
    refine Tail.J_ex (by rfl) (by rfl) ?_
    apply Exists.intro
    refine ⟨fun w => ?_, ?_⟩
    · go_simp <;> with_reducible rfl
    simp only [Act.put, List.setIfInBounds_toArray, List.set_cons_zero, List.set_cons_succ, Nat.reduceAdd, Nat.reduceEqDiff, reduceIte, Option.getD_some, Option.getD_none]
    refine Tail.J_ex (by rfl) (by rfl) ?_
    apply Exists.intro
    refine ⟨fun w => ?_, ?_⟩
    · go_simp <;> with_reducible rfl
    simp only [Act.put, List.setIfInBounds_toArray, List.set_cons_zero, List.set_cons_succ, Nat.reduceAdd, Nat.reduceEqDiff, reduceIte, Option.getD_some, Option.getD_none]
    refine Tail.J_ex (by rfl) (by rfl) ?_
    apply Exists.intro
    refine ⟨fun w => ?_, ?_⟩
    · go_simp <;> with_reducible rfl
    simp only [Act.put, List.setIfInBounds_toArray, List.set_cons_zero, List.set_cons_succ, Nat.reduceAdd, Nat.reduceEqDiff, reduceIte, Option.getD_some, Option.getD_none]
    refine Tail.J_ex (by rfl) (by rfl) ?_
    apply Exists.intro
    refine ⟨fun w => ?_, ?_⟩
    · go_simp <;> with_reducible rfl
    simp only [Act.put, List.setIfInBounds_toArray, List.set_cons_zero, List.set_cons_succ, Nat.reduceAdd, Nat.reduceEqDiff, reduceIte, Option.getD_some, Option.getD_none]
    refine Tail.J_at (by rfl) (by rfl) ?_
    apply Exists.intro
    refine ⟨fun D w' hd hp hJ => ?_, ?_⟩
    · have cc := (HC.out w' hJ.1).1
      go_simp <;> with_reducible rfl
    simp only [Act.put, List.setIfInBounds_toArray, List.set_cons_zero, List.set_cons_succ, Nat.reduceAdd, Nat.reduceEqDiff, reduceIte, Option.getD_some, Option.getD_none]
    refine Tail.J_call (by rfl) (by rfl) ?_ ?_
    · apply Exists.intro
      apply Exists.intro
      refine ⟨fun w' => ?_, ?_⟩
      · go_simp <;> exact ⟨rfl, rfl⟩
      intro D z' w' hD hz hd hp hJ
      refine (sfree_calls _ _ _ _ _ _ w' (H2.out.step hJ.1).st).mono ?_
      rintro e w'' ⟨rfl, hb⟩
      refine ⟨_, rfl, fun c hc => by simp at hc; rw [← hc, HF.out.1], hJ.1.trans (hb.mono hJ.1.size), fun h => ?_⟩
      have h4 : D 4 = true := by simpa [Tail.updB] using h
      simpa [Tail.updV] using (hJ.2 h4).below hb
    simp only [Act.put, List.setIfInBounds_toArray, List.set_cons_zero, List.set_cons_succ, Nat.reduceAdd, Nat.reduceEqDiff, reduceIte, Option.getD_some, Option.getD_none]
    refine Tail.J_ex (by rfl) (by rfl) ?_
    apply Exists.intro
    refine ⟨fun w => ?_, ?_⟩
    · go_simp <;> with_reducible rfl
    simp only [Act.put, List.setIfInBounds_toArray, List.set_cons_zero, List.set_cons_succ, Nat.reduceAdd, Nat.reduceEqDiff, reduceIte, Option.getD_some, Option.getD_none]
    refine Tail.J_ex (by rfl) (by rfl) ?_
    apply Exists.intro
    refine ⟨fun w => ?_, ?_⟩
    · go_simp <;> with_reducible rfl
    simp only [Act.put, List.setIfInBounds_toArray, List.set_cons_zero, List.set_cons_succ, Nat.reduceAdd, Nat.reduceEqDiff, reduceIte, Option.getD_some, Option.getD_none]
    refine Tail.J_ex (by rfl) (by rfl) ?_
    apply Exists.intro
    refine ⟨fun w => ?_, ?_⟩
    · go_simp <;> with_reducible rfl
    simp only [Act.put, List.setIfInBounds_toArray, List.set_cons_zero, List.set_cons_succ, Nat.reduceAdd, Nat.reduceEqDiff, reduceIte, Option.getD_some, Option.getD_none]
    refine Tail.J_at (by rfl) (by rfl) ?_
    apply Exists.intro
    refine ⟨fun D w' hd hp hJ => ?_, ?_⟩
    · have cc := (HC.out w' hJ.1).2
      go_simp <;> with_reducible rfl
    simp only [Act.put, List.setIfInBounds_toArray, List.set_cons_zero, List.set_cons_succ, Nat.reduceAdd, Nat.reduceEqDiff, reduceIte, Option.getD_some, Option.getD_none]
    refine Tail.J_call (by rfl) (by rfl) ?_ ?_
    · apply Exists.intro
      apply Exists.intro
      refine ⟨fun w' => ?_, ?_⟩
      · go_simp <;> exact ⟨rfl, rfl⟩
      intro D z' w' hD hz hd hp hJ
      refine (rnum_calls w' _ _ _ _ _ _ _ _ _ _ _ (H2.out.step hJ.1).rs).mono ?_
      rintro e w'' ⟨rfl, hb⟩
      refine ⟨_, rfl, fun c hc => by simp at hc; rw [← hc, HF.out.2], hJ.1.trans (hb.mono hJ.1.size), fun h => ?_⟩
      have h4 : D 4 = true := by simpa [Tail.updB] using h
      simpa [Tail.updV] using (hJ.2 h4).below hb
    simp only [Act.put, List.setIfInBounds_toArray, List.set_cons_zero, List.set_cons_succ, Nat.reduceAdd, Nat.reduceEqDiff, reduceIte, Option.getD_some, Option.getD_none]
    refine Tail.J_ex (by rfl) (by rfl) ?_
    apply Exists.intro
    refine ⟨fun w => ?_, ?_⟩
    · go_simp <;> with_reducible rfl
    simp only [Act.put, List.setIfInBounds_toArray, List.set_cons_zero, List.set_cons_succ, Nat.reduceAdd, Nat.reduceEqDiff, reduceIte, Option.getD_some, Option.getD_none]
    intro w3 hJ
    have hb3 := hJ.1
    clear hJ
    generalize z 4 = z4
    have HB3 := Lib.hid (HB2.out.trans (hb3.mono HB2.out.size))
    have HV3 := Lib.hid (fun w' hb => HV.out w' (hb3.trans (Below.mono hb hb3.size)))
    have H3 := Lib.hid (H2.out.step hb3)
    clear hb3
    go_wp2_with fail
    go_loopw [66] (fun u wr => ∃ i : Nat, i ≤ nn ∧ u = .int .i64 i ∧ Below w3.heap.size w3 wr) (fun u _ => nn - (intOf u).toNat)
    case atStart => exact ⟨0, by omega, rfl, Below.refl _ _⟩
    case round =>
      obtain ⟨i, hi, rfl, hbr⟩ := hrel
      by_cases h0 : i < nn
      · have i0 : (0 : Int) ≤ (i : Int) := by omega
        have i1 : (i : Int) < (nn : Int) := by omega
        have q1 : IntKind.i64.wrap ((i : Int) + 1) = (i : Int) + 1 := IntWalk.i64_in _ (by omega)
        have HW := Lib.hid (H3.out.step hbr)
        have HC1 := Lib.hid (show ∀ w', Below wr.heap.size wr w' → w'.cell? ⟨p, 1, none⟩ = some (.pointer (some ⟨sb, 0, none⟩)) from fun w' hb => (HW.out.step hb).base.blk.cell 1)
        have hVr : ∀ w', Below wr.heap.size wr w' → Strs w' (.slice av nn cv) nm := fun w' hb => HV3.out w' (hbr.trans (Below.mono hb hbr.size))
        obtain ⟨gb, go, x, rfl, hk, hx⟩ := (show Strs wr (.slice av nn cv) nm from hVr wr (Below.refl _ _)).at i (by rw [← HNN.out]; exact h0)
        have HX := Lib.hid (show ∀ w', Below wr.heap.size wr w' → w'.cell? ⟨gb, go + i, none⟩ = some (.string ⟨x.toArray⟩) from fun w' hb => by
          have := hVr w' hb
          obtain ⟨gb', go', x', e, hx', hc'⟩ := this.at i (by rw [← HNN.out]; exact h0)
          injection e with e
          injection e with e1 e2
          subst e1 e2
          have hxx : x' = x := by
            have h1 := hk.out
            rw [hx'.out] at h1
            injection h1
          rw [hc', hxx])
        have HVR := Lib.hid hVr
        clear hVr hx
        go_upto_region 9 with fail
        refine Tail.wp_region_J 13 (fun k => k == 8) (fun k => none)
          (fun D z w' => (D 8 = false → ∃ n, w' = World.drewN wr n) ∧ (D 8 = true → ∃ x_ y, z 8 = .tuple #[x_, y] ∧ (y = .bool (s.get ⟨x.toArray⟩).isSome ∧ Bys w' x_ ((s.get ⟨x.toArray⟩).getD []) ∧ Below wr.heap.size wr w')))
          (by kernel_rfl) (by kernel_rfl) (fun k hk => by simp at hk; omega) (fun D z z' w' hz h => ⟨h.1, fun d => by rw [← hz 8 d]; exact h.2 d⟩)
          (⟨fun _ => ⟨1, rfl⟩, (fun h => by cases h)⟩) (fun z => ?_)
        simp only [List.take_succ_cons, List.take_zero, List.drop_succ_cons, List.drop_zero]
        refine Tail.J_ex (by rfl) (by rfl) ?_
        apply Exists.intro
        refine ⟨fun w => ?_, ?_⟩
        · go_simp <;> with_reducible rfl
        simp only [Act.put, List.setIfInBounds_toArray, List.set_cons_zero, List.set_cons_succ, Nat.reduceAdd, Nat.reduceEqDiff, reduceIte, Option.getD_some, Option.getD_none]
        refine Tail.J_ex (by rfl) (by rfl) ?_
        apply Exists.intro
        refine ⟨fun w => ?_, ?_⟩
        · go_simp <;> with_reducible rfl
        simp only [Act.put, List.setIfInBounds_toArray, List.set_cons_zero, List.set_cons_succ, Nat.reduceAdd, Nat.reduceEqDiff, reduceIte, Option.getD_some, Option.getD_none]
        refine Tail.J_ex (by rfl) (by rfl) ?_
        apply Exists.intro
        refine ⟨fun w => ?_, ?_⟩
        · go_simp <;> with_reducible rfl
        simp only [Act.put, List.setIfInBounds_toArray, List.set_cons_zero, List.set_cons_succ, Nat.reduceAdd, Nat.reduceEqDiff, reduceIte, Option.getD_some, Option.getD_none]
        refine Tail.J_at (by rfl) (by rfl) ?_
        apply Exists.intro
        refine ⟨fun D w' hd hp hJ => ?_, ?_⟩
        · obtain ⟨dn, hdn⟩ := hJ.1 (hp 8 (by kernel_rfl))
          have cc := HC1.out w' (by rw [hdn]; exact below_drewN (Below.refl _ _) dn)
          clear hdn dn
          go_simp <;> with_reducible rfl
        simp only [Act.put, List.setIfInBounds_toArray, List.set_cons_zero, List.set_cons_succ, Nat.reduceAdd, Nat.reduceEqDiff, reduceIte, Option.getD_some, Option.getD_none]
        refine Tail.J_ex (by rfl) (by rfl) ?_
        apply Exists.intro
        refine ⟨fun w => ?_, ?_⟩
        · go_simp <;> with_reducible rfl
        simp only [Act.put, List.setIfInBounds_toArray, List.set_cons_zero, List.set_cons_succ, Nat.reduceAdd, Nat.reduceEqDiff, reduceIte, Option.getD_some, Option.getD_none]
        refine Tail.J_ex (by rfl) (by rfl) ?_
        apply Exists.intro
        refine ⟨fun w => ?_, ?_⟩
        · go_simp <;> with_reducible rfl
        simp only [Act.put, List.setIfInBounds_toArray, List.set_cons_zero, List.set_cons_succ, Nat.reduceAdd, Nat.reduceEqDiff, reduceIte, Option.getD_some, Option.getD_none]
        refine Tail.J_ex (by rfl) (by rfl) ?_
        apply Exists.intro
        refine ⟨fun w => ?_, ?_⟩
        · go_simp <;> with_reducible rfl
        simp only [Act.put, List.setIfInBounds_toArray, List.set_cons_zero, List.set_cons_succ, Nat.reduceAdd, Nat.reduceEqDiff, reduceIte, Option.getD_some, Option.getD_none]
        refine Tail.J_at (by rfl) (by rfl) ?_
        apply Exists.intro
        refine ⟨fun D w' hd hp hJ => ?_, ?_⟩
        · obtain ⟨dn, hdn⟩ := hJ.1 (hp 8 (by kernel_rfl))
          have cc := HX.out w' (by rw [hdn]; exact below_drewN (Below.refl _ _) dn)
          clear hdn dn
          go_simp <;> with_reducible rfl
        simp only [Act.put, List.setIfInBounds_toArray, List.set_cons_zero, List.set_cons_succ, Nat.reduceAdd, Nat.reduceEqDiff, reduceIte, Option.getD_some, Option.getD_none]
        refine Tail.J_call (by rfl) (by rfl) ?_ ?_
        · apply Exists.intro
          apply Exists.intro
          refine ⟨fun w' => ?_, ?_⟩
          · go_simp <;> exact ⟨rfl, rfl⟩
          intro D z' w' hD hz hd hp hJ
          obtain ⟨dn, hdn⟩ := hJ.1 hD
          subst hdn
          refine (sget_two wr dn N sb lb d Ld s HW.out.st ⟨x.toArray⟩).mono ?_
          rintro e w'' ⟨x', y, rfl, hxy⟩
          refine ⟨_, rfl, fun c hc => by simp at hc, fun h => ?_, fun _ => ?_⟩
          · simp [Tail.updB] at h
          · exact ⟨x', y, by simp [Tail.updV], hxy⟩
        simp only [Act.put, List.setIfInBounds_toArray, List.set_cons_zero, List.set_cons_succ, Nat.reduceAdd, Nat.reduceEqDiff, reduceIte, Option.getD_some, Option.getD_none]
        refine Tail.J_ex (by rfl) (by rfl) ?_
        apply Exists.intro
        refine ⟨fun w => ?_, ?_⟩
        · go_simp <;> with_reducible rfl
        simp only [Act.put, List.setIfInBounds_toArray, List.set_cons_zero, List.set_cons_succ, Nat.reduceAdd, Nat.reduceEqDiff, reduceIte, Option.getD_some, Option.getD_none]
        refine Tail.J_at (by rfl) (by rfl) ?_
        refine ⟨tupAt (z 8) 0, fun D w' hd hp hJ => ?_, ?_⟩
        · obtain ⟨x', y, e, _⟩ := hJ.2 (hd 8 (by kernel_rfl))
          rw [show tupAt (z 8) 0 = x' from by rw [e]; rfl]
          simp only [e]
          go_simp <;> with_reducible rfl
        simp only [Act.put, List.setIfInBounds_toArray, List.set_cons_zero, List.set_cons_succ, Nat.reduceAdd, Nat.reduceEqDiff, reduceIte, Option.getD_some, Option.getD_none]
        refine Tail.J_at (by rfl) (by rfl) ?_
        refine ⟨tupAt (z 8) 1, fun D w' hd hp hJ => ?_, ?_⟩
        · obtain ⟨x', y, e, _⟩ := hJ.2 (hd 8 (by kernel_rfl))
          rw [show tupAt (z 8) 1 = y from by rw [e]; rfl]
          simp only [e]
          go_simp <;> with_reducible rfl
        simp only [Act.put, List.setIfInBounds_toArray, List.set_cons_zero, List.set_cons_succ, Nat.reduceAdd, Nat.reduceEqDiff, reduceIte, Option.getD_some, Option.getD_none]
        refine Tail.J_ex (by rfl) (by rfl) ?_
        apply Exists.intro
        refine ⟨fun w => ?_, ?_⟩
        · go_simp <;> with_reducible rfl
        simp only [Act.put, List.setIfInBounds_toArray, List.set_cons_zero, List.set_cons_succ, Nat.reduceAdd, Nat.reduceEqDiff, reduceIte, Option.getD_some, Option.getD_none]
        intro w4 hJ
        obtain ⟨a4, e4, hz, hxy⟩ := hJ.2 rfl
        rw [show tupAt (z 8) 0 = a4 from by rw [hz]; rfl, show tupAt (z 8) 1 = e4 from by rw [hz]; rfl, hz]
        clear hJ hz z
        obtain ⟨rfl, hv4, hb4⟩ := hxy
        have HW4 := Lib.hid (HW.out.step hb4)
        have HC3 := Lib.hid (show ∀ w', Below w4.heap.size w4 w' → w'.cell? ⟨p, 3, none⟩ = some (.pointer (some ⟨q, 0, none⟩)) from fun w' hb => (HW4.out.step hb).base.blk.cell 3)
        have HX4 := Lib.hid (show ∀ w', Below w4.heap.size w4 w' → w'.cell? ⟨gb, go + i, none⟩ = some (.string ⟨x.toArray⟩) from fun w' hb => HX.out w' (hb4.trans (Below.mono hb hb4.size)))
        have HV4 := Lib.hid (And.intro hv4 hb4)
        obtain ⟨G, hG⟩ : ∃ z, z = (s.get ⟨x.toArray⟩).isSome := ⟨_, rfl⟩
        obtain ⟨gs, hgs⟩ : ∃ z, z = (s.get ⟨x.toArray⟩).getD [] := ⟨_, rfl⟩
        rw [← hG]
        rw [← hgs] at HV4
        rw [HW.out.dup.get] at hG hgs
        have HG := Lib.hid (And.intro hG hgs)
        clear hv4 hb4 hG hgs HX HC1
        go_upto_region 10 with fail
        refine Tail.wp_region_J 13 (fun k => k == 8) (fun k => none)
          (fun D z w' => (D 8 = false → ∃ n, w' = World.drewN w4 n) ∧ (D 8 = true → ∃ x_ y, z 8 = .tuple #[x_, y] ∧ (y = .bool (rgetR L s.dead ⟨x.toArray⟩).isSome ∧ Bys w' x_ ((rgetR L s.dead ⟨x.toArray⟩).getD []) ∧ Below w4.heap.size w4 w')))
          (by kernel_rfl) (by kernel_rfl) (fun k hk => by simp at hk; omega) (fun D z z' w' hz h => ⟨h.1, fun d => by rw [← hz 8 d]; exact h.2 d⟩)
          (⟨fun _ => ⟨1, rfl⟩, (fun h => by cases h)⟩) (fun z => ?_)
        simp only [List.take_succ_cons, List.take_zero, List.drop_succ_cons, List.drop_zero]
        refine Tail.J_ex (by rfl) (by rfl) ?_
        apply Exists.intro
        refine ⟨fun w => ?_, ?_⟩
        · go_simp <;> with_reducible rfl
        simp only [Act.put, List.setIfInBounds_toArray, List.set_cons_zero, List.set_cons_succ, Nat.reduceAdd, Nat.reduceEqDiff, reduceIte, Option.getD_some, Option.getD_none]
        refine Tail.J_ex (by rfl) (by rfl) ?_
        apply Exists.intro
        refine ⟨fun w => ?_, ?_⟩
        · go_simp <;> with_reducible rfl
        simp only [Act.put, List.setIfInBounds_toArray, List.set_cons_zero, List.set_cons_succ, Nat.reduceAdd, Nat.reduceEqDiff, reduceIte, Option.getD_some, Option.getD_none]
        refine Tail.J_ex (by rfl) (by rfl) ?_
        apply Exists.intro
        refine ⟨fun w => ?_, ?_⟩
        · go_simp <;> with_reducible rfl
        simp only [Act.put, List.setIfInBounds_toArray, List.set_cons_zero, List.set_cons_succ, Nat.reduceAdd, Nat.reduceEqDiff, reduceIte, Option.getD_some, Option.getD_none]
        refine Tail.J_at (by rfl) (by rfl) ?_
        apply Exists.intro
        refine ⟨fun D w' hd hp hJ => ?_, ?_⟩
        · obtain ⟨dn, hdn⟩ := hJ.1 (hp 8 (by kernel_rfl))
          have cc := HC3.out w' (by rw [hdn]; exact below_drewN (Below.refl _ _) dn)
          clear hdn dn
          go_simp <;> with_reducible rfl
        simp only [Act.put, List.setIfInBounds_toArray, List.set_cons_zero, List.set_cons_succ, Nat.reduceAdd, Nat.reduceEqDiff, reduceIte, Option.getD_some, Option.getD_none]
        refine Tail.J_ex (by rfl) (by rfl) ?_
        apply Exists.intro
        refine ⟨fun w => ?_, ?_⟩
        · go_simp <;> with_reducible rfl
        simp only [Act.put, List.setIfInBounds_toArray, List.set_cons_zero, List.set_cons_succ, Nat.reduceAdd, Nat.reduceEqDiff, reduceIte, Option.getD_some, Option.getD_none]
        refine Tail.J_ex (by rfl) (by rfl) ?_
        apply Exists.intro
        refine ⟨fun w => ?_, ?_⟩
        · go_simp <;> with_reducible rfl
        simp only [Act.put, List.setIfInBounds_toArray, List.set_cons_zero, List.set_cons_succ, Nat.reduceAdd, Nat.reduceEqDiff, reduceIte, Option.getD_some, Option.getD_none]
        refine Tail.J_ex (by rfl) (by rfl) ?_
        apply Exists.intro
        refine ⟨fun w => ?_, ?_⟩
        · go_simp <;> with_reducible rfl
        simp only [Act.put, List.setIfInBounds_toArray, List.set_cons_zero, List.set_cons_succ, Nat.reduceAdd, Nat.reduceEqDiff, reduceIte, Option.getD_some, Option.getD_none]
        refine Tail.J_at (by rfl) (by rfl) ?_
        apply Exists.intro
        refine ⟨fun D w' hd hp hJ => ?_, ?_⟩
        · obtain ⟨dn, hdn⟩ := hJ.1 (hp 8 (by kernel_rfl))
          have cc := HX4.out w' (by rw [hdn]; exact below_drewN (Below.refl _ _) dn)
          clear hdn dn
          go_simp <;> with_reducible rfl
        simp only [Act.put, List.setIfInBounds_toArray, List.set_cons_zero, List.set_cons_succ, Nat.reduceAdd, Nat.reduceEqDiff, reduceIte, Option.getD_some, Option.getD_none]
        refine Tail.J_call (by rfl) (by rfl) ?_ ?_
        · apply Exists.intro
          apply Exists.intro
          refine ⟨fun w' => ?_, ?_⟩
          · go_simp <;> exact ⟨rfl, rfl⟩
          intro D z' w' hD hz hd hp hJ
          obtain ⟨dn, hdn⟩ := hJ.1 hD
          subst hdn
          refine (rget_two w4 dn N q r B lv ps s.disk slots room L s.dead HW4.out.rs ⟨x.toArray⟩).mono ?_
          rintro e w'' ⟨x', y, rfl, hxy⟩
          refine ⟨_, rfl, fun c hc => by simp at hc, fun h => ?_, fun _ => ?_⟩
          · simp [Tail.updB] at h
          · exact ⟨x', y, by simp [Tail.updV], hxy⟩
        simp only [Act.put, List.setIfInBounds_toArray, List.set_cons_zero, List.set_cons_succ, Nat.reduceAdd, Nat.reduceEqDiff, reduceIte, Option.getD_some, Option.getD_none]
        refine Tail.J_ex (by rfl) (by rfl) ?_
        apply Exists.intro
        refine ⟨fun w => ?_, ?_⟩
        · go_simp <;> with_reducible rfl
        simp only [Act.put, List.setIfInBounds_toArray, List.set_cons_zero, List.set_cons_succ, Nat.reduceAdd, Nat.reduceEqDiff, reduceIte, Option.getD_some, Option.getD_none]
        refine Tail.J_at (by rfl) (by rfl) ?_
        refine ⟨tupAt (z 8) 0, fun D w' hd hp hJ => ?_, ?_⟩
        · obtain ⟨x', y, e, _⟩ := hJ.2 (hd 8 (by kernel_rfl))
          rw [show tupAt (z 8) 0 = x' from by rw [e]; rfl]
          simp only [e]
          go_simp <;> with_reducible rfl
        simp only [Act.put, List.setIfInBounds_toArray, List.set_cons_zero, List.set_cons_succ, Nat.reduceAdd, Nat.reduceEqDiff, reduceIte, Option.getD_some, Option.getD_none]
        refine Tail.J_at (by rfl) (by rfl) ?_
        refine ⟨tupAt (z 8) 1, fun D w' hd hp hJ => ?_, ?_⟩
        · obtain ⟨x', y, e, _⟩ := hJ.2 (hd 8 (by kernel_rfl))
          rw [show tupAt (z 8) 1 = y from by rw [e]; rfl]
          simp only [e]
          go_simp <;> with_reducible rfl
        simp only [Act.put, List.setIfInBounds_toArray, List.set_cons_zero, List.set_cons_succ, Nat.reduceAdd, Nat.reduceEqDiff, reduceIte, Option.getD_some, Option.getD_none]
        refine Tail.J_ex (by rfl) (by rfl) ?_
        apply Exists.intro
        refine ⟨fun w => ?_, ?_⟩
        · go_simp <;> with_reducible rfl
        simp only [Act.put, List.setIfInBounds_toArray, List.set_cons_zero, List.set_cons_succ, Nat.reduceAdd, Nat.reduceEqDiff, reduceIte, Option.getD_some, Option.getD_none]
        intro w5 hJ
        obtain ⟨a5, e5, hz, hxy⟩ := hJ.2 rfl
        rw [show tupAt (z 8) 0 = a5 from by rw [hz]; rfl, show tupAt (z 8) 1 = e5 from by rw [hz]; rfl, hz]
        clear hJ hz z
        rw [← HG.out.1, ← HG.out.2] at hxy
        obtain ⟨rfl, hv5, hb5⟩ := hxy
        have HV5 := Lib.hid (And.intro hv5 hb5)
        clear hv5 hb5 HX4 HC3
        have qG : (G != G) = false := by cases G <;> rfl
        go_wp2_with fail
        refine (same8_yes a4 a5 gs gs w5 (HV4.out.1.below HV5.out.2) HV5.out.1 rfl).mono ?_
        rintro e w6 ⟨rfl, dn6, rfl⟩
        go_wp2
        exact ⟨⟨i + 1, by omega, by go_num, below_drewN (hbr.trans ((HV4.out.2.trans (Below.mono HV5.out.2 HV4.out.2.size)).mono hbr.size)) dn6⟩, by simp [intOf]; omega⟩
      · have i1 : ¬ (i : Int) < (nn : Int) := by omega
        have HE := Lib.hid (And.intro (HB3.out.trans (hbr.mono HB3.out.size)) (H3.out.step hbr))
        have HR := Lib.hid hbr
        clear hbr hi h0
        obtain ⟨wo, hwo⟩ : ∃ z, z = wr := ⟨_, rfl⟩
        subst hwo
        obtain ⟨nd, hnd⟩ : ∃ z, z = s.disk.n := ⟨_, rfl⟩
        obtain ⟨db, hdb⟩ : ∃ z, z = s.disk.dead := ⟨_, rfl⟩
        have hnb : nd ≤ 4096 := by
          rw [hnd]
          obtain ⟨_, _, _, _, _, _, _, _, _, h, _⟩ := HE.out.2.base.disk
          exact h
        have HN1 := Lib.hid (And.intro hnd hdb)
        have hroomb : room ≤ 10 := HE.out.2.base.r1.2
        clear hnd hdb
        go_wp2_with fail
        go_loopw [9] (fun u wx => ∃ j : Nat, j ≤ nd ∧ u = .int .i64 j ∧ Below wo.heap.size wo wx) (fun u _ => nd - (intOf u).toNat)
        case atStart => exact ⟨0, by omega, rfl, Below.refl _ _⟩
        case round =>
          obtain ⟨j, hj, rfl, hbx⟩ := hrel
          have HX := Lib.hid (HE.out.2.step hbx)
          have HBX := Lib.hid (HE.out.1.trans (hbx.mono HE.out.1.size))
          have HRX := Lib.hid hbx
          have c0 : wr.cell? ⟨p, 0, none⟩ = some (.pointer (some ⟨d, 0, none⟩)) := HX.out.base.blk.cell 0
          have c2 : wr.cell? ⟨p, 2, none⟩ = some (.pointer (some ⟨r, 0, none⟩)) := HX.out.base.blk.cell 2
          have c5 : wr.cell? ⟨p, 5, none⟩ = some (.int .i64 room) := HX.out.base.blk.cell 5
          obtain ⟨e1, e5⟩ := rd_two HX.out.base.rd
          rw [← HN1.out.2] at e1
          have hlen : Calls Tryd.prog 15 #[.pointer (some ⟨r, 0, none⟩)] wr fun e w' => e = .returned (.int .i64 (nd : Int)) ∧ wr = w' := by rw [HN1.out.1]; exact rlen_calls r B _ wr HX.out.base.rd
          clear hbx
          by_cases h1 : j < nd
          · have j1 : (j : Int) < (nd : Int) := by omega
            have q1 : IntKind.i64.wrap ((j : Int) + 1) = (j : Int) + 1 := IntWalk.i64_in _ (by omega)
            have q2 : IntKind.i64.wrap ((room : Int) + 1) = (room : Int) + 1 := IntWalk.i64_in _ (by omega)
            cases db
            · go_wp2_with fail
              refine hlen.mono ?_
              rintro e _ ⟨rfl, rfl⟩
              clear hlen
              go_wp2_with fail
              refine (dread_any d Ld s.disk (j : Int) wr HX.out.base.disk).mono ?_
              rintro e w7 ⟨v7, rfl, ho7, hb7⟩
              obtain ⟨z, hz⟩ : ∃ z, z = s.disk.rres (j : Int) := ⟨_, rfl⟩
              obtain ⟨ys, hys⟩ : ∃ ys, ys = s.disk.rd (j : Int) := ⟨_, rfl⟩
              rw [← hys] at ho7
              rw [← hz]
              have HZ := Lib.hid (And.intro hz hys)
              have HO7 := Lib.hid (And.intro ho7 hb7)
              have H7 := Lib.hid (HX.out.step hb7)
              clear hz hys ho7 hb7 c0 c2 c5 e1 e5
              have c2 : w7.cell? ⟨p, 2, none⟩ = some (.pointer (some ⟨r, 0, none⟩)) := H7.out.base.blk.cell 2
              go_wp2_with fail
              refine (rread_any r B s.disk (j : Int) w7 H7.out.base.rd).mono ?_
              rintro e w8 ⟨v8, rfl, ho8, hb8⟩
              rw [← HZ.out.2] at ho8
              rw [← HZ.out.1]
              have HO8 := Lib.hid (And.intro ho8 hb8)
              have c5 : w8.cell? ⟨p, 5, none⟩ = some (.int .i64 room) := (H7.out.step hb8).base.blk.cell 5
              clear ho8 hb8 c2
              have nz := neq_self z
              have HB8 := Lib.hid (show Below wo.heap.size wo w8 from HRX.out.trans ((HO7.out.2.trans (HO8.out.2.mono HO7.out.2.size)).mono HRX.out.size))
              by_cases hr0 : (j : Int).tmod ((room : Int) + 1) = 0
              · go_wp2_with fail
                refine (same8_yes v7 v8 ys ys w8 (HO7.out.1.bys.below HO8.out.2) HO8.out.1.bys rfl).mono ?_
                rintro e w9 ⟨rfl, dn9, rfl⟩
                go_wp2
                exact ⟨⟨j + 1, by omega, by go_num, below_drewN HB8.out dn9⟩, by simp [intOf]; omega⟩
              · go_wp2_with fail
                exact ⟨⟨j + 1, by omega, by go_num, HB8.out⟩, by simp [intOf]; omega⟩
            · go_wp2_with fail
              refine hlen.mono ?_
              rintro e _ ⟨rfl, rfl⟩
              clear hlen
              have hdead : ∀ n, Calls Tryd.prog 28 #[.pointer (some ⟨d, 0, none⟩)] (wr.drewN n) fun e w' => e = .returned (.bool true) ∧ wr.drewN n = w' := fun n => by rw [HN1.out.2]; exact ddead_calls d Ld s.disk _ (HX.out.base.disk.drewN n)
              obtain ⟨wn, hwn⟩ : ∃ z, z = s.disk.writes := ⟨_, rfl⟩
              rw [← hwn] at e5
              have hwrt : ∀ n, Calls Tryd.prog 29 #[.pointer (some ⟨d, 0, none⟩)] (wr.drewN n) fun e w' => e = .returned (.int .i64 (wn : Int)) ∧ wr.drewN n = w' := fun n => by rw [hwn]; exact dwrites_calls d Ld s.disk _ (HX.out.base.disk.drewN n)
              clear hwn
              go_wp2_with fail
              go_quiet ((first | (go_at_call 28; exact quiet_eq (hdead _)) | (go_at_call 29; exact quiet_eq (hwrt _))))
              go_wp2
              go_ret
              exact ⟨rfl, below_drewN HBX.out _⟩
          · have j1 : ¬ (j : Int) < (nd : Int) := by omega
            go_wp2_with fail
            refine hlen.mono ?_
            rintro e _ ⟨rfl, rfl⟩
            clear hlen
            have qd : (db == db) = true := by cases db <;> rfl
            have hdead : ∀ n, Calls Tryd.prog 28 #[.pointer (some ⟨d, 0, none⟩)] (wr.drewN n) fun e w' => e = .returned (.bool db) ∧ wr.drewN n = w' := fun n => by rw [HN1.out.2]; exact ddead_calls d Ld s.disk _ (HX.out.base.disk.drewN n)
            obtain ⟨wn, hwn⟩ : ∃ z, z = s.disk.writes := ⟨_, rfl⟩
            rw [← hwn] at e5
            have hwrt : ∀ n, Calls Tryd.prog 29 #[.pointer (some ⟨d, 0, none⟩)] (wr.drewN n) fun e w' => e = .returned (.int .i64 (wn : Int)) ∧ wr.drewN n = w' := fun n => by rw [hwn]; exact dwrites_calls d Ld s.disk _ (HX.out.base.disk.drewN n)
            clear hwn
            go_wp2_with fail
            go_quiet ((first | (go_at_call 28; exact quiet_eq (hdead _)) | (go_at_call 29; exact quiet_eq (hwrt _))))
            go_wp2
            go_ret
            exact ⟨rfl, below_drewN HBX.out _⟩
end Go.Proofs.YtehgnkdfnnebcaaDoor
end
