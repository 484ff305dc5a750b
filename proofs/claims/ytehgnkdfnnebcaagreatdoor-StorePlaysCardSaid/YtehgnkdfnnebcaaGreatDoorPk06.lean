/- Texts of this proof, packed: Ref10Wr, Ref10List, Ref10Put. -/
import Derived.Test.YtehgnkdfnnebcaaGreatDoorPk04
import Derived.Test.YtehgnkdfnnebcaaGreatDoorPk01
import Derived.Test.YtehgnkdfnnebcaaGreatDoorPk05
import Derived.Test.YtehgnkdfnnebcaaGreatDoorPk03
section
namespace Go.Mem
open Go Go.RowKit Gf Go.Proofs.YtehgnkdfnnebcaaGreatDoor
set_option linter.unusedVariables false
def FootR (q r B : Nat) : Nat → Prop := fun b => b = q ∨ b = r ∨ b = B
section
variable {w w' : World} {N S : Nat → Prop} {q r B slots room : Nat} {lv : Value} {ps : List RP} {D D' : DiskS} {L : List RRec} {died : Bool}
theorem RStore.foot (h : RStore w N q r B lv ps D slots room L died) : ∀ b, FootR q r B b → N b := fun b hb => by
  rcases hb with rfl | rfl | rfl
  · exact h.nq
  · exact h.nr
  · exact h.nB
theorem RStore.chg (h : RStore w N q r B lv ps D slots room L died) (hc : Chg S w w') (hs : ∀ b, S b → b < w.heap.size → N b) (hf : ∀ b, FootR q r B b → ¬ S b) : RStore w' N q r B lv ps D slots room L died :=
  { h with blk := hc.blk h.blk (hf _ (.inl rfl)), disk := h.disk.chg hc (hf _ (.inr (.inl rfl))) (hf _ (.inr (.inr rfl))), row := h.row.chg hc hs, recs := h.recs.chg hc hs }
theorem RStore.below (h : RStore w N q r B lv ps D slots room L died) (hb : Below w.heap.size w w') : RStore w' N q r B lv ps D slots room L died :=
  h.chg (S := fun _ => False) (Chg.of_below hb) (fun _ h => h.elim) (fun _ _ h => h)
theorem RStore.redisk (h : RStore w N q r B lv ps D slots room L died) (hc : Chg (fun b => b = r ∨ b = B) w w') (hd : RDisk w' r B D') (hn : D'.n = D.n) : RStore w' N q r B lv ps D' slots room L died :=
  { h with blk := hc.blk h.blk (fun e => e.elim h.qr h.qB), disk := hd, row := h.row.chg hc (fun b hb _ => h.foot b (.inr hb)), recs := h.recs.chg hc (fun b hb _ => h.foot b (.inr hb)), n := hn.trans h.n }
theorem RStore.die (h : RStore w N q r B lv ps D slots room L died) : RStore (w.setCell ⟨q, 4, none⟩ (.bool true)) N q r B lv ps D slots room L true := by
  have hc : Chg (fun b => b = q) w (w.setCell ⟨q, 4, none⟩ (.bool true)) := Chg.set (S := fun b => b = q) (a := ⟨q, 4, none⟩) (Chg.refl _ _) rfl _
  have hb := h.blk.set 4 (.bool true)
  exact { h with blk := hb, disk := h.disk.chg hc (fun e => h.qr e.symm) (fun e => h.qB e.symm), row := h.row.chg hc (fun b hb _ => by rw [hb]; exact h.nq), recs := h.recs.chg hc (fun b hb _ => by rw [hb]; exact h.nq) }
theorem RStore.relist {lv' : Value} {ps' : List RP} {L' : List RRec} (h : RStore w N q r B lv ps D slots room L died) (hr : RowR w N lv' ps') (hp : RPs w N ps' L') (hl : L'.length ≤ slots) (hs : ∀ x ∈ L', x.data.length ≤ 1000000 ∧ x.num < 1000000000000 ∧ x.slot < slots) : RStore (w.setCell ⟨q, 3, none⟩ lv') N q r B lv' ps' D slots room L' died := by
  have hc : Chg (fun b => b = q) w (w.setCell ⟨q, 3, none⟩ lv') := Chg.set (S := fun b => b = q) (a := ⟨q, 3, none⟩) (Chg.refl _ _) rfl _
  have hb := h.blk.set 3 lv'
  exact ⟨hb, h.disk.chg hc (fun e => h.qr e.symm) (fun e => h.qB e.symm), hr.chg hc (fun b hb _ => by rw [hb]; exact h.nq), hp.chg hc (fun b hb _ => by rw [hb]; exact h.nq), h.nq, h.nr, h.nB, h.qr, h.qB, h.n, h.s1, h.r1, hl, hs⟩
end
end Go.Mem
namespace Go.Proofs.YtehgnkdfnnebcaaGreatDoor
open Go Go.RowKit Go.Mem Gf
set_option linter.unusedVariables false
attribute [local go_sem ↓] Go.wp_at_zero Go.wp_at_succ
set_option maxRecDepth 20000 in
set_option maxHeartbeats 1000000 in
theorem rswrite_calls (w : World) (N : Nat → Prop) (q r B : Nat) (lv : Value) (ps : List RP) (D : DiskS) (slots room : Nat) (L : List RRec) (died : Bool) (h : RStore w N q r B lv ps D slots room L died) (i : Nat) (v : Value) (bs : List UInt8) (hb : Bys w v bs) (hkeep : ∀ w', Chg (fun b => b = B) w w' → Bys w' v bs) (hw : D.writes < 4611686018427387904) :
    Calls Tryz.prog 45 #[.pointer (some ⟨q, 0, none⟩), .int .i64 i, v] w fun e w' => e = .returned (.bool (!(died || (D.wres i bs.length != 0)))) ∧ RStore w' N q r B lv ps (D.wr i bs) slots room L (died || (D.wres i bs.length != 0)) ∧ Chg (FootR q r B) w w' := by
  have c0 : w.cell? ⟨q, 0, none⟩ = some (.pointer (some ⟨r, 0, none⟩)) := h.blk.cell 0
  obtain ⟨va, vc, rfl⟩ := hb.eq_slice
  obtain ⟨m, hm⟩ : ∃ m, m = bs.length := ⟨_, rfl⟩
  rw [← hm] at hb hkeep ⊢
  have H := Lib.hid (And.intro h (And.intro hb (And.intro hkeep (And.intro hw hm))))
  clear h hb hkeep hw hm
  go_enter Tryz.func45, Tryz.ntmps45
  go_wp2_with fail
  refine (rwrite_any r B D i _ bs w H.out.1.disk H.out.2.1 H.out.2.2.1 H.out.2.2.2.1).mono ?_
  rintro e w1 ⟨rfl, hd, hc⟩
  rw [← H.out.2.2.2.2]
  have h1 := H.out.1.redisk hc hd (DiskS.wr_n _ _ _)
  have c4 : w1.cell? ⟨q, 4, none⟩ = some (.bool died) := h1.blk.cell 4
  have f4 := h1.blk.free 4
  obtain ⟨er, her⟩ : ∃ x, x = D.wres i m := ⟨_, rfl⟩
  rw [← her]
  have H1 := Lib.hid (And.intro h1 (hc.mono (T := FootR q r B) (fun b hb => .inr hb)))
  have HER := Lib.hid her
  clear hd hc h1 her
  by_cases he : er = 0
  · subst he
    cases died with
    | true =>
      go_wp2_with fail
      go_ret
      rw [← HER.out]
      exact ⟨rfl, H1.out.1, H1.out.2⟩
    | false =>
      go_wp2_with fail
      go_ret
      rw [← HER.out]
      exact ⟨rfl, H1.out.1, H1.out.2⟩
  · have t1 : (er == 0) = false := by simp [he]
    have t2 : (er != 0) = true := by simp [he]
    have HE := Lib.hid (show (died || (er != 0)) = true from by rw [t2]; cases died <;> rfl)
    clear he
    go_wp2_with fail
    go_ret
    rw [← HER.out, HE.out]
    exact ⟨rfl, H1.out.1.die, Chg.set (S := FootR q r B) (a := ⟨q, 4, none⟩) H1.out.2 (.inl rfl) _⟩
set_option maxRecDepth 20000 in
set_option maxHeartbeats 2000000 in
theorem rtext_calls (name : ByteArray) (num : Nat) (v : Value) (data : List UInt8) (w : World) (hb : Bys w v data) (hn : name.size ≤ 1000000) (hnum : num ≤ 9223372036854775807) (hd : data.length ≤ 1000000) :
    Calls Tryz.prog 47 #[.string name, .int .i64 num, v] w fun e w' => ∃ v', e = .returned v' ∧ OwnX 5 w' w.heap.size v' (Sto.text name num data) ∧ Below w.heap.size w w' := by
  have hconv := Lib.run_convert_string_bytes (P := Tryz.prog) w 9 29 5 name Tryz.underlying9 Tryz.underlying29 Tryz.underlying5
  obtain ⟨ho, hb1⟩ := conv_ownX w 5 name (maxLen_ge (by omega))
  obtain ⟨w1, hw1⟩ : ∃ w1, w1 = Lib.bytesWorld w 5 name := ⟨_, rfl⟩
  rw [← hw1] at ho hb1 hconv
  have HO := Lib.hid ho; have HB1 := Lib.hid hb1; have HB := Lib.hid hb
  have hs1 := hb1.size
  obtain ⟨da, dc, rfl⟩ := hb.eq_slice
  clear hw1 ho hb1 hb
  go_enter Tryz.func47, Tryz.ntmps47
  go_wp2_with fail
  refine (rput_x num 4 hnum (by decide) (by decide) w1).mono ?_
  rintro e w2 ⟨pv, rfl, hp, hb2⟩
  have hb12 := HB1.out.trans (hb2.mono hs1)
  have hs2 := hb12.size
  obtain ⟨pa, pc, rfl⟩ := hp.eq_slice
  rw [Cod.be_len] at hp ⊢
  have HP := Lib.hid hp; have HB2 := Lib.hid hb2; have HB12 := Lib.hid hb12
  clear hp hb2 hb12 hconv
  go_wp2_with fail
  have hal := fun (o : Obj) => (Below.refl w2.heap.size w2).alloc (Nat.le_refl _) o
  refine (rnets_calls _ [name.data.toList, Cod.be 4 num, data] _ (rws3 (Blk.new _ _ _) (((HO.out.below HB2.out).bys).below (hal _)) ((HP.out.bys).below (hal _)) ((HB.out.below HB12.out).below (hal _))) ?_).mono ?_
  · simp only [Cod.nets, List.length_append, Cod.net_len, Cod.be_len, List.length_nil, Array.length_toList]
    have h1 : Lib.nDigits name.data.size ≤ 9 := by have := dec_len name.data.size (by show name.size ≤ _; omega); rw [Lib.itoa_nonneg, Lib.decDigits_length] at this; exact this
    have h2 : Lib.nDigits 4 ≤ 9 := by rw [Lib.nDigits_small (by decide)]; decide
    have h3 : Lib.nDigits data.length ≤ 9 := by have := dec_len data.length (by omega); rw [Lib.itoa_nonneg, Lib.decDigits_length] at this; exact this
    have h4 : name.data.size ≤ 1000000 := hn
    omega
  rintro e w3 ⟨v3, rfl, h3, hb3⟩
  go_wp2_with fail
  go_ret
  exact ⟨_, rfl, h3.mono (by simp; omega), (HB12.out.alloc hs2 _).trans (hb3.mono (by simp; omega))⟩
theorem text_len01 (name : ByteArray) (data : List UInt8) : (Sto.text name 1 data).length = (Sto.text name 0 data).length := by
  simp only [Sto.text, Cod.nets, List.length_append, Cod.net_len, Cod.be_len, List.length_nil]
set_option maxRecDepth 20000 in
set_option maxHeartbeats 2000000 in
theorem rfits_calls (w : World) (N : Nat → Prop) (q r B : Nat) (lv : Value) (ps : List RP) (D : DiskS) (slots room : Nat) (L : List RRec) (died : Bool) (h : RStore w N q r B lv ps D slots room L died) (name : ByteArray) (v : Value) (data : List UInt8) (hb : Bys w v data) (hn : name.size ≤ 9223372036854775807) :
    Calls Tryz.prog 33 #[.pointer (some ⟨q, 0, none⟩), .string name, v] w fun e w' => e = .returned (.bool (fitsB room name data)) ∧ Below w.heap.size w w' := by
  have c1 : w.cell? ⟨q, 2, none⟩ = some (.int .i64 room) := h.blk.cell 2
  have hr2 := h.r1.2
  have hdl := hb.len
  obtain ⟨da, dc, rfl⟩ := hb.eq_slice
  obtain ⟨dl, hdl'⟩ : ∃ dl, dl = data.length := ⟨_, rfl⟩
  rw [← hdl'] at hb hdl ⊢
  obtain ⟨nl, hnl⟩ : ∃ nl, nl = name.size := ⟨_, rfl⟩
  have Hdl := Lib.hid hdl'; have Hnl := Lib.hid hnl
  have HF := Lib.hid (show fitsB room name data = (decide (name.size ≤ 16384) && (decide (data.length ≤ 16384) && decide ((Sto.text name 0 data).length ≤ room * 32))) from rfl)
  have HS := Lib.hid h.blk; have HB := Lib.hid hb
  clear h hb hdl' hnl
  by_cases h1 : name.size ≤ 16384
  · by_cases h2 : dl ≤ 16384
    · have HF2 := Lib.hid (show fitsB room name data = decide ((Sto.text name 0 data).length ≤ room * 32) from by rw [HF.out, decide_eq_true h1, decide_eq_true (by have := Hdl.out; omega)]; rfl)
      have q1 : IntKind.i64.wrap ((room : Int) * 32) = (room : Int) * 32 := IntWalk.i64_in _ (by omega)
      have g1 : decide ((name.size : Int) ≤ 16384) = true := by simp; omega
      have g1' : decide (name.size ≤ 16384) = true := by simp; omega
      have g2 : decide ((dl : Int) ≤ 16384) = true := by simp; omega
      have g2' : decide (dl ≤ 16384) = true := by simp; omega
      go_enter Tryz.func33, Tryz.ntmps33
      go_wp2_with fail
      go_region_held3 (fun w' => w'.cell? ⟨q, 2, none⟩ = some (.int .i64 room)) (first | exact c1 | assumption)
        (first
          | (go_at_call 47
             refine (rtext_calls name 1 _ data w.drew (HB.out.drewN 1) (by omega) (by decide) (by have := Hdl.out; omega)).mono ?_
             rintro e w2 ⟨v2, rfl, ho2, hb2⟩
             have hb2 : Below w.heap.size w w2 := of_drew hb2
             have hh : w2.cell? ⟨q, 2, none⟩ = some (.int .i64 room) := (HS.out.kept hb2).cell 2
             obtain ⟨a2, c2, rfl⟩ := ho2.eq_slice))
      have HE := Lib.hid (show decide (((Sto.text name 1 data).length : Int) ≤ (room : Int) * 32) = fitsB room name data from by rw [HF2.out, text_len01, decide_eq_decide]; omega)
      go_wp2
      go_ret
      exact ⟨by rw [← HE.out]; rfl, hb2⟩
    · have HF2 := Lib.hid (show fitsB room name data = false from by rw [HF.out, decide_eq_false (p := data.length ≤ 16384) (by have := Hdl.out; omega)]; simp)
      have g1 : decide ((name.size : Int) ≤ 16384) = true := by simp; omega
      have g1' : decide (name.size ≤ 16384) = true := by simp; omega
      have g2 : decide ((dl : Int) ≤ 16384) = false := by simp; omega
      have g2' : decide (dl ≤ 16384) = false := by simp; omega
      go_enter Tryz.func33, Tryz.ntmps33
      go_upto_region 1 with fail
      go_quiet (fail)
      go_wp2
      go_ret
      exact ⟨by rw [HF2.out]; rfl, below_drewN (Below.refl _ _) _⟩
  · have HF2 := Lib.hid (show fitsB room name data = false from by rw [HF.out, decide_eq_false h1]; rfl)
    have g1 : decide ((name.size : Int) ≤ 16384) = false := by simp; omega
    have g1' : decide (name.size ≤ 16384) = false := by simp; omega
    go_enter Tryz.func33, Tryz.ntmps33
    go_upto_region 1 with fail
    go_quiet (fail)
    go_wp2
    go_ret
    exact ⟨by rw [HF2.out]; rfl, below_drewN (Below.refl _ _) _⟩
end Go.Proofs.YtehgnkdfnnebcaaGreatDoor
end
section
namespace Go.Mem
open Go Go.RowKit Gf Go.Proofs.YtehgnkdfnnebcaaGreatDoor
set_option linter.unusedVariables false
def putStep {α : Type} (nm : α → ByteArray) (r : α) (s : List α × Bool) (x : α) : List α × Bool :=
  if ((nm x).toList == (nm r).toList) = true then (if s.2 = false ∧ Op.bytesLess (nm x).toList (nm r).toList = false then (s.1 ++ [r], true) else s)
  else ((if s.2 = false ∧ Op.bytesLess (nm x).toList (nm r).toList = false then (s.1 ++ [r], true) else s).1 ++ [x], (if s.2 = false ∧ Op.bytesLess (nm x).toList (nm r).toList = false then (s.1 ++ [r], true) else s).2)
def putFold {α : Type} (nm : α → ByteArray) (l : List α) (r : α) : List α × Bool := l.foldl (putStep nm r) ([], false)
def putG {α : Type} (nm : α → ByteArray) (l : List α) (r : α) : List α := if (putFold nm l r).2 = true then (putFold nm l r).1 else (putFold nm l r).1 ++ [r]
theorem putStep_map {α β : Type} {na : α → ByteArray} {nb : β → ByteArray} (f : α → β) (r x : α) (hr : nb (f r) = na r) (hx : nb (f x) = na x) (s : List α × Bool) :
    putStep nb (f r) (s.1.map f, s.2) (f x) = ((putStep na r s x).1.map f, (putStep na r s x).2) := by
  unfold putStep
  rw [hr, hx]
  simp only []
  split
  · split
    · simp
    · rfl
  · split
    · simp
    · simp
theorem putFold_map {α β : Type} {na : α → ByteArray} {nb : β → ByteArray} (f : α → β) (r : α) (hr : nb (f r) = na r) (l : List α) (hl : ∀ x ∈ l, nb (f x) = na x) (s : List α × Bool) :
    (l.map f).foldl (putStep nb (f r)) (s.1.map f, s.2) = ((l.foldl (putStep na r) s).1.map f, (l.foldl (putStep na r) s).2) := by
  induction l generalizing s with
  | nil => rfl
  | cons x l ih =>
    rw [List.map_cons, List.foldl_cons, List.foldl_cons, putStep_map f r x hr (hl x (by simp)) s]
    exact ih (fun y hy => hl y (by simp [hy])) _
theorem putG_map {α β : Type} {na : α → ByteArray} {nb : β → ByteArray} (f : α → β) (r : α) (hr : nb (f r) = na r) (l : List α) (hl : ∀ x ∈ l, nb (f x) = na x) : putG nb (l.map f) (f r) = (putG na l r).map f := by
  have h := putFold_map f r hr l hl ([], false)
  have h' : putFold nb (l.map f) (f r) = ((putFold na l r).1.map f, (putFold na l r).2) := h
  unfold putG
  rw [h']
  simp only []
  split
  · rfl
  · rw [List.map_append]; rfl
theorem putStep_len {α : Type} (nm : α → ByteArray) (r x : α) (s : List α × Bool) : (putStep nm r s x).1.length ≤ s.1.length + 2 := by
  unfold putStep
  split
  · split <;> simp
  · split <;> simp
theorem putFold_len {α : Type} (nm : α → ByteArray) (r : α) (l : List α) (s : List α × Bool) : (l.foldl (putStep nm r) s).1.length ≤ s.1.length + 2 * l.length := by
  induction l generalizing s with
  | nil => simp
  | cons x l ih =>
    have h1 := ih (putStep nm r s x)
    have h2 := putStep_len nm r x s
    rw [List.foldl_cons, List.length_cons]
    omega
theorem RPs.put {w : World} {N : Nat → Prop} {ps : List RP} {l : List RRec} {p : RP} {x : RRec} (h : RPs w N ps l) (h1 : p.name = x.name) (h2 : p.num = x.num) (h3 : p.slot = x.slot) (h4 : p.l = x.data.length) (h5 : DataZ w N (.slice p.a p.l p.c) x.data) : RPs w N (putG RP.name ps p) (putG RRec.name l x) := by
  obtain ⟨q, rfl, rfl, hq⟩ := h
  have e1 := putG_map (na := fun z : RP × RRec => z.1.name) (nb := RP.name) (·.1) (p, x) rfl q (fun _ _ => rfl)
  have e2 := putG_map (na := fun z : RP × RRec => z.1.name) (nb := RRec.name) (·.2) (p, x) h1.symm q (fun z hz => (hq z hz).1.symm)
  refine ⟨putG (fun z : RP × RRec => z.1.name) q (p, x), e1, e2, ?_⟩
  have hstep : ∀ (l : List (RP × RRec)) (s : List (RP × RRec) × Bool), (∀ z ∈ l, z.1.name = z.2.name ∧ z.1.num = z.2.num ∧ z.1.slot = z.2.slot ∧ z.1.l = z.2.data.length ∧ DataZ w N (.slice z.1.a z.1.l z.1.c) z.2.data) → (∀ z ∈ s.1, z.1.name = z.2.name ∧ z.1.num = z.2.num ∧ z.1.slot = z.2.slot ∧ z.1.l = z.2.data.length ∧ DataZ w N (.slice z.1.a z.1.l z.1.c) z.2.data) →
      ∀ z ∈ (l.foldl (putStep (fun z : RP × RRec => z.1.name) (p, x)) s).1, z.1.name = z.2.name ∧ z.1.num = z.2.num ∧ z.1.slot = z.2.slot ∧ z.1.l = z.2.data.length ∧ DataZ w N (.slice z.1.a z.1.l z.1.c) z.2.data := by
    intro l
    induction l with
    | nil => intro s _ hs; exact hs
    | cons y l ih =>
      intro s hl hs
      rw [List.foldl_cons]
      refine ih _ (fun z hz => hl z (by simp [hz])) (fun z hz => ?_)
      have hpx : ∀ z ∈ s.1 ++ [(p, x)], z.1.name = z.2.name ∧ z.1.num = z.2.num ∧ z.1.slot = z.2.slot ∧ z.1.l = z.2.data.length ∧ DataZ w N (.slice z.1.a z.1.l z.1.c) z.2.data := fun z hz => by
        rcases List.mem_append.1 hz with hz | hz
        · exact hs z hz
        · rw [List.mem_singleton.1 hz]; exact ⟨h1, h2, h3, h4, h5⟩
      unfold putStep at hz
      split at hz
      · split at hz
        · exact hpx z hz
        · exact hs z hz
      · simp only [] at hz
        rcases List.mem_append.1 hz with hz | hz
        · split at hz
          · exact hpx z hz
          · exact hs z hz
        · rw [List.mem_singleton.1 hz]; exact hl y (by simp)
  have hf := hstep q ([], false) hq (fun _ h => by cases h)
  intro z hz
  unfold putG at hz
  split at hz
  · exact hf z hz
  · rcases List.mem_append.1 hz with hz | hz
    · exact hf z hz
    · rw [List.mem_singleton.1 hz]; exact ⟨h1, h2, h3, h4, h5⟩
end Go.Mem
namespace Go.Proofs.YtehgnkdfnnebcaaGreatDoor
open Go Go.RowKit Go.Mem Gf
set_option linter.unusedVariables false
theorem EK10 : ElemK Tryz.prog 69 73 (.agg #[.string ⟨#[]⟩, .int .i64 0, .slice none 0 0, .int .i64 0]) 4 56 := ⟨Tryz.underlying69, by kernel_rfl, rfl, by decide⟩
theorem putFold_snoc (ps : List RP) (p x : RP) {i : Nat} (hx : ps[i]? = some x) : putFold RP.name (ps.take (i + 1)) p = putStep RP.name p (putFold RP.name (ps.take i) p) x := by
  unfold putFold
  rw [List.take_add_one, hx]
  simp
attribute [local go_sem ↓] Go.wp_at_zero Go.wp_at_succ
set_option maxRecDepth 20000 in
set_option maxHeartbeats 4000000 in
theorem rputl_calls (w : World) (v : Value) (ps : List RP) (p : RP) (hrow : RowR w (fun _ => False) v ps) (hn : ps.length ≤ 1024) :
    Calls Tryz.prog 50 #[v, .agg (eR p).toArray] w fun e w' => ∃ v', e = .returned v' ∧ OwnG eR WfR 4 73 w' w.heap.size v' (putG RP.name ps p) ∧ Below w.heap.size w w' := by
  have hrow' := hrow
  obtain ⟨a, c, rfl, h1, h2, h3⟩ := hrow
  obtain ⟨n, hnn⟩ : ∃ n, n = ps.length := ⟨_, rfl⟩
  rw [← hnn] at hn h1 h3 hrow' ⊢
  have HR := Lib.hid (And.intro hrow' (And.intro h3 hnn))
  clear hrow' h3 hnn h2 h1
  go_enter Tryz.func50, Tryz.ntmps50
  go_upto_region 4 with fail
  obtain ⟨p3, hp3⟩ : ∃ q, q = w.heap.size := ⟨_, rfl⟩
  rw [← hp3]
  obtain ⟨w1, hw1⟩ : ∃ q, q = w.alloc (.cells (eR p).toArray 73) := ⟨_, rfl⟩
  rw [← hw1]
  have hk3 : Blk w1 p3 (eR p).toArray 73 := by rw [hw1, hp3]; exact Blk.new _ _ _
  have hb1 : Below w.heap.size w w1 := by rw [hw1]; exact (Below.refl _ _).alloc (Nat.le_refl _) _
  have hz1 : w1.heap.size = p3 + 1 := by rw [hw1, hp3]; simp
  have H1 := Lib.hid (And.intro hk3 (And.intro hb1 (And.intro hz1 hp3)))
  clear hk3 hb1 hz1 hp3 hw1
  go_loopw [5, 6, 10] (fun u d v wr => ∃ (i : Nat), i ≤ n ∧ v = .int .i64 i ∧ d = .bool (putFold RP.name (ps.take i) p).2 ∧ Hid (OwnG eR WfR 4 73 wr (p3 + 1) u (putFold RP.name (ps.take i) p).1 ∧ Below w1.heap.size w1 wr)) (fun _ _ v _ => n - (intOf v).toNat)
  case atStart => exact ⟨0, Nat.zero_le _, rfl, rfl, OwnG.nil _ _ _ _ _ _, Below.refl _ _⟩
  case round =>
    obtain ⟨i, hi, rfl, rfl, G⟩ := hrel
    have hwr : Below w.heap.size w wr := H1.out.2.1.trans (G.out.2.mono H1.out.2.1.size)
    have HWR := Lib.hid hwr
    clear hwr
    by_cases h0 : i < n
    · obtain ⟨x, hx⟩ : ∃ x, ps[i]? = some x := ⟨ps[i]'(by have := HR.out.2.2; omega), by simp⟩
      obtain ⟨b, off, ha, hbl, _, hc⟩ := HR.out.2.1 (by omega)
      have hst := putFold_snoc ps p x hx
      obtain ⟨l1, hl1⟩ : ∃ l, l = (putFold RP.name (ps.take i) p).1 := ⟨_, rfl⟩
      obtain ⟨d1, hd1⟩ : ∃ d, d = (putFold RP.name (ps.take i) p).2 := ⟨_, rfl⟩
      have hlen : l1.length ≤ 3000 := by
        have := putFold_len RP.name p (ps.take i) ([], false)
        rw [hl1]
        unfold putFold
        simp only [List.length_nil, List.length_take] at this ⊢
        omega
      rw [← hd1]
      have hG : OwnG eR WfR 4 73 wr (p3 + 1) u5 l1 := by rw [hl1]; exact G.out.1
      have hcx : ∀ (w' : World), Below w.heap.size w w' → ∀ k y, (eR x)[k]? = some y → w'.cell? ⟨b, off + i * 4 + k, none⟩ = some y := fun w' hb k y hy => by
        have := hc i x hx k y hy
        have hk : w'.cell? ⟨b, off + i * 4 + k, none⟩ = w.cell? ⟨b, off + i * 4 + k, none⟩ := by
          unfold World.cell?
          rw [hb.block b hbl]
        rw [hk]; exact this
      have hcp : ∀ (w' : World), Below w1.heap.size w1 w' → ∀ k y, (eR p)[k]? = some y → w'.cell? ⟨p3, k, none⟩ = some y := fun w' hb k y hy => by
        rw [(H1.out.1.kept hb).cell, List.getElem?_toArray]; exact hy
      subst ha
      have i0 : (0 : Int) ≤ (i : Int) := by omega
      have i1 : (i : Int) < (n : Int) := by omega
      have HX := Lib.hid (And.intro hst (And.intro hl1 (And.intro hd1 (And.intro hlen (And.intro hcx hcp)))))
      have HG := Lib.hid (And.intro hG G.out.2)
      have HI := Lib.hid h0
      clear hst hl1 hd1 hlen hG hcx hcp hx hc hbl h0
      obtain ⟨lt, hlt⟩ : ∃ q, q = Op.bytesLess x.name.toList p.name.toList := ⟨_, rfl⟩
      obtain ⟨eq, heq⟩ : ∃ q, q = (x.name.toList == p.name.toList) := ⟨_, rfl⟩
      have HLT := Lib.hid (And.intro hlt heq)
      go_upto_region 6 with fail
      go_cut [24] (fun vb wx => vb = .bool (!d1 && !lt) ∧ Hid (∃ k, wx = wr.drewN k))
      case first =>
        have cx := HX.out.2.2.2.2.1 wr HWR.out 0 _ rfl
        have cp := HX.out.2.2.2.2.2 wr G.out.2 0 _ rfl
        rw [Nat.add_zero] at cx
        clear heq
        subst hlt
        cases d1 with
        | true =>
          go_quiet (fail)
          go_wp2_with fail
          go_meet
          exact ⟨rfl, _, rfl⟩
        | false =>
          go_quiet (fail)
          go_wp2_with fail
          go_meet
          exact ⟨rfl, _, rfl⟩
      case rest =>
      clear hlt heq
      obtain ⟨rfl, hk⟩ := hcut
      obtain ⟨w6, hw6⟩ : ∃ q, q = wc := ⟨_, rfl⟩
      subst hw6
      obtain ⟨k6, hk6⟩ := hk.out
      clear hk
      have hbk : Below wr.heap.size wr w6 := by rw [hk6]; exact below_drewN (Below.refl _ _) _
      obtain ⟨b1, hb1⟩ : ∃ q, q = (!d1 && !lt) := ⟨_, rfl⟩
      rw [← hb1]
      have hgc : OwnG eR WfR 4 73 w6 (p3 + 1) u5 l1 := by rw [hk6]; exact HG.out.1.drewN _
      have HC := Lib.hid (And.intro hgc (And.intro hbk hb1))
      clear hk6 hbk hb1 hgc
      go_upto_if 24 with fail
      go_cut [5, 6] (fun u d wx => d = .bool (b1 || d1) ∧ Hid (OwnG eR WfR 4 73 wx (p3 + 1) u (if b1 then l1 ++ [p] else l1) ∧ Below w1.heap.size w1 wx))
      case first =>
        have hbc : Below w1.heap.size w1 w6 := HG.out.2.trans (HC.out.2.1.mono HG.out.2.size)
        have HBC := Lib.hid hbc
        clear hbc
        cases b1 with
        | true =>
          have cp0 := HX.out.2.2.2.2.2 w6 HBC.out 0 _ rfl
          have cp1 := HX.out.2.2.2.2.2 w6 HBC.out 1 _ rfl
          have cp2 := HX.out.2.2.2.2.2 w6 HBC.out 2 _ rfl
          have cp3 := HX.out.2.2.2.2.2 w6 HBC.out 3 _ rfl
          have hll := HX.out.2.2.2.1
          have hz := HBC.out.size
          have hz1 := H1.out.2.2.1
          go_wp2_with (at_builtin; refine appG_own EK10 ecR rfl _ _ rfl (base := p3 + 1) (l := l1) p trivial rfl (mb := w6.heap.size) (cx := 1) rfl (show Blk _ _ (eR p).toArray 73 from Blk.new _ _ _) (HC.out.1.chg (Chg.of_below (S := fun _ => False) ((Below.refl _ _).alloc (Nat.le_refl _) _)) (fun _ _ h => h)) (by omega) (by decide) ?z1 ?_)
          case z1 => first | omega | (simp; omega)
          intro v8 w8 ho8 hg8 hn8
          have hb8 : Below w1.heap.size w1 w8 := by
            have hcc := Chg.grown (S := fun b => p3 + 1 ≤ b) (Chg.of_below (S := fun b => p3 + 1 ≤ b) (HBC.out.trans (((Below.refl w6.heap.size w6).alloc (Nat.le_refl _) _).mono hz))) hg8 (fun k hk => .inl (HC.out.1.ge hk))
            exact hcc.below (Nat.le_refl _) (fun k hk => by omega)
          have H8 := Lib.hid (And.intro ho8 hb8)
          clear ho8 hg8 hn8 hb8
          go_wp2_with fail
          go_meet
          exact ⟨rfl, H8.out⟩
        | false =>
          go_wp2_with fail
          go_meet
          exact ⟨rfl, HC.out.1, HBC.out⟩
      case rest =>
      obtain ⟨rfl, hG2⟩ := hcut
      obtain ⟨w7, hw7⟩ : ∃ q, q = wc := ⟨_, rfl⟩
      subst hw7
      obtain ⟨v5, hv5⟩ : ∃ q, q = u5 := ⟨_, rfl⟩
      subst hv5
      obtain ⟨l2, hl2⟩ : ∃ q, q = (if b1 then l1 ++ [p] else l1) := ⟨_, rfl⟩
      rw [← hl2] at hG2
      have hlen2 : l2.length ≤ 3001 := by
        have := HX.out.2.2.2.1
        rw [hl2]
        split
        · rw [List.length_append, List.length_singleton]; omega
        · omega
      have H7 := Lib.hid (And.intro hG2.out.1 (And.intro hG2.out.2 (And.intro (H1.out.2.1.trans (hG2.out.2.mono H1.out.2.1.size)) (And.intro hl2 hlen2))))
      clear hG2 hl2 hlen2
      have heq := HLT.out.2
      go_upto_region 9 with fail
      go_cut [36] (fun vb wx => vb = .bool (!eq) ∧ Hid (∃ k, wx = w7.drewN k))
      case first =>
        have cx := HX.out.2.2.2.2.1 w7 H7.out.2.2.1 0 _ rfl
        have cp := HX.out.2.2.2.2.2 w7 H7.out.2.1 0 _ rfl
        rw [Nat.add_zero] at cx
        subst heq
        go_quiet (fail)
        go_wp2_with fail
        go_meet
        exact ⟨by rfl, _, rfl⟩
      case rest =>
      clear heq
      obtain ⟨rfl, hk⟩ := hcut
      obtain ⟨w8, hw8⟩ : ∃ q, q = wc := ⟨_, rfl⟩
      subst hw8
      obtain ⟨k8, hk8⟩ := hk.out
      clear hk
      have hbk : Below w7.heap.size w7 w8 := by rw [hk8]; exact below_drewN (Below.refl _ _) _
      have hgc : OwnG eR WfR 4 73 w8 (p3 + 1) v5 l2 := by rw [hk8]; exact H7.out.1.drewN _
      have H9 := Lib.hid (And.intro hgc (And.intro (H7.out.2.1.trans (hbk.mono H7.out.2.1.size)) (H7.out.2.2.1.trans (hbk.mono H7.out.2.2.1.size))))
      clear hk8 hbk hgc
      have hfin : ∀ (u : Value) (w' : World), OwnG eR WfR 4 73 w' (p3 + 1) u (if eq then l2 else l2 ++ [x]) → Below w1.heap.size w1 w' → ((b1 || d1) = (putFold RP.name (ps.take (i + 1)) p).2) ∧ Hid (OwnG eR WfR 4 73 w' (p3 + 1) u (putFold RP.name (ps.take (i + 1)) p).1 ∧ Below w1.heap.size w1 w') := fun u w' h1 h2 => by
        have hs := HX.out.1
        have hb := HC.out.2.2
        have hsp : putFold RP.name (List.take i ps) p = (l1, d1) := Prod.ext HX.out.2.1.symm HX.out.2.2.1.symm
        rw [hs, hsp]
        unfold putStep
        rw [← HLT.out.1, ← HLT.out.2]
        rw [H7.out.2.2.2.1] at h1
        cases hd : d1 <;> cases hlt : lt <;> cases he : eq <;> rw [hd, hlt] at hb <;> subst hb <;> simp [he] at h1 ⊢ <;> exact ⟨h1, h2⟩
      have HFIN := Lib.hid hfin
      clear hfin
      have HWX := Lib.hid (And.intro (HX.out.2.2.2.2.1 w8 H9.out.2.2 0 _ rfl) (And.intro (HX.out.2.2.2.2.1 w8 H9.out.2.2 1 _ rfl) (And.intro (HX.out.2.2.2.2.1 w8 H9.out.2.2 2 _ rfl) (HX.out.2.2.2.2.1 w8 H9.out.2.2 3 _ rfl))))
      cases eq with
      | true =>
        go_wp2_with fail
        have hq := HFIN.out v5 w8 H9.out.1 H9.out.2.1
        exact ⟨⟨i + 1, by have := HI.out; omega, by go_num, by rw [hq.1], hq.2⟩, by have := HI.out; simp [intOf]; omega⟩
      | false =>
        have cx0 := HWX.out.1
        have cx1 := HWX.out.2.1
        have cx2 := HWX.out.2.2.1
        have cx3 := HWX.out.2.2.2
        rw [Nat.add_zero] at cx0
        have hll := H7.out.2.2.2.2
        have hz := H9.out.2.1.size
        have hz1 := H1.out.2.2.1
        go_wp2_with (at_builtin; refine appG_own EK10 ecR rfl _ _ rfl (base := p3 + 1) (l := l2) x trivial rfl (mb := w8.heap.size) (cx := 1) rfl (show Blk _ _ (eR x).toArray 73 from Blk.new _ _ _) (H9.out.1.chg (Chg.of_below (S := fun _ => False) ((Below.refl _ _).alloc (Nat.le_refl _) _)) (fun _ _ h => h)) (by omega) (by decide) ?z2 ?_)
        case z2 => first | omega | (simp; omega)
        intro v9 w9 ho9 hg9 hn9
        have hb9 : Below w1.heap.size w1 w9 := by
          have hcc := Chg.grown (S := fun b => p3 + 1 ≤ b) (Chg.of_below (S := fun b => p3 + 1 ≤ b) (H9.out.2.1.trans (((Below.refl w8.heap.size w8).alloc (Nat.le_refl _) _).mono hz))) hg9 (fun k hk => .inl (H9.out.1.ge hk))
          exact hcc.below (Nat.le_refl _) (fun k hk => by omega)
        have hq := HFIN.out v9 w9 ho9 hb9
        have HQ := Lib.hid hq
        clear ho9 hg9 hn9 hb9 hq cx0 cx1 cx2 cx3
        go_wp2_with fail
        exact ⟨⟨i + 1, by have := HI.out; omega, by go_num, by rw [HQ.out.1], HQ.out.2⟩, by have := HI.out; simp [intOf]; omega⟩
    · obtain rfl : n = i := by omega
      have hall : ps.take n = ps := List.take_of_length_le (by have := HR.out.2.2; omega)
      rw [hall] at G ⊢
      obtain ⟨l1, hl1⟩ : ∃ l, l = (putFold RP.name ps p).1 := ⟨_, rfl⟩
      obtain ⟨d1, hd1⟩ : ∃ d, d = (putFold RP.name ps p).2 := ⟨_, rfl⟩
      rw [← hd1]
      have hlen : l1.length ≤ 3000 := by
        have := putFold_len RP.name p ps ([], false)
        rw [hl1]
        unfold putFold
        have h2 := HR.out.2.2
        simp only [List.length_nil] at this ⊢
        omega
      have hput : putG RP.name ps p = if d1 = true then l1 else l1 ++ [p] := by
        unfold putG
        rw [← hl1, ← hd1]
      have hG : OwnG eR WfR 4 73 wr (p3 + 1) u5 l1 := by rw [hl1]; exact G.out.1
      have HP := Lib.hid (And.intro hput (And.intro hlen (And.intro hG G.out.2)))
      clear h0 hi hall hl1 hd1 hlen hput hG G
      obtain ⟨v5, hv5⟩ : ∃ q, q = u5 := ⟨_, rfl⟩
      subst hv5
      cases d1 with
      | true =>
        have HQ := Lib.hid (show putG RP.name ps p = l1 from by rw [HP.out.1, if_pos rfl])
        go_wp2_with fail
        go_ret
        rw [HQ.out]
        exact ⟨v5, rfl, HP.out.2.2.1.lower (by have := H1.out.2.2.2; omega), HWR.out⟩
      | false =>
        have HQ := Lib.hid (show putG RP.name ps p = l1 ++ [p] from by rw [HP.out.1, if_neg (by decide)])
        have cp0 : wr.cell? ⟨p3, 0, none⟩ = some (.string p.name) := (H1.out.1.kept HP.out.2.2.2).cell 0
        have cp1 : wr.cell? ⟨p3, 1, none⟩ = some (.int .i64 p.num) := (H1.out.1.kept HP.out.2.2.2).cell 1
        have cp2 : wr.cell? ⟨p3, 2, none⟩ = some (.slice p.a p.l p.c) := (H1.out.1.kept HP.out.2.2.2).cell 2
        have cp3 : wr.cell? ⟨p3, 3, none⟩ = some (.int .i64 p.slot) := (H1.out.1.kept HP.out.2.2.2).cell 3
        have hll := HP.out.2.1
        have hz := HP.out.2.2.2.size
        have hz1 := H1.out.2.2.1
        go_wp2_with (at_builtin; refine appG_own EK10 ecR rfl _ _ rfl (base := p3 + 1) (l := l1) p trivial rfl (mb := wr.heap.size) (cx := 1) rfl (show Blk _ _ (eR p).toArray 73 from Blk.new _ _ _) (HP.out.2.2.1.chg (Chg.of_below (S := fun _ => False) ((Below.refl _ _).alloc (Nat.le_refl _) _)) (fun _ _ h => h)) (by omega) (by decide) ?z3 ?_)
        case z3 => first | omega | (simp; omega)
        intro v9 w9 ho9 hg9 hn9
        have hb9 : Below w1.heap.size w1 w9 := by
          have hcc := Chg.grown (S := fun b => p3 + 1 ≤ b) (Chg.of_below (S := fun b => p3 + 1 ≤ b) (HP.out.2.2.2.trans (((Below.refl wr.heap.size wr).alloc (Nat.le_refl _) _).mono hz))) hg9 (fun k hk => .inl (HP.out.2.2.1.ge hk))
          exact hcc.below (Nat.le_refl _) (fun k hk => by omega)
        have H9 := Lib.hid (And.intro ho9 hb9)
        clear ho9 hg9 hn9 hb9 cp0 cp1 cp2 cp3
        go_wp2_with fail
        go_ret
        rw [HQ.out]
        exact ⟨v9, rfl, H9.out.1.lower (by have := H1.out.2.2.2; omega), H1.out.2.1.trans (H9.out.2.mono H1.out.2.1.size)⟩
end Go.Proofs.YtehgnkdfnnebcaaGreatDoor
end
section
namespace Go.Mem
open Go Go.RowKit Gf Go.Proofs.YtehgnkdfnnebcaaGreatDoor
set_option linter.unusedVariables false
def rchunks (at_ : Nat) : Nat → DiskS → Nat → List UInt8 → Bool × DiskS
  | 0, D, _, _ => (true, D)
  | n + 1, D, k, b => if b = [] then (true, D) else if D.wres ((at_ + 1 + k : Nat) : Int) (b.take 32).length ≠ 0 then (false, D.wr ((at_ + 1 + k : Nat) : Int) (b.take 32)) else rchunks at_ n (D.wr ((at_ + 1 + k : Nat) : Int) (b.take 32)) (k + 1) (b.drop 32)
theorem rchunks_n (at_ : Nat) : ∀ (n : Nat) (D : DiskS) (k : Nat) (b : List UInt8), (rchunks at_ n D k b).2.n = D.n
  | 0, _, _, _ => rfl
  | n + 1, D, k, b => by
    rw [rchunks]
    split
    · rfl
    · split
      · exact DiskS.wr_n _ _ _
      · rw [rchunks_n at_ n, DiskS.wr_n]
def rnum (L : List RRec) (name : ByteArray) : Nat := match rfind L name L.length with
  | none => 1
  | some i => (L[i]?).elim 1 (·.num + 1)
def rslot (L : List RRec) (i : Nat) : Nat := (L[i]?).elim 0 (·.slot)
def rputR (slots room : Nat) (D : DiskS) (L : List RRec) (died : Bool) (name : ByteArray) (data : List UInt8) : Int × DiskS × List RRec × Bool :=
  if died = true then (8, D, L, died) else if fitsB room name data = false then (1, D, L, died) else
  match rfreeGo L slots slots with
  | none => (3, D, L, died)
  | some sl =>
    if (rchunks (sl * (room + 1)) (room + 1) D 0 (Sto.text name (rnum L name) data)).1 = false then (8, (rchunks (sl * (room + 1)) (room + 1) D 0 (Sto.text name (rnum L name) data)).2, L, true) else
    if (rchunks (sl * (room + 1)) (room + 1) D 0 (Sto.text name (rnum L name) data)).2.wres ((sl * (room + 1) : Nat) : Int) 1 ≠ 0 then (8, (rchunks (sl * (room + 1)) (room + 1) D 0 (Sto.text name (rnum L name) data)).2.wr ((sl * (room + 1) : Nat) : Int) [1], L, true) else
    match rfind L name L.length with
    | none => (0, (rchunks (sl * (room + 1)) (room + 1) D 0 (Sto.text name (rnum L name) data)).2.wr ((sl * (room + 1) : Nat) : Int) [1], putG RRec.name L ⟨name, rnum L name, data, sl⟩, false)
    | some i =>
      if ((rchunks (sl * (room + 1)) (room + 1) D 0 (Sto.text name (rnum L name) data)).2.wr ((sl * (room + 1) : Nat) : Int) [1]).wres ((rslot L i * (room + 1) : Nat) : Int) 0 ≠ 0 then
        (8, ((rchunks (sl * (room + 1)) (room + 1) D 0 (Sto.text name (rnum L name) data)).2.wr ((sl * (room + 1) : Nat) : Int) [1]).wr ((rslot L i * (room + 1) : Nat) : Int) [], L, true)
      else (0, ((rchunks (sl * (room + 1)) (room + 1) D 0 (Sto.text name (rnum L name) data)).2.wr ((sl * (room + 1) : Nat) : Int) [1]).wr ((rslot L i * (room + 1) : Nat) : Int) [], putG RRec.name L ⟨name, rnum L name, data, sl⟩, false)
theorem putG_mem {α : Type} (nm : α → ByteArray) (l : List α) (r : α) : ∀ x ∈ putG nm l r, x ∈ l ∨ x = r := by
  have h : ∀ (l' : List α) (s : List α × Bool), (∀ x ∈ s.1, x ∈ l ∨ x = r) → (∀ x ∈ l', x ∈ l) → ∀ x ∈ (l'.foldl (putStep nm r) s).1, x ∈ l ∨ x = r := by
    intro l'
    induction l' with
    | nil => intro s hs _; exact hs
    | cons y l' ih =>
      intro s hs hl
      rw [List.foldl_cons]
      refine ih _ (fun x hx => ?_) (fun x hx => hl x (by simp [hx]))
      have hp : ∀ x ∈ s.1 ++ [r], x ∈ l ∨ x = r := fun x hx => by
        rcases List.mem_append.1 hx with hx | hx
        · exact hs x hx
        · exact .inr (List.mem_singleton.1 hx)
      unfold putStep at hx
      split at hx
      · split at hx
        · exact hp x hx
        · exact hs x hx
      · simp only [] at hx
        rcases List.mem_append.1 hx with hx | hx
        · split at hx
          · exact hp x hx
          · exact hs x hx
        · rw [List.mem_singleton.1 hx]; exact .inl (hl y (by simp))
  have hf := h l ([], false) (fun _ h => by cases h) (fun _ h => h)
  intro x hx
  unfold putG at hx
  split at hx
  · exact hf x hx
  · rcases List.mem_append.1 hx with hx | hx
    · exact hf x hx
    · exact .inr (List.mem_singleton.1 hx)
end Go.Mem
namespace Go.Proofs.YtehgnkdfnnebcaaGreatDoor
open Go Go.RowKit Go.Mem Gf
set_option linter.unusedVariables false
set_option linter.unusedSimpArgs false
attribute [local go_sem ↓] Go.wp_at_zero Go.wp_at_succ
theorem appX_ex {P : Program} {t e : TypeId} (E : Elem P t e (.int .u8 0) 1) {o : Oper} {a : Act} {w : World} (s x : Operand) (ho : o.op = .call { callee := .builtin .append, args := #[s, x], argTypes := #[t, t] })
    {base : Nat} {v xv : Value} {bs news : List UInt8} (hs : a.eval s = v) (hx : a.eval x = xv) (hown : OwnX e w base v bs) (hb : Bys w xv news) (hn : bs.length + news.length ≤ 140737488355328) (hbase : base ≤ w.heap.size) {R : Value → World → Prop}
    (h : ∀ v' w', OwnX e w' base v' (bs ++ news) → w.grownBy w' v.ownBlock → R v' w') : ∃ v' w', (execOp a.eval o).run P w = .ok (.value v') w' ∧ R v' w' := by
  obtain ⟨v', w', hr, h2, h3⟩ := run_appX E o.type hown hb hn hbase
  refine ⟨v', w', ?_, h v' w' h2 h3⟩
  unfold execOp
  simp only [ho, resolve, invoke, builtin, Sem.run_bind, Sem.run_pure, Result.andThen_ok, List.map_toArray, List.map_cons, List.map_nil, hs, hx, hr]
theorem bys_nil10 (w : World) : Bys w (.slice none 0 0) [] := (OwnX.nil 5 w 0).bys
set_option maxRecDepth 20000 in
set_option maxHeartbeats 8000000 in
theorem rsput_calls (w : World) (N : Nat → Prop) (q r B : Nat) (lv : Value) (ps : List RP) (D : DiskS) (slots room : Nat) (L : List RRec) (died : Bool) (h : RStore w N q r B lv ps D slots room L died) (name : ByteArray) (v : Value) (data : List UInt8) (hb : DataZ w N v data) (hname : name.size ≤ 1000000) (hN : ∀ b, N b → b < w.heap.size) (hfew : D.writes < 4611686018427000000) (hlen : ∀ sl, rfreeGo L slots slots = some sl → (putG RRec.name L ⟨name, rnum L name, data, sl⟩).length ≤ slots) (hnum : rnum L name < 1000000000000) :
    Calls Tryz.prog 36 #[.pointer (some ⟨q, 0, none⟩), .string name, v] w fun e w' => ∃ lv' ps', e = .returned (.int .i64 (rputR slots room D L died name data).1) ∧ RStore w' N q r B lv' ps' (rputR slots room D L died name data).2.1 slots room (rputR slots room D L died name data).2.2.1 (rputR slots room D L died name data).2.2.2 ∧ Chg (FootR q r B) w w' := by
  have c4 : w.cell? ⟨q, 4, none⟩ = some (.bool died) := h.blk.cell 4
  obtain ⟨da, dc, rfl⟩ := hb.1.eq_slice
  obtain ⟨dl, hdl⟩ : ∃ x, x = data.length := ⟨_, rfl⟩
  rw [← hdl] at hb ⊢
  have H := Lib.hid (And.intro h (And.intro hb (And.intro hN (And.intro hfew (And.intro hname hdl)))))
  have HL := Lib.hid (And.intro hlen hnum)
  clear h hb hN hfew hname hdl hlen hnum
  go_enter Tryz.func36, Tryz.ntmps36
  cases died with
  | true =>
    have HQ := Lib.hid (show rputR slots room D L true name data = (8, D, L, true) from by unfold rputR; rw [if_pos rfl])
    go_wp2_with fail
    go_ret
    rw [HQ.out]
    exact ⟨lv, ps, rfl, H.out.1, Chg.refl _ _⟩
  | false =>
    go_wp2_with fail
    refine (rfits_calls w N q r B lv ps D slots room L false H.out.1 name _ data H.out.2.1.1 (by have := H.out.2.2.2.2.1; omega)).mono ?_
    rintro e w1 ⟨rfl, hb1⟩
    cases hfit : fitsB room name data with
    | false =>
      have HQ := Lib.hid (show rputR slots room D L false name data = (1, D, L, false) from by unfold rputR; rw [if_neg (by decide), if_pos hfit])
      have HB := Lib.hid hb1
      clear hfit hb1
      go_wp2_with fail
      go_ret
      rw [HQ.out]
      exact ⟨lv, ps, rfl, H.out.1.below HB.out, Chg.of_below HB.out⟩
    | true =>
      have h1 := H.out.1.below hb1
      have hd1 := H.out.2.1.chg (S := fun _ => False) (Chg.of_below hb1) (fun _ h => h.elim)
      have H1 := Lib.hid (And.intro h1 (And.intro hd1 (And.intro hb1 hfit)))
      clear h1 hd1 hb1 hfit
      go_wp2_with fail
      refine (rfree10_calls w1 N q r B lv ps D slots room L false H1.out.1).mono ?_
      rintro e w2 ⟨rfl, rfl⟩
      cases hsl : rfreeGo L slots slots with
      | none =>
        have HQ := Lib.hid (show rputR slots room D L false name data = (3, D, L, false) from by unfold rputR; rw [if_neg (by decide), if_neg (by rw [H1.out.2.2.2]; decide), hsl])
        clear hsl
        simp only [optI]
        go_wp2_with fail
        go_ret
        rw [HQ.out]
        exact ⟨lv, ps, rfl, H1.out.1, Chg.of_below H1.out.2.2.1⟩
      | some sl =>
        have hslt := (rfreeGo_lt hsl).1
        have HSL := Lib.hid (And.intro hsl hslt)
        have s0 : decide ((sl : Int) < 0) = false := by simp
        clear hsl hslt
        simp only [optI]
        go_wp2_with fail
        refine (rfind_calls w1 N q r B lv ps D slots room L false H1.out.1 name).mono ?_
        rintro e w2 ⟨rfl, rfl⟩
        obtain ⟨o, ho⟩ : ∃ o, o = rfind L name L.length := ⟨_, rfl⟩
        rw [← ho]
        obtain ⟨nm, hnm⟩ : ∃ n, n = rnum L name := ⟨_, rfl⟩
        have hn1 : nm < 1000000000000 := by rw [hnm]; exact HL.out.2
        have HO := Lib.hid (And.intro ho hnm)
        have hlo : ∀ i, o = some i → ∃ x, L[i]? = some x ∧ nm = x.num + 1 := fun i hi => by
          obtain ⟨_, x, hx, _⟩ := rfind_lt (ho.symm.trans hi)
          refine ⟨x, hx, ?_⟩
          rw [hnm]
          unfold rnum
          rw [← ho, hi]
          simp only [hx]
          rfl
        have hno : o = none → nm = 1 := fun hi => by
          rw [hnm]
          unfold rnum
          rw [← ho, hi]
        have HLO := Lib.hid (And.intro hlo hno)
        clear ho hnm hlo hno
        go_upto_if 30 with fail
        go_cut [9] (fun v wx => v = .int .i64 nm ∧ w1 = wx)
        case first =>
          cases o with
          | none =>
            have hq := HLO.out.2 rfl
            subst hq
            simp only [optI]
            go_wp2_with fail
            go_meet
            exact ⟨rfl, rfl⟩
          | some i =>
            obtain ⟨x, hx, hq⟩ := HLO.out.1 i rfl
            have c3 : w1.cell? ⟨q, 3, none⟩ = some lv := H1.out.1.blk.cell 3
            obtain ⟨a, c, rfl, h1, h2, h3⟩ := id H1.out.1.row
            obtain ⟨p, hp, e1, e2, _⟩ := H1.out.1.recs.at hx
            obtain ⟨b, off, ha, _, _, hc⟩ := h3 (by have := (List.getElem?_eq_some_iff.1 hp).1; omega)
            have cx := hc i p hp 1 (.int .i64 p.num) rfl
            subst ha
            rw [e2] at cx
            have hil := (List.getElem?_eq_some_iff.1 hp).1
            have i0 : (0 : Int) ≤ (i : Int) := by omega
            have i2 : decide ((0 : Int) ≤ (i : Int)) = true := by simp
            obtain ⟨n, hnn⟩ : ∃ n, n = ps.length := ⟨_, rfl⟩
            rw [← hnn] at c3 hil
            have i1 : (i : Int) < (n : Int) := by omega
            have i3 : IntKind.i64.wrap ((x.num : Int) + 1) = (nm : Int) := by rw [hq]; push_cast; exact IntWalk.i64_in _ (by omega)
            clear hp hc h3 h1 h2 hx e1 e2 hnn hq
            simp only [optI]
            go_wp2_with fail
            go_meet
            exact ⟨rfl, rfl⟩
        case rest =>
        obtain ⟨rfl, rfl⟩ := hcut
        go_wp2_with fail
        refine (rtext_calls name nm _ data w1 H1.out.2.1.1 H.out.2.2.2.2.1 (by omega) (by have := H1.out.2.2.2; unfold fitsB at this; simp at this; omega)).mono ?_
        rintro e w3 ⟨v3, rfl, ho3, hb3⟩
        obtain ⟨T, hT⟩ : ∃ T, T = Sto.text name nm data := ⟨_, rfl⟩
        rw [← hT] at ho3
        obtain ⟨ta, tc, rfl⟩ := ho3.eq_slice
        obtain ⟨tl, htl⟩ : ∃ n, n = T.length := ⟨_, rfl⟩
        rw [← htl] at ho3 ⊢
        have htl2 : tl ≤ room * 32 := by
          have := H1.out.2.2.2
          unfold fitsB at this
          simp only [Bool.and_eq_true, decide_eq_true_eq] at this
          have hl : (Sto.text name nm data).length = (Sto.text name 0 data).length := by
            simp only [Sto.text, Cod.nets, List.length_append, Cod.net_len, Cod.be_len, List.length_nil]
          rw [htl, hT, hl]
          exact this.2.2
        obtain ⟨A, hA⟩ : ∃ n, n = sl * (room + 1) := ⟨_, rfl⟩
        have hr1 := H1.out.1.r1
        have hA2 : A ≤ 1024 * 1025 := by
          rw [hA]
          exact Nat.mul_le_mul (by have := HSL.out.2; have := H1.out.1.s1; omega) (by omega)
        have q1 : IntKind.i64.wrap ((room : Int) + 1) = (room : Int) + 1 := IntWalk.i64_in _ (by omega)
        have q2 : IntKind.i64.wrap ((sl : Int) * ((room : Int) + 1)) = (A : Int) := by
          have e2 : (sl : Int) * ((room : Int) + 1) = (A : Int) := by rw [hA]; push_cast; rfl
          rw [e2]
          exact IntWalk.i64_in _ (by omega)
        have h3 := H1.out.1.below hb3
        have hd3 := H1.out.2.1.chg (S := fun _ => False) (Chg.of_below hb3) (fun _ h => h.elim)
        have c2 : w3.cell? ⟨q, 2, none⟩ = some (.int .i64 room) := h3.blk.cell 2
        have hTb : ∀ wr, Chg (FootR q r B) w3 wr → Bys wr (.slice ta tl tc) T := fun wr hc => (ho3.chg hc (fun g hg hS => by
          have h1 := (ho3.lt g hg).1
          have h2 := H.out.2.2.1 g (H.out.1.foot g hS)
          have h3 := H1.out.2.2.1.size
          omega)).bys
        have hTs : 0 < tl → ∃ g, ta = some ⟨g, 0, none⟩ ∧ tl ≤ tc ∧ tc ≤ maxLen := fun h0 => by
          rcases ho3 with ⟨_, e0⟩ | ⟨g, cap, arr, fz, e, _, _, _, h5, h6, _⟩
          · rw [e0] at htl; rw [List.length_nil] at htl; omega
          · injection e with e1 e2 e3
            exact ⟨g, e1, by omega, by omega⟩
        have HTB := Lib.hid (And.intro hTb hTs)
        clear hTb hTs
        have H3 := Lib.hid (And.intro h3 (And.intro hd3 (And.intro ho3 (And.intro (H1.out.2.2.1.trans (hb3.mono H1.out.2.2.1.size)) (And.intro hT (And.intro htl hA))))))
        have hzz := H1.out.2.2.1.size
        clear h3 hd3 ho3 hb3 hT htl hA
        go_wp2_with fail
        go_loopw [12] (fun v wr => ∃ (k : Nat) (D' : DiskS), v = .int .i64 k ∧ k ≤ room ∧ Hid (rchunks A (room + 1) D 0 T = rchunks A (room + 1 - k) D' k (T.drop (32 * k)) ∧ RStore wr N q r B lv ps D' slots room L false ∧ Chg (FootR q r B) w3 wr ∧ D'.writes ≤ D.writes + k)) (fun v _ => room + 1 - (intOf v).toNat)
        case atStart => exact ⟨0, D, rfl, Nat.zero_le _, rfl, H3.out.1, Chg.refl _ _, Nat.le_refl _⟩
        case round =>
          obtain ⟨k, D', rfl, hk, G⟩ := hrel
          have q3 : IntKind.i64.wrap ((k : Int) * 32) = ((k * 32 : Nat) : Int) := by
            rw [show (k : Int) * 32 = ((k * 32 : Nat) : Int) from by push_cast; rfl]
            exact IntWalk.i64_in _ (by omega)
          obtain ⟨kk, hkk⟩ : ∃ n, n = k * 32 := ⟨_, rfl⟩
          rw [← hkk] at q3
          by_cases h0 : kk < tl
          · have t0 : decide ((kk : Int) < (tl : Int)) = true := by simp; omega
            have t0' : decide (kk < tl) = true := by simp; omega
            obtain ⟨g, rfl, hc1, hc2⟩ := HTB.out.2 (by omega)
            obtain ⟨e, he⟩ : ∃ e, e = min tl (kk + 32) := ⟨_, rfl⟩
            have hmin : min (tl : Int) ((kk : Int) + 32) = (e : Int) := by omega
            have q4 : IntKind.i64.wrap ((k : Int) + 1) = (k : Int) + 1 := IntWalk.i64_in _ (by omega)
            have q5 : IntKind.i64.wrap (((k : Int) + 1) * 32) = (kk : Int) + 32 := by
              rw [show ((k : Int) + 1) * 32 = (kk : Int) + 32 from by omega]
              exact IntWalk.i64_in _ (by omega)
            obtain ⟨X, hX⟩ : ∃ X, X = A + 1 + k := ⟨_, rfl⟩
            have q6 : IntKind.i64.wrap ((A : Int) + 1) = (A : Int) + 1 := IntWalk.i64_in _ (by omega)
            have q7 : IntKind.i64.wrap ((A : Int) + 1 + (k : Int)) = (X : Int) := by
              rw [show (A : Int) + 1 + (k : Int) = (X : Int) from by omega]
              exact IntWalk.i64_in _ (by omega)
            have e1 : kk ≤ e := by omega
            have e2 : e ≤ tc := by omega
            have e1' : (kk : Int) ≤ (e : Int) := by omega
            have e2' : (e : Int) ≤ (tc : Int) := by omega
            have e0' : (0 : Int) ≤ (kk : Int) := by omega
            have e3 : ¬ (tc = kk) := by omega
            have e3' : ¬ (kk = tc) := by omega
            have e4 : e - kk ≤ 32 := by omega
            have e4' : 0 < e - kk := by omega
            have HE := Lib.hid (And.intro he (And.intro hX (And.intro hkk h0)))
            clear he hX hkk h0
            go_upto_region 17 with fail
            go_wp2_with fail
            have hbk : ∀ w', Chg (FootR q r B) w3 w' → Bys w' (.slice (some ⟨g, kk, none⟩) (e - kk) (tc - kk)) ((T.drop (32 * k)).take 32) := fun w' hc => by
              have h1 := bys_drop (HTB.out.1 w' hc) kk (e - kk) (tc - kk) (by have := H3.out.2.2.2.2.2.1; omega) (by omega) (by omega)
              have h2 : (T.drop kk).take (e - kk) = (T.drop (32 * k)).take 32 := by
                have hkk : kk = 32 * k := by have := HE.out.2.2.1; omega
                rw [hkk]
                have htl := H3.out.2.2.2.2.2.1
                have he := HE.out.1
                rcases Nat.lt_or_ge tl (kk + 32) with h' | h'
                · rw [List.take_of_length_le (i := 32) (by rw [List.length_drop]; omega), List.take_of_length_le (by rw [List.length_drop]; omega)]
                · rw [show e - 32 * k = 32 from by omega]
              rw [Nat.zero_add] at h1
              rw [← h2]
              exact h1
            have hlen : ((T.drop (32 * k)).take 32).length = e - kk := by
              rw [List.length_take, List.length_drop]
              have := H3.out.2.2.2.2.2.1
              have := HE.out
              omega
            refine (rswrite_calls wr N q r B lv ps D' slots room L false G.out.2.1 X _ ((T.drop (32 * k)).take 32) (hbk wr G.out.2.2.1) (fun w' hc => hbk w' (G.out.2.2.1.trans (hc.mono (fun b hb => .inr (.inr hb))))) (by have := G.out.2.2.2; have := H.out.2.2.2.1; omega)).mono ?_
            rintro er w4 ⟨rfl, h4, hc4⟩
            obtain ⟨z, hz⟩ : ∃ z, z = D'.wres (X : Int) ((T.drop (32 * k)).take 32).length := ⟨_, rfl⟩
            rw [← hz] at h4 ⊢
            have hst : rchunks A (room + 1) D 0 T = if z ≠ 0 then (false, D'.wr (X : Int) ((T.drop (32 * k)).take 32)) else rchunks A (room - k) (D'.wr (X : Int) ((T.drop (32 * k)).take 32)) (k + 1) (T.drop (32 * (k + 1))) := by
              rw [G.out.1, show room + 1 - k = (room - k) + 1 from by omega, rchunks, if_neg (fun e => by
                have := congrArg List.length e
                rw [List.length_drop, List.length_nil] at this
                have := H3.out.2.2.2.2.2.1
                have := HE.out
                omega), ← HE.out.2.1, ← hz, List.drop_drop, show 32 * k + 32 = 32 * (k + 1) from by omega]
            have H4 := Lib.hid (And.intro h4 (And.intro (G.out.2.2.1.trans hc4) (And.intro hst hz)))
            clear h4 hc4 hst hz hbk hlen
            by_cases hz0 : z = 0
            · subst hz0
              have h4 := H4.out.1
              have HR5 := Lib.hid (show RStore w4 N q r B lv ps (D'.wr (X : Int) ((T.drop (32 * k)).take 32)) slots room L false from by simpa using h4)
              have HW := Lib.hid (wr_inc H4.out.2.2.2.symm)
              have HST := Lib.hid (show rchunks A (room + 1) D 0 T = rchunks A (room + 1 - (k + 1)) (D'.wr (X : Int) ((T.drop (32 * k)).take 32)) (k + 1) (T.drop (32 * (k + 1))) from by rw [H4.out.2.2.1, if_neg (by simp), show room + 1 - (k + 1) = room - k from by omega])
              clear h4
              go_wp2_with fail
              exact ⟨⟨k + 1, _, by go_num, by have := HE.out; omega, HST.out, HR5.out, H4.out.2.1, by have := HW.out; have := G.out.2.2.2; omega⟩, by simp [intOf]; have := HE.out; omega⟩
            · have t2 : (z != 0) = true := by simp [hz0]
              have h4 := H4.out.1
              rw [t2] at h4
              have HR5 := Lib.hid (show RStore w4 N q r B lv ps (D'.wr (X : Int) ((T.drop (32 * k)).take 32)) slots room L true from by simpa using h4)
              have HST := Lib.hid (show rchunks A (room + 1) D 0 T = (false, D'.wr (X : Int) ((T.drop (32 * k)).take 32)) from by rw [H4.out.2.2.1, if_pos hz0])
              have HQ := Lib.hid (show rputR slots room D L false name data = (8, D'.wr (X : Int) ((T.drop (32 * k)).take 32), L, true) from by
                unfold rputR
                rw [if_neg (by decide), if_neg (by rw [H1.out.2.2.2]; decide), HSL.out.1]
                simp only []
                rw [← HO.out.2, ← H3.out.2.2.2.2.1, ← H3.out.2.2.2.2.2.2, HST.out, if_pos rfl])
              clear h4 hz0
              go_wp2_with fail
              go_ret
              rw [HQ.out]
              exact ⟨lv, ps, rfl, HR5.out, (Chg.of_below H3.out.2.2.2.1).trans H4.out.2.1⟩
          · have hnil : T.drop (32 * k) = [] := List.drop_eq_nil_of_le (by have := H3.out.2.2.2.2.2.1; omega)
            have hch : rchunks A (room + 1) D 0 T = (true, D') := by
              rw [G.out.1, hnil]
              cases room + 1 - k with
              | zero => rfl
              | succ n => rw [rchunks, if_pos rfl]
            have t0 : decide ((kk : Int) < (tl : Int)) = false := by simp; omega
            have t0' : decide (kk < tl) = false := by simp; omega
            have hwf : D'.writes ≤ D.writes + 1024 := by have := G.out.2.2.2; omega
            have HC := Lib.hid (And.intro hch (And.intro G.out.2.1 (And.intro ((Chg.of_below H3.out.2.2.2.1).trans G.out.2.2.1) hwf)))
            clear hnil hch hwf h0 hkk hk G
            go_wp2_with fail
            have hz6 : ∀ b, FootR q r B b → b < wr.heap.size := fun b hb => by
              have h1 := H.out.2.2.1 b (H.out.1.foot b hb)
              have h2 := HC.out.2.2.1.size
              omega
            have hb6 : Below wr.heap.size wr (wr.alloc (.cells #[Value.int .u8 1] 5)) := (Below.refl _ _).alloc (Nat.le_refl _) _
            refine (rswrite_calls _ N q r B lv ps D' slots room L false (HC.out.2.1.below hb6) A _ [1] (bys_one wr 1 _ rfl _) (fun w' hc => ?_) (by have := HC.out.2.2.2; have := H.out.2.2.2.1; omega)).mono ?_
            · have hk := hc.blk (Blk.new wr #[Value.int .u8 1] 5) (fun e => by have := hz6 B (.inr (.inr rfl)); omega)
              exact hk.bys (bs := [1]) (Nat.le_refl _) (maxLen_ge (by decide)) fun i v hi => by
                cases i with
                | zero => simp at hi; subst hi; rfl
                | succ i => simp at hi
            rintro er w6 ⟨rfl, h6, hc6⟩
            obtain ⟨z, hz⟩ : ∃ z, z = D'.wres (A : Int) [(1 : UInt8)].length := ⟨_, rfl⟩
            rw [← hz] at h6 ⊢
            have H6 := Lib.hid (And.intro h6 (And.intro ((HC.out.2.2.1.trans (Chg.of_below hb6)).trans hc6) hz))
            clear h6 hc6 hz hb6 hz6
            by_cases hz0 : z = 0
            · subst hz0
              obtain ⟨D1, hD1⟩ : ∃ x, x = D'.wr (A : Int) [1] := ⟨_, rfl⟩
              have h6 := H6.out.1
              rw [← hD1] at h6
              have HR6 := Lib.hid (And.intro (show RStore w6 N q r B lv ps D1 slots room L false from by simpa using h6) (And.intro hD1 (show D1.writes < 4611686018427387904 from by
                have := wr_inc H6.out.2.2.symm
                rw [← hD1] at this
                have := HC.out.2.2.2
                have := H.out.2.2.2.1
                omega)))
              clear h6 hD1
              go_upto_region 21 with fail
              go_cut [100] (fun vb wx => ∃ bad : Bool, vb = .bool bad ∧ Hid (∃ D2, (o = none ∧ D2 = D1 ∧ bad = false ∨ ∃ i, o = some i ∧ D2 = D1.wr ((rslot L i * (room + 1) : Nat) : Int) [] ∧ bad = (D1.wres ((rslot L i * (room + 1) : Nat) : Int) 0 != 0)) ∧ RStore wx N q r B lv ps D2 slots room L bad ∧ Chg (FootR q r B) w6 wx))
              case first =>
                cases o with
                | none =>
                  simp only [optI]
                  go_quiet (fail)
                  go_wp2_with fail
                  go_meet
                  exact ⟨false, rfl, D1, .inl ⟨trivial, rfl, rfl⟩, HR6.out.1.below (below_drewN (Below.refl _ _) _), Chg.of_below (below_drewN (Below.refl _ _) _)⟩
                | some i =>
                  obtain ⟨x, hx, hq⟩ := HLO.out.1 i rfl
                  have c3 : w6.cell? ⟨q, 3, none⟩ = some lv := HR6.out.1.blk.cell 3
                  have c2' : w6.cell? ⟨q, 2, none⟩ = some (.int .i64 room) := HR6.out.1.blk.cell 2
                  obtain ⟨a, c, rfl, h1, h2, h3⟩ := id HR6.out.1.row
                  obtain ⟨p, hp, e1, e2, e3, _⟩ := HR6.out.1.recs.at hx
                  obtain ⟨b, off, ha, _, _, hc⟩ := h3 (by have := (List.getElem?_eq_some_iff.1 hp).1; omega)
                  have cx := hc i p hp 3 (.int .i64 p.slot) rfl
                  subst ha
                  rw [e3] at cx
                  have hil := (List.getElem?_eq_some_iff.1 hp).1
                  have i0 : (0 : Int) ≤ (i : Int) := by omega
                  have i2 : decide ((0 : Int) ≤ (i : Int)) = true := by simp
                  obtain ⟨n, hnn⟩ : ∃ n, n = ps.length := ⟨_, rfl⟩
                  rw [← hnn] at c3 hil
                  have i1 : (i : Int) < (n : Int) := by omega
                  have hrs : rslot L i = x.slot := by unfold rslot; rw [hx]; rfl
                  have hxs := (H.out.1.small x (List.mem_of_getElem? hx)).2.2
                  obtain ⟨A2, hA2'⟩ : ∃ n, n = x.slot * (room + 1) := ⟨_, rfl⟩
                  have hA22 : A2 ≤ 1024 * 1025 := by
                    rw [hA2']
                    exact Nat.mul_le_mul (by have := H1.out.1.s1; omega) (by omega)
                  have q8 : IntKind.i64.wrap ((x.slot : Int) * ((room : Int) + 1)) = (A2 : Int) := by
                    have e2 : (x.slot : Int) * ((room : Int) + 1) = (A2 : Int) := by rw [hA2']; push_cast; rfl
                    rw [e2]
                    exact IntWalk.i64_in _ (by omega)
                  have HA2 := Lib.hid (And.intro hA2' hrs)
                  clear hp hc h3 h1 h2 hx e1 e2 e3 hnn hq hA2' hrs hA22 hxs
                  simp only [optI]
                  refine Tail.wp_region_quiet_tail 18 (fun w' => ∃ n, w' = w6.drewN n) (by kernel_rfl) (by kernel_rfl) ⟨1, rfl⟩ ?_
                  simp only [List.take_succ_cons, List.take_zero, List.drop_succ_cons, List.drop_zero]
                  repeat (first
                    | go_big_quiet_step (fail)
                    | quiet_step (fail))
                  refine wpQuiet_nil ?_
                  intro _ hw'
                  obtain ⟨d5, hw''⟩ := hw'
                  subst hw''
                  have h7 := HR6.out.1.below (below_drewN (Below.refl w6.heap.size w6) d5)
                  have H7 := Lib.hid h7
                  clear h7
                  go_wp2_with fail
                  refine (rswrite_calls _ N q r B _ ps D1 slots room L false H7.out A2 _ [] (bys_nil10 _) (fun w' _ => bys_nil10 _) HR6.out.2.2).mono ?_
                  rintro er w8 ⟨rfl, h8, hc8⟩
                  obtain ⟨bad, hbad⟩ : ∃ z, z = (false || (D1.wres (A2 : Int) ([] : List UInt8).length != 0)) := ⟨_, rfl⟩
                  rw [← hbad] at h8 ⊢
                  have H8 := Lib.hid (And.intro h8 (And.intro ((Chg.of_below (below_drewN (Below.refl w6.heap.size w6) d5)).trans hc8) hbad))
                  clear h8 hc8 hbad
                  have hfin : (some i = none ∧ D1.wr (A2 : Int) [] = D1 ∧ bad = false ∨ ∃ i', some i = some i' ∧ D1.wr (A2 : Int) [] = D1.wr ((rslot L i' * (room + 1) : Nat) : Int) [] ∧ bad = (D1.wres ((rslot L i' * (room + 1) : Nat) : Int) 0 != 0)) := by
                    refine .inr ⟨i, rfl, ?_, ?_⟩
                    · rw [HA2.out.2, HA2.out.1]
                    · rw [HA2.out.2, ← HA2.out.1]
                      have := H8.out.2.2
                      rw [Bool.false_or] at this
                      exact this
                  have HF := Lib.hid hfin
                  clear hfin
                  cases bad
                  all_goals
                    go_wp2_with fail
                    go_meet
                    exact ⟨_, rfl, _, by simpa using HF.out, H8.out.1, H8.out.2.1⟩
              case rest =>
              obtain ⟨bad, rfl, hG⟩ := hcut
              obtain ⟨D2, hD2, h9, hc9⟩ := hG.out
              have H9 := Lib.hid (And.intro h9 (And.intro (H6.out.2.1.trans hc9) hD2))
              clear hG hD2 h9 hc9
              cases bad with
              | true =>
                have HQ := Lib.hid (show rputR slots room D L false name data = (8, D2, L, true) from by
                  unfold rputR
                  rw [if_neg (by decide), if_neg (by rw [H1.out.2.2.2]; decide), HSL.out.1]
                  simp only []
                  rw [← HO.out.2, ← H3.out.2.2.2.2.1, ← H3.out.2.2.2.2.2.2, HC.out.1, if_neg (show ¬ (true = false) from by decide), if_neg (by have := H6.out.2.2; intro e; exact e this.symm), ← HO.out.1, ← HR6.out.2.1]
                  rcases H9.out.2.2 with ⟨_, _, h⟩ | ⟨i, h1, h2, h3⟩
                  · cases h
                  · subst h1
                    simp only []
                    rw [if_pos (by simpa using h3.symm), ← h2])
                go_wp2_with fail
                go_ret
                rw [HQ.out]
                exact ⟨lv, ps, rfl, H9.out.1, H9.out.2.1⟩
              | false =>
                have HQ := Lib.hid (show rputR slots room D L false name data = (0, D2, putG RRec.name L ⟨name, nm, data, sl⟩, false) from by
                  unfold rputR
                  rw [if_neg (by decide), if_neg (by rw [H1.out.2.2.2]; decide), HSL.out.1]
                  simp only []
                  rw [← HO.out.2, ← H3.out.2.2.2.2.1, ← H3.out.2.2.2.2.2.2, HC.out.1, if_neg (show ¬ (true = false) from by decide), if_neg (by have := H6.out.2.2; intro e; exact e this.symm), ← HO.out.1, ← HR6.out.2.1]
                  rcases H9.out.2.2 with ⟨h1, h2, _⟩ | ⟨i, h1, h2, h3⟩
                  · subst h1
                    simp only []
                    rw [h2]
                  · subst h1
                    simp only []
                    rw [if_neg (by simpa using h3.symm), ← h2])
                have hwc : Chg (FootR q r B) w wc := H9.out.2.1
                have hzw : w.heap.size ≤ wc.heap.size := hwc.size
                have hdz : DataZ wc N (.slice da dl dc) data := H.out.2.1.chg hwc (fun b hb _ => H.out.1.foot b hb)
                have c3 : wc.cell? ⟨q, 3, none⟩ = some lv := H9.out.1.blk.cell 3
                have f3 := H9.out.1.blk.free 3
                have hd2 : data.length ≤ 16384 := by have := H1.out.2.2.2; unfold fitsB at this; simp at this; omega
                have hps : ps.length ≤ 1024 := by have := H9.out.1.few; have := H9.out.1.recs.len; have := H9.out.1.s1; omega
                have HZ := Lib.hid (And.intro hdz (And.intro hd2 (And.intro hps hzw)))
                clear hdz hd2 hps hzw hwc
                go_upto_region 23 with fail
                refine Tail.wp_region_J 14 (fun k => k == 8 || k == 11) (fun k => none)
                  (fun D z w' => Below wc.heap.size wc w' ∧ (D 8 = true → ∃ a c, z 8 = .slice a data.length c ∧ DataZ w' N (z 8) data) ∧ (D 11 = true → ∃ p : RP, p.name = name ∧ p.num = nm ∧ p.slot = sl ∧ p.l = data.length ∧ DataZ w' N (.slice p.a p.l p.c) data ∧ OwnG eR WfR 4 73 w' wc.heap.size (z 11) (putG RP.name ps p)))
                  (by kernel_rfl) (by kernel_rfl) (fun k hk => by simp at hk; omega) (fun D z z' w' hz h => ⟨h.1, fun d => by rw [← hz 8 d]; exact h.2.1 d, fun d => by rw [← hz 11 d]; exact h.2.2 d⟩)
                  ⟨(Below.refl _ _).drew, (fun h => by cases h), (fun h => by cases h)⟩ (fun z => ?_)
                simp only [List.take_succ_cons, List.take_zero, List.drop_succ_cons, List.drop_zero]
                refine Tail.J_ex (by rfl) (by rfl) ?_
                apply Exists.intro
                refine ⟨fun w => ?_, ?_⟩
                · go_simp <;> with_reducible rfl
                simp only [Act.put, List.setIfInBounds_toArray, List.set_cons_zero, List.set_cons_succ, Nat.reduceAdd, Nat.reduceEqDiff, reduceIte, Option.getD_some, Option.getD_none]
                refine Tail.J_ex (by rfl) (by rfl) ?_
                apply Exists.intro
                refine ⟨fun w => ?_, ?_⟩
                · go_simp <;> with_reducible rfl
                simp only [Act.put, List.setIfInBounds_toArray, List.set_cons_zero, List.set_cons_succ, Nat.reduceAdd, Nat.reduceEqDiff, reduceIte, Option.getD_some, Option.getD_none]
                refine Tail.J_ex (by rfl) (by rfl) ?_
                apply Exists.intro
                refine ⟨fun w => ?_, ?_⟩
                · go_simp <;> with_reducible rfl
                simp only [Act.put, List.setIfInBounds_toArray, List.set_cons_zero, List.set_cons_succ, Nat.reduceAdd, Nat.reduceEqDiff, reduceIte, Option.getD_some, Option.getD_none]
                refine Tail.J_ex (by rfl) (by rfl) ?_
                apply Exists.intro
                refine ⟨fun w => ?_, ?_⟩
                · go_simp <;> with_reducible rfl
                simp only [Act.put, List.setIfInBounds_toArray, List.set_cons_zero, List.set_cons_succ, Nat.reduceAdd, Nat.reduceEqDiff, reduceIte, Option.getD_some, Option.getD_none]
                refine Tail.J_at (by rfl) (by rfl) ?_
                apply Exists.intro
                refine ⟨fun D w' hd hp hJ => ?_, ?_⟩
                · have cc : w'.cell? ⟨q, 3, none⟩ = some lv := (H9.out.1.blk.kept hJ.1).cell 3
                  go_simp <;> with_reducible rfl
                simp only [Act.put, List.setIfInBounds_toArray, List.set_cons_zero, List.set_cons_succ, Nat.reduceAdd, Nat.reduceEqDiff, reduceIte, Option.getD_some, Option.getD_none]
                refine Tail.J_ex (by rfl) (by rfl) ?_
                apply Exists.intro
                refine ⟨fun w => ?_, ?_⟩
                · go_simp <;> with_reducible rfl
                simp only [Act.put, List.setIfInBounds_toArray, List.set_cons_zero, List.set_cons_succ, Nat.reduceAdd, Nat.reduceEqDiff, reduceIte, Option.getD_some, Option.getD_none]
                refine Tail.J_ex (by rfl) (by rfl) ?_
                apply Exists.intro
                refine ⟨fun w => ?_, ?_⟩
                · go_simp <;> with_reducible rfl
                simp only [Act.put, List.setIfInBounds_toArray, List.set_cons_zero, List.set_cons_succ, Nat.reduceAdd, Nat.reduceEqDiff, reduceIte, Option.getD_some, Option.getD_none]
                refine Tail.J_ex (by rfl) (by rfl) ?_
                apply Exists.intro
                refine ⟨fun w => ?_, ?_⟩
                · go_simp <;> with_reducible rfl
                simp only [Act.put, List.setIfInBounds_toArray, List.set_cons_zero, List.set_cons_succ, Nat.reduceAdd, Nat.reduceEqDiff, reduceIte, Option.getD_some, Option.getD_none]
                refine Tail.J_mov (by rfl) (by rfl) (fun D z' w' hD hz hd hp hJ => ?_) ?_
                · have h11 : D 11 = false := hp 11 (by kernel_rfl)
                  refine appX_ex (P := Tryz.prog) E8c _ _ rfl (base := wc.heap.size) (v := .slice none 0 0) (xv := .slice da dl dc) (bs := []) (news := data) rfl rfl (OwnX.nil _ _ _) (HZ.out.1.1.below hJ.1) (by have := HZ.out.2.1; simp; omega) hJ.1.size ?_
                  intro v' wx ho2 hg2
                  have hbx : Below w'.heap.size w' wx := grown_none hg2 rfl
                  have ho2 : OwnX 5 wx wc.heap.size v' data := ho2
                  refine ⟨fun c hc => by simp at hc, hJ.1.trans (hbx.mono hJ.1.size), fun _ => ?_, fun h => ?_⟩
                  · obtain ⟨a', c', e'⟩ := ho2.eq_slice
                    refine ⟨a', c', by simpa [Tail.updV] using e', ?_⟩
                    have := (ho2.data (N := N) (fun b hb _ hN => by have := H.out.2.2.1 b hN; have := HZ.out.2.2.2; omega)).z
                    simpa [Tail.updV] using this
                  · simp [Tail.updB, h11] at h
                simp only [Act.put, List.setIfInBounds_toArray, List.set_cons_zero, List.set_cons_succ, Nat.reduceAdd, Nat.reduceEqDiff, reduceIte, Option.getD_some, Option.getD_none]
                refine Tail.J_ex (by rfl) (by rfl) ?_
                apply Exists.intro
                refine ⟨fun w => ?_, ?_⟩
                · go_simp <;> with_reducible rfl
                simp only [Act.put, List.setIfInBounds_toArray, List.set_cons_zero, List.set_cons_succ, Nat.reduceAdd, Nat.reduceEqDiff, reduceIte, Option.getD_some, Option.getD_none]
                refine Tail.J_at (by rfl) (by rfl) ?_
                refine ⟨.agg #[.string name, .int .i64 nm, z 8, .int .i64 sl], fun D w' hd hp hJ => ?_, ?_⟩
                · have h8 : D 8 = true := hd 8 (by kernel_rfl)
                  obtain ⟨a', c', e', _⟩ := hJ.2.1 h8
                  generalize z 8 = z8 at e' ⊢
                  subst e'
                  go_simp <;> with_reducible rfl
                simp only [Act.put, List.setIfInBounds_toArray, List.set_cons_zero, List.set_cons_succ, Nat.reduceAdd, Nat.reduceEqDiff, reduceIte, Option.getD_some, Option.getD_none]
                refine Tail.J_call (by rfl) (by rfl) ?_ ?_
                · apply Exists.intro
                  apply Exists.intro
                  refine ⟨fun w' => ?_, ?_⟩
                  · go_simp <;> exact ⟨rfl, rfl⟩
                  intro D z' w' hD hz hd hp hJ
                  have h8 : D 8 = true := hd 8 (by kernel_rfl)
                  obtain ⟨a', c', e', hdz⟩ := hJ.2.1 h8
                  rw [hz 8 h8, e']
                  rw [e'] at hdz
                  refine (rputl_calls w' lv ps ⟨name, nm, a', data.length, c', sl⟩ (((H9.out.1.below hJ.1).row).mono (fun b h => h.elim)) HZ.out.2.2.1).mono ?_
                  rintro e w'' ⟨v8, rfl, ho8, hb8⟩
                  refine ⟨v8, rfl, fun c hc => by simp at hc, hJ.1.trans (hb8.mono hJ.1.size), fun _ => ⟨a', c', ?_, ?_⟩, fun _ => ⟨⟨name, nm, a', data.length, c', sl⟩, rfl, rfl, rfl, rfl, ?_, ?_⟩⟩
                  · simpa [Tail.updV] using e'
                  · have := hdz.chg (S := fun _ => False) (Chg.of_below hb8) (fun _ h => h.elim)
                    simpa [Tail.updV, e'] using this
                  · exact hdz.chg (S := fun _ => False) (Chg.of_below hb8) (fun _ h => h.elim)
                  · have := ho8.lower hJ.1.size
                    simpa [Tail.updV] using this
                simp only [Act.put, List.setIfInBounds_toArray, List.set_cons_zero, List.set_cons_succ, Nat.reduceAdd, Nat.reduceEqDiff, reduceIte, Option.getD_some, Option.getD_none]
                refine Tail.J_ex (by rfl) (by rfl) ?_
                apply Exists.intro
                refine ⟨fun w => ?_, ?_⟩
                · go_simp <;> with_reducible rfl
                simp only [Act.put, List.setIfInBounds_toArray, List.set_cons_zero, List.set_cons_succ, Nat.reduceAdd, Nat.reduceEqDiff, reduceIte, Option.getD_some, Option.getD_none]
                refine Tail.J_ex (by rfl) (by rfl) ?_
                apply Exists.intro
                refine ⟨fun w => ?_, ?_⟩
                · go_simp <;> with_reducible rfl
                simp only [Act.put, List.setIfInBounds_toArray, List.set_cons_zero, List.set_cons_succ, Nat.reduceAdd, Nat.reduceEqDiff, reduceIte, Option.getD_some, Option.getD_none]
                intro w8 hJ
                obtain ⟨p8, hp1, hp2, hp3, hp4, hdz8, ho8⟩ := hJ.2.2 rfl
                have hb8 := hJ.1
                clear hJ
                generalize z 11 = v8 at ho8 ⊢
                generalize z 8 = v7
                have h9 := H9.out.1.below hb8
                have c3' : w8.cell? ⟨q, 3, none⟩ = some lv := h9.blk.cell 3
                have f3' := h9.blk.free 3
                have hrow : RowR w8 N v8 (putG RP.name ps p8) := RowR.own ho8 (fun g hg hNg => by have := ho8.ge hg; have := H.out.2.2.1 g hNg; have := HZ.out.2.2.2; omega)
                have hrec := RPs.put (x := ⟨name, nm, data, sl⟩) h9.recs hp1 hp2 hp3 hp4 hdz8
                have hl := HL.out.1 sl HSL.out.1
                rw [← HO.out.2] at hl
                have hfin := h9.relist hrow hrec hl (fun x hx => by
                  rcases putG_mem _ _ _ x hx with h | h
                  · exact H9.out.1.small x h
                  · rw [h]; exact ⟨Nat.le_trans HZ.out.2.1 (by decide), hn1, HSL.out.2⟩)
                obtain ⟨a8, c8, e8⟩ := ho8.slice
                subst e8
                have HFIN := Lib.hid (And.intro hfin (Chg.set (S := FootR q r B) (a := ⟨q, 3, none⟩) (H9.out.2.1.trans (Chg.of_below hb8)) (.inl rfl) (.slice a8 (putG RP.name ps p8).length c8)))
                clear h9 hrow hrec hl hfin ho8 hb8 hp1 hp2 hp3 hp4 hdz8 c3 f3
                go_wp2_with fail
                go_ret
                rw [HQ.out]
                exact ⟨rfl, ⟨_, _, HFIN.out.1⟩, HFIN.out.2⟩
            · have t2 : (z != 0) = true := by simp [hz0]
              have h6 := H6.out.1
              rw [t2] at h6
              have HR6 := Lib.hid (show RStore w6 N q r B lv ps (D'.wr (A : Int) [1]) slots room L true from by simpa using h6)
              have HQ := Lib.hid (show rputR slots room D L false name data = (8, D'.wr (A : Int) [1], L, true) from by
                unfold rputR
                rw [if_neg (by decide), if_neg (by rw [H1.out.2.2.2]; decide), HSL.out.1]
                simp only []
                rw [← HO.out.2, ← H3.out.2.2.2.2.1, ← H3.out.2.2.2.2.2.2, HC.out.1, if_neg (show ¬ (true = false) from by decide), if_pos (by have := H6.out.2.2; intro e; exact hz0 (this.trans e))])
              clear h6 hz0
              go_wp2_with fail
              go_ret
              rw [HQ.out]
              exact ⟨lv, ps, rfl, HR6.out, H6.out.2.1⟩
end Go.Proofs.YtehgnkdfnnebcaaGreatDoor
end
