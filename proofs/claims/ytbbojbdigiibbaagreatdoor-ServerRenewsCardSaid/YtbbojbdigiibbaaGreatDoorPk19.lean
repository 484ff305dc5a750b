/- Texts of this proof, packed: SrvPut, SrvCan, SrvGet. -/
import Derived.Test.YtbbojbdigiibbaaGreatDoorPk18
import Derived.Test.YtbbojbdigiibbaaGreatDoorPk13
section
namespace Go.Proofs.YtbbojbdigiibbaaGreatDoor
open Go Go.RowKit Go.Mem Gf Lea
theorem i52 : (Tryz.prog.info? 47).map (·.size) = some 52 := by kernel_rfl
theorem load_req (dst : Option Tmp) (x : Operand) (ty : TypeId) (pos : String) (af : Array Edge) (gd : Option (Tmp × Bool)) (a : Act) (w : World) (K : Act → World → Prop) (Q : Exit → Act → World → Prop)
    (hp : ptrIs (a.eval x) = true) (ht : HasK 52 w (ptrB (a.eval x)) (ptrO (a.eval x))) :
    Oper.wp Tryz.prog ⟨dst, .load 47 x, ty, pos, af, gd⟩ a w K Q = K (a.put dst (.agg (readK 52 w (ptrB (a.eval x)) (ptrO (a.eval x))).toArray)) w :=
  wp_loadG Tryz.underlying47 rfl i52 dst x ty pos af gd a w K Q hp ht
inductive PutSh (s : SrvS) (r : Req) (l : List Blob) : Int → SrvS → Prop
  | form (h : ¬ (l.length = 1 ∧ NumsOk l ∧ May r.ends)) : PutSh s r l 2 s
  | no (n : Nat) (data : List UInt8) (err : Int) (hl : l = [((n : Int), data)]) (hn : n < 16) (hm : May r.ends) (ha : AskR s r.ix r.sec r.ends (shareN r.ix n) data (s.st.get (shareN r.ix n)).isSome err) (h0 : err ≠ 0) : PutSh s r l err s
  | torn (n : Nat) (data : List UInt8) (hl : l = [((n : Int), data)]) (hn : n < 16) (hm : May r.ends) (hg : s.st.get (shareN r.ix n) = none) (ha : AskR s r.ix r.sec r.ends (shareN r.ix n) data false 0) (h0 : (putR s.st (shareN r.ix n) data).1 ≠ 0) : PutSh s r l (putR s.st (shareN r.ix n) data).1 { s with st := (putR s.st (shareN r.ix n) data).2 }
  | put (n : Nat) (data : List UInt8) (err : Int) (s' : SrvS) (hl : l = [((n : Int), data)]) (hn : n < 16) (hm : May r.ends) (hg : s.st.get (shareN r.ix n) = none) (ha : AskR s r.ix r.sec r.ends (shareN r.ix n) data false 0) (h0 : (putR s.st (shareN r.ix n) data).1 = 0) (hs : AddSrv { s with st := (putR s.st (shareN r.ix n) data).2 } r.ix r.sec r.ends err s') : PutSh s r l err s'
  | there (n : Nat) (data : List UInt8) (err : Int) (s' : SrvS) (hl : l = [((n : Int), data)]) (hn : n < 16) (hm : May r.ends) (hg : (s.st.get (shareN r.ix n)).isSome = true) (ha : AskR s r.ix r.sec r.ends (shareN r.ix n) data true 0) (hs : AddSrv s r.ix r.sec r.ends err s') : PutSh s r l (if err = 0 then 5 else err) s'
theorem share_small {ix : Key} (h : ix.length = 16) (n : Nat) : (shareN ix n).size ≤ 1000000 := by
  have : (shareN ix n).size = 18 := by
    show (115 :: (ix ++ [UInt8.ofNat n])).toArray.size = 18
    simp [h]
  omega
def Answers (C X : Nat → Prop) (pb : Nat) (R : Int → SrvS → Prop) (w : World) (e : Ending) (w' : World) : Prop :=
  ∃ C' err s', e = .returned (.agg #[.int .i64 err, .slice none 0 0]) ∧ R err s' ∧ IsSrv w' C' X pb s' ∧ SChg C C' w w'
theorem IsSrv.shrinkX {w : World} {C X X' : Nat → Prop} {pb : Nat} {s : SrvS} (h : IsSrv w C X pb s) (hx : ∀ b, X' b → X b) : IsSrv w C X' pb s := by
  obtain ⟨sb, lb, d, L, tb, v, h⟩ := h
  exact ⟨sb, lb, d, L, tb, v, h.shrinkX hx⟩
theorem IsSrv.xc {w : World} {C X : Nat → Prop} {pb : Nat} {s : SrvS} (h : IsSrv w C X pb s) : ∀ b, X b → ¬ C b := by
  obtain ⟨sb, lb, d, L, tb, v, h⟩ := h
  exact h.xc
theorem reply_end {w w' : World} {C C' X : Nat → Prop} {pb p4 : Nat} {s' : SrvS} (h : IsSrv w' C' (fun b => X b ∨ b = p4) pb s') (hc : SChg C C' w w') (h4 : w.heap.size ≤ p4) (x y : Value) :
    IsSrv ((w'.setCell ⟨p4, 0, none⟩ x).setCell ⟨p4, 1, none⟩ y) C' X pb s' ∧ SChg C C' w ((w'.setCell ⟨p4, 0, none⟩ x).setCell ⟨p4, 1, none⟩ y) := by
  have hcc : Chg (fun b => b = p4) w' ((w'.setCell ⟨p4, 0, none⟩ x).setCell ⟨p4, 1, none⟩ y) := Chg.set (S := fun b => b = p4) (a := ⟨p4, 1, none⟩) (Chg.set (S := fun b => b = p4) (a := ⟨p4, 0, none⟩) (Chg.refl _ _) rfl _) rfl _
  refine ⟨(h.chg hcc (fun b hb => ?_) (fun b hb _ => .inr hb)).shrinkX (fun b hb => .inl hb), ⟨hc.1.mix hcc (fun k hk => .inr (by rw [hk]; exact h4)), hc.2⟩⟩
  rw [hb]
  exact h.xc p4 (.inr rfl)
attribute [local irreducible] reqV
attribute [local go_sem ↓] Go.wp_at_zero Go.wp_at_succ
attribute [local go_sem ↓] load_key load_req
attribute [local go_sem] ptrB_eq ptrO_eq ptrIs_eq aggL_eq aggIs_eq readK_drew hasK_drew readK_alloc_past hasK_alloc_past
set_option maxRecDepth 100000 in
set_option maxHeartbeats 2000000 in
theorem put_calls16 (C X : Nat → Prop) (pb : Nat) (s : SrvS) (r : Req) (l : List Blob) (hr : r.Wf) (w : World) (h : IsSrv w C X pb s) (hB : SrvB s) (hwr : s.st.disk.writes < 72057594037800000) (hl : BlAt w (fun b => C b ∨ X b) r.vb l) (hd : ∀ x ∈ l, x.2.length ≤ 1000000) :
    Calls Tryz.prog 92 #[.pointer (some ⟨pb, 0, none⟩), .agg (reqV r).toArray] w (Answers C X pb (PutSh s r l) w) := by
  obtain ⟨la, lc, hvb, hlc1, hlc2, hrow⟩ := id hl
  obtain ⟨n, hn⟩ : ∃ n, n = l.length := ⟨_, rfl⟩
  rw [← hn] at hvb hlc1 hrow
  have hR := (ReqAt.new w 47 hr)
  have hb0 := (Below.refl w.heap.size w).alloc (Nat.le_refl _) (.cells (reqV r).toArray 47)
  have hb1 := hb0.alloc hb0.size (.cells #[.int .i64 0, .slice none 0 0] 43)
  have hR1 := hR.below ((Below.refl _ (w.alloc (.cells (reqV r).toArray 47))).alloc (Nat.le_refl _) (.cells #[.int .i64 0, .slice none 0 0] 43))
  have hk4 : Blk ((w.alloc (.cells (reqV r).toArray 47)).alloc (.cells #[.int .i64 0, .slice none 0 0] 43)) (w.heap.size + 1) #[.int .i64 0, .slice none 0 0] 43 := Blk.new_at _ _ _ _ (by simp)
  obtain ⟨cr, hcr⟩ : ∃ c, c = reqV r := ⟨_, rfl⟩
  rw [← hcr] at hR1 hb1 hk4
  rw [← hcr]
  have HCR := Lib.hid hcr
  obtain ⟨w0, hw0⟩ : ∃ x, x = (w.alloc (.cells cr.toArray 47)).alloc (.cells #[.int .i64 0, .slice none 0 0] 43) := ⟨_, rfl⟩
  obtain ⟨p3, hp3⟩ : ∃ p, p = w.heap.size := ⟨_, rfl⟩
  obtain ⟨p4, hp4⟩ : ∃ p, p = w.heap.size + 1 := ⟨_, rfl⟩
  have HW := Lib.hid (And.intro hw0 (And.intro hp3 hp4))
  rw [← hw0, ← hp3] at hR1
  rw [← hw0] at hb1
  rw [← hw0, ← hp4] at hk4
  have H := Lib.hid (And.intro h (And.intro hB (And.intro hr (And.intro hl (And.intro hd hn)))))
  have hx4 : IsSrv w0 C (fun b => X b ∨ b = p4) pb s := h.growX (fun b hb => .inl hb) (fun b hb => hb.imp id (fun e => by rw [e, hp4]; omega)) hb1 (fun b hb => by rcases hb with hb | hb; exact Nat.lt_of_lt_of_le (h.lt (.inr hb)) hb1.size; rw [hb]; exact hk4.lt)
  have H0 := Lib.hid (And.intro hR1 (And.intro hb1 (And.intro hk4 hx4)))
  have c33 := hR1.ends
  have c51 := hR1.blobs
  rw [hvb] at c51
  clear h hB hr hl hd hn hcr hw0 hp3 hp4 hR hR1 hb0 hb1 hk4 hx4
  go_enter Tryz.func92, Tryz.ntmps92
  go_upto_region 1 with fail
  rw [← HW.out.1, ← HW.out.2.2, ← HW.out.2.1]
  have HVB := Lib.hid hvb
  clear hvb
  by_cases h1 : n = 1
  rotate_left
  · have d1 : ((n : Int) != 1) = true := by simp; omega
    have d1' : (n != 1) = true := by simp; omega
    have HF : Hid (PutSh s r l 2 s) := PutSh.form (by rintro ⟨e, _⟩; have := H.out.2.2.2.2.2; omega)
    go_wp2_with fail
    refine (fails_calls 2 w0).mono ?_
    rintro e w1 ⟨rfl, hb⟩
    have k4 := H0.out.2.2.1.kept hb
    have f40 := k4.free 0
    have f41 := k4.free 1
    have c40 : w1.cell? ⟨p4, 0, none⟩ = some (.int .i64 0) := k4.cell 0
    have c41 : w1.cell? ⟨p4, 1, none⟩ = some (.slice none 0 0) := k4.cell 1
    have l4 := k4.lt
    have HB1 := Lib.hid (And.intro hb k4)
    clear hb k4
    go_wp2_with fail
    have hE := reply_end (x := .int .i64 2) (y := .slice none 0 0) (H0.out.2.2.2.below HB1.out.1) (SChg.of_below (H0.out.2.1.trans (HB1.out.1.mono H0.out.2.1.size))) (by rw [HW.out.2.2]; omega)
    exact bodyPost_ret (v := .agg #[.int .i64 2, .slice none 0 0]) (by simp [results, Tryz.results92, go_sem, c40, c41]) rfl ⟨C, 2, s, rfl, HF.out, hE.1, hE.2⟩
  · obtain ⟨x, hx⟩ : ∃ x, l = [x] := by
      match l, H.out.2.2.2.2.2 with
      | [x], _ => exact ⟨x, rfl⟩
      | [], e => simp at e; omega
      | _ :: _ :: _, e => simp at e; omega
    obtain ⟨b, off, rfl, hbl, hnN, hcells⟩ := hrow (by omega)
    obtain ⟨q1, a', c', q2, hda⟩ := hcells 0 x (by rw [hx]; rfl)
    rw [Nat.zero_mul, Nat.add_zero] at q1 q2
    obtain ⟨q, hq⟩ : ∃ q, q = x.2.length := ⟨_, rfl⟩
    rw [← hq] at q2 hda
    obtain ⟨z, hz⟩ : ∃ z, z = x.1 := ⟨_, rfl⟩
    rw [← hz] at q1
    have HX := Lib.hid (And.intro hx (And.intro hbl (And.intro q1 (And.intro q2 (And.intro hda (And.intro hq hz))))))
    subst h1
    clear hx hbl hnN hcells q1 q2 hda hq hz
    have d1 : ((1 : Int) != 1) = false := by decide
    have hblobs := blobs_calls _ r.vb l w0 (H.out.2.2.2.1.below H0.out.2.1)
    rw [HVB.out] at hblobs
    go_wp2_with fail
    refine hblobs.mono ?_
    rintro e w1 ⟨bb, rfl, hbb, hb1⟩
    clear hblobs
    have k41 := H0.out.2.2.1.kept hb1
    have hw01 := H0.out.2.1.trans (hb1.mono H0.out.2.1.size)
    have hR1 := H0.out.1.below hb1
    have c33 := hR1.ends
    have c51 := hR1.blobs
    rw [HVB.out] at c51
    have H1 := Lib.hid (And.intro hbb (And.intro hb1 (And.intro k41 (And.intro hw01 (And.intro hR1 (H0.out.2.2.2.below hb1))))))
    clear hbb hb1 k41 hw01 hR1
    cases bb with
    | false =>
      have HF : Hid (PutSh s r l 2 s) := PutSh.form (fun h => Bool.noConfusion (H1.out.1.2 h.2.1))
      go_wp2_with fail
      refine (fails_calls 2 w1).mono ?_
      rintro e wf ⟨rfl, hbf⟩
      have k4f := H1.out.2.2.1.kept hbf
      have f40 := k4f.free 0
      have f41 := k4f.free 1
      have c40 : wf.cell? ⟨p4, 0, none⟩ = some (.int .i64 0) := k4f.cell 0
      have c41 : wf.cell? ⟨p4, 1, none⟩ = some (.slice none 0 0) := k4f.cell 1
      have l4f := k4f.lt
      have HBF := Lib.hid hbf
      clear hbf k4f
      go_wp2_with fail
      have hE := reply_end (x := .int .i64 2) (y := .slice none 0 0) ((H1.out.2.2.2.2.2).below HBF.out) ((SChg.of_below H1.out.2.2.2.1).post HBF.out) (by rw [HW.out.2.2]; omega)
      exact bodyPost_ret (v := .agg #[.int .i64 2, .slice none 0 0]) (by simp [results, Tryz.results92, go_sem, c40, c41]) rfl ⟨C, 2, s, rfl, HF.out, hE.1, hE.2⟩
    | true =>
      go_wp2_with fail
      refine (time_calls r.ends w1).mono ?_
      rintro e wt ⟨rfl, rfl⟩
      by_cases hmay : May r.ends
      rotate_left
      · have HF : Hid (PutSh s r l 2 s) := PutSh.form (fun h => hmay h.2.2)
        have dm : decide (May r.ends) = false := by simpa using hmay
        replace hmay := Lib.hid hmay
        go_wp2_with fail
        refine (fails_calls 2 w1).mono ?_
        rintro e wf ⟨rfl, hbf⟩
        have k4f := H1.out.2.2.1.kept hbf
        have f40 := k4f.free 0
        have f41 := k4f.free 1
        have c40 : wf.cell? ⟨p4, 0, none⟩ = some (.int .i64 0) := k4f.cell 0
        have c41 : wf.cell? ⟨p4, 1, none⟩ = some (.slice none 0 0) := k4f.cell 1
        have l4f := k4f.lt
        have HBF := Lib.hid hbf
        clear hbf k4f
        go_wp2_with fail
        have hE := reply_end (x := .int .i64 2) (y := .slice none 0 0) ((H1.out.2.2.2.2.2).below HBF.out) ((SChg.of_below H1.out.2.2.2.1).post HBF.out) (by rw [HW.out.2.2]; omega)
        exact bodyPost_ret (v := .agg #[.int .i64 2, .slice none 0 0]) (by simp [results, Tryz.results92, go_sem, c40, c41]) rfl ⟨C, 2, s, rfl, HF.out, hE.1, hE.2⟩
      · have dm : decide (May r.ends) = true := by simpa using hmay
        have HM := Lib.hid hmay
        have hnum := (H1.out.1.1 (by first | rfl | trivial)).1 x (by rw [HX.out.1]; simp)
        obtain ⟨m, hm⟩ : ∃ m : Nat, (m : Int) = z := ⟨z.toNat, by rw [HX.out.2.2.2.2.2.2]; omega⟩
        have hm16 : m < 16 := by have := HX.out.2.2.2.2.2.2; omega
        have q1 : w1.cell? ⟨b, off, none⟩ = some (.int .i64 z) := (H1.out.2.2.2.1.cell (p := ⟨b, off, none⟩) HX.out.2.1).trans HX.out.2.2.1
        have q2 : w1.cell? ⟨b, off + 1, none⟩ = some (.slice a' q c') := (H1.out.2.2.2.1.cell (p := ⟨b, off + 1, none⟩) HX.out.2.1).trans HX.out.2.2.2.1
        rw [← hm] at q1
        have HMZ := Lib.hid hm
        have rk := H1.out.2.2.2.2.1.rix
        have gk := H1.out.2.2.2.2.1.hix
        have lp3 := H1.out.2.2.2.2.1.lt
        have lp4 := H1.out.2.2.1.lt
        obtain ⟨ki, hki⟩ : ∃ c, c = bV r.ix := ⟨_, rfl⟩
        rw [← hki] at rk
        have HKI := Lib.hid hki
        clear hmay hnum hm hki
        obtain ⟨sb, lb, d, L, tb, v, hA1⟩ := H1.out.2.2.2.2.2
        have HA1 := Lib.hid hA1
        clear hA1
        go_upto_region 4 with fail
        have hk5 : Blk (w1.alloc (.cells #[.int .i64 m, .slice a' q c'] 53)) w1.heap.size #[.int .i64 m, .slice a' q c'] 53 := Blk.new _ _ _
        have hbA : Below w1.heap.size w1 (w1.alloc (.cells #[.int .i64 m, .slice a' q c'] 53)) := (Below.refl _ _).alloc (Nat.le_refl _) _
        obtain ⟨wa, hwa⟩ : ∃ x, x = w1.alloc (.cells #[.int .i64 m, .slice a' q c'] 53) := ⟨_, rfl⟩
        obtain ⟨p5, hp5⟩ : ∃ x, x = w1.heap.size := ⟨_, rfl⟩
        rw [← hwa] at hk5 hbA ⊢
        rw [← hp5] at hk5 ⊢
        have HWA := Lib.hid (And.intro hk5 (And.intro hbA hp5))
        have c50 : wa.cell? ⟨p5, 0, none⟩ = some (.int .i64 m) := hk5.cell 0
        have hRa := H1.out.2.2.2.2.1.below hbA
        have rk := hRa.rix
        have gk := hRa.hix
        rw [← HKI.out] at rk
        clear hk5 hbA hwa hp5 hRa
        go_wp2_with fail
        refine (show Calls _ _ _ _ _ from (by rw [HKI.out]; exact share_calls r.ix H.out.2.2.1.ix m hm16 wa)).mono ?_
        rintro e w2 ⟨rfl, hb2⟩
        have hb12 := HWA.out.2.1.trans (hb2.mono HWA.out.2.1.size)
        have c3 : w2.cell? ⟨pb, 3, none⟩ = some (.pointer (some ⟨sb, 0, none⟩)) := (HA1.out.below hb12).blk.cell 3
        have H2 := Lib.hid (And.intro hb2 hb12)
        clear hb2 hb12 rk gk c50
        go_wp2_with fail
        refine (sget_calls _ sb lb d L s.st (shareN r.ix m) w2 (HA1.out.below H2.out.2).st).mono ?_
        rintro e w3 ⟨hb3, vg, rfl, hvg⟩
        obtain ⟨is, his⟩ : ∃ b, b = (s.st.get (shareN r.ix m)).isSome := ⟨_, rfl⟩
        rw [← his]
        have hb13 := H2.out.2.trans (hb3.mono H2.out.2.size)
        have hR3 := H1.out.2.2.2.2.1.below hb13
        have hk53 := (HWA.out.1.kept H2.out.1).kept hb3
        have r52 := hR3.rall
        have g52 := hR3.hall
        obtain ⟨cr2, hcr2⟩ : ∃ c, c = reqV r := ⟨_, rfl⟩
        rw [← hcr2] at r52
        have c51' : w3.cell? ⟨p5, 1, none⟩ = some (.slice a' q c') := hk53.cell 1
        have H3 := Lib.hid (And.intro his (And.intro hb13 (And.intro hR3 (And.intro hk53 hcr2))))
        clear hb3 hvg his hb13 hR3 hk53 hcr2 c3 q1 q2
        go_wp2_with fail
        have hlen : (shareN r.ix m).size ≤ 1000000 := by
          have : (shareN r.ix m).size = 18 := by
            show (115 :: (r.ix ++ [UInt8.ofNat m])).toArray.size = 18
            simp [H.out.2.2.1.ix]
          omega
        have hdata : Bys w3 (.slice a' q c') x.2 := (HX.out.2.2.2.2.1.1).below (H1.out.2.2.2.1.trans (H3.out.2.1.mono H1.out.2.2.2.1.size))
        refine (show Calls _ _ _ _ _ from (by rw [H3.out.2.2.2.2]; exact asks_calls C _ pb s r H.out.2.2.1 (shareN r.ix m) (.slice a' q c') x.2 is w3 (H1.out.2.2.2.2.2.below H3.out.2.1) H.out.2.1 hdata hlen)).mono ?_
        rintro e w4 ⟨err, rfl, hask, hb4⟩
        have hb14 := H3.out.2.1.trans (hb4.mono H3.out.2.1.size)
        have hlx : l = [((m : Int), x.2)] := by
          rw [HX.out.1]
          congr 1
          exact Prod.ext (by rw [← HX.out.2.2.2.2.2.2, HMZ.out]) rfl
        have H4 := Lib.hid (And.intro hask (And.intro hb14 (And.intro (H1.out.2.2.1.kept hb14) (And.intro (H3.out.2.2.2.1.kept hb4) (And.intro hlx (And.intro (H1.out.2.2.2.2.1.below hb14) (H1.out.2.2.2.1.trans (hb14.mono H1.out.2.2.2.1.size))))))))
        clear hask hb4 hb14 hlx hlen hdata r52 g52 c51'
        by_cases he : err = 0
        rotate_left
        · have t0 : (err != 0) = true := by simpa using he
          have t0' : (err == 0) = false := by simpa using he
          have HF : Hid (PutSh s r l err s) := PutSh.no m x.2 err H4.out.2.2.2.2.1 hm16 HM.out (by rw [← H3.out.1]; exact H4.out.1) he
          replace he := Lib.hid he
          go_wp2_with fail
          refine (fails_calls err w4).mono ?_
          rintro e wf ⟨rfl, hbf⟩
          have k4f := H4.out.2.2.1.kept hbf
          have f40 := k4f.free 0
          have f41 := k4f.free 1
          have c40 : wf.cell? ⟨p4, 0, none⟩ = some (.int .i64 0) := k4f.cell 0
          have c41 : wf.cell? ⟨p4, 1, none⟩ = some (.slice none 0 0) := k4f.cell 1
          have l4f := k4f.lt
          have HBF := Lib.hid hbf
          clear hbf k4f
          go_wp2_with fail
          have hE := reply_end (x := .int .i64 err) (y := .slice none 0 0) ((H1.out.2.2.2.2.2.below H4.out.2.1).below HBF.out) ((SChg.of_below H4.out.2.2.2.2.2.2).post HBF.out) (by rw [HW.out.2.2]; omega)
          exact bodyPost_ret (v := .agg #[.int .i64 err, .slice none 0 0]) (by simp [results, Tryz.results92, go_sem, c40, c41]) rfl ⟨C, err, s, rfl, HF.out, hE.1, hE.2⟩
        · subst he
          cases is with
          | false =>
            have hno : s.st.get (shareN r.ix m) = none := by
              have := H3.out.1
              cases hg : s.st.get (shareN r.ix m) with
              | none => rfl
              | some b => rw [hg] at this; cases this
            have HNO := Lib.hid hno
            have c3 : w4.drew.cell? ⟨pb, 3, none⟩ = some (.pointer (some ⟨sb, 0, none⟩)) := (HA1.out.below H4.out.2.1).blk.cell 3
            have c5 : w4.drew.cell? ⟨p5, 1, none⟩ = some (.slice a' q c') := H4.out.2.2.2.1.cell 1
            obtain ⟨z1, hz1⟩ : ∃ z, z = (putR s.st (shareN r.ix m) x.2).1 := ⟨_, rfl⟩
            obtain ⟨st1, hst1⟩ : ∃ z, z = (putR s.st (shareN r.ix m) x.2).2 := ⟨_, rfl⟩
            have HZ := Lib.hid (And.intro hz1 hst1)
            clear hno hz1 hst1
            go_upto_region 10 with fail
            go_region_held3 (fun w' => w'.cell? ⟨pb, 3, none⟩ = some (.pointer (some ⟨sb, 0, none⟩)) ∧ w'.cell? ⟨p5, 1, none⟩ = some (.slice a' q c')) (first | exact ⟨c3, c5⟩ | with_reducible assumption)
              (first
                | (go_at_call 64
                   have hda4 := (HX.out.2.2.2.2.1.chg (S := fun _ => False) (Chg.of_below (H4.out.2.2.2.2.2.2.trans (Below.refl _ _).drew)) (fun _ h => h.elim) : DataZ w4.drew _ _ _)
                   refine (sput_calls _ sb lb d L s.st (shareN r.ix m) (.slice a' q c') x.2 w4.drew (HA1.out.below (H4.out.2.1.trans (Below.refl _ _).drew)).st hda4.1 (share_small H.out.2.2.1.ix m) (H.out.2.2.2.2.1 x (by rw [HX.out.1]; simp)) (fun w' hc => (hda4.chg (S := Foot sb lb d L) (w := w4.drew) hc (fun b hb _ => .inl (HA1.out.foot b hb))).1) (by have := H.out.2.1.writes; omega)).mono ?_
                   rintro e w5 ⟨rfl, hst5, hc5⟩
                   have hA5 := (HA1.out.below (H4.out.2.1.trans (Below.refl _ _).drew)).store hc5 hst5
                   have hcw : Chg C w w5 := (Chg.of_below (H4.out.2.2.2.2.2.2.trans (Below.refl _ _).drew)).trans (hc5.mono HA1.out.foot)
                   have hk55 := hc5.blk H4.out.2.2.2.1.drew (fun hf => by have := HA1.out.lt (.inl (HA1.out.foot _ hf)); have := HWA.out.2.2; omega)
                   have hh : w5.cell? ⟨pb, 3, none⟩ = some (.pointer (some ⟨sb, 0, none⟩)) ∧ w5.cell? ⟨p5, 1, none⟩ = some (.slice a' q c') := ⟨hA5.blk.cell 3, hk55.cell 1⟩
                   have HG := Lib.hid (And.intro hA5 (And.intro hcw hc5))
                   clear hda4 hst5 hA5 hcw hk55 hc5))
            have hp4C : ¬ C p4 := fun hC => by have := H.out.1.lt (.inl hC); have := HW.out.2.2; omega
            have hp3C : ¬ C p3 := fun hC => by have := H.out.1.lt (.inl hC); have := HW.out.2.1; omega
            have hA5 := HG.out.1
            rw [← HZ.out.2] at hA5
            rw [← HZ.out.1]
            have hk45 : Blk w5 p4 #[.int .i64 0, .slice none 0 0] 43 := HG.out.2.2.blk H4.out.2.2.1.drew (fun hf => hp4C (HA1.out.foot _ hf))
            have hR5 : ReqAt w5 p3 47 r := ReqAt.chg (w := w4.drew) ⟨H4.out.2.2.2.2.2.1.blk.drew, H.out.2.2.1⟩ HG.out.2.2 (fun hf => hp3C (HA1.out.foot _ hf))
            have H5 := Lib.hid (And.intro (show IsSrv w5 C (fun b => X b ∨ b = p4) pb { s with st := st1 } from ⟨sb, lb, d, L, tb, v, hA5⟩) (And.intro hk45 (And.intro hR5 (And.intro hp4C (And.intro hp3C (show SChg C C w w5 from ⟨HG.out.2.1, fun b hb => .inl hb⟩))))))
            clear hA5 hk45 hR5 hp4C hp3C c3 c5 hh
            by_cases hz0 : z1 = 0
            rotate_left
            · have t0 : (z1 != 0) = true := by simpa using hz0
              have t0' : (z1 == 0) = false := by simpa using hz0
              have HF : Hid (PutSh s r l z1 { s with st := st1 }) := by
                show PutSh s r l z1 { s with st := st1 }
                rw [HZ.out.1, HZ.out.2]
                exact PutSh.torn m x.2 H4.out.2.2.2.2.1 hm16 HM.out HNO.out H4.out.1 (by rw [← HZ.out.1]; exact hz0)
              replace hz0 := Lib.hid hz0
              go_wp2_with fail
              refine (fails_calls z1 w5).mono ?_
              rintro e wf ⟨rfl, hbf⟩
              have k4f := H5.out.2.1.kept hbf
              have f40 := k4f.free 0
              have f41 := k4f.free 1
              have c40 : wf.cell? ⟨p4, 0, none⟩ = some (.int .i64 0) := k4f.cell 0
              have c41 : wf.cell? ⟨p4, 1, none⟩ = some (.slice none 0 0) := k4f.cell 1
              have l4f := k4f.lt
              have HBF := Lib.hid hbf
              clear hbf k4f
              go_wp2_with fail
              have hE := reply_end (x := .int .i64 z1) (y := .slice none 0 0) ((H5.out.1).below HBF.out) ((H5.out.2.2.2.2.2).post HBF.out) (by rw [HW.out.2.2]; omega)
              exact bodyPost_ret (v := .agg #[.int .i64 z1, .slice none 0 0]) (by simp [results, Tryz.results92, go_sem, c40, c41]) rfl ⟨C, z1, { s with st := st1 }, rfl, HF.out, hE.1, hE.2⟩
            · have HZ0 := Lib.hid hz0
              subst hz0
              have r52 := H5.out.2.2.1.rall
              have g52 := H5.out.2.2.1.hall
              rw [← H3.out.2.2.2.2] at r52
              go_wp2_with fail
              refine (show Calls _ _ _ _ _ from (by rw [H3.out.2.2.2.2]; exact srvadd_calls C _ pb { s with st := st1 } r H.out.2.2.1 w5 H5.out.1 ⟨H.out.2.1.tab, by rw [HZ.out.2]; have h1 := put_writes s.st (shareN r.ix m) x.2; have h2 := hwr; have h3 := HA1.out.st.ok.room2; simp only; omega⟩)).mono ?_
              rintro e w6 ⟨C', err2, s', rfl, hadd, hs', hsc⟩
              have hk46 := hsc.1.blk H5.out.2.1 H5.out.2.2.2.1
              have HF : Hid (PutSh s r l err2 s') := by
                refine PutSh.put m x.2 err2 s' H4.out.2.2.2.2.1 hm16 HM.out HNO.out H4.out.1 HZ.out.1.symm ?_
                rw [← HZ.out.2]
                exact hadd
              have H6 := Lib.hid (And.intro hs' (And.intro (H5.out.2.2.2.2.2.trans hsc) hk46))
              clear hadd hs' hsc hk46 r52 g52
              by_cases h20 : err2 = 0
              · have t0 : (err2 == 0) = true := by simpa using h20
                subst h20
                go_wp2_with fail
                refine (fails_calls 0 w6).mono ?_
                rintro e wf ⟨rfl, hbf⟩
                have k4f := H6.out.2.2.kept hbf
                have f40 := k4f.free 0
                have f41 := k4f.free 1
                have c40 : wf.cell? ⟨p4, 0, none⟩ = some (.int .i64 0) := k4f.cell 0
                have c41 : wf.cell? ⟨p4, 1, none⟩ = some (.slice none 0 0) := k4f.cell 1
                have l4f := k4f.lt
                have HBF := Lib.hid hbf
                clear hbf k4f
                go_wp2_with fail
                have hE := reply_end (x := .int .i64 0) (y := .slice none 0 0) ((H6.out.1).below HBF.out) ((H6.out.2.1).post HBF.out) (by rw [HW.out.2.2]; omega)
                exact bodyPost_ret (v := .agg #[.int .i64 0, .slice none 0 0]) (by simp [results, Tryz.results92, go_sem, c40, c41]) rfl ⟨C', 0, s', rfl, HF.out, hE.1, hE.2⟩
              · have t0 : (err2 == 0) = false := by simpa using h20
                replace h20 := Lib.hid h20
                go_wp2_with fail
                refine (fails_calls err2 w6).mono ?_
                rintro e wf ⟨rfl, hbf⟩
                have k4f := H6.out.2.2.kept hbf
                have f40 := k4f.free 0
                have f41 := k4f.free 1
                have c40 : wf.cell? ⟨p4, 0, none⟩ = some (.int .i64 0) := k4f.cell 0
                have c41 : wf.cell? ⟨p4, 1, none⟩ = some (.slice none 0 0) := k4f.cell 1
                have l4f := k4f.lt
                have HBF := Lib.hid hbf
                clear hbf k4f
                go_wp2_with fail
                have hE := reply_end (x := .int .i64 err2) (y := .slice none 0 0) ((H6.out.1).below HBF.out) ((H6.out.2.1).post HBF.out) (by rw [HW.out.2.2]; omega)
                exact bodyPost_ret (v := .agg #[.int .i64 err2, .slice none 0 0]) (by simp [results, Tryz.results92, go_sem, c40, c41]) rfl ⟨C', err2, s', rfl, HF.out, hE.1, hE.2⟩
          | true =>
            have hsome : (s.st.get (shareN r.ix m)).isSome = true := H3.out.1.symm
            have HNO := Lib.hid hsome
            have hp4C : ¬ C p4 := fun hC => by have := H.out.1.lt (.inl hC); have := HW.out.2.2; omega
            have r52 := H4.out.2.2.2.2.2.1.rall
            have g52 := H4.out.2.2.2.2.2.1.hall
            rw [← H3.out.2.2.2.2] at r52
            clear hsome
            go_wp2_with fail
            refine (show Calls _ _ _ _ _ from (by rw [H3.out.2.2.2.2]; exact srvadd_calls C _ pb s r H.out.2.2.1 w4 (H1.out.2.2.2.2.2.below H4.out.2.1) H.out.2.1)).mono ?_
            rintro e w6 ⟨C', err2, s', rfl, hadd, hs', hsc⟩
            have hk46 := hsc.1.blk H4.out.2.2.1 hp4C
            have HF : Hid (PutSh s r l (if err2 = 0 then 5 else err2) s') := PutSh.there m x.2 err2 s' H4.out.2.2.2.2.1 hm16 HM.out HNO.out H4.out.1 hadd
            have H6 := Lib.hid (And.intro hs' (And.intro ((SChg.of_below H4.out.2.2.2.2.2.2).trans hsc) hk46))
            clear hadd hs' hsc hk46 r52 g52
            by_cases h20 : err2 = 0
            · have t0 : (err2 == 0) = true := by simpa using h20
              subst h20
              go_wp2_with fail
              refine (fails_calls 5 w6).mono ?_
              rintro e wf ⟨rfl, hbf⟩
              have k4f := H6.out.2.2.kept hbf
              have f40 := k4f.free 0
              have f41 := k4f.free 1
              have c40 : wf.cell? ⟨p4, 0, none⟩ = some (.int .i64 0) := k4f.cell 0
              have c41 : wf.cell? ⟨p4, 1, none⟩ = some (.slice none 0 0) := k4f.cell 1
              have l4f := k4f.lt
              have HBF := Lib.hid hbf
              clear hbf k4f
              go_wp2_with fail
              have hE := reply_end (x := .int .i64 5) (y := .slice none 0 0) ((H6.out.1).below HBF.out) ((H6.out.2.1).post HBF.out) (by rw [HW.out.2.2]; omega)
              exact bodyPost_ret (v := .agg #[.int .i64 5, .slice none 0 0]) (by simp [results, Tryz.results92, go_sem, c40, c41]) rfl ⟨C', 5, s', rfl, by simpa using HF.out, hE.1, hE.2⟩
            · have t0 : (err2 == 0) = false := by simpa using h20
              have HF2 : Hid (PutSh s r l err2 s') := by
                have := HF.out
                rwa [if_neg h20] at this
              clear HF
              replace h20 := Lib.hid h20
              go_wp2_with fail
              refine (fails_calls err2 w6).mono ?_
              rintro e wf ⟨rfl, hbf⟩
              have k4f := H6.out.2.2.kept hbf
              have f40 := k4f.free 0
              have f41 := k4f.free 1
              have c40 : wf.cell? ⟨p4, 0, none⟩ = some (.int .i64 0) := k4f.cell 0
              have c41 : wf.cell? ⟨p4, 1, none⟩ = some (.slice none 0 0) := k4f.cell 1
              have l4f := k4f.lt
              have HBF := Lib.hid hbf
              clear hbf k4f
              go_wp2_with fail
              have hE := reply_end (x := .int .i64 err2) (y := .slice none 0 0) ((H6.out.1).below HBF.out) ((H6.out.2.1).post HBF.out) (by rw [HW.out.2.2]; omega)
              exact bodyPost_ret (v := .agg #[.int .i64 err2, .slice none 0 0]) (by simp [results, Tryz.results92, go_sem, c40, c41]) rfl ⟨C', err2, s', rfl, HF2.out, hE.1, hE.2⟩
end Go.Proofs.YtbbojbdigiibbaaGreatDoor
end
section
namespace Go.Proofs.YtbbojbdigiibbaaGreatDoor
open Go Go.RowKit Go.Mem Gf Lea
inductive CanSrv (s : SrvS) (ix sec : Key) : Int → SrvS → Prop
  | no (h : CancelR s.tab ix sec false s.tab) : CanSrv s ix sec 4 s
  | laid (l2 : List Les) (err : Int) (s' : SrvS) (h : CancelR s.tab ix sec true l2) (hl : LayR s ix l2 err s') : CanSrv s ix sec err s'
theorem CancelR.len {l l' : List Les} {ix sec : Key} {b : Bool} (h : CancelR l ix sec b l') : l'.length ≤ l.length := by
  cases h with
  | no h => exact Nat.le_refl _
  | gone x l' h1 h2 hp => have := hp.length_eq; simp at this; omega
attribute [local irreducible] reqV
attribute [local go_sem ↓] Go.wp_at_zero Go.wp_at_succ
attribute [local go_sem ↓] load_key load_req
attribute [local go_sem] ptrB_eq ptrO_eq ptrIs_eq aggL_eq aggIs_eq readK_drew hasK_drew readK_alloc_past hasK_alloc_past
set_option maxRecDepth 100000 in
set_option maxHeartbeats 1000000 in
theorem can_calls (C X : Nat → Prop) (pb : Nat) (s : SrvS) (r : Req) (hr : r.Wf) (w : World) (h : IsSrv w C X pb s) (hB : SrvB s) :
    Calls Tryz.prog 96 #[.pointer (some ⟨pb, 0, none⟩), .agg (reqV r).toArray] w (Answers C X pb (CanSrv s r.ix r.sec) w) := by
  have hR := (ReqAt.new w 47 hr)
  have hb0 := (Below.refl w.heap.size w).alloc (Nat.le_refl _) (.cells (reqV r).toArray 47)
  have hb1 := hb0.alloc hb0.size (.cells #[.int .i64 0, .slice none 0 0] 43)
  have hR1 := hR.below ((Below.refl _ (w.alloc (.cells (reqV r).toArray 47))).alloc (Nat.le_refl _) (.cells #[.int .i64 0, .slice none 0 0] 43))
  have hk4 : Blk ((w.alloc (.cells (reqV r).toArray 47)).alloc (.cells #[.int .i64 0, .slice none 0 0] 43)) (w.heap.size + 1) #[.int .i64 0, .slice none 0 0] 43 := Blk.new_at _ _ _ _ (by simp)
  obtain ⟨cr, hcr⟩ : ∃ c, c = reqV r := ⟨_, rfl⟩
  rw [← hcr] at hR1 hb1 hk4
  rw [← hcr]
  have HCR := Lib.hid hcr
  obtain ⟨w0, hw0⟩ : ∃ x, x = (w.alloc (.cells cr.toArray 47)).alloc (.cells #[.int .i64 0, .slice none 0 0] 43) := ⟨_, rfl⟩
  obtain ⟨p3, hp3⟩ : ∃ p, p = w.heap.size := ⟨_, rfl⟩
  obtain ⟨p4, hp4⟩ : ∃ p, p = w.heap.size + 1 := ⟨_, rfl⟩
  have HW := Lib.hid (And.intro hw0 (And.intro hp3 hp4))
  rw [← hw0, ← hp3] at hR1
  rw [← hw0] at hb1
  rw [← hw0, ← hp4] at hk4
  have H := Lib.hid (And.intro h (And.intro hB hr))
  have hx4 : IsSrv w0 C (fun b => X b ∨ b = p4) pb s := h.growX (fun b hb => .inl hb) (fun b hb => hb.imp id (fun e => by rw [e, hp4]; omega)) hb1 (fun b hb => by rcases hb with hb | hb; exact Nat.lt_of_lt_of_le (h.lt (.inr hb)) hb1.size; rw [hb]; exact hk4.lt)
  have H0 := Lib.hid (And.intro hR1 (And.intro hb1 (And.intro hk4 hx4)))
  clear h hB hr hcr hw0 hp3 hp4 hR hR1 hb0 hb1 hk4 hx4
  go_enter Tryz.func96, Tryz.ntmps96
  go_upto_region 1 with fail
  rw [← HW.out.1, ← HW.out.2.2, ← HW.out.2.1]
  obtain ⟨sb, lb, d, L, tb, v, hA⟩ := H0.out.2.2.2
  have c4 : w0.cell? ⟨pb, 4, none⟩ = some (.pointer (some ⟨tb, 0, none⟩)) := hA.blk.cell 4
  have HA := Lib.hid hA
  clear hA
  go_wp2_with fail
  refine (clone_calls w0 tb v s.tab HA.out.heap (by have := H.out.2.1.tab; omega)).mono ?_
  rintro e w1 ⟨t2, v2, rfl, f1, f2, f3, f4⟩
  have hR1 := H0.out.1.below f4
  have r1 := hR1.rix
  have r2 := hR1.rsec
  have g1 := hR1.hix
  have g2 := hR1.hsec
  obtain ⟨ki, hki⟩ : ∃ c, c = bV r.ix := ⟨_, rfl⟩
  obtain ⟨ks, hks⟩ : ∃ c, c = bV r.sec := ⟨_, rfl⟩
  rw [← hki] at r1
  rw [← hks] at r2
  have H1 := Lib.hid (And.intro f1 (And.intro f2 (And.intro f3 (And.intro f4 (And.intro hki (And.intro hks hR1))))))
  clear f1 f2 f3 f4 hki hks hR1
  go_wp2_with fail
  refine (show Calls _ _ _ _ _ from (by rw [H1.out.2.2.2.2.1, H1.out.2.2.2.2.2.1]; exact cancel_calls w1 t2 v2 s.tab r.ix r.sec H1.out.2.2.1 (by have := H.out.2.1.tab; omega) H.out.2.2.ix H.out.2.2.sec)).mono ?_
  rintro e w2 ⟨b, v3, l2, rfl, ha, hh, hc⟩
  obtain ⟨q1, q2, q3, q4⟩ := own_add H0.out.2.2.2 H1.out.1 H1.out.2.1 H1.out.2.2.2.1 hc hh
  have hR2 := H0.out.1.below q2
  have r1' := hR2.rix
  have g1' := hR2.hix
  rw [← H1.out.2.2.2.2.1] at r1'
  have H2 := Lib.hid (And.intro q1 (And.intro q2 (And.intro q3 (And.intro q4 (And.intro ha (And.intro hh (H0.out.2.2.1.kept q2)))))))
  clear q1 q2 q3 q4 hR2 ha hh hc r1 r2 g1 g2
  cases b with
  | false =>
    have HF : Hid (CanSrv s r.ix r.sec 4 s) := by
      refine .no ?_
      have := H2.out.2.2.2.2.1
      cases this with
      | no h => exact .no h
    go_wp2_with fail
    refine (fails_calls 4 w2).mono ?_
    rintro e wf ⟨rfl, hbf⟩
    have k4f := H2.out.2.2.2.2.2.2.kept hbf
    have f40 := k4f.free 0
    have f41 := k4f.free 1
    have c40 : wf.cell? ⟨p4, 0, none⟩ = some (.int .i64 0) := k4f.cell 0
    have c41 : wf.cell? ⟨p4, 1, none⟩ = some (.slice none 0 0) := k4f.cell 1
    have l4f := k4f.lt
    have HBF := Lib.hid hbf
    clear hbf k4f
    go_wp2_with fail
    have hE := reply_end (x := .int .i64 4) (y := .slice none 0 0) ((H0.out.2.2.2.below H2.out.2.1).below HBF.out) ((SChg.of_below (H0.out.2.1.trans (H2.out.2.1.mono H0.out.2.1.size))).post HBF.out) (by rw [HW.out.2.2]; omega)
    exact bodyPost_ret (v := .agg #[.int .i64 4, .slice none 0 0]) (by simp [results, Tryz.results96, go_sem, c40, c41]) rfl ⟨C, 4, s, rfl, HF.out, hE.1, hE.2⟩
  | true =>
    go_wp2_with fail
    refine (show Calls _ _ _ _ _ from (by rw [H1.out.2.2.2.2.1]; exact lay_calls C _ pb s r.ix H.out.2.2.ix t2 v3 l2 w2 H2.out.1 H.out.2.1 H2.out.2.2.2.2.2.1 (H2.out.2.2.2.2.1.good HA.out.good) (by have := CancelR.len H2.out.2.2.2.2.1; have := H.out.2.1.tab; omega) (.inr H2.out.2.2.1) (fun g hg => .inr (H2.out.2.2.2.1 g hg)))).mono ?_
    rintro e w3 ⟨C', X', err, s', rfl, hl, hs', hc3, hC', hX'⟩
    have hp4C : ¬ C p4 := fun hC => by have := H.out.1.lt (.inl hC); have := HW.out.2.2; omega
    have hk3 := hc3.blk H2.out.2.2.2.2.2.2 hp4C
    have hw := H0.out.2.1
    have hz := hw.size
    have hb2 := hw.trans (H2.out.2.1.mono hz)
    have h4lt : p4 < w0.heap.size := H0.out.2.2.1.lt
    have hs3 : IsSrv w3 C' (fun b => X b ∨ b = p4) pb s' := hs'.shrinkX (fun b hb => hX' b (.inl hb) (by
      have hlt : b < w0.heap.size := by
        rcases hb with hb | hb
        · exact Nat.lt_of_lt_of_le (H.out.1.lt (.inr hb)) hz
        · rw [hb]; exact h4lt
      rintro (e | e)
      · have := H2.out.2.2.1.1; omega
      · have := (H2.out.2.2.2.1 b e).1; omega))
    have hcc : SChg C C' w w3 := ⟨(Chg.of_below hb2).trans hc3, fun b hb => by
      rcases hC' b hb with h | h | h
      · exact .inl h
      · right
        rw [h]
        exact Nat.le_trans hz H2.out.2.2.1.1
      · right
        exact Nat.le_trans hz (H2.out.2.2.2.1 b h).1⟩
    have HF : Hid (CanSrv s r.ix r.sec err s') := .laid l2 err s' H2.out.2.2.2.2.1 hl
    have HL := Lib.hid (And.intro hs3 (And.intro hcc hk3))
    clear hl hs' hc3 hC' hX' hp4C hk3 hw hz hb2 h4lt hs3 hcc
    go_wp2_with fail
    refine (fails_calls err w3).mono ?_
    rintro e wf ⟨rfl, hbf⟩
    have k4f := HL.out.2.2.kept hbf
    have f40 := k4f.free 0
    have f41 := k4f.free 1
    have c40 : wf.cell? ⟨p4, 0, none⟩ = some (.int .i64 0) := k4f.cell 0
    have c41 : wf.cell? ⟨p4, 1, none⟩ = some (.slice none 0 0) := k4f.cell 1
    have l4f := k4f.lt
    have HBF := Lib.hid hbf
    clear hbf k4f
    go_wp2_with fail
    have hE := reply_end (x := .int .i64 err) (y := .slice none 0 0) ((HL.out.1).below HBF.out) ((HL.out.2.1).post HBF.out) (by rw [HW.out.2.2]; omega)
    exact bodyPost_ret (v := .agg #[.int .i64 err, .slice none 0 0]) (by simp [results, Tryz.results96, go_sem, c40, c41]) rfl ⟨C', err, s', rfl, HF.out, hE.1, hE.2⟩
end Go.Proofs.YtbbojbdigiibbaaGreatDoor
end
section
namespace Go.Proofs.YtbbojbdigiibbaaGreatDoor
open Go Go.RowKit Go.Mem Gf Lea
def Gives (w : World) (l : List Blob) (e : Ending) (w' : World) : Prop :=
  ∃ u, e = .returned (.agg #[.int .i64 0, u]) ∧ OwnBl 53 w' w.heap.size (fun b => b < w.heap.size) u l ∧ Below w.heap.size w w'
theorem ownBl_weak {tr : TypeId} {w : World} {base base' : Nat} {N M : Nat → Prop} {u : Value} {l : List Blob} (h : OwnBl tr w base N u l) (hb : base' ≤ base) (hM : ∀ b, M b → N b ∨ w.heap.size ≤ b) : OwnBl tr w base' M u l := by
  obtain ⟨vs, h1, h2, h3, h4⟩ := h
  exact ⟨vs, h1, ⟨h2.1, h2.2.imp id fun ⟨g, cap, cur, a1, a2, a3⟩ => ⟨g, cap, cur, a1, Nat.le_trans hb a2, a3⟩⟩, fun j x v a b => (h3 j x v a b).mono hM, h4⟩
theorem gives_end {w w0 w1 : World} {p4 : Nat} {u x y : Value} {l : List Blob} (h : OwnBl 53 w1 w0.heap.size (fun b => b < w0.heap.size) u l) (hb : Below w.heap.size w w0) (hb1 : Below w0.heap.size w0 w1) (h4 : w.heap.size ≤ p4) (h4' : p4 < w0.heap.size) :
    OwnBl 53 ((w1.setCell ⟨p4, 0, none⟩ x).setCell ⟨p4, 1, none⟩ y) w.heap.size (fun b => b < w.heap.size) u l ∧ Below w.heap.size w ((w1.setCell ⟨p4, 0, none⟩ x).setCell ⟨p4, 1, none⟩ y) := by
  have hcc : Chg (fun b => b = p4) w1 ((w1.setCell ⟨p4, 0, none⟩ x).setCell ⟨p4, 1, none⟩ y) := Chg.set (S := fun b => b = p4) (a := ⟨p4, 1, none⟩) (Chg.set (S := fun b => b = p4) (a := ⟨p4, 0, none⟩) (Chg.refl _ _) rfl _) rfl _
  have hz := hb.size
  refine ⟨ownBl_weak (h.chg hcc (fun g hg e => ?_) (fun b hb _ => ?_)) hz (fun b hb => .inl ?_), ?_⟩
  · have := (h.lt g hg).1
    omega
  · rw [hb]; exact h4'
  · exact Nat.lt_of_lt_of_le (by assumption) hz
  · exact ((Chg.of_below (S := fun b => w.heap.size ≤ b) (hb.trans (hb1.mono hz))).mix hcc (fun k hk => .inl (by rw [hk]; exact h4))).below (Nat.le_refl _) (fun _ h => h)
theorem contK_len {s : SrvS} {ix : Key} {o : Option (Key × List Blob)} (h : ContIs s ix o) : (contK o).length = 16 := by
  cases o with
  | none => exact z16_len
  | some x => exact h.2.1
theorem field_l (b : Bool) (u : Value) (w : World) : ∀ (k : List Value), k.length = 16 → (Instr.field 205 (.agg (contV b k u).toArray) 2).run Tryz.prog w = .ok u w
  | [k0, k1, k2, k3, k4, k5, k6, k7, k8, k9, k10, k11, k12, k13, k14, k15], _ => by kernel_rfl
theorem field_is (b : Bool) (u : Value) (w : World) : ∀ (k : List Value), k.length = 16 → (Instr.field 205 (.agg (contV b k u).toArray) 0).run Tryz.prog w = .ok (.bool b) w
  | [k0, k1, k2, k3, k4, k5, k6, k7, k8, k9, k10, k11, k12, k13, k14, k15], _ => by kernel_rfl
attribute [local irreducible] reqV
attribute [local go_sem ↓] Go.wp_at_zero Go.wp_at_succ
attribute [local go_sem ↓] load_key load_req
attribute [local go_sem] ptrB_eq ptrO_eq ptrIs_eq aggL_eq aggIs_eq readK_drew hasK_drew readK_alloc_past hasK_alloc_past
set_option maxRecDepth 100000 in
set_option maxHeartbeats 1000000 in
theorem getShares_calls (C X : Nat → Prop) (pb : Nat) (s : SrvS) (r : Req) (hr : r.Wf) (w : World) (h : IsSrv w C X pb s) (hB : SrvB s) :
    Calls Tryz.prog 91 #[.pointer (some ⟨pb, 0, none⟩), .agg (reqV r).toArray] w (Gives w (s.shares r.ix)) := by
  have hR := (ReqAt.new w 47 hr)
  have hb0 := (Below.refl w.heap.size w).alloc (Nat.le_refl _) (.cells (reqV r).toArray 47)
  have hb1 := hb0.alloc hb0.size (.cells #[.int .i64 0, .slice none 0 0] 43)
  have hR1 := hR.below ((Below.refl _ (w.alloc (.cells (reqV r).toArray 47))).alloc (Nat.le_refl _) (.cells #[.int .i64 0, .slice none 0 0] 43))
  have hk4 : Blk ((w.alloc (.cells (reqV r).toArray 47)).alloc (.cells #[.int .i64 0, .slice none 0 0] 43)) (w.heap.size + 1) #[.int .i64 0, .slice none 0 0] 43 := Blk.new_at _ _ _ _ (by simp)
  obtain ⟨cr, hcr⟩ : ∃ c, c = reqV r := ⟨_, rfl⟩
  rw [← hcr] at hR1 hb1 hk4
  rw [← hcr]
  have HCR := Lib.hid hcr
  obtain ⟨w0, hw0⟩ : ∃ x, x = (w.alloc (.cells cr.toArray 47)).alloc (.cells #[.int .i64 0, .slice none 0 0] 43) := ⟨_, rfl⟩
  obtain ⟨p3, hp3⟩ : ∃ p, p = w.heap.size := ⟨_, rfl⟩
  obtain ⟨p4, hp4⟩ : ∃ p, p = w.heap.size + 1 := ⟨_, rfl⟩
  have HW := Lib.hid (And.intro hw0 (And.intro hp3 hp4))
  rw [← hw0, ← hp3] at hR1
  rw [← hw0] at hb1
  rw [← hw0, ← hp4] at hk4
  have H := Lib.hid (And.intro h (And.intro hB hr))
  have hx4 : IsSrv w0 C (fun b => X b ∨ b = p4) pb s := h.growX (fun b hb => .inl hb) (fun b hb => hb.imp id (fun e => by rw [e, hp4]; omega)) hb1 (fun b hb => by rcases hb with hb | hb; exact Nat.lt_of_lt_of_le (h.lt (.inr hb)) hb1.size; rw [hb]; exact hk4.lt)
  have H0 := Lib.hid (And.intro hR1 (And.intro hb1 (And.intro hk4 hx4)))
  clear h hB hr hcr hw0 hp3 hp4 hR hR1 hb0 hb1 hk4 hx4
  go_enter Tryz.func91, Tryz.ntmps91
  go_upto_region 1 with fail
  rw [← HW.out.1, ← HW.out.2.2, ← HW.out.2.1]
  have r1 := H0.out.1.rix
  have g1 := H0.out.1.hix
  have f40 := H0.out.2.2.1.free 0
  have f41 := H0.out.2.2.1.free 1
  have c40 : w0.cell? ⟨p4, 0, none⟩ = some (.int .i64 0) := H0.out.2.2.1.cell 0
  have c41 : w0.cell? ⟨p4, 1, none⟩ = some (.slice none 0 0) := H0.out.2.2.1.cell 1
  have l4 := H0.out.2.2.1.lt
  obtain ⟨ki, hki⟩ : ∃ c, c = bV r.ix := ⟨_, rfl⟩
  rw [← hki] at r1
  have HKI := Lib.hid hki
  clear hki
  go_wp2_with fail
  refine (show Calls _ _ _ _ _ from (by rw [HKI.out]; exact shares_calls C _ pb s r.ix H.out.2.2.ix w0 H0.out.2.2.2)).mono ?_
  rintro e w1 ⟨u, rfl, hu, hb1⟩
  obtain ⟨a5, c5, rfl, _⟩ := hu.slice
  obtain ⟨n, hn⟩ : ∃ n, n = (s.shares r.ix).length := ⟨_, rfl⟩
  rw [← hn] at hu ⊢
  have k4f := H0.out.2.2.1.kept hb1
  have f40 := k4f.free 0
  have f41 := k4f.free 1
  have c40 : w1.cell? ⟨p4, 0, none⟩ = some (.int .i64 0) := k4f.cell 0
  have c41 : w1.cell? ⟨p4, 1, none⟩ = some (.slice none 0 0) := k4f.cell 1
  have l4f := k4f.lt
  have HU := Lib.hid (And.intro hu (And.intro hb1 hn))
  clear hu hb1 hn k4f r1 g1
  go_wp2_with fail
  have hE := gives_end (x := .int .i64 0) (y := .slice a5 n c5) HU.out.1 H0.out.2.1 HU.out.2.1 (by rw [HW.out.2.2]; omega) H0.out.2.2.1.lt
  exact bodyPost_ret (v := .agg #[.int .i64 0, .slice a5 n c5]) (by simp [results, Tryz.results91, go_sem, c40, c41]) rfl ⟨.slice a5 n c5, rfl, hE.1, hE.2⟩
set_option maxRecDepth 100000 in
set_option maxHeartbeats 1000000 in
theorem readSlot_calls (C X : Nat → Prop) (pb : Nat) (s : SrvS) (r : Req) (o : Option (Key × List Blob)) (hr : r.Wf) (w : World) (h : IsSrv w C X pb s) (hB : SrvB s) (ho : ContIs s r.ix o) :
    Calls Tryz.prog 93 #[.pointer (some ⟨pb, 0, none⟩), .agg (reqV r).toArray] w (Gives w (contL o)) := by
  have hR := (ReqAt.new w 47 hr)
  have hb0 := (Below.refl w.heap.size w).alloc (Nat.le_refl _) (.cells (reqV r).toArray 47)
  have hb1 := hb0.alloc hb0.size (.cells #[.int .i64 0, .slice none 0 0] 43)
  have hR1 := hR.below ((Below.refl _ (w.alloc (.cells (reqV r).toArray 47))).alloc (Nat.le_refl _) (.cells #[.int .i64 0, .slice none 0 0] 43))
  have hk4 : Blk ((w.alloc (.cells (reqV r).toArray 47)).alloc (.cells #[.int .i64 0, .slice none 0 0] 43)) (w.heap.size + 1) #[.int .i64 0, .slice none 0 0] 43 := Blk.new_at _ _ _ _ (by simp)
  obtain ⟨cr, hcr⟩ : ∃ c, c = reqV r := ⟨_, rfl⟩
  rw [← hcr] at hR1 hb1 hk4
  rw [← hcr]
  have HCR := Lib.hid hcr
  obtain ⟨w0, hw0⟩ : ∃ x, x = (w.alloc (.cells cr.toArray 47)).alloc (.cells #[.int .i64 0, .slice none 0 0] 43) := ⟨_, rfl⟩
  obtain ⟨p3, hp3⟩ : ∃ p, p = w.heap.size := ⟨_, rfl⟩
  obtain ⟨p4, hp4⟩ : ∃ p, p = w.heap.size + 1 := ⟨_, rfl⟩
  have HW := Lib.hid (And.intro hw0 (And.intro hp3 hp4))
  rw [← hw0, ← hp3] at hR1
  rw [← hw0] at hb1
  rw [← hw0, ← hp4] at hk4
  have H := Lib.hid (And.intro h (And.intro hB hr))
  have hx4 : IsSrv w0 C (fun b => X b ∨ b = p4) pb s := h.growX (fun b hb => .inl hb) (fun b hb => hb.imp id (fun e => by rw [e, hp4]; omega)) hb1 (fun b hb => by rcases hb with hb | hb; exact Nat.lt_of_lt_of_le (h.lt (.inr hb)) hb1.size; rw [hb]; exact hk4.lt)
  have H0 := Lib.hid (And.intro hR1 (And.intro hb1 (And.intro hk4 hx4)))
  clear h hB hr hcr hw0 hp3 hp4 hR hR1 hb0 hb1 hk4 hx4
  have HO := Lib.hid ho
  go_enter Tryz.func93, Tryz.ntmps93
  go_upto_region 1 with fail
  rw [← HW.out.1, ← HW.out.2.2, ← HW.out.2.1]
  have r1 := H0.out.1.rix
  have g1 := H0.out.1.hix
  have f40 := H0.out.2.2.1.free 0
  have f41 := H0.out.2.2.1.free 1
  have c40 : w0.cell? ⟨p4, 0, none⟩ = some (.int .i64 0) := H0.out.2.2.1.cell 0
  have c41 : w0.cell? ⟨p4, 1, none⟩ = some (.slice none 0 0) := H0.out.2.2.1.cell 1
  have l4 := H0.out.2.2.1.lt
  obtain ⟨ki, hki⟩ : ∃ c, c = bV r.ix := ⟨_, rfl⟩
  rw [← hki] at r1
  have HKI := Lib.hid hki
  clear hki
  go_wp2_with fail
  refine (show Calls _ _ _ _ _ from (by rw [HKI.out]; exact container_calls C _ pb s r.ix H.out.2.2.ix o w0 H0.out.2.2.2 ho)).mono ?_
  rintro e w1 ⟨u, rfl, hu, hb1⟩
  obtain ⟨a5, c5, rfl, _⟩ := hu.slice
  obtain ⟨kc, hkc⟩ : ∃ c, c = bV (contK o) := ⟨_, rfl⟩
  rw [← hkc]
  have HKC := Lib.hid hkc
  clear hkc
  have fl : ∀ u w, (Instr.field 205 (.agg (contV o.isSome kc u).toArray) 2).run Tryz.prog w = .ok u w := fun u w => field_l _ u w kc (by rw [HKC.out, bV_len]; exact contK_len HO.out)
  obtain ⟨n, hn⟩ : ∃ n, n = (contL o).length := ⟨_, rfl⟩
  rw [← hn] at hu ⊢
  have k4f := H0.out.2.2.1.kept hb1
  have f40 := k4f.free 0
  have f41 := k4f.free 1
  have c40 : w1.cell? ⟨p4, 0, none⟩ = some (.int .i64 0) := k4f.cell 0
  have c41 : w1.cell? ⟨p4, 1, none⟩ = some (.slice none 0 0) := k4f.cell 1
  have l4f := k4f.lt
  have HU := Lib.hid (And.intro hu (And.intro hb1 hn))
  clear hu hb1 hn k4f r1 g1
  go_wp2_with fail
  have hE := gives_end (x := .int .i64 0) (y := .slice a5 n c5) HU.out.1 H0.out.2.1 HU.out.2.1 (by rw [HW.out.2.2]; omega) H0.out.2.2.1.lt
  exact bodyPost_ret (v := .agg #[.int .i64 0, .slice a5 n c5]) (by simp [results, Tryz.results93, go_sem, c40, c41]) rfl ⟨.slice a5 n c5, rfl, hE.1, hE.2⟩
end Go.Proofs.YtbbojbdigiibbaaGreatDoor
end
