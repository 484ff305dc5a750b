/- Texts of this proof, packed: SrvPut, SrvCan, SrvGet, SrvRen, FnMap, SrvHand, SrvDo, SrvOk, SrvLaw, SrvNew. -/
import Derived.Test.YtclhgokchcklbaaGreatDoorPk11
import Derived.Test.YtclhgokchcklbaaGreatDoorPk08
import Derived.Test.YtclhgokchcklbaaGreatDoorPk09
import Derived.MapKept
import Derived.Below
section
namespace Go.Proofs.YtclhgokchcklbaaGreatDoor
open Go Go.RowKit Go.Mem Gf Lea
theorem i52 : (Tryz.prog.info? 47).map (·.size) = some 52 := by kernel_rfl
theorem load_req (dst : Option Tmp) (x : Operand) (ty : TypeId) (pos : String) (af : Array Edge) (gd : Option (Tmp × Bool)) (a : Act) (w : World) (K : Act → World → Prop) (Q : Exit → Act → World → Prop)
    (hp : ptrIs (a.eval x) = true) (ht : HasK 52 w (ptrB (a.eval x)) (ptrO (a.eval x))) :
    Oper.wp Tryz.prog ⟨dst, .load 47 x, ty, pos, af, gd⟩ a w K Q = K (a.put dst (.agg (readK 52 w (ptrB (a.eval x)) (ptrO (a.eval x))).toArray)) w :=
  wp_loadG Tryz.underlying47 rfl i52 dst x ty pos af gd a w K Q hp ht
inductive PutSh (s : SrvS) (r : Req) (l : List Blob) : Int → SrvS → Prop
  | form (h : ¬ (l.length = 1 ∧ NumsOk l ∧ May r.ends)) : PutSh s r l 2 s
  | no (n : Nat) (data : List UInt8) (err : Int) (hl : l = [((n : Int), data)]) (hn : n < 16) (hm : May r.ends) (ha : AskR s r.ix r.sec r.ends (shareN r.ix n) data (s.st.get (shareN r.ix n)).isSome err) (h0 : err ≠ 0) : PutSh s r l err s
  | torn (n : Nat) (data : List UInt8) (hl : l = [((n : Int), data)]) (hn : n < 16) (hm : May r.ends) (hg : s.st.get (shareN r.ix n) = none) (ha : AskR s r.ix r.sec r.ends (shareN r.ix n) data false 0) (h0 : (putR s.st (shareN r.ix n) data).1 ≠ 0) : PutSh s r l (putR s.st (shareN r.ix n) data).1 { s with st := (putR s.st (shareN r.ix n) data).2 }
  | put (n : Nat) (data : List UInt8) (err : Int) (s' : SrvS) (hl : l = [((n : Int), data)]) (hn : n < 16) (hm : May r.ends) (hg : s.st.get (shareN r.ix n) = none) (ha : AskR s r.ix r.sec r.ends (shareN r.ix n) data false 0) (h0 : (putR s.st (shareN r.ix n) data).1 = 0) (hs : AddSrv { s with st := (putR s.st (shareN r.ix n) data).2 } r.ix r.sec r.ends err s') : PutSh s r l err s'
  | there (n : Nat) (data : List UInt8) (err : Int) (s' : SrvS) (hl : l = [((n : Int), data)]) (hn : n < 16) (hm : May r.ends) (hg : (s.st.get (shareN r.ix n)).isSome = true) (ha : AskR s r.ix r.sec r.ends (shareN r.ix n) data true 0) (hs : AddSrv s r.ix r.sec r.ends err s') : PutSh s r l (if err = 0 then 5 else err) s'
theorem share_small {ix : Key} (h : ix.length = 16) (n : Nat) : (shareN ix n).size ≤ 1000000 := by
  have : (shareN ix n).size = 18 := by
    show (115 :: (ix ++ [UInt8.ofNat n])).toArray.size = 18
    simp [h]
  omega
def Answers (C X : Nat → Prop) (pb : Nat) (R : Int → SrvS → Prop) (w : World) (e : Ending) (w' : World) : Prop :=
  ∃ C' err s', e = .returned (.agg #[.int .i64 err, .slice none 0 0]) ∧ R err s' ∧ IsSrv w' C' X pb s' ∧ SChg C C' w w'
theorem IsSrv.shrinkX {w : World} {C X X' : Nat → Prop} {pb : Nat} {s : SrvS} (h : IsSrv w C X pb s) (hx : ∀ b, X' b → X b) : IsSrv w C X' pb s := by
  obtain ⟨sb, lb, d, L, tb, v, h⟩ := h
  exact ⟨sb, lb, d, L, tb, v, h.shrinkX hx⟩
theorem IsSrv.xc {w : World} {C X : Nat → Prop} {pb : Nat} {s : SrvS} (h : IsSrv w C X pb s) : ∀ b, X b → ¬ C b := by
  obtain ⟨sb, lb, d, L, tb, v, h⟩ := h
  exact h.xc
theorem reply_end {w w' : World} {C C' X : Nat → Prop} {pb p4 : Nat} {s' : SrvS} (h : IsSrv w' C' (fun b => X b ∨ b = p4) pb s') (hc : SChg C C' w w') (h4 : w.heap.size ≤ p4) (x y : Value) :
    IsSrv ((w'.setCell ⟨p4, 0, none⟩ x).setCell ⟨p4, 1, none⟩ y) C' X pb s' ∧ SChg C C' w ((w'.setCell ⟨p4, 0, none⟩ x).setCell ⟨p4, 1, none⟩ y) := by
  have hcc : Chg (fun b => b = p4) w' ((w'.setCell ⟨p4, 0, none⟩ x).setCell ⟨p4, 1, none⟩ y) := Chg.set (S := fun b => b = p4) (a := ⟨p4, 1, none⟩) (Chg.set (S := fun b => b = p4) (a := ⟨p4, 0, none⟩) (Chg.refl _ _) rfl _) rfl _
  refine ⟨(h.chg hcc (fun b hb => ?_) (fun b hb _ => .inr hb)).shrinkX (fun b hb => .inl hb), ⟨hc.1.mix hcc (fun k hk => .inr (by rw [hk]; exact h4)), hc.2⟩⟩
  rw [hb]
  exact h.xc p4 (.inr rfl)
attribute [local irreducible] reqV
attribute [local go_sem ↓] Go.wp_at_zero Go.wp_at_succ
attribute [local go_sem ↓] load_key load_req
attribute [local go_sem] ptrB_eq ptrO_eq ptrIs_eq aggL_eq aggIs_eq readK_drew hasK_drew readK_alloc_past hasK_alloc_past
set_option maxRecDepth 100000 in
set_option maxHeartbeats 2000000 in
theorem put_calls16 (C X : Nat → Prop) (pb : Nat) (s : SrvS) (r : Req) (l : List Blob) (hr : r.Wf) (w : World) (h : IsSrv w C X pb s) (hB : SrvB s) (hwr : s.st.disk.writes < 72057594037800000) (hl : BlAt w (fun b => C b ∨ X b) r.vb l) (hd : ∀ x ∈ l, x.2.length ≤ 1000000) :
    Calls Tryz.prog 76 #[.pointer (some ⟨pb, 0, none⟩), .agg (reqV r).toArray] w (Answers C X pb (PutSh s r l) w) := by
  obtain ⟨la, lc, hvb, hlc1, hlc2, hrow⟩ := id hl
  obtain ⟨n, hn⟩ : ∃ n, n = l.length := ⟨_, rfl⟩
  rw [← hn] at hvb hlc1 hrow
  have hR := (ReqAt.new w 47 hr)
  have hb0 := (Below.refl w.heap.size w).alloc (Nat.le_refl _) (.cells (reqV r).toArray 47)
  have hb1 := hb0.alloc hb0.size (.cells #[.int .i64 0, .slice none 0 0] 49)
  have hR1 := hR.below ((Below.refl _ (w.alloc (.cells (reqV r).toArray 47))).alloc (Nat.le_refl _) (.cells #[.int .i64 0, .slice none 0 0] 49))
  have hk4 : Blk ((w.alloc (.cells (reqV r).toArray 47)).alloc (.cells #[.int .i64 0, .slice none 0 0] 49)) (w.heap.size + 1) #[.int .i64 0, .slice none 0 0] 49 := Blk.new_at _ _ _ _ (by simp)
  obtain ⟨cr, hcr⟩ : ∃ c, c = reqV r := ⟨_, rfl⟩
  rw [← hcr] at hR1 hb1 hk4
  rw [← hcr]
  have HCR := Lib.hid hcr
  obtain ⟨w0, hw0⟩ : ∃ x, x = (w.alloc (.cells cr.toArray 47)).alloc (.cells #[.int .i64 0, .slice none 0 0] 49) := ⟨_, rfl⟩
  obtain ⟨p3, hp3⟩ : ∃ p, p = w.heap.size := ⟨_, rfl⟩
  obtain ⟨p4, hp4⟩ : ∃ p, p = w.heap.size + 1 := ⟨_, rfl⟩
  have HW := Lib.hid (And.intro hw0 (And.intro hp3 hp4))
  rw [← hw0, ← hp3] at hR1
  rw [← hw0] at hb1
  rw [← hw0, ← hp4] at hk4
  have H := Lib.hid (And.intro h (And.intro hB (And.intro hr (And.intro hl (And.intro hd hn)))))
  have hx4 : IsSrv w0 C (fun b => X b ∨ b = p4) pb s := h.growX (fun b hb => .inl hb) (fun b hb => hb.imp id (fun e => by rw [e, hp4]; omega)) hb1 (fun b hb => by rcases hb with hb | hb; exact Nat.lt_of_lt_of_le (h.lt (.inr hb)) hb1.size; rw [hb]; exact hk4.lt)
  have H0 := Lib.hid (And.intro hR1 (And.intro hb1 (And.intro hk4 hx4)))
  have c33 := hR1.ends
  have c51 := hR1.blobs
  rw [hvb] at c51
  clear h hB hr hl hd hn hcr hw0 hp3 hp4 hR hR1 hb0 hb1 hk4 hx4
  go_enter Tryz.func76, Tryz.ntmps76
  go_upto_region 1 with fail
  rw [← HW.out.1, ← HW.out.2.2, ← HW.out.2.1]
  have HVB := Lib.hid hvb
  clear hvb
  by_cases h1 : n = 1
  rotate_left
  · have d1 : ((n : Int) != 1) = true := by simp; omega
    have d1' : (n != 1) = true := by simp; omega
    have HF : Hid (PutSh s r l 2 s) := PutSh.form (by rintro ⟨e, _⟩; have := H.out.2.2.2.2.2; omega)
    go_wp2_with fail
    refine (fails_calls 2 w0).mono ?_
    rintro e w1 ⟨rfl, hb⟩
    have k4 := H0.out.2.2.1.kept hb
    have f40 := k4.free 0
    have f41 := k4.free 1
    have c40 : w1.cell? ⟨p4, 0, none⟩ = some (.int .i64 0) := k4.cell 0
    have c41 : w1.cell? ⟨p4, 1, none⟩ = some (.slice none 0 0) := k4.cell 1
    have l4 := k4.lt
    have HB1 := Lib.hid (And.intro hb k4)
    clear hb k4
    go_wp2_with fail
    have hE := reply_end (x := .int .i64 2) (y := .slice none 0 0) (H0.out.2.2.2.below HB1.out.1) (SChg.of_below (H0.out.2.1.trans (HB1.out.1.mono H0.out.2.1.size))) (by rw [HW.out.2.2]; omega)
    exact bodyPost_ret (v := .agg #[.int .i64 2, .slice none 0 0]) (by simp [results, Tryz.results76, go_sem, c40, c41]) rfl ⟨C, 2, s, rfl, HF.out, hE.1, hE.2⟩
  · obtain ⟨x, hx⟩ : ∃ x, l = [x] := by
      match l, H.out.2.2.2.2.2 with
      | [x], _ => exact ⟨x, rfl⟩
      | [], e => simp at e; omega
      | _ :: _ :: _, e => simp at e; omega
    obtain ⟨b, off, rfl, hbl, hnN, hcells⟩ := hrow (by omega)
    obtain ⟨q1, a', c', q2, hda⟩ := hcells 0 x (by rw [hx]; rfl)
    rw [Nat.zero_mul, Nat.add_zero] at q1 q2
    obtain ⟨q, hq⟩ : ∃ q, q = x.2.length := ⟨_, rfl⟩
    rw [← hq] at q2 hda
    obtain ⟨z, hz⟩ : ∃ z, z = x.1 := ⟨_, rfl⟩
    rw [← hz] at q1
    have HX := Lib.hid (And.intro hx (And.intro hbl (And.intro q1 (And.intro q2 (And.intro hda (And.intro hq hz))))))
    subst h1
    clear hx hbl hnN hcells q1 q2 hda hq hz
    have d1 : ((1 : Int) != 1) = false := by decide
    have hblobs := blobs_calls _ r.vb l w0 (H.out.2.2.2.1.below H0.out.2.1)
    rw [HVB.out] at hblobs
    go_wp2_with fail
    refine hblobs.mono ?_
    rintro e w1 ⟨bb, rfl, hbb, hb1⟩
    clear hblobs
    have k41 := H0.out.2.2.1.kept hb1
    have hw01 := H0.out.2.1.trans (hb1.mono H0.out.2.1.size)
    have hR1 := H0.out.1.below hb1
    have c33 := hR1.ends
    have c51 := hR1.blobs
    rw [HVB.out] at c51
    have H1 := Lib.hid (And.intro hbb (And.intro hb1 (And.intro k41 (And.intro hw01 (And.intro hR1 (H0.out.2.2.2.below hb1))))))
    clear hbb hb1 k41 hw01 hR1
    cases bb with
    | false =>
      have HF : Hid (PutSh s r l 2 s) := PutSh.form (fun h => Bool.noConfusion (H1.out.1.2 h.2.1))
      go_wp2_with fail
      refine (fails_calls 2 w1).mono ?_
      rintro e wf ⟨rfl, hbf⟩
      have k4f := H1.out.2.2.1.kept hbf
      have f40 := k4f.free 0
      have f41 := k4f.free 1
      have c40 : wf.cell? ⟨p4, 0, none⟩ = some (.int .i64 0) := k4f.cell 0
      have c41 : wf.cell? ⟨p4, 1, none⟩ = some (.slice none 0 0) := k4f.cell 1
      have l4f := k4f.lt
      have HBF := Lib.hid hbf
      clear hbf k4f
      go_wp2_with fail
      have hE := reply_end (x := .int .i64 2) (y := .slice none 0 0) ((H1.out.2.2.2.2.2).below HBF.out) ((SChg.of_below H1.out.2.2.2.1).post HBF.out) (by rw [HW.out.2.2]; omega)
      exact bodyPost_ret (v := .agg #[.int .i64 2, .slice none 0 0]) (by simp [results, Tryz.results76, go_sem, c40, c41]) rfl ⟨C, 2, s, rfl, HF.out, hE.1, hE.2⟩
    | true =>
      go_wp2_with fail
      refine (time_calls r.ends w1).mono ?_
      rintro e wt ⟨rfl, rfl⟩
      by_cases hmay : May r.ends
      rotate_left
      · have HF : Hid (PutSh s r l 2 s) := PutSh.form (fun h => hmay h.2.2)
        have dm : decide (May r.ends) = false := by simpa using hmay
        replace hmay := Lib.hid hmay
        go_wp2_with fail
        refine (fails_calls 2 w1).mono ?_
        rintro e wf ⟨rfl, hbf⟩
        have k4f := H1.out.2.2.1.kept hbf
        have f40 := k4f.free 0
        have f41 := k4f.free 1
        have c40 : wf.cell? ⟨p4, 0, none⟩ = some (.int .i64 0) := k4f.cell 0
        have c41 : wf.cell? ⟨p4, 1, none⟩ = some (.slice none 0 0) := k4f.cell 1
        have l4f := k4f.lt
        have HBF := Lib.hid hbf
        clear hbf k4f
        go_wp2_with fail
        have hE := reply_end (x := .int .i64 2) (y := .slice none 0 0) ((H1.out.2.2.2.2.2).below HBF.out) ((SChg.of_below H1.out.2.2.2.1).post HBF.out) (by rw [HW.out.2.2]; omega)
        exact bodyPost_ret (v := .agg #[.int .i64 2, .slice none 0 0]) (by simp [results, Tryz.results76, go_sem, c40, c41]) rfl ⟨C, 2, s, rfl, HF.out, hE.1, hE.2⟩
      · have dm : decide (May r.ends) = true := by simpa using hmay
        have HM := Lib.hid hmay
        have hnum := (H1.out.1.1 (by first | rfl | trivial)).1 x (by rw [HX.out.1]; simp)
        obtain ⟨m, hm⟩ : ∃ m : Nat, (m : Int) = z := ⟨z.toNat, by rw [HX.out.2.2.2.2.2.2]; omega⟩
        have hm16 : m < 16 := by have := HX.out.2.2.2.2.2.2; omega
        have q1 : w1.cell? ⟨b, off, none⟩ = some (.int .i64 z) := (H1.out.2.2.2.1.cell (p := ⟨b, off, none⟩) HX.out.2.1).trans HX.out.2.2.1
        have q2 : w1.cell? ⟨b, off + 1, none⟩ = some (.slice a' q c') := (H1.out.2.2.2.1.cell (p := ⟨b, off + 1, none⟩) HX.out.2.1).trans HX.out.2.2.2.1
        rw [← hm] at q1
        have HMZ := Lib.hid hm
        have rk := H1.out.2.2.2.2.1.rix
        have gk := H1.out.2.2.2.2.1.hix
        have lp3 := H1.out.2.2.2.2.1.lt
        have lp4 := H1.out.2.2.1.lt
        obtain ⟨ki, hki⟩ : ∃ c, c = bV r.ix := ⟨_, rfl⟩
        rw [← hki] at rk
        have HKI := Lib.hid hki
        clear hmay hnum hm hki
        obtain ⟨sb, lb, d, L, tb, v, hA1⟩ := H1.out.2.2.2.2.2
        have HA1 := Lib.hid hA1
        clear hA1
        go_upto_region 4 with fail
        have hk5 : Blk (w1.alloc (.cells #[.int .i64 m, .slice a' q c'] 41)) w1.heap.size #[.int .i64 m, .slice a' q c'] 41 := Blk.new _ _ _
        have hbA : Below w1.heap.size w1 (w1.alloc (.cells #[.int .i64 m, .slice a' q c'] 41)) := (Below.refl _ _).alloc (Nat.le_refl _) _
        obtain ⟨wa, hwa⟩ : ∃ x, x = w1.alloc (.cells #[.int .i64 m, .slice a' q c'] 41) := ⟨_, rfl⟩
        obtain ⟨p5, hp5⟩ : ∃ x, x = w1.heap.size := ⟨_, rfl⟩
        rw [← hwa] at hk5 hbA ⊢
        rw [← hp5] at hk5 ⊢
        have HWA := Lib.hid (And.intro hk5 (And.intro hbA hp5))
        have c50 : wa.cell? ⟨p5, 0, none⟩ = some (.int .i64 m) := hk5.cell 0
        have hRa := H1.out.2.2.2.2.1.below hbA
        have rk := hRa.rix
        have gk := hRa.hix
        rw [← HKI.out] at rk
        clear hk5 hbA hwa hp5 hRa
        go_wp2_with fail
        refine (show Calls _ _ _ _ _ from (by rw [HKI.out]; exact share_calls r.ix H.out.2.2.1.ix m hm16 wa)).mono ?_
        rintro e w2 ⟨rfl, hb2⟩
        have hb12 := HWA.out.2.1.trans (hb2.mono HWA.out.2.1.size)
        have c3 : w2.cell? ⟨pb, 3, none⟩ = some (.pointer (some ⟨sb, 0, none⟩)) := (HA1.out.below hb12).blk.cell 3
        have H2 := Lib.hid (And.intro hb2 hb12)
        clear hb2 hb12 rk gk c50
        go_wp2_with fail
        refine (sget_calls _ sb lb d L s.st (shareN r.ix m) w2 (HA1.out.below H2.out.2).st).mono ?_
        rintro e w3 ⟨hb3, vg, rfl, hvg⟩
        obtain ⟨is, his⟩ : ∃ b, b = (s.st.get (shareN r.ix m)).isSome := ⟨_, rfl⟩
        rw [← his]
        have hb13 := H2.out.2.trans (hb3.mono H2.out.2.size)
        have hR3 := H1.out.2.2.2.2.1.below hb13
        have hk53 := (HWA.out.1.kept H2.out.1).kept hb3
        have r52 := hR3.rall
        have g52 := hR3.hall
        obtain ⟨cr2, hcr2⟩ : ∃ c, c = reqV r := ⟨_, rfl⟩
        rw [← hcr2] at r52
        have c51' : w3.cell? ⟨p5, 1, none⟩ = some (.slice a' q c') := hk53.cell 1
        have H3 := Lib.hid (And.intro his (And.intro hb13 (And.intro hR3 (And.intro hk53 hcr2))))
        clear hb3 hvg his hb13 hR3 hk53 hcr2 c3 q1 q2
        go_wp2_with fail
        have hlen : (shareN r.ix m).size ≤ 1000000 := by
          have : (shareN r.ix m).size = 18 := by
            show (115 :: (r.ix ++ [UInt8.ofNat m])).toArray.size = 18
            simp [H.out.2.2.1.ix]
          omega
        have hdata : Bys w3 (.slice a' q c') x.2 := (HX.out.2.2.2.2.1.1).below (H1.out.2.2.2.1.trans (H3.out.2.1.mono H1.out.2.2.2.1.size))
        refine (show Calls _ _ _ _ _ from (by rw [H3.out.2.2.2.2]; exact asks_calls C _ pb s r H.out.2.2.1 (shareN r.ix m) (.slice a' q c') x.2 is w3 (H1.out.2.2.2.2.2.below H3.out.2.1) H.out.2.1 hdata hlen)).mono ?_
        rintro e w4 ⟨err, rfl, hask, hb4⟩
        have hb14 := H3.out.2.1.trans (hb4.mono H3.out.2.1.size)
        have hlx : l = [((m : Int), x.2)] := by
          rw [HX.out.1]
          congr 1
          exact Prod.ext (by rw [← HX.out.2.2.2.2.2.2, HMZ.out]) rfl
        have H4 := Lib.hid (And.intro hask (And.intro hb14 (And.intro (H1.out.2.2.1.kept hb14) (And.intro (H3.out.2.2.2.1.kept hb4) (And.intro hlx (And.intro (H1.out.2.2.2.2.1.below hb14) (H1.out.2.2.2.1.trans (hb14.mono H1.out.2.2.2.1.size))))))))
        clear hask hb4 hb14 hlx hlen hdata r52 g52 c51'
        by_cases he : err = 0
        rotate_left
        · have t0 : (err != 0) = true := by simpa using he
          have t0' : (err == 0) = false := by simpa using he
          have HF : Hid (PutSh s r l err s) := PutSh.no m x.2 err H4.out.2.2.2.2.1 hm16 HM.out (by rw [← H3.out.1]; exact H4.out.1) he
          replace he := Lib.hid he
          go_wp2_with fail
          refine (fails_calls err w4).mono ?_
          rintro e wf ⟨rfl, hbf⟩
          have k4f := H4.out.2.2.1.kept hbf
          have f40 := k4f.free 0
          have f41 := k4f.free 1
          have c40 : wf.cell? ⟨p4, 0, none⟩ = some (.int .i64 0) := k4f.cell 0
          have c41 : wf.cell? ⟨p4, 1, none⟩ = some (.slice none 0 0) := k4f.cell 1
          have l4f := k4f.lt
          have HBF := Lib.hid hbf
          clear hbf k4f
          go_wp2_with fail
          have hE := reply_end (x := .int .i64 err) (y := .slice none 0 0) ((H1.out.2.2.2.2.2.below H4.out.2.1).below HBF.out) ((SChg.of_below H4.out.2.2.2.2.2.2).post HBF.out) (by rw [HW.out.2.2]; omega)
          exact bodyPost_ret (v := .agg #[.int .i64 err, .slice none 0 0]) (by simp [results, Tryz.results76, go_sem, c40, c41]) rfl ⟨C, err, s, rfl, HF.out, hE.1, hE.2⟩
        · subst he
          cases is with
          | false =>
            have hno : s.st.get (shareN r.ix m) = none := by
              have := H3.out.1
              cases hg : s.st.get (shareN r.ix m) with
              | none => rfl
              | some b => rw [hg] at this; cases this
            have HNO := Lib.hid hno
            have c3 : w4.drew.cell? ⟨pb, 3, none⟩ = some (.pointer (some ⟨sb, 0, none⟩)) := (HA1.out.below H4.out.2.1).blk.cell 3
            have c5 : w4.drew.cell? ⟨p5, 1, none⟩ = some (.slice a' q c') := H4.out.2.2.2.1.cell 1
            obtain ⟨z1, hz1⟩ : ∃ z, z = (putR s.st (shareN r.ix m) x.2).1 := ⟨_, rfl⟩
            obtain ⟨st1, hst1⟩ : ∃ z, z = (putR s.st (shareN r.ix m) x.2).2 := ⟨_, rfl⟩
            have HZ := Lib.hid (And.intro hz1 hst1)
            clear hno hz1 hst1
            go_upto_region 10 with fail
            go_region_held3 (fun w' => w'.cell? ⟨pb, 3, none⟩ = some (.pointer (some ⟨sb, 0, none⟩)) ∧ w'.cell? ⟨p5, 1, none⟩ = some (.slice a' q c')) (first | exact ⟨c3, c5⟩ | with_reducible assumption)
              (first
                | (go_at_call 100
                   have hda4 := (HX.out.2.2.2.2.1.chg (S := fun _ => False) (Chg.of_below (H4.out.2.2.2.2.2.2.trans (Below.refl _ _).drew)) (fun _ h => h.elim) : DataZ w4.drew _ _ _)
                   refine (sput_calls _ sb lb d L s.st (shareN r.ix m) (.slice a' q c') x.2 w4.drew (HA1.out.below (H4.out.2.1.trans (Below.refl _ _).drew)).st hda4.1 (share_small H.out.2.2.1.ix m) (H.out.2.2.2.2.1 x (by rw [HX.out.1]; simp)) (fun w' hc => (hda4.chg (S := Foot sb lb d L) (w := w4.drew) hc (fun b hb _ => .inl (HA1.out.foot b hb))).1) (by have := H.out.2.1.writes; omega)).mono ?_
                   rintro e w5 ⟨rfl, hst5, hc5⟩
                   have hA5 := (HA1.out.below (H4.out.2.1.trans (Below.refl _ _).drew)).store hc5 hst5
                   have hcw : Chg C w w5 := (Chg.of_below (H4.out.2.2.2.2.2.2.trans (Below.refl _ _).drew)).trans (hc5.mono HA1.out.foot)
                   have hk55 := hc5.blk H4.out.2.2.2.1.drew (fun hf => by have := HA1.out.lt (.inl (HA1.out.foot _ hf)); have := HWA.out.2.2; omega)
                   have hh : w5.cell? ⟨pb, 3, none⟩ = some (.pointer (some ⟨sb, 0, none⟩)) ∧ w5.cell? ⟨p5, 1, none⟩ = some (.slice a' q c') := ⟨hA5.blk.cell 3, hk55.cell 1⟩
                   have HG := Lib.hid (And.intro hA5 (And.intro hcw hc5))
                   clear hda4 hst5 hA5 hcw hk55 hc5))
            have hp4C : ¬ C p4 := fun hC => by have := H.out.1.lt (.inl hC); have := HW.out.2.2; omega
            have hp3C : ¬ C p3 := fun hC => by have := H.out.1.lt (.inl hC); have := HW.out.2.1; omega
            have hA5 := HG.out.1
            rw [← HZ.out.2] at hA5
            rw [← HZ.out.1]
            have hk45 : Blk w5 p4 #[.int .i64 0, .slice none 0 0] 49 := HG.out.2.2.blk H4.out.2.2.1.drew (fun hf => hp4C (HA1.out.foot _ hf))
            have hR5 : ReqAt w5 p3 47 r := ReqAt.chg (w := w4.drew) ⟨H4.out.2.2.2.2.2.1.blk.drew, H.out.2.2.1⟩ HG.out.2.2 (fun hf => hp3C (HA1.out.foot _ hf))
            have H5 := Lib.hid (And.intro (show IsSrv w5 C (fun b => X b ∨ b = p4) pb { s with st := st1 } from ⟨sb, lb, d, L, tb, v, hA5⟩) (And.intro hk45 (And.intro hR5 (And.intro hp4C (And.intro hp3C (show SChg C C w w5 from ⟨HG.out.2.1, fun b hb => .inl hb⟩))))))
            clear hA5 hk45 hR5 hp4C hp3C c3 c5 hh
            by_cases hz0 : z1 = 0
            rotate_left
            · have t0 : (z1 != 0) = true := by simpa using hz0
              have t0' : (z1 == 0) = false := by simpa using hz0
              have HF : Hid (PutSh s r l z1 { s with st := st1 }) := by
                show PutSh s r l z1 { s with st := st1 }
                rw [HZ.out.1, HZ.out.2]
                exact PutSh.torn m x.2 H4.out.2.2.2.2.1 hm16 HM.out HNO.out H4.out.1 (by rw [← HZ.out.1]; exact hz0)
              replace hz0 := Lib.hid hz0
              go_wp2_with fail
              refine (fails_calls z1 w5).mono ?_
              rintro e wf ⟨rfl, hbf⟩
              have k4f := H5.out.2.1.kept hbf
              have f40 := k4f.free 0
              have f41 := k4f.free 1
              have c40 : wf.cell? ⟨p4, 0, none⟩ = some (.int .i64 0) := k4f.cell 0
              have c41 : wf.cell? ⟨p4, 1, none⟩ = some (.slice none 0 0) := k4f.cell 1
              have l4f := k4f.lt
              have HBF := Lib.hid hbf
              clear hbf k4f
              go_wp2_with fail
              have hE := reply_end (x := .int .i64 z1) (y := .slice none 0 0) ((H5.out.1).below HBF.out) ((H5.out.2.2.2.2.2).post HBF.out) (by rw [HW.out.2.2]; omega)
              exact bodyPost_ret (v := .agg #[.int .i64 z1, .slice none 0 0]) (by simp [results, Tryz.results76, go_sem, c40, c41]) rfl ⟨C, z1, { s with st := st1 }, rfl, HF.out, hE.1, hE.2⟩
            · have HZ0 := Lib.hid hz0
              subst hz0
              have r52 := H5.out.2.2.1.rall
              have g52 := H5.out.2.2.1.hall
              rw [← H3.out.2.2.2.2] at r52
              go_wp2_with fail
              refine (show Calls _ _ _ _ _ from (by rw [H3.out.2.2.2.2]; exact srvadd_calls C _ pb { s with st := st1 } r H.out.2.2.1 w5 H5.out.1 ⟨H.out.2.1.tab, by rw [HZ.out.2]; have h1 := put_writes s.st (shareN r.ix m) x.2; have h2 := hwr; have h3 := HA1.out.st.ok.room2; simp only; omega⟩)).mono ?_
              rintro e w6 ⟨C', err2, s', rfl, hadd, hs', hsc⟩
              have hk46 := hsc.1.blk H5.out.2.1 H5.out.2.2.2.1
              have HF : Hid (PutSh s r l err2 s') := by
                refine PutSh.put m x.2 err2 s' H4.out.2.2.2.2.1 hm16 HM.out HNO.out H4.out.1 HZ.out.1.symm ?_
                rw [← HZ.out.2]
                exact hadd
              have H6 := Lib.hid (And.intro hs' (And.intro (H5.out.2.2.2.2.2.trans hsc) hk46))
              clear hadd hs' hsc hk46 r52 g52
              by_cases h20 : err2 = 0
              · have t0 : (err2 == 0) = true := by simpa using h20
                subst h20
                go_wp2_with fail
                refine (fails_calls 0 w6).mono ?_
                rintro e wf ⟨rfl, hbf⟩
                have k4f := H6.out.2.2.kept hbf
                have f40 := k4f.free 0
                have f41 := k4f.free 1
                have c40 : wf.cell? ⟨p4, 0, none⟩ = some (.int .i64 0) := k4f.cell 0
                have c41 : wf.cell? ⟨p4, 1, none⟩ = some (.slice none 0 0) := k4f.cell 1
                have l4f := k4f.lt
                have HBF := Lib.hid hbf
                clear hbf k4f
                go_wp2_with fail
                have hE := reply_end (x := .int .i64 0) (y := .slice none 0 0) ((H6.out.1).below HBF.out) ((H6.out.2.1).post HBF.out) (by rw [HW.out.2.2]; omega)
                exact bodyPost_ret (v := .agg #[.int .i64 0, .slice none 0 0]) (by simp [results, Tryz.results76, go_sem, c40, c41]) rfl ⟨C', 0, s', rfl, HF.out, hE.1, hE.2⟩
              · have t0 : (err2 == 0) = false := by simpa using h20
                replace h20 := Lib.hid h20
                go_wp2_with fail
                refine (fails_calls err2 w6).mono ?_
                rintro e wf ⟨rfl, hbf⟩
                have k4f := H6.out.2.2.kept hbf
                have f40 := k4f.free 0
                have f41 := k4f.free 1
                have c40 : wf.cell? ⟨p4, 0, none⟩ = some (.int .i64 0) := k4f.cell 0
                have c41 : wf.cell? ⟨p4, 1, none⟩ = some (.slice none 0 0) := k4f.cell 1
                have l4f := k4f.lt
                have HBF := Lib.hid hbf
                clear hbf k4f
                go_wp2_with fail
                have hE := reply_end (x := .int .i64 err2) (y := .slice none 0 0) ((H6.out.1).below HBF.out) ((H6.out.2.1).post HBF.out) (by rw [HW.out.2.2]; omega)
                exact bodyPost_ret (v := .agg #[.int .i64 err2, .slice none 0 0]) (by simp [results, Tryz.results76, go_sem, c40, c41]) rfl ⟨C', err2, s', rfl, HF.out, hE.1, hE.2⟩
          | true =>
            have hsome : (s.st.get (shareN r.ix m)).isSome = true := H3.out.1.symm
            have HNO := Lib.hid hsome
            have hp4C : ¬ C p4 := fun hC => by have := H.out.1.lt (.inl hC); have := HW.out.2.2; omega
            have r52 := H4.out.2.2.2.2.2.1.rall
            have g52 := H4.out.2.2.2.2.2.1.hall
            rw [← H3.out.2.2.2.2] at r52
            clear hsome
            go_wp2_with fail
            refine (show Calls _ _ _ _ _ from (by rw [H3.out.2.2.2.2]; exact srvadd_calls C _ pb s r H.out.2.2.1 w4 (H1.out.2.2.2.2.2.below H4.out.2.1) H.out.2.1)).mono ?_
            rintro e w6 ⟨C', err2, s', rfl, hadd, hs', hsc⟩
            have hk46 := hsc.1.blk H4.out.2.2.1 hp4C
            have HF : Hid (PutSh s r l (if err2 = 0 then 5 else err2) s') := PutSh.there m x.2 err2 s' H4.out.2.2.2.2.1 hm16 HM.out HNO.out H4.out.1 hadd
            have H6 := Lib.hid (And.intro hs' (And.intro ((SChg.of_below H4.out.2.2.2.2.2.2).trans hsc) hk46))
            clear hadd hs' hsc hk46 r52 g52
            by_cases h20 : err2 = 0
            · have t0 : (err2 == 0) = true := by simpa using h20
              subst h20
              go_wp2_with fail
              refine (fails_calls 5 w6).mono ?_
              rintro e wf ⟨rfl, hbf⟩
              have k4f := H6.out.2.2.kept hbf
              have f40 := k4f.free 0
              have f41 := k4f.free 1
              have c40 : wf.cell? ⟨p4, 0, none⟩ = some (.int .i64 0) := k4f.cell 0
              have c41 : wf.cell? ⟨p4, 1, none⟩ = some (.slice none 0 0) := k4f.cell 1
              have l4f := k4f.lt
              have HBF := Lib.hid hbf
              clear hbf k4f
              go_wp2_with fail
              have hE := reply_end (x := .int .i64 5) (y := .slice none 0 0) ((H6.out.1).below HBF.out) ((H6.out.2.1).post HBF.out) (by rw [HW.out.2.2]; omega)
              exact bodyPost_ret (v := .agg #[.int .i64 5, .slice none 0 0]) (by simp [results, Tryz.results76, go_sem, c40, c41]) rfl ⟨C', 5, s', rfl, by simpa using HF.out, hE.1, hE.2⟩
            · have t0 : (err2 == 0) = false := by simpa using h20
              have HF2 : Hid (PutSh s r l err2 s') := by
                have := HF.out
                rwa [if_neg h20] at this
              clear HF
              replace h20 := Lib.hid h20
              go_wp2_with fail
              refine (fails_calls err2 w6).mono ?_
              rintro e wf ⟨rfl, hbf⟩
              have k4f := H6.out.2.2.kept hbf
              have f40 := k4f.free 0
              have f41 := k4f.free 1
              have c40 : wf.cell? ⟨p4, 0, none⟩ = some (.int .i64 0) := k4f.cell 0
              have c41 : wf.cell? ⟨p4, 1, none⟩ = some (.slice none 0 0) := k4f.cell 1
              have l4f := k4f.lt
              have HBF := Lib.hid hbf
              clear hbf k4f
              go_wp2_with fail
              have hE := reply_end (x := .int .i64 err2) (y := .slice none 0 0) ((H6.out.1).below HBF.out) ((H6.out.2.1).post HBF.out) (by rw [HW.out.2.2]; omega)
              exact bodyPost_ret (v := .agg #[.int .i64 err2, .slice none 0 0]) (by simp [results, Tryz.results76, go_sem, c40, c41]) rfl ⟨C', err2, s', rfl, HF2.out, hE.1, hE.2⟩
end Go.Proofs.YtclhgokchcklbaaGreatDoor
end
section
namespace Go.Proofs.YtclhgokchcklbaaGreatDoor
open Go Go.RowKit Go.Mem Gf Lea
attribute [local irreducible] reqV
attribute [local go_sem ↓] Go.wp_at_zero Go.wp_at_succ
attribute [local go_sem ↓] load_key load_req
attribute [local go_sem] ptrB_eq ptrO_eq ptrIs_eq aggL_eq aggIs_eq readK_drew hasK_drew readK_alloc_past hasK_alloc_past
end Go.Proofs.YtclhgokchcklbaaGreatDoor
end
section
namespace Go.Proofs.YtclhgokchcklbaaGreatDoor
open Go Go.RowKit Go.Mem Gf Lea
def Gives (w : World) (l : List Blob) (e : Ending) (w' : World) : Prop :=
  ∃ u, e = .returned (.agg #[.int .i64 0, u]) ∧ OwnBl 41 w' w.heap.size (fun b => b < w.heap.size) u l ∧ Below w.heap.size w w'
theorem ownBl_weak {tr : TypeId} {w : World} {base base' : Nat} {N M : Nat → Prop} {u : Value} {l : List Blob} (h : OwnBl tr w base N u l) (hb : base' ≤ base) (hM : ∀ b, M b → N b ∨ w.heap.size ≤ b) : OwnBl tr w base' M u l := by
  obtain ⟨vs, h1, h2, h3, h4⟩ := h
  exact ⟨vs, h1, ⟨h2.1, h2.2.imp id fun ⟨g, cap, cur, a1, a2, a3⟩ => ⟨g, cap, cur, a1, Nat.le_trans hb a2, a3⟩⟩, fun j x v a b => (h3 j x v a b).mono hM, h4⟩
theorem gives_end {w w0 w1 : World} {p4 : Nat} {u x y : Value} {l : List Blob} (h : OwnBl 41 w1 w0.heap.size (fun b => b < w0.heap.size) u l) (hb : Below w.heap.size w w0) (hb1 : Below w0.heap.size w0 w1) (h4 : w.heap.size ≤ p4) (h4' : p4 < w0.heap.size) :
    OwnBl 41 ((w1.setCell ⟨p4, 0, none⟩ x).setCell ⟨p4, 1, none⟩ y) w.heap.size (fun b => b < w.heap.size) u l ∧ Below w.heap.size w ((w1.setCell ⟨p4, 0, none⟩ x).setCell ⟨p4, 1, none⟩ y) := by
  have hcc : Chg (fun b => b = p4) w1 ((w1.setCell ⟨p4, 0, none⟩ x).setCell ⟨p4, 1, none⟩ y) := Chg.set (S := fun b => b = p4) (a := ⟨p4, 1, none⟩) (Chg.set (S := fun b => b = p4) (a := ⟨p4, 0, none⟩) (Chg.refl _ _) rfl _) rfl _
  have hz := hb.size
  refine ⟨ownBl_weak (h.chg hcc (fun g hg e => ?_) (fun b hb _ => ?_)) hz (fun b hb => .inl ?_), ?_⟩
  · have := (h.lt g hg).1
    omega
  · rw [hb]; exact h4'
  · exact Nat.lt_of_lt_of_le (by assumption) hz
  · exact ((Chg.of_below (S := fun b => w.heap.size ≤ b) (hb.trans (hb1.mono hz))).mix hcc (fun k hk => .inl (by rw [hk]; exact h4))).below (Nat.le_refl _) (fun _ h => h)
theorem contK_len {s : SrvS} {ix : Key} {o : Option (Key × List Blob)} (h : ContIs s ix o) : (contK o).length = 16 := by
  cases o with
  | none => exact z16_len
  | some x => exact h.2.1
theorem field_l (b : Bool) (u : Value) (w : World) : ∀ (k : List Value), k.length = 16 → (Instr.field 184 (.agg (contV b k u).toArray) 2).run Tryz.prog w = .ok u w
  | [k0, k1, k2, k3, k4, k5, k6, k7, k8, k9, k10, k11, k12, k13, k14, k15], _ => by kernel_rfl
attribute [local irreducible] reqV
attribute [local go_sem ↓] Go.wp_at_zero Go.wp_at_succ
attribute [local go_sem ↓] load_key load_req
attribute [local go_sem] ptrB_eq ptrO_eq ptrIs_eq aggL_eq aggIs_eq readK_drew hasK_drew readK_alloc_past hasK_alloc_past
set_option maxRecDepth 100000 in
set_option maxHeartbeats 1000000 in
theorem readSlot_calls (C X : Nat → Prop) (pb : Nat) (s : SrvS) (r : Req) (o : Option (Key × List Blob)) (hr : r.Wf) (w : World) (h : IsSrv w C X pb s) (hB : SrvB s) (ho : ContIs s r.ix o) :
    Calls Tryz.prog 77 #[.pointer (some ⟨pb, 0, none⟩), .agg (reqV r).toArray] w (Gives w (contL o)) := by
  have hR := (ReqAt.new w 47 hr)
  have hb0 := (Below.refl w.heap.size w).alloc (Nat.le_refl _) (.cells (reqV r).toArray 47)
  have hb1 := hb0.alloc hb0.size (.cells #[.int .i64 0, .slice none 0 0] 49)
  have hR1 := hR.below ((Below.refl _ (w.alloc (.cells (reqV r).toArray 47))).alloc (Nat.le_refl _) (.cells #[.int .i64 0, .slice none 0 0] 49))
  have hk4 : Blk ((w.alloc (.cells (reqV r).toArray 47)).alloc (.cells #[.int .i64 0, .slice none 0 0] 49)) (w.heap.size + 1) #[.int .i64 0, .slice none 0 0] 49 := Blk.new_at _ _ _ _ (by simp)
  obtain ⟨cr, hcr⟩ : ∃ c, c = reqV r := ⟨_, rfl⟩
  rw [← hcr] at hR1 hb1 hk4
  rw [← hcr]
  have HCR := Lib.hid hcr
  obtain ⟨w0, hw0⟩ : ∃ x, x = (w.alloc (.cells cr.toArray 47)).alloc (.cells #[.int .i64 0, .slice none 0 0] 49) := ⟨_, rfl⟩
  obtain ⟨p3, hp3⟩ : ∃ p, p = w.heap.size := ⟨_, rfl⟩
  obtain ⟨p4, hp4⟩ : ∃ p, p = w.heap.size + 1 := ⟨_, rfl⟩
  have HW := Lib.hid (And.intro hw0 (And.intro hp3 hp4))
  rw [← hw0, ← hp3] at hR1
  rw [← hw0] at hb1
  rw [← hw0, ← hp4] at hk4
  have H := Lib.hid (And.intro h (And.intro hB hr))
  have hx4 : IsSrv w0 C (fun b => X b ∨ b = p4) pb s := h.growX (fun b hb => .inl hb) (fun b hb => hb.imp id (fun e => by rw [e, hp4]; omega)) hb1 (fun b hb => by rcases hb with hb | hb; exact Nat.lt_of_lt_of_le (h.lt (.inr hb)) hb1.size; rw [hb]; exact hk4.lt)
  have H0 := Lib.hid (And.intro hR1 (And.intro hb1 (And.intro hk4 hx4)))
  clear h hB hr hcr hw0 hp3 hp4 hR hR1 hb0 hb1 hk4 hx4
  have HO := Lib.hid ho
  go_enter Tryz.func77, Tryz.ntmps77
  go_upto_region 1 with fail
  rw [← HW.out.1, ← HW.out.2.2, ← HW.out.2.1]
  have r1 := H0.out.1.rix
  have g1 := H0.out.1.hix
  have f40 := H0.out.2.2.1.free 0
  have f41 := H0.out.2.2.1.free 1
  have c40 : w0.cell? ⟨p4, 0, none⟩ = some (.int .i64 0) := H0.out.2.2.1.cell 0
  have c41 : w0.cell? ⟨p4, 1, none⟩ = some (.slice none 0 0) := H0.out.2.2.1.cell 1
  have l4 := H0.out.2.2.1.lt
  obtain ⟨ki, hki⟩ : ∃ c, c = bV r.ix := ⟨_, rfl⟩
  rw [← hki] at r1
  have HKI := Lib.hid hki
  clear hki
  go_wp2_with fail
  refine (show Calls _ _ _ _ _ from (by rw [HKI.out]; exact container_calls C _ pb s r.ix H.out.2.2.ix o w0 H0.out.2.2.2 ho)).mono ?_
  rintro e w1 ⟨u, rfl, hu, hb1⟩
  obtain ⟨a5, c5, rfl, _⟩ := hu.slice
  obtain ⟨kc, hkc⟩ : ∃ c, c = bV (contK o) := ⟨_, rfl⟩
  rw [← hkc]
  have HKC := Lib.hid hkc
  clear hkc
  have fl : ∀ u w, (Instr.field 184 (.agg (contV o.isSome kc u).toArray) 2).run Tryz.prog w = .ok u w := fun u w => field_l _ u w kc (by rw [HKC.out, bV_len]; exact contK_len HO.out)
  obtain ⟨n, hn⟩ : ∃ n, n = (contL o).length := ⟨_, rfl⟩
  rw [← hn] at hu ⊢
  have k4f := H0.out.2.2.1.kept hb1
  have f40 := k4f.free 0
  have f41 := k4f.free 1
  have c40 : w1.cell? ⟨p4, 0, none⟩ = some (.int .i64 0) := k4f.cell 0
  have c41 : w1.cell? ⟨p4, 1, none⟩ = some (.slice none 0 0) := k4f.cell 1
  have l4f := k4f.lt
  have HU := Lib.hid (And.intro hu (And.intro hb1 hn))
  clear hu hb1 hn k4f r1 g1
  go_wp2_with fail
  have hE := gives_end (x := .int .i64 0) (y := .slice a5 n c5) HU.out.1 H0.out.2.1 HU.out.2.1 (by rw [HW.out.2.2]; omega) H0.out.2.2.1.lt
  exact bodyPost_ret (v := .agg #[.int .i64 0, .slice a5 n c5]) (by simp [results, Tryz.results77, go_sem, c40, c41]) rfl ⟨.slice a5 n c5, rfl, hE.1, hE.2⟩
end Go.Proofs.YtclhgokchcklbaaGreatDoor
end
section
namespace Go.Proofs.YtclhgokchcklbaaGreatDoor
open Go Go.RowKit Go.Mem Gf Lea
attribute [local irreducible] reqV contV
attribute [local go_sem ↓] Go.wp_at_zero Go.wp_at_succ
attribute [local go_sem ↓] load_key load_req
attribute [local go_sem] ptrB_eq ptrO_eq ptrIs_eq aggL_eq aggIs_eq readK_drew hasK_drew readK_alloc_past hasK_alloc_past
end Go.Proofs.YtclhgokchcklbaaGreatDoor
end
section
namespace Go.Mem
open Go Go.RowKit
def FnMap (f : Nat → Value) (D : Nat → Bool) (es : List MapEntry) : Prop :=
  (∀ e ∈ es, ∃ k : Nat, D k = true ∧ e.key = .int .i64 k ∧ e.val = f k) ∧ ∀ k : Nat, D k = true → ∃ e ∈ es, e.key = .int .i64 k
theorem FnMap.nil (f : Nat → Value) {D : Nat → Bool} (h : ∀ k, D k = false) : FnMap f D [] :=
  ⟨fun e he => (List.not_mem_nil he).elim, fun k hk => by rw [h k] at hk; cases hk⟩
theorem FnMap.push {f : Nat → Value} {D E : Nat → Bool} {es : List MapEntry} (h : FnMap f D es) (k b : Nat) (hE : ∀ j, E j = true ↔ D j = true ∨ j = k) : FnMap f E (es ++ [⟨.int .i64 k, f k, b⟩]) := by
  refine ⟨fun e he => ?_, fun j hj => ?_⟩
  · rcases List.mem_append.1 he with he | he
    · obtain ⟨j, h1, h2⟩ := h.1 e he
      exact ⟨j, (hE j).2 (.inl h1), h2⟩
    · rw [List.mem_singleton.1 he]
      exact ⟨k, (hE k).2 (.inr rfl), rfl, rfl⟩
  · rcases (hE j).1 hj with h1 | rfl
    · obtain ⟨e, he, h2⟩ := h.2 j h1
      exact ⟨e, List.mem_append_left _ he, h2⟩
    · exact ⟨_, List.mem_append_right _ (List.mem_singleton.2 rfl), rfl⟩
theorem find_no {f : Nat → Value} {D : Nat → Bool} {j : Int} (hj : ∀ k : Nat, D k = true → (k : Int) ≠ j) :
    ∀ (es : List MapEntry) (i : Nat), (∀ e ∈ es, ∃ k : Nat, D k = true ∧ e.key = .int .i64 k ∧ e.val = f k) → Instr.findNow (.int .i64) (.int .i64 j) es i = some none
  | [], _, _ => rfl
  | e :: es, i, h => by
    obtain ⟨k, h1, h2, _⟩ := h e List.mem_cons_self
    have hne := hj k h1
    unfold Instr.findNow
    rw [h2]
    simp only [Instr.sameNow, reduceIte]
    rw [show (j == (k : Int)) = false by simp; omega]
    exact find_no hj es (i + 1) fun e he => h e (List.mem_cons_of_mem _ he)
theorem find_yes {f : Nat → Value} {D : Nat → Bool} {j : Nat} :
    ∀ (es : List MapEntry) (i : Nat), (∀ e ∈ es, ∃ k : Nat, D k = true ∧ e.key = .int .i64 k ∧ e.val = f k) → (∃ e ∈ es, e.key = .int .i64 (j : Nat)) → ∃ n, Instr.findNow (.int .i64) (.int .i64 j) es i = some (some (n, f j))
  | [], _, _, h => by obtain ⟨_, he, _⟩ := h; cases he
  | e :: es, i, h, hx => by
    obtain ⟨k, h1, h2, h3⟩ := h e List.mem_cons_self
    unfold Instr.findNow
    rw [h2]
    simp only [Instr.sameNow, reduceIte]
    by_cases hk : k = j
    · subst hk
      rw [show ((k : Int) == (k : Int)) = true by simp]
      exact ⟨i, by rw [h3]⟩
    · rw [show ((j : Int) == (k : Int)) = false by simp; omega]
      refine find_yes es (i + 1) (fun e he => h e (List.mem_cons_of_mem _ he)) ?_
      obtain ⟨e', he', h4⟩ := hx
      rcases List.mem_cons.1 he' with rfl | he'
      · rw [h2] at h4
        simp at h4
        omega
      · exact ⟨e', he', h4⟩
section
variable {P : Program} {mt kt et : TypeId} {w : World} {p c : Nat} {es : Array MapEntry} {f : Nat → Value} {D : Nat → Bool}
theorem run_insert (hm : P.underlying mt = some (.map kt et)) (hk : P.underlying kt = some (.int .i64)) (hb : w.heap[p]? = some (.map es c)) (h : FnMap f D es.toList) (k : Nat) (hD : D k = false) :
    (Instr.mapUpdate mt (.map (some p)) (.int .i64 k) (f k)).run P w = .ok () { w with heap := w.heap.setIfInBounds p (.map (es.push ⟨.int .i64 k, f k, c⟩) (c + 1)) } := by
  have hno : ∀ j : Nat, D j = true → (j : Int) ≠ (k : Int) := fun j hj e => by
    rw [show j = k by omega, hD] at hj
    cases hj
  have hf : Instr.findNow (.int .i64) (.int .i64 k) es.toList 0 = some none := find_no hno es.toList 0 h.1
  have hc : (Instr.checkKey false 10000 kt (.int .i64 k)).run P w = .ok () w := MapKept.run_checkKey (k := .int .i64 k) hk (by simp [MapKept.IsKey]) false 9999
  simp [Instr.mapUpdate, run_underlying hm, MapKept.run_getObj_map hb, hc, MapKept.run_findKey hk hf, MapKept.run_setObj_map _ hb, Result.andThen]
theorem run_look_yes (hm : P.underlying mt = some (.map kt et)) (hk : P.underlying kt = some (.int .i64)) (hb : w.heap[p]? = some (.map es c)) (h : FnMap f D es.toList) (k : Nat) (hD : D k = true) :
    (Instr.lookup mt (.map (some p)) (.int .i64 k) true).run P w = .ok (.tuple #[f k, .bool true]) w := by
  obtain ⟨n, hf⟩ := find_yes es.toList 0 h.1 (h.2 k hD)
  have hc : (Instr.checkKey es.isEmpty 10000 kt (.int .i64 k)).run P w = .ok () w := MapKept.run_checkKey (k := .int .i64 k) hk (by simp [MapKept.IsKey]) _ 9999
  simp [Instr.lookup, run_underlying hm, MapKept.run_getObj_map hb, hc, MapKept.run_findKey hk hf, Result.andThen]
def MapW (f : Nat → Value) (D : Nat → Bool) (w0 : World) (p : Nat) (w : World) : Prop :=
  w0.heap.size = p ∧ Below p w0 w ∧ ∃ es c, w.heap[p]? = some (.map es c) ∧ FnMap f D es.toList
theorem MapW.new (f : Nat → Value) (w0 : World) : MapW f (fun _ => false) w0 w0.heap.size (w0.alloc (.map #[] 0)) :=
  ⟨rfl, (Below.refl _ _).alloc (Nat.le_refl _) _, #[], 0, by show (w0.heap.push _)[w0.heap.size]? = _; simp, FnMap.nil f fun _ => rfl⟩
theorem MapW.step {w0 : World} (hm : P.underlying mt = some (.map kt et)) (hk : P.underlying kt = some (.int .i64)) (h : MapW f D w0 p w) (k : Nat) (hD : D k = false) :
    ∃ w', (Instr.mapUpdate mt (.map (some p)) (.int .i64 k) (f k)).run P w = .ok () w' ∧ MapW f (Tail.updB D k) w0 p w' := by
  obtain ⟨h1, h2, es, c, hb, hf⟩ := h
  refine ⟨_, run_insert hm hk hb hf k hD, h1, h2.trans ⟨rfl, rfl, rfl, by simp, fun b hlt => ?_⟩, _, _, (MapKept.heap_set hb).1, ?_⟩
  · exact (MapKept.heap_set hb).2 b (by omega)
  · rw [Array.toList_push]
    refine hf.push k c fun j => ?_
    unfold Tail.updB
    split
    · rename_i e; simp [e]
    · rename_i e; simp [e]
end
end Go.Mem
end
section
namespace Go.Proofs.YtclhgokchcklbaaGreatDoor
open Go Go.RowKit Go.Mem Gf Lea
def handV (k : Nat) : Value := .func (.func (75 + (k - 1))) #[] #[]
def handD (k : Nat) : Bool := decide (1 ≤ k) && decide (k ≤ 6)
theorem handV_1 : Value.func (.func 75) #[] #[] = handV 1 := rfl
theorem handV_2 : Value.func (.func 76) #[] #[] = handV 2 := rfl
theorem handV_3 : Value.func (.func 77) #[] #[] = handV 3 := rfl
theorem handV_4 : Value.func (.func 78) #[] #[] = handV 4 := rfl
theorem handV_5 : Value.func (.func 79) #[] #[] = handV 5 := rfl
theorem handV_6 : Value.func (.func 80) #[] #[] = handV 6 := rfl
attribute [local go_sem ↓] Go.wp_at_zero Go.wp_at_succ
set_option maxRecDepth 100000 in
set_option maxHeartbeats 1000000 in
theorem handlers_calls (w : World) : Calls Tryz.prog 34 #[] w fun e w' => e = .returned (.map (some w.heap.size)) ∧ MapW handV handD w w.heap.size w' := by
  have hmm := run_makeMap (P := Tryz.prog) 94 w
  obtain ⟨p, hp⟩ : ∃ p, p = w.heap.size := ⟨_, rfl⟩
  have h0 := MapW.new handV w
  obtain ⟨w1, hw1⟩ : ∃ x, x = w.alloc (.map #[] 0) := ⟨_, rfl⟩
  rw [← hp, ← hw1] at h0
  rw [← hp, ← hw1] at hmm
  rw [← hp]
  obtain ⟨w2, r2, h2⟩ := MapW.step (P := Tryz.prog) Tryz.underlying94 Tryz.underlying3 h0 1 rfl
  obtain ⟨w3, r3, h3⟩ := MapW.step (P := Tryz.prog) Tryz.underlying94 Tryz.underlying3 h2 2 rfl
  obtain ⟨w4, r4, h4⟩ := MapW.step (P := Tryz.prog) Tryz.underlying94 Tryz.underlying3 h3 3 rfl
  obtain ⟨w5, r5, h5⟩ := MapW.step (P := Tryz.prog) Tryz.underlying94 Tryz.underlying3 h4 4 rfl
  obtain ⟨w6, r6, h6⟩ := MapW.step (P := Tryz.prog) Tryz.underlying94 Tryz.underlying3 h5 5 rfl
  obtain ⟨w7, r7, h7⟩ := MapW.step (P := Tryz.prog) Tryz.underlying94 Tryz.underlying3 h6 6 rfl
  rw [← handV_1] at r2
  rw [← handV_2] at r3
  rw [← handV_3] at r4
  rw [← handV_4] at r5
  rw [← handV_5] at r6
  rw [← handV_6] at r7
  have e7 : Tail.updB (Tail.updB (Tail.updB (Tail.updB (Tail.updB (Tail.updB (fun _ => false) 1) 2) 3) 4) 5) 6 = handD := by
    funext k
    unfold Tail.updB handD
    repeat' split
    all_goals first | (subst_vars; rfl) | (symm; simp; omega)
  rw [e7] at h7
  push_cast at r2 r3 r4 r5 r6 r7
  have H7 := Lib.hid h7
  have HP := Lib.hid hp
  clear h0 h2 h3 h4 h5 h6 h7 e7
  go_enter Tryz.func34, Tryz.ntmps34
  clear hp hw1
  go_wp2_with fail
  go_ret
  exact ⟨rfl, H7.out⟩
end Go.Proofs.YtclhgokchcklbaaGreatDoor
end
section
namespace Go.Proofs.YtclhgokchcklbaaGreatDoor
open Go Go.RowKit Go.Mem Gf Lea
theorem call_hand : ∀ (k : Nat), handD k = true → ∀ (args : Array Value) (w : World), (callFunc (75 + (k - 1)) args).run Tryz.prog w = .ok (.enter (75 + (k - 1)) args) w
  | 0, h, _, _ => by cases h
  | 1, _, _, _ => by kernel_rfl
  | 2, _, _, _ => by kernel_rfl
  | 3, _, _, _ => by kernel_rfl
  | 4, _, _, _ => by kernel_rfl
  | 5, _, _, _ => by kernel_rfl
  | 6, _, _, _ => by kernel_rfl
  | k + 7, h, _, _ => by simp [handD] at h
attribute [local irreducible] reqV contV
attribute [local go_sem ↓] Go.wp_at_zero Go.wp_at_succ
attribute [local go_sem ↓] load_key load_req
attribute [local go_sem] ptrB_eq ptrO_eq ptrIs_eq aggL_eq aggIs_eq readK_drew hasK_drew readK_alloc_past hasK_alloc_past
set_option maxRecDepth 100000 in
set_option maxHeartbeats 1000000 in
theorem do_calls (C X : Nat → Prop) (pb : Nat) (s : SrvS) (r : Req) (hr : r.Wf) (w : World) (h : IsSrv w C X pb s) (hB : s.dead = false) (k : Nat) (hk : handD k = true) (hkr : r.kind = (k : Int)) (Post : Ending → World → Prop)
    (hP : ∀ w1 p4, Below w.heap.size w w1 → w.heap.size ≤ p4 → Blk w1 p4 #[.int .i64 0, .slice none 0 0] 49 → IsSrv w1 C (fun b => X b ∨ b = p4) pb s → Calls Tryz.prog (75 + (k - 1)) #[.pointer (some ⟨pb, 0, none⟩), .agg (reqV r).toArray] w1 fun e w' => ∃ err a n c, e = .returned (.agg #[.int .i64 err, .slice a n c]) ∧ Blk w' p4 #[.int .i64 0, .slice none 0 0] 49 ∧ Post (.returned (.agg #[.int .i64 err, .slice a n c])) ((w'.setCell ⟨p4, 0, none⟩ (.int .i64 err)).setCell ⟨p4, 1, none⟩ (.slice a n c))) :
    Calls Tryz.prog 15 #[.pointer (some ⟨pb, 0, none⟩), .agg (reqV r).toArray] w (Post) := by
  have hR := (ReqAt.new w 47 hr)
  have hb0 := (Below.refl w.heap.size w).alloc (Nat.le_refl _) (.cells (reqV r).toArray 47)
  have hb1 := hb0.alloc hb0.size (.cells #[.int .i64 0, .slice none 0 0] 49)
  have hR1 := hR.below ((Below.refl _ (w.alloc (.cells (reqV r).toArray 47))).alloc (Nat.le_refl _) (.cells #[.int .i64 0, .slice none 0 0] 49))
  have hk4 : Blk ((w.alloc (.cells (reqV r).toArray 47)).alloc (.cells #[.int .i64 0, .slice none 0 0] 49)) (w.heap.size + 1) #[.int .i64 0, .slice none 0 0] 49 := Blk.new_at _ _ _ _ (by simp)
  obtain ⟨cr, hcr⟩ : ∃ c, c = reqV r := ⟨_, rfl⟩
  rw [← hcr] at hR1 hb1 hk4
  rw [← hcr]
  have HCR := Lib.hid hcr
  obtain ⟨w0, hw0⟩ : ∃ x, x = (w.alloc (.cells cr.toArray 47)).alloc (.cells #[.int .i64 0, .slice none 0 0] 49) := ⟨_, rfl⟩
  obtain ⟨p3, hp3⟩ : ∃ p, p = w.heap.size := ⟨_, rfl⟩
  obtain ⟨p4, hp4⟩ : ∃ p, p = w.heap.size + 1 := ⟨_, rfl⟩
  have HW := Lib.hid (And.intro hw0 (And.intro hp3 hp4))
  rw [← hw0, ← hp3] at hR1
  rw [← hw0] at hb1
  rw [← hw0, ← hp4] at hk4
  have H := Lib.hid (And.intro h (And.intro hB hr))
  have hx4 : IsSrv w0 C (fun b => X b ∨ b = p4) pb s := h.growX (fun b hb => .inl hb) (fun b hb => hb.imp id (fun e => by rw [e, hp4]; omega)) hb1 (fun b hb => by rcases hb with hb | hb; exact Nat.lt_of_lt_of_le (h.lt (.inr hb)) hb1.size; rw [hb]; exact hk4.lt)
  have H0 := Lib.hid (And.intro hR1 (And.intro hb1 (And.intro hk4 hx4)))
  clear h hB hr hcr hw0 hp3 hp4 hR hR1 hb0 hb1 hk4 hx4
  have HP := Lib.hid hP
  have HK := Lib.hid (And.intro hk hkr)
  clear hP hk hkr
  go_enter Tryz.func15, Tryz.ntmps15
  go_upto_region 1 with fail
  rw [← HW.out.1, ← HW.out.2.2, ← HW.out.2.1]
  go_wp2_with fail
  refine (srvdead_calls C _ pb s w0 H0.out.2.2.2).mono ?_
  rintro e w1 ⟨rfl, rfl⟩
  rw [H.out.2.1]
  go_upto_region 3 with fail
  have c0 := H0.out.1.kind
  rw [HK.out.2] at c0
  have c0 : w0.drew.cell? ⟨p3, 0, none⟩ = some (.int .i64 (k : Int)) := c0
  have l3 := H0.out.1.lt
  obtain ⟨fnn, hfn⟩ : ∃ n, n = 75 + (k - 1) := ⟨_, rfl⟩
  have HN := Lib.hid hfn
  clear hfn
  go_region_held3 (fun w' => w'.cell? ⟨p3, 0, none⟩ = some (.int .i64 (k : Int))) (first | exact c0 | with_reducible assumption)
    (first
      | (go_at_call 34
         refine (handlers_calls w0.drew).mono ?_
         rintro e w2 ⟨rfl, hm⟩
         obtain ⟨es, c, hb, hf⟩ := hm.2.2
         have lk : (Instr.lookup 94 (.map (some w0.heap.size)) (.int .i64 (k : Int)) true).run Tryz.prog w2 = .ok (.tuple #[.func (.func fnn) #[] #[], .bool true]) w2 := by rw [HN.out]; exact run_look_yes (P := Tryz.prog) Tryz.underlying94 Tryz.underlying3 hb hf k HK.out.1
         have hh : w2.cell? ⟨p3, 0, none⟩ = some (.int .i64 (k : Int)) := (hm.2.1.cell (p := ⟨p3, 0, none⟩) l3).trans c0
         have HM := Lib.hid hm.2.1
         clear hm hb hf))
  have hb2 : Below w0.heap.size w0 w2 := ((Below.refl _ _).drew).trans HM.out
  have k42 := H0.out.2.2.1.kept hb2
  have hR2 := H0.out.1.below hb2
  have r52 := hR2.rall
  have g52 := hR2.hall
  obtain ⟨cr2, hcr2⟩ : ∃ c, c = reqV r := ⟨_, rfl⟩
  rw [← hcr2] at r52
  have hcf : ∀ args w, (callFunc fnn args).run Tryz.prog w = .ok (.enter fnn args) w := by rw [HN.out]; exact call_hand k HK.out.1
  have H2 := Lib.hid (And.intro k42 (And.intro (H0.out.2.2.2.below hb2) (And.intro (H0.out.2.1.trans (hb2.mono H0.out.2.1.size)) hcr2)))
  clear hb2 k42 hR2 hcr2
  go_wp2_with fail
  refine (show Calls _ _ _ _ _ from (by rw [H2.out.2.2.2, HN.out]; exact HP.out w2 p4 H2.out.2.2.1 (by rw [HW.out.2.2]; omega) H2.out.1 H2.out.2.1)).mono ?_
  rintro e w3 ⟨err, a5, n5, c5, rfl, hk3, hpost⟩
  have f40 := hk3.free 0
  have f41 := hk3.free 1
  have c40 : w3.cell? ⟨p4, 0, none⟩ = some (.int .i64 0) := hk3.cell 0
  have c41 : w3.cell? ⟨p4, 1, none⟩ = some (.slice none 0 0) := hk3.cell 1
  have l4f := hk3.lt
  have HPO := Lib.hid hpost
  clear hpost hk3 r52 g52
  go_wp2_with fail
  exact bodyPost_ret (v := .agg #[.int .i64 err, .slice a5 n5 c5]) (by simp [results, Tryz.results15, go_sem, c40, c41]) rfl HPO.out
end Go.Proofs.YtclhgokchcklbaaGreatDoor
end
section
namespace Go.Mem
open Go Go.RowKit Gf Lea Go.Proofs.YtclhgokchcklbaaGreatDoor
theorem name_data {a b : List UInt8} (h : (⟨a.toArray⟩ : ByteArray) = ⟨b.toArray⟩) : a = b := by
  injection h with h
  simpa using h
theorem leaseN_inj {ix ix' : Key} (h : leaseN ix = leaseN ix') : ix = ix' := by
  have h := name_data h
  injection h
theorem share_lease {ix ix' : Key} {n : Nat} : shareN ix n ≠ leaseN ix' := fun h => by
  have h := name_data h
  injection h with h _
  exact absurd h (by decide)
theorem slot_lease {ix ix' : Key} : slotN ix ≠ leaseN ix' := fun h => by
  have h := name_data h
  injection h with h _
  exact absurd h (by decide)
def ixOf (nm : ByteArray) : Key := (nm.data.toList.drop 1).take 16
theorem ixOf_lease {ix : Key} (h : ix.length = 16) : ixOf (leaseN ix) = ix := by
  show ((108 :: ix).drop 1).take 16 = ix
  rw [List.drop_succ_cons, List.drop_zero, List.take_of_length_le (by omega)]
theorem share_size (ix : Key) (n : Nat) (h : ix.length = 16) : (shareN ix n).size = 18 := by
  show (115 :: (ix ++ [UInt8.ofNat n])).toArray.size = 18
  simp; omega
theorem slot_size (ix : Key) (h : ix.length = 16) : (slotN ix).size = 17 := name_size 99 h
theorem lease_size (ix : Key) (h : ix.length = 16) : (leaseN ix).size = 17 := name_size 108 h
structure LeOk (out : List Sec) : Prop where
  wf : ∀ s ∈ out, WfL s ∧ May s.2
  few : out.length ≤ 8
  nodup : (out.map (·.1)).Nodup
  up : out.Pairwise fun a b => ltL b a = false
  ne : out ≠ []
inductive RecOk : ByteArray → List UInt8 → Prop
  | share (ix : Key) (n : Nat) (data : List UInt8) (h : ix.length = 16) (hn : n < 16) (hd : data.length ≤ 16384) : RecOk (shareN ix n) data
  | slot (ix k : Key) (l : List Blob) (h : ix.length = 16) (hk : k.length = 16) (hl : BlOk l) (h16 : l.length ≤ 16) (hu : (l.map (·.1)).Pairwise (· < ·)) (hne : l ≠ []) : RecOk (slotN ix) (contB k l)
  | lease (ix : Key) (out : List Sec) (h : ix.length = 16) (hl : LeOk out) : RecOk (leaseN ix) (packL out)
def RecsOk (l : List Sto.Rec) : Prop := ∀ r ∈ l, r.is = true → RecOk r.name r.data
theorem RecsOk.free (n : Nat) : RecsOk (List.replicate n Sto.Rec.free) := fun r hr h => by
  rw [(List.mem_replicate.1 hr).2] at h
  cases h
theorem RecsOk.set {l : List Sto.Rec} (h : RecsOk l) (t : Nat) {r : Sto.Rec} (hr : r.is = true → RecOk r.name r.data) : RecsOk (l.set t r) := fun r' h' => by
  rcases List.mem_or_eq_of_mem_set h' with h' | rfl
  · exact h r' h'
  · exact hr
theorem RecsOk.drop {l : List Sto.Rec} (h : RecsOk l) (t : Nat) : RecsOk (l.set t Sto.Rec.free) := h.set t (fun h => by cases h)
theorem RecsOk.putL {l : List Sto.Rec} (h : RecsOk l) {name : ByteArray} {data : List UInt8} (hr : RecOk name data) : RecsOk (putL l name data) := h.set _ (fun _ => hr)
theorem RecsOk.putF {l : List Sto.Rec} (h : RecsOk l) {name : ByteArray} {data : List UInt8} (hr : RecOk name data) : RecsOk (putF l name data) := by
  unfold Go.Mem.putF
  split
  · exact h.putL hr
  · exact (h.putL hr).drop _
theorem RecsOk.thin {l l' : List Sto.Rec} (h : RecsOk l) (ht : Sto.Thin l l') : RecsOk l' := fun r hr his => by
  obtain ⟨i, hi⟩ := List.getElem?_of_mem hr
  rcases ht.2 i with h1 | ⟨_, _, _, _, h1⟩
  · exact h r (List.mem_of_getElem? (h1.symm.trans hi)) his
  · rw [h1] at hi; cases hi; cases his
theorem look_at {l : List Sto.Rec} {nm : ByteArray} {b : List UInt8} (h : Sto.look l nm = some b) : ∃ r ∈ l, r.is = true ∧ r.name = nm ∧ r.data = b := by
  obtain ⟨k, hk⟩ := best_of_some h
  obtain ⟨r, h1, h2, _⟩ := (Sto.best_top _ _ _).1 k hk
  unfold Sto.look at h
  rw [hk] at h
  simp only [Option.map_some, Option.some.injEq] at h
  rw [List.getD_eq_getElem?_getD, h2.1] at h
  exact ⟨r, List.mem_of_getElem? h2.1, h2.2.1, h2.2.2, h⟩
theorem RecsOk.look {l : List Sto.Rec} (h : RecsOk l) {nm : ByteArray} {b : List UInt8} (hl : Sto.look l nm = some b) : RecOk nm b := by
  obtain ⟨r, h1, h2, rfl, rfl⟩ := look_at hl
  exact h r h1 h2
theorem RecsOk.size {l : List Sto.Rec} (h : RecsOk l) : ∀ r ∈ l, r.is = true → 17 ≤ r.name.size := fun r hr his => by
  have := h r hr his
  generalize r.data = dd at this
  revert this
  generalize r.name = nm
  intro this
  cases this with
  | share ix n _ h _ _ => rw [share_size _ _ h]; omega
  | slot ix _ _ h _ _ _ _ => rw [slot_size _ h]; exact Nat.le_refl _
  | lease ix _ h _ => rw [lease_size _ h]; exact Nat.le_refl _
theorem RecOk.lease_of {ix : Key} {b : List UInt8} (h : RecOk (leaseN ix) b) : ∃ out, b = packL out ∧ LeOk out := by
  generalize hn : leaseN ix = nm at h
  cases h with
  | share ix n _ _ _ _ => exact absurd hn (fun e => share_lease e.symm)
  | slot ix _ _ _ _ _ _ _ => exact absurd hn (fun e => slot_lease e.symm)
  | lease ix out _ hl => exact ⟨out, rfl, hl⟩
structure SLive (m : Nat) (s : St) : Prop where
  holds : Holds s.disk s.room s.recs
  uniq : Sto.Uniq s.recs
  disk : s.disk.dead = false
  dead : s.dead = false
  bnd : Bnd m s.recs
  writes : s.disk.writes ≤ 2000 * m
  room : 1 ≤ s.room ∧ s.room ≤ 1000
  recs : RecsOk s.recs
structure SHold (m : Nat) (D : DiskS) (room : Nat) (l : List Sto.Rec) : Prop where
  holds : Holds D room l
  bnd : Bnd m l
  writes : D.writes ≤ 2000 * m
  recs : RecsOk l
theorem SLive.hold {m : Nat} {s : St} (h : SLive m s) : SHold m s.disk s.room s.recs := ⟨h.holds, h.bnd, h.writes, h.recs⟩
theorem SHold.le {m m' : Nat} {D : DiskS} {room : Nat} {l : List Sto.Rec} (h : SHold m D room l) (hm : m ≤ m') : SHold m' D room l := ⟨h.holds, fun r hr => Nat.le_trans (h.bnd r hr) hm, by have := h.writes; omega, h.recs⟩
theorem SLive.fresh (slots room : Nat) (h : 1 ≤ room ∧ room ≤ 1000) : SLive 0 ⟨room, List.replicate slots Sto.Rec.free, false, .fresh (slots * (room + 1))⟩ :=
  ⟨Holds.fresh slots room, uniq_free slots, rfl, rfl, bnd_free slots, Nat.le_refl _, h, RecsOk.free _⟩
theorem SLive.stop {m : Nat} {s : St} (h : SLive m s) (a k : Int) : SLive m { s with disk := s.disk.stop a k } := ⟨h.holds.stop a k, h.uniq, h.disk, h.dead, h.bnd, h.writes, h.room, h.recs⟩
inductive PutL (m : Nat) (s : St) (name : ByteArray) (data : List UInt8) : Int × St → Prop
  | arg (h : fitsB s.room name data = false) : PutL m s name data (1, s)
  | full (h : fitsB s.room name data = true) (hs : Sto.slot s.recs = s.recs.length) : PutL m s name data (3, s)
  | done (s' : St) (h : fitsB s.room name data = true) (hs : Sto.slot s.recs < s.recs.length) (hr : s'.recs = putF s.recs name data) (hl : SLive (m + 1) s') (ho : s'.room = s.room) (hst : s'.disk.stops = s.disk.stops) : PutL m s name data (0, s')
  | torn (s' : St) (l : List Sto.Rec) (h : fitsB s.room name data = true) (hs : Sto.slot s.recs < s.recs.length) (hd : s.disk.stops = true) (h1 : s'.disk.dead = true) (h2 : s'.dead = true) (ho : s'.room = s.room) (hl : SHold (m + 1) s'.disk s.room l) (hx : l = s.recs ∨ Sto.Thin (putL s.recs name data) l) : PutL m s name data (8, s')
theorem SLive.put {m : Nat} {s : St} (h : SLive m s) (hm : m < 1000000) {name : ByteArray} {data : List UInt8} (hr : RecOk name data) : PutL m s name data (putR s name data) := by
  have hro := h.room
  have hw := h.writes
  have hpw := put_writes s name data
  rcases put_law h.holds h.disk h.dead h.bnd (by omega) name data with ⟨h1, e⟩ | ⟨h1, h2, e⟩ | ⟨h0, h1, h2, h3, h4⟩
  · rw [e]; exact .arg h1
  · rw [e]; exact .full h1 h2
  · have hb : Bnd (m + 1) (putL s.recs name data) := h.bnd.set (by omega) _ (h.bnd.next name)
    generalize putR s name data = R at *
    obtain ⟨e, s'⟩ := R
    simp only at *
    rcases h4 with ⟨rfl, a2, a3, a4, a5⟩ | ⟨rfl, a2, a3, a4, l, a5, a6⟩
    · refine .done s' h0 h1 a4 ⟨by rw [h2, a4]; exact a5, by rw [a4]; exact putF_uniq h.uniq h1 name data, a3, a2, by rw [a4]; exact hb.thin (putL_thin h1 name data), by omega, by rw [h2]; exact hro, by rw [a4]; exact h.recs.putF hr⟩ h2 h3
    · refine .torn s' l h0 h1 a2 a4 a3 h2 ⟨a5, ?_, by omega, ?_⟩ a6
      · rcases a6 with rfl | a6
        · exact fun r hr => Nat.le_succ_of_le (h.bnd r hr)
        · exact hb.thin a6
      · rcases a6 with rfl | a6
        · exact h.recs
        · exact (h.recs.putL hr).thin a6
inductive DropL (m : Nat) (s : St) (name : ByteArray) : Int × St → Prop
  | none (h : Sto.look s.recs name = none) : DropL m s name (4, s)
  | done (s' : St) (x : List UInt8) (h : Sto.look s.recs name = some x) (k : Nat) (hk : Sto.best s.recs name s.recs.length = some k) (hr : s'.recs = s.recs.set k Sto.Rec.free) (hl : SLive (m + 1) s') (ho : s'.room = s.room) (hst : s'.disk.stops = s.disk.stops) (hlk : ∀ nm, Sto.look s'.recs nm = if nm = name then Option.none else Sto.look s.recs nm) : DropL m s name (0, s')
  | torn (s' : St) (l : List Sto.Rec) (x : List UInt8) (h : Sto.look s.recs name = some x) (hd : s.disk.stops = true) (h1 : s'.disk.dead = true) (h2 : s'.dead = true) (ho : s'.room = s.room) (hl : SHold (m + 1) s'.disk s.room l) (hn : l.length = s.recs.length) (hlk : ∀ nm, nm ≠ name → Sto.look l nm = Sto.look s.recs nm) (hx : Sto.look l name = Option.none ∨ Sto.look l name = some x) : DropL m s name (8, s')
theorem SLive.drop {m : Nat} {s : St} (h : SLive m s) (name : ByteArray) : DropL m s name (dropR s name) := by
  unfold dropR
  rw [if_neg (by simp [h.dead])]
  cases hb : Sto.best s.recs name s.recs.length with
  | none => exact .none (by unfold Sto.look; rw [hb]; rfl)
  | some k =>
    obtain ⟨rk, hk, _⟩ := (Sto.best_top _ _ _).1 k hb
    obtain ⟨x, hx⟩ : ∃ x, Sto.look s.recs name = some x := by unfold Sto.look; rw [hb]; exact ⟨_, rfl⟩
    have hwr : (s.freeS k).disk.writes ≤ s.disk.writes + 1 := DiskS.wr_writes _ _ _
    have hw := h.writes
    have hlk := Sto.look_drop h.uniq hb
    have hb1 : Bnd (m + 1) s.recs := fun r hr => Nat.le_succ_of_le (h.bnd r hr)
    have hb2 : Bnd (m + 1) (s.recs.set k Sto.Rec.free) := h.bnd.set (by omega) k (Nat.zero_le _)
    have hst : (s.freeS k).disk.stops = s.disk.stops := wr_stops _ _ _
    show DropL m s name (s.freeE k, s.freeS k)
    have hro : (s.freeS k).room = s.room := rfl
    rcases free_law h.holds h.disk h.dead hk with ⟨a1, a2, a3, a4, a5⟩ | ⟨a1, a2, a2', a3, a4, a5, a6⟩
    · rw [a1]
      refine .done _ x hx k hb a4 ⟨by rw [a4, hro]; exact a5, by rw [a4]; exact h.uniq.drop k, a3, a2, by rw [a4]; exact hb2, by omega, h.room, by rw [a4]; exact h.recs.drop k⟩ hro hst (fun nm => by rw [a4]; exact hlk nm)
    · rw [a1]
      rcases a6 with a6 | a6
      · exact .torn _ s.recs x hx a2 a4 a3 hro ⟨a6, hb1, by omega, h.recs⟩ rfl (fun _ _ => rfl) (.inr hx)
      · exact .torn _ _ x hx a2 a4 a3 hro ⟨a6, hb2, by omega, h.recs.drop k⟩ List.length_set (fun nm hn => by rw [hlk, if_neg hn]) (.inl (by rw [hlk, if_pos rfl]))
theorem SHold.reopen {m : Nat} {D : DiskS} {room : Nat} {l : List Sto.Rec} (h : SHold m D room l) (hl : l.length ≤ 500) (hr : 1 ≤ room ∧ room ≤ 1000) :
    ∃ l' D', Sto.Thin l l' ∧ openR D.start l.length room = (0, D', some ⟨room, l', false, D'⟩) ∧ SLive (m + 1) ⟨room, l', false, D'⟩ ∧ D'.stops = false := by
  obtain ⟨l', D', h1, h2, h3⟩ := good_reopen h.holds h.bnd h.writes hl hr
  exact ⟨l', D', h1, h2, ⟨h3.holds, h3.uniq, h3.disk, h3.dead, h3.bnd, h3.writes, h3.room, h.recs.thin h1⟩, h3.stops⟩
def TabIs (l : List Sto.Rec) (tab : List Les) : Prop := ∀ ix : Key, ix.length = 16 → (Sto.look l (leaseN ix) = none ∧ ofL tab ix = []) ∨ ∃ out, Sto.look l (leaseN ix) = some (packL out) ∧ OfR tab ix out ∧ out ≠ []
theorem ofR_leOk {t : List Les} (hw : ∀ x ∈ t, Wf x) (hg : Lea.Good t) {ix : Key} {out : List Sec} (h : OfR t ix out) (hne : out ≠ []) : LeOk out := by
  refine ⟨fun s hs => ?_, ?_, ?_, h.up, hne⟩
  · obtain ⟨x, hx, _, e⟩ := mem_ofL.1 (h.perm.mem_iff.1 hs)
    subst e
    exact ⟨(hw x hx).2, hg.ends x hx⟩
  · rw [h.perm.length_eq]; exact hg.few ix
  · have hg' : Lea.Good (t.filter fun x => decide (x.ix = ix)) := hg.sub List.filter_sublist
    have h1 : (t.filter fun x => decide (x.ix = ix)).map kOf = ((ofL t ix).map (·.1)).map fun s => (ix, s) := by
      unfold ofL
      rw [List.map_map, List.map_map]
      refine List.map_congr_left fun x hx => ?_
      have := (List.mem_filter.1 hx).2
      simp only [decide_eq_true_eq] at this
      subst this
      rfl
    have h2 := hg'.uniq
    rw [h1] at h2
    exact (h.perm.map _).nodup_iff.2 ((List.pairwise_map.1 h2).imp (fun h e => h (by rw [e])))
end Go.Mem
end
section
namespace Lea
theorem ofL_set_other {ix ix' : Key} (hn : ix' ≠ ix) : ∀ {l : List Les} {k : Nat} {x y : Les}, l[k]? = some x → x.ix = ix → y.ix = ix → ofL (l.set k y) ix' = ofL l ix'
  | z :: l, 0, x, y, hx, h1, h2 => by
    simp at hx
    subst hx
    unfold ofL
    rw [List.set_cons_zero, List.filter_cons_of_neg (by simpa [h2] using fun e => hn e.symm), List.filter_cons_of_neg (by simpa [h1] using fun e => hn e.symm)]
  | z :: l, k + 1, x, y, hx, h1, h2 => by
    have ih := ofL_set_other hn (l := l) (k := k) (by simpa using hx) h1 h2
    unfold ofL at ih ⊢
    rw [List.set_cons_succ, List.filter_cons, List.filter_cons]
    split
    · rw [List.map_cons, List.map_cons, ih]
    · exact ih
theorem AddR.other {l l' : List Les} {ix sec : Key} {e : Int} {b : Bool} (h : AddR l ix sec e b l') {ix' : Key} (hn : ix' ≠ ix) : (ofL l' ix').Perm (ofL l ix') := by
  cases h with
  | no _ => exact List.Perm.refl _
  | more k x _ _ hx h1 _ hp => exact (ofL_perm hp ix').trans (by rw [ofL_set_other hn hx h1 rfl])
  | new _ _ _ _ hp =>
    refine (ofL_perm hp ix').trans ?_
    rw [ofL_app]
    have : ofL [(⟨ix, sec, e⟩ : Les)] ix' = [] := by
      unfold ofL
      rw [List.filter_cons_of_neg (by simpa using fun e => hn e.symm)]; rfl
    rw [this, List.append_nil]
theorem AddR.wf {l l' : List Les} {ix sec : Key} {e : Int} {b : Bool} (h : AddR l ix sec e b l') (hw : ∀ x ∈ l, Wf x) (h1 : ix.length = 16) (h2 : sec.length = 16) : ∀ x ∈ l', Wf x := by
  cases h with
  | no _ => exact hw
  | more k x _ _ hx _ _ hp =>
    intro y hy
    rcases List.mem_or_eq_of_mem_set (hp.mem_iff.1 hy) with hy | rfl
    · exact hw y hy
    · exact ⟨h1, h2⟩
  | new _ _ _ _ hp =>
    intro y hy
    rcases List.mem_append.1 (hp.mem_iff.1 hy) with hy | hy
    · exact hw y hy
    · rw [List.mem_singleton.1 hy]; exact ⟨h1, h2⟩
theorem AddR.has {l l' : List Les} {ix sec : Key} {e : Int} (h : AddR l ix sec e true l') : ∃ x ∈ l', x.ix = ix ∧ x.sec = sec ∧ e ≤ x.e := by
  cases h with
  | more k x _ _ hx _ _ hp => exact ⟨_, hp.mem_iff.2 (List.mem_set (Go.Mem.some_lt hx) _), rfl, rfl, by show e ≤ max x.e e; omega⟩
  | new _ _ _ _ hp => exact ⟨⟨ix, sec, e⟩, hp.mem_iff.2 (by simp), rfl, rfl, Int.le_refl _⟩
theorem AddR.ne {l l' : List Les} {ix sec : Key} {e : Int} (h : AddR l ix sec e true l') : ofL l' ix ≠ [] := fun e' => by
  obtain ⟨x, hx, h1, _⟩ := h.has
  exact ofL_nil.1 e' x hx h1
theorem OfR.nil_iff {l : List Les} {ix : Key} {out : List Sec} (h : OfR l ix out) : out = [] ↔ ofL l ix = [] := by
  have := h.perm.length_eq
  constructor
  · intro e; rw [e] at this; exact List.eq_nil_of_length_eq_zero this.symm
  · intro e; rw [e] at this; exact List.eq_nil_of_length_eq_zero this
end Lea
namespace Go.Mem
open Go Go.RowKit Gf Lea Go.Proofs.YtclhgokchcklbaaGreatDoor
abbrev Look := ByteArray → Option (List UInt8)
structure SrvG (m : Nat) (s : SrvS) : Prop where
  st : SLive m s.st
  good : Lea.Good s.tab
  wf : ∀ x ∈ s.tab, Wf x
  tab : TabIs s.st.recs s.tab
  brk : s.broken = false
  slots : s.slots = s.st.recs.length
  room : s.room = s.st.room
  few : s.slots ≤ 120
structure SrvX (m : Nat) (s : SrvS) (l : List Sto.Rec) : Prop where
  dead : s.st.disk.dead = true
  hold : SHold m s.st.disk s.room l
  good : Lea.Good s.tab
  slots : s.slots = l.length
  room : 1 ≤ s.room ∧ s.room ≤ 1000
  few : s.slots ≤ 120
def SrvT (m : Nat) (s : SrvS) (f : Look) : Prop := (SrvG m s ∧ ∀ nm, f nm = Sto.look s.st.recs nm) ∨ ∃ l, SrvX m s l ∧ ∀ nm, f nm = Sto.look l nm
theorem SrvX.le {m m' : Nat} {s : SrvS} {l : List Sto.Rec} (h : SrvX m s l) (hm : m ≤ m') : SrvX m' s l := ⟨h.dead, h.hold.le hm, h.good, h.slots, h.room, h.few⟩
theorem SrvG.live {m : Nat} {s : SrvS} (h : SrvG m s) : s.dead = false := by
  unfold SrvS.dead
  rw [h.brk, h.st.disk, h.st.dead]; rfl
theorem SrvG.get {m : Nat} {s : SrvS} (h : SrvG m s) (nm : ByteArray) : s.st.get nm = Sto.look s.st.recs nm := St.get_look h.st.dead nm
def upd (f : Look) (nm : ByteArray) (x : Option (List UInt8)) : Look := fun n => if n = nm then x else f n
theorem putF_upd {l : List Sto.Rec} (ht : Sto.slot l < l.length) (name : ByteArray) (data : List UInt8) : ∀ nm, Sto.look (putF l name data) nm = upd (Sto.look l) name (some data) nm := fun nm => putF_look ht name data nm
theorem torn_upd {l l' : List Sto.Rec} (ht : Sto.slot l < l.length) {name : ByteArray} {data : List UInt8} (h : l' = l ∨ Sto.Thin (putL l name data) l') : l'.length = l.length ∧ ((∀ nm, Sto.look l' nm = Sto.look l nm) ∨ ∀ nm, Sto.look l' nm = upd (Sto.look l) name (some data) nm) := by
  rcases h with rfl | h
  · exact ⟨rfl, .inl fun _ => rfl⟩
  · refine ⟨by rw [h.1]; unfold Go.Mem.putL; rw [List.length_set], .inr fun nm => ?_⟩
    rw [h.look, putL_look ht]; rfl
theorem SrvG.put {m : Nat} {s : SrvS} (h : SrvG m s) (hm : m < 1000000) {name : ByteArray} {data : List UInt8} (hr : RecOk name data) (hn : ∀ ix, name ≠ leaseN ix) :
    ((putR s.st name data).1 = 0 ∧ SrvG (m + 1) { s with st := (putR s.st name data).2 } ∧ (∀ nm, Sto.look (putR s.st name data).2.recs nm = upd (Sto.look s.st.recs) name (some data) nm) ∧ (putR s.st name data).2.disk.stops = s.st.disk.stops) ∨
    (((putR s.st name data).1 = 1 ∨ (putR s.st name data).1 = 3) ∧ (putR s.st name data).2 = s.st) ∨
    ((putR s.st name data).1 = 8 ∧ s.st.disk.stops = true ∧ ∃ l, SrvX (m + 1) { s with st := (putR s.st name data).2 } l ∧ ((∀ nm, Sto.look l nm = Sto.look s.st.recs nm) ∨ ∀ nm, Sto.look l nm = upd (Sto.look s.st.recs) name (some data) nm)) := by
  have hp := h.st.put hm hr
  have hro := h.st.room
  generalize putR s.st name data = R at hp
  cases hp with
  | arg _ => exact .inr (.inl ⟨.inl rfl, rfl⟩)
  | full _ _ => exact .inr (.inl ⟨.inr rfl, rfl⟩)
  | done s' _ hs hr' hl ho hst =>
    refine .inl ⟨rfl, ⟨hl, h.good, h.wf, fun ix hx => ?_, h.brk, ?_, ?_, h.few⟩, fun nm => by rw [hr']; exact putF_upd hs _ _ nm, hst⟩
    · show (Sto.look s'.recs (leaseN ix) = none ∧ _) ∨ _
      rw [hr', putF_upd hs, upd, if_neg (fun e => hn ix e.symm)]
      exact h.tab ix hx
    · show s.slots = s'.recs.length
      rw [hr', putF_len, h.slots]
    · show s.room = s'.room
      rw [ho, h.room]
  | torn s' l _ hs hd h1 h2 ho hl hx =>
    have ht := torn_upd hs hx
    exact .inr (.inr ⟨rfl, hd, l, ⟨h1, by rw [h.room]; exact hl, h.good, by show s.slots = l.length; rw [ht.1, h.slots], by rw [h.room]; exact hro, h.few⟩, ht.2⟩)
theorem SrvG.lay {m : Nat} {s : SrvS} (h : SrvG m s) (hm : m < 1000000) {ix : Key} (hix : ix.length = 16) {l2 : List Les} (hg : Lea.Good l2) (hw : ∀ x ∈ l2, Wf x) (ho : ∀ ix', ix' ≠ ix → (ofL l2 ix').Perm (ofL s.tab ix')) {err : Int} {s' : SrvS} (hl : LayR s ix l2 err s') :
    ∃ out, OfR l2 ix out ∧
    ((err = 0 ∧ SrvG (m + 1) s' ∧ s'.tab = l2 ∧ (∀ nm, Sto.look s'.st.recs nm = upd (Sto.look s.st.recs) (leaseN ix) (if out = [] then none else some (packL out)) nm) ∧ s'.st.disk.stops = s.st.disk.stops) ∨
     ((err = 1 ∨ err = 3 ∨ err = 4) ∧ s' = s) ∨
     (err = 8 ∧ s.st.disk.stops = true ∧ ∃ l, SrvX (m + 1) s' l ∧ ((∀ nm, Sto.look l nm = Sto.look s.st.recs nm) ∨ ∀ nm, Sto.look l nm = upd (Sto.look s.st.recs) (leaseN ix) (if out = [] then none else some (packL out)) nm))) := by
  obtain ⟨out, hR, herr, hs'⟩ := hl
  have hro := h.st.room
  refine ⟨out, hR, ?_⟩
  by_cases h0 : out = []
  · have e0 : layR s ix out = dropR s.st (leaseN ix) := by unfold layR; rw [if_pos (by rw [h0]; rfl)]
    rw [e0] at herr hs'
    have hp := h.st.drop (leaseN ix)
    generalize dropR s.st (leaseN ix) = R at hp herr hs'
    simp only [if_pos h0]
    cases hp with
    | none _ =>
      subst herr
      rw [if_neg (by simp)] at hs'
      exact .inr (.inl ⟨.inr (.inr rfl), hs'⟩)
    | done st' x _ k hk hr hl' ho' hst hlk =>
      subst herr
      rw [if_pos (.inl rfl)] at hs'
      subst hs'
      refine .inl ⟨rfl, ⟨hl', hg, hw, fun ix' hx' => ?_, h.brk, ?_, ?_, h.few⟩, rfl, fun nm => hlk nm, hst⟩
      · show (Sto.look st'.recs (leaseN ix') = none ∧ ofL l2 ix' = []) ∨ _
        by_cases e : ix' = ix
        · subst e
          exact .inl ⟨by rw [hlk, if_pos rfl], hR.nil_iff.1 h0⟩
        · rw [hlk, if_neg (fun e' => e (leaseN_inj e'))]
          rcases h.tab ix' hx' with ⟨a1, a2⟩ | ⟨o, a1, a2, a3⟩
          · exact .inl ⟨a1, by have := (ho ix' e).length_eq; rw [a2] at this; exact List.eq_nil_of_length_eq_zero this⟩
          · exact .inr ⟨o, a1, ⟨a2.perm.trans (ho ix' e).symm, a2.up⟩, a3⟩
      · show s.slots = st'.recs.length
        rw [hr, List.length_set, h.slots]
      · show s.room = st'.room
        rw [ho', h.room]
    | torn st' l x hx hd h1 h2 ho' hl' hn hlk hx' =>
      subst herr
      rw [if_pos (.inr rfl)] at hs'
      subst hs'
      refine .inr (.inr ⟨rfl, hd, l, ⟨h1, by show SHold _ st'.disk s.room l; rw [h.room]; exact hl', hg, by show s.slots = l.length; rw [hn, h.slots], by show 1 ≤ s.room ∧ s.room ≤ 1000; rw [h.room]; exact hro, h.few⟩, ?_⟩)
      rcases hx' with hx' | hx'
      · right
        intro nm
        unfold upd
        split
        · rename_i e; rw [e]; exact hx'
        · rename_i e; exact hlk nm e
      · left
        intro nm
        by_cases e : nm = leaseN ix
        · rw [e, hx', hx]
        · exact hlk nm e
  · have e0 : layR s ix out = putR s.st (leaseN ix) (packL out) := by
      unfold layR
      rw [if_neg (fun e => h0 (List.eq_nil_of_length_eq_zero e))]
    rw [e0] at herr hs'
    have hp := h.st.put hm (RecOk.lease ix out hix (ofR_leOk hw hg hR h0))
    generalize putR s.st (leaseN ix) (packL out) = R at hp herr hs'
    simp only [if_neg h0]
    cases hp with
    | arg _ =>
      subst herr
      rw [if_neg (by simp)] at hs'
      exact .inr (.inl ⟨.inl rfl, hs'⟩)
    | full _ _ =>
      subst herr
      rw [if_neg (by simp)] at hs'
      exact .inr (.inl ⟨.inr (.inl rfl), hs'⟩)
    | done st' _ hs hr hl' ho' hst =>
      subst herr
      rw [if_pos (.inl rfl)] at hs'
      subst hs'
      have hlk : ∀ nm, Sto.look st'.recs nm = upd (Sto.look s.st.recs) (leaseN ix) (some (packL out)) nm := fun nm => by rw [hr]; exact putF_upd hs _ _ nm
      refine .inl ⟨rfl, ⟨hl', hg, hw, fun ix' hx' => ?_, h.brk, ?_, ?_, h.few⟩, rfl, hlk, hst⟩
      · show (Sto.look st'.recs (leaseN ix') = none ∧ ofL l2 ix' = []) ∨ _
        rw [hlk]
        by_cases e : ix' = ix
        · subst e
          exact .inr ⟨out, by rw [upd, if_pos rfl], hR, h0⟩
        · rw [upd, if_neg (fun e' => e (leaseN_inj e'))]
          rcases h.tab ix' hx' with ⟨a1, a2⟩ | ⟨o, a1, a2, a3⟩
          · exact .inl ⟨a1, by have := (ho ix' e).length_eq; rw [a2] at this; exact List.eq_nil_of_length_eq_zero this⟩
          · exact .inr ⟨o, a1, ⟨a2.perm.trans (ho ix' e).symm, a2.up⟩, a3⟩
      · show s.slots = st'.recs.length
        rw [hr, putF_len, h.slots]
      · show s.room = st'.room
        rw [ho', h.room]
    | torn st' l _ hs hd h1 h2 ho' hl' hx =>
      subst herr
      rw [if_pos (.inr rfl)] at hs'
      subst hs'
      have ht := torn_upd hs hx
      exact .inr (.inr ⟨rfl, hd, l, ⟨h1, by show SHold _ st'.disk s.room l; rw [h.room]; exact hl', hg, by show s.slots = l.length; rw [ht.1, h.slots], by show 1 ≤ s.room ∧ s.room ≤ 1000; rw [h.room]; exact hro, h.few⟩, ht.2⟩)
theorem SrvG.add {m : Nat} {s : SrvS} (h : SrvG m s) (hm : m < 1000000) {ix sec : Key} (hix : ix.length = 16) (hsec : sec.length = 16) {e : Int} {err : Int} {s' : SrvS} (hl : AddSrv s ix sec e err s') :
    (err = 3 ∧ s' = s ∧ AddR s.tab ix sec e false s.tab) ∨ ∃ l2 out, AddR s.tab ix sec e true l2 ∧ OfR l2 ix out ∧ out ≠ [] ∧
    ((err = 0 ∧ SrvG (m + 1) s' ∧ s'.tab = l2 ∧ (∀ nm, Sto.look s'.st.recs nm = upd (Sto.look s.st.recs) (leaseN ix) (some (packL out)) nm) ∧ s'.st.disk.stops = s.st.disk.stops) ∨
     ((err = 1 ∨ err = 3 ∨ err = 4) ∧ s' = s) ∨
     (err = 8 ∧ s.st.disk.stops = true ∧ ∃ l, SrvX (m + 1) s' l ∧ ((∀ nm, Sto.look l nm = Sto.look s.st.recs nm) ∨ ∀ nm, Sto.look l nm = upd (Sto.look s.st.recs) (leaseN ix) (some (packL out)) nm))) := by
  cases hl with
  | full h1 => exact .inl ⟨rfl, rfl, h1⟩
  | laid l2 _ _ ha hy =>
    obtain ⟨out, hR, hc⟩ := h.lay hm hix (ha.good h.good) (ha.wf h.wf hix hsec) (fun ix' hn => ha.other hn) hy
    have h0 : out ≠ [] := fun e => ha.ne (hR.nil_iff.1 e)
    simp only [if_neg h0] at hc
    exact .inr ⟨l2, out, ha, hR, h0, hc⟩
end Go.Mem
end
section
namespace Go.Mem
open Go Go.RowKit Gf Lea Go.Proofs.YtclhgokchcklbaaGreatDoor
def freshS (slots room : Nat) : SrvS := ⟨slots, room, ⟨room, List.replicate slots Sto.Rec.free, false, .fresh (slots * (room + 1))⟩, [], false⟩
theorem freshS_good (slots room : Nat) (h : 1 ≤ room ∧ room ≤ 1000) (h2 : slots ≤ 120) : SrvG 0 (freshS slots room) ∧ (∀ nm, Sto.look (freshS slots room).st.recs nm = none) ∧ (freshS slots room).st.disk.stops = false :=
  ⟨⟨SLive.fresh slots room h, Lea.Good.nil, (fun _ h => by cases h), fun ix _ => .inl ⟨look_free _ _, rfl⟩, rfl, by show slots = (List.replicate slots Sto.Rec.free).length; rw [List.length_replicate], rfl, h2⟩, fun nm => look_free _ _, rfl⟩
end Go.Mem
namespace Go.Proofs.YtclhgokchcklbaaGreatDoor
open Go Go.RowKit Go.Mem Gf Lea
attribute [local go_sem ↓] Go.wp_at_zero Go.wp_at_succ
theorem srvnew_is {w w2 w3 w4 : World} {sb lb d L tb : Nat} {slots room : Nat} (hS : LabS w w2 sb lb d L ⟨room, List.replicate slots Sto.Rec.free, false, .fresh (slots * (room + 1))⟩) (h1 : w2.heap.size ≤ tb) (h2 : Heap w3 tb (.slice none 0 0) []) (hb : Below w2.heap.size w2 w3)
    (hw : w4 = w3.alloc (.cells (srvV slots room d sb tb false) 79)) :
    ∃ C, IsSrv w4 C (fun _ => False) w3.heap.size (freshS slots room) ∧ (∀ b, C b → w.heap.size ≤ b) ∧ Below w.heap.size w w4 := by
  have hs2 := hS.bel.size
  have hs3 := hb.size
  have hlt := hS.st.lt
  have htl := h2.tab.cell.lt
  have hb4 : Below w3.heap.size w3 w4 := by rw [hw]; exact (Below.refl _ _).alloc (Nat.le_refl _) _
  have hb24 : Below w2.heap.size w2 w4 := hb.trans (hb4.mono hs3)
  have h4 : w4.heap.size = w3.heap.size + 1 := by rw [hw]; simp
  refine ⟨fun b => (DL d L b ∨ b = sb ∨ b = lb) ∨ b = tb ∨ b = w3.heap.size, ⟨sb, lb, d, L, tb, .slice none 0 0, ?_, ?_, h2.below hb4, Lea.Good.nil, ?_, (fun _ h => h.elim), ?_, ?_, (fun g hg => by cases hg)⟩, ?_, hS.bel.trans (hb24.mono hs2)⟩
  · rw [hw]; exact Blk.new _ _ _
  · refine hS.st.grow (S := fun _ => False) (Chg.of_below hb24) (fun _ _ h => h) (fun _ h => h.elim) (fun b hM => ?_) (fun b hN => .inl (.inl hN)) (fun b hM => ?_)
    · rcases hM with (hM | rfl | rfl) | hM
      · exact .inl hM
      · exact .inr h1
      · exact .inr hs3
      · exact hM.elim
    · rcases hM with (hM | rfl | rfl) | hM
      · have := hS.st.old b hM; omega
      · omega
      · omega
      · exact hM.elim
  · rintro b (hf | rfl | rfl | hv)
    · left
      rcases hf with rfl | rfl | rfl | rfl
      · exact .inr (.inl rfl)
      · exact .inr (.inr rfl)
      · exact .inl (.inl rfl)
      · exact .inl (.inr rfl)
    · exact .inr (.inr rfl)
    · exact .inr (.inl rfl)
    · cases hv
  · intro hf
    have := hlt _ hf; omega
  · exact ⟨fun hf => by have := hlt _ hf; omega, by omega⟩
  · rintro b ((hM | rfl | rfl) | rfl | rfl)
    · rcases hM with rfl | rfl
      · exact hS.d1
      · exact hS.l1
    · exact hS.s1
    · exact hS.b1
    · omega
    · omega
set_option maxRecDepth 100000 in
set_option maxHeartbeats 1000000 in
theorem srvnew_calls (slots room : Nat) (w : World) (hT : Tab w) (h1 : 1 ≤ slots ∧ slots ≤ 1024) (h2 : 1 ≤ room ∧ room ≤ 1024) (h3 : slots * (room + 1) ≤ 4096) :
    Calls Tryz.prog 8 #[.int .i64 slots, .int .i64 room] w fun e w' => ∃ pb C, e = .returned (.tuple #[.pointer (some ⟨pb, 0, none⟩), .int .i64 0]) ∧ IsSrv w' C (fun _ => False) pb (freshS slots room) ∧ (∀ b, C b → w.heap.size ≤ b) ∧ Below w.heap.size w w' := by
  obtain ⟨m, hmm⟩ : ∃ m, m = slots * (room + 1) := ⟨_, rfl⟩
  have q1 : IntKind.i64.wrap ((room : Int) + 1) = (room : Int) + 1 := IntWalk.i64_in _ (by omega)
  have q2 : IntKind.i64.wrap ((slots : Int) * ((room : Int) + 1)) = (m : Int) := by
    have e2 : (slots : Int) * ((room : Int) + 1) = (m : Int) := by rw [hmm]; push_cast; rfl
    rw [e2]
    exact IntWalk.i64_in _ (by omega)
  have hm1 : 1 ≤ m := by rw [hmm]; exact Nat.mul_pos (by omega) (by omega)
  rw [← hmm] at h3
  have i1 : decide ((slots : Int) < 1) = false := by simp; omega
  have i2 : decide ((room : Int) < 1) = false := by simp; omega
  have i3 : decide (4096 < (slots : Int)) = false := by simp; omega
  have i4 : decide (4096 < (room : Int)) = false := by simp; omega
  have i1' : decide (slots < 1) = false := by simp; omega
  have i2' : decide (room < 1) = false := by simp; omega
  have i3' : decide (4096 < slots) = false := by simp; omega
  have i4' : decide (4096 < room) = false := by simp; omega
  have HM := Lib.hid hmm
  have HT := Lib.hid hT
  have HA := Lib.hid (And.intro h1 (And.intro h2 (And.intro h3 hm1)))
  clear hmm hT h1 h2 h3 hm1
  go_enter Tryz.func8, Tryz.ntmps8
  go_wp2_with fail
  refine (lab_new m w w HT.out (Below.refl _ _) HA.out.2.2.2 HA.out.2.2.1).mono ?_
  rintro e w1 ⟨d, L, rfl, hl1, ht, _⟩
  have H1 := Lib.hid (And.intro ht hl1)
  clear ht hl1
  go_wp2_with fail
  refine (lab_open_uniq H1.out.2 H1.out.1 (slots := slots) (room := room) HA.out.1 HA.out.2.1 (by show 0 < _; omega) (l := List.replicate slots Sto.Rec.free) List.length_replicate (by rw [HM.out]; exact Holds.fresh slots room) rfl (uniq_free slots)).mono ?_
  rintro e w2 ⟨sb, lb, rfl, hs2, _⟩
  have H2 := Lib.hid hs2
  clear hs2
  go_wp2_with fail
  refine (new_calls w2).mono ?_
  rintro e w3 ⟨tb, rfl, hn1, hn2, hn3⟩
  have H3 := Lib.hid (And.intro hn1 (And.intro hn2 hn3))
  clear hn1 hn2 hn3
  go_wp2_with fail
  go_ret2
  obtain ⟨C, a1, a2, a3⟩ := srvnew_is (by have := H2.out; rw [HM.out] at this; exact this) H3.out.1 H3.out.2.1 H3.out.2.2 rfl
  exact ⟨w3.heap.size, C, rfl, a1, a2, a3⟩
end Go.Proofs.YtclhgokchcklbaaGreatDoor
end
