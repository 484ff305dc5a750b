/- Texts of this proof, packed: SrvSwap, SrvAny, SrvStep, SrvSlotL, SrvActs, SrvCopyT, SrvTst, SrvSlotP, SrvSweep. -/
import Derived.Test.YtclhgokchcklbaaGreatDoorPk17
import Derived.Test.YtclhgokchcklbaaGreatDoorPk13
import Derived.Test.YtclhgokchcklbaaGreatDoorPk12
import Derived.Test.YtclhgokchcklbaaGreatDoorPk14
import Derived.Test.YtclhgokchcklbaaGreatDoorPk08
section
namespace Go.Mem
open Go Go.RowKit Gf Lea
theorem withA_mem {x : Blob} : ∀ {r out : List Blob}, x ∈ withA out r → x ∈ out ∨ x ∈ r
  | [], _, h => .inl h
  | b :: r, out, h => by
    rw [withA] at h
    split at h
    · rcases withA_mem h with h | h
      · rcases List.mem_append.1 h with h | h
        · exact .inl h
        · rw [List.mem_singleton.1 h]; exact .inr (List.mem_cons_self)
      · exact .inr (List.mem_cons_of_mem _ h)
    · rcases withA_mem h with h | h
      · exact .inl h
      · exact .inr (List.mem_cons_of_mem _ h)
def TsAt (w : World) (N : Nat → Prop) (v : Value) (ts : List Tst) : Prop :=
  ∃ a c, v = .slice a ts.length c ∧ ts.length ≤ 1000000 ∧ (∀ t ∈ ts, t.want.length = 32) ∧ (0 < ts.length → ∃ b off, a = some ⟨b, off, none⟩ ∧ b < w.heap.size ∧ ¬ N b ∧ ∀ (i : Nat) (t : Tst), ts[i]? = some t → w.rangeAt b (off + i * 34) (tstV t))
theorem TsAt.nil (w : World) (N : Nat → Prop) : TsAt w N (.slice none 0 0) [] := ⟨none, 0, rfl, Nat.zero_le _, (fun _ h => by cases h), fun h => by simp at h⟩
theorem TsAt.chg {S N : Nat → Prop} {w w' : World} {v : Value} {ts : List Tst} (h : TsAt w N v ts) (hc : Chg S w w') (hs : ∀ b, S b → b < w.heap.size → N b) : TsAt w' N v ts := by
  obtain ⟨a, c, e, h1, h2, h3⟩ := h
  refine ⟨a, c, e, h1, h2, fun hp => ?_⟩
  obtain ⟨b, off, e1, hb, hn, h4⟩ := h3 hp
  refine ⟨b, off, e1, Nat.lt_of_lt_of_le hb hc.size, hn, fun i t ht j u hu => ?_⟩
  have := h4 i t ht j u hu
  unfold World.cell? at this ⊢
  rw [hc.block b hb (fun hS => hn (hs b hS hb))]
  exact this
theorem TsAt.below {N : Nat → Prop} {w w' : World} {v : Value} {ts : List Tst} (h : TsAt w N v ts) (hb : Below w.heap.size w w') : TsAt w' N v ts := h.chg (S := fun _ => False) (Chg.of_below hb) (fun _ h => h.elim)
theorem TsAt.mono {N M : Nat → Prop} {w : World} {v : Value} {ts : List Tst} (h : TsAt w N v ts) (hM : ∀ b, M b → N b ∨ w.heap.size ≤ b) : TsAt w M v ts := by
  obtain ⟨a, c, e, h1, h2, h3⟩ := h
  refine ⟨a, c, e, h1, h2, fun hp => ?_⟩
  obtain ⟨b, off, e1, hb, hn, h4⟩ := h3 hp
  refine ⟨b, off, e1, hb, fun hm => ?_, h4⟩
  rcases hM b hm with h | h
  · exact hn h
  · omega
end Go.Mem
namespace Go.Proofs.YtclhgokchcklbaaGreatDoor
open Go Go.RowKit Go.Mem Gf Lea
set_option linter.unusedVariables false
def enOf (r : Req) (o : Option (Key × List Blob)) : Key := if o.isSome then contK o else r.en
inductive SwapR (s : SrvS) (r : Req) (l : List Blob) (ts : List Tst) (o : Option (Key × List Blob)) : Int → SrvS → Prop
  | form (h : ¬ (l ≠ [] ∧ NumsOk l ∧ May r.ends)) : SwapR s r l ts o 2 s
  | enable (h : l ≠ [] ∧ NumsOk l ∧ May r.ends) (ho : o.isSome = true) (hk : contK o ≠ r.en) : SwapR s r l ts o 7 s
  | test (h : l ≠ [] ∧ NumsOk l ∧ May r.ends) (hk : o.isSome = true → contK o = r.en) (ht : ∃ t ∈ ts, holdsB (contL o) t = false) : SwapR s r l ts o 6 s
  | no (h : l ≠ [] ∧ NumsOk l ∧ May r.ends) (hk : o.isSome = true → contK o = r.en) (ht : ∀ t ∈ ts, holdsB (contL o) t = true) (l' : List Blob) (hp : l'.Perm (withA l (contL o))) (hs : l'.Pairwise fun a b : Blob => a.1 ≤ b.1) (err : Int)
      (ha : AskR s r.ix r.sec r.ends (slotN r.ix) (contB (enOf r o) l') o.isSome err) (h0 : err ≠ 0) : SwapR s r l ts o err s
  | torn (h : l ≠ [] ∧ NumsOk l ∧ May r.ends) (hk : o.isSome = true → contK o = r.en) (ht : ∀ t ∈ ts, holdsB (contL o) t = true) (l' : List Blob) (hp : l'.Perm (withA l (contL o))) (hs : l'.Pairwise fun a b : Blob => a.1 ≤ b.1)
      (ha : AskR s r.ix r.sec r.ends (slotN r.ix) (contB (enOf r o) l') o.isSome 0) (h0 : (putR s.st (slotN r.ix) (contB (enOf r o) l')).1 ≠ 0) : SwapR s r l ts o (putR s.st (slotN r.ix) (contB (enOf r o) l')).1 { s with st := (putR s.st (slotN r.ix) (contB (enOf r o) l')).2 }
  | put (h : l ≠ [] ∧ NumsOk l ∧ May r.ends) (hk : o.isSome = true → contK o = r.en) (ht : ∀ t ∈ ts, holdsB (contL o) t = true) (l' : List Blob) (hp : l'.Perm (withA l (contL o))) (hs : l'.Pairwise fun a b : Blob => a.1 ≤ b.1) (err : Int) (s' : SrvS)
      (ha : AskR s r.ix r.sec r.ends (slotN r.ix) (contB (enOf r o) l') o.isSome 0) (h0 : (putR s.st (slotN r.ix) (contB (enOf r o) l')).1 = 0) (hs' : AddSrv { s with st := (putR s.st (slotN r.ix) (contB (enOf r o) l')).2 } r.ix r.sec r.ends err s') : SwapR s r l ts o err s'
theorem contL_small {s : SrvS} {ix : Key} {o : Option (Key × List Blob)} (h : ContIs s ix o) : ∀ x ∈ contL o, x.2.length ≤ 16384 := fun x hx => by
  cases o with
  | none => cases hx
  | some kl =>
    obtain ⟨_, _, h3, _⟩ := h
    exact h3.len x hx
theorem contL_ok {s : SrvS} {ix : Key} {o : Option (Key × List Blob)} (h : ContIs s ix o) : BlOk (contL o) ∧ (contL o).length ≤ 16 := by
  cases o with
  | none => exact ⟨⟨fun x hx => (by cases hx), fun x hx => (by cases hx)⟩, Nat.zero_le _⟩
  | some kl =>
    obtain ⟨_, _, h3, h4⟩ := h
    exact ⟨h3, h4⟩
theorem nodup_le : ∀ (n : Nat) (l : List Int), l.Nodup → (∀ x ∈ l, 0 ≤ x ∧ x < (n : Int)) → l.length ≤ n
  | 0, l, _, h => by
    cases l with
    | nil => exact Nat.le_refl _
    | cons x l => have := h x (by simp); omega
  | n + 1, l, hn, h => by
    by_cases hm : (n : Int) ∈ l
    · have h1 := List.length_erase_of_mem hm
      have h2 := nodup_le n (l.erase n) (hn.erase _) (fun x hx => by
        have h3 := (hn.mem_erase_iff).1 hx
        have := h x h3.2
        have := h3.1
        omega)
      omega
    · have h2 := nodup_le n l hn (fun x hx => by
        have := h x hx
        have : x ≠ (n : Int) := fun e => hm (by rw [← e]; exact hx)
        omega)
      omega
theorem nums_len {l : List Blob} (h : NumsOk l) : l.length ≤ 16 := by
  have := nodup_le 16 (l.map (·.1)) h.2 (fun x hx => by
    obtain ⟨y, hy, rfl⟩ := List.mem_map.1 hx
    exact h.1 y hy)
  rwa [List.length_map] at this
theorem i34 : (Tryz.prog.info? 55).map (·.size) = some 34 := by kernel_rfl
theorem load_test (dst : Option Tmp) (x : Operand) (ty : TypeId) (pos : String) (af : Array Edge) (gd : Option (Tmp × Bool)) (a : Act) (w : World) (K : Act → World → Prop) (Q : Exit → Act → World → Prop)
    (hp : ptrIs (a.eval x) = true) (ht : SomeK 34 w (ptrB (a.eval x)) (ptrO (a.eval x))) :
    Oper.wp Tryz.prog ⟨dst, .load 55 x, ty, pos, af, gd⟩ a w K Q = K (a.put dst (.agg (readK 34 w (ptrB (a.eval x)) (ptrO (a.eval x))).toArray)) w :=
  wp_loadS Tryz.underlying55 rfl i34 dst x ty pos af gd a w K Q hp ht
theorem store_test (dst : Option Tmp) (x y : Operand) (ty : TypeId) (pos : String) (af : Array Edge) (a : Act) (w : World) (K : Act → World → Prop) (Q : Exit → Act → World → Prop)
    (hp : ptrIs (a.eval x) = true) (hy : aggIs (a.eval y) = true) (ht : HasK 34 w (ptrB (a.eval x)) (ptrO (a.eval x))) (hc : AllK 34 (aggL (a.eval y))) :
    Oper.wp Tryz.prog ⟨dst, .store 55 x y, ty, pos, af, none⟩ a w K Q = K (a.put dst undef) (w.setCells (ptrB (a.eval x)) (ptrO (a.eval x)) (aggL (a.eval y))) :=
  wp_storeK i34 dst x y ty pos af a w K Q hp hy ht hc
theorem allT {t : Tst} (h : t.want.length = 32) : AllK 34 (tstV t) := ⟨tstV_len h, fun v hv => by
  unfold tstV at hv
  rcases List.mem_cons.1 hv with rfl | hv
  · rfl
  · rcases List.mem_cons.1 hv with rfl | hv
    · rfl
    · exact bV_one _ v hv⟩
attribute [local irreducible] reqV contV zeroCont
attribute [local go_sem ↓] Go.wp_at_zero Go.wp_at_succ
attribute [local go_sem ↓] load_key load_req load_cont store_cont load_test store_test
attribute [local go_sem] arrayAt_key ptrB_eq ptrO_eq ptrIs_eq aggL_eq aggIs_eq readK_drew hasK_drew someK_drew readK_alloc_past hasK_alloc_past readK_alloc_in hasK_alloc_in setCells_drew setCells_alloc_past setCells_alloc_at setCells_zero hasK_alloc_at
set_option maxRecDepth 100000 in
set_option maxHeartbeats 8000000 in
theorem swap_calls16 (C X : Nat → Prop) (pb : Nat) (s : SrvS) (r : Req) (l : List Blob) (ts : List Tst) (o : Option (Key × List Blob)) (hr : r.Wf) (w : World) (h : IsSrv w C X pb s) (hB : SrvB s) (hwr : s.st.disk.writes < 72057594037800000) (hl : BlAt w (fun b => C b ∨ X b) r.vb l) (hd : ∀ x ∈ l, x.2.length ≤ 16384) (hts : TsAt w (fun b => C b ∨ X b) r.vt ts) (ho : ContIs s r.ix o) :
    Calls Tryz.prog 78 #[.pointer (some ⟨pb, 0, none⟩), .agg (reqV r).toArray] w (Answers C X pb (SwapR s r l ts o) w) := by
  obtain ⟨la, lc, hvb, hlc1, hlc2, hrow⟩ := id hl
  obtain ⟨n, hn⟩ : ∃ n, n = l.length := ⟨_, rfl⟩
  rw [← hn] at hvb hlc1 hrow
  obtain ⟨ta, tc, hvt, htn, htw, htrow⟩ := id hts
  obtain ⟨tn, htn2⟩ : ∃ n, n = ts.length := ⟨_, rfl⟩
  rw [← htn2] at hvt htn htrow
  have hR := (ReqAt.new w 47 hr)
  have hb0 := (Below.refl w.heap.size w).alloc (Nat.le_refl _) (.cells (reqV r).toArray 47)
  have hb1 := hb0.alloc hb0.size (.cells #[.int .i64 0, .slice none 0 0] 49)
  have hR1 := hR.below ((Below.refl _ (w.alloc (.cells (reqV r).toArray 47))).alloc (Nat.le_refl _) (.cells #[.int .i64 0, .slice none 0 0] 49))
  have hk4 : Blk ((w.alloc (.cells (reqV r).toArray 47)).alloc (.cells #[.int .i64 0, .slice none 0 0] 49)) (w.heap.size + 1) #[.int .i64 0, .slice none 0 0] 49 := Blk.new_at _ _ _ _ (by simp)
  obtain ⟨cr, hcr⟩ : ∃ c, c = reqV r := ⟨_, rfl⟩
  rw [← hcr] at hR1 hb1 hk4
  rw [← hcr]
  have HCR := Lib.hid hcr
  obtain ⟨w0, hw0⟩ : ∃ x, x = (w.alloc (.cells cr.toArray 47)).alloc (.cells #[.int .i64 0, .slice none 0 0] 49) := ⟨_, rfl⟩
  obtain ⟨p3, hp3⟩ : ∃ p, p = w.heap.size := ⟨_, rfl⟩
  obtain ⟨p4, hp4⟩ : ∃ p, p = w.heap.size + 1 := ⟨_, rfl⟩
  have HW := Lib.hid (And.intro hw0 (And.intro hp3 hp4))
  rw [← hw0, ← hp3] at hR1
  rw [← hw0] at hb1
  rw [← hw0, ← hp4] at hk4
  have H := Lib.hid (And.intro h (And.intro hB (And.intro hr (And.intro hl (And.intro hd hn)))))
  have hx4 : IsSrv w0 C (fun b => X b ∨ b = p4) pb s := h.growX (fun b hb => .inl hb) (fun b hb => hb.imp id (fun e => by rw [e, hp4]; omega)) hb1 (fun b hb => by rcases hb with hb | hb; exact Nat.lt_of_lt_of_le (h.lt (.inr hb)) hb1.size; rw [hb]; exact hk4.lt)
  have H0 := Lib.hid (And.intro hR1 (And.intro hb1 (And.intro hk4 hx4)))
  have HT := Lib.hid (And.intro hts (And.intro htw (And.intro htrow (And.intro htn2 (And.intro hvt ho)))))
  have c33 := hR1.ends
  have c51 := hR1.blobs
  rw [hvb] at c51
  clear h hB hr hl hd hn hcr hw0 hp3 hp4 hR hR1 hb0 hb1 hk4 hx4 hts htw htrow htn2 hvt ho
  go_enter Tryz.func78, Tryz.ntmps78
  go_upto_region 1 with fail
  rw [← HW.out.1, ← HW.out.2.2, ← HW.out.2.1]
  have HVB := Lib.hid hvb
  clear hvb
  have hln : l ≠ [] ↔ n ≠ 0 := by
    have := H.out.2.2.2.2.2
    constructor
    · intro h e
      exact h (List.eq_nil_of_length_eq_zero (by omega))
    · intro h e
      rw [e] at this
      exact h this
  have HLN := Lib.hid hln
  clear hln
  by_cases h1 : n = 0
  · subst h1
    have HF : Hid (SwapR s r l ts o 2 s) := SwapR.form (by rintro ⟨e, _⟩; exact HLN.out.1 e rfl)
    go_wp2_with fail
    refine (fails_calls 2 w0).mono ?_
    rintro e wf ⟨rfl, hbf⟩
    have k4f := H0.out.2.2.1.kept hbf
    have f40 := k4f.free 0
    have f41 := k4f.free 1
    have c40 : wf.cell? ⟨p4, 0, none⟩ = some (.int .i64 0) := k4f.cell 0
    have c41 : wf.cell? ⟨p4, 1, none⟩ = some (.slice none 0 0) := k4f.cell 1
    have l4f := k4f.lt
    have HBF := Lib.hid hbf
    clear hbf k4f
    go_wp2_with fail
    have hE := reply_end (x := .int .i64 2) (y := .slice none 0 0) ((H0.out.2.2.2).below HBF.out) ((SChg.of_below H0.out.2.1).post HBF.out) (by rw [HW.out.2.2]; omega)
    exact bodyPost_ret (v := .agg #[.int .i64 2, .slice none 0 0]) (by simp [results, Tryz.results78, go_sem, c40, c41]) rfl ⟨C, 2, s, rfl, HF.out, hE.1, hE.2⟩
  · have d1 : ((n : Int) == 0) = false := by simp; omega
    have d1' : (n == 0) = false := by simp; omega
    have hblobs := blobs_calls _ r.vb l w0 (H.out.2.2.2.1.below H0.out.2.1)
    rw [HVB.out] at hblobs
    replace h1 := Lib.hid h1
    go_wp2_with fail
    refine hblobs.mono ?_
    rintro e w1 ⟨bb, rfl, hbb, hb1⟩
    clear hblobs
    have hw01 := H0.out.2.1.trans (hb1.mono H0.out.2.1.size)
    have hR1 := H0.out.1.below hb1
    have c33 := hR1.ends
    have c51 := hR1.blobs
    rw [HVB.out] at c51
    have H1 := Lib.hid (And.intro hbb (And.intro hb1 (And.intro (H0.out.2.2.1.kept hb1) (And.intro hw01 (And.intro hR1 (H0.out.2.2.2.below hb1))))))
    clear hbb hb1 hw01 hR1
    cases bb with
    | false =>
      have HF : Hid (SwapR s r l ts o 2 s) := SwapR.form (fun h => Bool.noConfusion (H1.out.1.2 h.2.1))
      go_wp2_with fail
      refine (fails_calls 2 w1).mono ?_
      rintro e wf ⟨rfl, hbf⟩
      have k4f := H1.out.2.2.1.kept hbf
      have f40 := k4f.free 0
      have f41 := k4f.free 1
      have c40 : wf.cell? ⟨p4, 0, none⟩ = some (.int .i64 0) := k4f.cell 0
      have c41 : wf.cell? ⟨p4, 1, none⟩ = some (.slice none 0 0) := k4f.cell 1
      have l4f := k4f.lt
      have HBF := Lib.hid hbf
      clear hbf k4f
      go_wp2_with fail
      have hE := reply_end (x := .int .i64 2) (y := .slice none 0 0) ((H1.out.2.2.2.2.2).below HBF.out) ((SChg.of_below H1.out.2.2.2.1).post HBF.out) (by rw [HW.out.2.2]; omega)
      exact bodyPost_ret (v := .agg #[.int .i64 2, .slice none 0 0]) (by simp [results, Tryz.results78, go_sem, c40, c41]) rfl ⟨C, 2, s, rfl, HF.out, hE.1, hE.2⟩
    | true =>
      go_wp2_with fail
      refine (time_calls r.ends w1).mono ?_
      rintro e wt ⟨rfl, rfl⟩
      by_cases hmay : May r.ends
      rotate_left
      · have HF : Hid (SwapR s r l ts o 2 s) := SwapR.form (fun h => hmay h.2.2)
        have dm : decide (May r.ends) = false := by simpa using hmay
        replace hmay := Lib.hid hmay
        go_wp2_with fail
        refine (fails_calls 2 w1).mono ?_
        rintro e wf ⟨rfl, hbf⟩
        have k4f := H1.out.2.2.1.kept hbf
        have f40 := k4f.free 0
        have f41 := k4f.free 1
        have c40 : wf.cell? ⟨p4, 0, none⟩ = some (.int .i64 0) := k4f.cell 0
        have c41 : wf.cell? ⟨p4, 1, none⟩ = some (.slice none 0 0) := k4f.cell 1
        have l4f := k4f.lt
        have HBF := Lib.hid hbf
        clear hbf k4f
        go_wp2_with fail
        have hE := reply_end (x := .int .i64 2) (y := .slice none 0 0) ((H1.out.2.2.2.2.2).below HBF.out) ((SChg.of_below H1.out.2.2.2.1).post HBF.out) (by rw [HW.out.2.2]; omega)
        exact bodyPost_ret (v := .agg #[.int .i64 2, .slice none 0 0]) (by simp [results, Tryz.results78, go_sem, c40, c41]) rfl ⟨C, 2, s, rfl, HF.out, hE.1, hE.2⟩
      · have dm : decide (May r.ends) = true := by simpa using hmay
        have HOK : Hid (l ≠ [] ∧ NumsOk l ∧ May r.ends) := ⟨HLN.out.2 h1.out, H1.out.1.1 (by first | rfl | trivial), hmay⟩
        have rk := H1.out.2.2.2.2.1.rix
        have gk := H1.out.2.2.2.2.1.hix
        obtain ⟨ki, hki⟩ : ∃ c, c = bV r.ix := ⟨_, rfl⟩
        rw [← hki] at rk
        have HKI := Lib.hid hki
        clear hmay hki
        go_wp2_with fail
        refine (show Calls _ _ _ _ _ from (by rw [HKI.out]; exact container_calls C _ pb s r.ix H.out.2.2.1.ix o w1 H1.out.2.2.2.2.2 HT.out.2.2.2.2.2)).mono ?_
        rintro e w2 ⟨u, rfl, hu, hb2⟩
        obtain ⟨ua, uc, rfl, _⟩ := hu.slice
        have hck := contK_len HT.out.2.2.2.2.2
        obtain ⟨kc, hkc⟩ : ∃ c, c = bV (contK o) := ⟨_, rfl⟩
        obtain ⟨ln, hln⟩ : ∃ q, q = (contL o).length := ⟨_, rfl⟩
        rw [← hkc, ← hln]
        obtain ⟨is, his⟩ : ∃ b, b = o.isSome := ⟨_, rfl⟩
        rw [← his]
        have hka : AllK 16 kc := ⟨by rw [hkc, bV_len]; exact hck, fun v hv => by rw [hkc] at hv; exact bV_one _ v hv⟩
        have hca : AllK 18 (contV is kc (.slice ua ln uc)) := ⟨contV_len is hka.1 _, contV_one _ hka.2 _ rfl⟩
        have hbl0 : BlAt w2 (fun _ => False) (.slice ua ln uc) (contL o) := by rw [hln]; exact (hu.at (fun b h1 _ h2 => by omega)).mono (fun _ h => h.elim)
        have hkk := fun (j : Nat) (hj : j < 16) => contV_k is kc (.slice ua ln uc) (i := j) (by rw [hka.1]; exact hj)
        obtain ⟨cc, hcc⟩ : ∃ c, c = contV is kc (.slice ua ln uc) := ⟨_, rfl⟩
        have hc0 : cc[0]? = some (.bool is) := by rw [hcc]; exact contV_0 _ _ _
        rw [← hcc] at hca hkk ⊢
        have HC := Lib.hid (And.intro hkc (And.intro his (And.intro hcc (And.intro hln hck))))
        have hw2 := H1.out.2.2.2.1.trans (hb2.mono H1.out.2.2.2.1.size)
        have H2 := Lib.hid (And.intro hbl0 (And.intro hw2 (And.intro (H1.out.2.2.2.2.1.below hb2) (And.intro (H1.out.2.2.1.kept hb2) (H1.out.2.2.2.2.2.below hb2)))))
        clear hu hck hkc hln his hcc hbl0 hw2 hb2 rk gk c33 c51
        go_upto_region 4 with fail
        have hk5 : Blk (w2.alloc (.cells cc.toArray 184)) w2.heap.size cc.toArray 184 := Blk.new _ _ _
        have hbA : Below w2.heap.size w2 (w2.alloc (.cells cc.toArray 184)) := (Below.refl _ _).alloc (Nat.le_refl _) _
        obtain ⟨w3, hw3⟩ : ∃ x, x = w2.alloc (.cells cc.toArray 184) := ⟨_, rfl⟩
        obtain ⟨p5, hp5⟩ : ∃ x, x = w2.heap.size := ⟨_, rfl⟩
        rw [← hw3] at hk5 hbA ⊢
        rw [← hp5] at hk5 ⊢
        have c50 : w3.cell? ⟨p5, 0, none⟩ = some (.bool is) := by rw [hk5.cell 0]; simpa using hc0
        have hR3 := H2.out.2.2.1.below hbA
        have H3 := Lib.hid (And.intro hk5 (And.intro (H2.out.2.1.trans (hbA.mono H2.out.2.1.size)) (And.intro hR3 (And.intro (H2.out.2.2.2.1.kept hbA) (And.intro (H2.out.2.2.2.2.below hbA) (H2.out.1.below hbA))))))
        have q5 : HasK 16 w3 p5 1 := blk_has hk5 (by simp [hca.1])
        have r5 : readK 16 w3 p5 1 = kc := blk_read hk5 hka.1 (fun j hj => by rw [List.getElem?_toArray, Nat.add_comm]; exact hkk j hj)
        have q3 := hR3.hen
        have r3 := hR3.ren
        obtain ⟨ke, hke⟩ : ∃ c, c = bV r.en := ⟨_, rfl⟩
        rw [← hke] at r3
        have heq := fun w' => eq_key (contK o) r.en HC.out.2.2.2.2 H.out.2.2.1.en w'
        rw [← hke, ← HC.out.1] at heq
        have HKE := Lib.hid hke
        clear hk5 hbA hw3 hp5 hR3 hke
        obtain ⟨bad, hbad⟩ : ∃ b, b = (is && !decide (contK o = r.en)) := ⟨_, rfl⟩
        have HBAD := Lib.hid hbad
        clear hbad
        go_cut [40] (fun v wx => v = .bool bad ∧ w3 = wx)
        case first =>
          cases is with
          | false =>
            have hb : bad = false := HBAD.out
            subst hb
            go_wp2_with fail
            go_meet
            exact ⟨rfl, rfl⟩
          | true =>
            by_cases e : contK o = r.en
            · have de : decide (contK o = r.en) = true := by simpa using e
              have hb : bad = false := by rw [HBAD.out, de]; rfl
              subst hb
              replace e := Lib.hid e
              go_wp2_with fail
              go_meet
              exact ⟨by simp, rfl⟩
            · have de : decide (contK o = r.en) = false := by simpa using e
              have hb : bad = true := by rw [HBAD.out, de]; rfl
              subst hb
              replace e := Lib.hid e
              go_wp2_with fail
              go_meet
              exact ⟨by simp, rfl⟩
        case rest =>
        obtain ⟨rfl, rfl⟩ := hcut
        clear q5 r5 q3 r3 heq
        cases bad with
        | true =>
          have HF : Hid (SwapR s r l ts o 7 s) := by
            have hb := HBAD.out
            rw [HC.out.2.1] at hb
            have h2 : o.isSome = true ∧ ¬ contK o = r.en := by simpa using hb.symm
            exact SwapR.enable HOK.out h2.1 h2.2
          go_wp2_with fail
          refine (fails_calls 7 w3).mono ?_
          rintro e wf ⟨rfl, hbf⟩
          have k4f := H3.out.2.2.2.1.kept hbf
          have f40 := k4f.free 0
          have f41 := k4f.free 1
          have c40 : wf.cell? ⟨p4, 0, none⟩ = some (.int .i64 0) := k4f.cell 0
          have c41 : wf.cell? ⟨p4, 1, none⟩ = some (.slice none 0 0) := k4f.cell 1
          have l4f := k4f.lt
          have HBF := Lib.hid hbf
          clear hbf k4f
          go_wp2_with fail
          have hE := reply_end (x := .int .i64 7) (y := .slice none 0 0) ((H3.out.2.2.2.2.1).below HBF.out) ((SChg.of_below H3.out.2.1).post HBF.out) (by rw [HW.out.2.2]; omega)
          exact bodyPost_ret (v := .agg #[.int .i64 7, .slice none 0 0]) (by simp [results, Tryz.results78, go_sem, c40, c41]) rfl ⟨C, 7, s, rfl, HF.out, hE.1, hE.2⟩
        | false =>
          have hen : o.isSome = true → contK o = r.en := fun h => by
            have hb := HBAD.out
            rw [HC.out.2.1, h] at hb
            simpa using hb.symm
          have HEN := Lib.hid hen
          have c350 := H3.out.2.2.1.tests
          rw [HT.out.2.2.2.2.1] at c350
          clear hen
          go_upto_region 7 with fail
          go_loopw [45] (fun vi wr => ∃ i : Nat, i ≤ tn ∧ vi = .int .i64 i ∧ Hid ((∀ q t, q < i → ts[q]? = some t → holdsB (contL o) t = true) ∧ Below w3.heap.size w3 wr)) (fun vi _ => tn - (intOf vi).toNat)
          case atStart => exact ⟨0, Nat.zero_le _, rfl, (fun q t h => by omega), Below.refl _ _⟩
          case round =>
            obtain ⟨i, hi0, rfl, G⟩ := hrel
            by_cases hin : i < tn
            · obtain ⟨b, off, rfl, hb, _, hcells⟩ := HT.out.2.2.1 (by omega)
              have hx : ts[i]? = some (ts[i]'(by have := HT.out.2.2.2.1; omega)) := by simp
              generalize ts[i]'(by have := HT.out.2.2.2.1; omega) = x at hx
              have hxw := HT.out.2.1 x (List.mem_of_getElem? hx)
              have hbwr : Below w.heap.size w wr := H3.out.2.1.trans (G.out.2.mono H3.out.2.1.size)
              have hrng : wr.rangeAt b (off + i * 34) (tstV x) := fun j u hu => by
                rw [hbwr.cell (p := ⟨b, off + i * 34 + j, none⟩) hb]; exact hcells i x hx j u hu
              have hta := allT hxw
              obtain ⟨ct, hct⟩ : ∃ c, c = tstV x := ⟨_, rfl⟩
              rw [← hct] at hrng hta
              have s34 : SomeK 34 wr b (off + i * 34) := someK_of hrng hta.1
              have r34 : readK 34 wr b (off + i * 34) = ct := readK_eq hrng hta.1
              have i0 : (0 : Int) ≤ (i : Int) := by omega
              have i1 : (i : Int) < (tn : Int) := by omega
              have htl := hta.1
              have HX := Lib.hid (And.intro hx (And.intro hxw (And.intro hct hbwr)))
              clear hx hxw hbwr hrng hct hcells
              go_upto_region 9 with fail
              have hk7 : Blk (wr.alloc (.cells ct.toArray 55)) wr.heap.size ct.toArray 55 := Blk.new _ _ _
              have hbB : Below wr.heap.size wr (wr.alloc (.cells ct.toArray 55)) := (Below.refl _ _).alloc (Nat.le_refl _) _
              obtain ⟨wb, hwb⟩ : ∃ x, x = wr.alloc (.cells ct.toArray 55) := ⟨_, rfl⟩
              obtain ⟨p7, hp7⟩ : ∃ x, x = wr.heap.size := ⟨_, rfl⟩
              rw [← hwb] at hk7 hbB ⊢
              rw [← hp7] at hk7 ⊢
              have hb3 := G.out.2.trans (hbB.mono G.out.2.size)
              have hk5b := H3.out.1.kept hb3
              have q7 : SomeK 34 wb p7 0 := (blk_has (n := 34) (o := 0) hk7 (by simp [hta.1])).some
              have r7 : readK 34 wb p7 0 = ct := blk_read0 hk7 hta.1
              have q5 : HasK 18 wb p5 0 := blk_has hk5b (by simp [hca.1])
              have r5 : readK 18 wb p5 0 = cc := blk_read0 hk5b hca.1
              have HB := Lib.hid hb3
              clear hk7 hbB hwb hp7 hb3 hk5b s34 r34
              go_wp2_with fail
              have hlen : ∀ y ∈ contL o, y.2.length ≤ 1000000 := fun y hy => by
                have := contL_small HT.out.2.2.2.2.2 y hy
                omega
              refine (show Calls _ _ _ _ _ from (by rw [HX.out.2.2.1, HC.out.2.2.1]; exact holds_calls wb is kc (.slice ua ln uc) (contL o) x hka (H3.out.2.2.2.2.2.below HB.out) HX.out.2.1 hlen)).mono ?_
              rintro e w4 ⟨rfl, hb4⟩
              obtain ⟨hb, hhb⟩ : ∃ b, b = holdsB (contL o) x := ⟨_, rfl⟩
              rw [← hhb]
              have HH := Lib.hid (And.intro hhb (HB.out.trans (hb4.mono HB.out.size)))
              clear hhb hb4 hlen q7 r7 q5 r5
              cases hb with
              | false =>
                have HF : Hid (SwapR s r l ts o 6 s) := SwapR.test HOK.out HEN.out ⟨x, List.mem_of_getElem? HX.out.1, HH.out.1.symm⟩
                go_wp2_with fail
                refine (fails_calls 6 w4).mono ?_
                rintro e wf ⟨rfl, hbf⟩
                have k4f := (H3.out.2.2.2.1.kept HH.out.2).kept hbf
                have f40 := k4f.free 0
                have f41 := k4f.free 1
                have c40 : wf.cell? ⟨p4, 0, none⟩ = some (.int .i64 0) := k4f.cell 0
                have c41 : wf.cell? ⟨p4, 1, none⟩ = some (.slice none 0 0) := k4f.cell 1
                have l4f := k4f.lt
                have HBF := Lib.hid hbf
                clear hbf k4f
                go_wp2_with fail
                have hE := reply_end (x := .int .i64 6) (y := .slice none 0 0) ((H3.out.2.2.2.2.1.below HH.out.2).below HBF.out) ((SChg.of_below (H3.out.2.1.trans (HH.out.2.mono H3.out.2.1.size))).post HBF.out) (by rw [HW.out.2.2]; omega)
                exact bodyPost_ret (v := .agg #[.int .i64 6, .slice none 0 0]) (by simp [results, Tryz.results78, go_sem, c40, c41]) rfl ⟨C, 6, s, rfl, HF.out, hE.1, hE.2⟩
              | true =>
                go_wp2_with fail
                exact ⟨⟨i + 1, by omega, by simp, fun q t hq ht => by
                  rcases Nat.lt_or_ge q i with h | h
                  · exact G.out.1 q t h ht
                  · have : q = i := by omega
                    subst this
                    rw [HX.out.1] at ht
                    cases ht
                    exact HH.out.1.symm, HH.out.2⟩, by show tn - ((i : Int) + 1).toNat < tn - (i : Int).toNat; omega⟩
            · obtain rfl : i = tn := by omega
              have hall : ∀ t ∈ ts, holdsB (contL o) t = true := fun t ht => by
                obtain ⟨q, hq⟩ := List.getElem?_of_mem ht
                exact G.out.1 q t (by have := some_lt hq; have := HT.out.2.2.2.1; omega) hq
              obtain ⟨w5, hw5⟩ : ∃ x, x = wr := ⟨_, rfl⟩
              have G2 := Lib.hid G.out.2
              rw [← hw5] at G2 ⊢
              have HALL := Lib.hid hall
              clear hall G hw5 hi0
              have hk5b := H3.out.1.kept G2.out
              have hR5 := H3.out.2.2.1.below G2.out
              have q5 : HasK 18 w5 p5 0 := blk_has hk5b (by simp [hca.1])
              have r5 : readK 18 w5 p5 0 = cc := blk_read0 hk5b hca.1
              have q3 := hR5.hen
              have r3 := hR5.ren
              rw [← HKE.out] at r3
              have c351 := hR5.blobs
              rw [HVB.out] at c351
              have hw := H3.out.2.1.trans (G2.out.mono H3.out.2.1.size)
              have hwith := with_calls (fun b => C b ∨ X b) w5 is (contK o) (.slice ua ln uc) r.vb (contL o) l r.en HC.out.2.2.2.2 H.out.2.2.1.en (H3.out.2.2.2.2.2.below G2.out) (H.out.2.2.2.1.below hw) (by have := H.out.2.2.2.2.2; have := h1.out; omega) (nums_len HOK.out.2.1) (contL_ok HT.out.2.2.2.2.2).2
              rw [← HC.out.1, ← HC.out.2.2.1, ← HKE.out, HVB.out] at hwith
              have H5 := Lib.hid (And.intro hk5b (And.intro hR5 (And.intro hw hwith)))
              clear hk5b hR5 hw hwith
              go_wp2_with fail
              refine H5.out.2.2.2.mono ?_
              rintro e w6 ⟨u6, l6, rfl, hbl6, hp6, hs6, hb6⟩
              have hek : (if is = true then contK o else r.en) = enOf r o := by unfold enOf; rw [HC.out.2.1]
              rw [hek]
              have hekl : (enOf r o).length = 16 := by
                unfold enOf
                split
                · exact HC.out.2.2.2.2
                · exact H.out.2.2.1.en
              have hl6 : l6.length ≤ 32 := by
                have h1 := withA_len (contL o) l
                have h2 := nums_len HOK.out.2.1
                have h3 := (contL_ok HT.out.2.2.2.2.2).2
                rw [hp6.length_eq]; omega
              have hok6 : BlOk l6 := by
                have h1 := (contL_ok HT.out.2.2.2.2.2).1
                refine ⟨fun x hx => ?_, fun x hx => ?_⟩
                · rcases withA_mem (hp6.mem_iff.1 hx) with h | h
                  · exact HOK.out.2.1.1 x h
                  · exact h1.num x h
                · rcases withA_mem (hp6.mem_iff.1 hx) with h | h
                  · exact H.out.2.2.2.2.1 x h
                  · exact h1.len x h
              have hw6 := H5.out.2.2.1.trans (hb6.mono H5.out.2.2.1.size)
              have hcb := contbytes_calls w6 true (enOf r o) u6 l6 hekl hbl6 ((H.out.1.below hw6).tab) hl6 hok6
              have hcbl := contB_len (enOf r o) hekl l6 hok6
              have H6 := Lib.hid (And.intro hp6 (And.intro hs6 (And.intro hb6 (And.intro hcb hcbl))))
              clear hbl6 hp6 hs6 hb6 hek hekl hok6 hw6 hcb hcbl q5 r5 q3 r3 c351
              go_wp2_with fail
              refine H6.out.2.2.2.1.mono ?_
              rintro e w7 ⟨v7, rfl, ho7, hb7⟩
              obtain ⟨a7, c7, rfl⟩ := ho7.eq_slice
              obtain ⟨n7, hn7⟩ : ∃ q, q = (contB (enOf r o) l6).length := ⟨_, rfl⟩
              rw [← hn7]
              have HN7 := Lib.hid hn7
              have hb67 := hb7
              have hw7 := (H5.out.2.2.1.trans (H6.out.2.2.1.mono H5.out.2.2.1.size)).trans (hb7.mono (Nat.le_trans H5.out.2.2.1.size H6.out.2.2.1.size))
              have hb57 := H6.out.2.2.1.trans (hb7.mono H6.out.2.2.1.size)
              have hb37 := G2.out.trans (hb57.mono G2.out.size)
              have hR7 := H5.out.2.1.below hb57
              have hk57 := H5.out.1.kept hb57
              have hS7 := H3.out.2.2.2.2.1.below hb37
              have hk47 := H3.out.2.2.2.1.kept hb37
              obtain ⟨cr2, hcr2⟩ : ∃ c, c = reqV r := ⟨_, rfl⟩
              have hcl : cr2.length = 52 := by rw [hcr2]; exact reqV_len H.out.2.2.1
              have hrr : ∀ w', Below w7.heap.size w7 w' → w'.rangeAt p3 0 cr2 := fun w' hb => by
                have := readK_range (hR7.below hb).hall
                rw [(hR7.below hb).rall, ← hcr2] at this
                exact this
              have hri : ∀ w', Below w7.heap.size w7 w' → w'.rangeAt p3 1 ki := fun w' hb => by
                have := readK_range (hR7.below hb).hix
                rw [(hR7.below hb).rix, ← HKI.out] at this
                exact this
              have h50 : ∀ w', Below w7.heap.size w7 w' → w'.cell? ⟨p5, 0, none⟩ = some (.bool is) := fun w' hb => by
                rw [(hk57.kept hb).cell 0]; simpa using hc0
              have hki : ki.length = 16 := by rw [HKI.out, bV_len]; exact H.out.2.2.1.ix
              have hslot : ∀ w', w' = w7.drew → Calls Tryz.prog 130 #[.agg ki.toArray] w' fun e w'' => ∃ v', e = .returned v' ∧ (v' = .string (slotN r.ix) ∧ Below w7.heap.size w7 w'') := fun w' e => by
                subst e
                rw [HKI.out]
                refine (slot_calls r.ix H.out.2.2.1.ix w7.drew).mono ?_
                rintro e w'' ⟨rfl, hb⟩
                exact ⟨_, rfl, rfl, of_drew_base hb rfl⟩
              have H7 := Lib.hid (And.intro ho7 (And.intro hw7 (And.intro hR7 (And.intro hk57 (And.intro hS7 (And.intro hk47 (And.intro hcr2 hb57)))))))
              clear ho7 hb7 hn7 hw7 hb57 hb37 hR7 hk57 hS7 hk47 hcr2 hb67
              obtain ⟨nm, hnm⟩ : ∃ x, x = slotN r.ix := ⟨_, rfl⟩
              have HNM := Lib.hid hnm
              rw [← hnm] at hslot
              clear hnm
              go_upto_region 13 with fail
              refine Tail.wp_region_any_tail 8 4 (fun w' => w' = w7.drew) (fun vo w' => vo = .string nm ∧ Below w7.heap.size w7 w') (by kernel_rfl) (by kernel_rfl) (by decide) rfl ?_ (fun z hz => ?_)
              · obtain ⟨e, w', fr, ⟨vo, rfl, h⟩, _⟩ := hslot w7.drew rfl []
                exact ⟨vo, w', h⟩
              simp only [List.take_succ_cons, List.take_zero, List.drop_succ_cons, List.drop_zero]
              obtain rfl : z = .string nm := by
                obtain ⟨_, h, _⟩ := hz
                exact h
              clear hz
              iterate 1
                refine Tail.any_ex (by decide) (by rfl) ?_
                apply Exists.intro
                refine ⟨fun w => ?_, ?_⟩
                · go_simp <;> with_reducible rfl
                simp only [Act.put, List.setIfInBounds_toArray, List.set_cons_zero, List.set_cons_succ]
              refine Tail.any_load (by decide) (by rfl) _ _ rfl p3 0 rfl cr2 (fun w h => by rw [h]; exact hrr w7.drew (Below.refl _ _).drew) (fun w h => hrr w h.2) Tryz.underlying47 rfl (by rw [i52, hcl]) ?_
              simp only [Act.put, List.setIfInBounds_toArray, List.set_cons_zero, List.set_cons_succ]
              iterate 1
                refine Tail.any_ex (by decide) (by rfl) ?_
                apply Exists.intro
                refine ⟨fun w => ?_, ?_⟩
                · go_simp <;> with_reducible rfl
                simp only [Act.put, List.setIfInBounds_toArray, List.set_cons_zero, List.set_cons_succ]
              refine Tail.any_load (by decide) (by rfl) _ _ rfl p3 1 rfl ki (fun w h => by rw [h]; exact hri w7.drew (Below.refl _ _).drew) (fun w h => hri w h.2) Tryz.underlying44 rfl (by rw [i16, hki]) ?_
              simp only [Act.put, List.setIfInBounds_toArray, List.set_cons_zero, List.set_cons_succ]
              refine Tail.any_call (by rfl) (fun w hw => ?_) ?_
              · apply Exists.intro
                apply Exists.intro
                refine ⟨?_, hslot w hw⟩
                go_simp <;> with_reducible rfl
              simp only [Act.put, List.setIfInBounds_toArray, List.set_cons_zero, List.set_cons_succ]
              iterate 2
                refine Tail.any_ex (by decide) (by rfl) ?_
                apply Exists.intro
                refine ⟨fun w => ?_, ?_⟩
                · go_simp <;> with_reducible rfl
                simp only [Act.put, List.setIfInBounds_toArray, List.set_cons_zero, List.set_cons_succ]
              refine Tail.any_step (by decide) (.bool is) (by rfl) (fun w h => ?_) (fun w h => ?_) ?_
              · subst h
                have hc := h50 w7 (Below.refl _ _)
                go_simp <;> with_reducible rfl
              · have hc := h50 w h.2
                go_simp <;> with_reducible rfl
              simp only [Act.put, List.setIfInBounds_toArray, List.set_cons_zero, List.set_cons_succ]
              intro w8 hw8
              have hb78 := hw8.2
              have hw08 := H7.out.2.1.trans (hb78.mono H7.out.2.1.size)
              have hnmz : (slotN r.ix).size ≤ 1000000 := by
                have : (slotN r.ix).size = 17 := by
                  show (99 :: r.ix).toArray.size = 17
                  simp [H.out.2.2.1.ix]
                omega
              have hask := asks_calls C _ pb s r H.out.2.2.1 (slotN r.ix) (.slice a7 n7 c7) (contB (enOf r o) l6) is w8 (H7.out.2.2.2.2.1.below hb78) H.out.2.1 (HN7.out ▸ (H7.out.1.below hb78).bys) hnmz
              rw [← H7.out.2.2.2.2.2.2.1, ← HNM.out] at hask
              have H8 := Lib.hid (And.intro hb78 (And.intro hw08 (And.intro hnmz hask)))
              clear hw8 hb78 hw08  hask hrr hri h50 hslot
              go_wp2_with fail
              refine H8.out.2.2.2.mono ?_
              rintro e w9 ⟨err, rfl, hask, hb9⟩
              have hb79 := H8.out.1.trans (hb9.mono H8.out.1.size)
              have H9 := Lib.hid (And.intro hask (And.intro hb79 (H7.out.2.1.trans (hb79.mono H7.out.2.1.size))))
              clear hask hb9 hb79
              by_cases he : err = 0
              rotate_left
              · have t0 : (err != 0) = true := by simpa using he
                have t0' : (err == 0) = false := by simpa using he
                have HF : Hid (SwapR s r l ts o err s) := SwapR.no HOK.out HEN.out HALL.out l6 H6.out.1 H6.out.2.1 err (by have := H9.out.1; rw [HNM.out, HC.out.2.1] at this; exact this) he
                replace he := Lib.hid he
                go_wp2_with fail
                refine (fails_calls err w9).mono ?_
                rintro e wf ⟨rfl, hbf⟩
                have k4f := (H7.out.2.2.2.2.2.1.kept H9.out.2.1).kept hbf
                have f40 := k4f.free 0
                have f41 := k4f.free 1
                have c40 : wf.cell? ⟨p4, 0, none⟩ = some (.int .i64 0) := k4f.cell 0
                have c41 : wf.cell? ⟨p4, 1, none⟩ = some (.slice none 0 0) := k4f.cell 1
                have l4f := k4f.lt
                have HBF := Lib.hid hbf
                clear hbf k4f
                go_wp2_with fail
                have hE := reply_end (x := .int .i64 err) (y := .slice none 0 0) ((H7.out.2.2.2.2.1.below H9.out.2.1).below HBF.out) ((SChg.of_below H9.out.2.2).post HBF.out) (by rw [HW.out.2.2]; omega)
                exact bodyPost_ret (v := .agg #[.int .i64 err, .slice none 0 0]) (by simp [results, Tryz.results78, go_sem, c40, c41]) rfl ⟨C, err, s, rfl, HF.out, hE.1, hE.2⟩
              · subst he
                obtain ⟨sb, lb, d, L, tb, v, hA⟩ := H7.out.2.2.2.2.1.below H9.out.2.1
                have hhi : ∀ w', Below w9.heap.size w9 w' → w'.rangeAt p3 1 ki := fun w' hb => by
                  have hR9 := (H7.out.2.2.1.below H9.out.2.1).below hb
                  have := readK_range hR9.hix
                  rw [hR9.rix, ← HKI.out] at this
                  exact this
                have h30 : ∀ w', Below w9.heap.size w9 w' → w'.cell? ⟨pb, 3, none⟩ = some (.pointer (some ⟨sb, 0, none⟩)) := fun w' hb => (hA.below hb).blk.cell 3
                have hslot : ∀ w', w' = w9.drew → Calls Tryz.prog 130 #[.agg ki.toArray] w' fun e w'' => ∃ v', e = .returned v' ∧ (v' = .string nm ∧ Below w9.heap.size w9 w'') := fun w' e => by
                  subst e
                  rw [HKI.out, HNM.out]
                  refine (slot_calls r.ix H.out.2.2.1.ix w9.drew).mono ?_
                  rintro e w'' ⟨rfl, hb⟩
                  exact ⟨_, rfl, rfl, of_drew_base hb rfl⟩
                have HA := Lib.hid hA
                clear hA
                go_upto_region 16 with fail
                refine Tail.wp_region_any_tail 8 6 (fun w' => w' = w9.drew) (fun vo w' => vo = .string nm ∧ Below w9.heap.size w9 w') (by kernel_rfl) (by kernel_rfl) (by decide) rfl ?_ (fun z hz => ?_)
                · obtain ⟨e, w', fr, ⟨vo, rfl, h⟩, _⟩ := hslot w9.drew rfl []
                  exact ⟨vo, w', h⟩
                simp only [List.take_succ_cons, List.take_zero, List.drop_succ_cons, List.drop_zero]
                obtain rfl : z = .string nm := by
                  obtain ⟨_, h, _⟩ := hz
                  exact h
                clear hz
                iterate 3
                  refine Tail.any_ex (by decide) (by rfl) ?_
                  apply Exists.intro
                  refine ⟨fun w => ?_, ?_⟩
                  · go_simp <;> with_reducible rfl
                  simp only [Act.put, List.setIfInBounds_toArray, List.set_cons_zero, List.set_cons_succ]
                refine Tail.any_step (by decide) (.pointer (some ⟨sb, 0, none⟩)) (by rfl) (fun w h => ?_) (fun w h => ?_) ?_
                · subst h
                  have hc := h30 w9 (Below.refl _ _)
                  go_simp <;> with_reducible rfl
                · have hc := h30 w h.2
                  go_simp <;> with_reducible rfl
                simp only [Act.put, List.setIfInBounds_toArray, List.set_cons_zero, List.set_cons_succ]
                iterate 1
                  refine Tail.any_ex (by decide) (by rfl) ?_
                  apply Exists.intro
                  refine ⟨fun w => ?_, ?_⟩
                  · go_simp <;> with_reducible rfl
                  simp only [Act.put, List.setIfInBounds_toArray, List.set_cons_zero, List.set_cons_succ]
                refine Tail.any_load (by decide) (by rfl) _ _ rfl p3 1 rfl ki (fun w h => by rw [h]; exact hhi w9.drew (Below.refl _ _).drew) (fun w h => hhi w h.2) Tryz.underlying44 rfl (by rw [i16, hki]) ?_
                simp only [Act.put, List.setIfInBounds_toArray, List.set_cons_zero, List.set_cons_succ]
                refine Tail.any_call (by rfl) (fun w hw => ?_) ?_
                · apply Exists.intro
                  apply Exists.intro
                  refine ⟨?_, hslot w hw⟩
                  go_simp <;> with_reducible rfl
                simp only [Act.put, List.setIfInBounds_toArray, List.set_cons_zero, List.set_cons_succ]
                iterate 1
                  refine Tail.any_ex (by decide) (by rfl) ?_
                  apply Exists.intro
                  refine ⟨fun w => ?_, ?_⟩
                  · go_simp <;> with_reducible rfl
                  simp only [Act.put, List.setIfInBounds_toArray, List.set_cons_zero, List.set_cons_succ]
                intro w10 hw10
                have hb90 := hw10.2
                have hb70 := H9.out.2.1.trans (hb90.mono H9.out.2.1.size)
                have hAt := HA.out.below hb90
                have hby := (H7.out.1.below hb70)
                have hgl : ∀ b, C b → b < w.heap.size := fun b hb => H.out.1.lt (.inl hb)
                have hwz : w.heap.size ≤ w6.heap.size := Nat.le_trans H5.out.2.2.1.size H6.out.2.2.1.size
                have hput := sput_calls _ sb lb d L s.st (slotN r.ix) (.slice a7 n7 c7) (contB (enOf r o) l6) w10 hAt.st (HN7.out ▸ hby.bys) H8.out.2.2.1 (by have := H6.out.2.2.2.2; have : l6.length * 16420 ≤ 32 * 16420 := Nat.mul_le_mul_right _ hl6; omega) (fun w' hc => HN7.out ▸ (hby.chg (S := Foot sb lb d L) hc (fun g hg hf => by
                  have h1 := hgl g (HA.out.foot g hf)
                  have h2 := (hby.lt g hg).1
                  omega)).bys) (by have := hwr; omega)
                obtain ⟨z1, hz1⟩ : ∃ z, z = (putR s.st nm (contB (enOf r o) l6)).1 := ⟨_, rfl⟩
                obtain ⟨st1, hst1⟩ : ∃ z, z = (putR s.st nm (contB (enOf r o) l6)).2 := ⟨_, rfl⟩
                have HZ := Lib.hid (And.intro hz1 hst1)
                rw [← HNM.out] at hput
                have H10 := Lib.hid (And.intro hb90 (And.intro hAt (And.intro hput (H7.out.2.1.trans (hb70.mono H7.out.2.1.size)))))
                clear hw10 hb90 hb70 hAt hby hput hz1 hst1 hslot hhi h30
                go_wp2_with fail
                refine H10.out.2.2.1.mono ?_
                rintro e w11 ⟨rfl, hst5, hc5⟩
                have hA5 := H10.out.2.1.store hc5 hst5
                have hp4C : ¬ C p4 := fun hC => by have := hgl p4 hC; have := HW.out.2.2; omega
                have hp3C : ¬ C p3 := fun hC => by have := hgl p3 hC; have := HW.out.2.1; omega
                rw [← HZ.out.2] at hA5
                rw [← HZ.out.1]
                have hcw : Chg C w w11 := (Chg.of_below H10.out.2.2.2).trans (hc5.mono HA.out.foot)
                have hb710 := H9.out.2.1.trans (H10.out.1.mono H9.out.2.1.size)
                have hk411 := hc5.blk (H7.out.2.2.2.2.2.1.kept hb710) (fun hf => hp4C (HA.out.foot _ hf))
                have hR11 := (H7.out.2.2.1.below hb710).chg hc5 (fun hf => hp3C (HA.out.foot _ hf))
                have H11 := Lib.hid (And.intro (show IsSrv w11 C (fun b => X b ∨ b = p4) pb { s with st := st1 } from ⟨sb, lb, d, L, tb, v, hA5⟩) (And.intro hk411 (And.intro hR11 (And.intro hp4C (show SChg C C w w11 from ⟨hcw, fun b hb => .inl hb⟩)))))
                clear hst5 hc5 hA5 hp4C hp3C hcw hb710 hk411 hR11
                by_cases hz0 : z1 = 0
                rotate_left
                · have t0 : (z1 != 0) = true := by simpa using hz0
                  have t0' : (z1 == 0) = false := by simpa using hz0
                  have HF : Hid (SwapR s r l ts o z1 { s with st := st1 }) := by
                    show SwapR s r l ts o z1 { s with st := st1 }
                    rw [HZ.out.1, HZ.out.2, HNM.out]
                    exact SwapR.torn HOK.out HEN.out HALL.out l6 H6.out.1 H6.out.2.1 (by have := H9.out.1; rw [HNM.out, HC.out.2.1] at this; exact this) (by rw [← HNM.out, ← HZ.out.1]; exact hz0)
                  replace hz0 := Lib.hid hz0
                  go_wp2_with fail
                  refine (fails_calls z1 w11).mono ?_
                  rintro e wf ⟨rfl, hbf⟩
                  have k4f := H11.out.2.1.kept hbf
                  have f40 := k4f.free 0
                  have f41 := k4f.free 1
                  have c40 : wf.cell? ⟨p4, 0, none⟩ = some (.int .i64 0) := k4f.cell 0
                  have c41 : wf.cell? ⟨p4, 1, none⟩ = some (.slice none 0 0) := k4f.cell 1
                  have l4f := k4f.lt
                  have HBF := Lib.hid hbf
                  clear hbf k4f
                  go_wp2_with fail
                  have hE := reply_end (x := .int .i64 z1) (y := .slice none 0 0) ((H11.out.1).below HBF.out) ((H11.out.2.2.2.2).post HBF.out) (by rw [HW.out.2.2]; omega)
                  exact bodyPost_ret (v := .agg #[.int .i64 z1, .slice none 0 0]) (by simp [results, Tryz.results78, go_sem, c40, c41]) rfl ⟨C, z1, { s with st := st1 }, rfl, HF.out, hE.1, hE.2⟩
                · have HZ0 := Lib.hid hz0
                  subst hz0
                  have r52 := H11.out.2.2.1.rall
                  have g52 := H11.out.2.2.1.hall
                  rw [← H7.out.2.2.2.2.2.2.1] at r52
                  go_wp2_with fail
                  refine (show Calls _ _ _ _ _ from (by rw [H7.out.2.2.2.2.2.2.1]; exact srvadd_calls C _ pb { s with st := st1 } r H.out.2.2.1 w11 H11.out.1 ⟨H.out.2.1.tab, by rw [HZ.out.2]; have h1 := put_writes s.st nm (contB (enOf r o) l6); have h2 := hwr; have h3 := HA.out.st.ok.room2; simp only; omega⟩)).mono ?_
                  rintro e w12 ⟨C', err2, s', rfl, hadd, hs', hsc⟩
                  have hk46 := hsc.1.blk H11.out.2.1 H11.out.2.2.2.1
                  have HF : Hid (SwapR s r l ts o err2 s') := by
                    refine SwapR.put HOK.out HEN.out HALL.out l6 H6.out.1 H6.out.2.1 err2 s' (by have := H9.out.1; rw [HNM.out, HC.out.2.1] at this; exact this) (by rw [← HNM.out]; exact HZ.out.1.symm) ?_
                    rw [← HNM.out, ← HZ.out.2]
                    exact hadd
                  have H12 := Lib.hid (And.intro hs' (And.intro (H11.out.2.2.2.2.trans hsc) hk46))
                  clear hadd hs' hsc hk46 r52 g52
                  go_wp2_with fail
                  refine (fails_calls err2 w12).mono ?_
                  rintro e wf ⟨rfl, hbf⟩
                  have k4f := H12.out.2.2.kept hbf
                  have f40 := k4f.free 0
                  have f41 := k4f.free 1
                  have c40 : wf.cell? ⟨p4, 0, none⟩ = some (.int .i64 0) := k4f.cell 0
                  have c41 : wf.cell? ⟨p4, 1, none⟩ = some (.slice none 0 0) := k4f.cell 1
                  have l4f := k4f.lt
                  have HBF := Lib.hid hbf
                  clear hbf k4f
                  go_wp2_with fail
                  have hE := reply_end (x := .int .i64 err2) (y := .slice none 0 0) ((H12.out.1).below HBF.out) ((H12.out.2.1).post HBF.out) (by rw [HW.out.2.2]; omega)
                  exact bodyPost_ret (v := .agg #[.int .i64 err2, .slice none 0 0]) (by simp [results, Tryz.results78, go_sem, c40, c41]) rfl ⟨C', err2, s', rfl, HF.out, hE.1, hE.2⟩
end Go.Proofs.YtclhgokchcklbaaGreatDoor
end
section
namespace Go.Mem
open Go Go.RowKit Gf Lea Go.Proofs.YtclhgokchcklbaaGreatDoor
end Go.Mem
namespace Go.Proofs.YtclhgokchcklbaaGreatDoor
open Go Go.RowKit Go.Mem Gf Lea
set_option linter.unusedVariables false
section
variable {w0 w : World} {C : Nat → Prop} {pb : Nat} {s : SrvS}
end
end Go.Proofs.YtclhgokchcklbaaGreatDoor
end
section
namespace Go.Mem
open Go Go.RowKit Gf Lea Go.Proofs.YtclhgokchcklbaaGreatDoor
theorem findB_not {l : List Blob} {num : Int} (h : findB l num = none) : num ∉ l.map (·.1) := by
  intro hm
  obtain ⟨x, hx, e⟩ := List.mem_map.1 hm
  unfold findB at h
  rw [Option.map_eq_none_iff, List.find?_eq_none] at h
  exact h x hx (by simpa using e)
theorem withA_nodup : ∀ (r out : List Blob), (out.map (·.1)).Nodup → ((withA out r).map (·.1)).Nodup
  | [], _, h => h
  | b :: r, out, h => by
    rw [withA]
    split
    · rename_i hn
      refine withA_nodup r _ ?_
      rw [List.map_append, List.nodup_append]
      refine ⟨h, by simp, fun a ha c hc e => ?_⟩
      simp at hc
      subst hc
      subst e
      exact findB_not hn ha
    · exact withA_nodup r _ h
theorem swap_ok {l lo l' : List Blob} (hl : NumsOk l) (hz : ∀ x ∈ l, x.2.length ≤ 16384) (ho : BlOk lo) (hp : l'.Perm (withA l lo)) (hs : l'.Pairwise fun a b : Blob => a.1 ≤ b.1) : BlOk l' ∧ l'.length ≤ 16 ∧ (l'.map (·.1)).Pairwise (· < ·) := by
  have hb : BlOk l' := by
    refine ⟨fun x hx => ?_, fun x hx => ?_⟩
    · rcases withA_mem (hp.mem_iff.1 hx) with h | h
      · exact hl.1 x h
      · exact ho.num x h
    · rcases withA_mem (hp.mem_iff.1 hx) with h | h
      · exact hz x h
      · exact ho.len x h
  have hn : (l'.map (·.1)).Nodup := (hp.map _).nodup_iff.2 (withA_nodup lo l hl.2)
  refine ⟨hb, ?_, ?_⟩
  · have := nodup_le 16 (l'.map (·.1)) hn (fun x hx => by
      obtain ⟨y, hy, rfl⟩ := List.mem_map.1 hx
      exact hb.num y hy)
    rwa [List.length_map] at this
  · rw [List.pairwise_map]
    rw [List.Nodup, List.pairwise_map] at hn
    exact (hs.and hn).imp fun {a b} h => by have h1 := h.1; have h2 := h.2; omega
theorem withA_sub : ∀ (r out : List Blob) {x : Blob}, x ∈ out → x ∈ withA out r
  | [], _, _, h => h
  | b :: r, out, x, h => by
    rw [withA]
    split
    · exact withA_sub r _ (List.mem_append_left _ h)
    · exact withA_sub r _ h
theorem swap_ne {l lo l' : List Blob} (h : l ≠ []) (hp : l'.Perm (withA l lo)) : l' ≠ [] := fun e => by
  obtain ⟨x, hx⟩ := List.exists_mem_of_ne_nil l h
  have := hp.mem_iff.2 (withA_sub lo l hx)
  rw [e] at this
  cases this
end Go.Mem
end
section
namespace Go.Mem
open Go Go.RowKit Gf Lea Go.Proofs.YtclhgokchcklbaaGreatDoor
set_option linter.unusedVariables false
theorem SrvG.swap_gen {m : Nat} {s : SrvS} (h : SrvG m s) (hm : m + 1 < 1000000) {r : Req} (hr : r.Wf) {l : List Blob} {ts : List Tst} {o : Option (Key × List Blob)} (ho : ContIs s r.ix o) (hne : l ≠ []) (hnum : NumsOk l) (hz : ∀ x ∈ l, x.2.length ≤ 16384) (hme : May r.ends)
    (hk : o.isSome = true → contK o = r.en) (ht : ∀ t ∈ ts, holdsB (contL o) t = true) {L : List Blob} (hL : ∀ l' : List Blob, l'.Perm (withA l (contL o)) → (l'.Pairwise fun a b : Blob => a.1 ≤ b.1) → l' = L) (hfit : fitsB s.st.room (slotN r.ix) (contB r.en L) = true)
    (hroom : 8 ≤ s.room) (hlive : liveN s.st.recs + 2 ≤ s.st.recs.length) {E : Int} (hE : ∀ b l2, AddR s.tab r.ix r.sec r.ends b l2 → b = true ∧ l2.Perm [⟨r.ix, r.sec, E⟩]) {err : Int} {s' : SrvS} (hp : SwapR s r l ts o err s') :
    (err = 0 ∧ SrvG (m + 2) s' ∧ s'.tab.Perm [⟨r.ix, r.sec, E⟩] ∧ (∀ nm, Sto.look s'.st.recs nm = upd (upd (Sto.look s.st.recs) (slotN r.ix) (some (contB r.en L))) (leaseN r.ix) (some (packL [(r.sec, E)])) nm) ∧ s'.st.disk.stops = s.st.disk.stops ∧ s'.slots = s.slots ∧ s'.room = s.room ∧ liveN s'.st.recs ≤ liveN s.st.recs + 2) ∨
    (err = 8 ∧ s.st.disk.stops = true ∧ s'.slots = s.slots ∧ s'.room = s.room ∧ ∃ f : Look, SrvT (m + 2) s' f ∧ ((∀ nm, f nm = Sto.look s.st.recs nm) ∨ (∀ nm, f nm = upd (Sto.look s.st.recs) (slotN r.ix) (some (contB r.en L)) nm) ∨ ∀ nm, f nm = upd (upd (Sto.look s.st.recs) (slotN r.ix) (some (contB r.en L))) (leaseN r.ix) (some (packL [(r.sec, E)])) nm)) := by
  have hlf := lease_fits (room := s.st.room) (by rw [← h.room]; exact hroom) hr.ix hr.sec E
  have hfl := freeN_live h
  have hslot : Sto.slot s.st.recs < s.st.recs.length := slot_of_live (by omega)
  have hnl : ∀ ix, slotN r.ix ≠ leaseN ix := fun ix => slot_lease
  have hen : enOf r o = r.en := by
    unfold enOf
    split
    · rename_i h1; exact hk h1
    · rfl
  have hask : ∀ err', AskR s r.ix r.sec r.ends (slotN r.ix) (contB r.en L) o.isSome err' → err' = 0 := fun err' ha => by
    obtain ⟨b, l2, out, ha1, ha2, rfl⟩ := ha
    obtain ⟨rfl, hp2⟩ := hE _ _ ha1
    have ho := OfR.one hp2 (ha2 rfl)
    subst ho
    rw [if_neg (by split <;> simp <;> omega), if_neg (by simp [hfit, hlf])]
  have hlo := contL_ok ho
  cases hp with
  | form h' => exact absurd ⟨hne, hnum, hme⟩ h'
  | enable _ h1 h2 => exact absurd (hk h1) h2
  | test _ _ ht' =>
    obtain ⟨t, h1, h2⟩ := ht'
    rw [ht t h1] at h2; cases h2
  | no _ _ _ l' hp' hs' _ ha h0 =>
    rw [hL l' hp' hs', hen] at ha
    exact absurd (hask _ ha) h0
  | torn _ _ _ l' hp' hs' ha h0 =>
    obtain ⟨a1, a2, a3⟩ := swap_ok hnum hz hlo.1 hp' hs'
    have a4 := swap_ne hne hp'
    have e := hL l' hp' hs'
    subst e
    rw [hen] at h0 ⊢
    have hok : RecOk (slotN r.ix) (contB r.en l') := RecOk.slot r.ix r.en l' hr.ix hr.en a1 a2 a3 a4
    rcases h.put (by omega) hok hnl with ⟨h1, _⟩ | ⟨h1, _⟩ | ⟨h1, h2, l, h3, h4⟩
    · exact absurd h1 h0
    · exfalso
      have hput := h.st.put (by omega) hok
      generalize putR s.st (slotN r.ix) (contB r.en l') = R at hput h1
      cases hput with
      | arg h' => rw [hfit] at h'; cases h'
      | full _ h' => omega
      | done _ _ _ _ _ _ _ => simp only at h1; omega
      | torn _ _ _ _ _ _ _ _ _ _ => simp only at h1; omega
    · refine .inr ⟨h1, h2, rfl, rfl, Sto.look l, .inr ⟨l, h3.le (by omega), fun _ => rfl⟩, ?_⟩
      rcases h4 with h4 | h4
      · exact .inl h4
      · exact .inr (.inl h4)
  | put _ _ _ l' hp' hs' _ _ ha h0 hs =>
    obtain ⟨a1, a2, a3⟩ := swap_ok hnum hz hlo.1 hp' hs'
    have a4 := swap_ne hne hp'
    have e := hL l' hp' hs'
    subst e
    rw [hen] at h0 hs
    have hok : RecOk (slotN r.ix) (contB r.en l') := RecOk.slot r.ix r.en l' hr.ix hr.en a1 a2 a3 a4
    rcases h.put (by omega) hok hnl with ⟨h1, h2, h3, h4⟩ | ⟨h1, _⟩ | ⟨h1, _⟩
    · have hrec : (putR s.st (slotN r.ix) (contB r.en l')).2.recs = putF s.st.recs (slotN r.ix) (contB r.en l') := by
        have hput := h.st.put (m := m) (by omega) hok
        generalize putR s.st (slotN r.ix) (contB r.en l') = R at hput h0
        cases hput with
        | arg h' => rw [hfit] at h'; cases h'
        | full _ h' => omega
        | done _ _ _ hr' _ _ _ => exact hr'
        | torn _ _ _ _ _ _ _ _ _ _ => simp only at h0; omega
      have hlv := live_le hslot (slotN r.ix) (contB r.en l')
      have hln := putF_len s.st.recs (slotN r.ix) (contB r.en l')
      have hlv2 : liveN (putR s.st (slotN r.ix) (contB r.en l')).2.recs + 1 ≤ (putR s.st (slotN r.ix) (contB r.en l')).2.recs.length := by rw [hrec, hln]; omega
      have hslots : s'.slots = s.slots ∧ s'.room = s.room ∧ (err = 0 → liveN s'.st.recs ≤ liveN (putR s.st (slotN r.ix) (contB r.en l')).2.recs + 1) := by
        cases hs with
        | full _ => exact ⟨rfl, rfl, fun _ => Nat.le_succ _⟩
        | laid l2 _ _ ha2 hy =>
          obtain ⟨out, hR, herr, hs'⟩ := hy
          have h0' : out.length ≠ 0 := fun e => ha2.ne (hR.nil_iff.1 (List.eq_nil_of_length_eq_zero e))
          have e0 : layR { s with st := (putR s.st (slotN r.ix) (contB r.en l')).2 } r.ix out = putR (putR s.st (slotN r.ix) (contB r.en l')).2 (leaseN r.ix) (packL out) := by unfold layR; rw [if_neg h0']
          rw [e0] at hs' herr
          have hlr : (putR (putR s.st (slotN r.ix) (contB r.en l')).2 (leaseN r.ix) (packL out)).1 = 0 → liveN (putR (putR s.st (slotN r.ix) (contB r.en l')).2 (leaseN r.ix) (packL out)).2.recs ≤ liveN (putR s.st (slotN r.ix) (contB r.en l')).2.recs + 1 := by
            have hput := h2.st.put (m := m + 1) hm (RecOk.lease r.ix out hr.ix (ofR_leOk (ha2.wf h2.wf hr.ix hr.sec) (ha2.good h2.good) hR (fun e => h0' (by rw [e]; rfl))))
            generalize hq : (putR s.st (slotN r.ix) (contB r.en l')).2 = st1 at *
            generalize putR st1 (leaseN r.ix) (packL out) = R at hput
            cases hput with
            | arg h' => exact fun _ => Nat.le_succ _
            | full _ h' => exact fun _ => Nat.le_succ _
            | done _ _ hsl hr' _ _ _ => intro _; show liveN _ ≤ _; rw [hr']; exact live_le hsl _ _
            | torn _ _ _ _ _ _ _ _ _ _ => intro h; simp only at h; omega
          split at hs'
          · rw [hs', herr]; exact ⟨rfl, rfl, hlr⟩
          · rw [hs', herr]; exact ⟨rfl, rfl, hlr⟩
      rcases h2.add_one hm hr.ix hr.sec hroom hlv2 hE hs with ⟨a1, a2, a3, a4, a5⟩ | ⟨a1, a2, l, a3, a4⟩
      · have hnm : ∀ nm, Sto.look s'.st.recs nm = upd (upd (Sto.look s.st.recs) (slotN r.ix) (some (contB r.en l'))) (leaseN r.ix) (some (packL [(r.sec, E)])) nm := fun nm => by
          rw [a4]
          unfold upd
          split
          · rfl
          · exact h3 nm
        exact .inl ⟨a1, a2, a3, hnm, a5.trans h4, hslots.1, hslots.2.1, by have := hslots.2.2 a1; rw [hrec] at this; omega⟩
      · refine .inr ⟨a1, by rw [← h4]; exact a2, hslots.1, hslots.2.1, Sto.look l, .inr ⟨l, a3, fun _ => rfl⟩, ?_⟩
        rcases a4 with a4 | a4
        · exact .inr (.inl fun nm => by rw [a4]; exact h3 nm)
        · refine .inr (.inr fun nm => ?_)
          rw [a4]
          unfold upd
          split
          · rfl
          · exact h3 nm
    · omega
    · omega
def en4 : Key := 4 :: List.replicate 15 0
def en5 : Key := 5 :: List.replicate 15 0
theorem en4_len : en4.length = 16 := rfl
theorem en5_len : en5.length = 16 := rfl
def two (a y : List UInt8) : List Blob := [((0 : Int), a), (2, y)]
theorem two_ok {a y : List UInt8} (ha : a.length ≤ 100) (hy : y.length ≤ 2) : NumsOk (two a y) ∧ (∀ x ∈ two a y, x.2.length ≤ 16384) ∧ two a y ≠ [] ∧ (two a y).Pairwise (fun p q : Blob => p.1 ≤ q.1) := by
  refine ⟨⟨fun x hx => ?_, by simp [two]⟩, fun x hx => ?_, by simp [two], by simp [two]⟩
  · simp only [two, List.mem_cons, List.not_mem_nil, or_false] at hx
    rcases hx with rfl | rfl <;> simp
  · simp only [two, List.mem_cons, List.not_mem_nil, or_false] at hx
    rcases hx with rfl | rfl
    · show a.length ≤ 16384; omega
    · show y.length ≤ 16384; omega
theorem two_eq {a y : List UInt8} {l' : List Blob} (hp : l'.Perm (two a y)) (hs : l'.Pairwise fun p q : Blob => p.1 ≤ q.1) : l' = two a y := by
  refine List.Perm.eq_of_pairwise (fun p q hp1 hq h1 h2 => ?_) hs (by simp [two]) hp
  have hp2 := hp.mem_iff.1 hp1
  simp only [two, List.mem_cons, List.not_mem_nil, or_false] at hp2 hq
  rcases hp2 with rfl | rfl <;> rcases hq with rfl | rfl
  · rfl
  · exact absurd (show (2 : Int) ≤ 0 from h2) (by decide)
  · exact absurd (show (2 : Int) ≤ 0 from h1) (by decide)
  · rfl
theorem two_fits {a y : List UInt8} (ha : a.length ≤ 100) (hy : y.length ≤ 2) {room : Nat} (hr : 12 ≤ room) {ix k : Key} (hix : ix.length = 16) (hk : k.length = 16) : fitsB room (slotN ix) (contB k (two a y)) = true := by
  have h1 := net_le k (by rw [hk]; decide)
  have h2 := net_le (Cod.be 1 (0 : Int).toNat) (by rw [Cod.be_len]; omega)
  have h3 := net_le a (by omega)
  have h4 := net_le (Cod.be 1 (2 : Int).toNat) (by rw [Cod.be_len]; omega)
  have h5 := net_le y (by omega)
  rw [hk] at h1
  rw [Cod.be_len] at h2 h4
  have e : contB k (two a y) = Cod.net k ++ (Cod.net (Cod.be 1 (0 : Int).toNat) ++ (Cod.net a ++ (Cod.net (Cod.be 1 (2 : Int).toNat) ++ (Cod.net y ++ [])))) := by
    unfold contB two
    rw [blB_cons, blB_cons]; rfl
  have hl : (contB k (two a y)).length ≤ 200 := by
    rw [e]
    simp only [List.length_append, List.length_nil]
    omega
  exact fits_of (by rw [slot_size _ hix]; omega) (by omega) (by rw [slot_size _ hix]; omega)
end Go.Mem
end
section
namespace Go.Mem
open Go Go.ChangeShapes Go.WideShapes Go.ChangeAt Go.RowKit Gf Lea
end Go.Mem
namespace Go.Proofs.YtclhgokchcklbaaGreatDoor
open Go Go.RowKit Go.Mem Gf
end Go.Proofs.YtclhgokchcklbaaGreatDoor
end
section
namespace Go.Mem
open Go Go.RowKit Gf Lea
section
variable {P : Program} {w : World} {ops : Array Oper} {rest : List Oper} {o : Oper} {a : Act} {Q : Exit → Act → World → Prop}
end
end Go.Mem
namespace Go.Proofs.YtclhgokchcklbaaGreatDoor
open Go Go.RowKit Go.Mem Gf Lea
set_option linter.unusedVariables false
end Go.Proofs.YtclhgokchcklbaaGreatDoor
end
section
namespace Go.Mem
open Go Go.RowKit Gf Lea Go.Proofs.YtclhgokchcklbaaGreatDoor
set_option linter.unusedVariables false
def tstPl : List (Nat × Nat) := [(0, 1), (1, 1), (2, 32)]
def z32 : List UInt8 := List.replicate 32 0
theorem ownG_new {α : Type} {enc : α → List Value} {Wf : α → Prop} {k : Nat} {ti : TypeId} {w : World} {base g : Nat} {x : α} (hb : Blk w g (enc x).toArray ti) (hk : (enc x).length = k) (hx : Wf x) (hg : base ≤ g) : OwnG enc Wf k ti w base (.slice (some ⟨g, 0, none⟩) 1 1) [x] := by
  refine ⟨⟨by simp [allV, hk], .inr ⟨g, 1, (enc x).toArray, rfl, hg, hb, by simp, by decide, by simp [hk], ?_⟩⟩, fun y hy => by rw [List.mem_singleton.1 hy]; exact hx⟩
  have : allV enc [x] = enc x := allV_one x
  rw [this]
  exact List.take_of_length_le (by simp [hk])
theorem tsAt_one {w : World} {N : Nat → Prop} {g : Nat} {t : Tst} {ty : TypeId} (hb : Blk w g (tstV t).toArray ty) (hN : ¬ N g) (ht : t.want.length = 32) : TsAt w N (.slice (some ⟨g, 0, none⟩) 1 1) [t] := by
  refine ⟨_, 1, rfl, by simp, fun x hx => by rw [List.mem_singleton.1 hx]; exact ht, fun _ => ⟨g, 0, rfl, hb.lt, hN, fun i x hx j v hj => ?_⟩⟩
  match i with
  | 0 =>
    simp at hx
    subst hx
    rw [hb.cell, List.getElem?_toArray]
    simpa using hj
  | i + 1 => simp at hx
theorem tsAt_two {w : World} {N : Nat → Prop} {g : Nat} {t u : Tst} {ty : TypeId} (hb : Blk w g (tstV t ++ tstV u).toArray ty) (hN : ¬ N g) (ht : t.want.length = 32) (hu : u.want.length = 32) : TsAt w N (.slice (some ⟨g, 0, none⟩) 2 2) [t, u] := by
  have hl := tstV_len ht
  refine ⟨_, 2, rfl, by simp, fun x hx => ?_, fun _ => ⟨g, 0, rfl, hb.lt, hN, fun i x hx j v hj => ?_⟩⟩
  · simp only [List.mem_cons, List.not_mem_nil, or_false] at hx
    rcases hx with rfl | rfl <;> assumption
  · match i with
    | 0 =>
      simp at hx
      subst hx
      have hj' := (List.getElem?_eq_some_iff.1 hj).1
      rw [hb.cell, List.getElem?_toArray, show 0 + 0 * 34 + j = j from by omega, List.getElem?_append_left hj']
      exact hj
    | 1 =>
      simp at hx
      subst hx
      rw [hb.cell, List.getElem?_toArray, show 0 + 1 * 34 + j = 34 + j from by omega, List.getElem?_append_right (by omega), hl, Nat.add_sub_cancel_left]
      exact hj
    | i + 2 => simp at hx
end Go.Mem
namespace Go.Proofs.YtclhgokchcklbaaGreatDoor
open Go Go.RowKit Go.Mem Gf Lea
theorem built_ta (n : Int) : Tryz.prog.built 55 [(0, .int .i64 n), (1, .bool true)] = some (tstV ⟨n, true, z32⟩).toArray := by kernel_rfl
theorem built_tw (n : Int) (cs : List Value) (h : cs.length = 32) : Tryz.prog.built 55 [(0, .int .i64 n), (2, .agg cs.toArray)] = some (.int .i64 n :: .bool false :: cs).toArray := by
  have h0 : ∀ l, Tryz.prog.built 55 l = Instr.fill (tstPl.toArray[·]?) (tstV ⟨0, false, z32⟩).toArray l := fun l => by
    unfold Program.built
    kernel_rfl
  have e1 : (tstPl.toArray[0]? : Option (Nat × Nat)) = some (0, 1) := rfl
  have e2 : (tstPl.toArray[2]? : Option (Nat × Nat)) = some (2, 32) := rfl
  have e3 : (Value.int .i64 n).cells = #[.int .i64 n] := rfl
  have e4 : (Value.agg cs.toArray).cells = cs.toArray := rfl
  rw [h0, Instr.fill]
  simp only [e1, e3]
  rw [if_neg (by simp [tstV]), fold_cells _ _ _ (by simp [tstV]), Instr.fill]
  simp only [e2, e4]
  have hz : (tstV ⟨0, false, z32⟩).length = 34 := rfl
  rw [if_neg (by simp [h, hz]), fold_cells _ _ _ (by simp [h, hz])]
  rw [Instr.fill]
  congr 2
  simp [h, tstV, z32, bV]
theorem build_ta (dst : Option Tmp) (n : Int) (ty : TypeId) (pos : String) (af : Array Edge) (gd : Option (Tmp × Bool)) (a : Act) (w : World) (K : Act → World → Prop) (Q : Exit → Act → World → Prop) :
    Oper.wp Tryz.prog ⟨dst, .build 55 #[(0, .const (.int .i64 n)), (1, .const (.bool true))], ty, pos, af, gd⟩ a w K Q = K (a.put dst (.agg (tstV ⟨n, true, z32⟩).toArray)) w := by
  unfold Oper.wp execOp
  have hr := run_build (P := Tryz.prog) w 55 #[(0, .int .i64 n), (1, .bool true)] (tstV ⟨n, true, z32⟩).toArray (built_ta n)
  have e : a.eval (.const (.int .i64 n)) = .int .i64 n := rfl
  have e' : a.eval (.const (.bool true)) = .bool true := rfl
  simp only [List.map_toArray, List.map_cons, List.map_nil, e, e', Sem.run_bind, hr, Result.andThen_ok]
  rfl
theorem build_tw (dst : Option Tmp) (n : Int) (x : Operand) (ty : TypeId) (pos : String) (af : Array Edge) (gd : Option (Tmp × Bool)) (a : Act) (w : World) (K : Act → World → Prop) (Q : Exit → Act → World → Prop) (h1 : aggIs (a.eval x) = true) (h2 : (aggL (a.eval x)).length = 32) :
    Oper.wp Tryz.prog ⟨dst, .build 55 #[(0, .const (.int .i64 n)), (2, x)], ty, pos, af, gd⟩ a w K Q = K (a.put dst (.agg (.int .i64 n :: .bool false :: aggL (a.eval x)).toArray)) w := by
  obtain ⟨cs, hc⟩ : ∃ cs : List Value, a.eval x = .agg cs.toArray := by
    revert h1
    cases a.eval x <;> intro h1 <;> first | cases h1 | skip
    rename_i arr
    exact ⟨arr.toList, by simp⟩
  have hl : aggL (a.eval x) = cs := by rw [hc]; simp [aggL]
  rw [hl] at h2 ⊢
  unfold Oper.wp execOp
  have hr := run_build (P := Tryz.prog) w 55 #[(0, .int .i64 n), (2, .agg cs.toArray)] (.int .i64 n :: .bool false :: cs).toArray (built_tw n cs h2)
  have e : a.eval (.const (.int .i64 n)) = .int .i64 n := rfl
  simp only [List.map_toArray, List.map_cons, List.map_nil, e, hc, Sem.run_bind, hr, Result.andThen_ok]
  rfl
end Go.Proofs.YtclhgokchcklbaaGreatDoor
end
section
namespace Go.Mem
open Go Go.RowKit Gf Lea Go.Proofs.YtclhgokchcklbaaGreatDoor
set_option linter.unusedVariables false
theorem lb_ok {B : List UInt8} (hB : B.length ≤ 100) {tw : Bool} {lb : List Blob} (hl : lb = if tw then two B [2, 2] else [((0 : Int), B)]) : NumsOk lb ∧ (∀ x ∈ lb, x.2.length ≤ 16384) ∧ lb ≠ [] := by
  subst hl
  cases tw with
  | true =>
    obtain ⟨o1, o2, o3, _⟩ := two_ok (y := [2, 2]) hB (by decide)
    exact ⟨o1, o2, o3⟩
  | false =>
    refine ⟨⟨fun x hx => ?_, by simp⟩, fun x hx => ?_, by simp⟩
    · simp at hx; subst hx; show (0 : Int) ≤ 0 ∧ (0 : Int) < 16; decide
    · simp at hx; subst hx; show B.length ≤ 16384; omega
theorem zc_len {tw : Bool} {zc : List UInt8} (hz : zc = if tw then [2, 2] else [1]) : zc.length ≤ 2 := by subst hz; cases tw <;> decide
theorem with_lb {A B : List UInt8} {tw : Bool} {zc : List UInt8} {lb : List Blob} (hz : zc = if tw then [2, 2] else [1]) (hl : lb = if tw then two B [2, 2] else [((0 : Int), B)]) : withA lb (two A [1]) = two B zc := by
  subst hz; subst hl; cases tw <;> rfl
theorem tests_hold (A y : List UInt8) : ∀ t ∈ [(⟨0, false, Sha.sum A⟩ : Tst), ⟨5, true, z32⟩], holdsB (two A y) t = true := fun t ht => by
  simp only [List.mem_cons, List.not_mem_nil, or_false] at ht
  rcases ht with rfl | rfl
  · show (!false && decide (Sha.sum A = Sha.sum A)) = true
    simp
  · rfl
theorem test_fails (a y : List UInt8) : holdsB (two a y) ⟨2, true, z32⟩ = false := rfl
theorem SwapR.other {s s' : SrvS} {r : Req} {l : List Blob} {ts : List Tst} {k : Key} {lo : List Blob} {err : Int} (hp : SwapR s r l ts (some (k, lo)) err s') (h : l ≠ [] ∧ NumsOk l ∧ May r.ends) (hk : k ≠ r.en) : err = 7 ∧ s' = s := by
  cases hp with
  | form h' => exact absurd h h'
  | enable => exact ⟨rfl, rfl⟩
  | test _ h' => exact absurd (h' rfl) hk
  | no _ h' => exact absurd (h' rfl) hk
  | torn _ h' => exact absurd (h' rfl) hk
  | put _ h' => exact absurd (h' rfl) hk
theorem SwapR.fails {s s' : SrvS} {r : Req} {l : List Blob} {ts : List Tst} {lo : List Blob} {err : Int} (hp : SwapR s r l ts (some (r.en, lo)) err s') (h : l ≠ [] ∧ NumsOk l ∧ May r.ends) {t : Tst} (ht : t ∈ ts) (hf : holdsB lo t = false) : err = 6 ∧ s' = s := by
  have no : (∀ t ∈ ts, holdsB (contL (some (r.en, lo))) t = true) → False := fun h' => by
    have := h' t ht
    rw [show contL (some (r.en, lo)) = lo from rfl, hf] at this
    cases this
  cases hp with
  | form h' => exact absurd h h'
  | enable _ _ h' => exact absurd rfl h'
  | test => exact ⟨rfl, rfl⟩
  | no _ _ h' => exact (no h').elim
  | torn _ _ h' => exact (no h').elim
  | put _ _ h' => exact (no h').elim
theorem SrvG.swapped {m : Nat} {s : SrvS} (h : SrvG m s) (hm : m + 1 < 1000000) {vt vb : Value} {l : List Blob} {ts : List Tst} {A B zc : List UInt8} (hA : A.length ≤ 100) (hB : B.length ≤ 100) (hz : zc.length ≤ 2) (hlk : ∀ nm, Sto.look s.st.recs nm = upd (upd (fun _ => none) (slotN z16) (some (contB en4 (two A [1])))) (leaseN z16) (some (packL [(z16, 9)])) nm)
    (htab : s.tab.Perm [⟨z16, z16, 9⟩]) (hne : l ≠ []) (hnum : NumsOk l) (hsz : ∀ x ∈ l, x.2.length ≤ 16384) (ht : ∀ t ∈ ts, holdsB (two A [1]) t = true) (hw : withA l (two A [1]) = two B zc) (hroom : s.room = 12) (hslots : s.slots = 6) (hlive : liveN s.st.recs ≤ 2) {err : Int} {s' : SrvS}
    (hp : SwapR s ⟨4, z16, z16, 9, en4, vt, vb⟩ l ts (some (en4, two A [1])) err s') :
    ∃ f : Look, SrvT (m + 2) s' f ∧ s'.slots = 6 ∧ s'.room = 12 ∧ (err = 0 ∨ err = 8) ∧ (f (slotN z16) = some (contB en4 (two B zc)) ∨ err = 8 ∧ f (slotN z16) = some (contB en4 (two A [1]))) := by
  obtain ⟨o1, o2, o3, o4⟩ := two_ok (y := [1]) hA (by decide)
  have hsl : Sto.look s.st.recs (slotN z16) = some (contB en4 (two A [1])) := by
    rw [hlk]
    unfold upd
    rw [if_neg (fun e => slot_lease e), if_pos rfl]
  have ho : ContIs s z16 (some (en4, two A [1])) := ⟨by rw [h.get, hsl], en4_len, ⟨fun x hx => o1.1 x hx, fun x hx => o2 x hx⟩, Nat.le_trans (show 2 ≤ 16 from by decide) (Nat.le_refl _)⟩
  have hlen : s.st.recs.length = 6 := by rw [← h.slots, hslots]
  rcases h.swap_gen hm (r := ⟨4, z16, z16, 9, en4, vt, vb⟩) ⟨by show z16.length = 16; decide, by show z16.length = 16; decide, en4_len⟩ (o := some (en4, two A [1])) (l := l) (ts := ts) (L := two B zc) (E := 9) ho hne hnum hsz (show May 9 from ⟨by decide, by decide⟩) (fun _ => rfl) ht
      (fun l' h1 h2 => by
        have h1' : l'.Perm (withA l (two A [1])) := h1
        rw [hw] at h1'
        exact two_eq h1' h2)
      (by rw [← h.room, hroom]; exact two_fits hB hz (Nat.le_refl _) rfl rfl) (by rw [hroom]; decide) (by rw [hlen]; omega)
      (fun b l2 h => AddR.again htab (show May 9 from ⟨by decide, by decide⟩) h) hp with ⟨a1, a2, a3, a4, a5, a6, a7, a8⟩ | ⟨a1, a2, a3, a4, f, a5, a6⟩
  · refine ⟨Sto.look s'.st.recs, .inl ⟨a2, fun _ => rfl⟩, a6.trans hslots, a7.trans hroom, .inl a1, .inl ?_⟩
    rw [a4]
    unfold upd
    rw [if_neg (fun e => slot_lease e), if_pos rfl]
  · refine ⟨f, a5, a3.trans hslots, a4.trans hroom, .inr a1, ?_⟩
    rcases a6 with a6 | a6 | a6
    · exact .inr ⟨a1, by rw [a6, hsl]⟩
    · left
      rw [a6]
      unfold upd
      rw [if_pos rfl]
    · left
      rw [a6]
      unfold upd
      rw [if_neg (fun e => slot_lease e), if_pos rfl]
section
variable {w w' : World} {C C' X : Nat → Prop}
theorem BlAt.schX {v : Value} {l : List Blob} (h : BlAt w (fun b => C b ∨ X b) v l) (hc : SChg C C' w w') : BlAt w' (fun b => C' b ∨ X b) v l := by
  have h1 : BlAt w (fun b => (C b ∨ C' b) ∨ X b) v l := h.mono fun b hb => by
    rcases hb with (hb | hb) | hb
    · exact .inl (.inl hb)
    · exact (hc.2 b hb).elim (fun h => .inl (.inl h)) .inr
    · exact .inl (.inr hb)
  exact (h1.chg hc.1 fun b hb _ => .inl (.inl hb)).mono fun b hb => .inl (hb.elim (fun h => .inl (.inr h)) .inr)
theorem TsAt.schX {v : Value} {l : List Tst} (h : TsAt w (fun b => C b ∨ X b) v l) (hc : SChg C C' w w') : TsAt w' (fun b => C' b ∨ X b) v l := by
  have h1 : TsAt w (fun b => (C b ∨ C' b) ∨ X b) v l := h.mono fun b hb => by
    rcases hb with (hb | hb) | hb
    · exact .inl (.inl hb)
    · exact (hc.2 b hb).elim (fun h => .inl (.inl h)) .inr
    · exact .inl (.inr hb)
  exact (h1.chg hc.1 fun b hb _ => .inl (.inl hb)).mono fun b hb => .inl (hb.elim (fun h => .inl (.inr h)) .inr)
end
end Go.Mem
namespace Go.Proofs.YtclhgokchcklbaaGreatDoor
open Go Go.RowKit Go.Mem Gf Lea
set_option linter.unusedVariables false
theorem slice_test (dst : Option Tmp) (x : Operand) (ty : TypeId) (pos : String) (af : Array Edge) (a : Act) (w : World) (K : Act → World → Prop) (Q : Exit → Act → World → Prop)
    (hy : aggIs (a.eval x) = true) (hc : AllK 34 (aggL (a.eval x))) :
    Oper.wp Tryz.prog ⟨dst, .buildSlice 45 1 #[(0, x)], ty, pos, af, none⟩ a w K Q = K (a.put dst (.slice (some ⟨w.heap.size, 0, none⟩) 1 1)) (w.alloc (.cells (aggL (a.eval x)).toArray 55)) :=
  wp_sliceK Tryz.underlying45 (by kernel_rfl) (by decide) (by decide) dst x ty pos af a w K Q hy hc
set_option maxHeartbeats 1000000 in
theorem slice_tests2 (dst : Option Tmp) (x0 x1 : Operand) (ty : TypeId) (pos : String) (af : Array Edge) (a : Act) (w : World) (K : Act → World → Prop) (Q : Exit → Act → World → Prop)
    (h0 : aggIs (a.eval x0) = true) (h1 : aggIs (a.eval x1) = true) (l0 : (aggL (a.eval x0)).length = 34) (l1 : (aggL (a.eval x1)).length = 34) :
    Oper.wp Tryz.prog ⟨dst, .buildSlice 45 2 #[(0, x0), (1, x1)], ty, pos, af, none⟩ a w K Q = K (a.put dst (.slice (some ⟨w.heap.size, 0, none⟩) 2 2)) (w.alloc (.cells (aggL (a.eval x0) ++ aggL (a.eval x1)).toArray 55)) := by
  have hi : (Tryz.prog.info? 55).map (fun i => (i.size, (i.zero.map (·.cells.size)))) = some (34, some 34) := by kernel_rfl
  cases hie : Tryz.prog.info? 55 with
  | none => rw [hie] at hi; cases hi
  | some ie =>
    rw [hie] at hi
    simp only [Option.map_some, Option.some.injEq, Prod.mk.injEq] at hi
    obtain ⟨e1, e2⟩ := hi
    cases hz : ie.zero with
    | none => rw [hz] at e2; cases e2
    | some z =>
      have sz : ∀ v, aggIs v = true → (aggL v).length = 34 → v.cells.size = 34 := fun v h l => by rw [agg_cells h]; simpa using l
      have hf := Great.fill_whole (s := 34) (by decide) [a.eval x0, a.eval x1] ((Array.range (2 * 34)).map (z.cells[· % z.cells.size]!)) (fun v hv => by
        simp only [List.mem_cons, List.not_mem_nil, or_false] at hv
        rcases hv with rfl | rfl
        · exact sz _ h0 l0
        · exact sz _ h1 l1) (by simp)
      unfold Oper.wp execOp
      have hr := run_buildSlice (P := Tryz.prog) w 45 55 2 #[(0, a.eval x0), (1, a.eval x1)] (([a.eval x0, a.eval x1].flatMap fun v => v.cells.toList).toArray) ie z Tryz.underlying45 hie hz (by rw [e1]; omega) (by rw [e1]; omega) (by rw [e1]; exact hf)
      simp only [List.map_toArray, List.map_cons, List.map_nil, Sem.run_bind, hr, Result.andThen_ok]
      simp only [List.flatMap_cons, List.flatMap_nil, List.append_nil, agg_cells h0, agg_cells h1]
      rfl
end Go.Proofs.YtclhgokchcklbaaGreatDoor
end
section
namespace Go.Mem
open Go Go.RowKit Gf Lea Go.Proofs.YtclhgokchcklbaaGreatDoor
end Go.Mem
namespace Go.Tail
open Go
section
variable {P : Program} {ops : Array Oper} {isM : Nat → Bool} {kn : Nat → Option Value} {J : (Nat → Bool) → (Nat → Value) → World → Prop}
end
end Go.Tail
namespace Go.Mem
open Go Go.RowKit Gf
end Go.Mem
namespace Go.Proofs.YtclhgokchcklbaaGreatDoor
open Go Go.RowKit Go.Mem Gf Lea
set_option linter.unusedVariables false
attribute [local go_sem ↓] Go.wp_at_zero Go.wp_at_succ
attribute [local go_sem ↓] load_key
attribute [local go_sem] ptrB_eq ptrO_eq ptrIs_eq aggL_eq aggIs_eq readK_drew hasK_drew readK_alloc_past hasK_alloc_past readK_alloc_in hasK_alloc_in
end Go.Proofs.YtclhgokchcklbaaGreatDoor
end
