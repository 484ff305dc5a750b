/- Texts of this proof, packed: SrvSwap, SrvAny, SrvStep, SrvActs, SrvCopyT. -/
import Derived.Test.YtbbojbdigiibbaaGreatDoorPk16
import Derived.Test.YtbbojbdigiibbaaGreatDoorPk13
import Derived.Test.YtbbojbdigiibbaaGreatDoorPk12
import Derived.Test.YtbbojbdigiibbaaGreatDoorPk08
import Derived.Test.YtbbojbdigiibbaaGreatDoorPk14
section
namespace Go.Mem
open Go Go.RowKit Gf Lea
theorem withA_mem {x : Blob} : ∀ {r out : List Blob}, x ∈ withA out r → x ∈ out ∨ x ∈ r
  | [], _, h => .inl h
  | b :: r, out, h => by
    rw [withA] at h
    split at h
    · rcases withA_mem h with h | h
      · rcases List.mem_append.1 h with h | h
        · exact .inl h
        · rw [List.mem_singleton.1 h]; exact .inr (List.mem_cons_self)
      · exact .inr (List.mem_cons_of_mem _ h)
    · rcases withA_mem h with h | h
      · exact .inl h
      · exact .inr (List.mem_cons_of_mem _ h)
def TsAt (w : World) (N : Nat → Prop) (v : Value) (ts : List Tst) : Prop :=
  ∃ a c, v = .slice a ts.length c ∧ ts.length ≤ 1000000 ∧ (∀ t ∈ ts, t.want.length = 32) ∧ (0 < ts.length → ∃ b off, a = some ⟨b, off, none⟩ ∧ b < w.heap.size ∧ ¬ N b ∧ ∀ (i : Nat) (t : Tst), ts[i]? = some t → w.rangeAt b (off + i * 34) (tstV t))
theorem TsAt.nil (w : World) (N : Nat → Prop) : TsAt w N (.slice none 0 0) [] := ⟨none, 0, rfl, Nat.zero_le _, (fun _ h => by cases h), fun h => by simp at h⟩
theorem TsAt.chg {S N : Nat → Prop} {w w' : World} {v : Value} {ts : List Tst} (h : TsAt w N v ts) (hc : Chg S w w') (hs : ∀ b, S b → b < w.heap.size → N b) : TsAt w' N v ts := by
  obtain ⟨a, c, e, h1, h2, h3⟩ := h
  refine ⟨a, c, e, h1, h2, fun hp => ?_⟩
  obtain ⟨b, off, e1, hb, hn, h4⟩ := h3 hp
  refine ⟨b, off, e1, Nat.lt_of_lt_of_le hb hc.size, hn, fun i t ht j u hu => ?_⟩
  have := h4 i t ht j u hu
  unfold World.cell? at this ⊢
  rw [hc.block b hb (fun hS => hn (hs b hS hb))]
  exact this
theorem TsAt.below {N : Nat → Prop} {w w' : World} {v : Value} {ts : List Tst} (h : TsAt w N v ts) (hb : Below w.heap.size w w') : TsAt w' N v ts := h.chg (S := fun _ => False) (Chg.of_below hb) (fun _ h => h.elim)
theorem TsAt.mono {N M : Nat → Prop} {w : World} {v : Value} {ts : List Tst} (h : TsAt w N v ts) (hM : ∀ b, M b → N b ∨ w.heap.size ≤ b) : TsAt w M v ts := by
  obtain ⟨a, c, e, h1, h2, h3⟩ := h
  refine ⟨a, c, e, h1, h2, fun hp => ?_⟩
  obtain ⟨b, off, e1, hb, hn, h4⟩ := h3 hp
  refine ⟨b, off, e1, hb, fun hm => ?_, h4⟩
  rcases hM b hm with h | h
  · exact hn h
  · omega
end Go.Mem
namespace Go.Proofs.YtbbojbdigiibbaaGreatDoor
open Go Go.RowKit Go.Mem Gf Lea
set_option linter.unusedVariables false
def enOf (r : Req) (o : Option (Key × List Blob)) : Key := if o.isSome then contK o else r.en
inductive SwapR (s : SrvS) (r : Req) (l : List Blob) (ts : List Tst) (o : Option (Key × List Blob)) : Int → SrvS → Prop
  | form (h : ¬ (l ≠ [] ∧ NumsOk l ∧ May r.ends)) : SwapR s r l ts o 2 s
  | enable (h : l ≠ [] ∧ NumsOk l ∧ May r.ends) (ho : o.isSome = true) (hk : contK o ≠ r.en) : SwapR s r l ts o 7 s
  | test (h : l ≠ [] ∧ NumsOk l ∧ May r.ends) (hk : o.isSome = true → contK o = r.en) (ht : ∃ t ∈ ts, holdsB (contL o) t = false) : SwapR s r l ts o 6 s
  | no (h : l ≠ [] ∧ NumsOk l ∧ May r.ends) (hk : o.isSome = true → contK o = r.en) (ht : ∀ t ∈ ts, holdsB (contL o) t = true) (l' : List Blob) (hp : l'.Perm (withA l (contL o))) (hs : l'.Pairwise fun a b : Blob => a.1 ≤ b.1) (err : Int)
      (ha : AskR s r.ix r.sec r.ends (slotN r.ix) (contB (enOf r o) l') o.isSome err) (h0 : err ≠ 0) : SwapR s r l ts o err s
  | torn (h : l ≠ [] ∧ NumsOk l ∧ May r.ends) (hk : o.isSome = true → contK o = r.en) (ht : ∀ t ∈ ts, holdsB (contL o) t = true) (l' : List Blob) (hp : l'.Perm (withA l (contL o))) (hs : l'.Pairwise fun a b : Blob => a.1 ≤ b.1)
      (ha : AskR s r.ix r.sec r.ends (slotN r.ix) (contB (enOf r o) l') o.isSome 0) (h0 : (putR s.st (slotN r.ix) (contB (enOf r o) l')).1 ≠ 0) : SwapR s r l ts o (putR s.st (slotN r.ix) (contB (enOf r o) l')).1 { s with st := (putR s.st (slotN r.ix) (contB (enOf r o) l')).2 }
  | put (h : l ≠ [] ∧ NumsOk l ∧ May r.ends) (hk : o.isSome = true → contK o = r.en) (ht : ∀ t ∈ ts, holdsB (contL o) t = true) (l' : List Blob) (hp : l'.Perm (withA l (contL o))) (hs : l'.Pairwise fun a b : Blob => a.1 ≤ b.1) (err : Int) (s' : SrvS)
      (ha : AskR s r.ix r.sec r.ends (slotN r.ix) (contB (enOf r o) l') o.isSome 0) (h0 : (putR s.st (slotN r.ix) (contB (enOf r o) l')).1 = 0) (hs' : AddSrv { s with st := (putR s.st (slotN r.ix) (contB (enOf r o) l')).2 } r.ix r.sec r.ends err s') : SwapR s r l ts o err s'
theorem contL_small {s : SrvS} {ix : Key} {o : Option (Key × List Blob)} (h : ContIs s ix o) : ∀ x ∈ contL o, x.2.length ≤ 16384 := fun x hx => by
  cases o with
  | none => cases hx
  | some kl =>
    obtain ⟨_, _, h3, _⟩ := h
    exact h3.len x hx
theorem contL_ok {s : SrvS} {ix : Key} {o : Option (Key × List Blob)} (h : ContIs s ix o) : BlOk (contL o) ∧ (contL o).length ≤ 16 := by
  cases o with
  | none => exact ⟨⟨fun x hx => (by cases hx), fun x hx => (by cases hx)⟩, Nat.zero_le _⟩
  | some kl =>
    obtain ⟨_, _, h3, h4⟩ := h
    exact ⟨h3, h4⟩
theorem nodup_le : ∀ (n : Nat) (l : List Int), l.Nodup → (∀ x ∈ l, 0 ≤ x ∧ x < (n : Int)) → l.length ≤ n
  | 0, l, _, h => by
    cases l with
    | nil => exact Nat.le_refl _
    | cons x l => have := h x (by simp); omega
  | n + 1, l, hn, h => by
    by_cases hm : (n : Int) ∈ l
    · have h1 := List.length_erase_of_mem hm
      have h2 := nodup_le n (l.erase n) (hn.erase _) (fun x hx => by
        have h3 := (hn.mem_erase_iff).1 hx
        have := h x h3.2
        have := h3.1
        omega)
      omega
    · have h2 := nodup_le n l hn (fun x hx => by
        have := h x hx
        have : x ≠ (n : Int) := fun e => hm (by rw [← e]; exact hx)
        omega)
      omega
theorem nums_len {l : List Blob} (h : NumsOk l) : l.length ≤ 16 := by
  have := nodup_le 16 (l.map (·.1)) h.2 (fun x hx => by
    obtain ⟨y, hy, rfl⟩ := List.mem_map.1 hx
    exact h.1 y hy)
  rwa [List.length_map] at this
theorem i34 : (Tryz.prog.info? 66).map (·.size) = some 34 := by kernel_rfl
theorem load_test (dst : Option Tmp) (x : Operand) (ty : TypeId) (pos : String) (af : Array Edge) (gd : Option (Tmp × Bool)) (a : Act) (w : World) (K : Act → World → Prop) (Q : Exit → Act → World → Prop)
    (hp : ptrIs (a.eval x) = true) (ht : SomeK 34 w (ptrB (a.eval x)) (ptrO (a.eval x))) :
    Oper.wp Tryz.prog ⟨dst, .load 66 x, ty, pos, af, gd⟩ a w K Q = K (a.put dst (.agg (readK 34 w (ptrB (a.eval x)) (ptrO (a.eval x))).toArray)) w :=
  wp_loadS Tryz.underlying66 rfl i34 dst x ty pos af gd a w K Q hp ht
theorem store_test (dst : Option Tmp) (x y : Operand) (ty : TypeId) (pos : String) (af : Array Edge) (a : Act) (w : World) (K : Act → World → Prop) (Q : Exit → Act → World → Prop)
    (hp : ptrIs (a.eval x) = true) (hy : aggIs (a.eval y) = true) (ht : HasK 34 w (ptrB (a.eval x)) (ptrO (a.eval x))) (hc : AllK 34 (aggL (a.eval y))) :
    Oper.wp Tryz.prog ⟨dst, .store 66 x y, ty, pos, af, none⟩ a w K Q = K (a.put dst undef) (w.setCells (ptrB (a.eval x)) (ptrO (a.eval x)) (aggL (a.eval y))) :=
  wp_storeK i34 dst x y ty pos af a w K Q hp hy ht hc
theorem allT {t : Tst} (h : t.want.length = 32) : AllK 34 (tstV t) := ⟨tstV_len h, fun v hv => by
  unfold tstV at hv
  rcases List.mem_cons.1 hv with rfl | hv
  · rfl
  · rcases List.mem_cons.1 hv with rfl | hv
    · rfl
    · exact bV_one _ v hv⟩
attribute [local irreducible] reqV contV zeroCont
attribute [local go_sem ↓] Go.wp_at_zero Go.wp_at_succ
attribute [local go_sem ↓] load_key load_req load_cont store_cont load_test store_test
attribute [local go_sem] arrayAt_key ptrB_eq ptrO_eq ptrIs_eq aggL_eq aggIs_eq readK_drew hasK_drew someK_drew readK_alloc_past hasK_alloc_past readK_alloc_in hasK_alloc_in setCells_drew setCells_alloc_past setCells_alloc_at setCells_zero hasK_alloc_at
set_option maxRecDepth 100000 in
set_option maxHeartbeats 8000000 in
theorem swap_calls16 (C X : Nat → Prop) (pb : Nat) (s : SrvS) (r : Req) (l : List Blob) (ts : List Tst) (o : Option (Key × List Blob)) (hr : r.Wf) (w : World) (h : IsSrv w C X pb s) (hB : SrvB s) (hwr : s.st.disk.writes < 72057594037800000) (hl : BlAt w (fun b => C b ∨ X b) r.vb l) (hd : ∀ x ∈ l, x.2.length ≤ 16384) (hts : TsAt w (fun b => C b ∨ X b) r.vt ts) (ho : ContIs s r.ix o) :
    Calls Tryz.prog 94 #[.pointer (some ⟨pb, 0, none⟩), .agg (reqV r).toArray] w (Answers C X pb (SwapR s r l ts o) w) := by
  obtain ⟨la, lc, hvb, hlc1, hlc2, hrow⟩ := id hl
  obtain ⟨n, hn⟩ : ∃ n, n = l.length := ⟨_, rfl⟩
  rw [← hn] at hvb hlc1 hrow
  obtain ⟨ta, tc, hvt, htn, htw, htrow⟩ := id hts
  obtain ⟨tn, htn2⟩ : ∃ n, n = ts.length := ⟨_, rfl⟩
  rw [← htn2] at hvt htn htrow
  have hR := (ReqAt.new w 47 hr)
  have hb0 := (Below.refl w.heap.size w).alloc (Nat.le_refl _) (.cells (reqV r).toArray 47)
  have hb1 := hb0.alloc hb0.size (.cells #[.int .i64 0, .slice none 0 0] 43)
  have hR1 := hR.below ((Below.refl _ (w.alloc (.cells (reqV r).toArray 47))).alloc (Nat.le_refl _) (.cells #[.int .i64 0, .slice none 0 0] 43))
  have hk4 : Blk ((w.alloc (.cells (reqV r).toArray 47)).alloc (.cells #[.int .i64 0, .slice none 0 0] 43)) (w.heap.size + 1) #[.int .i64 0, .slice none 0 0] 43 := Blk.new_at _ _ _ _ (by simp)
  obtain ⟨cr, hcr⟩ : ∃ c, c = reqV r := ⟨_, rfl⟩
  rw [← hcr] at hR1 hb1 hk4
  rw [← hcr]
  have HCR := Lib.hid hcr
  obtain ⟨w0, hw0⟩ : ∃ x, x = (w.alloc (.cells cr.toArray 47)).alloc (.cells #[.int .i64 0, .slice none 0 0] 43) := ⟨_, rfl⟩
  obtain ⟨p3, hp3⟩ : ∃ p, p = w.heap.size := ⟨_, rfl⟩
  obtain ⟨p4, hp4⟩ : ∃ p, p = w.heap.size + 1 := ⟨_, rfl⟩
  have HW := Lib.hid (And.intro hw0 (And.intro hp3 hp4))
  rw [← hw0, ← hp3] at hR1
  rw [← hw0] at hb1
  rw [← hw0, ← hp4] at hk4
  have H := Lib.hid (And.intro h (And.intro hB (And.intro hr (And.intro hl (And.intro hd hn)))))
  have hx4 : IsSrv w0 C (fun b => X b ∨ b = p4) pb s := h.growX (fun b hb => .inl hb) (fun b hb => hb.imp id (fun e => by rw [e, hp4]; omega)) hb1 (fun b hb => by rcases hb with hb | hb; exact Nat.lt_of_lt_of_le (h.lt (.inr hb)) hb1.size; rw [hb]; exact hk4.lt)
  have H0 := Lib.hid (And.intro hR1 (And.intro hb1 (And.intro hk4 hx4)))
  have HT := Lib.hid (And.intro hts (And.intro htw (And.intro htrow (And.intro htn2 (And.intro hvt ho)))))
  have c33 := hR1.ends
  have c51 := hR1.blobs
  rw [hvb] at c51
  clear h hB hr hl hd hn hcr hw0 hp3 hp4 hR hR1 hb0 hb1 hk4 hx4 hts htw htrow htn2 hvt ho
  go_enter Tryz.func94, Tryz.ntmps94
  go_upto_region 1 with fail
  rw [← HW.out.1, ← HW.out.2.2, ← HW.out.2.1]
  have HVB := Lib.hid hvb
  clear hvb
  have hln : l ≠ [] ↔ n ≠ 0 := by
    have := H.out.2.2.2.2.2
    constructor
    · intro h e
      exact h (List.eq_nil_of_length_eq_zero (by omega))
    · intro h e
      rw [e] at this
      exact h this
  have HLN := Lib.hid hln
  clear hln
  by_cases h1 : n = 0
  · subst h1
    have HF : Hid (SwapR s r l ts o 2 s) := SwapR.form (by rintro ⟨e, _⟩; exact HLN.out.1 e rfl)
    go_wp2_with fail
    refine (fails_calls 2 w0).mono ?_
    rintro e wf ⟨rfl, hbf⟩
    have k4f := H0.out.2.2.1.kept hbf
    have f40 := k4f.free 0
    have f41 := k4f.free 1
    have c40 : wf.cell? ⟨p4, 0, none⟩ = some (.int .i64 0) := k4f.cell 0
    have c41 : wf.cell? ⟨p4, 1, none⟩ = some (.slice none 0 0) := k4f.cell 1
    have l4f := k4f.lt
    have HBF := Lib.hid hbf
    clear hbf k4f
    go_wp2_with fail
    have hE := reply_end (x := .int .i64 2) (y := .slice none 0 0) ((H0.out.2.2.2).below HBF.out) ((SChg.of_below H0.out.2.1).post HBF.out) (by rw [HW.out.2.2]; omega)
    exact bodyPost_ret (v := .agg #[.int .i64 2, .slice none 0 0]) (by simp [results, Tryz.results94, go_sem, c40, c41]) rfl ⟨C, 2, s, rfl, HF.out, hE.1, hE.2⟩
  · have d1 : ((n : Int) == 0) = false := by simp; omega
    have d1' : (n == 0) = false := by simp; omega
    have hblobs := blobs_calls _ r.vb l w0 (H.out.2.2.2.1.below H0.out.2.1)
    rw [HVB.out] at hblobs
    replace h1 := Lib.hid h1
    go_wp2_with fail
    refine hblobs.mono ?_
    rintro e w1 ⟨bb, rfl, hbb, hb1⟩
    clear hblobs
    have hw01 := H0.out.2.1.trans (hb1.mono H0.out.2.1.size)
    have hR1 := H0.out.1.below hb1
    have c33 := hR1.ends
    have c51 := hR1.blobs
    rw [HVB.out] at c51
    have H1 := Lib.hid (And.intro hbb (And.intro hb1 (And.intro (H0.out.2.2.1.kept hb1) (And.intro hw01 (And.intro hR1 (H0.out.2.2.2.below hb1))))))
    clear hbb hb1 hw01 hR1
    cases bb with
    | false =>
      have HF : Hid (SwapR s r l ts o 2 s) := SwapR.form (fun h => Bool.noConfusion (H1.out.1.2 h.2.1))
      go_wp2_with fail
      refine (fails_calls 2 w1).mono ?_
      rintro e wf ⟨rfl, hbf⟩
      have k4f := H1.out.2.2.1.kept hbf
      have f40 := k4f.free 0
      have f41 := k4f.free 1
      have c40 : wf.cell? ⟨p4, 0, none⟩ = some (.int .i64 0) := k4f.cell 0
      have c41 : wf.cell? ⟨p4, 1, none⟩ = some (.slice none 0 0) := k4f.cell 1
      have l4f := k4f.lt
      have HBF := Lib.hid hbf
      clear hbf k4f
      go_wp2_with fail
      have hE := reply_end (x := .int .i64 2) (y := .slice none 0 0) ((H1.out.2.2.2.2.2).below HBF.out) ((SChg.of_below H1.out.2.2.2.1).post HBF.out) (by rw [HW.out.2.2]; omega)
      exact bodyPost_ret (v := .agg #[.int .i64 2, .slice none 0 0]) (by simp [results, Tryz.results94, go_sem, c40, c41]) rfl ⟨C, 2, s, rfl, HF.out, hE.1, hE.2⟩
    | true =>
      go_wp2_with fail
      refine (time_calls r.ends w1).mono ?_
      rintro e wt ⟨rfl, rfl⟩
      by_cases hmay : May r.ends
      rotate_left
      · have HF : Hid (SwapR s r l ts o 2 s) := SwapR.form (fun h => hmay h.2.2)
        have dm : decide (May r.ends) = false := by simpa using hmay
        replace hmay := Lib.hid hmay
        go_wp2_with fail
        refine (fails_calls 2 w1).mono ?_
        rintro e wf ⟨rfl, hbf⟩
        have k4f := H1.out.2.2.1.kept hbf
        have f40 := k4f.free 0
        have f41 := k4f.free 1
        have c40 : wf.cell? ⟨p4, 0, none⟩ = some (.int .i64 0) := k4f.cell 0
        have c41 : wf.cell? ⟨p4, 1, none⟩ = some (.slice none 0 0) := k4f.cell 1
        have l4f := k4f.lt
        have HBF := Lib.hid hbf
        clear hbf k4f
        go_wp2_with fail
        have hE := reply_end (x := .int .i64 2) (y := .slice none 0 0) ((H1.out.2.2.2.2.2).below HBF.out) ((SChg.of_below H1.out.2.2.2.1).post HBF.out) (by rw [HW.out.2.2]; omega)
        exact bodyPost_ret (v := .agg #[.int .i64 2, .slice none 0 0]) (by simp [results, Tryz.results94, go_sem, c40, c41]) rfl ⟨C, 2, s, rfl, HF.out, hE.1, hE.2⟩
      · have dm : decide (May r.ends) = true := by simpa using hmay
        have HOK : Hid (l ≠ [] ∧ NumsOk l ∧ May r.ends) := ⟨HLN.out.2 h1.out, H1.out.1.1 (by first | rfl | trivial), hmay⟩
        have rk := H1.out.2.2.2.2.1.rix
        have gk := H1.out.2.2.2.2.1.hix
        obtain ⟨ki, hki⟩ : ∃ c, c = bV r.ix := ⟨_, rfl⟩
        rw [← hki] at rk
        have HKI := Lib.hid hki
        clear hmay hki
        go_wp2_with fail
        refine (show Calls _ _ _ _ _ from (by rw [HKI.out]; exact container_calls C _ pb s r.ix H.out.2.2.1.ix o w1 H1.out.2.2.2.2.2 HT.out.2.2.2.2.2)).mono ?_
        rintro e w2 ⟨u, rfl, hu, hb2⟩
        obtain ⟨ua, uc, rfl, _⟩ := hu.slice
        have hck := contK_len HT.out.2.2.2.2.2
        obtain ⟨kc, hkc⟩ : ∃ c, c = bV (contK o) := ⟨_, rfl⟩
        obtain ⟨ln, hln⟩ : ∃ q, q = (contL o).length := ⟨_, rfl⟩
        rw [← hkc, ← hln]
        obtain ⟨is, his⟩ : ∃ b, b = o.isSome := ⟨_, rfl⟩
        rw [← his]
        have hka : AllK 16 kc := ⟨by rw [hkc, bV_len]; exact hck, fun v hv => by rw [hkc] at hv; exact bV_one _ v hv⟩
        have hca : AllK 18 (contV is kc (.slice ua ln uc)) := ⟨contV_len is hka.1 _, contV_one _ hka.2 _ rfl⟩
        have hbl0 : BlAt w2 (fun _ => False) (.slice ua ln uc) (contL o) := by rw [hln]; exact (hu.at (fun b h1 _ h2 => by omega)).mono (fun _ h => h.elim)
        have hkk := fun (j : Nat) (hj : j < 16) => contV_k is kc (.slice ua ln uc) (i := j) (by rw [hka.1]; exact hj)
        obtain ⟨cc, hcc⟩ : ∃ c, c = contV is kc (.slice ua ln uc) := ⟨_, rfl⟩
        have hc0 : cc[0]? = some (.bool is) := by rw [hcc]; exact contV_0 _ _ _
        rw [← hcc] at hca hkk ⊢
        have HC := Lib.hid (And.intro hkc (And.intro his (And.intro hcc (And.intro hln hck))))
        have hw2 := H1.out.2.2.2.1.trans (hb2.mono H1.out.2.2.2.1.size)
        have H2 := Lib.hid (And.intro hbl0 (And.intro hw2 (And.intro (H1.out.2.2.2.2.1.below hb2) (And.intro (H1.out.2.2.1.kept hb2) (H1.out.2.2.2.2.2.below hb2)))))
        clear hu hck hkc hln his hcc hbl0 hw2 hb2 rk gk c33 c51
        go_upto_region 4 with fail
        have hk5 : Blk (w2.alloc (.cells cc.toArray 205)) w2.heap.size cc.toArray 205 := Blk.new _ _ _
        have hbA : Below w2.heap.size w2 (w2.alloc (.cells cc.toArray 205)) := (Below.refl _ _).alloc (Nat.le_refl _) _
        obtain ⟨w3, hw3⟩ : ∃ x, x = w2.alloc (.cells cc.toArray 205) := ⟨_, rfl⟩
        obtain ⟨p5, hp5⟩ : ∃ x, x = w2.heap.size := ⟨_, rfl⟩
        rw [← hw3] at hk5 hbA ⊢
        rw [← hp5] at hk5 ⊢
        have c50 : w3.cell? ⟨p5, 0, none⟩ = some (.bool is) := by rw [hk5.cell 0]; simpa using hc0
        have hR3 := H2.out.2.2.1.below hbA
        have H3 := Lib.hid (And.intro hk5 (And.intro (H2.out.2.1.trans (hbA.mono H2.out.2.1.size)) (And.intro hR3 (And.intro (H2.out.2.2.2.1.kept hbA) (And.intro (H2.out.2.2.2.2.below hbA) (H2.out.1.below hbA))))))
        have q5 : HasK 16 w3 p5 1 := blk_has hk5 (by simp [hca.1])
        have r5 : readK 16 w3 p5 1 = kc := blk_read hk5 hka.1 (fun j hj => by rw [List.getElem?_toArray, Nat.add_comm]; exact hkk j hj)
        have q3 := hR3.hen
        have r3 := hR3.ren
        obtain ⟨ke, hke⟩ : ∃ c, c = bV r.en := ⟨_, rfl⟩
        rw [← hke] at r3
        have heq := fun w' => eq_key (contK o) r.en HC.out.2.2.2.2 H.out.2.2.1.en w'
        rw [← hke, ← HC.out.1] at heq
        have HKE := Lib.hid hke
        clear hk5 hbA hw3 hp5 hR3 hke
        obtain ⟨bad, hbad⟩ : ∃ b, b = (is && !decide (contK o = r.en)) := ⟨_, rfl⟩
        have HBAD := Lib.hid hbad
        clear hbad
        go_cut [40] (fun v wx => v = .bool bad ∧ w3 = wx)
        case first =>
          cases is with
          | false =>
            have hb : bad = false := HBAD.out
            subst hb
            go_wp2_with fail
            go_meet
            exact ⟨rfl, rfl⟩
          | true =>
            by_cases e : contK o = r.en
            · have de : decide (contK o = r.en) = true := by simpa using e
              have hb : bad = false := by rw [HBAD.out, de]; rfl
              subst hb
              replace e := Lib.hid e
              go_wp2_with fail
              go_meet
              exact ⟨by simp, rfl⟩
            · have de : decide (contK o = r.en) = false := by simpa using e
              have hb : bad = true := by rw [HBAD.out, de]; rfl
              subst hb
              replace e := Lib.hid e
              go_wp2_with fail
              go_meet
              exact ⟨by simp, rfl⟩
        case rest =>
        obtain ⟨rfl, rfl⟩ := hcut
        clear q5 r5 q3 r3 heq
        cases bad with
        | true =>
          have HF : Hid (SwapR s r l ts o 7 s) := by
            have hb := HBAD.out
            rw [HC.out.2.1] at hb
            have h2 : o.isSome = true ∧ ¬ contK o = r.en := by simpa using hb.symm
            exact SwapR.enable HOK.out h2.1 h2.2
          go_wp2_with fail
          refine (fails_calls 7 w3).mono ?_
          rintro e wf ⟨rfl, hbf⟩
          have k4f := H3.out.2.2.2.1.kept hbf
          have f40 := k4f.free 0
          have f41 := k4f.free 1
          have c40 : wf.cell? ⟨p4, 0, none⟩ = some (.int .i64 0) := k4f.cell 0
          have c41 : wf.cell? ⟨p4, 1, none⟩ = some (.slice none 0 0) := k4f.cell 1
          have l4f := k4f.lt
          have HBF := Lib.hid hbf
          clear hbf k4f
          go_wp2_with fail
          have hE := reply_end (x := .int .i64 7) (y := .slice none 0 0) ((H3.out.2.2.2.2.1).below HBF.out) ((SChg.of_below H3.out.2.1).post HBF.out) (by rw [HW.out.2.2]; omega)
          exact bodyPost_ret (v := .agg #[.int .i64 7, .slice none 0 0]) (by simp [results, Tryz.results94, go_sem, c40, c41]) rfl ⟨C, 7, s, rfl, HF.out, hE.1, hE.2⟩
        | false =>
          have hen : o.isSome = true → contK o = r.en := fun h => by
            have hb := HBAD.out
            rw [HC.out.2.1, h] at hb
            simpa using hb.symm
          have HEN := Lib.hid hen
          have c350 := H3.out.2.2.1.tests
          rw [HT.out.2.2.2.2.1] at c350
          clear hen
          go_upto_region 7 with fail
          go_loopw [45] (fun vi wr => ∃ i : Nat, i ≤ tn ∧ vi = .int .i64 i ∧ Hid ((∀ q t, q < i → ts[q]? = some t → holdsB (contL o) t = true) ∧ Below w3.heap.size w3 wr)) (fun vi _ => tn - (intOf vi).toNat)
          case atStart => exact ⟨0, Nat.zero_le _, rfl, (fun q t h => by omega), Below.refl _ _⟩
          case round =>
            obtain ⟨i, hi0, rfl, G⟩ := hrel
            by_cases hin : i < tn
            · obtain ⟨b, off, rfl, hb, _, hcells⟩ := HT.out.2.2.1 (by omega)
              have hx : ts[i]? = some (ts[i]'(by have := HT.out.2.2.2.1; omega)) := by simp
              generalize ts[i]'(by have := HT.out.2.2.2.1; omega) = x at hx
              have hxw := HT.out.2.1 x (List.mem_of_getElem? hx)
              have hbwr : Below w.heap.size w wr := H3.out.2.1.trans (G.out.2.mono H3.out.2.1.size)
              have hrng : wr.rangeAt b (off + i * 34) (tstV x) := fun j u hu => by
                rw [hbwr.cell (p := ⟨b, off + i * 34 + j, none⟩) hb]; exact hcells i x hx j u hu
              have hta := allT hxw
              obtain ⟨ct, hct⟩ : ∃ c, c = tstV x := ⟨_, rfl⟩
              rw [← hct] at hrng hta
              have s34 : SomeK 34 wr b (off + i * 34) := someK_of hrng hta.1
              have r34 : readK 34 wr b (off + i * 34) = ct := readK_eq hrng hta.1
              have i0 : (0 : Int) ≤ (i : Int) := by omega
              have i1 : (i : Int) < (tn : Int) := by omega
              have htl := hta.1
              have HX := Lib.hid (And.intro hx (And.intro hxw (And.intro hct hbwr)))
              clear hx hxw hbwr hrng hct hcells
              go_upto_region 9 with fail
              have hk7 : Blk (wr.alloc (.cells ct.toArray 66)) wr.heap.size ct.toArray 66 := Blk.new _ _ _
              have hbB : Below wr.heap.size wr (wr.alloc (.cells ct.toArray 66)) := (Below.refl _ _).alloc (Nat.le_refl _) _
              obtain ⟨wb, hwb⟩ : ∃ x, x = wr.alloc (.cells ct.toArray 66) := ⟨_, rfl⟩
              obtain ⟨p7, hp7⟩ : ∃ x, x = wr.heap.size := ⟨_, rfl⟩
              rw [← hwb] at hk7 hbB ⊢
              rw [← hp7] at hk7 ⊢
              have hb3 := G.out.2.trans (hbB.mono G.out.2.size)
              have hk5b := H3.out.1.kept hb3
              have q7 : SomeK 34 wb p7 0 := (blk_has (n := 34) (o := 0) hk7 (by simp [hta.1])).some
              have r7 : readK 34 wb p7 0 = ct := blk_read0 hk7 hta.1
              have q5 : HasK 18 wb p5 0 := blk_has hk5b (by simp [hca.1])
              have r5 : readK 18 wb p5 0 = cc := blk_read0 hk5b hca.1
              have HB := Lib.hid hb3
              clear hk7 hbB hwb hp7 hb3 hk5b s34 r34
              go_wp2_with fail
              have hlen : ∀ y ∈ contL o, y.2.length ≤ 1000000 := fun y hy => by
                have := contL_small HT.out.2.2.2.2.2 y hy
                omega
              refine (show Calls _ _ _ _ _ from (by rw [HX.out.2.2.1, HC.out.2.2.1]; exact holds_calls wb is kc (.slice ua ln uc) (contL o) x hka (H3.out.2.2.2.2.2.below HB.out) HX.out.2.1 hlen)).mono ?_
              rintro e w4 ⟨rfl, hb4⟩
              obtain ⟨hb, hhb⟩ : ∃ b, b = holdsB (contL o) x := ⟨_, rfl⟩
              rw [← hhb]
              have HH := Lib.hid (And.intro hhb (HB.out.trans (hb4.mono HB.out.size)))
              clear hhb hb4 hlen q7 r7 q5 r5
              cases hb with
              | false =>
                have HF : Hid (SwapR s r l ts o 6 s) := SwapR.test HOK.out HEN.out ⟨x, List.mem_of_getElem? HX.out.1, HH.out.1.symm⟩
                go_wp2_with fail
                refine (fails_calls 6 w4).mono ?_
                rintro e wf ⟨rfl, hbf⟩
                have k4f := (H3.out.2.2.2.1.kept HH.out.2).kept hbf
                have f40 := k4f.free 0
                have f41 := k4f.free 1
                have c40 : wf.cell? ⟨p4, 0, none⟩ = some (.int .i64 0) := k4f.cell 0
                have c41 : wf.cell? ⟨p4, 1, none⟩ = some (.slice none 0 0) := k4f.cell 1
                have l4f := k4f.lt
                have HBF := Lib.hid hbf
                clear hbf k4f
                go_wp2_with fail
                have hE := reply_end (x := .int .i64 6) (y := .slice none 0 0) ((H3.out.2.2.2.2.1.below HH.out.2).below HBF.out) ((SChg.of_below (H3.out.2.1.trans (HH.out.2.mono H3.out.2.1.size))).post HBF.out) (by rw [HW.out.2.2]; omega)
                exact bodyPost_ret (v := .agg #[.int .i64 6, .slice none 0 0]) (by simp [results, Tryz.results94, go_sem, c40, c41]) rfl ⟨C, 6, s, rfl, HF.out, hE.1, hE.2⟩
              | true =>
                go_wp2_with fail
                exact ⟨⟨i + 1, by omega, by simp, fun q t hq ht => by
                  rcases Nat.lt_or_ge q i with h | h
                  · exact G.out.1 q t h ht
                  · have : q = i := by omega
                    subst this
                    rw [HX.out.1] at ht
                    cases ht
                    exact HH.out.1.symm, HH.out.2⟩, by show tn - ((i : Int) + 1).toNat < tn - (i : Int).toNat; omega⟩
            · obtain rfl : i = tn := by omega
              have hall : ∀ t ∈ ts, holdsB (contL o) t = true := fun t ht => by
                obtain ⟨q, hq⟩ := List.getElem?_of_mem ht
                exact G.out.1 q t (by have := some_lt hq; have := HT.out.2.2.2.1; omega) hq
              obtain ⟨w5, hw5⟩ : ∃ x, x = wr := ⟨_, rfl⟩
              have G2 := Lib.hid G.out.2
              rw [← hw5] at G2 ⊢
              have HALL := Lib.hid hall
              clear hall G hw5 hi0
              have hk5b := H3.out.1.kept G2.out
              have hR5 := H3.out.2.2.1.below G2.out
              have q5 : HasK 18 w5 p5 0 := blk_has hk5b (by simp [hca.1])
              have r5 : readK 18 w5 p5 0 = cc := blk_read0 hk5b hca.1
              have q3 := hR5.hen
              have r3 := hR5.ren
              rw [← HKE.out] at r3
              have c351 := hR5.blobs
              rw [HVB.out] at c351
              have hw := H3.out.2.1.trans (G2.out.mono H3.out.2.1.size)
              have hwith := with_calls (fun b => C b ∨ X b) w5 is (contK o) (.slice ua ln uc) r.vb (contL o) l r.en HC.out.2.2.2.2 H.out.2.2.1.en (H3.out.2.2.2.2.2.below G2.out) (H.out.2.2.2.1.below hw) (by have := H.out.2.2.2.2.2; have := h1.out; omega) (nums_len HOK.out.2.1) (contL_ok HT.out.2.2.2.2.2).2
              rw [← HC.out.1, ← HC.out.2.2.1, ← HKE.out, HVB.out] at hwith
              have H5 := Lib.hid (And.intro hk5b (And.intro hR5 (And.intro hw hwith)))
              clear hk5b hR5 hw hwith
              go_wp2_with fail
              refine H5.out.2.2.2.mono ?_
              rintro e w6 ⟨u6, l6, rfl, hbl6, hp6, hs6, hb6⟩
              have hek : (if is = true then contK o else r.en) = enOf r o := by unfold enOf; rw [HC.out.2.1]
              rw [hek]
              have hekl : (enOf r o).length = 16 := by
                unfold enOf
                split
                · exact HC.out.2.2.2.2
                · exact H.out.2.2.1.en
              have hl6 : l6.length ≤ 32 := by
                have h1 := withA_len (contL o) l
                have h2 := nums_len HOK.out.2.1
                have h3 := (contL_ok HT.out.2.2.2.2.2).2
                rw [hp6.length_eq]; omega
              have hok6 : BlOk l6 := by
                have h1 := (contL_ok HT.out.2.2.2.2.2).1
                refine ⟨fun x hx => ?_, fun x hx => ?_⟩
                · rcases withA_mem (hp6.mem_iff.1 hx) with h | h
                  · exact HOK.out.2.1.1 x h
                  · exact h1.num x h
                · rcases withA_mem (hp6.mem_iff.1 hx) with h | h
                  · exact H.out.2.2.2.2.1 x h
                  · exact h1.len x h
              have hw6 := H5.out.2.2.1.trans (hb6.mono H5.out.2.2.1.size)
              have hcb := contbytes_calls w6 true (enOf r o) u6 l6 hekl hbl6 ((H.out.1.below hw6).tab) hl6 hok6
              have hcbl := contB_len (enOf r o) hekl l6 hok6
              have H6 := Lib.hid (And.intro hp6 (And.intro hs6 (And.intro hb6 (And.intro hcb hcbl))))
              clear hbl6 hp6 hs6 hb6 hek hekl hok6 hw6 hcb hcbl q5 r5 q3 r3 c351
              go_wp2_with fail
              refine H6.out.2.2.2.1.mono ?_
              rintro e w7 ⟨v7, rfl, ho7, hb7⟩
              obtain ⟨a7, c7, rfl⟩ := ho7.eq_slice
              obtain ⟨n7, hn7⟩ : ∃ q, q = (contB (enOf r o) l6).length := ⟨_, rfl⟩
              rw [← hn7]
              have HN7 := Lib.hid hn7
              have hb67 := hb7
              have hw7 := (H5.out.2.2.1.trans (H6.out.2.2.1.mono H5.out.2.2.1.size)).trans (hb7.mono (Nat.le_trans H5.out.2.2.1.size H6.out.2.2.1.size))
              have hb57 := H6.out.2.2.1.trans (hb7.mono H6.out.2.2.1.size)
              have hb37 := G2.out.trans (hb57.mono G2.out.size)
              have hR7 := H5.out.2.1.below hb57
              have hk57 := H5.out.1.kept hb57
              have hS7 := H3.out.2.2.2.2.1.below hb37
              have hk47 := H3.out.2.2.2.1.kept hb37
              obtain ⟨cr2, hcr2⟩ : ∃ c, c = reqV r := ⟨_, rfl⟩
              have hcl : cr2.length = 52 := by rw [hcr2]; exact reqV_len H.out.2.2.1
              have hrr : ∀ w', Below w7.heap.size w7 w' → w'.rangeAt p3 0 cr2 := fun w' hb => by
                have := readK_range (hR7.below hb).hall
                rw [(hR7.below hb).rall, ← hcr2] at this
                exact this
              have hri : ∀ w', Below w7.heap.size w7 w' → w'.rangeAt p3 1 ki := fun w' hb => by
                have := readK_range (hR7.below hb).hix
                rw [(hR7.below hb).rix, ← HKI.out] at this
                exact this
              have h50 : ∀ w', Below w7.heap.size w7 w' → w'.cell? ⟨p5, 0, none⟩ = some (.bool is) := fun w' hb => by
                rw [(hk57.kept hb).cell 0]; simpa using hc0
              have hki : ki.length = 16 := by rw [HKI.out, bV_len]; exact H.out.2.2.1.ix
              have hslot : ∀ w', w' = w7.drew → Calls Tryz.prog 108 #[.agg ki.toArray] w' fun e w'' => ∃ v', e = .returned v' ∧ (v' = .string (slotN r.ix) ∧ Below w7.heap.size w7 w'') := fun w' e => by
                subst e
                rw [HKI.out]
                refine (slot_calls r.ix H.out.2.2.1.ix w7.drew).mono ?_
                rintro e w'' ⟨rfl, hb⟩
                exact ⟨_, rfl, rfl, of_drew_base hb rfl⟩
              have H7 := Lib.hid (And.intro ho7 (And.intro hw7 (And.intro hR7 (And.intro hk57 (And.intro hS7 (And.intro hk47 (And.intro hcr2 hb57)))))))
              clear ho7 hb7 hn7 hw7 hb57 hb37 hR7 hk57 hS7 hk47 hcr2 hb67
              obtain ⟨nm, hnm⟩ : ∃ x, x = slotN r.ix := ⟨_, rfl⟩
              have HNM := Lib.hid hnm
              rw [← hnm] at hslot
              clear hnm
              go_upto_region 13 with fail
              refine Tail.wp_region_any_tail 8 4 (fun w' => w' = w7.drew) (fun vo w' => vo = .string nm ∧ Below w7.heap.size w7 w') (by kernel_rfl) (by kernel_rfl) (by decide) rfl ?_ (fun z hz => ?_)
              · obtain ⟨e, w', fr, ⟨vo, rfl, h⟩, _⟩ := hslot w7.drew rfl []
                exact ⟨vo, w', h⟩
              simp only [List.take_succ_cons, List.take_zero, List.drop_succ_cons, List.drop_zero]
              obtain rfl : z = .string nm := by
                obtain ⟨_, h, _⟩ := hz
                exact h
              clear hz
              iterate 1
                refine Tail.any_ex (by decide) (by rfl) ?_
                apply Exists.intro
                refine ⟨fun w => ?_, ?_⟩
                · go_simp <;> with_reducible rfl
                simp only [Act.put, List.setIfInBounds_toArray, List.set_cons_zero, List.set_cons_succ]
              refine Tail.any_load (by decide) (by rfl) _ _ rfl p3 0 rfl cr2 (fun w h => by rw [h]; exact hrr w7.drew (Below.refl _ _).drew) (fun w h => hrr w h.2) Tryz.underlying47 rfl (by rw [i52, hcl]) ?_
              simp only [Act.put, List.setIfInBounds_toArray, List.set_cons_zero, List.set_cons_succ]
              iterate 1
                refine Tail.any_ex (by decide) (by rfl) ?_
                apply Exists.intro
                refine ⟨fun w => ?_, ?_⟩
                · go_simp <;> with_reducible rfl
                simp only [Act.put, List.setIfInBounds_toArray, List.set_cons_zero, List.set_cons_succ]
              refine Tail.any_load (by decide) (by rfl) _ _ rfl p3 1 rfl ki (fun w h => by rw [h]; exact hri w7.drew (Below.refl _ _).drew) (fun w h => hri w h.2) Tryz.underlying39 rfl (by rw [i16, hki]) ?_
              simp only [Act.put, List.setIfInBounds_toArray, List.set_cons_zero, List.set_cons_succ]
              refine Tail.any_call (by rfl) (fun w hw => ?_) ?_
              · apply Exists.intro
                apply Exists.intro
                refine ⟨?_, hslot w hw⟩
                go_simp <;> with_reducible rfl
              simp only [Act.put, List.setIfInBounds_toArray, List.set_cons_zero, List.set_cons_succ]
              iterate 2
                refine Tail.any_ex (by decide) (by rfl) ?_
                apply Exists.intro
                refine ⟨fun w => ?_, ?_⟩
                · go_simp <;> with_reducible rfl
                simp only [Act.put, List.setIfInBounds_toArray, List.set_cons_zero, List.set_cons_succ]
              refine Tail.any_step (by decide) (.bool is) (by rfl) (fun w h => ?_) (fun w h => ?_) ?_
              · subst h
                have hc := h50 w7 (Below.refl _ _)
                go_simp <;> with_reducible rfl
              · have hc := h50 w h.2
                go_simp <;> with_reducible rfl
              simp only [Act.put, List.setIfInBounds_toArray, List.set_cons_zero, List.set_cons_succ]
              intro w8 hw8
              have hb78 := hw8.2
              have hw08 := H7.out.2.1.trans (hb78.mono H7.out.2.1.size)
              have hnmz : (slotN r.ix).size ≤ 1000000 := by
                have : (slotN r.ix).size = 17 := by
                  show (99 :: r.ix).toArray.size = 17
                  simp [H.out.2.2.1.ix]
                omega
              have hask := asks_calls C _ pb s r H.out.2.2.1 (slotN r.ix) (.slice a7 n7 c7) (contB (enOf r o) l6) is w8 (H7.out.2.2.2.2.1.below hb78) H.out.2.1 (HN7.out ▸ (H7.out.1.below hb78).bys) hnmz
              rw [← H7.out.2.2.2.2.2.2.1, ← HNM.out] at hask
              have H8 := Lib.hid (And.intro hb78 (And.intro hw08 (And.intro hnmz hask)))
              clear hw8 hb78 hw08  hask hrr hri h50 hslot
              go_wp2_with fail
              refine H8.out.2.2.2.mono ?_
              rintro e w9 ⟨err, rfl, hask, hb9⟩
              have hb79 := H8.out.1.trans (hb9.mono H8.out.1.size)
              have H9 := Lib.hid (And.intro hask (And.intro hb79 (H7.out.2.1.trans (hb79.mono H7.out.2.1.size))))
              clear hask hb9 hb79
              by_cases he : err = 0
              rotate_left
              · have t0 : (err != 0) = true := by simpa using he
                have t0' : (err == 0) = false := by simpa using he
                have HF : Hid (SwapR s r l ts o err s) := SwapR.no HOK.out HEN.out HALL.out l6 H6.out.1 H6.out.2.1 err (by have := H9.out.1; rw [HNM.out, HC.out.2.1] at this; exact this) he
                replace he := Lib.hid he
                go_wp2_with fail
                refine (fails_calls err w9).mono ?_
                rintro e wf ⟨rfl, hbf⟩
                have k4f := (H7.out.2.2.2.2.2.1.kept H9.out.2.1).kept hbf
                have f40 := k4f.free 0
                have f41 := k4f.free 1
                have c40 : wf.cell? ⟨p4, 0, none⟩ = some (.int .i64 0) := k4f.cell 0
                have c41 : wf.cell? ⟨p4, 1, none⟩ = some (.slice none 0 0) := k4f.cell 1
                have l4f := k4f.lt
                have HBF := Lib.hid hbf
                clear hbf k4f
                go_wp2_with fail
                have hE := reply_end (x := .int .i64 err) (y := .slice none 0 0) ((H7.out.2.2.2.2.1.below H9.out.2.1).below HBF.out) ((SChg.of_below H9.out.2.2).post HBF.out) (by rw [HW.out.2.2]; omega)
                exact bodyPost_ret (v := .agg #[.int .i64 err, .slice none 0 0]) (by simp [results, Tryz.results94, go_sem, c40, c41]) rfl ⟨C, err, s, rfl, HF.out, hE.1, hE.2⟩
              · subst he
                obtain ⟨sb, lb, d, L, tb, v, hA⟩ := H7.out.2.2.2.2.1.below H9.out.2.1
                have hhi : ∀ w', Below w9.heap.size w9 w' → w'.rangeAt p3 1 ki := fun w' hb => by
                  have hR9 := (H7.out.2.2.1.below H9.out.2.1).below hb
                  have := readK_range hR9.hix
                  rw [hR9.rix, ← HKI.out] at this
                  exact this
                have h30 : ∀ w', Below w9.heap.size w9 w' → w'.cell? ⟨pb, 3, none⟩ = some (.pointer (some ⟨sb, 0, none⟩)) := fun w' hb => (hA.below hb).blk.cell 3
                have hslot : ∀ w', w' = w9.drew → Calls Tryz.prog 108 #[.agg ki.toArray] w' fun e w'' => ∃ v', e = .returned v' ∧ (v' = .string nm ∧ Below w9.heap.size w9 w'') := fun w' e => by
                  subst e
                  rw [HKI.out, HNM.out]
                  refine (slot_calls r.ix H.out.2.2.1.ix w9.drew).mono ?_
                  rintro e w'' ⟨rfl, hb⟩
                  exact ⟨_, rfl, rfl, of_drew_base hb rfl⟩
                have HA := Lib.hid hA
                clear hA
                go_upto_region 16 with fail
                refine Tail.wp_region_any_tail 8 6 (fun w' => w' = w9.drew) (fun vo w' => vo = .string nm ∧ Below w9.heap.size w9 w') (by kernel_rfl) (by kernel_rfl) (by decide) rfl ?_ (fun z hz => ?_)
                · obtain ⟨e, w', fr, ⟨vo, rfl, h⟩, _⟩ := hslot w9.drew rfl []
                  exact ⟨vo, w', h⟩
                simp only [List.take_succ_cons, List.take_zero, List.drop_succ_cons, List.drop_zero]
                obtain rfl : z = .string nm := by
                  obtain ⟨_, h, _⟩ := hz
                  exact h
                clear hz
                iterate 3
                  refine Tail.any_ex (by decide) (by rfl) ?_
                  apply Exists.intro
                  refine ⟨fun w => ?_, ?_⟩
                  · go_simp <;> with_reducible rfl
                  simp only [Act.put, List.setIfInBounds_toArray, List.set_cons_zero, List.set_cons_succ]
                refine Tail.any_step (by decide) (.pointer (some ⟨sb, 0, none⟩)) (by rfl) (fun w h => ?_) (fun w h => ?_) ?_
                · subst h
                  have hc := h30 w9 (Below.refl _ _)
                  go_simp <;> with_reducible rfl
                · have hc := h30 w h.2
                  go_simp <;> with_reducible rfl
                simp only [Act.put, List.setIfInBounds_toArray, List.set_cons_zero, List.set_cons_succ]
                iterate 1
                  refine Tail.any_ex (by decide) (by rfl) ?_
                  apply Exists.intro
                  refine ⟨fun w => ?_, ?_⟩
                  · go_simp <;> with_reducible rfl
                  simp only [Act.put, List.setIfInBounds_toArray, List.set_cons_zero, List.set_cons_succ]
                refine Tail.any_load (by decide) (by rfl) _ _ rfl p3 1 rfl ki (fun w h => by rw [h]; exact hhi w9.drew (Below.refl _ _).drew) (fun w h => hhi w h.2) Tryz.underlying39 rfl (by rw [i16, hki]) ?_
                simp only [Act.put, List.setIfInBounds_toArray, List.set_cons_zero, List.set_cons_succ]
                refine Tail.any_call (by rfl) (fun w hw => ?_) ?_
                · apply Exists.intro
                  apply Exists.intro
                  refine ⟨?_, hslot w hw⟩
                  go_simp <;> with_reducible rfl
                simp only [Act.put, List.setIfInBounds_toArray, List.set_cons_zero, List.set_cons_succ]
                iterate 1
                  refine Tail.any_ex (by decide) (by rfl) ?_
                  apply Exists.intro
                  refine ⟨fun w => ?_, ?_⟩
                  · go_simp <;> with_reducible rfl
                  simp only [Act.put, List.setIfInBounds_toArray, List.set_cons_zero, List.set_cons_succ]
                intro w10 hw10
                have hb90 := hw10.2
                have hb70 := H9.out.2.1.trans (hb90.mono H9.out.2.1.size)
                have hAt := HA.out.below hb90
                have hby := (H7.out.1.below hb70)
                have hgl : ∀ b, C b → b < w.heap.size := fun b hb => H.out.1.lt (.inl hb)
                have hwz : w.heap.size ≤ w6.heap.size := Nat.le_trans H5.out.2.2.1.size H6.out.2.2.1.size
                have hput := sput_calls _ sb lb d L s.st (slotN r.ix) (.slice a7 n7 c7) (contB (enOf r o) l6) w10 hAt.st (HN7.out ▸ hby.bys) H8.out.2.2.1 (by have := H6.out.2.2.2.2; have : l6.length * 16420 ≤ 32 * 16420 := Nat.mul_le_mul_right _ hl6; omega) (fun w' hc => HN7.out ▸ (hby.chg (S := Foot sb lb d L) hc (fun g hg hf => by
                  have h1 := hgl g (HA.out.foot g hf)
                  have h2 := (hby.lt g hg).1
                  omega)).bys) (by have := hwr; omega)
                obtain ⟨z1, hz1⟩ : ∃ z, z = (putR s.st nm (contB (enOf r o) l6)).1 := ⟨_, rfl⟩
                obtain ⟨st1, hst1⟩ : ∃ z, z = (putR s.st nm (contB (enOf r o) l6)).2 := ⟨_, rfl⟩
                have HZ := Lib.hid (And.intro hz1 hst1)
                rw [← HNM.out] at hput
                have H10 := Lib.hid (And.intro hb90 (And.intro hAt (And.intro hput (H7.out.2.1.trans (hb70.mono H7.out.2.1.size)))))
                clear hw10 hb90 hb70 hAt hby hput hz1 hst1 hslot hhi h30
                go_wp2_with fail
                refine H10.out.2.2.1.mono ?_
                rintro e w11 ⟨rfl, hst5, hc5⟩
                have hA5 := H10.out.2.1.store hc5 hst5
                have hp4C : ¬ C p4 := fun hC => by have := hgl p4 hC; have := HW.out.2.2; omega
                have hp3C : ¬ C p3 := fun hC => by have := hgl p3 hC; have := HW.out.2.1; omega
                rw [← HZ.out.2] at hA5
                rw [← HZ.out.1]
                have hcw : Chg C w w11 := (Chg.of_below H10.out.2.2.2).trans (hc5.mono HA.out.foot)
                have hb710 := H9.out.2.1.trans (H10.out.1.mono H9.out.2.1.size)
                have hk411 := hc5.blk (H7.out.2.2.2.2.2.1.kept hb710) (fun hf => hp4C (HA.out.foot _ hf))
                have hR11 := (H7.out.2.2.1.below hb710).chg hc5 (fun hf => hp3C (HA.out.foot _ hf))
                have H11 := Lib.hid (And.intro (show IsSrv w11 C (fun b => X b ∨ b = p4) pb { s with st := st1 } from ⟨sb, lb, d, L, tb, v, hA5⟩) (And.intro hk411 (And.intro hR11 (And.intro hp4C (show SChg C C w w11 from ⟨hcw, fun b hb => .inl hb⟩)))))
                clear hst5 hc5 hA5 hp4C hp3C hcw hb710 hk411 hR11
                by_cases hz0 : z1 = 0
                rotate_left
                · have t0 : (z1 != 0) = true := by simpa using hz0
                  have t0' : (z1 == 0) = false := by simpa using hz0
                  have HF : Hid (SwapR s r l ts o z1 { s with st := st1 }) := by
                    show SwapR s r l ts o z1 { s with st := st1 }
                    rw [HZ.out.1, HZ.out.2, HNM.out]
                    exact SwapR.torn HOK.out HEN.out HALL.out l6 H6.out.1 H6.out.2.1 (by have := H9.out.1; rw [HNM.out, HC.out.2.1] at this; exact this) (by rw [← HNM.out, ← HZ.out.1]; exact hz0)
                  replace hz0 := Lib.hid hz0
                  go_wp2_with fail
                  refine (fails_calls z1 w11).mono ?_
                  rintro e wf ⟨rfl, hbf⟩
                  have k4f := H11.out.2.1.kept hbf
                  have f40 := k4f.free 0
                  have f41 := k4f.free 1
                  have c40 : wf.cell? ⟨p4, 0, none⟩ = some (.int .i64 0) := k4f.cell 0
                  have c41 : wf.cell? ⟨p4, 1, none⟩ = some (.slice none 0 0) := k4f.cell 1
                  have l4f := k4f.lt
                  have HBF := Lib.hid hbf
                  clear hbf k4f
                  go_wp2_with fail
                  have hE := reply_end (x := .int .i64 z1) (y := .slice none 0 0) ((H11.out.1).below HBF.out) ((H11.out.2.2.2.2).post HBF.out) (by rw [HW.out.2.2]; omega)
                  exact bodyPost_ret (v := .agg #[.int .i64 z1, .slice none 0 0]) (by simp [results, Tryz.results94, go_sem, c40, c41]) rfl ⟨C, z1, { s with st := st1 }, rfl, HF.out, hE.1, hE.2⟩
                · have HZ0 := Lib.hid hz0
                  subst hz0
                  have r52 := H11.out.2.2.1.rall
                  have g52 := H11.out.2.2.1.hall
                  rw [← H7.out.2.2.2.2.2.2.1] at r52
                  go_wp2_with fail
                  refine (show Calls _ _ _ _ _ from (by rw [H7.out.2.2.2.2.2.2.1]; exact srvadd_calls C _ pb { s with st := st1 } r H.out.2.2.1 w11 H11.out.1 ⟨H.out.2.1.tab, by rw [HZ.out.2]; have h1 := put_writes s.st nm (contB (enOf r o) l6); have h2 := hwr; have h3 := HA.out.st.ok.room2; simp only; omega⟩)).mono ?_
                  rintro e w12 ⟨C', err2, s', rfl, hadd, hs', hsc⟩
                  have hk46 := hsc.1.blk H11.out.2.1 H11.out.2.2.2.1
                  have HF : Hid (SwapR s r l ts o err2 s') := by
                    refine SwapR.put HOK.out HEN.out HALL.out l6 H6.out.1 H6.out.2.1 err2 s' (by have := H9.out.1; rw [HNM.out, HC.out.2.1] at this; exact this) (by rw [← HNM.out]; exact HZ.out.1.symm) ?_
                    rw [← HNM.out, ← HZ.out.2]
                    exact hadd
                  have H12 := Lib.hid (And.intro hs' (And.intro (H11.out.2.2.2.2.trans hsc) hk46))
                  clear hadd hs' hsc hk46 r52 g52
                  go_wp2_with fail
                  refine (fails_calls err2 w12).mono ?_
                  rintro e wf ⟨rfl, hbf⟩
                  have k4f := H12.out.2.2.kept hbf
                  have f40 := k4f.free 0
                  have f41 := k4f.free 1
                  have c40 : wf.cell? ⟨p4, 0, none⟩ = some (.int .i64 0) := k4f.cell 0
                  have c41 : wf.cell? ⟨p4, 1, none⟩ = some (.slice none 0 0) := k4f.cell 1
                  have l4f := k4f.lt
                  have HBF := Lib.hid hbf
                  clear hbf k4f
                  go_wp2_with fail
                  have hE := reply_end (x := .int .i64 err2) (y := .slice none 0 0) ((H12.out.1).below HBF.out) ((H12.out.2.1).post HBF.out) (by rw [HW.out.2.2]; omega)
                  exact bodyPost_ret (v := .agg #[.int .i64 err2, .slice none 0 0]) (by simp [results, Tryz.results94, go_sem, c40, c41]) rfl ⟨C', err2, s', rfl, HF.out, hE.1, hE.2⟩
end Go.Proofs.YtbbojbdigiibbaaGreatDoor
end
section
namespace Go.Mem
open Go Go.RowKit Gf Lea Go.Proofs.YtbbojbdigiibbaaGreatDoor
inductive DoR (s : SrvS) (r : Req) (l : List Blob) (ts : List Tst) (o : Option (Key × List Blob)) : Int → List Blob → SrvS → Prop
  | dead (h : s.dead = true) : DoR s r l ts o 8 [] s
  | form (h : s.dead = false) (hk : ∀ k : Nat, handD k = true → (k : Int) ≠ r.kind) : DoR s r l ts o 2 [] s
  | get (h : s.dead = false) (hk : r.kind = 1) : DoR s r l ts o 0 (s.shares r.ix) s
  | put (h : s.dead = false) (hk : r.kind = 2) (err : Int) (s' : SrvS) (hp : PutSh s r l err s') : DoR s r l ts o err [] s'
  | slot (h : s.dead = false) (hk : r.kind = 3) : DoR s r l ts o 0 (contL o) s
  | swap (h : s.dead = false) (hk : r.kind = 4) (err : Int) (s' : SrvS) (hp : SwapR s r l ts o err s') : DoR s r l ts o err [] s'
  | renew (h : s.dead = false) (hk : r.kind = 5) (err : Int) (s' : SrvS) (hp : RenSrv s r o err s') : DoR s r l ts o err [] s'
  | cancel (h : s.dead = false) (hk : r.kind = 6) (err : Int) (s' : SrvS) (hp : CanSrv s r.ix r.sec err s') : DoR s r l ts o err [] s'
end Go.Mem
namespace Go.Proofs.YtbbojbdigiibbaaGreatDoor
open Go Go.RowKit Go.Mem Gf Lea
set_option linter.unusedVariables false
section
variable {w0 w : World} {C : Nat → Prop} {pb : Nat} {s : SrvS}
theorem SrvL.swap (h : SrvL w0 w C pb s) (hd : s.dead = false) (hB : SrvB s) (hw : s.st.disk.writes < 72057594037800000) {r : Req} (hr : r.Wf) (hk : r.kind = 4) {l : List Blob} (hl : BlAt w C r.vb l) (hz : ∀ x ∈ l, x.2.length ≤ 16384) {ts : List Tst} (hts : TsAt w C r.vt ts) {o : Option (Key × List Blob)} (ho : ContIs s r.ix o) :
    Calls Tryz.prog 20 #[.pointer (some ⟨pb, 0, none⟩), .agg (reqV r).toArray] w fun e w' => ∃ C' err s', e = .returned (.agg #[.int .i64 err, .slice none 0 0]) ∧ SwapR s r l ts o err s' ∧ SrvL w0 w' C' pb s' ∧ SChg C C' w w' := by
  refine (do_answers hr h.srv hd 4 rfl hk (SwapR s r l ts o) fun w1 p4 hb h4 hs => ?_).mono ?_
  · have hm : ∀ b, (C b ∨ (False ∨ b = p4)) → C b ∨ w.heap.size ≤ b := fun b hb' => hb'.elim .inl (fun h' => h'.elim (fun f => f.elim) (fun e => .inr (by rw [e]; exact h4)))
    have hl1 : BlAt w1 (fun b => C b ∨ (False ∨ b = p4)) r.vb l := BlAt.below (hl.mono hm) hb
    have ht1 : TsAt w1 (fun b => C b ∨ (False ∨ b = p4)) r.vt ts := TsAt.below (hts.mono hm) hb
    exact swap_calls16 C _ pb s r l ts o hr w1 hs hB hw hl1 hz ht1 ho
  · rintro e w' ⟨C', err, s', rfl, hR, hs', hsc⟩
    exact ⟨C', err, s', rfl, hR, h.sch hs' hsc, hsc⟩
theorem SrvL.any (h : SrvL w0 w C pb s) (hB : SrvB s) (hw : s.st.disk.writes < 72057594037800000) {r : Req} (hr : r.Wf) {l : List Blob} (hl : BlAt w C r.vb l) (hz : ∀ x ∈ l, x.2.length ≤ 16384) {ts : List Tst} (hts : TsAt w C r.vt ts) {o : Option (Key × List Blob)} (ho : s.dead = false → ContIs s r.ix o) :
    Calls Tryz.prog 20 #[.pointer (some ⟨pb, 0, none⟩), .agg (reqV r).toArray] w fun e w' => ∃ C' err u lb s', e = .returned (.agg #[.int .i64 err, u]) ∧ OwnBl 53 w' w.heap.size (fun b => b < w.heap.size) u lb ∧ DoR s r l ts o err lb s' ∧ SrvL w0 w' C' pb s' ∧ SChg C C' w w' := by
  cases hd : s.dead with
  | true =>
    refine (h.gone hd hr).mono ?_
    rintro e w' ⟨C', rfl, hL, hsc⟩
    exact ⟨C', 8, _, [], s, rfl, OwnBl.nil _ _ _ _, .dead hd, hL, hsc⟩
  | false =>
    have ho := ho hd
    by_cases hk : ∃ k : Nat, handD k = true ∧ (k : Int) = r.kind
    · obtain ⟨k, hk1, hk2⟩ := hk
      have hk3 : 1 ≤ k ∧ k ≤ 6 := by unfold handD at hk1; simpa using hk1
      rcases (by omega : k = 1 ∨ k = 2 ∨ k = 3 ∨ k = 4 ∨ k = 5 ∨ k = 6) with rfl | rfl | rfl | rfl | rfl | rfl
      · refine (h.get hd hB hr hk2.symm).mono ?_
        rintro e w' ⟨u, rfl, hO, hb⟩
        exact ⟨C, 0, u, _, s, rfl, hO, .get hd hk2.symm, h.step hb, SChg.of_below hb⟩
      · refine (h.put hd hB hw hr hk2.symm hl (fun x hx => by have := hz x hx; omega)).mono ?_
        rintro e w' ⟨C', err, s', rfl, hR, hL, hsc⟩
        exact ⟨C', err, _, [], s', rfl, OwnBl.nil _ _ _ _, .put hd hk2.symm err s' hR, hL, hsc⟩
      · refine (h.slot hd hB hr hk2.symm ho).mono ?_
        rintro e w' ⟨u, rfl, hO, hb⟩
        exact ⟨C, 0, u, _, s, rfl, hO, .slot hd hk2.symm, h.step hb, SChg.of_below hb⟩
      · refine (h.swap hd hB hw hr hk2.symm hl hz hts ho).mono ?_
        rintro e w' ⟨C', err, s', rfl, hR, hL, hsc⟩
        exact ⟨C', err, _, [], s', rfl, OwnBl.nil _ _ _ _, .swap hd hk2.symm err s' hR, hL, hsc⟩
      · refine (h.renew hd hB hr hk2.symm ho).mono ?_
        rintro e w' ⟨C', err, s', rfl, hR, hL, hsc⟩
        exact ⟨C', err, _, [], s', rfl, OwnBl.nil _ _ _ _, .renew hd hk2.symm err s' hR, hL, hsc⟩
      · refine (h.cancel hd hB hr hk2.symm).mono ?_
        rintro e w' ⟨C', err, s', rfl, hR, hL, hsc⟩
        exact ⟨C', err, _, [], s', rfl, OwnBl.nil _ _ _ _, .cancel hd hk2.symm err s' hR, hL, hsc⟩
    · have hk' : ∀ k : Nat, handD k = true → (k : Int) ≠ r.kind := fun k h1 h2 => hk ⟨k, h1, h2⟩
      refine (h.form hd hr hk').mono ?_
      rintro e w' ⟨C', rfl, hL, hsc⟩
      exact ⟨C', 2, _, [], s, rfl, OwnBl.nil _ _ _ _, .form hd hk', hL, hsc⟩
end
end Go.Proofs.YtbbojbdigiibbaaGreatDoor
end
section
namespace Go.Mem
open Go Go.RowKit Gf Lea Go.Proofs.YtbbojbdigiibbaaGreatDoor
theorem findB_not {l : List Blob} {num : Int} (h : findB l num = none) : num ∉ l.map (·.1) := by
  intro hm
  obtain ⟨x, hx, e⟩ := List.mem_map.1 hm
  unfold findB at h
  rw [Option.map_eq_none_iff, List.find?_eq_none] at h
  exact h x hx (by simpa using e)
theorem withA_nodup : ∀ (r out : List Blob), (out.map (·.1)).Nodup → ((withA out r).map (·.1)).Nodup
  | [], _, h => h
  | b :: r, out, h => by
    rw [withA]
    split
    · rename_i hn
      refine withA_nodup r _ ?_
      rw [List.map_append, List.nodup_append]
      refine ⟨h, by simp, fun a ha c hc e => ?_⟩
      simp at hc
      subst hc
      subst e
      exact findB_not hn ha
    · exact withA_nodup r _ h
theorem swap_ok {l lo l' : List Blob} (hl : NumsOk l) (hz : ∀ x ∈ l, x.2.length ≤ 16384) (ho : BlOk lo) (hp : l'.Perm (withA l lo)) (hs : l'.Pairwise fun a b : Blob => a.1 ≤ b.1) : BlOk l' ∧ l'.length ≤ 16 ∧ (l'.map (·.1)).Pairwise (· < ·) := by
  have hb : BlOk l' := by
    refine ⟨fun x hx => ?_, fun x hx => ?_⟩
    · rcases withA_mem (hp.mem_iff.1 hx) with h | h
      · exact hl.1 x h
      · exact ho.num x h
    · rcases withA_mem (hp.mem_iff.1 hx) with h | h
      · exact hz x h
      · exact ho.len x h
  have hn : (l'.map (·.1)).Nodup := (hp.map _).nodup_iff.2 (withA_nodup lo l hl.2)
  refine ⟨hb, ?_, ?_⟩
  · have := nodup_le 16 (l'.map (·.1)) hn (fun x hx => by
      obtain ⟨y, hy, rfl⟩ := List.mem_map.1 hx
      exact hb.num y hy)
    rwa [List.length_map] at this
  · rw [List.pairwise_map]
    rw [List.Nodup, List.pairwise_map] at hn
    exact (hs.and hn).imp fun {a b} h => by have h1 := h.1; have h2 := h.2; omega
theorem withA_sub : ∀ (r out : List Blob) {x : Blob}, x ∈ out → x ∈ withA out r
  | [], _, _, h => h
  | b :: r, out, x, h => by
    rw [withA]
    split
    · exact withA_sub r _ (List.mem_append_left _ h)
    · exact withA_sub r _ h
theorem swap_ne {l lo l' : List Blob} (h : l ≠ []) (hp : l'.Perm (withA l lo)) : l' ≠ [] := fun e => by
  obtain ⟨x, hx⟩ := List.exists_mem_of_ne_nil l h
  have := hp.mem_iff.2 (withA_sub lo l hx)
  rw [e] at this
  cases this
def StepG (m : Nat) (s : SrvS) (ix : Key) (s' : SrvS) : Prop :=
  (s'.slots = s.slots ∧ s'.room = s.room) ∧
  ((SrvG m s' ∧ s'.st.disk.stops = s.st.disk.stops ∧ (∀ nm, ixOf nm ≠ ix → Sto.look s'.st.recs nm = Sto.look s.st.recs nm) ∧ ∀ ix', ix' ≠ ix → (ofL s'.tab ix').Perm (ofL s.tab ix')) ∨
   (s.st.disk.stops = true ∧ ∃ l, SrvX m s' l ∧ ∀ nm, ixOf nm ≠ ix → Sto.look l nm = Sto.look s.st.recs nm))
theorem StepG.refl {m : Nat} {s : SrvS} (h : SrvG m s) (ix : Key) : StepG m s ix s := ⟨⟨rfl, rfl⟩, .inl ⟨h, rfl, fun _ _ => rfl, fun _ _ => List.Perm.refl _⟩⟩
theorem StepG.le {m m' : Nat} {s s' : SrvS} {ix : Key} (h : StepG m s ix s') (hm : m ≤ m') : StepG m' s ix s' := by
  refine ⟨h.1, ?_⟩
  rcases h.2 with ⟨a, b⟩ | ⟨a, l, b, c⟩
  · exact .inl ⟨a.le hm, b⟩
  · exact .inr ⟨a, l, b.le hm, c⟩
theorem StepG.trans {m : Nat} {s s1 s' : SrvS} {ix : Key} (h1 : s1.slots = s.slots ∧ s1.room = s.room) (h2 : s1.st.disk.stops = s.st.disk.stops) (h3 : ∀ nm, ixOf nm ≠ ix → Sto.look s1.st.recs nm = Sto.look s.st.recs nm) (h4 : ∀ ix', ix' ≠ ix → (ofL s1.tab ix').Perm (ofL s.tab ix')) (h : StepG m s1 ix s') : StepG m s ix s' := by
  refine ⟨⟨h.1.1.trans h1.1, h.1.2.trans h1.2⟩, ?_⟩
  rcases h.2 with ⟨a, b, c, d⟩ | ⟨a, l, b, c⟩
  · exact .inl ⟨a, b.trans h2, fun nm hn => (c nm hn).trans (h3 nm hn), fun ix' hn => (d ix' hn).trans (h4 ix' hn)⟩
  · exact .inr ⟨h2 ▸ a, l, b, fun nm hn => (c nm hn).trans (h3 nm hn)⟩
theorem upd_other {f : Look} {nm nm' : ByteArray} {x : Option (List UInt8)} {ix : Key} (h : ixOf nm = ix) (hn : ixOf nm' ≠ ix) : upd f nm x nm' = f nm' := by
  unfold upd
  rw [if_neg (fun e => hn (by rw [e]; exact h))]
theorem layR_slots {s s' : SrvS} {ix : Key} {l2 : List Les} {err : Int} (h : LayR s ix l2 err s') : s'.slots = s.slots ∧ s'.room = s.room := by
  obtain ⟨out, _, _, e⟩ := h
  subst e
  split <;> exact ⟨rfl, rfl⟩
theorem SrvG.stepAdd {m : Nat} {s : SrvS} (h : SrvG m s) (hm : m < 1000000) {ix sec : Key} (hix : ix.length = 16) (hsec : sec.length = 16) {e err : Int} {s' : SrvS} (hl : AddSrv s ix sec e err s') : StepG (m + 1) s ix s' := by
  have hsl : s'.slots = s.slots ∧ s'.room = s.room := by
    cases hl with
    | full _ => exact ⟨rfl, rfl⟩
    | laid _ _ _ _ hy => exact layR_slots hy
  rcases h.add hm hix hsec hl with ⟨_, e, _⟩ | ⟨l2, out, ha, hR, h0, hc⟩
  · rw [e]; exact (StepG.refl h ix).le (Nat.le_succ m)
  · rcases hc with ⟨_, hg, ht, hk, hst⟩ | ⟨_, e⟩ | ⟨_, hst, l, hx, hk⟩
    · exact ⟨hsl, .inl ⟨hg, hst, fun nm hn => by rw [hk]; exact upd_other (ixOf_lease hix) hn, fun ix' hn => by rw [ht]; exact ha.other hn⟩⟩
    · rw [e]; exact (StepG.refl h ix).le (Nat.le_succ m)
    · refine ⟨hsl, .inr ⟨hst, l, hx, fun nm hn => ?_⟩⟩
      rcases hk with hk | hk
      · exact hk nm
      · rw [hk]; exact upd_other (ixOf_lease hix) hn
theorem SrvG.stepCan {m : Nat} {s : SrvS} (h : SrvG m s) (hm : m < 1000000) {ix sec : Key} (hix : ix.length = 16) {err : Int} {s' : SrvS} (hl : CanSrv s ix sec err s') : StepG (m + 1) s ix s' := by
  cases hl with
  | no _ => exact (StepG.refl h ix).le (Nat.le_succ m)
  | laid l2 _ _ ha hy =>
    have hsl := layR_slots hy
    obtain ⟨out, hR, hc⟩ := h.lay hm hix (ha.good h.good) (fun x hx => h.wf x (ha.sub x hx)) (fun ix' hn => ha.other hn) hy
    rcases hc with ⟨_, hg, ht, hk, hst⟩ | ⟨_, e⟩ | ⟨_, hst, l, hx, hk⟩
    · exact ⟨hsl, .inl ⟨hg, hst, fun nm hn => by rw [hk]; exact upd_other (ixOf_lease hix) hn, fun ix' hn => by rw [ht]; exact ha.other hn⟩⟩
    · rw [e]; exact (StepG.refl h ix).le (Nat.le_succ m)
    · refine ⟨hsl, .inr ⟨hst, l, hx, fun nm hn => ?_⟩⟩
      rcases hk with hk | hk
      · exact hk nm
      · rw [hk]; exact upd_other (ixOf_lease hix) hn
theorem SrvG.stepRec {m : Nat} {s : SrvS} (h : SrvG m s) (hm : m + 1 < 1000000) {ix : Key} (hix : ix.length = 16) {name : ByteArray} {data : List UInt8} (hr : RecOk name data) (hn : ∀ ix, name ≠ leaseN ix) (hi : ixOf name = ix) :
    ((putR s.st name data).1 ≠ 0 → StepG (m + 2) s ix { s with st := (putR s.st name data).2 }) ∧
    ((putR s.st name data).1 = 0 → ∀ (sec : Key) (e err : Int) (s' : SrvS), sec.length = 16 → AddSrv { s with st := (putR s.st name data).2 } ix sec e err s' → StepG (m + 2) s ix s') := by
  rcases h.put (by omega) hr hn with ⟨h0, hg, hk, hst⟩ | ⟨h0, e⟩ | ⟨h0, hst, l, hx, hk⟩
  · refine ⟨fun hne => absurd h0 hne, fun _ sec e err s' hsec ha => ?_⟩
    exact StepG.trans (s1 := { s with st := (putR s.st name data).2 }) ⟨rfl, rfl⟩ hst (fun nm hn => by show Sto.look (putR s.st name data).2.recs nm = _; rw [hk]; exact upd_other hi hn) (fun _ _ => List.Perm.refl _) (hg.stepAdd (by omega) hix hsec ha)
  · refine ⟨fun _ => ?_, fun h1 => by omega⟩
    rw [e]
    exact (StepG.refl h ix).le (by omega)
  · refine ⟨fun _ => ⟨⟨rfl, rfl⟩, .inr ⟨hst, l, hx.le (by omega), fun nm hn => ?_⟩⟩, fun h1 => by omega⟩
    rcases hk with hk | hk
    · exact hk nm
    · rw [hk]; exact upd_other hi hn
theorem SrvG.stepDo {m : Nat} {s : SrvS} (h : SrvG m s) (hm : m + 1 < 1000000) {r : Req} (hr : r.Wf) {l : List Blob} (hz : ∀ x ∈ l, x.2.length ≤ 16384) {ts : List Tst} {o : Option (Key × List Blob)} (ho : ContIs s r.ix o) {err : Int} {lb : List Blob} {s' : SrvS} (hR : DoR s r l ts o err lb s') : StepG (m + 2) s r.ix s' := by
  have href := (StepG.refl h r.ix).le (show m ≤ m + 2 by omega)
  cases hR with
  | dead _ => exact href
  | form _ _ => exact href
  | get _ _ => exact href
  | slot _ _ => exact href
  | put _ _ err s' hp =>
    cases hp with
    | form _ => exact href
    | no _ _ _ _ _ _ _ _ => exact href
    | torn n data hl hn _ _ _ h0 =>
      have hd := hz (((n : Nat) : Int), data) (by rw [hl]; simp)
      exact (h.stepRec hm hr.ix (RecOk.share r.ix n data hr.ix hn hd) (fun ix => share_lease) (ixOf_share n hr.ix)).1 h0
    | put n data err s' hl hn _ _ _ h0 hs =>
      have hd := hz (((n : Nat) : Int), data) (by rw [hl]; simp)
      exact (h.stepRec hm hr.ix (RecOk.share r.ix n data hr.ix hn hd) (fun ix => share_lease) (ixOf_share n hr.ix)).2 h0 _ _ _ _ hr.sec hs
    | there n data err s' _ _ _ _ _ hs => exact (h.stepAdd (by omega) hr.ix hr.sec hs).le (by omega)
  | swap _ _ err s' hp =>
    have hlo := (contL_ok ho).1
    have hel : (enOf r o).length = 16 := by
      unfold enOf
      split
      · exact contK_len ho
      · exact hr.en
    cases hp with
    | form _ => exact href
    | enable _ _ _ => exact href
    | test _ _ _ => exact href
    | no _ _ _ _ _ _ _ _ _ => exact href
    | torn hf _ _ l' hp hs _ h0 =>
      obtain ⟨a1, a2, a3⟩ := swap_ok hf.2.1 hz hlo hp hs
      exact (h.stepRec hm hr.ix (RecOk.slot r.ix (enOf r o) l' hr.ix hel a1 a2 a3 (swap_ne hf.1 hp)) (fun ix => slot_lease) (ixOf_slot hr.ix)).1 h0
    | put hf _ _ l' hp hs err s' _ h0 hs' =>
      obtain ⟨a1, a2, a3⟩ := swap_ok hf.2.1 hz hlo hp hs
      exact (h.stepRec hm hr.ix (RecOk.slot r.ix (enOf r o) l' hr.ix hel a1 a2 a3 (swap_ne hf.1 hp)) (fun ix => slot_lease) (ixOf_slot hr.ix)).2 h0 _ _ _ _ hr.sec hs'
  | renew _ _ err s' hp =>
    cases hp with
    | none _ => exact href
    | form _ _ => exact href
    | add err s' _ _ hs => exact (h.stepAdd (by omega) hr.ix hr.sec hs).le (by omega)
  | cancel _ _ err s' hp => exact (h.stepCan (by omega) hr.ix hp).le (by omega)
end Go.Mem
end
section
namespace Go.Mem
open Go Go.ChangeShapes Go.WideShapes Go.ChangeAt Go.RowKit Gf Lea
def TstR (_ : World) (cs : List Value) (t : Tst) : Prop := cs = tstV t ∧ t.want.length = 32
def BloR (W : World) (cs : List Value) (x : Blob) : Prop := ∃ v, cs = [.int .i64 x.1, v] ∧ Bys W v x.2
structure ReqR (W : World) (cs : List Value) (a : Req × List Tst × List Blob) : Prop where
  cs : cs = reqV a.1
  wf : a.1.Wf
  ts : Sls 34 TstR W a.1.vt a.2.1
  bl : Sls 2 BloR W a.1.vb a.2.2
structure Act16 where
  dw : Int
  now : Int
  at_ : Int
  keep : Int
  r : Req
  ts : List Tst
  bl : List Blob
structure Act16R (W : World) (cs : List Value) (a : Act16) : Prop where
  dw : cs[0]? = some (.int .i64 a.dw)
  dwr : -9223372036854775808 ≤ a.dw ∧ a.dw ≤ 9223372036854775807
  now : cs[1]? = some (.int .i64 a.now)
  nowr : -9223372036854775808 ≤ a.now ∧ a.now ≤ 9223372036854775807
  at_ : cs[2]? = some (.int .i64 a.at_)
  atr : -9223372036854775808 ≤ a.at_ ∧ a.at_ ≤ 9223372036854775807
  keep : cs[3]? = some (.int .i64 a.keep)
  keepr : -9223372036854775808 ≤ a.keep ∧ a.keep ≤ 9223372036854775807
  r : ReqR W ((cs.drop 4).take 52) (a.r, a.ts, a.bl)
theorem cut_at {α : Type} (l : List α) (o c : Nat) {X : List α} (h : (l.drop o).take c = X) : l.drop o = X ++ l.drop (o + c) := by
  rw [← h, ← List.drop_drop, List.take_append_drop]
theorem BloR.below {w w' : World} {cs : List Value} {d : Blob} (hb : Below w.heap.size w w') (h : BloR w cs d) : BloR w' cs d := by
  obtain ⟨v, h1, h2⟩ := h
  exact ⟨v, h1, h2.below hb⟩
theorem ReqR.below {w w' : World} {cs : List Value} {a : Req × List Tst × List Blob} (hb : Below w.heap.size w w') (h : ReqR w cs a) : ReqR w' cs a :=
  ⟨h.cs, h.wf, h.ts.below (fun _ _ _ _ _ h => h) hb, h.bl.below (fun _ _ _ _ hb h => h.below hb) hb⟩
theorem Act16R.below {w w' : World} {cs : List Value} {a : Act16} (hb : Below w.heap.size w w') (h : Act16R w cs a) : Act16R w' cs a :=
  ⟨h.dw, h.dwr, h.now, h.nowr, h.at_, h.atr, h.keep, h.keepr, h.r.below hb⟩
theorem opens_tst {P : Program} {t ti tb th t8 : TypeId} {f0 f1 f2 : Field} (ht : P.underlying t = some (.struct #[f0, f1, f2])) (hi : P.underlying ti = some (.int .i64)) (hb : P.underlying tb = some .bool) (hk : P.underlying th = some (.array 32 t8)) (h8 : P.underlying t8 = some (.int .u8))
    (e0 : f0.type = ti) (e1 : f1.type = tb) (e2 : f2.type = th) (o0 : f0.offset = 0) (o1 : f1.offset = 1) (o2 : f2.offset = 2) (ci : P.cellsOf ti = 1) (cb : P.cellsOf tb = 1) (ck : P.cellsOf th = 32) (c8 : P.cellsOf t8 = 1) (ct : P.cellsOf t = 34) : Opens P t TstR := fun {_ _ W _ _ _ _ cs x} h => by
  have hl := opens_size ht h
  rw [ct] at hl
  obtain ⟨z0, r0, _⟩ := opens_field ht h 0 f0 rfl (by rw [e0]; exact opens_i64 hi)
  obtain ⟨b1, r1⟩ := opens_field ht h 1 f1 rfl (by rw [e1]; exact opens_bool hb)
  obtain ⟨k2, l2, r2⟩ := opens_field ht h 2 f2 rfl (by rw [e2]; exact opens_key hk h8 c8 ck)
  rw [e0, ci, o0] at r0; rw [e1, cb, o1] at r1; rw [e2, ck, o2] at r2
  refine ⟨⟨z0, b1, k2⟩, ?_, l2⟩
  have h0 : cs = cs.drop 0 := rfl
  rw [h0, cut_at cs 0 1 r0, cut_at cs (0 + 1) 1 r1, cut_at cs (0 + 1 + 1) 32 r2, List.drop_eq_nil_of_le (by omega)]
  simp [tstV]
theorem opens_blo {P : Program} {t ti tb t8 : TypeId} {f0 f1 : Field} (ht : P.underlying t = some (.struct #[f0, f1])) (hi : P.underlying ti = some (.int .i64)) (hb : P.underlying tb = some (.slice t8)) (h8 : P.underlying t8 = some (.int .u8))
    (e0 : f0.type = ti) (e1 : f1.type = tb) (o0 : f0.offset = 0) (o1 : f1.offset = 1) (ci : P.cellsOf ti = 1) (cb : P.cellsOf tb = 1) (c8 : P.cellsOf t8 = 1) (ct : P.cellsOf t = 2) : Opens P t BloR := fun {_ _ W _ _ _ _ cs x} h => by
  have hl := opens_size ht h
  rw [ct] at hl
  obtain ⟨z0, r0, _⟩ := opens_field ht h 0 f0 rfl (by rw [e0]; exact opens_i64 hi)
  obtain ⟨bs, v, r1, hv⟩ := opens_field ht h 1 f1 rfl (by rw [e1]; exact opens_bytes hb h8 c8)
  rw [e0, ci, o0] at r0; rw [e1, cb, o1] at r1
  refine ⟨(z0, bs), v, ?_, hv⟩
  have h0 : cs = cs.drop 0 := rfl
  rw [h0, cut_at cs 0 1 r0, cut_at cs (0 + 1) 1 r1, List.drop_eq_nil_of_le (by omega)]
  rfl
theorem opens_req {P : Program} {t ti tk t8 tt tts tb tbs : TypeId} {f0 f1 f2 f3 f4 f5 f6 : Field} (ht : P.underlying t = some (.struct #[f0, f1, f2, f3, f4, f5, f6])) (hi : P.underlying ti = some (.int .i64)) (hk : P.underlying tk = some (.array 16 t8)) (h8 : P.underlying t8 = some (.int .u8))
    (hts : P.underlying tts = some (.slice tt)) (hbs : P.underlying tbs = some (.slice tb)) (hT : Opens P tt TstR) (hB : Opens P tb BloR) (ctt : P.cellsOf tt = 34) (ctb : P.cellsOf tb = 2)
    (e0 : f0.type = ti) (e1 : f1.type = tk) (e2 : f2.type = tk) (e3 : f3.type = ti) (e4 : f4.type = tk) (e5 : f5.type = tts) (e6 : f6.type = tbs)
    (o0 : f0.offset = 0) (o1 : f1.offset = 1) (o2 : f2.offset = 17) (o3 : f3.offset = 33) (o4 : f4.offset = 34) (o5 : f5.offset = 50) (o6 : f6.offset = 51)
    (ci : P.cellsOf ti = 1) (ck : P.cellsOf tk = 16) (c5 : P.cellsOf tts = 1) (c6 : P.cellsOf tbs = 1) (c8 : P.cellsOf t8 = 1) (ct : P.cellsOf t = 52) : Opens P t ReqR := fun {_ _ W _ _ _ _ cs x} h => by
  have hl := opens_size ht h
  rw [ct] at hl
  obtain ⟨z0, r0, _⟩ := opens_field ht h 0 f0 rfl (by rw [e0]; exact opens_i64 hi)
  obtain ⟨k1, l1, r1⟩ := opens_field ht h 1 f1 rfl (by rw [e1]; exact opens_key hk h8 c8 ck)
  obtain ⟨k2, l2, r2⟩ := opens_field ht h 2 f2 rfl (by rw [e2]; exact opens_key hk h8 c8 ck)
  obtain ⟨z3, r3, _⟩ := opens_field ht h 3 f3 rfl (by rw [e3]; exact opens_i64 hi)
  obtain ⟨k4, l4, r4⟩ := opens_field ht h 4 f4 rfl (by rw [e4]; exact opens_key hk h8 c8 ck)
  obtain ⟨ts, v5, r5, s5⟩ := opens_field ht h 5 f5 rfl (by rw [e5]; exact opens_slice hts ctt (by decide) hT)
  obtain ⟨bl, v6, r6, s6⟩ := opens_field ht h 6 f6 rfl (by rw [e6]; exact opens_slice hbs ctb (by decide) hB)
  rw [e0, ci, o0] at r0; rw [e1, ck, o1] at r1; rw [e2, ck, o2] at r2; rw [e3, ci, o3] at r3; rw [e4, ck, o4] at r4; rw [e5, c5, o5] at r5; rw [e6, c6, o6] at r6
  refine ⟨(⟨z0, k1, k2, z3, k4, v5, v6⟩, ts, bl), ⟨?_, ⟨l1, l2, l4⟩, s5, s6⟩⟩
  have h0 : cs = cs.drop 0 := rfl
  rw [h0, cut_at cs 0 1 r0, cut_at cs (0 + 1) 16 r1, cut_at cs (0 + 1 + 16) 16 r2, cut_at cs (0 + 1 + 16 + 16) 1 r3, cut_at cs (0 + 1 + 16 + 16 + 1) 16 r4, cut_at cs (0 + 1 + 16 + 16 + 1 + 16) 1 r5, cut_at cs (0 + 1 + 16 + 16 + 1 + 16 + 1) 1 r6, List.drop_eq_nil_of_le (by omega)]
  simp [reqV]
theorem opens_act16 {P : Program} {t ti tr : TypeId} {f0 f1 f2 f3 f4 : Field} (ht : P.underlying t = some (.struct #[f0, f1, f2, f3, f4])) (hi : P.underlying ti = some (.int .i64)) (hR : Opens P tr ReqR)
    (e0 : f0.type = ti) (e1 : f1.type = ti) (e2 : f2.type = ti) (e3 : f3.type = ti) (e4 : f4.type = tr) (o0 : f0.offset = 0) (o1 : f1.offset = 1) (o2 : f2.offset = 2) (o3 : f3.offset = 3) (o4 : f4.offset = 4)
    (ci : P.cellsOf ti = 1) (cr : P.cellsOf tr = 52) : Opens P t Act16R := fun {_ _ W _ _ _ _ cs x} h => by
  obtain ⟨z0, r0, b0⟩ := opens_field ht h 0 f0 rfl (by rw [e0]; exact opens_i64 hi)
  obtain ⟨z1, r1, b1⟩ := opens_field ht h 1 f1 rfl (by rw [e1]; exact opens_i64 hi)
  obtain ⟨z2, r2, b2⟩ := opens_field ht h 2 f2 rfl (by rw [e2]; exact opens_i64 hi)
  obtain ⟨z3, r3, b3⟩ := opens_field ht h 3 f3 rfl (by rw [e3]; exact opens_i64 hi)
  obtain ⟨a, r4⟩ := opens_field ht h 4 f4 rfl (by rw [e4]; exact hR)
  rw [e0, ci, o0] at r0; rw [e1, ci, o1] at r1; rw [e2, ci, o2] at r2; rw [e3, ci, o3] at r3; rw [e4, cr, o4] at r4
  have one : ∀ (o : Nat) (v : Value), (cs.drop o).take 1 = [v] → cs[o]? = some v := fun o v e => by
    have := congrArg (fun l => l[0]?) e
    simpa [List.getElem?_take, List.getElem?_drop] using this
  exact ⟨⟨z0, z1, z2, z3, a.1, a.2.1, a.2.2⟩, ⟨one 0 _ r0, b0, one 1 _ r1, b1, one 2 _ r2, b2, one 3 _ r3, b3, r4⟩⟩
end Go.Mem
namespace Go.Proofs.YtbbojbdigiibbaaGreatDoor
open Go Go.RowKit Go.Mem Gf
theorem tst_open : Opens Tryz.prog 66 TstR :=
  opens_tst Tryz.underlying66 Tryz.underlying3 Tryz.underlying4 Tryz.underlying63 Tryz.underlying5 rfl rfl rfl rfl rfl rfl (by kernel_rfl) (by kernel_rfl) (by kernel_rfl) (by kernel_rfl) (by kernel_rfl)
theorem blo_open : Opens Tryz.prog 53 BloR :=
  opens_blo Tryz.underlying53 Tryz.underlying3 Tryz.underlying51 Tryz.underlying5 rfl rfl rfl rfl (by kernel_rfl) (by kernel_rfl) (by kernel_rfl) (by kernel_rfl)
theorem req_open : Opens Tryz.prog 47 ReqR :=
  opens_req Tryz.underlying47 Tryz.underlying3 Tryz.underlying39 Tryz.underlying5 Tryz.underlying45 Tryz.underlying41 tst_open blo_open (by kernel_rfl) (by kernel_rfl) rfl rfl rfl rfl rfl rfl rfl rfl rfl rfl rfl rfl rfl rfl (by kernel_rfl) (by kernel_rfl) (by kernel_rfl) (by kernel_rfl) (by kernel_rfl) (by kernel_rfl)
theorem acts16_open : Opens Tryz.prog 40 (fun W cs (l : List Act16) => ∃ v, cs = [v] ∧ Sls 56 Act16R W v l) :=
  opens_slice Tryz.underlying40 (by kernel_rfl) (by decide)
    (opens_act16 Tryz.underlying50 Tryz.underlying3 req_open rfl rfl rfl rfl rfl rfl rfl rfl rfl rfl (by kernel_rfl) (by kernel_rfl))
end Go.Proofs.YtbbojbdigiibbaaGreatDoor
end
section
namespace Go.Mem
open Go Go.RowKit Gf Lea
theorem Sls.take {c : Nat} {α : Type} {R : World → List Value → α → Prop} {w : World} {a : Option Addr} {n cap : Nat} {l : List α} (h : Sls c R w (.slice a n cap) l) (m : Nat) (hm : m ≤ n) : Sls c R w (.slice a m cap) (l.take m) := by
  obtain ⟨a', cap', e, h1, h2, h3⟩ := h
  injection e with e1 e2 e3
  subst e1 e2 e3
  refine ⟨a, cap, by rw [List.length_take, Nat.min_eq_left hm], by rw [List.length_take]; omega, h2, fun hp => ?_⟩
  rw [List.length_take] at hp
  obtain ⟨b, off, e, h4⟩ := h3 (by omega)
  refine ⟨b, off, e, fun i d hi => h4 i d ?_⟩
  rw [List.getElem?_take] at hi
  split at hi
  · exact hi
  · cases hi
theorem run_append_zero {P : Program} {w : World} (t ty e : TypeId) (i : TypeInfo) (cap : Nat) (a : Option Addr) (ht : P.underlying t = some (.slice e)) (hi : P.info? e = some i) :
    (Builtin.append_ #[t, t] ty #[.slice none 0 0, .slice a 0 cap]).run P w = .ok (.slice none 0 0) w := by
  cases a <;> simp [Builtin.append_, run_underlying ht, sizeOf, typeInfo, hi, Builtin.lenOf, Builtin.firstCells, loadCells, loadCellsFrom]
section
variable {P : Program} {w : World} {ops : Array Oper} {rest : List Oper} {o : Oper} {a : Act} {Q : Exit → Act → World → Prop}
theorem app_zero {t e : TypeId} {z : Value} {size bytes : Nat} (E : ElemK P t e z size bytes) (hgd : o.guard = none) (s x : Operand) (ho : o.op = .call { callee := .builtin .append, args := #[s, x], argTypes := #[t, t] })
    (hs : a.eval s = .slice none 0 0) {ad : Option Addr} {cap : Nat} (hx : a.eval x = .slice ad 0 cap) (h : wpList P ops Q rest (a.put o.dst (.slice none 0 0)) w) : wpList P ops Q (o :: rest) a w := by
  refine wpList_plain hgd fun K hK => ?_
  obtain ⟨i, hi, _⟩ := info_parts E.info
  have hrun := run_append_zero (P := P) (w := w) t o.type e i cap ad E.under hi
  unfold Oper.wp
  simp [execOp, ho, resolve, invoke, builtin, hs, hx, hrun, Result.andThen]
  exact hK _ _ h
end
def WfT (t : Tst) : Prop := t.want.length = 32
theorem ecT : EncK tstV WfT 34 := ⟨fun x h => tstV_len h, fun x v hv => by
  unfold tstV at hv
  rcases List.mem_cons.1 hv with rfl | hv
  · rfl
  · rcases List.mem_cons.1 hv with rfl | hv
    · rfl
    · exact bV_one _ v hv, by decide⟩
theorem tsts_cells {w : World} {a : Option Addr} {n cap : Nat} {ts : List Tst} (h : Sls 34 TstR w (.slice a n cap) ts) (h0 : 0 < n) : ∃ b off, a = some ⟨b, off, none⟩ ∧ b < w.heap.size ∧ ∀ j u, (allV tstV ts)[j]? = some u → w.cell? ⟨b, off + j, none⟩ = some u := by
  obtain ⟨a', cap', e, h1, h2, h3⟩ := h
  injection e with e1 e2 e3
  subst e1 e2 e3
  obtain ⟨b, off, e, h4⟩ := h3 h0
  have hwf : ∀ x ∈ ts, WfT x := fun x hx => by
    obtain ⟨i, hi⟩ := List.mem_iff_getElem?.1 hx
    obtain ⟨cs, _, _, h5⟩ := h4 i x hi
    exact h5.2
  have hc : ∀ j u, (allV tstV ts)[j]? = some u → w.cell? ⟨b, off + j, none⟩ = some u := fun j u hj => by
    have hlt := some_lt hj
    rw [allV_len ecT ts hwf] at hlt
    have hi : j / 34 < ts.length := by omega
    have hp : ts[j / 34]? = some ts[j / 34] := List.getElem?_eq_getElem hi
    obtain ⟨cs, _, h6, h7⟩ := h4 _ _ hp
    have e := allV_get ecT ts hwf _ _ hp (j % 34) (by omega)
    rw [show j / 34 * 34 + j % 34 = j from by omega, hj] at e
    have := h6 (j % 34) u (by rw [h7.1]; exact e.symm)
    rw [show off + j / 34 * 34 + j % 34 = off + j from by omega] at this
    exact this
  refine ⟨b, off, e, ?_, hc⟩
  obtain ⟨cs, h5, h6, h7⟩ := h4 0 ts[0] (List.getElem?_eq_getElem h0)
  exact World.block_lt_of_cell? w _ (h6 0 _ (List.getElem?_eq_getElem (by omega)))
theorem tsts_wf {w : World} {v : Value} {ts : List Tst} (h : Sls 34 TstR w v ts) : ∀ x ∈ ts, WfT x := fun x hx => by
  obtain ⟨i, hi⟩ := List.mem_iff_getElem?.1 hx
  obtain ⟨a', cap', e, h1, h2, h3⟩ := h
  obtain ⟨b, off, e, h4⟩ := h3 (by have := some_lt hi; omega)
  obtain ⟨cs, _, _, h5⟩ := h4 i x hi
  exact h5.2
theorem OwnG.tests {e : TypeId} {w : World} {base : Nat} {v : Value} {ts : List Tst} {N : Nat → Prop} (h : OwnG tstV WfT 34 e w base v ts) (hl : ts.length ≤ 1000000) (hN : ∀ b, base ≤ b → b < w.heap.size → ¬ N b) : TsAt w N v ts := by
  obtain ⟨a, c, rfl⟩ := h.slice
  refine ⟨a, c, rfl, hl, h.wf, fun h0 => ?_⟩
  obtain ⟨g, cap, arr, e2, hb, hB, hc, hm, hs, hcell⟩ := own_blk h.own h0
  injection e2 with e3 e4 e5
  refine ⟨g, 0, e3, hB.lt, hN g hb hB.lt, fun i t ht j u hu => ?_⟩
  have hj : j < 34 := by have := some_lt hu; rw [tstV_len (h.wf t (List.mem_of_getElem? ht))] at this; exact this
  have hi := some_lt ht
  rw [Nat.zero_add, hB.cell, hcell _ (by omega), allV_get ecT ts h.wf i t ht j hj]
  exact hu
end Go.Mem
namespace Go.Proofs.YtbbojbdigiibbaaGreatDoor
open Go Go.RowKit Go.Mem Gf Lea
set_option linter.unusedVariables false
theorem EKt : ElemK Tryz.prog 45 66 (.agg (tstV ⟨0, false, List.replicate 32 0⟩).toArray) 34 48 := ⟨Tryz.underlying45, by kernel_rfl, rfl, by decide⟩
set_option maxRecDepth 100000 in
set_option maxHeartbeats 1000000 in
theorem cutT_calls (v : Value) (ts : List Tst) (n : Nat) (w : World) (h : Sls 34 TstR w v ts) :
    Calls Tryz.prog 49 #[v, .int .i64 n] w fun e w' => (∃ v', e = .returned v' ∧ Sls 34 TstR w v' (ts.take n)) ∧ w = w' := by
  obtain ⟨a, cap, rfl, h1, h2, h3⟩ := id h
  obtain ⟨l, hl'⟩ : ∃ l, l = ts.length := ⟨_, rfl⟩
  rw [← hl'] at h h1 ⊢
  have hl : l ≤ maxLen := Nat.le_trans h1 h2
  have hl2 : (l : Int) ≤ 9223372036854775807 := by unfold maxLen at hl; omega
  have Hl := Lib.hid hl'; have H3 := Lib.hid h3; have H2 := Lib.hid h2; have H0 := Lib.hid h; clear hl' h3 h2 h hl
  by_cases hlt : n < l
  · go_enter Tryz.func49, Tryz.ntmps49
    go_wp2
    go_ret
    refine ⟨⟨_, rfl, ?_⟩, rfl⟩
    show Sls 34 TstR w (.slice a (min (l : Int) (n : Int)).toNat cap) _
    rw [show (min (l : Int) (n : Int)).toNat = n from by omega]
    exact H0.out.take n (by have := Hl.out; omega)
  · go_enter Tryz.func49, Tryz.ntmps49
    go_wp2
    go_ret
    refine ⟨⟨_, rfl, ?_⟩, rfl⟩
    show Sls 34 TstR w (.slice a (min (l : Int) (n : Int)).toNat cap) _
    rw [show (min (l : Int) (n : Int)).toNat = l from by omega, List.take_of_length_le (by have := Hl.out; omega)]
    exact H0.out
set_option maxRecDepth 100000 in
set_option maxHeartbeats 1000000 in
theorem copyT_calls (v : Value) (ts : List Tst) (w : World) (h : Sls 34 TstR w v ts) (hn : ts.length ≤ 1000000) :
    Calls Tryz.prog 48 #[v] w fun e w' => ∃ v', e = .returned v' ∧ OwnG tstV WfT 34 66 w' w.heap.size v' ts ∧ Below w.heap.size w w' := by
  obtain ⟨a, cap, rfl, h1, h2, h3⟩ := id h
  have hwf := tsts_wf h
  obtain ⟨n, hl⟩ : ∃ n, n = ts.length := ⟨_, rfl⟩
  rw [← hl] at h h1 hn ⊢
  rcases Nat.eq_zero_or_pos n with h0 | h0
  · subst h0
    have ht : ts = [] := List.eq_nil_of_length_eq_zero hl.symm
    have HT := Lib.hid ht
    clear h h3 hl ht hwf
    go_enter Tryz.func48, Tryz.ntmps48
    go_wp2_with (at_builtin; refine app_zero EKt rfl _ _ rfl rfl rfl ?_)
    go_wp2
    go_ret
    refine ⟨_, rfl, ?_, Below.refl _ _⟩
    rw [HT.out]
    exact ⟨World.ownsRow_nil _ _ _ _, fun x hx => by cases hx⟩
  · obtain ⟨b, off, rfl, hb, hc⟩ := tsts_cells h h0
    have H := Lib.hid (And.intro hc (And.intro hwf hl))
    clear h h3 hwf hl hc
    go_enter Tryz.func48, Tryz.ntmps48
    go_wp2_with (at_builtin; refine appN_own EKt ecT rfl _ _ rfl rfl (L := b) (off := off) (n := n) (cap := cap) (l := ts) H.out.2.1 rfl H.out.2.2.symm H.out.1 (Nat.le_trans h1 h2) (by omega) ?_)
    intro v' w' ho hb'
    go_wp2
    go_ret
    exact ⟨_, rfl, ho, hb'⟩
set_option maxRecDepth 100000 in
set_option maxHeartbeats 1000000 in
theorem copyB_calls (v : Value) (bs : List UInt8) (w : World) (h : Bys w v bs) (hl : bs.length ≤ 140737488355328) :
    Calls Tryz.prog 47 #[v] w fun e w' => ∃ v', e = .returned v' ∧ OwnB 5 w' w.heap.size v' bs ∧ Below w.heap.size w w' := by
  go_enter Tryz.func47, Tryz.ntmps47
  go_wp2_with (at_builtin; refine app_bytes E8 rfl _ _ rfl (base := w.heap.size) (v := .slice none 0 0) (bs := []) (news := bs) rfl rfl (OwnB.nil _ _ _) h (by simp; omega) (Nat.le_refl _) ?_)
  intro v' w1 hown hg
  go_wp2
  go_ret
  exact ⟨v', rfl, hown, grown_none hg rfl⟩
end Go.Proofs.YtbbojbdigiibbaaGreatDoor
end
