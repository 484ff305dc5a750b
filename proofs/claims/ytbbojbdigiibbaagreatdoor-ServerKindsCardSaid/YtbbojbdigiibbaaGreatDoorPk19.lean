/- Texts of this proof, packed: ServerKindsWalk, OpenKey, TabOf. -/
import Derived.Test.YtbbojbdigiibbaaGreatDoorPk18
import Derived.Test.YtbbojbdigiibbaaGreatDoorPk08
import Derived.Test.YtbbojbdigiibbaaGreatDoorRows
import Derived.Test.YtbbojbdigiibbaaGreatDoorPk02
import Derived.Lib.LaidTab
import Derived.LaidMore
section
namespace Go.Proofs.YtbbojbdigiibbaaGreatDoor
open Go Go.RowKit Go.Mem Gf Lea
set_option linter.unusedVariables false
set_option linter.unusedSimpArgs false
theorem build_req_ttc (dst : Option Tmp) (i0 : Nat) (x0 : Operand) (i1 : Nat) (x1 : Operand) (i2 : Nat) (c2 : Value) (ty : TypeId) (pos : String) (af : Array Edge) (gd : Option (Tmp × Bool)) (a : Act) (w : World) (K : Act → World → Prop) (Q : Exit → Act → World → Prop) (h : reqFit a [(i0, x0), (i1, x1), (i2, .const c2)] = true) :
    Oper.wp Tryz.prog ⟨dst, .build 47 #[(i0, x0), (i1, x1), (i2, .const c2)], ty, pos, af, gd⟩ a w K Q = K (a.put dst (.agg (reqOf a [(i0, x0), (i1, x1), (i2, .const c2)]).V.toArray)) w := build_req dst [(i0, x0), (i1, x1), (i2, .const c2)] ty pos af gd a w K Q h
attribute [local irreducible] RF.V zk reqV cat8
attribute [local go_sem ↓] Go.wp_at_zero Go.wp_at_succ
attribute [local go_sem ↓] load_reqS load_keyS build_req_ttc build_req_ct build_req_cct slice_reqs8
attribute [local go_sem] Value.oneCell' reqOf reqFit List.foldl_cons List.foldl_nil List.all_cons List.all_nil rfs0 rfs1 rfs2 rfs3 rfs4 rfs5 rfs6 rfz ok0 ok1 ok2 ok3 ok4 ok5 ok6 fld_reply0 fld_reply1
attribute [local go_sem] ptrB_eq ptrO_eq ptrIs_eq aggL_eq aggIs_eq readK_drew someK_drew readK_alloc_past kindZ_eq kindZ_size
set_option maxRecDepth 20000 in
set_option maxHeartbeats 4000000 in
theorem serverKinds_walk (w : World) (hT : Tab w) (kind : Int) (_hk : -9223372036854775808 ≤ kind ∧ kind ≤ 9223372036854775807) (ix : Key) (hix : ix.length = 16) (n : Int) (_hn : -9223372036854775808 ≤ n ∧ n ≤ 9223372036854775807) (va : Value) (l : List Act16) (ha : Sls 56 Act16R w va l) :
    Calls Tryz.prog 4 #[.int .i64 kind, .agg (bV ix).toArray, .int .i64 n, va] w fun e w' => e = .returned (.bool true) ∧ Below w.heap.size w w' := by
  obtain ⟨aa, ac, rfl⟩ := ha.eq_slice
  obtain ⟨len, hlen⟩ : ∃ q, q = l.length := ⟨_, rfl⟩
  have hl64 := ha.len
  rw [← hlen] at hl64 ha ⊢
  obtain ⟨ck, hck⟩ : ∃ q, q = bV ix := ⟨_, rfl⟩
  have hckl : ck.length = 16 := by rw [hck, bV_len]; exact hix
  rw [← hck]
  have HT := Lib.hid (And.intro hT (And.intro ha (And.intro hlen (And.intro hck (And.intro hckl hix)))))
  clear hT ha _hk _hn hlen hck hckl hix
  go_enter Tryz.func4, Tryz.ntmps4
  go_upto_region 1 with fail
  have hk5 : Blk (w.alloc (.cells ck.toArray 39)) w.heap.size ck.toArray 39 := Blk.new _ _ _
  have hb5 : Below w.heap.size w (w.alloc (.cells ck.toArray 39)) := (Below.refl _ _).alloc (Nat.le_refl _) _
  obtain ⟨wk, hwk⟩ : ∃ q, q = w.alloc (.cells ck.toArray 39) := ⟨_, rfl⟩
  rw [← hwk] at hk5 hb5 ⊢
  obtain ⟨p5, hp5⟩ : ∃ q, q = w.heap.size := ⟨_, rfl⟩
  rw [← hp5] at hk5 ⊢
  have HK := Lib.hid (And.intro hk5 (And.intro hb5 hp5))
  clear hk5 hb5 hp5 hwk
  go_wp2_with fail
  refine (srvnew_calls 6 8 wk (HT.out.1.below HK.out.2.1) (by omega) (by omega) (by omega)).mono ?_
  rintro e w1 ⟨pb, C, rfl, hS, hC, hb1⟩
  have HG := freshS_good 6 8 (by omega) (by omega)
  have H0 := Lib.hid (And.intro (show SrvL wk w1 C pb (freshS 6 8) from ⟨hS, hb1, hC⟩) HG)
  clear hS hC hb1 HG
  go_upto_block 0 with fail
  go_cut [] (fun wx => Hid (∃ C s, SrvL wk wx C pb s ∧ SrvG 12 s ∧ s.st.disk.stops = false))
  case first =>
    go_upto_region 5 with fail
    go_loopw [11] (fun vi wr => ∃ i : Nat, i ≤ 6 ∧ i ≤ len ∧ vi = .int .i64 i ∧ Hid (∃ C s, SrvL wk wr C pb s ∧ SrvG (2 * i) s ∧ s.st.disk.stops = false)) (fun vi _ => 6 - (intOf vi).toNat)
    case atStart => exact ⟨0, Nat.zero_le _, Nat.zero_le _, rfl, C, _, H0.out.1, H0.out.2.1, H0.out.2.2.2⟩
    case round =>
      obtain ⟨i, hi6, hil, rfl, G⟩ := hrel
      obtain ⟨C, s, hL, hg, hst⟩ := G.out
      have HL := Lib.hid (And.intro hL (And.intro hg hst))
      clear G hL hg hst
      have i0 : (0 : Int) ≤ (i : Int) := by omega
      have h0i : (((i : Int) < (len : Int)) = True ∧ ((i : Int) < 6) = True) ∨ ((i : Int) < (len : Int)) = False ∨ (((i : Int) < (len : Int)) = True ∧ ((i : Int) < 6) = False) := by
        by_cases c : i < len
        · by_cases c2 : i < 6
          · exact .inl ⟨eq_true (by omega), eq_true (by omega)⟩
          · exact .inr (.inr ⟨eq_true (by omega), eq_false (by omega)⟩)
        · exact .inr (.inl (eq_false (by omega)))
      rcases h0i with ⟨h0i, h0j⟩ | h0i
      · have hlt : i < len := by have := of_eq_true h0i; omega
        have hlt6 : i < 6 := by have := of_eq_true h0j; omega
        obtain ⟨b, off, a, cs, rfl, hx, hcl, hcs, hA⟩ := HT.out.2.1.at i (by have := HT.out.2.2.1; omega)
        have hblt : b < w.heap.size := World.block_lt_of_cell? w _ (hcs 0 _ (List.getElem?_eq_getElem (by omega)))
        have hb0 : Below w.heap.size w wr := HK.out.2.1.trans (HL.out.1.bel.mono HK.out.2.1.size)
        obtain ⟨hsm, hrd⟩ := hA.req_at (w := wr) (b := b) (o := off + i * 56) (fun j v hj => (hb0.cell (p := ⟨b, off + i * 56 + j, none⟩) hblt).trans (hcs j v hj))
        have hrA := (hA.below hb0).r
        obtain ⟨rv, hrv⟩ : ∃ q, q = reqV a.r := ⟨_, rfl⟩
        rw [← hrv] at hrd
        have HA := Lib.hid (And.intro hrv hrA)
        clear hx hcl hcs hA hblt hb0 hrv hrA
        go_upto_region 7 with fail
        go_wp2_with fail
        refine (show Calls _ _ _ _ _ from (by rw [HA.out.1]; exact small_calls a.r a.ts a.bl wr HA.out.2.wf HA.out.2.ts HA.out.2.bl)).mono ?_
        rintro e w2 ⟨vt, vb, rfl, hts, hbl, hb2⟩
        have HS := Lib.hid (And.intro hts (And.intro hbl hb2))
        clear hts hbl hb2
        go_wp2_with fail
        refine (play_calls (HL.out.1.step HS.out.2.2) HL.out.2.1 HL.out.2.2 (by omega) HA.out.2.wf (B := wr.heap.size) (fun b hb => HL.out.1.old hb) HS.out.1 HS.out.2.1).mono ?_
        rintro e w3 ⟨C', u, err, lb, s', o, rfl, hL, hg, hst, _, _, _⟩
        have HN := Lib.hid (And.intro hL (And.intro hg hst))
        clear hL hg hst
        go_wp2_with fail
        exact ⟨⟨i + 1, by omega, by omega, by simp, C', s', HN.out.1, by rw [show 2 * (i + 1) = 2 * i + 2 from by omega]; exact HN.out.2.1, HN.out.2.2⟩, by show 6 - ((i : Int) + 1).toNat < 6 - (i : Int).toNat; omega⟩
      · have hm : 2 * i ≤ 12 := by omega
        have HL2 := Lib.hid (And.intro HL.out.1 (And.intro (HL.out.2.1.le hm) HL.out.2.2))
        clear HL hm hi6 hil
        rcases h0i with h0i | ⟨h0i, h0j⟩
        · go_wp2_with fail
          go_meet
          exact ⟨C, s, HL2.out⟩
        · go_wp2_with fail
          go_meet
          exact ⟨C, s, HL2.out⟩
  case rest =>
  obtain ⟨C1, s, hL2⟩ := hcut.out
  have HL2 := Lib.hid hL2
  clear hL2 hcut H0
  obtain ⟨fr, hfr⟩ : ∃ q, q = s.st.freeN := ⟨_, rfl⟩
  have HF := Lib.hid hfr
  clear hfr
  go_wp2_with fail
  refine (srvfree_calls C1 (fun _ => False) pb s wc HL2.out.1.srv).mono ?_
  rintro e w2 ⟨rfl, hb2⟩
  rw [← HF.out]
  have H2 := Lib.hid (HL2.out.1.step hb2)
  clear hb2
  have hr5 : readK 16 w2 p5 0 = ck := blk_read0 (HK.out.1.kept H2.out.bel) HT.out.2.2.2.2.1
  have hs5 : SomeK 16 w2 p5 0 := (blk_has (HK.out.1.kept H2.out.bel) (by simp [HT.out.2.2.2.2.1])).some
  obtain ⟨rq, hrq⟩ : ∃ q, q = reqV (kindR kind ix 5 (.slice none 0 0)) := ⟨_, rfl⟩
  have hq1 : RF.V ⟨.int .i64 kind, ck, zk, .int .i64 5, zk, .slice none 0 0, .slice none 0 0⟩ = rq := by rw [hrq, ← kindR_eq, HT.out.2.2.2.1]
  have HQ := Lib.hid hrq
  clear hrq
  obtain ⟨kb, hkb⟩ : ∃ b, b = decide (kind < 1 ∨ 6 < kind) := ⟨_, rfl⟩
  have HB := Lib.hid hkb
  clear hkb
  go_upto_region 9 with fail
  go_cut [52] (fun s52 wx => s52 = .bool kb ∧ w2 = wx)
  case first =>
    by_cases hk1 : kind < 1
    · have e : kb = true := by rw [HB.out]; exact decide_eq_true (.inl hk1)
      subst e
      go_wp2_with fail
      go_meet
      exact ⟨rfl, rfl⟩
    · by_cases hk6 : 6 < kind
      · have e : kb = true := by rw [HB.out]; exact decide_eq_true (.inr hk6)
        subst e
        go_wp2_with fail
        go_meet
        exact ⟨rfl, rfl⟩
      · have e : kb = false := by rw [HB.out]; exact decide_eq_false (fun h => by omega)
        subst e
        go_wp2_with fail
        go_meet
        exact ⟨rfl, rfl⟩
  case rest =>
  obtain ⟨rfl, rfl⟩ := hcut
  go_upto_if 52 with fail
  go_cut [] (fun wx => Hid (∃ C, SrvL wk wx C pb s))
  case first =>
    cases kb with
    | false =>
      go_wp2_with fail
      go_meet
      exact ⟨C1, H2.out⟩
    | true =>
      have hko : kind < 1 ∨ 6 < kind := of_decide_eq_true HB.out.symm
      have HO := Lib.hid hko
      clear hko
      obtain ⟨o, ho⟩ := RecsOk.cont (s := s) HL2.out.2.1.st.recs HL2.out.2.1.st.dead ix
      have HOO := Lib.hid ho
      clear ho
      have hany := H2.out.any (HL2.out.2.1.srvB (by decide)) (by have := HL2.out.2.1.st.writes; omega) (kindR_wf kind 5 (.slice none 0 0) HT.out.2.2.2.2.2) (l := []) (BlAt.nil _ _) (fun _ h => by cases h) (ts := []) (TsAt.nil _ _) (fun _ => HOO.out)
      rw [show reqV (kindR kind ix 5 (.slice none 0 0)) = rq from HQ.out.symm] at hany
      have HY := Lib.hid hany
      clear hany
      have hckl := HT.out.2.2.2.2.1
      go_wp2_with fail
      refine HY.out.mono ?_
      rintro e w3 ⟨C', err, u, lb, s', rfl, _, hR, hL, _⟩
      obtain ⟨rfl, _, rfl⟩ := hR.nokind HL2.out.2.1.live HO.out
      have H3 := Lib.hid hL
      clear hR hL
      go_wp2_with fail
      go_meet
      exact ⟨C', H3.out⟩
  case rest =>
  obtain ⟨C2, hL3⟩ := hcut.out
  have H3 := Lib.hid hL3
  clear hL3 hcut hr5 hs5 H2
  go_upto_region 12 with fail
  go_upto_region 13 with fail
  obtain ⟨rl, hrw, hrb, hrk, hrall⟩ := bads_at wc C2 (fun b hb hC => by have := H3.out.old hC; omega)
  obtain ⟨wq, hwq⟩ : ∃ q, q = (((((((wc.alloc (.cells #[Value.int .i64 0, .slice none 0 0] 53)).alloc (.cells #[Value.int .i64 16, .slice none 0 0] 53)).alloc (.cells #[Value.int .i64 0, .slice none 0 0, .int .i64 1, .slice none 0 0] 53)).alloc (.cells #[Value.int .i64 0, .slice none 0 0, .int .i64 0, .slice none 0 0] 53)).alloc (.cells #[Value.int .i64 0, .slice none 0 0] 53)).alloc (.cells #[Value.int .i64 (-1), .slice none 0 0] 53)).alloc (.cells (cat8 (.agg (reqV (kindR 2 z16 5 (.slice none 0 0))).toArray) (.agg (reqV (kindR 2 z16 0 (.slice (some ⟨wc.heap.size, 0, none⟩) 1 1))).toArray) (.agg (reqV (kindR 2 z16 5 (.slice (some ⟨wc.heap.size + 1, 0, none⟩) 1 1))).toArray) (.agg (reqV (kindR 2 z16 5 (.slice (some ⟨wc.heap.size + 1 + 1, 0, none⟩) 2 2))).toArray) (.agg (reqV (kindR 4 z16 5 (.slice none 0 0))).toArray) (.agg (reqV (kindR 4 z16 5 (.slice (some ⟨wc.heap.size + 1 + 1 + 1, 0, none⟩) 2 2))).toArray) (.agg (reqV (kindR 4 z16 1048577 (.slice (some ⟨wc.heap.size + 1 + 1 + 1 + 1, 0, none⟩) 1 1))).toArray) (.agg (reqV (kindR 4 z16 5 (.slice (some ⟨wc.heap.size + 1 + 1 + 1 + 1 + 1, 0, none⟩) 1 1))).toArray)) 47)) := ⟨_, rfl⟩
  rw [← hwq] at hrb hrk hrall ⊢
  obtain ⟨q6, hq6⟩ : ∃ q, q = wc.heap.size + 1 + 1 + 1 + 1 + 1 + 1 := ⟨_, rfl⟩
  rw [← hq6] at hrk ⊢
  obtain ⟨y1, y2⟩ := within_range n 8 (by decide)
  obtain ⟨k, hk⟩ : ∃ k : Nat, k = (within n 8).toNat := ⟨_, rfl⟩
  have hk2 : within n 8 = (k : Int) := by omega
  have hk8 : k < 8 := by omega
  obtain ⟨r, hr1, hr2, hr3, hr4, hr5⟩ := hrall k hk8
  obtain ⟨hsm, hrd⟩ := reqs_at hrk hrw hr1
  have hrwf := hrw r (List.mem_of_getElem? hr1)
  obtain ⟨bq, hbq⟩ : ∃ q, q = reqV r := ⟨_, rfl⟩
  rw [← hbq] at hrd
  have h4 := H3.out.step hrb
  obtain ⟨o, ho⟩ := RecsOk.cont (s := s) HL2.out.2.1.st.recs HL2.out.2.1.st.dead r.ix
  have hany := h4.any (HL2.out.2.1.srvB (by decide)) (by have := HL2.out.2.1.st.writes; omega) hrwf hr5 (fun x hx => by
    have hsz : ∀ k, k < 8 → ∀ x ∈ (badL k).2.2, x.2.length ≤ 16384 := by decide
    exact hsz k hk8 x hx) (ts := []) (by rw [hr4]; exact TsAt.nil _ _) (fun _ => ho)
  rw [← hbq] at hany
  have H4 := Lib.hid (And.intro h4 (And.intro hk2 (And.intro hr2 (And.intro hr3 hany))))
  have k0 : (0 : Int) ≤ (k : Int) := by omega
  have k8 : (k : Int) < 8 := by omega
  clear hrb hrk hrall hrw hwq hq6 y1 y2 hk hk2 hr1 hr2 hr3 hr4 hr5 hrwf hbq h4 ho hany H3
  go_wp2_with fail
  refine (within_calls n 8 (by decide) (by decide) _).mono ?_
  rintro e w2' ⟨rfl, rfl⟩
  rw [H4.out.2.1]
  go_wp2_with fail
  refine H4.out.2.2.2.2.mono ?_
  rintro e w5 ⟨C', err, u, lb, s', rfl, hO, hR, hL, _⟩
  obtain ⟨rfl, rfl, hss⟩ := badL_form HL2.out.2.1.live k hk8 H4.out.2.2.1 H4.out.2.2.2.1 hR
  obtain rfl := hss.symm
  obtain ⟨ua, uc, rfl, _⟩ := hO.slice
  have H5 := Lib.hid hL
  clear hR hL hO H4 hsm hrd
  rw [List.length_nil]
  go_upto_region 16 with fail
  have hlive := HL2.out.2.1.live
  have hBs := HL2.out.2.1.srvB (by decide)
  have g6 := H5.out.step ((Below.refl w5.heap.size w5).alloc (Nat.le_refl _) (.cells #[Value.int .i64 2, .slice ua 0 uc] 43))
  obtain ⟨w6, hw6⟩ : ∃ q, q = w5.alloc (.cells #[Value.int .i64 2, .slice ua 0 uc] 43) := ⟨_, rfl⟩
  rw [← hw6] at g6 ⊢
  obtain ⟨p14, hp14⟩ : ∃ q, q = w5.heap.size := ⟨_, rfl⟩
  rw [← hp14]
  have hckl := HT.out.2.2.2.2.1
  have hr5 : readK 16 w6 p5 0 = ck := blk_read0 (HK.out.1.kept g6.bel) hckl
  have hs5 : SomeK 16 w6 p5 0 := (blk_has (HK.out.1.kept g6.bel) (by simp [hckl])).some
  obtain ⟨rq1, hrq1⟩ : ∃ q, q = reqV (kindR 1 ix 0 (.slice none 0 0)) := ⟨_, rfl⟩
  have hq2 : RF.V ⟨.int .i64 1, ck, zk, .int .i64 0, zk, .slice none 0 0, .slice none 0 0⟩ = rq1 := by rw [hrq1, ← kindR_eq, HT.out.2.2.2.1]
  have hget := g6.get hlive hBs (kindR_wf 1 0 (.slice none 0 0) HT.out.2.2.2.2.2) rfl
  rw [← hrq1, show (kindR 1 ix 0 (.slice none 0 0)).ix = ix from rfl] at hget
  have H6 := Lib.hid (And.intro g6 (And.intro hget (And.intro hlive hBs)))
  clear g6 hw6 hp14 hrq1 hget hlive hBs hq1
  go_wp2_with fail
  refine H6.out.2.1.mono ?_
  rintro e w7 ⟨u1, rfl, hO1, hb7⟩
  obtain ⟨a1, c1, rfl, _⟩ := hO1.slice
  obtain ⟨l1, hl1⟩ : ∃ q, q = (s.shares ix).length := ⟨_, rfl⟩
  rw [← hl1] at hO1 ⊢
  have g7 := H6.out.1.step hb7
  have H7 := Lib.hid (And.intro g7 (And.intro hO1 hl1))
  clear hO1 hb7 hl1 g7 hr5 hs5 hq2
  go_upto_region 17 with fail
  have hb8 : Below w7.heap.size w7 (w7.alloc (.cells #[Value.int .i64 0, .slice a1 l1 c1] 43)) := (Below.refl _ _).alloc (Nat.le_refl _) _
  have hk8 : Blk (w7.alloc (.cells #[Value.int .i64 0, .slice a1 l1 c1] 43)) w7.heap.size #[Value.int .i64 0, .slice a1 l1 c1] 43 := Blk.new _ _ _
  obtain ⟨w8, hw8⟩ : ∃ q, q = w7.alloc (.cells #[Value.int .i64 0, .slice a1 l1 c1] 43) := ⟨_, rfl⟩
  rw [← hw8] at hb8 hk8 ⊢
  obtain ⟨p15, hp15⟩ : ∃ q, q = w7.heap.size := ⟨_, rfl⟩
  rw [← hp15] at hk8 ⊢
  have g8 := H7.out.1.step hb8
  have hB1 : BlAt w8 (fun _ => False) (.slice a1 l1 c1) (s.shares ix) := BlAt.below ((H7.out.2.1.at (fun b h1 _ h2 => by omega)).mono (fun _ h => h.elim)) hb8
  have hr5 : readK 16 w8 p5 0 = ck := blk_read0 (HK.out.1.kept g8.bel) hckl
  have hs5 : SomeK 16 w8 p5 0 := (blk_has (HK.out.1.kept g8.bel) (by simp [hckl])).some
  obtain ⟨rq2, hrq2⟩ : ∃ q, q = reqV (kindR 3 ix 0 (.slice none 0 0)) := ⟨_, rfl⟩
  have hq3 : RF.V ⟨.int .i64 3, ck, zk, .int .i64 0, zk, .slice none 0 0, .slice none 0 0⟩ = rq2 := by rw [hrq2, ← kindR_eq, HT.out.2.2.2.1]
  obtain ⟨o, ho⟩ := RecsOk.cont (s := s) HL2.out.2.1.st.recs HL2.out.2.1.st.dead ix
  have hslot := g8.slot H6.out.2.2.1 H6.out.2.2.2 (kindR_wf 3 0 (.slice none 0 0) HT.out.2.2.2.2.2) rfl ho
  rw [← hrq2] at hslot
  have H8 := Lib.hid (And.intro g8 (And.intro hslot (And.intro hk8 (And.intro hB1 ho))))
  clear g8 hslot hk8 hB1 hb8 hw8 hp15 hrq2 ho
  go_wp2_with fail
  refine H8.out.2.1.mono ?_
  rintro e w9 ⟨u2, rfl, hO2, hb9⟩
  obtain ⟨a2, c2, rfl, _⟩ := hO2.slice
  obtain ⟨l2, hl2⟩ : ∃ q, q = (contL o).length := ⟨_, rfl⟩
  rw [← hl2] at hO2 ⊢
  have H9 := Lib.hid (And.intro (H8.out.1.step hb9) (And.intro hO2 (And.intro hb9 hl2)))
  clear hO2 hb9 hl2 hr5 hs5 hq3
  go_upto_region 18 with fail
  have hb10 : Below w9.heap.size w9 (w9.alloc (.cells #[Value.int .i64 0, .slice a2 l2 c2] 43)) := (Below.refl _ _).alloc (Nat.le_refl _) _
  have hk10 : Blk (w9.alloc (.cells #[Value.int .i64 0, .slice a2 l2 c2] 43)) w9.heap.size #[Value.int .i64 0, .slice a2 l2 c2] 43 := Blk.new _ _ _
  obtain ⟨w10, hw10⟩ : ∃ q, q = w9.alloc (.cells #[Value.int .i64 0, .slice a2 l2 c2] 43) := ⟨_, rfl⟩
  rw [← hw10] at hb10 hk10 ⊢
  obtain ⟨p16, hp16⟩ : ∃ q, q = w9.heap.size := ⟨_, rfl⟩
  rw [← hp16] at hk10 ⊢
  have g10 := H9.out.1.step hb10
  have hB1 : BlAt w10 (fun _ => False) (.slice a1 l1 c1) (s.shares ix) := (H8.out.2.2.2.1.below H9.out.2.2.1).below hb10
  have hB2 : BlAt w10 (fun _ => False) (.slice a2 l2 c2) (contL o) := BlAt.below ((H9.out.2.1.at (fun b h1 _ h2 => by omega)).mono (fun _ h => h.elim)) hb10
  have hk15 := (H8.out.2.2.1.kept H9.out.2.2.1).kept hb10
  have c150 : w10.cell? ⟨p15, 0, none⟩ = some (.int .i64 0) := hk15.cell 0
  have c151 : w10.cell? ⟨p15, 1, none⟩ = some (.slice a1 l1 c1) := hk15.cell 1
  have c160 : w10.cell? ⟨p16, 0, none⟩ = some (.int .i64 0) := hk10.cell 0
  have c161 : w10.cell? ⟨p16, 1, none⟩ = some (.slice a2 l2 c2) := hk10.cell 1
  have hr5 : readK 16 w10 p5 0 = ck := blk_read0 (HK.out.1.kept g10.bel) hckl
  have hs5 : SomeK 16 w10 p5 0 := (blk_has (HK.out.1.kept g10.bel) (by simp [hckl])).some
  have H10 := Lib.hid (And.intro g10 (And.intro hB1 (And.intro hB2 (And.intro hk15 hk10))))
  clear g10 hB1 hB2 hk15 hk10 hb10 hw10 hp16
  clear c150 c151 c160 c161 hr5 hs5
  have hcel : ∀ w', Below w10.heap.size w10 w' → w'.cell? ⟨p15, 0, none⟩ = some (.int .i64 0) ∧ w'.cell? ⟨p15, 1, none⟩ = some (.slice a1 l1 c1) ∧ w'.cell? ⟨p16, 0, none⟩ = some (.int .i64 0) ∧ w'.cell? ⟨p16, 1, none⟩ = some (.slice a2 l2 c2) := fun w' hb =>
    ⟨(H10.out.2.2.2.1.kept hb).cell 0, (H10.out.2.2.2.1.kept hb).cell 1, (H10.out.2.2.2.2.kept hb).cell 0, (H10.out.2.2.2.2.kept hb).cell 1⟩
  have hkey : ∀ w', Below w10.heap.size w10 w' → w'.rangeAt p5 0 ck := fun w' hb j v hv => by
    rw [(HK.out.1.kept (H10.out.1.step hb).bel).cell, Nat.zero_add]
    simpa using hv
  have hsh : ∀ w', Below w10.heap.size w10 w' → Calls Tryz.prog 23 #[.pointer (some ⟨pb, 0, none⟩), .agg ck.toArray] w' fun e w'' => ∃ u, e = .returned u ∧ (∃ a c, u = .slice a l1 c ∧ BlAt w'' (fun _ => False) u (s.shares ix)) ∧ Below w'.heap.size w' w'' := fun w' hb => by
    rw [HT.out.2.2.2.1]
    refine ((H10.out.1.step hb).shares H6.out.2.2.1 H6.out.2.2.2 ix HT.out.2.2.2.2.2).mono ?_
    rintro e w'' ⟨u, rfl, hO, hb2⟩
    have hB3 : BlAt w'' (fun _ => False) u (s.shares ix) := (hO.at (fun b h1 _ h2 => by omega)).mono (fun _ h => h.elim)
    obtain ⟨a3, c3, rfl, _⟩ := hO.slice
    exact ⟨_, rfl, ⟨a3, c3, by rw [H7.out.2.2], hB3⟩, hb2⟩
  have hsl : ∀ w', Below w10.heap.size w10 w' → Calls Tryz.prog 24 #[.pointer (some ⟨pb, 0, none⟩), .agg ck.toArray] w' fun e w'' => ∃ u, e = .returned u ∧ (∃ a c, u = .slice a l2 c ∧ BlAt w'' (fun _ => False) u (contL o)) ∧ Below w'.heap.size w' w'' := fun w' hb => by
    rw [HT.out.2.2.2.1]
    refine ((H10.out.1.step hb).slotOf H6.out.2.2.1 H6.out.2.2.2 ix HT.out.2.2.2.2.2 H8.out.2.2.2.2).mono ?_
    rintro e w'' ⟨u, rfl, hO, hb2⟩
    have hB3 : BlAt w'' (fun _ => False) u (contL o) := (hO.at (fun b h1 _ h2 => by omega)).mono (fun _ h => h.elim)
    obtain ⟨a3, c3, rfl, _⟩ := hO.slice
    exact ⟨_, rfl, ⟨a3, c3, by rw [H9.out.2.2.2], hB3⟩, hb2⟩
  have hb1c : ∀ w' v, Below w10.heap.size w10 w' → BlAt w' (fun _ => False) v (s.shares ix) → Calls Tryz.prog 22 #[.slice a1 l1 c1, v] w' fun e w'' => e = .returned (.bool true) ∧ Below w'.heap.size w' w'' := fun w' v hb hv => by
    refine (blobseq_calls _ _ _ _ w' (H10.out.2.1.below hb) hv).mono ?_
    rintro e w'' ⟨rfl, k, rfl⟩
    exact ⟨by rw [show decide (s.shares ix = s.shares ix) = true from by simp], below_drewN (Below.refl _ _) k⟩
  have hb2c : ∀ w' v, Below w10.heap.size w10 w' → BlAt w' (fun _ => False) v (contL o) → Calls Tryz.prog 22 #[.slice a2 l2 c2, v] w' fun e w'' => e = .returned (.bool true) ∧ Below w'.heap.size w' w'' := fun w' v hb hv => by
    refine (blobseq_calls _ _ _ _ w' (H10.out.2.2.1.below hb) hv).mono ?_
    rintro e w'' ⟨rfl, k, rfl⟩
    exact ⟨by rw [show decide (contL o = contL o) = true from by simp], below_drewN (Below.refl _ _) k⟩
  have hfc : ∀ w', Below w10.heap.size w10 w' → Calls Tryz.prog 17 #[.pointer (some ⟨pb, 0, none⟩)] w' fun e w'' => e = .returned (.int .i64 fr) ∧ Below w'.heap.size w' w'' := fun w' hb => by
    rw [HF.out]
    exact srvfree_calls _ _ pb s w' (H10.out.1.step hb).srv
  have hwc : ∀ w', Below w10.heap.size w10 w' → Calls Tryz.prog 16 #[] w' fun e w'' => e = .returned (.bool true) ∧ Below w'.heap.size w' w'' := fun w' hb => wakes16_calls w' (H10.out.1.step hb).tab
  refine Tail.wp_region_J 33 (fun k => k == 13 || k == 14 || k == 21 || k == 22 || k == 26 || k == 31) (fun k => if k = 14 then some (.bool true) else if k = 22 then some (.bool true) else if k = 26 then some (.int .i64 fr) else if k = 31 then some (.bool true) else none)
    (fun D z w' => Below w10.heap.size w10 w' ∧ (D 13 = true → ∃ a c, z 13 = .slice a l1 c ∧ BlAt w' (fun _ => False) (z 13) (s.shares ix)) ∧ (D 21 = true → ∃ a c, z 21 = .slice a l2 c ∧ BlAt w' (fun _ => False) (z 21) (contL o)))
    (by kernel_rfl) (by kernel_rfl) (fun k hk => by simp at hk; omega) (fun D z z' w' hz h => ⟨h.1, fun d => by rw [← hz 13 d]; exact h.2.1 d, fun d => by rw [← hz 21 d]; exact h.2.2 d⟩)
    ⟨(Below.refl _ _).drew, (fun h => by cases h), (fun h => by cases h)⟩ (fun z => ?_)
  simp only [List.take_succ_cons, List.take_zero, List.drop_succ_cons, List.drop_zero]
  refine Tail.J_ex (by rfl) (by rfl) ?_
  apply Exists.intro
  refine ⟨fun w => ?_, ?_⟩
  · go_simp <;> with_reducible rfl
  simp only [Act.put, List.setIfInBounds_toArray, List.set_cons_zero, List.set_cons_succ, Nat.reduceAdd, Nat.reduceEqDiff, reduceIte, Option.getD_some, Option.getD_none]
  refine Tail.J_at (by rfl) (by rfl) ?_
  apply Exists.intro
  refine ⟨fun D w' hd hp hJ => ?_, ?_⟩
  · have cc := (hcel w' hJ.1).1
    go_simp <;> with_reducible rfl
  simp only [Act.put, List.setIfInBounds_toArray, List.set_cons_zero, List.set_cons_succ, Nat.reduceAdd, Nat.reduceEqDiff, reduceIte, Option.getD_some, Option.getD_none]
  refine Tail.J_ex (by rfl) (by rfl) ?_
  apply Exists.intro
  refine ⟨fun w => ?_, ?_⟩
  · go_simp <;> with_reducible rfl
  simp only [Act.put, List.setIfInBounds_toArray, List.set_cons_zero, List.set_cons_succ, Nat.reduceAdd, Nat.reduceEqDiff, reduceIte, Option.getD_some, Option.getD_none]
  refine Tail.J_ex (by rfl) (by rfl) ?_
  apply Exists.intro
  refine ⟨fun w => ?_, ?_⟩
  · go_simp <;> with_reducible rfl
  simp only [Act.put, List.setIfInBounds_toArray, List.set_cons_zero, List.set_cons_succ, Nat.reduceAdd, Nat.reduceEqDiff, reduceIte, Option.getD_some, Option.getD_none]
  refine Tail.J_ex (by rfl) (by rfl) ?_
  apply Exists.intro
  refine ⟨fun w => ?_, ?_⟩
  · go_simp <;> with_reducible rfl
  simp only [Act.put, List.setIfInBounds_toArray, List.set_cons_zero, List.set_cons_succ, Nat.reduceAdd, Nat.reduceEqDiff, reduceIte, Option.getD_some, Option.getD_none]
  refine Tail.J_at (by rfl) (by rfl) ?_
  apply Exists.intro
  refine ⟨fun D w' hd hp hJ => ?_, ?_⟩
  · have cc := (hcel w' hJ.1).2.2.1
    go_simp <;> with_reducible rfl
  simp only [Act.put, List.setIfInBounds_toArray, List.set_cons_zero, List.set_cons_succ, Nat.reduceAdd, Nat.reduceEqDiff, reduceIte, Option.getD_some, Option.getD_none]
  refine Tail.J_ex (by rfl) (by rfl) ?_
  apply Exists.intro
  refine ⟨fun w => ?_, ?_⟩
  · go_simp <;> with_reducible rfl
  simp only [Act.put, List.setIfInBounds_toArray, List.set_cons_zero, List.set_cons_succ, Nat.reduceAdd, Nat.reduceEqDiff, reduceIte, Option.getD_some, Option.getD_none]
  refine Tail.J_ex (by rfl) (by rfl) ?_
  apply Exists.intro
  refine ⟨fun w => ?_, ?_⟩
  · go_simp <;> with_reducible rfl
  simp only [Act.put, List.setIfInBounds_toArray, List.set_cons_zero, List.set_cons_succ, Nat.reduceAdd, Nat.reduceEqDiff, reduceIte, Option.getD_some, Option.getD_none]
  refine Tail.J_ex (by rfl) (by rfl) ?_
  apply Exists.intro
  refine ⟨fun w => ?_, ?_⟩
  · go_simp <;> with_reducible rfl
  simp only [Act.put, List.setIfInBounds_toArray, List.set_cons_zero, List.set_cons_succ, Nat.reduceAdd, Nat.reduceEqDiff, reduceIte, Option.getD_some, Option.getD_none]
  refine Tail.J_ex (by rfl) (by rfl) ?_
  apply Exists.intro
  refine ⟨fun w => ?_, ?_⟩
  · go_simp <;> with_reducible rfl
  simp only [Act.put, List.setIfInBounds_toArray, List.set_cons_zero, List.set_cons_succ, Nat.reduceAdd, Nat.reduceEqDiff, reduceIte, Option.getD_some, Option.getD_none]
  refine Tail.J_at (by rfl) (by rfl) ?_
  apply Exists.intro
  refine ⟨fun D w' hd hp hJ => ?_, ?_⟩
  · have cc := (hcel w' hJ.1).2.1
    go_simp <;> with_reducible rfl
  simp only [Act.put, List.setIfInBounds_toArray, List.set_cons_zero, List.set_cons_succ, Nat.reduceAdd, Nat.reduceEqDiff, reduceIte, Option.getD_some, Option.getD_none]
  refine Tail.J_ex (by rfl) (by rfl) ?_
  apply Exists.intro
  refine ⟨fun w => ?_, ?_⟩
  · go_simp <;> with_reducible rfl
  simp only [Act.put, List.setIfInBounds_toArray, List.set_cons_zero, List.set_cons_succ, Nat.reduceAdd, Nat.reduceEqDiff, reduceIte, Option.getD_some, Option.getD_none]
  refine Tail.J_load (by rfl) (by rfl) 39 _ (by rfl) p5 0 (by rfl) ck (fun D w' hd hp hJ => hkey w' hJ.1) Tryz.underlying39 rfl (by rw [hckl]; exact i16) ?_
  simp only [Act.put, List.setIfInBounds_toArray, List.set_cons_zero, List.set_cons_succ, Nat.reduceAdd, Nat.reduceEqDiff, reduceIte, Option.getD_some, Option.getD_none]
  refine Tail.J_call (by rfl) (by rfl) ?_ ?_
  · apply Exists.intro
    apply Exists.intro
    refine ⟨fun w' => ?_, ?_⟩
    · go_simp <;> exact ⟨rfl, rfl⟩
    intro D z' w' hD hz hd hp hJ
    refine (hsh w' hJ.1).mono ?_
    rintro e w'' ⟨u, rfl, ⟨a', c', hu, hbl⟩, hb⟩
    refine ⟨u, rfl, fun c hc => by simp at hc, hJ.1.trans (hb.mono hJ.1.size), fun h => ?_, fun h => ?_⟩
    · exact ⟨a', c', by simpa [Tail.updV] using hu, by simpa [Tail.updV] using hbl⟩
    · obtain ⟨a2', c2', e1, e2⟩ := hJ.2.2 (by simpa [Tail.updB] using h)
      exact ⟨a2', c2', by simpa [Tail.updV] using e1, by simpa [Tail.updV] using e2.below hb⟩
  simp only [Act.put, List.setIfInBounds_toArray, List.set_cons_zero, List.set_cons_succ, Nat.reduceAdd, Nat.reduceEqDiff, reduceIte, Option.getD_some, Option.getD_none]
  refine Tail.J_call (by rfl) (by rfl) ?_ ?_
  · apply Exists.intro
    apply Exists.intro
    refine ⟨fun w' => ?_, ?_⟩
    · go_simp <;> exact ⟨rfl, rfl⟩
    intro D z' w' hD hz hd hp hJ
    have h13 : D 13 = true := hd 13 (by kernel_rfl)
    obtain ⟨a', c', e1, e2⟩ := hJ.2.1 h13
    rw [← hz 13 h13] at e2
    refine (hb1c w' (z 13) hJ.1 e2).mono ?_
    rintro e w'' ⟨rfl, hb⟩
    refine ⟨_, rfl, fun c hc => by simp at hc; rw [← hc], hJ.1.trans (hb.mono hJ.1.size), fun h => ?_, fun h => ?_⟩
    · obtain ⟨a2', c2', e1, e2⟩ := hJ.2.1 (by simpa [Tail.updB] using h)
      exact ⟨a2', c2', by simpa [Tail.updV] using e1, by simpa [Tail.updV] using e2.below hb⟩
    · obtain ⟨a2', c2', e1, e2⟩ := hJ.2.2 (by simpa [Tail.updB] using h)
      exact ⟨a2', c2', by simpa [Tail.updV] using e1, by simpa [Tail.updV] using e2.below hb⟩
  simp only [Act.put, List.setIfInBounds_toArray, List.set_cons_zero, List.set_cons_succ, Nat.reduceAdd, Nat.reduceEqDiff, reduceIte, Option.getD_some, Option.getD_none]
  refine Tail.J_ex (by rfl) (by rfl) ?_
  apply Exists.intro
  refine ⟨fun w => ?_, ?_⟩
  · go_simp <;> with_reducible rfl
  simp only [Act.put, List.setIfInBounds_toArray, List.set_cons_zero, List.set_cons_succ, Nat.reduceAdd, Nat.reduceEqDiff, reduceIte, Option.getD_some, Option.getD_none]
  refine Tail.J_ex (by rfl) (by rfl) ?_
  apply Exists.intro
  refine ⟨fun w => ?_, ?_⟩
  · go_simp <;> with_reducible rfl
  simp only [Act.put, List.setIfInBounds_toArray, List.set_cons_zero, List.set_cons_succ, Nat.reduceAdd, Nat.reduceEqDiff, reduceIte, Option.getD_some, Option.getD_none]
  refine Tail.J_ex (by rfl) (by rfl) ?_
  apply Exists.intro
  refine ⟨fun w => ?_, ?_⟩
  · go_simp <;> with_reducible rfl
  simp only [Act.put, List.setIfInBounds_toArray, List.set_cons_zero, List.set_cons_succ, Nat.reduceAdd, Nat.reduceEqDiff, reduceIte, Option.getD_some, Option.getD_none]
  refine Tail.J_at (by rfl) (by rfl) ?_
  apply Exists.intro
  refine ⟨fun D w' hd hp hJ => ?_, ?_⟩
  · have cc := (hcel w' hJ.1).2.2.2
    go_simp <;> with_reducible rfl
  simp only [Act.put, List.setIfInBounds_toArray, List.set_cons_zero, List.set_cons_succ, Nat.reduceAdd, Nat.reduceEqDiff, reduceIte, Option.getD_some, Option.getD_none]
  refine Tail.J_ex (by rfl) (by rfl) ?_
  apply Exists.intro
  refine ⟨fun w => ?_, ?_⟩
  · go_simp <;> with_reducible rfl
  simp only [Act.put, List.setIfInBounds_toArray, List.set_cons_zero, List.set_cons_succ, Nat.reduceAdd, Nat.reduceEqDiff, reduceIte, Option.getD_some, Option.getD_none]
  refine Tail.J_load (by rfl) (by rfl) 39 _ (by rfl) p5 0 (by rfl) ck (fun D w' hd hp hJ => hkey w' hJ.1) Tryz.underlying39 rfl (by rw [hckl]; exact i16) ?_
  simp only [Act.put, List.setIfInBounds_toArray, List.set_cons_zero, List.set_cons_succ, Nat.reduceAdd, Nat.reduceEqDiff, reduceIte, Option.getD_some, Option.getD_none]
  refine Tail.J_call (by rfl) (by rfl) ?_ ?_
  · apply Exists.intro
    apply Exists.intro
    refine ⟨fun w' => ?_, ?_⟩
    · go_simp <;> exact ⟨rfl, rfl⟩
    intro D z' w' hD hz hd hp hJ
    refine (hsl w' hJ.1).mono ?_
    rintro e w'' ⟨u, rfl, ⟨a', c', hu, hbl⟩, hb⟩
    refine ⟨u, rfl, fun c hc => by simp at hc, hJ.1.trans (hb.mono hJ.1.size), fun h => ?_, fun h => ?_⟩
    · obtain ⟨a2', c2', e1, e2⟩ := hJ.2.1 (by simpa [Tail.updB] using h)
      exact ⟨a2', c2', by simpa [Tail.updV] using e1, by simpa [Tail.updV] using e2.below hb⟩
    · exact ⟨a', c', by simpa [Tail.updV] using hu, by simpa [Tail.updV] using hbl⟩
  simp only [Act.put, List.setIfInBounds_toArray, List.set_cons_zero, List.set_cons_succ, Nat.reduceAdd, Nat.reduceEqDiff, reduceIte, Option.getD_some, Option.getD_none]
  refine Tail.J_call (by rfl) (by rfl) ?_ ?_
  · apply Exists.intro
    apply Exists.intro
    refine ⟨fun w' => ?_, ?_⟩
    · go_simp <;> exact ⟨rfl, rfl⟩
    intro D z' w' hD hz hd hp hJ
    have h21 : D 21 = true := hd 21 (by kernel_rfl)
    obtain ⟨a', c', e1, e2⟩ := hJ.2.2 h21
    rw [← hz 21 h21] at e2
    refine (hb2c w' (z 21) hJ.1 e2).mono ?_
    rintro e w'' ⟨rfl, hb⟩
    refine ⟨_, rfl, fun c hc => by simp at hc; rw [← hc], hJ.1.trans (hb.mono hJ.1.size), fun h => ?_, fun h => ?_⟩
    · obtain ⟨a2', c2', e1, e2⟩ := hJ.2.1 (by simpa [Tail.updB] using h)
      exact ⟨a2', c2', by simpa [Tail.updV] using e1, by simpa [Tail.updV] using e2.below hb⟩
    · obtain ⟨a2', c2', e1, e2⟩ := hJ.2.2 (by simpa [Tail.updB] using h)
      exact ⟨a2', c2', by simpa [Tail.updV] using e1, by simpa [Tail.updV] using e2.below hb⟩
  simp only [Act.put, List.setIfInBounds_toArray, List.set_cons_zero, List.set_cons_succ, Nat.reduceAdd, Nat.reduceEqDiff, reduceIte, Option.getD_some, Option.getD_none]
  refine Tail.J_ex (by rfl) (by rfl) ?_
  apply Exists.intro
  refine ⟨fun w => ?_, ?_⟩
  · go_simp <;> with_reducible rfl
  simp only [Act.put, List.setIfInBounds_toArray, List.set_cons_zero, List.set_cons_succ, Nat.reduceAdd, Nat.reduceEqDiff, reduceIte, Option.getD_some, Option.getD_none]
  refine Tail.J_ex (by rfl) (by rfl) ?_
  apply Exists.intro
  refine ⟨fun w => ?_, ?_⟩
  · go_simp <;> with_reducible rfl
  simp only [Act.put, List.setIfInBounds_toArray, List.set_cons_zero, List.set_cons_succ, Nat.reduceAdd, Nat.reduceEqDiff, reduceIte, Option.getD_some, Option.getD_none]
  refine Tail.J_ex (by rfl) (by rfl) ?_
  apply Exists.intro
  refine ⟨fun w => ?_, ?_⟩
  · go_simp <;> with_reducible rfl
  simp only [Act.put, List.setIfInBounds_toArray, List.set_cons_zero, List.set_cons_succ, Nat.reduceAdd, Nat.reduceEqDiff, reduceIte, Option.getD_some, Option.getD_none]
  refine Tail.J_call (by rfl) (by rfl) ?_ ?_
  · apply Exists.intro
    apply Exists.intro
    refine ⟨fun w' => ?_, ?_⟩
    · go_simp <;> exact ⟨rfl, rfl⟩
    intro D z' w' hD hz hd hp hJ
    refine (hfc w' hJ.1).mono ?_
    rintro e w'' ⟨rfl, hb⟩
    refine ⟨_, rfl, fun c hc => by simp at hc; rw [← hc], hJ.1.trans (hb.mono hJ.1.size), fun h => ?_, fun h => ?_⟩
    · obtain ⟨a2', c2', e1, e2⟩ := hJ.2.1 (by simpa [Tail.updB] using h)
      exact ⟨a2', c2', by simpa [Tail.updV] using e1, by simpa [Tail.updV] using e2.below hb⟩
    · obtain ⟨a2', c2', e1, e2⟩ := hJ.2.2 (by simpa [Tail.updB] using h)
      exact ⟨a2', c2', by simpa [Tail.updV] using e1, by simpa [Tail.updV] using e2.below hb⟩
  simp only [Act.put, List.setIfInBounds_toArray, List.set_cons_zero, List.set_cons_succ, Nat.reduceAdd, Nat.reduceEqDiff, reduceIte, Option.getD_some, Option.getD_none]
  refine Tail.J_ex (by rfl) (by rfl) ?_
  apply Exists.intro
  refine ⟨fun w => ?_, ?_⟩
  · go_simp <;> with_reducible rfl
  simp only [Act.put, List.setIfInBounds_toArray, List.set_cons_zero, List.set_cons_succ, Nat.reduceAdd, Nat.reduceEqDiff, reduceIte, Option.getD_some, Option.getD_none]
  refine Tail.J_ex (by rfl) (by rfl) ?_
  apply Exists.intro
  refine ⟨fun w => ?_, ?_⟩
  · go_simp <;> with_reducible rfl
  simp only [Act.put, List.setIfInBounds_toArray, List.set_cons_zero, List.set_cons_succ, Nat.reduceAdd, Nat.reduceEqDiff, reduceIte, Option.getD_some, Option.getD_none]
  refine Tail.J_ex (by rfl) (by rfl) ?_
  apply Exists.intro
  refine ⟨fun w => ?_, ?_⟩
  · go_simp <;> with_reducible rfl
  simp only [Act.put, List.setIfInBounds_toArray, List.set_cons_zero, List.set_cons_succ, Nat.reduceAdd, Nat.reduceEqDiff, reduceIte, Option.getD_some, Option.getD_none]
  refine Tail.J_ex (by rfl) (by rfl) ?_
  apply Exists.intro
  refine ⟨fun w => ?_, ?_⟩
  · go_simp <;> with_reducible rfl
  simp only [Act.put, List.setIfInBounds_toArray, List.set_cons_zero, List.set_cons_succ, Nat.reduceAdd, Nat.reduceEqDiff, reduceIte, Option.getD_some, Option.getD_none]
  refine Tail.J_call (by rfl) (by rfl) ?_ ?_
  · apply Exists.intro
    apply Exists.intro
    refine ⟨fun w' => ?_, ?_⟩
    · go_simp <;> exact ⟨rfl, rfl⟩
    intro D z' w' hD hz hd hp hJ
    refine (hwc w' hJ.1).mono ?_
    rintro e w'' ⟨rfl, hb⟩
    refine ⟨_, rfl, fun c hc => by simp at hc; rw [← hc], hJ.1.trans (hb.mono hJ.1.size), fun h => ?_, fun h => ?_⟩
    · obtain ⟨a2', c2', e1, e2⟩ := hJ.2.1 (by simpa [Tail.updB] using h)
      exact ⟨a2', c2', by simpa [Tail.updV] using e1, by simpa [Tail.updV] using e2.below hb⟩
    · obtain ⟨a2', c2', e1, e2⟩ := hJ.2.2 (by simpa [Tail.updB] using h)
      exact ⟨a2', c2', by simpa [Tail.updV] using e1, by simpa [Tail.updV] using e2.below hb⟩
  simp only [Act.put, List.setIfInBounds_toArray, List.set_cons_zero, List.set_cons_succ, Nat.reduceAdd, Nat.reduceEqDiff, reduceIte, Option.getD_some, Option.getD_none]
  refine Tail.J_ex (by rfl) (by rfl) ?_
  apply Exists.intro
  refine ⟨fun w => ?_, ?_⟩
  · go_simp <;> with_reducible rfl
  simp only [Act.put, List.setIfInBounds_toArray, List.set_cons_zero, List.set_cons_succ, Nat.reduceAdd, Nat.reduceEqDiff, reduceIte, Option.getD_some, Option.getD_none]
  intro w' hJ
  have HE := Lib.hid (H10.out.1.step hJ.1)
  clear hJ hcel hkey hsh hsl hb1c hb2c hfc hwc
  go_wp2_with fail
  go_ret
  exact ⟨rfl, HK.out.2.1.trans (HE.out.bel.mono HK.out.2.1.size)⟩
end Go.Proofs.YtbbojbdigiibbaaGreatDoor
end
section
namespace Go.Mem
open Go Go.ChangeShapes Go.WideShapes Go.ChangeAt Go.RowKit Gf
theorem okWide_array {P : Program} {w : World} {r : Reach} {base : Nat} {t e : TypeId} {n : Nat} {v : Value} (ht : P.underlying t = some (.array n e)) (h : Value.okWide P w r base t v) : ∃ cs, v = .agg cs ∧ cs.size = P.cellsOf t := by
  simp only [Value.okWide, ht] at h
  obtain ⟨cs, h1, h2, _⟩ := h
  exact ⟨cs, h1, h2⟩
theorem open_key {P : Program} {t t8 : TypeId} {n : Nat} (ht : P.underlying t = some (.array n t8)) (h8 : P.underlying t8 = some (.int .u8)) (c8 : P.cellsOf t8 = 1) (ct : P.cellsOf t = n) {H : Type} {enc : TypeId × Value → H} {W : World} {base : Nat} {spare : Nat → Bool} {held : Bool} {v : Value} {x : DataW H × List MemPlace}
    (hv : ∃ cs, v = .agg cs ∧ cs.size = P.cellsOf t) (h : ∃ fuel, DataW.trod enc P W base spare held fuel t v.cells.toList = some x) : ∃ k : List UInt8, k.length = n ∧ v = .agg (bV k).toArray := by
  obtain ⟨cs, rfl, _⟩ := hv
  obtain ⟨fuel, hf⟩ := h
  obtain ⟨k, h1, h2⟩ := opens_key ht h8 c8 ct hf
  refine ⟨k, h1, ?_⟩
  rw [← h2]
  simp [Value.cells]
end Go.Mem
end
section
namespace Go.Proofs.YtbbojbdigiibbaaGreatDoor
open Go Go.RowKit Go.Mem
theorem tabT : (Tryz.prog.globals[gT]?).map (·.type) = some 295 := by kernel_rfl
theorem tab_of_laid {W : World} (h : laidMetH Tryz.prog [("math/bits.deBruijn32tab", Rows.laid_math_bits_deBruijn32tab), ("math/bits.deBruijn64tab", Rows.laid_math_bits_deBruijn64tab), ("internal/strconv.uint64pow10", Rows.laid_internal_strconv_uint64pow10)] W) : Tab W := by
  rw [MakeChecks.laidMetH_plain _ _ _ (by kernel_rfl)] at h
  obtain ⟨ps, ⟨g0, t0, cs0, f0, p0, q0, hg0, ht0, hv0, hd0, ⟨g1, t1, cs1, f1, p1, q1, hg1, ht1, hv1, hd1, ⟨g2, t2, cs2, f2, p2, q2, hg2, ht2, hv2, hd2, _, _⟩, _⟩, _⟩, _, _⟩ := h
  obtain rfl := Option.some.inj (gT_eq.symm.trans hg2)
  obtain rfl := Option.some.inj (tabT.symm.trans ht2)
  have hd : DataW.trod (fun _ => ()) Tryz.prog W 0 (fun _ => true) false f2 295 cs2.toList = some (Lib.tabData .u64 Lib.pow10Tab, p2) := hd2.trans (by rw [show (Rows.laid_internal_strconv_uint64pow10 : DataW Unit) = Lib.tabData .u64 Lib.pow10Tab from rfl])
  unfold Tab Lib.TabIs
  rw [hv2, ← Lib.cells_of_tab Tryz.underlying295 Tryz.underlying241 (by kernel_rfl) (by kernel_rfl) hd]
end Go.Proofs.YtbbojbdigiibbaaGreatDoor
end
