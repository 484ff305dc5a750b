/- The walk of LeaseEnds. -/
import Derived.Test.YtgjabnpngggcmaaLeaEnv
import Derived.Test.YtgjabnpngggcmaaInts
import Derived.Test.YtgjabnpngggcmaaBKeep
namespace Go.Proofs.Ytgjabnpngggcmaa
open Go Go.RowKit Go.Mem Gf Lea
def esOf (xs : List Int) (i : Nat) : List Int := (xs.take i).map fun x => 1 + within x 50
theorem esOf_len {xs : List Int} {i : Nat} (h : i ≤ xs.length) : (esOf xs i).length = i := by
  unfold esOf
  rw [List.length_map, List.length_take]
  omega
theorem esOf_succ {xs : List Int} {i : Nat} {x : Int} (h : xs[i]? = some x) : esOf xs (i + 1) = esOf xs i ++ [1 + within x 50] := by
  unfold esOf
  rw [List.take_add_one, h]
  simp
attribute [local go_sem ↓] Go.wp_at_zero Go.wp_at_succ
theorem keyC_size (v : Value) : (keyC v).size = 16 := by simp [keyC]
theorem cells_agg (c : Array Value) : (Value.agg c).cells = c := rfl
theorem cells_i64 (n : Int) : (Value.int .i64 n).cells = #[.int .i64 n] := rfl
attribute [local irreducible] keyC
attribute [local go_sem] keyC_size cells_agg cells_i64
attribute [local go_sem ↓] build_k0 build_z build_l1 build_lease load_key
attribute [local go_sem] isU8_eq isI64_eq ptrB_eq ptrO_eq ptrIs_eq aggL_eq aggIs_eq readK_drew hasK_drew readK_alloc_past hasK_alloc_past readK_alloc_in hasK_alloc_in
set_option maxRecDepth 100000 in
set_option maxHeartbeats 400000 in
theorem leaseEnds_walk (w : World) (v0 : Value) (xs : List Int) (h0 : Nms w v0 xs) (_hz : ∀ z, z ∈ xs → -9223372036854775808 ≤ z ∧ z ≤ 9223372036854775807) (now0 : Int) (_hn : -9223372036854775808 ≤ now0 ∧ now0 ≤ 9223372036854775807) :
    Calls Try.prog 4 #[v0, .int .i64 now0] w fun e w' => e = .returned (.bool true) ∧ Below w.heap.size w w' := by
  obtain ⟨va, vc, rfl⟩ := h0.eq_slice
  obtain ⟨xn, hxn⟩ : ∃ n, n = xs.length := ⟨_, rfl⟩
  have hxm := h0.len
  rw [← hxn] at h0 hxm ⊢
  have H := Lib.hid (And.intro h0 hxn)
  clear h0 hxn
  go_enter Try.func4, Try.ntmps4
  go_wp2_with fail
  refine (new_calls w).mono ?_
  rintro r w1 ⟨tb, rfl, h1, h2, h3⟩
  have HE0 := Lib.hid (Env.new h1 h2 h3)
  clear h1 h2 h3
  go_wp2_with fail
  refine (within_calls now0 60 (by decide) (by decide) w1).mono ?_
  rintro r w2 ⟨rfl, rfl⟩
  have hw := within_range now0 60 (by decide)
  obtain ⟨now, hnow⟩ : ∃ n, n = within now0 60 := ⟨_, rfl⟩
  rw [← hnow] at hw ⊢
  have hnow0 := hw.1
  have hnow1 := hw.2
  clear hnow hw
  go_upto_region 8 with fail
  generalize hw0 : w1.alloc (.cells _ 26) = w0
  obtain ⟨p6, hp6⟩ : ∃ p, p = w1.heap.size := ⟨_, rfl⟩
  have HE : Hid (Env w w0 tb p6 (.slice none 0 0) []) := by rw [← hw0, hp6]; exact HE0.out
  rw [← hp6]
  clear hw0 HE0 hp6
  go_loopw [7, 8, 9] (fun v7 v8 v9 wr => ∃ (i : Nat) (vt : Value) (lt : List Les), i ≤ 8 ∧ i ≤ xn ∧ v7 = .int .i64 (maxE (esOf xs i)) ∧ v8 = .int .i64 i ∧ v9 = .int .i64 i ∧ Hid (Env w wr tb p6 vt lt ∧ lt.Perm (rowE (esOf xs i)))) (fun _ _ v9 _ => 8 - (intOf v9).toNat)
  case atStart => exact ⟨0, _, [], by omega, by omega, rfl, rfl, rfl, HE.out, List.Perm.refl _⟩
  case round =>
    obtain ⟨i, vt, lt, hi8, hix, rfl, rfl, rfl, G⟩ := hrel
    have HM := Lib.hid (esOf_len (xs := xs) (i := i) (by rw [← H.out.2]; exact hix))
    obtain ⟨mx, hmx⟩ : ∃ m, m = maxE (esOf xs i) := ⟨_, rfl⟩
    rw [← hmx]
    have HMX := Lib.hid hmx
    clear hmx
    have r6 := G.out.1.read
    have h6 := G.out.1.has
    have l6 := G.out.1.key.lt
    go_upto_region 8 with fail
    go_cut [28] (fun s28 wx => ∃ bb : Bool, s28 = .bool bb ∧ (bb = true → i < xn ∧ i < 8) ∧ wr = wx)
    case first =>
      by_cases c1 : i < xn
      · have d1 : decide ((i : Int) < (xn : Int)) = true := by simp; omega
        have d1' : decide (i < xn) = true := by simpa using c1
        go_wp2_with fail
        go_meet
        exact ⟨_, rfl, fun hb => ⟨c1, by simp at hb; omega⟩, rfl⟩
      · have d1 : decide ((i : Int) < (xn : Int)) = false := by simp; omega
        have d1' : decide (i < xn) = false := by simpa using c1
        go_wp2_with fail
        go_meet
        exact ⟨_, rfl, (fun hb => by cases hb), rfl⟩
    case rest =>
    obtain ⟨bb, rfl, hin, rfl⟩ := hcut
    cases bb
    rotate_left
    · obtain ⟨c1, c2⟩ := hin rfl
      clear hin
      obtain ⟨b, off, x, rfl, hx, hc⟩ := H.out.1.at i (by rw [← H.out.2]; exact c1)
      have hcx : wr.cell? ⟨b, off + i, none⟩ = some (.int .i64 x) := by
        rw [G.out.1.bel.cell (p := ⟨b, off + i, none⟩) (World.block_lt_of_cell? w _ hc)]; exact hc
      have i0 : (0 : Int) ≤ (i : Int) := by omega
      have i1 : (i : Int) < (xn : Int) := by omega
      have hwr := within_range x 50 (by decide)
      go_wp2_with fail
      refine (within_calls x 50 (by decide) (by decide) wr).mono ?_
      rintro r w3 ⟨rfl, rfl⟩
      obtain ⟨e, he⟩ : ∃ e, e = within x 50 := ⟨_, rfl⟩
      rw [← he] at hwr ⊢
      have e0 := hwr.1
      have e1 := hwr.2
      have HEE := Lib.hid he
      clear hwr he
      go_wp2_with fail
      have hk : (keyC (.int .u8 (i : Int))).push (.int .i64 (1 + e)) = (encL (secN i, 1 + e)).toArray := by
        rw [keyC_sec (by omega)]
        unfold encL
        simp
      rw [hk]
      refine (add_calls wr tb vt lt z16 (secN i) (1 + e) G.out.1.heap G.out.1.good (by rw [G.out.2.length_eq, rowE_len, HM.out]; omega) z16_len (secN_len i)).mono ?_
      rintro r w4 ⟨b1, v4, l4, rfl, hr, hh, hc4⟩
      have hadd := row_add (l := lt) (l' := l4) (es := esOf xs i) (e := 1 + e) (b := b1) G.out.2 (by rw [HM.out]; exact c2) ⟨by omega, by omega⟩ (by rw [HM.out]; exact hr)
      obtain ⟨rfl, hp4⟩ := hadd
      have HE4 := Lib.hid (G.out.1.tchg hc4 hh (hr.good G.out.1.good))
      have HP4 := Lib.hid hp4
      have HS := Lib.hid (esOf_succ hx.out)
      clear hr hh hc4 hp4 hk hx
      go_wp2_with fail
      go_roundw
      case rel =>
        exact ⟨i + 1, v4, l4, by omega, by omega, by rw [HS.out, maxE_app, ← HMX.out, ← HEE.out], by simp, by simp, HE4.out, by rw [HS.out, ← HEE.out]; exact HP4.out⟩
      case measure =>
        show 8 - ((i : Int) + 1).toNat < 8 - (i : Int).toNat
        omega
    · clear hin
      have HEX := Lib.hid (And.intro G.out.1 (And.intro G.out.2 (And.intro HM.out HMX.out)))
      have HP6 := Lib.hid (And.intro r6 h6)
      clear G HM HMX
      obtain ⟨es, hes⟩ : ∃ es, es = esOf xs i := ⟨_, rfl⟩
      have HES := Lib.hid hes
      rw [← hes] at HEX
      clear hes
      go_wp2_with fail
      refine (add_calls wr tb vt lt z16 (secN 99) 1 HEX.out.1.heap HEX.out.1.good (by rw [HEX.out.2.1.length_eq, rowE_len, HEX.out.2.2.1]; omega) z16_len (secN_len 99)).mono ?_
      rintro r w4 ⟨b1, v4, l4, rfl, hr, hh, hc4⟩
      obtain ⟨hb1, hb2, hb3⟩ := row_full HEX.out.2.1 (by rw [HEX.out.2.2.1]; exact hi8) hr
      rw [HEX.out.2.2.1] at hb1
      have hE4 := HEX.out.1.tchg hc4 hh (hr.good HEX.out.1.good)
      have r64 := hE4.read
      have h64 := hE4.has
      have HE4 := Lib.hid (And.intro hE4 (And.intro hb2 (And.intro hb3 hb1)))
      clear hE4 hb2 hb3 hb1 hr hh hc4
      go_upto_region 16 with fail
      go_cut [69] (fun s69 wx => s69 = .bool false ∧ ∃ v5 l5, Hid (Env w wx tb p6 v5 l5 ∧ l5.Perm (rowE es)))
      case first =>
        cases b1
        · have hi : i = 8 := by have := HE4.out.2.2.2; simp at this; omega
          have d2 : decide ((i : Int) < 8) = false := by simp; omega
          have d2' : decide (i < 8) = false := by simp; omega
          clear hi
          go_wp2_with fail
          go_meet
          exact ⟨rfl, _, l4, HE4.out.1, by rw [HE4.out.2.2.1 (by first | rfl | trivial)]; exact HEX.out.2.1⟩
        · have hi : i < 8 := by have := HE4.out.2.2.2; simpa using this
          have d2 : decide ((i : Int) < 8) = true := by simp; omega
          have d2' : decide (i < 8) = true := by simp; omega
          go_wp2_with fail
          refine (cancel_calls w4 tb v4 l4 z16 (secN 99) HE4.out.1.heap (by rw [(HE4.out.2.1 (by first | rfl | trivial)).length_eq, List.length_append, HEX.out.2.1.length_eq, rowE_len, HEX.out.2.2.1]; simp; omega) z16_len (secN_len 99)).mono ?_
          rintro r w5 ⟨b5, v5, l5, rfl, hr5, hh5, hc5⟩
          obtain ⟨rfl, hp5⟩ := row_cancel HEX.out.2.1 (by rw [HEX.out.2.2.1]; exact hi8) (HE4.out.2.1 (by first | rfl | trivial)) hr5
          have HE5 := Lib.hid (HE4.out.1.tchg hc5 hh5 (hr5.good HE4.out.1.good))
          have HP5 := Lib.hid (hp5.trans HEX.out.2.1)
          clear hr5 hh5 hc5 hp5
          go_wp2_with fail
          go_meet
          exact ⟨rfl, _, l5, HE5.out, HP5.out⟩
      case rest =>
      obtain ⟨rfl, v5, l5, HE5⟩ := hcut
      have r65 := HE5.out.1.read
      have h65 := HE5.out.1.has
      have HI := Lib.hid (And.intro HEX.out.2.2.1 HEX.out.2.2.2)
      clear r64 h64 HE4 HEX HP6
      have hl5 : l5.length ≤ 8 := by rw [HE5.out.2.length_eq, rowE_len, HI.out.1]; exact hi8
      go_wp2_with fail
      refine (living_calls wc tb v5 l5 z16 now HE5.out.1.heap.tab (by omega) z16_len (HE5.out.1.few z16)).mono ?_
      rintro r w6 ⟨bL, rfl, hbL, hB6⟩
      have hbL2 : decide (now < mx) = bL := by
        have h1 := hbL.trans (row_living HE5.out.2 hnow0)
        rw [← HI.out.2] at h1
        cases bL
        · simpa using h1
        · simpa using h1
      have HE6 := Lib.hid (HE5.out.1.below hB6)
      have HBL := Lib.hid hbL2
      clear hbL hB6 r65 h65 hbL2
      go_wp2_with fail
      refine (ended_calls w6 tb v5 l5 now HE6.out.heap (by omega) (fun ix => HE6.out.few ix)).mono ?_
      rintro r w7 ⟨vo, R, v7, l7, rfl, hO7, hR7, hh7, hc7⟩
      obtain ⟨ra, rc, rfl⟩ := hO7.slice
      have hE7 := HE6.out.tchg hc7 hh7 ((HE6.out.good.sub List.filter_sublist).perm hR7.perm)
      have r67 := hE7.read
      have h67 := hE7.has
      have HE7 := Lib.hid (And.intro hE7 hR7)
      obtain ⟨rl, hrl⟩ : ∃ rl, rl = R.length := ⟨_, rfl⟩
      have HRL := Lib.hid hrl
      rw [← hrl]
      clear hrl hO7 hh7 hc7 hE7 hR7
      go_upto_region 22 with fail
      go_loopw [14, 15] (fun v14 v15 wx => ∃ j : Nat, j ≤ i ∧ v14 = .int .i64 (leftN (esOf xs j) now) ∧ v15 = .int .i64 j ∧ w7 = wx) (fun _ v15 _ => i - (intOf v15).toNat)
      case atStart => exact ⟨0, by omega, rfl, rfl, rfl⟩
      case round =>
        obtain ⟨j, hji, rfl, rfl, rfl⟩ := hrel
        obtain ⟨lf, hlf⟩ : ∃ lf, lf = leftN (esOf xs j) now := ⟨_, rfl⟩
        have hlfj : lf ≤ j := by
          rw [hlf]
          unfold leftN
          refine Nat.le_trans (List.length_filter_le _ _) ?_
          rw [esOf_len (by rw [← H.out.2]; omega)]
          exact Nat.le_refl _
        rw [← hlf]
        by_cases cj : j < i
        · obtain ⟨b, off, x, rfl, hx, hc⟩ := H.out.1.at j (by rw [← H.out.2]; omega)
          have hcx : w7.cell? ⟨b, off + j, none⟩ = some (.int .i64 x) := by
            rw [HE7.out.1.bel.cell (p := ⟨b, off + j, none⟩) (World.block_lt_of_cell? w _ hc)]; exact hc
          have i0 : (0 : Int) ≤ (j : Int) := by omega
          have i1 : (j : Int) < (xn : Int) := by omega
          have hwr := within_range x 50 (by decide)
          have HS := Lib.hid (esOf_succ hx.out)
          have HLF := Lib.hid hlf
          clear hlf hx hc
          go_wp2_with fail
          refine (within_calls x 50 (by decide) (by decide) w7).mono ?_
          rintro r w8 ⟨rfl, rfl⟩
          obtain ⟨e, he⟩ : ∃ e, e = within x 50 := ⟨_, rfl⟩
          rw [← he] at hwr ⊢
          have e0 := hwr.1
          have e1 := hwr.2
          have HEE := Lib.hid he
          clear hwr he
          by_cases ce : now < 1 + e
          · have d1 : decide (now < 1 + e) = true := by simpa using ce
            have CE := Lib.hid ce
            go_wp2_with fail
            exact ⟨⟨j + 1, by omega, by rw [HS.out, leftN_app, ← HLF.out, if_pos (by rw [← HEE.out]; exact CE.out)]; simp, by simp, trivial⟩, by show i - ((j : Int) + 1).toNat < i - (j : Int).toNat; omega⟩
          · have d1 : decide (now < 1 + e) = false := by simpa using ce
            have CE := Lib.hid ce
            go_wp2_with fail
            exact ⟨⟨j + 1, by omega, by rw [HS.out, leftN_app, ← HLF.out, if_neg (by have := CE.out; rw [← HEE.out]; omega)]; simp, by simp, trivial⟩, by show i - ((j : Int) + 1).toNat < i - (j : Int).toNat; omega⟩
        · have hj : j = i := by omega
          subst hj
          rw [← HES.out] at hlf
          have htold := row_told HE5.out.2 HE7.out.2
          rw [HI.out.1, ← HRL.out, ← hlf] at htold
          have hleft := row_left HE5.out.2 HE7.out.2.perm
          rw [← hlf] at hleft
          have HT := Lib.hid (And.intro htold (And.intro hleft hlf))
          have hbl := HBL.out
          have hl7 : l7.length ≤ 90000 := by
            rw [HE7.out.2.perm.length_eq]
            have : (left l5 now).length ≤ l5.length := List.length_filter_le _ _
            omega
          clear hlf htold hleft
          have hcase : (((rl : Int) == 1) = false ∧ j = 0 ∧ lf = 0) ∨ (((rl : Int) == 1) = true ∧ 0 < j ∧ lf = 0) ∨ (((rl : Int) == 1) = false ∧ 0 < j ∧ 0 < lf) := by
            have := HT.out.1
            rcases Nat.eq_zero_or_pos j with h1 | h1
            · refine .inl ⟨?_, h1, by omega⟩
              simp; omega
            · rcases Nat.eq_zero_or_pos lf with h2 | h2
              · refine .inr (.inl ⟨?_, h1, h2⟩)
                simp; omega
              · refine .inr (.inr ⟨?_, h1, h2⟩)
                simp; omega
          have HCL : Hid (∀ bb : Bool, (bb = true ↔ Lives l7 z16 now) → bb = decide (0 < lf)) := fun bb hb => by
            have := hb.trans HT.out.2.1
            cases bb
            · symm; simpa using this
            · symm; simpa using this
          have HEND : Hid (∀ wz, Below w7.heap.size w7 wz → Below w.heap.size w wz) := fun wz hz => HE7.out.1.bel.trans (hz.mono HE7.out.1.bel.size)
          rcases hcase with ⟨f1, g1, g2⟩ | ⟨f1, g1, g2⟩ | ⟨f1, g1, g2⟩
          · have f2 : decide ((0 : Int) < (j : Int)) = false := by simp; omega
            have f2' : decide (0 < j) = false := by simp; omega
            have f3 : ((lf : Int) == 0) = true := by simp; omega
            have f4 : decide ((0 : Int) < (lf : Int)) = false := by simp; omega
            have f4' : decide (0 < lf) = false := by simp; omega
            clear g1 g2
            go_wp2_with fail
            refine (of_calls w7 tb v7 l7 z16 HE7.out.1.heap.tab (by omega) z16_len (HE7.out.1.few z16)).mono ?_
            rintro r w8 ⟨vo, out, rfl, hO, hR, hB8⟩
            obtain ⟨po, co, rfl⟩ := hO.slice
            have hout := row_of HE5.out.2 HE7.out.2.perm hR
            rw [← HT.out.2.2] at hout
            rw [hout]
            have HE8 := Lib.hid (HE7.out.1.below hB8)
            have r68 := HE8.out.read
            have h68 := HE8.out.has
            have HB8 := Lib.hid hB8
            clear hO hR hout hB8
            go_wp2_with fail
            refine (living_calls w8 tb v7 l7 z16 now HE8.out.heap.tab (by omega) z16_len (HE8.out.few z16)).mono ?_
            rintro r w9 ⟨b4, rfl, hb4, hB9⟩
            have hb4' := HCL.out b4 hb4
            rw [f4'] at hb4'
            subst hb4'
            have HB9 := Lib.hid (HB8.out.trans (hB9.mono HB8.out.size))
            clear hb4 hB9
            go_wp2_with fail
            refine (wakes_calls w9).mono ?_
            rintro r w10 ⟨rfl, hB10⟩
            have HB10 := Lib.hid (HB9.out.trans (hB10.mono HB9.out.size))
            clear hB10
            go_wp2_with fail
            go_ret
            exact ⟨rfl, HEND.out _ HB10.out⟩
          · have f2 : decide ((0 : Int) < (j : Int)) = true := by simp; omega
            have f2' : decide (0 < j) = true := by simp; omega
            have f3 : ((lf : Int) == 0) = true := by simp; omega
            have f4 : decide ((0 : Int) < (lf : Int)) = false := by simp; omega
            have f4' : decide (0 < lf) = false := by simp; omega
            clear g1 g2
            go_wp2_with fail
            refine (of_calls w7 tb v7 l7 z16 HE7.out.1.heap.tab (by omega) z16_len (HE7.out.1.few z16)).mono ?_
            rintro r w8 ⟨vo, out, rfl, hO, hR, hB8⟩
            obtain ⟨po, co, rfl⟩ := hO.slice
            have hout := row_of HE5.out.2 HE7.out.2.perm hR
            rw [← HT.out.2.2] at hout
            rw [hout]
            have HE8 := Lib.hid (HE7.out.1.below hB8)
            have r68 := HE8.out.read
            have h68 := HE8.out.has
            have HB8 := Lib.hid hB8
            clear hO hR hout hB8
            go_wp2_with fail
            refine (living_calls w8 tb v7 l7 z16 now HE8.out.heap.tab (by omega) z16_len (HE8.out.few z16)).mono ?_
            rintro r w9 ⟨b4, rfl, hb4, hB9⟩
            have hb4' := HCL.out b4 hb4
            rw [f4'] at hb4'
            subst hb4'
            have HB9 := Lib.hid (HB8.out.trans (hB9.mono HB8.out.size))
            clear hb4 hB9
            go_wp2_with fail
            refine (wakes_calls w9).mono ?_
            rintro r w10 ⟨rfl, hB10⟩
            have HB10 := Lib.hid (HB9.out.trans (hB10.mono HB9.out.size))
            clear hB10
            go_wp2_with fail
            go_ret
            exact ⟨rfl, HEND.out _ HB10.out⟩
          · have f2 : decide ((0 : Int) < (j : Int)) = true := by simp; omega
            have f2' : decide (0 < j) = true := by simp; omega
            have f3 : ((lf : Int) == 0) = false := by simp; omega
            have f4 : decide ((0 : Int) < (lf : Int)) = true := by simp; omega
            have f4' : decide (0 < lf) = true := by simp; omega
            clear g1 g2
            go_wp2_with fail
            refine (of_calls w7 tb v7 l7 z16 HE7.out.1.heap.tab (by omega) z16_len (HE7.out.1.few z16)).mono ?_
            rintro r w8 ⟨vo, out, rfl, hO, hR, hB8⟩
            obtain ⟨po, co, rfl⟩ := hO.slice
            have hout := row_of HE5.out.2 HE7.out.2.perm hR
            rw [← HT.out.2.2] at hout
            rw [hout]
            have HE8 := Lib.hid (HE7.out.1.below hB8)
            have r68 := HE8.out.read
            have h68 := HE8.out.has
            have HB8 := Lib.hid hB8
            clear hO hR hout hB8
            go_wp2_with fail
            refine (living_calls w8 tb v7 l7 z16 now HE8.out.heap.tab (by omega) z16_len (HE8.out.few z16)).mono ?_
            rintro r w9 ⟨b4, rfl, hb4, hB9⟩
            have hb4' := HCL.out b4 hb4
            rw [f4'] at hb4'
            subst hb4'
            have HB9 := Lib.hid (HB8.out.trans (hB9.mono HB8.out.size))
            clear hb4 hB9
            go_wp2_with fail
            refine (wakes_calls w9).mono ?_
            rintro r w10 ⟨rfl, hB10⟩
            have HB10 := Lib.hid (HB9.out.trans (hB10.mono HB9.out.size))
            clear hB10
            go_wp2_with fail
            go_ret
            exact ⟨rfl, HEND.out _ HB10.out⟩
end Go.Proofs.Ytgjabnpngggcmaa
