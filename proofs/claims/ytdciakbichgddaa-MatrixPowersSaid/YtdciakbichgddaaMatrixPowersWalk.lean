/- The walk of the statement MatrixPowers. -/
import Derived.Test.YtdciakbichgddaaMatWakes
import Derived.Test.YtdciakbichgddaaMatRows
import Derived.Test.YtdciakbichgddaaMatPow
namespace Go.Proofs.Ytdciakbichgddaa
open Go Go.RowKit Go.Mem Gf

theorem infoI : (Try.prog.info? 3).map (fun i => (i.zero, i.size, i.bytes)) = some (some (.int .i64 0), 1, 8) := by kernel_rfl

set_option maxRecDepth 20000 in
set_option maxHeartbeats 4000000 in
theorem matrixPowers_walk (w : World) (n : Int) (_hn : -9223372036854775808 ≤ n ∧ n ≤ 9223372036854775807) (k : Int) (_hk : -9223372036854775808 ≤ k ∧ k ≤ 9223372036854775807)
    (vp : Value) (ps : List Int) (hp : Nms w vp ps) (_hpb : ∀ z, z ∈ ps → -9223372036854775808 ≤ z ∧ z ≤ 9223372036854775807) :
    Calls Try.prog 13 #[.int .i64 n, .int .i64 k, vp] w fun e w' => e = .returned (.bool true) ∧ Below w.heap.size w w' := by
  clear _hn _hk _hpb
  obtain ⟨i0, hinf, hz0, hz1, hz2⟩ := info_parts infoI
  have hl := hp.len
  obtain ⟨a, cap, rfl⟩ := hp.eq_slice
  obtain ⟨l, hl'⟩ : ∃ l, l = ps.length := ⟨_, rfl⟩
  rw [← hl'] at hl hp ⊢
  have Hl := Lib.hid hl'; clear hl'
  go_enter Try.func13, Try.ntmps13
  go_wp2_with fail
  refine (within_calls n 12 (by decide) (by decide) _).mono ?_
  rintro e w1 ⟨rfl, rfl⟩
  obtain ⟨hn1, hn2⟩ := within_range n 12 (by decide)
  go_wp2_with fail
  generalize hq : 1 + within n 12 = q at *
  obtain ⟨n', rfl⟩ : ∃ k : Nat, q = k := ⟨q.toNat, by omega⟩
  have n1 : 1 ≤ n' := by omega
  have n2 : n' ≤ 12 := by omega
  clear hq hn1 hn2
  refine (within_calls k n' (by omega) (by omega) _).mono ?_
  rintro e w1 ⟨rfl, rfl⟩
  obtain ⟨hn1, hn2⟩ := within_range k n' (by omega)
  go_wp2_with fail
  generalize hq : 1 + within k n' = q at *
  obtain ⟨k', rfl⟩ : ∃ k : Nat, q = k := ⟨q.toNat, by omega⟩
  have k1 : 1 ≤ k' := by omega
  have k2 : k' ≤ n' := by omega
  clear hq hn1 hn2
  refine (vand_calls n' k' n1 (by omega) k1 (by omega) _).mono ?_
  rintro e w1 ⟨V, iv, rfl, hV, hb1⟩
  have hv := hV.rws (by omega) (by omega)
  have hp := hp.below hb1
  clear hV
  go_wp2_with fail
  go_loopw [8, 9] (fun o v wr => ∃ (i : Nat) (ws : List Int), i ≤ n' ∧ v = .int .i64 i ∧ Pick n' ws ∧ ws.length ≤ k' ∧ wr.ownsRow w1.heap.size 3 1 o ws.length (ws.map (Value.int .i64)) ∧ Below w1.heap.size w1 wr)
    (fun _ v _ => n' - (intOf v).toNat)
  case atStart => exact ⟨0, [], by omega, rfl, Pick.nil _, by simp, World.ownsRow_nil _ _ _ _, Below.refl _ _⟩
  case round =>
    obtain ⟨i, ws, hi, rfl, hpk, hwl, hown, hbel⟩ := hrel
    obtain ⟨lw, hlw⟩ : ∃ n, n = ws.length := ⟨_, rfl⟩
    rw [← hlw] at hown hwl
    have Hlw := Lib.hid hlw; clear hlw
    have hw := nms_of_own hown Hlw.out.symm
    obtain ⟨ao, co, e⟩ := hw.eq_slice
    rw [← Hlw.out] at e
    subst e
    have Hpk := Lib.hid hpk; clear hpk
    by_cases h0 : i < n'
    · by_cases h1 : lw < k'
      · by_cases h2 : i < l
        · obtain ⟨b, off, x, rfl, Hx, c1⟩ := (hp.below hbel).at i (by have := Hl.out; omega)
          go_wp2_with fail
          refine (within_calls x n' (by omega) (by omega) _).mono ?_
          rintro e w2 ⟨rfl, rfl⟩
          obtain ⟨hn1, hn2⟩ := within_range x n' (by omega)
          go_wp2_with fail
          generalize within x n' = J at *
          obtain ⟨wo, hwo⟩ : ∃ wo, wo = wr := ⟨_, rfl⟩
          rw [← hwo] at hown hbel hw ⊢
          clear hwo
          go_loopw [11, 54] (fun o v wi => ∃ m : Nat, m ≤ lw ∧ v = .int .i64 m ∧ o = .bool (decide (J ∈ ws.take m)) ∧ Rd wo wi) (fun _ v _ => lw - (intOf v).toNat)
          case atStart => exact ⟨0, by omega, rfl, by simp, Rd.refl _⟩
          case round =>
            obtain ⟨m, hm, rfl, rfl, hrd⟩ := hrel
            by_cases hml : m < lw
            · obtain ⟨bw, ow, y, rfl, Hy, cy⟩ := (hw.rd hrd).at m (by have := Hlw.out; omega)
              have Hst := Lib.hid (mem_take_snoc (x := J) Hy.out)
              rcases Bool.eq_false_or_eq_true (decide (J ∈ ws.take m)) with hd | hd
              · have Hd := Lib.hid hd
                rw [hd]
                clear hd
                go_wp2
                exact ⟨⟨m + 1, by omega, by go_num, by have e := Hst.out; rw [Hd.out] at e; rw [← e]; rfl, hrd⟩, by simp [intOf]; omega⟩
              · have Hd := Lib.hid hd
                rw [hd]
                clear hd
                go_wp2
                exact ⟨⟨m + 1, by omega, by go_num, by have e := Hst.out; rw [Hd.out, Bool.false_or] at e; rw [← e], hrd⟩, by simp [intOf]; omega⟩
            · obtain rfl : m = lw := by omega
              have hown2 := own_below hown hrd.below
              have hbel2 := Aft.trans hbel hrd.below
              by_cases hJ : J ∈ ws
              · have hd : decide (J ∈ ws.take m) = true := by rw [List.take_of_length_le (by have := Hlw.out; omega)]; simpa using hJ
                rw [hd]
                have HJ := Lib.hid hJ
                clear hd hJ
                go_wp2
                exact ⟨⟨i + 1, ws, by omega, by go_num, Hpk.out, by have := Hlw.out; omega, by rw [← Hlw.out]; exact hown2, hbel2⟩, by simp [intOf]; omega⟩
              · have hd : decide (J ∈ ws.take m) = false := by rw [List.take_of_length_le (by have := Hlw.out; omega)]; simpa using hJ
                rw [hd]
                have HJ := Lib.hid hJ
                clear hd hJ
                have hs2 := hbel2.size
                go_wp2_with (at_builtin; refine wpList_append_own _ rfl _ _ 57 rfl w1.heap.size 3 i0 (.int .i64 0) 1 8 Try.underlying57 hinf hz0 hz1 hz2 rfl (by decide) _ m _ rfl (hown2.alloc _) ⟨wr.heap.size, 0, none⟩ 1 1 [.int .i64 J] rfl rfl ?c1 ?c2 ?c3 ?c4 ?c5 ?_)
                case c1 => intro j u hj; cases j with
                  | zero => simp at hj; subst hj; simp [Addr.add]
                  | succ j => simp at hj
                case c2 => intro u hu; simp at hu; subst hu; rfl
                case c3 => unfold maxLen; omega
                case c4 => omega
                case c5 => simp; omega
                intro v' wn hown' hgrow _
                have hbel3 : Below w1.heap.size w1 wn := Below.grown (hbel2.alloc hs2 _) hgrow (by simp; omega) (fun b hb => (hown2.lt b hb).1)
                have hown3 : wn.ownsRow w1.heap.size 3 1 v' (m + 1) ((ws ++ [J]).map (Value.int .i64)) := by rw [List.map_append]; exact hown'
                go_wp2_with fail
                exact ⟨⟨i + 1, ws ++ [J], by omega, by go_num, Hpk.out.snoc HJ.out (by omega) (by omega), by have := Hlw.out; simp; omega, by rw [show (ws ++ [J]).length = m + 1 from by have := Hlw.out; simp; omega]; exact hown3, hbel3⟩, by simp [intOf]; omega⟩
        · go_wp2_with fail
          obtain ⟨wo, hwo⟩ : ∃ wo, wo = wr := ⟨_, rfl⟩
          rw [← hwo] at hown hbel hw ⊢
          clear hwo
          go_loopw [11, 54] (fun o v wi => ∃ m : Nat, m ≤ lw ∧ v = .int .i64 m ∧ o = .bool (decide ((i : Int) ∈ ws.take m)) ∧ Rd wo wi) (fun _ v _ => lw - (intOf v).toNat)
          case atStart => exact ⟨0, by omega, rfl, by simp, Rd.refl _⟩
          case round =>
            obtain ⟨m, hm, rfl, rfl, hrd⟩ := hrel
            by_cases hml : m < lw
            · obtain ⟨bw, ow, y, rfl, Hy, cy⟩ := (hw.rd hrd).at m (by have := Hlw.out; omega)
              have Hst := Lib.hid (mem_take_snoc (x := (i : Int)) Hy.out)
              rcases Bool.eq_false_or_eq_true (decide ((i : Int) ∈ ws.take m)) with hd | hd
              · have Hd := Lib.hid hd
                rw [hd]
                clear hd
                go_wp2
                exact ⟨⟨m + 1, by omega, by go_num, by have e := Hst.out; rw [Hd.out] at e; rw [← e]; rfl, hrd⟩, by simp [intOf]; omega⟩
              · have Hd := Lib.hid hd
                rw [hd]
                clear hd
                go_wp2
                exact ⟨⟨m + 1, by omega, by go_num, by have e := Hst.out; rw [Hd.out, Bool.false_or] at e; rw [← e], hrd⟩, by simp [intOf]; omega⟩
            · obtain rfl : m = lw := by omega
              have hown2 := own_below hown hrd.below
              have hbel2 := Aft.trans hbel hrd.below
              by_cases hJ : (i : Int) ∈ ws
              · have hd : decide ((i : Int) ∈ ws.take m) = true := by rw [List.take_of_length_le (by have := Hlw.out; omega)]; simpa using hJ
                rw [hd]
                have HJ := Lib.hid hJ
                clear hd hJ
                go_wp2
                exact ⟨⟨i + 1, ws, by omega, by go_num, Hpk.out, by have := Hlw.out; omega, by rw [← Hlw.out]; exact hown2, hbel2⟩, by simp [intOf]; omega⟩
              · have hd : decide ((i : Int) ∈ ws.take m) = false := by rw [List.take_of_length_le (by have := Hlw.out; omega)]; simpa using hJ
                rw [hd]
                have HJ := Lib.hid hJ
                clear hd hJ
                have hs2 := hbel2.size
                go_wp2_with (at_builtin; refine wpList_append_own _ rfl _ _ 57 rfl w1.heap.size 3 i0 (.int .i64 0) 1 8 Try.underlying57 hinf hz0 hz1 hz2 rfl (by decide) _ m _ rfl (hown2.alloc _) ⟨wr.heap.size, 0, none⟩ 1 1 [.int .i64 (i : Int)] rfl rfl ?c1 ?c2 ?c3 ?c4 ?c5 ?_)
                case c1 => intro j u hj; cases j with
                  | zero => simp at hj; subst hj; simp [Addr.add]
                  | succ j => simp at hj
                case c2 => intro u hu; simp at hu; subst hu; rfl
                case c3 => unfold maxLen; omega
                case c4 => omega
                case c5 => simp; omega
                intro v' wn hown' hgrow _
                have hbel3 : Below w1.heap.size w1 wn := Below.grown (hbel2.alloc hs2 _) hgrow (by simp; omega) (fun b hb => (hown2.lt b hb).1)
                have hown3 : wn.ownsRow w1.heap.size 3 1 v' (m + 1) ((ws ++ [(i : Int)]).map (Value.int .i64)) := by rw [List.map_append]; exact hown'
                go_wp2_with fail
                exact ⟨⟨i + 1, ws ++ [(i : Int)], by omega, by go_num, Hpk.out.snoc HJ.out (by omega) (by omega), by have := Hlw.out; simp; omega, by rw [show (ws ++ [(i : Int)]).length = m + 1 from by have := Hlw.out; simp; omega]; exact hown3, hbel3⟩, by simp [intOf]; omega⟩
      · go_wp2_with fail
        go_loopw [8, 13] (fun o v wr => ∃ (j : Nat) (ws : List Int), j ≤ n' ∧ v = .int .i64 j ∧ Pick n' ws ∧ ws.length ≤ k' ∧ (∀ x : Nat, x < j → (x : Int) ∈ ws) ∧ wr.ownsRow w1.heap.size 3 1 o ws.length (ws.map (Value.int .i64)) ∧ Below w1.heap.size w1 wr)
          (fun _ v _ => n' - (intOf v).toNat)
        case atStart => exact ⟨0, ws, by omega, rfl, Hpk.out, by have := Hlw.out; omega, fun x hx => by omega, by rw [← Hlw.out]; exact hown, hbel⟩
        case round =>
          clear hown hbel hw Hlw hwl Hpk
          obtain ⟨j, ws, hj, rfl, hpk, hwl, hall, hown, hbel⟩ := hrel
          obtain ⟨lw, hlw⟩ : ∃ n, n = ws.length := ⟨_, rfl⟩
          rw [← hlw] at hown hwl
          have Hlw := Lib.hid hlw; clear hlw
          have hw := nms_of_own hown Hlw.out.symm
          obtain ⟨ao, co, e⟩ := hw.eq_slice
          rw [← Hlw.out] at e
          subst e
          have Hpk := Lib.hid hpk; clear hpk
          have Hall := Lib.hid hall; clear hall
          by_cases h1 : lw < k'
          · have hjn : j < n' := by
              rcases Nat.lt_or_ge j n' with h | h
              · exact h
              · have := pigeon n' ws (fun x hx => Hall.out x (by omega)); have := Hlw.out; omega
            go_wp2_with fail
            obtain ⟨wo, hwo⟩ : ∃ wo, wo = wr := ⟨_, rfl⟩
            rw [← hwo] at hown hbel hw ⊢
            clear hwo
            go_loopw [14, 81] (fun o v wi => ∃ m : Nat, m ≤ lw ∧ v = .int .i64 m ∧ o = .bool (decide ((j : Int) ∈ ws.take m)) ∧ Rd wo wi) (fun _ v _ => lw - (intOf v).toNat)
            case atStart => exact ⟨0, by omega, rfl, by simp, Rd.refl _⟩
            case round =>
              obtain ⟨m, hm, rfl, rfl, hrd⟩ := hrel
              by_cases hml : m < lw
              · obtain ⟨bw, ow, y, rfl, Hy, cy⟩ := (hw.rd hrd).at m (by have := Hlw.out; omega)
                have Hst := Lib.hid (mem_take_snoc (x := (j : Int)) Hy.out)
                rcases Bool.eq_false_or_eq_true (decide ((j : Int) ∈ ws.take m)) with hd | hd
                · have Hd := Lib.hid hd
                  rw [hd]
                  clear hd
                  go_wp2
                  exact ⟨⟨m + 1, by omega, by go_num, by have e := Hst.out; rw [Hd.out] at e; rw [← e]; rfl, hrd⟩, by simp [intOf]; omega⟩
                · have Hd := Lib.hid hd
                  rw [hd]
                  clear hd
                  go_wp2
                  exact ⟨⟨m + 1, by omega, by go_num, by have e := Hst.out; rw [Hd.out, Bool.false_or] at e; rw [← e], hrd⟩, by simp [intOf]; omega⟩
              · obtain rfl : m = lw := by omega
                have hown2 := own_below hown hrd.below
                have hbel2 := Aft.trans hbel hrd.below
                by_cases hJ : (j : Int) ∈ ws
                · have hd : decide ((j : Int) ∈ ws.take m) = true := by rw [List.take_of_length_le (by have := Hlw.out; omega)]; simpa using hJ
                  rw [hd]
                  have HJ := Lib.hid hJ
                  clear hd hJ
                  go_wp2
                  exact ⟨⟨j + 1, ws, by omega, by go_num, Hpk.out, by have := Hlw.out; omega, fun x hx => by
                    by_cases e : x = j
                    · rw [e]; exact HJ.out
                    · exact Hall.out x (by omega), by rw [← Hlw.out]; exact hown2, hbel2⟩, by simp [intOf]; omega⟩
                · have hd : decide ((j : Int) ∈ ws.take m) = false := by rw [List.take_of_length_le (by have := Hlw.out; omega)]; simpa using hJ
                  rw [hd]
                  have HJ := Lib.hid hJ
                  clear hd hJ
                  have hs2 := hbel2.size
                  go_wp2_with (at_builtin; refine wpList_append_own _ rfl _ _ 57 rfl w1.heap.size 3 i0 (.int .i64 0) 1 8 Try.underlying57 hinf hz0 hz1 hz2 rfl (by decide) _ m _ rfl (hown2.alloc _) ⟨wr.heap.size, 0, none⟩ 1 1 [.int .i64 (j : Int)] rfl rfl ?c1 ?c2 ?c3 ?c4 ?c5 ?_)
                  case c1 => intro j u hj; cases j with
                    | zero => simp at hj; subst hj; simp [Addr.add]
                    | succ j => simp at hj
                  case c2 => intro u hu; simp at hu; subst hu; rfl
                  case c3 => unfold maxLen; omega
                  case c4 => omega
                  case c5 => simp; omega
                  intro v' wn hown' hgrow _
                  have hbel3 : Below w1.heap.size w1 wn := Below.grown (hbel2.alloc hs2 _) hgrow (by simp; omega) (fun b hb => (hown2.lt b hb).1)
                  have hown3 : wn.ownsRow w1.heap.size 3 1 v' (m + 1) ((ws ++ [(j : Int)]).map (Value.int .i64)) := by rw [List.map_append]; exact hown'
                  go_wp2_with fail
                  exact ⟨⟨j + 1, ws ++ [(j : Int)], by omega, by go_num, Hpk.out.snoc HJ.out (by omega) (by omega), by have := Hlw.out; simp; omega, fun x hx => by
                    by_cases e : x = j
                    · rw [e]; simp
                    · exact List.mem_append_left _ (Hall.out x (by omega)), by rw [show (ws ++ [(j : Int)]).length = m + 1 from by have := Hlw.out; simp; omega]; exact hown3, hbel3⟩, by simp [intOf]; omega⟩
          · obtain rfl : lw = k' := by omega
            have hr := mrows_calls (.slice (some ⟨V, 0, none⟩) n' n') (.slice ao lw co) n' lw Vand ws wr (hv.below hbel) hw n1 (by omega) k1 (by omega) (by have := Hlw.out; omega) (by have := Hlw.out; omega) Hpk.out.at
            rw [← Hlw.out] at hr
            have Hr := Lib.hid hr
            clear hr
            go_wp2_with fail
            refine Hr.out.mono ?_
            rintro e w2 ⟨R, ir, rfl, hP, hb2⟩
            have hr := hP.rws (by omega) (by omega)
            clear hP
            go_wp2_with fail
            refine (inverse_calls _ lw _ w2 hr k1 (by omega)).mono ?_
            rintro e w3 (⟨Q, iq, Y, rfl, hP, hQ, hb3⟩ | ⟨rfl, hS, hb3⟩)
            · go_wp2_with fail
              refine (wakes05_calls _).mono ?_
              rintro e w4 ⟨rfl, hb4⟩
              go_wp2
              go_ret
              exact ⟨rfl, (((Aft.trans hb1 hbel).trans hb2).trans hb3).trans hb4⟩
            · exact absurd hS (by have := Hpk.out.not_sing (by omega); rw [← Hlw.out] at this; exact this)
    · go_wp2_with fail
      go_loopw [8, 13] (fun o v wr => ∃ (j : Nat) (ws : List Int), j ≤ n' ∧ v = .int .i64 j ∧ Pick n' ws ∧ ws.length ≤ k' ∧ (∀ x : Nat, x < j → (x : Int) ∈ ws) ∧ wr.ownsRow w1.heap.size 3 1 o ws.length (ws.map (Value.int .i64)) ∧ Below w1.heap.size w1 wr)
        (fun _ v _ => n' - (intOf v).toNat)
      case atStart => exact ⟨0, ws, by omega, rfl, Hpk.out, by have := Hlw.out; omega, fun x hx => by omega, by rw [← Hlw.out]; exact hown, hbel⟩
      case round =>
        clear hown hbel hw Hlw hwl Hpk
        obtain ⟨j, ws, hj, rfl, hpk, hwl, hall, hown, hbel⟩ := hrel
        obtain ⟨lw, hlw⟩ : ∃ n, n = ws.length := ⟨_, rfl⟩
        rw [← hlw] at hown hwl
        have Hlw := Lib.hid hlw; clear hlw
        have hw := nms_of_own hown Hlw.out.symm
        obtain ⟨ao, co, e⟩ := hw.eq_slice
        rw [← Hlw.out] at e
        subst e
        have Hpk := Lib.hid hpk; clear hpk
        have Hall := Lib.hid hall; clear hall
        by_cases h1 : lw < k'
        · have hjn : j < n' := by
            rcases Nat.lt_or_ge j n' with h | h
            · exact h
            · have := pigeon n' ws (fun x hx => Hall.out x (by omega)); have := Hlw.out; omega
          go_wp2_with fail
          obtain ⟨wo, hwo⟩ : ∃ wo, wo = wr := ⟨_, rfl⟩
          rw [← hwo] at hown hbel hw ⊢
          clear hwo
          go_loopw [14, 81] (fun o v wi => ∃ m : Nat, m ≤ lw ∧ v = .int .i64 m ∧ o = .bool (decide ((j : Int) ∈ ws.take m)) ∧ Rd wo wi) (fun _ v _ => lw - (intOf v).toNat)
          case atStart => exact ⟨0, by omega, rfl, by simp, Rd.refl _⟩
          case round =>
            obtain ⟨m, hm, rfl, rfl, hrd⟩ := hrel
            by_cases hml : m < lw
            · obtain ⟨bw, ow, y, rfl, Hy, cy⟩ := (hw.rd hrd).at m (by have := Hlw.out; omega)
              have Hst := Lib.hid (mem_take_snoc (x := (j : Int)) Hy.out)
              rcases Bool.eq_false_or_eq_true (decide ((j : Int) ∈ ws.take m)) with hd | hd
              · have Hd := Lib.hid hd
                rw [hd]
                clear hd
                go_wp2
                exact ⟨⟨m + 1, by omega, by go_num, by have e := Hst.out; rw [Hd.out] at e; rw [← e]; rfl, hrd⟩, by simp [intOf]; omega⟩
              · have Hd := Lib.hid hd
                rw [hd]
                clear hd
                go_wp2
                exact ⟨⟨m + 1, by omega, by go_num, by have e := Hst.out; rw [Hd.out, Bool.false_or] at e; rw [← e], hrd⟩, by simp [intOf]; omega⟩
            · obtain rfl : m = lw := by omega
              have hown2 := own_below hown hrd.below
              have hbel2 := Aft.trans hbel hrd.below
              by_cases hJ : (j : Int) ∈ ws
              · have hd : decide ((j : Int) ∈ ws.take m) = true := by rw [List.take_of_length_le (by have := Hlw.out; omega)]; simpa using hJ
                rw [hd]
                have HJ := Lib.hid hJ
                clear hd hJ
                go_wp2
                exact ⟨⟨j + 1, ws, by omega, by go_num, Hpk.out, by have := Hlw.out; omega, fun x hx => by
                  by_cases e : x = j
                  · rw [e]; exact HJ.out
                  · exact Hall.out x (by omega), by rw [← Hlw.out]; exact hown2, hbel2⟩, by simp [intOf]; omega⟩
              · have hd : decide ((j : Int) ∈ ws.take m) = false := by rw [List.take_of_length_le (by have := Hlw.out; omega)]; simpa using hJ
                rw [hd]
                have HJ := Lib.hid hJ
                clear hd hJ
                have hs2 := hbel2.size
                go_wp2_with (at_builtin; refine wpList_append_own _ rfl _ _ 57 rfl w1.heap.size 3 i0 (.int .i64 0) 1 8 Try.underlying57 hinf hz0 hz1 hz2 rfl (by decide) _ m _ rfl (hown2.alloc _) ⟨wr.heap.size, 0, none⟩ 1 1 [.int .i64 (j : Int)] rfl rfl ?c1 ?c2 ?c3 ?c4 ?c5 ?_)
                case c1 => intro j u hj; cases j with
                  | zero => simp at hj; subst hj; simp [Addr.add]
                  | succ j => simp at hj
                case c2 => intro u hu; simp at hu; subst hu; rfl
                case c3 => unfold maxLen; omega
                case c4 => omega
                case c5 => simp; omega
                intro v' wn hown' hgrow _
                have hbel3 : Below w1.heap.size w1 wn := Below.grown (hbel2.alloc hs2 _) hgrow (by simp; omega) (fun b hb => (hown2.lt b hb).1)
                have hown3 : wn.ownsRow w1.heap.size 3 1 v' (m + 1) ((ws ++ [(j : Int)]).map (Value.int .i64)) := by rw [List.map_append]; exact hown'
                go_wp2_with fail
                exact ⟨⟨j + 1, ws ++ [(j : Int)], by omega, by go_num, Hpk.out.snoc HJ.out (by omega) (by omega), by have := Hlw.out; simp; omega, fun x hx => by
                  by_cases e : x = j
                  · rw [e]; simp
                  · exact List.mem_append_left _ (Hall.out x (by omega)), by rw [show (ws ++ [(j : Int)]).length = m + 1 from by have := Hlw.out; simp; omega]; exact hown3, hbel3⟩, by simp [intOf]; omega⟩
        · obtain rfl : lw = k' := by omega
          have hr := mrows_calls (.slice (some ⟨V, 0, none⟩) n' n') (.slice ao lw co) n' lw Vand ws wr (hv.below hbel) hw n1 (by omega) k1 (by omega) (by have := Hlw.out; omega) (by have := Hlw.out; omega) Hpk.out.at
          rw [← Hlw.out] at hr
          have Hr := Lib.hid hr
          clear hr
          go_wp2_with fail
          refine Hr.out.mono ?_
          rintro e w2 ⟨R, ir, rfl, hP, hb2⟩
          have hr := hP.rws (by omega) (by omega)
          clear hP
          go_wp2_with fail
          refine (inverse_calls _ lw _ w2 hr k1 (by omega)).mono ?_
          rintro e w3 (⟨Q, iq, Y, rfl, hP, hQ, hb3⟩ | ⟨rfl, hS, hb3⟩)
          · go_wp2_with fail
            refine (wakes05_calls _).mono ?_
            rintro e w4 ⟨rfl, hb4⟩
            go_wp2
            go_ret
            exact ⟨rfl, (((Aft.trans hb1 hbel).trans hb2).trans hb3).trans hb4⟩
          · exact absurd hS (by have := Hpk.out.not_sing (by omega); rw [← Hlw.out] at this; exact this)
end Go.Proofs.Ytdciakbichgddaa
