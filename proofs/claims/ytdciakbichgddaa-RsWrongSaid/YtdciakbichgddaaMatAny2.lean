/- Walks of package matrix on any rows: products, rows, images that there are not; copies and cuts. -/
import Derived.Test.YtdciakbichgddaaMatAny
namespace Go.Proofs.Ytdciakbichgddaa
open Go Go.RowKit Go.Mem Gf

set_option maxRecDepth 20000 in
set_option maxHeartbeats 2000000 in
theorem mmul_bad (va vb : Value) (rs bs : List (List UInt8)) (w : World) (ha : Rws w va rs) (hb : Rws w vb bs)
    (hbad : mayB rs = false ∨ (mayB rs = true ∧ mayB bs = false) ∨ (mayB rs = true ∧ mayB bs = true ∧ (rs.getD 0 []).length ≠ bs.length)) :
    Calls Try.prog 48 #[va, vb] w fun e w' => e = .returned (.tuple #[.slice none 0 0, .int .i64 1]) ∧ Below w.heap.size w w' := by
  obtain ⟨aa, capa, rfl⟩ := ha.eq_slice
  obtain ⟨ab, capb, rfl⟩ := hb.eq_slice
  generalize hla : rs.length = la at *
  generalize hlb : bs.length = lb at *
  have Hla := Lib.hid hla; have Hlb := Lib.hid hlb
  clear hla hlb
  go_enter Try.func48, Try.ntmps48
  go_wp2_with fail
  have ca : ((w.alloc (.cells #[.slice aa la capa] 43)).alloc (.cells #[.slice ab lb capb] 43)).cell? ⟨w.heap.size, 0, none⟩ = some (.slice aa la capa) := by
    rw [World.cell?_alloc_past _ _ _ (by simp), World.cell?_alloc_new]; rfl
  have cb : ((w.alloc (.cells #[.slice aa la capa] 43)).alloc (.cells #[.slice ab lb capb] 43)).cell? ⟨w.heap.size + 1, 0, none⟩ = some (.slice ab lb capb) := by
    rw [World.cell?_alloc_at _ _ _ _ (by simp)]; rfl
  have hbel : Below w.heap.size w ((w.alloc (.cells #[.slice aa la capa] 43)).alloc (.cells #[.slice ab lb capb] 43)) :=
    ((Below.refl _ _).alloc (Nat.le_refl _) _).alloc (by simp) _
  generalize hw1 : (w.alloc (.cells #[.slice aa la capa] 43)).alloc (.cells #[.slice ab lb capb] 43) = w1 at *
  clear hw1
  have ha1 := ha.below hbel
  have hb1 := hb.below hbel
  rcases hbad with h1 | ⟨h1, h2⟩ | ⟨h1, h2, h3⟩
  · have H1 := Lib.hid h1
    clear h1
    go_quiet ((go_at_call 74; exact quiet_eq (may_no _ rs _ (ha1.drewN _) H1.out)))
    go_wp2
    go_ret2
    exact ⟨rfl, below_drewN hbel _⟩
  · obtain ⟨n, m, hf, hn, hm, n1, n2, m1, m2⟩ := mayB_form h1
    rw [hf] at ha1
    have H2 := Lib.hid h2
    clear h1 h2 hf hn hm
    go_quiet ((go_at_call 74; first | exact quiet_eq (may_yes _ n m _ _ (ha1.drewN _) n1 n2 m1 m2) | exact quiet_eq (may_no _ bs _ (hb1.drewN _) H2.out)))
    go_wp2
    go_ret2
    exact ⟨rfl, below_drewN hbel _⟩
  · obtain ⟨n, m, hf, hn, hm, n1, n2, m1, m2⟩ := mayB_form h1
    obtain ⟨p, q, hg, hp, hq, p1, p2, q1, q2⟩ := mayB_form h2
    rw [hf] at ha1
    rw [hg] at hb1
    have hlan := Hla.out
    have hlbp := Hlb.out
    rw [hn] at hlan
    rw [hp] at hlbp
    subst hlan hlbp
    rw [hm] at h3
    have t1 : ((m : Int) != (p : Int)) = true := by simp; omega
    have t2 : (m != p) = true := by simp; omega
    clear h1 h2 hf hn hm hg hp hq h3 Hla Hlb
    obtain ⟨ba, oa, a0, ca0, rfl, c0, _⟩ := ha1.row 0 (by omega)
    have c0' : w1.cell? ⟨ba, oa, none⟩ = some (.slice a0 m ca0) := c0
    clear c0
    have n0 : 0 < n := by omega
    have n0' : (0 : Int) < (n : Int) := by omega
    go_quiet ((go_at_call 74; first | exact quiet_eq (may_yes _ n m _ _ (ha1.drewN _) n1 n2 m1 m2) | exact quiet_eq (may_yes _ p q _ _ (hb1.drewN _) p1 p2 q1 q2)))
    go_wp2
    go_ret2
    exact ⟨rfl, below_drewN hbel _⟩

set_option maxRecDepth 20000 in
set_option maxHeartbeats 2000000 in
theorem mrows_bad (va vw : Value) (rs : List (List UInt8)) (ws : List Int) (w : World) (ha : Rws w va rs) (hw : Nms w vw ws) (hl : ws.length ≤ 16)
    (hbad : mayB rs = false ∨ (mayB rs = true ∧ ws = []) ∨ (mayB rs = true ∧ ws ≠ [] ∧ ∃ x, x ∈ ws ∧ (x < 0 ∨ (rs.length : Int) ≤ x))) :
    Calls Try.prog 49 #[va, vw] w fun e w' => e = .returned (.tuple #[.slice none 0 0, .int .i64 1]) ∧ Below w.heap.size w w' := by
  obtain ⟨aa, capa, rfl⟩ := ha.eq_slice
  obtain ⟨aw, capw, rfl⟩ := hw.eq_slice
  generalize hla : rs.length = la at *
  generalize hlw : ws.length = lw at *
  have Hla := Lib.hid hla; have Hlw := Lib.hid hlw
  clear hla hlw
  go_enter Try.func49, Try.ntmps49
  go_wp2_with fail
  have ca : ((w.alloc (.cells #[.slice aa la capa] 43)).alloc (.cells #[.slice aw lw capw] 57)).cell? ⟨w.heap.size, 0, none⟩ = some (.slice aa la capa) := by
    rw [World.cell?_alloc_past _ _ _ (by simp), World.cell?_alloc_new]; rfl
  have cb : ((w.alloc (.cells #[.slice aa la capa] 43)).alloc (.cells #[.slice aw lw capw] 57)).cell? ⟨w.heap.size + 1, 0, none⟩ = some (.slice aw lw capw) := by
    rw [World.cell?_alloc_at _ _ _ _ (by simp)]; rfl
  have hbel : Below w.heap.size w ((w.alloc (.cells #[.slice aa la capa] 43)).alloc (.cells #[.slice aw lw capw] 57)) :=
    ((Below.refl _ _).alloc (Nat.le_refl _) _).alloc (by simp) _
  generalize hw1 : (w.alloc (.cells #[.slice aa la capa] 43)).alloc (.cells #[.slice aw lw capw] 57) = w1 at *
  clear hw1
  have ha1 := ha.below hbel
  have hw1 := hw.below hbel
  rcases hbad with h1 | ⟨h1, h2⟩ | ⟨h1, h2, h3⟩
  · have H1 := Lib.hid h1
    clear h1
    refine (may_no _ rs _ ha1 H1.out).mono ?_
    rintro e w2 ⟨rfl, rfl⟩
    go_wp2
    go_ret2
    exact ⟨rfl, hbel⟩
  · obtain ⟨n, m, hf, hn, hm, n1, n2, m1, m2⟩ := mayB_form h1
    rw [hf] at ha1
    have e0 := Hlw.out
    rw [h2] at e0
    have e1 : lw = 0 := e0.symm
    have hlan := Hla.out
    rw [hn] at hlan
    subst hlan e1
    clear h1 h2 hf hn hm e0
    refine (may_yes _ n m _ _ ha1 n1 n2 m1 m2).mono ?_
    rintro e w2 ⟨rfl, rfl⟩
    go_wp2
    go_ret2
    exact ⟨rfl, hbel⟩
  · obtain ⟨n, m, hf, hn, hm, n1, n2, m1, m2⟩ := mayB_form h1
    rw [hf] at ha1
    have hlan := Hla.out
    rw [hn] at hlan
    subst hlan
    have hlw1 : 1 ≤ lw := by
      have := Hlw.out
      cases ws with
      | nil => exact absurd rfl h2
      | cons x l => simp at this; omega
    have H3 := Lib.hid h3
    clear h1 h2 h3 hf hn hm
    refine (may_yes _ n m _ _ ha1 n1 n2 m1 m2).mono ?_
    rintro e w2 ⟨rfl, rfl⟩
    go_wp2_with fail
    go_loop [23] (fun v => ∃ i : Nat, i ≤ lw ∧ v = .int .i64 i ∧ ∀ q, q ∈ ws.take i → 0 ≤ q ∧ q < (n : Int)) (fun v => lw - (intOf v).toNat)
    case atStart => exact ⟨0, by omega, rfl, fun q hq => by simp at hq⟩
    case round =>
      obtain ⟨i, hi, rfl, hall⟩ := hrel
      have Hall := Lib.hid hall
      clear hall
      by_cases h0 : i < lw
      · obtain ⟨b, off, x, rfl, Hx, c1⟩ := hw1.at i (by have := Hlw.out; omega)
        by_cases hx0 : x < 0
        · go_wp2
          go_ret2
          exact ⟨rfl, hbel⟩
        · by_cases hx1 : x < (n : Int)
          · have t1 : decide ((n : Int) ≤ x) = false := by simp; omega
            have Hx0 := Lib.hid hx0
            go_wp2
            exact ⟨⟨i + 1, by omega, by go_num, fun q hq => by
              rw [List.take_add_one, Hx.out] at hq
              rcases List.mem_append.1 hq with hq | hq
              · exact Hall.out q hq
              · simp at hq; have := Hx0.out; omega⟩, by simp [intOf]; omega⟩
          · have t1 : decide ((n : Int) ≤ x) = true := by simp; omega
            go_wp2
            go_ret2
            exact ⟨rfl, hbel⟩
      · exfalso
        obtain ⟨x, hx, hx2⟩ := H3.out
        have := Hall.out x (by rw [List.take_of_length_le (by have := Hlw.out; omega)]; exact hx)
        omega

set_option maxRecDepth 20000 in
set_option maxHeartbeats 2000000 in
theorem apply_bad (va vv : Value) (rs : List (List UInt8)) (xs : List UInt8) (w : World) (ha : Rws w va rs) (hv : Bys w vv xs)
    (hbad : mayB rs = false ∨ (mayB rs = true ∧ (rs.getD 0 []).length ≠ xs.length)) :
    Calls Try.prog 50 #[va, vv] w fun e w' => e = .returned (.tuple #[.slice none 0 0, .int .i64 1]) ∧ w = w' := by
  obtain ⟨aa, capa, rfl⟩ := ha.eq_slice
  obtain ⟨av, capv, rfl⟩ := hv.eq_slice
  generalize hla : rs.length = la at *
  generalize hlv : xs.length = lv at *
  have Hla := Lib.hid hla
  clear hla hlv
  rcases hbad with h1 | ⟨h1, h2⟩
  · have H1 := Lib.hid h1
    clear h1
    go_enter Try.func50, Try.ntmps50
    go_wp2_with fail
    refine (may_no _ rs _ ha H1.out).mono ?_
    rintro e w2 ⟨rfl, rfl⟩
    go_wp2
    go_ret2
    exact ⟨rfl, rfl⟩
  · obtain ⟨n, m, hf, hn, hm, n1, n2, m1, m2⟩ := mayB_form h1
    rw [hf] at ha
    have hlan := Hla.out
    rw [hn] at hlan
    subst hlan
    rw [hm] at h2
    have t1 : ((m : Int) != (lv : Int)) = true := by simp; omega
    have t2 : (m != lv) = true := by simp; omega
    clear h1 h2 hf hn hm
    obtain ⟨ba, oa, a0, ca0, rfl, c0, _⟩ := ha.row 0 (by omega)
    have c0' : w.cell? ⟨ba, oa, none⟩ = some (.slice a0 m ca0) := c0
    clear c0
    have n0 : 0 < n := by omega
    have n0' : (0 : Int) < (n : Int) := by omega
    go_enter Try.func50, Try.ntmps50
    go_wp2_with fail
    refine (may_yes _ n m _ _ ha n1 n2 m1 m2).mono ?_
    rintro e w2 ⟨rfl, rfl⟩
    go_wp2
    go_ret2
    exact ⟨rfl, rfl⟩

set_option maxHeartbeats 1000000 in
theorem copy8_calls (v : Value) (bs : List UInt8) (w : World) (h : Bys w v bs) (hl : bs.length ≤ 140737488355328) :
    Calls Try.prog 70 #[v] w fun e w' => ∃ v', e = .returned v' ∧ OwnB 5 w' w.heap.size v' bs ∧ Below w.heap.size w w' := by
  go_enter Try.func70, Try.ntmps70
  go_wp2_with (at_builtin; refine app_bytes E8 rfl _ _ rfl (base := w.heap.size) (v := .slice none 0 0) (bs := []) (news := bs) rfl rfl (OwnB.nil _ _ _) h (by simp; omega) (Nat.le_refl _) ?_)
  intro v' w1 hown hg
  go_wp2
  go_ret
  exact ⟨v', rfl, hown, grown_none hg rfl⟩

set_option maxHeartbeats 1000000 in
theorem cutI_calls (v : Value) (xs : List Int) (n : Nat) (w : World) (h : Nms w v xs) :
    Calls Try.prog 53 #[v, .int .i64 n] w fun e w' => (∃ v', e = .returned v' ∧ Nms w v' (xs.take n)) ∧ w = w' := by
  have hl := h.len
  obtain ⟨a, cap, rfl, h1, h2, h3⟩ := id h
  obtain ⟨l, hl'⟩ : ∃ l, l = xs.length := ⟨_, rfl⟩
  rw [← hl'] at hl h h1 ⊢
  have Hl := Lib.hid hl'; have H3 := Lib.hid h3; have H2 := Lib.hid h2; clear hl' h3 h2
  by_cases hlt : n < l
  · go_enter Try.func53, Try.ntmps53
    go_wp2
    go_ret
    exact ⟨⟨_, rfl, h.take n (by have := Hl.out; omega)⟩, rfl⟩
  · go_enter Try.func53, Try.ntmps53
    go_wp2
    go_ret
    exact ⟨⟨_, rfl, by rw [List.take_of_length_le (by have := Hl.out; omega)]; exact h⟩, rfl⟩

/-- at most 18 rows of at most 18 -/
def cutR (rs : List (List UInt8)) : List (List UInt8) := (rs.take 18).map (·.take 18)
set_option maxRecDepth 20000 in
set_option maxHeartbeats 2000000 in
theorem cut_calls (v : Value) (rs : List (List UInt8)) (w : World) (h : Rws w v rs) :
    Calls Try.prog 52 #[v] w fun e w' => ∃ v', e = .returned v' ∧ Rws w' v' (cutR rs) ∧ Below w.heap.size w w' := by
  have hl := h.len
  obtain ⟨a, cap, rfl⟩ := h.eq_slice
  obtain ⟨n, hn⟩ : ∃ n, n = rs.length := ⟨_, rfl⟩
  rw [← hn] at h hl ⊢
  have Hn := Lib.hid hn
  clear hn
  go_enter Try.func52, Try.ntmps52
  go_wp2_with fail
  go_loopw [3, 4] (fun o v wr => ∃ i : Nat, i ≤ 18 ∧ i ≤ n ∧ v = .int .i64 i ∧ OwnRows 5 31 wr w.heap.size o ((rs.take i).map (·.take 18)) ∧ Below w.heap.size w wr)
    (fun _ v _ => 18 - (intOf v).toNat)
  case atStart => exact ⟨0, by omega, by omega, rfl, OwnRows.nil _ _ _ _, Below.refl _ _⟩
  case round =>
    obtain ⟨i, hi, hin, rfl, hown, hbel⟩ := hrel
    have hs := hbel.size
    by_cases h0 : i < n
    · by_cases h1 : i < 18
      · obtain ⟨b, off, r, v', rfl, Hr, c, hb⟩ := (h.below hbel).at i (by have := Hn.out; omega)
        go_wp2_with fail
        refine (cut8_calls _ r 18 _ hb).mono ?_
        rintro e w2 ⟨⟨v2, rfl, hv2⟩, rfl⟩
        go_wp2_with fail
        refine (copy8_calls _ _ _ hv2 (by simp; omega)).mono ?_
        rintro e w3 ⟨v3, rfl, hv3, hb3⟩
        have hown2 := hown.below hb3
        have hv4 := hv3.mono hs
        have hs3 : w.heap.size ≤ w3.heap.size := Nat.le_trans hs hb3.size
        have hbel3 := Aft.trans hbel hb3
        obtain ⟨ra, rc, e3⟩ := hv3.eq_slice
        generalize (r.take 18).length = l3 at e3
        subst e3
        go_wp2_with (at_builtin; refine app_row ER rfl _ _ rfl rfl rfl ?d1 hown2 hv4 (by decide) ?d2 ?d3 ?_)
        case d1 => rfl
        case d2 => simp; omega
        case d3 => exact hs3
        intro v' w1 hown' hgrow
        go_wp2_with fail
        exact ⟨⟨i + 1, by omega, by omega, by go_num, by rw [List.take_add_one, Hr.out, List.map_append, List.map_take]; exact hown', Below.grown hbel3 hgrow hs3 (fun b hb => (hown2.lt b hb).1)⟩, by simp [intOf]; omega⟩
      · obtain rfl : i = 18 := by omega
        go_wp2
        go_ret
        exact ⟨_, rfl, hown.rws, hbel⟩
    · obtain rfl : n = i := by omega
      go_wp2
      go_ret
      refine ⟨_, rfl, ?_, hbel⟩
      have := hown.rws
      rw [List.take_of_length_le (by have := Hn.out; omega)] at this
      unfold cutR
      rw [List.take_of_length_le (by have := Hn.out; omega)]
      exact this
end Go.Proofs.Ytdciakbichgddaa
