/- Walks of package matrix and of the document's own answers on any rows: which are no matrix. -/
import Derived.Test.YtdciakbichgddaaMatRef
import Derived.Test.YtdciakbichgddaaMatApply
import Derived.Test.YtdciakbichgddaaMatRows
import Derived.Test.YtdciakbichgddaaMatMul
import Derived.Outline
namespace Go.Proofs.Ytdciakbichgddaa
open Go Go.RowKit Go.Mem Gf

/-- are these rows a matrix? -/
def mayB (rs : List (List UInt8)) : Bool := decide (1 ≤ rs.length ∧ rs.length ≤ 16 ∧ 1 ≤ (rs.getD 0 []).length ∧ (rs.getD 0 []).length ≤ 16 ∧ ∀ r, r ∈ rs → r.length = (rs.getD 0 []).length)
def matF (rs : List (List UInt8)) : Mx := fun i k => (rs.getD i []).getD k 0
theorem list_rowL (r : List UInt8) (m : Nat) (h : r.length = m) : r = rowL m (fun k => r.getD k 0) := by
  subst h
  apply List.ext_getElem
  · simp [rowL]
  · intro i h1 h2
    simp [rowL, h1]
theorem mayB_form {rs : List (List UInt8)} (h : mayB rs = true) : ∃ n m, rs = rowsL n m (matF rs) ∧ rs.length = n ∧ (rs.getD 0 []).length = m ∧ 1 ≤ n ∧ n ≤ 16 ∧ 1 ≤ m ∧ m ≤ 16 := by
  obtain ⟨h1, h2, h3, h4, h5⟩ := of_decide_eq_true h
  refine ⟨rs.length, (rs.getD 0 []).length, ?_, rfl, rfl, h1, h2, h3, h4⟩
  apply List.ext_getElem
  · simp [rowsL]
  · intro i hi1 hi2
    have hr : rs.getD i [] = rs[i] := by simp [List.getD_eq_getElem?_getD, hi1]
    have := list_rowL rs[i] _ (h5 _ (List.getElem_mem hi1))
    rw [this]
    simp only [rowsL, List.getElem_map, List.getElem_range]
    exact rowL_congr fun k _ => by rw [matF, hr]
theorem mayB_rowsL {n m : Nat} {F : Mx} (n1 : 1 ≤ n) (n2 : n ≤ 16) (m1 : 1 ≤ m) (m2 : m ≤ 16) : mayB (rowsL n m F) = true := by
  have e : (rowsL n m F).getD 0 [] = rowL m (F 0) := by rw [List.getD_eq_getElem?_getD, rowsL_get _ _ _ _ (by omega)]; rfl
  refine decide_eq_true ⟨by rw [rowsL_len]; exact n1, by rw [rowsL_len]; exact n2, by rw [e, rowL_len]; exact m1, by rw [e, rowL_len]; exact m2, fun r hr => ?_⟩
  rw [e, rowL_len]
  simp only [rowsL, List.mem_map] at hr
  obtain ⟨i, _, rfl⟩ := hr
  exact rowL_len _ _
/-- why rows are none: by their number, by the first one, by another one -/
theorem mayB_no {rs : List (List UInt8)} (h : mayB rs = false) : rs.length < 1 ∨ 16 < rs.length ∨ (1 ≤ rs.length ∧ rs.length ≤ 16 ∧ ((rs.getD 0 []).length < 1 ∨ 16 < (rs.getD 0 []).length)) ∨
    (1 ≤ rs.length ∧ rs.length ≤ 16 ∧ 1 ≤ (rs.getD 0 []).length ∧ (rs.getD 0 []).length ≤ 16 ∧ ¬ ∀ r, r ∈ rs → r.length = (rs.getD 0 []).length) := by
  have h' := of_decide_eq_false h
  by_cases h1 : rs.length < 1
  · exact .inl h1
  by_cases h2 : 16 < rs.length
  · exact .inr (.inl h2)
  by_cases h3 : (rs.getD 0 []).length < 1 ∨ 16 < (rs.getD 0 []).length
  · exact .inr (.inr (.inl ⟨by omega, by omega, h3⟩))
  · exact .inr (.inr (.inr ⟨by omega, by omega, by omega, by omega, fun h4 => h' ⟨by omega, by omega, by omega, by omega, h4⟩⟩))

set_option maxRecDepth 20000 in
set_option maxHeartbeats 2000000 in
theorem may_no (v : Value) (rs : List (List UInt8)) (w : World) (h : Rws w v rs) (hm : mayB rs = false) :
    Calls Try.prog 74 #[v] w fun e w' => e = .returned (.bool false) ∧ w = w' := by
  have hl := h.len
  obtain ⟨a, cap, rfl⟩ := h.eq_slice
  obtain ⟨n, hn⟩ : ∃ n, n = rs.length := ⟨_, rfl⟩
  rw [← hn] at h hl ⊢
  have Hn := Lib.hid hn
  have hno := mayB_no hm
  rw [← hn] at hno
  clear hn hm
  rcases hno with h1 | h1 | ⟨h1, h2, h3⟩ | ⟨h1, h2, h3, h4, h5⟩
  · go_enter Try.func74, Try.ntmps74
    go_wp2
    go_ret
    exact ⟨rfl, rfl⟩
  · go_enter Try.func74, Try.ntmps74
    go_wp2
    go_ret
    exact ⟨rfl, rfl⟩
  · obtain ⟨b, off, r, v', rfl, Hr, c, hb⟩ := h.at 0 (by have := Hn.out; omega)
    have hr0 : rs.getD 0 [] = r := by rw [List.getD_eq_getElem?_getD, Hr.out]; rfl
    rw [hr0] at h3
    clear hr0
    have c' : w.cell? ⟨b, off, none⟩ = some v' := c
    clear c
    obtain ⟨a', cap', rfl⟩ := hb.eq_slice
    have n0 : 0 < n := by omega
    have n0' : (0 : Int) < (n : Int) := by omega
    generalize r.length = l at *
    rcases h3 with h3 | h3
    · go_enter Try.func74, Try.ntmps74
      go_wp2
      go_ret
      exact ⟨rfl, rfl⟩
    · go_enter Try.func74, Try.ntmps74
      go_wp2
      go_ret
      exact ⟨rfl, rfl⟩
  · obtain ⟨b, off, r, v', rfl, Hr, c, hb⟩ := h.at 0 (by have := Hn.out; omega)
    have hr0 : rs.getD 0 [] = r := by rw [List.getD_eq_getElem?_getD, Hr.out]; rfl
    rw [hr0] at h3 h4 h5
    clear hr0
    have c' : w.cell? ⟨b, off, none⟩ = some v' := c
    clear c
    obtain ⟨a', cap', rfl⟩ := hb.eq_slice
    have n0 : 0 < n := by omega
    have n0' : (0 : Int) < (n : Int) := by omega
    obtain ⟨l, hl⟩ : ∃ l, l = r.length := ⟨_, rfl⟩
    rw [← hl] at h3 h4 h5 c'
    clear hl hb
    have H5 := Lib.hid h5
    clear h5
    go_enter Try.func74, Try.ntmps74
    go_wp2_with fail
    go_loop [29] (fun v => ∃ i : Nat, i ≤ n ∧ v = .int .i64 i ∧ ∀ q, q ∈ rs.take i → q.length = l) (fun v => n - (intOf v).toNat)
    case atStart => exact ⟨0, by omega, rfl, fun q hq => by simp at hq⟩
    case round =>
      obtain ⟨i, hi, rfl, hall⟩ := hrel
      have Hall := Lib.hid hall
      clear hall
      by_cases h0 : i < n
      · obtain ⟨b2, o2, r2, v2, e, Hr2, c2, hb2⟩ := h.at i (by have := Hn.out; omega)
        injection e with e
        injection e with e1 e2
        subst e1 e2
        obtain ⟨a2, cap2, rfl⟩ := hb2.eq_slice
        obtain ⟨l2, hl2⟩ : ∃ l, l = r2.length := ⟨_, rfl⟩
        rw [← hl2] at c2
        have Hl2 := Lib.hid hl2
        clear hl2 hb2
        by_cases he : l2 = l
        · have t1 : ((l2 : Int) != (l : Int)) = false := by rw [he]; simp
          have t2 : (l2 != l) = false := by rw [he]; simp
          have He := Lib.hid he
          clear he
          go_wp2
          exact ⟨⟨i + 1, by omega, by go_num, fun q hq => by
            rw [List.take_add_one, Hr2.out] at hq
            rcases List.mem_append.1 hq with hq | hq
            · exact Hall.out q hq
            · simp at hq; rw [hq, ← Hl2.out, He.out]⟩, by simp [intOf]; omega⟩
        · have t1 : ((l2 : Int) != (l : Int)) = true := by simp; omega
          have t2 : (l2 != l) = true := by simp; omega
          clear he
          go_wp2
          go_ret
          exact ⟨rfl, rfl⟩
      · exfalso
        exact H5.out fun q hq => Hall.out q (by rw [List.take_of_length_le (by have := Hn.out; omega)]; exact hq)

set_option maxRecDepth 20000 in
set_option maxHeartbeats 2000000 in
theorem rmay_no (v : Value) (rs : List (List UInt8)) (w : World) (h : Rws w v rs) (hm : mayB rs = false) :
    Calls Try.prog 54 #[v] w fun e w' => e = .returned (.bool false) ∧ ∃ d, w' = w.drewN d := by
  have hl := h.len
  obtain ⟨a, cap, rfl⟩ := h.eq_slice
  obtain ⟨n, hn⟩ : ∃ n, n = rs.length := ⟨_, rfl⟩
  rw [← hn] at h hl ⊢
  have Hn := Lib.hid hn
  have hno := mayB_no hm
  rw [← hn] at hno
  clear hn hm
  by_cases hc : n < 1 ∨ 16 < n
  · clear hno
    rcases hc with h1 | h1
    · go_enter Try.func54, Try.ntmps54
      go_wp2
      go_ret
      exact ⟨rfl, 0, rfl⟩
    · go_enter Try.func54, Try.ntmps54
      go_wp2
      go_ret
      exact ⟨rfl, 0, rfl⟩
  · have n1 : 1 ≤ n := by omega
    have n2 : n ≤ 16 := by omega
    clear hc
    obtain ⟨b, off, r, v', rfl, Hr, c, hb⟩ := h.at 0 (by have := Hn.out; omega)
    have hr0 : rs.getD 0 [] = r := by rw [List.getD_eq_getElem?_getD, Hr.out]; rfl
    rw [hr0] at hno
    clear hr0
    have c' : w.cell? ⟨b, off, none⟩ = some v' := c
    clear c
    obtain ⟨a', cap', rfl⟩ := hb.eq_slice
    have n0 : 0 < n := by omega
    have n0' : (0 : Int) < (n : Int) := by omega
    obtain ⟨l, hl⟩ : ∃ l, l = r.length := ⟨_, rfl⟩
    rw [← hl] at c' hno
    have hl63 := hb.len
    rw [← hl] at hl63
    have Hrl := Lib.hid hl
    have Hno := Lib.hid hno
    clear hl hno hb
    go_enter Try.func54, Try.ntmps54
    go_wp2_with fail
    go_loopw [14] (fun v wr => ∃ i : Nat, i ≤ n ∧ v = .int .i64 i ∧ (∀ q, q ∈ rs.take i → 1 ≤ q.length ∧ q.length ≤ 16 ∧ q.length = l) ∧ Rd w wr) (fun v _ => n - (intOf v).toNat)
    case atStart => exact ⟨0, by omega, rfl, fun q hq => by simp at hq, Rd.refl _⟩
    case round =>
      obtain ⟨i, hi, rfl, hall, hrd⟩ := hrel
      have Hall := Lib.hid hall
      clear hall
      by_cases h0 : i < n
      · obtain ⟨b2, o2, r2, v2, e, Hr2, c2, hb2⟩ := (hrd.rws h).at i (by have := Hn.out; omega)
        injection e with e
        injection e with e1 e2
        subst e1 e2
        obtain ⟨a2, cap2, rfl⟩ := hb2.eq_slice
        obtain ⟨l2, hl2⟩ : ∃ l, l = r2.length := ⟨_, rfl⟩
        rw [← hl2] at c2
        have hl2m := hb2.len
        rw [← hl2] at hl2m
        have Hl2 := Lib.hid hl2
        clear hl2 hb2
        have c0 : wr.cell? ⟨b, off, none⟩ = some (.slice a' l cap') := by obtain ⟨d, rfl⟩ := hrd; exact c'
        have i1 : (0 : Int) ≤ (i : Int) := by omega
        have i2 : (i : Int) < (n : Int) := by omega
        by_cases e1 : l2 < 1
        · have t1 : decide ((l2 : Int) < 1) = true := by simp; omega
          clear e1
          go_wp2_with fail
          go_quiet (fail)
          go_wp2
          go_ret
          exact ⟨rfl, hrd.more _⟩
        · have t1 : decide ((l2 : Int) < 1) = false := by simp; omega
          by_cases e2 : 16 < l2
          · have t2 : decide ((16 : Int) < (l2 : Int)) = true := by simp; omega
            clear e1 e2
            go_wp2_with fail
            go_quiet (fail)
            go_wp2
            go_ret
            exact ⟨rfl, hrd.more _⟩
          · have t2 : decide ((16 : Int) < (l2 : Int)) = false := by simp; omega
            by_cases he : l2 = l
            · have t3 : ((l2 : Int) != (l : Int)) = false := by rw [he]; simp
              have t4 : (l2 != l) = false := by rw [he]; simp
              have He := Lib.hid he
              have E1 := Lib.hid e1
              have E2 := Lib.hid e2
              clear he e1 e2
              go_wp2_with fail
              go_quiet (fail)
              go_wp2
              exact ⟨⟨i + 1, by omega, by go_num, fun q hq => by
                have h1 := Hl2.out; have h2 := He.out; have h3 := E1.out; have h4 := E2.out
                rw [List.take_add_one, Hr2.out] at hq
                rcases List.mem_append.1 hq with hq | hq
                · exact Hall.out q hq
                · simp at hq; subst hq; omega, hrd.more _⟩, by simp [intOf]; omega⟩
            · have t3 : ((l2 : Int) != (l : Int)) = true := by simp; omega
              have t4 : (l2 != l) = true := by simp; omega
              clear he e1 e2
              go_wp2_with fail
              go_quiet (fail)
              go_wp2
              go_ret
              exact ⟨rfl, hrd.more _⟩
      · exfalso
        have hA : ∀ q, q ∈ rs → 1 ≤ q.length ∧ q.length ≤ 16 ∧ q.length = l := fun q hq => Hall.out q (by rw [List.take_of_length_le (by have := Hn.out; omega)]; exact hq)
        have hr1 := hA r (List.mem_of_getElem? Hr.out)
        have hrl := Hrl.out
        rcases Hno.out with h1 | h1 | ⟨_, _, h1⟩ | ⟨_, _, _, _, h1⟩
        · omega
        · omega
        · omega
        · exact h1 fun q hq => (hA q hq).2.2

set_option maxRecDepth 20000 in
set_option maxHeartbeats 2000000 in
theorem rmay_yes (v : Value) (n m : Nat) (F : Mx) (w : World) (h : Rws w v (rowsL n m F)) (h1 : 1 ≤ n) (h2 : n ≤ 16) (m1 : 1 ≤ m) (m2 : m ≤ 16) :
    Calls Try.prog 54 #[v] w fun e w' => e = .returned (.bool true) ∧ ∃ d, w' = w.drewN d := by
  obtain ⟨a, cap, rfl⟩ := h.mat
  obtain ⟨b, off, a0, cap0, rfl, c0, _⟩ := h.row 0 (by omega)
  have c0' : w.cell? ⟨b, off, none⟩ = some (.slice a0 m cap0) := c0
  clear c0
  have n0 : 0 < n := by omega
  have n0' : (0 : Int) < (n : Int) := by omega
  have t1 : decide ((m : Int) < 1) = false := by simp; omega
  have t2 : decide ((16 : Int) < (m : Int)) = false := by simp; omega
  have t3 : ((m : Int) != (m : Int)) = false := by simp
  have t4 : (m != m) = false := by simp
  go_enter Try.func54, Try.ntmps54
  go_wp2_with fail
  go_loopw [14] (fun v wr => ∃ i : Nat, i ≤ n ∧ v = .int .i64 i ∧ Rd w wr) (fun v _ => n - (intOf v).toNat)
  case atStart => exact ⟨0, by omega, rfl, Rd.refl _⟩
  case round =>
    obtain ⟨i, hi, rfl, hrd⟩ := hrel
    by_cases h0 : i < n
    · obtain ⟨b', off', a1, cap1, e, c1, _⟩ := (hrd.rws h).row i h0
      injection e with e
      injection e with e1 e2
      subst e1 e2
      have c0 : wr.cell? ⟨b, off, none⟩ = some (.slice a0 m cap0) := by obtain ⟨d, rfl⟩ := hrd; exact c0'
      have i1 : (0 : Int) ≤ (i : Int) := by omega
      have i2 : (i : Int) < (n : Int) := by omega
      go_wp2_with fail
      go_quiet (fail)
      go_wp2
      exact ⟨⟨i + 1, by omega, by go_num, hrd.more _⟩, by simp [intOf]; omega⟩
    · go_wp2
      go_ret
      exact ⟨rfl, hrd⟩
end Go.Proofs.Ytdciakbichgddaa
