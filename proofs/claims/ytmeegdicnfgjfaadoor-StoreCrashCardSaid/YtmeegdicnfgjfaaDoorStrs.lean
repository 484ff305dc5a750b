/- A row of strings, as a value; Same of strings. -/
import Derived.Test.YtmeegdicnfgjfaaDoorBKeep
import Derived.Sort.OwnSorted
namespace Go.Proofs.YtmeegdicnfgjfaaDoor
open Go Go.RowKit Go.Mem Gf Go.Sort
/-- v reads as these strings -/
def Strs (w : World) (v : Value) (ss : List (List UInt8)) : Prop :=
  ∃ a cap, v = .slice a ss.length cap ∧ ss.length ≤ cap ∧ cap ≤ maxLen ∧
    (0 < ss.length → ∃ b off, a = some ⟨b, off, none⟩ ∧ ∀ (i : Nat) (s : List UInt8), ss[i]? = some s → w.cell? ⟨b, off + i, none⟩ = some (encStr s))
section
variable {w w' : World} {v : Value} {ss : List (List UInt8)}
theorem Strs.nil (w : World) : Strs w (.slice none 0 0) [] := ⟨none, 0, rfl, Nat.le_refl _, Nat.zero_le _, fun h => by simp at h⟩
theorem Strs.len (h : Strs w v ss) : ss.length ≤ 9223372036854775807 := by
  obtain ⟨a, cap, _, h1, h2, _⟩ := h
  unfold maxLen at h2; omega
theorem Strs.eq_slice (h : Strs w v ss) : ∃ a cap, v = .slice a ss.length cap := by
  obtain ⟨a, cap, e, _⟩ := h; exact ⟨a, cap, e⟩
theorem Strs.below (h : Strs w v ss) (hb : Below w.heap.size w w') : Strs w' v ss := by
  obtain ⟨a, cap, h0, h1, h2, h3⟩ := h
  refine ⟨a, cap, h0, h1, h2, fun hp => ?_⟩
  obtain ⟨b, off, e, hc⟩ := h3 hp
  refine ⟨b, off, e, fun i u hi => ?_⟩
  have := hc i u hi
  rw [hb.cell (p := ⟨b, off + i, none⟩) (World.block_lt_of_cell? w _ this)]
  exact this
theorem Strs.chg {S : Nat → Prop} (h : Strs w v ss) (hc : Chg S w w') (hs : ∀ a l c, v = .slice (some a) l c → ¬ S a.block) : Strs w' v ss := by
  obtain ⟨a, cap, rfl, h1, h2, h3⟩ := h
  refine ⟨a, cap, rfl, h1, h2, fun hp => ?_⟩
  obtain ⟨b, off, rfl, hcell⟩ := h3 hp
  refine ⟨b, off, rfl, fun i u hi => ?_⟩
  have hx := hcell i u hi
  have hlt : b < w.heap.size := World.block_lt_of_cell? w ⟨b, off + i, none⟩ hx
  have hb := hc.block b hlt (hs _ _ _ rfl)
  unfold World.cell? at hx ⊢
  rw [hb]; exact hx
theorem Strs.rd (h : Strs w v ss) (hr : Rd w w') : Strs w' v ss := by
  obtain ⟨m, rfl⟩ := hr; exact h
theorem Strs.at {a : Option Addr} {n cap : Nat} (h : Strs w (.slice a n cap) ss) (k : Nat) (hk : k < ss.length) :
    ∃ b off s, a = some ⟨b, off, none⟩ ∧ Hid (ss[k]? = some s) ∧ w.cell? ⟨b, off + k, none⟩ = some (encStr s) := by
  obtain ⟨a', cap', e, h1, h2, h3⟩ := h
  obtain ⟨b, off, e', hc⟩ := h3 (by omega)
  injection e with e1 e2 e3
  exact ⟨b, off, ss[k], e1.trans e', by show ss[k]? = _; simp [hk], hc k _ (by simp [hk])⟩
theorem strs_of_own {base n : Nat} {t : TypeId} (h : w.ownsRow base t 1 v n (ss.map encStr)) (hn : ss.length = n) : Strs w v ss := by
  subst hn
  obtain ⟨hlen, h2⟩ := h
  rcases h2 with ⟨rfl, h0⟩ | ⟨g, cap, cur, rfl, _, hg, hnc, hcm, hcs, htake⟩
  · have : ss = [] := List.eq_nil_of_length_eq_zero h0
    subst this
    exact Strs.nil w
  · refine ⟨_, cap, rfl, hnc, hcm, fun _ => ⟨g, 0, rfl, fun i x hi => ?_⟩⟩
    have hil : i < ss.length := by
      rcases Nat.lt_or_ge i ss.length with h | h
      · exact h
      · rw [List.getElem?_eq_none h] at hi; cases hi
    have h1 : (cur.toList.take (ss.length * 1))[i]? = some (encStr x) := by rw [htake, List.getElem?_map, hi]; rfl
    rw [List.getElem?_take, if_pos (by omega), Array.getElem?_toList] at h1
    rw [Nat.zero_add]
    unfold World.cell?
    rw [hg]
    simpa using h1
/-- a row of constant strings -/
theorem strs_lit {t : TypeId} (arr : Array Value) (h : arr = (ss.map encStr).toArray) (hl : ss.length ≤ 1000) (n : Nat) (hn : n = ss.length) : Strs (w.alloc (.cells arr t)) (.slice (some ⟨w.heap.size, 0, none⟩) n n) ss := by
  subst hn
  refine ⟨_, ss.length, rfl, Nat.le_refl _, by unfold maxLen; omega, fun _ => ⟨w.heap.size, 0, rfl, fun i s hi => ?_⟩⟩
  rw [Nat.zero_add, (Blk.new w arr t).cell, h]
  simp [hi]
end
attribute [local go_sem ↓] Go.wp_at_zero Go.wp_at_succ
set_option maxRecDepth 20000 in
set_option maxHeartbeats 1000000 in
theorem sames_calls (va vb : Value) (xs ys : List (List UInt8)) (w : World) (ha : Strs w va xs) (hb : Strs w vb ys) :
    Calls Tryd.prog 21 #[va, vb] w fun e w' => e = .returned (.bool (decide (xs = ys))) ∧ ∃ n, w' = w.drewN n := by
  have hla := ha.len
  have hlb := hb.len
  obtain ⟨aa, ca, rfl, hx⟩ := id ha
  clear hx
  obtain ⟨ab, cb, rfl, hx⟩ := id hb
  clear hx
  obtain ⟨la, hla'⟩ : ∃ n, n = xs.length := ⟨_, rfl⟩
  obtain ⟨lb, hlb'⟩ : ∃ n, n = ys.length := ⟨_, rfl⟩
  rw [← hla'] at hla ha ⊢
  rw [← hlb'] at hlb hb ⊢
  have Hla := Lib.hid hla'; have Hlb := Lib.hid hlb'; clear hla' hlb'
  by_cases hl : la = lb
  · subst hl
    go_enter Tryd.func21, Tryd.ntmps21
    go_wp2_with fail
    go_loopw [5] (fun v wr => ∃ i : Nat, i ≤ la ∧ v = .int .i64 i ∧ Rd w wr ∧ xs.take i = ys.take i) (fun v _ => la - (intOf v).toNat)
    case atStart => exact ⟨0, by omega, rfl, Rd.refl _, rfl⟩
    case round =>
      obtain ⟨i, hi, rfl, hrd, ht⟩ := hrel
      have Ht := Lib.hid ht; clear ht
      by_cases h0 : i < la
      · obtain ⟨b1, o1, u, rfl, Hu, c1⟩ := (ha.rd hrd).at i (by have := Hla.out; omega)
        obtain ⟨b2, o2, v, rfl, Hv, c2⟩ := (hb.rd hrd).at i (by have := Hlb.out; omega)
        unfold encStr at c1 c2
        have eu : (ByteArray.mk u.toArray).toList = u := by rw [Go.ByteArray.toList_eq]
        have ev : (ByteArray.mk v.toArray).toList = v := by rw [Go.ByteArray.toList_eq]
        by_cases huv : u = v
        · have t : ((ByteArray.mk u.toArray).toList == (ByteArray.mk v.toArray).toList) = true := by rw [eu, ev, huv]; simp
          have t2 : ((ByteArray.mk u.toArray).toList != (ByteArray.mk v.toArray).toList) = false := by rw [eu, ev, huv]; simp
          have Hs := Lib.hid (take_snoc_eq Ht.out Hu.out Hv.out huv); clear huv eu ev
          obtain ⟨U, hU⟩ : ∃ U, U = ByteArray.mk u.toArray := ⟨_, rfl⟩
          obtain ⟨V, hV⟩ : ∃ V, V = ByteArray.mk v.toArray := ⟨_, rfl⟩
          rw [← hU] at c1 t t2
          rw [← hV] at c2 t t2
          clear hU hV
          go_wp2_with fail
          go_quiet (fail)
          go_wp2
          exact ⟨⟨i + 1, by omega, by go_num, hrd.more _, Hs.out⟩, by simp [intOf]; omega⟩
        · have t : ((ByteArray.mk u.toArray).toList == (ByteArray.mk v.toArray).toList) = false := by rw [eu, ev]; simpa using huv
          have t2 : ((ByteArray.mk u.toArray).toList != (ByteArray.mk v.toArray).toList) = true := by rw [eu, ev]; simpa using huv
          have Hs : Hid (xs ≠ ys) := fun e => huv (by have h1 := Hu.out; have h2 := Hv.out; rw [e, h2] at h1; exact (Option.some.inj h1).symm)
          clear huv eu ev
          obtain ⟨U, hU⟩ : ∃ U, U = ByteArray.mk u.toArray := ⟨_, rfl⟩
          obtain ⟨V, hV⟩ : ∃ V, V = ByteArray.mk v.toArray := ⟨_, rfl⟩
          rw [← hU] at c1 t t2
          rw [← hV] at c2 t t2
          clear hU hV
          go_wp2_with fail
          go_quiet (fail)
          go_wp2
          go_ret
          exact ⟨by rw [decide_eq_false Hs.out]; rfl, hrd.more _⟩
      · obtain rfl : i = la := by omega
        have He : Hid (xs = ys) := by
          have h1 := Ht.out; have h2 := Hla.out; have h3 := Hlb.out
          rw [List.take_of_length_le (by omega), List.take_of_length_le (by omega)] at h1
          exact h1
        go_wp2
        go_ret
        exact ⟨by rw [decide_eq_true He.out]; rfl, hrd⟩
  · have t : ((la : Int) != (lb : Int)) = true := by simp; omega
    have t2 : (la != lb) = true := by simp; omega
    have He : Hid (xs ≠ ys) := fun e => hl (by rw [Hla.out, Hlb.out, e])
    clear hl
    go_enter Tryd.func21, Tryd.ntmps21
    go_wp2
    go_ret
    exact ⟨by rw [decide_eq_false He.out]; rfl, 0, rfl⟩
end Go.Proofs.YtmeegdicnfgjfaaDoor
