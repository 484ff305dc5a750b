/- The document's example of leases. -/
import Derived.Test.YtgjabnpngggcmaaLeaClone
import Derived.Test.YtgjabnpngggcmaaLeaEnds1
namespace Go.Proofs.Ytgjabnpngggcmaa
open Go Go.RowKit Go.Mem Gf Lea
/-- a key of one byte, noughts behind -/
def keyC (v : Value) : Array Value := (v :: List.replicate 15 (.int .u8 0)).toArray
def isU8 : Value → Bool
  | .int .u8 _ => true
  | _ => false
def isI64 : Value → Bool
  | .int .i64 _ => true
  | _ => false
@[simp] theorem isU8_eq (n : Int) : isU8 (.int .u8 n) = true := rfl
@[simp] theorem isI64_eq (n : Int) : isI64 (.int .i64 n) = true := rfl
theorem built_k0 (n : Int) : Try.prog.built 26 [(0, .int .u8 n)] = some (keyC (.int .u8 n)) := by kernel_rfl
theorem built_z : Try.prog.built 26 [] = some (keyC (.int .u8 0)) := by kernel_rfl
theorem built_l1 (n : Int) : Try.prog.built 28 [(1, .int .i64 n)] = some (keyC (.int .u8 0) ++ #[.int .i64 n]) := by kernel_rfl
theorem build_k0 (dst : Option Tmp) (x : Operand) (ty : TypeId) (pos : String) (af : Array Edge) (gd : Option (Tmp × Bool)) (a : Act) (w : World) (K : Act → World → Prop) (Q : Exit → Act → World → Prop) (h : isU8 (a.eval x) = true) :
    Oper.wp Try.prog ⟨dst, .build 26 #[(0, x)], ty, pos, af, gd⟩ a w K Q = K (a.put dst (.agg (keyC (a.eval x)))) w := by
  unfold Oper.wp execOp
  have e : ∃ n, a.eval x = .int .u8 n := by
    unfold isU8 at h
    split at h
    · rename_i n e; exact ⟨n, e⟩
    · cases h
  obtain ⟨n, e⟩ := e
  have hr := run_build (P := Try.prog) w 26 #[(0, a.eval x)] (keyC (a.eval x)) (by rw [e]; exact built_k0 n)
  simp only [List.map_toArray, List.map_cons, List.map_nil, Sem.run_bind, hr, Result.andThen_ok]
  rfl
theorem build_z (dst : Option Tmp) (ty : TypeId) (pos : String) (af : Array Edge) (gd : Option (Tmp × Bool)) (a : Act) (w : World) (K : Act → World → Prop) (Q : Exit → Act → World → Prop) :
    Oper.wp Try.prog ⟨dst, .build 26 #[], ty, pos, af, gd⟩ a w K Q = K (a.put dst (.agg (keyC (.int .u8 0)))) w := by
  unfold Oper.wp execOp
  have hr := run_build (P := Try.prog) w 26 #[] (keyC (.int .u8 0)) built_z
  simp only [List.map_toArray, List.map_nil, Sem.run_bind, hr, Result.andThen_ok]
  rfl
theorem build_l1 (dst : Option Tmp) (x : Operand) (ty : TypeId) (pos : String) (af : Array Edge) (gd : Option (Tmp × Bool)) (a : Act) (w : World) (K : Act → World → Prop) (Q : Exit → Act → World → Prop) (h : isI64 (a.eval x) = true) :
    Oper.wp Try.prog ⟨dst, .build 28 #[(1, x)], ty, pos, af, gd⟩ a w K Q = K (a.put dst (.agg (keyC (.int .u8 0) ++ #[a.eval x]))) w := by
  unfold Oper.wp execOp
  have e : ∃ n, a.eval x = .int .i64 n := by
    unfold isI64 at h
    split at h
    · rename_i n e; exact ⟨n, e⟩
    · cases h
  obtain ⟨n, e⟩ := e
  have hr := run_build (P := Try.prog) w 28 #[(1, a.eval x)] (keyC (.int .u8 0) ++ #[a.eval x]) (by rw [e]; exact built_l1 n)
  simp only [List.map_toArray, List.map_cons, List.map_nil, Sem.run_bind, hr, Result.andThen_ok]
  rfl
theorem build_lease (dst : Option Tmp) (x y : Operand) (ty : TypeId) (pos : String) (af : Array Edge) (a : Act) (w : World) (K : Act → World → Prop) (Q : Exit → Act → World → Prop)
    (h1 : (a.eval x).cells.size = 16) (h2 : (a.eval y).cells.size = 1) :
    Oper.wp Try.prog ⟨dst, .build 28 #[(0, x), (1, y)], ty, pos, af, none⟩ a w K Q = K (a.put dst (.agg ((a.eval x).cells ++ (a.eval y).cells))) w :=
  wp_buildTwo Try.underlying28 (by kernel_rfl) (by kernel_rfl) dst x y ty pos af a w K Q h1 h2
theorem keyC_z : keyC (.int .u8 0) = (bV z16).toArray := rfl
theorem keyC_sec {n : Nat} (h : n < 256) : keyC (.int .u8 (n : Int)) = (bV (secN n)).toArray := by
  unfold keyC bV secN
  simp only [List.map_cons, List.map_replicate]
  congr 3
  rw [UInt8.toNat_ofNat']
  omega
theorem z16_len : z16.length = 16 := by simp [z16]
theorem secN_len (n : Nat) : (secN n).length = 16 := by simp [secN]
theorem lease_cells (sec : Key) (e : Int) : (bV sec).toArray ++ #[.int .i64 e] = (encL (sec, e)).toArray := by unfold encL; simp
theorem wake1 {l : List Les} {b : Bool} (h : AddR [] z16 z16 3 b l) : b = true ∧ l.Perm [⟨z16, z16, 3⟩] := by
  cases h with
  | no h => exact absurd h (by rintro (h | ⟨_, h⟩); exact h ⟨by omega, by omega⟩; simp [ofL] at h)
  | more k x _ _ hx _ _ _ => simp at hx
  | new _ _ _ _ hp => exact ⟨rfl, by simpa using hp⟩
theorem wake2 {l l' : List Les} {b : Bool} (hl : l.Perm [⟨z16, z16, 3⟩]) (h : AddR l z16 z16 5 b l') : b = true ∧ l'.Perm [⟨z16, z16, 5⟩] := by
  have hl1 : l = [⟨z16, z16, 3⟩] := List.perm_singleton.1 hl
  subst hl1
  cases h with
  | no h =>
    rcases h with h | ⟨h, _⟩
    · exact absurd (show May 5 from ⟨by omega, by omega⟩) h
    · exact absurd ⟨rfl, rfl⟩ (h _ (List.mem_singleton.2 rfl))
  | more k x _ _ hx _ _ hp =>
    have hk : k = 0 := by have := some_lt hx; simp at this; omega
    subst hk
    simp at hx
    subst hx
    exact ⟨rfl, hp⟩
  | new _ _ hk _ _ => exact absurd ⟨rfl, rfl⟩ (hk _ (List.mem_singleton.2 rfl))
attribute [local go_sem ↓] Go.wp_at_zero Go.wp_at_succ
attribute [local go_sem ↓] build_k0 build_z build_l1 build_lease
attribute [local go_sem] isU8_eq isI64_eq
theorem first_end {w : World} {g n cap : Nat} {base : Nat} {x : Sec} {l : List Sec} (h : RowG encL WfL 17 28 w base g n cap l) (hx : l[0]? = some x) : w.cell? ⟨g, 16, none⟩ = some (.int .i64 x.2) := by
  have := h.range ecL hx 16 _ (encL_end (h.wf x (List.mem_of_getElem? hx)))
  simpa using this
set_option maxRecDepth 100000 in
set_option maxHeartbeats 1000000 in
theorem wakes_calls (w : World) : Calls Try.prog 9 #[] w fun r w' => r = .returned (.bool true) ∧ Below w.heap.size w w' := by
  go_enter Try.func9, Try.ntmps9
  go_wp2_with fail
  refine (new_calls w).mono ?_
  rintro r w1 ⟨tb, rfl, h1, h2, h3⟩
  have H1 := Lib.hid (And.intro h1 (And.intro h2 h3))
  clear h1 h2 h3
  go_wp2_with fail
  refine (add_calls w1 tb _ [] z16 z16 3 H1.out.2.1 Good.nil (by simp) z16_len z16_len).mono ?_
  rintro r w2 ⟨b1, v2, l2, rfl, hr2, hh2, hc2⟩
  obtain ⟨rfl, hp2⟩ := wake1 hr2
  have hg2 : Lea.Good l2 := hr2.good Good.nil
  have H2 := Lib.hid (And.intro hh2 (And.intro hp2 (And.intro hg2 hc2)))
  clear hr2 hh2 hp2 hg2 hc2
  go_wp2_with fail
  refine (add_calls w2 tb v2 l2 z16 z16 5 H2.out.1 H2.out.2.2.1 (by rw [H2.out.2.1.length_eq]; simp) z16_len z16_len).mono ?_
  rintro r w3 ⟨b2, v3, l3, rfl, hr3, hh3, hc3⟩
  obtain ⟨rfl, hp3⟩ := wake2 H2.out.2.1 hr3
  have hg3 : Lea.Good l3 := hr3.good H2.out.2.2.1
  have H3 := Lib.hid (And.intro hh3 (And.intro hp3 (And.intro hg3 hc3)))
  clear hr3 hh3 hp3 hg3 hc3
  go_wp2_with fail
  refine (of_calls w3 tb v3 l3 z16 H3.out.1.tab (by rw [H3.out.2.1.length_eq]; simp) z16_len (by have := H3.out.2.2.1.few z16; omega)).mono ?_
  rintro r w4 ⟨vo, out, rfl, hO, hR, hB4⟩
  have hout : out = [(z16, 5)] := by
    have := hR.perm.trans (ofL_perm H3.out.2.1 z16)
    exact List.perm_singleton.1 this
  subst hout
  obtain ⟨g, cap, rfl, hrow⟩ := hO.ex (by simp)
  have qe : w4.cell? ⟨g, 16, none⟩ = some (.int .i64 5) := first_end hrow (x := (z16, 5)) rfl
  have hfin : Below w.heap.size w w4 := by
    have hc := H2.out.2.2.2.trans H3.out.2.2.2
    have h1 : Chg (fun k => w.heap.size ≤ k) w w3 := (Chg.of_below H1.out.2.2).mix hc.1 (fun k hk => by
      rcases hk with rfl | hk
      · exact .inl H1.out.1
      · cases hk)
    exact (h1.trans_below hB4).below (Nat.le_refl _) (fun _ h => h)
  have HF := Lib.hid hfin
  clear hO hR hB4 hrow hfin
  go_wp2_with fail
  go_ret
  exact ⟨rfl, HF.out⟩
end Go.Proofs.Ytgjabnpngggcmaa
