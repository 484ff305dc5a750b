/- Texts of this proof, packed: LeaSet, SrvCont, LeaClone. -/
import Derived.Test.YtclhgokchcklbaaGreatDoorPk08
import Derived.Test.YtclhgokchcklbaaGreatDoorPk02
import Derived.Test.YtclhgokchcklbaaGreatDoorPk09
section
namespace Lea
open Go
def packL (l : List Sec) : List UInt8 := l.flatMap fun s => Cod.nets [s.1, Cod.be 4 s.2.toNat]
theorem packL_app (l : List Sec) (s : Sec) : packL (l ++ [s]) = packL l ++ Cod.nets [s.1, Cod.be 4 s.2.toNat] := by
  unfold packL
  rw [List.flatMap_append, List.flatMap_cons, List.flatMap_nil, List.append_nil]
end Lea
namespace Go.Proofs.YtclhgokchcklbaaGreatDoor
open Go Go.RowKit Go.Mem Gf Lea
theorem nets_one (k : Key) (h : k.length = 16) (n : Nat) : (Cod.nets [k, Cod.be 4 n]).length ≤ 48 := by
  have h1 : Lib.nDigits 16 ≤ 9 := by have := dec_len 16 (by omega); rw [Lib.itoa_nonneg, Lib.decDigits_length] at this; exact this
  have h2 : Lib.nDigits 4 ≤ 9 := by have := dec_len 4 (by omega); rw [Lib.itoa_nonneg, Lib.decDigits_length] at this; exact this
  simp only [Cod.nets, List.length_append, Cod.net_len, Cod.be_len, List.length_nil, h]
  omega
theorem packL_len (l : List Sec) (h : ∀ s ∈ l, s.1.length = 16) : (packL l).length ≤ 48 * l.length := by
  induction l with
  | nil => simp [packL]
  | cons s l ih =>
    have h1 := ih (fun x hx => h x (by simp [hx]))
    have h2 := nets_one s.1 (h s (by simp)) s.2.toNat
    unfold packL at *
    rw [List.flatMap_cons, List.length_append, List.length_cons]
    omega
theorem rws2 {w : World} {g : Nat} {t : TypeId} {v1 v2 : Value} {b1 b2 : List UInt8} (h : Blk w g #[v1, v2] t) (h1 : Bys w v1 b1) (h2 : Bys w v2 b2) : Rws w (.slice (some ⟨g, 0, none⟩) 2 2) [b1, b2] := by
  refine ⟨_, 2, rfl, by simp, by decide, fun _ => ⟨g, 0, rfl, fun k r hk => ?_⟩⟩
  rw [Nat.zero_add]
  match k, hk with
  | 0, hk => simp at hk; subst hk; exact ⟨v1, by rw [h.cell]; rfl, h1⟩
  | 1, hk => simp at hk; subst hk; exact ⟨v2, by rw [h.cell]; rfl, h2⟩
  | k + 2, hk => simp at hk
attribute [local go_sem ↓] Go.wp_at_zero Go.wp_at_succ
attribute [local go_sem ↓] load_lease store_lease
attribute [local go_sem] ptrB_eq ptrO_eq ptrIs_eq aggL_eq aggIs_eq readK_drew hasK_drew readK_alloc_past hasK_alloc_past readK_alloc_in hasK_alloc_in setCells_drew setCells_alloc_past setCells_alloc_at
set_option maxRecDepth 100000 in
set_option maxHeartbeats 1000000 in
theorem pack_calls (w : World) (base : Nat) (v : Value) (l : List Sec) (h : OwnG encL WfL 17 153 w base v l) (he : ∀ s ∈ l, 0 ≤ s.2 ∧ s.2 ≤ 1048576) (hl : l.length ≤ 1000) (hT : Tab w) :
    Calls Tryz.prog 138 #[v] w fun e w' => ∃ vo, e = .returned vo ∧ OwnB 5 w' w.heap.size vo (packL l) ∧ Below w.heap.size w w' := by
  obtain ⟨p, c, rfl⟩ := h.slice
  obtain ⟨n, hn⟩ : ∃ n, n = l.length := ⟨_, rfl⟩
  have hrow : 0 < n → ∃ g, p = some ⟨g, 0, none⟩ ∧ RowG encL WfL 17 153 w base g n c l := fun h0 => by
    obtain ⟨g, cap, e, hr⟩ := h.ex (by omega)
    injection e with ea en ec
    rw [← ec, ← hn] at hr
    exact ⟨g, ea, hr⟩
  rw [← hn] at hl ⊢
  have H := Lib.hid (And.intro hrow (And.intro hn (And.intro he hT)))
  clear h hrow hn he hT
  go_enter Tryz.func138, Tryz.ntmps138
  go_upto_region 3 with fail
  go_loopw [3, 8] (fun v3 vi wr => ∃ i : Nat, i ≤ n ∧ vi = .int .i64 i ∧ Hid (OwnB 5 wr w.heap.size v3 (packL (l.take i)) ∧ Below w.heap.size w wr)) (fun _ vi _ => n - (intOf vi).toNat)
  case atStart => exact ⟨0, Nat.zero_le _, rfl, World.ownsRow_nil _ _ _ _, Below.refl _ _⟩
  case round =>
    obtain ⟨i, hi0, rfl, G⟩ := hrel
    by_cases hin : i < n
    · obtain ⟨g, rfl, hr0⟩ := H.out.1 (by omega)
      have hr := hr0.chg (S := fun _ => False) (Chg.of_below G.out.2) (fun h => h)
      have hx : l[i]? = some (l[i]'(by have := H.out.2.1; omega)) := by simp
      generalize l[i]'(by have := H.out.2.1; omega) = x at hx
      have wx := hr.wf x (List.mem_of_getElem? hx)
      have hxe := H.out.2.2.1 x (List.mem_of_getElem? hx)
      have rx := hr.read ecL hx
      have t1 : HasK 17 wr g (i * 17) := hr.there hin
      have ax := allL wx
      have lx := ecL.len x wx
      have gl : g < wr.heap.size := hr.lt
      have i0 : (0 : Int) ≤ (i : Int) := by omega
      have i1 : (i : Int) < (n : Int) := by omega
      obtain ⟨m, hm⟩ : ∃ m : Nat, m = x.2.toNat := ⟨_, rfl⟩
      have hm2 : x.2 = (m : Int) := by omega
      have ce := leaseEnd wx
      rw [hm2] at ce
      have hsec := fun (k : Nat) (u : UInt8) (hk : x.1[k]? = some u) => encL_sec hk
      have hp1 : packL (l.take (i + 1)) = packL (l.take i) ++ Cod.nets [x.1, Cod.be 4 m] := by rw [List.take_add_one, hx, Option.toList_some, packL_app, hm]
      have hpl : (packL (l.take i)).length ≤ 48000 := by
        have := packL_len (l.take i) (fun s hs => hr.wf s (List.mem_of_mem_take hs))
        rw [List.length_take] at this
        omega
      obtain ⟨cl, hcl⟩ : ∃ c, c = encL x := ⟨_, rfl⟩
      rw [← hcl] at rx ax lx ce
      have hmb : m ≤ 1048576 := by omega
      have HX := Lib.hid (And.intro wx (And.intro hcl (And.intro hsec (And.intro hp1 hpl))))
      clear hr0 hr hx hxe hm hm2 hcl hsec hp1 hpl wx
      go_upto_region 5 with fail
      have hW1 : Blk (wr.alloc (.cells cl.toArray 153)) wr.heap.size cl.toArray 153 := Blk.new _ _ _
      have hB1 : Below wr.heap.size wr (wr.alloc (.cells cl.toArray 153)) := (Below.refl _ _).alloc (Nat.le_refl _) _
      obtain ⟨W1, hw1⟩ : ∃ W, W = wr.alloc (.cells cl.toArray 153) := ⟨_, rfl⟩
      obtain ⟨p5, hp5⟩ : ∃ q, q = wr.heap.size := ⟨_, rfl⟩
      rw [← hw1] at hW1 hB1 ⊢
      rw [← hp5] at hW1 ⊢
      have HW := Lib.hid (And.intro hW1 (And.intro hB1 hp5))
      clear hw1 hp5 hW1 hB1
      have c16 : W1.cell? ⟨p5, 16, none⟩ = some (.int .i64 m) := by rw [HW.out.1.cell 16]; exact ce
      go_region_law
        (first
          | (refine stepApp_bytes E8c (by rfl) _ _ (by rfl) (base := w.heap.size) (v := u3) (xv := v3) (bs := packL (l.take i)) (news := Cod.nets [x.1, Cod.be 4 m]) (by rfl) (by rfl) (own_chg (S := fun _ => False) HY.out.1 (Chg.of_below HZ.out.2) (fun _ _ h => h)) HZ.out.1.bys (by have := nets_one x.1 HX.out.1 m; have := HX.out.2.2.2.2; omega) (Nat.le_trans G.out.2.size (Nat.le_trans HY.out.2.2.2.2.size HZ.out.2.size)) ?_
             intro v4 x4 hv4 hg4
             have HV := Lib.hid (And.intro hv4 hg4)
             clear hv4 hg4)
          | (go_simp
             go_at_call 172
             refine (put_x m 4 (by omega) (by decide) (by decide) W1.drew).mono ?_
             rintro e w' ⟨vo, rfl, h2, h3⟩
             obtain ⟨pa, pc, rfl⟩ := h2.eq_slice
             have h3' : Below W1.heap.size W1 w' := ⟨h3.os, h3.tape, h3.output, h3.size, h3.block⟩
             have hbW : Below wr.heap.size wr w' := HW.out.2.1.trans (h3'.mono HW.out.2.1.size)
             have hO' := own_chg (S := fun _ => False) G.out.1 (Chg.of_below hbW) (fun _ _ h => h)
             have hT' := H.out.2.2.2.below (G.out.2.trans (hbW.mono G.out.2.size))
             have hby1 : Bys w' (.slice (some ⟨p5, 0, none⟩) 16 16) x.1 := by
               have := Blk.bys (HW.out.1.kept h3') (bs := x.1) (cap := 16) (by rw [HX.out.1]; omega) (by decide) (fun k u hk => by rw [HX.out.2.1]; simpa using HX.out.2.2.1 k u hk)
               rwa [HX.out.1] at this
             have HY := Lib.hid (And.intro hO' (And.intro hT' (And.intro hby1 (And.intro h2.bys hbW))))
             rw [Cod.be_len] at HY ⊢
             clear h2 h3 h3' hO' hT' hby1 hbW)
          | (go_simp
             go_at_call 171
             refine (nets_calls _ [x.1, Cod.be 4 m] _ (HY.out.2.1.below ((Below.refl w'.heap.size w').alloc (Nat.le_refl _) _)) (rws2 (Blk.new _ _ _) (HY.out.2.2.1.below ((Below.refl w'.heap.size w').alloc (Nat.le_refl _) _)) (HY.out.2.2.2.1.below ((Below.refl w'.heap.size w').alloc (Nat.le_refl _) _))) (by have := nets_one x.1 HX.out.1 m; omega)).mono ?_
             rintro e w3 ⟨v3, rfl, h3, hb3⟩
             have hb4 : Below w'.heap.size w' w3 := ((Below.refl w'.heap.size w').alloc (Nat.le_refl _) _).trans (hb3.mono (by simp))
             have HZ := Lib.hid (And.intro h3 hb4)
             clear h3 hb3 hb4))
      all_goals go_wp2_with fail
      refine ⟨⟨i + 1, by omega, by simp, by rw [HX.out.2.2.2.1]; exact HV.out.1, ?_⟩, by show n - ((i : Int) + 1).toNat < n - (i : Int).toNat; omega⟩
      have hb5 : Below w.heap.size w w3 := (G.out.2.trans (HY.out.2.2.2.2.mono G.out.2.size)).trans (HZ.out.2.mono (Nat.le_trans G.out.2.size HY.out.2.2.2.2.size))
      exact (Chg.grown (S := fun k => w.heap.size ≤ k) (Chg.of_below hb5) HV.out.2 (fun q hq => .inl (G.out.1.lt _ hq).1)).below (Nat.le_refl _) (fun _ h => h)
    · go_wp2_with fail
      go_ret
      have := G.out.1
      rw [List.take_of_length_le (by have := H.out.2.1; omega)] at this
      exact ⟨_, rfl, this, G.out.2⟩
end Go.Proofs.YtclhgokchcklbaaGreatDoor
namespace Go.Proofs.YtclhgokchcklbaaGreatDoor
open Go Go.RowKit Go.Mem Gf Lea
theorem nets_two (a b r : List UInt8) : Cod.nets [a, b] ++ r = Cod.net a ++ (Cod.net b ++ r) := by simp [Cod.nets]
theorem packL_cons (s : Sec) (l : List Sec) : packL (s :: l) = Cod.net s.1 ++ (Cod.net (Cod.be 4 s.2.toNat) ++ packL l) := by
  unfold packL
  rw [List.flatMap_cons, nets_two]
theorem bys_range {w : World} {b o n c : Nat} {bs : List UInt8} (h : Bys w (.slice (some ⟨b, o, none⟩) n c) bs) : w.rangeAt b o (bV bs) := fun j v hv => by
  rw [bV_get] at hv
  cases hu : bs[j]? with
  | none => rw [hu] at hv; cases hv
  | some u =>
    rw [hu] at hv
    obtain ⟨a', c', e, _, _, h3⟩ := h
    injection e with e1 _ _
    obtain ⟨b', o', e', hc⟩ := h3 (by have := some_lt hu; omega)
    rw [← e1] at e'
    injection e' with e'
    injection e' with e1 e2
    subst e1
    subst e2
    rw [hc j u hu]
    simpa using hv
theorem arrayAt_key (b o c : Nat) (w : World) : (Instr.arrayAt 44 (.slice (some ⟨b, o, none⟩) 16 c)).run Tryz.prog w = .ok (.pointer (some ⟨b, o, none⟩)) w := by kernel_rfl
def sLenB : Value → Nat
  | .slice _ n _ => n
  | _ => 0
attribute [local go_sem ↓] Go.wp_at_zero Go.wp_at_succ
attribute [local go_sem ↓] load_keyS build_lease slice_lease
attribute [local go_sem] arrayAt_key ptrB_eq ptrO_eq ptrIs_eq aggL_eq aggIs_eq readK_drew someK_drew readK_alloc_past
set_option maxRecDepth 100000 in
set_option maxHeartbeats 1000000 in
theorem unpack_calls (w : World) (v : Value) (l : List Sec) (h : Bys w v (packL l)) (hw : ∀ s ∈ l, WfL s ∧ 0 ≤ s.2 ∧ s.2 ≤ 1048576) (hl : l.length ≤ 1000) :
    Calls Tryz.prog 83 #[v] w fun e w' => ∃ vo, e = .returned (.tuple #[vo, .bool true]) ∧ OwnG encL WfL 17 153 w' w.heap.size vo l ∧ Below w.heap.size w w' := by
  obtain ⟨va, vc, e0⟩ := h.eq_slice
  obtain ⟨n, hn⟩ : ∃ n, n = l.length := ⟨_, rfl⟩
  have H := Lib.hid (And.intro h (And.intro hn hw))
  rw [← hn] at hl
  have E0 := Lib.hid e0
  clear h hn hw e0
  go_enter Tryz.func83, Tryz.ntmps83
  go_upto_region 2 with fail
  go_loopw [0, 4] (fun v0 v4 wr => ∃ i : Nat, i ≤ n ∧ Hid (Bys wr v0 (packL (l.drop i)) ∧ OwnG encL WfL 17 153 wr w.heap.size v4 (l.take i) ∧ Below w.heap.size w wr ∧ sLenB v4 = i)) (fun _ v4 _ => n - sLenB v4)
  case atStart => exact ⟨0, Nat.zero_le _, H.out.1, OwnG.nil _ _ _ _ _ _, Below.refl _ _, rfl⟩
  case round =>
    obtain ⟨i, hi0, G⟩ := hrel
    obtain ⟨ba, bc, eb⟩ := G.out.1.eq_slice
    by_cases hin : i < n
    · have hx : l[i]? = some (l[i]'(by have := H.out.2.1; omega)) := by simp
      generalize l[i]'(by have := H.out.2.1; omega) = x at hx
      have hwx := H.out.2.2 x (List.mem_of_getElem? hx)
      obtain ⟨m, hm⟩ : ∃ m : Nat, m = x.2.toNat := ⟨_, rfl⟩
      have hm2 : x.2 = (m : Int) := by omega
      have hmb : m ≤ 1048576 := by omega
      have hpk : packL (l.drop i) = Cod.net x.1 ++ (Cod.net (Cod.be 4 m) ++ packL (l.drop (i + 1))) := by
        have : l.drop i = x :: l.drop (i + 1) := by
          have hi := some_lt hx
          rw [List.drop_eq_getElem_cons hi]
          rw [List.getElem?_eq_getElem hi] at hx
          cases hx; rfl
        rw [this, packL_cons, hm]
      have hlen : (packL (l.drop i)).length ≤ 48000 := by
        have := packL_len (l.drop i) (fun s hs => (H.out.2.2 s (List.mem_of_mem_drop hs)).1)
        rw [List.length_drop] at this
        have := H.out.2.1
        omega
      have hpos : 0 < (packL (l.drop i)).length := by
        rw [hpk, List.length_append, Cod.net_len]
        omega
      obtain ⟨k, hk⟩ : ∃ k, k = (packL (l.drop i)).length := ⟨_, rfl⟩
      rw [← hk] at eb hlen hpos
      have HX := Lib.hid (And.intro hx (And.intro hwx (And.intro hm2 (And.intro hpk hk))))
      have d0 : decide ((0 : Int) < (k : Int)) = true := by simp; omega
      have d0' : decide (0 < k) = true := by simp; omega
      subst eb
      clear hx hwx hm hm2 hpk hk hpos
      go_wp2_with fail
      have h1 := takeNet_ok _ (packL (l.drop i)) x.1 (Cod.net (Cod.be 4 m) ++ packL (l.drop (i + 1))) wr G.out.1 (by rw [← HX.out.2.2.2.2]; omega) (by rw [HX.out.2.2.2.1]; exact Cod.takeNet_net _ _ (by rw [HX.out.2.1.1]; omega))
      refine h1.mono ?_
      rintro r w3 ⟨vx, vy, rfl, hX, hY, hB3⟩
      obtain ⟨xa, xc, rfl⟩ := hX.eq_slice
      obtain ⟨ya, yc, rfl⟩ := hY.eq_slice
      have HX3 := Lib.hid (And.intro hX.bys (And.intro hY.bys hB3))
      rw [HX.out.2.1.1] at HX3 ⊢
      clear h1 hX hY hB3
      obtain ⟨q, hq⟩ : ∃ q, q = (Cod.net (Cod.be 4 m) ++ packL (l.drop (i + 1))).length := ⟨_, rfl⟩
      rw [← hq] at HX3 ⊢
      have HQ := Lib.hid hq
      clear hq
      obtain ⟨xb, xo, rfl⟩ : ∃ b o, xa = some ⟨b, o, none⟩ := by
        obtain ⟨a', c', e, _, _, h3⟩ := HX3.out.1
        obtain ⟨b, o, e', _⟩ := h3 (by rw [HX.out.2.1.1]; omega)
        injection e with e1 _ _
        exact ⟨b, o, by rw [e1, e']⟩
      go_wp2_with fail
      have hqn : q ≤ 60000 := by
        rw [HQ.out]
        have := HX.out.2.2.2.1
        have h2 := HX.out.2.2.2.2
        rw [this, List.length_append] at h2
        omega
      refine (takeNet_ok _ _ (Cod.be 4 m) (packL (l.drop (i + 1))) w3 HX3.out.2.1 (by rw [← HQ.out]; omega) (Cod.takeNet_net _ _ (by rw [Cod.be_len]; omega))).mono ?_
      rintro r w4 ⟨vx, vy, rfl, hX, hY, hB4⟩
      obtain ⟨aa, ac, rfl⟩ := hX.eq_slice
      obtain ⟨ra, rc, rfl⟩ := hY.eq_slice
      rw [Cod.be_len] at hX ⊢
      obtain ⟨k2, hk2⟩ : ∃ q, q = (packL (l.drop (i + 1))).length := ⟨_, rfl⟩
      rw [← hk2] at hY ⊢
      have hrng := bys_range (HX3.out.1.below hB4)
      have hlb : (bV x.1).length = 16 := by rw [bV_len]; exact HX.out.2.1.1
      have s4 : SomeK 16 w4 xb xo := someK_of hrng hlb
      have r4 : readK 16 w4 xb xo = bV x.1 := readK_eq hrng hlb
      have HX4 := Lib.hid (And.intro hX.bys (And.intro hY (HX3.out.2.2.trans (hB4.mono HX3.out.2.2.size))))
      clear hX hY hB4 hrng hk2
      go_wp2_with fail
      refine (get_calls _ (Cod.be 4 m) w4 HX4.out.1 (by rw [Cod.be_len]; omega)).mono ?_
      rintro r w5 ⟨rfl, rfl⟩
      rw [Cod.getN_be 4 m (by omega)]
      have wy : WfL (x.1, (m : Int)) := HX.out.2.1.1
      have ay := allL wy
      obtain ⟨cy, hcy⟩ : ∃ c, c = encL (x.1, (m : Int)) := ⟨_, rfl⟩
      have f1 : (bV x.1).toArray.push (.int .i64 (m : Int)) = cy.toArray := by rw [hcy]; unfold encL; simp
      have f2 : (bV x.1).toArray ++ #[.int .i64 (m : Int)] = cy.toArray := by rw [hcy]; unfold encL; simp
      have f3 : bV x.1 ++ [.int .i64 (m : Int)] = cy := by rw [hcy]; rfl
      rw [← hcy] at ay
      have HCY := Lib.hid hcy
      clear hcy
      have HO4 := Lib.hid (G.out.2.1.chg (S := fun _ => False) (Chg.of_below HX4.out.2.2) (fun _ _ h => h))
      go_wp2_with
        (first
          | (refine appG_own EKl ecL (by rfl) _ _ (by rfl) (base := w.heap.size) (l := l.take i) (cx := 1) (e' := 153) (x.1, (m : Int)) wy (by rfl) (by rfl) (by rw [← HCY.out]; exact Blk.new_at _ _ _ _ (by simp)) (HO4.out.chg (S := fun _ => False) (Chg.of_below ((Below.refl _ _).alloc (Nat.le_refl _) _)) (fun _ _ h => h)) (by rw [List.length_take]; omega) (by decide) (by have := G.out.2.2.1.size; have := HX4.out.2.2.size; simp; omega) ?_
             intro v1 x1 hv1 hg1 hs1
             have HV1 := Lib.hid (And.intro hv1 hg1)
             clear hv1 hg1 hs1)
          | fail)
      have hBW : Below w4.heap.size w4 (w4.alloc (.cells cy.toArray 153)) := (Below.refl _ _).alloc (Nat.le_refl _) _
      have hu : ∀ g, u4.ownBlock = some g → w.heap.size ≤ g ∧ g < w3.heap.size := fun g e => by
        have h1 := G.out.2.1.own.lt _ e
        have h2 := HX3.out.2.2.size
        omega
      have hCW : Chg (fun b => u4.ownBlock = some b) w4 x1 := Chg.grown (Chg.of_below hBW) HV1.out.2 (fun q hq => .inl hq)
      have hxm : (x.1, (m : Int)) = x := by rw [← HX.out.2.2.1]
      have hlv : sLenB v1 = i + 1 := by
        obtain ⟨_, _, e⟩ := HV1.out.1.slice
        rw [e]
        show (l.take i ++ [(x.1, (m : Int))]).length = i + 1
        rw [List.length_append, List.length_take, List.length_singleton]
        have := H.out.2.1
        omega
      refine ⟨⟨i + 1, by omega, (HX4.out.2.1.chg hCW (fun g e1 e2 => ?_)).bys, ?_, ?_, hlv⟩, ?_⟩
      · have h1 := (HX4.out.2.1.lt _ e1).1
        have h2 := (hu g e2).2
        omega
      · have := HV1.out.1
        rw [hxm] at this
        rw [List.take_add_one, HX.out.1]
        exact this
      · have h4 : Below w.heap.size w w4 := G.out.2.2.1.trans (HX4.out.2.2.mono G.out.2.2.1.size)
        exact ((Chg.of_below (S := fun k => w.heap.size ≤ k) h4).mix hCW (fun k hk => .inl (hu k hk).1)).below (Nat.le_refl _) (fun _ h => h)
      · rw [hlv, G.out.2.2.2]
        omega
    · have hfull : l.take i = l := List.take_of_length_le (by have := H.out.2.1; omega)
      have hnil : packL (l.drop i) = [] := by rw [List.drop_of_length_le (by have := H.out.2.1; omega)]; rfl
      rw [hnil] at eb
      have HF := Lib.hid hfull
      clear hfull hnil
      subst eb
      go_wp2_with fail
      go_ret2
      exact ⟨_, rfl, by rw [← HF.out]; exact G.out.2.1, G.out.2.2.1⟩
end Go.Proofs.YtclhgokchcklbaaGreatDoor
namespace Go.Proofs.YtclhgokchcklbaaGreatDoor
open Go Go.RowKit Go.Mem Gf Lea
theorem bequal_calls (v1 v2 : Value) (bs : List UInt8) (w : World) (h1 : Bys w v1 bs) (h2 : Bys w v2 bs) : Calls Tryz.prog 86 #[v1, v2] w fun e w' => e = .returned (.bool true) ∧ w' = w := by
  refine (Tryz.bytes_Equal_strs v1 v2 ⟨bs.toArray⟩ ⟨bs.toArray⟩ w (conv_string h1) (conv_string h2)).mono ?_
  rintro e w' ⟨rfl, rfl⟩
  exact ⟨by simp, rfl⟩
attribute [local go_sem ↓] Go.wp_at_zero Go.wp_at_succ
attribute [local go_sem ↓] load_leaseS load_key load_lease store_lease
attribute [local go_sem] ptrB_eq ptrO_eq ptrIs_eq aggL_eq aggIs_eq readK_drew hasK_drew readK_alloc_past hasK_alloc_past readK_alloc_in hasK_alloc_in setCells_drew setCells_alloc_past setCells_alloc_at
set_option maxRecDepth 100000 in
set_option maxHeartbeats 1000000 in
theorem tpack_calls (w : World) (tb : Nat) (v : Value) (l : List Les) (ix : Key) (h : LTab w tb v l) (hl : l.length ≤ 90000) (hix : ix.length = 16) (h8 : (ofL l ix).length ≤ 12) (hg : ∀ x ∈ l, May x.e) (hT : Tab w) :
    Calls Tryz.prog 87 #[.pointer (some ⟨tb, 0, none⟩), .agg (bV ix).toArray] w fun e w' => ∃ vo out, e = .returned vo ∧ OwnB 5 w' w.heap.size vo (packL out) ∧ OfR l ix out ∧ Below w.heap.size w w' := by
  have H := Lib.hid (And.intro h (And.intro hg hT))
  have k1 := (key_in hix).1
  have k2 := (key_in hix).2
  have HB : Hid (Below w.heap.size w (w.alloc (.cells (bV ix).toArray 44))) := (Below.refl _ _).alloc (Nat.le_refl _) _
  clear h hg hT
  go_enter Tryz.func87, Tryz.ntmps87
  go_wp2_with fail
  refine (of_calls _ tb v l ix (H.out.1.below HB.out) (by omega) hix h8).mono ?_
  rintro r w1 ⟨vo, out, rfl, hO, hR, hB1⟩
  have hb1 := HB.out.trans (hB1.mono HB.out.size)
  have hlen : out.length ≤ 12 := by rw [hR.perm.length_eq]; exact h8
  have HO := Lib.hid (And.intro hO (And.intro hR hb1))
  clear hO hR hB1 hb1
  go_wp2_with fail
  refine (pack_calls w1 _ vo out HO.out.1 (fun s hs => ?_) (by omega) (H.out.2.2.below HO.out.2.2)).mono ?_
  · obtain ⟨x, hx, _, e⟩ := mem_ofL.1 (HO.out.2.1.perm.mem_iff.1 hs)
    have := H.out.2.1 x hx
    rw [← e]
    unfold May at this
    simp only
    omega
  rintro r w2 ⟨vb, rfl, hb, hB2⟩
  have HP := Lib.hid (And.intro hb hB2)
  clear hb hB2
  go_wp2_with fail
  go_ret
  have hlo := HP.out.1
  refine ⟨vb, out, rfl, ⟨hlo.1, ?_⟩, HO.out.2.1, HO.out.2.2.trans (HP.out.2.mono HO.out.2.2.size)⟩
  rcases hlo.2 with e | ⟨g, cap, cur, e1, h1, h2⟩
  · exact .inl e
  · exact .inr ⟨g, cap, cur, e1, Nat.le_trans HO.out.2.2.size h1, h2⟩
def itemsS (ix : Key) (l : List Sec) : List Les := l.map fun s => ⟨ix, s.1, s.2⟩
theorem ofL_items (lt : List Les) (ix : Key) (l : List Sec) (hlt : ∀ y ∈ lt, y.ix ≠ ix) : ofL (lt ++ itemsS ix l) ix = l := by
  rw [ofL_app, ofL_nil.2 hlt, List.nil_append]
  unfold ofL itemsS
  rw [List.filter_eq_self.2 (fun x hx => by
    obtain ⟨s, _, rfl⟩ := List.mem_map.1 hx
    simp), List.map_map]
  exact (List.map_congr_left (fun s _ => rfl)).trans (List.map_id l)
theorem set_no {L lt : List Les} {ix : Key} {l : List Sec} {i : Nat} {x : Sec} (hL : L.Perm (lt ++ itemsS ix (l.take i))) (hlt : ∀ y ∈ lt, y.ix ≠ ix) (hx : l[i]? = some x) (hnd : (l.map (·.1)).Nodup) : NoKey L ix x.1 := fun y hy ⟨e1, e2⟩ => by
  have hi := some_lt hx
  rcases List.mem_append.1 (hL.mem_iff.1 hy) with hy | hy
  · exact hlt y hy e1
  · obtain ⟨s, hs, rfl⟩ := List.mem_map.1 hy
    obtain ⟨j, hj⟩ := List.mem_iff_getElem?.1 hs
    rw [List.getElem?_take] at hj
    split at hj
    · rename_i hji
      have e : (l.map (·.1))[j]? = (l.map (·.1))[i]? := by
        rw [List.getElem?_map, List.getElem?_map, hj, hx]
        simpa using e2
      have := (List.getElem?_inj (by rw [List.length_map]; omega) hnd).1 e
      omega
    · cases hj
theorem set_add {L l' lt : List Les} {ix : Key} {l : List Sec} {i : Nat} {x : Sec} {b : Bool} (hL : L.Perm (lt ++ itemsS ix (l.take i))) (hlt : ∀ y ∈ lt, y.ix ≠ ix) (hx : l[i]? = some x) (hnd : (l.map (·.1)).Nodup) (hl8 : l.length ≤ 8) (hm : May x.2) (h : AddR L ix x.1 x.2 b l') :
    b = true ∧ l'.Perm (lt ++ itemsS ix (l.take (i + 1))) := by
  have hi := some_lt hx
  have hk : NoKey L ix x.1 := set_no hL hlt hx hnd
  have hc : (ofL L ix).length < 8 := by
    rw [(ofL_perm hL ix).length_eq, ofL_items _ _ _ hlt, List.length_take]
    omega
  cases h with
  | no h => exact absurd h (by rintro (h | ⟨_, h⟩); exact h hm; omega)
  | more k y _ _ hy h1 h2 _ => exact absurd ⟨h1, h2⟩ (hk y (List.mem_of_getElem? hy))
  | new _ _ _ _ hp =>
    refine ⟨rfl, hp.trans ?_⟩
    rw [List.take_add_one, hx]
    unfold itemsS
    rw [Option.toList_some, List.map_append, ← List.append_assoc]
    exact hL.append_right _
set_option maxRecDepth 100000 in
set_option maxHeartbeats 1000000 in
theorem set_calls (w : World) (tb : Nat) (v : Value) (lt : List Les) (ix : Key) (vb : Value) (l : List Sec) (h : Heap w tb v lt) (hg : Lea.Good lt) (hll : lt.length ≤ 1000) (hlt : ∀ y ∈ lt, y.ix ≠ ix) (hb : Bys w vb (packL l)) (hw : ∀ s ∈ l, WfL s ∧ May s.2) (hl : l.length ≤ 8) (hnd : (l.map (·.1)).Nodup) (hs : l.Pairwise fun a b => ltL b a = false) (hix : ix.length = 16) (hT : Tab w) :
    Calls Tryz.prog 43 #[.pointer (some ⟨tb, 0, none⟩), .agg (bV ix).toArray, vb] w fun r w' => ∃ v' l', r = .returned (.bool true) ∧ Heap w' tb v' l' ∧ Lea.Good l' ∧ l'.Perm (lt ++ itemsS ix l) ∧ TChg tb v v' w w' := by
  have H := Lib.hid (And.intro h (And.intro hg (And.intro hlt (And.intro hb (And.intro hw (And.intro hnd (And.intro hs hT)))))))
  obtain ⟨ba, bc, eb⟩ := hb.eq_slice
  have EB := Lib.hid eb
  have k1 := (key_in hix).1
  have k2 := (key_in hix).2
  have htb := h.tab.cell.lt
  clear h hg hlt hb hw hnd hs hT eb
  go_enter Tryz.func43, Tryz.ntmps43
  have HB1 : Hid (Below w.heap.size w (w.alloc (.cells (bV ix).toArray 44))) := (Below.refl _ _).alloc (Nat.le_refl _) _
  have HK1 : Hid (Blk (w.alloc (.cells (bV ix).toArray 44)) w.heap.size (bV ix).toArray 44) := Blk.new _ _ _
  obtain ⟨w1, hw1⟩ : ∃ x, x = w.alloc (.cells (bV ix).toArray 44) := ⟨_, rfl⟩
  obtain ⟨p4, hp4⟩ : ∃ p, p = w.heap.size := ⟨_, rfl⟩
  have HW1 := Lib.hid (And.intro hw1 hp4)
  go_upto_region 1 with fail
  rw [← hw1] at HB1 HK1 ⊢
  rw [← hp4] at HK1 ⊢
  have hz1 : w1.heap.size = p4 + 1 := by rw [hw1, hp4]; simp
  have HZ1 := Lib.hid hz1
  clear hw1 hp4 hz1
  go_wp2_with fail
  refine (unpack_calls w1 vb l (H.out.2.2.2.1.below HB1.out) (fun s hs => ⟨(H.out.2.2.2.2.1 s hs).1, by have := (H.out.2.2.2.2.1 s hs).2; unfold May at this; omega⟩) (by omega)).mono ?_
  rintro r w2 ⟨vo, rfl, hO, hB2⟩
  obtain ⟨oa, oc, rfl⟩ := hO.slice
  obtain ⟨n, hn⟩ : ∃ n, n = l.length := ⟨_, rfl⟩
  rw [← hn] at hl ⊢
  have HN := Lib.hid hn
  have H2 := Lib.hid (And.intro hO (And.intro (HK1.out.kept hB2) (HB1.out.trans (hB2.mono HB1.out.size))))
  have hz2 := hB2.size
  clear hO hB2 hn
  go_wp2_with fail
  refine (new_calls w2).mono ?_
  rintro r w3 ⟨t1, rfl, f1, f2, f3⟩
  have HE3 := Lib.hid (Env0.new f1 f2 f3)
  clear f1 f2 f3
  go_upto_region 6 with fail
  go_loopw [26] (fun vi wr => ∃ (i : Nat) (v1 : Value) (l1 : List Les), i ≤ n ∧ vi = .int .i64 i ∧ Hid (Env0 w2 wr t1 v1 l1 ∧ l1.Perm ([] ++ itemsS ix (l.take i)))) (fun vi _ => n - (intOf vi).toNat)
  case atStart => exact ⟨0, _, [], Nat.zero_le _, rfl, HE3.out, List.Perm.refl _⟩
  case round =>
    obtain ⟨i, v1, l1, hi0, rfl, G⟩ := hrel
    by_cases hin : i < n
    · have hB := G.out.1.bel
      obtain ⟨g, cap, e0, hr0⟩ := H2.out.1.ex (by rw [← HN.out]; omega)
      injection e0 with ea en ec
      subst ea
      rw [← ec, ← HN.out] at hr0
      have hr := hr0.chg (S := fun _ => False) (Chg.of_below hB) (fun h => h)
      have hx : l[i]? = some (l[i]'(by have := HN.out; omega)) := by simp
      generalize l[i]'(by have := HN.out; omega) = x at hx
      have hwx := H.out.2.2.2.2.1 x (List.mem_of_getElem? hx)
      have wx := hwx.1
      have rx := hr.read ecL hx
      have t1' : HasK 17 wr g (i * 17) := hr.there hin
      have ax := allL wx
      have lx := ecL.len x wx
      have gl : g < wr.heap.size := hr.lt
      have hkb := H2.out.2.1.kept hB
      have r4 : readK 16 wr p4 0 = bV ix := blk_read0 hkb (by rw [bV_len]; exact hix)
      have h4 : HasK 16 wr p4 0 := blk_has hkb (by simp [bV_len, hix])
      have l4 := hkb.lt
      have ks := leaseSec wx
      have i0 : (0 : Int) ≤ (i : Int) := by omega
      have i1 : (i : Int) < (n : Int) := by omega
      obtain ⟨cl, hcl⟩ : ∃ c, c = encL x := ⟨_, rfl⟩
      rw [← hcl] at rx ax lx ks
      have kl : cutC cl.toArray 0 17 = cl := by unfold cutC; rw [List.toList_toArray, List.drop_zero, List.take_of_length_le (by omega)]
      have HX := Lib.hid (And.intro hx (And.intro hwx hcl))
      clear hr0 hr hx hwx wx hcl hkb en ec
      have hl1 : l1.length ≤ 1000 := by
        rw [G.out.2.length_eq]
        unfold itemsS
        simp
        omega
      have hfind : Calls Tryz.prog 84 #[.pointer (some ⟨t1, 0, none⟩), .agg (bV ix).toArray, .agg (bV x.1).toArray] (wr.alloc (.cells cl.toArray 153)) fun r w' => r = .returned (.int .i64 (-1)) ∧ Below wr.heap.size wr w' ∧ readK 17 w' wr.heap.size 0 = cl ∧ HasK 17 w' wr.heap.size 0 := by
        have hW : Below wr.heap.size wr (wr.alloc (.cells cl.toArray 153)) := (Below.refl _ _).alloc (Nat.le_refl _) _
        have hE := G.out.1.below hW
        refine (find_calls _ t1 v1 l1 ix x.1 hE.heap.tab (by omega) hix HX.out.2.1.1).mono ?_
        rintro r w' ⟨k, rfl, hF, hB'⟩
        have hbk := (Blk.new wr cl.toArray 153).kept hB'
        refine ⟨?_, hW.trans (hB'.mono hW.size), blk_read0 hbk lx, blk_has hbk (by simp [lx])⟩
        rcases hF with ⟨rfl, _⟩ | ⟨kk, y, rfl, hy, e1, e2⟩
        · rfl
        · exact absurd ⟨e1, e2⟩ (set_no G.out.2 (fun _ h => by cases h) HX.out.1 H.out.2.2.2.2.2.1 y (List.mem_of_getElem? hy))
      have HFI := Lib.hid hfind
      have HBB := Lib.hid hB
      clear hfind hB
      go_wp2_with
        (first
          | (go_at_call 84
             refine HFI.out.mono ?_
             rintro r w4 ⟨rfl, hB4, r17, h17⟩
             have hk4 := H2.out.2.1.kept (HBB.out.trans (hB4.mono HBB.out.size))
             have r44 : readK 16 w4 p4 0 = bV ix := blk_read0 hk4 (by rw [bV_len]; exact hix)
             have h44 : HasK 16 w4 p4 0 := blk_has hk4 (by simp [bV_len, hix])
             have s17 := h17.some
             have HB4 := Lib.hid hB4
             clear hB4 hk4)
          | (go_at_call 85
             refine (show Calls _ _ _ _ _ from (by
               rw [HX.out.2.2]
               exact (add_calls w4 t1 v1 l1 ix x.1 x.2 (G.out.1.below HB4.out).heap G.out.1.good (by omega) hix HX.out.2.1.1))).mono ?_
             rintro r w5 ⟨b5, v5, l5, rfl, hr5, hh5, hc5⟩
             have h5 := set_add G.out.2 (fun _ h => by cases h) HX.out.1 H.out.2.2.2.2.2.1 (by rw [← HN.out]; exact hl) HX.out.2.1.2 hr5
             obtain ⟨rfl, hp5⟩ := h5
             have HE5 := Lib.hid (And.intro ((G.out.1.below HB4.out).tchg hc5 hh5 (hr5.good G.out.1.good)) hp5)
             clear hr5 hh5 hc5 hp5)
          | fail)
      exact ⟨⟨i + 1, v5, l5, by omega, by simp, HE5.out.1, HE5.out.2⟩, by show n - ((i : Int) + 1).toNat < n - (i : Int).toNat; omega⟩
    · have hB := G.out.1.bel
      have hkb := H2.out.2.1.kept hB
      have r4 : readK 16 wr p4 0 = bV ix := blk_read0 hkb (by rw [bV_len]; exact hix)
      have h4 : HasK 16 wr p4 0 := blk_has hkb (by simp [bV_len, hix])
      have hfull : l.take i = l := List.take_of_length_le (by have := HN.out; omega)
      have hp1 := G.out.2
      rw [hfull, List.nil_append] at hp1
      have hl1 : l1.length ≤ 1000 := by
        rw [hp1.length_eq]
        unfold itemsS
        rw [List.length_map, ← HN.out]
        omega
      have hBw : Below w.heap.size w wr := H2.out.2.2.trans (hB.mono H2.out.2.2.size)
      have HQ := Lib.hid (And.intro hp1 (And.intro hB hBw))
      clear hfull hp1 hB hBw hkb
      go_wp2_with fail
      refine (tpack_calls wr t1 v1 l1 ix G.out.1.heap.tab (by omega) hix (G.out.1.few ix) G.out.1.good.ends (H.out.2.2.2.2.2.2.2.below HQ.out.2.2)).mono ?_
      rintro r w5 ⟨vp, out, rfl, hP, hR, hB5⟩
      have hout : out = l := sorted_eq (fun _ _ h1 h2 => ltL_anti h2 h1) out l hR.up H.out.2.2.2.2.2.2.1 (hR.perm.trans (by
        have h1 := ofL_perm HQ.out.1 ix
        have h2 := ofL_items [] ix l (fun _ h => by cases h)
        rw [List.nil_append] at h2
        rw [h2] at h1
        exact h1))
      rw [hout] at hP
      have HP := Lib.hid (And.intro hP (And.intro hB5 (HQ.out.2.2.trans (hB5.mono HQ.out.2.2.size))))
      clear hP hR hB5 hout
      go_wp2_with fail
      refine (bequal_calls vp vb (packL l) w5 HP.out.1.bys (H.out.2.2.2.1.below HP.out.2.2)).mono ?_
      rintro r w6 ⟨rfl, rfl⟩
      have hk5 := (H2.out.2.1.kept HQ.out.2.1).kept HP.out.2.1
      have r45 : readK 16 w6 p4 0 = bV ix := blk_read0 hk5 (by rw [bV_len]; exact hix)
      have h45 : HasK 16 w6 p4 0 := blk_has hk5 (by simp [bV_len, hix])
      have l45 := hk5.lt
      clear hk5
      go_wp2_with fail
      refine (of_calls w6 tb v lt ix (H.out.1.below HP.out.2.2).tab (by omega) hix (by have := H.out.2.1.few ix; omega)).mono ?_
      rintro r w7 ⟨v7, out7, rfl, hO7, hR7, hB7⟩
      obtain ⟨a7, c7, rfl⟩ := hO7.slice
      have h70 : out7.length = 0 := by rw [hR7.perm.length_eq, ofL_nil.2 H.out.2.2.1]; rfl
      rw [h70]
      have HB7 := Lib.hid hB7
      clear hO7 hR7 hB7 h70
      go_upto_region 14 with fail
      go_loopw [54] (fun v54 wx => v54 = .int .i64 0 ∧ w7 = wx) (fun _ _ => 0)
      case atStart => exact ⟨rfl, rfl⟩
      case round =>
        obtain ⟨rfl, rfl⟩ := hrel
        go_wp2_with fail
        have hB27 : Below w2.heap.size w2 w7 := (HQ.out.2.1.trans (HP.out.2.1.mono HQ.out.2.1.size)).trans (HB7.out.mono (Nat.le_trans HQ.out.2.1.size HP.out.2.1.size))
        have hBw7 : Below w.heap.size w w7 := HP.out.2.2.trans (HB7.out.mono HP.out.2.2.size)
        have HH := Lib.hid (And.intro hB27 hBw7)
        clear hB27 hBw7
        go_upto_region 19 with fail
        go_loopw [66] (fun vi wr => ∃ (i : Nat) (v' : Value) (L : List Les), i ≤ n ∧ vi = .int .i64 i ∧ Hid (Heap wr tb v' L ∧ Lea.Good L ∧ L.Perm (lt ++ itemsS ix (l.take i)) ∧ TChg tb v v' w7 wr)) (fun vi _ => n - (intOf vi).toNat)
        case atStart => exact ⟨0, v, lt, Nat.zero_le _, rfl, H.out.1.below HH.out.2, H.out.2.1, by simp [itemsS], TChg.same (Below.refl _ _)⟩
        case round =>
          obtain ⟨i, v', L, hi0, rfl, G3⟩ := hrel
          by_cases hin : i < n
          · obtain ⟨g, cap, e0, hr0⟩ := H2.out.1.ex (by rw [← HN.out]; omega)
            injection e0 with ea en ec
            subst ea
            rw [← ec, ← HN.out] at hr0
            have hge : w1.heap.size ≤ g := H2.out.1.ge (g := g) rfl
            have hno : ∀ q, w.heap.size ≤ q → ¬ (q = tb ∨ v.ownBlock = some q) := fun q hq e => by
              rcases e with e | e
              · omega
              · have := (H.out.1.tab.own.lt _ e).2
                omega
            have hr7 := hr0.chg (S := fun _ => False) (Chg.of_below HH.out.1) (fun h => h)
            have hr := hr7.chg G3.out.2.2.2.1 (hno g (Nat.le_trans HB1.out.size hge))
            have hx : l[i]? = some (l[i]'(by have := HN.out; omega)) := by simp
            generalize l[i]'(by have := HN.out; omega) = x at hx
            have hwx := H.out.2.2.2.2.1 x (List.mem_of_getElem? hx)
            have wx := hwx.1
            have rx := hr.read ecL hx
            have t1' : HasK 17 wr g (i * 17) := hr.there hin
            have ax := allL wx
            have lx := ecL.len x wx
            have gl : g < wr.heap.size := hr.lt
            have hkb := G3.out.2.2.2.1.blk (H2.out.2.1.kept HH.out.1) (hno p4 (by rw [HW1.out.2]; exact Nat.le_refl _))
            have r4 : readK 16 wr p4 0 = bV ix := blk_read0 hkb (by rw [bV_len]; exact hix)
            have h4 : HasK 16 wr p4 0 := blk_has hkb (by simp [bV_len, hix])
            have l4 := hkb.lt
            have i0 : (0 : Int) ≤ (i : Int) := by omega
            have i1 : (i : Int) < (n : Int) := by omega
            have hLl : L.length ≤ 2000 := by
              rw [G3.out.2.2.1.length_eq, List.length_append]
              unfold itemsS
              rw [List.length_map, List.length_take]
              omega
            obtain ⟨cl, hcl⟩ : ∃ c, c = encL x := ⟨_, rfl⟩
            rw [← hcl] at rx ax lx
            have kl : cutC cl.toArray 0 17 = cl := by unfold cutC; rw [List.toList_toArray, List.drop_zero, List.take_of_length_le (by omega)]
            have HX := Lib.hid (And.intro hx (And.intro hwx hcl))
            clear hr0 hr7 hr hx hwx wx hcl hkb en ec hge hno
            go_wp2_with
              (first
                | (go_at_call 85
                   have hW : Below wr.heap.size wr (wr.alloc (.cells cl.toArray 153)) := (Below.refl _ _).alloc (Nat.le_refl _) _
                   refine (show Calls _ _ _ _ _ from (by
                     rw [HX.out.2.2]
                     exact (add_calls (wr.alloc (.cells (encL x).toArray 153)) tb v' L ix x.1 x.2 (G3.out.1.below ((Below.refl _ _).alloc (Nat.le_refl _) _)) G3.out.2.1 (by omega) hix HX.out.2.1.1))).mono ?_
                   rintro r w9 ⟨b9, v9, l9, rfl, hr9, hh9, hc9⟩
                   obtain ⟨_, hp9⟩ := set_add G3.out.2.2.1 H.out.2.2.1 HX.out.1 H.out.2.2.2.2.2.1 (by rw [← HN.out]; exact hl) HX.out.2.1.2 hr9
                   have HE9 := Lib.hid (And.intro hh9 (And.intro (hr9.good G3.out.2.1) (And.intro hp9 (G3.out.2.2.2.trans (TChg.pre (by rw [← HX.out.2.2]; exact hW) hc9)))))
                   clear hr9 hh9 hc9 hp9 hW)
                | fail)
            exact ⟨⟨i + 1, v9, l9, by omega, by simp, HE9.out.1, HE9.out.2.1, HE9.out.2.2.1, HE9.out.2.2.2⟩, by show n - ((i : Int) + 1).toNat < n - (i : Int).toNat; omega⟩
          · have hfull : l.take i = l := List.take_of_length_le (by have := HN.out; omega)
            have hp := G3.out.2.2.1
            rw [hfull] at hp
            have HPF := Lib.hid hp
            clear hfull hp
            go_wp2_with fail
            go_ret
            exact ⟨v', L, rfl, G3.out.1, G3.out.2.1, HPF.out, TChg.pre HH.out.2 G3.out.2.2.2⟩
end Go.Proofs.YtclhgokchcklbaaGreatDoor
end
section
namespace Go.Mem
open Go Go.RowKit Gf
def blB (l : List Blob) : List UInt8 := l.flatMap fun x => Cod.nets [Cod.be 1 x.1.toNat, x.2]
theorem blB_cons (x : Blob) (l : List Blob) : blB (x :: l) = Cod.net (Cod.be 1 x.1.toNat) ++ (Cod.net x.2 ++ blB l) := by
  unfold blB
  rw [List.flatMap_cons]
  simp [Cod.nets]
theorem blB_app (l m : List Blob) : blB (l ++ m) = blB l ++ blB m := by unfold blB; rw [List.flatMap_append]
theorem blB_one (x : Blob) : blB [x] = Cod.nets [Cod.be 1 x.1.toNat, x.2] := by unfold blB; simp
def contB (k : Lea.Key) (l : List Blob) : List UInt8 := Cod.net k ++ blB l
structure BlOk (l : List Blob) : Prop where
  num : ∀ x ∈ l, 0 ≤ x.1 ∧ x.1 < 16
  len : ∀ x ∈ l, x.2.length ≤ 16384
theorem BlOk.sub {l m : List Blob} (h : BlOk l) (hs : ∀ x ∈ m, x ∈ l) : BlOk m := ⟨fun x hx => h.num x (hs x hx), fun x hx => h.len x (hs x hx)⟩
theorem net_le (b : List UInt8) (h : b.length ≤ 16384) : (Cod.net b).length ≤ b.length + 11 := by
  rw [Cod.net_len]
  have : Lib.nDigits b.length ≤ 9 := by
    have := Go.Proofs.YtclhgokchcklbaaGreatDoor.dec_len b.length (by omega)
    rw [Lib.itoa_nonneg, Lib.decDigits_length] at this
    exact this
  omega
theorem blB_len (l : List Blob) (h : BlOk l) : (blB l).length ≤ l.length * 16420 := by
  induction l with
  | nil => simp [blB]
  | cons x l ih =>
    have h1 := ih (h.sub fun y hy => List.mem_cons_of_mem _ hy)
    have h2 := net_le (Cod.be 1 x.1.toNat) (by rw [Cod.be_len]; omega)
    have h3 := net_le x.2 (h.len x (by simp))
    have h4 := h.len x (by simp)
    rw [Cod.be_len] at h2
    rw [blB_cons, List.length_append, List.length_append, List.length_cons]
    omega
def contV (is : Bool) (k : List Value) (u : Value) : List Value := .bool is :: (k ++ [u])
theorem contV_len (is : Bool) {k : List Value} (h : k.length = 16) (u : Value) : (contV is k u).length = 18 := by simp [contV, h]
theorem contV_0 (is : Bool) (k : List Value) (u : Value) : (contV is k u)[0]? = some (.bool is) := rfl
theorem contV_k (is : Bool) (k : List Value) (u : Value) {i : Nat} (hi : i < k.length) : (contV is k u)[i + 1]? = k[i]? := by
  unfold contV
  rw [List.getElem?_cons_succ, List.getElem?_append_left hi]
theorem contV_u (is : Bool) {k : List Value} (h : k.length = 16) (u : Value) : (contV is k u)[17]? = some u := by
  unfold contV
  rw [List.getElem?_cons_succ, List.getElem?_append_right (by omega), h]; rfl
theorem contV_set (is : Bool) {k : List Value} (h : k.length = 16) (u v : Value) : (contV is k u).toArray.setIfInBounds 17 v = (contV is k v).toArray := by
  apply Array.ext_getElem?
  intro i
  have h1 := contV_len is h u
  have h2 := contV_len is h v
  rw [Array.getElem?_setIfInBounds]
  simp only [List.size_toArray, List.getElem?_toArray, h1]
  by_cases c : 17 = i
  · subst c
    rw [if_pos rfl, if_pos (by omega), contV_u is h]
  · rw [if_neg c]
    rcases Nat.lt_or_ge i 17 with hi | hi
    · cases i with
      | zero => rfl
      | succ i => rw [contV_k is k u (by omega), contV_k is k v (by omega)]
    · rw [List.getElem?_eq_none (by omega), List.getElem?_eq_none (by omega)]
theorem contV_one (is : Bool) {k : List Value} (h : ∀ v ∈ k, v.oneCell' = true) (u : Value) (hu : u.oneCell' = true) : ∀ v ∈ contV is k u, v.oneCell' = true := by
  intro v hv
  unfold contV at hv
  rcases List.mem_cons.1 hv with rfl | hv
  · rfl
  · rcases List.mem_append.1 hv with hv | hv
    · exact h v hv
    · rw [List.mem_singleton.1 hv]; exact hu
end Go.Mem
namespace Go.Proofs.YtclhgokchcklbaaGreatDoor
open Go Go.RowKit Go.Mem Gf Lea
theorem i18 : (Tryz.prog.info? 184).map (·.size) = some 18 := by kernel_rfl
theorem load_cont (dst : Option Tmp) (x : Operand) (ty : TypeId) (pos : String) (af : Array Edge) (gd : Option (Tmp × Bool)) (a : Act) (w : World) (K : Act → World → Prop) (Q : Exit → Act → World → Prop)
    (hp : ptrIs (a.eval x) = true) (ht : HasK 18 w (ptrB (a.eval x)) (ptrO (a.eval x))) :
    Oper.wp Tryz.prog ⟨dst, .load 184 x, ty, pos, af, gd⟩ a w K Q = K (a.put dst (.agg (readK 18 w (ptrB (a.eval x)) (ptrO (a.eval x))).toArray)) w :=
  wp_loadG Tryz.underlying184 rfl i18 dst x ty pos af gd a w K Q hp ht
theorem store_cont (dst : Option Tmp) (x y : Operand) (ty : TypeId) (pos : String) (af : Array Edge) (a : Act) (w : World) (K : Act → World → Prop) (Q : Exit → Act → World → Prop)
    (hp : ptrIs (a.eval x) = true) (hy : aggIs (a.eval y) = true) (ht : HasK 18 w (ptrB (a.eval x)) (ptrO (a.eval x))) (hc : AllK 18 (aggL (a.eval y))) :
    Oper.wp Tryz.prog ⟨dst, .store 184 x y, ty, pos, af, none⟩ a w K Q = K (a.put dst undef) (w.setCells (ptrB (a.eval x)) (ptrO (a.eval x)) (aggL (a.eval y))) :=
  wp_storeK i18 dst x y ty pos af a w K Q hp hy ht hc
theorem built_cont (b : Bool) : ∀ (k : List Value), k.length = 16 → Tryz.prog.built 184 [(0, .bool b), (1, .agg k.toArray)] = some (contV b k (.slice none 0 0)).toArray
  | [k0, k1, k2, k3, k4, k5, k6, k7, k8, k9, k10, k11, k12, k13, k14, k15], _ => by kernel_rfl
def zeroCont : List Value := contV false (bV z16) (.slice none 0 0)
theorem built_cont0 : Tryz.prog.built 184 [] = some zeroCont.toArray := by kernel_rfl
theorem build_cont (dst : Option Tmp) (b : Bool) (y : Operand) (ty : TypeId) (pos : String) (af : Array Edge) (gd : Option (Tmp × Bool)) (a : Act) (w : World) (K : Act → World → Prop) (Q : Exit → Act → World → Prop)
    (h2 : aggIs (a.eval y) = true) (h3 : AllK 16 (aggL (a.eval y))) :
    Oper.wp Tryz.prog ⟨dst, .build 184 #[(0, .const (.bool b)), (1, y)], ty, pos, af, gd⟩ a w K Q = K (a.put dst (.agg (contV b (aggL (a.eval y)) (.slice none 0 0)).toArray)) w := by
  unfold Oper.wp execOp
  have e : a.eval (.const (.bool b)) = .bool b := rfl
  have hr := run_build (P := Tryz.prog) w 184 #[(0, a.eval (.const (.bool b))), (1, a.eval y)] _ (by rw [e, agg_of h2]; exact built_cont _ _ h3.1)
  simp only [List.map_toArray, List.map_cons, List.map_nil, Sem.run_bind, hr, Result.andThen_ok]
  rfl
theorem build_cont0 (dst : Option Tmp) (ty : TypeId) (pos : String) (af : Array Edge) (gd : Option (Tmp × Bool)) (a : Act) (w : World) (K : Act → World → Prop) (Q : Exit → Act → World → Prop) :
    Oper.wp Tryz.prog ⟨dst, .build 184 #[], ty, pos, af, gd⟩ a w K Q = K (a.put dst (.agg zeroCont.toArray)) w := by
  unfold Oper.wp execOp
  have hr := run_build (P := Tryz.prog) w 184 #[] _ built_cont0
  simp only [List.map_toArray, List.map_nil, Sem.run_bind, hr, Result.andThen_ok]
  rfl
def ContIs (s : SrvS) (ix : Key) (o : Option (Key × List Blob)) : Prop := match o with
  | none => s.st.get (slotN ix) = none
  | some (k, l) => s.st.get (slotN ix) = some (contB k l) ∧ k.length = 16 ∧ BlOk l ∧ l.length ≤ 16
def contL : Option (Key × List Blob) → List Blob
  | none => []
  | some (_, l) => l
def contK : Option (Key × List Blob) → Key
  | none => z16
  | some (k, _) => k
theorem zeroC : (#[Value.bool false, .int .u8 0, .int .u8 0, .int .u8 0, .int .u8 0, .int .u8 0, .int .u8 0, .int .u8 0, .int .u8 0, .int .u8 0, .int .u8 0, .int .u8 0, .int .u8 0, .int .u8 0, .int .u8 0, .int .u8 0, .int .u8 0, .slice none 0 0] : Array Value) = zeroCont.toArray := rfl
theorem setCells_zero (w : World) (cs : List Value) (h : AllK 18 cs) : (w.alloc (.cells #[Value.bool false, .int .u8 0, .int .u8 0, .int .u8 0, .int .u8 0, .int .u8 0, .int .u8 0, .int .u8 0, .int .u8 0, .int .u8 0, .int .u8 0, .int .u8 0, .int .u8 0, .int .u8 0, .int .u8 0, .int .u8 0, .int .u8 0, .slice none 0 0] 184)).setCells w.heap.size 0 cs = w.alloc (.cells cs.toArray 184) := setCells_alloc_at _ _ _ _ rfl (by rw [h.1]; rfl)
theorem cont_stored {w : World} {b : Nat} {cs : List Value} (h : HasK 18 w b 0) (hc : AllK 18 cs) : (loadVar 184 ⟨b, 0, none⟩).run Tryz.prog (w.setCells b 0 cs) = .ok (.agg cs.toArray) (w.setCells b 0 cs) := by
  have h2 := hasK_set h b 0 cs
  refine run_loadVar_mid _ b 0 _ cs _ ?_ Tryz.underlying184 rfl (by rw [hc.1]; exact i18)
  have := readK_range h2
  rwa [readK_set h hc] at this
theorem zeroA : AllK 18 zeroCont := ⟨contV_len _ (by rw [bV_len]; exact z16_len) _, contV_one _ (fun v hv => bV_one _ v hv) _ rfl⟩
theorem takeBl (l : List Blob) (h : BlOk l) (x : Blob) (r : List Blob) (e : l = x :: r) : Cod.takeNet (blB l) = some (Cod.be 1 x.1.toNat, Cod.net x.2 ++ blB r) ∧ Cod.takeNet (Cod.net x.2 ++ blB r) = some (x.2, blB r) := by
  subst e
  rw [blB_cons]
  exact ⟨Cod.takeNet_net _ _ (by rw [Cod.be_len]; omega), Cod.takeNet_net _ _ (h.len x (by simp))⟩
attribute [local irreducible] zeroCont contV
attribute [local go_sem ↓] Go.wp_at_zero Go.wp_at_succ
attribute [local go_sem ↓] load_keyS load_cont store_cont build_cont build_cont0
attribute [local go_sem] arrayAt_key ptrB_eq ptrO_eq ptrIs_eq aggL_eq aggIs_eq readK_drew hasK_drew someK_drew readK_alloc_past hasK_alloc_past readK_alloc_in hasK_alloc_in setCells_drew setCells_alloc_past setCells_alloc_at setCells_zero
set_option maxRecDepth 100000 in
set_option maxHeartbeats 2000000 in
theorem container_calls (C X : Nat → Prop) (pb : Nat) (s : SrvS) (ix : Key) (hix : ix.length = 16) (o : Option (Key × List Blob)) (w : World) (h : IsSrv w C X pb s) (ho : ContIs s ix o) :
    Calls Tryz.prog 126 #[.pointer (some ⟨pb, 0, none⟩), .agg (bV ix).toArray] w fun e w' => ∃ u, e = .returned (.agg (contV o.isSome (bV (contK o)) u).toArray) ∧ OwnBl 41 w' w.heap.size (fun b => b < w.heap.size) u (contL o) ∧ Below w.heap.size w w' := by
  obtain ⟨sb, lb, d, L, tb, v, h⟩ := h
  have H := Lib.hid h
  have HO := Lib.hid ho
  have hl : (bV ix).length = 16 := by rw [bV_len]; exact hix
  obtain ⟨cz, hcz⟩ : ∃ c, c = zeroCont := ⟨_, rfl⟩
  have HZ := Lib.hid hcz
  have hzl : cz.length = 18 := by rw [hcz]; exact zeroA.1
  have hza : AllK 18 cz := by rw [hcz]; exact zeroA
  obtain ⟨ck, hck⟩ : ∃ c, c = bV ix := ⟨_, rfl⟩
  have HCK := Lib.hid (And.intro hck hix)
  rw [← hck] at hl ⊢
  have hu16 := Tryz.underlying44
  have hi16 : (Tryz.prog.info? 44).map (·.size) = some ck.length := by rw [hl]; exact i16
  clear h hix hck ho hcz
  go_enter Tryz.func126, Tryz.ntmps126
  go_upto_region 1 with fail
  rw [zeroC]
  rw [← HZ.out]
  have hB0 : Below w.heap.size w ((w.alloc (.cells ck.toArray 44)).alloc (.cells cz.toArray 184)) := ((Below.refl _ _).alloc (Nat.le_refl _) _).alloc (by simp) _
  have hk3 : Blk ((w.alloc (.cells ck.toArray 44)).alloc (.cells cz.toArray 184)) w.heap.size ck.toArray 44 := (Blk.new _ _ _).alloc _
  have hk4 : Blk ((w.alloc (.cells ck.toArray 44)).alloc (.cells cz.toArray 184)) (w.heap.size + 1) cz.toArray 184 := Blk.new_at _ _ _ _ (by simp)
  obtain ⟨w0, hw0⟩ : ∃ x, x = (w.alloc (.cells ck.toArray 44)).alloc (.cells cz.toArray 184) := ⟨_, rfl⟩
  have hz0 : w0.heap.size = w.heap.size + 2 := by rw [hw0]; simp
  rw [← hw0] at hB0 hk3 hk4 ⊢
  obtain ⟨p3, hp3⟩ : ∃ p, p = w.heap.size := ⟨_, rfl⟩
  obtain ⟨p4, hp4⟩ : ∃ p, p = w.heap.size + 1 := ⟨_, rfl⟩
  rw [← hp3] at hk3
  rw [← hp4] at hk4
  rw [← hp4, ← hp3]
  have HB0 := Lib.hid (And.intro hB0 (And.intro hk3 (And.intro hk4 (And.intro hp3 (And.intro hp4 hz0)))))
  clear hw0 hB0 hk3 hk4 hp3 hp4 hz0
  have c3 : w0.drew.cell? ⟨pb, 3, none⟩ = some (.pointer (some ⟨sb, 0, none⟩)) := (H.out.below HB0.out.1).blk.cell 3
  have r3 : w0.drew.rangeAt p3 0 ck := fun j v hj => by
    rw [(HB0.out.2.1.drew).cell, Nat.zero_add]
    simpa using hj
  go_region_held3 (fun w' => w'.cell? ⟨pb, 3, none⟩ = some (.pointer (some ⟨sb, 0, none⟩)) ∧ w'.rangeAt p3 0 ck) (first | exact ⟨c3, r3⟩ | with_reducible assumption)
    (first
      | (go_at_call 130
         refine (show Calls _ _ _ _ _ from (by rw [HCK.out.1]; exact slot_calls ix HCK.out.2 w0.drew)).mono ?_
         rintro e w2 ⟨rfl, hb2⟩
         have hb2 : Below w0.heap.size w0 w2 := of_drew hb2
         have hh : w2.cell? ⟨pb, 3, none⟩ = some (.pointer (some ⟨sb, 0, none⟩)) ∧ w2.rangeAt p3 0 ck := ⟨((H.out.below HB0.out.1).below hb2).blk.cell 3, fun j v hj => by
           rw [(HB0.out.2.1.kept hb2).cell, Nat.zero_add]
           simpa using hj⟩
         have HB2 := Lib.hid hb2
         clear hb2)
      | (go_at_call 41
         refine (sget_calls _ sb lb d L s.st (slotN ix) w2 ((H.out.below HB0.out.1).below HB2.out).st).mono ?_
         rintro e w4 ⟨hb4, vg, rfl, hvg⟩
         have HG := Lib.hid (And.intro (HB2.out.trans (hb4.mono HB2.out.size)) hvg)
         have hh : w4.cell? ⟨pb, 3, none⟩ = some (.pointer (some ⟨sb, 0, none⟩)) ∧ w4.rangeAt p3 0 ck := ⟨(((H.out.below HB0.out.1).below HB2.out).below hb4).blk.cell 3, fun j v hj => by
           rw [((HB0.out.2.1.kept HB2.out).kept hb4).cell, Nat.zero_add]
           simpa using hj⟩
         clear hb4 hvg))
  have hk4 := HB0.out.2.2.1.kept HG.out.1
  have l4 := hk4.lt
  have h4 : HasK 18 w4 p4 0 := blk_has hk4 (by simp [hzl])
  have hb04 : Below w.heap.size w w4 := HB0.out.1.trans (HG.out.1.mono HB0.out.1.size)
  have HB4 := Lib.hid hb04
  clear c3 r3 hh hb04
  cases o with
  | none =>
    have hget : s.st.get (slotN ix) = none := HO.out
    rw [hget, Option.isSome_none]
    have HGET := Lib.hid hget
    clear hget
    have hza2 := zeroA
    have HLD := Lib.hid (And.intro (cont_stored h4 zeroA) hk4)
    have hzl2 := zeroA.1
    clear hk4
    go_wp2_with fail
    exact bodyPost_ret (v := .agg zeroCont.toArray) (by simp [results, Tryz.results126, asAddr, HLD.out.1]) rfl ⟨.slice none 0 0, by unfold zeroCont; rfl, OwnBl.nil _ _ _ _, (Chg.setCells (S := fun b => b = p4) (L := p4) rfl _ _ _ (Chg.of_below HB4.out)).below (Nat.le_refl _) (fun k hk => by rw [hk, HB0.out.2.2.2.2.1]; omega)⟩
  | some kl =>
    obtain ⟨k, l⟩ := kl
    obtain ⟨hget, hk16, hbl, hl16⟩ := HO.out
    have hvg := HG.out.2
    rw [hget, Option.getD_some] at hvg
    rw [hget, Option.isSome_some]
    have hlen := blB_len l hbl
    have hnk := net_le k (by omega)
    obtain ⟨va, vc, rfl⟩ := hvg.eq_slice
    have htk := takeNet_ok _ (contB k l) k (blB l) w4 hvg.bys (by unfold contB; rw [List.length_append]; omega) (by unfold contB; exact Cod.takeNet_net _ _ (by omega))
    obtain ⟨n0, hn0⟩ : ∃ n, n = (contB k l).length := ⟨_, rfl⟩
    rw [← hn0] at htk ⊢
    obtain ⟨n, hn⟩ : ∃ n, n = l.length := ⟨_, rfl⟩
    have HT := Lib.hid htk
    have HL := Lib.hid (And.intro hk16 (And.intro hbl (And.intro hn (And.intro hk4 hl16))))
    clear htk hvg hget hn0 hn hlen hnk hk16 hbl hk4 h4 hl16
    go_wp2_with fail
    refine HT.out.mono ?_
    rintro r w5 ⟨vx, vy, rfl, hX, hY, hB5⟩
    obtain ⟨xa, xc, rfl⟩ := hX.eq_slice
    have hX2 := hX.bys
    rw [HL.out.1] at hX2 ⊢
    obtain ⟨xb, xo, rfl⟩ : ∃ b o, xa = some ⟨b, o, none⟩ := by
      obtain ⟨a', c', e, _, _, h3⟩ := hX2
      obtain ⟨b, o, e', _⟩ := h3 (by rw [HL.out.1]; omega)
      injection e with e1 _ _
      exact ⟨b, o, by rw [e1, e']⟩
    have hrng := bys_range hX2
    obtain ⟨cq, hcq⟩ : ∃ c, c = bV k := ⟨_, rfl⟩
    rw [← hcq] at hrng
    have hlb : cq.length = 16 := by rw [hcq, bV_len]; exact HL.out.1
    have s5 : SomeK 16 w5 xb xo := someK_of hrng hlb
    have r5 : readK 16 w5 xb xo = cq := readK_eq hrng hlb
    have hqa : AllK 16 cq := ⟨hlb, fun v hv => by rw [hcq] at hv; exact bV_one _ v hv⟩
    have hcl := contV_len true hlb (.slice none 0 0)
    have hca : AllK 18 (contV true cq (.slice none 0 0)) := ⟨hcl, contV_one _ (fun v hv => by rw [hcq] at hv; exact bV_one _ v hv) _ rfl⟩
    have HX := Lib.hid (And.intro hY.bys (And.intro (HB4.out.trans (hB5.mono HB4.out.size)) (And.intro (HL.out.2.2.2.1.kept hB5) hcq)))
    clear hX hX2 hY hB5 hrng hcq
    go_upto_region 8 with fail
    have hk8 : Blk (w5.alloc (.cells (contV true cq (.slice none 0 0)).toArray 184)) w5.heap.size (contV true cq (.slice none 0 0)).toArray 184 := Blk.new _ _ _
    have hbW : Below w5.heap.size w5 (w5.alloc (.cells (contV true cq (.slice none 0 0)).toArray 184)) := (Below.refl _ _).alloc (Nat.le_refl _) _
    obtain ⟨w6, hw6⟩ : ∃ x, x = w5.alloc (.cells (contV true cq (.slice none 0 0)).toArray 184) := ⟨_, rfl⟩
    obtain ⟨p8, hp8⟩ : ∃ x, x = w5.heap.size := ⟨_, rfl⟩
    have hz6 : w6.heap.size = p8 + 1 := by rw [hw6, hp8]; simp
    rw [← hw6] at hk8 hbW ⊢
    rw [← hp8] at hk8 ⊢
    have H6 := Lib.hid (And.intro hk8 (And.intro (HX.out.1.below hbW) (And.intro (HX.out.2.1.trans (hbW.mono HX.out.2.1.size)) (And.intro (HX.out.2.2.1.kept hbW) (And.intro hp8 hz6)))))
    have hw8 : w.heap.size ≤ p8 := by rw [hp8]; exact HX.out.2.1.size
    have hp48 : p4 < p8 := by rw [hp8]; exact HX.out.2.2.1.lt
    clear hw6 hp8 hz6 hk8 hbW s5 r5 hcl hca
    go_loopw [5] (fun v5 wr => ∃ (i : Nat) (u : Value), i ≤ n ∧ Hid (Bys wr v5 (blB (l.drop i)) ∧ Blk wr p8 (contV true cq u).toArray 184 ∧ Blk wr p4 cz.toArray 184 ∧ OwnBl 41 wr (p8 + 1) (fun b => b < p8 + 1) u (l.take i) ∧ Below w.heap.size w wr ∧ p8 + 1 ≤ wr.heap.size)) (fun v5 _ => sLenB v5)
    case atStart => exact ⟨0, .slice none 0 0, Nat.zero_le _, H6.out.2.1, H6.out.1, H6.out.2.2.2.1, OwnBl.nil _ _ _ _, H6.out.2.2.1, by rw [H6.out.2.2.2.2.2]; exact Nat.le_refl _⟩
    case round =>
      obtain ⟨i, u, hi0, G⟩ := hrel
      obtain ⟨ba, bc, eb⟩ := G.out.1.eq_slice
      by_cases hin : i < n
      · have hx : l[i]? = some (l[i]'(by have := HL.out.2.2.1; omega)) := by simp
        generalize l[i]'(by have := HL.out.2.2.1; omega) = x at hx
        have hdrop : l.drop i = x :: l.drop (i + 1) := by
          have hi := (List.getElem?_eq_some_iff.1 hx).1
          rw [List.drop_eq_getElem_cons hi]
          rw [List.getElem?_eq_getElem hi] at hx
          cases hx; rfl
        have hbo : BlOk (l.drop i) := HL.out.2.1.sub fun y hy => List.mem_of_mem_drop hy
        have hlen := blB_len (l.drop i) hbo
        rw [List.length_drop] at hlen
        have hl16 := HL.out.2.2.2.2
        obtain ⟨t1, t2⟩ := takeBl (l.drop i) hbo x (l.drop (i + 1)) hdrop
        have hxn := HL.out.2.1.num x (List.mem_of_getElem? hx)
        obtain ⟨m, hm⟩ : ∃ m : Nat, m = x.1.toNat := ⟨_, rfl⟩
        have hm2 : x.1 = (m : Int) := by omega
        have hmb : m < 16 := by omega
        rw [← hm] at t1
        have hpos : 0 < (blB (l.drop i)).length := by rw [hdrop, blB_cons, List.length_append, Cod.net_len]; omega
        have hq : (Cod.net x.2 ++ blB (l.drop (i + 1))).length < (blB (l.drop i)).length ∧ (blB (l.drop (i + 1))).length < (blB (l.drop i)).length := by
          rw [hdrop, blB_cons]
          simp only [List.length_append, Cod.net_len]
          omega
        have hT1 := takeNet_ok _ (blB (l.drop i)) _ _ wr G.out.1 (by omega) t1
        obtain ⟨q, hqq⟩ : ∃ k, k = (blB (l.drop i)).length := ⟨_, rfl⟩
        rw [← hqq] at eb hpos hq
        have HT1 := Lib.hid (And.intro hT1 (And.intro t2 (And.intro hx (And.intro hm2 (And.intro hq hqq)))))
        have d0 : decide ((0 : Int) < (q : Int)) = true := by simp; omega
        have d0' : decide (0 < q) = true := by simp; omega
        have hq6 : q ≤ 1000000 := by omega
        subst eb
        clear hT1 t1 t2 hx hdrop hbo hlen hxn hm hm2 hq hqq hl16 hpos
        go_wp2_with fail
        refine HT1.out.1.mono ?_
        rintro r w7 ⟨vx, vy, rfl, hX, hY, hB7⟩
        obtain ⟨xa, xc, rfl⟩ := hX.eq_slice
        obtain ⟨ya, yc, rfl⟩ := hY.eq_slice
        obtain ⟨q2, hq2⟩ : ∃ k, k = (Cod.net x.2 ++ blB (l.drop (i + 1))).length := ⟨_, rfl⟩
        have H7 := Lib.hid (And.intro hX.bys (And.intro hY.bys (And.intro hB7 hq2)))
        have hT2 := takeNet_ok _ _ _ _ w7 hY.bys (by have := HT1.out.2.2.2.2.1.1; omega) HT1.out.2.1
        rw [← hq2] at hT2 ⊢
        rw [Cod.be_len]
        have HT2 := Lib.hid hT2
        clear hX hY hB7 hq2 hT2
        go_wp2_with fail
        refine HT2.out.mono ?_
        rintro r w8 ⟨vx2, vy2, rfl, hX, hY, hB8⟩
        obtain ⟨za, zc, rfl⟩ := hX.eq_slice
        obtain ⟨ra, rc, rfl⟩ := hY.eq_slice
        have hg := get_calls _ (Cod.be 1 m) w8 (H7.out.1.below hB8) (by rw [Cod.be_len]; omega)
        rw [Cod.getN_be 1 m (by omega), Cod.be_len] at hg
        obtain ⟨q3, hq3⟩ : ∃ k, k = (blB (l.drop (i + 1))).length := ⟨_, rfl⟩
        obtain ⟨q4, hq4⟩ : ∃ k, k = x.2.length := ⟨_, rfl⟩
        have H8 := Lib.hid (And.intro hX (And.intro hY (And.intro hB8 (And.intro hg (And.intro hq3 hq4)))))
        rw [← hq3, ← hq4]
        clear hX hY hB8 hg hq3 hq4
        go_wp2_with fail
        refine H8.out.2.2.2.1.mono ?_
        rintro r w9 ⟨rfl, rfl⟩
        have hb8 := H7.out.2.2.1.trans (H8.out.2.2.1.mono H7.out.2.2.1.size)
        have hk8 := G.out.2.1.kept hb8
        have c17 : w8.cell? ⟨p8, 17, none⟩ = some u := by rw [hk8.cell]; have := contV_u true hlb u; simpa using this
        have f17 := hk8.free 17
        have H9 := Lib.hid (And.intro hb8 (And.intro hk8 ((G.out.2.2.2.1).below hb8)))
        obtain ⟨ua, uc, hu, _⟩ := H9.out.2.2.slice
        have hti : (l.take i).length = i := by rw [List.length_take]; have := HL.out.2.2.1; omega
        rw [hti] at hu
        have HTI := Lib.hid hti
        subst hu
        have hX8 := H8.out.1
        have hl16 := HL.out.2.2.2.2
        have hd : DataAt w8 (fun b => b < p8 + 1) (.slice za q4 zc) x.2 := by
          have hz7 := G.out.2.2.2.2.2
          have hz8 := H7.out.2.2.1.size
          have := hX8.data (N := fun b => b < p8 + 1) fun b hb _ => by omega
          rw [← H8.out.2.2.2.2.2] at this
          exact this
        have hdn : ∀ a n c, Value.slice za q4 zc = .slice (some a) n c → (Value.slice ua i uc).ownBlock ≠ some a.block := fun a n c e e2 => by
          injection e with e1 _ _
          have h1 := (hX8.lt a.block (by rw [e1]; simp [Value.ownBlock])).1
          have h2 := (G.out.2.2.2.1.lt _ e2).2
          have h3 := H7.out.2.2.1.size
          omega
        have hz9 : p8 + 1 ≤ w8.heap.size := Nat.le_trans G.out.2.2.2.2.2 H9.out.1.size
        obtain ⟨vs, g1, g2, g3, g4⟩ := H9.out.2.2.below ((Below.refl w8.heap.size w8).alloc (Nat.le_refl _) (.cells #[.int .i64 m, .slice za q4 zc] 41))
        rw [HTI.out] at g2
        have HV := Lib.hid (And.intro g1 (And.intro g2 (And.intro g3 (And.intro g4 (And.intro hd hdn)))))
        clear hb8 hk8 hti hX8 hd hdn g1 g2 g3 g4
        have hi16 : i < 16 := by have := HL.out.2.2.1; omega
        go_wp2_with
          (first
            | (refine to_list (by rfl) (fun _ hK => wpAppN EKb _ _ (by rfl) (base := p8 + 1) [.int .i64 m, .slice za q4 zc] (by rfl) (by rfl) (by rfl) (new_news (by rfl)) (one2 _ _ _) HV.out.2.1 (by omega) (by decide) (by simp; omega) hK) ?_
               intro x1 w11 hx1
               obtain ⟨y1, yc1, rfl, _⟩ := own_eq_slice hx1.1
               have h88 : Blk w11 p8 (contV true cq (.slice ua i uc)).toArray 184 := Blk.grown' (H9.out.2.1.alloc (.cells #[.int .i64 m, .slice za q4 zc] 41)) hx1.2.1 (fun e => by have := (G.out.2.2.2.1.lt _ e).1; omega)
               have f88 := h88.free 17
               have c88 : w11.cell? ⟨p8, 17, none⟩ = some (.slice ua i uc) := by rw [h88.cell]; have := contV_u true hlb (.slice ua i uc); simpa using this
               have H11 := Lib.hid (And.intro hx1 h88)
               clear hx1 h88)
            | fail)
        have hrow := OwnBl.push (x := x) HV.out.1 HV.out.2.2.1 HV.out.2.2.2.1 (HV.out.2.2.2.2.1.chg (S := fun _ => False) (Chg.of_below ((Below.refl w8.heap.size w8).alloc (Nat.le_refl _) _)) (fun _ h => h.elim)) HV.out.2.2.2.2.2 (by rw [HTI.out, HT1.out.2.2.2.1]; exact H11.out.1.1) H11.out.1.2.1 H11.out.1.2.2
        have htk : l.take (i + 1) = l.take i ++ [x] := by rw [List.take_add_one, HT1.out.2.2.1]; rfl
        have hbw : Below w.heap.size w w11 := grown_below ((G.out.2.2.2.2.1.trans (H9.out.1.mono G.out.2.2.2.2.1.size)).alloc (by omega) (.cells #[.int .i64 m, .slice za q4 zc] 41)) H11.out.1.2.1 (fun k hk => by have := (G.out.2.2.2.1.lt k hk).1; omega)
        have hk4 : Blk w11 p4 cz.toArray 184 := Blk.grown' ((G.out.2.2.1.kept H9.out.1).alloc _) H11.out.1.2.1 (fun e => by have := (G.out.2.2.2.1.lt _ e).1; omega)
        have hcs : Chg (fun b => (Value.slice ua i uc).ownBlock = some b ∨ b = p8) w8 (w11.setCell ⟨p8, 17, none⟩ (.slice y1 (i + 1) yc1)) := Chg.set (S := fun b => (Value.slice ua i uc).ownBlock = some b ∨ b = p8) (a := ⟨p8, 17, none⟩) (Chg.grown (Chg.of_below ((Below.refl w8.heap.size w8).alloc (Nat.le_refl _) _)) H11.out.1.2.1 (fun q hq => .inl (.inl hq))) (.inr rfl) _
        have hz7 := H7.out.2.2.1.size
        have hrest := H8.out.2.1.chg hcs (fun g hg hS => by
          have h1 := (H8.out.2.1.lt g hg).1
          rcases hS with hS | hS
          · have := (G.out.2.2.2.1.lt _ hS).2; omega
          · have := G.out.2.2.2.2.2; omega)
        have hq3 : q3 < q := by rw [H8.out.2.2.2.2.1]; exact HT1.out.2.2.2.2.1.2
        refine ⟨⟨i + 1, .slice y1 (i + 1) yc1, by omega, ?_, ?_, ?_, ?_, ?_, ?_⟩, ?_⟩
        · have := hrest.bys
          rwa [← H8.out.2.2.2.2.1] at this
        · have := H11.out.2.set 17 (.slice y1 (i + 1) yc1)
          rwa [contV_set true hlb] at this
        · exact hk4.set_other (fun e => by have e' : p8 = p4 := e; omega) _
        · rw [htk]
          refine hrow.chg (S := fun b => b = p8) (Chg.set (S := fun b => b = p8) (a := ⟨p8, 17, none⟩) (Chg.refl _ _) rfl _) (fun g hg e => ?_) (fun b hb _ => ?_)
          · have h1 := (hrow.lt g hg).1
            omega
          · rw [hb]; omega
        · exact hbw.setCell hw8 _
        · have := H11.out.1.2.1.size
          simp at this ⊢
          omega
        · show q3 < q
          exact hq3
      · have hfull : l.take i = l := List.take_of_length_le (by have := HL.out.2.2.1; omega)
        have hnil : blB (l.drop i) = [] := by rw [List.drop_of_length_le (by have := HL.out.2.2.1; omega)]; rfl
        rw [hnil] at eb
        have HF := Lib.hid hfull
        have hk8 := G.out.2.1
        have r8 : readK 18 wr p8 0 = contV true cq u := blk_read0 hk8 (contV_len true hlb u)
        have h8 : HasK 18 wr p8 0 := blk_has hk8 (by simp [contV_len true hlb u])
        have h4 : HasK 18 wr p4 0 := blk_has G.out.2.2.1 (by simp [hzl])
        have ha8 : AllK 18 (contV true cq u) := ⟨contV_len true hlb u, contV_one _ hqa.2 _ (by obtain ⟨a, c, e, _⟩ := G.out.2.2.2.1.slice; rw [e]; rfl)⟩
        have HLD := Lib.hid (cont_stored h4 ha8)
        clear hfull hnil hk8
        subst eb
        go_wp2_with fail
        have hset : Chg (fun b => b = p4) wr (wr.setCells p4 0 (contV true cq u)) := Chg.setCells (S := fun b => b = p4) (L := p4) rfl _ _ _ (Chg.refl _ _)
        refine bodyPost_ret (v := .agg (contV true cq u).toArray) (by simp [results, Tryz.results126, asAddr, HLD.out]) rfl ⟨u, by rw [HX.out.2.2.2]; rfl, ?_, ?_⟩
        · have hO := G.out.2.2.2.1
          rw [HF.out] at hO
          refine ((hO.chg hset (fun g hg e => ?_) (fun b hb _ => ?_)).lower (by omega)).mono (fun b hb => .inl (by omega))
          · have h1 := (hO.lt g hg).1
            omega
          · rw [hb]; omega
        · exact ((Chg.of_below (S := fun k => w.heap.size ≤ k) G.out.2.2.2.2.1).mix hset (fun k hk => .inl (by rw [hk, HB0.out.2.2.2.2.1]; omega))).below (Nat.le_refl _) (fun _ h => h)
end Go.Proofs.YtclhgokchcklbaaGreatDoor
end
section
namespace Go.Proofs.YtclhgokchcklbaaGreatDoor
open Go Go.RowKit Go.Mem Gf Lea
attribute [local go_sem ↓] Go.wp_at_zero Go.wp_at_succ
set_option maxRecDepth 100000 in
set_option maxHeartbeats 1000000 in
theorem clone_calls (w : World) (tb : Nat) (v : Value) (l : List Les) (h : Heap w tb v l) (hl : l.length ≤ 90000) :
    Calls Tryz.prog 63 #[.pointer (some ⟨tb, 0, none⟩)] w fun r w' => ∃ t2 v2, r = .returned (.pointer (some ⟨t2, 0, none⟩)) ∧ w.heap.size ≤ t2 ∧ (∀ g, v2.ownBlock = some g → w.heap.size ≤ g) ∧ Heap w' t2 v2 l ∧ Below w.heap.size w w' := by
  have hcell : w.cell? ⟨tb, 0, none⟩ = some v := by simpa using h.tab.cell.cell 0
  have hfin : ∀ v1 x1, x1.ownsRow w.heap.size 191 33 v1 l.length (itemsV l) → w.grownBy x1 none → w.heap.size ≤ x1.heap.size ∧ (∀ g, v1.ownBlock = some g → w.heap.size ≤ g) ∧ Heap (x1.alloc (.cells #[v1] 137)) x1.heap.size v1 l ∧ Below w.heap.size w (x1.alloc (.cells #[v1] 137)) := fun v1 x1 hv hg => by
    have hB : Below w.heap.size w x1 := (Chg.grown (S := fun _ => False) (Chg.refl _ _) hg (fun q hq => by cases hq)).below (Nat.le_refl _) (fun _ h => h.elim)
    have hge : ∀ g, v1.ownBlock = some g → w.heap.size ≤ g ∧ g < x1.heap.size := fun g e => hv.lt g e
    have hv' := own_chg (S := fun _ => False) hv (Chg.of_below ((Below.refl _ _).alloc (Nat.le_refl _) (.cells #[v1] 137))) (fun _ _ h => h)
    refine ⟨hB.size, fun g e => (hge g e).1, ⟨⟨Blk.new _ _ _, ⟨hv'.1, ?_⟩, h.tab.wf, fun e => ?_⟩, h.heap⟩, hB.alloc hB.size _⟩
    · rcases hv'.2 with e | ⟨g, cap, cur, e1, h1, h2⟩
      · exact .inl e
      · exact .inr ⟨g, cap, cur, e1, Nat.zero_le _, h2⟩
    · have := (hge _ e).2
      omega
  have HF := Lib.hid hfin
  obtain ⟨n, hn⟩ : ∃ n, n = l.length := ⟨_, rfl⟩
  have HN := Lib.hid hn
  clear hfin
  rcases h.tab.own.2 with ⟨rfl, e0⟩ | ⟨g, cap, cur, rfl, hrest⟩
  · have H0 : Hid (l = []) := by
      refine List.eq_nil_of_length_eq_zero ?_
      have := itemsV_len l h.tab.wf
      rw [e0] at this
      simp at this
      omega
    clear h e0 hn
    go_enter Tryz.func63, Tryz.ntmps63
    go_wp2_with fail
    go_ret
    have := HF.out (.slice none 0 0) w (by rw [H0.out]; exact World.ownsRow_nil _ _ _ _) ⟨rfl, rfl, rfl, Nat.le_refl _, fun _ _ _ => rfl⟩
    exact ⟨_, _, rfl, Nat.le_refl _, this.2.1, this.2.2.1, this.2.2.2⟩
  · have hrow : Row 191 w 0 g l.length cap l := ⟨h.tab.own, rfl, h.tab.wf⟩
    have HR := Lib.hid hrow
    rw [← hn] at hcell
    clear h hrow hrest hn
    go_enter Tryz.func63, Tryz.ntmps63
    go_wp2_with
      (first
        | (refine to_list (by rfl) (R := fun v' w' => w'.ownsRow w.heap.size 191 33 v' (0 + n) ([] ++ itemsV l) ∧ w.grownBy w' none ∧ (∀ k, v'.ownBlock = some k → (none : Option Nat) = some k ∨ w.heap.size ≤ k)) (fun _ hK => wpAppN EKi _ _ (by rfl) (base := w.heap.size) (v := .slice none 0 0) (n := 0) (m := n) (cx := cap) (xs := []) (itemsV l) (by rfl) (mb := g) (by rfl) (by rw [itemsV_len l HR.out.wf, HN.out]) (fun j u hj => by rw [HR.out.cell (by have := some_lt hj; rw [itemsV_len l HR.out.wf] at this; exact this)]; exact hj) (fun u hu => by obtain ⟨x, _, hx⟩ := List.mem_flatMap.1 hu; exact one_cellsI x u hx) (World.ownsRow_nil _ _ _ _) (by have := HN.out; omega) (by decide) (Nat.le_refl _) (fun v' w' hh => hK v' w' hh)) ?_
           rintro v1 x1 ⟨hv1, hg1, _⟩
           obtain ⟨a1, c1, rfl, _⟩ := own_eq_slice hv1
           have HV1 := Lib.hid hv1; have HG1 := Lib.hid hg1
           clear hv1 hg1)
        | fail)
    all_goals
      go_ret
      have hv := HV1.out
      rw [Nat.zero_add, List.nil_append] at hv
      have := HF.out _ x1 (by rw [← HN.out]; exact hv) HG1.out
      exact ⟨_, _, rfl, this.1, this.2.1, this.2.2.1, this.2.2.2⟩
end Go.Proofs.YtclhgokchcklbaaGreatDoor
end
