/- Texts of this proof, packed: SrvDo, SrvOk, SrvLaw, SrvNew, SortG, LeaKeys. -/
import Derived.Test.YtbbojbdigiibbaaGreatDoorPk18
import Derived.Test.YtbbojbdigiibbaaGreatDoorPk11
import Derived.Shelf.GgSortFunc.InsertionK
import Derived.Test.YtbbojbdigiibbaaGreatDoorPk13
section
namespace Go.Proofs.YtbbojbdigiibbaaGreatDoor
open Go Go.RowKit Go.Mem Gf Lea
theorem call_hand : ∀ (k : Nat), handD k = true → ∀ (args : Array Value) (w : World), (callFunc (91 + (k - 1)) args).run Tryz.prog w = .ok (.enter (91 + (k - 1)) args) w
  | 0, h, _, _ => by cases h
  | 1, _, _, _ => by kernel_rfl
  | 2, _, _, _ => by kernel_rfl
  | 3, _, _, _ => by kernel_rfl
  | 4, _, _, _ => by kernel_rfl
  | 5, _, _, _ => by kernel_rfl
  | 6, _, _, _ => by kernel_rfl
  | k + 7, h, _, _ => by simp [handD] at h
attribute [local irreducible] reqV contV
attribute [local go_sem ↓] Go.wp_at_zero Go.wp_at_succ
attribute [local go_sem ↓] load_key load_req
attribute [local go_sem] ptrB_eq ptrO_eq ptrIs_eq aggL_eq aggIs_eq readK_drew hasK_drew readK_alloc_past hasK_alloc_past
set_option maxRecDepth 100000 in
set_option maxHeartbeats 1000000 in
theorem do_calls (C X : Nat → Prop) (pb : Nat) (s : SrvS) (r : Req) (hr : r.Wf) (w : World) (h : IsSrv w C X pb s) (hB : s.dead = false) (k : Nat) (hk : handD k = true) (hkr : r.kind = (k : Int)) (Post : Ending → World → Prop)
    (hP : ∀ w1 p4, Below w.heap.size w w1 → w.heap.size ≤ p4 → Blk w1 p4 #[.int .i64 0, .slice none 0 0] 43 → IsSrv w1 C (fun b => X b ∨ b = p4) pb s → Calls Tryz.prog (91 + (k - 1)) #[.pointer (some ⟨pb, 0, none⟩), .agg (reqV r).toArray] w1 fun e w' => ∃ err a n c, e = .returned (.agg #[.int .i64 err, .slice a n c]) ∧ Blk w' p4 #[.int .i64 0, .slice none 0 0] 43 ∧ Post (.returned (.agg #[.int .i64 err, .slice a n c])) ((w'.setCell ⟨p4, 0, none⟩ (.int .i64 err)).setCell ⟨p4, 1, none⟩ (.slice a n c))) :
    Calls Tryz.prog 20 #[.pointer (some ⟨pb, 0, none⟩), .agg (reqV r).toArray] w (Post) := by
  have hR := (ReqAt.new w 47 hr)
  have hb0 := (Below.refl w.heap.size w).alloc (Nat.le_refl _) (.cells (reqV r).toArray 47)
  have hb1 := hb0.alloc hb0.size (.cells #[.int .i64 0, .slice none 0 0] 43)
  have hR1 := hR.below ((Below.refl _ (w.alloc (.cells (reqV r).toArray 47))).alloc (Nat.le_refl _) (.cells #[.int .i64 0, .slice none 0 0] 43))
  have hk4 : Blk ((w.alloc (.cells (reqV r).toArray 47)).alloc (.cells #[.int .i64 0, .slice none 0 0] 43)) (w.heap.size + 1) #[.int .i64 0, .slice none 0 0] 43 := Blk.new_at _ _ _ _ (by simp)
  obtain ⟨cr, hcr⟩ : ∃ c, c = reqV r := ⟨_, rfl⟩
  rw [← hcr] at hR1 hb1 hk4
  rw [← hcr]
  have HCR := Lib.hid hcr
  obtain ⟨w0, hw0⟩ : ∃ x, x = (w.alloc (.cells cr.toArray 47)).alloc (.cells #[.int .i64 0, .slice none 0 0] 43) := ⟨_, rfl⟩
  obtain ⟨p3, hp3⟩ : ∃ p, p = w.heap.size := ⟨_, rfl⟩
  obtain ⟨p4, hp4⟩ : ∃ p, p = w.heap.size + 1 := ⟨_, rfl⟩
  have HW := Lib.hid (And.intro hw0 (And.intro hp3 hp4))
  rw [← hw0, ← hp3] at hR1
  rw [← hw0] at hb1
  rw [← hw0, ← hp4] at hk4
  have H := Lib.hid (And.intro h (And.intro hB hr))
  have hx4 : IsSrv w0 C (fun b => X b ∨ b = p4) pb s := h.growX (fun b hb => .inl hb) (fun b hb => hb.imp id (fun e => by rw [e, hp4]; omega)) hb1 (fun b hb => by rcases hb with hb | hb; exact Nat.lt_of_lt_of_le (h.lt (.inr hb)) hb1.size; rw [hb]; exact hk4.lt)
  have H0 := Lib.hid (And.intro hR1 (And.intro hb1 (And.intro hk4 hx4)))
  clear h hB hr hcr hw0 hp3 hp4 hR hR1 hb0 hb1 hk4 hx4
  have HP := Lib.hid hP
  have HK := Lib.hid (And.intro hk hkr)
  clear hP hk hkr
  go_enter Tryz.func20, Tryz.ntmps20
  go_upto_region 1 with fail
  rw [← HW.out.1, ← HW.out.2.2, ← HW.out.2.1]
  go_wp2_with fail
  refine (srvdead_calls C _ pb s w0 H0.out.2.2.2).mono ?_
  rintro e w1 ⟨rfl, rfl⟩
  rw [H.out.2.1]
  go_upto_region 3 with fail
  have c0 := H0.out.1.kind
  rw [HK.out.2] at c0
  have c0 : w0.drew.cell? ⟨p3, 0, none⟩ = some (.int .i64 (k : Int)) := c0
  have l3 := H0.out.1.lt
  obtain ⟨fnn, hfn⟩ : ∃ n, n = 91 + (k - 1) := ⟨_, rfl⟩
  have HN := Lib.hid hfn
  clear hfn
  go_region_held3 (fun w' => w'.cell? ⟨p3, 0, none⟩ = some (.int .i64 (k : Int))) (first | exact c0 | with_reducible assumption)
    (first
      | (go_at_call 46
         refine (handlers_calls w0.drew).mono ?_
         rintro e w2 ⟨rfl, hm⟩
         obtain ⟨es, c, hb, hf⟩ := hm.2.2
         have lk : (Instr.lookup 110 (.map (some w0.heap.size)) (.int .i64 (k : Int)) true).run Tryz.prog w2 = .ok (.tuple #[.func (.func fnn) #[] #[], .bool true]) w2 := by rw [HN.out]; exact run_look_yes (P := Tryz.prog) Tryz.underlying110 Tryz.underlying3 hb hf k HK.out.1
         have hh : w2.cell? ⟨p3, 0, none⟩ = some (.int .i64 (k : Int)) := (hm.2.1.cell (p := ⟨p3, 0, none⟩) l3).trans c0
         have HM := Lib.hid hm.2.1
         clear hm hb hf))
  have hb2 : Below w0.heap.size w0 w2 := ((Below.refl _ _).drew).trans HM.out
  have k42 := H0.out.2.2.1.kept hb2
  have hR2 := H0.out.1.below hb2
  have r52 := hR2.rall
  have g52 := hR2.hall
  obtain ⟨cr2, hcr2⟩ : ∃ c, c = reqV r := ⟨_, rfl⟩
  rw [← hcr2] at r52
  have hcf : ∀ args w, (callFunc fnn args).run Tryz.prog w = .ok (.enter fnn args) w := by rw [HN.out]; exact call_hand k HK.out.1
  have H2 := Lib.hid (And.intro k42 (And.intro (H0.out.2.2.2.below hb2) (And.intro (H0.out.2.1.trans (hb2.mono H0.out.2.1.size)) hcr2)))
  clear hb2 k42 hR2 hcr2
  go_wp2_with fail
  refine (show Calls _ _ _ _ _ from (by rw [H2.out.2.2.2, HN.out]; exact HP.out w2 p4 H2.out.2.2.1 (by rw [HW.out.2.2]; omega) H2.out.1 H2.out.2.1)).mono ?_
  rintro e w3 ⟨err, a5, n5, c5, rfl, hk3, hpost⟩
  have f40 := hk3.free 0
  have f41 := hk3.free 1
  have c40 : w3.cell? ⟨p4, 0, none⟩ = some (.int .i64 0) := hk3.cell 0
  have c41 : w3.cell? ⟨p4, 1, none⟩ = some (.slice none 0 0) := hk3.cell 1
  have l4f := hk3.lt
  have HPO := Lib.hid hpost
  clear hpost hk3 r52 g52
  go_wp2_with fail
  exact bodyPost_ret (v := .agg #[.int .i64 err, .slice a5 n5 c5]) (by simp [results, Tryz.results20, go_sem, c40, c41]) rfl HPO.out
set_option maxRecDepth 100000 in
set_option maxHeartbeats 1000000 in
theorem do_dead (C X : Nat → Prop) (pb : Nat) (s : SrvS) (r : Req) (hr : r.Wf) (w : World) (h : IsSrv w C X pb s) (hB : s.dead = true) :
    Calls Tryz.prog 20 #[.pointer (some ⟨pb, 0, none⟩), .agg (reqV r).toArray] w (Answers C X pb (fun err s' => err = 8 ∧ s' = s) w) := by
  have hR := (ReqAt.new w 47 hr)
  have hb0 := (Below.refl w.heap.size w).alloc (Nat.le_refl _) (.cells (reqV r).toArray 47)
  have hb1 := hb0.alloc hb0.size (.cells #[.int .i64 0, .slice none 0 0] 43)
  have hR1 := hR.below ((Below.refl _ (w.alloc (.cells (reqV r).toArray 47))).alloc (Nat.le_refl _) (.cells #[.int .i64 0, .slice none 0 0] 43))
  have hk4 : Blk ((w.alloc (.cells (reqV r).toArray 47)).alloc (.cells #[.int .i64 0, .slice none 0 0] 43)) (w.heap.size + 1) #[.int .i64 0, .slice none 0 0] 43 := Blk.new_at _ _ _ _ (by simp)
  obtain ⟨cr, hcr⟩ : ∃ c, c = reqV r := ⟨_, rfl⟩
  rw [← hcr] at hR1 hb1 hk4
  rw [← hcr]
  have HCR := Lib.hid hcr
  obtain ⟨w0, hw0⟩ : ∃ x, x = (w.alloc (.cells cr.toArray 47)).alloc (.cells #[.int .i64 0, .slice none 0 0] 43) := ⟨_, rfl⟩
  obtain ⟨p3, hp3⟩ : ∃ p, p = w.heap.size := ⟨_, rfl⟩
  obtain ⟨p4, hp4⟩ : ∃ p, p = w.heap.size + 1 := ⟨_, rfl⟩
  have HW := Lib.hid (And.intro hw0 (And.intro hp3 hp4))
  rw [← hw0, ← hp3] at hR1
  rw [← hw0] at hb1
  rw [← hw0, ← hp4] at hk4
  have H := Lib.hid (And.intro h (And.intro hB hr))
  have hx4 : IsSrv w0 C (fun b => X b ∨ b = p4) pb s := h.growX (fun b hb => .inl hb) (fun b hb => hb.imp id (fun e => by rw [e, hp4]; omega)) hb1 (fun b hb => by rcases hb with hb | hb; exact Nat.lt_of_lt_of_le (h.lt (.inr hb)) hb1.size; rw [hb]; exact hk4.lt)
  have H0 := Lib.hid (And.intro hR1 (And.intro hb1 (And.intro hk4 hx4)))
  clear h hB hr hcr hw0 hp3 hp4 hR hR1 hb0 hb1 hk4 hx4
  go_enter Tryz.func20, Tryz.ntmps20
  go_upto_region 1 with fail
  rw [← HW.out.1, ← HW.out.2.2, ← HW.out.2.1]
  go_wp2_with fail
  refine (srvdead_calls C _ pb s w0 H0.out.2.2.2).mono ?_
  rintro e w1 ⟨rfl, rfl⟩
  rw [H.out.2.1]
  go_wp2_with fail
  refine (fails_calls 8 w0).mono ?_
  rintro e wf ⟨rfl, hbf⟩
  have k4f := H0.out.2.2.1.kept hbf
  have f40 := k4f.free 0
  have f41 := k4f.free 1
  have c40 : wf.cell? ⟨p4, 0, none⟩ = some (.int .i64 0) := k4f.cell 0
  have c41 : wf.cell? ⟨p4, 1, none⟩ = some (.slice none 0 0) := k4f.cell 1
  have l4f := k4f.lt
  have HBF := Lib.hid hbf
  clear hbf k4f
  go_wp2_with fail
  have hE := reply_end (x := .int .i64 8) (y := .slice none 0 0) ((H0.out.2.2.2).below HBF.out) ((SChg.of_below H0.out.2.1).post HBF.out) (by rw [HW.out.2.2]; omega)
  exact bodyPost_ret (v := .agg #[.int .i64 8, .slice none 0 0]) (by simp [results, Tryz.results20, go_sem, c40, c41]) rfl ⟨C, 8, s, rfl, ⟨rfl, rfl⟩, hE.1, hE.2⟩
set_option maxRecDepth 100000 in
set_option maxHeartbeats 1000000 in
theorem do_form (C X : Nat → Prop) (pb : Nat) (s : SrvS) (r : Req) (hr : r.Wf) (w : World) (h : IsSrv w C X pb s) (hB : s.dead = false) (hk : ∀ k : Nat, handD k = true → (k : Int) ≠ r.kind) :
    Calls Tryz.prog 20 #[.pointer (some ⟨pb, 0, none⟩), .agg (reqV r).toArray] w (Answers C X pb (fun err s' => err = 2 ∧ s' = s) w) := by
  have hR := (ReqAt.new w 47 hr)
  have hb0 := (Below.refl w.heap.size w).alloc (Nat.le_refl _) (.cells (reqV r).toArray 47)
  have hb1 := hb0.alloc hb0.size (.cells #[.int .i64 0, .slice none 0 0] 43)
  have hR1 := hR.below ((Below.refl _ (w.alloc (.cells (reqV r).toArray 47))).alloc (Nat.le_refl _) (.cells #[.int .i64 0, .slice none 0 0] 43))
  have hk4 : Blk ((w.alloc (.cells (reqV r).toArray 47)).alloc (.cells #[.int .i64 0, .slice none 0 0] 43)) (w.heap.size + 1) #[.int .i64 0, .slice none 0 0] 43 := Blk.new_at _ _ _ _ (by simp)
  obtain ⟨cr, hcr⟩ : ∃ c, c = reqV r := ⟨_, rfl⟩
  rw [← hcr] at hR1 hb1 hk4
  rw [← hcr]
  have HCR := Lib.hid hcr
  obtain ⟨w0, hw0⟩ : ∃ x, x = (w.alloc (.cells cr.toArray 47)).alloc (.cells #[.int .i64 0, .slice none 0 0] 43) := ⟨_, rfl⟩
  obtain ⟨p3, hp3⟩ : ∃ p, p = w.heap.size := ⟨_, rfl⟩
  obtain ⟨p4, hp4⟩ : ∃ p, p = w.heap.size + 1 := ⟨_, rfl⟩
  have HW := Lib.hid (And.intro hw0 (And.intro hp3 hp4))
  rw [← hw0, ← hp3] at hR1
  rw [← hw0] at hb1
  rw [← hw0, ← hp4] at hk4
  have H := Lib.hid (And.intro h (And.intro hB hr))
  have hx4 : IsSrv w0 C (fun b => X b ∨ b = p4) pb s := h.growX (fun b hb => .inl hb) (fun b hb => hb.imp id (fun e => by rw [e, hp4]; omega)) hb1 (fun b hb => by rcases hb with hb | hb; exact Nat.lt_of_lt_of_le (h.lt (.inr hb)) hb1.size; rw [hb]; exact hk4.lt)
  have H0 := Lib.hid (And.intro hR1 (And.intro hb1 (And.intro hk4 hx4)))
  clear h hB hr hcr hw0 hp3 hp4 hR hR1 hb0 hb1 hk4 hx4
  have HK := Lib.hid hk
  clear hk
  go_enter Tryz.func20, Tryz.ntmps20
  go_upto_region 1 with fail
  rw [← HW.out.1, ← HW.out.2.2, ← HW.out.2.1]
  go_wp2_with fail
  refine (srvdead_calls C _ pb s w0 H0.out.2.2.2).mono ?_
  rintro e w1 ⟨rfl, rfl⟩
  rw [H.out.2.1]
  go_upto_region 3 with fail
  have c0 : w0.drew.cell? ⟨p3, 0, none⟩ = some (.int .i64 r.kind) := H0.out.1.kind
  have l3 := H0.out.1.lt
  go_region_held3 (fun w' => w'.cell? ⟨p3, 0, none⟩ = some (.int .i64 r.kind)) (first | exact c0 | with_reducible assumption)
    (first
      | (go_at_call 46
         refine (handlers_calls w0.drew).mono ?_
         rintro e w2 ⟨rfl, hm⟩
         obtain ⟨es, c, hb, hf⟩ := hm.2.2
         have lk : (Instr.lookup 110 (.map (some w0.heap.size)) (.int .i64 r.kind) true).run Tryz.prog w2 = .ok (.tuple #[.nilFunc, .bool false]) w2 := run_look_no (P := Tryz.prog) Tryz.underlying110 Tryz.underlying3 (by kernel_rfl) hb hf r.kind HK.out
         have hh : w2.cell? ⟨p3, 0, none⟩ = some (.int .i64 r.kind) := (hm.2.1.cell (p := ⟨p3, 0, none⟩) l3).trans c0
         have HM := Lib.hid hm.2.1
         clear hm hb hf))
  have hb2 : Below w0.heap.size w0 w2 := ((Below.refl _ _).drew).trans HM.out
  have H2 := Lib.hid (And.intro (H0.out.2.2.1.kept hb2) (And.intro (H0.out.2.2.2.below hb2) (H0.out.2.1.trans (hb2.mono H0.out.2.1.size))))
  clear hb2
  go_wp2_with fail
  refine (fails_calls 2 w2).mono ?_
  rintro e wf ⟨rfl, hbf⟩
  have k4f := H2.out.1.kept hbf
  have f40 := k4f.free 0
  have f41 := k4f.free 1
  have c40 : wf.cell? ⟨p4, 0, none⟩ = some (.int .i64 0) := k4f.cell 0
  have c41 : wf.cell? ⟨p4, 1, none⟩ = some (.slice none 0 0) := k4f.cell 1
  have l4f := k4f.lt
  have HBF := Lib.hid hbf
  clear hbf k4f
  go_wp2_with fail
  have hE := reply_end (x := .int .i64 2) (y := .slice none 0 0) ((H2.out.2.1).below HBF.out) ((SChg.of_below H2.out.2.2).post HBF.out) (by rw [HW.out.2.2]; omega)
  exact bodyPost_ret (v := .agg #[.int .i64 2, .slice none 0 0]) (by simp [results, Tryz.results20, go_sem, c40, c41]) rfl ⟨C, 2, s, rfl, ⟨rfl, rfl⟩, hE.1, hE.2⟩
end Go.Proofs.YtbbojbdigiibbaaGreatDoor
end
section
namespace Go.Mem
open Go Go.RowKit Gf Lea Go.Proofs.YtbbojbdigiibbaaGreatDoor
theorem name_data {a b : List UInt8} (h : (⟨a.toArray⟩ : ByteArray) = ⟨b.toArray⟩) : a = b := by
  injection h with h
  simpa using h
theorem shareN_inj {ix ix' : Key} {n n' : Nat} (h : shareN ix n = shareN ix' n') (hi : ix.length = 16) (hi' : ix'.length = 16) (hn : n < 16) (hn' : n' < 16) : ix = ix' ∧ n = n' := by
  have h := name_data h
  injection h with _ h
  have h2 := List.append_inj h (by omega)
  refine ⟨h2.1, ?_⟩
  have h3 : UInt8.ofNat n = UInt8.ofNat n' := by simpa using h2.2
  have h4 := congrArg UInt8.toNat h3
  simpa [Nat.mod_eq_of_lt (show n < 256 by omega), Nat.mod_eq_of_lt (show n' < 256 by omega)] using h4
theorem leaseN_inj {ix ix' : Key} (h : leaseN ix = leaseN ix') : ix = ix' := by
  have h := name_data h
  injection h
theorem share_lease {ix ix' : Key} {n : Nat} : shareN ix n ≠ leaseN ix' := fun h => by
  have h := name_data h
  injection h with h _
  exact absurd h (by decide)
theorem slot_lease {ix ix' : Key} : slotN ix ≠ leaseN ix' := fun h => by
  have h := name_data h
  injection h with h _
  exact absurd h (by decide)
def ixOf (nm : ByteArray) : Key := (nm.data.toList.drop 1).take 16
theorem ixOf_lease {ix : Key} (h : ix.length = 16) : ixOf (leaseN ix) = ix := by
  show ((108 :: ix).drop 1).take 16 = ix
  rw [List.drop_succ_cons, List.drop_zero, List.take_of_length_le (by omega)]
theorem share_size (ix : Key) (n : Nat) (h : ix.length = 16) : (shareN ix n).size = 18 := by
  show (115 :: (ix ++ [UInt8.ofNat n])).toArray.size = 18
  simp; omega
theorem slot_size (ix : Key) (h : ix.length = 16) : (slotN ix).size = 17 := name_size 99 h
theorem lease_size (ix : Key) (h : ix.length = 16) : (leaseN ix).size = 17 := name_size 108 h
structure LeOk (out : List Sec) : Prop where
  wf : ∀ s ∈ out, WfL s ∧ May s.2
  few : out.length ≤ 8
  nodup : (out.map (·.1)).Nodup
  up : out.Pairwise fun a b => ltL b a = false
  ne : out ≠ []
inductive RecOk : ByteArray → List UInt8 → Prop
  | share (ix : Key) (n : Nat) (data : List UInt8) (h : ix.length = 16) (hn : n < 16) (hd : data.length ≤ 16384) : RecOk (shareN ix n) data
  | slot (ix k : Key) (l : List Blob) (h : ix.length = 16) (hk : k.length = 16) (hl : BlOk l) (h16 : l.length ≤ 16) (hu : (l.map (·.1)).Pairwise (· < ·)) : RecOk (slotN ix) (contB k l)
  | lease (ix : Key) (out : List Sec) (h : ix.length = 16) (hl : LeOk out) : RecOk (leaseN ix) (packL out)
def RecsOk (l : List Sto.Rec) : Prop := ∀ r ∈ l, r.is = true → RecOk r.name r.data
theorem RecsOk.free (n : Nat) : RecsOk (List.replicate n Sto.Rec.free) := fun r hr h => by
  rw [(List.mem_replicate.1 hr).2] at h
  cases h
theorem RecsOk.set {l : List Sto.Rec} (h : RecsOk l) (t : Nat) {r : Sto.Rec} (hr : r.is = true → RecOk r.name r.data) : RecsOk (l.set t r) := fun r' h' => by
  rcases List.mem_or_eq_of_mem_set h' with h' | rfl
  · exact h r' h'
  · exact hr
theorem RecsOk.drop {l : List Sto.Rec} (h : RecsOk l) (t : Nat) : RecsOk (l.set t Sto.Rec.free) := h.set t (fun h => by cases h)
theorem RecsOk.putL {l : List Sto.Rec} (h : RecsOk l) {name : ByteArray} {data : List UInt8} (hr : RecOk name data) : RecsOk (putL l name data) := h.set _ (fun _ => hr)
theorem RecsOk.putF {l : List Sto.Rec} (h : RecsOk l) {name : ByteArray} {data : List UInt8} (hr : RecOk name data) : RecsOk (putF l name data) := by
  unfold Go.Mem.putF
  split
  · exact h.putL hr
  · exact (h.putL hr).drop _
theorem RecsOk.thin {l l' : List Sto.Rec} (h : RecsOk l) (ht : Sto.Thin l l') : RecsOk l' := fun r hr his => by
  obtain ⟨i, hi⟩ := List.getElem?_of_mem hr
  rcases ht.2 i with h1 | ⟨_, _, _, _, h1⟩
  · exact h r (List.mem_of_getElem? (h1.symm.trans hi)) his
  · rw [h1] at hi; cases hi; cases his
theorem look_at {l : List Sto.Rec} {nm : ByteArray} {b : List UInt8} (h : Sto.look l nm = some b) : ∃ r ∈ l, r.is = true ∧ r.name = nm ∧ r.data = b := by
  obtain ⟨k, hk⟩ := best_of_some h
  obtain ⟨r, h1, h2, _⟩ := (Sto.best_top _ _ _).1 k hk
  unfold Sto.look at h
  rw [hk] at h
  simp only [Option.map_some, Option.some.injEq] at h
  rw [List.getD_eq_getElem?_getD, h2.1] at h
  exact ⟨r, List.mem_of_getElem? h2.1, h2.2.1, h2.2.2, h⟩
theorem RecsOk.look {l : List Sto.Rec} (h : RecsOk l) {nm : ByteArray} {b : List UInt8} (hl : Sto.look l nm = some b) : RecOk nm b := by
  obtain ⟨r, h1, h2, rfl, rfl⟩ := look_at hl
  exact h r h1 h2
theorem RecsOk.size {l : List Sto.Rec} (h : RecsOk l) : ∀ r ∈ l, r.is = true → 17 ≤ r.name.size := fun r hr his => by
  have := h r hr his
  generalize r.data = dd at this
  revert this
  generalize r.name = nm
  intro this
  cases this with
  | share ix n _ h _ _ => rw [share_size _ _ h]; omega
  | slot ix _ _ h _ _ _ _ => rw [slot_size _ h]; exact Nat.le_refl _
  | lease ix _ h _ => rw [lease_size _ h]; exact Nat.le_refl _
theorem RecOk.lease_of {ix : Key} {b : List UInt8} (h : RecOk (leaseN ix) b) : ∃ out, b = packL out ∧ LeOk out := by
  generalize hn : leaseN ix = nm at h
  cases h with
  | share ix n _ _ _ _ => exact absurd hn (fun e => share_lease e.symm)
  | slot ix _ _ _ _ _ _ _ => exact absurd hn (fun e => slot_lease e.symm)
  | lease ix out _ hl => exact ⟨out, rfl, hl⟩
structure SLive (m : Nat) (s : St) : Prop where
  holds : Holds s.disk s.room s.recs
  uniq : Sto.Uniq s.recs
  disk : s.disk.dead = false
  dead : s.dead = false
  bnd : Bnd m s.recs
  writes : s.disk.writes ≤ 2000 * m
  room : 1 ≤ s.room ∧ s.room ≤ 1000
  recs : RecsOk s.recs
structure SHold (m : Nat) (D : DiskS) (room : Nat) (l : List Sto.Rec) : Prop where
  holds : Holds D room l
  bnd : Bnd m l
  writes : D.writes ≤ 2000 * m
  recs : RecsOk l
theorem SLive.hold {m : Nat} {s : St} (h : SLive m s) : SHold m s.disk s.room s.recs := ⟨h.holds, h.bnd, h.writes, h.recs⟩
theorem SLive.le {m m' : Nat} {s : St} (h : SLive m s) (hm : m ≤ m') : SLive m' s := ⟨h.holds, h.uniq, h.disk, h.dead, fun r hr => Nat.le_trans (h.bnd r hr) hm, by have := h.writes; omega, h.room, h.recs⟩
theorem SHold.le {m m' : Nat} {D : DiskS} {room : Nat} {l : List Sto.Rec} (h : SHold m D room l) (hm : m ≤ m') : SHold m' D room l := ⟨h.holds, fun r hr => Nat.le_trans (h.bnd r hr) hm, by have := h.writes; omega, h.recs⟩
theorem SLive.fresh (slots room : Nat) (h : 1 ≤ room ∧ room ≤ 1000) : SLive 0 ⟨room, List.replicate slots Sto.Rec.free, false, .fresh (slots * (room + 1))⟩ :=
  ⟨Holds.fresh slots room, uniq_free slots, rfl, rfl, bnd_free slots, Nat.le_refl _, h, RecsOk.free _⟩
theorem SLive.stop {m : Nat} {s : St} (h : SLive m s) (a k : Int) : SLive m { s with disk := s.disk.stop a k } := ⟨h.holds.stop a k, h.uniq, h.disk, h.dead, h.bnd, h.writes, h.room, h.recs⟩
inductive PutL (m : Nat) (s : St) (name : ByteArray) (data : List UInt8) : Int × St → Prop
  | arg (h : fitsB s.room name data = false) : PutL m s name data (1, s)
  | full (h : fitsB s.room name data = true) (hs : Sto.slot s.recs = s.recs.length) : PutL m s name data (3, s)
  | done (s' : St) (h : fitsB s.room name data = true) (hs : Sto.slot s.recs < s.recs.length) (hr : s'.recs = putF s.recs name data) (hl : SLive (m + 1) s') (ho : s'.room = s.room) (hst : s'.disk.stops = s.disk.stops) : PutL m s name data (0, s')
  | torn (s' : St) (l : List Sto.Rec) (h : fitsB s.room name data = true) (hs : Sto.slot s.recs < s.recs.length) (hd : s.disk.stops = true) (h1 : s'.disk.dead = true) (h2 : s'.dead = true) (ho : s'.room = s.room) (hl : SHold (m + 1) s'.disk s.room l) (hx : l = s.recs ∨ Sto.Thin (putL s.recs name data) l) : PutL m s name data (8, s')
theorem SLive.put {m : Nat} {s : St} (h : SLive m s) (hm : m < 1000000) {name : ByteArray} {data : List UInt8} (hr : RecOk name data) : PutL m s name data (putR s name data) := by
  have hro := h.room
  have hw := h.writes
  have hpw := put_writes s name data
  rcases put_law h.holds h.disk h.dead h.bnd (by omega) name data with ⟨h1, e⟩ | ⟨h1, h2, e⟩ | ⟨h0, h1, h2, h3, h4⟩
  · rw [e]; exact .arg h1
  · rw [e]; exact .full h1 h2
  · have hb : Bnd (m + 1) (putL s.recs name data) := h.bnd.set (by omega) _ (h.bnd.next name)
    generalize putR s name data = R at *
    obtain ⟨e, s'⟩ := R
    simp only at *
    rcases h4 with ⟨rfl, a2, a3, a4, a5⟩ | ⟨rfl, a2, a3, a4, l, a5, a6⟩
    · refine .done s' h0 h1 a4 ⟨by rw [h2, a4]; exact a5, by rw [a4]; exact putF_uniq h.uniq h1 name data, a3, a2, by rw [a4]; exact hb.thin (putL_thin h1 name data), by omega, by rw [h2]; exact hro, by rw [a4]; exact h.recs.putF hr⟩ h2 h3
    · refine .torn s' l h0 h1 a2 a4 a3 h2 ⟨a5, ?_, by omega, ?_⟩ a6
      · rcases a6 with rfl | a6
        · exact fun r hr => Nat.le_succ_of_le (h.bnd r hr)
        · exact hb.thin a6
      · rcases a6 with rfl | a6
        · exact h.recs
        · exact (h.recs.putL hr).thin a6
inductive DropL (m : Nat) (s : St) (name : ByteArray) : Int × St → Prop
  | none (h : Sto.look s.recs name = none) : DropL m s name (4, s)
  | done (s' : St) (x : List UInt8) (h : Sto.look s.recs name = some x) (k : Nat) (hk : Sto.best s.recs name s.recs.length = some k) (hr : s'.recs = s.recs.set k Sto.Rec.free) (hl : SLive (m + 1) s') (ho : s'.room = s.room) (hst : s'.disk.stops = s.disk.stops) (hlk : ∀ nm, Sto.look s'.recs nm = if nm = name then Option.none else Sto.look s.recs nm) : DropL m s name (0, s')
  | torn (s' : St) (l : List Sto.Rec) (x : List UInt8) (h : Sto.look s.recs name = some x) (hd : s.disk.stops = true) (h1 : s'.disk.dead = true) (h2 : s'.dead = true) (ho : s'.room = s.room) (hl : SHold (m + 1) s'.disk s.room l) (hn : l.length = s.recs.length) (hlk : ∀ nm, nm ≠ name → Sto.look l nm = Sto.look s.recs nm) (hx : Sto.look l name = Option.none ∨ Sto.look l name = some x) : DropL m s name (8, s')
theorem SLive.drop {m : Nat} {s : St} (h : SLive m s) (name : ByteArray) : DropL m s name (dropR s name) := by
  unfold dropR
  rw [if_neg (by simp [h.dead])]
  cases hb : Sto.best s.recs name s.recs.length with
  | none => exact .none (by unfold Sto.look; rw [hb]; rfl)
  | some k =>
    obtain ⟨rk, hk, _⟩ := (Sto.best_top _ _ _).1 k hb
    obtain ⟨x, hx⟩ : ∃ x, Sto.look s.recs name = some x := by unfold Sto.look; rw [hb]; exact ⟨_, rfl⟩
    have hwr : (s.freeS k).disk.writes ≤ s.disk.writes + 1 := DiskS.wr_writes _ _ _
    have hw := h.writes
    have hlk := Sto.look_drop h.uniq hb
    have hb1 : Bnd (m + 1) s.recs := fun r hr => Nat.le_succ_of_le (h.bnd r hr)
    have hb2 : Bnd (m + 1) (s.recs.set k Sto.Rec.free) := h.bnd.set (by omega) k (Nat.zero_le _)
    have hst : (s.freeS k).disk.stops = s.disk.stops := wr_stops _ _ _
    show DropL m s name (s.freeE k, s.freeS k)
    have hro : (s.freeS k).room = s.room := rfl
    rcases free_law h.holds h.disk h.dead hk with ⟨a1, a2, a3, a4, a5⟩ | ⟨a1, a2, a2', a3, a4, a5, a6⟩
    · rw [a1]
      refine .done _ x hx k hb a4 ⟨by rw [a4, hro]; exact a5, by rw [a4]; exact h.uniq.drop k, a3, a2, by rw [a4]; exact hb2, by omega, h.room, by rw [a4]; exact h.recs.drop k⟩ hro hst (fun nm => by rw [a4]; exact hlk nm)
    · rw [a1]
      rcases a6 with a6 | a6
      · exact .torn _ s.recs x hx a2 a4 a3 hro ⟨a6, hb1, by omega, h.recs⟩ rfl (fun _ _ => rfl) (.inr hx)
      · exact .torn _ _ x hx a2 a4 a3 hro ⟨a6, hb2, by omega, h.recs.drop k⟩ List.length_set (fun nm hn => by rw [hlk, if_neg hn]) (.inl (by rw [hlk, if_pos rfl]))
theorem SHold.reopen {m : Nat} {D : DiskS} {room : Nat} {l : List Sto.Rec} (h : SHold m D room l) (hl : l.length ≤ 500) (hr : 1 ≤ room ∧ room ≤ 1000) :
    ∃ l' D', Sto.Thin l l' ∧ openR D.start l.length room = (0, D', some ⟨room, l', false, D'⟩) ∧ SLive (m + 1) ⟨room, l', false, D'⟩ ∧ D'.stops = false := by
  obtain ⟨l', D', h1, h2, h3⟩ := good_reopen h.holds h.bnd h.writes hl hr
  exact ⟨l', D', h1, h2, ⟨h3.holds, h3.uniq, h3.disk, h3.dead, h3.bnd, h3.writes, h3.room, h.recs.thin h1⟩, h3.stops⟩
def TabIs (l : List Sto.Rec) (tab : List Les) : Prop := ∀ ix : Key, ix.length = 16 → (Sto.look l (leaseN ix) = none ∧ ofL tab ix = []) ∨ ∃ out, Sto.look l (leaseN ix) = some (packL out) ∧ OfR tab ix out ∧ out ≠ []
theorem TabIs.perm {l : List Sto.Rec} {t t' : List Les} (h : TabIs l t) (hp : t'.Perm t) : TabIs l t' := fun ix hx => by
  rcases h ix hx with ⟨h1, h2⟩ | ⟨out, h1, h2, h3⟩
  · exact .inl ⟨h1, by have := (ofL_perm hp ix).length_eq; rw [h2] at this; exact List.eq_nil_of_length_eq_zero this⟩
  · exact .inr ⟨out, h1, ⟨h2.perm.trans (ofL_perm hp ix).symm, h2.up⟩, h3⟩
theorem ofR_leOk {t : List Les} (hw : ∀ x ∈ t, Wf x) (hg : Lea.Good t) {ix : Key} {out : List Sec} (h : OfR t ix out) (hne : out ≠ []) : LeOk out := by
  refine ⟨fun s hs => ?_, ?_, ?_, h.up, hne⟩
  · obtain ⟨x, hx, _, e⟩ := mem_ofL.1 (h.perm.mem_iff.1 hs)
    subst e
    exact ⟨(hw x hx).2, hg.ends x hx⟩
  · rw [h.perm.length_eq]; exact hg.few ix
  · have hg' : Lea.Good (t.filter fun x => decide (x.ix = ix)) := hg.sub List.filter_sublist
    have h1 : (t.filter fun x => decide (x.ix = ix)).map kOf = ((ofL t ix).map (·.1)).map fun s => (ix, s) := by
      unfold ofL
      rw [List.map_map, List.map_map]
      refine List.map_congr_left fun x hx => ?_
      have := (List.mem_filter.1 hx).2
      simp only [decide_eq_true_eq] at this
      subst this
      rfl
    have h2 := hg'.uniq
    rw [h1] at h2
    exact (h.perm.map _).nodup_iff.2 ((List.pairwise_map.1 h2).imp (fun h e => h (by rw [e])))
theorem packL_nil {out : List Sec} (h : packL out = []) : out = [] := by
  cases out with
  | nil => rfl
  | cons x l =>
    rw [packL_cons] at h
    have := congrArg List.length h
    simp only [List.length_append, Cod.net_len, List.length_nil] at this
    omega
end Go.Mem
end
section
namespace Lea
theorem ofL_set_other {ix ix' : Key} (hn : ix' ≠ ix) : ∀ {l : List Les} {k : Nat} {x y : Les}, l[k]? = some x → x.ix = ix → y.ix = ix → ofL (l.set k y) ix' = ofL l ix'
  | z :: l, 0, x, y, hx, h1, h2 => by
    simp at hx
    subst hx
    unfold ofL
    rw [List.set_cons_zero, List.filter_cons_of_neg (by simpa [h2] using fun e => hn e.symm), List.filter_cons_of_neg (by simpa [h1] using fun e => hn e.symm)]
  | z :: l, k + 1, x, y, hx, h1, h2 => by
    have ih := ofL_set_other hn (l := l) (k := k) (by simpa using hx) h1 h2
    unfold ofL at ih ⊢
    rw [List.set_cons_succ, List.filter_cons, List.filter_cons]
    split
    · rw [List.map_cons, List.map_cons, ih]
    · exact ih
theorem AddR.other {l l' : List Les} {ix sec : Key} {e : Int} {b : Bool} (h : AddR l ix sec e b l') {ix' : Key} (hn : ix' ≠ ix) : (ofL l' ix').Perm (ofL l ix') := by
  cases h with
  | no _ => exact List.Perm.refl _
  | more k x _ _ hx h1 _ hp => exact (ofL_perm hp ix').trans (by rw [ofL_set_other hn hx h1 rfl])
  | new _ _ _ _ hp =>
    refine (ofL_perm hp ix').trans ?_
    rw [ofL_app]
    have : ofL [(⟨ix, sec, e⟩ : Les)] ix' = [] := by
      unfold ofL
      rw [List.filter_cons_of_neg (by simpa using fun e => hn e.symm)]; rfl
    rw [this, List.append_nil]
theorem AddR.wf {l l' : List Les} {ix sec : Key} {e : Int} {b : Bool} (h : AddR l ix sec e b l') (hw : ∀ x ∈ l, Wf x) (h1 : ix.length = 16) (h2 : sec.length = 16) : ∀ x ∈ l', Wf x := by
  cases h with
  | no _ => exact hw
  | more k x _ _ hx _ _ hp =>
    intro y hy
    rcases List.mem_or_eq_of_mem_set (hp.mem_iff.1 hy) with hy | rfl
    · exact hw y hy
    · exact ⟨h1, h2⟩
  | new _ _ _ _ hp =>
    intro y hy
    rcases List.mem_append.1 (hp.mem_iff.1 hy) with hy | hy
    · exact hw y hy
    · rw [List.mem_singleton.1 hy]; exact ⟨h1, h2⟩
theorem AddR.has {l l' : List Les} {ix sec : Key} {e : Int} (h : AddR l ix sec e true l') : ∃ x ∈ l', x.ix = ix ∧ x.sec = sec ∧ e ≤ x.e := by
  cases h with
  | more k x _ _ hx _ _ hp => exact ⟨_, hp.mem_iff.2 (List.mem_set (Go.Mem.some_lt hx) _), rfl, rfl, by show e ≤ max x.e e; omega⟩
  | new _ _ _ _ hp => exact ⟨⟨ix, sec, e⟩, hp.mem_iff.2 (by simp), rfl, rfl, Int.le_refl _⟩
theorem AddR.may {l l' : List Les} {ix sec : Key} {e : Int} (h : AddR l ix sec e true l') : May e := by
  cases h with
  | more _ _ _ he _ _ _ _ => exact he
  | new _ he _ _ _ => exact he
theorem AddR.ne {l l' : List Les} {ix sec : Key} {e : Int} (h : AddR l ix sec e true l') : ofL l' ix ≠ [] := fun e' => by
  obtain ⟨x, hx, h1, _⟩ := h.has
  exact ofL_nil.1 e' x hx h1
theorem CancelR.other {l l' : List Les} {ix sec : Key} {b : Bool} (h : CancelR l ix sec b l') {ix' : Key} (hn : ix' ≠ ix) : (ofL l' ix').Perm (ofL l ix') := by
  cases h with
  | no _ => exact List.Perm.refl _
  | gone x _ h1 _ hp =>
    refine List.Perm.trans ?_ (ofL_perm hp ix')
    unfold ofL
    rw [List.filter_cons_of_neg (by simpa [h1] using fun e => hn e.symm)]
theorem CancelR.sub {l l' : List Les} {ix sec : Key} {b : Bool} (h : CancelR l ix sec b l') : ∀ x ∈ l', x ∈ l := by
  cases h with
  | no _ => exact fun _ h => h
  | gone x _ _ _ hp => exact fun y hy => hp.mem_iff.1 (List.mem_cons_of_mem _ hy)
theorem OfR.nil_iff {l : List Les} {ix : Key} {out : List Sec} (h : OfR l ix out) : out = [] ↔ ofL l ix = [] := by
  have := h.perm.length_eq
  constructor
  · intro e; rw [e] at this; exact List.eq_nil_of_length_eq_zero this.symm
  · intro e; rw [e] at this; exact List.eq_nil_of_length_eq_zero this
theorem OfR.lives {l : List Les} {ix : Key} {out : List Sec} (h : OfR l ix out) (now : Int)   : Go.Proofs.YtbbojbdigiibbaaGreatDoor.Lives l ix now ↔ ∃ s ∈ out, now < s.2 := by
  constructor
  · rintro ⟨x, hx, h1, h2⟩
    exact ⟨(x.sec, x.e), h.perm.mem_iff.2 (mem_ofL.2 ⟨x, hx, h1, rfl⟩), h2⟩
  · rintro ⟨s, hs, h2⟩
    obtain ⟨x, hx, h1, rfl⟩ := mem_ofL.1 (h.perm.mem_iff.1 hs)
    exact ⟨x, hx, h1, h2⟩
end Lea
namespace Go.Mem
open Go Go.RowKit Gf Lea Go.Proofs.YtbbojbdigiibbaaGreatDoor
abbrev Look := ByteArray → Option (List UInt8)
structure SrvG (m : Nat) (s : SrvS) : Prop where
  st : SLive m s.st
  good : Lea.Good s.tab
  wf : ∀ x ∈ s.tab, Wf x
  tab : TabIs s.st.recs s.tab
  brk : s.broken = false
  slots : s.slots = s.st.recs.length
  room : s.room = s.st.room
  few : s.slots ≤ 120
structure SrvX (m : Nat) (s : SrvS) (l : List Sto.Rec) : Prop where
  dead : s.st.disk.dead = true
  hold : SHold m s.st.disk s.room l
  good : Lea.Good s.tab
  slots : s.slots = l.length
  room : 1 ≤ s.room ∧ s.room ≤ 1000
  few : s.slots ≤ 120
def SrvT (m : Nat) (s : SrvS) (f : Look) : Prop := (SrvG m s ∧ ∀ nm, f nm = Sto.look s.st.recs nm) ∨ ∃ l, SrvX m s l ∧ ∀ nm, f nm = Sto.look l nm
theorem SrvG.le {m m' : Nat} {s : SrvS} (h : SrvG m s) (hm : m ≤ m') : SrvG m' s := ⟨h.st.le hm, h.good, h.wf, h.tab, h.brk, h.slots, h.room, h.few⟩
theorem SrvX.le {m m' : Nat} {s : SrvS} {l : List Sto.Rec} (h : SrvX m s l) (hm : m ≤ m') : SrvX m' s l := ⟨h.dead, h.hold.le hm, h.good, h.slots, h.room, h.few⟩
theorem SrvT.le {m m' : Nat} {s : SrvS} {f : Look} (h : SrvT m s f) (hm : m ≤ m') : SrvT m' s f := by
  rcases h with ⟨h, e⟩ | ⟨l, h, e⟩
  · exact .inl ⟨h.le hm, e⟩
  · exact .inr ⟨l, h.le hm, e⟩
theorem SrvG.live {m : Nat} {s : SrvS} (h : SrvG m s) : s.dead = false := by
  unfold SrvS.dead
  rw [h.brk, h.st.disk, h.st.dead]; rfl
theorem SrvG.get {m : Nat} {s : SrvS} (h : SrvG m s) (nm : ByteArray) : s.st.get nm = Sto.look s.st.recs nm := St.get_look h.st.dead nm
theorem SrvT.good {m : Nat} {s : SrvS} {f : Look} (h : SrvT m s f) : Lea.Good s.tab := by
  rcases h with ⟨h, _⟩ | ⟨l, h, _⟩
  · exact h.good
  · exact h.good
theorem SrvT.writes {m : Nat} {s : SrvS} {f : Look} (h : SrvT m s f) : s.st.disk.writes ≤ 2000 * m := by
  rcases h with ⟨h, _⟩ | ⟨l, h, _⟩
  · exact h.st.writes
  · exact h.hold.writes
def upd (f : Look) (nm : ByteArray) (x : Option (List UInt8)) : Look := fun n => if n = nm then x else f n
theorem putF_upd {l : List Sto.Rec} (ht : Sto.slot l < l.length) (name : ByteArray) (data : List UInt8) : ∀ nm, Sto.look (putF l name data) nm = upd (Sto.look l) name (some data) nm := fun nm => putF_look ht name data nm
theorem torn_upd {l l' : List Sto.Rec} (ht : Sto.slot l < l.length) {name : ByteArray} {data : List UInt8} (h : l' = l ∨ Sto.Thin (putL l name data) l') : l'.length = l.length ∧ ((∀ nm, Sto.look l' nm = Sto.look l nm) ∨ ∀ nm, Sto.look l' nm = upd (Sto.look l) name (some data) nm) := by
  rcases h with rfl | h
  · exact ⟨rfl, .inl fun _ => rfl⟩
  · refine ⟨by rw [h.1]; unfold Go.Mem.putL; rw [List.length_set], .inr fun nm => ?_⟩
    rw [h.look, putL_look ht]; rfl
theorem SrvG.put {m : Nat} {s : SrvS} (h : SrvG m s) (hm : m < 1000000) {name : ByteArray} {data : List UInt8} (hr : RecOk name data) (hn : ∀ ix, name ≠ leaseN ix) :
    ((putR s.st name data).1 = 0 ∧ SrvG (m + 1) { s with st := (putR s.st name data).2 } ∧ (∀ nm, Sto.look (putR s.st name data).2.recs nm = upd (Sto.look s.st.recs) name (some data) nm) ∧ (putR s.st name data).2.disk.stops = s.st.disk.stops) ∨
    (((putR s.st name data).1 = 1 ∨ (putR s.st name data).1 = 3) ∧ (putR s.st name data).2 = s.st) ∨
    ((putR s.st name data).1 = 8 ∧ s.st.disk.stops = true ∧ ∃ l, SrvX (m + 1) { s with st := (putR s.st name data).2 } l ∧ ((∀ nm, Sto.look l nm = Sto.look s.st.recs nm) ∨ ∀ nm, Sto.look l nm = upd (Sto.look s.st.recs) name (some data) nm)) := by
  have hp := h.st.put hm hr
  have hro := h.st.room
  generalize putR s.st name data = R at hp
  cases hp with
  | arg _ => exact .inr (.inl ⟨.inl rfl, rfl⟩)
  | full _ _ => exact .inr (.inl ⟨.inr rfl, rfl⟩)
  | done s' _ hs hr' hl ho hst =>
    refine .inl ⟨rfl, ⟨hl, h.good, h.wf, fun ix hx => ?_, h.brk, ?_, ?_, h.few⟩, fun nm => by rw [hr']; exact putF_upd hs _ _ nm, hst⟩
    · show (Sto.look s'.recs (leaseN ix) = none ∧ _) ∨ _
      rw [hr', putF_upd hs, upd, if_neg (fun e => hn ix e.symm)]
      exact h.tab ix hx
    · show s.slots = s'.recs.length
      rw [hr', putF_len, h.slots]
    · show s.room = s'.room
      rw [ho, h.room]
  | torn s' l _ hs hd h1 h2 ho hl hx =>
    have ht := torn_upd hs hx
    exact .inr (.inr ⟨rfl, hd, l, ⟨h1, by rw [h.room]; exact hl, h.good, by show s.slots = l.length; rw [ht.1, h.slots], by rw [h.room]; exact hro, h.few⟩, ht.2⟩)
theorem SrvG.lay {m : Nat} {s : SrvS} (h : SrvG m s) (hm : m < 1000000) {ix : Key} (hix : ix.length = 16) {l2 : List Les} (hg : Lea.Good l2) (hw : ∀ x ∈ l2, Wf x) (ho : ∀ ix', ix' ≠ ix → (ofL l2 ix').Perm (ofL s.tab ix')) {err : Int} {s' : SrvS} (hl : LayR s ix l2 err s') :
    ∃ out, OfR l2 ix out ∧
    ((err = 0 ∧ SrvG (m + 1) s' ∧ s'.tab = l2 ∧ (∀ nm, Sto.look s'.st.recs nm = upd (Sto.look s.st.recs) (leaseN ix) (if out = [] then none else some (packL out)) nm) ∧ s'.st.disk.stops = s.st.disk.stops) ∨
     ((err = 1 ∨ err = 3 ∨ err = 4) ∧ s' = s) ∨
     (err = 8 ∧ s.st.disk.stops = true ∧ ∃ l, SrvX (m + 1) s' l ∧ ((∀ nm, Sto.look l nm = Sto.look s.st.recs nm) ∨ ∀ nm, Sto.look l nm = upd (Sto.look s.st.recs) (leaseN ix) (if out = [] then none else some (packL out)) nm))) := by
  obtain ⟨out, hR, herr, hs'⟩ := hl
  have hro := h.st.room
  refine ⟨out, hR, ?_⟩
  by_cases h0 : out = []
  · have e0 : layR s ix out = dropR s.st (leaseN ix) := by unfold layR; rw [if_pos (by rw [h0]; rfl)]
    rw [e0] at herr hs'
    have hp := h.st.drop (leaseN ix)
    generalize dropR s.st (leaseN ix) = R at hp herr hs'
    simp only [if_pos h0]
    cases hp with
    | none _ =>
      subst herr
      rw [if_neg (by simp)] at hs'
      exact .inr (.inl ⟨.inr (.inr rfl), hs'⟩)
    | done st' x _ k hk hr hl' ho' hst hlk =>
      subst herr
      rw [if_pos (.inl rfl)] at hs'
      subst hs'
      refine .inl ⟨rfl, ⟨hl', hg, hw, fun ix' hx' => ?_, h.brk, ?_, ?_, h.few⟩, rfl, fun nm => hlk nm, hst⟩
      · show (Sto.look st'.recs (leaseN ix') = none ∧ ofL l2 ix' = []) ∨ _
        by_cases e : ix' = ix
        · subst e
          exact .inl ⟨by rw [hlk, if_pos rfl], hR.nil_iff.1 h0⟩
        · rw [hlk, if_neg (fun e' => e (leaseN_inj e'))]
          rcases h.tab ix' hx' with ⟨a1, a2⟩ | ⟨o, a1, a2, a3⟩
          · exact .inl ⟨a1, by have := (ho ix' e).length_eq; rw [a2] at this; exact List.eq_nil_of_length_eq_zero this⟩
          · exact .inr ⟨o, a1, ⟨a2.perm.trans (ho ix' e).symm, a2.up⟩, a3⟩
      · show s.slots = st'.recs.length
        rw [hr, List.length_set, h.slots]
      · show s.room = st'.room
        rw [ho', h.room]
    | torn st' l x hx hd h1 h2 ho' hl' hn hlk hx' =>
      subst herr
      rw [if_pos (.inr rfl)] at hs'
      subst hs'
      refine .inr (.inr ⟨rfl, hd, l, ⟨h1, by show SHold _ st'.disk s.room l; rw [h.room]; exact hl', hg, by show s.slots = l.length; rw [hn, h.slots], by show 1 ≤ s.room ∧ s.room ≤ 1000; rw [h.room]; exact hro, h.few⟩, ?_⟩)
      rcases hx' with hx' | hx'
      · right
        intro nm
        unfold upd
        split
        · rename_i e; rw [e]; exact hx'
        · rename_i e; exact hlk nm e
      · left
        intro nm
        by_cases e : nm = leaseN ix
        · rw [e, hx', hx]
        · exact hlk nm e
  · have e0 : layR s ix out = putR s.st (leaseN ix) (packL out) := by
      unfold layR
      rw [if_neg (fun e => h0 (List.eq_nil_of_length_eq_zero e))]
    rw [e0] at herr hs'
    have hp := h.st.put hm (RecOk.lease ix out hix (ofR_leOk hw hg hR h0))
    generalize putR s.st (leaseN ix) (packL out) = R at hp herr hs'
    simp only [if_neg h0]
    cases hp with
    | arg _ =>
      subst herr
      rw [if_neg (by simp)] at hs'
      exact .inr (.inl ⟨.inl rfl, hs'⟩)
    | full _ _ =>
      subst herr
      rw [if_neg (by simp)] at hs'
      exact .inr (.inl ⟨.inr (.inl rfl), hs'⟩)
    | done st' _ hs hr hl' ho' hst =>
      subst herr
      rw [if_pos (.inl rfl)] at hs'
      subst hs'
      have hlk : ∀ nm, Sto.look st'.recs nm = upd (Sto.look s.st.recs) (leaseN ix) (some (packL out)) nm := fun nm => by rw [hr]; exact putF_upd hs _ _ nm
      refine .inl ⟨rfl, ⟨hl', hg, hw, fun ix' hx' => ?_, h.brk, ?_, ?_, h.few⟩, rfl, hlk, hst⟩
      · show (Sto.look st'.recs (leaseN ix') = none ∧ ofL l2 ix' = []) ∨ _
        rw [hlk]
        by_cases e : ix' = ix
        · subst e
          exact .inr ⟨out, by rw [upd, if_pos rfl], hR, h0⟩
        · rw [upd, if_neg (fun e' => e (leaseN_inj e'))]
          rcases h.tab ix' hx' with ⟨a1, a2⟩ | ⟨o, a1, a2, a3⟩
          · exact .inl ⟨a1, by have := (ho ix' e).length_eq; rw [a2] at this; exact List.eq_nil_of_length_eq_zero this⟩
          · exact .inr ⟨o, a1, ⟨a2.perm.trans (ho ix' e).symm, a2.up⟩, a3⟩
      · show s.slots = st'.recs.length
        rw [hr, putF_len, h.slots]
      · show s.room = st'.room
        rw [ho', h.room]
    | torn st' l _ hs hd h1 h2 ho' hl' hx =>
      subst herr
      rw [if_pos (.inr rfl)] at hs'
      subst hs'
      have ht := torn_upd hs hx
      exact .inr (.inr ⟨rfl, hd, l, ⟨h1, by show SHold _ st'.disk s.room l; rw [h.room]; exact hl', hg, by show s.slots = l.length; rw [ht.1, h.slots], by show 1 ≤ s.room ∧ s.room ≤ 1000; rw [h.room]; exact hro, h.few⟩, ht.2⟩)
theorem SrvG.add {m : Nat} {s : SrvS} (h : SrvG m s) (hm : m < 1000000) {ix sec : Key} (hix : ix.length = 16) (hsec : sec.length = 16) {e : Int} {err : Int} {s' : SrvS} (hl : AddSrv s ix sec e err s') :
    (err = 3 ∧ s' = s ∧ AddR s.tab ix sec e false s.tab) ∨ ∃ l2 out, AddR s.tab ix sec e true l2 ∧ OfR l2 ix out ∧ out ≠ [] ∧
    ((err = 0 ∧ SrvG (m + 1) s' ∧ s'.tab = l2 ∧ (∀ nm, Sto.look s'.st.recs nm = upd (Sto.look s.st.recs) (leaseN ix) (some (packL out)) nm) ∧ s'.st.disk.stops = s.st.disk.stops) ∨
     ((err = 1 ∨ err = 3 ∨ err = 4) ∧ s' = s) ∨
     (err = 8 ∧ s.st.disk.stops = true ∧ ∃ l, SrvX (m + 1) s' l ∧ ((∀ nm, Sto.look l nm = Sto.look s.st.recs nm) ∨ ∀ nm, Sto.look l nm = upd (Sto.look s.st.recs) (leaseN ix) (some (packL out)) nm))) := by
  cases hl with
  | full h1 => exact .inl ⟨rfl, rfl, h1⟩
  | laid l2 _ _ ha hy =>
    obtain ⟨out, hR, hc⟩ := h.lay hm hix (ha.good h.good) (ha.wf h.wf hix hsec) (fun ix' hn => ha.other hn) hy
    have h0 : out ≠ [] := fun e => ha.ne (hR.nil_iff.1 e)
    simp only [if_neg h0] at hc
    exact .inr ⟨l2, out, ha, hR, h0, hc⟩
end Go.Mem
end
section
namespace Go.Mem
open Go Go.RowKit Gf Lea Go.Proofs.YtbbojbdigiibbaaGreatDoor
def freshS (slots room : Nat) : SrvS := ⟨slots, room, ⟨room, List.replicate slots Sto.Rec.free, false, .fresh (slots * (room + 1))⟩, [], false⟩
theorem freshS_good (slots room : Nat) (h : 1 ≤ room ∧ room ≤ 1000) (h2 : slots ≤ 120) : SrvG 0 (freshS slots room) ∧ (∀ nm, Sto.look (freshS slots room).st.recs nm = none) ∧ (freshS slots room).st.disk.stops = false :=
  ⟨⟨SLive.fresh slots room h, Lea.Good.nil, (fun _ h => by cases h), fun ix _ => .inl ⟨look_free _ _, rfl⟩, rfl, by show slots = (List.replicate slots Sto.Rec.free).length; rw [List.length_replicate], rfl, h2⟩, fun nm => look_free _ _, rfl⟩
end Go.Mem
namespace Go.Proofs.YtbbojbdigiibbaaGreatDoor
open Go Go.RowKit Go.Mem Gf Lea
attribute [local go_sem ↓] Go.wp_at_zero Go.wp_at_succ
theorem srvnew_is {w w2 w3 w4 : World} {sb lb d L tb : Nat} {slots room : Nat} (hS : LabS w w2 sb lb d L ⟨room, List.replicate slots Sto.Rec.free, false, .fresh (slots * (room + 1))⟩) (h1 : w2.heap.size ≤ tb) (h2 : Heap w3 tb (.slice none 0 0) []) (hb : Below w2.heap.size w2 w3)
    (hw : w4 = w3.alloc (.cells (srvV slots room d sb tb false) 95)) :
    ∃ C, IsSrv w4 C (fun _ => False) w3.heap.size (freshS slots room) ∧ (∀ b, C b → w.heap.size ≤ b) ∧ Below w.heap.size w w4 := by
  have hs2 := hS.bel.size
  have hs3 := hb.size
  have hlt := hS.st.lt
  have htl := h2.tab.cell.lt
  have hb4 : Below w3.heap.size w3 w4 := by rw [hw]; exact (Below.refl _ _).alloc (Nat.le_refl _) _
  have hb24 : Below w2.heap.size w2 w4 := hb.trans (hb4.mono hs3)
  have h4 : w4.heap.size = w3.heap.size + 1 := by rw [hw]; simp
  refine ⟨fun b => (DL d L b ∨ b = sb ∨ b = lb) ∨ b = tb ∨ b = w3.heap.size, ⟨sb, lb, d, L, tb, .slice none 0 0, ?_, ?_, h2.below hb4, Lea.Good.nil, ?_, (fun _ h => h.elim), ?_, ?_, (fun g hg => by cases hg)⟩, ?_, hS.bel.trans (hb24.mono hs2)⟩
  · rw [hw]; exact Blk.new _ _ _
  · refine hS.st.grow (S := fun _ => False) (Chg.of_below hb24) (fun _ _ h => h) (fun _ h => h.elim) (fun b hM => ?_) (fun b hN => .inl (.inl hN)) (fun b hM => ?_)
    · rcases hM with (hM | rfl | rfl) | hM
      · exact .inl hM
      · exact .inr h1
      · exact .inr hs3
      · exact hM.elim
    · rcases hM with (hM | rfl | rfl) | hM
      · have := hS.st.old b hM; omega
      · omega
      · omega
      · exact hM.elim
  · rintro b (hf | rfl | rfl | hv)
    · left
      rcases hf with rfl | rfl | rfl | rfl
      · exact .inr (.inl rfl)
      · exact .inr (.inr rfl)
      · exact .inl (.inl rfl)
      · exact .inl (.inr rfl)
    · exact .inr (.inr rfl)
    · exact .inr (.inl rfl)
    · cases hv
  · intro hf
    have := hlt _ hf; omega
  · exact ⟨fun hf => by have := hlt _ hf; omega, by omega⟩
  · rintro b ((hM | rfl | rfl) | rfl | rfl)
    · rcases hM with rfl | rfl
      · exact hS.d1
      · exact hS.l1
    · exact hS.s1
    · exact hS.b1
    · omega
    · omega
set_option maxRecDepth 100000 in
set_option maxHeartbeats 1000000 in
theorem srvnew_calls (slots room : Nat) (w : World) (hT : Tab w) (h1 : 1 ≤ slots ∧ slots ≤ 1024) (h2 : 1 ≤ room ∧ room ≤ 1024) (h3 : slots * (room + 1) ≤ 4096) :
    Calls Tryz.prog 14 #[.int .i64 slots, .int .i64 room] w fun e w' => ∃ pb C, e = .returned (.tuple #[.pointer (some ⟨pb, 0, none⟩), .int .i64 0]) ∧ IsSrv w' C (fun _ => False) pb (freshS slots room) ∧ (∀ b, C b → w.heap.size ≤ b) ∧ Below w.heap.size w w' := by
  obtain ⟨m, hmm⟩ : ∃ m, m = slots * (room + 1) := ⟨_, rfl⟩
  have q1 : IntKind.i64.wrap ((room : Int) + 1) = (room : Int) + 1 := IntWalk.i64_in _ (by omega)
  have q2 : IntKind.i64.wrap ((slots : Int) * ((room : Int) + 1)) = (m : Int) := by
    have e2 : (slots : Int) * ((room : Int) + 1) = (m : Int) := by rw [hmm]; push_cast; rfl
    rw [e2]
    exact IntWalk.i64_in _ (by omega)
  have hm1 : 1 ≤ m := by rw [hmm]; exact Nat.mul_pos (by omega) (by omega)
  rw [← hmm] at h3
  have i1 : decide ((slots : Int) < 1) = false := by simp; omega
  have i2 : decide ((room : Int) < 1) = false := by simp; omega
  have i3 : decide (4096 < (slots : Int)) = false := by simp; omega
  have i4 : decide (4096 < (room : Int)) = false := by simp; omega
  have i1' : decide (slots < 1) = false := by simp; omega
  have i2' : decide (room < 1) = false := by simp; omega
  have i3' : decide (4096 < slots) = false := by simp; omega
  have i4' : decide (4096 < room) = false := by simp; omega
  have HM := Lib.hid hmm
  have HT := Lib.hid hT
  have HA := Lib.hid (And.intro h1 (And.intro h2 (And.intro h3 hm1)))
  clear hmm hT h1 h2 h3 hm1
  go_enter Tryz.func14, Tryz.ntmps14
  go_wp2_with fail
  refine (lab_new m w w HT.out (Below.refl _ _) HA.out.2.2.2 HA.out.2.2.1).mono ?_
  rintro e w1 ⟨d, L, rfl, hl1, ht, _⟩
  have H1 := Lib.hid (And.intro ht hl1)
  clear ht hl1
  go_wp2_with fail
  refine (lab_open_uniq H1.out.2 H1.out.1 (slots := slots) (room := room) HA.out.1 HA.out.2.1 (by show 0 < _; omega) (l := List.replicate slots Sto.Rec.free) List.length_replicate (by rw [HM.out]; exact Holds.fresh slots room) rfl (uniq_free slots)).mono ?_
  rintro e w2 ⟨sb, lb, rfl, hs2, _⟩
  have H2 := Lib.hid hs2
  clear hs2
  go_wp2_with fail
  refine (new_calls w2).mono ?_
  rintro e w3 ⟨tb, rfl, hn1, hn2, hn3⟩
  have H3 := Lib.hid (And.intro hn1 (And.intro hn2 hn3))
  clear hn1 hn2 hn3
  go_wp2_with fail
  go_ret2
  obtain ⟨C, a1, a2, a3⟩ := srvnew_is (by have := H2.out; rw [HM.out] at this; exact this) H3.out.1 H3.out.2.1 H3.out.2.2 rfl
  exact ⟨w3.heap.size, C, rfl, a1, a2, a3⟩
end Go.Proofs.YtbbojbdigiibbaaGreatDoor
end
section
namespace Go.Mem
open Go Go.RowKit Gf Go.Sort
section
variable {α : Type} {enc : α → List Value} {Wf : α → Prop} {k : Nat} {ti : TypeId} {w : World} {base g n cap : Nat} {l : List α} [Inhabited {x : α // Wf x}]
omit [Inhabited {x : α // Wf x}] in
def encSub (enc : α → List Value) (Wf : α → Prop) (x : {x : α // Wf x}) : List Value := enc x.1
theorem flat_all (E : EncK enc Wf k) (d : Array {x : α // Wf x}) {j : Nat} (hj : j < d.size * k) : (allV enc (d.toList.map (·.1)))[j]? = some (flatK (encSub enc Wf) k d)[j]! := by
  have e := Nat.div_add_mod' j k
  have hr := Nat.mod_lt j E.pos
  have hq : j / k < d.size := Nat.div_lt_of_lt_mul (by rw [Nat.mul_comm]; exact hj)
  have hx : (d.toList.map (·.1))[j / k]? = some (d[j / k]!).1 := by
    rw [List.getElem?_map, Array.getElem?_toList, getElem!_pos d _ hq, Array.getElem?_eq_getElem hq]; rfl
  have hwf : ∀ x ∈ d.toList.map (·.1), Wf x := fun x hx => by
    obtain ⟨y, _, rfl⟩ := List.mem_map.1 hx
    exact y.2
  have := allV_get E _ hwf (j / k) _ hx (j % k) hr
  rw [e] at this
  rw [this, get_flatK _ _ _ _ hj]
  have hl := E.len _ (d[j / k]!).2
  unfold encSub
  generalize d[j / k]! = y at *
  have hl' : j % k < (enc y.1).length := by omega
  rw [getElem!_pos (enc y.1) (j % k) hl', List.getElem?_eq_getElem hl']
theorem RowG.holds (E : EncK enc Wf k) (h : RowG enc Wf k ti w base g n cap l) (d : Array {x : α // Wf x}) (hd : d.toList.map (·.1) = l) : HoldsK (encSub enc Wf) k w g 0 d := by
  have hn : d.size = n := by rw [h.len, ← hd]; simp
  intro j hj
  rw [size_flatK] at hj
  rw [Nat.zero_add]
  refine ⟨?_, ?_⟩
  · rw [h.cell (by rw [← hn]; exact hj), ← hd, flat_all E d hj]; rfl
  · obtain ⟨cur, hh, _⟩ := h.block
    have hB : Blk w g cur ti := hh
    exact hB.free _
theorem RowG.put (E : EncK enc Wf k) (h : RowG enc Wf k ti w base g n cap l) (m : Nat) (os : Array Obj) (d : Array {x : α // Wf x}) (hd : d.size = n) :
    RowG enc Wf k ti (grow (putRowK (encSub enc Wf) k (Sort.ahead w m) g 0 d) os) base g n cap (d.toList.map (·.1)) ∧ Chg (fun b => b = g) w (grow (putRowK (encSub enc Wf) k (Sort.ahead w m) g 0 d) os) := by
  obtain ⟨cur, hh, hb, h1, h2, h3, h4⟩ := h.block
  have hg : g < w.heap.size := lt_of_block hh
  have hlen : (d.toList.map (·.1)).length = n := by simp [hd]
  have hwf : ∀ x ∈ d.toList.map (·.1), Wf x := fun x hx => by
    obtain ⟨y, _, rfl⟩ := List.mem_map.1 hx
    exact y.2
  have hal := allV_len E _ hwf
  rw [hlen] at hal
  have hm : n * k ≤ cap * k := Nat.mul_le_mul_right _ h1
  refine ⟨⟨⟨hal, .inr ⟨g, cap, putCells id 0 (flatK (encSub enc Wf) k d) cur, rfl, hb, ?_, h1, h2, by rw [← h3]; simp [putCells], ?_⟩⟩, hlen.symm, hwf⟩, ⟨rfl, rfl, rfl, ?_, fun b hbs hne => ?_⟩⟩
  · rw [heap_grow_old _ _ (by unfold putRowK; rw [size_putRow]; exact hg)]
    show ((w.heap).modify g (onCells _))[g]? = _
    rw [Array.getElem?_modify, if_pos rfl, hh]; rfl
  · apply List.ext_getElem?
    intro j
    rw [List.getElem?_take, Array.getElem?_toList]
    by_cases hj : j < n * k
    · rw [if_pos hj, flat_all E d (by rw [hd]; exact hj)]
      have hjc : j < cur.size := by omega
      unfold putCells
      rw [Array.getElem?_mapIdx, Array.getElem?_eq_getElem hjc, Option.map_some, if_pos ⟨Nat.zero_le _, by rw [size_flatK, hd]; omega⟩]
      rfl
    · rw [if_neg hj, List.getElem?_eq_none (by omega)]
  · rw [size_grow]
    unfold putRowK
    rw [size_putRow]
    exact Nat.le_add_right _ _
  · rw [heap_grow_old _ _ (by unfold putRowK; rw [size_putRow]; exact hbs)]
    show ((w.heap).modify g (onCells _))[b]? = _
    rw [Array.getElem?_modify, if_neg (fun e => hne e.symm)]
end
end Go.Mem
end
section
namespace Go.Proofs.YtbbojbdigiibbaaGreatDoor
open Go Go.RowKit Go.Mem Gf Lea Go.Lib Go.Shelf
def WfK (k : Key) : Prop := k.length = 16
theorem ecK : EncK bV WfK 16 := ⟨fun x h => by rw [bV_len]; exact h, bV_one, by decide⟩
def ltK (a b : Key) : Bool := decide (Go.Lib.compareBytes a b < 0)
instance : Inhabited {k : Key // WfK k} := ⟨⟨List.replicate 16 0, by unfold WfK; simp⟩⟩
attribute [local go_sem ↓] Go.wp_at_zero Go.wp_at_succ
end Go.Proofs.YtbbojbdigiibbaaGreatDoor
end
