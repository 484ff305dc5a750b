/- Texts of this proof, packed: StoreText. -/
import Derived.Test.YtbbojbdigiibbaaGreatDoorPk05
section
namespace Go.Proofs.YtbbojbdigiibbaaGreatDoor
open Go Go.RowKit Go.Mem Gf
attribute [local go_sem ↓] Go.wp_at_zero Go.wp_at_succ
theorem rws3 {w : World} {b : Nat} {t : TypeId} {v0 v1 v2 : Value} {r0 r1 r2 : List UInt8} (h : Blk w b #[v0, v1, v2] t) (h0 : Bys w v0 r0) (h1 : Bys w v1 r1) (h2 : Bys w v2 r2) : Rws w (.slice (some ⟨b, 0, none⟩) 3 3) [r0, r1, r2] := by
  refine ⟨_, 3, rfl, Nat.le_refl _, maxLen_ge (by decide), fun _ => ⟨b, 0, rfl, fun k r hk => ?_⟩⟩
  match k with
  | 0 => simp at hk; subst hk; exact ⟨v0, by rw [h.cell]; rfl, h0⟩
  | 1 => simp at hk; subst hk; exact ⟨v1, by rw [h.cell]; rfl, h1⟩
  | 2 => simp at hk; subst hk; exact ⟨v2, by rw [h.cell]; rfl, h2⟩
  | k + 3 => simp at hk
set_option maxRecDepth 20000 in
set_option maxHeartbeats 2000000 in
theorem bytes_calls (name : ByteArray) (num : Nat) (v : Value) (data : List UInt8) (w : World) (hT : Tab w) (hb : Bys w v data) (hn : name.size ≤ 1000000) (hnum : num ≤ 9223372036854775807) (hd : data.length ≤ 1000000) :
    Calls Tryz.prog 112 #[.string name, .int .i64 num, v] w fun e w' => ∃ v', e = .returned v' ∧ OwnX 5 w' w.heap.size v' (Sto.text name num data) ∧ Below w.heap.size w w' := by
  have hconv := Lib.run_convert_string_bytes (P := Tryz.prog) w 9 51 5 name Tryz.underlying9 Tryz.underlying51 Tryz.underlying5
  obtain ⟨ho, hb1⟩ := conv_ownX w 5 name (maxLen_ge (by omega))
  obtain ⟨w1, hw1⟩ : ∃ w1, w1 = Lib.bytesWorld w 5 name := ⟨_, rfl⟩
  rw [← hw1] at ho hb1 hconv
  have HO := Lib.hid ho; have HB1 := Lib.hid hb1; have HT := Lib.hid hT; have HB := Lib.hid hb
  have hs1 := hb1.size
  obtain ⟨da, dc, rfl⟩ := hb.eq_slice
  clear hw1 ho hb1 hT hb
  go_enter Tryz.func112, Tryz.ntmps112
  go_wp2_with fail
  refine (put_x num 4 hnum (by decide) (by decide) w1).mono ?_
  rintro e w2 ⟨pv, rfl, hp, hb2⟩
  have hb12 := HB1.out.trans (hb2.mono hs1)
  have hs2 := hb12.size
  obtain ⟨pa, pc, rfl⟩ := hp.eq_slice
  rw [Cod.be_len] at hp ⊢
  have HP := Lib.hid hp; have HB2 := Lib.hid hb2; have HB12 := Lib.hid hb12
  clear hp hb2 hb12 hconv
  go_wp2_with fail
  have hal := fun (o : Obj) => (Below.refl w2.heap.size w2).alloc (Nat.le_refl _) o
  refine (nets_calls _ [name.data.toList, Cod.be 4 num, data] _ ((HT.out.below HB12.out).below (hal _)) (rws3 (Blk.new _ _ _) (((HO.out.below HB2.out).bys).below (hal _)) ((HP.out.bys).below (hal _)) ((HB.out.below HB12.out).below (hal _))) ?_).mono ?_
  · simp only [Cod.nets, List.length_append, Cod.net_len, Cod.be_len, List.length_nil, Array.length_toList]
    have h1 : Lib.nDigits name.data.size ≤ 9 := by have := dec_len name.data.size (by show name.size ≤ _; omega); rw [Lib.itoa_nonneg, Lib.decDigits_length] at this; exact this
    have h2 : Lib.nDigits 4 ≤ 9 := by rw [Lib.nDigits_small (by decide)]; decide
    have h3 : Lib.nDigits data.length ≤ 9 := by have := dec_len data.length (by omega); rw [Lib.itoa_nonneg, Lib.decDigits_length] at this; exact this
    have h4 : name.data.size ≤ 1000000 := hn
    omega
  rintro e w3 ⟨v3, rfl, h3, hb3⟩
  go_wp2
  go_ret
  exact ⟨_, rfl, h3.mono (by simp; omega), (HB12.out.alloc hs2 _).trans (hb3.mono (by simp; omega))⟩
def fitsB (room : Nat) (name : ByteArray) (data : List UInt8) : Bool := decide (name.size ≤ 16384) && (decide (data.length ≤ 16384) && decide ((Sto.text name 0 data).length ≤ room * 32))
set_option maxRecDepth 20000 in
set_option maxHeartbeats 2000000 in
theorem fits_calls (N : Nat → Prop) (sb lb d L : Nat) (s : St) (name : ByteArray) (v : Value) (data : List UInt8) (w : World) (h : IsStore w N sb lb d L s) (hb : Bys w v data) (hn : name.size ≤ 9223372036854775807) :
    Calls Tryz.prog 111 #[.pointer (some ⟨sb, 0, none⟩), .string name, v] w fun e w' => e = .returned (.bool (fitsB s.room name data)) ∧ Below w.heap.size w w' := by
  obtain ⟨lc, hS, hlc1, hlc2⟩ := h.blk
  have c1 : w.cell? ⟨sb, 1, none⟩ = some (.int .i64 s.room) := hS.cell 1
  have hr2 := h.ok.room2
  have hdl := hb.len
  obtain ⟨da, dc, rfl⟩ := hb.eq_slice
  obtain ⟨dl, hdl'⟩ : ∃ dl, dl = data.length := ⟨_, rfl⟩
  rw [← hdl'] at hb hdl ⊢
  obtain ⟨nl, hnl⟩ : ∃ nl, nl = name.size := ⟨_, rfl⟩
  have Hdl := Lib.hid hdl'; have Hnl := Lib.hid hnl
  have HF := Lib.hid (show fitsB s.room name data = (decide (name.size ≤ 16384) && (decide (data.length ≤ 16384) && decide ((Sto.text name 0 data).length ≤ s.room * 32))) from rfl)
  have HS := Lib.hid hS; have HT := Lib.hid h.tab; have HB := Lib.hid hb
  obtain ⟨room, hroom⟩ : ∃ r, r = s.room := ⟨_, rfl⟩
  rw [← hroom] at hr2 c1 HF HS ⊢
  clear h hS hb hdl' hnl hroom
  by_cases h1 : name.size ≤ 16384
  · by_cases h2 : dl ≤ 16384
    · have HF2 := Lib.hid (show fitsB room name data = decide ((Sto.text name 0 data).length ≤ room * 32) from by rw [HF.out, decide_eq_true h1, decide_eq_true (by have := Hdl.out; omega)]; rfl)
      have q1 : IntKind.i64.wrap ((room : Int) * 32) = (room : Int) * 32 := IntWalk.i64_in _ (by omega)
      go_enter Tryz.func111, Tryz.ntmps111
      go_wp2_with fail
      go_region_held3 (fun w' => w'.cell? ⟨sb, 1, none⟩ = some (.int .i64 room)) (first | exact c1 | assumption)
        (first
          | (go_at_call 112
             refine (bytes_calls name 0 _ data w.drew (HT.out.drewN 1) (HB.out.drewN 1) (by omega) (by decide) (by have := Hdl.out; omega)).mono ?_
             rintro e w2 ⟨v2, rfl, ho2, hb2⟩
             have hb2 : Below w.heap.size w w2 := of_drew hb2
             have hh : w2.cell? ⟨sb, 1, none⟩ = some (.int .i64 room) := (HS.out.kept hb2).cell 1
             obtain ⟨a2, c2, rfl⟩ := ho2.eq_slice))
      have HE := Lib.hid (show decide (((Sto.text name 0 data).length : Int) ≤ (room : Int) * 32) = fitsB room name data from by rw [HF2.out, decide_eq_decide]; omega)
      go_wp2
      go_ret
      exact ⟨by rw [← HE.out]; rfl, hb2⟩
    · have HF2 := Lib.hid (show fitsB room name data = false from by rw [HF.out, decide_eq_false (p := data.length ≤ 16384) (by have := Hdl.out; omega)]; simp)
      go_enter Tryz.func111, Tryz.ntmps111
      go_wp2
      go_ret
      exact ⟨by rw [HF2.out]; rfl, Below.refl _ _⟩
  · have HF2 := Lib.hid (show fitsB room name data = false from by rw [HF.out, decide_eq_false h1]; rfl)
    go_enter Tryz.func111, Tryz.ntmps111
    go_wp2
    go_ret
    exact ⟨by rw [HF2.out]; rfl, Below.refl _ _⟩
end Go.Proofs.YtbbojbdigiibbaaGreatDoor
end
