/- The walk of matrix.made: a matrix by each place. -/
import Derived.Test.YtdciakbichgddaaMatMem
import Derived.Test.YtdciakbichgddaaKeep
import Derived.Deep.DeepCutAuto
import Derived.Deep.RegionHeld3
namespace Go.Proofs.Ytdciakbichgddaa
open Go Go.RowKit Go.Mem Gf

theorem info8' : (Try.prog.info? 5).map (fun i => (i.zero, i.size, i.bytes)) = some (some (.int .u8 0), 1, 1) := by kernel_rfl
theorem infoR : (Try.prog.info? 31).map (fun i => (i.zero, i.size, i.bytes)) = some (some (.slice none 0 0), 1, 24) := by kernel_rfl

set_option maxRecDepth 20000 in
set_option maxHeartbeats 2000000 in
theorem made_calls (n m : Nat) (hn : n ≤ 4096) (hm : m ≤ 4096) (f : FuncId) (caps : Array Value) (F : Mx) (w : World)
    (hcf : ∀ (args : Array Value) (w : World), (callFunc f args).run Try.prog w = .ok (.enter f args) w)
    (hat : ∀ (i k : Nat) (w' : World), i < n → k < m → Below w.heap.size w w' → Calls Try.prog f (#[.int .i64 i, .int .i64 k] ++ caps) w' fun e w'' => e = .returned (.int .u8 ((F i k).toNat : Int)) ∧ Below w'.heap.size w' w'') :
    Calls Try.prog 75 #[.int .i64 n, .int .i64 m, .func (.func f) #[] caps] w fun e w' => ∃ X ids, e = .returned (.slice (some ⟨X, 0, none⟩) n n) ∧ OwnM 5 31 w' w.heap.size X ids n m F ∧ Below w.heap.size w w' := by
  have Hat := Lib.hid hat; clear hat
  have hmo := fun (w : World) => make_rows (P := Try.prog) 43 31 Try.underlying43 infoR n (by omega) w
  have hmk := fun (w : World) => make_bytes (P := Try.prog) 31 5 Try.underlying31 info8' m (by omega) w
  go_enter Try.func75, Try.ntmps75
  go_wp2_with fail
  go_loopw [14] (fun v wr => ∃ (i : Nat) (ids : Nat → Nat), i ≤ n ∧ v = .int .i64 i ∧ OwnP 5 31 wr w.heap.size w.heap.size ids n i m F ∧ Below w.heap.size w wr)
    (fun v _ => n - (intOf v).toNat)
  case atStart => exact ⟨0, _, by omega, rfl, OwnP.start w n m _ _ F, (Below.refl _ _).alloc (Nat.le_refl _) _⟩
  case round =>
    obtain ⟨i, ids, hi, rfl, hP, hbel⟩ := hrel
    by_cases h0 : i < n
    · have c0 : wr.cell? ⟨w.heap.size, i, none⟩ = some (.slice none 0 0) := hP.nilAt i (Nat.le_refl _) h0
      have f0 : wr.frozen? ⟨w.heap.size, i, none⟩ = false := hP.freeX i
      have hlt := hP.lt.1
      go_wp2_with fail
      obtain ⟨wo, hwo⟩ : ∃ wo, wo = wr := ⟨_, rfl⟩
      rw [← hwo] at hP hbel hlt c0 f0 ⊢
      clear hwo
      have hP1 := hP.push' h0 (fun _ => 0)
      rw [← rowArr_zero] at hP1
      have hb1 : Below w.heap.size w ((wo.setCell ⟨w.heap.size, i, none⟩ (rowV m wo.heap.size)).alloc (.cells (Array.replicate m (.int .u8 0)) 5)) :=
        (hbel.setCell (Nat.le_refl _) _).alloc (by simp; omega) _
      unfold rowV at hP1 hb1
      have hR0 : w.heap.size ≤ wo.heap.size := by omega
      go_loopw [27] (fun v wi => ∃ k : Nat, k ≤ m ∧ v = .int .i64 k ∧ OwnP 5 31 wi w.heap.size w.heap.size (fun j => if j = i then wo.heap.size else ids j) n (i + 1) m (fun a b => if a = i then (if b < k then F i b else 0) else F a b) ∧ Below w.heap.size w wi)
        (fun v _ => m - (intOf v).toNat)
      case atStart => exact ⟨0, by omega, rfl, hP1.congr (fun a _ b _ => by by_cases e : a = i <;> simp [e]), hb1⟩
      case round =>
        clear hP1 hb1
        obtain ⟨k, hk, rfl, hPi, hbi⟩ := hrel
        have c1 := hPi.ptr i (by omega)
        simp only [if_true] at c1
        by_cases hkm : k < m
        · have hne : (⟨wo.heap.size, k, none⟩ : Addr) ≠ ⟨w.heap.size, i, none⟩ := fun e => by injection e with e1; omega
          have c2 := fun (w2 : World) (hb : Below wr.drew.heap.size wr.drew w2) => ((hPi.drewN 1).below hb)
          have C2 := Lib.hid c2; clear c2
          go_wp2_with fail
          go_region_held3 (fun w' => w'.cell? ⟨w.heap.size, i, none⟩ = some (.slice (some ⟨wo.heap.size, 0, none⟩) m m)) (first | exact c1 | assumption | (rw [World.cell?_setCell_other _ _ _ _ hne]; assumption))
            (first
              | (refine (Hat.out i k _ h0 hkm hbi.drew).mono ?_
                 rintro e w2 ⟨rfl, hb2⟩
                 have hP2 := C2.out w2 hb2
                 have c1 := hP2.ptr i (by omega)
                 simp only [if_true] at c1
                 have c3 := hP2.cell i k (by omega) hkm
                 simp only [if_true] at c3
                 have f3 := hP2.free i k (by omega)
                 simp only [if_true] at f3))
          go_wp2
          refine ⟨⟨k + 1, by omega, by go_num, ?_, ?_⟩, by simp [intOf]; omega⟩
          · have h3 := hP2.set (j := i) (k := k) (by omega) (F i k)
            simp only [if_true] at h3
            refine h3.congr fun a _ b _ => ?_
            by_cases e1 : a = i
            · subst e1
              by_cases e2 : b = k
              · subst e2; simp
              · have : (b < k + 1) = (b < k) := by simp; omega
                simp [e2, this]
            · simp [e1]
          · exact (hbi.drew.trans (hb2.mono (by show _ ≤ wr.heap.size; exact hbi.size))).setCell hR0 _
        · obtain rfl : k = m := by omega
          go_wp2
          refine ⟨⟨i + 1, _, by omega, by go_num, hPi.congr fun a ha b hb => ?_, hbi⟩, by simp [intOf]; omega⟩
          by_cases e1 : a = i
          · subst e1; simp [hb]
          · simp [e1]
    · obtain rfl : i = n := by omega
      go_wp2
      go_ret
      exact ⟨_, _, rfl, hP.done, hbel⟩
end Go.Proofs.Ytdciakbichgddaa
