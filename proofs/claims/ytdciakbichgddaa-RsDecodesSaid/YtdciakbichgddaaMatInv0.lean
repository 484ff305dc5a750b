/- Walks of package matrix: the inverse: what stands before the elimination. -/
import Derived.Test.YtdciakbichgddaaMatRow
namespace Go.Proofs.Ytdciakbichgddaa
open Go Go.RowKit Go.Mem Gf

set_option maxHeartbeats 1000000 in
theorem inv1_calls (i k n m ba : Nat) (va : Value) (A : Mx) (w : World) (hi : i < n) (hk : k < m)
    (hca : w.cell? ⟨ba, 0, none⟩ = some va) (ha : Rws w va (rowsL n m A)) :
    Calls Try.prog 76 #[.int .i64 i, .int .i64 k, .pointer (some ⟨ba, 0, none⟩)] w fun e w' => e = .returned (.int .u8 ((A i k).toNat : Int)) ∧ ∃ d, w' = w.drewN d := by
  obtain ⟨aa, capa, rfl⟩ := ha.mat
  obtain ⟨b, off, b', off', cap', rfl, c1, c2⟩ := ha.elem i k hi hk
  go_enter Try.func76, Try.ntmps76
  go_wp2
  go_ret
  exact ⟨rfl, 0, rfl⟩

theorem IsField.set_apart {w : World} {b : Nat} (h : IsField w b) {a : Addr} (ha : a.block ≠ b) (v : Value) : IsField (w.setCell a v) b := by
  obtain ⟨arr, h1, h2⟩ := h; exact ⟨arr, h1.set_other ha v, h2⟩
/-- the matrices x and y of an elimination: x in blocks from B1 to B2, y in blocks from B2 on -/
structure Two (w : World) (B1 B2 fb Xb Yb : Nat) (ix iy : Nat → Nat) (n : Nat) (FX FY : Mx) : Prop where
  x : OwnM 5 31 w B1 Xb ix n n FX
  y : OwnM 5 31 w B2 Yb iy n n FY
  high : Xb < B2 ∧ ∀ i, i < n → ix i < B2
  field : IsField w fb
  low : fb < B1
section
variable {w w' : World} {B1 B2 fb Xb Yb n : Nat} {ix iy : Nat → Nat} {FX FY : Mx}
theorem Two.sep (h : Two w B1 B2 fb Xb Yb ix iy n FX FY) : Xb ≠ Yb ∧ (∀ i, i < n → ix i ≠ Yb) ∧ (∀ i, i < n → iy i ≠ Xb) ∧ (∀ i j, i < n → j < n → ix i ≠ iy j) := by
  have h1 := h.high; have h2 := h.y.low
  refine ⟨by omega, fun i hi => ?_, fun i hi => ?_, fun i j hi hj => ?_⟩
  · have := h1.2 i hi; omega
  · have := h2.2 i hi; omega
  · have := h1.2 i hi; have := h2.2 j hj; omega
theorem Two.fbne (h : Two w B1 B2 fb Xb Yb ix iy n FX FY) : fb ≠ Xb ∧ fb ≠ Yb ∧ (∀ i, i < n → fb ≠ ix i) ∧ (∀ i, i < n → fb ≠ iy i) := by
  have h1 := h.x.low; have h2 := h.y.low; have h3 := h.low; have h4 := h.high
  refine ⟨by omega, by omega, fun i hi => ?_, fun i hi => ?_⟩
  · have := h1.2 i hi; omega
  · have := h2.2 i hi; omega
theorem Two.freeX (h : Two w B1 B2 fb Xb Yb ix iy n FX FY) (i : Nat) : w.frozen? ⟨Xb, i, none⟩ = false := by
  obtain ⟨arr, hb, _⟩ := h.x.outer; exact hb.free i
theorem Two.freeY (h : Two w B1 B2 fb Xb Yb ix iy n FX FY) (i : Nat) : w.frozen? ⟨Yb, i, none⟩ = false := by
  obtain ⟨arr, hb, _⟩ := h.y.outer; exact hb.free i
theorem Two.congr (h : Two w B1 B2 fb Xb Yb ix iy n FX FY) {GX GY : Mx} (hX : EqM n n FX GX) (hY : EqM n n FY GY) : Two w B1 B2 fb Xb Yb ix iy n GX GY :=
  ⟨h.x.congr hX, h.y.congr hY, h.high, h.field, h.low⟩
theorem Two.drewN (h : Two w B1 B2 fb Xb Yb ix iy n FX FY) (d : Nat) : Two (w.drewN d) B1 B2 fb Xb Yb ix iy n FX FY :=
  ⟨h.x.drewN d, h.y.drewN d, h.high, h.field, h.low⟩
theorem Two.below (h : Two w B1 B2 fb Xb Yb ix iy n FX FY) (hb : Below w.heap.size w w') : Two w' B1 B2 fb Xb Yb ix iy n FX FY :=
  ⟨h.x.below hb, h.y.below hb, h.high, h.field.below hb h.field.lt, h.low⟩
/-- the row r of both is written anew -/
theorem Two.rows (h : Two w B1 B2 fb Xb Yb ix iy n FX FY) {r : Nat} (hr : r < n) {f g : Nat → UInt8} (hc : Chg (fun b => b = ix r ∨ b = iy r) w w')
    (hf : Blk w' (ix r) (rowArr n f) 5) (hg : Blk w' (iy r) (rowArr n g) 5) :
    Two w' B1 B2 fb Xb Yb ix iy n (fun i k => if i = r then f k else FX i k) (fun i k => if i = r then g k else FY i k) := by
  obtain ⟨s1, s2, s3, s4⟩ := h.sep
  obtain ⟨t1, t2, t3, t4⟩ := h.fbne
  refine ⟨h.x.row hr (fun b hb hbx => ?_) hf, h.y.row hr (fun b hb hby => ?_) hg, h.high, ?_, h.low⟩
  · rcases hbx with rfl | ⟨i, hi, rfl⟩
    · exact hc.block _ h.x.lt.1 (by rintro (e | e); exact hb e; exact s3 r hr e.symm)
    · exact hc.block _ (h.x.lt.2 i hi) (by rintro (e | e); exact hb e; exact s4 i r hi hr e)
  · rcases hby with rfl | ⟨i, hi, rfl⟩
    · exact hc.block _ h.y.lt.1 (by rintro (e | e); exact s2 r hr e.symm; exact hb e)
    · exact hc.block _ (h.y.lt.2 i hi) (by rintro (e | e); exact s4 r i hr hi e.symm; exact hb e)
  · obtain ⟨arr, q1, q2⟩ := h.field
    exact ⟨arr, hc.blk q1 (by rintro (e | e); exact t3 r hr e; exact t4 r hr e), q2⟩
theorem OwnM.swapBelow {t8 tr : TypeId} {base X m : Nat} {ids : Nat → Nat} {F : Mx} (h : OwnM t8 tr w base X ids n m F) (a b : Addr) (ha : a.block ≠ X ∧ ∀ i, i < n → a.block ≠ ids i) (hb : b.block ≠ X ∧ ∀ i, i < n → b.block ≠ ids i) (u v : Value) :
    OwnM t8 tr ((w.setCell a u).setCell b v) base X ids n m F :=
  h.kept fun c hc => by
    have h1 : c ≠ a.block := by rcases hc with rfl | ⟨i, hi, rfl⟩; exact fun e => ha.1 e.symm; exact fun e => ha.2 i hi e.symm
    have h2 : c ≠ b.block := by rcases hc with rfl | ⟨i, hi, rfl⟩; exact fun e => hb.1 e.symm; exact fun e => hb.2 i hi e.symm
    rw [Below.heap_setCell _ _ _ _ h2, Below.heap_setCell _ _ _ _ h1]
theorem Two.swapX (h : Two w B1 B2 fb Xb Yb ix iy n FX FY) {c p : Nat} (hc : c < n) (hp : p < n) :
    Two ((w.setCell ⟨Xb, c, none⟩ (rowV n (ix p))).setCell ⟨Xb, p, none⟩ (rowV n (ix c))) B1 B2 fb Xb Yb (fun i => ix (sw c p i)) iy n (fun i => FX (sw c p i)) FY := by
  obtain ⟨s1, s2, s3, s4⟩ := h.sep
  obtain ⟨t1, t2, t3, t4⟩ := h.fbne
  exact ⟨h.x.swap hc hp, OwnM.swapBelow h.y _ _ ⟨s1, fun i hi => fun e => s3 i hi e.symm⟩ ⟨s1, fun i hi => fun e => s3 i hi e.symm⟩ _ _, ⟨h.high.1, fun i hi => h.high.2 _ (sw_lt hc hp hi)⟩,
    (IsField.set_apart (IsField.set_apart h.field (fun e => t1 e.symm) _) (fun e => t1 e.symm) _), h.low⟩
theorem Two.swapY (h : Two w B1 B2 fb Xb Yb ix iy n FX FY) {c p : Nat} (hc : c < n) (hp : p < n) :
    Two ((w.setCell ⟨Yb, c, none⟩ (rowV n (iy p))).setCell ⟨Yb, p, none⟩ (rowV n (iy c))) B1 B2 fb Xb Yb ix (fun i => iy (sw c p i)) n FX (fun i => FY (sw c p i)) := by
  obtain ⟨s1, s2, s3, s4⟩ := h.sep
  obtain ⟨t1, t2, t3, t4⟩ := h.fbne
  exact ⟨OwnM.swapBelow h.x _ _ ⟨fun e => s1 e.symm, fun i hi => fun e => s2 i hi e.symm⟩ ⟨fun e => s1 e.symm, fun i hi => fun e => s2 i hi e.symm⟩ _ _, h.y.swap hc hp, h.high,
    (IsField.set_apart (IsField.set_apart h.field (fun e => t2 e.symm) _) (fun e => t2 e.symm) _), h.low⟩
end

/-- scale at the rows c of both, called in a world that has made the slice of the two rows -/
theorem Two.scale_any {w : World} {B1 B2 fb Xb Yb n B0 : Nat} {ix iy : Nat → Nat} {FX FY : Mx} (h : Two w B1 B2 fb Xb Yb ix iy n FX FY) (hn : n ≤ 4096) {c : Nat} (hc : c < n) (d : UInt8) (dn : Nat) (hd : dn = d.toNat) (k : Nat) (h0 : B0 ≤ B1) (h12 : B1 ≤ B2) :
    Calls Try.prog 77 #[.func (.func 28) #[.pointer (some ⟨fb, 0, none⟩)] #[], .int .u8 (dn : Int), .slice (some ⟨w.heap.size, 0, none⟩) 2 2]
      ((w.drewN k).alloc (.cells #[.slice (some ⟨ix c, 0, none⟩) n n, .slice (some ⟨iy c, 0, none⟩) n n] 31)) fun e w' =>
      e = .returned (.tuple #[]) ∧ Two w' B1 B2 fb Xb Yb ix iy n (fun i k => if i = c then gm d (FX i k) else FX i k) (fun i k => if i = c then gm d (FY i k) else FY i k) ∧ Below B0 w w' := by
  subst hd
  have hb : Below w.heap.size w ((w.drewN k).alloc (.cells #[.slice (some ⟨ix c, 0, none⟩) n n, .slice (some ⟨iy c, 0, none⟩) n n] 31)) := (below_drewN (Below.refl _ _) k).alloc (Nat.le_refl _) _
  have h1 := h.below hb
  obtain ⟨s1, s2, s3, s4⟩ := h.sep
  obtain ⟨t1, t2, t3, t4⟩ := h.fbne
  have lx := h.x.lt.2 c hc
  have ly := h.y.lt.2 c hc
  have l1 := h.x.low.2 c hc
  have l2 := h.y.low.2 c hc
  have lX := h.x.lt.1
  have r1 : ((w.drewN k).alloc (.cells #[.slice (some ⟨ix c, 0, none⟩) n n, .slice (some ⟨iy c, 0, none⟩) n n] 31)).cell? ⟨w.heap.size, 0, none⟩ = some (rowV n (ix c)) :=
    ((Blk.new_at (w.drewN k) _ _ w.heap.size rfl).cell 0).trans rfl
  have r2 : ((w.drewN k).alloc (.cells #[.slice (some ⟨ix c, 0, none⟩) n n, .slice (some ⟨iy c, 0, none⟩) n n] 31)).cell? ⟨w.heap.size, 1, none⟩ = some (rowV n (iy c)) :=
    ((Blk.new_at (w.drewN k) _ _ w.heap.size rfl).cell 1).trans rfl
  refine (scale_calls fb w.heap.size (ix c) (iy c) n d (FX c) (FY c) _ hn h1.field (h1.x.rows c hc) (h1.y.rows c hc) (s4 c c hc hc) r1 r2 (by omega) (by omega) (t3 c hc) (t4 c hc)).mono ?_
  rintro e w' ⟨rfl, k1, k2, hch⟩
  refine ⟨rfl, ?_, ?_⟩
  · refine (h1.rows hc hch k1 k2).congr (fun i hi k hk => ?_) (fun i hi k hk => ?_)
    · by_cases e : i = c
      · subst e; simp [gm_comm]
      · simp [e]
    · by_cases e : i = c
      · subst e; simp [gm_comm]
      · simp [e]
  · have hs : w.heap.size ≤ ((w.drewN k).alloc (.cells #[.slice (some ⟨ix c, 0, none⟩) n n, .slice (some ⟨iy c, 0, none⟩) n n] 31)).heap.size := hb.size
    exact (hb.mono (by omega)).trans (hch.below (by omega) (by rintro b (rfl | rfl) <;> omega))
/-- the same, the draws behind -/
theorem Two.scale_any' {w : World} {B1 B2 fb Xb Yb n B0 : Nat} {ix iy : Nat → Nat} {FX FY : Mx} (h : Two w B1 B2 fb Xb Yb ix iy n FX FY) (hn : n ≤ 4096) {c : Nat} (hc : c < n) (d : UInt8) (dn : Nat) (hd : dn = d.toNat) (k : Nat) (h0 : B0 ≤ B1) (h12 : B1 ≤ B2) :
    Calls Try.prog 77 #[.func (.func 28) #[.pointer (some ⟨fb, 0, none⟩)] #[], .int .u8 (dn : Int), .slice (some ⟨w.heap.size, 0, none⟩) 2 2]
      ((w.alloc (.cells #[.slice (some ⟨ix c, 0, none⟩) n n, .slice (some ⟨iy c, 0, none⟩) n n] 31)).drewN k) fun e w' =>
      e = .returned (.tuple #[]) ∧ Two w' B1 B2 fb Xb Yb ix iy n (fun i k => if i = c then gm d (FX i k) else FX i k) (fun i k => if i = c then gm d (FY i k) else FY i k) ∧ Below B0 w w' :=
  h.scale_any hn hc d dn hd k h0 h12
theorem Two.fieldNew {w : World} {B1 B2 fb Xb Yb n : Nat} {ix iy : Nat → Nat} {FX FY : Mx} (h : Two w B1 B2 fb Xb Yb ix iy n FX FY) (o : Obj) : IsField (w.alloc o).drew fb :=
  (h.field.below ((Below.refl _ _).alloc (Nat.le_refl _) o) h.field.lt).drewN 1
/-- take at the rows r and c of both -/
theorem Two.take_any {w : World} {B1 B2 fb Xb Yb n B0 : Nat} {ix iy : Nat → Nat} {FX FY : Mx} (h : Two w B1 B2 fb Xb Yb ix iy n FX FY) (hn : n ≤ 4096) {r c : Nat} (hr : r < n) (hc : c < n) (hrc : r ≠ c) (d : UInt8) (h0 : B0 ≤ B1) (h12 : B1 ≤ B2) :
    Calls Try.prog 78 #[.func (.func 28) #[.pointer (some ⟨fb, 0, none⟩)] #[], .int .u8 (d.toNat : Int), .slice (some ⟨ix r, 0, none⟩) n n, .slice (some ⟨ix c, 0, none⟩) n n,
      .slice (some ⟨iy r, 0, none⟩) n n, .slice (some ⟨iy c, 0, none⟩) n n] w fun e w' =>
      e = .returned (.tuple #[]) ∧ Two w' B1 B2 fb Xb Yb ix iy n (fun i k => if i = r then FX i k ^^^ gm d (FX c k) else FX i k) (fun i k => if i = r then FY i k ^^^ gm d (FY c k) else FY i k) ∧ Below B0 w w' := by
  obtain ⟨s1, s2, s3, s4⟩ := h.sep
  obtain ⟨t1, t2, t3, t4⟩ := h.fbne
  have l1 := h.x.low.2 r hr
  have l2 := h.y.low.2 r hr
  have lX := h.x.lt.1
  have lx := h.x.lt.2 r hr
  refine (take_calls fb (ix r) (ix c) (iy r) (iy c) n d (FX r) (FX c) (FY r) (FY c) _ hn h.field (h.x.rows r hr) (h.x.rows c hc) (h.y.rows r hr) (h.y.rows c hc)
    (fun e => hrc (h.x.unlike r c hr hc e.symm)) (s4 c r hc hr) (fun e => s4 r c hr hc e.symm) (fun e => hrc (h.y.unlike r c hr hc e.symm)) (s4 r r hr hr) (t3 r hr) (t4 r hr)).mono ?_
  rintro e w' ⟨rfl, k1, k2, hch⟩
  refine ⟨rfl, ?_, ?_⟩
  · refine (h.rows hr hch k1 k2).congr (fun i hi k hk => ?_) (fun i hi k hk => ?_)
    · by_cases e : i = r
      · subst e; simp
      · simp [e]
    · by_cases e : i = r
      · subst e; simp
      · simp [e]
  · exact hch.below (by omega) (by rintro b (rfl | rfl) <;> omega)
end Go.Proofs.Ytdciakbichgddaa
