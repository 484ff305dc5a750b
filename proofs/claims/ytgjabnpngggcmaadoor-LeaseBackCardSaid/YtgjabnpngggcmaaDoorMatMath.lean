/- Plain facts on matrices over the field of 256: sums, products, what elimination keeps, inverses, the matrix of powers. No program in sight. -/
import Derived.Test.YtgjabnpngggcmaaDoorGfMath
namespace Gf

/-! ### sums -/
def gsum : Nat → (Nat → UInt8) → UInt8
  | 0, _ => 0
  | n + 1, f => gsum n f ^^^ f n
theorem gsum_congr {n : Nat} {f g : Nat → UInt8} (h : ∀ j, j < n → f j = g j) : gsum n f = gsum n g := by
  induction n with
  | zero => rfl
  | succ n ih => simp only [gsum]; rw [ih fun j hj => h j (by omega), h n (by omega)]
theorem gsum_zero (n : Nat) : gsum n (fun _ => 0) = 0 := by
  induction n with
  | zero => rfl
  | succ n ih => simp only [gsum, ih]; rfl
theorem gsum_of_zero {n : Nat} {f : Nat → UInt8} (h : ∀ j, j < n → f j = 0) : gsum n f = 0 := by
  rw [gsum_congr h, gsum_zero]
theorem xor4 (a b c d : UInt8) : (a ^^^ b) ^^^ (c ^^^ d) = (a ^^^ c) ^^^ (b ^^^ d) := by
  rw [UInt8.xor_assoc, UInt8.xor_assoc]; congr 1
  rw [← UInt8.xor_assoc, ← UInt8.xor_assoc, UInt8.xor_comm b c]
theorem gsum_xor (n : Nat) (f g : Nat → UInt8) : gsum n (fun j => f j ^^^ g j) = gsum n f ^^^ gsum n g := by
  induction n with
  | zero => simp [gsum]
  | succ n ih => simp only [gsum, ih]; rw [xor4]
theorem gm_gsum (n : Nat) (c : UInt8) (f : Nat → UInt8) : gm c (gsum n f) = gsum n (fun j => gm c (f j)) := by
  induction n with
  | zero => exact gm_zero c
  | succ n ih => simp only [gsum, gm_xor, ih]
theorem gsum_gm (n : Nat) (c : UInt8) (f : Nat → UInt8) : gm (gsum n f) c = gsum n (fun j => gm (f j) c) := by
  rw [gm_comm, gm_gsum]; exact gsum_congr fun j _ => gm_comm _ _
theorem gsum_swap (n m : Nat) (f : Nat → Nat → UInt8) : gsum n (fun i => gsum m (fun j => f i j)) = gsum m (fun j => gsum n (fun i => f i j)) := by
  induction n with
  | zero => simp only [gsum]; rw [gsum_zero]
  | succ n ih => simp only [gsum, ih]; rw [← gsum_xor]
theorem gsum_single {n : Nat} (c : Nat) (hc : c < n) {f : Nat → UInt8} (h : ∀ j, j < n → j ≠ c → f j = 0) : gsum n f = f c := by
  induction n with
  | zero => omega
  | succ n ih =>
    simp only [gsum]
    by_cases e : c = n
    · subst e
      rw [gsum_of_zero fun j hj => h j (by omega) (by omega), UInt8.zero_xor]
    · rw [ih (by omega) fun j hj hne => h j (by omega) hne, h n (by omega) (fun e' => e e'.symm), UInt8.xor_zero]
theorem gsum_pair {n : Nat} (c d : Nat) (hc : c < n) (hd : d < n) (hcd : c ≠ d) {f : Nat → UInt8} (h : ∀ j, j < n → j ≠ c → j ≠ d → f j = 0) : gsum n f = f c ^^^ f d := by
  have e : gsum n f = gsum n (fun j => (if j = c then f c else 0) ^^^ (if j = d then f d else 0)) := gsum_congr fun j hj => by
    by_cases h1 : j = c
    · subst h1; rw [if_pos rfl, if_neg hcd, UInt8.xor_zero]
    · by_cases h2 : j = d
      · subst h2; rw [if_neg h1, if_pos rfl, UInt8.zero_xor]
      · rw [if_neg h1, if_neg h2, h j hj h1 h2]; rfl
  rw [e, gsum_xor, gsum_single c hc (fun j _ hj => if_neg hj), gsum_single d hd (fun j _ hj => if_neg hj), if_pos rfl, if_pos rfl]

/-! ### products -/
abbrev Mx := Nat → Nat → UInt8
def dotf (n : Nat) (u v : Nat → UInt8) : UInt8 := gsum n fun j => gm (u j) (v j)
def MM (n : Nat) (A B : Mx) : Mx := fun i k => dotf n (A i) (fun j => B j k)
def MV (n : Nat) (A : Mx) (v : Nat → UInt8) : Nat → UInt8 := fun i => dotf n (A i) v
def Idm : Mx := fun i k => if i = k then 1 else 0
/-- the same within n rows of m -/
def EqM (n m : Nat) (A B : Mx) : Prop := ∀ i, i < n → ∀ k, k < m → A i k = B i k
theorem EqM.symm {n m : Nat} {A B : Mx} (h : EqM n m A B) : EqM n m B A := fun i hi k hk => (h i hi k hk).symm
theorem EqM.trans {n m : Nat} {A B C : Mx} (h : EqM n m A B) (h' : EqM n m B C) : EqM n m A C := fun i hi k hk => (h i hi k hk).trans (h' i hi k hk)
theorem EqM.refl (n m : Nat) (A : Mx) : EqM n m A A := fun _ _ _ _ => rfl
theorem dotf_congr {n : Nat} {u u' v v' : Nat → UInt8} (h : ∀ j, j < n → u j = u' j) (h' : ∀ j, j < n → v j = v' j) : dotf n u v = dotf n u' v' :=
  gsum_congr fun j hj => by rw [h j hj, h' j hj]
theorem dotf_xor_left (n : Nat) (u u' v : Nat → UInt8) : dotf n (fun j => u j ^^^ u' j) v = dotf n u v ^^^ dotf n u' v := by
  unfold dotf; rw [← gsum_xor]; exact gsum_congr fun j _ => xor_gm _ _ _
theorem dotf_xor_right (n : Nat) (u v v' : Nat → UInt8) : dotf n u (fun j => v j ^^^ v' j) = dotf n u v ^^^ dotf n u v' := by
  unfold dotf; rw [← gsum_xor]; exact gsum_congr fun j _ => gm_xor _ _ _
theorem dotf_scale_left (n : Nat) (c : UInt8) (u v : Nat → UInt8) : dotf n (fun j => gm c (u j)) v = gm c (dotf n u v) := by
  unfold dotf; rw [gm_gsum]; exact gsum_congr fun j _ => (gm_assoc _ _ _).symm
theorem dotf_zero_right (n : Nat) (u v : Nat → UInt8) (h : ∀ j, j < n → v j = 0) : dotf n u v = 0 :=
  gsum_of_zero fun j hj => by rw [h j hj, gm_zero]
/-- a row times a product is the product of the row -/
theorem dotf_MV (n m : Nat) (u : Nat → UInt8) (A : Mx) (v : Nat → UInt8) : dotf n u (fun j => dotf m (A j) v) = dotf m (fun k => dotf n u (fun j => A j k)) v := by
  unfold dotf
  have e1 : gsum n (fun j => gm (u j) (gsum m fun k => gm (A j k) (v k))) = gsum n (fun j => gsum m fun k => gm (gm (u j) (A j k)) (v k)) :=
    gsum_congr fun j _ => by rw [gm_gsum]; exact gsum_congr fun k _ => gm_assoc _ _ _
  have e2 : gsum m (fun k => gm (gsum n fun j => gm (u j) (A j k)) (v k)) = gsum m (fun k => gsum n fun j => gm (gm (u j) (A j k)) (v k)) :=
    gsum_congr fun k _ => gsum_gm _ _ _
  rw [e1, e2, gsum_swap]
theorem MM_assoc (n m : Nat) (A B C : Mx) (i k : Nat) : MM m (MM n A B) C i k = MM n A (MM m B C) i k := (dotf_MV n m (A i) B (fun j => C j k)).symm
theorem MV_MM (n m : Nat) (A B : Mx) (v : Nat → UInt8) (i : Nat) : MV m (MM n A B) v i = MV n A (MV m B v) i := (dotf_MV n m (A i) B v).symm
theorem dotf_Idm_left (n : Nat) (i : Nat) (hi : i < n) (v : Nat → UInt8) : dotf n (Idm i) v = v i := by
  unfold dotf
  rw [gsum_single i hi (fun j _ hj => by show gm (if i = j then 1 else 0) _ = 0; rw [if_neg (fun e => hj e.symm), zero_gm])]
  show gm (if i = i then 1 else 0) _ = _
  rw [if_pos rfl, one_gm]
theorem dotf_Idm_right (n : Nat) (k : Nat) (hk : k < n) (u : Nat → UInt8) : dotf n u (fun j => Idm j k) = u k := by
  unfold dotf
  rw [gsum_single k hk (fun j _ hj => by show gm _ (if j = k then 1 else 0) = 0; rw [if_neg hj, gm_zero])]
  show gm _ (if k = k then 1 else 0) = _
  rw [if_pos rfl, gm_one]
theorem MM_Idm_left {n m : Nat} (A : Mx) : EqM n m (MM n Idm A) A := fun i hi _ _ => dotf_Idm_left n i hi _
theorem MM_Idm_right {n m : Nat} (A : Mx) : EqM n m (MM m A Idm) A := fun _ _ k hk => dotf_Idm_right m k hk _
theorem MM_congr {n m p : Nat} {A A' B B' : Mx} (h : EqM n m A A') (h' : EqM m p B B') : EqM n p (MM m A B) (MM m A' B') :=
  fun i hi k hk => dotf_congr (h i hi) (fun j hj => h' j hj k hk)

/-! ### inverses -/
def IsInv (n : Nat) (A Y : Mx) : Prop := EqM n n (MM n Y A) Idm ∧ EqM n n (MM n A Y) Idm
/-- there is a row that is not nought and that the matrix makes nought -/
def Sing (n : Nat) (A : Mx) : Prop := ∃ v : Nat → UInt8, (∀ i, i < n → MV n A v i = 0) ∧ ∃ j, j < n ∧ v j ≠ 0
theorem IsInv.symm {n : Nat} {A Y : Mx} (h : IsInv n A Y) : IsInv n Y A := ⟨h.2, h.1⟩
theorem IsInv.unique {n : Nat} {A Y Y' : Mx} (h : IsInv n A Y) (h' : IsInv n A Y') : EqM n n Y Y' := by
  have e1 : EqM n n Y (MM n Y Idm) := (MM_Idm_right Y).symm
  have e2 : EqM n n (MM n Y Idm) (MM n Y (MM n A Y')) := MM_congr (EqM.refl _ _ _) h'.2.symm
  have e3 : EqM n n (MM n Y (MM n A Y')) (MM n (MM n Y A) Y') := fun i _ k _ => (MM_assoc n n Y A Y' i k).symm
  have e4 : EqM n n (MM n (MM n Y A) Y') (MM n Idm Y') := MM_congr h.1 (EqM.refl _ _ _)
  exact e1.trans (e2.trans (e3.trans (e4.trans (MM_Idm_left Y'))))
theorem IsInv.congr {n : Nat} {A A' Y Y' : Mx} (h : IsInv n A Y) (hA : EqM n n A A') (hY : EqM n n Y Y') : IsInv n A' Y' :=
  ⟨(MM_congr hY hA).symm.trans h.1, (MM_congr hA hY).symm.trans h.2⟩
theorem IsInv.inj {n : Nat} {A Y : Mx} (h : IsInv n A Y) {v : Nat → UInt8} (hv : ∀ i, i < n → MV n A v i = 0) : ∀ j, j < n → v j = 0 := by
  intro j hj
  have e1 : v j = dotf n (Idm j) v := (dotf_Idm_left n j hj v).symm
  have e2 : dotf n (Idm j) v = dotf n (MM n Y A j) v := dotf_congr (fun k hk => (h.1 j hj k hk).symm) (fun _ _ => rfl)
  have e3 : dotf n (MM n Y A j) v = MV n Y (MV n A v) j := MV_MM n n Y A v j
  rw [e1, e2, e3]
  exact dotf_zero_right n _ _ hv
theorem IsInv.not_sing {n : Nat} {A Y : Mx} (h : IsInv n A Y) : ¬ Sing n A := fun ⟨_, hv, j, hj, hne⟩ => hne (h.inj hv j hj)
theorem Sing.congr {n : Nat} {A A' : Mx} (h : Sing n A) (hA : EqM n n A A') : Sing n A' := by
  obtain ⟨v, hv, hj⟩ := h
  exact ⟨v, fun i hi => by rw [← hv i hi]; exact dotf_congr (fun k hk => (hA i hi k hk).symm) (fun _ _ => rfl), hj⟩
theorem IsInv.mul {n : Nat} {A B Y Z : Mx} (h : IsInv n A Y) (h' : IsInv n B Z) : IsInv n (MM n A B) (MM n Z Y) := by
  constructor
  · intro i hi k hk
    have e1 : MM n (MM n Z Y) (MM n A B) i k = MM n Z (MM n Y (MM n A B)) i k := MM_assoc n n Z Y _ i k
    have e2 : EqM n n (MM n Y (MM n A B)) B := fun i hi k hk => by
      rw [← MM_assoc n n Y A B i k, MM_congr h.1 (EqM.refl n n B) i hi k hk, MM_Idm_left (m := n) B i hi k hk]
    rw [e1, MM_congr (EqM.refl n n Z) e2 i hi k hk]; exact h'.1 i hi k hk
  · intro i hi k hk
    have e1 : MM n (MM n A B) (MM n Z Y) i k = MM n A (MM n B (MM n Z Y)) i k := MM_assoc n n A B _ i k
    have e2 : EqM n n (MM n B (MM n Z Y)) Y := fun i hi k hk => by
      rw [← MM_assoc n n B Z Y i k, MM_congr h'.2 (EqM.refl n n Y) i hi k hk, MM_Idm_left (m := n) Y i hi k hk]
    rw [e1, MM_congr (EqM.refl n n A) e2 i hi k hk]; exact h.2 i hi k hk

/-! ### elimination -/
/-- what elimination keeps: behind c columns, X is Y times A, Y makes nothing nought but nought, and the first c columns of X are those of Idm -/
structure Elim (n : Nat) (A X Y : Mx) (c : Nat) : Prop where
  left : EqM n n (MM n Y A) X
  inj : ∀ v : Nat → UInt8, (∀ i, i < n → MV n Y v i = 0) → ∀ j, j < n → v j = 0
  cols : EqM n c X Idm
theorem Elim.start (n : Nat) (A : Mx) : Elim n A A Idm 0 :=
  ⟨MM_Idm_left A, fun v hv j hj => by have := hv j hj; rwa [MV, dotf_Idm_left n j hj] at this, fun _ _ k hk => by omega⟩
theorem Elim.congr {n : Nat} {A X Y X' Y' : Mx} {c : Nat} (h : Elim n A X Y c) (hX : EqM n n X X') (hY : EqM n n Y Y') (hc : c ≤ n) : Elim n A X' Y' c :=
  ⟨(MM_congr hY (EqM.refl n n A)).symm.trans (h.left.trans hX),
   fun v hv => h.inj v fun i hi => by rw [← hv i hi]; exact dotf_congr (hY i hi) (fun _ _ => rfl),
   fun i hi k hk => (hX i hi k (by omega)).symm.trans (h.cols i hi k hk)⟩
theorem Elim.done {n : Nat} {A X Y : Mx} (h : Elim n A X Y n) : IsInv n A Y := by
  have h1 : EqM n n (MM n Y A) Idm := h.left.trans h.cols
  refine ⟨h1, fun i hi k hk => ?_⟩
  -- the column k of A Y, less that of Idm, is made nought by Y
  have key : ∀ j, j < n → (MM n A Y j k ^^^ Idm j k) = 0 := by
    refine h.inj (fun j => MM n A Y j k ^^^ Idm j k) fun j hj => ?_
    show dotf n (Y j) (fun j => MM n A Y j k ^^^ Idm j k) = 0
    rw [dotf_xor_right]
    have e1 : dotf n (Y j) (fun i => MM n A Y i k) = MM n (MM n Y A) Y j k := (MM_assoc n n Y A Y j k).symm
    have e2 : dotf n (Y j) (fun i => Idm i k) = Y j k := dotf_Idm_right n k hk (Y j)
    rw [e1, e2, MM_congr h1 (EqM.refl n n Y) j hj k hk, MM_Idm_left (m := n) Y j hj k hk, UInt8.xor_self]
  have := key i hi
  exact UInt8.xor_eq_zero_iff.1 this
theorem Elim.stuck {n : Nat} {A X Y : Mx} {c : Nat} (h : Elim n A X Y c) (hc : c < n) (hz : ∀ p, c ≤ p → p < n → X p c = 0) : Sing n A := by
  refine ⟨fun j => if j < c then X j c else if j = c then 1 else 0, ?_, c, hc, by simp⟩
  refine h.inj _ fun i hi => ?_
  show dotf n (Y i) (fun j => dotf n (A j) _) = 0
  rw [dotf_MV]
  have e : dotf n (fun k => dotf n (Y i) (fun j => A j k)) (fun j => if j < c then X j c else if j = c then 1 else 0) = dotf n (X i) (fun j => if j < c then X j c else if j = c then 1 else 0) :=
    dotf_congr (fun k hk => h.left i hi k hk) (fun _ _ => rfl)
  rw [e]
  unfold dotf
  by_cases hic : i < c
  · rw [gsum_pair i c hi hc (by omega) (fun j hj h1 h2 => ?_)]
    · dsimp only
      rw [if_pos hic, if_neg (by omega), if_pos rfl, h.cols i hi i hic, Idm, if_pos rfl, one_gm, gm_one, UInt8.xor_self]
    · dsimp only
      by_cases hjc : j < c
      · rw [h.cols i hi j hjc, Idm, if_neg (fun e => h1 e.symm), zero_gm]
      · rw [if_neg hjc, if_neg h2, gm_zero]
  · rw [gsum_single c hc (fun j hj h1 => ?_)]
    · dsimp only
      rw [if_neg (by omega), if_pos rfl, hz i (by omega) hi, zero_gm]
    · dsimp only
      by_cases hjc : j < c
      · rw [h.cols i hi j hjc, Idm, if_neg (by omega), zero_gm]
      · rw [if_neg hjc, if_neg h1, gm_zero]
/-- rows c and p changed places -/
def sw (c p i : Nat) : Nat := if i = c then p else if i = p then c else i
theorem sw_lt {n c p i : Nat} (hc : c < n) (hp : p < n) (hi : i < n) : sw c p i < n := by unfold sw; split; exact hp; split; exact hc; exact hi
theorem sw_sw (c p i : Nat) : sw c p (sw c p i) = i := by
  unfold sw
  by_cases h1 : i = c
  · subst h1; by_cases h2 : p = i <;> simp [h2]
  · by_cases h2 : i = p
    · subst h2; simp [h1]
    · simp [h1, h2]
theorem Elim.swap {n : Nat} {A X Y : Mx} {c p : Nat} (h : Elim n A X Y c) (hc : c < n) (hcp : c ≤ p) (hp : p < n) : Elim n A (fun i => X (sw c p i)) (fun i => Y (sw c p i)) c := by
  refine ⟨fun i hi k hk => h.left _ (sw_lt hc hp hi) k hk, fun v hv => h.inj v fun i hi => ?_, fun i hi k hk => ?_⟩
  · have := hv (sw c p i) (sw_lt hc hp hi)
    simp only [MV, sw_sw] at this
    exact this
  · show X (sw c p i) k = Idm i k
    rw [h.cols _ (sw_lt hc hp hi) k hk]
    unfold Idm sw
    split
    · rw [if_neg (by omega), if_neg (by omega)]
    · split
      · rw [if_neg (by omega), if_neg (by omega)]
      · rfl
/-- row c times a byte that is not 0 -/
theorem Elim.scale {n : Nat} {A X Y : Mx} {c : Nat} (h : Elim n A X Y c) {d : UInt8} (hd : d ≠ 0) :
    Elim n A (fun i k => if i = c then gm d (X i k) else X i k) (fun i k => if i = c then gm d (Y i k) else Y i k) c := by
  refine ⟨fun i hi k hk => ?_, fun v hv => h.inj v fun i hi => ?_, fun i hi k hk => ?_⟩
  · show dotf n (fun j => if i = c then gm d (Y i j) else Y i j) _ = if i = c then gm d (X i k) else X i k
    by_cases e : i = c
    · simp only [if_pos e]; rw [dotf_scale_left, ← h.left i hi k hk]; rfl
    · simp only [if_neg e]; exact h.left i hi k hk
  · have := hv i hi
    simp only [MV] at this ⊢
    by_cases e : i = c
    · simp only [if_pos e] at this
      rw [dotf_scale_left] at this
      rcases gm_eq_zero this with h' | h'
      · exact absurd h' hd
      · exact h'
    · simp only [if_neg e] at this; exact this
  · show (if i = c then gm d (X i k) else X i k) = _
    rw [h.cols i hi k hk]
    split
    · rw [Idm, if_neg (by omega), gm_zero]
    · rfl
/-- to row r the row c, times a byte -/
theorem Elim.take {n : Nat} {A X Y : Mx} {c r : Nat} (h : Elim n A X Y c) (f : UInt8) (hr : r ≠ c) (hc : c < n) :
    Elim n A (fun i k => if i = r then X i k ^^^ gm f (X c k) else X i k) (fun i k => if i = r then Y i k ^^^ gm f (Y c k) else Y i k) c := by
  have hdot : ∀ v i, dotf n (fun k => if i = r then Y i k ^^^ gm f (Y c k) else Y i k) v = if i = r then dotf n (Y i) v ^^^ gm f (dotf n (Y c) v) else dotf n (Y i) v := by
    intro v i
    by_cases e : i = r
    · simp only [if_pos e]; rw [dotf_xor_left, dotf_scale_left]
    · simp only [if_neg e]
  refine ⟨fun i hi k hk => ?_, fun v hv => h.inj v fun i hi => ?_, fun i hi k hk => ?_⟩
  · show dotf n _ _ = _
    rw [hdot]
    have e1 := h.left i hi k hk
    have e2 := h.left c hc k hk
    simp only [MM] at e1 e2
    rw [e1, e2]
  · have h1 := hv i hi
    have h2 := hv c hc
    simp only [MV] at h1 h2 ⊢
    rw [hdot] at h1 h2
    rw [if_neg (fun e => hr e.symm)] at h2
    rw [h2, gm_zero, UInt8.xor_zero] at h1
    split at h1 <;> exact h1
  · show (if i = r then X i k ^^^ gm f (X c k) else X i k) = _
    split
    · rw [h.cols i hi k hk, h.cols c hc k hk, Idm, Idm, if_neg (show c ≠ k by omega), gm_zero, UInt8.xor_zero]
    · exact h.cols i hi k hk
/-- one column more: behind all its rows -/
theorem Elim.next {n : Nat} {A X Y : Mx} {c : Nat} (h : Elim n A X Y c) (hcol : ∀ i, i < n → X i c = Idm i c) : Elim n A X Y (c + 1) :=
  ⟨h.left, h.inj, fun i hi k hk => by
    by_cases e : k = c
    · subst e; exact hcol i hi
    · exact h.cols i hi k (by omega)⟩

/-! ### powers -/
/-- Σ v j x^j -/
def peval (n : Nat) (v : Nat → UInt8) (x : UInt8) : UInt8 := gsum n fun j => gm (gpow x j) (v j)
/-- the quotient by (x + r): from above -/
def quo (n : Nat) (v : Nat → UInt8) (r : UInt8) : Nat → UInt8
  | j => gsum (n - (j + 1)) fun t => gm (gpow r t) (v (j + 1 + t))
theorem gsum_shift (n : Nat) (f : Nat → UInt8) : gsum (n + 1) f = f 0 ^^^ gsum n (fun j => f (j + 1)) := by
  induction n with
  | zero => simp [gsum]
  | succ n ih =>
    have : gsum (n + 1 + 1) f = gsum (n + 1) f ^^^ f (n + 1) := rfl
    rw [this, ih, UInt8.xor_assoc]; rfl
theorem quo_last (n : Nat) (v : Nat → UInt8) (r : UInt8) (j : Nat) (h : n ≤ j + 1) : quo n v r j = 0 := by
  rw [quo, show n - (j + 1) = 0 from by omega]; rfl
theorem quo_step (n : Nat) (v : Nat → UInt8) (r : UInt8) (j : Nat) (h : j + 1 < n) : quo n v r j = v (j + 1) ^^^ gm r (quo n v r (j + 1)) := by
  rw [quo, quo, show n - (j + 1) = (n - (j + 1 + 1)) + 1 from by omega, gsum_shift, gm_gsum]
  congr 1
  · show gm (gpow r 0) (v (j + 1 + 0)) = _
    rw [gpow, one_gm]
  · refine gsum_congr fun t _ => ?_
    rw [gm_assoc, show gpow r (t + 1) = gm r (gpow r t) from by rw [gpow, gm_comm], show j + 1 + (t + 1) = j + 1 + 1 + t from by omega]
/-- a root takes a degree away -/
theorem peval_root (n : Nat) (v : Nat → UInt8) (r x : UInt8) (hn : 0 < n) : peval n v x = gm (x ^^^ r) (peval (n - 1) (quo n v r) x) ^^^ (v 0 ^^^ gm r (quo n v r 0)) := by
  obtain ⟨m, rfl⟩ : ∃ m, n = m + 1 := ⟨n - 1, by omega⟩
  show peval (m + 1) v x = gm (x ^^^ r) (peval m _ x) ^^^ _
  generalize hq : quo (m + 1) v r = q
  have hlast : q m = 0 := by rw [← hq]; exact quo_last _ _ _ _ (by omega)
  have hstep : ∀ j, j < m → q j = v (j + 1) ^^^ gm r (q (j + 1)) := fun j hj => by rw [← hq]; exact quo_step _ _ _ _ (by omega)
  have hv : ∀ j, j < m → v (j + 1) = q j ^^^ gm r (q (j + 1)) := fun j hj => by
    rw [hstep j hj, UInt8.xor_assoc, UInt8.xor_self, UInt8.xor_zero]
  -- the sum of the q's, times x and times r
  have e1 : peval (m + 1) v x = v 0 ^^^ gsum m (fun j => gm (gpow x (j + 1)) (q j)) ^^^ gsum m (fun j => gm (gpow x (j + 1)) (gm r (q (j + 1)))) := by
    rw [peval, gsum_shift, UInt8.xor_assoc, ← gsum_xor]
    congr 1
    · rw [gpow, one_gm]
    · exact gsum_congr fun j hj => by rw [hv j hj, gm_xor]
  have e2 : gsum m (fun j => gm (gpow x (j + 1)) (q j)) = gm x (peval m q x) := by
    rw [peval, gm_gsum]; exact gsum_congr fun j _ => by rw [gpow, gm_comm (gpow x j) x, gm_assoc]
  have e3 : gm r (q 0) ^^^ gsum m (fun j => gm (gpow x (j + 1)) (gm r (q (j + 1)))) = gm r (peval m q x) := by
    have a1 : gm r (q 0) ^^^ gsum m (fun j => gm (gpow x (j + 1)) (gm r (q (j + 1)))) = gsum (m + 1) (fun j => gm (gpow x j) (gm r (q j))) := by
      rw [gsum_shift]; congr 1; rw [gpow, one_gm]
    rw [a1]
    show gsum m _ ^^^ gm (gpow x m) (gm r (q m)) = _
    rw [hlast, gm_zero, gm_zero, UInt8.xor_zero, peval, gm_gsum]
    exact gsum_congr fun j _ => by rw [gm_assoc, gm_comm (gpow x j) r, ← gm_assoc]
  have e4 : gsum m (fun j => gm (gpow x (j + 1)) (gm r (q (j + 1)))) = gm r (q 0) ^^^ gm r (peval m q x) := by
    rw [← e3, ← UInt8.xor_assoc, UInt8.xor_self, UInt8.zero_xor]
  rw [e1, e2, e4, xor_gm]
  generalize gm x (peval m q x) = a
  generalize gm r (peval m q x) = b
  generalize gm r (q 0) = c
  generalize v 0 = d
  rw [UInt8.xor_assoc, UInt8.xor_comm d, UInt8.xor_assoc a, UInt8.xor_assoc a, UInt8.xor_comm c b, UInt8.xor_assoc b, UInt8.xor_comm c d]
theorem roots (n : Nat) : ∀ (v : Nat → UInt8) (x : Nat → UInt8), (∀ i j, i < n → j < n → x i = x j → i = j) → (∀ i, i < n → peval n v (x i) = 0) → ∀ j, j < n → v j = 0 := by
  induction n with
  | zero => intro v x _ _ j hj; omega
  | succ n ih =>
    intro v x hx h0 j hj
    have hr := h0 n (by omega)
    rw [peval_root (n + 1) v (x n) (x n) (by omega), UInt8.xor_self, zero_gm, UInt8.zero_xor] at hr
    have hq : ∀ j, j < n → quo (n + 1) v (x n) j = 0 := by
      refine ih (quo (n + 1) v (x n)) x (fun i j hi hj e => hx i j (by omega) (by omega) e) (fun i hi => ?_)
      have h1 := h0 i (by omega)
      rw [peval_root (n + 1) v (x n) (x i) (by omega), hr, UInt8.xor_zero] at h1
      rcases gm_eq_zero h1 with h2 | h2
      · have := hx i n (by omega) (by omega) (UInt8.xor_eq_zero_iff.1 h2)
        omega
      · exact h2
    have hqn : ∀ j, quo (n + 1) v (x n) j = 0 := fun j => by
      by_cases h : j < n
      · exact hq j h
      · exact quo_last _ _ _ _ (by omega)
    cases j with
    | zero => rw [hqn 0, gm_zero, UInt8.xor_zero] at hr; exact hr
    | succ j =>
      have := quo_step (n + 1) v (x n) j (by omega)
      rw [hqn, hqn, gm_zero, UInt8.xor_zero] at this
      exact this.symm
/-- the matrix of powers of unlike bytes makes nothing nought -/
theorem vand_not_sing (n : Nat) (x : Nat → UInt8) (hx : ∀ i j, i < n → j < n → x i = x j → i = j) : ¬ Sing n (fun i j => gpow (x i) j) := by
  rintro ⟨v, hv, j, hj, hne⟩
  exact hne (roots n v x hx (fun i hi => hv i hi) j hj)
end Gf
