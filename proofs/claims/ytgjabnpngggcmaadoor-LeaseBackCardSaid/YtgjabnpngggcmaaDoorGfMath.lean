/- Plain facts on the field of 256: the product digit by digit, that it asks for no order and no brackets, goes over sums; powers of 2 and their logarithms; inverses; powers. No program in sight. -/
namespace Gf
def tw (a : Nat) : Nat := (a * 2) ^^^ (a / 128 * 285)
def mulLoop : Nat → Nat → Nat → Nat → Nat
 | 0, _, _, out => out
 | n+1, a, b, out => mulLoop n (tw a) (b/2) (out ^^^ (b % 2 * a))
def mul (a b : Nat) : Nat := mulLoop 8 a b 0
theorem all256 {p : Nat → Bool} (h : (List.range 256).all p = true) (a : Nat) (ha : a < 256) : p a = true := List.all_eq_true.1 h a (List.mem_range.2 ha)
theorem tw_lt (a : Nat) (h : a < 256) : tw a < 256 := by
  have := all256 (p := fun a => decide (tw a < 256)) (by decide +kernel) a h
  simpa using this
theorem xor_lt (a b : Nat) (h : a < 256) (h' : b < 256) : a ^^^ b < 256 := Nat.xor_lt_two_pow (n := 8) h h'
theorem tw_xor (a b : Nat) (ha : a < 256) (hb : b < 256) : tw (a ^^^ b) = tw a ^^^ tw b := by
  have := all256 (p := fun a => (List.range 256).all fun b => tw (a ^^^ b) == tw a ^^^ tw b) (by decide +kernel) a ha
  simpa using all256 this b hb
theorem bit_lt (b a : Nat) (h : a < 256) : b % 2 * a < 256 := by
  rcases Nat.mod_two_eq_zero_or_one b with h' | h' <;> rw [h'] <;> omega
theorem mulLoop_lt (n : Nat) : ∀ a b o, a < 256 → o < 256 → mulLoop n a b o < 256 := by
  induction n with
  | zero => intro a b o _ h; exact h
  | succ n ih => intro a b o ha ho; exact ih _ _ _ (tw_lt a ha) (xor_lt _ _ ho (bit_lt _ _ ha))
theorem mulLoop_out (n : Nat) : ∀ a b o p, mulLoop n a b (o ^^^ p) = mulLoop n a b o ^^^ p := by
  induction n with
  | zero => intro a b o p; rfl
  | succ n ih => intro a b o p; simp only [mulLoop]; rw [← ih]; congr 1; rw [Nat.xor_assoc, Nat.xor_comm p, ← Nat.xor_assoc]
theorem xor_half (b c : Nat) : (b ^^^ c) / 2 = b / 2 ^^^ c / 2 := by
  have := Nat.shiftRight_xor_distrib (a := b) (b := c) (i := 1)
  simpa [Nat.shiftRight_succ] using this
theorem xor_bit (b c a : Nat) : (b ^^^ c) % 2 * a = (b % 2 * a) ^^^ (c % 2 * a) := by
  have h : (b ^^^ c) % 2 = (b % 2) ^^^ (c % 2) := by
    have := Nat.xor_mod_two_pow (a := b) (b := c) (n := 1); simpa using this
  rw [h]
  rcases Nat.mod_two_eq_zero_or_one b with h' | h' <;> rcases Nat.mod_two_eq_zero_or_one c with h'' | h'' <;> rw [h', h''] <;> simp
theorem mulLoop_right (n : Nat) : ∀ a b c o p, mulLoop n a (b ^^^ c) (o ^^^ p) = mulLoop n a b o ^^^ mulLoop n a c p := by
  induction n with
  | zero => intros; rfl
  | succ n ih =>
    intro a b c o p
    simp only [mulLoop]
    rw [← ih, xor_half, xor_bit]
    congr 1
    rw [Nat.xor_assoc, Nat.xor_assoc]; congr 1
    rw [← Nat.xor_assoc, ← Nat.xor_assoc, Nat.xor_comm p]
theorem bit_xor (b a c : Nat) : b % 2 * (a ^^^ c) = (b % 2 * a) ^^^ (b % 2 * c) := by
  rcases Nat.mod_two_eq_zero_or_one b with h' | h' <;> rw [h'] <;> simp
theorem mulLoop_left (n : Nat) : ∀ a c b o p, a < 256 → c < 256 → mulLoop n (a ^^^ c) b (o ^^^ p) = mulLoop n a b o ^^^ mulLoop n c b p := by
  induction n with
  | zero => intros; rfl
  | succ n ih =>
    intro a c b o p ha hc
    simp only [mulLoop]
    rw [← ih _ _ _ _ _ (tw_lt a ha) (tw_lt c hc), tw_xor a c ha hc, bit_xor]
    congr 1
    rw [Nat.xor_assoc, Nat.xor_assoc]; congr 1
    rw [← Nat.xor_assoc, ← Nat.xor_assoc, Nat.xor_comm p]
theorem mul_lt (a b : Nat) (ha : a < 256) : mul a b < 256 := mulLoop_lt 8 a b 0 ha (by decide)
theorem mul_xor (a b c : Nat) : mul a (b ^^^ c) = mul a b ^^^ mul a c := by
  have := mulLoop_right 8 a b c 0 0; simpa [mul] using this
theorem xor_mul (a c b : Nat) (ha : a < 256) (hc : c < 256) : mul (a ^^^ c) b = mul a b ^^^ mul c b := by
  have := mulLoop_left 8 a c b 0 0 ha hc; simpa [mul] using this
/-- linear functions that agree on the powers of two agree -/
theorem lin (f g : Nat → Nat) (hf : ∀ a b, a < 256 → b < 256 → f (a ^^^ b) = f a ^^^ f b) (hg : ∀ a b, a < 256 → b < 256 → g (a ^^^ b) = g a ^^^ g b)
    (h : (List.range 8).all (fun i => f (2 ^ i) == g (2 ^ i)) = true) : ∀ a, a < 256 → f a = g a := by
  have key : ∀ k, k ≤ 8 → ∀ x, x < 2 ^ k → f x = g x := by
    intro k
    induction k with
    | zero =>
      intro _ x hx
      have hx : x = 0 := by simpa using hx
      subst hx
      have h1 := hf 0 0 (by decide) (by decide); have h2 := hg 0 0 (by decide) (by decide)
      simp only [Nat.xor_self] at h1 h2
      rw [h1, h2]
    | succ k ih =>
      intro hk x hx
      by_cases hlt : x < 2 ^ k
      · exact ih (by omega) x hlt
      · have hp : 2 ^ k < 256 := Nat.lt_of_lt_of_le (Nat.pow_lt_pow_right (by decide) (show k < 8 by omega)) (by decide)
        have hy : x - 2 ^ k < 2 ^ k := by rw [Nat.pow_succ] at hx; omega
        have e : x = 2 ^ k ^^^ (x - 2 ^ k) := by
          have e1 : x = 2 ^ k + (x - 2 ^ k) := by omega
          have e2 := Nat.two_pow_add_eq_or_of_lt hy 1
          have e3 : 2 ^ k ^^^ (x - 2 ^ k) = 2 ^ k ||| (x - 2 ^ k) := by
            apply Nat.eq_of_testBit_eq
            intro i
            simp only [Nat.testBit_xor, Nat.testBit_or, Nat.testBit_two_pow]
            by_cases hi : k = i
            · subst hi
              simp [Nat.testBit_lt_two_pow hy]
            · simp [hi]
          rw [e3]; simp only [Nat.mul_one] at e2; omega
        rw [e, hf _ _ hp (by omega), hg _ _ hp (by omega), ih (by omega) _ hy]
        have := List.all_eq_true.1 h k (List.mem_range.2 (by omega))
        rw [beq_iff_eq.1 this]
  exact fun a ha => key 8 (Nat.le_refl _) a ha
theorem mul_tw (a b : Nat) (ha : a < 256) (hb : b < 256) : mul a (tw b) = tw (mul a b) := by
  have h1 : ∀ b, b < 256 → ∀ i, i < 8 → mul (2 ^ i) (tw b) = tw (mul (2 ^ i) b) := by
    intro b hb i hi
    have := all256 (p := fun b => (List.range 8).all fun i => mul (2 ^ i) (tw b) == tw (mul (2 ^ i) b)) (by decide +kernel) b hb
    simpa using List.all_eq_true.1 this i (List.mem_range.2 hi)
  refine lin (fun a => mul a (tw b)) (fun a => tw (mul a b)) (fun a c ha hc => xor_mul _ _ _ ha hc)
    (fun a c ha hc => by
      show tw (mul (a ^^^ c) b) = _
      rw [xor_mul _ _ _ ha hc, tw_xor _ _ (mul_lt _ _ ha) (mul_lt _ _ hc)]) ?_ a ha
  exact List.all_eq_true.2 fun i hi => beq_iff_eq.2 (h1 b hb i (List.mem_range.1 hi))
theorem mul_comm (a b : Nat) (ha : a < 256) (hb : b < 256) : mul a b = mul b a := by
  have h1 : ∀ b, b < 256 → ∀ i, i < 8 → mul (2 ^ i) b = mul b (2 ^ i) := by
    intro b hb i hi
    have := all256 (p := fun b => (List.range 8).all fun i => mul (2 ^ i) b == mul b (2 ^ i)) (by decide +kernel) b hb
    simpa using List.all_eq_true.1 this i (List.mem_range.2 hi)
  refine lin (fun a => mul a b) (fun a => mul b a) (fun a c ha hc => xor_mul _ _ _ ha hc) (fun a c _ _ => mul_xor _ _ _) ?_ a ha
  exact List.all_eq_true.2 fun i hi => beq_iff_eq.2 (h1 b hb i (List.mem_range.1 hi))
theorem mul_assoc (a b c : Nat) (ha : a < 256) (hb : b < 256) (hc : c < 256) : mul a (mul b c) = mul (mul a b) c := by
  have h0 : (List.range 8).all (fun i => (List.range 8).all fun j => (List.range 8).all fun k => mul (2 ^ i) (mul (2 ^ j) (2 ^ k)) == mul (mul (2 ^ i) (2 ^ j)) (2 ^ k)) = true := by decide +kernel
  have p : ∀ i, i < 8 → 2 ^ i < 256 := fun i hi => Nat.lt_of_lt_of_le (Nat.pow_lt_pow_right (by decide) hi) (by decide)
  have h1 : ∀ i j, i < 8 → j < 8 → ∀ c, c < 256 → mul (2 ^ i) (mul (2 ^ j) c) = mul (mul (2 ^ i) (2 ^ j)) c := by
    intro i j hi hj
    refine lin (fun c => mul (2 ^ i) (mul (2 ^ j) c)) (fun c => mul (mul (2 ^ i) (2 ^ j)) c) (fun a c ha hc => ?_) (fun a c _ _ => mul_xor _ _ _) ?_
    · show mul (2 ^ i) (mul (2 ^ j) (a ^^^ c)) = _
      rw [mul_xor, mul_xor]
    · exact List.all_eq_true.1 (List.all_eq_true.1 h0 i (List.mem_range.2 hi)) j (List.mem_range.2 hj)
  have h2 : ∀ i, i < 8 → ∀ b, b < 256 → mul (2 ^ i) (mul b c) = mul (mul (2 ^ i) b) c := by
    intro i hi
    refine lin (fun b => mul (2 ^ i) (mul b c)) (fun b => mul (mul (2 ^ i) b) c) (fun a d ha hd => ?_) (fun a d ha hd => ?_) ?_
    · show mul (2 ^ i) (mul (a ^^^ d) c) = _
      rw [xor_mul _ _ _ ha hd, mul_xor]
    · show mul (mul (2 ^ i) (a ^^^ d)) c = _
      rw [mul_xor, xor_mul _ _ _ (mul_lt _ _ (p i hi)) (mul_lt _ _ (p i hi))]
    · exact List.all_eq_true.2 fun j hj => beq_iff_eq.2 (h1 i j hi (List.mem_range.1 hj) c hc)
  refine lin (fun a => mul a (mul b c)) (fun a => mul (mul a b) c) (fun a d ha hd => xor_mul _ _ _ ha hd) (fun a d ha hd => ?_) ?_ a ha
  · show mul (mul (a ^^^ d) b) c = _
    rw [xor_mul _ _ _ ha hd, xor_mul _ _ _ (mul_lt _ _ ha) (mul_lt _ _ hd)]
  · exact List.all_eq_true.2 fun i hi => beq_iff_eq.2 (h2 i (List.mem_range.1 hi) b hb)

theorem mul_one (a : Nat) (ha : a < 256) : mul a 1 = a := by
  have := all256 (p := fun a => mul a 1 == a) (by decide +kernel) a ha
  simpa using this
theorem one_mul (a : Nat) (ha : a < 256) : mul 1 a = a := by rw [mul_comm _ _ (by decide) ha, mul_one a ha]
theorem mul_zero (a : Nat) : mul a 0 = 0 := by
  have := mul_xor a 0 0
  simpa using this
theorem zero_mul (a : Nat) : mul 0 a = 0 := by
  have := xor_mul 0 0 a (by decide) (by decide)
  simpa using this
/-- the powers of 2 -/
def ex : Nat → Nat
  | 0 => 1
  | n + 1 => tw (ex n)
theorem ex_lt (n : Nat) : ex n < 256 := by
  induction n with
  | zero => decide
  | succ n ih => exact tw_lt _ ih
theorem ex_add (i j : Nat) : mul (ex i) (ex j) = ex (i + j) := by
  induction j with
  | zero => exact mul_one _ (ex_lt i)
  | succ j ih => show mul (ex i) (tw (ex j)) = tw (ex (i + j)); rw [mul_tw _ _ (ex_lt i) (ex_lt j), ih]
theorem ex_255 : ex 255 = 1 := by decide +kernel
theorem ex_more (i : Nat) : ex (i + 255) = ex i := by rw [← ex_add, ex_255, mul_one _ (ex_lt i)]
theorem ex_mul (i q : Nat) : ex (i + 255 * q) = ex i := by
  induction q with
  | zero => rfl
  | succ q ih => rw [Nat.mul_succ, ← Nat.add_assoc, ex_more, ih]
theorem ex_mod (i : Nat) : ex (i % 255) = ex i := by
  have := ex_mul (i % 255) (i / 255)
  rw [← this]; congr 1; omega
/-- the logarithm: of which power of 2 is it the value (of 0: 0) -/
def lgT : List Nat := [0, 0, 1, 25, 2, 50, 26, 198, 3, 223, 51, 238, 27, 104, 199, 75, 4, 100, 224, 14, 52, 141, 239, 129, 28, 193, 105, 248, 200, 8, 76, 113, 5, 138, 101, 47, 225, 36, 15, 33, 53, 147, 142, 218, 240, 18, 130, 69, 29, 181, 194, 125, 106, 39, 249, 185, 201, 154, 9, 120, 77, 228, 114, 166, 6, 191, 139, 98, 102, 221, 48, 253, 226, 152, 37, 179, 16, 145, 34, 136, 54, 208, 148, 206, 143, 150, 219, 189, 241, 210, 19, 92, 131, 56, 70, 64, 30, 66, 182, 163, 195, 72, 126, 110, 107, 58, 40, 84, 250, 133, 186, 61, 202, 94, 155, 159, 10, 21, 121, 43, 78, 212, 229, 172, 115, 243, 167, 87, 7, 112, 192, 247, 140, 128, 99, 13, 103, 74, 222, 237, 49, 197, 254, 24, 227, 165, 153, 119, 38, 184, 180, 124, 17, 68, 146, 217, 35, 32, 137, 46, 55, 63, 209, 91, 149, 188, 207, 205, 144, 135, 151, 178, 220, 252, 190, 97, 242, 86, 211, 171, 20, 42, 93, 158, 132, 60, 57, 83, 71, 109, 65, 162, 31, 45, 67, 216, 183, 123, 164, 118, 196, 23, 73, 236, 127, 12, 111, 246, 108, 161, 59, 82, 41, 157, 85, 170, 251, 96, 134, 177, 187, 204, 62, 90, 203, 89, 95, 176, 156, 169, 160, 81, 11, 245, 22, 235, 122, 117, 44, 215, 79, 174, 213, 233, 230, 231, 173, 232, 116, 214, 244, 234, 168, 80, 88, 175]
def lg (a : Nat) : Nat := lgT.getD a 0
theorem lg_facts (a : Nat) (ha : a < 256) : lg a < 255 ∧ (a ≠ 0 → ex (lg a) = a) := by
  have := all256 (p := fun a => decide (lg a < 255) && (a == 0 || ex (lg a) == a)) (by decide +kernel) a ha
  simp at this
  exact ⟨this.1, fun h => by rcases this.2 with h' | h'; exact absurd h' h; exact h'⟩
theorem lg_lt (a : Nat) (ha : a < 256) : lg a < 255 := (lg_facts a ha).1
theorem ex_lg (a : Nat) (ha : a < 256) (h : a ≠ 0) : ex (lg a) = a := (lg_facts a ha).2 h
theorem lg_zero : lg 0 = 0 := rfl
theorem lg_ex (i : Nat) (hi : i < 255) : lg (ex i) = i := by
  have h : (List.range 255).all (fun i => lg (ex i) == i) = true := by decide +kernel
  simpa using List.all_eq_true.1 h i (List.mem_range.2 hi)
theorem ex_ne (n : Nat) : ex n ≠ 0 := by
  rw [← ex_mod]
  have h : (List.range 255).all (fun i => ex i != 0) = true := by decide +kernel
  have := List.all_eq_true.1 h (n % 255) (List.mem_range.2 (Nat.mod_lt _ (by decide)))
  simpa using this
theorem ex_inj (i j : Nat) (hi : i < 255) (hj : j < 255) (h : ex i = ex j) : i = j := by
  rw [← lg_ex i hi, ← lg_ex j hj, h]
/-- the product by logarithms -/
theorem mul_lg (a b : Nat) (ha : a < 256) (hb : b < 256) (h : a ≠ 0) (h' : b ≠ 0) : mul a b = ex (lg a + lg b) := by
  rw [← ex_add, ex_lg a ha h, ex_lg b hb h']
theorem mul_ne (a b : Nat) (ha : a < 256) (hb : b < 256) (h : a ≠ 0) (h' : b ≠ 0) : mul a b ≠ 0 := by
  rw [mul_lg a b ha hb h h']; exact ex_ne _

/-! ### on bytes -/
def gm (a b : UInt8) : UInt8 := .ofNat (mul a.toNat b.toNat)
theorem lt256 (a : UInt8) : a.toNat < 256 := a.toNat_lt
theorem toNat_of (n : Nat) (h : n < 256) : (UInt8.ofNat n).toNat = n := by simp [UInt8.toNat_ofNat']; omega
theorem toNat_gm (a b : UInt8) : (gm a b).toNat = mul a.toNat b.toNat := toNat_of _ (mul_lt _ _ (lt256 a))
theorem ext {a b : UInt8} (h : a.toNat = b.toNat) : a = b := UInt8.toNat_inj.1 h
theorem gm_comm (a b : UInt8) : gm a b = gm b a := ext (by rw [toNat_gm, toNat_gm, mul_comm _ _ (lt256 a) (lt256 b)])
theorem gm_assoc (a b c : UInt8) : gm a (gm b c) = gm (gm a b) c := ext (by
  simp only [toNat_gm]; exact mul_assoc _ _ _ (lt256 a) (lt256 b) (lt256 c))
theorem gm_xor (a b c : UInt8) : gm a (b ^^^ c) = gm a b ^^^ gm a c := ext (by
  simp only [toNat_gm, UInt8.toNat_xor]; exact mul_xor _ _ _)
theorem xor_gm (a b c : UInt8) : gm (a ^^^ b) c = gm a c ^^^ gm b c := by rw [gm_comm, gm_xor, gm_comm c, gm_comm c]
theorem gm_one (a : UInt8) : gm a 1 = a := ext (by rw [toNat_gm]; exact mul_one _ (lt256 a))
theorem one_gm (a : UInt8) : gm 1 a = a := by rw [gm_comm, gm_one]
theorem gm_zero (a : UInt8) : gm a 0 = 0 := ext (by rw [toNat_gm]; exact mul_zero _)
theorem zero_gm (a : UInt8) : gm 0 a = 0 := by rw [gm_comm, gm_zero]
theorem ne_toNat {a : UInt8} (h : a ≠ 0) : a.toNat ≠ 0 := fun e => h (ext e)
theorem gm_ne {a b : UInt8} (h : a ≠ 0) (h' : b ≠ 0) : gm a b ≠ 0 := fun e => by
  have := congrArg UInt8.toNat e
  rw [toNat_gm] at this
  exact mul_ne _ _ (lt256 a) (lt256 b) (ne_toNat h) (ne_toNat h') this
theorem gm_eq_zero {a b : UInt8} (h : gm a b = 0) : a = 0 ∨ b = 0 := by
  by_cases ha : a = 0
  · exact .inl ha
  · by_cases hb : b = 0
    · exact .inr hb
    · exact absurd h (gm_ne ha hb)
def exB (n : Nat) : UInt8 := .ofNat (ex n)
theorem toNat_exB (n : Nat) : (exB n).toNat = ex n := toNat_of _ (ex_lt n)
/-- the inverse (of 0: 0) -/
def ginv (a : UInt8) : UInt8 := if a = 0 then 0 else exB (255 - lg a.toNat)
theorem gm_ginv {a : UInt8} (h : a ≠ 0) : gm a (ginv a) = 1 := ext (by
  have h1 := lg_lt _ (lt256 a)
  rw [ginv, if_neg h, toNat_gm, toNat_exB]
  have e := ex_add (lg a.toNat) (255 - lg a.toNat)
  rw [ex_lg _ (lt256 a) (ne_toNat h), show lg a.toNat + (255 - lg a.toNat) = 0 + 255 from by omega, ex_more] at e
  exact e)
theorem ginv_gm {a : UInt8} (h : a ≠ 0) : gm (ginv a) a = 1 := by rw [gm_comm, gm_ginv h]
theorem ginv_ne {a : UInt8} (h : a ≠ 0) : ginv a ≠ 0 := fun e => by
  have := gm_ginv h
  rw [e, gm_zero] at this
  exact absurd this (by decide)
theorem ginv_zero : ginv 0 = 0 := rfl
theorem gm_cancel {a b c : UInt8} (h : a ≠ 0) (e : gm a b = gm a c) : b = c := by
  rw [← one_gm b, ← one_gm c, ← ginv_gm h, ← gm_assoc, ← gm_assoc, e]
theorem ginv_unique {a b : UInt8} (e : gm a b = 1) : b = ginv a := by
  by_cases h : a = 0
  · subst h; rw [zero_gm] at e; exact absurd e (by decide)
  · exact gm_cancel h (e.trans (gm_ginv h).symm)
theorem ginv_ginv (a : UInt8) : ginv (ginv a) = a := by
  by_cases h : a = 0
  · subst h; rfl
  · exact (ginv_unique (ginv_gm h)).symm
theorem gm_solve {a b c : UInt8} (h : a ≠ 0) (e : gm a b = c) : b = gm (ginv a) c := by
  rw [← e, gm_assoc, ginv_gm h, one_gm]
/-- powers -/
def gpow (a : UInt8) : Nat → UInt8
  | 0 => 1
  | n + 1 => gm (gpow a n) a
theorem gpow_zero (n : Nat) : gpow 0 (n + 1) = 0 := gm_zero _
theorem gpow_ex (a : UInt8) (h : a ≠ 0) (n : Nat) : (gpow a n).toNat = ex (lg a.toNat * n) := by
  induction n with
  | zero => rfl
  | succ n ih =>
    rw [gpow, toNat_gm, ih, Nat.mul_succ, ← ex_add, ex_lg _ (lt256 a) (ne_toNat h)]
theorem gpow_add (a : UInt8) (n m : Nat) : gm (gpow a n) (gpow a m) = gpow a (n + m) := by
  induction m with
  | zero => exact gm_one _
  | succ m ih => rw [gpow, gm_assoc, ih]; rfl
theorem gpow_255_mul (a : UInt8) (h : a ≠ 0) (q : Nat) : gpow a (255 * q) = 1 := ext (by
  rw [gpow_ex a h, show lg a.toNat * (255 * q) = 0 + 255 * (lg a.toNat * q) from by rw [Nat.mul_left_comm]; omega, ex_mul]; rfl)
theorem gpow_255 (a : UInt8) (h : a ≠ 0) : gpow a 255 = 1 := gpow_255_mul a h 1
theorem gpow_mod (a : UInt8) (h : a ≠ 0) (n : Nat) : gpow a (n % 255) = gpow a n := by
  have e : n % 255 + 255 * (n / 255) = n := by omega
  have := gpow_add a (n % 255) (255 * (n / 255))
  rw [gpow_255_mul a h, gm_one, e] at this
  exact this
/-- what the code answers: by logarithms -/
theorem gpow_code (a : UInt8) (h : a ≠ 0) (n : Nat) : (gpow a n).toNat = ex (lg a.toNat * (n % 255) % 255) := by
  rw [ex_mod, ← gpow_ex a h, gpow_mod a h]
/-- what the document's answer is: all that is not 0 is 1 to the 255 -/
theorem gpow_big (a : UInt8) (n : Nat) (hn : 255 < n) : gpow a (255 + n % 255) = gpow a n := by
  by_cases h : a = 0
  · subst h
    obtain ⟨m, rfl⟩ : ∃ m, n = m + 1 := ⟨n - 1, by omega⟩
    rw [gpow_zero, show 255 + (m + 1) % 255 = (254 + (m + 1) % 255) + 1 from by omega, gpow_zero]
  · rw [← gpow_add, gpow_255 a h, one_gm, gpow_mod a h]
theorem gm_sq_xor (a b : UInt8) : gm (a ^^^ b) (a ^^^ b) = gm a a ^^^ gm b b := by
  rw [gm_xor, xor_gm, xor_gm, gm_comm b a, UInt8.xor_assoc, ← UInt8.xor_assoc (gm a b), UInt8.xor_self, UInt8.zero_xor]
/-! ### sums of products -/
def gdot : List UInt8 → List UInt8 → UInt8
  | a :: l, b :: r => gm a b ^^^ gdot l r
  | _, _ => 0
theorem gdot_snoc : ∀ (l r : List UInt8) (k : Nat) (a b : UInt8), l[k]? = some a → r[k]? = some b → gdot (l.take (k + 1)) (r.take (k + 1)) = gdot (l.take k) (r.take k) ^^^ gm a b := by
  intro l
  induction l with
  | nil => intro r k a b h; simp at h
  | cons x l ih =>
    intro r k a b h h'
    cases r with
    | nil => simp at h'
    | cons y r =>
      cases k with
      | zero =>
        simp at h h'; subst h; subst h'
        simp [gdot, UInt8.xor_comm]
      | succ k =>
        have e := ih r k a b (by simpa using h) (by simpa using h')
        simp only [List.take_succ_cons, gdot] at e ⊢
        rw [e, UInt8.xor_assoc]
theorem gdot_comm : ∀ (l r : List UInt8), gdot l r = gdot r l := by
  intro l
  induction l with
  | nil => intro r; cases r <;> rfl
  | cons x l ih =>
    intro r
    cases r with
    | nil => rfl
    | cons y r => simp only [gdot]; rw [gm_comm, ih]
theorem gdot_take : ∀ (l r : List UInt8) (n : Nat), min l.length r.length ≤ n → gdot (l.take n) (r.take n) = gdot l r := by
  intro l
  induction l with
  | nil => intro r n _; simp [gdot]
  | cons x l ih =>
    intro r n h
    cases r with
    | nil => simp [gdot]
    | cons y r =>
      cases n with
      | zero => simp at h
      | succ n =>
        simp only [List.take_succ_cons, gdot]
        rw [ih r n (by simp at h ⊢; omega)]
theorem gdot_append (l l' r r' : List UInt8) (h : l.length = r.length) : gdot (l ++ l') (r ++ r') = gdot l r ^^^ gdot l' r' := by
  induction l generalizing r with
  | nil => cases r with
    | nil => simp [gdot]
    | cons y r => simp at h
  | cons x l ih => cases r with
    | nil => simp at h
    | cons y r => simp only [List.cons_append, gdot]; rw [ih r (by simpa using h), UInt8.xor_assoc]
theorem gdot_reverse (l r : List UInt8) (h : l.length = r.length) : gdot l.reverse r.reverse = gdot l r := by
  induction l generalizing r with
  | nil => cases r with
    | nil => rfl
    | cons y r => simp at h
  | cons x l ih => cases r with
    | nil => simp at h
    | cons y r =>
      simp only [List.length_cons, Nat.add_right_cancel_iff] at h
      rw [List.reverse_cons, List.reverse_cons, gdot_append _ _ _ _ (by simpa using h), ih r h]
      simp [gdot, UInt8.xor_comm]
theorem gdot_nil (r : List UInt8) : gdot [] r = 0 := rfl
end Gf
