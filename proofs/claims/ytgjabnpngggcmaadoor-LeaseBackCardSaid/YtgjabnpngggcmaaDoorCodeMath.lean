/- Plain facts on numbers and rows as bytes: what Put, Get, Net, Nets, TakeNet compute. No program in sight. -/
import Derived.Lib.ItoaMem
namespace Cod
open Go.Lib
/-- a number as w bytes, the greatest first -/
def be : Nat → Nat → List UInt8
  | 0, _ => []
  | w + 1, n => UInt8.ofNat (n / 256 ^ w) :: be w n
theorem be_len : ∀ w n, (be w n).length = w
  | 0, _ => rfl
  | w + 1, n => by rw [be, List.length_cons, be_len w n]
theorem be_get : ∀ (w n i : Nat), i < w → (be w n)[i]? = some (UInt8.ofNat (n / 256 ^ (w - 1 - i)))
  | w + 1, n, 0, _ => by rw [be]; simp
  | w + 1, n, i + 1, h => by
    rw [be, List.getElem?_cons_succ, be_get w n i (by omega), show w - 1 - i = w + 1 - 1 - (i + 1) from by omega]
def getGo (a : Nat) (bs : List UInt8) : Nat := bs.foldl (fun a c => a * 256 + c.toNat) a
/-- the number of bytes -/
def getN (bs : List UInt8) : Nat := getGo 0 bs
theorem getGo_cons (a : Nat) (c : UInt8) (r : List UInt8) : getGo a (c :: r) = getGo (a * 256 + c.toNat) r := rfl
theorem getGo_snoc (a : Nat) (c : UInt8) (r : List UInt8) : getGo a (r ++ [c]) = getGo a r * 256 + c.toNat := by simp [getGo]
theorem getGo_be : ∀ (w n a : Nat), getGo a (be w n) = a * 256 ^ w + n % 256 ^ w
  | 0, n, a => by simp [be, getGo, Nat.mod_one]
  | w + 1, n, a => by
    have e1 : (UInt8.ofNat (n / 256 ^ w)).toNat = n / 256 ^ w % 256 := by rw [UInt8.toNat_ofNat']
    have e2 : n % 256 ^ (w + 1) = n % 256 ^ w + 256 ^ w * (n / 256 ^ w % 256) := by rw [Nat.pow_succ, Nat.mod_mul]
    rw [be, getGo_cons, getGo_be w n, e1, e2, Nat.pow_succ, Nat.add_mul, Nat.mul_assoc, Nat.mul_comm 256 (256 ^ w), Nat.mul_comm (n / 256 ^ w % 256)]
    omega
theorem getN_be (w n : Nat) (h : n < 256 ^ w) : getN (be w n) = n := by
  unfold getN; rw [getGo_be, Nat.mod_eq_of_lt h]; omega
theorem getGo_lt : ∀ (bs : List UInt8) (a : Nat), getGo a bs < (a + 1) * 256 ^ bs.length
  | [], a => by simp [getGo]
  | c :: r, a => by
    rw [getGo_cons, List.length_cons, Nat.pow_succ]
    have h1 := getGo_lt r (a * 256 + c.toNat)
    have h2 := c.toNat_lt
    have h3 : (a * 256 + c.toNat + 1) * 256 ^ r.length ≤ ((a + 1) * 256) * 256 ^ r.length := Nat.mul_le_mul_right _ (by omega)
    rw [Nat.mul_comm (256 ^ r.length) 256, ← Nat.mul_assoc]
    omega
theorem getN_lt (bs : List UInt8) (h : bs.length ≤ 7) : getN bs < 72057594037927936 := by
  have h1 := getGo_lt bs 0
  have h2 : 256 ^ bs.length ≤ 256 ^ 7 := Nat.pow_le_pow_right (by decide) h
  unfold getN
  simp at h1
  omega

/-- a row with its length ahead -/
def net (b : List UInt8) : List UInt8 := itoa b.length ++ [58] ++ b ++ [44]
def nets : List (List UInt8) → List UInt8
  | [] => []
  | b :: r => net b ++ nets r
theorem nets_snoc (l : List (List UInt8)) (b : List UInt8) : nets (l ++ [b]) = nets l ++ net b := by
  induction l with
  | nil => simp [nets]
  | cons a l ih => simp [nets, ih, List.append_assoc]
/-- the length that stands at the beginning, and how many digits it has -/
def sizeGo : List UInt8 → Nat → Nat → Nat × Nat
  | [], n, d => (n, d)
  | c :: r, n, d => if 48 ≤ c.toNat ∧ c.toNat ≤ 57 ∧ n ≤ 16384 then sizeGo r (10 * n + (c.toNat - 48)) (d + 1) else (n, d)
def size (b : List UInt8) : Nat × Nat := sizeGo b 0 0
theorem sizeGo_le : ∀ (l : List UInt8) (n d : Nat), n ≤ 163849 → (sizeGo l n d).1 ≤ 163849 ∧ d ≤ (sizeGo l n d).2 ∧ (sizeGo l n d).2 ≤ d + l.length
  | [], n, d, h => by simp [sizeGo]; exact h
  | c :: r, n, d, h => by
    rw [sizeGo]
    by_cases hc : 48 ≤ c.toNat ∧ c.toNat ≤ 57 ∧ n ≤ 16384
    · rw [if_pos hc]
      have := sizeGo_le r (10 * n + (c.toNat - 48)) (d + 1) (by omega)
      simp only [List.length_cons]
      omega
    · rw [if_neg hc]; simp only [List.length_cons]; exact ⟨h, by omega, by omega⟩
theorem size_le (b : List UInt8) : (size b).1 ≤ 163849 ∧ (size b).2 ≤ b.length := by
  have := sizeGo_le b 0 0 (by omega)
  unfold size; omega
theorem sizeGo_step {l : List UInt8} {n d : Nat} {c : UInt8} {r : List UInt8} (hl : l = c :: r) (h : 48 ≤ c.toNat ∧ c.toNat ≤ 57 ∧ n ≤ 16384) : sizeGo l n d = sizeGo r (10 * n + (c.toNat - 48)) (d + 1) := by
  subst hl; rw [sizeGo, if_pos h]
theorem sizeGo_stop {l : List UInt8} {n d : Nat} (h : ∀ c r, l = c :: r → ¬ (48 ≤ c.toNat ∧ c.toNat ≤ 57 ∧ n ≤ 16384)) : sizeGo l n d = (n, d) := by
  cases l with
  | nil => rfl
  | cons c r => rw [sizeGo, if_neg (h c r rfl)]
/-- the row that stands at the beginning, and what is behind it -/
def bad1 (b : List UInt8) : Bool := ((size b).2 == 0) || (decide (1 < (size b).2) && (b.getD 0 0 == 48)) || decide (16384 < (size b).1)
def bad2 (b : List UInt8) : Bool := decide (b.length < (size b).2 + (size b).1 + 2) || (b.getD (size b).2 0 != 58) || (b.getD ((size b).2 + 1 + (size b).1) 0 != 44)
def takeNet (b : List UInt8) : Option (List UInt8 × List UInt8) :=
  if bad1 b = true then none else if bad2 b = true then none else some ((b.drop ((size b).2 + 1)).take (size b).1, b.drop ((size b).2 + (size b).1 + 2))
theorem digit_toNat {k : Nat} (h : k < 10) : (UInt8.ofNat (48 + k)).toNat = 48 + k := by rw [UInt8.toNat_ofNat']; omega
theorem sizeGo_dec (u : Nat) : ∀ (r : List UInt8), u ≤ 163849 → sizeGo (decDigits u ++ r) 0 0 = sizeGo r u (nDigits u) := by
  induction u using Nat.strongRecOn with
  | _ u ih =>
    intro r hu
    by_cases h : u < 10
    · rw [decDigits, dif_pos h, nDigits_small h, List.cons_append, List.nil_append, sizeGo, digit_toNat h, if_pos (by omega)]
      congr 1; omega
    · rw [decDigits, dif_neg h, nDigits_big h, List.append_assoc, ih (u / 10) (by omega) _ (by omega), List.cons_append, List.nil_append, sizeGo, digit_toNat (by omega : u % 10 < 10), if_pos (by omega)]
      congr 1; omega
theorem dec_head (u : Nat) : 1 < nDigits u → ∀ r, (decDigits u ++ r).getD 0 0 ≠ 48 := by
  induction u using Nat.strongRecOn with
  | _ u ih =>
    intro hn r
    by_cases h : u < 10
    · rw [nDigits_small h] at hn; omega
    · rw [decDigits, dif_neg h, List.append_assoc]
      by_cases h2 : u / 10 < 10
      · rw [decDigits, dif_pos h2, List.cons_append]
        intro e
        have := congrArg UInt8.toNat e
        simp only [List.getD_cons_zero] at this
        rw [digit_toNat h2] at this
        have : 48 + u / 10 = 48 := this
        omega
      · exact ih (u / 10) (by omega) (by rw [nDigits_big h2]; have := nDigits_pos (u / 10 / 10); omega) _
theorem net_eq (b : List UInt8) : net b = decDigits b.length ++ (58 :: (b ++ [44])) := by
  unfold net; rw [itoa_nonneg]; simp [List.append_assoc]
theorem size_net (b r : List UInt8) (h : b.length ≤ 16384) : size (net b ++ r) = (b.length, nDigits b.length) := by
  unfold size
  rw [net_eq, List.append_assoc, sizeGo_dec _ _ (by omega)]
  exact sizeGo_stop fun c s e => by
    injection e with e _
    subst e
    intro h
    exact absurd h.2.1 (by decide)
theorem getD_app_right {α : Type} (a b : List α) (i : Nat) (d : α) (h : a.length ≤ i) : (a ++ b).getD i d = b.getD (i - a.length) d := by
  rw [List.getD_eq_getElem?_getD, List.getD_eq_getElem?_getD, List.getElem?_append_right h]
theorem net_len (b : List UInt8) : (net b).length = nDigits b.length + b.length + 2 := by
  rw [net_eq]; simp [decDigits_length]; omega
theorem takeNet_net (b r : List UInt8) (h : b.length ≤ 16384) : takeNet (net b ++ r) = some (b, r) := by
  have hs := size_net b r h
  have hp := nDigits_pos b.length
  have hl := decDigits_length b.length
  have e : net b ++ r = decDigits b.length ++ (58 :: (b ++ 44 :: r)) := by rw [net_eq]; simp [List.append_assoc]
  have b1 : bad1 (net b ++ r) = false := by
    unfold bad1
    rw [hs]
    have h0 : ((nDigits b.length) == 0) = false := by simp; omega
    have h2 : decide (16384 < b.length) = false := by simp; omega
    have h1 : (decide (1 < nDigits b.length) && ((net b ++ r).getD 0 0 == 48)) = false := by
      by_cases hd : 1 < nDigits b.length
      · have := dec_head b.length hd (58 :: (b ++ 44 :: r))
        rw [e]
        simp only [Bool.and_eq_false_iff]
        exact .inr (by simpa using this)
      · simp [hd]
    rw [h0, h1, h2]; rfl
  have b2 : bad2 (net b ++ r) = false := by
    unfold bad2
    rw [hs]
    have h0 : decide ((net b ++ r).length < nDigits b.length + b.length + 2) = false := by
      rw [List.length_append, net_len]; simp
    have h1 : ((net b ++ r).getD (nDigits b.length) 0 != 58) = false := by
      rw [e, getD_app_right _ _ _ _ (by omega), hl, Nat.sub_self]; rfl
    have h2 : ((net b ++ r).getD (nDigits b.length + 1 + b.length) 0 != 44) = false := by
      rw [e, getD_app_right _ _ _ _ (by omega), hl, show nDigits b.length + 1 + b.length - nDigits b.length = b.length + 1 from by omega, List.getD_cons_succ, getD_app_right _ _ _ _ (Nat.le_refl _), Nat.sub_self]; rfl
    show (decide ((net b ++ r).length < nDigits b.length + b.length + 2) || _ || _) = false
    rw [h0, h1, h2]; rfl
  unfold takeNet
  rw [b1, b2, hs]
  simp only [Bool.false_eq_true, if_false]
  rw [e, show nDigits b.length + 1 = (decDigits b.length).length + 1 from by rw [hl], show nDigits b.length + b.length + 2 = (decDigits b.length).length + (1 + (b.length + 1)) from by rw [hl]; omega]
  rw [← List.drop_drop, ← List.drop_drop, List.drop_left, ← List.drop_drop]
  simp
end Cod
