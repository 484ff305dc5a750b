/- Blobs that a call appends; what Decode makes of shares. -/
import Derived.Test.YtdciakbichgddaaRsDec
import Derived.Test.YtdciakbichgddaaRsFirstWalk
namespace Go.Mem
open Go Go.RowKit Gf
/-- the cells of k blobs -/
def blobC : Nat → (Nat → Nat) → (Nat → Value) → List Value
  | 0, _, _ => []
  | k + 1, num, dv => blobC k num dv ++ [.int .i64 (num k : Int), dv k]
theorem blobC_succ (k : Nat) (num : Nat → Nat) (dv : Nat → Value) : blobC (k + 1) num dv = blobC k num dv ++ [.int .i64 (num k : Int), dv k] := rfl
theorem blobC_congr {k : Nat} {num : Nat → Nat} {dv dv' : Nat → Value} (h : ∀ j, j < k → dv j = dv' j) : blobC k num dv = blobC k num dv' := by
  induction k with
  | zero => rfl
  | succ k ih => rw [blobC_succ, blobC_succ, ih fun j hj => h j (by omega), h k (by omega)]
theorem blobC_len (k : Nat) (num : Nat → Nat) (dv : Nat → Value) : (blobC k num dv).length = k * 2 := by
  induction k with
  | zero => rfl
  | succ k ih => rw [blobC_succ, List.length_append, ih]; simp; omega
theorem blobC_get (num : Nat → Nat) (dv : Nat → Value) : ∀ (k j : Nat), j < k → (blobC k num dv)[j * 2]? = some (.int .i64 (num j : Int)) ∧ (blobC k num dv)[j * 2 + 1]? = some (dv j) := by
  intro k
  induction k with
  | zero => intro j hj; omega
  | succ k ih =>
    intro j hj
    rw [blobC_succ]
    by_cases e : j = k
    · subst e
      rw [List.getElem?_append_right (by rw [blobC_len]; omega), List.getElem?_append_right (by rw [blobC_len]; omega), blobC_len]
      simp
    · obtain ⟨h1, h2⟩ := ih j (by omega)
      rw [List.getElem?_append_left (by rw [blobC_len]; omega), List.getElem?_append_left (by rw [blobC_len]; omega)]
      exact ⟨h1, h2⟩
theorem blbs_of_own {w : World} {base : Nat} {t : TypeId} {v : Value} {k m : Nat} {num : Nat → Nat} {dv : Nat → Value} {R : Mx} (h : w.ownsRow base t 2 v k (blobC k num dv)) (hk : 0 < k)
    (hd : ∀ j, j < k → (∃ a c, dv j = .slice a m c) ∧ Bys w (dv j) (rowL m (R j))) : Blbs w v k m num R := by
  obtain ⟨hlen, h2⟩ := h
  rcases h2 with ⟨rfl, h0⟩ | ⟨g, cap, cur, rfl, _, hg, hnc, hcm, hcs, htake⟩
  · omega
  · refine ⟨g, 0, cap, rfl, hnc, hcm, fun i hi => ?_⟩
    obtain ⟨c1, c2⟩ := blobC_get num dv k i hi
    obtain ⟨⟨a, c, e⟩, hb⟩ := hd i hi
    rw [← htake, List.getElem?_take, if_pos (by omega)] at c1 c2
    refine ⟨?_, a, c, ?_, by rw [← e]; exact hb⟩
    · simp only [World.cell?, hg, Nat.zero_add]
      simpa using c1
    · simp only [World.cell?, hg, Nat.zero_add]
      rw [← e]
      simpa using c2
/-- one blob is appended -/
theorem app_blob {P : Program} {w : World} {ops : Array Oper} {rest : List Oper} {o : Oper} {a : Act} {Q : Exit → Act → World → Prop} {t e : TypeId} {z : Value} {bytes : Nat}
    (hu : P.underlying t = some (.slice e)) (hinf : (P.info? e).map (fun i => (i.zero, i.size, i.bytes)) = some (some z, 2, bytes)) (hz2 : z.cells.size = 2) (hgd : o.guard = none) (s x : Operand)
    (ho : o.op = .call { callee := .builtin .append, args := #[s, x], argTypes := #[t, t] })
    {base : Nat} {v : Value} {n : Nat} {xs : List Value} (u1 u2 : Value) (hs : a.eval s = v) {mb : Nat} (hx : a.eval x = .slice (some ⟨mb, 0, none⟩) 1 1) (hmb : mb = w.heap.size) (h1 : u1.oneCell' = true) (h2 : u2.oneCell' = true)
    (hown : w.ownsRow base e 2 v n xs) (hn : n + 1 ≤ 4294967296) (hby : bytes ≤ 4096) (hbase : base ≤ w.heap.size)
    (h : ∀ v' w', w'.ownsRow base e 2 v' (n + 1) (xs ++ [u1, u2]) → w.grownBy w' v.ownBlock → wpList P ops Q rest (a.put o.dst v') w') :
    wpList P ops Q (o :: rest) a (w.alloc (.cells #[u1, u2] e)) := by
  subst hmb
  obtain ⟨i, hi, hz, hsz, hb⟩ := info_parts hinf
  have hm : (n + 1) * bytes ≤ 4294967296 * 4096 := Nat.mul_le_mul hn hby
  exact wpList_append_own _ hgd s x t ho base e i z 2 bytes hu hi hz hsz hb hz2 (by decide) v n xs hs (hown.alloc _) ⟨w.heap.size, 0, none⟩ 1 1 [u1, u2] hx rfl
    (fun j y hj => by
      have hB := Blk.new w #[u1, u2] e
      match j with
      | 0 => simp at hj; subst hj; simp [Addr.add]
      | 1 =>
        simp at hj; subst hj
        rw [show (⟨w.heap.size, 0, none⟩ : Addr).add 1 = ⟨w.heap.size, 1, none⟩ from rfl, hB.cell 1]; rfl
      | j + 2 => simp at hj)
    (fun y hy => by simp at hy; rcases hy with rfl | rfl; exact h1; exact h2) (by unfold maxLen; omega) (by omega) (by simp; omega)
    (fun v' w' h2 h3 _ => h v' w' h2 (grown_alloc h3))
end Go.Mem
namespace Go.Proofs.Ytdciakbichgddaa
open Go Go.RowKit Go.Mem Gf
theorem EBi : (Try.prog.info? 80).map (fun i => (i.zero, i.size, i.bytes)) = some (some (.agg #[.int .i64 0, .slice none 0 0]), 2, 32) := by kernel_rfl
/-- shares, decoded, are the pieces -/
theorem dec_same {k l : Nat} {W Y P R : Mx} (hI : IsInv k W Y) (hR : EqM k l R (MM k W P)) : EqM k l (MM k Y R) P := by
  intro i hi x hx
  have h1 : MM k Y R i x = MM k Y (MM k W P) i x := MM_congr (EqM.refl k k Y) hR i hi x hx
  rw [h1, ← MM_assoc, MM_congr hI.1 (EqM.refl k l P) i hi x hx]
  exact MM_Idm_left (m := l) P i hi x hx
theorem flat_pieces (bs : List UInt8) (k : Nat) (hk : 1 ≤ k) : flatR k (pieceN bs k) (pieceF bs k) = padL bs k := by
  have hml := pieceN_mul bs k hk
  have hpl := padL_len bs k hk
  have h : ∀ j, j ≤ k → flatR j (pieceN bs k) (pieceF bs k) = (padL bs k).take (pieceN bs k * j) := by
    intro j
    induction j with
    | zero => intro _; rw [Nat.mul_zero]; rfl
    | succ j ih =>
      intro hj
      rw [flatR_succ, ih (by omega)]
      have hle : pieceN bs k * j + pieceN bs k ≤ (padL bs k).length := by
        have h3 : pieceN bs k * (j + 1) ≤ pieceN bs k * k := Nat.mul_le_mul_left _ hj
        rw [Nat.mul_add, Nat.mul_one] at h3
        omega
      exact pieces_snoc (padL bs k) (pieceN bs k) j hle
  rw [h k (Nat.le_refl _)]
  exact List.take_of_length_le (by omega)
theorem padN_pad (n k : Nat) (hk : 1 ≤ k) : padN (padN n k) k = padN n k := by
  obtain ⟨h1, h2, h3⟩ := padN_facts (padN n k) k hk
  obtain ⟨_, _, h5⟩ := padN_facts n k hk
  rcases Nat.lt_or_ge (padN n k) (padN (padN n k) k) with h | h
  · exact absurd h5 (padN_not (padN n k) k (padN n k) hk (Nat.le_refl _) h)
  · omega
theorem padL_pad (bs : List UInt8) (k : Nat) (hk : 1 ≤ k) : padL (padL bs k) k = padL bs k := by
  have : padN (padL bs k).length k - (padL bs k).length = 0 := by rw [padL_len bs k hk, padN_pad _ _ hk]; omega
  rw [padL, this]; simp
theorem pieceN_pad (bs : List UInt8) (k : Nat) (hk : 1 ≤ k) : pieceN (padL bs k) k = pieceN bs k := by
  unfold pieceN; rw [padL_len bs k hk, padN_pad _ _ hk]
theorem pieceF_pad (bs : List UInt8) (k : Nat) (hk : 1 ≤ k) : pieceF (padL bs k) k = pieceF bs k := by
  funext j x
  unfold pieceF
  rw [padL_pad bs k hk, pieceN_pad bs k hk]
end Go.Proofs.Ytdciakbichgddaa
