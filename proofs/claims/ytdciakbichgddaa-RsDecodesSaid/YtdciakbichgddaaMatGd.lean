/- Plain facts on memory: several slices of rows at once. No program in sight. -/
import Derived.Test.YtdciakbichgddaaMatApp
import Derived.Test.YtdciakbichgddaaMatInv
import Derived.Test.YtdciakbichgddaaMatSame
import Derived.Test.YtdciakbichgddaaMatSquare
namespace Go.Mem
open Go Go.RowKit Gf

/-- each of these values is a slice of rows of just these bytes -/
def Gd (w : World) (l : List (Value × List (List UInt8))) : Prop := ∀ p, p ∈ l → Rws w p.1 p.2
section
variable {w w' : World} {l : List (Value × List (List UInt8))} {v : Value} {rs : List (List UInt8)}
theorem Gd.nil (w : World) : Gd w [] := fun p hp => by cases hp
theorem Gd.below (h : Gd w l) (hb : Below w.heap.size w w') : Gd w' l := fun p hp => (h p hp).below hb
theorem Gd.rd (h : Gd w l) (n : Nat) : Gd (w.drewN n) l := h
theorem Gd.cons (h : Gd w l) (hr : Rws w v rs) : Gd w ((v, rs) :: l) := fun p hp => by
  rcases List.mem_cons.1 hp with rfl | hp
  · exact hr
  · exact h p hp
theorem Gd.get (h : Gd w l) (hm : (v, rs) ∈ l) : Rws w v rs := h _ hm
end
/-- worlds that follow each other, each leaving all that there was -/
def Aft (w w' : World) : Prop := Below w.heap.size w w'
theorem Aft.refl (w : World) : Aft w w := Below.refl _ _
theorem Aft.trans {w w' w'' : World} (h : Aft w w') (h' : Aft w' w'') : Aft w w'' :=
  Below.trans h (Below.mono h' (Below.size h))
theorem Aft.drewN {w w' : World} (h : Aft w w') (n : Nat) : Aft w (w'.drewN n) := below_drewN h n
end Go.Mem
namespace Go.Proofs.Ytdciakbichgddaa
open Go Go.RowKit Go.Mem Gf
/-- the comparison of equal rows, and of unequal ones -/
theorem rows8_yes (va vb : Value) (xs ys : List (List UInt8)) (w : World) (ha : Rws w va xs) (hb : Rws w vb ys) (h : xs = ys) :
    Calls Try.prog 43 #[va, vb] w fun e w' => e = .returned (.bool true) ∧ ∃ n, w' = w.drewN n := by
  have := rows8_calls va vb xs ys w ha hb
  rw [decide_eq_true h] at this; exact this
theorem same8_yes (va vb : Value) (xs ys : List UInt8) (w : World) (ha : Bys w va xs) (hb : Bys w vb ys) (h : xs = ys) :
    Calls Try.prog 51 #[va, vb] w fun e w' => e = .returned (.bool true) ∧ ∃ n, w' = w.drewN n := by
  have := same8_calls va vb xs ys w ha hb
  rw [decide_eq_true h] at this; exact this
end Go.Proofs.Ytdciakbichgddaa
