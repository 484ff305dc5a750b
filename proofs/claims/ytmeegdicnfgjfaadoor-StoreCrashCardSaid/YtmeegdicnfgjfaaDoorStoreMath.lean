/- What a store is: records in slots, and what its calls compute. No program in sight. -/
import Derived.Test.YtmeegdicnfgjfaaDoorCodeMath
import Derived.Test.YtmeegdicnfgjfaaDoorDiskAny
namespace Sto
open Go.Mem
/-- what stands in a slot -/
structure Rec where
  is : Bool
  name : ByteArray
  num : Nat
  data : List UInt8
def Rec.free : Rec := ⟨false, ByteArray.empty, 0, []⟩
/-- rows taken one behind the other -/
def takeN : Nat → List UInt8 → Option (List (List UInt8) × List UInt8)
  | 0, b => some ([], b)
  | k + 1, b => match takeN k b with
    | none => none
    | some (xs, r) => match Cod.takeNet r with
      | none => none
      | some (x, r') => some (xs ++ [x], r')
theorem takeN_len : ∀ (k : Nat) (b : List UInt8) (xs : List (List UInt8)) (r : List UInt8), takeN k b = some (xs, r) → xs.length = k
  | 0, b, xs, r, h => by simp [takeN] at h; rw [h.1]; rfl
  | k + 1, b, xs, r, h => by
    simp only [takeN] at h
    split at h
    · cases h
    · rename_i xs' r' h'
      split at h
      · cases h
      · injection h with h
        injection h with h1 h2
        subst h1
        rw [List.length_append, takeN_len k b xs' r' h']; rfl
/-- a record's bytes -/
def parse (b : List UInt8) : Option Rec :=
  match takeN 3 b with
  | none => none
  | some (xs, _) => if (xs.getD 1 []).length = 4 then some ⟨true, ⟨(xs.getD 0 []).toArray⟩, Cod.getN (xs.getD 1 []), xs.getD 2 []⟩ else none
def text (name : ByteArray) (num : Nat) (data : List UInt8) : List UInt8 := Cod.nets [name.data.toList, Cod.be 4 num, data]
/-- the slot of a name's record, among the first k: of the greatest number, the first one -/
def best (l : List Rec) (name : ByteArray) : Nat → Option Nat
  | 0 => none
  | k + 1 => match l[k]? with
    | none => best l name k
    | some r => if r.is = true ∧ (r.name.toList == name.toList) = true ∧ (∀ j, best l name k = some j → (l.getD j Rec.free).num < r.num) then some k else best l name k
end Sto
