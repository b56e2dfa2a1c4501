/- What all laws of this seat share at the hand-in: closed facts of the program; stitches as arguments. -/
import Derived.Test.YtblmoikhfmkfnaaP3
import Derived.Test.YtblmoikhfmkfnaaM18
namespace Go.Proofs.Ytblmoikhfmkfnaa
set_option linter.unusedSimpArgs false
set_option linter.unusedVariables false
open Go.ChangeShapes Go.WideShapes Go.ChangeAt Go.RowKit Go
theorem own_ok : ownKnob Try.prog.godebug = none := by kernel_rfl
theorem laid_ok : laidOutB Try.prog = true := by kernel_rfl
def parOk (P : Program) (L : List (Option Row)) (n : Nat) (ts : List Nat) : Bool := ts.all fun t => P.readableRec t && decide (t < P.types.size) && sup L n t
theorem parOk_1 {P : Program} {L : List (Option Row)} {n : Nat} {ts : List Nat} (h : parOk P L n ts = true) : ∀ t ∈ ts, P.readableRec t = true ∧ t < P.types.size := fun t ht => by
  have := List.all_eq_true.1 h t ht
  simp only [Bool.and_eq_true, decide_eq_true_eq] at this
  exact this.1
theorem parOk_2 {P : Program} {L : List (Option Row)} {n : Nat} {ts : List Nat} (h : parOk P L n ts = true) : ∀ t, t ∈ ts → sup L n t = true := fun t ht => by
  have := List.all_eq_true.1 h t ht
  simp only [Bool.and_eq_true, decide_eq_true_eq] at this
  exact this.2
end Go.Proofs.Ytblmoikhfmkfnaa
