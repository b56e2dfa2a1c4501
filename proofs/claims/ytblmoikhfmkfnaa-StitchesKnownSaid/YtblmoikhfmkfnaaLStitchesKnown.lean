/- The law StitchesKnown holds: for every input it returns true, and its arguments read afterwards as before. No condition. -/
import Derived.Test.YtblmoikhfmkfnaaArg12K
import Derived.Test.YtblmoikhfmkfnaaSK
namespace Go.Proofs.Ytblmoikhfmkfnaa
set_option linter.unusedSimpArgs false
set_option linter.unusedVariables false
open Go.ChangeShapes Go.WideShapes Go.ChangeAt Go.RowKit Go
set_option maxRecDepth 100000 in
theorem stitchesKnown_lifted (os : Os) (started : os.Started) (H : Type) (enc : TypeId × Value → H) :
    ReturnsInHanded {} Try.checked os 9 .any (Rows.stitchesKnownSpec.pre6 enc Try.prog Try.f9 Rows.stitchesKnownRow.domain false) (Rows.stitchesKnownSpec.post enc Try.prog Try.f9 false true false false) :=
  law_lifted (C := Try.checked) (n := 8) lay_ok own_ok started (by kernel_rfl) Try.func9
    (ChangeSpec.witness6 (enc := enc) (C := Try.checked) false ⟨#[], #[], []⟩ 8 (by kernel_rfl) (by kernel_rfl) (by kernel_rfl) (by kernel_rfl))
    laid_ok (parOk_1 (P := Try.prog) (L := lay) (n := 8) (by kernel_rfl)) (parOk_2 (P := Try.prog) (by kernel_rfl)) rfl rfl (by kernel_rfl)
    (fun ds h => by match ds, h with | [], _ => rfl)
    fun xs h => by
      match xs, h with
      | [], _ => exact lawKnown_spec
theorem stitchesKnown_over : Rows.stitchesKnownRow.holds Try.pinned (OpenSpec.ofChange Rows.stitchesKnownSpec) :=
  OpenClaim.holds_of_wide 9 Try.f9 rfl rfl rfl rfl rfl rfl rfl ⟨rfl, rfl, rfl, rfl, rfl⟩ rfl rfl rfl rfl rfl (by kernel_rfl) Try.func9 (by kernel_rfl)
    (of_decide_eq_true (by kernel_rfl)) (by unfold Func.isWrapper; first | (rw [if_pos (by decide +kernel)]; kernel_rfl) | (rw [if_neg (by decide +kernel)]; exact ⟨rfl, rfl⟩))
    (fun os started H enc _ => stitchesKnown_lifted os started H enc)
theorem stitchesKnown_proved : Rows.StitchesKnownSaid := stitchesKnown_over
#print axioms stitchesKnown_proved
end Go.Proofs.Ytblmoikhfmkfnaa
