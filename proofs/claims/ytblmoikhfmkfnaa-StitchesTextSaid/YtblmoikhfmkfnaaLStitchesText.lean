/- The law StitchesText holds: for every input it returns true, and its arguments read afterwards as before. No condition. -/
import Derived.Test.YtblmoikhfmkfnaaArg12
import Derived.Test.YtblmoikhfmkfnaaS10
namespace Go.Proofs.Ytblmoikhfmkfnaa
set_option linter.unusedSimpArgs false
set_option linter.unusedVariables false
open Go.ChangeShapes Go.WideShapes Go.ChangeAt Go.RowKit Go
set_option maxRecDepth 100000 in
theorem stitchesText_lifted (os : Os) (started : os.Started) (H : Type) (enc : TypeId × Value → H) :
    ReturnsInHanded {} Try.checked os 6 .any (Rows.stitchesTextSpec.pre6 enc Try.prog Try.f6 Rows.stitchesTextRow.domain false) (Rows.stitchesTextSpec.post enc Try.prog Try.f6 false true false false) :=
  law_lifted (C := Try.checked) (n := 8) lay_ok own_ok started (by kernel_rfl) Try.func6
    (ChangeSpec.witness6 (enc := enc) (C := Try.checked) false ⟨#[], #[.agg #[.int .u8 0, .int .u8 0, .int .i64 0, .int .i64 0, .bool false], .string ⟨#[]⟩], []⟩ 8 (by kernel_rfl) (by kernel_rfl) (by kernel_rfl) (by kernel_rfl))
    laid_ok (parOk_1 (P := Try.prog) (L := lay) (n := 8) (by kernel_rfl)) (parOk_2 (P := Try.prog) (by kernel_rfl)) rfl rfl (by kernel_rfl)
    (fun ds h => by match ds, h with | [d0, d1], _ => rfl)
    fun xs h => by
      match xs, h with
      | [x, z], h =>
        obtain ⟨k, y, a, b, f, rfl, hk, hy⟩ := stitch_has h.1
        obtain ⟨l, rfl, _⟩ := has_str (by kernel_rfl) h.2.1
        exact lawText_spec k y a b f hk hy l
theorem stitchesText_over : Rows.stitchesTextRow.holds Try.pinned (OpenSpec.ofChange Rows.stitchesTextSpec) :=
  OpenClaim.holds_of_wide 6 Try.f6 rfl rfl rfl rfl rfl rfl rfl ⟨rfl, rfl, rfl, rfl, rfl⟩ rfl rfl rfl rfl rfl (by kernel_rfl) Try.func6 (by kernel_rfl)
    (of_decide_eq_true (by kernel_rfl)) (by unfold Func.isWrapper; first | (rw [if_pos (by decide +kernel)]; kernel_rfl) | (rw [if_neg (by decide +kernel)]; exact ⟨rfl, rfl⟩))
    (fun os started H enc _ => stitchesText_lifted os started H enc)
theorem stitchesText_proved : Rows.StitchesTextSaid := stitchesText_over
#print axioms stitchesText_proved
end Go.Proofs.Ytblmoikhfmkfnaa
