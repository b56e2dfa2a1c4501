/- The law StitchesApart holds: for every input it returns true, and its arguments read afterwards as before. No condition. -/
import Derived.Test.YtblmoikhfmkfnaaArg12K
import Derived.Test.YtblmoikhfmkfnaaS11
namespace Go.Proofs.Ytblmoikhfmkfnaa
set_option linter.unusedSimpArgs false
set_option linter.unusedVariables false
open Go.ChangeShapes Go.WideShapes Go.ChangeAt Go.RowKit Go
set_option maxRecDepth 100000 in
theorem stitchesApart_lifted (os : Os) (started : os.Started) (H : Type) (enc : TypeId × Value → H) :
    ReturnsInHanded {} Try.checked os 7 .any (Rows.stitchesApartSpec.pre6 enc Try.prog Try.f7 Rows.stitchesApartRow.domain false) (Rows.stitchesApartSpec.post enc Try.prog Try.f7 false true false false) :=
  law_lifted (C := Try.checked) (n := 8) lay_ok own_ok started (by kernel_rfl) Try.func7
    (ChangeSpec.witness6 (enc := enc) (C := Try.checked) false ⟨#[], #[.agg #[.int .u8 0, .int .u8 0, .int .u8 0, .bool false], .agg #[.int .u8 0, .int .u8 0, .int .u8 0, .bool false]], []⟩ 8 (by kernel_rfl) (by kernel_rfl) (by kernel_rfl) (by kernel_rfl))
    laid_ok (parOk_1 (P := Try.prog) (L := lay) (n := 8) (by kernel_rfl)) (parOk_2 (P := Try.prog) (by kernel_rfl)) rfl rfl (by kernel_rfl)
    (fun ds h => by match ds, h with | [d0, d1], _ => rfl)
    fun xs h => by
      match xs, h with
      | [x, z], h =>
        obtain ⟨k, y, a, f, rfl, hk, hy, ha⟩ := k_has h.1
        obtain ⟨k2, y2, a2, f2, rfl, hk2, hy2, ha2⟩ := k_has h.2.1
        exact lawApart_spec k y a f k2 y2 a2 f2 hk hy ha hk2 hy2 ha2
theorem stitchesApart_over : Rows.stitchesApartRow.holds Try.pinned (OpenSpec.ofChange Rows.stitchesApartSpec) :=
  OpenClaim.holds_of_wide 7 Try.f7 rfl rfl rfl rfl rfl rfl rfl ⟨rfl, rfl, rfl, rfl, rfl⟩ rfl rfl rfl rfl rfl (by kernel_rfl) Try.func7 (by kernel_rfl)
    (of_decide_eq_true (by kernel_rfl)) (by unfold Func.isWrapper; first | (rw [if_pos (by decide +kernel)]; kernel_rfl) | (rw [if_neg (by decide +kernel)]; exact ⟨rfl, rfl⟩))
    (fun os started H enc _ => stitchesApart_lifted os started H enc)
theorem stitchesApart_proved : Rows.StitchesApartSaid := stitchesApart_over
#print axioms stitchesApart_proved
end Go.Proofs.Ytblmoikhfmkfnaa
