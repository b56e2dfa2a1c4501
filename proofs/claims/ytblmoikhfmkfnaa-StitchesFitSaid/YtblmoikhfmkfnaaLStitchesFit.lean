/- The law StitchesFit holds: for every input it returns true, and its arguments read afterwards as before. No condition. -/
import Derived.Test.YtblmoikhfmkfnaaArg12K
import Derived.Test.YtblmoikhfmkfnaaS12
namespace Go.Proofs.Ytblmoikhfmkfnaa
set_option linter.unusedSimpArgs false
set_option linter.unusedVariables false
open Go.ChangeShapes Go.WideShapes Go.ChangeAt Go.RowKit Go
set_option maxRecDepth 100000 in
theorem stitchesFit_lifted (os : Os) (started : os.Started) (H : Type) (enc : TypeId × Value → H) :
    ReturnsInHanded {} Try.checked os 4 .any (Rows.stitchesFitSpec.pre6 enc Try.prog Try.f4 Rows.stitchesFitRow.domain false) (Rows.stitchesFitSpec.post enc Try.prog Try.f4 false true false false) :=
  law_lifted (C := Try.checked) (n := 8) lay_ok own_ok started (by kernel_rfl) Try.func4
    (ChangeSpec.witness6 (enc := enc) (C := Try.checked) false ⟨#[], #[.agg #[.int .u8 0, .int .u8 0, .int .u8 0, .bool false], .agg #[.int .u8 0, .int .u8 0, .int .u8 0, .int .u8 0]], []⟩ 8 (by kernel_rfl) (by kernel_rfl) (by kernel_rfl) (by kernel_rfl))
    laid_ok (parOk_1 (P := Try.prog) (L := lay) (n := 8) (by kernel_rfl)) (parOk_2 (P := Try.prog) (by kernel_rfl)) rfl rfl (by kernel_rfl)
    (fun ds h => by match ds, h with | [d0, d1], _ => rfl)
    fun xs h => by
      match xs, h with
      | [x, z], h =>
        obtain ⟨k, y, a, f, rfl, hk, hy, ha⟩ := k_has h.1
        obtain ⟨a0, a1, a2, a3, rfl, g0, g1, g2, g3⟩ := l4_has h.2.1
        exact lawFit_spec k y a f a0 a1 a2 a3 hk hy ha g0 g1 g2 g3
theorem stitchesFit_over : Rows.stitchesFitRow.holds Try.pinned (OpenSpec.ofChange Rows.stitchesFitSpec) :=
  OpenClaim.holds_of_wide 4 Try.f4 rfl rfl rfl rfl rfl rfl rfl ⟨rfl, rfl, rfl, rfl, rfl⟩ rfl rfl rfl rfl rfl (by kernel_rfl) Try.func4 (by kernel_rfl)
    (of_decide_eq_true (by kernel_rfl)) (by unfold Func.isWrapper; first | (rw [if_pos (by decide +kernel)]; kernel_rfl) | (rw [if_neg (by decide +kernel)]; exact ⟨rfl, rfl⟩))
    (fun os started H enc _ => stitchesFit_lifted os started H enc)
theorem stitchesFit_proved : Rows.StitchesFitSaid := stitchesFit_over
#print axioms stitchesFit_proved
end Go.Proofs.Ytblmoikhfmkfnaa
