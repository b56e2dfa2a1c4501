/- The law StitchesCheck, handed in. -/
import Derived.Test.YtblmoikhfmkfnaaP3
import Derived.Test.YtblmoikhfmkfnaaS2
namespace Go.Proofs.Ytblmoikhfmkfnaa
open Go.ChangeShapes Go.WideShapes Go.ChangeAt Go.RowKit Go

theorem own_ok : ownKnob Try.prog.godebug = none := by kernel_rfl
theorem laid_ok : laidOutB Try.prog = true := by kernel_rfl
def parOk (P : Program) (L : List (Option Row)) (n : Nat) (ts : List Nat) : Bool := ts.all fun t => P.readableRec t && decide (t < P.types.size) && sup L n t
theorem parOk_1 {P : Program} {L : List (Option Row)} {n : Nat} {ts : List Nat} (h : parOk P L n ts = true) : ∀ t ∈ ts, P.readableRec t = true ∧ t < P.types.size := fun t ht => by
  have := List.all_eq_true.1 h t ht
  simp only [Bool.and_eq_true, decide_eq_true_eq] at this
  exact this.1
theorem parOk_2 {P : Program} {L : List (Option Row)} {n : Nat} {ts : List Nat} (h : parOk P L n ts = true) : ∀ t, t ∈ ts → sup L n t = true := fun t ht => by
  have := List.all_eq_true.1 h t ht
  simp only [Bool.and_eq_true, decide_eq_true_eq] at this
  exact this.2
theorem stitch_has {n : Nat} {x : D} (h0 : has lay (n + 2) 24 x) : ∃ k y a b f, x = stD k y a b f ∧ 0 ≤ k ∧ 0 ≤ y := by
  obtain ⟨parts, rfl, h⟩ := has_struct (fs := [(0, 22), (1, 5), (2, 3), (3, 3), (4, 4)]) (by kernel_rfl) h0
  obtain ⟨a, _, rfl, h1, h⟩ := hasFs_cons h
  obtain ⟨b, _, rfl, h2, h⟩ := hasFs_cons h
  obtain ⟨c, _, rfl, h3, h⟩ := hasFs_cons h
  obtain ⟨d, _, rfl, h4, h⟩ := hasFs_cons h
  obtain ⟨e, _, rfl, h5, h⟩ := hasFs_cons h
  obtain rfl := hasFs_nil h
  obtain ⟨k, rfl, hk, _⟩ := has_int (k := .u8) (by kernel_rfl) h1
  obtain ⟨y, rfl, hy, _⟩ := has_int (k := .u8) (by kernel_rfl) h2
  obtain ⟨i, rfl, _, _⟩ := has_int (k := .i64) (by kernel_rfl) h3
  obtain ⟨j, rfl, _, _⟩ := has_int (k := .i64) (by kernel_rfl) h4
  obtain ⟨g, rfl⟩ := has_bool (by kernel_rfl) h5
  exact ⟨k, y, i, j, g, rfl, hk, hy⟩
set_option maxRecDepth 100000 in
theorem check_lifted (os : Os) (started : os.Started) (H : Type) (enc : TypeId × Value → H) :
    ReturnsInHanded {} Try.checked os 8 .any (Rows.stitchesCheckSpec.pre6 enc Try.prog Try.f8 Rows.stitchesCheckRow.domain false) (Rows.stitchesCheckSpec.post enc Try.prog Try.f8 false true false false) :=
  law_lifted (C := Try.checked) (n := 8) lay_ok own_ok started (by kernel_rfl) Try.func8
    (ChangeSpec.witness6 (enc := enc) (C := Try.checked) false ⟨#[], #[.agg #[.int .u8 0, .int .u8 0, .int .i64 0, .int .i64 0, .bool false]], []⟩ 8 (by kernel_rfl) (by kernel_rfl) (by kernel_rfl) (by kernel_rfl))
    laid_ok (parOk_1 (P := Try.prog) (L := lay) (n := 8) (by kernel_rfl)) (parOk_2 (P := Try.prog) (by kernel_rfl)) rfl rfl (by kernel_rfl)
    (fun ds h => by match ds, h with | [d], _ => rfl)
    fun xs h => by
      match xs, h with
      | [x], h =>
        obtain ⟨k, y, a, b, f, rfl, hk, hy⟩ := stitch_has h.1
        exact lawCheck_spec k y a b f hk hy
theorem check_over : Rows.stitchesCheckRow.holds Try.pinned (OpenSpec.ofChange Rows.stitchesCheckSpec) :=
  OpenClaim.holds_of_wide 8 Try.f8 rfl rfl rfl rfl rfl rfl rfl ⟨rfl, rfl, rfl, rfl, rfl⟩ rfl rfl rfl rfl rfl (by kernel_rfl) Try.func8 (by kernel_rfl)
    (of_decide_eq_true (by kernel_rfl)) (by unfold Func.isWrapper; first | (rw [if_pos (by decide +kernel)]; kernel_rfl) | (rw [if_neg (by decide +kernel)]; exact ⟨rfl, rfl⟩))
    (fun os started H enc _ => check_lifted os started H enc)
theorem check_proved : Rows.StitchesCheckSaid := check_over
#print axioms check_proved
end Go.Proofs.Ytblmoikhfmkfnaa
