/- The arguments of the laws of stitches, read as data. -/
import Derived.Test.YtblmoikhfmkfnaaP4
import Derived.Test.YtblmoikhfmkfnaaS1
namespace Go.Proofs.Ytblmoikhfmkfnaa
set_option linter.unusedSimpArgs false
set_option linter.unusedVariables false
open Go.RowKit Go
theorem stitch_has {n : Nat} {x : D} (h0 : has lay (n + 2) 24 x) : ∃ k y a b f, x = stD k y a b f ∧ 0 ≤ k ∧ 0 ≤ y := by
  obtain ⟨parts, rfl, h⟩ := has_struct (fs := [(0, 22), (1, 5), (2, 3), (3, 3), (4, 4)]) (by kernel_rfl) h0
  obtain ⟨a, _, rfl, h1, h⟩ := hasFs_cons h
  obtain ⟨b, _, rfl, h2, h⟩ := hasFs_cons h
  obtain ⟨c, _, rfl, h3, h⟩ := hasFs_cons h
  obtain ⟨d, _, rfl, h4, h⟩ := hasFs_cons h
  obtain ⟨e, _, rfl, h5, h⟩ := hasFs_cons h
  obtain rfl := hasFs_nil h
  obtain ⟨k, rfl, hk, _⟩ := has_int (k := .u8) (by kernel_rfl) h1
  obtain ⟨y, rfl, hy, _⟩ := has_int (k := .u8) (by kernel_rfl) h2
  obtain ⟨i, rfl, _, _⟩ := has_int (k := .i64) (by kernel_rfl) h3
  obtain ⟨j, rfl, _, _⟩ := has_int (k := .i64) (by kernel_rfl) h4
  obtain ⟨g, rfl⟩ := has_bool (by kernel_rfl) h5
  exact ⟨k, y, i, j, g, rfl, hk, hy⟩
theorem list_map {α : Type} {f : α → D} {p : D → Prop} (hp : ∀ x, p x → ∃ y, x = f y) : ∀ (xs : List D), (∀ x, x ∈ xs → p x) → ∃ ys : List α, xs = ys.map f
  | [], _ => ⟨[], rfl⟩
  | x :: xs, h => by
    obtain ⟨y, rfl⟩ := hp x (h x (by simp))
    obtain ⟨ys, rfl⟩ := list_map hp xs (fun z hz => h z (by simp [hz]))
    exact ⟨y :: ys, rfl⟩
theorem ints_has {n : Nat} {x : D} (h0 : has lay (n + 2) 25 x) : ∃ l : List Int, x = .sl 1 false (l.map (.int .i64)) := by
  obtain ⟨xs, rfl, _, h⟩ := has_sl (e := 3) (es := 1) (by kernel_rfl) (by kernel_rfl) h0
  obtain ⟨l, rfl⟩ := list_map (f := D.int .i64) (fun x hx => by obtain ⟨m, rfl, _⟩ := has_int (k := .i64) (by kernel_rfl) hx; exact ⟨m, rfl⟩) xs h
  exact ⟨l, rfl⟩
end Go.Proofs.Ytblmoikhfmkfnaa
