/- The arguments of the laws StitchesApart and StitchesFit, read as data. -/
import Derived.Test.YtblmoikhfmkfnaaArg12
import Derived.Test.YtblmoikhfmkfnaaS9
namespace Go.Proofs.Ytblmoikhfmkfnaa
set_option linter.unusedSimpArgs false
set_option linter.unusedVariables false
open Go.RowKit Go
theorem u8_has {n : Nat} {x : D} (h : has lay (n + 1) 5 x) : ∃ k : Int, x = .int .u8 k ∧ 0 ≤ k ∧ k ≤ 255 := by
  obtain ⟨k, rfl, hk, hk2⟩ := has_int (k := .u8) (by kernel_rfl) h
  exact ⟨k, rfl, hk, hk2⟩
theorem k_has {n : Nat} {x : D} (h0 : has lay (n + 2) 34 x) : ∃ k y a f, x = kD k y a f ∧ (0 ≤ k ∧ k ≤ 255) ∧ (0 ≤ y ∧ y ≤ 255) ∧ (0 ≤ a ∧ a ≤ 255) := by
  obtain ⟨parts, rfl, h⟩ := has_struct (fs := [(0, 5), (1, 5), (2, 5), (3, 4)]) (by kernel_rfl) h0
  obtain ⟨a, _, rfl, h1, h⟩ := hasFs_cons h
  obtain ⟨b, _, rfl, h2, h⟩ := hasFs_cons h
  obtain ⟨c, _, rfl, h3, h⟩ := hasFs_cons h
  obtain ⟨d, _, rfl, h4, h⟩ := hasFs_cons h
  obtain rfl := hasFs_nil h
  obtain ⟨k, rfl, hk⟩ := u8_has h1
  obtain ⟨y, rfl, hy⟩ := u8_has h2
  obtain ⟨i, rfl, hi⟩ := u8_has h3
  obtain ⟨g, rfl⟩ := has_bool (by kernel_rfl) h4
  exact ⟨k, y, i, g, rfl, hk, hy, hi⟩
theorem l4_has {n : Nat} {x : D} (h0 : has lay (n + 2) 35 x) : ∃ a b c d, x = .agg [.int .u8 a, .int .u8 b, .int .u8 c, .int .u8 d] ∧ 0 ≤ a ∧ 0 ≤ b ∧ 0 ≤ c ∧ 0 ≤ d := by
  obtain ⟨parts, rfl, hl, h⟩ := has_arr (m := 4) (e := 5) (by kernel_rfl) h0
  match parts, hl with
  | [p, q, r, s], _ =>
    obtain ⟨a, rfl, ha⟩ := u8_has (h p (by simp))
    obtain ⟨b, rfl, hb⟩ := u8_has (h q (by simp))
    obtain ⟨c, rfl, hc⟩ := u8_has (h r (by simp))
    obtain ⟨d, rfl, hd⟩ := u8_has (h s (by simp))
    exact ⟨a, b, c, d, rfl, ha.1, hb.1, hc.1, hd.1⟩
end Go.Proofs.Ytblmoikhfmkfnaa
