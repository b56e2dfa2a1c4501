/- What stitches mean, in plain Lean: no program here. -/
import Derived.Below
namespace Go.Proofs.Ytblmoikhfmkfnaa
set_option linter.unusedSimpArgs false
set_option linter.unusedVariables false

structure St where
  (k y a b : Int) (f : Bool)
  deriving DecidableEq
def St.Ok (s : St) : Prop := 1 ≤ s.k ∧ s.k ≤ 8 ∧ 1 ≤ s.y ∧ s.y ≤ 6 ∧ ((s.k = 8 ∧ 1 ≤ s.a ∧ 1 ≤ s.b ∧ s.a + s.b ≤ 4) ∨ (s.k ≠ 8 ∧ s.a = 0 ∧ s.b = 0 ∧ s.f = false))
instance (s : St) : Decidable s.Ok := by unfold St.Ok; exact inferInstance
/-- how many slots a stitch needs; how many it makes -/
def St.needs (s : St) : Int := if s.Ok then (if s.k = 8 then s.a + s.b else if s.k = 3 then 0 else if s.k = 4 ∨ s.k = 5 then 2 else 1) else 0
def St.makes (s : St) : Int := if s.Ok then (if s.k = 8 then s.a + s.b else 1) else 0
def St.mirror (s : St) : St := if s.k = 8 then ⟨s.k, s.y, s.b, s.a, !s.f⟩ else s
def St.back (s : St) : Bool := decide (s.Ok ∧ (s.k = 2 ∨ s.k = 5))
def sym (k : Int) : UInt8 := if k = 1 then 107 else if k = 2 then 112 else if k = 3 then 111 else if k = 4 then 47 else if k = 5 then 118 else if k = 6 then 116 else if k = 7 then 115 else 99
def dig (n : Int) : UInt8 := UInt8.ofNat (48 + n.toNat)
/-- the text of a stitch -/
def St.text (s : St) : List UInt8 :=
  if s.Ok then sym s.k :: ((if s.k = 8 then [dig s.a, dig s.b, if s.f then 70 else 66] else []) ++ (if s.y = 1 then [] else [dig s.y])) else []
theorem St.needs_ok {s : St} (h : s.Ok) : s.needs = if s.k = 8 then s.a + s.b else if s.k = 3 then 0 else if s.k = 4 ∨ s.k = 5 then 2 else 1 := by simp [needs, h]
theorem St.needs_bd (s : St) : 0 ≤ s.needs ∧ s.needs ≤ 4 := by
  by_cases h : s.Ok
  · simp only [needs, h, if_true]; unfold Ok at h
    by_cases h8 : s.k = 8
    · simp only [h8, if_true]; omega
    · simp only [h8, if_false]; split <;> (try split) <;> omega
  · simp [needs, h]
theorem St.makes_bd (s : St) : 0 ≤ s.makes ∧ s.makes ≤ 4 := by
  by_cases h : s.Ok
  · simp only [makes, h, if_true]; unfold Ok at h
    split <;> omega
  · simp [makes, h]
end Go.Proofs.Ytblmoikhfmkfnaa
