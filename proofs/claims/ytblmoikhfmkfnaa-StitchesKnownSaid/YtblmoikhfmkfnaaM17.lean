/- The abstract machine, 17: the types table, read from the program and checked. -/
import Derived.Test.YtblmoikhfmkfnaaM16
namespace Go.Proofs.Ytblmoikhfmkfnaa
set_option linter.unusedSimpArgs false
set_option linter.unusedVariables false
open Go.RowKit Go

/-- a type's zero cell and its reading -/
def dzero : D → Value → Bool
  | .int k n, .int k' n' => decide (k = k') && decide (n = n')
  | .bool b, .bool b' => b == b'
  | .str [], .string s => s.data.toList.isEmpty
  | .sc .nilFunc, .nilFunc => true
  | .sc .nilIface, .nilIface => true
  | .sc (.pointer none), .pointer none => true
  | .sc (.map none), .map none => true
  | .sc (.chan none), .chan none => true
  | .sl _ _ [], .slice none 0 0 => true
  | _, _ => false
theorem dzero_ok {d : D} {v : Value} (h : dzero d v = true) : v = dstat d ∧ dstatic d = true := by
  unfold dzero at h
  split at h
  · simp only [Bool.and_eq_true, decide_eq_true_eq] at h; obtain ⟨rfl, rfl⟩ := h; exact ⟨rfl, rfl⟩
  · have h := eq_of_beq h
    subst h; exact ⟨rfl, rfl⟩
  · rename_i s
    refine ⟨?_, rfl⟩
    have h2 : s.data.toList = [] := by simpa using h
    show Value.string s = Value.string ⟨([] : List UInt8).toArray⟩
    congr 1
    cases s with
    | mk d => exact congrArg _ (Array.ext' h2)
  all_goals first | exact ⟨rfl, rfl⟩ | cases h
def dzeros : List D → List Value → Bool
  | [], [] => true
  | d :: ds, v :: vs => dzero d v && dzeros ds vs
  | _, _ => false
theorem dzeros_ok : ∀ {ds : List D} {vs : List Value}, dzeros ds vs = true → vs = ds.map dstat ∧ ∀ x, x ∈ ds → dstatic x = true
  | [], [], _ => ⟨rfl, fun _ h => by simp at h⟩
  | [], _ :: _, h => by simp [dzeros] at h
  | _ :: _, [], h => by simp [dzeros] at h
  | d :: ds, v :: vs, h => by
    simp only [dzeros, Bool.and_eq_true] at h
    obtain ⟨h1, h2⟩ := dzero_ok h.1
    obtain ⟨h3, h4⟩ := dzeros_ok h.2
    refine ⟨by simp [h1, h3], fun x hx => ?_⟩
    rcases List.mem_cons.1 hx with rfl | hx
    · exact h2
    · exact h4 x hx
def tdOkB : TD → TypeDesc → Bool
  | .bool, .bool => true
  | .int k, .int k' => decide (k = k')
  | .str, .string => true
  | .sl e, .slice e' => e == e'
  | .struct fs, .struct fields => fields.toList.map (fun f => (f.offset, f.type)) == fs
  | .arr n e, .array n' e' => n == n' && e == e'
  | .other, .struct _ => false
  | .other, .array _ _ => false
  | .other, _ => true
  | _, _ => false
theorem tdOkB_ok {t : TD} {d : TypeDesc} : tdOkB t d = true → tdOk t d := by
  cases t with
  | other => cases d <;> intro h <;> first | exact trivial | cases h
  | struct fs => cases d <;> intro h <;> first | exact ⟨_, rfl, eq_of_beq h⟩ | cases h
  | int k =>
    cases d <;> intro h <;> first
      | (have h2 := of_decide_eq_true h; subst h2; rfl)
      | cases h
  | sl e =>
    cases d <;> intro h <;> first
      | (have h2 := eq_of_beq h; subst h2; rfl)
      | cases h
  | arr n e =>
    cases d <;> intro h <;> first
      | (have h2 := (Bool.and_eq_true _ _).mp h; have h3 := eq_of_beq h2.1; have h4 := eq_of_beq h2.2; subst h3; subst h4; rfl)
      | cases h
  | _ => cases d <;> intro h <;> first | rfl | cases h
def isAggV : Value → Bool
  | .agg _ => true
  | _ => false
def rowCheck (P : Program) (t : Nat) (r : Row) : Bool :=
  (match P.info? t with
    | some i => i.size == r.size && i.bytes == r.bytes && (match i.zero with
      | some z => dzeros r.zero z.cells.toList && isAggV z == r.agg
      | none => false)
    | none => false) &&
  (match P.underlying t with
    | some d => tdOkB r.td d && (match d with
      | .struct fields => (fields.toList.mapM (fun f => (P.info? f.type).map fun i => (f.offset, i.size))).isSome && (!r.eq || fields.toList.all fun f => !(f.name == "_"))
      | .array _ e => (P.info? e).isSome
      | _ => true)
    | none => false) &&
  r.agg == tdAgg r.td && r.zero.length == r.size && (r.agg || r.size == 1) &&
  (!r.eq || (!P.stoodInHeld t && !P.eqGuardType P.depth t))
theorem rowCheck_ok {P : Program} {t : Nat} {r : Row} (h : rowCheck P t r = true) : RowOk P t r := by
  unfold rowCheck at h
  simp only [Bool.and_eq_true] at h
  obtain ⟨⟨⟨⟨⟨h1, h2⟩, h3⟩, h4⟩, h5⟩, h6⟩ := h
  obtain ⟨i, hi, hs, hb, z, hz, hzs, ha⟩ : ∃ i, P.info? t = some i ∧ i.size = r.size ∧ i.bytes = r.bytes ∧ ∃ z, i.zero = some z ∧ dzeros r.zero z.cells.toList = true ∧ isAggV z = r.agg := by
    split at h1
    · rename_i i hi
      simp only [Bool.and_eq_true, beq_iff_eq] at h1
      obtain ⟨⟨a, b⟩, c⟩ := h1
      split at c
      · rename_i z hz
        simp only [Bool.and_eq_true, beq_iff_eq] at c
        exact ⟨i, hi, a, b, z, hz, c.1, c.2⟩
      · cases c
    · cases h1
  obtain ⟨z1, z2⟩ := dzeros_ok hzs
  obtain ⟨d, hd, ht, h7⟩ : ∃ d, P.underlying t = some d ∧ tdOkB r.td d = true ∧ (match d with
      | .struct fields => (fields.toList.mapM (fun f => (P.info? f.type).map fun i => (f.offset, i.size))).isSome && (!r.eq || fields.toList.all fun f => !(f.name == "_"))
      | .array _ e => (P.info? e).isSome
      | _ => true) = true := by
    split at h2
    · rename_i d hd
      simp only [Bool.and_eq_true] at h2
      exact ⟨d, hd, h2.1, h2.2⟩
    · cases h2
  refine ⟨⟨i, hi, hs, hb, z, hz, z1, ?_⟩, ⟨d, hd, tdOkB_ok ht⟩, by simpa using h3, z2, by simpa using h4, fun hh => by simpa [hh] using h5, fun fields hf => ?_, fun n e hf => ?_, fun he => ?_⟩
  · rw [← ha]
    cases z <;> simp [isAggV]
  · rw [hd] at hf
    cases hf
    simp only [Bool.and_eq_true] at h7
    exact h7.1
  · rw [hd] at hf
    cases hf
    exact h7
  · simp only [he, Bool.not_true, Bool.false_or, Bool.and_eq_true, Bool.not_eq_true'] at h6
    refine ⟨h6.1, h6.2, fun fields hf f hm hn => ?_⟩
    rw [hd] at hf
    cases hf
    simp only [Bool.and_eq_true, he, Bool.not_true, Bool.false_or, List.all_eq_true] at h7
    have := h7.2 f hm
    simp [hn] at this
def layCheck (P : Program) : Nat → List (Option Row) → Bool
  | _, [] => true
  | t, none :: L => layCheck P (t + 1) L
  | t, some r :: L => rowCheck P t r && layCheck P (t + 1) L
theorem layCheck_from {P : Program} : ∀ (L : List (Option Row)) (t : Nat), layCheck P t L = true → ∀ (i : Nat) r, rowAt L i = some r → RowOk P (t + i) r
  | r :: L, t, h, 0, r', hi => by
    simp only [rowAt] at hi
    subst hi
    simp only [layCheck, Bool.and_eq_true] at h
    exact rowCheck_ok h.1
  | r :: L, t, h, i + 1, r', hi => by
    have h2 : layCheck P (t + 1) L = true := by
      cases r with
      | none => simpa [layCheck] using h
      | some r => simp only [layCheck, Bool.and_eq_true] at h; exact h.2
    have := layCheck_from L (t + 1) h2 i r' hi
    rw [show t + (i + 1) = t + 1 + i by omega]; exact this
  | [], _, _, i, r', hi => by simp [rowAt] at hi
theorem layCheck_ok {P : Program} {L : List (Option Row)} (h : layCheck P 0 L = true) : LayOk P L := fun t r hi => by
  have := layCheck_from L 0 h t r hi
  rwa [Nat.zero_add] at this
end Go.Proofs.Ytblmoikhfmkfnaa
