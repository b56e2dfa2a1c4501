/- The abstract machine, 3: the operations that leave memory alone do what they say. -/
import Derived.Test.YtblmoikhfmkfnaaM2
namespace Go.Proofs.Ytblmoikhfmkfnaa
set_option linter.unusedSimpArgs false
set_option linter.unusedVariables false
open Go.RowKit Go

/-! ### The types table -/
def dstat : D → Value
  | .int k n => .int k n
  | .bool b => .bool b
  | .str l => .string ⟨l.toArray⟩
  | .sc v => v
  | .sl _ _ _ => .slice none 0 0
  | .agg _ => undef
/-- a datum that reads the same in every world -/
def dstatic : D → Bool
  | .int _ _ => true
  | .bool _ => true
  | .str _ => true
  | .sc v => one v
  | .sl _ _ [] => true
  | _ => false
def tdOk : TD → TypeDesc → Prop
  | .bool, d => d = .bool
  | .int k, d => d = .int k
  | .str, d => d = .string
  | .sl e, d => d = .slice e
  | .struct fs, d => ∃ fields, d = .struct fields ∧ fields.toList.map (fun f => (f.offset, f.type)) = fs
  | .arr n e, d => d = .array n e
  | .other, d => (match d with | .struct _ => False | .array _ _ => False | _ => True)
def tdAgg : TD → Bool
  | .struct _ => true
  | .arr _ _ => true
  | _ => false
structure RowOk (P : Program) (t : Nat) (r : Row) : Prop where
  info : ∃ i, P.info? t = some i ∧ i.size = r.size ∧ i.bytes = r.bytes ∧ ∃ z, i.zero = some z ∧ z.cells.toList = r.zero.map dstat ∧ ((∃ xs, z = .agg xs) ↔ r.agg = true)
  und : ∃ d, P.underlying t = some d ∧ tdOk r.td d
  agg : r.agg = tdAgg r.td
  zero : ∀ x, x ∈ r.zero → dstatic x = true
  zlen : r.zero.length = r.size
  nagg : r.agg = false → r.size = 1
  places : ∀ fields, P.underlying t = some (.struct fields) → (fields.toList.mapM (fun f => (P.info? f.type).map fun i => (f.offset, i.size))).isSome = true
  arr : ∀ n e, P.underlying t = some (.array n e) → (P.info? e).isSome = true
  eqs : r.eq = true → P.stoodInHeld t = false ∧ P.eqGuardType P.depth t = false ∧ ∀ fields, P.underlying t = some (.struct fields) → ∀ f, f ∈ fields.toList → f.name ≠ "_"
def LayOk (P : Program) (L : List (Option Row)) : Prop := ∀ (t : Nat) (r : Row), (rowAt L t) = some r → RowOk P t r

section
variable {P : Program} {t : Nat} {r : Row} (h : RowOk P t r) (w : World)
include h
theorem RowOk.run_und : ∃ d, (underlying t).run P w = .ok d w ∧ tdOk r.td d := by
  obtain ⟨d, hd, ht⟩ := h.und
  exact ⟨d, run_underlying hd w, ht⟩
theorem RowOk.run_size : (sizeOf t).run P w = .ok r.size w := by
  obtain ⟨i, hi, hs, _⟩ := h.info
  simp [sizeOf, typeInfo, Sem.run_bind, hi, hs]
theorem RowOk.run_isAgg : (isAgg t).run P w = .ok r.agg w := by
  obtain ⟨d, hd, ht⟩ := h.und
  unfold isAgg
  rw [Sem.run_bind, run_underlying hd w]
  simp only [Result.andThen_ok]
  rw [h.agg]
  cases hr : r.td <;> simp only [hr, tdOk] at ht
  all_goals first
    | (subst ht; rfl)
    | (obtain ⟨f, rfl, _⟩ := ht; rfl)
    | (cases d <;> first | rfl | exact ht.elim)
theorem RowOk.run_zero : ∃ z, (zeroValue t).run P w = .ok z w ∧ z.cells.toList = r.zero.map dstat ∧ ((∃ xs, z = .agg xs) ↔ r.agg = true) := by
  obtain ⟨i, hi, _, _, z, hz, h1, h2⟩ := h.info
  exact ⟨z, by simp [zeroValue, typeInfo, Sem.run_bind, hi, hz], h1, h2⟩
end

/-! ### Lists of readings, place by place -/
section
variable {w : World} {S : Nat → Prop} {φ : Phi}
theorem D.repL_iff : ∀ (ds : List D) (xs : List Value), D.repL w S ds xs ↔ ds.length = xs.length ∧ ∀ (i : Nat) d, ds[i]? = some d → ∃ y, xs[i]? = some y ∧ D.rep w S d y ∧ one y = true
  | [], xs => by cases xs <;> simp [D.repL]
  | d :: ds, [] => by simp [D.repL]
  | d :: ds, x :: xs => by
    simp only [D.repL, List.cons.injEq, List.length_cons, Nat.add_right_cancel_iff]
    constructor
    · rintro ⟨y, ys, ⟨rfl, rfl⟩, h1, h2, h3⟩
      obtain ⟨h4, h5⟩ := (D.repL_iff ds _).1 h3
      refine ⟨h4, fun i z hi => ?_⟩
      cases i with
      | zero => simp only [List.getElem?_cons_zero, Option.some.injEq] at hi; subst hi; exact ⟨_, rfl, h1, h2⟩
      | succ i => exact h5 i z (by simpa using hi)
    · rintro ⟨h4, h5⟩
      obtain ⟨y, hy, h1, h2⟩ := h5 0 d rfl
      simp only [List.getElem?_cons_zero, Option.some.injEq] at hy
      subst hy
      exact ⟨_, _, ⟨rfl, rfl⟩, h1, h2, (D.repL_iff ds xs).2 ⟨h4, fun i z hi => by simpa using h5 (i + 1) z (by simpa using hi)⟩⟩
theorem V.repL_iff : ∀ (ds : List V) (xs : List Value), V.repL w S φ ds xs ↔ ds.length = xs.length ∧ ∀ (i : Nat) e, ds[i]? = some e → ∃ y, xs[i]? = some y ∧ V.rep w S φ e y ∧ one y = true
  | [], xs => by cases xs <;> simp [V.repL]
  | e :: ds, [] => by simp [V.repL]
  | e :: ds, x :: xs => by
    simp only [V.repL, List.cons.injEq, List.length_cons, Nat.add_right_cancel_iff]
    constructor
    · rintro ⟨y, ys, ⟨rfl, rfl⟩, h1, h2, h3⟩
      obtain ⟨h4, h5⟩ := (V.repL_iff ds _).1 h3
      refine ⟨h4, fun i z hi => ?_⟩
      cases i with
      | zero => simp only [List.getElem?_cons_zero, Option.some.injEq] at hi; subst hi; exact ⟨_, rfl, h1, h2⟩
      | succ i => exact h5 i z (by simpa using hi)
    · rintro ⟨h4, h5⟩
      obtain ⟨y, hy, h1, h2⟩ := h5 0 e rfl
      simp only [List.getElem?_cons_zero, Option.some.injEq] at hy
      subst hy
      exact ⟨_, _, ⟨rfl, rfl⟩, h1, h2, (V.repL_iff ds xs).2 ⟨h4, fun i z hi => by simpa using h5 (i + 1) z (by simpa using hi)⟩⟩
theorem V.repT_iff : ∀ (ds : List V) (xs : List Value), V.repT w S φ ds xs ↔ ds.length = xs.length ∧ ∀ (i : Nat) e, ds[i]? = some e → ∃ y, xs[i]? = some y ∧ V.rep w S φ e y
  | [], xs => by cases xs <;> simp [V.repT]
  | e :: ds, [] => by simp [V.repT]
  | e :: ds, x :: xs => by
    simp only [V.repT, List.cons.injEq, List.length_cons, Nat.add_right_cancel_iff]
    constructor
    · rintro ⟨y, ys, ⟨rfl, rfl⟩, h1, h3⟩
      obtain ⟨h4, h5⟩ := (V.repT_iff ds _).1 h3
      refine ⟨h4, fun i z hi => ?_⟩
      cases i with
      | zero => simp only [List.getElem?_cons_zero, Option.some.injEq] at hi; subst hi; exact ⟨_, rfl, h1⟩
      | succ i => exact h5 i z (by simpa using hi)
    · rintro ⟨h4, h5⟩
      obtain ⟨y, hy, h1⟩ := h5 0 e rfl
      simp only [List.getElem?_cons_zero, Option.some.injEq] at hy
      subst hy
      exact ⟨_, _, ⟨rfl, rfl⟩, h1, (V.repT_iff ds xs).2 ⟨h4, fun i z hi => by simpa using h5 (i + 1) z (by simpa using hi)⟩⟩
theorem V.repL_mapD (ds : List D) (xs : List Value) : V.repL w S φ (ds.map .d) xs ↔ D.repL w S ds xs := by
  rw [V.repL_iff, D.repL_iff]
  simp only [List.length_map]
  refine and_congr_right fun _ => ⟨fun h i d hi => ?_, fun h i d hi => ?_⟩
  · exact h i (.d d) (by simp [hi])
  · rw [List.getElem?_map] at hi
    cases hd : ds[i]? with
    | none => simp [hd] at hi
    | some x => simp only [hd, Option.map_some, Option.some.injEq] at hi; subst hi; exact h i x hd
theorem D.repL_take {ds : List D} {xs : List Value} (n : Nat) (h : D.repL w S ds xs) : D.repL w S (ds.take n) (xs.take n) := by
  rw [D.repL_iff] at *
  refine ⟨by simp [h.1], fun i d hi => ?_⟩
  rw [List.getElem?_take] at *
  split at hi
  · rename_i hlt; simp only [hlt, if_true]; exact h.2 i d hi
  · cases hi
theorem D.repL_drop {ds : List D} {xs : List Value} (n : Nat) (h : D.repL w S ds xs) : D.repL w S (ds.drop n) (xs.drop n) := by
  rw [D.repL_iff] at *
  refine ⟨by simp [h.1], fun i d hi => ?_⟩
  rw [List.getElem?_drop] at *
  exact h.2 _ d hi
theorem V.repL_take {ds : List V} {xs : List Value} (n : Nat) (h : V.repL w S φ ds xs) : V.repL w S φ (ds.take n) (xs.take n) := by
  rw [V.repL_iff] at *
  refine ⟨by simp [h.1], fun i d hi => ?_⟩
  rw [List.getElem?_take] at *
  split at hi
  · rename_i hlt; simp only [hlt, if_true]; exact h.2 i d hi
  · cases hi
theorem V.repL_drop {ds : List V} {xs : List Value} (n : Nat) (h : V.repL w S φ ds xs) : V.repL w S φ (ds.drop n) (xs.drop n) := by
  rw [V.repL_iff] at *
  refine ⟨by simp [h.1], fun i d hi => ?_⟩
  rw [List.getElem?_drop] at *
  exact h.2 _ d hi
theorem V.repL_append {a b : List V} {xs ys : List Value} (h : V.repL w S φ a xs) (k : V.repL w S φ b ys) : V.repL w S φ (a ++ b) (xs ++ ys) := by
  induction a generalizing xs with
  | nil => simp only [V.repL] at h; subst h; exact k
  | cons z a ih =>
    obtain ⟨y, ys', rfl, h1, h2, h3⟩ := h
    exact ⟨y, ys' ++ ys, rfl, h1, h2, ih h3⟩
theorem D.repL_append {a b : List D} {xs ys : List Value} (h : D.repL w S a xs) (k : D.repL w S b ys) : D.repL w S (a ++ b) (xs ++ ys) := by
  induction a generalizing xs with
  | nil => simp only [D.repL] at h; subst h; exact k
  | cons z a ih =>
    obtain ⟨y, ys', rfl, h1, h2, h3⟩ := h
    exact ⟨y, ys' ++ ys, rfl, h1, h2, ih h3⟩
theorem V.repL_length {ds : List V} {xs : List Value} (h : V.repL w S φ ds xs) : ds.length = xs.length := ((V.repL_iff ds xs).1 h).1
theorem D.repL_length {ds : List D} {xs : List Value} (h : D.repL w S ds xs) : ds.length = xs.length := ((D.repL_iff ds xs).1 h).1
theorem allD_eq : ∀ {cs : List V} {ds : List D}, allD cs = some ds → cs = ds.map .d
  | [], _, h => by simp only [allD, Option.some.injEq] at h; subst h; rfl
  | .d x :: r, ds, h => by
    simp only [allD] at h
    split at h
    · rename_i l hl
      simp only [Option.some.injEq] at h
      subst h
      rw [allD_eq hl]; rfl
    · cases h
  | .agg _ :: _, _, h => by simp [allD] at h
  | .tup _ :: _, _, h => by simp [allD] at h
  | .ptr _ _ :: _, _, h => by simp [allD] at h
  | .own _ _ _ _ _ :: _, _, h => by simp [allD] at h
  | .aptr _ _ _ _ :: _, _, h => by simp [allD] at h
  | .iptr _ _ _ _ :: _, _, h => by simp [allD] at h
  | .fn _ _ :: _, _, h => by simp [allD] at h
  | .undef :: _, _, h => by simp [allD] at h
theorem vagg_rep {cs : List V} {xs : List Value} (h : V.repL w S φ cs xs) : V.rep w S φ (vagg cs) (.agg xs.toArray) := by
  unfold vagg
  split
  · rename_i ds hd
    rw [allD_eq hd, V.repL_mapD] at h
    exact ⟨xs, rfl, h⟩
  · exact ⟨xs, rfl, h⟩
theorem D.rep_one {x : D} {v : Value} (h : D.rep w S x v) (hx : isOne x = true) : one v = true := by
  cases x with
  | int k n => simp only [D.rep] at h; subst h; rfl
  | bool b => simp only [D.rep] at h; subst h; rfl
  | str l => simp only [D.rep] at h; subst h; rfl
  | sc u => exact h.1 ▸ h.2
  | agg cs => cases hx
  | sl es c xs => rcases h with ⟨_, _, rfl⟩ | ⟨b, o, cap, rfl, _⟩ <;> rfl
theorem vone_one {x : V} {v : Value} (h : V.rep w S φ x v) (hx : vone x = true) : one v = true := by
  cases x with
  | d y =>
    refine D.rep_one (x := y) h ?_
    cases y <;> first | rfl | exact hx
  | agg cs => cases hx
  | tup cs => cases hx
  | ptr i o => obtain ⟨b, o', _, rfl⟩ := h; rfl
  | own => rcases h with ⟨_, _, a, rfl, _⟩ | ⟨b, o', cap, cs, T, fz, _, rfl, _⟩ <;> rfl
  | aptr => obtain ⟨b, o', _, rfl⟩ := h; rfl
  | iptr => obtain ⟨b, o', rfl, _⟩ := h; rfl
  | fn f cap => obtain ⟨xs, rfl, _⟩ := h; rfl
  | undef => cases hx
theorem cells_one {v : Value} (h : one v = true) : v.cells = #[v] := by cases v <;> first | rfl | cases h
theorem vcells_rep {g : Bool} {x : V} {v : Value} {cs : List V} (hc : vcells g x = some cs) (h : V.rep w S φ x v) : V.repL w S φ cs v.cells.toList ∧ (g = true → ∃ xs, v = .agg xs) := by
  unfold vcells at hc
  cases g with
  | true =>
    simp only at hc
    split at hc
    · simp only [Option.some.injEq] at hc
      subst hc
      obtain ⟨xs, rfl, h⟩ := h
      exact ⟨(V.repL_mapD _ _).2 h, fun _ => ⟨_, rfl⟩⟩
    · simp only [Option.some.injEq] at hc
      subst hc
      obtain ⟨xs, rfl, h⟩ := h
      exact ⟨h, fun _ => ⟨_, rfl⟩⟩
    · cases hc
  | false =>
    simp only at hc
    split at hc
    · rename_i h1
      simp only [Option.some.injEq] at hc
      subst hc
      have ho := vone_one h h1
      rw [cells_one ho]
      exact ⟨⟨v, [], rfl, h, ho, rfl⟩, fun h => by cases h⟩
    · cases hc
theorem dstatic_rep {x : D} (h : dstatic x = true) : D.rep w S x (dstat x) ∧ one (dstat x) = true := by
  cases x with
  | int => exact ⟨rfl, rfl⟩
  | bool => exact ⟨rfl, rfl⟩
  | str => exact ⟨rfl, rfl⟩
  | sc v => exact ⟨⟨rfl, h⟩, h⟩
  | agg cs => cases h
  | sl es c xs =>
    cases xs with
    | nil => exact ⟨.inl ⟨rfl, none, rfl⟩, rfl⟩
    | cons a b => cases h
theorem zeros_rep : ∀ {zs : List D}, (∀ x, x ∈ zs → dstatic x = true) → D.repL w S zs (zs.map dstat)
  | [], _ => rfl
  | z :: zs, h => ⟨_, _, rfl, (dstatic_rep (h z (by simp))).1, (dstatic_rep (w := w) (S := S) (h z (by simp))).2, zeros_rep fun x hx => h x (by simp [hx])⟩
end
end Go.Proofs.Ytblmoikhfmkfnaa
