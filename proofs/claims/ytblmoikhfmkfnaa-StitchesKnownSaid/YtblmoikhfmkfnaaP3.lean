/- From a Spec to a law: every argument is opened as a datum of its type; a law that returns true for all data of its parameters' types is handed in by one theorem. -/
import Derived.Test.YtblmoikhfmkfnaaP2
namespace Go.Proofs.Ytblmoikhfmkfnaa
set_option linter.unusedSimpArgs false
set_option linter.unusedVariables false
open Go.ChangeShapes Go.WideShapes Go.ChangeAt Go.RowKit Go

/-- data of these types -/
def hasAll (L : List (Option Row)) (n : Nat) : List Nat → List D → Prop
  | [], [] => True
  | t :: ts, x :: xs => has L n t x ∧ hasAll L n ts xs
  | _, _ => False

section
variable {L : List (Option Row)} {n t : Nat} {x : D}
theorem row_td {td : TD} (hr : (rowAt L t).map (·.td) = some td) : ∃ r, rowAt L t = some r ∧ r.td = td := by
  cases h : rowAt L t with
  | none => rw [h] at hr; cases hr
  | some r => rw [h] at hr; exact ⟨r, rfl, Option.some.inj hr⟩
theorem has_int {k : IntKind} (hr : (rowAt L t).map (·.td) = some (.int k)) (h : has L (n + 1) t x) : ∃ m, x = .int k m ∧ k.min ≤ m ∧ m ≤ k.max := by
  obtain ⟨r, hr, ht⟩ := row_td hr
  simp only [has, hr, ht] at h; exact h
theorem has_bool (hr : (rowAt L t).map (·.td) = some (.bool)) (h : has L (n + 1) t x) : ∃ b, x = .bool b := by
  obtain ⟨r, hr, ht⟩ := row_td hr
  simp only [has, hr, ht] at h; exact h
theorem has_str (hr : (rowAt L t).map (·.td) = some (.str)) (h : has L (n + 1) t x) : ∃ l : List UInt8, x = .str l ∧ l.length ≤ maxLen := by
  obtain ⟨r, hr, ht⟩ := row_td hr
  simp only [has, hr, ht] at h; exact h
theorem has_sl {e es : Nat} (hr : (rowAt L t).map (·.td) = some (.sl e)) (he : (rowAt L e).map (·.size) = some es) (h : has L (n + 1) t x) : ∃ xs, x = .sl es false xs ∧ xs.length ≤ maxLen ∧ ∀ y, y ∈ xs → has L n e y := by
  obtain ⟨r, hr, ht⟩ := row_td hr
  simp only [has, hr, ht] at h
  obtain ⟨es', xs, h1, h2, h3, h4⟩ := h
  rw [he] at h4
  simp only [Option.some.injEq] at h4
  subst h4
  exact ⟨xs, h1, h2, h3⟩
theorem has_struct {fs : List (Nat × Nat)} (hr : (rowAt L t).map (·.td) = some (.struct fs)) (h : has L (n + 1) t x) : ∃ parts : List D, x = .agg (parts.flatMap dcells) ∧ hasFs (has L n) fs parts := by
  obtain ⟨r, hr, ht⟩ := row_td hr
  simp only [has, hr, ht] at h; exact h
theorem has_arr {m e : Nat} (hr : (rowAt L t).map (·.td) = some (.arr m e)) (h : has L (n + 1) t x) : ∃ parts : List D, x = .agg (parts.flatMap dcells) ∧ parts.length = m ∧ ∀ y, y ∈ parts → has L n e y := by
  obtain ⟨r, hr, ht⟩ := row_td hr
  simp only [has, hr, ht] at h; exact h
theorem hasFs_cons {rec : Nat → D → Prop} {o : Nat} {fs : List (Nat × Nat)} {parts : List D} (h : hasFs rec ((o, t) :: fs) parts) : ∃ d ds, parts = d :: ds ∧ rec t d ∧ hasFs rec fs ds := by
  cases parts with
  | nil => exact h.elim
  | cons d ds => exact ⟨d, ds, rfl, h⟩
theorem hasFs_nil {rec : Nat → D → Prop} {parts : List D} (h : hasFs rec [] parts) : parts = [] := by
  cases parts with
  | nil => rfl
  | cons d ds => exact h.elim
end

section
variable {H : Type} {enc : TypeId × Value → H} {P : Program} {L : List (Option Row)} {w : World}
theorem arg_decode (hL : LayOk P L) {n t : Nat} {v : Value} {d : DataW H} {p : List MemPlace} {base : Nat} (hs : sup L n t = true) (hv : Value.okWide P w .any base t v)
    (h : DataW.Trod enc P w 0 (fun _ => true) true t v d p) : ∃ x : D, has L n t x ∧ D.rep w (allS w) x v := by
  obtain ⟨fuel, h⟩ := h
  obtain ⟨x, h1, h2⟩ := decode hL n t fuel _ _ hs h
  refine ⟨x, h1, ?_⟩
  cases n with
  | zero => cases h1
  | succ n =>
    simp only [sup] at hs
    split at hs
    · rename_i r hr
      obtain ⟨dsc, hd, htd⟩ := (hL t r hr).und
      simp only [has, hr] at h1
      have one1 : (∀ cs, v ≠ .agg cs) → dcells x = [x] → D.rep w (allS w) x v := fun hn he => by
        rw [he] at h2
        obtain ⟨y, ys, h3, h4, h5, h6⟩ := h2
        simp only [D.repL] at h6
        subst h6
        cases v <;> first
          | exact absurd rfl (hn _)
          | (simp only [Value.cells, List.cons.injEq, and_true] at h3; subst h3; exact h4)
      have notAgg : (∀ fs, dsc ≠ .struct fs) → (∀ m e, dsc ≠ .array m e) → ∀ cs, v ≠ .agg cs := fun k1 k2 cs he => by
        subst he
        unfold Value.okWide at hv
        rw [hd] at hv
        split at hv
        · rename_i hh; cases hh; exact k1 _ rfl
        · rename_i hh; cases hh; exact k2 _ _ rfl
        · unfold Cell.okWide at hv
          rw [hd] at hv
          split at hv <;> first | (rename_i hh; cases hh; done) | skip
          all_goals first | (simp at *; done) | skip
          unfold Cell.ok at hv
          rw [hd] at hv
          split at hv <;> simp_all
      split at hs
      all_goals rename_i hrt
      all_goals rw [hrt] at htd
      · simp only [tdOk] at htd; subst htd
        simp only [hrt] at h1
        obtain ⟨b, rfl⟩ := h1
        exact one1 (notAgg (fun _ h => by cases h) (fun _ _ h => by cases h)) rfl
      · simp only [tdOk] at htd; subst htd
        simp only [hrt] at h1
        obtain ⟨b, rfl, _⟩ := h1
        exact one1 (notAgg (fun _ h => by cases h) (fun _ _ h => by cases h)) rfl
      · simp only [tdOk] at htd; subst htd
        simp only [hrt] at h1
        obtain ⟨b, rfl, _⟩ := h1
        exact one1 (notAgg (fun _ h => by cases h) (fun _ _ h => by cases h)) rfl
      · simp only [tdOk] at htd; subst htd
        simp only [hrt] at h1
        obtain ⟨es, xs, rfl, _⟩ := h1
        exact one1 (notAgg (fun _ h => by cases h) (fun _ _ h => by cases h)) rfl
      · obtain ⟨fields, rfl, hfm⟩ := htd
        simp only [hrt] at h1
        obtain ⟨parts, rfl, _⟩ := h1
        unfold Value.okWide at hv
        rw [hd] at hv
        obtain ⟨cs, rfl, _⟩ := hv
        exact ⟨cs.toList, by simp, h2⟩
      · simp only [tdOk] at htd; subst htd
        simp only [hrt] at h1
        obtain ⟨parts, rfl, _⟩ := h1
        unfold Value.okWide at hv
        rw [hd] at hv
        obtain ⟨cs, rfl, _⟩ := hv
        exact ⟨cs.toList, by simp, h2⟩
      · cases hs
    · cases hs
theorem args_decode (hL : LayOk P L) {n base : Nat} : ∀ (ts : List TypeId) (vs : List Value) (ds : List (DataW H)) (ps : List MemPlace), (∀ t, t ∈ ts → sup L n t = true) →
    (∀ (j : Nat) t v, ts[j]? = some t → vs[j]? = some v → Value.okWide P w .any base t v) → DataW.TrodAll enc P w 0 (fun _ => true) true ts vs ds ps →
    ds.length = ts.length ∧ ∃ xs : List D, hasAll L n ts xs ∧ V.repT w (allS w) [] (xs.map .d) vs
  | [], vs, ds, ps, _, _, h => by
    obtain ⟨rfl, rfl, rfl⟩ := trodAll_nil h
    exact ⟨rfl, [], trivial, rfl⟩
  | t :: ts, vs, ds, ps, hs, hv, h => by
    obtain ⟨v, vs1, d, ds1, a, b, rfl, rfl, rfl, h1, h2⟩ := trodAll_cons h
    obtain ⟨x, h3, h4⟩ := arg_decode hL (hs t (by simp)) (hv 0 t v rfl rfl) h1
    obtain ⟨h5, xs, h6, h7⟩ := args_decode hL ts vs1 ds1 b (fun t' h' => hs t' (by simp [h'])) (fun j t' v' k1 k2 => hv (j + 1) t' v' (by simpa using k1) (by simpa using k2)) h2
    exact ⟨by simp [h5], x :: xs, ⟨h3, h6⟩, ⟨v, vs1, rfl, h4, h7⟩⟩
/-- the step from a Spec for all data to the row -/
theorem law_lifted {C : Checked} (hL : LayOk C.prog L) (own : ownKnob C.prog.godebug = none) {os : Os} (started : os.Started) {f : FuncId} {fn : Func} {s : ChangeSpec} {conds : List PathCond} {n tb : Nat}
    (noInit : C.prog.inits.idxOf? f = none) (hfn : C.prog.funcs[f]? = some fn)
    (witness : ∃ (w : World) (tape : Tape) (i : Input), w.os = os ∧ (w.forCall tape i).Shaped C.prog ∧ i.vars = [] ∧ Input.okWide C.prog (w.forCall tape i) .any w.heap.size f i ∧
      s.pre6 enc C.prog fn conds false (w.forCall tape i).memory i.args ∧ ({} : Assume).holds C.prog (lone (Frame.enter C.prog f i.args .normal) [] (w.forCall tape i)))
    (hl : laidOutB C.prog = true) (hp : ∀ t ∈ fn.params.toList, C.prog.readableRec t = true ∧ t < C.prog.types.size) (hsup : ∀ t, t ∈ fn.params.toList → sup L n t = true)
    (hvars : s.vars = []) (hrt : fn.resultTypes = #[tb]) (htb : C.prog.underlying tb = some .bool)
    (hs : ∀ ds : List (DataW H), ds.length = fn.params.toList.length → s.fn H (ds ++ []) = { results := [.lit (.bool true)], args := ds })
    (hspec : ∀ xs : List D, hasAll L n fn.params.toList xs → Spec C.prog f (xs.map .d) (.d (.bool true))) :
    ReturnsInHanded {} C os f .any (s.pre6 enc C.prog fn conds false) (s.post enc C.prog fn false true false false) := by
  refine returnsInHanded_of_change own started noInit hfn witness ?_
  intro W base args ds gs before hval hW hcnd _
  have hW' := hW
  obtain ⟨p, q, hA, hV, rfl, hfz, hnd⟩ := hW
  rw [hvars] at hV
  obtain ⟨rfl, rfl⟩ := trodVars_none hV
  obtain ⟨hlen, xs, h1, h2⟩ := args_decode hL fn.params.toList args.toList ds p hsup (fun j t v k1 k2 => hval j t v (by simpa using k1) (by simpa using k2)) hA
  simp only [List.append_nil] at hW'
  have := (hspec xs h1).2 (allS W) W args.toList h2
  refine this.mono ?_
  rintro e W' ⟨v, rfl, hb, hv⟩
  simp only [V.rep, D.rep] at hv
  subst hv
  exact ⟨_, rfl, post_true hl hp hvars hrt htb hA hW' hb (hs ds hlen)⟩
end
end Go.Proofs.Ytblmoikhfmkfnaa
