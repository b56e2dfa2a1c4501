/- The abstract machine, 7: literals, and all operations that leave memory alone in one. -/
import Derived.Test.YtblmoikhfmkfnaaM6
import Derived.Laws.Tables
import Derived.Great.BuildSlice
import Derived.Laws.MakeOwn
namespace Go.Proofs.Ytblmoikhfmkfnaa
set_option linter.unusedSimpArgs false
set_option linter.unusedVariables false
open Go.RowKit Go

section
variable {P : Program} {L : List (Option Row)} (hL : LayOk P L) {w : World} {S : Nat → Prop} {φ : Phi} {s : XS} {a : Act}

inductive All2 {α β : Type} (R : α → β → Prop) : List α → List β → Prop
  | nil : All2 R [] []
  | cons {a : α} {b : β} {l : List α} {m : List β} : R a b → All2 R l m → All2 R (a :: l) (b :: m)

/-- what Instr.fill writes: the cells from a place on -/
theorem fold_set (vs : List Value) : ∀ (off k : Nat) (cells : List Value), off + k + vs.length ≤ cells.length →
    ((vs.zipIdx k).foldl (fun (cs : Array Value) (x : Value × Nat) => cs.setIfInBounds (off + x.2) x.1) cells.toArray).toList = cells.take (off + k) ++ (vs ++ cells.drop (off + k + vs.length)) := by
  induction vs with
  | nil => intro off k cells _; simp
  | cons v vs ih =>
    intro off k cells hle
    simp only [List.zipIdx_cons, List.foldl_cons, List.length_cons] at *
    have hlt : off + k < cells.length := by omega
    rw [List.setIfInBounds_toArray, ih off (k + 1) (cells.set (off + k) v) (by simp; omega)]
    rw [List.take_set, List.drop_set_of_lt (by omega)]
    have h1 : (cells.take (off + (k + 1))).set (off + k) v = cells.take (off + k) ++ [v] := by
      rw [show off + (k + 1) = off + k + 1 from rfl, List.take_succ_eq_append_getElem hlt, List.set_append_right _ _ (by simp; omega)]
      simp [Nat.min_eq_left (Nat.le_of_lt hlt)]
    rw [h1, show off + (k + 1) + vs.length = off + k + (vs.length + 1) from by omega]
    simp

theorem splice_rep {cs vs : List V} {xs ys : List Value} {off : Nat} (h : V.repL w S φ cs xs) (k : V.repL w S φ vs ys) : V.repL w S φ (splice cs off vs) (xs.take off ++ (ys ++ xs.drop (off + ys.length))) := by
  unfold splice
  rw [V.repL_length k]
  exact V.repL_append (V.repL_take _ h) (V.repL_append k (V.repL_drop _ h))

theorem fill_rep {place : Nat → Option (Nat × Row)} {place' : Nat → Option (Nat × Nat)} (hp : ∀ i o r, place i = some (o, r) → place' i = some (o, r.size)) :
    ∀ (parts : List (Nat × V)) (parts' : List (Nat × Value)), All2 (fun p q => p.1 = q.1 ∧ V.rep w S φ p.2 q.2) parts parts' → ∀ (cells cs : List V) (xs : List Value), fill place cells parts = some cs → V.repL w S φ cells xs →
    ∃ ys : List Value, V.repL w S φ cs ys ∧ Instr.fill place' xs.toArray parts' = some ys.toArray ∧ cs.length = cells.length := by
  intro parts parts' hf
  induction hf with
  | nil => intro cells cs xs h hx; simp only [fill, Option.some.injEq] at h; subst h; exact ⟨xs, hx, rfl, rfl⟩
  | @cons p q ps qs hpq _ ih =>
    intro cells cs xs h hx
    obtain ⟨i, v⟩ := p
    obtain ⟨j, u⟩ := q
    obtain ⟨rfl, hv⟩ := hpq
    simp only [fill] at h
    split at h
    · rename_i off r hpl
      split at h
      · rename_i vs hvs
        split at h
        · rename_i h1 h2
          have e1 : vs.length = r.size := Nat.eq_of_beq_eq_true h1
          have e2 : off + vs.length ≤ cells.length := Nat.le_of_ble_eq_true h2
          have hu := (vcells_rep hvs hv).1
          have hlu := V.repL_length hu
          have hlx := V.repL_length hx
          have hsz : u.cells.size = vs.length := by rw [hlu]; simp
          obtain ⟨ys, k1, k2, k3⟩ := ih _ _ _ h (splice_rep (off := off) hx hu)
          refine ⟨ys, k1, ?_, ?_⟩
          · unfold Instr.fill
            simp only [hp _ _ _ hpl]
            rw [if_neg (by simp only [Bool.or_eq_true, decide_eq_true_eq]; simp; omega)]
            rw [← k2]
            congr 1
            apply Array.ext'
            have := fold_set u.cells.toList off 0 xs (by rw [← hlu, ← hlx]; omega)
            simp only [Nat.add_zero] at this
            rw [← this]
            congr 1
            rw [← Array.foldl_toList, Array.toList_zipIdx]
          · rw [k3]; unfold splice; simp; omega
        · cases h
      · cases h
    · cases h

theorem evParts_rep (H : Sim w S φ s a) : ∀ parts : List (Nat × Operand), All2 (fun p q => p.1 = q.1 ∧ V.rep w S φ p.2 q.2) (evParts s parts) (parts.map fun (i, x) => (i, a.eval x))
  | [] => .nil
  | (i, o) :: r => .cons ⟨rfl, ev_rep H o⟩ (evParts_rep H r)

theorem mapM_places : ∀ (fs : List Field) (places : List (Nat × Nat)), fs.mapM (fun f => (P.info? f.type).map fun i => (f.offset, i.size)) = some places → ∀ (i : Nat) f, fs[i]? = some f → ∃ inf, P.info? f.type = some inf ∧ places[i]? = some (f.offset, inf.size)
  | [], _, _, i, f, h => by simp at h
  | g :: fs, places, hm, i, f, h => by
    simp only [List.mapM_cons, Option.bind_eq_bind, Option.pure_def] at hm
    cases hi : P.info? g.type with
    | none => simp [hi] at hm
    | some inf =>
      cases hr : fs.mapM (fun f => (P.info? f.type).map fun i => (f.offset, i.size)) with
      | none => simp [hi, hr] at hm
      | some rest =>
        simp [hi, hr] at hm
        subst hm
        cases i with
        | zero => simp only [List.getElem?_cons_zero, Option.some.injEq] at h; subst h; exact ⟨inf, hi, rfl⟩
        | succ i => exact mapM_places fs rest hr i f (by simpa using h)

include hL in
theorem run_xbuild (H : Sim w S φ s a) {t : Nat} {r : Row} (hr : (rowAt L t) = some r) {parts : Array (Nat × Operand)} {cs : List V} (h : fill (xplaces L r) (r.zero.map .d) (evParts s parts.toList) = some cs) (hg : r.agg = true) :
    ∃ u, V.rep w S φ (vagg cs) u ∧ ∀ w', (Instr.build t (parts.map fun (i, x) => (i, a.eval x))).run P w' = .ok u w' := by
  have hro := hL t r hr
  obtain ⟨inf, hi, hs, hb, z, hz, hzc, hza⟩ := hro.info
  obtain ⟨zs, rfl⟩ := hza.2 hg
  obtain ⟨d, hd, htd⟩ := hro.und
  have hzero : V.repL w S φ (r.zero.map .d) zs.toList := by
    rw [V.repL_mapD]
    have : zs.toList = r.zero.map dstat := by simpa [Value.cells] using hzc
    rw [this]; exact zeros_rep hro.zero
  have key : ∀ place', (∀ i o rr, xplaces L r i = some (o, rr) → place' i = some (o, rr.size)) → ∃ ys : List Value, V.repL w S φ cs ys ∧ Instr.fill place' zs (parts.map fun (i, x) => (i, a.eval x)).toList = some ys.toArray := by
    intro place' hp
    obtain ⟨ys, k1, k2, _⟩ := fill_rep hp _ _ (evParts_rep H parts.toList) _ _ _ h hzero
    exact ⟨ys, k1, by rw [← k2]; simp⟩
  cases hrt : r.td with
  | struct fs =>
    rw [hrt] at htd
    obtain ⟨fields, rfl, hfm⟩ := htd
    obtain ⟨places, hpl⟩ := Option.isSome_iff_exists.1 (hro.places fields hd)
    obtain ⟨ys, k1, k2⟩ := key (places.toArray[·]?) (fun i o rr hx => by
      simp only [xplaces, hrt] at hx
      split at hx
      · rename_i fo ft hf
        split at hx
        · rename_i fr hfr
          simp only [Option.some.injEq, Prod.mk.injEq] at hx
          obtain ⟨rfl, rfl⟩ := hx
          rw [← hfm, List.getElem?_map] at hf
          cases hff : fields.toList[i]? with
          | none => simp [hff] at hf
          | some f =>
            simp only [hff, Option.map_some, Option.some.injEq, Prod.mk.injEq] at hf
            obtain ⟨rfl, rfl⟩ := hf
            obtain ⟨inf', e1, e2⟩ := mapM_places _ _ hpl i f hff
            obtain ⟨inf2, e3, e4, _⟩ := (hL _ _ hfr).info
            rw [e1] at e3
            simp only [Option.some.injEq] at e3
            subst e3
            rw [← e4]; simpa using e2
        · cases hx
      · cases hx)
    refine ⟨_, vagg_rep k1, fun w' => run_build w' t _ _ ?_⟩
    simp only [Program.built, hi, hd, hz, hpl]
    exact k2
  | arr n e =>
    rw [hrt] at htd
    simp only [tdOk] at htd
    subst htd
    obtain ⟨ie, hie⟩ := Option.isSome_iff_exists.1 (hro.arr n e hd)
    obtain ⟨ys, k1, k2⟩ := key (fun i => some (i * ie.size, ie.size)) (fun i o rr hx => by
      simp only [xplaces, hrt] at hx
      split at hx
      · rename_i re hre
        simp only [Option.some.injEq, Prod.mk.injEq] at hx
        obtain ⟨rfl, rfl⟩ := hx
        obtain ⟨inf2, e3, e4, _⟩ := (hL _ _ hre).info
        rw [hie] at e3
        simp only [Option.some.injEq] at e3
        subst e3
        rw [e4]
      · cases hx)
    refine ⟨_, vagg_rep k1, fun w' => run_build w' t _ _ ?_⟩
    simp only [Program.built, hi, hd, hz, hie]
    exact k2
  | _ => rw [hro.agg, hrt] at hg; cases hg

include hL in
theorem run_xpure (H : Sim w S φ s a) {o : Oper} {x : V} (h : xpure L o.op s = some x) : ∃ u, V.rep w S φ x u ∧ ∀ w', (opClass o.op = 0 ∨ Same w w') → (execOp a.eval o).run P w' = .ok (.value u) w' := by
  have V1 : ∀ (m : Sem Value) (u : Value) (w' : World), m.run P w' = .ok u w' → ((do pure (.value (← m)) : Sem Next)).run P w' = .ok (.value u) w' := fun m u w' h => by simp [Sem.run_bind, h]
  cases ho : o.op <;> rw [ho] at h <;> simp only [xpure] at h <;> first | (cases h; done) | skip
  case move y =>
    simp only [Option.some.injEq] at h; subst h
    exact ⟨_, ev_rep H y, fun w' _ => by simp [execOp, ho]⟩
  case assign y =>
    simp only [Option.some.injEq] at h; subst h
    exact ⟨_, ev_rep H y, fun w' _ => by simp [execOp, ho]⟩
  case pick c p q =>
    split at h
    · rename_i t hc
      have hcr := ev_rep H c
      rw [hc] at hcr
      simp only [V.rep, D.rep] at hcr
      split at h <;> simp only [Option.some.injEq] at h <;> subst h
      · exact ⟨_, ev_rep H p, fun w' _ => by simp [execOp, ho, hcr, asBool]⟩
      · exact ⟨_, ev_rep H q, fun w' _ => by simp [execOp, ho, hcr, asBool]⟩
    · cases h
  case build t parts =>
    split at h
    · rename_i r hr
      split at h
      · rename_i cs hg hcs
        simp only [Option.some.injEq] at h; subst h
        obtain ⟨u, h1, h2⟩ := run_xbuild hL H hr hcs hg
        exact ⟨u, h1, fun w' _ => by rw [execOp, ho]; exact V1 _ _ _ (h2 w')⟩
      · cases h
    · cases h
  case load t p =>
    split at h
    · rename_i r hr
      obtain ⟨u, h1, h2⟩ := run_xload H (hL t r hr) h (ev_rep H p)
      exact ⟨u, h1, fun w' hw => by rw [execOp, ho]; exact V1 _ _ _ (h2 w' (hw.resolve_left (by simp [opClass])))⟩
    · cases h
  case nilCheck y =>
    split at h
    · rename_i id off hy
      simp only [Option.some.injEq] at h; subst h
      have hyr := ev_rep H y
      rw [hy] at hyr
      obtain ⟨b, o', h1, h2⟩ := hyr
      exact ⟨_, ⟨b, o', h1, h2⟩, fun w' _ => by simp [execOp, ho, h2]⟩
    · rename_i f cap hy
      simp only [Option.some.injEq] at h; subst h
      have hyr := ev_rep H y
      rw [hy] at hyr
      obtain ⟨xs, h1, h2⟩ := hyr
      exact ⟨_, ⟨xs, h1, h2⟩, fun w' _ => by simp [execOp, ho, h1]⟩
    · cases h
  case binOp op t p q ty =>
    obtain ⟨u, h1, h2⟩ := run_xbin hL h (ev_rep H p) (ev_rep H q) p q
    exact ⟨u, h1, fun w' _ => by rw [execOp, ho]; exact V1 _ _ _ (h2 w')⟩
  case unOp op t y =>
    obtain ⟨u, h1, h2⟩ := run_xun h (ev_rep H y)
    exact ⟨u, h1, fun w' _ => by rw [execOp, ho]; exact V1 _ _ _ (h2 w')⟩
  case convert t1 t2 y =>
    split at h
    · rename_i r1 r2 hr1 hr2
      obtain ⟨u, h1, h2⟩ := run_xconv (hL _ _ hr1) (hL _ _ hr2) h (ev_rep H y)
      exact ⟨u, h1, fun w' _ => by rw [execOp, ho]; exact V1 _ _ _ (h2 w')⟩
    · cases h
  case slice t y lo hi mx =>
    split at h
    · rename_i r hr
      split at h
      case h_2 => cases h
      rename_i hrt
      split at h
      · rename_i l hy
        have hyr := ev_rep H y
        rw [hy] at hyr
        simp only [V.rep, D.rep] at hyr
        obtain ⟨u, h1, h2⟩ := run_xsliceStr H (hL t r hr) hrt h
        refine ⟨u, h1, fun w' _ => ?_⟩
        rw [execOp, ho]
        refine V1 _ _ _ ?_
        rw [hyr]
        exact h2 w'
      · cases h
    · cases h
  case fieldAddr t y f =>
    split at h
    · rename_i r hr
      obtain ⟨u, h1, h2⟩ := run_xfieldAddr hL (hL t r hr) h (ev_rep H y)
      exact ⟨u, h1, fun w' _ => by rw [execOp, ho]; exact V1 _ _ _ (h2 w')⟩
    · cases h
  case field t y f =>
    split at h
    · rename_i r hr
      obtain ⟨u, h1, h2⟩ := run_xfield hL (hL t r hr) h (ev_rep H y)
      exact ⟨u, h1, fun w' _ => by rw [execOp, ho]; exact V1 _ _ _ (h2 w')⟩
    · cases h
  case indexAddr t y i =>
    split at h
    · rename_i k i' r hi hr
      have hir := ev_rep H i
      rw [hi] at hir
      simp only [V.rep, D.rep] at hir
      obtain ⟨u, h1, h2⟩ := run_xindexAddr hL (k := k) H (hL t r hr) h (ev_rep H y)
      exact ⟨u, h1, fun w' _ => by rw [execOp, ho]; refine V1 _ _ _ ?_; rw [hir]; exact h2 w'⟩
    · cases h
  case index t y i =>
    split at h
    · rename_i k i' r hi hr
      have hir := ev_rep H i
      rw [hi] at hir
      simp only [V.rep, D.rep] at hir
      obtain ⟨u, h1, h2⟩ := run_xindex hL (k := k) (hL t r hr) h (ev_rep H y)
      exact ⟨u, h1, fun w' _ => by rw [execOp, ho]; refine V1 _ _ _ ?_; rw [hir]; exact h2 w'⟩
    · cases h
  case extract y i =>
    split at h
    · rename_i vs hy
      have hyr := ev_rep H y
      rw [hy] at hyr
      obtain ⟨xs, h1, h2⟩ := hyr
      obtain ⟨u, h3, h4⟩ := ((V.repT_iff _ _).1 h2).2 i x h
      exact ⟨u, h4, fun w' _ => by simp [execOp, ho, h1, Instr.extract, h3]⟩
    · cases h
  case call c =>
    split at h
    · rename_i y t hc1 hc2 hc3
      split at h
      · rename_i r hr
        obtain ⟨u, h1, h2⟩ := run_xlen (ty := o.type) (hL t r hr) h (ev_rep H y)
        refine ⟨u, h1, fun w' _ => ?_⟩
        have e2 : c.args = #[y] := by rw [← Array.toArray_toList (xs := c.args), hc2]
        have e3 : c.argTypes = #[t] := by rw [← Array.toArray_toList (xs := c.argTypes), hc3]
        simp [execOp, ho, resolve, hc1, invoke, builtin, e2, e3, h2]
      · cases h
    · cases h
end
end Go.Proofs.Ytblmoikhfmkfnaa
