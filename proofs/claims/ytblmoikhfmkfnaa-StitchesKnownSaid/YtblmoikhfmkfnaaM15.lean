/- The abstract machine, 15: what a function does (Spec), its proof by a run of its body, and its use at a call. -/
import Derived.Test.YtblmoikhfmkfnaaM14
namespace Go.Proofs.Ytblmoikhfmkfnaa
set_option linter.unusedSimpArgs false
set_option linter.unusedVariables false
open Go.RowKit Go

/-! ### Values as data -/
section
variable (L : List (Option Row))
def vimmFs (rec : Nat → V → Option V) : List V → List (Nat × Nat) → Option (List D)
  | [], [] => some []
  | vs, (_, t) :: fs => match (rowAt L t) with
    | some r => match r.agg with
      | false => match vs with
        | v :: vs => match rec t v, vimmFs rec vs fs with
          | some (.d d), some ds => match isOne d with
            | true => some (d :: ds)
            | false => none
          | _, _ => none
        | [] => none
      | true => match rec t (.agg (vs.take r.size)), vimmFs rec (vs.drop r.size) fs with
        | some (.d (.agg ds1)), some ds => some (ds1 ++ ds)
        | _, _ => none
    | none => none
  | _, _ => none
def vimmC (rec : V → Option V) : List V → Option (List V)
  | [] => some []
  | v :: vs => match rec v, vimmC rec vs with
    | some x, some xs => some (x :: xs)
    | _, _ => none
/-- a value that leans on no block of the call's own: what its slices hold now, what its boxes hold now -/
def vimm (s : XS) : Nat → Nat → V → Option V
  | 0, _, _ => none
  | n + 1, t, v => match v with
    | .d x => some (.d x)
    | .own es id off len clip => match (rowAt L t) with
      | some r => match r.td with
        | .sl e => match (rowAt L e) with
          | some re => match xcontent s re (.own es id off len clip) with
            | some ys => some (.d (.sl es clip ys))
            | none => none
          | none => none
        | _ => none
      | none => none
    | .agg cs => match (rowAt L t) with
      | some r => match r.td with
        | .struct fs => match vimmFs L (vimm s n) cs fs with
          | some ds => some (.d (.agg ds))
          | none => none
        | _ => none
      | none => none
    | .ptr id off => match blkAt s.mem id with
      | some (.box cells) => match allD cells with
        | some ds => some (.iptr ds.length [.agg ds] 0 off)
        | none => none
      | _ => none
    | .iptr es xs k off => some (.iptr es xs k off)
    | .fn f cap => match vimmC (vimm s n 0) cap with
      | some cs => some (.fn f cs)
      | none => none
    | _ => none
def vimms (s : XS) : List Nat → List V → Option (List V)
  | [], [] => some []
  | t :: ts, v :: vs => match vimm L s 4 t v, vimms s ts vs with
    | some d, some ds => some (d :: ds)
    | _, _ => none
  | _, _ => none
end
mutual
def D.flat : D → Bool
  | .agg cs => D.flatL cs
  | .sl _ _ _ => false
  | _ => true
def D.flatL : List D → Bool
  | [] => true
  | d :: ds => match D.flat d with
    | true => D.flatL ds
    | false => false
end
mutual
def D.val : D → Value
  | .int k n => .int k n
  | .bool b => .bool b
  | .str l => .string ⟨l.toArray⟩
  | .sc v => v
  | .agg cs => .agg (D.valL cs).toArray
  | .sl _ _ _ => undef
def D.valL : List D → List Value
  | [] => []
  | d :: ds => D.val d :: D.valL ds
end
def V.flat : V → Bool
  | .d x => x.flat
  | .tup vs => vs.all fun v => match v with | .d x => x.flat | _ => false
  | _ => false
def V.val : V → Value
  | .d x => x.val
  | .tup vs => .tuple (vs.map fun v => match v with | .d x => x.val | _ => Go.undef).toArray
  | _ => Go.undef
mutual
theorem D.flat_val {w : World} {S : Nat → Prop} : ∀ (d : D) (v : Value), d.flat = true → D.rep w S d v → v = d.val
  | .int _ _, _, _, h => h
  | .bool _, _, _, h => h
  | .str _, _, _, h => h
  | .sc _, _, _, h => h.1
  | .agg cs, _, hf, ⟨xs, hx, h⟩ => by rw [hx, D.flatL_val cs xs hf h]; rfl
  | .sl _ _ _, _, hf, _ => by cases hf
theorem D.flatL_val {w : World} {S : Nat → Prop} : ∀ (ds : List D) (xs : List Value), D.flatL ds = true → D.repL w S ds xs → xs = D.valL ds
  | [], _, _, h => h
  | d :: ds, _, hf, ⟨y, ys, e, h1, _, h2⟩ => by
    simp only [D.flatL] at hf
    split at hf
    · rename_i hd
      rw [e, D.flat_val d y hd h1, D.flatL_val ds ys hf h2]; rfl
    · cases hf
end
mutual
theorem D.flat_rep {w w' : World} {S S' : Nat → Prop} : ∀ (d : D) (v : Value), d.flat = true → D.rep w S d v → D.rep w' S' d v
  | .int _ _, _, _, h => h
  | .bool _, _, _, h => h
  | .str _, _, _, h => h
  | .sc _, _, _, h => h
  | .agg cs, _, hf, ⟨xs, hx, h⟩ => ⟨xs, hx, D.flatL_rep cs xs hf h⟩
  | .sl _ _ _, _, hf, _ => by cases hf
theorem D.flatL_rep {w w' : World} {S S' : Nat → Prop} : ∀ (ds : List D) (xs : List Value), D.flatL ds = true → D.repL w S ds xs → D.repL w' S' ds xs
  | [], _, _, h => h
  | d :: ds, _, hf, ⟨y, ys, e, h1, h3, h2⟩ => by
    simp only [D.flatL] at hf
    split at hf
    · rename_i hd
      exact ⟨y, ys, e, D.flat_rep d y hd h1, h3, D.flatL_rep ds ys hf h2⟩
    · cases hf
end
theorem V.flat_rep {w w' : World} {S S' : Nat → Prop} {φ φ' : Phi} {x : V} {v : Value} (hf : x.flat = true) (h : V.rep w S φ x v) : V.rep w' S' φ' x v ∧ v = x.val := by
  cases x with
  | d y => exact ⟨D.flat_rep y v hf h, D.flat_val y v hf h⟩
  | tup vs =>
    obtain ⟨xs, rfl, h⟩ := h
    have : V.repT w' S' φ' vs xs ∧ xs = vs.map fun v => match v with | .d x => x.val | _ => Go.undef := by
      simp only [V.flat] at hf
      induction vs generalizing xs with
      | nil => simp only [V.repT] at h ⊢; subst h; exact ⟨rfl, rfl⟩
      | cons z vs ih =>
        obtain ⟨y, ys, rfl, h1, h2⟩ := h
        simp only [List.all_cons, Bool.and_eq_true] at hf
        obtain ⟨h3, h4⟩ := ih hf.2 ys h2
        cases z with
        | d q => exact ⟨⟨y, ys, rfl, D.flat_rep q y hf.1 h1, h3⟩, by rw [h4, D.flat_val q y hf.1 h1]; rfl⟩
        | _ => cases hf.1
    exact ⟨⟨xs, rfl, this.1⟩, by rw [this.2]; rfl⟩
  | _ => cases hf

mutual
def V.ids : V → List Nat
  | .own _ id _ _ _ => [id]
  | .agg cs => V.idsL cs
  | .ptr id _ => [id]
  | .fn _ cap => V.idsL cap
  | _ => []
def V.idsL : List V → List Nat
  | [] => []
  | v :: vs => V.ids v ++ V.idsL vs
end
theorem idsL_take : ∀ (n : Nat) (vs : List V) (id : Nat), id ∈ V.idsL (vs.take n) → id ∈ V.idsL vs
  | 0, vs, id, h => by simp [V.idsL] at h
  | n + 1, [], id, h => by simp [V.idsL] at h
  | n + 1, v :: vs, id, h => by
    simp only [List.take_succ_cons, V.idsL, List.mem_append] at h ⊢
    exact h.imp id_of (idsL_take n vs id)
where id_of {p : Prop} (h : p) : p := h
theorem idsL_drop : ∀ (n : Nat) (vs : List V) (id : Nat), id ∈ V.idsL (vs.drop n) → id ∈ V.idsL vs
  | 0, vs, id, h => h
  | n + 1, [], id, h => by simp [V.idsL] at h
  | n + 1, v :: vs, id, h => by
    simp only [List.drop_succ_cons, V.idsL, List.mem_append] at h ⊢
    exact .inr (idsL_drop n vs id h)
section
variable {w : World} {S : Nat → Prop} {φ : Phi}
theorem V.repL_split : ∀ (n : Nat) (vs : List V) (xs : List Value), V.repL w S φ vs xs → V.repL w S φ (vs.take n) (xs.take n) ∧ V.repL w S φ (vs.drop n) (xs.drop n)
  | 0, vs, xs, h => ⟨rfl, h⟩
  | n + 1, [], xs, h => by simp only [V.repL] at h; subst h; exact ⟨rfl, rfl⟩
  | n + 1, v :: vs, _, ⟨y, ys, e, h1, h2, h3⟩ => by
    subst e
    obtain ⟨h4, h5⟩ := V.repL_split n vs ys h3
    exact ⟨⟨y, _, rfl, h1, h2, h4⟩, h5⟩
theorem box_agg {b : Nat} : ∀ (ds : List D) (o : Nat), (∀ (j : Nat) x, (ds.map V.d)[j]? = some x → ∃ v, w.cell? ⟨b, o + j, none⟩ = some v ∧ one v = true ∧ V.rep w S φ x v) →
    ∃ us : List Value, us.length = ds.length ∧ D.repL w S ds us ∧ ∀ j, j < ds.length → w.cell? ⟨b, o + j, none⟩ = us[j]?
  | [], o, _ => ⟨[], rfl, rfl, fun j hj => by simp at hj⟩
  | d :: ds, o, h => by
    obtain ⟨v, h1, h2, h3⟩ := h 0 (.d d) rfl
    obtain ⟨us, h4, h5, h6⟩ := box_agg ds (o + 1) fun j x hj => by
      obtain ⟨v, k1, k2, k3⟩ := h (j + 1) x (by simpa using hj)
      exact ⟨v, by rw [show o + 1 + j = o + (j + 1) by omega]; exact k1, k2, k3⟩
    refine ⟨v :: us, by simp [h4], ⟨v, us, rfl, h3, h2, h5⟩, fun j hj => ?_⟩
    cases j with
    | zero => simpa using h1
    | succ j =>
      have := h6 j (by simpa using hj)
      rw [show o + 1 + j = o + (j + 1) by omega] at this
      simpa using this
end
section
variable {P : Program} {L : List (Option Row)} {w : World} {S0 : Nat → Prop} {n0 : Nat} {φ : Phi} {s : XS} {a : Act}
theorem vimmFs_rep {rec : Nat → V → Option V} {S' : Nat → Prop}
    (ih : ∀ (t : Nat) (v d : V) (x : Value), (∀ id, id ∈ v.ids → ∀ b o : Nat, φ[id]? = some (some (b, o)) → S' b) → rec t v = some d → V.rep w (SS S0 n0 φ) φ v x → V.rep w S' [] d x) :
    ∀ (fs : List (Nat × Nat)) (cs : List V) (ds : List D) (xs : List Value), (∀ id, id ∈ V.idsL cs → ∀ b o : Nat, φ[id]? = some (some (b, o)) → S' b) → vimmFs L rec cs fs = some ds → V.repL w (SS S0 n0 φ) φ cs xs → D.repL w S' ds xs
  | [], cs, ds, xs, hφ, h, hx => by
    cases cs with
    | nil => simp only [vimmFs, Option.some.injEq] at h; subst h; exact hx
    | cons c cs => simp [vimmFs] at h
  | (o, t) :: fs, cs, ds, xs, hφ, h, hx => by
    unfold vimmFs at h
    split at h
    · rename_i heq; cases heq
    · rename_i heq
      cases heq
      split at h
      · rename_i r hr
        split at h
        · split at h
          · rename_i v vs
            split at h
            · rename_i d' ds' hd' hds'
              split at h
              · rename_i ho
                simp only [Option.some.injEq] at h; subst h
                obtain ⟨y, ys, rfl, h1, h2, h3⟩ := hx
                exact ⟨y, ys, rfl, ih _ _ _ _ (fun id hid => hφ id (by simp only [V.idsL, List.mem_append]; exact .inl hid)) hd' h1, h2, vimmFs_rep ih fs _ _ _ (fun id hid => hφ id (by simp only [V.idsL, List.mem_append]; exact .inr hid)) hds' h3⟩
              · cases h
            · cases h
          · cases h
        · split at h
          · rename_i ds1 ds2 hd1 hd2
            simp only [Option.some.injEq] at h; subst h
            obtain ⟨h4, h5⟩ := V.repL_split r.size _ _ hx
            have k1 := ih _ (.agg _) _ (.agg (xs.take r.size).toArray) (fun id hid => hφ id (idsL_take _ _ _ (by simpa [V.ids] using hid))) hd1 ⟨_, rfl, h4⟩
            obtain ⟨us, hu, hus⟩ := k1
            have hu' : us = xs.take r.size := by simpa using hu.symm
            subst hu'
            have k2 := vimmFs_rep ih fs _ _ _ (fun id hid => hφ id (idsL_drop _ _ _ hid)) hd2 h5
            have := D.repL_append hus k2
            rwa [List.take_append_drop] at this
          · cases h
      · cases h
    · cases h
theorem vimmC_rep {rec : V → Option V} {S' : Nat → Prop}
    (ih : ∀ (v d : V) (x : Value), (∀ id, id ∈ v.ids → ∀ b o : Nat, φ[id]? = some (some (b, o)) → S' b) → rec v = some d → V.rep w (SS S0 n0 φ) φ v x → V.rep w S' [] d x) :
    ∀ (cs ds : List V) (xs : List Value), (∀ id, id ∈ V.idsL cs → ∀ b o : Nat, φ[id]? = some (some (b, o)) → S' b) → vimmC rec cs = some ds → V.repT w (SS S0 n0 φ) φ cs xs → V.repT w S' [] ds xs
  | [], ds, xs, _, h, hx => by simp only [vimmC, Option.some.injEq] at h; subst h; exact hx
  | c :: cs, ds, xs, hφ, h, hx => by
    simp only [vimmC] at h
    split at h
    · rename_i d ds' hd hds
      simp only [Option.some.injEq] at h; subst h
      obtain ⟨y, ys, rfl, h1, h2⟩ := hx
      exact ⟨y, ys, rfl, ih _ _ _ (fun id hid => hφ id (by simp only [V.idsL, List.mem_append]; exact .inl hid)) hd h1, vimmC_rep ih cs ds' ys (fun id hid => hφ id (by simp only [V.idsL, List.mem_append]; exact .inr hid)) hds h2⟩
    · cases h
/-- a value read as data: its own blocks are among those where the data may lie -/
theorem vimm_rep (hL : LayOk P L) (H : Sim w (SS S0 n0 φ) φ s a) {S' : Nat → Prop} (hS : ∀ b, SS S0 n0 φ b → S' b) :
    ∀ (n t : Nat) (v d : V) (x : Value), (∀ id, id ∈ v.ids → ∀ b o : Nat, φ[id]? = some (some (b, o)) → S' b) → vimm L s n t v = some d → V.rep w (SS S0 n0 φ) φ v x → V.rep w S' [] d x := by
  have C : Carry w (SS S0 n0 φ) w S' := ⟨fun b h _ => hS b h, fun _ _ _ => rfl, Nat.le_refl _⟩
  intro n
  induction n with
  | zero => intro t v d x _ h; simp [vimm] at h
  | succ n ih =>
    intro t v d x hφ h hv
    simp only [vimm] at h
    split at h
    · simp only [Option.some.injEq] at h; subst h
      exact D.rep_mono C _ _ hv
    · rename_i es id off len clip
      split at h
      · rename_i r hr
        split at h
        · rename_i e hrt
          split at h
          · rename_i re hre
            split at h
            · rename_i ys hys
              simp only [Option.some.injEq] at h; subst h
              obtain ⟨base, cap, cs, h1, h2, h3, h4⟩ := xcontent_rep H (hL e re hre) hys hv
              have hes : es = re.size := by
                simp only [xcontent] at hys
                split at hys
                · rename_i hb _; exact Nat.eq_of_beq_eq_true hb
                · rename_i hb _; exact Nat.eq_of_beq_eq_true hb
                · cases hys
              subst hes
              rcases hv with ⟨k1, k2, a0, k3, k4⟩ | ⟨b, o, cap', cs', T, fz, hphi, hveq, hlc, hcm, hcl, hheap, hsz⟩
              · rw [h1] at k3
                simp only [Value.slice.injEq] at k3
                have hy0 : ys = [] := List.eq_nil_of_length_eq_zero k3.2.1
                subst hy0
                rcases D.rep_mono C _ _ k4 with ⟨_, h⟩ | ⟨b, o, cap', h5, h6, h7, h8, h9, h10, _⟩
                · exact .inl ⟨rfl, h⟩
                · exact .inr ⟨b, o, cap', h5, h6, h7, fun _ => h8 rfl, h9, h10, trivial⟩
              · rw [h1] at hveq
                simp only [Value.slice.injEq] at hveq
                obtain ⟨rfl, hl, rfl⟩ := hveq
                refine .inr ⟨b, o + off * re.size, cap, h1, by omega, hcm, fun hc => by rw [hcl hc, hl], hφ id (by simp [V.ids]) b o hphi, (H.mem.lt ⟨id, o, hphi⟩).1, D.repE_iff.2 ⟨cs, D.repF_mono C h2, fun j u hj => ?_⟩⟩
                have := h4 _ rfl j u hj
                rwa [addr_add] at this
            · cases h
          · cases h
        · cases h
      · cases h
    · rename_i cs
      split at h
      · rename_i r hr
        split at h
        · rename_i fs hrt
          split at h
          · rename_i ds hds
            simp only [Option.some.injEq] at h; subst h
            obtain ⟨xs, rfl, hxs⟩ := hv
            exact ⟨xs, rfl, vimmFs_rep ih fs cs ds xs (fun id hid => hφ id (by simpa [V.ids] using hid)) hds hxs⟩
          · cases h
        · cases h
      · cases h
    · rename_i id off
      split at h
      · rename_i cells hb
        split at h
        · rename_i ds hds
          simp only [Option.some.injEq] at h; subst h
          obtain ⟨b, o, hphi, rfl⟩ := hv
          have hent := H.mem.ent id (.box cells) (by unfold blkAt at hb; split at hb <;> simp_all)
          rcases hent with ⟨h0, es', h1⟩ | ⟨b', o', h0, h1, h2, h3, h4⟩
          · cases h1
          · rw [hphi] at h0
            simp only [Option.some.injEq, Prod.mk.injEq] at h0
            obtain ⟨rfl, rfl⟩ := h0
            have hc := allD_eq hds
            subst hc
            obtain ⟨us, k1, k2, k3⟩ := box_agg ds o h4
            refine ⟨b, o, by simp, hφ id (by simp [V.ids]) b o hphi, h2, ⟨.agg us.toArray, ⟨us, rfl, D.repL_mono C _ _ k2⟩, by simpa [Value.cells] using k1, fun j hj => ?_⟩, trivial⟩
            rw [k3 j hj]; simp [Value.cells]
        · cases h
      · cases h
    · simp only [Option.some.injEq] at h; subst h
      obtain ⟨b, o, h1, h2, h3, h4⟩ := hv
      exact ⟨b, o, h1, hS b h2, h3, D.repE_mono C _ b rfl _ _ h4⟩
    · rename_i f cap
      split at h
      · rename_i cs hcs
        simp only [Option.some.injEq] at h; subst h
        obtain ⟨xs, rfl, hxs⟩ := hv
        exact ⟨xs, rfl, vimmC_rep (fun v d x => ih 0 v d x) cap cs xs (fun id hid => hφ id (by simpa [V.ids] using hid)) hcs hxs⟩
      · cases h
    · cases h
theorem vimms_rep (hL : LayOk P L) (H : Sim w (SS S0 n0 φ) φ s a) {S' : Nat → Prop} (hS : ∀ b, SS S0 n0 φ b → S' b) :
    ∀ (ts : List Nat) (vs ds : List V) (xs : List Value), (∀ id, id ∈ V.idsL vs → ∀ b o : Nat, φ[id]? = some (some (b, o)) → S' b) → vimms L s ts vs = some ds → V.repT w (SS S0 n0 φ) φ vs xs → V.repT w S' [] ds xs
  | [], [], ds, xs, _, h, hx => by simp only [vimms, Option.some.injEq] at h; subst h; exact hx
  | [], _ :: _, ds, xs, _, h, hx => by simp [vimms] at h
  | _ :: _, [], ds, xs, _, h, hx => by simp [vimms] at h
  | t :: ts, v :: vs, ds, xs, hφ, h, hx => by
    simp only [vimms] at h
    split at h
    · rename_i d ds' hd hds
      simp only [Option.some.injEq] at h; subst h
      obtain ⟨y, ys, rfl, h1, h2⟩ := hx
      exact ⟨y, ys, rfl, vimm_rep hL H hS _ _ _ _ _ (fun id hid => hφ id (by simp only [V.idsL, List.mem_append]; exact .inl hid)) hd h1, vimms_rep hL H hS ts vs ds' ys (fun id hid => hφ id (by simp only [V.idsL, List.mem_append]; exact .inr hid)) hds h2⟩
    · cases h
end

/-! ### What a function does -/
def Callable (P : Program) (f : Nat) : Prop := ∃ fn, P.funcs[f]? = some fn ∧ (fn.name == "runtime.NumGoroutine") = false ∧ fn.body.isSome = true
/-- Called with these values, wherever their data lie, the function returns this, and nothing that was there has turned. -/
def Spec (P : Program) (f : Nat) (ds : List V) (res : V) : Prop :=
  Callable P f ∧ ∀ (S : Nat → Prop) (w : World) (vs : List Value), V.repT w S [] ds vs →
    Calls P f vs.toArray w fun e w' => ∃ v, e = .returned v ∧ Below w.heap.size w w' ∧ V.rep w' (fun b => S b ∨ w.heap.size ≤ b) [] res v

section
variable (L : List (Option Row))
def xresv (s : XS) : ResultVar → Option V
  | .tmp t => some (getV s.sl t)
  | .cell p ty => match (rowAt L ty) with
    | some r => xload s r (getV s.sl p)
    | none => none
def xresvs (s : XS) : List ResultVar → Option (List V)
  | [] => some []
  | r :: rs => match xresv L s r, xresvs s rs with
    | some v, some vs => some (v :: vs)
    | _, _ => none
/-- what a function returns, as data -/
def xret (rs : List ResultVar) (ts : List Nat) (s : XS) : Option V := match xresvs L s rs with
  | some vs => match vimms L s ts vs with
    | some [d] => some d
    | some ds => some (.tup ds)
    | none => none
  | none => none
end

section
variable {P : Program} {L : List (Option Row)} {w : World} {S0 : Nat → Prop} {n0 : Nat} {φ : Phi} {s : XS} {a : Act}
def resv (tmps : Array Value) : ResultVar → Sem Value
  | .tmp t => pure (tmps.getD t undef)
  | .cell p t => do loadVar t (← asAddr (tmps.getD p undef))
theorem results_eq (fn : Func) (tmps : Array Value) : results fn tmps = (do let vs ← fn.results.mapM (resv tmps); pure (if h : vs.size = 1 then vs[0] else .tuple vs)) := by
  unfold results
  congr 1
theorem run_xresv (hL : LayOk P L) (H : Sim w (SS S0 n0 φ) φ s a) {r : ResultVar} {x : V} (h : xresv L s r = some x) :
    ∃ u, V.rep w (SS S0 n0 φ) φ x u ∧ (resv a.tmps r).run P w = .ok u w := by
  cases r with
  | tmp t => simp only [xresv, Option.some.injEq] at h; subst h; exact ⟨_, H.slots t, rfl⟩
  | cell p ty =>
    simp only [xresv] at h
    split at h
    · rename_i r hr
      obtain ⟨u, h1, h2⟩ := run_xload H (hL ty r hr) h (H.slots p)
      refine ⟨u, h1, ?_⟩
      have h3 := h2 w (Same.refl w)
      show (do loadVar ty (← asAddr (a.tmps.getD p undef)) : Sem Value).run P w = .ok u w
      generalize a.tmps.getD p undef = pv at h3 ⊢
      cases pv with
      | pointer b =>
        cases b with
        | none => simp [Instr.loadAt, Instr.sureAddr] at h3
        | some b => simpa [Instr.loadAt, Instr.sureAddr, asAddr] using h3
      | _ => simp [Instr.loadAt, Instr.sureAddr] at h3
    · cases h
theorem run_xresvs (hL : LayOk P L) (H : Sim w (SS S0 n0 φ) φ s a) : ∀ (rs : List ResultVar) (xs : List V), xresvs L s rs = some xs →
    ∃ us : List Value, V.repT w (SS S0 n0 φ) φ xs us ∧ (rs.mapM (resv a.tmps)).run P w = .ok us w
  | [], xs, h => by simp only [xresvs, Option.some.injEq] at h; subst h; exact ⟨[], rfl, by simp⟩
  | r :: rs, xs, h => by
    simp only [xresvs] at h
    split at h
    · rename_i v vs hv hvs
      simp only [Option.some.injEq] at h; subst h
      obtain ⟨u, h1, h2⟩ := run_xresv hL H hv
      obtain ⟨us, h3, h4⟩ := run_xresvs hL H rs vs hvs
      refine ⟨u :: us, ⟨u, us, rfl, h1, h3⟩, ?_⟩
      rw [List.mapM_cons, Sem.run_bind, h2]
      simp only [Result.andThen_ok, Sem.run_bind, h4, Sem.run_pure]
    · cases h

theorem ret_ok (hL : LayOk P L) {fn : Func} {R : Ending → World → Prop} (H : Sim w (SS S0 n0 φ) φ s a) {res : V} (h : xret L fn.results.toList fn.resultTypes.toList s = some res)
    (hφ : ∀ b, φ.has b → n0 ≤ b) (hR : ∀ v, V.rep w (fun b => S0 b ∨ n0 ≤ b) [] res v → R (.returned v) w) : bodyPost P fn R .ret a w ∧ bodyPost P fn R .normal a w := by
  have main : a.defers = [] ∧ ∃ v, (results fn a.tmps).run P w = .ok v w ∧ R (.returned v) w := by
    refine ⟨H.defers, ?_⟩
    unfold xret at h
    split at h
    · rename_i vs hvs
      obtain ⟨us, h1, h2⟩ := run_xresvs hL H _ _ hvs
      have hres : (results fn a.tmps).run P w = .ok (if h : us.toArray.size = 1 then us.toArray[0] else .tuple us.toArray) w := by
        rw [results_eq, Sem.run_bind, Array.mapM_eq_mapM_toList]
        have : (List.toArray <$> fn.results.toList.mapM (resv a.tmps)).run P w = .ok us.toArray w := by
          rw [← bind_pure_comp, Sem.run_bind, h2]; rfl
        rw [this]
        simp only [Result.andThen_ok, Sem.run_pure]
      split at h
      · rename_i d hd
        simp only [Option.some.injEq] at h; subst h
        have h3 := vimms_rep hL H (S' := fun b => S0 b ∨ n0 ≤ b) (fun b hb => hb.1) _ _ _ _ (fun id _ b o h => .inr (hφ b ⟨id, o, h⟩)) hd h1
        obtain ⟨y, ys, rfl, h4, h5⟩ := h3
        simp only [V.repT] at h5
        subst h5
        exact ⟨y, by simpa using hres, hR y h4⟩
      · rename_i ds hd hne
        simp only [Option.some.injEq] at h; subst h
        have h3 := vimms_rep hL H (S' := fun b => S0 b ∨ n0 ≤ b) (fun b hb => hb.1) _ _ _ _ (fun id _ b o h => .inr (hφ b ⟨id, o, h⟩)) hne h1
        have hl := ((V.repT_iff _ _).1 h3).1
        have hn1 : us.toArray.size ≠ 1 := by
          simp only [List.size_toArray, ← hl]
          intro h1
          match ds, h1 with
          | [x], _ => exact hd x rfl
        exact ⟨.tuple us.toArray, by rw [hres, dif_neg hn1], hR _ ⟨us, rfl, h3⟩⟩
      · cases h
    · cases h
  exact ⟨main, main⟩
end
end Go.Proofs.Ytblmoikhfmkfnaa
