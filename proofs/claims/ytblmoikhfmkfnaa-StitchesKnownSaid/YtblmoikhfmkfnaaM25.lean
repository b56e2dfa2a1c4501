/- The abstract machine, 25: regions whose order is open, with loads, stores and calls in them: a load may be taken first where nobody who need not wait for it turns its block. -/
import Derived.Test.YtblmoikhfmkfnaaM24
import Derived.OrdersHeld
namespace Go.Proofs.Ytblmoikhfmkfnaa
set_option linter.unusedSimpArgs false
set_option linter.unusedVariables false
open Go.RowKit Go

section
variable {w : World} {S : Nat → Prop} {φ : Phi} {s : XS} {a : Act} {P : Program} {L : List (Option Row)}
theorem Cells.sameB {w w' : World} {b : Nat} (h : w'.heap[b]? = w.heap[b]?) {o : Nat} {cs : List Value} (hc : Cells w b o cs) : Cells w' b o cs := fun j v hj => (cell_same h _).trans (hc j v hj)
theorem xelem_repB {t : Nat} {r : Row} (hr : RowOk P t r) {es : Nat} {x : D} {off : Nat} {y : V} (h : xelem r es x off = some y) {v : Value} (hv : D.rep w S x v) (hs : v.cells.size = es)
    {b o : Nat} (hc : Cells w b o v.cells.toList) : ∃ u, V.rep w S φ y u ∧ ∀ w', w'.heap[b]? = w.heap[b]? → (loadVar t ⟨b, o + off, none⟩).run P w' = .ok u w' := by
  have main : ∀ y', dpart r x off = some y' → ∃ u, V.rep w S φ (.d y') u ∧ ∀ w', w'.heap[b]? = w.heap[b]? → (loadVar t ⟨b, o + off, none⟩).run P w' = .ok u w' := by
    intro y' hp
    obtain ⟨u, h1, h2, h3⟩ := dpart_rep hr.nagg hp hv
    refine ⟨u, h1, fun w' hw => ?_⟩
    cases hg : r.agg with
    | true =>
      obtain ⟨h4, rfl⟩ := h2 hg
      refine run_loadVar_agg hr hg (by simp; omega) (fun j z hj => ?_)
      rw [List.getElem?_take] at hj
      split at hj
      · rw [List.getElem?_drop] at hj
        have := (cell_same hw _).trans (hc _ _ hj)
        rw [show o + off + j = o + (off + j) from by omega]; exact this
      · cases hj
    | false =>
      refine run_loadVar_one hr hg ((cell_same hw _).trans (hc off u ?_))
      simpa using h3 hg
  unfold xelem at h
  split at h
  · rename_i hg hb
    split at h
    · rename_i cs
      simp only [Option.some.injEq] at h
      subst h
      have hle : r.size = es := Nat.eq_of_beq_eq_true hb
      refine main _ ?_
      obtain ⟨xs, rfl, hv⟩ := hv
      have hl := D.repL_length hv
      simp only [Value.cells, List.size_toArray] at hs
      have : Nat.ble (0 + r.size) cs.length = true := Nat.ble_eq_true_of_le (by omega)
      unfold dpart
      simp only [hg, this]
      rw [List.drop_zero, List.take_of_length_le (by omega)]
    · cases h
  · split at h
    · rename_i y' hp
      simp only [Option.some.injEq] at h
      subst h
      exact main _ hp
    · cases h


/-- the block into which a pointer points -/
def Owner (w : World) (S : Nat → Prop) (φ : Phi) (p : V) (b : Nat) : Prop := match p with
  | .ptr id _ => ∃ o, φ[id]? = some (some (b, o))
  | .aptr _ id _ _ => ∃ o, φ[id]? = some (some (b, o))
  | .iptr _ _ _ _ => S b ∧ b < w.heap.size
  | _ => False
theorem run_xloadB (H : Sim w S φ s a) {t : Nat} {r : Row} (hr : RowOk P t r) {p x : V} (h : xload s r p = some x) {pv : Value} (hp : V.rep w S φ p pv) :
    ∃ u b, V.rep w S φ x u ∧ Owner w S φ p b ∧ ∀ w', w'.heap[b]? = w.heap[b]? → (Instr.loadAt t pv).run P w' = .ok u w' := by
  unfold xload at h
  split at h
  · -- a box
    rename_i id off
    obtain ⟨b, o, hphi, rfl⟩ := hp
    split at h
    · rename_i cells hb
      have hent := H.mem.ent id _ (blkAt_eq hb)
      rcases hent with ⟨h0, _, h1⟩ | ⟨b', o', h0, _, _, _, hrep⟩
      · rw [h0] at hphi; cases hphi
      · rw [h0] at hphi
        simp only [Option.some.injEq, Prod.mk.injEq] at hphi
        obtain ⟨rfl, rfl⟩ := hphi
        simp only [Blk.rep] at hrep
        split at h
        · rename_i hg
          split at h
          · rename_i hble
            simp only [Option.some.injEq] at h
            subst h
            have hle : off + r.size ≤ cells.length := Nat.le_of_ble_eq_true hble
            -- the values of these cells
            have : ∃ vs : List Value, V.repL w S φ ((cells.drop off).take r.size) vs ∧ Cells w b' (o' + off) vs := by
              have gen : ∀ (l : List V) (k : Nat), (∀ (j : Nat) x, l[j]? = some x → cells[k + j]? = some x) → ∃ vs : List Value, V.repL w S φ l vs ∧ Cells w b' (o' + k) vs := by
                intro l
                induction l with
                | nil => intro k _; exact ⟨[], rfl, fun j v hj => by simp at hj⟩
                | cons z l ih =>
                  intro k hk
                  obtain ⟨v, hv1, hv2, hv3⟩ := hrep k z (by simpa using hk 0 z rfl)
                  obtain ⟨vs, h1, h2⟩ := ih (k + 1) (fun j x hj => by have := hk (j + 1) x (by simpa using hj); rwa [show k + 1 + j = k + (j + 1) from by omega])
                  refine ⟨v :: vs, ⟨v, vs, rfl, hv3, hv2, h1⟩, fun j u hj => ?_⟩
                  cases j with
                  | zero => simp only [List.getElem?_cons_zero, Option.some.injEq] at hj; subst hj; exact hv1
                  | succ j => have := h2 j u (by simpa using hj); rwa [show o' + (k + 1) + j = o' + k + (j + 1) from by omega] at this
              refine gen _ off (fun j x hj => ?_)
              rw [List.getElem?_take] at hj
              split at hj
              · rwa [List.getElem?_drop] at hj
              · cases hj
            obtain ⟨vs, h1, h2⟩ := this
            refine ⟨_, b', vagg_rep h1, ⟨o', h0⟩, fun w' hw => ?_⟩
            have hl := V.repL_length h1
            simp only [Instr.loadAt, Instr.sureAddr, Sem.run_bind, Sem.run_pure, Result.andThen_ok]
            exact run_loadVar_agg hr hg (by rw [← hl]; simp; omega) (h2.sameB hw)
          · cases h
        · rename_i hg
          split at h
          · obtain ⟨v, hv1, hv2, hv3⟩ := hrep off x h
            refine ⟨v, b', hv3, ⟨o', h0⟩, fun w' hw => ?_⟩
            simp only [Instr.loadAt, Instr.sureAddr, Sem.run_bind, Sem.run_pure, Result.andThen_ok]
            exact run_loadVar_one hr hg ((cell_same hw _).trans hv1)
          · cases h
    · cases h
  · rename_i es xs k off
    obtain ⟨b, o, rfl, h1, h2, h3⟩ := hp
    split at h
    · rename_i x0 hx
      unfold lget at hx
      obtain ⟨v, h4, h5, h6⟩ := D.repE_get h3 hx
      obtain ⟨u, h7, h8⟩ := xelem_repB (φ := φ) hr h h4 h5 h6
      refine ⟨u, b, h7, ⟨h1, h2⟩, fun w' hw => ?_⟩
      simp only [Instr.loadAt, Instr.sureAddr, Sem.run_bind, Sem.run_pure, Result.andThen_ok]
      exact h8 w' hw
    · cases h
  · rename_i es id k off
    obtain ⟨b, o, hphi, rfl⟩ := hp
    split at h
    · rename_i es' xs hb
      split at h
      · rename_i x0 hes hx
        obtain rfl : es = es' := Nat.eq_of_beq_eq_true hes
        rcases H.mem.ent id _ (blkAt_eq hb) with ⟨h0, _, _⟩ | ⟨b', o', h0, _, _, _, hrep⟩
        · rw [h0] at hphi; cases hphi
        · rw [h0] at hphi
          simp only [Option.some.injEq, Prod.mk.injEq] at hphi
          obtain ⟨rfl, rfl⟩ := hphi
          unfold lget at hx
          obtain ⟨v, h4, h5, h6⟩ := D.repE_get hrep hx
          obtain ⟨u, h7, h8⟩ := xelem_repB (φ := φ) hr h h4 h5 h6
          refine ⟨u, b', h7, ⟨o', h0⟩, fun w' hw => ?_⟩
          simp only [Instr.loadAt, Instr.sureAddr, Sem.run_bind, Sem.run_pure, Result.andThen_ok]
          exact h8 w' hw
      · cases h
    · cases h
  · cases h
end

/-- which of the call's own blocks an operation turns (of those whose answer is known) -/
def turns (s : XS) (op : Op) : Option (List Nat) := match op with
  | .alloc _ => some []
  | .box _ _ => some []
  | .buildSlice _ _ _ => some []
  | .makeSlice _ _ _ => some []
  | .store _ p _ => match s.ev p with
    | .ptr id _ => some [id]
    | .aptr _ id _ _ => some [id]
    | _ => none
  | _ => none
section
variable {P : Program} {L : List (Option Row)} {w : World} {S0 : Nat → Prop} {n0 : Nat} {φ : Phi} {s : XS} {a : Act}
theorem run_xeffK (hL : LayOk P L) (hn : n0 ≤ w.heap.size) (H : Sim w (SS S0 n0 φ) φ s a) {o : Oper} {x : V} {s2 : XS} (h : xeff L o.op s = some (x, s2)) {ids : List Nat} (hk : turns s o.op = some ids) :
    ∃ u w2 φ2, ((execOp a.eval o).run P w = .ok (.value u) w2 ∨ (u = undef ∧ (execOp a.eval o).run P w = .ok .skip w2)) ∧ V.rep w2 (SS S0 n0 φ2) φ2 x u ∧ Sim w2 (SS S0 n0 φ2) φ2 s2 a ∧ FrameTo φ w φ2 w2 ∧ (∀ id, id < φ.length → φ2[id]? = φ[id]?) ∧ ∀ b, b < w.heap.size → (∀ id, id ∈ ids → ∀ o : Nat, φ[id]? ≠ some (some (b, o))) → w2.heap[b]? = w.heap[b]? := by
  have V1 : ∀ (m : Sem Value) (u : Value) (w2 : World), m.run P w = .ok u w2 → ((do pure (.value (← m)) : Sem Next)).run P w = .ok (.value u) w2 := fun m u w2 h => by simp [Sem.run_bind, h]
  have U1 : ∀ (m : Sem Unit) (w2 : World), m.run P w = .ok () w2 → ((do m; pure .skip : Sem Next)).run P w = .ok .skip w2 := fun m w2 h => by simp [Sem.run_bind, h]
  have app : ∀ (x : Option (Nat × Nat)) (id : Nat), id < φ.length → (φ ++ [x])[id]? = φ[id]? := fun x id hid => List.getElem?_append_left hid
  cases ho : o.op <;> rw [ho] at h hk <;> simp only [xeff] at h <;> simp only [turns] at hk <;> first | (cases h; done) | (cases hk; done) | skip
  case alloc t =>
    split at h
    · rename_i r hr
      simp only [Option.some.injEq, Prod.mk.injEq] at h
      obtain ⟨rfl, rfl⟩ := h
      obtain ⟨z, hz1, hz2, _⟩ := (hL t r hr).run_zero w
      have hb := box_new (s := s) hn H (rep_zero (hL t r hr) hz2) t
      simp only [Array.toArray_toList] at hb
      refine ⟨_, _, φ ++ [some (w.heap.size, 0)], .inl (by rw [execOp, ho]; refine V1 _ (.pointer (some ⟨w.heap.size, 0, none⟩)) (w.alloc (.cells z.cells t)) ?_; simp [Instr.alloc, Sem.run_bind, hz1, run_newVar]), ⟨w.heap.size, 0, by rw [phi_append, if_neg (by rw [H.mem.len]; omega), if_pos H.mem.len.symm], rfl⟩, sim_alloc hn H _ _ _ hb, frame_alloc _ _ _ _, app _, fun b hb _ => heap_alloc _ _ b hb⟩
    · cases h
  case box t y =>
    split at h
    · rename_i r hr
      split at h
      · rename_i cs hcs
        simp only [Option.some.injEq, Prod.mk.injEq] at h
        obtain ⟨rfl, rfl⟩ := h
        have hv := (vcells_rep hcs (ev_rep H y)).1
        have hb := box_new (s := s) hn H hv t
        simp only [Array.toArray_toList] at hb
        refine ⟨_, _, φ ++ [some (w.heap.size, 0)], .inl (by rw [execOp, ho]; refine V1 _ (.pointer (some ⟨w.heap.size, 0, none⟩)) (w.alloc (.cells (a.eval y).cells t)) ?_; simp [Instr.box, Sem.run_bind, run_newVar]), ⟨w.heap.size, 0, by rw [phi_append, if_neg (by rw [H.mem.len]; omega), if_pos H.mem.len.symm], rfl⟩, sim_alloc hn H _ _ _ hb, frame_alloc _ _ _ _, app _, fun b hb _ => heap_alloc _ _ b hb⟩
      · cases h
    · cases h
  case buildSlice t n parts =>
    split at h
    · rename_i r hr
      split at h
      · rename_i e hrt
        split at h
        · rename_i re hre
          split at h
          · rename_i cs hble hf
            simp only [Option.some.injEq, Prod.mk.injEq] at h
            obtain ⟨rfl, rfl⟩ := h
            simp only [Bool.and_eq_true] at hble
            obtain ⟨u, w2, φ2, h1, h2, h3, h4, ⟨ob, rfl⟩, ⟨xb, rfl⟩⟩ := run_xbuildSlice hL hn H hr hrt hre (Nat.le_of_ble_eq_true hble.1) hf (Nat.le_of_ble_eq_true hble.2)
            exact ⟨u, _, _, .inl (by rw [execOp, ho]; exact V1 _ _ _ h1), h2, h3, h4, app _, fun b hb _ => heap_alloc _ _ b hb⟩
          · cases h
        · cases h
      · cases h
    · cases h
  case store t p y =>
    split at h
    · rename_i r hr
      split at h
      · rename_i id off hp
        have hpr := ev_rep H p
        rw [hp] at hpr
        split at h
        · rename_i cells vs hb hvs
          split at h
          · rename_i h1 h2
            simp only [Option.some.injEq, Prod.mk.injEq] at h
            obtain ⟨rfl, rfl⟩ := h
            simp only [Bool.and_eq_true] at h1
            have h0 : 1 ≤ r.size := Nat.le_of_ble_eq_true h1.2
            obtain ⟨w2, k1, k2, k3, k4⟩ := run_store_box (p := .undef) hL H hr hpr (ev_rep H y) hb hvs (Nat.eq_of_beq_eq_true h1.1) (Nat.le_of_ble_eq_true h2) (by omega)
            exact ⟨undef, w2, φ, .inr ⟨rfl, by rw [execOp, ho]; exact U1 _ _ k1⟩, ⟨[], rfl, rfl⟩, k2, k3, fun _ _ => rfl, fun b _ hb => k4 b (fun o ho => hb _ (by rw [hp] at hk; simp only [Option.some.injEq] at hk; subst hk; simp) o ho)⟩
          · cases h
        · cases h
      · rename_i es id k off hp
        have hpr := ev_rep H p
        rw [hp] at hpr
        split at h
        · rename_i es' xs v hb hv
          have hvr := ev_rep H y
          rw [hv] at hvr
          split at h
          · rename_i x0 hes hg
            obtain rfl : es = es' := Nat.eq_of_beq_eq_true hes
            split at h
            · rename_i x1 hd
              simp only [Option.some.injEq, Prod.mk.injEq] at h
              obtain ⟨rfl, rfl⟩ := h
              unfold lget at hg
              obtain ⟨w2, k1, k2, k3, k4⟩ := run_store_arr (p := .undef) hL H hr hpr hvr hb hg hd
              unfold lset
              exact ⟨undef, w2, φ, .inr ⟨rfl, by rw [execOp, ho]; exact U1 _ _ k1⟩, ⟨[], rfl, rfl⟩, k2, k3, fun _ _ => rfl, fun b _ hb => k4 b (fun o ho => hb _ (by rw [hp] at hk; simp only [Option.some.injEq] at hk; subst hk; simp) o ho)⟩
            · cases h
          · cases h
        · cases h
      · cases h
    · cases h
  case makeSlice t l c =>
    split at h
    · rename_i r hr
      split at h
      · rename_i e kl n kc m hrt hl hc
        have hlr := ev_rep H l
        have hcr := ev_rep H c
        rw [hl] at hlr
        rw [hc] at hcr
        simp only [V.rep, D.rep] at hlr hcr
        split at h
        · rename_i re hre
          split at h
          · rename_i n' m' z hmk hz
            simp only [Option.some.injEq, Prod.mk.injEq] at h
            obtain ⟨rfl, rfl⟩ := h
            have hcl : sameOp l c = true → n = m := fun hs => by
              cases l <;> cases c <;> simp only [sameOp] at hs <;> first | (cases hs; done) | skip
              rename_i a1 a2
              have := Nat.eq_of_beq_eq_true hs
              subst this
              rw [hl] at hc
              simp only [V.d.injEq, D.int.injEq] at hc
              exact hc.2
            obtain ⟨u, w2, φ2, h1, h2, h3, h4, ⟨ob, rfl⟩, ⟨xb, rfl⟩⟩ := run_xmake (kl := kl) (kc := kc) hL hn H hr hrt hre _ hcl hmk hz
            exact ⟨u, _, _, .inl (by rw [execOp, ho]; refine V1 _ _ _ ?_; rw [hlr, hcr]; exact h1), h2, h3, h4, app _, fun b hb _ => heap_alloc _ _ b hb⟩
          · cases h
        · cases h
      · cases h
    · cases h
end

/-! ### The rule -/
section
variable {P : Program} {md : Region.Mode} {ops : Array Oper} {Q : Exit → Act → World → Prop}
/-- does operation j wait for operation i? -/
def waits (md : Region.Mode) (ops : Array Oper) (i j : Nat) : Bool := match ops[j]? with
  | some o => o.after.any fun e => Region.binds md e && e.on == i
  | none => true
/-- pr: loads that have been taken, and their blocks: j keeps those of them that it need not wait for -/
def Kept (md : Region.Mode) (ops : Array Oper) (pr : List (Nat × Nat)) (j : Nat) (w w' : World) : Prop := ∀ p, p ∈ pr → waits md ops p.1 j = false → w'.heap[p.2]? = w.heap[p.2]?
theorem Kept.refl {pr : List (Nat × Nat)} {j : Nat} {w : World} : Kept md ops pr j w w := fun _ _ _ => rfl
def wpAnyR (P : Program) (md : Region.Mode) (ops : Array Oper) (Q : Exit → Act → World → Prop) (pr : List (Nat × Nat)) : Nat → Array Bool → Act → World → Prop
  | 0, listed, a, w => Region.ready md ops listed = [] ∧ Q .normal a w
  | f + 1, listed, a, w => (Region.ready md ops listed = [] → Q .normal a w) ∧
    ∀ i ∈ Region.ready md ops listed, wpOp P ops Q i (fun a' w' => Kept md ops pr i w w' ∧ wpAnyR P md ops Q pr f (listed.setIfInBounds i true) a' w') a w
theorem wpAny_of_R {pr : List (Nat × Nat)} : ∀ (f : Nat) (listed : Array Bool) (a : Act) (w : World), wpAnyR P md ops Q pr f listed a w → wpAny P md ops Q f listed a w
  | 0, _, _, _, h => h
  | f + 1, _, _, _, h => ⟨h.1, fun i hi => wpOp_mono (fun a' w' h' => wpAny_of_R f _ a' w' h'.2) (h.2 i hi)⟩
theorem wpAnyR_less {pr pr1 : List (Nat × Nat)} (hp : ∀ p, p ∈ pr → p ∈ pr1) : ∀ (f : Nat) (listed : Array Bool) (a : Act) (w : World), wpAnyR P md ops Q pr1 f listed a w → wpAnyR P md ops Q pr f listed a w
  | 0, _, _, _, h => h
  | f + 1, _, _, _, h => ⟨h.1, fun i hi => wpOp_mono (fun a' w' h' => ⟨fun p hpp => h'.1 p (hp p hpp), wpAnyR_less hp f _ a' w' h'.2⟩) (h.2 i hi)⟩
theorem wpAnyR_first {i : Nat} {oi : Oper} {v : Value} {S : World → Prop} {pr pr1 : List (Nat × Nat)} (hi : ops[i]? = some oi) (hsel : ∀ (j : Nat) (o : Oper) cs b, ops[j]? = some o → o.op ≠ .select cs b)
    (hQ : ∀ c a w, Q (.panic c) (a.put oi.dst v) w → Q (.panic c) a w) (hp : ∀ p, p ∈ pr → p ∈ pr1)
    (hS : ∀ j w w', S w → waits md ops i j = false → Kept md ops pr1 j w w' → S w') :
    ∀ (fuel : Nat) (listed : Array Bool) (a : Act) (w : World),
      (∀ j oj, ops[j]? = some oj → j ≠ i → listed.getD j true = false → (∀ e ∈ oj.after, Region.binds md e = true → e.on ≠ i) → oi.apart ops oj = true) →
      i ∈ Region.ready md ops listed → YieldsIf P ops S oi v a → S w →
      wpAnyR P md ops Q pr1 fuel (listed.setIfInBounds i true) (a.put oi.dst v) w → wpAnyR P md ops Q pr (fuel + 1) listed a w := by
  intro fuel
  induction fuel with
  | zero =>
    intro listed a w _ hr hy hSw H
    refine ⟨fun h => (by rw [h] at hr; cases hr), fun j hj => ?_⟩
    by_cases hji : j = i
    · subst hji; exact hy.wpOp hi hSw ⟨Kept.refl, wpAnyR_less hp _ _ _ _ H⟩
    · have := ready_mono hj hji
      rw [H.1] at this
      cases this
  | succ fuel ih =>
    intro listed a w hfree hr hy hSw H
    refine ⟨fun h => (by rw [h] at hr; cases hr), fun j hj => ?_⟩
    by_cases hji : j = i
    · subst hji; exact hy.wpOp hi hSw ⟨Kept.refl, wpAnyR_less hp _ _ _ _ H⟩
    · have h1 := H.2 j (ready_mono hj hji)
      obtain ⟨hjun, oj, hoj, hall⟩ := mem_ready.1 hj
      have hnot : ∀ e ∈ oj.after, Region.binds md e = true → e.on ≠ i := fun e he hb heq => by
        have h1 := hall e he hb
        have h0 := (mem_ready.1 hr).1
        rw [heq] at h1
        rcases Nat.lt_or_ge i listed.size with h' | h'
        · simp [h'] at h0 h1; rw [h0] at h1; cases h1
        · simp [Array.getElem?_eq_none h'] at h1
      have hw : waits md ops i j = false := by
        unfold waits
        rw [hoj]
        rw [Array.any_eq_false']
        intro e he hh
        simp only [Bool.and_eq_true, beq_iff_eq] at hh
        exact hnot e he hh.1 hh.2
      have h2 := wpOp_putIf hoj (hfree j oj hoj hji hjun hnot) (fun cs b => hsel i oi cs b hi) (fun cs b => hsel j oj cs b hoj) hQ hy h1
      have hfree' : ∀ k ok, ops[k]? = some ok → k ≠ i → (listed.setIfInBounds j true).getD k true = false →
          (∀ e ∈ ok.after, Region.binds md e = true → e.on ≠ i) → oi.apart ops ok = true := fun k ok hk hki hun hno => by
        refine hfree k ok hk hki ?_ hno
        by_cases hjk : j = k
        · subst hjk; exact hjun
        · rw [getD_set_ne true hjk] at hun; exact hun
      refine wpOp_mono (fun a' w' h3 => ⟨fun p hpp => h3.2.1 p (hp p hpp), ih (listed.setIfInBounds j true) a' w' hfree' (ready_mono hr (Ne.symm hji)) h3.1 (hS j w w' hSw hw h3.2.1) ?_⟩) h2
      rw [Array.setIfInBounds_comm _ _ hji]
      exact h3.2.2

/-- is this an order in which each operation may be taken? -/
def regFrom (ops : Array Oper) : List Nat → Array Bool → Bool
  | [], listed => (Region.ready .any ops listed).isEmpty
  | i :: r, listed => (Region.ready .any ops listed).contains i && (match ops[i]? with
    | some o => match opClass o.op with
      | 0 => Region.free .any ops listed i
      | 1 => Region.free .any ops listed i
      | _ => (Region.ready .any ops listed) == [i]
    | none => false) && regFrom ops r (listed.setIfInBounds i true)
def regB (ops : Array Oper) (l : List Nat) : Bool := Region.noSelect ops && l.length == ops.size && regFrom ops l (Array.replicate ops.size false)
/-- a good order: what only computes or reads as soon as it may; else the next one -/
def nextOf (ops : Array Oper) (rs : List Nat) : Nat → Option Nat := fun want => rs.find? fun i => match ops[i]? with
  | some o => Nat.beq (opClass o.op) want
  | none => false
def orderOf (ops : Array Oper) : Nat → Array Bool → List Nat
  | 0, _ => []
  | n + 1, listed => match Region.ready .any ops listed with
    | [] => []
    | i :: r => match nextOf ops (i :: r) 0 with
      | some j => j :: orderOf ops n (listed.setIfInBounds j true)
      | none => match nextOf ops (i :: r) 1 with
        | some j => j :: orderOf ops n (listed.setIfInBounds j true)
        | none => i :: orderOf ops n (listed.setIfInBounds i true)

/-- the operations one by one, in the order told -/
def seqP (P : Program) (ops : Array Oper) (Q : Exit → Act → World → Prop) (N : Act → World → Prop) : List Nat → List (Nat × Nat) → Act → World → Prop
  | [], _, a, w => N a w
  | i :: r, pr, a, w => ∃ o, ops[i]? = some o ∧ (if Region.wanted o (yielded ops a.tmps) = true then
      match opClass o.op with
      | 0 => ∃ v, (∀ w1, (execOp a.eval o).run P w1 = .ok (.value v) w1) ∧ seqP P ops Q N r pr (a.put o.dst v) w
      | 1 => ∃ v b, (∀ w1 : World, w1.heap[b]? = w.heap[b]? → (execOp a.eval o).run P w1 = .ok (.value v) w1) ∧ seqP P ops Q N r ((i, b) :: pr) (a.put o.dst v) w
      | _ => wpOp P ops Q i (fun a' w' => Kept .any ops pr i w w' ∧ seqP P ops Q N r pr a' w') a w
    else seqP P ops Q N r pr (a.put o.dst undef) w)
theorem reg_of_seq {N : Act → World → Prop} (hN : ∀ a w, N a w → Q .normal a w) (hQ : ∀ c a w, ¬ Q (.panic c) a w) (hsel : Region.noSelect ops = true) :
    ∀ (l : List Nat) (listed : Array Bool) (pr : List (Nat × Nat)) (a : Act) (w : World), regFrom ops l listed = true → seqP P ops Q N l pr a w → wpAnyR P .any ops Q pr l.length listed a w
  | [], listed, pr, a, w, hB, h => ⟨by simpa [regFrom] using hB, hN a w h⟩
  | i :: r, listed, pr, a, w, hB, h => by
    simp only [regFrom, Bool.and_eq_true] at hB
    obtain ⟨⟨hr, hc⟩, hB'⟩ := hB
    obtain ⟨o, ho, h⟩ := h
    simp only [ho] at hc
    have hr' : i ∈ Region.ready .any ops listed := by simpa using hr
    have hs := Region.noSelect_spec hsel
    have hq : ∀ v c (a : Act) w, Q (.panic c) (a.put o.dst v) w → Q (.panic c) a w := fun v c a w h => (hQ _ _ _ h).elim
    by_cases hw : Region.wanted o (yielded ops a.tmps) = true
    · rw [if_pos hw] at h
      split at hc
      · rename_i hcl
        rw [hcl] at h
        obtain ⟨v, h1, h2⟩ := h
        exact wpAnyR_first (S := fun _ => True) (pr1 := pr) ho (fun j o cs b hj => hs j o cs b hj) (hq v) (fun _ h => h) (fun _ _ _ _ _ _ => trivial) r.length listed a w (Region.free_spec ho hc) hr' (.inl ⟨hw, fun w1 _ => h1 w1⟩) trivial (reg_of_seq hN hQ hsel r _ _ _ _ hB' h2)
      · rename_i hcl
        rw [hcl] at h
        obtain ⟨v, b, h1, h2⟩ := h
        exact wpAnyR_first (S := fun w1 => w1.heap[b]? = w.heap[b]?) (pr1 := (i, b) :: pr) ho (fun j o cs b hj => hs j o cs b hj) (hq v) (fun p h => List.mem_cons_of_mem _ h)
          (fun j w1 w2 hS hwt hK => (hK (i, b) (by simp) hwt).trans hS) r.length listed a w (Region.free_spec ho hc) hr' (.inl ⟨hw, h1⟩) rfl (reg_of_seq hN hQ hsel r _ _ _ _ hB' h2)
      · rename_i hn0 hn1
        have h' : wpOp P ops Q i (fun a' w' => Kept .any ops pr i w w' ∧ seqP P ops Q N r pr a' w') a w := by
          split at h
          · rename_i e; exact absurd e hn0
          · rename_i e; exact absurd e hn1
          · exact h
        have hrd : Region.ready .any ops listed = [i] := eq_of_beq hc
        refine ⟨fun h => (by rw [hrd] at h; cases h), fun j hj => ?_⟩
        rw [hrd] at hj
        have hji : j = i := by simpa using hj
        subst hji
        exact wpOp_mono (fun a' w' h3 => ⟨h3.1, reg_of_seq hN hQ hsel r _ _ _ _ hB' h3.2⟩) h'
    · rw [if_neg hw] at h
      have hw' : Region.wanted o (yielded ops a.tmps) = false := by simpa using hw
      have hk := reg_of_seq hN hQ hsel r _ _ _ _ hB' h
      split at hc
      · exact wpAnyR_first (S := fun _ => True) (pr1 := pr) ho (fun j o cs b hj => hs j o cs b hj) (hq undef) (fun _ h => h) (fun _ _ _ _ _ _ => trivial) r.length listed a w (Region.free_spec ho hc) hr' (.inr ⟨hw', rfl⟩) trivial hk
      · exact wpAnyR_first (S := fun _ => True) (pr1 := pr) ho (fun j o cs b hj => hs j o cs b hj) (hq undef) (fun _ h => h) (fun _ _ _ _ _ _ => trivial) r.length listed a w (Region.free_spec ho hc) hr' (.inr ⟨hw', rfl⟩) trivial hk
      · have hrd : Region.ready .any ops listed = [i] := eq_of_beq hc
        refine ⟨fun h => (by rw [hrd] at h; cases h), fun j hj => ?_⟩
        rw [hrd] at hj
        have hji : j = i := by simpa using hj
        subst hji
        unfold wpOp
        simp only [ho]
        rw [if_neg hw]
        exact ⟨Kept.refl, hk⟩
theorem wp_region_reg {id : Nat} {a : Act} {w : World} (hm : P.follows .mixedOrders = true) (l : List Nat) (hB : regB ops l = true)
    (h : ∀ Q' : Exit → Act → World → Prop, (∀ a w, Q .normal a w → Q' .normal a w) → (∀ c a w, ¬ Q' (.panic c) a w) → seqP P ops Q' (fun a w => Q .normal a w) l [] a { w with drawn := w.drawn + 1 }) : (Code.region id ops true).wp P Q a w := by
  simp only [regB, Bool.and_eq_true, beq_iff_eq] at hB
  refine wp_region_noPanic (wp_region_any hm ?_)
  rw [← hB.1.2]
  refine wpAny_of_R _ _ _ _ (reg_of_seq (N := fun a w => Q .normal a w) (fun a w h => ?_) (fun c a w h => ?_) hB.1.1 l _ [] a _ ?_ (h _ ?_ ?_))
  · exact h
  · exact h
  · rw [hB.1.2]; exact hB.2
  · intro a w h; exact h
  · intro c a w h; exact h
end
end Go.Proofs.Ytblmoikhfmkfnaa
