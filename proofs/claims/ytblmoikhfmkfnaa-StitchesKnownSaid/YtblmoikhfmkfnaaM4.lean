/- The abstract machine, 4: each operation that leaves memory alone, run in the model. -/
import Derived.Test.YtblmoikhfmkfnaaM3
namespace Go.Proofs.Ytblmoikhfmkfnaa
set_option linter.unusedSimpArgs false
set_option linter.unusedVariables false
open Go.RowKit Go

theorem addr_add (b o j : Nat) : (⟨b, o, none⟩ : Addr).add j = ⟨b, o + j, none⟩ := by unfold Addr.add; split <;> simp_all

structure Sim (w : World) (S : Nat → Prop) (φ : Phi) (s : XS) (a : Act) : Prop where
  slots : ∀ i, V.rep w S φ (getV s.sl i) (a.tmps.getD i undef)
  size : s.sl.length = a.tmps.size
  mem : MemRel w S φ s.mem
  defers : a.defers = []

/-- all that was there is as it was -/
def Same (w w' : World) : Prop := ∀ b, b < w.heap.size → w'.heap[b]? = w.heap[b]?
theorem Same.refl (w : World) : Same w w := fun _ _ => rfl
theorem Same.cell {w w' : World} (h : Same w w') {b o : Nat} {v : Value} (hc : w.cell? ⟨b, o, none⟩ = some v) : w'.cell? ⟨b, o, none⟩ = some v := by
  have hb : b < w.heap.size := by
    unfold World.cell? at hc
    split at hc
    · rename_i hh; exact (Array.getElem?_eq_some_iff.1 hh).1
    · cases hc
  rw [cell_same (h b hb)]; exact hc

section
variable {P : Program} {w : World} {S : Nat → Prop} {φ : Phi} {s : XS} {a : Act}

theorem ofConst_rep (c : Value) : V.rep w S φ (ofConst c) c := by
  unfold ofConst
  split
  · rfl
  · rfl
  · rfl
  · exact .inl ⟨rfl, none, rfl⟩
  · trivial
theorem ev_rep (H : Sim w S φ s a) (o : Operand) : V.rep w S φ (s.ev o) (a.eval o) := by
  cases o with
  | tmp t => exact H.slots t
  | const v => exact ofConst_rep v
  | global g => trivial
  | func f => exact ⟨[], rfl, rfl⟩

/-- a row of cells in memory -/
def Cells (w : World) (b o : Nat) (cs : List Value) : Prop := ∀ (j : Nat) v, cs[j]? = some v → w.cell? ⟨b, o + j, none⟩ = some v
theorem Cells.same {w w' : World} (h : Same w w') {b o : Nat} {cs : List Value} (hc : Cells w b o cs) : Cells w' b o cs := fun j v hj => h.cell (hc j v hj)

theorem run_loadVar_agg {t : Nat} {r : Row} (hr : RowOk P t r) (hg : r.agg = true) {b o : Nat} {cs : List Value} (hl : cs.length = r.size) (hc : Cells w b o cs) :
    (loadVar t ⟨b, o, none⟩).run P w = .ok (.agg cs.toArray) w := by
  have h := run_loadCells_list (P := P) w ⟨b, o, none⟩ cs (fun j v hj => by rw [addr_add]; exact hc j v hj)
  rw [hl] at h
  simp [loadVar, Sem.run_bind, hr.run_isAgg, hg, hr.run_size, h]
theorem run_loadVar_one {t : Nat} {r : Row} (hr : RowOk P t r) (hg : r.agg = false) {b o : Nat} {v : Value} (hc : w.cell? ⟨b, o, none⟩ = some v) :
    (loadVar t ⟨b, o, none⟩).run P w = .ok v w := by
  simp [loadVar, Sem.run_bind, hr.run_isAgg, hg, run_load, hc]

/-- the k-th element of an array of data -/
theorem D.repE_get {es b : Nat} : ∀ {xs : List D} {o k : Nat} {x : D}, D.repE w S es b xs o → xs[k]? = some x → ∃ v, D.rep w S x v ∧ v.cells.size = es ∧ Cells w b (o + k * es) v.cells.toList
  | [], _, _, _, _, h => by simp at h
  | y :: ys, o, 0, x, h, hk => by
    simp only [List.getElem?_cons_zero, Option.some.injEq] at hk
    subst hk
    obtain ⟨⟨v, h1, h2, h3⟩, _⟩ := h
    refine ⟨v, h1, h2, fun j u hj => ?_⟩
    have hlt : j < es := by
      have := (List.getElem?_eq_some_iff.1 hj).1
      simpa [h2] using this
    rw [Nat.zero_mul, Nat.add_zero, h3 j hlt]
    simpa using hj
  | y :: ys, o, k + 1, x, h, hk => by
    obtain ⟨v, h1, h2, h3⟩ := D.repE_get (k := k) h.2 (by simpa using hk)
    refine ⟨v, h1, h2, ?_⟩
    rw [show o + (k + 1) * es = o + es + k * es from by rw [Nat.add_mul]; omega]
    exact h3

theorem dpart_rep {r : Row} (hr : r.agg = false → r.size = 1) {x y : D} {off : Nat} (h : dpart r x off = some y) {v : Value} (hv : D.rep w S x v) :
    ∃ u, D.rep w S y u ∧ (r.agg = true → off + r.size ≤ v.cells.size ∧ u = .agg (v.cells.toList.drop off |>.take r.size).toArray) ∧ (r.agg = false → v.cells[off]? = some u) := by
  unfold dpart at h
  split at h
  · rename_i cs
    obtain ⟨xs, rfl, hv⟩ := hv
    split at h
    · rename_i hg
      split at h
      · rename_i hb
        simp only [Option.some.injEq] at h
        subst h
        have hle : off + r.size ≤ cs.length := Nat.le_of_ble_eq_true hb
        refine ⟨_, ⟨_, rfl, D.repL_take _ (D.repL_drop off hv)⟩, fun _ => ⟨?_, rfl⟩, fun hn => (by rw [hg] at hn; cases hn)⟩
        simp only [Value.cells, List.size_toArray]
        rw [← D.repL_length hv]; exact hle
      · cases h
    · rename_i hg
      obtain ⟨u, hu, h1, h2⟩ := ((D.repL_iff _ _).1 hv).2 off y h
      exact ⟨u, h1, fun hn => (by rw [hg] at hn; cases hn), fun _ => by simpa [Value.cells] using hu⟩
  · rename_i hx
    split at h
    · rename_i hg
      simp only [Option.some.injEq] at h
      subst h
      have ho : one v = true := D.rep_one hv (by cases x <;> first | rfl | exact (hx _ rfl).elim)
      exact ⟨v, hv, fun hn => (by rw [hg] at hn; cases hn), fun _ => by rw [cells_one ho]; rfl⟩
    · cases h

theorem xelem_rep {t : Nat} {r : Row} (hr : RowOk P t r) {es : Nat} {x : D} {off : Nat} {y : V} (h : xelem r es x off = some y) {v : Value} (hv : D.rep w S x v) (hs : v.cells.size = es)
    {b o : Nat} (hc : Cells w b o v.cells.toList) : ∃ u, V.rep w S φ y u ∧ ∀ w', Same w w' → (loadVar t ⟨b, o + off, none⟩).run P w' = .ok u w' := by
  have main : ∀ y', dpart r x off = some y' → ∃ u, V.rep w S φ (.d y') u ∧ ∀ w', Same w w' → (loadVar t ⟨b, o + off, none⟩).run P w' = .ok u w' := by
    intro y' hp
    obtain ⟨u, h1, h2, h3⟩ := dpart_rep hr.nagg hp hv
    refine ⟨u, h1, fun w' hw => ?_⟩
    cases hg : r.agg with
    | true =>
      obtain ⟨h4, rfl⟩ := h2 hg
      refine run_loadVar_agg hr hg (by simp; omega) (fun j z hj => ?_)
      rw [List.getElem?_take] at hj
      split at hj
      · rw [List.getElem?_drop] at hj
        have := hw.cell (hc _ _ hj)
        rw [show o + off + j = o + (off + j) from by omega]; exact this
      · cases hj
    | false =>
      refine run_loadVar_one hr hg (hw.cell (hc off u ?_))
      simpa using h3 hg
  unfold xelem at h
  split at h
  · rename_i hg hb
    split at h
    · rename_i cs
      simp only [Option.some.injEq] at h
      subst h
      have hle : r.size = es := Nat.eq_of_beq_eq_true hb
      refine main _ ?_
      obtain ⟨xs, rfl, hv⟩ := hv
      have hl := D.repL_length hv
      simp only [Value.cells, List.size_toArray] at hs
      have : Nat.ble (0 + r.size) cs.length = true := Nat.ble_eq_true_of_le (by omega)
      unfold dpart
      simp only [hg, this]
      rw [List.drop_zero, List.take_of_length_le (by omega)]
    · cases h
  · split at h
    · rename_i y' hp
      simp only [Option.some.injEq] at h
      subst h
      exact main _ hp
    · cases h

theorem blkAt_eq {mem : List (Option Blk)} {id : Nat} {b : Blk} (h : blkAt mem id = some b) : mem[id]? = some (some b) := by
  unfold blkAt at h
  split at h
  · rename_i h1; simp only [Option.some.injEq] at h; rw [h1, h]
  · cases h

theorem run_xload (H : Sim w S φ s a) {t : Nat} {r : Row} (hr : RowOk P t r) {p x : V} (h : xload s r p = some x) {pv : Value} (hp : V.rep w S φ p pv) :
    ∃ u, V.rep w S φ x u ∧ ∀ w', Same w w' → (Instr.loadAt t pv).run P w' = .ok u w' := by
  unfold xload at h
  split at h
  · -- a box
    rename_i id off
    obtain ⟨b, o, hphi, rfl⟩ := hp
    split at h
    · rename_i cells hb
      have hent := H.mem.ent id _ (blkAt_eq hb)
      rcases hent with ⟨h0, _, h1⟩ | ⟨b', o', h0, _, _, _, hrep⟩
      · rw [h0] at hphi; cases hphi
      · rw [h0] at hphi
        simp only [Option.some.injEq, Prod.mk.injEq] at hphi
        obtain ⟨rfl, rfl⟩ := hphi
        simp only [Blk.rep] at hrep
        split at h
        · rename_i hg
          split at h
          · rename_i hble
            simp only [Option.some.injEq] at h
            subst h
            have hle : off + r.size ≤ cells.length := Nat.le_of_ble_eq_true hble
            -- the values of these cells
            have : ∃ vs : List Value, V.repL w S φ ((cells.drop off).take r.size) vs ∧ Cells w b' (o' + off) vs := by
              have gen : ∀ (l : List V) (k : Nat), (∀ (j : Nat) x, l[j]? = some x → cells[k + j]? = some x) → ∃ vs : List Value, V.repL w S φ l vs ∧ Cells w b' (o' + k) vs := by
                intro l
                induction l with
                | nil => intro k _; exact ⟨[], rfl, fun j v hj => by simp at hj⟩
                | cons z l ih =>
                  intro k hk
                  obtain ⟨v, hv1, hv2, hv3⟩ := hrep k z (by simpa using hk 0 z rfl)
                  obtain ⟨vs, h1, h2⟩ := ih (k + 1) (fun j x hj => by have := hk (j + 1) x (by simpa using hj); rwa [show k + 1 + j = k + (j + 1) from by omega])
                  refine ⟨v :: vs, ⟨v, vs, rfl, hv3, hv2, h1⟩, fun j u hj => ?_⟩
                  cases j with
                  | zero => simp only [List.getElem?_cons_zero, Option.some.injEq] at hj; subst hj; exact hv1
                  | succ j => have := h2 j u (by simpa using hj); rwa [show o' + (k + 1) + j = o' + k + (j + 1) from by omega] at this
              refine gen _ off (fun j x hj => ?_)
              rw [List.getElem?_take] at hj
              split at hj
              · rwa [List.getElem?_drop] at hj
              · cases hj
            obtain ⟨vs, h1, h2⟩ := this
            refine ⟨_, vagg_rep h1, fun w' hw => ?_⟩
            have hl := V.repL_length h1
            simp only [Instr.loadAt, Instr.sureAddr, Sem.run_bind, Sem.run_pure, Result.andThen_ok]
            exact run_loadVar_agg hr hg (by rw [← hl]; simp; omega) (h2.same hw)
          · cases h
        · rename_i hg
          split at h
          · obtain ⟨v, hv1, hv2, hv3⟩ := hrep off x h
            refine ⟨v, hv3, fun w' hw => ?_⟩
            simp only [Instr.loadAt, Instr.sureAddr, Sem.run_bind, Sem.run_pure, Result.andThen_ok]
            exact run_loadVar_one hr hg (hw.cell hv1)
          · cases h
    · cases h
  · rename_i es xs k off
    obtain ⟨b, o, rfl, h1, h2, h3⟩ := hp
    split at h
    · rename_i x0 hx
      unfold lget at hx
      obtain ⟨v, h4, h5, h6⟩ := D.repE_get h3 hx
      obtain ⟨u, h7, h8⟩ := xelem_rep (φ := φ) hr h h4 h5 h6
      refine ⟨u, h7, fun w' hw => ?_⟩
      simp only [Instr.loadAt, Instr.sureAddr, Sem.run_bind, Sem.run_pure, Result.andThen_ok]
      exact h8 w' hw
    · cases h
  · rename_i es id k off
    obtain ⟨b, o, hphi, rfl⟩ := hp
    split at h
    · rename_i es' xs hb
      split at h
      · rename_i x0 hes hx
        obtain rfl : es = es' := Nat.eq_of_beq_eq_true hes
        rcases H.mem.ent id _ (blkAt_eq hb) with ⟨h0, _, _⟩ | ⟨b', o', h0, _, _, _, hrep⟩
        · rw [h0] at hphi; cases hphi
        · rw [h0] at hphi
          simp only [Option.some.injEq, Prod.mk.injEq] at hphi
          obtain ⟨rfl, rfl⟩ := hphi
          unfold lget at hx
          obtain ⟨v, h4, h5, h6⟩ := D.repE_get hrep hx
          obtain ⟨u, h7, h8⟩ := xelem_rep (φ := φ) hr h h4 h5 h6
          refine ⟨u, h7, fun w' hw => ?_⟩
          simp only [Instr.loadAt, Instr.sureAddr, Sem.run_bind, Sem.run_pure, Result.andThen_ok]
          exact h8 w' hw
      · cases h
    · cases h
  · cases h
end
end Go.Proofs.Ytblmoikhfmkfnaa
