/- The abstract machine, 10: arrays of data: a store, a new slice, an append. -/
import Derived.Test.YtblmoikhfmkfnaaM9
namespace Go.Proofs.Ytblmoikhfmkfnaa
set_option linter.unusedSimpArgs false
set_option linter.unusedVariables false
open Go.RowKit Go

section
variable {P : Program} {L : List (Option Row)} {w : World} {S0 : Nat → Prop} {n0 : Nat} {φ : Phi} {s : XS} {a : Act}

theorem D.repE_of_get {S : Nat → Prop} {es b : Nat} : ∀ {xs : List D} {o : Nat}, (∀ (k : Nat) x, xs[k]? = some x → ∃ v, D.rep w S x v ∧ v.cells.size = es ∧ Cells w b (o + k * es) v.cells.toList) → D.repE w S es b xs o
  | [], _, _ => trivial
  | x :: xs, o, h => by
    obtain ⟨v, h1, h2, h3⟩ := h 0 x rfl
    refine ⟨⟨v, h1, h2, (cells_of h2).2 (by simpa using h3)⟩, D.repE_of_get fun k y hk => ?_⟩
    obtain ⟨u, h4, h5, h6⟩ := h (k + 1) y (by simpa using hk)
    exact ⟨u, h4, h5, by rwa [show o + es + k * es = o + (k + 1) * es from by rw [Nat.add_mul]; omega]⟩

theorem isOne_of_not {d : D} (h : ∀ cs, d = .agg cs → False) : isOne d = true := by cases d <;> first | rfl | exact (h _ rfl).elim

theorem run_store_arr (hL : LayOk P L) (H : Sim w (SS S0 n0 φ) φ s a) {t : Nat} {r : Row} (hr : (rowAt L t) = some r) {es id k off : Nat} {xs : List D} {p : V} {x x0 x1 : D} {pv xv : Value} (hp : V.rep w (SS S0 n0 φ) φ (.aptr es id k off) pv) (hx : D.rep w (SS S0 n0 φ) x xv)
    (hb : blkAt s.mem id = some (.arr es xs)) (hg : xs[k]? = some x0) (hd : dsplice x0 off r x = some x1) :
    ∃ w2, (Instr.storeAt t pv xv).run P w = .ok () w2 ∧ Sim w2 (SS S0 n0 φ) φ ⟨s.sl, s.mem.set id (some (.arr es (xs.set k x1)))⟩ a ∧ FrameTo φ w φ w2 ∧ ∀ b', (∀ o : Nat, φ[id]? ≠ some (some (b', o))) → w2.heap[b']? = w.heap[b']? := by
  obtain ⟨b, o, hphi, rfl⟩ := hp
  obtain ⟨hm, _, hlt, ⟨cs, T, fz, hheap, hfz⟩, hrep⟩ := H.mem.at hb hphi
  simp only [Blk.rep] at hrep
  obtain ⟨v0, hv0, hs0, hc0⟩ := D.repE_get hrep hg
  have hro := hL t r hr
  have hklt : k < xs.length := (List.getElem?_eq_some_iff.1 hg).1
  -- the new element's value
  have new : ∃ v1, D.rep w (SS S0 n0 φ) x1 v1 ∧ xv.cells.size = r.size ∧ 0 < xv.cells.size ∧ off + xv.cells.size ≤ es ∧ (∀ u, u ∈ xv.cells.toList → one u = true) ∧ v1.cells.toList = v0.cells.toList.take off ++ (xv.cells.toList ++ v0.cells.toList.drop (off + xv.cells.size)) := by
    unfold dsplice at hd
    split at hd
    · rename_i vs cs' hra
      split at hd
      · rename_i e1 e2
        simp only [Option.some.injEq] at hd
        subst hd
        simp only [Bool.and_eq_true] at e1
        have e1' : vs.length = r.size := Nat.eq_of_beq_eq_true e1.1
        have e1'' : 1 ≤ r.size := Nat.le_of_ble_eq_true e1.2
        have e2' : off + vs.length ≤ cs'.length := Nat.le_of_ble_eq_true e2
        obtain ⟨ys, rfl, hys⟩ := hx
        obtain ⟨zs, rfl, hzs⟩ := hv0
        have l1 := D.repL_length hys
        have l2 := D.repL_length hzs
        simp only [Value.cells, List.size_toArray] at hs0 ⊢
        refine ⟨.agg (zs.take off ++ (ys ++ zs.drop (off + vs.length))).toArray, ⟨_, rfl, D.repL_append (D.repL_take _ hzs) (D.repL_append hys (D.repL_drop _ hzs))⟩, by omega, by omega, by omega, repL_all_oneD hys, by simp [l1]⟩
      · cases hd
    · rename_i cs' hra
      split at hd
      · rename_i e1 e2
        simp only [Option.some.injEq] at hd
        subst hd
        have e2' : off + 1 ≤ cs'.length := Nat.le_of_ble_eq_true e2
        have ho : one xv = true := D.rep_one hx e1
        obtain ⟨zs, rfl, hzs⟩ := hv0
        have l2 := D.repL_length hzs
        rw [cells_one ho]
        simp only [Value.cells, List.size_toArray] at hs0 ⊢
        refine ⟨.agg (zs.take off ++ ([xv] ++ zs.drop (off + 1))).toArray, ⟨_, rfl, ?_⟩, by rw [hro.nagg hra]; rfl, by simp, by simp; omega, fun u hu => by simp at hu; subst hu; exact ho, by simp⟩
        exact D.repL_append (D.repL_take _ hzs) (D.repL_append (a := [_]) ⟨xv, [], rfl, hx, ho, rfl⟩ (D.repL_drop _ hzs))
      · cases hd
    · rename_i hra hnot
      split at hd
      · rename_i e1
        simp only [Option.some.injEq] at hd
        subst hd
        have ho : one xv = true := D.rep_one hx e1
        have ho0 : one v0 = true := D.rep_one hv0 (isOne_of_not hnot)
        rw [cells_one ho0] at hs0 ⊢
        rw [cells_one ho]
        exact ⟨xv, hx, by rw [hro.nagg hra]; rfl, by simp, by simp at hs0 ⊢; omega, fun u hu => by simp at hu; subst hu; exact ho, by simp [cells_one ho]⟩
      · cases hd
    · cases hd
  obtain ⟨v1, hv1, n1, n2, n3, n4, n5⟩ := new
  have hl1 : v1.cells.size = es := by
    have := congrArg List.length n5
    simp only [Array.length_toList, List.length_append, List.length_take, List.length_drop] at this
    omega
  have hrow : o + k * es + off + xv.cells.size ≤ cs.size := by
    have hz : v0.cells.toList[off + xv.cells.size - 1]? = some (v0.cells.toList[off + xv.cells.size - 1]'(by simp; omega)) := List.getElem?_eq_getElem _
    have := row_le hheap (hc0 _ _ hz)
    omega
  obtain ⟨w2, h3, h4⟩ := run_storeVar (b := b) (o := o + k * es + off) hro n1 hheap hfz hrow n4
  refine ⟨w2, h3, ?_, frame_stored H.mem h4 ⟨id, o, hphi⟩, fun b' hb' => h4.other b' (fun he => hb' o (by rw [he]; exact hphi))⟩
  have C := carry_stored H.mem h4 ⟨id, o, hphi⟩
  refine sim_stored H hm hphi h4 (D.repE_of_get fun j y hj => ?_)
  by_cases he : k = j
  · subst he
    rw [List.getElem?_set_self hklt] at hj
    simp only [Option.some.injEq] at hj
    subst hj
    refine ⟨v1, D.rep_mono C.toCarry _ _ hv1, hl1, ?_⟩
    rw [n5]
    have hto : (v0.cells.toList.take off).length = off := by simp; omega
    have c1 : Cells w b (o + k * es) (v0.cells.toList.take off) := fun j u hj => by
      rw [List.getElem?_take] at hj
      split at hj
      · exact hc0 j u hj
      · cases hj
    refine Cells.append.2 ⟨fun j u hj => ?_, Cells.append.2 ⟨fun j u hj => ?_, fun j u hj => ?_⟩⟩
    · have hlt' := (List.getElem?_eq_some_iff.1 hj).1
      rw [h4.cell_same (.inr (.inl (by omega)))]
      exact c1 j u hj
    · rw [hto, h4.cell_new j (List.getElem?_eq_some_iff.1 hj).1]; exact hj
    · rw [List.getElem?_drop] at hj
      rw [hto]
      have e : o + k * es + off + xv.cells.toList.length + j = o + k * es + (off + xv.cells.size + j) := by simp; omega
      rw [e, h4.cell_same (.inr (.inr (by simp; omega)))]
      exact hc0 _ _ hj
  · rw [List.getElem?_set_ne he] at hj
    obtain ⟨v, k1, k2, k3⟩ := D.repE_get hrep hj
    refine ⟨v, D.rep_mono C.toCarry _ _ k1, k2, fun i u hi => ?_⟩
    have hi' : i < es := by
      have := (List.getElem?_eq_some_iff.1 hi).1
      simpa [k2] using this
    rw [h4.cell_same (.inr ?_)]
    · exact k3 i u hi
    · simp only [Array.length_toList]
      rcases Nat.lt_or_gt_of_ne he with hlt' | hgt
      · right
        have : (k + 1) * es ≤ j * es := Nat.mul_le_mul_right _ hlt'
        rw [Nat.add_mul] at this
        omega
      · left
        have : (j + 1) * es ≤ k * es := Nat.mul_le_mul_right _ hgt
        rw [Nat.add_mul] at this
        omega

theorem made_get (z : Array Value) (n : Nat) (k j : Nat) (hk : k < n) (hj : j < z.size) : (madeCells z (n * z.size))[k * z.size + j]? = z[j]? := by
  have hlt : k * z.size + j < n * z.size := by
    have : (k + 1) * z.size ≤ n * z.size := Nat.mul_le_mul_right _ hk
    rw [Nat.add_mul] at this
    omega
  have hm : (k * z.size + j) % z.size = j := by
    rw [Nat.add_comm, Nat.add_mul_mod_self_right, Nat.mod_eq_of_lt hj]
  unfold madeCells
  simp only [Array.getElem?_map, Array.getElem?_range]
  simp [hlt, hm, hj]

/-- the zero of an element -/
theorem zel_rep {t : Nat} {r : Row} (hr : RowOk P t r) {z : D} (hz : zel r = some z) {zv : Value} (h1 : zv.cells.toList = r.zero.map dstat) (h2 : (∃ xs, zv = .agg xs) ↔ r.agg = true) (w : World) (S : Nat → Prop) : D.rep w S z zv ∧ zv.cells.size = r.size := by
  have hsz : zv.cells.size = r.size := by
    have := congrArg List.length h1
    simpa [hr.zlen] using this
  refine ⟨?_, hsz⟩
  unfold zel at hz
  split at hz
  · rename_i hg
    simp only [Option.some.injEq] at hz
    subst hz
    obtain ⟨xs, rfl⟩ := h2.2 hg
    refine ⟨xs.toList, by simp, ?_⟩
    have : xs.toList = r.zero.map dstat := by simpa [Value.cells] using h1
    rw [this]; exact zeros_rep hr.zero
  · rename_i z' hg hzz
    simp only [Option.some.injEq] at hz
    subst hz
    have ho : one zv = true := by
      have hn : ¬ ∃ xs, zv = .agg xs := fun hh => by rw [h2.1 hh] at hg; cases hg
      obtain ⟨i, hi, _⟩ := hr.info
      cases zv with
      | agg xs => exact (hn ⟨xs, rfl⟩).elim
      | tuple xs =>
        simp only [Value.cells, hzz, List.map_cons, List.map_nil] at h1
        simp at h1
        have := (dstatic_rep (w := w) (S := S) (hr.zero z' (by simp [hzz]))).2
        rw [← h1] at this
        cases this
      | _ => rfl
    rw [cells_one ho, hzz] at h1
    simp at h1
    rw [h1]
    exact (dstatic_rep (hr.zero z' (by simp [hzz]))).1
  · cases hz

theorem run_xmake (hL : LayOk P L) (hn : n0 ≤ w.heap.size) (H : Sim w (SS S0 n0 φ) φ s a) {t e : Nat} {r re : Row} (hr : (rowAt L t) = some r) (hrt : r.td = .sl e) (hre : (rowAt L e) = some re) {kl kc : IntKind} {n m : Int} {n' m' : Nat} {z : D} (cl : Bool) (hcl : cl = true → n = m) (hmk : mkn n m re.bytes = some (n', m')) (hz : zel re = some z) :
    ∃ v w2 φ2, (Instr.makeSlice t (.int kl n) (.int kc m)).run P w = .ok v w2 ∧ V.rep w2 (SS S0 n0 φ2) φ2 (.own re.size s.mem.length 0 n' cl) v ∧ Sim w2 (SS S0 n0 φ2) φ2 ⟨s.sl, s.mem ++ [some (.arr re.size (lrep n' z))]⟩ a ∧ FrameTo φ w φ2 w2 ∧ (∃ ob, w2 = w.alloc ob) ∧ ∃ x, φ2 = φ ++ [x] := by
  have hro := hL t r hr
  have hreo := hL e re hre
  obtain ⟨d, hd, htd⟩ := hro.und
  rw [hrt] at htd
  simp only [tdOk] at htd
  subst htd
  obtain ⟨i, hi, hs, hb, zv, hzv, hzc, hza⟩ := hreo.info
  unfold mkn at hmk
  split at hmk
  · rename_i hc
    simp only [Option.some.injEq, Prod.mk.injEq] at hmk
    obtain ⟨rfl, rfl⟩ := hmk
    obtain ⟨c1, c2, c3, c4⟩ := hc
    have hmax : (m : Int) ≤ 9223372036854775807 := by simpa [maxLen] using c3
    have hrun := run_make (P := P) w t e i zv hd hi hzv kl kc n m c1 c2 (by rw [hb]; omega) hmax
    obtain ⟨hzr, hzs⟩ := zel_rep hreo hz hzc hza w (SS S0 n0 φ)
    refine ⟨_, _, φ ++ [some (w.heap.size, 0)], hrun, .inr ⟨w.heap.size, 0, m.toNat, _, _, _, by rw [phi_append, if_neg (by rw [H.mem.len]; omega), if_pos H.mem.len.symm], by simp, by omega, by simp [maxLen]; omega, fun h => by rw [hcl h], heap_alloc_at _ _, ?_⟩, ?_, frame_alloc _ _ _ _, ⟨_, rfl⟩, ⟨_, rfl⟩⟩
    · rw [size_madeCells, hs]; simp
    · refine sim_alloc hn H _ _ _ ?_
      have C := carry_alloc (k := 0) hn H.mem (.cells (madeCells zv.cells (m.toNat * i.size)) e)
      refine D.repE_of_get fun k x hk => ?_
      unfold lrep at hk
      rw [List.getElem?_replicate] at hk
      split at hk
      · rename_i hklt
        simp only [Option.some.injEq] at hk
        subst hk
        refine ⟨zv, D.rep_mono C.toCarry _ _ hzr, hzs, fun j u hj => ?_⟩
        rw [cell_new, Nat.zero_add, hs, ← hzs]
        have hj' : j < zv.cells.size := by simpa using (List.getElem?_eq_some_iff.1 hj).1
        rw [made_get _ _ _ _ (by omega) hj']
        simpa using hj
      · cases hk
  · cases hmk
end
end Go.Proofs.Ytblmoikhfmkfnaa
