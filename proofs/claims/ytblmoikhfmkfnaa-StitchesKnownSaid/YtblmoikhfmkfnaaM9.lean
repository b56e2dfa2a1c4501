/- The abstract machine, 9: stores, new slices, append. -/
import Derived.Test.YtblmoikhfmkfnaaM8
namespace Go.Proofs.Ytblmoikhfmkfnaa
set_option linter.unusedSimpArgs false
set_option linter.unusedVariables false
open Go.RowKit Go

/-- w2 is w with the cells vs written at (b, o) -/
structure Stored (w : World) (b o : Nat) (vs : List Value) (w2 : World) : Prop where
  row : ∃ cs T fz cs2, w.heap[b]? = some (.cells cs T fz) ∧ w2.heap[b]? = some (.cells cs2 T fz) ∧ cs2.size = cs.size ∧ ∀ j, cs2[j]? = if o ≤ j ∧ j < o + vs.length then vs[j - o]? else cs[j]?
  other : ∀ b', b' ≠ b → w2.heap[b']? = w.heap[b']?
  size : w2.heap.size = w.heap.size
  os : w2.os = w.os
  tape : w2.tape = w.tape
  output : w2.output = w.output

section
variable {P : Program} {L : List (Option Row)} {w : World} {S0 : Nat → Prop} {n0 : Nat} {φ : Phi} {s : XS} {a : Act}

theorem one_cell' {v : Value} (h : one v = true) : v.oneCell' = true := by cases v <;> first | rfl | cases h

theorem run_storeCells (b : Nat) (T : TypeId) (fz : Nat × Nat) : ∀ (vs : List Value) (o i : Nat) (w : World) (cs : Array Value), w.heap[b]? = some (.cells cs T fz) → (∀ i, i < cs.size → ¬ (fz.1 ≤ i ∧ i < fz.2)) → o + i + vs.length ≤ cs.size → (∀ v, v ∈ vs → one v = true) →
    ∃ w2, (storeCells ⟨b, o, none⟩ vs i).run P w = .ok () w2 ∧ Stored w b (o + i) vs w2
  | [], o, i, w, cs, hb, _, _, _ => ⟨w, by simp [storeCells], ⟨⟨cs, T, fz, cs, hb, hb, rfl, fun j => by simp only [List.length_nil]; rw [if_neg (by omega)]⟩, fun _ _ => rfl, rfl, rfl, rfl, rfl⟩⟩
  | v :: vs, o, i, w, cs, hb, hf, hle, h1 => by
    simp only [List.length_cons] at hle
    have hlt : o + i < cs.size := by omega
    have hblt : b < w.heap.size := (Array.getElem?_eq_some_iff.1 hb).1
    have hcell : w.cell? ⟨b, o + i, none⟩ = some cs[o + i] := by simp [World.cell?, hb, hlt]
    have hfro : w.frozen? ⟨b, o + i, none⟩ = false := by
      simp only [World.frozen?, hb]
      have := hf (o + i) hlt
      simp only [Bool.and_eq_false_iff, decide_eq_false_iff_not]
      omega
    have hb2 : (w.setCell ⟨b, o + i, none⟩ v).heap[b]? = some (.cells (cs.setIfInBounds (o + i) v) T fz) := by
      simp only [World.setCell, Array.getElem?_modify, hb]; simp
    obtain ⟨w2, h2, hs⟩ := run_storeCells b T fz vs o (i + 1) (w.setCell ⟨b, o + i, none⟩ v) _ hb2 (fun k hk => hf k (by simpa using hk)) (by simp; omega) (fun u hu => h1 u (by simp [hu]))
    refine ⟨w2, ?_, ?_⟩
    · simp only [storeCells, Sem.run_bind, addr_add, run_store P w _ v _ (one_cell' (h1 v (by simp))), hcell, hfro]
      simpa using h2
    · obtain ⟨cs', T', fz', cs2, k1, k2, k3, k4⟩ := hs.row
      rw [hb2] at k1
      simp only [Option.some.injEq, Obj.cells.injEq] at k1
      obtain ⟨rfl, rfl, rfl⟩ := k1
      refine ⟨⟨cs, T, fz, cs2, hb, k2, by simpa using k3, fun j => ?_⟩, fun b' hb' => ?_, ?_, hs.os, hs.tape, hs.output⟩
      · rw [k4 j]
        simp only [List.length_cons]
        by_cases hj : j = o + i
        · subst hj
          rw [if_neg (by omega), if_pos (by omega)]
          simp [hlt]
        · by_cases hj2 : o + i + 1 ≤ j ∧ j < o + i + 1 + vs.length
          · rw [if_pos (by omega), if_pos (by omega)]
            rw [show j - (o + i) = (j - (o + (i + 1))) + 1 from by omega]
            simp
          · rw [if_neg (by omega), if_neg (by omega)]
            rw [Array.getElem?_setIfInBounds]
            rw [if_neg (by omega)]
      · rw [hs.other b' hb', World.setCell]
        simp only [Array.getElem?_modify]
        rw [if_neg (by omega)]
      · rw [hs.size]; simp [World.setCell]

theorem Stored.cell_same {b o : Nat} {vs : List Value} {w2 : World} (h : Stored w b o vs w2) {b' j : Nat} (hb : b' ≠ b ∨ j < o ∨ o + vs.length ≤ j) : w2.cell? ⟨b', j, none⟩ = w.cell? ⟨b', j, none⟩ := by
  by_cases he : b' = b
  · subst he
    obtain ⟨cs, T, fz, cs2, k1, k2, k3, k4⟩ := h.row
    simp only [World.cell?, k1, k2]
    simp only [Option.isSome_none, Bool.false_eq_true, if_false]
    rcases hb with hb | hb
    · exact absurd rfl hb
    · rw [k4 j, if_neg (by omega)]
  · simp only [World.cell?, h.other b' he]
theorem Stored.cell_new {b o : Nat} {vs : List Value} {w2 : World} (h : Stored w b o vs w2) (j : Nat) (hj : j < vs.length) : w2.cell? ⟨b, o + j, none⟩ = vs[j]? := by
  obtain ⟨cs, T, fz, cs2, k1, k2, k3, k4⟩ := h.row
  simp only [World.cell?, k2]
  simp only [Option.isSome_none, Bool.false_eq_true, if_false]
  rw [k4, if_pos (by omega), Nat.add_sub_cancel_left]

/-- a store into one of the call's own blocks carries all data -/
theorem carry_stored (H : MemRel w (SS S0 n0 φ) φ s.mem) {b o : Nat} {vs : List Value} {w2 : World} (h : Stored w b o vs w2) (hb : φ.has b) : CarryV w (SS S0 n0 φ) φ w2 (SS S0 n0 φ) φ where
  sub _ hb _ := hb
  same b' hb' _ := h.other b' (fun he => hb'.2 (he ▸ hb))
  size := by rw [h.size]; exact Nat.le_refl _
  phi _ _ _ h := h
  rows id b' o' cs T fz hp hh := by
    by_cases he : b' = b
    · subst he
      obtain ⟨cs', T', fz', cs2, k1, k2, k3, k4⟩ := h.row
      rw [hh] at k1
      simp only [Option.some.injEq, Obj.cells.injEq] at k1
      obtain ⟨rfl, rfl, rfl⟩ := k1
      exact ⟨cs2, T, fz, k2, by omega⟩
    · exact ⟨cs, T, fz, by rw [h.other b' he]; exact hh, Nat.le_refl _⟩
theorem frame_stored (H : MemRel w (SS S0 n0 φ) φ s.mem) {b o : Nat} {vs : List Value} {w2 : World} (h : Stored w b o vs w2) (hb : φ.has b) : FrameTo φ w φ w2 :=
  ⟨h.os, h.tape, h.output, by rw [h.size]; exact Nat.le_refl _, fun b' _ hn => h.other b' (fun he => hn (he ▸ hb)), fun b' hb' => .inl hb'⟩

/-- the memory behind a store: one block has turned -/
theorem sim_stored (H : Sim w (SS S0 n0 φ) φ s a) {id b o : Nat} {blk blk2 : Blk} (hm : s.mem[id]? = some (some blk)) (hp : φ[id]? = some (some (b, o))) {p : Nat} {vs : List Value} {w2 : World} (h : Stored w b p vs w2)
    (hb : Blk.rep w2 (SS S0 n0 φ) φ blk2 b o) : Sim w2 (SS S0 n0 φ) φ ⟨s.sl, s.mem.set id (some blk2)⟩ a := by
  have hhas : φ.has b := ⟨id, o, hp⟩
  have C := carry_stored H.mem h hhas
  refine ⟨fun i => V.rep_mono C _ _ (H.slots i), H.size, ?_, H.defers⟩
  have hid : id < s.mem.length := (List.getElem?_eq_some_iff.1 hm).1
  refine ⟨by simp [H.mem.len], fun i bk hi => ?_, fun i hi => ?_, H.mem.inj⟩
  · by_cases he : id = i
    · subst he
      rw [List.getElem?_set_self hid] at hi
      simp only [Option.some.injEq] at hi
      subst hi
      rcases H.mem.ent id blk hm with ⟨h0, _⟩ | ⟨b', o', h0, h1, h2, ⟨cs, T, fz, h3, h4⟩, _⟩
      · rw [h0] at hp; cases hp
      · rw [h0] at hp
        simp only [Option.some.injEq, Prod.mk.injEq] at hp
        obtain ⟨rfl, rfl⟩ := hp
        obtain ⟨cs', T', fz', cs2, k1, k2, k3, k4⟩ := h.row
        rw [h3] at k1
        simp only [Option.some.injEq, Obj.cells.injEq] at k1
        obtain ⟨rfl, rfl, rfl⟩ := k1
        exact .inr ⟨b', o', h0, h1, by rw [h.size]; exact h2, ⟨cs2, T, fz, k2, fun i hi => h4 i (by omega)⟩, hb⟩
    · rw [List.getElem?_set_ne he] at hi
      rcases H.mem.ent i bk hi with ⟨h0, h1⟩ | ⟨b', o', h0, h1, h2, ⟨cs, T, fz, h3, h4⟩, h5⟩
      · exact .inl ⟨h0, h1⟩
      · have hne : b' ≠ b := fun hh => he (H.mem.inj id i b o o' hp (hh ▸ h0))
        exact .inr ⟨b', o', h0, h1, by rw [h.size]; exact h2, ⟨cs, T, fz, by rw [h.other b' hne]; exact h3, h4⟩, Blk.rep_mono C (h.other b' hne) h5⟩
  · by_cases he : id = i
    · subst he
      rw [List.getElem?_set_self hid] at hi
      cases hi
    · rw [List.getElem?_set_ne he] at hi
      exact H.mem.dead i hi

theorem MemRel.at {S : Nat → Prop} {mem : List (Option Blk)} (H : MemRel w S φ mem) {id b o : Nat} {blk : Blk} (hm : blkAt mem id = some blk) (hp : φ[id]? = some (some (b, o))) :
    mem[id]? = some (some blk) ∧ ¬ S b ∧ b < w.heap.size ∧ (∃ cs T fz, w.heap[b]? = some (.cells cs T fz) ∧ ∀ i, i < cs.size → ¬ (fz.1 ≤ i ∧ i < fz.2)) ∧ Blk.rep w S φ blk b o := by
  have hm' := blkAt_eq hm
  rcases H.ent id blk hm' with ⟨h0, _⟩ | ⟨b', o', h0, h1, h2, h3, h4⟩
  · rw [h0] at hp; cases hp
  · rw [h0] at hp
    simp only [Option.some.injEq, Prod.mk.injEq] at hp
    obtain ⟨rfl, rfl⟩ := hp
    exact ⟨hm', h1, h2, h3, h4⟩

theorem repL_all_one {S : Nat → Prop} {vs : List V} {xs : List Value} (h : V.repL w S φ vs xs) : ∀ v, v ∈ xs → one v = true := by
  induction vs generalizing xs with
  | nil => simp only [V.repL] at h; subst h; simp
  | cons z vs ih =>
    obtain ⟨y, ys, rfl, _, h2, h3⟩ := h
    intro v hv
    rcases List.mem_cons.1 hv with rfl | hv
    · exact h2
    · exact ih h3 v hv
theorem repL_all_oneD {S : Nat → Prop} {vs : List D} {xs : List Value} (h : D.repL w S vs xs) : ∀ v, v ∈ xs → one v = true := by
  induction vs generalizing xs with
  | nil => simp only [D.repL] at h; subst h; simp
  | cons z vs ih =>
    obtain ⟨y, ys, rfl, _, h2, h3⟩ := h
    intro v hv
    rcases List.mem_cons.1 hv with rfl | hv
    · exact h2
    · exact ih h3 v hv

/-- the run of a store through an address -/
theorem run_storeVar {t : Nat} {r : Row} (hr : RowOk P t r) {b o : Nat} {v : Value} {cs : Array Value} {T : TypeId} {fz : Nat × Nat} (hsz : v.cells.size = r.size) (hb : w.heap[b]? = some (.cells cs T fz)) (hf : ∀ i, i < cs.size → ¬ (fz.1 ≤ i ∧ i < fz.2))
    (hle : o + v.cells.size ≤ cs.size) (h1 : ∀ u, u ∈ v.cells.toList → one u = true) :
    ∃ w2, (Instr.storeAt t (.pointer (some ⟨b, o, none⟩)) v).run P w = .ok () w2 ∧ Stored w b o v.cells.toList w2 := by
  obtain ⟨w2, h2, h3⟩ := run_storeCells (P := P) b T fz v.cells.toList o 0 w cs hb hf (by simpa using hle) h1
  refine ⟨w2, ?_, h3⟩
  simp [Instr.storeAt, Instr.sureAddr, storeVar, Sem.run_bind, hr.run_size, hsz, h2]

/-- where cells are read, the row is long enough -/
theorem row_le {b o : Nat} {cs : Array Value} {T : TypeId} {fz : Nat × Nat} (hb : w.heap[b]? = some (.cells cs T fz)) {v : Value} (h : w.cell? ⟨b, o, none⟩ = some v) : o < cs.size := by
  simp only [World.cell?, hb] at h
  simp only [Option.isSome_none, Bool.false_eq_true, if_false] at h
  exact (Array.getElem?_eq_some_iff.1 h).1

theorem run_store_box (hL : LayOk P L) (H : Sim w (SS S0 n0 φ) φ s a) {t : Nat} {r : Row} (hr : (rowAt L t) = some r) {id off : Nat} {cells vs : List V} {p x : V} {pv xv : Value} (hp : V.rep w (SS S0 n0 φ) φ (.ptr id off) pv) (hx : V.rep w (SS S0 n0 φ) φ x xv)
    (hb : blkAt s.mem id = some (.box cells)) (hvs : vcells r.agg x = some vs) (h1 : vs.length = r.size) (h2 : off + vs.length ≤ cells.length) (h0 : r.size ≠ 0) :
    ∃ w2, (Instr.storeAt t pv xv).run P w = .ok () w2 ∧ Sim w2 (SS S0 n0 φ) φ ⟨s.sl, s.mem.set id (some (.box (splice cells off vs)))⟩ a ∧ FrameTo φ w φ w2 ∧ ∀ b', (∀ o : Nat, φ[id]? ≠ some (some (b', o))) → w2.heap[b']? = w.heap[b']? := by
  obtain ⟨b, o, hphi, rfl⟩ := hp
  obtain ⟨hm, _, hlt, ⟨cs, T, fz, hheap, hfz⟩, hrep⟩ := H.mem.at hb hphi
  have hu := (vcells_rep hvs hx).1
  have hlu := V.repL_length hu
  have hsz : xv.cells.size = vs.length := by rw [hlu]; simp
  have hrow : o + off + xv.cells.size ≤ cs.size := by
    obtain ⟨z, hz⟩ : ∃ z, cells[off + vs.length - 1]? = some z := ⟨_, List.getElem?_eq_getElem (by omega)⟩
    obtain ⟨v, hv, _, _⟩ := hrep _ z hz
    have := row_le hheap hv
    omega
  obtain ⟨w2, h3, h4⟩ := run_storeVar (hL t r hr) (by omega) hheap hfz hrow (repL_all_one hu)
  refine ⟨w2, h3, ?_, frame_stored H.mem h4 ⟨id, o, hphi⟩, fun b' hb' => h4.other b' (fun he => hb' o (by rw [he]; exact hphi))⟩
  have C := carry_stored H.mem h4 ⟨id, o, hphi⟩
  refine sim_stored H hm hphi h4 (fun j y hj => ?_)
  unfold splice at hj
  by_cases hj1 : j < off
  · rw [List.getElem?_append_left (by simp; omega), List.getElem?_take, if_pos hj1] at hj
    obtain ⟨v, k1, k2, k3⟩ := hrep j y hj
    exact ⟨v, by rw [h4.cell_same (.inr (.inl (by omega)))]; exact k1, k2, V.rep_mono C _ _ k3⟩
  · rw [List.getElem?_append_right (by simp; omega)] at hj
    have hto : (cells.take off).length = off := by simp; omega
    rw [hto] at hj
    by_cases hj2 : j - off < vs.length
    · rw [List.getElem?_append_left hj2] at hj
      obtain ⟨v, k1, k2, k3⟩ := ((V.repL_iff _ _).1 hu).2 _ y hj
      refine ⟨v, ?_, k3, V.rep_mono C _ _ k2⟩
      rw [show o + j = o + off + (j - off) from by omega, h4.cell_new _ (by simpa [hsz] using hj2)]
      exact k1
    · rw [List.getElem?_append_right (by omega), List.getElem?_drop] at hj
      obtain ⟨v, k1, k2, k3⟩ := hrep _ y hj
      have e : off + vs.length + (j - off - vs.length) = j := by omega
      rw [e] at k1
      exact ⟨v, by rw [h4.cell_same (.inr (.inr (by simp [hsz]; omega)))]; exact k1, k2, V.rep_mono C _ _ k3⟩
end
end Go.Proofs.Ytblmoikhfmkfnaa
