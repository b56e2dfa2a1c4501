/- The abstract machine, 12: append, literals of slices, new variables; all operations that make or write memory in one. -/
import Derived.Test.YtblmoikhfmkfnaaM11
namespace Go.Proofs.Ytblmoikhfmkfnaa
set_option linter.unusedSimpArgs false
set_option linter.unusedVariables false
open Go.RowKit Go

section
variable {P : Program} {L : List (Option Row)} {w : World} {S0 : Nat → Prop} {n0 : Nat} {φ : Phi} {s : XS} {a : Act}

theorem chunks_rep {S : Nat → Prop} {g : Bool} {es : Nat} (hes : g = false → es = 1) : ∀ (n : Nat) (cs : List V) (ys : List D) (xs : List Value), chunks g es n cs = some ys → V.repL w S φ cs xs → ys.length = n ∧ D.repF w S es ys (xs.take (n * es))
  | 0, cs, ys, xs, h, hx => by simp only [chunks, Option.some.injEq] at h; subst h; simp [D.repF]
  | n + 1, cs, ys, xs, h, hx => by
    simp only [chunks] at h
    split at h
    · rename_i ds rest hds hrest
      have hall := allD_eq hds
      have ih := chunks_rep hes n _ _ _ hrest (V.repL_drop es hx)
      have htk := V.repL_take es hx
      rw [hall, V.repL_mapD] at htk
      have hlen : ds.length = (xs.take es).length := D.repL_length htk
      have split' : xs.take ((n + 1) * es) = xs.take es ++ (xs.drop es).take (n * es) := by
        rw [show (n + 1) * es = es + n * es from by rw [Nat.add_mul]; omega, List.take_add]
      have done : ∀ (d : D) (v : Value), D.rep w S d v → v.cells.toList = xs.take es → v.cells.size = es → (d :: rest).length = n + 1 ∧ D.repF w S es (d :: rest) (xs.take ((n + 1) * es)) := by
        intro d v h1 h2 h3
        refine ⟨by simp [ih.1], v, _, ?_, h1, h3, ih.2⟩
        rw [split', h2]
      split at h
      · rename_i hbq
        simp only [Option.some.injEq] at h
        subst h
        have hbq' : ds.length = es := Nat.eq_of_beq_eq_true hbq
        exact done (.agg ds) (.agg (xs.take es).toArray) ⟨_, rfl, htk⟩ rfl (by simp [Value.cells]; simp at hlen; omega)
      · split at h
        · rename_i x _
          split at h
          · rename_i ho
            simp only [Option.some.injEq] at h
            subst h
            obtain ⟨y, ys', he, h1, h2, h3⟩ := htk
            simp only [D.repL] at h3
            subst h3
            refine done x y h1 (by rw [cells_one h2, he]) (by rw [cells_one h2, hes rfl]; rfl)
          · cases h
        · cases h
      · cases h
    · cases h

/-- the elements of a slice: what a loop over its cells reads -/
theorem xcontent_rep (H : Sim w (SS S0 n0 φ) φ s a) {t : Nat} {re : Row} (hre : RowOk P t re) {q : V} {ys : List D} (h : xcontent s re q = some ys) {v : Value} (hv : V.rep w (SS S0 n0 φ) φ q v) :
    ∃ (base : Option Addr) (cap : Nat) (cs : List Value), v = .slice base ys.length cap ∧ D.repF w (SS S0 n0 φ) re.size ys cs ∧ (base = none → ys = []) ∧ ∀ ad, base = some ad → ∀ (j : Nat) u, cs[j]? = some u → w.cell? (ad.add j) = some u := by
  unfold xcontent at h
  split at h
  · rename_i es c xs
    have main : (xs = [] ∨ es = re.size) → ys = xs → ∃ (base : Option Addr) (cap : Nat) (cs : List Value), v = .slice base ys.length cap ∧ D.repF w (SS S0 n0 φ) re.size ys cs ∧ (base = none → ys = []) ∧ ∀ ad, base = some ad → ∀ (j : Nat) u, cs[j]? = some u → w.cell? (ad.add j) = some u := by
      intro hx hy
      subst hy
      rcases hv with ⟨rfl, a0, rfl⟩ | ⟨b, o, cap, rfl, _, _, _, _, _, hE⟩
      · exact ⟨a0, 0, [], rfl, rfl, fun _ => rfl, fun ad h j u hj => by simp at hj⟩
      · rcases hx with rfl | rfl
        · exact ⟨some ⟨b, o, none⟩, cap, [], rfl, rfl, fun h => (by cases h), fun ad _ j u hj => by simp at hj⟩
        · obtain ⟨cs, h1, h2⟩ := D.repE_iff.1 hE
          refine ⟨some ⟨b, o, none⟩, cap, cs, rfl, h1, fun h => (by cases h), fun ad he j u hj => ?_⟩
          simp only [Option.some.injEq] at he
          subst he
          rw [addr_add]; exact h2 j u hj
    split at h
    · simp only [Option.some.injEq] at h
      exact main (.inl rfl) h.symm
    · rename_i hbq _
      simp only [Option.some.injEq] at h
      exact main (.inr (Nat.eq_of_beq_eq_true hbq)) h.symm
    · cases h
  · rename_i es id off len c
    have nil : ∀ zs : List D, ys = zs → zs = [] → len = 0 → ∀ a0, v = .slice a0 0 0 → ∃ (base : Option Addr) (cap : Nat) (cs : List Value), v = .slice base ys.length cap ∧ D.repF w (SS S0 n0 φ) re.size ys cs ∧ (base = none → ys = []) ∧ ∀ ad, base = some ad → ∀ (j : Nat) u, cs[j]? = some u → w.cell? (ad.add j) = some u := by
      rintro zs rfl rfl _ a0 rfl
      exact ⟨a0, 0, [], rfl, rfl, fun _ => rfl, fun ad _ j u hj => by simp at hj⟩
    split at h
    · rename_i es' xs hbq hblk
      have hes : es = re.size := Nat.eq_of_beq_eq_true hbq
      split at h
      · rename_i hbq'
        have hes' : es = es' := Nat.eq_of_beq_eq_true hbq'
        subst hes hes'
        unfold lsubc at h
        split at h
        · rename_i hle
          simp only [Option.some.injEq] at h
          rcases hv with ⟨rfl, rfl, a0, rfl, _⟩ | ⟨b, o, cap, cs, T, fz, hphi, rfl, hlc, _⟩
          · exact nil _ h.symm (by simp) rfl a0 rfl
          · obtain ⟨_, _, _, _, hrep⟩ := H.mem.at hblk hphi
            obtain ⟨ds, h1, h2⟩ := D.repE_iff.1 hrep
            have h3 := D.repF_take len (D.repF_drop off h1)
            rw [h] at h3
            have hyl : ys.length = len := by rw [← h]; simp; omega
            refine ⟨_, cap, _, by rw [hyl], h3, fun h => (by cases h), fun ad he j u hj => ?_⟩
            simp only [Option.some.injEq] at he
            subst he
            rw [addr_add]
            rw [List.getElem?_take] at hj
            split at hj
            · rw [List.getElem?_drop] at hj
              have := h2 _ u hj
              rwa [← Nat.add_assoc] at this
            · cases hj
        · cases h
      · cases h
    · rename_i cells hbq hblk
      have hes : es = re.size := Nat.eq_of_beq_eq_true hbq
      subst hes
      rcases hv with ⟨rfl, rfl, a0, rfl, _⟩ | ⟨b, o, cap, cs, T, fz, hphi, rfl, hlc, _⟩
      · have : ys = [] := by simp only [chunks, Option.some.injEq] at h; exact h.symm
        exact nil _ this rfl rfl a0 rfl
      · obtain ⟨_, _, _, _, hrep⟩ := H.mem.at hblk hphi
        -- the values of the cells
        have gen : ∀ (l : List V) (k : Nat), (∀ (j : Nat) x, l[j]? = some x → cells[k + j]? = some x) → ∃ vs : List Value, V.repL w (SS S0 n0 φ) φ l vs ∧ Cells w b (o + k) vs := by
          intro l
          induction l with
          | nil => intro k _; exact ⟨[], rfl, fun j v hj => by simp at hj⟩
          | cons z l ih =>
            intro k hk
            obtain ⟨v, hv1, hv2, hv3⟩ := hrep k z (by simpa using hk 0 z rfl)
            obtain ⟨vs, h1, h2⟩ := ih (k + 1) (fun j x hj => by have := hk (j + 1) x (by simpa using hj); rwa [show k + 1 + j = k + (j + 1) from by omega])
            refine ⟨v :: vs, ⟨v, vs, rfl, hv3, hv2, h1⟩, fun j u hj => ?_⟩
            cases j with
            | zero => simp only [List.getElem?_cons_zero, Option.some.injEq] at hj; subst hj; exact hv1
            | succ j => have := h2 j u (by simpa using hj); rwa [show o + (k + 1) + j = o + k + (j + 1) from by omega] at this
        obtain ⟨vs, h1, h2⟩ := gen (cells.drop (off * re.size)) (off * re.size) (fun j x hj => by rwa [List.getElem?_drop] at hj)
        obtain ⟨h3, h4⟩ := chunks_rep hre.nagg _ _ _ _ h h1
        refine ⟨_, cap, _, by rw [h3], h4, fun h => (by cases h), fun ad he j u hj => ?_⟩
        simp only [Option.some.injEq] at he
        subst he
        rw [addr_add]
        rw [List.getElem?_take] at hj
        split at hj
        · exact h2 j u hj
        · cases hj
    · cases h
  · cases h

theorem repF_one {S : Nat → Prop} {es : Nat} : ∀ {xs : List D} {cs : List Value}, D.repF w S es xs cs → ∀ u, u ∈ cs → one u = true
  | [], _, h, u, hu => by simp only [D.repF] at h; subst h; simp at hu
  | x :: xs, _, ⟨v, rest, e, h1, h2, h3⟩, u, hu => by
    subst e
    rcases List.mem_append.1 hu with hu | hu
    · cases x with
      | agg cs =>
        obtain ⟨ys, rfl, hy⟩ := h1
        exact repL_all_oneD hy u (by simpa [Value.cells] using hu)
      | int | bool | str | sc | sl =>
        have ho : one v = true := D.rep_one h1 rfl
        rw [cells_one ho] at hu
        simp at hu
        subst hu
        exact ho
    · exact repF_one h3 u hu

/-- append to the call's own slice: within the capacity, or to a new row -/
theorem run_xappend_own (hL : LayOk P L) (hn : n0 ≤ w.heap.size) (H : Sim w (SS S0 n0 φ) φ s a) {t e ty : Nat} {r re : Row} (hr : (rowAt L t) = some r) (hrt : r.td = .sl e) (hre : (rowAt L e) = some re)
    {id len n : Nat} {clip : Bool} {xs ys : List D} {v y : Value} (hv : V.rep w (SS S0 n0 φ) φ (.own re.size id 0 len clip) v) (hap : apn len (llen ys) re.bytes = some n)
    {blk : Blk} (hblk : blkAt s.mem id = some blk)
    (hx : ∃ (base : Option Addr) (cap : Nat) (cs : List Value), v = .slice base xs.length cap ∧ D.repF w (SS S0 n0 φ) re.size xs cs ∧ (base = none → xs = []) ∧ ∀ ad, base = some ad → ∀ (j : Nat) u, cs[j]? = some u → w.cell? (ad.add j) = some u)
    (hlen : len = xs.length) (hvirt : φ[id]? = some none → xs = [])
    (hy : ∃ (base : Option Addr) (cap : Nat) (cs : List Value), y = .slice base ys.length cap ∧ D.repF w (SS S0 n0 φ) re.size ys cs ∧ (base = none → ys = []) ∧ ∀ ad, base = some ad → ∀ (j : Nat) u, cs[j]? = some u → w.cell? (ad.add j) = some u) :
    ∃ u w2 φ2, (Builtin.append_ #[t, t] ty #[v, y]).run P w = .ok u w2 ∧ V.rep w2 (SS S0 n0 φ2) φ2 (.own re.size id 0 n false) u ∧ Sim w2 (SS S0 n0 φ2) φ2 ⟨V.killL id s.sl, (killMem id s.mem).set id (some (.arr re.size (xs ++ ys)))⟩ a ∧ FrameTo φ w φ2 w2 := by
  have hro := hL t r hr
  have hreo := hL e re hre
  obtain ⟨d, hd, htd⟩ := hro.und
  rw [hrt] at htd
  simp only [tdOk] at htd
  subst htd
  obtain ⟨i, hi, hs, hb, zv, hzv, _, _⟩ := hreo.info
  have hid : id < s.mem.length := (List.getElem?_eq_some_iff.1 (blkAt_eq hblk)).1
  have hidp : id < φ.length := by rw [H.mem.len]; exact hid
  obtain ⟨xb, xcap, xc, rfl, hxF, hxn, hxc⟩ := hx
  obtain ⟨yb, ycap, yc, rfl, hyF, hyn, hyc⟩ := hy
  unfold apn llen at hap
  split at hap
  case isFalse => cases hap
  rename_i hbound
  simp only [Option.some.injEq] at hap
  subst hap
  have hmax : len + ys.length ≤ 9223372036854775807 := by simpa [maxLen] using hbound.2
  have hxl : xc.length = xs.length * re.size := D.repF_length hxF
  have hyl : yc.length = ys.length * re.size := D.repF_length hyF
  by_cases hroom : xs.length + ys.length ≤ xcap
  · -- within the capacity
    have hfirst : (Builtin.firstCells re.size ys.length (.slice yb ys.length ycap)).run P w = .ok yc.toArray w := by
      cases yb with
      | none =>
        have : ys = [] := hyn rfl
        subst this
        simp only [D.repF] at hyF
        subst hyF
        exact run_firstCells_none w _ _ _ _
      | some ad => exact run_firstCells_some w _ _ ad _ _ yc hyl (hyc ad rfl)
    have run1 : ∀ (w2 : World), (∀ ad, xb = some ad → (storeCells (ad.add (xs.length * re.size)) yc).run P w = .ok () w2) → (xb = none → w2 = w) → (Builtin.append_ #[t, t] ty #[.slice xb xs.length xcap, .slice yb ys.length ycap]).run P w = .ok (.slice xb (xs.length + ys.length) xcap) w2 := by
      intro w2 h1 h2
      cases xb with
      | none =>
        rw [h2 rfl]
        simp [Builtin.append_, run_underlying hd, sizeOf, typeInfo, hi, Builtin.lenOf, hroom, hs, hfirst]
      | some ad =>
        have h1' := h1 ad rfl
        simp [Builtin.append_, run_underlying hd, sizeOf, typeInfo, hi, Builtin.lenOf, hroom, hs, hfirst, h1']
    rcases hv with ⟨h0, _, a0, ha0, hanil⟩ | ⟨b, o, cap, cs, T, fz, hphi, hveq, hlc, hcm, hcl, hheap, hsz⟩
    · -- nothing there, nothing to add
      simp only [Value.slice.injEq] at ha0
      obtain ⟨rfl, hx0, rfl⟩ := ha0
      have hxs : xs = [] := List.eq_nil_of_length_eq_zero hx0
      have hys : ys = [] := List.eq_nil_of_length_eq_zero (by omega)
      subst hxs hys
      simp only [D.repF] at hyF
      subst hyF
      have C : CarryK id w (SS S0 n0 φ) φ w (SS S0 n0 φ) φ := ⟨⟨fun _ h _ => h, fun _ _ _ => rfl, Nat.le_refl _⟩, fun _ _ _ _ h => h, fun _ _ _ c T f _ _ h => ⟨c, T, f, h, Nat.le_refl _⟩⟩
      refine ⟨_, w, φ, run1 w (fun ad _ => by simp [storeCells]) (fun _ => rfl), .inl ⟨by simp [h0], rfl, _, rfl, hanil⟩, ⟨fun i => ?_, by rw [killL_length]; exact H.size, ?_, H.defers⟩, FrameTo.refl _ _⟩
      · have := H.slots i
        rw [getV_eq] at this ⊢
        rw [killL_get]
        cases hs : s.sl[i]? with
        | none => trivial
        | some x => rw [hs] at this; exact V.rep_kill C x _ this
      · refine ⟨by simp [killMem_length, H.mem.len], fun i bk hi => ?_, fun i hi => ?_, H.mem.inj⟩
        · by_cases he : i = id
          · subst he
            rw [List.getElem?_set_self (by rw [killMem_length]; exact hid)] at hi
            simp only [Option.some.injEq] at hi
            subst hi
            rcases H.mem.ent i blk (blkAt_eq hblk) with ⟨h1, _⟩ | ⟨b, o, h1, h2, h3, h4, _⟩
            · exact .inl ⟨h1, _, rfl⟩
            · exact .inr ⟨b, o, h1, h2, h3, h4, trivial⟩
          · rw [List.getElem?_set_ne (Ne.symm he), killMem_get] at hi
            cases hm : s.mem[i]? with
            | none => simp [hm] at hi
            | some ob =>
              cases ob with
              | none => simp [hm] at hi
              | some bk0 =>
                simp only [hm, Option.map_some, Option.some.injEq] at hi
                subst hi
                rcases H.mem.ent i bk0 hm with ⟨h1, es', h2⟩ | ⟨b, o, h1, h2, h3, h4, h5⟩
                · subst h2; exact .inl ⟨h1, es', rfl⟩
                · exact .inr ⟨b, o, h1, h2, h3, h4, Blk.rep_kill C rfl h5⟩
        · by_cases he : i = id
          · subst he
            rw [List.getElem?_set_self (by rw [killMem_length]; exact hid)] at hi
            cases hi
          · rw [List.getElem?_set_ne (Ne.symm he), killMem_get] at hi
            cases hm : s.mem[i]? with
            | none => simp [hm] at hi
            | some ob =>
              cases ob with
              | none => exact H.mem.dead i hm
              | some bk0 => simp [hm] at hi
    · -- the cells behind the last one are written
      simp only [Value.slice.injEq] at hveq
      obtain ⟨rfl, hxl', rfl⟩ := hveq
      simp only [Nat.zero_mul, Nat.add_zero, Nat.zero_add] at hsz run1 hxc ⊢
      obtain ⟨_, hnS, hblt, ⟨cs', T', fz', hheap', hfz⟩, _⟩ := H.mem.at hblk hphi
      rw [hheap] at hheap'
      simp only [Option.some.injEq, Obj.cells.injEq] at hheap'
      obtain ⟨rfl, rfl, rfl⟩ := hheap'
      have hle : o + xs.length * re.size + yc.length ≤ cs.size := by
        have : (xs.length + ys.length) * re.size ≤ xcap * re.size := Nat.mul_le_mul_right _ hroom
        rw [Nat.add_mul] at this
        omega
      obtain ⟨w2, h1, h2⟩ := run_storeCells (P := P) b T fz yc (o + xs.length * re.size) 0 w cs hheap hfz (by simpa using hle) (repF_one hyF)
      simp only [Nat.add_zero] at h2
      have hhas : φ.has b := ⟨id, o, hphi⟩
      have CV := carry_stored H.mem h2 hhas
      have C : CarryK id w (SS S0 n0 φ) φ w2 (SS S0 n0 φ) φ := ⟨CV.toCarry, fun i b o _ h => CV.phi i b o h, fun i b o c T f _ h k => CV.rows i b o c T f h k⟩
      have hrow2 := CV.rows id b o cs T fz hphi hheap
      obtain ⟨cs2, T2, fz2, hheap2, hsz2⟩ := hrow2
      refine ⟨_, w2, φ, run1 w2 (fun ad had => ?_) (fun h => by cases h), .inr ⟨b, o, xcap, cs2, T2, fz2, hphi, by rw [hlen]; simp, by omega, hcm, fun h => (by cases h), hheap2, by simp; omega⟩, ⟨fun i => ?_, by rw [killL_length]; exact H.size, ?_, H.defers⟩, frame_stored H.mem h2 hhas⟩
      · simp only [Option.some.injEq] at had
        subst had
        rw [addr_add]; exact h1
      · have := H.slots i
        rw [getV_eq] at this ⊢
        rw [killL_get]
        cases hs : s.sl[i]? with
        | none => trivial
        | some x => rw [hs] at this; exact V.rep_kill C x _ this
      · refine ⟨by simp [killMem_length, H.mem.len], fun i bk hi => ?_, fun i hi => ?_, H.mem.inj⟩
        · by_cases he : i = id
          · subst he
            rw [List.getElem?_set_self (by rw [killMem_length]; exact hid)] at hi
            simp only [Option.some.injEq] at hi
            subst hi
            obtain ⟨c3, T3, f3, c4, k1, k2, k3, k4⟩ := h2.row
            rw [hheap] at k1
            simp only [Option.some.injEq, Obj.cells.injEq] at k1
            obtain ⟨rfl, rfl, rfl⟩ := k1
            refine .inr ⟨b, o, hphi, hnS, by rw [h2.size]; exact hblt, ⟨c4, T, fz, k2, fun i hi => hfz i (by omega)⟩, ?_⟩
            refine D.repE_iff.2 ⟨xc ++ yc, D.repF_append (D.repF_mono C.toCarry hxF) (D.repF_mono C.toCarry hyF), Cells.append.2 ⟨fun j u hj => ?_, fun j u hj => ?_⟩⟩
            · have hlt := (List.getElem?_eq_some_iff.1 hj).1
              rw [h2.cell_same (.inr (.inl (by omega)))]
              have := hxc _ rfl j u hj
              rwa [addr_add] at this
            · rw [hxl, h2.cell_new j (List.getElem?_eq_some_iff.1 hj).1]
              exact hj
          · rw [List.getElem?_set_ne (Ne.symm he), killMem_get] at hi
            cases hm : s.mem[i]? with
            | none => simp [hm] at hi
            | some ob =>
              cases ob with
              | none => simp [hm] at hi
              | some bk0 =>
                simp only [hm, Option.map_some, Option.some.injEq] at hi
                subst hi
                rcases H.mem.ent i bk0 hm with ⟨h1, es', h3⟩ | ⟨b', o', h3, h4, h5, ⟨c6, T6, f6, h6, h7⟩, h8⟩
                · subst h3; exact .inl ⟨h1, es', rfl⟩
                · have hne : b' ≠ b := fun hh => he (H.mem.inj i id b' o' o h3 (hh ▸ hphi))
                  exact .inr ⟨b', o', h3, h4, by rw [h2.size]; exact h5, ⟨c6, T6, f6, by rw [h2.other b' hne]; exact h6, h7⟩, Blk.rep_kill C (h2.other b' hne) h8⟩
        · by_cases he : i = id
          · subst he
            rw [List.getElem?_set_self (by rw [killMem_length]; exact hid)] at hi
            cases hi
          · rw [List.getElem?_set_ne (Ne.symm he), killMem_get] at hi
            cases hm : s.mem[i]? with
            | none => simp [hm] at hi
            | some ob =>
              cases ob with
              | none => exact H.mem.dead i hm
              | some bk0 => simp [hm] at hi
  · -- a new row
    have hyb : ∃ ad, yb = some ad := by
      cases yb with
      | none =>
        have : ys = [] := hyn rfl
        subst this
        rcases hv with ⟨_, _, a0, ha0, _⟩ | ⟨b, o, cap, cs, T, fz, _, hveq, hlc, _⟩
        · simp only [Value.slice.injEq] at ha0
          simp at hroom; omega
        · simp only [Value.slice.injEq] at hveq
          simp at hroom; omega
      | some ad => exact ⟨ad, rfl⟩
    obtain ⟨yad, rfl⟩ := hyb
    have hb' : (xs.length + ys.length) * i.bytes ≤ 70368744177664 := by rw [hb, ← hlen]; exact hbound.1
    have hcap : ∀ (z : Nat) (old : Nat), z = (Builtin.zeroCells zv.cells (grownCap w (xs.length + ys.length) old e - (xs.length + ys.length))).size → z = (grownCap w (xs.length + ys.length) old e - (xs.length + ys.length)) * zv.cells.size := fun z old hz => by rw [hz, size_zeroCells]
    have hzsz : zv.cells.size = re.size := by
      obtain ⟨i2, hi2, _, _, z2, hz2, hz3, _⟩ := hreo.info
      rw [hi] at hi2
      simp only [Option.some.injEq] at hi2
      subst hi2
      rw [hzv] at hz2
      simp only [Option.some.injEq] at hz2
      subst hz2
      have := congrArg List.length hz3
      simpa [hreo.zlen] using this
    have fin : ∀ (old : Nat) (res : Result Value), old < xs.length + ys.length → (res = .ok (.slice (some ⟨w.heap.size, 0, none⟩) (xs.length + ys.length) (grownCap w (xs.length + ys.length) old e)) (w.drew.alloc (.cells (xc.toArray ++ yc.toArray ++ Builtin.zeroCells zv.cells (grownCap w (xs.length + ys.length) old e - (xs.length + ys.length))) e))) →
        ∃ u w2 φ2, res = .ok u w2 ∧ V.rep w2 (SS S0 n0 φ2) φ2 (.own re.size id 0 (len + ys.length) false) u ∧ Sim w2 (SS S0 n0 φ2) φ2 ⟨V.killL id s.sl, (killMem id s.mem).set id (some (.arr re.size (xs ++ ys)))⟩ a ∧ FrameTo φ w φ2 w2 := by
      intro old res _ hres
      obtain ⟨h1, h2⟩ := sim_replace (es := re.size) (rest := (Builtin.zeroCells zv.cells (grownCap w (xs.length + ys.length) old e - (xs.length + ys.length))).toList) hn H hid (xc.toArray ++ yc.toArray ++ Builtin.zeroCells zv.cells (grownCap w (xs.length + ys.length) old e - (xs.length + ys.length))) e (D.repF_append hxF hyF) (by apply Array.ext'; simp)
      have hge := grownCap_ge w (xs.length + ys.length) old e
      refine ⟨_, _, _, hres, .inr ⟨w.heap.size, 0, grownCap w (xs.length + ys.length) old e, _, _, _, by rw [phi_set hidp, if_pos rfl], by rw [hlen]; simp, by omega, grownCap_le_maxLen w _ old e (by rw [← hlen]; exact hbound.2), fun h => (by cases h), heap_alloc_at w.drew _, ?_⟩, h1, h2⟩
      simp only [Array.size_append, List.size_toArray, size_zeroCells, hzsz, hxl, hyl, Nat.zero_add, ← Nat.add_mul]
      refine Nat.le_of_eq ?_
      congr 1
      omega
    cases xb with
    | none =>
      have hxs : xs = [] := hxn rfl
      subst hxs
      simp only [D.repF] at hxF
      subst hxF
      have hx0 : xcap = 0 := by
        rcases hv with ⟨_, _, a0, ha0, _⟩ | ⟨b, o, cap, cs, T, fz, _, hveq, _⟩
        · simp only [Value.slice.injEq] at ha0; exact ha0.2.2
        · simp only [Value.slice.injEq] at hveq
          cases hveq.1
      subst hx0
      have hr0 := run_append_nil (P := P) w t ty e i zv hd hi hzv yad ys.length ycap yc (by rw [hs]; exact hyl) (hyc yad rfl) (by have := hroom; simp only [List.length_nil] at this; omega) (by omega) (by have := hb'; simp only [List.length_nil, Nat.zero_add] at this; omega)
      have := fin 0 _ (by have := hroom; simp only [List.length_nil] at this ⊢; omega) (by simpa using hr0)
      simpa using this
    | some xad =>
      have hr0 := run_append_grow (P := P) w t ty e i zv hd hi hzv xad xs.length xcap xc (by rw [hs]; exact hxl) (hxc xad rfl) yad ys.length ycap yc (by rw [hs]; exact hyl) (hyc yad rfl) (by omega) (by omega) (growslice_fits (by omega) (by omega))
      exact fin xcap _ (by omega) hr0
end
end Go.Proofs.Ytblmoikhfmkfnaa
